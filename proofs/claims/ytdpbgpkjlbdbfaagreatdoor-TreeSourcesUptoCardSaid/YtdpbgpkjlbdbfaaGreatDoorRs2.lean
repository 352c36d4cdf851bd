/-
  A schema's value, the program: item, fieldKind. A schema's value, the reference: has, keyFault, allStrings, textsOf, fieldOf.
-/
import Derived.Test.YtdpbgpkjlbdbfaaGreatDoorRs0
namespace Go.Proofs.YtdpbgpkjlbdbfaaGreatDoor
open Go.RowKit
set_option linter.unusedVariables false
set_option linter.unusedSimpArgs false
namespace rs
theorem item_lt {v : Vu} (hf : faultE v = 0) {k : ByteArray} (h : hasK v k = true) : findK v k < v.items.length := by
  obtain ⟨h1, h2⟩ := has_key h
  obtain ⟨_, h3⟩ := fault_keys hf
  by_cases h6 : v.kind = 6
  · rw [← h3 h6]; exact h1
  · have h4 := (head_ok (fault_head hf).1).1
    have : v.keys.length = 0 := by
      unfold unusedP at h4
      grind
    omega
section
variable (E : Env)
set_option maxRecDepth 100000
theorem bo_t {p : Prop} {r : Bool} (hr : r = true ↔ p) (h : p) : true = r := (hr.2 h).symm
theorem bo_f {p : Prop} {r : Bool} (hr : r = true ↔ p) (h : ¬ p) : false = r := by
  cases r
  · rfl
  · exact absurd (hr.1 rfl) h
theorem bad_nil : badStr ⟨#[]⟩ = false := by
  unfold badStr
  rfl
theorem zero_fault : faultE Vu.zero = 0 := by
  have h : headE Vu.zero = 0 := by
    unfold headE
    rw [if_neg (by decide), if_neg (by unfold unusedP; decide), if_neg (by intro h; exact absurd h.1 (by decide)), if_neg (by decide), if_neg (by rw [show Vu.zero.text = ⟨#[]⟩ from rfl, bad_nil]; decide), keysFrom_end (by decide)]
  rw [faultE_eq, if_pos h]
  simp [faultL, Vu.zero, Vu.items]
theorem item_fault {v : Vu} (hf : faultE v = 0) (k : ByteArray) : faultE (itemK v k) = 0 := by
  unfold itemK getK
  cases h : hasK v k
  · rw [if_neg (by decide)]; exact zero_fault
  · rw [if_pos rfl]; exact fault_mem hf (item_lt hf h)
theorem item_wt {v : Vu} (hf : faultE v = 0) (k : ByteArray) : (itemK v k).wt ≤ v.wt + 1 := by
  unfold itemK getK
  cases h : hasK v k
  · rw [if_neg (by decide)]
    exact Nat.le_add_left _ _
  · rw [if_pos rfl]
    have h1 := wt_mem v.items _ (getD_mem v.items .zero (findK v k) (item_lt hf h))
    have h2 := wtL_le_wt v
    show (v.items.getD (findK v k) .zero).wt ≤ _
    omega
end
end rs
end Go.Proofs.YtdpbgpkjlbdbfaaGreatDoor
namespace Go.Proofs.YtdpbgpkjlbdbfaaGreatDoor
open Go.RowKit
set_option linter.unusedVariables false
set_option linter.unusedSimpArgs false
namespace rs
/-- A key that is not known; an item of another kind. -/
def unkN (kn : ByteArray → Bool) (v : Vu) : Nat → Bool
  | 0 => false
  | n + 1 => unkN kn v n || !kn (v.keys.getD n ⟨#[]⟩)
def wroB (kn : ByteArray → Bool) (kd : ByteArray → Int) (v : Vu) (n : Nat) : Bool := kn (v.keys.getD n ⟨#[]⟩) && (decide (kd (v.keys.getD n ⟨#[]⟩) ≠ -1) && decide ((v.items.getD n .zero).kind ≠ kd (v.keys.getD n ⟨#[]⟩)))
def wroN (kn : ByteArray → Bool) (kd : ByteArray → Int) (v : Vu) : Nat → Bool
  | 0 => false
  | n + 1 => wroN kn kd v n || wroB kn kd v n
theorem kind_six {v : Vu} (hf : faultE v = 0) (h : 0 < v.keys.length) : v.kind = 6 := by
  have h4 := (head_ok (fault_head hf).1).1
  refine Classical.byContradiction fun h6 => ?_
  have : v.keys.length = 0 := by
    unfold unusedP at h4
    grind
  omega
/-- The first place with p from a place on; -1: none. -/
def idxF {α : Type} (d : α) (p : α → Bool) (l : List α) (k : Nat) : Int := if k < l.length then (if p (l.getD k d) = true then (k : Int) else idxF d p l (k + 1)) else -1
  termination_by l.length - k
theorem idxF_any {α : Type} (d : α) (p : α → Bool) (l : List α) : ∀ (n k : Nat), l.length - k < n → decide (0 ≤ idxF d p l k) = (l.drop k).any p
  | 0, k, h => by omega
  | n + 1, k, h => by
    rw [idxF]
    split
    · rename_i h1
      rw [drop_cons l d k h1, List.any_cons]
      split
      · rename_i h2
        rw [h2, decide_eq_true (by omega)]; rfl
      · rename_i h2
        rw [idxF_any d p l n (k + 1) (by omega), (by simpa using h2 : p (l.getD k d) = false), Bool.false_or]
    · rw [List.drop_of_length_le (by omega)]
      rfl
section
variable (E : Env)
set_option maxRecDepth 100000
theorem has_sp (v : Vu) (k : ByteArray) (hf : faultE v = 0) : Sp (cx Tryz.prog mixed tyT_ok E) 191 [encV v, dS k] (.tup [encV (itemK v k), dB (hasK v k)]) := by
  have h1 := index_sp E v.keys k
  have hlt := @item_lt v hf k
  have hk := @has_key v k
  rcases idx_find (fault_keys hf).1 k with ⟨e1, e2⟩ | ⟨e1, e2⟩
  · rw [e1] at h1
    unfold itemK getK
    rw [e2]
    refine Sp.body Tryz.func191 (by kernel_rfl) rfl (by kernel_rfl) (by kernel_rfl) (by kernel_rfl) ?_
    repeat' first
      | (refine facW_intro ?_; intro _)
      | refine Or.inl ?_
      | ((conv => whnf); first | (refine condW_dec ?_ ?_ <;> intro _ <;> try (exfalso; omega)) | refine condW_not ?_ | (refine condW_bool ?_ ?_ <;> intro _ <;> try (exfalso; omega)) | (refine nbC_t (fun _ => ?_) ?_) | (refine nbC_f ?_ (fun _ => ?_)))
      | refine And.intro (by first | omega | (simp only [Int.toNat_natCast] at *; omega) | (simp only [Nat.reduceAdd, Int.cast_ofNat_Int, true_and, and_true]; omega) | kernel_rfl) ?_
      | refine RegW.run ?_
      | refine ⟨_, h1, ?_⟩
      | fail
    all_goals first
      | exact Dle.tup (X := (cx Tryz.prog mixed tyT_ok E)) ⟨zeroC E, Dle.refl _ _, trivial⟩
      | trace_state
  · rw [e1] at h1
    unfold itemK getK
    rw [e2]
    have hlt := hlt e2
    have h6 := kind_six hf (by have := (hk e2).1; omega)
    refine Sp.body Tryz.func191 (by kernel_rfl) rfl (by kernel_rfl) (by kernel_rfl) (by kernel_rfl) ?_
    repeat' first
      | (refine facW_intro ?_; intro _)
      | refine Or.inl ?_
      | ((conv => whnf); first | (refine condW_dec ?_ ?_ <;> intro _ <;> try (exfalso; omega)) | refine condW_not ?_ | (refine condW_bool ?_ ?_ <;> intro _ <;> try (exfalso; omega)) | (refine nbC_t (fun _ => ?_) ?_) | (refine nbC_f ?_ (fun _ => ?_)))
      | refine And.intro (by first | omega | (simp only [Int.toNat_natCast] at *; omega) | (simp only [Nat.reduceAdd, Int.cast_ofNat_Int, true_and, and_true]; omega) | kernel_rfl) ?_
      | refine RegW.run ?_
      | refine ⟨_, h1, ?_⟩
      | fail
    all_goals first
      | exact Dle.tup (X := (cx Tryz.prog mixed tyT_ok E)) ⟨Dle.refl _ _, Dle.refl _ _, trivial⟩
      | trace_state
def strB (v : Vu) : Bool := decide (v.kind = 5) && !v.items.any (fun x => decide (x.kind ≠ 3))
theorem notStr_sp (x : Vu) : Sp (cx Tryz.prog mixed tyT_ok E) 279 [encV x] (dB (decide (x.kind ≠ 3))) := by
  refine Sp.body Tryz.func279 (by kernel_rfl) rfl (by kernel_rfl) (by kernel_rfl) (by kernel_rfl) ?_
  repeat' first
    | (refine facW_intro ?_; intro _)
    | refine Or.inl ?_
    | ((conv => whnf); first | (refine condW_dec ?_ ?_ <;> intro _ <;> try (exfalso; omega)) | refine condW_not ?_ | (refine condW_bool ?_ ?_ <;> intro _ <;> try (exfalso; omega)) | (refine nbC_t (fun _ => ?_) ?_) | (refine nbC_f ?_ (fun _ => ?_)))
    | refine And.intro (by first | omega | (simp only [Int.toNat_natCast] at *; omega) | (simp only [Nat.reduceAdd, Int.cast_ofNat_Int, true_and, and_true]; omega) | kernel_rfl) ?_
    | refine RegW.run ?_
    | fail
  all_goals first
    | exact Dle.bo (by simp)
    | exact Dle.refl _ _
    | trace_state
theorem indexFs_sp (l : List Vu) : Sp (cx Tryz.prog mixed tyT_ok E) 280 [.rc (.vals l), .fn 279 []] (i64 (idxF .zero (fun x => decide (x.kind ≠ 3)) l 0)) := by
  obtain ⟨r, hr⟩ : ∃ r, r = idxF .zero (fun x : Vu => decide (x.kind ≠ 3)) l 0 := ⟨_, rfl⟩
  rw [← hr]
  refine Sp.body Tryz.func280 (by kernel_rfl) rfl (by kernel_rfl) (by kernel_rfl) (by kernel_rfl) ?_
  repeat' first
    | (refine facW_intro ?_; intro _)
    | refine Or.inl ?_
    | ((conv => whnf); first | (refine condW_dec ?_ ?_ <;> intro _) | refine condW_not ?_ | (refine condW_bool ?_ ?_ <;> intro _) | (refine nbC_t (fun _ => ?_) ?_) | (refine nbC_f ?_ (fun _ => ?_)))
    | refine And.intro (by first | omega | (simp only [Int.toNat_natCast] at *; omega) | (simp only [Nat.reduceAdd, Int.cast_ofNat_Int, true_and, and_true]; omega) | kernel_rfl) ?_
    | refine RegW.run ?_
    | fail
  refine ⟨Nat, fun k => [(8, i64 k)], fun k => [], [], fun k => [], fun k => k ≤ l.length ∧ r = idxF .zero (fun x : Vu => decide (x.kind ≠ 3)) l k, fun k => l.length - k, ⟨0, ⟨by omega, hr⟩, ⟨[], ⟨by kernel_rfl, by kernel_rfl, by kernel_rfl, by kernel_rfl, by kernel_rfl, by kernel_rfl, by kernel_rfl⟩, (by repeat' first | exact trivial | exact rfl | kernel_rfl | exact Dle.of_eq rfl | exact MLe.of_eq rfl | exact Dle.i (by omega) | exact Dle.i (by simp only [Int.toNat_natCast] at *; omega) | exact Dle.nil | exact Dle.rc Dle.nil | exact Option.some_ne_none _ | exact Or.inl rfl | exact Or.inr trivial | omega | (simp only [Int.toNat_natCast] at *; omega) | (intro _ _ _ _; exact Dle.of_eq rfl) | refine And.intro ?_ ?_)⟩⟩, fun k hk => ?_⟩
  obtain ⟨hk, hK⟩ := hk
  rw [idxF] at hK
  by_cases hlt : k < l.length
  · rw [if_pos hlt] at hK
    have h1 := notStr_sp E (l.getD k .zero)
    generalize decide ((l.getD k .zero).kind ≠ 3) = b at h1 hK
    cases b
    · repeat' first
        | (refine facW_intro ?_; intro _)
        | refine Or.inl ?_
        | ((conv => whnf); first | (refine condW_dec ?_ ?_ <;> intro _ <;> try (exfalso; omega)) | refine condW_not ?_ | (refine condW_bool ?_ ?_ <;> intro _ <;> try (exfalso; omega)) | (refine nbC_t (fun _ => ?_) ?_) | (refine nbC_f ?_ (fun _ => ?_)))
        | refine And.intro (by first | omega | (simp only [Int.toNat_natCast] at *; omega) | (simp only [Nat.reduceAdd, Int.cast_ofNat_Int, true_and, and_true]; omega) | kernel_rfl) ?_
        | refine RegW.run ?_
        | refine ⟨_, h1, ?_⟩
        | fail
      all_goals first
        | exact ⟨k + 1, ⟨by omega, hK⟩, ⟨[], ⟨by kernel_rfl, by kernel_rfl, by kernel_rfl, by kernel_rfl, by kernel_rfl, by kernel_rfl, by kernel_rfl⟩, (by repeat' first | exact trivial | exact rfl | kernel_rfl | exact Dle.of_eq rfl | exact MLe.of_eq rfl | exact Dle.i (by omega) | exact Dle.i (by simp only [Int.toNat_natCast] at *; omega) | exact Dle.nil | exact Dle.rc Dle.nil | exact Option.some_ne_none _ | exact Or.inl rfl | exact Or.inr trivial | omega | (simp only [Int.toNat_natCast] at *; omega) | (intro _ _ _ _; exact Dle.of_eq rfl) | refine And.intro ?_ ?_)⟩, by first | omega | (dsimp only; omega)⟩
        | trace_state
    · repeat' first
        | (refine facW_intro ?_; intro _)
        | refine Or.inl ?_
        | ((conv => whnf); first | (refine condW_dec ?_ ?_ <;> intro _ <;> try (exfalso; omega)) | refine condW_not ?_ | (refine condW_bool ?_ ?_ <;> intro _ <;> try (exfalso; omega)) | (refine nbC_t (fun _ => ?_) ?_) | (refine nbC_f ?_ (fun _ => ?_)))
        | refine And.intro (by first | omega | (simp only [Int.toNat_natCast] at *; omega) | (simp only [Nat.reduceAdd, Int.cast_ofNat_Int, true_and, and_true]; omega) | kernel_rfl) ?_
        | refine RegW.run ?_
        | refine ⟨_, h1, ?_⟩
        | fail
      all_goals first
        | exact Dle.i hK.symm
        | trace_state
  · rw [if_neg hlt] at hK
    repeat' first
      | (refine facW_intro ?_; intro _)
      | refine Or.inl ?_
      | ((conv => whnf); first | (refine condW_dec ?_ ?_ <;> intro _ <;> try (exfalso; omega)) | refine condW_not ?_ | (refine condW_bool ?_ ?_ <;> intro _ <;> try (exfalso; omega)) | (refine nbC_t (fun _ => ?_) ?_) | (refine nbC_f ?_ (fun _ => ?_)))
      | refine And.intro (by first | omega | (simp only [Int.toNat_natCast] at *; omega) | (simp only [Nat.reduceAdd, Int.cast_ofNat_Int, true_and, and_true]; omega) | kernel_rfl) ?_
      | refine RegW.run ?_
      | fail
    all_goals first
      | exact Dle.i hK.symm
      | trace_state
theorem containsFs_sp (l : List Vu) : Sp (cx Tryz.prog mixed tyT_ok E) 243 [.rc (.vals l), .fn 279 []] (dB (l.any fun x => decide (x.kind ≠ 3))) := by
  have hi := indexFs_sp E l
  have e := idxF_any .zero (fun x : Vu => decide (x.kind ≠ 3)) l (l.length + 1) 0 (by omega)
  rw [List.drop_zero] at e
  rw [← e]
  generalize idxF .zero (fun x : Vu => decide (x.kind ≠ 3)) l 0 = r at hi
  refine Sp.body Tryz.func243 (by kernel_rfl) rfl (by kernel_rfl) (by kernel_rfl) (by kernel_rfl) ?_
  repeat' first
    | (refine facW_intro ?_; intro _)
    | refine Or.inl ?_
    | ((conv => whnf); first | (refine condW_dec ?_ ?_ <;> intro _) | refine condW_not ?_ | (refine condW_bool ?_ ?_ <;> intro _) | (refine nbC_t (fun _ => ?_) ?_) | (refine nbC_f ?_ (fun _ => ?_)))
    | refine And.intro (by first | omega | (simp only [Int.toNat_natCast] at *; omega) | (simp only [Nat.reduceAdd, Int.cast_ofNat_Int, true_and, and_true]; omega) | kernel_rfl) ?_
    | refine RegW.run ?_
    | refine ⟨_, hi, ?_⟩
    | fail
  all_goals exact Dle.refl _ _
theorem allStrings_sp (v : Vu) : Sp (cx Tryz.prog mixed tyT_ok E) 242 [encV v] (dB (strB v)) := by
  have h1 := containsFs_sp E v.items
  unfold strB
  generalize (v.items.any fun x => decide (x.kind ≠ 3)) = b at h1
  cases b
  · refine Sp.body Tryz.func242 (by kernel_rfl) rfl (by kernel_rfl) (by kernel_rfl) (by kernel_rfl) ?_
    repeat' first
      | (refine facW_intro ?_; intro _)
      | refine Or.inl ?_
      | ((conv => whnf); first | (refine condW_dec ?_ ?_ <;> intro _ <;> try (exfalso; omega)) | refine condW_not ?_ | (refine condW_bool ?_ ?_ <;> intro _ <;> try (exfalso; omega)) | (refine nbC_t (fun _ => ?_) ?_) | (refine nbC_f ?_ (fun _ => ?_)))
      | refine And.intro (by first | omega | (simp only [Int.toNat_natCast] at *; omega) | (simp only [Nat.reduceAdd, Int.cast_ofNat_Int, true_and, and_true]; omega) | kernel_rfl) ?_
      | refine RegW.run ?_
      | refine ⟨_, h1, ?_⟩
      | fail
    all_goals first
      | exact Dle.bo (by simp_all)
      | exact Dle.refl _ _
      | trace_state
  · refine Sp.body Tryz.func242 (by kernel_rfl) rfl (by kernel_rfl) (by kernel_rfl) (by kernel_rfl) ?_
    repeat' first
      | (refine facW_intro ?_; intro _)
      | refine Or.inl ?_
      | ((conv => whnf); first | (refine condW_dec ?_ ?_ <;> intro _ <;> try (exfalso; omega)) | refine condW_not ?_ | (refine condW_bool ?_ ?_ <;> intro _ <;> try (exfalso; omega)) | (refine nbC_t (fun _ => ?_) ?_) | (refine nbC_f ?_ (fun _ => ?_)))
      | refine And.intro (by first | omega | (simp only [Int.toNat_natCast] at *; omega) | (simp only [Nat.reduceAdd, Int.cast_ofNat_Int, true_and, and_true]; omega) | kernel_rfl) ?_
      | refine RegW.run ?_
      | refine ⟨_, h1, ?_⟩
      | fail
    all_goals first
      | exact Dle.bo (by simp_all)
      | exact Dle.refl _ _
      | trace_state
end
end rs
end Go.Proofs.YtdpbgpkjlbdbfaaGreatDoor
