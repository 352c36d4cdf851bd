/-
  Items of a table by key: slices.Index, tree.setting, the reference's has; whether a page is hidden.
-/
import Derived.Test.YtfbelaifhgnnlaaDoorF7
namespace Go.Proofs.YtfbelaifhgnnlaaDoor
open Go.RowKit
set_option linter.unusedVariables false
set_option linter.unusedSimpArgs false

/-- Where a string first stands on a list, from an index on. -/
def idxFrom (l : List ByteArray) (key : ByteArray) (k : Nat) : Nat :=
  if k < l.length then (if l.getD k ⟨#[]⟩ = key then k else idxFrom l key (k + 1)) else l.length
termination_by l.length - k
theorem idxFrom_end {l : List ByteArray} {key : ByteArray} {k : Nat} (h : ¬ k < l.length) : idxFrom l key k = l.length := by rw [idxFrom, if_neg h]
theorem idxFrom_hit {l : List ByteArray} {key : ByteArray} {k : Nat} (h : k < l.length) (g : l.getD k ⟨#[]⟩ = key) : idxFrom l key k = k := by rw [idxFrom, if_pos h, if_pos g]
theorem idxFrom_next {l : List ByteArray} {key : ByteArray} {k : Nat} (h : k < l.length) (g : ¬ l.getD k ⟨#[]⟩ = key) : idxFrom l key k = idxFrom l key (k + 1) := by rw [idxFrom, if_pos h, if_neg g]
/-- Whether a table has a key; its item. -/
def hasB (v : Vu) (key : ByteArray) : Bool := decide (v.kind = 6 ∧ idxFrom v.keys key 0 < v.keys.length ∧ idxFrom v.keys key 0 < v.items.length)
def hasV (v : Vu) (key : ByteArray) : Vu := bif hasB v key then v.items.getD (idxFrom v.keys key 0) .zero else .zero
theorem hasV_yes {v : Vu} {key : ByteArray} (h : hasB v key = true) : hasV v key = v.items.getD (idxFrom v.keys key 0) .zero := by unfold hasV; rw [h]; rfl
theorem hasV_no {v : Vu} {key : ByteArray} (h : hasB v key = false) : hasV v key = .zero := by unfold hasV; rw [h]; rfl
theorem hasB_kind {v : Vu} {key : ByteArray} (h : v.kind ≠ 6) : hasB v key = false := decide_eq_false (fun g => h g.1)
theorem zero_kind : Vu.kind .zero = 0 := rfl

section
variable (E : Env)
set_option maxRecDepth 100000
theorem dle_zero : Dle (cx Tryd.prog mixed tyT_ok E) (.agg [.v (.int .i64 0), .v (.bool false), .v (.int .i64 0), .v (.string ⟨#[]⟩), .v (.slice none 0 0), .v (.slice none 0 0)]) (encV .zero) :=
  Dle.agg (X := (cx Tryd.prog mixed tyT_ok E)) ⟨Dle.refl _ _, Dle.refl _ _, Dle.refl _ _, Dle.refl _ _, Dle.rc (X := (cx Tryd.prog mixed tyT_ok E)) Dle.nil, Dle.nil, trivial⟩
theorem sIndex_sp (l : List ByteArray) (key : ByteArray) : Sp (cx Tryd.prog mixed tyT_ok E) 71 [encStrs l, dS key] (i64 (if idxFrom l key 0 < l.length then (idxFrom l key 0 : Nat) else -1)) := by
  refine Sp.body Tryd.func71 (by kernel_rfl) rfl rfl (by kernel_rfl) ?_
  refine fun hl => ?_
  refine ⟨Nat, fun k => [(8, i64 k, none)], fun _ => [], [], [], fun k => k ≤ l.length ∧ idxFrom l key 0 = idxFrom l key k, fun k => l.length - k, ⟨0, ⟨by omega, rfl⟩, (by repeat' first | exact trivial | exact rfl | exact Dle.of_eq rfl | exact Dle.i (by omega) | exact Dle.i (by simp only [Int.toNat_natCast] at *; omega) | exact Dle.nil | exact Or.inl rfl | exact Or.inr trivial | refine And.intro ?_ ?_)⟩, fun k hk => ?_⟩
  obtain ⟨hk, hK⟩ := hk
  repeat' first
    | (refine facW_intro ?_; intro _)
    | refine Or.inl ?_
    | ((conv => whnf); first | (refine condW_dec ?_ ?_ <;> intro _) | refine condW_not ?_ | (refine condW_bool ?_ ?_ <;> intro _))
    | refine And.intro (by first | omega | (simp only [Int.toNat_natCast] at *; omega) | kernel_rfl) ?_
    | refine RegW.run ?_
    | fail
  all_goals simp only [Int.toNat_natCast] at *
  · exact Dle.i (by rw [hK, idxFrom_hit (by omega) (Eq.symm (by assumption)), if_pos (by omega)])
  · exact ⟨k + 1, ⟨by omega, by rw [hK, idxFrom_next (by omega) (fun h => by simp_all)]⟩, (by repeat' first | exact trivial | exact rfl | exact Dle.of_eq rfl | exact Dle.i (by omega) | exact Dle.i (by simp only [Int.toNat_natCast] at *; omega) | exact Dle.nil | exact Or.inl rfl | exact Or.inr trivial | refine And.intro ?_ ?_), by first | omega | (dsimp only; omega)⟩
  · exact Dle.i (by rw [hK, idxFrom_end (by omega), if_neg (by omega)])
theorem has_sp (v : Vu) (key : ByteArray) : Sp (cx Tryd.prog mixed tyT_ok E) 52 [encV v, dS key] (.tup [encV (hasV v key), dB (hasB v key)]) := by
  have hle : idxFrom v.keys key 0 < v.keys.length ∨ ¬ idxFrom v.keys key 0 < v.keys.length := by omega
  refine Sp.body Tryd.func52 (by kernel_rfl) rfl rfl (by kernel_rfl) ?_
  repeat' first
    | (refine facW_intro ?_; intro _)
    | refine Or.inl ?_
    | ((conv => whnf); first | (refine condW_dec ?_ ?_ <;> intro _) | refine condW_not ?_ | (refine condW_bool ?_ ?_ <;> intro _))
    | refine And.intro (by first | omega | (simp only [Int.toNat_natCast] at *; omega) | kernel_rfl) ?_
    | refine RegW.run ?_
    | refine ⟨_, sIndex_sp E v.keys key, ?_⟩
    | fail
  all_goals simp only [Int.toNat_natCast] at *
  all_goals first
    | (have hB : hasB v key = false := by unfold hasB; grind
       exact Dle.tup (X := (cx Tryd.prog mixed tyT_ok E)) ⟨by rw [hasV_no hB]; exact dle_zero E, Dle.bo (by rw [hB]), trivial⟩)
    | (have hB : hasB v key = true := by unfold hasB; grind
       have he : ((if idxFrom v.keys key 0 < v.keys.length then ((idxFrom v.keys key 0 : Nat) : Int) else -1)).toNat = idxFrom v.keys key 0 := by grind
       rw [he]
       exact Dle.tup (X := (cx Tryd.prog mixed tyT_ok E)) ⟨by rw [hasV_yes hB]; exact Dle.refl _ _, Dle.bo (by rw [hB]), trivial⟩)
    | trace_state
theorem setting_sp (v : Vu) (key : ByteArray) (K : Int) (hv : v.kind = 6 → v.keys.length = v.items.length) : Sp (cx Tryd.prog mixed tyT_ok E) 84 [encV v, dS key, i64 K] (.tup [encV (hasV v key), dB (hasB v key && decide ((hasV v key).kind = K))]) := by
  refine Sp.body Tryd.func84 (by kernel_rfl) rfl rfl (by kernel_rfl) ?_
  repeat' first
    | (refine facW_intro ?_; intro _)
    | refine Or.inl ?_
    | ((conv => whnf); first | (refine condW_dec ?_ ?_ <;> intro _) | refine condW_not ?_ | (refine condW_bool ?_ ?_ <;> intro _))
    | refine And.intro (by first | omega | (simp only [Int.toNat_natCast] at *; omega) | kernel_rfl) ?_
    | refine RegW.run ?_
    | fail
  rotate_left
  · rename_i h6
    have hB : hasB v key = false := hasB_kind h6
    exact Dle.tup (X := (cx Tryd.prog mixed tyT_ok E)) ⟨by rw [hasV_no hB]; exact dle_zero E, Dle.bo (by rw [hB]; rfl), trivial⟩
  rename_i h6 hl
  have hv := hv h6
  refine ⟨Nat, fun k => [(17, i64 k, none)], fun _ => [], [3, 6], [], fun k => k ≤ v.keys.length ∧ idxFrom v.keys key 0 = idxFrom v.keys key k, fun k => v.keys.length - k, ⟨0, ⟨by omega, rfl⟩, (by repeat' first | exact trivial | exact rfl | exact Dle.of_eq rfl | exact Dle.i (by omega) | exact Dle.i (by simp only [Int.toNat_natCast] at *; omega) | exact Dle.nil | exact Or.inl rfl | exact Or.inr trivial | refine And.intro ?_ ?_)⟩, fun k hk => ?_⟩
  obtain ⟨hk, hK⟩ := hk
  repeat' first
    | (refine facW_intro ?_; intro _)
    | refine Or.inl ?_
    | ((conv => whnf); first | (refine condW_dec ?_ ?_ <;> intro _) | refine condW_not ?_ | (refine condW_bool ?_ ?_ <;> intro _))
    | refine And.intro (by first | omega | (simp only [Int.toNat_natCast] at *; omega) | kernel_rfl) ?_
    | refine RegW.run ?_
    | fail
  all_goals simp only [Int.toNat_natCast] at *
  · rename_i hlt heq
    have hi := idxFrom_hit (by omega) heq
    have hB : hasB v key = true := by unfold hasB; rw [hK, hi]; simp; omega
    have e : hasV v key = v.items.getD k .zero := by rw [hasV_yes hB, hK, hi]
    exact Dle.tup (X := (cx Tryd.prog mixed tyT_ok E)) ⟨by rw [e]; exact Dle.refl _ _, Dle.bo (by rw [hB, e]; rfl), trivial⟩
  · exact ⟨k + 1, ⟨by omega, by rw [hK, idxFrom_next (by omega) (by assumption)]⟩, (by repeat' first | exact trivial | exact rfl | exact Dle.of_eq rfl | exact Dle.i (by omega) | exact Dle.i (by simp only [Int.toNat_natCast] at *; omega) | exact Dle.nil | exact Or.inl rfl | exact Or.inr trivial | refine And.intro ?_ ?_), by first | omega | (dsimp only; omega)⟩
  · have hB : hasB v key = false := by unfold hasB; rw [hK, idxFrom_end (by omega)]; simp
    exact Dle.tup (X := (cx Tryd.prog mixed tyT_ok E)) ⟨by rw [hasV_no hB]; exact dle_zero E, Dle.bo (by rw [hB]; rfl), trivial⟩
/-- What a table says of days. -/
def hidF (f : ByteArray → Vu) (day : Int) : Bool :=
  decide ((f ⟨#[100, 114, 97, 102, 116]⟩).kind = 1 ∧ (f ⟨#[100, 114, 97, 102, 116]⟩).b = true) ||
  decide ((f ⟨#[101, 120, 112, 105, 114, 101]⟩).kind = 4 ∧ (f ⟨#[101, 120, 112, 105, 114, 101]⟩).i ≤ day) ||
  (bif decide ((f ⟨#[112, 117, 98, 108, 105, 115, 104]⟩).kind = 4) then decide (day < (f ⟨#[112, 117, 98, 108, 105, 115, 104]⟩).i)
    else decide ((f ⟨#[100, 97, 116, 101]⟩).kind = 4 ∧ day < (f ⟨#[100, 97, 116, 101]⟩).i))
def hidB (v : Vu) (day : Int) : Bool := hidF (hasV v) day
theorem has_and {v : Vu} {key : ByteArray} {K : Int} (hK : K ≠ 0) : (hasB v key && decide ((hasV v key).kind = K)) = decide ((hasV v key).kind = K) := by
  cases h : hasB v key
  · rw [hasV_no h]; simp [zero_kind, Ne.symm hK]
  · rfl
theorem setting2_sp (v : Vu) (key : ByteArray) (K : Int) (hK : K ≠ 0) (hv : v.kind = 6 → v.keys.length = v.items.length) : Sp (cx Tryd.prog mixed tyT_ok E) 84 [encV v, dS key, i64 K] (.tup [encV (hasV v key), dB (decide ((hasV v key).kind = K))]) := by
  have := setting_sp E v key K hv
  rwa [has_and hK] at this
theorem hidden_sp (v : Vu) (day : Int) (hv : v.kind = 6 → v.keys.length = v.items.length) : Sp (cx Tryd.prog mixed tyT_ok E) 51 [encV v, i64 day] (dB (hidB v day)) := by
  have S := fun key K (hK : K ≠ 0) => setting2_sp E v key K hK hv
  unfold hidB
  generalize hasV v = f at S ⊢
  refine Sp.body Tryd.func51 (by kernel_rfl) rfl rfl (by kernel_rfl) ?_
  repeat' first
    | (refine facW_intro ?_; intro _)
    | refine Or.inl ?_
    | ((conv => whnf); first | (refine condW_dec ?_ ?_ <;> intro _) | refine condW_not ?_ | (refine condW_bool ?_ ?_ <;> intro _))
    | refine And.intro (by first | omega | (simp only [Int.toNat_natCast] at *; omega) | kernel_rfl) ?_
    | refine RegW.run ?_
    | refine ⟨_, S _ _ (by decide), ?_⟩
    | fail
  all_goals exact Dle.bo (by unfold hidF; grind)
theorem check_fits {v : Vu} (h : checkE v = 0) : v.kind = 6 → v.keys.length = v.items.length := by
  intro h6
  have h1 : headE v = 0 := by
    unfold checkE at h
    split at h
    · cases h
    · split at h
      · cases h
      · rw [faultE_eq] at h
        by_cases h0 : headE v = 0
        · exact h0
        · rw [if_neg h0] at h; exact h
  unfold headE at h1
  have : ¬ unusedP v := fun hu => by
    rw [if_pos hu] at h1
    split at h1 <;> cases h1
  unfold unusedP at this
  grind
/-- Hidden's answer. -/
def hiddenB (v : Vu) (day : Int) : Bool := decide (checkE v = 0) && hidB v day
theorem tHidden_sp (v : Vu) (day : Int) (hb : cnt v ≤ 4611686018427387904) : Sp (cx Tryd.prog mixed tyT_ok E) 18 [encV v, i64 day] (dB (hiddenB v day)) := by
  have C := check_sp E v hb
  unfold hiddenB
  have H := fun h => hidden_sp E v day (check_fits h)
  generalize hidB v day = r at H ⊢
  generalize checkE v = c at C H ⊢
  by_cases hc : c = 0
  · have H := H hc
    refine Sp.body Tryd.func18 (by kernel_rfl) rfl rfl (by kernel_rfl) ?_
    repeat' first
      | (refine facW_intro ?_; intro _)
      | refine Or.inl ?_
      | ((conv => whnf); first | (refine condW_dec ?_ ?_ <;> intro _) | refine condW_not ?_ | (refine condW_bool ?_ ?_ <;> intro _))
      | refine And.intro (by first | omega | (simp only [Int.toNat_natCast] at *; omega) | kernel_rfl) ?_
      | refine RegW.run ?_
      | refine ⟨_, C, ?_⟩
      | refine ⟨_, H, ?_⟩
      | fail
    all_goals exact Dle.bo (by grind)
  · refine Sp.body Tryd.func18 (by kernel_rfl) rfl rfl (by kernel_rfl) ?_
    repeat' first
      | (refine facW_intro ?_; intro _)
      | refine Or.inl ?_
      | ((conv => whnf); first | (refine condW_dec ?_ ?_ <;> intro _ <;> try (exfalso; omega)) | refine condW_not ?_ | (refine condW_bool ?_ ?_ <;> intro _ <;> try (exfalso; omega)))
      | refine And.intro (by first | omega | (simp only [Int.toNat_natCast] at *; omega) | kernel_rfl) ?_
      | refine RegW.run ?_
      | refine ⟨_, C, ?_⟩
      | fail
    all_goals exact Dle.bo (by grind)
theorem hidB_kind {v : Vu} {day : Int} (h : v.kind ≠ 6) : hidB v day = false := by
  unfold hidB hidF
  simp only [hasV_no (hasB_kind h), zero_kind]
  rfl
theorem refHidden_sp (v : Vu) (day : Int) (hb : cnt v ≤ 4611686018427387904) : Sp (cx Tryd.prog mixed tyT_ok E) 19 [encV v, i64 day] (dB (hiddenB v day)) := by
  have h6 : v.kind ≠ 6 → hidB v day = false := hidB_kind
  have S := fun key => has_sp E v key
  have C := confCheck_sp E v hb
  unfold hiddenB
  unfold hidB at *
  generalize hasV v = f at S h6 ⊢
  generalize hasB v = g at S
  generalize checkE v = c at C ⊢
  refine Sp.body Tryd.func19 (by kernel_rfl) rfl rfl (by kernel_rfl) ?_
  repeat' first
    | (refine facW_intro ?_; intro _)
    | refine Or.inl ?_
    | ((conv => whnf); first | (refine condW_dec ?_ ?_ <;> intro _ <;> try (exfalso; omega)) | refine condW_not ?_ | (refine condW_bool ?_ ?_ <;> intro _ <;> try (exfalso; omega)))
    | refine And.intro (by first | omega | (simp only [Int.toNat_natCast] at *; omega) | kernel_rfl) ?_
    | refine RegW.run ?_
    | refine ⟨_, C, ?_⟩
    | refine ⟨_, S _, ?_⟩
    | fail
  all_goals exact Dle.bo (by unfold hidF at *; grind)
end
end Go.Proofs.YtfbelaifhgnnlaaDoor
