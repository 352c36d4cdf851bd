/-
  list.Where and the law of it. The law of list.Where.
-/
import Derived.Test.YtkjflkbjepdaaaaGreatDoorY4
namespace Go.Proofs.YtkjflkbjepdaaaaGreatDoor
open Go.RowKit
set_option linter.unusedVariables false
set_option linter.unusedSimpArgs false
/-- The positions below k at which p holds. -/
def posn (p : Vu → Bool) (l : List Vu) : Nat → List Int
  | 0 => []
  | k + 1 => if p (l.getD k .zero) = true then posn p l k ++ [(k : Int)] else posn p l k
theorem posn_zero (p : Vu → Bool) (l : List Vu) : posn p l 0 = [] := rfl
theorem posn_succ (p : Vu → Bool) (l : List Vu) (k : Nat) : posn p l (k + 1) = if p (l.getD k .zero) = true then posn p l k ++ [(k : Int)] else posn p l k := rfl
theorem posn_len (p : Vu → Bool) (l : List Vu) : ∀ k, (posn p l k).length ≤ k
  | 0 => by rw [posn_zero]; exact Nat.le_refl _
  | k + 1 => by
    have := posn_len p l k
    rw [posn_succ]
    split
    · rw [List.length_append]; simp; omega
    · omega
theorem posn_yes {p : Vu → Bool} {l : List Vu} {k : Nat} (h : p (l.getD k .zero) = true) : posn p l (k + 1) = posn p l k ++ [(k : Int)] := by
  rw [posn_succ, if_pos h]
theorem posn_no {p : Vu → Bool} {l : List Vu} {k : Nat} (h : p (l.getD k .zero) = false) : posn p l (k + 1) = posn p l k := by
  rw [posn_succ, if_neg (by rw [h]; decide)]
theorem len_le_wtW : ∀ l : List Vu, l.length ≤ Vu.wtL l
  | [] => Nat.zero_le _
  | .mk k b i t is ks :: l => by
    have := len_le_wtW l
    simp only [List.length_cons, Vu.wtL, Vu.wt]
    omega
theorem app_lt {a : List Int} {x : Int} {i : Nat} (h : i < a.length) : (a ++ [x]).getD i 0 = a.getD i 0 := by simp [List.getD, List.getElem?_append_left h]
theorem app_at {a : List Int} {x : Int} : (a ++ [x]).getD a.length 0 = x := by simp [List.getD]
theorem row_int {κ : Type} {X : Cx κ} (a : List Int) (x : Int) (i j : Nat) (hi : i < a.length + 1) (hj : j < 1) :
    Dle X (if i < a.length then (.v (.int .i64 (a.getD i 0)) : D κ) else ([.v (.int .i64 x)] : List (D κ)).getD ((i - a.length + 0) * 1 + j) .opq) (.v (.int .i64 ((a ++ [x]).getD i 0))) := by
  obtain rfl : j = 0 := by omega
  split
  · rename_i h
    rw [app_lt h]
    exact Dle.refl _ _
  · obtain rfl : i = a.length := by omega
    rw [app_at, Nat.sub_self]
    exact Dle.refl _ _
def whereE (l : List Vu) (c : Cd) : List Int × Int := if listE l ≠ 0 then ([], listE l) else if condCheck c ≠ 0 then ([], condCheck c) else (posn (fun v => hold v c) l l.length, 0)
theorem listE_ok {l : List Vu} (h : listE l = 0) : ∀ v ∈ l, itemE v = 0 := fun v hv => by
  unfold listE at h
  split at h
  · cases h
  · exact itemCheck_ok (listL_mem l h v hv)
section
variable (E : Env)
set_option maxRecDepth 100000
theorem tester_sp (hML : ∀ w, E.G w → ML w) (c : Cd) (v : Vu) (hw : c.wt ≤ 100000000) (hc : condE c = 0) (hv : itemE v = 0) : Sp (cx Tryz.prog mixed tyT_ok E) 31 [encC c, encV v] (dB (hold v c)) := by
  have h1 := lHolds_sp E hML v hv _ c (Nat.lt_succ_self _) hw hc
  generalize hold v c = b at h1
  refine Sp.body Tryz.func31 (by kernel_rfl) rfl (by kernel_rfl) (by kernel_rfl) (by kernel_rfl) ?_
  repeat' first
    | (refine facW_intro ?_; intro _)
    | refine Or.inl ?_
    | ((conv => whnf); first | (refine condW_dec ?_ ?_ <;> intro _) | refine condW_not ?_ | (refine condW_bool ?_ ?_ <;> intro _) | (refine nbC_t (fun _ => ?_) ?_) | (refine nbC_f ?_ (fun _ => ?_)))
    | refine And.intro (by first | omega | (simp only [Int.toNat_natCast] at *; omega) | (simp only [Nat.reduceAdd, Int.cast_ofNat_Int, true_and, and_true]; omega) | kernel_rfl) ?_
    | refine RegW.run ?_
    | refine ⟨_, h1, ?_⟩
    | fail
  all_goals exact Dle.refl _ _
theorem lPositions_sp (p : Vu → Bool) (c : Cd) (l : List Vu) (hlen : l.length ≤ 1000000000) (h : ∀ v ∈ l, Sp (cx Tryz.prog mixed tyT_ok E) 31 [encC c, encV v] (dB (p v))) :
    Sp (cx Tryz.prog mixed tyT_ok E) 30 [.rc (.vals l), .mfn 31 [encC c]] (encInts (posn p l l.length)) := by
  have hz : (posn p l 0).length = 0 := by rw [posn_zero]; rfl
  refine Sp.body Tryz.func30 (by kernel_rfl) rfl (by kernel_rfl) (by kernel_rfl) (by kernel_rfl) ?_
  repeat' first
    | (refine facW_intro ?_; intro _)
    | refine Or.inl ?_
    | ((conv => whnf); first | (refine condW_dec ?_ ?_ <;> intro _) | refine condW_not ?_ | (refine condW_bool ?_ ?_ <;> intro _) | (refine nbC_t (fun _ => ?_) ?_) | (refine nbC_f ?_ (fun _ => ?_)))
    | refine And.intro (by first | omega | (simp only [Int.toNat_natCast] at *; omega) | (simp only [Nat.reduceAdd, Int.cast_ofNat_Int, true_and, and_true]; omega) | kernel_rfl) ?_
    | refine RegW.run ?_
    | fail
  refine ⟨Nat, fun k => [(10, i64 k), (5, .own 10 1 0 (posn p l k).length)], fun k => [], [], fun k => [(10, 3, (posn p l k).length, fun i j => i64 ((posn p l k).getD i 0))], fun k => k ≤ l.length, fun k => l.length - k, ⟨0, by omega, ⟨[(10, none)], ⟨by kernel_rfl, by kernel_rfl, by kernel_rfl, by kernel_rfl, by kernel_rfl, by kernel_rfl, by kernel_rfl⟩, (by repeat' first | (exact hz) | exact trivial | exact rfl | kernel_rfl | exact Dle.of_eq rfl | exact MLe.of_eq rfl | exact Dle.i (by omega) | exact Dle.i (by simp only [Int.toNat_natCast] at *; omega) | exact Dle.nil | exact Dle.rc Dle.nil | exact Option.some_ne_none _ | exact Or.inl rfl | exact Or.inr trivial | omega | (simp only [Int.toNat_natCast] at *; omega) | (intro _ _ _ _; exact Dle.of_eq rfl) | refine And.intro ?_ ?_)⟩⟩, fun k hk => ?_⟩
  have hk : k ≤ l.length := hk
  have hpl := posn_len p l k
  by_cases hlt : k < l.length
  · have h1 := h _ (getD_mem l .zero k hlt)
    cases hb : p (l.getD k .zero)
    · rw [hb] at h1
      have hp2 := posn_no hb
      have hl2 : (posn p l (k + 1)).length = (posn p l k).length := by rw [hp2]
      repeat' first
        | (refine facW_intro ?_; intro _)
        | refine Or.inl ?_
        | ((conv => whnf); first | (refine condW_dec ?_ ?_ <;> intro _ <;> try (exfalso; omega)) | refine condW_not ?_ | (refine condW_bool ?_ ?_ <;> intro _ <;> try (exfalso; omega)) | (refine nbC_t (fun _ => ?_) ?_) | (refine nbC_f ?_ (fun _ => ?_)))
        | refine And.intro (by first | omega | (simp only [Int.toNat_natCast] at *; omega) | (simp only [Nat.reduceAdd, Int.cast_ofNat_Int, true_and, and_true]; omega) | kernel_rfl) ?_
        | refine RegW.run ?_
        | refine ⟨_, h1, ?_⟩
        | fail
      all_goals first
        | exact ⟨k + 1, hlt, ⟨[(10, some 10)], ⟨by kernel_rfl, by kernel_rfl, by kernel_rfl, by kernel_rfl, by kernel_rfl, by kernel_rfl, by kernel_rfl⟩, (by repeat' first | (exact hl2.symm) | exact trivial | exact rfl | kernel_rfl | exact Dle.of_eq rfl | exact MLe.of_eq rfl | exact Dle.i (by omega) | exact Dle.i (by simp only [Int.toNat_natCast] at *; omega) | exact Dle.nil | exact Dle.rc Dle.nil | exact Option.some_ne_none _ | exact Or.inl rfl | exact Or.inr trivial | omega | (simp only [Int.toNat_natCast] at *; omega) | (intro _ _ _ _; exact Dle.of_eq rfl) | (intro i j hi hj; (rw [hp2]; exact Dle.refl _ _)) | refine And.intro ?_ ?_)⟩, by first | omega | (dsimp only; omega)⟩
        | trace_state
    · rw [hb] at h1
      have hp2 := posn_yes hb
      have hl2 : (posn p l (k + 1)).length = (posn p l k).length + 1 := by rw [hp2]; simp
      repeat' first
        | (refine facW_intro ?_; intro _)
        | refine Or.inl ?_
        | ((conv => whnf); first | (refine condW_dec ?_ ?_ <;> intro _ <;> try (exfalso; omega)) | refine condW_not ?_ | (refine condW_bool ?_ ?_ <;> intro _ <;> try (exfalso; omega)) | (refine nbC_t (fun _ => ?_) ?_) | (refine nbC_f ?_ (fun _ => ?_)))
        | refine And.intro (by first | omega | (simp only [Int.toNat_natCast] at *; omega) | (simp only [Nat.reduceAdd, Int.cast_ofNat_Int, true_and, and_true]; omega) | kernel_rfl) ?_
        | refine RegW.run ?_
        | refine ⟨_, h1, ?_⟩
        | fail
      all_goals first
        | exact ⟨k + 1, hlt, ⟨[(10, some 21)], ⟨by kernel_rfl, by kernel_rfl, by kernel_rfl, by kernel_rfl, by kernel_rfl, by kernel_rfl, by kernel_rfl⟩, (by repeat' first | (exact hl2.symm) | exact trivial | exact rfl | kernel_rfl | exact Dle.of_eq rfl | exact MLe.of_eq rfl | exact Dle.i (by omega) | exact Dle.i (by simp only [Int.toNat_natCast] at *; omega) | exact Dle.nil | exact Dle.rc Dle.nil | exact Option.some_ne_none _ | exact Or.inl rfl | exact Or.inr trivial | omega | (simp only [Int.toNat_natCast] at *; omega) | (intro _ _ _ _; exact Dle.of_eq rfl) | (intro i j hi hj; (rw [hp2]; exact row_int _ _ i j (by omega) hj)) | refine And.intro ?_ ?_)⟩, by first | omega | (dsimp only; omega)⟩
        | trace_state
  · have e : k = l.length := by omega
    subst e
    repeat' first
      | (refine facW_intro ?_; intro _)
      | refine Or.inl ?_
      | ((conv => whnf); first | (refine condW_dec ?_ ?_ <;> intro _ <;> try (exfalso; omega)) | refine condW_not ?_ | (refine condW_bool ?_ ?_ <;> intro _ <;> try (exfalso; omega)) | (refine nbC_t (fun _ => ?_) ?_) | (refine nbC_f ?_ (fun _ => ?_)))
      | refine And.intro (by first | omega | (simp only [Int.toNat_natCast] at *; omega) | (simp only [Nat.reduceAdd, Int.cast_ofNat_Int, true_and, and_true]; omega) | kernel_rfl) ?_
      | refine RegW.run ?_
      | fail
    all_goals first
      | exact Dle.sl (X := (cx Tryz.prog mixed tyT_ok E)) rfl (fun i j hi hj => Dle.refl _ _)
      | trace_state
theorem where_sp (hML : ∀ w, E.G w → ML w) (l : List Vu) (c : Cd) (hw : Vu.wtL l ≤ 100000000) (hc : c.wt ≤ 100000000) : Sp (cx Tryz.prog mixed tyT_ok E) 11 [.rc (.vals l), encC c] (.tup [encInts (whereE l c).1, i64 (whereE l c).2]) := by
  have hlen : l.length ≤ 100000000 := by have := len_le_wtW l; omega
  have h1 := listFault_sp E l hw
  have h2 := checkCond_sp E c hc
  have h3 := fun (he : listE l = 0) (hcc : condCheck c = 0) => lPositions_sp E (fun v => hold v c) c l (by omega) (fun v hv => tester_sp E hML c v hc (condCheck_ok hcc) (listE_ok he v hv))
  obtain ⟨r, hr⟩ : ∃ r, r = whereE l c := ⟨_, rfl⟩
  rw [← hr]
  unfold whereE at hr
  generalize listE l = a at hr h1 h3
  generalize condCheck c = b at hr h2 h3
  generalize posn (fun v => hold v c) l l.length = q at hr h3
  by_cases ha : a = 0
  · by_cases hb : b = 0
    · have h3 := h3 ha hb
      rw [ha, hb] at hr
      simp only [ne_eq, not_true_eq_false, if_false] at hr
      subst hr
      refine Sp.body Tryz.func11 (by kernel_rfl) rfl (by kernel_rfl) (by kernel_rfl) (by kernel_rfl) ?_
      repeat' first
        | (refine facW_intro ?_; intro _)
        | refine Or.inl ?_
        | ((conv => whnf); first | (refine condW_dec ?_ ?_ <;> intro _ <;> try (exfalso; omega)) | refine condW_not ?_ | (refine condW_bool ?_ ?_ <;> intro _ <;> try (exfalso; omega)) | (refine nbC_t (fun _ => ?_) ?_) | (refine nbC_f ?_ (fun _ => ?_)))
        | refine And.intro (by first | omega | (simp only [Int.toNat_natCast] at *; omega) | (simp only [Nat.reduceAdd, Int.cast_ofNat_Int, true_and, and_true]; omega) | kernel_rfl) ?_
        | refine RegW.run ?_
        | refine ⟨_, h1, ?_⟩
        | refine ⟨_, h2, ?_⟩
        | refine ⟨_, h3, ?_⟩
        | fail
      all_goals first
        | exact Dle.refl _ _
        | trace_state
    · rw [ha, if_neg (by simp), if_pos hb] at hr
      subst hr
      refine Sp.body Tryz.func11 (by kernel_rfl) rfl (by kernel_rfl) (by kernel_rfl) (by kernel_rfl) ?_
      repeat' first
        | (refine facW_intro ?_; intro _)
        | refine Or.inl ?_
        | ((conv => whnf); first | (refine condW_dec ?_ ?_ <;> intro _ <;> try (exfalso; omega)) | refine condW_not ?_ | (refine condW_bool ?_ ?_ <;> intro _ <;> try (exfalso; omega)) | (refine nbC_t (fun _ => ?_) ?_) | (refine nbC_f ?_ (fun _ => ?_)))
        | refine And.intro (by first | omega | (simp only [Int.toNat_natCast] at *; omega) | (simp only [Nat.reduceAdd, Int.cast_ofNat_Int, true_and, and_true]; omega) | kernel_rfl) ?_
        | refine RegW.run ?_
        | refine ⟨_, h1, ?_⟩
        | refine ⟨_, h2, ?_⟩
        | fail
      all_goals first
        | exact Dle.tup (X := (cx Tryz.prog mixed tyT_ok E)) ⟨Dle.nil (X := (cx Tryz.prog mixed tyT_ok E)), Dle.refl _ _, trivial⟩
        | trace_state
  · rw [if_pos ha] at hr
    subst hr
    refine Sp.body Tryz.func11 (by kernel_rfl) rfl (by kernel_rfl) (by kernel_rfl) (by kernel_rfl) ?_
    repeat' first
      | (refine facW_intro ?_; intro _)
      | refine Or.inl ?_
      | ((conv => whnf); first | (refine condW_dec ?_ ?_ <;> intro _ <;> try (exfalso; omega)) | refine condW_not ?_ | (refine condW_bool ?_ ?_ <;> intro _ <;> try (exfalso; omega)) | (refine nbC_t (fun _ => ?_) ?_) | (refine nbC_f ?_ (fun _ => ?_)))
      | refine And.intro (by first | omega | (simp only [Int.toNat_natCast] at *; omega) | (simp only [Nat.reduceAdd, Int.cast_ofNat_Int, true_and, and_true]; omega) | kernel_rfl) ?_
      | refine RegW.run ?_
      | refine ⟨_, h1, ?_⟩
      | refine ⟨_, h2, ?_⟩
      | fail
    all_goals first
      | exact Dle.tup (X := (cx Tryz.prog mixed tyT_ok E)) ⟨Dle.nil (X := (cx Tryz.prog mixed tyT_ok E)), Dle.refl _ _, trivial⟩
      | trace_state
theorem eqInts_sp (l : List Int) : Sp (cx Tryz.prog mixed tyT_ok E) 14 [encInts l, encInts l] (dB true) := by
  refine Sp.body Tryz.func14 (by kernel_rfl) rfl (by kernel_rfl) (by kernel_rfl) (by kernel_rfl) ?_
  repeat' first
    | (refine facW_intro ?_; intro _)
    | refine Or.inl ?_
    | ((conv => whnf); first | (refine condW_dec ?_ ?_ <;> intro _ <;> try (exfalso; omega)) | refine condW_not ?_ | (refine condW_bool ?_ ?_ <;> intro _ <;> try (exfalso; omega)) | (refine nbC_t (fun _ => ?_) ?_) | (refine nbC_f ?_ (fun _ => ?_)))
    | refine And.intro (by first | omega | (simp only [Int.toNat_natCast] at *; omega) | (simp only [Nat.reduceAdd, Int.cast_ofNat_Int, true_and, and_true]; omega) | kernel_rfl) ?_
    | refine RegW.run ?_
    | fail
  refine ⟨Nat, fun k => [(13, i64 k)], fun k => [], [], fun k => [], fun k => k ≤ l.length, fun k => l.length - k, ⟨0, by omega, ⟨[], ⟨by kernel_rfl, by kernel_rfl, by kernel_rfl, by kernel_rfl, by kernel_rfl, by kernel_rfl, by kernel_rfl⟩, (by repeat' first | exact trivial | exact rfl | kernel_rfl | exact Dle.of_eq rfl | exact MLe.of_eq rfl | exact Dle.i (by omega) | exact Dle.i (by simp only [Int.toNat_natCast] at *; omega) | exact Dle.nil | exact Dle.rc Dle.nil | exact Option.some_ne_none _ | exact Or.inl rfl | exact Or.inr trivial | omega | (simp only [Int.toNat_natCast] at *; omega) | (intro _ _ _ _; exact Dle.of_eq rfl) | refine And.intro ?_ ?_)⟩⟩, fun k hk => ?_⟩
  have hk : k ≤ l.length := hk
  repeat' first
    | (refine facW_intro ?_; intro _)
    | refine Or.inl ?_
    | ((conv => whnf); first | (refine condW_dec ?_ ?_ <;> intro _ <;> try (exfalso; omega)) | refine condW_not ?_ | (refine condW_bool ?_ ?_ <;> intro _ <;> try (exfalso; omega)) | (refine nbC_t (fun _ => ?_) ?_) | (refine nbC_f ?_ (fun _ => ?_)))
    | refine And.intro (by first | omega | (simp only [Int.toNat_natCast] at *; omega) | (simp only [Nat.reduceAdd, Int.cast_ofNat_Int, true_and, and_true]; omega) | kernel_rfl) ?_
    | refine RegW.run ?_
    | fail
  all_goals first
    | (exfalso; rename_i h; exact h rfl)
    | exact ⟨k + 1, by omega, ⟨[], ⟨by kernel_rfl, by kernel_rfl, by kernel_rfl, by kernel_rfl, by kernel_rfl, by kernel_rfl, by kernel_rfl⟩, (by repeat' first | exact trivial | exact rfl | kernel_rfl | exact Dle.of_eq rfl | exact MLe.of_eq rfl | exact Dle.i (by omega) | exact Dle.i (by simp only [Int.toNat_natCast] at *; omega) | exact Dle.nil | exact Dle.rc Dle.nil | exact Option.some_ne_none _ | exact Or.inl rfl | exact Or.inr trivial | omega | (simp only [Int.toNat_natCast] at *; omega) | (intro _ _ _ _; exact Dle.of_eq rfl) | refine And.intro ?_ ?_)⟩, by first | omega | (dsimp only; omega)⟩
    | exact Dle.refl _ _
    | trace_state
end
end Go.Proofs.YtkjflkbjepdaaaaGreatDoor
namespace Go.Proofs.YtkjflkbjepdaaaaGreatDoor
open Go.RowKit
set_option linter.unusedVariables false
set_option linter.unusedSimpArgs false
section
set_option maxRecDepth 100000
theorem listWhere_sp (E0 : Env) (hg : ∀ w, E0.G w → ∀ g, Rep view E0.MG w b0 (wordsGv g) (.pointer (some ⟨g, 0, none⟩))) (E : Env) (hE : E = wEnv E0 hg) (hML : ∀ w, E.G w → ML w) (l : List Vu) (c : Cd) (hw : Vu.wtL l ≤ 100000000) (hc : c.wt ≤ 100000000) :
    Sp (cx Tryz.prog mixed tyT_ok E) 4 [.rc (.vals l), encC c] (dB true) := by
  have hlen : l.length ≤ 100000000 := by have := len_le_wtW l; omega
  have h1 := where_sp E hML l c hw hc
  have h2 := refListFault_sp E l hw
  have h3 := refCondFault_sp E0 hg E hE hML c hc
  unfold whereE at h1
  have h4 := fun v (hv : v ∈ l) => holdsOf_sp E0 hg E hE hML c v hc (by have := cnt_le_wt v; have := wt_memU l v hv; omega)
  have hok : listE l = 0 → ∀ v ∈ l, itemCheckE v = 0 := fun h v hv => by
    unfold listE at h
    split at h
    · cases h
    · exact listL_mem l h v hv
  have hH : listE l = 0 → condCheck c = 0 → ∀ v ∈ l, holdsE c v = (hold v c, 0) := fun h hcc v hv => by
    unfold holdsE
    rw [if_neg (by rw [hcc]; decide), if_neg (by rw [hok h v hv]; decide)]
  generalize listE l = a at h1 h2 hH
  generalize condCheck c = b at h1 h3 hH
  by_cases ha : a = 0
  · subst ha
    rw [if_neg (by decide)] at h1
    by_cases hb : b = 0
    · subst hb
      rw [if_neg (by decide)] at h1
      have hH := hH rfl rfl
      have h5 := eqInts_sp E (posn (fun v => hold v c) l l.length)
      have h5 : Sp (cx Tryz.prog mixed tyT_ok E) 14 [encInts (posn (fun v => hold v c) l l.length), .sl 1 8 (posn (fun v => hold v c) l l.length).length (fun i j => i64 ((posn (fun v => hold v c) l l.length).getD (i + 0) 0))] (dB true) := h5
      have hz : (posn (fun v => hold v c) l 0).length = 0 := by rw [posn_zero]; rfl
      refine Sp.body Tryz.func4 (by kernel_rfl) rfl (by kernel_rfl) (by kernel_rfl) (by kernel_rfl) ?_
      repeat' first
        | (refine facW_intro ?_; intro _)
        | refine Or.inl ?_
        | ((conv => whnf); first | (refine condW_dec ?_ ?_ <;> intro _ <;> try (exfalso; omega)) | refine condW_not ?_ | (refine condW_bool ?_ ?_ <;> intro _ <;> try (exfalso; omega)) | (refine nbC_t (fun _ => ?_) ?_) | (refine nbC_f ?_ (fun _ => ?_)))
        | refine And.intro (by first | omega | (simp only [Int.toNat_natCast] at *; omega) | (simp only [Nat.reduceAdd, Int.cast_ofNat_Int, true_and, and_true]; omega) | kernel_rfl) ?_
        | refine RegW.run ?_
        | refine ⟨_, h1, ?_⟩
        | refine ⟨_, h2, ?_⟩
        | refine ⟨_, h3, ?_⟩
        | fail
      all_goals try (exfalso; rename_i h; exact h rfl)
      all_goals try (exfalso; rename_i h _; exact h rfl)
      refine ⟨Nat, fun k => [(46, i64 k), (9, .own 46 1 0 (posn (fun v => hold v c) l k).length)], fun k => [], [3], fun k => [(46, 3, (posn (fun v => hold v c) l k).length, fun i j => i64 ((posn (fun v => hold v c) l k).getD i 0))], fun k => k ≤ l.length, fun k => l.length - k, ⟨0, by omega, ⟨[(46, none)], ⟨by kernel_rfl, by kernel_rfl, by kernel_rfl, by kernel_rfl, by kernel_rfl, by kernel_rfl, by kernel_rfl⟩, (by repeat' first | (exact hz) | exact trivial | exact rfl | kernel_rfl | exact Dle.of_eq rfl | exact MLe.of_eq rfl | exact Dle.i (by omega) | exact Dle.i (by simp only [Int.toNat_natCast] at *; omega) | exact Dle.nil | exact Dle.rc Dle.nil | exact Option.some_ne_none _ | exact Or.inl rfl | exact Or.inr trivial | omega | (simp only [Int.toNat_natCast] at *; omega) | (intro _ _ _ _; exact Dle.of_eq rfl) | refine And.intro ?_ ?_)⟩⟩, fun k hk => ?_⟩
      have hk : k ≤ l.length := hk
      have hpl := posn_len (fun v => hold v c) l k
      by_cases hlt : k < l.length
      · have h6 := h4 _ (getD_mem l .zero k hlt)
        rw [hH _ (getD_mem l .zero k hlt)] at h6
        cases hbb : hold (l.getD k .zero) c
        · rw [hbb] at h6
          have hp2 := posn_no (p := fun v => hold v c) hbb
          have hl2 : (posn (fun v => hold v c) l (k + 1)).length = (posn (fun v => hold v c) l k).length := by rw [hp2]
          repeat' first
            | (refine facW_intro ?_; intro _)
            | refine Or.inl ?_
            | ((conv => whnf); first | (refine condW_dec ?_ ?_ <;> intro _ <;> try (exfalso; omega)) | refine condW_not ?_ | (refine condW_bool ?_ ?_ <;> intro _ <;> try (exfalso; omega)) | (refine nbC_t (fun _ => ?_) ?_) | (refine nbC_f ?_ (fun _ => ?_)))
            | refine And.intro (by first | omega | (simp only [Int.toNat_natCast] at *; omega) | (simp only [Nat.reduceAdd, Int.cast_ofNat_Int, true_and, and_true]; omega) | kernel_rfl) ?_
            | refine RegW.run ?_
            | refine ⟨_, h6, ?_⟩
            | fail
          all_goals first
            | exact ⟨k + 1, hlt, ⟨[(46, some 46)], ⟨by kernel_rfl, by kernel_rfl, by kernel_rfl, by kernel_rfl, by kernel_rfl, by kernel_rfl, by kernel_rfl⟩, (by repeat' first | (exact hl2.symm) | exact trivial | exact rfl | kernel_rfl | exact Dle.of_eq rfl | exact MLe.of_eq rfl | exact Dle.i (by omega) | exact Dle.i (by simp only [Int.toNat_natCast] at *; omega) | exact Dle.nil | exact Dle.rc Dle.nil | exact Option.some_ne_none _ | exact Or.inl rfl | exact Or.inr trivial | omega | (simp only [Int.toNat_natCast] at *; omega) | (intro _ _ _ _; exact Dle.of_eq rfl) | (intro i j hi hj; (rw [hp2]; exact Dle.refl _ _)) | refine And.intro ?_ ?_)⟩, by first | omega | (dsimp only; omega)⟩
            | trace_state
        · rw [hbb] at h6
          have hp2 := posn_yes (p := fun v => hold v c) hbb
          have hl2 : (posn (fun v => hold v c) l (k + 1)).length = (posn (fun v => hold v c) l k).length + 1 := by rw [hp2]; simp
          repeat' first
            | (refine facW_intro ?_; intro _)
            | refine Or.inl ?_
            | ((conv => whnf); first | (refine condW_dec ?_ ?_ <;> intro _ <;> try (exfalso; omega)) | refine condW_not ?_ | (refine condW_bool ?_ ?_ <;> intro _ <;> try (exfalso; omega)) | (refine nbC_t (fun _ => ?_) ?_) | (refine nbC_f ?_ (fun _ => ?_)))
            | refine And.intro (by first | omega | (simp only [Int.toNat_natCast] at *; omega) | (simp only [Nat.reduceAdd, Int.cast_ofNat_Int, true_and, and_true]; omega) | kernel_rfl) ?_
            | refine RegW.run ?_
            | refine ⟨_, h6, ?_⟩
            | fail
          all_goals first
            | exact ⟨k + 1, hlt, ⟨[(46, some 61)], ⟨by kernel_rfl, by kernel_rfl, by kernel_rfl, by kernel_rfl, by kernel_rfl, by kernel_rfl, by kernel_rfl⟩, (by repeat' first | (exact hl2.symm) | exact trivial | exact rfl | kernel_rfl | exact Dle.of_eq rfl | exact MLe.of_eq rfl | exact Dle.i (by omega) | exact Dle.i (by simp only [Int.toNat_natCast] at *; omega) | exact Dle.nil | exact Dle.rc Dle.nil | exact Option.some_ne_none _ | exact Or.inl rfl | exact Or.inr trivial | omega | (simp only [Int.toNat_natCast] at *; omega) | (intro _ _ _ _; exact Dle.of_eq rfl) | (intro i j hi hj; (rw [hp2]; exact row_int _ _ i j (by omega) hj)) | refine And.intro ?_ ?_)⟩, by first | omega | (dsimp only; omega)⟩
            | trace_state
      · have e : k = l.length := by omega
        subst e
        repeat' first
          | (refine facW_intro ?_; intro _)
          | refine Or.inl ?_
          | ((conv => whnf); first | (refine condW_dec ?_ ?_ <;> intro _ <;> try (exfalso; omega)) | refine condW_not ?_ | (refine condW_bool ?_ ?_ <;> intro _ <;> try (exfalso; omega)) | (refine nbC_t (fun _ => ?_) ?_) | (refine nbC_f ?_ (fun _ => ?_)))
          | refine And.intro (by first | omega | (simp only [Int.toNat_natCast] at *; omega) | (simp only [Nat.reduceAdd, Int.cast_ofNat_Int, true_and, and_true]; omega) | kernel_rfl) ?_
          | refine RegW.run ?_
          | refine ⟨_, h5, ?_⟩
          | fail
        all_goals first
          | exact Dle.refl _ _
          | (exfalso; rename_i h; exact h rfl)
          | trace_state
    · rw [if_pos hb] at h1
      refine Sp.body Tryz.func4 (by kernel_rfl) rfl (by kernel_rfl) (by kernel_rfl) (by kernel_rfl) ?_
      repeat' first
        | (refine facW_intro ?_; intro _)
        | refine Or.inl ?_
        | ((conv => whnf); first | (refine condW_dec ?_ ?_ <;> intro _ <;> try (exfalso; omega)) | refine condW_not ?_ | (refine condW_bool ?_ ?_ <;> intro _ <;> try (exfalso; omega)) | (refine nbC_t (fun _ => ?_) ?_) | (refine nbC_f ?_ (fun _ => ?_)))
        | refine And.intro (by first | omega | (simp only [Int.toNat_natCast] at *; omega) | (simp only [Nat.reduceAdd, Int.cast_ofNat_Int, true_and, and_true]; omega) | kernel_rfl) ?_
        | refine RegW.run ?_
        | refine ⟨_, h1, ?_⟩
        | refine ⟨_, h2, ?_⟩
        | refine ⟨_, h3, ?_⟩
        | fail
      all_goals first
        | (exfalso; rename_i h; exact h rfl)
        | (exfalso; rename_i h _; exact h rfl)
        | exact Dle.bo (by simp)
        | trace_state
  · rw [if_pos ha] at h1
    refine Sp.body Tryz.func4 (by kernel_rfl) rfl (by kernel_rfl) (by kernel_rfl) (by kernel_rfl) ?_
    repeat' first
      | (refine facW_intro ?_; intro _)
      | refine Or.inl ?_
      | ((conv => whnf); first | (refine condW_dec ?_ ?_ <;> intro _ <;> try (exfalso; omega)) | refine condW_not ?_ | (refine condW_bool ?_ ?_ <;> intro _ <;> try (exfalso; omega)) | (refine nbC_t (fun _ => ?_) ?_) | (refine nbC_f ?_ (fun _ => ?_)))
      | refine And.intro (by first | omega | (simp only [Int.toNat_natCast] at *; omega) | (simp only [Nat.reduceAdd, Int.cast_ofNat_Int, true_and, and_true]; omega) | kernel_rfl) ?_
      | refine RegW.run ?_
      | refine ⟨_, h1, ?_⟩
      | refine ⟨_, h2, ?_⟩
      | refine ⟨_, h3, ?_⟩
      | fail
    all_goals first
      | (exfalso; rename_i h; exact h rfl)
      | exact Dle.bo (by simp)
      | trace_state
end
end Go.Proofs.YtkjflkbjepdaaaaGreatDoor
