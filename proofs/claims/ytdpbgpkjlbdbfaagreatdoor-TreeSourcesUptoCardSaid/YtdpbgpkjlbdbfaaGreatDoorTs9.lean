/-
  Sources of a tree: what is wrong with settings.
-/
import Derived.Test.YtdpbgpkjlbdbfaaGreatDoorTs8
namespace Go.Proofs.YtdpbgpkjlbdbfaaGreatDoor
open Go.RowKit
set_option linter.unusedVariables false
set_option linter.unusedSimpArgs false
namespace ts
open rs
def badAddr (l : List Vu) : Bool := !allN l.length (fun i => addrB (l.getD i .zero).text || pathB (l.getD i .zero).text)
def fiveL : List ByteArray := [(⟨#[115, 108, 117, 103]⟩ : ByteArray), (⟨#[116, 114, 97, 110, 115, 108, 97, 116, 105, 111, 110]⟩ : ByteArray), (⟨#[97, 108, 105, 97, 115, 101, 115]⟩ : ByteArray), (⟨#[109, 101, 110, 117, 115]⟩ : ByteArray), (⟨#[99, 97, 115, 99, 97, 100, 101]⟩ : ByteArray)]
def fiveB (l : List ByteArray) : Bool := !allN 5 (fun i => !inK l l.length (fiveL.getD i ⟨#[]⟩))
/-- Paths that are wrong. -/
def pathsB (v : Vu) : Bool := (hasK v (⟨#[115, 108, 117, 103]⟩ : ByteArray) && !ppartB (itemK v (⟨#[115, 108, 117, 103]⟩ : ByteArray)).text) || badAddr (itemK v (⟨#[97, 108, 105, 97, 115, 101, 115]⟩ : ByteArray)).items
/-- What is wrong with settings. -/
def setE (v : Vu) (kind : Int) (key : ByteArray) : Int :=
  if wrongB v = true then 10
  else if pathsB v = true then 3
  else if hasK v (⟨#[116, 114, 97, 110, 115, 108, 97, 116, 105, 111, 110]⟩ : ByteArray) = true ∧ pathB (itemK v (⟨#[116, 114, 97, 110, 115, 108, 97, 116, 105, 111, 110]⟩ : ByteArray)).text = false then 12
  else if (¬ kind = 2 ∧ hasK v (⟨#[99, 97, 115, 99, 97, 100, 101]⟩ : ByteArray) = true) ∨ (kind = 2 ∧ key = ⟨#[]⟩ ∧ hasK v (⟨#[115, 108, 117, 103]⟩ : ByteArray) = true) then 15
  else if fiveB (itemK v (⟨#[99, 97, 115, 99, 97, 100, 101]⟩ : ByteArray)).keys = true then 12
  else 0
theorem right_kind {v : Vu} (h6 : v.kind = 6) (hw : wrongB v = false) {k : ByteArray} (hk : hasK v k = true) (h0 : 0 ≤ kindK k) : (itemK v k).kind = kindK k := by
  obtain ⟨h1, h2⟩ := has_key hk
  have hi : itemK v k = v.items.getD (findK v k) .zero := by
    unfold itemK getK
    rw [if_pos hk]
    rfl
  rw [hi]
  refine Classical.byContradiction fun hn => ?_
  have : wrongB v = true := by
    unfold wrongB
    rw [allN_no h1 (by
      unfold wk wk0
      rw [h2, decide_eq_true h0, decide_eq_true hn]
      rfl)]
    rfl
  rw [hw] at this
  cases this
theorem has_in {v : Vu} (hf : faultE v = 0) (k : ByteArray) : inK v.keys v.keys.length k = hasK v k := by
  rw [Bool.eq_iff_iff, hasK_iff (fault_keys hf).1]
  unfold inK
  rw [Bool.not_eq_true', Bool.eq_false_iff, Ne, allN_iff]
  constructor
  · intro h
    refine Classical.byContradiction fun h2 => h fun i hi => decide_eq_true fun e => h2 ⟨i, hi, e⟩
  · rintro ⟨m, h1, h2⟩ h3
    exact of_decide_eq_true (h3 m h1) h2
theorem bad_no {l : List Vu} {k : Nat} (hk : k < l.length) (h : (addrB (l.getD k .zero).text || pathB (l.getD k .zero).text) = false) : badAddr l = true := by
  unfold badAddr
  rw [allN_no hk h]
  rfl
section
variable (E : Env)
set_option maxRecDepth 100000
theorem wrongPaths_sp (hML : ∀ w, E.G w → ML w) (v : Vu) (hf : faultE v = 0) (h6 : v.kind = 6) (hw : wrongB v = false) : Sp (cx Tryz.prog mixed tyT_ok E) 182 [encV v] (dB (pathsB v)) := by
  have s1 := setting_sp E v (⟨#[115, 108, 117, 103]⟩ : ByteArray) 3 hf
  have s2 := setting_sp E v (⟨#[97, 108, 105, 97, 115, 101, 115]⟩ : ByteArray) 5 hf
  have k1 := @right_kind v h6 hw (⟨#[115, 108, 117, 103]⟩ : ByteArray)
  have hs : (hasK v (⟨#[115, 108, 117, 103]⟩ : ByteArray) && decide ((itemK v (⟨#[115, 108, 117, 103]⟩ : ByteArray)).kind = 3)) = hasK v (⟨#[115, 108, 117, 103]⟩ : ByteArray) := by
    cases h : hasK v (⟨#[115, 108, 117, 103]⟩ : ByteArray)
    · rfl
    · rw [decide_eq_true ((k1 h (by decide)).trans (by decide))]; rfl
  rw [hs] at s1
  have p1 := t_isPart_sp E (itemK v (⟨#[115, 108, 117, 103]⟩ : ByteArray)).text
  obtain ⟨r, hr⟩ : ∃ r, r = pathsB v := ⟨_, rfl⟩
  rw [← hr]
  unfold pathsB at hr
  clear k1 hs
  generalize hasK v (⟨#[115, 108, 117, 103]⟩ : ByteArray) = b at s1 hr
  generalize itemK v (⟨#[115, 108, 117, 103]⟩ : ByteArray) = x at s1 p1 hr
  generalize ppartB x.text = q at p1 hr
  generalize (hasK v (⟨#[97, 108, 105, 97, 115, 101, 115]⟩ : ByteArray) && decide ((itemK v (⟨#[97, 108, 105, 97, 115, 101, 115]⟩ : ByteArray)).kind = 5)) = b2 at s2
  generalize itemK v (⟨#[97, 108, 105, 97, 115, 101, 115]⟩ : ByteArray) = y at s2 hr
  have hno : ∀ k, k < y.items.length → (addrB (y.items.getD k .zero).text || pathB (y.items.getD k .zero).text) = false → r = true := fun k hk h => by
    rw [hr, bad_no hk h, Bool.or_true]
  have hy : allN y.items.length (fun i => addrB (y.items.getD i .zero).text || pathB (y.items.getD i .zero).text) = true → r = (b && !q) := fun h => by
    rw [hr]; unfold badAddr; rw [h]; simp
  have hb : b = true → q = false → r = true := fun h1 h2 => by rw [hr, h1, h2]; rfl
  clear hr
  refine Sp.body Tryz.func182 (by kernel_rfl) rfl (by kernel_rfl) (by kernel_rfl) (by kernel_rfl) ?_
  repeat' first
    | (refine codeW_cond rfl ?_; first | (refine condW_dec ?_ ?_ <;> intro _ <;> try (exfalso; omega)) | refine condW_not ?_ | (refine condW_bool ?_ ?_ <;> intro _ <;> try (exfalso; omega)))
    | (refine facW_intro ?_; intro _)
    | refine Or.inl ?_
    | ((conv => whnf); first | (refine condW_dec ?_ ?_ <;> intro _ <;> try (exfalso; omega)) | refine condW_not ?_ | (refine condW_bool ?_ ?_ <;> intro _ <;> try (exfalso; omega)) | (refine nbC_t (fun _ => ?_) ?_) | (refine nbC_f ?_ (fun _ => ?_)))
    | refine And.intro (by first | omega | (simp only [Int.toNat_natCast] at *; omega) | (simp only [Nat.reduceAdd, Int.cast_ofNat_Int, true_and, and_true]; omega) | kernel_rfl) ?_
    | refine RegW.run ?_
    | refine ⟨_, s1, ?_⟩
    | refine ⟨_, s2, ?_⟩
    | refine ⟨_, p1, ?_⟩
    | fail
  all_goals first
    | (exact Dle.bo (hb (by assumption) (by assumption)).symm)
    | skip
  all_goals
    refine ⟨Nat, fun k => [(29, i64 k)], fun k => [], [], fun k => [], fun k => k ≤ y.items.length ∧ allN k (fun i => addrB (y.items.getD i .zero).text || pathB (y.items.getD i .zero).text) = true, fun k => y.items.length - k, ⟨0, ⟨by omega, rfl⟩, ⟨[], ⟨by kernel_rfl, by kernel_rfl, by kernel_rfl, by kernel_rfl, by kernel_rfl, by kernel_rfl, by kernel_rfl⟩, (by repeat' first | exact trivial | exact rfl | kernel_rfl | exact Dle.of_eq rfl | exact MLe.of_eq rfl | exact Dle.i (by omega) | exact Dle.i (by simp only [Int.toNat_natCast] at *; omega) | exact Dle.nil | exact Dle.rc Dle.nil | exact Option.some_ne_none _ | exact Or.inl rfl | exact Or.inr trivial | omega | (simp only [Int.toNat_natCast] at *; omega) | (intro _ _ _ _; exact Dle.of_eq rfl) | refine And.intro ?_ ?_)⟩⟩, fun k hk => ?_⟩
    obtain ⟨hk, hall⟩ := hk
    by_cases hlt : k < y.items.length
    · have hn := hno k hlt
      have a1 := t_isAddress_sp E hML (y.items.getD ((k : Int)).toNat .zero).text
      have a2 := t_isPath_sp E hML (y.items.getD ((k : Int)).toNat .zero).text
      have e1 : addrB (y.items.getD ((k : Int)).toNat .zero).text = addrB (y.items.getD k .zero).text := rfl
      have e2 : pathB (y.items.getD ((k : Int)).toNat .zero).text = pathB (y.items.getD k .zero).text := rfl
      have hs : (addrB (y.items.getD k .zero).text || pathB (y.items.getD k .zero).text) = true → allN (k + 1) (fun i => addrB (y.items.getD i .zero).text || pathB (y.items.getD i .zero).text) = true := fun h => allN_succ hall h
      generalize addrB (y.items.getD ((k : Int)).toNat .zero).text = c1 at a1 e1
      generalize pathB (y.items.getD ((k : Int)).toNat .zero).text = c2 at a2 e2
      rw [← e1, ← e2] at hn hs
      repeat' first
        | (refine codeW_cond rfl ?_; first | (refine condW_dec ?_ ?_ <;> intro _ <;> try (exfalso; omega)) | refine condW_not ?_ | (refine condW_bool ?_ ?_ <;> intro _ <;> try (exfalso; omega)))
        | (refine facW_intro ?_; intro _)
        | refine Or.inl ?_
        | ((conv => whnf); first | (refine condW_dec ?_ ?_ <;> intro _ <;> try (exfalso; omega)) | refine condW_not ?_ | (refine condW_bool ?_ ?_ <;> intro _ <;> try (exfalso; omega)) | (refine nbC_t (fun _ => ?_) ?_) | (refine nbC_f ?_ (fun _ => ?_)))
        | refine And.intro (by first | omega | (simp only [Int.toNat_natCast] at *; omega) | (simp only [Nat.reduceAdd, Int.cast_ofNat_Int, true_and, and_true]; omega) | kernel_rfl) ?_
        | refine RegW.run ?_
        | refine ⟨_, a1, ?_⟩
        | refine ⟨_, a2, ?_⟩
        | fail
      all_goals first
        | exact ⟨k + 1, ⟨by omega, hs (by simp_all)⟩, ⟨[], ⟨by kernel_rfl, by kernel_rfl, by kernel_rfl, by kernel_rfl, by kernel_rfl, by kernel_rfl, by kernel_rfl⟩, (by repeat' first | exact trivial | exact rfl | kernel_rfl | exact Dle.of_eq rfl | exact MLe.of_eq rfl | exact Dle.i (by omega) | exact Dle.i (by simp only [Int.toNat_natCast] at *; omega) | exact Dle.nil | exact Dle.rc Dle.nil | exact Option.some_ne_none _ | exact Or.inl rfl | exact Or.inr trivial | omega | (simp only [Int.toNat_natCast] at *; omega) | (intro _ _ _ _; exact Dle.of_eq rfl) | refine And.intro ?_ ?_)⟩, by first | omega | (dsimp only; omega)⟩
        | exact Dle.bo (hn (by simp_all)).symm
        | trace_state
    · obtain rfl : k = y.items.length := by omega
      have hr := hy hall
      repeat' first
        | (refine codeW_cond rfl ?_; first | (refine condW_dec ?_ ?_ <;> intro _ <;> try (exfalso; omega)) | refine condW_not ?_ | (refine condW_bool ?_ ?_ <;> intro _ <;> try (exfalso; omega)))
        | (refine facW_intro ?_; intro _)
        | refine Or.inl ?_
        | ((conv => whnf); first | (refine condW_dec ?_ ?_ <;> intro _ <;> try (exfalso; omega)) | refine condW_not ?_ | (refine condW_bool ?_ ?_ <;> intro _ <;> try (exfalso; omega)) | (refine nbC_t (fun _ => ?_) ?_) | (refine nbC_f ?_ (fun _ => ?_)))
        | refine And.intro (by first | omega | (simp only [Int.toNat_natCast] at *; omega) | (simp only [Nat.reduceAdd, Int.cast_ofNat_Int, true_and, and_true]; omega) | kernel_rfl) ?_
        | refine RegW.run ?_
        | fail
      all_goals first
        | exact Dle.bo (by rw [hr]; simp_all)
        | trace_state
theorem five_no {l : List ByteArray} {k : Nat} (hk : k < 5) (h : inK l l.length (fiveL.getD k ⟨#[]⟩) = true) : fiveB l = true := by
  unfold fiveB
  rw [allN_no hk (by rw [h]; rfl)]
  rfl
theorem five_end {l : List ByteArray} (h : allN 5 (fun i => !inK l l.length (fiveL.getD i ⟨#[]⟩)) = true) : fiveB l = false := by
  unfold fiveB
  rw [h]
  rfl
set_option maxHeartbeats 8000000 in
theorem t_settings_sp (hML : ∀ w, E.G w → ML w) (path key lang rest : ByteArray) (kind : Int) (v : Vu) (hf : faultE v = 0) (h6 : v.kind = 6) (hw : v.wt ≤ 100000000) :
    Sp (cx Tryz.prog mixed tyT_ok E) 94 [.agg [dS path, dS key, dS lang, i64 kind, i64 v.kind, dB v.b, i64 v.i, dS v.text, .rc (.vals v.items), encStrs v.keys, dS rest]] (i64 (setE v kind key)) := by
  obtain ⟨r, hr⟩ : ∃ r, r = setE v kind key := ⟨_, rfl⟩
  rw [← hr]
  unfold setE at hr
  have c1 := wrongKind_sp E v hf h6
  have hkw := keys_le_wt v
  cases hwB : wrongB v
  · rw [hwB] at c1 hr
    have c2 := wrongPaths_sp E hML v hf h6 hwB
    have c3 := setting_sp E v (⟨#[116, 114, 97, 110, 115, 108, 97, 116, 105, 111, 110]⟩ : ByteArray) 3 hf
    have c4 := setting_sp E v (⟨#[99, 97, 115, 99, 97, 100, 101]⟩ : ByteArray) 6 hf
    have c5 := t_has_sp E v (⟨#[99, 97, 115, 99, 97, 100, 101]⟩ : ByteArray) (by omega)
    have c6 := t_has_sp E v (⟨#[115, 108, 117, 103]⟩ : ByteArray) (by omega)
    have c7 := t_isPath_sp E hML (itemK v (⟨#[116, 114, 97, 110, 115, 108, 97, 116, 105, 111, 110]⟩ : ByteArray)).text
    have k3 := @right_kind v h6 hwB (⟨#[116, 114, 97, 110, 115, 108, 97, 116, 105, 111, 110]⟩ : ByteArray)
    have hs3 : (hasK v (⟨#[116, 114, 97, 110, 115, 108, 97, 116, 105, 111, 110]⟩ : ByteArray) && decide ((itemK v (⟨#[116, 114, 97, 110, 115, 108, 97, 116, 105, 111, 110]⟩ : ByteArray)).kind = 3)) = hasK v (⟨#[116, 114, 97, 110, 115, 108, 97, 116, 105, 111, 110]⟩ : ByteArray) := by
      cases h : hasK v (⟨#[116, 114, 97, 110, 115, 108, 97, 116, 105, 111, 110]⟩ : ByteArray)
      · rfl
      · rw [decide_eq_true ((k3 h (by decide)).trans (by decide))]; rfl
    rw [hs3] at c3
    rw [has_in hf] at c5 c6
    clear k3 hs3
    have hcw := item_wt hf (⟨#[99, 97, 115, 99, 97, 100, 101]⟩ : ByteArray)
    generalize pathsB v = pB at c2 hr
    generalize hasK v (⟨#[116, 114, 97, 110, 115, 108, 97, 116, 105, 111, 110]⟩ : ByteArray) = tB at c3 hr
    generalize itemK v (⟨#[116, 114, 97, 110, 115, 108, 97, 116, 105, 111, 110]⟩ : ByteArray) = t at c3 c7 hr
    generalize pathB t.text = tp at c7 hr
    generalize (hasK v (⟨#[99, 97, 115, 99, 97, 100, 101]⟩ : ByteArray) && decide ((itemK v (⟨#[99, 97, 115, 99, 97, 100, 101]⟩ : ByteArray)).kind = 6)) = b4 at c4
    generalize hasK v (⟨#[99, 97, 115, 99, 97, 100, 101]⟩ : ByteArray) = cB at c5 hr
    generalize hasK v (⟨#[115, 108, 117, 103]⟩ : ByteArray) = sB at c6 hr
    generalize itemK v (⟨#[99, 97, 115, 99, 97, 100, 101]⟩ : ByteArray) = c at c4 hcw hr
    have hck := keys_le_wt c
    have f0 := fun k => t_has_sp E c k (by omega)
    simp only [Bool.false_eq_true, if_false] at hr
    by_cases hE : pB = true ∨ (tB = true ∧ tp = false) ∨ ((¬ kind = 2 ∧ cB = true) ∨ (kind = 2 ∧ key = ⟨#[]⟩ ∧ sB = true))
    · refine Sp.body Tryz.func94 (by kernel_rfl) rfl (by kernel_rfl) (by kernel_rfl) (by kernel_rfl) ?_
      repeat' first
        | (refine codeW_cond rfl ?_; first | (refine condW_dec ?_ ?_ <;> intro _ <;> try (exfalso; omega)) | refine condW_not ?_ | (refine condW_bool ?_ ?_ <;> intro _ <;> try (exfalso; omega)))
        | (refine facW_intro ?_; intro _)
        | refine Or.inl ?_
        | ((conv => whnf); first | (refine condW_dec ?_ ?_ <;> intro _ <;> try (exfalso; omega)) | refine condW_not ?_ | (refine condW_bool ?_ ?_ <;> intro _ <;> try (exfalso; omega)) | (refine nbC_t (fun _ => ?_) ?_) | (refine nbC_f ?_ (fun _ => ?_)))
        | refine And.intro (by first | omega | (simp only [Int.toNat_natCast] at *; omega) | (simp only [Nat.reduceAdd, Int.cast_ofNat_Int, true_and, and_true]; omega) | kernel_rfl) ?_
        | refine RegW.run ?_
        | refine ⟨_, c1, ?_⟩
        | refine ⟨_, c2, ?_⟩
        | refine ⟨_, c3, ?_⟩
        | refine ⟨_, c4, ?_⟩
        | refine ⟨_, c5, ?_⟩
        | refine ⟨_, c6, ?_⟩
        | refine ⟨_, c7, ?_⟩
        | fail
      all_goals first
        | (exfalso; clear c1 c2 c3 c4 c5 c6 c7 f0 hr; grind)
        | (refine Dle.i ?_; clear c1 c2 c3 c4 c5 c6 c7 f0; grind)
        | trace_state
    have h5 : ∀ k, k < 5 → inK c.keys c.keys.length (fiveL.getD k ⟨#[]⟩) = true → r = 12 := fun k hk h => by
      rw [hr, five_no hk h]; clear c1 c2 c3 c4 c5 c6 c7 f0; grind
    have h5no : allN 5 (fun i => !inK c.keys c.keys.length (fiveL.getD i ⟨#[]⟩)) = true → r = 0 := fun h => by
      rw [hr, five_end h]; clear c1 c2 c3 c4 c5 c6 c7 f0; grind
    simp only [not_or] at hE
    obtain ⟨hE1, hE2, hE3, hE4⟩ := hE
    clear hr
    refine Sp.body Tryz.func94 (by kernel_rfl) rfl (by kernel_rfl) (by kernel_rfl) (by kernel_rfl) ?_
    repeat' first
      | (refine codeW_cond rfl ?_; first | (refine condW_dec ?_ ?_ <;> intro _ <;> try (exfalso; omega)) | refine condW_not ?_ | (refine condW_bool ?_ ?_ <;> intro _ <;> try (exfalso; omega)))
      | (refine facW_intro ?_; intro _)
      | refine Or.inl ?_
      | ((conv => whnf); first | (refine condW_dec ?_ ?_ <;> intro _ <;> try (exfalso; omega)) | refine condW_not ?_ | (refine condW_bool ?_ ?_ <;> intro _ <;> try (exfalso; omega)) | (refine nbC_t (fun _ => ?_) ?_) | (refine nbC_f ?_ (fun _ => ?_)))
      | refine And.intro (by first | omega | (simp only [Int.toNat_natCast] at *; omega) | (simp only [Nat.reduceAdd, Int.cast_ofNat_Int, true_and, and_true]; omega) | kernel_rfl) ?_
      | refine RegW.run ?_
      | refine ⟨_, c1, ?_⟩
      | refine ⟨_, c2, ?_⟩
      | refine ⟨_, c3, ?_⟩
      | refine ⟨_, c4, ?_⟩
      | refine ⟨_, c5, ?_⟩
      | refine ⟨_, c6, ?_⟩
      | refine ⟨_, c7, ?_⟩
      | fail
    all_goals try (exfalso; first | (exact hE1 (by assumption)) | (exact hE2 ⟨by assumption, by assumption⟩) | (exact hE3 ⟨by assumption, by assumption⟩) | (exact hE4 ⟨by assumption, by assumption, by assumption⟩))
    all_goals try (exfalso; omega)
    all_goals
      refine ⟨Nat, fun j => [(56, i64 j)], fun j => [], [6, 54], fun j => [], fun j => j ≤ 5 ∧ allN j (fun i => !inK c.keys c.keys.length (fiveL.getD i ⟨#[]⟩)) = true, fun j => 5 - j, ⟨0, ⟨by omega, rfl⟩, ⟨[], ⟨by kernel_rfl, by kernel_rfl, by kernel_rfl, by kernel_rfl, by kernel_rfl, by kernel_rfl, by kernel_rfl⟩, (by repeat' first | exact trivial | exact rfl | kernel_rfl | exact Dle.of_eq rfl | exact MLe.of_eq rfl | exact Dle.i (by omega) | exact Dle.i (by simp only [Int.toNat_natCast] at *; omega) | exact Dle.nil | exact Dle.rc Dle.nil | exact Option.some_ne_none _ | exact Or.inl rfl | exact Or.inr trivial | omega | (simp only [Int.toNat_natCast] at *; omega) | (intro _ _ _ _; exact Dle.of_eq rfl) | refine And.intro ?_ ?_)⟩⟩, fun j hj => ?_⟩
      obtain ⟨hj, hall⟩ := hj
      by_cases hj5 : j = 5
      · subst hj5
        have hr := h5no hall
        repeat' first
          | (refine codeW_cond rfl ?_; first | (refine condW_dec ?_ ?_ <;> intro _ <;> try (exfalso; omega)) | refine condW_not ?_ | (refine condW_bool ?_ ?_ <;> intro _ <;> try (exfalso; omega)))
          | (refine facW_intro ?_; intro _)
          | refine Or.inl ?_
          | ((conv => whnf); first | (refine condW_dec ?_ ?_ <;> intro _ <;> try (exfalso; omega)) | refine condW_not ?_ | (refine condW_bool ?_ ?_ <;> intro _ <;> try (exfalso; omega)) | (refine nbC_t (fun _ => ?_) ?_) | (refine nbC_f ?_ (fun _ => ?_)))
          | refine And.intro (by first | omega | (simp only [Int.toNat_natCast] at *; omega) | (simp only [Nat.reduceAdd, Int.cast_ofNat_Int, true_and, and_true]; omega) | kernel_rfl) ?_
          | refine RegW.run ?_
          | fail
        all_goals first
          | exact Dle.i hr.symm
          | (exfalso; omega)
          | trace_state
      · have hlt : j < 5 := by omega
        have hn := h5 j hlt
        have hs : inK c.keys c.keys.length (fiveL.getD j ⟨#[]⟩) = false → allN (j + 1) (fun i => !inK c.keys c.keys.length (fiveL.getD i ⟨#[]⟩)) = true := fun h => allN_succ hall (by rw [h]; rfl)
        match j, hlt with
        | 0, _ =>
          have f1 := f0 (⟨#[115, 108, 117, 103]⟩ : ByteArray)
          have hn : inK c.keys c.keys.length (⟨#[115, 108, 117, 103]⟩ : ByteArray) = true → r = 12 := hn
          have hs : inK c.keys c.keys.length (⟨#[115, 108, 117, 103]⟩ : ByteArray) = false → allN (0 + 1) (fun i => !inK c.keys c.keys.length (fiveL.getD i ⟨#[]⟩)) = true := hs
          generalize inK c.keys c.keys.length (⟨#[115, 108, 117, 103]⟩ : ByteArray) = z at f1 hn hs
          cases z
          · have hr := hs rfl
            repeat' first
              | (refine codeW_cond rfl ?_; first | (refine condW_dec ?_ ?_ <;> intro _ <;> try (exfalso; omega)) | refine condW_not ?_ | (refine condW_bool ?_ ?_ <;> intro _ <;> try (exfalso; omega)))
              | (refine facW_intro ?_; intro _)
              | refine Or.inl ?_
              | ((conv => whnf); first | (refine condW_dec ?_ ?_ <;> intro _ <;> try (exfalso; omega)) | refine condW_not ?_ | (refine condW_bool ?_ ?_ <;> intro _ <;> try (exfalso; omega)) | (refine nbC_t (fun _ => ?_) ?_) | (refine nbC_f ?_ (fun _ => ?_)))
              | refine And.intro (by first | omega | (simp only [Int.toNat_natCast] at *; omega) | (simp only [Nat.reduceAdd, Int.cast_ofNat_Int, true_and, and_true]; omega) | kernel_rfl) ?_
              | refine RegW.run ?_
              | refine ⟨_, f1, ?_⟩
              | fail
            all_goals first
              | exact ⟨0 + 1, ⟨by omega, hr⟩, ⟨[], ⟨by kernel_rfl, by kernel_rfl, by kernel_rfl, by kernel_rfl, by kernel_rfl, by kernel_rfl, by kernel_rfl⟩, (by repeat' first | exact trivial | exact rfl | kernel_rfl | exact Dle.of_eq rfl | exact MLe.of_eq rfl | exact Dle.i (by omega) | exact Dle.i (by simp only [Int.toNat_natCast] at *; omega) | exact Dle.nil | exact Dle.rc Dle.nil | exact Option.some_ne_none _ | exact Or.inl rfl | exact Or.inr trivial | omega | (simp only [Int.toNat_natCast] at *; omega) | (intro _ _ _ _; exact Dle.of_eq rfl) | refine And.intro ?_ ?_)⟩, by first | omega | (dsimp only; omega)⟩
              | (exfalso; rename_i h; cases h; done)
              | trace_state
          · have hr := hn rfl
            repeat' first
              | (refine codeW_cond rfl ?_; first | (refine condW_dec ?_ ?_ <;> intro _ <;> try (exfalso; omega)) | refine condW_not ?_ | (refine condW_bool ?_ ?_ <;> intro _ <;> try (exfalso; omega)))
              | (refine facW_intro ?_; intro _)
              | refine Or.inl ?_
              | ((conv => whnf); first | (refine condW_dec ?_ ?_ <;> intro _ <;> try (exfalso; omega)) | refine condW_not ?_ | (refine condW_bool ?_ ?_ <;> intro _ <;> try (exfalso; omega)) | (refine nbC_t (fun _ => ?_) ?_) | (refine nbC_f ?_ (fun _ => ?_)))
              | refine And.intro (by first | omega | (simp only [Int.toNat_natCast] at *; omega) | (simp only [Nat.reduceAdd, Int.cast_ofNat_Int, true_and, and_true]; omega) | kernel_rfl) ?_
              | refine RegW.run ?_
              | refine ⟨_, f1, ?_⟩
              | fail
            all_goals first
              | exact Dle.i hr.symm
              | (exfalso; rename_i h; cases h; done)
              | trace_state
        | 1, _ =>
          have f1 := f0 (⟨#[116, 114, 97, 110, 115, 108, 97, 116, 105, 111, 110]⟩ : ByteArray)
          have hn : inK c.keys c.keys.length (⟨#[116, 114, 97, 110, 115, 108, 97, 116, 105, 111, 110]⟩ : ByteArray) = true → r = 12 := hn
          have hs : inK c.keys c.keys.length (⟨#[116, 114, 97, 110, 115, 108, 97, 116, 105, 111, 110]⟩ : ByteArray) = false → allN (1 + 1) (fun i => !inK c.keys c.keys.length (fiveL.getD i ⟨#[]⟩)) = true := hs
          generalize inK c.keys c.keys.length (⟨#[116, 114, 97, 110, 115, 108, 97, 116, 105, 111, 110]⟩ : ByteArray) = z at f1 hn hs
          cases z
          · have hr := hs rfl
            repeat' first
              | (refine codeW_cond rfl ?_; first | (refine condW_dec ?_ ?_ <;> intro _ <;> try (exfalso; omega)) | refine condW_not ?_ | (refine condW_bool ?_ ?_ <;> intro _ <;> try (exfalso; omega)))
              | (refine facW_intro ?_; intro _)
              | refine Or.inl ?_
              | ((conv => whnf); first | (refine condW_dec ?_ ?_ <;> intro _ <;> try (exfalso; omega)) | refine condW_not ?_ | (refine condW_bool ?_ ?_ <;> intro _ <;> try (exfalso; omega)) | (refine nbC_t (fun _ => ?_) ?_) | (refine nbC_f ?_ (fun _ => ?_)))
              | refine And.intro (by first | omega | (simp only [Int.toNat_natCast] at *; omega) | (simp only [Nat.reduceAdd, Int.cast_ofNat_Int, true_and, and_true]; omega) | kernel_rfl) ?_
              | refine RegW.run ?_
              | refine ⟨_, f1, ?_⟩
              | fail
            all_goals first
              | exact ⟨1 + 1, ⟨by omega, hr⟩, ⟨[], ⟨by kernel_rfl, by kernel_rfl, by kernel_rfl, by kernel_rfl, by kernel_rfl, by kernel_rfl, by kernel_rfl⟩, (by repeat' first | exact trivial | exact rfl | kernel_rfl | exact Dle.of_eq rfl | exact MLe.of_eq rfl | exact Dle.i (by omega) | exact Dle.i (by simp only [Int.toNat_natCast] at *; omega) | exact Dle.nil | exact Dle.rc Dle.nil | exact Option.some_ne_none _ | exact Or.inl rfl | exact Or.inr trivial | omega | (simp only [Int.toNat_natCast] at *; omega) | (intro _ _ _ _; exact Dle.of_eq rfl) | refine And.intro ?_ ?_)⟩, by first | omega | (dsimp only; omega)⟩
              | (exfalso; rename_i h; cases h; done)
              | trace_state
          · have hr := hn rfl
            repeat' first
              | (refine codeW_cond rfl ?_; first | (refine condW_dec ?_ ?_ <;> intro _ <;> try (exfalso; omega)) | refine condW_not ?_ | (refine condW_bool ?_ ?_ <;> intro _ <;> try (exfalso; omega)))
              | (refine facW_intro ?_; intro _)
              | refine Or.inl ?_
              | ((conv => whnf); first | (refine condW_dec ?_ ?_ <;> intro _ <;> try (exfalso; omega)) | refine condW_not ?_ | (refine condW_bool ?_ ?_ <;> intro _ <;> try (exfalso; omega)) | (refine nbC_t (fun _ => ?_) ?_) | (refine nbC_f ?_ (fun _ => ?_)))
              | refine And.intro (by first | omega | (simp only [Int.toNat_natCast] at *; omega) | (simp only [Nat.reduceAdd, Int.cast_ofNat_Int, true_and, and_true]; omega) | kernel_rfl) ?_
              | refine RegW.run ?_
              | refine ⟨_, f1, ?_⟩
              | fail
            all_goals first
              | exact Dle.i hr.symm
              | (exfalso; rename_i h; cases h; done)
              | trace_state
        | 2, _ =>
          have f1 := f0 (⟨#[97, 108, 105, 97, 115, 101, 115]⟩ : ByteArray)
          have hn : inK c.keys c.keys.length (⟨#[97, 108, 105, 97, 115, 101, 115]⟩ : ByteArray) = true → r = 12 := hn
          have hs : inK c.keys c.keys.length (⟨#[97, 108, 105, 97, 115, 101, 115]⟩ : ByteArray) = false → allN (2 + 1) (fun i => !inK c.keys c.keys.length (fiveL.getD i ⟨#[]⟩)) = true := hs
          generalize inK c.keys c.keys.length (⟨#[97, 108, 105, 97, 115, 101, 115]⟩ : ByteArray) = z at f1 hn hs
          cases z
          · have hr := hs rfl
            repeat' first
              | (refine codeW_cond rfl ?_; first | (refine condW_dec ?_ ?_ <;> intro _ <;> try (exfalso; omega)) | refine condW_not ?_ | (refine condW_bool ?_ ?_ <;> intro _ <;> try (exfalso; omega)))
              | (refine facW_intro ?_; intro _)
              | refine Or.inl ?_
              | ((conv => whnf); first | (refine condW_dec ?_ ?_ <;> intro _ <;> try (exfalso; omega)) | refine condW_not ?_ | (refine condW_bool ?_ ?_ <;> intro _ <;> try (exfalso; omega)) | (refine nbC_t (fun _ => ?_) ?_) | (refine nbC_f ?_ (fun _ => ?_)))
              | refine And.intro (by first | omega | (simp only [Int.toNat_natCast] at *; omega) | (simp only [Nat.reduceAdd, Int.cast_ofNat_Int, true_and, and_true]; omega) | kernel_rfl) ?_
              | refine RegW.run ?_
              | refine ⟨_, f1, ?_⟩
              | fail
            all_goals first
              | exact ⟨2 + 1, ⟨by omega, hr⟩, ⟨[], ⟨by kernel_rfl, by kernel_rfl, by kernel_rfl, by kernel_rfl, by kernel_rfl, by kernel_rfl, by kernel_rfl⟩, (by repeat' first | exact trivial | exact rfl | kernel_rfl | exact Dle.of_eq rfl | exact MLe.of_eq rfl | exact Dle.i (by omega) | exact Dle.i (by simp only [Int.toNat_natCast] at *; omega) | exact Dle.nil | exact Dle.rc Dle.nil | exact Option.some_ne_none _ | exact Or.inl rfl | exact Or.inr trivial | omega | (simp only [Int.toNat_natCast] at *; omega) | (intro _ _ _ _; exact Dle.of_eq rfl) | refine And.intro ?_ ?_)⟩, by first | omega | (dsimp only; omega)⟩
              | (exfalso; rename_i h; cases h; done)
              | trace_state
          · have hr := hn rfl
            repeat' first
              | (refine codeW_cond rfl ?_; first | (refine condW_dec ?_ ?_ <;> intro _ <;> try (exfalso; omega)) | refine condW_not ?_ | (refine condW_bool ?_ ?_ <;> intro _ <;> try (exfalso; omega)))
              | (refine facW_intro ?_; intro _)
              | refine Or.inl ?_
              | ((conv => whnf); first | (refine condW_dec ?_ ?_ <;> intro _ <;> try (exfalso; omega)) | refine condW_not ?_ | (refine condW_bool ?_ ?_ <;> intro _ <;> try (exfalso; omega)) | (refine nbC_t (fun _ => ?_) ?_) | (refine nbC_f ?_ (fun _ => ?_)))
              | refine And.intro (by first | omega | (simp only [Int.toNat_natCast] at *; omega) | (simp only [Nat.reduceAdd, Int.cast_ofNat_Int, true_and, and_true]; omega) | kernel_rfl) ?_
              | refine RegW.run ?_
              | refine ⟨_, f1, ?_⟩
              | fail
            all_goals first
              | exact Dle.i hr.symm
              | (exfalso; rename_i h; cases h; done)
              | trace_state
        | 3, _ =>
          have f1 := f0 (⟨#[109, 101, 110, 117, 115]⟩ : ByteArray)
          have hn : inK c.keys c.keys.length (⟨#[109, 101, 110, 117, 115]⟩ : ByteArray) = true → r = 12 := hn
          have hs : inK c.keys c.keys.length (⟨#[109, 101, 110, 117, 115]⟩ : ByteArray) = false → allN (3 + 1) (fun i => !inK c.keys c.keys.length (fiveL.getD i ⟨#[]⟩)) = true := hs
          generalize inK c.keys c.keys.length (⟨#[109, 101, 110, 117, 115]⟩ : ByteArray) = z at f1 hn hs
          cases z
          · have hr := hs rfl
            repeat' first
              | (refine codeW_cond rfl ?_; first | (refine condW_dec ?_ ?_ <;> intro _ <;> try (exfalso; omega)) | refine condW_not ?_ | (refine condW_bool ?_ ?_ <;> intro _ <;> try (exfalso; omega)))
              | (refine facW_intro ?_; intro _)
              | refine Or.inl ?_
              | ((conv => whnf); first | (refine condW_dec ?_ ?_ <;> intro _ <;> try (exfalso; omega)) | refine condW_not ?_ | (refine condW_bool ?_ ?_ <;> intro _ <;> try (exfalso; omega)) | (refine nbC_t (fun _ => ?_) ?_) | (refine nbC_f ?_ (fun _ => ?_)))
              | refine And.intro (by first | omega | (simp only [Int.toNat_natCast] at *; omega) | (simp only [Nat.reduceAdd, Int.cast_ofNat_Int, true_and, and_true]; omega) | kernel_rfl) ?_
              | refine RegW.run ?_
              | refine ⟨_, f1, ?_⟩
              | fail
            all_goals first
              | exact ⟨3 + 1, ⟨by omega, hr⟩, ⟨[], ⟨by kernel_rfl, by kernel_rfl, by kernel_rfl, by kernel_rfl, by kernel_rfl, by kernel_rfl, by kernel_rfl⟩, (by repeat' first | exact trivial | exact rfl | kernel_rfl | exact Dle.of_eq rfl | exact MLe.of_eq rfl | exact Dle.i (by omega) | exact Dle.i (by simp only [Int.toNat_natCast] at *; omega) | exact Dle.nil | exact Dle.rc Dle.nil | exact Option.some_ne_none _ | exact Or.inl rfl | exact Or.inr trivial | omega | (simp only [Int.toNat_natCast] at *; omega) | (intro _ _ _ _; exact Dle.of_eq rfl) | refine And.intro ?_ ?_)⟩, by first | omega | (dsimp only; omega)⟩
              | (exfalso; rename_i h; cases h; done)
              | trace_state
          · have hr := hn rfl
            repeat' first
              | (refine codeW_cond rfl ?_; first | (refine condW_dec ?_ ?_ <;> intro _ <;> try (exfalso; omega)) | refine condW_not ?_ | (refine condW_bool ?_ ?_ <;> intro _ <;> try (exfalso; omega)))
              | (refine facW_intro ?_; intro _)
              | refine Or.inl ?_
              | ((conv => whnf); first | (refine condW_dec ?_ ?_ <;> intro _ <;> try (exfalso; omega)) | refine condW_not ?_ | (refine condW_bool ?_ ?_ <;> intro _ <;> try (exfalso; omega)) | (refine nbC_t (fun _ => ?_) ?_) | (refine nbC_f ?_ (fun _ => ?_)))
              | refine And.intro (by first | omega | (simp only [Int.toNat_natCast] at *; omega) | (simp only [Nat.reduceAdd, Int.cast_ofNat_Int, true_and, and_true]; omega) | kernel_rfl) ?_
              | refine RegW.run ?_
              | refine ⟨_, f1, ?_⟩
              | fail
            all_goals first
              | exact Dle.i hr.symm
              | (exfalso; rename_i h; cases h; done)
              | trace_state
        | 4, _ =>
          have f1 := f0 (⟨#[99, 97, 115, 99, 97, 100, 101]⟩ : ByteArray)
          have hn : inK c.keys c.keys.length (⟨#[99, 97, 115, 99, 97, 100, 101]⟩ : ByteArray) = true → r = 12 := hn
          have hs : inK c.keys c.keys.length (⟨#[99, 97, 115, 99, 97, 100, 101]⟩ : ByteArray) = false → allN (4 + 1) (fun i => !inK c.keys c.keys.length (fiveL.getD i ⟨#[]⟩)) = true := hs
          generalize inK c.keys c.keys.length (⟨#[99, 97, 115, 99, 97, 100, 101]⟩ : ByteArray) = z at f1 hn hs
          cases z
          · have hr := hs rfl
            repeat' first
              | (refine codeW_cond rfl ?_; first | (refine condW_dec ?_ ?_ <;> intro _ <;> try (exfalso; omega)) | refine condW_not ?_ | (refine condW_bool ?_ ?_ <;> intro _ <;> try (exfalso; omega)))
              | (refine facW_intro ?_; intro _)
              | refine Or.inl ?_
              | ((conv => whnf); first | (refine condW_dec ?_ ?_ <;> intro _ <;> try (exfalso; omega)) | refine condW_not ?_ | (refine condW_bool ?_ ?_ <;> intro _ <;> try (exfalso; omega)) | (refine nbC_t (fun _ => ?_) ?_) | (refine nbC_f ?_ (fun _ => ?_)))
              | refine And.intro (by first | omega | (simp only [Int.toNat_natCast] at *; omega) | (simp only [Nat.reduceAdd, Int.cast_ofNat_Int, true_and, and_true]; omega) | kernel_rfl) ?_
              | refine RegW.run ?_
              | refine ⟨_, f1, ?_⟩
              | fail
            all_goals first
              | exact ⟨4 + 1, ⟨by omega, hr⟩, ⟨[], ⟨by kernel_rfl, by kernel_rfl, by kernel_rfl, by kernel_rfl, by kernel_rfl, by kernel_rfl, by kernel_rfl⟩, (by repeat' first | exact trivial | exact rfl | kernel_rfl | exact Dle.of_eq rfl | exact MLe.of_eq rfl | exact Dle.i (by omega) | exact Dle.i (by simp only [Int.toNat_natCast] at *; omega) | exact Dle.nil | exact Dle.rc Dle.nil | exact Option.some_ne_none _ | exact Or.inl rfl | exact Or.inr trivial | omega | (simp only [Int.toNat_natCast] at *; omega) | (intro _ _ _ _; exact Dle.of_eq rfl) | refine And.intro ?_ ?_)⟩, by first | omega | (dsimp only; omega)⟩
              | (exfalso; rename_i h; cases h; done)
              | trace_state
          · have hr := hn rfl
            repeat' first
              | (refine codeW_cond rfl ?_; first | (refine condW_dec ?_ ?_ <;> intro _ <;> try (exfalso; omega)) | refine condW_not ?_ | (refine condW_bool ?_ ?_ <;> intro _ <;> try (exfalso; omega)))
              | (refine facW_intro ?_; intro _)
              | refine Or.inl ?_
              | ((conv => whnf); first | (refine condW_dec ?_ ?_ <;> intro _ <;> try (exfalso; omega)) | refine condW_not ?_ | (refine condW_bool ?_ ?_ <;> intro _ <;> try (exfalso; omega)) | (refine nbC_t (fun _ => ?_) ?_) | (refine nbC_f ?_ (fun _ => ?_)))
              | refine And.intro (by first | omega | (simp only [Int.toNat_natCast] at *; omega) | (simp only [Nat.reduceAdd, Int.cast_ofNat_Int, true_and, and_true]; omega) | kernel_rfl) ?_
              | refine RegW.run ?_
              | refine ⟨_, f1, ?_⟩
              | fail
            all_goals first
              | exact Dle.i hr.symm
              | (exfalso; rename_i h; cases h; done)
              | trace_state
  · rw [hwB] at c1 hr
    have hr := hr.trans (if_pos rfl)
    refine Sp.body Tryz.func94 (by kernel_rfl) rfl (by kernel_rfl) (by kernel_rfl) (by kernel_rfl) ?_
    repeat' first
      | (refine codeW_cond rfl ?_; first | (refine condW_dec ?_ ?_ <;> intro _ <;> try (exfalso; omega)) | refine condW_not ?_ | (refine condW_bool ?_ ?_ <;> intro _ <;> try (exfalso; omega)))
      | (refine facW_intro ?_; intro _)
      | refine Or.inl ?_
      | ((conv => whnf); first | (refine condW_dec ?_ ?_ <;> intro _ <;> try (exfalso; omega)) | refine condW_not ?_ | (refine condW_bool ?_ ?_ <;> intro _ <;> try (exfalso; omega)) | (refine nbC_t (fun _ => ?_) ?_) | (refine nbC_f ?_ (fun _ => ?_)))
      | refine And.intro (by first | omega | (simp only [Int.toNat_natCast] at *; omega) | (simp only [Nat.reduceAdd, Int.cast_ofNat_Int, true_and, and_true]; omega) | kernel_rfl) ?_
      | refine RegW.run ?_
      | refine ⟨_, c1, ?_⟩
      | fail
    all_goals first
      | exact Dle.i hr.symm
      | (exfalso; rename_i h; cases h; done)
      | trace_state
end
end ts
end Go.Proofs.YtdpbgpkjlbdbfaaGreatDoor
