/-
  Titles of parts of paths: the program's walk, by hand. Titles of parts of paths: the reference; the law of paths.
-/
import Derived.Test.YtiaibkbflmamgaaGreatDoorRp8
import Derived.Test.YtiaibkbflmamgaaGreatDoorTp4
namespace Go.Proofs.YtiaibkbflmamgaaGreatDoor
open Go.RowKit
set_option linter.unusedVariables false
set_option linter.unusedSimpArgs false
namespace tp
open pn rp
/-- A byte of a title. -/
def tC (x : UInt8) : UInt8 := if x = 45 ∨ x = 95 ∨ x = 46 then 32 else x
/-- Its first byte. -/
def tH (x : UInt8) : UInt8 := if 97 ≤ x.toNat ∧ x.toNat ≤ 122 then x - 32 else x
/-- A title. -/
def title : List UInt8 → List UInt8
  | [] => []
  | x :: l => tH (tC x) :: l.map tC
set_option maxRecDepth 100000 in
theorem small_raw (x : Nat) (w : World) : Calls Tryz.prog 28 #[.int .u8 x] w fun e w' => e = .returned (.bool (decide (97 ≤ x ∧ x ≤ 122))) ∧ w' = w := by
  by_cases h1 : 97 ≤ x
  · have e1 : decide (97 ≤ (x : Int)) = true := by simp; omega
    by_cases h2 : x ≤ 122
    · have e2 : decide ((x : Int) ≤ 122) = true := by simp; omega
      have e3 : decide (97 ≤ x ∧ x ≤ 122) = true := by simp; omega
      rw [e3]
      clear e3 h1 h2
      go_enter Tryz.func28, Tryz.ntmps28
      go_wp2
      go_ret
      exact ⟨rfl, rfl⟩
    · have e2 : decide ((x : Int) ≤ 122) = false := by simp; omega
      have e3 : decide (97 ≤ x ∧ x ≤ 122) = false := by simp; omega
      rw [e3]
      clear e3 h1 h2
      go_enter Tryz.func28, Tryz.ntmps28
      go_wp2
      go_ret
      exact ⟨rfl, rfl⟩
  · have e1 : decide (97 ≤ (x : Int)) = false := by simp; omega
    have e3 : decide (97 ≤ x ∧ x ≤ 122) = false := by simp; omega
    rw [e3]
    clear e3 h1
    go_enter Tryz.func28, Tryz.ntmps28
    go_wp2
    go_ret
    exact ⟨rfl, rfl⟩
def TL (s : ByteArray) (w : World) (B : Nat) (v10 : Value) (wr : World) : Prop := ∃ (m : Nat) (f : Nat → UInt8), m ≤ s.size ∧ v10 = .int .i64 m ∧ Below w.heap.size w wr ∧ BRow wr B s.size f ∧ Hid (∀ t, t < s.size → f t = if t < m then tC (bAt s t) else bAt s t)
theorem title_at : ∀ (l : List UInt8) (i : Nat) (h : i < l.length) (h2 : i < (title l).length), (if i = 0 then tH (tC l[i]) else tC l[i]) = (title l)[i]
  | [], _, h, _ => absurd h (Nat.not_lt_zero _)
  | x :: l, 0, _, _ => rfl
  | x :: l, i + 1, _, _ => by simp [title]
theorem title_map (s : ByteArray) (f : Nat → UInt8) (h : ∀ t, t < s.size → f t = if t = 0 then tH (tC (bAt s t)) else tC (bAt s t)) : (List.range s.size).map f = title s.data.toList := by
  apply List.ext_getElem
  · cases h0 : s.data.toList with
    | nil => have := congrArg List.length h0; simp at this; simp [title, this]
    | cons x l => have := congrArg List.length h0; simp at this; simp [title, this]
  · intro i h1 h2
    have hi : i < s.size := by simpa using h1
    have hb := bAt_get s i (by simpa using hi)
    rw [List.getElem_map, List.getElem_range, h i hi, ← hb]
    exact title_at _ i _ h2
set_option maxRecDepth 100000 in
set_option maxHeartbeats 3200000 in
theorem titleOf_raw (s : ByteArray) (hs0 : s.size ≤ 281474976710656) (w : World) :
    Calls Tryz.prog 12 #[.string s] w fun e w' => e = .returned (.string ⟨(title s.data.toList).toArray⟩) ∧ Below w.heap.size w w' := by
  have hs : s.size ≤ maxLen := by unfold maxLen; omega
  obtain ⟨Q, cQ, W5, hQ, hcQ, hsc, hcm, hB5, hR5⟩ := brow_conv w s hs
  have hQl : w.heap.size ≤ Q := by omega
  have HQ := hide hQ
  clear hQ
  go_enter Tryz.func12, Tryz.ntmps12
  go_wp2_with fail
  clear hcQ
  go_loopw [10] (TL s w Q) (fun v10 _ => s.size - (intOf v10).toNat)
  case atStart => exact ⟨0, _, Nat.zero_le _, rfl, hB5, hR5, hide (fun t ht => by rw [if_neg (by omega)])⟩
  case round =>
    obtain ⟨m, f, hm, rfl, hB, hR, hf⟩ := hrel
    by_cases hlt : m < s.size
    · have hmi : (m : Int) < s.size := by omega
      have hfm : f m = bAt s m := by rw [hf.out m hlt, if_neg (by omega)]
      have c1 := hR.cell hlt
      have z1 := hR.frozen hlt
      rw [hfm] at c1
      obtain ⟨X, hX⟩ : ∃ X, X = (bAt s m).toNat := ⟨_, rfl⟩
      rw [← hX] at c1
      have HX := hide hX
      have HF := hide hfm
      have hR2 := hR.set (i := m) 32
      rw [show (32 : UInt8).toNat = 32 from rfl] at hR2
      have HR2 := hide hR2
      have hno : ¬ (X = 45 ∨ X = 95 ∨ X = 46) → tC (bAt s m) = bAt s m := fun h => by
        unfold tC
        rw [if_neg (fun h2 => h (by rw [HX.out]; rcases h2 with h2 | h2 | h2 <;> rw [h2] <;> decide))]
      have hyes : (X = 45 ∨ X = 95 ∨ X = 46) → tC (bAt s m) = 32 := fun h => by
        unfold tC
        rw [if_pos]
        rw [HX.out] at h
        rcases h with h | h | h
        · exact .inl (UInt8.toNat_inj.1 h)
        · exact .inr (.inl (UInt8.toNat_inj.1 h))
        · exact .inr (.inr (UInt8.toNat_inj.1 h))
      have HN := hide hno
      have HY := hide hyes
      have stay : ¬ (X = 45 ∨ X = 95 ∨ X = 46) → TL s w Q (.int .i64 ((m : Int) + 1)) wr := fun h => by
        refine ⟨m + 1, f, hlt, by go_num, hB, hR, hide (fun t ht => ?_)⟩
        rw [hf.out t ht]
        by_cases e : t = m
        · rw [if_neg (by omega), if_pos (by omega), e, HN.out h]
        · by_cases e2 : t < m
          · rw [if_pos e2, if_pos (by omega)]
          · rw [if_neg e2, if_neg (by omega)]
      have turn : (X = 45 ∨ X = 95 ∨ X = 46) → TL s w Q (.int .i64 ((m : Int) + 1)) (wr.setCell ⟨Q, m, none⟩ (.int .u8 32)) := fun h => by
        refine ⟨m + 1, _, hlt, by go_num, set_below hB hQl _, HR2.out, hide (fun t ht => ?_)⟩
        by_cases e : t = m
        · rw [if_pos e, if_pos (by omega), e, HY.out h]
        · rw [if_neg e, hf.out t ht]
          by_cases e2 : t < m
          · rw [if_pos e2, if_pos (by omega)]
          · rw [if_neg e2, if_neg (by omega)]
      have STAY := hide stay
      have TURN := hide turn
      clear hX hfm hR2 hno hyes stay turn
      by_cases h1 : X = 45
      · have e1 : ((X : Int) == 45) = true := by rw [h1]; rfl
        have H := hide (TURN.out (.inl h1))
        clear h1
        go_wp2_with fail
        go_roundw
        case rel => exact H.out
        case measure => simp [intOf]; omega
      · have e1 : ((X : Int) == 45) = false := by simp; omega
        by_cases h2 : X = 95
        · have e2 : ((X : Int) == 95) = true := by rw [h2]; rfl
          have H := hide (TURN.out (.inr (.inl h2)))
          clear h1 h2
          go_wp2_with fail
          go_roundw
          case rel => exact H.out
          case measure => simp [intOf]; omega
        · have e2 : ((X : Int) == 95) = false := by simp; omega
          by_cases h3 : X = 46
          · have e3 : ((X : Int) == 46) = true := by rw [h3]; rfl
            have H := hide (TURN.out (.inr (.inr h3)))
            clear h1 h2 h3
            go_wp2_with fail
            go_roundw
            case rel => exact H.out
            case measure => simp [intOf]; omega
          · have e3 : ((X : Int) == 46) = false := by simp; omega
            have H := hide (STAY.out (by omega))
            clear h1 h2 h3
            go_wp2_with fail
            go_roundw
            case rel => exact H.out
            case measure => simp [intOf]; omega
    · obtain rfl : m = s.size := by omega
      have hf2 : ∀ t, t < s.size → f t = tC (bAt s t) := fun t ht => by rw [hf.out t ht, if_pos ht]
      by_cases h0 : s.size = 0
      · have hcv := brow_back (c := cQ) hR
        rw [title_map s f (fun t ht => absurd ht (by rw [h0]; exact Nat.not_lt_zero t))] at hcv
        have hi0 : ¬ ((0 : Int) < s.size) := by omega
        clear hf hf2 h0
        go_wp2_with fail
        go_ret
        exact ⟨rfl, hB⟩
      · have h00 : 0 < s.size := by omega
        have hi0 : (0 : Int) < s.size := by omega
        have e0 : decide ((s.size : Int) > 0) = true := decide_eq_true (by omega)
        have c1 := hR.cell h00
        have z1 := hR.frozen h00
        obtain ⟨X, hX⟩ : ∃ X, X = (f 0).toNat := ⟨_, rfl⟩
        rw [← hX] at c1
        have hX2 : X = (tC (bAt s 0)).toNat := by rw [hX, hf2 0 h00]
        have hXl : X < 256 := by rw [hX]; exact UInt8.toNat_lt _
        by_cases hsm : 97 ≤ X ∧ X ≤ 122
        · have hsr := small_raw X
          rw [decide_eq_true hsm] at hsr
          have hR2 := hR.set (i := 0) (f 0 - 32)
          have hsub : (f 0 - 32).toNat = X - 32 := by
            rw [UInt8.toNat_sub_of_le _ _ (by rw [UInt8.le_iff_toNat_le]; show 32 ≤ (f 0).toNat; omega), ← hX]; rfl
          rw [hsub] at hR2
          have hcv := brow_back (c := cQ) hR2
          rw [title_map s _ (fun t ht => by
            by_cases e : t = 0
            · rw [if_pos e, if_pos e]
              unfold tH
              rw [e, if_pos (by rw [← hX2]; exact hsm), hf2 0 h00]
            · rw [if_neg e, if_neg e, hf2 t ht])] at hcv
          have hw : (X : Int) - 32 = ((X - 32 : Nat) : Int) := by omega
          have hBB := hide (set_below hB hQl (i := 0) (.int .u8 ((X - 32 : Nat) : Int)))
          clear hf hf2 hX hX2 hR2 hsub
          go_wp2_with (go_at_call 28; refine (hsr _).mono ?_; rintro e w' ⟨rfl, rfl⟩)
          go_ret
          exact ⟨rfl, hBB.out⟩
        · have hsr := small_raw X
          rw [decide_eq_false hsm] at hsr
          have hcv := brow_back (c := cQ) hR
          rw [title_map s f (fun t ht => by
            rw [hf2 t ht]
            by_cases e : t = 0
            · rw [if_pos e]
              unfold tH
              rw [if_neg (by rw [e, ← hX2]; exact hsm)]
            · rw [if_neg e])] at hcv
          clear hf hf2 hX hX2
          go_wp2_with (go_at_call 28; refine (hsr _).mono ?_; rintro e w' ⟨rfl, rfl⟩)
          go_ret
          exact ⟨rfl, hB⟩
end tp
end Go.Proofs.YtiaibkbflmamgaaGreatDoor
namespace Go.Proofs.YtiaibkbflmamgaaGreatDoor
open Go.RowKit
set_option linter.unusedVariables false
set_option linter.unusedSimpArgs false
namespace tp
open pn rp
/-- The pairs of a title. -/
def tpL : List ByteArray := [⟨#[45]⟩, ⟨#[32]⟩, ⟨#[95]⟩, ⟨#[32]⟩, ⟨#[46]⟩, ⟨#[32]⟩]
theorem tp_pbs : Pbs (pr tpL) 3 where
  n2 := by decide
  n100 := by decide
  old := by decide
  new := by decide
  two := fun i j hi hj h => (by decide : ∀ i, i < 3 → ∀ j, j < 3 → bAt (pr tpL (2 * i)) 0 = bAt (pr tpL (2 * j)) 0 → i = j) i hi j hj h
theorem tp_rC (x : UInt8) : rC (pr tpL) 3 x = tC x := by
  unfold rC tC
  have e : (List.range 3).find? (fun i => bAt (pr tpL (2 * i)) 0 == x) = if x = 45 then some 0 else if x = 95 then some 1 else if x = 46 then some 2 else none := by
    show ([0, 1, 2] : List Nat).find? (fun i => bAt (pr tpL (2 * i)) 0 == x) = _
    simp only [List.find?_cons, List.find?_nil]
    by_cases h1 : x = 45
    · subst h1; rfl
    · rw [if_neg h1, show (bAt (pr tpL (2 * 0)) 0 == x) = false by show ((45 : UInt8) == x) = false; simpa using fun h => h1 h.symm]
      by_cases h2 : x = 95
      · subst h2; rfl
      · rw [if_neg h2, show (bAt (pr tpL (2 * 1)) 0 == x) = false by show ((95 : UInt8) == x) = false; simpa using fun h => h2 h.symm]
        by_cases h3 : x = 46
        · subst h3; rfl
        · rw [if_neg h3, show (bAt (pr tpL (2 * 2)) 0 == x) = false by show ((46 : UInt8) == x) = false; simpa using fun h => h3 h.symm]
  rw [e]
  by_cases h1 : x = 45
  · subst h1; rfl
  · by_cases h2 : x = 95
    · subst h2; rfl
    · by_cases h3 : x = 46
      · subst h3; rfl
      · rw [if_neg h1, if_neg h2, if_neg h3, if_neg (by simp [h1, h2, h3])]
theorem tp_rep (s : ByteArray) : repS tpL s = bs (s.data.toList.map tC) := by
  unfold repS bs
  rw [show tpL.length / 2 = 3 from rfl, outB_map tp_pbs]
  congr 2
  exact List.map_congr_left fun x _ => tp_rC x
theorem title_eq (l : List UInt8) : title l = match l.map tC with | [] => [] | x :: r => tH x :: r := by cases l <;> rfl
section
variable (E : Env)
theorem newT_l (A L : Nat) (hAL : A ≠ L) : SpH (cx Tryz.prog mixed tyT_ok E) 32 [.own A 1 0 6] [(A, .row 9 6 (rowL tpL))] (.ptr L 0) [(L, .cells (rpC tpL))] := by
  have h := (newRow_sp E tpL 3 rfl (by decide) (by decide)).to2 2001 2000 A L
  have h1 : ren2 2001 2000 A L 2001 = A := ren2_l (by decide) hAL
  have h2 : ren2 2001 2000 A L 2000 = L := ren2_r _ _ _ _
  simpa only [D.renL, D.ren, renH, Ob.ren, h1, h2, rpC, encStrs, List.map_cons, List.map_nil] using h
theorem replT_l (L : Nat) (s : ByteArray) (hs : s.size ≤ 140737488351232) : SpH (cx Tryz.prog mixed tyT_ok E) 33 [.ptr L 0, dS s] [(L, .cells (rpC tpL))] (dS (repS tpL s)) [] := by
  have h := (replaceB_sp E tpL 3 rfl tp_pbs s hs).swap 2000 L
  simpa only [D.renL, D.ren, renH, Ob.ren, swp_l, rpC, encStrs, List.map_cons, List.map_nil] using h
theorem titleOf_sp (s : ByteArray) (hs : s.size ≤ 140737488351232) : Sp (cx Tryz.prog mixed tyT_ok E) 12 [dS s] (dS ⟨(title s.data.toList).toArray⟩) :=
  Sp.of_v (vs := [.string s]) (x := .string ⟨(title s.data.toList).toArray⟩) ⟨_, _, Tryz.func12, by kernel_rfl, rfl⟩ (decide_eq_true (by
    have : (title s.data.toList).length = s.size := by cases h : s.data.toList with
      | nil => have := congrArg List.length h; simp at this; simp [title, this]
      | cons x l => have := congrArg List.length h; simp at this; simp [title, this]
    show (title s.data.toList).toArray.size ≤ maxLen
    rw [List.size_toArray, this]
    unfold maxLen
    omega)) (fun w _ => titleOf_raw s (by omega) w)
set_option maxRecDepth 100000
set_option maxHeartbeats 4000000 in
theorem titleR_sp (s : ByteArray) (hs : s.size ≤ 140737488351232) : Sp (cx Tryz.prog mixed tyT_ok E) 13 [dS s] (dS ⟨(title s.data.toList).toArray⟩) := by
  have h1 := newT_l E 3 4 (by decide)
  have h2 := replT_l E 4 s hs
  rw [tp_rep] at h2
  have ht := title_eq s.data.toList
  have hsz : (bs (s.data.toList.map tC)).size = s.size := by rw [bs_size, List.length_map]; simp
  generalize s.data.toList.map tC = m at h2 ht hsz
  cases m with
  | nil =>
    rw [show title s.data.toList = [] from ht]
    refine Sp.body Tryz.func13 (by kernel_rfl) rfl (by kernel_rfl) (by kernel_rfl) (by kernel_rfl) ?_
    repeat' first
      | refine Or.inr ⟨_, _, _, h1, by kernel_rfl, (by repeat' first | exact trivial | exact rfl | kernel_rfl | exact Dle.of_eq rfl | exact MLe.of_eq rfl | exact Dle.i (by omega) | exact Dle.i (by simp only [Int.toNat_natCast] at *; omega) | exact Dle.nil | exact Dle.rc Dle.nil | exact Option.some_ne_none _ | exact Or.inl rfl | exact Or.inr trivial | omega | (simp only [Int.toNat_natCast] at *; omega) | (intro _ _ _ _; exact Dle.of_eq rfl) | refine And.intro ?_ ?_), ?_⟩
      | refine Or.inr ⟨_, _, _, h2, by kernel_rfl, (by repeat' first | exact trivial | exact rfl | kernel_rfl | exact Dle.of_eq rfl | exact MLe.of_eq rfl | exact Dle.i (by omega) | exact Dle.i (by simp only [Int.toNat_natCast] at *; omega) | exact Dle.nil | exact Dle.rc Dle.nil | exact Option.some_ne_none _ | exact Or.inl rfl | exact Or.inr trivial | omega | (simp only [Int.toNat_natCast] at *; omega) | (intro _ _ _ _; exact Dle.of_eq rfl) | refine And.intro ?_ ?_), ?_⟩
      | (refine codeW_cond rfl ?_; first | (refine condW_dec ?_ ?_ <;> intro _ <;> try (exfalso; omega)) | refine condW_not ?_ | (refine condW_bool ?_ ?_ <;> intro _ <;> try (exfalso; omega)))
      | (refine facW_intro ?_; intro _)
      | refine Or.inl ?_
      | ((conv => whnf); first | (refine condW_dec ?_ ?_ <;> intro _ <;> try (exfalso; omega)) | refine condW_not ?_ | (refine condW_bool ?_ ?_ <;> intro _ <;> try (exfalso; omega)) | (refine nbC_t (fun _ => ?_) ?_) | (refine nbC_f ?_ (fun _ => ?_)))
      | refine And.intro (by first | omega | (simp only [Int.toNat_natCast] at *; omega) | (simp only [Nat.reduceAdd, Int.cast_ofNat_Int, true_and, and_true]; omega)  | kernel_rfl) ?_
      | refine RegW.run ?_
      | fail
    all_goals first
      | exact Dle.refl _ _
      | (exfalso; rename_i h; exact h rfl)
      | trace_state
  | cons x r =>
    rw [show title s.data.toList = tH x :: r from ht]
    obtain ⟨t, ht0⟩ : ∃ t, t = bs (x :: r) := ⟨_, rfl⟩
    have hb : bAt t (Int.toNat 0) = x := by rw [ht0]; rfl
    have hpos : t.size = r.length + 1 := by rw [ht0, bs_size]; rfl
    have hne : ¬ t = ⟨#[]⟩ := by rw [ht0, bs_ne]; simp
    have htl : t.extract (Int.toNat 1) t.size = bs r := by
      rw [ht0]
      apply toL_ext
      rw [ext_L]
      show ((x :: r).take (bs (x :: r)).size).drop 1 = r
      rw [bs_size, List.take_length]
      rfl
    have hst : (⟨(tH x :: r).toArray⟩ : ByteArray) = mkS 1 (fun _ => tH x) ++ bs r := by
      show bs (tH x :: r) = bs [tH x] ++ bs r
      rw [bs_app]
      rfl
    have hs1 : (mkS 1 fun _ => tH x).size = 1 := rfl
    have hs2 : (bs r).size = r.length := bs_size r
    rw [← ht0] at h2 hsz
    by_cases hx : 97 ≤ (x.toNat : Int) ∧ (x.toNat : Int) ≤ 122
    · have hth : ((tH x).toNat : Int) = (x.toNat : Int) - 32 := by
        unfold tH
        rw [if_pos (by omega), UInt8.toNat_sub_of_le _ _ (by rw [UInt8.le_iff_toNat_le]; show 32 ≤ x.toNat; omega)]
        show ((x.toNat - 32 : Nat) : Int) = _
        omega
      rw [← hb] at hx hth
      refine Sp.body Tryz.func13 (by kernel_rfl) rfl (by kernel_rfl) (by kernel_rfl) (by kernel_rfl) ?_
      have hval : IntKind.u8.wrap (IntKind.u8.wrap (((bAt t (Int.toNat 0)).toNat : Int) - 97) + 65) = (tH x).toNat := by
        rw [← hb, hth]
        simp [IntKind.wrap, IntKind.bits, IntKind.signed] at hx ⊢
        omega
      have hcv : ∀ (n : Int), n = (tH x).toNat → ∀ i, i < Int.toNat 1 → Dle (cx Tryz.prog mixed tyT_ok E) (([.v (.int .u8 n)] : List DD).getD (i * 1 + 0) .opq) (.v (.int .u8 (tH x).toNat)) := by
        intro n hn i hi
        obtain rfl : i = 0 := by have : i < 1 := hi; omega
        rw [hn]
        exact Dle.refl _ _
      rw [← htl] at hs2 hst
      repeat' first
        | refine Or.inr ⟨_, _, _, h1, by kernel_rfl, (by repeat' first | exact trivial | exact rfl | kernel_rfl | exact Dle.of_eq rfl | exact MLe.of_eq rfl | exact Dle.i (by omega) | exact Dle.i (by simp only [Int.toNat_natCast] at *; omega) | exact Dle.nil | exact Dle.rc Dle.nil | exact Option.some_ne_none _ | exact Or.inl rfl | exact Or.inr trivial | omega | (simp only [Int.toNat_natCast] at *; omega) | (intro _ _ _ _; exact Dle.of_eq rfl) | refine And.intro ?_ ?_), ?_⟩
        | refine Or.inr ⟨_, _, _, h2, by kernel_rfl, (by repeat' first | exact trivial | exact rfl | kernel_rfl | exact Dle.of_eq rfl | exact MLe.of_eq rfl | exact Dle.i (by omega) | exact Dle.i (by simp only [Int.toNat_natCast] at *; omega) | exact Dle.nil | exact Dle.rc Dle.nil | exact Option.some_ne_none _ | exact Or.inl rfl | exact Or.inr trivial | omega | (simp only [Int.toNat_natCast] at *; omega) | (intro _ _ _ _; exact Dle.of_eq rfl) | refine And.intro ?_ ?_), ?_⟩
        | (refine ⟨fun _ => tH x, hcv _ hval, ?_⟩)
        | (refine codeW_cond rfl ?_; first | (refine condW_dec ?_ ?_ <;> intro _ <;> try (exfalso; first | omega | (rename_i h; exact hne h))) | refine condW_not ?_ | (refine condW_bool ?_ ?_ <;> intro _ <;> try (exfalso; first | omega | (rename_i h; exact hne h))))
        | (refine facW_intro ?_; intro _)
        | refine Or.inl ?_
        | ((conv => whnf); first | (refine condW_dec ?_ ?_ <;> intro _ <;> try (exfalso; first | omega | (rename_i h; exact hne h))) | refine condW_not ?_ | (refine condW_bool ?_ ?_ <;> intro _ <;> try (exfalso; first | omega | (rename_i h; exact hne h))) | (refine nbC_t (fun _ => ?_) ?_) | (refine nbC_f ?_ (fun _ => ?_)))
        | refine And.intro (by first | omega | (simp only [Int.toNat_natCast] at *; omega) | (simp only [Nat.reduceAdd, Int.cast_ofNat_Int, true_and, and_true]; omega)  | kernel_rfl) ?_
        | refine RegW.run ?_
        | fail
      all_goals first
        | exact Dle.s hst.symm
        | (exfalso; omega)
        | (exfalso; rename_i h; exact hne h)
        | trace_state
    · have hth : tH x = x := by
        unfold tH
        rw [if_neg (by omega)]
      rw [hth]
      have hst2 : (⟨(x :: r).toArray⟩ : ByteArray) = t := by rw [ht0]; rfl
      rw [hst2]
      rw [← hb] at hx
      refine Sp.body Tryz.func13 (by kernel_rfl) rfl (by kernel_rfl) (by kernel_rfl) (by kernel_rfl) ?_
      repeat' first
        | refine Or.inr ⟨_, _, _, h1, by kernel_rfl, (by repeat' first | exact trivial | exact rfl | kernel_rfl | exact Dle.of_eq rfl | exact MLe.of_eq rfl | exact Dle.i (by omega) | exact Dle.i (by simp only [Int.toNat_natCast] at *; omega) | exact Dle.nil | exact Dle.rc Dle.nil | exact Option.some_ne_none _ | exact Or.inl rfl | exact Or.inr trivial | omega | (simp only [Int.toNat_natCast] at *; omega) | (intro _ _ _ _; exact Dle.of_eq rfl) | refine And.intro ?_ ?_), ?_⟩
        | refine Or.inr ⟨_, _, _, h2, by kernel_rfl, (by repeat' first | exact trivial | exact rfl | kernel_rfl | exact Dle.of_eq rfl | exact MLe.of_eq rfl | exact Dle.i (by omega) | exact Dle.i (by simp only [Int.toNat_natCast] at *; omega) | exact Dle.nil | exact Dle.rc Dle.nil | exact Option.some_ne_none _ | exact Or.inl rfl | exact Or.inr trivial | omega | (simp only [Int.toNat_natCast] at *; omega) | (intro _ _ _ _; exact Dle.of_eq rfl) | refine And.intro ?_ ?_), ?_⟩
        | (refine codeW_cond rfl ?_; first | (refine condW_dec ?_ ?_ <;> intro _ <;> try (exfalso; first | omega | (rename_i h; exact hne h))) | refine condW_not ?_ | (refine condW_bool ?_ ?_ <;> intro _ <;> try (exfalso; first | omega | (rename_i h; exact hne h))))
        | (refine facW_intro ?_; intro _)
        | refine Or.inl ?_
        | ((conv => whnf); first | (refine condW_dec ?_ ?_ <;> intro _ <;> try (exfalso; first | omega | (rename_i h; exact hne h))) | refine condW_not ?_ | (refine condW_bool ?_ ?_ <;> intro _ <;> try (exfalso; first | omega | (rename_i h; exact hne h))) | (refine nbC_t (fun _ => ?_) ?_) | (refine nbC_f ?_ (fun _ => ?_)))
        | refine And.intro (by first | omega | (simp only [Int.toNat_natCast] at *; omega) | (simp only [Nat.reduceAdd, Int.cast_ofNat_Int, true_and, and_true]; omega)  | kernel_rfl) ?_
        | refine RegW.run ?_
        | fail
      all_goals first
        | exact Dle.refl _ _
        | (exfalso; omega)
        | (exfalso; rename_i h; exact hne h)
        | trace_state
end
end tp
end Go.Proofs.YtiaibkbflmamgaaGreatDoor
