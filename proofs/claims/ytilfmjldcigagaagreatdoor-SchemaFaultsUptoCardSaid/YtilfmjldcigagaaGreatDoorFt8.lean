/-
  Faults of a value by a schema: conf.Faults.
-/
import Derived.Test.YtilfmjldcigagaaGreatDoorFt5
import Derived.Test.YtilfmjldcigagaaGreatDoorFt7
import Derived.Test.YtilfmjldcigagaaGreatDoorM2
namespace Go.Proofs.YtilfmjldcigagaaGreatDoor
open Go.RowKit
set_option linter.unusedVariables false
set_option pp.maxSteps 300
set_option linter.unusedSimpArgs false
namespace ft
/-- The fields' routes in parts. -/
def rowP (l : List Fd) (i _ : Nat) : DD := encStrs (pcs (l.getD i default).route dot)
section
variable (E : Env)
set_option maxRecDepth 100000
theorem walk_to {f : Fd} {L : List Stp} {l l' : List Flt} {v : Vu} {r : ByteArray} {a b C : Nat} (h : SpH (cx Tryz.prog mixed tyT_ok E) 42 [.ptr 3000 0, encF f, encSteps L, encV v, dS r] (jH l 3000 a) (.tup []) (jH l' 3000 b))
    (e1 : swp 3000 C 3000 = C) (e2 : swp 3000 C a = a) (e3 : swp 3000 C b = b) : SpH (cx Tryz.prog mixed tyT_ok E) 42 [.ptr C 0, encF f, encSteps L, encV v, dS r] (jH l C a) (.tup []) (jH l' C b) := by
  have h := h.swap 3000 C
  simp only [D.renL, D.ren, renH, Ob.ren, encF, encV, encStrs, encSteps, e1, e2, e3] at h
  exact h
theorem add_to (l : List Flt) (hl : l.length ≤ 1000000000000) (r : ByteArray) (k : Int) {C R W : Nat}
    (e1 : swp 15 W (swp 2000 R (swp 3000 C 3000)) = C) (e2 : swp 15 W (swp 2000 R (swp 3000 C 2000)) = R) (e3 : swp 15 W (swp 2000 R (swp 3000 C 15)) = W) :
    SpH (cx Tryz.prog mixed tyT_ok E) 46 [.ptr C 0, dS r, i64 k] (jH l C R) (.tup []) (jH (l ++ [(r, k)]) C W) := by
  have h := (((add_sp E l hl r k).swap 3000 C).swap 2000 R).swap 15 W
  simp only [D.renL, D.ren, renH, Ob.ren, e1, e2, e3] at h
  exact h
theorem row_pat (l : List Fd) (k i j : Nat) (hi : i < k + 1) (hj : j < 1) : Dle (cx Tryz.prog mixed tyT_ok E) (if i < k then rowP l i j else ([encStrs (pcs (l.getD k default).route dot)] : List DD).getD ((i - k + 0) * 1 + j) .opq) (rowP l i j) := by
  obtain rfl : j = 0 := by omega
  split
  · exact Dle.refl _ _
  · obtain rfl : i = k := by omega
    rw [Nat.sub_self]
    exact Dle.refl _ _
set_option maxHeartbeats 8000000 in
theorem faults_sp (hML : ∀ w, E.G w → ML w) (hP : ∀ w, E.G w → P10 w) (l : List Fd) (b : Bool) (v : Vu) (hl : fdOk l) (hlen : l.length ≤ 1000000000) (hw : v.wt ≤ 5000000) : Sp (cx Tryz.prog mixed tyT_ok E) 8 [.agg [encFs l, dB b], encV v] (.tup [encQ (faultsE l b v).1, i64 (faultsE l b v).2]) := by
  have hcw := cnt_le_wt v
  have h1 := checkSchema_sp E hML l b hl hlen
  have h2 := check_sp E v (by omega)
  obtain ⟨q, hq⟩ : ∃ q, q = faultsE l b v := ⟨_, rfl⟩
  rw [← hq]
  unfold faultsE at hq
  by_cases hs : schemaE l = 0
  · rw [if_neg (by rw [hs]; decide)] at hq
    by_cases h0 : checkE v = 0
    · rw [if_neg (by rw [h0]; decide)] at hq
      obtain ⟨hl1, hl2⟩ := schema_ok hs
      have hc : cnt v ≤ 1000 := by unfold checkE at h0; grind
      have hf := check_ok h0
      have hil := len_le_cntL v.items
      have hcv := cnt_eq v
      rw [hs] at h1
      rw [h0] at h2
      have hOL := fun k => outP_max (l := l) (k := k) hf hc hl1
      have hR := routes_any E hP _ v ⟨#[]⟩ [] 1000000 64 (by decide) (Nat.lt_succ_self _) hf (by omega) (by omega) (by show 0 + _ ≤ _; omega) (by simp; omega)
      have hR := SpH.ofNil (X := (cx Tryz.prog mixed tyT_ok E)) (ds := [encV v, dS ⟨#[]⟩]) (g := rowS []) (e := 9) (A := 1000000) (s := 1) rfl (by kernel_rfl) hR
      rw [List.nil_append] at hR
      have hrl := rts_len v ⟨#[]⟩
      have hrs := fun s (h : s ∈ rts v ⟨#[]⟩) => rts_size _ v ⟨#[]⟩ s (Nat.lt_succ_self _) hf (by omega) (by omega) h
      unfold allF at hq
      generalize rts v ⟨#[]⟩ = rs at hq hR hrl hrs
      have hUL := fun k => unkP_len l rs k
      cases b
      · rw [if_neg (by decide), List.append_nil] at hq
        subst hq
        refine Sp.body Tryz.func8 (by kernel_rfl) rfl (by kernel_rfl) (by kernel_rfl) (by kernel_rfl) ?_
        repeat' first
          | (refine facW_intro ?_; intro _)
          | refine Or.inl ?_
          | ((conv => whnf); first | (refine condW_dec ?_ ?_ <;> intro _ <;> try (exfalso; omega)) | refine condW_not ?_ | (refine condW_bool ?_ ?_ <;> intro _ <;> try (exfalso; omega)) | (refine nbC_t (fun _ => ?_) ?_) | (refine nbC_f ?_ (fun _ => ?_)))
          | refine And.intro (by first | omega | (simp only [Int.toNat_natCast] at *; omega) | (simp only [Nat.reduceAdd, Int.cast_ofNat_Int, true_and, and_true]; omega) | kernel_rfl) ?_
          | refine RegW.run ?_
          | refine ⟨_, h1, ?_⟩
          | refine ⟨_, h2, ?_⟩
          | fail
        all_goals try (exfalso; rename_i h; exact h rfl)
        refine ⟨Nat, fun k => [(34, i64 k), (9, .own 43 1 0 k)], fun k => [(30, .cells [.own 34 2 0 (outP l v k).length])], [2, 3], fun k => [(34, 95, (outP l v k).length, rowQ (outP l v k)), (43, 23, k, rowP l)], fun k => k ≤ l.length, fun k => l.length - k, ⟨0, by omega, ⟨[(34, none), (43, none)], ⟨by kernel_rfl, by kernel_rfl, by kernel_rfl, by kernel_rfl, by kernel_rfl, by kernel_rfl, by kernel_rfl⟩, (by repeat' first | exact trivial | exact rfl | kernel_rfl | exact Dle.of_eq rfl | exact MLe.of_eq rfl | exact Dle.i (by omega) | exact Dle.i (by simp only [Int.toNat_natCast] at *; omega) | exact Dle.nil | exact Dle.rc Dle.nil | exact Option.some_ne_none _ | exact Or.inl rfl | exact Or.inr trivial | omega | (simp only [Int.toNat_natCast] at *; omega) | (intro _ _ _ _; exact Dle.of_eq rfl) | refine And.intro ?_ ?_)⟩⟩, fun k hk => ?_⟩
        have hk : k ≤ l.length := hk
        by_cases hlt : k < l.length
        · obtain ⟨f1, f2, f3, f4⟩ := hl2 _ (getD_mem l default k hlt)
          have hst := steps_sp E hML (l.getD k default).route true (by omega)
          rw [f1, if_pos rfl, f2] at hst
          have f5 : (pcs (l.getD k default).route dot).length ≤ (l.getD k default).route.size + 1 := pcs_len_le _
          have g1 := hOL k
          have hwk := walk_to E (C := 30) (walk_ren E (c := 34) (d := 48) (walk_any E hP (l.getD k default) (pcs (l.getD k default).route dot) (outP l v k) v ⟨#[]⟩ f4 hf hc (by omega) (by show 0 + _ + _ ≤ _; omega) (by omega)) (by decide) (by decide) (by decide)) (by decide) (by decide) (by decide)
          have hsp := split_sp E hML (l.getD k default).route dot (by omega) (by decide)
          have e2 := outP_succ (v := v) hlt
          have e3 := (congrArg List.length e2).symm
          repeat' first
            | refine Or.inr ⟨_, _, _, hwk, by kernel_rfl, (by repeat' first | exact trivial | exact rfl | kernel_rfl | exact Dle.of_eq rfl | exact MLe.of_eq rfl | exact Dle.i (by omega) | exact Dle.i (by simp only [Int.toNat_natCast] at *; omega) | exact Dle.nil | exact Dle.rc Dle.nil | exact Option.some_ne_none _ | exact Or.inl rfl | exact Or.inr trivial | omega | (simp only [Int.toNat_natCast] at *; omega) | (intro _ _ _ _; exact Dle.of_eq rfl) | refine And.intro ?_ ?_), ?_⟩
            | (refine facW_intro ?_; intro _)
            | refine Or.inl ?_
            | ((conv => whnf); first | (refine condW_dec ?_ ?_ <;> intro _ <;> try (exfalso; omega)) | refine condW_not ?_ | (refine condW_bool ?_ ?_ <;> intro _ <;> try (exfalso; omega)) | (refine nbC_t (fun _ => ?_) ?_) | (refine nbC_f ?_ (fun _ => ?_)))
            | refine And.intro (by first | omega | (simp only [Int.toNat_natCast] at *; omega) | (simp only [Nat.reduceAdd, Int.cast_ofNat_Int, true_and, and_true]; omega) | kernel_rfl) ?_
            | refine RegW.run ?_
            | refine ⟨_, hst, ?_⟩
            | refine ⟨_, hsp, ?_⟩
            | fail
          all_goals first
            | exact ⟨k + 1, by omega, ⟨[(34, some 48), (43, some 54)], ⟨by kernel_rfl, by kernel_rfl, by kernel_rfl, by kernel_rfl, by kernel_rfl, by kernel_rfl, by kernel_rfl⟩, (by repeat' first | (exact e3) | exact trivial | exact rfl | kernel_rfl | exact Dle.of_eq rfl | exact MLe.of_eq rfl | exact Dle.i (by omega) | exact Dle.i (by simp only [Int.toNat_natCast] at *; omega) | exact Dle.nil | exact Dle.rc Dle.nil | exact Option.some_ne_none _ | exact Or.inl rfl | exact Or.inr trivial | omega | (simp only [Int.toNat_natCast] at *; omega) | (intro _ _ _ _; exact Dle.of_eq rfl) | (intro i j hi hj; first | exact row_pat E l k i j hi hj | (rw [e2]; exact Dle.refl _ _)) | refine And.intro ?_ ?_)⟩, by first | omega | (dsimp only; omega)⟩
            | trace_state
        · obtain rfl : k = l.length := by omega
          repeat' first
            | (refine facW_intro ?_; intro _)
            | refine Or.inl ?_
            | ((conv => whnf); first | (refine condW_dec ?_ ?_ <;> intro _ <;> try (exfalso; omega)) | refine condW_not ?_ | (refine condW_bool ?_ ?_ <;> intro _ <;> try (exfalso; omega)) | (refine nbC_t (fun _ => ?_) ?_) | (refine nbC_f ?_ (fun _ => ?_)))
            | refine And.intro (by first | omega | (simp only [Int.toNat_natCast] at *; omega) | (simp only [Nat.reduceAdd, Int.cast_ofNat_Int, true_and, and_true]; omega) | kernel_rfl) ?_
            | refine RegW.run ?_
            | fail
          all_goals first
            | exact Dle.tup (X := (cx Tryz.prog mixed tyT_ok E)) ⟨Dle.sl (X := (cx Tryz.prog mixed tyT_ok E)) rfl (fun i j hi hj => Dle.refl _ _), Dle.refl _ _, trivial⟩
            | trace_state
      · rw [if_pos rfl] at hq
        subst hq
        refine Sp.body Tryz.func8 (by kernel_rfl) rfl (by kernel_rfl) (by kernel_rfl) (by kernel_rfl) ?_
        repeat' first
          | (refine facW_intro ?_; intro _)
          | refine Or.inl ?_
          | ((conv => whnf); first | (refine condW_dec ?_ ?_ <;> intro _ <;> try (exfalso; omega)) | refine condW_not ?_ | (refine condW_bool ?_ ?_ <;> intro _ <;> try (exfalso; omega)) | (refine nbC_t (fun _ => ?_) ?_) | (refine nbC_f ?_ (fun _ => ?_)))
          | refine And.intro (by first | omega | (simp only [Int.toNat_natCast] at *; omega) | (simp only [Nat.reduceAdd, Int.cast_ofNat_Int, true_and, and_true]; omega) | kernel_rfl) ?_
          | refine RegW.run ?_
          | refine ⟨_, h1, ?_⟩
          | refine ⟨_, h2, ?_⟩
          | fail
        all_goals try (exfalso; rename_i h; exact h rfl)
        refine ⟨Nat, fun k => [(34, i64 k), (9, .own 43 1 0 k)], fun k => [(30, .cells [.own 34 2 0 (outP l v k).length])], [2, 3], fun k => [(34, 95, (outP l v k).length, rowQ (outP l v k)), (43, 23, k, rowP l)], fun k => k ≤ l.length, fun k => l.length - k, ⟨0, by omega, ⟨[(34, none), (43, none)], ⟨by kernel_rfl, by kernel_rfl, by kernel_rfl, by kernel_rfl, by kernel_rfl, by kernel_rfl, by kernel_rfl⟩, (by repeat' first | exact trivial | exact rfl | kernel_rfl | exact Dle.of_eq rfl | exact MLe.of_eq rfl | exact Dle.i (by omega) | exact Dle.i (by simp only [Int.toNat_natCast] at *; omega) | exact Dle.nil | exact Dle.rc Dle.nil | exact Option.some_ne_none _ | exact Or.inl rfl | exact Or.inr trivial | omega | (simp only [Int.toNat_natCast] at *; omega) | (intro _ _ _ _; exact Dle.of_eq rfl) | refine And.intro ?_ ?_)⟩⟩, fun k hk => ?_⟩
        have hk : k ≤ l.length := hk
        by_cases hlt : k < l.length
        · obtain ⟨f1, f2, f3, f4⟩ := hl2 _ (getD_mem l default k hlt)
          have hst := steps_sp E hML (l.getD k default).route true (by omega)
          rw [f1, if_pos rfl, f2] at hst
          have f5 : (pcs (l.getD k default).route dot).length ≤ (l.getD k default).route.size + 1 := pcs_len_le _
          have g1 := hOL k
          have hwk := walk_to E (C := 30) (walk_ren E (c := 34) (d := 48) (walk_any E hP (l.getD k default) (pcs (l.getD k default).route dot) (outP l v k) v ⟨#[]⟩ f4 hf hc (by omega) (by show 0 + _ + _ ≤ _; omega) (by omega)) (by decide) (by decide) (by decide)) (by decide) (by decide) (by decide)
          have hsp := split_sp E hML (l.getD k default).route dot (by omega) (by decide)
          have e2 := outP_succ (v := v) hlt
          have e3 := (congrArg List.length e2).symm
          repeat' first
            | refine Or.inr ⟨_, _, _, hwk, by kernel_rfl, (by repeat' first | exact trivial | exact rfl | kernel_rfl | exact Dle.of_eq rfl | exact MLe.of_eq rfl | exact Dle.i (by omega) | exact Dle.i (by simp only [Int.toNat_natCast] at *; omega) | exact Dle.nil | exact Dle.rc Dle.nil | exact Option.some_ne_none _ | exact Or.inl rfl | exact Or.inr trivial | omega | (simp only [Int.toNat_natCast] at *; omega) | (intro _ _ _ _; exact Dle.of_eq rfl) | refine And.intro ?_ ?_), ?_⟩
            | (refine facW_intro ?_; intro _)
            | refine Or.inl ?_
            | ((conv => whnf); first | (refine condW_dec ?_ ?_ <;> intro _ <;> try (exfalso; omega)) | refine condW_not ?_ | (refine condW_bool ?_ ?_ <;> intro _ <;> try (exfalso; omega)) | (refine nbC_t (fun _ => ?_) ?_) | (refine nbC_f ?_ (fun _ => ?_)))
            | refine And.intro (by first | omega | (simp only [Int.toNat_natCast] at *; omega) | (simp only [Nat.reduceAdd, Int.cast_ofNat_Int, true_and, and_true]; omega) | kernel_rfl) ?_
            | refine RegW.run ?_
            | refine ⟨_, hst, ?_⟩
            | refine ⟨_, hsp, ?_⟩
            | fail
          all_goals first
            | exact ⟨k + 1, by omega, ⟨[(34, some 48), (43, some 54)], ⟨by kernel_rfl, by kernel_rfl, by kernel_rfl, by kernel_rfl, by kernel_rfl, by kernel_rfl, by kernel_rfl⟩, (by repeat' first | (exact e3) | exact trivial | exact rfl | kernel_rfl | exact Dle.of_eq rfl | exact MLe.of_eq rfl | exact Dle.i (by omega) | exact Dle.i (by simp only [Int.toNat_natCast] at *; omega) | exact Dle.nil | exact Dle.rc Dle.nil | exact Option.some_ne_none _ | exact Or.inl rfl | exact Or.inr trivial | omega | (simp only [Int.toNat_natCast] at *; omega) | (intro _ _ _ _; exact Dle.of_eq rfl) | (intro i j hi hj; first | exact row_pat E l k i j hi hj | (rw [e2]; exact Dle.refl _ _)) | refine And.intro ?_ ?_)⟩, by first | omega | (dsimp only; omega)⟩
            | trace_state
        · obtain rfl : k = l.length := by omega
          have hO := hOL l.length
          have hz0 : outP l v l.length ++ unkP l rs 0 = outP l v l.length := List.append_nil _
          have hz : (outP l v l.length).length = ((outP l v l.length) ++ unkP l rs 0).length := by rw [hz0]
          repeat' first
            | refine Or.inr ⟨_, _, _, hR, by kernel_rfl, (by repeat' first | exact trivial | exact rfl | kernel_rfl | exact Dle.of_eq rfl | exact MLe.of_eq rfl | exact Dle.i (by omega) | exact Dle.i (by simp only [Int.toNat_natCast] at *; omega) | exact Dle.nil | exact Dle.rc Dle.nil | exact Option.some_ne_none _ | exact Or.inl rfl | exact Or.inr trivial | omega | (simp only [Int.toNat_natCast] at *; omega) | (intro _ _ _ _; exact Dle.of_eq rfl) | refine And.intro ?_ ?_), ?_⟩
            | (refine facW_intro ?_; intro _)
            | refine Or.inl ?_
            | ((conv => whnf); first | (refine condW_dec ?_ ?_ <;> intro _ <;> try (exfalso; omega)) | refine condW_not ?_ | (refine condW_bool ?_ ?_ <;> intro _ <;> try (exfalso; omega)) | (refine nbC_t (fun _ => ?_) ?_) | (refine nbC_f ?_ (fun _ => ?_)))
            | refine And.intro (by first | omega | (simp only [Int.toNat_natCast] at *; omega) | (simp only [Nat.reduceAdd, Int.cast_ofNat_Int, true_and, and_true]; omega) | kernel_rfl) ?_
            | refine RegW.run ?_
            | fail
          refine ⟨Nat, fun m => [(66, i64 m)], fun m => [(30, .cells [.own 66 2 0 ((outP l v l.length) ++ unkP l rs m).length])], [43, 64], fun m => [(66, 95, ((outP l v l.length) ++ unkP l rs m).length, rowQ ((outP l v l.length) ++ unkP l rs m))], fun m => m ≤ rs.length, fun m => rs.length - m, ⟨0, by omega, ⟨[(66, some 34)], ⟨by kernel_rfl, by kernel_rfl, by kernel_rfl, by kernel_rfl, by kernel_rfl, by kernel_rfl, by kernel_rfl⟩, (by repeat' first | ((first | exact hz | (intro i j hi hj; exact Dle.of_eq (by rw [hz0])))) | exact trivial | exact rfl | kernel_rfl | exact Dle.of_eq rfl | exact MLe.of_eq rfl | exact Dle.i (by omega) | exact Dle.i (by simp only [Int.toNat_natCast] at *; omega) | exact Dle.nil | exact Dle.rc Dle.nil | exact Option.some_ne_none _ | exact Or.inl rfl | exact Or.inr trivial | omega | (simp only [Int.toNat_natCast] at *; omega) | (intro _ _ _ _; exact Dle.of_eq rfl) | refine And.intro ?_ ?_)⟩⟩, fun m hm => ?_⟩
          have hm : m ≤ rs.length := hm
          by_cases hmt : m < rs.length
          · have g1 := hUL m
            have g2 := hrs _ (getD_mem rs ⟨#[]⟩ m hmt)
            have g3 : (⟨#[]⟩ : ByteArray).size = 0 := rfl
            have hsp : Sp (cx Tryz.prog mixed tyT_ok E) 43 [dS (rs.getD (0 + ((m : Int)).toNat) ⟨#[]⟩), dS dot] (encStrs (pcs (rs.getD m ⟨#[]⟩) dot)) := by rw [Nat.zero_add]; exact split_sp E hML (rs.getD m ⟨#[]⟩) dot (by omega) (by decide)
            have eU := unkP_succ (l := l) hmt
            have hl3 : ((outP l v l.length) ++ unkP l rs m).length = (outP l v l.length).length + (unkP l rs m).length := List.length_append
            repeat' first
              | (refine facW_intro ?_; intro _)
              | refine Or.inl ?_
              | ((conv => whnf); first | (refine condW_dec ?_ ?_ <;> intro _ <;> try (exfalso; omega)) | refine condW_not ?_ | (refine condW_bool ?_ ?_ <;> intro _ <;> try (exfalso; omega)) | (refine nbC_t (fun _ => ?_) ?_) | (refine nbC_f ?_ (fun _ => ?_)))
              | refine And.intro (by first | omega | (simp only [Int.toNat_natCast] at *; omega) | (simp only [Nat.reduceAdd, Int.cast_ofNat_Int, true_and, and_true]; omega) | kernel_rfl) ?_
              | refine RegW.run ?_
              | fail
            refine ⟨Nat, fun q => [(72, i64 q), (16, dB (knownP l (rs.getD m ⟨#[]⟩) q))], fun q => [], [30, 66, 43, 64], fun q => [], fun q => q ≤ l.length, fun q => l.length - q, ⟨0, by omega, ⟨[], ⟨by kernel_rfl, by kernel_rfl, by kernel_rfl, by kernel_rfl, by kernel_rfl, by kernel_rfl, by kernel_rfl⟩, (by repeat' first | exact trivial | exact rfl | kernel_rfl | exact Dle.of_eq rfl | exact MLe.of_eq rfl | exact Dle.i (by omega) | exact Dle.i (by simp only [Int.toNat_natCast] at *; omega) | exact Dle.nil | exact Dle.rc Dle.nil | exact Option.some_ne_none _ | exact Or.inl rfl | exact Or.inr trivial | omega | (simp only [Int.toNat_natCast] at *; omega) | (intro _ _ _ _; exact Dle.of_eq rfl) | refine And.intro ?_ ?_)⟩⟩, fun q hq => ?_⟩
            have hq : q ≤ l.length := hq
            by_cases hqt : q < l.length
            · have e := knownP_succ (r := rs.getD m ⟨#[]⟩) hqt
              have hma : Sp (cx Tryz.prog mixed tyT_ok E) 45 [encStrs (pcs (l.getD (0 + ((q : Int)).toNat) default).route dot), encStrs (pcs (rs.getD m ⟨#[]⟩) dot)] (dB (matB (pcs (l.getD q default).route dot) (pcs (rs.getD m ⟨#[]⟩) dot))) := by rw [Nat.zero_add]; exact matches_sp E (pcs (l.getD q default).route dot) (pcs (rs.getD m ⟨#[]⟩) dot)
              by_cases hc1 : knownP l (rs.getD m ⟨#[]⟩) q = true
              · have en : knownP l (rs.getD m ⟨#[]⟩) (q + 1) = true := by rw [e, hc1]; rfl
                repeat' first
                  | (refine facW_intro ?_; intro _)
                  | refine Or.inl ?_
                  | ((conv => whnf); first | (refine condW_dec ?_ ?_ <;> intro _ <;> try (exfalso; omega)) | refine condW_not ?_ | (refine condW_bool ?_ ?_ <;> intro _ <;> try (exfalso; omega)) | (refine nbC_t (fun _ => ?_) ?_) | (refine nbC_f ?_ (fun _ => ?_)))
                  | refine And.intro (by first | omega | (simp only [Int.toNat_natCast] at *; omega) | (simp only [Nat.reduceAdd, Int.cast_ofNat_Int, true_and, and_true]; omega) | kernel_rfl) ?_
                  | refine RegW.run ?_
                  | refine ⟨_, hsp, ?_⟩
                  | refine ⟨_, hma, ?_⟩
                  | fail
                all_goals first
                  | (exfalso; exact absurd (hc1.symm.trans (show knownP l (rs.getD m ⟨#[]⟩) q = false by assumption)) (by decide))
                  | exact ⟨q + 1, by omega, ⟨[], ⟨by kernel_rfl, by kernel_rfl, by kernel_rfl, by kernel_rfl, by kernel_rfl, by kernel_rfl, by kernel_rfl⟩, (by repeat' first | (exact Dle.bo en.symm) | exact trivial | exact rfl | kernel_rfl | exact Dle.of_eq rfl | exact MLe.of_eq rfl | exact Dle.i (by omega) | exact Dle.i (by simp only [Int.toNat_natCast] at *; omega) | exact Dle.nil | exact Dle.rc Dle.nil | exact Option.some_ne_none _ | exact Or.inl rfl | exact Or.inr trivial | omega | (simp only [Int.toNat_natCast] at *; omega) | (intro _ _ _ _; exact Dle.of_eq rfl) | refine And.intro ?_ ?_)⟩, by first | omega | (dsimp only; omega)⟩
                  | trace_state
              · have hc1 : knownP l (rs.getD m ⟨#[]⟩) q = false := by simpa using hc1
                rw [hc1, Bool.false_or] at e
                by_cases hr0 : rs.getD m ⟨#[]⟩ = ⟨#[]⟩
                · have hr1 : (rs.getD (0 + ((m : Int)).toNat) ⟨#[]⟩) = ⟨#[]⟩ := by rw [Nat.zero_add]; exact hr0
                  have en : knownP l (rs.getD m ⟨#[]⟩) (q + 1) = false := by rw [e]; unfold matR; rw [if_pos hr0]
                  repeat' first
                    | (refine facW_intro ?_; intro _)
                    | refine Or.inl ?_
                    | ((conv => whnf); first | (refine condW_dec ?_ ?_ <;> intro _ <;> try (exfalso; omega)) | refine condW_not ?_ | (refine condW_bool ?_ ?_ <;> intro _ <;> try (exfalso; omega)) | (refine nbC_t (fun _ => ?_) ?_) | (refine nbC_f ?_ (fun _ => ?_)))
                    | refine And.intro (by first | omega | (simp only [Int.toNat_natCast] at *; omega) | (simp only [Nat.reduceAdd, Int.cast_ofNat_Int, true_and, and_true]; omega) | kernel_rfl) ?_
                    | refine RegW.run ?_
                    | refine ⟨_, hsp, ?_⟩
                    | refine ⟨_, hma, ?_⟩
                    | fail
                  all_goals first
                    | (exfalso; exact absurd (hc1.symm.trans (show knownP l (rs.getD m ⟨#[]⟩) q = true by assumption)) (by decide))
                    | (exfalso; exact absurd hr1 (show ¬ (rs.getD (0 + ((m : Int)).toNat) ⟨#[]⟩) = ⟨#[]⟩ by assumption))
                    | exact ⟨q + 1, by omega, ⟨[], ⟨by kernel_rfl, by kernel_rfl, by kernel_rfl, by kernel_rfl, by kernel_rfl, by kernel_rfl, by kernel_rfl⟩, (by repeat' first | (exact Dle.bo en.symm) | exact trivial | exact rfl | kernel_rfl | exact Dle.of_eq rfl | exact MLe.of_eq rfl | exact Dle.i (by omega) | exact Dle.i (by simp only [Int.toNat_natCast] at *; omega) | exact Dle.nil | exact Dle.rc Dle.nil | exact Option.some_ne_none _ | exact Or.inl rfl | exact Or.inr trivial | omega | (simp only [Int.toNat_natCast] at *; omega) | (intro _ _ _ _; exact Dle.of_eq rfl) | refine And.intro ?_ ?_)⟩, by first | omega | (dsimp only; omega)⟩
                    | trace_state
                · have hr1 : ¬ (rs.getD (0 + ((m : Int)).toNat) ⟨#[]⟩) = ⟨#[]⟩ := by rw [Nat.zero_add]; exact hr0
                  have en : knownP l (rs.getD m ⟨#[]⟩) (q + 1) = matB (pcs (l.getD q default).route dot) (pcs (rs.getD m ⟨#[]⟩) dot) := by rw [e]; unfold matR; rw [if_neg hr0]
                  repeat' first
                    | (refine facW_intro ?_; intro _)
                    | refine Or.inl ?_
                    | ((conv => whnf); first | (refine condW_dec ?_ ?_ <;> intro _ <;> try (exfalso; omega)) | refine condW_not ?_ | (refine condW_bool ?_ ?_ <;> intro _ <;> try (exfalso; omega)) | (refine nbC_t (fun _ => ?_) ?_) | (refine nbC_f ?_ (fun _ => ?_)))
                    | refine And.intro (by first | omega | (simp only [Int.toNat_natCast] at *; omega) | (simp only [Nat.reduceAdd, Int.cast_ofNat_Int, true_and, and_true]; omega) | kernel_rfl) ?_
                    | refine RegW.run ?_
                    | refine ⟨_, hsp, ?_⟩
                    | refine ⟨_, hma, ?_⟩
                    | fail
                  all_goals first
                    | (exfalso; exact absurd (hc1.symm.trans (show knownP l (rs.getD m ⟨#[]⟩) q = true by assumption)) (by decide))
                    | (exfalso; exact hr1 (show (rs.getD (0 + ((m : Int)).toNat) ⟨#[]⟩) = ⟨#[]⟩ by assumption))
                    | exact ⟨q + 1, by omega, ⟨[], ⟨by kernel_rfl, by kernel_rfl, by kernel_rfl, by kernel_rfl, by kernel_rfl, by kernel_rfl, by kernel_rfl⟩, (by repeat' first | (exact Dle.bo en.symm) | exact trivial | exact rfl | kernel_rfl | exact Dle.of_eq rfl | exact MLe.of_eq rfl | exact Dle.i (by omega) | exact Dle.i (by simp only [Int.toNat_natCast] at *; omega) | exact Dle.nil | exact Dle.rc Dle.nil | exact Option.some_ne_none _ | exact Or.inl rfl | exact Or.inr trivial | omega | (simp only [Int.toNat_natCast] at *; omega) | (intro _ _ _ _; exact Dle.of_eq rfl) | refine And.intro ?_ ?_)⟩, by first | omega | (dsimp only; omega)⟩
                    | trace_state
            · obtain rfl : q = l.length := by omega
              have eK := knownP_all l (rs.getD m ⟨#[]⟩) (Nat.le_refl _)
              cases hb : knownB l (rs.getD m ⟨#[]⟩)
              · rw [hb] at eK
                have e2 : outP l v l.length ++ unkP l rs (m + 1) = outP l v l.length ++ unkP l rs m ++ [(rs.getD m ⟨#[]⟩, 6)] := by rw [eU]; unfold unk; rw [hb, if_neg (by decide), List.append_assoc]
                have e3 := (congrArg List.length e2).symm
                have ha : SpH (cx Tryz.prog mixed tyT_ok E) 46 [.ptr 30 0, dS (rs.getD (0 + ((m : Int)).toNat) ⟨#[]⟩), i64 6] (jH ((outP l v l.length) ++ unkP l rs m) 30 66) (.tup []) (jH ((outP l v l.length) ++ unkP l rs m ++ [(rs.getD m ⟨#[]⟩, 6)]) 30 92) := by rw [Nat.zero_add]; exact add_to E (C := 30) (R := 66) (W := 92) ((outP l v l.length) ++ unkP l rs m) (by omega) (rs.getD m ⟨#[]⟩) 6 (by decide) (by decide) (by decide)
                repeat' first
                  | refine Or.inr ⟨_, _, _, ha, by kernel_rfl, (by repeat' first | exact trivial | exact rfl | kernel_rfl | exact Dle.of_eq rfl | exact MLe.of_eq rfl | exact Dle.i (by omega) | exact Dle.i (by simp only [Int.toNat_natCast] at *; omega) | exact Dle.nil | exact Dle.rc Dle.nil | exact Option.some_ne_none _ | exact Or.inl rfl | exact Or.inr trivial | omega | (simp only [Int.toNat_natCast] at *; omega) | (intro _ _ _ _; exact Dle.of_eq rfl) | refine And.intro ?_ ?_), ?_⟩
                  | (refine facW_intro ?_; intro _)
                  | refine Or.inl ?_
                  | ((conv => whnf); first | (refine condW_dec ?_ ?_ <;> intro _ <;> try (exfalso; omega)) | refine condW_not ?_ | (refine condW_bool ?_ ?_ <;> intro _ <;> try (exfalso; omega)) | (refine nbC_t (fun _ => ?_) ?_) | (refine nbC_f ?_ (fun _ => ?_)))
                  | refine And.intro (by first | omega | (simp only [Int.toNat_natCast] at *; omega) | (simp only [Nat.reduceAdd, Int.cast_ofNat_Int, true_and, and_true]; omega) | kernel_rfl) ?_
                  | refine RegW.run ?_
                  | fail
                all_goals first
                  | (exfalso; exact absurd (eK.symm.trans (show knownP l (rs.getD m ⟨#[]⟩) l.length = true by assumption)) (by decide))
                  | exact ⟨m + 1, by omega, ⟨[(66, some 92)], ⟨by kernel_rfl, by kernel_rfl, by kernel_rfl, by kernel_rfl, by kernel_rfl, by kernel_rfl, by kernel_rfl⟩, (by repeat' first | (exact e3) | exact trivial | exact rfl | kernel_rfl | exact Dle.of_eq rfl | exact MLe.of_eq rfl | exact Dle.i (by omega) | exact Dle.i (by simp only [Int.toNat_natCast] at *; omega) | exact Dle.nil | exact Dle.rc Dle.nil | exact Option.some_ne_none _ | exact Or.inl rfl | exact Or.inr trivial | omega | (simp only [Int.toNat_natCast] at *; omega) | (intro _ _ _ _; exact Dle.of_eq rfl) | (intro i j hi hj; (rw [e2]; exact Dle.refl _ _)) | refine And.intro ?_ ?_)⟩, by first | omega | (dsimp only; omega)⟩
                  | trace_state
              · rw [hb] at eK
                have e2 : outP l v l.length ++ unkP l rs (m + 1) = outP l v l.length ++ unkP l rs m := by rw [eU]; unfold unk; rw [hb, if_pos rfl, List.append_nil]
                have e3 := (congrArg List.length e2).symm
                repeat' first
                  | (refine facW_intro ?_; intro _)
                  | refine Or.inl ?_
                  | ((conv => whnf); first | (refine condW_dec ?_ ?_ <;> intro _ <;> try (exfalso; omega)) | refine condW_not ?_ | (refine condW_bool ?_ ?_ <;> intro _ <;> try (exfalso; omega)) | (refine nbC_t (fun _ => ?_) ?_) | (refine nbC_f ?_ (fun _ => ?_)))
                  | refine And.intro (by first | omega | (simp only [Int.toNat_natCast] at *; omega) | (simp only [Nat.reduceAdd, Int.cast_ofNat_Int, true_and, and_true]; omega) | kernel_rfl) ?_
                  | refine RegW.run ?_
                  | fail
                all_goals first
                  | (exfalso; exact absurd (eK.symm.trans (show knownP l (rs.getD m ⟨#[]⟩) l.length = false by assumption)) (by decide))
                  | exact ⟨m + 1, by omega, ⟨[(66, some 66)], ⟨by kernel_rfl, by kernel_rfl, by kernel_rfl, by kernel_rfl, by kernel_rfl, by kernel_rfl, by kernel_rfl⟩, (by repeat' first | (exact e3) | exact trivial | exact rfl | kernel_rfl | exact Dle.of_eq rfl | exact MLe.of_eq rfl | exact Dle.i (by omega) | exact Dle.i (by simp only [Int.toNat_natCast] at *; omega) | exact Dle.nil | exact Dle.rc Dle.nil | exact Option.some_ne_none _ | exact Or.inl rfl | exact Or.inr trivial | omega | (simp only [Int.toNat_natCast] at *; omega) | (intro _ _ _ _; exact Dle.of_eq rfl) | (intro i j hi hj; (rw [e2]; exact Dle.refl _ _)) | refine And.intro ?_ ?_)⟩, by first | omega | (dsimp only; omega)⟩
                  | trace_state
          · obtain rfl : m = rs.length := by omega
            repeat' first
              | (refine facW_intro ?_; intro _)
              | refine Or.inl ?_
              | ((conv => whnf); first | (refine condW_dec ?_ ?_ <;> intro _ <;> try (exfalso; omega)) | refine condW_not ?_ | (refine condW_bool ?_ ?_ <;> intro _ <;> try (exfalso; omega)) | (refine nbC_t (fun _ => ?_) ?_) | (refine nbC_f ?_ (fun _ => ?_)))
              | refine And.intro (by first | omega | (simp only [Int.toNat_natCast] at *; omega) | (simp only [Nat.reduceAdd, Int.cast_ofNat_Int, true_and, and_true]; omega) | kernel_rfl) ?_
              | refine RegW.run ?_
              | fail
            all_goals first
              | exact Dle.tup (X := (cx Tryz.prog mixed tyT_ok E)) ⟨Dle.sl (X := (cx Tryz.prog mixed tyT_ok E)) rfl (fun i j hi hj => Dle.refl _ _), Dle.refl _ _, trivial⟩
              | trace_state
    · rw [if_pos h0] at hq
      subst hq
      rw [hs] at h1
      generalize checkE v = c at h2 h0
      refine Sp.body Tryz.func8 (by kernel_rfl) rfl (by kernel_rfl) (by kernel_rfl) (by kernel_rfl) ?_
      repeat' first
        | (refine facW_intro ?_; intro _)
        | refine Or.inl ?_
        | ((conv => whnf); first | (refine condW_dec ?_ ?_ <;> intro _ <;> try (exfalso; omega)) | refine condW_not ?_ | (refine condW_bool ?_ ?_ <;> intro _ <;> try (exfalso; omega)) | (refine nbC_t (fun _ => ?_) ?_) | (refine nbC_f ?_ (fun _ => ?_)))
        | refine And.intro (by first | omega | (simp only [Int.toNat_natCast] at *; omega) | (simp only [Nat.reduceAdd, Int.cast_ofNat_Int, true_and, and_true]; omega) | kernel_rfl) ?_
        | refine RegW.run ?_
        | refine ⟨_, h1, ?_⟩
        | refine ⟨_, h2, ?_⟩
        | fail
      all_goals first
        | (exfalso; rename_i h; exact h rfl)
        | exact Dle.tup (X := (cx Tryz.prog mixed tyT_ok E)) ⟨Dle.nil (X := (cx Tryz.prog mixed tyT_ok E)), Dle.refl _ _, trivial⟩
        | trace_state
  · rw [if_pos hs] at hq
    subst hq
    generalize schemaE l = c at h1 hs
    refine Sp.body Tryz.func8 (by kernel_rfl) rfl (by kernel_rfl) (by kernel_rfl) (by kernel_rfl) ?_
    repeat' first
      | (refine facW_intro ?_; intro _)
      | refine Or.inl ?_
      | ((conv => whnf); first | (refine condW_dec ?_ ?_ <;> intro _ <;> try (exfalso; omega)) | refine condW_not ?_ | (refine condW_bool ?_ ?_ <;> intro _ <;> try (exfalso; omega)) | (refine nbC_t (fun _ => ?_) ?_) | (refine nbC_f ?_ (fun _ => ?_)))
      | refine And.intro (by first | omega | (simp only [Int.toNat_natCast] at *; omega) | (simp only [Nat.reduceAdd, Int.cast_ofNat_Int, true_and, and_true]; omega) | kernel_rfl) ?_
      | refine RegW.run ?_
      | refine ⟨_, h1, ?_⟩
      | refine ⟨_, h2, ?_⟩
      | fail
    all_goals first
      | (exfalso; rename_i h; exact h rfl)
      | exact Dle.tup (X := (cx Tryz.prog mixed tyT_ok E)) ⟨Dle.nil (X := (cx Tryz.prog mixed tyT_ok E)), Dle.refl _ _, trivial⟩
      | trace_state
end
end ft
end Go.Proofs.YtilfmjldcigagaaGreatDoor
