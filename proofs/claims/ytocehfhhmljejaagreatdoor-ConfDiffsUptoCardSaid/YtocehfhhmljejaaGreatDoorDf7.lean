/-
  conf.Diff, mastref2.DiffOf, the law.
-/
import Derived.Test.YtocehfhhmljejaaGreatDoorDf5
import Derived.Test.YtocehfhhmljejaaGreatDoorDf6
namespace Go.Proofs.YtocehfhhmljejaaGreatDoor
open Go.RowKit Go.Sort
set_option linter.unusedVariables false
set_option linter.unusedSimpArgs false
namespace df
open cr se ap so tab mg its
section
variable {κ : Type} {X : Cx κ}
theorem nil2 {f : FuncId} {ds : List (D κ)} {s e : Nat} {g0 g1 : Nat → Nat → D κ} {d : D κ} {H' : List (Nat × Ob κ)} (hz : ds.all D.frz = true) (hk : (X.T e).known = true)
    (h : SpH X f (.ptr 3000 0 :: ds) [(3000, .cells [.own 2000 s 0 0, .own 2001 s 0 0]), (2000, .row e 0 g0), (2001, .row e 0 g1)] d H') : SpH X f (.ptr 3000 0 :: ds) [(3000, .cells [.v (.slice none 0 0), .v (.slice none 0 0)])] d H' := by
  refine ⟨h.1, fun M β w vs hG hMG hM hl hr hp hb => ?_⟩
  obtain ⟨β1, hβ1⟩ : ∃ β1, β1 = upd (upd β 2000 none) 2001 none := ⟨_, rfl⟩
  have k1 : β1 3000 = β 3000 := by rw [hβ1, upd_ne _ _ _ _ (by decide), upd_ne _ _ _ _ (by decide)]
  have k2 : β1 2000 = some none := by rw [hβ1, upd_ne _ _ _ _ (by decide), upd_at]
  have k3 : β1 2001 = some none := by rw [hβ1, upd_at]
  have hbk : ∀ b, blocks β1 [(3000, (.cells [.own 2000 s 0 0, .own 2001 s 0 0] : Ob κ)), (2000, .row e 0 g0), (2001, .row e 0 g1)] b ↔ blocks β [(3000, (.cells [.v (.slice none 0 0), .v (.slice none 0 0)] : Ob κ))] b := fun b => by
    constructor
    · rintro ⟨l, o, c, hm, he⟩
      rcases List.mem_cons.1 hm with hm | hm
      · obtain ⟨rfl, rfl⟩ := Prod.mk.inj hm
        exact ⟨3000, _, c, List.mem_singleton.2 rfl, by rw [← k1]; exact he⟩
      · rcases List.mem_cons.1 hm with hm | hm
        · obtain ⟨rfl, rfl⟩ := Prod.mk.inj hm
          rw [k2] at he; cases he
        · obtain ⟨rfl, rfl⟩ := Prod.mk.inj (List.mem_singleton.1 hm)
          rw [k3] at he; cases he
    · rintro ⟨l, o, c, hm, he⟩
      obtain ⟨rfl, rfl⟩ := Prod.mk.inj (List.mem_singleton.1 hm)
      exact ⟨3000, _, c, List.mem_cons_self, by rw [k1]; exact he⟩
  obtain ⟨hlv, b, c, arr, T, h1, h2, h3, h4⟩ := hp.ob 3000 _ (List.mem_singleton.2 rfl)
  refine (h.2 M β1 w vs hG hMG hM hl (fun i c hc => ?_) ⟨fun l o hm => ?_, fun l o l' o' b c c' hm hm' hb1 hb2 => ?_⟩ (fun b hb' => hb b ((hbk b).1 hb'))).mono fun e' w' ⟨x, M', β2, he, hk', hs, hM1, hM2, hx, hH, hbl⟩ => ?_
  · match i, hc with
    | 0, hc =>
      injection hc with hc
      subst hc
      have := hr 0 _ rfl
      generalize vs.getD 0 undef = y at this
      cases this with
      | ptr hp => exact .ptr (by rw [k1]; exact hp)
    | i + 1, hc =>
      have hc : ds[i]? = some c := by simpa using hc
      exact (hr (i + 1) c (by simpa using hc)).frz (List.all_eq_true.1 hz c (List.mem_of_getElem? hc))
  · rcases List.mem_cons.1 hm with hm | hm
    · obtain ⟨rfl, rfl⟩ := Prod.mk.inj hm
      refine ⟨rfl, b, c, arr, T, by rw [k1]; exact h1, h2, ⟨h3.n, h3.o, fun i d hd => ?_⟩, h4⟩
      match i, hd with
      | 0, hd =>
        injection hd with hd
        subst hd
        rw [(h3.r 0 _ rfl).val.1]
        exact .ownNil k2
      | 1, hd =>
        injection hd with hd
        subst hd
        rw [(h3.r 1 _ rfl).val.1]
        exact .ownNil k3
    · rcases List.mem_cons.1 hm with hm | hm
      · obtain ⟨rfl, rfl⟩ := Prod.mk.inj hm
        exact ⟨rfl, hk, .inl ⟨k2, rfl⟩⟩
      · obtain ⟨rfl, rfl⟩ := Prod.mk.inj (List.mem_singleton.1 hm)
        exact ⟨rfl, hk, .inl ⟨k3, rfl⟩⟩
  · have one : ∀ l o, (l, o) ∈ [(3000, (.cells [.own 2000 s 0 0, .own 2001 s 0 0] : Ob κ)), (2000, .row e 0 g0), (2001, .row e 0 g1)] → ∀ b c, β1 l = some (some (b, c)) → l = 3000 := fun l o hm b c he => by
      rcases List.mem_cons.1 hm with hm | hm
      · exact (Prod.mk.inj hm).1
      · rcases List.mem_cons.1 hm with hm | hm
        · rw [(Prod.mk.inj hm).1, k2] at he; cases he
        · rw [(Prod.mk.inj (List.mem_singleton.1 hm)).1, k3] at he; cases he
    rw [one l o hm _ _ hb1, one l' o' hm' _ _ hb2]
  · refine ⟨x, M', β2, he, hk'.mono (Nat.le_refl _) (fun b _ hb' => (hbk b).1 hb'), fun l o hm => ?_, hM1, fun b o hm => (hM2 b o hm).imp id (fun h => h.imp (hbk b).1 id), hx, hH, fun b hb' => (hbl b hb').imp (hbk b).1 id⟩
    obtain ⟨rfl, _⟩ := Prod.mk.inj (List.mem_singleton.1 hm)
    rw [hs 3000 _ List.mem_cons_self, k1]
end
section
variable (E : Env)
set_option maxRecDepth 100000
abbrev encCs (l : List Cg) : DD := .sl 8 112 l.length (cgF l)
theorem diff_29 (a b : Vu) (ha : faultE a = 0) (hb : faultE b = 0) (wa : a.wt ≤ 100000000) (wb : b.wt ≤ 100000000) (g o : List Cg) (hg : g = (diffV (SizeOf.sizeOf a + 1) a b ⟨#[]⟩).1) (ho : o = (diffV (SizeOf.sizeOf a + 1) a b ⟨#[]⟩).2) :
    SpH (cx Tryz.prog mixed tyT_ok E) 8 [.ptr 25 0, encV a, encV b, dS ⟨#[]⟩] [(25, .cells [.v (.slice none 0 0), .v (.slice none 0 0)])] (.tup []) [(25, .cells [.own 29 8 0 g.length, .own 10029 8 0 o.length]), (29, .row 75 g.length (cgF g)), (10029, .row 75 o.length (cgF o))] := by
  have hd := diff_len (SizeOf.sizeOf a + 1) a b ⟨#[]⟩ ha hb
  have h := diff_l E (SizeOf.sizeOf a + 1) a b ⟨#[]⟩ [] [] (Nat.lt_succ_self _) ha hb wa wb (by show 0 + _ ≤ _; omega) (by show 0 + _ ≤ _; omega) (by rw [List.nil_append]; omega) (by rw [List.nil_append]; omega)
  rw [List.nil_append, List.nil_append, ← hg, ← ho] at h
  have h := nil2 (X := (cx Tryz.prog mixed tyT_ok E)) (ds := [encV a, encV b, dS ⟨#[]⟩]) (s := 8) (e := 75) rfl (by kernel_rfl) h
  have h := ((h.swap 64 29).swap 65 10029).swap 3000 25
  have e1 : YtocehfhhmljejaaGreatDoor.swp 64 29 3000 = 3000 := by decide
  have e2 : YtocehfhhmljejaaGreatDoor.swp 64 29 65 = 65 := by decide
  have f1 : YtocehfhhmljejaaGreatDoor.swp 65 10029 3000 = 3000 := by decide
  have f2 : YtocehfhhmljejaaGreatDoor.swp 65 10029 29 = 29 := by decide
  have k1 : YtocehfhhmljejaaGreatDoor.swp 3000 25 29 = 29 := by decide
  have k2 : YtocehfhhmljejaaGreatDoor.swp 3000 25 10029 = 10029 := by decide
  simpa only [dfH, encV, encStrs, D.renL, D.ren, renH, Ob.ren, List.map_cons, List.map_nil, swp_l, e1, e2, f1, f2, k1, k2] using h
def twoC (a b : Vu) : Int := if checkE a ≠ 0 then checkE a else checkE b
noncomputable def chgs (a b : Vu) : List Cg := (diffV (SizeOf.sizeOf a + 1) a b ⟨#[]⟩).1 ++ (diffV (SizeOf.sizeOf a + 1) a b ⟨#[]⟩).2
set_option maxHeartbeats 8000000 in
theorem cDiff_sp (a b : Vu) (wa : a.wt ≤ 100000000) (wb : b.wt ≤ 100000000) : Sp (cx Tryz.prog mixed tyT_ok E) 4 [encV a, encV b] (.tup [encCs (if twoC a b = 0 then chgs a b else []), i64 (twoC a b)]) := by
  have h1 := check_sp E a (by have := cnt_le_wt a; omega)
  have h2 := check_sp E b (by have := cnt_le_wt b; omega)
  obtain ⟨x, hx⟩ : ∃ x, x = checkE a := ⟨_, rfl⟩
  obtain ⟨y, hy⟩ : ∃ y, y = checkE b := ⟨_, rfl⟩
  have ht : twoC a b = if x ≠ 0 then x else y := by rw [hx, hy]; rfl
  rw [← hx] at h1
  rw [← hy] at h2
  by_cases x0 : x = 0
  · by_cases y0 : y = 0
    · have ht2 : twoC a b = 0 := by rw [ht, if_neg (not_not_intro x0)]; exact y0
      rw [ht2, if_pos rfl]
      rw [x0] at h1
      rw [y0] at h2
      have fa := check_ok (hx.symm.trans x0)
      have fb := check_ok (hy.symm.trans y0)
      obtain ⟨g, hg⟩ : ∃ g, g = (diffV (SizeOf.sizeOf a + 1) a b ⟨#[]⟩).1 := ⟨_, rfl⟩
      obtain ⟨o, ho⟩ : ∃ o, o = (diffV (SizeOf.sizeOf a + 1) a b ⟨#[]⟩).2 := ⟨_, rfl⟩
      have hd := diff_len (SizeOf.sizeOf a + 1) a b ⟨#[]⟩ fa fb
      have hc : chgs a b = g ++ o := by rw [hg, ho]; rfl
      have h3 := diff_29 E a b fa fb wa wb g o hg ho
      rw [hc]
      rw [← hg, ← ho] at hd
      clear hc hg ho
      refine Sp.body Tryz.func4 (by kernel_rfl) rfl (by kernel_rfl) (by kernel_rfl) (by kernel_rfl) ?_
      repeat' first
        | (refine codeW_cond rfl ?_; first | (refine condW_dec ?_ ?_ <;> intro _ <;> try (exfalso; omega)) | refine condW_not ?_ | (refine condW_bool ?_ ?_ <;> intro _ <;> try (exfalso; omega)))
        | (refine facW_intro ?_; intro _)
        | refine Or.inl ?_
        | ((conv => whnf); first | (refine condW_dec ?_ ?_ <;> intro _ <;> try (exfalso; omega)) | refine condW_not ?_ | (refine condW_bool ?_ ?_ <;> intro _ <;> try (exfalso; omega)) | (refine nbC_t (fun _ => ?_) ?_) | (refine nbC_f ?_ (fun _ => ?_)))
        | refine And.intro (by first | omega | (simp only [Int.toNat_natCast] at *; omega) | (simp only [Nat.reduceAdd, Int.cast_ofNat_Int, true_and, and_true]; omega)  | kernel_rfl) ?_
        | refine RegW.run ?_
        | fail
      refine ⟨Nat, fun k => [(14, i64 k)], fun k => [], [2, 3, 12], fun k => [], fun k => k ≤ 2, fun k => 2 - k, ⟨0, by omega, ⟨[], ⟨by kernel_rfl, by kernel_rfl, by kernel_rfl, by kernel_rfl, by kernel_rfl, by kernel_rfl, by kernel_rfl⟩, (by repeat' first | exact trivial | exact rfl | kernel_rfl | exact Dle.of_eq rfl | exact MLe.of_eq rfl | exact Dle.i (by omega) | exact Dle.i (by simp only [Int.toNat_natCast] at *; omega) | exact Dle.nil | exact Dle.rc Dle.nil | exact Option.some_ne_none _ | exact Or.inl rfl | exact Or.inr trivial | omega | (simp only [Int.toNat_natCast] at *; omega) | (intro _ _ _ _; exact Dle.of_eq rfl) | refine And.intro ?_ ?_)⟩⟩, fun k hk => ?_⟩
      have hk : k ≤ 2 := hk
      rcases (by omega : k = 0 ∨ k = 1 ∨ k = 2) with rfl | rfl | rfl
      · repeat' first
          | (refine codeW_cond rfl ?_; first | (refine condW_dec ?_ ?_ <;> intro _ <;> try (exfalso; omega)) | refine condW_not ?_ | (refine condW_bool ?_ ?_ <;> intro _ <;> try (exfalso; omega)))
          | (refine facW_intro ?_; intro _)
          | refine Or.inl ?_
          | ((conv => whnf); first | (refine condW_dec ?_ ?_ <;> intro _ <;> try (exfalso; omega)) | refine condW_not ?_ | (refine condW_bool ?_ ?_ <;> intro _ <;> try (exfalso; omega)) | (refine nbC_t (fun _ => ?_) ?_) | (refine nbC_f ?_ (fun _ => ?_)))
          | refine And.intro (by first | omega | (simp only [Int.toNat_natCast] at *; omega) | (simp only [Nat.reduceAdd, Int.cast_ofNat_Int, true_and, and_true]; omega)  | kernel_rfl) ?_
          | refine RegW.run ?_
          | refine ⟨_, h1, ?_⟩
          | fail
        all_goals first
          | (exfalso; omega)
          | exact ⟨1, by omega, ⟨[], ⟨by kernel_rfl, by kernel_rfl, by kernel_rfl, by kernel_rfl, by kernel_rfl, by kernel_rfl, by kernel_rfl⟩, (by repeat' first | exact trivial | exact rfl | kernel_rfl | exact Dle.of_eq rfl | exact MLe.of_eq rfl | exact Dle.i (by omega) | exact Dle.i (by simp only [Int.toNat_natCast] at *; omega) | exact Dle.nil | exact Dle.rc Dle.nil | exact Option.some_ne_none _ | exact Or.inl rfl | exact Or.inr trivial | omega | (simp only [Int.toNat_natCast] at *; omega) | (intro _ _ _ _; exact Dle.of_eq rfl) | refine And.intro ?_ ?_)⟩, by first | omega | (dsimp only; omega)⟩
          | trace_state
      · repeat' first
          | (refine codeW_cond rfl ?_; first | (refine condW_dec ?_ ?_ <;> intro _ <;> try (exfalso; omega)) | refine condW_not ?_ | (refine condW_bool ?_ ?_ <;> intro _ <;> try (exfalso; omega)))
          | (refine facW_intro ?_; intro _)
          | refine Or.inl ?_
          | ((conv => whnf); first | (refine condW_dec ?_ ?_ <;> intro _ <;> try (exfalso; omega)) | refine condW_not ?_ | (refine condW_bool ?_ ?_ <;> intro _ <;> try (exfalso; omega)) | (refine nbC_t (fun _ => ?_) ?_) | (refine nbC_f ?_ (fun _ => ?_)))
          | refine And.intro (by first | omega | (simp only [Int.toNat_natCast] at *; omega) | (simp only [Nat.reduceAdd, Int.cast_ofNat_Int, true_and, and_true]; omega)  | kernel_rfl) ?_
          | refine RegW.run ?_
          | refine ⟨_, h2, ?_⟩
          | fail
        all_goals first
          | (exfalso; omega)
          | exact ⟨2, by omega, ⟨[], ⟨by kernel_rfl, by kernel_rfl, by kernel_rfl, by kernel_rfl, by kernel_rfl, by kernel_rfl, by kernel_rfl⟩, (by repeat' first | exact trivial | exact rfl | kernel_rfl | exact Dle.of_eq rfl | exact MLe.of_eq rfl | exact Dle.i (by omega) | exact Dle.i (by simp only [Int.toNat_natCast] at *; omega) | exact Dle.nil | exact Dle.rc Dle.nil | exact Option.some_ne_none _ | exact Or.inl rfl | exact Or.inr trivial | omega | (simp only [Int.toNat_natCast] at *; omega) | (intro _ _ _ _; exact Dle.of_eq rfl) | refine And.intro ?_ ?_)⟩, by first | omega | (dsimp only; omega)⟩
          | trace_state
      · repeat' first
          | refine Or.inr ⟨_, _, _, Or.inl (h3), by kernel_rfl, (by repeat' first | exact trivial | exact rfl | kernel_rfl | exact Dle.of_eq rfl | exact MLe.of_eq rfl | exact Dle.i (by omega) | exact Dle.i (by simp only [Int.toNat_natCast] at *; omega) | exact Dle.nil | exact Dle.rc Dle.nil | exact Option.some_ne_none _ | exact Or.inl rfl | exact Or.inr trivial | omega | (simp only [Int.toNat_natCast] at *; omega) | (intro _ _ _ _; exact Dle.of_eq rfl) | refine And.intro ?_ ?_), ?_⟩
          | (refine codeW_cond rfl ?_; first | (refine condW_dec ?_ ?_ <;> intro _ <;> try (exfalso; omega)) | refine condW_not ?_ | (refine condW_bool ?_ ?_ <;> intro _ <;> try (exfalso; omega)))
          | (refine facW_intro ?_; intro _)
          | refine Or.inl ?_
          | ((conv => whnf); first | (refine condW_dec ?_ ?_ <;> intro _ <;> try (exfalso; omega)) | refine condW_not ?_ | (refine condW_bool ?_ ?_ <;> intro _ <;> try (exfalso; omega)) | (refine nbC_t (fun _ => ?_) ?_) | (refine nbC_f ?_ (fun _ => ?_)))
          | refine And.intro (by first | omega | (simp only [Int.toNat_natCast] at *; omega) | (simp only [Nat.reduceAdd, Int.cast_ofNat_Int, true_and, and_true]; omega)  | kernel_rfl) ?_
          | refine RegW.run ?_
          | fail
        all_goals first
          | (exfalso; omega)
          | exact Dle.tup (X := (cx Tryz.prog mixed tyT_ok E)) ⟨Dle.sl (X := (cx Tryz.prog mixed tyT_ok E)) (List.length_append).symm (fun i j hi hj => row_ap E g o i j), Dle.refl _ _, trivial⟩
          | trace_state
    · have ht2 : twoC a b = y := by rw [ht, if_neg (not_not_intro x0)]
      rw [ht2, if_neg y0]
      rw [x0] at h1
      refine Sp.body Tryz.func4 (by kernel_rfl) rfl (by kernel_rfl) (by kernel_rfl) (by kernel_rfl) ?_
      repeat' first
        | (refine codeW_cond rfl ?_; first | (refine condW_dec ?_ ?_ <;> intro _ <;> try (exfalso; omega)) | refine condW_not ?_ | (refine condW_bool ?_ ?_ <;> intro _ <;> try (exfalso; omega)))
        | (refine facW_intro ?_; intro _)
        | refine Or.inl ?_
        | ((conv => whnf); first | (refine condW_dec ?_ ?_ <;> intro _ <;> try (exfalso; omega)) | refine condW_not ?_ | (refine condW_bool ?_ ?_ <;> intro _ <;> try (exfalso; omega)) | (refine nbC_t (fun _ => ?_) ?_) | (refine nbC_f ?_ (fun _ => ?_)))
        | refine And.intro (by first | omega | (simp only [Int.toNat_natCast] at *; omega) | (simp only [Nat.reduceAdd, Int.cast_ofNat_Int, true_and, and_true]; omega)  | kernel_rfl) ?_
        | refine RegW.run ?_
        | fail
      refine ⟨Nat, fun k => [(14, i64 k)], fun k => [], [2, 3, 12], fun k => [], fun k => k ≤ 1, fun k => 1 - k, ⟨0, by omega, ⟨[], ⟨by kernel_rfl, by kernel_rfl, by kernel_rfl, by kernel_rfl, by kernel_rfl, by kernel_rfl, by kernel_rfl⟩, (by repeat' first | exact trivial | exact rfl | kernel_rfl | exact Dle.of_eq rfl | exact MLe.of_eq rfl | exact Dle.i (by omega) | exact Dle.i (by simp only [Int.toNat_natCast] at *; omega) | exact Dle.nil | exact Dle.rc Dle.nil | exact Option.some_ne_none _ | exact Or.inl rfl | exact Or.inr trivial | omega | (simp only [Int.toNat_natCast] at *; omega) | (intro _ _ _ _; exact Dle.of_eq rfl) | refine And.intro ?_ ?_)⟩⟩, fun k hk => ?_⟩
      have hk : k ≤ 1 := hk
      rcases (by omega : k = 0 ∨ k = 1) with rfl | rfl
      · repeat' first
          | (refine codeW_cond rfl ?_; first | (refine condW_dec ?_ ?_ <;> intro _ <;> try (exfalso; omega)) | refine condW_not ?_ | (refine condW_bool ?_ ?_ <;> intro _ <;> try (exfalso; omega)))
          | (refine facW_intro ?_; intro _)
          | refine Or.inl ?_
          | ((conv => whnf); first | (refine condW_dec ?_ ?_ <;> intro _ <;> try (exfalso; omega)) | refine condW_not ?_ | (refine condW_bool ?_ ?_ <;> intro _ <;> try (exfalso; omega)) | (refine nbC_t (fun _ => ?_) ?_) | (refine nbC_f ?_ (fun _ => ?_)))
          | refine And.intro (by first | omega | (simp only [Int.toNat_natCast] at *; omega) | (simp only [Nat.reduceAdd, Int.cast_ofNat_Int, true_and, and_true]; omega)  | kernel_rfl) ?_
          | refine RegW.run ?_
          | refine ⟨_, h1, ?_⟩
          | fail
        all_goals first
          | (exfalso; omega)
          | exact ⟨1, by omega, ⟨[], ⟨by kernel_rfl, by kernel_rfl, by kernel_rfl, by kernel_rfl, by kernel_rfl, by kernel_rfl, by kernel_rfl⟩, (by repeat' first | exact trivial | exact rfl | kernel_rfl | exact Dle.of_eq rfl | exact MLe.of_eq rfl | exact Dle.i (by omega) | exact Dle.i (by simp only [Int.toNat_natCast] at *; omega) | exact Dle.nil | exact Dle.rc Dle.nil | exact Option.some_ne_none _ | exact Or.inl rfl | exact Or.inr trivial | omega | (simp only [Int.toNat_natCast] at *; omega) | (intro _ _ _ _; exact Dle.of_eq rfl) | refine And.intro ?_ ?_)⟩, by first | omega | (dsimp only; omega)⟩
          | trace_state
      · repeat' first
          | (refine codeW_cond rfl ?_; first | (refine condW_dec ?_ ?_ <;> intro _ <;> try (exfalso; omega)) | refine condW_not ?_ | (refine condW_bool ?_ ?_ <;> intro _ <;> try (exfalso; omega)))
          | (refine facW_intro ?_; intro _)
          | refine Or.inl ?_
          | ((conv => whnf); first | (refine condW_dec ?_ ?_ <;> intro _ <;> try (exfalso; omega)) | refine condW_not ?_ | (refine condW_bool ?_ ?_ <;> intro _ <;> try (exfalso; omega)) | (refine nbC_t (fun _ => ?_) ?_) | (refine nbC_f ?_ (fun _ => ?_)))
          | refine And.intro (by first | omega | (simp only [Int.toNat_natCast] at *; omega) | (simp only [Nat.reduceAdd, Int.cast_ofNat_Int, true_and, and_true]; omega)  | kernel_rfl) ?_
          | refine RegW.run ?_
          | refine ⟨_, h2, ?_⟩
          | fail
        all_goals first
          | (exfalso; omega)
          | exact Dle.tup (X := (cx Tryz.prog mixed tyT_ok E)) ⟨Dle.nil (X := (cx Tryz.prog mixed tyT_ok E)), Dle.refl _ _, trivial⟩
          | trace_state
  · have ht2 : twoC a b = x := by rw [ht, if_pos x0]
    rw [ht2, if_neg x0]
    refine Sp.body Tryz.func4 (by kernel_rfl) rfl (by kernel_rfl) (by kernel_rfl) (by kernel_rfl) ?_
    repeat' first
      | (refine codeW_cond rfl ?_; first | (refine condW_dec ?_ ?_ <;> intro _ <;> try (exfalso; omega)) | refine condW_not ?_ | (refine condW_bool ?_ ?_ <;> intro _ <;> try (exfalso; omega)))
      | (refine facW_intro ?_; intro _)
      | refine Or.inl ?_
      | ((conv => whnf); first | (refine condW_dec ?_ ?_ <;> intro _ <;> try (exfalso; omega)) | refine condW_not ?_ | (refine condW_bool ?_ ?_ <;> intro _ <;> try (exfalso; omega)) | (refine nbC_t (fun _ => ?_) ?_) | (refine nbC_f ?_ (fun _ => ?_)))
      | refine And.intro (by first | omega | (simp only [Int.toNat_natCast] at *; omega) | (simp only [Nat.reduceAdd, Int.cast_ofNat_Int, true_and, and_true]; omega)  | kernel_rfl) ?_
      | refine RegW.run ?_
      | fail
    refine ⟨Nat, fun k => [(14, i64 k)], fun k => [], [2, 3, 12], fun k => [], fun k => k = 0, fun k => 1 - k, ⟨0, rfl, ⟨[], ⟨by kernel_rfl, by kernel_rfl, by kernel_rfl, by kernel_rfl, by kernel_rfl, by kernel_rfl, by kernel_rfl⟩, (by repeat' first | exact trivial | exact rfl | kernel_rfl | exact Dle.of_eq rfl | exact MLe.of_eq rfl | exact Dle.i (by omega) | exact Dle.i (by simp only [Int.toNat_natCast] at *; omega) | exact Dle.nil | exact Dle.rc Dle.nil | exact Option.some_ne_none _ | exact Or.inl rfl | exact Or.inr trivial | omega | (simp only [Int.toNat_natCast] at *; omega) | (intro _ _ _ _; exact Dle.of_eq rfl) | refine And.intro ?_ ?_)⟩⟩, fun k hk => ?_⟩
    obtain rfl : k = 0 := hk
    repeat' first
      | (refine codeW_cond rfl ?_; first | (refine condW_dec ?_ ?_ <;> intro _ <;> try (exfalso; omega)) | refine condW_not ?_ | (refine condW_bool ?_ ?_ <;> intro _ <;> try (exfalso; omega)))
      | (refine facW_intro ?_; intro _)
      | refine Or.inl ?_
      | ((conv => whnf); first | (refine condW_dec ?_ ?_ <;> intro _ <;> try (exfalso; omega)) | refine condW_not ?_ | (refine condW_bool ?_ ?_ <;> intro _ <;> try (exfalso; omega)) | (refine nbC_t (fun _ => ?_) ?_) | (refine nbC_f ?_ (fun _ => ?_)))
      | refine And.intro (by first | omega | (simp only [Int.toNat_natCast] at *; omega) | (simp only [Nat.reduceAdd, Int.cast_ofNat_Int, true_and, and_true]; omega)  | kernel_rfl) ?_
      | refine RegW.run ?_
      | refine ⟨_, h1, ?_⟩
      | fail
    all_goals first
      | (exfalso; omega)
      | exact Dle.tup (X := (cx Tryz.prog mixed tyT_ok E)) ⟨Dle.nil (X := (cx Tryz.prog mixed tyT_ok E)), Dle.refl _ _, trivial⟩
      | trace_state
set_option maxHeartbeats 8000000 in
theorem diffOf_sp (a b : Vu) (wa : a.wt ≤ 100000000) (wb : b.wt ≤ 100000000) : Sp (cx Tryz.prog mixed tyT_ok E) 5 [encV a, encV b] (.tup [encCs (if twoC a b = 0 then chgs a b else []), i64 (twoC a b)]) := by
  have h1 := confCheck_sp E a (by have := cnt_le_wt a; omega)
  have h2 := confCheck_sp E b (by have := cnt_le_wt b; omega)
  obtain ⟨x, hx⟩ : ∃ x, x = checkE a := ⟨_, rfl⟩
  obtain ⟨y, hy⟩ : ∃ y, y = checkE b := ⟨_, rfl⟩
  have ht : twoC a b = if x ≠ 0 then x else y := by rw [hx, hy]; rfl
  rw [← hx] at h1
  rw [← hy] at h2
  by_cases x0 : x = 0
  · by_cases y0 : y = 0
    · have ht2 : twoC a b = 0 := by rw [ht, if_neg (not_not_intro x0)]; exact y0
      rw [ht2, if_pos rfl]
      rw [x0] at h1
      rw [y0] at h2
      have fa := check_ok (hx.symm.trans x0)
      have fb := check_ok (hy.symm.trans y0)
      obtain ⟨g, hg⟩ : ∃ g, g = (diffV (SizeOf.sizeOf a + 1) a b ⟨#[]⟩).1 := ⟨_, rfl⟩
      obtain ⟨o, ho⟩ : ∃ o, o = (diffV (SizeOf.sizeOf a + 1) a b ⟨#[]⟩).2 := ⟨_, rfl⟩
      have hd := diff_len (SizeOf.sizeOf a + 1) a b ⟨#[]⟩ fa fb
      have hc : chgs a b = g ++ o := by rw [hg, ho]; rfl
      have h3 := differ_sp E (SizeOf.sizeOf a + 1) a b ⟨#[]⟩ 28 10028 (by decide) (Nat.lt_succ_self _) fa fb wa wb (by show 0 + _ ≤ _; omega) (by show 0 + _ ≤ _; omega)
      rw [hc]
      rw [← hg, ← ho] at hd h3
      clear hc hg ho
      refine Sp.body Tryz.func5 (by kernel_rfl) rfl (by kernel_rfl) (by kernel_rfl) (by kernel_rfl) ?_
      repeat' first
        | (refine codeW_cond rfl ?_; first | (refine condW_dec ?_ ?_ <;> intro _ <;> try (exfalso; omega)) | refine condW_not ?_ | (refine condW_bool ?_ ?_ <;> intro _ <;> try (exfalso; omega)))
        | (refine facW_intro ?_; intro _)
        | refine Or.inl ?_
        | ((conv => whnf); first | (refine condW_dec ?_ ?_ <;> intro _ <;> try (exfalso; omega)) | refine condW_not ?_ | (refine condW_bool ?_ ?_ <;> intro _ <;> try (exfalso; omega)) | (refine nbC_t (fun _ => ?_) ?_) | (refine nbC_f ?_ (fun _ => ?_)))
        | refine And.intro (by first | omega | (simp only [Int.toNat_natCast] at *; omega) | (simp only [Nat.reduceAdd, Int.cast_ofNat_Int, true_and, and_true]; omega)  | kernel_rfl) ?_
        | refine RegW.run ?_
        | fail
      refine ⟨Nat, fun k => [(15, i64 k)], fun k => [], [2, 3, 13], fun k => [], fun k => k ≤ 2, fun k => 2 - k, ⟨0, by omega, ⟨[], ⟨by kernel_rfl, by kernel_rfl, by kernel_rfl, by kernel_rfl, by kernel_rfl, by kernel_rfl, by kernel_rfl⟩, (by repeat' first | exact trivial | exact rfl | kernel_rfl | exact Dle.of_eq rfl | exact MLe.of_eq rfl | exact Dle.i (by omega) | exact Dle.i (by simp only [Int.toNat_natCast] at *; omega) | exact Dle.nil | exact Dle.rc Dle.nil | exact Option.some_ne_none _ | exact Or.inl rfl | exact Or.inr trivial | omega | (simp only [Int.toNat_natCast] at *; omega) | (intro _ _ _ _; exact Dle.of_eq rfl) | refine And.intro ?_ ?_)⟩⟩, fun k hk => ?_⟩
      have hk : k ≤ 2 := hk
      rcases (by omega : k = 0 ∨ k = 1 ∨ k = 2) with rfl | rfl | rfl
      · repeat' first
          | (refine codeW_cond rfl ?_; first | (refine condW_dec ?_ ?_ <;> intro _ <;> try (exfalso; omega)) | refine condW_not ?_ | (refine condW_bool ?_ ?_ <;> intro _ <;> try (exfalso; omega)))
          | (refine facW_intro ?_; intro _)
          | refine Or.inl ?_
          | ((conv => whnf); first | (refine condW_dec ?_ ?_ <;> intro _ <;> try (exfalso; omega)) | refine condW_not ?_ | (refine condW_bool ?_ ?_ <;> intro _ <;> try (exfalso; omega)) | (refine nbC_t (fun _ => ?_) ?_) | (refine nbC_f ?_ (fun _ => ?_)))
          | refine And.intro (by first | omega | (simp only [Int.toNat_natCast] at *; omega) | (simp only [Nat.reduceAdd, Int.cast_ofNat_Int, true_and, and_true]; omega)  | kernel_rfl) ?_
          | refine RegW.run ?_
          | refine ⟨_, h1, ?_⟩
          | fail
        all_goals first
          | (exfalso; omega)
          | exact ⟨1, by omega, ⟨[], ⟨by kernel_rfl, by kernel_rfl, by kernel_rfl, by kernel_rfl, by kernel_rfl, by kernel_rfl, by kernel_rfl⟩, (by repeat' first | exact trivial | exact rfl | kernel_rfl | exact Dle.of_eq rfl | exact MLe.of_eq rfl | exact Dle.i (by omega) | exact Dle.i (by simp only [Int.toNat_natCast] at *; omega) | exact Dle.nil | exact Dle.rc Dle.nil | exact Option.some_ne_none _ | exact Or.inl rfl | exact Or.inr trivial | omega | (simp only [Int.toNat_natCast] at *; omega) | (intro _ _ _ _; exact Dle.of_eq rfl) | refine And.intro ?_ ?_)⟩, by first | omega | (dsimp only; omega)⟩
          | trace_state
      · repeat' first
          | (refine codeW_cond rfl ?_; first | (refine condW_dec ?_ ?_ <;> intro _ <;> try (exfalso; omega)) | refine condW_not ?_ | (refine condW_bool ?_ ?_ <;> intro _ <;> try (exfalso; omega)))
          | (refine facW_intro ?_; intro _)
          | refine Or.inl ?_
          | ((conv => whnf); first | (refine condW_dec ?_ ?_ <;> intro _ <;> try (exfalso; omega)) | refine condW_not ?_ | (refine condW_bool ?_ ?_ <;> intro _ <;> try (exfalso; omega)) | (refine nbC_t (fun _ => ?_) ?_) | (refine nbC_f ?_ (fun _ => ?_)))
          | refine And.intro (by first | omega | (simp only [Int.toNat_natCast] at *; omega) | (simp only [Nat.reduceAdd, Int.cast_ofNat_Int, true_and, and_true]; omega)  | kernel_rfl) ?_
          | refine RegW.run ?_
          | refine ⟨_, h2, ?_⟩
          | fail
        all_goals first
          | (exfalso; omega)
          | exact ⟨2, by omega, ⟨[], ⟨by kernel_rfl, by kernel_rfl, by kernel_rfl, by kernel_rfl, by kernel_rfl, by kernel_rfl, by kernel_rfl⟩, (by repeat' first | exact trivial | exact rfl | kernel_rfl | exact Dle.of_eq rfl | exact MLe.of_eq rfl | exact Dle.i (by omega) | exact Dle.i (by simp only [Int.toNat_natCast] at *; omega) | exact Dle.nil | exact Dle.rc Dle.nil | exact Option.some_ne_none _ | exact Or.inl rfl | exact Or.inr trivial | omega | (simp only [Int.toNat_natCast] at *; omega) | (intro _ _ _ _; exact Dle.of_eq rfl) | refine And.intro ?_ ?_)⟩, by first | omega | (dsimp only; omega)⟩
          | trace_state
      · repeat' first
          | refine Or.inr ⟨_, _, _, Or.inl (h3), by kernel_rfl, (by repeat' first | exact trivial | exact rfl | kernel_rfl | exact Dle.of_eq rfl | exact MLe.of_eq rfl | exact Dle.i (by omega) | exact Dle.i (by simp only [Int.toNat_natCast] at *; omega) | exact Dle.nil | exact Dle.rc Dle.nil | exact Option.some_ne_none _ | exact Or.inl rfl | exact Or.inr trivial | omega | (simp only [Int.toNat_natCast] at *; omega) | (intro _ _ _ _; exact Dle.of_eq rfl) | refine And.intro ?_ ?_), ?_⟩
          | (refine codeW_cond rfl ?_; first | (refine condW_dec ?_ ?_ <;> intro _ <;> try (exfalso; omega)) | refine condW_not ?_ | (refine condW_bool ?_ ?_ <;> intro _ <;> try (exfalso; omega)))
          | (refine facW_intro ?_; intro _)
          | refine Or.inl ?_
          | ((conv => whnf); first | (refine condW_dec ?_ ?_ <;> intro _ <;> try (exfalso; omega)) | refine condW_not ?_ | (refine condW_bool ?_ ?_ <;> intro _ <;> try (exfalso; omega)) | (refine nbC_t (fun _ => ?_) ?_) | (refine nbC_f ?_ (fun _ => ?_)))
          | refine And.intro (by first | omega | (simp only [Int.toNat_natCast] at *; omega) | (simp only [Nat.reduceAdd, Int.cast_ofNat_Int, true_and, and_true]; omega)  | kernel_rfl) ?_
          | refine RegW.run ?_
          | fail
        all_goals first
          | (exfalso; omega)
          | exact Dle.tup (X := (cx Tryz.prog mixed tyT_ok E)) ⟨Dle.sl (X := (cx Tryz.prog mixed tyT_ok E)) (List.length_append).symm (fun i j hi hj => row_ap E g o i j), Dle.refl _ _, trivial⟩
          | trace_state
    · have ht2 : twoC a b = y := by rw [ht, if_neg (not_not_intro x0)]
      rw [ht2, if_neg y0]
      rw [x0] at h1
      refine Sp.body Tryz.func5 (by kernel_rfl) rfl (by kernel_rfl) (by kernel_rfl) (by kernel_rfl) ?_
      repeat' first
        | (refine codeW_cond rfl ?_; first | (refine condW_dec ?_ ?_ <;> intro _ <;> try (exfalso; omega)) | refine condW_not ?_ | (refine condW_bool ?_ ?_ <;> intro _ <;> try (exfalso; omega)))
        | (refine facW_intro ?_; intro _)
        | refine Or.inl ?_
        | ((conv => whnf); first | (refine condW_dec ?_ ?_ <;> intro _ <;> try (exfalso; omega)) | refine condW_not ?_ | (refine condW_bool ?_ ?_ <;> intro _ <;> try (exfalso; omega)) | (refine nbC_t (fun _ => ?_) ?_) | (refine nbC_f ?_ (fun _ => ?_)))
        | refine And.intro (by first | omega | (simp only [Int.toNat_natCast] at *; omega) | (simp only [Nat.reduceAdd, Int.cast_ofNat_Int, true_and, and_true]; omega)  | kernel_rfl) ?_
        | refine RegW.run ?_
        | fail
      refine ⟨Nat, fun k => [(15, i64 k)], fun k => [], [2, 3, 13], fun k => [], fun k => k ≤ 1, fun k => 1 - k, ⟨0, by omega, ⟨[], ⟨by kernel_rfl, by kernel_rfl, by kernel_rfl, by kernel_rfl, by kernel_rfl, by kernel_rfl, by kernel_rfl⟩, (by repeat' first | exact trivial | exact rfl | kernel_rfl | exact Dle.of_eq rfl | exact MLe.of_eq rfl | exact Dle.i (by omega) | exact Dle.i (by simp only [Int.toNat_natCast] at *; omega) | exact Dle.nil | exact Dle.rc Dle.nil | exact Option.some_ne_none _ | exact Or.inl rfl | exact Or.inr trivial | omega | (simp only [Int.toNat_natCast] at *; omega) | (intro _ _ _ _; exact Dle.of_eq rfl) | refine And.intro ?_ ?_)⟩⟩, fun k hk => ?_⟩
      have hk : k ≤ 1 := hk
      rcases (by omega : k = 0 ∨ k = 1) with rfl | rfl
      · repeat' first
          | (refine codeW_cond rfl ?_; first | (refine condW_dec ?_ ?_ <;> intro _ <;> try (exfalso; omega)) | refine condW_not ?_ | (refine condW_bool ?_ ?_ <;> intro _ <;> try (exfalso; omega)))
          | (refine facW_intro ?_; intro _)
          | refine Or.inl ?_
          | ((conv => whnf); first | (refine condW_dec ?_ ?_ <;> intro _ <;> try (exfalso; omega)) | refine condW_not ?_ | (refine condW_bool ?_ ?_ <;> intro _ <;> try (exfalso; omega)) | (refine nbC_t (fun _ => ?_) ?_) | (refine nbC_f ?_ (fun _ => ?_)))
          | refine And.intro (by first | omega | (simp only [Int.toNat_natCast] at *; omega) | (simp only [Nat.reduceAdd, Int.cast_ofNat_Int, true_and, and_true]; omega)  | kernel_rfl) ?_
          | refine RegW.run ?_
          | refine ⟨_, h1, ?_⟩
          | fail
        all_goals first
          | (exfalso; omega)
          | exact ⟨1, by omega, ⟨[], ⟨by kernel_rfl, by kernel_rfl, by kernel_rfl, by kernel_rfl, by kernel_rfl, by kernel_rfl, by kernel_rfl⟩, (by repeat' first | exact trivial | exact rfl | kernel_rfl | exact Dle.of_eq rfl | exact MLe.of_eq rfl | exact Dle.i (by omega) | exact Dle.i (by simp only [Int.toNat_natCast] at *; omega) | exact Dle.nil | exact Dle.rc Dle.nil | exact Option.some_ne_none _ | exact Or.inl rfl | exact Or.inr trivial | omega | (simp only [Int.toNat_natCast] at *; omega) | (intro _ _ _ _; exact Dle.of_eq rfl) | refine And.intro ?_ ?_)⟩, by first | omega | (dsimp only; omega)⟩
          | trace_state
      · repeat' first
          | (refine codeW_cond rfl ?_; first | (refine condW_dec ?_ ?_ <;> intro _ <;> try (exfalso; omega)) | refine condW_not ?_ | (refine condW_bool ?_ ?_ <;> intro _ <;> try (exfalso; omega)))
          | (refine facW_intro ?_; intro _)
          | refine Or.inl ?_
          | ((conv => whnf); first | (refine condW_dec ?_ ?_ <;> intro _ <;> try (exfalso; omega)) | refine condW_not ?_ | (refine condW_bool ?_ ?_ <;> intro _ <;> try (exfalso; omega)) | (refine nbC_t (fun _ => ?_) ?_) | (refine nbC_f ?_ (fun _ => ?_)))
          | refine And.intro (by first | omega | (simp only [Int.toNat_natCast] at *; omega) | (simp only [Nat.reduceAdd, Int.cast_ofNat_Int, true_and, and_true]; omega)  | kernel_rfl) ?_
          | refine RegW.run ?_
          | refine ⟨_, h2, ?_⟩
          | fail
        all_goals first
          | (exfalso; omega)
          | exact Dle.tup (X := (cx Tryz.prog mixed tyT_ok E)) ⟨Dle.nil (X := (cx Tryz.prog mixed tyT_ok E)), Dle.refl _ _, trivial⟩
          | trace_state
  · have ht2 : twoC a b = x := by rw [ht, if_pos x0]
    rw [ht2, if_neg x0]
    refine Sp.body Tryz.func5 (by kernel_rfl) rfl (by kernel_rfl) (by kernel_rfl) (by kernel_rfl) ?_
    repeat' first
      | (refine codeW_cond rfl ?_; first | (refine condW_dec ?_ ?_ <;> intro _ <;> try (exfalso; omega)) | refine condW_not ?_ | (refine condW_bool ?_ ?_ <;> intro _ <;> try (exfalso; omega)))
      | (refine facW_intro ?_; intro _)
      | refine Or.inl ?_
      | ((conv => whnf); first | (refine condW_dec ?_ ?_ <;> intro _ <;> try (exfalso; omega)) | refine condW_not ?_ | (refine condW_bool ?_ ?_ <;> intro _ <;> try (exfalso; omega)) | (refine nbC_t (fun _ => ?_) ?_) | (refine nbC_f ?_ (fun _ => ?_)))
      | refine And.intro (by first | omega | (simp only [Int.toNat_natCast] at *; omega) | (simp only [Nat.reduceAdd, Int.cast_ofNat_Int, true_and, and_true]; omega)  | kernel_rfl) ?_
      | refine RegW.run ?_
      | fail
    refine ⟨Nat, fun k => [(15, i64 k)], fun k => [], [2, 3, 13], fun k => [], fun k => k = 0, fun k => 1 - k, ⟨0, rfl, ⟨[], ⟨by kernel_rfl, by kernel_rfl, by kernel_rfl, by kernel_rfl, by kernel_rfl, by kernel_rfl, by kernel_rfl⟩, (by repeat' first | exact trivial | exact rfl | kernel_rfl | exact Dle.of_eq rfl | exact MLe.of_eq rfl | exact Dle.i (by omega) | exact Dle.i (by simp only [Int.toNat_natCast] at *; omega) | exact Dle.nil | exact Dle.rc Dle.nil | exact Option.some_ne_none _ | exact Or.inl rfl | exact Or.inr trivial | omega | (simp only [Int.toNat_natCast] at *; omega) | (intro _ _ _ _; exact Dle.of_eq rfl) | refine And.intro ?_ ?_)⟩⟩, fun k hk => ?_⟩
    obtain rfl : k = 0 := hk
    repeat' first
      | (refine codeW_cond rfl ?_; first | (refine condW_dec ?_ ?_ <;> intro _ <;> try (exfalso; omega)) | refine condW_not ?_ | (refine condW_bool ?_ ?_ <;> intro _ <;> try (exfalso; omega)))
      | (refine facW_intro ?_; intro _)
      | refine Or.inl ?_
      | ((conv => whnf); first | (refine condW_dec ?_ ?_ <;> intro _ <;> try (exfalso; omega)) | refine condW_not ?_ | (refine condW_bool ?_ ?_ <;> intro _ <;> try (exfalso; omega)) | (refine nbC_t (fun _ => ?_) ?_) | (refine nbC_f ?_ (fun _ => ?_)))
      | refine And.intro (by first | omega | (simp only [Int.toNat_natCast] at *; omega) | (simp only [Nat.reduceAdd, Int.cast_ofNat_Int, true_and, and_true]; omega)  | kernel_rfl) ?_
      | refine RegW.run ?_
      | refine ⟨_, h1, ?_⟩
      | fail
    all_goals first
      | (exfalso; omega)
      | exact Dle.tup (X := (cx Tryz.prog mixed tyT_ok E)) ⟨Dle.nil (X := (cx Tryz.prog mixed tyT_ok E)), Dle.refl _ _, trivial⟩
      | trace_state
end
end df
end Go.Proofs.YtocehfhhmljejaaGreatDoor
