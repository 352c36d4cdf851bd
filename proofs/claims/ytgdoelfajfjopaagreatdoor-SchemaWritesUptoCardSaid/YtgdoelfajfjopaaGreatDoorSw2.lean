/-
  The program's SchemaValue: the walk.
-/
import Derived.Test.YtgdoelfajfjopaaGreatDoorSw1
import Derived.Test.YtgdoelfajfjopaaGreatDoorK2
namespace Go.Proofs.YtgdoelfajfjopaaGreatDoor
open Go.RowKit
set_option linter.unusedVariables false
set_option linter.unusedSimpArgs false
namespace sw
open cr se ap so tab mg rs
section
variable (E : Env)
set_option maxRecDepth 100000
set_option maxHeartbeats 16000000 in
theorem schemaValue_sp (hML : ∀ w, E.G w → ML w) (E0 : Env) (hg : ∀ w, E0.G w → ∀ g, Rep view E0.MG w b0 (namesGv g) (.pointer (some ⟨g, 0, none⟩))) (hE : E = nEnv E0 hg) (l : List Fd) (b : Bool) (hl : fdOk l) (hlen : l.length ≤ 1000000000) (hw : (l.map fdw).sum ≤ 100000000) : Sp (cx Tryz.prog mixed tyT_ok E) 8 [.agg [encFs l, dB b]] (.tup [encV (schR l b).1, i64 (schR l b).2]) := by
  have hcs := checkSchema_sp E hML l b hl hlen
  have hko := @kinds_ok l
  have hwt := schV_wt l b
  obtain ⟨r, hr⟩ : ∃ r, r = schR l b := ⟨_, rfl⟩
  rw [← hr]
  unfold schR at hr
  generalize schemaE l = es at hcs hr hko
  by_cases h1 : es = 0
  · obtain ⟨hl1, hl2⟩ := hko h1
    subst h1
    rw [if_neg (show ¬ ((0 : Int) ≠ 0) from fun h => h rfl)] at hr
    have hky := kindName_sp E E0 hg hE
    clear hE
    refine Sp.body Tryz.func8 (by kernel_rfl) rfl (by kernel_rfl) (by kernel_rfl) (by kernel_rfl) ?_
    repeat' first
      | (refine codeW_cond rfl ?_; first | (refine condW_dec ?_ ?_ <;> intro _ <;> try (exfalso; omega)) | refine condW_not ?_ | (refine condW_bool ?_ ?_ <;> intro _ <;> try (exfalso; omega)))
      | (refine facW_intro ?_; intro _)
      | refine Or.inl ?_
      | ((conv => whnf); first | (refine condW_dec ?_ ?_ <;> intro _ <;> try (exfalso; omega)) | refine condW_not ?_ | (refine condW_bool ?_ ?_ <;> intro _ <;> try (exfalso; omega)) | (refine nbC_t (fun _ => ?_) ?_) | (refine nbC_f ?_ (fun _ => ?_)))
      | refine And.intro (by first | omega | (simp only [Int.toNat_natCast] at *; omega) | (simp only [Nat.reduceAdd, Int.cast_ofNat_Int, true_and, and_true]; omega)  | (simp only [cx, view, Nat.reduceAdd, Int.toNat_natCast]; omega) | kernel_rfl) ?_
      | refine RegW.run ?_
      | refine ⟨_, hcs, ?_⟩
      | fail
    refine ⟨Nat, fun k => [(24, i64 k)], fun k => [(5, .cells [i64 5, dB false, i64 0, dS ⟨#[]⟩, .own 25 6 0 k, .v (.slice none 0 0)])], [1, 2], fun k => [(25, 25, k, fun i j => ((l.map fieldV).getD i .zero).cell j)], fun k => k ≤ l.length, fun k => l.length - k, ⟨0, Nat.zero_le _, ⟨[(25, none)], ⟨by kernel_rfl, by kernel_rfl, by kernel_rfl, by kernel_rfl, by kernel_rfl, by kernel_rfl, by kernel_rfl⟩, (by repeat' first | exact trivial | exact rfl | kernel_rfl | exact Dle.of_eq rfl | exact MLe.of_eq rfl | exact Dle.i (by omega) | exact Dle.i (by simp only [Int.toNat_natCast] at *; omega) | exact Dle.nil | exact Dle.rc Dle.nil | exact Option.some_ne_none _ | exact Or.inl rfl | exact Or.inr trivial | omega | (simp only [Int.toNat_natCast] at *; omega) | (intro _ _ _ _; exact Dle.of_eq rfl) | refine And.intro ?_ ?_)⟩⟩, fun k hk => ?_⟩
    have hk : k ≤ l.length := hk
    by_cases hlt : k < l.length
    · obtain ⟨g1, g2⟩ := hl2 k hlt
      have hdw := (hl _ (getD_mem l default k hlt)).1
      have hfo : (l.getD k default).oneOf.length ≤ 100000000 := by have h1 := fdw_at l k hlt; have h2 := one_len (l.getD k default).oneOf; have h3 :  fdw (l.getD k default) = (l.getD k default).route.size + ((l.getD k default).oneOf.map fun s => s.size + 1).sum + (l.getD k default).dflt.wt := rfl; omega
      have hx1 : (l.getD ((k : Int).toNat) default).oneOf.length = (l.getD k default).oneOf.length := rfl
      have hx2 : (l.getD ((k : Int).toNat) default).dflt.kind = (l.getD k default).dflt.kind := rfl
      have hk1 := hky (l.getD k default).kind g1 g2
      have hs1 := str_sp E (l.getD k default).route
      have hs2 := str_sp E (kname (l.getD k default).kind)
      have hy1 := yes_sp E (l.getD k default).need
      have hw1 := whole_sp E (l.getD k default).hi
      have hw2 := whole_sp E (l.getD k default).lo
      have hcl := clone_sp E _ (l.getD k default).dflt (Nat.lt_succ_self _) (by omega)
      have e0 : emp.keys.length = emp.items.length ∧ emp.keys.length ≤ 0 := ⟨rfl, Nat.le_refl _⟩
      have e1 := small_put e0 (⟨#[114, 111, 117, 116, 101]⟩ : ByteArray) (txt (l.getD k default).route)
      have e2 := small_put e1 (⟨#[107, 105, 110, 100]⟩ : ByteArray) (txt (kname (l.getD k default).kind))
      have e3 := small_put e2 (⟨#[110, 101, 101, 100]⟩ : ByteArray) (tru (l.getD k default).need)
      have e4 := small_put e3 (⟨#[109, 97, 120]⟩ : ByteArray) (whl (l.getD k default).hi)
      have e5 := small_put e4 (⟨#[109, 105, 110]⟩ : ByteArray) (whl (l.getD k default).lo)
      have c1 := (put_sp E emp (⟨#[114, 111, 117, 116, 101]⟩ : ByteArray) (txt (l.getD k default).route) (by omega) e0.1).args (ds := [.agg [i64 6, dB false, i64 0, dS ⟨#[]⟩, .v (.slice none 0 0), .v (.slice none 0 0)], dS (⟨#[114, 111, 117, 116, 101]⟩ : ByteArray), encV (txt (l.getD k default).route)]) ⟨zAgg E 6 false 0 ⟨#[]⟩, Dle.refl _ _, Dle.refl _ _, trivial⟩
      have c2 := put_sp E (putK emp (⟨#[114, 111, 117, 116, 101]⟩ : ByteArray) (txt (l.getD k default).route)) (⟨#[107, 105, 110, 100]⟩ : ByteArray) (txt (kname (l.getD k default).kind)) (by omega) e1.1
      have c3 := put_sp E (putK (putK emp (⟨#[114, 111, 117, 116, 101]⟩ : ByteArray) (txt (l.getD k default).route)) (⟨#[107, 105, 110, 100]⟩ : ByteArray) (txt (kname (l.getD k default).kind))) (⟨#[110, 101, 101, 100]⟩ : ByteArray) (tru (l.getD k default).need) (by omega) e2.1
      have c4 := put_sp E (putK (putK (putK emp (⟨#[114, 111, 117, 116, 101]⟩ : ByteArray) (txt (l.getD k default).route)) (⟨#[107, 105, 110, 100]⟩ : ByteArray) (txt (kname (l.getD k default).kind))) (⟨#[110, 101, 101, 100]⟩ : ByteArray) (tru (l.getD k default).need)) (⟨#[109, 97, 120]⟩ : ByteArray) (whl (l.getD k default).hi) (by omega) e3.1
      have c5 := put_sp E (putK (putK (putK (putK emp (⟨#[114, 111, 117, 116, 101]⟩ : ByteArray) (txt (l.getD k default).route)) (⟨#[107, 105, 110, 100]⟩ : ByteArray) (txt (kname (l.getD k default).kind))) (⟨#[110, 101, 101, 100]⟩ : ByteArray) (tru (l.getD k default).need)) (⟨#[109, 97, 120]⟩ : ByteArray) (whl (l.getD k default).hi)) (⟨#[109, 105, 110]⟩ : ByteArray) (whl (l.getD k default).lo) (by omega) e4.1
      have hfv : ∀ y, fieldV (l.getD k default) = y → ∀ a c, a < k + 1 → c < 6 → Dle (cx Tryz.prog mixed tyT_ok E) (if a < k then ((l.map fieldV).getD a .zero).cell c else ([i64 y.kind, dB y.b, i64 y.i, dS y.text, .rc (.vals y.items), encStrs y.keys] : List DD).getD ((a - k) * 6 + c) .opq) (((l.map fieldV).getD a .zero).cell c) := fun y hy a c ha hc => Dle.of_eq (by
        by_cases h : a < k
        · rw [if_pos h]
        · obtain rfl : a = k := by omega
          rw [if_neg h, show (a - a) * 6 + c = c by rw [Nat.sub_self]; omega, map_at hlt, hy, cell_of y c hc])
      cases hb : (l.getD k default).bounded with
      | true =>
        by_cases ho : 0 < (l.getD k default).oneOf.length
        · by_cases hd : (l.getD k default).dflt.kind ≠ 0
          · have u2 : t2 (l.getD k default) = (putK (putK (putK (putK (putK emp (⟨#[114, 111, 117, 116, 101]⟩ : ByteArray) (txt (l.getD k default).route)) (⟨#[107, 105, 110, 100]⟩ : ByteArray) (txt (kname (l.getD k default).kind))) (⟨#[110, 101, 101, 100]⟩ : ByteArray) (tru (l.getD k default).need)) (⟨#[109, 97, 120]⟩ : ByteArray) (whl (l.getD k default).hi)) (⟨#[109, 105, 110]⟩ : ByteArray) (whl (l.getD k default).lo)) := if_pos hb
            have u3 : t3 (l.getD k default) = (putK (putK (putK (putK (putK (putK emp (⟨#[114, 111, 117, 116, 101]⟩ : ByteArray) (txt (l.getD k default).route)) (⟨#[107, 105, 110, 100]⟩ : ByteArray) (txt (kname (l.getD k default).kind))) (⟨#[110, 101, 101, 100]⟩ : ByteArray) (tru (l.getD k default).need)) (⟨#[109, 97, 120]⟩ : ByteArray) (whl (l.getD k default).hi)) (⟨#[109, 105, 110]⟩ : ByteArray) (whl (l.getD k default).lo)) (⟨#[111, 110, 101, 111, 102]⟩ : ByteArray) (lst ((l.getD k default).oneOf.map txt))) := by unfold t3; rw [if_pos ho, u2]
            have e6 := small_put e5 (⟨#[111, 110, 101, 111, 102]⟩ : ByteArray) (lst ((l.getD k default).oneOf.map txt))
            have c6 := put_sp E (putK (putK (putK (putK (putK emp (⟨#[114, 111, 117, 116, 101]⟩ : ByteArray) (txt (l.getD k default).route)) (⟨#[107, 105, 110, 100]⟩ : ByteArray) (txt (kname (l.getD k default).kind))) (⟨#[110, 101, 101, 100]⟩ : ByteArray) (tru (l.getD k default).need)) (⟨#[109, 97, 120]⟩ : ByteArray) (whl (l.getD k default).hi)) (⟨#[109, 105, 110]⟩ : ByteArray) (whl (l.getD k default).lo)) (⟨#[111, 110, 101, 111, 102]⟩ : ByteArray) (lst ((l.getD k default).oneOf.map txt)) (by omega) e5.1
            have u4 : fieldV (l.getD k default) = (putK (putK (putK (putK (putK (putK (putK emp (⟨#[114, 111, 117, 116, 101]⟩ : ByteArray) (txt (l.getD k default).route)) (⟨#[107, 105, 110, 100]⟩ : ByteArray) (txt (kname (l.getD k default).kind))) (⟨#[110, 101, 101, 100]⟩ : ByteArray) (tru (l.getD k default).need)) (⟨#[109, 97, 120]⟩ : ByteArray) (whl (l.getD k default).hi)) (⟨#[109, 105, 110]⟩ : ByteArray) (whl (l.getD k default).lo)) (⟨#[111, 110, 101, 111, 102]⟩ : ByteArray) (lst ((l.getD k default).oneOf.map txt))) (⟨#[100, 101, 102, 97, 117, 108, 116]⟩ : ByteArray) (l.getD k default).dflt) := by unfold fieldV; rw [if_pos hd, u3]
            have c7 := put_sp E (putK (putK (putK (putK (putK (putK emp (⟨#[114, 111, 117, 116, 101]⟩ : ByteArray) (txt (l.getD k default).route)) (⟨#[107, 105, 110, 100]⟩ : ByteArray) (txt (kname (l.getD k default).kind))) (⟨#[110, 101, 101, 100]⟩ : ByteArray) (tru (l.getD k default).need)) (⟨#[109, 97, 120]⟩ : ByteArray) (whl (l.getD k default).hi)) (⟨#[109, 105, 110]⟩ : ByteArray) (whl (l.getD k default).lo)) (⟨#[111, 110, 101, 111, 102]⟩ : ByteArray) (lst ((l.getD k default).oneOf.map txt))) (⟨#[100, 101, 102, 97, 117, 108, 116]⟩ : ByteArray) (l.getD k default).dflt (by omega) e6.1
            have hrow := hfv _ u4
            repeat' first
              | (refine codeW_cond rfl ?_; first | (refine condW_dec ?_ ?_ <;> intro _ <;> try (exfalso; first | omega | (rename_i h; exact absurd (hb.symm.trans h) (by decide)))) | refine condW_not ?_ | (refine condW_bool ?_ ?_ <;> intro _ <;> try (exfalso; first | omega | (rename_i h; exact absurd (hb.symm.trans h) (by decide)))))
              | (refine facW_intro ?_; intro _)
              | refine Or.inl ?_
              | ((conv => whnf); first | (refine condW_dec ?_ ?_ <;> intro _ <;> try (exfalso; first | omega | (rename_i h; exact absurd (hb.symm.trans h) (by decide)))) | refine condW_not ?_ | (refine condW_bool ?_ ?_ <;> intro _ <;> try (exfalso; first | omega | (rename_i h; exact absurd (hb.symm.trans h) (by decide)))) | (refine nbC_t (fun _ => ?_) ?_) | (refine nbC_f ?_ (fun _ => ?_)))
              | refine And.intro (by first | omega | (simp only [Int.toNat_natCast] at *; omega) | (simp only [Nat.reduceAdd, Int.cast_ofNat_Int, true_and, and_true]; omega)  | (simp only [cx, view, Nat.reduceAdd, Int.toNat_natCast]; omega) | kernel_rfl) ?_
              | refine RegW.run ?_
              | refine ⟨_, c1, ?_⟩
              | refine ⟨_, c2, ?_⟩
              | refine ⟨_, c3, ?_⟩
              | refine ⟨_, hk1, ?_⟩
              | refine ⟨_, hs1, ?_⟩
              | refine ⟨_, hs2, ?_⟩
              | refine ⟨_, hy1, ?_⟩
              | refine ⟨_, hw1, ?_⟩
              | refine ⟨_, hw2, ?_⟩
              | refine ⟨_, c4, ?_⟩
              | refine ⟨_, c5, ?_⟩
              | fail
            all_goals first
              | (exfalso; omega)
              | skip
            refine ⟨Nat, fun q => [(63, i64 q)], fun q => [(9, .cells [i64 5, dB false, i64 0, dS ⟨#[]⟩, .own 64 6 0 q, .v (.slice none 0 0)])], [1, 2, 5, 7, 8, 25], fun q => [(64, 25, q, fun i j => (((l.getD k default).oneOf.map txt).getD i .zero).cell j)], fun q => q ≤ (l.getD k default).oneOf.length, fun q => (l.getD k default).oneOf.length - q, ⟨0, Nat.zero_le _, ⟨[(64, none)], ⟨by kernel_rfl, by kernel_rfl, by kernel_rfl, by kernel_rfl, by kernel_rfl, by kernel_rfl, by kernel_rfl⟩, (by repeat' first | exact trivial | exact rfl | kernel_rfl | exact Dle.of_eq rfl | exact MLe.of_eq rfl | exact Dle.i (by omega) | exact Dle.i (by simp only [Int.toNat_natCast] at *; omega) | exact Dle.nil | exact Dle.rc Dle.nil | exact Option.some_ne_none _ | exact Or.inl rfl | exact Or.inr trivial | omega | (simp only [Int.toNat_natCast] at *; omega) | (intro _ _ _ _; exact Dle.of_eq rfl) | refine And.intro ?_ ?_)⟩⟩, fun q hq => ?_⟩
            have hq : q ≤ (l.getD k default).oneOf.length := hq
            by_cases hqlt : q < (l.getD k default).oneOf.length
            · have hsq := str_sp E ((l.getD k default).oneOf.getD q ⟨#[]⟩)
              have hrq : ∀ a c, a < q + 1 → c < 6 → Dle (cx Tryz.prog mixed tyT_ok E) (if a < q then (((l.getD k default).oneOf.map txt).getD a .zero).cell c else ([i64 (txt ((l.getD k default).oneOf.getD q ⟨#[]⟩)).kind, dB (txt ((l.getD k default).oneOf.getD q ⟨#[]⟩)).b, i64 (txt ((l.getD k default).oneOf.getD q ⟨#[]⟩)).i, dS (txt ((l.getD k default).oneOf.getD q ⟨#[]⟩)).text, .rc (.vals (txt ((l.getD k default).oneOf.getD q ⟨#[]⟩)).items), encStrs (txt ((l.getD k default).oneOf.getD q ⟨#[]⟩)).keys] : List DD).getD ((a - q) * 6 + c) .opq) ((((l.getD k default).oneOf.map txt).getD a .zero).cell c) := fun a c ha hc => Dle.of_eq (by
                by_cases h : a < q
                · rw [if_pos h]
                · obtain rfl : a = q := by omega
                  rw [if_neg h, show (a - a) * 6 + c = c by rw [Nat.sub_self]; omega, txt_at hqlt, cell_of _ c hc])
              repeat' first
                | (refine codeW_cond rfl ?_; first | (refine condW_dec ?_ ?_ <;> intro _ <;> try (exfalso; omega)) | refine condW_not ?_ | (refine condW_bool ?_ ?_ <;> intro _ <;> try (exfalso; omega)))
                | (refine facW_intro ?_; intro _)
                | refine Or.inl ?_
                | ((conv => whnf); first | (refine condW_dec ?_ ?_ <;> intro _ <;> try (exfalso; omega)) | refine condW_not ?_ | (refine condW_bool ?_ ?_ <;> intro _ <;> try (exfalso; omega)) | (refine nbC_t (fun _ => ?_) ?_) | (refine nbC_f ?_ (fun _ => ?_)))
                | refine And.intro (by first | omega | (simp only [Int.toNat_natCast] at *; omega) | (simp only [Nat.reduceAdd, Int.cast_ofNat_Int, true_and, and_true]; omega)  | (simp only [cx, view, Nat.reduceAdd, Int.toNat_natCast]; omega) | kernel_rfl) ?_
                | refine RegW.run ?_
                | refine ⟨_, hsq, ?_⟩
                | fail
              all_goals first
                | (exfalso; omega)
                | exact ⟨q + 1, by omega, ⟨[(64, some 72)], ⟨by kernel_rfl, by kernel_rfl, by kernel_rfl, by kernel_rfl, by kernel_rfl, by kernel_rfl, by kernel_rfl⟩, (by repeat' first | exact trivial | exact rfl | kernel_rfl | exact Dle.of_eq rfl | exact MLe.of_eq rfl | exact Dle.i (by omega) | exact Dle.i (by simp only [Int.toNat_natCast] at *; omega) | exact Dle.nil | exact Dle.rc Dle.nil | exact Option.some_ne_none _ | exact Or.inl rfl | exact Or.inr trivial | omega | (simp only [Int.toNat_natCast] at *; omega) | (intro _ _ _ _; exact Dle.of_eq rfl) | (intro i j hi hj; exact hrq i j hi hj) | refine And.intro ?_ ?_)⟩, by first | omega | (dsimp only; omega)⟩
                | trace_state
            · obtain rfl : q = (l.getD k default).oneOf.length := by omega
              have hom : (l.getD k default).oneOf.length = ((l.getD k default).oneOf.map txt).length := (List.length_map ..).symm
              repeat' first
                | (refine codeW_cond rfl ?_; first | (refine condW_dec ?_ ?_ <;> intro _ <;> try (exfalso; omega)) | refine condW_not ?_ | (refine condW_bool ?_ ?_ <;> intro _ <;> try (exfalso; omega)))
                | (refine facW_intro ?_; intro _)
                | refine Or.inl ?_
                | ((conv => whnf); first | (refine condW_dec ?_ ?_ <;> intro _ <;> try (exfalso; omega)) | refine condW_not ?_ | (refine condW_bool ?_ ?_ <;> intro _ <;> try (exfalso; omega)) | (refine nbC_t (fun _ => ?_) ?_) | (refine nbC_f ?_ (fun _ => ?_)))
                | refine And.intro (by first | omega | (simp only [Int.toNat_natCast] at *; omega) | (simp only [Nat.reduceAdd, Int.cast_ofNat_Int, true_and, and_true]; omega)  | (simp only [cx, view, Nat.reduceAdd, Int.toNat_natCast]; omega) | kernel_rfl) ?_
                | refine RegW.run ?_
                | refine ⟨_, c6.args ⟨Dle.refl _ _, Dle.refl _ _, hLst E ((l.getD k default).oneOf.map txt) hom (fun _ _ _ _ => rfl), trivial⟩, ?_⟩
                | refine ⟨_, c7, ?_⟩
                | refine ⟨_, hcl, ?_⟩
                | fail
              all_goals first
                | (exfalso; omega)
                | exact ⟨k + 1, by omega, ⟨[(25, some 91)], ⟨by kernel_rfl, by kernel_rfl, by kernel_rfl, by kernel_rfl, by kernel_rfl, by kernel_rfl, by kernel_rfl⟩, (by repeat' first | exact trivial | exact rfl | kernel_rfl | exact Dle.of_eq rfl | exact MLe.of_eq rfl | exact Dle.i (by omega) | exact Dle.i (by simp only [Int.toNat_natCast] at *; omega) | exact Dle.nil | exact Dle.rc Dle.nil | exact Option.some_ne_none _ | exact Or.inl rfl | exact Or.inr trivial | omega | (simp only [Int.toNat_natCast] at *; omega) | (intro _ _ _ _; exact Dle.of_eq rfl) | (intro i j hi hj; exact hrow i j hi hj) | refine And.intro ?_ ?_)⟩, by first | omega | (dsimp only; omega)⟩
                | trace_state
          · have u2 : t2 (l.getD k default) = (putK (putK (putK (putK (putK emp (⟨#[114, 111, 117, 116, 101]⟩ : ByteArray) (txt (l.getD k default).route)) (⟨#[107, 105, 110, 100]⟩ : ByteArray) (txt (kname (l.getD k default).kind))) (⟨#[110, 101, 101, 100]⟩ : ByteArray) (tru (l.getD k default).need)) (⟨#[109, 97, 120]⟩ : ByteArray) (whl (l.getD k default).hi)) (⟨#[109, 105, 110]⟩ : ByteArray) (whl (l.getD k default).lo)) := if_pos hb
            have u3 : t3 (l.getD k default) = (putK (putK (putK (putK (putK (putK emp (⟨#[114, 111, 117, 116, 101]⟩ : ByteArray) (txt (l.getD k default).route)) (⟨#[107, 105, 110, 100]⟩ : ByteArray) (txt (kname (l.getD k default).kind))) (⟨#[110, 101, 101, 100]⟩ : ByteArray) (tru (l.getD k default).need)) (⟨#[109, 97, 120]⟩ : ByteArray) (whl (l.getD k default).hi)) (⟨#[109, 105, 110]⟩ : ByteArray) (whl (l.getD k default).lo)) (⟨#[111, 110, 101, 111, 102]⟩ : ByteArray) (lst ((l.getD k default).oneOf.map txt))) := by unfold t3; rw [if_pos ho, u2]
            have e6 := small_put e5 (⟨#[111, 110, 101, 111, 102]⟩ : ByteArray) (lst ((l.getD k default).oneOf.map txt))
            have c6 := put_sp E (putK (putK (putK (putK (putK emp (⟨#[114, 111, 117, 116, 101]⟩ : ByteArray) (txt (l.getD k default).route)) (⟨#[107, 105, 110, 100]⟩ : ByteArray) (txt (kname (l.getD k default).kind))) (⟨#[110, 101, 101, 100]⟩ : ByteArray) (tru (l.getD k default).need)) (⟨#[109, 97, 120]⟩ : ByteArray) (whl (l.getD k default).hi)) (⟨#[109, 105, 110]⟩ : ByteArray) (whl (l.getD k default).lo)) (⟨#[111, 110, 101, 111, 102]⟩ : ByteArray) (lst ((l.getD k default).oneOf.map txt)) (by omega) e5.1
            have u4 : fieldV (l.getD k default) = (putK (putK (putK (putK (putK (putK emp (⟨#[114, 111, 117, 116, 101]⟩ : ByteArray) (txt (l.getD k default).route)) (⟨#[107, 105, 110, 100]⟩ : ByteArray) (txt (kname (l.getD k default).kind))) (⟨#[110, 101, 101, 100]⟩ : ByteArray) (tru (l.getD k default).need)) (⟨#[109, 97, 120]⟩ : ByteArray) (whl (l.getD k default).hi)) (⟨#[109, 105, 110]⟩ : ByteArray) (whl (l.getD k default).lo)) (⟨#[111, 110, 101, 111, 102]⟩ : ByteArray) (lst ((l.getD k default).oneOf.map txt))) := by unfold fieldV; rw [if_neg hd, u3]
            have hrow := hfv _ u4
            repeat' first
              | (refine codeW_cond rfl ?_; first | (refine condW_dec ?_ ?_ <;> intro _ <;> try (exfalso; first | omega | (rename_i h; exact absurd (hb.symm.trans h) (by decide)))) | refine condW_not ?_ | (refine condW_bool ?_ ?_ <;> intro _ <;> try (exfalso; first | omega | (rename_i h; exact absurd (hb.symm.trans h) (by decide)))))
              | (refine facW_intro ?_; intro _)
              | refine Or.inl ?_
              | ((conv => whnf); first | (refine condW_dec ?_ ?_ <;> intro _ <;> try (exfalso; first | omega | (rename_i h; exact absurd (hb.symm.trans h) (by decide)))) | refine condW_not ?_ | (refine condW_bool ?_ ?_ <;> intro _ <;> try (exfalso; first | omega | (rename_i h; exact absurd (hb.symm.trans h) (by decide)))) | (refine nbC_t (fun _ => ?_) ?_) | (refine nbC_f ?_ (fun _ => ?_)))
              | refine And.intro (by first | omega | (simp only [Int.toNat_natCast] at *; omega) | (simp only [Nat.reduceAdd, Int.cast_ofNat_Int, true_and, and_true]; omega)  | (simp only [cx, view, Nat.reduceAdd, Int.toNat_natCast]; omega) | kernel_rfl) ?_
              | refine RegW.run ?_
              | refine ⟨_, c1, ?_⟩
              | refine ⟨_, c2, ?_⟩
              | refine ⟨_, c3, ?_⟩
              | refine ⟨_, hk1, ?_⟩
              | refine ⟨_, hs1, ?_⟩
              | refine ⟨_, hs2, ?_⟩
              | refine ⟨_, hy1, ?_⟩
              | refine ⟨_, hw1, ?_⟩
              | refine ⟨_, hw2, ?_⟩
              | refine ⟨_, c4, ?_⟩
              | refine ⟨_, c5, ?_⟩
              | fail
            all_goals first
              | (exfalso; omega)
              | skip
            refine ⟨Nat, fun q => [(63, i64 q)], fun q => [(9, .cells [i64 5, dB false, i64 0, dS ⟨#[]⟩, .own 64 6 0 q, .v (.slice none 0 0)])], [1, 2, 5, 7, 8, 25], fun q => [(64, 25, q, fun i j => (((l.getD k default).oneOf.map txt).getD i .zero).cell j)], fun q => q ≤ (l.getD k default).oneOf.length, fun q => (l.getD k default).oneOf.length - q, ⟨0, Nat.zero_le _, ⟨[(64, none)], ⟨by kernel_rfl, by kernel_rfl, by kernel_rfl, by kernel_rfl, by kernel_rfl, by kernel_rfl, by kernel_rfl⟩, (by repeat' first | exact trivial | exact rfl | kernel_rfl | exact Dle.of_eq rfl | exact MLe.of_eq rfl | exact Dle.i (by omega) | exact Dle.i (by simp only [Int.toNat_natCast] at *; omega) | exact Dle.nil | exact Dle.rc Dle.nil | exact Option.some_ne_none _ | exact Or.inl rfl | exact Or.inr trivial | omega | (simp only [Int.toNat_natCast] at *; omega) | (intro _ _ _ _; exact Dle.of_eq rfl) | refine And.intro ?_ ?_)⟩⟩, fun q hq => ?_⟩
            have hq : q ≤ (l.getD k default).oneOf.length := hq
            by_cases hqlt : q < (l.getD k default).oneOf.length
            · have hsq := str_sp E ((l.getD k default).oneOf.getD q ⟨#[]⟩)
              have hrq : ∀ a c, a < q + 1 → c < 6 → Dle (cx Tryz.prog mixed tyT_ok E) (if a < q then (((l.getD k default).oneOf.map txt).getD a .zero).cell c else ([i64 (txt ((l.getD k default).oneOf.getD q ⟨#[]⟩)).kind, dB (txt ((l.getD k default).oneOf.getD q ⟨#[]⟩)).b, i64 (txt ((l.getD k default).oneOf.getD q ⟨#[]⟩)).i, dS (txt ((l.getD k default).oneOf.getD q ⟨#[]⟩)).text, .rc (.vals (txt ((l.getD k default).oneOf.getD q ⟨#[]⟩)).items), encStrs (txt ((l.getD k default).oneOf.getD q ⟨#[]⟩)).keys] : List DD).getD ((a - q) * 6 + c) .opq) ((((l.getD k default).oneOf.map txt).getD a .zero).cell c) := fun a c ha hc => Dle.of_eq (by
                by_cases h : a < q
                · rw [if_pos h]
                · obtain rfl : a = q := by omega
                  rw [if_neg h, show (a - a) * 6 + c = c by rw [Nat.sub_self]; omega, txt_at hqlt, cell_of _ c hc])
              repeat' first
                | (refine codeW_cond rfl ?_; first | (refine condW_dec ?_ ?_ <;> intro _ <;> try (exfalso; omega)) | refine condW_not ?_ | (refine condW_bool ?_ ?_ <;> intro _ <;> try (exfalso; omega)))
                | (refine facW_intro ?_; intro _)
                | refine Or.inl ?_
                | ((conv => whnf); first | (refine condW_dec ?_ ?_ <;> intro _ <;> try (exfalso; omega)) | refine condW_not ?_ | (refine condW_bool ?_ ?_ <;> intro _ <;> try (exfalso; omega)) | (refine nbC_t (fun _ => ?_) ?_) | (refine nbC_f ?_ (fun _ => ?_)))
                | refine And.intro (by first | omega | (simp only [Int.toNat_natCast] at *; omega) | (simp only [Nat.reduceAdd, Int.cast_ofNat_Int, true_and, and_true]; omega)  | (simp only [cx, view, Nat.reduceAdd, Int.toNat_natCast]; omega) | kernel_rfl) ?_
                | refine RegW.run ?_
                | refine ⟨_, hsq, ?_⟩
                | fail
              all_goals first
                | (exfalso; omega)
                | exact ⟨q + 1, by omega, ⟨[(64, some 72)], ⟨by kernel_rfl, by kernel_rfl, by kernel_rfl, by kernel_rfl, by kernel_rfl, by kernel_rfl, by kernel_rfl⟩, (by repeat' first | exact trivial | exact rfl | kernel_rfl | exact Dle.of_eq rfl | exact MLe.of_eq rfl | exact Dle.i (by omega) | exact Dle.i (by simp only [Int.toNat_natCast] at *; omega) | exact Dle.nil | exact Dle.rc Dle.nil | exact Option.some_ne_none _ | exact Or.inl rfl | exact Or.inr trivial | omega | (simp only [Int.toNat_natCast] at *; omega) | (intro _ _ _ _; exact Dle.of_eq rfl) | (intro i j hi hj; exact hrq i j hi hj) | refine And.intro ?_ ?_)⟩, by first | omega | (dsimp only; omega)⟩
                | trace_state
            · obtain rfl : q = (l.getD k default).oneOf.length := by omega
              have hom : (l.getD k default).oneOf.length = ((l.getD k default).oneOf.map txt).length := (List.length_map ..).symm
              repeat' first
                | (refine codeW_cond rfl ?_; first | (refine condW_dec ?_ ?_ <;> intro _ <;> try (exfalso; omega)) | refine condW_not ?_ | (refine condW_bool ?_ ?_ <;> intro _ <;> try (exfalso; omega)))
                | (refine facW_intro ?_; intro _)
                | refine Or.inl ?_
                | ((conv => whnf); first | (refine condW_dec ?_ ?_ <;> intro _ <;> try (exfalso; omega)) | refine condW_not ?_ | (refine condW_bool ?_ ?_ <;> intro _ <;> try (exfalso; omega)) | (refine nbC_t (fun _ => ?_) ?_) | (refine nbC_f ?_ (fun _ => ?_)))
                | refine And.intro (by first | omega | (simp only [Int.toNat_natCast] at *; omega) | (simp only [Nat.reduceAdd, Int.cast_ofNat_Int, true_and, and_true]; omega)  | (simp only [cx, view, Nat.reduceAdd, Int.toNat_natCast]; omega) | kernel_rfl) ?_
                | refine RegW.run ?_
                | refine ⟨_, c6.args ⟨Dle.refl _ _, Dle.refl _ _, hLst E ((l.getD k default).oneOf.map txt) hom (fun _ _ _ _ => rfl), trivial⟩, ?_⟩
                | fail
              all_goals first
                | (exfalso; omega)
                | exact ⟨k + 1, by omega, ⟨[(25, some 91)], ⟨by kernel_rfl, by kernel_rfl, by kernel_rfl, by kernel_rfl, by kernel_rfl, by kernel_rfl, by kernel_rfl⟩, (by repeat' first | exact trivial | exact rfl | kernel_rfl | exact Dle.of_eq rfl | exact MLe.of_eq rfl | exact Dle.i (by omega) | exact Dle.i (by simp only [Int.toNat_natCast] at *; omega) | exact Dle.nil | exact Dle.rc Dle.nil | exact Option.some_ne_none _ | exact Or.inl rfl | exact Or.inr trivial | omega | (simp only [Int.toNat_natCast] at *; omega) | (intro _ _ _ _; exact Dle.of_eq rfl) | (intro i j hi hj; exact hrow i j hi hj) | refine And.intro ?_ ?_)⟩, by first | omega | (dsimp only; omega)⟩
                | trace_state
        · by_cases hd : (l.getD k default).dflt.kind ≠ 0
          · have u2 : t2 (l.getD k default) = (putK (putK (putK (putK (putK emp (⟨#[114, 111, 117, 116, 101]⟩ : ByteArray) (txt (l.getD k default).route)) (⟨#[107, 105, 110, 100]⟩ : ByteArray) (txt (kname (l.getD k default).kind))) (⟨#[110, 101, 101, 100]⟩ : ByteArray) (tru (l.getD k default).need)) (⟨#[109, 97, 120]⟩ : ByteArray) (whl (l.getD k default).hi)) (⟨#[109, 105, 110]⟩ : ByteArray) (whl (l.getD k default).lo)) := if_pos hb
            have u3 : t3 (l.getD k default) = (putK (putK (putK (putK (putK emp (⟨#[114, 111, 117, 116, 101]⟩ : ByteArray) (txt (l.getD k default).route)) (⟨#[107, 105, 110, 100]⟩ : ByteArray) (txt (kname (l.getD k default).kind))) (⟨#[110, 101, 101, 100]⟩ : ByteArray) (tru (l.getD k default).need)) (⟨#[109, 97, 120]⟩ : ByteArray) (whl (l.getD k default).hi)) (⟨#[109, 105, 110]⟩ : ByteArray) (whl (l.getD k default).lo)) := by unfold t3; rw [if_neg ho, u2]
            have u4 : fieldV (l.getD k default) = (putK (putK (putK (putK (putK (putK emp (⟨#[114, 111, 117, 116, 101]⟩ : ByteArray) (txt (l.getD k default).route)) (⟨#[107, 105, 110, 100]⟩ : ByteArray) (txt (kname (l.getD k default).kind))) (⟨#[110, 101, 101, 100]⟩ : ByteArray) (tru (l.getD k default).need)) (⟨#[109, 97, 120]⟩ : ByteArray) (whl (l.getD k default).hi)) (⟨#[109, 105, 110]⟩ : ByteArray) (whl (l.getD k default).lo)) (⟨#[100, 101, 102, 97, 117, 108, 116]⟩ : ByteArray) (l.getD k default).dflt) := by unfold fieldV; rw [if_pos hd, u3]
            have c7 := put_sp E (putK (putK (putK (putK (putK emp (⟨#[114, 111, 117, 116, 101]⟩ : ByteArray) (txt (l.getD k default).route)) (⟨#[107, 105, 110, 100]⟩ : ByteArray) (txt (kname (l.getD k default).kind))) (⟨#[110, 101, 101, 100]⟩ : ByteArray) (tru (l.getD k default).need)) (⟨#[109, 97, 120]⟩ : ByteArray) (whl (l.getD k default).hi)) (⟨#[109, 105, 110]⟩ : ByteArray) (whl (l.getD k default).lo)) (⟨#[100, 101, 102, 97, 117, 108, 116]⟩ : ByteArray) (l.getD k default).dflt (by omega) e5.1
            have hrow := hfv _ u4
            repeat' first
              | (refine codeW_cond rfl ?_; first | (refine condW_dec ?_ ?_ <;> intro _ <;> try (exfalso; first | omega | (rename_i h; exact absurd (hb.symm.trans h) (by decide)))) | refine condW_not ?_ | (refine condW_bool ?_ ?_ <;> intro _ <;> try (exfalso; first | omega | (rename_i h; exact absurd (hb.symm.trans h) (by decide)))))
              | (refine facW_intro ?_; intro _)
              | refine Or.inl ?_
              | ((conv => whnf); first | (refine condW_dec ?_ ?_ <;> intro _ <;> try (exfalso; first | omega | (rename_i h; exact absurd (hb.symm.trans h) (by decide)))) | refine condW_not ?_ | (refine condW_bool ?_ ?_ <;> intro _ <;> try (exfalso; first | omega | (rename_i h; exact absurd (hb.symm.trans h) (by decide)))) | (refine nbC_t (fun _ => ?_) ?_) | (refine nbC_f ?_ (fun _ => ?_)))
              | refine And.intro (by first | omega | (simp only [Int.toNat_natCast] at *; omega) | (simp only [Nat.reduceAdd, Int.cast_ofNat_Int, true_and, and_true]; omega)  | (simp only [cx, view, Nat.reduceAdd, Int.toNat_natCast]; omega) | kernel_rfl) ?_
              | refine RegW.run ?_
              | refine ⟨_, c1, ?_⟩
              | refine ⟨_, c2, ?_⟩
              | refine ⟨_, c3, ?_⟩
              | refine ⟨_, hk1, ?_⟩
              | refine ⟨_, hs1, ?_⟩
              | refine ⟨_, hs2, ?_⟩
              | refine ⟨_, hy1, ?_⟩
              | refine ⟨_, hw1, ?_⟩
              | refine ⟨_, hw2, ?_⟩
              | refine ⟨_, c4, ?_⟩
              | refine ⟨_, c5, ?_⟩
              | refine ⟨_, c7, ?_⟩
              | refine ⟨_, hcl, ?_⟩
              | fail
            all_goals first
              | (exfalso; omega)
              | exact ⟨k + 1, by omega, ⟨[(25, some 91)], ⟨by kernel_rfl, by kernel_rfl, by kernel_rfl, by kernel_rfl, by kernel_rfl, by kernel_rfl, by kernel_rfl⟩, (by repeat' first | exact trivial | exact rfl | kernel_rfl | exact Dle.of_eq rfl | exact MLe.of_eq rfl | exact Dle.i (by omega) | exact Dle.i (by simp only [Int.toNat_natCast] at *; omega) | exact Dle.nil | exact Dle.rc Dle.nil | exact Option.some_ne_none _ | exact Or.inl rfl | exact Or.inr trivial | omega | (simp only [Int.toNat_natCast] at *; omega) | (intro _ _ _ _; exact Dle.of_eq rfl) | (intro i j hi hj; exact hrow i j hi hj) | refine And.intro ?_ ?_)⟩, by first | omega | (dsimp only; omega)⟩
              | trace_state
          · have u2 : t2 (l.getD k default) = (putK (putK (putK (putK (putK emp (⟨#[114, 111, 117, 116, 101]⟩ : ByteArray) (txt (l.getD k default).route)) (⟨#[107, 105, 110, 100]⟩ : ByteArray) (txt (kname (l.getD k default).kind))) (⟨#[110, 101, 101, 100]⟩ : ByteArray) (tru (l.getD k default).need)) (⟨#[109, 97, 120]⟩ : ByteArray) (whl (l.getD k default).hi)) (⟨#[109, 105, 110]⟩ : ByteArray) (whl (l.getD k default).lo)) := if_pos hb
            have u3 : t3 (l.getD k default) = (putK (putK (putK (putK (putK emp (⟨#[114, 111, 117, 116, 101]⟩ : ByteArray) (txt (l.getD k default).route)) (⟨#[107, 105, 110, 100]⟩ : ByteArray) (txt (kname (l.getD k default).kind))) (⟨#[110, 101, 101, 100]⟩ : ByteArray) (tru (l.getD k default).need)) (⟨#[109, 97, 120]⟩ : ByteArray) (whl (l.getD k default).hi)) (⟨#[109, 105, 110]⟩ : ByteArray) (whl (l.getD k default).lo)) := by unfold t3; rw [if_neg ho, u2]
            have u4 : fieldV (l.getD k default) = (putK (putK (putK (putK (putK emp (⟨#[114, 111, 117, 116, 101]⟩ : ByteArray) (txt (l.getD k default).route)) (⟨#[107, 105, 110, 100]⟩ : ByteArray) (txt (kname (l.getD k default).kind))) (⟨#[110, 101, 101, 100]⟩ : ByteArray) (tru (l.getD k default).need)) (⟨#[109, 97, 120]⟩ : ByteArray) (whl (l.getD k default).hi)) (⟨#[109, 105, 110]⟩ : ByteArray) (whl (l.getD k default).lo)) := by unfold fieldV; rw [if_neg hd, u3]
            have hrow := hfv _ u4
            repeat' first
              | (refine codeW_cond rfl ?_; first | (refine condW_dec ?_ ?_ <;> intro _ <;> try (exfalso; first | omega | (rename_i h; exact absurd (hb.symm.trans h) (by decide)))) | refine condW_not ?_ | (refine condW_bool ?_ ?_ <;> intro _ <;> try (exfalso; first | omega | (rename_i h; exact absurd (hb.symm.trans h) (by decide)))))
              | (refine facW_intro ?_; intro _)
              | refine Or.inl ?_
              | ((conv => whnf); first | (refine condW_dec ?_ ?_ <;> intro _ <;> try (exfalso; first | omega | (rename_i h; exact absurd (hb.symm.trans h) (by decide)))) | refine condW_not ?_ | (refine condW_bool ?_ ?_ <;> intro _ <;> try (exfalso; first | omega | (rename_i h; exact absurd (hb.symm.trans h) (by decide)))) | (refine nbC_t (fun _ => ?_) ?_) | (refine nbC_f ?_ (fun _ => ?_)))
              | refine And.intro (by first | omega | (simp only [Int.toNat_natCast] at *; omega) | (simp only [Nat.reduceAdd, Int.cast_ofNat_Int, true_and, and_true]; omega)  | (simp only [cx, view, Nat.reduceAdd, Int.toNat_natCast]; omega) | kernel_rfl) ?_
              | refine RegW.run ?_
              | refine ⟨_, c1, ?_⟩
              | refine ⟨_, c2, ?_⟩
              | refine ⟨_, c3, ?_⟩
              | refine ⟨_, hk1, ?_⟩
              | refine ⟨_, hs1, ?_⟩
              | refine ⟨_, hs2, ?_⟩
              | refine ⟨_, hy1, ?_⟩
              | refine ⟨_, hw1, ?_⟩
              | refine ⟨_, hw2, ?_⟩
              | refine ⟨_, c4, ?_⟩
              | refine ⟨_, c5, ?_⟩
              | fail
            all_goals first
              | (exfalso; omega)
              | exact ⟨k + 1, by omega, ⟨[(25, some 91)], ⟨by kernel_rfl, by kernel_rfl, by kernel_rfl, by kernel_rfl, by kernel_rfl, by kernel_rfl, by kernel_rfl⟩, (by repeat' first | exact trivial | exact rfl | kernel_rfl | exact Dle.of_eq rfl | exact MLe.of_eq rfl | exact Dle.i (by omega) | exact Dle.i (by simp only [Int.toNat_natCast] at *; omega) | exact Dle.nil | exact Dle.rc Dle.nil | exact Option.some_ne_none _ | exact Or.inl rfl | exact Or.inr trivial | omega | (simp only [Int.toNat_natCast] at *; omega) | (intro _ _ _ _; exact Dle.of_eq rfl) | (intro i j hi hj; exact hrow i j hi hj) | refine And.intro ?_ ?_)⟩, by first | omega | (dsimp only; omega)⟩
              | trace_state
      | false =>
        by_cases ho : 0 < (l.getD k default).oneOf.length
        · by_cases hd : (l.getD k default).dflt.kind ≠ 0
          · have u2 : t2 (l.getD k default) = (putK (putK (putK emp (⟨#[114, 111, 117, 116, 101]⟩ : ByteArray) (txt (l.getD k default).route)) (⟨#[107, 105, 110, 100]⟩ : ByteArray) (txt (kname (l.getD k default).kind))) (⟨#[110, 101, 101, 100]⟩ : ByteArray) (tru (l.getD k default).need)) := if_neg (by rw [hb]; decide)
            have u3 : t3 (l.getD k default) = (putK (putK (putK (putK emp (⟨#[114, 111, 117, 116, 101]⟩ : ByteArray) (txt (l.getD k default).route)) (⟨#[107, 105, 110, 100]⟩ : ByteArray) (txt (kname (l.getD k default).kind))) (⟨#[110, 101, 101, 100]⟩ : ByteArray) (tru (l.getD k default).need)) (⟨#[111, 110, 101, 111, 102]⟩ : ByteArray) (lst ((l.getD k default).oneOf.map txt))) := by unfold t3; rw [if_pos ho, u2]
            have e6 := small_put e3 (⟨#[111, 110, 101, 111, 102]⟩ : ByteArray) (lst ((l.getD k default).oneOf.map txt))
            have c6 := put_sp E (putK (putK (putK emp (⟨#[114, 111, 117, 116, 101]⟩ : ByteArray) (txt (l.getD k default).route)) (⟨#[107, 105, 110, 100]⟩ : ByteArray) (txt (kname (l.getD k default).kind))) (⟨#[110, 101, 101, 100]⟩ : ByteArray) (tru (l.getD k default).need)) (⟨#[111, 110, 101, 111, 102]⟩ : ByteArray) (lst ((l.getD k default).oneOf.map txt)) (by omega) e3.1
            have u4 : fieldV (l.getD k default) = (putK (putK (putK (putK (putK emp (⟨#[114, 111, 117, 116, 101]⟩ : ByteArray) (txt (l.getD k default).route)) (⟨#[107, 105, 110, 100]⟩ : ByteArray) (txt (kname (l.getD k default).kind))) (⟨#[110, 101, 101, 100]⟩ : ByteArray) (tru (l.getD k default).need)) (⟨#[111, 110, 101, 111, 102]⟩ : ByteArray) (lst ((l.getD k default).oneOf.map txt))) (⟨#[100, 101, 102, 97, 117, 108, 116]⟩ : ByteArray) (l.getD k default).dflt) := by unfold fieldV; rw [if_pos hd, u3]
            have c7 := put_sp E (putK (putK (putK (putK emp (⟨#[114, 111, 117, 116, 101]⟩ : ByteArray) (txt (l.getD k default).route)) (⟨#[107, 105, 110, 100]⟩ : ByteArray) (txt (kname (l.getD k default).kind))) (⟨#[110, 101, 101, 100]⟩ : ByteArray) (tru (l.getD k default).need)) (⟨#[111, 110, 101, 111, 102]⟩ : ByteArray) (lst ((l.getD k default).oneOf.map txt))) (⟨#[100, 101, 102, 97, 117, 108, 116]⟩ : ByteArray) (l.getD k default).dflt (by omega) e6.1
            have hrow := hfv _ u4
            repeat' first
              | (refine codeW_cond rfl ?_; first | (refine condW_dec ?_ ?_ <;> intro _ <;> try (exfalso; first | omega | (rename_i h; exact absurd (hb.symm.trans h) (by decide)))) | refine condW_not ?_ | (refine condW_bool ?_ ?_ <;> intro _ <;> try (exfalso; first | omega | (rename_i h; exact absurd (hb.symm.trans h) (by decide)))))
              | (refine facW_intro ?_; intro _)
              | refine Or.inl ?_
              | ((conv => whnf); first | (refine condW_dec ?_ ?_ <;> intro _ <;> try (exfalso; first | omega | (rename_i h; exact absurd (hb.symm.trans h) (by decide)))) | refine condW_not ?_ | (refine condW_bool ?_ ?_ <;> intro _ <;> try (exfalso; first | omega | (rename_i h; exact absurd (hb.symm.trans h) (by decide)))) | (refine nbC_t (fun _ => ?_) ?_) | (refine nbC_f ?_ (fun _ => ?_)))
              | refine And.intro (by first | omega | (simp only [Int.toNat_natCast] at *; omega) | (simp only [Nat.reduceAdd, Int.cast_ofNat_Int, true_and, and_true]; omega)  | (simp only [cx, view, Nat.reduceAdd, Int.toNat_natCast]; omega) | kernel_rfl) ?_
              | refine RegW.run ?_
              | refine ⟨_, c1, ?_⟩
              | refine ⟨_, c2, ?_⟩
              | refine ⟨_, c3, ?_⟩
              | refine ⟨_, hk1, ?_⟩
              | refine ⟨_, hs1, ?_⟩
              | refine ⟨_, hs2, ?_⟩
              | refine ⟨_, hy1, ?_⟩
              | refine ⟨_, hw1, ?_⟩
              | refine ⟨_, hw2, ?_⟩
              | fail
            all_goals first
              | (exfalso; omega)
              | skip
            refine ⟨Nat, fun q => [(63, i64 q)], fun q => [(9, .cells [i64 5, dB false, i64 0, dS ⟨#[]⟩, .own 64 6 0 q, .v (.slice none 0 0)])], [1, 2, 5, 7, 8, 25], fun q => [(64, 25, q, fun i j => (((l.getD k default).oneOf.map txt).getD i .zero).cell j)], fun q => q ≤ (l.getD k default).oneOf.length, fun q => (l.getD k default).oneOf.length - q, ⟨0, Nat.zero_le _, ⟨[(64, none)], ⟨by kernel_rfl, by kernel_rfl, by kernel_rfl, by kernel_rfl, by kernel_rfl, by kernel_rfl, by kernel_rfl⟩, (by repeat' first | exact trivial | exact rfl | kernel_rfl | exact Dle.of_eq rfl | exact MLe.of_eq rfl | exact Dle.i (by omega) | exact Dle.i (by simp only [Int.toNat_natCast] at *; omega) | exact Dle.nil | exact Dle.rc Dle.nil | exact Option.some_ne_none _ | exact Or.inl rfl | exact Or.inr trivial | omega | (simp only [Int.toNat_natCast] at *; omega) | (intro _ _ _ _; exact Dle.of_eq rfl) | refine And.intro ?_ ?_)⟩⟩, fun q hq => ?_⟩
            have hq : q ≤ (l.getD k default).oneOf.length := hq
            by_cases hqlt : q < (l.getD k default).oneOf.length
            · have hsq := str_sp E ((l.getD k default).oneOf.getD q ⟨#[]⟩)
              have hrq : ∀ a c, a < q + 1 → c < 6 → Dle (cx Tryz.prog mixed tyT_ok E) (if a < q then (((l.getD k default).oneOf.map txt).getD a .zero).cell c else ([i64 (txt ((l.getD k default).oneOf.getD q ⟨#[]⟩)).kind, dB (txt ((l.getD k default).oneOf.getD q ⟨#[]⟩)).b, i64 (txt ((l.getD k default).oneOf.getD q ⟨#[]⟩)).i, dS (txt ((l.getD k default).oneOf.getD q ⟨#[]⟩)).text, .rc (.vals (txt ((l.getD k default).oneOf.getD q ⟨#[]⟩)).items), encStrs (txt ((l.getD k default).oneOf.getD q ⟨#[]⟩)).keys] : List DD).getD ((a - q) * 6 + c) .opq) ((((l.getD k default).oneOf.map txt).getD a .zero).cell c) := fun a c ha hc => Dle.of_eq (by
                by_cases h : a < q
                · rw [if_pos h]
                · obtain rfl : a = q := by omega
                  rw [if_neg h, show (a - a) * 6 + c = c by rw [Nat.sub_self]; omega, txt_at hqlt, cell_of _ c hc])
              repeat' first
                | (refine codeW_cond rfl ?_; first | (refine condW_dec ?_ ?_ <;> intro _ <;> try (exfalso; omega)) | refine condW_not ?_ | (refine condW_bool ?_ ?_ <;> intro _ <;> try (exfalso; omega)))
                | (refine facW_intro ?_; intro _)
                | refine Or.inl ?_
                | ((conv => whnf); first | (refine condW_dec ?_ ?_ <;> intro _ <;> try (exfalso; omega)) | refine condW_not ?_ | (refine condW_bool ?_ ?_ <;> intro _ <;> try (exfalso; omega)) | (refine nbC_t (fun _ => ?_) ?_) | (refine nbC_f ?_ (fun _ => ?_)))
                | refine And.intro (by first | omega | (simp only [Int.toNat_natCast] at *; omega) | (simp only [Nat.reduceAdd, Int.cast_ofNat_Int, true_and, and_true]; omega)  | (simp only [cx, view, Nat.reduceAdd, Int.toNat_natCast]; omega) | kernel_rfl) ?_
                | refine RegW.run ?_
                | refine ⟨_, hsq, ?_⟩
                | fail
              all_goals first
                | (exfalso; omega)
                | exact ⟨q + 1, by omega, ⟨[(64, some 72)], ⟨by kernel_rfl, by kernel_rfl, by kernel_rfl, by kernel_rfl, by kernel_rfl, by kernel_rfl, by kernel_rfl⟩, (by repeat' first | exact trivial | exact rfl | kernel_rfl | exact Dle.of_eq rfl | exact MLe.of_eq rfl | exact Dle.i (by omega) | exact Dle.i (by simp only [Int.toNat_natCast] at *; omega) | exact Dle.nil | exact Dle.rc Dle.nil | exact Option.some_ne_none _ | exact Or.inl rfl | exact Or.inr trivial | omega | (simp only [Int.toNat_natCast] at *; omega) | (intro _ _ _ _; exact Dle.of_eq rfl) | (intro i j hi hj; exact hrq i j hi hj) | refine And.intro ?_ ?_)⟩, by first | omega | (dsimp only; omega)⟩
                | trace_state
            · obtain rfl : q = (l.getD k default).oneOf.length := by omega
              have hom : (l.getD k default).oneOf.length = ((l.getD k default).oneOf.map txt).length := (List.length_map ..).symm
              repeat' first
                | (refine codeW_cond rfl ?_; first | (refine condW_dec ?_ ?_ <;> intro _ <;> try (exfalso; omega)) | refine condW_not ?_ | (refine condW_bool ?_ ?_ <;> intro _ <;> try (exfalso; omega)))
                | (refine facW_intro ?_; intro _)
                | refine Or.inl ?_
                | ((conv => whnf); first | (refine condW_dec ?_ ?_ <;> intro _ <;> try (exfalso; omega)) | refine condW_not ?_ | (refine condW_bool ?_ ?_ <;> intro _ <;> try (exfalso; omega)) | (refine nbC_t (fun _ => ?_) ?_) | (refine nbC_f ?_ (fun _ => ?_)))
                | refine And.intro (by first | omega | (simp only [Int.toNat_natCast] at *; omega) | (simp only [Nat.reduceAdd, Int.cast_ofNat_Int, true_and, and_true]; omega)  | (simp only [cx, view, Nat.reduceAdd, Int.toNat_natCast]; omega) | kernel_rfl) ?_
                | refine RegW.run ?_
                | refine ⟨_, c6.args ⟨Dle.refl _ _, Dle.refl _ _, hLst E ((l.getD k default).oneOf.map txt) hom (fun _ _ _ _ => rfl), trivial⟩, ?_⟩
                | refine ⟨_, c7, ?_⟩
                | refine ⟨_, hcl, ?_⟩
                | fail
              all_goals first
                | (exfalso; omega)
                | exact ⟨k + 1, by omega, ⟨[(25, some 91)], ⟨by kernel_rfl, by kernel_rfl, by kernel_rfl, by kernel_rfl, by kernel_rfl, by kernel_rfl, by kernel_rfl⟩, (by repeat' first | exact trivial | exact rfl | kernel_rfl | exact Dle.of_eq rfl | exact MLe.of_eq rfl | exact Dle.i (by omega) | exact Dle.i (by simp only [Int.toNat_natCast] at *; omega) | exact Dle.nil | exact Dle.rc Dle.nil | exact Option.some_ne_none _ | exact Or.inl rfl | exact Or.inr trivial | omega | (simp only [Int.toNat_natCast] at *; omega) | (intro _ _ _ _; exact Dle.of_eq rfl) | (intro i j hi hj; exact hrow i j hi hj) | refine And.intro ?_ ?_)⟩, by first | omega | (dsimp only; omega)⟩
                | trace_state
          · have u2 : t2 (l.getD k default) = (putK (putK (putK emp (⟨#[114, 111, 117, 116, 101]⟩ : ByteArray) (txt (l.getD k default).route)) (⟨#[107, 105, 110, 100]⟩ : ByteArray) (txt (kname (l.getD k default).kind))) (⟨#[110, 101, 101, 100]⟩ : ByteArray) (tru (l.getD k default).need)) := if_neg (by rw [hb]; decide)
            have u3 : t3 (l.getD k default) = (putK (putK (putK (putK emp (⟨#[114, 111, 117, 116, 101]⟩ : ByteArray) (txt (l.getD k default).route)) (⟨#[107, 105, 110, 100]⟩ : ByteArray) (txt (kname (l.getD k default).kind))) (⟨#[110, 101, 101, 100]⟩ : ByteArray) (tru (l.getD k default).need)) (⟨#[111, 110, 101, 111, 102]⟩ : ByteArray) (lst ((l.getD k default).oneOf.map txt))) := by unfold t3; rw [if_pos ho, u2]
            have e6 := small_put e3 (⟨#[111, 110, 101, 111, 102]⟩ : ByteArray) (lst ((l.getD k default).oneOf.map txt))
            have c6 := put_sp E (putK (putK (putK emp (⟨#[114, 111, 117, 116, 101]⟩ : ByteArray) (txt (l.getD k default).route)) (⟨#[107, 105, 110, 100]⟩ : ByteArray) (txt (kname (l.getD k default).kind))) (⟨#[110, 101, 101, 100]⟩ : ByteArray) (tru (l.getD k default).need)) (⟨#[111, 110, 101, 111, 102]⟩ : ByteArray) (lst ((l.getD k default).oneOf.map txt)) (by omega) e3.1
            have u4 : fieldV (l.getD k default) = (putK (putK (putK (putK emp (⟨#[114, 111, 117, 116, 101]⟩ : ByteArray) (txt (l.getD k default).route)) (⟨#[107, 105, 110, 100]⟩ : ByteArray) (txt (kname (l.getD k default).kind))) (⟨#[110, 101, 101, 100]⟩ : ByteArray) (tru (l.getD k default).need)) (⟨#[111, 110, 101, 111, 102]⟩ : ByteArray) (lst ((l.getD k default).oneOf.map txt))) := by unfold fieldV; rw [if_neg hd, u3]
            have hrow := hfv _ u4
            repeat' first
              | (refine codeW_cond rfl ?_; first | (refine condW_dec ?_ ?_ <;> intro _ <;> try (exfalso; first | omega | (rename_i h; exact absurd (hb.symm.trans h) (by decide)))) | refine condW_not ?_ | (refine condW_bool ?_ ?_ <;> intro _ <;> try (exfalso; first | omega | (rename_i h; exact absurd (hb.symm.trans h) (by decide)))))
              | (refine facW_intro ?_; intro _)
              | refine Or.inl ?_
              | ((conv => whnf); first | (refine condW_dec ?_ ?_ <;> intro _ <;> try (exfalso; first | omega | (rename_i h; exact absurd (hb.symm.trans h) (by decide)))) | refine condW_not ?_ | (refine condW_bool ?_ ?_ <;> intro _ <;> try (exfalso; first | omega | (rename_i h; exact absurd (hb.symm.trans h) (by decide)))) | (refine nbC_t (fun _ => ?_) ?_) | (refine nbC_f ?_ (fun _ => ?_)))
              | refine And.intro (by first | omega | (simp only [Int.toNat_natCast] at *; omega) | (simp only [Nat.reduceAdd, Int.cast_ofNat_Int, true_and, and_true]; omega)  | (simp only [cx, view, Nat.reduceAdd, Int.toNat_natCast]; omega) | kernel_rfl) ?_
              | refine RegW.run ?_
              | refine ⟨_, c1, ?_⟩
              | refine ⟨_, c2, ?_⟩
              | refine ⟨_, c3, ?_⟩
              | refine ⟨_, hk1, ?_⟩
              | refine ⟨_, hs1, ?_⟩
              | refine ⟨_, hs2, ?_⟩
              | refine ⟨_, hy1, ?_⟩
              | refine ⟨_, hw1, ?_⟩
              | refine ⟨_, hw2, ?_⟩
              | fail
            all_goals first
              | (exfalso; omega)
              | skip
            refine ⟨Nat, fun q => [(63, i64 q)], fun q => [(9, .cells [i64 5, dB false, i64 0, dS ⟨#[]⟩, .own 64 6 0 q, .v (.slice none 0 0)])], [1, 2, 5, 7, 8, 25], fun q => [(64, 25, q, fun i j => (((l.getD k default).oneOf.map txt).getD i .zero).cell j)], fun q => q ≤ (l.getD k default).oneOf.length, fun q => (l.getD k default).oneOf.length - q, ⟨0, Nat.zero_le _, ⟨[(64, none)], ⟨by kernel_rfl, by kernel_rfl, by kernel_rfl, by kernel_rfl, by kernel_rfl, by kernel_rfl, by kernel_rfl⟩, (by repeat' first | exact trivial | exact rfl | kernel_rfl | exact Dle.of_eq rfl | exact MLe.of_eq rfl | exact Dle.i (by omega) | exact Dle.i (by simp only [Int.toNat_natCast] at *; omega) | exact Dle.nil | exact Dle.rc Dle.nil | exact Option.some_ne_none _ | exact Or.inl rfl | exact Or.inr trivial | omega | (simp only [Int.toNat_natCast] at *; omega) | (intro _ _ _ _; exact Dle.of_eq rfl) | refine And.intro ?_ ?_)⟩⟩, fun q hq => ?_⟩
            have hq : q ≤ (l.getD k default).oneOf.length := hq
            by_cases hqlt : q < (l.getD k default).oneOf.length
            · have hsq := str_sp E ((l.getD k default).oneOf.getD q ⟨#[]⟩)
              have hrq : ∀ a c, a < q + 1 → c < 6 → Dle (cx Tryz.prog mixed tyT_ok E) (if a < q then (((l.getD k default).oneOf.map txt).getD a .zero).cell c else ([i64 (txt ((l.getD k default).oneOf.getD q ⟨#[]⟩)).kind, dB (txt ((l.getD k default).oneOf.getD q ⟨#[]⟩)).b, i64 (txt ((l.getD k default).oneOf.getD q ⟨#[]⟩)).i, dS (txt ((l.getD k default).oneOf.getD q ⟨#[]⟩)).text, .rc (.vals (txt ((l.getD k default).oneOf.getD q ⟨#[]⟩)).items), encStrs (txt ((l.getD k default).oneOf.getD q ⟨#[]⟩)).keys] : List DD).getD ((a - q) * 6 + c) .opq) ((((l.getD k default).oneOf.map txt).getD a .zero).cell c) := fun a c ha hc => Dle.of_eq (by
                by_cases h : a < q
                · rw [if_pos h]
                · obtain rfl : a = q := by omega
                  rw [if_neg h, show (a - a) * 6 + c = c by rw [Nat.sub_self]; omega, txt_at hqlt, cell_of _ c hc])
              repeat' first
                | (refine codeW_cond rfl ?_; first | (refine condW_dec ?_ ?_ <;> intro _ <;> try (exfalso; omega)) | refine condW_not ?_ | (refine condW_bool ?_ ?_ <;> intro _ <;> try (exfalso; omega)))
                | (refine facW_intro ?_; intro _)
                | refine Or.inl ?_
                | ((conv => whnf); first | (refine condW_dec ?_ ?_ <;> intro _ <;> try (exfalso; omega)) | refine condW_not ?_ | (refine condW_bool ?_ ?_ <;> intro _ <;> try (exfalso; omega)) | (refine nbC_t (fun _ => ?_) ?_) | (refine nbC_f ?_ (fun _ => ?_)))
                | refine And.intro (by first | omega | (simp only [Int.toNat_natCast] at *; omega) | (simp only [Nat.reduceAdd, Int.cast_ofNat_Int, true_and, and_true]; omega)  | (simp only [cx, view, Nat.reduceAdd, Int.toNat_natCast]; omega) | kernel_rfl) ?_
                | refine RegW.run ?_
                | refine ⟨_, hsq, ?_⟩
                | fail
              all_goals first
                | (exfalso; omega)
                | exact ⟨q + 1, by omega, ⟨[(64, some 72)], ⟨by kernel_rfl, by kernel_rfl, by kernel_rfl, by kernel_rfl, by kernel_rfl, by kernel_rfl, by kernel_rfl⟩, (by repeat' first | exact trivial | exact rfl | kernel_rfl | exact Dle.of_eq rfl | exact MLe.of_eq rfl | exact Dle.i (by omega) | exact Dle.i (by simp only [Int.toNat_natCast] at *; omega) | exact Dle.nil | exact Dle.rc Dle.nil | exact Option.some_ne_none _ | exact Or.inl rfl | exact Or.inr trivial | omega | (simp only [Int.toNat_natCast] at *; omega) | (intro _ _ _ _; exact Dle.of_eq rfl) | (intro i j hi hj; exact hrq i j hi hj) | refine And.intro ?_ ?_)⟩, by first | omega | (dsimp only; omega)⟩
                | trace_state
            · obtain rfl : q = (l.getD k default).oneOf.length := by omega
              have hom : (l.getD k default).oneOf.length = ((l.getD k default).oneOf.map txt).length := (List.length_map ..).symm
              repeat' first
                | (refine codeW_cond rfl ?_; first | (refine condW_dec ?_ ?_ <;> intro _ <;> try (exfalso; omega)) | refine condW_not ?_ | (refine condW_bool ?_ ?_ <;> intro _ <;> try (exfalso; omega)))
                | (refine facW_intro ?_; intro _)
                | refine Or.inl ?_
                | ((conv => whnf); first | (refine condW_dec ?_ ?_ <;> intro _ <;> try (exfalso; omega)) | refine condW_not ?_ | (refine condW_bool ?_ ?_ <;> intro _ <;> try (exfalso; omega)) | (refine nbC_t (fun _ => ?_) ?_) | (refine nbC_f ?_ (fun _ => ?_)))
                | refine And.intro (by first | omega | (simp only [Int.toNat_natCast] at *; omega) | (simp only [Nat.reduceAdd, Int.cast_ofNat_Int, true_and, and_true]; omega)  | (simp only [cx, view, Nat.reduceAdd, Int.toNat_natCast]; omega) | kernel_rfl) ?_
                | refine RegW.run ?_
                | refine ⟨_, c6.args ⟨Dle.refl _ _, Dle.refl _ _, hLst E ((l.getD k default).oneOf.map txt) hom (fun _ _ _ _ => rfl), trivial⟩, ?_⟩
                | fail
              all_goals first
                | (exfalso; omega)
                | exact ⟨k + 1, by omega, ⟨[(25, some 91)], ⟨by kernel_rfl, by kernel_rfl, by kernel_rfl, by kernel_rfl, by kernel_rfl, by kernel_rfl, by kernel_rfl⟩, (by repeat' first | exact trivial | exact rfl | kernel_rfl | exact Dle.of_eq rfl | exact MLe.of_eq rfl | exact Dle.i (by omega) | exact Dle.i (by simp only [Int.toNat_natCast] at *; omega) | exact Dle.nil | exact Dle.rc Dle.nil | exact Option.some_ne_none _ | exact Or.inl rfl | exact Or.inr trivial | omega | (simp only [Int.toNat_natCast] at *; omega) | (intro _ _ _ _; exact Dle.of_eq rfl) | (intro i j hi hj; exact hrow i j hi hj) | refine And.intro ?_ ?_)⟩, by first | omega | (dsimp only; omega)⟩
                | trace_state
        · by_cases hd : (l.getD k default).dflt.kind ≠ 0
          · have u2 : t2 (l.getD k default) = (putK (putK (putK emp (⟨#[114, 111, 117, 116, 101]⟩ : ByteArray) (txt (l.getD k default).route)) (⟨#[107, 105, 110, 100]⟩ : ByteArray) (txt (kname (l.getD k default).kind))) (⟨#[110, 101, 101, 100]⟩ : ByteArray) (tru (l.getD k default).need)) := if_neg (by rw [hb]; decide)
            have u3 : t3 (l.getD k default) = (putK (putK (putK emp (⟨#[114, 111, 117, 116, 101]⟩ : ByteArray) (txt (l.getD k default).route)) (⟨#[107, 105, 110, 100]⟩ : ByteArray) (txt (kname (l.getD k default).kind))) (⟨#[110, 101, 101, 100]⟩ : ByteArray) (tru (l.getD k default).need)) := by unfold t3; rw [if_neg ho, u2]
            have u4 : fieldV (l.getD k default) = (putK (putK (putK (putK emp (⟨#[114, 111, 117, 116, 101]⟩ : ByteArray) (txt (l.getD k default).route)) (⟨#[107, 105, 110, 100]⟩ : ByteArray) (txt (kname (l.getD k default).kind))) (⟨#[110, 101, 101, 100]⟩ : ByteArray) (tru (l.getD k default).need)) (⟨#[100, 101, 102, 97, 117, 108, 116]⟩ : ByteArray) (l.getD k default).dflt) := by unfold fieldV; rw [if_pos hd, u3]
            have c7 := put_sp E (putK (putK (putK emp (⟨#[114, 111, 117, 116, 101]⟩ : ByteArray) (txt (l.getD k default).route)) (⟨#[107, 105, 110, 100]⟩ : ByteArray) (txt (kname (l.getD k default).kind))) (⟨#[110, 101, 101, 100]⟩ : ByteArray) (tru (l.getD k default).need)) (⟨#[100, 101, 102, 97, 117, 108, 116]⟩ : ByteArray) (l.getD k default).dflt (by omega) e3.1
            have hrow := hfv _ u4
            repeat' first
              | (refine codeW_cond rfl ?_; first | (refine condW_dec ?_ ?_ <;> intro _ <;> try (exfalso; first | omega | (rename_i h; exact absurd (hb.symm.trans h) (by decide)))) | refine condW_not ?_ | (refine condW_bool ?_ ?_ <;> intro _ <;> try (exfalso; first | omega | (rename_i h; exact absurd (hb.symm.trans h) (by decide)))))
              | (refine facW_intro ?_; intro _)
              | refine Or.inl ?_
              | ((conv => whnf); first | (refine condW_dec ?_ ?_ <;> intro _ <;> try (exfalso; first | omega | (rename_i h; exact absurd (hb.symm.trans h) (by decide)))) | refine condW_not ?_ | (refine condW_bool ?_ ?_ <;> intro _ <;> try (exfalso; first | omega | (rename_i h; exact absurd (hb.symm.trans h) (by decide)))) | (refine nbC_t (fun _ => ?_) ?_) | (refine nbC_f ?_ (fun _ => ?_)))
              | refine And.intro (by first | omega | (simp only [Int.toNat_natCast] at *; omega) | (simp only [Nat.reduceAdd, Int.cast_ofNat_Int, true_and, and_true]; omega)  | (simp only [cx, view, Nat.reduceAdd, Int.toNat_natCast]; omega) | kernel_rfl) ?_
              | refine RegW.run ?_
              | refine ⟨_, c1, ?_⟩
              | refine ⟨_, c2, ?_⟩
              | refine ⟨_, c3, ?_⟩
              | refine ⟨_, hk1, ?_⟩
              | refine ⟨_, hs1, ?_⟩
              | refine ⟨_, hs2, ?_⟩
              | refine ⟨_, hy1, ?_⟩
              | refine ⟨_, hw1, ?_⟩
              | refine ⟨_, hw2, ?_⟩
              | refine ⟨_, c7, ?_⟩
              | refine ⟨_, hcl, ?_⟩
              | fail
            all_goals first
              | (exfalso; omega)
              | exact ⟨k + 1, by omega, ⟨[(25, some 91)], ⟨by kernel_rfl, by kernel_rfl, by kernel_rfl, by kernel_rfl, by kernel_rfl, by kernel_rfl, by kernel_rfl⟩, (by repeat' first | exact trivial | exact rfl | kernel_rfl | exact Dle.of_eq rfl | exact MLe.of_eq rfl | exact Dle.i (by omega) | exact Dle.i (by simp only [Int.toNat_natCast] at *; omega) | exact Dle.nil | exact Dle.rc Dle.nil | exact Option.some_ne_none _ | exact Or.inl rfl | exact Or.inr trivial | omega | (simp only [Int.toNat_natCast] at *; omega) | (intro _ _ _ _; exact Dle.of_eq rfl) | (intro i j hi hj; exact hrow i j hi hj) | refine And.intro ?_ ?_)⟩, by first | omega | (dsimp only; omega)⟩
              | trace_state
          · have u2 : t2 (l.getD k default) = (putK (putK (putK emp (⟨#[114, 111, 117, 116, 101]⟩ : ByteArray) (txt (l.getD k default).route)) (⟨#[107, 105, 110, 100]⟩ : ByteArray) (txt (kname (l.getD k default).kind))) (⟨#[110, 101, 101, 100]⟩ : ByteArray) (tru (l.getD k default).need)) := if_neg (by rw [hb]; decide)
            have u3 : t3 (l.getD k default) = (putK (putK (putK emp (⟨#[114, 111, 117, 116, 101]⟩ : ByteArray) (txt (l.getD k default).route)) (⟨#[107, 105, 110, 100]⟩ : ByteArray) (txt (kname (l.getD k default).kind))) (⟨#[110, 101, 101, 100]⟩ : ByteArray) (tru (l.getD k default).need)) := by unfold t3; rw [if_neg ho, u2]
            have u4 : fieldV (l.getD k default) = (putK (putK (putK emp (⟨#[114, 111, 117, 116, 101]⟩ : ByteArray) (txt (l.getD k default).route)) (⟨#[107, 105, 110, 100]⟩ : ByteArray) (txt (kname (l.getD k default).kind))) (⟨#[110, 101, 101, 100]⟩ : ByteArray) (tru (l.getD k default).need)) := by unfold fieldV; rw [if_neg hd, u3]
            have hrow := hfv _ u4
            repeat' first
              | (refine codeW_cond rfl ?_; first | (refine condW_dec ?_ ?_ <;> intro _ <;> try (exfalso; first | omega | (rename_i h; exact absurd (hb.symm.trans h) (by decide)))) | refine condW_not ?_ | (refine condW_bool ?_ ?_ <;> intro _ <;> try (exfalso; first | omega | (rename_i h; exact absurd (hb.symm.trans h) (by decide)))))
              | (refine facW_intro ?_; intro _)
              | refine Or.inl ?_
              | ((conv => whnf); first | (refine condW_dec ?_ ?_ <;> intro _ <;> try (exfalso; first | omega | (rename_i h; exact absurd (hb.symm.trans h) (by decide)))) | refine condW_not ?_ | (refine condW_bool ?_ ?_ <;> intro _ <;> try (exfalso; first | omega | (rename_i h; exact absurd (hb.symm.trans h) (by decide)))) | (refine nbC_t (fun _ => ?_) ?_) | (refine nbC_f ?_ (fun _ => ?_)))
              | refine And.intro (by first | omega | (simp only [Int.toNat_natCast] at *; omega) | (simp only [Nat.reduceAdd, Int.cast_ofNat_Int, true_and, and_true]; omega)  | (simp only [cx, view, Nat.reduceAdd, Int.toNat_natCast]; omega) | kernel_rfl) ?_
              | refine RegW.run ?_
              | refine ⟨_, c1, ?_⟩
              | refine ⟨_, c2, ?_⟩
              | refine ⟨_, c3, ?_⟩
              | refine ⟨_, hk1, ?_⟩
              | refine ⟨_, hs1, ?_⟩
              | refine ⟨_, hs2, ?_⟩
              | refine ⟨_, hy1, ?_⟩
              | refine ⟨_, hw1, ?_⟩
              | refine ⟨_, hw2, ?_⟩
              | fail
            all_goals first
              | (exfalso; omega)
              | exact ⟨k + 1, by omega, ⟨[(25, some 91)], ⟨by kernel_rfl, by kernel_rfl, by kernel_rfl, by kernel_rfl, by kernel_rfl, by kernel_rfl, by kernel_rfl⟩, (by repeat' first | exact trivial | exact rfl | kernel_rfl | exact Dle.of_eq rfl | exact MLe.of_eq rfl | exact Dle.i (by omega) | exact Dle.i (by simp only [Int.toNat_natCast] at *; omega) | exact Dle.nil | exact Dle.rc Dle.nil | exact Option.some_ne_none _ | exact Or.inl rfl | exact Or.inr trivial | omega | (simp only [Int.toNat_natCast] at *; omega) | (intro _ _ _ _; exact Dle.of_eq rfl) | (intro i j hi hj; exact hrow i j hi hj) | refine And.intro ?_ ?_)⟩, by first | omega | (dsimp only; omega)⟩
              | trace_state
    · obtain rfl : k = l.length := by omega
      have e0 : emp.keys.length = emp.items.length ∧ emp.keys.length ≤ 0 := ⟨rfl, Nat.le_refl _⟩
      have e1 := small_put e0 (⟨#[102, 105, 101, 108, 100, 115]⟩ : ByteArray) (lst (l.map fieldV))
      have hy := yes_sp E b
      have hlm : l.length = (l.map fieldV).length := (List.length_map ..).symm
      have hp0 := put_sp E emp (⟨#[102, 105, 101, 108, 100, 115]⟩ : ByteArray) (lst (l.map fieldV)) (by omega) e0.1
      have hp2 := put_sp E (putK emp (⟨#[102, 105, 101, 108, 100, 115]⟩ : ByteArray) (lst (l.map fieldV))) (⟨#[115, 116, 114, 105, 99, 116]⟩ : ByteArray) (tru b) (by omega) e1.1
      have hck := check_sp E (schV l b) (by have := cnt_le_wt (schV l b); omega)
      have hp2 : Sp (cx Tryz.prog mixed tyT_ok E) _ _ (encV (schV l b)) := hp2
      generalize schV l b = y at hp2 hck hr
      generalize checkE y = e at hck hr
      by_cases he : e = 0
      · have hr := hr.trans (if_neg (fun h => h he))
        subst hr
        repeat' first
          | (refine codeW_cond rfl ?_; first | (refine condW_dec ?_ ?_ <;> intro _ <;> try (exfalso; omega)) | refine condW_not ?_ | (refine condW_bool ?_ ?_ <;> intro _ <;> try (exfalso; omega)))
          | (refine facW_intro ?_; intro _)
          | refine Or.inl ?_
          | ((conv => whnf); first | (refine condW_dec ?_ ?_ <;> intro _ <;> try (exfalso; omega)) | refine condW_not ?_ | (refine condW_bool ?_ ?_ <;> intro _ <;> try (exfalso; omega)) | (refine nbC_t (fun _ => ?_) ?_) | (refine nbC_f ?_ (fun _ => ?_)))
          | refine And.intro (by first | omega | (simp only [Int.toNat_natCast] at *; omega) | (simp only [Nat.reduceAdd, Int.cast_ofNat_Int, true_and, and_true]; omega)  | (simp only [cx, view, Nat.reduceAdd, Int.toNat_natCast]; omega) | kernel_rfl) ?_
          | refine RegW.run ?_
          | refine ⟨_, hp0.args ⟨zAgg E 6 false 0 ⟨#[]⟩, Dle.refl _ _, hLst E (l.map fieldV) hlm (fun _ _ _ _ => rfl), trivial⟩, ?_⟩
          | refine ⟨_, hy, ?_⟩
          | refine ⟨_, hp2, ?_⟩
          | refine ⟨_, hck, ?_⟩
          | fail
        all_goals first
          | (exfalso; omega)
          | exact Dle.tup (X := (cx Tryz.prog mixed tyT_ok E)) ⟨Dle.refl _ _, Dle.refl _ _, trivial⟩
          | trace_state
      · have hr := hr.trans (if_pos he)
        subst hr
        repeat' first
          | (refine codeW_cond rfl ?_; first | (refine condW_dec ?_ ?_ <;> intro _ <;> try (exfalso; omega)) | refine condW_not ?_ | (refine condW_bool ?_ ?_ <;> intro _ <;> try (exfalso; omega)))
          | (refine facW_intro ?_; intro _)
          | refine Or.inl ?_
          | ((conv => whnf); first | (refine condW_dec ?_ ?_ <;> intro _ <;> try (exfalso; omega)) | refine condW_not ?_ | (refine condW_bool ?_ ?_ <;> intro _ <;> try (exfalso; omega)) | (refine nbC_t (fun _ => ?_) ?_) | (refine nbC_f ?_ (fun _ => ?_)))
          | refine And.intro (by first | omega | (simp only [Int.toNat_natCast] at *; omega) | (simp only [Nat.reduceAdd, Int.cast_ofNat_Int, true_and, and_true]; omega)  | (simp only [cx, view, Nat.reduceAdd, Int.toNat_natCast]; omega) | kernel_rfl) ?_
          | refine RegW.run ?_
          | refine ⟨_, hp0.args ⟨zAgg E 6 false 0 ⟨#[]⟩, Dle.refl _ _, hLst E (l.map fieldV) hlm (fun _ _ _ _ => rfl), trivial⟩, ?_⟩
          | refine ⟨_, hy, ?_⟩
          | refine ⟨_, hp2, ?_⟩
          | refine ⟨_, hck, ?_⟩
          | fail
        all_goals first
          | (exfalso; omega)
          | exact Dle.tup (X := (cx Tryz.prog mixed tyT_ok E)) ⟨zeroC E, Dle.refl _ _, trivial⟩
          | trace_state
  · rw [if_pos h1] at hr
    subst hr
    refine Sp.body Tryz.func8 (by kernel_rfl) rfl (by kernel_rfl) (by kernel_rfl) (by kernel_rfl) ?_
    repeat' first
      | (refine codeW_cond rfl ?_; first | (refine condW_dec ?_ ?_ <;> intro _ <;> try (exfalso; omega)) | refine condW_not ?_ | (refine condW_bool ?_ ?_ <;> intro _ <;> try (exfalso; omega)))
      | (refine facW_intro ?_; intro _)
      | refine Or.inl ?_
      | ((conv => whnf); first | (refine condW_dec ?_ ?_ <;> intro _ <;> try (exfalso; omega)) | refine condW_not ?_ | (refine condW_bool ?_ ?_ <;> intro _ <;> try (exfalso; omega)) | (refine nbC_t (fun _ => ?_) ?_) | (refine nbC_f ?_ (fun _ => ?_)))
      | refine And.intro (by first | omega | (simp only [Int.toNat_natCast] at *; omega) | (simp only [Nat.reduceAdd, Int.cast_ofNat_Int, true_and, and_true]; omega)  | (simp only [cx, view, Nat.reduceAdd, Int.toNat_natCast]; omega) | kernel_rfl) ?_
      | refine RegW.run ?_
      | refine ⟨_, hcs, ?_⟩
      | fail
    all_goals first
      | (exfalso; omega)
      | exact Dle.tup (X := (cx Tryz.prog mixed tyT_ok E)) ⟨zeroC E, Dle.refl _ _, trivial⟩
      | trace_state
end
end sw
end Go.Proofs.YtgdoelfajfjopaaGreatDoor
