/-
  Contracts with objects lent whose results are frozen, over any program. The reference's tableOf: the table of a map's entries.
-/
import Derived.Test.YtgdoelfajfjopaaGreatDoorN18
import Derived.Test.YtgdoelfajfjopaaGreatDoorTo0
namespace Go.Proofs.YtgdoelfajfjopaaGreatDoor
open Go.RowKit
set_option linter.unusedVariables false
set_option linter.unusedSimpArgs false
section
variable {κ : Type} {X : Cx κ}
/-- The results are d, own rows among them are frozen; what was lent is H'. -/
def retZ (X : Cx κ) (σ0 : St κ) (W : List Nat) (fn : Func) (d : D κ) (H' : List (Nat × Ob κ)) (σ : St κ) : Prop :=
  resWs X σ fn.results.toList fun es => frzAW X σ.ob es fun us es => Dle X (oneD es) d ∧ HeadOk X σ0 W [] H' [] [] (σ.ups us)
theorem SpH.bodyZ {f : FuncId} {fn : Func} {c : Code} {ds : List (D κ)} {H : List (Nat × Ob κ)} {d : D κ} {H' : List (Nat × Ob κ)} (hf : X.P.funcs[f]? = some fn) (hname : (fn.name == "runtime.NumGoroutine") = false) (hb : fn.body = some c) (hn : Nat.ble ds.length fn.ntmps = true) (hok : codeOk fn.ntmps c = true) (hA : argsOk (writes c) ds H = true) (hd : d.frzT = true)
    (hW : codeW X c (exitW (retZ X (start X ds H) (writes c) fn d H')) (start X ds H)) : SpH X f ds H d H' := by
  refine SpH.core hf hname hb hn hok hA (fun {S0 M0 M w0 w β a σ} hL h hret hfr => ?_) hW
  obtain ⟨vs, es, h1, h2, h3, h4, h5⟩ := ress_run h _ hret
  let o0 : Oper := { dst := none, op := .move (.const (.bool true)), type := 0, pos := "", after := #[], guard := none }
  obtain ⟨us, es', M', ⟨⟨hle, hh⟩, hu⟩, fr⟩ := frzA_run es (fun i => vs.getD i undef) _ M σ h (FIn.of h) h4 (frzA_upd (o := o0) _ h5)
  have hnone : ∀ l, σ.ob l = none → (σ.ups us).ob l = none := fun l hl => (ups_none us σ l fun p hp e => by
    rcases hu p hp with h6 | h6
    · cases h6
    · exact h6 (e ▸ hl)).trans hl
  obtain ⟨β2, hs⟩ := fr.si.head (by rw [ups_fr]; exact hfr.f) (fun l hl e => hnone l (hfr.o l hl e)) ((ups_frgv us σ).2.trans hfr.g) hL hh
  have hx := hle _ _ _ _ (one_rep (by rw [fr.ln, h3, h2]) fr.re)
  have hin : ∀ {l o}, (l, o) ∈ H' → (l, o) ∈ H' ++ rowsH ([] : Rws κ) := fun hm => List.mem_append_left _ hm
  refine ⟨_, M', β2, ress_val h1, hs.le, fr.mo, hs.mN, hs.mlt, hx.frzT hd, ⟨fun l o hm => ?_, fun l o l' o' b c c' hm hm' hb hb' => ?_⟩, fun b ⟨l, o, c, hm, hb⟩ => ?_⟩
  · obtain ⟨e, hv⟩ := head_at hh (hin hm)
    exact ⟨hv, hs.ob l o false e⟩
  · obtain ⟨e, hv⟩ := head_at hh (hin hm)
    obtain ⟨e', hv'⟩ := head_at hh (hin hm')
    exact hs.oi l l' o o' _ _ b c c' e hv e' hv' hb hb'
  · obtain ⟨e, hv⟩ := head_at hh (hin hm)
    exact hs.oB l o _ b c e hv hb
end
end Go.Proofs.YtgdoelfajfjopaaGreatDoor
namespace Go.Proofs.YtgdoelfajfjopaaGreatDoor
open Go.RowKit
set_option linter.unusedVariables false
set_option linter.unusedSimpArgs false
namespace tab
open cr se ap so
section
variable (E : Env)
set_option maxRecDepth 100000
theorem sort_sp (L : Nat) (l : List ByteArray) (hl : l.length ≤ 1000000000) (hsz : ∀ s ∈ l, s.size ≤ maxLen) : SpH (cx Tryz.prog mixed tyT_ok E) 85 [.own L 1 0 l.length] [(L, .row 9 l.length (fun i _ => dS (l.getD i ⟨#[]⟩)))] (.tup []) [(L, .row 9 l.length (fun i _ => dS ((sortB l).getD i ⟨#[]⟩)))] := by
  have h := (so.SpH.sort (X := (cx Tryz.prog mixed tyT_ok E)) (f := 85) (e := 9) (by kernel_rfl) ⟨_, _, Tryz.func85, by kernel_rfl, rfl⟩ l (by omega) hsz (fun b c ss w h1 h2 h3 => Tryz.slices_Sort_string b 0 c ss w h1 h2 h3) (fun w => Tryz.slices_Sort_string_none none 0 w)).swap 2000 L
  simpa only [D.renL, D.ren, renH, Ob.ren, swp_l] using h
set_option maxHeartbeats 8000000 in
theorem tableOf_sp (pm : List (ByteArray × Vu)) (its : List Vu) (kys : List ByteArray) (hT : TabOf (.mk 6 false 0 ⟨#[]⟩ its kys) pm) (hlen : pm.length ≤ 1000000000) (hsz : ∀ p ∈ pm, p.1.size ≤ maxLen) :
    SpH (cx Tryz.prog mixed tyT_ok E) 44 [.mp 2000] [(2000, .map 123 (esOf pm))] (encV (.mk 6 false 0 ⟨#[]⟩ its kys)) [(2000, .map 123 (esOf pm))] := by
  refine SpH.bodyZ Tryz.func44 (by kernel_rfl) rfl (by kernel_rfl) (by kernel_rfl) (by kernel_rfl) (by kernel_rfl) ?_
  repeat' first
    | (refine codeW_cond rfl ?_; first | (refine condW_dec ?_ ?_ <;> intro _ <;> try (exfalso; omega)) | refine condW_not ?_ | (refine condW_bool ?_ ?_ <;> intro _ <;> try (exfalso; omega)))
    | (refine facW_intro ?_; intro _)
    | refine Or.inl ?_
    | ((conv => whnf); first | (refine condW_dec ?_ ?_ <;> intro _ <;> try (exfalso; omega)) | refine condW_not ?_ | (refine condW_bool ?_ ?_ <;> intro _ <;> try (exfalso; omega)) | (refine nbC_t (fun _ => ?_) ?_) | (refine nbC_f ?_ (fun _ => ?_)))
    | refine And.intro (by first | omega | (simp only [Int.toNat_natCast] at *; omega) | (simp only [Nat.reduceAdd, Int.cast_ofNat_Int, true_and, and_true]; omega)  | (simp only [cx, view, Nat.reduceAdd, Int.toNat_natCast]; omega) | kernel_rfl) ?_
    | refine RegW.run ?_
    | fail
  refine ⟨List Nat, fun sn => [], fun sn => [(3, .cells [i64 6, dB false, i64 0, dS ⟨#[]⟩, .v (.slice none 0 0), .own 11 1 0 sn.length]), (9, .iter 2000 (esOf pm).length sn)], [2, 2000], fun sn => [(11, 9, sn.length, fun j _ => dS ((ksOf pm sn).getD j ⟨#[]⟩))], fun sn => sn.Nodup ∧ ∀ x ∈ sn, x < pm.length, fun sn => pm.length - sn.length, ⟨[], ⟨List.nodup_nil, fun x hx => by cases hx⟩, ⟨[(11, none)], ⟨by kernel_rfl, by kernel_rfl, by kernel_rfl, by kernel_rfl, by kernel_rfl, by kernel_rfl, by kernel_rfl⟩, (by repeat' first | exact trivial | exact rfl | kernel_rfl | exact Dle.of_eq rfl | exact MLe.of_eq rfl | exact Dle.i (by omega) | exact Dle.i (by simp only [Int.toNat_natCast] at *; omega) | exact Dle.nil | exact Dle.rc Dle.nil | exact Option.some_ne_none _ | exact Or.inl rfl | exact Or.inr trivial | omega | (simp only [Int.toNat_natCast] at *; omega) | (intro _ _ _ _; exact Dle.of_eq rfl) | refine And.intro ?_ ?_)⟩⟩, fun sn hsn => ?_⟩
  obtain ⟨hnd, hlt⟩ := hsn
  have hle := nodup_lt hnd hlt
  repeat' first
    | (refine codeW_cond rfl ?_; first | (refine condW_dec ?_ ?_ <;> intro _ <;> try (exfalso; omega)) | refine condW_not ?_ | (refine condW_bool ?_ ?_ <;> intro _ <;> try (exfalso; omega)))
    | (refine facW_intro ?_; intro _)
    | refine Or.inl ?_
    | ((conv => whnf); first | (refine condW_dec ?_ ?_ <;> intro _ <;> try (exfalso; omega)) | refine condW_not ?_ | (refine condW_bool ?_ ?_ <;> intro _ <;> try (exfalso; omega)) | (refine nbC_t (fun _ => ?_) ?_) | (refine nbC_f ?_ (fun _ => ?_)))
    | refine And.intro (by first | omega | (simp only [Int.toNat_natCast] at *; omega) | (simp only [Nat.reduceAdd, Int.cast_ofNat_Int, true_and, and_true]; omega)  | (simp only [cx, view, Nat.reduceAdd, Int.toNat_natCast]; omega) | kernel_rfl) ?_
    | refine RegW.run ?_
    | fail
  refine ⟨fun i p hp hi => ?_, fun hall => ?_⟩
  · obtain ⟨hil, rfl⟩ := es_at hp
    have hlt2 : ∀ x ∈ i :: sn, x < pm.length := fun x hx => (List.mem_cons.1 hx).elim (fun e => e ▸ hil) (hlt x)
    have hnd2 : (i :: sn).Nodup := List.nodup_cons.2 ⟨hi, hnd⟩
    have hle2 := nodup_lt hnd2 hlt2
    have hl3 : (i :: sn).length = sn.length + 1 := rfl
    repeat' first
      | (refine codeW_cond rfl ?_; first | (refine condW_dec ?_ ?_ <;> intro _ <;> try (exfalso; first | omega | (rename_i h; cases h; done))) | refine condW_not ?_ | (refine condW_bool ?_ ?_ <;> intro _ <;> try (exfalso; first | omega | (rename_i h; cases h; done))))
      | (refine facW_intro ?_; intro _)
      | refine Or.inl ?_
      | ((conv => whnf); first | (refine condW_dec ?_ ?_ <;> intro _ <;> try (exfalso; first | omega | (rename_i h; cases h; done))) | refine condW_not ?_ | (refine condW_bool ?_ ?_ <;> intro _ <;> try (exfalso; first | omega | (rename_i h; cases h; done))) | (refine nbC_t (fun _ => ?_) ?_) | (refine nbC_f ?_ (fun _ => ?_)))
      | refine And.intro (by first | omega | (simp only [Int.toNat_natCast] at *; omega) | (simp only [Nat.reduceAdd, Int.cast_ofNat_Int, true_and, and_true]; omega)  | (simp only [cx, view, Nat.reduceAdd, Int.toNat_natCast]; omega) | kernel_rfl) ?_
      | refine RegW.run ?_
      | fail
    refine ⟨_, hp, ?_⟩
    repeat' first
      | (refine codeW_cond rfl ?_; first | (refine condW_dec ?_ ?_ <;> intro _ <;> try (exfalso; omega)) | refine condW_not ?_ | (refine condW_bool ?_ ?_ <;> intro _ <;> try (exfalso; omega)))
      | (refine facW_intro ?_; intro _)
      | refine Or.inl ?_
      | ((conv => whnf); first | (refine condW_dec ?_ ?_ <;> intro _ <;> try (exfalso; omega)) | refine condW_not ?_ | (refine condW_bool ?_ ?_ <;> intro _ <;> try (exfalso; omega)) | (refine nbC_t (fun _ => ?_) ?_) | (refine nbC_f ?_ (fun _ => ?_)))
      | refine And.intro (by first | omega | (simp only [Int.toNat_natCast] at *; omega) | (simp only [Nat.reduceAdd, Int.cast_ofNat_Int, true_and, and_true]; omega)  | (simp only [cx, view, Nat.reduceAdd, Int.toNat_natCast]; omega) | kernel_rfl) ?_
      | refine RegW.run ?_
      | fail
    have hrow : ∀ a b, a < sn.length + 1 → b < 1 → Dle (cx Tryz.prog mixed tyT_ok E) (if a < sn.length then dS ((ksOf pm sn).getD a ⟨#[]⟩) else ([dS (kAt pm i)] : List DD).getD ((a - sn.length) * 1 + b) .opq) (dS ((ksOf pm (i :: sn)).getD a ⟨#[]⟩)) := fun a b ha hb => Dle.of_eq (by
      rw [ks_at]
      by_cases h : a < sn.length
      · rw [if_pos h, if_pos h]
      · rw [if_neg h, if_neg h, show (a - sn.length) * 1 + b = 0 by omega, show a - sn.length = 0 by omega]
        rfl)
    all_goals first
      | exact ⟨i :: sn, ⟨hnd2, hlt2⟩, ⟨[(11, some 18)], ⟨by kernel_rfl, by kernel_rfl, by kernel_rfl, by kernel_rfl, by kernel_rfl, by kernel_rfl, by kernel_rfl⟩, (by repeat' first | exact trivial | exact rfl | kernel_rfl | exact Dle.of_eq rfl | exact MLe.of_eq rfl | exact Dle.i (by omega) | exact Dle.i (by simp only [Int.toNat_natCast] at *; omega) | exact Dle.nil | exact Dle.rc Dle.nil | exact Option.some_ne_none _ | exact Or.inl rfl | exact Or.inr trivial | omega | (simp only [Int.toNat_natCast] at *; omega) | (intro _ _ _ _; exact Dle.of_eq rfl) | (intro i j hi hj; exact hrow i j hi hj) | refine And.intro ?_ ?_)⟩, by first | omega | (dsimp only; omega)⟩
      | trace_state
  · have hall2 : ∀ i, i < pm.length → i ∈ sn := fun i hi => hall i (by rw [es_len]; exact hi)
    obtain ⟨a1, a2, a3⟩ := ks_all hT.nd hnd hlt hall2
    have hsr := hT.sorted a1 a2
    have hsn := hT.size hnd hlt hall2
    have hso := sort_sp E 11 (ksOf pm sn) (by rw [ks_len]; omega) (fun s hs => by
      obtain ⟨p, hp, rfl⟩ := List.mem_map.1 ((a2 s).1 hs)
      exact hsz p hp)
    rw [hsr, ks_len] at hso
    have hkl : sn.length = kys.length := hsn
    have hil : kys.length = its.length := hT.len
    repeat' first
      | refine Or.inr ⟨_, _, _, hso, by kernel_rfl, (by repeat' first | exact trivial | exact rfl | kernel_rfl | exact Dle.of_eq rfl | exact MLe.of_eq rfl | exact Dle.i (by omega) | exact Dle.i (by simp only [Int.toNat_natCast] at *; omega) | exact Dle.nil | exact Dle.rc Dle.nil | exact Option.some_ne_none _ | exact Or.inl rfl | exact Or.inr trivial | omega | (simp only [Int.toNat_natCast] at *; omega) | (intro _ _ _ _; exact Dle.of_eq rfl) | refine And.intro ?_ ?_), ?_⟩
      | (refine codeW_cond rfl ?_; first | (refine condW_dec ?_ ?_ <;> intro _ <;> try (exfalso; first | omega | (rename_i h; cases h; done))) | refine condW_not ?_ | (refine condW_bool ?_ ?_ <;> intro _ <;> try (exfalso; first | omega | (rename_i h; cases h; done))))
      | (refine facW_intro ?_; intro _)
      | refine Or.inl ?_
      | ((conv => whnf); first | (refine condW_dec ?_ ?_ <;> intro _ <;> try (exfalso; first | omega | (rename_i h; cases h; done))) | refine condW_not ?_ | (refine condW_bool ?_ ?_ <;> intro _ <;> try (exfalso; first | omega | (rename_i h; cases h; done))) | (refine nbC_t (fun _ => ?_) ?_) | (refine nbC_f ?_ (fun _ => ?_)))
      | refine And.intro (by first | omega | (simp only [Int.toNat_natCast] at *; omega) | (simp only [Nat.reduceAdd, Int.cast_ofNat_Int, true_and, and_true]; omega)  | (simp only [cx, view, Nat.reduceAdd, Int.toNat_natCast]; omega) | kernel_rfl) ?_
      | refine RegW.run ?_
      | fail
    refine ⟨Nat, fun k => [(26, i64 k)], fun k => [(3, .cells [i64 6, dB false, i64 0, dS ⟨#[]⟩, .own 27 6 0 k, .own 11 1 0 sn.length])], [2, 2000, 11], fun k => [(27, 25, k, fun i j => (its.getD i .zero).cell j)], fun k => k ≤ kys.length, fun k => kys.length - k, ⟨0, by omega, ⟨[(27, none)], ⟨by kernel_rfl, by kernel_rfl, by kernel_rfl, by kernel_rfl, by kernel_rfl, by kernel_rfl, by kernel_rfl⟩, (by repeat' first | exact trivial | exact rfl | kernel_rfl | exact Dle.of_eq rfl | exact MLe.of_eq rfl | exact Dle.i (by omega) | exact Dle.i (by simp only [Int.toNat_natCast] at *; omega) | exact Dle.nil | exact Dle.rc Dle.nil | exact Option.some_ne_none _ | exact Or.inl rfl | exact Or.inr trivial | omega | (simp only [Int.toNat_natCast] at *; omega) | (intro _ _ _ _; exact Dle.of_eq rfl) | refine And.intro ?_ ?_)⟩⟩, fun k hk => ?_⟩
    have hk : k ≤ kys.length := hk
    by_cases hkl2 : k < kys.length
    · have hpm := hT.has k hkl2
      have hlk : Look (esOf pm) (.string (kys.getD (0 + (k : Int).toNat) ⟨#[]⟩)) (zeroD (((cx Tryz.prog mixed tyT_ok E)).T 25)) (true, encV (its.getD k .zero)) := by
        rw [show 0 + (k : Int).toNat = k by omega]
        exact .inl ⟨_, List.mem_map.2 ⟨_, hpm, rfl⟩, rfl, rfl⟩
      have hrow2 : ∀ a b, a < k + 1 → b < 6 → Dle (cx Tryz.prog mixed tyT_ok E) (if a < k then (its.getD a .zero).cell b else ([i64 (its.getD k .zero).kind, dB (its.getD k .zero).b, i64 (its.getD k .zero).i, dS (its.getD k .zero).text, .rc (.vals (its.getD k .zero).items), encStrs (its.getD k .zero).keys] : List DD).getD ((a - k) * 6 + b) .opq) ((its.getD a .zero).cell b) := fun a b ha hb => Dle.of_eq (by
        by_cases h : a < k
        · rw [if_pos h]
        · obtain rfl : a = k := by omega
          rw [if_neg h, show (a - a) * 6 + b = b by rw [Nat.sub_self]; omega, cell_of _ b hb])
      repeat' first
        | (refine codeW_cond rfl ?_; first | (refine condW_dec ?_ ?_ <;> intro _ <;> try (exfalso; omega)) | refine condW_not ?_ | (refine condW_bool ?_ ?_ <;> intro _ <;> try (exfalso; omega)))
        | (refine facW_intro ?_; intro _)
        | refine Or.inl ?_
        | ((conv => whnf); first | (refine condW_dec ?_ ?_ <;> intro _ <;> try (exfalso; omega)) | refine condW_not ?_ | (refine condW_bool ?_ ?_ <;> intro _ <;> try (exfalso; omega)) | (refine nbC_t (fun _ => ?_) ?_) | (refine nbC_f ?_ (fun _ => ?_)))
        | refine And.intro (by first | omega | (simp only [Int.toNat_natCast] at *; omega) | (simp only [Nat.reduceAdd, Int.cast_ofNat_Int, true_and, and_true]; omega)  | (simp only [cx, view, Nat.reduceAdd, Int.toNat_natCast]; omega) | kernel_rfl) ?_
        | refine RegW.run ?_
        | refine ⟨_, hlk, ?_⟩
        | fail
      all_goals first
        | exact ⟨k + 1, by omega, ⟨[(27, some 36)], ⟨by kernel_rfl, by kernel_rfl, by kernel_rfl, by kernel_rfl, by kernel_rfl, by kernel_rfl, by kernel_rfl⟩, (by repeat' first | exact trivial | exact rfl | kernel_rfl | exact Dle.of_eq rfl | exact MLe.of_eq rfl | exact Dle.i (by omega) | exact Dle.i (by simp only [Int.toNat_natCast] at *; omega) | exact Dle.nil | exact Dle.rc Dle.nil | exact Option.some_ne_none _ | exact Or.inl rfl | exact Or.inr trivial | omega | (simp only [Int.toNat_natCast] at *; omega) | (intro _ _ _ _; exact Dle.of_eq rfl) | (intro i j hi hj; exact hrow2 i j hi hj) | refine And.intro ?_ ?_)⟩, by first | omega | (dsimp only; omega)⟩
        | trace_state
    · repeat' first
        | (refine codeW_cond rfl ?_; first | (refine condW_dec ?_ ?_ <;> intro _ <;> try (exfalso; omega)) | refine condW_not ?_ | (refine condW_bool ?_ ?_ <;> intro _ <;> try (exfalso; omega)))
        | (refine facW_intro ?_; intro _)
        | refine Or.inl ?_
        | ((conv => whnf); first | (refine condW_dec ?_ ?_ <;> intro _ <;> try (exfalso; omega)) | refine condW_not ?_ | (refine condW_bool ?_ ?_ <;> intro _ <;> try (exfalso; omega)) | (refine nbC_t (fun _ => ?_) ?_) | (refine nbC_f ?_ (fun _ => ?_)))
        | refine And.intro (by first | omega | (simp only [Int.toNat_natCast] at *; omega) | (simp only [Nat.reduceAdd, Int.cast_ofNat_Int, true_and, and_true]; omega)  | (simp only [cx, view, Nat.reduceAdd, Int.toNat_natCast]; omega) | kernel_rfl) ?_
        | refine RegW.run ?_
        | fail
      (conv => whnf)
      refine And.intro ?_ ?_
      · exact Dle.agg (X := (cx Tryz.prog mixed tyT_ok E)) ⟨Dle.refl _ _, Dle.refl _ _, Dle.refl _ _, Dle.refl _ _, Dle.rc (X := (cx Tryz.prog mixed tyT_ok E)) (Dle.sl (X := (cx Tryz.prog mixed tyT_ok E)) (show k = its.length by omega) (fun i j _ _ => Dle.refl _ _)), Dle.sl (X := (cx Tryz.prog mixed tyT_ok E)) hkl (fun i j _ _ => Dle.refl _ _), trivial⟩
      · exact ⟨[], ⟨by kernel_rfl, by kernel_rfl, by kernel_rfl, by kernel_rfl, by kernel_rfl, by kernel_rfl, by kernel_rfl⟩, (by repeat' first | exact trivial | exact rfl | kernel_rfl | exact Dle.of_eq rfl | exact MLe.of_eq rfl | exact Dle.i (by omega) | exact Dle.i (by simp only [Int.toNat_natCast] at *; omega) | exact Dle.nil | exact Dle.rc Dle.nil | exact Option.some_ne_none _ | exact Or.inl rfl | exact Or.inr trivial | omega | (simp only [Int.toNat_natCast] at *; omega) | (intro _ _ _ _; exact Dle.of_eq rfl) | refine And.intro ?_ ?_)⟩
theorem tableOf_l (L : Nat) (pm : List (ByteArray × Vu)) (T : Vu) (hT : TabOf T pm) (hlen : pm.length ≤ 1000000000) (hsz : ∀ p ∈ pm, p.1.size ≤ maxLen) :
    SpH (cx Tryz.prog mixed tyT_ok E) 44 [.mp L] [(L, .map 123 (esOf pm))] (encV T) [(L, .map 123 (esOf pm))] := by
  have hf := hT.form
  rw [hf] at hT ⊢
  have h := (tableOf_sp E pm T.items T.keys hT hlen hsz).swap 2000 L
  simpa only [D.renL, D.ren, renH, Ob.ren, swp_l, encV, encStrs] using h
end
end tab
end Go.Proofs.YtgdoelfajfjopaaGreatDoor
