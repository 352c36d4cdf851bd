/-
  Contracts with objects lent whose results are frozen, over any program. conf.Routes, the reference's RoutesOf, Alike over rows of strings, the law.
-/
import Derived.Test.YtilfmjldcigagaaGreatDoorN18
import Derived.Test.YtilfmjldcigagaaGreatDoorM1
namespace Go.Proofs.YtilfmjldcigagaaGreatDoor
open Go.RowKit
set_option linter.unusedVariables false
set_option linter.unusedSimpArgs false
section
variable {κ : Type} {X : Cx κ}
/-- The results are d, own rows among them are frozen; what was lent is H'. -/
def retZ (X : Cx κ) (σ0 : St κ) (W : List Nat) (fn : Func) (d : D κ) (H' : List (Nat × Ob κ)) (σ : St κ) : Prop :=
  resWs X σ fn.results.toList fun es => frzAW X σ.ob es fun us es => Dle X (oneD es) d ∧ HeadOk X σ0 W [] H' [] [] (σ.ups us)
theorem SpH.bodyZ {f : FuncId} {fn : Func} {c : Code} {ds : List (D κ)} {H : List (Nat × Ob κ)} {d : D κ} {H' : List (Nat × Ob κ)} (hf : X.P.funcs[f]? = some fn) (hname : (fn.name == "runtime.NumGoroutine") = false) (hb : fn.body = some c) (hn : Nat.ble ds.length fn.ntmps = true) (hok : codeOk fn.ntmps c = true) (hA : argsOk (writes c) ds H = true) (hd : d.frzT = true)
    (hW : codeW X c (exitW (retZ X (start X ds H) (writes c) fn d H')) (start X ds H)) : SpH X f ds H d H' := by
  refine SpH.core hf hname hb hn hok hA (fun {S0 M0 M w0 w β a σ} hL h hret hfr => ?_) hW
  obtain ⟨vs, es, h1, h2, h3, h4, h5⟩ := ress_run h _ hret
  let o0 : Oper := { dst := none, op := .move (.const (.bool true)), type := 0, pos := "", after := #[], guard := none }
  obtain ⟨us, es', M', ⟨⟨hle, hh⟩, hu⟩, fr⟩ := frzA_run es (fun i => vs.getD i undef) _ M σ h (FIn.of h) h4 (frzA_upd (o := o0) _ h5)
  have hnone : ∀ l, σ.ob l = none → (σ.ups us).ob l = none := fun l hl => (ups_none us σ l fun p hp e => by
    rcases hu p hp with h6 | h6
    · cases h6
    · exact h6 (e ▸ hl)).trans hl
  obtain ⟨β2, hs⟩ := fr.si.head (by rw [ups_fr]; exact hfr.f) (fun l hl e => hnone l (hfr.o l hl e)) ((ups_frgv us σ).2.trans hfr.g) hL hh
  have hx := hle _ _ _ _ (one_rep (by rw [fr.ln, h3, h2]) fr.re)
  have hin : ∀ {l o}, (l, o) ∈ H' → (l, o) ∈ H' ++ rowsH ([] : Rws κ) := fun hm => List.mem_append_left _ hm
  refine ⟨_, M', β2, ress_val h1, hs.le, fr.mo, hs.mN, hs.mlt, hx.frzT hd, ⟨fun l o hm => ?_, fun l o l' o' b c c' hm hm' hb hb' => ?_⟩, fun b ⟨l, o, c, hm, hb⟩ => ?_⟩
  · obtain ⟨e, hv⟩ := head_at hh (hin hm)
    exact ⟨hv, hs.ob l o false e⟩
  · obtain ⟨e, hv⟩ := head_at hh (hin hm)
    obtain ⟨e', hv'⟩ := head_at hh (hin hm')
    exact hs.oi l l' o o' _ _ b c c' e hv e' hv' hb hb'
  · obtain ⟨e, hv⟩ := head_at hh (hin hm)
    exact hs.oB l o _ b c e hv hb
end
end Go.Proofs.YtilfmjldcigagaaGreatDoor
namespace Go.Proofs.YtilfmjldcigagaaGreatDoor
open Go.RowKit
set_option linter.unusedVariables false
set_option linter.unusedSimpArgs false
def routesE (v : Vu) : List ByteArray × Int := if checkE v ≠ 0 then ([], checkE v) else (rts v ⟨#[]⟩, 0)
section
variable (E : Env)
set_option maxRecDepth 100000
theorem row_encStrs (a b : List ByteArray) (i j : Nat) : Dle (cx Tryz.prog mixed tyT_ok E) (if i < a.length then rowS a i j else (fun i _ => (.v (.string (b.getD i ⟨#[]⟩)) : DD)) (i - a.length) j) (rowS (a ++ b) i j) := Dle.of_eq (rowS_app a b i j)
theorem one_enc (r : ByteArray) : Dle (cx Tryz.prog mixed tyT_ok E) (.sl 1 16 1 (fun i j => ([dS r] : List DD).getD ((i + 0) * 1 + j) .opq)) (encStrs [r]) := by
  refine Dle.sl (X := (cx Tryz.prog mixed tyT_ok E)) rfl (fun i j hi hj => ?_)
  obtain rfl : i = 0 := by omega
  obtain rfl : j = 0 := by omega
  exact Dle.refl _ _
theorem route_sp (r p : ByteArray) (h : r.size + p.size ≤ 1000000000000000) : Sp (cx Tryz.prog mixed tyT_ok E) 100 [dS r, dS p] (dS (joinR r p)) := by
  have h1 : (r ++ ⟨#[46]⟩).size = r.size + 1 := by rw [ByteArray.size_append]; rfl
  have h2 : (⟨#[46]⟩ : ByteArray).size = 1 := rfl
  refine Sp.body Tryz.func100 (by kernel_rfl) rfl (by kernel_rfl) (by kernel_rfl) (by kernel_rfl) ?_
  repeat' first
    | (refine facW_intro ?_; intro _)
    | refine Or.inl ?_
    | ((conv => whnf); first | (refine condW_dec ?_ ?_ <;> intro _ <;> try (exfalso; omega)) | refine condW_not ?_ | (refine condW_bool ?_ ?_ <;> intro _ <;> try (exfalso; omega)) | (refine nbC_t (fun _ => ?_) ?_) | (refine nbC_f ?_ (fun _ => ?_)))
    | refine And.intro (by first | omega | (simp only [Int.toNat_natCast] at *; omega) | (simp only [Nat.reduceAdd, Int.cast_ofNat_Int, true_and, and_true]; omega) | kernel_rfl) ?_
    | refine RegW.run ?_
    | fail
  all_goals first
    | exact Dle.s (by unfold joinR; rw [if_pos (by assumption)])
    | exact Dle.s (by unfold joinR; rw [if_neg (by assumption)])
    | trace_state
theorem partOf_sp (hP : ∀ w, E.G w → P10 w) (v : Vu) (i : Nat) (hi : i < v.items.length) (hk : v.kind = 6 → v.keys.length = v.items.length) (hb : i ≤ 1000000) : Sp (cx Tryz.prog mixed tyT_ok E) 101 [encV v, i64 i] (dS (partK v.kind v.keys i)) := by
  have h1 := itoaN_sp E hP i hb
  refine Sp.body Tryz.func101 (by kernel_rfl) rfl (by kernel_rfl) (by kernel_rfl) (by kernel_rfl) ?_
  repeat' first
    | (refine facW_intro ?_; intro _)
    | refine Or.inl ?_
    | ((conv => whnf); first | (refine condW_dec ?_ ?_ <;> intro _ <;> try (exfalso; omega)) | refine condW_not ?_ | (refine condW_bool ?_ ?_ <;> intro _ <;> try (exfalso; omega)) | (refine nbC_t (fun _ => ?_) ?_) | (refine nbC_f ?_ (fun _ => ?_)))
    | refine And.intro (by first | omega | (simp only [Int.toNat_natCast] at *; omega) | (simp only [Nat.reduceAdd, Int.cast_ofNat_Int, true_and, and_true]; omega) | kernel_rfl) ?_
    | refine RegW.run ?_
    | refine ⟨_, h1, ?_⟩
    | fail
  all_goals first
    | exact Dle.s (by unfold partK; rw [if_pos (by assumption)]; rfl)
    | exact Dle.s (by unfold partK; rw [if_neg (by assumption)])
    | trace_state
set_option maxHeartbeats 4000000 in
theorem refRoutes_sp (hP : ∀ w, E.G w → P10 w) : ∀ (N : Nat) (v : Vu) (r : ByteArray), SizeOf.sizeOf v < N → faultE v = 0 → v.items.length ≤ 1000000 → cnt v ≤ 1000000 → r.size + 100 * v.wt ≤ 100000000000 →
    Sp (cx Tryz.prog mixed tyT_ok E) 49 [encV v, dS r] (encStrs (rts v r))
  | 0, v, r, h, _, _, _, _ => by omega
  | N + 1, v, r, h, hf, hil, hc, hw => by
    have ih := fun x (hx : x ∈ v.items) r' hx2 => refRoutes_sp hP N x r' (by have := items_lt v x hx; omega) hx2
    have hkl := (fault_keys hf).2
    by_cases h0 : v.items.length = 0
    · have e : rts v r = [r] := by rw [rts_eq, if_pos h0]
      rw [e]
      refine Sp.body Tryz.func49 (by kernel_rfl) rfl (by kernel_rfl) (by kernel_rfl) (by kernel_rfl) ?_
      repeat' first
        | (refine facW_intro ?_; intro _)
        | refine Or.inl ?_
        | ((conv => whnf); first | (refine condW_dec ?_ ?_ <;> intro _ <;> try (exfalso; omega)) | refine condW_not ?_ | (refine condW_bool ?_ ?_ <;> intro _ <;> try (exfalso; omega)) | (refine nbC_t (fun _ => ?_) ?_) | (refine nbC_f ?_ (fun _ => ?_)))
        | refine And.intro (by first | omega | (simp only [Int.toNat_natCast] at *; omega) | (simp only [Nat.reduceAdd, Int.cast_ofNat_Int, true_and, and_true]; omega) | kernel_rfl) ?_
        | refine RegW.run ?_
        | fail
      all_goals first
        | exact one_enc E r
        | trace_state
    · refine Sp.body Tryz.func49 (by kernel_rfl) rfl (by kernel_rfl) (by kernel_rfl) (by kernel_rfl) ?_
      repeat' first
        | (refine facW_intro ?_; intro _)
        | refine Or.inl ?_
        | ((conv => whnf); first | (refine condW_dec ?_ ?_ <;> intro _ <;> try (exfalso; omega)) | refine condW_not ?_ | (refine condW_bool ?_ ?_ <;> intro _ <;> try (exfalso; omega)) | (refine nbC_t (fun _ => ?_) ?_) | (refine nbC_f ?_ (fun _ => ?_)))
        | refine And.intro (by first | omega | (simp only [Int.toNat_natCast] at *; omega) | (simp only [Nat.reduceAdd, Int.cast_ofNat_Int, true_and, and_true]; omega) | kernel_rfl) ?_
        | refine RegW.run ?_
        | fail
      refine ⟨Nat, fun k => [(17, i64 k), (5, .own 17 1 0 (rtsP v r k).length)], fun k => [], [2], fun k => [(17, 9, (rtsP v r k).length, rowS (rtsP v r k))], fun k => k ≤ v.items.length, fun k => v.items.length - k, ⟨0, by omega, ⟨[(17, none)], ⟨by kernel_rfl, by kernel_rfl, by kernel_rfl, by kernel_rfl, by kernel_rfl, by kernel_rfl, by kernel_rfl⟩, (by repeat' first | exact trivial | exact rfl | kernel_rfl | exact Dle.of_eq rfl | exact MLe.of_eq rfl | exact Dle.i (by omega) | exact Dle.i (by simp only [Int.toNat_natCast] at *; omega) | exact Dle.nil | exact Dle.rc Dle.nil | exact Option.some_ne_none _ | exact Or.inl rfl | exact Or.inr trivial | omega | (simp only [Int.toNat_natCast] at *; omega) | (intro _ _ _ _; exact Dle.of_eq rfl) | refine And.intro ?_ ?_)⟩⟩, fun k hk => ?_⟩
      have hk : k ≤ v.items.length := hk
      by_cases hlt : k < v.items.length
      · have hm := getD_mem v.items .zero k hlt
        have g1 := wt_child hm
        have g2 := cnt_mem v.items _ hm
        have g3 := len_le_cntL (v.items.getD k .zero).items
        have g4 := cnt_eq (v.items.getD k .zero)
        have g5 := cnt_eq v
        have g6 := part_wt (v := v) (i := k) (by omega)
        have g7 := joinR_size r (partK v.kind v.keys k)
        have g8 := rtsP_len v r k hk
        have g9 := cntL_take v.items (k + 1)
        rw [take_snoc v.items .zero k hlt, cntL_app] at g9
        have gA := rts_len (v.items.getD k .zero) (joinR r (partK v.kind v.keys k))
        have h1 := partOf_sp E hP v k hlt hkl (by omega)
        have h2 := route_sp E r (partK v.kind v.keys k) (by omega)
        have h3 := ih _ hm (joinR r (partK v.kind v.keys k)) (fault_mem hf hlt) (by omega) (by omega) (by omega)
        have e2 : rtsP v r (k + 1) = rtsP v r k ++ rts (v.items.getD k .zero) (joinR r (partK v.kind v.keys k)) := rfl
        have e3 : (rtsP v r k).length + (rts (v.items.getD k .zero) (joinR r (partK v.kind v.keys k))).length = (rtsP v r (k + 1)).length := by rw [e2, List.length_append]
        repeat' first
          | (refine facW_intro ?_; intro _)
          | refine Or.inl ?_
          | ((conv => whnf); first | (refine condW_dec ?_ ?_ <;> intro _ <;> try (exfalso; omega)) | refine condW_not ?_ | (refine condW_bool ?_ ?_ <;> intro _ <;> try (exfalso; omega)) | (refine nbC_t (fun _ => ?_) ?_) | (refine nbC_f ?_ (fun _ => ?_)))
          | refine And.intro (by first | omega | (simp only [Int.toNat_natCast] at *; omega) | (simp only [Nat.reduceAdd, Int.cast_ofNat_Int, true_and, and_true]; omega) | kernel_rfl) ?_
          | refine RegW.run ?_
          | refine ⟨_, h1, ?_⟩
          | refine ⟨_, h2, ?_⟩
          | refine ⟨_, h3, ?_⟩
          | fail
        all_goals first
          | exact ⟨k + 1, by omega, ⟨[(17, some 30)], ⟨by kernel_rfl, by kernel_rfl, by kernel_rfl, by kernel_rfl, by kernel_rfl, by kernel_rfl, by kernel_rfl⟩, (by repeat' first | (exact e3) | exact trivial | exact rfl | kernel_rfl | exact Dle.of_eq rfl | exact MLe.of_eq rfl | exact Dle.i (by omega) | exact Dle.i (by simp only [Int.toNat_natCast] at *; omega) | exact Dle.nil | exact Dle.rc Dle.nil | exact Option.some_ne_none _ | exact Or.inl rfl | exact Or.inr trivial | omega | (simp only [Int.toNat_natCast] at *; omega) | (intro _ _ _ _; exact Dle.of_eq rfl) | (intro i j hi hj; (rw [e2]; exact row_encStrs E _ _ i j)) | refine And.intro ?_ ?_)⟩, by first | omega | (dsimp only; omega)⟩
          | trace_state
      · have e : k = v.items.length := by omega
        subst e
        have e4 := rtsP_all v r h0
        repeat' first
          | (refine facW_intro ?_; intro _)
          | refine Or.inl ?_
          | ((conv => whnf); first | (refine condW_dec ?_ ?_ <;> intro _ <;> try (exfalso; omega)) | refine condW_not ?_ | (refine condW_bool ?_ ?_ <;> intro _ <;> try (exfalso; omega)) | (refine nbC_t (fun _ => ?_) ?_) | (refine nbC_f ?_ (fun _ => ?_)))
          | refine And.intro (by first | omega | (simp only [Int.toNat_natCast] at *; omega) | (simp only [Nat.reduceAdd, Int.cast_ofNat_Int, true_and, and_true]; omega) | kernel_rfl) ?_
          | refine RegW.run ?_
          | fail
        all_goals first
          | (rw [← e4]; exact Dle.sl (X := (cx Tryz.prog mixed tyT_ok E)) rfl (fun i j hi hj => Dle.refl _ _))
          | trace_state
theorem eqStrs_sp (l : List ByteArray) : Sp (cx Tryz.prog mixed tyT_ok E) 28 [encStrs l, encStrs l] (dB true) := by
  refine Sp.body Tryz.func28 (by kernel_rfl) rfl (by kernel_rfl) (by kernel_rfl) (by kernel_rfl) ?_
  repeat' first
    | (refine facW_intro ?_; intro _)
    | refine Or.inl ?_
    | ((conv => whnf); first | (refine condW_dec ?_ ?_ <;> intro _ <;> try (exfalso; omega)) | refine condW_not ?_ | (refine condW_bool ?_ ?_ <;> intro _ <;> try (exfalso; omega)) | (refine nbC_t (fun _ => ?_) ?_) | (refine nbC_f ?_ (fun _ => ?_)))
    | refine And.intro (by first | omega | (simp only [Int.toNat_natCast] at *; omega) | (simp only [Nat.reduceAdd, Int.cast_ofNat_Int, true_and, and_true]; omega) | kernel_rfl) ?_
    | refine RegW.run ?_
    | fail
  all_goals try (exfalso; rename_i h; exact h rfl)
  refine ⟨Nat, fun k => [(13, i64 k)], fun k => [], [], fun k => [], fun k => k ≤ l.length, fun k => l.length - k, ⟨0, by omega, ⟨[], ⟨by kernel_rfl, by kernel_rfl, by kernel_rfl, by kernel_rfl, by kernel_rfl, by kernel_rfl, by kernel_rfl⟩, (by repeat' first | exact trivial | exact rfl | kernel_rfl | exact Dle.of_eq rfl | exact MLe.of_eq rfl | exact Dle.i (by omega) | exact Dle.i (by simp only [Int.toNat_natCast] at *; omega) | exact Dle.nil | exact Dle.rc Dle.nil | exact Option.some_ne_none _ | exact Or.inl rfl | exact Or.inr trivial | omega | (simp only [Int.toNat_natCast] at *; omega) | (intro _ _ _ _; exact Dle.of_eq rfl) | refine And.intro ?_ ?_)⟩⟩, fun k hk => ?_⟩
  have hk : k ≤ l.length := hk
  repeat' first
    | (refine facW_intro ?_; intro _)
    | refine Or.inl ?_
    | ((conv => whnf); first | (refine condW_dec ?_ ?_ <;> intro _ <;> try (exfalso; omega)) | refine condW_not ?_ | (refine condW_bool ?_ ?_ <;> intro _ <;> try (exfalso; omega)) | (refine nbC_t (fun _ => ?_) ?_) | (refine nbC_f ?_ (fun _ => ?_)))
    | refine And.intro (by first | omega | (simp only [Int.toNat_natCast] at *; omega) | (simp only [Nat.reduceAdd, Int.cast_ofNat_Int, true_and, and_true]; omega) | kernel_rfl) ?_
    | refine RegW.run ?_
    | fail
  all_goals first
    | (exfalso; rename_i h; exact h rfl)
    | exact ⟨k + 1, by omega, ⟨[], ⟨by kernel_rfl, by kernel_rfl, by kernel_rfl, by kernel_rfl, by kernel_rfl, by kernel_rfl, by kernel_rfl⟩, (by repeat' first | exact trivial | exact rfl | kernel_rfl | exact Dle.of_eq rfl | exact MLe.of_eq rfl | exact Dle.i (by omega) | exact Dle.i (by simp only [Int.toNat_natCast] at *; omega) | exact Dle.nil | exact Dle.rc Dle.nil | exact Option.some_ne_none _ | exact Or.inl rfl | exact Or.inr trivial | omega | (simp only [Int.toNat_natCast] at *; omega) | (intro _ _ _ _; exact Dle.of_eq rfl) | refine And.intro ?_ ?_)⟩, by first | omega | (dsimp only; omega)⟩
    | exact Dle.refl _ _
    | trace_state
theorem alikeStrs_sp (l : List ByteArray) : Sp (cx Tryz.prog mixed tyT_ok E) 7 [.ifc 23 (encStrs l), .ifc 23 (encStrs l)] (dB true) := by
  have h1 := eqStrs_sp E l
  refine Sp.body Tryz.func7 (by kernel_rfl) rfl (by kernel_rfl) (by kernel_rfl) (by kernel_rfl) ?_
  repeat' first
    | (refine facW_intro ?_; intro _)
    | refine Or.inl ?_
    | ((conv => whnf); first | (refine condW_dec ?_ ?_ <;> intro _ <;> try (exfalso; omega)) | refine condW_not ?_ | (refine condW_bool ?_ ?_ <;> intro _ <;> try (exfalso; omega)) | (refine nbC_t (fun _ => ?_) ?_) | (refine nbC_f ?_ (fun _ => ?_)))
    | refine And.intro (by first | omega | (simp only [Int.toNat_natCast] at *; omega) | (simp only [Nat.reduceAdd, Int.cast_ofNat_Int, true_and, and_true]; omega) | kernel_rfl) ?_
    | refine RegW.run ?_
    | refine ⟨_, h1, ?_⟩
    | fail
  all_goals first
    | exact Dle.refl _ _
    | trace_state
end
end Go.Proofs.YtilfmjldcigagaaGreatDoor
