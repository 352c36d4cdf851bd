/-
  Contracts with objects lent whose results are frozen, over any program.
-/
import Derived.Test.YtphmfejengmggaaGreatDoorN18
namespace Go.Proofs.YtphmfejengmggaaGreatDoor
open Go.RowKit
set_option linter.unusedVariables false
set_option linter.unusedSimpArgs false
section
variable {κ : Type} {X : Cx κ}
/-- The results are d, own rows among them are frozen; what was lent is H'. -/
def retZ (X : Cx κ) (σ0 : St κ) (W : List Nat) (fn : Func) (d : D κ) (H' : List (Nat × Ob κ)) (σ : St κ) : Prop :=
  resWs X σ fn.results.toList fun es => frzAW X σ.ob es fun us es => Dle X (oneD es) d ∧ HeadOk X σ0 W [] H' [] [] (σ.ups us)
theorem SpH.bodyZ {f : FuncId} {fn : Func} {c : Code} {ds : List (D κ)} {H : List (Nat × Ob κ)} {d : D κ} {H' : List (Nat × Ob κ)} (hf : X.P.funcs[f]? = some fn) (hname : (fn.name == "runtime.NumGoroutine") = false) (hb : fn.body = some c) (hn : Nat.ble ds.length fn.ntmps = true) (hok : codeOk fn.ntmps c = true) (hA : argsOk (writes c) ds H = true) (hd : d.frzT = true)
    (hW : codeW X c (exitW (retZ X (start X ds H) (writes c) fn d H')) (start X ds H)) : SpH X f ds H d H' := by
  refine SpH.core hf hname hb hn hok hA (fun {S0 M0 M w0 w β a σ} hL h hret hfr => ?_) hW
  obtain ⟨vs, es, h1, h2, h3, h4, h5⟩ := ress_run h _ hret
  let o0 : Oper := { dst := none, op := .move (.const (.bool true)), type := 0, pos := "", after := #[], guard := none }
  obtain ⟨us, es', M', ⟨⟨hle, hh⟩, hu⟩, fr⟩ := frzA_run es (fun i => vs.getD i undef) _ M σ h (FIn.of h) h4 (frzA_upd (o := o0) _ h5)
  have hnone : ∀ l, σ.ob l = none → (σ.ups us).ob l = none := fun l hl => (ups_none us σ l fun p hp e => by
    rcases hu p hp with h6 | h6
    · cases h6
    · exact h6 (e ▸ hl)).trans hl
  obtain ⟨β2, hs⟩ := fr.si.head (by rw [ups_fr]; exact hfr.f) (fun l hl e => hnone l (hfr.o l hl e)) ((ups_frgv us σ).2.trans hfr.g) hL hh
  have hx := hle _ _ _ _ (one_rep (by rw [fr.ln, h3, h2]) fr.re)
  have hin : ∀ {l o}, (l, o) ∈ H' → (l, o) ∈ H' ++ rowsH ([] : Rws κ) := fun hm => List.mem_append_left _ hm
  refine ⟨_, M', β2, ress_val h1, hs.le, fr.mo, hs.mN, hs.mlt, hx.frzT hd, ⟨fun l o hm => ?_, fun l o l' o' b c c' hm hm' hb hb' => ?_⟩, fun b ⟨l, o, c, hm, hb⟩ => ?_⟩
  · obtain ⟨e, hv⟩ := head_at hh (hin hm)
    exact ⟨hv, hs.ob l o false e⟩
  · obtain ⟨e, hv⟩ := head_at hh (hin hm)
    obtain ⟨e', hv'⟩ := head_at hh (hin hm')
    exact hs.oi l l' o o' _ _ b c c' e hv e' hv' hb hb'
  · obtain ⟨e, hv⟩ := head_at hh (hin hm)
    exact hs.oB l o _ b c e hv hb
end
end Go.Proofs.YtphmfejengmggaaGreatDoor
