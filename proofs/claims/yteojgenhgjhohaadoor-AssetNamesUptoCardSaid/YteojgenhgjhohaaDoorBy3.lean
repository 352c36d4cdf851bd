/-
  Contracts with objects lent whose results are frozen, over any program. Rows of bytes as lists.
-/
import Derived.Test.YteojgenhgjhohaaDoorN18
import Derived.Test.YteojgenhgjhohaaDoorU1
namespace Go.Proofs.YteojgenhgjhohaaDoor
open Go.RowKit
set_option linter.unusedVariables false
set_option linter.unusedSimpArgs false
section
variable {κ : Type} {X : Cx κ}
def retZ (X : Cx κ) (σ0 : St κ) (W : List Nat) (fn : Func) (d : D κ) (H' : List (Nat × Ob κ)) (σ : St κ) : Prop :=
  resWs X σ fn.results.toList fun es => frzAW X σ.ob es fun us es => Dle X (oneD es) d ∧ HeadOk X σ0 W [] H' [] [] (σ.ups us)
theorem SpH.bodyZ {f : FuncId} {fn : Func} {c : Code} {ds : List (D κ)} {H : List (Nat × Ob κ)} {d : D κ} {H' : List (Nat × Ob κ)} (hf : X.P.funcs[f]? = some fn) (hname : (fn.name == "runtime.NumGoroutine") = false) (hb : fn.body = some c) (hn : Nat.ble ds.length fn.ntmps = true) (hok : codeOk fn.ntmps c = true) (hA : argsOk (writes c) ds H = true) (hd : d.frzT = true)
    (hW : codeW X c (exitW (retZ X (start X ds H) (writes c) fn d H')) (start X ds H)) : SpH X f ds H d H' := by
  refine SpH.core hf hname hb hn hok hA (fun {S0 M0 M w0 w β a σ} hL h hret hfr => ?_) hW
  obtain ⟨vs, es, h1, h2, h3, h4, h5⟩ := ress_run h _ hret
  let o0 : Oper := { dst := none, op := .move (.const (.bool true)), type := 0, pos := "", after := #[], guard := none }
  obtain ⟨us, es', M', ⟨⟨hle, hh⟩, hu⟩, fr⟩ := frzA_run es (fun i => vs.getD i undef) _ M σ h (FIn.of h) h4 (frzA_upd (o := o0) _ h5)
  have hnone : ∀ l, σ.ob l = none → (σ.ups us).ob l = none := fun l hl => (ups_none us σ l fun p hp e => by
    rcases hu p hp with h6 | h6
    · cases h6
    · exact h6 (e ▸ hl)).trans hl
  obtain ⟨β2, hs⟩ := fr.si.head (by rw [ups_fr]; exact hfr.f) (fun l hl e => hnone l (hfr.o l hl e)) ((ups_frgv us σ).2.trans hfr.g) hL hh
  have hx := hle _ _ _ _ (one_rep (by rw [fr.ln, h3, h2]) fr.re)
  have hin : ∀ {l o}, (l, o) ∈ H' → (l, o) ∈ H' ++ rowsH ([] : Rws κ) := fun hm => List.mem_append_left _ hm
  refine ⟨_, M', β2, ress_val h1, hs.le, fr.mo, hs.mN, hs.mlt, hx.frzT hd, ⟨fun l o hm => ?_, fun l o l' o' b c c' hm hm' hb hb' => ?_⟩, fun b ⟨l, o, c, hm, hb⟩ => ?_⟩
  · obtain ⟨e, hv⟩ := head_at hh (hin hm)
    exact ⟨hv, hs.ob l o false e⟩
  · obtain ⟨e, hv⟩ := head_at hh (hin hm)
    obtain ⟨e', hv'⟩ := head_at hh (hin hm')
    exact hs.oi l l' o o' _ _ b c c' e hv e' hv' hb hb'
  · obtain ⟨e, hv⟩ := head_at hh (hin hm)
    exact hs.oB l o _ b c e hv hb
end
end Go.Proofs.YteojgenhgjhohaaDoor
namespace Go.Proofs.YteojgenhgjhohaaDoor
open Go.RowKit
set_option linter.unusedVariables false
set_option linter.unusedSimpArgs false
namespace pn

def rowB (a : List UInt8) (i j : Nat) : DD := .v (.int .u8 (a.getD i 0).toNat)
section
variable (E : Env)
theorem rb_app {n m : Nat} {x y : List UInt8} {f h : Nat → Nat → DD} (hn : n = x.length) (hf : ∀ i j, i < n → j < 1 → Dle (cx Tryd.prog mixed tyT_ok E) (f i j) (rowB x i j)) (hm : m = y.length) (hh : ∀ i j, i < m → j < 1 → Dle (cx Tryd.prog mixed tyT_ok E) (h i j) (rowB y i j)) :
    ∀ i j, i < n + m → j < 1 → Dle (cx Tryd.prog mixed tyT_ok E) (if i < n then f i j else h (i - n) j) (rowB (x ++ y) i j) := by
  intro i j hi hj
  subst hn hm
  have e : ∀ q, (x ++ y).getD q 0 = if q < x.length then x.getD q 0 else y.getD (q - x.length) 0 := fun q => by
    simp only [List.getD_eq_getElem?_getD]
    split
    · rename_i h; rw [List.getElem?_append_left h]
    · rename_i h; rw [List.getElem?_append_right (by omega)]
  by_cases h1 : i < x.length
  · rw [if_pos h1]
    have := hf i j h1 hj
    unfold rowB at this ⊢
    rw [e, if_pos h1]
    exact this
  · rw [if_neg h1]
    have := hh (i - x.length) j (by omega) hj
    unfold rowB at this ⊢
    rw [e, if_neg h1]
    exact this
theorem rb_self {x : List UInt8} {n : Nat} : ∀ i j, i < n → j < 1 → Dle (cx Tryd.prog mixed tyT_ok E) (rowB x i j) (rowB x i j) := fun _ _ _ _ => Dle.refl _ _
theorem rb_lit (n : Int) (b : UInt8) (h : n = b.toNat) : ∀ i j, i < 1 → j < 1 → Dle (cx Tryd.prog mixed tyT_ok E) (([.v (.int .u8 n)] : List DD).getD (i * 1 + j) .opq) (rowB [b] i j) := fun i j hi hj => by
  obtain rfl : i = 0 := by omega
  obtain rfl : j = 0 := by omega
  subst h
  exact Dle.refl _ _
end
end pn
end Go.Proofs.YteojgenhgjhohaaDoor
