/-
  A function's contract out of what its code does, over any program: with nothing lent (its results are frozen), and with objects lent.
-/
import Derived.Test.YteojgenhgjhohaaDoorN16
namespace Go.Proofs.YteojgenhgjhohaaDoor
open Go.RowKit
set_option linter.unusedVariables false
set_option linter.unusedSimpArgs false

section
variable {κ : Type} {X : Cx κ} {M0 M : Nat → Nat → Prop} {S0 : Ln} {w0 w : World} {N : Nat} {β : Bt} {σ σ' : St κ} {a : Act}

def resW (X : Cx κ) (σ : St κ) : ResultVar → (D κ → Prop) → Prop
  | .tmp t, K => fD (σ.fr t) K
  | .cell t ty, K => match σ.fr t with
    | .ptr l off => match σ.ob l with
      | some (.cells cs, _) => condW (X.T ty).known (partW (X.T ty) off cs K) False
      | _ => False
    | _ => False
def resWs (X : Cx κ) (σ : St κ) : List ResultVar → (List (D κ) → Prop) → Prop
  | [], K => K []
  | r :: rs, K => resW X σ r fun e => resWs X σ rs fun es => K (e :: es)
def oneD : List (D κ) → D κ
  | [e] => e
  | es => .tup es
def retW (X : Cx κ) (fn : Func) (d : D κ) (σ : St κ) : Prop := resWs X σ fn.results.toList fun es => frzAW X σ.ob es fun _ es => Dle X (oneD es) d
def rowsH (R : Rws κ) : List (Nat × Ob κ) := R.map fun r => (r.1, .row r.2.1 r.2.2.1 r.2.2.2)
def slotsL : List ResultVar → List (D κ) → List (Nat × D κ)
  | .tmp t :: rs, d :: ds => (t, d) :: slotsL rs ds
  | _ :: rs, _ :: ds => slotsL rs ds
  | _, _ => []
def partsD (n : Nat) (d : D κ) : List (D κ) := match n, d with
  | 1, d => [d]
  | _, .tup ds => ds
  | _, _ => []
def retH (X : Cx κ) (σ0 : St κ) (W : List Nat) (fn : Func) (d : D κ) (H' : List (Nat × Ob κ)) (σ : St κ) : Prop :=
  ∃ (O : List (Nat × Ob κ)) (R : Rws κ), H' = O ++ rowsH R ∧ HeadOk X σ0 W (slotsL fn.results.toList (partsD fn.results.size d)) O [] R σ ∧
    resWs X (σ0.head W (slotsL fn.results.toList (partsD fn.results.size d)) O [] R) fn.results.toList fun es => oneD es = d
def exitW (K : St κ → Prop) : Exit → St κ → Prop
  | .normal, σ => K σ
  | .ret, σ => K σ
  | _, _ => False
def start (X : Cx κ) (ds : List (D κ)) (H : List (Nat × Ob κ)) : St κ where
  fr := fun i => ds.getD i .opq
  ob := fun l => match findB H l with | some o => some (o, false) | none => none
  gv := X.gv

def resSem (tmps : Array Value) : ResultVar → Sem Value
  | .tmp t => pure (tmps.getD t undef)
  | .cell b t => do loadVar t (← asAddr (tmps.getD b undef))
theorem results_eq (fn : Func) (tmps : Array Value) : results fn tmps = (do
    let vs ← fn.results.mapM (resSem tmps)
    pure (if h : vs.size = 1 then vs[0] else .tuple vs)) := by
  unfold results
  congr 1
theorem res_run (h : Sim X M0 S0 w0 N M β σ a w) {r : ResultVar} {K : D κ → Prop} (hW : resW X σ r K) : ∃ x d, (resSem a.tmps r).run X.P w = .ok x w ∧ Rep X.V M w β d x ∧ K d := by
  cases r with
  | tmp t =>
    simp only [resW, fD_eq] at hW
    exact ⟨_, _, rfl, h.fr t, hW⟩
  | cell t ty =>
    simp only [resW] at hW
    split at hW
    · rename_i l off ht
      split at hW
      · rename_i cs z hl
        obtain ⟨hk, hW⟩ := condW_no hW
        obtain ⟨b, c, hb, hv⟩ := ptr_at h (x := .tmp t) ht
        obtain ⟨arr, T, h1, h2⟩ := cells_at h hl hb
        have hne := TyI.known_ne hk
        have hget : ∀ j, j < cs.length → w.cell? ⟨b, j, none⟩ = some (arr.getD j undef) := fun j hj => by
          rw [cell_of_row _ _ _ _ _ _ h1]
          have : j < arr.size := by rw [h2.n]; exact hj
          simp [Array.getD, this]
        have := load_gives (X := X) (M := M) (w := w) (β := β) (t := ty) (b := b) (o := 0) (n := cs.length) (f := fun j => cs.getD j .opq) (K := K) (fun j => arr.getD j undef) hne (fun j hj => ⟨by rw [Nat.zero_add]; exact hget j hj, h2.o j hj⟩) (fun j hj => h2.r j _ (by simp [List.getD, List.getElem?_eq_getElem hj])) off cs (by
          apply List.ext_getElem?
          intro j
          rw [List.getElem?_map]
          by_cases hj : j < cs.length
          · rw [List.getElem?_range hj]; simp [List.getD, List.getElem?_eq_getElem hj]
          · rw [List.getElem?_eq_none (by omega), List.getElem?_eq_none (by simp; omega)]; rfl) hW
        obtain ⟨x, d, hx, hr, hK⟩ := this
        rw [Nat.zero_add] at hx
        refine ⟨x, d, ?_, hr, hK⟩
        have hv' : a.tmps.getD t undef = .pointer (some ⟨b, off, none⟩) := hv
        simp only [resSem, hv']
        simpa [asAddr] using hx
      · exact hW.elim
    · exact hW.elim
theorem ress_run (h : Sim X M0 S0 w0 N M β σ a w) : ∀ (rs : List ResultVar) {K : List (D κ) → Prop}, resWs X σ rs K → ∃ (vs : List Value) (es : List (D κ)), (rs.mapM (resSem a.tmps)).run X.P w = .ok vs w ∧ vs.length = rs.length ∧ es.length = rs.length ∧ (∀ i e, es[i]? = some e → Rep X.V M w β e (vs.getD i undef)) ∧ K es
  | [], K, hW => ⟨[], [], by simp, rfl, rfl, fun i e h => by simp at h, hW⟩
  | r :: rs, K, hW => by
    obtain ⟨x, d, hx, hr, hK⟩ := res_run h hW
    obtain ⟨vs, es, h1, h2, h3, h4, h5⟩ := ress_run h rs hK
    refine ⟨x :: vs, d :: es, ?_, by simp [h2], by simp [h3], fun i e hi => ?_, h5⟩
    · simp [hx, h1]
    · match i, hi with
      | 0, hi => simp only [List.getElem?_cons_zero, Option.some.injEq] at hi; subst hi; exact hr
      | i + 1, hi => exact h4 i e (by simpa using hi)
theorem one_rep {vs : List Value} {es : List (D κ)} (hl : es.length = vs.length) (hr : ∀ i e, es[i]? = some e → Rep X.V M w β e (vs.getD i undef)) : Rep X.V M w β (oneD es) (if h : vs.toArray.size = 1 then vs.toArray[0] else .tuple vs.toArray) := by
  match es, vs, hl, hr with
  | [e], [v], _, hr => exact hr 0 e rfl
  | [], [], _, hr => exact .tup rfl (fun i e h => by simp at h)
  | e :: e' :: es, v :: v' :: vs, hl, hr =>
    have : ¬ ((v :: v' :: vs).toArray.size = 1) := by simp
    rw [dif_neg this]
    exact .tup (by simp at hl ⊢; omega) (fun i d hd => by simpa using hr i d hd)
theorem ress_val {fn : Func} {vs : List Value} (h : (fn.results.toList.mapM (resSem a.tmps)).run X.P w = .ok vs w) : (results fn a.tmps).run X.P w = .ok (if h : vs.toArray.size = 1 then vs.toArray[0] else .tuple vs.toArray) w := by
  have hm : (fn.results.mapM (resSem a.tmps)).run X.P w = .ok vs.toArray w := by
    have hall : fn.results = fn.results.toList.toArray := by simp
    rw [hall, List.mapM_toArray]
    simp [h]
  rw [results_eq]
  simp [hm]

theorem findB_one {H : List (Nat × Ob κ)} {l : Nat} {o : Ob κ} (hn : (names H).Nodup) (h : (l, o) ∈ H) : findB H l = some o := by
  obtain ⟨x, hx⟩ := findB_some (l := H) (i := l) (List.mem_map.2 ⟨_, h, rfl⟩)
  rw [hx, names_one hn (findB_mem hx) h]
def argsOk (W : List Nat) (ds : List (D κ)) (H : List (Nat × Ob κ)) : Bool :=
  ds.all (D.labB (elemB (names H))) && nodupB (names H) && (H.all fun p => p.2.labB (elemB (names H))) && (H.all fun p => !elemB W p.1)

theorem start_sim {M : Nat → Nat → Prop} {β : Bt} {w : World} {vs : Array Value} {W : List Nat} {ds : List (D κ)} {H : List (Nat × Ob κ)} {n : Nat} (hn : ds.length ≤ n) (hA : argsOk W ds H = true) (hG : X.G w) (hMG : ∀ b o, X.MG b o → M b o) (hM : ∀ b o, M b o → b < w.heap.size) (hl : vs.size = ds.length) (hr : ∀ i d, ds[i]? = some d → Rep X.V M w β d (vs.getD i undef)) (hp : Hp X M w β H) :
    ∃ β0 : Bt, (∀ l o, (l, o) ∈ H → β0 l = β l) ∧ Lts ⟨blocks β H, β0⟩ W ∧ Sim X M ⟨blocks β H, β0⟩ w n M β0 (start X ds H) { tmps := vs ++ Array.replicate (n - vs.size) undef, defers := [] } w := by
  unfold argsOk at hA
  simp only [Bool.and_eq_true] at hA
  obtain ⟨⟨⟨a1, a2⟩, a3⟩, a4⟩ := hA
  have a2 := nodupB_iff.1 a2
  let β0 : Bt := fun l => match findB H l with | some _ => β l | none => none
  have hβ : ∀ l o, (l, o) ∈ H → β0 l = β l := fun l o hl => by
    show (match findB H l with | some _ => β l | none => none) = β l
    rw [findB_one a2 hl]
  have hq : ∀ k, elemB (names H) k = true → β0 k = β k := fun k hk => by
    obtain ⟨p, hp, rfl⟩ := List.mem_map.1 (elemB_mem.1 hk)
    exact hβ _ _ hp
  have hob : ∀ l o z, (start X ds H).ob l = some (o, z) → (l, o) ∈ H ∧ z = false := by
    intro l o z hl
    simp only [start] at hl
    split at hl
    · rename_i o' hf
      injection hl with hl
      injection hl with e1 e2
      subst e1 e2
      exact ⟨findB_mem hf, rfl⟩
    · cases hl
  refine ⟨β0, hβ, fun l p hl => ?_, Kp.refl _ _ _, rfl, by simp; omega, fun _ _ h => h, fun _ _ h => .inl h, hM, fun i => ?_, ?_, ?_, ?_, ?_, fun g => (X.gok w hG g).mono hMG (fun _ _ _ => rfl), fun l p h => h⟩
  · have hl : β0 l = some p := hl
    cases e : findB H l with
    | none =>
      have : β0 l = none := by show (match findB H l with | some _ => β l | none => none) = none; rw [e]
      rw [this] at hl
      cases hl
    | some o => simpa using List.all_eq_true.1 a4 _ (findB_mem e)
  · show Rep X.V M w β0 (ds.getD i .opq) _
    by_cases hi : i < ds.length
    · have h1 := hr i ds[i] (List.getElem?_eq_getElem hi)
      have h2 : ds.getD i .opq = ds[i] := by simp [List.getD, List.getElem?_eq_getElem hi]
      rw [h2]
      have h3 : (vs ++ Array.replicate (n - vs.size) undef).getD i undef = vs.getD i undef := by
        have : i < vs.size := by omega
        simp [Array.getD, this, Array.getElem_append_left this]
        intro h4
        omega
      rw [h3]
      exact h1.labB hq (List.all_eq_true.1 a1 _ (List.getElem_mem hi))
    · have h2 : ds.getD i (.opq : D κ) = .opq := by simp [List.getD, List.getElem?_eq_none (by omega : ds.length ≤ i)]
      rw [h2]
      exact .opq
  · intro l o z hl
    obtain ⟨hm, rfl⟩ := hob l o z hl
    obtain ⟨hv, hat⟩ := hp.ob l o hm
    have hb := hβ l o hm
    have hlb := List.all_eq_true.1 a3 _ hm
    cases o with
    | cells cs =>
      obtain ⟨b, c, arr, T, g1, g2, g3, g4⟩ := hat
      exact ⟨b, c, arr, T, hb.trans g1, g2, ⟨g3.n, g3.o, fun i d hd => (g3.r i d hd).lab1 hq (List.all_eq_true.1 hlb d (List.mem_of_getElem? hd))⟩, g4⟩
    | row e n f =>
      obtain ⟨hk, g⟩ := hat
      exact ⟨hk, g.imp (fun ⟨g1, g2⟩ => ⟨hb.trans g1, g2⟩) (fun ⟨b, c, arr, g1, g2⟩ => ⟨b, c, arr, hb.trans g1, g2⟩)⟩
    | map t es =>
      obtain ⟨e0, hz, hk, b, c, arr, clk, g1, g2⟩ := hat
      exact ⟨e0, hz, hk, b, c, arr, clk, hb.trans g1, g2⟩
    | iter m n sn =>
      obtain ⟨hz, b, c, bm, cm, sa, g1, g2, g3, g4⟩ := hat
      exact ⟨hz, b, c, bm, cm, sa, hb.trans g1, g2, (hq m hlb).trans g3, g4⟩
    | dead => trivial
  · intro l o z b c hl hv hb
    obtain ⟨hm, rfl⟩ := hob l o z hl
    exact .inr ⟨l, o, c, hm, (hβ l o hm).symm.trans hb⟩
  · intro l l' o o' z z' b c c' hl hv hl' hv' hb hb'
    obtain ⟨hm, rfl⟩ := hob l o z hl
    obtain ⟨hm', rfl⟩ := hob l' o' z' hl'
    exact hp.ap l o l' o' b c c' hm hm' ((hβ l o hm).symm.trans hb) ((hβ l' o' hm').symm.trans hb')
  · intro l hl
    simp only [start] at hl
    show (match findB H l with | some _ => β l | none => none) = none
    split at hl
    · cases hl
    · rfl

theorem head_at {W : List Nat} {L : List (Nat × D κ)} {O : List (Nat × Ob κ)} {R : Rws κ} (h : HeadOk X σ W L O [] R σ') {l : Nat} {o : Ob κ} (hm : (l, o) ∈ O ++ rowsH R) : (σ.head W L O [] R).ob l = some (o, false) ∧ o.live = true := by
  obtain ⟨ρ, ⟨_, n2, _, _, _, _, _⟩, _, ho, _, _⟩ := h
  have n2 := nodupB_iff.1 n2
  rw [List.nil_append] at n2
  obtain ⟨nR, nO, nX⟩ := List.nodup_append.1 n2
  simp only [St.head]
  rcases List.mem_append.1 hm with hm | hm
  · have hR : findB R l = none := by
      cases e : findB R l with
      | none => rfl
      | some x => exact absurd rfl (nX l (List.mem_map.2 ⟨_, findB_mem e, rfl⟩) l (List.mem_map.2 ⟨_, hm, rfl⟩))
    rw [hR, findB_one (H := O) nO hm]
    refine ⟨rfl, ?_⟩
    rcases obsOk_mem ho hm with ⟨cs, es, _, rfl, _⟩ | ⟨e, n, f, f', _, rfl, _⟩ | ⟨t, es, es', _, rfl, _⟩ | ⟨m, n, s, _, rfl, _⟩ <;> rfl
  · obtain ⟨r, hr, e⟩ := List.mem_map.1 hm
    injection e with e1 e2
    subst e1 e2
    have hf : findB R r.1 = some r.2 := by
      obtain ⟨x, hx⟩ := findB_some (l := R) (i := r.1) (List.mem_map.2 ⟨_, hr, rfl⟩)
      rw [hx]
      have key : ∀ {R : Rws κ}, (R.map (·.1)).Nodup → r ∈ R → (r.1, x) ∈ R → x = r.2 := by
        intro R
        induction R with
        | nil => intro _ h; cases h
        | cons p q ih =>
          intro hn h1 h2
          simp only [List.map_cons, List.nodup_cons] at hn
          rcases List.mem_cons.1 h1 with e1 | h1 <;> rcases List.mem_cons.1 h2 with e2 | h2
          · rw [← e1] at e2; rw [← e2]
          · exact absurd (List.mem_map.2 ⟨_, h2, by rw [← e1]⟩) hn.1
          · exact absurd (List.mem_map.2 ⟨_, h1, by rw [← e2]⟩) hn.1
          · exact ih hn.2 h1 h2
      rw [key nR hr (findB_mem hx)]
    rw [hf]
    exact ⟨rfl, rfl⟩

theorem SpH.core {f : FuncId} {fn : Func} {c : Code} {ds : List (D κ)} {H : List (Nat × Ob κ)} {d : D κ} {H' : List (Nat × Ob κ)} {K : St κ → Prop} (hf : X.P.funcs[f]? = some fn) (hname : (fn.name == "runtime.NumGoroutine") = false) (hb : fn.body = some c) (hn : Nat.ble ds.length fn.ntmps = true) (hok : codeOk fn.ntmps c = true) (hA : argsOk (writes c) ds H = true)
    (hK : ∀ {S0 : Ln} {M0 M : Nat → Nat → Prop} {w0 w : World} {β : Bt} {a : Act} {σ : St κ}, Lts S0 (writes c) → Sim X M0 S0 w0 fn.ntmps M β σ a w → K σ → Fr (writes c) (start X ds H) σ → ∃ x M' β', (results fn a.tmps).run X.P w = .ok x w ∧ (∀ l p, S0.pl l = some p → β' l = some p) ∧ (∀ b o, M b o → M' b o) ∧ (∀ b o, M' b o → M0 b o ∨ w0.heap.size ≤ b ∨ S0 b) ∧ (∀ b o, M' b o → b < w.heap.size) ∧ Rep X.V M' w β' d x ∧ Hp X M' w β' H' ∧ ∀ b, blocks β' H' b → w0.heap.size ≤ b ∨ S0 b)
    (hW : codeW X c (exitW K) (start X ds H)) : SpH X f ds H d H' := by
  refine ⟨⟨fn, c, hf, hname, hb⟩, fun M β w vs hG hMG hM hl hr hp hnb => ?_⟩
  have hn := Nat.le_of_ble_eq_true hn
  refine calls_of_wp hf hb ?_
  obtain ⟨β0, hβ0, hL, hs⟩ := start_sim (n := fn.ntmps) hn hA hG hMG hM hl hr hp
  refine wp_mono (code_sound hG hMG hnb c _ hok hL M _ _ _ w hs hW) (fun e a w' hp' => ?_)
  obtain ⟨M', β', σ', h1, h2, h3⟩ := hp'
  have fin : K σ' → a.defers = [] ∧ ∃ v, (results fn a.tmps).run X.P w' = .ok v w' ∧ ∃ x M' β', (Ending.returned v) = .returned x ∧ Kp w.heap.size (blocks β H) w w' ∧ (∀ l o, (l, o) ∈ H → β' l = β l) ∧ (∀ b o, M b o → M' b o) ∧ (∀ b o, M' b o → M b o ∨ blocks β H b ∨ (w.heap.size ≤ b ∧ b < w'.heap.size)) ∧ Rep X.V M' w' β' d x ∧ Hp X M' w' β' H' ∧ ∀ b, blocks β' H' b → blocks β H b ∨ w.heap.size ≤ b := by
    intro hret
    obtain ⟨x, M2, β2, hx, hle, hM2, hN2, hlt2, hrx, hH, hbl⟩ := hK hL h1 hret h3
    refine ⟨h1.df, x, hx, x, M2, β2, rfl, h1.kp, fun l o hm => ?_, fun b o hm => hM2 b o (h1.m0 b o hm), fun b o hm => ?_, hrx, hH, fun b hb => ?_⟩
    · obtain ⟨hv, hat⟩ := hp.ob l o hm
      obtain ⟨p, hbp⟩ : ∃ p, β l = some p := by
        cases o with
        | cells cs => obtain ⟨b, c, arr, T, g1, _⟩ := hat; exact ⟨_, g1⟩
        | row e n f =>
          obtain ⟨_, g⟩ := hat
          rcases g with ⟨g1, _⟩ | ⟨b, c, arr, g1, _⟩
          · exact ⟨_, g1⟩
          · exact ⟨_, g1⟩
        | map t es => obtain ⟨_, _, _, b, c, arr, clk, g1, _⟩ := hat; exact ⟨_, g1⟩
        | iter m n sn => obtain ⟨_, b, c, bm, cm, sa, g1, _⟩ := hat; exact ⟨_, g1⟩
        | dead => cases hv
      rw [hbp]
      exact hle l p ((hβ0 l o hm).trans hbp)
    · rcases hN2 b o hm with h4 | h4 | h4
      · exact .inl h4
      · exact .inr (.inr ⟨h4, hlt2 b o hm⟩)
      · exact .inr (.inl h4)
    · exact (hbl b hb).symm
  cases e with
  | normal => exact fin h2
  | ret => exact fin h2
  | exit id => exact h2.elim
  | goto l => exact h2.elim
  | panic c => exact h2.elim
  | outgrown => exact h2.elim

theorem Sp.body {f : FuncId} {fn : Func} {c : Code} {ds : List (D κ)} {d : D κ} (hf : X.P.funcs[f]? = some fn) (hname : (fn.name == "runtime.NumGoroutine") = false) (hb : fn.body = some c) (hn : Nat.ble ds.length fn.ntmps = true) (hok : codeOk fn.ntmps c = true) (hA : argsOk (writes c) ds [] = true)
    (hW : codeW X c (exitW (retW X fn d)) (start X ds [])) : Sp X f ds d := by
  refine .inl (SpH.core hf hname hb hn hok hA (fun {S0 M0 M w0 w β a σ} hL h hret _ => ?_) hW)
  obtain ⟨vs, es, h1, h2, h3, h4, h5⟩ := ress_run h _ hret
  obtain ⟨us, es', M', hle, fr⟩ := frzA_run es (fun i => vs.getD i undef) _ M σ h (FIn.of h) h4 h5
  refine ⟨_, M', β, ress_val h1, h.le, fr.mo, fr.si.mN, fr.si.mlt, hle _ _ _ _ (one_rep (by rw [fr.ln, h3, h2]) fr.re), ⟨fun l o hm => (by cases hm), fun l o l' o' b c c' hm => (by cases hm)⟩, fun b hb => ?_⟩
  obtain ⟨l, o, c, hm, _⟩ := hb
  cases hm
theorem SpH.body {f : FuncId} {fn : Func} {c : Code} {ds : List (D κ)} {H : List (Nat × Ob κ)} {d : D κ} {H' : List (Nat × Ob κ)} (hf : X.P.funcs[f]? = some fn) (hname : (fn.name == "runtime.NumGoroutine") = false) (hb : fn.body = some c) (hn : Nat.ble ds.length fn.ntmps = true) (hok : codeOk fn.ntmps c = true) (hA : argsOk (writes c) ds H = true)
    (hW : codeW X c (exitW (retH X (start X ds H) (writes c) fn d H')) (start X ds H)) : SpH X f ds H d H' := by
  refine SpH.core hf hname hb hn hok hA (fun {S0 M0 M w0 w β a σ} hL h hret hfr => ?_) hW
  obtain ⟨O, R, rfl, hh, hret⟩ := hret
  obtain ⟨β2, hs⟩ := h.head hfr.f hfr.o hfr.g hL hh
  obtain ⟨vs, es, h1, h2, h3, h4, h5⟩ := ress_run hs _ hret
  refine ⟨_, M, β2, ress_val h1, hs.le, fun _ _ h => h, hs.mN, hs.mlt, h5 ▸ one_rep (by rw [h3, h2]) h4, ⟨fun l o hm => ?_, fun l o l' o' b c c' hm hm' hb hb' => ?_⟩, fun b ⟨l, o, c, hm, hb⟩ => ?_⟩
  · obtain ⟨e, hv⟩ := head_at hh hm
    exact ⟨hv, hs.ob l o false e⟩
  · obtain ⟨e, hv⟩ := head_at hh hm
    obtain ⟨e', hv'⟩ := head_at hh hm'
    exact hs.oi l l' o o' _ _ b c c' e hv e' hv' hb hb'
  · obtain ⟨e, hv⟩ := head_at hh hm
    exact hs.oB l o _ b c e hv hb

/-! ## One datum for another -/
def cellsOk (X : Cx κ) : List (D κ) → List (D κ) → Prop
  | [], [] => True
  | d :: r, e :: s => Dle X d e ∧ cellsOk X r s
  | _, _ => False
theorem cellsOk_spec : ∀ {ds es : List (D κ)}, cellsOk X ds es → ds.length = es.length ∧ ∀ (i : Nat) (e : D κ), es[i]? = some e → ∃ d : D κ, ds[i]? = some d ∧ Dle X d e
  | [], [], _ => ⟨rfl, fun i d h => by simp at h⟩
  | d :: r, e :: s, h => by
    obtain ⟨h1, h2⟩ := cellsOk_spec h.2
    refine ⟨by simp [h1], fun i d' hd => ?_⟩
    match i, hd with
    | 0, hd =>
      simp only [List.getElem?_cons_zero, Option.some.injEq] at hd
      subst hd
      exact ⟨d, rfl, h.1⟩
    | i + 1, hd => exact h2 i d' (by simpa using hd)
  | [], _ :: _, h => h.elim
  | _ :: _, [], h => h.elim
theorem Dle.v {x y : Value} (h : x = y) : Dle X (.v x) (.v y) := h ▸ Dle.refl X _
theorem Dle.i {k : IntKind} {a b : Int} (h : a = b) : Dle X (.v (.int k a)) (.v (.int k b)) := h ▸ Dle.refl X _
theorem Dle.bo {a b : Bool} (h : a = b) : Dle X (.v (.bool a)) (.v (.bool b)) := h ▸ Dle.refl X _
theorem Dle.s {a b : ByteArray} (h : a = b) : Dle X (.v (.string a)) (.v (.string b)) := h ▸ Dle.refl X _
theorem Dle.sl {sz b n n' : Nat} {f g : Nat → Nat → D κ} (hn : n = n') (h : ∀ i j, i < n → j < sz → Dle X (f i j) (g i j)) : Dle X (.sl sz b n f) (.sl sz b n' g) := by
  subst hn
  intro M w β x hr
  cases hr with
  | nil hc hA => exact .nil hc hA
  | sl u hc hm hb hu hf => exact .sl u hc hm hb hu (fun i j hi hj => h i j hi hj _ _ _ _ (hf i j hi hj))
theorem Dle.nil {sz b : Nat} {f : Nat → Nat → D κ} : Dle X (.v (.slice none 0 0)) (.sl sz b 0 f) := by
  intro M w β x hr
  obtain ⟨rfl, _⟩ := hr.val
  exact .nil (by decide) (fun _ => rfl)
theorem Dle.tup {ds es : List (D κ)} (h : cellsOk X ds es) : Dle X (.tup ds) (.tup es) := by
  intro M w β x hr
  obtain ⟨h1, h2⟩ := cellsOk_spec h
  cases hr with
  | tup hn hd =>
    refine .tup (by omega) (fun i e he => ?_)
    obtain ⟨d, hd1, hle⟩ := h2 i e he
    exact hle _ _ _ _ (hd i d hd1)
theorem Dle.agg {ds es : List (D κ)} (h : cellsOk X ds es) : Dle X (.agg ds) (.agg es) := by
  intro M w β x hr
  obtain ⟨h1, h2⟩ := cellsOk_spec h
  cases hr with
  | agg hn ho hd =>
    refine .agg (by omega) (fun i hi => ho i (by omega)) (fun i e he => ?_)
    obtain ⟨d, hd1, hle⟩ := h2 i e he
    exact hle _ _ _ _ (hd i d hd1)
theorem Dle.ref {n : Nat} {f g : Nat → D κ} (h : ∀ j, j < n → Dle X (f j) (g j)) : Dle X (.ref n f) (.ref n g) := by
  intro M w β x hr
  cases hr with
  | ref u hu hf => exact .ref u hu (fun j hj => h j hj _ _ _ _ (hf j hj))
theorem Dle.trans {d e f : D κ} (h : Dle X d e) (g : Dle X e f) : Dle X d f := fun M w β x hr => g M w β x (h M w β x hr)
theorem Dle.rc {k : κ} {d : D κ} (h : Dle X d (.sl (X.V k).1 (X.V k).2.1 (X.V k).2.2.1 (X.V k).2.2.2)) : Dle X d (.rc k) := fun M w β x hr => .rc (h M w β x hr)
theorem Dle.opq {d : D κ} : Dle X d .opq := fun _ _ _ _ _ => .opq
theorem Dle.ap {d e : D κ} (h : Dle X d e) {M : Nat → Nat → Prop} {w : World} {β : Bt} {x : Value} (hr : Rep X.V M w β d x) : Rep X.V M w β e x := h M w β x hr
theorem SpH.le {f : FuncId} {ds : List (D κ)} {H H' : List (Nat × Ob κ)} {d e : D κ} (h : SpH X f ds H d H') (hle : Dle X d e) : SpH X f ds H e H' :=
  ⟨h.1, fun M β w vs hG hMG hM hl hr hp hb => (h.2 M β w vs hG hMG hM hl hr hp hb).mono fun e' w' ⟨x, M', β', hx, h1, h2, h3, h4, hr', h5⟩ => ⟨x, M', β', hx, h1, h2, h3, h4, hle _ _ _ _ hr', h5⟩⟩
theorem Sp.le {f : FuncId} {ds : List (D κ)} {d e : D κ} (h : Sp X f ds d) (hle : Dle X d e) : Sp X f ds e :=
  h.imp (fun h => SpH.le h hle) (fun h M β w vs hn hr => (h M β w vs hn hr).imp fun x hx => ⟨hx.1, hle _ _ _ _ hx.2⟩)
theorem SpH.args {f : FuncId} {ds es : List (D κ)} {H H' : List (Nat × Ob κ)} {d : D κ} (h : SpH X f es H d H') (hle : cellsOk X ds es) : SpH X f ds H d H' := by
  obtain ⟨h1, h2⟩ := cellsOk_spec hle
  refine ⟨h.1, fun M β w vs hG hMG hM hl hr hp hb => h.2 M β w vs hG hMG hM (by omega) (fun i e he => ?_) hp hb⟩
  obtain ⟨d', hd1, hle'⟩ := h2 i e he
  exact hle' _ _ _ _ (hr i d' hd1)
theorem Sp.args {f : FuncId} {ds es : List (D κ)} {d : D κ} (h : Sp X f es d) (hle : cellsOk X ds es) : Sp X f ds d :=
  h.imp (fun h => SpH.args h hle) (fun h M β w vs hn hr => by
    obtain ⟨h1, h2⟩ := cellsOk_spec hle
    refine h M β w vs (by omega) (fun i e he => ?_)
    obtain ⟨d', hd1, hle'⟩ := h2 i e he
    exact hle' _ _ _ _ (hr i d' hd1))
end
end Go.Proofs.YteojgenhgjhohaaDoor
