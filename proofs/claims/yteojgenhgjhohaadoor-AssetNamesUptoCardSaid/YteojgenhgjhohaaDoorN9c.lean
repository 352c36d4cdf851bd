/-
  Freezing, calls; every operation, over any program: it does what 'opW' says.
-/
import Derived.Test.YteojgenhgjhohaaDoorN9m
namespace Go.Proofs.YteojgenhgjhohaaDoor
open Go.RowKit
set_option linter.unusedVariables false
set_option linter.unusedSimpArgs false

section
variable {κ : Type} {X : Cx κ} {M0 M : Nat → Nat → Prop} {S0 : Ln} {w0 w : World} {N : Nat} {β β' : Bt} {σ σ1 : St κ} {a : Act} {Q : Exit → Act → World → Prop}

theorem Sim.freezeC (h : Sim X M0 S0 w0 N M β σ a w) {l b c : Nat} {cs0 cs : List (D κ)} {z : Bool} {arr : Array Value} {T : TypeId} (hl : σ.ob l = some (.cells cs0, z)) (hb : β l = some (some (b, c))) (hA : w.heap[b]? = some (.cells arr T (0, 0))) (hR : RepC X.V M w β cs arr) :
    ∃ M', (∀ b o, M b o → M' b o) ∧ (∀ q, q < cs.length → M' b q) ∧ Sim X M0 S0 w0 N M' β (σ.setOb l (.cells cs) true) a w := by
  let M' : Nat → Nat → Prop := fun k q => M k q ∨ (k = b ∧ q < cs.length)
  have hM : ∀ b o, M b o → M' b o := fun b o hm => .inl hm
  have hN : ∀ k q, M' k q → M k q ∨ k = b := fun k q hm => hm.imp id (fun h => h.1)
  refine ⟨M', hM, fun q hq => .inr ⟨rfl, hq⟩, ⟨h.kp, h.df, h.sz, fun b o hm => .inl (h.m0 b o hm), ?_, ?_, fun i => (h.fr i).mono hM (fun _ _ _ => rfl), ?_, ?_, ?_, ?_, fun g => (h.gv g).mono hM (fun _ _ _ => rfl), h.le⟩⟩
  · intro k q hm
    rcases hN k q hm with hm | rfl
    · exact h.mN k q hm
    · exact .inr (h.oB l _ z _ c hl rfl hb)
  · intro k q hm
    rcases hN k q hm with hm | rfl
    · exact h.mlt k q hm
    · exact heap_lt hA
  · intro k o z' hk'
    rcases St.setOb_ob hk' with ⟨e0, e'⟩ | ⟨hne, hk'⟩
    · injection e' with e1 e2
      subst e0 e1 e2
      exact ⟨b, c, arr, T, hb, hA, hR.mono hM (fun _ _ _ => rfl), fun q hq => .inr ⟨rfl, hq⟩⟩
    · refine (h.ob k o z' hk').mono hM (fun _ _ _ => rfl) (fun _ _ h => h) (fun hv b' c' hb' hlt => ⟨rfl, fun q hq => ?_⟩)
      rcases hN b' q hq with hm | e
      · exact hm
      · subst e
        exact absurd (h.oi k l _ _ _ _ b' c' c hk' hv hl rfl hb' hb) hne
  · intro k o' z' b' c' hk' hv hb'
    rcases St.setOb_ob hk' with ⟨e0, _⟩ | ⟨_, hk'⟩
    · subst e0; exact h.oB k _ z b' c' hl rfl hb'
    · exact h.oB k o' z' b' c' hk' hv hb'
  · intro k k' o1 o2 z1 z2 b' c' c'' hk1 hv1 hk2 hv2 hb1 hb2
    rcases St.setOb_ob hk1 with ⟨e1, _⟩ | ⟨_, hk3⟩ <;> rcases St.setOb_ob hk2 with ⟨e2, _⟩ | ⟨_, hk4⟩
    · exact e1.trans e2.symm
    · subst e1; exact h.oi _ _ _ _ _ _ b' c' c'' hl rfl hk4 hv2 hb1 hb2
    · subst e2; exact h.oi _ _ _ _ _ _ b' c' c'' hk3 hv1 hl rfl hb1 hb2
    · exact h.oi _ _ _ _ _ _ b' c' c'' hk3 hv1 hk4 hv2 hb1 hb2
  · intro k hk'
    by_cases e0 : k = l
    · subst e0; simp [St.setOb, beq_yes] at hk'
    · simp only [St.setOb, beq_no e0, cond_false] at hk'
      exact h.un k hk'

structure FIn (X : Cx κ) (M : Nat → Nat → Prop) (w : World) (β : Bt) (ob ob' : Obs κ) : Prop where
  rows : ∀ l e m f z, ob l = some (.row e m f, z) → ∃ z', ob' l = some (.row e m f, z')
  cells : ∀ l cs z, ob l = some (.cells cs, z) → (∃ cs' z', ob' l = some (.cells cs', z')) ∧ ∃ b c arr T, β l = some (some (b, c)) ∧ w.heap[b]? = some (.cells arr T (0, 0)) ∧ RepC X.V M w β cs arr
theorem FIn.mono {M' : Nat → Nat → Prop} {ob ob' : Obs κ} (h : FIn X M w β ob ob') (hM : ∀ b o, M b o → M' b o) : FIn X M' w β ob ob' :=
  ⟨h.rows, fun l cs z hl => ⟨(h.cells l cs z hl).1, (h.cells l cs z hl).2.imp fun b ⟨c, arr, T, h1, h2, h3⟩ => ⟨c, arr, T, h1, h2, h3.mono hM (fun _ _ _ => rfl)⟩⟩⟩
theorem FIn.of (h : Sim X M0 S0 w0 N M β σ a w) : FIn X M w β σ.ob σ.ob :=
  ⟨fun l e m f z h => ⟨z, h⟩, fun l cs z hl => ⟨⟨cs, z, hl⟩, by
    obtain ⟨b, c, arr, T, h1, h2, h3, _⟩ := h.ob l _ z hl
    exact ⟨b, c, arr, T, h1, h2, h3⟩⟩⟩
theorem ups_app (us us' : Ups κ) : ∀ σ : St κ, σ.ups (us ++ us') = (σ.ups us).ups us' := by
  induction us with
  | nil => intro σ; rfl
  | cons p r ih => intro σ; exact ih _
theorem frzR_run {ob : Obs κ} {d : D κ} {x : Value} {K : Ups κ → D κ → Prop} (h : Sim X M0 S0 w0 N M β σ1 a w) (hF : FIn X M w β ob σ1.ob) (hx : Rep X.V M w β d x) (hW : frzRW X ob d K) :
    ∃ us d' M', K us d' ∧ (∀ b o, M b o → M' b o) ∧ Sim X M0 S0 w0 N M' β (σ1.ups us) a w ∧ FIn X M' w β ob (σ1.ups us).ob ∧ Rep X.V M' w β d' x := by
  unfold frzRW at hW
  split at hW
  · rename_i l s o n
    split at hW
    · rename_i e m f z hl
      obtain ⟨hs, hom, hK⟩ := condW_no hW
      have hs := Nat.eq_of_beq_eq_true hs
      subst hs
      obtain ⟨z', hl'⟩ := hF.rows l e m f z hl
      obtain ⟨M', hM, h1⟩ := h.freeze hl'
      have hset : (σ1.setOb l (.row e m f) true).ob l = some (.row e m f, true) := by simp only [St.setOb, beq_yes, cond_true]
      refine ⟨_, _, M', hK, hM, h1, ⟨fun k e' m' f' z2 hk => ?_, fun k cs z2 hk => ⟨?_, ((hF.mono hM).cells k cs z2 hk).2⟩⟩, ?_⟩
      · by_cases ek : k = l
        · subst ek
          rw [hl] at hk
          injection hk with hk
          injection hk with hk _
          injection hk with e1 e2 e3
          subst e1 e2 e3
          exact ⟨true, hset⟩
        · obtain ⟨z3, h3⟩ := hF.rows k e' m' f' z2 hk
          exact ⟨z3, by simp only [St.ups, St.setOb, beq_no ek, cond_false]; exact h3⟩
      · have ek : k ≠ l := fun e => by rw [e, hl] at hk; cases hk
        obtain ⟨cs', z3, h3⟩ := (hF.cells k cs z2 hk).1
        exact ⟨cs', z3, by simp only [St.ups, St.setOb, beq_no ek, cond_false]; exact h3⟩
      · rcases Nat.eq_zero_or_pos n with h0 | h0
        · subst h0
          obtain ⟨A, c, rfl, _, hcm⟩ := hx.ownSlice
          refine .nil hcm (fun hA => ?_)
          subst hA
          generalize hy : Value.slice none 0 c = y at hx
          cases hx with
          | own _ _ _ => cases hy
          | ownE ho hc hA' =>
            injection hy with hA _ hcc
            subst hA hcc
            exact hA' rfl
          | ownNil _ => injection hy
        · cases hx with
          | @own _ _ _ _ _ b c hb hn hcm =>
            obtain ⟨_, arr, hA, hsz, hmc, _, hby, hR⟩ := row_at h1 hset hb
            obtain ⟨_, hob⟩ := h1.ob l _ true hset
            have hvis : ∀ q, q < m * (X.T e).size → M' b q := by
              rcases hob with ⟨h2, _⟩ | ⟨b', c', arr', h2, _, _, _, _, _, _, h3⟩
              · rw [hb] at h2; cases h2
              · rw [hb] at h2
                injection h2 with h2
                injection h2 with h2
                injection h2 with h2 _
                subst h2
                exact h3
            have hle : n * (X.T e).bytes ≤ m * (X.T e).bytes := Nat.mul_le_mul_right _ (by omega)
            refine .sl (fun i j => arr.getD ((i + o) * (X.T e).size + j) undef) (by omega) (by omega) (by omega) (fun i j hi hj => ?_) (fun i j hi hj => (hR (i + o) j (by omega) hj).2)
            have e1 : o * (X.T e).size + i * (X.T e).size + j = (i + o) * (X.T e).size + j := by rw [Nat.add_mul]; omega
            have h4 : (i + o + 1) * (X.T e).size ≤ m * (X.T e).size := Nat.mul_le_mul_right _ (by omega)
            have h5 : m * (X.T e).size ≤ c * (X.T e).size := Nat.mul_le_mul_right _ (by omega)
            rw [Nat.succ_mul] at h4
            rw [e1]
            refine ⟨hvis _ (by omega), ?_, (hR (i + o) j (by omega) hj).1⟩
            rw [cell_of_row _ _ _ _ _ _ hA]
            have h6 : (i + o) * (X.T e).size + j < arr.size := by omega
            simp [Array.getD, h6]
          | ownE ho hc _ => omega
          | ownNil hb => omega
    · exact hW.elim
  · exact ⟨[], d, M, hW, fun _ _ h => h, h, hF, hx⟩

structure Frzd (X : Cx κ) (M0 : Nat → Nat → Prop) (S0 : Ln) (w0 : World) (N : Nat) (M : Nat → Nat → Prop) (β : Bt) (ob : Obs κ) (σ1 : St κ) (a : Act) (w : World) (us : Ups κ) (n : Nat) (vs : Nat → Value) (ds' : List (D κ)) (M' : Nat → Nat → Prop) : Prop where
  mo : ∀ b o, M b o → M' b o
  si : Sim X M0 S0 w0 N M' β (σ1.ups us) a w
  ro : FIn X M' w β ob (σ1.ups us).ob
  ln : ds'.length = n
  re : ∀ i d, ds'[i]? = some d → Rep X.V M' w β d (vs i)
theorem frzRL_run {ob : Obs κ} : ∀ (ds : List (D κ)) (vs : Nat → Value) (K : Ups κ → List (D κ) → Prop) (M : Nat → Nat → Prop) (σ1 : St κ), Sim X M0 S0 w0 N M β σ1 a w → FIn X M w β ob σ1.ob → (∀ i d, ds[i]? = some d → Rep X.V M w β d (vs i)) → frzRL X ob ds K →
    ∃ us ds' M', K us ds' ∧ Frzd X M0 S0 w0 N M β ob σ1 a w us ds.length vs ds' M'
  | [], vs, K, M, σ1, h, hF, hx, hW => ⟨[], [], M, hW, fun _ _ h => h, h, hF, rfl, hx⟩
  | d :: r, vs, K, M, σ1, h, hF, hx, hW => by
    obtain ⟨us, d', M', hW', hM, h1, hF1, hr⟩ := frzR_run h hF (hx 0 d rfl) hW
    obtain ⟨us', r', M'', hK, f2⟩ := frzRL_run r (fun i => vs (i + 1)) _ M' (σ1.ups us) h1 hF1 (fun i e he => (hx (i + 1) e (by simpa using he)).mono hM (fun _ _ _ => rfl)) hW'
    refine ⟨us ++ us', d' :: r', M'', hK, fun b o hm => f2.mo b o (hM b o hm), by rw [ups_app]; exact f2.si, by rw [ups_app]; exact f2.ro, by simp [f2.ln], fun i e he => ?_⟩
    match i, he with
    | 0, he =>
      simp only [List.getElem?_cons_zero, Option.some.injEq] at he
      subst he
      exact hr.mono f2.mo (fun _ _ _ => rfl)
    | i + 1, he => exact f2.re i e (by simpa using he)
theorem frz0_run {ob : Obs κ} {d : D κ} {x : Value} {K : Ups κ → D κ → Prop} (h : Sim X M0 S0 w0 N M β σ1 a w) (hF : FIn X M w β ob σ1.ob) (hx : Rep X.V M w β d x) (hW : frz0W X ob d K) :
    ∃ us d' M', K us d' ∧ (∀ b o, M b o → M' b o) ∧ Sim X M0 S0 w0 N M' β (σ1.ups us) a w ∧ FIn X M' w β ob (σ1.ups us).ob ∧ Rep X.V M' w β d' x := by
  unfold frz0W at hW
  split at hW
  · rename_i l o
    split at hW
    · rename_i cs z hl
      obtain ⟨_, b, c, arr, T, hb, hA, hR⟩ := hF.cells l cs z hl
      obtain ⟨us, cs', M', hW, f⟩ := frzRL_run cs (fun i => arr.getD i undef) _ M σ1 h hF hR.r hW
      obtain ⟨hc, hK⟩ := condW_no hW
      simp only [fN_eq] at hK
      obtain ⟨hz, hle⟩ := (Bool.and_eq_true _ _ ▸ hc : _ ∧ _)
      have hle := Nat.le_of_ble_eq_true hle
      have hR' : RepC X.V M' w β cs' arr := ⟨by rw [f.ln]; exact hR.n, fun i hi => hR.o i (by rw [← f.ln]; exact hi), f.re⟩
      obtain ⟨cs1, z1, hl1⟩ := (f.ro.cells l cs z hl).1
      obtain ⟨M2, hM2, hvis, h2⟩ := f.si.freezeC hl1 hb hA hR'
      have hup : σ1.ups (us ++ [(l, .cells cs', true)]) = (σ1.ups us).setOb l (.cells cs') true := by rw [ups_app]; rfl
      have hset : ((σ1.ups us).setOb l (.cells cs') true).ob l = some (.cells cs', true) := by simp only [St.setOb, beq_yes, cond_true]
      refine ⟨_, _, M2, hK, fun b o hm => hM2 b o (f.mo b o hm), by rw [hup]; exact h2, ?_, ?_⟩
      · rw [hup]
        refine ⟨fun k e' m' f' z2 hk => ?_, fun k cs2 z2 hk => ⟨?_, ((f.ro.mono hM2).cells k cs2 z2 hk).2⟩⟩
        · have ek : k ≠ l := fun e => by rw [e, hl] at hk; cases hk
          obtain ⟨z3, h3⟩ := f.ro.rows k e' m' f' z2 hk
          exact ⟨z3, by simp only [St.setOb, beq_no ek, cond_false]; exact h3⟩
        · by_cases ek : k = l
          · subst ek; exact ⟨_, _, hset⟩
          · obtain ⟨cs3, z3, h3⟩ := (f.ro.cells k cs2 z2 hk).1
            exact ⟨cs3, z3, by simp only [St.setOb, beq_no ek, cond_false]; exact h3⟩
      · cases hx with
        | ptr hb' =>
          rw [hb] at hb'
          injection hb' with hb'
          injection hb' with hb'
          injection hb' with hb' _
          subst hb'
          refine .ref (fun j => arr.getD (o + j) undef) (fun j hj => ⟨hvis _ (by omega), ?_, hR'.o _ (by omega)⟩) (fun j hj => ?_)
          · rw [cell_of_row _ _ _ _ _ _ hA]
            have : o + j < arr.size := by have := hR'.n; omega
            simp [Array.getD, this]
          · have hj' : o + j < cs'.length := by omega
            have h3 := hR'.r (o + j) _ (List.getElem?_eq_getElem hj')
            have e : cs'.getD (o + j) .opq = cs'[o + j] := by simp [List.getD, List.getElem?_eq_getElem hj']
            rw [e]
            exact (h3.mono hM2 (fun _ _ _ => rfl)).frz0 (List.all_eq_true.1 hz _ (List.getElem_mem hj'))
    · exact hW.elim
  · exact frzR_run h hF hx hW
theorem frzL_run {ob : Obs κ} : ∀ (ds : List (D κ)) (vs : Nat → Value) (K : Ups κ → List (D κ) → Prop) (M : Nat → Nat → Prop) (σ1 : St κ), Sim X M0 S0 w0 N M β σ1 a w → FIn X M w β ob σ1.ob → (∀ i d, ds[i]? = some d → Rep X.V M w β d (vs i)) → frzLW X ob ds K →
    ∃ us ds' M', K us ds' ∧ Frzd X M0 S0 w0 N M β ob σ1 a w us ds.length vs ds' M'
  | [], vs, K, M, σ1, h, hF, hx, hW => ⟨[], [], M, hW, fun _ _ h => h, h, hF, rfl, hx⟩
  | d :: r, vs, K, M, σ1, h, hF, hx, hW => by
    obtain ⟨us, d', M', hW', hM, h1, hF1, hr⟩ := frz0_run h hF (hx 0 d rfl) hW
    obtain ⟨us', r', M'', hK, f2⟩ := frzL_run r (fun i => vs (i + 1)) _ M' (σ1.ups us) h1 hF1 (fun i e he => (hx (i + 1) e (by simpa using he)).mono hM (fun _ _ _ => rfl)) hW'
    refine ⟨us ++ us', d' :: r', M'', hK, fun b o hm => f2.mo b o (hM b o hm), by rw [ups_app]; exact f2.si, by rw [ups_app]; exact f2.ro, by simp [f2.ln], fun i e he => ?_⟩
    match i, he with
    | 0, he =>
      simp only [List.getElem?_cons_zero, Option.some.injEq] at he
      subst he
      exact hr.mono f2.mo (fun _ _ _ => rfl)
    | i + 1, he => exact f2.re i e (by simpa using he)
theorem frz_run {ob : Obs κ} {d : D κ} {x : Value} {K : Ups κ → D κ → Prop} (h : Sim X M0 S0 w0 N M β σ1 a w) (hF : FIn X M w β ob σ1.ob) (hx : Rep X.V M w β d x) (hW : frzW X ob d K) :
    ∃ us d' M', K us d' ∧ (∀ b o, M b o → M' b o) ∧ Sim X M0 S0 w0 N M' β (σ1.ups us) a w ∧ FIn X M' w β ob (σ1.ups us).ob ∧ Rep X.V M' w β d' x := by
  unfold frzW at hW
  split at hW
  · rename_i cs
    cases hx with
    | @agg _ _ vs hn h1 hd =>
      obtain ⟨us, ds', M', hK, f⟩ := frzL_run cs (fun i => vs.getD i undef) _ M σ1 h hF hd hW
      exact ⟨us, _, M', hK, f.mo, f.si, f.ro, .agg (by rw [f.ln]; exact hn) (fun i hi => h1 i (by rw [← f.ln]; exact hi)) f.re⟩
  · rename_i f0 cs
    cases hx with
    | @fn _ _ _ vs hn hd =>
      obtain ⟨us, ds', M', hK, f⟩ := frzL_run cs (fun i => vs.getD i undef) _ M σ1 h hF hd hW
      exact ⟨us, _, M', hK, f.mo, f.si, f.ro, .fn (by rw [f.ln]; exact hn) f.re⟩
  · exact frz0_run h hF hx hW
theorem frzA_run {ob : Obs κ} : ∀ (ds : List (D κ)) (vs : Nat → Value) (K : Ups κ → List (D κ) → Prop) (M : Nat → Nat → Prop) (σ1 : St κ), Sim X M0 S0 w0 N M β σ1 a w → FIn X M w β ob σ1.ob → (∀ i d, ds[i]? = some d → Rep X.V M w β d (vs i)) → frzAW X ob ds K →
    ∃ us ds' M', K us ds' ∧ Frzd X M0 S0 w0 N M β ob σ1 a w us ds.length vs ds' M'
  | [], vs, K, M, σ1, h, hF, hx, hW => ⟨[], [], M, hW, fun _ _ h => h, h, hF, rfl, hx⟩
  | d :: r, vs, K, M, σ1, h, hF, hx, hW => by
    obtain ⟨us, d', M', hW', hM, h1, hF1, hr⟩ := frz_run h hF (hx 0 d rfl) hW
    obtain ⟨us', r', M'', hK, f2⟩ := frzA_run r (fun i => vs (i + 1)) _ M' (σ1.ups us) h1 hF1 (fun i e he => (hx (i + 1) e (by simpa using he)).mono hM (fun _ _ _ => rfl)) hW'
    refine ⟨us ++ us', d' :: r', M'', hK, fun b o hm => f2.mo b o (hM b o hm), by rw [ups_app]; exact f2.si, by rw [ups_app]; exact f2.ro, by simp [f2.ln], fun i e he => ?_⟩
    match i, he with
    | 0, he =>
      simp only [List.getElem?_cons_zero, Option.some.injEq] at he
      subst he
      exact hr.mono f2.mo (fun _ _ _ => rfl)
    | i + 1, he => exact f2.re i e (by simpa using he)
theorem frzRW_mono {ob : Obs κ} {d : D κ} {K K' : Ups κ → D κ → Prop} (hm : ∀ us d, K us d → K' us d) (h : frzRW X ob d K) : frzRW X ob d K' := by
  unfold frzRW at h ⊢
  split at h
  · split at h
    · obtain ⟨hs, h1, h2⟩ := condW_no h
      rw [hs]
      exact ⟨h1, hm _ _ h2⟩
    · exact h.elim
  · exact hm _ _ h
theorem frzRL_mono {ob : Obs κ} : ∀ {ds : List (D κ)} {K K' : Ups κ → List (D κ) → Prop}, (∀ us d, K us d → K' us d) → frzRL X ob ds K → frzRL X ob ds K'
  | [], _, _, hm, h => hm _ _ h
  | d :: r, _, _, hm, h => frzRW_mono (fun us d h => frzRL_mono (fun us' r h => hm _ _ h) h) h
theorem frz0W_mono {ob : Obs κ} {d : D κ} {K K' : Ups κ → D κ → Prop} (hm : ∀ us d, K us d → K' us d) (h : frz0W X ob d K) : frz0W X ob d K' := by
  unfold frz0W at h ⊢
  split at h
  · split at h
    · refine frzRL_mono (fun us cs h => ?_) h
      obtain ⟨hs, h2⟩ := condW_no h
      rw [hs]
      simp only [fN_eq] at h2
      simp only [condW, fN_eq]
      exact hm _ _ h2
    · exact h.elim
  · exact frzRW_mono hm h
theorem frzLW_mono {ob : Obs κ} : ∀ {ds : List (D κ)} {K K' : Ups κ → List (D κ) → Prop}, (∀ us d, K us d → K' us d) → frzLW X ob ds K → frzLW X ob ds K'
  | [], _, _, hm, h => hm _ _ h
  | d :: r, _, _, hm, h => frz0W_mono (fun us d h => frzLW_mono (fun us' r h => hm _ _ h) h) h
theorem frzW_mono {ob : Obs κ} {d : D κ} {K K' : Ups κ → D κ → Prop} (hm : ∀ us d, K us d → K' us d) (h : frzW X ob d K) : frzW X ob d K' := by
  unfold frzW at h ⊢
  split at h
  · exact frzLW_mono (fun us cs h => hm _ _ h) h
  · exact frzLW_mono (fun us cs h => hm _ _ h) h
  · exact frz0W_mono hm h
theorem frzAW_mono {ob : Obs κ} : ∀ {ds : List (D κ)} {K K' : Ups κ → List (D κ) → Prop}, (∀ us d, K us d → K' us d) → frzAW X ob ds K → frzAW X ob ds K'
  | [], _, _, hm, h => hm _ _ h
  | d :: r, _, _, hm, h => frzW_mono (fun us d h => frzAW_mono (fun us' r h => hm _ _ h) h) h
theorem ups_ev (us : Ups κ) (x : Operand) : ∀ σ : St κ, (σ.ups us).ev x = σ.ev x := by
  induction us with
  | nil => intro σ; rfl
  | cons p r ih => intro σ; exact (ih _).trans (by cases x <;> rfl)
theorem ups_far {l : Nat} : ∀ (us : Ups κ) (σ : St κ), (us.all fun p => !(Nat.beq p.1 l)) = true → (σ.ups us).ob l = σ.ob l
  | [], σ, _ => rfl
  | p :: r, σ, h => by
    simp only [List.all_cons, Bool.and_eq_true, Bool.not_eq_true'] at h
    refine (ups_far r _ h.2).trans ?_
    have : l ≠ p.1 := fun e => by rw [e, beq_yes] at h; cases h.1
    simp only [St.setOb, beq_no this, cond_false]
theorem mapIns_wp (h : Sim X M0 S0 w0 N M β σ a w) {o : Oper} {K : St κ → Prop} {t : TypeId} {x y z : Operand} (ho : o.op = .mapUpdate t x y z ∨ o.op = .insert t x y z) (hdst : o.dst = none)
    (hW : insW X σ.ob t (σ.ev x) (σ.ev y) (σ.ev z) fun us => K ((σ.ups us).put o.dst .und)) : o.wp X.P a w (Post X M0 S0 w0 N K) Q := by
  unfold insW at hW
  obtain ⟨us, ds', M', hK, fr⟩ := frzA_run [σ.ev z] (fun _ => a.eval z) _ M σ h (FIn.of h) (fun i d' hi => by
    match i, hi with
    | 0, hi => simp at hi; subst hi; exact h.ev z) hW
  split at hK
  · rename_i d
    obtain ⟨hc, hK⟩ := condW_no hK
    refine mapSet_wp fr.si ho hdst (fr.re 0 d rfl) ?_
    rw [ups_ev, ups_ev]
    simp only [ups_app] at hK
    unfold msetW at hK ⊢
    split at hK
    · split at hK
      · rename_i l hl
        rw [ups_far us σ (by rw [hl] at hc; exact hc)]
        exact hK
      · exact hK.elim
    · exact hK.elim
  · exact hK.elim
theorem call_wp (hG : X.G w0) (hMG : ∀ b o, X.MG b o → M0 b o) (hS : ∀ b, S0 b → X.nG ≤ b) (h : Sim X M0 S0 w0 N M β σ a w) {o : Oper} {K : St κ → Prop} {c : Call} {f : FuncId} {x : Operand} {cs : List (D κ)} (ho : o.op = .call c) (hc : c.callee = .value x) (hx : σ.ev x = .fn f cs) (hd : ∀ k, o.dst = some k → k < N)
    (hW : frzAW X σ.ob (c.args.toList.map σ.ev ++ cs) fun us ds => ∃ d, Sp X f ds d ∧ d.frzT = true ∧ K ((σ.ups us).put o.dst d)) : o.wp X.P a w (Post X M0 S0 w0 N K) Q := by
  have hxv := h.ev x
  rw [hx] at hxv
  obtain ⟨vs, hv, hvn, hvr⟩ : ∃ vs : Array Value, a.eval x = .func (.func f) #[] vs ∧ vs.size = cs.length ∧ ∀ i d, cs[i]? = some d → Rep X.V M w β d (vs.getD i undef) := by
    generalize a.eval x = y at hxv
    cases hxv with
    | fn hn hr => exact ⟨_, rfl, hn, hr⟩
  obtain ⟨us, ds', M', ⟨d, hsp, hfz, hK⟩, fr⟩ := frzA_run (c.args.toList.map σ.ev ++ cs) (fun i => (c.args.map a.eval ++ vs).getD i undef) _ M σ h (FIn.of h) (fun i d' hi => by
    rcases Nat.lt_or_ge i c.args.size with hl | hl
    · rw [List.getElem?_append_left (by simpa using hl), List.getElem?_map] at hi
      obtain ⟨x, hx, rfl⟩ := Option.map_eq_some_iff.1 hi
      have hx' : c.args[i]? = some x := by simpa using hx
      have : (c.args.map a.eval ++ vs)[i]? = some (a.eval x) := by rw [Array.getElem?_append_left (by simpa using hl), Array.getElem?_map, hx']; rfl
      rw [getD_some this]
      exact h.ev x
    · rw [List.getElem?_append_right (by simpa using hl)] at hi
      have := hvr _ _ hi
      rw [List.length_map, Array.length_toList] at this
      have e : (c.args.map a.eval ++ vs).getD i undef = vs.getD (i - c.args.size) undef := by
        simp only [Array.getD_eq_getD_getElem?]
        rw [Array.getElem?_append_right (by simpa using hl)]
        simp
      rw [e]
      exact this) hW
  have hGw : X.G w := X.keep w0 w hG (h.kp.mono (X.gsz w0 hG) (fun b hb hs => absurd (hS b hs) (by omega)))
  rcases hsp with hsp | hsp
  rotate_left
  · obtain ⟨x, hx, hr⟩ := hsp M' β w (c.args.map a.eval ++ vs) (by rw [fr.ln]; simp [hvn]) fr.re
    have he : (execOp a.eval o).run X.P w = .ok (.value x) w := by
      simp [execOp, ho, resolve, hc, hv, Deferred.ofValue, invoke, hx]
    exact wp_value he ⟨M', β, _, fr.si.put hd (hr.frzT hfz), hK⟩
  obtain ⟨⟨fn, cc, hf, hname, hb⟩, hsp⟩ := hsp
  have hcall := hsp M' β w (c.args.map a.eval ++ vs) hGw (fun b o hm => fr.si.m0 b o (hMG b o hm)) fr.si.mlt (by rw [fr.ln]; simp [hvn]) fr.re ⟨fun l o hl => by simp at hl, fun l o l' o' b c c' hl => by simp at hl⟩ (fun b ⟨l, o, c, hl, _⟩ => by simp at hl)
  have he : (execOp a.eval o).run X.P w = .ok (.enter f (c.args.map a.eval ++ vs)) w := by
    have h1 : fn.name ≠ "runtime.NumGoroutine" := by simpa using hname
    simp [execOp, ho, resolve, hc, hv, Deferred.ofValue, invoke, callFunc, hf, h1, hb]
  unfold Oper.wp
  rw [he]
  refine hcall.mono fun e w' ⟨x, M2, β2, hx, hkp, _, hM2, hN2, hr, _, _⟩ => ?_
  subst hx
  have hkp' : Kp w.heap.size noS w w' := hkp.mono (Nat.le_refl _) (fun b _ ⟨l, o, c, hl, _⟩ => by simp at hl)
  have hg := fr.si.world (M' := M2) noS hkp' (fun b hb => hb.elim) (fun b o hb => hb.elim) (fun l o z b c _ _ _ hb => hb) hM2 (fun b o hm => (hN2 b o hm).imp id (fun h => h.resolve_left (fun ⟨l, o, c, hl, _⟩ => by simp at hl)))
  exact ⟨M2, β, _, hg.put hd (hr.frzT hfz), hK⟩

theorem mcall_wp (hG : X.G w0) (hMG : ∀ b o, X.MG b o → M0 b o) (hS : ∀ b, S0 b → X.nG ≤ b) (h : Sim X M0 S0 w0 N M β σ a w) {o : Oper} {K : St κ → Prop} {c : Call} {f : FuncId} {x : Operand} {cs : List (D κ)} (ho : o.op = .call c) (hc : c.callee = .value x) (hx : σ.ev x = .mfn f cs) (hd : ∀ k, o.dst = some k → k < N)
    (hW : frzAW X σ.ob (cs ++ c.args.toList.map σ.ev) fun us ds => ∃ d, Sp X f ds d ∧ d.frzT = true ∧ K ((σ.ups us).put o.dst d)) : o.wp X.P a w (Post X M0 S0 w0 N K) Q := by
  have hxv := h.ev x
  rw [hx] at hxv
  obtain ⟨vs, hv, hvn, hvr⟩ : ∃ vs : Array Value, a.eval x = .func (.func f) vs #[] ∧ vs.size = cs.length ∧ ∀ i d, cs[i]? = some d → Rep X.V M w β d (vs.getD i undef) := by
    generalize a.eval x = y at hxv
    cases hxv with
    | mfn hn hr => exact ⟨_, rfl, hn, fun i d hd => (hr i d hd).of_b0⟩
  obtain ⟨us, ds', M', ⟨d, hsp, hfz, hK⟩, fr⟩ := frzA_run (cs ++ c.args.toList.map σ.ev) (fun i => (vs ++ c.args.map a.eval).getD i undef) _ M σ h (FIn.of h) (fun i d' hi => by
    rcases Nat.lt_or_ge i cs.length with hl | hl
    · rw [List.getElem?_append_left hl] at hi
      have := hvr _ _ hi
      have e : (vs ++ c.args.map a.eval).getD i undef = vs.getD i undef := by
        simp only [Array.getD_eq_getD_getElem?]
        rw [Array.getElem?_append_left (by omega)]
      rw [e]
      exact this
    · rw [List.getElem?_append_right hl, List.getElem?_map] at hi
      obtain ⟨x, hx, rfl⟩ := Option.map_eq_some_iff.1 hi
      have hx' : c.args[i - cs.length]? = some x := by simpa using hx
      have : (vs ++ c.args.map a.eval)[i]? = some (a.eval x) := by rw [Array.getElem?_append_right (by omega), hvn, Array.getElem?_map, hx']; rfl
      rw [getD_some this]
      exact h.ev x) hW
  have hGw : X.G w := X.keep w0 w hG (h.kp.mono (X.gsz w0 hG) (fun b hb hs => absurd (hS b hs) (by omega)))
  rcases hsp with hsp | hsp
  rotate_left
  · obtain ⟨x, hx, hr⟩ := hsp M' β w (vs ++ c.args.map a.eval) (by rw [fr.ln]; simp [hvn]) fr.re
    have he : (execOp a.eval o).run X.P w = .ok (.value x) w := by
      simp [execOp, ho, resolve, hc, hv, Deferred.ofValue, invoke, hx]
    exact wp_value he ⟨M', β, _, fr.si.put hd (hr.frzT hfz), hK⟩
  obtain ⟨⟨fn, cc, hf, hname, hb⟩, hsp⟩ := hsp
  have hcall := hsp M' β w (vs ++ c.args.map a.eval) hGw (fun b o hm => fr.si.m0 b o (hMG b o hm)) fr.si.mlt (by rw [fr.ln]; simp [hvn]) fr.re ⟨fun l o hl => by simp at hl, fun l o l' o' b c c' hl => by simp at hl⟩ (fun b ⟨l, o, c, hl, _⟩ => by simp at hl)
  have he : (execOp a.eval o).run X.P w = .ok (.enter f (vs ++ c.args.map a.eval)) w := by
    have h1 : fn.name ≠ "runtime.NumGoroutine" := by simpa using hname
    simp [execOp, ho, resolve, hc, hv, Deferred.ofValue, invoke, callFunc, hf, h1, hb]
  unfold Oper.wp
  rw [he]
  refine hcall.mono fun e w' ⟨x, M2, β2, hx, hkp, _, hM2, hN2, hr, _, _⟩ => ?_
  subst hx
  have hkp' : Kp w.heap.size noS w w' := hkp.mono (Nat.le_refl _) (fun b _ ⟨l, o, c, hl, _⟩ => by simp at hl)
  have hg := fr.si.world (M' := M2) noS hkp' (fun b hb => hb.elim) (fun b o hb => hb.elim) (fun l o z b c _ _ _ hb => hb) hM2 (fun b o hm => (hN2 b o hm).imp id (fun h => h.resolve_left (fun ⟨l, o, c, hl, _⟩ => by simp at hl)))
  exact ⟨M2, β, _, hg.put hd (hr.frzT hfz), hK⟩

theorem Rep.lab0 {q : Nat → Bool} (hβ : ∀ k, q k = true → β' k = β k) {d : D κ} {x : Value} (hq : d.lab0 q = true) (h : Rep X.V M w β d x) : Rep X.V M w β' d x := by
  cases h with
  | v h => exact .v h
  | opq => exact .opq
  | und => exact .und
  | @fn _ f cs vs hn h =>
    cases cs with
    | nil => exact .fn hn (fun i d hd => by simp at hd)
    | cons _ _ => cases hq
  | agg hn h1 h => cases hq
  | tup hn h => cases hq
  | nil hc hA => exact .nil hc hA
  | sl u hc hm hb hu h => exact .sl u hc hm hb hu h
  | rc h => exact .rc h.sl_at
  | ref u hu h => exact .ref u hu h
  | ptr h => exact .ptr ((hβ _ hq).trans h)
  | elt h => exact .elt ((hβ _ hq).trans h)
  | own h hn hc => exact .own ((hβ _ hq).trans h) hn hc
  | ownE ho hc hA => exact .ownE ho hc hA
  | ownNil h => exact .ownNil ((hβ _ hq).trans h)
  | ifc h => exact .ifc h
  | mp h => exact .mp ((hβ _ hq).trans h)
  | ifo h =>
    cases h with
    | own h hn hc => exact .ifo (.own ((hβ _ hq).trans h) hn hc)
    | ownE ho hc hA => exact .ifo (.ownE ho hc hA)
    | ownNil h => exact .ifo (.ownNil ((hβ _ hq).trans h))
  | nb h => exact .nb h
  | mfn hn h => exact .mfn hn h
theorem Rep.lab1 {q : Nat → Bool} (hβ : ∀ k, q k = true → β' k = β k) {d : D κ} {x : Value} (hq : d.lab1 q = true) (h : Rep X.V M w β d x) : Rep X.V M w β' d x := by
  cases d with
  | agg cs =>
    cases h with
    | agg hn h1 h => exact .agg hn h1 (fun i d hd => (h i d hd).lab0 hβ (List.all_eq_true.1 hq d (List.mem_of_getElem? hd)))
  | fn f cs =>
    cases h with
    | fn hn h => exact .fn hn (fun i d hd => (h i d hd).lab0 hβ (List.all_eq_true.1 hq d (List.mem_of_getElem? hd)))
  | _ => exact h.lab0 hβ hq
theorem Rep.labB {q : Nat → Bool} (hβ : ∀ k, q k = true → β' k = β k) {d : D κ} {x : Value} (hq : d.labB q = true) (h : Rep X.V M w β d x) : Rep X.V M w β' d x := by
  cases d with
  | agg cs =>
    cases h with
    | agg hn h1 h => exact .agg hn h1 (fun i d hd => (h i d hd).lab1 hβ (List.all_eq_true.1 hq d (List.mem_of_getElem? hd)))
  | tup cs =>
    cases h with
    | tup hn h => exact .tup hn (fun i d hd => (h i d hd).lab1 hβ (List.all_eq_true.1 hq d (List.mem_of_getElem? hd)))
  | fn f cs =>
    cases h with
    | fn hn h => exact .fn hn (fun i d hd => (h i d hd).lab1 hβ (List.all_eq_true.1 hq d (List.mem_of_getElem? hd)))
  | _ => exact h.lab0 hβ hq
theorem dle0_rep {d e : D κ} {x : Value} (hd : dle0 X d e) (h : Rep X.V M w β d x) : Rep X.V M w β e x := by
  unfold dle0 at hd
  split at hd
  · split at hd
    · obtain ⟨h1, h2⟩ := hd
      obtain rfl := Nat.eq_of_beq_eq_true h1
      obtain rfl := Nat.eq_of_beq_eq_true h2
      exact h
    · exact hd.elim
  · split at hd
    · obtain ⟨h1, h2, rfl, rfl⟩ := hd
      obtain rfl := Nat.eq_of_beq_eq_true h1
      obtain rfl := Nat.eq_of_beq_eq_true h2
      exact h
    · exact hd.elim
  · split at hd
    · obtain rfl := Nat.eq_of_beq_eq_true hd
      exact h
    · exact hd.elim
  · exact hd.elim
  · exact .opq
  · exact hd.2 _ _ _ _ h
theorem dle0L_spec : ∀ {c cs : List (D κ)}, dle0L X c cs → c.length = cs.length ∧ ∀ (i : Nat) (d : D κ), cs[i]? = some d → ∃ e : D κ, c[i]? = some e ∧ dle0 X e d
  | [], [], _ => ⟨rfl, fun i d h => by simp at h⟩
  | d :: r, e :: s, h => by
    obtain ⟨h1, h2⟩ := dle0L_spec h.2
    refine ⟨by simp [h1], fun i d' hd => ?_⟩
    match i, hd with
    | 0, hd =>
      simp only [List.getElem?_cons_zero, Option.some.injEq] at hd
      subst hd
      exact ⟨d, rfl, h.1⟩
    | i + 1, hd => exact h2 i d' (by simpa using hd)
  | [], _ :: _, h => h.elim
  | _ :: _, [], h => h.elim
theorem hasW_mem {ob : Obs κ} : ∀ {H : List (Nat × Ob κ)}, hasW X ob H → ∀ {l : Nat} {o : Ob κ}, (l, o) ∈ H → (∃ cs es, ob l = some (.cells cs, false) ∧ o = .cells es ∧ dle0L X cs es) ∨ (∃ e n f f', ob l = some (.row e n f, false) ∧ o = .row e n f' ∧ ∀ i j, i < n → j < (X.T e).size → Dle X (f i j) (f' i j)) ∨ ∃ t es es', ob l = some (.map t es, false) ∧ o = .map t es' ∧ MLe X es es'
  | [], _, l, o, hm => by cases hm
  | p :: r, h, l, o, hm => by
    rcases List.mem_cons.1 hm with rfl | hm
    · have h1 := h.1
      split at h1
      · rename_i cs es ho he
        exact .inl ⟨cs, es, ho, he, h1⟩
      · rename_i e n f e' n' f' ho he
        obtain ⟨h2, h3, h4⟩ := h1
        have h2 := Nat.eq_of_beq_eq_true h2
        subst h2 h3
        exact .inr (.inl ⟨e, n, f, f', ho, he, h4⟩)
      · rename_i t es t' es' ho he
        obtain ⟨h2, h3⟩ := h1
        have h2 := Nat.eq_of_beq_eq_true h2
        subst h2
        exact .inr (.inr ⟨t, es, es', ho, he, h3⟩)
      · exact h1.elim
    · exact hasW_mem h.2 hm
theorem hasW_at (h : Sim X M0 S0 w0 N M β σ a w) {H : List (Nat × Ob κ)} (hH : hasW X σ.ob H) {l : Nat} {o : Ob κ} (hm : (l, o) ∈ H) : o.live = true ∧ ObAt X M w β l o false ∧ ∃ o', σ.ob l = some (o', false) ∧ o'.live = true := by
  rcases hasW_mem hH hm with ⟨cs, es, h1, rfl, h2⟩ | ⟨e, n, f, f', h1, rfl, h2⟩ | ⟨t, es, es', h1, rfl, h2, h3⟩
  · obtain ⟨hlen, h3⟩ := dle0L_spec h2
    obtain ⟨b, c, arr, T, g1, g2, g3, g4⟩ := h.ob l _ _ h1
    refine ⟨rfl, ⟨b, c, arr, T, g1, g2, ⟨by rw [← hlen]; exact g3.n, fun i hi => g3.o i (by omega), fun i d hd => ?_⟩, by rw [← hlen]; exact g4⟩, _, h1, rfl⟩
    obtain ⟨e, he, hle⟩ := h3 i d hd
    exact dle0_rep hle (g3.r i e he)
  · obtain ⟨hk, g⟩ := h.ob l _ _ h1
    refine ⟨rfl, ⟨hk, ?_⟩, _, h1, rfl⟩
    rcases g with g | ⟨b, c, arr, g1, g2, g3, g4, g5, g6, g7, g8⟩
    · exact .inl g
    · exact .inr ⟨b, c, arr, g1, g2, g3, g4, g5, g6, fun i j hi hj => ⟨(g7 i j hi hj).1, h2 i j hi hj _ _ _ _ (g7 i j hi hj).2⟩, g8⟩
  · obtain ⟨e0, hz0, ⟨kf, k, e, m1, m2, m3, m4⟩, b, c, arr, clk, g1, g2, g3, g4, g5⟩ := h.ob l _ _ h1
    obtain rfl : es = e0 := Eq.symm hz0
    refine ⟨rfl, ⟨_, rfl, ⟨kf, k, e, m1, m2, fun p hp => ?_, h2 ▸ m4⟩, b, c, arr, clk, g1, g2, g3.trans h2, fun i d hd => ?_, g5⟩, _, h1, rfl⟩
    · have : p.1 ∈ es'.map (·.1) := List.mem_map.2 ⟨p, hp, rfl⟩
      rw [← h2] at this
      obtain ⟨p', hp', e⟩ := List.mem_map.1 this
      exact e ▸ m3 p' hp'
    · have hlen : es.length = es'.length := by simpa using congrArg List.length h2
      have hi : i < es.length := by
        have := (List.getElem?_eq_some_iff.1 hd).1
        simpa [hlen] using this
      have he : (es.map (·.2))[i]? = some es[i].2 := by rw [List.getElem?_map, List.getElem?_eq_getElem hi]; rfl
      exact h3 i _ d he hd _ _ _ _ (g4 i _ he)

theorem elemB_mem {l : List Nat} {i : Nat} : elemB l i = true ↔ i ∈ l := by
  induction l with
  | nil => simp [elemB]
  | cons k r ih =>
    unfold elemB
    by_cases h : i = k
    · subst h; simp
    · rw [beq_no h]; simp [h, ih]
theorem nodupB_iff {l : List Nat} : nodupB l = true ↔ l.Nodup := by
  induction l with
  | nil => simp [nodupB]
  | cons k r ih =>
    simp only [nodupB, Bool.and_eq_true, Bool.not_eq_true', List.nodup_cons, ih]
    constructor
    · rintro ⟨h1, h2⟩
      exact ⟨fun h => (by rw [elemB_mem.2 h] at h1; cases h1), h2⟩
    · rintro ⟨h1, h2⟩
      refine ⟨?_, h2⟩
      cases e : elemB r k
      · rfl
      · exact absurd (elemB_mem.1 e) h1
theorem ups_none : ∀ (us : Ups κ) (σ : St κ) (l : Nat), (∀ p ∈ us, p.1 ≠ l) → (σ.ups us).ob l = σ.ob l
  | [], _, _, _ => rfl
  | p :: r, σ, l, h => (ups_none r _ l fun q hq => h q (List.mem_cons_of_mem _ hq)).trans (by
      have : ¬ l = p.1 := fun e => h p List.mem_cons_self e.symm
      simp only [St.setOb, beq_no this, cond_false])
theorem ups_some : ∀ (us : Ups κ) (σ : St κ) (l : Nat), (∃ p ∈ us, p.1 = l) → ∃ p ∈ us, p.1 = l ∧ (σ.ups us).ob l = some p.2
  | [], _, _, h => by obtain ⟨p, hp, _⟩ := h; cases hp
  | p :: r, σ, l, h => by
    by_cases hr : ∃ q ∈ r, q.1 = l
    · obtain ⟨q, hq, e, h1⟩ := ups_some r (σ.setOb p.1 p.2.1 p.2.2) l hr
      exact ⟨q, List.mem_cons_of_mem _ hq, e, h1⟩
    · obtain ⟨q, hq, e⟩ := h
      rcases List.mem_cons.1 hq with rfl | hq
      · refine ⟨q, List.mem_cons_self, e, ?_⟩
        refine (ups_none r _ l fun q' hq' e' => hr ⟨q', hq', e'⟩).trans ?_
        subst e
        simp only [St.setOb, beq_yes, cond_true]
      · exact absurd ⟨q, hq, e⟩ hr
theorem ups_frgv : ∀ (us : Ups κ) (σ : St κ), (σ.ups us).fr = σ.fr ∧ (σ.ups us).gv = σ.gv
  | [], _ => ⟨rfl, rfl⟩
  | p :: r, σ => ⟨(ups_frgv r _).1.trans rfl, (ups_frgv r _).2.trans rfl⟩
theorem names_one {l : Nat} {o o' : Ob κ} : ∀ {H' : List (Nat × Ob κ)}, (names H').Nodup → (l, o) ∈ H' → (l, o') ∈ H' → o = o'
  | [], _, h1, _ => by cases h1
  | p :: r, hn, h1, h2 => by
    simp only [names, List.map_cons, List.nodup_cons] at hn
    rcases List.mem_cons.1 h1 with e1 | h1 <;> rcases List.mem_cons.1 h2 with e2 | h2
    · rw [← e1] at e2; injection e2 with _ e2; exact e2.symm
    · exact absurd (List.mem_map.2 ⟨_, h2, by rw [← e1]⟩) hn.1
    · exact absurd (List.mem_map.2 ⟨_, h1, by rw [← e2]⟩) hn.1
    · exact names_one hn.2 h1 h2
theorem lentU_ob {H H' : List (Nat × Ob κ)} (hn : (names H').Nodup) (σ : St κ) (l : Nat) :
    (∀ o, (l, o) ∈ H' → (σ.ups (lentU H H')).ob l = some (o, false)) ∧ (l ∉ names H' → l ∈ names H → (σ.ups (lentU H H')).ob l = some (.dead, false)) ∧ (l ∉ names H' → l ∉ names H → (σ.ups (lentU H H')).ob l = σ.ob l) := by
  unfold lentU
  rw [ups_app]
  have one : ∀ {o o' : Ob κ}, (l, o) ∈ H' → (l, o') ∈ H' → o = o' := fun h1 h2 => names_one hn h1 h2
  refine ⟨fun o ho => ?_, fun h1 h2 => ?_, fun h1 h2 => ?_⟩
  · obtain ⟨p, hp, e, h3⟩ := ups_some (H'.map fun p => (p.1, p.2, false)) (σ.ups (H.map fun p => (p.1, Ob.dead, false))) l ⟨(l, o, false), List.mem_map.2 ⟨_, ho, rfl⟩, rfl⟩
    obtain ⟨q, hq, rfl⟩ := List.mem_map.1 hp
    simp only at e h3
    obtain ⟨q1, q2⟩ := q
    subst e
    rw [h3, one hq ho]
  · rw [ups_none _ _ l (fun p hp e => h1 (by
      obtain ⟨q, hq, rfl⟩ := List.mem_map.1 hp
      exact List.mem_map.2 ⟨q, hq, e⟩))]
    obtain ⟨q, hq, e⟩ := List.mem_map.1 h2
    obtain ⟨p, hp, e, h3⟩ := ups_some (H.map fun p => (p.1, (Ob.dead : Ob κ), false)) σ l ⟨(q.1, .dead, false), List.mem_map.2 ⟨_, hq, rfl⟩, e⟩
    obtain ⟨q', _, rfl⟩ := List.mem_map.1 hp
    exact h3
  · rw [ups_none _ _ l (fun p hp e => h1 (by
      obtain ⟨q, hq, rfl⟩ := List.mem_map.1 hp
      exact List.mem_map.2 ⟨q, hq, e⟩)), ups_none _ _ l (fun p hp e => h2 (by
      obtain ⟨q, hq, rfl⟩ := List.mem_map.1 hp
      exact List.mem_map.2 ⟨q, hq, e⟩))]

theorem Sim.back (h : Sim X M0 S0 w0 N M β σ a w) {H H' : List (Nat × Ob κ)} {M2 : Nat → Nat → Prop} {w' : World} {β2 : Bt} (hH : hasW X σ.ob H) (n2 : (names H').Nodup) (hnew : ∀ l, l ∈ names H' → l ∉ names H → σ.ob l = none) (hlab : ∀ l o, (l, o) ∈ H' → o.labB (elemB (names H')) = true)
    (hk : Kp w.heap.size (blocks β H) w w') (hβ : ∀ l o, (l, o) ∈ H → β2 l = β l) (hM : ∀ b o, M b o → M2 b o) (hN : ∀ b o, M2 b o → M b o ∨ blocks β H b ∨ (w.heap.size ≤ b ∧ b < w'.heap.size)) (hp : Hp X M2 w' β2 H') (hbl : ∀ b, blocks β2 H' b → blocks β H b ∨ w.heap.size ≤ b) :
    ∃ β3, (∀ l, l ∈ names H' → β3 l = β2 l) ∧ Sim X M0 S0 w0 N M2 β3 (σ.ups (lentU H H')) a w' := by
  let new : Nat → Bool := fun l => elemB (names H') l && !elemB (names H) l
  let β3 : Bt := fun l => bif new l then β2 l else β l
  have h3 : ∀ l, l ∈ names H' → β3 l = β2 l := fun l hl => by
    show (bif new l then β2 l else β l) = β2 l
    cases e : new l with
    | true => rfl
    | false =>
      simp only [cond_false]
      have : elemB (names H) l = true := by
        simp only [new, elemB_mem.2 hl, Bool.true_and, Bool.not_eq_false'] at e
        exact e
      obtain ⟨p, hp, rfl⟩ := List.mem_map.1 (elemB_mem.1 this)
      exact (hβ _ _ hp).symm
  have hold : ∀ l, σ.ob l ≠ none → β3 l = β l := fun l hl => by
    show (bif new l then β2 l else β l) = β l
    cases e : new l with
    | false => rfl
    | true =>
      simp only [new, Bool.and_eq_true, Bool.not_eq_true'] at e
      exact absurd (hnew l (elemB_mem.1 e.1) (fun hm => by rw [elemB_mem.2 hm] at e; cases e.2)) hl
  have hext : ∀ k p, β k = some p → β3 k = some p := fun k p hp => by
    rw [hold k (fun e => by rw [h.un k e] at hp; cases hp)]
    exact hp
  -- the blocks that were lent are not looked at
  have hhid : ∀ b, blocks β H b → b < w.heap.size ∧ ∀ q, ¬ M b q := by
    rintro b ⟨l, o, c, hl, hb⟩
    obtain ⟨hv, hat, _⟩ := hasW_at h hH hl
    exact ⟨hat.lt hv hb, hat.hid hv hb⟩
  have hw : ∀ b o, M b o → w'.cell? ⟨b, o, none⟩ = w.cell? ⟨b, o, none⟩ := fun b o hm => hk.cell (h.mlt b o hm) (fun hs => (hhid b hs).2 o hm)
  have hob := lentU_ob (H := H) n2 σ
  -- where an object lies
  have src : ∀ l o z, (σ.ups (lentU H H')).ob l = some (o, z) → o.live = true → ((l, o) ∈ H' ∧ z = false) ∨ (l ∉ names H' ∧ l ∉ names H ∧ σ.ob l = some (o, z)) := by
    intro l o z hl hv
    obtain ⟨h1, h2, h4⟩ := hob l
    by_cases m1 : l ∈ names H'
    · obtain ⟨p, hp, rfl⟩ := List.mem_map.1 m1
      rw [h1 p.2 hp] at hl
      injection hl with hl
      injection hl with e1 e2
      subst e1 e2
      exact .inl ⟨hp, rfl⟩
    · by_cases m2 : l ∈ names H
      · rw [h2 m1 m2] at hl
        injection hl with hl
        injection hl with e1 _
        subst e1
        cases hv
      · rw [h4 m1 m2] at hl
        exact .inr ⟨m1, m2, hl⟩
  have hBl : ∀ b, blocks β H b → w0.heap.size ≤ b ∨ S0 b := by
    rintro b ⟨l, o, c, hl, hb⟩
    obtain ⟨_, _, o', h1, h2⟩ := hasW_at h hH hl
    exact h.oB l o' _ b c h1 h2 hb
  have hsz := h.kp.size
  have nm : ∀ {l : Nat} {o : Ob κ}, (l, o) ∈ H' → l ∈ names H' := fun hm => List.mem_map.2 ⟨_, hm, rfl⟩
  -- an object that was not lent lies in no block of those that were
  have hout : ∀ l o z b c, l ∉ names H → σ.ob l = some (o, z) → o.live = true → β l = some (some (b, c)) → ¬ blocks β H b := by
    rintro l o z b c hn hl hv hb ⟨l', o', c', hl', hb'⟩
    obtain ⟨_, _, o2, h1, h2⟩ := hasW_at h hH hl'
    have := h.oi l l' o o2 z false b c c' hl hv h1 h2 hb hb'
    subst this
    exact hn (List.mem_map.2 ⟨_, hl', rfl⟩)
  refine ⟨β3, h3, ⟨h.kp.trans (hk.mono hsz (fun b hb hs => ?_)), h.df, h.sz, fun b o hm => hM _ _ (h.m0 b o hm), ?_, ?_, fun i => ?_, ?_, ?_, ?_, ?_, fun g => ?_, fun l p hl => hext l p (h.le l p hl)⟩⟩
  · rcases hBl b hs with h1 | h1
    · omega
    · exact h1
  · intro b o hm
    rcases hN b o hm with hm | hm | ⟨hm, _⟩
    · exact h.mN b o hm
    · exact .inr (hBl b hm)
    · exact .inr (.inl (by omega))
  · intro b o hm
    rcases hN b o hm with hm | hm | ⟨_, hm⟩
    · have := h.mlt b o hm
      have := hk.size
      omega
    · have := (hhid b hm).1
      have := hk.size
      omega
    · exact hm
  · rw [(ups_frgv _ _).1]
    exact ((h.fr i).mono hM hw).ext hext
  · intro l o z hl
    by_cases hv : o.live = true
    · rcases src l o z hl hv with ⟨hm, rfl⟩ | ⟨m1, m2, hl⟩
      · obtain ⟨_, hat⟩ := hp.ob l o hm
        have hb := h3 l (nm hm)
        have hq : ∀ k, elemB (names H') k = true → β3 k = β2 k := fun k hk => h3 k (elemB_mem.1 hk)
        have hlb := hlab l o hm
        cases o with
        | cells cs =>
          obtain ⟨b, c, arr, T, g1, g2, g3, g4⟩ := hat
          exact ⟨b, c, arr, T, hb.trans g1, g2, ⟨g3.n, g3.o, fun i d hd => (g3.r i d hd).lab1 hq (List.all_eq_true.1 hlb d (List.mem_of_getElem? hd))⟩, g4⟩
        | row e n f =>
          obtain ⟨hk, g⟩ := hat
          exact ⟨hk, g.imp (fun ⟨g1, g2⟩ => ⟨hb.trans g1, g2⟩) (fun ⟨b, c, arr, g1, g2⟩ => ⟨b, c, arr, hb.trans g1, g2⟩)⟩
        | map t es =>
          obtain ⟨e0, hz, hk, b, c, arr, clk, g1, g2⟩ := hat
          exact ⟨e0, hz, hk, b, c, arr, clk, hb.trans g1, g2⟩
        | iter m n sn =>
          obtain ⟨hz, b, c, bm, cm, sa, g1, g2, g3, g4⟩ := hat
          exact ⟨hz, b, c, bm, cm, sa, hb.trans g1, g2, (hq m hlb).trans g3, g4⟩
        | dead => trivial
      · refine (h.ob l o z hl).mono hM hw hext (fun hv b c hb hlt => ⟨hk.block b hlt (hout l o z b c m2 hl hv hb), fun q hq => ?_⟩)
        rcases hN b q hq with hm | hm | ⟨hm, _⟩
        · exact hm
        · exact absurd hm (hout l o z b c m2 hl hv hb)
        · omega
    · cases o with
      | dead => trivial
      | _ => exact absurd rfl hv
  · intro l o z b c hl hv hb
    rcases src l o z hl hv with ⟨hm, rfl⟩ | ⟨m1, m2, hl⟩
    · rw [h3 l (nm hm)] at hb
      rcases hbl b ⟨l, o, c, hm, hb⟩ with h1 | h1
      · exact hBl b h1
      · exact .inl (by omega)
    · rw [hold l (by rw [hl]; exact fun e => by cases e)] at hb
      exact h.oB l o z b c hl hv hb
  · intro l l' o1 o2 z1 z2 b c c' hl hv hl' hv' hb hb'
    rcases src l o1 z1 hl hv with ⟨hm, rfl⟩ | ⟨m1, m2, hl⟩ <;> rcases src l' o2 z2 hl' hv' with ⟨hm', rfl⟩ | ⟨m1', m2', hl'⟩
    · rw [h3 l (nm hm)] at hb
      rw [h3 l' (nm hm')] at hb'
      exact hp.ap l o1 l' o2 b c c' hm hm' hb hb'
    · rw [h3 l (nm hm)] at hb
      rw [hold l' (by rw [hl']; exact fun e => by cases e)] at hb'
      rcases hbl b ⟨l, o1, c, hm, hb⟩ with h1 | h1
      · exact absurd h1 (hout l' o2 z2 b c' m2' hl' hv' hb')
      · have := (h.ob l' o2 z2 hl').lt hv' hb'
        omega
    · rw [h3 l' (nm hm')] at hb'
      rw [hold l (by rw [hl]; exact fun e => by cases e)] at hb
      rcases hbl b ⟨l', o2, c', hm', hb'⟩ with h1 | h1
      · exact absurd h1 (hout l o1 z1 b c m2 hl hv hb)
      · have := (h.ob l o1 z1 hl).lt hv hb
        omega
    · rw [hold l (by rw [hl]; exact fun e => by cases e)] at hb
      rw [hold l' (by rw [hl']; exact fun e => by cases e)] at hb'
      exact h.oi l l' o1 o2 z1 z2 b c c' hl hv hl' hv' hb hb'
  · intro l hl
    obtain ⟨h1, h2, h4⟩ := hob l
    by_cases m1 : l ∈ names H'
    · obtain ⟨p, hp, rfl⟩ := List.mem_map.1 m1
      rw [h1 p.2 hp] at hl
      cases hl
    · by_cases m2 : l ∈ names H
      · rw [h2 m1 m2] at hl
        cases hl
      · rw [h4 m1 m2] at hl
        show (bif new l then β2 l else β l) = none
        have : new l = false := by
          simp only [new]
          cases e : elemB (names H') l
          · rfl
          · exact absurd (elemB_mem.1 e) m1
        rw [this]
        exact h.un l hl
  · rw [(ups_frgv _ _).2]
    exact (h.gv g).mono hM hw

theorem args_rep (h : Sim X M0 S0 w0 N M β σ a w) {args : Array Operand} {cs : List (D κ)} {vs : Array Value} (hvr : ∀ i d, cs[i]? = some d → Rep X.V M w β d (vs.getD i undef)) : ∀ i d, (args.toList.map σ.ev ++ cs)[i]? = some d → Rep X.V M w β d ((args.map a.eval ++ vs).getD i undef) := fun i d' hi => by
  rcases Nat.lt_or_ge i args.size with hl | hl
  · rw [List.getElem?_append_left (by simpa using hl), List.getElem?_map] at hi
    obtain ⟨x, hx, rfl⟩ := Option.map_eq_some_iff.1 hi
    have hx' : args[i]? = some x := by simpa using hx
    have : (args.map a.eval ++ vs)[i]? = some (a.eval x) := by rw [Array.getElem?_append_left (by simpa using hl), Array.getElem?_map, hx']; rfl
    rw [getD_some this]
    exact h.ev x
  · rw [List.getElem?_append_right (by simpa using hl)] at hi
    have := hvr _ _ hi
    rw [List.length_map, Array.length_toList] at this
    have e : (args.map a.eval ++ vs).getD i undef = vs.getD (i - args.size) undef := by
      simp only [Array.getD_eq_getD_getElem?]
      rw [Array.getElem?_append_right (by simpa using hl)]
      simp
    rw [e]
    exact this
theorem lent_wp (hG : X.G w0) (hMG : ∀ b o, X.MG b o → M0 b o) (hS : ∀ b, S0 b → X.nG ≤ b) (h : Sim X M0 S0 w0 N M β σ a w) {o : Oper} {K : St κ → Prop} {c : Call} {f : FuncId} {x : Operand} {cs : List (D κ)} (ho : o.op = .call c) (hc : c.callee = .value x) (hx : σ.ev x = .fn f cs) (hd : ∀ k, o.dst = some k → k < N)
    (hW : lentW X (opDst o) σ.ob f (c.args.toList.map σ.ev ++ cs) fun us d => K ((σ.ups us).put o.dst d)) : o.wp X.P a w (Post X M0 S0 w0 N K) Q := by
  obtain ⟨H, H', d, hsp, hB, hH, hK⟩ := hW
  simp only [fD_eq] at hK
  unfold lentB at hB
  simp only [Bool.and_eq_true] at hB
  obtain ⟨⟨⟨⟨n1, n2⟩, n3⟩, n4⟩, n5⟩ := hB
  have hxv := h.ev x
  rw [hx] at hxv
  obtain ⟨vs, hv, hvn, hvr⟩ : ∃ vs : Array Value, a.eval x = .func (.func f) #[] vs ∧ vs.size = cs.length ∧ ∀ i d, cs[i]? = some d → Rep X.V M w β d (vs.getD i undef) := by
    generalize a.eval x = y at hxv
    cases hxv with
    | fn hn hr => exact ⟨_, rfl, hn, hr⟩
  have hGw : X.G w := X.keep w0 w hG (h.kp.mono (X.gsz w0 hG) (fun b hb hs => absurd (hS b hs) (by omega)))
  have hnG : ∀ b, blocks β H b → X.nG ≤ b := by
    rintro b ⟨l, o, c, hl, hb⟩
    obtain ⟨_, _, o', h1, h2⟩ := hasW_at h hH hl
    rcases h.oB l o' _ b c h1 h2 hb with h3 | h3
    · exact Nat.le_trans (X.gsz w0 hG) h3
    · exact hS b h3
  have fin : ∀ (y : Value) (w' : World) (M2 : Nat → Nat → Prop) (β2 : Bt), Kp w.heap.size (blocks β H) w w' → (∀ l o, (l, o) ∈ H → β2 l = β l) → (∀ b o, M b o → M2 b o) → (∀ b o, M2 b o → M b o ∨ blocks β H b ∨ (w.heap.size ≤ b ∧ b < w'.heap.size)) → Rep X.V M2 w' β2 d y → Hp X M2 w' β2 H' → (∀ b, blocks β2 H' b → blocks β H b ∨ w.heap.size ≤ b) → Post X M0 S0 w0 N K (a.put o.dst y) w' := by
    intro y w' M2 β2 hkp hβ hM2 hN2 hr hp hbl
    have hnew : ∀ l, l ∈ names H' → l ∉ names H → σ.ob l = none := by
      intro l hl hnl
      obtain ⟨p, hp, rfl⟩ := List.mem_map.1 hl
      have h1 := List.all_eq_true.1 n3 p hp
      have h2 : elemB (names H) p.1 = false := by
        cases e : elemB (names H) p.1
        · rfl
        · exact absurd (elemB_mem.1 e) hnl
      rw [h2, Bool.false_or, Bool.and_eq_true] at h1
      have h3 := h1.2
      unfold isFree at h3
      split at h3
      · assumption
      · cases h3
    obtain ⟨β3, h3, hs⟩ := h.back hH (nodupB_iff.1 n2) hnew (fun l o hl => List.all_eq_true.1 n5 (l, o) hl) hkp hβ hM2 hN2 hp hbl
    exact ⟨M2, β3, _, hs.put hd (hr.labB (fun k hk => h3 k (elemB_mem.1 hk)) n4), hK⟩
  rcases hsp with ⟨⟨fn, cc, hf, hname, hb⟩, hsp⟩ | hsp
  · have hcall := hsp M β w (c.args.map a.eval ++ vs) hGw (fun b o hm => h.m0 b o (hMG b o hm)) h.mlt (by simp [hvn]) (args_rep h hvr)
      ⟨fun l o hl => ⟨(hasW_at h hH hl).1, (hasW_at h hH hl).2.1⟩, fun l o l' o' b c c' hl hl' hb hb' => by
        obtain ⟨_, _, o1, h1, h2⟩ := hasW_at h hH hl
        obtain ⟨_, _, o2, h3, h4⟩ := hasW_at h hH hl'
        exact h.oi l l' _ _ _ _ b c c' h1 h2 h3 h4 hb hb'⟩ hnG
    have he : (execOp a.eval o).run X.P w = .ok (.enter f (c.args.map a.eval ++ vs)) w := by
      have h1 : fn.name ≠ "runtime.NumGoroutine" := by simpa using hname
      simp [execOp, ho, resolve, hc, hv, Deferred.ofValue, invoke, callFunc, hf, h1, hb]
    unfold Oper.wp
    rw [he]
    exact hcall.mono fun e w' ⟨y, M2, β2, hy, hkp, hβ, hM2, hN2, hr, hp, hbl⟩ => by
      subst hy
      exact fin y w' M2 β2 hkp hβ hM2 hN2 hr hp hbl
  · obtain ⟨y, w', M2, β2, hrun, hkp, hβ, hM2, hN2, hr, hp, hbl⟩ := hsp M β w (c.args.map a.eval ++ vs) hGw (fun b o hm => h.m0 b o (hMG b o hm)) h.mlt (by simp [hvn]) (args_rep h hvr)
      ⟨fun l o hl => ⟨(hasW_at h hH hl).1, (hasW_at h hH hl).2.1⟩, fun l o l' o' b c c' hl hl' hb hb' => by
        obtain ⟨_, _, o1, h1, h2⟩ := hasW_at h hH hl
        obtain ⟨_, _, o2, h3, h4⟩ := hasW_at h hH hl'
        exact h.oi l l' _ _ _ _ b c c' h1 h2 h3 h4 hb hb'⟩ hnG
    have he : (execOp a.eval o).run X.P w = .ok (.value y) w' := by
      simp [execOp, ho, resolve, hc, hv, Deferred.ofValue, invoke, hrun]
    exact wp_value he (fin y w' M2 β2 hkp hβ hM2 hN2 hr hp hbl)

theorem perm_wp (hG : X.G w0) (hMG : ∀ b o, X.MG b o → M0 b o) (hS : ∀ b, S0 b → X.nG ≤ b) (h : Sim X M0 S0 w0 N M β σ a w) {o : Oper} {K : St κ → Prop} {c : Call} {f : FuncId} {x : Operand} {cs : List (D κ)} (ho : o.op = .call c) (hc : c.callee = .value x) (hx : σ.ev x = .fn f cs) (hd : ∀ k, o.dst = some k → k < N)
    (hW : permW X σ.ob f (c.args.toList.map σ.ev ++ cs) fun us d => K ((σ.ups us).put o.dst d)) : o.wp X.P a w (Post X M0 S0 w0 N K) Q := by
  unfold permW at hW
  split at hW
  · rename_i l hds
    split at hW
    · rename_i t es hl
      obtain ⟨d, es', hsp, hW⟩ := hW
      obtain ⟨hlb, hK⟩ := condW_no hW
      rw [fD_eq] at hK
      obtain ⟨e0, hp0, hs⟩ := h.unperm hl
      obtain ⟨e1, hp, hsp⟩ := hsp e0 hp0
      have hev : ∀ y, (σ.setOb l (.map t e0) false).ev y = σ.ev y := fun y => by cases y <;> rfl
      have hob : (σ.setOb l (.map t e0) false).ob l = some (.map t e0, false) := by simp only [St.setOb, beq_yes, cond_true]
      have hds' : c.args.toList.map (σ.setOb l (.map t e0) false).ev ++ cs = [.mp l] := by
        rw [← hds]
        exact congrArg (· ++ cs) (List.map_congr_left fun y _ => hev y)
      have hlw : lentW X (opDst o) (σ.setOb l (.map t e0) false).ob f (c.args.toList.map (σ.setOb l (.map t e0) false).ev ++ cs) (fun us d' => (fun τ => τ = (((σ.setOb l (.map t e0) false).ups (lentU [(l, .map t e0)] [(l, .map t e1)])).put o.dst d)) (((σ.setOb l (.map t e0) false).ups us).put o.dst d')) := by
        rw [hds']
        refine ⟨[(l, .map t e0)], [(l, .map t e1)], d, .inl hsp, ?_, ⟨?_, trivial⟩, ?_⟩
        · have q1 : elemB [l] l = true := elemB_mem.2 List.mem_cons_self
          show (nodupB [l] && nodupB [l] && ([(l, Ob.map t e1)].all fun p => elemB [l] p.1 || (elemB (opDst o) p.1 && isFree _ p.1)) && d.labB (elemB [l]) && ([(l, Ob.map t e1)].all fun p => p.2.labB (elemB [l]))) = true
          rw [hlb]
          simp [nodupB, q1, Ob.labB]
          rfl
        · simp only [hob]
          exact ⟨beq_yes _, MLe.refl X _⟩
        · rw [fD_eq]
      refine Oper.wp_mono (fun a' w' ⟨M', β', τ, g1, g2⟩ => ?_) (lent_wp (Q := Q) (K := fun τ => τ = (((σ.setOb l (.map t e0) false).ups (lentU [(l, .map t e0)] [(l, .map t e1)])).put o.dst d)) hG hMG hS hs ho hc (by rw [hev]; exact hx) hd hlw)
      subst g2
      have g3 := g1.reperm (t := t) (l := l) (e0 := e1) (es := es') (by cases o.dst <;> simp only [lentU, List.map_cons, List.map_nil, List.cons_append, List.nil_append, St.put, St.ups, St.setOb, beq_yes, cond_true]) hp
      refine ⟨M', β', _, g3, ?_⟩
      refine Eq.mp (congrArg K ?_) hK
      refine St.ext' (fun i => ?_) (fun i => ?_) ?_
      · cases o.dst <;> rfl
      · by_cases e : i = l
        · subst e
          cases o.dst <;> simp only [lentU, List.map_cons, List.map_nil, List.cons_append, List.nil_append, St.put, St.ups, St.setOb, beq_yes, cond_true]
        · cases o.dst <;> simp only [lentU, List.map_cons, List.map_nil, List.cons_append, List.nil_append, St.put, St.ups, St.setOb, beq_no e, cond_false]
      · cases o.dst <;> rfl
    · exact hW.elim
  · exact hW.elim
theorem mkS_fold (ns : List Int) : ns.foldl (fun r n => r.push (UInt8.ofNat n.toNat)) ByteArray.empty = ⟨(ns.map fun n => UInt8.ofNat n.toNat).toArray⟩ := by
  have key : ∀ (ns : List Int) (s : ByteArray), ns.foldl (fun r n => r.push (UInt8.ofNat n.toNat)) s = ⟨s.data ++ (ns.map fun n => UInt8.ofNat n.toNat).toArray⟩ := by
    intro ns
    induction ns with
    | nil => intro s; simp
    | cons n r ih =>
      intro s
      rw [List.foldl_cons, ih]
      simp [ByteArray.push]
  rw [key]
  simp [ByteArray.empty, ByteArray.emptyWithCapacity]
  rfl
theorem conv_wp (h : Sim X M0 S0 w0 N M β σ a w) {o : Oper} {K : St κ → Prop} {s t e : TypeId} {x : Operand} (ho : o.op = .convert s t x) (hd : ∀ k, o.dst = some k → k < N) (h1 : (X.T s).k = .sl e) (h2 : (X.T t).k = .str) (hkn : (X.T e).known = true) (hu8 : isU8 (X.T e).k = true) (hsz : (X.T e).size = 1)
    (hW : srcW X σ.ob e (σ.ev x) fun m f => ∃ g : Nat → UInt8, (∀ i, i < m → Dle X (f i 0) (.v (.int .u8 (g i).toNat))) ∧ K ((σ.ups []).put o.dst (.v (.string (mkS m g))))) : o.wp X.P a w (Post X M0 S0 w0 N K) Q := by
  obtain ⟨m, f, news, ⟨g, hg, hK⟩, hmx, hlen, hone, hval, hrep⟩ := src_run h hkn hW
  have hS := X.form s
  have hT := X.form t
  have hE := X.form e
  have hEk : (X.T e).k = .int .u8 := by
    cases hk : (X.T e).k <;> rw [hk] at hu8 <;> simp only [isU8] at hu8 <;> try cases hu8
    rename_i k
    cases k <;> first | rfl | cases hu8
  rw [h1] at hS
  rw [h2] at hT
  rw [hEk] at hE
  simp only [KOk] at hS hT hE
  rw [hsz, Nat.mul_one] at hlen
  have hnews : news = ((List.range m).map fun i => ((g i).toNat : Int)).map (Value.int .u8) := by
    apply List.ext_getElem?
    intro i
    by_cases hi : i < m
    · obtain ⟨v, hv1, hv2, _⟩ := hrep i 0 hi (by omega)
      rw [hsz, Nat.mul_one, Nat.add_zero] at hv1
      obtain ⟨rfl, _⟩ := (hg i hi _ _ _ _ hv2).val
      rw [hv1]
      simp [hi]
    · rw [List.getElem?_eq_none (by omega), List.getElem?_eq_none (by simp; omega)]
  have hstr : (⟨((((List.range m).map fun i => ((g i).toNat : Int))).map fun n => UInt8.ofNat n.toNat).toArray⟩ : ByteArray) = mkS m g := by
    unfold mkS
    congr 2
    rw [List.map_map]
    refine List.map_congr_left fun i _ => ?_
    simp
  have hrun : (convert s t (a.eval x)).run X.P w = .ok (.string (mkS m g)) w := by
    rcases hval with ⟨⟨A, c, hv⟩, rfl⟩ | ⟨b, oo, c, hv, hcell⟩
    · rw [hv, run_convert_bytes_string w s t e A 0 c hS hE hT]
      cases A with
      | none =>
        simp [Conv.bytesToString, mkS, ByteArray.empty, ByteArray.emptyWithCapacity]
        rfl
      | some A =>
        have := run_bytesToString (P := X.P) w A 0 c [] (by simpa using run_loadCells_list (P := X.P) w A [] (fun j v h => by simp at h))
        rw [this]
        rfl
    · rw [hv, run_convert_bytes_string w s t e _ m c hS hE hT]
      have hl : (loadCells ⟨b, oo, none⟩ m).run X.P w = .ok (((List.range m).map fun i => ((g i).toNat : Int)).map (Value.int .u8)).toArray w := by
        rw [← hnews, ← hlen]
        exact run_loadCells_list w ⟨b, oo, none⟩ news (fun j v hj => by rw [Go.WideShapes.add_plain]; exact hcell j v hj)
      rw [run_bytesToString w _ m c _ hl, mkS_fold, hstr]
  have he : (execOp a.eval o).run X.P w = .ok (.value (.string (mkS m g))) w := by
    simp [execOp, ho, hrun]
  exact wp_value he ⟨M, β, _, h.put hd (.v (by simp [okB, mkS, ByteArray.size]; omega)), hK⟩

def noDst : Op → Bool
  | .store _ _ _ => true
  | .insert _ _ _ _ => true
  | .mapUpdate _ _ _ _ => true
  | .entryStore _ _ _ _ => true
  | _ => false
theorem op_sound (hG : X.G w0) (hMG : ∀ b o, X.MG b o → M0 b o) (hS : ∀ b, S0 b → X.nG ≤ b) (h : Sim X M0 S0 w0 N M β σ a w) (o : Oper) {K : St κ → Prop} (hd : ∀ k, o.dst = some k → k < N) (hW : opW X o σ K) (hst : noDst o.op = true → o.dst = none) : o.wp X.P a w (Post X M0 S0 w0 N K) Q := by
  unfold opW opE at hW
  split at hW
  · rename_i x ho
    simp only [fD_eq] at hW
    exact move_wp h (.inl ho) hd hW
  · rename_i x ho
    simp only [fD_eq] at hW
    exact move_wp h (.inr ho) hd hW
  · rename_i e ho
    split at hW
    · rename_i l hl
      split at hW
      · rename_i hob
        obtain ⟨hk, hW⟩ := condW_no hW
        simp only [fL_eq] at hW
        exact alloc_wp h ho hl (hd l hl) hob hk hW
      · exact hW.elim
    · exact hW.elim
  · rename_i e x ho
    split at hW
    · rename_i l hl
      split at hW
      · rename_i hob
        simp only [fD_eq] at hW
        obtain ⟨hk, hW⟩ := condW_no hW
        simp only [fL_eq] at hW
        exact box_wp h ho hl (hd l hl) hob hk hW
      · exact hW.elim
    · exact hW.elim
  · rename_i t x ho
    split at hW
    · rename_i l off hx
      split at hW
      · rename_i cs z hl
        obtain ⟨hk, hW⟩ := condW_no hW
        exact loadPtr_wp h ho hx hl hk hd hW
      · exact hW.elim
    · rename_i l s k j hx
      split at hW
      · rename_i e n f z hl
        obtain ⟨hc, hkn, hW⟩ := condW_no hW
        obtain ⟨hk, hs⟩ := (Bool.and_eq_true _ _ ▸ hc : _ ∧ _)
        exact loadElt_wp h ho hx hl hk (Nat.eq_of_beq_eq_true hs) hkn hd hW
      · exact hW.elim
    · exact pure_wp h hd hW
  · rename_i t x y ho
    split at hW
    · rename_i l off hx
      split at hW
      · rename_i cs hl
        simp only [fD_eq] at hW
        obtain ⟨hc, hW⟩ := condW_no hW
        simp only [Bool.and_eq_true] at hc
        obtain ⟨⟨⟨h1, h2⟩, h3⟩, h4⟩ := hc
        simp only [fL_eq] at hW
        exact storePtr_wp h ho (hst (by rw [ho]; rfl)) hx hl h1 (Nat.eq_of_beq_eq_true h2) h3 (Nat.le_of_ble_eq_true h4) hW
      · exact hW.elim
    · rename_i l s k j hx
      split at hW
      · rename_i e n f hl
        simp only [fD_eq] at hW
        obtain ⟨hc, hkn, hW⟩ := condW_no hW
        simp only [Bool.and_eq_true] at hc
        obtain ⟨⟨⟨⟨⟨h1, h2⟩, h3⟩, h4⟩, h5⟩, h6⟩ := hc
        exact storeElt_wp h ho (hst (by rw [ho]; rfl)) hx hl h1 h2 (Nat.eq_of_beq_eq_true h3) h4 (Nat.eq_of_beq_eq_true h5) (Nat.le_of_ble_eq_true h6) hkn hW
      · exact hW.elim
    · exact hW.elim
  · rename_i t parts ho
    split at hW
    · rename_i fs hk
      exact build_wp h ho hk hd hW
    · rename_i m e hk
      obtain ⟨hkn, hW⟩ := condW_no hW
      exact buildArr_wp h ho hk hkn hd hW
    · exact hW.elim
  · rename_i t n parts ho
    split at hW
    · rename_i e l hk hl
      split at hW
      · rename_i hob
        obtain ⟨hc, hW⟩ := condW_no hW
        simp only [Bool.and_eq_true] at hc
        obtain ⟨⟨h1, h2⟩, h3⟩ := hc
        exact buildSlice_wp h ho hk hl (hd l hl) hob h1 (Nat.le_of_ble_eq_true h2) (Nat.le_of_ble_eq_true h3) hW
      · exact hW.elim
    · exact hW.elim
  · rename_i t len cap ho
    split at hW
    · rename_i e l n c hk hl hlen hcap
      split at hW
      · rename_i hob
        simp only [fN_eq] at hW
        obtain ⟨hkn, hc, hW⟩ := condW_no hW
        exact makeSlice_wp h ho hk hl (hd l hl) hob hkn hlen hcap hc hW
      · exact hW.elim
    · exact hW.elim
  · rename_i c ho
    split at hW
    · rename_i x hc
      split at hW
      · rename_i f cs hx
        simp only [fL_eq, fD_eq] at hW
        rcases hW with (hW | hW) | hW
        · refine call_wp hG hMG hS h ho hc hx hd (frzAW_mono (fun us ds ⟨d, h1, h2⟩ => ?_) hW)
          obtain ⟨h2, h3⟩ := condW_no h2
          exact ⟨d, h1, h2, h3⟩
        · exact perm_wp hG hMG hS h ho hc hx hd hW.h
        · exact lent_wp hG hMG hS h ho hc hx hd hW
      · rename_i f fs hx
        simp only [fL_eq, fD_eq] at hW
        rcases hW with hW | hW
        · refine mcall_wp hG hMG hS h ho hc hx hd (frzAW_mono (fun us ds ⟨d, h1, h2⟩ => ?_) hW)
          obtain ⟨h2, h3⟩ := condW_no h2
          exact ⟨d, h1, h2, h3⟩
        · exact hW.elim
      · exact hW.elim
    · rename_i hc
      split at hW
      · rename_i s x t t' k e1 e2 e3
        obtain ⟨ht, hW2⟩ := condW_no hW
        simp only [fD_eq] at hW2
        refine append_wp h (t := t) (t' := t') ht ?_ e3 (hd k e3) hW2
        rw [ho]
        obtain ⟨callee, args, ts⟩ := c
        simp only at hc e1 e2
        subst hc
        have e1' : args = #[s, x] := by cases args; simp_all
        have e2' : ts = #[t, t'] := by cases ts; simp_all
        rw [e1', e2']
      · exact hW.elim
    · exact pure_wp h hd (ho ▸ hW)
  · rename_i sT tT x ho
    split at hW
    · rename_i e e1 e2
      obtain ⟨hc, hW⟩ := condW_no hW
      simp only [Bool.and_eq_true] at hc
      obtain ⟨⟨h1, h2⟩, h3⟩ := hc
      exact conv_wp h ho hd e1 e2 h1 h2 (Nat.eq_of_beq_eq_true h3) hW
    · exact pure_wp h hd (ho ▸ hW)
  · rename_i t x ho
    split at hW
    · exact hW.elim
    · exact hW.elim
    · rename_i e0 h0
      obtain ⟨u, hu, hn⟩ := X.plain (t := t) (by rw [h0]; exact fun h => by cases h) (by rw [h0]; exact fun h => by cases h)
      rcases hW with hW | hW
      · obtain ⟨us, ds', M', hK, fr⟩ := frzA_run [σ.ev x] (fun _ => a.eval x) _ M σ h (FIn.of h) (fun i d' hi => by
          match i, hi with
          | 0, hi => simp at hi; subst hi; exact h.ev x) hW
        split at hK
        · rename_i d
          obtain ⟨hc, hK⟩ := condW_no hK
          simp only [Bool.and_eq_true] at hc
          have hr := fr.re 0 d rfl
          have he : (execOp a.eval o).run X.P w = .ok (.value (.iface t (a.eval x))) w := by
            cases u <;> first | exact absurd rfl (hn _) | simp [execOp, ho, Instr.makeInterface, run_underlying hu]
          exact wp_value he ⟨M', β, _, fr.si.put hd (.ifc (hr.frz hc.2)), hK⟩
        · exact hK.elim
      · obtain ⟨l, s, n, he0, hK⟩ := ifoW_spec hW
        have hr := h.ev x
        rw [he0] at hr
        have he : (execOp a.eval o).run X.P w = .ok (.value (.iface t (a.eval x))) w := by
          cases u <;> first | exact absurd rfl (hn _) | simp [execOp, ho, Instr.makeInterface, run_underlying hu]
        exact wp_value he ⟨M, β, _, h.put hd (.ifo hr), hK⟩
    · rename_i h1 h2 _
      obtain ⟨u, hu, hn⟩ := X.plain h1 h2
      obtain ⟨us, ds', M', hK, fr⟩ := frzA_run [σ.ev x] (fun _ => a.eval x) _ M σ h (FIn.of h) (fun i d' hi => by
        match i, hi with
        | 0, hi => simp at hi; subst hi; exact h.ev x) hW
      split at hK
      · rename_i d
        obtain ⟨hc, hK⟩ := condW_no hK
        simp only [Bool.and_eq_true] at hc
        have hr := fr.re 0 d rfl
        have he : (execOp a.eval o).run X.P w = .ok (.value (.iface t (a.eval x))) w := by
          cases u <;> first | exact absurd rfl (hn _) | simp [execOp, ho, Instr.makeInterface, run_underlying hu]
        exact wp_value he ⟨M', β, _, fr.si.put hd (.ifc (hr.frz hc.2)), hK⟩
      · exact hK.elim
  · rename_i fn first caps ho
    split at hW
    · rename_i f x r hf hc
      obtain ⟨us, ds', M', hK, fr⟩ := frzA_run ((x :: r).map σ.ev) (fun i => (first.map a.eval).getD i undef) _ M σ h (FIn.of h) (fun i d' hi => by
        rw [List.getElem?_map] at hi
        obtain ⟨y, hy, rfl⟩ := Option.map_eq_some_iff.1 hi
        rw [← hf] at hy
        have hy' : first[i]? = some y := by simpa using hy
        have : (first.map a.eval)[i]? = some (a.eval y) := by rw [Array.getElem?_map, hy']; rfl
        rw [getD_some this]
        exact h.ev y) hW
      obtain ⟨hz, hK⟩ := condW_no hK
      have hc' : caps = #[] := by cases caps; simp_all
      subst hc'
      have he : (execOp a.eval o).run X.P w = .ok (.value (.func (.func f) (first.map a.eval) #[])) w := by
        simp [execOp, ho, Instr.makeFunc]
      have hlen : first.size = (x :: r).length := by rw [← hf]; simp
      refine wp_value he ⟨M', β, _, fr.si.put hd (.mfn (by rw [fr.ln]; simp [hlen]) (fun i d hd' => ?_)), hK⟩
      exact (fr.re i d hd').frz (List.all_eq_true.1 hz d (List.mem_of_getElem? hd'))
    · exact pure_wp h hd (ho ▸ hW)
  · rename_i t r ho
    split at hW
    · rename_i kf k e l ht hl
      split at hW
      · rename_i hob
        obtain ⟨hk, hW⟩ := condW_no hW
        rcases hW with hW | hW
        · exact makeMap_wp h ho ht hl (hd l hl) hob hk hW
        · exact makeMapP_wp h ho ht hl (hd l hl) hob hk hW.h
      · exact hW.elim
    · exact hW.elim
  · rename_i t m k x ho
    rw [fD_eq] at hW
    exact mapIns_wp h (.inr ho) (hst (by rw [ho]; rfl)) hW
  · rename_i t m k x ho
    rw [fD_eq] at hW
    exact mapIns_wp h (.inl ho) (hst (by rw [ho]; rfl)) hW
  · rename_i t m k ok ho
    exact lookup_wp (X.keep w0 w hG (h.kp.mono (X.gsz w0 hG) (fun b hb hs => absurd (hS b hs) (by omega)))) h ho hd hW
  · rename_i t m k ho
    exact mapEntry_wp h ho hd hW
  · rename_i t m s x ho
    rw [fD_eq] at hW
    exact entryStore_wp h ho (hst (by rw [ho]; rfl)) hW
  · exact pure_wp h hd hW
end
end Go.Proofs.YteojgenhgjhohaaDoor
