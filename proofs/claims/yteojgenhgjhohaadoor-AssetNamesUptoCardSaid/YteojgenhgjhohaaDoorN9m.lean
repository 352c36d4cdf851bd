/-
  Own maps, over any program: made, looked into, written.
-/
import Derived.Test.YteojgenhgjhohaaDoorN9b
import Derived.Maps.Own
namespace Go.Proofs.YteojgenhgjhohaaDoor
open Go.RowKit Go.ChangeMaps
set_option linter.unusedVariables false
set_option linter.unusedSimpArgs false

section
variable {κ : Type} {X : Cx κ} {M0 M : Nat → Nat → Prop} {S0 : Ln} {w0 w : World} {N : Nat} {β β' : Bt} {σ : St κ} {a : Act} {Q : Exit → Act → World → Prop}

theorem Rep.frz {d : D κ} {x : Value} (h : Rep X.V M w β d x) (hf : d.frz = true) : Rep X.V M w β' d x := by
  cases h with
  | agg hn h1 h => exact .agg hn h1 (fun i d hd => ((h i d hd).frz0 (List.all_eq_true.1 hf d (List.mem_of_getElem? hd))).of_b0)
  | v h => exact .v h
  | und => exact .und
  | @fn _ f cs vs hn h =>
    match cs, hf with
    | [], _ => exact .fn hn (fun i d hd => by simp at hd)
  | nil hc hA => exact .nil hc hA
  | sl u hc hm hb hu h => exact .sl u hc hm hb hu h
  | rc h => exact .rc h.sl_at
  | ref u hu h => exact .ref u hu h
  | ifc h => exact .ifc h
  | mfn hn h => exact .mfn hn h
  | _ => cases hf
theorem Rep.frzT {d : D κ} {x : Value} (h : Rep X.V M w β d x) (hf : d.frzT = true) : Rep X.V M w β' d x := by
  have h' := h
  cases h with
  | tup hn h => exact .tup hn (fun i d hd => (h i d hd).frz (List.all_eq_true.1 hf d (List.mem_of_getElem? hd)))
  | fn hn h => exact .fn hn (fun i d hd => ((h i d hd).frz0 (List.all_eq_true.1 hf d (List.mem_of_getElem? hd))).of_b0)
  | _ => exact h'.frz hf

theorem strL_spec : ∀ {cs : List (D κ)} {K : List ByteArray → Prop}, strL cs K → ∃ l, cs = l.map (fun s => .v (.string s)) ∧ K l
  | [], _, h => ⟨[], rfl, h⟩
  | d :: r, K, h => by
    unfold strL at h
    rw [fD_eq] at h
    split at h
    · obtain ⟨l, rfl, h2⟩ := strL_spec h
      exact ⟨_ :: l, rfl, h2⟩
    · exact h.elim
theorem keyW_gives {kf : KF} {d : D κ} {x : Value} {K : Value → Prop} (hx : Rep X.V M w β d x) (h : keyW kf d K) : kf.ok x ∧ K x := by
  unfold keyW at h
  split at h
  · split at h
    · obtain ⟨rfl, ho⟩ := hx.val
      exact ⟨⟨_, rfl, of_decide_eq_true ho⟩, h⟩
    · exact h.elim
  · split at h
    · obtain ⟨rfl, _⟩ := hx.val
      exact ⟨⟨_, rfl, h.1.1, h.1.2⟩, h.2⟩
    · exact h.elim
  · split at h
    · obtain ⟨hn, h⟩ := condW_no h
      have hn := Nat.eq_of_beq_eq_true hn
      obtain ⟨l, rfl, h5⟩ := strL_spec h
      cases hx with
      | @agg _ _ vs hs h1 hr =>
        have hg : ∀ (i : Nat) s, l[i]? = some s → vs[i]? = some (.string s) ∧ s.size ≤ maxLen := fun i s hi => by
          have h2 := hr i (.v (.string s)) (by rw [List.getElem?_map, hi]; rfl)
          obtain ⟨h3, h4⟩ := h2.val
          have hil : i < vs.size := by
            have := (List.getElem?_eq_some_iff.1 hi).1
            simpa [hs] using this
          refine ⟨?_, of_decide_eq_true h4⟩
          rw [Array.getElem?_eq_getElem hil]
          simp only [Array.getD, hil, dite_true] at h3
          exact congrArg some h3
        have e : vs = (l.map .string).toArray := by
          apply Array.ext
          · simpa using hs
          · intro i h1 h2
            have hi : i < l.length := by simpa using h2
            have := (hg i l[i] (List.getElem?_eq_getElem hi)).1
            rw [Array.getElem?_eq_getElem h1] at this
            simpa using this
        subst e
        refine ⟨⟨l, by simpa using hn, rfl, fun s hs' => ?_⟩, h5⟩
        obtain ⟨i, hi, rfl⟩ := List.getElem_of_mem hs'
        exact (hg i _ (List.getElem?_eq_getElem hi)).2
    · exact h.elim
theorem zeroD_rep {t : TypeId} (h1 : (X.T t).k ≠ .other) : Rep X.V M w β (zeroD (X.T t) : D κ) (X.T t).zero := by
  obtain ⟨d, hd, e⟩ := zero_gives (X := X) (M := M) (w := w) (β := β) (t := t) (K := fun d => d = zeroD (X.T t)) h1 (by
    unfold zeroW zeroD
    cases (X.T t).isAgg
    · rfl
    · simp only [fL_eq])
  exact e ▸ hd

theorem nodup_inj {α : Type} {l : List α} (h : l.Nodup) {i j : Nat} (hi : i < l.length) (hj : j < l.length) (e : l[i] = l[j]) : i = j := by
  rcases Nat.lt_trichotomy i j with h1 | h1 | h1
  · exact absurd e (List.pairwise_iff_getElem.1 h i j hi hj h1)
  · exact h1
  · exact absurd e.symm (List.pairwise_iff_getElem.1 h j i hj hi h1)
theorem map_at (h : Sim X M0 S0 w0 N M β σ a w) {l t : Nat} {es : List (Value × D κ)} {x : Operand} (hl : σ.ob l = some (.map t es, false)) (hx : σ.ev x = .mp l) {kf : KF} {k e : Nat} (ht : (X.T t).k = .map kf k e) :
    false = false ∧ (X.T e).known = true ∧ X.P.underlying t = some (.map k e) ∧ Go.Maps.Keyed X.P k ∧ (∀ v, kf.ok v → ∃ l, keyOf X.P k v = some l) ∧ (∀ p ∈ es, kf.ok p.1) ∧ (es.map (·.1)).Nodup ∧
    ∃ b c arr clk, β l = some (some (b, c)) ∧ a.eval x = .map (some b) ∧ w.heap[b]? = some (.map arr clk) ∧ arr.toList.map (·.key) = es.map (·.1) ∧ (∀ i d, (es.map (·.2))[i]? = some d → Rep X.V M w b0 d (arr.getD i default).val) ∧ (∀ q, ¬ M b q) ∧ Bn arr clk := by
  obtain ⟨_, rfl, ⟨kf', k', e', h1, h2, h3, h4⟩, b, c, arr, clk, g1, g2, g3, g4, g5⟩ := h.ob l _ _ hl
  rw [ht] at h1
  injection h1 with e1 e2 e3
  subst e1 e2 e3
  have hf := X.form t
  rw [ht] at hf
  obtain ⟨f1, f2, f3⟩ := hf
  refine ⟨rfl, h2, f1, f2, f3, h3, h4, b, c, arr, clk, g1, ?_, g2, g3, g4, g5⟩
  have hr := h.ev x
  rw [hx] at hr
  cases hr' : a.eval x <;> rw [hr'] at hr <;> cases hr
  rename_i hb
  rw [g1] at hb
  injection hb with hb
  injection hb with hb
  injection hb with hb _
  rw [hb]
theorem arr_keys {arr : Array MapEntry} {es : List (Value × D κ)} (h : arr.toList.map (·.key) = es.map (·.1)) : arr.size = es.length ∧ ∀ (i : Nat) (e : MapEntry) (p : Value × D κ), arr.toList[i]? = some e → es[i]? = some p → e.key = p.1 := by
  refine ⟨by simpa using congrArg List.length h, fun i e p he hp => ?_⟩
  have := congrArg (fun l => l[i]?) h
  simp only [List.getElem?_map, he, hp, Option.map_some, Option.some.injEq] at this
  exact this
theorem look_fin (h : Sim X M0 S0 w0 N M β σ a w) {o : Oper} {K : St κ → Prop} {t : TypeId} {x y : Operand} {ok : Bool} (ho : o.op = .lookup t x y ok) (hd : ∀ k, o.dst = some k → k < N) {kf : KF} {k e : Nat} {es : List (Value × D κ)} {b clk : Nat} {arr : Array MapEntry}
    (hke : (X.T e).known = true) (hu : X.P.underlying t = some (.map k e)) (K1 : Go.Maps.Keyed X.P k) (hkey : ∀ v, kf.ok v → ∃ l, keyOf X.P k v = some l) (hes : ∀ p ∈ es, kf.ok p.1) (hnd : (es.map (·.1)).Nodup) (hv : a.eval x = .map (some b)) (hA : w.heap[b]? = some (.map arr clk)) (hks : arr.toList.map (·.key) = es.map (·.1)) (hvs : ∀ i d, (es.map (·.2))[i]? = some d → Rep X.V M w b0 d (arr.getD i default).val)
    (hW2 : keyW kf (σ.ev y) fun kv => ∃ q : Bool × D κ, Look es kv (zeroD (X.T e)) q ∧ fD q.2 fun d => match ok with | true => K (σ.put o.dst (.tup [d, .v (.bool q.1)])) | false => K (σ.put o.dst d)) : o.wp X.P a w (Post X M0 S0 w0 N K) Q := by
  obtain ⟨hok, q, hq, hK⟩ := keyW_gives (h.ev y) hW2
  rw [fD_eq] at hK
  obtain ⟨lk, hlk⟩ := hkey _ hok
  obtain ⟨hsz, hkk⟩ := arr_keys hks
  have hz := run_zero X (TyI.known_ne hke) w
  have fin : ∀ v, Rep X.V M w β q.2 v → (Instr.lookup t (.map (some b)) (a.eval y) ok).run X.P w = .ok (if ok then .tuple #[v, .bool q.1] else v) w → o.wp X.P a w (Post X M0 S0 w0 N K) Q := fun v hr hrun => by
    have he : (execOp a.eval o).run X.P w = .ok (.value (if ok then .tuple #[v, .bool q.1] else v)) w := by
      simp [execOp, ho, hv, hrun]
    cases ok
    · exact wp_value he ⟨M, β, _, h.put hd hr, hK⟩
    · exact wp_value he ⟨M, β, _, h.put hd (rep_tup2 hr), hK⟩
  rcases K1.find w hlk arr.toList (fun e he => by
    have : e.key ∈ arr.toList.map (·.key) := List.mem_map.2 ⟨e, he, rfl⟩
    rw [hks] at this
    obtain ⟨p, hp, hpe⟩ := List.mem_map.1 this
    exact hkey _ (hpe ▸ hes p hp)) with ⟨h1, h2⟩ | ⟨j, e0, h1, h2, h3⟩
  · have hno : ∀ p ∈ es, p.1 ≠ a.eval y := fun p hp hpe => by
      have : p.1 ∈ es.map (·.1) := List.mem_map.2 ⟨p, hp, rfl⟩
      rw [← hks] at this
      obtain ⟨e, he, hee⟩ := List.mem_map.1 this
      exact h2 e he (hee.trans hpe)
    rcases hq with ⟨p, hp, hpe, _⟩ | ⟨_, rfl⟩
    · exact absurd hpe (hno p hp)
    · exact fin _ (zeroD_rep (TyI.known_ne hke)) (by simp [Instr.lookup, run_underlying hu, MapKept.run_getObj_map hA, K1.check w _ hlk, h1, hz, Result.andThen])
  · have hjl : j < es.length := by
      have := (List.getElem?_eq_some_iff.1 h2).1
      simp at this
      omega
    have hp := hkk j e0 es[j] h2 (List.getElem?_eq_getElem hjl)
    have hr := hvs j es[j].2 (by rw [List.getElem?_map, List.getElem?_eq_getElem hjl]; rfl)
    have he0 : arr.getD j default = e0 := by
      have : arr[j]? = some e0 := by simpa using h2
      simp [Array.getD_eq_getD_getElem?, this]
    rw [he0] at hr
    have hrun : (Instr.lookup t (.map (some b)) (a.eval y) ok).run X.P w = .ok (if ok then .tuple #[e0.val, .bool true] else e0.val) w := by
      simp [Instr.lookup, run_underlying hu, MapKept.run_getObj_map hA, K1.check w _ hlk, h1, Result.andThen]
    rcases hq with ⟨p, hp', hpe, rfl⟩ | ⟨hno, _⟩
    · have : p = es[j] := by
        obtain ⟨i, hi, rfl⟩ := List.getElem_of_mem hp'
        have e1 : (es.map (·.1))[i]'(by simpa using hi) = (es.map (·.1))[j]'(by simpa using hjl) := by simp [hpe, ← hp, h3]
        have := nodup_inj hnd _ _ e1
        subst this
        rfl
      subst this
      exact fin _ hr.of_b0 hrun
    · exact absurd (by rw [← hp]; exact h3) (hno es[j] (List.getElem_mem hjl))
theorem lookup_wp (hGw : X.G w) (h : Sim X M0 S0 w0 N M β σ a w) {o : Oper} {K : St κ → Prop} {t : TypeId} {x y : Operand} {ok : Bool} (ho : o.op = .lookup t x y ok) (hd : ∀ k, o.dst = some k → k < N) (hW : lookW X σ.ob t ok (σ.ev x) (σ.ev y) fun d => K (σ.put o.dst d)) : o.wp X.P a w (Post X M0 S0 w0 N K) Q := by
  unfold lookW at hW
  split at hW
  · rename_i kf k e ht
    split at hW
    · rename_i l hx
      split at hW
      · rename_i t' es hl
        obtain ⟨htt, hW2⟩ := condW_no hW
        obtain rfl := Nat.eq_of_beq_eq_true htt
        obtain ⟨_, hke, hu, K1, hkey, hes, hnd, b, c, arr, clk, hb, hv, hA, hks, hvs, hid⟩ := map_at h hl hx ht
        exact look_fin h ho hd hke hu K1 hkey hes hnd hv hA hks hvs hW2
      · exact hW.elim
    · rename_i b hx
      obtain ⟨es, ⟨hes, hnd, hG⟩, hW⟩ := hW
      obtain ⟨hke, hW2⟩ := condW_no hW
      obtain ⟨arr, clk, hA, hks, hvs⟩ := hG w hGw
      have hf := X.form t
      rw [ht] at hf
      obtain ⟨f1, f2, f3⟩ := hf
      have hr := h.ev x
      rw [hx] at hr
      exact look_fin h ho hd hke f1 f2 f3 hes hnd hr.val.1 hA hks (fun i d hi => (hvs i d hi).mono (fun _ _ h => h.elim) (fun _ _ h => h.elim)) hW2
    · exact hW.elim
  · exact hW.elim
theorem makeMap_wp (h : Sim X M0 S0 w0 N M β σ a w) {o : Oper} {K : St κ → Prop} {t : TypeId} {l k e : Nat} {kf : KF} (ho : o.op = .makeMap t none) (ht : (X.T t).k = .map kf k e) (hdst : o.dst = some l) (hl : l < N) (hob : σ.ob l = none) (hk : (X.T e).known = true)
    (hK : K ((σ.setOb l (.map t []) false).put o.dst (.mp l))) : o.wp X.P a w (Post X M0 S0 w0 N K) Q := by
  have he : (execOp a.eval o).run X.P w = .ok (.value (.map (some w.heap.size))) (w.alloc (.map #[] 0)) := by
    simp [execOp, ho, run_makeMap]
  have h1 := h.fresh (l := l) (c := 0) (o := .map t []) hob (kp_alloc w w (.map #[] 0) ⟨rfl, rfl, rfl, rfl⟩) ⟨_, rfl, ⟨kf, k, e, ht, hk, fun p hp => by simp at hp, List.nodup_nil⟩, w.heap.size, 0, #[], 0, upd_at _ _ _, alloc_at w w _ rfl, rfl, fun i d hd => by simp at hd, fun q hq => absurd (h.mlt _ _ hq) (by omega), rfl, rfl⟩
  exact wp_value he ⟨M, _, _, h1.put (fun k hk => by rw [hdst] at hk; injection hk with hk; omega) (.mp (upd_at _ _ _)), hK⟩
theorem mset_spec (es : List (Value × D κ)) (k : Value) (d : D κ) : ((∀ p ∈ es, p.1 ≠ k) ∧ mset es k d = es ++ [(k, d)]) ∨ ((∃ p ∈ es, p.1 = k) ∧ (mset es k d).map (·.1) = es.map (·.1) ∧ (mset es k d).length = es.length ∧ ∀ (i : Nat) (p : Value × D κ), es[i]? = some p → (p.1 = k ∧ ((mset es k d).map (·.2))[i]? = some d) ∨ (p.1 ≠ k ∧ ((mset es k d).map (·.2))[i]? = some p.2)) := by
  by_cases h : ∃ p ∈ es, p.1 = k
  · refine .inr ⟨h, ?_, ?_, fun i p hp => ?_⟩
    · unfold mset
      rw [if_pos h, List.map_map]
      refine List.map_congr_left fun p _ => ?_
      simp only [Function.comp]
      split
      · rename_i e; exact e.symm
      · rfl
    · unfold mset
      rw [if_pos h, List.length_map]
    · unfold mset
      rw [if_pos h, List.map_map, List.getElem?_map, hp]
      by_cases e : p.1 = k
      · exact .inl ⟨e, by simp [e]⟩
      · exact .inr ⟨e, by simp [e]⟩
  · have h' : ∀ p ∈ es, p.1 ≠ k := fun p hp e => h ⟨p, hp, e⟩
    exact .inl ⟨h', by unfold mset; rw [if_neg h]⟩
theorem bn_push {arr : Array MapEntry} {clk : Nat} {k v : Value} (h : Bn arr clk) : Bn (arr.push ⟨k, v, clk⟩) (clk + 1) := by
  obtain ⟨h1, rfl⟩ := h
  refine ⟨?_, by rw [Array.size_push]⟩
  rw [Array.toList_push, List.map_append, h1, Array.size_push, List.range_succ]
  rfl
theorem bn_set {arr arr' : Array MapEntry} {clk j : Nat} {e0 : MapEntry} {k v : Value} (h : Bn arr clk) (h2 : arr.toList[j]? = some e0) (hl : arr'.toList = arr.toList.set j { e0 with key := k, val := v }) : Bn arr' clk := by
  obtain ⟨h1, h3⟩ := h
  have hs : arr'.size = arr.size := by
    have := congrArg List.length hl
    simpa using this
  refine ⟨?_, by rw [hs]; exact h3⟩
  rw [hs, ← h1, hl, List.map_set]
  apply List.ext_getElem?
  intro i
  by_cases hij : j = i
  · subst hij
    rw [List.getElem?_set_self (by simpa using (List.getElem?_eq_some_iff.1 h2).1), List.getElem?_map, h2]
    rfl
  · rw [List.getElem?_set_ne hij]
theorem mapSetE_wp (h : Sim X M0 S0 w0 N M β σ a w) {o : Oper} {K : St κ → Prop} {t' : TypeId} {x y z : Operand} (ho : o.op = .mapUpdate t' x y z ∨ o.op = .insert t' x y z) (hdst : o.dst = none) {dz : D κ} (hz : Rep X.V M w β dz (a.eval z)) {kf : KF} {k e : Nat} (ht : (X.T t').k = .map kf k e) {l : Nat} (hx : σ.ev x = .mp l) {es : List (Value × D κ)} (hl : σ.ob l = some (.map t' es, false)) (hfz : dz.frz = true) (hok : kf.ok (a.eval y))
    (hK : K (σ.setOb l (.map t' (mset es (a.eval y) dz)) false)) : o.wp X.P a w (Post X M0 S0 w0 N K) Q := by
  obtain ⟨_, hke, hu, K1, hkey, hes, hnd, b, c, arr, clk, hb, hv, hA, hks, hvs, hid, hbn⟩ := map_at h hl hx ht
  obtain ⟨lk, hlk⟩ := hkey _ hok
  obtain ⟨hsz, hkk⟩ := arr_keys hks
  have hrv : Rep X.V M w b0 dz (a.eval z) := hz.frz hfz
  have hkp : ∀ arr' clk', Kp w.heap.size (fun i => i = b) w (setBlock w b (.map arr' clk')) := fun arr' clk' => ⟨rfl, rfl, rfl, by simp [setBlock], fun i _ hi => heap_setBlock_other hA _ hi⟩
  have hblk : b < w.heap.size := heap_lt hA
  have fin : ∀ arr' clk', (Instr.mapUpdate t' (.map (some b)) (a.eval y) (a.eval z)).run X.P w = .ok () (setBlock w b (.map arr' clk')) → arr'.toList.map (·.key) = (mset es (a.eval y) dz).map (·.1) →
      (∀ p ∈ mset es (a.eval y) dz, kf.ok p.1) → ((mset es (a.eval y) dz).map (·.1)).Nodup →
      (∀ i d, ((mset es (a.eval y) dz).map (·.2))[i]? = some d → Rep X.V M w b0 d (arr'.getD i default).val) → Bn arr' clk' → o.wp X.P a w (Post X M0 S0 w0 N K) Q := fun arr' clk' hrun g1 g2 g3 g4 g5 => by
    have hcell : ∀ b' o', M b' o' → (setBlock w b (.map arr' clk')).cell? ⟨b', o', none⟩ = w.cell? ⟨b', o', none⟩ := fun b' o' hm => (hkp arr' clk').cell (h.mlt _ _ hm) (fun e => hid o' (e ▸ hm))
    have h1 := h.storedW (hkp arr' clk') hl rfl hb (o := .map t' (mset es (a.eval y) dz)) ⟨_, rfl, ⟨kf, k, e, ht, hke, g2, g3⟩, b, c, arr', clk', hb, heap_setBlock_same hA _, g1, fun i d hd => (g4 i d hd).mono (fun _ _ h => h) hcell, hid, g5⟩
    have he : (execOp a.eval o).run X.P w = .ok .skip (setBlock w b (.map arr' clk')) := by
      rcases ho with ho | ho <;> simp [execOp, ho, hv, hrun]
    refine wp_skip_ hdst he ⟨M, β, _, h1, ?_⟩
    exact hK
  rcases K1.find w hlk arr.toList (fun e he => by
    have : e.key ∈ arr.toList.map (·.key) := List.mem_map.2 ⟨e, he, rfl⟩
    rw [hks] at this
    obtain ⟨p, hp, hpe⟩ := List.mem_map.1 this
    exact hkey _ (hpe ▸ hes p hp)) with ⟨h1, h2⟩ | ⟨j, e0, h1, h2, h3⟩
  · have hno : ∀ p ∈ es, p.1 ≠ a.eval y := fun p hp hpe => by
      have : p.1 ∈ es.map (·.1) := List.mem_map.2 ⟨p, hp, rfl⟩
      rw [← hks] at this
      obtain ⟨e, he, hee⟩ := List.mem_map.1 this
      exact h2 e he (hee.trans hpe)
    rcases mset_spec es (a.eval y) dz with ⟨_, hm⟩ | ⟨⟨p, hp, hpe⟩, _⟩
    · rw [hm] at fin
      refine fin (arr.push ⟨a.eval y, a.eval z, clk⟩) (clk + 1) ?_ ?_ ?_ ?_ ?_ (bn_push hbn)
      · simp [Instr.mapUpdate, run_underlying hu, MapKept.run_getObj_map hA, K1.check w false hlk, h1, MapKept.run_setObj_map _ hA, Result.andThen, setBlock]
      · simp [hks]
      · intro p hp
        rcases List.mem_append.1 hp with hp | hp
        · exact hes p hp
        · obtain rfl := List.mem_singleton.1 hp
          exact hok
      · rw [List.map_append, List.nodup_append]
        refine ⟨hnd, by simp, fun a ha b hb' => ?_⟩
        obtain ⟨p, hp, rfl⟩ := List.mem_map.1 ha
        simp only [List.map_cons, List.map_nil, List.mem_singleton] at hb'
        rw [hb']
        exact hno p hp
      · intro i d hd
        rw [List.map_append] at hd
        rcases Nat.lt_or_ge i es.length with hi | hi
        · rw [List.getElem?_append_left (by simpa using hi)] at hd
          have : (arr.push ⟨a.eval y, a.eval z, clk⟩).getD i default = arr.getD i default := by
            simp only [Array.getD_eq_getD_getElem?]
            rw [Array.getElem?_push_lt (by omega), Array.getElem?_eq_getElem (by omega)]
          rw [this]
          exact hvs i d hd
        · rw [List.getElem?_append_right (by simpa using hi)] at hd
          simp only [List.length_map, List.map_cons, List.map_nil] at hd
          have hi0 : i = es.length := by
            rcases Nat.lt_or_ge 0 (i - es.length) with h0 | h0
            · rw [List.getElem?_eq_none (by simp only [List.length_cons, List.length_nil]; omega)] at hd; cases hd
            · omega
          subst hi0
          rw [Nat.sub_self] at hd
          simp only [List.getElem?_cons_zero, Option.some.injEq] at hd
          subst hd
          have : (arr.push ⟨a.eval y, a.eval z, clk⟩).getD es.length default = ⟨a.eval y, a.eval z, clk⟩ := by
            rw [← hsz]
            simp [Array.getD_eq_getD_getElem?]
          rw [this]
          exact hrv
    · exact absurd hpe (hno p hp)
  · have hj : arr[j]? = some e0 := by simpa using h2
    have hjl : j < es.length := by
      have := (List.getElem?_eq_some_iff.1 h2).1
      simp at this
      omega
    have hp := hkk j e0 es[j] h2 (List.getElem?_eq_getElem hjl)
    have hlist : (arr.modify j (fun e' => { e' with key := a.eval y, val := a.eval z })).toList = arr.toList.set j { e0 with key := a.eval y, val := a.eval z } := by rw [Array.toList_modify, modify_eq_set _ _ _ _ h2]
    rcases mset_spec es (a.eval y) dz with ⟨hno, _⟩ | ⟨_, m1, m2, m3⟩
    · exact absurd (by rw [← hp]; exact h3) (hno es[j] (List.getElem_mem hjl))
    · refine fin (arr.modify j (fun e' => { e' with key := a.eval y, val := a.eval z })) clk ?_ ?_ ?_ ?_ ?_ (bn_set hbn h2 hlist)
      · simp [Instr.mapUpdate, run_underlying hu, MapKept.run_getObj_map hA, K1.check w false hlk, h1, hj, h3, K1.stays w hlk, MapKept.run_setObj_map _ hA, Result.andThen, setBlock]
      · rw [m1, ← hks, hlist, List.map_set]
        simp only
        apply List.ext_getElem?
        intro i
        by_cases hij : j = i
        · subst hij
          rw [List.getElem?_set_self (by simpa using (List.getElem?_eq_some_iff.1 h2).1), List.getElem?_map, h2]
          simp [h3]
        · rw [List.getElem?_set_ne hij]
      · intro p hp'
        have : p.1 ∈ (mset es (a.eval y) dz).map (·.1) := List.mem_map.2 ⟨p, hp', rfl⟩
        rw [m1] at this
        obtain ⟨p', hp'', e⟩ := List.mem_map.1 this
        exact e ▸ hes p' hp''
      · rw [m1]; exact hnd
      · intro i d hd
        have hil : i < es.length := by
          have := (List.getElem?_eq_some_iff.1 hd).1
          simpa [m2] using this
        have hmod : (arr.modify j (fun e' => { e' with key := a.eval y, val := a.eval z })).getD i default = if j = i then { e0 with key := a.eval y, val := a.eval z } else arr.getD i default := by
          simp only [Array.getD_eq_getD_getElem?]
          rw [← Array.getElem?_toList, hlist]
          by_cases hij : j = i
          · subst hij
            rw [if_pos rfl, List.getElem?_set_self (by simpa using (List.getElem?_eq_some_iff.1 h2).1)]
            rfl
          · rw [if_neg hij, List.getElem?_set_ne hij, Array.getElem?_toList]
        rw [hmod]
        rcases m3 i es[i] (List.getElem?_eq_getElem hil) with ⟨e1, e2⟩ | ⟨e1, e2⟩
        · rw [e2] at hd
          injection hd with hd
          subst hd
          have : j = i := by
            have e3 : (es.map (·.1))[i]'(by simpa using hil) = (es.map (·.1))[j]'(by simpa using hjl) := by simp [e1, ← hp, h3]
            exact (nodup_inj hnd _ _ e3).symm
          rw [if_pos this]
          exact hrv
        · rw [e2] at hd
          injection hd with hd
          subst hd
          have : ¬ j = i := fun e => e1 (by subst e; rw [← hp]; exact h3)
          rw [if_neg this]
          exact hvs i _ (by rw [List.getElem?_map, List.getElem?_eq_getElem hil]; rfl)
theorem mset_perm {es e0 : List (Value × D κ)} (h : e0.Perm es) (k : Value) (d : D κ) : (mset e0 k d).Perm (mset es k d) := by
  unfold mset
  by_cases c : ∃ p ∈ es, p.1 = k
  · rw [if_pos c, if_pos (c.imp fun p hp => ⟨h.mem_iff.2 hp.1, hp.2⟩)]
    exact h.map _
  · rw [if_neg c, if_neg (fun g => c (g.imp fun p hp => ⟨h.mem_iff.1 hp.1, hp.2⟩))]
    exact h.append_right _
open Classical in
theorem mset_eq (es : List (Value × D κ)) (k : Value) (d : D κ) : mset es k d = if ∃ p ∈ es, p.1 = k then es.map (fun p => if p.1 = k then (k, d) else p) else es ++ [(k, d)] := by unfold mset; rfl
open Classical in
theorem mset_swap {es : List (Value × D κ)} {k q : Value} {d r : D κ} (hne : k ≠ q) : (mset (mset es k d) q r).Perm (mset (mset es q r) k d) := by
  have hc : ∀ {es : List (Value × D κ)} {k q : Value} {d : D κ}, k ≠ q → ((∃ p ∈ mset es k d, p.1 = q) ↔ ∃ p ∈ es, p.1 = q) := by
    intro es k q d hne
    unfold mset
    split
    · constructor
      · rintro ⟨p, hp, hq⟩
        obtain ⟨p', hp', rfl⟩ := List.mem_map.1 hp
        by_cases e : p'.1 = k
        · rw [if_pos e] at hq; exact absurd hq hne
        · rw [if_neg e] at hq; exact ⟨p', hp', hq⟩
      · rintro ⟨p, hp, hq⟩
        refine ⟨p, List.mem_map.2 ⟨p, hp, if_neg fun e => hne (e.symm.trans hq)⟩, hq⟩
    · constructor
      · rintro ⟨p, hp, hq⟩
        rcases List.mem_append.1 hp with hp | hp
        · exact ⟨p, hp, hq⟩
        · rw [List.mem_singleton] at hp; subst hp; exact absurd hq hne
      · rintro ⟨p, hp, hq⟩
        exact ⟨p, List.mem_append_left _ hp, hq⟩
  have e1 : mset (mset es k d) q r = if ∃ p ∈ es, p.1 = q then (mset es k d).map (fun p => if p.1 = q then (q, r) else p) else mset es k d ++ [(q, r)] := by
    by_cases c : ∃ p ∈ es, p.1 = q
    · rw [if_pos c, mset_eq (mset es k d), if_pos ((hc hne).2 c)]
    · rw [if_neg c, mset_eq (mset es k d), if_neg (fun g => c ((hc hne).1 g))]
  have e2 : mset (mset es q r) k d = if ∃ p ∈ es, p.1 = k then (mset es q r).map (fun p => if p.1 = k then (k, d) else p) else mset es q r ++ [(k, d)] := by
    by_cases c : ∃ p ∈ es, p.1 = k
    · rw [if_pos c, mset_eq (mset es q r), if_pos ((hc (Ne.symm hne)).2 c)]
    · rw [if_neg c, mset_eq (mset es q r), if_neg (fun g => c ((hc (Ne.symm hne)).1 g))]
  have m1 : mset es k d = if ∃ p ∈ es, p.1 = k then es.map (fun p => if p.1 = k then (k, d) else p) else es ++ [(k, d)] := by unfold mset; rfl
  have m2 : mset es q r = if ∃ p ∈ es, p.1 = q then es.map (fun p => if p.1 = q then (q, r) else p) else es ++ [(q, r)] := by unfold mset; rfl
  rw [e1, e2, m1, m2]
  by_cases c1 : ∃ p ∈ es, p.1 = k <;> by_cases c2 : ∃ p ∈ es, p.1 = q
  · simp only [if_pos c1, if_pos c2, List.map_map]
    refine List.Perm.of_eq (List.map_congr_left fun p _ => ?_)
    simp only [Function.comp]
    by_cases a1 : p.1 = k
    · have a2 : ¬ p.1 = q := fun g => hne (a1.symm.trans g)
      rw [if_pos a1, if_neg a2, if_pos a1, if_neg hne]
    · by_cases a2 : p.1 = q
      · rw [if_neg a1, if_pos a2]; exact (if_neg (Ne.symm hne)).symm
      · rw [if_neg a1, if_neg a2]; exact (if_neg a1).symm
  · simp only [if_pos c1, if_neg c2, List.map_append, List.map_cons, List.map_nil, if_neg (Ne.symm hne)]
    exact List.Perm.refl _
  · simp only [if_neg c1, if_pos c2, List.map_append, List.map_cons, List.map_nil, if_neg hne]
    exact List.Perm.refl _
  · simp only [if_neg c1, if_neg c2, List.append_assoc]
    exact List.Perm.append_left _ (List.Perm.swap _ _ _)
theorem mapSet_wp (h : Sim X M0 S0 w0 N M β σ a w) {o : Oper} {K : St κ → Prop} {t : TypeId} {x y z : Operand} (ho : o.op = .mapUpdate t x y z ∨ o.op = .insert t x y z) (hdst : o.dst = none) {dz : D κ} (hz : Rep X.V M w β dz (a.eval z))
    (hW : msetW X σ.ob t (σ.ev x) (σ.ev y) dz fun us => K ((σ.ups us).put o.dst .und)) : o.wp X.P a w (Post X M0 S0 w0 N K) Q := by
  rw [hdst] at hW
  unfold msetW at hW
  split at hW
  · rename_i kf k e ht
    split at hW
    · rename_i l hx
      split at hW
      · rename_i t' es hl
        obtain ⟨hc, hW2⟩ := condW_no hW
        simp only [Bool.and_eq_true] at hc
        obtain ⟨⟨htt, hgd⟩, hfz⟩ := hc
        obtain rfl := Nat.eq_of_beq_eq_true htt
        obtain ⟨hok, hK⟩ := keyW_gives (h.ev y) hW2
        exact mapSetE_wp h ho hdst hz ht hx hl hfz hok hK
      · rename_i t' es hl
        obtain ⟨hc, hW2⟩ := condW_no hW
        simp only [Bool.and_eq_true] at hc
        obtain ⟨⟨htt, hgd⟩, hfz⟩ := hc
        obtain rfl := Nat.eq_of_beq_eq_true htt
        obtain ⟨hok, hK⟩ := keyW_gives (h.ev y) hW2
        obtain ⟨e0, hp, hs⟩ := h.unperm hl
        have hev : (σ.setOb l (.map t' e0) false).ev x = .mp l := by rw [← hx]; cases x <;> rfl
        have hob : (σ.setOb l (.map t' e0) false).ob l = some (.map t' e0, false) := by simp only [St.setOb, beq_yes, cond_true]
        refine Oper.wp_mono (fun a' w' ⟨M', β', τ, g1, g2⟩ => ?_) (mapSetE_wp (K := fun τ => τ = (σ.setOb l (.map t' e0) false).setOb l (.map t' (mset e0 (a.eval y) dz)) false) hs ho hdst hz ht hev hob hfz hok rfl)
        subst g2
        have g3 := g1.reperm (t := t') (l := l) (es := can (mset es (a.eval y) dz)) (by simp only [St.setOb, beq_yes, cond_true]) ((mset_perm hp _ _).trans (can_perm _).symm)
        refine ⟨M', β', _, g3, ?_⟩
        refine Eq.mp (congrArg K ?_) hK
        refine St.ext' (fun i => rfl) (fun i => ?_) rfl
        by_cases e : i = l
        · subst e
          simp only [St.ups, St.put, St.setOb, beq_yes, cond_true]
        · simp only [St.ups, St.put, St.setOb, beq_no e, cond_false]
      · exact hW.elim
    · exact hW.elim
  · exact hW.elim
theorem makeMapP_wp (h : Sim X M0 S0 w0 N M β σ a w) {o : Oper} {K : St κ → Prop} {t : TypeId} {l k e : Nat} {kf : KF} (ho : o.op = .makeMap t none) (ht : (X.T t).k = .map kf k e) (hdst : o.dst = some l) (hl : l < N) (hob : σ.ob l = none) (hk : (X.T e).known = true)
    (hK : K ((σ.setOb l (.map t []) true).put o.dst (.mp l))) : o.wp X.P a w (Post X M0 S0 w0 N K) Q := by
  refine Oper.wp_mono (fun a' w' ⟨M', β', τ, g1, g2⟩ => ?_) (makeMap_wp (K := fun τ => τ = (σ.setOb l (.map t []) false).put o.dst (.mp l)) h ho ht hdst hl hob hk rfl)
  subst g2
  have g3 := g1.reperm (t := t) (l := l) (e0 := []) (es := []) (by rw [hdst]; simp only [St.put, St.setOb, beq_yes, cond_true]) (List.Perm.refl _)
  refine ⟨M', β', _, g3, ?_⟩
  refine Eq.mp (congrArg K ?_) hK
  refine St.ext' (fun i => ?_) (fun i => ?_) ?_
  · rw [hdst]; rfl
  · rw [hdst]
    by_cases e : i = l
    · subst e
      simp only [St.put, St.setOb, beq_yes, cond_true]
    · simp only [St.put, St.setOb, beq_no e, cond_false]
  · rw [hdst]; rfl
theorem bn_at {arr : Array MapEntry} {clk i : Nat} {e : MapEntry} (h : Bn arr clk) (he : arr.toList[i]? = some e) : e.born = i := by
  have h2 : (arr.toList.map (·.born))[i]? = some e.born := by rw [List.getElem?_map, he]; rfl
  have hi : i < arr.size := by have := (List.getElem?_eq_some_iff.1 he).1; simpa using this
  rw [h.1, List.getElem?_range hi] at h2
  injection h2 with h2
  exact h2.symm
theorem mapEntry_wp (h : Sim X M0 S0 w0 N M β σ a w) {o : Oper} {K : St κ → Prop} {t : TypeId} {x y : Operand} (ho : o.op = .mapEntry t x y) (hd : ∀ k, o.dst = some k → k < N)
    (hW : mentW X σ.ob t (σ.ev x) (σ.ev y) fun us d => K ((σ.ups us).put o.dst d)) : o.wp X.P a w (Post X M0 S0 w0 N K) Q := by
  unfold mentW at hW
  split at hW
  · rename_i kf k e ht
    split at hW
    · rename_i l hx
      split at hW
      · rename_i t' es hl
        obtain ⟨hc, hW2⟩ := condW_no hW
        obtain rfl := Nat.eq_of_beq_eq_true hc
        obtain ⟨_, hke, hu, K1, hkey, hes, hnd, b, c, arr, clk, hb, hv, hA, hks, hvs, hid, hbn⟩ := map_at h hl hx ht
        obtain ⟨hok, hK⟩ := keyW_gives (h.ev y) hW2
        obtain ⟨lk, hlk⟩ := hkey _ hok
        obtain ⟨hsz, hkk⟩ := arr_keys hks
        have hz := run_zero X (TyI.known_ne hke) w
        have hkp : ∀ arr' clk', Kp w.heap.size (fun i => i = b) w (setBlock w b (.map arr' clk')) := fun arr' clk' => ⟨rfl, rfl, rfl, by simp [setBlock], fun i _ hi => heap_setBlock_other hA _ hi⟩
        have fin : ∀ arr' clk' (es' : List (Value × D κ)) v dd, (Instr.mapEntry t' (.map (some b)) (a.eval y)).run X.P w = .ok v (setBlock w b (.map arr' clk')) → arr'.toList.map (·.key) = es'.map (·.1) →
            (∀ p ∈ es', kf.ok p.1) → (es'.map (·.1)).Nodup → (∀ i d, (es'.map (·.2))[i]? = some d → Rep X.V M w b0 d (arr'.getD i default).val) → Bn arr' clk' → Rep X.V M w b0 dd v → K ((σ.ups [(l, .map t' es', false)]).put o.dst dd) → o.wp X.P a w (Post X M0 S0 w0 N K) Q := fun arr' clk' es' v dd hrun g1 g2 g3 g4 g5 g6 hKK => by
          have hcell : ∀ b' o', M b' o' → (setBlock w b (.map arr' clk')).cell? ⟨b', o', none⟩ = w.cell? ⟨b', o', none⟩ := fun b' o' hm => (hkp arr' clk').cell (h.mlt _ _ hm) (fun e => hid o' (e ▸ hm))
          have h1 := h.storedW (hkp arr' clk') hl rfl hb (o := .map t' es') ⟨_, rfl, ⟨kf, k, e, ht, hke, g2, g3⟩, b, c, arr', clk', hb, heap_setBlock_same hA _, g1, fun i d hd => (g4 i d hd).mono (fun _ _ h => h) hcell, hid, g5⟩
          have he : (execOp a.eval o).run X.P w = .ok (.value v) (setBlock w b (.map arr' clk')) := by
            simp [execOp, ho, hv, hrun]
          exact wp_value he ⟨M, β, _, h1.put hd ((g6.mono (fun _ _ h => h) hcell).of_b0), hKK⟩
        rcases K1.find w hlk arr.toList (fun e he => by
          have : e.key ∈ arr.toList.map (·.key) := List.mem_map.2 ⟨e, he, rfl⟩
          rw [hks] at this
          obtain ⟨p, hp, hpe⟩ := List.mem_map.1 this
          exact hkey _ (hpe ▸ hes p hp)) with ⟨h1, h2⟩ | ⟨j, e0, h1, h2, h3⟩
        · have hno : ∀ p ∈ es, p.1 ≠ a.eval y := fun p hp hpe => by
            have : p.1 ∈ es.map (·.1) := List.mem_map.2 ⟨p, hp, rfl⟩
            rw [← hks] at this
            obtain ⟨e, he, hee⟩ := List.mem_map.1 this
            exact h2 e he (hee.trans hpe)
          rcases hK with ⟨i, p, hp, hpe, _⟩ | ⟨_, hK⟩
          · exact absurd hpe (hno p (List.mem_of_getElem? hp))
          · have hzr := zeroD_rep (X := X) (M := M) (w := w) (β := b0) (t := e) (TyI.known_ne hke)
            refine fin (arr.push ⟨a.eval y, (X.T e).zero, clk⟩) (clk + 1) (es ++ [(a.eval y, zeroD (X.T e))]) (.tuple #[(X.T e).zero, .int .i64 es.length]) _ ?_ ?_ ?_ ?_ ?_ (bn_push hbn) ?_ hK
            · have hcl : (clk : Int) = (es.length : Int) := by have := hbn.2; omega
              simp [Instr.mapEntry, run_underlying hu, MapKept.run_getObj_map hA, K1.check w false hlk, h1, hz, MapKept.run_setObj_map _ hA, Result.andThen, setBlock, goInt, hcl]
            · simp [hks]
            · intro p hp
              rcases List.mem_append.1 hp with hp | hp
              · exact hes p hp
              · obtain rfl := List.mem_singleton.1 hp
                exact hok
            · rw [List.map_append, List.nodup_append]
              refine ⟨hnd, by simp, fun a ha b hb' => ?_⟩
              obtain ⟨p, hp, rfl⟩ := List.mem_map.1 ha
              simp only [List.map_cons, List.map_nil, List.mem_singleton] at hb'
              rw [hb']
              exact hno p hp
            · intro i d hd
              rw [List.map_append] at hd
              rcases Nat.lt_or_ge i es.length with hi | hi
              · rw [List.getElem?_append_left (by simpa using hi)] at hd
                have : (arr.push ⟨a.eval y, (X.T e).zero, clk⟩).getD i default = arr.getD i default := by
                  simp only [Array.getD_eq_getD_getElem?]
                  rw [Array.getElem?_push_lt (by omega), Array.getElem?_eq_getElem (by omega)]
                rw [this]
                exact hvs i d hd
              · rw [List.getElem?_append_right (by simpa using hi)] at hd
                simp only [List.length_map, List.map_cons, List.map_nil] at hd
                have hi0 : i = es.length := by
                  rcases Nat.lt_or_ge 0 (i - es.length) with h0 | h0
                  · rw [List.getElem?_eq_none (by simp only [List.length_cons, List.length_nil]; omega)] at hd; cases hd
                  · omega
                subst hi0
                rw [Nat.sub_self] at hd
                simp only [List.getElem?_cons_zero, Option.some.injEq] at hd
                subst hd
                have : (arr.push ⟨a.eval y, (X.T e).zero, clk⟩).getD es.length default = ⟨a.eval y, (X.T e).zero, clk⟩ := by
                  rw [← hsz]
                  simp [Array.getD_eq_getD_getElem?]
                rw [this]
                exact hzr
            · refine .tup rfl (fun j d hj => ?_)
              match j, hj with
              | 0, hj => injection hj with hj; subst hj; exact hzr
              | 1, hj => injection hj with hj; subst hj; exact .v rfl
        · have hj : arr[j]? = some e0 := by simpa using h2
          have hjl : j < es.length := by
            have := (List.getElem?_eq_some_iff.1 h2).1
            simp at this
            omega
          have hp := hkk j e0 es[j] h2 (List.getElem?_eq_getElem hjl)
          have hbj := bn_at hbn h2
          rcases hK with ⟨i, p, hpi, hpe, hK⟩ | ⟨hno, _⟩
          · have hil : i < es.length := (List.getElem?_eq_some_iff.1 hpi).1
            have hij : i = j := by
              have e1 : es[i] = p := by rw [List.getElem?_eq_getElem hil] at hpi; injection hpi
              have e3 : (es.map (·.1))[i]'(by simpa using hil) = (es.map (·.1))[j]'(by simpa using hjl) := by simp [e1, hpe, ← hp, h3]
              exact nodup_inj hnd _ _ e3
            subst hij
            have hvr := hvs i p.2 (by rw [List.getElem?_map, hpi]; rfl)
            have he0 : arr.getD i default = e0 := by simp [Array.getD_eq_getD_getElem?, hj]
            have hvr0 := hvr
            rw [he0] at hvr0
            have hlist : (arr.modify i (fun e' => { e' with key := a.eval y })).toList = arr.toList.set i { e0 with key := a.eval y } := by rw [Array.toList_modify, modify_eq_set _ _ _ _ h2]
            have hbn2 : Bn (arr.modify i (fun e' => { e' with key := a.eval y })) clk := bn_set (k := a.eval y) (v := e0.val) hbn h2 (by rw [hlist])
            refine fin (arr.modify i (fun e' => { e' with key := a.eval y })) clk es (.tuple #[e0.val, .int .i64 i]) _ ?_ ?_ hes hnd ?_ hbn2 ?_ hK
            · simp [Instr.mapEntry, run_underlying hu, MapKept.run_getObj_map hA, K1.check w false hlk, h1, hj, h3, K1.stays w hlk, MapKept.run_setObj_map _ hA, Result.andThen, setBlock, goInt, hbj]
            · rw [← hks, hlist, List.map_set]
              apply List.ext_getElem?
              intro q
              by_cases hiq : i = q
              · subst hiq
                rw [List.getElem?_set_self (by simpa using (List.getElem?_eq_some_iff.1 h2).1), List.getElem?_map, h2]
                simp [h3]
              · rw [List.getElem?_set_ne hiq]
            · intro q d hd
              have hmod : (arr.modify i (fun e' => { e' with key := a.eval y })).getD q default = if i = q then { e0 with key := a.eval y } else arr.getD q default := by
                simp only [Array.getD_eq_getD_getElem?]
                rw [← Array.getElem?_toList, hlist]
                by_cases hiq : i = q
                · subst hiq
                  rw [if_pos rfl, List.getElem?_set_self (by simpa using (List.getElem?_eq_some_iff.1 h2).1)]
                  rfl
                · rw [if_neg hiq, List.getElem?_set_ne hiq, Array.getElem?_toList]
              rw [hmod]
              by_cases hiq : i = q
              · subst hiq
                rw [if_pos rfl]
                have := hvs i d hd
                rw [he0] at this
                exact this
              · rw [if_neg hiq]
                exact hvs q d hd
            · refine .tup rfl (fun q d hq => ?_)
              match q, hq with
              | 0, hq => injection hq with hq; subst hq; exact hvr0
              | 1, hq => injection hq with hq; subst hq; exact .v rfl
          · exact absurd (by rw [← hp]; exact h3) (hno es[j] (List.getElem_mem hjl))
      · exact hW.elim
    · exact hW.elim
  · exact hW.elim
theorem entryStore_wp (h : Sim X M0 S0 w0 N M β σ a w) {o : Oper} {K : St κ → Prop} {t : TypeId} {x y z : Operand} (ho : o.op = .entryStore t x y z) (hdst : o.dst = none)
    (hW : estoW X σ.ob t (σ.ev x) (σ.ev y) (σ.ev z) fun us => K ((σ.ups us).put o.dst .und)) : o.wp X.P a w (Post X M0 S0 w0 N K) Q := by
  unfold estoW at hW
  split at hW
  · rename_i l n hx hy
    split at hW
    · rename_i t' es hl
      obtain ⟨hc, hW2⟩ := condW_no hW
      simp only [Bool.and_eq_true] at hc
      obtain ⟨⟨htt, hgd⟩, hfz⟩ := hc
      obtain rfl := Nat.eq_of_beq_eq_true htt
      obtain ⟨i, p, rfl, hpi, hK⟩ := hW2
      obtain ⟨e0, hz0, ⟨kf, k, e, ht, hke, hes, hnd⟩, b, c, arr, clk, hb, hA, hks, hvs, hid, hbn⟩ := h.ob l _ _ hl
      obtain rfl : es = e0 := Eq.symm hz0
      obtain ⟨hsz, hkk⟩ := arr_keys hks
      have hv : a.eval x = .map (some b) := by
        have hr := h.ev x
        rw [hx] at hr
        cases hr' : a.eval x <;> rw [hr'] at hr <;> cases hr
        rename_i hb2
        rw [hb] at hb2
        injection hb2 with hb2
        injection hb2 with hb2
        injection hb2 with hb2 _
        rw [hb2]
      have hst : a.eval y = .int .i64 i := by
        have hr := h.ev y
        rw [hy] at hr
        exact hr.val.1
      have hil : i < es.length := (List.getElem?_eq_some_iff.1 hpi).1
      have hia : i < arr.size := by omega
      have h2 : arr.toList[i]? = some arr[i] := by simp [hia]
      have hp := hkk i arr[i] p h2 hpi
      have hrv : Rep X.V M w b0 (σ.ev z) (a.eval z) := (h.ev z).frz hfz
      have hlist : (arr.modify i (fun e' => { e' with val := a.eval z })).toList = arr.toList.set i { arr[i] with val := a.eval z } := by rw [Array.toList_modify, modify_eq_set _ _ _ _ h2]
      have hbn2 : Bn (arr.modify i (fun e' => { e' with val := a.eval z })) clk := bn_set (k := (arr[i]).key) (v := a.eval z) hbn h2 (by rw [hlist])
      have hfind : arr.findIdx? (fun e => (e.born : Int) == (i : Int)) = some i := by
        rw [Array.findIdx?_eq_some_iff_getElem]
        refine ⟨hia, by simp [bn_at hbn h2], fun j hj => ?_⟩
        have hja : j < arr.size := by omega
        have := bn_at hbn (show arr.toList[j]? = some arr[j] by simp [hja])
        simp [this]
        omega
      have hkp : Kp w.heap.size (fun i => i = b) w (setBlock w b (.map (arr.modify i (fun e' => { e' with val := a.eval z })) clk)) := ⟨rfl, rfl, rfl, by simp [setBlock], fun i _ hi => heap_setBlock_other hA _ hi⟩
      have hcell : ∀ b' o', M b' o' → (setBlock w b (.map (arr.modify i (fun e' => { e' with val := a.eval z })) clk)).cell? ⟨b', o', none⟩ = w.cell? ⟨b', o', none⟩ := fun b' o' hm => hkp.cell (h.mlt _ _ hm) (fun e => hid o' (e ▸ hm))
      have hk1 : (es.set i (p.1, σ.ev z)).map (·.1) = es.map (·.1) := by
        rw [List.map_set]
        apply List.ext_getElem?
        intro q
        by_cases hiq : i = q
        · subst hiq
          rw [List.getElem?_set_self (by simpa using hil), List.getElem?_map, hpi]
          rfl
        · rw [List.getElem?_set_ne hiq]
      have h1 := h.storedW hkp hl rfl hb (o := .map t' (es.set i (p.1, σ.ev z))) ⟨_, rfl, ⟨kf, k, e, ht, hke, fun q hq => by
          have : q.1 ∈ (es.set i (p.1, σ.ev z)).map (·.1) := List.mem_map.2 ⟨q, hq, rfl⟩
          rw [hk1] at this
          obtain ⟨q', hq', e⟩ := List.mem_map.1 this
          exact e ▸ hes q' hq', by rw [hk1]; exact hnd⟩, b, c, _, clk, hb, heap_setBlock_same hA _, by
          rw [hk1, ← hks, hlist, List.map_set]
          apply List.ext_getElem?
          intro q
          by_cases hiq : i = q
          · subst hiq
            rw [List.getElem?_set_self (by simpa using hia), List.getElem?_map, h2]
            rfl
          · rw [List.getElem?_set_ne hiq], fun q d hd => ?_, hid, hbn2⟩
      · have he : (execOp a.eval o).run X.P w = .ok .skip (setBlock w b (.map (arr.modify i (fun e' => { e' with val := a.eval z })) clk)) := by
          simp [execOp, ho, hv, hst, Instr.entryStore, MapKept.run_getObj_map hA, asInt, asIntOf, hfind, MapKept.run_setObj_map _ hA, Result.andThen, setBlock]
        refine wp_skip_ hdst he ⟨M, β, _, h1, ?_⟩
        have := hK
        rw [hdst] at this
        exact this
      · refine Rep.mono ?_ (fun _ _ h => h) hcell
        have hmod : (arr.modify i (fun e' => { e' with val := a.eval z })).getD q default = if i = q then { arr[i] with val := a.eval z } else arr.getD q default := by
          simp only [Array.getD_eq_getD_getElem?]
          rw [← Array.getElem?_toList, hlist]
          by_cases hiq : i = q
          · subst hiq
            rw [if_pos rfl, List.getElem?_set_self (by simpa using hia)]
            rfl
          · rw [if_neg hiq, List.getElem?_set_ne hiq, Array.getElem?_toList]
        rw [hmod]
        rw [List.map_set] at hd
        by_cases hiq : i = q
        · subst hiq
          rw [List.getElem?_set_self (by simpa using hil)] at hd
          injection hd with hd
          subst hd
          rw [if_pos rfl]
          exact hrv
        · rw [List.getElem?_set_ne hiq] at hd
          rw [if_neg hiq]
          exact hvs q d hd
    · exact hW.elim
  · exact hW.elim
end
end Go.Proofs.YteojgenhgjhohaaDoor
