/-
  Own maps, over any program: made, looked into, written.
-/
import Derived.Test.YtndlgoklgclmjaaDoorN9b
import Derived.Maps.Own
namespace Go.Proofs.YtndlgoklgclmjaaDoor
open Go.RowKit Go.ChangeMaps
set_option linter.unusedVariables false
set_option linter.unusedSimpArgs false

section
variable {κ : Type} {X : Cx κ} {M0 M : Nat → Nat → Prop} {S0 : Ln} {w0 w : World} {N : Nat} {β β' : Bt} {σ : St κ} {a : Act} {Q : Exit → Act → World → Prop}

theorem Rep.frz {d : D κ} {x : Value} (h : Rep X.V M w β d x) (hf : d.frz = true) : Rep X.V M w β' d x := by
  cases h with
  | agg hn h1 h => exact .agg hn h1 (fun i d hd => ((h i d hd).frz0 (List.all_eq_true.1 hf d (List.mem_of_getElem? hd))).of_b0)
  | v h => exact .v h
  | und => exact .und
  | @fn _ f cs vs hn h =>
    match cs, hf with
    | [], _ => exact .fn hn (fun i d hd => by simp at hd)
  | nil hc hA => exact .nil hc hA
  | sl u hc hm hb hu h => exact .sl u hc hm hb hu h
  | rc h => exact .rc h.sl_at
  | ref u hu h => exact .ref u hu h
  | ifc h => exact .ifc h
  | mfn hn h => exact .mfn hn h
  | _ => cases hf
theorem Rep.frzT {d : D κ} {x : Value} (h : Rep X.V M w β d x) (hf : d.frzT = true) : Rep X.V M w β' d x := by
  have h' := h
  cases h with
  | tup hn h => exact .tup hn (fun i d hd => (h i d hd).frz (List.all_eq_true.1 hf d (List.mem_of_getElem? hd)))
  | fn hn h => exact .fn hn (fun i d hd => ((h i d hd).frz0 (List.all_eq_true.1 hf d (List.mem_of_getElem? hd))).of_b0)
  | _ => exact h'.frz hf

theorem strL_spec : ∀ {cs : List (D κ)} {K : List ByteArray → Prop}, strL cs K → ∃ l, cs = l.map (fun s => .v (.string s)) ∧ K l
  | [], _, h => ⟨[], rfl, h⟩
  | d :: r, K, h => by
    unfold strL at h
    rw [fD_eq] at h
    split at h
    · obtain ⟨l, rfl, h2⟩ := strL_spec h
      exact ⟨_ :: l, rfl, h2⟩
    · exact h.elim
theorem keyW_gives {kf : KF} {d : D κ} {x : Value} {K : Value → Prop} (hx : Rep X.V M w β d x) (h : keyW kf d K) : kf.ok x ∧ K x := by
  unfold keyW at h
  split at h
  · split at h
    · obtain ⟨rfl, ho⟩ := hx.val
      exact ⟨⟨_, rfl, of_decide_eq_true ho⟩, h⟩
    · exact h.elim
  · split at h
    · obtain ⟨rfl, _⟩ := hx.val
      exact ⟨⟨_, rfl, h.1.1, h.1.2⟩, h.2⟩
    · exact h.elim
  · split at h
    · obtain ⟨hn, h⟩ := condW_no h
      have hn := Nat.eq_of_beq_eq_true hn
      obtain ⟨l, rfl, h5⟩ := strL_spec h
      cases hx with
      | @agg _ _ vs hs h1 hr =>
        have hg : ∀ (i : Nat) s, l[i]? = some s → vs[i]? = some (.string s) ∧ s.size ≤ maxLen := fun i s hi => by
          have h2 := hr i (.v (.string s)) (by rw [List.getElem?_map, hi]; rfl)
          obtain ⟨h3, h4⟩ := h2.val
          have hil : i < vs.size := by
            have := (List.getElem?_eq_some_iff.1 hi).1
            simpa [hs] using this
          refine ⟨?_, of_decide_eq_true h4⟩
          rw [Array.getElem?_eq_getElem hil]
          simp only [Array.getD, hil, dite_true] at h3
          exact congrArg some h3
        have e : vs = (l.map .string).toArray := by
          apply Array.ext
          · simpa using hs
          · intro i h1 h2
            have hi : i < l.length := by simpa using h2
            have := (hg i l[i] (List.getElem?_eq_getElem hi)).1
            rw [Array.getElem?_eq_getElem h1] at this
            simpa using this
        subst e
        refine ⟨⟨l, by simpa using hn, rfl, fun s hs' => ?_⟩, h5⟩
        obtain ⟨i, hi, rfl⟩ := List.getElem_of_mem hs'
        exact (hg i _ (List.getElem?_eq_getElem hi)).2
    · exact h.elim
theorem zeroD_rep {t : TypeId} (h1 : (X.T t).k ≠ .other) : Rep X.V M w β (zeroD (X.T t) : D κ) (X.T t).zero := by
  obtain ⟨d, hd, e⟩ := zero_gives (X := X) (M := M) (w := w) (β := β) (t := t) (K := fun d => d = zeroD (X.T t)) h1 (by
    unfold zeroW zeroD
    cases (X.T t).isAgg
    · rfl
    · simp only [fL_eq])
  exact e ▸ hd

theorem nodup_inj {α : Type} {l : List α} (h : l.Nodup) {i j : Nat} (hi : i < l.length) (hj : j < l.length) (e : l[i] = l[j]) : i = j := by
  rcases Nat.lt_trichotomy i j with h1 | h1 | h1
  · exact absurd e (List.pairwise_iff_getElem.1 h i j hi hj h1)
  · exact h1
  · exact absurd e.symm (List.pairwise_iff_getElem.1 h j i hj hi h1)
/-- What the state says of an own map. -/
theorem map_at (h : Sim X M0 S0 w0 N M β σ a w) {l t : Nat} {es : List (Value × D κ)} {z : Bool} {x : Operand} (hl : σ.ob l = some (.map t es, z)) (hx : σ.ev x = .mp l) {kf : KF} {k e : Nat} (ht : (X.T t).k = .map kf k e) :
    z = false ∧ (X.T e).known = true ∧ X.P.underlying t = some (.map k e) ∧ Go.Maps.Keyed X.P k ∧ (∀ v, kf.ok v → ∃ l, keyOf X.P k v = some l) ∧ (∀ p ∈ es, kf.ok p.1) ∧ (es.map (·.1)).Nodup ∧
    ∃ b c arr clk, β l = some (some (b, c)) ∧ a.eval x = .map (some b) ∧ w.heap[b]? = some (.map arr clk) ∧ arr.toList.map (·.key) = es.map (·.1) ∧ (∀ i d, (es.map (·.2))[i]? = some d → Rep X.V M w b0 d (arr.getD i default).val) ∧ (∀ q, ¬ M b q) ∧ Bn arr clk := by
  obtain ⟨hz, ⟨kf', k', e', h1, h2, h3, h4⟩, b, c, arr, clk, g1, g2, g3, g4, g5⟩ := h.ob l _ _ hl
  rw [ht] at h1
  injection h1 with e1 e2 e3
  subst e1 e2 e3
  have hf := X.form t
  rw [ht] at hf
  obtain ⟨f1, f2, f3⟩ := hf
  refine ⟨hz, h2, f1, f2, f3, h3, h4, b, c, arr, clk, g1, ?_, g2, g3, g4, g5⟩
  have hr := h.ev x
  rw [hx] at hr
  cases hr' : a.eval x <;> rw [hr'] at hr <;> cases hr
  rename_i hb
  rw [g1] at hb
  injection hb with hb
  injection hb with hb
  injection hb with hb _
  rw [hb]
theorem arr_keys {arr : Array MapEntry} {es : List (Value × D κ)} (h : arr.toList.map (·.key) = es.map (·.1)) : arr.size = es.length ∧ ∀ (i : Nat) (e : MapEntry) (p : Value × D κ), arr.toList[i]? = some e → es[i]? = some p → e.key = p.1 := by
  refine ⟨by simpa using congrArg List.length h, fun i e p he hp => ?_⟩
  have := congrArg (fun l => l[i]?) h
  simp only [List.getElem?_map, he, hp, Option.map_some, Option.some.injEq] at this
  exact this
theorem look_fin (h : Sim X M0 S0 w0 N M β σ a w) {o : Oper} {K : St κ → Prop} {t : TypeId} {x y : Operand} {ok : Bool} (ho : o.op = .lookup t x y ok) (hd : ∀ k, o.dst = some k → k < N) {kf : KF} {k e : Nat} {es : List (Value × D κ)} {b clk : Nat} {arr : Array MapEntry}
    (hke : (X.T e).known = true) (hu : X.P.underlying t = some (.map k e)) (K1 : Go.Maps.Keyed X.P k) (hkey : ∀ v, kf.ok v → ∃ l, keyOf X.P k v = some l) (hes : ∀ p ∈ es, kf.ok p.1) (hnd : (es.map (·.1)).Nodup) (hv : a.eval x = .map (some b)) (hA : w.heap[b]? = some (.map arr clk)) (hks : arr.toList.map (·.key) = es.map (·.1)) (hvs : ∀ i d, (es.map (·.2))[i]? = some d → Rep X.V M w b0 d (arr.getD i default).val)
    (hW2 : keyW kf (σ.ev y) fun kv => ∃ q : Bool × D κ, Look es kv (zeroD (X.T e)) q ∧ fD q.2 fun d => match ok with | true => K (σ.put o.dst (.tup [d, .v (.bool q.1)])) | false => K (σ.put o.dst d)) : o.wp X.P a w (Post X M0 S0 w0 N K) Q := by
  obtain ⟨hok, q, hq, hK⟩ := keyW_gives (h.ev y) hW2
  rw [fD_eq] at hK
  obtain ⟨lk, hlk⟩ := hkey _ hok
  obtain ⟨hsz, hkk⟩ := arr_keys hks
  have hz := run_zero X (TyI.known_ne hke) w
  have fin : ∀ v, Rep X.V M w β q.2 v → (Instr.lookup t (.map (some b)) (a.eval y) ok).run X.P w = .ok (if ok then .tuple #[v, .bool q.1] else v) w → o.wp X.P a w (Post X M0 S0 w0 N K) Q := fun v hr hrun => by
    have he : (execOp a.eval o).run X.P w = .ok (.value (if ok then .tuple #[v, .bool q.1] else v)) w := by
      simp [execOp, ho, hv, hrun]
    cases ok
    · exact wp_value he ⟨M, β, _, h.put hd hr, hK⟩
    · exact wp_value he ⟨M, β, _, h.put hd (rep_tup2 hr), hK⟩
  rcases K1.find w hlk arr.toList (fun e he => by
    have : e.key ∈ arr.toList.map (·.key) := List.mem_map.2 ⟨e, he, rfl⟩
    rw [hks] at this
    obtain ⟨p, hp, hpe⟩ := List.mem_map.1 this
    exact hkey _ (hpe ▸ hes p hp)) with ⟨h1, h2⟩ | ⟨j, e0, h1, h2, h3⟩
  · have hno : ∀ p ∈ es, p.1 ≠ a.eval y := fun p hp hpe => by
      have : p.1 ∈ es.map (·.1) := List.mem_map.2 ⟨p, hp, rfl⟩
      rw [← hks] at this
      obtain ⟨e, he, hee⟩ := List.mem_map.1 this
      exact h2 e he (hee.trans hpe)
    rcases hq with ⟨p, hp, hpe, _⟩ | ⟨_, rfl⟩
    · exact absurd hpe (hno p hp)
    · exact fin _ (zeroD_rep (TyI.known_ne hke)) (by simp [Instr.lookup, run_underlying hu, MapKept.run_getObj_map hA, K1.check w _ hlk, h1, hz, Result.andThen])
  · have hjl : j < es.length := by
      have := (List.getElem?_eq_some_iff.1 h2).1
      simp at this
      omega
    have hp := hkk j e0 es[j] h2 (List.getElem?_eq_getElem hjl)
    have hr := hvs j es[j].2 (by rw [List.getElem?_map, List.getElem?_eq_getElem hjl]; rfl)
    have he0 : arr.getD j default = e0 := by
      have : arr[j]? = some e0 := by simpa using h2
      simp [Array.getD_eq_getD_getElem?, this]
    rw [he0] at hr
    have hrun : (Instr.lookup t (.map (some b)) (a.eval y) ok).run X.P w = .ok (if ok then .tuple #[e0.val, .bool true] else e0.val) w := by
      simp [Instr.lookup, run_underlying hu, MapKept.run_getObj_map hA, K1.check w _ hlk, h1, Result.andThen]
    rcases hq with ⟨p, hp', hpe, rfl⟩ | ⟨hno, _⟩
    · have : p = es[j] := by
        obtain ⟨i, hi, rfl⟩ := List.getElem_of_mem hp'
        have e1 : (es.map (·.1))[i]'(by simpa using hi) = (es.map (·.1))[j]'(by simpa using hjl) := by simp [hpe, ← hp, h3]
        have := nodup_inj hnd _ _ e1
        subst this
        rfl
      subst this
      exact fin _ hr.of_b0 hrun
    · exact absurd (by rw [← hp]; exact h3) (hno es[j] (List.getElem_mem hjl))
theorem lookup_wp (hGw : X.G w) (h : Sim X M0 S0 w0 N M β σ a w) {o : Oper} {K : St κ → Prop} {t : TypeId} {x y : Operand} {ok : Bool} (ho : o.op = .lookup t x y ok) (hd : ∀ k, o.dst = some k → k < N) (hW : lookW X σ.ob t ok (σ.ev x) (σ.ev y) fun d => K (σ.put o.dst d)) : o.wp X.P a w (Post X M0 S0 w0 N K) Q := by
  unfold lookW at hW
  split at hW
  · rename_i kf k e ht
    split at hW
    · rename_i l hx
      split at hW
      · rename_i t' es hl
        obtain ⟨htt, hW2⟩ := condW_no hW
        obtain rfl := Nat.eq_of_beq_eq_true htt
        obtain ⟨_, hke, hu, K1, hkey, hes, hnd, b, c, arr, clk, hb, hv, hA, hks, hvs, hid⟩ := map_at h hl hx ht
        exact look_fin h ho hd hke hu K1 hkey hes hnd hv hA hks hvs hW2
      · exact hW.elim
    · rename_i b hx
      obtain ⟨es, ⟨hes, hnd, hG⟩, hW⟩ := hW
      obtain ⟨hke, hW2⟩ := condW_no hW
      obtain ⟨arr, clk, hA, hks, hvs⟩ := hG w hGw
      have hf := X.form t
      rw [ht] at hf
      obtain ⟨f1, f2, f3⟩ := hf
      have hr := h.ev x
      rw [hx] at hr
      exact look_fin h ho hd hke f1 f2 f3 hes hnd hr.val.1 hA hks (fun i d hi => (hvs i d hi).mono (fun _ _ h => h.elim) (fun _ _ h => h.elim)) hW2
    · exact hW.elim
  · exact hW.elim
theorem makeMap_wp (h : Sim X M0 S0 w0 N M β σ a w) {o : Oper} {K : St κ → Prop} {t : TypeId} {l k e : Nat} {kf : KF} (ho : o.op = .makeMap t none) (ht : (X.T t).k = .map kf k e) (hdst : o.dst = some l) (hl : l < N) (hob : σ.ob l = none) (hk : (X.T e).known = true)
    (hK : K ((σ.setOb l (.map t []) false).put o.dst (.mp l))) : o.wp X.P a w (Post X M0 S0 w0 N K) Q := by
  have he : (execOp a.eval o).run X.P w = .ok (.value (.map (some w.heap.size))) (w.alloc (.map #[] 0)) := by
    simp [execOp, ho, run_makeMap]
  have h1 := h.fresh (l := l) (c := 0) (o := .map t []) hob (kp_alloc w w (.map #[] 0) ⟨rfl, rfl, rfl, rfl⟩) ⟨rfl, ⟨kf, k, e, ht, hk, fun p hp => by simp at hp, List.nodup_nil⟩, w.heap.size, 0, #[], 0, upd_at _ _ _, alloc_at w w _ rfl, rfl, fun i d hd => by simp at hd, fun q hq => absurd (h.mlt _ _ hq) (by omega), rfl, rfl⟩
  exact wp_value he ⟨M, _, _, h1.put (fun k hk => by rw [hdst] at hk; injection hk with hk; omega) (.mp (upd_at _ _ _)), hK⟩
theorem mset_spec (es : List (Value × D κ)) (k : Value) (d : D κ) : ((∀ p ∈ es, p.1 ≠ k) ∧ mset es k d = es ++ [(k, d)]) ∨ ((∃ p ∈ es, p.1 = k) ∧ (mset es k d).map (·.1) = es.map (·.1) ∧ (mset es k d).length = es.length ∧ ∀ (i : Nat) (p : Value × D κ), es[i]? = some p → (p.1 = k ∧ ((mset es k d).map (·.2))[i]? = some d) ∨ (p.1 ≠ k ∧ ((mset es k d).map (·.2))[i]? = some p.2)) := by
  by_cases h : ∃ p ∈ es, p.1 = k
  · refine .inr ⟨h, ?_, ?_, fun i p hp => ?_⟩
    · unfold mset
      rw [if_pos h, List.map_map]
      refine List.map_congr_left fun p _ => ?_
      simp only [Function.comp]
      split
      · rename_i e; exact e.symm
      · rfl
    · unfold mset
      rw [if_pos h, List.length_map]
    · unfold mset
      rw [if_pos h, List.map_map, List.getElem?_map, hp]
      by_cases e : p.1 = k
      · exact .inl ⟨e, by simp [e]⟩
      · exact .inr ⟨e, by simp [e]⟩
  · have h' : ∀ p ∈ es, p.1 ≠ k := fun p hp e => h ⟨p, hp, e⟩
    exact .inl ⟨h', by unfold mset; rw [if_neg h]⟩
theorem bn_push {arr : Array MapEntry} {clk : Nat} {k v : Value} (h : Bn arr clk) : Bn (arr.push ⟨k, v, clk⟩) (clk + 1) := by
  obtain ⟨h1, rfl⟩ := h
  refine ⟨?_, by rw [Array.size_push]⟩
  rw [Array.toList_push, List.map_append, h1, Array.size_push, List.range_succ]
  rfl
theorem bn_set {arr arr' : Array MapEntry} {clk j : Nat} {e0 : MapEntry} {k v : Value} (h : Bn arr clk) (h2 : arr.toList[j]? = some e0) (hl : arr'.toList = arr.toList.set j { e0 with key := k, val := v }) : Bn arr' clk := by
  obtain ⟨h1, h3⟩ := h
  have hs : arr'.size = arr.size := by
    have := congrArg List.length hl
    simpa using this
  refine ⟨?_, by rw [hs]; exact h3⟩
  rw [hs, ← h1, hl, List.map_set]
  apply List.ext_getElem?
  intro i
  by_cases hij : j = i
  · subst hij
    rw [List.getElem?_set_self (by simpa using (List.getElem?_eq_some_iff.1 h2).1), List.getElem?_map, h2]
    rfl
  · rw [List.getElem?_set_ne hij]
theorem mapSet_wp (h : Sim X M0 S0 w0 N M β σ a w) {o : Oper} {K : St κ → Prop} {t : TypeId} {x y z : Operand} (ho : o.op = .mapUpdate t x y z ∨ o.op = .insert t x y z) (hdst : o.dst = none)
    (hW : msetW X σ.ob t (σ.ev x) (σ.ev y) (σ.ev z) fun us => K ((σ.ups us).put o.dst .und)) : o.wp X.P a w (Post X M0 S0 w0 N K) Q := by
  unfold msetW at hW
  split at hW
  · rename_i kf k e ht
    split at hW
    · rename_i l hx
      split at hW
      · rename_i t' es hl
        obtain ⟨hc, hW2⟩ := condW_no hW
        simp only [Bool.and_eq_true] at hc
        obtain ⟨⟨htt, hgd⟩, hfz⟩ := hc
        obtain rfl := Nat.eq_of_beq_eq_true htt
        obtain ⟨_, hke, hu, K1, hkey, hes, hnd, b, c, arr, clk, hb, hv, hA, hks, hvs, hid, hbn⟩ := map_at h hl hx ht
        obtain ⟨hok, hK⟩ := keyW_gives (h.ev y) hW2
        obtain ⟨lk, hlk⟩ := hkey _ hok
        obtain ⟨hsz, hkk⟩ := arr_keys hks
        have hrv : Rep X.V M w b0 (σ.ev z) (a.eval z) := (h.ev z).frz hfz
        have hkp : ∀ arr' clk', Kp w.heap.size (fun i => i = b) w (setBlock w b (.map arr' clk')) := fun arr' clk' => ⟨rfl, rfl, rfl, by simp [setBlock], fun i _ hi => heap_setBlock_other hA _ hi⟩
        have hblk : b < w.heap.size := heap_lt hA
        have fin : ∀ arr' clk', (Instr.mapUpdate t' (.map (some b)) (a.eval y) (a.eval z)).run X.P w = .ok () (setBlock w b (.map arr' clk')) → arr'.toList.map (·.key) = (mset es (a.eval y) (σ.ev z)).map (·.1) →
            (∀ p ∈ mset es (a.eval y) (σ.ev z), kf.ok p.1) → ((mset es (a.eval y) (σ.ev z)).map (·.1)).Nodup →
            (∀ i d, ((mset es (a.eval y) (σ.ev z)).map (·.2))[i]? = some d → Rep X.V M w b0 d (arr'.getD i default).val) → Bn arr' clk' → o.wp X.P a w (Post X M0 S0 w0 N K) Q := fun arr' clk' hrun g1 g2 g3 g4 g5 => by
          have hcell : ∀ b' o', M b' o' → (setBlock w b (.map arr' clk')).cell? ⟨b', o', none⟩ = w.cell? ⟨b', o', none⟩ := fun b' o' hm => (hkp arr' clk').cell (h.mlt _ _ hm) (fun e => hid o' (e ▸ hm))
          have h1 := h.storedW (hkp arr' clk') hl rfl hb (o := .map t' (mset es (a.eval y) (σ.ev z))) ⟨rfl, ⟨kf, k, e, ht, hke, g2, g3⟩, b, c, arr', clk', hb, heap_setBlock_same hA _, g1, fun i d hd => (g4 i d hd).mono (fun _ _ h => h) hcell, hid, g5⟩
          have he : (execOp a.eval o).run X.P w = .ok .skip (setBlock w b (.map arr' clk')) := by
            rcases ho with ho | ho <;> simp [execOp, ho, hv, hrun]
          refine wp_skip_ hdst he ⟨M, β, _, h1, ?_⟩
          have := hK
          rw [hdst] at this
          exact this
        rcases K1.find w hlk arr.toList (fun e he => by
          have : e.key ∈ arr.toList.map (·.key) := List.mem_map.2 ⟨e, he, rfl⟩
          rw [hks] at this
          obtain ⟨p, hp, hpe⟩ := List.mem_map.1 this
          exact hkey _ (hpe ▸ hes p hp)) with ⟨h1, h2⟩ | ⟨j, e0, h1, h2, h3⟩
        · have hno : ∀ p ∈ es, p.1 ≠ a.eval y := fun p hp hpe => by
            have : p.1 ∈ es.map (·.1) := List.mem_map.2 ⟨p, hp, rfl⟩
            rw [← hks] at this
            obtain ⟨e, he, hee⟩ := List.mem_map.1 this
            exact h2 e he (hee.trans hpe)
          rcases mset_spec es (a.eval y) (σ.ev z) with ⟨_, hm⟩ | ⟨⟨p, hp, hpe⟩, _⟩
          · rw [hm] at fin
            refine fin (arr.push ⟨a.eval y, a.eval z, clk⟩) (clk + 1) ?_ ?_ ?_ ?_ ?_ (bn_push hbn)
            · simp [Instr.mapUpdate, run_underlying hu, MapKept.run_getObj_map hA, K1.check w false hlk, h1, MapKept.run_setObj_map _ hA, Result.andThen, setBlock]
            · simp [hks]
            · intro p hp
              rcases List.mem_append.1 hp with hp | hp
              · exact hes p hp
              · obtain rfl := List.mem_singleton.1 hp
                exact hok
            · rw [List.map_append, List.nodup_append]
              refine ⟨hnd, by simp, fun a ha b hb' => ?_⟩
              obtain ⟨p, hp, rfl⟩ := List.mem_map.1 ha
              simp only [List.map_cons, List.map_nil, List.mem_singleton] at hb'
              rw [hb']
              exact hno p hp
            · intro i d hd
              rw [List.map_append] at hd
              rcases Nat.lt_or_ge i es.length with hi | hi
              · rw [List.getElem?_append_left (by simpa using hi)] at hd
                have : (arr.push ⟨a.eval y, a.eval z, clk⟩).getD i default = arr.getD i default := by
                  simp only [Array.getD_eq_getD_getElem?]
                  rw [Array.getElem?_push_lt (by omega), Array.getElem?_eq_getElem (by omega)]
                rw [this]
                exact hvs i d hd
              · rw [List.getElem?_append_right (by simpa using hi)] at hd
                simp only [List.length_map, List.map_cons, List.map_nil] at hd
                have hi0 : i = es.length := by
                  rcases Nat.lt_or_ge 0 (i - es.length) with h0 | h0
                  · rw [List.getElem?_eq_none (by simp only [List.length_cons, List.length_nil]; omega)] at hd; cases hd
                  · omega
                subst hi0
                rw [Nat.sub_self] at hd
                simp only [List.getElem?_cons_zero, Option.some.injEq] at hd
                subst hd
                have : (arr.push ⟨a.eval y, a.eval z, clk⟩).getD es.length default = ⟨a.eval y, a.eval z, clk⟩ := by
                  rw [← hsz]
                  simp [Array.getD_eq_getD_getElem?]
                rw [this]
                exact hrv
          · exact absurd hpe (hno p hp)
        · have hj : arr[j]? = some e0 := by simpa using h2
          have hjl : j < es.length := by
            have := (List.getElem?_eq_some_iff.1 h2).1
            simp at this
            omega
          have hp := hkk j e0 es[j] h2 (List.getElem?_eq_getElem hjl)
          have hlist : (arr.modify j (fun e' => { e' with key := a.eval y, val := a.eval z })).toList = arr.toList.set j { e0 with key := a.eval y, val := a.eval z } := by rw [Array.toList_modify, modify_eq_set _ _ _ _ h2]
          rcases mset_spec es (a.eval y) (σ.ev z) with ⟨hno, _⟩ | ⟨_, m1, m2, m3⟩
          · exact absurd (by rw [← hp]; exact h3) (hno es[j] (List.getElem_mem hjl))
          · refine fin (arr.modify j (fun e' => { e' with key := a.eval y, val := a.eval z })) clk ?_ ?_ ?_ ?_ ?_ (bn_set hbn h2 hlist)
            · simp [Instr.mapUpdate, run_underlying hu, MapKept.run_getObj_map hA, K1.check w false hlk, h1, hj, h3, K1.stays w hlk, MapKept.run_setObj_map _ hA, Result.andThen, setBlock]
            · rw [m1, ← hks, hlist, List.map_set]
              simp only
              apply List.ext_getElem?
              intro i
              by_cases hij : j = i
              · subst hij
                rw [List.getElem?_set_self (by simpa using (List.getElem?_eq_some_iff.1 h2).1), List.getElem?_map, h2]
                simp [h3]
              · rw [List.getElem?_set_ne hij]
            · intro p hp'
              have : p.1 ∈ (mset es (a.eval y) (σ.ev z)).map (·.1) := List.mem_map.2 ⟨p, hp', rfl⟩
              rw [m1] at this
              obtain ⟨p', hp'', e⟩ := List.mem_map.1 this
              exact e ▸ hes p' hp''
            · rw [m1]; exact hnd
            · intro i d hd
              have hil : i < es.length := by
                have := (List.getElem?_eq_some_iff.1 hd).1
                simpa [m2] using this
              have hmod : (arr.modify j (fun e' => { e' with key := a.eval y, val := a.eval z })).getD i default = if j = i then { e0 with key := a.eval y, val := a.eval z } else arr.getD i default := by
                simp only [Array.getD_eq_getD_getElem?]
                rw [← Array.getElem?_toList, hlist]
                by_cases hij : j = i
                · subst hij
                  rw [if_pos rfl, List.getElem?_set_self (by simpa using (List.getElem?_eq_some_iff.1 h2).1)]
                  rfl
                · rw [if_neg hij, List.getElem?_set_ne hij, Array.getElem?_toList]
              rw [hmod]
              rcases m3 i es[i] (List.getElem?_eq_getElem hil) with ⟨e1, e2⟩ | ⟨e1, e2⟩
              · rw [e2] at hd
                injection hd with hd
                subst hd
                have : j = i := by
                  have e3 : (es.map (·.1))[i]'(by simpa using hil) = (es.map (·.1))[j]'(by simpa using hjl) := by simp [e1, ← hp, h3]
                  exact (nodup_inj hnd _ _ e3).symm
                rw [if_pos this]
                exact hrv
              · rw [e2] at hd
                injection hd with hd
                subst hd
                have : ¬ j = i := fun e => e1 (by subst e; rw [← hp]; exact h3)
                rw [if_neg this]
                exact hvs i _ (by rw [List.getElem?_map, List.getElem?_eq_getElem hil]; rfl)
      · exact hW.elim
    · exact hW.elim
  · exact hW.elim
end
end Go.Proofs.YtndlgoklgclmjaaDoor
