/-
  One operation of a call, over any program: variables, structs, rows.
-/
import Derived.Test.YteojgenhgjhohaaDoorN7
namespace Go.Proofs.YteojgenhgjhohaaDoor
open Go.RowKit
set_option linter.unusedVariables false
set_option linter.unusedSimpArgs false

section
variable {κ : Type} {X : Cx κ} {M0 M : Nat → Nat → Prop} {S0 : Ln} {w0 w : World} {N : Nat} {β : Bt} {σ : St κ} {a : Act} {Q : Exit → Act → World → Prop}

theorem kp_alloc (w w1 : World) (o : Obj) (h : w1.heap = w.heap ∧ w1.os = w.os ∧ w1.tape = w.tape ∧ w1.output = w.output) : Kp w.heap.size noS w (w1.alloc o) := by
  obtain ⟨e1, e2, e3, e4⟩ := h
  refine ⟨e2, e3, e4, by simp [e1], fun k hk _ => ?_⟩
  rw [Below.heap_alloc _ _ _ (by rw [e1]; exact hk), e1]
theorem alloc_at (w w1 : World) (o : Obj) (h : w1.heap = w.heap) : (w1.alloc o).heap[w.heap.size]? = some o := by
  have := heap_alloc_new w1 o
  rwa [h] at this
theorem Sim.newCells (h : Sim X M0 S0 w0 N M β σ a w) {l : Nat} {cs : List (D κ)} {arr : Array Value} {T : TypeId} (hob : σ.ob l = none) (hl : l < N) (hr : RepC X.V M w β cs arr) :
    ∃ β', Sim X M0 S0 w0 N M β' ((σ.setOb l (.cells cs) false).put (some l) (.ptr l 0)) (a.put (some l) (.pointer (some ⟨w.heap.size, 0, none⟩))) (w.alloc (.cells arr T)) := by
  have hk := kp_alloc w w (.cells arr T) ⟨rfl, rfl, rfl, rfl⟩
  have hβ := upd_ext (p := some (w.heap.size, 0)) (h.un l hob)
  have h1 := h.fresh (w' := w.alloc (.cells arr T)) (c := 0) (o := .cells cs) hob hk ⟨w.heap.size, 0, arr, T, upd_at _ _ _, alloc_at w w _ rfl,
    ⟨hr.n, hr.o, fun i d hd => ((hr.r i d hd).mono (fun _ _ h => h) (fun b o hm => hk.cell (h.mlt b o hm) (fun h => h))).ext hβ⟩, fun q hq => by have := h.mlt _ _ hq; omega⟩
  exact ⟨_, h1.put (fun k hk => by injection hk with hk; omega) (.ptr (upd_at _ _ _))⟩
theorem alloc_wp (h : Sim X M0 S0 w0 N M β σ a w) {o : Oper} {K : St κ → Prop} {e : TypeId} {l : Nat} (ho : o.op = .alloc e) (hdst : o.dst = some l) (hl : l < N) (hob : σ.ob l = none) (hk : (X.T e).known = true)
    (hK : K ((σ.setOb l (.cells ((X.T e).zero.cells.toList.map .v)) false).put o.dst (.ptr l 0))) : o.wp X.P a w (Post X M0 S0 w0 N K) Q := by
  have hne := TyI.known_ne hk
  obtain ⟨_, _, _, _, j, hj, _, _, hz⟩ := X.info hne
  have he : (execOp a.eval o).run X.P w = .ok (.value (.pointer (some ⟨w.heap.size, 0, none⟩))) (w.alloc (.cells (X.T e).zero.cells e)) := by
    simp [execOp, ho, Instr.alloc, zeroValue, typeInfo, hj, hz, newVar, newRow]
  obtain ⟨β', hs⟩ := h.newCells (T := e) hob hl (zero_rep hne)
  rw [← hdst] at hs
  exact wp_value he ⟨M, β', _, hs, hK⟩
theorem box_wp (h : Sim X M0 S0 w0 N M β σ a w) {o : Oper} {K : St κ → Prop} {e : TypeId} {x : Operand} {l : Nat} (ho : o.op = .box e x) (hdst : o.dst = some l) (hl : l < N) (hob : σ.ob l = none) (hg : (σ.ev x).good = true)
    (hK : K ((σ.setOb l (.cells (σ.ev x).cells) false).put o.dst (.ptr l 0))) : o.wp X.P a w (Post X M0 S0 w0 N K) Q := by
  have he : (execOp a.eval o).run X.P w = .ok (.value (.pointer (some ⟨w.heap.size, 0, none⟩))) (w.alloc (.cells (a.eval x).cells e)) := by
    simp [execOp, ho, Instr.box, newVar, newRow]
  obtain ⟨β', hs⟩ := h.newCells (T := e) hob hl (cells_rep hg (h.ev x))
  rw [← hdst] at hs
  exact wp_value he ⟨M, β', _, hs, hK⟩

theorem store_run {t : TypeId} {x y : Operand} {o : Oper} {b off : Nat} {arr : Array Value} {T : TypeId} (ho : o.op = .store t x y) (hv : a.eval x = .pointer (some ⟨b, off, none⟩)) (hA : w.heap[b]? = some (.cells arr T (0, 0))) (hk : (X.T t).known = true) (hn : (a.eval y).cells.size = (X.T t).size)
    (hone : ∀ v ∈ (a.eval y).cells.toList, v.oneCell' = true) (hle : off + (a.eval y).cells.size ≤ arr.size) :
    ∃ arr' : Array Value, (execOp a.eval o).run X.P w = .ok .skip (w.setRow b arr') ∧ arr'.size = arr.size ∧ ∀ i, arr'[i]? = if off ≤ i ∧ i < off + (a.eval y).cells.size then (a.eval y).cells[i - off]? else arr[i]? := by
  have hsz := X.sizeOf (TyI.known_ne hk) w
  have hst := run_storeCells_at X.P b off T (a.eval y).cells.toList 0 arr w hA (by simp; omega) hone
  simp only [Nat.add_zero] at hst
  refine ⟨(arr.toList.take off ++ (a.eval y).cells.toList ++ arr.toList.drop (off + (a.eval y).cells.toList.length)).toArray, ?_, ?_, ?_⟩
  · simp [execOp, ho, hv, Instr.storeAt, Instr.sureAddr, storeVar, hsz, hn, hst]
  · simp
    omega
  · intro i
    simp only [List.getElem?_toArray]
    by_cases h3 : off ≤ i ∧ i < off + (a.eval y).cells.size
    · rw [if_pos h3, List.append_assoc, List.getElem?_append_right (by simp; omega), List.getElem?_append_left (by simp; omega)]
      simp only [List.length_take, Array.length_toList, Array.getElem?_toList]
      congr 1
      omega
    · rw [if_neg h3]
      by_cases h4 : i < off
      · rw [List.append_assoc, List.getElem?_append_left (by simp; omega), List.getElem?_take, if_pos h4]
        simp
      · rw [List.getElem?_append_right (by simp; omega), List.getElem?_drop]
        simp only [List.length_append, List.length_take, Array.length_toList, Array.getElem?_toList]
        congr 1
        omega
theorem repc_one {cs : List (D κ)} {v : Value} (hr : RepC X.V M w β cs v.cells) : ∀ u ∈ v.cells.toList, u.oneCell' = true := by
  intro u hu
  obtain ⟨i, hi⟩ := List.mem_iff_getElem?.1 hu
  have hi' : v.cells[i]? = some u := by simpa using hi
  have := hr.o i (by have := (Array.getElem?_eq_some_iff.1 hi').1; have := hr.n; omega)
  rwa [getD_some hi'] at this
theorem wp_skip_ {o : Oper} {w' : World} {next : Act → World → Prop} (hd : o.dst = none) (h : (execOp a.eval o).run X.P w = .ok .skip w') (hn : next a w') : o.wp X.P a w next Q := by
  unfold Oper.wp
  rw [h]
  show next (a.put o.dst undef) w'
  rw [hd]
  exact hn
theorem storePtr_wp (h : Sim X M0 S0 w0 N M β σ a w) {o : Oper} {K : St κ → Prop} {t : TypeId} {x y : Operand} {l off : Nat} {cs : List (D κ)} (ho : o.op = .store t x y) (hdst : o.dst = none) (hx : σ.ev x = .ptr l off) (hl : σ.ob l = some (.cells cs, false))
    (hg : (σ.ev y).good = true) (hn : (σ.ev y).cells.length = (X.T t).size) (hk : (X.T t).known = true) (hle : off + (σ.ev y).cells.length ≤ cs.length) (hK : K ((σ.setOb l (.cells (setCells cs off (σ.ev y).cells)) false).put o.dst .und)) : o.wp X.P a w (Post X M0 S0 w0 N K) Q := by
  obtain ⟨b, c, hb, hv⟩ := ptr_at h hx
  obtain ⟨arr, T, hA, hR⟩ := cells_at h hl hb
  have hr := cells_rep hg (h.ev y)
  have hvs : (a.eval y).cells.size = (σ.ev y).cells.length := hr.n
  obtain ⟨arr', he, hsize, hget⟩ := store_run (X := X) ho hv hA hk (by omega) (repc_one hr) (by have := hR.n; omega)
  have hnew := hR.lay hr hle hsize hget
  have hw : ∀ b' o, M b' o → (w.setRow b arr').cell? ⟨b', o, none⟩ = w.cell? ⟨b', o, none⟩ := fun b' o' hm => cell_setRow_other w _ b' o' arr' (fun e => (h.ob l _ _ hl).hid rfl hb o' (e ▸ hm))
  have hs := h.stored (o := .cells (setCells cs off (σ.ev y).cells)) (arr' := arr') hl rfl hb ⟨b, c, arr', T, hb, setRow_heap w b arr arr' T (0, 0) hA, hnew.mono (fun _ _ h => h) hw, (h.ob l _ _ hl).hid rfl hb⟩
  rw [hdst] at hK
  exact wp_skip_ hdst he ⟨M, β, _, hs, hK⟩

theorem Rep.frz0 {d : D κ} {x : Value} (h : Rep X.V M w β d x) (hf : d.frz0 = true) : Rep X.V M w b0 d x := by
  cases h with
  | v h => exact .v h
  | und => exact .und
  | @fn _ f cs vs hn h =>
    match cs, hf with
    | [], _ => exact .fn hn (fun i d hd => by simp at hd)
  | nil hc hA => exact .nil hc hA
  | sl u hc hm hb hu h => exact .sl u hc hm hb hu h
  | rc h => exact .rc h.sl_at
  | ref u hu h => exact .ref u hu h
  | ifc h => exact .ifc h
  | mfn hn h => exact .mfn hn h
  | _ => cases hf
theorem cells_frz {d : D κ} (hg : d.good = true) (hf : d.frz = true) : ∀ c ∈ d.cells, c.frz0 = true := by
  intro c hc
  cases d with
  | agg cs => exact List.all_eq_true.1 hf c hc
  | tup cs => cases hg
  | v x => obtain rfl := List.mem_singleton.1 hc; rfl
  | sl a b n f => obtain rfl := List.mem_singleton.1 hc; rfl
  | rc k => obtain rfl := List.mem_singleton.1 hc; rfl
  | fn f cs => obtain rfl := List.mem_singleton.1 hc; exact hf
  | ptr l o => cases hf
  | elt l s k j => cases hf
  | own l s o n => cases hf
  | ifc t d => obtain rfl := List.mem_singleton.1 hc; rfl
  | mp l => cases hf
  | ifo t l s n => cases hf
  | mfn f fs => obtain rfl := List.mem_singleton.1 hc; rfl
  | _ => cases hg
theorem storeElt_wp (h : Sim X M0 S0 w0 N M β σ a w) {o : Oper} {K : St κ → Prop} {t : TypeId} {x y : Operand} {l s k j e n : Nat} {f : Nat → Nat → D κ} (ho : o.op = .store t x y) (hdst : o.dst = none) (hx : σ.ev x = .elt l s k j) (hl : σ.ob l = some (.row e n f, false))
    (hg : (σ.ev y).good = true) (hf : (σ.ev y).frz = true) (hn : (σ.ev y).cells.length = (X.T t).size) (hk : (X.T t).known = true) (hs : s = (X.T e).size) (hle : j + (σ.ev y).cells.length ≤ s) (hkn : k < n)
    (hK : K ((σ.setOb l (.row e n (rowSet f k j (σ.ev y).cells)) false).put o.dst .und)) : o.wp X.P a w (Post X M0 S0 w0 N K) Q := by
  subst hs
  obtain ⟨b, c, hb, hv⟩ := elt_at h hx
  obtain ⟨hke, arr, hA, hsz, hnc, hcm, hby, hR⟩ := row_at h hl hb
  have hr := cells_rep hg (h.ev y)
  have hvs : (a.eval y).cells.size = (σ.ev y).cells.length := hr.n
  have hk1 : (k + 1) * (X.T e).size ≤ c * (X.T e).size := Nat.mul_le_mul_right _ (by omega)
  rw [Nat.succ_mul] at hk1
  obtain ⟨arr', he, hsize, hget⟩ := store_run (X := X) ho hv hA hk (by omega) (repc_one hr) (by omega)
  have hw : ∀ b' o, M b' o → (w.setRow b arr').cell? ⟨b', o, none⟩ = w.cell? ⟨b', o, none⟩ := fun b' o' hm => cell_setRow_other w _ b' o' arr' (fun e => (h.ob l _ _ hl).hid rfl hb o' (e ▸ hm))
  have hs := h.stored (o := .row e n (rowSet f k j (σ.ev y).cells)) (arr' := arr') hl rfl hb ⟨hke, .inr ⟨b, c, arr', hb, setRow_heap w b arr arr' e (0, 0) hA, by omega, hnc, hcm, hby, fun i q hi hq => ?_, (h.ob l _ _ hl).hid rfl hb⟩⟩
  · rw [hdst] at hK
    exact wp_skip_ hdst he ⟨M, β, _, hs, hK⟩
  · have hg2 := hget (i * (X.T e).size + q)
    have hiq : i * (X.T e).size + q < arr.size := by
      have : (i + 1) * (X.T e).size ≤ c * (X.T e).size := Nat.mul_le_mul_right _ (by omega)
      rw [Nat.succ_mul] at this
      omega
    unfold rowSet
    by_cases hin : i = k ∧ j ≤ q ∧ q < j + (σ.ev y).cells.length
    · obtain ⟨rfl, h1, h2⟩ := hin
      rw [if_pos ⟨rfl, h1, h2⟩]
      rw [if_pos (by omega), show i * (X.T e).size + q - (i * (X.T e).size + j) = q - j by omega] at hg2
      have hlt : q - j < (a.eval y).cells.size := by omega
      rw [Array.getElem?_eq_getElem hlt] at hg2
      rw [getD_some hg2]
      have h3 := hr.o (q - j) (by omega)
      have h4 := hr.r (q - j) ((σ.ev y).cells.getD (q - j) .opq) (by simp [List.getD, List.getElem?_eq_getElem (by omega : q - j < (σ.ev y).cells.length)])
      have h5 : (a.eval y).cells.getD (q - j) undef = (a.eval y).cells[q - j] := by simp [Array.getD, hlt]
      rw [h5] at h3 h4
      refine ⟨h3, (h4.frz0 (cells_frz hg hf _ ?_)).mono (fun _ _ h => h) hw⟩
      simp [List.getD, List.getElem?_eq_getElem (by omega : q - j < (σ.ev y).cells.length)]
    · rw [if_neg hin]
      rw [if_neg (fun h3 => hin (by
        obtain ⟨h3, h4⟩ := h3
        have h5 : i = k := by
          rcases Nat.lt_trichotomy i k with h6 | h6 | h6
          · have : (i + 1) * (X.T e).size ≤ k * (X.T e).size := Nat.mul_le_mul_right _ (by omega)
            rw [Nat.succ_mul] at this
            omega
          · exact h6
          · have : (k + 1) * (X.T e).size ≤ i * (X.T e).size := Nat.mul_le_mul_right _ (by omega)
            rw [Nat.succ_mul] at this
            omega
        subst h5
        exact ⟨rfl, by omega, by omega⟩))] at hg2
      rw [Array.getElem?_eq_getElem hiq] at hg2
      have h5 : arr.getD (i * (X.T e).size + q) undef = arr[i * (X.T e).size + q] := by simp [Array.getD, hiq]
      rw [getD_some hg2, ← h5]
      exact ⟨(hR i q hi hq).1, (hR i q hi hq).2.mono (fun _ _ h => h) hw⟩

theorem sizeOf?_eq {fs : List (Nat × Nat)} {i : Nat} {p : Nat × Nat} (h : sizeOf? X fs i = some p) : ∃ q, fs[i]? = some q ∧ (X.T q.1).known = true ∧ p = (q.2, (X.T q.1).size) := by
  unfold sizeOf? at h
  split at h
  · rename_i q hq
    split at h
    · rename_i hk
      injection h with h
      exact ⟨q, hq, hk, h.symm⟩
    · cases h
  · cases h

theorem mapM_places {P : Program} : ∀ (fs : List Field), (∀ F ∈ fs, ∃ i, P.info? F.type = some i ∧ i.size ≠ 0) → ∃ places : List (Nat × Nat), fs.mapM (fun f => (P.info? f.type).map fun i => (f.offset, i.size)) = some places ∧
    ∀ (i : Nat) (F : Field) (j : TypeInfo), fs[i]? = some F → P.info? F.type = some j → places[i]? = some (F.offset, j.size)
  | [], _ => ⟨[], rfl, fun i F j h _ => by simp at h⟩
  | F :: fs, h => by
    obtain ⟨j0, hj0, _⟩ := h F (List.mem_cons_self)
    obtain ⟨pl, h1, h2⟩ := mapM_places fs (fun G hG => h G (List.mem_cons_of_mem _ hG))
    refine ⟨(F.offset, j0.size) :: pl, by simp [List.mapM_cons, hj0, h1], fun i G j hG hj => ?_⟩
    match i, hG with
    | 0, hG =>
      simp only [List.getElem?_cons_zero, Option.some.injEq] at hG
      subst hG
      rw [hj0] at hj
      injection hj with hj
      subst hj
      rfl
    | i + 1, hG => exact h2 i G j (by simpa using hG) hj

theorem build_wp (h : Sim X M0 S0 w0 N M β σ a w) {o : Oper} {K : St κ → Prop} {t : TypeId} {parts : Array (Nat × Operand)} {fs : List (Nat × Nat)} (ho : o.op = .build t parts) (hk : (X.T t).k = .struct fs) (hd : ∀ k, o.dst = some k → k < N)
    (hK : fillW (sizeOf? X fs) (parts.toList.map fun p => (p.1, σ.ev p.2)) ((X.T t).zero.cells.toList.map .v) fun cs => K (σ.put o.dst (.agg cs))) : o.wp X.P a w (Post X M0 S0 w0 N K) Q := by
  have hne : (X.T t).k ≠ .other := by rw [hk]; exact fun h => by cases h
  have h1 := X.form t
  rw [hk] at h1
  simp only [KOk] at h1
  obtain ⟨fa, h1, rfl, h3⟩ := h1
  obtain ⟨_, _, _, _, j, hj, _, _, hz⟩ := X.info hne
  obtain ⟨places, hp1, hp2⟩ := mapM_places fa.toList h3
  obtain ⟨arr', cs', hf, hr, _, hK'⟩ := fill_run (X := X) (M := M) (w := w) (β := β) (place := fun i => places.toArray[i]?) (fun i p hp => by
    obtain ⟨q, hq, hkn, rfl⟩ := sizeOf?_eq hp
    rw [List.getElem?_map] at hq
    obtain ⟨F, hF, rfl⟩ := Option.map_eq_some_iff.1 hq
    obtain ⟨_, _, _, _, j', hj', hs', _⟩ := X.info (TyI.known_ne hkn)
    have := hp2 i F j' hF hj'
    simp only [List.getElem?_toArray]
    rw [this, hs']) h.ev parts.toList _ _ _ (zero_rep hne) hK
  have hb : X.P.built t (parts.map fun p => (p.1, a.eval p.2)).toList = some arr' := by
    unfold Program.built
    simp only [hj, h1, hz, hp1]
    rw [Array.toList_map]
    exact hf
  have he : (execOp a.eval o).run X.P w = .ok (.value (.agg arr')) w := by
    have hrun := run_build (P := X.P) w t (parts.map fun p => (p.1, a.eval p.2)) arr' hb
    simp [execOp, ho, hrun]
  exact wp_value he ⟨M, β, _, h.put hd (.agg hr.n hr.o hr.r), hK'⟩

theorem buildArr_wp (h : Sim X M0 S0 w0 N M β σ a w) {o : Oper} {K : St κ → Prop} {t e m : Nat} {parts : Array (Nat × Operand)} (ho : o.op = .build t parts) (hk : (X.T t).k = .arr m e) (hkn : (X.T e).known = true) (hd : ∀ k, o.dst = some k → k < N)
    (hK : fillW (fun i => some (i * (X.T e).size, (X.T e).size)) (parts.toList.map fun p => (p.1, σ.ev p.2)) ((X.T t).zero.cells.toList.map .v) fun cs => K (σ.put o.dst (.agg cs))) : o.wp X.P a w (Post X M0 S0 w0 N K) Q := by
  have hne : (X.T t).k ≠ .other := by rw [hk]; exact fun h => by cases h
  have h1 := X.form t
  rw [hk] at h1
  simp only [KOk] at h1
  obtain ⟨_, _, _, _, j, hj, _, _, hz⟩ := X.info hne
  obtain ⟨_, _, _, _, je, hje, hse, _, _⟩ := X.info (TyI.known_ne hkn)
  obtain ⟨arr', cs', hf, hr, _, hK'⟩ := fill_run (X := X) (M := M) (w := w) (β := β) (place := fun i => some (i * je.size, je.size)) (fun i p hp => by rw [hse]; exact hp) h.ev parts.toList _ _ _ (zero_rep hne) hK
  have hb : X.P.built t (parts.map fun p => (p.1, a.eval p.2)).toList = some arr' := by
    unfold Program.built
    simp only [hj, h1, hz, hje]
    rw [Array.toList_map]
    exact hf
  have he : (execOp a.eval o).run X.P w = .ok (.value (.agg arr')) w := by
    have hrun := run_build (P := X.P) w t (parts.map fun p => (p.1, a.eval p.2)) arr' hb
    simp [execOp, ho, hrun]
  exact wp_value he ⟨M, β, _, h.put hd (.agg hr.n hr.o hr.r), hK'⟩

theorem flat_len {α : Type} (l : List α) : ∀ n, ((List.replicate n l).flatten).length = n * l.length
  | 0 => by simp
  | n + 1 => by rw [List.replicate_succ, List.flatten_cons, List.length_append, flat_len l n, Nat.succ_mul]; omega
theorem flat_get {α : Type} (l : List α) : ∀ n i, i < n * l.length → ((List.replicate n l).flatten)[i]? = l[i % l.length]?
  | 0, i, h => by simp at h
  | n + 1, i, h => by
    rw [List.replicate_succ, List.flatten_cons]
    by_cases hi : i < l.length
    · rw [List.getElem?_append_left hi, Nat.mod_eq_of_lt hi]
    · rw [List.getElem?_append_right (by omega), flat_get l n (i - l.length) (by rw [Nat.succ_mul] at h; omega)]
      congr 1
      exact (Nat.mod_eq_sub_mod (by omega)).symm

theorem Sim.newRow (h : Sim X M0 S0 w0 N M β σ a w) {l e n c : Nat} {f : Nat → Nat → D κ} {arr : Array Value} {w1 : World} (hob : σ.ob l = none) (hl : l < N) (hw1 : w1.heap = w.heap ∧ w1.os = w.os ∧ w1.tape = w.tape ∧ w1.output = w.output) (hke : (X.T e).known = true)
    (hc : n ≤ c) (hm : c ≤ maxLen) (hby : n * (X.T e).bytes ≤ 140737488355328) (hs : arr.size = c * (X.T e).size) (hr : ∀ i j, i < n → j < (X.T e).size → (arr.getD (i * (X.T e).size + j) undef).oneCell' = true ∧ Rep X.V M w b0 (f i j) (arr.getD (i * (X.T e).size + j) undef)) :
    ∃ β', Sim X M0 S0 w0 N M β' ((σ.setOb l (.row e n f) false).put (some l) (.own l (X.T e).size 0 n)) (a.put (some l) (.slice (some ⟨w.heap.size, 0, none⟩) n c)) (w1.alloc (.cells arr e)) := by
  have hk := kp_alloc w w1 (.cells arr e) hw1
  have h1 := h.fresh (w' := w1.alloc (.cells arr e)) (c := c) (o := .row e n f) hob hk ⟨hke, .inr ⟨w.heap.size, c, arr, upd_at _ _ _, alloc_at w w1 _ hw1.1, hs, hc, hm, hby,
    fun i j hi hj => ⟨(hr i j hi hj).1, (hr i j hi hj).2.mono (fun _ _ h => h) (fun b o hmm => hk.cell (h.mlt b o hmm) (fun h => h))⟩, fun q hq => by have := h.mlt _ _ hq; omega⟩⟩
  have h2 := Rep.own (V := X.V) (M := M) (w := w1.alloc (.cells arr e)) (β := upd β l (some (w.heap.size, c))) (s := (X.T e).size) (o := 0) (n := n) (upd_at _ _ _) (by omega) hm
  rw [Nat.zero_mul, Nat.sub_zero] at h2
  exact ⟨_, h1.put (fun k hk => by injection hk with hk; omega) h2⟩
end
end Go.Proofs.YteojgenhgjhohaaDoor
