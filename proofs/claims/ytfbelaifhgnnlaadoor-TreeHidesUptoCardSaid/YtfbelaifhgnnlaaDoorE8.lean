/-
  One operation of a call, over any program: it does what 'opW' says.
-/
import Derived.Test.YtfbelaifhgnnlaaDoorE7
namespace Go.Proofs.YtfbelaifhgnnlaaDoor
open Go.RowKit
set_option linter.unusedVariables false
set_option linter.unusedSimpArgs false

section
variable {κ : Type} {X : Cx κ} {M0 M : Nat → Nat → Prop} {w0 w : World} {N : Nat} {β : Nat → Nat} {γ : Nat → Option Grp} {σ : St κ} {a : Act} {Q : Exit → Act → World → Prop}

theorem alloc_wp (h : Sim X M0 w0 N M β γ σ a w) {o : Oper} {K : St κ → Prop} {e : TypeId} {l : Nat} (ho : o.op = .alloc e) (hdst : o.dst = some l) (hl : l < N) (hk : (X.T e).known = true) (hK : K (σ.box l ((X.T e).zero.cells.toList.map .v) none)) :
    o.wp X.P a w (Post X M0 w0 N K) Q := by
  have hne := TyI.known_ne hk
  obtain ⟨_, _, _, _, j, hj, _, _, hz⟩ := X.info hne
  have he : (execOp a.eval o).run X.P w = .ok (.value (.pointer (some ⟨w.heap.size, 0, none⟩))) (w.alloc (.cells (X.T e).zero.cells e)) := by
    simp [execOp, ho, Instr.alloc, zeroValue, typeInfo, hj, hz, newVar, newRow]
  have hr := zero_rep (M := M) (w := w) hne
  have hs := h.newBox (T := e) (t0 := none) hl hr.n hr.o hr.r (fun _ _ h => by cases h)
  rw [← hdst] at hs
  exact wp_value he ⟨M, _, γ, _, hs, hK⟩

theorem box_wp (h : Sim X M0 w0 N M β γ σ a w) {o : Oper} {K : St κ → Prop} {e : TypeId} {x : Operand} {l : Nat} (ho : o.op = .box e x) (hdst : o.dst = some l) (hl : l < N) (hg : (σ.ev x).good = true)
    (hK : K (σ.box l (σ.ev x).cells (match (σ.ev x).cells with | [_] => ownOnly (σ.tag x) | _ => none))) : o.wp X.P a w (Post X M0 w0 N K) Q := by
  have he : (execOp a.eval o).run X.P w = .ok (.value (.pointer (some ⟨w.heap.size, 0, none⟩))) (w.alloc (.cells (a.eval x).cells e)) := by
    simp [execOp, ho, Instr.box, newVar, newRow]
  have hr := cells_rep hg (h.ev x)
  have := h.newBox (T := e) (t0 := match (σ.ev x).cells with | [_] => ownOnly (σ.tag x) | _ => none) hl hr.n hr.o hr.r ?_
  · have e2 : ∀ t, ownOnly (ownOnly t) = ownOnly t := fun t => by rcases t with _ | _ | _ <;> rfl
    have e1 : ownOnly (match (σ.ev x).cells with | [_] => ownOnly (σ.tag x) | _ => none) = (match (σ.ev x).cells with | [_] => ownOnly (σ.tag x) | _ => none) := by
      split
      · exact e2 _
      · rfl
    rw [e1, ← hdst] at this
    exact wp_value he ⟨M, _, γ, _, this, hK⟩
  · intro g e' ht
    split at ht
    · rename_i d' hc
      have ht := ownOnly_own ht
      rw [hc] at hr
      have hn := hr.n
      have hv : (a.eval x).cells.getD 0 undef = a.eval x ∧ 0 < (a.eval x).cells.size := by
        cases x with
        | tmp t =>
          have := h.to t g e' ht
          obtain ⟨A, n, c, hv⟩ : ∃ A n c, a.tmps.getD t undef = .slice A n c := by
            unfold OwnV at this
            split at this
            · exact ⟨_, _, _, this⟩
            · exact ⟨_, _, _, this.2⟩
          show (Value.cells (a.tmps.getD t undef)).getD 0 undef = a.tmps.getD t undef ∧ _ < (Value.cells (a.tmps.getD t undef)).size
          rw [hv]
          exact ⟨rfl, Nat.zero_lt_one⟩
        | _ => cases ht
      refine ⟨hv.2, ?_⟩
      rw [hv.1]
      cases x with
      | tmp t => exact h.to t g e' ht
      | _ => cases ht
    · cases ht

theorem fieldAddr_wp (h : Sim X M0 w0 N M β γ σ a w) {o : Oper} {K : St κ → Prop} {t : TypeId} {x : Operand} {i l off : Nat} {cs : List (D κ)} {fs : List (Nat × Nat)} {p : Nat × Nat} (ho : o.op = .fieldAddr t x i) (ht : σ.tag x = some (.ptr l off)) (hb : σ.bx l = some cs)
    (hk : (X.T t).k = .struct fs) (hp : fs[i]? = some p) (hd : ∀ k, o.dst = some k → k < N) (hK : K (σ.put o.dst .opq (some (.ptr l (off + p.2))))) : o.wp X.P a w (Post X M0 w0 N K) Q := by
  have h1 := X.form t
  rw [hk] at h1
  simp only [KOk] at h1
  obtain ⟨fa, h1, rfl, h3⟩ := h1
  rw [List.getElem?_map] at hp
  obtain ⟨F, hF, rfl⟩ := Option.map_eq_some_iff.1 hp
  have hF' : fa[i]? = some F := by simpa using hF
  obtain ⟨j, hj, hj0⟩ := h3 F (List.mem_of_getElem? hF)
  have hs : (sizeOf F.type).run X.P w = .ok j.size w := by rw [run_sizeOf w hj, Program.cellsOf, hj]; rfl
  have hadd : (⟨β l, off, none⟩ : Addr).add F.offset = ⟨β l, off + F.offset, none⟩ := Go.WideShapes.add_plain _ _ _
  have he : (execOp a.eval o).run X.P w = .ok (.value (.pointer (some ⟨β l, off + F.offset, none⟩))) w := by
    simp [execOp, ho, ptr_at h ht hb, Instr.fieldAt, run_underlying h1, hF', Instr.sureAddr, fieldPlace, hs, hj0, hadd]
  refine wp_value he ⟨M, β, γ, _, h.put hd .opq ?_ (fun _ _ h => by cases h), hK⟩
  intro l' o' e _
  simp only [Option.some.injEq, Tg.ptr.injEq] at e
  obtain ⟨rfl, rfl⟩ := e
  rfl

theorem nilCheck_wp (h : Sim X M0 w0 N M β γ σ a w) {o : Oper} {K : St κ → Prop} {x : Operand} {l off : Nat} {cs : List (D κ)} (ho : o.op = .nilCheck x) (ht : σ.tag x = some (.ptr l off)) (hb : σ.bx l = some cs)
    (hd : ∀ k, o.dst = some k → k < N) (hK : K (σ.put o.dst .opq (some (.ptr l off)))) : o.wp X.P a w (Post X M0 w0 N K) Q := by
  have he : (execOp a.eval o).run X.P w = .ok (.value (.pointer (some ⟨β l, off, none⟩))) w := by
    simp [execOp, ho, ptr_at h ht hb]
  refine wp_value he ⟨M, β, γ, _, h.put hd .opq ?_ (fun _ _ h => by cases h), hK⟩
  intro l' o' e _
  simp only [Option.some.injEq, Tg.ptr.injEq] at e
  obtain ⟨rfl, rfl⟩ := e
  rfl

theorem store_wp (h : Sim X M0 w0 N M β γ σ a w) {o : Oper} {K : St κ → Prop} {t : TypeId} {x y : Operand} {l off : Nat} {cs : List (D κ)} (ho : o.op = .store t x y) (hdst : o.dst = none) (ht : σ.tag x = some (.ptr l off)) (hb : σ.bx l = some cs)
    (hg : (σ.ev y).good = true) (hn : (σ.ev y).cells.length = (X.T t).size) (hk : (X.T t).known = true) (hle : off + (σ.ev y).cells.length ≤ cs.length)
    (hK : K (σ.store l off (σ.ev y).cells.length (setCells cs off (σ.ev y).cells) (match (σ.ev y).cells with | [_] => ownOnly (σ.tag y) | _ => none))) : o.wp X.P a w (Post X M0 w0 N K) Q := by
  obtain ⟨arr, T, h1, h2⟩ := box_cells h hb
  have hr := cells_rep hg (h.ev y)
  have hvs : (a.eval y).cells.size = (σ.ev y).cells.length := hr.n
  have hsz := X.sizeOf (TyI.known_ne hk) w
  have hone : ∀ v ∈ (a.eval y).cells.toList, v.oneCell' = true := by
    intro v hv
    obtain ⟨i, hi⟩ := List.mem_iff_getElem?.1 hv
    have hi' : (a.eval y).cells[i]? = some v := by simpa using hi
    have := hr.o i (by have := (Array.getElem?_eq_some_iff.1 hi').1; omega)
    rwa [getD_some hi'] at this
  have hst := run_storeCells_at X.P (β l) off T (a.eval y).cells.toList 0 arr w h1 (by simp; have := h2.n; omega) hone
  simp only [Nat.add_zero] at hst
  obtain ⟨arr', harr⟩ : ∃ arr' : Array Value, arr' = (arr.toList.take off ++ (a.eval y).cells.toList ++ arr.toList.drop (off + (a.eval y).cells.toList.length)).toArray := ⟨_, rfl⟩
  rw [← harr] at hst
  have hasz : arr.size = cs.length := h2.n
  have hget : ∀ i, arr'[i]? = if off ≤ i ∧ i < off + (a.eval y).cells.size then (a.eval y).cells[i - off]? else arr[i]? := by
    intro i
    rw [harr]
    simp only [List.getElem?_toArray]
    by_cases h3 : off ≤ i ∧ i < off + (a.eval y).cells.size
    · rw [if_pos h3, List.append_assoc, List.getElem?_append_right (by simp; omega), List.getElem?_append_left (by simp; omega)]
      simp only [List.length_take, Array.length_toList, Array.getElem?_toList]
      congr 1
      omega
    · rw [if_neg h3]
      by_cases h4 : i < off
      · rw [List.append_assoc, List.getElem?_append_left (by simp; omega), List.getElem?_take, if_pos h4]
        simp
      · rw [List.getElem?_append_right (by simp; omega), List.getElem?_drop]
        simp only [List.length_append, List.length_take, Array.length_toList, Array.getElem?_toList]
        congr 1
        omega
  have hsize : arr'.size = arr.size := by
    rw [harr]
    simp
    omega
  have hnew := h2.lay hr hle hsize hget
  have he : (execOp a.eval o).run X.P w = .ok .skip (w.setRow (β l) arr') := by
    simp [execOp, ho, ptr_at h ht hb, Instr.storeAt, Instr.sureAddr, storeVar, hsz, hvs, hn, hst]
  unfold Oper.wp
  rw [he]
  show Post X M0 w0 N K (a.put o.dst undef) _
  rw [hdst]
  have hs := h.stored (n := (σ.ev y).cells.length) (off := off) (t0 := match (σ.ev y).cells with | [_] => ownOnly (σ.tag y) | _ => none) hb h1 hnew.n hnew.o hnew.r (fun i hi => by rw [hget, if_neg (by rw [hvs]; exact hi)]) ?_
  · have e2 : ∀ t, ownOnly (ownOnly t) = ownOnly t := fun t => by rcases t with _ | _ | _ <;> rfl
    have e1 : ownOnly (match (σ.ev y).cells with | [_] => ownOnly (σ.tag y) | _ => none) = (match (σ.ev y).cells with | [_] => ownOnly (σ.tag y) | _ => none) := by
      split
      · exact e2 _
      · rfl
    rw [e1] at hs
    exact ⟨M, β, γ, _, hs, hK⟩
  · intro g e' ht'
    split at ht'
    · rename_i d' hc
      have ht' := ownOnly_own ht'
      rw [hc] at hvs ⊢
      refine ⟨rfl, a.eval y, ?_, ?_⟩
      · rw [hget, if_pos (by rw [hvs]; simp), Nat.sub_self]
        cases y with
        | tmp s =>
          have := h.to s g e' ht'
          obtain ⟨A, n, c, hv⟩ : ∃ A n c, a.tmps.getD s undef = .slice A n c := by
            unfold OwnV at this
            split at this
            · exact ⟨_, _, _, this⟩
            · exact ⟨_, _, _, this.2⟩
          show (Value.cells (a.tmps.getD s undef))[0]? = some (a.tmps.getD s undef)
          rw [hv]
          rfl
        | _ => cases ht'
      · cases y with
        | tmp s => exact h.to s g e' ht'
        | _ => cases ht'
    · cases ht'

theorem sizeOf?_eq {fs : List (Nat × Nat)} {i : Nat} {p : Nat × Nat} (h : sizeOf? X fs i = some p) : ∃ q, fs[i]? = some q ∧ (X.T q.1).known = true ∧ p = (q.2, (X.T q.1).size) := by
  unfold sizeOf? at h
  split at h
  · rename_i q hq
    split at h
    · rename_i hk
      injection h with h
      exact ⟨q, hq, hk, h.symm⟩
    · cases h
  · cases h

theorem mapM_places {P : Program} : ∀ (fs : List Field), (∀ F ∈ fs, ∃ i, P.info? F.type = some i ∧ i.size ≠ 0) → ∃ places : List (Nat × Nat), fs.mapM (fun f => (P.info? f.type).map fun i => (f.offset, i.size)) = some places ∧
    ∀ (i : Nat) (F : Field) (j : TypeInfo), fs[i]? = some F → P.info? F.type = some j → places[i]? = some (F.offset, j.size)
  | [], _ => ⟨[], rfl, fun i F j h _ => by simp at h⟩
  | F :: fs, h => by
    obtain ⟨j0, hj0, _⟩ := h F (List.mem_cons_self)
    obtain ⟨pl, h1, h2⟩ := mapM_places fs (fun G hG => h G (List.mem_cons_of_mem _ hG))
    refine ⟨(F.offset, j0.size) :: pl, by simp [List.mapM_cons, hj0, h1], fun i G j hG hj => ?_⟩
    match i, hG with
    | 0, hG =>
      simp only [List.getElem?_cons_zero, Option.some.injEq] at hG
      subst hG
      rw [hj0] at hj
      injection hj with hj
      subst hj
      rfl
    | i + 1, hG => exact h2 i G j (by simpa using hG) hj

theorem build_wp (h : Sim X M0 w0 N M β γ σ a w) {o : Oper} {K : St κ → Prop} {t : TypeId} {parts : Array (Nat × Operand)} {fs : List (Nat × Nat)} (ho : o.op = .build t parts) (hk : (X.T t).k = .struct fs) (hd : ∀ k, o.dst = some k → k < N)
    (hK : fillW (sizeOf? X fs) (parts.toList.map fun p => (p.1, σ.ev p.2)) ((X.T t).zero.cells.toList.map .v) fun cs => K (σ.put o.dst (.agg cs) none)) : o.wp X.P a w (Post X M0 w0 N K) Q := by
  have hne : (X.T t).k ≠ .other := by rw [hk]; exact fun h => by cases h
  have h1 := X.form t
  rw [hk] at h1
  simp only [KOk] at h1
  obtain ⟨fa, h1, rfl, h3⟩ := h1
  obtain ⟨_, _, _, _, j, hj, _, _, hz⟩ := X.info hne
  obtain ⟨places, hp1, hp2⟩ := mapM_places fa.toList h3
  obtain ⟨arr', cs', hf, hr, _, hK'⟩ := fill_run (X := X) (M := M) (w := w) (place := fun i => places.toArray[i]?) (fun i p hp => by
    obtain ⟨q, hq, hkn, rfl⟩ := sizeOf?_eq hp
    rw [List.getElem?_map] at hq
    obtain ⟨F, hF, rfl⟩ := Option.map_eq_some_iff.1 hq
    obtain ⟨_, _, _, _, j', hj', hs', _⟩ := X.info (TyI.known_ne hkn)
    have := hp2 i F j' hF hj'
    simp only [List.getElem?_toArray]
    rw [this, hs']) h.ev parts.toList _ _ _ (zero_rep hne) hK
  have hb : X.P.built t (parts.map fun p => (p.1, a.eval p.2)).toList = some arr' := by
    unfold Program.built
    simp only [hj, h1, hz, hp1]
    rw [Array.toList_map]
    exact hf
  have he : (execOp a.eval o).run X.P w = .ok (.value (.agg arr')) w := by
    have hrun := run_build (P := X.P) w t (parts.map fun p => (p.1, a.eval p.2)) arr' hb
    simp [execOp, ho, hrun]
  exact wp_value he ⟨M, β, γ, _, h.put0 hd (.agg hr.n hr.o hr.r), hK'⟩

/-- A new block of the call's own, filled, in slot k. -/
theorem Sim.row (h : Sim X M0 w0 N M β γ σ a w) {g k e n c : Nat} {d : D κ} {arr : Array Value} {w1 : World} (hk : k < N) (hw1 : w1.heap = w.heap ∧ w1.os = w.os ∧ w1.tape = w.tape ∧ w1.output = w.output) (hc : n ≤ c) (hm : c ≤ maxLen) (hs : arr.size = c * (X.T e).size)
    (hr : ∀ M', (∀ b o, M b o → M' b o) → (∀ o, o < n * (X.T e).size → M' w.heap.size o) → Rep X.V M' (w1.alloc (.cells arr e)) d (.slice (some ⟨w.heap.size, 0, none⟩) n c)) :
    ∃ M' γ', Sim X M0 w0 N M' β γ' (σ.app k g e d) (a.put (some k) (.slice (some ⟨w.heap.size, 0, none⟩) n c)) (w1.alloc (.cells arr e)) := by
  obtain ⟨e1, e2, e3, e4⟩ := hw1
  have hsz : w1.heap.size = w.heap.size := by rw [e1]
  have hkill := h.kill g
  have hheap : ∀ i, i < w.heap.size → (w1.alloc (.cells arr e)).heap[i]? = w.heap[i]? := fun i hi => by
    rw [Below.heap_alloc _ _ _ (by omega), e1]
  have hnew : (w1.alloc (.cells arr e)).heap[w.heap.size]? = some (.cells arr e (0, 0)) := by
    have := heap_alloc_new w1 (.cells arr e)
    rwa [hsz] at this
  have hcell : ∀ b o, M b o → (w1.alloc (.cells arr e)).cell? ⟨b, o, none⟩ = w.cell? ⟨b, o, none⟩ := fun b o hmm => World.cell?_of_block (w := w) (a := ⟨b, o, none⟩) (hheap b (h.mlt b o hmm))
  have hw := hkill.world (w' := w1.alloc (.cells arr e)) (M' := fun b o => M b o ∨ (b = w.heap.size ∧ o < n * (X.T e).size)) w.heap.size e2 e3 e4 (by simp [hsz]) h.below.size (by simp [hsz]) (fun i hi _ => hheap i hi) hcell
    (fun l cs hl => by obtain ⟨_, _, h2, _⟩ := h.bx l cs hl; have := heap_lt h2; omega)
    (fun i G hi => by
      obtain ⟨_, _, _, _, cur, h5, _⟩ := hkill.gr i G hi
      have := heap_lt h5
      omega)
    (fun b o hm => .inl hm) (fun b o hm => hm.imp id (·.1))
  refine ⟨_, _, hw.take (g := g) (by simp) hk (some ⟨w.heap.size, n, c, e⟩) (hr _ (fun b o hm => .inl hm) (fun o ho => .inr ⟨rfl, ho⟩)) ⟨rfl, rfl⟩ ?_⟩
  intro G hG
  injection hG with hG
  subst hG
  refine ⟨⟨h.below.size, hc, hm, ?_, arr, hnew, hs⟩, ?_, ?_⟩
  · intro o ho
    rcases ho with ho | ⟨_, ho⟩
    · have := h.mlt _ _ ho
      simp only at this
      omega
    · exact ho
  · intro l cs hl
    obtain ⟨_, _, h2, _⟩ := h.bx l cs hl
    have := heap_lt h2
    simp only
    omega
  · intro i I hi
    obtain ⟨_, _, _, _, cur, h5, _⟩ := hkill.gr i I hi
    have := heap_lt h5
    simp only
    omega

theorem flat_len {α : Type} (l : List α) : ∀ n, ((List.replicate n l).flatten).length = n * l.length
  | 0 => by simp
  | n + 1 => by rw [List.replicate_succ, List.flatten_cons, List.length_append, flat_len l n, Nat.succ_mul]; omega
theorem flat_get {α : Type} (l : List α) : ∀ n i, i < n * l.length → ((List.replicate n l).flatten)[i]? = l[i % l.length]?
  | 0, i, h => by simp at h
  | n + 1, i, h => by
    rw [List.replicate_succ, List.flatten_cons]
    by_cases hi : i < l.length
    · rw [List.getElem?_append_left hi, Nat.mod_eq_of_lt hi]
    · rw [List.getElem?_append_right (by omega), flat_get l n (i - l.length) (by rw [Nat.succ_mul] at h; omega)]
      congr 1
      exact (Nat.mod_eq_sub_mod (by omega)).symm

theorem buildSlice_run (h : Sim X M0 w0 N M β γ σ a w) {o : Oper} {J : List (D κ) → Prop} {t e : TypeId} {n : Nat} {parts : Array (Nat × Operand)} (ho : o.op = .buildSlice t n parts) (hk : (X.T t).k = .sl e) (hkn : (X.T e).known = true)
    (hc : n * (X.T e).size ≤ 16777216) (hb : n * (X.T e).bytes ≤ 140737488355328)
    (hK : fillW (fun i => some (i * (X.T e).size, (X.T e).size)) (parts.toList.map fun p => (p.1, σ.ev p.2)) ((List.replicate n ((X.T e).zero.cells.toList.map .v)).flatten) J) :
    ∃ arr' cs', (execOp a.eval o).run X.P w = .ok (.value (.slice (some ⟨w.heap.size, 0, none⟩) n n)) (w.alloc (.cells arr' e)) ∧ arr'.size = n * (X.T e).size ∧ n ≤ 140737488355328 ∧ J cs' ∧
      ∀ M', (∀ b o, M b o → M' b o) → (∀ o, o < n * (X.T e).size → M' w.heap.size o) → Rep X.V M' (w.alloc (.cells arr' e)) (.sl (X.T e).size (X.T e).bytes n (fun i j => cs'.getD (i * (X.T e).size + j) .opq)) (.slice (some ⟨w.heap.size, 0, none⟩) n n) := by
  have h1 := X.form t
  rw [hk] at h1
  simp only [KOk] at h1
  have hne := TyI.known_ne hkn
  obtain ⟨hs0, hz0, _, _, j, hj, _, _, hz⟩ := X.info hne
  have hzr := zero_rep (M := M) (w := w) hne
  have hzl : ((X.T e).zero.cells.toList.map (D.v (κ := κ))).length = (X.T e).size := by simp [hz0]
  obtain ⟨arr, harr⟩ : ∃ arr : Array Value, arr = (Array.range (n * (X.T e).size)).map (fun x => (X.T e).zero.cells[x % (X.T e).zero.cells.size]!) := ⟨_, rfl⟩
  have hget : ∀ i, i < n * (X.T e).size → arr.getD i undef = (X.T e).zero.cells.getD (i % (X.T e).size) undef := by
    intro i hi
    have hlt : i % (X.T e).size < (X.T e).zero.cells.size := by rw [hz0]; exact Nat.mod_lt _ hs0
    rw [harr]
    simp [Array.getD, hi, hz0, getElem!_pos, hlt, Nat.mod_lt _ hs0]
  have hr0 : RepC X.V M w ((List.replicate n ((X.T e).zero.cells.toList.map .v)).flatten) arr := by
    refine ⟨by rw [flat_len, hzl, harr]; simp, ?_, ?_⟩
    · intro i hi
      rw [flat_len, hzl] at hi
      rw [hget i hi]
      exact hzr.o _ (by rw [hzl]; exact Nat.mod_lt _ hs0)
    · intro i d hd
      have hi := (List.getElem?_eq_some_iff.1 hd).1
      rw [flat_len, hzl] at hi
      rw [flat_get _ _ _ (by rw [hzl]; exact hi), hzl] at hd
      rw [hget i hi]
      exact hzr.r _ d hd
  obtain ⟨arr', cs', hf, hr, hlen, hK'⟩ := fill_run (X := X) (M := M) (w := w) (place := fun i => some (i * (X.T e).size, (X.T e).size)) (fun i p hp => hp) h.ev parts.toList _ arr _ hr0 hK
  rw [flat_len, hzl] at hlen
  have hsz := X.sizeOf hne w
  have he : (execOp a.eval o).run X.P w = .ok (.value (.slice (some ⟨w.heap.size, 0, none⟩) n n)) (w.alloc (.cells arr' e)) := by
    have hno : ¬ (n * (X.T e).size > 2 ^ 24) := by omega
    have hno' : ¬ (16777216 < n * (X.T e).size) := by omega
    by_cases hn0 : n * (X.T e).size = 0
    · have harr0 : arr = #[] := by rw [harr, hn0]; simp
      rw [harr0] at hf
      have e0 : Array.map (fun _ : Nat => (default : Value)) (Array.range 0) = #[] := by simp
      simp [execOp, ho, Instr.buildSlice, run_underlying h1, hsz, hn0, e0, hf, newRow]
    · rw [harr] at hf
      simp [execOp, ho, Instr.buildSlice, run_underlying h1, hsz, hno', hn0, hf, newRow, zeroValue, typeInfo, hj, hz]
  have hn : n ≤ 140737488355328 := by
    rcases Nat.eq_zero_or_pos (X.T e).size with h0 | h0
    · omega
    · have := Nat.le_mul_of_pos_right n h0; omega
  have hcell : ∀ i, i < n * (X.T e).size → (w.alloc (.cells arr' e)).cell? ⟨w.heap.size, i, none⟩ = some (arr'.getD i undef) := fun i hi => by
    rw [cell_of_row _ _ _ _ _ _ (heap_alloc_new w _)]
    have : i < arr'.size := by rw [hr.n, hlen]; exact hi
    simp [Array.getD, this]
  have hw : ∀ b o, M b o → (w.alloc (.cells arr' e)).cell? ⟨b, o, none⟩ = w.cell? ⟨b, o, none⟩ := fun b o hm => ((Below.refl w.heap.size w).alloc (Nat.le_refl _) (.cells arr' e)).cell (p := ⟨b, o, none⟩) (h.mlt b o hm)
  have hij : ∀ i j, i < n → j < (X.T e).size → i * (X.T e).size + j < n * (X.T e).size := fun i j hi hj => by
    have : (i + 1) * (X.T e).size ≤ n * (X.T e).size := Nat.mul_le_mul_right _ (by omega)
    rw [Nat.succ_mul] at this
    omega
  have hrep : ∀ M', (∀ b o, M b o → M' b o) → (∀ o, o < n * (X.T e).size → M' w.heap.size o) → Rep X.V M' (w.alloc (.cells arr' e)) (.sl (X.T e).size (X.T e).bytes n (fun i j => cs'.getD (i * (X.T e).size + j) .opq)) (.slice (some ⟨w.heap.size, 0, none⟩) n n) := by
    intro M' hM hnew
    refine .sl (fun i j => arr'.getD (i * (X.T e).size + j) undef) (Nat.le_refl _) (by unfold maxLen; omega) hb (fun i j hi hj => ⟨?_, ?_, ?_⟩) (fun i j hi hj => ?_)
    · rw [Nat.zero_add]; exact hnew _ (hij i j hi hj)
    · rw [Nat.zero_add]; exact hcell _ (hij i j hi hj)
    · exact hr.o _ (by rw [hlen]; exact hij i j hi hj)
    · have hlt : i * (X.T e).size + j < cs'.length := by rw [hlen]; exact hij i j hi hj
      exact (hr.r _ _ (by simp [List.getD, List.getElem?_eq_getElem hlt])).mono hM hw
  exact ⟨arr', cs', he, by rw [hr.n, hlen], hn, hK', hrep⟩

theorem buildSlice_wp (h : Sim X M0 w0 N M β γ σ a w) {o : Oper} {K : St κ → Prop} {t e : TypeId} {n l : Nat} {parts : Array (Nat × Operand)} (ho : o.op = .buildSlice t n parts) (hk : (X.T t).k = .sl e) (hdst : o.dst = some l) (hl : l < N) (hkn : (X.T e).known = true)
    (hc : n * (X.T e).size ≤ 16777216) (hb : n * (X.T e).bytes ≤ 140737488355328)
    (hK : fillW (fun i => some (i * (X.T e).size, (X.T e).size)) (parts.toList.map fun p => (p.1, σ.ev p.2)) ((List.replicate n ((X.T e).zero.cells.toList.map .v)).flatten) fun cs =>
      K (σ.app l l e (.sl (X.T e).size (X.T e).bytes n (fun i j => cs.getD (i * (X.T e).size + j) .opq)))) : o.wp X.P a w (Post X M0 w0 N K) Q := by
  obtain ⟨arr', cs', he, hsz, hn, hK', hrep⟩ := buildSlice_run h ho hk hkn hc hb hK
  obtain ⟨M', γ', hs⟩ := h.row (g := l) (k := l) (e := e) (n := n) (c := n) (w1 := w) (arr := arr') hl ⟨rfl, rfl, rfl, rfl⟩ (Nat.le_refl _) (by unfold maxLen; omega) hsz hrep
  rw [← hdst] at hs
  exact wp_value he ⟨M', β, γ', _, hs, hK'⟩
end
end Go.Proofs.YtfbelaifhgnnlaaDoor
