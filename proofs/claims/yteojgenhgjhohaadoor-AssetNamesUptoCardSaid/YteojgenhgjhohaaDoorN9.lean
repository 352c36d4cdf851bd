/-
  One operation of a call, over any program: rows made, append.
-/
import Derived.Test.YteojgenhgjhohaaDoorN8
import Derived.Laws.MakeOwn
namespace Go.Proofs.YteojgenhgjhohaaDoor
open Go.RowKit
set_option linter.unusedVariables false
set_option linter.unusedSimpArgs false

section
variable {κ : Type} {X : Cx κ} {M0 M : Nat → Nat → Prop} {S0 : Ln} {w0 w : World} {N : Nat} {β : Bt} {σ : St κ} {a : Act} {Q : Exit → Act → World → Prop}

theorem buildSlice_run (h : Sim X M0 S0 w0 N M β σ a w) {o : Oper} {J : List (D κ) → Prop} {t e : TypeId} {n : Nat} {parts : Array (Nat × Operand)} (ho : o.op = .buildSlice t n parts) (hk : (X.T t).k = .sl e) (hkn : (X.T e).known = true)
    (hc : n * (X.T e).size ≤ 16777216) (hb : n * (X.T e).bytes ≤ 140737488355328)
    (hK : fillW (fun i => some (i * (X.T e).size, (X.T e).size)) (parts.toList.map fun p => (p.1, σ.ev p.2)) ((List.replicate n ((X.T e).zero.cells.toList.map .v)).flatten) J) :
    ∃ arr' cs', (execOp a.eval o).run X.P w = .ok (.value (.slice (some ⟨w.heap.size, 0, none⟩) n n)) (w.alloc (.cells arr' e)) ∧ arr'.size = n * (X.T e).size ∧ n ≤ 140737488355328 ∧ J cs' ∧ RepC X.V M w β cs' arr' := by
  have h1 := X.form t
  rw [hk] at h1
  simp only [KOk] at h1
  have hne := TyI.known_ne hkn
  obtain ⟨hs0, hz0, _, _, j, hj, _, _, hz⟩ := X.info hne
  have hzr := zero_rep (M := M) (w := w) (β := β) hne
  have hzl : ((X.T e).zero.cells.toList.map (D.v (κ := κ))).length = (X.T e).size := by simp [hz0]
  obtain ⟨arr, harr⟩ : ∃ arr : Array Value, arr = (Array.range (n * (X.T e).size)).map (fun x => (X.T e).zero.cells[x % (X.T e).zero.cells.size]!) := ⟨_, rfl⟩
  have hget : ∀ i, i < n * (X.T e).size → arr.getD i undef = (X.T e).zero.cells.getD (i % (X.T e).size) undef := by
    intro i hi
    have hlt : i % (X.T e).size < (X.T e).zero.cells.size := by rw [hz0]; exact Nat.mod_lt _ hs0
    rw [harr]
    simp [Array.getD, hi, hz0, getElem!_pos, hlt, Nat.mod_lt _ hs0]
  have hr0 : RepC X.V M w β ((List.replicate n ((X.T e).zero.cells.toList.map .v)).flatten) arr := by
    refine ⟨by rw [flat_len, hzl, harr]; simp, ?_, ?_⟩
    · intro i hi
      rw [flat_len, hzl] at hi
      rw [hget i hi]
      exact hzr.o _ (by rw [hzl]; exact Nat.mod_lt _ hs0)
    · intro i d hd
      have hi := (List.getElem?_eq_some_iff.1 hd).1
      rw [flat_len, hzl] at hi
      rw [flat_get _ _ _ (by rw [hzl]; exact hi), hzl] at hd
      rw [hget i hi]
      exact hzr.r _ d hd
  obtain ⟨arr', cs', hf, hr, hlen, hK'⟩ := fill_run (X := X) (M := M) (w := w) (β := β) (place := fun i => some (i * (X.T e).size, (X.T e).size)) (fun i p hp => hp) h.ev parts.toList _ arr _ hr0 hK
  rw [flat_len, hzl] at hlen
  have hsz := X.sizeOf hne w
  have he : (execOp a.eval o).run X.P w = .ok (.value (.slice (some ⟨w.heap.size, 0, none⟩) n n)) (w.alloc (.cells arr' e)) := by
    have hno : ¬ (n * (X.T e).size > 2 ^ 24) := by omega
    have hno' : ¬ (16777216 < n * (X.T e).size) := by omega
    by_cases hn0 : n * (X.T e).size = 0
    · have harr0 : arr = #[] := by rw [harr, hn0]; simp
      rw [harr0] at hf
      have e0 : Array.map (fun _ : Nat => (default : Value)) (Array.range 0) = #[] := by simp
      simp [execOp, ho, Instr.buildSlice, run_underlying h1, hsz, hn0, e0, hf, newRow]
    · rw [harr] at hf
      simp [execOp, ho, Instr.buildSlice, run_underlying h1, hsz, hno', hn0, hf, newRow, zeroValue, typeInfo, hj, hz]
  have hn : n ≤ 140737488355328 := by
    rcases Nat.eq_zero_or_pos (X.T e).size with h0 | h0
    · omega
    · have := Nat.le_mul_of_pos_right n h0; omega
  exact ⟨arr', cs', he, by rw [hr.n, hlen], hn, hK', hr⟩

theorem buildSlice_wp (h : Sim X M0 S0 w0 N M β σ a w) {o : Oper} {K : St κ → Prop} {t e : TypeId} {n l : Nat} {parts : Array (Nat × Operand)} (ho : o.op = .buildSlice t n parts) (hk : (X.T t).k = .sl e) (hdst : o.dst = some l) (hl : l < N) (hob : σ.ob l = none) (hkn : (X.T e).known = true)
    (hc : n * (X.T e).size ≤ 16777216) (hb : n * (X.T e).bytes ≤ 140737488355328)
    (hK : fillW (fun i => some (i * (X.T e).size, (X.T e).size)) (parts.toList.map fun p => (p.1, σ.ev p.2)) ((List.replicate n ((X.T e).zero.cells.toList.map .v)).flatten) fun cs =>
      condW (cs.all D.frz0) (K ((σ.setOb l (.row e n (fun i j => cs.getD (i * (X.T e).size + j) .opq)) false).put o.dst (.own l (X.T e).size 0 n))) False) : o.wp X.P a w (Post X M0 S0 w0 N K) Q := by
  obtain ⟨arr', cs', he, hsz, hn, hK', hr⟩ := buildSlice_run h ho hk hkn hc hb hK
  obtain ⟨hf, hK'⟩ := condW_no hK'
  obtain ⟨β', hs⟩ := h.newRow (l := l) (e := e) (n := n) (c := n) (f := fun i j => cs'.getD (i * (X.T e).size + j) .opq) (w1 := w) (arr := arr') hob hl ⟨rfl, rfl, rfl, rfl⟩ hkn (Nat.le_refl _) (by unfold maxLen; omega) hb hsz (fun i j hi hj => by
    have hlt : i * (X.T e).size + j < cs'.length := by
      have : (i + 1) * (X.T e).size ≤ n * (X.T e).size := Nat.mul_le_mul_right _ (by omega)
      rw [Nat.succ_mul] at this
      have := hr.n
      omega
    have h1 := hr.r _ _ (List.getElem?_eq_getElem hlt)
    have h2 : cs'.getD (i * (X.T e).size + j) .opq = cs'[i * (X.T e).size + j] := by simp [List.getD, List.getElem?_eq_getElem hlt]
    rw [h2]
    exact ⟨hr.o _ hlt, h1.frz0 (List.all_eq_true.1 hf _ (List.getElem_mem hlt))⟩)
  rw [← hdst] at hs
  exact wp_value he ⟨M, β', _, hs, hK'⟩
theorem makeSlice_wp (h : Sim X M0 S0 w0 N M β σ a w) {o : Oper} {K : St κ → Prop} {t e : TypeId} {l : Nat} {len cap : Operand} {n c : Int} (ho : o.op = .makeSlice t len cap) (hk : (X.T t).k = .sl e) (hdst : o.dst = some l) (hl : l < N) (hob : σ.ob l = none) (hkn : (X.T e).known = true)
    (hlen : σ.ev len = .v (.int .i64 n)) (hcap : σ.ev cap = .v (.int .i64 c)) (hn : 0 ≤ n ∧ c = n ∧ n * (X.T e).bytes ≤ 140737488355328)
    (hK : K ((σ.setOb l (.row e n.toNat (fun _ j => .v ((X.T e).zero.cells.getD j undef))) false).put o.dst (.own l (X.T e).size 0 n.toNat))) : o.wp X.P a w (Post X M0 S0 w0 N K) Q := by
  have h1 := X.form t
  rw [hk] at h1
  simp only [KOk] at h1
  have hne := TyI.known_ne hkn
  obtain ⟨hs0, hz0, hzk, _, j, hj, hjs, hjb, hz⟩ := X.info hne
  obtain ⟨h0, rfl, hby⟩ := hn
  have hb0 := X.bytes hne
  have e1 := h.ev len
  have e2 := h.ev cap
  rw [hlen] at e1
  rw [hcap] at e2
  obtain ⟨e1, _⟩ := e1.val
  obtain ⟨e2, _⟩ := e2.val
  obtain ⟨m, rfl⟩ := Int.eq_ofNat_of_zero_le h0
  have hmb : m * (X.T e).bytes ≤ 140737488355328 := by
    have : ((m * (X.T e).bytes : Nat) : Int) ≤ 140737488355328 := by rw [Int.natCast_mul]; exact hby
    omega
  have hm : m ≤ 140737488355328 := by have := Nat.le_mul_of_pos_right m hb0; omega
  have hrun := run_make (P := X.P) w t e j _ h1 hj hz .i64 .i64 m m h0 (Int.le_refl _) (by rw [hjb, Int.mul_comm]; exact Int.le_trans hby (by decide)) (by omega)
  simp only [Int.toNat_natCast] at hrun ⊢
  have he : (execOp a.eval o).run X.P w = .ok (.value (.slice (some ⟨w.heap.size, 0, none⟩) m m)) (w.alloc (.cells (madeCells (X.T e).zero.cells (m * j.size)) e)) := by
    simp [execOp, ho, e1, e2, hrun]
  have hall : ∀ i, i < (X.T e).zero.cells.size → okB ((X.T e).zero.cells.getD i undef) = true := by
    intro i hi
    have := List.all_eq_true.1 hzk ((X.T e).zero.cells[i]) (by simp)
    simpa [Array.getD, hi] using this
  obtain ⟨β', hs⟩ := h.newRow (l := l) (e := e) (n := m) (c := m) (f := fun _ j => .v ((X.T e).zero.cells.getD j undef)) (w1 := w) (arr := madeCells (X.T e).zero.cells (m * j.size)) hob hl ⟨rfl, rfl, rfl, rfl⟩ hkn (Nat.le_refl _) (by unfold maxLen; omega) hmb (by rw [size_madeCells, hjs]) (fun i q hi hq => by
    have hlt : i * (X.T e).size + q < m * (X.T e).size := by
      have : (i + 1) * (X.T e).size ≤ m * (X.T e).size := Nat.mul_le_mul_right _ (by omega)
      rw [Nat.succ_mul] at this
      omega
    have hmod : (i * (X.T e).size + q) % (X.T e).size = q := by rw [Nat.mul_comm, Nat.mul_add_mod, Nat.mod_eq_of_lt hq]
    have hg : (madeCells (X.T e).zero.cells (m * j.size)).getD (i * (X.T e).size + q) undef = (X.T e).zero.cells.getD q undef := by
      unfold madeCells
      rw [hjs]
      simp [Array.getD, hlt, hz0, hmod, getElem!_pos, hq]
    rw [hg]
    exact ⟨okB_one (hall q (by omega)), .v (hall q (by omega))⟩)
  rw [← hdst] at hs
  exact wp_value he ⟨M, β', _, hs, hK⟩

theorem run_appendOp {s x : Operand} {t t' : TypeId} {type : TypeId} {ρ : Operand → Value} {o : Oper} {v : Value} {w' : World} (ho : o.op = .call { callee := .builtin .append, args := #[s, x], argTypes := #[t, t'] }) (h : (Builtin.append_ #[t, t'] o.type #[ρ s, ρ x]).run X.P w = .ok v w') :
    (execOp ρ o).run X.P w = .ok (.value v) w' := by
  obtain ⟨dst, op, type, pos, after, guard⟩ := o
  simp only at ho h
  subst ho
  obtain ⟨cs, e⟩ := run_builtin (X := X) (w := w) .append #[t, t'] #[s, x] type ρ dst pos after guard
  rw [e]
  simp [builtin, h]

theorem split_idx {s n m i j : Nat} (hi : i < n + m) (hj : j < s) : (i < n → i * s + j < n * s) ∧ (¬ i < n → n * s ≤ i * s + j ∧ i * s + j - n * s = (i - n) * s + j ∧ (i - n) * s + j < m * s) := by
  have mul : ∀ a b, a < b → a * s + j < b * s := fun a b hab => by
    have : (a + 1) * s ≤ b * s := Nat.mul_le_mul_right _ (by omega)
    rw [Nat.succ_mul] at this
    omega
  refine ⟨fun h => mul i n h, fun h => ?_⟩
  have e : i * s = n * s + (i - n) * s := by rw [← Nat.add_mul]; congr 1; omega
  have := mul (i - n) m (by omega)
  omega

theorem src_run (h : Sim X M0 S0 w0 N M β σ a w) {x : Operand} {e : Nat} {K : Nat → (Nat → Nat → D κ) → Prop} (hkn : (X.T e).known = true) (hW : srcW X σ.ob e (σ.ev x) K) :
    ∃ (m : Nat) (hh : Nat → Nat → D κ) (news : List Value), K m hh ∧ m ≤ maxLen ∧ news.length = m * (X.T e).size ∧ (∀ v ∈ news, v.oneCell' = true) ∧
      (((∃ A c, a.eval x = .slice A 0 c) ∧ m = 0) ∨ ∃ b o c, a.eval x = .slice (some ⟨b, o, none⟩) m c ∧ ∀ j v, news[j]? = some v → w.cell? ⟨b, o + j, none⟩ = some v) ∧
      ∀ i j, i < m → j < (X.T e).size → ∃ v, news[i * (X.T e).size + j]? = some v ∧ Rep X.V M w b0 (hh i j) v ∧ v.oneCell' = true := by
  have hne := TyI.known_ne hkn
  have hs0 := (X.info hne).1
  have hlt : ∀ m q, q < m * (X.T e).size → q / (X.T e).size < m ∧ q % (X.T e).size < (X.T e).size ∧ q / (X.T e).size * (X.T e).size + q % (X.T e).size = q := fun m q hq =>
    ⟨Nat.div_lt_of_lt_mul (by rw [Nat.mul_comm]; exact hq), Nat.mod_lt _ hs0, by rw [Nat.mul_comm]; exact Nat.div_add_mod q _⟩
  have hdm : ∀ i j, j < (X.T e).size → (i * (X.T e).size + j) / (X.T e).size = i ∧ (i * (X.T e).size + j) % (X.T e).size = j := fun i j hj =>
    ⟨by rw [Nat.mul_comm, Nat.mul_add_div hs0, Nat.div_eq_of_lt hj, Nat.add_zero], by rw [Nat.mul_comm, Nat.mul_add_mod, Nat.mod_eq_of_lt hj]⟩
  have hin : ∀ m i j, i < m → j < (X.T e).size → i * (X.T e).size + j < m * (X.T e).size := fun m i j hi hj => by
    have : (i + 1) * (X.T e).size ≤ m * (X.T e).size := Nat.mul_le_mul_right _ (by omega)
    rw [Nat.succ_mul] at this
    omega
  have hx := h.ev x
  unfold srcW at hW
  split at hW
  · rename_i l s o n hxd
    rw [hxd] at hx
    split at hW
    · rename_i e' m f z hl
      obtain ⟨hc, hom, hK⟩ := condW_no hW
      obtain ⟨he, hs⟩ := (Bool.and_eq_true _ _ ▸ hc : _ ∧ _)
      have he := Nat.eq_of_beq_eq_true he
      have hs := Nat.eq_of_beq_eq_true hs
      subst he hs
      generalize a.eval x = y at hx
      rcases Nat.eq_zero_or_pos n with h0 | h0
      · subst h0
        obtain ⟨A, c, rfl, _⟩ := hx.ownSlice
        exact ⟨0, _, [], hK, Nat.zero_le _, by simp, by simp, .inl ⟨⟨A, c, rfl⟩, rfl⟩, fun i j hi => by omega⟩
      · cases hx with
        | @own _ _ _ _ _ b c hb hn hcm =>
          obtain ⟨_, arr, hA, hsz, hnc, _, _, hR⟩ := row_at h hl hb
          have hq : ∀ q, q < n * (X.T e').size → o * (X.T e').size + q < arr.size ∧ o * (X.T e').size + q = (o + q / (X.T e').size) * (X.T e').size + q % (X.T e').size := fun q hq => by
            obtain ⟨h1, h2, h3⟩ := hlt n q hq
            have h4 := hin c (o + q / (X.T e').size) (q % (X.T e').size) (by omega) h2
            rw [Nat.add_mul] at h4 ⊢
            omega
          refine ⟨n, _, (List.range (n * (X.T e').size)).map fun q => arr.getD (o * (X.T e').size + q) undef, hK, by omega, by simp, ?_, .inr ⟨b, o * (X.T e').size, c - o, rfl, ?_⟩, ?_⟩
          · intro v hv
            obtain ⟨q, hq', rfl⟩ := List.mem_map.1 hv
            have hq' := List.mem_range.1 hq'
            obtain ⟨h1, h2, h3⟩ := hlt n q hq'
            rw [(hq q hq').2]
            exact (hR _ _ (by omega) h2).1
          · intro q v hv
            rw [List.getElem?_map] at hv
            obtain ⟨q', hq', rfl⟩ := Option.map_eq_some_iff.1 hv
            obtain ⟨hq1, hq2⟩ := List.getElem?_eq_some_iff.1 hq'
            have hq3 : q = q' := by rw [← hq2]; simp
            subst hq3
            have h4 := (hq q (by simpa using hq1)).1
            rw [cell_of_row _ _ _ _ _ _ hA]
            simp [Array.getD, h4]
          · intro i j hi hj
            refine ⟨arr.getD ((i + o) * (X.T e').size + j) undef, ?_, (hR (i + o) j (by omega) hj).2, (hR (i + o) j (by omega) hj).1⟩
            rw [List.getElem?_map, List.getElem?_range (hin n i j hi hj)]
            simp only [Option.map_some, Option.some.injEq]
            congr 1
            rw [Nat.add_mul]
            omega
        | ownE ho hc _ => omega
        | ownNil h => omega
    · exact hW.elim
  · split at hW
    · rename_i sz by_ m hh hd
      obtain ⟨hs, hK⟩ := condW_no hW
      have hs := Nat.eq_of_beq_eq_true hs
      subst hs
      have hxr := hx.asSl hd
      generalize a.eval x = y at hxr
      cases hxr with
      | nil hc hA => exact ⟨0, _, [], hK, Nat.zero_le _, by simp, by simp, .inl ⟨⟨_, _, rfl⟩, rfl⟩, fun i j hi => by omega⟩
      | sl u hc hcm hbb hu hf =>
        rename_i c bb oo
        refine ⟨m, _, (List.range (m * (X.T e).size)).map fun q => u (q / (X.T e).size) (q % (X.T e).size), hK, by omega, by simp, ?_, .inr ⟨bb, oo, c, rfl, ?_⟩, ?_⟩
        · intro v hv
          obtain ⟨q, hq, rfl⟩ := List.mem_map.1 hv
          obtain ⟨h1, h2, h3⟩ := hlt m q (List.mem_range.1 hq)
          exact (hu _ _ h1 h2).2.2
        · intro q v hv
          rw [List.getElem?_map] at hv
          obtain ⟨q', hq', rfl⟩ := Option.map_eq_some_iff.1 hv
          obtain ⟨hq1, hq2⟩ := List.getElem?_eq_some_iff.1 hq'
          have hq3 : q = q' := by rw [← hq2]; simp
          subst hq3
          obtain ⟨h1, h2, h3⟩ := hlt m q (by simpa using hq1)
          have := (hu _ _ h1 h2).2.1
          rw [Nat.add_assoc, h3] at this
          exact this
        · intro i j hi hj
          obtain ⟨h1, h2⟩ := hdm i j hj
          refine ⟨u i j, ?_, hf i j hi hj, (hu i j hi hj).2.2⟩
          rw [List.getElem?_map, List.getElem?_range (hin m i j hi hj)]
          simp [h1, h2]
    · exact hW.elim
theorem src_runS (h : Sim X M0 S0 w0 N M β σ a w) {x : Operand} {t t' : TypeId} {e : Nat} {K : Nat → (Nat → Nat → D κ) → Prop} (hok : strOk X t t' = true) (hkn : (X.T e).known = true) (hW : srcW X σ.ob e (strD t t' (σ.ev x)) K) :
    ∃ (m : Nat) (hh : Nat → Nat → D κ) (news : List Value), K m hh ∧ m ≤ maxLen ∧ news.length = m * (X.T e).size ∧ (∀ v ∈ news, v.oneCell' = true) ∧ SrcV X w t t' e (a.eval x) m news ∧
      ∀ i j, i < m → j < (X.T e).size → ∃ v, news[i * (X.T e).size + j]? = some v ∧ Rep X.V M w b0 (hh i j) v ∧ v.oneCell' = true := by
  unfold strOk at hok
  unfold strD at hW
  cases hb : Nat.beq t t' with
  | true =>
    rw [hb] at hW
    have ht := Nat.eq_of_beq_eq_true hb
    obtain ⟨m, hh, news, h1, h2, h3, h4, h5, h6⟩ := src_run h hkn hW
    exact ⟨m, hh, news, h1, h2, h3, h4, .inl ⟨ht.symm, h5⟩, h6⟩
  | false =>
    rw [hb] at hW hok
    have hst : X.P.underlying t' = some .string := by
      have hf := X.form t'
      cases hk : (X.T t').k <;> simp only [hk, Bool.false_or] at hok hf <;> first | exact hf | cases hok
    simp only at hW
    split at hW
    · rename_i s hx
      unfold srcW at hW
      simp only [D.asSl] at hW
      obtain ⟨hc, hK⟩ := condW_no hW
      have he := Nat.eq_of_beq_eq_true hc
      have hr := h.ev x
      rw [hx] at hr
      obtain ⟨hv, hok⟩ := hr.val
      have hs : s.size ≤ maxLen := of_decide_eq_true hok
      refine ⟨s.size, _, byteCells s, hK, hs, by rw [byteCells_length, ← he, Nat.mul_one], fun v hv => by
        obtain ⟨_, _, rfl⟩ := List.mem_map.1 hv
        rfl, .inr ⟨hst, he.symm, s, hv, rfl, rfl⟩, fun i j hi hj => ?_⟩
      rw [← he] at hj ⊢
      obtain rfl : j = 0 := by omega
      refine ⟨.int .u8 (bAt s i).toNat, ?_, .v rfl, rfl⟩
      have hl : i < s.data.toList.length := by simpa using hi
      unfold byteCells bAt
      rw [Nat.mul_one, Nat.add_zero, List.getElem?_map, List.getElem?_eq_getElem hl, List.getD_eq_getElem?_getD, List.getElem?_eq_getElem hl]
      rfl
    · unfold srcW at hW
      simp only [D.asSl] at hW
end
end Go.Proofs.YteojgenhgjhohaaDoor
