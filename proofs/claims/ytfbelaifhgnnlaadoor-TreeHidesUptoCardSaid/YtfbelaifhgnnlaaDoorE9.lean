/-
  append and calls; every operation, over any program: it does what 'opW' says.
-/
import Derived.Test.YtfbelaifhgnnlaaDoorE8
namespace Go.Proofs.YtfbelaifhgnnlaaDoor
open Go.RowKit
set_option linter.unusedVariables false
set_option linter.unusedSimpArgs false

section
variable {κ : Type} {X : Cx κ} {M0 M : Nat → Nat → Prop} {w0 w : World} {N : Nat} {β : Nat → Nat} {γ : Nat → Option Grp} {σ : St κ} {a : Act} {Q : Exit → Act → World → Prop}

theorem run_appendOp {s x : Operand} {t : TypeId} {type : TypeId} {ρ : Operand → Value} {o : Oper} {v : Value} {w' : World} (ho : o.op = .call { callee := .builtin .append, args := #[s, x], argTypes := #[t, t] }) (h : (Builtin.append_ #[t, t] o.type #[ρ s, ρ x]).run X.P w = .ok v w') :
    (execOp ρ o).run X.P w = .ok (.value v) w' := by
  obtain ⟨dst, op, type, pos, after, guard⟩ := o
  simp only at ho h
  subst ho
  obtain ⟨cs, e⟩ := run_builtin (X := X) (w := w) .append #[t, t] #[s, x] type ρ dst pos after guard
  rw [e]
  simp [builtin, h]

/-- A fresh name for no group. -/
theorem Sim.rename (h : Sim X M0 w0 N M β γ σ a w) (g : Nat) : Sim X M0 w0 N M β (fun i => if i = g then none else γ i) (σ.kill g) a w := h.kill g

theorem split_idx {s n m i j : Nat} (hi : i < n + m) (hj : j < s) : (i < n → i * s + j < n * s) ∧ (¬ i < n → n * s ≤ i * s + j ∧ i * s + j - n * s = (i - n) * s + j ∧ (i - n) * s + j < m * s) := by
  have mul : ∀ a b, a < b → a * s + j < b * s := fun a b hab => by
    have : (a + 1) * s ≤ b * s := Nat.mul_le_mul_right _ (by omega)
    rw [Nat.succ_mul] at this
    omega
  refine ⟨fun h => mul i n h, fun h => ?_⟩
  have e : i * s = n * s + (i - n) * s := by rw [← Nat.add_mul]; congr 1; omega
  have := mul (i - n) m (by omega)
  omega

theorem append_core (h : Sim X M0 w0 N M β γ σ a w) {o : Oper} {K : St κ → Prop} {s x : Operand} {t e : TypeId} {g k n m sz2 b2 : Nat} {f hh : Nat → Nat → D κ} {G : Option Grp} {r : Nat → Nat → D κ}
    (ho : o.op = .call { callee := .builtin .append, args := #[s, x], argTypes := #[t, t] }) (hdst : o.dst = some k) (hk : k < N) (ht : (X.T t).k = .sl e) (hkn : (X.T e).known = true)
    (hv : OwnV G e (a.eval s)) (hG : ∀ I, G = some I → γ g = some I ∧ I.n = n ∧ (X.T I.e).size = (X.T e).size) (hn : G = none → n = 0)
    (hs : Rep X.V M w (.sl (X.T e).size b2 n f) (a.eval s)) (hx : Rep X.V M w (.sl (X.T e).size sz2 m hh) (a.eval x)) (hb : (n + m) * (X.T e).bytes ≤ 140737488355328) (hm : n + m ≤ 9223372036854775807)
    (hr : ∀ i j, i < n + m → r i j = if i < n then f i j else hh (i - n) j)
    (hK : K (σ.app k g e (.sl (X.T e).size (X.T e).bytes (n + m) r))) : o.wp X.P a w (Post X M0 w0 N K) Q := by
  have hne := TyI.known_ne hkn
  have hkill := h.kill g
  -- what is appended
  obtain ⟨news, hnl, hn1, hny, hnr⟩ : ∃ news : List Value, news.length = m * (X.T e).size ∧ (∀ v ∈ news, v.oneCell' = true) ∧
      (((∃ A c, a.eval x = .slice A 0 c) ∧ m = 0) ∨ ∃ b o c, a.eval x = .slice (some ⟨b, o, none⟩) m c ∧ ∀ j v, news[j]? = some v → w.cell? ⟨b, o + j, none⟩ = some v) ∧
      ∀ i j, i < m → j < (X.T e).size → ∃ v, news[i * (X.T e).size + j]? = some v ∧ Rep X.V M w (hh i j) v ∧ v.oneCell' = true := by
    generalize a.eval x = y at hx
    cases hx with
    | nil hc hA => exact ⟨[], by simp, by simp, .inl ⟨⟨_, _, rfl⟩, rfl⟩, fun i j hi => by omega⟩
    | sl u hc hcm hbb hu hf =>
      rename_i c bb oo
      have hlt : ∀ q, q < m * (X.T e).size → q / (X.T e).size < m ∧ q % (X.T e).size < (X.T e).size ∧ q / (X.T e).size * (X.T e).size + q % (X.T e).size = q := fun q hq => by
        have hs0 := (X.info hne).1
        exact ⟨Nat.div_lt_of_lt_mul (by rw [Nat.mul_comm]; exact hq), Nat.mod_lt _ hs0, by rw [Nat.mul_comm]; exact Nat.div_add_mod q _⟩
      refine ⟨(List.range (m * (X.T e).size)).map fun q => u (q / (X.T e).size) (q % (X.T e).size), by simp, ?_, .inr ⟨bb, oo, c, rfl, ?_⟩, ?_⟩
      · intro v hv
        obtain ⟨q, hq, rfl⟩ := List.mem_map.1 hv
        obtain ⟨h1, h2, h3⟩ := hlt q (List.mem_range.1 hq)
        exact (hu _ _ h1 h2).2.2
      · intro q v hv
        rw [List.getElem?_map] at hv
        obtain ⟨q', hq', rfl⟩ := Option.map_eq_some_iff.1 hv
        obtain ⟨hq1, hq2⟩ := List.getElem?_eq_some_iff.1 hq'
        have hq3 : q = q' := by rw [← hq2]; simp
        subst hq3
        obtain ⟨h1, h2, h3⟩ := hlt q (by simpa using hq1)
        have := (hu _ _ h1 h2).2.1
        rw [Nat.add_assoc, h3] at this
        exact this
      · intro i j hi hj
        have hq := (split_idx (n := 0) (m := m) (by omega : i < 0 + m) hj).2 (by omega)
        simp only [Nat.zero_mul, Nat.sub_zero] at hq
        have hd : (i * (X.T e).size + j) / (X.T e).size = i := by
          rw [Nat.mul_comm, Nat.mul_add_div (X.info hne).1, Nat.div_eq_of_lt hj, Nat.add_zero]
        have hmod : (i * (X.T e).size + j) % (X.T e).size = j := by
          rw [Nat.mul_comm, Nat.mul_add_mod, Nat.mod_eq_of_lt hj]
        refine ⟨u i j, ?_, hf i j hi hj, (hu i j hi hj).2.2⟩
        rw [List.getElem?_map, List.getElem?_range hq.2.2]
        simp [hd, hmod]
  have hgat : ∀ I, G = some I → GrpAt X M w w0.heap.size I := fun I hI => h.gr g I (hG I hI).1
  obtain ⟨x', w', hrun, hcases⟩ := app_run (X := X) (M := M) (w := w) (B := w0.heap.size) (n := n) (m := m) (news := news) (G := G) (x := a.eval s) (y := a.eval x) ht hne hv hgat
    (by cases G with
      | none => exact hn rfl
      | some I => exact (hG I rfl).2.1.symm) hny hnl hn1 hb hm (ty := o.type)
  have he := run_appendOp (type := o.type) ho hrun
  -- the reading of the result
  have hres : ∀ (M' : Nat → Nat → Prop) (w'' : World) (B c : Nat), n + m ≤ c → c ≤ maxLen → (∀ b o, M b o → M' b o) → (∀ b o, M b o → w''.cell? ⟨b, o, none⟩ = w.cell? ⟨b, o, none⟩) →
      (∀ q, q < (n + m) * (X.T e).size → M' B q) → (∀ q v, q < n * (X.T e).size → (∀ A c, a.eval s = .slice (some ⟨A, 0, none⟩) n c → w.cell? ⟨A, q, none⟩ = some v) → w''.cell? ⟨B, q, none⟩ = some v) →
      (∀ q v, news[q]? = some v → w''.cell? ⟨B, n * (X.T e).size + q, none⟩ = some v) → Rep X.V M' w'' (.sl (X.T e).size (X.T e).bytes (n + m) r) (.slice (some ⟨B, 0, none⟩) (n + m) c) := by
    intro M' w'' B c hc hcm hMM hcell hM' hold hnew
    have key : ∀ i j, i < n + m → j < (X.T e).size → ∃ v, w''.cell? ⟨B, i * (X.T e).size + j, none⟩ = some v ∧ v.oneCell' = true ∧ Rep X.V M' w'' (r i j) v := by
      intro i j hi hj
      obtain ⟨k1, k2⟩ := split_idx hi hj
      rw [hr i j hi]
      by_cases hin : i < n
      · rw [if_pos hin]
        have hs' := hs
        generalize hy : a.eval s = y at hs' hold
        cases hs' with
        | nil => omega
        | sl u q1 q2 q3 hu hf =>
          rename_i c0 bb oo
          refine ⟨u i j, hold _ _ (k1 hin) (fun A c' hA => ?_), (hu i j hin hj).2.2, (hf i j hin hj).mono hMM hcell⟩
          injection hA with hA _ _
          injection hA with hA
          injection hA with hA1 hA2 _
          subst hA1 hA2
          have := (hu i j hin hj).2.1
          rwa [Nat.zero_add] at this
      · rw [if_neg hin]
        obtain ⟨p1, p2, p3⟩ := k2 hin
        obtain ⟨v, hv1, hv2, hv3⟩ := hnr (i - n) j (by omega) hj
        refine ⟨v, ?_, hv3, hv2.mono hMM hcell⟩
        have := hnew _ v hv1
        rw [← p2, Nat.add_sub_cancel' p1] at this
        exact this
    have hex : ∃ u : Nat → Nat → Value, ∀ i j, i < n + m → j < (X.T e).size → w''.cell? ⟨B, i * (X.T e).size + j, none⟩ = some (u i j) ∧ (u i j).oneCell' = true ∧ Rep X.V M' w'' (r i j) (u i j) := by
      refine ⟨fun i j => (w''.cell? ⟨B, i * (X.T e).size + j, none⟩).getD undef, fun i j hi hj => ?_⟩
      obtain ⟨v, h1, h2, h3⟩ := key i j hi hj
      simp only [h1, Option.getD_some]
      exact ⟨trivial, h2, h3⟩
    obtain ⟨u, hu⟩ := hex
    refine .sl u hc hcm hb (fun i j hi hj => ?_) (fun i j hi hj => (hu i j hi hj).2.2)
    rw [Nat.zero_add]
    obtain ⟨h1, h2, _⟩ := hu i j hi hj
    refine ⟨hM' _ ?_, h1, h2⟩
    have : (i + 1) * (X.T e).size ≤ (n + m) * (X.T e).size := Nat.mul_le_mul_right _ (by omega)
    rw [Nat.succ_mul] at this
    omega
  have hsh : ∀ A c, a.eval s = .slice (some ⟨A, 0, none⟩) n c → ∃ I, G = some I ∧ I.b = A := by
    intro A c hA
    unfold OwnV at hv
    split at hv
    · rw [hv] at hA; cases hA
    · rename_i I
      rw [hv.2] at hA
      injection hA with hA _ _
      injection hA with hA
      injection hA with hA _ _
      exact ⟨I, rfl, hA⟩
  rcases hcases with ⟨rfl, rfl, rfl⟩ | ⟨I, cur, rfl, hcur, hcs, hroom, rfl, rfl⟩ | ⟨cap, olds, rest, hol, holds, hcap, hcm, hlen, rfl, rfl⟩
  · -- nothing
    have hrep : Rep X.V M w' (.sl (X.T e).size (X.T e).bytes (n + 0) r) (a.eval s) := by
      generalize a.eval s = y at hs
      cases hs with
      | nil hc hA => exact .nil hc hA
      | sl u hc hcm _ hu hf => exact .sl u hc hcm hb hu (fun i j hi hj => by rw [hr i j hi, if_pos (by omega)]; exact hf i j hi hj)
    have := hkill.take (g := g) (by simp) hk G hrep hv (fun I hI => ⟨hgat I hI, fun l cs hl => h.gb g I l cs (hG I hI).1 hl, fun i J hJ e => by
      by_cases hi : i = g
      · simp [hi] at hJ
      · rw [if_neg hi] at hJ
        exact hi (h.gi i g J I hJ (hG I hI).1 e)⟩)
    rw [← hdst] at this
    exact wp_value he ⟨M, β, _, _, this, hK⟩
  · -- in place
    obtain ⟨hg1, hIn, hIs⟩ := hG I rfl
    obtain ⟨g1, g2, g3, g4, _⟩ := hgat I rfl
    obtain ⟨rfl, hve⟩ := hv
    rw [hIn] at g4 g2
    obtain ⟨arr', harr⟩ : ∃ arr' : Array Value, arr' = (cur.toList.take (n * (X.T I.e).size) ++ news ++ cur.toList.drop (n * (X.T I.e).size + news.length)).toArray := ⟨_, rfl⟩
    rw [← harr] at he
    have hfit : n * (X.T I.e).size + news.length ≤ cur.size := by rw [hnl, hcs, ← Nat.add_mul]; exact Nat.mul_le_mul_right _ hroom
    have hnew := setRow_heap w I.b cur arr' I.e (0, 0) hcur
    have hsize : arr'.size = cur.size := by rw [harr]; simp; omega
    have hold : ∀ q, q < n * (X.T I.e).size → arr'[q]? = cur[q]? := fun q hq => by
      rw [harr]
      simp only [List.getElem?_toArray]
      rw [List.append_assoc, List.getElem?_append_left (by simp; omega), List.getElem?_take, if_pos hq]
      simp
    have hcell : ∀ b o, M b o → (w.setRow I.b arr').cell? ⟨b, o, none⟩ = w.cell? ⟨b, o, none⟩ := fun b o hm => by
      by_cases hbI : b = I.b
      · subst hbI
        rw [cell_of_row _ _ _ _ _ _ hnew, cell_of_row _ _ _ _ _ _ hcur]
        exact hold o (g4 o hm)
      · exact cell_setRow_other w _ _ _ _ hbI
    have hgne : ∀ i J, (if i = g then none else γ i) = some J → J.b ≠ I.b := fun i J hJ e => by
      by_cases hi : i = g
      · simp [hi] at hJ
      · rw [if_neg hi] at hJ
        exact hi (h.gi i g J I hJ hg1 e)
    have hw := hkill.world (w' := w.setRow I.b arr') (M' := fun b o => M b o ∨ (b = I.b ∧ o < (n + m) * (X.T I.e).size)) I.b rfl rfl rfl (by simp [World.setRow]) g1 (by simpa [World.setRow] using heap_lt hcur) (fun q _ hq => setRow_other w I.b q arr' hq) hcell
      (fun l cs hl e => h.gb g I l cs hg1 hl e.symm) hgne (fun b o hm => .inl hm) (fun b o hm => hm.imp id (·.1))
    have hrep := hres (fun b o => M b o ∨ (b = I.b ∧ o < (n + m) * (X.T I.e).size)) (w.setRow I.b arr') I.b I.c hroom g3 (fun b o hm => .inl hm) hcell (fun q hq => .inr ⟨rfl, hq⟩)
      (fun q v hq hA => by
        have h1 := hA I.b I.c (by rw [hve, hIn])
        rw [cell_of_row _ _ _ _ _ _ hcur] at h1
        rw [cell_of_row _ _ _ _ _ _ hnew, hold q hq]
        exact h1)
      (fun q v hq => by
        rw [cell_of_row _ _ _ _ _ _ hnew, harr]
        simp only [List.getElem?_toArray]
        have hql := (List.getElem?_eq_some_iff.1 hq).1
        have hlt : (cur.toList.take (n * (X.T I.e).size)).length = n * (X.T I.e).size := by simp; omega
        rw [List.append_assoc, List.getElem?_append_right (by omega), List.getElem?_append_left (by omega), hlt, Nat.add_sub_cancel_left]
        exact hq)
    have := hw.take (g := g) (by simp) hk (some ⟨I.b, n + m, I.c, I.e⟩) hrep ⟨rfl, rfl⟩ (fun J hJ => by
      injection hJ with hJ
      subst hJ
      refine ⟨⟨g1, hroom, g3, fun o ho => ?_, arr', hnew, by rw [hsize]; exact hcs⟩, fun l cs hl => h.gb g I l cs hg1 hl, hgne⟩
      rcases ho with ho | ⟨_, ho⟩
      · have := g4 o ho
        have h2 : n * (X.T I.e).size ≤ (n + m) * (X.T I.e).size := Nat.mul_le_mul_right _ (by omega)
        simp only
        omega
      · exact ho)
    rw [← hdst] at this
    exact wp_value he ⟨_, β, _, _, this, hK⟩
  · -- a new row
    have hnewh : (w.drew.alloc (.cells (olds ++ news ++ rest).toArray e)).heap[w.heap.size]? = some (.cells (olds ++ news ++ rest).toArray e (0, 0)) := heap_alloc_new w.drew _
    have hcell : ∀ b o, M b o → (w.drew.alloc (.cells (olds ++ news ++ rest).toArray e)).cell? ⟨b, o, none⟩ = w.cell? ⟨b, o, none⟩ := fun b o hm =>
      ((Below.refl w.heap.size w.drew).alloc (Nat.le_refl _) (.cells (olds ++ news ++ rest).toArray e)).cell (p := ⟨b, o, none⟩) (h.mlt b o hm)
    obtain ⟨M', γ', hsim⟩ := h.row (g := g) (k := k) (e := e) (n := n + m) (c := cap) (w1 := w.drew) (arr := (olds ++ news ++ rest).toArray) (d := .sl (X.T e).size (X.T e).bytes (n + m) r) hk ⟨rfl, rfl, rfl, rfl⟩ hcap hcm (by simpa using hlen)
      (fun M' hMM hM' => hres M' _ w.heap.size cap hcap hcm hMM hcell hM'
        (fun q v hq hA => by
          rw [cell_of_row _ _ _ _ _ _ hnewh]
          have hql : q < olds.length := by omega
          simp only [List.getElem?_toArray]
          rw [List.append_assoc, List.getElem?_append_left hql]
          cases G with
          | none => have := hn rfl; subst this; simp at hq
          | some I =>
            obtain ⟨_, hIn, _⟩ := hG I rfl
            have h1 := hA I.b I.c (by rw [hv.2, hIn])
            have h2 := holds I rfl q olds[q] (List.getElem?_eq_getElem hql)
            rw [h2] at h1
            rw [List.getElem?_eq_getElem hql]
            exact h1)
        (fun q v hq => by
          rw [cell_of_row _ _ _ _ _ _ hnewh]
          simp only [List.getElem?_toArray]
          have hql := (List.getElem?_eq_some_iff.1 hq).1
          rw [List.append_assoc, List.getElem?_append_right (by omega), List.getElem?_append_left (by omega), hol, Nat.add_sub_cancel_left]
          exact hq))
    rw [← hdst] at hsim
    exact wp_value he ⟨M', β, γ', _, hsim, hK⟩

theorem append_wp (h : Sim X M0 w0 N M β γ σ a w) {o : Oper} {K : St κ → Prop} {s x : Operand} {t : TypeId} {k : Nat} (ho : o.op = .call { callee := .builtin .append, args := #[s, x], argTypes := #[t, t] }) (hdst : o.dst = some k) (hk : k < N)
    (hW : appW X t (σ.ev s) (σ.tag s) (σ.ev x) k fun g e d => K (σ.app k g e d)) : o.wp X.P a w (Post X M0 w0 N K) Q := by
  unfold appW at hW
  split at hW
  · rename_i e ht
    split at hW
    · rename_i hds
      have hs := h.ev s
      rw [hds] at hs
      obtain ⟨hs, _⟩ := hs.val
      split at hW
      · rename_i sz b m hh hx
        obtain ⟨hc, hb, hK⟩ := condW_no hW
        obtain ⟨hsz, hkn⟩ := (Bool.and_eq_true _ _ ▸ hc : _ ∧ _)
        have hsz := Nat.eq_of_beq_eq_true hsz
        subst hsz
        have hxr := (h.ev x).asSl hx
        obtain ⟨A, c, hxv, hxc, hxm, _, _⟩ := hxr.slice
        refine append_core h (g := k) (n := 0) (m := m) (G := none) (f := fun _ _ => .opq) (b2 := 0) ho hdst hk ht hkn hs (fun I hI => by cases hI) (fun _ => rfl) (by rw [hs]; exact .nil (by decide) (fun _ => rfl)) hxr (by simpa using hb) (by unfold maxLen at hxm; omega) (r := hh) (fun i j hi => by rw [if_neg (by omega), Nat.sub_zero]) ?_
        rw [Nat.zero_add]
        exact hK
      · exact hW.elim
    · rename_i sz b n f hds
      have hs := h.ev s
      rw [hds] at hs
      split at hW
      · rename_i g e' htag
        obtain ⟨hc, hW2⟩ := condW_no hW
        obtain ⟨he, hsz⟩ := (Bool.and_eq_true _ _ ▸ hc : _ ∧ _)
        have he := Nat.eq_of_beq_eq_true he
        have hsz := Nat.eq_of_beq_eq_true hsz
        subst he hsz
        have hown : OwnV (γ g) e' (a.eval s) := by
          cases s with
          | tmp q => exact h.to q g e' htag
          | _ => cases htag
        unfold appTo at hW2
        split at hW2
        · rename_i sz2 b2 m hh hx
          obtain ⟨hc, hb, hK⟩ := condW_no hW2
          obtain ⟨hsz, hkn⟩ := (Bool.and_eq_true _ _ ▸ hc : _ ∧ _)
          have hsz := Nat.eq_of_beq_eq_true hsz
          subst hsz
          have hxr := (h.ev x).asSl hx
          obtain ⟨A, c, hxv, hxc, hxm, hxb, _⟩ := hxr.slice
          obtain ⟨A', c', hsv, hsc, hsm, _, hs0⟩ := hs.slice
          have hbytes := X.bytes (TyI.known_ne hkn)
          refine append_core h (g := g) (n := n) (m := m) (G := γ g) ho hdst hk ht hkn hown (fun I hI => ⟨hI, ?_, ?_⟩) (fun hn => ?_) hs hxr hb ?_ (fun i j hi => rfl) hK
          · rw [hI] at hown
            have := hown.2
            rw [hsv] at this
            injection this with _ hn _
            exact hn.symm
          · rw [hI] at hown
            rw [hown.1]
          · rw [hn] at hown
            have : (Value.slice A' n c') = .slice none 0 0 := hsv.symm.trans hown
            injection this
          · have := Nat.le_mul_of_pos_right (n + m) hbytes; omega
        · exact hW2.elim
      · exact hW.elim
    · exact hW.elim
  · exact hW.elim

theorem call_wp (hG : X.G w0) (h : Sim X M0 w0 N M β γ σ a w) {o : Oper} {K : St κ → Prop} {c : Call} {f : FuncId} {d : D κ} {x : Operand} {cs : List (D κ)} (ho : o.op = .call c) (hc : c.callee = .value x) (hx : σ.ev x = .fn f cs) (hd : ∀ k, o.dst = some k → k < N) (hsp : Sp X f (c.args.toList.map σ.ev ++ cs) d)
    (hK : K (σ.put o.dst d none)) : o.wp X.P a w (Post X M0 w0 N K) Q := by
  obtain ⟨⟨fn, cc, hf, hname, hb⟩, hsp⟩ := hsp
  have hxv := h.ev x
  rw [hx] at hxv
  obtain ⟨vs, hv, hvn, hvr⟩ : ∃ vs : Array Value, a.eval x = .func (.func f) #[] vs ∧ vs.size = cs.length ∧ ∀ i d, cs[i]? = some d → Rep X.V M w d (vs.getD i undef) := by
    generalize a.eval x = y at hxv
    cases hxv with
    | fn hn hr => exact ⟨_, rfl, hn, hr⟩
  have hcall := hsp M w (c.args.map a.eval ++ vs) (X.keep w0 w hG h.below) h.mlt (by simp [hvn]) (fun i d' hi => by
    rcases Nat.lt_or_ge i c.args.size with hl | hl
    · rw [List.getElem?_append_left (by simpa using hl), List.getElem?_map] at hi
      obtain ⟨x, hx, rfl⟩ := Option.map_eq_some_iff.1 hi
      have hx' : c.args[i]? = some x := by simpa using hx
      have : (c.args.map a.eval ++ vs)[i]? = some (a.eval x) := by rw [Array.getElem?_append_left (by simpa using hl), Array.getElem?_map, hx']; rfl
      rw [getD_some this]
      exact h.ev x
    · rw [List.getElem?_append_right (by simpa using hl)] at hi
      have := hvr _ _ hi
      rw [List.length_map, Array.length_toList] at this
      have e : (c.args.map a.eval ++ vs).getD i undef = vs.getD (i - c.args.size) undef := by
        simp only [Array.getD_eq_getD_getElem?]
        rw [Array.getElem?_append_right (by simpa using hl)]
        simp
      rw [e]
      exact this)
  have he : (execOp a.eval o).run X.P w = .ok (.enter f (c.args.map a.eval ++ vs)) w := by
    have h1 : fn.name ≠ "runtime.NumGoroutine" := by simpa using hname
    simp [execOp, ho, resolve, hc, hv, Deferred.ofValue, invoke, callFunc, hf, h1, hb]
  unfold Oper.wp
  rw [he]
  refine hcall.mono fun e w' ⟨x, hx, hbel, hr⟩ => ?_
  subst hx
  have hg := h.grow (M' := MX M w w') hbel (fun b o hm => .inl hm) (fun b o hm => hm)
  exact ⟨_, β, γ, _, hg.put0 hd hr, hK⟩

/-- Every operation. -/
theorem op_sound (hG : X.G w0) (h : Sim X M0 w0 N M β γ σ a w) (o : Oper) {K : St κ → Prop} (hd : ∀ k, o.dst = some k → k < N) (hW : opW X o σ K) (hst : ∀ t x y, o.op = .store t x y → o.dst = none) : o.wp X.P a w (Post X M0 w0 N K) Q := by
  unfold opW at hW
  split at hW
  · rename_i x ho
    simp only [fD_eq, fT_eq] at hW
    exact move_wp h (.inl ho) hd hW
  · rename_i x ho
    simp only [fD_eq, fT_eq] at hW
    exact move_wp h (.inr ho) hd hW
  · rename_i e ho
    split at hW
    · rename_i l hl
      split at hW
      · obtain ⟨hk, hW⟩ := condW_no hW
        simp only [fL_eq] at hW
        exact alloc_wp h ho hl (hd l hl) hk hW
      · exact hW.elim
    · exact hW.elim
  · rename_i e x ho
    split at hW
    · rename_i l hl
      split at hW
      · simp only [fD_eq] at hW
        obtain ⟨hg, hW⟩ := condW_no hW
        simp only [fL_eq, fT_eq] at hW
        exact box_wp h ho hl (hd l hl) hg hW
      · exact hW.elim
    · exact hW.elim
  · rename_i t x i ho
    split at hW
    · rename_i l off ht
      split at hW
      · rename_i cs fs hb hk
        split at hW
        · rename_i p hp
          simp only [fN_eq] at hW
          exact fieldAddr_wp h ho ht hb hk hp hd hW
        · exact hW.elim
      · exact hW.elim
    · exact pure_wp h hd hW
  · rename_i t x ho
    split at hW
    · rename_i l off ht
      split at hW
      · rename_i cs hb
        obtain ⟨hk, hW⟩ := condW_no hW
        simp only [fT_eq] at hW
        exact load_wp h ho ht hb hk hd hW
      · exact hW.elim
    · exact pure_wp h hd hW
  · rename_i t x y ho
    split at hW
    · rename_i l off ht
      split at hW
      · rename_i cs hb
        simp only [fD_eq] at hW
        obtain ⟨hc, hW⟩ := condW_no hW
        simp only [fL_eq, fT_eq, fN_eq] at hW
        simp only [Bool.and_eq_true] at hc
        obtain ⟨⟨⟨hg, hn⟩, hk⟩, hle⟩ := hc
        exact store_wp h ho (hst _ _ _ ho) ht hb hg (Nat.eq_of_beq_eq_true hn) hk (Nat.le_of_ble_eq_true hle) hW
      · exact hW.elim
    · exact hW.elim
  · rename_i x ho
    split at hW
    · rename_i l off ht
      split at hW
      · rename_i cs hb
        exact nilCheck_wp h ho ht hb hd hW
      · exact hW.elim
    · exact pure_wp h hd hW
  · rename_i t parts ho
    split at hW
    · rename_i fs hk
      exact build_wp h ho hk hd hW
    · exact hW.elim
  · rename_i t n parts ho
    split at hW
    · rename_i e l hk hl
      obtain ⟨hc, hW⟩ := condW_no hW
      simp only [Bool.and_eq_true] at hc
      obtain ⟨⟨h1, h2⟩, h3⟩ := hc
      exact buildSlice_wp h ho hk hl (hd l hl) h1 (Nat.le_of_ble_eq_true h2) (Nat.le_of_ble_eq_true h3) hW
    · exact hW.elim
  · rename_i c ho
    split at hW
    · rename_i x hc
      split at hW
      · rename_i f cs hx
        simp only [fL_eq, fD_eq] at hW
        obtain ⟨d, hsp, hK⟩ := hW
        exact call_wp hG h ho hc hx hd hsp hK
      · exact hW.elim
    · rename_i hc
      split at hW
      · rename_i s x t t' k e1 e2 e3
        obtain ⟨ht, hW2⟩ := condW_no hW
        have ht := Nat.eq_of_beq_eq_true ht
        subst ht
        simp only [fD_eq] at hW2
        refine append_wp h (t := t) ?_ e3 (hd k e3) hW2
        rw [ho]
        obtain ⟨callee, args, ts⟩ := c
        simp only at hc e1 e2
        subst hc
        have e1' : args = #[s, x] := by cases args; simp_all
        have e2' : ts = #[t, t] := by cases ts; simp_all
        rw [e1', e2']
      · exact hW.elim
    · exact pure_wp h hd (ho ▸ hW)
  · exact pure_wp h hd hW
end
end Go.Proofs.YtfbelaifhgnnlaaDoor
