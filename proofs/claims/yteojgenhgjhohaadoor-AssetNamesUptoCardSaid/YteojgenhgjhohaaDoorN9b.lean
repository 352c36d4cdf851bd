/-
  append, over any program.
-/
import Derived.Test.YteojgenhgjhohaaDoorN9
namespace Go.Proofs.YteojgenhgjhohaaDoor
open Go.RowKit
set_option linter.unusedVariables false
set_option linter.unusedSimpArgs false

section
variable {κ : Type} {X : Cx κ} {M0 M : Nat → Nat → Prop} {S0 : Ln} {w0 w : World} {N : Nat} {β : Bt} {σ : St κ} {a : Act} {Q : Exit → Act → World → Prop}

theorem Sim.move (h : Sim X M0 S0 w0 N M β σ a w) {l k b c : Nat} {o0 o : Ob κ} (hl : σ.ob l = some (o0, false)) (hv : o0.live = true) (hb : β l = some (some (b, c))) (hk : σ.ob k = none) (ho : ObAt X M w (upd β k (some (b, c))) k o false) :
    Sim X M0 S0 w0 N M (upd β k (some (b, c))) ((σ.setOb l .dead false).setOb k o false) a w := by
  have hkl : k ≠ l := fun e => by rw [e, hl] at hk; cases hk
  have hk' : (σ.setOb l .dead false).ob k = none := by simp only [St.setOb, beq_no hkl, cond_false]; exact hk
  have hne : ∀ i o' z' b' c', (σ.setOb l .dead false).ob i = some (o', z') → o'.live = true → β i = some (some (b', c')) → b' ≠ b := fun i o' z' b' c' hi hv' hb' e => by
    rcases St.setOb_ob hi with ⟨_, e'⟩ | ⟨hne, hi⟩
    · injection e' with e' _
      subst e'
      cases hv'
    · subst e
      exact hne (h.oi i l _ _ _ _ b' c' c hi hv' hl hv hb' hb)
  have h2 := (h.die l).lab hk' (some (b, c))
  have h3 := h2.add (l := k) (o := o) (z := false) ho (fun _ b' c' hb' => by
    rw [upd_at] at hb'
    injection hb' with hb'
    injection hb' with hb'
    injection hb' with hb' _
    exact hb' ▸ h.oB l _ _ b c hl hv hb) (fun _ i o' z' b' c1 c2 hik hi hv' hb1 hb2 => by
    rw [upd_at] at hb2
    injection hb2 with hb2
    injection hb2 with hb2
    injection hb2 with hb2 _
    rw [upd_ne _ _ _ i hik] at hb1
    rcases St.setOb_ob hi with ⟨e0, _⟩ | ⟨_, hi⟩
    · exact hik e0
    · exact hne i o' z' b' c1 hi hv' hb1 hb2.symm)
  rwa [set_set] at h3

theorem app_cells {e n m : Nat} {f hh : Nat → Nat → D κ} {arr : Array Value} {olds news rest : List Value} (hol : olds.length = n * (X.T e).size) (hnl : news.length = m * (X.T e).size) (ha : arr = (olds ++ news ++ rest).toArray)
    (ho : ∀ i j, i < n → j < (X.T e).size → ∃ v, olds[i * (X.T e).size + j]? = some v ∧ Rep X.V M w b0 (f i j) v ∧ v.oneCell' = true)
    (hn : ∀ i j, i < m → j < (X.T e).size → ∃ v, news[i * (X.T e).size + j]? = some v ∧ Rep X.V M w b0 (hh i j) v ∧ v.oneCell' = true) :
    ∀ i j, i < n + m → j < (X.T e).size → (arr.getD (i * (X.T e).size + j) undef).oneCell' = true ∧ Rep X.V M w b0 (if i < n then f i j else hh (i - n) j) (arr.getD (i * (X.T e).size + j) undef) := by
  intro i j hi hj
  obtain ⟨k1, k2⟩ := split_idx hi hj
  by_cases hin : i < n
  · rw [if_pos hin]
    obtain ⟨v, h1, h2, h3⟩ := ho i j hin hj
    have h4 : arr[i * (X.T e).size + j]? = some v := by
      rw [ha, List.getElem?_toArray, List.append_assoc, List.getElem?_append_left (by have := k1 hin; omega)]
      exact h1
    rw [getD_some h4]
    exact ⟨h3, h2⟩
  · rw [if_neg hin]
    obtain ⟨p1, p2, p3⟩ := k2 hin
    obtain ⟨v, h1, h2, h3⟩ := hn (i - n) j (by omega) hj
    have h4 : arr[i * (X.T e).size + j]? = some v := by
      rw [ha, List.getElem?_toArray, List.append_assoc, List.getElem?_append_right (by omega), hol, p2, List.getElem?_append_left (by omega)]
      exact h1
    rw [getD_some h4]
    exact ⟨h3, h2⟩

theorem append_wp (h : Sim X M0 S0 w0 N M β σ a w) {o : Oper} {K : St κ → Prop} {s x : Operand} {t t' : TypeId} {k : Nat} (hok : strOk X t t' = true) (ho : o.op = .call { callee := .builtin .append, args := #[s, x], argTypes := #[t, t'] }) (hdst : o.dst = some k) (hk : k < N)
    (hW : appE X σ.ob t (σ.ev s) (strD t t' (σ.ev x)) k fun us d => K ((σ.ups us).put o.dst d)) : o.wp X.P a w (Post X M0 S0 w0 N K) Q := by
  unfold appE at hW
  simp only [fN_eq] at hW
  split at hW
  · rename_i e ht hob
    obtain ⟨hkn, hW1⟩ := condW_no hW
    clear hW
    have hne := TyI.known_ne hkn
    have hb0 := X.bytes hne
    split at hW1
    · rename_i hds
      have hs0 := h.ev s
      rw [hds] at hs0
      have hs := hs0.val.1
      clear hs0
      obtain ⟨m, hh, news, ⟨hb, hK⟩, hm, hnl, hn1, hny, hnr⟩ := src_runS h hok hkn hW1
      obtain ⟨x', w', hrun, hcases⟩ := app_run (X := X) (w := w) (n := 0) (m := m) (news := news) (G := none) (x := a.eval s) (y := a.eval x) ht hne hs (fun I hI => by cases hI) rfl hny hnl hn1 (by simpa using hb) (by unfold maxLen at hm; omega) (ty := o.type)
      have he := run_appendOp (type := o.type) ho hrun
      rcases hcases with ⟨rfl, rfl, rfl⟩ | ⟨I, cur, hI, _⟩ | ⟨cap, olds, rest, hol, holds, hcap, hcm, hlen, rfl, rfl⟩
      · have h1 := h.freshNil (l := k) (e := e) (f := hh) hob hkn
        have h2 := h1.put (dst := some k) (d := .own k (X.T e).size 0 0) (x := a.eval s) (fun q hq => by injection hq with hq; omega) (by rw [hs]; exact .ownNil (upd_at _ _ _))
        rw [← hdst] at h2
        exact wp_value he ⟨M, _, _, h2, hK⟩
      · cases hI
      · obtain ⟨β', h2⟩ := h.newRow (l := k) (e := e) (n := m) (c := cap) (f := hh) (w1 := w.drew) (arr := (olds ++ news ++ rest).toArray) hob hk ⟨rfl, rfl, rfl, rfl⟩ hkn (by omega) hcm hb (by simpa using hlen) (fun i j hi hj => by
            have := app_cells (X := X) (M := M) (w := w) (e := e) (n := 0) (m := m) (f := fun _ _ => .opq) (hh := hh) (rest := rest) hol hnl rfl (fun i j hi => by omega) hnr i j (by omega) hj
            simpa using this)
        rw [← hdst] at h2
        rw [Nat.zero_add] at he
        exact wp_value he ⟨M, β', _, h2, hK⟩
    · rename_i g s' n hds
      have hs := h.ev s
      rw [hds] at hs
      split at hW1
      · rename_i e' n' f hg
        obtain ⟨hc, hW2⟩ := condW_no hW1
        clear hW1
        obtain ⟨hee, hss⟩ := (Bool.and_eq_true _ _ ▸ hc : _ ∧ _)
        have hee := Nat.eq_of_beq_eq_true hee
        have hss := Nat.eq_of_beq_eq_true hss
        subst hee hss
        obtain ⟨m, hh, news, ⟨⟨hnn, hb⟩, hK⟩, hm, hnl, hn1, hny, hnr⟩ := src_runS h hok hkn hW2
        have hkg : k ≠ g := fun e => by rw [e, hg] at hob; cases hob
        have hd := h.die g
        have hob' : (σ.setOb g .dead false).ob k = none := by simp only [St.setOb, beq_no hkg, cond_false]; exact hob
        have hnm : n + m ≤ 9223372036854775807 := by have := Nat.le_mul_of_pos_right (n + m) hb0; omega
        generalize hxs : a.eval s = xs at hs
        cases hs with
        | @own _ _ _ _ _ b c hbt hnc hcm =>
          rw [Nat.zero_mul, Nat.sub_zero] at hxs
          obtain ⟨_, cur, hA, hsz, hn'c, _, _, hR⟩ := row_at h hg hbt
          obtain ⟨x', w', hrun, hcases⟩ := app_run (X := X) (w := w) (n := n) (m := m) (news := news) (G := some ⟨b, n, c, e'⟩) (x := a.eval s) (y := a.eval x) ht hne ⟨rfl, hxs⟩ (fun I hI => by
            injection hI with hI
            subst hI
            exact ⟨by simp only; omega, hcm, cur, hA, hsz⟩) rfl hny hnl hn1 hb hnm (ty := o.type)
          have he := run_appendOp (type := o.type) ho hrun
          have hcur : ∀ i j, i < n → j < (X.T e').size → ∃ v, (cur.toList.take (n * (X.T e').size))[i * (X.T e').size + j]? = some v ∧ Rep X.V M w b0 (f i j) v ∧ v.oneCell' = true := fun i j hi hj => by
            have h4 : (i + 1) * (X.T e').size ≤ n * (X.T e').size := Nat.mul_le_mul_right _ (by omega)
            rw [Nat.succ_mul] at h4
            have h5 : n * (X.T e').size ≤ c * (X.T e').size := Nat.mul_le_mul_right _ (by omega)
            obtain ⟨h1, h2⟩ := hR i j (by omega) hj
            have h6 : i * (X.T e').size + j < cur.size := by omega
            refine ⟨cur.getD (i * (X.T e').size + j) undef, ?_, h2, h1⟩
            rw [List.getElem?_take, if_pos (by omega)]
            simp [Array.getD, h6]
          rcases hcases with ⟨rfl, rfl, rfl⟩ | ⟨I, cur2, hI, hA2, hcs2, hroom, rfl, rfl⟩ | ⟨cap, olds, rest, hol, holds, hcap, hcm2, hlen, rfl, rfl⟩
          · have h1 := h.move (k := k) (o := .row e' (n + 0) (fun i j => if i < n then f i j else hh (i - n) j)) hg rfl hbt hob ⟨hkn, .inr ⟨b, c, cur, upd_at _ _ _, hA, hsz, by omega, hcm, hb, fun i j hi hj => by
              simp only [if_pos (show i < n by omega)]
              exact hR i j (by omega) hj, (h.ob g _ _ hg).hid rfl hbt⟩⟩
            have h2 := h1.put (dst := some k) (d := .own k (X.T e').size 0 (n + 0)) (x := a.eval s) (fun q hq => by injection hq with hq; omega) (by
              have := Rep.own (V := X.V) (M := M) (w := w') (β := upd β k (some (b, c))) (s := (X.T e').size) (o := 0) (n := n) (upd_at _ _ _) (by omega) hcm
              rw [Nat.zero_mul, Nat.sub_zero] at this
              rw [hxs]
              exact this)
            rw [← hdst] at h2
            exact wp_value he ⟨M, _, _, h2, hK⟩
          · injection hI with hI
            subst hI
            simp only at hA2 hcs2 hroom he
            rw [hA] at hA2
            injection hA2 with hA2
            injection hA2 with hA2 _ _
            subst hA2
            have hfit : n * (X.T e').size + news.length ≤ cur.size := by rw [hnl, hsz, ← Nat.add_mul]; exact Nat.mul_le_mul_right _ hroom
            have hcell : ∀ b' o, M b' o → (w.setRow b (cur.toList.take (n * (X.T e').size) ++ news ++ cur.toList.drop (n * (X.T e').size + news.length)).toArray).cell? ⟨b', o, none⟩ = w.cell? ⟨b', o, none⟩ :=
              fun b' o' hm => cell_setRow_other w _ b' o' _ (fun e => (h.ob g _ _ hg).hid rfl hbt o' (e ▸ hm))
            have h1 := h.again (k := k) (o := .row e' (n + m) (fun i j => if i < n then f i j else hh (i - n) j)) (arr' := (cur.toList.take (n * (X.T e').size) ++ news ++ cur.toList.drop (n * (X.T e').size + news.length)).toArray) hg rfl hbt hob
              ⟨hkn, .inr ⟨b, c, _, upd_at _ _ _, setRow_heap w b cur _ e' (0, 0) hA, by simp; omega, hroom, hcm, hb, fun i j hi hj => by
                have := app_cells (X := X) (M := M) (w := w) (e := e') (n := n) (m := m) (f := f) (hh := hh) (olds := cur.toList.take (n * (X.T e').size)) (news := news) (rest := cur.toList.drop (n * (X.T e').size + news.length)) (by simp; omega) hnl rfl hcur hnr i j hi hj
                exact ⟨this.1, this.2.mono (fun _ _ h => h) hcell⟩, (h.ob g _ _ hg).hid rfl hbt⟩⟩
            have h2 := h1.put (dst := some k) (d := .own k (X.T e').size 0 (n + m)) (x := .slice (some ⟨b, 0, none⟩) (n + m) c) (fun q hq => by injection hq with hq; omega) (by
              have := Rep.own (V := X.V) (M := M) (w := w.setRow b (cur.toList.take (n * (X.T e').size) ++ news ++ cur.toList.drop (n * (X.T e').size + news.length)).toArray) (β := upd β k (some (b, c))) (s := (X.T e').size) (o := 0) (n := n + m) (upd_at _ _ _) (by omega) hcm
              rw [Nat.zero_mul, Nat.sub_zero] at this
              exact this)
            rw [← hdst] at h2
            exact wp_value he ⟨M, _, _, h2, hK⟩
          · have hold2 : ∀ i j, i < n → j < (X.T e').size → ∃ v, olds[i * (X.T e').size + j]? = some v ∧ Rep X.V M w b0 (f i j) v ∧ v.oneCell' = true := fun i j hi hj => by
              obtain ⟨v, h1, h2, h3⟩ := hcur i j hi hj
              have h4 : (i + 1) * (X.T e').size ≤ n * (X.T e').size := Nat.mul_le_mul_right _ (by omega)
              rw [Nat.succ_mul] at h4
              have hql : i * (X.T e').size + j < olds.length := by omega
              have h5 := holds _ rfl _ _ (List.getElem?_eq_getElem hql)
              rw [cell_of_row _ _ _ _ _ _ hA] at h5
              rw [List.getElem?_take, if_pos (by omega)] at h1
              have h6 : cur[i * (X.T e').size + j]? = some v := by simpa using h1
              rw [h6] at h5
              exact ⟨v, by rw [List.getElem?_eq_getElem hql, h5], h2, h3⟩
            obtain ⟨β', h2⟩ := hd.newRow (l := k) (e := e') (n := n + m) (c := cap) (f := fun i j => if i < n then f i j else hh (i - n) j) (w1 := w.drew) (arr := (olds ++ news ++ rest).toArray) hob' hk ⟨rfl, rfl, rfl, rfl⟩ hkn hcap hcm2 hb (by simpa using hlen)
              (app_cells (X := X) (M := M) (w := w) hol hnl rfl hold2 hnr)
            rw [← hdst] at h2
            exact wp_value he ⟨M, β', _, h2, hK⟩
        | ownNil hbt =>
          obtain ⟨x', w', hrun, hcases⟩ := app_run (X := X) (w := w) (n := 0) (m := m) (news := news) (G := none) (x := a.eval s) (y := a.eval x) ht hne hxs (fun I hI => by cases hI) rfl hny hnl hn1 hb hnm (ty := o.type)
          have he := run_appendOp (type := o.type) ho hrun
          rcases hcases with ⟨rfl, rfl, rfl⟩ | ⟨I, cur, hI, _⟩ | ⟨cap, olds, rest, hol, holds, hcap, hcm, hlen, rfl, rfl⟩
          · have h1 := hd.freshNil (l := k) (e := e') (f := fun i j => if i < 0 then f i j else hh (i - 0) j) hob' hkn
            have h2 := h1.put (dst := some k) (d := .own k (X.T e').size 0 0) (x := a.eval s) (fun q hq => by injection hq with hq; omega) (by rw [hxs]; exact .ownNil (upd_at _ _ _))
            rw [← hdst] at h2
            exact wp_value he ⟨M, _, _, h2, hK⟩
          · cases hI
          · obtain ⟨β', h2⟩ := hd.newRow (l := k) (e := e') (n := 0 + m) (c := cap) (f := fun i j => if i < 0 then f i j else hh (i - 0) j) (w1 := w.drew) (arr := (olds ++ news ++ rest).toArray) hob' hk ⟨rfl, rfl, rfl, rfl⟩ hkn (by omega) hcm hb (by simpa using hlen)
              (app_cells (X := X) (M := M) (w := w) (e := e') (n := 0) (m := m) hol hnl rfl (fun i j hi => by omega) hnr)
            rw [← hdst] at h2
            exact wp_value he ⟨M, β', _, h2, hK⟩
        | ownE h0 _ _ => omega
      · exact hW1.elim
    · exact hW1.elim
  · exact hW.elim
end
end Go.Proofs.YteojgenhgjhohaaDoor
