/-
  A call's code does what 'codeW' says; a function's contract out of it, over any program.
-/
import Derived.Test.YteojgenhgjhohaaDoorN11
import Derived.Maps.RangeRun
namespace Go.Proofs.YteojgenhgjhohaaDoor
open Go.RowKit
set_option linter.unusedVariables false
set_option linter.unusedSimpArgs false

section
variable {κ : Type} {X : Cx κ} {M0 M : Nat → Nat → Prop} {S0 : Ln} {w0 w : World} {N : Nat} {β : Bt} {σ σ' : St κ} {a : Act}

def opOk (N : Nat) (o : Oper) : Bool := (match o.dst with | some k => Nat.blt k N | none => true) && (bif noDst o.op then o.dst.isNone else true)
inductive RegW (X : Cx κ) (all : List Oper) (K : St κ → Prop) : List Oper → St κ → Prop where
  | run {l : List Oper} {σ : St κ} (h : opsW X all K l σ) : RegW X all K l σ
  | cut {l : List Oper} {σ : St κ} (n : Nat) {ι : Type} (L : ι → List (Nat × D κ)) (O : ι → List (Nat × Ob κ)) (keep : List Nat) (R : ι → Rws κ) (inv : ι → Prop)
      (h1 : opsW X all (fun σ' => ∃ y, inv y ∧ HeadOk X σ ((l.take n).flatMap opDst) (L y) (O y) keep (R y) σ') (l.take n) σ)
      (h2 : ∀ y, inv y → RegW X all K (l.drop n) (σ.head ((l.take n).flatMap opDst) (L y) (O y) keep (R y))) : RegW X all K l σ
theorem yielded_bool {all : List Oper} {j t : Nat} {b : Bool} (h : Sim X M0 S0 w0 N M β σ a w) (ht : (all[j]?).bind (·.dst) = some t) (hb : σ.fr t = .v (.bool b)) : yielded all.toArray a.tmps j = some b := by
  have h1 := h.fr t
  rw [hb] at h1
  obtain ⟨h2, _⟩ := h1.val
  have h3 : a.tmps[t]? = some (.bool b) := by
    by_cases hi : t < a.tmps.size
    · rw [Array.getElem?_eq_getElem hi]
      have : a.tmps.getD t undef = a.tmps[t] := by simp [Array.getD, hi]
      rw [← this, h2]
    · have : a.tmps.getD t undef = undef := by simp [Array.getD, hi]
      rw [this] at h2
      cases h2
  unfold yielded
  simp only [List.getElem?_toArray, ht, Option.bind_some, h3]
theorem yielded_und {all : List Oper} {j t : Nat} (h : Sim X M0 S0 w0 N M β σ a w) (ht : (all[j]?).bind (·.dst) = some t) (hb : σ.fr t = .und) : yielded all.toArray a.tmps j = none := by
  have h1 := h.fr t
  rw [hb] at h1
  have h2 : a.tmps.getD t undef = undef := by
    generalize a.tmps.getD t undef = y at h1
    cases h1
    rfl
  unfold yielded
  simp only [List.getElem?_toArray, ht, Option.bind_some]
  by_cases hi : t < a.tmps.size
  · rw [Array.getElem?_eq_getElem hi]
    have : a.tmps.getD t undef = a.tmps[t] := by simp [Array.getD, hi]
    rw [← this, h2]
    rfl
  · simp [hi]

def PostF (X : Cx κ) (M0 : Nat → Nat → Prop) (S0 : Ln) (w0 : World) (N : Nat) (W : List Nat) (σ0 : St κ) (K : St κ → Prop) (a : Act) (w : World) : Prop := ∃ M β σ, Sim X M0 S0 w0 N M β σ a w ∧ K σ ∧ Fr W σ0 σ

theorem opOk_dst {o : Oper} (h : opOk N o = true) : (∀ k, o.dst = some k → k < N) ∧ (noDst o.op = true → o.dst = none) := by
  unfold opOk at h
  rw [Bool.and_eq_true] at h
  refine ⟨fun k hk => ?_, fun ho => ?_⟩
  · have := h.1
    rw [hk] at this
    exact Nat.le_of_ble_eq_true this
  · have := h.2
    rw [ho] at this
    simpa using this

theorem setB_other (w : World) (b : Nat) (o : Obj) {k : Nat} (h : k ≠ b) : (ChangeMaps.setBlock w b o).heap[k]? = w.heap[k]? := by
  simp [ChangeMaps.setBlock, Array.getElem?_setIfInBounds, Ne.symm h]
theorem setB_same {w : World} {b : Nat} {o0 : Obj} (o : Obj) (h : w.heap[b]? = some o0) : (ChangeMaps.setBlock w b o).heap[b]? = some o := by
  have := (Array.getElem?_eq_some_iff.1 h).1
  simp [ChangeMaps.setBlock, this]
theorem oneK_ok {t : TyK} {kf : KF} {k e : Nat} (ht : t = .map kf k e) (h : oneK t = true) {v : Value} (hv : kf.ok v) : okB v = true := by
  subst ht
  cases kf with
  | str =>
    obtain ⟨s, rfl, hs⟩ := hv
    exact decide_eq_true hs
  | int =>
    obtain ⟨n, rfl, _⟩ := hv
    rfl
  | arr n => cases h
theorem opN_sound (hG : X.G w0) (hMG : ∀ b o, X.MG b o → M0 b o) (hS : ∀ b, S0 b → X.nG ≤ b) (h : Sim X M0 S0 w0 N M β σ a w) (o : Oper) {K : St κ → Prop} {Q : Exit → Act → World → Prop} (hd : ∀ k, o.dst = some k → k < N) (hst : noDst o.op = true → o.dst = none) (hW : opN X o σ K) :
    o.wp X.P a w (Post X M0 S0 w0 N (fun σ' => K σ' ∧ Fr (opDst o) σ σ')) Q := by
  unfold opN at hW
  split at hW
  · rename_i t m ho
    unfold rangeW at hW
    split at hW
    · rename_i kf k e l ml ht hdst hm
      split at hW
      · rename_i hob
        split at hW
        · rename_i t' es hl
          obtain ⟨hc, hWK⟩ := condW_no hW
          obtain rfl := Nat.eq_of_beq_eq_true hc
          obtain ⟨_, hke, hu, K1, hkey, hes, hnd, b, c, arr, clk, hb, hv, hA, hks, hvs, hid, hbn⟩ := map_at h hl hm ht
          obtain ⟨hsz, hkk⟩ := arr_keys hks
          have hclk : clk = es.length := hbn.2.trans hsz
          have hne : ml ≠ l := fun e => by rw [e, hob] at hl; cases hl
          have he : (execOp a.eval o).run X.P w = .ok (.value (.pointer (some ⟨w.heap.size, 0, none⟩))) (w.alloc (.mapIter (some b) clk #[] clk)) := by
            simp [execOp, ho, hv, run_range_map w t k e b arr clk hu hA]
          have h1 := h.fresh (l := l) (c := 0) (o := .iter ml es.length []) hob (kp_alloc w w (.mapIter (some b) clk #[] clk) ⟨rfl, rfl, rfl, rfl⟩) ⟨rfl, w.heap.size, 0, b, c, #[], upd_at _ _ _, by rw [← hclk]; exact alloc_at w w _ rfl, by rw [upd_ne _ _ _ _ hne]; exact hb, rfl, fun q hq => absurd (h.mlt _ _ hq) (by omega)⟩
          exact wp_value he ⟨M, _, _, h1.put hd (.ptr (upd_at _ _ _)), hWK, fr_put o σ [(l, .iter ml es.length [], false)] _ (updD hdst)⟩
        · exact hW.elim
      · exact hW.elim
    · exact hW.elim
  · rename_i it b ho
    cases b with
    | true => exact hW.elim
    | false =>
      have hW : nextW X o σ it K := hW
      unfold nextW at hW
      split at hW
      · rename_i l hit
        split at hW
        · rename_i ml n sn hl
          split at hW
          · rename_i t es hml
            obtain ⟨hn, h1k, hW1, hW2⟩ := hW
            obtain ⟨_, b, c, bm, cm, sa, g1, g2, g3, g4, g5⟩ := h.ob l _ _ hl
            obtain ⟨e0, hz0, ⟨kf, k, ee, q1, q2, q3, q4⟩, b', c', arr, clk, m1, m2, m3, m4, m5, m6⟩ := h.ob ml _ _ hml
            obtain rfl : es = e0 := Eq.symm hz0
            rw [g3] at m1
            injection m1 with m1
            injection m1 with m1
            injection m1 with m1 _
            subst m1
            obtain ⟨hsz, hkk⟩ := arr_keys m3
            obtain ⟨hbo, hclk⟩ := m6
            have hclk : clk = n := by omega
            have hv : a.eval it = .pointer (some ⟨b, 0, none⟩) := by
              have hr := h.ev it
              rw [hit] at hr
              cases hr' : a.eval it <;> rw [hr'] at hr <;> cases hr
              rename_i hb
              rw [g1] at hb
              injection hb with hb
              injection hb with hb
              injection hb with hb _
              rw [hb]
            have hborn : ∀ (i : Nat) (x : MapEntry), arr.toList[i]? = some x → x.born = i := fun i x hx => by
              have h2 : (arr.toList.map (·.born))[i]? = some x.born := by rw [List.getElem?_map, hx]; rfl
              have hi : i < arr.size := by have := (List.getElem?_eq_some_iff.1 hx).1; simpa using this
              rw [hbo, List.getElem?_range hi] at h2
              injection h2 with h2
              exact h2.symm
            have hold : ∀ x ∈ arr.toList, x.born < n := fun x hx => by
              obtain ⟨i, hi, rfl⟩ := List.getElem_of_mem hx
              rw [hborn i _ (List.getElem?_eq_getElem hi)]
              have : i < arr.size := by simpa using hi
              omega
            have hmem : ∀ i, sa.contains i = true ↔ i ∈ sn := fun i => by
              rw [← Array.contains_toList, g4]
              simp
            rcases run_next_at (P := X.P) w o.type b bm n n sa arr clk g2 m2 hold (Nat.le_refl _) with ⟨h0, hrun⟩ | ⟨e, hel, w1, hal, hrun⟩
            · have he : (execOp a.eval o).run X.P w = .ok (.value (.tuple #[.bool false])) w := by
                simp [execOp, ho, hv, hrun]
              refine wp_value he ⟨M, β, _, h.put hd (.tup rfl (fun i d hi => ?_)), hW2 (fun i hi => ?_), fr_put o σ [] _ upd0⟩
              · match i, hi with
                | 0, hi =>
                  injection hi with hi
                  subst hi
                  exact .v rfl
              · refine (hmem i).1 ?_
                cases hc : sa.contains i with
                | true => rfl
                | false =>
                  have hia : i < arr.size := by omega
                  have : arr[i] ∈ leftOf arr sa := by
                    unfold leftOf
                    rw [Array.mem_filter]
                    refine ⟨Array.getElem_mem hia, ?_⟩
                    rw [hborn i arr[i] (by simp [hia]), hc]
                    rfl
                  rw [Array.eq_empty_of_size_eq_zero h0] at this
                  simp at this
            · have hel2 : e ∈ leftOf arr sa := by simpa using hel
              unfold leftOf at hel2
              rw [Array.mem_filter] at hel2
              obtain ⟨hea, hes2⟩ := hel2
              obtain ⟨i, hi, hie⟩ := Array.getElem_of_mem hea
              have hil : i < es.length := by omega
              have hbi : e.born = i := hborn i e (by simp [hi, hie])
              have hp := hkk i e es[i] (by simp [hi, hie]) (List.getElem?_eq_getElem hil)
              have hvr := m4 i es[i].2 (by rw [List.getElem?_map, List.getElem?_eq_getElem hil]; rfl)
              have he0 : arr.getD i default = e := by simp [Array.getD, hi, hie]
              rw [he0] at hvr
              have he : (execOp a.eval o).run X.P w = .ok (.value (.tuple #[.bool true, e.key, e.val])) (ChangeMaps.setBlock w1 b (.mapIter (some bm) n (sa.push e.born) clk)) := by
                simp [execOp, ho, hv, hrun]
              have hni : i ∉ sn := fun hm => by
                rw [hbi, (hmem i).2 hm] at hes2
                cases hes2
              have hh1 : w1.heap = w.heap ∧ w1.os = w.os ∧ w1.tape = w.tape ∧ w1.output = w.output := by rcases hal with rfl | rfl <;> exact ⟨rfl, rfl, rfl, rfl⟩
              have hr1 : w1.heap[b]? = some (.mapIter (some bm) n sa n) := by rw [hh1.1]; exact g2
              have hkp : Kp w.heap.size (fun i => i = b) w (ChangeMaps.setBlock w1 b (.mapIter (some bm) n (sa.push e.born) clk)) := ⟨hh1.2.1, hh1.2.2.1, hh1.2.2.2, by simp [ChangeMaps.setBlock, hh1.1], fun j _ hj => (setB_other w1 b _ hj).trans (by rw [hh1.1])⟩
              have hcell : ∀ b' o', M b' o' → (ChangeMaps.setBlock w1 b (.mapIter (some bm) n (sa.push e.born) clk)).cell? ⟨b', o', none⟩ = w.cell? ⟨b', o', none⟩ := fun b' o' hm => hkp.cell (h.mlt _ _ hm) (fun e => g5 o' (e ▸ hm))
              have h1 := h.storedW hkp hl rfl g1 (o := .iter ml n (i :: sn)) ⟨rfl, b, c, bm, cm, sa.push e.born, g1, by rw [hclk]; exact setB_same _ hr1, g3, by rw [Array.toList_push, g4, hbi]; simp, g5⟩
              refine wp_value he ⟨M, β, _, h1.put hd (.tup rfl (fun j d hj => ?_)), hW1 i es[i] (List.getElem?_eq_getElem hil) hni, fr_put o σ [(l, .iter ml n (i :: sn), false)] _ (updS hl)⟩
              match j, hj with
              | 0, hj => injection hj with hj; subst hj; exact .v rfl
              | 1, hj => injection hj with hj; subst hj; rw [← hp]; exact .v (by rw [hp]; exact oneK_ok q1 h1k (q3 _ (List.getElem_mem hil)))
              | 2, hj => injection hj with hj; subst hj; exact (hvr.mono (fun _ _ h => h) hcell).of_b0
          · exact hW.elim
        · exact hW.elim
      · exact hW.elim
  · rename_i it ho
    unfold entryW at hW
    split at hW
    · rename_i l hit
      split at hW
      · rename_i ml n i sn hl
        split at hW
        · rename_i t es hml
          obtain ⟨hn, h1k, p, hpi, hW⟩ := hW
          obtain ⟨_, b, c, bm, cm, sa, g1, g2, g3, g4, g5⟩ := h.ob l _ _ hl
          obtain ⟨e0, hz0, ⟨kf, k, ee, q1, q2, q3, q4⟩, b', c', arr, clk, m1, m2, m3, m4, m5, m6⟩ := h.ob ml _ _ hml
          obtain rfl : es = e0 := Eq.symm hz0
          rw [g3] at m1
          injection m1 with m1
          injection m1 with m1
          injection m1 with m1 _
          subst m1
          obtain ⟨hsz, hkk⟩ := arr_keys m3
          obtain ⟨hbo, hclk⟩ := m6
          have hv : a.eval it = .pointer (some ⟨b, 0, none⟩) := by
            have hr := h.ev it
            rw [hit] at hr
            cases hr' : a.eval it <;> rw [hr'] at hr <;> cases hr
            rename_i hb
            rw [g1] at hb
            injection hb with hb
            injection hb with hb
            injection hb with hb _
            rw [hb]
          have hil : i < es.length := (List.getElem?_eq_some_iff.1 hpi).1
          have hia : i < arr.size := by omega
          have hbi : (arr[i]).born = i := by
            have h2 : (arr.toList.map (·.born))[i]? = some arr[i].born := by rw [List.getElem?_map]; simp [hia]
            rw [hbo, List.getElem?_range hia] at h2
            injection h2 with h2
            exact h2.symm
          have hp := hkk i arr[i] p (by simp [hia]) hpi
          have hvr := m4 i p.2 (by rw [List.getElem?_map, hpi]; rfl)
          have he0 : arr.getD i default = arr[i] := by simp [Array.getD, hia]
          rw [he0] at hvr
          obtain ⟨sa', hsa⟩ : ∃ sa' : Array Nat, sa = sa'.push i := by
            refine ⟨sn.reverse.toArray, ?_⟩
            apply Array.toList_inj.1
            rw [g4, Array.toList_push]
            simp
          have hnd2 : (arr.toList.map (·.born)).Nodup := by rw [hbo]; exact List.nodup_range
          have hrun := run_entry_at (P := X.P) w b bm n sa' arr clk arr[i] (by rw [g2, hsa, hbi, show n = clk by omega]) m2 (by simp) hnd2
          have he : (execOp a.eval o).run X.P w = .ok (.value (.tuple #[(arr[i]).key, (arr[i]).val])) w := by
            simp [execOp, ho, hv, hrun]
          refine wp_value he ⟨M, β, _, h.put hd (.tup rfl (fun j d hj => ?_)), hW, fr_put o σ [] _ upd0⟩
          match j, hj with
          | 0, hj => injection hj with hj; subst hj; rw [← hp]; exact .v (by rw [hp]; exact oneK_ok q1 h1k (q3 _ (List.mem_of_getElem? hpi)))
          | 1, hj => injection hj with hj; subst hj; exact hvr.of_b0
        · exact hW.elim
      · exact hW.elim
    · exact hW.elim
  · exact op_sound hG hMG hS h o hd (opW_fr hW) hst
theorem opsW_sound (hG : X.G w0) (hMG : ∀ b o, X.MG b o → M0 b o) (hS : ∀ b, S0 b → X.nG ≤ b) {all : List Oper} {K : St κ → Prop} {Q : Exit → Act → World → Prop} {W : List Nat} {σ0 : St κ} {l2 : List Oper} (hQ : ∀ a w, PostF X M0 S0 w0 N W σ0 K a w → wpList X.P all.toArray Q l2 a w) :
    ∀ (l : List Oper), (∀ o ∈ l, opOk N o = true) → (∀ o ∈ l, ∀ k ∈ opDst o, k ∈ W) → ∀ (M : Nat → Nat → Prop) (β : Bt) (σ : St κ) (a : Act) (w : World), Sim X M0 S0 w0 N M β σ a w → Fr W σ0 σ → opsW X all K l σ → wpList X.P all.toArray Q (l ++ l2) a w
  | [], _, _, M, β, σ, a, w, h, hf, hW => hQ a w ⟨M, β, σ, h, hW, hf⟩
  | o :: r, hok, hin, M, β, σ, a, w, h, hf, hW => by
    have ih := opsW_sound hG hMG hS (all := all) hQ r (fun o ho => hok o (List.mem_cons_of_mem _ ho)) (fun o ho => hin o (List.mem_cons_of_mem _ ho))
    obtain ⟨hd, hst⟩ := opOk_dst (hok o List.mem_cons_self)
    have hfr : ∀ {σ1 σ2 : St κ}, Fr W σ0 σ1 → Fr (opDst o) σ1 σ2 → Fr W σ0 σ2 := fun {σ1 σ2} h1 h2 => h1.trans (h2.sub fun k hk => hin o List.mem_cons_self k hk)
    have runN : ∀ σ1, Sim X M0 S0 w0 N M β σ1 a w → Fr W σ0 σ1 → opN X o σ1 (opsW X all K r) → Region.wanted o (yielded all.toArray a.tmps) = true → wpList X.P all.toArray Q (o :: (r ++ l2)) a w := by
      intro σ1 h1 hf1 hW1 hwant
      unfold wpList
      rw [if_pos hwant]
      refine .inl (Oper.wp_mono (fun a' w' hp => ?_) (opN_sound hG hMG hS h1 o hd hst hW1))
      obtain ⟨M', β', σ', hs, hk, hf2⟩ := hp
      exact ih M' β' σ' a' w' hs (hfr hf1 hf2) hk
    have run : ∀ σ1, Sim X M0 S0 w0 N M β σ1 a w → Fr W σ0 σ1 → opW X o σ1 (opsW X all K r) → Region.wanted o (yielded all.toArray a.tmps) = true → wpList X.P all.toArray Q (o :: (r ++ l2)) a w := by
      intro σ1 h1 hf1 hW1 hwant
      unfold wpList
      rw [if_pos hwant]
      refine .inl (Oper.wp_mono (fun a' w' hp => ?_) (op_sound hG hMG hS h1 o hd (opW_fr hW1) hst))
      obtain ⟨M', β', σ', hs, hk, hf2⟩ := hp
      exact ih M' β' σ' a' w' hs (hfr hf1 hf2) hk
    have skip : ∀ σ1, Sim X M0 S0 w0 N M β σ1 a w → Fr W σ0 σ1 → opsW X all K r (σ1.put o.dst .und) → Region.wanted o (yielded all.toArray a.tmps) = false → wpList X.P all.toArray Q (o :: (r ++ l2)) a w := by
      intro σ1 h1 hf1 hW1 hwant
      unfold wpList
      rw [if_neg (by rw [hwant]; simp)]
      exact ih M β _ _ w (h1.put hd .und) (hfr hf1 (fr_put o σ1 [] .und upd0)) hW1
    unfold opsW at hW
    split at hW
    · rename_i hg
      exact runN σ h hf hW (by simp [Region.wanted, hg])
    · rename_i j want hg
      split at hW
      · rename_i t ht
        split at hW
        · rename_i b hb
          have hy := yielded_bool h ht hb
          rcases condW_spec hW with ⟨rfl, hW⟩ | ⟨rfl, hW⟩
          · rw [setB_eq hb] at hW
            cases want
            · exact skip σ h hf hW (by simp [Region.wanted, hg, hy])
            · exact run σ h hf hW (by simp [Region.wanted, hg, hy])
          · rw [setB_eq hb] at hW
            cases want
            · exact run σ h hf hW (by simp [Region.wanted, hg, hy])
            · exact skip σ h hf hW (by simp [Region.wanted, hg, hy])
        · rename_i hb
          exact skip σ h hf hW (by simp [Region.wanted, hg, yielded_und h ht hb])
        · exact hW.elim
      · exact hW.elim

theorem head_fr {W : List Nat} {L : List (Nat × D κ)} {O : List (Nat × Ob κ)} {keep : List Nat} {R : Rws κ} (hf : Fr W σ σ') (hh : HeadOk X σ W L O keep R σ') : Fr W σ (σ.head W L O keep R) := by
  obtain ⟨ρ, ⟨_, _, _, _, n7, _, _⟩, _, ho, _, _⟩ := hh
  rw [Bool.and_eq_true] at n7
  refine ⟨fun i hi => ?_, fun l hl e => ?_, rfl⟩
  · simp only [St.head, hi]
    rw [keepB_and]
    congr 1
    exact funext fun l => Bool.and_self _
  · simp only [St.head]
    split
    · rename_i hR
      have := List.all_eq_true.1 n7.1 _ (findB_mem hR)
      rw [hl] at this
      cases this
    · split
      · rename_i hO
        have h1 := hf.o l hl e
        rcases obsOk_mem ho (findB_mem hO) with ⟨cs, es, h2, _, _⟩ | ⟨e', n, f, f', h2, _, _⟩ | ⟨t, es, es', h2, _, _⟩ | ⟨m, n, s, h2, _, _⟩ <;> rw [h1] at h2 <;> cases h2
      · simp only [e, hl]
        split <;> rfl
theorem regW_sound (hG : X.G w0) (hMG : ∀ b o, X.MG b o → M0 b o) (hS : ∀ b, S0 b → X.nG ≤ b) {all : List Oper} {K : St κ → Prop} {Q : Exit → Act → World → Prop} {W : List Nat} (hL : ∀ l p, S0.pl l = some p → elemB W l = false) {σ0 : St κ} (hQ : ∀ a w, PostF X M0 S0 w0 N W σ0 K a w → Q .normal a w) {l : List Oper} {σ : St κ} (hW : RegW X all K l σ) :
    (∀ o ∈ l, opOk N o = true) → (∀ o ∈ l, ∀ k ∈ opDst o, k ∈ W) → ∀ (M : Nat → Nat → Prop) (β : Bt) (a : Act) (w : World), Sim X M0 S0 w0 N M β σ a w → Fr W σ0 σ → wpList X.P all.toArray Q l a w := by
  induction hW with
  | @run l σ h =>
    intro hok hin M β a w hs hf
    have := opsW_sound hG hMG hS (all := all) (K := K) (Q := Q) (W := W) (σ0 := σ0) (l2 := []) (fun a w hp => hQ a w hp) l hok hin M β σ a w hs hf h
    rwa [List.append_nil] at this
  | @cut l σ n ι L O keep R inv h1 h2 ih =>
    intro hok hin M β a w hs hf
    have hmem : ∀ o ∈ l.take n, o ∈ l := fun o ho => List.mem_of_mem_take ho
    have := opsW_sound hG hMG hS (all := all) (Q := Q) (W := (l.take n).flatMap opDst) (σ0 := σ) (l2 := l.drop n) (fun a' w' hp => by
      obtain ⟨M', β', σ', hs', ⟨y, hy, hh⟩, hf'⟩ := hp
      obtain ⟨β2, hs2⟩ := hs'.head hf'.f hf'.o hf'.g (fun k p hp => elem_not fun hm => by
        obtain ⟨o, ho, hk⟩ := List.mem_flatMap.1 hm
        exact elem_no (hL k p hp) (hin o (hmem o ho) k hk)) hh
      refine ih y hy (fun o ho => hok o (List.mem_of_mem_drop ho)) (fun o ho => hin o (List.mem_of_mem_drop ho)) M' β2 a' w' hs2 (hf.trans ((head_fr hf' hh).sub fun k hk => ?_))
      obtain ⟨o, ho, hk⟩ := List.mem_flatMap.1 hk
      exact hin o (hmem o ho) k hk) (l.take n) (fun o ho => hok o (hmem o ho)) (fun o ho k hk => List.mem_flatMap.2 ⟨o, ho, hk⟩) M β σ a w hs (Fr.refl _ _) h1
    rwa [List.take_append_drop] at this
end
end Go.Proofs.YteojgenhgjhohaaDoor
