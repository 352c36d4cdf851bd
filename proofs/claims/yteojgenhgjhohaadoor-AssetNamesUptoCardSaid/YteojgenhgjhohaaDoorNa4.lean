/-
  A slot's datum is frozen between two parts of a code. mastref2.PlainOf whole.
-/
import Derived.Test.YteojgenhgjhohaaDoorN17
import Derived.Test.YteojgenhgjhohaaDoorNa3
import Derived.Test.YteojgenhgjhohaaDoorU1
import Derived.Test.YteojgenhgjhohaaDoorN18
namespace Go.Proofs.YteojgenhgjhohaaDoor
open Go.RowKit
set_option linter.unusedVariables false
set_option linter.unusedSimpArgs false
section
variable {κ : Type} {X : Cx κ} {M0 M : Nat → Nat → Prop} {S0 : Ln} {w0 w : World} {N : Nat} {β : Bt} {σ σ' : St κ} {a : Act}
def codeZ (X : Cx κ) (k : Nat) : Nat → Code → (Exit → St κ → Prop) → St κ → Prop
  | 0, c, Q, σ => frzW X σ.ob (σ.fr k) fun us d => codeW X c Q ((σ.ups us).put (some k) d)
  | n + 1, .seq a b, Q, σ => codeW X a (fun e σ' => match e with | .normal => codeZ X k n b Q σ' | e => Q e σ') σ
  | _ + 1, c, Q, σ => codeW X c Q σ
theorem put_self {a : Act} {k : Nat} (hk : k < a.tmps.size) : a.put (some k) (a.tmps.getD k undef) = a := by
  cases a with
  | mk t d =>
    simp only [Act.put] at *
    congr 1
    apply Array.ext
    · simp
    · intro i h1 h2
      by_cases e : k = i
      · subst e
        simp [Array.getD, h2]
      · exact Array.getElem_setIfInBounds_ne h2 e
theorem codeZ_sound (hG : X.G w0) (hMG : ∀ b o, X.MG b o → M0 b o) (hS : ∀ b, S0 b → X.nG ≤ b) {k : Nat} {W : List Nat} (hk : k < N) (hkW : k ∈ W) (hL : Lts S0 W) : ∀ (n : Nat) (c : Code) (Q : Exit → St κ → Prop), codeOk N c = true → (∀ i ∈ writes c, i ∈ W) → ∀ (M : Nat → Nat → Prop) (β : Bt) (σ : St κ) (a : Act) (w : World), Sim X M0 S0 w0 N M β σ a w → codeZ X k n c Q σ →
    c.wp X.P (fun e a w => PostF X M0 S0 w0 N W σ (Q e) a w) a w := by
  have hLs : ∀ c, (∀ i ∈ writes c, i ∈ W) → Lts S0 (writes c) := fun c hc l p hl => elem_not fun hm => elem_no (hL l p hl) (hc l hm)
  have plain : ∀ (c : Code) (Q : Exit → St κ → Prop), codeOk N c = true → (∀ i ∈ writes c, i ∈ W) → ∀ (M : Nat → Nat → Prop) (β : Bt) (σ : St κ) (a : Act) (w : World), Sim X M0 S0 w0 N M β σ a w → codeW X c Q σ → c.wp X.P (fun e a w => PostF X M0 S0 w0 N W σ (Q e) a w) a w := fun c Q hok hc M β σ a w h hW =>
    wp_mono (code_sound hG hMG hS c Q hok (hLs c hc) M β σ a w h hW) fun e a w ⟨M', β', σ', h1, h2, h3⟩ => ⟨M', β', σ', h1, h2, h3.sub hc⟩
  intro n
  induction n with
  | zero =>
    intro c Q hok hc M β σ a w h hW
    unfold codeZ at hW
    let o : Oper := { dst := some k, op := .move (.tmp 0), type := 0, pos := "", after := #[], guard := none }
    obtain ⟨us, d, M', ⟨h1, hu⟩, hM, hs, hF, hr⟩ := frz_run h (FIn.of h) (h.fr k) (frz_upd (o := o) hW)
    have hs2 := hs.put (dst := some k) (fun i hi => by injection hi with hi; omega) hr
    rw [put_self (by rw [h.sz]; exact hk)] at hs2
    have hf := fr_put o σ us d hu
    have hsub : ∀ i ∈ opDst o, i ∈ W := fun i hi => by
      have : i = k := by
        simp only [opDst, o] at hi
        exact List.mem_singleton.1 hi
      rw [this]; exact hkW
    exact wp_mono (plain c Q hok hc M' β _ a w hs2 h1) fun e a w ⟨M2, β2, σ2, g1, g2, g3⟩ => ⟨M2, β2, σ2, g1, g2, (hf.sub hsub).trans g3⟩
  | succ n ih =>
    intro c Q hok hc M β σ a w h hW
    cases c
    case seq x y =>
      simp only [codeOk, Bool.and_eq_true] at hok
      have hx : ∀ i ∈ writes x, i ∈ W := fun i hi => hc i (List.mem_append_left _ hi)
      have hy : ∀ i ∈ writes y, i ∈ W := fun i hi => hc i (List.mem_append_right _ hi)
      simp only [codeZ] at hW
      refine wp_seq (wp_mono (plain x _ hok.1 hx M β σ a w h hW) (fun e a w ⟨M', β', σ', h1, h2, h3⟩ => ?_))
      cases e with
      | normal =>
        simp only at h2
        exact wp_mono (ih y Q hok.2 hy M' β' σ' a w h1 h2) (fun e a w ⟨M2, β2, σ2, g1, g2, g3⟩ => ⟨M2, β2, σ2, g1, g2, h3.trans g3⟩)
      | _ => exact ⟨M', β', σ', h1, h2, h3⟩
    all_goals exact plain _ Q hok hc M β σ a w h hW
theorem SpH.coreZ {k n : Nat} {f : FuncId} {fn : Func} {c : Code} {ds : List (D κ)} {H : List (Nat × Ob κ)} {d : D κ} {H' : List (Nat × Ob κ)} {K : St κ → Prop} (hf : X.P.funcs[f]? = some fn) (hname : (fn.name == "runtime.NumGoroutine") = false) (hb : fn.body = some c) (hn : Nat.ble ds.length fn.ntmps = true) (hok : codeOk fn.ntmps c = true) (hA : argsOk (writes c) ds H = true) (hk : (Nat.blt k fn.ntmps && elemB (writes c) k) = true)
    (hK : ∀ {S0 : Ln} {M0 M : Nat → Nat → Prop} {w0 w : World} {β : Bt} {a : Act} {σ : St κ}, Lts S0 (writes c) → Sim X M0 S0 w0 fn.ntmps M β σ a w → K σ → Fr (writes c) (start X ds H) σ → ∃ x M' β', (results fn a.tmps).run X.P w = .ok x w ∧ (∀ l p, S0.pl l = some p → β' l = some p) ∧ (∀ b o, M b o → M' b o) ∧ (∀ b o, M' b o → M0 b o ∨ w0.heap.size ≤ b ∨ S0 b) ∧ (∀ b o, M' b o → b < w.heap.size) ∧ Rep X.V M' w β' d x ∧ Hp X M' w β' H' ∧ ∀ b, blocks β' H' b → w0.heap.size ≤ b ∨ S0 b)
    (hW : codeZ X k n c (exitW K) (start X ds H)) : SpH X f ds H d H' := by
  refine ⟨⟨fn, c, hf, hname, hb⟩, fun M β w vs hG hMG hM hl hr hp hnb => ?_⟩
  have hn := Nat.le_of_ble_eq_true hn
  rw [Bool.and_eq_true] at hk
  have hk1 : k < fn.ntmps := Nat.le_of_ble_eq_true hk.1
  refine calls_of_wp hf hb ?_
  obtain ⟨β0, hβ0, hL, hs⟩ := start_sim (n := fn.ntmps) hn hA hG hMG hM hl hr hp
  refine wp_mono (codeZ_sound hG hMG hnb hk1 (elemB_mem.1 hk.2) hL n c _ hok (fun _ h => h) M _ _ _ w hs hW) (fun e a w' hp' => ?_)
  obtain ⟨M', β', σ', h1, h2, h3⟩ := hp'
  have fin : K σ' → a.defers = [] ∧ ∃ v, (results fn a.tmps).run X.P w' = .ok v w' ∧ ∃ x M' β', (Ending.returned v) = .returned x ∧ Kp w.heap.size (blocks β H) w w' ∧ (∀ l o, (l, o) ∈ H → β' l = β l) ∧ (∀ b o, M b o → M' b o) ∧ (∀ b o, M' b o → M b o ∨ blocks β H b ∨ (w.heap.size ≤ b ∧ b < w'.heap.size)) ∧ Rep X.V M' w' β' d x ∧ Hp X M' w' β' H' ∧ ∀ b, blocks β' H' b → blocks β H b ∨ w.heap.size ≤ b := by
    intro hret
    obtain ⟨x, M2, β2, hx, hle, hM2, hN2, hlt2, hrx, hH, hbl⟩ := hK hL h1 hret h3
    refine ⟨h1.df, x, hx, x, M2, β2, rfl, h1.kp, fun l o hm => ?_, fun b o hm => hM2 b o (h1.m0 b o hm), fun b o hm => ?_, hrx, hH, fun b hb => ?_⟩
    · obtain ⟨hv, hat⟩ := hp.ob l o hm
      obtain ⟨p, hbp⟩ : ∃ p, β l = some p := by
        cases o with
        | cells cs => obtain ⟨b, c, arr, T, g1, _⟩ := hat; exact ⟨_, g1⟩
        | row e n f =>
          obtain ⟨_, g⟩ := hat
          rcases g with ⟨g1, _⟩ | ⟨b, c, arr, g1, _⟩
          · exact ⟨_, g1⟩
          · exact ⟨_, g1⟩
        | map t es => obtain ⟨_, _, _, b, c, arr, clk, g1, _⟩ := hat; exact ⟨_, g1⟩
        | iter m n sn => obtain ⟨_, b, c, bm, cm, sa, g1, _⟩ := hat; exact ⟨_, g1⟩
        | dead => cases hv
      rw [hbp]
      exact hle l p ((hβ0 l o hm).trans hbp)
    · rcases hN2 b o hm with h4 | h4 | h4
      · exact .inl h4
      · exact .inr (.inr ⟨h4, hlt2 b o hm⟩)
      · exact .inr (.inl h4)
    · exact (hbl b hb).symm
  cases e with
  | normal => exact fin h2
  | ret => exact fin h2
  | exit id => exact h2.elim
  | goto l => exact h2.elim
  | panic c => exact h2.elim
  | outgrown => exact h2.elim
theorem Sp.bodyZ (k n : Nat) {f : FuncId} {fn : Func} {c : Code} {ds : List (D κ)} {d : D κ} (hf : X.P.funcs[f]? = some fn) (hname : (fn.name == "runtime.NumGoroutine") = false) (hb : fn.body = some c) (hn : Nat.ble ds.length fn.ntmps = true) (hok : codeOk fn.ntmps c = true) (hA : argsOk (writes c) ds [] = true) (hk : (Nat.blt k fn.ntmps && elemB (writes c) k) = true)
    (hW : codeZ X k n c (exitW (retW X fn d)) (start X ds [])) : Sp X f ds d := by
  refine .inl (SpH.coreZ hf hname hb hn hok hA hk (fun {S0 M0 M w0 w β a σ} hL h hret _ => ?_) hW)
  obtain ⟨vs, es, h1, h2, h3, h4, h5⟩ := ress_run h _ hret
  obtain ⟨us, es', M', hle, fr⟩ := frzA_run es (fun i => vs.getD i undef) _ M σ h (FIn.of h) h4 h5
  refine ⟨_, M', β, ress_val h1, h.le, fr.mo, fr.si.mN, fr.si.mlt, hle _ _ _ _ (one_rep (by rw [fr.ln, h3, h2]) fr.re), ⟨fun l o hm => (by cases hm), fun l o l' o' b c c' hm => (by cases hm)⟩, fun b hb => ?_⟩
  obtain ⟨l, o, c, hm, _⟩ := hb
  cases hm
end
end Go.Proofs.YteojgenhgjhohaaDoor
namespace Go.Proofs.YteojgenhgjhohaaDoor
open Go.RowKit
set_option linter.unusedVariables false
set_option linter.unusedSimpArgs false
namespace na
open pl bl
section
variable (E : Env)
set_option maxRecDepth 100000
abbrev rowS (l : List ByteArray) (i j : Nat) : DD := dS (l.getD i ⟨#[]⟩)
theorem cloneS_7 (l : List ByteArray) (hl : l.length * 16 ≤ 140737488355328) : SpH (cx Tryd.prog mixed tyT_ok E) 22 [encStrs l] [] (.own 7 1 0 l.length) [(7, .row 9 l.length (rowS l))] := by
  refine SpH.body Tryd.func22 (by kernel_rfl) rfl (by kernel_rfl) (by kernel_rfl) (by kernel_rfl) ?_
  repeat' first
    | (refine codeW_cond rfl ?_; first | (refine condW_dec ?_ ?_ <;> intro _ <;> try (exfalso; omega)) | refine condW_not ?_ | (refine condW_bool ?_ ?_ <;> intro _ <;> try (exfalso; omega)))
    | (refine facW_intro ?_; intro _)
    | refine Or.inl ?_
    | ((conv => whnf); first | (refine condW_dec ?_ ?_ <;> intro _ <;> try (exfalso; omega)) | refine condW_not ?_ | (refine condW_bool ?_ ?_ <;> intro _ <;> try (exfalso; omega)) | (refine nbC_t (fun _ => ?_) ?_) | (refine nbC_f ?_ (fun _ => ?_)))
    | refine And.intro (by first | omega | (simp only [Int.toNat_natCast] at *; omega) | (simp only [Nat.reduceAdd, Int.cast_ofNat_Int, true_and, and_true]; omega)  | kernel_rfl) ?_
    | refine RegW.run ?_
    | fail
  all_goals first
    | (have h0 : l.length = 0 := by assumption
       exact ⟨[], [(7, 9, l.length, rowS l)], rfl, ⟨[(7, none)], ⟨by kernel_rfl, by kernel_rfl, by kernel_rfl, by kernel_rfl, by kernel_rfl, by kernel_rfl, by kernel_rfl⟩, (by repeat' first | (exact h0) | exact trivial | exact rfl | kernel_rfl | exact Dle.of_eq rfl | exact MLe.of_eq rfl | exact Dle.i (by omega) | exact Dle.i (by simp only [Int.toNat_natCast] at *; omega) | exact Dle.nil | exact Dle.rc Dle.nil | exact Option.some_ne_none _ | exact Or.inl rfl | exact Or.inr trivial | omega | (simp only [Int.toNat_natCast] at *; omega) | (intro _ _ _ _; exact Dle.of_eq rfl) | (intro i j hi hj; exact Dle.of_eq (by simp)) | refine And.intro ?_ ?_)⟩, rfl⟩)
    | exact ⟨[], [(7, 9, l.length, rowS l)], rfl, ⟨[(7, some 7)], ⟨by kernel_rfl, by kernel_rfl, by kernel_rfl, by kernel_rfl, by kernel_rfl, by kernel_rfl, by kernel_rfl⟩, (by repeat' first | (exact Nat.zero_add _) | exact trivial | exact rfl | kernel_rfl | exact Dle.of_eq rfl | exact MLe.of_eq rfl | exact Dle.i (by omega) | exact Dle.i (by simp only [Int.toNat_natCast] at *; omega) | exact Dle.nil | exact Dle.rc Dle.nil | exact Option.some_ne_none _ | exact Or.inl rfl | exact Or.inr trivial | omega | (simp only [Int.toNat_natCast] at *; omega) | (intro _ _ _ _; exact Dle.of_eq rfl) | (intro i j hi hj; exact Dle.of_eq (by simp)) | refine And.intro ?_ ?_)⟩, rfl⟩
    | trace_state
theorem cloneS_l (L : Nat) (l : List ByteArray) (hl : l.length * 16 ≤ 140737488355328) : SpH (cx Tryd.prog mixed tyT_ok E) 22 [encStrs l] [] (.own L 1 0 l.length) [(L, .row 9 l.length (rowS l))] := by
  have h := (cloneS_7 E l hl).swap 7 L
  simpa only [D.renL, D.ren, renH, Ob.ren, swp_l, encStrs] using h
end
theorem getD_take (l : List ByteArray) (m i : Nat) (h : i < m) : (l.take m).getD i ⟨#[]⟩ = l.getD i ⟨#[]⟩ := by
  rw [List.getD_eq_getElem?_getD, List.getD_eq_getElem?_getD, List.getElem?_take_of_lt h]
theorem gda (l m : List ByteArray) (i : Nat) (h : i < l.length) : (l ++ m).getD i ⟨#[]⟩ = l.getD i ⟨#[]⟩ := by
  rw [List.getD_eq_getElem?_getD, List.getD_eq_getElem?_getD, List.getElem?_append_left h]
theorem gdr (l m : List ByteArray) (i : Nat) (h : l.length ≤ i) : (l ++ m).getD i ⟨#[]⟩ = m.getD (i - l.length) ⟨#[]⟩ := by
  rw [List.getD_eq_getElem?_getD, List.getD_eq_getElem?_getD, List.getElem?_append_right h]
section
variable (E : Env)
set_option maxRecDepth 100000
set_option maxHeartbeats 40000000
theorem plainOf_w (s t d : ByteArray) (l : List ByteArray) (n : Nat) (hs : s.size ≤ 1000000000) (h1 : Sp (cx Tryd.prog mixed tyT_ok E) 16 [dS s] (dS t)) (ht : t.size ≤ s.size) (hd : d = s.extract 0 ((s.size : Int) - (t.size : Int)).toNat)
    (h2 : Sp (cx Tryd.prog mixed tyT_ok E) 18 [dS t, dS (⟨#[46]⟩ : ByteArray)] (encStrs l)) (hn : l.length = n) (hn1 : 1 ≤ n) (hn2 : n ≤ 2000000000)
    (b1 b2 : Bool) (J1 J2 J3 : ByteArray)
    (hx1 : Sp (cx Tryd.prog mixed tyT_ok E) 21 [dS (l.getD (n - 2) ⟨#[]⟩)] (dB b1)) (hx2 : Sp (cx Tryd.prog mixed tyT_ok E) 21 [dS (l.getD (n - 1) ⟨#[]⟩)] (dB b2))
    (hj1 : Sp (cx Tryd.prog mixed tyT_ok E) 19 [encStrs (l.take (n - 2)), refD d] (dS J1)) (hj2 : Sp (cx Tryd.prog mixed tyT_ok E) 19 [encStrs (l.take (n - 1)), refD d] (dS J2))
    (hj3 : Sp (cx Tryd.prog mixed tyT_ok E) 19 [encStrs (l.take (n - 2) ++ [l.getD (n - 1) ⟨#[]⟩]), refD d] (dS J3))
    (R : DD) (hR : R = if 3 ≤ n ∧ b1 = true ∧ J1 ≠ d then .tup [dS J3, dS (l.getD (n - 2) ⟨#[]⟩), dB true] else if 2 ≤ n ∧ b2 = true ∧ J2 ≠ d then .tup [dS J2, dS (l.getD (n - 1) ⟨#[]⟩), dB true] else .tup [dS ⟨#[]⟩, dS ⟨#[]⟩, dB false]) :
    Sp (cx Tryd.prog mixed tyT_ok E) 7 [dS s] R := by
  have k1 := cloneS_l E 49 (l.take (n - 2)) (by rw [List.length_take]; omega)
  have hT : (l.take (n - 2)).length = n - 2 := by rw [List.length_take]; omega
  rw [hT] at k1
  subst hd
  have gd : ∀ (i k : Nat), i = k → Dle (cx Tryd.prog mixed tyT_ok E) (dS (l.getD i ⟨#[]⟩)) (dS (l.getD k ⟨#[]⟩)) := fun i k h => Dle.of_eq (by rw [h])
  have hsl : ∀ (m p : Nat) (g : Nat → Nat → DD), p = m → m ≤ n → (∀ i j, g i j = dS (l.getD i ⟨#[]⟩)) → Dle (cx Tryd.prog mixed tyT_ok E) (.sl 1 16 p g) (encStrs (l.take m)) := fun m p g hp hm hg => by
    subst hp
    exact Dle.sl (X := (cx Tryd.prog mixed tyT_ok E)) (by rw [List.length_take]; omega) (fun i j hi _ => Dle.of_eq ((hg i j).trans (by rw [getD_take _ _ _ hi])))
  have hap : ∀ (p : Nat) (g : Nat → Nat → DD), p = n - 2 + 1 → (∀ i j, g i j = if i < n - 2 then rowS (l.take (n - 2)) i j else [dS (l.getD ((l.length : Int) - 1).toNat ⟨#[]⟩)].getD ((i - (n - 2)) * 1 + j) .opq) → Dle (cx Tryd.prog mixed tyT_ok E) (.sl 1 16 p g) (encStrs (l.take (n - 2) ++ [l.getD (n - 1) ⟨#[]⟩])) := fun p g hp hg => by
    subst hp
    refine Dle.sl (X := (cx Tryd.prog mixed tyT_ok E)) (by rw [List.length_append, hT]; rfl) (fun i j hi hj => ?_)
    obtain rfl : j = 0 := by omega
    rw [hg]
    by_cases h : i < n - 2
    · rw [if_pos h]
      exact Dle.of_eq (by rw [gda _ _ _ (by omega)])
    · rw [if_neg h]
      obtain rfl : i = n - 2 := by omega
      rw [Nat.sub_self]
      exact Dle.of_eq (by rw [gdr _ _ _ (by omega), hT, Nat.sub_self]; show dS _ = dS _; congr 1; show l.getD _ _ = l.getD _ _; congr 1; omega)
  have no1 : ∀ {P Q : Prop} {b : Bool}, (¬ P ∨ b = false ∨ ¬ Q) → ¬ (P ∧ b = true ∧ Q) := fun h g => by
    rcases h with h | h | h
    · exact h g.1
    · rw [h] at g; exact absurd g.2.1 (by decide)
    · exact h g.2.2
  have lfA : 3 ≤ n → b1 = true → J1 ≠ s.extract 0 ((s.size : Int) - (t.size : Int)).toNat → Dle (cx Tryd.prog mixed tyT_ok E) (.tup [dS J3, dS (l.getD ((l.length : Int) - 2).toNat ⟨#[]⟩), dB true]) R := fun g1 g2 g3 => by
    rw [hR, if_pos ⟨g1, g2, g3⟩]
    exact Dle.tup (X := (cx Tryd.prog mixed tyT_ok E)) ⟨Dle.refl _ _, gd _ _ (by omega), Dle.refl _ _, trivial⟩
  have lfB : (¬ 3 ≤ n ∨ b1 = false ∨ ¬ J1 ≠ s.extract 0 ((s.size : Int) - (t.size : Int)).toNat) → 2 ≤ n → b2 = true → J2 ≠ s.extract 0 ((s.size : Int) - (t.size : Int)).toNat → Dle (cx Tryd.prog mixed tyT_ok E) (.tup [dS J2, dS (l.getD ((l.length : Int) - 1).toNat ⟨#[]⟩), dB true]) R := fun g g1 g2 g3 => by
    rw [hR, if_neg (no1 g), if_pos ⟨g1, g2, g3⟩]
    exact Dle.tup (X := (cx Tryd.prog mixed tyT_ok E)) ⟨Dle.refl _ _, gd _ _ (by omega), Dle.refl _ _, trivial⟩
  have lfC : (¬ 3 ≤ n ∨ b1 = false ∨ ¬ J1 ≠ s.extract 0 ((s.size : Int) - (t.size : Int)).toNat) → (¬ 2 ≤ n ∨ b2 = false ∨ ¬ J2 ≠ s.extract 0 ((s.size : Int) - (t.size : Int)).toNat) → Dle (cx Tryd.prog mixed tyT_ok E) (.tup [dS ⟨#[]⟩, dS ⟨#[]⟩, dB false]) R := fun g g1 => by
    rw [hR, if_neg (no1 g), if_neg (no1 g1)]
    exact Dle.refl _ _
  clear hR
  refine Sp.bodyZ 9 6 Tryd.func7 (by kernel_rfl) rfl (by kernel_rfl) (by kernel_rfl) (by kernel_rfl) (by kernel_rfl) ?_
  repeat' first
    | refine Or.inr ⟨_, _, _, Or.inl ((SpH.args k1 ⟨hsl _ _ _ (by omega) (by omega) (fun _ _ => rfl), trivial⟩)), by kernel_rfl, (by repeat' first | exact trivial | exact rfl | kernel_rfl | exact Dle.of_eq rfl | exact MLe.of_eq rfl | exact Dle.i (by omega) | exact Dle.i (by simp only [Int.toNat_natCast] at *; omega) | exact Dle.nil | exact Dle.rc Dle.nil | exact Option.some_ne_none _ | exact Or.inl rfl | exact Or.inr trivial | omega | (simp only [Int.toNat_natCast] at *; omega) | (intro _ _ _ _; exact Dle.of_eq rfl) | refine And.intro ?_ ?_), ?_⟩
    | (refine codeW_cond rfl ?_; first | (refine condW_dec ?_ ?_ <;> intro _ <;> try (exfalso; omega)) | refine condW_not ?_ | (refine condW_bool ?_ ?_ <;> intro _ <;> try (exfalso; omega)))
    | (refine facW_intro ?_; intro _)
    | refine Or.inl ?_
    | ((conv => whnf); first | (refine condW_dec ?_ ?_ <;> intro _ <;> try (exfalso; omega)) | refine condW_not ?_ | (refine condW_bool ?_ ?_ <;> intro _ <;> try (exfalso; omega)) | (refine nbC_t (fun _ => ?_) ?_) | (refine nbC_f ?_ (fun _ => ?_)))
    | refine And.intro (by first | omega | (simp only [Int.toNat_natCast] at *; omega) | (simp only [Nat.reduceAdd, Int.cast_ofNat_Int, true_and, and_true]; omega)  | kernel_rfl) ?_
    | refine RegW.run ?_
    | refine ⟨_, h1, ?_⟩
    | refine ⟨_, h2, ?_⟩
    | refine ⟨_, hx1.args ⟨gd _ _ (by omega), trivial⟩, ?_⟩
    | refine ⟨_, hx2.args ⟨gd _ _ (by omega), trivial⟩, ?_⟩
    | refine ⟨_, hj1.args ⟨hsl _ _ _ (by omega) (by omega) (fun _ _ => rfl), Dle.refl _ _, trivial⟩, ?_⟩
    | refine ⟨_, hj2.args ⟨hsl _ _ _ (by omega) (by omega) (fun _ _ => rfl), Dle.refl _ _, trivial⟩, ?_⟩
    | refine ⟨_, hj3.args ⟨hap _ _ rfl (fun _ _ => rfl), Dle.refl _ _, trivial⟩, ?_⟩
    | fail
  all_goals first
    | (exfalso; omega)
    | exact lfA (by omega) (by assumption) (by assumption)
    | exact lfB (by first | exact .inl (by omega) | exact .inr (.inl (by simpa using ‹_›)) | exact .inr (.inr (fun g => g (by assumption)))) (by omega) (by assumption) (by assumption)
    | exact lfC (by first | exact .inl (by omega) | exact .inr (.inl (by simpa using ‹_›)) | exact .inr (.inr (fun g => g (by assumption)))) (by first | exact .inl (by omega) | exact .inr (.inl (by simpa using ‹_›)) | exact .inr (.inr (fun g => g (by assumption))))
    | trace_state
end
end na
end Go.Proofs.YteojgenhgjhohaaDoor
