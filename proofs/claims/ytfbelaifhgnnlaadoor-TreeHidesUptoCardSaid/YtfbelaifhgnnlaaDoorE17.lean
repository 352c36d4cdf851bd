/-
  A call's code does what 'codeW' says; a function's contract out of it, over any program.
-/
import Derived.Test.YtfbelaifhgnnlaaDoorE16
namespace Go.Proofs.YtfbelaifhgnnlaaDoor
open Go.RowKit
set_option linter.unusedVariables false
set_option linter.unusedSimpArgs false

section
variable {κ : Type} {X : Cx κ} {M0 M : Nat → Nat → Prop} {w0 w : World} {N : Nat} {β : Nat → Nat} {γ : Nat → Option Grp} {σ σ' : St κ} {a : Act}

/-- A loop, by a measure of the states. -/
theorem wp_loop_n {P : Program} {Q : Exit → Act → World → Prop} {c : Code} (I : Nat → Act → World → Prop) (round : ∀ n a w, I n a w → c.wp P (Exit.then (fun a' w' => ∃ m, m < n ∧ I m a' w') Q) a w) : ∀ n a w, I n a w → (Code.loop c).wp P Q a w := by
  intro n a w h0 b k cs
  have key : ∀ n a w, I n a w → ∃ e a' w', Q e a' w' ∧ Arrives P (lone (b.at a (.code c :: .inLoop c :: k)) cs w) b k cs e a' w' := by
    intro n
    induction n using Nat.strongRecOn with
    | _ n ih =>
      intro a w hI
      obtain ⟨e, a₁, w₁, hq, harr⟩ := round n a w hI b (.inLoop c :: k) cs
      cases e with
      | normal =>
        obtain ⟨m, hlt, hI₁⟩ := hq
        obtain ⟨e₂, a₂, w₂, hq₂, harr₂⟩ := ih m hlt a₁ w₁ hI₁
        exact ⟨e₂, a₂, w₂, hq₂, .of_steps (Steps.trans harr (.one step_inLoop)) harr₂⟩
      | exit id => exact ⟨_, a₁, w₁, hq, .pass (x := .inLoop c) rfl (fun _ _ => .inl (by simp)) harr⟩
      | goto l => exact ⟨_, a₁, w₁, hq, .pass (x := .inLoop c) rfl (fun _ _ => .inl (by simp)) harr⟩
      | ret => exact ⟨_, a₁, w₁, hq, .pass (x := .inLoop c) rfl (fun _ _ => .inl (by simp)) harr⟩
      | panic ch => exact ⟨_, a₁, w₁, hq, .pass (x := .inLoop c) rfl (fun _ _ => .inl (by simp)) harr⟩
      | outgrown => exact ⟨_, a₁, w₁, hq, .pass (x := .inLoop c) rfl (fun _ _ => .inl (by simp)) harr⟩
  obtain ⟨e, a', w', hq, harr⟩ := key n a w h0
  exact ⟨e, a', w', hq, .of_steps (.one step_loop) harr⟩

theorem head_fr {W : List Nat} {L : List (Nat × D κ × Option Tg)} {B : List (Nat × List (D κ))} {keep : List Nat} {C : List (Nat × List (Nat × Nat × Nat))} : Fr W σ (σ.head W L B keep C) := by
  refine ⟨fun i hi => ?_, fun i l o hi hl ht => ?_⟩
  · simp only [St.head, hi]
  · simp only [St.head, hi, ht, hl]

theorem wl {x y : List Nat} {k : Nat} (h : k ∈ x) : k ∈ x ++ y := List.mem_append_left _ h

theorem code_sound (hG : X.G w0) : ∀ (c : Code) (Q : Exit → St κ → Prop), codeOk N c = true → ∀ (M : Nat → Nat → Prop) (β : Nat → Nat) (γ : Nat → Option Grp) (σ : St κ) (a : Act) (w : World), Sim X M0 w0 N M β γ σ a w → codeW X c Q σ →
    c.wp X.P (fun e a w => PostF X M0 w0 N (writes c) σ (Q e) a w) a w
  | .skip, Q, _, M, β, γ, σ, a, w, h, hW => wp_skip ⟨M, β, γ, σ, h, hW, Fr.refl _ _⟩
  | .label l, Q, _, M, β, γ, σ, a, w, h, hW => wp_label ⟨M, β, γ, σ, h, hW, Fr.refl _ _⟩
  | .exit id, Q, _, M, β, γ, σ, a, w, h, hW => wp_exit ⟨M, β, γ, σ, h, hW, Fr.refl _ _⟩
  | .goto l, Q, _, M, β, γ, σ, a, w, h, hW => wp_goto ⟨M, β, γ, σ, h, hW, Fr.refl _ _⟩
  | .ret, Q, _, M, β, γ, σ, a, w, h, hW => wp_ret ⟨M, β, γ, σ, h, hW, Fr.refl _ _⟩
  | .region id ops draw, Q, hok, M, β, γ, σ, a, w, h, hW => by
    cases draw with
    | true =>
      have hW : opsWd X ops.toList (Q .normal) ops.toList [] σ := hW
      have hokl : ∀ o ∈ ops.toList, opOk N o = true := fun o ho => List.all_eq_true.1 hok o ho
      have hl : ops.toList.toArray = ops := by simp
      have h0 := h.grow (w' := { w with drawn := w.drawn + 1 }) (M' := M) ⟨rfl, rfl, rfl, Nat.le_refl _, fun _ _ => rfl⟩ (fun _ _ hm => hm) (fun _ _ hm => .inl hm)
      obtain ⟨σf, bs, hr, hbl, hdr, hK⟩ := runs_of hG ops.toList [] hokl M β γ σ a _ h0 hW
      have hdr : drawOk ops.toList bs = true := hdr
      have hfr := runs_fr (W := writes (.region id ops true)) (fun o ho k hk => List.mem_flatMap.2 ⟨o.1, (List.of_mem_zip ho).1, hk⟩) hr
      refine wp_region_any X.mixed ?_
      have hleft : left ops.toList (Array.replicate ops.size false) = List.range ops.toList.length := by
        unfold left
        refine List.filter_eq_self.2 fun i hi => ?_
        have : i < ops.size := by simpa using hi
        simp [Array.getD, this]
      have hmap : ((List.range ops.toList.length).filterMap fun i => (ops.toList[i]?).map fun o => (o, bs.getD i none)) = ops.toList.zip bs := by
        have hg : ∀ (l : List Oper) (bs : List (Option Nat)), bs.length = l.length → ((List.range l.length).filterMap fun i => (l[i]?).map fun o => (o, bs.getD i none)) = l.zip bs := by
          intro l
          induction l with
          | nil => intro bs hb; rfl
          | cons x xs ih =>
            intro bs hb
            match bs, hb with
            | b :: bs, hb =>
              rw [List.length_cons, List.range_succ_eq_map, List.filterMap_cons, List.zip_cons_cons, ← ih bs (by simpa using hb)]
              simp only [List.getElem?_cons_zero, List.filterMap_map, Option.map_some]
              congr 1
        exact hg _ _ hbl
      have := any_sound hG (ops := ops.toList) (Q := fun e a w => PostF X M0 w0 N (writes (.region id ops true)) σ (Q e) a w) hokl hdr (fun M' β' γ' a' w' hs => ⟨M', β', γ', σf, hs, hK, hfr⟩) ops.size (Array.replicate ops.size false) M β γ σ a _ (by simp)
        (fun i o ho hi => by
          have : (Array.replicate ops.size false).getD i false = false := by
            by_cases h : i < ops.size
            · simp [Array.getD, h]
            · simp [Array.getD, h]
          rw [this] at hi
          cases hi) (by rw [hleft]; simp) h0 (by rw [hleft, hmap]; exact hr)
      rwa [hl] at this
    | false =>
      refine wp_region_list ?_
      have hl : ops = ops.toList.toArray := by simp
      have hW : RegW X ops.toList (Q .normal) ops.toList σ := by
        simp only [codeW] at hW
        split at hW
        · exact hW
        · exact .run hW
      have := regW_sound hG (all := ops.toList) (K := Q .normal) (W := writes (.region id ops false)) (σ0 := σ) (Q := fun e a w => PostF X M0 w0 N (writes (.region id ops false)) σ (Q e) a w) (fun _ _ h => h) hW
        (fun o ho => List.all_eq_true.1 hok o ho) (fun o ho k hk => List.mem_flatMap.2 ⟨o, ho, hk⟩) M β γ a w h (Fr.refl _ _)
      rwa [← hl] at this
  | .cond c t f, Q, hok, M, β, γ, σ, a, w, h, hW => by
    simp only [codeOk, Bool.and_eq_true] at hok
    simp only [codeW] at hW
    split at hW
    · rename_i b hb
      have h1 := h.ev c
      rw [hb] at h1
      obtain ⟨h2, _⟩ := h1.val
      refine wp_cond h2 ?_
      rcases condW_spec hW with ⟨rfl, hW⟩ | ⟨rfl, hW⟩
      · exact wp_mono (code_sound hG t Q hok.1 M β γ σ a w h hW) (fun e a w ⟨M', β', γ', σ', h1, h2, h3⟩ => ⟨M', β', γ', σ', h1, h2, h3.left⟩)
      · exact wp_mono (code_sound hG f Q hok.2 M β γ σ a w h hW) (fun e a w ⟨M', β', γ', σ', h1, h2, h3⟩ => ⟨M', β', γ', σ', h1, h2, h3.right⟩)
    · exact hW.elim
  | .block id b, Q, hok, M, β, γ, σ, a, w, h, hW => by
    refine wp_block (wp_mono (code_sound hG b _ hok M β γ σ a w h hW) (fun e a w ⟨M', β', γ', σ', h1, h2, h3⟩ => ?_))
    cases e with
    | exit i =>
      simp only at h2
      by_cases hi : i = id
      · subst hi
        simp only [beq_yes] at h2
        simp only [Exit.inBlock, if_true]
        exact ⟨M', β', γ', σ', h1, h2, h3⟩
      · simp only [beq_no hi] at h2
        simp only [Exit.inBlock, if_neg hi]
        exact ⟨M', β', γ', σ', h1, h2, h3⟩
    | _ => exact ⟨M', β', γ', σ', h1, h2, h3⟩
  | .loop b, Q, hok, M, β, γ, σ, a, w, h, hW => by
    obtain ⟨ι, L, B, keep, C, inv, μ, ⟨x, hix, hx⟩, hround⟩ := hW
    obtain ⟨γ', h0⟩ := h.head (W := writes b) (Fr.refl _ _) hx
    refine wp_loop_n (fun n a w => ∃ x, inv x ∧ μ x = n ∧ ∃ M β γ, Sim X M0 w0 N M β γ (σ.head (writes b) (L x) (B x) keep C) a w) ?_ (μ x) a w ⟨x, hix, rfl, M, β, γ', h0⟩
    rintro n a w ⟨x, hix, rfl, M, β, γ, hs⟩
    refine wp_mono (code_sound hG b _ hok M β γ _ a w hs (hround x hix)) (fun e a w ⟨M', β', γ', σ', h1, h2, h3⟩ => ?_)
    have hf : Fr (writes b) σ σ' := head_fr.trans h3
    cases e with
    | normal =>
      simp only at h2
      obtain ⟨y, hiy, hy, hlt⟩ := h2
      obtain ⟨γ2, h4⟩ := h1.head hf hy
      exact ⟨μ y, hlt, y, hiy, rfl, M', β', γ2, h4⟩
    | _ => exact ⟨M', β', γ', σ', h1, h2, hf⟩
  | .seq x y, Q, hok, M, β, γ, σ, a, w, h, hW => by
    simp only [codeOk, Bool.and_eq_true] at hok
    have direct : codeW X x (fun e σ' => match e with | .normal => codeW X y Q σ' | e => Q e σ') σ → (Code.seq x y).wp X.P (fun e a w => PostF X M0 w0 N (writes (.seq x y)) σ (Q e) a w) a w := by
      intro hW
      refine wp_seq (wp_mono (code_sound hG x _ hok.1 M β γ σ a w h hW) (fun e a w ⟨M', β', γ', σ', h1, h2, h3⟩ => ?_))
      cases e with
      | normal =>
        simp only at h2
        exact wp_mono (code_sound hG y Q hok.2 M' β' γ' σ' a w h1 h2) (fun e a w ⟨M2, β2, γ2, σ2, g1, g2, g3⟩ => ⟨M2, β2, γ2, σ2, g1, g2, h3.left.trans g3.right⟩)
      | _ => exact ⟨M', β', γ', σ', h1, h2, h3.left⟩
    have cut : (∃ (ι : Type) (L : ι → List (Nat × D κ × Option Tg)) (B : ι → List (Nat × List (D κ))) (keep : List Nat) (C : List (Nat × List (Nat × Nat × Nat))) (inv : ι → Prop),
          codeW X x (fun e σ' => match e with | .normal => ∃ y, inv y ∧ HeadOk X σ (L y) (B y) keep C σ' | e => Q e σ') σ ∧ ∀ z, inv z → codeW X y Q (σ.head (writes x) (L z) (B z) keep C)) → (Code.seq x y).wp X.P (fun e a w => PostF X M0 w0 N (writes (.seq x y)) σ (Q e) a w) a w := by
      rintro ⟨ι, L, B, keep, C, inv, hW, hy⟩
      refine wp_seq (wp_mono (code_sound hG x _ hok.1 M β γ σ a w h hW) (fun e a w ⟨M', β', γ', σ', h1, h2, h3⟩ => ?_))
      cases e with
      | normal =>
        simp only at h2
        obtain ⟨z, hiz, hz⟩ := h2
        obtain ⟨γ2, h4⟩ := h1.head h3 hz
        exact wp_mono (code_sound hG y Q hok.2 M' β' γ2 _ a w h4 (hy z hiz)) (fun e a w ⟨M2, β2, γ2, σ2, g1, g2, g3⟩ => ⟨M2, β2, γ2, σ2, g1, g2, (head_fr (W := writes x)).left.trans g3.right⟩)
      | _ => exact ⟨M', β', γ', σ', h1, h2, h3.left⟩
    unfold codeW at hW
    split at hW
    · exact hW.elim direct cut
    · exact direct hW
  | .scope b, Q, hok, M, β, γ, σ, a, w, h, hW => hW.elim
  | .rangeFunc _ _ _ _, Q, hok, M, β, γ, σ, a, w, h, hW => hW.elim
  | .refuse _, Q, hok, M, β, γ, σ, a, w, h, hW => hW.elim

/-! ## A function's contract -/

/-- What the result's variables hold. -/
def resW (X : Cx κ) (σ : St κ) : ResultVar → (D κ → Prop) → Prop
  | .tmp t, K => fD (σ.fr t) K
  | .cell t ty, K => match σ.tg (.s t) with
    | some (.ptr l off) => match σ.bx l with
      | some cs => condW (X.T ty).known (partW (X.T ty) off cs K) False
      | none => False
    | _ => False
/-- The results are d. -/
def retW (X : Cx κ) (fn : Func) (d : D κ) (σ : St κ) : Prop :=
  match fn.results.toList with
  | [] => Dle X (.tup []) d
  | [r] => resW X σ r fun e => Dle X e d
  | [r, s] => resW X σ r fun e => resW X σ s fun e' => Dle X (.tup [e, e']) d
  | [r, s, t] => resW X σ r fun e => resW X σ s fun e' => resW X σ t fun e'' => Dle X (.tup [e, e', e'']) d
  | [r, s, t, u] => resW X σ r fun e => resW X σ s fun e' => resW X σ t fun e'' => resW X σ u fun e3 => Dle X (.tup [e, e', e'', e3]) d
  | _ => False
def bodyW (X : Cx κ) (fn : Func) (d : D κ) : Exit → St κ → Prop
  | .normal, σ => retW X fn d σ
  | .ret, σ => retW X fn d σ
  | _, _ => False
/-- The state in which a call begins. -/
def start (ds : List (D κ)) : St κ where
  fr := fun i => ds.getD i .opq
  tg := fun _ => none
  bx := fun _ => none

def resSem (tmps : Array Value) : ResultVar → Sem Value
  | .tmp t => pure (tmps.getD t undef)
  | .cell b t => do loadVar t (← asAddr (tmps.getD b undef))
theorem results_eq (fn : Func) (tmps : Array Value) : results fn tmps = (do
    let vs ← fn.results.mapM (resSem tmps)
    pure (if h : vs.size = 1 then vs[0] else .tuple vs)) := by
  unfold results
  congr 1
theorem res_run (h : Sim X M0 w0 N M β γ σ a w) {r : ResultVar} {K : D κ → Prop} (hW : resW X σ r K) : ∃ x d, (resSem a.tmps r).run X.P w = .ok x w ∧ Rep X.V M w d x ∧ K d := by
  cases r with
  | tmp t =>
    simp only [resW, fD_eq] at hW
    exact ⟨_, _, rfl, h.fr t, hW⟩
  | cell t ty =>
    simp only [resW] at hW
    split at hW
    · rename_i l off ht
      split at hW
      · rename_i cs hb
        obtain ⟨hk, hW⟩ := condW_no hW
        obtain ⟨arr, T, h1, h2⟩ := box_cells h hb
        have hp0 : a.tmps.getD t undef = .pointer (some ⟨β l, off, none⟩) := h.tp t l off ht (by rw [hb]; exact fun h => by cases h)
        have hne := TyI.known_ne hk
        have hget : ∀ j, j < cs.length → w.cell? ⟨β l, j, none⟩ = some (arr.getD j undef) := fun j hj => by
          rw [cell_of_row _ _ _ _ _ _ h1]
          have : j < arr.size := by rw [h2.n]; exact hj
          simp [Array.getD, this]
        have := load_gives (X := X) (M := M) (w := w) (t := ty) (b := β l) (o := 0) (n := cs.length) (f := fun j => cs.getD j .opq) (K := K) (fun j => arr.getD j undef) hne (fun j hj => ⟨by rw [Nat.zero_add]; exact hget j hj, h2.o j hj⟩) (fun j hj => h2.r j _ (by simp [List.getD, List.getElem?_eq_getElem hj])) off cs (by
          apply List.ext_getElem?
          intro j
          rw [List.getElem?_map]
          by_cases hj : j < cs.length
          · rw [List.getElem?_range hj]; simp [List.getD, List.getElem?_eq_getElem hj]
          · rw [List.getElem?_eq_none (by omega), List.getElem?_eq_none (by simp; omega)]; rfl) hW
        obtain ⟨x, d, hx, hr, hK⟩ := this
        rw [Nat.zero_add] at hx
        refine ⟨x, d, ?_, hr, hK⟩
        simp only [resSem, hp0]
        simpa [asAddr] using hx
      · exact hW.elim
    · exact hW.elim

theorem ret_run (h : Sim X M0 w0 N M β γ σ a w) {fn : Func} {d : D κ} (hW : retW X fn d σ) : ∃ x, (results fn a.tmps).run X.P w = .ok x w ∧ Rep X.V M w d x := by
  unfold retW at hW
  have two : ∀ (ds : List (D κ)) (vs : List Value), ds.length = vs.length → (∀ i e, ds[i]? = some e → Rep X.V M w e (vs.getD i undef)) → Rep X.V M w (.tup ds) (.tuple vs.toArray) := fun ds vs hl hr => .tup (by simp [hl]) (fun i e hi => by simpa using hr i e hi)
  have hall : fn.results = fn.results.toList.toArray := by simp
  rw [results_eq, hall]
  split at hW
  · rename_i e
    rw [e]
    refine ⟨.tuple #[], by simp, hW M w _ (two [] [] rfl (fun i e h => by simp at h))⟩
  · rename_i r e
    rw [e]
    obtain ⟨x, d1, hx, hr, hK⟩ := res_run h hW
    refine ⟨x, ?_, hK M w x hr⟩
    simp [hx]
  · rename_i r s e
    rw [e]
    obtain ⟨x, d1, hx, hr, hK⟩ := res_run h hW
    obtain ⟨y, d2, hy, hr2, hK⟩ := res_run h hK
    refine ⟨.tuple #[x, y], ?_, hK M w _ (two [d1, d2] [x, y] rfl (fun i e hi => ?_))⟩
    · simp [hx, hy]
    · match i, hi with
      | 0, hi => simp only [List.getElem?_cons_zero, Option.some.injEq] at hi; subst hi; exact hr
      | 1, hi => simp only [List.getElem?_cons_succ, List.getElem?_cons_zero, Option.some.injEq] at hi; subst hi; exact hr2
  · rename_i r s t e
    rw [e]
    obtain ⟨x, d1, hx, hr, hK⟩ := res_run h hW
    obtain ⟨y, d2, hy, hr2, hK⟩ := res_run h hK
    obtain ⟨z, d3, hz, hr3, hK⟩ := res_run h hK
    refine ⟨.tuple #[x, y, z], ?_, hK M w _ (two [d1, d2, d3] [x, y, z] rfl (fun i e hi => ?_))⟩
    · simp [hx, hy, hz]
    · match i, hi with
      | 0, hi => simp only [List.getElem?_cons_zero, Option.some.injEq] at hi; subst hi; exact hr
      | 1, hi => simp only [List.getElem?_cons_succ, List.getElem?_cons_zero, Option.some.injEq] at hi; subst hi; exact hr2
      | 2, hi => simp only [List.getElem?_cons_succ, List.getElem?_cons_zero, Option.some.injEq] at hi; subst hi; exact hr3
  · rename_i r s t u e
    rw [e]
    obtain ⟨x, d1, hx, hr, hK⟩ := res_run h hW
    obtain ⟨y, d2, hy, hr2, hK⟩ := res_run h hK
    obtain ⟨z, d3, hz, hr3, hK⟩ := res_run h hK
    obtain ⟨q, d4, hq, hr4, hK⟩ := res_run h hK
    refine ⟨.tuple #[x, y, z, q], ?_, hK M w _ (two [d1, d2, d3, d4] [x, y, z, q] rfl (fun i e hi => ?_))⟩
    · simp [hx, hy, hz, hq]
    · match i, hi with
      | 0, hi => simp only [List.getElem?_cons_zero, Option.some.injEq] at hi; subst hi; exact hr
      | 1, hi => simp only [List.getElem?_cons_succ, List.getElem?_cons_zero, Option.some.injEq] at hi; subst hi; exact hr2
      | 2, hi => simp only [List.getElem?_cons_succ, List.getElem?_cons_zero, Option.some.injEq] at hi; subst hi; exact hr3
      | 3, hi => simp only [List.getElem?_cons_succ, List.getElem?_cons_zero, Option.some.injEq] at hi; subst hi; exact hr4
  · exact hW.elim

/-- A function's contract, out of what its code does. -/
theorem Sp.body {X : Cx κ} {f : FuncId} {fn : Func} {c : Code} {ds : List (D κ)} {d : D κ} (hf : X.P.funcs[f]? = some fn) (hname : (fn.name == "runtime.NumGoroutine") = false) (hb : fn.body = some c) (hn : Nat.ble ds.length fn.ntmps = true) (hok : codeOk fn.ntmps c = true) (hW : codeW X c (bodyW X fn d) (start ds)) : Sp X f ds d := by
  refine ⟨⟨fn, c, hf, hname, hb⟩, fun M w vs hG hM hl hr => ?_⟩
  have hn := Nat.le_of_ble_eq_true hn
  refine calls_of_wp hf hb ?_
  have hs : Sim X M w fn.ntmps M (fun _ => 0) (fun _ => none) (start ds) { tmps := vs ++ Array.replicate (fn.ntmps - vs.size) undef, defers := [] } w := by
    refine ⟨Below.refl _ _, rfl, by simp; omega, fun _ _ h => h, fun _ _ h => .inl h, hM, ?_, ?_, ?_, ?_, ?_, ?_, ?_, ?_, ?_, ?_, ?_⟩
    · intro i
      show Rep X.V M w (ds.getD i .opq) _
      by_cases hi : i < ds.length
      · have h1 := hr i ds[i] (List.getElem?_eq_getElem hi)
        have h2 : ds.getD i .opq = ds[i] := by simp [List.getD, List.getElem?_eq_getElem hi]
        rw [h2]
        have h3 : (vs ++ Array.replicate (fn.ntmps - vs.size) undef).getD i undef = vs.getD i undef := by
          have : i < vs.size := by omega
          simp [Array.getD, this, Array.getElem_append_left this]
          intro h4
          omega
        rw [h3]
        exact h1
      · have h2 : ds.getD i (.opq : D κ) = .opq := by simp [List.getD, List.getElem?_eq_none (by omega : ds.length ≤ i)]
        rw [h2]
        exact .opq
    all_goals (intros; first | contradiction | (simp [start] at *))
  refine wp_mono (code_sound hG c _ hok M _ _ _ _ w hs hW) (fun e a w' hp => ?_)
  obtain ⟨M', β', γ', σ', h1, h2, h3⟩ := hp
  have fin : retW X fn d σ' → a.defers = [] ∧ ∃ v, (results fn a.tmps).run X.P w' = .ok v w' ∧ ∃ x, (Ending.returned v) = .returned x ∧ Below w.heap.size w w' ∧ Rep X.V (MX M w w') w' d x := by
    intro hret
    obtain ⟨x, hx, hrx⟩ := ret_run h1 hret
    refine ⟨h1.df, x, hx, x, rfl, h1.below, hrx.mono (fun b o hm => ?_) (fun _ _ _ => rfl)⟩
    rcases h1.mN b o hm with hm' | hm'
    · exact .inl hm'
    · exact .inr ⟨hm', h1.mlt b o hm⟩
  cases e with
  | normal => exact fin h2
  | ret => exact fin h2
  | exit id => exact h2.elim
  | goto l => exact h2.elim
  | panic c => exact h2.elim
  | outgrown => exact h2.elim

theorem Dle.v {X : Cx κ} {x y : Value} (h : x = y) : Dle X (.v x) (.v y) := h ▸ Dle.refl X _
theorem Dle.i {X : Cx κ} {k : IntKind} {a b : Int} (h : a = b) : Dle X (.v (.int k a)) (.v (.int k b)) := h ▸ Dle.refl X _
theorem Dle.bo {X : Cx κ} {a b : Bool} (h : a = b) : Dle X (.v (.bool a)) (.v (.bool b)) := h ▸ Dle.refl X _
theorem Dle.s {X : Cx κ} {a b : ByteArray} (h : a = b) : Dle X (.v (.string a)) (.v (.string b)) := h ▸ Dle.refl X _
theorem Dle.sl {X : Cx κ} {sz b n n' : Nat} {f g : Nat → Nat → D κ} (hn : n = n') (h : ∀ i j, i < n → j < sz → Dle X (f i j) (g i j)) : Dle X (.sl sz b n f) (.sl sz b n' g) := by
  subst hn
  intro M w x hr
  cases hr with
  | nil hc hA => exact .nil hc hA
  | sl u hc hm hb hu hf => exact .sl u hc hm hb hu (fun i j hi hj => h i j hi hj _ _ _ (hf i j hi hj))
theorem Dle.nil {X : Cx κ} {sz b : Nat} {f : Nat → Nat → D κ} : Dle X (.v (.slice none 0 0)) (.sl sz b 0 f) := by
  intro M w x hr
  obtain ⟨rfl, _⟩ := hr.val
  exact .nil (by decide) (fun _ => rfl)
theorem Dle.tup {X : Cx κ} {ds es : List (D κ)} (h : cellsOk X ds es) : Dle X (.tup ds) (.tup es) := by
  intro M w x hr
  obtain ⟨h1, h2⟩ := cellsOk_spec h
  cases hr with
  | tup hn hd =>
    refine .tup (by omega) (fun i e he => ?_)
    obtain ⟨d, hd1, hle⟩ := h2 i e he
    exact hle _ _ _ (hd i d hd1)
theorem Dle.agg {X : Cx κ} {ds es : List (D κ)} (h : cellsOk X ds es) : Dle X (.agg ds) (.agg es) := by
  intro M w x hr
  obtain ⟨h1, h2⟩ := cellsOk_spec h
  cases hr with
  | agg hn ho hd =>
    refine .agg (by omega) (fun i hi => ho i (by omega)) (fun i e he => ?_)
    obtain ⟨d, hd1, hle⟩ := h2 i e he
    exact hle _ _ _ (hd i d hd1)
theorem Dle.trans {X : Cx κ} {d e f : D κ} (h : Dle X d e) (g : Dle X e f) : Dle X d f := fun M w x hr => g M w x (h M w x hr)
theorem Dle.rc {X : Cx κ} {k : κ} {d : D κ} (h : Dle X d (.sl (X.V k).1 (X.V k).2.1 (X.V k).2.2.1 (X.V k).2.2.2)) : Dle X d (.rc k) := fun M w x hr => .rc (h M w x hr)
theorem Dle.opq {X : Cx κ} {d : D κ} : Dle X d .opq := fun _ _ _ _ => .opq
/-- A contract's result may be told with less. -/
theorem Sp.le {X : Cx κ} {f : FuncId} {ds : List (D κ)} {d e : D κ} (h : Sp X f ds d) (hle : Dle X d e) : Sp X f ds e :=
  ⟨h.1, fun M w vs hG hM hl hr => (h.2 M w vs hG hM hl hr).mono fun e' w' ⟨x, hx, hb, hr'⟩ => ⟨x, hx, hb, hle _ _ _ hr'⟩⟩
/-- A contract's arguments may be told with more. -/
theorem Sp.args {X : Cx κ} {f : FuncId} {ds es : List (D κ)} {d : D κ} (h : Sp X f es d) (hle : cellsOk X ds es) : Sp X f ds d := by
  obtain ⟨h1, h2⟩ := cellsOk_spec hle
  refine ⟨h.1, fun M w vs hG hM hl hr => h.2 M w vs hG hM (by omega) (fun i e he => ?_)⟩
  obtain ⟨d', hd1, hle'⟩ := h2 i e he
  exact hle' _ _ _ (hr i d' hd1)
theorem Dle.ap {X : Cx κ} {d e : D κ} (h : Dle X d e) {M : Nat → Nat → Prop} {w : World} {x : Value} (hr : Rep X.V M w d x) : Rep X.V M w e x := h M w x hr
end
end Go.Proofs.YtfbelaifhgnnlaaDoor
