/-
  What a code does to a call's state, as data, over any program: it does what 'codeW' says.
-/
import Derived.Test.YteojgenhgjhohaaDoorN15
namespace Go.Proofs.YteojgenhgjhohaaDoor
open Go.RowKit
set_option linter.unusedVariables false
set_option linter.unusedSimpArgs false

section
variable {κ : Type} {X : Cx κ} {M0 M : Nat → Nat → Prop} {S0 : Ln} {w0 w : World} {N : Nat} {β : Bt} {σ σ' : St κ} {a : Act}

def longB (ops : List Oper) : Bool := Nat.ble 14 (ops.filter (fun o => o.guard.isSome)).length
def cutB : Code → Bool
  | .cond _ _ _ => true
  | .region _ ops _ => Nat.ble 3 (ops.toList.filter (fun o => o.guard.isSome)).length
  | _ => false
def MeetW (X : Cx κ) (σ : St κ) (W : List Nat) (pre : (St κ → Prop) → Prop) (post : St κ → Prop) : Prop :=
  ∃ (ι : Type) (L : ι → List (Nat × D κ)) (O : ι → List (Nat × Ob κ)) (keep : List Nat) (R : ι → Rws κ) (inv : ι → Prop),
    pre (fun σ' => ∃ y, inv y ∧ HeadOk X σ W (L y) (O y) keep (R y) σ') ∧ ∀ y, inv y → post (σ.head W (L y) (O y) keep (R y))
@[irreducible] def nbC (q : Bool) (n : Nat) (A B : Prop) : Prop := ∀ b : Bool, (b = q → n = 0) → condW b A B
theorem nbC_t {n : Nat} {A B : Prop} (h : n = 0 → A) (g : B) : nbC true n A B := by
  unfold nbC
  intro b hb
  cases b
  · exact g
  · exact h (hb rfl)
theorem nbC_f {n : Nat} {A B : Prop} (h : A) (g : n = 0 → B) : nbC false n A B := by
  unfold nbC
  intro b hb
  cases b
  · exact g (hb rfl)
  · exact h
theorem nbC_spec {q : Bool} {n : Nat} {A B : Prop} (h : nbC q n A B) : ∀ b : Bool, (b = q → n = 0) → condW b A B := by
  unfold nbC at h
  exact h
def codeW (X : Cx κ) : Code → (Exit → St κ → Prop) → St κ → Prop
  | .skip, Q, σ => Q .normal σ
  | .label _, Q, σ => Q .normal σ
  | .region _ ops draw, Q, σ => match draw with
    | false => match longB ops.toList with
      | true => RegW X ops.toList (Q .normal) ops.toList σ
      | false => opsW X ops.toList (Q .normal) ops.toList σ
    | true => opsWd X ops.toList (openW (Q .normal) (mapL ops.toList)) ops.toList [] σ
  | .seq a b, Q, σ => match cutB a with
    | true => codeW X a (fun e σ' => match e with | .normal => codeW X b Q σ' | e => Q e σ') σ ∨
        MeetW X σ (writes a) (fun K => codeW X a (fun e σ' => match e with | .normal => K σ' | e => Q e σ') σ) (codeW X b Q)
    | false => codeW X a (fun e σ' => match e with | .normal => codeW X b Q σ' | e => Q e σ') σ
  | .cond c t f, Q, σ => match σ.ev c with
    | .v (.bool b) => condW b (codeW X t Q σ) (codeW X f Q σ)
    | .nb q n => nbC q n (codeW X t Q σ) (codeW X f Q σ)
    | _ => False
  | .block id b, Q, σ => codeW X b (fun e σ' => match e with | .exit i => (match Nat.beq i id with | true => Q .normal σ' | false => Q (.exit i) σ') | e => Q e σ') σ
  | .loop b, Q, σ => ∃ (ι : Type) (L : ι → List (Nat × D κ)) (O : ι → List (Nat × Ob κ)) (keep : List Nat) (R : ι → Rws κ) (inv : ι → Prop) (μ : ι → Nat),
      (∃ x, inv x ∧ HeadOk X σ (writes b) (L x) (O x) keep (R x) σ) ∧ ∀ x, inv x → codeW X b (fun e σ' => match e with | .normal => ∃ y, inv y ∧ HeadOk X σ (writes b) (L y) (O y) keep (R y) σ' ∧ μ y < μ x | e => Q e σ') (σ.head (writes b) (L x) (O x) keep (R x))
  | .exit id, Q, σ => Q (.exit id) σ
  | .goto l, Q, σ => Q (.goto l) σ
  | .ret, Q, σ => Q .ret σ
  | _, _, _ => False
def codeOk (N : Nat) : Code → Bool
  | .region _ ops _ => ops.toList.all (opOk N)
  | .seq a b => codeOk N a && codeOk N b
  | .cond _ a b => codeOk N a && codeOk N b
  | .block _ b => codeOk N b
  | .loop b => codeOk N b
  | .scope b => codeOk N b
  | _ => true

theorem wp_loop_n {P : Program} {Q : Exit → Act → World → Prop} {c : Code} (I : Nat → Act → World → Prop) (round : ∀ n a w, I n a w → c.wp P (Exit.then (fun a' w' => ∃ m, m < n ∧ I m a' w') Q) a w) : ∀ n a w, I n a w → (Code.loop c).wp P Q a w := by
  intro n a w h0 b k cs
  have key : ∀ n a w, I n a w → ∃ e a' w', Q e a' w' ∧ Arrives P (lone (b.at a (.code c :: .inLoop c :: k)) cs w) b k cs e a' w' := by
    intro n
    induction n using Nat.strongRecOn with
    | _ n ih =>
      intro a w hI
      obtain ⟨e, a₁, w₁, hq, harr⟩ := round n a w hI b (.inLoop c :: k) cs
      cases e with
      | normal =>
        obtain ⟨m, hlt, hI₁⟩ := hq
        obtain ⟨e₂, a₂, w₂, hq₂, harr₂⟩ := ih m hlt a₁ w₁ hI₁
        exact ⟨e₂, a₂, w₂, hq₂, .of_steps (Steps.trans harr (.one step_inLoop)) harr₂⟩
      | exit id => exact ⟨_, a₁, w₁, hq, .pass (x := .inLoop c) rfl (fun _ _ => .inl (by simp)) harr⟩
      | goto l => exact ⟨_, a₁, w₁, hq, .pass (x := .inLoop c) rfl (fun _ _ => .inl (by simp)) harr⟩
      | ret => exact ⟨_, a₁, w₁, hq, .pass (x := .inLoop c) rfl (fun _ _ => .inl (by simp)) harr⟩
      | panic ch => exact ⟨_, a₁, w₁, hq, .pass (x := .inLoop c) rfl (fun _ _ => .inl (by simp)) harr⟩
      | outgrown => exact ⟨_, a₁, w₁, hq, .pass (x := .inLoop c) rfl (fun _ _ => .inl (by simp)) harr⟩
  obtain ⟨e, a', w', hq, harr⟩ := key n a w h0
  exact ⟨e, a', w', hq, .of_steps (.one step_loop) harr⟩

theorem Fr.left {x y : List Nat} {a b : St κ} (h : Fr x a b) : Fr (x ++ y) a b := h.sub fun _ hk => List.mem_append_left _ hk
theorem Fr.right {x y : List Nat} {a b : St κ} (h : Fr y a b) : Fr (x ++ y) a b := h.sub fun _ hk => List.mem_append_right _ hk
def Lts (S0 : Ln) (W : List Nat) : Prop := ∀ l p, S0.pl l = some p → elemB W l = false
theorem Lts.left {x y : List Nat} (h : Lts S0 (x ++ y)) : Lts S0 x := fun l p hl => elem_not fun hm => elem_no (h l p hl) (List.mem_append_left _ hm)
theorem Lts.right {x y : List Nat} (h : Lts S0 (x ++ y)) : Lts S0 y := fun l p hl => elem_not fun hm => elem_no (h l p hl) (List.mem_append_right _ hm)

theorem code_sound (hG : X.G w0) (hMG : ∀ b o, X.MG b o → M0 b o) (hS : ∀ b, S0 b → X.nG ≤ b) : ∀ (c : Code) (Q : Exit → St κ → Prop), codeOk N c = true → Lts S0 (writes c) → ∀ (M : Nat → Nat → Prop) (β : Bt) (σ : St κ) (a : Act) (w : World), Sim X M0 S0 w0 N M β σ a w → codeW X c Q σ →
    c.wp X.P (fun e a w => PostF X M0 S0 w0 N (writes c) σ (Q e) a w) a w
  | .skip, Q, _, _, M, β, σ, a, w, h, hW => wp_skip ⟨M, β, σ, h, hW, Fr.refl _ _⟩
  | .label l, Q, _, _, M, β, σ, a, w, h, hW => wp_label ⟨M, β, σ, h, hW, Fr.refl _ _⟩
  | .exit id, Q, _, _, M, β, σ, a, w, h, hW => wp_exit ⟨M, β, σ, h, hW, Fr.refl _ _⟩
  | .goto l, Q, _, _, M, β, σ, a, w, h, hW => wp_goto ⟨M, β, σ, h, hW, Fr.refl _ _⟩
  | .ret, Q, _, _, M, β, σ, a, w, h, hW => wp_ret ⟨M, β, σ, h, hW, Fr.refl _ _⟩
  | .region id ops draw, Q, hok, hL, M, β, σ, a, w, h, hW => by
    cases draw with
    | true =>
      have hW : opsWd X ops.toList (openW (Q .normal) (mapL ops.toList)) ops.toList [] σ := hW
      have hokl : ∀ o ∈ ops.toList, opOk N o = true := fun o ho => List.all_eq_true.1 hok o ho
      have hl : ops.toList.toArray = ops := by simp
      have h0 := h.world (w' := { w with drawn := w.drawn + 1 }) (M' := M) noS ⟨rfl, rfl, rfl, Nat.le_refl _, fun _ _ _ => rfl⟩ (fun b hb => hb.elim) (fun b o hb => hb.elim) (fun l o z b c _ _ _ hb => hb) (fun _ _ hm => hm) (fun _ _ hm => .inl hm)
      obtain ⟨σf, bs, hr, hbl, hdr, hK, hfr⟩ := runs_of hG hMG hS ops.toList [] hokl M β σ a _ h0 hW
      have hdr : drawOk ops.toList bs = true := hdr
      refine wp_region_any X.mixed ?_
      have hleft : left ops.toList (Array.replicate ops.size false) = List.range ops.toList.length := by
        unfold left
        refine List.filter_eq_self.2 fun i hi => ?_
        have : i < ops.size := by simpa using hi
        simp [Array.getD, this]
      have hmap : ((List.range ops.toList.length).filterMap fun i => (ops.toList[i]?).map fun o => (o, bs.getD i ([], []))) = ops.toList.zip bs := by
        have hg : ∀ (l : List Oper) (bs : List RW), bs.length = l.length → ((List.range l.length).filterMap fun i => (l[i]?).map fun o => (o, bs.getD i ([], []))) = l.zip bs := by
          intro l
          induction l with
          | nil => intro bs hb; rfl
          | cons x xs ih =>
            intro bs hb
            match bs, hb with
            | b :: bs, hb =>
              rw [List.length_cons, List.range_succ_eq_map, List.filterMap_cons, List.zip_cons_cons, ← ih bs (by simpa using hb)]
              simp only [List.getElem?_cons_zero, List.filterMap_map, Option.map_some]
              congr 1
        exact hg _ _ hbl
      have := any_sound hG hMG hS (ops := ops.toList) (Q := fun e a w => PostF X M0 S0 w0 N (writes (.region id ops true)) σ (Q e) a w) hokl hdr (fun M' β' a' w' hs => by
          obtain ⟨σ3, g1, g2, g3⟩ := open_sound _ _ hs hK
          exact ⟨M', β', σ3, g1, g2, hfr.trans (g3.sub fun k hk => by cases hk)⟩) ops.size (Array.replicate ops.size false) M β σ a _ (by simp)
        (fun i o ho hi => by
          have : (Array.replicate ops.size false).getD i false = false := by
            by_cases h : i < ops.size
            · simp [Array.getD, h]
            · simp [Array.getD, h]
          rw [this] at hi
          cases hi) (by rw [hleft]; simp) h0 (by rw [hleft, hmap]; exact hr)
      rwa [hl] at this
    | false =>
      refine wp_region_list ?_
      have hl : ops = ops.toList.toArray := by simp
      have hW : RegW X ops.toList (Q .normal) ops.toList σ := by
        simp only [codeW] at hW
        split at hW
        · exact hW
        · exact .run hW
      have := regW_sound hG hMG hS (all := ops.toList) (K := Q .normal) (W := writes (.region id ops false)) hL (σ0 := σ) (Q := fun e a w => PostF X M0 S0 w0 N (writes (.region id ops false)) σ (Q e) a w) (fun _ _ h => h) hW
        (fun o ho => List.all_eq_true.1 hok o ho) (fun o ho k hk => List.mem_flatMap.2 ⟨o, ho, hk⟩) M β a w h (Fr.refl _ _)
      rwa [← hl] at this
  | .cond c t f, Q, hok, hL, M, β, σ, a, w, h, hW => by
    simp only [codeOk, Bool.and_eq_true] at hok
    simp only [codeW] at hW
    split at hW
    · rename_i b hb
      have h1 := h.ev c
      rw [hb] at h1
      obtain ⟨h2, _⟩ := h1.val
      refine wp_cond h2 ?_
      rcases condW_spec hW with ⟨rfl, hW⟩ | ⟨rfl, hW⟩
      · exact wp_mono (code_sound hG hMG hS t Q hok.1 hL.left M β σ a w h hW) (fun e a w ⟨M', β', σ', h1, h2, h3⟩ => ⟨M', β', σ', h1, h2, h3.left⟩)
      · exact wp_mono (code_sound hG hMG hS f Q hok.2 hL.right M β σ a w h hW) (fun e a w ⟨M', β', σ', h1, h2, h3⟩ => ⟨M', β', σ', h1, h2, h3.right⟩)
    · rename_i q n hb
      have h1 := h.ev c
      rw [hb] at h1
      generalize hx : a.eval c = x at h1
      cases h1 with
      | @nb _ _ b _ hn =>
        refine wp_cond hx ?_
        rcases condW_spec (nbC_spec hW b hn) with ⟨rfl, hW⟩ | ⟨rfl, hW⟩
        · exact wp_mono (code_sound hG hMG hS t Q hok.1 hL.left M β σ a w h hW) (fun e a w ⟨M', β', σ', h1, h2, h3⟩ => ⟨M', β', σ', h1, h2, h3.left⟩)
        · exact wp_mono (code_sound hG hMG hS f Q hok.2 hL.right M β σ a w h hW) (fun e a w ⟨M', β', σ', h1, h2, h3⟩ => ⟨M', β', σ', h1, h2, h3.right⟩)
    · exact hW.elim
  | .block id b, Q, hok, hL, M, β, σ, a, w, h, hW => by
    refine wp_block (wp_mono (code_sound hG hMG hS b _ hok hL M β σ a w h hW) (fun e a w ⟨M', β', σ', h1, h2, h3⟩ => ?_))
    cases e with
    | exit i =>
      simp only at h2
      by_cases hi : i = id
      · subst hi
        simp only [beq_yes] at h2
        simp only [Exit.inBlock, if_true]
        exact ⟨M', β', σ', h1, h2, h3⟩
      · simp only [beq_no hi] at h2
        simp only [Exit.inBlock, if_neg hi]
        exact ⟨M', β', σ', h1, h2, h3⟩
    | _ => exact ⟨M', β', σ', h1, h2, h3⟩
  | .loop b, Q, hok, hL, M, β, σ, a, w, h, hW => by
    obtain ⟨ι, L, O, keep, R, inv, μ, ⟨x, hix, hx⟩, hround⟩ := hW
    obtain ⟨β', h0⟩ := h.head (W := writes b) (fun _ _ => rfl) (fun _ _ h => h) rfl hL hx
    refine wp_loop_n (fun n a w => ∃ x, inv x ∧ μ x = n ∧ Fr (writes b) σ (σ.head (writes b) (L x) (O x) keep (R x)) ∧ ∃ M β, Sim X M0 S0 w0 N M β (σ.head (writes b) (L x) (O x) keep (R x)) a w) ?_ (μ x) a w ⟨x, hix, rfl, head_fr (Fr.refl _ _) hx, M, β', h0⟩
    rintro n a w ⟨x, hix, rfl, hfx, M, β, hs⟩
    refine wp_mono (code_sound hG hMG hS b _ hok hL M β _ a w hs (hround x hix)) (fun e a w ⟨M', β', σ', h1, h2, h3⟩ => ?_)
    have hf : Fr (writes b) σ σ' := hfx.trans h3
    cases e with
    | normal =>
      simp only at h2
      obtain ⟨y, hiy, hy, hlt⟩ := h2
      obtain ⟨β2, h4⟩ := h1.head hf.f hf.o hf.g hL hy
      exact ⟨μ y, hlt, y, hiy, rfl, head_fr hf hy, M', β2, h4⟩
    | _ => exact ⟨M', β', σ', h1, h2, hf⟩
  | .seq x y, Q, hok, hL, M, β, σ, a, w, h, hW => by
    simp only [codeOk, Bool.and_eq_true] at hok
    have direct : codeW X x (fun e σ' => match e with | .normal => codeW X y Q σ' | e => Q e σ') σ → (Code.seq x y).wp X.P (fun e a w => PostF X M0 S0 w0 N (writes (.seq x y)) σ (Q e) a w) a w := by
      intro hW
      refine wp_seq (wp_mono (code_sound hG hMG hS x _ hok.1 hL.left M β σ a w h hW) (fun e a w ⟨M', β', σ', h1, h2, h3⟩ => ?_))
      cases e with
      | normal =>
        simp only at h2
        exact wp_mono (code_sound hG hMG hS y Q hok.2 hL.right M' β' σ' a w h1 h2) (fun e a w ⟨M2, β2, σ2, g1, g2, g3⟩ => ⟨M2, β2, σ2, g1, g2, h3.left.trans g3.right⟩)
      | _ => exact ⟨M', β', σ', h1, h2, h3.left⟩
    have cut : MeetW X σ (writes x) (fun K => codeW X x (fun e σ' => match e with | .normal => K σ' | e => Q e σ') σ) (codeW X y Q) → (Code.seq x y).wp X.P (fun e a w => PostF X M0 S0 w0 N (writes (.seq x y)) σ (Q e) a w) a w := by
      rintro ⟨ι, L, O, keep, R, inv, hW, hy⟩
      refine wp_seq (wp_mono (code_sound hG hMG hS x _ hok.1 hL.left M β σ a w h hW) (fun e a w ⟨M', β', σ', h1, h2, h3⟩ => ?_))
      cases e with
      | normal =>
        simp only at h2
        obtain ⟨z, hiz, hz⟩ := h2
        obtain ⟨β2, h4⟩ := h1.head h3.f h3.o h3.g hL.left hz
        exact wp_mono (code_sound hG hMG hS y Q hok.2 hL.right M' β2 _ a w h4 (hy z hiz)) (fun e a w ⟨M2, β2, σ2, g1, g2, g3⟩ => ⟨M2, β2, σ2, g1, g2, (head_fr h3 hz).left.trans g3.right⟩)
      | _ => exact ⟨M', β', σ', h1, h2, h3.left⟩
    unfold codeW at hW
    split at hW
    · exact hW.elim direct cut
    · exact direct hW
  | .scope b, Q, hok, _, M, β, σ, a, w, h, hW => hW.elim
  | .rangeFunc _ _ _ _, Q, hok, _, M, β, σ, a, w, h, hW => hW.elim
  | .refuse _, Q, hok, _, M, β, σ, a, w, h, hW => hW.elim
end
theorem codeW_cond {κ : Type} {X : Cx κ} {c : Operand} {t f : Code} {Q : Exit → St κ → Prop} {σ : St κ} {b : Bool} (h : σ.ev c = .v (.bool b)) (g : condW b (codeW X t Q σ) (codeW X f Q σ)) : codeW X (.cond c t f) Q σ := by
  unfold codeW
  rw [h]
  exact g
end Go.Proofs.YteojgenhgjhohaaDoor
