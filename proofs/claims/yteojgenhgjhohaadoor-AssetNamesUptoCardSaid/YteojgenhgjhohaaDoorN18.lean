/-
  Other names for the own objects of a contract, over any program.
-/
import Derived.Test.YteojgenhgjhohaaDoorN17
namespace Go.Proofs.YteojgenhgjhohaaDoor
open Go.RowKit
set_option linter.unusedVariables false
set_option linter.unusedSimpArgs false

mutual
def D.ren {κ : Type} (ρ : Nat → Nat) : D κ → D κ
  | .v x => .v x
  | .agg cs => .agg (D.renL ρ cs)
  | .tup cs => .tup (D.renL ρ cs)
  | .sl a b n f => .sl a b n f
  | .rc k => .rc k
  | .ref n f => .ref n f
  | .fn f cs => .fn f (D.renL ρ cs)
  | .ptr l o => .ptr (ρ l) o
  | .elt l s k j => .elt (ρ l) s k j
  | .own l s o n => .own (ρ l) s o n
  | .ifc t d => .ifc t d
  | .mp l => .mp (ρ l)
  | .ifo t l s n => .ifo t (ρ l) s n
  | .nb q n => .nb q n
  | .mfn f fs => .mfn f fs
  | .und => .und
  | .opq => .opq
def D.renL {κ : Type} (ρ : Nat → Nat) : List (D κ) → List (D κ)
  | [] => []
  | d :: r => D.ren ρ d :: D.renL ρ r
end
section
variable {κ : Type} {X : Cx κ} {M M' : Nat → Nat → Prop} {w w' : World} {β β' : Bt}
theorem renL_map (ρ : Nat → Nat) : ∀ l : List (D κ), D.renL ρ l = l.map (D.ren ρ)
  | [] => by simp [D.renL]
  | d :: r => by simp [D.renL, renL_map ρ r]
theorem renL_len (ρ : Nat → Nat) (l : List (D κ)) : (D.renL ρ l).length = l.length := by rw [renL_map, List.length_map]
theorem renL_get {ρ : Nat → Nat} {l : List (D κ)} {i : Nat} {d : D κ} (h : (D.renL ρ l)[i]? = some d) : ∃ c, l[i]? = some c ∧ D.ren ρ c = d := by
  rw [renL_map] at h
  exact map_some h
theorem get_renL {ρ : Nat → Nat} {l : List (D κ)} {i : Nat} {d : D κ} (h : l[i]? = some d) : (D.renL ρ l)[i]? = some (D.ren ρ d) := by
  rw [renL_map, List.getElem?_map, h]; rfl
mutual
theorem ren_ren {ρ τ : Nat → Nat} (h : ∀ l, τ (ρ l) = l) : ∀ d : D κ, D.ren τ (D.ren ρ d) = d
  | .v x => by simp only [D.ren]
  | .agg cs => by simp only [D.ren, renL_ren h cs]
  | .tup cs => by simp only [D.ren, renL_ren h cs]
  | .sl a b n f => by simp only [D.ren]
  | .rc k => by simp only [D.ren]
  | .ref n f => by simp only [D.ren]
  | .fn f cs => by simp only [D.ren, renL_ren h cs]
  | .ptr l o => by simp only [D.ren, h]
  | .elt l s k j => by simp only [D.ren, h]
  | .own l s o n => by simp only [D.ren, h]
  | .ifc t d => by simp only [D.ren]
  | .mp l => by simp only [D.ren, h]
  | .ifo t l s n => by simp only [D.ren, h]
  | .nb q n => by simp only [D.ren]
  | .mfn f fs => by simp only [D.ren]
  | .und => by simp only [D.ren]
  | .opq => by simp only [D.ren]
theorem renL_ren {ρ τ : Nat → Nat} (h : ∀ l, τ (ρ l) = l) : ∀ l : List (D κ), D.renL τ (D.renL ρ l) = l
  | [] => by simp only [D.renL]
  | d :: r => by simp only [D.renL, ren_ren h d, renL_ren h r]
end
theorem Rep.ren {ρ : Nat → Nat} {d : D κ} {x : Value} (h : Rep X.V M w β d x) (hβ : ∀ l, β' (ρ l) = β l) : Rep X.V M w β' (d.ren ρ) x := by
  induction h with
  | v h => simp only [D.ren]; exact .v h
  | opq => simp only [D.ren]; exact .opq
  | und => simp only [D.ren]; exact .und
  | fn hn _ ih =>
    simp only [D.ren]
    refine .fn (by rw [renL_len]; exact hn) (fun i d hd => ?_)
    obtain ⟨c, hc, rfl⟩ := renL_get hd
    exact ih i c hc hβ
  | agg hn h1 _ ih =>
    simp only [D.ren]
    refine .agg (by rw [renL_len]; exact hn) (fun i hi => h1 i (by rwa [renL_len] at hi)) (fun i d hd => ?_)
    obtain ⟨c, hc, rfl⟩ := renL_get hd
    exact ih i c hc hβ
  | tup hn _ ih =>
    simp only [D.ren]
    refine .tup (by rw [renL_len]; exact hn) (fun i d hd => ?_)
    obtain ⟨c, hc, rfl⟩ := renL_get hd
    exact ih i c hc hβ
  | nil hc hA => simp only [D.ren]; exact .nil hc hA
  | sl u hc hm hb hu h _ => simp only [D.ren]; exact .sl u hc hm hb hu h
  | rc h ih => simp only [D.ren]; exact .rc h.sl_at
  | ref u hu h _ => simp only [D.ren]; exact .ref u hu h
  | ptr h => simp only [D.ren]; exact .ptr ((hβ _).trans h)
  | elt h => simp only [D.ren]; exact .elt ((hβ _).trans h)
  | own h hn hc => simp only [D.ren]; exact .own ((hβ _).trans h) hn hc
  | ownE h hc hA => simp only [D.ren]; exact .ownE h hc hA
  | ownNil h => simp only [D.ren]; exact .ownNil ((hβ _).trans h)
  | ifc h _ => simp only [D.ren]; exact .ifc h
  | mp h => simp only [D.ren]; exact .mp ((hβ _).trans h)
  | ifo _ ih => simp only [D.ren] at ih ⊢; exact .ifo (ih hβ)
  | nb h => simp only [D.ren]; exact .nb h
  | mfn hn h _ => simp only [D.ren]; exact .mfn hn h
def Ob.ren (ρ : Nat → Nat) : Ob κ → Ob κ
  | .cells cs => .cells (D.renL ρ cs)
  | .row e n f => .row e n f
  | .map t es => .map t es
  | .iter m n sn => .iter (ρ m) n sn
  | .dead => .dead
def renH (ρ : Nat → Nat) : List (Nat × Ob κ) → List (Nat × Ob κ)
  | [] => []
  | p :: r => (ρ p.1, p.2.ren ρ) :: renH ρ r
theorem renH_mem {ρ : Nat → Nat} : ∀ {H : List (Nat × Ob κ)} {l : Nat} {o : Ob κ}, (l, o) ∈ renH ρ H → ∃ k q, (k, q) ∈ H ∧ l = ρ k ∧ o = q.ren ρ
  | [], _, _, h => by simp [renH] at h
  | p :: r, l, o, h => by
    rcases List.mem_cons.1 h with h | h
    · injection h with h1 h2
      exact ⟨p.1, p.2, List.mem_cons_self, h1, h2⟩
    · obtain ⟨k, q, h1, h2, h3⟩ := renH_mem h
      exact ⟨k, q, List.mem_cons_of_mem _ h1, h2, h3⟩
theorem mem_renH {ρ : Nat → Nat} : ∀ {H : List (Nat × Ob κ)} {l : Nat} {o : Ob κ}, (l, o) ∈ H → (ρ l, o.ren ρ) ∈ renH ρ H
  | p :: r, l, o, h => by
    rcases List.mem_cons.1 h with h | h
    · subst h; exact List.mem_cons_self
    · exact List.mem_cons_of_mem _ (mem_renH h)
theorem ob_ren {ρ : Nat → Nat} : ∀ {o : Ob κ} {l : Nat} {z : Bool}, ObAt X M w β l o z → (∀ l, β' (ρ l) = β l) → ObAt X M w β' (ρ l) (o.ren ρ) z
  | .cells cs, l, z, ⟨b, c, arr, T, h1, h2, h3, h4⟩, hβ => by
    refine ⟨b, c, arr, T, (hβ l).trans h1, h2, ⟨by rw [renL_len]; exact h3.n, fun i hi => h3.o i (by rwa [renL_len] at hi), fun i d hd => ?_⟩, by rw [renL_len]; exact h4⟩
    obtain ⟨k, hk, rfl⟩ := renL_get hd
    exact (h3.r i k hk).ren hβ
  | .row e n f, l, z, ⟨hk, h⟩, hβ => ⟨hk, h.imp (fun ⟨h1, h2⟩ => ⟨(hβ l).trans h1, h2⟩) (fun ⟨b, c, arr, h1, h2⟩ => ⟨b, c, arr, (hβ l).trans h1, h2⟩)⟩
  | .map t es, l, z, ⟨e0, hz, hk, b, c, arr, clk, h1, h2⟩, hβ => ⟨e0, hz, hk, b, c, arr, clk, (hβ l).trans h1, h2⟩
  | .iter m n sn, l, z, ⟨hz, b, c, bm, cm, sa, h1, h2, h3, h4⟩, hβ => ⟨hz, b, c, bm, cm, sa, (hβ l).trans h1, h2, (hβ m).trans h3, h4⟩
  | .dead, _, _, _, _ => trivial
theorem obren_ren {ρ τ : Nat → Nat} (h : ∀ l, τ (ρ l) = l) : ∀ o : Ob κ, (o.ren ρ).ren τ = o
  | .cells cs => by simp only [Ob.ren, renL_ren h]
  | .row _ _ _ => rfl
  | .map _ _ => rfl
  | .iter m n sn => by simp only [Ob.ren, h]
  | .dead => rfl
theorem live_ren {ρ : Nat → Nat} (o : Ob κ) : (o.ren ρ).live = o.live := by cases o <;> rfl
theorem SpH.ren {ρ τ : Nat → Nat} (h1 : ∀ l, τ (ρ l) = l) (h2 : ∀ l, ρ (τ l) = l) {f : FuncId} {ds : List (D κ)} {H H' : List (Nat × Ob κ)} {d : D κ} (h : SpH X f ds H d H') : SpH X f (D.renL ρ ds) (renH ρ H) (d.ren ρ) (renH ρ H') := by
  refine ⟨h.1, fun M β w vs hG hMG hM hl hr hp hb => ?_⟩
  have back : ∀ l, (fun l => β (ρ l)) (τ l) = β l := fun l => by simp only [h2]
  have hblk : ∀ b, blocks (fun l => β (ρ l)) H b ↔ blocks β (renH ρ H) b := fun b => by
    refine ⟨fun ⟨l, o, c, hm, hβ⟩ => ⟨ρ l, o.ren ρ, c, mem_renH hm, hβ⟩, fun ⟨l, o, c, hm, hβ⟩ => ?_⟩
    obtain ⟨k, q, hk, rfl, rfl⟩ := renH_mem hm
    exact ⟨k, q, c, hk, hβ⟩
  refine (h.2 M (fun l => β (ρ l)) w vs hG hMG hM (by rw [renL_len] at hl; exact hl) (fun i d hd => ?_) ⟨fun l o hm => ?_, fun l o l' o' b c c' hm hm' hb hb' => ?_⟩ (fun b hb' => hb b ((hblk b).1 hb'))).mono fun e w' ⟨x, M', β1, he, hk, hsame, hM1, hM2, hx, hH', hbl⟩ => ?_
  · have := (hr i _ (get_renL hd)).ren (β' := fun l => β (ρ l)) (ρ := τ) back
    rwa [ren_ren h1] at this
  · obtain ⟨g1, g2⟩ := hp.ob _ _ (mem_renH (ρ := ρ) hm)
    have := ob_ren (β' := fun l => β (ρ l)) (ρ := τ) g2 back
    rw [h1, obren_ren h1] at this
    exact ⟨by rwa [live_ren] at g1, this⟩
  · have := hp.ap _ _ _ _ b c c' (mem_renH (ρ := ρ) hm) (mem_renH (ρ := ρ) hm') hb hb'
    have := congrArg τ this
    rwa [h1, h1] at this
  · have fwd : ∀ l, (fun l => β1 (τ l)) (ρ l) = β1 l := fun l => by simp only [h1]
    have hblk' : ∀ b, blocks (fun l => β1 (τ l)) (renH ρ H') b → blocks β1 H' b := fun b ⟨l, o, c, hm, hβ⟩ => by
      obtain ⟨k, q, hk, rfl, rfl⟩ := renH_mem hm
      exact ⟨k, q, c, hk, (fwd k) ▸ hβ⟩
    refine ⟨x, M', fun l => β1 (τ l), he, hk.mono (Nat.le_refl _) (fun b _ hb' => (hblk b).1 hb'), fun l o hm => ?_, hM1, fun b o hm => (hM2 b o hm).imp id (fun h => h.imp (fun h => (hblk b).1 h) id), hx.ren fwd, ⟨fun l o hm => ?_, fun l o l' o' b c c' hm hm' hb1 hb2 => ?_⟩, fun b hb' => (hbl b (hblk' b hb')).imp (fun h => (hblk b).1 h) id⟩
    · obtain ⟨k, q, hk', rfl, rfl⟩ := renH_mem hm
      show β1 (τ (ρ k)) = β (ρ k)
      rw [h1]
      exact hsame k q hk'
    · obtain ⟨k, q, hk', rfl, rfl⟩ := renH_mem hm
      obtain ⟨g1, g2⟩ := hH'.ob k q hk'
      exact ⟨by rw [live_ren]; exact g1, ob_ren g2 fwd⟩
    · obtain ⟨k, q, hk1, rfl, rfl⟩ := renH_mem hm
      obtain ⟨k', q', hk2, rfl, rfl⟩ := renH_mem hm'
      have e := hH'.ap k q k' q' b c c' hk1 hk2 ((fwd k) ▸ hb1) ((fwd k') ▸ hb2)
      rw [e]
def swp (a b l : Nat) : Nat := bif Nat.beq l a then b else bif Nat.beq l b then a else l
theorem swp_swp (a b l : Nat) : swp a b (swp a b l) = l := by
  unfold swp
  by_cases h1 : l = a
  · subst h1
    rw [beq_yes, cond_true]
    by_cases h2 : b = l
    · subst h2; rw [beq_yes, cond_true]
    · rw [beq_no h2, cond_false, beq_yes, cond_true]
  · rw [beq_no h1, cond_false]
    by_cases h2 : l = b
    · subst h2
      rw [beq_yes, cond_true, beq_yes, cond_true]
    · rw [beq_no h2, cond_false, beq_no h1, cond_false, beq_no h2, cond_false]
theorem SpH.swap (a b : Nat) {f : FuncId} {ds : List (D κ)} {H H' : List (Nat × Ob κ)} {d : D κ} (h : SpH X f ds H d H') : SpH X f (D.renL (swp a b) ds) (renH (swp a b) H) (d.ren (swp a b)) (renH (swp a b) H') := h.ren (swp_swp a b) (swp_swp a b)
theorem swp_l (a b : Nat) : swp a b a = b := by unfold swp; rw [beq_yes, cond_true]
end
end Go.Proofs.YteojgenhgjhohaaDoor
