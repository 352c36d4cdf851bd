/-
  Other names for the own objects of a contract, over any program. Schemas as data; what is wrong with a field; stars in routes; routes that came before.
-/
import Derived.Test.YtdpbgpkjlbdbfaaGreatDoorN17
import Derived.Test.YtdpbgpkjlbdbfaaGreatDoorS3
namespace Go.Proofs.YtdpbgpkjlbdbfaaGreatDoor
open Go.RowKit
set_option linter.unusedVariables false
set_option linter.unusedSimpArgs false

mutual
/-- A datum with other names for own objects. -/
def D.ren {κ : Type} (ρ : Nat → Nat) : D κ → D κ
  | .v x => .v x
  | .agg cs => .agg (D.renL ρ cs)
  | .tup cs => .tup (D.renL ρ cs)
  | .sl a b n f => .sl a b n f
  | .rc k => .rc k
  | .ref n f => .ref n f
  | .fn f cs => .fn f (D.renL ρ cs)
  | .ptr l o => .ptr (ρ l) o
  | .elt l s k j => .elt (ρ l) s k j
  | .own l s o n => .own (ρ l) s o n
  | .ifc t d => .ifc t d
  | .mp l => .mp (ρ l)
  | .nb q n => .nb q n
  | .mfn f fs => .mfn f fs
  | .und => .und
  | .opq => .opq
def D.renL {κ : Type} (ρ : Nat → Nat) : List (D κ) → List (D κ)
  | [] => []
  | d :: r => D.ren ρ d :: D.renL ρ r
end
section
variable {κ : Type} {X : Cx κ} {M M' : Nat → Nat → Prop} {w w' : World} {β β' : Bt}
theorem renL_map (ρ : Nat → Nat) : ∀ l : List (D κ), D.renL ρ l = l.map (D.ren ρ)
  | [] => by simp [D.renL]
  | d :: r => by simp [D.renL, renL_map ρ r]
theorem renL_len (ρ : Nat → Nat) (l : List (D κ)) : (D.renL ρ l).length = l.length := by rw [renL_map, List.length_map]
theorem renL_get {ρ : Nat → Nat} {l : List (D κ)} {i : Nat} {d : D κ} (h : (D.renL ρ l)[i]? = some d) : ∃ c, l[i]? = some c ∧ D.ren ρ c = d := by
  rw [renL_map] at h
  exact map_some h
theorem get_renL {ρ : Nat → Nat} {l : List (D κ)} {i : Nat} {d : D κ} (h : l[i]? = some d) : (D.renL ρ l)[i]? = some (D.ren ρ d) := by
  rw [renL_map, List.getElem?_map, h]; rfl
mutual
theorem ren_ren {ρ τ : Nat → Nat} (h : ∀ l, τ (ρ l) = l) : ∀ d : D κ, D.ren τ (D.ren ρ d) = d
  | .v x => by simp only [D.ren]
  | .agg cs => by simp only [D.ren, renL_ren h cs]
  | .tup cs => by simp only [D.ren, renL_ren h cs]
  | .sl a b n f => by simp only [D.ren]
  | .rc k => by simp only [D.ren]
  | .ref n f => by simp only [D.ren]
  | .fn f cs => by simp only [D.ren, renL_ren h cs]
  | .ptr l o => by simp only [D.ren, h]
  | .elt l s k j => by simp only [D.ren, h]
  | .own l s o n => by simp only [D.ren, h]
  | .ifc t d => by simp only [D.ren]
  | .mp l => by simp only [D.ren, h]
  | .nb q n => by simp only [D.ren]
  | .mfn f fs => by simp only [D.ren]
  | .und => by simp only [D.ren]
  | .opq => by simp only [D.ren]
theorem renL_ren {ρ τ : Nat → Nat} (h : ∀ l, τ (ρ l) = l) : ∀ l : List (D κ), D.renL τ (D.renL ρ l) = l
  | [] => by simp only [D.renL]
  | d :: r => by simp only [D.renL, ren_ren h d, renL_ren h r]
end
theorem Rep.ren {ρ : Nat → Nat} {d : D κ} {x : Value} (h : Rep X.V M w β d x) (hβ : ∀ l, β' (ρ l) = β l) : Rep X.V M w β' (d.ren ρ) x := by
  induction h with
  | v h => simp only [D.ren]; exact .v h
  | opq => simp only [D.ren]; exact .opq
  | und => simp only [D.ren]; exact .und
  | fn hn _ ih =>
    simp only [D.ren]
    refine .fn (by rw [renL_len]; exact hn) (fun i d hd => ?_)
    obtain ⟨c, hc, rfl⟩ := renL_get hd
    exact ih i c hc hβ
  | agg hn h1 _ ih =>
    simp only [D.ren]
    refine .agg (by rw [renL_len]; exact hn) (fun i hi => h1 i (by rwa [renL_len] at hi)) (fun i d hd => ?_)
    obtain ⟨c, hc, rfl⟩ := renL_get hd
    exact ih i c hc hβ
  | tup hn _ ih =>
    simp only [D.ren]
    refine .tup (by rw [renL_len]; exact hn) (fun i d hd => ?_)
    obtain ⟨c, hc, rfl⟩ := renL_get hd
    exact ih i c hc hβ
  | nil hc hA => simp only [D.ren]; exact .nil hc hA
  | sl u hc hm hb hu h _ => simp only [D.ren]; exact .sl u hc hm hb hu h
  | rc h ih => simp only [D.ren]; exact .rc h.sl_at
  | ref u hu h _ => simp only [D.ren]; exact .ref u hu h
  | ptr h => simp only [D.ren]; exact .ptr ((hβ _).trans h)
  | elt h => simp only [D.ren]; exact .elt ((hβ _).trans h)
  | own h hn hc => simp only [D.ren]; exact .own ((hβ _).trans h) hn hc
  | ownE h hc hA => simp only [D.ren]; exact .ownE h hc hA
  | ownNil h => simp only [D.ren]; exact .ownNil ((hβ _).trans h)
  | ifc h _ => simp only [D.ren]; exact .ifc h
  | mp h => simp only [D.ren]; exact .mp ((hβ _).trans h)
  | nb h => simp only [D.ren]; exact .nb h
  | mfn hn h _ => simp only [D.ren]; exact .mfn hn h
/-- An object with other names in it. -/
def Ob.ren (ρ : Nat → Nat) : Ob κ → Ob κ
  | .cells cs => .cells (D.renL ρ cs)
  | .row e n f => .row e n f
  | .map t es => .map t es
  | .dead => .dead
def renH (ρ : Nat → Nat) : List (Nat × Ob κ) → List (Nat × Ob κ)
  | [] => []
  | p :: r => (ρ p.1, p.2.ren ρ) :: renH ρ r
theorem renH_mem {ρ : Nat → Nat} : ∀ {H : List (Nat × Ob κ)} {l : Nat} {o : Ob κ}, (l, o) ∈ renH ρ H → ∃ k q, (k, q) ∈ H ∧ l = ρ k ∧ o = q.ren ρ
  | [], _, _, h => by simp [renH] at h
  | p :: r, l, o, h => by
    rcases List.mem_cons.1 h with h | h
    · injection h with h1 h2
      exact ⟨p.1, p.2, List.mem_cons_self, h1, h2⟩
    · obtain ⟨k, q, h1, h2, h3⟩ := renH_mem h
      exact ⟨k, q, List.mem_cons_of_mem _ h1, h2, h3⟩
theorem mem_renH {ρ : Nat → Nat} : ∀ {H : List (Nat × Ob κ)} {l : Nat} {o : Ob κ}, (l, o) ∈ H → (ρ l, o.ren ρ) ∈ renH ρ H
  | p :: r, l, o, h => by
    rcases List.mem_cons.1 h with h | h
    · subst h; exact List.mem_cons_self
    · exact List.mem_cons_of_mem _ (mem_renH h)
theorem ob_ren {ρ : Nat → Nat} : ∀ {o : Ob κ} {l : Nat} {z : Bool}, ObAt X M w β l o z → (∀ l, β' (ρ l) = β l) → ObAt X M w β' (ρ l) (o.ren ρ) z
  | .cells cs, l, z, ⟨b, c, arr, T, h1, h2, h3, h4⟩, hβ => by
    refine ⟨b, c, arr, T, (hβ l).trans h1, h2, ⟨by rw [renL_len]; exact h3.n, fun i hi => h3.o i (by rwa [renL_len] at hi), fun i d hd => ?_⟩, by rw [renL_len]; exact h4⟩
    obtain ⟨k, hk, rfl⟩ := renL_get hd
    exact (h3.r i k hk).ren hβ
  | .row e n f, l, z, ⟨hk, h⟩, hβ => ⟨hk, h.imp (fun ⟨h1, h2⟩ => ⟨(hβ l).trans h1, h2⟩) (fun ⟨b, c, arr, h1, h2⟩ => ⟨b, c, arr, (hβ l).trans h1, h2⟩)⟩
  | .map t es, l, z, ⟨hz, hk, b, c, arr, clk, h1, h2⟩, hβ => ⟨hz, hk, b, c, arr, clk, (hβ l).trans h1, h2⟩
  | .dead, _, _, _, _ => trivial
theorem obren_ren {ρ τ : Nat → Nat} (h : ∀ l, τ (ρ l) = l) : ∀ o : Ob κ, (o.ren ρ).ren τ = o
  | .cells cs => by simp only [Ob.ren, renL_ren h]
  | .row _ _ _ => rfl
  | .map _ _ => rfl
  | .dead => rfl
theorem live_ren {ρ : Nat → Nat} (o : Ob κ) : (o.ren ρ).live = o.live := by cases o <;> rfl
/-- The contract under other names. -/
theorem SpH.ren {ρ τ : Nat → Nat} (h1 : ∀ l, τ (ρ l) = l) (h2 : ∀ l, ρ (τ l) = l) {f : FuncId} {ds : List (D κ)} {H H' : List (Nat × Ob κ)} {d : D κ} (h : SpH X f ds H d H') : SpH X f (D.renL ρ ds) (renH ρ H) (d.ren ρ) (renH ρ H') := by
  refine ⟨h.1, fun M β w vs hG hMG hM hl hr hp hb => ?_⟩
  have back : ∀ l, (fun l => β (ρ l)) (τ l) = β l := fun l => by simp only [h2]
  have hblk : ∀ b, blocks (fun l => β (ρ l)) H b ↔ blocks β (renH ρ H) b := fun b => by
    refine ⟨fun ⟨l, o, c, hm, hβ⟩ => ⟨ρ l, o.ren ρ, c, mem_renH hm, hβ⟩, fun ⟨l, o, c, hm, hβ⟩ => ?_⟩
    obtain ⟨k, q, hk, rfl, rfl⟩ := renH_mem hm
    exact ⟨k, q, c, hk, hβ⟩
  refine (h.2 M (fun l => β (ρ l)) w vs hG hMG hM (by rw [renL_len] at hl; exact hl) (fun i d hd => ?_) ⟨fun l o hm => ?_, fun l o l' o' b c c' hm hm' hb hb' => ?_⟩ (fun b hb' => hb b ((hblk b).1 hb'))).mono fun e w' ⟨x, M', β1, he, hk, hsame, hM1, hM2, hx, hH', hbl⟩ => ?_
  · have := (hr i _ (get_renL hd)).ren (β' := fun l => β (ρ l)) (ρ := τ) back
    rwa [ren_ren h1] at this
  · obtain ⟨g1, g2⟩ := hp.ob _ _ (mem_renH (ρ := ρ) hm)
    have := ob_ren (β' := fun l => β (ρ l)) (ρ := τ) g2 back
    rw [h1, obren_ren h1] at this
    exact ⟨by rwa [live_ren] at g1, this⟩
  · have := hp.ap _ _ _ _ b c c' (mem_renH (ρ := ρ) hm) (mem_renH (ρ := ρ) hm') hb hb'
    have := congrArg τ this
    rwa [h1, h1] at this
  · have fwd : ∀ l, (fun l => β1 (τ l)) (ρ l) = β1 l := fun l => by simp only [h1]
    have hblk' : ∀ b, blocks (fun l => β1 (τ l)) (renH ρ H') b → blocks β1 H' b := fun b ⟨l, o, c, hm, hβ⟩ => by
      obtain ⟨k, q, hk, rfl, rfl⟩ := renH_mem hm
      exact ⟨k, q, c, hk, (fwd k) ▸ hβ⟩
    refine ⟨x, M', fun l => β1 (τ l), he, hk.mono (Nat.le_refl _) (fun b _ hb' => (hblk b).1 hb'), fun l o hm => ?_, hM1, fun b o hm => (hM2 b o hm).imp id (fun h => h.imp (fun h => (hblk b).1 h) id), hx.ren fwd, ⟨fun l o hm => ?_, fun l o l' o' b c c' hm hm' hb1 hb2 => ?_⟩, fun b hb' => (hbl b (hblk' b hb')).imp (fun h => (hblk b).1 h) id⟩
    · obtain ⟨k, q, hk', rfl, rfl⟩ := renH_mem hm
      show β1 (τ (ρ k)) = β (ρ k)
      rw [h1]
      exact hsame k q hk'
    · obtain ⟨k, q, hk', rfl, rfl⟩ := renH_mem hm
      obtain ⟨g1, g2⟩ := hH'.ob k q hk'
      exact ⟨by rw [live_ren]; exact g1, ob_ren g2 fwd⟩
    · obtain ⟨k, q, hk1, rfl, rfl⟩ := renH_mem hm
      obtain ⟨k', q', hk2, rfl, rfl⟩ := renH_mem hm'
      have e := hH'.ap k q k' q' b c c' hk1 hk2 ((fwd k) ▸ hb1) ((fwd k') ▸ hb2)
      rw [e]
/-- Two names change places. -/
def swp (a b l : Nat) : Nat := bif Nat.beq l a then b else bif Nat.beq l b then a else l
theorem swp_swp (a b l : Nat) : swp a b (swp a b l) = l := by
  unfold swp
  by_cases h1 : l = a
  · subst h1
    rw [beq_yes, cond_true]
    by_cases h2 : b = l
    · subst h2; rw [beq_yes, cond_true]
    · rw [beq_no h2, cond_false, beq_yes, cond_true]
  · rw [beq_no h1, cond_false]
    by_cases h2 : l = b
    · subst h2
      rw [beq_yes, cond_true, beq_yes, cond_true]
    · rw [beq_no h2, cond_false, beq_no h1, cond_false, beq_no h2, cond_false]
theorem SpH.swap (a b : Nat) {f : FuncId} {ds : List (D κ)} {H H' : List (Nat × Ob κ)} {d : D κ} (h : SpH X f ds H d H') : SpH X f (D.renL (swp a b) ds) (renH (swp a b) H) (d.ren (swp a b)) (renH (swp a b) H') := h.ren (swp_swp a b) (swp_swp a b)
theorem swp_l (a b : Nat) : swp a b a = b := by unfold swp; rw [beq_yes, cond_true]
theorem swp_no {a b l : Nat} (h1 : l ≠ a) (h2 : l ≠ b) : swp a b l = l := by unfold swp; rw [beq_no h1, beq_no h2]; rfl
theorem swp_inj {a b l k : Nat} (h : swp a b l = swp a b k) : l = k := by rw [← swp_swp a b l, h, swp_swp]
/-- Names a, b become A, B. -/
def ren2 (a b A B l : Nat) : Nat := swp (swp a A b) B (swp a A l)
def ren2' (a b A B l : Nat) : Nat := swp a A (swp (swp a A b) B l)
theorem ren2_l {a b A B : Nat} (h : a ≠ b) (g : A ≠ B) : ren2 a b A B a = A := by
  unfold ren2
  rw [swp_l]
  refine swp_no (fun e => h ?_) g
  refine swp_inj (a := a) (b := A) ?_
  rw [swp_l]; exact e
theorem ren2_r (a b A B : Nat) : ren2 a b A B b = B := swp_l _ _
theorem SpH.to2 {f : FuncId} {ds : List (D κ)} {H H' : List (Nat × Ob κ)} {d : D κ} (a b A B : Nat) (h : SpH X f ds H d H') : SpH X f (D.renL (ren2 a b A B) ds) (renH (ren2 a b A B) H) (d.ren (ren2 a b A B)) (renH (ren2 a b A B) H') :=
  h.ren (τ := ren2' a b A B) (fun l => by unfold ren2 ren2'; rw [swp_swp, swp_swp]) (fun l => by unfold ren2 ren2'; rw [swp_swp, swp_swp])
/-- An own row that may be nil, as the first argument: nil will do. -/
theorem SpH.ofNil {f : FuncId} {ds : List (D κ)} {A s e : Nat} {g : Nat → Nat → D κ} {d : D κ} {H' : List (Nat × Ob κ)} (hz : ds.all D.frz = true) (hk : (X.T e).known = true) (h : SpH X f (.own A s 0 0 :: ds) [(A, .row e 0 g)] d H') : SpH X f (.v (.slice none 0 0) :: ds) [] d H' := by
  refine ⟨h.1, fun M β w vs hG hMG hM hl hr hp hb => ?_⟩
  have hno : ∀ b, ¬ blocks (upd β A none) [(A, (.row e 0 g : Ob κ))] b := fun b ⟨l, o, c, hm, hβ⟩ => by
    obtain ⟨rfl, rfl⟩ := Prod.mk.inj (List.mem_singleton.1 hm)
    rw [upd_at] at hβ
    cases hβ
  refine (h.2 M (upd β A none) w vs hG hMG hM (by simpa using hl) (fun i c hc => ?_) ⟨fun l o hm => ?_, fun l o l' o' b c c' hm hm' hb1 hb2 => ?_⟩ (fun b hb' => absurd hb' (hno b))).mono fun e' w' ⟨x, M', β1, he, hk', hs, hM1, hM2, hx, hH, hbl⟩ => ?_
  · match i, hc with
    | 0, hc =>
      simp only [List.getElem?_cons_zero, Option.some.injEq] at hc
      subst hc
      have := hr 0 _ rfl
      rw [this.val.1]
      exact .ownNil (upd_at _ _ _)
    | i + 1, hc =>
      have hc : ds[i]? = some c := by simpa using hc
      exact (hr (i + 1) c (by simpa using hc)).frz (List.all_eq_true.1 hz c (List.mem_of_getElem? hc))
  · obtain ⟨rfl, rfl⟩ := Prod.mk.inj (List.mem_singleton.1 hm)
    exact ⟨rfl, hk, .inl ⟨upd_at _ _ _, rfl⟩⟩
  · obtain ⟨rfl, _⟩ := Prod.mk.inj (List.mem_singleton.1 hm)
    obtain ⟨rfl, _⟩ := Prod.mk.inj (List.mem_singleton.1 hm')
    rfl
  · exact ⟨x, M', β1, he, hk'.mono (Nat.le_refl _) (fun b _ hb' => absurd hb' (hno b)), fun l o hm => (by cases hm), hM1, fun b o hm => (hM2 b o hm).imp id (fun h => Or.inr (h.resolve_left (hno b))), hx, hH, fun b hb' => (hbl b hb').imp (fun h => absurd h (hno b)) id⟩
end
end Go.Proofs.YtdpbgpkjlbdbfaaGreatDoor
namespace Go.Proofs.YtdpbgpkjlbdbfaaGreatDoor
open Go.RowKit
set_option linter.unusedVariables false
set_option linter.unusedSimpArgs false
/-- conf.Field. -/
structure Fd where
  route : ByteArray
  kind : Int
  need : Bool
  bounded : Bool
  lo : Int
  hi : Int
  oneOf : List ByteArray
  dflt : Vu
instance : Inhabited Fd := ⟨⟨⟨#[]⟩, 0, false, false, 0, 0, [], .zero⟩⟩
def Fd.cell (f : Fd) (j : Nat) : DD :=
  match j with
  | 0 => dS f.route
  | 1 => i64 f.kind
  | 2 => dB f.need
  | 3 => dB f.bounded
  | 4 => i64 f.lo
  | 5 => i64 f.hi
  | 6 => encStrs f.oneOf
  | 7 => i64 f.dflt.kind
  | 8 => dB f.dflt.b
  | 9 => i64 f.dflt.i
  | 10 => dS f.dflt.text
  | 11 => .rc (.vals f.dflt.items)
  | 12 => encStrs f.dflt.keys
  | _ => .opq
def encF (f : Fd) : DD := .agg [dS f.route, i64 f.kind, dB f.need, dB f.bounded, i64 f.lo, i64 f.hi, encStrs f.oneOf, i64 f.dflt.kind, dB f.dflt.b, i64 f.dflt.i, dS f.dflt.text, .rc (.vals f.dflt.items), encStrs f.dflt.keys]
def encFs (l : List Fd) : DD := .sl 13 160 l.length (fun i j => (l.getD i default).cell j)
/-! ## Stars -/
def starB (s : ByteArray) : Bool := decide (0 ≤ Lib.indexByte s.data.toList 42)
theorem starB_iff (s : ByteArray) : starB s = true ↔ (42 : UInt8) ∈ s.data.toList := by
  unfold starB
  rw [decide_eq_true_eq]
  refine ⟨fun h => ?_, fun h => ?_⟩
  · have h1 : Lib.indexByte s.data.toList 42 = ((Lib.indexByte s.data.toList 42).toNat : Int) := by omega
    exact List.mem_of_getElem? (Lib.indexByte_some h1).1
  · have hge := Lib.indexByte_ge s.data.toList 42
    rcases Int.lt_or_le (Lib.indexByte s.data.toList 42) 0 with h1 | h1
    · have h2 : Lib.indexByte s.data.toList 42 = -1 := by omega
      obtain ⟨k, hk⟩ := List.mem_iff_getElem?.1 h
      exact absurd hk (Lib.indexByte_none h2 k)
    · exact h1
theorem extract_list (s : ByteArray) (a b : Nat) : (s.extract a b).data.toList = (s.data.toList.take b).drop a := by
  simp [ByteArray.data_extract, List.drop_take]
theorem pcs_star (c : UInt8) (hc : c ≠ 46) : ∀ (k : Nat) (s : ByteArray), (∃ p ∈ Lib.splitB ⟨#[46]⟩ 0 k s, c ∈ p.data.toList) ↔ c ∈ s.data.toList
  | 0, s => by rw [Lib.splitB_zero]; simp
  | k + 1, s => by
    by_cases hm : Lib.indexB s ⟨#[46]⟩ = -1
    · rw [Lib.splitB_miss _ _ _ _ hm]; simp
    · have hi : ∃ i : Nat, Lib.indexB s ⟨#[46]⟩ = i ∧ i + (⟨#[46]⟩ : ByteArray).size ≤ s.size := (Lib.indexB_cases s ⟨#[46]⟩).resolve_left hm
      obtain ⟨i, hi, hle⟩ := hi
      rw [Lib.splitB_hit _ _ _ _ _ hi]
      have h1 : s.data.toList[i]? = some 46 := (Lib.indexByte_some (show Lib.indexByte s.data.toList 46 = (i : Nat) by rw [← hi]; exact (Lib.index_one _ _).symm)).1
      have ih := pcs_star c hc k (s.extract (i + (⟨#[46]⟩ : ByteArray).size) s.size)
      have e1 : (s.extract 0 (i + 0)).data.toList = s.data.toList.take i := by rw [extract_list, List.drop_zero, Nat.add_zero]
      have e2 : (s.extract (i + (⟨#[46]⟩ : ByteArray).size) s.size).data.toList = s.data.toList.drop (i + 1) := by
        rw [extract_list, List.take_of_length_le (by simp)]
        rfl
      have e3 : s.data.toList = s.data.toList.take i ++ 46 :: s.data.toList.drop (i + 1) := by
        obtain ⟨hlt, hg⟩ := List.getElem?_eq_some_iff.1 h1
        have := List.take_append_drop i s.data.toList
        rw [List.drop_eq_getElem_cons hlt, hg] at this
        exact this.symm
      rw [e2] at ih
      have e4 : c ∈ s.data.toList ↔ c ∈ s.data.toList.take i ∨ c ∈ s.data.toList.drop (i + 1) := by
        refine (show c ∈ s.data.toList ↔ c ∈ s.data.toList.take i ++ 46 :: s.data.toList.drop (i + 1) from by rw [← e3]).trans ?_
        simp [hc]
      rw [e4, ← ih]
      constructor
      · rintro ⟨p, hp, hcp⟩
        rcases List.mem_cons.1 hp with rfl | hp
        · rw [e1] at hcp; exact .inl hcp
        · exact .inr ⟨p, hp, hcp⟩
      · rintro (h | ⟨p, hp, hcp⟩)
        · exact ⟨_, List.mem_cons_self, by rw [e1]; exact h⟩
        · exact ⟨p, List.mem_cons_of_mem _ hp, hcp⟩
theorem byte_at {s : ByteArray} {c : UInt8} (h : c ∈ s.data.toList) : ∃ k, k < s.size ∧ bAt s k = c := by
  obtain ⟨k, hk, e⟩ := List.getElem_of_mem h
  exact ⟨k, by simpa using hk, by unfold bAt; simp [List.getD, List.getElem?_eq_getElem hk, e]⟩
theorem step_star {p : ByteArray} (h : partOk true p = true) : (stepOf p).star = true ↔ (42 : UInt8) ∈ p.data.toList := by
  have hk : keyOkB p = true → (42 : UInt8) ∉ p.data.toList := fun hk hm => by
    obtain ⟨k, hk1, hk2⟩ := byte_at hm
    unfold keyOkB at hk
    simp only [Bool.and_eq_true] at hk
    have := allN_iff.1 hk.2 k hk1
    rw [hk2] at this
    exact absurd this (by decide)
  have hi : indexB p = true → (42 : UInt8) ∉ p.data.toList := fun hi hm => by
    obtain ⟨k, hk1, hk2⟩ := byte_at hm
    unfold indexB digs at hi
    simp only [Bool.and_eq_true] at hi
    have := allN_iff.1 hi.1.2 k hk1
    rw [hk2] at this
    exact absurd this (by decide)
  unfold stepOf
  by_cases h1 : keyOkB p = true
  · rw [if_pos h1]
    simp only [Bool.false_eq_true, false_iff]
    exact hk h1
  · rw [if_neg h1]
    by_cases h2 : p = ⟨#[42]⟩
    · rw [if_pos h2]
      subst h2
      simp
    · rw [if_neg h2]
      simp only [Bool.false_eq_true, false_iff]
      refine hi ?_
      unfold partOk at h
      simp only [Bool.or_eq_true, Bool.and_eq_true, decide_eq_true_eq] at h
      rcases h with (h | h) | h
      · exact absurd h h1
      · exact absurd h.2 h2
      · exact h
/-- Whether one of the steps is a star. -/
def anyStar (l : List Stp) : Bool := l.any (·.star)
theorem star_route {s : ByteArray} (h : routeOk true s = true) (h0 : ¬ s = ⟨#[]⟩) : anyStar ((partsR s).map stepOf) = starB s := by
  have hl : ¬ (400 : Int) < s.size := fun h1 => by rw [routeOk_long h1] at h; cases h
  obtain ⟨e1, e2⟩ := routeOk_all (stars := true) hl h0
  rw [e1] at h
  rw [e2, Bool.eq_iff_iff, starB_iff, ← pcs_star 42 (by decide) (Lib.countB s ⟨#[46]⟩) s]
  unfold anyStar pcs
  rw [List.any_eq_true]
  have ha := List.all_eq_true.1 h
  constructor
  · rintro ⟨x, hx, hs⟩
    obtain ⟨p, hp, rfl⟩ := List.mem_map.1 hx
    exact ⟨p, hp, (step_star (ha p hp)).1 hs⟩
  · rintro ⟨p, hp, hs⟩
    exact ⟨_, List.mem_map.2 ⟨p, hp, rfl⟩, (step_star (ha p hp)).2 hs⟩
theorem parts_none {s : ByteArray} (h : ¬ (400 : Int) < s.size) : (partsR s).length = 0 ↔ s = ⟨#[]⟩ := by
  by_cases h0 : s = ⟨#[]⟩
  · rw [(routeOk_nil (stars := false) h0).2]
    simp [h0]
  · rw [(routeOk_all (stars := false) h h0).2, pcs_len _ _ (by decide)]
    simp [h0]
/-! ## What is wrong with a field -/
/-- What is wrong with the strings of which a value is one, from a place on. -/
def oneE (l : List ByteArray) (k : Nat) : Int := if k < l.length then (if 5000 < (l.getD k ⟨#[]⟩).size then 4 else if badStr (l.getD k ⟨#[]⟩) = true then 9 else oneE l (k + 1)) else 0
  termination_by l.length - k
theorem oneE_end {l : List ByteArray} {k : Nat} (h : ¬ k < l.length) : oneE l k = 0 := by rw [oneE, if_neg h]
theorem oneE_at {l : List ByteArray} {k : Nat} (h : k < l.length) : oneE l k = if 5000 < (l.getD k ⟨#[]⟩).size then 4 else if badStr (l.getD k ⟨#[]⟩) = true then 9 else oneE l (k + 1) := by rw [oneE, if_pos h]
/-- .. behind the strings. -/
def fieldT (f : Fd) (ce : Int) (st : Bool) : Int := if ce ≠ 0 then ce else if f.dflt.kind ≠ 0 ∧ f.kind ≠ -1 ∧ f.dflt.kind ≠ f.kind then 10 else if f.dflt.kind ≠ 0 ∧ st = true then 1 else 0
/-- .. ahead of the strings. -/
def fieldA (f : Fd) (ok dup : Bool) : Int :=
  if ok = false ∨ f.route = ⟨#[]⟩ then 3 else if dup = true then 6 else if f.kind ≠ -1 ∧ (f.kind < 0 ∨ 6 < f.kind) then 10 else if f.bounded = false ∧ (f.lo ≠ 0 ∨ f.hi ≠ 0) then 1 else if f.hi < f.lo then 5 else if 0 < f.oneOf.length ∧ f.kind ≠ 3 then 1 else 0
def fieldE (f : Fd) (dup : Bool) : Int :=
  if fieldA f (routeOk true f.route) dup ≠ 0 then fieldA f (routeOk true f.route) dup else if oneE f.oneOf 0 ≠ 0 then oneE f.oneOf 0 else fieldT f (checkE f.dflt) (starB f.route)
/-- Whether the route of field k came before. -/
def dupB (l : List Fd) (s : ByteArray) (k : Nat) : Bool := (l.take k).any (fun g => decide (g.route = s))
def schemaF (l : List Fd) (k : Nat) : Int := if k < l.length then (if fieldE (l.getD k default) (dupB l (l.getD k default).route k) = 0 then schemaF l (k + 1) else fieldE (l.getD k default) (dupB l (l.getD k default).route k)) else 0
  termination_by l.length - k
theorem schemaF_end {l : List Fd} {k : Nat} (h : ¬ k < l.length) : schemaF l k = 0 := by rw [schemaF, if_neg h]
theorem schemaF_at {l : List Fd} {k : Nat} (h : k < l.length) : schemaF l k = if fieldE (l.getD k default) (dupB l (l.getD k default).route k) = 0 then schemaF l (k + 1) else fieldE (l.getD k default) (dupB l (l.getD k default).route k) := by rw [schemaF, if_pos h]
def schemaE (l : List Fd) : Int := if 100 < l.length then 4 else schemaF l 0
/-- The routes of the first k fields as a map's content. -/
noncomputable def routesM (l : List Fd) : Nat → List (Value × DD)
  | 0 => []
  | k + 1 => mset (routesM l k) (.string (l.getD k default).route) (dB true)
theorem mset_mem {κ : Type} {es : List (Value × D κ)} {k : Value} {d : D κ} {p : Value × D κ} (h : p ∈ mset es k d) : p = (k, d) ∨ (p ∈ es ∧ p.1 ≠ k) := by
  unfold mset at h
  split at h
  · obtain ⟨q, hq, e⟩ := List.mem_map.1 h
    split at e
    · exact .inl e.symm
    · rename_i hne
      exact .inr ⟨e ▸ hq, e ▸ hne⟩
  · rename_i hno
    rcases List.mem_append.1 h with h | h
    · exact .inr ⟨h, fun e => hno ⟨p, h, e⟩⟩
    · exact .inl (List.mem_singleton.1 h)
theorem mset_new {κ : Type} (es : List (Value × D κ)) (k : Value) (d : D κ) : (k, d) ∈ mset es k d := by
  unfold mset
  split
  · rename_i h
    obtain ⟨q, hq, e⟩ := h
    exact List.mem_map.2 ⟨q, hq, by rw [if_pos e]⟩
  · exact List.mem_append_right _ (List.mem_singleton.2 rfl)
theorem mset_old {κ : Type} {es : List (Value × D κ)} {k : Value} {d : D κ} {p : Value × D κ} (h : p ∈ es) (hne : p.1 ≠ k) : p ∈ mset es k d := by
  unfold mset
  split
  · exact List.mem_map.2 ⟨p, h, by rw [if_neg hne]⟩
  · exact List.mem_append_left _ h
theorem dupB_succ {l : List Fd} {s : ByteArray} {k : Nat} (h : k < l.length) : dupB l s (k + 1) = (dupB l s k || decide ((l.getD k default).route = s)) := by
  unfold dupB
  rw [take_snoc l default k h, List.any_append, List.any_cons, List.any_nil, Bool.or_false]
theorem look_routes {l : List Fd} {s : ByteArray} : ∀ k, k ≤ l.length → Look (routesM l k) (.string s) (dB false) (dupB l s k, dB (dupB l s k))
  | 0, _ => .inr ⟨fun p hp => by simp [routesM] at hp, by simp [dupB]⟩
  | k + 1, hk => by
    have ih := look_routes (l := l) (s := s) k (by omega)
    rw [dupB_succ (by omega)]
    by_cases h : (l.getD k default).route = s
    · rw [decide_eq_true h, Bool.or_true]
      refine .inl ⟨_, mset_new _ _ _, ?_, rfl⟩
      show Value.string _ = _
      rw [h]
    · rw [decide_eq_false h, Bool.or_false]
      rcases ih with ⟨p, hp, h1, h2⟩ | ⟨h1, h2⟩
      · refine .inl ⟨p, mset_old hp (fun e => h ?_), h1, h2⟩
        rw [h1] at e
        injection e with e
        exact e.symm
      · refine .inr ⟨fun p hp => ?_, h2⟩
        rcases mset_mem hp with rfl | ⟨hp, _⟩
        · intro e
          injection e with e
          exact h e
        · exact h1 p hp
end Go.Proofs.YtdpbgpkjlbdbfaaGreatDoor
