/-
  asset.Bundle over data; the law. Rows of files as arguments.
-/
import Derived.Test.YtiiohopjkepkgaaGreatDoorBn1
import Derived.Test.YtiiohopjkepkgaaGreatDoorP
namespace Go.Proofs.YtiiohopjkepkgaaGreatDoor
open Go.RowKit Go.Shelf
set_option linter.unusedVariables false
set_option linter.unusedSimpArgs false
namespace bn
open mp32 md bl
section
variable (E : Env)
set_option maxRecDepth 100000
/-- A row of a call's own, of one cell an element, as data. -/
theorem own1_rep {W : World} {β : Bt} {B by_ n : Nat} {e : TypeId} {v : Value} {xs : List Value} (h : W.ownsRow B e 1 v n xs) (hb : n * by_ ≤ 140737488355328) (row : Nat → Nat → DD)
    (hr : ∀ i, i < n → ∃ x, xs[i]? = some x ∧ row i 0 = .v x ∧ okB x = true ∧ x.oneCell' = true) : Rep view (fun b _ => B ≤ b ∧ b < W.heap.size) W β (.sl 1 by_ n row) v := by
  rcases h.2 with ⟨rfl, h0⟩ | ⟨g, cap, cur, rfl, hB, hg, hn, hm, hs, ht⟩
  · subst h0
    exact .nil (Nat.zero_le _) (fun _ => rfl)
  · have hlt : g < W.heap.size := (Array.getElem?_eq_some_iff.1 hg).1
    rcases Nat.eq_zero_or_pos n with h0 | h0
    · subst h0
      exact .nil hm (fun g => by cases g)
    · refine .sl (fun i _ => xs.getD i undef) hn hm hb (fun i j hi hj => ?_) (fun i j hi hj => ?_)
      · obtain rfl : j = 0 := by omega
        obtain ⟨x, h1, h2, h3, h4⟩ := hr i hi
        have h5 : xs.getD i undef = x := by rw [List.getD_eq_getElem?_getD, h1]; rfl
        rw [h5]
        refine ⟨⟨hB, hlt⟩, ?_, h4⟩
        rw [Lib.cell_of_heap hg, ← h1, ← ht, List.getElem?_take, if_pos (by omega), Array.getElem?_toList]
        congr 1
        omega
      · obtain rfl : j = 0 := by omega
        obtain ⟨x, h1, h2, h3, h4⟩ := hr i hi
        have h5 : xs.getD i undef = x := by rw [List.getD_eq_getElem?_getD, h1]; rfl
        rw [h5, h2]
        exact .v h3
theorem rep_files {M : Nat → Nat → Prop} {w : World} {β : Bt} {l : List Fl} {x : Value} (hM : ∀ b o, M b o → b < w.heap.size) (h : Rep view M w β (encFl l) x) :
    ∃ A c, x = .slice A l.length c ∧ (l.length = 0 ∨ ∃ b o, A = some ⟨b, o, none⟩ ∧ b < w.heap.size ∧ ∀ j, j < l.length → w.cell? ⟨b, o + j * 2, none⟩ = some (.string (l.getD j fz).1) ∧ w.cell? ⟨b, o + j * 2 + 1, none⟩ = some (.string (l.getD j fz).2)) ∧ ∀ j, j < l.length → (l.getD j fz).1.size ≤ maxLen := by
  unfold encFl at h
  generalize hn : l.length = n at h
  cases h with
  | nil hc hA => exact ⟨_, _, rfl, .inl rfl, fun j hj => by omega⟩
  | @sl _ _ _ _ c b o _ u hc hm hb hu hr =>
    rcases Nat.eq_zero_or_pos n with h0 | h0
    · exact ⟨_, _, rfl, .inl h0, fun j hj => by omega⟩
    · refine ⟨_, _, rfl, .inr ⟨b, o, rfl, hM _ _ (hu 0 0 h0 (by omega)).1, fun j hj => ?_⟩, fun j hj => ?_⟩
      · obtain ⟨h1, h2, _⟩ := hu j 0 hj (by omega)
        obtain ⟨g1, g2, _⟩ := hu j 1 hj (by omega)
        have h3 := (hr j 0 hj (by omega)).val.1
        have g3 := (hr j 1 hj (by omega)).val.1
        rw [Nat.add_zero] at h1 h2
        rw [h3] at h2
        rw [g3] at g2
        exact ⟨h2, g2⟩
      · exact of_decide_eq_true (hr j 0 hj (by omega)).val.2
theorem bun_facts (l : List Fl) : (bunR l).b.size ≤ 200000 ∧ (bunR l).ps.length ≤ 40 ∧ (bunR l).es.length ≤ 40 ∧ ∀ n, (∀ j, j < l.length → (l.getD j fz).1.size ≤ n) → ∀ i, i < (bunR l).ps.length → ((bunR l).ps.getD i ⟨#[]⟩).size ≤ n := by
  unfold bunR
  have he : ∀ k, (errD k).b.size ≤ 200000 ∧ (errD k).ps.length ≤ 40 ∧ (errD k).es.length ≤ 40 ∧ ∀ n, (∀ j, j < l.length → (l.getD j fz).1.size ≤ n) → ∀ i, i < (errD k).ps.length → ((errD k).ps.getD i ⟨#[]⟩).size ≤ n := fun k => ⟨Nat.zero_le _, Nat.zero_le _, Nat.zero_le _, fun n h i hi => by cases hi⟩
  split
  · exact he _
  · rename_i h
    split
    · exact he _
    · split
      · exact he _
      · refine ⟨by simp only; omega, by simp only [pthF_len]; omega, by simp only [endF_len]; omega, fun n hh i hi => ?_⟩
        simp only [pthF_len] at hi
        simp only
        rw [pthF_at hi]
        exact hh i hi
theorem bundle_sp (hML : ∀ w, E.G w → ML w) (l : List Fl) (hl : l.length ≤ 4398046511104) : Sp (cx Tryz.prog mixed tyT_ok E) 7 [encFl l] (encBd (bunR l)) := by
  refine .inl ⟨⟨_, _, Tryz.func7, by kernel_rfl, rfl⟩, fun M β w vs hG hMG hM hlv hr hp hb => ?_⟩
  obtain ⟨A, c, h1, h4, h5⟩ := rep_files hM (hr 0 _ rfl)
  have evs : vs = #[.slice A l.length c] := by
    apply Array.ext
    · simpa using hlv
    · intro i g1 g2
      obtain rfl : i = 0 := by simp at g2; exact g2
      simpa [Array.getD, g1] using h1
  rw [evs]
  have hGW : ∀ W, Below w.heap.size w W → E.G W := fun W hB => E.keep w W hG ⟨hB.os, hB.tape, hB.output, hB.size, fun k hk _ => hB.block k (Nat.lt_of_lt_of_le hk (E.gsz w hG))⟩
  have key := bundle_raw A l.length c l w rfl hl h4 (fun s W hs hB => suf_raw E s ⟨#[10]⟩ (by unfold maxLen; omega) (by decide) W (hGW W hB)) (fun W P hB ho h40 => by
    refine (sp_raw E (partsFault_sp E hML (pthF l) (by rw [pthF_len]; exact h40)) (enters_of Tryz.func20 (by kernel_rfl) rfl) W #[P] (hGW W hB) rfl (fun i d hd => ?_)).mono ?_
    · match i, hd with
      | 0, hd =>
        injection hd with hd
        subst hd
        have hrep : Rep view (fun b _ => w.heap.size ≤ b ∧ b < W.heap.size) W b0 (.sl 1 16 l.length (fun i _ => dS ((pthF l).getD i ⟨#[]⟩))) P := own1_rep ho (by omega) _ (fun i hi => ⟨.string (l.getD i fz).1, by simp [strsL, hi], by rw [pthF_at hi], decide_eq_true (h5 i hi), rfl⟩)
        have hrep2 := hrep.mono (M' := fun b _ => b < W.heap.size) (fun _ _ h => h.2) (fun _ _ _ => rfl)
        unfold encStrs
        rw [pthF_len]
        exact hrep2
    · rintro e W' ⟨x, M', β', rfl, hB', _, hrep⟩
      exact ⟨by rw [hrep.val.1], hB'⟩)
  obtain ⟨f1, f2, f3, f4⟩ := bun_facts l
  have f4 := f4 _ h5
  refine key.mono ?_
  rintro e W' ⟨P, Q, rfl, h2, h3, hB⟩
  generalize bunR l = r at h2 h3 f1 f2 f3 f4
  have r2 : Rep view (fun b _ => w.heap.size ≤ b ∧ b < W'.heap.size) W' β (encStrs r.ps) P := own1_rep h2 (by omega) _ (fun i hi => ⟨.string (r.ps.getD i ⟨#[]⟩), by simp [hi, List.getD], rfl, decide_eq_true (f4 i hi), rfl⟩)
  have r3 : Rep view (fun b _ => w.heap.size ≤ b ∧ b < W'.heap.size) W' β (.sl 1 8 r.es.length (fun i _ => i64 (r.es.getD i 0))) Q := own1_rep h3 (by omega) _ (fun i hi => ⟨.int .i64 (r.es.getD i 0), by simp [hi, List.getD], rfl, rfl, rfl⟩)
  refine ⟨_, fun b o => M b o ∨ (w.heap.size ≤ b ∧ b < W'.heap.size), β, rfl, Kp.of hB _, fun _ _ _ => rfl, fun _ _ h => .inl h, fun b o h => h.elim .inl (fun g => .inr (.inr g)), Rep.mono (M := fun b _ => w.heap.size ≤ b ∧ b < W'.heap.size) (w := W') ?_ (fun _ _ h => .inr h) (fun _ _ _ => rfl), ⟨fun l o hm => (by cases hm), fun l o l' o' b c c' hm => (by cases hm)⟩, fun b ⟨l, o, c, hm, _⟩ => (by cases hm)⟩
  unfold encBd encB
  refine .tup rfl (fun i d hd => ?_)
  match i, hd with
  | 0, hd =>
    injection hd with hd
    subst hd
    refine .agg rfl (fun i hi => ?_) (fun i d hd => ?_)
    · have n2 : P.oneCell' = true := by obtain ⟨_, _, rfl⟩ := ownsRow_shape h2; rfl
      have n3 : Q.oneCell' = true := by obtain ⟨_, _, rfl⟩ := ownsRow_shape h3; rfl
      match i, hi with
      | 0, _ => rfl
      | 1, _ => exact n2
      | 2, _ => exact n3
    · match i, hd with
      | 0, hd =>
        injection hd with hd
        subst hd
        exact .v (decide_eq_true (by unfold maxLen; omega))
      | 1, hd =>
        injection hd with hd
        subst hd
        exact r2
      | 2, hd =>
        injection hd with hd
        subst hd
        exact r3
  | 1, hd =>
    injection hd with hd
    subst hd
    exact .v rfl
theorem assetBundles_sp (hML : ∀ w, E.G w → ML w) (l : List Fl) (hl : l.length ≤ 4398046511104) : Sp (cx Tryz.prog mixed tyT_ok E) 3 [encFl l] (dB true) := by
  have h1 := bundle_sp E hML l hl
  have h3 := bundleOf_sp E hML l hl
  obtain ⟨g0, g1, g2, _⟩ := bun_facts l
  generalize bunR l = r at h1 h3 g0 g1 g2
  have h4 := alikeB_sp E r.b r.ps r.es (by omega) (by omega)
  unfold encBd at *
  unfold encB at *
  refine Sp.body Tryz.func3 (by kernel_rfl) rfl (by kernel_rfl) (by kernel_rfl) (by kernel_rfl) ?_
  repeat' first
    | (refine facW_intro ?_; intro _)
    | refine Or.inl ?_
    | ((conv => whnf); first | (refine condW_dec ?_ ?_ <;> intro _ <;> try (exfalso; omega)) | refine condW_not ?_ | (refine condW_bool ?_ ?_ <;> intro _ <;> try (exfalso; omega)) | (refine nbC_t (fun _ => ?_) ?_) | (refine nbC_f ?_ (fun _ => ?_)))
    | refine And.intro (by first | omega | (simp only [Int.toNat_natCast] at *; omega) | (simp only [Nat.reduceAdd, Int.cast_ofNat_Int, true_and, and_true]; omega) | kernel_rfl) ?_
    | refine RegW.run ?_
    | refine ⟨_, h1, ?_⟩
    | refine ⟨_, h3, ?_⟩
    | refine ⟨_, h4, ?_⟩
    | fail
  all_goals first
    | (exfalso; rename_i h; exact h rfl)
    | exact Dle.bo (by simp)
    | trace_state
/-! ## The arguments -/
theorem files_of : ∀ (l : List (List DD × Nat)), (∀ x ∈ l, (∃ t : Fl, x.1 = [dS t.1, dS t.2]) ∧ x.1.length = 2) → ∃ vs : List Fl, vs.length = l.length ∧ ∀ i, i < l.length → (l.getD i ([], 0)).1 = [dS (vs.getD i fz).1, dS (vs.getD i fz).2]
  | [], _ => ⟨[], rfl, fun i hi => by simp at hi⟩
  | x :: l, h => by
    obtain ⟨vs, h2, h3⟩ := files_of l (fun y hy => h y (List.mem_cons_of_mem _ hy))
    obtain ⟨⟨t, h6⟩, _⟩ := h x List.mem_cons_self
    refine ⟨t :: vs, by simp [h2], fun i hi => ?_⟩
    match i, hi with
    | 0, _ => exact h6
    | i + 1, hi => exact h3 i (by simpa using hi)
end
end bn
end Go.Proofs.YtiiohopjkepkgaaGreatDoor
namespace Go.Proofs.YtiiohopjkepkgaaGreatDoor
open Go.RowKit
set_option linter.unusedVariables false
namespace bn
section
variable (E : Env)
theorem opn_file (N : Nat) : Opn (cx Tryz.prog mixed tyT_ok E) N 49 (fun ds n => ∃ t : Fl, ds = [dS t.1, dS t.2]) := by
  refine Opn.le (Opn.mono (opn_struct (X := (cx Tryz.prog mixed tyT_ok E)) (N := N) Tryz.underlying49 (by kernel_rfl) (by kernel_rfl) (by kernel_rfl) (Rs := [_, _])
    ⟨opn_str (X := (cx Tryz.prog mixed tyT_ok E)) Tryz.underlying9, opn_str (X := (cx Tryz.prog mixed tyT_ok E)) Tryz.underlying9, trivial⟩) ?_) (Nat.le_succ _)
  rintro ds n ⟨_, _, _, _, ⟨k, hk, rfl, rfl⟩, ⟨_, _, _, _, ⟨s, hs, rfl, rfl⟩, ⟨rfl, rfl⟩, rfl, rfl⟩, rfl, rfl⟩
  exact ⟨_, _, ⟨(k, s), rfl⟩, Nat.le_refl _, ⟨Dle.refl _ _, Dle.refl _ _, trivial⟩⟩
theorem opn_files (N : Nat) : Opn (cx Tryz.prog mixed tyT_ok E) N 22 (fun ds n => ∃ d : DD, ds = [d] ∧ ∃ l : List Fl, d = encFl l ∧ l.length ≤ 4398046511104) := by
  refine Opn.le (Opn.mono (opn_slice (X := (cx Tryz.prog mixed tyT_ok E)) Tryz.underlying22 (by kernel_rfl) (opn_file E N)) ?_) (Nat.le_succ _)
  rintro ds n ⟨l, hl, hb, rfl, rfl⟩
  obtain ⟨vs, h2, h3⟩ := files_of l hl
  have hb2 : l.length * 32 ≤ 140737488351232 := hb
  refine ⟨_, _, ⟨_, rfl, vs, rfl, by omega⟩, Nat.le_refl _, ⟨?_, trivial⟩⟩
  refine Dle.sl (X := (cx Tryz.prog mixed tyT_ok E)) (show l.length = vs.length from h2.symm) (fun i j hi hj => Dle.of_eq ?_)
  rw [h3 i hi]
  match j, hj with
  | 0, _ => rfl
  | 1, _ => rfl
end
end bn
end Go.Proofs.YtiiohopjkepkgaaGreatDoor
