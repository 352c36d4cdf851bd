/-
  Faults of a value by a schema: stepName, judge.walk.
-/
import Derived.Test.YtilfmjldcigagaaGreatDoorFt3
import Derived.Test.YtilfmjldcigagaaGreatDoorFt4
namespace Go.Proofs.YtilfmjldcigagaaGreatDoor
open Go.RowKit
set_option linter.unusedVariables false
set_option pp.maxSteps 300
set_option linter.unusedSimpArgs false
namespace ft
theorem cons_at {α β : Type} (s : α) (L : List α) (d : α) (g : α → Nat → β) (i j : Nat) : g ((s :: L).getD (i + 1) d) j = g (L.getD i d) j := by rw [List.getD_cons_succ]
section
variable (E : Env)
set_option maxRecDepth 100000
theorem whole_sp (n : Int) : Sp (cx Tryz.prog mixed tyT_ok E) 124 [i64 n] (encV ⟨2, false, n, ⟨#[]⟩, [], []⟩) := by
  refine Sp.body Tryz.func124 (by kernel_rfl) rfl (by kernel_rfl) (by kernel_rfl) (by kernel_rfl) ?_
  repeat' first
    | (refine facW_intro ?_; intro _)
    | refine Or.inl ?_
    | ((conv => whnf); first | (refine condW_dec ?_ ?_ <;> intro _ <;> try (exfalso; omega)) | refine condW_not ?_ | (refine condW_bool ?_ ?_ <;> intro _ <;> try (exfalso; omega)) | (refine nbC_t (fun _ => ?_) ?_) | (refine nbC_f ?_ (fun _ => ?_)))
    | refine And.intro (by first | omega | (simp only [Int.toNat_natCast] at *; omega) | (simp only [Nat.reduceAdd, Int.cast_ofNat_Int, true_and, and_true]; omega) | kernel_rfl) ?_
    | refine RegW.run ?_
    | fail
  all_goals first
    | exact Dle.agg (X := (cx Tryz.prog mixed tyT_ok E)) ⟨Dle.refl _ _, Dle.refl _ _, Dle.refl _ _, Dle.refl _ _, Dle.rc (X := (cx Tryz.prog mixed tyT_ok E)) Dle.nil, Dle.nil (X := (cx Tryz.prog mixed tyT_ok E)), trivial⟩
    | trace_state
theorem wordN_sp (hP : ∀ w, E.G w → P10 w) (n : Nat) (hn : n ≤ 1000000) : Sp (cx Tryz.prog mixed tyT_ok E) 123 [encV ⟨2, false, n, ⟨#[]⟩, [], []⟩] (dS (decS n)) := by
  have h1 := itoaN_sp E hP n hn
  generalize decS n = s at h1
  refine Sp.body Tryz.func123 (by kernel_rfl) rfl (by kernel_rfl) (by kernel_rfl) (by kernel_rfl) ?_
  repeat' first
    | (refine facW_intro ?_; intro _)
    | refine Or.inl ?_
    | ((conv => whnf); first | (refine condW_dec ?_ ?_ <;> intro _ <;> try (exfalso; omega)) | refine condW_not ?_ | (refine condW_bool ?_ ?_ <;> intro _ <;> try (exfalso; omega)) | (refine nbC_t (fun _ => ?_) ?_) | (refine nbC_f ?_ (fun _ => ?_)))
    | refine And.intro (by first | omega | (simp only [Int.toNat_natCast] at *; omega) | (simp only [Nat.reduceAdd, Int.cast_ofNat_Int, true_and, and_true]; omega) | kernel_rfl) ?_
    | refine RegW.run ?_
    | refine ⟨_, h1, ?_⟩
    | fail
  all_goals first
    | exact Dle.refl _ _
    | trace_state
theorem stepName_sp (hP : ∀ w, E.G w → P10 w) (p : ByteArray) (h : partOk false p = true) : Sp (cx Tryz.prog mixed tyT_ok E) 97 [encStep (stepOf p)] (dS p) := by
  by_cases hk : keyOkB p = true
  · have e : stepOf p = ⟨p, 0, false⟩ := by unfold stepOf; rw [if_pos hk]
    have hne : ¬ p = ⟨#[]⟩ := fun e => by subst e; exact absurd (part_cases h).1 (by decide)
    rw [e]
    refine Sp.body Tryz.func97 (by kernel_rfl) rfl (by kernel_rfl) (by kernel_rfl) (by kernel_rfl) ?_
    repeat' first
      | (refine facW_intro ?_; intro _)
      | refine Or.inl ?_
      | ((conv => whnf); first | (refine condW_dec ?_ ?_ <;> intro _ <;> try (exfalso; omega)) | refine condW_not ?_ | (refine condW_bool ?_ ?_ <;> intro _ <;> try (exfalso; omega)) | (refine nbC_t (fun _ => ?_) ?_) | (refine nbC_f ?_ (fun _ => ?_)))
      | refine And.intro (by first | omega | (simp only [Int.toNat_natCast] at *; omega) | (simp only [Nat.reduceAdd, Int.cast_ofNat_Int, true_and, and_true]; omega) | kernel_rfl) ?_
      | refine RegW.run ?_
      | fail
    all_goals first
      | (exfalso; exact hne (by assumption))
      | exact Dle.refl _ _
      | trace_state
  · have hk : keyOkB p = false := by simpa using hk
    have hi : indexB p = true := by unfold partOk at h; rw [hk] at h; simpa using h
    obtain ⟨hd, hb⟩ := dec_num hi
    have h1 := whole_sp E (numN p)
    have h2 := wordN_sp E hP (numN p) hb
    have e := step_idx hk hi
    rw [hd] at h2
    rw [e]
    generalize numN p = n at h1 h2
    refine Sp.body Tryz.func97 (by kernel_rfl) rfl (by kernel_rfl) (by kernel_rfl) (by kernel_rfl) ?_
    repeat' first
      | (refine facW_intro ?_; intro _)
      | refine Or.inl ?_
      | ((conv => whnf); first | (refine condW_dec ?_ ?_ <;> intro _ <;> try (exfalso; omega)) | refine condW_not ?_ | (refine condW_bool ?_ ?_ <;> intro _ <;> try (exfalso; omega)) | (refine nbC_t (fun _ => ?_) ?_) | (refine nbC_f ?_ (fun _ => ?_)))
      | refine And.intro (by first | omega | (simp only [Int.toNat_natCast] at *; omega) | (simp only [Nat.reduceAdd, Int.cast_ofNat_Int, true_and, and_true]; omega) | kernel_rfl) ?_
      | refine RegW.run ?_
      | refine ⟨_, h1, ?_⟩
      | refine ⟨_, h2, ?_⟩
      | fail
    all_goals first
      | (exfalso; rename_i h; exact h rfl)
      | exact Dle.refl _ _
      | trace_state
theorem value_22 (l : List Flt) (hl : l.length ≤ 1000000000) (f : Fd) (v : Vu) (r : ByteArray) :
    SpH (cx Tryz.prog mixed tyT_ok E) 94 [.ptr 3000 0, encF f, encV v, dS r] (jH l 3000 2000) (.tup []) (jH (l ++ valF f v r) 3000 22) := by
  have h := (value_sp E l hl f v r).swap 72 22
  have e1 : swp 72 22 3000 = 3000 := by decide
  have e2 : swp 72 22 2000 = 2000 := by decide
  have e3 : swp 72 22 72 = 22 := by decide
  simp only [D.renL, D.ren, renH, Ob.ren, encF, encV, encStrs, e1, e2, e3] at h
  exact h
theorem add_2000_75 (l : List Flt) (hl : l.length ≤ 1000000000000) (r : ByteArray) (k : Int) :
    SpH (cx Tryz.prog mixed tyT_ok E) 46 [.ptr 3000 0, dS r, i64 k] (jH l 3000 2000) (.tup []) (jH (l ++ [(r, k)]) 3000 75) := by
  have h := (add_sp E l hl r k).swap 15 75
  have e1 : swp 15 75 3000 = 3000 := by decide
  have e2 : swp 15 75 2000 = 2000 := by decide
  have e3 : swp 15 75 15 = 75 := by decide
  simp only [D.renL, D.ren, renH, Ob.ren, e1, e2, e3] at h
  exact h
/-- A walk's contract under other labels. -/
theorem walk_ren {f : Fd} {L : List Stp} {l l' : List Flt} {v : Vu} {r : ByteArray} {a b c d : Nat} (h : SpH (cx Tryz.prog mixed tyT_ok E) 42 [.ptr 3000 0, encF f, encSteps L, encV v, dS r] (jH l 3000 a) (.tup []) (jH l' 3000 b))
    (e1 : swp b d (swp a c 3000) = 3000) (e2 : swp b d (swp a c a) = c) (e3 : swp b d (swp a c b) = d) : SpH (cx Tryz.prog mixed tyT_ok E) 42 [.ptr 3000 0, encF f, encSteps L, encV v, dS r] (jH l 3000 c) (.tup []) (jH l' 3000 d) := by
  have h := (h.swap a c).swap b d
  simp only [D.renL, D.ren, renH, Ob.ren, encF, encV, encStrs, encSteps, e1, e2, e3] at h
  exact h
set_option maxHeartbeats 8000000 in
theorem walk_any (hP : ∀ w, E.G w → P10 w) (f : Fd) : ∀ (ps : List ByteArray) (l : List Flt) (v : Vu) (r : ByteArray), (∀ p ∈ ps, partOk true p = true) → faultE v = 0 → cnt v ≤ 1000 → v.wt ≤ 100000000 → r.size + 100 * v.wt + 50 * ps.length ≤ 100000000000 → l.length + 3000 * (ps.length + 1) ≤ 1000000000 →
    SpH (cx Tryz.prog mixed tyT_ok E) 42 [.ptr 3000 0, encF f, encSteps (ps.map stepOf), encV v, dS r] (jH l 3000 2000) (.tup []) (jH (l ++ walkF f ps v r) 3000 75)
  | [], l, v, r, _, hf, hc, hw, hr, hl => by
    have h1 := value_22 E l (by simp only [List.length_nil] at hl; omega) f v r
    rw [walk_nil]
    refine SpH.body Tryz.func42 (by kernel_rfl) rfl (by kernel_rfl) (by kernel_rfl) (by kernel_rfl) ?_
    repeat' first
      | refine Or.inr ⟨_, _, _, h1, by kernel_rfl, (by repeat' first | exact trivial | exact rfl | kernel_rfl | exact Dle.of_eq rfl | exact MLe.of_eq rfl | exact Dle.i (by omega) | exact Dle.i (by simp only [Int.toNat_natCast] at *; omega) | exact Dle.nil | exact Dle.rc Dle.nil | exact Option.some_ne_none _ | exact Or.inl rfl | exact Or.inr trivial | omega | (simp only [Int.toNat_natCast] at *; omega) | (intro _ _ _ _; exact Dle.of_eq rfl) | refine And.intro ?_ ?_), ?_⟩
      | (refine facW_intro ?_; intro _)
      | refine Or.inl ?_
      | ((conv => whnf); first | (refine condW_dec ?_ ?_ <;> intro _ <;> try (exfalso; omega)) | refine condW_not ?_ | (refine condW_bool ?_ ?_ <;> intro _ <;> try (exfalso; omega)) | (refine nbC_t (fun _ => ?_) ?_) | (refine nbC_f ?_ (fun _ => ?_)))
      | refine And.intro (by first | omega | (simp only [Int.toNat_natCast] at *; omega) | (simp only [Nat.reduceAdd, Int.cast_ofNat_Int, true_and, and_true]; omega) | kernel_rfl) ?_
      | refine RegW.run ?_
      | fail
    all_goals first
      | exact ⟨[(3000, .cells [.own 75 2 0 (l ++ valF f v r).length])], [(75, 95, (l ++ valF f v r).length, rowQ (l ++ valF f v r))], rfl, ⟨[(75, some 22)], ⟨by kernel_rfl, by kernel_rfl, by kernel_rfl, by kernel_rfl, by kernel_rfl, by kernel_rfl, by kernel_rfl⟩, (by repeat' first | exact trivial | exact rfl | kernel_rfl | exact Dle.of_eq rfl | exact MLe.of_eq rfl | exact Dle.i (by omega) | exact Dle.i (by simp only [Int.toNat_natCast] at *; omega) | exact Dle.nil | exact Dle.rc Dle.nil | exact Option.some_ne_none _ | exact Or.inl rfl | exact Or.inr trivial | omega | (simp only [Int.toNat_natCast] at *; omega) | (intro _ _ _ _; exact Dle.of_eq rfl) | (intro i j hi hj; exact Dle.refl _ _) | refine And.intro ?_ ?_)⟩, rfl⟩
      | trace_state
  | p :: t, l, v, r, ho, hf, hc, hw, hr, hl => by
    have ih := fun l v r => walk_any hP f t l v r (fun q hq => ho q (List.mem_cons_of_mem _ hq))
    have hkl := (fault_keys hf).2
    have hpo := ho p List.mem_cons_self
    have hps := part_size hpo
    have hcv := cnt_eq v
    have hil := len_le_cntL v.items
    have hkw := keys_le_wt v
    simp only [List.length_cons] at hr hl
    obtain ⟨L, hLe⟩ : ∃ L, L = (p :: t).map stepOf := ⟨_, rfl⟩
    have hLl : L.length = t.length + 1 := by rw [hLe, List.length_map]; rfl
    have hL0 : L.getD (Int.toNat 0) default = stepOf p := by rw [hLe]; rfl
    have hLi : ∀ i, L.getD (i + 1) default = (t.map stepOf).getD i default := fun i => by rw [hLe, List.map_cons, List.getD_cons_succ]
    have hsl : ∀ (n : Nat) (g : Nat → Nat → DD), n = t.length → (∀ i j, g i j = (L.getD (i + 1) default).cell j) → Dle (cx Tryz.prog mixed tyT_ok E) (.sl 3 32 n g) (encSteps (t.map stepOf)) := fun n g hn hg => Dle.sl (X := (cx Tryz.prog mixed tyT_ok E)) (by rw [List.length_map]; exact hn) (fun i j _ _ => Dle.of_eq (by rw [hg, hLi]))
    rw [← hLe]
    clear hLe
    rcases part_star hpo with ⟨hs, rfl⟩ | ⟨hs, hne, hpf⟩
    · rw [walk_star]
      have hz0 : l ++ walkP f t v r 0 = l := List.append_nil l
      have hz : l.length = (l ++ walkP f t v r 0).length := by rw [hz0]
      have hs0 : (L.getD (Int.toNat 0) default).star = true := by rw [hL0]; exact hs
      refine SpH.body Tryz.func42 (by kernel_rfl) rfl (by kernel_rfl) (by kernel_rfl) (by kernel_rfl) ?_
      repeat' first
        | (refine facW_intro ?_; intro _)
        | refine Or.inl ?_
        | ((conv => whnf); first | (refine condW_dec ?_ ?_ <;> intro _ <;> try (exfalso; omega)) | refine condW_not ?_ | (refine condW_bool ?_ ?_ <;> intro _ <;> try (exfalso; omega)) | (refine nbC_t (fun _ => ?_) ?_) | (refine nbC_f ?_ (fun _ => ?_)))
        | refine And.intro (by first | omega | (simp only [Int.toNat_natCast] at *; omega) | (simp only [Nat.reduceAdd, Int.cast_ofNat_Int, true_and, and_true]; omega) | kernel_rfl) ?_
        | refine RegW.run ?_
        | fail
      all_goals try (exfalso; exact absurd (hs0.symm.trans (show (L.getD (Int.toNat 0) default).star = false by assumption)) (by decide))
      refine ⟨Nat, fun k => [(30, i64 k)], fun k => [(3000, .cells [.own 30 2 0 (l ++ walkP f t v r k).length])], [6, 8], fun k => [(30, 95, (l ++ walkP f t v r k).length, rowQ (l ++ walkP f t v r k))], fun k => k ≤ v.items.length, fun k => v.items.length - k, ⟨0, by omega, ⟨[(30, some 2000)], ⟨by kernel_rfl, by kernel_rfl, by kernel_rfl, by kernel_rfl, by kernel_rfl, by kernel_rfl, by kernel_rfl⟩, (by repeat' first | ((first | exact hz | (intro i j hi hj; exact Dle.of_eq (by rw [hz0])))) | exact trivial | exact rfl | kernel_rfl | exact Dle.of_eq rfl | exact MLe.of_eq rfl | exact Dle.i (by omega) | exact Dle.i (by simp only [Int.toNat_natCast] at *; omega) | exact Dle.nil | exact Dle.rc Dle.nil | exact Option.some_ne_none _ | exact Or.inl rfl | exact Or.inr trivial | omega | (simp only [Int.toNat_natCast] at *; omega) | (intro _ _ _ _; exact Dle.of_eq rfl) | refine And.intro ?_ ?_)⟩⟩, fun k hk => ?_⟩
      have hk : k ≤ v.items.length := hk
      by_cases hlt : k < v.items.length
      · have hm := getD_mem v.items .zero k hlt
        have g1 := wt_child hm
        have g2 := cnt_mem v.items _ hm
        have g6 := part_wt (v := v) (i := k) (by omega)
        have g7 := joinR_size r (partK v.kind v.keys k)
        have g8 := walkP_len f t v r k hk hf
        have hl3 : (l ++ walkP f t v r k).length = l.length + (walkP f t v r k).length := List.length_append
        have h1 := part_sp E hP v k hlt hkl (by omega)
        have h2 := joined_sp E r (partK v.kind v.keys k) (by omega)
        have h3 := walk_ren E (c := 30) (d := 45) (ih (l ++ walkP f t v r k) _ (joinR r (partK v.kind v.keys k)) (fault_mem hf hlt) (by omega) (by omega) (by omega) (by omega)) (by decide) (by decide) (by decide)
        have e2 : l ++ walkP f t v r (k + 1) = (l ++ walkP f t v r k) ++ walkF f t (v.items.getD k .zero) (joinR r (partK v.kind v.keys k)) := by rw [walkP_succ, List.append_assoc]
        have e3 := (congrArg List.length e2).symm
        repeat' first
          | refine Or.inr ⟨_, _, _, (SpH.args h3 ⟨Dle.refl _ _, Dle.refl _ _, hsl _ _ (by omega) (fun i j => rfl), Dle.refl _ _, Dle.refl _ _, trivial⟩), by kernel_rfl, (by repeat' first | exact trivial | exact rfl | kernel_rfl | exact Dle.of_eq rfl | exact MLe.of_eq rfl | exact Dle.i (by omega) | exact Dle.i (by simp only [Int.toNat_natCast] at *; omega) | exact Dle.nil | exact Dle.rc Dle.nil | exact Option.some_ne_none _ | exact Or.inl rfl | exact Or.inr trivial | omega | (simp only [Int.toNat_natCast] at *; omega) | (intro _ _ _ _; exact Dle.of_eq rfl) | refine And.intro ?_ ?_), ?_⟩
          | (refine facW_intro ?_; intro _)
          | refine Or.inl ?_
          | ((conv => whnf); first | (refine condW_dec ?_ ?_ <;> intro _ <;> try (exfalso; omega)) | refine condW_not ?_ | (refine condW_bool ?_ ?_ <;> intro _ <;> try (exfalso; omega)) | (refine nbC_t (fun _ => ?_) ?_) | (refine nbC_f ?_ (fun _ => ?_)))
          | refine And.intro (by first | omega | (simp only [Int.toNat_natCast] at *; omega) | (simp only [Nat.reduceAdd, Int.cast_ofNat_Int, true_and, and_true]; omega) | kernel_rfl) ?_
          | refine RegW.run ?_
          | refine ⟨_, h1, ?_⟩
          | refine ⟨_, h2, ?_⟩
          | fail
        all_goals first
          | exact ⟨k + 1, by omega, ⟨[(30, some 45)], ⟨by kernel_rfl, by kernel_rfl, by kernel_rfl, by kernel_rfl, by kernel_rfl, by kernel_rfl, by kernel_rfl⟩, (by repeat' first | (exact e3) | exact trivial | exact rfl | kernel_rfl | exact Dle.of_eq rfl | exact MLe.of_eq rfl | exact Dle.i (by omega) | exact Dle.i (by simp only [Int.toNat_natCast] at *; omega) | exact Dle.nil | exact Dle.rc Dle.nil | exact Option.some_ne_none _ | exact Or.inl rfl | exact Or.inr trivial | omega | (simp only [Int.toNat_natCast] at *; omega) | (intro _ _ _ _; exact Dle.of_eq rfl) | (intro i j hi hj; (rw [e2]; exact Dle.refl _ _)) | refine And.intro ?_ ?_)⟩, by first | omega | (dsimp only; omega)⟩
          | trace_state
      · obtain rfl : k = v.items.length := by omega
        repeat' first
          | (refine facW_intro ?_; intro _)
          | refine Or.inl ?_
          | ((conv => whnf); first | (refine condW_dec ?_ ?_ <;> intro _ <;> try (exfalso; omega)) | refine condW_not ?_ | (refine condW_bool ?_ ?_ <;> intro _ <;> try (exfalso; omega)) | (refine nbC_t (fun _ => ?_) ?_) | (refine nbC_f ?_ (fun _ => ?_)))
          | refine And.intro (by first | omega | (simp only [Int.toNat_natCast] at *; omega) | (simp only [Nat.reduceAdd, Int.cast_ofNat_Int, true_and, and_true]; omega) | kernel_rfl) ?_
          | refine RegW.run ?_
          | fail
        all_goals first
          | exact ⟨[(3000, .cells [.own 75 2 0 (l ++ walkP f t v r v.items.length).length])], [(75, 95, (l ++ walkP f t v r v.items.length).length, rowQ (l ++ walkP f t v r v.items.length))], rfl, ⟨[(75, some 30)], ⟨by kernel_rfl, by kernel_rfl, by kernel_rfl, by kernel_rfl, by kernel_rfl, by kernel_rfl, by kernel_rfl⟩, (by repeat' first | exact trivial | exact rfl | kernel_rfl | exact Dle.of_eq rfl | exact MLe.of_eq rfl | exact Dle.i (by omega) | exact Dle.i (by simp only [Int.toNat_natCast] at *; omega) | exact Dle.nil | exact Dle.rc Dle.nil | exact Option.some_ne_none _ | exact Or.inl rfl | exact Or.inr trivial | omega | (simp only [Int.toNat_natCast] at *; omega) | (intro _ _ _ _; exact Dle.of_eq rfl) | (intro i j hi hj; exact Dle.refl _ _) | refine And.intro ?_ ?_)⟩, rfl⟩
          | trace_state
    · have hst := stepOf_ok p
      have hs0 : (L.getD (Int.toNat 0) default).star = false := by rw [hL0]; exact hs
      have h1 : Sp (cx Tryz.prog mixed tyT_ok E) 97 [encStep (L.getD (Int.toNat 0) default)] (dS p) := by rw [hL0]; exact stepName_sp E hP p hpf
      have h2 := joined_sp E r p (by omega)
      have h3 := follow_sp E v (stepOf p) hst hkl (by omega)
      have hj := joinR_size r p
      cases hfo : followS v (stepOf p) with
      | none =>
        rw [walk_none hne hfo]
        rw [hfo] at h3
        have h3 : Sp (cx Tryz.prog mixed tyT_ok E) 98 [encV v, encStep (L.getD (Int.toNat 0) default)] (.tup [encV .zero, dB false]) := by rw [hL0]; exact h3
        cases hn : f.need
        · rw [if_neg (by decide)]
          refine SpH.body Tryz.func42 (by kernel_rfl) rfl (by kernel_rfl) (by kernel_rfl) (by kernel_rfl) ?_
          repeat' first
            | (refine facW_intro ?_; intro _)
            | refine Or.inl ?_
            | ((conv => whnf); first | (refine condW_dec ?_ ?_ <;> intro _ <;> try (exfalso; omega)) | refine condW_not ?_ | (refine condW_bool ?_ ?_ <;> intro _ <;> try (exfalso; omega)) | (refine nbC_t (fun _ => ?_) ?_) | (refine nbC_f ?_ (fun _ => ?_)))
            | refine And.intro (by first | omega | (simp only [Int.toNat_natCast] at *; omega) | (simp only [Nat.reduceAdd, Int.cast_ofNat_Int, true_and, and_true]; omega) | kernel_rfl) ?_
            | refine RegW.run ?_
            | refine ⟨_, h1, ?_⟩
            | refine ⟨_, h2, ?_⟩
            | refine ⟨_, h3, ?_⟩
            | fail
          all_goals first
          | (exfalso; exact absurd (hs0.symm.trans (show (L.getD (Int.toNat 0) default).star = true by assumption)) (by decide))
            | (exfalso; exact absurd (hn.symm.trans (show f.need = true by assumption)) (by decide))
            | exact ⟨[(3000, .cells [.own 75 2 0 (l ++ []).length])], [(75, 95, (l ++ []).length, rowQ (l ++ []))], rfl, ⟨[(75, some 2000)], ⟨by kernel_rfl, by kernel_rfl, by kernel_rfl, by kernel_rfl, by kernel_rfl, by kernel_rfl, by kernel_rfl⟩, (by repeat' first | (first | exact Dle.of_eq (by simp) | (simp; done)) | exact trivial | exact rfl | kernel_rfl | exact Dle.of_eq rfl | exact MLe.of_eq rfl | exact Dle.i (by omega) | exact Dle.i (by simp only [Int.toNat_natCast] at *; omega) | exact Dle.nil | exact Dle.rc Dle.nil | exact Option.some_ne_none _ | exact Or.inl rfl | exact Or.inr trivial | omega | (simp only [Int.toNat_natCast] at *; omega) | (intro _ _ _ _; exact Dle.of_eq rfl) | (intro i j hi hj; exact Dle.of_eq (by simp)) | refine And.intro ?_ ?_)⟩, rfl⟩
            | trace_state
        · rw [if_pos rfl]
          have h4 := add_2000_75 E l (by omega) (joinR r p) 1
          refine SpH.body Tryz.func42 (by kernel_rfl) rfl (by kernel_rfl) (by kernel_rfl) (by kernel_rfl) ?_
          repeat' first
            | refine Or.inr ⟨_, _, _, h4, by kernel_rfl, (by repeat' first | exact trivial | exact rfl | kernel_rfl | exact Dle.of_eq rfl | exact MLe.of_eq rfl | exact Dle.i (by omega) | exact Dle.i (by simp only [Int.toNat_natCast] at *; omega) | exact Dle.nil | exact Dle.rc Dle.nil | exact Option.some_ne_none _ | exact Or.inl rfl | exact Or.inr trivial | omega | (simp only [Int.toNat_natCast] at *; omega) | (intro _ _ _ _; exact Dle.of_eq rfl) | refine And.intro ?_ ?_), ?_⟩
            | (refine facW_intro ?_; intro _)
            | refine Or.inl ?_
            | ((conv => whnf); first | (refine condW_dec ?_ ?_ <;> intro _ <;> try (exfalso; omega)) | refine condW_not ?_ | (refine condW_bool ?_ ?_ <;> intro _ <;> try (exfalso; omega)) | (refine nbC_t (fun _ => ?_) ?_) | (refine nbC_f ?_ (fun _ => ?_)))
            | refine And.intro (by first | omega | (simp only [Int.toNat_natCast] at *; omega) | (simp only [Nat.reduceAdd, Int.cast_ofNat_Int, true_and, and_true]; omega) | kernel_rfl) ?_
            | refine RegW.run ?_
            | refine ⟨_, h1, ?_⟩
            | refine ⟨_, h2, ?_⟩
            | refine ⟨_, h3, ?_⟩
            | fail
          all_goals first
          | (exfalso; exact absurd (hs0.symm.trans (show (L.getD (Int.toNat 0) default).star = true by assumption)) (by decide))
            | (exfalso; exact absurd (hn.symm.trans (show f.need = false by assumption)) (by decide))
            | exact ⟨[(3000, .cells [.own 75 2 0 (l ++ [(joinR r p, 1)]).length])], [(75, 95, (l ++ [(joinR r p, 1)]).length, rowQ (l ++ [(joinR r p, 1)]))], rfl, ⟨[(75, some 75)], ⟨by kernel_rfl, by kernel_rfl, by kernel_rfl, by kernel_rfl, by kernel_rfl, by kernel_rfl, by kernel_rfl⟩, (by repeat' first | exact trivial | exact rfl | kernel_rfl | exact Dle.of_eq rfl | exact MLe.of_eq rfl | exact Dle.i (by omega) | exact Dle.i (by simp only [Int.toNat_natCast] at *; omega) | exact Dle.nil | exact Dle.rc Dle.nil | exact Option.some_ne_none _ | exact Or.inl rfl | exact Or.inr trivial | omega | (simp only [Int.toNat_natCast] at *; omega) | (intro _ _ _ _; exact Dle.of_eq rfl) | (intro i j hi hj; exact Dle.refl _ _) | refine And.intro ?_ ?_)⟩, rfl⟩
            | trace_state
      | some x =>
        rw [walk_some hne hfo]
        obtain ⟨m, hm, rfl⟩ := follow_cnt hst hf hfo
        rw [hfo] at h3
        have h3 : Sp (cx Tryz.prog mixed tyT_ok E) 98 [encV v, encStep (L.getD (Int.toNat 0) default)] (.tup [encV (v.items.getD m .zero), dB true]) := by rw [hL0]; exact h3
        have hx := getD_mem v.items .zero m hm
        have g1 := wt_child hx
        have g2 := cnt_mem v.items _ hx
        have h4 := walk_ren E (c := 2000) (d := 69) (ih l _ (joinR r p) (fault_mem hf hm) (by omega) (by omega) (by omega) (by omega)) (by decide) (by decide) (by decide)
        refine SpH.body Tryz.func42 (by kernel_rfl) rfl (by kernel_rfl) (by kernel_rfl) (by kernel_rfl) ?_
        repeat' first
          | refine Or.inr ⟨_, _, _, (SpH.args h4 ⟨Dle.refl _ _, Dle.refl _ _, hsl _ _ (by omega) (fun i j => rfl), Dle.refl _ _, Dle.refl _ _, trivial⟩), by kernel_rfl, (by repeat' first | exact trivial | exact rfl | kernel_rfl | exact Dle.of_eq rfl | exact MLe.of_eq rfl | exact Dle.i (by omega) | exact Dle.i (by simp only [Int.toNat_natCast] at *; omega) | exact Dle.nil | exact Dle.rc Dle.nil | exact Option.some_ne_none _ | exact Or.inl rfl | exact Or.inr trivial | omega | (simp only [Int.toNat_natCast] at *; omega) | (intro _ _ _ _; exact Dle.of_eq rfl) | refine And.intro ?_ ?_), ?_⟩
          | (refine facW_intro ?_; intro _)
          | refine Or.inl ?_
          | ((conv => whnf); first | (refine condW_dec ?_ ?_ <;> intro _ <;> try (exfalso; omega)) | refine condW_not ?_ | (refine condW_bool ?_ ?_ <;> intro _ <;> try (exfalso; omega)) | (refine nbC_t (fun _ => ?_) ?_) | (refine nbC_f ?_ (fun _ => ?_)))
          | refine And.intro (by first | omega | (simp only [Int.toNat_natCast] at *; omega) | (simp only [Nat.reduceAdd, Int.cast_ofNat_Int, true_and, and_true]; omega) | kernel_rfl) ?_
          | refine RegW.run ?_
          | refine ⟨_, h1, ?_⟩
          | refine ⟨_, h2, ?_⟩
          | refine ⟨_, h3, ?_⟩
          | fail
        all_goals first
          | (exfalso; exact absurd (hs0.symm.trans (show (L.getD (Int.toNat 0) default).star = true by assumption)) (by decide))
          | exact ⟨[(3000, .cells [.own 75 2 0 (l ++ walkF f t (v.items.getD m .zero) (joinR r p)).length])], [(75, 95, (l ++ walkF f t (v.items.getD m .zero) (joinR r p)).length, rowQ (l ++ walkF f t (v.items.getD m .zero) (joinR r p)))], rfl, ⟨[(75, some 69)], ⟨by kernel_rfl, by kernel_rfl, by kernel_rfl, by kernel_rfl, by kernel_rfl, by kernel_rfl, by kernel_rfl⟩, (by repeat' first | exact trivial | exact rfl | kernel_rfl | exact Dle.of_eq rfl | exact MLe.of_eq rfl | exact Dle.i (by omega) | exact Dle.i (by simp only [Int.toNat_natCast] at *; omega) | exact Dle.nil | exact Dle.rc Dle.nil | exact Option.some_ne_none _ | exact Or.inl rfl | exact Or.inr trivial | omega | (simp only [Int.toNat_natCast] at *; omega) | (intro _ _ _ _; exact Dle.of_eq rfl) | (intro i j hi hj; exact Dle.refl _ _) | refine And.intro ?_ ?_)⟩, rfl⟩
          | trace_state
end
end ft
end Go.Proofs.YtilfmjldcigagaaGreatDoor
