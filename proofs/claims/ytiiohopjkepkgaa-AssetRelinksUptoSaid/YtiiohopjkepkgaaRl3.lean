/-
  Names put for the paths of links: asset.Relink over data.
-/
import Derived.Test.YtiiohopjkepkgaaRl2
namespace Go.Proofs.Ytiiohopjkepkgaa
open Go.RowKit
set_option linter.unusedVariables false
set_option linter.unusedSimpArgs false
namespace rl
open tk
def rowN (l : List Nm) (i j : Nat) : DD := match j with | 0 => dS (l.getD i nz).1 | 1 => dS (l.getD i nz).2 | _ => .opq
def encNs (l : List Nm) : DD := .sl 2 32 l.length (rowN l)
structure Rl where
  s : ByteArray
  a : Int
  e : Int
def errL (a e : Int) : Rl := ⟨⟨#[]⟩, a, e⟩
def encRl (r : Rl) : DD := .tup [dS r.s, i64 r.a, i64 r.e]
/-- What a style with names put for its paths is. -/
def relE (s : ByteArray) (l : List Nm) : Rl :=
  if 20000 < s.size ∨ 40 < l.length then errL 0 4
  else if nmE l 0 ≠ 0 then errL 0 (nmE l 0)
  else if (linksE s).e ≠ 0 then errL (linksE s).at' (linksE s).e
  else if 200000 < (s.size : Int) + szK (nmL l) (linksE s).l (linksE s).l.length then errL 0 4
  else ⟨rlS s (nmL l) (linksE s).l, 0, 0⟩
theorem links_ord (s : ByteArray) : Ord s (linksE s).l ∧ (linksE s).l.length ≤ 20000 := by
  have h1 := toks_ok s false
  have h2 := toks_len s false
  unfold linksE
  split
  · exact ⟨fun k hk => by simp at hk, by simp⟩
  · have h3 := lkP_len (toksE s false).l (toksE s false).l.length
    exact ⟨(ord_lk h1 _ (Nat.le_refl _)).1, by simp only; omega⟩
theorem links_path (s : ByteArray) : ∀ j, j < (linksE s).l.length → ((linksE s).l.getD j .zero).p.size ≤ 20000 := by
  have key : ∀ (l : List Tk) (hl : AllOk s false l) (hs : 0 < l.length → s.size ≤ 20000) m, m ≤ l.length → ∀ x ∈ lkP l m, x.p.size ≤ 20000 := by
    intro l hl hs m
    induction m with
    | zero => intro _ x hx; simp [lkP] at hx
    | succ m ih =>
      intro hm x hx
      have hm2 : m < l.length := by omega
      cases hc : lkC l m
      · rw [lkP_no hc] at hx; exact ih (by omega) x hx
      · rw [lkP_yes hc] at hx
        rcases List.mem_append.1 hx with hx | hx
        · exact ih (by omega) x hx
        · obtain rfl := List.mem_singleton.1 hx
          obtain ⟨⟨f, e, hf, he, hlt, hes, g3, g4, _⟩, _⟩ := hl m hm2
          have hk2 : (l.getD m .zero).k = 2 := by
            unfold lkC at hc
            simp only [Bool.and_eq_true, decide_eq_true_eq] at hc
            exact hc.2.2.2.2.1
          have hz := g3 (by omega)
          have := hs (by omega)
          show ((l.getD m .zero).t.extract 1 ((l.getD m .zero).t.size - 1)).size ≤ 20000
          rw [ByteArray.size_extract]
          omega
  intro j hj
  have hm : (linksE s).l.getD j .zero ∈ (linksE s).l := by
    rw [List.getD_eq_getElem?_getD, List.getElem?_eq_getElem hj]
    exact List.getElem_mem _
  generalize (linksE s).l.getD j .zero = x at hm ⊢
  unfold linksE at hm
  split at hm
  · simp at hm
  · exact key _ (toks_ok s false) (fun h => toks_small (sc := false) (k := 0) h) _ (Nat.le_refl _) x hm
section
variable (E : Env)
set_option maxRecDepth 100000
theorem badName_sp (s : ByteArray) : Sp (cx Try.prog mixed tyT_ok E) 6 [dS s] (dB (badN s)) := by
  refine Sp.body Try.func6 (by kernel_rfl) rfl (by kernel_rfl) (by kernel_rfl) (by kernel_rfl) ?_
  repeat' first
    | (refine codeW_cond rfl ?_; first | (refine condW_dec ?_ ?_ <;> intro _ <;> try (exfalso; omega)) | refine condW_not ?_ | (refine condW_bool ?_ ?_ <;> intro _ <;> try (exfalso; omega)))
    | (refine facW_intro ?_; intro _)
    | refine Or.inl ?_
    | ((conv => whnf); first | (refine condW_dec ?_ ?_ <;> intro _ <;> try (exfalso; omega)) | refine condW_not ?_ | (refine condW_bool ?_ ?_ <;> intro _ <;> try (exfalso; omega)) | (refine nbC_t (fun _ => ?_) ?_) | (refine nbC_f ?_ (fun _ => ?_)))
    | refine And.intro (by first | omega | (simp only [Int.toNat_natCast] at *; omega) | (simp only [Nat.reduceAdd, Int.cast_ofNat_Int, true_and, and_true]; omega) | kernel_rfl) ?_
    | refine RegW.run ?_
    | fail
  refine ⟨Nat, fun k => [(3, i64 k)], fun k => [], [], fun k => [], fun k => k ≤ s.size ∧ allN k (fun i => decide (badC (at_ s i) = false)) = true, fun k => s.size - k, ⟨0, ⟨Nat.zero_le _, rfl⟩, ⟨[], ⟨by kernel_rfl, by kernel_rfl, by kernel_rfl, by kernel_rfl, by kernel_rfl, by kernel_rfl, by kernel_rfl⟩, (by repeat' first | exact trivial | exact rfl | kernel_rfl | exact Dle.of_eq rfl | exact MLe.of_eq rfl | exact Dle.i (by omega) | exact Dle.i (by simp only [Int.toNat_natCast] at *; omega) | exact Dle.nil | exact Dle.rc Dle.nil | exact Option.some_ne_none _ | exact Or.inl rfl | exact Or.inr trivial | omega | (simp only [Int.toNat_natCast] at *; omega) | (intro _ _ _ _; exact Dle.of_eq rfl) | refine And.intro ?_ ?_)⟩⟩, fun k hk => ?_⟩
  obtain ⟨hk, ha⟩ := hk
  have hc : badC (at_ s k) = (decide (((bAt s ((k : Int)).toNat).toNat : Int) < 33) || (decide (((bAt s ((k : Int)).toNat).toNat : Int) = 34) || (decide (((bAt s ((k : Int)).toNat).toNat : Int) = 39) || (decide (((bAt s ((k : Int)).toNat).toNat : Int) = 92) || decide (((bAt s ((k : Int)).toNat).toNat : Int) = 127))))) := by
    unfold badC at_
    simp only [Int.toNat_natCast]
    congr 1
    · exact decide_eq_decide.2 (by omega)
    · congr 1
      · exact decide_eq_decide.2 (by omega)
      · congr 1
        · exact decide_eq_decide.2 (by omega)
        · congr 1 <;> exact decide_eq_decide.2 (by omega)
  by_cases hlt : k < s.size
  · repeat' first
      | (refine codeW_cond rfl ?_; first | (refine condW_dec ?_ ?_ <;> intro _ <;> try (exfalso; omega)) | refine condW_not ?_ | (refine condW_bool ?_ ?_ <;> intro _ <;> try (exfalso; omega)))
      | (refine facW_intro ?_; intro _)
      | refine Or.inl ?_
      | ((conv => whnf); first | (refine condW_dec ?_ ?_ <;> intro _ <;> try (exfalso; omega)) | refine condW_not ?_ | (refine condW_bool ?_ ?_ <;> intro _ <;> try (exfalso; omega)) | (refine nbC_t (fun _ => ?_) ?_) | (refine nbC_f ?_ (fun _ => ?_)))
      | refine And.intro (by first | omega | (simp only [Int.toNat_natCast] at *; omega) | (simp only [Nat.reduceAdd, Int.cast_ofNat_Int, true_and, and_true]; omega) | kernel_rfl) ?_
      | refine RegW.run ?_
      | fail
    all_goals first
      | (rename_i h
         have h9 : badC (at_ s k) = false := by
           rw [hc]
           simp only [Int.toNat_natCast] at *
           simp_all
         exact ⟨k + 1, ⟨by omega, allN_succ ha (decide_eq_true h9)⟩, ⟨[], ⟨by kernel_rfl, by kernel_rfl, by kernel_rfl, by kernel_rfl, by kernel_rfl, by kernel_rfl, by kernel_rfl⟩, (by repeat' first | exact trivial | exact rfl | kernel_rfl | exact Dle.of_eq rfl | exact MLe.of_eq rfl | exact Dle.i (by omega) | exact Dle.i (by simp only [Int.toNat_natCast] at *; omega) | exact Dle.nil | exact Dle.rc Dle.nil | exact Option.some_ne_none _ | exact Or.inl rfl | exact Or.inr trivial | omega | (simp only [Int.toNat_natCast] at *; omega) | (intro _ _ _ _; exact Dle.of_eq rfl) | refine And.intro ?_ ?_)⟩, by first | omega | (dsimp only; omega)⟩)
      | (rename_i h
         have h9 : badC (at_ s k) = true := by
           rw [hc]
           simp only [Int.toNat_natCast] at *
           simp_all
         rw [badN_yes hlt h9]
         exact Dle.refl _ _)
      | trace_state
  · obtain rfl : k = s.size := by omega
    repeat' first
      | (refine codeW_cond rfl ?_; first | (refine condW_dec ?_ ?_ <;> intro _ <;> try (exfalso; omega)) | refine condW_not ?_ | (refine condW_bool ?_ ?_ <;> intro _ <;> try (exfalso; omega)))
      | (refine facW_intro ?_; intro _)
      | refine Or.inl ?_
      | ((conv => whnf); first | (refine condW_dec ?_ ?_ <;> intro _ <;> try (exfalso; omega)) | refine condW_not ?_ | (refine condW_bool ?_ ?_ <;> intro _ <;> try (exfalso; omega)) | (refine nbC_t (fun _ => ?_) ?_) | (refine nbC_f ?_ (fun _ => ?_)))
      | refine And.intro (by first | omega | (simp only [Int.toNat_natCast] at *; omega) | (simp only [Nat.reduceAdd, Int.cast_ofNat_Int, true_and, and_true]; omega) | kernel_rfl) ?_
      | refine RegW.run ?_
      | fail
    all_goals first
      | (rw [badN_no ha]; exact Dle.refl _ _)
      | trace_state
set_option maxHeartbeats 8000000 in
theorem relink_sp (hML : ∀ w, E.G w → ML w) (s : ByteArray) (l : List Nm) (hn : ∀ x ∈ l, x.2.size ≤ 1048576) : Sp (cx Try.prog mixed tyT_ok E) 4 [dS s, encNs l] (encRl (relE s l)) := by
  obtain ⟨r, hr⟩ : ∃ r, r = relE s l := ⟨_, rfl⟩
  rw [← hr]
  unfold relE at hr
  have h1 := links1_sp E hML s
  obtain ⟨ho, hL⟩ := links_ord s
  have hps := links_path s
  have hnm : ∀ p x, nmL l p = some x → x.size ≤ 1048576 := fun p x h => by
    obtain ⟨k, hk, rfl⟩ := nmL_mem h
    refine hn _ ?_
    rw [List.getD_eq_getElem?_getD, List.getElem?_eq_getElem hk]
    exact List.getElem_mem _
  generalize linksE s = q at *
  unfold encLs at h1
  obtain ⟨L, a0, e0⟩ := q
  simp only at h1 ho hL hps hr
  by_cases hbig : 20000 < s.size ∨ 40 < l.length
  · rw [if_pos hbig] at hr
    refine Sp.body Try.func4 (by kernel_rfl) rfl (by kernel_rfl) (by kernel_rfl) (by kernel_rfl) ?_
    repeat' first
      | (refine codeW_cond rfl ?_; first | (refine condW_dec ?_ ?_ <;> intro _ <;> try (exfalso; omega)) | refine condW_not ?_ | (refine condW_bool ?_ ?_ <;> intro _ <;> try (exfalso; omega)))
      | (refine facW_intro ?_; intro _)
      | refine Or.inl ?_
      | ((conv => whnf); first | (refine condW_dec ?_ ?_ <;> intro _ <;> try (exfalso; omega)) | refine condW_not ?_ | (refine condW_bool ?_ ?_ <;> intro _ <;> try (exfalso; omega)) | (refine nbC_t (fun _ => ?_) ?_) | (refine nbC_f ?_ (fun _ => ?_)))
      | refine And.intro (by first | omega | (simp only [Int.toNat_natCast] at *; omega) | (simp only [Nat.reduceAdd, Int.cast_ofNat_Int, true_and, and_true]; omega) | kernel_rfl) ?_
      | refine RegW.run ?_
      | fail
    all_goals first
      | (exfalso; omega)
      | (rw [hr]; exact Dle.refl _ _)
      | trace_state
  · rw [if_neg hbig] at hr
    refine Sp.body Try.func4 (by kernel_rfl) rfl (by kernel_rfl) (by kernel_rfl) (by kernel_rfl) ?_
    repeat' first
      | (refine codeW_cond rfl ?_; first | (refine condW_dec ?_ ?_ <;> intro _ <;> try (exfalso; omega)) | refine condW_not ?_ | (refine condW_bool ?_ ?_ <;> intro _ <;> try (exfalso; omega)))
      | (refine facW_intro ?_; intro _)
      | refine Or.inl ?_
      | ((conv => whnf); first | (refine condW_dec ?_ ?_ <;> intro _ <;> try (exfalso; omega)) | refine condW_not ?_ | (refine condW_bool ?_ ?_ <;> intro _ <;> try (exfalso; omega)) | (refine nbC_t (fun _ => ?_) ?_) | (refine nbC_f ?_ (fun _ => ?_)))
      | refine And.intro (by first | omega | (simp only [Int.toNat_natCast] at *; omega) | (simp only [Nat.reduceAdd, Int.cast_ofNat_Int, true_and, and_true]; omega) | kernel_rfl) ?_
      | refine RegW.run ?_
      | fail
    all_goals try (exfalso; omega)
    refine ⟨Nat, fun k => [(33, i64 k)], fun k => [(28, .map 27 (mpN l k))], [], fun k => [], fun k => k ≤ l.length ∧ (∀ i, i < k → dupN l i = false) ∧ nmE l 0 = nmE l k, fun k => l.length - k, ⟨0, ⟨Nat.zero_le _, fun i hi => by omega, rfl⟩, ⟨[], ⟨by kernel_rfl, by kernel_rfl, by kernel_rfl, by kernel_rfl, by kernel_rfl, by kernel_rfl, by kernel_rfl⟩, (by repeat' first | exact trivial | exact rfl | kernel_rfl | exact Dle.of_eq rfl | exact MLe.of_eq rfl | exact Dle.i (by omega) | exact Dle.i (by simp only [Int.toNat_natCast] at *; omega) | exact Dle.nil | exact Dle.rc Dle.nil | exact Option.some_ne_none _ | exact Or.inl rfl | exact Or.inr trivial | omega | (simp only [Int.toNat_natCast] at *; omega) | (intro _ _ _ _; exact Dle.of_eq rfl) | refine And.intro ?_ ?_)⟩⟩, fun k hk => ?_⟩
    obtain ⟨hk, hd, hE⟩ := hk
    by_cases hlt : k < l.length
    · have hlk : Look (mpN l k) (.string (l.getD ((k : Int)).toNat nz).1) (dS ⟨#[]⟩) (dupN l k, dS ((nmL (l.take k) (l.getD k nz).1).getD ⟨#[]⟩)) := look_names k hk hd
      have hb := badName_sp E (l.getD ((k : Int)).toNat nz).2
      have n1 := nmE_dup hlt
      have n2 := nmE_bad hlt
      have n3 := nmE_next hlt
      generalize (nmL (l.take k) (l.getD k nz).1).getD ⟨#[]⟩ = z at hlk
      have hbb : badN (l.getD ((k : Int)).toNat nz).2 = badN (l.getD k nz).2 := rfl
      rw [hbb] at hb
      cases hdk : dupN l k
      · rw [hdk] at hlk
        have n2 := n2 hdk
        have n3 := n3 hdk
        cases hbk : badN (l.getD k nz).2
        · rw [hbk] at hb
          have n3 := n3 hbk
          repeat' first
            | (refine codeW_cond rfl ?_; first | (refine condW_dec ?_ ?_ <;> intro _ <;> try (exfalso; omega)) | refine condW_not ?_ | (refine condW_bool ?_ ?_ <;> intro _ <;> try (exfalso; omega)))
            | (refine facW_intro ?_; intro _)
            | refine Or.inl ?_
            | ((conv => whnf); first | (refine condW_dec ?_ ?_ <;> intro _ <;> try (exfalso; omega)) | refine condW_not ?_ | (refine condW_bool ?_ ?_ <;> intro _ <;> try (exfalso; omega)) | (refine nbC_t (fun _ => ?_) ?_) | (refine nbC_f ?_ (fun _ => ?_)))
            | refine And.intro (by first | omega | (simp only [Int.toNat_natCast] at *; omega) | (simp only [Nat.reduceAdd, Int.cast_ofNat_Int, true_and, and_true]; omega) | kernel_rfl) ?_
            | refine RegW.run ?_
            | refine ⟨_, hlk, ?_⟩
            | refine ⟨_, hb, ?_⟩
            | fail
          all_goals first
            | (exfalso; rename_i h; cases h; done)
            | (exfalso; rename_i h; exact absurd rfl h)
            | exact ⟨k + 1, ⟨by omega, fun i hi => if hik : i = k then hik ▸ hdk else hd i (by omega), hE.trans n3⟩, ⟨[], ⟨by kernel_rfl, by kernel_rfl, by kernel_rfl, by kernel_rfl, by kernel_rfl, by kernel_rfl, by kernel_rfl⟩, (by repeat' first | exact trivial | exact rfl | kernel_rfl | exact Dle.of_eq rfl | exact MLe.of_eq rfl | exact Dle.i (by omega) | exact Dle.i (by simp only [Int.toNat_natCast] at *; omega) | exact Dle.nil | exact Dle.rc Dle.nil | exact Option.some_ne_none _ | exact Or.inl rfl | exact Or.inr trivial | omega | (simp only [Int.toNat_natCast] at *; omega) | (intro _ _ _ _; exact Dle.of_eq rfl) | refine And.intro ?_ ?_)⟩, by first | omega | (dsimp only; omega)⟩
            | trace_state
        · rw [hbk] at hb
          have n2 := n2 hbk
          have hr2 : r = errL 0 9 := by rw [hE, n2, if_pos (by decide)] at hr; exact hr
          repeat' first
            | (refine codeW_cond rfl ?_; first | (refine condW_dec ?_ ?_ <;> intro _ <;> try (exfalso; omega)) | refine condW_not ?_ | (refine condW_bool ?_ ?_ <;> intro _ <;> try (exfalso; omega)))
            | (refine facW_intro ?_; intro _)
            | refine Or.inl ?_
            | ((conv => whnf); first | (refine condW_dec ?_ ?_ <;> intro _ <;> try (exfalso; omega)) | refine condW_not ?_ | (refine condW_bool ?_ ?_ <;> intro _ <;> try (exfalso; omega)) | (refine nbC_t (fun _ => ?_) ?_) | (refine nbC_f ?_ (fun _ => ?_)))
            | refine And.intro (by first | omega | (simp only [Int.toNat_natCast] at *; omega) | (simp only [Nat.reduceAdd, Int.cast_ofNat_Int, true_and, and_true]; omega) | kernel_rfl) ?_
            | refine RegW.run ?_
            | refine ⟨_, hlk, ?_⟩
            | refine ⟨_, hb, ?_⟩
            | fail
          all_goals first
            | (exfalso; rename_i h; cases h; done)
            | (rw [hr2]; exact Dle.refl _ _)
            | trace_state
      · rw [hdk] at hlk
        have n1 := n1 hdk
        have hr2 : r = errL 0 6 := by rw [hE, n1, if_pos (by decide)] at hr; exact hr
        repeat' first
          | (refine codeW_cond rfl ?_; first | (refine condW_dec ?_ ?_ <;> intro _ <;> try (exfalso; omega)) | refine condW_not ?_ | (refine condW_bool ?_ ?_ <;> intro _ <;> try (exfalso; omega)))
          | (refine facW_intro ?_; intro _)
          | refine Or.inl ?_
          | ((conv => whnf); first | (refine condW_dec ?_ ?_ <;> intro _ <;> try (exfalso; omega)) | refine condW_not ?_ | (refine condW_bool ?_ ?_ <;> intro _ <;> try (exfalso; omega)) | (refine nbC_t (fun _ => ?_) ?_) | (refine nbC_f ?_ (fun _ => ?_)))
          | refine And.intro (by first | omega | (simp only [Int.toNat_natCast] at *; omega) | (simp only [Nat.reduceAdd, Int.cast_ofNat_Int, true_and, and_true]; omega) | kernel_rfl) ?_
          | refine RegW.run ?_
          | refine ⟨_, hlk, ?_⟩
          | refine ⟨_, hb, ?_⟩
          | fail
        all_goals first
          | (exfalso; rename_i h; cases h; done)
          | (rw [hr2]; exact Dle.refl _ _)
          | trace_state
    · obtain rfl : k = l.length := by omega
      have hE0 : nmE l 0 = 0 := hE.trans (nmE_end hlt)
      rw [if_neg (by rw [hE0]; decide)] at hr
      have hlook := fun p => look_names (s := p) l.length (Nat.le_refl _) hd
      simp only [List.take_length] at hlook
      have hre := fun h1 h2 => relinked_sp E s L 28 (mpN l l.length) (nmL l) h1 ho h2 (fun j hj => Nat.le_trans (hps j hj) (by decide)) hnm hlook
      have hre := hre (by omega) (by omega)
      have hsz := rlK_at (nm := nmL l) ho
      have hmx := szK_max (nm := nmL l) ho hnm
      by_cases he : e0 ≠ 0
      · rw [if_pos he] at hr
        repeat' first
          | (refine codeW_cond rfl ?_; first | (refine condW_dec ?_ ?_ <;> intro _ <;> try (exfalso; omega)) | refine condW_not ?_ | (refine condW_bool ?_ ?_ <;> intro _ <;> try (exfalso; omega)))
          | (refine facW_intro ?_; intro _)
          | refine Or.inl ?_
          | ((conv => whnf); first | (refine condW_dec ?_ ?_ <;> intro _ <;> try (exfalso; omega)) | refine condW_not ?_ | (refine condW_bool ?_ ?_ <;> intro _ <;> try (exfalso; omega)) | (refine nbC_t (fun _ => ?_) ?_) | (refine nbC_f ?_ (fun _ => ?_)))
          | refine And.intro (by first | omega | (simp only [Int.toNat_natCast] at *; omega) | (simp only [Nat.reduceAdd, Int.cast_ofNat_Int, true_and, and_true]; omega) | kernel_rfl) ?_
          | refine RegW.run ?_
          | refine ⟨_, h1, ?_⟩
          | fail
        all_goals first
          | (exfalso; rename_i h; exact he h)
          | (rw [hr]; exact Dle.refl _ _)
          | trace_state
      · rw [if_neg he] at hr
        have he : e0 = 0 := by omega
        subst he
        repeat' first
          | (refine codeW_cond rfl ?_; first | (refine condW_dec ?_ ?_ <;> intro _ <;> try (exfalso; omega)) | refine condW_not ?_ | (refine condW_bool ?_ ?_ <;> intro _ <;> try (exfalso; omega)))
          | (refine facW_intro ?_; intro _)
          | refine Or.inl ?_
          | ((conv => whnf); first | (refine condW_dec ?_ ?_ <;> intro _ <;> try (exfalso; omega)) | refine condW_not ?_ | (refine condW_bool ?_ ?_ <;> intro _ <;> try (exfalso; omega)) | (refine nbC_t (fun _ => ?_) ?_) | (refine nbC_f ?_ (fun _ => ?_)))
          | refine And.intro (by first | omega | (simp only [Int.toNat_natCast] at *; omega) | (simp only [Nat.reduceAdd, Int.cast_ofNat_Int, true_and, and_true]; omega) | kernel_rfl) ?_
          | refine RegW.run ?_
          | refine ⟨_, h1, ?_⟩
          | fail
        all_goals try (exfalso; rename_i h; exact h rfl)
        refine ⟨Nat, fun j => [(66, i64 j), (8, i64 (s.size + szK (nmL l) L j))], fun j => [], [28], fun j => [], fun j => j ≤ L.length, fun j => L.length - j, ⟨0, Nat.zero_le _, ⟨[], ⟨by kernel_rfl, by kernel_rfl, by kernel_rfl, by kernel_rfl, by kernel_rfl, by kernel_rfl, by kernel_rfl⟩, (by repeat' first | (exact Dle.i (by simp [szK])) | exact trivial | exact rfl | kernel_rfl | exact Dle.of_eq rfl | exact MLe.of_eq rfl | exact Dle.i (by omega) | exact Dle.i (by simp only [Int.toNat_natCast] at *; omega) | exact Dle.nil | exact Dle.rc Dle.nil | exact Option.some_ne_none _ | exact Or.inl rfl | exact Or.inr trivial | omega | (simp only [Int.toNat_natCast] at *; omega) | (intro _ _ _ _; exact Dle.of_eq rfl) | refine And.intro ?_ ?_)⟩⟩, fun j hj => ?_⟩
        have hj : j ≤ L.length := hj
        by_cases hjl : j < L.length
        · obtain ⟨z1, z2, z3⟩ := hsz j hj
          have z4 := hmx j hj
          obtain ⟨f, e, hf, he, hfe, hes, _⟩ := ho j hjl
          have hf' : (L.getD ((j : Int)).toNat .zero).f = f := hf
          have he' : (L.getD ((j : Int)).toNat .zero).e = e := he
          have hlk := hlook (L.getD ((j : Int)).toNat .zero).p
          have hpj : nmL l (L.getD ((j : Int)).toNat .zero).p = nmL l (L.getD j .zero).p := rfl
          rw [hpj] at hlk
          cases hnn : nmL l (L.getD j .zero).p with
          | none =>
            have e1 := (rlK_no (s := s) (nm := nmL l) (l := L) hnn).2
            rw [hnn] at hlk
            simp only [Option.isSome_none, Option.getD_none] at hlk
            repeat' first
              | (refine codeW_cond rfl ?_; first | (refine condW_dec ?_ ?_ <;> intro _ <;> try (exfalso; omega)) | refine condW_not ?_ | (refine condW_bool ?_ ?_ <;> intro _ <;> try (exfalso; omega)))
              | (refine facW_intro ?_; intro _)
              | refine Or.inl ?_
              | ((conv => whnf); first | (refine condW_dec ?_ ?_ <;> intro _ <;> try (exfalso; omega)) | refine condW_not ?_ | (refine condW_bool ?_ ?_ <;> intro _ <;> try (exfalso; omega)) | (refine nbC_t (fun _ => ?_) ?_) | (refine nbC_f ?_ (fun _ => ?_)))
              | refine And.intro (by first | omega | (simp only [Int.toNat_natCast] at *; omega) | (simp only [Nat.reduceAdd, Int.cast_ofNat_Int, true_and, and_true]; omega) | kernel_rfl) ?_
              | refine RegW.run ?_
              | refine ⟨_, hlk, ?_⟩
              | fail
            all_goals first
              | (exfalso; rename_i h; cases h; done)
              | exact ⟨j + 1, by omega, ⟨[], ⟨by kernel_rfl, by kernel_rfl, by kernel_rfl, by kernel_rfl, by kernel_rfl, by kernel_rfl, by kernel_rfl⟩, (by repeat' first | (exact Dle.i (by rw [e1])) | exact trivial | exact rfl | kernel_rfl | exact Dle.of_eq rfl | exact MLe.of_eq rfl | exact Dle.i (by omega) | exact Dle.i (by simp only [Int.toNat_natCast] at *; omega) | exact Dle.nil | exact Dle.rc Dle.nil | exact Option.some_ne_none _ | exact Or.inl rfl | exact Or.inr trivial | omega | (simp only [Int.toNat_natCast] at *; omega) | (intro _ _ _ _; exact Dle.of_eq rfl) | refine And.intro ?_ ?_)⟩, by first | omega | (dsimp only; omega)⟩
              | trace_state
          | some n =>
            have e1 := (rlK_yes (s := s) (nm := nmL l) (l := L) hnn).2
            have hn9 := hnm _ _ hnn
            rw [hnn] at hlk
            simp only [Option.isSome_some, Option.getD_some] at hlk
            repeat' first
              | (refine codeW_cond rfl ?_; first | (refine condW_dec ?_ ?_ <;> intro _ <;> try (exfalso; omega)) | refine condW_not ?_ | (refine condW_bool ?_ ?_ <;> intro _ <;> try (exfalso; omega)))
              | (refine facW_intro ?_; intro _)
              | refine Or.inl ?_
              | ((conv => whnf); first | (refine condW_dec ?_ ?_ <;> intro _ <;> try (exfalso; omega)) | refine condW_not ?_ | (refine condW_bool ?_ ?_ <;> intro _ <;> try (exfalso; omega)) | (refine nbC_t (fun _ => ?_) ?_) | (refine nbC_f ?_ (fun _ => ?_)))
              | refine And.intro (by first | omega | (simp only [Int.toNat_natCast] at *; omega) | (simp only [Nat.reduceAdd, Int.cast_ofNat_Int, true_and, and_true]; omega) | kernel_rfl) ?_
              | refine RegW.run ?_
              | refine ⟨_, hlk, ?_⟩
              | fail
            all_goals first
              | (exfalso; rename_i h; exact absurd rfl h)
              | exact ⟨j + 1, by omega, ⟨[], ⟨by kernel_rfl, by kernel_rfl, by kernel_rfl, by kernel_rfl, by kernel_rfl, by kernel_rfl, by kernel_rfl⟩, (by repeat' first | (exact Dle.i (by rw [e1, hf, he]; simp only [hf', he'] at *; omega)) | exact trivial | exact rfl | kernel_rfl | exact Dle.of_eq rfl | exact MLe.of_eq rfl | exact Dle.i (by omega) | exact Dle.i (by simp only [Int.toNat_natCast] at *; omega) | exact Dle.nil | exact Dle.rc Dle.nil | exact Option.some_ne_none _ | exact Or.inl rfl | exact Or.inr trivial | omega | (simp only [Int.toNat_natCast] at *; omega) | (intro _ _ _ _; exact Dle.of_eq rfl) | refine And.intro ?_ ?_)⟩, by first | omega | (dsimp only; omega)⟩
              | trace_state
        · obtain rfl : j = L.length := by omega
          by_cases hbg : 200000 < (s.size : Int) + szK (nmL l) L L.length
          · rw [if_pos hbg] at hr
            repeat' first
              | (refine codeW_cond rfl ?_; first | (refine condW_dec ?_ ?_ <;> intro _ <;> try (exfalso; omega)) | refine condW_not ?_ | (refine condW_bool ?_ ?_ <;> intro _ <;> try (exfalso; omega)))
              | (refine facW_intro ?_; intro _)
              | refine Or.inl ?_
              | ((conv => whnf); first | (refine condW_dec ?_ ?_ <;> intro _ <;> try (exfalso; omega)) | refine condW_not ?_ | (refine condW_bool ?_ ?_ <;> intro _ <;> try (exfalso; omega)) | (refine nbC_t (fun _ => ?_) ?_) | (refine nbC_f ?_ (fun _ => ?_)))
              | refine And.intro (by first | omega | (simp only [Int.toNat_natCast] at *; omega) | (simp only [Nat.reduceAdd, Int.cast_ofNat_Int, true_and, and_true]; omega) | kernel_rfl) ?_
              | refine RegW.run ?_
              | fail
            all_goals first
              | (exfalso; omega)
              | (rw [hr]; exact Dle.refl _ _)
              | trace_state
          · rw [if_neg hbg] at hr
            repeat' first
              | refine Or.inr ⟨_, _, _, hre, by kernel_rfl, (by repeat' first | exact trivial | exact rfl | kernel_rfl | exact Dle.of_eq rfl | exact MLe.of_eq rfl | exact Dle.i (by omega) | exact Dle.i (by simp only [Int.toNat_natCast] at *; omega) | exact Dle.nil | exact Dle.rc Dle.nil | exact Option.some_ne_none _ | exact Or.inl rfl | exact Or.inr trivial | omega | (simp only [Int.toNat_natCast] at *; omega) | (intro _ _ _ _; exact Dle.of_eq rfl) | refine And.intro ?_ ?_), ?_⟩
              | (refine codeW_cond rfl ?_; first | (refine condW_dec ?_ ?_ <;> intro _ <;> try (exfalso; omega)) | refine condW_not ?_ | (refine condW_bool ?_ ?_ <;> intro _ <;> try (exfalso; omega)))
              | (refine facW_intro ?_; intro _)
              | refine Or.inl ?_
              | ((conv => whnf); first | (refine condW_dec ?_ ?_ <;> intro _ <;> try (exfalso; omega)) | refine condW_not ?_ | (refine condW_bool ?_ ?_ <;> intro _ <;> try (exfalso; omega)) | (refine nbC_t (fun _ => ?_) ?_) | (refine nbC_f ?_ (fun _ => ?_)))
              | refine And.intro (by first | omega | (simp only [Int.toNat_natCast] at *; omega) | (simp only [Nat.reduceAdd, Int.cast_ofNat_Int, true_and, and_true]; omega) | kernel_rfl) ?_
              | refine RegW.run ?_
              | fail
            all_goals first
              | (exfalso; omega)
              | (rw [hr]; exact Dle.refl _ _)
              | trace_state
end
end rl
end Go.Proofs.Ytiiohopjkepkgaa
