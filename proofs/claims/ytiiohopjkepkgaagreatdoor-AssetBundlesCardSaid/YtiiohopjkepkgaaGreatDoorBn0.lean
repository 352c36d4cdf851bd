/-
  Files joined to a bundle: the plain law; mastref2.BundleOf over data.
-/
import Derived.Test.YtiiohopjkepkgaaGreatDoorMd7
namespace Go.Proofs.YtiiohopjkepkgaaGreatDoor
open Go.RowKit
set_option linter.unusedVariables false
set_option linter.unusedSimpArgs false
namespace bn
open mp32 md
abbrev Fl := ByteArray × ByteArray
def fz : Fl := (⟨#[]⟩, ⟨#[]⟩)
def rowF (l : List Fl) (i j : Nat) : DD := match j with | 0 => dS (l.getD i fz).1 | 1 => dS (l.getD i fz).2 | _ => .opq
def encFl (l : List Fl) : DD := .sl 2 32 l.length (rowF l)
def okSz (l : List Fl) : Bool := allN l.length (fun i => decide ((l.getD i fz).2.size ≤ 20000))
/-- What a body adds to a bundle. -/
def pcF (b : ByteArray) : ByteArray := if b = ⟨#[]⟩ then ⟨#[]⟩ else if sufS b ⟨#[10]⟩ = true then b else b ++ ⟨#[10]⟩
def bdF (l : List Fl) : Nat → ByteArray
  | 0 => ⟨#[]⟩
  | k + 1 => bdF l k ++ pcF (l.getD k fz).2
def pthF (l : List Fl) : List ByteArray := l.map (·.1)
theorem pthF_len (l : List Fl) : (pthF l).length = l.length := by simp [pthF]
theorem pthF_at {l : List Fl} {k : Nat} (h : k < l.length) : (pthF l).getD k ⟨#[]⟩ = (l.getD k fz).1 := by simp [pthF, List.getD, h]
def endF (l : List Fl) (n : Nat) : List Int := (List.range n).map (fun i => ((bdF l (i + 1)).size : Int))
theorem endF_len (l : List Fl) (n : Nat) : (endF l n).length = n := by simp [endF]
theorem endF_at {l : List Fl} {n k : Nat} (h : k < n) : (endF l n).getD k 0 = ((bdF l (k + 1)).size : Int) := by simp [endF, List.getD, h]
theorem pc_nil {b : ByteArray} (h : b = ⟨#[]⟩) (a : ByteArray) : a ++ pcF b = a ++ b := by unfold pcF; rw [if_pos h, h]
theorem pc_suf {b : ByteArray} (h : ¬ b = ⟨#[]⟩) (h2 : sufS b ⟨#[10]⟩ = true) (a : ByteArray) : a ++ pcF b = a ++ b := by unfold pcF; rw [if_neg h, if_pos h2]
theorem pc_add {b : ByteArray} (h : ¬ b = ⟨#[]⟩) (h2 : sufS b ⟨#[10]⟩ = false) (a : ByteArray) : a ++ pcF b = a ++ b ++ ⟨#[10]⟩ := by unfold pcF; rw [if_neg h, if_neg (by rw [h2]; decide), ByteArray.append_assoc]
theorem pc_size (b : ByteArray) : (pcF b).size ≤ b.size + 1 := by
  unfold pcF
  split
  · exact Nat.zero_le _
  · split
    · omega
    · rw [ByteArray.size_append]
      exact Nat.le_refl _
theorem bd_size {l : List Fl} (h : ∀ i, i < l.length → (l.getD i fz).2.size ≤ 20000) : ∀ k, k ≤ l.length → (bdF l k).size ≤ 20001 * k
  | 0, _ => Nat.zero_le _
  | k + 1, hk => by
    have h1 := bd_size h k (by omega)
    have h2 := pc_size (l.getD k fz).2
    have h3 := h k (by omega)
    show (bdF l k ++ pcF (l.getD k fz).2).size ≤ _
    rw [ByteArray.size_append]
    omega
structure Bd where
  b : ByteArray
  ps : List ByteArray
  es : List Int
  e : Int
def errD (e : Int) : Bd := ⟨⟨#[]⟩, [], [], e⟩
/-- What files joined are. -/
def bunR (l : List Fl) : Bd :=
  if okSz l = false ∨ 40 < l.length then errD 4
  else if pfE (pthF l) 0 ≠ 0 then errD (pfE (pthF l) 0)
  else if 200000 < (bdF l l.length).size then errD 4
  else ⟨bdF l l.length, pthF l, endF l l.length, 0⟩
theorem okSz_yes {l : List Fl} (h : ∀ i, i < l.length → (l.getD i fz).2.size ≤ 20000) : okSz l = true := allN_iff.2 fun i hi => decide_eq_true (h i hi)
theorem okSz_no {l : List Fl} {k : Nat} (hk : k < l.length) (h : ¬ (l.getD k fz).2.size ≤ 20000) : okSz l = false := allN_no hk (decide_eq_false h)
section
variable (E : Env)
set_option maxRecDepth 100000
def encBd (r : Bd) : DD := .tup [encB r.b r.ps r.es, i64 r.e]
theorem dle_errD {e : Int} {r : Bd} (h : r = errD e) : Dle (cx Tryz.prog mixed tyT_ok E) (.tup [.agg [dS ⟨#[]⟩, .v (.slice none 0 0), .v (.slice none 0 0)], i64 e]) (encBd r) := by
  subst h
  exact Dle.tup (X := (cx Tryz.prog mixed tyT_ok E)) ⟨Dle.agg (X := (cx Tryz.prog mixed tyT_ok E)) ⟨Dle.refl _ _, Dle.nil (X := (cx Tryz.prog mixed tyT_ok E)), Dle.nil (X := (cx Tryz.prog mixed tyT_ok E)), trivial⟩, Dle.refl _ _, trivial⟩
theorem dle_bd {l : List Fl} {r : Bd} (h : r = ⟨bdF l l.length, pthF l, endF l l.length, 0⟩) : Dle (cx Tryz.prog mixed tyT_ok E) (.tup [.agg [dS (bdF l l.length), .sl 1 16 l.length (fun i _ => dS ((pthF l).getD i ⟨#[]⟩)), .sl 1 8 l.length (fun i _ => i64 ((bdF l (i + 1)).size : Int))], i64 0]) (encBd r) := by
  rw [h]
  refine Dle.tup (X := (cx Tryz.prog mixed tyT_ok E)) ⟨Dle.agg (X := (cx Tryz.prog mixed tyT_ok E)) ⟨Dle.refl _ _, ?_, ?_, trivial⟩, Dle.refl _ _, trivial⟩
  · exact Dle.sl (X := (cx Tryz.prog mixed tyT_ok E)) (pthF_len l).symm (fun i j hi hj => Dle.refl _ _)
  · exact Dle.sl (X := (cx Tryz.prog mixed tyT_ok E)) (endF_len l _).symm (fun i j hi hj => Dle.of_eq (by rw [endF_at hi]))
set_option maxHeartbeats 16000000 in
theorem bundleOf_sp (hML : ∀ w, E.G w → ML w) (l : List Fl) (hl : l.length ≤ 4398046511104) : Sp (cx Tryz.prog mixed tyT_ok E) 8 [encFl l] (encBd (bunR l)) := by
  obtain ⟨r, hr⟩ : ∃ r, r = bunR l := ⟨_, rfl⟩
  rw [← hr]
  unfold bunR at hr
  refine Sp.body Tryz.func8 (by kernel_rfl) rfl (by kernel_rfl) (by kernel_rfl) (by kernel_rfl) ?_
  repeat' first
    | (refine facW_intro ?_; intro _)
    | refine Or.inl ?_
    | ((conv => whnf); first | (refine condW_dec ?_ ?_ <;> intro _ <;> try (exfalso; omega)) | refine condW_not ?_ | (refine condW_bool ?_ ?_ <;> intro _ <;> try (exfalso; omega)) | (refine nbC_t (fun _ => ?_) ?_) | (refine nbC_f ?_ (fun _ => ?_)))
    | refine And.intro (by first | omega | (simp only [Int.toNat_natCast] at *; omega) | (simp only [Nat.reduceAdd, Int.cast_ofNat_Int, true_and, and_true]; omega) | kernel_rfl) ?_
    | refine RegW.run ?_
    | fail
  refine ⟨Nat, fun k => [(11, i64 k)], fun k => [], [2], fun k => [], fun k => k ≤ l.length ∧ ∀ i, i < k → (l.getD i fz).2.size ≤ 20000, fun k => l.length - k, ⟨0, ⟨Nat.zero_le _, fun i hi => by omega⟩, ⟨[], ⟨by kernel_rfl, by kernel_rfl, by kernel_rfl, by kernel_rfl, by kernel_rfl, by kernel_rfl, by kernel_rfl⟩, (by repeat' first | exact trivial | exact rfl | kernel_rfl | exact Dle.of_eq rfl | exact MLe.of_eq rfl | exact Dle.i (by omega) | exact Dle.i (by simp only [Int.toNat_natCast] at *; omega) | exact Dle.nil | exact Dle.rc Dle.nil | exact Option.some_ne_none _ | exact Or.inl rfl | exact Or.inr trivial | omega | (simp only [Int.toNat_natCast] at *; omega) | (intro _ _ _ _; exact Dle.of_eq rfl) | refine And.intro ?_ ?_)⟩⟩, fun k hk => ?_⟩
  obtain ⟨hk, hok⟩ := hk
  by_cases hlt : k < l.length
  · have hz : (l.getD ((k : Int)).toNat fz).2.size = (l.getD k fz).2.size := rfl
    by_cases hb : (l.getD k fz).2.size ≤ 20000
    · repeat' first
        | (refine facW_intro ?_; intro _)
        | refine Or.inl ?_
        | ((conv => whnf); first | (refine condW_dec ?_ ?_ <;> intro _ <;> try (exfalso; omega)) | refine condW_not ?_ | (refine condW_bool ?_ ?_ <;> intro _ <;> try (exfalso; omega)) | (refine nbC_t (fun _ => ?_) ?_) | (refine nbC_f ?_ (fun _ => ?_)))
        | refine And.intro (by first | omega | (simp only [Int.toNat_natCast] at *; omega) | (simp only [Nat.reduceAdd, Int.cast_ofNat_Int, true_and, and_true]; omega) | kernel_rfl) ?_
        | refine RegW.run ?_
        | fail
      all_goals first
        | (exfalso; omega)
        | exact ⟨k + 1, ⟨by omega, fun i hi => if hik : i = k then hik ▸ hb else hok i (by omega)⟩, ⟨[], ⟨by kernel_rfl, by kernel_rfl, by kernel_rfl, by kernel_rfl, by kernel_rfl, by kernel_rfl, by kernel_rfl⟩, (by repeat' first | exact trivial | exact rfl | kernel_rfl | exact Dle.of_eq rfl | exact MLe.of_eq rfl | exact Dle.i (by omega) | exact Dle.i (by simp only [Int.toNat_natCast] at *; omega) | exact Dle.nil | exact Dle.rc Dle.nil | exact Option.some_ne_none _ | exact Or.inl rfl | exact Or.inr trivial | omega | (simp only [Int.toNat_natCast] at *; omega) | (intro _ _ _ _; exact Dle.of_eq rfl) | refine And.intro ?_ ?_)⟩, by first | omega | (dsimp only; omega)⟩
        | trace_state
    · have hr2 : r = errD 4 := by rw [if_pos (.inl (okSz_no hlt hb))] at hr; exact hr
      repeat' first
        | (refine facW_intro ?_; intro _)
        | refine Or.inl ?_
        | ((conv => whnf); first | (refine condW_dec ?_ ?_ <;> intro _ <;> try (exfalso; omega)) | refine condW_not ?_ | (refine condW_bool ?_ ?_ <;> intro _ <;> try (exfalso; omega)) | (refine nbC_t (fun _ => ?_) ?_) | (refine nbC_f ?_ (fun _ => ?_)))
        | refine And.intro (by first | omega | (simp only [Int.toNat_natCast] at *; omega) | (simp only [Nat.reduceAdd, Int.cast_ofNat_Int, true_and, and_true]; omega) | kernel_rfl) ?_
        | refine RegW.run ?_
        | fail
      all_goals first
        | (exfalso; omega)
        | exact dle_errD E hr2
        | trace_state
  · obtain rfl : k = l.length := by omega
    have hA := okSz_yes hok
    have hbz := bd_size hok
    by_cases h40 : 40 < l.length
    · have hr2 : r = errD 4 := by rw [if_pos (.inr h40)] at hr; exact hr
      repeat' first
        | (refine facW_intro ?_; intro _)
        | refine Or.inl ?_
        | ((conv => whnf); first | (refine condW_dec ?_ ?_ <;> intro _ <;> try (exfalso; omega)) | refine condW_not ?_ | (refine condW_bool ?_ ?_ <;> intro _ <;> try (exfalso; omega)) | (refine nbC_t (fun _ => ?_) ?_) | (refine nbC_f ?_ (fun _ => ?_)))
        | refine And.intro (by first | omega | (simp only [Int.toNat_natCast] at *; omega) | (simp only [Nat.reduceAdd, Int.cast_ofNat_Int, true_and, and_true]; omega) | kernel_rfl) ?_
        | refine RegW.run ?_
        | fail
      all_goals first
        | (exfalso; omega)
        | exact dle_errD E hr2
        | trace_state
    · rw [if_neg (by rw [hA]; simp; omega)] at hr
      have hpl := pthF_len l
      repeat' first
        | (refine facW_intro ?_; intro _)
        | refine Or.inl ?_
        | ((conv => whnf); first | (refine condW_dec ?_ ?_ <;> intro _ <;> try (exfalso; omega)) | refine condW_not ?_ | (refine condW_bool ?_ ?_ <;> intro _ <;> try (exfalso; omega)) | (refine nbC_t (fun _ => ?_) ?_) | (refine nbC_f ?_ (fun _ => ?_)))
        | refine And.intro (by first | omega | (simp only [Int.toNat_natCast] at *; omega) | (simp only [Nat.reduceAdd, Int.cast_ofNat_Int, true_and, and_true]; omega) | kernel_rfl) ?_
        | refine RegW.run ?_
        | fail
      all_goals try (exfalso; omega)
      refine ⟨Nat, fun q => [(27, i64 q)], fun q => [(6, .cells [dS (bdF l q), .own 27 1 0 q, .own 40 1 0 q])], [2], fun q => [(27, 9, q, fun i _ => dS ((pthF l).getD i ⟨#[]⟩)), (40, 3, q, fun i _ => i64 ((bdF l (i + 1)).size : Int))], fun q => q ≤ l.length ∧ pfE (pthF l) 0 = pfE (pthF l) q, fun q => l.length - q, ⟨0, ⟨Nat.zero_le _, rfl⟩, ⟨[(27, none), (40, none)], ⟨by kernel_rfl, by kernel_rfl, by kernel_rfl, by kernel_rfl, by kernel_rfl, by kernel_rfl, by kernel_rfl⟩, (by repeat' first | exact trivial | exact rfl | kernel_rfl | exact Dle.of_eq rfl | exact MLe.of_eq rfl | exact Dle.i (by omega) | exact Dle.i (by simp only [Int.toNat_natCast] at *; omega) | exact Dle.nil | exact Dle.rc Dle.nil | exact Option.some_ne_none _ | exact Or.inl rfl | exact Or.inr trivial | omega | (simp only [Int.toNat_natCast] at *; omega) | (intro _ _ _ _; exact Dle.of_eq rfl) | refine And.intro ?_ ?_)⟩⟩, fun q hq => ?_⟩
      obtain ⟨hq, hE⟩ := hq
      have hqz := hbz q hq
      by_cases hql : q < l.length
      · have hql2 : q < (pthF l).length := by omega
        have hbq := hok q hql
        have hb0 : (l.getD ((q : Int)).toNat fz).2.size = (l.getD q fz).2.size := rfl
        have ep := pthF_at hql
        have gp := r_isPath_sp E hML (l.getD ((q : Int)).toNat fz).1
        have gc := contL_sp E 27 (pthF l) q q (l.getD ((q : Int)).toNat fz).1 (Nat.le_refl _) (by omega)
        have gs := suf_sp E (l.getD ((q : Int)).toNat fz).2 ⟨#[10]⟩
        have hp0 : pathB (l.getD ((q : Int)).toNat fz).1 = pathB ((pthF l).getD q ⟨#[]⟩) := by rw [ep]; rfl
        have hk0 : inK (pthF l) q (l.getD ((q : Int)).toNat fz).1 = inK (pthF l) q ((pthF l).getD q ⟨#[]⟩) := by rw [ep]; rfl
        have hs0 : sufS (l.getD ((q : Int)).toNat fz).2 ⟨#[10]⟩ = sufS (l.getD q fz).2 ⟨#[10]⟩ := rfl
        rw [hp0] at gp
        rw [hk0] at gc
        rw [hs0] at gs
        have n1 := pfE_path hql2
        have n2 := pfE_dup hql2
        have n3 := pfE_next hql2
        have eB : bdF l (q + 1) = bdF l q ++ pcF (l.getD q fz).2 := rfl
        have c1 := pc_nil (b := (l.getD q fz).2)
        have c2 := pc_suf (b := (l.getD q fz).2)
        have c3 := pc_add (b := (l.getD q fz).2)
        generalize pathB ((pthF l).getD q ⟨#[]⟩) = bp at gp n1 n2 n3
        generalize inK (pthF l) q ((pthF l).getD q ⟨#[]⟩) = bk at gc n2 n3
        generalize sufS (l.getD q fz).2 ⟨#[10]⟩ = sf at gs c2 c3
        cases bp
        · have hr2 : r = errD 3 := by rw [hE, n1 (by decide), if_pos (by decide)] at hr; exact hr
          repeat' first
            | refine Or.inr ⟨_, _, _, gc, by kernel_rfl, (by repeat' first | exact trivial | exact rfl | kernel_rfl | exact Dle.of_eq rfl | exact MLe.of_eq rfl | exact Dle.i (by omega) | exact Dle.i (by simp only [Int.toNat_natCast] at *; omega) | exact Dle.nil | exact Dle.rc Dle.nil | exact Option.some_ne_none _ | exact Or.inl rfl | exact Or.inr trivial | omega | (simp only [Int.toNat_natCast] at *; omega) | (intro _ _ _ _; exact Dle.of_eq rfl) | refine And.intro ?_ ?_), ?_⟩
            | (refine facW_intro ?_; intro _)
            | refine Or.inl ?_
            | ((conv => whnf); first | (refine condW_dec ?_ ?_ <;> intro _ <;> try (exfalso; omega)) | refine condW_not ?_ | (refine condW_bool ?_ ?_ <;> intro _ <;> try (exfalso; omega)) | (refine nbC_t (fun _ => ?_) ?_) | (refine nbC_f ?_ (fun _ => ?_)))
            | refine And.intro (by first | omega | (simp only [Int.toNat_natCast] at *; omega) | (simp only [Nat.reduceAdd, Int.cast_ofNat_Int, true_and, and_true]; omega) | kernel_rfl) ?_
            | refine RegW.run ?_
            | refine ⟨_, gp, ?_⟩
            | refine ⟨_, gs, ?_⟩
            | fail
          all_goals first
            | (exfalso; omega)
            | exact dle_errD E hr2
            | (exfalso; rename_i h; cases h; done)
            | trace_state
        · cases bk
          · have n3 := n3 rfl (by decide)
            by_cases hb1 : (l.getD ((q : Int)).toNat fz).2 = ⟨#[]⟩
            · have e1 : bdF l (q + 1) = bdF l q ++ (l.getD ((q : Int)).toNat fz).2 := eB.trans (c1 hb1 _)
              repeat' first
                | refine Or.inr ⟨_, _, _, gc, by kernel_rfl, (by repeat' first | exact trivial | exact rfl | kernel_rfl | exact Dle.of_eq rfl | exact MLe.of_eq rfl | exact Dle.i (by omega) | exact Dle.i (by simp only [Int.toNat_natCast] at *; omega) | exact Dle.nil | exact Dle.rc Dle.nil | exact Option.some_ne_none _ | exact Or.inl rfl | exact Or.inr trivial | omega | (simp only [Int.toNat_natCast] at *; omega) | (intro _ _ _ _; exact Dle.of_eq rfl) | refine And.intro ?_ ?_), ?_⟩
                | (refine facW_intro ?_; intro _)
                | refine Or.inl ?_
                | ((conv => whnf); first | (refine condW_dec ?_ ?_ <;> intro _ <;> try (exfalso; omega)) | refine condW_not ?_ | (refine condW_bool ?_ ?_ <;> intro _ <;> try (exfalso; omega)) | (refine nbC_t (fun _ => ?_) ?_) | (refine nbC_f ?_ (fun _ => ?_)))
                | refine And.intro (by first | omega | (simp only [Int.toNat_natCast] at *; omega) | (simp only [Nat.reduceAdd, Int.cast_ofNat_Int, true_and, and_true]; omega) | kernel_rfl) ?_
                | refine RegW.run ?_
                | refine ⟨_, gp, ?_⟩
                | refine ⟨_, gs, ?_⟩
                | fail
              all_goals first
                | (exfalso; rename_i h; cases h; done)
                | (exfalso; exact absurd hb1 (by assumption))
                | exact ⟨q + 1, ⟨by omega, hE.trans n3⟩, ⟨[(27, some 47), (40, some 74)], ⟨by kernel_rfl, by kernel_rfl, by kernel_rfl, by kernel_rfl, by kernel_rfl, by kernel_rfl, by kernel_rfl⟩, (by repeat' first | ((rw [e1]; exact Dle.refl _ _)) | exact trivial | exact rfl | kernel_rfl | exact Dle.of_eq rfl | exact MLe.of_eq rfl | exact Dle.i (by omega) | exact Dle.i (by simp only [Int.toNat_natCast] at *; omega) | exact Dle.nil | exact Dle.rc Dle.nil | exact Option.some_ne_none _ | exact Or.inl rfl | exact Or.inr trivial | omega | (simp only [Int.toNat_natCast] at *; omega) | (intro _ _ _ _; exact Dle.of_eq rfl) | (intro i j hi hj; (first | exact row_g E (fun i => dS ((pthF l).getD i ⟨#[]⟩)) _ q (by rw [ep]; rfl) i j (by omega) hj | exact row_g E (fun i => i64 ((bdF l (i + 1)).size : Int)) _ q (by rw [e1]) i j (by omega) hj)) | refine And.intro ?_ ?_)⟩, by first | omega | (dsimp only; omega)⟩
                | (exfalso; omega)
                | trace_state
            · cases sf
              · have e1 : bdF l (q + 1) = bdF l q ++ (l.getD ((q : Int)).toNat fz).2 ++ ⟨#[10]⟩ := eB.trans (c3 hb1 rfl _)
                have h10 : (⟨#[10]⟩ : ByteArray).size = 1 := rfl
                have hz9 : (bdF l q ++ (l.getD ((q : Int)).toNat fz).2).size ≤ 1000000 := by rw [ByteArray.size_append]; omega
                repeat' first
                  | refine Or.inr ⟨_, _, _, gc, by kernel_rfl, (by repeat' first | exact trivial | exact rfl | kernel_rfl | exact Dle.of_eq rfl | exact MLe.of_eq rfl | exact Dle.i (by omega) | exact Dle.i (by simp only [Int.toNat_natCast] at *; omega) | exact Dle.nil | exact Dle.rc Dle.nil | exact Option.some_ne_none _ | exact Or.inl rfl | exact Or.inr trivial | omega | (simp only [Int.toNat_natCast] at *; omega) | (intro _ _ _ _; exact Dle.of_eq rfl) | refine And.intro ?_ ?_), ?_⟩
                  | (refine facW_intro ?_; intro _)
                  | refine Or.inl ?_
                  | ((conv => whnf); first | (refine condW_dec ?_ ?_ <;> intro _ <;> try (exfalso; omega)) | refine condW_not ?_ | (refine condW_bool ?_ ?_ <;> intro _ <;> try (exfalso; omega)) | (refine nbC_t (fun _ => ?_) ?_) | (refine nbC_f ?_ (fun _ => ?_)))
                  | refine And.intro (by first | omega | (simp only [Int.toNat_natCast] at *; omega) | (simp only [Nat.reduceAdd, Int.cast_ofNat_Int, true_and, and_true]; omega) | kernel_rfl) ?_
                  | refine RegW.run ?_
                  | refine ⟨_, gp, ?_⟩
                  | refine ⟨_, gs, ?_⟩
                  | fail
                all_goals first
                  | (exfalso; rename_i h; cases h; done)
                  | (exfalso; exact hb1 (by assumption))
                  | exact ⟨q + 1, ⟨by omega, hE.trans n3⟩, ⟨[(27, some 47), (40, some 74)], ⟨by kernel_rfl, by kernel_rfl, by kernel_rfl, by kernel_rfl, by kernel_rfl, by kernel_rfl, by kernel_rfl⟩, (by repeat' first | ((rw [e1]; exact Dle.refl _ _)) | exact trivial | exact rfl | kernel_rfl | exact Dle.of_eq rfl | exact MLe.of_eq rfl | exact Dle.i (by omega) | exact Dle.i (by simp only [Int.toNat_natCast] at *; omega) | exact Dle.nil | exact Dle.rc Dle.nil | exact Option.some_ne_none _ | exact Or.inl rfl | exact Or.inr trivial | omega | (simp only [Int.toNat_natCast] at *; omega) | (intro _ _ _ _; exact Dle.of_eq rfl) | (intro i j hi hj; (first | exact row_g E (fun i => dS ((pthF l).getD i ⟨#[]⟩)) _ q (by rw [ep]; rfl) i j (by omega) hj | exact row_g E (fun i => i64 ((bdF l (i + 1)).size : Int)) _ q (by rw [e1]) i j (by omega) hj)) | refine And.intro ?_ ?_)⟩, by first | omega | (dsimp only; omega)⟩
                  | (exfalso; omega)
                  | trace_state
              · have e1 : bdF l (q + 1) = bdF l q ++ (l.getD ((q : Int)).toNat fz).2 := eB.trans (c2 hb1 rfl _)
                repeat' first
                  | refine Or.inr ⟨_, _, _, gc, by kernel_rfl, (by repeat' first | exact trivial | exact rfl | kernel_rfl | exact Dle.of_eq rfl | exact MLe.of_eq rfl | exact Dle.i (by omega) | exact Dle.i (by simp only [Int.toNat_natCast] at *; omega) | exact Dle.nil | exact Dle.rc Dle.nil | exact Option.some_ne_none _ | exact Or.inl rfl | exact Or.inr trivial | omega | (simp only [Int.toNat_natCast] at *; omega) | (intro _ _ _ _; exact Dle.of_eq rfl) | refine And.intro ?_ ?_), ?_⟩
                  | (refine facW_intro ?_; intro _)
                  | refine Or.inl ?_
                  | ((conv => whnf); first | (refine condW_dec ?_ ?_ <;> intro _ <;> try (exfalso; omega)) | refine condW_not ?_ | (refine condW_bool ?_ ?_ <;> intro _ <;> try (exfalso; omega)) | (refine nbC_t (fun _ => ?_) ?_) | (refine nbC_f ?_ (fun _ => ?_)))
                  | refine And.intro (by first | omega | (simp only [Int.toNat_natCast] at *; omega) | (simp only [Nat.reduceAdd, Int.cast_ofNat_Int, true_and, and_true]; omega) | kernel_rfl) ?_
                  | refine RegW.run ?_
                  | refine ⟨_, gp, ?_⟩
                  | refine ⟨_, gs, ?_⟩
                  | fail
                all_goals first
                  | (exfalso; rename_i h; cases h; done)
                  | (exfalso; exact hb1 (by assumption))
                  | exact ⟨q + 1, ⟨by omega, hE.trans n3⟩, ⟨[(27, some 47), (40, some 74)], ⟨by kernel_rfl, by kernel_rfl, by kernel_rfl, by kernel_rfl, by kernel_rfl, by kernel_rfl, by kernel_rfl⟩, (by repeat' first | ((rw [e1]; exact Dle.refl _ _)) | exact trivial | exact rfl | kernel_rfl | exact Dle.of_eq rfl | exact MLe.of_eq rfl | exact Dle.i (by omega) | exact Dle.i (by simp only [Int.toNat_natCast] at *; omega) | exact Dle.nil | exact Dle.rc Dle.nil | exact Option.some_ne_none _ | exact Or.inl rfl | exact Or.inr trivial | omega | (simp only [Int.toNat_natCast] at *; omega) | (intro _ _ _ _; exact Dle.of_eq rfl) | (intro i j hi hj; (first | exact row_g E (fun i => dS ((pthF l).getD i ⟨#[]⟩)) _ q (by rw [ep]; rfl) i j (by omega) hj | exact row_g E (fun i => i64 ((bdF l (i + 1)).size : Int)) _ q (by rw [e1]) i j (by omega) hj)) | refine And.intro ?_ ?_)⟩, by first | omega | (dsimp only; omega)⟩
                  | (exfalso; omega)
                  | trace_state
          · have hr2 : r = errD 6 := by rw [hE, n2 rfl rfl, if_pos (by decide)] at hr; exact hr
            repeat' first
              | refine Or.inr ⟨_, _, _, gc, by kernel_rfl, (by repeat' first | exact trivial | exact rfl | kernel_rfl | exact Dle.of_eq rfl | exact MLe.of_eq rfl | exact Dle.i (by omega) | exact Dle.i (by simp only [Int.toNat_natCast] at *; omega) | exact Dle.nil | exact Dle.rc Dle.nil | exact Option.some_ne_none _ | exact Or.inl rfl | exact Or.inr trivial | omega | (simp only [Int.toNat_natCast] at *; omega) | (intro _ _ _ _; exact Dle.of_eq rfl) | refine And.intro ?_ ?_), ?_⟩
              | (refine facW_intro ?_; intro _)
              | refine Or.inl ?_
              | ((conv => whnf); first | (refine condW_dec ?_ ?_ <;> intro _ <;> try (exfalso; omega)) | refine condW_not ?_ | (refine condW_bool ?_ ?_ <;> intro _ <;> try (exfalso; omega)) | (refine nbC_t (fun _ => ?_) ?_) | (refine nbC_f ?_ (fun _ => ?_)))
              | refine And.intro (by first | omega | (simp only [Int.toNat_natCast] at *; omega) | (simp only [Nat.reduceAdd, Int.cast_ofNat_Int, true_and, and_true]; omega) | kernel_rfl) ?_
              | refine RegW.run ?_
              | refine ⟨_, gp, ?_⟩
              | refine ⟨_, gs, ?_⟩
              | fail
            all_goals first
              | (exfalso; rename_i h; cases h; done)
              | exact dle_errD E hr2
              | (exfalso; omega)
              | trace_state
      · obtain rfl : q = l.length := by omega
        have hE0 : pfE (pthF l) 0 = 0 := hE.trans (pfE_end (by omega))
        rw [if_neg (by rw [hE0]; decide)] at hr
        by_cases hbg : 200000 < (bdF l l.length).size
        · rw [if_pos hbg] at hr
          repeat' first
            | (refine facW_intro ?_; intro _)
            | refine Or.inl ?_
            | ((conv => whnf); first | (refine condW_dec ?_ ?_ <;> intro _ <;> try (exfalso; omega)) | refine condW_not ?_ | (refine condW_bool ?_ ?_ <;> intro _ <;> try (exfalso; omega)) | (refine nbC_t (fun _ => ?_) ?_) | (refine nbC_f ?_ (fun _ => ?_)))
            | refine And.intro (by first | omega | (simp only [Int.toNat_natCast] at *; omega) | (simp only [Nat.reduceAdd, Int.cast_ofNat_Int, true_and, and_true]; omega) | kernel_rfl) ?_
            | refine RegW.run ?_
            | fail
          all_goals first
            | (exfalso; omega)
            | exact dle_errD E hr
            | trace_state
        · rw [if_neg hbg] at hr
          have hD := dle_bd E hr
          repeat' first
            | (refine facW_intro ?_; intro _)
            | refine Or.inl ?_
            | ((conv => whnf); first | (refine condW_dec ?_ ?_ <;> intro _ <;> try (exfalso; omega)) | refine condW_not ?_ | (refine condW_bool ?_ ?_ <;> intro _ <;> try (exfalso; omega)) | (refine nbC_t (fun _ => ?_) ?_) | (refine nbC_f ?_ (fun _ => ?_)))
            | refine And.intro (by first | omega | (simp only [Int.toNat_natCast] at *; omega) | (simp only [Nat.reduceAdd, Int.cast_ofNat_Int, true_and, and_true]; omega) | kernel_rfl) ?_
            | refine RegW.run ?_
            | fail
          all_goals first
            | (exfalso; omega)
            | exact hD
            | trace_state
end
end bn
end Go.Proofs.YtiiohopjkepkgaaGreatDoor
