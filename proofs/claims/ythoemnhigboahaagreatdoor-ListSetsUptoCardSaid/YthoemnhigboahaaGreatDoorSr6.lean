/-
  A merge in place, in plain words. (Printed by mk_sr.py.) Stable sorting of a lent row of ints under a closure with two captured variables: symMerge, one on the left. (Printed by mk_sr.py.)
-/
import Derived.Test.YthoemnhigboahaaGreatDoorSr4
namespace Go.Proofs.YthoemnhigboahaaGreatDoor
set_option linter.unusedVariables false
set_option linter.unusedSimpArgs false
namespace sq
open sb
section
variable {lt : Nat → Nat → Bool}
structure Mg (lt : Nat → Nat → Bool) (π : Nat → Nat) (a m b : Nat) : Prop where
  s1 : Srt lt id π a m
  s2 : Srt lt id π m b
  ix : ∀ c q, a ≤ c → c < m → m ≤ q → q < b → π c < π q
namespace Mg
variable {π : Nat → Nat} {a m b : Nat}
theorem ne (h : Mg lt π a m b) (hw : Wk lt) : ∀ k l, a ≤ k → k < l → l < b → π k ≠ π l := fun k l h1 h2 h3 => by
  by_cases k1 : l < m
  · exact h.s1.ne hw k l h1 h2 k1
  · by_cases k2 : m ≤ k
    · exact h.s2.ne hw k l k2 h2 h3
    · have := h.ix k l h1 (by omega) (by omega) h3
      omega
theorem yes (h : Mg lt π a m b) (hw : Wk lt) {c q : Nat} (h1 : a ≤ c) (h2 : c < m) (h3 : m ≤ q) (h4 : q < b) (ht : T lt id (π q) (π c)) : lt (π q) (π c) = true := (T.iff hw (h.ix c q h1 h2 h3 h4)).1 ht
theorem no (h : Mg lt π a m b) (hw : Wk lt) {c q : Nat} (h1 : a ≤ c) (h2 : c < m) (h3 : m ≤ q) (h4 : q < b) (hn : lt (π q) (π c) = false) : T lt id (π c) (π q) := T.not hw (h.ix c q h1 h2 h3 h4) hn
theorem le2 (h : Mg lt π a m b) {k l : Nat} (h1 : m ≤ k) (h2 : k ≤ l) (h3 : l < b) : k = l ∨ T lt id (π k) (π l) := by
  by_cases e : k = l
  · exact .inl e
  · exact .inr (h.s2 k l h1 (by omega) h3)
theorem le1 (h : Mg lt π a m b) {k l : Nat} (h1 : a ≤ k) (h2 : k ≤ l) (h3 : l < m) : k = l ∨ T lt id (π k) (π l) := by
  by_cases e : k = l
  · exact .inl e
  · exact .inr (h.s1 k l h1 (by omega) h3)
theorem mono (h : Mg lt π a m b) (hw : Wk lt) {c c' q q' : Nat} (h1 : a ≤ c) (h2 : c ≤ c') (h3 : c' < m) (h4 : m ≤ q') (h5 : q' ≤ q) (h6 : q < b) (ht : lt (π q) (π c) = true) : lt (π q') (π c') = true := by
  refine h.yes hw (by omega) h3 h4 (by omega) ?_
  have t0 : T lt id (π q) (π c) := .inl ht
  have t1 : T lt id (π q') (π c) := by
    rcases h.le2 h4 h5 h6 with e | e
    · rw [e]; exact t0
    · exact e.trans hw t0
  rcases h.le1 h1 h2 h3 with e | e
  · rw [← e]; exact t1
  · exact t1.trans hw e
theorem mono_not (h : Mg lt π a m b) (hw : Wk lt) {c c' q q' : Nat} (h1 : a ≤ c) (h2 : c ≤ c') (h3 : c' < m) (h4 : m ≤ q') (h5 : q' ≤ q) (h6 : q < b) (hn : lt (π q') (π c') = false) : lt (π q) (π c) = false := by
  cases e : lt (π q) (π c)
  · rfl
  · rw [h.mono hw h1 h2 h3 h4 h5 h6 e] at hn
    cases hn
theorem one (h : Mg lt π a m b) (hw : Wk lt) (hm : m = a + 1) {e : Nat} (h1 : m ≤ e) (h2 : e ≤ b) (h3 : ∀ q, m ≤ q → q < e → lt (π q) (π a) = true) (h4 : ∀ q, e ≤ q → q < b → lt (π q) (π a) = false) : srt lt id π a b = rot π a (a + 1) e := by
  subst hm
  refine srt_eq hw (rot_srt h.s1 h.s2 (Nat.le_refl _) (by omega) h1 h2 (fun c q c1 c2 q1 q2 => by omega) (fun c q c1 c2 q1 q2 => ?_) (fun c q c1 c2 q1 q2 => ?_)) ((rot_prm π (by omega) h1).wide (Nat.le_refl _) h2 (by omega))
  · obtain rfl : c = a := by omega
    exact .inl (h3 q q1 q2)
  · obtain rfl : c = a := by omega
    exact h.no hw (Nat.le_refl _) (by omega) (by omega) q2 (h4 q q1 q2)
theorem last (h : Mg lt π a m b) (hw : Wk lt) (hm : b = m + 1) {s : Nat} (h1 : a ≤ s) (h2 : s ≤ m) (h3 : ∀ c, a ≤ c → c < s → lt (π m) (π c) = false) (h4 : ∀ c, s ≤ c → c < m → lt (π m) (π c) = true) : srt lt id π a b = rot π s m (m + 1) := by
  subst hm
  refine srt_eq hw (rot_srt h.s1 h.s2 h1 h2 (by omega) (Nat.le_refl _) (fun c q c1 c2 q1 q2 => ?_) (fun c q c1 c2 q1 q2 => ?_) (fun c q c1 c2 q1 q2 => by omega)) ((rot_prm π h2 (by omega)).wide h1 (Nat.le_refl _) (by omega))
  · obtain rfl : q = m := by omega
    exact h.no hw c1 (by omega) (Nat.le_refl _) (by omega) (h3 c c1 c2)
  · obtain rfl : q = m := by omega
    exact .inl (h4 c c1 c2)
structure Cut (lt : Nat → Nat → Bool) (π : Nat → Nat) (a m b s e : Nat) : Prop where
  pa : a ≤ s
  ps : s ≤ m
  pm : m ≤ e
  pe : e ≤ b
  lo : ∀ c q, a ≤ c → c < s → e ≤ q → q < b → T lt id (π c) (π q)
  hi : ∀ c q, s ≤ c → c < m → m ≤ q → q < e → T lt id (π q) (π c)
variable {s e : Nat}
theorem first (h : Mg lt π a m b) (k : Cut lt π a m b s e) : Mg lt (rot π s m e) a s (s + (e - m)) := by
  have e1 : ∀ x, x < s → rot π s m e x = π x := fun x hx => by
    unfold rot
    rw [if_neg (by omega), if_neg (by omega)]
  have e2 : ∀ x, s ≤ x → x < s + (e - m) → rot π s m e x = π (x - s + m) := fun x h1 h2 => by
    unfold rot
    rw [if_pos ⟨h1, h2⟩]
  have q1 := k.pa; have q2 := k.ps; have q3 := k.pm; have q4 := k.pe
  refine ⟨fun x y x1 x2 x3 => ?_, fun x y x1 x2 x3 => ?_, fun x y x1 x2 y1 y2 => ?_⟩
  · rw [e1 x (by omega), e1 y x3]
    exact h.s1 x y x1 x2 (by omega)
  · rw [e2 x x1 (by omega), e2 y (by omega) x3]
    exact h.s2 _ _ (by omega) (by omega) (by omega)
  · rw [e1 x x2, e2 y y1 y2]
    exact h.ix _ _ x1 (by omega) (by omega) (by omega)
theorem cross (h : Mg lt π a m b) (k : Cut lt π a m b s e) : ∀ x y, a ≤ x → x < s + (e - m) → s + (e - m) ≤ y → y < b → T lt id (rot π s m e x) (rot π s m e y) := by
  have q1 := k.pa; have q2 := k.ps; have q3 := k.pm; have q4 := k.pe
  intro x y x1 x2 y1 y2
  unfold rot
  rw [if_neg (show ¬ (s ≤ y ∧ y < s + (e - m)) by omega)]
  by_cases hx : s ≤ x
  · rw [if_pos ⟨hx, x2⟩]
    by_cases hy : y < e
    · rw [if_pos ⟨y1, hy⟩]
      exact k.hi _ _ (by omega) (by omega) (by omega) (by omega)
    · rw [if_neg (by omega)]
      exact h.s2 _ _ (by omega) (by omega) y2
  · rw [if_neg (by omega), if_neg (by omega)]
    by_cases hy : y < e
    · rw [if_pos ⟨y1, hy⟩]
      exact h.s1 _ _ x1 (by omega) (by omega)
    · rw [if_neg (by omega)]
      exact k.lo _ _ x1 (by omega) (by omega) y2
theorem out1 {π : Nat → Nat} (hw : Wk lt) (hd : ∀ k l, a ≤ k → k < l → l < b → π k ≠ π l) {x : Nat} (hx : ¬ (a ≤ x ∧ x < b)) : srt lt id π a b x = π x := (srt_spec (g := id) hw hd).2.1 x hx
theorem second (h : Mg lt π a m b) (hw : Wk lt) (k : Cut lt π a m b s e) : Mg lt (srt lt id (rot π s m e) a (s + (e - m))) (s + (e - m)) e b := by
  have q1 := k.pa; have q2 := k.ps; have q3 := k.pm; have q4 := k.pe
  have hd := (h.first k).ne hw
  have e1 : ∀ x, s + (e - m) ≤ x → x < e → srt lt id (rot π s m e) a (s + (e - m)) x = π (x - (e - m)) := fun x h1 h2 => by
    rw [out1 hw hd (by omega)]
    unfold rot
    rw [if_neg (by omega), if_pos ⟨h1, h2⟩]
  have e2 : ∀ x, e ≤ x → srt lt id (rot π s m e) a (s + (e - m)) x = π x := fun x h1 => by
    rw [out1 hw hd (by omega)]
    unfold rot
    rw [if_neg (by omega), if_neg (by omega)]
  refine ⟨fun x y x1 x2 x3 => ?_, fun x y x1 x2 x3 => ?_, fun x y x1 x2 y1 y2 => ?_⟩
  · rw [e1 x x1 (by omega), e1 y (by omega) x3]
    exact h.s1 _ _ (by omega) (by omega) (by omega)
  · rw [e2 x x1, e2 y (by omega)]
    exact h.s2 _ _ (by omega) x2 x3
  · rw [e1 x x1 x2, e2 y y1]
    exact h.ix _ _ (by omega) (by omega) (by omega) y2
theorem whole (h : Mg lt π a m b) (hw : Wk lt) (k : Cut lt π a m b s e) : srt lt id π a b = srt lt id (srt lt id (rot π s m e) a (s + (e - m))) (s + (e - m)) b := by
  have q1 := k.pa; have q2 := k.ps; have q3 := k.pm; have q4 := k.pe
  have hc := h.cross k
  have p0 : Prm (rot π s m e) π a b := (rot_prm π q2 q3).wide q1 q4 (by omega)
  obtain ⟨s1, p1⟩ := srt_spec (g := id) hw ((h.first k).ne hw)
  obtain ⟨s2, p2⟩ := srt_spec (g := id) hw ((h.second hw k).ne hw)
  generalize rot π s m e = q at hc p0 s1 p1 s2 p2 ⊢
  generalize srt lt id q a (s + (e - m)) = r at s1 p1 s2 p2 ⊢
  generalize srt lt id r (s + (e - m)) b = t at s2 p2 ⊢
  refine srt_eq hw (fun x y x1 x2 x3 => ?_) (((p2.wide (by omega) (Nat.le_refl _) (by omega)).trans (p1.wide (Nat.le_refl _) (by omega) (by omega))).trans p0)
  by_cases hy : y < s + (e - m)
  · rw [p2.1 x (by omega), p2.1 y (by omega)]
    exact s1 x y x1 x2 hy
  · by_cases hx : s + (e - m) ≤ x
    · exact s2 x y hx x2 x3
    · obtain ⟨y', y1, y2, y3⟩ := p2.mem (by omega : s + (e - m) ≤ y) x3
      obtain ⟨x', x4, x5, x6⟩ := p1.mem x1 (by omega : x < s + (e - m))
      rw [p2.1 x (by omega), x6, y3, p1.1 y' (by omega)]
      exact hc x' y' x4 x5 y1 y2
theorem cut (h : Mg lt π a m b) (hw : Wk lt) (ham : a < m) (hmb : m < b) {mid lo hi s : Nat} (hmid : mid = (a + b) / 2) (hlo : lo = if mid < m then mid + m - b else a) (hhi : hi = if mid < m then mid else m) (h1 : lo ≤ s) (h2 : s ≤ hi)
    (h3 : ∀ c, lo ≤ c → c < s → lt (π (mid + m - 1 - c)) (π c) = false) (h4 : ∀ c, s ≤ c → c < hi → lt (π (mid + m - 1 - c)) (π c) = true) : Cut lt π a m b s (mid + m - s) := by
  have hl : (mid < m ∧ lo = mid + m - b ∧ hi = mid) ∨ (m ≤ mid ∧ lo = a ∧ hi = m) := by
    by_cases q : mid < m
    · rw [if_pos q] at hlo hhi
      exact .inl ⟨q, hlo, hhi⟩
    · rw [if_neg q] at hlo hhi
      exact .inr ⟨by omega, hlo, hhi⟩
  clear hlo hhi
  refine ⟨by omega, by omega, by omega, by omega, fun c q c1 c2 q1 q2 => ?_, fun c q c1 c2 q1 q2 => ?_⟩
  · by_cases e : s = lo
    · exfalso
      omega
    · have hn := h.mono_not hw (c := c) (c' := s - 1) (q := q) (q' := mid + m - 1 - (s - 1)) c1 (by omega) (by omega) (by omega) (by omega) q2 (h3 (s - 1) (by omega) (by omega))
      exact h.no hw c1 (by omega) (by omega) q2 hn
  · by_cases e : s = hi
    · exfalso
      omega
    · exact .inl (h.mono hw (c := s) (c' := c) (q := mid + m - 1 - s) (q' := q) (by omega) c1 c2 q1 (by omega) (by omega) (h4 s (Nat.le_refl _) (by omega)))
end Mg
end
end sq
end Go.Proofs.YthoemnhigboahaaGreatDoor
namespace Go.Proofs.YthoemnhigboahaaGreatDoor
open Go.RowKit
set_option linter.unusedVariables false
set_option linter.unusedSimpArgs false
namespace sq
open sb
theorem mid_eq (x y : Int) (h1 : 0 ≤ x) (h2 : 0 ≤ y) (h3 : x + y ≤ 4000000000) : (IntKind.i64.wrap ((IntKind.u64.wrap (x + y)).fdiv (2 ^ min (Int.toNat 1) IntKind.u64.bits))) = (x + y) / 2 := by
  have h4 : IntKind.u64.wrap (x + y) = x + y := by
    simp only [IntKind.wrap, IntKind.bits, IntKind.signed]
    simp
    omega
  rw [h4, show (2 : Int) ^ min (Int.toNat 1) IntKind.u64.bits = 2 by decide, Int.fdiv_eq_ediv_of_nonneg _ (by omega)]
  simp only [IntKind.wrap, IntKind.bits, IntKind.signed]
  simp
  omega
section
variable {lt : Nat → Nat → Bool}
section
variable (E : Env)
set_option maxRecDepth 100000
def SymR (n : Nat) (vl : List Vu) (g : Nat) (lt : Nat → Nat → Bool) (N : Nat) : Prop := ∀ (π : Nat → Nat), (∀ k, k < n → π k < n) → ∀ a m b : Int, 0 ≤ a → a < m → m < b → b ≤ n → b - a < N → Mg lt π a.toNat m.toNat b.toNat →
    SpH (cx Tryz.prog mixed tyT_ok E) 124 [lsR g n, i64 a, i64 m, i64 b] (SHR n vl π) (.tup []) (SHR n vl (srt lt id π a.toNat b.toNat))
set_option maxHeartbeats 16000000 in
theorem symOne (n : Nat) (hn : n ≤ 1000000000) (vl : List Vu) (g : Nat) (hw : Wk lt) (hl : LessR E n vl g lt) (π : Nat → Nat) (hπ : ∀ k, k < n → π k < n) (a m b : Nat) (ham' : a < m) (hmb' : m < b) (hb : (b : Int) ≤ n) (hM : Mg lt π a m b) (hc1 : m = a + 1) :
    SpH (cx Tryz.prog mixed tyT_ok E) 124 [lsR g n, i64 a, i64 m, i64 b] (SHR n vl π) (.tup []) (SHR n vl (srt lt id π a b)) := by
  have h0 : (0 : Int) ≤ a := by omega
  have ham : (a : Int) < m := by omega
  have hmb : (m : Int) < b := by omega
  have e26 : (m : Int) - a = 1 := by omega
  refine SpH.body Tryz.func124 (by kernel_rfl) rfl (by kernel_rfl) (by kernel_rfl) (by kernel_rfl) ?_
  repeat' first
    | (refine codeW_cond rfl ?_; first | (refine condW_dec ?_ ?_ <;> intro _ <;> try (exfalso; omega)) | refine condW_not ?_ | (refine condW_bool ?_ ?_ <;> intro _ <;> try (exfalso; omega)))
    | (refine facW_intro ?_; intro _)
    | refine Or.inl ?_
    | ((conv => whnf); first | (refine condW_dec ?_ ?_ <;> intro _ <;> try (exfalso; omega)) | refine condW_not ?_ | (refine condW_bool ?_ ?_ <;> intro _ <;> try (exfalso; omega)) | (refine nbC_t (fun _ => ?_) ?_) | (refine nbC_f ?_ (fun _ => ?_)))
    | refine And.intro (by first | omega | (simp only [Int.toNat_natCast] at *; omega) | (simp only [Nat.reduceAdd, Int.cast_ofNat_Int, true_and, and_true]; omega)  | kernel_rfl) ?_
    | refine RegW.run ?_
    | fail
  refine ⟨Nat × Nat, fun k => [(8, i64 k.1), (9, i64 k.2)], fun k => [], [4, 2000, 2001, 2002], fun k => [], fun k => m ≤ k.1 ∧ k.1 ≤ k.2 ∧ k.2 ≤ b ∧ (∀ q, m ≤ q → q < k.1 → lt (π q) (π a) = true) ∧ ∀ q, k.2 ≤ q → q < b → lt (π q) (π a) = false, fun k => k.2 - k.1, ⟨(m, b), ⟨Nat.le_refl _, Nat.le_of_lt hmb', Nat.le_refl _, fun q q1 q2 => absurd q2 (by show ¬ q < m; omega), fun q q1 q2 => absurd q1 (by show ¬ b ≤ q; omega)⟩, ⟨[], ⟨by kernel_rfl, by kernel_rfl, by kernel_rfl, by kernel_rfl, by kernel_rfl, by kernel_rfl, by kernel_rfl⟩, (by repeat' first | exact trivial | exact rfl | kernel_rfl | exact Dle.of_eq rfl | exact MLe.of_eq rfl | exact Dle.i (by omega) | exact Dle.i (by simp only [Int.toNat_natCast] at *; omega) | exact Dle.nil | exact Dle.rc Dle.nil | exact Option.some_ne_none _ | exact Or.inl rfl | exact Or.inr trivial | omega | (simp only [Int.toNat_natCast] at *; omega) | (intro _ _ _ _; exact Dle.of_eq rfl) | refine And.intro ?_ ?_)⟩⟩, fun k hk => ?_⟩
  obtain ⟨k1, k2, k3, k4, k5⟩ := hk
  have hmid := mid_eq (k.1 : Int) (k.2 : Int) (by omega) (by omega) (by omega)
  by_cases hlt : k.1 < k.2
  · have hl2 := hl π hπ (IntKind.i64.wrap ((IntKind.u64.wrap ((k.1 : Int) + (k.2 : Int))).fdiv (2 ^ min (Int.toNat 1) IntKind.u64.bits))) (a : Int) (by omega) (by omega) (by omega) (by omega)
    have hv : lt (π (IntKind.i64.wrap ((IntKind.u64.wrap ((k.1 : Int) + (k.2 : Int))).fdiv (2 ^ min (Int.toNat 1) IntKind.u64.bits))).toNat) (π ((a : Int)).toNat) = lt (π ((k.1 + k.2) / 2)) (π a) := by
      rw [Int.toNat_natCast, show (IntKind.i64.wrap ((IntKind.u64.wrap ((k.1 : Int) + (k.2 : Int))).fdiv (2 ^ min (Int.toNat 1) IntKind.u64.bits))).toNat = (k.1 + k.2) / 2 by omega]
    rw [hv] at hl2
    cases hbv : lt (π ((k.1 + k.2) / 2)) (π a)
    · rw [hbv] at hl2
      have hnext : ∀ q, (k.1 + k.2) / 2 ≤ q → q < b → lt (π q) (π a) = false := fun q q1 q2 => hM.mono_not hw (Nat.le_refl _) (Nat.le_refl _) ham' (by omega) q1 q2 hbv
      repeat' first
        | refine Or.inr ⟨_, _, _, Or.inl (hl2), by kernel_rfl, (by repeat' first | exact trivial | exact rfl | kernel_rfl | exact Dle.of_eq rfl | exact MLe.of_eq rfl | exact Dle.i (by omega) | exact Dle.i (by simp only [Int.toNat_natCast] at *; omega) | exact Dle.nil | exact Dle.rc Dle.nil | exact Option.some_ne_none _ | exact Or.inl rfl | exact Or.inr trivial | omega | (simp only [Int.toNat_natCast] at *; omega) | (intro _ _ _ _; exact Dle.of_eq rfl) | refine And.intro ?_ ?_), ?_⟩
        | (refine codeW_cond rfl ?_; first | (refine condW_dec ?_ ?_ <;> intro _ <;> try (exfalso; omega)) | refine condW_not ?_ | (refine condW_bool ?_ ?_ <;> intro _ <;> try (exfalso; omega)))
        | (refine facW_intro ?_; intro _)
        | refine Or.inl ?_
        | ((conv => whnf); first | (refine condW_dec ?_ ?_ <;> intro _ <;> try (exfalso; omega)) | refine condW_not ?_ | (refine condW_bool ?_ ?_ <;> intro _ <;> try (exfalso; omega)) | (refine nbC_t (fun _ => ?_) ?_) | (refine nbC_f ?_ (fun _ => ?_)))
        | refine And.intro (by first | omega | (simp only [Int.toNat_natCast] at *; omega) | (simp only [Nat.reduceAdd, Int.cast_ofNat_Int, true_and, and_true]; omega)  | kernel_rfl) ?_
        | refine RegW.run ?_
        | fail
      all_goals first
        | (exfalso; omega)
        | exact ⟨(k.1, (k.1 + k.2) / 2), ⟨k1, by show k.1 ≤ (k.1 + k.2) / 2; omega, by show (k.1 + k.2) / 2 ≤ b; omega, k4, hnext⟩, ⟨[], ⟨by kernel_rfl, by kernel_rfl, by kernel_rfl, by kernel_rfl, by kernel_rfl, by kernel_rfl, by kernel_rfl⟩, (by repeat' first | (exact Dle.i (by show _ = (((k.1 + k.2) / 2 : Nat) : Int); omega)) | exact trivial | exact rfl | kernel_rfl | exact Dle.of_eq rfl | exact MLe.of_eq rfl | exact Dle.i (by omega) | exact Dle.i (by simp only [Int.toNat_natCast] at *; omega) | exact Dle.nil | exact Dle.rc Dle.nil | exact Option.some_ne_none _ | exact Or.inl rfl | exact Or.inr trivial | omega | (simp only [Int.toNat_natCast] at *; omega) | (intro _ _ _ _; exact Dle.of_eq rfl) | refine And.intro ?_ ?_)⟩, by first | omega | (dsimp only; omega)⟩
        | trace_state
    · rw [hbv] at hl2
      have hnext : ∀ q, m ≤ q → q < (k.1 + k.2) / 2 + 1 → lt (π q) (π a) = true := fun q q1 q2 => hM.mono hw (Nat.le_refl _) (Nat.le_refl _) ham' q1 (by omega : q ≤ (k.1 + k.2) / 2) (by omega) hbv
      repeat' first
        | refine Or.inr ⟨_, _, _, Or.inl (hl2), by kernel_rfl, (by repeat' first | exact trivial | exact rfl | kernel_rfl | exact Dle.of_eq rfl | exact MLe.of_eq rfl | exact Dle.i (by omega) | exact Dle.i (by simp only [Int.toNat_natCast] at *; omega) | exact Dle.nil | exact Dle.rc Dle.nil | exact Option.some_ne_none _ | exact Or.inl rfl | exact Or.inr trivial | omega | (simp only [Int.toNat_natCast] at *; omega) | (intro _ _ _ _; exact Dle.of_eq rfl) | refine And.intro ?_ ?_), ?_⟩
        | (refine codeW_cond rfl ?_; first | (refine condW_dec ?_ ?_ <;> intro _ <;> try (exfalso; omega)) | refine condW_not ?_ | (refine condW_bool ?_ ?_ <;> intro _ <;> try (exfalso; omega)))
        | (refine facW_intro ?_; intro _)
        | refine Or.inl ?_
        | ((conv => whnf); first | (refine condW_dec ?_ ?_ <;> intro _ <;> try (exfalso; omega)) | refine condW_not ?_ | (refine condW_bool ?_ ?_ <;> intro _ <;> try (exfalso; omega)) | (refine nbC_t (fun _ => ?_) ?_) | (refine nbC_f ?_ (fun _ => ?_)))
        | refine And.intro (by first | omega | (simp only [Int.toNat_natCast] at *; omega) | (simp only [Nat.reduceAdd, Int.cast_ofNat_Int, true_and, and_true]; omega)  | kernel_rfl) ?_
        | refine RegW.run ?_
        | fail
      all_goals first
        | (exfalso; omega)
        | exact ⟨((k.1 + k.2) / 2 + 1, k.2), ⟨by show m ≤ (k.1 + k.2) / 2 + 1; omega, by show (k.1 + k.2) / 2 + 1 ≤ k.2; omega, k3, hnext, k5⟩, ⟨[], ⟨by kernel_rfl, by kernel_rfl, by kernel_rfl, by kernel_rfl, by kernel_rfl, by kernel_rfl, by kernel_rfl⟩, (by repeat' first | (exact Dle.i (by show _ = (((k.1 + k.2) / 2 + 1 : Nat) : Int); omega)) | exact trivial | exact rfl | kernel_rfl | exact Dle.of_eq rfl | exact MLe.of_eq rfl | exact Dle.i (by omega) | exact Dle.i (by simp only [Int.toNat_natCast] at *; omega) | exact Dle.nil | exact Dle.rc Dle.nil | exact Option.some_ne_none _ | exact Or.inl rfl | exact Or.inr trivial | omega | (simp only [Int.toNat_natCast] at *; omega) | (intro _ _ _ _; exact Dle.of_eq rfl) | refine And.intro ?_ ?_)⟩, by first | omega | (dsimp only; omega)⟩
        | trace_state
  · have hend := hM.one hw hc1 k1 (by omega) k4 (fun q q1 q2 => k5 q (by omega) q2)
    repeat' first
      | (refine codeW_cond rfl ?_; first | (refine condW_dec ?_ ?_ <;> intro _ <;> try (exfalso; omega)) | refine condW_not ?_ | (refine condW_bool ?_ ?_ <;> intro _ <;> try (exfalso; omega)))
      | (refine facW_intro ?_; intro _)
      | refine Or.inl ?_
      | ((conv => whnf); first | (refine condW_dec ?_ ?_ <;> intro _ <;> try (exfalso; omega)) | refine condW_not ?_ | (refine condW_bool ?_ ?_ <;> intro _ <;> try (exfalso; omega)) | (refine nbC_t (fun _ => ?_) ?_) | (refine nbC_f ?_ (fun _ => ?_)))
      | refine And.intro (by first | omega | (simp only [Int.toNat_natCast] at *; omega) | (simp only [Nat.reduceAdd, Int.cast_ofNat_Int, true_and, and_true]; omega)  | kernel_rfl) ?_
      | refine RegW.run ?_
      | fail
    refine ⟨Nat, fun j => [(11, i64 j)], fun j => [(2000, .row 3 n (rwI (rot π a (a + 1) (j + 1))))], [4, 2001, 2002], fun j => [], fun j => a ≤ j ∧ j + 1 ≤ k.1, fun j => k.1 - j, ⟨a, ⟨Nat.le_refl _, by omega⟩, ⟨[], ⟨by kernel_rfl, by kernel_rfl, by kernel_rfl, by kernel_rfl, by kernel_rfl, by kernel_rfl, by kernel_rfl⟩, (by repeat' first | ((intro i' j' hi' hj'; rw [rot_none2]; exact Dle.refl _ _)) | exact trivial | exact rfl | kernel_rfl | exact Dle.of_eq rfl | exact MLe.of_eq rfl | exact Dle.i (by omega) | exact Dle.i (by simp only [Int.toNat_natCast] at *; omega) | exact Dle.nil | exact Dle.rc Dle.nil | exact Option.some_ne_none _ | exact Or.inl rfl | exact Or.inr trivial | omega | (simp only [Int.toNat_natCast] at *; omega) | (intro _ _ _ _; exact Dle.of_eq rfl) | refine And.intro ?_ ?_)⟩⟩, fun j hj => ?_⟩
    obtain ⟨j1, j2⟩ := hj
    have hin2 := rot_in (a := a) (m := a + 1) (b := j + 1) hπ (by omega) (by omega) (by omega)
    by_cases hj3 : j + 1 < k.1
    · have hup : sb.swp (rot π a (a + 1) (j + 1)) ((j : Int)).toNat ((j : Int) + 1).toNat = rot π a (a + 1) (j + 1 + 1) := by
        rw [Int.toNat_natCast, show ((j : Int) + 1).toNat = j + 1 by omega]
        exact rot_up (p := π) (a := a) (k := j + 1) (by omega)
      repeat' first
        | refine Or.inr ⟨_, _, _, Or.inr (swap_x E n hn (rot π a (a + 1) (j + 1)) hin2 _ _ (by omega) (by omega) (by omega) (by omega)), by kernel_rfl, (by repeat' first | exact trivial | exact rfl | kernel_rfl | exact Dle.of_eq rfl | exact MLe.of_eq rfl | exact Dle.i (by omega) | exact Dle.i (by simp only [Int.toNat_natCast] at *; omega) | exact Dle.nil | exact Dle.rc Dle.nil | exact Option.some_ne_none _ | exact Or.inl rfl | exact Or.inr trivial | omega | (simp only [Int.toNat_natCast] at *; omega) | (intro _ _ _ _; exact Dle.of_eq rfl) | refine And.intro ?_ ?_), ?_⟩
        | (refine codeW_cond rfl ?_; first | (refine condW_dec ?_ ?_ <;> intro _ <;> try (exfalso; omega)) | refine condW_not ?_ | (refine condW_bool ?_ ?_ <;> intro _ <;> try (exfalso; omega)))
        | (refine facW_intro ?_; intro _)
        | refine Or.inl ?_
        | ((conv => whnf); first | (refine condW_dec ?_ ?_ <;> intro _ <;> try (exfalso; omega)) | refine condW_not ?_ | (refine condW_bool ?_ ?_ <;> intro _ <;> try (exfalso; omega)) | (refine nbC_t (fun _ => ?_) ?_) | (refine nbC_f ?_ (fun _ => ?_)))
        | refine And.intro (by first | omega | (simp only [Int.toNat_natCast] at *; omega) | (simp only [Nat.reduceAdd, Int.cast_ofNat_Int, true_and, and_true]; omega)  | kernel_rfl) ?_
        | refine RegW.run ?_
        | fail
      all_goals first
        | (exfalso; omega)
        | exact ⟨j + 1, by omega, ⟨[], ⟨by kernel_rfl, by kernel_rfl, by kernel_rfl, by kernel_rfl, by kernel_rfl, by kernel_rfl, by kernel_rfl⟩, (by repeat' first | (first | (intro i' j' hi' hj'; rw [hup]; exact Dle.refl _ _) | exact Dle.i (by omega)) | exact trivial | exact rfl | kernel_rfl | exact Dle.of_eq rfl | exact MLe.of_eq rfl | exact Dle.i (by omega) | exact Dle.i (by simp only [Int.toNat_natCast] at *; omega) | exact Dle.nil | exact Dle.rc Dle.nil | exact Option.some_ne_none _ | exact Or.inl rfl | exact Or.inr trivial | omega | (simp only [Int.toNat_natCast] at *; omega) | (intro _ _ _ _; exact Dle.of_eq rfl) | refine And.intro ?_ ?_)⟩, by first | omega | (dsimp only; omega)⟩
        | trace_state
    · have hje : j + 1 = k.1 := by omega
      repeat' first
        | (refine codeW_cond rfl ?_; first | (refine condW_dec ?_ ?_ <;> intro _ <;> try (exfalso; omega)) | refine condW_not ?_ | (refine condW_bool ?_ ?_ <;> intro _ <;> try (exfalso; omega)))
        | (refine facW_intro ?_; intro _)
        | refine Or.inl ?_
        | ((conv => whnf); first | (refine condW_dec ?_ ?_ <;> intro _ <;> try (exfalso; omega)) | refine condW_not ?_ | (refine condW_bool ?_ ?_ <;> intro _ <;> try (exfalso; omega)) | (refine nbC_t (fun _ => ?_) ?_) | (refine nbC_f ?_ (fun _ => ?_)))
        | refine And.intro (by first | omega | (simp only [Int.toNat_natCast] at *; omega) | (simp only [Nat.reduceAdd, Int.cast_ofNat_Int, true_and, and_true]; omega)  | kernel_rfl) ?_
        | refine RegW.run ?_
        | fail
      all_goals first
        | (exfalso; omega)
        | exact ⟨[(2000, .row 3 n (rwI (srt lt id π a b))), (2001, .cells [.rc (.vals vl)]), (2002, .cells [.own 2000 1 0 n])], [], rfl, ⟨[], ⟨by kernel_rfl, by kernel_rfl, by kernel_rfl, by kernel_rfl, by kernel_rfl, by kernel_rfl, by kernel_rfl⟩, (by repeat' first | ((intro i' j' hi' hj'; rw [hend, hje]; exact Dle.refl _ _)) | exact trivial | exact rfl | kernel_rfl | exact Dle.of_eq rfl | exact MLe.of_eq rfl | exact Dle.i (by omega) | exact Dle.i (by simp only [Int.toNat_natCast] at *; omega) | exact Dle.nil | exact Dle.rc Dle.nil | exact Option.some_ne_none _ | exact Or.inl rfl | exact Or.inr trivial | omega | (simp only [Int.toNat_natCast] at *; omega) | (intro _ _ _ _; exact Dle.of_eq rfl) | refine And.intro ?_ ?_)⟩, rfl⟩
        | trace_state
end
end
end sq
end Go.Proofs.YthoemnhigboahaaGreatDoor
