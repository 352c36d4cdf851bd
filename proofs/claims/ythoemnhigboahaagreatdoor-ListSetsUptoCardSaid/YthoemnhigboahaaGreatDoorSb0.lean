/-
  The stable order in plain words: numbers ordered by what they stand for and then by themselves; parts of a row that change places; the sorted row.
-/
import Derived.Test.YthoemnhigboahaaGreatDoorL0
namespace Go.Proofs.YthoemnhigboahaaGreatDoor
set_option linter.unusedVariables false
set_option linter.unusedSimpArgs false
namespace sb
structure Wk {α : Type} (lt : α → α → Bool) : Prop where
  asym : ∀ a b, lt a b = true → lt b a = false
  ntr : ∀ a b c, lt a b = false → lt b c = false → lt a c = false
section
variable {α : Type} (lt : α → α → Bool) (g : Nat → α)
def T (i j : Nat) : Prop := lt (g i) (g j) = true ∨ (lt (g j) (g i) = false ∧ i < j)
variable {lt} {g}
theorem T.irr (hw : Wk lt) {i : Nat} (h : T lt g i i) : False := by
  rcases h with h | ⟨_, h⟩
  · have := hw.asym _ _ h
    rw [h] at this
    cases this
  · omega
theorem T.trans (hw : Wk lt) {i j k : Nat} (h1 : T lt g i j) (h2 : T lt g j k) : T lt g i k := by
  unfold T at *
  rcases h1 with h1 | ⟨h1, l1⟩ <;> rcases h2 with h2 | ⟨h2, l2⟩
  · refine .inl ?_
    cases h : lt (g i) (g k)
    · have := hw.ntr _ _ _ h (hw.asym _ _ h2)
      rw [h1] at this
      cases this
    · rfl
  · refine .inl ?_
    cases h : lt (g i) (g k)
    · have := hw.ntr _ _ _ h h2
      rw [h1] at this
      cases this
    · rfl
  · refine .inl ?_
    cases h : lt (g i) (g k)
    · have := hw.ntr _ _ _ h1 h
      rw [h2] at this
      cases this
    · rfl
  · exact .inr ⟨hw.ntr _ _ _ h2 h1, by omega⟩
theorem T.total {i j : Nat} (hw : Wk lt) (h : i ≠ j) : T lt g i j ∨ T lt g j i := by
  unfold T
  cases h1 : lt (g i) (g j)
  · cases h2 : lt (g j) (g i)
    · rcases Nat.lt_or_gt_of_ne h with h | h
      · exact .inl (.inr ⟨rfl, h⟩)
      · exact .inr (.inr ⟨rfl, h⟩)
    · exact .inr (.inl rfl)
  · exact .inl (.inl rfl)
theorem T.asym (hw : Wk lt) {i j : Nat} (h1 : T lt g i j) (h2 : T lt g j i) : False := (h1.trans hw h2).irr hw
theorem T.iff {i j : Nat} (hw : Wk lt) (h : j < i) : T lt g i j ↔ lt (g i) (g j) = true := by
  unfold T
  exact ⟨fun h2 => h2.elim id (fun h3 => by omega), .inl⟩
theorem T.not {i j : Nat} (hw : Wk lt) (h : j < i) (hn : lt (g i) (g j) = false) : T lt g j i := .inr ⟨hn, h⟩
end
def swp {β : Type} (p : Nat → β) (i j : Nat) : Nat → β := fun k => if k = i then p j else if k = j then p i else p k
def rot {β : Type} (p : Nat → β) (a m b : Nat) : Nat → β := fun k => if a ≤ k ∧ k < a + (b - m) then p (k - a + m) else if a + (b - m) ≤ k ∧ k < b then p (k - (b - m)) else p k
def sr {β : Type} (p : Nat → β) (a b n : Nat) : Nat → β := fun k => if a ≤ k ∧ k < a + n then p (k - a + b) else if b ≤ k ∧ k < b + n then p (k - b + a) else p k
section
variable {β : Type} {p : Nat → β} {a m b i j n k : Nat}
theorem sr_zero : sr p a b 0 = p := by
  funext k
  unfold sr
  rw [if_neg (by omega), if_neg (by omega)]
theorem sr_succ (h : a + n < b) : swp (sr p a b n) (a + n) (b + n) = sr p a b (n + 1) := by
  funext k
  simp only [swp, sr]
  repeat' split
  all_goals first | rfl | (exfalso; omega) | (congr 1; omega)
theorem rot_big (h1 : j < i) (h2 : i ≤ m) : rot (sr p (m - i) m j) (m - i + j) m (m + j) = rot p (m - i) m (m + j) := by
  funext k
  simp only [rot, sr]
  repeat' split
  all_goals first | rfl | (exfalso; omega) | (congr 1; omega)
theorem rot_small (h1 : i < j) (h2 : i ≤ m) : rot (sr p (m - i) (m + j - i) i) (m - i) m (m + j - i) = rot p (m - i) m (m + j) := by
  funext k
  simp only [rot, sr]
  repeat' split
  all_goals first | rfl | (exfalso; omega) | (congr 1; omega)
theorem rot_even (h2 : i ≤ m) : sr p (m - i) m i = rot p (m - i) m (m + i) := by
  funext k
  simp only [rot, sr]
  repeat' split
  all_goals first | rfl | (exfalso; omega) | (congr 1; omega)
theorem rot_none1 : rot p m m b = p := by
  funext k
  simp only [rot]
  repeat' split
  all_goals first | rfl | (exfalso; omega) | (congr 1; omega)
theorem rot_none2 : rot p a m m = p := by
  funext k
  simp only [rot]
  repeat' split
  all_goals first | rfl | (exfalso; omega) | (congr 1; omega)
theorem rot_up (h : a < k) : swp (rot p a (a + 1) k) (k - 1) k = rot p a (a + 1) (k + 1) := by
  funext x
  simp only [rot, swp]
  repeat' split
  all_goals first | rfl | (exfalso; omega) | (congr 1; omega)
theorem rot_down (h : k ≤ m) (h0 : 0 < k) : swp (rot p k m (m + 1)) k (k - 1) = rot p (k - 1) m (m + 1) := by
  funext x
  simp only [rot, swp]
  repeat' split
  all_goals first | rfl | (exfalso; omega) | (congr 1; omega)
end
def seg (p : Nat → Nat) (a n : Nat) : List Nat := (List.range n).map fun i => p (a + i)
theorem seg_add (p : Nat → Nat) (a n m : Nat) : seg p a (n + m) = seg p a n ++ seg p (a + n) m := by
  unfold seg
  rw [List.range_add, List.map_append, List.map_map]
  congr 1
  refine List.map_congr_left fun i _ => ?_
  simp [Nat.add_assoc]
theorem seg_congr {p q : Nat → Nat} {a b n : Nat} (h : ∀ i, i < n → p (a + i) = q (b + i)) : seg p a n = seg q b n :=
  List.map_congr_left fun i hi => h i (List.mem_range.1 hi)
theorem seg_mem {p : Nat → Nat} {a n x : Nat} (h : x ∈ seg p a n) : ∃ k, a ≤ k ∧ k < a + n ∧ p k = x := by
  obtain ⟨i, hi, rfl⟩ := List.mem_map.1 h
  exact ⟨a + i, by omega, by have := List.mem_range.1 hi; omega, rfl⟩
theorem mem_seg {p : Nat → Nat} {a n k : Nat} (h1 : a ≤ k) (h2 : k < a + n) : p k ∈ seg p a n :=
  List.mem_map.2 ⟨k - a, List.mem_range.2 (by omega), by rw [show a + (k - a) = k by omega]⟩
def Prm (q p : Nat → Nat) (a b : Nat) : Prop := (∀ k, ¬ (a ≤ k ∧ k < b) → q k = p k) ∧ (seg q a (b - a)).Perm (seg p a (b - a))
namespace Prm
variable {q p r : Nat → Nat} {a b : Nat}
theorem refl (p : Nat → Nat) (a b : Nat) : Prm p p a b := ⟨fun _ _ => rfl, List.Perm.refl _⟩
theorem trans (h1 : Prm q p a b) (h2 : Prm p r a b) : Prm q r a b := ⟨fun k hk => (h1.1 k hk).trans (h2.1 k hk), h1.2.trans h2.2⟩
theorem symm (h1 : Prm q p a b) : Prm p q a b := ⟨fun k hk => (h1.1 k hk).symm, h1.2.symm⟩
theorem mem (h : Prm q p a b) {k : Nat} (h1 : a ≤ k) (h2 : k < b) : ∃ l, a ≤ l ∧ l < b ∧ q k = p l := by
  obtain ⟨l, q1, q2, q3⟩ := seg_mem (h.2.mem_iff.1 (mem_seg h1 (by omega : k < a + (b - a))))
  exact ⟨l, q1, by omega, q3.symm⟩
theorem wide (h : Prm q p a b) {a' b' : Nat} (h1 : a' ≤ a) (h2 : b ≤ b') (hab : a ≤ b) : Prm q p a' b' := by
  refine ⟨fun k hk => h.1 k (by omega), ?_⟩
  obtain ⟨x, rfl⟩ : ∃ x, a = a' + x := ⟨a - a', by omega⟩
  obtain ⟨y, rfl⟩ : ∃ y, b = a' + x + y := ⟨b - (a' + x), by omega⟩
  obtain ⟨z, rfl⟩ : ∃ z, b' = a' + x + y + z := ⟨b' - (a' + x + y), by omega⟩
  have e : ∀ p : Nat → Nat, seg p a' (a' + x + y + z - a') = seg p a' x ++ (seg p (a' + x) y ++ seg p (a' + x + y) z) := fun p => by
    rw [show a' + x + y + z - a' = x + (y + z) by omega, seg_add, seg_add]
  have e2 : ∀ p : Nat → Nat, seg p (a' + x) (a' + x + y - (a' + x)) = seg p (a' + x) y := fun p => by rw [show a' + x + y - (a' + x) = y by omega]
  have h3 := h.2
  rw [e2, e2] at h3
  rw [e, e, seg_congr (p := q) (q := p) (a := a') (b := a') (n := x) (fun i hi => h.1 _ (by omega)), seg_congr (p := q) (q := p) (a := a' + x + y) (b := a' + x + y) (n := z) (fun i hi => h.1 _ (by omega))]
  exact (List.Perm.append_left _ (h3.append_right _))
end Prm
theorem rot_prm (p : Nat → Nat) {a m b : Nat} (h1 : a ≤ m) (h2 : m ≤ b) : Prm (rot p a m b) p a b := by
  refine ⟨fun k hk => ?_, ?_⟩
  · unfold rot
    rw [if_neg (by omega), if_neg (by omega)]
  · obtain ⟨x, rfl⟩ : ∃ x, m = a + x := ⟨m - a, by omega⟩
    obtain ⟨y, rfl⟩ : ∃ y, b = a + x + y := ⟨b - (a + x), by omega⟩
    have e1 : seg (rot p a (a + x) (a + x + y)) a (a + x + y - a) = seg p (a + x) y ++ seg p a x := by
      rw [show a + x + y - a = y + x by omega, seg_add]
      congr 1
      · refine seg_congr fun i hi => ?_
        unfold rot
        rw [if_pos (by omega)]
        congr 1
        omega
      · refine seg_congr fun i hi => ?_
        unfold rot
        rw [if_neg (by omega), if_pos (by omega)]
        congr 1
        omega
    rw [e1, show a + x + y - a = x + y by omega, seg_add]
    exact List.perm_append_comm
section
variable {α : Type} (lt : α → α → Bool) (g : Nat → α)
def Srt (p : Nat → Nat) (a b : Nat) : Prop := ∀ k l, a ≤ k → k < l → l < b → T lt g (p k) (p l)
variable {lt} {g}
theorem Srt.sub {p : Nat → Nat} {a b a' b' : Nat} (h : Srt lt g p a b) (h1 : a ≤ a') (h2 : b' ≤ b) : Srt lt g p a' b' := fun k l q1 q2 q3 => h k l (by omega) q2 (by omega)
theorem Srt.congr {p q : Nat → Nat} {a b : Nat} (h : Srt lt g p a b) (he : ∀ k, a ≤ k → k < b → q k = p k) : Srt lt g q a b := fun k l q1 q2 q3 => by
  rw [he k q1 (by omega), he l (by omega) q3]
  exact h k l q1 q2 q3
theorem perm_eq (hw : Wk lt) : ∀ (l1 l2 : List Nat), l1.Perm l2 → l1.Pairwise (T lt g) → l2.Pairwise (T lt g) → l1 = l2
  | [], l2, h, _, _ => (List.Perm.nil_eq h)
  | x :: l1, [], h, _, _ => absurd h.length_eq (by simp)
  | x :: l1, y :: l2, h, h1, h2 => by
    rw [List.pairwise_cons] at h1 h2
    have hxy : x = y := by
      have hx := h.mem_iff.1 (List.mem_cons_self (a := x) (l := l1))
      have hy := h.mem_iff.2 (List.mem_cons_self (a := y) (l := l2))
      rcases List.mem_cons.1 hx with e | e
      · exact e
      · rcases List.mem_cons.1 hy with e' | e'
        · exact e'.symm
        · exact ((h1.1 _ e').asym hw (h2.1 _ e)).elim
    subst hxy
    rw [perm_eq hw l1 l2 (List.Perm.cons_inv h) h1.2 h2.2]
theorem seg_pw {p : Nat → Nat} {a b : Nat} (h : Srt lt g p a b) : (seg p a (b - a)).Pairwise (T lt g) := by
  unfold seg
  rw [List.pairwise_map, List.pairwise_iff_getElem]
  intro i j hi hj hij
  have hi' : i < b - a := by simpa using hi
  have hj' : j < b - a := by simpa using hj
  rw [List.getElem_range, List.getElem_range]
  exact h _ _ (by omega) (by omega) (by omega)
theorem srt_uniq (hw : Wk lt) {p q r : Nat → Nat} {a b : Nat} (h1 : Srt lt g q a b) (h2 : Srt lt g r a b) (h3 : Prm q p a b) (h4 : Prm r p a b) : q = r := by
  have h := perm_eq hw _ _ (h3.2.trans h4.2.symm) (seg_pw h1) (seg_pw h2)
  funext k
  by_cases hk : a ≤ k ∧ k < b
  · have := congrArg (fun l => l[k - a]?) h
    simp only [seg, List.getElem?_map, List.getElem?_range (show k - a < b - a by omega), Option.map_some, Option.some.injEq] at this
    rwa [show a + (k - a) = k by omega] at this
  · rw [h3.1 k hk, h4.1 k hk]
variable (lt) (g)
noncomputable def srt (p : Nat → Nat) (a b : Nat) : Nat → Nat := open Classical in if h : ∃ q, Srt lt g q a b ∧ Prm q p a b then h.choose else p
variable {lt} {g}
theorem srt_eq (hw : Wk lt) {p q : Nat → Nat} {a b : Nat} (h1 : Srt lt g q a b) (h2 : Prm q p a b) : srt lt g p a b = q := by
  have h : ∃ q, Srt lt g q a b ∧ Prm q p a b := ⟨q, h1, h2⟩
  unfold srt
  rw [dif_pos h]
  exact srt_uniq hw h.choose_spec.1 h1 h.choose_spec.2 h2
theorem rot_srt {p : Nat → Nat} {a s m e b : Nat} (h1 : Srt lt g p a m) (h2 : Srt lt g p m b) (has : a ≤ s) (hsm : s ≤ m) (hme : m ≤ e) (heb : e ≤ b)
    (h3 : ∀ c q, a ≤ c → c < s → m ≤ q → q < b → T lt g (p c) (p q)) (h4 : ∀ c q, s ≤ c → c < m → m ≤ q → q < e → T lt g (p q) (p c)) (h5 : ∀ c q, s ≤ c → c < m → e ≤ q → q < b → T lt g (p c) (p q)) : Srt lt g (rot p s m e) a b := by
  intro k l hk hkl hl
  have g1 : ∀ x y, a ≤ x → x < y → y < m → T lt g (p x) (p y) := h1
  have g2 : ∀ x y, m ≤ x → x < y → y < b → T lt g (p x) (p y) := h2
  unfold rot
  by_cases k1 : s ≤ k ∧ k < s + (e - m)
  · rw [if_pos k1]
    by_cases l1 : s ≤ l ∧ l < s + (e - m)
    · rw [if_pos l1]
      exact g2 _ _ (by omega) (by omega) (by omega)
    · rw [if_neg l1]
      by_cases l2 : s + (e - m) ≤ l ∧ l < e
      · rw [if_pos l2]
        exact h4 _ _ (by omega) (by omega) (by omega) (by omega)
      · rw [if_neg l2]
        exact g2 _ _ (by omega) (by omega) (by omega)
  · rw [if_neg k1]
    by_cases k2 : s + (e - m) ≤ k ∧ k < e
    · rw [if_pos k2, if_neg (show ¬ (s ≤ l ∧ l < s + (e - m)) by omega)]
      by_cases l2 : s + (e - m) ≤ l ∧ l < e
      · rw [if_pos l2]
        exact g1 _ _ (by omega) (by omega) (by omega)
      · rw [if_neg l2]
        exact h5 _ _ (by omega) (by omega) (by omega) (by omega)
    · rw [if_neg k2]
      by_cases l1 : s ≤ l ∧ l < s + (e - m)
      · rw [if_pos l1]
        exact h3 _ _ (by omega) (by omega) (by omega) (by omega)
      · rw [if_neg l1]
        by_cases l2 : s + (e - m) ≤ l ∧ l < e
        · rw [if_pos l2]
          exact g1 _ _ (by omega) (by omega) (by omega)
        · rw [if_neg l2]
          by_cases k3 : k < s
          · by_cases l3 : l < s
            · exact g1 _ _ (by omega) (by omega) (by omega)
            · exact h3 _ _ (by omega) (by omega) (by omega) (by omega)
          · exact g2 _ _ (by omega) (by omega) (by omega)
theorem place (hw : Wk lt) (p : Nat → Nat) (x a : Nat) : ∀ n, Srt lt g p a (a + n) → (∀ k, a ≤ k → k < a + n → p k ≠ x) → ∃ s, a ≤ s ∧ s ≤ a + n ∧ (∀ c, a ≤ c → c < s → T lt g (p c) x) ∧ ∀ c, s ≤ c → c < a + n → T lt g x (p c)
  | 0, _, _ => ⟨a, by omega, by omega, fun c h1 h2 => by omega, fun c h1 h2 => by omega⟩
  | n + 1, hs, hn => by
    rcases T.total (g := g) hw (hn (a + n) (by omega) (by omega)) with h | h
    · refine ⟨a + (n + 1), by omega, by omega, fun c h1 h2 => ?_, fun c h1 h2 => by omega⟩
      by_cases e : c = a + n
      · rw [e]; exact h
      · exact (hs c (a + n) h1 (by omega) (by omega)).trans hw h
    · obtain ⟨s, q1, q2, q3, q4⟩ := place hw p x a n (hs.sub (by omega) (by omega)) (fun k h1 h2 => hn k h1 (by omega))
      refine ⟨s, q1, by omega, q3, fun c h1 h2 => ?_⟩
      by_cases e : c = a + n
      · rw [e]; exact h
      · exact q4 c h1 (by omega)
theorem srt_ex (hw : Wk lt) (p : Nat → Nat) (a : Nat) : ∀ n, (∀ k l, a ≤ k → k < l → l < a + n → p k ≠ p l) → ∃ q, Srt lt g q a (a + n) ∧ Prm q p a (a + n)
  | 0, _ => ⟨p, fun k l h1 h2 h3 => by omega, Prm.refl _ _ _⟩
  | n + 1, hd => by
    obtain ⟨q, h1, h2⟩ := srt_ex hw p a n (fun k l q1 q2 q3 => hd k l q1 q2 (by omega))
    have e : q (a + n) = p (a + n) := h2.1 _ (by omega)
    obtain ⟨s, q1, q2, q3, q4⟩ := place (g := g) hw q (q (a + n)) a n h1 (fun k k1 k2 he => by
      obtain ⟨l, l1, l2, l3⟩ := h2.mem k1 k2
      exact hd l (a + n) l1 (by omega) (by omega) (by rw [← l3, he, e]))
    have hp : Prm (rot q s (a + n) (a + n + 1)) q a (a + n + 1) := (rot_prm q (a := s) (m := a + n) (b := a + n + 1) q2 (by omega)).wide q1 (by omega) (by omega)
    refine ⟨rot q s (a + n) (a + n + 1), ?_, hp.trans (h2.wide (by omega) (by omega) (by omega))⟩
    refine rot_srt (e := a + n + 1) h1 (fun k l k1 k2 k3 => by omega) q1 q2 (by omega) (by omega) (fun c r c1 c2 r1 r2 => ?_) (fun c r c1 c2 r1 r2 => ?_) (fun c r c1 c2 r1 r2 => by omega)
    · obtain rfl : r = a + n := by omega
      exact q3 c c1 c2
    · obtain rfl : r = a + n := by omega
      exact q4 c c1 c2
theorem srt_spec (hw : Wk lt) {p : Nat → Nat} {a b : Nat} (hd : ∀ k l, a ≤ k → k < l → l < b → p k ≠ p l) : Srt lt g (srt lt g p a b) a b ∧ Prm (srt lt g p a b) p a b := by
  by_cases hab : a ≤ b
  · have h : ∃ q, Srt lt g q a b ∧ Prm q p a b := by
      have := srt_ex (g := g) hw p a (b - a) (fun k l h1 h2 h3 => hd k l h1 h2 (by omega))
      rwa [show a + (b - a) = b by omega] at this
    obtain ⟨q, h1, h2⟩ := h
    rw [srt_eq hw h1 h2]
    exact ⟨h1, h2⟩
  · have h1 : Srt lt g p a b := fun k l q1 q2 q3 => by omega
    rw [srt_eq hw h1 (Prm.refl _ _ _)]
    exact ⟨h1, Prm.refl _ _ _⟩
theorem srt_self (hw : Wk lt) {p : Nat → Nat} {a b : Nat} (h : Srt lt g p a b) : srt lt g p a b = p := srt_eq hw h (Prm.refl _ _ _)
theorem Srt.ne (hw : Wk lt) {p : Nat → Nat} {a b : Nat} (h : Srt lt g p a b) : ∀ k l, a ≤ k → k < l → l < b → p k ≠ p l := fun k l h1 h2 h3 e => by
  have := h k l h1 h2 h3
  rw [e] at this
  exact this.irr hw
end
end sb
end Go.Proofs.YthoemnhigboahaaGreatDoor
