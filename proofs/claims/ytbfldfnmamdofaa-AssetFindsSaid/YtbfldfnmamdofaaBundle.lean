/-
  asset.bundleFault, asset.Locate and the reference's: what they compute.
-/
import Derived.Test.YtbfldfnmamdofaaRows
import Derived.Test.YtbfldfnmamdofaaL2
import Derived.WalkLawsBesides
namespace Go.Proofs.Ytbfldfnmamdofaa.bundle
open Go.RowKit
set_option linter.unusedVariables false

/-- The last end, if the ends do not fall. -/
def ends (last : Int) : List Int → Option Int
  | [] => some last
  | n :: r => if n < last then none else ends n r

theorem ends_append (n : Int) : ∀ (l : List Int) (last : Int), ends last (l ++ [n]) = (ends last l).bind fun e => if n < e then none else some n
  | [], last => by simp [ends]
  | m :: r, last => by
    simp only [List.cons_append, ends]
    split
    · rfl
    · exact ends_append n r m

theorem ends_stop {l : List Int} {k : Nat} {n last e : Int} (ht : ends e (l.take k) = some last) (hn : l[k]? = some n) (hlt : n < last) : ends e l = none := by
  induction l generalizing e k with
  | nil => simp at hn
  | cons m r ih =>
    cases k with
    | zero =>
      simp at hn ht
      subst hn
      simp only [ends] at ht ⊢
      injection ht with ht
      subst ht
      rw [if_pos hlt]
    | succ k =>
      simp only [List.take_succ_cons, ends] at ht ⊢
      split at ht
      · cases ht
      · rename_i h
        rw [if_neg h]
        exact ih ht (by simpa using hn)

theorem ends_ge : ∀ (l : List Int) (last e : Int), ends last l = some e → ∀ x ∈ l, last ≤ x
  | [], _, _, _, x, hx => by simp at hx
  | n :: r, last, e, h, x, hx => by
    simp only [ends] at h
    split at h
    · cases h
    · rename_i hn
      rcases List.mem_cons.1 hx with rfl | hx
      · omega
      · have := ends_ge r n e h x hx
        omega

theorem ends_next {l : List Int} {k : Nat} {n last e : Int} (ht : ends e (l.take k) = some last) (hn : l[k]? = some n) (hlt : ¬ n < last) : ends e (l.take (k + 1)) = some n := by
  rw [List.take_add_one, hn]
  show ends e (l.take k ++ [n]) = _
  rw [ends_append, ht]
  simp [hlt]

/-- The error of a bundle's form. -/
def fault (size np ne : Int) (l : List Int) : Int :=
  if 200000 < size then 4 else if np ≠ ne ∨ 40 < np then 1 else if ends 0 l = some size then 0 else 1

/-- The part in which a byte is, and its position in it. -/
def find (at_ start : Int) (i : Int) : List Int → Option (Int × Int)
  | [] => none
  | n :: r => if at_ < n then some (i, at_ - start) else find at_ n (i + 1) r

theorem find_there {at_ e : Int} (h2 : at_ < e) : ∀ (l : List Int) (last start i : Int), last ≤ at_ → ends last l = some e → ∃ p f, find at_ start i l = some (p, f)
  | [], last, start, i, h1, h => by simp only [ends] at h; injection h with h; omega
  | n :: r, last, start, i, h1, h => by
    simp only [ends] at h
    split at h
    · cases h
    · simp only [find]
      split
      · exact ⟨_, _, rfl⟩
      · exact find_there h2 r n n (i + 1) (by omega) h

section
variable (s : ByteArray) (A A' : Option Addr) (n c n' c' : Nat) (l : List Int)

def FaultRel (_v5 : Value) (v3 v26 : Value) : Prop := ∃ (k : Nat) (last : Int), k ≤ n' ∧ v26 = .int .i64 k ∧ v3 = .int .i64 last ∧ ends 0 (l.take k) = some last

set_option maxHeartbeats 400000 in
theorem bundleFault_any (w : World) (hs : s.size ≤ 9223372036854775807) (hn : n ≤ 9223372036854775807) (hn' : n' ≤ 9223372036854775807) (hl : l.length = n') (hr : Rd w 1 icell A' l) :
    Calls Try.prog 49 #[.agg #[.string s, .slice A n c, .slice A' n' c']] w fun e w' => e = .returned (.int .i64 (fault s.size n n' l)) ∧ Below w.heap.size w w' := by
  by_cases h1 : (200000 : Int) < s.size
  · have e1 : fault s.size n n' l = 4 := if_pos h1
    have e2 := hide e1
    clear e1
    go_enter Try.func49, Try.ntmps49
    go_wp2
    go_ret
    exact ⟨by rw [e2.out]; rfl, (Below.refl _ _).alloc (Nat.le_refl _) _⟩
  · by_cases h2 : (n : Int) ≠ n' ∨ (40 : Int) < n
    · have e1 : fault s.size n n' l = 1 := by unfold fault; rw [if_neg h1, if_pos h2]
      have e2 := hide e1
      clear e1
      rcases (by omega : (n : Int) ≠ n' ∨ ((n : Int) = n' ∧ (40 : Int) < n)) with h2 | ⟨h2, h3⟩
      · have h4 : ((n : Int) != (n' : Int)) = true := by rw [bne_iff_ne]; exact h2
        clear h2
        go_enter Try.func49, Try.ntmps49
        go_wp2
        go_ret
        exact ⟨by rw [e2.out]; rfl, (Below.refl _ _).alloc (Nat.le_refl _) _⟩
      · have h4 : ((n : Int) != (n' : Int)) = false := by rw [bne_eq_false_iff_eq]; exact h2
        clear h2
        go_enter Try.func49, Try.ntmps49
        go_wp2
        go_ret
        exact ⟨by rw [e2.out]; rfl, (Below.refl _ _).alloc (Nat.le_refl _) _⟩
    · have e1 : fault s.size n n' l = if ends 0 l = some (s.size : Int) then 0 else 1 := by unfold fault; rw [if_neg h1, if_neg h2]
      have e2 := hide e1
      have h3 : ¬ (40 : Int) < n := fun h => h2 (.inr h)
      have h4 : ((n : Int) != (n' : Int)) = false := by rw [bne_eq_false_iff_eq]; exact Classical.byContradiction fun h => h2 (.inl h)
      have h5 : n' ≤ 40 := by omega
      have hr' := hide (hr.keep ((Below.refl w.heap.size w).alloc (Nat.le_refl _) (.cells #[.string s, .slice A n c, .slice A' n' c'] 37)))
      clear e1 h2 hr
      go_enter Try.func49, Try.ntmps49
      go_wp2_with fail
      go_loop [5, 3, 26] (FaultRel n' l) (fun _ _ v26 => n' - (intOf v26).toNat)
      case atStart => exact ⟨0, 0, by omega, rfl, rfl, rfl⟩
      case round =>
        obtain ⟨k, last, hk, rfl, rfl, hlast⟩ := hrel
        have HL := hide hlast
        clear hlast
        by_cases hlt : k < n'
        · obtain ⟨b, o, x, rfl, hx, _, hc⟩ := hr'.out.at_ (k := k) (by omega)
          have hc0 : (w.alloc (.cells #[.string s, .slice A n c, .slice (some ⟨b, o, none⟩) n' c'] 37)).cell? ⟨b, o + k * 1, none⟩ = some (.int .i64 x) := hc 0 _ rfl
          rw [Nat.mul_one] at hc0
          have HX := hide hx
          have hki : (k : Int) < n' := by omega
          clear hc hx
          by_cases hlo : x < last
          · go_wp2
            go_ret
            have h6 : ends 0 l = none := ends_stop HL.out HX.out hlo
            exact ⟨by rw [e2.out, h6]; rfl, (Below.refl _ _).alloc (Nat.le_refl _) _⟩
          · go_wp2_with fail
            go_round
            case rel => exact ⟨k + 1, x, by omega, by go_num, rfl, ends_next HL.out HX.out hlo⟩
            case measure => simp [intOf]; omega
        · have h6 : ends 0 l = some last := by have := HL.out; rwa [List.take_of_length_le (by omega)] at this
          have h7 := hide h6
          clear h6
          by_cases hsz : last = s.size
          · have h8 : (last != (s.size : Int)) = false := by rw [bne_eq_false_iff_eq]; exact hsz
            have h9 := hide hsz
            clear hsz
            go_wp2
            go_ret
            exact ⟨by rw [e2.out, h7.out, h9.out]; simp, (Below.refl _ _).alloc (Nat.le_refl _) _⟩
          · have h8 : (last != (s.size : Int)) = true := by rw [bne_iff_ne]; exact hsz
            have h9 := hide hsz
            clear hsz
            go_wp2
            go_ret
            exact ⟨by rw [e2.out, h7.out, if_neg (fun h => h9.out (by injection h))]; rfl, (Below.refl _ _).alloc (Nat.le_refl _) _⟩

/-- Whether the numbers of a bundle fit. -/
def form (size np ne : Int) (l : List Int) : Bool := decide (np = ne) && decide (¬ 40 < np) && decide (ends 0 l = some size)

theorem fault_form (size np ne : Int) (l : List Int) : fault size np ne l = if 200000 < size then 4 else if form size np ne l then 0 else 1 := by
  unfold fault form
  by_cases h1 : 200000 < size
  · rw [if_pos h1, if_pos h1]
  · rw [if_neg h1, if_neg h1]
    by_cases h2 : np = ne
    · subst h2
      by_cases h3 : 40 < np <;> by_cases h4 : ends 0 l = some size <;> simp [h3, h4] <;> omega
    · simp [h2]

def FormRel (v3 _v5 : Value) (v22 : Value) : Prop := ∃ (k : Nat) (last : Int), k ≤ n' ∧ v22 = .int .i64 k ∧ v3 = .int .i64 last ∧ ends 0 (l.take k) = some last

set_option maxHeartbeats 400000 in
theorem form_any (w : World) (hn : n ≤ 9223372036854775807) (hn' : n' ≤ 9223372036854775807) (hl : l.length = n') (hr : Rd w 1 icell A' l) :
    Calls Try.prog 50 #[.agg #[.string s, .slice A n c, .slice A' n' c']] w fun e w' => e = .returned (.bool (form s.size n n' l)) ∧ Below w.heap.size w w' := by
  by_cases h2 : (n : Int) ≠ n' ∨ (40 : Int) < n
  · have e1 : form s.size n n' l = false := by
      unfold form
      rcases h2 with h | h
      · simp; intro h'; omega
      · simp [h]
    have e2 := hide e1
    clear e1
    rcases (by omega : (n : Int) ≠ n' ∨ ((n : Int) = n' ∧ (40 : Int) < n)) with h2 | ⟨h2, h3⟩
    · have h4 : ((n : Int) != (n' : Int)) = true := by rw [bne_iff_ne]; exact h2
      clear h2
      go_enter Try.func50, Try.ntmps50
      go_wp2
      go_ret
      exact ⟨by rw [e2.out]; rfl, (Below.refl _ _).alloc (Nat.le_refl _) _⟩
    · have h4 : ((n : Int) != (n' : Int)) = false := by rw [bne_eq_false_iff_eq]; exact h2
      clear h2
      go_enter Try.func50, Try.ntmps50
      go_wp2
      go_ret
      exact ⟨by rw [e2.out]; rfl, (Below.refl _ _).alloc (Nat.le_refl _) _⟩
  · have h3 : ¬ (40 : Int) < n := fun h => h2 (.inr h)
    have hnn : (n : Int) = n' := Classical.byContradiction fun h => h2 (.inl h)
    have h4 : ((n : Int) != (n' : Int)) = false := by rw [bne_eq_false_iff_eq]; exact hnn
    have e1 : form s.size n n' l = decide (ends 0 l = some (s.size : Int)) := by unfold form; simp [hnn]; omega
    have e2 := hide e1
    have h5 : n' ≤ 40 := by omega
    have hr' := hide (hr.keep ((Below.refl w.heap.size w).alloc (Nat.le_refl _) (.cells #[.string s, .slice A n c, .slice A' n' c'] 37)))
    clear e1 h2 hr hnn
    go_enter Try.func50, Try.ntmps50
    go_wp2_with fail
    go_loop [3, 5, 22] (FormRel n' l) (fun _ _ v22 => n' - (intOf v22).toNat)
    case atStart => exact ⟨0, 0, by omega, rfl, rfl, rfl⟩
    case round =>
      obtain ⟨k, last, hk, rfl, rfl, hlast⟩ := hrel
      have HL := hide hlast
      clear hlast
      by_cases hlt : k < n'
      · obtain ⟨b, o, x, rfl, hx, _, hc⟩ := hr'.out.at_ (k := k) (by omega)
        have hc0 : (w.alloc (.cells #[.string s, .slice A n c, .slice (some ⟨b, o, none⟩) n' c'] 37)).cell? ⟨b, o + k * 1, none⟩ = some (.int .i64 x) := hc 0 _ rfl
        rw [Nat.mul_one] at hc0
        have HX := hide hx
        have hki : (k : Int) < n' := by omega
        clear hc hx
        by_cases hlo : x < last
        · go_wp2
          go_ret
          have h6 : ends 0 l = none := ends_stop HL.out HX.out hlo
          exact ⟨by rw [e2.out, h6]; rfl, (Below.refl _ _).alloc (Nat.le_refl _) _⟩
        · go_wp2_with fail
          go_round
          case rel => exact ⟨k + 1, x, by omega, by go_num, rfl, ends_next HL.out HX.out hlo⟩
          case measure => simp [intOf]; omega
      · have h6 : ends 0 l = some last := by have := HL.out; rwa [List.take_of_length_le (by omega)] at this
        have h7 := hide h6
        clear h6
        go_wp2
        go_ret
        refine ⟨?_, (Below.refl _ _).alloc (Nat.le_refl _) _⟩
        rw [e2.out, h7.out]
        by_cases hsz : last = s.size
        · simp [hsz]
        · simp [hsz]

def LocRel (at_ p f : Int) (v4 v5 : Value) : Prop := ∃ (k : Nat) (st : Int), v4 = .int .i64 k ∧ v5 = .int .i64 st ∧ find at_ st k (l.drop k) = some (p, f) ∧ k ≤ n' ∧ 0 ≤ st ∧ st ≤ at_

theorem find_here {at_ st p f : Int} {k : Nat} (h : find at_ st k (l.drop k) = some (p, f)) : ∃ x, l[k]? = some x ∧ k < l.length ∧ (at_ < x → p = k ∧ f = at_ - st) ∧ (¬ at_ < x → find at_ x ((k + 1 : Nat) : Int) (l.drop (k + 1)) = some (p, f)) := by
  by_cases hk : k < l.length
  · refine ⟨l[k], List.getElem?_eq_getElem hk, hk, ?_⟩
    rw [List.drop_eq_getElem_cons hk] at h
    simp only [find] at h
    constructor
    · intro hx
      rw [if_pos hx] at h
      simp only [Option.some.injEq, Prod.mk.injEq] at h
      exact ⟨h.1.symm, h.2.symm⟩
    · intro hx
      rw [if_neg hx] at h
      simpa using h
  · rw [List.drop_eq_nil_of_le (by omega)] at h
    simp [find] at h

/-- What either search hands back. -/
def locate (size np ne : Int) (l : List Int) (at_ : Int) : Int × Int × Int :=
  if fault size np ne l ≠ 0 then (0, 0, fault size np ne l) else if at_ < 0 ∨ size ≤ at_ then (0, 0, 2) else ((((find at_ 0 0 l).getD (0, 0)).1, ((find at_ 0 0 l).getD (0, 0)).2, 0))

theorem fault_zero {size np ne : Int} {l : List Int} (h : fault size np ne l = 0) : np = ne ∧ size ≤ 200000 ∧ np ≤ 40 ∧ ends 0 l = some size := by
  unfold fault at h
  split at h
  · cases h
  · split at h
    · cases h
    · split at h
      · rename_i h1 h2 h3
        exact ⟨Classical.byContradiction fun h' => h2 (.inl h'), by omega, by omega, h3⟩
      · cases h

set_option maxHeartbeats 400000 in
theorem locate_any (at_ : Int) (w : World) (hat : In64 at_) (hs : s.size ≤ 9223372036854775807) (hn : n ≤ 9223372036854775807) (hn' : n' ≤ 9223372036854775807) (hl : l.length = n') (hr : Rd w 1 icell A' l) :
    Calls Try.prog 20 #[.agg #[.string s, .slice A n c, .slice A' n' c'], .int .i64 at_] w fun e w' =>
      e = .returned (.tuple #[.int .i64 (locate s.size n n' l at_).1, .int .i64 (locate s.size n n' l at_).2.1, .int .i64 (locate s.size n n' l at_).2.2]) ∧ Below w.heap.size w w' := by
  have hr1 := hr.keep ((Below.refl w.heap.size w).alloc (Nat.le_refl _) (.cells #[.string s, .slice A n c, .slice A' n' c'] 37))
  by_cases h0 : fault s.size n n' l = 0
  · have Z := fault_zero h0
    have HF := hide h0
    clear h0
    go_enter Try.func20, Try.ntmps20
    go_wp2_with fail
    refine (bundleFault_any s A A' n c n' c' l _ hs hn hn' hl hr1).mono ?_
    rintro e w1 ⟨rfl, hb⟩
    rw [HF.out]
    have hb1 : Below w.heap.size w w1 := ((Below.refl _ _).alloc (Nat.le_refl _) (.cells #[.string s, .slice A n c, .slice A' n' c'] 37)).trans (hb.mono (by simp))
    have hbox : ∀ o, w1.cell? ⟨w.heap.size, o, none⟩ = (w.alloc (.cells #[.string s, .slice A n c, .slice A' n' c'] 37)).cell? ⟨w.heap.size, o, none⟩ := fun o => hb.cell (p := ⟨w.heap.size, o, none⟩) (by simp)
    have hc0 : w1.cell? ⟨w.heap.size, 0, none⟩ = some (.string s) := by rw [hbox]; simp [go_sem]
    have hc2 : w1.cell? ⟨w.heap.size, 2, none⟩ = some (.slice A' n' c') := by rw [hbox]; simp [go_sem]
    have hr2 := hr.keep hb1
    have HB := hide (And.intro hb1 hr2)
    clear hbox hb hb1 hr2 hr1 hr
    by_cases hin : at_ < 0 ∨ (s.size : Int) ≤ at_
    · have e1 : locate s.size n n' l at_ = (0, 0, 2) := by unfold locate; rw [if_neg (fun h => h HF.out), if_pos hin]
      have e2 := hide e1
      clear e1
      rcases (by omega : at_ < 0 ∨ (0 ≤ at_ ∧ (s.size : Int) ≤ at_)) with hin | hin
      · go_wp2
        go_ret3
        exact ⟨by rw [e2.out]; rfl, HB.out.1⟩
      · go_wp2
        go_ret3
        exact ⟨by rw [e2.out]; rfl, HB.out.1⟩
    · obtain ⟨p, f, hpf⟩ := find_there (at_ := at_) (e := s.size) (by omega) l 0 0 0 (by omega) Z.2.2.2
      have e1 : locate s.size n n' l at_ = (p, f, 0) := by unfold locate; rw [if_neg (fun h => h HF.out), if_neg hin, hpf]; rfl
      have e2 := hide (And.intro e1 hpf)
      have hin' : 0 ≤ at_ ∧ at_ < s.size := by omega
      have hn5 : n' ≤ 40 := by omega
      have hs5 : s.size ≤ 200000 := by omega
      have HG := hide (ends_ge l 0 _ Z.2.2.2)
      clear e1 hpf hin Z
      go_wp2_with fail
      go_loop [4, 5] (LocRel n' l at_ p f) (fun v4 _ => 100 - (intOf v4).toNat)
      case atStart => exact ⟨0, 0, rfl, rfl, e2.out.2, by omega, by omega, by omega⟩
      case round =>
        obtain ⟨k, st, rfl, rfl, hf, hk, hst0, hst1⟩ := hrel
        obtain ⟨x, hx, hkl, hyes, hno⟩ := find_here l hf
        obtain ⟨b, o, x', rfl, hx', hmem, hc⟩ := HB.out.2.at_ (k := k) hkl
        have hx0 : 0 ≤ x' := HG.out x' hmem
        obtain rfl : x = x' := by rw [hx] at hx'; injection hx'
        have hc1 : w1.cell? ⟨b, o + k * 1, none⟩ = some (.int .i64 x) := hc 0 _ rfl
        rw [Nat.mul_one] at hc1
        have hki : (k : Int) < n' := by omega
        have HX := hide (And.intro hyes hno)
        clear hx hx' hc hyes hno hf hmem
        by_cases hlt : at_ < x
        · go_wp2
          go_ret3
          obtain ⟨h1, h2⟩ := HX.out.1 hlt
          exact ⟨by rw [e2.out.1, h1, h2]; rfl, HB.out.1⟩
        · go_wp2_with fail
          go_round
          case rel => exact ⟨k + 1, x, by go_num, rfl, HX.out.2 hlt, by omega, by omega, by omega⟩
          case measure => simp [intOf]; omega
  · have e1 : locate s.size n n' l at_ = (0, 0, fault s.size n n' l) := if_pos h0
    have HF := hide (And.intro e1 h0)
    obtain ⟨z, hz⟩ : ∃ z, z = fault s.size n n' l := ⟨_, rfl⟩
    have hz0 : (z != 0) = true := by rw [bne_iff_ne, hz]; exact h0
    have HZ := hide hz
    clear e1 h0 hz
    go_enter Try.func20, Try.ntmps20
    go_wp2_with fail
    refine (bundleFault_any s A A' n c n' c' l _ hs hn hn' hl hr1).mono ?_
    rintro e w1 ⟨rfl, hb⟩
    rw [← HZ.out]
    go_wp2
    go_ret3
    exact ⟨by rw [HF.out.1, HZ.out]; rfl, ((Below.refl _ _).alloc (Nat.le_refl _) _).trans (hb.mono (by simp))⟩

def LocOfRel (at_ p f : Int) (v7 _v8 _v9 v29 : Value) : Prop := ∃ (k : Nat) (st : Int), v29 = .int .i64 k ∧ v7 = .int .i64 st ∧ find at_ st k (l.drop k) = some (p, f) ∧ k ≤ n' ∧ 0 ≤ st ∧ st ≤ at_

set_option maxHeartbeats 400000 in
theorem locateOf_any (at_ : Int) (w : World) (hat : In64 at_) (hs : s.size ≤ 9223372036854775807) (hn : n ≤ 9223372036854775807) (hn' : n' ≤ 9223372036854775807) (hl : l.length = n') (hr : Rd w 1 icell A' l) :
    Calls Try.prog 21 #[.agg #[.string s, .slice A n c, .slice A' n' c'], .int .i64 at_] w fun e w' =>
      e = .returned (.tuple #[.int .i64 (locate s.size n n' l at_).1, .int .i64 (locate s.size n n' l at_).2.1, .int .i64 (locate s.size n n' l at_).2.2]) ∧ Below w.heap.size w w' := by
  have hr1 := hr.keep ((Below.refl w.heap.size w).alloc (Nat.le_refl _) (.cells #[.string s, .slice A n c, .slice A' n' c'] 37))
  by_cases hbig : (200000 : Int) < s.size
  · have e0 : fault s.size n n' l = 4 := if_pos hbig
    have e1 : locate s.size n n' l at_ = (0, 0, 4) := by unfold locate; rw [if_pos (by rw [e0]; decide), e0]
    have e2 := hide e1
    clear e0 e1
    go_enter Try.func21, Try.ntmps21
    go_wp2
    go_ret3
    exact ⟨by rw [e2.out]; rfl, (Below.refl _ _).alloc (Nat.le_refl _) _⟩
  · have hs5 : s.size ≤ 200000 := by omega
    have HF := hide (fault_form s.size n n' l)
    cases hform : form s.size n n' l with
    | false =>
      have e0 : fault s.size n n' l = 1 := by rw [HF.out, if_neg hbig, hform]; rfl
      have e1 : locate s.size n n' l at_ = (0, 0, 1) := by unfold locate; rw [if_pos (by rw [e0]; decide), e0]
      have e2 := hide (And.intro e1 hform)
      clear e0 e1 hform
      go_enter Try.func21, Try.ntmps21
      go_wp2_with fail
      refine (form_any s A A' n c n' c' l _ hn hn' hl hr1).mono ?_
      rintro e w1 ⟨rfl, hb⟩
      rw [e2.out.2]
      go_wp2
      go_ret3
      exact ⟨by rw [e2.out.1]; rfl, ((Below.refl _ _).alloc (Nat.le_refl _) _).trans (hb.mono (by simp))⟩
    | true =>
      have h0 : fault s.size n n' l = 0 := by rw [HF.out, if_neg hbig, hform]; rfl
      have Z := fault_zero h0
      have HF2 := hide (And.intro h0 hform)
      clear h0 hform
      go_enter Try.func21, Try.ntmps21
      go_wp2_with fail
      refine (form_any s A A' n c n' c' l _ hn hn' hl hr1).mono ?_
      rintro e w1 ⟨rfl, hb⟩
      rw [HF2.out.2]
      have hb1 : Below w.heap.size w w1 := ((Below.refl _ _).alloc (Nat.le_refl _) (.cells #[.string s, .slice A n c, .slice A' n' c'] 37)).trans (hb.mono (by simp))
      have hbox : ∀ o, w1.cell? ⟨w.heap.size, o, none⟩ = (w.alloc (.cells #[.string s, .slice A n c, .slice A' n' c'] 37)).cell? ⟨w.heap.size, o, none⟩ := fun o => hb.cell (p := ⟨w.heap.size, o, none⟩) (by simp)
      have hc0 : w1.cell? ⟨w.heap.size, 0, none⟩ = some (.string s) := by rw [hbox]; simp [go_sem]
      have hc2 : w1.cell? ⟨w.heap.size, 2, none⟩ = some (.slice A' n' c') := by rw [hbox]; simp [go_sem]
      have hr2 := hr.keep hb1
      have HB := hide (And.intro hb1 hr2)
      clear hbox hb hb1 hr2 hr1 hr
      by_cases hin : at_ < 0 ∨ (s.size : Int) ≤ at_
      · have e1 : locate s.size n n' l at_ = (0, 0, 2) := by unfold locate; rw [if_neg (fun h => h HF2.out.1), if_pos hin]
        have e2 := hide e1
        clear e1
        rcases (by omega : at_ < 0 ∨ (0 ≤ at_ ∧ (s.size : Int) ≤ at_)) with hin | hin
        · go_wp2
          go_ret3
          exact ⟨by rw [e2.out]; rfl, HB.out.1⟩
        · go_wp2
          go_ret3
          exact ⟨by rw [e2.out]; rfl, HB.out.1⟩
      · obtain ⟨p, f, hpf⟩ := find_there (at_ := at_) (e := s.size) (by omega) l 0 0 0 (by omega) Z.2.2.2
        have e1 : locate s.size n n' l at_ = (p, f, 0) := by unfold locate; rw [if_neg (fun h => h HF2.out.1), if_neg hin, hpf]; rfl
        have e2 := hide (And.intro e1 hpf)
        have hin' : 0 ≤ at_ ∧ at_ < s.size := by omega
        have hn5 : n' ≤ 40 := by omega
        have HG := hide (ends_ge l 0 _ Z.2.2.2)
        clear e1 hpf hin Z
        go_wp2_with fail
        go_loop [7, 8, 9, 29] (LocOfRel n' l at_ p f) (fun _ _ _ v29 => 100 - (intOf v29).toNat)
        case atStart => exact ⟨0, 0, rfl, rfl, e2.out.2, by omega, by omega, by omega⟩
        case round =>
          obtain ⟨k, st, rfl, rfl, hf, hk, hst0, hst1⟩ := hrel
          obtain ⟨x, hx, hkl, hyes, hno⟩ := find_here l hf
          obtain ⟨b, o, x', rfl, hx', hmem, hc⟩ := HB.out.2.at_ (k := k) hkl
          have hx0 : 0 ≤ x' := HG.out x' hmem
          obtain rfl : x = x' := by rw [hx] at hx'; injection hx'
          have hc1 : w1.cell? ⟨b, o + k * 1, none⟩ = some (.int .i64 x) := hc 0 _ rfl
          rw [Nat.mul_one] at hc1
          have hki : (k : Int) < n' := by omega
          have HX := hide (And.intro hyes hno)
          clear hx hx' hc hyes hno hf hmem
          by_cases hlt : at_ < x
          · go_wp2
            go_ret3
            obtain ⟨h1, h2⟩ := HX.out.1 hlt
            exact ⟨by rw [e2.out.1, h1, h2]; rfl, HB.out.1⟩
          · go_wp2_with fail
            go_round
            case rel => exact ⟨k + 1, x, by go_num, rfl, HX.out.2 hlt, by omega, by omega, by omega⟩
            case measure => simp [intOf]; omega
end
end Go.Proofs.Ytbfldfnmamdofaa.bundle
