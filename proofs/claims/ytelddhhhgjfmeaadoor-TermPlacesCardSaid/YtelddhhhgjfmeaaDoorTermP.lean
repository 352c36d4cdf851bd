/-
  list.TermAddress, PartAddress; the reference's AddressOfTerm, AddressOfPart.
-/
import Derived.Test.YtelddhhhgjfmeaaDoorAddr
import Derived.Lib.ItoaLen
import Derived.Lib.AppendIntMem
namespace Go.Proofs.YtelddhhhgjfmeaaDoor
open Go.RowKit
set_option linter.unusedVariables false

/-- A contract at every world that lies not below w. -/
theorem from_ml {P : Program} {f : Nat} {args : Array Value} {w : World} {Q : Ending → Prop} (hML : ML w) (h : ∀ w', ML w' → Calls P f args w' fun e w'' => Q e ∧ Below w'.heap.size w' w'') :
    ∀ w', Below w.heap.size w w' → Calls P f args w' fun e w'' => Q e ∧ Below w.heap.size w w'' :=
  fun w' hb => (h w' (hML.keep hb)).mono fun _ _ ⟨he, hb'⟩ => ⟨he, hb.trans (hb'.mono hb.size)⟩

/-- strconv.Itoa's table. -/
def P10 (w : World) : Prop := Lib.TabIs Tryd.prog w "internal/strconv.uint64pow10" .u64 Lib.pow10Tab
theorem var_keep {P : Program} {w w' : World} {n : String} {cs : Array Value} (h : w.var? P n = some cs) (hb : Below w.heap.size w w') : w'.var? P n = some cs := by
  unfold World.var? at h ⊢
  cases hg : P.globalNamed n with
  | none => simp [hg] at h
  | some g =>
    simp only [hg, Option.bind_some] at h ⊢
    have hlt : g < w.heap.size := by
      rcases Nat.lt_or_ge g w.heap.size with h' | h'
      · exact h'
      · simp [Array.getElem?_eq_none h'] at h
    rw [hb.block g hlt]
    exact h
theorem P10.keep {w w' : World} (h : P10 w) (hb : Below w.heap.size w w') : P10 w' := var_keep h hb
def decS (n : Int) : ByteArray := bstr (Lib.itoa n)
theorem decS_size (n : Int) (h0 : -9223372036854775808 ≤ n) (h1 : n ≤ 9223372036854775807) : (decS n).size ≤ 21 := by
  unfold decS
  rw [bstr_size]
  exact Lib.itoa_length_le n h0 h1
theorem itoa_any (n : Int) (h0 : -9223372036854775808 ≤ n) (h1 : n ≤ 9223372036854775807) (w : World) (h : P10 w) :
    Calls Tryd.prog 47 #[.int .i64 n] w fun e w' => e = .returned (.string (decS n)) ∧ Below w.heap.size w w' :=
  Calls.mono (Tryd.strconv_Itoa n h0 h1 w h) fun e w' ⟨he, k, os, hw⟩ => ⟨he, by subst hw; exact Lib.below_grow _ w (Nat.le_refl _) k os⟩

/-- The address of a term: its error. -/
def termF (b n : ByteArray) : Int := if addrB b = true ∧ partB n = true ∧ addrB (b ++ n ++ ⟨#[47]⟩) = true then 0 else 3
def termS (b n : ByteArray) : ByteArray := if termF b n = 0 then b ++ n ++ ⟨#[47]⟩ else ⟨#[]⟩

set_option maxHeartbeats 2000000 in
set_option maxRecDepth 100000 in
theorem termAddress_any (b n : ByteArray) (w : World) (hb : b.size ≤ 140737488355328) (hn : n.size ≤ 140737488355328) (hML : ML w) :
    Calls Tryd.prog 15 #[.string b, .string n] w fun e w' => e = .returned (.tuple #[.string (termS b n), .int .i64 (termF b n)]) ∧ Below w.heap.size w w' := by
  have h1 : (⟨#[47]⟩ : ByteArray).size = 1 := rfl
  have HA := hide (from_ml hML fun w' => checkAddress_any b w' (by omega))
  have HP := hide (from_ml hML fun w' => listIsPart_any n w' (by omega))
  have HS := hide (from_ml hML fun w' => checkAddress_any (b ++ n ++ ⟨#[47]⟩) w' (by rw [ByteArray.size_append, ByteArray.size_append]; omega))
  have A1 : ∀ w, (Op.stringOp .add b n).run Tryd.prog w = .ok (.string (b ++ n)) w := fun w => run_string_add_sum w _ _ (by omega)
  have A2 : ∀ w, (Op.stringOp .add (b ++ n) ⟨#[47]⟩).run Tryd.prog w = .ok (.string (b ++ n ++ ⟨#[47]⟩)) w := fun w => run_string_add_sum w _ _ (by rw [ByteArray.size_append]; omega)
  obtain ⟨z, hz⟩ : ∃ z, z = termF b n := ⟨_, rfl⟩
  obtain ⟨y, hy⟩ : ∃ y, y = termS b n := ⟨_, rfl⟩
  rw [← hz, ← hy]
  unfold termS at hy
  rw [← hz] at hy
  unfold termF at hz
  obtain ⟨p, hp⟩ : ∃ p, p = addrB b := ⟨_, rfl⟩
  obtain ⟨q, hq⟩ : ∃ q, q = partB n := ⟨_, rfl⟩
  obtain ⟨r, hr⟩ : ∃ r, r = addrB (b ++ n ++ ⟨#[47]⟩) := ⟨_, rfl⟩
  rw [← hp] at HA hz
  rw [← hq] at HP hz
  rw [← hr] at HS hz
  obtain ⟨x1, hx1⟩ : ∃ x1, x1 = b ++ n := ⟨_, rfl⟩
  rw [← hx1] at HS hy hr
  simp only [← hx1] at A1 A2
  obtain ⟨x2, hx2⟩ : ∃ x2, x2 = x1 ++ ⟨#[47]⟩ := ⟨_, rfl⟩
  rw [← hx2] at HS hy
  simp only [← hx2] at A2
  clear hx1 hx2
  have HZ := hide hz
  have HY := hide hy
  clear hp hq hr hy hz hML
  have ways : (p = false ∧ z = 3) ∨ (p = true ∧ q = false ∧ z = 3) ∨ (p = true ∧ q = true ∧ r = false ∧ z = 3) ∨ (p = true ∧ q = true ∧ r = true ∧ z = 0) := by
    have h := HZ.out
    cases p <;> cases q <;> cases r <;> simp at h <;> simp [h]
  clear HZ
  rcases ways with ⟨rfl, rfl⟩ | ⟨rfl, rfl, rfl⟩ | ⟨rfl, rfl, rfl, rfl⟩ | ⟨rfl, rfl, rfl, rfl⟩
  all_goals
    go_enter Tryd.func15, Tryd.ntmps15
    go_wp2_with (first
      | (go_at_call 42; ((with_reducible refine ((HA).out _ (by first | assumption | exact Below.refl _ _)).mono ?_); rintro e w1 ⟨rfl, hw1⟩))
      | (go_at_call 42; ((with_reducible refine ((HS).out _ (by first | assumption | exact Below.refl _ _)).mono ?_); rintro e w3 ⟨rfl, hw3⟩))
      | (go_at_call 43; refine (HP.out _ (by first | assumption | exact Below.refl _ _)).mono ?_; rintro e w2 ⟨rfl, hw2⟩))
    go_ret2
    exact ⟨by rw [HY.out] <;> rfl, by assumption⟩

set_option maxHeartbeats 2000000 in
set_option maxRecDepth 100000 in
theorem addressOfTerm_any (b n : ByteArray) (w : World) (hb : b.size ≤ 140737488355328) (hn : n.size ≤ 140737488355328) (hML : ML w) :
    Calls Tryd.prog 16 #[.string b, .string n] w fun e w' => e = .returned (.tuple #[.string (termS b n), .int .i64 (termF b n)]) ∧ Below w.heap.size w w' := by
  have h1 : (⟨#[47]⟩ : ByteArray).size = 1 := rfl
  have HA := hide (from_ml hML fun w' => refIsAddress_any b w' (by omega))
  have HP := hide (from_ml hML fun w' _ => refIsPart_any n w' (by omega))
  have HS := hide (from_ml hML fun w' => refIsAddress_any (b ++ n ++ ⟨#[47]⟩) w' (by rw [ByteArray.size_append, ByteArray.size_append]; omega))
  have A1 : ∀ w, (Op.stringOp .add b n).run Tryd.prog w = .ok (.string (b ++ n)) w := fun w => run_string_add_sum w _ _ (by omega)
  have A2 : ∀ w, (Op.stringOp .add (b ++ n) ⟨#[47]⟩).run Tryd.prog w = .ok (.string (b ++ n ++ ⟨#[47]⟩)) w := fun w => run_string_add_sum w _ _ (by rw [ByteArray.size_append]; omega)
  obtain ⟨z, hz⟩ : ∃ z, z = termF b n := ⟨_, rfl⟩
  obtain ⟨y, hy⟩ : ∃ y, y = termS b n := ⟨_, rfl⟩
  rw [← hz, ← hy]
  unfold termS at hy
  rw [← hz] at hy
  unfold termF at hz
  obtain ⟨p, hp⟩ : ∃ p, p = addrB b := ⟨_, rfl⟩
  obtain ⟨q, hq⟩ : ∃ q, q = partB n := ⟨_, rfl⟩
  obtain ⟨r, hr⟩ : ∃ r, r = addrB (b ++ n ++ ⟨#[47]⟩) := ⟨_, rfl⟩
  rw [← hp] at HA hz
  rw [← hq] at HP hz
  rw [← hr] at HS hz
  obtain ⟨x1, hx1⟩ : ∃ x1, x1 = b ++ n := ⟨_, rfl⟩
  rw [← hx1] at HS hy hr
  simp only [← hx1] at A1 A2
  obtain ⟨x2, hx2⟩ : ∃ x2, x2 = x1 ++ ⟨#[47]⟩ := ⟨_, rfl⟩
  rw [← hx2] at HS hy
  simp only [← hx2] at A2
  clear hx1 hx2
  have HZ := hide hz
  have HY := hide hy
  clear hp hq hr hy hz hML
  have ways : (p = false ∧ z = 3) ∨ (p = true ∧ q = false ∧ z = 3) ∨ (p = true ∧ q = true ∧ r = false ∧ z = 3) ∨ (p = true ∧ q = true ∧ r = true ∧ z = 0) := by
    have h := HZ.out
    cases p <;> cases q <;> cases r <;> simp at h <;> simp [h]
  clear HZ
  rcases ways with ⟨rfl, rfl⟩ | ⟨rfl, rfl, rfl⟩ | ⟨rfl, rfl, rfl, rfl⟩ | ⟨rfl, rfl, rfl, rfl⟩
  all_goals
    go_enter Tryd.func16, Tryd.ntmps16
    go_wp2_with (first
      | (go_at_call 44; ((with_reducible refine ((HA).out _ (by first | assumption | exact Below.refl _ _)).mono ?_); rintro e w1 ⟨rfl, hw1⟩))
      | (go_at_call 44; ((with_reducible refine ((HS).out _ (by first | assumption | exact Below.refl _ _)).mono ?_); rintro e w3 ⟨rfl, hw3⟩))
      | (go_at_call 45; refine (HP.out _ (by first | assumption | exact Below.refl _ _)).mono ?_; rintro e w2 ⟨rfl, hw2⟩))
    go_ret2
    exact ⟨by rw [HY.out] <;> rfl, by assumption⟩

theorem number_any (n : Int) (h0 : -9223372036854775808 ≤ n) (h1 : n ≤ 9223372036854775807) (w : World) (h : P10 w) :
    Calls Tryd.prog 46 #[.int .i64 n] w fun e w' => e = .returned (.string (decS n)) ∧ Below w.heap.size w w' := by
  have HI := hide (itoa_any n h0 h1 w h)
  obtain ⟨y, hy⟩ : ∃ y, y = decS n := ⟨_, rfl⟩
  rw [← hy] at HI ⊢
  clear hy h
  go_enter Tryd.func46, Tryd.ntmps46
  go_wp2_with (go_at_call 47; refine HI.out.mono ?_; rintro e w1 ⟨rfl, hb⟩)
  go_ret
  exact ⟨rfl, hb⟩
theorem from_p10 {P : Program} {f : Nat} {args : Array Value} {w : World} {Q : Ending → Prop} (hM : P10 w) (h : ∀ w', P10 w' → Calls P f args w' fun e w'' => Q e ∧ Below w'.heap.size w' w'') :
    ∀ w', Below w.heap.size w w' → Calls P f args w' fun e w'' => Q e ∧ Below w.heap.size w w'' :=
  fun w' hb => (h w' (hM.keep hb)).mono fun _ _ ⟨he, hb'⟩ => ⟨he, hb.trans (hb'.mono hb.size)⟩

def pageS (b : ByteArray) (n : Int) : ByteArray := b ++ ⟨#[112, 97, 103, 101, 47]⟩ ++ decS n ++ ⟨#[47]⟩
theorem pageS_eq (b : ByteArray) (n : Int) : pageS b n = b ++ (⟨#[112, 97, 103, 101, 47]⟩ ++ decS n ++ ⟨#[47]⟩) := by
  unfold pageS
  simp only [ByteArray.append_assoc]
/-- The address of a part: its error. -/
def partF (b : ByteArray) (n : Int) : Int := if addrB b = true then (if n < 1 ∨ 2000 < n then 2 else if n = 1 then 0 else if addrB (pageS b n) = true then 0 else 3) else 3
def partS (b : ByteArray) (n : Int) : ByteArray := if partF b n = 0 then (if n = 1 then b else pageS b n) else ⟨#[]⟩

set_option maxHeartbeats 2000000 in
set_option maxRecDepth 100000 in
theorem partAddress_any (b : ByteArray) (n : Int) (w : World) (hb : b.size ≤ 140737488355328) (hn0 : -9223372036854775808 ≤ n) (hn1 : n ≤ 9223372036854775807) (hML : ML w) (hP : P10 w) :
    Calls Tryd.prog 17 #[.string b, .int .i64 n] w fun e w' => e = .returned (.tuple #[.string (partS b n), .int .i64 (partF b n)]) ∧ Below w.heap.size w w' := by
  have h1 : (⟨#[47]⟩ : ByteArray).size = 1 := rfl
  have h5 : (⟨#[112, 97, 103, 101, 47]⟩ : ByteArray).size = 5 := rfl
  have hds := decS_size n hn0 hn1
  have HA := hide (from_ml hML fun w' => checkAddress_any b w' (by omega))
  have HS := hide (from_ml hML fun w' => checkAddress_any (pageS b n) w' (by unfold pageS; rw [ByteArray.size_append, ByteArray.size_append, ByteArray.size_append]; omega))
  have HN := hide (from_p10 hP fun w' => number_any n hn0 hn1 w')
  have A1 : ∀ w, (Op.stringOp .add b ⟨#[112, 97, 103, 101, 47]⟩).run Tryd.prog w = .ok (.string (b ++ ⟨#[112, 97, 103, 101, 47]⟩)) w := fun w => run_string_add_sum w _ _ (by omega)
  have A2 : ∀ w, (Op.stringOp .add (b ++ ⟨#[112, 97, 103, 101, 47]⟩) (decS n)).run Tryd.prog w = .ok (.string (b ++ ⟨#[112, 97, 103, 101, 47]⟩ ++ decS n)) w := fun w => run_string_add_sum w _ _ (by rw [ByteArray.size_append]; omega)
  have A3 : ∀ w, (Op.stringOp .add (b ++ ⟨#[112, 97, 103, 101, 47]⟩ ++ decS n) ⟨#[47]⟩).run Tryd.prog w = .ok (.string (pageS b n)) w := fun w => run_string_add_sum w _ _ (by rw [ByteArray.size_append, ByteArray.size_append]; omega)
  obtain ⟨x1, hx1⟩ : ∃ x1, x1 = b ++ ⟨#[112, 97, 103, 101, 47]⟩ := ⟨_, rfl⟩
  simp only [← hx1] at A1 A2 A3
  obtain ⟨x2, hx2⟩ : ∃ x2, x2 = x1 ++ decS n := ⟨_, rfl⟩
  simp only [← hx2] at A2 A3
  obtain ⟨z, hz⟩ : ∃ z, z = partF b n := ⟨_, rfl⟩
  obtain ⟨y, hy⟩ : ∃ y, y = partS b n := ⟨_, rfl⟩
  rw [← hz, ← hy]
  unfold partS at hy
  rw [← hz] at hy
  unfold partF at hz
  obtain ⟨p, hp⟩ : ∃ p, p = addrB b := ⟨_, rfl⟩
  obtain ⟨r, hr⟩ : ∃ r, r = addrB (pageS b n) := ⟨_, rfl⟩
  rw [← hp] at HA hz
  rw [← hr] at HS hz
  obtain ⟨x3, hx3⟩ : ∃ x3, x3 = pageS b n := ⟨_, rfl⟩
  rw [← hx3] at HS hy
  simp only [← hx3] at A3
  obtain ⟨d, hd⟩ : ∃ d, d = decS n := ⟨_, rfl⟩
  rw [← hd] at HN
  simp only [← hd] at A1 A2
  have HZ := hide hz
  have HY := hide hy
  clear hp hr hy hz hML hP hx1 hx2 hx3 hd hds
  cases p
  · obtain rfl : z = 3 := by have h := HZ.out; simpa using h
    clear HZ
    by_cases hn : n = 1
    · subst hn
      go_enter Tryd.func17, Tryd.ntmps17
      go_wp2_with (first
        | (go_at_call 42; ((with_reducible refine ((HA).out _ (by first | assumption | exact Below.refl _ _)).mono ?_); rintro e w1 ⟨rfl, hw1⟩))
        | (go_at_call 42; ((with_reducible refine ((HS).out _ (by first | assumption | exact Below.refl _ _)).mono ?_); rintro e w3 ⟨rfl, hw3⟩))
        | (go_at_call 46; ((with_reducible refine (HN.out _ (by first | assumption | exact Below.refl _ _)).mono ?_); rintro e w2 ⟨rfl, hw2⟩)))
      go_ret2
      exact ⟨by rw [HY.out] <;> first | rfl | simp, by assumption⟩
    · have hn' : (n == 1) = false := by simpa using hn
      have hn2 : (n != 1) = true := by simpa using hn
      go_enter Tryd.func17, Tryd.ntmps17
      go_wp2_with (first
        | (go_at_call 42; ((with_reducible refine ((HA).out _ (by first | assumption | exact Below.refl _ _)).mono ?_); rintro e w1 ⟨rfl, hw1⟩))
        | (go_at_call 42; ((with_reducible refine ((HS).out _ (by first | assumption | exact Below.refl _ _)).mono ?_); rintro e w3 ⟨rfl, hw3⟩))
        | (go_at_call 46; ((with_reducible refine (HN.out _ (by first | assumption | exact Below.refl _ _)).mono ?_); rintro e w2 ⟨rfl, hw2⟩)))
      go_ret2
      exact ⟨by rw [HY.out] <;> first | rfl | simp, by assumption⟩
  · by_cases hn : n = 1
    · subst hn
      obtain rfl : z = 0 := by have h := HZ.out; simpa using h
      clear HZ
      go_enter Tryd.func17, Tryd.ntmps17
      go_wp2_with (first
        | (go_at_call 42; ((with_reducible refine ((HA).out _ (by first | assumption | exact Below.refl _ _)).mono ?_); rintro e w1 ⟨rfl, hw1⟩))
        | (go_at_call 42; ((with_reducible refine ((HS).out _ (by first | assumption | exact Below.refl _ _)).mono ?_); rintro e w3 ⟨rfl, hw3⟩))
        | (go_at_call 46; ((with_reducible refine (HN.out _ (by first | assumption | exact Below.refl _ _)).mono ?_); rintro e w2 ⟨rfl, hw2⟩)))
      go_ret2
      exact ⟨by rw [HY.out] <;> first | rfl | simp, by assumption⟩
    · have hn' : (n == 1) = false := by simpa using hn
      have hn2 : (n != 1) = true := by simpa using hn
      rcases (by omega : n < 1 ∨ (1 ≤ n ∧ 2000 < n) ∨ (1 < n ∧ n ≤ 2000)) with hr1 | ⟨hr0, hr1⟩ | ⟨hr0, hr1⟩
      · obtain rfl : z = 2 := by have h := HZ.out; simpa [hr1] using h
        clear HZ
        go_enter Tryd.func17, Tryd.ntmps17
        go_wp2_with (first
          | (go_at_call 42; ((with_reducible refine ((HA).out _ (by first | assumption | exact Below.refl _ _)).mono ?_); rintro e w1 ⟨rfl, hw1⟩))
          | (go_at_call 42; ((with_reducible refine ((HS).out _ (by first | assumption | exact Below.refl _ _)).mono ?_); rintro e w3 ⟨rfl, hw3⟩))
          | (go_at_call 46; ((with_reducible refine (HN.out _ (by first | assumption | exact Below.refl _ _)).mono ?_); rintro e w2 ⟨rfl, hw2⟩)))
        go_ret2
        exact ⟨by rw [HY.out] <;> first | rfl | simp, by assumption⟩
      · obtain rfl : z = 2 := by have h := HZ.out; simpa [hr1] using h
        have hr2 : ¬ n < 1 := by omega
        clear HZ
        go_enter Tryd.func17, Tryd.ntmps17
        go_wp2_with (first
          | (go_at_call 42; ((with_reducible refine ((HA).out _ (by first | assumption | exact Below.refl _ _)).mono ?_); rintro e w1 ⟨rfl, hw1⟩))
          | (go_at_call 42; ((with_reducible refine ((HS).out _ (by first | assumption | exact Below.refl _ _)).mono ?_); rintro e w3 ⟨rfl, hw3⟩))
          | (go_at_call 46; ((with_reducible refine (HN.out _ (by first | assumption | exact Below.refl _ _)).mono ?_); rintro e w2 ⟨rfl, hw2⟩)))
        go_ret2
        exact ⟨by rw [HY.out] <;> first | rfl | simp, by assumption⟩
      · have hr2 : ¬ n < 1 := by omega
        have hr3 : ¬ 2000 < n := by omega
        have hz : z = if r = true then 0 else 3 := by have h := HZ.out; simpa [hr2, hr3, hn] using h
        clear HZ
        cases r
        · obtain rfl : z = 3 := by simpa using hz
          clear hz
          go_enter Tryd.func17, Tryd.ntmps17
          go_wp2_with (first
            | (go_at_call 42; ((with_reducible refine ((HA).out _ (by first | assumption | exact Below.refl _ _)).mono ?_); rintro e w1 ⟨rfl, hw1⟩))
            | (go_at_call 42; ((with_reducible refine ((HS).out _ (by first | assumption | exact Below.refl _ _)).mono ?_); rintro e w3 ⟨rfl, hw3⟩))
            | (go_at_call 46; ((with_reducible refine (HN.out _ (by first | assumption | exact Below.refl _ _)).mono ?_); rintro e w2 ⟨rfl, hw2⟩)))
          go_ret2
          exact ⟨by rw [HY.out] <;> first | rfl | simp, by assumption⟩
        · obtain rfl : z = 0 := by simpa using hz
          clear hz
          have HY2 := hide (HY.out.trans (by rw [if_pos rfl, if_neg hn]))
          clear HY
          have HY := HY2
          clear HY2
          go_enter Tryd.func17, Tryd.ntmps17
          go_wp2_with (first
            | (go_at_call 42; ((with_reducible refine ((HA).out _ (by first | assumption | exact Below.refl _ _)).mono ?_); rintro e w1 ⟨rfl, hw1⟩))
            | (go_at_call 42; ((with_reducible refine ((HS).out _ (by first | assumption | exact Below.refl _ _)).mono ?_); rintro e w3 ⟨rfl, hw3⟩))
            | (go_at_call 46; ((with_reducible refine (HN.out _ (by first | assumption | exact Below.refl _ _)).mono ?_); rintro e w2 ⟨rfl, hw2⟩)))
          go_ret2
          exact ⟨by rw [HY.out] <;> first | rfl | simp, by assumption⟩

set_option maxHeartbeats 2000000 in
set_option maxRecDepth 100000 in
theorem addressOfPart_any (b : ByteArray) (n : Int) (w : World) (hb : b.size ≤ 140737488355328) (hn0 : -9223372036854775808 ≤ n) (hn1 : n ≤ 9223372036854775807) (hML : ML w) (hP : P10 w) :
    Calls Tryd.prog 18 #[.string b, .int .i64 n] w fun e w' => e = .returned (.tuple #[.string (partS b n), .int .i64 (partF b n)]) ∧ Below w.heap.size w w' := by
  have h1 : (⟨#[47]⟩ : ByteArray).size = 1 := rfl
  have h5 : (⟨#[112, 97, 103, 101, 47]⟩ : ByteArray).size = 5 := rfl
  have hds := decS_size n hn0 hn1
  have HA := hide (from_ml hML fun w' => refIsAddress_any b w' (by omega))
  have HS := hide (from_ml hML fun w' => refIsAddress_any (pageS b n) w' (by unfold pageS; rw [ByteArray.size_append, ByteArray.size_append, ByteArray.size_append]; omega))
  have HN := hide (from_p10 hP fun w' => itoa_any n hn0 hn1 w')
  have A1 : ∀ w, (Op.stringOp .add ⟨#[112, 97, 103, 101, 47]⟩ (decS n)).run Tryd.prog w = .ok (.string (⟨#[112, 97, 103, 101, 47]⟩ ++ decS n)) w := fun w => run_string_add_sum w _ _ (by omega)
  have A2 : ∀ w, (Op.stringOp .add (⟨#[112, 97, 103, 101, 47]⟩ ++ decS n) ⟨#[47]⟩).run Tryd.prog w = .ok (.string (⟨#[112, 97, 103, 101, 47]⟩ ++ decS n ++ ⟨#[47]⟩)) w := fun w => run_string_add_sum w _ _ (by rw [ByteArray.size_append]; omega)
  have A3 : ∀ w, (Op.stringOp .add b (⟨#[112, 97, 103, 101, 47]⟩ ++ decS n ++ ⟨#[47]⟩)).run Tryd.prog w = .ok (.string (pageS b n)) w := fun w => by rw [pageS_eq]; exact run_string_add_sum w _ _ (by rw [ByteArray.size_append, ByteArray.size_append]; omega)
  obtain ⟨x1, hx1⟩ : ∃ x1, x1 = (⟨#[112, 97, 103, 101, 47]⟩ : ByteArray) ++ decS n := ⟨_, rfl⟩
  simp only [← hx1] at A1 A2 A3
  obtain ⟨x2, hx2⟩ : ∃ x2, x2 = x1 ++ ⟨#[47]⟩ := ⟨_, rfl⟩
  simp only [← hx2] at A2 A3
  obtain ⟨z, hz⟩ : ∃ z, z = partF b n := ⟨_, rfl⟩
  obtain ⟨y, hy⟩ : ∃ y, y = partS b n := ⟨_, rfl⟩
  rw [← hz, ← hy]
  unfold partS at hy
  rw [← hz] at hy
  unfold partF at hz
  obtain ⟨p, hp⟩ : ∃ p, p = addrB b := ⟨_, rfl⟩
  obtain ⟨r, hr⟩ : ∃ r, r = addrB (pageS b n) := ⟨_, rfl⟩
  rw [← hp] at HA hz
  rw [← hr] at HS hz
  obtain ⟨x3, hx3⟩ : ∃ x3, x3 = pageS b n := ⟨_, rfl⟩
  rw [← hx3] at HS hy
  simp only [← hx3] at A3
  obtain ⟨d, hd⟩ : ∃ d, d = decS n := ⟨_, rfl⟩
  rw [← hd] at HN
  simp only [← hd] at A1 A2
  have HZ := hide hz
  have HY := hide hy
  clear hp hr hy hz hML hP hx1 hx2 hx3 hd hds
  cases p
  · obtain rfl : z = 3 := by have h := HZ.out; simpa using h
    clear HZ
    by_cases hn : n = 1
    · subst hn
      go_enter Tryd.func18, Tryd.ntmps18
      go_wp2_with (first
        | (go_at_call 44; ((with_reducible refine ((HA).out _ (by first | assumption | exact Below.refl _ _)).mono ?_); rintro e w1 ⟨rfl, hw1⟩))
        | (go_at_call 44; ((with_reducible refine ((HS).out _ (by first | assumption | exact Below.refl _ _)).mono ?_); rintro e w3 ⟨rfl, hw3⟩))
        | (go_at_call 47; ((with_reducible refine (HN.out _ (by first | assumption | exact Below.refl _ _)).mono ?_); rintro e w2 ⟨rfl, hw2⟩)))
      go_ret2
      exact ⟨by rw [HY.out] <;> first | rfl | simp, by assumption⟩
    · have hn' : (n == 1) = false := by simpa using hn
      have hn2 : (n != 1) = true := by simpa using hn
      go_enter Tryd.func18, Tryd.ntmps18
      go_wp2_with (first
        | (go_at_call 44; ((with_reducible refine ((HA).out _ (by first | assumption | exact Below.refl _ _)).mono ?_); rintro e w1 ⟨rfl, hw1⟩))
        | (go_at_call 44; ((with_reducible refine ((HS).out _ (by first | assumption | exact Below.refl _ _)).mono ?_); rintro e w3 ⟨rfl, hw3⟩))
        | (go_at_call 47; ((with_reducible refine (HN.out _ (by first | assumption | exact Below.refl _ _)).mono ?_); rintro e w2 ⟨rfl, hw2⟩)))
      go_ret2
      exact ⟨by rw [HY.out] <;> first | rfl | simp, by assumption⟩
  · by_cases hn : n = 1
    · subst hn
      obtain rfl : z = 0 := by have h := HZ.out; simpa using h
      clear HZ
      go_enter Tryd.func18, Tryd.ntmps18
      go_wp2_with (first
        | (go_at_call 44; ((with_reducible refine ((HA).out _ (by first | assumption | exact Below.refl _ _)).mono ?_); rintro e w1 ⟨rfl, hw1⟩))
        | (go_at_call 44; ((with_reducible refine ((HS).out _ (by first | assumption | exact Below.refl _ _)).mono ?_); rintro e w3 ⟨rfl, hw3⟩))
        | (go_at_call 47; ((with_reducible refine (HN.out _ (by first | assumption | exact Below.refl _ _)).mono ?_); rintro e w2 ⟨rfl, hw2⟩)))
      go_ret2
      exact ⟨by rw [HY.out] <;> first | rfl | simp, by assumption⟩
    · have hn' : (n == 1) = false := by simpa using hn
      have hn2 : (n != 1) = true := by simpa using hn
      rcases (by omega : n < 1 ∨ (1 ≤ n ∧ 2000 < n) ∨ (1 < n ∧ n ≤ 2000)) with hr1 | ⟨hr0, hr1⟩ | ⟨hr0, hr1⟩
      · obtain rfl : z = 2 := by have h := HZ.out; simpa [hr1] using h
        clear HZ
        go_enter Tryd.func18, Tryd.ntmps18
        go_wp2_with (first
          | (go_at_call 44; ((with_reducible refine ((HA).out _ (by first | assumption | exact Below.refl _ _)).mono ?_); rintro e w1 ⟨rfl, hw1⟩))
          | (go_at_call 44; ((with_reducible refine ((HS).out _ (by first | assumption | exact Below.refl _ _)).mono ?_); rintro e w3 ⟨rfl, hw3⟩))
          | (go_at_call 47; ((with_reducible refine (HN.out _ (by first | assumption | exact Below.refl _ _)).mono ?_); rintro e w2 ⟨rfl, hw2⟩)))
        go_ret2
        exact ⟨by rw [HY.out] <;> first | rfl | simp, by assumption⟩
      · obtain rfl : z = 2 := by have h := HZ.out; simpa [hr1] using h
        have hr2 : ¬ n < 1 := by omega
        clear HZ
        go_enter Tryd.func18, Tryd.ntmps18
        go_wp2_with (first
          | (go_at_call 44; ((with_reducible refine ((HA).out _ (by first | assumption | exact Below.refl _ _)).mono ?_); rintro e w1 ⟨rfl, hw1⟩))
          | (go_at_call 44; ((with_reducible refine ((HS).out _ (by first | assumption | exact Below.refl _ _)).mono ?_); rintro e w3 ⟨rfl, hw3⟩))
          | (go_at_call 47; ((with_reducible refine (HN.out _ (by first | assumption | exact Below.refl _ _)).mono ?_); rintro e w2 ⟨rfl, hw2⟩)))
        go_ret2
        exact ⟨by rw [HY.out] <;> first | rfl | simp, by assumption⟩
      · have hr2 : ¬ n < 1 := by omega
        have hr3 : ¬ 2000 < n := by omega
        have hz : z = if r = true then 0 else 3 := by have h := HZ.out; simpa [hr2, hr3, hn] using h
        clear HZ
        cases r
        · obtain rfl : z = 3 := by simpa using hz
          clear hz
          go_enter Tryd.func18, Tryd.ntmps18
          go_wp2_with (first
            | (go_at_call 44; ((with_reducible refine ((HA).out _ (by first | assumption | exact Below.refl _ _)).mono ?_); rintro e w1 ⟨rfl, hw1⟩))
            | (go_at_call 44; ((with_reducible refine ((HS).out _ (by first | assumption | exact Below.refl _ _)).mono ?_); rintro e w3 ⟨rfl, hw3⟩))
            | (go_at_call 47; ((with_reducible refine (HN.out _ (by first | assumption | exact Below.refl _ _)).mono ?_); rintro e w2 ⟨rfl, hw2⟩)))
          go_ret2
          exact ⟨by rw [HY.out] <;> first | rfl | simp, by assumption⟩
        · obtain rfl : z = 0 := by simpa using hz
          clear hz
          have HY2 := hide (HY.out.trans (by rw [if_pos rfl, if_neg hn]))
          clear HY
          have HY := HY2
          clear HY2
          go_enter Tryd.func18, Tryd.ntmps18
          go_wp2_with (first
            | (go_at_call 44; ((with_reducible refine ((HA).out _ (by first | assumption | exact Below.refl _ _)).mono ?_); rintro e w1 ⟨rfl, hw1⟩))
            | (go_at_call 44; ((with_reducible refine ((HS).out _ (by first | assumption | exact Below.refl _ _)).mono ?_); rintro e w3 ⟨rfl, hw3⟩))
            | (go_at_call 47; ((with_reducible refine (HN.out _ (by first | assumption | exact Below.refl _ _)).mono ?_); rintro e w2 ⟨rfl, hw2⟩)))
          go_ret2
          exact ⟨by rw [HY.out] <;> first | rfl | simp, by assumption⟩
end Go.Proofs.YtelddhhhgjfmeaaDoor
