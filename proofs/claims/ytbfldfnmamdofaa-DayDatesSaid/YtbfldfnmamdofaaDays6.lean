/-
  Days as texts, on either side.
-/
import Derived.Test.YtbfldfnmamdofaaDays5
import Derived.Laws.BytesArg
import Derived.LoopN
namespace Go.Proofs.Ytbfldfnmamdofaa.days
open Go.RowKit Go.Proofs.Ytbfldfnmamdofaa.cal
set_option linter.unusedVariables false

theorem conv4 (w : World) (x0 x1 x2 x3 : Int) : (convert 99 9 (.slice (some ⟨w.heap.size, 0, none⟩) 4 4)).run Try.prog (w.alloc (.cells #[.int .u8 x0, .int .u8 x1, .int .u8 x2, .int .u8 x3] 5)) =
    .ok (.string (strOfNums [x0, x1, x2, x3])) (w.alloc (.cells #[.int .u8 x0, .int .u8 x1, .int .u8 x2, .int .u8 x3] 5)) := by
  refine run_convert_bytes_arg _ 99 5 Try.underlying99 Try.underlying5 w.heap.size 0 4 4 [x0, x1, x2, x3] rfl (fun i hi => ?_) 9 Try.underlying9
  rcases (by omega : i = 0 ∨ i = 1 ∨ i = 2 ∨ i = 3) with h | h | h | h <;> subst h <;> simp [go_sem]
theorem conv2 (w : World) (x0 x1 : Int) : (convert 99 9 (.slice (some ⟨w.heap.size, 0, none⟩) 2 2)).run Try.prog (w.alloc (.cells #[.int .u8 x0, .int .u8 x1] 5)) =
    .ok (.string (strOfNums [x0, x1])) (w.alloc (.cells #[.int .u8 x0, .int .u8 x1] 5)) := by
  refine run_convert_bytes_arg _ 99 5 Try.underlying99 Try.underlying5 w.heap.size 0 2 2 [x0, x1] rfl (fun i hi => ?_) 9 Try.underlying9
  rcases (by omega : i = 0 ∨ i = 1) with h | h <;> subst h <;> simp [go_sem]
theorem conv1 (w : World) (x0 : Int) : (convert 99 9 (.slice (some ⟨w.heap.size, 0, none⟩) 1 1)).run Try.prog (w.alloc (.cells #[.int .u8 x0] 5)) =
    .ok (.string (strOfNums [x0])) (w.alloc (.cells #[.int .u8 x0] 5)) := by
  refine run_convert_bytes_arg _ 99 5 Try.underlying99 Try.underlying5 w.heap.size 0 1 1 [x0] rfl (fun i hi => ?_) 9 Try.underlying9
  obtain rfl : i = 0 := by omega
  simp [go_sem]

theorem make4 (w : World) : (Instr.makeSlice 99 (.int .i64 4) (.int .i64 4)).run Try.prog w = .ok (.slice (some ⟨w.heap.size, 0, none⟩) 4 4) (w.alloc (.cells #[.int .u8 0, .int .u8 0, .int .u8 0, .int .u8 0] 5)) := by kernel_rfl
theorem make2 (w : World) : (Instr.makeSlice 99 (.int .i64 2) (.int .i64 2)).run Try.prog w = .ok (.slice (some ⟨w.heap.size, 0, none⟩) 2 2) (w.alloc (.cells #[.int .u8 0, .int .u8 0] 5)) := by kernel_rfl

/-- The last four, the last two digits of a number, as letters. -/
def dig4 (n : Int) : List Int := [48 + n / 1000 % 10, 48 + n / 100 % 10, 48 + n / 10 % 10, 48 + n % 10]
def dig2 (n : Int) : List Int := [48 + n / 10 % 10, 48 + n % 10]

theorem ret_nums {l l' : List Int} (h : l = l') : Ending.returned (.string (strOfNums l)) = .returned (.string (strOfNums l')) := by rw [h]

set_option maxHeartbeats 1000000 in
set_option maxRecDepth 100000 in
theorem digits4_any (n : Int) (w : World) (h0 : 0 ≤ n) (h1 : n ≤ 9999) :
    Calls Try.prog 111 #[.int .i64 n, .int .i64 4] w fun e w' => e = .returned (.string (strOfNums (dig4 n))) ∧ Below w.heap.size w w' := by
  have hmk := make4
  have hcv := conv4
  go_enter Try.func111, Try.ntmps111
  go_wp2_with fail
  go_rounds 5
  go_ret
  refine ⟨ret_nums ?_, (Below.refl _ _).alloc (Nat.le_refl _) _⟩
  simp only [dig4, List.cons.injEq, and_true]
  omega

set_option maxHeartbeats 1000000 in
set_option maxRecDepth 100000 in
theorem digits2_any (n : Int) (w : World) (h0 : 0 ≤ n) (h1 : n ≤ 99) :
    Calls Try.prog 111 #[.int .i64 n, .int .i64 2] w fun e w' => e = .returned (.string (strOfNums (dig2 n))) ∧ Below w.heap.size w w' := by
  have hmk := make2
  have hcv := conv2
  go_enter Try.func111, Try.ntmps111
  go_wp2_with fail
  go_rounds 3
  go_ret
  refine ⟨ret_nums ?_, (Below.refl _ _).alloc (Nat.le_refl _) _⟩
  rfl

theorem nums_append (l l' : List Int) : strOfNums l ++ strOfNums l' = strOfNums (l ++ l') := by
  apply ByteArray.ext
  simp [strOfNums, ByteArray.data_append]
theorem nums_size (l : List Int) : (strOfNums l).size = l.length := by
  simp [strOfNums, ByteArray.size]
theorem add_nums (l l' : List Int) (w : World) (h : l.length + l'.length ≤ 1000) : (Op.stringOp .add (strOfNums l) (strOfNums l')).run Try.prog w = .ok (.string (strOfNums (l ++ l'))) w := by
  rw [← nums_append]
  exact run_string_add_sum w _ _ (by rw [nums_size, nums_size]; omega)
theorem add_empty (l : List Int) (w : World) (h : l.length ≤ 1000) : (Op.stringOp .add (strOfNums l) ⟨#[]⟩).run Try.prog w = .ok (.string (strOfNums l)) w := by
  have := add_nums l [] w (by simpa using h)
  rw [List.append_nil] at this
  exact this

set_option maxHeartbeats 1000000 in
set_option maxRecDepth 100000 in
theorem digitsOf4_any (n : Int) (w : World) (h0 : 1000 ≤ n) (h1 : n ≤ 9999) :
    Calls Try.prog 68 #[.int .i64 n, .int .i64 4] w fun e w' => e = .returned (.string (strOfNums (dig4 n))) ∧ Below w.heap.size w w' := by
  have hcv := conv1
  have hc1 : ∀ (w : World) (o : Obj) (x : Int), (convert 99 9 (.slice (some ⟨w.heap.size + 1, 0, none⟩) 1 1)).run Try.prog ((w.alloc o).alloc (.cells #[.int .u8 x] 5)) = .ok (.string (strOfNums [x])) ((w.alloc o).alloc (.cells #[.int .u8 x] 5)) := fun w o x => by
    have := conv1 (w.alloc o) x
    rwa [World.size_alloc] at this
  have hc2 : ∀ (w : World) (o p : Obj) (x : Int), (convert 99 9 (.slice (some ⟨w.heap.size + 1 + 1, 0, none⟩) 1 1)).run Try.prog (((w.alloc o).alloc p).alloc (.cells #[.int .u8 x] 5)) = .ok (.string (strOfNums [x])) (((w.alloc o).alloc p).alloc (.cells #[.int .u8 x] 5)) := fun w o p x => by
    have := conv1 ((w.alloc o).alloc p) x
    rwa [World.size_alloc, World.size_alloc] at this
  have hc3 : ∀ (w : World) (o p q : Obj) (x : Int), (convert 99 9 (.slice (some ⟨w.heap.size + 1 + 1 + 1, 0, none⟩) 1 1)).run Try.prog ((((w.alloc o).alloc p).alloc q).alloc (.cells #[.int .u8 x] 5)) = .ok (.string (strOfNums [x])) ((((w.alloc o).alloc p).alloc q).alloc (.cells #[.int .u8 x] 5)) := fun w o p q x => by
    have := conv1 (((w.alloc o).alloc p).alloc q) x
    rwa [World.size_alloc, World.size_alloc, World.size_alloc] at this
  have ha0 := fun x w => add_empty [x] w (by simp)
  have ha1 := fun x y w => add_nums [x] [y] w (by simp)
  have ha2 := fun x y z w => add_nums [x] [y, z] w (by simp)
  have ha3 := fun x y z u w => add_nums [x] [y, z, u] w (by simp)
  have hs1 := fun x => nums_size [x]
  have hs2 := fun x y => nums_size [x, y]
  have hs3 := fun x y z => nums_size [x, y, z]
  have hs4 := fun x y z u => nums_size [x, y, z, u]
  go_enter Try.func68, Try.ntmps68
  go_wp2_with fail
  go_rounds 5
  go_ret
  refine ⟨ret_nums ?_, ((((Below.refl _ _).alloc (Nat.le_refl _) _).alloc (by simp) _).alloc (by simp; omega) _).alloc (by simp; omega) _⟩
  simp only [dig4, List.cons.injEq, and_true]
  omega

set_option maxHeartbeats 1000000 in
set_option maxRecDepth 100000 in
theorem digitsOf2_any (n : Int) (w : World) (h0 : 1 ≤ n) (h1 : n ≤ 99) :
    Calls Try.prog 68 #[.int .i64 n, .int .i64 2] w fun e w' => e = .returned (.string (strOfNums (dig2 n))) ∧ Below w.heap.size w w' := by
  have hcv := conv1
  have hc1 : ∀ (w : World) (o : Obj) (x : Int), (convert 99 9 (.slice (some ⟨w.heap.size + 1, 0, none⟩) 1 1)).run Try.prog ((w.alloc o).alloc (.cells #[.int .u8 x] 5)) = .ok (.string (strOfNums [x])) ((w.alloc o).alloc (.cells #[.int .u8 x] 5)) := fun w o x => by
    have := conv1 (w.alloc o) x
    rwa [World.size_alloc] at this
  have ha0 := fun x w => add_empty [x] w (by simp)
  have ha1 := fun x y w => add_nums [x] [y] w (by simp)
  have hs1 := fun x => nums_size [x]
  have hs2 := fun x y => nums_size [x, y]
  by_cases hn : n < 10
  all_goals
    go_enter Try.func68, Try.ntmps68
    go_wp2_with fail
    go_rounds 3
    go_ret
    refine ⟨ret_nums ?_, ((Below.refl _ _).alloc (Nat.le_refl _) _).alloc (by simp) _⟩
    rfl

/-- A day's text. -/
def dayText (y m d : Int) : List Int := dig4 y ++ [45] ++ dig2 m ++ [45] ++ dig2 d

theorem text_steps (y m d : Int) (w : World) :
    (Op.stringOp .add (strOfNums (dig4 y)) ⟨#[45]⟩).run Try.prog w = .ok (.string (strOfNums (dig4 y ++ [45]))) w ∧
    (Op.stringOp .add (strOfNums (dig4 y ++ [45])) (strOfNums (dig2 m))).run Try.prog w = .ok (.string (strOfNums (dig4 y ++ [45] ++ dig2 m))) w ∧
    (Op.stringOp .add (strOfNums (dig4 y ++ [45] ++ dig2 m)) ⟨#[45]⟩).run Try.prog w = .ok (.string (strOfNums (dig4 y ++ [45] ++ dig2 m ++ [45]))) w ∧
    (Op.stringOp .add (strOfNums (dig4 y ++ [45] ++ dig2 m ++ [45])) (strOfNums (dig2 d))).run Try.prog w = .ok (.string (strOfNums (dayText y m d))) w :=
  ⟨add_nums (dig4 y) [45] w (by simp [dig4]), add_nums _ _ w (by simp [dig4, dig2]), add_nums _ [45] w (by simp [dig4, dig2]), add_nums _ _ w (by simp [dig4, dig2])⟩
end Go.Proofs.Ytbfldfnmamdofaa.days
