/-
  What the reference answers of dates, and that it is what the program answers; months added. Months added to a day, on either side. Days as texts, on either side. Days as texts: the two functions that write one; the other answers on a day.
-/
import Derived.Test.YtemiaognopgnnaaGreatDoorDays3
import Derived.Laws.BytesArg
import Derived.LoopN
namespace Go.Proofs.YtemiaognopgnnaaGreatDoor.days
open Go.RowKit Go.Proofs.YtemiaognopgnnaaGreatDoor.cal
set_option linter.unusedVariables false

theorem inY_nonneg {n : Int} (h0 : 0 ≤ n) (h1 : n ≤ 146096) : 0 ≤ inY n := by
  unfold inY
  have hy := yr_range h0 h1
  have hq : yr n * 365 ≤ n - n / 1460 + n / 36524 - n / 146096 := by unfold yr; omega
  obtain ⟨q, hq'⟩ : ∃ q, q = yr n := ⟨_, rfl⟩
  rw [← hq'] at hy hq ⊢
  clear hq'
  obtain ⟨c, hc⟩ : ∃ c, c = q / 100 := ⟨_, rfl⟩
  rw [← hc]
  rcases (by omega : c = 0 ∨ c = 1 ∨ c = 2 ∨ c = 3 ∨ c = 4) with h | h | h | h | h <;> subst h <;> rcases (by omega : n < 36524 ∨ (36524 ≤ n ∧ n < 73048) ∨ (73048 ≤ n ∧ n < 109572) ∨ (109572 ≤ n ∧ n < 146096) ∨ n = 146096) with h | h | h | h | h <;> omega

theorem inY_pos (t : Int) : 0 ≤ inY (rest t) := inY_nonneg (rest_range t).1 (rest_range t).2

theorem valid_num {y m d : Int} (h : Valid y m d) : 0 ≤ num y m d ∧ num y m d ≤ 84005 := by
  obtain ⟨hy1, hy2, hm1, hm2, hd1, hd2⟩ := h
  obtain ⟨k, hk⟩ : ∃ k : Nat, m = (k : Int) + 1 := ⟨(m - 1).toNat, by omega⟩
  subst hk
  have hc := cum_range y k
  have h12 : cum y k + md y ((k : Int) + 1) ≤ yd y := by
    rw [← cum_year y]
    show cum y (k + 1) ≤ _
    have hmono : ∀ j, cum y j ≤ cum y (j + 1) := fun j => by have := md_range y ((j : Int) + 1); simp only [cum]; omega
    have key : ∀ i, cum y (k + 1) ≤ cum y (k + 1 + i) := by
      intro i
      induction i with
      | zero => exact Int.le_refl _
      | succ i ih => exact Int.le_trans ih (hmono _)
    have := key (11 - k)
    rwa [show k + 1 + (11 - k) = 12 from by omega] at this
  have hy : yd y ≤ 366 ∧ 365 ≤ yd y := by unfold yd; split <;> omega
  have hbf : 0 ≤ bf y ∧ bf y + yd y ≤ 84006 := by
    rcases (by omega : y = 2199 ∨ y < 2199) with h | h
    · subst h
      have h1 : bf 2199 = 83641 := by decide
      have h2 : yd 2199 = 365 := by decide
      omega
    · have : bf y ≤ bf 2198 := by unfold bf; omega
      have h1 : bf 2198 = 83276 := by decide
      refine ⟨by unfold bf; omega, by omega⟩
  unfold num
  rw [show ((k : Int) + 1 - 1).toNat = k from by omega]
  omega

theorem dat_range (y m d : Int) (hy1 : 1700 ≤ y) (hy2 : y ≤ 2500) (hm1 : 1 ≤ m) (hm2 : m ≤ 13) (hd1 : 0 ≤ d) (hd2 : d ≤ 40) : -200000 ≤ dat y m d ∧ dat y m d ≤ 200000 := by
  have := tabs_range (m - 1).toNat
  unfold dat yday
  split <;> omega

/-- The reference's date of a day. -/
theorem dateOfDay_any (y m d : Int) (w : World) (h : Valid y m d) :
    Calls Tryz.prog 119 #[.int .i64 (num y m d)] w fun e w' => e = .returned (.tuple #[.int .i64 y, .int .i64 m, .int .i64 d]) ∧ w = w' := by
  have hr := md_range y m
  have h5 := day_same y m d h.1 h.2.1 h.2.2.1 h.2.2.2.1 h.2.2.2.2.1 h.2.2.2.2.2 (by have := h.2.2.2.2.2; omega)
  have hn := valid_num h
  obtain ⟨n, hn'⟩ : ∃ n, n = num y m d := ⟨_, rfl⟩
  rw [← hn'] at hn h5 ⊢
  have HP := hide (fun W => parts_any (n - 11323) W (by omega) (by omega) (inY_pos _))
  have H5 := hide h5
  clear h5 hn' h hr
  go_enter Tryz.func119, Tryz.ntmps119
  go_wp2_with fail
  refine (HP.out _).mono ?_
  rintro e w2 ⟨rfl, rfl⟩
  go_wp2
  go_ret3
  exact ⟨by rw [H5.out.2.1, H5.out.2.2.1, H5.out.2.2.2]; rfl, rfl⟩
end Go.Proofs.YtemiaognopgnnaaGreatDoor.days
namespace Go.Proofs.YtemiaognopgnnaaGreatDoor.days
open Go.RowKit Go.Proofs.YtemiaognopgnnaaGreatDoor.cal
set_option linter.unusedVariables false

/-- The day so many months behind a date. -/
def laterV (y m d k : Int) : Int × Int :=
  dayV ((12 * y + m - 1 + k) / 12) ((12 * y + m - 1 + k) % 12 + 1) (if md ((12 * y + m - 1 + k) / 12) ((12 * y + m - 1 + k) % 12 + 1) < d then md ((12 * y + m - 1 + k) / 12) ((12 * y + m - 1 + k) % 12 + 1) else d)

def bad (n k : Int) : Prop := n < 0 ∨ 84005 < n ∨ k < -3000 ∨ 3000 < k

end Go.Proofs.YtemiaognopgnnaaGreatDoor.days
namespace Go.Proofs.YtemiaognopgnnaaGreatDoor.days
open Go.RowKit Go.Proofs.YtemiaognopgnnaaGreatDoor.cal
set_option linter.unusedVariables false

theorem conv4 (w : World) (x0 x1 x2 x3 : Int) : (convert 50 9 (.slice (some ⟨w.heap.size, 0, none⟩) 4 4)).run Tryz.prog (w.alloc (.cells #[.int .u8 x0, .int .u8 x1, .int .u8 x2, .int .u8 x3] 5)) =
    .ok (.string (strOfNums [x0, x1, x2, x3])) (w.alloc (.cells #[.int .u8 x0, .int .u8 x1, .int .u8 x2, .int .u8 x3] 5)) := by
  refine run_convert_bytes_arg _ 50 5 Tryz.underlying50 Tryz.underlying5 w.heap.size 0 4 4 [x0, x1, x2, x3] rfl (fun i hi => ?_) 9 Tryz.underlying9
  rcases (by omega : i = 0 ∨ i = 1 ∨ i = 2 ∨ i = 3) with h | h | h | h <;> subst h <;> simp [go_sem]
theorem conv2 (w : World) (x0 x1 : Int) : (convert 50 9 (.slice (some ⟨w.heap.size, 0, none⟩) 2 2)).run Tryz.prog (w.alloc (.cells #[.int .u8 x0, .int .u8 x1] 5)) =
    .ok (.string (strOfNums [x0, x1])) (w.alloc (.cells #[.int .u8 x0, .int .u8 x1] 5)) := by
  refine run_convert_bytes_arg _ 50 5 Tryz.underlying50 Tryz.underlying5 w.heap.size 0 2 2 [x0, x1] rfl (fun i hi => ?_) 9 Tryz.underlying9
  rcases (by omega : i = 0 ∨ i = 1) with h | h <;> subst h <;> simp [go_sem]
theorem conv1 (w : World) (x0 : Int) : (convert 50 9 (.slice (some ⟨w.heap.size, 0, none⟩) 1 1)).run Tryz.prog (w.alloc (.cells #[.int .u8 x0] 5)) =
    .ok (.string (strOfNums [x0])) (w.alloc (.cells #[.int .u8 x0] 5)) := by
  refine run_convert_bytes_arg _ 50 5 Tryz.underlying50 Tryz.underlying5 w.heap.size 0 1 1 [x0] rfl (fun i hi => ?_) 9 Tryz.underlying9
  obtain rfl : i = 0 := by omega
  simp [go_sem]

theorem make4 (w : World) : (Instr.makeSlice 50 (.int .i64 4) (.int .i64 4)).run Tryz.prog w = .ok (.slice (some ⟨w.heap.size, 0, none⟩) 4 4) (w.alloc (.cells #[.int .u8 0, .int .u8 0, .int .u8 0, .int .u8 0] 5)) := by kernel_rfl
theorem make2 (w : World) : (Instr.makeSlice 50 (.int .i64 2) (.int .i64 2)).run Tryz.prog w = .ok (.slice (some ⟨w.heap.size, 0, none⟩) 2 2) (w.alloc (.cells #[.int .u8 0, .int .u8 0] 5)) := by kernel_rfl

/-- The last four, the last two digits of a number, as letters. -/
def dig4 (n : Int) : List Int := [48 + n / 1000 % 10, 48 + n / 100 % 10, 48 + n / 10 % 10, 48 + n % 10]
def dig2 (n : Int) : List Int := [48 + n / 10 % 10, 48 + n % 10]

theorem ret_nums {l l' : List Int} (h : l = l') : Ending.returned (.string (strOfNums l)) = .returned (.string (strOfNums l')) := by rw [h]

set_option maxHeartbeats 1000000 in
set_option maxRecDepth 100000 in
theorem digits4_any (n : Int) (w : World) (h0 : 0 ≤ n) (h1 : n ≤ 9999) :
    Calls Tryz.prog 204 #[.int .i64 n, .int .i64 4] w fun e w' => e = .returned (.string (strOfNums (dig4 n))) ∧ Below w.heap.size w w' := by
  have hmk := make4
  have hcv := conv4
  go_enter Tryz.func204, Tryz.ntmps204
  go_wp2_with fail
  go_rounds 5
  go_ret
  refine ⟨ret_nums ?_, (Below.refl _ _).alloc (Nat.le_refl _) _⟩
  simp only [dig4, List.cons.injEq, and_true]
  omega

set_option maxHeartbeats 1000000 in
set_option maxRecDepth 100000 in
theorem digits2_any (n : Int) (w : World) (h0 : 0 ≤ n) (h1 : n ≤ 99) :
    Calls Tryz.prog 204 #[.int .i64 n, .int .i64 2] w fun e w' => e = .returned (.string (strOfNums (dig2 n))) ∧ Below w.heap.size w w' := by
  have hmk := make2
  have hcv := conv2
  go_enter Tryz.func204, Tryz.ntmps204
  go_wp2_with fail
  go_rounds 3
  go_ret
  refine ⟨ret_nums ?_, (Below.refl _ _).alloc (Nat.le_refl _) _⟩
  rfl

theorem nums_append (l l' : List Int) : strOfNums l ++ strOfNums l' = strOfNums (l ++ l') := by
  apply ByteArray.ext
  simp [strOfNums, ByteArray.data_append]
theorem nums_size (l : List Int) : (strOfNums l).size = l.length := by
  simp [strOfNums, ByteArray.size]
theorem add_nums (l l' : List Int) (w : World) (h : l.length + l'.length ≤ 1000) : (Op.stringOp .add (strOfNums l) (strOfNums l')).run Tryz.prog w = .ok (.string (strOfNums (l ++ l'))) w := by
  rw [← nums_append]
  exact run_string_add_sum w _ _ (by rw [nums_size, nums_size]; omega)
theorem add_empty (l : List Int) (w : World) (h : l.length ≤ 1000) : (Op.stringOp .add (strOfNums l) ⟨#[]⟩).run Tryz.prog w = .ok (.string (strOfNums l)) w := by
  have := add_nums l [] w (by simpa using h)
  rw [List.append_nil] at this
  exact this

set_option maxHeartbeats 1000000 in
set_option maxRecDepth 100000 in
theorem digitsOf4_any (n : Int) (w : World) (h0 : 1000 ≤ n) (h1 : n ≤ 9999) :
    Calls Tryz.prog 120 #[.int .i64 n, .int .i64 4] w fun e w' => e = .returned (.string (strOfNums (dig4 n))) ∧ Below w.heap.size w w' := by
  have hcv := conv1
  have hc1 : ∀ (w : World) (o : Obj) (x : Int), (convert 50 9 (.slice (some ⟨w.heap.size + 1, 0, none⟩) 1 1)).run Tryz.prog ((w.alloc o).alloc (.cells #[.int .u8 x] 5)) = .ok (.string (strOfNums [x])) ((w.alloc o).alloc (.cells #[.int .u8 x] 5)) := fun w o x => by
    have := conv1 (w.alloc o) x
    rwa [World.size_alloc] at this
  have hc2 : ∀ (w : World) (o p : Obj) (x : Int), (convert 50 9 (.slice (some ⟨w.heap.size + 1 + 1, 0, none⟩) 1 1)).run Tryz.prog (((w.alloc o).alloc p).alloc (.cells #[.int .u8 x] 5)) = .ok (.string (strOfNums [x])) (((w.alloc o).alloc p).alloc (.cells #[.int .u8 x] 5)) := fun w o p x => by
    have := conv1 ((w.alloc o).alloc p) x
    rwa [World.size_alloc, World.size_alloc] at this
  have hc3 : ∀ (w : World) (o p q : Obj) (x : Int), (convert 50 9 (.slice (some ⟨w.heap.size + 1 + 1 + 1, 0, none⟩) 1 1)).run Tryz.prog ((((w.alloc o).alloc p).alloc q).alloc (.cells #[.int .u8 x] 5)) = .ok (.string (strOfNums [x])) ((((w.alloc o).alloc p).alloc q).alloc (.cells #[.int .u8 x] 5)) := fun w o p q x => by
    have := conv1 (((w.alloc o).alloc p).alloc q) x
    rwa [World.size_alloc, World.size_alloc, World.size_alloc] at this
  have ha0 := fun x w => add_empty [x] w (by simp)
  have ha1 := fun x y w => add_nums [x] [y] w (by simp)
  have ha2 := fun x y z w => add_nums [x] [y, z] w (by simp)
  have ha3 := fun x y z u w => add_nums [x] [y, z, u] w (by simp)
  have hs1 := fun x => nums_size [x]
  have hs2 := fun x y => nums_size [x, y]
  have hs3 := fun x y z => nums_size [x, y, z]
  have hs4 := fun x y z u => nums_size [x, y, z, u]
  go_enter Tryz.func120, Tryz.ntmps120
  go_wp2_with fail
  go_rounds 5
  go_ret
  refine ⟨ret_nums ?_, ((((Below.refl _ _).alloc (Nat.le_refl _) _).alloc (by simp) _).alloc (by simp; omega) _).alloc (by simp; omega) _⟩
  simp only [dig4, List.cons.injEq, and_true]
  omega

set_option maxHeartbeats 1000000 in
set_option maxRecDepth 100000 in
theorem digitsOf2_any (n : Int) (w : World) (h0 : 1 ≤ n) (h1 : n ≤ 99) :
    Calls Tryz.prog 120 #[.int .i64 n, .int .i64 2] w fun e w' => e = .returned (.string (strOfNums (dig2 n))) ∧ Below w.heap.size w w' := by
  have hcv := conv1
  have hc1 : ∀ (w : World) (o : Obj) (x : Int), (convert 50 9 (.slice (some ⟨w.heap.size + 1, 0, none⟩) 1 1)).run Tryz.prog ((w.alloc o).alloc (.cells #[.int .u8 x] 5)) = .ok (.string (strOfNums [x])) ((w.alloc o).alloc (.cells #[.int .u8 x] 5)) := fun w o x => by
    have := conv1 (w.alloc o) x
    rwa [World.size_alloc] at this
  have ha0 := fun x w => add_empty [x] w (by simp)
  have ha1 := fun x y w => add_nums [x] [y] w (by simp)
  have hs1 := fun x => nums_size [x]
  have hs2 := fun x y => nums_size [x, y]
  by_cases hn : n < 10
  all_goals
    go_enter Tryz.func120, Tryz.ntmps120
    go_wp2_with fail
    go_rounds 3
    go_ret
    refine ⟨ret_nums ?_, ((Below.refl _ _).alloc (Nat.le_refl _) _).alloc (by simp) _⟩
    rfl

/-- A day's text. -/
def dayText (y m d : Int) : List Int := dig4 y ++ [45] ++ dig2 m ++ [45] ++ dig2 d

theorem text_steps (y m d : Int) (w : World) :
    (Op.stringOp .add (strOfNums (dig4 y)) ⟨#[45]⟩).run Tryz.prog w = .ok (.string (strOfNums (dig4 y ++ [45]))) w ∧
    (Op.stringOp .add (strOfNums (dig4 y ++ [45])) (strOfNums (dig2 m))).run Tryz.prog w = .ok (.string (strOfNums (dig4 y ++ [45] ++ dig2 m))) w ∧
    (Op.stringOp .add (strOfNums (dig4 y ++ [45] ++ dig2 m)) ⟨#[45]⟩).run Tryz.prog w = .ok (.string (strOfNums (dig4 y ++ [45] ++ dig2 m ++ [45]))) w ∧
    (Op.stringOp .add (strOfNums (dig4 y ++ [45] ++ dig2 m ++ [45])) (strOfNums (dig2 d))).run Tryz.prog w = .ok (.string (strOfNums (dayText y m d))) w :=
  ⟨add_nums (dig4 y) [45] w (by simp [dig4]), add_nums _ _ w (by simp [dig4, dig2]), add_nums _ [45] w (by simp [dig4, dig2]), add_nums _ _ w (by simp [dig4, dig2])⟩
end Go.Proofs.YtemiaognopgnnaaGreatDoor.days
namespace Go.Proofs.YtemiaognopgnnaaGreatDoor.days
open Go.RowKit Go.Proofs.YtemiaognopgnnaaGreatDoor.cal
set_option linter.unusedVariables false

theorem date_is {y m d y' m' d' : Int} (h : Valid y m d) (h' : Valid y' m' d') (e : num y' m' d' = num y m d) : y = y' ∧ m = m' ∧ d = d' := by
  have r := md_range y m
  have r' := md_range y' m'
  have h5 := day_same y m d h.1 h.2.1 h.2.2.1 h.2.2.2.1 h.2.2.2.2.1 h.2.2.2.2.2 (by have := h.2.2.2.2.2; omega)
  have h6 := day_same y' m' d' h'.1 h'.2.1 h'.2.2.1 h'.2.2.2.1 h'.2.2.2.2.1 h'.2.2.2.2.2 (by have := h'.2.2.2.2.2; omega)
  rw [e] at h6
  exact ⟨h5.2.1.symm.trans h6.2.1, h5.2.2.1.symm.trans h6.2.2.1, h5.2.2.2.symm.trans h6.2.2.2⟩

/-- The program's date of a day. -/
theorem date_of (y m d : Int) (w : World) (h : Valid y m d) :
    Calls Tryz.prog 203 #[.int .i64 (num y m d)] w fun e w' => e = .returned (.tuple #[.int .i64 y, .int .i64 m, .int .i64 d]) ∧ w = w' :=
  (date_any (num y m d) w (valid_num h).1 (valid_num h).2).mono fun e w' ⟨⟨y', m', d', he, hv, hn⟩, hw⟩ => by
    obtain ⟨rfl, rfl, rfl⟩ := date_is h hv hn
    exact ⟨he, hw⟩

set_option maxHeartbeats 1000000 in
theorem dayString_any (y m d : Int) (w : World) (h : Valid y m d) :
    Calls Tryz.prog 164 #[.int .i64 (num y m d)] w fun e w' => e = .returned (.string (strOfNums (dayText y m d))) ∧ Below w.heap.size w w' := by
  have hh := h
  obtain ⟨hy1, hy2, hm1, hm2, hd1, hd2⟩ := hh
  have hr := md_range y m
  have H1 := hide (fun W => date_of y m d W h)
  obtain ⟨n, hn⟩ : ∃ n, n = num y m d := ⟨_, rfl⟩
  rw [← hn] at H1 ⊢
  have s1 := fun w => (text_steps y m d w).1
  have s2 := fun w => (text_steps y m d w).2.1
  have s3 := fun w => (text_steps y m d w).2.2.1
  have s4 := fun w => (text_steps y m d w).2.2.2
  clear hn h
  go_enter Tryz.func164, Tryz.ntmps164
  go_wp2_with fail
  refine (H1.out _).mono ?_
  rintro e w1 ⟨rfl, rfl⟩
  go_wp2_with fail
  refine (digits4_any y _ (by omega) (by omega)).mono ?_
  rintro e w1 ⟨rfl, hb1⟩
  go_wp2_with fail
  refine (digits2_any m _ (by omega) (by omega)).mono ?_
  rintro e w2 ⟨rfl, hb2⟩
  go_wp2_with fail
  refine (digits2_any d _ (by omega) (by omega)).mono ?_
  rintro e w3 ⟨rfl, hb3⟩
  go_wp2
  go_ret
  exact ⟨rfl, (hb1.trans (hb2.mono hb1.size)).trans (hb3.mono (Nat.le_trans hb1.size hb2.size))⟩

set_option maxHeartbeats 1000000 in
theorem stringOfDay_any (y m d : Int) (w : World) (h : Valid y m d) :
    Calls Tryz.prog 76 #[.int .i64 (num y m d)] w fun e w' => e = .returned (.string (strOfNums (dayText y m d))) ∧ Below w.heap.size w w' := by
  have hh := h
  obtain ⟨hy1, hy2, hm1, hm2, hd1, hd2⟩ := hh
  have hr := md_range y m
  have H1 := hide (fun W => dateOfDay_any y m d W h)
  obtain ⟨n, hn⟩ : ∃ n, n = num y m d := ⟨_, rfl⟩
  rw [← hn] at H1 ⊢
  have s1 := fun w => (text_steps y m d w).1
  have s2 := fun w => (text_steps y m d w).2.1
  have s3 := fun w => (text_steps y m d w).2.2.1
  have s4 := fun w => (text_steps y m d w).2.2.2
  clear hn h
  go_enter Tryz.func76, Tryz.ntmps76
  go_wp2_with fail
  refine (H1.out _).mono ?_
  rintro e w1 ⟨rfl, rfl⟩
  go_wp2_with fail
  refine (digitsOf4_any y _ (by omega) (by omega)).mono ?_
  rintro e w1 ⟨rfl, hb1⟩
  go_wp2_with fail
  refine (digitsOf2_any m _ (by omega) (by omega)).mono ?_
  rintro e w2 ⟨rfl, hb2⟩
  go_wp2_with fail
  refine (digitsOf2_any d _ (by omega) (by omega)).mono ?_
  rintro e w3 ⟨rfl, hb3⟩
  go_wp2
  go_ret
  exact ⟨rfl, (hb1.trans (hb2.mono hb1.size)).trans (hb3.mono (Nat.le_trans hb1.size hb2.size))⟩

theorem DayString_yes (y m d : Int) (w : World) (h : Valid y m d) :
    Calls Tryz.prog 127 #[.int .i64 (num y m d)] w fun e w' => e = .returned (.tuple #[.string (strOfNums (dayText y m d)), .int .i64 0]) ∧ Below w.heap.size w w' := by
  have H1 := hide (fun W => dayString_any y m d W h)
  have hb := valid_num h
  obtain ⟨n, hn⟩ : ∃ n, n = num y m d := ⟨_, rfl⟩
  rw [← hn] at H1 hb ⊢
  have HB := hide (fun W => badDay_any n W)
  have hbd := hide (decide_eq_false (show ¬ (n < 0 ∨ 84005 < n) by omega))
  clear hn h
  go_enter Tryz.func127, Tryz.ntmps127
  go_wp2_with fail
  refine (HB.out _).mono ?_
  rintro e w1 ⟨rfl, rfl⟩
  rw [hbd.out]
  go_wp2_with fail
  refine (H1.out _).mono ?_
  rintro e w1 ⟨rfl, hb1⟩
  go_wp2
  go_ret2
  exact ⟨rfl, hb1⟩

theorem results_tmp4 {fn : Func} {t u v x : Tmp} (h : fn.results = #[.tmp t, .tmp u, .tmp v, .tmp x]) (tmps : Array Value) (P : Program) (w : World) :
    (results fn tmps).run P w = .ok (.tuple #[tmps.getD t undef, tmps.getD u undef, tmps.getD v undef, tmps.getD x undef]) w := by simp [results, h]

theorem DayString_no (n : Int) (w : World) (h : n < 0 ∨ 84005 < n) :
    Calls Tryz.prog 127 #[.int .i64 n] w fun e w' => e = .returned (.tuple #[.string ⟨#[]⟩, .int .i64 2]) ∧ w = w' := by
  have HB := hide (fun W => badDay_any n W)
  have hbd := hide (decide_eq_true h)
  clear h
  go_enter Tryz.func127, Tryz.ntmps127
  go_wp2_with fail
  refine (HB.out _).mono ?_
  rintro e w1 ⟨rfl, rfl⟩
  rw [hbd.out]
  go_wp2
  go_ret2
  exact ⟨rfl, rfl⟩

end Go.Proofs.YtemiaognopgnnaaGreatDoor.days
