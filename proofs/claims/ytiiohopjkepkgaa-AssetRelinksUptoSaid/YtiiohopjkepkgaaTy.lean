/-
  The table of this program's types that the readings know, each entry proved. Written by a program.
-/
import Derived.Test.YtiiohopjkepkgaaN17
import Derived.Test.YtiiohopjkepkgaaProg
namespace Go.Proofs.Ytiiohopjkepkgaa
open Go.RowKit
set_option maxRecDepth 100000

def tyTab : List (Nat × TyI) :=
  [(2, { k := .int .i64, size := 1, bytes := 8, zero := .int .i64 0 }),
   (3, { k := .int .i64, size := 1, bytes := 8, zero := .int .i64 0 }),
   (4, { k := .bool, size := 1, bytes := 1, zero := .bool false }),
   (5, { k := .int .u8, size := 1, bytes := 1, zero := .int .u8 0 }),
   (6, { k := .int .u8, size := 1, bytes := 1, zero := .int .u8 0 }),
   (7, { k := .struct [(2, 0), (3, 1), (4, 2), (6, 3)], size := 4, bytes := 24, zero := .agg #[.int .i64 0, .int .i64 0, .bool false, .int .u8 0] }),
   (8, { k := .struct [(2, 0), (3, 1), (4, 2), (6, 3)], size := 4, bytes := 24, zero := .agg #[.int .i64 0, .int .i64 0, .bool false, .int .u8 0] }),
   (9, { k := .str, size := 1, bytes := 16, zero := .string ⟨#[]⟩ }),
   (10, { k := .str, size := 1, bytes := 16, zero := .string ⟨#[]⟩ }),
   (11, { k := .str, size := 1, bytes := 16, zero := .string ⟨#[]⟩ }),
   (12, { k := .int .u64, size := 1, bytes := 8, zero := .int .u64 0 }),
   (13, { k := .struct [(9, 0), (12, 1)], size := 2, bytes := 24, zero := .agg #[.string ⟨#[]⟩, .int .u64 0] }),
   (14, { k := .struct [(9, 0), (12, 1)], size := 2, bytes := 24, zero := .agg #[.string ⟨#[]⟩, .int .u64 0] }),
   (18, { k := .struct [(17, 0)], size := 1, bytes := 8, zero := .agg #[.pointer none] }),
   (19, { k := .struct [(17, 0)], size := 1, bytes := 8, zero := .agg #[.pointer none] }),
   (21, { k := .int .i32, size := 1, bytes := 4, zero := .int .i32 0 }),
   (22, { k := .sl 29, size := 1, bytes := 24, zero := .slice none 0 0 }),
   (23, { k := .int .i64, size := 1, bytes := 8, zero := .int .i64 0 }),
   (28, { k := .struct [(9, 0), (9, 1)], size := 2, bytes := 32, zero := .agg #[.string ⟨#[]⟩, .string ⟨#[]⟩] }),
   (29, { k := .struct [(9, 0), (9, 1)], size := 2, bytes := 32, zero := .agg #[.string ⟨#[]⟩, .string ⟨#[]⟩] }),
   (32, { k := .sl 36, size := 1, bytes := 24, zero := .slice none 0 0 }),
   (35, { k := .struct [(3, 0), (3, 1), (9, 2)], size := 3, bytes := 32, zero := .agg #[.int .i64 0, .int .i64 0, .string ⟨#[]⟩] }),
   (36, { k := .struct [(3, 0), (3, 1), (9, 2)], size := 3, bytes := 32, zero := .agg #[.int .i64 0, .int .i64 0, .string ⟨#[]⟩] }),
   (40, { k := .sl 60, size := 1, bytes := 24, zero := .slice none 0 0 }),
   (45, { k := .sl 62, size := 1, bytes := 24, zero := .slice none 0 0 }),
   (50, { k := .sl 5, size := 1, bytes := 24, zero := .slice none 0 0 }),
   (51, { k := .struct [(49, 0), (50, 1)], size := 2, bytes := 32, zero := .agg #[.pointer none, .slice none 0 0] }),
   (52, { k := .struct [(49, 0), (50, 1)], size := 2, bytes := 32, zero := .agg #[.pointer none, .slice none 0 0] }),
   (59, { k := .struct [(3, 0), (9, 1)], size := 2, bytes := 24, zero := .agg #[.int .i64 0, .string ⟨#[]⟩] }),
   (60, { k := .struct [(3, 0), (9, 1)], size := 2, bytes := 24, zero := .agg #[.int .i64 0, .string ⟨#[]⟩] }),
   (61, { k := .struct [(60, 0), (3, 2), (3, 3)], size := 4, bytes := 40, zero := .agg #[.int .i64 0, .string ⟨#[]⟩, .int .i64 0, .int .i64 0] }),
   (62, { k := .struct [(60, 0), (3, 2), (3, 3)], size := 4, bytes := 40, zero := .agg #[.int .i64 0, .string ⟨#[]⟩, .int .i64 0, .int .i64 0] }),
   (70, { k := .sl 3, size := 1, bytes := 24, zero := .slice none 0 0 }),
   (73, { k := .struct [(9, 0), (4, 1), (45, 2)], size := 3, bytes := 48, zero := .agg #[.string ⟨#[]⟩, .bool false, .slice none 0 0] }),
   (74, { k := .struct [(9, 0), (4, 1), (45, 2)], size := 3, bytes := 48, zero := .agg #[.string ⟨#[]⟩, .bool false, .slice none 0 0] }),
   (90, { k := .int .u64, size := 1, bytes := 8, zero := .int .u64 0 }),
   (91, { k := .int .u32, size := 1, bytes := 4, zero := .int .u32 0 }),
   (94, { k := .struct [(17, 0), (17, 1), (17, 2), (9, 3)], size := 4, bytes := 40, zero := .agg #[.pointer none, .pointer none, .pointer none, .string ⟨#[]⟩] }),
   (95, { k := .struct [(17, 0), (17, 1), (17, 2), (9, 3)], size := 4, bytes := 40, zero := .agg #[.pointer none, .pointer none, .pointer none, .string ⟨#[]⟩] }),
   (100, { k := .int .u8, size := 1, bytes := 1, zero := .int .u8 0 }),
   (101, { k := .int .u8, size := 1, bytes := 1, zero := .int .u8 0 }),
   (103, { k := .int .i32, size := 1, bytes := 4, zero := .int .i32 0 }),
   (104, { k := .int .i32, size := 1, bytes := 4, zero := .int .i32 0 }),
   (105, { k := .struct [(12, 0), (12, 1), (91, 2), (100, 3), (5, 4), (5, 5), (101, 6), (102, 7), (64, 8), (103, 9), (104, 10)], size := 11, bytes := 48, zero := .agg #[.int .u64 0, .int .u64 0, .int .u32 0, .int .u8 0, .int .u8 0, .int .u8 0, .int .u8 0, .nilFunc, .pointer none, .int .i32 0, .int .i32 0] }),
   (106, { k := .struct [(12, 0), (12, 1), (91, 2), (100, 3), (5, 4), (5, 5), (101, 6), (102, 7), (64, 8), (103, 9), (104, 10)], size := 11, bytes := 48, zero := .agg #[.int .u64 0, .int .u64 0, .int .u32 0, .int .u8 0, .int .u8 0, .int .u8 0, .int .u8 0, .nilFunc, .pointer none, .int .i32 0, .int .i32 0] }),
   (1, { k := .func, size := 1, bytes := 8, zero := .nilFunc }),
   (15, { k := .ptr, size := 1, bytes := 8, zero := .pointer none }),
   (16, { k := .ptr, size := 1, bytes := 8, zero := .pointer none }),
   (17, { k := .ptr, size := 1, bytes := 8, zero := .pointer none }),
   (20, { k := .ifc, size := 1, bytes := 16, zero := .nilIface }),
   (25, { k := .func, size := 1, bytes := 8, zero := .nilFunc }),
   (26, { k := .func, size := 1, bytes := 8, zero := .nilFunc }),
   (27, { k := .map .str 9 9, size := 1, bytes := 8, zero := .map none }),
   (31, { k := .func, size := 1, bytes := 8, zero := .nilFunc }),
   (34, { k := .func, size := 1, bytes := 8, zero := .nilFunc }),
   (37, { k := .func, size := 1, bytes := 8, zero := .nilFunc }),
   (38, { k := .func, size := 1, bytes := 8, zero := .nilFunc }),
   (39, { k := .func, size := 1, bytes := 8, zero := .nilFunc }),
   (42, { k := .func, size := 1, bytes := 8, zero := .nilFunc }),
   (43, { k := .func, size := 1, bytes := 8, zero := .nilFunc }),
   (44, { k := .func, size := 1, bytes := 8, zero := .nilFunc }),
   (47, { k := .func, size := 1, bytes := 8, zero := .nilFunc }),
   (48, { k := .func, size := 1, bytes := 8, zero := .nilFunc }),
   (49, { k := .ptr, size := 1, bytes := 8, zero := .pointer none }),
   (53, { k := .ifc, size := 1, bytes := 16, zero := .nilIface }),
   (54, { k := .ifc, size := 1, bytes := 16, zero := .nilIface }),
   (56, { k := .func, size := 1, bytes := 8, zero := .nilFunc }),
   (57, { k := .func, size := 1, bytes := 8, zero := .nilFunc }),
   (58, { k := .func, size := 1, bytes := 8, zero := .nilFunc }),
   (63, { k := .func, size := 1, bytes := 8, zero := .nilFunc }),
   (64, { k := .ptr, size := 1, bytes := 8, zero := .pointer none }),
   (65, { k := .func, size := 1, bytes := 8, zero := .nilFunc }),
   (66, { k := .func, size := 1, bytes := 8, zero := .nilFunc }),
   (67, { k := .func, size := 1, bytes := 8, zero := .nilFunc }),
   (68, { k := .func, size := 1, bytes := 8, zero := .nilFunc }),
   (69, { k := .func, size := 1, bytes := 8, zero := .nilFunc }),
   (71, { k := .func, size := 1, bytes := 8, zero := .nilFunc }),
   (72, { k := .ptr, size := 1, bytes := 8, zero := .pointer none }),
   (75, { k := .func, size := 1, bytes := 8, zero := .nilFunc }),
   (76, { k := .func, size := 1, bytes := 8, zero := .nilFunc }),
   (78, { k := .func, size := 1, bytes := 8, zero := .nilFunc }),
   (79, { k := .func, size := 1, bytes := 8, zero := .nilFunc }),
   (80, { k := .func, size := 1, bytes := 8, zero := .nilFunc }),
   (81, { k := .func, size := 1, bytes := 8, zero := .nilFunc }),
   (82, { k := .func, size := 1, bytes := 8, zero := .nilFunc }),
   (84, { k := .func, size := 1, bytes := 8, zero := .nilFunc }),
   (85, { k := .func, size := 1, bytes := 8, zero := .nilFunc }),
   (86, { k := .func, size := 1, bytes := 8, zero := .nilFunc }),
   (87, { k := .func, size := 1, bytes := 8, zero := .nilFunc }),
   (88, { k := .func, size := 1, bytes := 8, zero := .nilFunc }),
   (89, { k := .func, size := 1, bytes := 8, zero := .nilFunc }),
   (93, { k := .func, size := 1, bytes := 8, zero := .nilFunc }),
   (99, { k := .func, size := 1, bytes := 8, zero := .nilFunc }),
   (102, { k := .func, size := 1, bytes := 8, zero := .nilFunc })]
def tyT (t : TypeId) : TyI := match findB tyTab t with | some i => i | none => { k := .other, size := 0, bytes := 0, zero := .bool false }
theorem ty_info {P : Program} {t : TypeId} {s b : Nat} {z : Value} (h : (P.info? t).map (fun i => (i.size, i.bytes, i.zero)) = some (s, b, some z)) : ∃ j, P.info? t = some j ∧ j.size = s ∧ j.bytes = b ∧ j.zero = some z := by
  cases hi : P.info? t with
  | none => rw [hi] at h; cases h
  | some j =>
    rw [hi] at h
    simp only [Option.map_some, Option.some.injEq, Prod.mk.injEq] at h
    exact ⟨j, rfl, h.1, h.2.1, h.2.2⟩
theorem int_wf {n : Int} (h1 : -9223372036854775808 ≤ n) (h2 : n ≤ 9223372036854775807) : (Lit.int .i64 n).wf = true := by
  simp only [Lit.wf, Bool.and_eq_true, decide_eq_true_eq]
  exact ⟨h1, h2⟩
theorem ty_has {P : Program} {t : TypeId} (h : (P.info? t).map (fun i => i.size != 0) = some true) : ∃ i, P.info? t = some i ∧ i.size ≠ 0 := by
  cases hi : P.info? t with
  | none => rw [hi] at h; cases h
  | some j =>
    rw [hi] at h
    exact ⟨j, rfl, by simpa using h⟩
theorem tyOk2 : TyOk Try.prog 2 { k := .int .i64, size := 1, bytes := 8, zero := .int .i64 0 } :=
  ⟨Try.underlying2, by decide, by decide, by decide, by decide, by decide, ty_info (by kernel_rfl)⟩
theorem tyOk3 : TyOk Try.prog 3 { k := .int .i64, size := 1, bytes := 8, zero := .int .i64 0 } :=
  ⟨Try.underlying3, by decide, by decide, by decide, by decide, by decide, ty_info (by kernel_rfl)⟩
theorem tyOk4 : TyOk Try.prog 4 { k := .bool, size := 1, bytes := 1, zero := .bool false } :=
  ⟨Try.underlying4, by decide, by decide, by decide, by decide, by decide, ty_info (by kernel_rfl)⟩
theorem tyOk5 : TyOk Try.prog 5 { k := .int .u8, size := 1, bytes := 1, zero := .int .u8 0 } :=
  ⟨Try.underlying5, by decide, by decide, by decide, by decide, by decide, ty_info (by kernel_rfl)⟩
theorem tyOk6 : TyOk Try.prog 6 { k := .int .u8, size := 1, bytes := 1, zero := .int .u8 0 } :=
  ⟨Try.underlying6, by decide, by decide, by decide, by decide, by decide, ty_info (by kernel_rfl)⟩
theorem tyOk7 : TyOk Try.prog 7 { k := .struct [(2, 0), (3, 1), (4, 2), (6, 3)], size := 4, bytes := 24, zero := .agg #[.int .i64 0, .int .i64 0, .bool false, .int .u8 0] } :=
  ⟨⟨_, Try.underlying7, rfl, by
      intro F hF
      simp only [List.mem_cons, List.not_mem_nil, or_false] at hF
      rcases hF with rfl | rfl | rfl | rfl
      · exact ty_has (by kernel_rfl)
      · exact ty_has (by kernel_rfl)
      · exact ty_has (by kernel_rfl)
      · exact ty_has (by kernel_rfl)⟩, by decide, by decide, by decide, by decide, by decide, ty_info (by kernel_rfl)⟩
theorem tyOk8 : TyOk Try.prog 8 { k := .struct [(2, 0), (3, 1), (4, 2), (6, 3)], size := 4, bytes := 24, zero := .agg #[.int .i64 0, .int .i64 0, .bool false, .int .u8 0] } :=
  ⟨⟨_, Try.underlying8, rfl, by
      intro F hF
      simp only [List.mem_cons, List.not_mem_nil, or_false] at hF
      rcases hF with rfl | rfl | rfl | rfl
      · exact ty_has (by kernel_rfl)
      · exact ty_has (by kernel_rfl)
      · exact ty_has (by kernel_rfl)
      · exact ty_has (by kernel_rfl)⟩, by decide, by decide, by decide, by decide, by decide, ty_info (by kernel_rfl)⟩
theorem tyOk9 : TyOk Try.prog 9 { k := .str, size := 1, bytes := 16, zero := .string ⟨#[]⟩ } :=
  ⟨Try.underlying9, by decide, by decide, by decide, by decide, by decide, ty_info (by kernel_rfl)⟩
theorem tyOk10 : TyOk Try.prog 10 { k := .str, size := 1, bytes := 16, zero := .string ⟨#[]⟩ } :=
  ⟨Try.underlying10, by decide, by decide, by decide, by decide, by decide, ty_info (by kernel_rfl)⟩
theorem tyOk11 : TyOk Try.prog 11 { k := .str, size := 1, bytes := 16, zero := .string ⟨#[]⟩ } :=
  ⟨Try.underlying11, by decide, by decide, by decide, by decide, by decide, ty_info (by kernel_rfl)⟩
theorem tyOk12 : TyOk Try.prog 12 { k := .int .u64, size := 1, bytes := 8, zero := .int .u64 0 } :=
  ⟨Try.underlying12, by decide, by decide, by decide, by decide, by decide, ty_info (by kernel_rfl)⟩
theorem tyOk13 : TyOk Try.prog 13 { k := .struct [(9, 0), (12, 1)], size := 2, bytes := 24, zero := .agg #[.string ⟨#[]⟩, .int .u64 0] } :=
  ⟨⟨_, Try.underlying13, rfl, by
      intro F hF
      simp only [List.mem_cons, List.not_mem_nil, or_false] at hF
      rcases hF with rfl | rfl
      · exact ty_has (by kernel_rfl)
      · exact ty_has (by kernel_rfl)⟩, by decide, by decide, by decide, by decide, by decide, ty_info (by kernel_rfl)⟩
theorem tyOk14 : TyOk Try.prog 14 { k := .struct [(9, 0), (12, 1)], size := 2, bytes := 24, zero := .agg #[.string ⟨#[]⟩, .int .u64 0] } :=
  ⟨⟨_, Try.underlying14, rfl, by
      intro F hF
      simp only [List.mem_cons, List.not_mem_nil, or_false] at hF
      rcases hF with rfl | rfl
      · exact ty_has (by kernel_rfl)
      · exact ty_has (by kernel_rfl)⟩, by decide, by decide, by decide, by decide, by decide, ty_info (by kernel_rfl)⟩
theorem tyOk18 : TyOk Try.prog 18 { k := .struct [(17, 0)], size := 1, bytes := 8, zero := .agg #[.pointer none] } :=
  ⟨⟨_, Try.underlying18, rfl, by
      intro F hF
      simp only [List.mem_cons, List.not_mem_nil, or_false] at hF
      rcases hF with rfl
      · exact ty_has (by kernel_rfl)⟩, by decide, by decide, by decide, by decide, by decide, ty_info (by kernel_rfl)⟩
theorem tyOk19 : TyOk Try.prog 19 { k := .struct [(17, 0)], size := 1, bytes := 8, zero := .agg #[.pointer none] } :=
  ⟨⟨_, Try.underlying19, rfl, by
      intro F hF
      simp only [List.mem_cons, List.not_mem_nil, or_false] at hF
      rcases hF with rfl
      · exact ty_has (by kernel_rfl)⟩, by decide, by decide, by decide, by decide, by decide, ty_info (by kernel_rfl)⟩
theorem tyOk21 : TyOk Try.prog 21 { k := .int .i32, size := 1, bytes := 4, zero := .int .i32 0 } :=
  ⟨Try.underlying21, by decide, by decide, by decide, by decide, by decide, ty_info (by kernel_rfl)⟩
theorem tyOk22 : TyOk Try.prog 22 { k := .sl 29, size := 1, bytes := 24, zero := .slice none 0 0 } :=
  ⟨Try.underlying22, by decide, by decide, by decide, by decide, by decide, ty_info (by kernel_rfl)⟩
theorem tyOk23 : TyOk Try.prog 23 { k := .int .i64, size := 1, bytes := 8, zero := .int .i64 0 } :=
  ⟨Try.underlying23, by decide, by decide, by decide, by decide, by decide, ty_info (by kernel_rfl)⟩
theorem tyOk28 : TyOk Try.prog 28 { k := .struct [(9, 0), (9, 1)], size := 2, bytes := 32, zero := .agg #[.string ⟨#[]⟩, .string ⟨#[]⟩] } :=
  ⟨⟨_, Try.underlying28, rfl, by
      intro F hF
      simp only [List.mem_cons, List.not_mem_nil, or_false] at hF
      rcases hF with rfl | rfl
      · exact ty_has (by kernel_rfl)
      · exact ty_has (by kernel_rfl)⟩, by decide, by decide, by decide, by decide, by decide, ty_info (by kernel_rfl)⟩
theorem tyOk29 : TyOk Try.prog 29 { k := .struct [(9, 0), (9, 1)], size := 2, bytes := 32, zero := .agg #[.string ⟨#[]⟩, .string ⟨#[]⟩] } :=
  ⟨⟨_, Try.underlying29, rfl, by
      intro F hF
      simp only [List.mem_cons, List.not_mem_nil, or_false] at hF
      rcases hF with rfl | rfl
      · exact ty_has (by kernel_rfl)
      · exact ty_has (by kernel_rfl)⟩, by decide, by decide, by decide, by decide, by decide, ty_info (by kernel_rfl)⟩
theorem tyOk32 : TyOk Try.prog 32 { k := .sl 36, size := 1, bytes := 24, zero := .slice none 0 0 } :=
  ⟨Try.underlying32, by decide, by decide, by decide, by decide, by decide, ty_info (by kernel_rfl)⟩
theorem tyOk35 : TyOk Try.prog 35 { k := .struct [(3, 0), (3, 1), (9, 2)], size := 3, bytes := 32, zero := .agg #[.int .i64 0, .int .i64 0, .string ⟨#[]⟩] } :=
  ⟨⟨_, Try.underlying35, rfl, by
      intro F hF
      simp only [List.mem_cons, List.not_mem_nil, or_false] at hF
      rcases hF with rfl | rfl | rfl
      · exact ty_has (by kernel_rfl)
      · exact ty_has (by kernel_rfl)
      · exact ty_has (by kernel_rfl)⟩, by decide, by decide, by decide, by decide, by decide, ty_info (by kernel_rfl)⟩
theorem tyOk36 : TyOk Try.prog 36 { k := .struct [(3, 0), (3, 1), (9, 2)], size := 3, bytes := 32, zero := .agg #[.int .i64 0, .int .i64 0, .string ⟨#[]⟩] } :=
  ⟨⟨_, Try.underlying36, rfl, by
      intro F hF
      simp only [List.mem_cons, List.not_mem_nil, or_false] at hF
      rcases hF with rfl | rfl | rfl
      · exact ty_has (by kernel_rfl)
      · exact ty_has (by kernel_rfl)
      · exact ty_has (by kernel_rfl)⟩, by decide, by decide, by decide, by decide, by decide, ty_info (by kernel_rfl)⟩
theorem tyOk40 : TyOk Try.prog 40 { k := .sl 60, size := 1, bytes := 24, zero := .slice none 0 0 } :=
  ⟨Try.underlying40, by decide, by decide, by decide, by decide, by decide, ty_info (by kernel_rfl)⟩
theorem tyOk45 : TyOk Try.prog 45 { k := .sl 62, size := 1, bytes := 24, zero := .slice none 0 0 } :=
  ⟨Try.underlying45, by decide, by decide, by decide, by decide, by decide, ty_info (by kernel_rfl)⟩
theorem tyOk50 : TyOk Try.prog 50 { k := .sl 5, size := 1, bytes := 24, zero := .slice none 0 0 } :=
  ⟨Try.underlying50, by decide, by decide, by decide, by decide, by decide, ty_info (by kernel_rfl)⟩
theorem tyOk51 : TyOk Try.prog 51 { k := .struct [(49, 0), (50, 1)], size := 2, bytes := 32, zero := .agg #[.pointer none, .slice none 0 0] } :=
  ⟨⟨_, Try.underlying51, rfl, by
      intro F hF
      simp only [List.mem_cons, List.not_mem_nil, or_false] at hF
      rcases hF with rfl | rfl
      · exact ty_has (by kernel_rfl)
      · exact ty_has (by kernel_rfl)⟩, by decide, by decide, by decide, by decide, by decide, ty_info (by kernel_rfl)⟩
theorem tyOk52 : TyOk Try.prog 52 { k := .struct [(49, 0), (50, 1)], size := 2, bytes := 32, zero := .agg #[.pointer none, .slice none 0 0] } :=
  ⟨⟨_, Try.underlying52, rfl, by
      intro F hF
      simp only [List.mem_cons, List.not_mem_nil, or_false] at hF
      rcases hF with rfl | rfl
      · exact ty_has (by kernel_rfl)
      · exact ty_has (by kernel_rfl)⟩, by decide, by decide, by decide, by decide, by decide, ty_info (by kernel_rfl)⟩
theorem tyOk59 : TyOk Try.prog 59 { k := .struct [(3, 0), (9, 1)], size := 2, bytes := 24, zero := .agg #[.int .i64 0, .string ⟨#[]⟩] } :=
  ⟨⟨_, Try.underlying59, rfl, by
      intro F hF
      simp only [List.mem_cons, List.not_mem_nil, or_false] at hF
      rcases hF with rfl | rfl
      · exact ty_has (by kernel_rfl)
      · exact ty_has (by kernel_rfl)⟩, by decide, by decide, by decide, by decide, by decide, ty_info (by kernel_rfl)⟩
theorem tyOk60 : TyOk Try.prog 60 { k := .struct [(3, 0), (9, 1)], size := 2, bytes := 24, zero := .agg #[.int .i64 0, .string ⟨#[]⟩] } :=
  ⟨⟨_, Try.underlying60, rfl, by
      intro F hF
      simp only [List.mem_cons, List.not_mem_nil, or_false] at hF
      rcases hF with rfl | rfl
      · exact ty_has (by kernel_rfl)
      · exact ty_has (by kernel_rfl)⟩, by decide, by decide, by decide, by decide, by decide, ty_info (by kernel_rfl)⟩
theorem tyOk61 : TyOk Try.prog 61 { k := .struct [(60, 0), (3, 2), (3, 3)], size := 4, bytes := 40, zero := .agg #[.int .i64 0, .string ⟨#[]⟩, .int .i64 0, .int .i64 0] } :=
  ⟨⟨_, Try.underlying61, rfl, by
      intro F hF
      simp only [List.mem_cons, List.not_mem_nil, or_false] at hF
      rcases hF with rfl | rfl | rfl
      · exact ty_has (by kernel_rfl)
      · exact ty_has (by kernel_rfl)
      · exact ty_has (by kernel_rfl)⟩, by decide, by decide, by decide, by decide, by decide, ty_info (by kernel_rfl)⟩
theorem tyOk62 : TyOk Try.prog 62 { k := .struct [(60, 0), (3, 2), (3, 3)], size := 4, bytes := 40, zero := .agg #[.int .i64 0, .string ⟨#[]⟩, .int .i64 0, .int .i64 0] } :=
  ⟨⟨_, Try.underlying62, rfl, by
      intro F hF
      simp only [List.mem_cons, List.not_mem_nil, or_false] at hF
      rcases hF with rfl | rfl | rfl
      · exact ty_has (by kernel_rfl)
      · exact ty_has (by kernel_rfl)
      · exact ty_has (by kernel_rfl)⟩, by decide, by decide, by decide, by decide, by decide, ty_info (by kernel_rfl)⟩
theorem tyOk70 : TyOk Try.prog 70 { k := .sl 3, size := 1, bytes := 24, zero := .slice none 0 0 } :=
  ⟨Try.underlying70, by decide, by decide, by decide, by decide, by decide, ty_info (by kernel_rfl)⟩
theorem tyOk73 : TyOk Try.prog 73 { k := .struct [(9, 0), (4, 1), (45, 2)], size := 3, bytes := 48, zero := .agg #[.string ⟨#[]⟩, .bool false, .slice none 0 0] } :=
  ⟨⟨_, Try.underlying73, rfl, by
      intro F hF
      simp only [List.mem_cons, List.not_mem_nil, or_false] at hF
      rcases hF with rfl | rfl | rfl
      · exact ty_has (by kernel_rfl)
      · exact ty_has (by kernel_rfl)
      · exact ty_has (by kernel_rfl)⟩, by decide, by decide, by decide, by decide, by decide, ty_info (by kernel_rfl)⟩
theorem tyOk74 : TyOk Try.prog 74 { k := .struct [(9, 0), (4, 1), (45, 2)], size := 3, bytes := 48, zero := .agg #[.string ⟨#[]⟩, .bool false, .slice none 0 0] } :=
  ⟨⟨_, Try.underlying74, rfl, by
      intro F hF
      simp only [List.mem_cons, List.not_mem_nil, or_false] at hF
      rcases hF with rfl | rfl | rfl
      · exact ty_has (by kernel_rfl)
      · exact ty_has (by kernel_rfl)
      · exact ty_has (by kernel_rfl)⟩, by decide, by decide, by decide, by decide, by decide, ty_info (by kernel_rfl)⟩
theorem tyOk90 : TyOk Try.prog 90 { k := .int .u64, size := 1, bytes := 8, zero := .int .u64 0 } :=
  ⟨Try.underlying90, by decide, by decide, by decide, by decide, by decide, ty_info (by kernel_rfl)⟩
theorem tyOk91 : TyOk Try.prog 91 { k := .int .u32, size := 1, bytes := 4, zero := .int .u32 0 } :=
  ⟨Try.underlying91, by decide, by decide, by decide, by decide, by decide, ty_info (by kernel_rfl)⟩
theorem tyOk94 : TyOk Try.prog 94 { k := .struct [(17, 0), (17, 1), (17, 2), (9, 3)], size := 4, bytes := 40, zero := .agg #[.pointer none, .pointer none, .pointer none, .string ⟨#[]⟩] } :=
  ⟨⟨_, Try.underlying94, rfl, by
      intro F hF
      simp only [List.mem_cons, List.not_mem_nil, or_false] at hF
      rcases hF with rfl | rfl | rfl | rfl
      · exact ty_has (by kernel_rfl)
      · exact ty_has (by kernel_rfl)
      · exact ty_has (by kernel_rfl)
      · exact ty_has (by kernel_rfl)⟩, by decide, by decide, by decide, by decide, by decide, ty_info (by kernel_rfl)⟩
theorem tyOk95 : TyOk Try.prog 95 { k := .struct [(17, 0), (17, 1), (17, 2), (9, 3)], size := 4, bytes := 40, zero := .agg #[.pointer none, .pointer none, .pointer none, .string ⟨#[]⟩] } :=
  ⟨⟨_, Try.underlying95, rfl, by
      intro F hF
      simp only [List.mem_cons, List.not_mem_nil, or_false] at hF
      rcases hF with rfl | rfl | rfl | rfl
      · exact ty_has (by kernel_rfl)
      · exact ty_has (by kernel_rfl)
      · exact ty_has (by kernel_rfl)
      · exact ty_has (by kernel_rfl)⟩, by decide, by decide, by decide, by decide, by decide, ty_info (by kernel_rfl)⟩
theorem tyOk100 : TyOk Try.prog 100 { k := .int .u8, size := 1, bytes := 1, zero := .int .u8 0 } :=
  ⟨Try.underlying100, by decide, by decide, by decide, by decide, by decide, ty_info (by kernel_rfl)⟩
theorem tyOk101 : TyOk Try.prog 101 { k := .int .u8, size := 1, bytes := 1, zero := .int .u8 0 } :=
  ⟨Try.underlying101, by decide, by decide, by decide, by decide, by decide, ty_info (by kernel_rfl)⟩
theorem tyOk103 : TyOk Try.prog 103 { k := .int .i32, size := 1, bytes := 4, zero := .int .i32 0 } :=
  ⟨Try.underlying103, by decide, by decide, by decide, by decide, by decide, ty_info (by kernel_rfl)⟩
theorem tyOk104 : TyOk Try.prog 104 { k := .int .i32, size := 1, bytes := 4, zero := .int .i32 0 } :=
  ⟨Try.underlying104, by decide, by decide, by decide, by decide, by decide, ty_info (by kernel_rfl)⟩
theorem tyOk105 : TyOk Try.prog 105 { k := .struct [(12, 0), (12, 1), (91, 2), (100, 3), (5, 4), (5, 5), (101, 6), (102, 7), (64, 8), (103, 9), (104, 10)], size := 11, bytes := 48, zero := .agg #[.int .u64 0, .int .u64 0, .int .u32 0, .int .u8 0, .int .u8 0, .int .u8 0, .int .u8 0, .nilFunc, .pointer none, .int .i32 0, .int .i32 0] } :=
  ⟨⟨_, Try.underlying105, rfl, by
      intro F hF
      simp only [List.mem_cons, List.not_mem_nil, or_false] at hF
      rcases hF with rfl | rfl | rfl | rfl | rfl | rfl | rfl | rfl | rfl | rfl | rfl
      · exact ty_has (by kernel_rfl)
      · exact ty_has (by kernel_rfl)
      · exact ty_has (by kernel_rfl)
      · exact ty_has (by kernel_rfl)
      · exact ty_has (by kernel_rfl)
      · exact ty_has (by kernel_rfl)
      · exact ty_has (by kernel_rfl)
      · exact ty_has (by kernel_rfl)
      · exact ty_has (by kernel_rfl)
      · exact ty_has (by kernel_rfl)
      · exact ty_has (by kernel_rfl)⟩, by decide, by decide, by decide, by decide, by decide, ty_info (by kernel_rfl)⟩
theorem tyOk106 : TyOk Try.prog 106 { k := .struct [(12, 0), (12, 1), (91, 2), (100, 3), (5, 4), (5, 5), (101, 6), (102, 7), (64, 8), (103, 9), (104, 10)], size := 11, bytes := 48, zero := .agg #[.int .u64 0, .int .u64 0, .int .u32 0, .int .u8 0, .int .u8 0, .int .u8 0, .int .u8 0, .nilFunc, .pointer none, .int .i32 0, .int .i32 0] } :=
  ⟨⟨_, Try.underlying106, rfl, by
      intro F hF
      simp only [List.mem_cons, List.not_mem_nil, or_false] at hF
      rcases hF with rfl | rfl | rfl | rfl | rfl | rfl | rfl | rfl | rfl | rfl | rfl
      · exact ty_has (by kernel_rfl)
      · exact ty_has (by kernel_rfl)
      · exact ty_has (by kernel_rfl)
      · exact ty_has (by kernel_rfl)
      · exact ty_has (by kernel_rfl)
      · exact ty_has (by kernel_rfl)
      · exact ty_has (by kernel_rfl)
      · exact ty_has (by kernel_rfl)
      · exact ty_has (by kernel_rfl)
      · exact ty_has (by kernel_rfl)
      · exact ty_has (by kernel_rfl)⟩, by decide, by decide, by decide, by decide, by decide, ty_info (by kernel_rfl)⟩
theorem tyOk1 : TyOk Try.prog 1 { k := .func, size := 1, bytes := 8, zero := .nilFunc } :=
  ⟨⟨_, _, _, Try.underlying1⟩, by decide, by decide, by decide, by decide, by decide, ty_info (by kernel_rfl)⟩
theorem tyOk15 : TyOk Try.prog 15 { k := .ptr, size := 1, bytes := 8, zero := .pointer none } :=
  ⟨⟨_, Try.underlying15⟩, by decide, by decide, by decide, by decide, by decide, ty_info (by kernel_rfl)⟩
theorem tyOk16 : TyOk Try.prog 16 { k := .ptr, size := 1, bytes := 8, zero := .pointer none } :=
  ⟨⟨_, Try.underlying16⟩, by decide, by decide, by decide, by decide, by decide, ty_info (by kernel_rfl)⟩
theorem tyOk17 : TyOk Try.prog 17 { k := .ptr, size := 1, bytes := 8, zero := .pointer none } :=
  ⟨⟨_, Try.underlying17⟩, by decide, by decide, by decide, by decide, by decide, ty_info (by kernel_rfl)⟩
theorem tyOk20 : TyOk Try.prog 20 { k := .ifc, size := 1, bytes := 16, zero := .nilIface } :=
  ⟨⟨_, Try.underlying20⟩, by decide, by decide, by decide, by decide, by decide, ty_info (by kernel_rfl)⟩
theorem tyOk25 : TyOk Try.prog 25 { k := .func, size := 1, bytes := 8, zero := .nilFunc } :=
  ⟨⟨_, _, _, Try.underlying25⟩, by decide, by decide, by decide, by decide, by decide, ty_info (by kernel_rfl)⟩
theorem tyOk26 : TyOk Try.prog 26 { k := .func, size := 1, bytes := 8, zero := .nilFunc } :=
  ⟨⟨_, _, _, Try.underlying26⟩, by decide, by decide, by decide, by decide, by decide, ty_info (by kernel_rfl)⟩
theorem tyOk27 : TyOk Try.prog 27 { k := .map .str 9 9, size := 1, bytes := 8, zero := .map none } :=
  ⟨⟨Try.underlying27, Go.Maps.string_keyed Try.underlying9, fun v ⟨s, hv, hs⟩ => ⟨_, hv ▸ Go.WideMaps.keyOf_string_mk Try.underlying9 hs⟩⟩, by decide, by decide, by decide, by decide, by decide, ty_info (by kernel_rfl)⟩
theorem tyOk31 : TyOk Try.prog 31 { k := .func, size := 1, bytes := 8, zero := .nilFunc } :=
  ⟨⟨_, _, _, Try.underlying31⟩, by decide, by decide, by decide, by decide, by decide, ty_info (by kernel_rfl)⟩
theorem tyOk34 : TyOk Try.prog 34 { k := .func, size := 1, bytes := 8, zero := .nilFunc } :=
  ⟨⟨_, _, _, Try.underlying34⟩, by decide, by decide, by decide, by decide, by decide, ty_info (by kernel_rfl)⟩
theorem tyOk37 : TyOk Try.prog 37 { k := .func, size := 1, bytes := 8, zero := .nilFunc } :=
  ⟨⟨_, _, _, Try.underlying37⟩, by decide, by decide, by decide, by decide, by decide, ty_info (by kernel_rfl)⟩
theorem tyOk38 : TyOk Try.prog 38 { k := .func, size := 1, bytes := 8, zero := .nilFunc } :=
  ⟨⟨_, _, _, Try.underlying38⟩, by decide, by decide, by decide, by decide, by decide, ty_info (by kernel_rfl)⟩
theorem tyOk39 : TyOk Try.prog 39 { k := .func, size := 1, bytes := 8, zero := .nilFunc } :=
  ⟨⟨_, _, _, Try.underlying39⟩, by decide, by decide, by decide, by decide, by decide, ty_info (by kernel_rfl)⟩
theorem tyOk42 : TyOk Try.prog 42 { k := .func, size := 1, bytes := 8, zero := .nilFunc } :=
  ⟨⟨_, _, _, Try.underlying42⟩, by decide, by decide, by decide, by decide, by decide, ty_info (by kernel_rfl)⟩
theorem tyOk43 : TyOk Try.prog 43 { k := .func, size := 1, bytes := 8, zero := .nilFunc } :=
  ⟨⟨_, _, _, Try.underlying43⟩, by decide, by decide, by decide, by decide, by decide, ty_info (by kernel_rfl)⟩
theorem tyOk44 : TyOk Try.prog 44 { k := .func, size := 1, bytes := 8, zero := .nilFunc } :=
  ⟨⟨_, _, _, Try.underlying44⟩, by decide, by decide, by decide, by decide, by decide, ty_info (by kernel_rfl)⟩
theorem tyOk47 : TyOk Try.prog 47 { k := .func, size := 1, bytes := 8, zero := .nilFunc } :=
  ⟨⟨_, _, _, Try.underlying47⟩, by decide, by decide, by decide, by decide, by decide, ty_info (by kernel_rfl)⟩
theorem tyOk48 : TyOk Try.prog 48 { k := .func, size := 1, bytes := 8, zero := .nilFunc } :=
  ⟨⟨_, _, _, Try.underlying48⟩, by decide, by decide, by decide, by decide, by decide, ty_info (by kernel_rfl)⟩
theorem tyOk49 : TyOk Try.prog 49 { k := .ptr, size := 1, bytes := 8, zero := .pointer none } :=
  ⟨⟨_, Try.underlying49⟩, by decide, by decide, by decide, by decide, by decide, ty_info (by kernel_rfl)⟩
theorem tyOk53 : TyOk Try.prog 53 { k := .ifc, size := 1, bytes := 16, zero := .nilIface } :=
  ⟨⟨_, Try.underlying53⟩, by decide, by decide, by decide, by decide, by decide, ty_info (by kernel_rfl)⟩
theorem tyOk54 : TyOk Try.prog 54 { k := .ifc, size := 1, bytes := 16, zero := .nilIface } :=
  ⟨⟨_, Try.underlying54⟩, by decide, by decide, by decide, by decide, by decide, ty_info (by kernel_rfl)⟩
theorem tyOk56 : TyOk Try.prog 56 { k := .func, size := 1, bytes := 8, zero := .nilFunc } :=
  ⟨⟨_, _, _, Try.underlying56⟩, by decide, by decide, by decide, by decide, by decide, ty_info (by kernel_rfl)⟩
theorem tyOk57 : TyOk Try.prog 57 { k := .func, size := 1, bytes := 8, zero := .nilFunc } :=
  ⟨⟨_, _, _, Try.underlying57⟩, by decide, by decide, by decide, by decide, by decide, ty_info (by kernel_rfl)⟩
theorem tyOk58 : TyOk Try.prog 58 { k := .func, size := 1, bytes := 8, zero := .nilFunc } :=
  ⟨⟨_, _, _, Try.underlying58⟩, by decide, by decide, by decide, by decide, by decide, ty_info (by kernel_rfl)⟩
theorem tyOk63 : TyOk Try.prog 63 { k := .func, size := 1, bytes := 8, zero := .nilFunc } :=
  ⟨⟨_, _, _, Try.underlying63⟩, by decide, by decide, by decide, by decide, by decide, ty_info (by kernel_rfl)⟩
theorem tyOk64 : TyOk Try.prog 64 { k := .ptr, size := 1, bytes := 8, zero := .pointer none } :=
  ⟨⟨_, Try.underlying64⟩, by decide, by decide, by decide, by decide, by decide, ty_info (by kernel_rfl)⟩
theorem tyOk65 : TyOk Try.prog 65 { k := .func, size := 1, bytes := 8, zero := .nilFunc } :=
  ⟨⟨_, _, _, Try.underlying65⟩, by decide, by decide, by decide, by decide, by decide, ty_info (by kernel_rfl)⟩
theorem tyOk66 : TyOk Try.prog 66 { k := .func, size := 1, bytes := 8, zero := .nilFunc } :=
  ⟨⟨_, _, _, Try.underlying66⟩, by decide, by decide, by decide, by decide, by decide, ty_info (by kernel_rfl)⟩
theorem tyOk67 : TyOk Try.prog 67 { k := .func, size := 1, bytes := 8, zero := .nilFunc } :=
  ⟨⟨_, _, _, Try.underlying67⟩, by decide, by decide, by decide, by decide, by decide, ty_info (by kernel_rfl)⟩
theorem tyOk68 : TyOk Try.prog 68 { k := .func, size := 1, bytes := 8, zero := .nilFunc } :=
  ⟨⟨_, _, _, Try.underlying68⟩, by decide, by decide, by decide, by decide, by decide, ty_info (by kernel_rfl)⟩
theorem tyOk69 : TyOk Try.prog 69 { k := .func, size := 1, bytes := 8, zero := .nilFunc } :=
  ⟨⟨_, _, _, Try.underlying69⟩, by decide, by decide, by decide, by decide, by decide, ty_info (by kernel_rfl)⟩
theorem tyOk71 : TyOk Try.prog 71 { k := .func, size := 1, bytes := 8, zero := .nilFunc } :=
  ⟨⟨_, _, _, Try.underlying71⟩, by decide, by decide, by decide, by decide, by decide, ty_info (by kernel_rfl)⟩
theorem tyOk72 : TyOk Try.prog 72 { k := .ptr, size := 1, bytes := 8, zero := .pointer none } :=
  ⟨⟨_, Try.underlying72⟩, by decide, by decide, by decide, by decide, by decide, ty_info (by kernel_rfl)⟩
theorem tyOk75 : TyOk Try.prog 75 { k := .func, size := 1, bytes := 8, zero := .nilFunc } :=
  ⟨⟨_, _, _, Try.underlying75⟩, by decide, by decide, by decide, by decide, by decide, ty_info (by kernel_rfl)⟩
theorem tyOk76 : TyOk Try.prog 76 { k := .func, size := 1, bytes := 8, zero := .nilFunc } :=
  ⟨⟨_, _, _, Try.underlying76⟩, by decide, by decide, by decide, by decide, by decide, ty_info (by kernel_rfl)⟩
theorem tyOk78 : TyOk Try.prog 78 { k := .func, size := 1, bytes := 8, zero := .nilFunc } :=
  ⟨⟨_, _, _, Try.underlying78⟩, by decide, by decide, by decide, by decide, by decide, ty_info (by kernel_rfl)⟩
theorem tyOk79 : TyOk Try.prog 79 { k := .func, size := 1, bytes := 8, zero := .nilFunc } :=
  ⟨⟨_, _, _, Try.underlying79⟩, by decide, by decide, by decide, by decide, by decide, ty_info (by kernel_rfl)⟩
theorem tyOk80 : TyOk Try.prog 80 { k := .func, size := 1, bytes := 8, zero := .nilFunc } :=
  ⟨⟨_, _, _, Try.underlying80⟩, by decide, by decide, by decide, by decide, by decide, ty_info (by kernel_rfl)⟩
theorem tyOk81 : TyOk Try.prog 81 { k := .func, size := 1, bytes := 8, zero := .nilFunc } :=
  ⟨⟨_, _, _, Try.underlying81⟩, by decide, by decide, by decide, by decide, by decide, ty_info (by kernel_rfl)⟩
theorem tyOk82 : TyOk Try.prog 82 { k := .func, size := 1, bytes := 8, zero := .nilFunc } :=
  ⟨⟨_, _, _, Try.underlying82⟩, by decide, by decide, by decide, by decide, by decide, ty_info (by kernel_rfl)⟩
theorem tyOk84 : TyOk Try.prog 84 { k := .func, size := 1, bytes := 8, zero := .nilFunc } :=
  ⟨⟨_, _, _, Try.underlying84⟩, by decide, by decide, by decide, by decide, by decide, ty_info (by kernel_rfl)⟩
theorem tyOk85 : TyOk Try.prog 85 { k := .func, size := 1, bytes := 8, zero := .nilFunc } :=
  ⟨⟨_, _, _, Try.underlying85⟩, by decide, by decide, by decide, by decide, by decide, ty_info (by kernel_rfl)⟩
theorem tyOk86 : TyOk Try.prog 86 { k := .func, size := 1, bytes := 8, zero := .nilFunc } :=
  ⟨⟨_, _, _, Try.underlying86⟩, by decide, by decide, by decide, by decide, by decide, ty_info (by kernel_rfl)⟩
theorem tyOk87 : TyOk Try.prog 87 { k := .func, size := 1, bytes := 8, zero := .nilFunc } :=
  ⟨⟨_, _, _, Try.underlying87⟩, by decide, by decide, by decide, by decide, by decide, ty_info (by kernel_rfl)⟩
theorem tyOk88 : TyOk Try.prog 88 { k := .func, size := 1, bytes := 8, zero := .nilFunc } :=
  ⟨⟨_, _, _, Try.underlying88⟩, by decide, by decide, by decide, by decide, by decide, ty_info (by kernel_rfl)⟩
theorem tyOk89 : TyOk Try.prog 89 { k := .func, size := 1, bytes := 8, zero := .nilFunc } :=
  ⟨⟨_, _, _, Try.underlying89⟩, by decide, by decide, by decide, by decide, by decide, ty_info (by kernel_rfl)⟩
theorem tyOk93 : TyOk Try.prog 93 { k := .func, size := 1, bytes := 8, zero := .nilFunc } :=
  ⟨⟨_, _, _, Try.underlying93⟩, by decide, by decide, by decide, by decide, by decide, ty_info (by kernel_rfl)⟩
theorem tyOk99 : TyOk Try.prog 99 { k := .func, size := 1, bytes := 8, zero := .nilFunc } :=
  ⟨⟨_, _, _, Try.underlying99⟩, by decide, by decide, by decide, by decide, by decide, ty_info (by kernel_rfl)⟩
theorem tyOk102 : TyOk Try.prog 102 { k := .func, size := 1, bytes := 8, zero := .nilFunc } :=
  ⟨⟨_, _, _, Try.underlying102⟩, by decide, by decide, by decide, by decide, by decide, ty_info (by kernel_rfl)⟩
def TabOk (P : Program) : List (Nat × TyI) → Prop
  | [] => True
  | p :: r => TyOk P p.1 p.2 ∧ TabOk P r
theorem TabOk.mem {P : Program} : ∀ {l : List (Nat × TyI)}, TabOk P l → ∀ {p : Nat × TyI}, p ∈ l → TyOk P p.1 p.2
  | [], _, p, h => by cases h
  | q :: r, hl, p, h => by
    rcases List.mem_cons.1 h with rfl | h
    · exact hl.1
    · exact TabOk.mem hl.2 h
set_option maxHeartbeats 4000000 in
theorem tyTab_ok : TabOk Try.prog tyTab :=
  ⟨tyOk2, tyOk3, tyOk4, tyOk5, tyOk6, tyOk7, tyOk8, tyOk9, tyOk10, tyOk11, tyOk12, tyOk13, tyOk14, tyOk18, tyOk19, tyOk21, tyOk22, tyOk23, tyOk28, tyOk29, tyOk32, tyOk35, tyOk36, tyOk40, tyOk45, tyOk50, tyOk51, tyOk52, tyOk59, tyOk60, tyOk61, tyOk62, tyOk70, tyOk73, tyOk74, tyOk90, tyOk91, tyOk94, tyOk95, tyOk100, tyOk101, tyOk103, tyOk104, tyOk105, tyOk106, tyOk1, tyOk15, tyOk16, tyOk17, tyOk20, tyOk25, tyOk26, tyOk27, tyOk31, tyOk34, tyOk37, tyOk38, tyOk39, tyOk42, tyOk43, tyOk44, tyOk47, tyOk48, tyOk49, tyOk53, tyOk54, tyOk56, tyOk57, tyOk58, tyOk63, tyOk64, tyOk65, tyOk66, tyOk67, tyOk68, tyOk69, tyOk71, tyOk72, tyOk75, tyOk76, tyOk78, tyOk79, tyOk80, tyOk81, tyOk82, tyOk84, tyOk85, tyOk86, tyOk87, tyOk88, tyOk89, tyOk93, tyOk99, tyOk102, trivial⟩
theorem tyT_all (t : TypeId) : TyOk Try.prog t (tyT t) := by
  unfold tyT
  split
  · rename_i i h
    exact tyTab_ok.mem (findB_mem h)
  · trivial
/-- Struct types of plain fields. -/
def seTab : List Nat := [29, 36, 60]
def seB (t : TypeId) : Bool := elemB seTab t
def SeOk (P : Program) : List Nat → Prop
  | [] => True
  | t :: r => SOk P t ∧ SeOk P r
theorem SeOk.mem {P : Program} : ∀ {l : List Nat}, SeOk P l → ∀ {t : Nat}, elemB l t = true → SOk P t
  | [], _, t, h => by cases h
  | q :: r, hl, t, h => by
    unfold elemB at h
    split at h
    · rename_i e
      rw [Nat.eq_of_beq_eq_true e]
      exact hl.1
    · exact SeOk.mem hl.2 h
theorem seTab_ok : SeOk Try.prog seTab := ⟨⟨Try.stoodInHeld29, Try.eqGuardType29, by kernel_rfl⟩, ⟨Try.stoodInHeld36, Try.eqGuardType36, by kernel_rfl⟩, ⟨Try.stoodInHeld60, Try.eqGuardType60, by kernel_rfl⟩, trivial⟩
/-- What the program says of its types. -/
structure TyS (P : Program) : Prop where
  ty : ∀ t, TyOk P t (tyT t)
  se : ∀ t, seB t = true → SOk P t
theorem tyT_ok : TyS Try.prog := ⟨tyT_all, fun _ h => seTab_ok.mem h⟩
end Go.Proofs.Ytiiohopjkepkgaa
