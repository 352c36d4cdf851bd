/-
  The table of this program's types that the readings know, each entry proved. Written by a program.
-/
import Derived.Test.YtehmjlgkhhjogaaGreatDoorN17
import Derived.Test.YtehmjlgkhhjogaaGreatDoorProg
namespace Go.Proofs.YtehmjlgkhhjogaaGreatDoor
open Go.RowKit
set_option maxRecDepth 100000

def tyTab : List (Nat × TyI) :=
  [(2, { k := .int .i64, size := 1, bytes := 8, zero := .int .i64 0 }),
   (3, { k := .int .i64, size := 1, bytes := 8, zero := .int .i64 0 }),
   (4, { k := .bool, size := 1, bytes := 1, zero := .bool false }),
   (5, { k := .int .u8, size := 1, bytes := 1, zero := .int .u8 0 }),
   (6, { k := .int .u8, size := 1, bytes := 1, zero := .int .u8 0 }),
   (7, { k := .struct [(2, 0), (3, 1), (4, 2), (6, 3)], size := 4, bytes := 24, zero := .agg #[.int .i64 0, .int .i64 0, .bool false, .int .u8 0] }),
   (8, { k := .struct [(2, 0), (3, 1), (4, 2), (6, 3)], size := 4, bytes := 24, zero := .agg #[.int .i64 0, .int .i64 0, .bool false, .int .u8 0] }),
   (9, { k := .str, size := 1, bytes := 16, zero := .string ⟨#[]⟩ }),
   (10, { k := .str, size := 1, bytes := 16, zero := .string ⟨#[]⟩ }),
   (11, { k := .str, size := 1, bytes := 16, zero := .string ⟨#[]⟩ }),
   (12, { k := .int .u64, size := 1, bytes := 8, zero := .int .u64 0 }),
   (13, { k := .struct [(9, 0), (12, 1)], size := 2, bytes := 24, zero := .agg #[.string ⟨#[]⟩, .int .u64 0] }),
   (14, { k := .struct [(9, 0), (12, 1)], size := 2, bytes := 24, zero := .agg #[.string ⟨#[]⟩, .int .u64 0] }),
   (21, { k := .int .i32, size := 1, bytes := 4, zero := .int .i32 0 }),
   (22, { k := .sl 25, size := 1, bytes := 24, zero := .slice none 0 0 }),
   (23, { k := .sl 9, size := 1, bytes := 24, zero := .slice none 0 0 }),
   (24, { k := .struct [(3, 0), (4, 1), (3, 2), (9, 3), (22, 4), (23, 5)], size := 6, bytes := 88, zero := .agg #[.int .i64 0, .bool false, .int .i64 0, .string ⟨#[]⟩, .slice none 0 0, .slice none 0 0] }),
   (25, { k := .struct [(3, 0), (4, 1), (3, 2), (9, 3), (22, 4), (23, 5)], size := 6, bytes := 88, zero := .agg #[.int .i64 0, .bool false, .int .i64 0, .string ⟨#[]⟩, .slice none 0 0, .slice none 0 0] }),
   (26, { k := .int .i64, size := 1, bytes := 8, zero := .int .i64 0 }),
   (34, { k := .sl 52, size := 1, bytes := 24, zero := .slice none 0 0 }),
   (51, { k := .struct [(9, 0), (3, 1), (4, 2)], size := 3, bytes := 32, zero := .agg #[.string ⟨#[]⟩, .int .i64 0, .bool false] }),
   (52, { k := .struct [(9, 0), (3, 1), (4, 2)], size := 3, bytes := 32, zero := .agg #[.string ⟨#[]⟩, .int .i64 0, .bool false] }),
   (80, { k := .sl 3, size := 1, bytes := 24, zero := .slice none 0 0 }),
   (81, { k := .int .u64, size := 1, bytes := 8, zero := .int .u64 0 }),
   (89, { k := .int .i64, size := 1, bytes := 8, zero := .int .i64 0 }),
   (90, { k := .sl 5, size := 1, bytes := 24, zero := .slice none 0 0 }),
   (108, { k := .int .u64, size := 1, bytes := 8, zero := .int .u64 0 }),
   (112, { k := .struct [(9, 0), (9, 1), (54, 2)], size := 3, bytes := 48, zero := .agg #[.string ⟨#[]⟩, .string ⟨#[]⟩, .nilIface] }),
   (113, { k := .struct [(9, 0), (9, 1), (54, 2)], size := 3, bytes := 48, zero := .agg #[.string ⟨#[]⟩, .string ⟨#[]⟩, .nilIface] }),
   (123, { k := .struct [(9, 0)], size := 1, bytes := 16, zero := .agg #[.string ⟨#[]⟩] }),
   (124, { k := .struct [(9, 0)], size := 1, bytes := 16, zero := .agg #[.string ⟨#[]⟩] }),
   (127, { k := .struct [(5, 0), (5, 1)], size := 2, bytes := 2, zero := .agg #[.int .u8 0, .int .u8 0] }),
   (128, { k := .struct [(5, 0), (5, 1)], size := 2, bytes := 2, zero := .agg #[.int .u8 0, .int .u8 0] }),
   (129, { k := .arr 16 128, size := 32, bytes := 32, zero := .agg #[.int .u8 0, .int .u8 0, .int .u8 0, .int .u8 0, .int .u8 0, .int .u8 0, .int .u8 0, .int .u8 0, .int .u8 0, .int .u8 0, .int .u8 0, .int .u8 0, .int .u8 0, .int .u8 0, .int .u8 0, .int .u8 0, .int .u8 0, .int .u8 0, .int .u8 0, .int .u8 0, .int .u8 0, .int .u8 0, .int .u8 0, .int .u8 0, .int .u8 0, .int .u8 0, .int .u8 0, .int .u8 0, .int .u8 0, .int .u8 0, .int .u8 0, .int .u8 0] }),
   (130, { k := .int .u32, size := 1, bytes := 4, zero := .int .u32 0 }),
   (135, { k := .arr 24 5, size := 24, bytes := 24, zero := .agg #[.int .u8 0, .int .u8 0, .int .u8 0, .int .u8 0, .int .u8 0, .int .u8 0, .int .u8 0, .int .u8 0, .int .u8 0, .int .u8 0, .int .u8 0, .int .u8 0, .int .u8 0, .int .u8 0, .int .u8 0, .int .u8 0, .int .u8 0, .int .u8 0, .int .u8 0, .int .u8 0, .int .u8 0, .int .u8 0, .int .u8 0, .int .u8 0] }),
   (141, { k := .arr 20 108, size := 20, bytes := 160, zero := .agg #[.int .u64 0, .int .u64 0, .int .u64 0, .int .u64 0, .int .u64 0, .int .u64 0, .int .u64 0, .int .u64 0, .int .u64 0, .int .u64 0, .int .u64 0, .int .u64 0, .int .u64 0, .int .u64 0, .int .u64 0, .int .u64 0, .int .u64 0, .int .u64 0, .int .u64 0, .int .u64 0] }),
   (145, { k := .arr 32 5, size := 32, bytes := 32, zero := .agg #[.int .u8 0, .int .u8 0, .int .u8 0, .int .u8 0, .int .u8 0, .int .u8 0, .int .u8 0, .int .u8 0, .int .u8 0, .int .u8 0, .int .u8 0, .int .u8 0, .int .u8 0, .int .u8 0, .int .u8 0, .int .u8 0, .int .u8 0, .int .u8 0, .int .u8 0, .int .u8 0, .int .u8 0, .int .u8 0, .int .u8 0, .int .u8 0, .int .u8 0, .int .u8 0, .int .u8 0, .int .u8 0, .int .u8 0, .int .u8 0, .int .u8 0, .int .u8 0] }),
   (154, { k := .int .u8, size := 1, bytes := 1, zero := .int .u8 0 }),
   (155, { k := .int .u8, size := 1, bytes := 1, zero := .int .u8 0 }),
   (157, { k := .int .i32, size := 1, bytes := 4, zero := .int .i32 0 }),
   (158, { k := .int .i32, size := 1, bytes := 4, zero := .int .i32 0 })]
def tyT (t : TypeId) : TyI := match findB tyTab t with | some i => i | none => { k := .other, size := 0, bytes := 0, zero := .bool false }
theorem ty_info {P : Program} {t : TypeId} {s b : Nat} {z : Value} (h : (P.info? t).map (fun i => (i.size, i.bytes, i.zero)) = some (s, b, some z)) : ∃ j, P.info? t = some j ∧ j.size = s ∧ j.bytes = b ∧ j.zero = some z := by
  cases hi : P.info? t with
  | none => rw [hi] at h; cases h
  | some j =>
    rw [hi] at h
    simp only [Option.map_some, Option.some.injEq, Prod.mk.injEq] at h
    exact ⟨j, rfl, h.1, h.2.1, h.2.2⟩
theorem ty_has {P : Program} {t : TypeId} (h : (P.info? t).map (fun i => i.size != 0) = some true) : ∃ i, P.info? t = some i ∧ i.size ≠ 0 := by
  cases hi : P.info? t with
  | none => rw [hi] at h; cases h
  | some j =>
    rw [hi] at h
    exact ⟨j, rfl, by simpa using h⟩
theorem tyOk2 : TyOk Tryz.prog 2 { k := .int .i64, size := 1, bytes := 8, zero := .int .i64 0 } :=
  ⟨Tryz.underlying2, by decide, by decide, by decide, by decide, by decide, ty_info (by kernel_rfl)⟩
theorem tyOk3 : TyOk Tryz.prog 3 { k := .int .i64, size := 1, bytes := 8, zero := .int .i64 0 } :=
  ⟨Tryz.underlying3, by decide, by decide, by decide, by decide, by decide, ty_info (by kernel_rfl)⟩
theorem tyOk4 : TyOk Tryz.prog 4 { k := .bool, size := 1, bytes := 1, zero := .bool false } :=
  ⟨Tryz.underlying4, by decide, by decide, by decide, by decide, by decide, ty_info (by kernel_rfl)⟩
theorem tyOk5 : TyOk Tryz.prog 5 { k := .int .u8, size := 1, bytes := 1, zero := .int .u8 0 } :=
  ⟨Tryz.underlying5, by decide, by decide, by decide, by decide, by decide, ty_info (by kernel_rfl)⟩
theorem tyOk6 : TyOk Tryz.prog 6 { k := .int .u8, size := 1, bytes := 1, zero := .int .u8 0 } :=
  ⟨Tryz.underlying6, by decide, by decide, by decide, by decide, by decide, ty_info (by kernel_rfl)⟩
theorem tyOk7 : TyOk Tryz.prog 7 { k := .struct [(2, 0), (3, 1), (4, 2), (6, 3)], size := 4, bytes := 24, zero := .agg #[.int .i64 0, .int .i64 0, .bool false, .int .u8 0] } :=
  ⟨⟨_, Tryz.underlying7, rfl, by
      intro F hF
      simp only [List.mem_cons, List.not_mem_nil, or_false] at hF
      rcases hF with rfl | rfl | rfl | rfl
      · exact ty_has (by kernel_rfl)
      · exact ty_has (by kernel_rfl)
      · exact ty_has (by kernel_rfl)
      · exact ty_has (by kernel_rfl)⟩, by decide, by decide, by decide, by decide, by decide, ty_info (by kernel_rfl)⟩
theorem tyOk8 : TyOk Tryz.prog 8 { k := .struct [(2, 0), (3, 1), (4, 2), (6, 3)], size := 4, bytes := 24, zero := .agg #[.int .i64 0, .int .i64 0, .bool false, .int .u8 0] } :=
  ⟨⟨_, Tryz.underlying8, rfl, by
      intro F hF
      simp only [List.mem_cons, List.not_mem_nil, or_false] at hF
      rcases hF with rfl | rfl | rfl | rfl
      · exact ty_has (by kernel_rfl)
      · exact ty_has (by kernel_rfl)
      · exact ty_has (by kernel_rfl)
      · exact ty_has (by kernel_rfl)⟩, by decide, by decide, by decide, by decide, by decide, ty_info (by kernel_rfl)⟩
theorem tyOk9 : TyOk Tryz.prog 9 { k := .str, size := 1, bytes := 16, zero := .string ⟨#[]⟩ } :=
  ⟨Tryz.underlying9, by decide, by decide, by decide, by decide, by decide, ty_info (by kernel_rfl)⟩
theorem tyOk10 : TyOk Tryz.prog 10 { k := .str, size := 1, bytes := 16, zero := .string ⟨#[]⟩ } :=
  ⟨Tryz.underlying10, by decide, by decide, by decide, by decide, by decide, ty_info (by kernel_rfl)⟩
theorem tyOk11 : TyOk Tryz.prog 11 { k := .str, size := 1, bytes := 16, zero := .string ⟨#[]⟩ } :=
  ⟨Tryz.underlying11, by decide, by decide, by decide, by decide, by decide, ty_info (by kernel_rfl)⟩
theorem tyOk12 : TyOk Tryz.prog 12 { k := .int .u64, size := 1, bytes := 8, zero := .int .u64 0 } :=
  ⟨Tryz.underlying12, by decide, by decide, by decide, by decide, by decide, ty_info (by kernel_rfl)⟩
theorem tyOk13 : TyOk Tryz.prog 13 { k := .struct [(9, 0), (12, 1)], size := 2, bytes := 24, zero := .agg #[.string ⟨#[]⟩, .int .u64 0] } :=
  ⟨⟨_, Tryz.underlying13, rfl, by
      intro F hF
      simp only [List.mem_cons, List.not_mem_nil, or_false] at hF
      rcases hF with rfl | rfl
      · exact ty_has (by kernel_rfl)
      · exact ty_has (by kernel_rfl)⟩, by decide, by decide, by decide, by decide, by decide, ty_info (by kernel_rfl)⟩
theorem tyOk14 : TyOk Tryz.prog 14 { k := .struct [(9, 0), (12, 1)], size := 2, bytes := 24, zero := .agg #[.string ⟨#[]⟩, .int .u64 0] } :=
  ⟨⟨_, Tryz.underlying14, rfl, by
      intro F hF
      simp only [List.mem_cons, List.not_mem_nil, or_false] at hF
      rcases hF with rfl | rfl
      · exact ty_has (by kernel_rfl)
      · exact ty_has (by kernel_rfl)⟩, by decide, by decide, by decide, by decide, by decide, ty_info (by kernel_rfl)⟩
theorem tyOk21 : TyOk Tryz.prog 21 { k := .int .i32, size := 1, bytes := 4, zero := .int .i32 0 } :=
  ⟨Tryz.underlying21, by decide, by decide, by decide, by decide, by decide, ty_info (by kernel_rfl)⟩
theorem tyOk22 : TyOk Tryz.prog 22 { k := .sl 25, size := 1, bytes := 24, zero := .slice none 0 0 } :=
  ⟨Tryz.underlying22, by decide, by decide, by decide, by decide, by decide, ty_info (by kernel_rfl)⟩
theorem tyOk23 : TyOk Tryz.prog 23 { k := .sl 9, size := 1, bytes := 24, zero := .slice none 0 0 } :=
  ⟨Tryz.underlying23, by decide, by decide, by decide, by decide, by decide, ty_info (by kernel_rfl)⟩
theorem tyOk24 : TyOk Tryz.prog 24 { k := .struct [(3, 0), (4, 1), (3, 2), (9, 3), (22, 4), (23, 5)], size := 6, bytes := 88, zero := .agg #[.int .i64 0, .bool false, .int .i64 0, .string ⟨#[]⟩, .slice none 0 0, .slice none 0 0] } :=
  ⟨⟨_, Tryz.underlying24, rfl, by
      intro F hF
      simp only [List.mem_cons, List.not_mem_nil, or_false] at hF
      rcases hF with rfl | rfl | rfl | rfl | rfl | rfl
      · exact ty_has (by kernel_rfl)
      · exact ty_has (by kernel_rfl)
      · exact ty_has (by kernel_rfl)
      · exact ty_has (by kernel_rfl)
      · exact ty_has (by kernel_rfl)
      · exact ty_has (by kernel_rfl)⟩, by decide, by decide, by decide, by decide, by decide, ty_info (by kernel_rfl)⟩
theorem tyOk25 : TyOk Tryz.prog 25 { k := .struct [(3, 0), (4, 1), (3, 2), (9, 3), (22, 4), (23, 5)], size := 6, bytes := 88, zero := .agg #[.int .i64 0, .bool false, .int .i64 0, .string ⟨#[]⟩, .slice none 0 0, .slice none 0 0] } :=
  ⟨⟨_, Tryz.underlying25, rfl, by
      intro F hF
      simp only [List.mem_cons, List.not_mem_nil, or_false] at hF
      rcases hF with rfl | rfl | rfl | rfl | rfl | rfl
      · exact ty_has (by kernel_rfl)
      · exact ty_has (by kernel_rfl)
      · exact ty_has (by kernel_rfl)
      · exact ty_has (by kernel_rfl)
      · exact ty_has (by kernel_rfl)
      · exact ty_has (by kernel_rfl)⟩, by decide, by decide, by decide, by decide, by decide, ty_info (by kernel_rfl)⟩
theorem tyOk26 : TyOk Tryz.prog 26 { k := .int .i64, size := 1, bytes := 8, zero := .int .i64 0 } :=
  ⟨Tryz.underlying26, by decide, by decide, by decide, by decide, by decide, ty_info (by kernel_rfl)⟩
theorem tyOk34 : TyOk Tryz.prog 34 { k := .sl 52, size := 1, bytes := 24, zero := .slice none 0 0 } :=
  ⟨Tryz.underlying34, by decide, by decide, by decide, by decide, by decide, ty_info (by kernel_rfl)⟩
theorem tyOk51 : TyOk Tryz.prog 51 { k := .struct [(9, 0), (3, 1), (4, 2)], size := 3, bytes := 32, zero := .agg #[.string ⟨#[]⟩, .int .i64 0, .bool false] } :=
  ⟨⟨_, Tryz.underlying51, rfl, by
      intro F hF
      simp only [List.mem_cons, List.not_mem_nil, or_false] at hF
      rcases hF with rfl | rfl | rfl
      · exact ty_has (by kernel_rfl)
      · exact ty_has (by kernel_rfl)
      · exact ty_has (by kernel_rfl)⟩, by decide, by decide, by decide, by decide, by decide, ty_info (by kernel_rfl)⟩
theorem tyOk52 : TyOk Tryz.prog 52 { k := .struct [(9, 0), (3, 1), (4, 2)], size := 3, bytes := 32, zero := .agg #[.string ⟨#[]⟩, .int .i64 0, .bool false] } :=
  ⟨⟨_, Tryz.underlying52, rfl, by
      intro F hF
      simp only [List.mem_cons, List.not_mem_nil, or_false] at hF
      rcases hF with rfl | rfl | rfl
      · exact ty_has (by kernel_rfl)
      · exact ty_has (by kernel_rfl)
      · exact ty_has (by kernel_rfl)⟩, by decide, by decide, by decide, by decide, by decide, ty_info (by kernel_rfl)⟩
theorem tyOk80 : TyOk Tryz.prog 80 { k := .sl 3, size := 1, bytes := 24, zero := .slice none 0 0 } :=
  ⟨Tryz.underlying80, by decide, by decide, by decide, by decide, by decide, ty_info (by kernel_rfl)⟩
theorem tyOk81 : TyOk Tryz.prog 81 { k := .int .u64, size := 1, bytes := 8, zero := .int .u64 0 } :=
  ⟨Tryz.underlying81, by decide, by decide, by decide, by decide, by decide, ty_info (by kernel_rfl)⟩
theorem tyOk89 : TyOk Tryz.prog 89 { k := .int .i64, size := 1, bytes := 8, zero := .int .i64 0 } :=
  ⟨Tryz.underlying89, by decide, by decide, by decide, by decide, by decide, ty_info (by kernel_rfl)⟩
theorem tyOk90 : TyOk Tryz.prog 90 { k := .sl 5, size := 1, bytes := 24, zero := .slice none 0 0 } :=
  ⟨Tryz.underlying90, by decide, by decide, by decide, by decide, by decide, ty_info (by kernel_rfl)⟩
theorem tyOk108 : TyOk Tryz.prog 108 { k := .int .u64, size := 1, bytes := 8, zero := .int .u64 0 } :=
  ⟨Tryz.underlying108, by decide, by decide, by decide, by decide, by decide, ty_info (by kernel_rfl)⟩
theorem tyOk112 : TyOk Tryz.prog 112 { k := .struct [(9, 0), (9, 1), (54, 2)], size := 3, bytes := 48, zero := .agg #[.string ⟨#[]⟩, .string ⟨#[]⟩, .nilIface] } :=
  ⟨⟨_, Tryz.underlying112, rfl, by
      intro F hF
      simp only [List.mem_cons, List.not_mem_nil, or_false] at hF
      rcases hF with rfl | rfl | rfl
      · exact ty_has (by kernel_rfl)
      · exact ty_has (by kernel_rfl)
      · exact ty_has (by kernel_rfl)⟩, by decide, by decide, by decide, by decide, by decide, ty_info (by kernel_rfl)⟩
theorem tyOk113 : TyOk Tryz.prog 113 { k := .struct [(9, 0), (9, 1), (54, 2)], size := 3, bytes := 48, zero := .agg #[.string ⟨#[]⟩, .string ⟨#[]⟩, .nilIface] } :=
  ⟨⟨_, Tryz.underlying113, rfl, by
      intro F hF
      simp only [List.mem_cons, List.not_mem_nil, or_false] at hF
      rcases hF with rfl | rfl | rfl
      · exact ty_has (by kernel_rfl)
      · exact ty_has (by kernel_rfl)
      · exact ty_has (by kernel_rfl)⟩, by decide, by decide, by decide, by decide, by decide, ty_info (by kernel_rfl)⟩
theorem tyOk123 : TyOk Tryz.prog 123 { k := .struct [(9, 0)], size := 1, bytes := 16, zero := .agg #[.string ⟨#[]⟩] } :=
  ⟨⟨_, Tryz.underlying123, rfl, by
      intro F hF
      simp only [List.mem_cons, List.not_mem_nil, or_false] at hF
      rcases hF with rfl
      · exact ty_has (by kernel_rfl)⟩, by decide, by decide, by decide, by decide, by decide, ty_info (by kernel_rfl)⟩
theorem tyOk124 : TyOk Tryz.prog 124 { k := .struct [(9, 0)], size := 1, bytes := 16, zero := .agg #[.string ⟨#[]⟩] } :=
  ⟨⟨_, Tryz.underlying124, rfl, by
      intro F hF
      simp only [List.mem_cons, List.not_mem_nil, or_false] at hF
      rcases hF with rfl
      · exact ty_has (by kernel_rfl)⟩, by decide, by decide, by decide, by decide, by decide, ty_info (by kernel_rfl)⟩
theorem tyOk127 : TyOk Tryz.prog 127 { k := .struct [(5, 0), (5, 1)], size := 2, bytes := 2, zero := .agg #[.int .u8 0, .int .u8 0] } :=
  ⟨⟨_, Tryz.underlying127, rfl, by
      intro F hF
      simp only [List.mem_cons, List.not_mem_nil, or_false] at hF
      rcases hF with rfl | rfl
      · exact ty_has (by kernel_rfl)
      · exact ty_has (by kernel_rfl)⟩, by decide, by decide, by decide, by decide, by decide, ty_info (by kernel_rfl)⟩
theorem tyOk128 : TyOk Tryz.prog 128 { k := .struct [(5, 0), (5, 1)], size := 2, bytes := 2, zero := .agg #[.int .u8 0, .int .u8 0] } :=
  ⟨⟨_, Tryz.underlying128, rfl, by
      intro F hF
      simp only [List.mem_cons, List.not_mem_nil, or_false] at hF
      rcases hF with rfl | rfl
      · exact ty_has (by kernel_rfl)
      · exact ty_has (by kernel_rfl)⟩, by decide, by decide, by decide, by decide, by decide, ty_info (by kernel_rfl)⟩
theorem tyOk129 : TyOk Tryz.prog 129 { k := .arr 16 128, size := 32, bytes := 32, zero := .agg #[.int .u8 0, .int .u8 0, .int .u8 0, .int .u8 0, .int .u8 0, .int .u8 0, .int .u8 0, .int .u8 0, .int .u8 0, .int .u8 0, .int .u8 0, .int .u8 0, .int .u8 0, .int .u8 0, .int .u8 0, .int .u8 0, .int .u8 0, .int .u8 0, .int .u8 0, .int .u8 0, .int .u8 0, .int .u8 0, .int .u8 0, .int .u8 0, .int .u8 0, .int .u8 0, .int .u8 0, .int .u8 0, .int .u8 0, .int .u8 0, .int .u8 0, .int .u8 0] } :=
  ⟨Tryz.underlying129, by decide, by decide, by decide, by decide, by decide, ty_info (by kernel_rfl)⟩
theorem tyOk130 : TyOk Tryz.prog 130 { k := .int .u32, size := 1, bytes := 4, zero := .int .u32 0 } :=
  ⟨Tryz.underlying130, by decide, by decide, by decide, by decide, by decide, ty_info (by kernel_rfl)⟩
theorem tyOk135 : TyOk Tryz.prog 135 { k := .arr 24 5, size := 24, bytes := 24, zero := .agg #[.int .u8 0, .int .u8 0, .int .u8 0, .int .u8 0, .int .u8 0, .int .u8 0, .int .u8 0, .int .u8 0, .int .u8 0, .int .u8 0, .int .u8 0, .int .u8 0, .int .u8 0, .int .u8 0, .int .u8 0, .int .u8 0, .int .u8 0, .int .u8 0, .int .u8 0, .int .u8 0, .int .u8 0, .int .u8 0, .int .u8 0, .int .u8 0] } :=
  ⟨Tryz.underlying135, by decide, by decide, by decide, by decide, by decide, ty_info (by kernel_rfl)⟩
theorem tyOk141 : TyOk Tryz.prog 141 { k := .arr 20 108, size := 20, bytes := 160, zero := .agg #[.int .u64 0, .int .u64 0, .int .u64 0, .int .u64 0, .int .u64 0, .int .u64 0, .int .u64 0, .int .u64 0, .int .u64 0, .int .u64 0, .int .u64 0, .int .u64 0, .int .u64 0, .int .u64 0, .int .u64 0, .int .u64 0, .int .u64 0, .int .u64 0, .int .u64 0, .int .u64 0] } :=
  ⟨Tryz.underlying141, by decide, by decide, by decide, by decide, by decide, ty_info (by kernel_rfl)⟩
theorem tyOk145 : TyOk Tryz.prog 145 { k := .arr 32 5, size := 32, bytes := 32, zero := .agg #[.int .u8 0, .int .u8 0, .int .u8 0, .int .u8 0, .int .u8 0, .int .u8 0, .int .u8 0, .int .u8 0, .int .u8 0, .int .u8 0, .int .u8 0, .int .u8 0, .int .u8 0, .int .u8 0, .int .u8 0, .int .u8 0, .int .u8 0, .int .u8 0, .int .u8 0, .int .u8 0, .int .u8 0, .int .u8 0, .int .u8 0, .int .u8 0, .int .u8 0, .int .u8 0, .int .u8 0, .int .u8 0, .int .u8 0, .int .u8 0, .int .u8 0, .int .u8 0] } :=
  ⟨Tryz.underlying145, by decide, by decide, by decide, by decide, by decide, ty_info (by kernel_rfl)⟩
theorem tyOk154 : TyOk Tryz.prog 154 { k := .int .u8, size := 1, bytes := 1, zero := .int .u8 0 } :=
  ⟨Tryz.underlying154, by decide, by decide, by decide, by decide, by decide, ty_info (by kernel_rfl)⟩
theorem tyOk155 : TyOk Tryz.prog 155 { k := .int .u8, size := 1, bytes := 1, zero := .int .u8 0 } :=
  ⟨Tryz.underlying155, by decide, by decide, by decide, by decide, by decide, ty_info (by kernel_rfl)⟩
theorem tyOk157 : TyOk Tryz.prog 157 { k := .int .i32, size := 1, bytes := 4, zero := .int .i32 0 } :=
  ⟨Tryz.underlying157, by decide, by decide, by decide, by decide, by decide, ty_info (by kernel_rfl)⟩
theorem tyOk158 : TyOk Tryz.prog 158 { k := .int .i32, size := 1, bytes := 4, zero := .int .i32 0 } :=
  ⟨Tryz.underlying158, by decide, by decide, by decide, by decide, by decide, ty_info (by kernel_rfl)⟩
theorem tyT_ok (t : TypeId) : TyOk Tryz.prog t (tyT t) := by
  unfold tyT
  split
  · rename_i i h
    have h := findB_mem h
    unfold tyTab at h
    rcases List.mem_cons.1 h with h1 | h
    · injection h1 with h1 h2; subst h1 h2; exact tyOk2
    rcases List.mem_cons.1 h with h1 | h
    · injection h1 with h1 h2; subst h1 h2; exact tyOk3
    rcases List.mem_cons.1 h with h1 | h
    · injection h1 with h1 h2; subst h1 h2; exact tyOk4
    rcases List.mem_cons.1 h with h1 | h
    · injection h1 with h1 h2; subst h1 h2; exact tyOk5
    rcases List.mem_cons.1 h with h1 | h
    · injection h1 with h1 h2; subst h1 h2; exact tyOk6
    rcases List.mem_cons.1 h with h1 | h
    · injection h1 with h1 h2; subst h1 h2; exact tyOk7
    rcases List.mem_cons.1 h with h1 | h
    · injection h1 with h1 h2; subst h1 h2; exact tyOk8
    rcases List.mem_cons.1 h with h1 | h
    · injection h1 with h1 h2; subst h1 h2; exact tyOk9
    rcases List.mem_cons.1 h with h1 | h
    · injection h1 with h1 h2; subst h1 h2; exact tyOk10
    rcases List.mem_cons.1 h with h1 | h
    · injection h1 with h1 h2; subst h1 h2; exact tyOk11
    rcases List.mem_cons.1 h with h1 | h
    · injection h1 with h1 h2; subst h1 h2; exact tyOk12
    rcases List.mem_cons.1 h with h1 | h
    · injection h1 with h1 h2; subst h1 h2; exact tyOk13
    rcases List.mem_cons.1 h with h1 | h
    · injection h1 with h1 h2; subst h1 h2; exact tyOk14
    rcases List.mem_cons.1 h with h1 | h
    · injection h1 with h1 h2; subst h1 h2; exact tyOk21
    rcases List.mem_cons.1 h with h1 | h
    · injection h1 with h1 h2; subst h1 h2; exact tyOk22
    rcases List.mem_cons.1 h with h1 | h
    · injection h1 with h1 h2; subst h1 h2; exact tyOk23
    rcases List.mem_cons.1 h with h1 | h
    · injection h1 with h1 h2; subst h1 h2; exact tyOk24
    rcases List.mem_cons.1 h with h1 | h
    · injection h1 with h1 h2; subst h1 h2; exact tyOk25
    rcases List.mem_cons.1 h with h1 | h
    · injection h1 with h1 h2; subst h1 h2; exact tyOk26
    rcases List.mem_cons.1 h with h1 | h
    · injection h1 with h1 h2; subst h1 h2; exact tyOk34
    rcases List.mem_cons.1 h with h1 | h
    · injection h1 with h1 h2; subst h1 h2; exact tyOk51
    rcases List.mem_cons.1 h with h1 | h
    · injection h1 with h1 h2; subst h1 h2; exact tyOk52
    rcases List.mem_cons.1 h with h1 | h
    · injection h1 with h1 h2; subst h1 h2; exact tyOk80
    rcases List.mem_cons.1 h with h1 | h
    · injection h1 with h1 h2; subst h1 h2; exact tyOk81
    rcases List.mem_cons.1 h with h1 | h
    · injection h1 with h1 h2; subst h1 h2; exact tyOk89
    rcases List.mem_cons.1 h with h1 | h
    · injection h1 with h1 h2; subst h1 h2; exact tyOk90
    rcases List.mem_cons.1 h with h1 | h
    · injection h1 with h1 h2; subst h1 h2; exact tyOk108
    rcases List.mem_cons.1 h with h1 | h
    · injection h1 with h1 h2; subst h1 h2; exact tyOk112
    rcases List.mem_cons.1 h with h1 | h
    · injection h1 with h1 h2; subst h1 h2; exact tyOk113
    rcases List.mem_cons.1 h with h1 | h
    · injection h1 with h1 h2; subst h1 h2; exact tyOk123
    rcases List.mem_cons.1 h with h1 | h
    · injection h1 with h1 h2; subst h1 h2; exact tyOk124
    rcases List.mem_cons.1 h with h1 | h
    · injection h1 with h1 h2; subst h1 h2; exact tyOk127
    rcases List.mem_cons.1 h with h1 | h
    · injection h1 with h1 h2; subst h1 h2; exact tyOk128
    rcases List.mem_cons.1 h with h1 | h
    · injection h1 with h1 h2; subst h1 h2; exact tyOk129
    rcases List.mem_cons.1 h with h1 | h
    · injection h1 with h1 h2; subst h1 h2; exact tyOk130
    rcases List.mem_cons.1 h with h1 | h
    · injection h1 with h1 h2; subst h1 h2; exact tyOk135
    rcases List.mem_cons.1 h with h1 | h
    · injection h1 with h1 h2; subst h1 h2; exact tyOk141
    rcases List.mem_cons.1 h with h1 | h
    · injection h1 with h1 h2; subst h1 h2; exact tyOk145
    rcases List.mem_cons.1 h with h1 | h
    · injection h1 with h1 h2; subst h1 h2; exact tyOk154
    rcases List.mem_cons.1 h with h1 | h
    · injection h1 with h1 h2; subst h1 h2; exact tyOk155
    rcases List.mem_cons.1 h with h1 | h
    · injection h1 with h1 h2; subst h1 h2; exact tyOk157
    rcases List.mem_cons.1 h with h1 | h
    · injection h1 with h1 h2; subst h1 h2; exact tyOk158
    cases h
  · trivial
end Go.Proofs.YtehmjlgkhhjogaaGreatDoor
