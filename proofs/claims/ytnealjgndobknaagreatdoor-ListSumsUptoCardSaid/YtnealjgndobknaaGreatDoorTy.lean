/-
  The table of this program's types that the readings know, each entry proved. Written by a program.
-/
import Derived.Test.YtnealjgndobknaaGreatDoorN17
import Derived.Test.YtnealjgndobknaaGreatDoorProg
namespace Go.Proofs.YtnealjgndobknaaGreatDoor
open Go.RowKit
set_option maxRecDepth 100000

def tyTab : List (Nat × TyI) :=
  [(2, { k := .int .i64, size := 1, bytes := 8, zero := .int .i64 0 }),
   (3, { k := .int .i64, size := 1, bytes := 8, zero := .int .i64 0 }),
   (4, { k := .bool, size := 1, bytes := 1, zero := .bool false }),
   (5, { k := .int .u8, size := 1, bytes := 1, zero := .int .u8 0 }),
   (6, { k := .int .u8, size := 1, bytes := 1, zero := .int .u8 0 }),
   (7, { k := .struct [(2, 0), (3, 1), (4, 2), (6, 3)], size := 4, bytes := 24, zero := .agg #[.int .i64 0, .int .i64 0, .bool false, .int .u8 0] }),
   (8, { k := .struct [(2, 0), (3, 1), (4, 2), (6, 3)], size := 4, bytes := 24, zero := .agg #[.int .i64 0, .int .i64 0, .bool false, .int .u8 0] }),
   (9, { k := .str, size := 1, bytes := 16, zero := .string ⟨#[]⟩ }),
   (10, { k := .str, size := 1, bytes := 16, zero := .string ⟨#[]⟩ }),
   (11, { k := .str, size := 1, bytes := 16, zero := .string ⟨#[]⟩ }),
   (12, { k := .int .u64, size := 1, bytes := 8, zero := .int .u64 0 }),
   (13, { k := .struct [(9, 0), (12, 1)], size := 2, bytes := 24, zero := .agg #[.string ⟨#[]⟩, .int .u64 0] }),
   (14, { k := .struct [(9, 0), (12, 1)], size := 2, bytes := 24, zero := .agg #[.string ⟨#[]⟩, .int .u64 0] }),
   (21, { k := .int .i32, size := 1, bytes := 4, zero := .int .i32 0 }),
   (22, { k := .sl 31, size := 1, bytes := 24, zero := .slice none 0 0 }),
   (23, { k := .int .i64, size := 1, bytes := 8, zero := .int .i64 0 }),
   (29, { k := .sl 9, size := 1, bytes := 24, zero := .slice none 0 0 }),
   (30, { k := .struct [(3, 0), (4, 1), (3, 2), (9, 3), (22, 4), (29, 5)], size := 6, bytes := 88, zero := .agg #[.int .i64 0, .bool false, .int .i64 0, .string ⟨#[]⟩, .slice none 0 0, .slice none 0 0] }),
   (31, { k := .struct [(3, 0), (4, 1), (3, 2), (9, 3), (22, 4), (29, 5)], size := 6, bytes := 88, zero := .agg #[.int .i64 0, .bool false, .int .i64 0, .string ⟨#[]⟩, .slice none 0 0, .slice none 0 0] }),
   (35, { k := .sl 37, size := 1, bytes := 24, zero := .slice none 0 0 }),
   (36, { k := .struct [(3, 0), (9, 1), (31, 2), (35, 8)], size := 9, bytes := 136, zero := .agg #[.int .i64 0, .string ⟨#[]⟩, .int .i64 0, .bool false, .int .i64 0, .string ⟨#[]⟩, .slice none 0 0, .slice none 0 0, .slice none 0 0] }),
   (37, { k := .struct [(3, 0), (9, 1), (31, 2), (35, 8)], size := 9, bytes := 136, zero := .agg #[.int .i64 0, .string ⟨#[]⟩, .int .i64 0, .bool false, .int .i64 0, .string ⟨#[]⟩, .slice none 0 0, .slice none 0 0, .slice none 0 0] }),
   (41, { k := .sl 3, size := 1, bytes := 24, zero := .slice none 0 0 }),
   (48, { k := .int .u64, size := 1, bytes := 8, zero := .int .u64 0 }),
   (52, { k := .int .u64, size := 1, bytes := 8, zero := .int .u64 0 }),
   (64, { k := .struct [(37, 0)], size := 9, bytes := 136, zero := .agg #[.int .i64 0, .string ⟨#[]⟩, .int .i64 0, .bool false, .int .i64 0, .string ⟨#[]⟩, .slice none 0 0, .slice none 0 0, .slice none 0 0] }),
   (65, { k := .struct [(37, 0)], size := 9, bytes := 136, zero := .agg #[.int .i64 0, .string ⟨#[]⟩, .int .i64 0, .bool false, .int .i64 0, .string ⟨#[]⟩, .slice none 0 0, .slice none 0 0, .slice none 0 0] }),
   (68, { k := .sl 89, size := 1, bytes := 24, zero := .slice none 0 0 }),
   (88, { k := .struct [(9, 0), (3, 1)], size := 2, bytes := 24, zero := .agg #[.string ⟨#[]⟩, .int .i64 0] }),
   (89, { k := .struct [(9, 0), (3, 1)], size := 2, bytes := 24, zero := .agg #[.string ⟨#[]⟩, .int .i64 0] }),
   (114, { k := .int .i64, size := 1, bytes := 8, zero := .int .i64 0 }),
   (115, { k := .sl 5, size := 1, bytes := 24, zero := .slice none 0 0 }),
   (126, { k := .struct [(9, 0), (9, 1), (95, 2)], size := 3, bytes := 48, zero := .agg #[.string ⟨#[]⟩, .string ⟨#[]⟩, .nilIface] }),
   (127, { k := .struct [(9, 0), (9, 1), (95, 2)], size := 3, bytes := 48, zero := .agg #[.string ⟨#[]⟩, .string ⟨#[]⟩, .nilIface] }),
   (130, { k := .int .u32, size := 1, bytes := 4, zero := .int .u32 0 }),
   (134, { k := .struct [(5, 0), (5, 1)], size := 2, bytes := 2, zero := .agg #[.int .u8 0, .int .u8 0] }),
   (135, { k := .struct [(5, 0), (5, 1)], size := 2, bytes := 2, zero := .agg #[.int .u8 0, .int .u8 0] }),
   (136, { k := .arr 16 135, size := 32, bytes := 32, zero := .agg #[.int .u8 0, .int .u8 0, .int .u8 0, .int .u8 0, .int .u8 0, .int .u8 0, .int .u8 0, .int .u8 0, .int .u8 0, .int .u8 0, .int .u8 0, .int .u8 0, .int .u8 0, .int .u8 0, .int .u8 0, .int .u8 0, .int .u8 0, .int .u8 0, .int .u8 0, .int .u8 0, .int .u8 0, .int .u8 0, .int .u8 0, .int .u8 0, .int .u8 0, .int .u8 0, .int .u8 0, .int .u8 0, .int .u8 0, .int .u8 0, .int .u8 0, .int .u8 0] }),
   (141, { k := .struct [(9, 0)], size := 1, bytes := 16, zero := .agg #[.string ⟨#[]⟩] }),
   (142, { k := .struct [(9, 0)], size := 1, bytes := 16, zero := .agg #[.string ⟨#[]⟩] }),
   (144, { k := .arr 24 5, size := 24, bytes := 24, zero := .agg #[.int .u8 0, .int .u8 0, .int .u8 0, .int .u8 0, .int .u8 0, .int .u8 0, .int .u8 0, .int .u8 0, .int .u8 0, .int .u8 0, .int .u8 0, .int .u8 0, .int .u8 0, .int .u8 0, .int .u8 0, .int .u8 0, .int .u8 0, .int .u8 0, .int .u8 0, .int .u8 0, .int .u8 0, .int .u8 0, .int .u8 0, .int .u8 0] }),
   (149, { k := .arr 20 48, size := 20, bytes := 160, zero := .agg #[.int .u64 0, .int .u64 0, .int .u64 0, .int .u64 0, .int .u64 0, .int .u64 0, .int .u64 0, .int .u64 0, .int .u64 0, .int .u64 0, .int .u64 0, .int .u64 0, .int .u64 0, .int .u64 0, .int .u64 0, .int .u64 0, .int .u64 0, .int .u64 0, .int .u64 0, .int .u64 0] }),
   (153, { k := .arr 32 5, size := 32, bytes := 32, zero := .agg #[.int .u8 0, .int .u8 0, .int .u8 0, .int .u8 0, .int .u8 0, .int .u8 0, .int .u8 0, .int .u8 0, .int .u8 0, .int .u8 0, .int .u8 0, .int .u8 0, .int .u8 0, .int .u8 0, .int .u8 0, .int .u8 0, .int .u8 0, .int .u8 0, .int .u8 0, .int .u8 0, .int .u8 0, .int .u8 0, .int .u8 0, .int .u8 0, .int .u8 0, .int .u8 0, .int .u8 0, .int .u8 0, .int .u8 0, .int .u8 0, .int .u8 0, .int .u8 0] }),
   (162, { k := .int .u8, size := 1, bytes := 1, zero := .int .u8 0 }),
   (163, { k := .int .u8, size := 1, bytes := 1, zero := .int .u8 0 }),
   (165, { k := .int .i32, size := 1, bytes := 4, zero := .int .i32 0 }),
   (166, { k := .int .i32, size := 1, bytes := 4, zero := .int .i32 0 })]
def tyT (t : TypeId) : TyI := match findB tyTab t with | some i => i | none => { k := .other, size := 0, bytes := 0, zero := .bool false }
theorem ty_info {P : Program} {t : TypeId} {s b : Nat} {z : Value} (h : (P.info? t).map (fun i => (i.size, i.bytes, i.zero)) = some (s, b, some z)) : ∃ j, P.info? t = some j ∧ j.size = s ∧ j.bytes = b ∧ j.zero = some z := by
  cases hi : P.info? t with
  | none => rw [hi] at h; cases h
  | some j =>
    rw [hi] at h
    simp only [Option.map_some, Option.some.injEq, Prod.mk.injEq] at h
    exact ⟨j, rfl, h.1, h.2.1, h.2.2⟩
theorem ty_has {P : Program} {t : TypeId} (h : (P.info? t).map (fun i => i.size != 0) = some true) : ∃ i, P.info? t = some i ∧ i.size ≠ 0 := by
  cases hi : P.info? t with
  | none => rw [hi] at h; cases h
  | some j =>
    rw [hi] at h
    exact ⟨j, rfl, by simpa using h⟩
theorem tyOk2 : TyOk Tryz.prog 2 { k := .int .i64, size := 1, bytes := 8, zero := .int .i64 0 } :=
  ⟨Tryz.underlying2, by decide, by decide, by decide, by decide, by decide, ty_info (by kernel_rfl)⟩
theorem tyOk3 : TyOk Tryz.prog 3 { k := .int .i64, size := 1, bytes := 8, zero := .int .i64 0 } :=
  ⟨Tryz.underlying3, by decide, by decide, by decide, by decide, by decide, ty_info (by kernel_rfl)⟩
theorem tyOk4 : TyOk Tryz.prog 4 { k := .bool, size := 1, bytes := 1, zero := .bool false } :=
  ⟨Tryz.underlying4, by decide, by decide, by decide, by decide, by decide, ty_info (by kernel_rfl)⟩
theorem tyOk5 : TyOk Tryz.prog 5 { k := .int .u8, size := 1, bytes := 1, zero := .int .u8 0 } :=
  ⟨Tryz.underlying5, by decide, by decide, by decide, by decide, by decide, ty_info (by kernel_rfl)⟩
theorem tyOk6 : TyOk Tryz.prog 6 { k := .int .u8, size := 1, bytes := 1, zero := .int .u8 0 } :=
  ⟨Tryz.underlying6, by decide, by decide, by decide, by decide, by decide, ty_info (by kernel_rfl)⟩
theorem tyOk7 : TyOk Tryz.prog 7 { k := .struct [(2, 0), (3, 1), (4, 2), (6, 3)], size := 4, bytes := 24, zero := .agg #[.int .i64 0, .int .i64 0, .bool false, .int .u8 0] } :=
  ⟨⟨_, Tryz.underlying7, rfl, by
      intro F hF
      simp only [List.mem_cons, List.not_mem_nil, or_false] at hF
      rcases hF with rfl | rfl | rfl | rfl
      · exact ty_has (by kernel_rfl)
      · exact ty_has (by kernel_rfl)
      · exact ty_has (by kernel_rfl)
      · exact ty_has (by kernel_rfl)⟩, by decide, by decide, by decide, by decide, by decide, ty_info (by kernel_rfl)⟩
theorem tyOk8 : TyOk Tryz.prog 8 { k := .struct [(2, 0), (3, 1), (4, 2), (6, 3)], size := 4, bytes := 24, zero := .agg #[.int .i64 0, .int .i64 0, .bool false, .int .u8 0] } :=
  ⟨⟨_, Tryz.underlying8, rfl, by
      intro F hF
      simp only [List.mem_cons, List.not_mem_nil, or_false] at hF
      rcases hF with rfl | rfl | rfl | rfl
      · exact ty_has (by kernel_rfl)
      · exact ty_has (by kernel_rfl)
      · exact ty_has (by kernel_rfl)
      · exact ty_has (by kernel_rfl)⟩, by decide, by decide, by decide, by decide, by decide, ty_info (by kernel_rfl)⟩
theorem tyOk9 : TyOk Tryz.prog 9 { k := .str, size := 1, bytes := 16, zero := .string ⟨#[]⟩ } :=
  ⟨Tryz.underlying9, by decide, by decide, by decide, by decide, by decide, ty_info (by kernel_rfl)⟩
theorem tyOk10 : TyOk Tryz.prog 10 { k := .str, size := 1, bytes := 16, zero := .string ⟨#[]⟩ } :=
  ⟨Tryz.underlying10, by decide, by decide, by decide, by decide, by decide, ty_info (by kernel_rfl)⟩
theorem tyOk11 : TyOk Tryz.prog 11 { k := .str, size := 1, bytes := 16, zero := .string ⟨#[]⟩ } :=
  ⟨Tryz.underlying11, by decide, by decide, by decide, by decide, by decide, ty_info (by kernel_rfl)⟩
theorem tyOk12 : TyOk Tryz.prog 12 { k := .int .u64, size := 1, bytes := 8, zero := .int .u64 0 } :=
  ⟨Tryz.underlying12, by decide, by decide, by decide, by decide, by decide, ty_info (by kernel_rfl)⟩
theorem tyOk13 : TyOk Tryz.prog 13 { k := .struct [(9, 0), (12, 1)], size := 2, bytes := 24, zero := .agg #[.string ⟨#[]⟩, .int .u64 0] } :=
  ⟨⟨_, Tryz.underlying13, rfl, by
      intro F hF
      simp only [List.mem_cons, List.not_mem_nil, or_false] at hF
      rcases hF with rfl | rfl
      · exact ty_has (by kernel_rfl)
      · exact ty_has (by kernel_rfl)⟩, by decide, by decide, by decide, by decide, by decide, ty_info (by kernel_rfl)⟩
theorem tyOk14 : TyOk Tryz.prog 14 { k := .struct [(9, 0), (12, 1)], size := 2, bytes := 24, zero := .agg #[.string ⟨#[]⟩, .int .u64 0] } :=
  ⟨⟨_, Tryz.underlying14, rfl, by
      intro F hF
      simp only [List.mem_cons, List.not_mem_nil, or_false] at hF
      rcases hF with rfl | rfl
      · exact ty_has (by kernel_rfl)
      · exact ty_has (by kernel_rfl)⟩, by decide, by decide, by decide, by decide, by decide, ty_info (by kernel_rfl)⟩
theorem tyOk21 : TyOk Tryz.prog 21 { k := .int .i32, size := 1, bytes := 4, zero := .int .i32 0 } :=
  ⟨Tryz.underlying21, by decide, by decide, by decide, by decide, by decide, ty_info (by kernel_rfl)⟩
theorem tyOk22 : TyOk Tryz.prog 22 { k := .sl 31, size := 1, bytes := 24, zero := .slice none 0 0 } :=
  ⟨Tryz.underlying22, by decide, by decide, by decide, by decide, by decide, ty_info (by kernel_rfl)⟩
theorem tyOk23 : TyOk Tryz.prog 23 { k := .int .i64, size := 1, bytes := 8, zero := .int .i64 0 } :=
  ⟨Tryz.underlying23, by decide, by decide, by decide, by decide, by decide, ty_info (by kernel_rfl)⟩
theorem tyOk29 : TyOk Tryz.prog 29 { k := .sl 9, size := 1, bytes := 24, zero := .slice none 0 0 } :=
  ⟨Tryz.underlying29, by decide, by decide, by decide, by decide, by decide, ty_info (by kernel_rfl)⟩
theorem tyOk30 : TyOk Tryz.prog 30 { k := .struct [(3, 0), (4, 1), (3, 2), (9, 3), (22, 4), (29, 5)], size := 6, bytes := 88, zero := .agg #[.int .i64 0, .bool false, .int .i64 0, .string ⟨#[]⟩, .slice none 0 0, .slice none 0 0] } :=
  ⟨⟨_, Tryz.underlying30, rfl, by
      intro F hF
      simp only [List.mem_cons, List.not_mem_nil, or_false] at hF
      rcases hF with rfl | rfl | rfl | rfl | rfl | rfl
      · exact ty_has (by kernel_rfl)
      · exact ty_has (by kernel_rfl)
      · exact ty_has (by kernel_rfl)
      · exact ty_has (by kernel_rfl)
      · exact ty_has (by kernel_rfl)
      · exact ty_has (by kernel_rfl)⟩, by decide, by decide, by decide, by decide, by decide, ty_info (by kernel_rfl)⟩
theorem tyOk31 : TyOk Tryz.prog 31 { k := .struct [(3, 0), (4, 1), (3, 2), (9, 3), (22, 4), (29, 5)], size := 6, bytes := 88, zero := .agg #[.int .i64 0, .bool false, .int .i64 0, .string ⟨#[]⟩, .slice none 0 0, .slice none 0 0] } :=
  ⟨⟨_, Tryz.underlying31, rfl, by
      intro F hF
      simp only [List.mem_cons, List.not_mem_nil, or_false] at hF
      rcases hF with rfl | rfl | rfl | rfl | rfl | rfl
      · exact ty_has (by kernel_rfl)
      · exact ty_has (by kernel_rfl)
      · exact ty_has (by kernel_rfl)
      · exact ty_has (by kernel_rfl)
      · exact ty_has (by kernel_rfl)
      · exact ty_has (by kernel_rfl)⟩, by decide, by decide, by decide, by decide, by decide, ty_info (by kernel_rfl)⟩
theorem tyOk35 : TyOk Tryz.prog 35 { k := .sl 37, size := 1, bytes := 24, zero := .slice none 0 0 } :=
  ⟨Tryz.underlying35, by decide, by decide, by decide, by decide, by decide, ty_info (by kernel_rfl)⟩
theorem tyOk36 : TyOk Tryz.prog 36 { k := .struct [(3, 0), (9, 1), (31, 2), (35, 8)], size := 9, bytes := 136, zero := .agg #[.int .i64 0, .string ⟨#[]⟩, .int .i64 0, .bool false, .int .i64 0, .string ⟨#[]⟩, .slice none 0 0, .slice none 0 0, .slice none 0 0] } :=
  ⟨⟨_, Tryz.underlying36, rfl, by
      intro F hF
      simp only [List.mem_cons, List.not_mem_nil, or_false] at hF
      rcases hF with rfl | rfl | rfl | rfl
      · exact ty_has (by kernel_rfl)
      · exact ty_has (by kernel_rfl)
      · exact ty_has (by kernel_rfl)
      · exact ty_has (by kernel_rfl)⟩, by decide, by decide, by decide, by decide, by decide, ty_info (by kernel_rfl)⟩
theorem tyOk37 : TyOk Tryz.prog 37 { k := .struct [(3, 0), (9, 1), (31, 2), (35, 8)], size := 9, bytes := 136, zero := .agg #[.int .i64 0, .string ⟨#[]⟩, .int .i64 0, .bool false, .int .i64 0, .string ⟨#[]⟩, .slice none 0 0, .slice none 0 0, .slice none 0 0] } :=
  ⟨⟨_, Tryz.underlying37, rfl, by
      intro F hF
      simp only [List.mem_cons, List.not_mem_nil, or_false] at hF
      rcases hF with rfl | rfl | rfl | rfl
      · exact ty_has (by kernel_rfl)
      · exact ty_has (by kernel_rfl)
      · exact ty_has (by kernel_rfl)
      · exact ty_has (by kernel_rfl)⟩, by decide, by decide, by decide, by decide, by decide, ty_info (by kernel_rfl)⟩
theorem tyOk41 : TyOk Tryz.prog 41 { k := .sl 3, size := 1, bytes := 24, zero := .slice none 0 0 } :=
  ⟨Tryz.underlying41, by decide, by decide, by decide, by decide, by decide, ty_info (by kernel_rfl)⟩
theorem tyOk48 : TyOk Tryz.prog 48 { k := .int .u64, size := 1, bytes := 8, zero := .int .u64 0 } :=
  ⟨Tryz.underlying48, by decide, by decide, by decide, by decide, by decide, ty_info (by kernel_rfl)⟩
theorem tyOk52 : TyOk Tryz.prog 52 { k := .int .u64, size := 1, bytes := 8, zero := .int .u64 0 } :=
  ⟨Tryz.underlying52, by decide, by decide, by decide, by decide, by decide, ty_info (by kernel_rfl)⟩
theorem tyOk64 : TyOk Tryz.prog 64 { k := .struct [(37, 0)], size := 9, bytes := 136, zero := .agg #[.int .i64 0, .string ⟨#[]⟩, .int .i64 0, .bool false, .int .i64 0, .string ⟨#[]⟩, .slice none 0 0, .slice none 0 0, .slice none 0 0] } :=
  ⟨⟨_, Tryz.underlying64, rfl, by
      intro F hF
      simp only [List.mem_cons, List.not_mem_nil, or_false] at hF
      rcases hF with rfl
      · exact ty_has (by kernel_rfl)⟩, by decide, by decide, by decide, by decide, by decide, ty_info (by kernel_rfl)⟩
theorem tyOk65 : TyOk Tryz.prog 65 { k := .struct [(37, 0)], size := 9, bytes := 136, zero := .agg #[.int .i64 0, .string ⟨#[]⟩, .int .i64 0, .bool false, .int .i64 0, .string ⟨#[]⟩, .slice none 0 0, .slice none 0 0, .slice none 0 0] } :=
  ⟨⟨_, Tryz.underlying65, rfl, by
      intro F hF
      simp only [List.mem_cons, List.not_mem_nil, or_false] at hF
      rcases hF with rfl
      · exact ty_has (by kernel_rfl)⟩, by decide, by decide, by decide, by decide, by decide, ty_info (by kernel_rfl)⟩
theorem tyOk68 : TyOk Tryz.prog 68 { k := .sl 89, size := 1, bytes := 24, zero := .slice none 0 0 } :=
  ⟨Tryz.underlying68, by decide, by decide, by decide, by decide, by decide, ty_info (by kernel_rfl)⟩
theorem tyOk88 : TyOk Tryz.prog 88 { k := .struct [(9, 0), (3, 1)], size := 2, bytes := 24, zero := .agg #[.string ⟨#[]⟩, .int .i64 0] } :=
  ⟨⟨_, Tryz.underlying88, rfl, by
      intro F hF
      simp only [List.mem_cons, List.not_mem_nil, or_false] at hF
      rcases hF with rfl | rfl
      · exact ty_has (by kernel_rfl)
      · exact ty_has (by kernel_rfl)⟩, by decide, by decide, by decide, by decide, by decide, ty_info (by kernel_rfl)⟩
theorem tyOk89 : TyOk Tryz.prog 89 { k := .struct [(9, 0), (3, 1)], size := 2, bytes := 24, zero := .agg #[.string ⟨#[]⟩, .int .i64 0] } :=
  ⟨⟨_, Tryz.underlying89, rfl, by
      intro F hF
      simp only [List.mem_cons, List.not_mem_nil, or_false] at hF
      rcases hF with rfl | rfl
      · exact ty_has (by kernel_rfl)
      · exact ty_has (by kernel_rfl)⟩, by decide, by decide, by decide, by decide, by decide, ty_info (by kernel_rfl)⟩
theorem tyOk114 : TyOk Tryz.prog 114 { k := .int .i64, size := 1, bytes := 8, zero := .int .i64 0 } :=
  ⟨Tryz.underlying114, by decide, by decide, by decide, by decide, by decide, ty_info (by kernel_rfl)⟩
theorem tyOk115 : TyOk Tryz.prog 115 { k := .sl 5, size := 1, bytes := 24, zero := .slice none 0 0 } :=
  ⟨Tryz.underlying115, by decide, by decide, by decide, by decide, by decide, ty_info (by kernel_rfl)⟩
theorem tyOk126 : TyOk Tryz.prog 126 { k := .struct [(9, 0), (9, 1), (95, 2)], size := 3, bytes := 48, zero := .agg #[.string ⟨#[]⟩, .string ⟨#[]⟩, .nilIface] } :=
  ⟨⟨_, Tryz.underlying126, rfl, by
      intro F hF
      simp only [List.mem_cons, List.not_mem_nil, or_false] at hF
      rcases hF with rfl | rfl | rfl
      · exact ty_has (by kernel_rfl)
      · exact ty_has (by kernel_rfl)
      · exact ty_has (by kernel_rfl)⟩, by decide, by decide, by decide, by decide, by decide, ty_info (by kernel_rfl)⟩
theorem tyOk127 : TyOk Tryz.prog 127 { k := .struct [(9, 0), (9, 1), (95, 2)], size := 3, bytes := 48, zero := .agg #[.string ⟨#[]⟩, .string ⟨#[]⟩, .nilIface] } :=
  ⟨⟨_, Tryz.underlying127, rfl, by
      intro F hF
      simp only [List.mem_cons, List.not_mem_nil, or_false] at hF
      rcases hF with rfl | rfl | rfl
      · exact ty_has (by kernel_rfl)
      · exact ty_has (by kernel_rfl)
      · exact ty_has (by kernel_rfl)⟩, by decide, by decide, by decide, by decide, by decide, ty_info (by kernel_rfl)⟩
theorem tyOk130 : TyOk Tryz.prog 130 { k := .int .u32, size := 1, bytes := 4, zero := .int .u32 0 } :=
  ⟨Tryz.underlying130, by decide, by decide, by decide, by decide, by decide, ty_info (by kernel_rfl)⟩
theorem tyOk134 : TyOk Tryz.prog 134 { k := .struct [(5, 0), (5, 1)], size := 2, bytes := 2, zero := .agg #[.int .u8 0, .int .u8 0] } :=
  ⟨⟨_, Tryz.underlying134, rfl, by
      intro F hF
      simp only [List.mem_cons, List.not_mem_nil, or_false] at hF
      rcases hF with rfl | rfl
      · exact ty_has (by kernel_rfl)
      · exact ty_has (by kernel_rfl)⟩, by decide, by decide, by decide, by decide, by decide, ty_info (by kernel_rfl)⟩
theorem tyOk135 : TyOk Tryz.prog 135 { k := .struct [(5, 0), (5, 1)], size := 2, bytes := 2, zero := .agg #[.int .u8 0, .int .u8 0] } :=
  ⟨⟨_, Tryz.underlying135, rfl, by
      intro F hF
      simp only [List.mem_cons, List.not_mem_nil, or_false] at hF
      rcases hF with rfl | rfl
      · exact ty_has (by kernel_rfl)
      · exact ty_has (by kernel_rfl)⟩, by decide, by decide, by decide, by decide, by decide, ty_info (by kernel_rfl)⟩
theorem tyOk136 : TyOk Tryz.prog 136 { k := .arr 16 135, size := 32, bytes := 32, zero := .agg #[.int .u8 0, .int .u8 0, .int .u8 0, .int .u8 0, .int .u8 0, .int .u8 0, .int .u8 0, .int .u8 0, .int .u8 0, .int .u8 0, .int .u8 0, .int .u8 0, .int .u8 0, .int .u8 0, .int .u8 0, .int .u8 0, .int .u8 0, .int .u8 0, .int .u8 0, .int .u8 0, .int .u8 0, .int .u8 0, .int .u8 0, .int .u8 0, .int .u8 0, .int .u8 0, .int .u8 0, .int .u8 0, .int .u8 0, .int .u8 0, .int .u8 0, .int .u8 0] } :=
  ⟨Tryz.underlying136, by decide, by decide, by decide, by decide, by decide, ty_info (by kernel_rfl)⟩
theorem tyOk141 : TyOk Tryz.prog 141 { k := .struct [(9, 0)], size := 1, bytes := 16, zero := .agg #[.string ⟨#[]⟩] } :=
  ⟨⟨_, Tryz.underlying141, rfl, by
      intro F hF
      simp only [List.mem_cons, List.not_mem_nil, or_false] at hF
      rcases hF with rfl
      · exact ty_has (by kernel_rfl)⟩, by decide, by decide, by decide, by decide, by decide, ty_info (by kernel_rfl)⟩
theorem tyOk142 : TyOk Tryz.prog 142 { k := .struct [(9, 0)], size := 1, bytes := 16, zero := .agg #[.string ⟨#[]⟩] } :=
  ⟨⟨_, Tryz.underlying142, rfl, by
      intro F hF
      simp only [List.mem_cons, List.not_mem_nil, or_false] at hF
      rcases hF with rfl
      · exact ty_has (by kernel_rfl)⟩, by decide, by decide, by decide, by decide, by decide, ty_info (by kernel_rfl)⟩
theorem tyOk144 : TyOk Tryz.prog 144 { k := .arr 24 5, size := 24, bytes := 24, zero := .agg #[.int .u8 0, .int .u8 0, .int .u8 0, .int .u8 0, .int .u8 0, .int .u8 0, .int .u8 0, .int .u8 0, .int .u8 0, .int .u8 0, .int .u8 0, .int .u8 0, .int .u8 0, .int .u8 0, .int .u8 0, .int .u8 0, .int .u8 0, .int .u8 0, .int .u8 0, .int .u8 0, .int .u8 0, .int .u8 0, .int .u8 0, .int .u8 0] } :=
  ⟨Tryz.underlying144, by decide, by decide, by decide, by decide, by decide, ty_info (by kernel_rfl)⟩
theorem tyOk149 : TyOk Tryz.prog 149 { k := .arr 20 48, size := 20, bytes := 160, zero := .agg #[.int .u64 0, .int .u64 0, .int .u64 0, .int .u64 0, .int .u64 0, .int .u64 0, .int .u64 0, .int .u64 0, .int .u64 0, .int .u64 0, .int .u64 0, .int .u64 0, .int .u64 0, .int .u64 0, .int .u64 0, .int .u64 0, .int .u64 0, .int .u64 0, .int .u64 0, .int .u64 0] } :=
  ⟨Tryz.underlying149, by decide, by decide, by decide, by decide, by decide, ty_info (by kernel_rfl)⟩
theorem tyOk153 : TyOk Tryz.prog 153 { k := .arr 32 5, size := 32, bytes := 32, zero := .agg #[.int .u8 0, .int .u8 0, .int .u8 0, .int .u8 0, .int .u8 0, .int .u8 0, .int .u8 0, .int .u8 0, .int .u8 0, .int .u8 0, .int .u8 0, .int .u8 0, .int .u8 0, .int .u8 0, .int .u8 0, .int .u8 0, .int .u8 0, .int .u8 0, .int .u8 0, .int .u8 0, .int .u8 0, .int .u8 0, .int .u8 0, .int .u8 0, .int .u8 0, .int .u8 0, .int .u8 0, .int .u8 0, .int .u8 0, .int .u8 0, .int .u8 0, .int .u8 0] } :=
  ⟨Tryz.underlying153, by decide, by decide, by decide, by decide, by decide, ty_info (by kernel_rfl)⟩
theorem tyOk162 : TyOk Tryz.prog 162 { k := .int .u8, size := 1, bytes := 1, zero := .int .u8 0 } :=
  ⟨Tryz.underlying162, by decide, by decide, by decide, by decide, by decide, ty_info (by kernel_rfl)⟩
theorem tyOk163 : TyOk Tryz.prog 163 { k := .int .u8, size := 1, bytes := 1, zero := .int .u8 0 } :=
  ⟨Tryz.underlying163, by decide, by decide, by decide, by decide, by decide, ty_info (by kernel_rfl)⟩
theorem tyOk165 : TyOk Tryz.prog 165 { k := .int .i32, size := 1, bytes := 4, zero := .int .i32 0 } :=
  ⟨Tryz.underlying165, by decide, by decide, by decide, by decide, by decide, ty_info (by kernel_rfl)⟩
theorem tyOk166 : TyOk Tryz.prog 166 { k := .int .i32, size := 1, bytes := 4, zero := .int .i32 0 } :=
  ⟨Tryz.underlying166, by decide, by decide, by decide, by decide, by decide, ty_info (by kernel_rfl)⟩
theorem tyT_ok (t : TypeId) : TyOk Tryz.prog t (tyT t) := by
  unfold tyT
  split
  · rename_i i h
    have h := findB_mem h
    unfold tyTab at h
    rcases List.mem_cons.1 h with h1 | h
    · injection h1 with h1 h2; subst h1 h2; exact tyOk2
    rcases List.mem_cons.1 h with h1 | h
    · injection h1 with h1 h2; subst h1 h2; exact tyOk3
    rcases List.mem_cons.1 h with h1 | h
    · injection h1 with h1 h2; subst h1 h2; exact tyOk4
    rcases List.mem_cons.1 h with h1 | h
    · injection h1 with h1 h2; subst h1 h2; exact tyOk5
    rcases List.mem_cons.1 h with h1 | h
    · injection h1 with h1 h2; subst h1 h2; exact tyOk6
    rcases List.mem_cons.1 h with h1 | h
    · injection h1 with h1 h2; subst h1 h2; exact tyOk7
    rcases List.mem_cons.1 h with h1 | h
    · injection h1 with h1 h2; subst h1 h2; exact tyOk8
    rcases List.mem_cons.1 h with h1 | h
    · injection h1 with h1 h2; subst h1 h2; exact tyOk9
    rcases List.mem_cons.1 h with h1 | h
    · injection h1 with h1 h2; subst h1 h2; exact tyOk10
    rcases List.mem_cons.1 h with h1 | h
    · injection h1 with h1 h2; subst h1 h2; exact tyOk11
    rcases List.mem_cons.1 h with h1 | h
    · injection h1 with h1 h2; subst h1 h2; exact tyOk12
    rcases List.mem_cons.1 h with h1 | h
    · injection h1 with h1 h2; subst h1 h2; exact tyOk13
    rcases List.mem_cons.1 h with h1 | h
    · injection h1 with h1 h2; subst h1 h2; exact tyOk14
    rcases List.mem_cons.1 h with h1 | h
    · injection h1 with h1 h2; subst h1 h2; exact tyOk21
    rcases List.mem_cons.1 h with h1 | h
    · injection h1 with h1 h2; subst h1 h2; exact tyOk22
    rcases List.mem_cons.1 h with h1 | h
    · injection h1 with h1 h2; subst h1 h2; exact tyOk23
    rcases List.mem_cons.1 h with h1 | h
    · injection h1 with h1 h2; subst h1 h2; exact tyOk29
    rcases List.mem_cons.1 h with h1 | h
    · injection h1 with h1 h2; subst h1 h2; exact tyOk30
    rcases List.mem_cons.1 h with h1 | h
    · injection h1 with h1 h2; subst h1 h2; exact tyOk31
    rcases List.mem_cons.1 h with h1 | h
    · injection h1 with h1 h2; subst h1 h2; exact tyOk35
    rcases List.mem_cons.1 h with h1 | h
    · injection h1 with h1 h2; subst h1 h2; exact tyOk36
    rcases List.mem_cons.1 h with h1 | h
    · injection h1 with h1 h2; subst h1 h2; exact tyOk37
    rcases List.mem_cons.1 h with h1 | h
    · injection h1 with h1 h2; subst h1 h2; exact tyOk41
    rcases List.mem_cons.1 h with h1 | h
    · injection h1 with h1 h2; subst h1 h2; exact tyOk48
    rcases List.mem_cons.1 h with h1 | h
    · injection h1 with h1 h2; subst h1 h2; exact tyOk52
    rcases List.mem_cons.1 h with h1 | h
    · injection h1 with h1 h2; subst h1 h2; exact tyOk64
    rcases List.mem_cons.1 h with h1 | h
    · injection h1 with h1 h2; subst h1 h2; exact tyOk65
    rcases List.mem_cons.1 h with h1 | h
    · injection h1 with h1 h2; subst h1 h2; exact tyOk68
    rcases List.mem_cons.1 h with h1 | h
    · injection h1 with h1 h2; subst h1 h2; exact tyOk88
    rcases List.mem_cons.1 h with h1 | h
    · injection h1 with h1 h2; subst h1 h2; exact tyOk89
    rcases List.mem_cons.1 h with h1 | h
    · injection h1 with h1 h2; subst h1 h2; exact tyOk114
    rcases List.mem_cons.1 h with h1 | h
    · injection h1 with h1 h2; subst h1 h2; exact tyOk115
    rcases List.mem_cons.1 h with h1 | h
    · injection h1 with h1 h2; subst h1 h2; exact tyOk126
    rcases List.mem_cons.1 h with h1 | h
    · injection h1 with h1 h2; subst h1 h2; exact tyOk127
    rcases List.mem_cons.1 h with h1 | h
    · injection h1 with h1 h2; subst h1 h2; exact tyOk130
    rcases List.mem_cons.1 h with h1 | h
    · injection h1 with h1 h2; subst h1 h2; exact tyOk134
    rcases List.mem_cons.1 h with h1 | h
    · injection h1 with h1 h2; subst h1 h2; exact tyOk135
    rcases List.mem_cons.1 h with h1 | h
    · injection h1 with h1 h2; subst h1 h2; exact tyOk136
    rcases List.mem_cons.1 h with h1 | h
    · injection h1 with h1 h2; subst h1 h2; exact tyOk141
    rcases List.mem_cons.1 h with h1 | h
    · injection h1 with h1 h2; subst h1 h2; exact tyOk142
    rcases List.mem_cons.1 h with h1 | h
    · injection h1 with h1 h2; subst h1 h2; exact tyOk144
    rcases List.mem_cons.1 h with h1 | h
    · injection h1 with h1 h2; subst h1 h2; exact tyOk149
    rcases List.mem_cons.1 h with h1 | h
    · injection h1 with h1 h2; subst h1 h2; exact tyOk153
    rcases List.mem_cons.1 h with h1 | h
    · injection h1 with h1 h2; subst h1 h2; exact tyOk162
    rcases List.mem_cons.1 h with h1 | h
    · injection h1 with h1 h2; subst h1 h2; exact tyOk163
    rcases List.mem_cons.1 h with h1 | h
    · injection h1 with h1 h2; subst h1 h2; exact tyOk165
    rcases List.mem_cons.1 h with h1 | h
    · injection h1 with h1 h2; subst h1 h2; exact tyOk166
    cases h
  · trivial
end Go.Proofs.YtnealjgndobknaaGreatDoor
