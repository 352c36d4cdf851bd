/-
  The table of this program's types that the readings know, each entry proved. Written by a program.
-/
import Derived.Test.YtfbelaifhgnnlaaDoorE17
import Derived.Test.YtfbelaifhgnnlaaDoorProg
namespace Go.Proofs.YtfbelaifhgnnlaaDoor
open Go.RowKit
set_option maxRecDepth 100000

def tyTab : List (Nat × TyI) :=
  [(2, { k := .int .i64, size := 1, bytes := 8, zero := .int .i64 0 }),
   (3, { k := .int .i64, size := 1, bytes := 8, zero := .int .i64 0 }),
   (4, { k := .bool, size := 1, bytes := 1, zero := .bool false }),
   (5, { k := .int .u8, size := 1, bytes := 1, zero := .int .u8 0 }),
   (6, { k := .int .u8, size := 1, bytes := 1, zero := .int .u8 0 }),
   (7, { k := .struct [(2, 0), (3, 1), (4, 2), (6, 3)], size := 4, bytes := 24, zero := .agg #[.int .i64 0, .int .i64 0, .bool false, .int .u8 0] }),
   (8, { k := .struct [(2, 0), (3, 1), (4, 2), (6, 3)], size := 4, bytes := 24, zero := .agg #[.int .i64 0, .int .i64 0, .bool false, .int .u8 0] }),
   (9, { k := .str, size := 1, bytes := 16, zero := .string ⟨#[]⟩ }),
   (10, { k := .str, size := 1, bytes := 16, zero := .string ⟨#[]⟩ }),
   (11, { k := .str, size := 1, bytes := 16, zero := .string ⟨#[]⟩ }),
   (12, { k := .int .u64, size := 1, bytes := 8, zero := .int .u64 0 }),
   (13, { k := .struct [(9, 0), (12, 1)], size := 2, bytes := 24, zero := .agg #[.string ⟨#[]⟩, .int .u64 0] }),
   (14, { k := .struct [(9, 0), (12, 1)], size := 2, bytes := 24, zero := .agg #[.string ⟨#[]⟩, .int .u64 0] }),
   (21, { k := .int .i32, size := 1, bytes := 4, zero := .int .i32 0 }),
   (22, { k := .int .i64, size := 1, bytes := 8, zero := .int .i64 0 }),
   (26, { k := .sl 9, size := 1, bytes := 24, zero := .slice none 0 0 }),
   (27, { k := .sl 3, size := 1, bytes := 24, zero := .slice none 0 0 }),
   (28, { k := .struct [(9, 0), (26, 1), (27, 2)], size := 3, bytes := 64, zero := .agg #[.string ⟨#[]⟩, .slice none 0 0, .slice none 0 0] }),
   (29, { k := .struct [(9, 0), (26, 1), (27, 2)], size := 3, bytes := 64, zero := .agg #[.string ⟨#[]⟩, .slice none 0 0, .slice none 0 0] }),
   (35, { k := .sl 37, size := 1, bytes := 24, zero := .slice none 0 0 }),
   (36, { k := .struct [(3, 0), (4, 1), (3, 2), (9, 3), (35, 4), (26, 5)], size := 6, bytes := 88, zero := .agg #[.int .i64 0, .bool false, .int .i64 0, .string ⟨#[]⟩, .slice none 0 0, .slice none 0 0] }),
   (37, { k := .struct [(3, 0), (4, 1), (3, 2), (9, 3), (35, 4), (26, 5)], size := 6, bytes := 88, zero := .agg #[.int .i64 0, .bool false, .int .i64 0, .string ⟨#[]⟩, .slice none 0 0, .slice none 0 0] }),
   (44, { k := .arr 3 3, size := 3, bytes := 24, zero := .agg #[.int .i64 0, .int .i64 0, .int .i64 0] }),
   (71, { k := .int .i64, size := 1, bytes := 8, zero := .int .i64 0 }),
   (79, { k := .sl 5, size := 1, bytes := 24, zero := .slice none 0 0 }),
   (94, { k := .int .i64, size := 1, bytes := 8, zero := .int .i64 0 }),
   (105, { k := .arr 24 5, size := 24, bytes := 24, zero := .agg #[.int .u8 0, .int .u8 0, .int .u8 0, .int .u8 0, .int .u8 0, .int .u8 0, .int .u8 0, .int .u8 0, .int .u8 0, .int .u8 0, .int .u8 0, .int .u8 0, .int .u8 0, .int .u8 0, .int .u8 0, .int .u8 0, .int .u8 0, .int .u8 0, .int .u8 0, .int .u8 0, .int .u8 0, .int .u8 0, .int .u8 0, .int .u8 0] }),
   (106, { k := .int .u64, size := 1, bytes := 8, zero := .int .u64 0 }),
   (122, { k := .int .u64, size := 1, bytes := 8, zero := .int .u64 0 }),
   (124, { k := .struct [(9, 0), (9, 1), (48, 2)], size := 3, bytes := 48, zero := .agg #[.string ⟨#[]⟩, .string ⟨#[]⟩, .nilIface] }),
   (125, { k := .struct [(9, 0), (9, 1), (48, 2)], size := 3, bytes := 48, zero := .agg #[.string ⟨#[]⟩, .string ⟨#[]⟩, .nilIface] }),
   (129, { k := .arr 20 106, size := 20, bytes := 160, zero := .agg #[.int .u64 0, .int .u64 0, .int .u64 0, .int .u64 0, .int .u64 0, .int .u64 0, .int .u64 0, .int .u64 0, .int .u64 0, .int .u64 0, .int .u64 0, .int .u64 0, .int .u64 0, .int .u64 0, .int .u64 0, .int .u64 0, .int .u64 0, .int .u64 0, .int .u64 0, .int .u64 0] }),
   (130, { k := .int .u32, size := 1, bytes := 4, zero := .int .u32 0 }),
   (143, { k := .struct [(9, 0)], size := 1, bytes := 16, zero := .agg #[.string ⟨#[]⟩] }),
   (144, { k := .struct [(9, 0)], size := 1, bytes := 16, zero := .agg #[.string ⟨#[]⟩] }),
   (149, { k := .int .i64, size := 1, bytes := 8, zero := .int .i64 0 }),
   (156, { k := .arr 32 5, size := 32, bytes := 32, zero := .agg #[.int .u8 0, .int .u8 0, .int .u8 0, .int .u8 0, .int .u8 0, .int .u8 0, .int .u8 0, .int .u8 0, .int .u8 0, .int .u8 0, .int .u8 0, .int .u8 0, .int .u8 0, .int .u8 0, .int .u8 0, .int .u8 0, .int .u8 0, .int .u8 0, .int .u8 0, .int .u8 0, .int .u8 0, .int .u8 0, .int .u8 0, .int .u8 0, .int .u8 0, .int .u8 0, .int .u8 0, .int .u8 0, .int .u8 0, .int .u8 0, .int .u8 0, .int .u8 0] }),
   (158, { k := .int .u64, size := 1, bytes := 8, zero := .int .u64 0 }),
   (165, { k := .struct [(5, 0), (5, 1)], size := 2, bytes := 2, zero := .agg #[.int .u8 0, .int .u8 0] }),
   (166, { k := .struct [(5, 0), (5, 1)], size := 2, bytes := 2, zero := .agg #[.int .u8 0, .int .u8 0] }),
   (167, { k := .arr 16 166, size := 32, bytes := 32, zero := .agg #[.int .u8 0, .int .u8 0, .int .u8 0, .int .u8 0, .int .u8 0, .int .u8 0, .int .u8 0, .int .u8 0, .int .u8 0, .int .u8 0, .int .u8 0, .int .u8 0, .int .u8 0, .int .u8 0, .int .u8 0, .int .u8 0, .int .u8 0, .int .u8 0, .int .u8 0, .int .u8 0, .int .u8 0, .int .u8 0, .int .u8 0, .int .u8 0, .int .u8 0, .int .u8 0, .int .u8 0, .int .u8 0, .int .u8 0, .int .u8 0, .int .u8 0, .int .u8 0] }),
   (179, { k := .int .u8, size := 1, bytes := 1, zero := .int .u8 0 }),
   (180, { k := .int .u8, size := 1, bytes := 1, zero := .int .u8 0 }),
   (182, { k := .int .i32, size := 1, bytes := 4, zero := .int .i32 0 }),
   (183, { k := .int .i32, size := 1, bytes := 4, zero := .int .i32 0 })]
def tyT (t : TypeId) : TyI := match findB tyTab t with | some i => i | none => { k := .other, size := 0, bytes := 0, zero := .bool false }
theorem ty_info {P : Program} {t : TypeId} {s b : Nat} {z : Value} (h : (P.info? t).map (fun i => (i.size, i.bytes, i.zero)) = some (s, b, some z)) : ∃ j, P.info? t = some j ∧ j.size = s ∧ j.bytes = b ∧ j.zero = some z := by
  cases hi : P.info? t with
  | none => rw [hi] at h; cases h
  | some j =>
    rw [hi] at h
    simp only [Option.map_some, Option.some.injEq, Prod.mk.injEq] at h
    exact ⟨j, rfl, h.1, h.2.1, h.2.2⟩
theorem ty_has {P : Program} {t : TypeId} (h : (P.info? t).map (fun i => i.size != 0) = some true) : ∃ i, P.info? t = some i ∧ i.size ≠ 0 := by
  cases hi : P.info? t with
  | none => rw [hi] at h; cases h
  | some j =>
    rw [hi] at h
    exact ⟨j, rfl, by simpa using h⟩
theorem tyOk2 : TyOk Tryd.prog 2 { k := .int .i64, size := 1, bytes := 8, zero := .int .i64 0 } :=
  ⟨Tryd.underlying2, by decide, by decide, by decide, by decide, by decide, ty_info (by kernel_rfl)⟩
theorem tyOk3 : TyOk Tryd.prog 3 { k := .int .i64, size := 1, bytes := 8, zero := .int .i64 0 } :=
  ⟨Tryd.underlying3, by decide, by decide, by decide, by decide, by decide, ty_info (by kernel_rfl)⟩
theorem tyOk4 : TyOk Tryd.prog 4 { k := .bool, size := 1, bytes := 1, zero := .bool false } :=
  ⟨Tryd.underlying4, by decide, by decide, by decide, by decide, by decide, ty_info (by kernel_rfl)⟩
theorem tyOk5 : TyOk Tryd.prog 5 { k := .int .u8, size := 1, bytes := 1, zero := .int .u8 0 } :=
  ⟨Tryd.underlying5, by decide, by decide, by decide, by decide, by decide, ty_info (by kernel_rfl)⟩
theorem tyOk6 : TyOk Tryd.prog 6 { k := .int .u8, size := 1, bytes := 1, zero := .int .u8 0 } :=
  ⟨Tryd.underlying6, by decide, by decide, by decide, by decide, by decide, ty_info (by kernel_rfl)⟩
theorem tyOk7 : TyOk Tryd.prog 7 { k := .struct [(2, 0), (3, 1), (4, 2), (6, 3)], size := 4, bytes := 24, zero := .agg #[.int .i64 0, .int .i64 0, .bool false, .int .u8 0] } :=
  ⟨⟨_, Tryd.underlying7, rfl, by
      intro F hF
      simp only [List.mem_cons, List.not_mem_nil, or_false] at hF
      rcases hF with rfl | rfl | rfl | rfl
      · exact ty_has (by kernel_rfl)
      · exact ty_has (by kernel_rfl)
      · exact ty_has (by kernel_rfl)
      · exact ty_has (by kernel_rfl)⟩, by decide, by decide, by decide, by decide, by decide, ty_info (by kernel_rfl)⟩
theorem tyOk8 : TyOk Tryd.prog 8 { k := .struct [(2, 0), (3, 1), (4, 2), (6, 3)], size := 4, bytes := 24, zero := .agg #[.int .i64 0, .int .i64 0, .bool false, .int .u8 0] } :=
  ⟨⟨_, Tryd.underlying8, rfl, by
      intro F hF
      simp only [List.mem_cons, List.not_mem_nil, or_false] at hF
      rcases hF with rfl | rfl | rfl | rfl
      · exact ty_has (by kernel_rfl)
      · exact ty_has (by kernel_rfl)
      · exact ty_has (by kernel_rfl)
      · exact ty_has (by kernel_rfl)⟩, by decide, by decide, by decide, by decide, by decide, ty_info (by kernel_rfl)⟩
theorem tyOk9 : TyOk Tryd.prog 9 { k := .str, size := 1, bytes := 16, zero := .string ⟨#[]⟩ } :=
  ⟨Tryd.underlying9, by decide, by decide, by decide, by decide, by decide, ty_info (by kernel_rfl)⟩
theorem tyOk10 : TyOk Tryd.prog 10 { k := .str, size := 1, bytes := 16, zero := .string ⟨#[]⟩ } :=
  ⟨Tryd.underlying10, by decide, by decide, by decide, by decide, by decide, ty_info (by kernel_rfl)⟩
theorem tyOk11 : TyOk Tryd.prog 11 { k := .str, size := 1, bytes := 16, zero := .string ⟨#[]⟩ } :=
  ⟨Tryd.underlying11, by decide, by decide, by decide, by decide, by decide, ty_info (by kernel_rfl)⟩
theorem tyOk12 : TyOk Tryd.prog 12 { k := .int .u64, size := 1, bytes := 8, zero := .int .u64 0 } :=
  ⟨Tryd.underlying12, by decide, by decide, by decide, by decide, by decide, ty_info (by kernel_rfl)⟩
theorem tyOk13 : TyOk Tryd.prog 13 { k := .struct [(9, 0), (12, 1)], size := 2, bytes := 24, zero := .agg #[.string ⟨#[]⟩, .int .u64 0] } :=
  ⟨⟨_, Tryd.underlying13, rfl, by
      intro F hF
      simp only [List.mem_cons, List.not_mem_nil, or_false] at hF
      rcases hF with rfl | rfl
      · exact ty_has (by kernel_rfl)
      · exact ty_has (by kernel_rfl)⟩, by decide, by decide, by decide, by decide, by decide, ty_info (by kernel_rfl)⟩
theorem tyOk14 : TyOk Tryd.prog 14 { k := .struct [(9, 0), (12, 1)], size := 2, bytes := 24, zero := .agg #[.string ⟨#[]⟩, .int .u64 0] } :=
  ⟨⟨_, Tryd.underlying14, rfl, by
      intro F hF
      simp only [List.mem_cons, List.not_mem_nil, or_false] at hF
      rcases hF with rfl | rfl
      · exact ty_has (by kernel_rfl)
      · exact ty_has (by kernel_rfl)⟩, by decide, by decide, by decide, by decide, by decide, ty_info (by kernel_rfl)⟩
theorem tyOk21 : TyOk Tryd.prog 21 { k := .int .i32, size := 1, bytes := 4, zero := .int .i32 0 } :=
  ⟨Tryd.underlying21, by decide, by decide, by decide, by decide, by decide, ty_info (by kernel_rfl)⟩
theorem tyOk22 : TyOk Tryd.prog 22 { k := .int .i64, size := 1, bytes := 8, zero := .int .i64 0 } :=
  ⟨Tryd.underlying22, by decide, by decide, by decide, by decide, by decide, ty_info (by kernel_rfl)⟩
theorem tyOk26 : TyOk Tryd.prog 26 { k := .sl 9, size := 1, bytes := 24, zero := .slice none 0 0 } :=
  ⟨Tryd.underlying26, by decide, by decide, by decide, by decide, by decide, ty_info (by kernel_rfl)⟩
theorem tyOk27 : TyOk Tryd.prog 27 { k := .sl 3, size := 1, bytes := 24, zero := .slice none 0 0 } :=
  ⟨Tryd.underlying27, by decide, by decide, by decide, by decide, by decide, ty_info (by kernel_rfl)⟩
theorem tyOk28 : TyOk Tryd.prog 28 { k := .struct [(9, 0), (26, 1), (27, 2)], size := 3, bytes := 64, zero := .agg #[.string ⟨#[]⟩, .slice none 0 0, .slice none 0 0] } :=
  ⟨⟨_, Tryd.underlying28, rfl, by
      intro F hF
      simp only [List.mem_cons, List.not_mem_nil, or_false] at hF
      rcases hF with rfl | rfl | rfl
      · exact ty_has (by kernel_rfl)
      · exact ty_has (by kernel_rfl)
      · exact ty_has (by kernel_rfl)⟩, by decide, by decide, by decide, by decide, by decide, ty_info (by kernel_rfl)⟩
theorem tyOk29 : TyOk Tryd.prog 29 { k := .struct [(9, 0), (26, 1), (27, 2)], size := 3, bytes := 64, zero := .agg #[.string ⟨#[]⟩, .slice none 0 0, .slice none 0 0] } :=
  ⟨⟨_, Tryd.underlying29, rfl, by
      intro F hF
      simp only [List.mem_cons, List.not_mem_nil, or_false] at hF
      rcases hF with rfl | rfl | rfl
      · exact ty_has (by kernel_rfl)
      · exact ty_has (by kernel_rfl)
      · exact ty_has (by kernel_rfl)⟩, by decide, by decide, by decide, by decide, by decide, ty_info (by kernel_rfl)⟩
theorem tyOk35 : TyOk Tryd.prog 35 { k := .sl 37, size := 1, bytes := 24, zero := .slice none 0 0 } :=
  ⟨Tryd.underlying35, by decide, by decide, by decide, by decide, by decide, ty_info (by kernel_rfl)⟩
theorem tyOk36 : TyOk Tryd.prog 36 { k := .struct [(3, 0), (4, 1), (3, 2), (9, 3), (35, 4), (26, 5)], size := 6, bytes := 88, zero := .agg #[.int .i64 0, .bool false, .int .i64 0, .string ⟨#[]⟩, .slice none 0 0, .slice none 0 0] } :=
  ⟨⟨_, Tryd.underlying36, rfl, by
      intro F hF
      simp only [List.mem_cons, List.not_mem_nil, or_false] at hF
      rcases hF with rfl | rfl | rfl | rfl | rfl | rfl
      · exact ty_has (by kernel_rfl)
      · exact ty_has (by kernel_rfl)
      · exact ty_has (by kernel_rfl)
      · exact ty_has (by kernel_rfl)
      · exact ty_has (by kernel_rfl)
      · exact ty_has (by kernel_rfl)⟩, by decide, by decide, by decide, by decide, by decide, ty_info (by kernel_rfl)⟩
theorem tyOk37 : TyOk Tryd.prog 37 { k := .struct [(3, 0), (4, 1), (3, 2), (9, 3), (35, 4), (26, 5)], size := 6, bytes := 88, zero := .agg #[.int .i64 0, .bool false, .int .i64 0, .string ⟨#[]⟩, .slice none 0 0, .slice none 0 0] } :=
  ⟨⟨_, Tryd.underlying37, rfl, by
      intro F hF
      simp only [List.mem_cons, List.not_mem_nil, or_false] at hF
      rcases hF with rfl | rfl | rfl | rfl | rfl | rfl
      · exact ty_has (by kernel_rfl)
      · exact ty_has (by kernel_rfl)
      · exact ty_has (by kernel_rfl)
      · exact ty_has (by kernel_rfl)
      · exact ty_has (by kernel_rfl)
      · exact ty_has (by kernel_rfl)⟩, by decide, by decide, by decide, by decide, by decide, ty_info (by kernel_rfl)⟩
theorem tyOk44 : TyOk Tryd.prog 44 { k := .arr 3 3, size := 3, bytes := 24, zero := .agg #[.int .i64 0, .int .i64 0, .int .i64 0] } :=
  ⟨Tryd.underlying44, by decide, by decide, by decide, by decide, by decide, ty_info (by kernel_rfl)⟩
theorem tyOk71 : TyOk Tryd.prog 71 { k := .int .i64, size := 1, bytes := 8, zero := .int .i64 0 } :=
  ⟨Tryd.underlying71, by decide, by decide, by decide, by decide, by decide, ty_info (by kernel_rfl)⟩
theorem tyOk79 : TyOk Tryd.prog 79 { k := .sl 5, size := 1, bytes := 24, zero := .slice none 0 0 } :=
  ⟨Tryd.underlying79, by decide, by decide, by decide, by decide, by decide, ty_info (by kernel_rfl)⟩
theorem tyOk94 : TyOk Tryd.prog 94 { k := .int .i64, size := 1, bytes := 8, zero := .int .i64 0 } :=
  ⟨Tryd.underlying94, by decide, by decide, by decide, by decide, by decide, ty_info (by kernel_rfl)⟩
theorem tyOk105 : TyOk Tryd.prog 105 { k := .arr 24 5, size := 24, bytes := 24, zero := .agg #[.int .u8 0, .int .u8 0, .int .u8 0, .int .u8 0, .int .u8 0, .int .u8 0, .int .u8 0, .int .u8 0, .int .u8 0, .int .u8 0, .int .u8 0, .int .u8 0, .int .u8 0, .int .u8 0, .int .u8 0, .int .u8 0, .int .u8 0, .int .u8 0, .int .u8 0, .int .u8 0, .int .u8 0, .int .u8 0, .int .u8 0, .int .u8 0] } :=
  ⟨Tryd.underlying105, by decide, by decide, by decide, by decide, by decide, ty_info (by kernel_rfl)⟩
theorem tyOk106 : TyOk Tryd.prog 106 { k := .int .u64, size := 1, bytes := 8, zero := .int .u64 0 } :=
  ⟨Tryd.underlying106, by decide, by decide, by decide, by decide, by decide, ty_info (by kernel_rfl)⟩
theorem tyOk122 : TyOk Tryd.prog 122 { k := .int .u64, size := 1, bytes := 8, zero := .int .u64 0 } :=
  ⟨Tryd.underlying122, by decide, by decide, by decide, by decide, by decide, ty_info (by kernel_rfl)⟩
theorem tyOk124 : TyOk Tryd.prog 124 { k := .struct [(9, 0), (9, 1), (48, 2)], size := 3, bytes := 48, zero := .agg #[.string ⟨#[]⟩, .string ⟨#[]⟩, .nilIface] } :=
  ⟨⟨_, Tryd.underlying124, rfl, by
      intro F hF
      simp only [List.mem_cons, List.not_mem_nil, or_false] at hF
      rcases hF with rfl | rfl | rfl
      · exact ty_has (by kernel_rfl)
      · exact ty_has (by kernel_rfl)
      · exact ty_has (by kernel_rfl)⟩, by decide, by decide, by decide, by decide, by decide, ty_info (by kernel_rfl)⟩
theorem tyOk125 : TyOk Tryd.prog 125 { k := .struct [(9, 0), (9, 1), (48, 2)], size := 3, bytes := 48, zero := .agg #[.string ⟨#[]⟩, .string ⟨#[]⟩, .nilIface] } :=
  ⟨⟨_, Tryd.underlying125, rfl, by
      intro F hF
      simp only [List.mem_cons, List.not_mem_nil, or_false] at hF
      rcases hF with rfl | rfl | rfl
      · exact ty_has (by kernel_rfl)
      · exact ty_has (by kernel_rfl)
      · exact ty_has (by kernel_rfl)⟩, by decide, by decide, by decide, by decide, by decide, ty_info (by kernel_rfl)⟩
theorem tyOk129 : TyOk Tryd.prog 129 { k := .arr 20 106, size := 20, bytes := 160, zero := .agg #[.int .u64 0, .int .u64 0, .int .u64 0, .int .u64 0, .int .u64 0, .int .u64 0, .int .u64 0, .int .u64 0, .int .u64 0, .int .u64 0, .int .u64 0, .int .u64 0, .int .u64 0, .int .u64 0, .int .u64 0, .int .u64 0, .int .u64 0, .int .u64 0, .int .u64 0, .int .u64 0] } :=
  ⟨Tryd.underlying129, by decide, by decide, by decide, by decide, by decide, ty_info (by kernel_rfl)⟩
theorem tyOk130 : TyOk Tryd.prog 130 { k := .int .u32, size := 1, bytes := 4, zero := .int .u32 0 } :=
  ⟨Tryd.underlying130, by decide, by decide, by decide, by decide, by decide, ty_info (by kernel_rfl)⟩
theorem tyOk143 : TyOk Tryd.prog 143 { k := .struct [(9, 0)], size := 1, bytes := 16, zero := .agg #[.string ⟨#[]⟩] } :=
  ⟨⟨_, Tryd.underlying143, rfl, by
      intro F hF
      simp only [List.mem_cons, List.not_mem_nil, or_false] at hF
      rcases hF with rfl
      · exact ty_has (by kernel_rfl)⟩, by decide, by decide, by decide, by decide, by decide, ty_info (by kernel_rfl)⟩
theorem tyOk144 : TyOk Tryd.prog 144 { k := .struct [(9, 0)], size := 1, bytes := 16, zero := .agg #[.string ⟨#[]⟩] } :=
  ⟨⟨_, Tryd.underlying144, rfl, by
      intro F hF
      simp only [List.mem_cons, List.not_mem_nil, or_false] at hF
      rcases hF with rfl
      · exact ty_has (by kernel_rfl)⟩, by decide, by decide, by decide, by decide, by decide, ty_info (by kernel_rfl)⟩
theorem tyOk149 : TyOk Tryd.prog 149 { k := .int .i64, size := 1, bytes := 8, zero := .int .i64 0 } :=
  ⟨Tryd.underlying149, by decide, by decide, by decide, by decide, by decide, ty_info (by kernel_rfl)⟩
theorem tyOk156 : TyOk Tryd.prog 156 { k := .arr 32 5, size := 32, bytes := 32, zero := .agg #[.int .u8 0, .int .u8 0, .int .u8 0, .int .u8 0, .int .u8 0, .int .u8 0, .int .u8 0, .int .u8 0, .int .u8 0, .int .u8 0, .int .u8 0, .int .u8 0, .int .u8 0, .int .u8 0, .int .u8 0, .int .u8 0, .int .u8 0, .int .u8 0, .int .u8 0, .int .u8 0, .int .u8 0, .int .u8 0, .int .u8 0, .int .u8 0, .int .u8 0, .int .u8 0, .int .u8 0, .int .u8 0, .int .u8 0, .int .u8 0, .int .u8 0, .int .u8 0] } :=
  ⟨Tryd.underlying156, by decide, by decide, by decide, by decide, by decide, ty_info (by kernel_rfl)⟩
theorem tyOk158 : TyOk Tryd.prog 158 { k := .int .u64, size := 1, bytes := 8, zero := .int .u64 0 } :=
  ⟨Tryd.underlying158, by decide, by decide, by decide, by decide, by decide, ty_info (by kernel_rfl)⟩
theorem tyOk165 : TyOk Tryd.prog 165 { k := .struct [(5, 0), (5, 1)], size := 2, bytes := 2, zero := .agg #[.int .u8 0, .int .u8 0] } :=
  ⟨⟨_, Tryd.underlying165, rfl, by
      intro F hF
      simp only [List.mem_cons, List.not_mem_nil, or_false] at hF
      rcases hF with rfl | rfl
      · exact ty_has (by kernel_rfl)
      · exact ty_has (by kernel_rfl)⟩, by decide, by decide, by decide, by decide, by decide, ty_info (by kernel_rfl)⟩
theorem tyOk166 : TyOk Tryd.prog 166 { k := .struct [(5, 0), (5, 1)], size := 2, bytes := 2, zero := .agg #[.int .u8 0, .int .u8 0] } :=
  ⟨⟨_, Tryd.underlying166, rfl, by
      intro F hF
      simp only [List.mem_cons, List.not_mem_nil, or_false] at hF
      rcases hF with rfl | rfl
      · exact ty_has (by kernel_rfl)
      · exact ty_has (by kernel_rfl)⟩, by decide, by decide, by decide, by decide, by decide, ty_info (by kernel_rfl)⟩
theorem tyOk167 : TyOk Tryd.prog 167 { k := .arr 16 166, size := 32, bytes := 32, zero := .agg #[.int .u8 0, .int .u8 0, .int .u8 0, .int .u8 0, .int .u8 0, .int .u8 0, .int .u8 0, .int .u8 0, .int .u8 0, .int .u8 0, .int .u8 0, .int .u8 0, .int .u8 0, .int .u8 0, .int .u8 0, .int .u8 0, .int .u8 0, .int .u8 0, .int .u8 0, .int .u8 0, .int .u8 0, .int .u8 0, .int .u8 0, .int .u8 0, .int .u8 0, .int .u8 0, .int .u8 0, .int .u8 0, .int .u8 0, .int .u8 0, .int .u8 0, .int .u8 0] } :=
  ⟨Tryd.underlying167, by decide, by decide, by decide, by decide, by decide, ty_info (by kernel_rfl)⟩
theorem tyOk179 : TyOk Tryd.prog 179 { k := .int .u8, size := 1, bytes := 1, zero := .int .u8 0 } :=
  ⟨Tryd.underlying179, by decide, by decide, by decide, by decide, by decide, ty_info (by kernel_rfl)⟩
theorem tyOk180 : TyOk Tryd.prog 180 { k := .int .u8, size := 1, bytes := 1, zero := .int .u8 0 } :=
  ⟨Tryd.underlying180, by decide, by decide, by decide, by decide, by decide, ty_info (by kernel_rfl)⟩
theorem tyOk182 : TyOk Tryd.prog 182 { k := .int .i32, size := 1, bytes := 4, zero := .int .i32 0 } :=
  ⟨Tryd.underlying182, by decide, by decide, by decide, by decide, by decide, ty_info (by kernel_rfl)⟩
theorem tyOk183 : TyOk Tryd.prog 183 { k := .int .i32, size := 1, bytes := 4, zero := .int .i32 0 } :=
  ⟨Tryd.underlying183, by decide, by decide, by decide, by decide, by decide, ty_info (by kernel_rfl)⟩
theorem tyT_ok (t : TypeId) : TyOk Tryd.prog t (tyT t) := by
  unfold tyT
  split
  · rename_i i h
    have h := findB_mem h
    unfold tyTab at h
    rcases List.mem_cons.1 h with h1 | h
    · injection h1 with h1 h2; subst h1 h2; exact tyOk2
    rcases List.mem_cons.1 h with h1 | h
    · injection h1 with h1 h2; subst h1 h2; exact tyOk3
    rcases List.mem_cons.1 h with h1 | h
    · injection h1 with h1 h2; subst h1 h2; exact tyOk4
    rcases List.mem_cons.1 h with h1 | h
    · injection h1 with h1 h2; subst h1 h2; exact tyOk5
    rcases List.mem_cons.1 h with h1 | h
    · injection h1 with h1 h2; subst h1 h2; exact tyOk6
    rcases List.mem_cons.1 h with h1 | h
    · injection h1 with h1 h2; subst h1 h2; exact tyOk7
    rcases List.mem_cons.1 h with h1 | h
    · injection h1 with h1 h2; subst h1 h2; exact tyOk8
    rcases List.mem_cons.1 h with h1 | h
    · injection h1 with h1 h2; subst h1 h2; exact tyOk9
    rcases List.mem_cons.1 h with h1 | h
    · injection h1 with h1 h2; subst h1 h2; exact tyOk10
    rcases List.mem_cons.1 h with h1 | h
    · injection h1 with h1 h2; subst h1 h2; exact tyOk11
    rcases List.mem_cons.1 h with h1 | h
    · injection h1 with h1 h2; subst h1 h2; exact tyOk12
    rcases List.mem_cons.1 h with h1 | h
    · injection h1 with h1 h2; subst h1 h2; exact tyOk13
    rcases List.mem_cons.1 h with h1 | h
    · injection h1 with h1 h2; subst h1 h2; exact tyOk14
    rcases List.mem_cons.1 h with h1 | h
    · injection h1 with h1 h2; subst h1 h2; exact tyOk21
    rcases List.mem_cons.1 h with h1 | h
    · injection h1 with h1 h2; subst h1 h2; exact tyOk22
    rcases List.mem_cons.1 h with h1 | h
    · injection h1 with h1 h2; subst h1 h2; exact tyOk26
    rcases List.mem_cons.1 h with h1 | h
    · injection h1 with h1 h2; subst h1 h2; exact tyOk27
    rcases List.mem_cons.1 h with h1 | h
    · injection h1 with h1 h2; subst h1 h2; exact tyOk28
    rcases List.mem_cons.1 h with h1 | h
    · injection h1 with h1 h2; subst h1 h2; exact tyOk29
    rcases List.mem_cons.1 h with h1 | h
    · injection h1 with h1 h2; subst h1 h2; exact tyOk35
    rcases List.mem_cons.1 h with h1 | h
    · injection h1 with h1 h2; subst h1 h2; exact tyOk36
    rcases List.mem_cons.1 h with h1 | h
    · injection h1 with h1 h2; subst h1 h2; exact tyOk37
    rcases List.mem_cons.1 h with h1 | h
    · injection h1 with h1 h2; subst h1 h2; exact tyOk44
    rcases List.mem_cons.1 h with h1 | h
    · injection h1 with h1 h2; subst h1 h2; exact tyOk71
    rcases List.mem_cons.1 h with h1 | h
    · injection h1 with h1 h2; subst h1 h2; exact tyOk79
    rcases List.mem_cons.1 h with h1 | h
    · injection h1 with h1 h2; subst h1 h2; exact tyOk94
    rcases List.mem_cons.1 h with h1 | h
    · injection h1 with h1 h2; subst h1 h2; exact tyOk105
    rcases List.mem_cons.1 h with h1 | h
    · injection h1 with h1 h2; subst h1 h2; exact tyOk106
    rcases List.mem_cons.1 h with h1 | h
    · injection h1 with h1 h2; subst h1 h2; exact tyOk122
    rcases List.mem_cons.1 h with h1 | h
    · injection h1 with h1 h2; subst h1 h2; exact tyOk124
    rcases List.mem_cons.1 h with h1 | h
    · injection h1 with h1 h2; subst h1 h2; exact tyOk125
    rcases List.mem_cons.1 h with h1 | h
    · injection h1 with h1 h2; subst h1 h2; exact tyOk129
    rcases List.mem_cons.1 h with h1 | h
    · injection h1 with h1 h2; subst h1 h2; exact tyOk130
    rcases List.mem_cons.1 h with h1 | h
    · injection h1 with h1 h2; subst h1 h2; exact tyOk143
    rcases List.mem_cons.1 h with h1 | h
    · injection h1 with h1 h2; subst h1 h2; exact tyOk144
    rcases List.mem_cons.1 h with h1 | h
    · injection h1 with h1 h2; subst h1 h2; exact tyOk149
    rcases List.mem_cons.1 h with h1 | h
    · injection h1 with h1 h2; subst h1 h2; exact tyOk156
    rcases List.mem_cons.1 h with h1 | h
    · injection h1 with h1 h2; subst h1 h2; exact tyOk158
    rcases List.mem_cons.1 h with h1 | h
    · injection h1 with h1 h2; subst h1 h2; exact tyOk165
    rcases List.mem_cons.1 h with h1 | h
    · injection h1 with h1 h2; subst h1 h2; exact tyOk166
    rcases List.mem_cons.1 h with h1 | h
    · injection h1 with h1 h2; subst h1 h2; exact tyOk167
    rcases List.mem_cons.1 h with h1 | h
    · injection h1 with h1 h2; subst h1 h2; exact tyOk179
    rcases List.mem_cons.1 h with h1 | h
    · injection h1 with h1 h2; subst h1 h2; exact tyOk180
    rcases List.mem_cons.1 h with h1 | h
    · injection h1 with h1 h2; subst h1 h2; exact tyOk182
    rcases List.mem_cons.1 h with h1 | h
    · injection h1 with h1 h2; subst h1 h2; exact tyOk183
    cases h
  · trivial
end Go.Proofs.YtfbelaifhgnnlaaDoor
