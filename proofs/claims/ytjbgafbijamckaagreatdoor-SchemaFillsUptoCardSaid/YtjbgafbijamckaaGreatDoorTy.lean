/-
  The table of this program's types that the readings know, each entry proved. Written by a program.
-/
import Derived.Test.YtjbgafbijamckaaGreatDoorN17
import Derived.Test.YtjbgafbijamckaaGreatDoorProg
namespace Go.Proofs.YtjbgafbijamckaaGreatDoor
open Go.RowKit
set_option maxRecDepth 100000

def tyTab : List (Nat × TyI) :=
  [(2, { k := .int .i64, size := 1, bytes := 8, zero := .int .i64 0 }),
   (3, { k := .int .i64, size := 1, bytes := 8, zero := .int .i64 0 }),
   (4, { k := .bool, size := 1, bytes := 1, zero := .bool false }),
   (5, { k := .int .u8, size := 1, bytes := 1, zero := .int .u8 0 }),
   (6, { k := .int .u8, size := 1, bytes := 1, zero := .int .u8 0 }),
   (7, { k := .struct [(2, 0), (3, 1), (4, 2), (6, 3)], size := 4, bytes := 24, zero := .agg #[.int .i64 0, .int .i64 0, .bool false, .int .u8 0] }),
   (8, { k := .struct [(2, 0), (3, 1), (4, 2), (6, 3)], size := 4, bytes := 24, zero := .agg #[.int .i64 0, .int .i64 0, .bool false, .int .u8 0] }),
   (9, { k := .str, size := 1, bytes := 16, zero := .string ⟨#[]⟩ }),
   (10, { k := .str, size := 1, bytes := 16, zero := .string ⟨#[]⟩ }),
   (11, { k := .str, size := 1, bytes := 16, zero := .string ⟨#[]⟩ }),
   (12, { k := .int .u64, size := 1, bytes := 8, zero := .int .u64 0 }),
   (13, { k := .struct [(9, 0), (12, 1)], size := 2, bytes := 24, zero := .agg #[.string ⟨#[]⟩, .int .u64 0] }),
   (14, { k := .struct [(9, 0), (12, 1)], size := 2, bytes := 24, zero := .agg #[.string ⟨#[]⟩, .int .u64 0] }),
   (18, { k := .struct [(17, 0)], size := 1, bytes := 8, zero := .agg #[.pointer none] }),
   (19, { k := .struct [(17, 0)], size := 1, bytes := 8, zero := .agg #[.pointer none] }),
   (21, { k := .int .i32, size := 1, bytes := 4, zero := .int .i32 0 }),
   (22, { k := .sl 25, size := 1, bytes := 24, zero := .slice none 0 0 }),
   (23, { k := .sl 9, size := 1, bytes := 24, zero := .slice none 0 0 }),
   (24, { k := .struct [(3, 0), (4, 1), (3, 2), (9, 3), (22, 4), (23, 5)], size := 6, bytes := 88, zero := .agg #[.int .i64 0, .bool false, .int .i64 0, .string ⟨#[]⟩, .slice none 0 0, .slice none 0 0] }),
   (25, { k := .struct [(3, 0), (4, 1), (3, 2), (9, 3), (22, 4), (23, 5)], size := 6, bytes := 88, zero := .agg #[.int .i64 0, .bool false, .int .i64 0, .string ⟨#[]⟩, .slice none 0 0, .slice none 0 0] }),
   (26, { k := .int .i64, size := 1, bytes := 8, zero := .int .i64 0 }),
   (31, { k := .sl 50, size := 1, bytes := 24, zero := .slice none 0 0 }),
   (34, { k := .sl 58, size := 1, bytes := 24, zero := .slice none 0 0 }),
   (35, { k := .struct [(34, 0), (4, 1)], size := 2, bytes := 32, zero := .agg #[.slice none 0 0, .bool false] }),
   (36, { k := .struct [(34, 0), (4, 1)], size := 2, bytes := 32, zero := .agg #[.slice none 0 0, .bool false] }),
   (40, { k := .sl 64, size := 1, bytes := 24, zero := .slice none 0 0 }),
   (49, { k := .struct [(9, 0), (25, 1), (4, 7)], size := 8, bytes := 112, zero := .agg #[.string ⟨#[]⟩, .int .i64 0, .bool false, .int .i64 0, .string ⟨#[]⟩, .slice none 0 0, .slice none 0 0, .bool false] }),
   (50, { k := .struct [(9, 0), (25, 1), (4, 7)], size := 8, bytes := 112, zero := .agg #[.string ⟨#[]⟩, .int .i64 0, .bool false, .int .i64 0, .string ⟨#[]⟩, .slice none 0 0, .slice none 0 0, .bool false] }),
   (57, { k := .struct [(9, 0), (3, 1), (4, 2), (4, 3), (3, 4), (3, 5), (23, 6), (25, 7)], size := 13, bytes := 160, zero := .agg #[.string ⟨#[]⟩, .int .i64 0, .bool false, .bool false, .int .i64 0, .int .i64 0, .slice none 0 0, .int .i64 0, .bool false, .int .i64 0, .string ⟨#[]⟩, .slice none 0 0, .slice none 0 0] }),
   (58, { k := .struct [(9, 0), (3, 1), (4, 2), (4, 3), (3, 4), (3, 5), (23, 6), (25, 7)], size := 13, bytes := 160, zero := .agg #[.string ⟨#[]⟩, .int .i64 0, .bool false, .bool false, .int .i64 0, .int .i64 0, .slice none 0 0, .int .i64 0, .bool false, .int .i64 0, .string ⟨#[]⟩, .slice none 0 0, .slice none 0 0] }),
   (63, { k := .struct [(9, 0), (3, 1), (4, 2)], size := 3, bytes := 32, zero := .agg #[.string ⟨#[]⟩, .int .i64 0, .bool false] }),
   (64, { k := .struct [(9, 0), (3, 1), (4, 2)], size := 3, bytes := 32, zero := .agg #[.string ⟨#[]⟩, .int .i64 0, .bool false] }),
   (95, { k := .int .u64, size := 1, bytes := 8, zero := .int .u64 0 }),
   (102, { k := .sl 3, size := 1, bytes := 24, zero := .slice none 0 0 }),
   (105, { k := .int .i64, size := 1, bytes := 8, zero := .int .i64 0 }),
   (106, { k := .sl 5, size := 1, bytes := 24, zero := .slice none 0 0 }),
   (124, { k := .int .u64, size := 1, bytes := 8, zero := .int .u64 0 }),
   (128, { k := .struct [(9, 0), (9, 1), (66, 2)], size := 3, bytes := 48, zero := .agg #[.string ⟨#[]⟩, .string ⟨#[]⟩, .nilIface] }),
   (129, { k := .struct [(9, 0), (9, 1), (66, 2)], size := 3, bytes := 48, zero := .agg #[.string ⟨#[]⟩, .string ⟨#[]⟩, .nilIface] }),
   (139, { k := .struct [(9, 0)], size := 1, bytes := 16, zero := .agg #[.string ⟨#[]⟩] }),
   (140, { k := .struct [(9, 0)], size := 1, bytes := 16, zero := .agg #[.string ⟨#[]⟩] }),
   (143, { k := .struct [(5, 0), (5, 1)], size := 2, bytes := 2, zero := .agg #[.int .u8 0, .int .u8 0] }),
   (144, { k := .struct [(5, 0), (5, 1)], size := 2, bytes := 2, zero := .agg #[.int .u8 0, .int .u8 0] }),
   (145, { k := .arr 16 144, size := 32, bytes := 32, zero := .agg #[.int .u8 0, .int .u8 0, .int .u8 0, .int .u8 0, .int .u8 0, .int .u8 0, .int .u8 0, .int .u8 0, .int .u8 0, .int .u8 0, .int .u8 0, .int .u8 0, .int .u8 0, .int .u8 0, .int .u8 0, .int .u8 0, .int .u8 0, .int .u8 0, .int .u8 0, .int .u8 0, .int .u8 0, .int .u8 0, .int .u8 0, .int .u8 0, .int .u8 0, .int .u8 0, .int .u8 0, .int .u8 0, .int .u8 0, .int .u8 0, .int .u8 0, .int .u8 0] }),
   (146, { k := .int .u32, size := 1, bytes := 4, zero := .int .u32 0 }),
   (151, { k := .arr 24 5, size := 24, bytes := 24, zero := .agg #[.int .u8 0, .int .u8 0, .int .u8 0, .int .u8 0, .int .u8 0, .int .u8 0, .int .u8 0, .int .u8 0, .int .u8 0, .int .u8 0, .int .u8 0, .int .u8 0, .int .u8 0, .int .u8 0, .int .u8 0, .int .u8 0, .int .u8 0, .int .u8 0, .int .u8 0, .int .u8 0, .int .u8 0, .int .u8 0, .int .u8 0, .int .u8 0] }),
   (157, { k := .arr 20 124, size := 20, bytes := 160, zero := .agg #[.int .u64 0, .int .u64 0, .int .u64 0, .int .u64 0, .int .u64 0, .int .u64 0, .int .u64 0, .int .u64 0, .int .u64 0, .int .u64 0, .int .u64 0, .int .u64 0, .int .u64 0, .int .u64 0, .int .u64 0, .int .u64 0, .int .u64 0, .int .u64 0, .int .u64 0, .int .u64 0] }),
   (161, { k := .arr 32 5, size := 32, bytes := 32, zero := .agg #[.int .u8 0, .int .u8 0, .int .u8 0, .int .u8 0, .int .u8 0, .int .u8 0, .int .u8 0, .int .u8 0, .int .u8 0, .int .u8 0, .int .u8 0, .int .u8 0, .int .u8 0, .int .u8 0, .int .u8 0, .int .u8 0, .int .u8 0, .int .u8 0, .int .u8 0, .int .u8 0, .int .u8 0, .int .u8 0, .int .u8 0, .int .u8 0, .int .u8 0, .int .u8 0, .int .u8 0, .int .u8 0, .int .u8 0, .int .u8 0, .int .u8 0, .int .u8 0] }),
   (164, { k := .struct [(17, 0), (17, 1), (17, 2), (9, 3)], size := 4, bytes := 40, zero := .agg #[.pointer none, .pointer none, .pointer none, .string ⟨#[]⟩] }),
   (165, { k := .struct [(17, 0), (17, 1), (17, 2), (9, 3)], size := 4, bytes := 40, zero := .agg #[.pointer none, .pointer none, .pointer none, .string ⟨#[]⟩] }),
   (170, { k := .int .u8, size := 1, bytes := 1, zero := .int .u8 0 }),
   (171, { k := .int .u8, size := 1, bytes := 1, zero := .int .u8 0 }),
   (173, { k := .int .i32, size := 1, bytes := 4, zero := .int .i32 0 }),
   (174, { k := .int .i32, size := 1, bytes := 4, zero := .int .i32 0 }),
   (175, { k := .struct [(12, 0), (12, 1), (146, 2), (170, 3), (5, 4), (5, 5), (171, 6), (172, 7), (137, 8), (173, 9), (174, 10)], size := 11, bytes := 48, zero := .agg #[.int .u64 0, .int .u64 0, .int .u32 0, .int .u8 0, .int .u8 0, .int .u8 0, .int .u8 0, .nilFunc, .pointer none, .int .i32 0, .int .i32 0] }),
   (176, { k := .struct [(12, 0), (12, 1), (146, 2), (170, 3), (5, 4), (5, 5), (171, 6), (172, 7), (137, 8), (173, 9), (174, 10)], size := 11, bytes := 48, zero := .agg #[.int .u64 0, .int .u64 0, .int .u32 0, .int .u8 0, .int .u8 0, .int .u8 0, .int .u8 0, .nilFunc, .pointer none, .int .i32 0, .int .i32 0] }),
   (1, { k := .func, size := 1, bytes := 8, zero := .nilFunc }),
   (15, { k := .ptr, size := 1, bytes := 8, zero := .pointer none }),
   (16, { k := .ptr, size := 1, bytes := 8, zero := .pointer none }),
   (17, { k := .ptr, size := 1, bytes := 8, zero := .pointer none }),
   (20, { k := .ifc, size := 1, bytes := 16, zero := .nilIface }),
   (28, { k := .func, size := 1, bytes := 8, zero := .nilFunc }),
   (29, { k := .func, size := 1, bytes := 8, zero := .nilFunc }),
   (30, { k := .func, size := 1, bytes := 8, zero := .nilFunc }),
   (32, { k := .func, size := 1, bytes := 8, zero := .nilFunc }),
   (33, { k := .func, size := 1, bytes := 8, zero := .nilFunc }),
   (37, { k := .func, size := 1, bytes := 8, zero := .nilFunc }),
   (38, { k := .func, size := 1, bytes := 8, zero := .nilFunc }),
   (39, { k := .func, size := 1, bytes := 8, zero := .nilFunc }),
   (42, { k := .func, size := 1, bytes := 8, zero := .nilFunc }),
   (43, { k := .func, size := 1, bytes := 8, zero := .nilFunc }),
   (44, { k := .func, size := 1, bytes := 8, zero := .nilFunc }),
   (46, { k := .func, size := 1, bytes := 8, zero := .nilFunc }),
   (47, { k := .func, size := 1, bytes := 8, zero := .nilFunc }),
   (48, { k := .func, size := 1, bytes := 8, zero := .nilFunc }),
   (51, { k := .func, size := 1, bytes := 8, zero := .nilFunc }),
   (52, { k := .func, size := 1, bytes := 8, zero := .nilFunc }),
   (54, { k := .func, size := 1, bytes := 8, zero := .nilFunc }),
   (55, { k := .func, size := 1, bytes := 8, zero := .nilFunc }),
   (56, { k := .func, size := 1, bytes := 8, zero := .nilFunc }),
   (59, { k := .func, size := 1, bytes := 8, zero := .nilFunc }),
   (60, { k := .func, size := 1, bytes := 8, zero := .nilFunc }),
   (61, { k := .func, size := 1, bytes := 8, zero := .nilFunc }),
   (62, { k := .func, size := 1, bytes := 8, zero := .nilFunc }),
   (65, { k := .ifc, size := 1, bytes := 16, zero := .nilIface }),
   (66, { k := .ifc, size := 1, bytes := 16, zero := .nilIface }),
   (68, { k := .func, size := 1, bytes := 8, zero := .nilFunc }),
   (69, { k := .func, size := 1, bytes := 8, zero := .nilFunc }),
   (70, { k := .func, size := 1, bytes := 8, zero := .nilFunc }),
   (71, { k := .func, size := 1, bytes := 8, zero := .nilFunc }),
   (72, { k := .func, size := 1, bytes := 8, zero := .nilFunc }),
   (73, { k := .func, size := 1, bytes := 8, zero := .nilFunc }),
   (75, { k := .func, size := 1, bytes := 8, zero := .nilFunc }),
   (76, { k := .func, size := 1, bytes := 8, zero := .nilFunc }),
   (77, { k := .func, size := 1, bytes := 8, zero := .nilFunc }),
   (78, { k := .func, size := 1, bytes := 8, zero := .nilFunc }),
   (79, { k := .func, size := 1, bytes := 8, zero := .nilFunc }),
   (80, { k := .func, size := 1, bytes := 8, zero := .nilFunc }),
   (81, { k := .func, size := 1, bytes := 8, zero := .nilFunc }),
   (82, { k := .func, size := 1, bytes := 8, zero := .nilFunc }),
   (83, { k := .func, size := 1, bytes := 8, zero := .nilFunc }),
   (84, { k := .func, size := 1, bytes := 8, zero := .nilFunc }),
   (85, { k := .func, size := 1, bytes := 8, zero := .nilFunc }),
   (86, { k := .func, size := 1, bytes := 8, zero := .nilFunc }),
   (87, { k := .map .str 9 4, size := 1, bytes := 8, zero := .map none }),
   (88, { k := .func, size := 1, bytes := 8, zero := .nilFunc }),
   (89, { k := .func, size := 1, bytes := 8, zero := .nilFunc }),
   (90, { k := .func, size := 1, bytes := 8, zero := .nilFunc }),
   (91, { k := .func, size := 1, bytes := 8, zero := .nilFunc }),
   (92, { k := .func, size := 1, bytes := 8, zero := .nilFunc }),
   (93, { k := .func, size := 1, bytes := 8, zero := .nilFunc }),
   (94, { k := .func, size := 1, bytes := 8, zero := .nilFunc }),
   (96, { k := .func, size := 1, bytes := 8, zero := .nilFunc }),
   (97, { k := .func, size := 1, bytes := 8, zero := .nilFunc }),
   (98, { k := .func, size := 1, bytes := 8, zero := .nilFunc }),
   (99, { k := .func, size := 1, bytes := 8, zero := .nilFunc }),
   (100, { k := .func, size := 1, bytes := 8, zero := .nilFunc }),
   (101, { k := .func, size := 1, bytes := 8, zero := .nilFunc }),
   (103, { k := .func, size := 1, bytes := 8, zero := .nilFunc }),
   (104, { k := .func, size := 1, bytes := 8, zero := .nilFunc }),
   (108, { k := .func, size := 1, bytes := 8, zero := .nilFunc }),
   (109, { k := .ptr, size := 1, bytes := 8, zero := .pointer none }),
   (110, { k := .func, size := 1, bytes := 8, zero := .nilFunc }),
   (111, { k := .func, size := 1, bytes := 8, zero := .nilFunc }),
   (112, { k := .func, size := 1, bytes := 8, zero := .nilFunc }),
   (116, { k := .func, size := 1, bytes := 8, zero := .nilFunc }),
   (117, { k := .func, size := 1, bytes := 8, zero := .nilFunc }),
   (118, { k := .ptr, size := 1, bytes := 8, zero := .pointer none }),
   (119, { k := .func, size := 1, bytes := 8, zero := .nilFunc }),
   (120, { k := .func, size := 1, bytes := 8, zero := .nilFunc }),
   (122, { k := .func, size := 1, bytes := 8, zero := .nilFunc }),
   (123, { k := .func, size := 1, bytes := 8, zero := .nilFunc }),
   (126, { k := .func, size := 1, bytes := 8, zero := .nilFunc }),
   (127, { k := .func, size := 1, bytes := 8, zero := .nilFunc }),
   (130, { k := .func, size := 1, bytes := 8, zero := .nilFunc }),
   (131, { k := .func, size := 1, bytes := 8, zero := .nilFunc }),
   (132, { k := .func, size := 1, bytes := 8, zero := .nilFunc }),
   (133, { k := .func, size := 1, bytes := 8, zero := .nilFunc }),
   (134, { k := .func, size := 1, bytes := 8, zero := .nilFunc }),
   (135, { k := .func, size := 1, bytes := 8, zero := .nilFunc }),
   (136, { k := .func, size := 1, bytes := 8, zero := .nilFunc }),
   (137, { k := .ptr, size := 1, bytes := 8, zero := .pointer none }),
   (138, { k := .ptr, size := 1, bytes := 8, zero := .pointer none }),
   (141, { k := .func, size := 1, bytes := 8, zero := .nilFunc }),
   (148, { k := .func, size := 1, bytes := 8, zero := .nilFunc }),
   (149, { k := .func, size := 1, bytes := 8, zero := .nilFunc }),
   (150, { k := .func, size := 1, bytes := 8, zero := .nilFunc }),
   (152, { k := .func, size := 1, bytes := 8, zero := .nilFunc }),
   (153, { k := .func, size := 1, bytes := 8, zero := .nilFunc }),
   (155, { k := .func, size := 1, bytes := 8, zero := .nilFunc }),
   (156, { k := .func, size := 1, bytes := 8, zero := .nilFunc }),
   (159, { k := .func, size := 1, bytes := 8, zero := .nilFunc }),
   (160, { k := .func, size := 1, bytes := 8, zero := .nilFunc }),
   (163, { k := .func, size := 1, bytes := 8, zero := .nilFunc }),
   (169, { k := .func, size := 1, bytes := 8, zero := .nilFunc }),
   (172, { k := .func, size := 1, bytes := 8, zero := .nilFunc })]
def tyT (t : TypeId) : TyI := match findB tyTab t with | some i => i | none => { k := .other, size := 0, bytes := 0, zero := .bool false }
theorem ty_info {P : Program} {t : TypeId} {s b : Nat} {z : Value} (h : (P.info? t).map (fun i => (i.size, i.bytes, i.zero)) = some (s, b, some z)) : ∃ j, P.info? t = some j ∧ j.size = s ∧ j.bytes = b ∧ j.zero = some z := by
  cases hi : P.info? t with
  | none => rw [hi] at h; cases h
  | some j =>
    rw [hi] at h
    simp only [Option.map_some, Option.some.injEq, Prod.mk.injEq] at h
    exact ⟨j, rfl, h.1, h.2.1, h.2.2⟩
theorem int_wf {n : Int} (h1 : -9223372036854775808 ≤ n) (h2 : n ≤ 9223372036854775807) : (Lit.int .i64 n).wf = true := by
  simp only [Lit.wf, Bool.and_eq_true, decide_eq_true_eq]
  exact ⟨h1, h2⟩
theorem ty_has {P : Program} {t : TypeId} (h : (P.info? t).map (fun i => i.size != 0) = some true) : ∃ i, P.info? t = some i ∧ i.size ≠ 0 := by
  cases hi : P.info? t with
  | none => rw [hi] at h; cases h
  | some j =>
    rw [hi] at h
    exact ⟨j, rfl, by simpa using h⟩
theorem tyOk2 : TyOk Tryz.prog 2 { k := .int .i64, size := 1, bytes := 8, zero := .int .i64 0 } :=
  ⟨Tryz.underlying2, by decide, by decide, by decide, by decide, by decide, ty_info (by kernel_rfl)⟩
theorem tyOk3 : TyOk Tryz.prog 3 { k := .int .i64, size := 1, bytes := 8, zero := .int .i64 0 } :=
  ⟨Tryz.underlying3, by decide, by decide, by decide, by decide, by decide, ty_info (by kernel_rfl)⟩
theorem tyOk4 : TyOk Tryz.prog 4 { k := .bool, size := 1, bytes := 1, zero := .bool false } :=
  ⟨Tryz.underlying4, by decide, by decide, by decide, by decide, by decide, ty_info (by kernel_rfl)⟩
theorem tyOk5 : TyOk Tryz.prog 5 { k := .int .u8, size := 1, bytes := 1, zero := .int .u8 0 } :=
  ⟨Tryz.underlying5, by decide, by decide, by decide, by decide, by decide, ty_info (by kernel_rfl)⟩
theorem tyOk6 : TyOk Tryz.prog 6 { k := .int .u8, size := 1, bytes := 1, zero := .int .u8 0 } :=
  ⟨Tryz.underlying6, by decide, by decide, by decide, by decide, by decide, ty_info (by kernel_rfl)⟩
theorem tyOk7 : TyOk Tryz.prog 7 { k := .struct [(2, 0), (3, 1), (4, 2), (6, 3)], size := 4, bytes := 24, zero := .agg #[.int .i64 0, .int .i64 0, .bool false, .int .u8 0] } :=
  ⟨⟨_, Tryz.underlying7, rfl, by
      intro F hF
      simp only [List.mem_cons, List.not_mem_nil, or_false] at hF
      rcases hF with rfl | rfl | rfl | rfl
      · exact ty_has (by kernel_rfl)
      · exact ty_has (by kernel_rfl)
      · exact ty_has (by kernel_rfl)
      · exact ty_has (by kernel_rfl)⟩, by decide, by decide, by decide, by decide, by decide, ty_info (by kernel_rfl)⟩
theorem tyOk8 : TyOk Tryz.prog 8 { k := .struct [(2, 0), (3, 1), (4, 2), (6, 3)], size := 4, bytes := 24, zero := .agg #[.int .i64 0, .int .i64 0, .bool false, .int .u8 0] } :=
  ⟨⟨_, Tryz.underlying8, rfl, by
      intro F hF
      simp only [List.mem_cons, List.not_mem_nil, or_false] at hF
      rcases hF with rfl | rfl | rfl | rfl
      · exact ty_has (by kernel_rfl)
      · exact ty_has (by kernel_rfl)
      · exact ty_has (by kernel_rfl)
      · exact ty_has (by kernel_rfl)⟩, by decide, by decide, by decide, by decide, by decide, ty_info (by kernel_rfl)⟩
theorem tyOk9 : TyOk Tryz.prog 9 { k := .str, size := 1, bytes := 16, zero := .string ⟨#[]⟩ } :=
  ⟨Tryz.underlying9, by decide, by decide, by decide, by decide, by decide, ty_info (by kernel_rfl)⟩
theorem tyOk10 : TyOk Tryz.prog 10 { k := .str, size := 1, bytes := 16, zero := .string ⟨#[]⟩ } :=
  ⟨Tryz.underlying10, by decide, by decide, by decide, by decide, by decide, ty_info (by kernel_rfl)⟩
theorem tyOk11 : TyOk Tryz.prog 11 { k := .str, size := 1, bytes := 16, zero := .string ⟨#[]⟩ } :=
  ⟨Tryz.underlying11, by decide, by decide, by decide, by decide, by decide, ty_info (by kernel_rfl)⟩
theorem tyOk12 : TyOk Tryz.prog 12 { k := .int .u64, size := 1, bytes := 8, zero := .int .u64 0 } :=
  ⟨Tryz.underlying12, by decide, by decide, by decide, by decide, by decide, ty_info (by kernel_rfl)⟩
theorem tyOk13 : TyOk Tryz.prog 13 { k := .struct [(9, 0), (12, 1)], size := 2, bytes := 24, zero := .agg #[.string ⟨#[]⟩, .int .u64 0] } :=
  ⟨⟨_, Tryz.underlying13, rfl, by
      intro F hF
      simp only [List.mem_cons, List.not_mem_nil, or_false] at hF
      rcases hF with rfl | rfl
      · exact ty_has (by kernel_rfl)
      · exact ty_has (by kernel_rfl)⟩, by decide, by decide, by decide, by decide, by decide, ty_info (by kernel_rfl)⟩
theorem tyOk14 : TyOk Tryz.prog 14 { k := .struct [(9, 0), (12, 1)], size := 2, bytes := 24, zero := .agg #[.string ⟨#[]⟩, .int .u64 0] } :=
  ⟨⟨_, Tryz.underlying14, rfl, by
      intro F hF
      simp only [List.mem_cons, List.not_mem_nil, or_false] at hF
      rcases hF with rfl | rfl
      · exact ty_has (by kernel_rfl)
      · exact ty_has (by kernel_rfl)⟩, by decide, by decide, by decide, by decide, by decide, ty_info (by kernel_rfl)⟩
theorem tyOk18 : TyOk Tryz.prog 18 { k := .struct [(17, 0)], size := 1, bytes := 8, zero := .agg #[.pointer none] } :=
  ⟨⟨_, Tryz.underlying18, rfl, by
      intro F hF
      simp only [List.mem_cons, List.not_mem_nil, or_false] at hF
      rcases hF with rfl
      · exact ty_has (by kernel_rfl)⟩, by decide, by decide, by decide, by decide, by decide, ty_info (by kernel_rfl)⟩
theorem tyOk19 : TyOk Tryz.prog 19 { k := .struct [(17, 0)], size := 1, bytes := 8, zero := .agg #[.pointer none] } :=
  ⟨⟨_, Tryz.underlying19, rfl, by
      intro F hF
      simp only [List.mem_cons, List.not_mem_nil, or_false] at hF
      rcases hF with rfl
      · exact ty_has (by kernel_rfl)⟩, by decide, by decide, by decide, by decide, by decide, ty_info (by kernel_rfl)⟩
theorem tyOk21 : TyOk Tryz.prog 21 { k := .int .i32, size := 1, bytes := 4, zero := .int .i32 0 } :=
  ⟨Tryz.underlying21, by decide, by decide, by decide, by decide, by decide, ty_info (by kernel_rfl)⟩
theorem tyOk22 : TyOk Tryz.prog 22 { k := .sl 25, size := 1, bytes := 24, zero := .slice none 0 0 } :=
  ⟨Tryz.underlying22, by decide, by decide, by decide, by decide, by decide, ty_info (by kernel_rfl)⟩
theorem tyOk23 : TyOk Tryz.prog 23 { k := .sl 9, size := 1, bytes := 24, zero := .slice none 0 0 } :=
  ⟨Tryz.underlying23, by decide, by decide, by decide, by decide, by decide, ty_info (by kernel_rfl)⟩
theorem tyOk24 : TyOk Tryz.prog 24 { k := .struct [(3, 0), (4, 1), (3, 2), (9, 3), (22, 4), (23, 5)], size := 6, bytes := 88, zero := .agg #[.int .i64 0, .bool false, .int .i64 0, .string ⟨#[]⟩, .slice none 0 0, .slice none 0 0] } :=
  ⟨⟨_, Tryz.underlying24, rfl, by
      intro F hF
      simp only [List.mem_cons, List.not_mem_nil, or_false] at hF
      rcases hF with rfl | rfl | rfl | rfl | rfl | rfl
      · exact ty_has (by kernel_rfl)
      · exact ty_has (by kernel_rfl)
      · exact ty_has (by kernel_rfl)
      · exact ty_has (by kernel_rfl)
      · exact ty_has (by kernel_rfl)
      · exact ty_has (by kernel_rfl)⟩, by decide, by decide, by decide, by decide, by decide, ty_info (by kernel_rfl)⟩
theorem tyOk25 : TyOk Tryz.prog 25 { k := .struct [(3, 0), (4, 1), (3, 2), (9, 3), (22, 4), (23, 5)], size := 6, bytes := 88, zero := .agg #[.int .i64 0, .bool false, .int .i64 0, .string ⟨#[]⟩, .slice none 0 0, .slice none 0 0] } :=
  ⟨⟨_, Tryz.underlying25, rfl, by
      intro F hF
      simp only [List.mem_cons, List.not_mem_nil, or_false] at hF
      rcases hF with rfl | rfl | rfl | rfl | rfl | rfl
      · exact ty_has (by kernel_rfl)
      · exact ty_has (by kernel_rfl)
      · exact ty_has (by kernel_rfl)
      · exact ty_has (by kernel_rfl)
      · exact ty_has (by kernel_rfl)
      · exact ty_has (by kernel_rfl)⟩, by decide, by decide, by decide, by decide, by decide, ty_info (by kernel_rfl)⟩
theorem tyOk26 : TyOk Tryz.prog 26 { k := .int .i64, size := 1, bytes := 8, zero := .int .i64 0 } :=
  ⟨Tryz.underlying26, by decide, by decide, by decide, by decide, by decide, ty_info (by kernel_rfl)⟩
theorem tyOk31 : TyOk Tryz.prog 31 { k := .sl 50, size := 1, bytes := 24, zero := .slice none 0 0 } :=
  ⟨Tryz.underlying31, by decide, by decide, by decide, by decide, by decide, ty_info (by kernel_rfl)⟩
theorem tyOk34 : TyOk Tryz.prog 34 { k := .sl 58, size := 1, bytes := 24, zero := .slice none 0 0 } :=
  ⟨Tryz.underlying34, by decide, by decide, by decide, by decide, by decide, ty_info (by kernel_rfl)⟩
theorem tyOk35 : TyOk Tryz.prog 35 { k := .struct [(34, 0), (4, 1)], size := 2, bytes := 32, zero := .agg #[.slice none 0 0, .bool false] } :=
  ⟨⟨_, Tryz.underlying35, rfl, by
      intro F hF
      simp only [List.mem_cons, List.not_mem_nil, or_false] at hF
      rcases hF with rfl | rfl
      · exact ty_has (by kernel_rfl)
      · exact ty_has (by kernel_rfl)⟩, by decide, by decide, by decide, by decide, by decide, ty_info (by kernel_rfl)⟩
theorem tyOk36 : TyOk Tryz.prog 36 { k := .struct [(34, 0), (4, 1)], size := 2, bytes := 32, zero := .agg #[.slice none 0 0, .bool false] } :=
  ⟨⟨_, Tryz.underlying36, rfl, by
      intro F hF
      simp only [List.mem_cons, List.not_mem_nil, or_false] at hF
      rcases hF with rfl | rfl
      · exact ty_has (by kernel_rfl)
      · exact ty_has (by kernel_rfl)⟩, by decide, by decide, by decide, by decide, by decide, ty_info (by kernel_rfl)⟩
theorem tyOk40 : TyOk Tryz.prog 40 { k := .sl 64, size := 1, bytes := 24, zero := .slice none 0 0 } :=
  ⟨Tryz.underlying40, by decide, by decide, by decide, by decide, by decide, ty_info (by kernel_rfl)⟩
theorem tyOk49 : TyOk Tryz.prog 49 { k := .struct [(9, 0), (25, 1), (4, 7)], size := 8, bytes := 112, zero := .agg #[.string ⟨#[]⟩, .int .i64 0, .bool false, .int .i64 0, .string ⟨#[]⟩, .slice none 0 0, .slice none 0 0, .bool false] } :=
  ⟨⟨_, Tryz.underlying49, rfl, by
      intro F hF
      simp only [List.mem_cons, List.not_mem_nil, or_false] at hF
      rcases hF with rfl | rfl | rfl
      · exact ty_has (by kernel_rfl)
      · exact ty_has (by kernel_rfl)
      · exact ty_has (by kernel_rfl)⟩, by decide, by decide, by decide, by decide, by decide, ty_info (by kernel_rfl)⟩
theorem tyOk50 : TyOk Tryz.prog 50 { k := .struct [(9, 0), (25, 1), (4, 7)], size := 8, bytes := 112, zero := .agg #[.string ⟨#[]⟩, .int .i64 0, .bool false, .int .i64 0, .string ⟨#[]⟩, .slice none 0 0, .slice none 0 0, .bool false] } :=
  ⟨⟨_, Tryz.underlying50, rfl, by
      intro F hF
      simp only [List.mem_cons, List.not_mem_nil, or_false] at hF
      rcases hF with rfl | rfl | rfl
      · exact ty_has (by kernel_rfl)
      · exact ty_has (by kernel_rfl)
      · exact ty_has (by kernel_rfl)⟩, by decide, by decide, by decide, by decide, by decide, ty_info (by kernel_rfl)⟩
theorem tyOk57 : TyOk Tryz.prog 57 { k := .struct [(9, 0), (3, 1), (4, 2), (4, 3), (3, 4), (3, 5), (23, 6), (25, 7)], size := 13, bytes := 160, zero := .agg #[.string ⟨#[]⟩, .int .i64 0, .bool false, .bool false, .int .i64 0, .int .i64 0, .slice none 0 0, .int .i64 0, .bool false, .int .i64 0, .string ⟨#[]⟩, .slice none 0 0, .slice none 0 0] } :=
  ⟨⟨_, Tryz.underlying57, rfl, by
      intro F hF
      simp only [List.mem_cons, List.not_mem_nil, or_false] at hF
      rcases hF with rfl | rfl | rfl | rfl | rfl | rfl | rfl | rfl
      · exact ty_has (by kernel_rfl)
      · exact ty_has (by kernel_rfl)
      · exact ty_has (by kernel_rfl)
      · exact ty_has (by kernel_rfl)
      · exact ty_has (by kernel_rfl)
      · exact ty_has (by kernel_rfl)
      · exact ty_has (by kernel_rfl)
      · exact ty_has (by kernel_rfl)⟩, by decide, by decide, by decide, by decide, by decide, ty_info (by kernel_rfl)⟩
theorem tyOk58 : TyOk Tryz.prog 58 { k := .struct [(9, 0), (3, 1), (4, 2), (4, 3), (3, 4), (3, 5), (23, 6), (25, 7)], size := 13, bytes := 160, zero := .agg #[.string ⟨#[]⟩, .int .i64 0, .bool false, .bool false, .int .i64 0, .int .i64 0, .slice none 0 0, .int .i64 0, .bool false, .int .i64 0, .string ⟨#[]⟩, .slice none 0 0, .slice none 0 0] } :=
  ⟨⟨_, Tryz.underlying58, rfl, by
      intro F hF
      simp only [List.mem_cons, List.not_mem_nil, or_false] at hF
      rcases hF with rfl | rfl | rfl | rfl | rfl | rfl | rfl | rfl
      · exact ty_has (by kernel_rfl)
      · exact ty_has (by kernel_rfl)
      · exact ty_has (by kernel_rfl)
      · exact ty_has (by kernel_rfl)
      · exact ty_has (by kernel_rfl)
      · exact ty_has (by kernel_rfl)
      · exact ty_has (by kernel_rfl)
      · exact ty_has (by kernel_rfl)⟩, by decide, by decide, by decide, by decide, by decide, ty_info (by kernel_rfl)⟩
theorem tyOk63 : TyOk Tryz.prog 63 { k := .struct [(9, 0), (3, 1), (4, 2)], size := 3, bytes := 32, zero := .agg #[.string ⟨#[]⟩, .int .i64 0, .bool false] } :=
  ⟨⟨_, Tryz.underlying63, rfl, by
      intro F hF
      simp only [List.mem_cons, List.not_mem_nil, or_false] at hF
      rcases hF with rfl | rfl | rfl
      · exact ty_has (by kernel_rfl)
      · exact ty_has (by kernel_rfl)
      · exact ty_has (by kernel_rfl)⟩, by decide, by decide, by decide, by decide, by decide, ty_info (by kernel_rfl)⟩
theorem tyOk64 : TyOk Tryz.prog 64 { k := .struct [(9, 0), (3, 1), (4, 2)], size := 3, bytes := 32, zero := .agg #[.string ⟨#[]⟩, .int .i64 0, .bool false] } :=
  ⟨⟨_, Tryz.underlying64, rfl, by
      intro F hF
      simp only [List.mem_cons, List.not_mem_nil, or_false] at hF
      rcases hF with rfl | rfl | rfl
      · exact ty_has (by kernel_rfl)
      · exact ty_has (by kernel_rfl)
      · exact ty_has (by kernel_rfl)⟩, by decide, by decide, by decide, by decide, by decide, ty_info (by kernel_rfl)⟩
theorem tyOk95 : TyOk Tryz.prog 95 { k := .int .u64, size := 1, bytes := 8, zero := .int .u64 0 } :=
  ⟨Tryz.underlying95, by decide, by decide, by decide, by decide, by decide, ty_info (by kernel_rfl)⟩
theorem tyOk102 : TyOk Tryz.prog 102 { k := .sl 3, size := 1, bytes := 24, zero := .slice none 0 0 } :=
  ⟨Tryz.underlying102, by decide, by decide, by decide, by decide, by decide, ty_info (by kernel_rfl)⟩
theorem tyOk105 : TyOk Tryz.prog 105 { k := .int .i64, size := 1, bytes := 8, zero := .int .i64 0 } :=
  ⟨Tryz.underlying105, by decide, by decide, by decide, by decide, by decide, ty_info (by kernel_rfl)⟩
theorem tyOk106 : TyOk Tryz.prog 106 { k := .sl 5, size := 1, bytes := 24, zero := .slice none 0 0 } :=
  ⟨Tryz.underlying106, by decide, by decide, by decide, by decide, by decide, ty_info (by kernel_rfl)⟩
theorem tyOk124 : TyOk Tryz.prog 124 { k := .int .u64, size := 1, bytes := 8, zero := .int .u64 0 } :=
  ⟨Tryz.underlying124, by decide, by decide, by decide, by decide, by decide, ty_info (by kernel_rfl)⟩
theorem tyOk128 : TyOk Tryz.prog 128 { k := .struct [(9, 0), (9, 1), (66, 2)], size := 3, bytes := 48, zero := .agg #[.string ⟨#[]⟩, .string ⟨#[]⟩, .nilIface] } :=
  ⟨⟨_, Tryz.underlying128, rfl, by
      intro F hF
      simp only [List.mem_cons, List.not_mem_nil, or_false] at hF
      rcases hF with rfl | rfl | rfl
      · exact ty_has (by kernel_rfl)
      · exact ty_has (by kernel_rfl)
      · exact ty_has (by kernel_rfl)⟩, by decide, by decide, by decide, by decide, by decide, ty_info (by kernel_rfl)⟩
theorem tyOk129 : TyOk Tryz.prog 129 { k := .struct [(9, 0), (9, 1), (66, 2)], size := 3, bytes := 48, zero := .agg #[.string ⟨#[]⟩, .string ⟨#[]⟩, .nilIface] } :=
  ⟨⟨_, Tryz.underlying129, rfl, by
      intro F hF
      simp only [List.mem_cons, List.not_mem_nil, or_false] at hF
      rcases hF with rfl | rfl | rfl
      · exact ty_has (by kernel_rfl)
      · exact ty_has (by kernel_rfl)
      · exact ty_has (by kernel_rfl)⟩, by decide, by decide, by decide, by decide, by decide, ty_info (by kernel_rfl)⟩
theorem tyOk139 : TyOk Tryz.prog 139 { k := .struct [(9, 0)], size := 1, bytes := 16, zero := .agg #[.string ⟨#[]⟩] } :=
  ⟨⟨_, Tryz.underlying139, rfl, by
      intro F hF
      simp only [List.mem_cons, List.not_mem_nil, or_false] at hF
      rcases hF with rfl
      · exact ty_has (by kernel_rfl)⟩, by decide, by decide, by decide, by decide, by decide, ty_info (by kernel_rfl)⟩
theorem tyOk140 : TyOk Tryz.prog 140 { k := .struct [(9, 0)], size := 1, bytes := 16, zero := .agg #[.string ⟨#[]⟩] } :=
  ⟨⟨_, Tryz.underlying140, rfl, by
      intro F hF
      simp only [List.mem_cons, List.not_mem_nil, or_false] at hF
      rcases hF with rfl
      · exact ty_has (by kernel_rfl)⟩, by decide, by decide, by decide, by decide, by decide, ty_info (by kernel_rfl)⟩
theorem tyOk143 : TyOk Tryz.prog 143 { k := .struct [(5, 0), (5, 1)], size := 2, bytes := 2, zero := .agg #[.int .u8 0, .int .u8 0] } :=
  ⟨⟨_, Tryz.underlying143, rfl, by
      intro F hF
      simp only [List.mem_cons, List.not_mem_nil, or_false] at hF
      rcases hF with rfl | rfl
      · exact ty_has (by kernel_rfl)
      · exact ty_has (by kernel_rfl)⟩, by decide, by decide, by decide, by decide, by decide, ty_info (by kernel_rfl)⟩
theorem tyOk144 : TyOk Tryz.prog 144 { k := .struct [(5, 0), (5, 1)], size := 2, bytes := 2, zero := .agg #[.int .u8 0, .int .u8 0] } :=
  ⟨⟨_, Tryz.underlying144, rfl, by
      intro F hF
      simp only [List.mem_cons, List.not_mem_nil, or_false] at hF
      rcases hF with rfl | rfl
      · exact ty_has (by kernel_rfl)
      · exact ty_has (by kernel_rfl)⟩, by decide, by decide, by decide, by decide, by decide, ty_info (by kernel_rfl)⟩
theorem tyOk145 : TyOk Tryz.prog 145 { k := .arr 16 144, size := 32, bytes := 32, zero := .agg #[.int .u8 0, .int .u8 0, .int .u8 0, .int .u8 0, .int .u8 0, .int .u8 0, .int .u8 0, .int .u8 0, .int .u8 0, .int .u8 0, .int .u8 0, .int .u8 0, .int .u8 0, .int .u8 0, .int .u8 0, .int .u8 0, .int .u8 0, .int .u8 0, .int .u8 0, .int .u8 0, .int .u8 0, .int .u8 0, .int .u8 0, .int .u8 0, .int .u8 0, .int .u8 0, .int .u8 0, .int .u8 0, .int .u8 0, .int .u8 0, .int .u8 0, .int .u8 0] } :=
  ⟨Tryz.underlying145, by decide, by decide, by decide, by decide, by decide, ty_info (by kernel_rfl)⟩
theorem tyOk146 : TyOk Tryz.prog 146 { k := .int .u32, size := 1, bytes := 4, zero := .int .u32 0 } :=
  ⟨Tryz.underlying146, by decide, by decide, by decide, by decide, by decide, ty_info (by kernel_rfl)⟩
theorem tyOk151 : TyOk Tryz.prog 151 { k := .arr 24 5, size := 24, bytes := 24, zero := .agg #[.int .u8 0, .int .u8 0, .int .u8 0, .int .u8 0, .int .u8 0, .int .u8 0, .int .u8 0, .int .u8 0, .int .u8 0, .int .u8 0, .int .u8 0, .int .u8 0, .int .u8 0, .int .u8 0, .int .u8 0, .int .u8 0, .int .u8 0, .int .u8 0, .int .u8 0, .int .u8 0, .int .u8 0, .int .u8 0, .int .u8 0, .int .u8 0] } :=
  ⟨Tryz.underlying151, by decide, by decide, by decide, by decide, by decide, ty_info (by kernel_rfl)⟩
theorem tyOk157 : TyOk Tryz.prog 157 { k := .arr 20 124, size := 20, bytes := 160, zero := .agg #[.int .u64 0, .int .u64 0, .int .u64 0, .int .u64 0, .int .u64 0, .int .u64 0, .int .u64 0, .int .u64 0, .int .u64 0, .int .u64 0, .int .u64 0, .int .u64 0, .int .u64 0, .int .u64 0, .int .u64 0, .int .u64 0, .int .u64 0, .int .u64 0, .int .u64 0, .int .u64 0] } :=
  ⟨Tryz.underlying157, by decide, by decide, by decide, by decide, by decide, ty_info (by kernel_rfl)⟩
theorem tyOk161 : TyOk Tryz.prog 161 { k := .arr 32 5, size := 32, bytes := 32, zero := .agg #[.int .u8 0, .int .u8 0, .int .u8 0, .int .u8 0, .int .u8 0, .int .u8 0, .int .u8 0, .int .u8 0, .int .u8 0, .int .u8 0, .int .u8 0, .int .u8 0, .int .u8 0, .int .u8 0, .int .u8 0, .int .u8 0, .int .u8 0, .int .u8 0, .int .u8 0, .int .u8 0, .int .u8 0, .int .u8 0, .int .u8 0, .int .u8 0, .int .u8 0, .int .u8 0, .int .u8 0, .int .u8 0, .int .u8 0, .int .u8 0, .int .u8 0, .int .u8 0] } :=
  ⟨Tryz.underlying161, by decide, by decide, by decide, by decide, by decide, ty_info (by kernel_rfl)⟩
theorem tyOk164 : TyOk Tryz.prog 164 { k := .struct [(17, 0), (17, 1), (17, 2), (9, 3)], size := 4, bytes := 40, zero := .agg #[.pointer none, .pointer none, .pointer none, .string ⟨#[]⟩] } :=
  ⟨⟨_, Tryz.underlying164, rfl, by
      intro F hF
      simp only [List.mem_cons, List.not_mem_nil, or_false] at hF
      rcases hF with rfl | rfl | rfl | rfl
      · exact ty_has (by kernel_rfl)
      · exact ty_has (by kernel_rfl)
      · exact ty_has (by kernel_rfl)
      · exact ty_has (by kernel_rfl)⟩, by decide, by decide, by decide, by decide, by decide, ty_info (by kernel_rfl)⟩
theorem tyOk165 : TyOk Tryz.prog 165 { k := .struct [(17, 0), (17, 1), (17, 2), (9, 3)], size := 4, bytes := 40, zero := .agg #[.pointer none, .pointer none, .pointer none, .string ⟨#[]⟩] } :=
  ⟨⟨_, Tryz.underlying165, rfl, by
      intro F hF
      simp only [List.mem_cons, List.not_mem_nil, or_false] at hF
      rcases hF with rfl | rfl | rfl | rfl
      · exact ty_has (by kernel_rfl)
      · exact ty_has (by kernel_rfl)
      · exact ty_has (by kernel_rfl)
      · exact ty_has (by kernel_rfl)⟩, by decide, by decide, by decide, by decide, by decide, ty_info (by kernel_rfl)⟩
theorem tyOk170 : TyOk Tryz.prog 170 { k := .int .u8, size := 1, bytes := 1, zero := .int .u8 0 } :=
  ⟨Tryz.underlying170, by decide, by decide, by decide, by decide, by decide, ty_info (by kernel_rfl)⟩
theorem tyOk171 : TyOk Tryz.prog 171 { k := .int .u8, size := 1, bytes := 1, zero := .int .u8 0 } :=
  ⟨Tryz.underlying171, by decide, by decide, by decide, by decide, by decide, ty_info (by kernel_rfl)⟩
theorem tyOk173 : TyOk Tryz.prog 173 { k := .int .i32, size := 1, bytes := 4, zero := .int .i32 0 } :=
  ⟨Tryz.underlying173, by decide, by decide, by decide, by decide, by decide, ty_info (by kernel_rfl)⟩
theorem tyOk174 : TyOk Tryz.prog 174 { k := .int .i32, size := 1, bytes := 4, zero := .int .i32 0 } :=
  ⟨Tryz.underlying174, by decide, by decide, by decide, by decide, by decide, ty_info (by kernel_rfl)⟩
theorem tyOk175 : TyOk Tryz.prog 175 { k := .struct [(12, 0), (12, 1), (146, 2), (170, 3), (5, 4), (5, 5), (171, 6), (172, 7), (137, 8), (173, 9), (174, 10)], size := 11, bytes := 48, zero := .agg #[.int .u64 0, .int .u64 0, .int .u32 0, .int .u8 0, .int .u8 0, .int .u8 0, .int .u8 0, .nilFunc, .pointer none, .int .i32 0, .int .i32 0] } :=
  ⟨⟨_, Tryz.underlying175, rfl, by
      intro F hF
      simp only [List.mem_cons, List.not_mem_nil, or_false] at hF
      rcases hF with rfl | rfl | rfl | rfl | rfl | rfl | rfl | rfl | rfl | rfl | rfl
      · exact ty_has (by kernel_rfl)
      · exact ty_has (by kernel_rfl)
      · exact ty_has (by kernel_rfl)
      · exact ty_has (by kernel_rfl)
      · exact ty_has (by kernel_rfl)
      · exact ty_has (by kernel_rfl)
      · exact ty_has (by kernel_rfl)
      · exact ty_has (by kernel_rfl)
      · exact ty_has (by kernel_rfl)
      · exact ty_has (by kernel_rfl)
      · exact ty_has (by kernel_rfl)⟩, by decide, by decide, by decide, by decide, by decide, ty_info (by kernel_rfl)⟩
theorem tyOk176 : TyOk Tryz.prog 176 { k := .struct [(12, 0), (12, 1), (146, 2), (170, 3), (5, 4), (5, 5), (171, 6), (172, 7), (137, 8), (173, 9), (174, 10)], size := 11, bytes := 48, zero := .agg #[.int .u64 0, .int .u64 0, .int .u32 0, .int .u8 0, .int .u8 0, .int .u8 0, .int .u8 0, .nilFunc, .pointer none, .int .i32 0, .int .i32 0] } :=
  ⟨⟨_, Tryz.underlying176, rfl, by
      intro F hF
      simp only [List.mem_cons, List.not_mem_nil, or_false] at hF
      rcases hF with rfl | rfl | rfl | rfl | rfl | rfl | rfl | rfl | rfl | rfl | rfl
      · exact ty_has (by kernel_rfl)
      · exact ty_has (by kernel_rfl)
      · exact ty_has (by kernel_rfl)
      · exact ty_has (by kernel_rfl)
      · exact ty_has (by kernel_rfl)
      · exact ty_has (by kernel_rfl)
      · exact ty_has (by kernel_rfl)
      · exact ty_has (by kernel_rfl)
      · exact ty_has (by kernel_rfl)
      · exact ty_has (by kernel_rfl)
      · exact ty_has (by kernel_rfl)⟩, by decide, by decide, by decide, by decide, by decide, ty_info (by kernel_rfl)⟩
theorem tyOk1 : TyOk Tryz.prog 1 { k := .func, size := 1, bytes := 8, zero := .nilFunc } :=
  ⟨⟨_, _, _, Tryz.underlying1⟩, by decide, by decide, by decide, by decide, by decide, ty_info (by kernel_rfl)⟩
theorem tyOk15 : TyOk Tryz.prog 15 { k := .ptr, size := 1, bytes := 8, zero := .pointer none } :=
  ⟨⟨_, Tryz.underlying15⟩, by decide, by decide, by decide, by decide, by decide, ty_info (by kernel_rfl)⟩
theorem tyOk16 : TyOk Tryz.prog 16 { k := .ptr, size := 1, bytes := 8, zero := .pointer none } :=
  ⟨⟨_, Tryz.underlying16⟩, by decide, by decide, by decide, by decide, by decide, ty_info (by kernel_rfl)⟩
theorem tyOk17 : TyOk Tryz.prog 17 { k := .ptr, size := 1, bytes := 8, zero := .pointer none } :=
  ⟨⟨_, Tryz.underlying17⟩, by decide, by decide, by decide, by decide, by decide, ty_info (by kernel_rfl)⟩
theorem tyOk20 : TyOk Tryz.prog 20 { k := .ifc, size := 1, bytes := 16, zero := .nilIface } :=
  ⟨⟨_, Tryz.underlying20⟩, by decide, by decide, by decide, by decide, by decide, ty_info (by kernel_rfl)⟩
theorem tyOk28 : TyOk Tryz.prog 28 { k := .func, size := 1, bytes := 8, zero := .nilFunc } :=
  ⟨⟨_, _, _, Tryz.underlying28⟩, by decide, by decide, by decide, by decide, by decide, ty_info (by kernel_rfl)⟩
theorem tyOk29 : TyOk Tryz.prog 29 { k := .func, size := 1, bytes := 8, zero := .nilFunc } :=
  ⟨⟨_, _, _, Tryz.underlying29⟩, by decide, by decide, by decide, by decide, by decide, ty_info (by kernel_rfl)⟩
theorem tyOk30 : TyOk Tryz.prog 30 { k := .func, size := 1, bytes := 8, zero := .nilFunc } :=
  ⟨⟨_, _, _, Tryz.underlying30⟩, by decide, by decide, by decide, by decide, by decide, ty_info (by kernel_rfl)⟩
theorem tyOk32 : TyOk Tryz.prog 32 { k := .func, size := 1, bytes := 8, zero := .nilFunc } :=
  ⟨⟨_, _, _, Tryz.underlying32⟩, by decide, by decide, by decide, by decide, by decide, ty_info (by kernel_rfl)⟩
theorem tyOk33 : TyOk Tryz.prog 33 { k := .func, size := 1, bytes := 8, zero := .nilFunc } :=
  ⟨⟨_, _, _, Tryz.underlying33⟩, by decide, by decide, by decide, by decide, by decide, ty_info (by kernel_rfl)⟩
theorem tyOk37 : TyOk Tryz.prog 37 { k := .func, size := 1, bytes := 8, zero := .nilFunc } :=
  ⟨⟨_, _, _, Tryz.underlying37⟩, by decide, by decide, by decide, by decide, by decide, ty_info (by kernel_rfl)⟩
theorem tyOk38 : TyOk Tryz.prog 38 { k := .func, size := 1, bytes := 8, zero := .nilFunc } :=
  ⟨⟨_, _, _, Tryz.underlying38⟩, by decide, by decide, by decide, by decide, by decide, ty_info (by kernel_rfl)⟩
theorem tyOk39 : TyOk Tryz.prog 39 { k := .func, size := 1, bytes := 8, zero := .nilFunc } :=
  ⟨⟨_, _, _, Tryz.underlying39⟩, by decide, by decide, by decide, by decide, by decide, ty_info (by kernel_rfl)⟩
theorem tyOk42 : TyOk Tryz.prog 42 { k := .func, size := 1, bytes := 8, zero := .nilFunc } :=
  ⟨⟨_, _, _, Tryz.underlying42⟩, by decide, by decide, by decide, by decide, by decide, ty_info (by kernel_rfl)⟩
theorem tyOk43 : TyOk Tryz.prog 43 { k := .func, size := 1, bytes := 8, zero := .nilFunc } :=
  ⟨⟨_, _, _, Tryz.underlying43⟩, by decide, by decide, by decide, by decide, by decide, ty_info (by kernel_rfl)⟩
theorem tyOk44 : TyOk Tryz.prog 44 { k := .func, size := 1, bytes := 8, zero := .nilFunc } :=
  ⟨⟨_, _, _, Tryz.underlying44⟩, by decide, by decide, by decide, by decide, by decide, ty_info (by kernel_rfl)⟩
theorem tyOk46 : TyOk Tryz.prog 46 { k := .func, size := 1, bytes := 8, zero := .nilFunc } :=
  ⟨⟨_, _, _, Tryz.underlying46⟩, by decide, by decide, by decide, by decide, by decide, ty_info (by kernel_rfl)⟩
theorem tyOk47 : TyOk Tryz.prog 47 { k := .func, size := 1, bytes := 8, zero := .nilFunc } :=
  ⟨⟨_, _, _, Tryz.underlying47⟩, by decide, by decide, by decide, by decide, by decide, ty_info (by kernel_rfl)⟩
theorem tyOk48 : TyOk Tryz.prog 48 { k := .func, size := 1, bytes := 8, zero := .nilFunc } :=
  ⟨⟨_, _, _, Tryz.underlying48⟩, by decide, by decide, by decide, by decide, by decide, ty_info (by kernel_rfl)⟩
theorem tyOk51 : TyOk Tryz.prog 51 { k := .func, size := 1, bytes := 8, zero := .nilFunc } :=
  ⟨⟨_, _, _, Tryz.underlying51⟩, by decide, by decide, by decide, by decide, by decide, ty_info (by kernel_rfl)⟩
theorem tyOk52 : TyOk Tryz.prog 52 { k := .func, size := 1, bytes := 8, zero := .nilFunc } :=
  ⟨⟨_, _, _, Tryz.underlying52⟩, by decide, by decide, by decide, by decide, by decide, ty_info (by kernel_rfl)⟩
theorem tyOk54 : TyOk Tryz.prog 54 { k := .func, size := 1, bytes := 8, zero := .nilFunc } :=
  ⟨⟨_, _, _, Tryz.underlying54⟩, by decide, by decide, by decide, by decide, by decide, ty_info (by kernel_rfl)⟩
theorem tyOk55 : TyOk Tryz.prog 55 { k := .func, size := 1, bytes := 8, zero := .nilFunc } :=
  ⟨⟨_, _, _, Tryz.underlying55⟩, by decide, by decide, by decide, by decide, by decide, ty_info (by kernel_rfl)⟩
theorem tyOk56 : TyOk Tryz.prog 56 { k := .func, size := 1, bytes := 8, zero := .nilFunc } :=
  ⟨⟨_, _, _, Tryz.underlying56⟩, by decide, by decide, by decide, by decide, by decide, ty_info (by kernel_rfl)⟩
theorem tyOk59 : TyOk Tryz.prog 59 { k := .func, size := 1, bytes := 8, zero := .nilFunc } :=
  ⟨⟨_, _, _, Tryz.underlying59⟩, by decide, by decide, by decide, by decide, by decide, ty_info (by kernel_rfl)⟩
theorem tyOk60 : TyOk Tryz.prog 60 { k := .func, size := 1, bytes := 8, zero := .nilFunc } :=
  ⟨⟨_, _, _, Tryz.underlying60⟩, by decide, by decide, by decide, by decide, by decide, ty_info (by kernel_rfl)⟩
theorem tyOk61 : TyOk Tryz.prog 61 { k := .func, size := 1, bytes := 8, zero := .nilFunc } :=
  ⟨⟨_, _, _, Tryz.underlying61⟩, by decide, by decide, by decide, by decide, by decide, ty_info (by kernel_rfl)⟩
theorem tyOk62 : TyOk Tryz.prog 62 { k := .func, size := 1, bytes := 8, zero := .nilFunc } :=
  ⟨⟨_, _, _, Tryz.underlying62⟩, by decide, by decide, by decide, by decide, by decide, ty_info (by kernel_rfl)⟩
theorem tyOk65 : TyOk Tryz.prog 65 { k := .ifc, size := 1, bytes := 16, zero := .nilIface } :=
  ⟨⟨_, Tryz.underlying65⟩, by decide, by decide, by decide, by decide, by decide, ty_info (by kernel_rfl)⟩
theorem tyOk66 : TyOk Tryz.prog 66 { k := .ifc, size := 1, bytes := 16, zero := .nilIface } :=
  ⟨⟨_, Tryz.underlying66⟩, by decide, by decide, by decide, by decide, by decide, ty_info (by kernel_rfl)⟩
theorem tyOk68 : TyOk Tryz.prog 68 { k := .func, size := 1, bytes := 8, zero := .nilFunc } :=
  ⟨⟨_, _, _, Tryz.underlying68⟩, by decide, by decide, by decide, by decide, by decide, ty_info (by kernel_rfl)⟩
theorem tyOk69 : TyOk Tryz.prog 69 { k := .func, size := 1, bytes := 8, zero := .nilFunc } :=
  ⟨⟨_, _, _, Tryz.underlying69⟩, by decide, by decide, by decide, by decide, by decide, ty_info (by kernel_rfl)⟩
theorem tyOk70 : TyOk Tryz.prog 70 { k := .func, size := 1, bytes := 8, zero := .nilFunc } :=
  ⟨⟨_, _, _, Tryz.underlying70⟩, by decide, by decide, by decide, by decide, by decide, ty_info (by kernel_rfl)⟩
theorem tyOk71 : TyOk Tryz.prog 71 { k := .func, size := 1, bytes := 8, zero := .nilFunc } :=
  ⟨⟨_, _, _, Tryz.underlying71⟩, by decide, by decide, by decide, by decide, by decide, ty_info (by kernel_rfl)⟩
theorem tyOk72 : TyOk Tryz.prog 72 { k := .func, size := 1, bytes := 8, zero := .nilFunc } :=
  ⟨⟨_, _, _, Tryz.underlying72⟩, by decide, by decide, by decide, by decide, by decide, ty_info (by kernel_rfl)⟩
theorem tyOk73 : TyOk Tryz.prog 73 { k := .func, size := 1, bytes := 8, zero := .nilFunc } :=
  ⟨⟨_, _, _, Tryz.underlying73⟩, by decide, by decide, by decide, by decide, by decide, ty_info (by kernel_rfl)⟩
theorem tyOk75 : TyOk Tryz.prog 75 { k := .func, size := 1, bytes := 8, zero := .nilFunc } :=
  ⟨⟨_, _, _, Tryz.underlying75⟩, by decide, by decide, by decide, by decide, by decide, ty_info (by kernel_rfl)⟩
theorem tyOk76 : TyOk Tryz.prog 76 { k := .func, size := 1, bytes := 8, zero := .nilFunc } :=
  ⟨⟨_, _, _, Tryz.underlying76⟩, by decide, by decide, by decide, by decide, by decide, ty_info (by kernel_rfl)⟩
theorem tyOk77 : TyOk Tryz.prog 77 { k := .func, size := 1, bytes := 8, zero := .nilFunc } :=
  ⟨⟨_, _, _, Tryz.underlying77⟩, by decide, by decide, by decide, by decide, by decide, ty_info (by kernel_rfl)⟩
theorem tyOk78 : TyOk Tryz.prog 78 { k := .func, size := 1, bytes := 8, zero := .nilFunc } :=
  ⟨⟨_, _, _, Tryz.underlying78⟩, by decide, by decide, by decide, by decide, by decide, ty_info (by kernel_rfl)⟩
theorem tyOk79 : TyOk Tryz.prog 79 { k := .func, size := 1, bytes := 8, zero := .nilFunc } :=
  ⟨⟨_, _, _, Tryz.underlying79⟩, by decide, by decide, by decide, by decide, by decide, ty_info (by kernel_rfl)⟩
theorem tyOk80 : TyOk Tryz.prog 80 { k := .func, size := 1, bytes := 8, zero := .nilFunc } :=
  ⟨⟨_, _, _, Tryz.underlying80⟩, by decide, by decide, by decide, by decide, by decide, ty_info (by kernel_rfl)⟩
theorem tyOk81 : TyOk Tryz.prog 81 { k := .func, size := 1, bytes := 8, zero := .nilFunc } :=
  ⟨⟨_, _, _, Tryz.underlying81⟩, by decide, by decide, by decide, by decide, by decide, ty_info (by kernel_rfl)⟩
theorem tyOk82 : TyOk Tryz.prog 82 { k := .func, size := 1, bytes := 8, zero := .nilFunc } :=
  ⟨⟨_, _, _, Tryz.underlying82⟩, by decide, by decide, by decide, by decide, by decide, ty_info (by kernel_rfl)⟩
theorem tyOk83 : TyOk Tryz.prog 83 { k := .func, size := 1, bytes := 8, zero := .nilFunc } :=
  ⟨⟨_, _, _, Tryz.underlying83⟩, by decide, by decide, by decide, by decide, by decide, ty_info (by kernel_rfl)⟩
theorem tyOk84 : TyOk Tryz.prog 84 { k := .func, size := 1, bytes := 8, zero := .nilFunc } :=
  ⟨⟨_, _, _, Tryz.underlying84⟩, by decide, by decide, by decide, by decide, by decide, ty_info (by kernel_rfl)⟩
theorem tyOk85 : TyOk Tryz.prog 85 { k := .func, size := 1, bytes := 8, zero := .nilFunc } :=
  ⟨⟨_, _, _, Tryz.underlying85⟩, by decide, by decide, by decide, by decide, by decide, ty_info (by kernel_rfl)⟩
theorem tyOk86 : TyOk Tryz.prog 86 { k := .func, size := 1, bytes := 8, zero := .nilFunc } :=
  ⟨⟨_, _, _, Tryz.underlying86⟩, by decide, by decide, by decide, by decide, by decide, ty_info (by kernel_rfl)⟩
theorem tyOk87 : TyOk Tryz.prog 87 { k := .map .str 9 4, size := 1, bytes := 8, zero := .map none } :=
  ⟨⟨Tryz.underlying87, Go.Maps.string_keyed Tryz.underlying9, fun v ⟨s, hv, hs⟩ => ⟨_, hv ▸ Go.WideMaps.keyOf_string_mk Tryz.underlying9 hs⟩⟩, by decide, by decide, by decide, by decide, by decide, ty_info (by kernel_rfl)⟩
theorem tyOk88 : TyOk Tryz.prog 88 { k := .func, size := 1, bytes := 8, zero := .nilFunc } :=
  ⟨⟨_, _, _, Tryz.underlying88⟩, by decide, by decide, by decide, by decide, by decide, ty_info (by kernel_rfl)⟩
theorem tyOk89 : TyOk Tryz.prog 89 { k := .func, size := 1, bytes := 8, zero := .nilFunc } :=
  ⟨⟨_, _, _, Tryz.underlying89⟩, by decide, by decide, by decide, by decide, by decide, ty_info (by kernel_rfl)⟩
theorem tyOk90 : TyOk Tryz.prog 90 { k := .func, size := 1, bytes := 8, zero := .nilFunc } :=
  ⟨⟨_, _, _, Tryz.underlying90⟩, by decide, by decide, by decide, by decide, by decide, ty_info (by kernel_rfl)⟩
theorem tyOk91 : TyOk Tryz.prog 91 { k := .func, size := 1, bytes := 8, zero := .nilFunc } :=
  ⟨⟨_, _, _, Tryz.underlying91⟩, by decide, by decide, by decide, by decide, by decide, ty_info (by kernel_rfl)⟩
theorem tyOk92 : TyOk Tryz.prog 92 { k := .func, size := 1, bytes := 8, zero := .nilFunc } :=
  ⟨⟨_, _, _, Tryz.underlying92⟩, by decide, by decide, by decide, by decide, by decide, ty_info (by kernel_rfl)⟩
theorem tyOk93 : TyOk Tryz.prog 93 { k := .func, size := 1, bytes := 8, zero := .nilFunc } :=
  ⟨⟨_, _, _, Tryz.underlying93⟩, by decide, by decide, by decide, by decide, by decide, ty_info (by kernel_rfl)⟩
theorem tyOk94 : TyOk Tryz.prog 94 { k := .func, size := 1, bytes := 8, zero := .nilFunc } :=
  ⟨⟨_, _, _, Tryz.underlying94⟩, by decide, by decide, by decide, by decide, by decide, ty_info (by kernel_rfl)⟩
theorem tyOk96 : TyOk Tryz.prog 96 { k := .func, size := 1, bytes := 8, zero := .nilFunc } :=
  ⟨⟨_, _, _, Tryz.underlying96⟩, by decide, by decide, by decide, by decide, by decide, ty_info (by kernel_rfl)⟩
theorem tyOk97 : TyOk Tryz.prog 97 { k := .func, size := 1, bytes := 8, zero := .nilFunc } :=
  ⟨⟨_, _, _, Tryz.underlying97⟩, by decide, by decide, by decide, by decide, by decide, ty_info (by kernel_rfl)⟩
theorem tyOk98 : TyOk Tryz.prog 98 { k := .func, size := 1, bytes := 8, zero := .nilFunc } :=
  ⟨⟨_, _, _, Tryz.underlying98⟩, by decide, by decide, by decide, by decide, by decide, ty_info (by kernel_rfl)⟩
theorem tyOk99 : TyOk Tryz.prog 99 { k := .func, size := 1, bytes := 8, zero := .nilFunc } :=
  ⟨⟨_, _, _, Tryz.underlying99⟩, by decide, by decide, by decide, by decide, by decide, ty_info (by kernel_rfl)⟩
theorem tyOk100 : TyOk Tryz.prog 100 { k := .func, size := 1, bytes := 8, zero := .nilFunc } :=
  ⟨⟨_, _, _, Tryz.underlying100⟩, by decide, by decide, by decide, by decide, by decide, ty_info (by kernel_rfl)⟩
theorem tyOk101 : TyOk Tryz.prog 101 { k := .func, size := 1, bytes := 8, zero := .nilFunc } :=
  ⟨⟨_, _, _, Tryz.underlying101⟩, by decide, by decide, by decide, by decide, by decide, ty_info (by kernel_rfl)⟩
theorem tyOk103 : TyOk Tryz.prog 103 { k := .func, size := 1, bytes := 8, zero := .nilFunc } :=
  ⟨⟨_, _, _, Tryz.underlying103⟩, by decide, by decide, by decide, by decide, by decide, ty_info (by kernel_rfl)⟩
theorem tyOk104 : TyOk Tryz.prog 104 { k := .func, size := 1, bytes := 8, zero := .nilFunc } :=
  ⟨⟨_, _, _, Tryz.underlying104⟩, by decide, by decide, by decide, by decide, by decide, ty_info (by kernel_rfl)⟩
theorem tyOk108 : TyOk Tryz.prog 108 { k := .func, size := 1, bytes := 8, zero := .nilFunc } :=
  ⟨⟨_, _, _, Tryz.underlying108⟩, by decide, by decide, by decide, by decide, by decide, ty_info (by kernel_rfl)⟩
theorem tyOk109 : TyOk Tryz.prog 109 { k := .ptr, size := 1, bytes := 8, zero := .pointer none } :=
  ⟨⟨_, Tryz.underlying109⟩, by decide, by decide, by decide, by decide, by decide, ty_info (by kernel_rfl)⟩
theorem tyOk110 : TyOk Tryz.prog 110 { k := .func, size := 1, bytes := 8, zero := .nilFunc } :=
  ⟨⟨_, _, _, Tryz.underlying110⟩, by decide, by decide, by decide, by decide, by decide, ty_info (by kernel_rfl)⟩
theorem tyOk111 : TyOk Tryz.prog 111 { k := .func, size := 1, bytes := 8, zero := .nilFunc } :=
  ⟨⟨_, _, _, Tryz.underlying111⟩, by decide, by decide, by decide, by decide, by decide, ty_info (by kernel_rfl)⟩
theorem tyOk112 : TyOk Tryz.prog 112 { k := .func, size := 1, bytes := 8, zero := .nilFunc } :=
  ⟨⟨_, _, _, Tryz.underlying112⟩, by decide, by decide, by decide, by decide, by decide, ty_info (by kernel_rfl)⟩
theorem tyOk116 : TyOk Tryz.prog 116 { k := .func, size := 1, bytes := 8, zero := .nilFunc } :=
  ⟨⟨_, _, _, Tryz.underlying116⟩, by decide, by decide, by decide, by decide, by decide, ty_info (by kernel_rfl)⟩
theorem tyOk117 : TyOk Tryz.prog 117 { k := .func, size := 1, bytes := 8, zero := .nilFunc } :=
  ⟨⟨_, _, _, Tryz.underlying117⟩, by decide, by decide, by decide, by decide, by decide, ty_info (by kernel_rfl)⟩
theorem tyOk118 : TyOk Tryz.prog 118 { k := .ptr, size := 1, bytes := 8, zero := .pointer none } :=
  ⟨⟨_, Tryz.underlying118⟩, by decide, by decide, by decide, by decide, by decide, ty_info (by kernel_rfl)⟩
theorem tyOk119 : TyOk Tryz.prog 119 { k := .func, size := 1, bytes := 8, zero := .nilFunc } :=
  ⟨⟨_, _, _, Tryz.underlying119⟩, by decide, by decide, by decide, by decide, by decide, ty_info (by kernel_rfl)⟩
theorem tyOk120 : TyOk Tryz.prog 120 { k := .func, size := 1, bytes := 8, zero := .nilFunc } :=
  ⟨⟨_, _, _, Tryz.underlying120⟩, by decide, by decide, by decide, by decide, by decide, ty_info (by kernel_rfl)⟩
theorem tyOk122 : TyOk Tryz.prog 122 { k := .func, size := 1, bytes := 8, zero := .nilFunc } :=
  ⟨⟨_, _, _, Tryz.underlying122⟩, by decide, by decide, by decide, by decide, by decide, ty_info (by kernel_rfl)⟩
theorem tyOk123 : TyOk Tryz.prog 123 { k := .func, size := 1, bytes := 8, zero := .nilFunc } :=
  ⟨⟨_, _, _, Tryz.underlying123⟩, by decide, by decide, by decide, by decide, by decide, ty_info (by kernel_rfl)⟩
theorem tyOk126 : TyOk Tryz.prog 126 { k := .func, size := 1, bytes := 8, zero := .nilFunc } :=
  ⟨⟨_, _, _, Tryz.underlying126⟩, by decide, by decide, by decide, by decide, by decide, ty_info (by kernel_rfl)⟩
theorem tyOk127 : TyOk Tryz.prog 127 { k := .func, size := 1, bytes := 8, zero := .nilFunc } :=
  ⟨⟨_, _, _, Tryz.underlying127⟩, by decide, by decide, by decide, by decide, by decide, ty_info (by kernel_rfl)⟩
theorem tyOk130 : TyOk Tryz.prog 130 { k := .func, size := 1, bytes := 8, zero := .nilFunc } :=
  ⟨⟨_, _, _, Tryz.underlying130⟩, by decide, by decide, by decide, by decide, by decide, ty_info (by kernel_rfl)⟩
theorem tyOk131 : TyOk Tryz.prog 131 { k := .func, size := 1, bytes := 8, zero := .nilFunc } :=
  ⟨⟨_, _, _, Tryz.underlying131⟩, by decide, by decide, by decide, by decide, by decide, ty_info (by kernel_rfl)⟩
theorem tyOk132 : TyOk Tryz.prog 132 { k := .func, size := 1, bytes := 8, zero := .nilFunc } :=
  ⟨⟨_, _, _, Tryz.underlying132⟩, by decide, by decide, by decide, by decide, by decide, ty_info (by kernel_rfl)⟩
theorem tyOk133 : TyOk Tryz.prog 133 { k := .func, size := 1, bytes := 8, zero := .nilFunc } :=
  ⟨⟨_, _, _, Tryz.underlying133⟩, by decide, by decide, by decide, by decide, by decide, ty_info (by kernel_rfl)⟩
theorem tyOk134 : TyOk Tryz.prog 134 { k := .func, size := 1, bytes := 8, zero := .nilFunc } :=
  ⟨⟨_, _, _, Tryz.underlying134⟩, by decide, by decide, by decide, by decide, by decide, ty_info (by kernel_rfl)⟩
theorem tyOk135 : TyOk Tryz.prog 135 { k := .func, size := 1, bytes := 8, zero := .nilFunc } :=
  ⟨⟨_, _, _, Tryz.underlying135⟩, by decide, by decide, by decide, by decide, by decide, ty_info (by kernel_rfl)⟩
theorem tyOk136 : TyOk Tryz.prog 136 { k := .func, size := 1, bytes := 8, zero := .nilFunc } :=
  ⟨⟨_, _, _, Tryz.underlying136⟩, by decide, by decide, by decide, by decide, by decide, ty_info (by kernel_rfl)⟩
theorem tyOk137 : TyOk Tryz.prog 137 { k := .ptr, size := 1, bytes := 8, zero := .pointer none } :=
  ⟨⟨_, Tryz.underlying137⟩, by decide, by decide, by decide, by decide, by decide, ty_info (by kernel_rfl)⟩
theorem tyOk138 : TyOk Tryz.prog 138 { k := .ptr, size := 1, bytes := 8, zero := .pointer none } :=
  ⟨⟨_, Tryz.underlying138⟩, by decide, by decide, by decide, by decide, by decide, ty_info (by kernel_rfl)⟩
theorem tyOk141 : TyOk Tryz.prog 141 { k := .func, size := 1, bytes := 8, zero := .nilFunc } :=
  ⟨⟨_, _, _, Tryz.underlying141⟩, by decide, by decide, by decide, by decide, by decide, ty_info (by kernel_rfl)⟩
theorem tyOk148 : TyOk Tryz.prog 148 { k := .func, size := 1, bytes := 8, zero := .nilFunc } :=
  ⟨⟨_, _, _, Tryz.underlying148⟩, by decide, by decide, by decide, by decide, by decide, ty_info (by kernel_rfl)⟩
theorem tyOk149 : TyOk Tryz.prog 149 { k := .func, size := 1, bytes := 8, zero := .nilFunc } :=
  ⟨⟨_, _, _, Tryz.underlying149⟩, by decide, by decide, by decide, by decide, by decide, ty_info (by kernel_rfl)⟩
theorem tyOk150 : TyOk Tryz.prog 150 { k := .func, size := 1, bytes := 8, zero := .nilFunc } :=
  ⟨⟨_, _, _, Tryz.underlying150⟩, by decide, by decide, by decide, by decide, by decide, ty_info (by kernel_rfl)⟩
theorem tyOk152 : TyOk Tryz.prog 152 { k := .func, size := 1, bytes := 8, zero := .nilFunc } :=
  ⟨⟨_, _, _, Tryz.underlying152⟩, by decide, by decide, by decide, by decide, by decide, ty_info (by kernel_rfl)⟩
theorem tyOk153 : TyOk Tryz.prog 153 { k := .func, size := 1, bytes := 8, zero := .nilFunc } :=
  ⟨⟨_, _, _, Tryz.underlying153⟩, by decide, by decide, by decide, by decide, by decide, ty_info (by kernel_rfl)⟩
theorem tyOk155 : TyOk Tryz.prog 155 { k := .func, size := 1, bytes := 8, zero := .nilFunc } :=
  ⟨⟨_, _, _, Tryz.underlying155⟩, by decide, by decide, by decide, by decide, by decide, ty_info (by kernel_rfl)⟩
theorem tyOk156 : TyOk Tryz.prog 156 { k := .func, size := 1, bytes := 8, zero := .nilFunc } :=
  ⟨⟨_, _, _, Tryz.underlying156⟩, by decide, by decide, by decide, by decide, by decide, ty_info (by kernel_rfl)⟩
theorem tyOk159 : TyOk Tryz.prog 159 { k := .func, size := 1, bytes := 8, zero := .nilFunc } :=
  ⟨⟨_, _, _, Tryz.underlying159⟩, by decide, by decide, by decide, by decide, by decide, ty_info (by kernel_rfl)⟩
theorem tyOk160 : TyOk Tryz.prog 160 { k := .func, size := 1, bytes := 8, zero := .nilFunc } :=
  ⟨⟨_, _, _, Tryz.underlying160⟩, by decide, by decide, by decide, by decide, by decide, ty_info (by kernel_rfl)⟩
theorem tyOk163 : TyOk Tryz.prog 163 { k := .func, size := 1, bytes := 8, zero := .nilFunc } :=
  ⟨⟨_, _, _, Tryz.underlying163⟩, by decide, by decide, by decide, by decide, by decide, ty_info (by kernel_rfl)⟩
theorem tyOk169 : TyOk Tryz.prog 169 { k := .func, size := 1, bytes := 8, zero := .nilFunc } :=
  ⟨⟨_, _, _, Tryz.underlying169⟩, by decide, by decide, by decide, by decide, by decide, ty_info (by kernel_rfl)⟩
theorem tyOk172 : TyOk Tryz.prog 172 { k := .func, size := 1, bytes := 8, zero := .nilFunc } :=
  ⟨⟨_, _, _, Tryz.underlying172⟩, by decide, by decide, by decide, by decide, by decide, ty_info (by kernel_rfl)⟩
def TabOk (P : Program) : List (Nat × TyI) → Prop
  | [] => True
  | p :: r => TyOk P p.1 p.2 ∧ TabOk P r
theorem TabOk.mem {P : Program} : ∀ {l : List (Nat × TyI)}, TabOk P l → ∀ {p : Nat × TyI}, p ∈ l → TyOk P p.1 p.2
  | [], _, p, h => by cases h
  | q :: r, hl, p, h => by
    rcases List.mem_cons.1 h with rfl | h
    · exact hl.1
    · exact TabOk.mem hl.2 h
set_option maxHeartbeats 4000000 in
theorem tyTab_ok : TabOk Tryz.prog tyTab :=
  ⟨tyOk2, tyOk3, tyOk4, tyOk5, tyOk6, tyOk7, tyOk8, tyOk9, tyOk10, tyOk11, tyOk12, tyOk13, tyOk14, tyOk18, tyOk19, tyOk21, tyOk22, tyOk23, tyOk24, tyOk25, tyOk26, tyOk31, tyOk34, tyOk35, tyOk36, tyOk40, tyOk49, tyOk50, tyOk57, tyOk58, tyOk63, tyOk64, tyOk95, tyOk102, tyOk105, tyOk106, tyOk124, tyOk128, tyOk129, tyOk139, tyOk140, tyOk143, tyOk144, tyOk145, tyOk146, tyOk151, tyOk157, tyOk161, tyOk164, tyOk165, tyOk170, tyOk171, tyOk173, tyOk174, tyOk175, tyOk176, tyOk1, tyOk15, tyOk16, tyOk17, tyOk20, tyOk28, tyOk29, tyOk30, tyOk32, tyOk33, tyOk37, tyOk38, tyOk39, tyOk42, tyOk43, tyOk44, tyOk46, tyOk47, tyOk48, tyOk51, tyOk52, tyOk54, tyOk55, tyOk56, tyOk59, tyOk60, tyOk61, tyOk62, tyOk65, tyOk66, tyOk68, tyOk69, tyOk70, tyOk71, tyOk72, tyOk73, tyOk75, tyOk76, tyOk77, tyOk78, tyOk79, tyOk80, tyOk81, tyOk82, tyOk83, tyOk84, tyOk85, tyOk86, tyOk87, tyOk88, tyOk89, tyOk90, tyOk91, tyOk92, tyOk93, tyOk94, tyOk96, tyOk97, tyOk98, tyOk99, tyOk100, tyOk101, tyOk103, tyOk104, tyOk108, tyOk109, tyOk110, tyOk111, tyOk112, tyOk116, tyOk117, tyOk118, tyOk119, tyOk120, tyOk122, tyOk123, tyOk126, tyOk127, tyOk130, tyOk131, tyOk132, tyOk133, tyOk134, tyOk135, tyOk136, tyOk137, tyOk138, tyOk141, tyOk148, tyOk149, tyOk150, tyOk152, tyOk153, tyOk155, tyOk156, tyOk159, tyOk160, tyOk163, tyOk169, tyOk172, trivial⟩
theorem tyT_all (t : TypeId) : TyOk Tryz.prog t (tyT t) := by
  unfold tyT
  split
  · rename_i i h
    exact tyTab_ok.mem (findB_mem h)
  · trivial
/-- Struct types of plain fields. -/
def seTab : List Nat := [64]
def seB (t : TypeId) : Bool := elemB seTab t
def SeOk (P : Program) : List Nat → Prop
  | [] => True
  | t :: r => SOk P t ∧ SeOk P r
theorem SeOk.mem {P : Program} : ∀ {l : List Nat}, SeOk P l → ∀ {t : Nat}, elemB l t = true → SOk P t
  | [], _, t, h => by cases h
  | q :: r, hl, t, h => by
    unfold elemB at h
    split at h
    · rename_i e
      rw [Nat.eq_of_beq_eq_true e]
      exact hl.1
    · exact SeOk.mem hl.2 h
theorem seTab_ok : SeOk Tryz.prog seTab := ⟨⟨Tryz.stoodInHeld64, Tryz.eqGuardType64, by kernel_rfl⟩, trivial⟩
/-- What the program says of its types. -/
structure TyS (P : Program) : Prop where
  ty : ∀ t, TyOk P t (tyT t)
  se : ∀ t, seB t = true → SOk P t
theorem tyT_ok : TyS Tryz.prog := ⟨tyT_all, fun _ h => seTab_ok.mem h⟩
end Go.Proofs.YtjbgafbijamckaaGreatDoor
