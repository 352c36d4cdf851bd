/-
  The table of this program's types that the readings know, each entry proved. Written by a program.
-/
import Derived.Test.YtkjflkbjepdaaaaDoorN17
import Derived.Test.YtkjflkbjepdaaaaDoorProg
namespace Go.Proofs.YtkjflkbjepdaaaaDoor
open Go.RowKit
set_option maxRecDepth 100000

def tyTab : List (Nat × TyI) :=
  [(2, { k := .int .i64, size := 1, bytes := 8, zero := .int .i64 0 }),
   (3, { k := .int .i64, size := 1, bytes := 8, zero := .int .i64 0 }),
   (4, { k := .bool, size := 1, bytes := 1, zero := .bool false }),
   (5, { k := .int .u8, size := 1, bytes := 1, zero := .int .u8 0 }),
   (6, { k := .int .u8, size := 1, bytes := 1, zero := .int .u8 0 }),
   (7, { k := .struct [(2, 0), (3, 1), (4, 2), (6, 3)], size := 4, bytes := 24, zero := .agg #[.int .i64 0, .int .i64 0, .bool false, .int .u8 0] }),
   (8, { k := .struct [(2, 0), (3, 1), (4, 2), (6, 3)], size := 4, bytes := 24, zero := .agg #[.int .i64 0, .int .i64 0, .bool false, .int .u8 0] }),
   (9, { k := .str, size := 1, bytes := 16, zero := .string ⟨#[]⟩ }),
   (10, { k := .str, size := 1, bytes := 16, zero := .string ⟨#[]⟩ }),
   (11, { k := .str, size := 1, bytes := 16, zero := .string ⟨#[]⟩ }),
   (12, { k := .int .u64, size := 1, bytes := 8, zero := .int .u64 0 }),
   (13, { k := .struct [(9, 0), (12, 1)], size := 2, bytes := 24, zero := .agg #[.string ⟨#[]⟩, .int .u64 0] }),
   (14, { k := .struct [(9, 0), (12, 1)], size := 2, bytes := 24, zero := .agg #[.string ⟨#[]⟩, .int .u64 0] }),
   (18, { k := .struct [(17, 0)], size := 1, bytes := 8, zero := .agg #[.pointer none] }),
   (19, { k := .struct [(17, 0)], size := 1, bytes := 8, zero := .agg #[.pointer none] }),
   (21, { k := .int .i32, size := 1, bytes := 4, zero := .int .i32 0 }),
   (22, { k := .sl 9, size := 1, bytes := 24, zero := .slice none 0 0 }),
   (23, { k := .sl 3, size := 1, bytes := 24, zero := .slice none 0 0 }),
   (24, { k := .struct [(9, 0), (22, 1), (23, 2)], size := 3, bytes := 64, zero := .agg #[.string ⟨#[]⟩, .slice none 0 0, .slice none 0 0] }),
   (25, { k := .struct [(9, 0), (22, 1), (23, 2)], size := 3, bytes := 64, zero := .agg #[.string ⟨#[]⟩, .slice none 0 0, .slice none 0 0] }),
   (26, { k := .int .i64, size := 1, bytes := 8, zero := .int .i64 0 }),
   (32, { k := .sl 62, size := 1, bytes := 24, zero := .slice none 0 0 }),
   (33, { k := .struct [(32, 0)], size := 1, bytes := 24, zero := .agg #[.slice none 0 0] }),
   (34, { k := .struct [(32, 0)], size := 1, bytes := 24, zero := .agg #[.slice none 0 0] }),
   (37, { k := .sl 39, size := 1, bytes := 24, zero := .slice none 0 0 }),
   (38, { k := .struct [(3, 0), (4, 1), (3, 2), (9, 3), (37, 4), (22, 5)], size := 6, bytes := 88, zero := .agg #[.int .i64 0, .bool false, .int .i64 0, .string ⟨#[]⟩, .slice none 0 0, .slice none 0 0] }),
   (39, { k := .struct [(3, 0), (4, 1), (3, 2), (9, 3), (37, 4), (22, 5)], size := 6, bytes := 88, zero := .agg #[.int .i64 0, .bool false, .int .i64 0, .string ⟨#[]⟩, .slice none 0 0, .slice none 0 0] }),
   (43, { k := .sl 71, size := 1, bytes := 24, zero := .slice none 0 0 }),
   (44, { k := .struct [(43, 0), (4, 1)], size := 2, bytes := 32, zero := .agg #[.slice none 0 0, .bool false] }),
   (45, { k := .struct [(43, 0), (4, 1)], size := 2, bytes := 32, zero := .agg #[.slice none 0 0, .bool false] }),
   (61, { k := .struct [(3, 0), (3, 1), (3, 2), (3, 3), (32, 4)], size := 5, bytes := 56, zero := .agg #[.int .i64 0, .int .i64 0, .int .i64 0, .int .i64 0, .slice none 0 0] }),
   (62, { k := .struct [(3, 0), (3, 1), (3, 2), (3, 3), (32, 4)], size := 5, bytes := 56, zero := .agg #[.int .i64 0, .int .i64 0, .int .i64 0, .int .i64 0, .slice none 0 0] }),
   (70, { k := .struct [(9, 0), (3, 1), (4, 2), (4, 3), (3, 4), (3, 5), (22, 6), (39, 7)], size := 13, bytes := 160, zero := .agg #[.string ⟨#[]⟩, .int .i64 0, .bool false, .bool false, .int .i64 0, .int .i64 0, .slice none 0 0, .int .i64 0, .bool false, .int .i64 0, .string ⟨#[]⟩, .slice none 0 0, .slice none 0 0] }),
   (71, { k := .struct [(9, 0), (3, 1), (4, 2), (4, 3), (3, 4), (3, 5), (22, 6), (39, 7)], size := 13, bytes := 160, zero := .agg #[.string ⟨#[]⟩, .int .i64 0, .bool false, .bool false, .int .i64 0, .int .i64 0, .slice none 0 0, .int .i64 0, .bool false, .int .i64 0, .string ⟨#[]⟩, .slice none 0 0, .slice none 0 0] }),
   (79, { k := .sl 5, size := 1, bytes := 24, zero := .slice none 0 0 }),
   (80, { k := .struct [(78, 0), (79, 1)], size := 2, bytes := 32, zero := .agg #[.pointer none, .slice none 0 0] }),
   (81, { k := .struct [(78, 0), (79, 1)], size := 2, bytes := 32, zero := .agg #[.pointer none, .slice none 0 0] }),
   (104, { k := .sl 125, size := 1, bytes := 24, zero := .slice none 0 0 }),
   (112, { k := .arr 24 5, size := 24, bytes := 24, zero := .agg #[.int .u8 0, .int .u8 0, .int .u8 0, .int .u8 0, .int .u8 0, .int .u8 0, .int .u8 0, .int .u8 0, .int .u8 0, .int .u8 0, .int .u8 0, .int .u8 0, .int .u8 0, .int .u8 0, .int .u8 0, .int .u8 0, .int .u8 0, .int .u8 0, .int .u8 0, .int .u8 0, .int .u8 0, .int .u8 0, .int .u8 0, .int .u8 0] }),
   (113, { k := .int .u64, size := 1, bytes := 8, zero := .int .u64 0 }),
   (124, { k := .struct [(9, 0), (3, 1), (4, 2)], size := 3, bytes := 32, zero := .agg #[.string ⟨#[]⟩, .int .i64 0, .bool false] }),
   (125, { k := .struct [(9, 0), (3, 1), (4, 2)], size := 3, bytes := 32, zero := .agg #[.string ⟨#[]⟩, .int .i64 0, .bool false] }),
   (136, { k := .arr 20 113, size := 20, bytes := 160, zero := .agg #[.int .u64 0, .int .u64 0, .int .u64 0, .int .u64 0, .int .u64 0, .int .u64 0, .int .u64 0, .int .u64 0, .int .u64 0, .int .u64 0, .int .u64 0, .int .u64 0, .int .u64 0, .int .u64 0, .int .u64 0, .int .u64 0, .int .u64 0, .int .u64 0, .int .u64 0, .int .u64 0] }),
   (137, { k := .int .u32, size := 1, bytes := 4, zero := .int .u32 0 }),
   (139, { k := .int .u64, size := 1, bytes := 8, zero := .int .u64 0 }),
   (157, { k := .int .i64, size := 1, bytes := 8, zero := .int .i64 0 }),
   (163, { k := .int .i64, size := 1, bytes := 8, zero := .int .i64 0 }),
   (170, { k := .arr 32 5, size := 32, bytes := 32, zero := .agg #[.int .u8 0, .int .u8 0, .int .u8 0, .int .u8 0, .int .u8 0, .int .u8 0, .int .u8 0, .int .u8 0, .int .u8 0, .int .u8 0, .int .u8 0, .int .u8 0, .int .u8 0, .int .u8 0, .int .u8 0, .int .u8 0, .int .u8 0, .int .u8 0, .int .u8 0, .int .u8 0, .int .u8 0, .int .u8 0, .int .u8 0, .int .u8 0, .int .u8 0, .int .u8 0, .int .u8 0, .int .u8 0, .int .u8 0, .int .u8 0, .int .u8 0, .int .u8 0] }),
   (172, { k := .int .u64, size := 1, bytes := 8, zero := .int .u64 0 }),
   (180, { k := .struct [(9, 0), (9, 1), (83, 2)], size := 3, bytes := 48, zero := .agg #[.string ⟨#[]⟩, .string ⟨#[]⟩, .nilIface] }),
   (181, { k := .struct [(9, 0), (9, 1), (83, 2)], size := 3, bytes := 48, zero := .agg #[.string ⟨#[]⟩, .string ⟨#[]⟩, .nilIface] }),
   (186, { k := .struct [(5, 0), (5, 1)], size := 2, bytes := 2, zero := .agg #[.int .u8 0, .int .u8 0] }),
   (187, { k := .struct [(5, 0), (5, 1)], size := 2, bytes := 2, zero := .agg #[.int .u8 0, .int .u8 0] }),
   (188, { k := .arr 16 187, size := 32, bytes := 32, zero := .agg #[.int .u8 0, .int .u8 0, .int .u8 0, .int .u8 0, .int .u8 0, .int .u8 0, .int .u8 0, .int .u8 0, .int .u8 0, .int .u8 0, .int .u8 0, .int .u8 0, .int .u8 0, .int .u8 0, .int .u8 0, .int .u8 0, .int .u8 0, .int .u8 0, .int .u8 0, .int .u8 0, .int .u8 0, .int .u8 0, .int .u8 0, .int .u8 0, .int .u8 0, .int .u8 0, .int .u8 0, .int .u8 0, .int .u8 0, .int .u8 0, .int .u8 0, .int .u8 0] }),
   (194, { k := .struct [(9, 0)], size := 1, bytes := 16, zero := .agg #[.string ⟨#[]⟩] }),
   (195, { k := .struct [(9, 0)], size := 1, bytes := 16, zero := .agg #[.string ⟨#[]⟩] }),
   (196, { k := .struct [(17, 0), (17, 1), (17, 2), (9, 3)], size := 4, bytes := 40, zero := .agg #[.pointer none, .pointer none, .pointer none, .string ⟨#[]⟩] }),
   (197, { k := .struct [(17, 0), (17, 1), (17, 2), (9, 3)], size := 4, bytes := 40, zero := .agg #[.pointer none, .pointer none, .pointer none, .string ⟨#[]⟩] }),
   (202, { k := .int .u8, size := 1, bytes := 1, zero := .int .u8 0 }),
   (203, { k := .int .u8, size := 1, bytes := 1, zero := .int .u8 0 }),
   (205, { k := .int .i32, size := 1, bytes := 4, zero := .int .i32 0 }),
   (206, { k := .int .i32, size := 1, bytes := 4, zero := .int .i32 0 }),
   (207, { k := .struct [(12, 0), (12, 1), (137, 2), (202, 3), (5, 4), (5, 5), (203, 6), (204, 7), (118, 8), (205, 9), (206, 10)], size := 11, bytes := 48, zero := .agg #[.int .u64 0, .int .u64 0, .int .u32 0, .int .u8 0, .int .u8 0, .int .u8 0, .int .u8 0, .nilFunc, .pointer none, .int .i32 0, .int .i32 0] }),
   (208, { k := .struct [(12, 0), (12, 1), (137, 2), (202, 3), (5, 4), (5, 5), (203, 6), (204, 7), (118, 8), (205, 9), (206, 10)], size := 11, bytes := 48, zero := .agg #[.int .u64 0, .int .u64 0, .int .u32 0, .int .u8 0, .int .u8 0, .int .u8 0, .int .u8 0, .nilFunc, .pointer none, .int .i32 0, .int .i32 0] }),
   (1, { k := .func, size := 1, bytes := 8, zero := .nilFunc }),
   (15, { k := .ptr, size := 1, bytes := 8, zero := .pointer none }),
   (16, { k := .ptr, size := 1, bytes := 8, zero := .pointer none }),
   (17, { k := .ptr, size := 1, bytes := 8, zero := .pointer none }),
   (20, { k := .ifc, size := 1, bytes := 16, zero := .nilIface }),
   (28, { k := .func, size := 1, bytes := 8, zero := .nilFunc }),
   (29, { k := .func, size := 1, bytes := 8, zero := .nilFunc }),
   (30, { k := .func, size := 1, bytes := 8, zero := .nilFunc }),
   (31, { k := .func, size := 1, bytes := 8, zero := .nilFunc }),
   (35, { k := .func, size := 1, bytes := 8, zero := .nilFunc }),
   (36, { k := .func, size := 1, bytes := 8, zero := .nilFunc }),
   (41, { k := .func, size := 1, bytes := 8, zero := .nilFunc }),
   (42, { k := .func, size := 1, bytes := 8, zero := .nilFunc }),
   (46, { k := .func, size := 1, bytes := 8, zero := .nilFunc }),
   (47, { k := .func, size := 1, bytes := 8, zero := .nilFunc }),
   (48, { k := .func, size := 1, bytes := 8, zero := .nilFunc }),
   (49, { k := .func, size := 1, bytes := 8, zero := .nilFunc }),
   (50, { k := .func, size := 1, bytes := 8, zero := .nilFunc }),
   (51, { k := .func, size := 1, bytes := 8, zero := .nilFunc }),
   (52, { k := .func, size := 1, bytes := 8, zero := .nilFunc }),
   (53, { k := .func, size := 1, bytes := 8, zero := .nilFunc }),
   (54, { k := .func, size := 1, bytes := 8, zero := .nilFunc }),
   (55, { k := .func, size := 1, bytes := 8, zero := .nilFunc }),
   (56, { k := .func, size := 1, bytes := 8, zero := .nilFunc }),
   (57, { k := .func, size := 1, bytes := 8, zero := .nilFunc }),
   (58, { k := .func, size := 1, bytes := 8, zero := .nilFunc }),
   (59, { k := .func, size := 1, bytes := 8, zero := .nilFunc }),
   (60, { k := .func, size := 1, bytes := 8, zero := .nilFunc }),
   (63, { k := .func, size := 1, bytes := 8, zero := .nilFunc }),
   (64, { k := .func, size := 1, bytes := 8, zero := .nilFunc }),
   (65, { k := .func, size := 1, bytes := 8, zero := .nilFunc }),
   (66, { k := .func, size := 1, bytes := 8, zero := .nilFunc }),
   (67, { k := .func, size := 1, bytes := 8, zero := .nilFunc }),
   (68, { k := .func, size := 1, bytes := 8, zero := .nilFunc }),
   (69, { k := .map .str 9 4, size := 1, bytes := 8, zero := .map none }),
   (72, { k := .func, size := 1, bytes := 8, zero := .nilFunc }),
   (73, { k := .func, size := 1, bytes := 8, zero := .nilFunc }),
   (74, { k := .func, size := 1, bytes := 8, zero := .nilFunc }),
   (75, { k := .func, size := 1, bytes := 8, zero := .nilFunc }),
   (76, { k := .func, size := 1, bytes := 8, zero := .nilFunc }),
   (77, { k := .func, size := 1, bytes := 8, zero := .nilFunc }),
   (78, { k := .ptr, size := 1, bytes := 8, zero := .pointer none }),
   (82, { k := .ifc, size := 1, bytes := 16, zero := .nilIface }),
   (83, { k := .ifc, size := 1, bytes := 16, zero := .nilIface }),
   (85, { k := .func, size := 1, bytes := 8, zero := .nilFunc }),
   (86, { k := .func, size := 1, bytes := 8, zero := .nilFunc }),
   (87, { k := .func, size := 1, bytes := 8, zero := .nilFunc }),
   (88, { k := .func, size := 1, bytes := 8, zero := .nilFunc }),
   (89, { k := .func, size := 1, bytes := 8, zero := .nilFunc }),
   (90, { k := .func, size := 1, bytes := 8, zero := .nilFunc }),
   (92, { k := .func, size := 1, bytes := 8, zero := .nilFunc }),
   (93, { k := .func, size := 1, bytes := 8, zero := .nilFunc }),
   (95, { k := .func, size := 1, bytes := 8, zero := .nilFunc }),
   (96, { k := .func, size := 1, bytes := 8, zero := .nilFunc }),
   (97, { k := .map .str 9 39, size := 1, bytes := 8, zero := .map none }),
   (99, { k := .func, size := 1, bytes := 8, zero := .nilFunc }),
   (100, { k := .func, size := 1, bytes := 8, zero := .nilFunc }),
   (101, { k := .func, size := 1, bytes := 8, zero := .nilFunc }),
   (102, { k := .func, size := 1, bytes := 8, zero := .nilFunc }),
   (103, { k := .func, size := 1, bytes := 8, zero := .nilFunc }),
   (106, { k := .func, size := 1, bytes := 8, zero := .nilFunc }),
   (107, { k := .func, size := 1, bytes := 8, zero := .nilFunc }),
   (109, { k := .func, size := 1, bytes := 8, zero := .nilFunc }),
   (110, { k := .func, size := 1, bytes := 8, zero := .nilFunc }),
   (111, { k := .func, size := 1, bytes := 8, zero := .nilFunc }),
   (114, { k := .func, size := 1, bytes := 8, zero := .nilFunc }),
   (115, { k := .func, size := 1, bytes := 8, zero := .nilFunc }),
   (117, { k := .func, size := 1, bytes := 8, zero := .nilFunc }),
   (118, { k := .ptr, size := 1, bytes := 8, zero := .pointer none }),
   (119, { k := .map .int 3 3, size := 1, bytes := 8, zero := .map none }),
   (120, { k := .func, size := 1, bytes := 8, zero := .nilFunc }),
   (121, { k := .func, size := 1, bytes := 8, zero := .nilFunc }),
   (122, { k := .func, size := 1, bytes := 8, zero := .nilFunc }),
   (123, { k := .func, size := 1, bytes := 8, zero := .nilFunc }),
   (126, { k := .func, size := 1, bytes := 8, zero := .nilFunc }),
   (127, { k := .func, size := 1, bytes := 8, zero := .nilFunc }),
   (131, { k := .func, size := 1, bytes := 8, zero := .nilFunc }),
   (132, { k := .func, size := 1, bytes := 8, zero := .nilFunc }),
   (133, { k := .ptr, size := 1, bytes := 8, zero := .pointer none }),
   (134, { k := .func, size := 1, bytes := 8, zero := .nilFunc }),
   (135, { k := .func, size := 1, bytes := 8, zero := .nilFunc }),
   (140, { k := .func, size := 1, bytes := 8, zero := .nilFunc }),
   (142, { k := .func, size := 1, bytes := 8, zero := .nilFunc }),
   (143, { k := .func, size := 1, bytes := 8, zero := .nilFunc }),
   (144, { k := .func, size := 1, bytes := 8, zero := .nilFunc }),
   (145, { k := .func, size := 1, bytes := 8, zero := .nilFunc }),
   (146, { k := .func, size := 1, bytes := 8, zero := .nilFunc }),
   (147, { k := .func, size := 1, bytes := 8, zero := .nilFunc }),
   (148, { k := .func, size := 1, bytes := 8, zero := .nilFunc }),
   (149, { k := .func, size := 1, bytes := 8, zero := .nilFunc }),
   (150, { k := .func, size := 1, bytes := 8, zero := .nilFunc }),
   (152, { k := .func, size := 1, bytes := 8, zero := .nilFunc }),
   (153, { k := .func, size := 1, bytes := 8, zero := .nilFunc }),
   (154, { k := .func, size := 1, bytes := 8, zero := .nilFunc }),
   (155, { k := .func, size := 1, bytes := 8, zero := .nilFunc }),
   (156, { k := .func, size := 1, bytes := 8, zero := .nilFunc }),
   (159, { k := .func, size := 1, bytes := 8, zero := .nilFunc }),
   (160, { k := .func, size := 1, bytes := 8, zero := .nilFunc }),
   (161, { k := .func, size := 1, bytes := 8, zero := .nilFunc }),
   (162, { k := .func, size := 1, bytes := 8, zero := .nilFunc }),
   (165, { k := .func, size := 1, bytes := 8, zero := .nilFunc }),
   (166, { k := .ptr, size := 1, bytes := 8, zero := .pointer none }),
   (167, { k := .func, size := 1, bytes := 8, zero := .nilFunc }),
   (168, { k := .func, size := 1, bytes := 8, zero := .nilFunc }),
   (169, { k := .func, size := 1, bytes := 8, zero := .nilFunc }),
   (173, { k := .func, size := 1, bytes := 8, zero := .nilFunc }),
   (174, { k := .func, size := 1, bytes := 8, zero := .nilFunc }),
   (175, { k := .func, size := 1, bytes := 8, zero := .nilFunc }),
   (176, { k := .ptr, size := 1, bytes := 8, zero := .pointer none }),
   (177, { k := .func, size := 1, bytes := 8, zero := .nilFunc }),
   (179, { k := .func, size := 1, bytes := 8, zero := .nilFunc }),
   (182, { k := .func, size := 1, bytes := 8, zero := .nilFunc }),
   (184, { k := .func, size := 1, bytes := 8, zero := .nilFunc }),
   (189, { k := .func, size := 1, bytes := 8, zero := .nilFunc }),
   (190, { k := .ptr, size := 1, bytes := 8, zero := .pointer none }),
   (191, { k := .func, size := 1, bytes := 8, zero := .nilFunc }),
   (192, { k := .func, size := 1, bytes := 8, zero := .nilFunc }),
   (193, { k := .ptr, size := 1, bytes := 8, zero := .pointer none }),
   (201, { k := .func, size := 1, bytes := 8, zero := .nilFunc }),
   (204, { k := .func, size := 1, bytes := 8, zero := .nilFunc })]
def tyT (t : TypeId) : TyI := match findB tyTab t with | some i => i | none => { k := .other, size := 0, bytes := 0, zero := .bool false }
theorem ty_info {P : Program} {t : TypeId} {s b : Nat} {z : Value} (h : (P.info? t).map (fun i => (i.size, i.bytes, i.zero)) = some (s, b, some z)) : ∃ j, P.info? t = some j ∧ j.size = s ∧ j.bytes = b ∧ j.zero = some z := by
  cases hi : P.info? t with
  | none => rw [hi] at h; cases h
  | some j =>
    rw [hi] at h
    simp only [Option.map_some, Option.some.injEq, Prod.mk.injEq] at h
    exact ⟨j, rfl, h.1, h.2.1, h.2.2⟩
theorem int_wf {n : Int} (h1 : -9223372036854775808 ≤ n) (h2 : n ≤ 9223372036854775807) : (Lit.int .i64 n).wf = true := by
  simp only [Lit.wf, Bool.and_eq_true, decide_eq_true_eq]
  exact ⟨h1, h2⟩
theorem ty_has {P : Program} {t : TypeId} (h : (P.info? t).map (fun i => i.size != 0) = some true) : ∃ i, P.info? t = some i ∧ i.size ≠ 0 := by
  cases hi : P.info? t with
  | none => rw [hi] at h; cases h
  | some j =>
    rw [hi] at h
    exact ⟨j, rfl, by simpa using h⟩
theorem tyOk2 : TyOk Tryd.prog 2 { k := .int .i64, size := 1, bytes := 8, zero := .int .i64 0 } :=
  ⟨Tryd.underlying2, by decide, by decide, by decide, by decide, by decide, ty_info (by kernel_rfl)⟩
theorem tyOk3 : TyOk Tryd.prog 3 { k := .int .i64, size := 1, bytes := 8, zero := .int .i64 0 } :=
  ⟨Tryd.underlying3, by decide, by decide, by decide, by decide, by decide, ty_info (by kernel_rfl)⟩
theorem tyOk4 : TyOk Tryd.prog 4 { k := .bool, size := 1, bytes := 1, zero := .bool false } :=
  ⟨Tryd.underlying4, by decide, by decide, by decide, by decide, by decide, ty_info (by kernel_rfl)⟩
theorem tyOk5 : TyOk Tryd.prog 5 { k := .int .u8, size := 1, bytes := 1, zero := .int .u8 0 } :=
  ⟨Tryd.underlying5, by decide, by decide, by decide, by decide, by decide, ty_info (by kernel_rfl)⟩
theorem tyOk6 : TyOk Tryd.prog 6 { k := .int .u8, size := 1, bytes := 1, zero := .int .u8 0 } :=
  ⟨Tryd.underlying6, by decide, by decide, by decide, by decide, by decide, ty_info (by kernel_rfl)⟩
theorem tyOk7 : TyOk Tryd.prog 7 { k := .struct [(2, 0), (3, 1), (4, 2), (6, 3)], size := 4, bytes := 24, zero := .agg #[.int .i64 0, .int .i64 0, .bool false, .int .u8 0] } :=
  ⟨⟨_, Tryd.underlying7, rfl, by
      intro F hF
      simp only [List.mem_cons, List.not_mem_nil, or_false] at hF
      rcases hF with rfl | rfl | rfl | rfl
      · exact ty_has (by kernel_rfl)
      · exact ty_has (by kernel_rfl)
      · exact ty_has (by kernel_rfl)
      · exact ty_has (by kernel_rfl)⟩, by decide, by decide, by decide, by decide, by decide, ty_info (by kernel_rfl)⟩
theorem tyOk8 : TyOk Tryd.prog 8 { k := .struct [(2, 0), (3, 1), (4, 2), (6, 3)], size := 4, bytes := 24, zero := .agg #[.int .i64 0, .int .i64 0, .bool false, .int .u8 0] } :=
  ⟨⟨_, Tryd.underlying8, rfl, by
      intro F hF
      simp only [List.mem_cons, List.not_mem_nil, or_false] at hF
      rcases hF with rfl | rfl | rfl | rfl
      · exact ty_has (by kernel_rfl)
      · exact ty_has (by kernel_rfl)
      · exact ty_has (by kernel_rfl)
      · exact ty_has (by kernel_rfl)⟩, by decide, by decide, by decide, by decide, by decide, ty_info (by kernel_rfl)⟩
theorem tyOk9 : TyOk Tryd.prog 9 { k := .str, size := 1, bytes := 16, zero := .string ⟨#[]⟩ } :=
  ⟨Tryd.underlying9, by decide, by decide, by decide, by decide, by decide, ty_info (by kernel_rfl)⟩
theorem tyOk10 : TyOk Tryd.prog 10 { k := .str, size := 1, bytes := 16, zero := .string ⟨#[]⟩ } :=
  ⟨Tryd.underlying10, by decide, by decide, by decide, by decide, by decide, ty_info (by kernel_rfl)⟩
theorem tyOk11 : TyOk Tryd.prog 11 { k := .str, size := 1, bytes := 16, zero := .string ⟨#[]⟩ } :=
  ⟨Tryd.underlying11, by decide, by decide, by decide, by decide, by decide, ty_info (by kernel_rfl)⟩
theorem tyOk12 : TyOk Tryd.prog 12 { k := .int .u64, size := 1, bytes := 8, zero := .int .u64 0 } :=
  ⟨Tryd.underlying12, by decide, by decide, by decide, by decide, by decide, ty_info (by kernel_rfl)⟩
theorem tyOk13 : TyOk Tryd.prog 13 { k := .struct [(9, 0), (12, 1)], size := 2, bytes := 24, zero := .agg #[.string ⟨#[]⟩, .int .u64 0] } :=
  ⟨⟨_, Tryd.underlying13, rfl, by
      intro F hF
      simp only [List.mem_cons, List.not_mem_nil, or_false] at hF
      rcases hF with rfl | rfl
      · exact ty_has (by kernel_rfl)
      · exact ty_has (by kernel_rfl)⟩, by decide, by decide, by decide, by decide, by decide, ty_info (by kernel_rfl)⟩
theorem tyOk14 : TyOk Tryd.prog 14 { k := .struct [(9, 0), (12, 1)], size := 2, bytes := 24, zero := .agg #[.string ⟨#[]⟩, .int .u64 0] } :=
  ⟨⟨_, Tryd.underlying14, rfl, by
      intro F hF
      simp only [List.mem_cons, List.not_mem_nil, or_false] at hF
      rcases hF with rfl | rfl
      · exact ty_has (by kernel_rfl)
      · exact ty_has (by kernel_rfl)⟩, by decide, by decide, by decide, by decide, by decide, ty_info (by kernel_rfl)⟩
theorem tyOk18 : TyOk Tryd.prog 18 { k := .struct [(17, 0)], size := 1, bytes := 8, zero := .agg #[.pointer none] } :=
  ⟨⟨_, Tryd.underlying18, rfl, by
      intro F hF
      simp only [List.mem_cons, List.not_mem_nil, or_false] at hF
      rcases hF with rfl
      · exact ty_has (by kernel_rfl)⟩, by decide, by decide, by decide, by decide, by decide, ty_info (by kernel_rfl)⟩
theorem tyOk19 : TyOk Tryd.prog 19 { k := .struct [(17, 0)], size := 1, bytes := 8, zero := .agg #[.pointer none] } :=
  ⟨⟨_, Tryd.underlying19, rfl, by
      intro F hF
      simp only [List.mem_cons, List.not_mem_nil, or_false] at hF
      rcases hF with rfl
      · exact ty_has (by kernel_rfl)⟩, by decide, by decide, by decide, by decide, by decide, ty_info (by kernel_rfl)⟩
theorem tyOk21 : TyOk Tryd.prog 21 { k := .int .i32, size := 1, bytes := 4, zero := .int .i32 0 } :=
  ⟨Tryd.underlying21, by decide, by decide, by decide, by decide, by decide, ty_info (by kernel_rfl)⟩
theorem tyOk22 : TyOk Tryd.prog 22 { k := .sl 9, size := 1, bytes := 24, zero := .slice none 0 0 } :=
  ⟨Tryd.underlying22, by decide, by decide, by decide, by decide, by decide, ty_info (by kernel_rfl)⟩
theorem tyOk23 : TyOk Tryd.prog 23 { k := .sl 3, size := 1, bytes := 24, zero := .slice none 0 0 } :=
  ⟨Tryd.underlying23, by decide, by decide, by decide, by decide, by decide, ty_info (by kernel_rfl)⟩
theorem tyOk24 : TyOk Tryd.prog 24 { k := .struct [(9, 0), (22, 1), (23, 2)], size := 3, bytes := 64, zero := .agg #[.string ⟨#[]⟩, .slice none 0 0, .slice none 0 0] } :=
  ⟨⟨_, Tryd.underlying24, rfl, by
      intro F hF
      simp only [List.mem_cons, List.not_mem_nil, or_false] at hF
      rcases hF with rfl | rfl | rfl
      · exact ty_has (by kernel_rfl)
      · exact ty_has (by kernel_rfl)
      · exact ty_has (by kernel_rfl)⟩, by decide, by decide, by decide, by decide, by decide, ty_info (by kernel_rfl)⟩
theorem tyOk25 : TyOk Tryd.prog 25 { k := .struct [(9, 0), (22, 1), (23, 2)], size := 3, bytes := 64, zero := .agg #[.string ⟨#[]⟩, .slice none 0 0, .slice none 0 0] } :=
  ⟨⟨_, Tryd.underlying25, rfl, by
      intro F hF
      simp only [List.mem_cons, List.not_mem_nil, or_false] at hF
      rcases hF with rfl | rfl | rfl
      · exact ty_has (by kernel_rfl)
      · exact ty_has (by kernel_rfl)
      · exact ty_has (by kernel_rfl)⟩, by decide, by decide, by decide, by decide, by decide, ty_info (by kernel_rfl)⟩
theorem tyOk26 : TyOk Tryd.prog 26 { k := .int .i64, size := 1, bytes := 8, zero := .int .i64 0 } :=
  ⟨Tryd.underlying26, by decide, by decide, by decide, by decide, by decide, ty_info (by kernel_rfl)⟩
theorem tyOk32 : TyOk Tryd.prog 32 { k := .sl 62, size := 1, bytes := 24, zero := .slice none 0 0 } :=
  ⟨Tryd.underlying32, by decide, by decide, by decide, by decide, by decide, ty_info (by kernel_rfl)⟩
theorem tyOk33 : TyOk Tryd.prog 33 { k := .struct [(32, 0)], size := 1, bytes := 24, zero := .agg #[.slice none 0 0] } :=
  ⟨⟨_, Tryd.underlying33, rfl, by
      intro F hF
      simp only [List.mem_cons, List.not_mem_nil, or_false] at hF
      rcases hF with rfl
      · exact ty_has (by kernel_rfl)⟩, by decide, by decide, by decide, by decide, by decide, ty_info (by kernel_rfl)⟩
theorem tyOk34 : TyOk Tryd.prog 34 { k := .struct [(32, 0)], size := 1, bytes := 24, zero := .agg #[.slice none 0 0] } :=
  ⟨⟨_, Tryd.underlying34, rfl, by
      intro F hF
      simp only [List.mem_cons, List.not_mem_nil, or_false] at hF
      rcases hF with rfl
      · exact ty_has (by kernel_rfl)⟩, by decide, by decide, by decide, by decide, by decide, ty_info (by kernel_rfl)⟩
theorem tyOk37 : TyOk Tryd.prog 37 { k := .sl 39, size := 1, bytes := 24, zero := .slice none 0 0 } :=
  ⟨Tryd.underlying37, by decide, by decide, by decide, by decide, by decide, ty_info (by kernel_rfl)⟩
theorem tyOk38 : TyOk Tryd.prog 38 { k := .struct [(3, 0), (4, 1), (3, 2), (9, 3), (37, 4), (22, 5)], size := 6, bytes := 88, zero := .agg #[.int .i64 0, .bool false, .int .i64 0, .string ⟨#[]⟩, .slice none 0 0, .slice none 0 0] } :=
  ⟨⟨_, Tryd.underlying38, rfl, by
      intro F hF
      simp only [List.mem_cons, List.not_mem_nil, or_false] at hF
      rcases hF with rfl | rfl | rfl | rfl | rfl | rfl
      · exact ty_has (by kernel_rfl)
      · exact ty_has (by kernel_rfl)
      · exact ty_has (by kernel_rfl)
      · exact ty_has (by kernel_rfl)
      · exact ty_has (by kernel_rfl)
      · exact ty_has (by kernel_rfl)⟩, by decide, by decide, by decide, by decide, by decide, ty_info (by kernel_rfl)⟩
theorem tyOk39 : TyOk Tryd.prog 39 { k := .struct [(3, 0), (4, 1), (3, 2), (9, 3), (37, 4), (22, 5)], size := 6, bytes := 88, zero := .agg #[.int .i64 0, .bool false, .int .i64 0, .string ⟨#[]⟩, .slice none 0 0, .slice none 0 0] } :=
  ⟨⟨_, Tryd.underlying39, rfl, by
      intro F hF
      simp only [List.mem_cons, List.not_mem_nil, or_false] at hF
      rcases hF with rfl | rfl | rfl | rfl | rfl | rfl
      · exact ty_has (by kernel_rfl)
      · exact ty_has (by kernel_rfl)
      · exact ty_has (by kernel_rfl)
      · exact ty_has (by kernel_rfl)
      · exact ty_has (by kernel_rfl)
      · exact ty_has (by kernel_rfl)⟩, by decide, by decide, by decide, by decide, by decide, ty_info (by kernel_rfl)⟩
theorem tyOk43 : TyOk Tryd.prog 43 { k := .sl 71, size := 1, bytes := 24, zero := .slice none 0 0 } :=
  ⟨Tryd.underlying43, by decide, by decide, by decide, by decide, by decide, ty_info (by kernel_rfl)⟩
theorem tyOk44 : TyOk Tryd.prog 44 { k := .struct [(43, 0), (4, 1)], size := 2, bytes := 32, zero := .agg #[.slice none 0 0, .bool false] } :=
  ⟨⟨_, Tryd.underlying44, rfl, by
      intro F hF
      simp only [List.mem_cons, List.not_mem_nil, or_false] at hF
      rcases hF with rfl | rfl
      · exact ty_has (by kernel_rfl)
      · exact ty_has (by kernel_rfl)⟩, by decide, by decide, by decide, by decide, by decide, ty_info (by kernel_rfl)⟩
theorem tyOk45 : TyOk Tryd.prog 45 { k := .struct [(43, 0), (4, 1)], size := 2, bytes := 32, zero := .agg #[.slice none 0 0, .bool false] } :=
  ⟨⟨_, Tryd.underlying45, rfl, by
      intro F hF
      simp only [List.mem_cons, List.not_mem_nil, or_false] at hF
      rcases hF with rfl | rfl
      · exact ty_has (by kernel_rfl)
      · exact ty_has (by kernel_rfl)⟩, by decide, by decide, by decide, by decide, by decide, ty_info (by kernel_rfl)⟩
theorem tyOk61 : TyOk Tryd.prog 61 { k := .struct [(3, 0), (3, 1), (3, 2), (3, 3), (32, 4)], size := 5, bytes := 56, zero := .agg #[.int .i64 0, .int .i64 0, .int .i64 0, .int .i64 0, .slice none 0 0] } :=
  ⟨⟨_, Tryd.underlying61, rfl, by
      intro F hF
      simp only [List.mem_cons, List.not_mem_nil, or_false] at hF
      rcases hF with rfl | rfl | rfl | rfl | rfl
      · exact ty_has (by kernel_rfl)
      · exact ty_has (by kernel_rfl)
      · exact ty_has (by kernel_rfl)
      · exact ty_has (by kernel_rfl)
      · exact ty_has (by kernel_rfl)⟩, by decide, by decide, by decide, by decide, by decide, ty_info (by kernel_rfl)⟩
theorem tyOk62 : TyOk Tryd.prog 62 { k := .struct [(3, 0), (3, 1), (3, 2), (3, 3), (32, 4)], size := 5, bytes := 56, zero := .agg #[.int .i64 0, .int .i64 0, .int .i64 0, .int .i64 0, .slice none 0 0] } :=
  ⟨⟨_, Tryd.underlying62, rfl, by
      intro F hF
      simp only [List.mem_cons, List.not_mem_nil, or_false] at hF
      rcases hF with rfl | rfl | rfl | rfl | rfl
      · exact ty_has (by kernel_rfl)
      · exact ty_has (by kernel_rfl)
      · exact ty_has (by kernel_rfl)
      · exact ty_has (by kernel_rfl)
      · exact ty_has (by kernel_rfl)⟩, by decide, by decide, by decide, by decide, by decide, ty_info (by kernel_rfl)⟩
theorem tyOk70 : TyOk Tryd.prog 70 { k := .struct [(9, 0), (3, 1), (4, 2), (4, 3), (3, 4), (3, 5), (22, 6), (39, 7)], size := 13, bytes := 160, zero := .agg #[.string ⟨#[]⟩, .int .i64 0, .bool false, .bool false, .int .i64 0, .int .i64 0, .slice none 0 0, .int .i64 0, .bool false, .int .i64 0, .string ⟨#[]⟩, .slice none 0 0, .slice none 0 0] } :=
  ⟨⟨_, Tryd.underlying70, rfl, by
      intro F hF
      simp only [List.mem_cons, List.not_mem_nil, or_false] at hF
      rcases hF with rfl | rfl | rfl | rfl | rfl | rfl | rfl | rfl
      · exact ty_has (by kernel_rfl)
      · exact ty_has (by kernel_rfl)
      · exact ty_has (by kernel_rfl)
      · exact ty_has (by kernel_rfl)
      · exact ty_has (by kernel_rfl)
      · exact ty_has (by kernel_rfl)
      · exact ty_has (by kernel_rfl)
      · exact ty_has (by kernel_rfl)⟩, by decide, by decide, by decide, by decide, by decide, ty_info (by kernel_rfl)⟩
theorem tyOk71 : TyOk Tryd.prog 71 { k := .struct [(9, 0), (3, 1), (4, 2), (4, 3), (3, 4), (3, 5), (22, 6), (39, 7)], size := 13, bytes := 160, zero := .agg #[.string ⟨#[]⟩, .int .i64 0, .bool false, .bool false, .int .i64 0, .int .i64 0, .slice none 0 0, .int .i64 0, .bool false, .int .i64 0, .string ⟨#[]⟩, .slice none 0 0, .slice none 0 0] } :=
  ⟨⟨_, Tryd.underlying71, rfl, by
      intro F hF
      simp only [List.mem_cons, List.not_mem_nil, or_false] at hF
      rcases hF with rfl | rfl | rfl | rfl | rfl | rfl | rfl | rfl
      · exact ty_has (by kernel_rfl)
      · exact ty_has (by kernel_rfl)
      · exact ty_has (by kernel_rfl)
      · exact ty_has (by kernel_rfl)
      · exact ty_has (by kernel_rfl)
      · exact ty_has (by kernel_rfl)
      · exact ty_has (by kernel_rfl)
      · exact ty_has (by kernel_rfl)⟩, by decide, by decide, by decide, by decide, by decide, ty_info (by kernel_rfl)⟩
theorem tyOk79 : TyOk Tryd.prog 79 { k := .sl 5, size := 1, bytes := 24, zero := .slice none 0 0 } :=
  ⟨Tryd.underlying79, by decide, by decide, by decide, by decide, by decide, ty_info (by kernel_rfl)⟩
theorem tyOk80 : TyOk Tryd.prog 80 { k := .struct [(78, 0), (79, 1)], size := 2, bytes := 32, zero := .agg #[.pointer none, .slice none 0 0] } :=
  ⟨⟨_, Tryd.underlying80, rfl, by
      intro F hF
      simp only [List.mem_cons, List.not_mem_nil, or_false] at hF
      rcases hF with rfl | rfl
      · exact ty_has (by kernel_rfl)
      · exact ty_has (by kernel_rfl)⟩, by decide, by decide, by decide, by decide, by decide, ty_info (by kernel_rfl)⟩
theorem tyOk81 : TyOk Tryd.prog 81 { k := .struct [(78, 0), (79, 1)], size := 2, bytes := 32, zero := .agg #[.pointer none, .slice none 0 0] } :=
  ⟨⟨_, Tryd.underlying81, rfl, by
      intro F hF
      simp only [List.mem_cons, List.not_mem_nil, or_false] at hF
      rcases hF with rfl | rfl
      · exact ty_has (by kernel_rfl)
      · exact ty_has (by kernel_rfl)⟩, by decide, by decide, by decide, by decide, by decide, ty_info (by kernel_rfl)⟩
theorem tyOk104 : TyOk Tryd.prog 104 { k := .sl 125, size := 1, bytes := 24, zero := .slice none 0 0 } :=
  ⟨Tryd.underlying104, by decide, by decide, by decide, by decide, by decide, ty_info (by kernel_rfl)⟩
theorem tyOk112 : TyOk Tryd.prog 112 { k := .arr 24 5, size := 24, bytes := 24, zero := .agg #[.int .u8 0, .int .u8 0, .int .u8 0, .int .u8 0, .int .u8 0, .int .u8 0, .int .u8 0, .int .u8 0, .int .u8 0, .int .u8 0, .int .u8 0, .int .u8 0, .int .u8 0, .int .u8 0, .int .u8 0, .int .u8 0, .int .u8 0, .int .u8 0, .int .u8 0, .int .u8 0, .int .u8 0, .int .u8 0, .int .u8 0, .int .u8 0] } :=
  ⟨Tryd.underlying112, by decide, by decide, by decide, by decide, by decide, ty_info (by kernel_rfl)⟩
theorem tyOk113 : TyOk Tryd.prog 113 { k := .int .u64, size := 1, bytes := 8, zero := .int .u64 0 } :=
  ⟨Tryd.underlying113, by decide, by decide, by decide, by decide, by decide, ty_info (by kernel_rfl)⟩
theorem tyOk124 : TyOk Tryd.prog 124 { k := .struct [(9, 0), (3, 1), (4, 2)], size := 3, bytes := 32, zero := .agg #[.string ⟨#[]⟩, .int .i64 0, .bool false] } :=
  ⟨⟨_, Tryd.underlying124, rfl, by
      intro F hF
      simp only [List.mem_cons, List.not_mem_nil, or_false] at hF
      rcases hF with rfl | rfl | rfl
      · exact ty_has (by kernel_rfl)
      · exact ty_has (by kernel_rfl)
      · exact ty_has (by kernel_rfl)⟩, by decide, by decide, by decide, by decide, by decide, ty_info (by kernel_rfl)⟩
theorem tyOk125 : TyOk Tryd.prog 125 { k := .struct [(9, 0), (3, 1), (4, 2)], size := 3, bytes := 32, zero := .agg #[.string ⟨#[]⟩, .int .i64 0, .bool false] } :=
  ⟨⟨_, Tryd.underlying125, rfl, by
      intro F hF
      simp only [List.mem_cons, List.not_mem_nil, or_false] at hF
      rcases hF with rfl | rfl | rfl
      · exact ty_has (by kernel_rfl)
      · exact ty_has (by kernel_rfl)
      · exact ty_has (by kernel_rfl)⟩, by decide, by decide, by decide, by decide, by decide, ty_info (by kernel_rfl)⟩
theorem tyOk136 : TyOk Tryd.prog 136 { k := .arr 20 113, size := 20, bytes := 160, zero := .agg #[.int .u64 0, .int .u64 0, .int .u64 0, .int .u64 0, .int .u64 0, .int .u64 0, .int .u64 0, .int .u64 0, .int .u64 0, .int .u64 0, .int .u64 0, .int .u64 0, .int .u64 0, .int .u64 0, .int .u64 0, .int .u64 0, .int .u64 0, .int .u64 0, .int .u64 0, .int .u64 0] } :=
  ⟨Tryd.underlying136, by decide, by decide, by decide, by decide, by decide, ty_info (by kernel_rfl)⟩
theorem tyOk137 : TyOk Tryd.prog 137 { k := .int .u32, size := 1, bytes := 4, zero := .int .u32 0 } :=
  ⟨Tryd.underlying137, by decide, by decide, by decide, by decide, by decide, ty_info (by kernel_rfl)⟩
theorem tyOk139 : TyOk Tryd.prog 139 { k := .int .u64, size := 1, bytes := 8, zero := .int .u64 0 } :=
  ⟨Tryd.underlying139, by decide, by decide, by decide, by decide, by decide, ty_info (by kernel_rfl)⟩
theorem tyOk157 : TyOk Tryd.prog 157 { k := .int .i64, size := 1, bytes := 8, zero := .int .i64 0 } :=
  ⟨Tryd.underlying157, by decide, by decide, by decide, by decide, by decide, ty_info (by kernel_rfl)⟩
theorem tyOk163 : TyOk Tryd.prog 163 { k := .int .i64, size := 1, bytes := 8, zero := .int .i64 0 } :=
  ⟨Tryd.underlying163, by decide, by decide, by decide, by decide, by decide, ty_info (by kernel_rfl)⟩
theorem tyOk170 : TyOk Tryd.prog 170 { k := .arr 32 5, size := 32, bytes := 32, zero := .agg #[.int .u8 0, .int .u8 0, .int .u8 0, .int .u8 0, .int .u8 0, .int .u8 0, .int .u8 0, .int .u8 0, .int .u8 0, .int .u8 0, .int .u8 0, .int .u8 0, .int .u8 0, .int .u8 0, .int .u8 0, .int .u8 0, .int .u8 0, .int .u8 0, .int .u8 0, .int .u8 0, .int .u8 0, .int .u8 0, .int .u8 0, .int .u8 0, .int .u8 0, .int .u8 0, .int .u8 0, .int .u8 0, .int .u8 0, .int .u8 0, .int .u8 0, .int .u8 0] } :=
  ⟨Tryd.underlying170, by decide, by decide, by decide, by decide, by decide, ty_info (by kernel_rfl)⟩
theorem tyOk172 : TyOk Tryd.prog 172 { k := .int .u64, size := 1, bytes := 8, zero := .int .u64 0 } :=
  ⟨Tryd.underlying172, by decide, by decide, by decide, by decide, by decide, ty_info (by kernel_rfl)⟩
theorem tyOk180 : TyOk Tryd.prog 180 { k := .struct [(9, 0), (9, 1), (83, 2)], size := 3, bytes := 48, zero := .agg #[.string ⟨#[]⟩, .string ⟨#[]⟩, .nilIface] } :=
  ⟨⟨_, Tryd.underlying180, rfl, by
      intro F hF
      simp only [List.mem_cons, List.not_mem_nil, or_false] at hF
      rcases hF with rfl | rfl | rfl
      · exact ty_has (by kernel_rfl)
      · exact ty_has (by kernel_rfl)
      · exact ty_has (by kernel_rfl)⟩, by decide, by decide, by decide, by decide, by decide, ty_info (by kernel_rfl)⟩
theorem tyOk181 : TyOk Tryd.prog 181 { k := .struct [(9, 0), (9, 1), (83, 2)], size := 3, bytes := 48, zero := .agg #[.string ⟨#[]⟩, .string ⟨#[]⟩, .nilIface] } :=
  ⟨⟨_, Tryd.underlying181, rfl, by
      intro F hF
      simp only [List.mem_cons, List.not_mem_nil, or_false] at hF
      rcases hF with rfl | rfl | rfl
      · exact ty_has (by kernel_rfl)
      · exact ty_has (by kernel_rfl)
      · exact ty_has (by kernel_rfl)⟩, by decide, by decide, by decide, by decide, by decide, ty_info (by kernel_rfl)⟩
theorem tyOk186 : TyOk Tryd.prog 186 { k := .struct [(5, 0), (5, 1)], size := 2, bytes := 2, zero := .agg #[.int .u8 0, .int .u8 0] } :=
  ⟨⟨_, Tryd.underlying186, rfl, by
      intro F hF
      simp only [List.mem_cons, List.not_mem_nil, or_false] at hF
      rcases hF with rfl | rfl
      · exact ty_has (by kernel_rfl)
      · exact ty_has (by kernel_rfl)⟩, by decide, by decide, by decide, by decide, by decide, ty_info (by kernel_rfl)⟩
theorem tyOk187 : TyOk Tryd.prog 187 { k := .struct [(5, 0), (5, 1)], size := 2, bytes := 2, zero := .agg #[.int .u8 0, .int .u8 0] } :=
  ⟨⟨_, Tryd.underlying187, rfl, by
      intro F hF
      simp only [List.mem_cons, List.not_mem_nil, or_false] at hF
      rcases hF with rfl | rfl
      · exact ty_has (by kernel_rfl)
      · exact ty_has (by kernel_rfl)⟩, by decide, by decide, by decide, by decide, by decide, ty_info (by kernel_rfl)⟩
theorem tyOk188 : TyOk Tryd.prog 188 { k := .arr 16 187, size := 32, bytes := 32, zero := .agg #[.int .u8 0, .int .u8 0, .int .u8 0, .int .u8 0, .int .u8 0, .int .u8 0, .int .u8 0, .int .u8 0, .int .u8 0, .int .u8 0, .int .u8 0, .int .u8 0, .int .u8 0, .int .u8 0, .int .u8 0, .int .u8 0, .int .u8 0, .int .u8 0, .int .u8 0, .int .u8 0, .int .u8 0, .int .u8 0, .int .u8 0, .int .u8 0, .int .u8 0, .int .u8 0, .int .u8 0, .int .u8 0, .int .u8 0, .int .u8 0, .int .u8 0, .int .u8 0] } :=
  ⟨Tryd.underlying188, by decide, by decide, by decide, by decide, by decide, ty_info (by kernel_rfl)⟩
theorem tyOk194 : TyOk Tryd.prog 194 { k := .struct [(9, 0)], size := 1, bytes := 16, zero := .agg #[.string ⟨#[]⟩] } :=
  ⟨⟨_, Tryd.underlying194, rfl, by
      intro F hF
      simp only [List.mem_cons, List.not_mem_nil, or_false] at hF
      rcases hF with rfl
      · exact ty_has (by kernel_rfl)⟩, by decide, by decide, by decide, by decide, by decide, ty_info (by kernel_rfl)⟩
theorem tyOk195 : TyOk Tryd.prog 195 { k := .struct [(9, 0)], size := 1, bytes := 16, zero := .agg #[.string ⟨#[]⟩] } :=
  ⟨⟨_, Tryd.underlying195, rfl, by
      intro F hF
      simp only [List.mem_cons, List.not_mem_nil, or_false] at hF
      rcases hF with rfl
      · exact ty_has (by kernel_rfl)⟩, by decide, by decide, by decide, by decide, by decide, ty_info (by kernel_rfl)⟩
theorem tyOk196 : TyOk Tryd.prog 196 { k := .struct [(17, 0), (17, 1), (17, 2), (9, 3)], size := 4, bytes := 40, zero := .agg #[.pointer none, .pointer none, .pointer none, .string ⟨#[]⟩] } :=
  ⟨⟨_, Tryd.underlying196, rfl, by
      intro F hF
      simp only [List.mem_cons, List.not_mem_nil, or_false] at hF
      rcases hF with rfl | rfl | rfl | rfl
      · exact ty_has (by kernel_rfl)
      · exact ty_has (by kernel_rfl)
      · exact ty_has (by kernel_rfl)
      · exact ty_has (by kernel_rfl)⟩, by decide, by decide, by decide, by decide, by decide, ty_info (by kernel_rfl)⟩
theorem tyOk197 : TyOk Tryd.prog 197 { k := .struct [(17, 0), (17, 1), (17, 2), (9, 3)], size := 4, bytes := 40, zero := .agg #[.pointer none, .pointer none, .pointer none, .string ⟨#[]⟩] } :=
  ⟨⟨_, Tryd.underlying197, rfl, by
      intro F hF
      simp only [List.mem_cons, List.not_mem_nil, or_false] at hF
      rcases hF with rfl | rfl | rfl | rfl
      · exact ty_has (by kernel_rfl)
      · exact ty_has (by kernel_rfl)
      · exact ty_has (by kernel_rfl)
      · exact ty_has (by kernel_rfl)⟩, by decide, by decide, by decide, by decide, by decide, ty_info (by kernel_rfl)⟩
theorem tyOk202 : TyOk Tryd.prog 202 { k := .int .u8, size := 1, bytes := 1, zero := .int .u8 0 } :=
  ⟨Tryd.underlying202, by decide, by decide, by decide, by decide, by decide, ty_info (by kernel_rfl)⟩
theorem tyOk203 : TyOk Tryd.prog 203 { k := .int .u8, size := 1, bytes := 1, zero := .int .u8 0 } :=
  ⟨Tryd.underlying203, by decide, by decide, by decide, by decide, by decide, ty_info (by kernel_rfl)⟩
theorem tyOk205 : TyOk Tryd.prog 205 { k := .int .i32, size := 1, bytes := 4, zero := .int .i32 0 } :=
  ⟨Tryd.underlying205, by decide, by decide, by decide, by decide, by decide, ty_info (by kernel_rfl)⟩
theorem tyOk206 : TyOk Tryd.prog 206 { k := .int .i32, size := 1, bytes := 4, zero := .int .i32 0 } :=
  ⟨Tryd.underlying206, by decide, by decide, by decide, by decide, by decide, ty_info (by kernel_rfl)⟩
theorem tyOk207 : TyOk Tryd.prog 207 { k := .struct [(12, 0), (12, 1), (137, 2), (202, 3), (5, 4), (5, 5), (203, 6), (204, 7), (118, 8), (205, 9), (206, 10)], size := 11, bytes := 48, zero := .agg #[.int .u64 0, .int .u64 0, .int .u32 0, .int .u8 0, .int .u8 0, .int .u8 0, .int .u8 0, .nilFunc, .pointer none, .int .i32 0, .int .i32 0] } :=
  ⟨⟨_, Tryd.underlying207, rfl, by
      intro F hF
      simp only [List.mem_cons, List.not_mem_nil, or_false] at hF
      rcases hF with rfl | rfl | rfl | rfl | rfl | rfl | rfl | rfl | rfl | rfl | rfl
      · exact ty_has (by kernel_rfl)
      · exact ty_has (by kernel_rfl)
      · exact ty_has (by kernel_rfl)
      · exact ty_has (by kernel_rfl)
      · exact ty_has (by kernel_rfl)
      · exact ty_has (by kernel_rfl)
      · exact ty_has (by kernel_rfl)
      · exact ty_has (by kernel_rfl)
      · exact ty_has (by kernel_rfl)
      · exact ty_has (by kernel_rfl)
      · exact ty_has (by kernel_rfl)⟩, by decide, by decide, by decide, by decide, by decide, ty_info (by kernel_rfl)⟩
theorem tyOk208 : TyOk Tryd.prog 208 { k := .struct [(12, 0), (12, 1), (137, 2), (202, 3), (5, 4), (5, 5), (203, 6), (204, 7), (118, 8), (205, 9), (206, 10)], size := 11, bytes := 48, zero := .agg #[.int .u64 0, .int .u64 0, .int .u32 0, .int .u8 0, .int .u8 0, .int .u8 0, .int .u8 0, .nilFunc, .pointer none, .int .i32 0, .int .i32 0] } :=
  ⟨⟨_, Tryd.underlying208, rfl, by
      intro F hF
      simp only [List.mem_cons, List.not_mem_nil, or_false] at hF
      rcases hF with rfl | rfl | rfl | rfl | rfl | rfl | rfl | rfl | rfl | rfl | rfl
      · exact ty_has (by kernel_rfl)
      · exact ty_has (by kernel_rfl)
      · exact ty_has (by kernel_rfl)
      · exact ty_has (by kernel_rfl)
      · exact ty_has (by kernel_rfl)
      · exact ty_has (by kernel_rfl)
      · exact ty_has (by kernel_rfl)
      · exact ty_has (by kernel_rfl)
      · exact ty_has (by kernel_rfl)
      · exact ty_has (by kernel_rfl)
      · exact ty_has (by kernel_rfl)⟩, by decide, by decide, by decide, by decide, by decide, ty_info (by kernel_rfl)⟩
theorem tyOk1 : TyOk Tryd.prog 1 { k := .func, size := 1, bytes := 8, zero := .nilFunc } :=
  ⟨⟨_, _, _, Tryd.underlying1⟩, by decide, by decide, by decide, by decide, by decide, ty_info (by kernel_rfl)⟩
theorem tyOk15 : TyOk Tryd.prog 15 { k := .ptr, size := 1, bytes := 8, zero := .pointer none } :=
  ⟨⟨_, Tryd.underlying15⟩, by decide, by decide, by decide, by decide, by decide, ty_info (by kernel_rfl)⟩
theorem tyOk16 : TyOk Tryd.prog 16 { k := .ptr, size := 1, bytes := 8, zero := .pointer none } :=
  ⟨⟨_, Tryd.underlying16⟩, by decide, by decide, by decide, by decide, by decide, ty_info (by kernel_rfl)⟩
theorem tyOk17 : TyOk Tryd.prog 17 { k := .ptr, size := 1, bytes := 8, zero := .pointer none } :=
  ⟨⟨_, Tryd.underlying17⟩, by decide, by decide, by decide, by decide, by decide, ty_info (by kernel_rfl)⟩
theorem tyOk20 : TyOk Tryd.prog 20 { k := .ifc, size := 1, bytes := 16, zero := .nilIface } :=
  ⟨⟨_, Tryd.underlying20⟩, by decide, by decide, by decide, by decide, by decide, ty_info (by kernel_rfl)⟩
theorem tyOk28 : TyOk Tryd.prog 28 { k := .func, size := 1, bytes := 8, zero := .nilFunc } :=
  ⟨⟨_, _, _, Tryd.underlying28⟩, by decide, by decide, by decide, by decide, by decide, ty_info (by kernel_rfl)⟩
theorem tyOk29 : TyOk Tryd.prog 29 { k := .func, size := 1, bytes := 8, zero := .nilFunc } :=
  ⟨⟨_, _, _, Tryd.underlying29⟩, by decide, by decide, by decide, by decide, by decide, ty_info (by kernel_rfl)⟩
theorem tyOk30 : TyOk Tryd.prog 30 { k := .func, size := 1, bytes := 8, zero := .nilFunc } :=
  ⟨⟨_, _, _, Tryd.underlying30⟩, by decide, by decide, by decide, by decide, by decide, ty_info (by kernel_rfl)⟩
theorem tyOk31 : TyOk Tryd.prog 31 { k := .func, size := 1, bytes := 8, zero := .nilFunc } :=
  ⟨⟨_, _, _, Tryd.underlying31⟩, by decide, by decide, by decide, by decide, by decide, ty_info (by kernel_rfl)⟩
theorem tyOk35 : TyOk Tryd.prog 35 { k := .func, size := 1, bytes := 8, zero := .nilFunc } :=
  ⟨⟨_, _, _, Tryd.underlying35⟩, by decide, by decide, by decide, by decide, by decide, ty_info (by kernel_rfl)⟩
theorem tyOk36 : TyOk Tryd.prog 36 { k := .func, size := 1, bytes := 8, zero := .nilFunc } :=
  ⟨⟨_, _, _, Tryd.underlying36⟩, by decide, by decide, by decide, by decide, by decide, ty_info (by kernel_rfl)⟩
theorem tyOk41 : TyOk Tryd.prog 41 { k := .func, size := 1, bytes := 8, zero := .nilFunc } :=
  ⟨⟨_, _, _, Tryd.underlying41⟩, by decide, by decide, by decide, by decide, by decide, ty_info (by kernel_rfl)⟩
theorem tyOk42 : TyOk Tryd.prog 42 { k := .func, size := 1, bytes := 8, zero := .nilFunc } :=
  ⟨⟨_, _, _, Tryd.underlying42⟩, by decide, by decide, by decide, by decide, by decide, ty_info (by kernel_rfl)⟩
theorem tyOk46 : TyOk Tryd.prog 46 { k := .func, size := 1, bytes := 8, zero := .nilFunc } :=
  ⟨⟨_, _, _, Tryd.underlying46⟩, by decide, by decide, by decide, by decide, by decide, ty_info (by kernel_rfl)⟩
theorem tyOk47 : TyOk Tryd.prog 47 { k := .func, size := 1, bytes := 8, zero := .nilFunc } :=
  ⟨⟨_, _, _, Tryd.underlying47⟩, by decide, by decide, by decide, by decide, by decide, ty_info (by kernel_rfl)⟩
theorem tyOk48 : TyOk Tryd.prog 48 { k := .func, size := 1, bytes := 8, zero := .nilFunc } :=
  ⟨⟨_, _, _, Tryd.underlying48⟩, by decide, by decide, by decide, by decide, by decide, ty_info (by kernel_rfl)⟩
theorem tyOk49 : TyOk Tryd.prog 49 { k := .func, size := 1, bytes := 8, zero := .nilFunc } :=
  ⟨⟨_, _, _, Tryd.underlying49⟩, by decide, by decide, by decide, by decide, by decide, ty_info (by kernel_rfl)⟩
theorem tyOk50 : TyOk Tryd.prog 50 { k := .func, size := 1, bytes := 8, zero := .nilFunc } :=
  ⟨⟨_, _, _, Tryd.underlying50⟩, by decide, by decide, by decide, by decide, by decide, ty_info (by kernel_rfl)⟩
theorem tyOk51 : TyOk Tryd.prog 51 { k := .func, size := 1, bytes := 8, zero := .nilFunc } :=
  ⟨⟨_, _, _, Tryd.underlying51⟩, by decide, by decide, by decide, by decide, by decide, ty_info (by kernel_rfl)⟩
theorem tyOk52 : TyOk Tryd.prog 52 { k := .func, size := 1, bytes := 8, zero := .nilFunc } :=
  ⟨⟨_, _, _, Tryd.underlying52⟩, by decide, by decide, by decide, by decide, by decide, ty_info (by kernel_rfl)⟩
theorem tyOk53 : TyOk Tryd.prog 53 { k := .func, size := 1, bytes := 8, zero := .nilFunc } :=
  ⟨⟨_, _, _, Tryd.underlying53⟩, by decide, by decide, by decide, by decide, by decide, ty_info (by kernel_rfl)⟩
theorem tyOk54 : TyOk Tryd.prog 54 { k := .func, size := 1, bytes := 8, zero := .nilFunc } :=
  ⟨⟨_, _, _, Tryd.underlying54⟩, by decide, by decide, by decide, by decide, by decide, ty_info (by kernel_rfl)⟩
theorem tyOk55 : TyOk Tryd.prog 55 { k := .func, size := 1, bytes := 8, zero := .nilFunc } :=
  ⟨⟨_, _, _, Tryd.underlying55⟩, by decide, by decide, by decide, by decide, by decide, ty_info (by kernel_rfl)⟩
theorem tyOk56 : TyOk Tryd.prog 56 { k := .func, size := 1, bytes := 8, zero := .nilFunc } :=
  ⟨⟨_, _, _, Tryd.underlying56⟩, by decide, by decide, by decide, by decide, by decide, ty_info (by kernel_rfl)⟩
theorem tyOk57 : TyOk Tryd.prog 57 { k := .func, size := 1, bytes := 8, zero := .nilFunc } :=
  ⟨⟨_, _, _, Tryd.underlying57⟩, by decide, by decide, by decide, by decide, by decide, ty_info (by kernel_rfl)⟩
theorem tyOk58 : TyOk Tryd.prog 58 { k := .func, size := 1, bytes := 8, zero := .nilFunc } :=
  ⟨⟨_, _, _, Tryd.underlying58⟩, by decide, by decide, by decide, by decide, by decide, ty_info (by kernel_rfl)⟩
theorem tyOk59 : TyOk Tryd.prog 59 { k := .func, size := 1, bytes := 8, zero := .nilFunc } :=
  ⟨⟨_, _, _, Tryd.underlying59⟩, by decide, by decide, by decide, by decide, by decide, ty_info (by kernel_rfl)⟩
theorem tyOk60 : TyOk Tryd.prog 60 { k := .func, size := 1, bytes := 8, zero := .nilFunc } :=
  ⟨⟨_, _, _, Tryd.underlying60⟩, by decide, by decide, by decide, by decide, by decide, ty_info (by kernel_rfl)⟩
theorem tyOk63 : TyOk Tryd.prog 63 { k := .func, size := 1, bytes := 8, zero := .nilFunc } :=
  ⟨⟨_, _, _, Tryd.underlying63⟩, by decide, by decide, by decide, by decide, by decide, ty_info (by kernel_rfl)⟩
theorem tyOk64 : TyOk Tryd.prog 64 { k := .func, size := 1, bytes := 8, zero := .nilFunc } :=
  ⟨⟨_, _, _, Tryd.underlying64⟩, by decide, by decide, by decide, by decide, by decide, ty_info (by kernel_rfl)⟩
theorem tyOk65 : TyOk Tryd.prog 65 { k := .func, size := 1, bytes := 8, zero := .nilFunc } :=
  ⟨⟨_, _, _, Tryd.underlying65⟩, by decide, by decide, by decide, by decide, by decide, ty_info (by kernel_rfl)⟩
theorem tyOk66 : TyOk Tryd.prog 66 { k := .func, size := 1, bytes := 8, zero := .nilFunc } :=
  ⟨⟨_, _, _, Tryd.underlying66⟩, by decide, by decide, by decide, by decide, by decide, ty_info (by kernel_rfl)⟩
theorem tyOk67 : TyOk Tryd.prog 67 { k := .func, size := 1, bytes := 8, zero := .nilFunc } :=
  ⟨⟨_, _, _, Tryd.underlying67⟩, by decide, by decide, by decide, by decide, by decide, ty_info (by kernel_rfl)⟩
theorem tyOk68 : TyOk Tryd.prog 68 { k := .func, size := 1, bytes := 8, zero := .nilFunc } :=
  ⟨⟨_, _, _, Tryd.underlying68⟩, by decide, by decide, by decide, by decide, by decide, ty_info (by kernel_rfl)⟩
theorem tyOk69 : TyOk Tryd.prog 69 { k := .map .str 9 4, size := 1, bytes := 8, zero := .map none } :=
  ⟨⟨Tryd.underlying69, Go.Maps.string_keyed Tryd.underlying9, fun v ⟨s, hv, hs⟩ => ⟨_, hv ▸ Go.WideMaps.keyOf_string_mk Tryd.underlying9 hs⟩⟩, by decide, by decide, by decide, by decide, by decide, ty_info (by kernel_rfl)⟩
theorem tyOk72 : TyOk Tryd.prog 72 { k := .func, size := 1, bytes := 8, zero := .nilFunc } :=
  ⟨⟨_, _, _, Tryd.underlying72⟩, by decide, by decide, by decide, by decide, by decide, ty_info (by kernel_rfl)⟩
theorem tyOk73 : TyOk Tryd.prog 73 { k := .func, size := 1, bytes := 8, zero := .nilFunc } :=
  ⟨⟨_, _, _, Tryd.underlying73⟩, by decide, by decide, by decide, by decide, by decide, ty_info (by kernel_rfl)⟩
theorem tyOk74 : TyOk Tryd.prog 74 { k := .func, size := 1, bytes := 8, zero := .nilFunc } :=
  ⟨⟨_, _, _, Tryd.underlying74⟩, by decide, by decide, by decide, by decide, by decide, ty_info (by kernel_rfl)⟩
theorem tyOk75 : TyOk Tryd.prog 75 { k := .func, size := 1, bytes := 8, zero := .nilFunc } :=
  ⟨⟨_, _, _, Tryd.underlying75⟩, by decide, by decide, by decide, by decide, by decide, ty_info (by kernel_rfl)⟩
theorem tyOk76 : TyOk Tryd.prog 76 { k := .func, size := 1, bytes := 8, zero := .nilFunc } :=
  ⟨⟨_, _, _, Tryd.underlying76⟩, by decide, by decide, by decide, by decide, by decide, ty_info (by kernel_rfl)⟩
theorem tyOk77 : TyOk Tryd.prog 77 { k := .func, size := 1, bytes := 8, zero := .nilFunc } :=
  ⟨⟨_, _, _, Tryd.underlying77⟩, by decide, by decide, by decide, by decide, by decide, ty_info (by kernel_rfl)⟩
theorem tyOk78 : TyOk Tryd.prog 78 { k := .ptr, size := 1, bytes := 8, zero := .pointer none } :=
  ⟨⟨_, Tryd.underlying78⟩, by decide, by decide, by decide, by decide, by decide, ty_info (by kernel_rfl)⟩
theorem tyOk82 : TyOk Tryd.prog 82 { k := .ifc, size := 1, bytes := 16, zero := .nilIface } :=
  ⟨⟨_, Tryd.underlying82⟩, by decide, by decide, by decide, by decide, by decide, ty_info (by kernel_rfl)⟩
theorem tyOk83 : TyOk Tryd.prog 83 { k := .ifc, size := 1, bytes := 16, zero := .nilIface } :=
  ⟨⟨_, Tryd.underlying83⟩, by decide, by decide, by decide, by decide, by decide, ty_info (by kernel_rfl)⟩
theorem tyOk85 : TyOk Tryd.prog 85 { k := .func, size := 1, bytes := 8, zero := .nilFunc } :=
  ⟨⟨_, _, _, Tryd.underlying85⟩, by decide, by decide, by decide, by decide, by decide, ty_info (by kernel_rfl)⟩
theorem tyOk86 : TyOk Tryd.prog 86 { k := .func, size := 1, bytes := 8, zero := .nilFunc } :=
  ⟨⟨_, _, _, Tryd.underlying86⟩, by decide, by decide, by decide, by decide, by decide, ty_info (by kernel_rfl)⟩
theorem tyOk87 : TyOk Tryd.prog 87 { k := .func, size := 1, bytes := 8, zero := .nilFunc } :=
  ⟨⟨_, _, _, Tryd.underlying87⟩, by decide, by decide, by decide, by decide, by decide, ty_info (by kernel_rfl)⟩
theorem tyOk88 : TyOk Tryd.prog 88 { k := .func, size := 1, bytes := 8, zero := .nilFunc } :=
  ⟨⟨_, _, _, Tryd.underlying88⟩, by decide, by decide, by decide, by decide, by decide, ty_info (by kernel_rfl)⟩
theorem tyOk89 : TyOk Tryd.prog 89 { k := .func, size := 1, bytes := 8, zero := .nilFunc } :=
  ⟨⟨_, _, _, Tryd.underlying89⟩, by decide, by decide, by decide, by decide, by decide, ty_info (by kernel_rfl)⟩
theorem tyOk90 : TyOk Tryd.prog 90 { k := .func, size := 1, bytes := 8, zero := .nilFunc } :=
  ⟨⟨_, _, _, Tryd.underlying90⟩, by decide, by decide, by decide, by decide, by decide, ty_info (by kernel_rfl)⟩
theorem tyOk92 : TyOk Tryd.prog 92 { k := .func, size := 1, bytes := 8, zero := .nilFunc } :=
  ⟨⟨_, _, _, Tryd.underlying92⟩, by decide, by decide, by decide, by decide, by decide, ty_info (by kernel_rfl)⟩
theorem tyOk93 : TyOk Tryd.prog 93 { k := .func, size := 1, bytes := 8, zero := .nilFunc } :=
  ⟨⟨_, _, _, Tryd.underlying93⟩, by decide, by decide, by decide, by decide, by decide, ty_info (by kernel_rfl)⟩
theorem tyOk95 : TyOk Tryd.prog 95 { k := .func, size := 1, bytes := 8, zero := .nilFunc } :=
  ⟨⟨_, _, _, Tryd.underlying95⟩, by decide, by decide, by decide, by decide, by decide, ty_info (by kernel_rfl)⟩
theorem tyOk96 : TyOk Tryd.prog 96 { k := .func, size := 1, bytes := 8, zero := .nilFunc } :=
  ⟨⟨_, _, _, Tryd.underlying96⟩, by decide, by decide, by decide, by decide, by decide, ty_info (by kernel_rfl)⟩
theorem tyOk97 : TyOk Tryd.prog 97 { k := .map .str 9 39, size := 1, bytes := 8, zero := .map none } :=
  ⟨⟨Tryd.underlying97, Go.Maps.string_keyed Tryd.underlying9, fun v ⟨s, hv, hs⟩ => ⟨_, hv ▸ Go.WideMaps.keyOf_string_mk Tryd.underlying9 hs⟩⟩, by decide, by decide, by decide, by decide, by decide, ty_info (by kernel_rfl)⟩
theorem tyOk99 : TyOk Tryd.prog 99 { k := .func, size := 1, bytes := 8, zero := .nilFunc } :=
  ⟨⟨_, _, _, Tryd.underlying99⟩, by decide, by decide, by decide, by decide, by decide, ty_info (by kernel_rfl)⟩
theorem tyOk100 : TyOk Tryd.prog 100 { k := .func, size := 1, bytes := 8, zero := .nilFunc } :=
  ⟨⟨_, _, _, Tryd.underlying100⟩, by decide, by decide, by decide, by decide, by decide, ty_info (by kernel_rfl)⟩
theorem tyOk101 : TyOk Tryd.prog 101 { k := .func, size := 1, bytes := 8, zero := .nilFunc } :=
  ⟨⟨_, _, _, Tryd.underlying101⟩, by decide, by decide, by decide, by decide, by decide, ty_info (by kernel_rfl)⟩
theorem tyOk102 : TyOk Tryd.prog 102 { k := .func, size := 1, bytes := 8, zero := .nilFunc } :=
  ⟨⟨_, _, _, Tryd.underlying102⟩, by decide, by decide, by decide, by decide, by decide, ty_info (by kernel_rfl)⟩
theorem tyOk103 : TyOk Tryd.prog 103 { k := .func, size := 1, bytes := 8, zero := .nilFunc } :=
  ⟨⟨_, _, _, Tryd.underlying103⟩, by decide, by decide, by decide, by decide, by decide, ty_info (by kernel_rfl)⟩
theorem tyOk106 : TyOk Tryd.prog 106 { k := .func, size := 1, bytes := 8, zero := .nilFunc } :=
  ⟨⟨_, _, _, Tryd.underlying106⟩, by decide, by decide, by decide, by decide, by decide, ty_info (by kernel_rfl)⟩
theorem tyOk107 : TyOk Tryd.prog 107 { k := .func, size := 1, bytes := 8, zero := .nilFunc } :=
  ⟨⟨_, _, _, Tryd.underlying107⟩, by decide, by decide, by decide, by decide, by decide, ty_info (by kernel_rfl)⟩
theorem tyOk109 : TyOk Tryd.prog 109 { k := .func, size := 1, bytes := 8, zero := .nilFunc } :=
  ⟨⟨_, _, _, Tryd.underlying109⟩, by decide, by decide, by decide, by decide, by decide, ty_info (by kernel_rfl)⟩
theorem tyOk110 : TyOk Tryd.prog 110 { k := .func, size := 1, bytes := 8, zero := .nilFunc } :=
  ⟨⟨_, _, _, Tryd.underlying110⟩, by decide, by decide, by decide, by decide, by decide, ty_info (by kernel_rfl)⟩
theorem tyOk111 : TyOk Tryd.prog 111 { k := .func, size := 1, bytes := 8, zero := .nilFunc } :=
  ⟨⟨_, _, _, Tryd.underlying111⟩, by decide, by decide, by decide, by decide, by decide, ty_info (by kernel_rfl)⟩
theorem tyOk114 : TyOk Tryd.prog 114 { k := .func, size := 1, bytes := 8, zero := .nilFunc } :=
  ⟨⟨_, _, _, Tryd.underlying114⟩, by decide, by decide, by decide, by decide, by decide, ty_info (by kernel_rfl)⟩
theorem tyOk115 : TyOk Tryd.prog 115 { k := .func, size := 1, bytes := 8, zero := .nilFunc } :=
  ⟨⟨_, _, _, Tryd.underlying115⟩, by decide, by decide, by decide, by decide, by decide, ty_info (by kernel_rfl)⟩
theorem tyOk117 : TyOk Tryd.prog 117 { k := .func, size := 1, bytes := 8, zero := .nilFunc } :=
  ⟨⟨_, _, _, Tryd.underlying117⟩, by decide, by decide, by decide, by decide, by decide, ty_info (by kernel_rfl)⟩
theorem tyOk118 : TyOk Tryd.prog 118 { k := .ptr, size := 1, bytes := 8, zero := .pointer none } :=
  ⟨⟨_, Tryd.underlying118⟩, by decide, by decide, by decide, by decide, by decide, ty_info (by kernel_rfl)⟩
theorem tyOk119 : TyOk Tryd.prog 119 { k := .map .int 3 3, size := 1, bytes := 8, zero := .map none } :=
  ⟨⟨Tryd.underlying119, Go.Maps.int_keyed Tryd.underlying3, fun v ⟨n, hv, h1, h2⟩ => ⟨_, hv ▸ Go.Maps.keyOf_int_mk Tryd.underlying3 (int_wf h1 h2)⟩⟩, by decide, by decide, by decide, by decide, by decide, ty_info (by kernel_rfl)⟩
theorem tyOk120 : TyOk Tryd.prog 120 { k := .func, size := 1, bytes := 8, zero := .nilFunc } :=
  ⟨⟨_, _, _, Tryd.underlying120⟩, by decide, by decide, by decide, by decide, by decide, ty_info (by kernel_rfl)⟩
theorem tyOk121 : TyOk Tryd.prog 121 { k := .func, size := 1, bytes := 8, zero := .nilFunc } :=
  ⟨⟨_, _, _, Tryd.underlying121⟩, by decide, by decide, by decide, by decide, by decide, ty_info (by kernel_rfl)⟩
theorem tyOk122 : TyOk Tryd.prog 122 { k := .func, size := 1, bytes := 8, zero := .nilFunc } :=
  ⟨⟨_, _, _, Tryd.underlying122⟩, by decide, by decide, by decide, by decide, by decide, ty_info (by kernel_rfl)⟩
theorem tyOk123 : TyOk Tryd.prog 123 { k := .func, size := 1, bytes := 8, zero := .nilFunc } :=
  ⟨⟨_, _, _, Tryd.underlying123⟩, by decide, by decide, by decide, by decide, by decide, ty_info (by kernel_rfl)⟩
theorem tyOk126 : TyOk Tryd.prog 126 { k := .func, size := 1, bytes := 8, zero := .nilFunc } :=
  ⟨⟨_, _, _, Tryd.underlying126⟩, by decide, by decide, by decide, by decide, by decide, ty_info (by kernel_rfl)⟩
theorem tyOk127 : TyOk Tryd.prog 127 { k := .func, size := 1, bytes := 8, zero := .nilFunc } :=
  ⟨⟨_, _, _, Tryd.underlying127⟩, by decide, by decide, by decide, by decide, by decide, ty_info (by kernel_rfl)⟩
theorem tyOk131 : TyOk Tryd.prog 131 { k := .func, size := 1, bytes := 8, zero := .nilFunc } :=
  ⟨⟨_, _, _, Tryd.underlying131⟩, by decide, by decide, by decide, by decide, by decide, ty_info (by kernel_rfl)⟩
theorem tyOk132 : TyOk Tryd.prog 132 { k := .func, size := 1, bytes := 8, zero := .nilFunc } :=
  ⟨⟨_, _, _, Tryd.underlying132⟩, by decide, by decide, by decide, by decide, by decide, ty_info (by kernel_rfl)⟩
theorem tyOk133 : TyOk Tryd.prog 133 { k := .ptr, size := 1, bytes := 8, zero := .pointer none } :=
  ⟨⟨_, Tryd.underlying133⟩, by decide, by decide, by decide, by decide, by decide, ty_info (by kernel_rfl)⟩
theorem tyOk134 : TyOk Tryd.prog 134 { k := .func, size := 1, bytes := 8, zero := .nilFunc } :=
  ⟨⟨_, _, _, Tryd.underlying134⟩, by decide, by decide, by decide, by decide, by decide, ty_info (by kernel_rfl)⟩
theorem tyOk135 : TyOk Tryd.prog 135 { k := .func, size := 1, bytes := 8, zero := .nilFunc } :=
  ⟨⟨_, _, _, Tryd.underlying135⟩, by decide, by decide, by decide, by decide, by decide, ty_info (by kernel_rfl)⟩
theorem tyOk140 : TyOk Tryd.prog 140 { k := .func, size := 1, bytes := 8, zero := .nilFunc } :=
  ⟨⟨_, _, _, Tryd.underlying140⟩, by decide, by decide, by decide, by decide, by decide, ty_info (by kernel_rfl)⟩
theorem tyOk142 : TyOk Tryd.prog 142 { k := .func, size := 1, bytes := 8, zero := .nilFunc } :=
  ⟨⟨_, _, _, Tryd.underlying142⟩, by decide, by decide, by decide, by decide, by decide, ty_info (by kernel_rfl)⟩
theorem tyOk143 : TyOk Tryd.prog 143 { k := .func, size := 1, bytes := 8, zero := .nilFunc } :=
  ⟨⟨_, _, _, Tryd.underlying143⟩, by decide, by decide, by decide, by decide, by decide, ty_info (by kernel_rfl)⟩
theorem tyOk144 : TyOk Tryd.prog 144 { k := .func, size := 1, bytes := 8, zero := .nilFunc } :=
  ⟨⟨_, _, _, Tryd.underlying144⟩, by decide, by decide, by decide, by decide, by decide, ty_info (by kernel_rfl)⟩
theorem tyOk145 : TyOk Tryd.prog 145 { k := .func, size := 1, bytes := 8, zero := .nilFunc } :=
  ⟨⟨_, _, _, Tryd.underlying145⟩, by decide, by decide, by decide, by decide, by decide, ty_info (by kernel_rfl)⟩
theorem tyOk146 : TyOk Tryd.prog 146 { k := .func, size := 1, bytes := 8, zero := .nilFunc } :=
  ⟨⟨_, _, _, Tryd.underlying146⟩, by decide, by decide, by decide, by decide, by decide, ty_info (by kernel_rfl)⟩
theorem tyOk147 : TyOk Tryd.prog 147 { k := .func, size := 1, bytes := 8, zero := .nilFunc } :=
  ⟨⟨_, _, _, Tryd.underlying147⟩, by decide, by decide, by decide, by decide, by decide, ty_info (by kernel_rfl)⟩
theorem tyOk148 : TyOk Tryd.prog 148 { k := .func, size := 1, bytes := 8, zero := .nilFunc } :=
  ⟨⟨_, _, _, Tryd.underlying148⟩, by decide, by decide, by decide, by decide, by decide, ty_info (by kernel_rfl)⟩
theorem tyOk149 : TyOk Tryd.prog 149 { k := .func, size := 1, bytes := 8, zero := .nilFunc } :=
  ⟨⟨_, _, _, Tryd.underlying149⟩, by decide, by decide, by decide, by decide, by decide, ty_info (by kernel_rfl)⟩
theorem tyOk150 : TyOk Tryd.prog 150 { k := .func, size := 1, bytes := 8, zero := .nilFunc } :=
  ⟨⟨_, _, _, Tryd.underlying150⟩, by decide, by decide, by decide, by decide, by decide, ty_info (by kernel_rfl)⟩
theorem tyOk152 : TyOk Tryd.prog 152 { k := .func, size := 1, bytes := 8, zero := .nilFunc } :=
  ⟨⟨_, _, _, Tryd.underlying152⟩, by decide, by decide, by decide, by decide, by decide, ty_info (by kernel_rfl)⟩
theorem tyOk153 : TyOk Tryd.prog 153 { k := .func, size := 1, bytes := 8, zero := .nilFunc } :=
  ⟨⟨_, _, _, Tryd.underlying153⟩, by decide, by decide, by decide, by decide, by decide, ty_info (by kernel_rfl)⟩
theorem tyOk154 : TyOk Tryd.prog 154 { k := .func, size := 1, bytes := 8, zero := .nilFunc } :=
  ⟨⟨_, _, _, Tryd.underlying154⟩, by decide, by decide, by decide, by decide, by decide, ty_info (by kernel_rfl)⟩
theorem tyOk155 : TyOk Tryd.prog 155 { k := .func, size := 1, bytes := 8, zero := .nilFunc } :=
  ⟨⟨_, _, _, Tryd.underlying155⟩, by decide, by decide, by decide, by decide, by decide, ty_info (by kernel_rfl)⟩
theorem tyOk156 : TyOk Tryd.prog 156 { k := .func, size := 1, bytes := 8, zero := .nilFunc } :=
  ⟨⟨_, _, _, Tryd.underlying156⟩, by decide, by decide, by decide, by decide, by decide, ty_info (by kernel_rfl)⟩
theorem tyOk159 : TyOk Tryd.prog 159 { k := .func, size := 1, bytes := 8, zero := .nilFunc } :=
  ⟨⟨_, _, _, Tryd.underlying159⟩, by decide, by decide, by decide, by decide, by decide, ty_info (by kernel_rfl)⟩
theorem tyOk160 : TyOk Tryd.prog 160 { k := .func, size := 1, bytes := 8, zero := .nilFunc } :=
  ⟨⟨_, _, _, Tryd.underlying160⟩, by decide, by decide, by decide, by decide, by decide, ty_info (by kernel_rfl)⟩
theorem tyOk161 : TyOk Tryd.prog 161 { k := .func, size := 1, bytes := 8, zero := .nilFunc } :=
  ⟨⟨_, _, _, Tryd.underlying161⟩, by decide, by decide, by decide, by decide, by decide, ty_info (by kernel_rfl)⟩
theorem tyOk162 : TyOk Tryd.prog 162 { k := .func, size := 1, bytes := 8, zero := .nilFunc } :=
  ⟨⟨_, _, _, Tryd.underlying162⟩, by decide, by decide, by decide, by decide, by decide, ty_info (by kernel_rfl)⟩
theorem tyOk165 : TyOk Tryd.prog 165 { k := .func, size := 1, bytes := 8, zero := .nilFunc } :=
  ⟨⟨_, _, _, Tryd.underlying165⟩, by decide, by decide, by decide, by decide, by decide, ty_info (by kernel_rfl)⟩
theorem tyOk166 : TyOk Tryd.prog 166 { k := .ptr, size := 1, bytes := 8, zero := .pointer none } :=
  ⟨⟨_, Tryd.underlying166⟩, by decide, by decide, by decide, by decide, by decide, ty_info (by kernel_rfl)⟩
theorem tyOk167 : TyOk Tryd.prog 167 { k := .func, size := 1, bytes := 8, zero := .nilFunc } :=
  ⟨⟨_, _, _, Tryd.underlying167⟩, by decide, by decide, by decide, by decide, by decide, ty_info (by kernel_rfl)⟩
theorem tyOk168 : TyOk Tryd.prog 168 { k := .func, size := 1, bytes := 8, zero := .nilFunc } :=
  ⟨⟨_, _, _, Tryd.underlying168⟩, by decide, by decide, by decide, by decide, by decide, ty_info (by kernel_rfl)⟩
theorem tyOk169 : TyOk Tryd.prog 169 { k := .func, size := 1, bytes := 8, zero := .nilFunc } :=
  ⟨⟨_, _, _, Tryd.underlying169⟩, by decide, by decide, by decide, by decide, by decide, ty_info (by kernel_rfl)⟩
theorem tyOk173 : TyOk Tryd.prog 173 { k := .func, size := 1, bytes := 8, zero := .nilFunc } :=
  ⟨⟨_, _, _, Tryd.underlying173⟩, by decide, by decide, by decide, by decide, by decide, ty_info (by kernel_rfl)⟩
theorem tyOk174 : TyOk Tryd.prog 174 { k := .func, size := 1, bytes := 8, zero := .nilFunc } :=
  ⟨⟨_, _, _, Tryd.underlying174⟩, by decide, by decide, by decide, by decide, by decide, ty_info (by kernel_rfl)⟩
theorem tyOk175 : TyOk Tryd.prog 175 { k := .func, size := 1, bytes := 8, zero := .nilFunc } :=
  ⟨⟨_, _, _, Tryd.underlying175⟩, by decide, by decide, by decide, by decide, by decide, ty_info (by kernel_rfl)⟩
theorem tyOk176 : TyOk Tryd.prog 176 { k := .ptr, size := 1, bytes := 8, zero := .pointer none } :=
  ⟨⟨_, Tryd.underlying176⟩, by decide, by decide, by decide, by decide, by decide, ty_info (by kernel_rfl)⟩
theorem tyOk177 : TyOk Tryd.prog 177 { k := .func, size := 1, bytes := 8, zero := .nilFunc } :=
  ⟨⟨_, _, _, Tryd.underlying177⟩, by decide, by decide, by decide, by decide, by decide, ty_info (by kernel_rfl)⟩
theorem tyOk179 : TyOk Tryd.prog 179 { k := .func, size := 1, bytes := 8, zero := .nilFunc } :=
  ⟨⟨_, _, _, Tryd.underlying179⟩, by decide, by decide, by decide, by decide, by decide, ty_info (by kernel_rfl)⟩
theorem tyOk182 : TyOk Tryd.prog 182 { k := .func, size := 1, bytes := 8, zero := .nilFunc } :=
  ⟨⟨_, _, _, Tryd.underlying182⟩, by decide, by decide, by decide, by decide, by decide, ty_info (by kernel_rfl)⟩
theorem tyOk184 : TyOk Tryd.prog 184 { k := .func, size := 1, bytes := 8, zero := .nilFunc } :=
  ⟨⟨_, _, _, Tryd.underlying184⟩, by decide, by decide, by decide, by decide, by decide, ty_info (by kernel_rfl)⟩
theorem tyOk189 : TyOk Tryd.prog 189 { k := .func, size := 1, bytes := 8, zero := .nilFunc } :=
  ⟨⟨_, _, _, Tryd.underlying189⟩, by decide, by decide, by decide, by decide, by decide, ty_info (by kernel_rfl)⟩
theorem tyOk190 : TyOk Tryd.prog 190 { k := .ptr, size := 1, bytes := 8, zero := .pointer none } :=
  ⟨⟨_, Tryd.underlying190⟩, by decide, by decide, by decide, by decide, by decide, ty_info (by kernel_rfl)⟩
theorem tyOk191 : TyOk Tryd.prog 191 { k := .func, size := 1, bytes := 8, zero := .nilFunc } :=
  ⟨⟨_, _, _, Tryd.underlying191⟩, by decide, by decide, by decide, by decide, by decide, ty_info (by kernel_rfl)⟩
theorem tyOk192 : TyOk Tryd.prog 192 { k := .func, size := 1, bytes := 8, zero := .nilFunc } :=
  ⟨⟨_, _, _, Tryd.underlying192⟩, by decide, by decide, by decide, by decide, by decide, ty_info (by kernel_rfl)⟩
theorem tyOk193 : TyOk Tryd.prog 193 { k := .ptr, size := 1, bytes := 8, zero := .pointer none } :=
  ⟨⟨_, Tryd.underlying193⟩, by decide, by decide, by decide, by decide, by decide, ty_info (by kernel_rfl)⟩
theorem tyOk201 : TyOk Tryd.prog 201 { k := .func, size := 1, bytes := 8, zero := .nilFunc } :=
  ⟨⟨_, _, _, Tryd.underlying201⟩, by decide, by decide, by decide, by decide, by decide, ty_info (by kernel_rfl)⟩
theorem tyOk204 : TyOk Tryd.prog 204 { k := .func, size := 1, bytes := 8, zero := .nilFunc } :=
  ⟨⟨_, _, _, Tryd.underlying204⟩, by decide, by decide, by decide, by decide, by decide, ty_info (by kernel_rfl)⟩
def TabOk (P : Program) : List (Nat × TyI) → Prop
  | [] => True
  | p :: r => TyOk P p.1 p.2 ∧ TabOk P r
theorem TabOk.mem {P : Program} : ∀ {l : List (Nat × TyI)}, TabOk P l → ∀ {p : Nat × TyI}, p ∈ l → TyOk P p.1 p.2
  | [], _, p, h => by cases h
  | q :: r, hl, p, h => by
    rcases List.mem_cons.1 h with rfl | h
    · exact hl.1
    · exact TabOk.mem hl.2 h
set_option maxHeartbeats 4000000 in
theorem tyTab_ok : TabOk Tryd.prog tyTab :=
  ⟨tyOk2, tyOk3, tyOk4, tyOk5, tyOk6, tyOk7, tyOk8, tyOk9, tyOk10, tyOk11, tyOk12, tyOk13, tyOk14, tyOk18, tyOk19, tyOk21, tyOk22, tyOk23, tyOk24, tyOk25, tyOk26, tyOk32, tyOk33, tyOk34, tyOk37, tyOk38, tyOk39, tyOk43, tyOk44, tyOk45, tyOk61, tyOk62, tyOk70, tyOk71, tyOk79, tyOk80, tyOk81, tyOk104, tyOk112, tyOk113, tyOk124, tyOk125, tyOk136, tyOk137, tyOk139, tyOk157, tyOk163, tyOk170, tyOk172, tyOk180, tyOk181, tyOk186, tyOk187, tyOk188, tyOk194, tyOk195, tyOk196, tyOk197, tyOk202, tyOk203, tyOk205, tyOk206, tyOk207, tyOk208, tyOk1, tyOk15, tyOk16, tyOk17, tyOk20, tyOk28, tyOk29, tyOk30, tyOk31, tyOk35, tyOk36, tyOk41, tyOk42, tyOk46, tyOk47, tyOk48, tyOk49, tyOk50, tyOk51, tyOk52, tyOk53, tyOk54, tyOk55, tyOk56, tyOk57, tyOk58, tyOk59, tyOk60, tyOk63, tyOk64, tyOk65, tyOk66, tyOk67, tyOk68, tyOk69, tyOk72, tyOk73, tyOk74, tyOk75, tyOk76, tyOk77, tyOk78, tyOk82, tyOk83, tyOk85, tyOk86, tyOk87, tyOk88, tyOk89, tyOk90, tyOk92, tyOk93, tyOk95, tyOk96, tyOk97, tyOk99, tyOk100, tyOk101, tyOk102, tyOk103, tyOk106, tyOk107, tyOk109, tyOk110, tyOk111, tyOk114, tyOk115, tyOk117, tyOk118, tyOk119, tyOk120, tyOk121, tyOk122, tyOk123, tyOk126, tyOk127, tyOk131, tyOk132, tyOk133, tyOk134, tyOk135, tyOk140, tyOk142, tyOk143, tyOk144, tyOk145, tyOk146, tyOk147, tyOk148, tyOk149, tyOk150, tyOk152, tyOk153, tyOk154, tyOk155, tyOk156, tyOk159, tyOk160, tyOk161, tyOk162, tyOk165, tyOk166, tyOk167, tyOk168, tyOk169, tyOk173, tyOk174, tyOk175, tyOk176, tyOk177, tyOk179, tyOk182, tyOk184, tyOk189, tyOk190, tyOk191, tyOk192, tyOk193, tyOk201, tyOk204, trivial⟩
theorem tyT_ok (t : TypeId) : TyOk Tryd.prog t (tyT t) := by
  unfold tyT
  split
  · rename_i i h
    exact tyTab_ok.mem (findB_mem h)
  · trivial
end Go.Proofs.YtkjflkbjepdaaaaDoor
