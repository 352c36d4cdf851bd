/-
  The table of this program's types that the readings know, each entry proved. Written by a program.
-/
import Derived.Test.YtkjflkbjepdaaaaGreatDoorN17
import Derived.Test.YtkjflkbjepdaaaaGreatDoorProg
namespace Go.Proofs.YtkjflkbjepdaaaaGreatDoor
open Go.RowKit
set_option maxRecDepth 100000

def tyTab : List (Nat × TyI) :=
  [(2, { k := .int .i64, size := 1, bytes := 8, zero := .int .i64 0 }),
   (3, { k := .int .i64, size := 1, bytes := 8, zero := .int .i64 0 }),
   (4, { k := .bool, size := 1, bytes := 1, zero := .bool false }),
   (5, { k := .int .u8, size := 1, bytes := 1, zero := .int .u8 0 }),
   (6, { k := .int .u8, size := 1, bytes := 1, zero := .int .u8 0 }),
   (7, { k := .struct [(2, 0), (3, 1), (4, 2), (6, 3)], size := 4, bytes := 24, zero := .agg #[.int .i64 0, .int .i64 0, .bool false, .int .u8 0] }),
   (8, { k := .struct [(2, 0), (3, 1), (4, 2), (6, 3)], size := 4, bytes := 24, zero := .agg #[.int .i64 0, .int .i64 0, .bool false, .int .u8 0] }),
   (9, { k := .str, size := 1, bytes := 16, zero := .string ⟨#[]⟩ }),
   (10, { k := .str, size := 1, bytes := 16, zero := .string ⟨#[]⟩ }),
   (11, { k := .str, size := 1, bytes := 16, zero := .string ⟨#[]⟩ }),
   (12, { k := .int .u64, size := 1, bytes := 8, zero := .int .u64 0 }),
   (13, { k := .struct [(9, 0), (12, 1)], size := 2, bytes := 24, zero := .agg #[.string ⟨#[]⟩, .int .u64 0] }),
   (14, { k := .struct [(9, 0), (12, 1)], size := 2, bytes := 24, zero := .agg #[.string ⟨#[]⟩, .int .u64 0] }),
   (18, { k := .struct [(17, 0)], size := 1, bytes := 8, zero := .agg #[.pointer none] }),
   (19, { k := .struct [(17, 0)], size := 1, bytes := 8, zero := .agg #[.pointer none] }),
   (21, { k := .int .i32, size := 1, bytes := 4, zero := .int .i32 0 }),
   (22, { k := .sl 25, size := 1, bytes := 24, zero := .slice none 0 0 }),
   (23, { k := .sl 9, size := 1, bytes := 24, zero := .slice none 0 0 }),
   (24, { k := .struct [(3, 0), (4, 1), (3, 2), (9, 3), (22, 4), (23, 5)], size := 6, bytes := 88, zero := .agg #[.int .i64 0, .bool false, .int .i64 0, .string ⟨#[]⟩, .slice none 0 0, .slice none 0 0] }),
   (25, { k := .struct [(3, 0), (4, 1), (3, 2), (9, 3), (22, 4), (23, 5)], size := 6, bytes := 88, zero := .agg #[.int .i64 0, .bool false, .int .i64 0, .string ⟨#[]⟩, .slice none 0 0, .slice none 0 0] }),
   (26, { k := .sl 28, size := 1, bytes := 24, zero := .slice none 0 0 }),
   (27, { k := .struct [(3, 0), (9, 1), (25, 2), (26, 8)], size := 9, bytes := 136, zero := .agg #[.int .i64 0, .string ⟨#[]⟩, .int .i64 0, .bool false, .int .i64 0, .string ⟨#[]⟩, .slice none 0 0, .slice none 0 0, .slice none 0 0] }),
   (28, { k := .struct [(3, 0), (9, 1), (25, 2), (26, 8)], size := 9, bytes := 136, zero := .agg #[.int .i64 0, .string ⟨#[]⟩, .int .i64 0, .bool false, .int .i64 0, .string ⟨#[]⟩, .slice none 0 0, .slice none 0 0, .slice none 0 0] }),
   (29, { k := .int .i64, size := 1, bytes := 8, zero := .int .i64 0 }),
   (33, { k := .sl 3, size := 1, bytes := 24, zero := .slice none 0 0 }),
   (44, { k := .sl 72, size := 1, bytes := 24, zero := .slice none 0 0 }),
   (55, { k := .struct [(28, 0)], size := 9, bytes := 136, zero := .agg #[.int .i64 0, .string ⟨#[]⟩, .int .i64 0, .bool false, .int .i64 0, .string ⟨#[]⟩, .slice none 0 0, .slice none 0 0, .slice none 0 0] }),
   (56, { k := .struct [(28, 0)], size := 9, bytes := 136, zero := .agg #[.int .i64 0, .string ⟨#[]⟩, .int .i64 0, .bool false, .int .i64 0, .string ⟨#[]⟩, .slice none 0 0, .slice none 0 0, .slice none 0 0] }),
   (59, { k := .sl 99, size := 1, bytes := 24, zero := .slice none 0 0 }),
   (70, { k := .sl 22, size := 1, bytes := 24, zero := .slice none 0 0 }),
   (71, { k := .struct [(9, 0), (4, 1)], size := 2, bytes := 24, zero := .agg #[.string ⟨#[]⟩, .bool false] }),
   (72, { k := .struct [(9, 0), (4, 1)], size := 2, bytes := 24, zero := .agg #[.string ⟨#[]⟩, .bool false] }),
   (73, { k := .sl 116, size := 1, bytes := 24, zero := .slice none 0 0 }),
   (98, { k := .struct [(9, 0), (3, 1), (4, 2)], size := 3, bytes := 32, zero := .agg #[.string ⟨#[]⟩, .int .i64 0, .bool false] }),
   (99, { k := .struct [(9, 0), (3, 1), (4, 2)], size := 3, bytes := 32, zero := .agg #[.string ⟨#[]⟩, .int .i64 0, .bool false] }),
   (115, { k := .struct [(9, 0), (3, 1)], size := 2, bytes := 24, zero := .agg #[.string ⟨#[]⟩, .int .i64 0] }),
   (116, { k := .struct [(9, 0), (3, 1)], size := 2, bytes := 24, zero := .agg #[.string ⟨#[]⟩, .int .i64 0] }),
   (119, { k := .int .u64, size := 1, bytes := 8, zero := .int .u64 0 }),
   (126, { k := .struct [(79, 0), (123, 1)], size := 2, bytes := 16, zero := .agg #[.nilFunc, .nilFunc] }),
   (127, { k := .struct [(79, 0), (123, 1)], size := 2, bytes := 16, zero := .agg #[.nilFunc, .nilFunc] }),
   (148, { k := .struct [(17, 0)], size := 1, bytes := 8, zero := .agg #[.pointer none] }),
   (149, { k := .struct [(17, 0)], size := 1, bytes := 8, zero := .agg #[.pointer none] }),
   (156, { k := .sl 5, size := 1, bytes := 24, zero := .slice none 0 0 }),
   (157, { k := .struct [(155, 0), (156, 1)], size := 2, bytes := 32, zero := .agg #[.pointer none, .slice none 0 0] }),
   (158, { k := .struct [(155, 0), (156, 1)], size := 2, bytes := 32, zero := .agg #[.pointer none, .slice none 0 0] }),
   (166, { k := .int .u64, size := 1, bytes := 8, zero := .int .u64 0 }),
   (172, { k := .int .i64, size := 1, bytes := 8, zero := .int .i64 0 }),
   (190, { k := .int .u32, size := 1, bytes := 4, zero := .int .u32 0 }),
   (193, { k := .struct [(21, 0), (190, 1)], size := 2, bytes := 8, zero := .agg #[.int .i32 0, .int .u32 0] }),
   (194, { k := .struct [(21, 0), (190, 1)], size := 2, bytes := 8, zero := .agg #[.int .i32 0, .int .u32 0] }),
   (201, { k := .struct [(198, 0), (200, 3), (23, 4)], size := 5, bytes := 56, zero := .agg #[.int .u32 0, .int .i32 0, .int .u32 0, .nilIface, .slice none 0 0] }),
   (202, { k := .struct [(198, 0), (200, 3), (23, 4)], size := 5, bytes := 56, zero := .agg #[.int .u32 0, .int .i32 0, .int .u32 0, .nilIface, .slice none 0 0] }),
   (212, { k := .int .u64, size := 1, bytes := 8, zero := .int .u64 0 }),
   (215, { k := .struct [(9, 0), (9, 1), (101, 2)], size := 3, bytes := 48, zero := .agg #[.string ⟨#[]⟩, .string ⟨#[]⟩, .nilIface] }),
   (216, { k := .struct [(9, 0), (9, 1), (101, 2)], size := 3, bytes := 48, zero := .agg #[.string ⟨#[]⟩, .string ⟨#[]⟩, .nilIface] }),
   (225, { k := .int .i64, size := 1, bytes := 8, zero := .int .i64 0 }),
   (233, { k := .struct [(9, 0)], size := 1, bytes := 16, zero := .agg #[.string ⟨#[]⟩] }),
   (234, { k := .struct [(9, 0)], size := 1, bytes := 16, zero := .agg #[.string ⟨#[]⟩] }),
   (251, { k := .arr 24 5, size := 24, bytes := 24, zero := .agg #[.int .u8 0, .int .u8 0, .int .u8 0, .int .u8 0, .int .u8 0, .int .u8 0, .int .u8 0, .int .u8 0, .int .u8 0, .int .u8 0, .int .u8 0, .int .u8 0, .int .u8 0, .int .u8 0, .int .u8 0, .int .u8 0, .int .u8 0, .int .u8 0, .int .u8 0, .int .u8 0, .int .u8 0, .int .u8 0, .int .u8 0, .int .u8 0] }),
   (256, { k := .struct [(5, 0), (5, 1)], size := 2, bytes := 2, zero := .agg #[.int .u8 0, .int .u8 0] }),
   (257, { k := .struct [(5, 0), (5, 1)], size := 2, bytes := 2, zero := .agg #[.int .u8 0, .int .u8 0] }),
   (258, { k := .arr 16 257, size := 32, bytes := 32, zero := .agg #[.int .u8 0, .int .u8 0, .int .u8 0, .int .u8 0, .int .u8 0, .int .u8 0, .int .u8 0, .int .u8 0, .int .u8 0, .int .u8 0, .int .u8 0, .int .u8 0, .int .u8 0, .int .u8 0, .int .u8 0, .int .u8 0, .int .u8 0, .int .u8 0, .int .u8 0, .int .u8 0, .int .u8 0, .int .u8 0, .int .u8 0, .int .u8 0, .int .u8 0, .int .u8 0, .int .u8 0, .int .u8 0, .int .u8 0, .int .u8 0, .int .u8 0, .int .u8 0] }),
   (265, { k := .struct [(263, 0), (9, 1)], size := 2, bytes := 24, zero := .agg #[.pointer none, .string ⟨#[]⟩] }),
   (266, { k := .struct [(263, 0), (9, 1)], size := 2, bytes := 24, zero := .agg #[.pointer none, .string ⟨#[]⟩] }),
   (268, { k := .sl 267, size := 1, bytes := 24, zero := .slice none 0 0 }),
   (269, { k := .struct [(9, 0), (3, 1), (9, 2), (267, 3), (268, 4)], size := 5, bytes := 72, zero := .agg #[.string ⟨#[]⟩, .int .i64 0, .string ⟨#[]⟩, .pointer none, .slice none 0 0] }),
   (270, { k := .struct [(9, 0), (3, 1), (9, 2), (267, 3), (268, 4)], size := 5, bytes := 72, zero := .agg #[.string ⟨#[]⟩, .int .i64 0, .string ⟨#[]⟩, .pointer none, .slice none 0 0] }),
   (274, { k := .arr 20 212, size := 20, bytes := 160, zero := .agg #[.int .u64 0, .int .u64 0, .int .u64 0, .int .u64 0, .int .u64 0, .int .u64 0, .int .u64 0, .int .u64 0, .int .u64 0, .int .u64 0, .int .u64 0, .int .u64 0, .int .u64 0, .int .u64 0, .int .u64 0, .int .u64 0, .int .u64 0, .int .u64 0, .int .u64 0, .int .u64 0] }),
   (290, { k := .arr 32 5, size := 32, bytes := 32, zero := .agg #[.int .u8 0, .int .u8 0, .int .u8 0, .int .u8 0, .int .u8 0, .int .u8 0, .int .u8 0, .int .u8 0, .int .u8 0, .int .u8 0, .int .u8 0, .int .u8 0, .int .u8 0, .int .u8 0, .int .u8 0, .int .u8 0, .int .u8 0, .int .u8 0, .int .u8 0, .int .u8 0, .int .u8 0, .int .u8 0, .int .u8 0, .int .u8 0, .int .u8 0, .int .u8 0, .int .u8 0, .int .u8 0, .int .u8 0, .int .u8 0, .int .u8 0, .int .u8 0] }),
   (292, { k := .struct [(17, 0), (17, 1), (17, 2), (9, 3)], size := 4, bytes := 40, zero := .agg #[.pointer none, .pointer none, .pointer none, .string ⟨#[]⟩] }),
   (293, { k := .struct [(17, 0), (17, 1), (17, 2), (9, 3)], size := 4, bytes := 40, zero := .agg #[.pointer none, .pointer none, .pointer none, .string ⟨#[]⟩] }),
   (297, { k := .int .u8, size := 1, bytes := 1, zero := .int .u8 0 }),
   (298, { k := .int .u8, size := 1, bytes := 1, zero := .int .u8 0 }),
   (300, { k := .int .i32, size := 1, bytes := 4, zero := .int .i32 0 }),
   (301, { k := .int .i32, size := 1, bytes := 4, zero := .int .i32 0 }),
   (302, { k := .struct [(12, 0), (12, 1), (190, 2), (297, 3), (5, 4), (5, 5), (298, 6), (299, 7), (186, 8), (300, 9), (301, 10)], size := 11, bytes := 48, zero := .agg #[.int .u64 0, .int .u64 0, .int .u32 0, .int .u8 0, .int .u8 0, .int .u8 0, .int .u8 0, .nilFunc, .pointer none, .int .i32 0, .int .i32 0] }),
   (303, { k := .struct [(12, 0), (12, 1), (190, 2), (297, 3), (5, 4), (5, 5), (298, 6), (299, 7), (186, 8), (300, 9), (301, 10)], size := 11, bytes := 48, zero := .agg #[.int .u64 0, .int .u64 0, .int .u32 0, .int .u8 0, .int .u8 0, .int .u8 0, .int .u8 0, .nilFunc, .pointer none, .int .i32 0, .int .i32 0] }),
   (304, { k := .struct [(9, 0), (298, 1)], size := 2, bytes := 24, zero := .agg #[.string ⟨#[]⟩, .int .u8 0] }),
   (305, { k := .struct [(9, 0), (298, 1)], size := 2, bytes := 24, zero := .agg #[.string ⟨#[]⟩, .int .u8 0] }),
   (307, { k := .sl 5, size := 1, bytes := 24, zero := .slice none 0 0 }),
   (317, { k := .struct [(310, 0)], size := 1, bytes := 16, zero := .agg #[.nilIface] }),
   (318, { k := .struct [(310, 0)], size := 1, bytes := 16, zero := .agg #[.nilIface] }),
   (1, { k := .func, size := 1, bytes := 8, zero := .nilFunc }),
   (15, { k := .ptr, size := 1, bytes := 8, zero := .pointer none }),
   (16, { k := .ptr, size := 1, bytes := 8, zero := .pointer none }),
   (17, { k := .ptr, size := 1, bytes := 8, zero := .pointer none }),
   (20, { k := .ifc, size := 1, bytes := 16, zero := .nilIface }),
   (31, { k := .func, size := 1, bytes := 8, zero := .nilFunc }),
   (32, { k := .func, size := 1, bytes := 8, zero := .nilFunc }),
   (35, { k := .func, size := 1, bytes := 8, zero := .nilFunc }),
   (36, { k := .func, size := 1, bytes := 8, zero := .nilFunc }),
   (37, { k := .func, size := 1, bytes := 8, zero := .nilFunc }),
   (38, { k := .func, size := 1, bytes := 8, zero := .nilFunc }),
   (39, { k := .func, size := 1, bytes := 8, zero := .nilFunc }),
   (41, { k := .func, size := 1, bytes := 8, zero := .nilFunc }),
   (42, { k := .func, size := 1, bytes := 8, zero := .nilFunc }),
   (43, { k := .func, size := 1, bytes := 8, zero := .nilFunc }),
   (45, { k := .func, size := 1, bytes := 8, zero := .nilFunc }),
   (46, { k := .func, size := 1, bytes := 8, zero := .nilFunc }),
   (48, { k := .func, size := 1, bytes := 8, zero := .nilFunc }),
   (49, { k := .func, size := 1, bytes := 8, zero := .nilFunc }),
   (50, { k := .func, size := 1, bytes := 8, zero := .nilFunc }),
   (51, { k := .func, size := 1, bytes := 8, zero := .nilFunc }),
   (52, { k := .func, size := 1, bytes := 8, zero := .nilFunc }),
   (53, { k := .func, size := 1, bytes := 8, zero := .nilFunc }),
   (54, { k := .func, size := 1, bytes := 8, zero := .nilFunc }),
   (58, { k := .func, size := 1, bytes := 8, zero := .nilFunc }),
   (61, { k := .func, size := 1, bytes := 8, zero := .nilFunc }),
   (62, { k := .func, size := 1, bytes := 8, zero := .nilFunc }),
   (63, { k := .func, size := 1, bytes := 8, zero := .nilFunc }),
   (65, { k := .func, size := 1, bytes := 8, zero := .nilFunc }),
   (67, { k := .func, size := 1, bytes := 8, zero := .nilFunc }),
   (68, { k := .func, size := 1, bytes := 8, zero := .nilFunc }),
   (69, { k := .func, size := 1, bytes := 8, zero := .nilFunc }),
   (75, { k := .func, size := 1, bytes := 8, zero := .nilFunc }),
   (76, { k := .func, size := 1, bytes := 8, zero := .nilFunc }),
   (77, { k := .func, size := 1, bytes := 8, zero := .nilFunc }),
   (78, { k := .func, size := 1, bytes := 8, zero := .nilFunc }),
   (79, { k := .func, size := 1, bytes := 8, zero := .nilFunc }),
   (80, { k := .func, size := 1, bytes := 8, zero := .nilFunc }),
   (81, { k := .func, size := 1, bytes := 8, zero := .nilFunc }),
   (82, { k := .func, size := 1, bytes := 8, zero := .nilFunc }),
   (83, { k := .func, size := 1, bytes := 8, zero := .nilFunc }),
   (84, { k := .func, size := 1, bytes := 8, zero := .nilFunc }),
   (85, { k := .func, size := 1, bytes := 8, zero := .nilFunc }),
   (86, { k := .func, size := 1, bytes := 8, zero := .nilFunc }),
   (87, { k := .func, size := 1, bytes := 8, zero := .nilFunc }),
   (88, { k := .func, size := 1, bytes := 8, zero := .nilFunc }),
   (89, { k := .func, size := 1, bytes := 8, zero := .nilFunc }),
   (90, { k := .func, size := 1, bytes := 8, zero := .nilFunc }),
   (91, { k := .func, size := 1, bytes := 8, zero := .nilFunc }),
   (92, { k := .func, size := 1, bytes := 8, zero := .nilFunc }),
   (93, { k := .func, size := 1, bytes := 8, zero := .nilFunc }),
   (94, { k := .func, size := 1, bytes := 8, zero := .nilFunc }),
   (95, { k := .func, size := 1, bytes := 8, zero := .nilFunc }),
   (96, { k := .func, size := 1, bytes := 8, zero := .nilFunc }),
   (97, { k := .func, size := 1, bytes := 8, zero := .nilFunc }),
   (100, { k := .ifc, size := 1, bytes := 16, zero := .nilIface }),
   (101, { k := .ifc, size := 1, bytes := 16, zero := .nilIface }),
   (103, { k := .func, size := 1, bytes := 8, zero := .nilFunc }),
   (104, { k := .func, size := 1, bytes := 8, zero := .nilFunc }),
   (106, { k := .func, size := 1, bytes := 8, zero := .nilFunc }),
   (107, { k := .func, size := 1, bytes := 8, zero := .nilFunc }),
   (108, { k := .func, size := 1, bytes := 8, zero := .nilFunc }),
   (109, { k := .func, size := 1, bytes := 8, zero := .nilFunc }),
   (110, { k := .func, size := 1, bytes := 8, zero := .nilFunc }),
   (111, { k := .func, size := 1, bytes := 8, zero := .nilFunc }),
   (112, { k := .func, size := 1, bytes := 8, zero := .nilFunc }),
   (113, { k := .func, size := 1, bytes := 8, zero := .nilFunc }),
   (114, { k := .func, size := 1, bytes := 8, zero := .nilFunc }),
   (117, { k := .func, size := 1, bytes := 8, zero := .nilFunc }),
   (122, { k := .func, size := 1, bytes := 8, zero := .nilFunc }),
   (123, { k := .func, size := 1, bytes := 8, zero := .nilFunc }),
   (124, { k := .func, size := 1, bytes := 8, zero := .nilFunc }),
   (125, { k := .func, size := 1, bytes := 8, zero := .nilFunc }),
   (128, { k := .func, size := 1, bytes := 8, zero := .nilFunc }),
   (129, { k := .func, size := 1, bytes := 8, zero := .nilFunc }),
   (130, { k := .func, size := 1, bytes := 8, zero := .nilFunc }),
   (131, { k := .map .int 3 9, size := 1, bytes := 8, zero := .map none }),
   (132, { k := .func, size := 1, bytes := 8, zero := .nilFunc }),
   (133, { k := .func, size := 1, bytes := 8, zero := .nilFunc }),
   (134, { k := .func, size := 1, bytes := 8, zero := .nilFunc }),
   (135, { k := .func, size := 1, bytes := 8, zero := .nilFunc }),
   (136, { k := .func, size := 1, bytes := 8, zero := .nilFunc }),
   (137, { k := .func, size := 1, bytes := 8, zero := .nilFunc }),
   (138, { k := .func, size := 1, bytes := 8, zero := .nilFunc }),
   (139, { k := .func, size := 1, bytes := 8, zero := .nilFunc }),
   (140, { k := .func, size := 1, bytes := 8, zero := .nilFunc }),
   (141, { k := .func, size := 1, bytes := 8, zero := .nilFunc }),
   (142, { k := .func, size := 1, bytes := 8, zero := .nilFunc }),
   (143, { k := .func, size := 1, bytes := 8, zero := .nilFunc }),
   (144, { k := .func, size := 1, bytes := 8, zero := .nilFunc }),
   (145, { k := .func, size := 1, bytes := 8, zero := .nilFunc }),
   (146, { k := .func, size := 1, bytes := 8, zero := .nilFunc }),
   (147, { k := .func, size := 1, bytes := 8, zero := .nilFunc }),
   (150, { k := .ptr, size := 1, bytes := 8, zero := .pointer none }),
   (151, { k := .func, size := 1, bytes := 8, zero := .nilFunc }),
   (152, { k := .func, size := 1, bytes := 8, zero := .nilFunc }),
   (153, { k := .func, size := 1, bytes := 8, zero := .nilFunc }),
   (154, { k := .func, size := 1, bytes := 8, zero := .nilFunc }),
   (155, { k := .ptr, size := 1, bytes := 8, zero := .pointer none }),
   (159, { k := .func, size := 1, bytes := 8, zero := .nilFunc }),
   (160, { k := .func, size := 1, bytes := 8, zero := .nilFunc }),
   (161, { k := .func, size := 1, bytes := 8, zero := .nilFunc }),
   (162, { k := .func, size := 1, bytes := 8, zero := .nilFunc }),
   (163, { k := .ptr, size := 1, bytes := 8, zero := .pointer none }),
   (164, { k := .func, size := 1, bytes := 8, zero := .nilFunc }),
   (165, { k := .func, size := 1, bytes := 8, zero := .nilFunc }),
   (167, { k := .func, size := 1, bytes := 8, zero := .nilFunc }),
   (168, { k := .func, size := 1, bytes := 8, zero := .nilFunc }),
   (169, { k := .func, size := 1, bytes := 8, zero := .nilFunc }),
   (170, { k := .func, size := 1, bytes := 8, zero := .nilFunc }),
   (171, { k := .func, size := 1, bytes := 8, zero := .nilFunc }),
   (174, { k := .func, size := 1, bytes := 8, zero := .nilFunc }),
   (175, { k := .ptr, size := 1, bytes := 8, zero := .pointer none }),
   (176, { k := .func, size := 1, bytes := 8, zero := .nilFunc }),
   (177, { k := .func, size := 1, bytes := 8, zero := .nilFunc }),
   (178, { k := .func, size := 1, bytes := 8, zero := .nilFunc }),
   (179, { k := .func, size := 1, bytes := 8, zero := .nilFunc }),
   (183, { k := .func, size := 1, bytes := 8, zero := .nilFunc }),
   (184, { k := .func, size := 1, bytes := 8, zero := .nilFunc }),
   (185, { k := .ptr, size := 1, bytes := 8, zero := .pointer none }),
   (186, { k := .ptr, size := 1, bytes := 8, zero := .pointer none }),
   (199, { k := .ifc, size := 1, bytes := 16, zero := .nilIface }),
   (200, { k := .ifc, size := 1, bytes := 16, zero := .nilIface }),
   (203, { k := .func, size := 1, bytes := 8, zero := .nilFunc }),
   (205, { k := .func, size := 1, bytes := 8, zero := .nilFunc }),
   (206, { k := .func, size := 1, bytes := 8, zero := .nilFunc }),
   (207, { k := .func, size := 1, bytes := 8, zero := .nilFunc }),
   (208, { k := .func, size := 1, bytes := 8, zero := .nilFunc }),
   (209, { k := .func, size := 1, bytes := 8, zero := .nilFunc }),
   (211, { k := .func, size := 1, bytes := 8, zero := .nilFunc }),
   (214, { k := .func, size := 1, bytes := 8, zero := .nilFunc }),
   (217, { k := .func, size := 1, bytes := 8, zero := .nilFunc }),
   (218, { k := .func, size := 1, bytes := 8, zero := .nilFunc }),
   (219, { k := .func, size := 1, bytes := 8, zero := .nilFunc }),
   (220, { k := .func, size := 1, bytes := 8, zero := .nilFunc }),
   (221, { k := .ptr, size := 1, bytes := 8, zero := .pointer none }),
   (222, { k := .func, size := 1, bytes := 8, zero := .nilFunc }),
   (223, { k := .func, size := 1, bytes := 8, zero := .nilFunc }),
   (224, { k := .func, size := 1, bytes := 8, zero := .nilFunc }),
   (226, { k := .func, size := 1, bytes := 8, zero := .nilFunc }),
   (227, { k := .func, size := 1, bytes := 8, zero := .nilFunc }),
   (228, { k := .func, size := 1, bytes := 8, zero := .nilFunc }),
   (230, { k := .func, size := 1, bytes := 8, zero := .nilFunc }),
   (231, { k := .func, size := 1, bytes := 8, zero := .nilFunc }),
   (232, { k := .ptr, size := 1, bytes := 8, zero := .pointer none }),
   (235, { k := .func, size := 1, bytes := 8, zero := .nilFunc }),
   (236, { k := .ptr, size := 1, bytes := 8, zero := .pointer none }),
   (237, { k := .func, size := 1, bytes := 8, zero := .nilFunc }),
   (238, { k := .ptr, size := 1, bytes := 8, zero := .pointer none }),
   (239, { k := .func, size := 1, bytes := 8, zero := .nilFunc }),
   (240, { k := .ptr, size := 1, bytes := 8, zero := .pointer none }),
   (241, { k := .func, size := 1, bytes := 8, zero := .nilFunc }),
   (242, { k := .ptr, size := 1, bytes := 8, zero := .pointer none }),
   (243, { k := .func, size := 1, bytes := 8, zero := .nilFunc }),
   (246, { k := .ptr, size := 1, bytes := 8, zero := .pointer none }),
   (250, { k := .ptr, size := 1, bytes := 8, zero := .pointer none }),
   (252, { k := .func, size := 1, bytes := 8, zero := .nilFunc }),
   (253, { k := .func, size := 1, bytes := 8, zero := .nilFunc }),
   (255, { k := .func, size := 1, bytes := 8, zero := .nilFunc }),
   (259, { k := .func, size := 1, bytes := 8, zero := .nilFunc }),
   (260, { k := .ptr, size := 1, bytes := 8, zero := .pointer none }),
   (261, { k := .func, size := 1, bytes := 8, zero := .nilFunc }),
   (262, { k := .func, size := 1, bytes := 8, zero := .nilFunc }),
   (263, { k := .ptr, size := 1, bytes := 8, zero := .pointer none }),
   (264, { k := .func, size := 1, bytes := 8, zero := .nilFunc }),
   (267, { k := .ptr, size := 1, bytes := 8, zero := .pointer none }),
   (273, { k := .func, size := 1, bytes := 8, zero := .nilFunc }),
   (276, { k := .func, size := 1, bytes := 8, zero := .nilFunc }),
   (277, { k := .ptr, size := 1, bytes := 8, zero := .pointer none }),
   (278, { k := .func, size := 1, bytes := 8, zero := .nilFunc }),
   (279, { k := .ptr, size := 1, bytes := 8, zero := .pointer none }),
   (280, { k := .func, size := 1, bytes := 8, zero := .nilFunc }),
   (281, { k := .func, size := 1, bytes := 8, zero := .nilFunc }),
   (282, { k := .func, size := 1, bytes := 8, zero := .nilFunc }),
   (286, { k := .func, size := 1, bytes := 8, zero := .nilFunc }),
   (287, { k := .func, size := 1, bytes := 8, zero := .nilFunc }),
   (288, { k := .func, size := 1, bytes := 8, zero := .nilFunc }),
   (289, { k := .func, size := 1, bytes := 8, zero := .nilFunc }),
   (299, { k := .func, size := 1, bytes := 8, zero := .nilFunc }),
   (306, { k := .func, size := 1, bytes := 8, zero := .nilFunc }),
   (308, { k := .ptr, size := 1, bytes := 8, zero := .pointer none }),
   (309, { k := .ifc, size := 1, bytes := 16, zero := .nilIface }),
   (310, { k := .ifc, size := 1, bytes := 16, zero := .nilIface }),
   (311, { k := .ifc, size := 1, bytes := 16, zero := .nilIface }),
   (312, { k := .ifc, size := 1, bytes := 16, zero := .nilIface }),
   (313, { k := .func, size := 1, bytes := 8, zero := .nilFunc }),
   (315, { k := .func, size := 1, bytes := 8, zero := .nilFunc }),
   (319, { k := .func, size := 1, bytes := 8, zero := .nilFunc })]
def tyT (t : TypeId) : TyI := match findB tyTab t with | some i => i | none => { k := .other, size := 0, bytes := 0, zero := .bool false }
theorem ty_info {P : Program} {t : TypeId} {s b : Nat} {z : Value} (h : (P.info? t).map (fun i => (i.size, i.bytes, i.zero)) = some (s, b, some z)) : ∃ j, P.info? t = some j ∧ j.size = s ∧ j.bytes = b ∧ j.zero = some z := by
  cases hi : P.info? t with
  | none => rw [hi] at h; cases h
  | some j =>
    rw [hi] at h
    simp only [Option.map_some, Option.some.injEq, Prod.mk.injEq] at h
    exact ⟨j, rfl, h.1, h.2.1, h.2.2⟩
theorem int_wf {n : Int} (h1 : -9223372036854775808 ≤ n) (h2 : n ≤ 9223372036854775807) : (Lit.int .i64 n).wf = true := by
  simp only [Lit.wf, Bool.and_eq_true, decide_eq_true_eq]
  exact ⟨h1, h2⟩
theorem ty_has {P : Program} {t : TypeId} (h : (P.info? t).map (fun i => i.size != 0) = some true) : ∃ i, P.info? t = some i ∧ i.size ≠ 0 := by
  cases hi : P.info? t with
  | none => rw [hi] at h; cases h
  | some j =>
    rw [hi] at h
    exact ⟨j, rfl, by simpa using h⟩
theorem tyOk2 : TyOk Tryz.prog 2 { k := .int .i64, size := 1, bytes := 8, zero := .int .i64 0 } :=
  ⟨Tryz.underlying2, by decide, by decide, by decide, by decide, by decide, ty_info (by kernel_rfl)⟩
theorem tyOk3 : TyOk Tryz.prog 3 { k := .int .i64, size := 1, bytes := 8, zero := .int .i64 0 } :=
  ⟨Tryz.underlying3, by decide, by decide, by decide, by decide, by decide, ty_info (by kernel_rfl)⟩
theorem tyOk4 : TyOk Tryz.prog 4 { k := .bool, size := 1, bytes := 1, zero := .bool false } :=
  ⟨Tryz.underlying4, by decide, by decide, by decide, by decide, by decide, ty_info (by kernel_rfl)⟩
theorem tyOk5 : TyOk Tryz.prog 5 { k := .int .u8, size := 1, bytes := 1, zero := .int .u8 0 } :=
  ⟨Tryz.underlying5, by decide, by decide, by decide, by decide, by decide, ty_info (by kernel_rfl)⟩
theorem tyOk6 : TyOk Tryz.prog 6 { k := .int .u8, size := 1, bytes := 1, zero := .int .u8 0 } :=
  ⟨Tryz.underlying6, by decide, by decide, by decide, by decide, by decide, ty_info (by kernel_rfl)⟩
theorem tyOk7 : TyOk Tryz.prog 7 { k := .struct [(2, 0), (3, 1), (4, 2), (6, 3)], size := 4, bytes := 24, zero := .agg #[.int .i64 0, .int .i64 0, .bool false, .int .u8 0] } :=
  ⟨⟨_, Tryz.underlying7, rfl, by
      intro F hF
      simp only [List.mem_cons, List.not_mem_nil, or_false] at hF
      rcases hF with rfl | rfl | rfl | rfl
      · exact ty_has (by kernel_rfl)
      · exact ty_has (by kernel_rfl)
      · exact ty_has (by kernel_rfl)
      · exact ty_has (by kernel_rfl)⟩, by decide, by decide, by decide, by decide, by decide, ty_info (by kernel_rfl)⟩
theorem tyOk8 : TyOk Tryz.prog 8 { k := .struct [(2, 0), (3, 1), (4, 2), (6, 3)], size := 4, bytes := 24, zero := .agg #[.int .i64 0, .int .i64 0, .bool false, .int .u8 0] } :=
  ⟨⟨_, Tryz.underlying8, rfl, by
      intro F hF
      simp only [List.mem_cons, List.not_mem_nil, or_false] at hF
      rcases hF with rfl | rfl | rfl | rfl
      · exact ty_has (by kernel_rfl)
      · exact ty_has (by kernel_rfl)
      · exact ty_has (by kernel_rfl)
      · exact ty_has (by kernel_rfl)⟩, by decide, by decide, by decide, by decide, by decide, ty_info (by kernel_rfl)⟩
theorem tyOk9 : TyOk Tryz.prog 9 { k := .str, size := 1, bytes := 16, zero := .string ⟨#[]⟩ } :=
  ⟨Tryz.underlying9, by decide, by decide, by decide, by decide, by decide, ty_info (by kernel_rfl)⟩
theorem tyOk10 : TyOk Tryz.prog 10 { k := .str, size := 1, bytes := 16, zero := .string ⟨#[]⟩ } :=
  ⟨Tryz.underlying10, by decide, by decide, by decide, by decide, by decide, ty_info (by kernel_rfl)⟩
theorem tyOk11 : TyOk Tryz.prog 11 { k := .str, size := 1, bytes := 16, zero := .string ⟨#[]⟩ } :=
  ⟨Tryz.underlying11, by decide, by decide, by decide, by decide, by decide, ty_info (by kernel_rfl)⟩
theorem tyOk12 : TyOk Tryz.prog 12 { k := .int .u64, size := 1, bytes := 8, zero := .int .u64 0 } :=
  ⟨Tryz.underlying12, by decide, by decide, by decide, by decide, by decide, ty_info (by kernel_rfl)⟩
theorem tyOk13 : TyOk Tryz.prog 13 { k := .struct [(9, 0), (12, 1)], size := 2, bytes := 24, zero := .agg #[.string ⟨#[]⟩, .int .u64 0] } :=
  ⟨⟨_, Tryz.underlying13, rfl, by
      intro F hF
      simp only [List.mem_cons, List.not_mem_nil, or_false] at hF
      rcases hF with rfl | rfl
      · exact ty_has (by kernel_rfl)
      · exact ty_has (by kernel_rfl)⟩, by decide, by decide, by decide, by decide, by decide, ty_info (by kernel_rfl)⟩
theorem tyOk14 : TyOk Tryz.prog 14 { k := .struct [(9, 0), (12, 1)], size := 2, bytes := 24, zero := .agg #[.string ⟨#[]⟩, .int .u64 0] } :=
  ⟨⟨_, Tryz.underlying14, rfl, by
      intro F hF
      simp only [List.mem_cons, List.not_mem_nil, or_false] at hF
      rcases hF with rfl | rfl
      · exact ty_has (by kernel_rfl)
      · exact ty_has (by kernel_rfl)⟩, by decide, by decide, by decide, by decide, by decide, ty_info (by kernel_rfl)⟩
theorem tyOk18 : TyOk Tryz.prog 18 { k := .struct [(17, 0)], size := 1, bytes := 8, zero := .agg #[.pointer none] } :=
  ⟨⟨_, Tryz.underlying18, rfl, by
      intro F hF
      simp only [List.mem_cons, List.not_mem_nil, or_false] at hF
      rcases hF with rfl
      · exact ty_has (by kernel_rfl)⟩, by decide, by decide, by decide, by decide, by decide, ty_info (by kernel_rfl)⟩
theorem tyOk19 : TyOk Tryz.prog 19 { k := .struct [(17, 0)], size := 1, bytes := 8, zero := .agg #[.pointer none] } :=
  ⟨⟨_, Tryz.underlying19, rfl, by
      intro F hF
      simp only [List.mem_cons, List.not_mem_nil, or_false] at hF
      rcases hF with rfl
      · exact ty_has (by kernel_rfl)⟩, by decide, by decide, by decide, by decide, by decide, ty_info (by kernel_rfl)⟩
theorem tyOk21 : TyOk Tryz.prog 21 { k := .int .i32, size := 1, bytes := 4, zero := .int .i32 0 } :=
  ⟨Tryz.underlying21, by decide, by decide, by decide, by decide, by decide, ty_info (by kernel_rfl)⟩
theorem tyOk22 : TyOk Tryz.prog 22 { k := .sl 25, size := 1, bytes := 24, zero := .slice none 0 0 } :=
  ⟨Tryz.underlying22, by decide, by decide, by decide, by decide, by decide, ty_info (by kernel_rfl)⟩
theorem tyOk23 : TyOk Tryz.prog 23 { k := .sl 9, size := 1, bytes := 24, zero := .slice none 0 0 } :=
  ⟨Tryz.underlying23, by decide, by decide, by decide, by decide, by decide, ty_info (by kernel_rfl)⟩
theorem tyOk24 : TyOk Tryz.prog 24 { k := .struct [(3, 0), (4, 1), (3, 2), (9, 3), (22, 4), (23, 5)], size := 6, bytes := 88, zero := .agg #[.int .i64 0, .bool false, .int .i64 0, .string ⟨#[]⟩, .slice none 0 0, .slice none 0 0] } :=
  ⟨⟨_, Tryz.underlying24, rfl, by
      intro F hF
      simp only [List.mem_cons, List.not_mem_nil, or_false] at hF
      rcases hF with rfl | rfl | rfl | rfl | rfl | rfl
      · exact ty_has (by kernel_rfl)
      · exact ty_has (by kernel_rfl)
      · exact ty_has (by kernel_rfl)
      · exact ty_has (by kernel_rfl)
      · exact ty_has (by kernel_rfl)
      · exact ty_has (by kernel_rfl)⟩, by decide, by decide, by decide, by decide, by decide, ty_info (by kernel_rfl)⟩
theorem tyOk25 : TyOk Tryz.prog 25 { k := .struct [(3, 0), (4, 1), (3, 2), (9, 3), (22, 4), (23, 5)], size := 6, bytes := 88, zero := .agg #[.int .i64 0, .bool false, .int .i64 0, .string ⟨#[]⟩, .slice none 0 0, .slice none 0 0] } :=
  ⟨⟨_, Tryz.underlying25, rfl, by
      intro F hF
      simp only [List.mem_cons, List.not_mem_nil, or_false] at hF
      rcases hF with rfl | rfl | rfl | rfl | rfl | rfl
      · exact ty_has (by kernel_rfl)
      · exact ty_has (by kernel_rfl)
      · exact ty_has (by kernel_rfl)
      · exact ty_has (by kernel_rfl)
      · exact ty_has (by kernel_rfl)
      · exact ty_has (by kernel_rfl)⟩, by decide, by decide, by decide, by decide, by decide, ty_info (by kernel_rfl)⟩
theorem tyOk26 : TyOk Tryz.prog 26 { k := .sl 28, size := 1, bytes := 24, zero := .slice none 0 0 } :=
  ⟨Tryz.underlying26, by decide, by decide, by decide, by decide, by decide, ty_info (by kernel_rfl)⟩
theorem tyOk27 : TyOk Tryz.prog 27 { k := .struct [(3, 0), (9, 1), (25, 2), (26, 8)], size := 9, bytes := 136, zero := .agg #[.int .i64 0, .string ⟨#[]⟩, .int .i64 0, .bool false, .int .i64 0, .string ⟨#[]⟩, .slice none 0 0, .slice none 0 0, .slice none 0 0] } :=
  ⟨⟨_, Tryz.underlying27, rfl, by
      intro F hF
      simp only [List.mem_cons, List.not_mem_nil, or_false] at hF
      rcases hF with rfl | rfl | rfl | rfl
      · exact ty_has (by kernel_rfl)
      · exact ty_has (by kernel_rfl)
      · exact ty_has (by kernel_rfl)
      · exact ty_has (by kernel_rfl)⟩, by decide, by decide, by decide, by decide, by decide, ty_info (by kernel_rfl)⟩
theorem tyOk28 : TyOk Tryz.prog 28 { k := .struct [(3, 0), (9, 1), (25, 2), (26, 8)], size := 9, bytes := 136, zero := .agg #[.int .i64 0, .string ⟨#[]⟩, .int .i64 0, .bool false, .int .i64 0, .string ⟨#[]⟩, .slice none 0 0, .slice none 0 0, .slice none 0 0] } :=
  ⟨⟨_, Tryz.underlying28, rfl, by
      intro F hF
      simp only [List.mem_cons, List.not_mem_nil, or_false] at hF
      rcases hF with rfl | rfl | rfl | rfl
      · exact ty_has (by kernel_rfl)
      · exact ty_has (by kernel_rfl)
      · exact ty_has (by kernel_rfl)
      · exact ty_has (by kernel_rfl)⟩, by decide, by decide, by decide, by decide, by decide, ty_info (by kernel_rfl)⟩
theorem tyOk29 : TyOk Tryz.prog 29 { k := .int .i64, size := 1, bytes := 8, zero := .int .i64 0 } :=
  ⟨Tryz.underlying29, by decide, by decide, by decide, by decide, by decide, ty_info (by kernel_rfl)⟩
theorem tyOk33 : TyOk Tryz.prog 33 { k := .sl 3, size := 1, bytes := 24, zero := .slice none 0 0 } :=
  ⟨Tryz.underlying33, by decide, by decide, by decide, by decide, by decide, ty_info (by kernel_rfl)⟩
theorem tyOk44 : TyOk Tryz.prog 44 { k := .sl 72, size := 1, bytes := 24, zero := .slice none 0 0 } :=
  ⟨Tryz.underlying44, by decide, by decide, by decide, by decide, by decide, ty_info (by kernel_rfl)⟩
theorem tyOk55 : TyOk Tryz.prog 55 { k := .struct [(28, 0)], size := 9, bytes := 136, zero := .agg #[.int .i64 0, .string ⟨#[]⟩, .int .i64 0, .bool false, .int .i64 0, .string ⟨#[]⟩, .slice none 0 0, .slice none 0 0, .slice none 0 0] } :=
  ⟨⟨_, Tryz.underlying55, rfl, by
      intro F hF
      simp only [List.mem_cons, List.not_mem_nil, or_false] at hF
      rcases hF with rfl
      · exact ty_has (by kernel_rfl)⟩, by decide, by decide, by decide, by decide, by decide, ty_info (by kernel_rfl)⟩
theorem tyOk56 : TyOk Tryz.prog 56 { k := .struct [(28, 0)], size := 9, bytes := 136, zero := .agg #[.int .i64 0, .string ⟨#[]⟩, .int .i64 0, .bool false, .int .i64 0, .string ⟨#[]⟩, .slice none 0 0, .slice none 0 0, .slice none 0 0] } :=
  ⟨⟨_, Tryz.underlying56, rfl, by
      intro F hF
      simp only [List.mem_cons, List.not_mem_nil, or_false] at hF
      rcases hF with rfl
      · exact ty_has (by kernel_rfl)⟩, by decide, by decide, by decide, by decide, by decide, ty_info (by kernel_rfl)⟩
theorem tyOk59 : TyOk Tryz.prog 59 { k := .sl 99, size := 1, bytes := 24, zero := .slice none 0 0 } :=
  ⟨Tryz.underlying59, by decide, by decide, by decide, by decide, by decide, ty_info (by kernel_rfl)⟩
theorem tyOk70 : TyOk Tryz.prog 70 { k := .sl 22, size := 1, bytes := 24, zero := .slice none 0 0 } :=
  ⟨Tryz.underlying70, by decide, by decide, by decide, by decide, by decide, ty_info (by kernel_rfl)⟩
theorem tyOk71 : TyOk Tryz.prog 71 { k := .struct [(9, 0), (4, 1)], size := 2, bytes := 24, zero := .agg #[.string ⟨#[]⟩, .bool false] } :=
  ⟨⟨_, Tryz.underlying71, rfl, by
      intro F hF
      simp only [List.mem_cons, List.not_mem_nil, or_false] at hF
      rcases hF with rfl | rfl
      · exact ty_has (by kernel_rfl)
      · exact ty_has (by kernel_rfl)⟩, by decide, by decide, by decide, by decide, by decide, ty_info (by kernel_rfl)⟩
theorem tyOk72 : TyOk Tryz.prog 72 { k := .struct [(9, 0), (4, 1)], size := 2, bytes := 24, zero := .agg #[.string ⟨#[]⟩, .bool false] } :=
  ⟨⟨_, Tryz.underlying72, rfl, by
      intro F hF
      simp only [List.mem_cons, List.not_mem_nil, or_false] at hF
      rcases hF with rfl | rfl
      · exact ty_has (by kernel_rfl)
      · exact ty_has (by kernel_rfl)⟩, by decide, by decide, by decide, by decide, by decide, ty_info (by kernel_rfl)⟩
theorem tyOk73 : TyOk Tryz.prog 73 { k := .sl 116, size := 1, bytes := 24, zero := .slice none 0 0 } :=
  ⟨Tryz.underlying73, by decide, by decide, by decide, by decide, by decide, ty_info (by kernel_rfl)⟩
theorem tyOk98 : TyOk Tryz.prog 98 { k := .struct [(9, 0), (3, 1), (4, 2)], size := 3, bytes := 32, zero := .agg #[.string ⟨#[]⟩, .int .i64 0, .bool false] } :=
  ⟨⟨_, Tryz.underlying98, rfl, by
      intro F hF
      simp only [List.mem_cons, List.not_mem_nil, or_false] at hF
      rcases hF with rfl | rfl | rfl
      · exact ty_has (by kernel_rfl)
      · exact ty_has (by kernel_rfl)
      · exact ty_has (by kernel_rfl)⟩, by decide, by decide, by decide, by decide, by decide, ty_info (by kernel_rfl)⟩
theorem tyOk99 : TyOk Tryz.prog 99 { k := .struct [(9, 0), (3, 1), (4, 2)], size := 3, bytes := 32, zero := .agg #[.string ⟨#[]⟩, .int .i64 0, .bool false] } :=
  ⟨⟨_, Tryz.underlying99, rfl, by
      intro F hF
      simp only [List.mem_cons, List.not_mem_nil, or_false] at hF
      rcases hF with rfl | rfl | rfl
      · exact ty_has (by kernel_rfl)
      · exact ty_has (by kernel_rfl)
      · exact ty_has (by kernel_rfl)⟩, by decide, by decide, by decide, by decide, by decide, ty_info (by kernel_rfl)⟩
theorem tyOk115 : TyOk Tryz.prog 115 { k := .struct [(9, 0), (3, 1)], size := 2, bytes := 24, zero := .agg #[.string ⟨#[]⟩, .int .i64 0] } :=
  ⟨⟨_, Tryz.underlying115, rfl, by
      intro F hF
      simp only [List.mem_cons, List.not_mem_nil, or_false] at hF
      rcases hF with rfl | rfl
      · exact ty_has (by kernel_rfl)
      · exact ty_has (by kernel_rfl)⟩, by decide, by decide, by decide, by decide, by decide, ty_info (by kernel_rfl)⟩
theorem tyOk116 : TyOk Tryz.prog 116 { k := .struct [(9, 0), (3, 1)], size := 2, bytes := 24, zero := .agg #[.string ⟨#[]⟩, .int .i64 0] } :=
  ⟨⟨_, Tryz.underlying116, rfl, by
      intro F hF
      simp only [List.mem_cons, List.not_mem_nil, or_false] at hF
      rcases hF with rfl | rfl
      · exact ty_has (by kernel_rfl)
      · exact ty_has (by kernel_rfl)⟩, by decide, by decide, by decide, by decide, by decide, ty_info (by kernel_rfl)⟩
theorem tyOk119 : TyOk Tryz.prog 119 { k := .int .u64, size := 1, bytes := 8, zero := .int .u64 0 } :=
  ⟨Tryz.underlying119, by decide, by decide, by decide, by decide, by decide, ty_info (by kernel_rfl)⟩
theorem tyOk126 : TyOk Tryz.prog 126 { k := .struct [(79, 0), (123, 1)], size := 2, bytes := 16, zero := .agg #[.nilFunc, .nilFunc] } :=
  ⟨⟨_, Tryz.underlying126, rfl, by
      intro F hF
      simp only [List.mem_cons, List.not_mem_nil, or_false] at hF
      rcases hF with rfl | rfl
      · exact ty_has (by kernel_rfl)
      · exact ty_has (by kernel_rfl)⟩, by decide, by decide, by decide, by decide, by decide, ty_info (by kernel_rfl)⟩
theorem tyOk127 : TyOk Tryz.prog 127 { k := .struct [(79, 0), (123, 1)], size := 2, bytes := 16, zero := .agg #[.nilFunc, .nilFunc] } :=
  ⟨⟨_, Tryz.underlying127, rfl, by
      intro F hF
      simp only [List.mem_cons, List.not_mem_nil, or_false] at hF
      rcases hF with rfl | rfl
      · exact ty_has (by kernel_rfl)
      · exact ty_has (by kernel_rfl)⟩, by decide, by decide, by decide, by decide, by decide, ty_info (by kernel_rfl)⟩
theorem tyOk148 : TyOk Tryz.prog 148 { k := .struct [(17, 0)], size := 1, bytes := 8, zero := .agg #[.pointer none] } :=
  ⟨⟨_, Tryz.underlying148, rfl, by
      intro F hF
      simp only [List.mem_cons, List.not_mem_nil, or_false] at hF
      rcases hF with rfl
      · exact ty_has (by kernel_rfl)⟩, by decide, by decide, by decide, by decide, by decide, ty_info (by kernel_rfl)⟩
theorem tyOk149 : TyOk Tryz.prog 149 { k := .struct [(17, 0)], size := 1, bytes := 8, zero := .agg #[.pointer none] } :=
  ⟨⟨_, Tryz.underlying149, rfl, by
      intro F hF
      simp only [List.mem_cons, List.not_mem_nil, or_false] at hF
      rcases hF with rfl
      · exact ty_has (by kernel_rfl)⟩, by decide, by decide, by decide, by decide, by decide, ty_info (by kernel_rfl)⟩
theorem tyOk156 : TyOk Tryz.prog 156 { k := .sl 5, size := 1, bytes := 24, zero := .slice none 0 0 } :=
  ⟨Tryz.underlying156, by decide, by decide, by decide, by decide, by decide, ty_info (by kernel_rfl)⟩
theorem tyOk157 : TyOk Tryz.prog 157 { k := .struct [(155, 0), (156, 1)], size := 2, bytes := 32, zero := .agg #[.pointer none, .slice none 0 0] } :=
  ⟨⟨_, Tryz.underlying157, rfl, by
      intro F hF
      simp only [List.mem_cons, List.not_mem_nil, or_false] at hF
      rcases hF with rfl | rfl
      · exact ty_has (by kernel_rfl)
      · exact ty_has (by kernel_rfl)⟩, by decide, by decide, by decide, by decide, by decide, ty_info (by kernel_rfl)⟩
theorem tyOk158 : TyOk Tryz.prog 158 { k := .struct [(155, 0), (156, 1)], size := 2, bytes := 32, zero := .agg #[.pointer none, .slice none 0 0] } :=
  ⟨⟨_, Tryz.underlying158, rfl, by
      intro F hF
      simp only [List.mem_cons, List.not_mem_nil, or_false] at hF
      rcases hF with rfl | rfl
      · exact ty_has (by kernel_rfl)
      · exact ty_has (by kernel_rfl)⟩, by decide, by decide, by decide, by decide, by decide, ty_info (by kernel_rfl)⟩
theorem tyOk166 : TyOk Tryz.prog 166 { k := .int .u64, size := 1, bytes := 8, zero := .int .u64 0 } :=
  ⟨Tryz.underlying166, by decide, by decide, by decide, by decide, by decide, ty_info (by kernel_rfl)⟩
theorem tyOk172 : TyOk Tryz.prog 172 { k := .int .i64, size := 1, bytes := 8, zero := .int .i64 0 } :=
  ⟨Tryz.underlying172, by decide, by decide, by decide, by decide, by decide, ty_info (by kernel_rfl)⟩
theorem tyOk190 : TyOk Tryz.prog 190 { k := .int .u32, size := 1, bytes := 4, zero := .int .u32 0 } :=
  ⟨Tryz.underlying190, by decide, by decide, by decide, by decide, by decide, ty_info (by kernel_rfl)⟩
theorem tyOk193 : TyOk Tryz.prog 193 { k := .struct [(21, 0), (190, 1)], size := 2, bytes := 8, zero := .agg #[.int .i32 0, .int .u32 0] } :=
  ⟨⟨_, Tryz.underlying193, rfl, by
      intro F hF
      simp only [List.mem_cons, List.not_mem_nil, or_false] at hF
      rcases hF with rfl | rfl
      · exact ty_has (by kernel_rfl)
      · exact ty_has (by kernel_rfl)⟩, by decide, by decide, by decide, by decide, by decide, ty_info (by kernel_rfl)⟩
theorem tyOk194 : TyOk Tryz.prog 194 { k := .struct [(21, 0), (190, 1)], size := 2, bytes := 8, zero := .agg #[.int .i32 0, .int .u32 0] } :=
  ⟨⟨_, Tryz.underlying194, rfl, by
      intro F hF
      simp only [List.mem_cons, List.not_mem_nil, or_false] at hF
      rcases hF with rfl | rfl
      · exact ty_has (by kernel_rfl)
      · exact ty_has (by kernel_rfl)⟩, by decide, by decide, by decide, by decide, by decide, ty_info (by kernel_rfl)⟩
theorem tyOk201 : TyOk Tryz.prog 201 { k := .struct [(198, 0), (200, 3), (23, 4)], size := 5, bytes := 56, zero := .agg #[.int .u32 0, .int .i32 0, .int .u32 0, .nilIface, .slice none 0 0] } :=
  ⟨⟨_, Tryz.underlying201, rfl, by
      intro F hF
      simp only [List.mem_cons, List.not_mem_nil, or_false] at hF
      rcases hF with rfl | rfl | rfl
      · exact ty_has (by kernel_rfl)
      · exact ty_has (by kernel_rfl)
      · exact ty_has (by kernel_rfl)⟩, by decide, by decide, by decide, by decide, by decide, ty_info (by kernel_rfl)⟩
theorem tyOk202 : TyOk Tryz.prog 202 { k := .struct [(198, 0), (200, 3), (23, 4)], size := 5, bytes := 56, zero := .agg #[.int .u32 0, .int .i32 0, .int .u32 0, .nilIface, .slice none 0 0] } :=
  ⟨⟨_, Tryz.underlying202, rfl, by
      intro F hF
      simp only [List.mem_cons, List.not_mem_nil, or_false] at hF
      rcases hF with rfl | rfl | rfl
      · exact ty_has (by kernel_rfl)
      · exact ty_has (by kernel_rfl)
      · exact ty_has (by kernel_rfl)⟩, by decide, by decide, by decide, by decide, by decide, ty_info (by kernel_rfl)⟩
theorem tyOk212 : TyOk Tryz.prog 212 { k := .int .u64, size := 1, bytes := 8, zero := .int .u64 0 } :=
  ⟨Tryz.underlying212, by decide, by decide, by decide, by decide, by decide, ty_info (by kernel_rfl)⟩
theorem tyOk215 : TyOk Tryz.prog 215 { k := .struct [(9, 0), (9, 1), (101, 2)], size := 3, bytes := 48, zero := .agg #[.string ⟨#[]⟩, .string ⟨#[]⟩, .nilIface] } :=
  ⟨⟨_, Tryz.underlying215, rfl, by
      intro F hF
      simp only [List.mem_cons, List.not_mem_nil, or_false] at hF
      rcases hF with rfl | rfl | rfl
      · exact ty_has (by kernel_rfl)
      · exact ty_has (by kernel_rfl)
      · exact ty_has (by kernel_rfl)⟩, by decide, by decide, by decide, by decide, by decide, ty_info (by kernel_rfl)⟩
theorem tyOk216 : TyOk Tryz.prog 216 { k := .struct [(9, 0), (9, 1), (101, 2)], size := 3, bytes := 48, zero := .agg #[.string ⟨#[]⟩, .string ⟨#[]⟩, .nilIface] } :=
  ⟨⟨_, Tryz.underlying216, rfl, by
      intro F hF
      simp only [List.mem_cons, List.not_mem_nil, or_false] at hF
      rcases hF with rfl | rfl | rfl
      · exact ty_has (by kernel_rfl)
      · exact ty_has (by kernel_rfl)
      · exact ty_has (by kernel_rfl)⟩, by decide, by decide, by decide, by decide, by decide, ty_info (by kernel_rfl)⟩
theorem tyOk225 : TyOk Tryz.prog 225 { k := .int .i64, size := 1, bytes := 8, zero := .int .i64 0 } :=
  ⟨Tryz.underlying225, by decide, by decide, by decide, by decide, by decide, ty_info (by kernel_rfl)⟩
theorem tyOk233 : TyOk Tryz.prog 233 { k := .struct [(9, 0)], size := 1, bytes := 16, zero := .agg #[.string ⟨#[]⟩] } :=
  ⟨⟨_, Tryz.underlying233, rfl, by
      intro F hF
      simp only [List.mem_cons, List.not_mem_nil, or_false] at hF
      rcases hF with rfl
      · exact ty_has (by kernel_rfl)⟩, by decide, by decide, by decide, by decide, by decide, ty_info (by kernel_rfl)⟩
theorem tyOk234 : TyOk Tryz.prog 234 { k := .struct [(9, 0)], size := 1, bytes := 16, zero := .agg #[.string ⟨#[]⟩] } :=
  ⟨⟨_, Tryz.underlying234, rfl, by
      intro F hF
      simp only [List.mem_cons, List.not_mem_nil, or_false] at hF
      rcases hF with rfl
      · exact ty_has (by kernel_rfl)⟩, by decide, by decide, by decide, by decide, by decide, ty_info (by kernel_rfl)⟩
theorem tyOk251 : TyOk Tryz.prog 251 { k := .arr 24 5, size := 24, bytes := 24, zero := .agg #[.int .u8 0, .int .u8 0, .int .u8 0, .int .u8 0, .int .u8 0, .int .u8 0, .int .u8 0, .int .u8 0, .int .u8 0, .int .u8 0, .int .u8 0, .int .u8 0, .int .u8 0, .int .u8 0, .int .u8 0, .int .u8 0, .int .u8 0, .int .u8 0, .int .u8 0, .int .u8 0, .int .u8 0, .int .u8 0, .int .u8 0, .int .u8 0] } :=
  ⟨Tryz.underlying251, by decide, by decide, by decide, by decide, by decide, ty_info (by kernel_rfl)⟩
theorem tyOk256 : TyOk Tryz.prog 256 { k := .struct [(5, 0), (5, 1)], size := 2, bytes := 2, zero := .agg #[.int .u8 0, .int .u8 0] } :=
  ⟨⟨_, Tryz.underlying256, rfl, by
      intro F hF
      simp only [List.mem_cons, List.not_mem_nil, or_false] at hF
      rcases hF with rfl | rfl
      · exact ty_has (by kernel_rfl)
      · exact ty_has (by kernel_rfl)⟩, by decide, by decide, by decide, by decide, by decide, ty_info (by kernel_rfl)⟩
theorem tyOk257 : TyOk Tryz.prog 257 { k := .struct [(5, 0), (5, 1)], size := 2, bytes := 2, zero := .agg #[.int .u8 0, .int .u8 0] } :=
  ⟨⟨_, Tryz.underlying257, rfl, by
      intro F hF
      simp only [List.mem_cons, List.not_mem_nil, or_false] at hF
      rcases hF with rfl | rfl
      · exact ty_has (by kernel_rfl)
      · exact ty_has (by kernel_rfl)⟩, by decide, by decide, by decide, by decide, by decide, ty_info (by kernel_rfl)⟩
theorem tyOk258 : TyOk Tryz.prog 258 { k := .arr 16 257, size := 32, bytes := 32, zero := .agg #[.int .u8 0, .int .u8 0, .int .u8 0, .int .u8 0, .int .u8 0, .int .u8 0, .int .u8 0, .int .u8 0, .int .u8 0, .int .u8 0, .int .u8 0, .int .u8 0, .int .u8 0, .int .u8 0, .int .u8 0, .int .u8 0, .int .u8 0, .int .u8 0, .int .u8 0, .int .u8 0, .int .u8 0, .int .u8 0, .int .u8 0, .int .u8 0, .int .u8 0, .int .u8 0, .int .u8 0, .int .u8 0, .int .u8 0, .int .u8 0, .int .u8 0, .int .u8 0] } :=
  ⟨Tryz.underlying258, by decide, by decide, by decide, by decide, by decide, ty_info (by kernel_rfl)⟩
theorem tyOk265 : TyOk Tryz.prog 265 { k := .struct [(263, 0), (9, 1)], size := 2, bytes := 24, zero := .agg #[.pointer none, .string ⟨#[]⟩] } :=
  ⟨⟨_, Tryz.underlying265, rfl, by
      intro F hF
      simp only [List.mem_cons, List.not_mem_nil, or_false] at hF
      rcases hF with rfl | rfl
      · exact ty_has (by kernel_rfl)
      · exact ty_has (by kernel_rfl)⟩, by decide, by decide, by decide, by decide, by decide, ty_info (by kernel_rfl)⟩
theorem tyOk266 : TyOk Tryz.prog 266 { k := .struct [(263, 0), (9, 1)], size := 2, bytes := 24, zero := .agg #[.pointer none, .string ⟨#[]⟩] } :=
  ⟨⟨_, Tryz.underlying266, rfl, by
      intro F hF
      simp only [List.mem_cons, List.not_mem_nil, or_false] at hF
      rcases hF with rfl | rfl
      · exact ty_has (by kernel_rfl)
      · exact ty_has (by kernel_rfl)⟩, by decide, by decide, by decide, by decide, by decide, ty_info (by kernel_rfl)⟩
theorem tyOk268 : TyOk Tryz.prog 268 { k := .sl 267, size := 1, bytes := 24, zero := .slice none 0 0 } :=
  ⟨Tryz.underlying268, by decide, by decide, by decide, by decide, by decide, ty_info (by kernel_rfl)⟩
theorem tyOk269 : TyOk Tryz.prog 269 { k := .struct [(9, 0), (3, 1), (9, 2), (267, 3), (268, 4)], size := 5, bytes := 72, zero := .agg #[.string ⟨#[]⟩, .int .i64 0, .string ⟨#[]⟩, .pointer none, .slice none 0 0] } :=
  ⟨⟨_, Tryz.underlying269, rfl, by
      intro F hF
      simp only [List.mem_cons, List.not_mem_nil, or_false] at hF
      rcases hF with rfl | rfl | rfl | rfl | rfl
      · exact ty_has (by kernel_rfl)
      · exact ty_has (by kernel_rfl)
      · exact ty_has (by kernel_rfl)
      · exact ty_has (by kernel_rfl)
      · exact ty_has (by kernel_rfl)⟩, by decide, by decide, by decide, by decide, by decide, ty_info (by kernel_rfl)⟩
theorem tyOk270 : TyOk Tryz.prog 270 { k := .struct [(9, 0), (3, 1), (9, 2), (267, 3), (268, 4)], size := 5, bytes := 72, zero := .agg #[.string ⟨#[]⟩, .int .i64 0, .string ⟨#[]⟩, .pointer none, .slice none 0 0] } :=
  ⟨⟨_, Tryz.underlying270, rfl, by
      intro F hF
      simp only [List.mem_cons, List.not_mem_nil, or_false] at hF
      rcases hF with rfl | rfl | rfl | rfl | rfl
      · exact ty_has (by kernel_rfl)
      · exact ty_has (by kernel_rfl)
      · exact ty_has (by kernel_rfl)
      · exact ty_has (by kernel_rfl)
      · exact ty_has (by kernel_rfl)⟩, by decide, by decide, by decide, by decide, by decide, ty_info (by kernel_rfl)⟩
theorem tyOk274 : TyOk Tryz.prog 274 { k := .arr 20 212, size := 20, bytes := 160, zero := .agg #[.int .u64 0, .int .u64 0, .int .u64 0, .int .u64 0, .int .u64 0, .int .u64 0, .int .u64 0, .int .u64 0, .int .u64 0, .int .u64 0, .int .u64 0, .int .u64 0, .int .u64 0, .int .u64 0, .int .u64 0, .int .u64 0, .int .u64 0, .int .u64 0, .int .u64 0, .int .u64 0] } :=
  ⟨Tryz.underlying274, by decide, by decide, by decide, by decide, by decide, ty_info (by kernel_rfl)⟩
theorem tyOk290 : TyOk Tryz.prog 290 { k := .arr 32 5, size := 32, bytes := 32, zero := .agg #[.int .u8 0, .int .u8 0, .int .u8 0, .int .u8 0, .int .u8 0, .int .u8 0, .int .u8 0, .int .u8 0, .int .u8 0, .int .u8 0, .int .u8 0, .int .u8 0, .int .u8 0, .int .u8 0, .int .u8 0, .int .u8 0, .int .u8 0, .int .u8 0, .int .u8 0, .int .u8 0, .int .u8 0, .int .u8 0, .int .u8 0, .int .u8 0, .int .u8 0, .int .u8 0, .int .u8 0, .int .u8 0, .int .u8 0, .int .u8 0, .int .u8 0, .int .u8 0] } :=
  ⟨Tryz.underlying290, by decide, by decide, by decide, by decide, by decide, ty_info (by kernel_rfl)⟩
theorem tyOk292 : TyOk Tryz.prog 292 { k := .struct [(17, 0), (17, 1), (17, 2), (9, 3)], size := 4, bytes := 40, zero := .agg #[.pointer none, .pointer none, .pointer none, .string ⟨#[]⟩] } :=
  ⟨⟨_, Tryz.underlying292, rfl, by
      intro F hF
      simp only [List.mem_cons, List.not_mem_nil, or_false] at hF
      rcases hF with rfl | rfl | rfl | rfl
      · exact ty_has (by kernel_rfl)
      · exact ty_has (by kernel_rfl)
      · exact ty_has (by kernel_rfl)
      · exact ty_has (by kernel_rfl)⟩, by decide, by decide, by decide, by decide, by decide, ty_info (by kernel_rfl)⟩
theorem tyOk293 : TyOk Tryz.prog 293 { k := .struct [(17, 0), (17, 1), (17, 2), (9, 3)], size := 4, bytes := 40, zero := .agg #[.pointer none, .pointer none, .pointer none, .string ⟨#[]⟩] } :=
  ⟨⟨_, Tryz.underlying293, rfl, by
      intro F hF
      simp only [List.mem_cons, List.not_mem_nil, or_false] at hF
      rcases hF with rfl | rfl | rfl | rfl
      · exact ty_has (by kernel_rfl)
      · exact ty_has (by kernel_rfl)
      · exact ty_has (by kernel_rfl)
      · exact ty_has (by kernel_rfl)⟩, by decide, by decide, by decide, by decide, by decide, ty_info (by kernel_rfl)⟩
theorem tyOk297 : TyOk Tryz.prog 297 { k := .int .u8, size := 1, bytes := 1, zero := .int .u8 0 } :=
  ⟨Tryz.underlying297, by decide, by decide, by decide, by decide, by decide, ty_info (by kernel_rfl)⟩
theorem tyOk298 : TyOk Tryz.prog 298 { k := .int .u8, size := 1, bytes := 1, zero := .int .u8 0 } :=
  ⟨Tryz.underlying298, by decide, by decide, by decide, by decide, by decide, ty_info (by kernel_rfl)⟩
theorem tyOk300 : TyOk Tryz.prog 300 { k := .int .i32, size := 1, bytes := 4, zero := .int .i32 0 } :=
  ⟨Tryz.underlying300, by decide, by decide, by decide, by decide, by decide, ty_info (by kernel_rfl)⟩
theorem tyOk301 : TyOk Tryz.prog 301 { k := .int .i32, size := 1, bytes := 4, zero := .int .i32 0 } :=
  ⟨Tryz.underlying301, by decide, by decide, by decide, by decide, by decide, ty_info (by kernel_rfl)⟩
theorem tyOk302 : TyOk Tryz.prog 302 { k := .struct [(12, 0), (12, 1), (190, 2), (297, 3), (5, 4), (5, 5), (298, 6), (299, 7), (186, 8), (300, 9), (301, 10)], size := 11, bytes := 48, zero := .agg #[.int .u64 0, .int .u64 0, .int .u32 0, .int .u8 0, .int .u8 0, .int .u8 0, .int .u8 0, .nilFunc, .pointer none, .int .i32 0, .int .i32 0] } :=
  ⟨⟨_, Tryz.underlying302, rfl, by
      intro F hF
      simp only [List.mem_cons, List.not_mem_nil, or_false] at hF
      rcases hF with rfl | rfl | rfl | rfl | rfl | rfl | rfl | rfl | rfl | rfl | rfl
      · exact ty_has (by kernel_rfl)
      · exact ty_has (by kernel_rfl)
      · exact ty_has (by kernel_rfl)
      · exact ty_has (by kernel_rfl)
      · exact ty_has (by kernel_rfl)
      · exact ty_has (by kernel_rfl)
      · exact ty_has (by kernel_rfl)
      · exact ty_has (by kernel_rfl)
      · exact ty_has (by kernel_rfl)
      · exact ty_has (by kernel_rfl)
      · exact ty_has (by kernel_rfl)⟩, by decide, by decide, by decide, by decide, by decide, ty_info (by kernel_rfl)⟩
theorem tyOk303 : TyOk Tryz.prog 303 { k := .struct [(12, 0), (12, 1), (190, 2), (297, 3), (5, 4), (5, 5), (298, 6), (299, 7), (186, 8), (300, 9), (301, 10)], size := 11, bytes := 48, zero := .agg #[.int .u64 0, .int .u64 0, .int .u32 0, .int .u8 0, .int .u8 0, .int .u8 0, .int .u8 0, .nilFunc, .pointer none, .int .i32 0, .int .i32 0] } :=
  ⟨⟨_, Tryz.underlying303, rfl, by
      intro F hF
      simp only [List.mem_cons, List.not_mem_nil, or_false] at hF
      rcases hF with rfl | rfl | rfl | rfl | rfl | rfl | rfl | rfl | rfl | rfl | rfl
      · exact ty_has (by kernel_rfl)
      · exact ty_has (by kernel_rfl)
      · exact ty_has (by kernel_rfl)
      · exact ty_has (by kernel_rfl)
      · exact ty_has (by kernel_rfl)
      · exact ty_has (by kernel_rfl)
      · exact ty_has (by kernel_rfl)
      · exact ty_has (by kernel_rfl)
      · exact ty_has (by kernel_rfl)
      · exact ty_has (by kernel_rfl)
      · exact ty_has (by kernel_rfl)⟩, by decide, by decide, by decide, by decide, by decide, ty_info (by kernel_rfl)⟩
theorem tyOk304 : TyOk Tryz.prog 304 { k := .struct [(9, 0), (298, 1)], size := 2, bytes := 24, zero := .agg #[.string ⟨#[]⟩, .int .u8 0] } :=
  ⟨⟨_, Tryz.underlying304, rfl, by
      intro F hF
      simp only [List.mem_cons, List.not_mem_nil, or_false] at hF
      rcases hF with rfl | rfl
      · exact ty_has (by kernel_rfl)
      · exact ty_has (by kernel_rfl)⟩, by decide, by decide, by decide, by decide, by decide, ty_info (by kernel_rfl)⟩
theorem tyOk305 : TyOk Tryz.prog 305 { k := .struct [(9, 0), (298, 1)], size := 2, bytes := 24, zero := .agg #[.string ⟨#[]⟩, .int .u8 0] } :=
  ⟨⟨_, Tryz.underlying305, rfl, by
      intro F hF
      simp only [List.mem_cons, List.not_mem_nil, or_false] at hF
      rcases hF with rfl | rfl
      · exact ty_has (by kernel_rfl)
      · exact ty_has (by kernel_rfl)⟩, by decide, by decide, by decide, by decide, by decide, ty_info (by kernel_rfl)⟩
theorem tyOk307 : TyOk Tryz.prog 307 { k := .sl 5, size := 1, bytes := 24, zero := .slice none 0 0 } :=
  ⟨Tryz.underlying307, by decide, by decide, by decide, by decide, by decide, ty_info (by kernel_rfl)⟩
theorem tyOk317 : TyOk Tryz.prog 317 { k := .struct [(310, 0)], size := 1, bytes := 16, zero := .agg #[.nilIface] } :=
  ⟨⟨_, Tryz.underlying317, rfl, by
      intro F hF
      simp only [List.mem_cons, List.not_mem_nil, or_false] at hF
      rcases hF with rfl
      · exact ty_has (by kernel_rfl)⟩, by decide, by decide, by decide, by decide, by decide, ty_info (by kernel_rfl)⟩
theorem tyOk318 : TyOk Tryz.prog 318 { k := .struct [(310, 0)], size := 1, bytes := 16, zero := .agg #[.nilIface] } :=
  ⟨⟨_, Tryz.underlying318, rfl, by
      intro F hF
      simp only [List.mem_cons, List.not_mem_nil, or_false] at hF
      rcases hF with rfl
      · exact ty_has (by kernel_rfl)⟩, by decide, by decide, by decide, by decide, by decide, ty_info (by kernel_rfl)⟩
theorem tyOk1 : TyOk Tryz.prog 1 { k := .func, size := 1, bytes := 8, zero := .nilFunc } :=
  ⟨⟨_, _, _, Tryz.underlying1⟩, by decide, by decide, by decide, by decide, by decide, ty_info (by kernel_rfl)⟩
theorem tyOk15 : TyOk Tryz.prog 15 { k := .ptr, size := 1, bytes := 8, zero := .pointer none } :=
  ⟨⟨_, Tryz.underlying15⟩, by decide, by decide, by decide, by decide, by decide, ty_info (by kernel_rfl)⟩
theorem tyOk16 : TyOk Tryz.prog 16 { k := .ptr, size := 1, bytes := 8, zero := .pointer none } :=
  ⟨⟨_, Tryz.underlying16⟩, by decide, by decide, by decide, by decide, by decide, ty_info (by kernel_rfl)⟩
theorem tyOk17 : TyOk Tryz.prog 17 { k := .ptr, size := 1, bytes := 8, zero := .pointer none } :=
  ⟨⟨_, Tryz.underlying17⟩, by decide, by decide, by decide, by decide, by decide, ty_info (by kernel_rfl)⟩
theorem tyOk20 : TyOk Tryz.prog 20 { k := .ifc, size := 1, bytes := 16, zero := .nilIface } :=
  ⟨⟨_, Tryz.underlying20⟩, by decide, by decide, by decide, by decide, by decide, ty_info (by kernel_rfl)⟩
theorem tyOk31 : TyOk Tryz.prog 31 { k := .func, size := 1, bytes := 8, zero := .nilFunc } :=
  ⟨⟨_, _, _, Tryz.underlying31⟩, by decide, by decide, by decide, by decide, by decide, ty_info (by kernel_rfl)⟩
theorem tyOk32 : TyOk Tryz.prog 32 { k := .func, size := 1, bytes := 8, zero := .nilFunc } :=
  ⟨⟨_, _, _, Tryz.underlying32⟩, by decide, by decide, by decide, by decide, by decide, ty_info (by kernel_rfl)⟩
theorem tyOk35 : TyOk Tryz.prog 35 { k := .func, size := 1, bytes := 8, zero := .nilFunc } :=
  ⟨⟨_, _, _, Tryz.underlying35⟩, by decide, by decide, by decide, by decide, by decide, ty_info (by kernel_rfl)⟩
theorem tyOk36 : TyOk Tryz.prog 36 { k := .func, size := 1, bytes := 8, zero := .nilFunc } :=
  ⟨⟨_, _, _, Tryz.underlying36⟩, by decide, by decide, by decide, by decide, by decide, ty_info (by kernel_rfl)⟩
theorem tyOk37 : TyOk Tryz.prog 37 { k := .func, size := 1, bytes := 8, zero := .nilFunc } :=
  ⟨⟨_, _, _, Tryz.underlying37⟩, by decide, by decide, by decide, by decide, by decide, ty_info (by kernel_rfl)⟩
theorem tyOk38 : TyOk Tryz.prog 38 { k := .func, size := 1, bytes := 8, zero := .nilFunc } :=
  ⟨⟨_, _, _, Tryz.underlying38⟩, by decide, by decide, by decide, by decide, by decide, ty_info (by kernel_rfl)⟩
theorem tyOk39 : TyOk Tryz.prog 39 { k := .func, size := 1, bytes := 8, zero := .nilFunc } :=
  ⟨⟨_, _, _, Tryz.underlying39⟩, by decide, by decide, by decide, by decide, by decide, ty_info (by kernel_rfl)⟩
theorem tyOk41 : TyOk Tryz.prog 41 { k := .func, size := 1, bytes := 8, zero := .nilFunc } :=
  ⟨⟨_, _, _, Tryz.underlying41⟩, by decide, by decide, by decide, by decide, by decide, ty_info (by kernel_rfl)⟩
theorem tyOk42 : TyOk Tryz.prog 42 { k := .func, size := 1, bytes := 8, zero := .nilFunc } :=
  ⟨⟨_, _, _, Tryz.underlying42⟩, by decide, by decide, by decide, by decide, by decide, ty_info (by kernel_rfl)⟩
theorem tyOk43 : TyOk Tryz.prog 43 { k := .func, size := 1, bytes := 8, zero := .nilFunc } :=
  ⟨⟨_, _, _, Tryz.underlying43⟩, by decide, by decide, by decide, by decide, by decide, ty_info (by kernel_rfl)⟩
theorem tyOk45 : TyOk Tryz.prog 45 { k := .func, size := 1, bytes := 8, zero := .nilFunc } :=
  ⟨⟨_, _, _, Tryz.underlying45⟩, by decide, by decide, by decide, by decide, by decide, ty_info (by kernel_rfl)⟩
theorem tyOk46 : TyOk Tryz.prog 46 { k := .func, size := 1, bytes := 8, zero := .nilFunc } :=
  ⟨⟨_, _, _, Tryz.underlying46⟩, by decide, by decide, by decide, by decide, by decide, ty_info (by kernel_rfl)⟩
theorem tyOk48 : TyOk Tryz.prog 48 { k := .func, size := 1, bytes := 8, zero := .nilFunc } :=
  ⟨⟨_, _, _, Tryz.underlying48⟩, by decide, by decide, by decide, by decide, by decide, ty_info (by kernel_rfl)⟩
theorem tyOk49 : TyOk Tryz.prog 49 { k := .func, size := 1, bytes := 8, zero := .nilFunc } :=
  ⟨⟨_, _, _, Tryz.underlying49⟩, by decide, by decide, by decide, by decide, by decide, ty_info (by kernel_rfl)⟩
theorem tyOk50 : TyOk Tryz.prog 50 { k := .func, size := 1, bytes := 8, zero := .nilFunc } :=
  ⟨⟨_, _, _, Tryz.underlying50⟩, by decide, by decide, by decide, by decide, by decide, ty_info (by kernel_rfl)⟩
theorem tyOk51 : TyOk Tryz.prog 51 { k := .func, size := 1, bytes := 8, zero := .nilFunc } :=
  ⟨⟨_, _, _, Tryz.underlying51⟩, by decide, by decide, by decide, by decide, by decide, ty_info (by kernel_rfl)⟩
theorem tyOk52 : TyOk Tryz.prog 52 { k := .func, size := 1, bytes := 8, zero := .nilFunc } :=
  ⟨⟨_, _, _, Tryz.underlying52⟩, by decide, by decide, by decide, by decide, by decide, ty_info (by kernel_rfl)⟩
theorem tyOk53 : TyOk Tryz.prog 53 { k := .func, size := 1, bytes := 8, zero := .nilFunc } :=
  ⟨⟨_, _, _, Tryz.underlying53⟩, by decide, by decide, by decide, by decide, by decide, ty_info (by kernel_rfl)⟩
theorem tyOk54 : TyOk Tryz.prog 54 { k := .func, size := 1, bytes := 8, zero := .nilFunc } :=
  ⟨⟨_, _, _, Tryz.underlying54⟩, by decide, by decide, by decide, by decide, by decide, ty_info (by kernel_rfl)⟩
theorem tyOk58 : TyOk Tryz.prog 58 { k := .func, size := 1, bytes := 8, zero := .nilFunc } :=
  ⟨⟨_, _, _, Tryz.underlying58⟩, by decide, by decide, by decide, by decide, by decide, ty_info (by kernel_rfl)⟩
theorem tyOk61 : TyOk Tryz.prog 61 { k := .func, size := 1, bytes := 8, zero := .nilFunc } :=
  ⟨⟨_, _, _, Tryz.underlying61⟩, by decide, by decide, by decide, by decide, by decide, ty_info (by kernel_rfl)⟩
theorem tyOk62 : TyOk Tryz.prog 62 { k := .func, size := 1, bytes := 8, zero := .nilFunc } :=
  ⟨⟨_, _, _, Tryz.underlying62⟩, by decide, by decide, by decide, by decide, by decide, ty_info (by kernel_rfl)⟩
theorem tyOk63 : TyOk Tryz.prog 63 { k := .func, size := 1, bytes := 8, zero := .nilFunc } :=
  ⟨⟨_, _, _, Tryz.underlying63⟩, by decide, by decide, by decide, by decide, by decide, ty_info (by kernel_rfl)⟩
theorem tyOk65 : TyOk Tryz.prog 65 { k := .func, size := 1, bytes := 8, zero := .nilFunc } :=
  ⟨⟨_, _, _, Tryz.underlying65⟩, by decide, by decide, by decide, by decide, by decide, ty_info (by kernel_rfl)⟩
theorem tyOk67 : TyOk Tryz.prog 67 { k := .func, size := 1, bytes := 8, zero := .nilFunc } :=
  ⟨⟨_, _, _, Tryz.underlying67⟩, by decide, by decide, by decide, by decide, by decide, ty_info (by kernel_rfl)⟩
theorem tyOk68 : TyOk Tryz.prog 68 { k := .func, size := 1, bytes := 8, zero := .nilFunc } :=
  ⟨⟨_, _, _, Tryz.underlying68⟩, by decide, by decide, by decide, by decide, by decide, ty_info (by kernel_rfl)⟩
theorem tyOk69 : TyOk Tryz.prog 69 { k := .func, size := 1, bytes := 8, zero := .nilFunc } :=
  ⟨⟨_, _, _, Tryz.underlying69⟩, by decide, by decide, by decide, by decide, by decide, ty_info (by kernel_rfl)⟩
theorem tyOk75 : TyOk Tryz.prog 75 { k := .func, size := 1, bytes := 8, zero := .nilFunc } :=
  ⟨⟨_, _, _, Tryz.underlying75⟩, by decide, by decide, by decide, by decide, by decide, ty_info (by kernel_rfl)⟩
theorem tyOk76 : TyOk Tryz.prog 76 { k := .func, size := 1, bytes := 8, zero := .nilFunc } :=
  ⟨⟨_, _, _, Tryz.underlying76⟩, by decide, by decide, by decide, by decide, by decide, ty_info (by kernel_rfl)⟩
theorem tyOk77 : TyOk Tryz.prog 77 { k := .func, size := 1, bytes := 8, zero := .nilFunc } :=
  ⟨⟨_, _, _, Tryz.underlying77⟩, by decide, by decide, by decide, by decide, by decide, ty_info (by kernel_rfl)⟩
theorem tyOk78 : TyOk Tryz.prog 78 { k := .func, size := 1, bytes := 8, zero := .nilFunc } :=
  ⟨⟨_, _, _, Tryz.underlying78⟩, by decide, by decide, by decide, by decide, by decide, ty_info (by kernel_rfl)⟩
theorem tyOk79 : TyOk Tryz.prog 79 { k := .func, size := 1, bytes := 8, zero := .nilFunc } :=
  ⟨⟨_, _, _, Tryz.underlying79⟩, by decide, by decide, by decide, by decide, by decide, ty_info (by kernel_rfl)⟩
theorem tyOk80 : TyOk Tryz.prog 80 { k := .func, size := 1, bytes := 8, zero := .nilFunc } :=
  ⟨⟨_, _, _, Tryz.underlying80⟩, by decide, by decide, by decide, by decide, by decide, ty_info (by kernel_rfl)⟩
theorem tyOk81 : TyOk Tryz.prog 81 { k := .func, size := 1, bytes := 8, zero := .nilFunc } :=
  ⟨⟨_, _, _, Tryz.underlying81⟩, by decide, by decide, by decide, by decide, by decide, ty_info (by kernel_rfl)⟩
theorem tyOk82 : TyOk Tryz.prog 82 { k := .func, size := 1, bytes := 8, zero := .nilFunc } :=
  ⟨⟨_, _, _, Tryz.underlying82⟩, by decide, by decide, by decide, by decide, by decide, ty_info (by kernel_rfl)⟩
theorem tyOk83 : TyOk Tryz.prog 83 { k := .func, size := 1, bytes := 8, zero := .nilFunc } :=
  ⟨⟨_, _, _, Tryz.underlying83⟩, by decide, by decide, by decide, by decide, by decide, ty_info (by kernel_rfl)⟩
theorem tyOk84 : TyOk Tryz.prog 84 { k := .func, size := 1, bytes := 8, zero := .nilFunc } :=
  ⟨⟨_, _, _, Tryz.underlying84⟩, by decide, by decide, by decide, by decide, by decide, ty_info (by kernel_rfl)⟩
theorem tyOk85 : TyOk Tryz.prog 85 { k := .func, size := 1, bytes := 8, zero := .nilFunc } :=
  ⟨⟨_, _, _, Tryz.underlying85⟩, by decide, by decide, by decide, by decide, by decide, ty_info (by kernel_rfl)⟩
theorem tyOk86 : TyOk Tryz.prog 86 { k := .func, size := 1, bytes := 8, zero := .nilFunc } :=
  ⟨⟨_, _, _, Tryz.underlying86⟩, by decide, by decide, by decide, by decide, by decide, ty_info (by kernel_rfl)⟩
theorem tyOk87 : TyOk Tryz.prog 87 { k := .func, size := 1, bytes := 8, zero := .nilFunc } :=
  ⟨⟨_, _, _, Tryz.underlying87⟩, by decide, by decide, by decide, by decide, by decide, ty_info (by kernel_rfl)⟩
theorem tyOk88 : TyOk Tryz.prog 88 { k := .func, size := 1, bytes := 8, zero := .nilFunc } :=
  ⟨⟨_, _, _, Tryz.underlying88⟩, by decide, by decide, by decide, by decide, by decide, ty_info (by kernel_rfl)⟩
theorem tyOk89 : TyOk Tryz.prog 89 { k := .func, size := 1, bytes := 8, zero := .nilFunc } :=
  ⟨⟨_, _, _, Tryz.underlying89⟩, by decide, by decide, by decide, by decide, by decide, ty_info (by kernel_rfl)⟩
theorem tyOk90 : TyOk Tryz.prog 90 { k := .func, size := 1, bytes := 8, zero := .nilFunc } :=
  ⟨⟨_, _, _, Tryz.underlying90⟩, by decide, by decide, by decide, by decide, by decide, ty_info (by kernel_rfl)⟩
theorem tyOk91 : TyOk Tryz.prog 91 { k := .func, size := 1, bytes := 8, zero := .nilFunc } :=
  ⟨⟨_, _, _, Tryz.underlying91⟩, by decide, by decide, by decide, by decide, by decide, ty_info (by kernel_rfl)⟩
theorem tyOk92 : TyOk Tryz.prog 92 { k := .func, size := 1, bytes := 8, zero := .nilFunc } :=
  ⟨⟨_, _, _, Tryz.underlying92⟩, by decide, by decide, by decide, by decide, by decide, ty_info (by kernel_rfl)⟩
theorem tyOk93 : TyOk Tryz.prog 93 { k := .func, size := 1, bytes := 8, zero := .nilFunc } :=
  ⟨⟨_, _, _, Tryz.underlying93⟩, by decide, by decide, by decide, by decide, by decide, ty_info (by kernel_rfl)⟩
theorem tyOk94 : TyOk Tryz.prog 94 { k := .func, size := 1, bytes := 8, zero := .nilFunc } :=
  ⟨⟨_, _, _, Tryz.underlying94⟩, by decide, by decide, by decide, by decide, by decide, ty_info (by kernel_rfl)⟩
theorem tyOk95 : TyOk Tryz.prog 95 { k := .func, size := 1, bytes := 8, zero := .nilFunc } :=
  ⟨⟨_, _, _, Tryz.underlying95⟩, by decide, by decide, by decide, by decide, by decide, ty_info (by kernel_rfl)⟩
theorem tyOk96 : TyOk Tryz.prog 96 { k := .func, size := 1, bytes := 8, zero := .nilFunc } :=
  ⟨⟨_, _, _, Tryz.underlying96⟩, by decide, by decide, by decide, by decide, by decide, ty_info (by kernel_rfl)⟩
theorem tyOk97 : TyOk Tryz.prog 97 { k := .func, size := 1, bytes := 8, zero := .nilFunc } :=
  ⟨⟨_, _, _, Tryz.underlying97⟩, by decide, by decide, by decide, by decide, by decide, ty_info (by kernel_rfl)⟩
theorem tyOk100 : TyOk Tryz.prog 100 { k := .ifc, size := 1, bytes := 16, zero := .nilIface } :=
  ⟨⟨_, Tryz.underlying100⟩, by decide, by decide, by decide, by decide, by decide, ty_info (by kernel_rfl)⟩
theorem tyOk101 : TyOk Tryz.prog 101 { k := .ifc, size := 1, bytes := 16, zero := .nilIface } :=
  ⟨⟨_, Tryz.underlying101⟩, by decide, by decide, by decide, by decide, by decide, ty_info (by kernel_rfl)⟩
theorem tyOk103 : TyOk Tryz.prog 103 { k := .func, size := 1, bytes := 8, zero := .nilFunc } :=
  ⟨⟨_, _, _, Tryz.underlying103⟩, by decide, by decide, by decide, by decide, by decide, ty_info (by kernel_rfl)⟩
theorem tyOk104 : TyOk Tryz.prog 104 { k := .func, size := 1, bytes := 8, zero := .nilFunc } :=
  ⟨⟨_, _, _, Tryz.underlying104⟩, by decide, by decide, by decide, by decide, by decide, ty_info (by kernel_rfl)⟩
theorem tyOk106 : TyOk Tryz.prog 106 { k := .func, size := 1, bytes := 8, zero := .nilFunc } :=
  ⟨⟨_, _, _, Tryz.underlying106⟩, by decide, by decide, by decide, by decide, by decide, ty_info (by kernel_rfl)⟩
theorem tyOk107 : TyOk Tryz.prog 107 { k := .func, size := 1, bytes := 8, zero := .nilFunc } :=
  ⟨⟨_, _, _, Tryz.underlying107⟩, by decide, by decide, by decide, by decide, by decide, ty_info (by kernel_rfl)⟩
theorem tyOk108 : TyOk Tryz.prog 108 { k := .func, size := 1, bytes := 8, zero := .nilFunc } :=
  ⟨⟨_, _, _, Tryz.underlying108⟩, by decide, by decide, by decide, by decide, by decide, ty_info (by kernel_rfl)⟩
theorem tyOk109 : TyOk Tryz.prog 109 { k := .func, size := 1, bytes := 8, zero := .nilFunc } :=
  ⟨⟨_, _, _, Tryz.underlying109⟩, by decide, by decide, by decide, by decide, by decide, ty_info (by kernel_rfl)⟩
theorem tyOk110 : TyOk Tryz.prog 110 { k := .func, size := 1, bytes := 8, zero := .nilFunc } :=
  ⟨⟨_, _, _, Tryz.underlying110⟩, by decide, by decide, by decide, by decide, by decide, ty_info (by kernel_rfl)⟩
theorem tyOk111 : TyOk Tryz.prog 111 { k := .func, size := 1, bytes := 8, zero := .nilFunc } :=
  ⟨⟨_, _, _, Tryz.underlying111⟩, by decide, by decide, by decide, by decide, by decide, ty_info (by kernel_rfl)⟩
theorem tyOk112 : TyOk Tryz.prog 112 { k := .func, size := 1, bytes := 8, zero := .nilFunc } :=
  ⟨⟨_, _, _, Tryz.underlying112⟩, by decide, by decide, by decide, by decide, by decide, ty_info (by kernel_rfl)⟩
theorem tyOk113 : TyOk Tryz.prog 113 { k := .func, size := 1, bytes := 8, zero := .nilFunc } :=
  ⟨⟨_, _, _, Tryz.underlying113⟩, by decide, by decide, by decide, by decide, by decide, ty_info (by kernel_rfl)⟩
theorem tyOk114 : TyOk Tryz.prog 114 { k := .func, size := 1, bytes := 8, zero := .nilFunc } :=
  ⟨⟨_, _, _, Tryz.underlying114⟩, by decide, by decide, by decide, by decide, by decide, ty_info (by kernel_rfl)⟩
theorem tyOk117 : TyOk Tryz.prog 117 { k := .func, size := 1, bytes := 8, zero := .nilFunc } :=
  ⟨⟨_, _, _, Tryz.underlying117⟩, by decide, by decide, by decide, by decide, by decide, ty_info (by kernel_rfl)⟩
theorem tyOk122 : TyOk Tryz.prog 122 { k := .func, size := 1, bytes := 8, zero := .nilFunc } :=
  ⟨⟨_, _, _, Tryz.underlying122⟩, by decide, by decide, by decide, by decide, by decide, ty_info (by kernel_rfl)⟩
theorem tyOk123 : TyOk Tryz.prog 123 { k := .func, size := 1, bytes := 8, zero := .nilFunc } :=
  ⟨⟨_, _, _, Tryz.underlying123⟩, by decide, by decide, by decide, by decide, by decide, ty_info (by kernel_rfl)⟩
theorem tyOk124 : TyOk Tryz.prog 124 { k := .func, size := 1, bytes := 8, zero := .nilFunc } :=
  ⟨⟨_, _, _, Tryz.underlying124⟩, by decide, by decide, by decide, by decide, by decide, ty_info (by kernel_rfl)⟩
theorem tyOk125 : TyOk Tryz.prog 125 { k := .func, size := 1, bytes := 8, zero := .nilFunc } :=
  ⟨⟨_, _, _, Tryz.underlying125⟩, by decide, by decide, by decide, by decide, by decide, ty_info (by kernel_rfl)⟩
theorem tyOk128 : TyOk Tryz.prog 128 { k := .func, size := 1, bytes := 8, zero := .nilFunc } :=
  ⟨⟨_, _, _, Tryz.underlying128⟩, by decide, by decide, by decide, by decide, by decide, ty_info (by kernel_rfl)⟩
theorem tyOk129 : TyOk Tryz.prog 129 { k := .func, size := 1, bytes := 8, zero := .nilFunc } :=
  ⟨⟨_, _, _, Tryz.underlying129⟩, by decide, by decide, by decide, by decide, by decide, ty_info (by kernel_rfl)⟩
theorem tyOk130 : TyOk Tryz.prog 130 { k := .func, size := 1, bytes := 8, zero := .nilFunc } :=
  ⟨⟨_, _, _, Tryz.underlying130⟩, by decide, by decide, by decide, by decide, by decide, ty_info (by kernel_rfl)⟩
theorem tyOk131 : TyOk Tryz.prog 131 { k := .map .int 3 9, size := 1, bytes := 8, zero := .map none } :=
  ⟨⟨Tryz.underlying131, Go.Maps.int_keyed Tryz.underlying3, fun v ⟨n, hv, h1, h2⟩ => ⟨_, hv ▸ Go.Maps.keyOf_int_mk Tryz.underlying3 (int_wf h1 h2)⟩⟩, by decide, by decide, by decide, by decide, by decide, ty_info (by kernel_rfl)⟩
theorem tyOk132 : TyOk Tryz.prog 132 { k := .func, size := 1, bytes := 8, zero := .nilFunc } :=
  ⟨⟨_, _, _, Tryz.underlying132⟩, by decide, by decide, by decide, by decide, by decide, ty_info (by kernel_rfl)⟩
theorem tyOk133 : TyOk Tryz.prog 133 { k := .func, size := 1, bytes := 8, zero := .nilFunc } :=
  ⟨⟨_, _, _, Tryz.underlying133⟩, by decide, by decide, by decide, by decide, by decide, ty_info (by kernel_rfl)⟩
theorem tyOk134 : TyOk Tryz.prog 134 { k := .func, size := 1, bytes := 8, zero := .nilFunc } :=
  ⟨⟨_, _, _, Tryz.underlying134⟩, by decide, by decide, by decide, by decide, by decide, ty_info (by kernel_rfl)⟩
theorem tyOk135 : TyOk Tryz.prog 135 { k := .func, size := 1, bytes := 8, zero := .nilFunc } :=
  ⟨⟨_, _, _, Tryz.underlying135⟩, by decide, by decide, by decide, by decide, by decide, ty_info (by kernel_rfl)⟩
theorem tyOk136 : TyOk Tryz.prog 136 { k := .func, size := 1, bytes := 8, zero := .nilFunc } :=
  ⟨⟨_, _, _, Tryz.underlying136⟩, by decide, by decide, by decide, by decide, by decide, ty_info (by kernel_rfl)⟩
theorem tyOk137 : TyOk Tryz.prog 137 { k := .func, size := 1, bytes := 8, zero := .nilFunc } :=
  ⟨⟨_, _, _, Tryz.underlying137⟩, by decide, by decide, by decide, by decide, by decide, ty_info (by kernel_rfl)⟩
theorem tyOk138 : TyOk Tryz.prog 138 { k := .func, size := 1, bytes := 8, zero := .nilFunc } :=
  ⟨⟨_, _, _, Tryz.underlying138⟩, by decide, by decide, by decide, by decide, by decide, ty_info (by kernel_rfl)⟩
theorem tyOk139 : TyOk Tryz.prog 139 { k := .func, size := 1, bytes := 8, zero := .nilFunc } :=
  ⟨⟨_, _, _, Tryz.underlying139⟩, by decide, by decide, by decide, by decide, by decide, ty_info (by kernel_rfl)⟩
theorem tyOk140 : TyOk Tryz.prog 140 { k := .func, size := 1, bytes := 8, zero := .nilFunc } :=
  ⟨⟨_, _, _, Tryz.underlying140⟩, by decide, by decide, by decide, by decide, by decide, ty_info (by kernel_rfl)⟩
theorem tyOk141 : TyOk Tryz.prog 141 { k := .func, size := 1, bytes := 8, zero := .nilFunc } :=
  ⟨⟨_, _, _, Tryz.underlying141⟩, by decide, by decide, by decide, by decide, by decide, ty_info (by kernel_rfl)⟩
theorem tyOk142 : TyOk Tryz.prog 142 { k := .func, size := 1, bytes := 8, zero := .nilFunc } :=
  ⟨⟨_, _, _, Tryz.underlying142⟩, by decide, by decide, by decide, by decide, by decide, ty_info (by kernel_rfl)⟩
theorem tyOk143 : TyOk Tryz.prog 143 { k := .func, size := 1, bytes := 8, zero := .nilFunc } :=
  ⟨⟨_, _, _, Tryz.underlying143⟩, by decide, by decide, by decide, by decide, by decide, ty_info (by kernel_rfl)⟩
theorem tyOk144 : TyOk Tryz.prog 144 { k := .func, size := 1, bytes := 8, zero := .nilFunc } :=
  ⟨⟨_, _, _, Tryz.underlying144⟩, by decide, by decide, by decide, by decide, by decide, ty_info (by kernel_rfl)⟩
theorem tyOk145 : TyOk Tryz.prog 145 { k := .func, size := 1, bytes := 8, zero := .nilFunc } :=
  ⟨⟨_, _, _, Tryz.underlying145⟩, by decide, by decide, by decide, by decide, by decide, ty_info (by kernel_rfl)⟩
theorem tyOk146 : TyOk Tryz.prog 146 { k := .func, size := 1, bytes := 8, zero := .nilFunc } :=
  ⟨⟨_, _, _, Tryz.underlying146⟩, by decide, by decide, by decide, by decide, by decide, ty_info (by kernel_rfl)⟩
theorem tyOk147 : TyOk Tryz.prog 147 { k := .func, size := 1, bytes := 8, zero := .nilFunc } :=
  ⟨⟨_, _, _, Tryz.underlying147⟩, by decide, by decide, by decide, by decide, by decide, ty_info (by kernel_rfl)⟩
theorem tyOk150 : TyOk Tryz.prog 150 { k := .ptr, size := 1, bytes := 8, zero := .pointer none } :=
  ⟨⟨_, Tryz.underlying150⟩, by decide, by decide, by decide, by decide, by decide, ty_info (by kernel_rfl)⟩
theorem tyOk151 : TyOk Tryz.prog 151 { k := .func, size := 1, bytes := 8, zero := .nilFunc } :=
  ⟨⟨_, _, _, Tryz.underlying151⟩, by decide, by decide, by decide, by decide, by decide, ty_info (by kernel_rfl)⟩
theorem tyOk152 : TyOk Tryz.prog 152 { k := .func, size := 1, bytes := 8, zero := .nilFunc } :=
  ⟨⟨_, _, _, Tryz.underlying152⟩, by decide, by decide, by decide, by decide, by decide, ty_info (by kernel_rfl)⟩
theorem tyOk153 : TyOk Tryz.prog 153 { k := .func, size := 1, bytes := 8, zero := .nilFunc } :=
  ⟨⟨_, _, _, Tryz.underlying153⟩, by decide, by decide, by decide, by decide, by decide, ty_info (by kernel_rfl)⟩
theorem tyOk154 : TyOk Tryz.prog 154 { k := .func, size := 1, bytes := 8, zero := .nilFunc } :=
  ⟨⟨_, _, _, Tryz.underlying154⟩, by decide, by decide, by decide, by decide, by decide, ty_info (by kernel_rfl)⟩
theorem tyOk155 : TyOk Tryz.prog 155 { k := .ptr, size := 1, bytes := 8, zero := .pointer none } :=
  ⟨⟨_, Tryz.underlying155⟩, by decide, by decide, by decide, by decide, by decide, ty_info (by kernel_rfl)⟩
theorem tyOk159 : TyOk Tryz.prog 159 { k := .func, size := 1, bytes := 8, zero := .nilFunc } :=
  ⟨⟨_, _, _, Tryz.underlying159⟩, by decide, by decide, by decide, by decide, by decide, ty_info (by kernel_rfl)⟩
theorem tyOk160 : TyOk Tryz.prog 160 { k := .func, size := 1, bytes := 8, zero := .nilFunc } :=
  ⟨⟨_, _, _, Tryz.underlying160⟩, by decide, by decide, by decide, by decide, by decide, ty_info (by kernel_rfl)⟩
theorem tyOk161 : TyOk Tryz.prog 161 { k := .func, size := 1, bytes := 8, zero := .nilFunc } :=
  ⟨⟨_, _, _, Tryz.underlying161⟩, by decide, by decide, by decide, by decide, by decide, ty_info (by kernel_rfl)⟩
theorem tyOk162 : TyOk Tryz.prog 162 { k := .func, size := 1, bytes := 8, zero := .nilFunc } :=
  ⟨⟨_, _, _, Tryz.underlying162⟩, by decide, by decide, by decide, by decide, by decide, ty_info (by kernel_rfl)⟩
theorem tyOk163 : TyOk Tryz.prog 163 { k := .ptr, size := 1, bytes := 8, zero := .pointer none } :=
  ⟨⟨_, Tryz.underlying163⟩, by decide, by decide, by decide, by decide, by decide, ty_info (by kernel_rfl)⟩
theorem tyOk164 : TyOk Tryz.prog 164 { k := .func, size := 1, bytes := 8, zero := .nilFunc } :=
  ⟨⟨_, _, _, Tryz.underlying164⟩, by decide, by decide, by decide, by decide, by decide, ty_info (by kernel_rfl)⟩
theorem tyOk165 : TyOk Tryz.prog 165 { k := .func, size := 1, bytes := 8, zero := .nilFunc } :=
  ⟨⟨_, _, _, Tryz.underlying165⟩, by decide, by decide, by decide, by decide, by decide, ty_info (by kernel_rfl)⟩
theorem tyOk167 : TyOk Tryz.prog 167 { k := .func, size := 1, bytes := 8, zero := .nilFunc } :=
  ⟨⟨_, _, _, Tryz.underlying167⟩, by decide, by decide, by decide, by decide, by decide, ty_info (by kernel_rfl)⟩
theorem tyOk168 : TyOk Tryz.prog 168 { k := .func, size := 1, bytes := 8, zero := .nilFunc } :=
  ⟨⟨_, _, _, Tryz.underlying168⟩, by decide, by decide, by decide, by decide, by decide, ty_info (by kernel_rfl)⟩
theorem tyOk169 : TyOk Tryz.prog 169 { k := .func, size := 1, bytes := 8, zero := .nilFunc } :=
  ⟨⟨_, _, _, Tryz.underlying169⟩, by decide, by decide, by decide, by decide, by decide, ty_info (by kernel_rfl)⟩
theorem tyOk170 : TyOk Tryz.prog 170 { k := .func, size := 1, bytes := 8, zero := .nilFunc } :=
  ⟨⟨_, _, _, Tryz.underlying170⟩, by decide, by decide, by decide, by decide, by decide, ty_info (by kernel_rfl)⟩
theorem tyOk171 : TyOk Tryz.prog 171 { k := .func, size := 1, bytes := 8, zero := .nilFunc } :=
  ⟨⟨_, _, _, Tryz.underlying171⟩, by decide, by decide, by decide, by decide, by decide, ty_info (by kernel_rfl)⟩
theorem tyOk174 : TyOk Tryz.prog 174 { k := .func, size := 1, bytes := 8, zero := .nilFunc } :=
  ⟨⟨_, _, _, Tryz.underlying174⟩, by decide, by decide, by decide, by decide, by decide, ty_info (by kernel_rfl)⟩
theorem tyOk175 : TyOk Tryz.prog 175 { k := .ptr, size := 1, bytes := 8, zero := .pointer none } :=
  ⟨⟨_, Tryz.underlying175⟩, by decide, by decide, by decide, by decide, by decide, ty_info (by kernel_rfl)⟩
theorem tyOk176 : TyOk Tryz.prog 176 { k := .func, size := 1, bytes := 8, zero := .nilFunc } :=
  ⟨⟨_, _, _, Tryz.underlying176⟩, by decide, by decide, by decide, by decide, by decide, ty_info (by kernel_rfl)⟩
theorem tyOk177 : TyOk Tryz.prog 177 { k := .func, size := 1, bytes := 8, zero := .nilFunc } :=
  ⟨⟨_, _, _, Tryz.underlying177⟩, by decide, by decide, by decide, by decide, by decide, ty_info (by kernel_rfl)⟩
theorem tyOk178 : TyOk Tryz.prog 178 { k := .func, size := 1, bytes := 8, zero := .nilFunc } :=
  ⟨⟨_, _, _, Tryz.underlying178⟩, by decide, by decide, by decide, by decide, by decide, ty_info (by kernel_rfl)⟩
theorem tyOk179 : TyOk Tryz.prog 179 { k := .func, size := 1, bytes := 8, zero := .nilFunc } :=
  ⟨⟨_, _, _, Tryz.underlying179⟩, by decide, by decide, by decide, by decide, by decide, ty_info (by kernel_rfl)⟩
theorem tyOk183 : TyOk Tryz.prog 183 { k := .func, size := 1, bytes := 8, zero := .nilFunc } :=
  ⟨⟨_, _, _, Tryz.underlying183⟩, by decide, by decide, by decide, by decide, by decide, ty_info (by kernel_rfl)⟩
theorem tyOk184 : TyOk Tryz.prog 184 { k := .func, size := 1, bytes := 8, zero := .nilFunc } :=
  ⟨⟨_, _, _, Tryz.underlying184⟩, by decide, by decide, by decide, by decide, by decide, ty_info (by kernel_rfl)⟩
theorem tyOk185 : TyOk Tryz.prog 185 { k := .ptr, size := 1, bytes := 8, zero := .pointer none } :=
  ⟨⟨_, Tryz.underlying185⟩, by decide, by decide, by decide, by decide, by decide, ty_info (by kernel_rfl)⟩
theorem tyOk186 : TyOk Tryz.prog 186 { k := .ptr, size := 1, bytes := 8, zero := .pointer none } :=
  ⟨⟨_, Tryz.underlying186⟩, by decide, by decide, by decide, by decide, by decide, ty_info (by kernel_rfl)⟩
theorem tyOk199 : TyOk Tryz.prog 199 { k := .ifc, size := 1, bytes := 16, zero := .nilIface } :=
  ⟨⟨_, Tryz.underlying199⟩, by decide, by decide, by decide, by decide, by decide, ty_info (by kernel_rfl)⟩
theorem tyOk200 : TyOk Tryz.prog 200 { k := .ifc, size := 1, bytes := 16, zero := .nilIface } :=
  ⟨⟨_, Tryz.underlying200⟩, by decide, by decide, by decide, by decide, by decide, ty_info (by kernel_rfl)⟩
theorem tyOk203 : TyOk Tryz.prog 203 { k := .func, size := 1, bytes := 8, zero := .nilFunc } :=
  ⟨⟨_, _, _, Tryz.underlying203⟩, by decide, by decide, by decide, by decide, by decide, ty_info (by kernel_rfl)⟩
theorem tyOk205 : TyOk Tryz.prog 205 { k := .func, size := 1, bytes := 8, zero := .nilFunc } :=
  ⟨⟨_, _, _, Tryz.underlying205⟩, by decide, by decide, by decide, by decide, by decide, ty_info (by kernel_rfl)⟩
theorem tyOk206 : TyOk Tryz.prog 206 { k := .func, size := 1, bytes := 8, zero := .nilFunc } :=
  ⟨⟨_, _, _, Tryz.underlying206⟩, by decide, by decide, by decide, by decide, by decide, ty_info (by kernel_rfl)⟩
theorem tyOk207 : TyOk Tryz.prog 207 { k := .func, size := 1, bytes := 8, zero := .nilFunc } :=
  ⟨⟨_, _, _, Tryz.underlying207⟩, by decide, by decide, by decide, by decide, by decide, ty_info (by kernel_rfl)⟩
theorem tyOk208 : TyOk Tryz.prog 208 { k := .func, size := 1, bytes := 8, zero := .nilFunc } :=
  ⟨⟨_, _, _, Tryz.underlying208⟩, by decide, by decide, by decide, by decide, by decide, ty_info (by kernel_rfl)⟩
theorem tyOk209 : TyOk Tryz.prog 209 { k := .func, size := 1, bytes := 8, zero := .nilFunc } :=
  ⟨⟨_, _, _, Tryz.underlying209⟩, by decide, by decide, by decide, by decide, by decide, ty_info (by kernel_rfl)⟩
theorem tyOk211 : TyOk Tryz.prog 211 { k := .func, size := 1, bytes := 8, zero := .nilFunc } :=
  ⟨⟨_, _, _, Tryz.underlying211⟩, by decide, by decide, by decide, by decide, by decide, ty_info (by kernel_rfl)⟩
theorem tyOk214 : TyOk Tryz.prog 214 { k := .func, size := 1, bytes := 8, zero := .nilFunc } :=
  ⟨⟨_, _, _, Tryz.underlying214⟩, by decide, by decide, by decide, by decide, by decide, ty_info (by kernel_rfl)⟩
theorem tyOk217 : TyOk Tryz.prog 217 { k := .func, size := 1, bytes := 8, zero := .nilFunc } :=
  ⟨⟨_, _, _, Tryz.underlying217⟩, by decide, by decide, by decide, by decide, by decide, ty_info (by kernel_rfl)⟩
theorem tyOk218 : TyOk Tryz.prog 218 { k := .func, size := 1, bytes := 8, zero := .nilFunc } :=
  ⟨⟨_, _, _, Tryz.underlying218⟩, by decide, by decide, by decide, by decide, by decide, ty_info (by kernel_rfl)⟩
theorem tyOk219 : TyOk Tryz.prog 219 { k := .func, size := 1, bytes := 8, zero := .nilFunc } :=
  ⟨⟨_, _, _, Tryz.underlying219⟩, by decide, by decide, by decide, by decide, by decide, ty_info (by kernel_rfl)⟩
theorem tyOk220 : TyOk Tryz.prog 220 { k := .func, size := 1, bytes := 8, zero := .nilFunc } :=
  ⟨⟨_, _, _, Tryz.underlying220⟩, by decide, by decide, by decide, by decide, by decide, ty_info (by kernel_rfl)⟩
theorem tyOk221 : TyOk Tryz.prog 221 { k := .ptr, size := 1, bytes := 8, zero := .pointer none } :=
  ⟨⟨_, Tryz.underlying221⟩, by decide, by decide, by decide, by decide, by decide, ty_info (by kernel_rfl)⟩
theorem tyOk222 : TyOk Tryz.prog 222 { k := .func, size := 1, bytes := 8, zero := .nilFunc } :=
  ⟨⟨_, _, _, Tryz.underlying222⟩, by decide, by decide, by decide, by decide, by decide, ty_info (by kernel_rfl)⟩
theorem tyOk223 : TyOk Tryz.prog 223 { k := .func, size := 1, bytes := 8, zero := .nilFunc } :=
  ⟨⟨_, _, _, Tryz.underlying223⟩, by decide, by decide, by decide, by decide, by decide, ty_info (by kernel_rfl)⟩
theorem tyOk224 : TyOk Tryz.prog 224 { k := .func, size := 1, bytes := 8, zero := .nilFunc } :=
  ⟨⟨_, _, _, Tryz.underlying224⟩, by decide, by decide, by decide, by decide, by decide, ty_info (by kernel_rfl)⟩
theorem tyOk226 : TyOk Tryz.prog 226 { k := .func, size := 1, bytes := 8, zero := .nilFunc } :=
  ⟨⟨_, _, _, Tryz.underlying226⟩, by decide, by decide, by decide, by decide, by decide, ty_info (by kernel_rfl)⟩
theorem tyOk227 : TyOk Tryz.prog 227 { k := .func, size := 1, bytes := 8, zero := .nilFunc } :=
  ⟨⟨_, _, _, Tryz.underlying227⟩, by decide, by decide, by decide, by decide, by decide, ty_info (by kernel_rfl)⟩
theorem tyOk228 : TyOk Tryz.prog 228 { k := .func, size := 1, bytes := 8, zero := .nilFunc } :=
  ⟨⟨_, _, _, Tryz.underlying228⟩, by decide, by decide, by decide, by decide, by decide, ty_info (by kernel_rfl)⟩
theorem tyOk230 : TyOk Tryz.prog 230 { k := .func, size := 1, bytes := 8, zero := .nilFunc } :=
  ⟨⟨_, _, _, Tryz.underlying230⟩, by decide, by decide, by decide, by decide, by decide, ty_info (by kernel_rfl)⟩
theorem tyOk231 : TyOk Tryz.prog 231 { k := .func, size := 1, bytes := 8, zero := .nilFunc } :=
  ⟨⟨_, _, _, Tryz.underlying231⟩, by decide, by decide, by decide, by decide, by decide, ty_info (by kernel_rfl)⟩
theorem tyOk232 : TyOk Tryz.prog 232 { k := .ptr, size := 1, bytes := 8, zero := .pointer none } :=
  ⟨⟨_, Tryz.underlying232⟩, by decide, by decide, by decide, by decide, by decide, ty_info (by kernel_rfl)⟩
theorem tyOk235 : TyOk Tryz.prog 235 { k := .func, size := 1, bytes := 8, zero := .nilFunc } :=
  ⟨⟨_, _, _, Tryz.underlying235⟩, by decide, by decide, by decide, by decide, by decide, ty_info (by kernel_rfl)⟩
theorem tyOk236 : TyOk Tryz.prog 236 { k := .ptr, size := 1, bytes := 8, zero := .pointer none } :=
  ⟨⟨_, Tryz.underlying236⟩, by decide, by decide, by decide, by decide, by decide, ty_info (by kernel_rfl)⟩
theorem tyOk237 : TyOk Tryz.prog 237 { k := .func, size := 1, bytes := 8, zero := .nilFunc } :=
  ⟨⟨_, _, _, Tryz.underlying237⟩, by decide, by decide, by decide, by decide, by decide, ty_info (by kernel_rfl)⟩
theorem tyOk238 : TyOk Tryz.prog 238 { k := .ptr, size := 1, bytes := 8, zero := .pointer none } :=
  ⟨⟨_, Tryz.underlying238⟩, by decide, by decide, by decide, by decide, by decide, ty_info (by kernel_rfl)⟩
theorem tyOk239 : TyOk Tryz.prog 239 { k := .func, size := 1, bytes := 8, zero := .nilFunc } :=
  ⟨⟨_, _, _, Tryz.underlying239⟩, by decide, by decide, by decide, by decide, by decide, ty_info (by kernel_rfl)⟩
theorem tyOk240 : TyOk Tryz.prog 240 { k := .ptr, size := 1, bytes := 8, zero := .pointer none } :=
  ⟨⟨_, Tryz.underlying240⟩, by decide, by decide, by decide, by decide, by decide, ty_info (by kernel_rfl)⟩
theorem tyOk241 : TyOk Tryz.prog 241 { k := .func, size := 1, bytes := 8, zero := .nilFunc } :=
  ⟨⟨_, _, _, Tryz.underlying241⟩, by decide, by decide, by decide, by decide, by decide, ty_info (by kernel_rfl)⟩
theorem tyOk242 : TyOk Tryz.prog 242 { k := .ptr, size := 1, bytes := 8, zero := .pointer none } :=
  ⟨⟨_, Tryz.underlying242⟩, by decide, by decide, by decide, by decide, by decide, ty_info (by kernel_rfl)⟩
theorem tyOk243 : TyOk Tryz.prog 243 { k := .func, size := 1, bytes := 8, zero := .nilFunc } :=
  ⟨⟨_, _, _, Tryz.underlying243⟩, by decide, by decide, by decide, by decide, by decide, ty_info (by kernel_rfl)⟩
theorem tyOk246 : TyOk Tryz.prog 246 { k := .ptr, size := 1, bytes := 8, zero := .pointer none } :=
  ⟨⟨_, Tryz.underlying246⟩, by decide, by decide, by decide, by decide, by decide, ty_info (by kernel_rfl)⟩
theorem tyOk250 : TyOk Tryz.prog 250 { k := .ptr, size := 1, bytes := 8, zero := .pointer none } :=
  ⟨⟨_, Tryz.underlying250⟩, by decide, by decide, by decide, by decide, by decide, ty_info (by kernel_rfl)⟩
theorem tyOk252 : TyOk Tryz.prog 252 { k := .func, size := 1, bytes := 8, zero := .nilFunc } :=
  ⟨⟨_, _, _, Tryz.underlying252⟩, by decide, by decide, by decide, by decide, by decide, ty_info (by kernel_rfl)⟩
theorem tyOk253 : TyOk Tryz.prog 253 { k := .func, size := 1, bytes := 8, zero := .nilFunc } :=
  ⟨⟨_, _, _, Tryz.underlying253⟩, by decide, by decide, by decide, by decide, by decide, ty_info (by kernel_rfl)⟩
theorem tyOk255 : TyOk Tryz.prog 255 { k := .func, size := 1, bytes := 8, zero := .nilFunc } :=
  ⟨⟨_, _, _, Tryz.underlying255⟩, by decide, by decide, by decide, by decide, by decide, ty_info (by kernel_rfl)⟩
theorem tyOk259 : TyOk Tryz.prog 259 { k := .func, size := 1, bytes := 8, zero := .nilFunc } :=
  ⟨⟨_, _, _, Tryz.underlying259⟩, by decide, by decide, by decide, by decide, by decide, ty_info (by kernel_rfl)⟩
theorem tyOk260 : TyOk Tryz.prog 260 { k := .ptr, size := 1, bytes := 8, zero := .pointer none } :=
  ⟨⟨_, Tryz.underlying260⟩, by decide, by decide, by decide, by decide, by decide, ty_info (by kernel_rfl)⟩
theorem tyOk261 : TyOk Tryz.prog 261 { k := .func, size := 1, bytes := 8, zero := .nilFunc } :=
  ⟨⟨_, _, _, Tryz.underlying261⟩, by decide, by decide, by decide, by decide, by decide, ty_info (by kernel_rfl)⟩
theorem tyOk262 : TyOk Tryz.prog 262 { k := .func, size := 1, bytes := 8, zero := .nilFunc } :=
  ⟨⟨_, _, _, Tryz.underlying262⟩, by decide, by decide, by decide, by decide, by decide, ty_info (by kernel_rfl)⟩
theorem tyOk263 : TyOk Tryz.prog 263 { k := .ptr, size := 1, bytes := 8, zero := .pointer none } :=
  ⟨⟨_, Tryz.underlying263⟩, by decide, by decide, by decide, by decide, by decide, ty_info (by kernel_rfl)⟩
theorem tyOk264 : TyOk Tryz.prog 264 { k := .func, size := 1, bytes := 8, zero := .nilFunc } :=
  ⟨⟨_, _, _, Tryz.underlying264⟩, by decide, by decide, by decide, by decide, by decide, ty_info (by kernel_rfl)⟩
theorem tyOk267 : TyOk Tryz.prog 267 { k := .ptr, size := 1, bytes := 8, zero := .pointer none } :=
  ⟨⟨_, Tryz.underlying267⟩, by decide, by decide, by decide, by decide, by decide, ty_info (by kernel_rfl)⟩
theorem tyOk273 : TyOk Tryz.prog 273 { k := .func, size := 1, bytes := 8, zero := .nilFunc } :=
  ⟨⟨_, _, _, Tryz.underlying273⟩, by decide, by decide, by decide, by decide, by decide, ty_info (by kernel_rfl)⟩
theorem tyOk276 : TyOk Tryz.prog 276 { k := .func, size := 1, bytes := 8, zero := .nilFunc } :=
  ⟨⟨_, _, _, Tryz.underlying276⟩, by decide, by decide, by decide, by decide, by decide, ty_info (by kernel_rfl)⟩
theorem tyOk277 : TyOk Tryz.prog 277 { k := .ptr, size := 1, bytes := 8, zero := .pointer none } :=
  ⟨⟨_, Tryz.underlying277⟩, by decide, by decide, by decide, by decide, by decide, ty_info (by kernel_rfl)⟩
theorem tyOk278 : TyOk Tryz.prog 278 { k := .func, size := 1, bytes := 8, zero := .nilFunc } :=
  ⟨⟨_, _, _, Tryz.underlying278⟩, by decide, by decide, by decide, by decide, by decide, ty_info (by kernel_rfl)⟩
theorem tyOk279 : TyOk Tryz.prog 279 { k := .ptr, size := 1, bytes := 8, zero := .pointer none } :=
  ⟨⟨_, Tryz.underlying279⟩, by decide, by decide, by decide, by decide, by decide, ty_info (by kernel_rfl)⟩
theorem tyOk280 : TyOk Tryz.prog 280 { k := .func, size := 1, bytes := 8, zero := .nilFunc } :=
  ⟨⟨_, _, _, Tryz.underlying280⟩, by decide, by decide, by decide, by decide, by decide, ty_info (by kernel_rfl)⟩
theorem tyOk281 : TyOk Tryz.prog 281 { k := .func, size := 1, bytes := 8, zero := .nilFunc } :=
  ⟨⟨_, _, _, Tryz.underlying281⟩, by decide, by decide, by decide, by decide, by decide, ty_info (by kernel_rfl)⟩
theorem tyOk282 : TyOk Tryz.prog 282 { k := .func, size := 1, bytes := 8, zero := .nilFunc } :=
  ⟨⟨_, _, _, Tryz.underlying282⟩, by decide, by decide, by decide, by decide, by decide, ty_info (by kernel_rfl)⟩
theorem tyOk286 : TyOk Tryz.prog 286 { k := .func, size := 1, bytes := 8, zero := .nilFunc } :=
  ⟨⟨_, _, _, Tryz.underlying286⟩, by decide, by decide, by decide, by decide, by decide, ty_info (by kernel_rfl)⟩
theorem tyOk287 : TyOk Tryz.prog 287 { k := .func, size := 1, bytes := 8, zero := .nilFunc } :=
  ⟨⟨_, _, _, Tryz.underlying287⟩, by decide, by decide, by decide, by decide, by decide, ty_info (by kernel_rfl)⟩
theorem tyOk288 : TyOk Tryz.prog 288 { k := .func, size := 1, bytes := 8, zero := .nilFunc } :=
  ⟨⟨_, _, _, Tryz.underlying288⟩, by decide, by decide, by decide, by decide, by decide, ty_info (by kernel_rfl)⟩
theorem tyOk289 : TyOk Tryz.prog 289 { k := .func, size := 1, bytes := 8, zero := .nilFunc } :=
  ⟨⟨_, _, _, Tryz.underlying289⟩, by decide, by decide, by decide, by decide, by decide, ty_info (by kernel_rfl)⟩
theorem tyOk299 : TyOk Tryz.prog 299 { k := .func, size := 1, bytes := 8, zero := .nilFunc } :=
  ⟨⟨_, _, _, Tryz.underlying299⟩, by decide, by decide, by decide, by decide, by decide, ty_info (by kernel_rfl)⟩
theorem tyOk306 : TyOk Tryz.prog 306 { k := .func, size := 1, bytes := 8, zero := .nilFunc } :=
  ⟨⟨_, _, _, Tryz.underlying306⟩, by decide, by decide, by decide, by decide, by decide, ty_info (by kernel_rfl)⟩
theorem tyOk308 : TyOk Tryz.prog 308 { k := .ptr, size := 1, bytes := 8, zero := .pointer none } :=
  ⟨⟨_, Tryz.underlying308⟩, by decide, by decide, by decide, by decide, by decide, ty_info (by kernel_rfl)⟩
theorem tyOk309 : TyOk Tryz.prog 309 { k := .ifc, size := 1, bytes := 16, zero := .nilIface } :=
  ⟨⟨_, Tryz.underlying309⟩, by decide, by decide, by decide, by decide, by decide, ty_info (by kernel_rfl)⟩
theorem tyOk310 : TyOk Tryz.prog 310 { k := .ifc, size := 1, bytes := 16, zero := .nilIface } :=
  ⟨⟨_, Tryz.underlying310⟩, by decide, by decide, by decide, by decide, by decide, ty_info (by kernel_rfl)⟩
theorem tyOk311 : TyOk Tryz.prog 311 { k := .ifc, size := 1, bytes := 16, zero := .nilIface } :=
  ⟨⟨_, Tryz.underlying311⟩, by decide, by decide, by decide, by decide, by decide, ty_info (by kernel_rfl)⟩
theorem tyOk312 : TyOk Tryz.prog 312 { k := .ifc, size := 1, bytes := 16, zero := .nilIface } :=
  ⟨⟨_, Tryz.underlying312⟩, by decide, by decide, by decide, by decide, by decide, ty_info (by kernel_rfl)⟩
theorem tyOk313 : TyOk Tryz.prog 313 { k := .func, size := 1, bytes := 8, zero := .nilFunc } :=
  ⟨⟨_, _, _, Tryz.underlying313⟩, by decide, by decide, by decide, by decide, by decide, ty_info (by kernel_rfl)⟩
theorem tyOk315 : TyOk Tryz.prog 315 { k := .func, size := 1, bytes := 8, zero := .nilFunc } :=
  ⟨⟨_, _, _, Tryz.underlying315⟩, by decide, by decide, by decide, by decide, by decide, ty_info (by kernel_rfl)⟩
theorem tyOk319 : TyOk Tryz.prog 319 { k := .func, size := 1, bytes := 8, zero := .nilFunc } :=
  ⟨⟨_, _, _, Tryz.underlying319⟩, by decide, by decide, by decide, by decide, by decide, ty_info (by kernel_rfl)⟩
def TabOk (P : Program) : List (Nat × TyI) → Prop
  | [] => True
  | p :: r => TyOk P p.1 p.2 ∧ TabOk P r
theorem TabOk.mem {P : Program} : ∀ {l : List (Nat × TyI)}, TabOk P l → ∀ {p : Nat × TyI}, p ∈ l → TyOk P p.1 p.2
  | [], _, p, h => by cases h
  | q :: r, hl, p, h => by
    rcases List.mem_cons.1 h with rfl | h
    · exact hl.1
    · exact TabOk.mem hl.2 h
set_option maxHeartbeats 4000000 in
theorem tyTab_ok : TabOk Tryz.prog tyTab :=
  ⟨tyOk2, tyOk3, tyOk4, tyOk5, tyOk6, tyOk7, tyOk8, tyOk9, tyOk10, tyOk11, tyOk12, tyOk13, tyOk14, tyOk18, tyOk19, tyOk21, tyOk22, tyOk23, tyOk24, tyOk25, tyOk26, tyOk27, tyOk28, tyOk29, tyOk33, tyOk44, tyOk55, tyOk56, tyOk59, tyOk70, tyOk71, tyOk72, tyOk73, tyOk98, tyOk99, tyOk115, tyOk116, tyOk119, tyOk126, tyOk127, tyOk148, tyOk149, tyOk156, tyOk157, tyOk158, tyOk166, tyOk172, tyOk190, tyOk193, tyOk194, tyOk201, tyOk202, tyOk212, tyOk215, tyOk216, tyOk225, tyOk233, tyOk234, tyOk251, tyOk256, tyOk257, tyOk258, tyOk265, tyOk266, tyOk268, tyOk269, tyOk270, tyOk274, tyOk290, tyOk292, tyOk293, tyOk297, tyOk298, tyOk300, tyOk301, tyOk302, tyOk303, tyOk304, tyOk305, tyOk307, tyOk317, tyOk318, tyOk1, tyOk15, tyOk16, tyOk17, tyOk20, tyOk31, tyOk32, tyOk35, tyOk36, tyOk37, tyOk38, tyOk39, tyOk41, tyOk42, tyOk43, tyOk45, tyOk46, tyOk48, tyOk49, tyOk50, tyOk51, tyOk52, tyOk53, tyOk54, tyOk58, tyOk61, tyOk62, tyOk63, tyOk65, tyOk67, tyOk68, tyOk69, tyOk75, tyOk76, tyOk77, tyOk78, tyOk79, tyOk80, tyOk81, tyOk82, tyOk83, tyOk84, tyOk85, tyOk86, tyOk87, tyOk88, tyOk89, tyOk90, tyOk91, tyOk92, tyOk93, tyOk94, tyOk95, tyOk96, tyOk97, tyOk100, tyOk101, tyOk103, tyOk104, tyOk106, tyOk107, tyOk108, tyOk109, tyOk110, tyOk111, tyOk112, tyOk113, tyOk114, tyOk117, tyOk122, tyOk123, tyOk124, tyOk125, tyOk128, tyOk129, tyOk130, tyOk131, tyOk132, tyOk133, tyOk134, tyOk135, tyOk136, tyOk137, tyOk138, tyOk139, tyOk140, tyOk141, tyOk142, tyOk143, tyOk144, tyOk145, tyOk146, tyOk147, tyOk150, tyOk151, tyOk152, tyOk153, tyOk154, tyOk155, tyOk159, tyOk160, tyOk161, tyOk162, tyOk163, tyOk164, tyOk165, tyOk167, tyOk168, tyOk169, tyOk170, tyOk171, tyOk174, tyOk175, tyOk176, tyOk177, tyOk178, tyOk179, tyOk183, tyOk184, tyOk185, tyOk186, tyOk199, tyOk200, tyOk203, tyOk205, tyOk206, tyOk207, tyOk208, tyOk209, tyOk211, tyOk214, tyOk217, tyOk218, tyOk219, tyOk220, tyOk221, tyOk222, tyOk223, tyOk224, tyOk226, tyOk227, tyOk228, tyOk230, tyOk231, tyOk232, tyOk235, tyOk236, tyOk237, tyOk238, tyOk239, tyOk240, tyOk241, tyOk242, tyOk243, tyOk246, tyOk250, tyOk252, tyOk253, tyOk255, tyOk259, tyOk260, tyOk261, tyOk262, tyOk263, tyOk264, tyOk267, tyOk273, tyOk276, tyOk277, tyOk278, tyOk279, tyOk280, tyOk281, tyOk282, tyOk286, tyOk287, tyOk288, tyOk289, tyOk299, tyOk306, tyOk308, tyOk309, tyOk310, tyOk311, tyOk312, tyOk313, tyOk315, tyOk319, trivial⟩
theorem tyT_ok (t : TypeId) : TyOk Tryz.prog t (tyT t) := by
  unfold tyT
  split
  · rename_i i h
    exact tyTab_ok.mem (findB_mem h)
  · trivial
end Go.Proofs.YtkjflkbjepdaaaaGreatDoor
