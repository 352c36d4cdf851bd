/-
  The table of this program's types that the readings know, each entry proved. Written by a program.
-/
import Derived.Test.YtemiaognopgnnaaGreatDoorN17
import Derived.Test.YtemiaognopgnnaaGreatDoorProg
namespace Go.Proofs.YtemiaognopgnnaaGreatDoor
open Go.RowKit
set_option maxRecDepth 100000

def tyTab : List (Nat × TyI) :=
  [(2, { k := .int .i64, size := 1, bytes := 8, zero := .int .i64 0 }),
   (3, { k := .int .i64, size := 1, bytes := 8, zero := .int .i64 0 }),
   (4, { k := .bool, size := 1, bytes := 1, zero := .bool false }),
   (5, { k := .int .u8, size := 1, bytes := 1, zero := .int .u8 0 }),
   (6, { k := .int .u8, size := 1, bytes := 1, zero := .int .u8 0 }),
   (7, { k := .struct [(2, 0), (3, 1), (4, 2), (6, 3)], size := 4, bytes := 24, zero := .agg #[.int .i64 0, .int .i64 0, .bool false, .int .u8 0] }),
   (8, { k := .struct [(2, 0), (3, 1), (4, 2), (6, 3)], size := 4, bytes := 24, zero := .agg #[.int .i64 0, .int .i64 0, .bool false, .int .u8 0] }),
   (9, { k := .str, size := 1, bytes := 16, zero := .string ⟨#[]⟩ }),
   (10, { k := .str, size := 1, bytes := 16, zero := .string ⟨#[]⟩ }),
   (11, { k := .str, size := 1, bytes := 16, zero := .string ⟨#[]⟩ }),
   (12, { k := .int .u64, size := 1, bytes := 8, zero := .int .u64 0 }),
   (13, { k := .struct [(9, 0), (12, 1)], size := 2, bytes := 24, zero := .agg #[.string ⟨#[]⟩, .int .u64 0] }),
   (14, { k := .struct [(9, 0), (12, 1)], size := 2, bytes := 24, zero := .agg #[.string ⟨#[]⟩, .int .u64 0] }),
   (18, { k := .struct [(17, 0)], size := 1, bytes := 8, zero := .agg #[.pointer none] }),
   (19, { k := .struct [(17, 0)], size := 1, bytes := 8, zero := .agg #[.pointer none] }),
   (21, { k := .int .i32, size := 1, bytes := 4, zero := .int .i32 0 }),
   (22, { k := .int .i64, size := 1, bytes := 8, zero := .int .i64 0 }),
   (26, { k := .sl 29, size := 1, bytes := 24, zero := .slice none 0 0 }),
   (27, { k := .sl 9, size := 1, bytes := 24, zero := .slice none 0 0 }),
   (28, { k := .struct [(3, 0), (4, 1), (3, 2), (9, 3), (26, 4), (27, 5)], size := 6, bytes := 88, zero := .agg #[.int .i64 0, .bool false, .int .i64 0, .string ⟨#[]⟩, .slice none 0 0, .slice none 0 0] }),
   (29, { k := .struct [(3, 0), (4, 1), (3, 2), (9, 3), (26, 4), (27, 5)], size := 6, bytes := 88, zero := .agg #[.int .i64 0, .bool false, .int .i64 0, .string ⟨#[]⟩, .slice none 0 0, .slice none 0 0] }),
   (35, { k := .sl 37, size := 1, bytes := 24, zero := .slice none 0 0 }),
   (36, { k := .struct [(3, 0), (9, 1), (29, 2), (35, 8)], size := 9, bytes := 136, zero := .agg #[.int .i64 0, .string ⟨#[]⟩, .int .i64 0, .bool false, .int .i64 0, .string ⟨#[]⟩, .slice none 0 0, .slice none 0 0, .slice none 0 0] }),
   (37, { k := .struct [(3, 0), (9, 1), (29, 2), (35, 8)], size := 9, bytes := 136, zero := .agg #[.int .i64 0, .string ⟨#[]⟩, .int .i64 0, .bool false, .int .i64 0, .string ⟨#[]⟩, .slice none 0 0, .slice none 0 0, .slice none 0 0] }),
   (40, { k := .sl 70, size := 1, bytes := 24, zero := .slice none 0 0 }),
   (41, { k := .struct [(40, 0)], size := 1, bytes := 24, zero := .agg #[.slice none 0 0] }),
   (42, { k := .struct [(40, 0)], size := 1, bytes := 24, zero := .agg #[.slice none 0 0] }),
   (50, { k := .sl 5, size := 1, bytes := 24, zero := .slice none 0 0 }),
   (68, { k := .sl 115, size := 1, bytes := 24, zero := .slice none 0 0 }),
   (69, { k := .struct [(3, 0), (9, 1), (68, 2)], size := 3, bytes := 48, zero := .agg #[.int .i64 0, .string ⟨#[]⟩, .slice none 0 0] }),
   (70, { k := .struct [(3, 0), (9, 1), (68, 2)], size := 3, bytes := 48, zero := .agg #[.int .i64 0, .string ⟨#[]⟩, .slice none 0 0] }),
   (86, { k := .int .u32, size := 1, bytes := 4, zero := .int .u32 0 }),
   (89, { k := .struct [(21, 0), (86, 1)], size := 2, bytes := 8, zero := .agg #[.int .i32 0, .int .u32 0] }),
   (90, { k := .struct [(21, 0), (86, 1)], size := 2, bytes := 8, zero := .agg #[.int .i32 0, .int .u32 0] }),
   (97, { k := .struct [(94, 0), (96, 3), (27, 4)], size := 5, bytes := 56, zero := .agg #[.int .u32 0, .int .i32 0, .int .u32 0, .nilIface, .slice none 0 0] }),
   (98, { k := .struct [(94, 0), (96, 3), (27, 4)], size := 5, bytes := 56, zero := .agg #[.int .u32 0, .int .i32 0, .int .u32 0, .nilIface, .slice none 0 0] }),
   (114, { k := .struct [(9, 0), (3, 1), (3, 2), (40, 3)], size := 4, bytes := 56, zero := .agg #[.string ⟨#[]⟩, .int .i64 0, .int .i64 0, .slice none 0 0] }),
   (115, { k := .struct [(9, 0), (3, 1), (3, 2), (40, 3)], size := 4, bytes := 56, zero := .agg #[.string ⟨#[]⟩, .int .i64 0, .int .i64 0, .slice none 0 0] }),
   (120, { k := .int .u64, size := 1, bytes := 8, zero := .int .u64 0 }),
   (134, { k := .struct [(133, 0), (50, 1)], size := 2, bytes := 32, zero := .agg #[.pointer none, .slice none 0 0] }),
   (135, { k := .struct [(133, 0), (50, 1)], size := 2, bytes := 32, zero := .agg #[.pointer none, .slice none 0 0] }),
   (151, { k := .struct [(9, 0), (3, 1), (3, 2)], size := 3, bytes := 32, zero := .agg #[.string ⟨#[]⟩, .int .i64 0, .int .i64 0] }),
   (152, { k := .struct [(9, 0), (3, 1), (3, 2)], size := 3, bytes := 32, zero := .agg #[.string ⟨#[]⟩, .int .i64 0, .int .i64 0] }),
   (156, { k := .struct [(70, 0)], size := 3, bytes := 48, zero := .agg #[.int .i64 0, .string ⟨#[]⟩, .slice none 0 0] }),
   (157, { k := .struct [(70, 0)], size := 3, bytes := 48, zero := .agg #[.int .i64 0, .string ⟨#[]⟩, .slice none 0 0] }),
   (161, { k := .int .i64, size := 1, bytes := 8, zero := .int .i64 0 }),
   (170, { k := .int .u64, size := 1, bytes := 8, zero := .int .u64 0 }),
   (191, { k := .int .i64, size := 1, bytes := 8, zero := .int .i64 0 }),
   (199, { k := .struct [(9, 0)], size := 1, bytes := 16, zero := .agg #[.string ⟨#[]⟩] }),
   (200, { k := .struct [(9, 0)], size := 1, bytes := 16, zero := .agg #[.string ⟨#[]⟩] }),
   (202, { k := .int .u64, size := 1, bytes := 8, zero := .int .u64 0 }),
   (214, { k := .struct [(212, 0), (9, 1)], size := 2, bytes := 24, zero := .agg #[.pointer none, .string ⟨#[]⟩] }),
   (215, { k := .struct [(212, 0), (9, 1)], size := 2, bytes := 24, zero := .agg #[.pointer none, .string ⟨#[]⟩] }),
   (217, { k := .sl 216, size := 1, bytes := 24, zero := .slice none 0 0 }),
   (218, { k := .struct [(9, 0), (3, 1), (9, 2), (216, 3), (217, 4)], size := 5, bytes := 72, zero := .agg #[.string ⟨#[]⟩, .int .i64 0, .string ⟨#[]⟩, .pointer none, .slice none 0 0] }),
   (219, { k := .struct [(9, 0), (3, 1), (9, 2), (216, 3), (217, 4)], size := 5, bytes := 72, zero := .agg #[.string ⟨#[]⟩, .int .i64 0, .string ⟨#[]⟩, .pointer none, .slice none 0 0] }),
   (223, { k := .arr 24 5, size := 24, bytes := 24, zero := .agg #[.int .u8 0, .int .u8 0, .int .u8 0, .int .u8 0, .int .u8 0, .int .u8 0, .int .u8 0, .int .u8 0, .int .u8 0, .int .u8 0, .int .u8 0, .int .u8 0, .int .u8 0, .int .u8 0, .int .u8 0, .int .u8 0, .int .u8 0, .int .u8 0, .int .u8 0, .int .u8 0, .int .u8 0, .int .u8 0, .int .u8 0, .int .u8 0] }),
   (233, { k := .sl 259, size := 1, bytes := 24, zero := .slice none 0 0 }),
   (242, { k := .struct [(5, 0), (5, 1)], size := 2, bytes := 2, zero := .agg #[.int .u8 0, .int .u8 0] }),
   (243, { k := .struct [(5, 0), (5, 1)], size := 2, bytes := 2, zero := .agg #[.int .u8 0, .int .u8 0] }),
   (244, { k := .arr 16 243, size := 32, bytes := 32, zero := .agg #[.int .u8 0, .int .u8 0, .int .u8 0, .int .u8 0, .int .u8 0, .int .u8 0, .int .u8 0, .int .u8 0, .int .u8 0, .int .u8 0, .int .u8 0, .int .u8 0, .int .u8 0, .int .u8 0, .int .u8 0, .int .u8 0, .int .u8 0, .int .u8 0, .int .u8 0, .int .u8 0, .int .u8 0, .int .u8 0, .int .u8 0, .int .u8 0, .int .u8 0, .int .u8 0, .int .u8 0, .int .u8 0, .int .u8 0, .int .u8 0, .int .u8 0, .int .u8 0] }),
   (251, { k := .sl 3, size := 1, bytes := 24, zero := .slice none 0 0 }),
   (256, { k := .arr 20 170, size := 20, bytes := 160, zero := .agg #[.int .u64 0, .int .u64 0, .int .u64 0, .int .u64 0, .int .u64 0, .int .u64 0, .int .u64 0, .int .u64 0, .int .u64 0, .int .u64 0, .int .u64 0, .int .u64 0, .int .u64 0, .int .u64 0, .int .u64 0, .int .u64 0, .int .u64 0, .int .u64 0, .int .u64 0, .int .u64 0] }),
   (258, { k := .struct [(9, 0), (3, 1)], size := 2, bytes := 24, zero := .agg #[.string ⟨#[]⟩, .int .i64 0] }),
   (259, { k := .struct [(9, 0), (3, 1)], size := 2, bytes := 24, zero := .agg #[.string ⟨#[]⟩, .int .i64 0] }),
   (263, { k := .arr 32 5, size := 32, bytes := 32, zero := .agg #[.int .u8 0, .int .u8 0, .int .u8 0, .int .u8 0, .int .u8 0, .int .u8 0, .int .u8 0, .int .u8 0, .int .u8 0, .int .u8 0, .int .u8 0, .int .u8 0, .int .u8 0, .int .u8 0, .int .u8 0, .int .u8 0, .int .u8 0, .int .u8 0, .int .u8 0, .int .u8 0, .int .u8 0, .int .u8 0, .int .u8 0, .int .u8 0, .int .u8 0, .int .u8 0, .int .u8 0, .int .u8 0, .int .u8 0, .int .u8 0, .int .u8 0, .int .u8 0] }),
   (265, { k := .struct [(17, 0), (17, 1), (17, 2), (9, 3)], size := 4, bytes := 40, zero := .agg #[.pointer none, .pointer none, .pointer none, .string ⟨#[]⟩] }),
   (266, { k := .struct [(17, 0), (17, 1), (17, 2), (9, 3)], size := 4, bytes := 40, zero := .agg #[.pointer none, .pointer none, .pointer none, .string ⟨#[]⟩] }),
   (271, { k := .int .u8, size := 1, bytes := 1, zero := .int .u8 0 }),
   (272, { k := .int .u8, size := 1, bytes := 1, zero := .int .u8 0 }),
   (274, { k := .int .i32, size := 1, bytes := 4, zero := .int .i32 0 }),
   (275, { k := .int .i32, size := 1, bytes := 4, zero := .int .i32 0 }),
   (276, { k := .struct [(12, 0), (12, 1), (86, 2), (271, 3), (5, 4), (5, 5), (272, 6), (273, 7), (193, 8), (274, 9), (275, 10)], size := 11, bytes := 48, zero := .agg #[.int .u64 0, .int .u64 0, .int .u32 0, .int .u8 0, .int .u8 0, .int .u8 0, .int .u8 0, .nilFunc, .pointer none, .int .i32 0, .int .i32 0] }),
   (277, { k := .struct [(12, 0), (12, 1), (86, 2), (271, 3), (5, 4), (5, 5), (272, 6), (273, 7), (193, 8), (274, 9), (275, 10)], size := 11, bytes := 48, zero := .agg #[.int .u64 0, .int .u64 0, .int .u32 0, .int .u8 0, .int .u8 0, .int .u8 0, .int .u8 0, .nilFunc, .pointer none, .int .i32 0, .int .i32 0] }),
   (280, { k := .sl 5, size := 1, bytes := 24, zero := .slice none 0 0 }),
   (290, { k := .struct [(283, 0)], size := 1, bytes := 16, zero := .agg #[.nilIface] }),
   (291, { k := .struct [(283, 0)], size := 1, bytes := 16, zero := .agg #[.nilIface] }),
   (1, { k := .func, size := 1, bytes := 8, zero := .nilFunc }),
   (15, { k := .ptr, size := 1, bytes := 8, zero := .pointer none }),
   (16, { k := .ptr, size := 1, bytes := 8, zero := .pointer none }),
   (17, { k := .ptr, size := 1, bytes := 8, zero := .pointer none }),
   (20, { k := .ifc, size := 1, bytes := 16, zero := .nilIface }),
   (23, { k := .func, size := 1, bytes := 8, zero := .nilFunc }),
   (24, { k := .func, size := 1, bytes := 8, zero := .nilFunc }),
   (25, { k := .func, size := 1, bytes := 8, zero := .nilFunc }),
   (31, { k := .func, size := 1, bytes := 8, zero := .nilFunc }),
   (32, { k := .func, size := 1, bytes := 8, zero := .nilFunc }),
   (33, { k := .func, size := 1, bytes := 8, zero := .nilFunc }),
   (34, { k := .func, size := 1, bytes := 8, zero := .nilFunc }),
   (38, { k := .func, size := 1, bytes := 8, zero := .nilFunc }),
   (39, { k := .func, size := 1, bytes := 8, zero := .nilFunc }),
   (43, { k := .func, size := 1, bytes := 8, zero := .nilFunc }),
   (45, { k := .func, size := 1, bytes := 8, zero := .nilFunc }),
   (46, { k := .func, size := 1, bytes := 8, zero := .nilFunc }),
   (47, { k := .func, size := 1, bytes := 8, zero := .nilFunc }),
   (48, { k := .func, size := 1, bytes := 8, zero := .nilFunc }),
   (49, { k := .func, size := 1, bytes := 8, zero := .nilFunc }),
   (51, { k := .func, size := 1, bytes := 8, zero := .nilFunc }),
   (52, { k := .func, size := 1, bytes := 8, zero := .nilFunc }),
   (53, { k := .ptr, size := 1, bytes := 8, zero := .pointer none }),
   (54, { k := .func, size := 1, bytes := 8, zero := .nilFunc }),
   (55, { k := .func, size := 1, bytes := 8, zero := .nilFunc }),
   (56, { k := .func, size := 1, bytes := 8, zero := .nilFunc }),
   (57, { k := .func, size := 1, bytes := 8, zero := .nilFunc }),
   (59, { k := .func, size := 1, bytes := 8, zero := .nilFunc }),
   (61, { k := .func, size := 1, bytes := 8, zero := .nilFunc }),
   (62, { k := .func, size := 1, bytes := 8, zero := .nilFunc }),
   (63, { k := .func, size := 1, bytes := 8, zero := .nilFunc }),
   (64, { k := .func, size := 1, bytes := 8, zero := .nilFunc }),
   (65, { k := .func, size := 1, bytes := 8, zero := .nilFunc }),
   (66, { k := .func, size := 1, bytes := 8, zero := .nilFunc }),
   (67, { k := .func, size := 1, bytes := 8, zero := .nilFunc }),
   (71, { k := .func, size := 1, bytes := 8, zero := .nilFunc }),
   (72, { k := .func, size := 1, bytes := 8, zero := .nilFunc }),
   (73, { k := .func, size := 1, bytes := 8, zero := .nilFunc }),
   (74, { k := .func, size := 1, bytes := 8, zero := .nilFunc }),
   (75, { k := .func, size := 1, bytes := 8, zero := .nilFunc }),
   (76, { k := .func, size := 1, bytes := 8, zero := .nilFunc }),
   (80, { k := .func, size := 1, bytes := 8, zero := .nilFunc }),
   (81, { k := .func, size := 1, bytes := 8, zero := .nilFunc }),
   (82, { k := .ptr, size := 1, bytes := 8, zero := .pointer none }),
   (95, { k := .ifc, size := 1, bytes := 16, zero := .nilIface }),
   (96, { k := .ifc, size := 1, bytes := 16, zero := .nilIface }),
   (99, { k := .func, size := 1, bytes := 8, zero := .nilFunc }),
   (100, { k := .func, size := 1, bytes := 8, zero := .nilFunc }),
   (101, { k := .func, size := 1, bytes := 8, zero := .nilFunc }),
   (102, { k := .func, size := 1, bytes := 8, zero := .nilFunc }),
   (103, { k := .func, size := 1, bytes := 8, zero := .nilFunc }),
   (104, { k := .map .int 3 9, size := 1, bytes := 8, zero := .map none }),
   (105, { k := .func, size := 1, bytes := 8, zero := .nilFunc }),
   (106, { k := .func, size := 1, bytes := 8, zero := .nilFunc }),
   (108, { k := .func, size := 1, bytes := 8, zero := .nilFunc }),
   (109, { k := .func, size := 1, bytes := 8, zero := .nilFunc }),
   (110, { k := .func, size := 1, bytes := 8, zero := .nilFunc }),
   (111, { k := .func, size := 1, bytes := 8, zero := .nilFunc }),
   (112, { k := .func, size := 1, bytes := 8, zero := .nilFunc }),
   (113, { k := .func, size := 1, bytes := 8, zero := .nilFunc }),
   (116, { k := .func, size := 1, bytes := 8, zero := .nilFunc }),
   (117, { k := .func, size := 1, bytes := 8, zero := .nilFunc }),
   (118, { k := .func, size := 1, bytes := 8, zero := .nilFunc }),
   (119, { k := .func, size := 1, bytes := 8, zero := .nilFunc }),
   (121, { k := .func, size := 1, bytes := 8, zero := .nilFunc }),
   (122, { k := .func, size := 1, bytes := 8, zero := .nilFunc }),
   (123, { k := .func, size := 1, bytes := 8, zero := .nilFunc }),
   (125, { k := .func, size := 1, bytes := 8, zero := .nilFunc }),
   (126, { k := .func, size := 1, bytes := 8, zero := .nilFunc }),
   (127, { k := .ptr, size := 1, bytes := 8, zero := .pointer none }),
   (128, { k := .func, size := 1, bytes := 8, zero := .nilFunc }),
   (129, { k := .func, size := 1, bytes := 8, zero := .nilFunc }),
   (131, { k := .func, size := 1, bytes := 8, zero := .nilFunc }),
   (132, { k := .func, size := 1, bytes := 8, zero := .nilFunc }),
   (133, { k := .ptr, size := 1, bytes := 8, zero := .pointer none }),
   (136, { k := .func, size := 1, bytes := 8, zero := .nilFunc }),
   (137, { k := .ifc, size := 1, bytes := 16, zero := .nilIface }),
   (138, { k := .ifc, size := 1, bytes := 16, zero := .nilIface }),
   (140, { k := .func, size := 1, bytes := 8, zero := .nilFunc }),
   (141, { k := .func, size := 1, bytes := 8, zero := .nilFunc }),
   (142, { k := .func, size := 1, bytes := 8, zero := .nilFunc }),
   (143, { k := .func, size := 1, bytes := 8, zero := .nilFunc }),
   (144, { k := .func, size := 1, bytes := 8, zero := .nilFunc }),
   (146, { k := .func, size := 1, bytes := 8, zero := .nilFunc }),
   (147, { k := .func, size := 1, bytes := 8, zero := .nilFunc }),
   (148, { k := .func, size := 1, bytes := 8, zero := .nilFunc }),
   (149, { k := .func, size := 1, bytes := 8, zero := .nilFunc }),
   (153, { k := .ifc, size := 1, bytes := 16, zero := .nilIface }),
   (154, { k := .ifc, size := 1, bytes := 16, zero := .nilIface }),
   (155, { k := .func, size := 1, bytes := 8, zero := .nilFunc }),
   (158, { k := .func, size := 1, bytes := 8, zero := .nilFunc }),
   (159, { k := .func, size := 1, bytes := 8, zero := .nilFunc }),
   (160, { k := .func, size := 1, bytes := 8, zero := .nilFunc }),
   (163, { k := .func, size := 1, bytes := 8, zero := .nilFunc }),
   (164, { k := .func, size := 1, bytes := 8, zero := .nilFunc }),
   (165, { k := .func, size := 1, bytes := 8, zero := .nilFunc }),
   (167, { k := .func, size := 1, bytes := 8, zero := .nilFunc }),
   (168, { k := .func, size := 1, bytes := 8, zero := .nilFunc }),
   (169, { k := .func, size := 1, bytes := 8, zero := .nilFunc }),
   (171, { k := .func, size := 1, bytes := 8, zero := .nilFunc }),
   (172, { k := .func, size := 1, bytes := 8, zero := .nilFunc }),
   (173, { k := .func, size := 1, bytes := 8, zero := .nilFunc }),
   (174, { k := .ptr, size := 1, bytes := 8, zero := .pointer none }),
   (175, { k := .func, size := 1, bytes := 8, zero := .nilFunc }),
   (176, { k := .ptr, size := 1, bytes := 8, zero := .pointer none }),
   (177, { k := .func, size := 1, bytes := 8, zero := .nilFunc }),
   (178, { k := .ptr, size := 1, bytes := 8, zero := .pointer none }),
   (179, { k := .func, size := 1, bytes := 8, zero := .nilFunc }),
   (180, { k := .ptr, size := 1, bytes := 8, zero := .pointer none }),
   (181, { k := .func, size := 1, bytes := 8, zero := .nilFunc }),
   (184, { k := .ptr, size := 1, bytes := 8, zero := .pointer none }),
   (188, { k := .ptr, size := 1, bytes := 8, zero := .pointer none }),
   (189, { k := .func, size := 1, bytes := 8, zero := .nilFunc }),
   (190, { k := .func, size := 1, bytes := 8, zero := .nilFunc }),
   (192, { k := .func, size := 1, bytes := 8, zero := .nilFunc }),
   (193, { k := .ptr, size := 1, bytes := 8, zero := .pointer none }),
   (194, { k := .func, size := 1, bytes := 8, zero := .nilFunc }),
   (195, { k := .func, size := 1, bytes := 8, zero := .nilFunc }),
   (196, { k := .func, size := 1, bytes := 8, zero := .nilFunc }),
   (197, { k := .func, size := 1, bytes := 8, zero := .nilFunc }),
   (198, { k := .func, size := 1, bytes := 8, zero := .nilFunc }),
   (203, { k := .func, size := 1, bytes := 8, zero := .nilFunc }),
   (204, { k := .func, size := 1, bytes := 8, zero := .nilFunc }),
   (205, { k := .func, size := 1, bytes := 8, zero := .nilFunc }),
   (206, { k := .ptr, size := 1, bytes := 8, zero := .pointer none }),
   (207, { k := .func, size := 1, bytes := 8, zero := .nilFunc }),
   (208, { k := .func, size := 1, bytes := 8, zero := .nilFunc }),
   (209, { k := .ptr, size := 1, bytes := 8, zero := .pointer none }),
   (210, { k := .func, size := 1, bytes := 8, zero := .nilFunc }),
   (211, { k := .func, size := 1, bytes := 8, zero := .nilFunc }),
   (212, { k := .ptr, size := 1, bytes := 8, zero := .pointer none }),
   (213, { k := .func, size := 1, bytes := 8, zero := .nilFunc }),
   (216, { k := .ptr, size := 1, bytes := 8, zero := .pointer none }),
   (222, { k := .func, size := 1, bytes := 8, zero := .nilFunc }),
   (224, { k := .func, size := 1, bytes := 8, zero := .nilFunc }),
   (226, { k := .func, size := 1, bytes := 8, zero := .nilFunc }),
   (227, { k := .func, size := 1, bytes := 8, zero := .nilFunc }),
   (229, { k := .func, size := 1, bytes := 8, zero := .nilFunc }),
   (230, { k := .func, size := 1, bytes := 8, zero := .nilFunc }),
   (232, { k := .func, size := 1, bytes := 8, zero := .nilFunc }),
   (235, { k := .func, size := 1, bytes := 8, zero := .nilFunc }),
   (236, { k := .func, size := 1, bytes := 8, zero := .nilFunc }),
   (237, { k := .func, size := 1, bytes := 8, zero := .nilFunc }),
   (238, { k := .func, size := 1, bytes := 8, zero := .nilFunc }),
   (239, { k := .func, size := 1, bytes := 8, zero := .nilFunc }),
   (240, { k := .ptr, size := 1, bytes := 8, zero := .pointer none }),
   (241, { k := .func, size := 1, bytes := 8, zero := .nilFunc }),
   (245, { k := .ptr, size := 1, bytes := 8, zero := .pointer none }),
   (246, { k := .func, size := 1, bytes := 8, zero := .nilFunc }),
   (247, { k := .ptr, size := 1, bytes := 8, zero := .pointer none }),
   (248, { k := .func, size := 1, bytes := 8, zero := .nilFunc }),
   (249, { k := .func, size := 1, bytes := 8, zero := .nilFunc }),
   (250, { k := .func, size := 1, bytes := 8, zero := .nilFunc }),
   (255, { k := .func, size := 1, bytes := 8, zero := .nilFunc }),
   (260, { k := .func, size := 1, bytes := 8, zero := .nilFunc }),
   (261, { k := .func, size := 1, bytes := 8, zero := .nilFunc }),
   (262, { k := .func, size := 1, bytes := 8, zero := .nilFunc }),
   (270, { k := .func, size := 1, bytes := 8, zero := .nilFunc }),
   (273, { k := .func, size := 1, bytes := 8, zero := .nilFunc }),
   (278, { k := .func, size := 1, bytes := 8, zero := .nilFunc }),
   (279, { k := .func, size := 1, bytes := 8, zero := .nilFunc }),
   (281, { k := .ptr, size := 1, bytes := 8, zero := .pointer none }),
   (282, { k := .ifc, size := 1, bytes := 16, zero := .nilIface }),
   (283, { k := .ifc, size := 1, bytes := 16, zero := .nilIface }),
   (284, { k := .ifc, size := 1, bytes := 16, zero := .nilIface }),
   (285, { k := .ifc, size := 1, bytes := 16, zero := .nilIface }),
   (286, { k := .func, size := 1, bytes := 8, zero := .nilFunc }),
   (288, { k := .func, size := 1, bytes := 8, zero := .nilFunc }),
   (292, { k := .func, size := 1, bytes := 8, zero := .nilFunc })]
def tyT (t : TypeId) : TyI := match findB tyTab t with | some i => i | none => { k := .other, size := 0, bytes := 0, zero := .bool false }
theorem ty_info {P : Program} {t : TypeId} {s b : Nat} {z : Value} (h : (P.info? t).map (fun i => (i.size, i.bytes, i.zero)) = some (s, b, some z)) : ∃ j, P.info? t = some j ∧ j.size = s ∧ j.bytes = b ∧ j.zero = some z := by
  cases hi : P.info? t with
  | none => rw [hi] at h; cases h
  | some j =>
    rw [hi] at h
    simp only [Option.map_some, Option.some.injEq, Prod.mk.injEq] at h
    exact ⟨j, rfl, h.1, h.2.1, h.2.2⟩
theorem int_wf {n : Int} (h1 : -9223372036854775808 ≤ n) (h2 : n ≤ 9223372036854775807) : (Lit.int .i64 n).wf = true := by
  simp only [Lit.wf, Bool.and_eq_true, decide_eq_true_eq]
  exact ⟨h1, h2⟩
theorem ty_has {P : Program} {t : TypeId} (h : (P.info? t).map (fun i => i.size != 0) = some true) : ∃ i, P.info? t = some i ∧ i.size ≠ 0 := by
  cases hi : P.info? t with
  | none => rw [hi] at h; cases h
  | some j =>
    rw [hi] at h
    exact ⟨j, rfl, by simpa using h⟩
theorem tyOk2 : TyOk Tryz.prog 2 { k := .int .i64, size := 1, bytes := 8, zero := .int .i64 0 } :=
  ⟨Tryz.underlying2, by decide, by decide, by decide, by decide, by decide, ty_info (by kernel_rfl)⟩
theorem tyOk3 : TyOk Tryz.prog 3 { k := .int .i64, size := 1, bytes := 8, zero := .int .i64 0 } :=
  ⟨Tryz.underlying3, by decide, by decide, by decide, by decide, by decide, ty_info (by kernel_rfl)⟩
theorem tyOk4 : TyOk Tryz.prog 4 { k := .bool, size := 1, bytes := 1, zero := .bool false } :=
  ⟨Tryz.underlying4, by decide, by decide, by decide, by decide, by decide, ty_info (by kernel_rfl)⟩
theorem tyOk5 : TyOk Tryz.prog 5 { k := .int .u8, size := 1, bytes := 1, zero := .int .u8 0 } :=
  ⟨Tryz.underlying5, by decide, by decide, by decide, by decide, by decide, ty_info (by kernel_rfl)⟩
theorem tyOk6 : TyOk Tryz.prog 6 { k := .int .u8, size := 1, bytes := 1, zero := .int .u8 0 } :=
  ⟨Tryz.underlying6, by decide, by decide, by decide, by decide, by decide, ty_info (by kernel_rfl)⟩
theorem tyOk7 : TyOk Tryz.prog 7 { k := .struct [(2, 0), (3, 1), (4, 2), (6, 3)], size := 4, bytes := 24, zero := .agg #[.int .i64 0, .int .i64 0, .bool false, .int .u8 0] } :=
  ⟨⟨_, Tryz.underlying7, rfl, by
      intro F hF
      simp only [List.mem_cons, List.not_mem_nil, or_false] at hF
      rcases hF with rfl | rfl | rfl | rfl
      · exact ty_has (by kernel_rfl)
      · exact ty_has (by kernel_rfl)
      · exact ty_has (by kernel_rfl)
      · exact ty_has (by kernel_rfl)⟩, by decide, by decide, by decide, by decide, by decide, ty_info (by kernel_rfl)⟩
theorem tyOk8 : TyOk Tryz.prog 8 { k := .struct [(2, 0), (3, 1), (4, 2), (6, 3)], size := 4, bytes := 24, zero := .agg #[.int .i64 0, .int .i64 0, .bool false, .int .u8 0] } :=
  ⟨⟨_, Tryz.underlying8, rfl, by
      intro F hF
      simp only [List.mem_cons, List.not_mem_nil, or_false] at hF
      rcases hF with rfl | rfl | rfl | rfl
      · exact ty_has (by kernel_rfl)
      · exact ty_has (by kernel_rfl)
      · exact ty_has (by kernel_rfl)
      · exact ty_has (by kernel_rfl)⟩, by decide, by decide, by decide, by decide, by decide, ty_info (by kernel_rfl)⟩
theorem tyOk9 : TyOk Tryz.prog 9 { k := .str, size := 1, bytes := 16, zero := .string ⟨#[]⟩ } :=
  ⟨Tryz.underlying9, by decide, by decide, by decide, by decide, by decide, ty_info (by kernel_rfl)⟩
theorem tyOk10 : TyOk Tryz.prog 10 { k := .str, size := 1, bytes := 16, zero := .string ⟨#[]⟩ } :=
  ⟨Tryz.underlying10, by decide, by decide, by decide, by decide, by decide, ty_info (by kernel_rfl)⟩
theorem tyOk11 : TyOk Tryz.prog 11 { k := .str, size := 1, bytes := 16, zero := .string ⟨#[]⟩ } :=
  ⟨Tryz.underlying11, by decide, by decide, by decide, by decide, by decide, ty_info (by kernel_rfl)⟩
theorem tyOk12 : TyOk Tryz.prog 12 { k := .int .u64, size := 1, bytes := 8, zero := .int .u64 0 } :=
  ⟨Tryz.underlying12, by decide, by decide, by decide, by decide, by decide, ty_info (by kernel_rfl)⟩
theorem tyOk13 : TyOk Tryz.prog 13 { k := .struct [(9, 0), (12, 1)], size := 2, bytes := 24, zero := .agg #[.string ⟨#[]⟩, .int .u64 0] } :=
  ⟨⟨_, Tryz.underlying13, rfl, by
      intro F hF
      simp only [List.mem_cons, List.not_mem_nil, or_false] at hF
      rcases hF with rfl | rfl
      · exact ty_has (by kernel_rfl)
      · exact ty_has (by kernel_rfl)⟩, by decide, by decide, by decide, by decide, by decide, ty_info (by kernel_rfl)⟩
theorem tyOk14 : TyOk Tryz.prog 14 { k := .struct [(9, 0), (12, 1)], size := 2, bytes := 24, zero := .agg #[.string ⟨#[]⟩, .int .u64 0] } :=
  ⟨⟨_, Tryz.underlying14, rfl, by
      intro F hF
      simp only [List.mem_cons, List.not_mem_nil, or_false] at hF
      rcases hF with rfl | rfl
      · exact ty_has (by kernel_rfl)
      · exact ty_has (by kernel_rfl)⟩, by decide, by decide, by decide, by decide, by decide, ty_info (by kernel_rfl)⟩
theorem tyOk18 : TyOk Tryz.prog 18 { k := .struct [(17, 0)], size := 1, bytes := 8, zero := .agg #[.pointer none] } :=
  ⟨⟨_, Tryz.underlying18, rfl, by
      intro F hF
      simp only [List.mem_cons, List.not_mem_nil, or_false] at hF
      rcases hF with rfl
      · exact ty_has (by kernel_rfl)⟩, by decide, by decide, by decide, by decide, by decide, ty_info (by kernel_rfl)⟩
theorem tyOk19 : TyOk Tryz.prog 19 { k := .struct [(17, 0)], size := 1, bytes := 8, zero := .agg #[.pointer none] } :=
  ⟨⟨_, Tryz.underlying19, rfl, by
      intro F hF
      simp only [List.mem_cons, List.not_mem_nil, or_false] at hF
      rcases hF with rfl
      · exact ty_has (by kernel_rfl)⟩, by decide, by decide, by decide, by decide, by decide, ty_info (by kernel_rfl)⟩
theorem tyOk21 : TyOk Tryz.prog 21 { k := .int .i32, size := 1, bytes := 4, zero := .int .i32 0 } :=
  ⟨Tryz.underlying21, by decide, by decide, by decide, by decide, by decide, ty_info (by kernel_rfl)⟩
theorem tyOk22 : TyOk Tryz.prog 22 { k := .int .i64, size := 1, bytes := 8, zero := .int .i64 0 } :=
  ⟨Tryz.underlying22, by decide, by decide, by decide, by decide, by decide, ty_info (by kernel_rfl)⟩
theorem tyOk26 : TyOk Tryz.prog 26 { k := .sl 29, size := 1, bytes := 24, zero := .slice none 0 0 } :=
  ⟨Tryz.underlying26, by decide, by decide, by decide, by decide, by decide, ty_info (by kernel_rfl)⟩
theorem tyOk27 : TyOk Tryz.prog 27 { k := .sl 9, size := 1, bytes := 24, zero := .slice none 0 0 } :=
  ⟨Tryz.underlying27, by decide, by decide, by decide, by decide, by decide, ty_info (by kernel_rfl)⟩
theorem tyOk28 : TyOk Tryz.prog 28 { k := .struct [(3, 0), (4, 1), (3, 2), (9, 3), (26, 4), (27, 5)], size := 6, bytes := 88, zero := .agg #[.int .i64 0, .bool false, .int .i64 0, .string ⟨#[]⟩, .slice none 0 0, .slice none 0 0] } :=
  ⟨⟨_, Tryz.underlying28, rfl, by
      intro F hF
      simp only [List.mem_cons, List.not_mem_nil, or_false] at hF
      rcases hF with rfl | rfl | rfl | rfl | rfl | rfl
      · exact ty_has (by kernel_rfl)
      · exact ty_has (by kernel_rfl)
      · exact ty_has (by kernel_rfl)
      · exact ty_has (by kernel_rfl)
      · exact ty_has (by kernel_rfl)
      · exact ty_has (by kernel_rfl)⟩, by decide, by decide, by decide, by decide, by decide, ty_info (by kernel_rfl)⟩
theorem tyOk29 : TyOk Tryz.prog 29 { k := .struct [(3, 0), (4, 1), (3, 2), (9, 3), (26, 4), (27, 5)], size := 6, bytes := 88, zero := .agg #[.int .i64 0, .bool false, .int .i64 0, .string ⟨#[]⟩, .slice none 0 0, .slice none 0 0] } :=
  ⟨⟨_, Tryz.underlying29, rfl, by
      intro F hF
      simp only [List.mem_cons, List.not_mem_nil, or_false] at hF
      rcases hF with rfl | rfl | rfl | rfl | rfl | rfl
      · exact ty_has (by kernel_rfl)
      · exact ty_has (by kernel_rfl)
      · exact ty_has (by kernel_rfl)
      · exact ty_has (by kernel_rfl)
      · exact ty_has (by kernel_rfl)
      · exact ty_has (by kernel_rfl)⟩, by decide, by decide, by decide, by decide, by decide, ty_info (by kernel_rfl)⟩
theorem tyOk35 : TyOk Tryz.prog 35 { k := .sl 37, size := 1, bytes := 24, zero := .slice none 0 0 } :=
  ⟨Tryz.underlying35, by decide, by decide, by decide, by decide, by decide, ty_info (by kernel_rfl)⟩
theorem tyOk36 : TyOk Tryz.prog 36 { k := .struct [(3, 0), (9, 1), (29, 2), (35, 8)], size := 9, bytes := 136, zero := .agg #[.int .i64 0, .string ⟨#[]⟩, .int .i64 0, .bool false, .int .i64 0, .string ⟨#[]⟩, .slice none 0 0, .slice none 0 0, .slice none 0 0] } :=
  ⟨⟨_, Tryz.underlying36, rfl, by
      intro F hF
      simp only [List.mem_cons, List.not_mem_nil, or_false] at hF
      rcases hF with rfl | rfl | rfl | rfl
      · exact ty_has (by kernel_rfl)
      · exact ty_has (by kernel_rfl)
      · exact ty_has (by kernel_rfl)
      · exact ty_has (by kernel_rfl)⟩, by decide, by decide, by decide, by decide, by decide, ty_info (by kernel_rfl)⟩
theorem tyOk37 : TyOk Tryz.prog 37 { k := .struct [(3, 0), (9, 1), (29, 2), (35, 8)], size := 9, bytes := 136, zero := .agg #[.int .i64 0, .string ⟨#[]⟩, .int .i64 0, .bool false, .int .i64 0, .string ⟨#[]⟩, .slice none 0 0, .slice none 0 0, .slice none 0 0] } :=
  ⟨⟨_, Tryz.underlying37, rfl, by
      intro F hF
      simp only [List.mem_cons, List.not_mem_nil, or_false] at hF
      rcases hF with rfl | rfl | rfl | rfl
      · exact ty_has (by kernel_rfl)
      · exact ty_has (by kernel_rfl)
      · exact ty_has (by kernel_rfl)
      · exact ty_has (by kernel_rfl)⟩, by decide, by decide, by decide, by decide, by decide, ty_info (by kernel_rfl)⟩
theorem tyOk40 : TyOk Tryz.prog 40 { k := .sl 70, size := 1, bytes := 24, zero := .slice none 0 0 } :=
  ⟨Tryz.underlying40, by decide, by decide, by decide, by decide, by decide, ty_info (by kernel_rfl)⟩
theorem tyOk41 : TyOk Tryz.prog 41 { k := .struct [(40, 0)], size := 1, bytes := 24, zero := .agg #[.slice none 0 0] } :=
  ⟨⟨_, Tryz.underlying41, rfl, by
      intro F hF
      simp only [List.mem_cons, List.not_mem_nil, or_false] at hF
      rcases hF with rfl
      · exact ty_has (by kernel_rfl)⟩, by decide, by decide, by decide, by decide, by decide, ty_info (by kernel_rfl)⟩
theorem tyOk42 : TyOk Tryz.prog 42 { k := .struct [(40, 0)], size := 1, bytes := 24, zero := .agg #[.slice none 0 0] } :=
  ⟨⟨_, Tryz.underlying42, rfl, by
      intro F hF
      simp only [List.mem_cons, List.not_mem_nil, or_false] at hF
      rcases hF with rfl
      · exact ty_has (by kernel_rfl)⟩, by decide, by decide, by decide, by decide, by decide, ty_info (by kernel_rfl)⟩
theorem tyOk50 : TyOk Tryz.prog 50 { k := .sl 5, size := 1, bytes := 24, zero := .slice none 0 0 } :=
  ⟨Tryz.underlying50, by decide, by decide, by decide, by decide, by decide, ty_info (by kernel_rfl)⟩
theorem tyOk68 : TyOk Tryz.prog 68 { k := .sl 115, size := 1, bytes := 24, zero := .slice none 0 0 } :=
  ⟨Tryz.underlying68, by decide, by decide, by decide, by decide, by decide, ty_info (by kernel_rfl)⟩
theorem tyOk69 : TyOk Tryz.prog 69 { k := .struct [(3, 0), (9, 1), (68, 2)], size := 3, bytes := 48, zero := .agg #[.int .i64 0, .string ⟨#[]⟩, .slice none 0 0] } :=
  ⟨⟨_, Tryz.underlying69, rfl, by
      intro F hF
      simp only [List.mem_cons, List.not_mem_nil, or_false] at hF
      rcases hF with rfl | rfl | rfl
      · exact ty_has (by kernel_rfl)
      · exact ty_has (by kernel_rfl)
      · exact ty_has (by kernel_rfl)⟩, by decide, by decide, by decide, by decide, by decide, ty_info (by kernel_rfl)⟩
theorem tyOk70 : TyOk Tryz.prog 70 { k := .struct [(3, 0), (9, 1), (68, 2)], size := 3, bytes := 48, zero := .agg #[.int .i64 0, .string ⟨#[]⟩, .slice none 0 0] } :=
  ⟨⟨_, Tryz.underlying70, rfl, by
      intro F hF
      simp only [List.mem_cons, List.not_mem_nil, or_false] at hF
      rcases hF with rfl | rfl | rfl
      · exact ty_has (by kernel_rfl)
      · exact ty_has (by kernel_rfl)
      · exact ty_has (by kernel_rfl)⟩, by decide, by decide, by decide, by decide, by decide, ty_info (by kernel_rfl)⟩
theorem tyOk86 : TyOk Tryz.prog 86 { k := .int .u32, size := 1, bytes := 4, zero := .int .u32 0 } :=
  ⟨Tryz.underlying86, by decide, by decide, by decide, by decide, by decide, ty_info (by kernel_rfl)⟩
theorem tyOk89 : TyOk Tryz.prog 89 { k := .struct [(21, 0), (86, 1)], size := 2, bytes := 8, zero := .agg #[.int .i32 0, .int .u32 0] } :=
  ⟨⟨_, Tryz.underlying89, rfl, by
      intro F hF
      simp only [List.mem_cons, List.not_mem_nil, or_false] at hF
      rcases hF with rfl | rfl
      · exact ty_has (by kernel_rfl)
      · exact ty_has (by kernel_rfl)⟩, by decide, by decide, by decide, by decide, by decide, ty_info (by kernel_rfl)⟩
theorem tyOk90 : TyOk Tryz.prog 90 { k := .struct [(21, 0), (86, 1)], size := 2, bytes := 8, zero := .agg #[.int .i32 0, .int .u32 0] } :=
  ⟨⟨_, Tryz.underlying90, rfl, by
      intro F hF
      simp only [List.mem_cons, List.not_mem_nil, or_false] at hF
      rcases hF with rfl | rfl
      · exact ty_has (by kernel_rfl)
      · exact ty_has (by kernel_rfl)⟩, by decide, by decide, by decide, by decide, by decide, ty_info (by kernel_rfl)⟩
theorem tyOk97 : TyOk Tryz.prog 97 { k := .struct [(94, 0), (96, 3), (27, 4)], size := 5, bytes := 56, zero := .agg #[.int .u32 0, .int .i32 0, .int .u32 0, .nilIface, .slice none 0 0] } :=
  ⟨⟨_, Tryz.underlying97, rfl, by
      intro F hF
      simp only [List.mem_cons, List.not_mem_nil, or_false] at hF
      rcases hF with rfl | rfl | rfl
      · exact ty_has (by kernel_rfl)
      · exact ty_has (by kernel_rfl)
      · exact ty_has (by kernel_rfl)⟩, by decide, by decide, by decide, by decide, by decide, ty_info (by kernel_rfl)⟩
theorem tyOk98 : TyOk Tryz.prog 98 { k := .struct [(94, 0), (96, 3), (27, 4)], size := 5, bytes := 56, zero := .agg #[.int .u32 0, .int .i32 0, .int .u32 0, .nilIface, .slice none 0 0] } :=
  ⟨⟨_, Tryz.underlying98, rfl, by
      intro F hF
      simp only [List.mem_cons, List.not_mem_nil, or_false] at hF
      rcases hF with rfl | rfl | rfl
      · exact ty_has (by kernel_rfl)
      · exact ty_has (by kernel_rfl)
      · exact ty_has (by kernel_rfl)⟩, by decide, by decide, by decide, by decide, by decide, ty_info (by kernel_rfl)⟩
theorem tyOk114 : TyOk Tryz.prog 114 { k := .struct [(9, 0), (3, 1), (3, 2), (40, 3)], size := 4, bytes := 56, zero := .agg #[.string ⟨#[]⟩, .int .i64 0, .int .i64 0, .slice none 0 0] } :=
  ⟨⟨_, Tryz.underlying114, rfl, by
      intro F hF
      simp only [List.mem_cons, List.not_mem_nil, or_false] at hF
      rcases hF with rfl | rfl | rfl | rfl
      · exact ty_has (by kernel_rfl)
      · exact ty_has (by kernel_rfl)
      · exact ty_has (by kernel_rfl)
      · exact ty_has (by kernel_rfl)⟩, by decide, by decide, by decide, by decide, by decide, ty_info (by kernel_rfl)⟩
theorem tyOk115 : TyOk Tryz.prog 115 { k := .struct [(9, 0), (3, 1), (3, 2), (40, 3)], size := 4, bytes := 56, zero := .agg #[.string ⟨#[]⟩, .int .i64 0, .int .i64 0, .slice none 0 0] } :=
  ⟨⟨_, Tryz.underlying115, rfl, by
      intro F hF
      simp only [List.mem_cons, List.not_mem_nil, or_false] at hF
      rcases hF with rfl | rfl | rfl | rfl
      · exact ty_has (by kernel_rfl)
      · exact ty_has (by kernel_rfl)
      · exact ty_has (by kernel_rfl)
      · exact ty_has (by kernel_rfl)⟩, by decide, by decide, by decide, by decide, by decide, ty_info (by kernel_rfl)⟩
theorem tyOk120 : TyOk Tryz.prog 120 { k := .int .u64, size := 1, bytes := 8, zero := .int .u64 0 } :=
  ⟨Tryz.underlying120, by decide, by decide, by decide, by decide, by decide, ty_info (by kernel_rfl)⟩
theorem tyOk134 : TyOk Tryz.prog 134 { k := .struct [(133, 0), (50, 1)], size := 2, bytes := 32, zero := .agg #[.pointer none, .slice none 0 0] } :=
  ⟨⟨_, Tryz.underlying134, rfl, by
      intro F hF
      simp only [List.mem_cons, List.not_mem_nil, or_false] at hF
      rcases hF with rfl | rfl
      · exact ty_has (by kernel_rfl)
      · exact ty_has (by kernel_rfl)⟩, by decide, by decide, by decide, by decide, by decide, ty_info (by kernel_rfl)⟩
theorem tyOk135 : TyOk Tryz.prog 135 { k := .struct [(133, 0), (50, 1)], size := 2, bytes := 32, zero := .agg #[.pointer none, .slice none 0 0] } :=
  ⟨⟨_, Tryz.underlying135, rfl, by
      intro F hF
      simp only [List.mem_cons, List.not_mem_nil, or_false] at hF
      rcases hF with rfl | rfl
      · exact ty_has (by kernel_rfl)
      · exact ty_has (by kernel_rfl)⟩, by decide, by decide, by decide, by decide, by decide, ty_info (by kernel_rfl)⟩
theorem tyOk151 : TyOk Tryz.prog 151 { k := .struct [(9, 0), (3, 1), (3, 2)], size := 3, bytes := 32, zero := .agg #[.string ⟨#[]⟩, .int .i64 0, .int .i64 0] } :=
  ⟨⟨_, Tryz.underlying151, rfl, by
      intro F hF
      simp only [List.mem_cons, List.not_mem_nil, or_false] at hF
      rcases hF with rfl | rfl | rfl
      · exact ty_has (by kernel_rfl)
      · exact ty_has (by kernel_rfl)
      · exact ty_has (by kernel_rfl)⟩, by decide, by decide, by decide, by decide, by decide, ty_info (by kernel_rfl)⟩
theorem tyOk152 : TyOk Tryz.prog 152 { k := .struct [(9, 0), (3, 1), (3, 2)], size := 3, bytes := 32, zero := .agg #[.string ⟨#[]⟩, .int .i64 0, .int .i64 0] } :=
  ⟨⟨_, Tryz.underlying152, rfl, by
      intro F hF
      simp only [List.mem_cons, List.not_mem_nil, or_false] at hF
      rcases hF with rfl | rfl | rfl
      · exact ty_has (by kernel_rfl)
      · exact ty_has (by kernel_rfl)
      · exact ty_has (by kernel_rfl)⟩, by decide, by decide, by decide, by decide, by decide, ty_info (by kernel_rfl)⟩
theorem tyOk156 : TyOk Tryz.prog 156 { k := .struct [(70, 0)], size := 3, bytes := 48, zero := .agg #[.int .i64 0, .string ⟨#[]⟩, .slice none 0 0] } :=
  ⟨⟨_, Tryz.underlying156, rfl, by
      intro F hF
      simp only [List.mem_cons, List.not_mem_nil, or_false] at hF
      rcases hF with rfl
      · exact ty_has (by kernel_rfl)⟩, by decide, by decide, by decide, by decide, by decide, ty_info (by kernel_rfl)⟩
theorem tyOk157 : TyOk Tryz.prog 157 { k := .struct [(70, 0)], size := 3, bytes := 48, zero := .agg #[.int .i64 0, .string ⟨#[]⟩, .slice none 0 0] } :=
  ⟨⟨_, Tryz.underlying157, rfl, by
      intro F hF
      simp only [List.mem_cons, List.not_mem_nil, or_false] at hF
      rcases hF with rfl
      · exact ty_has (by kernel_rfl)⟩, by decide, by decide, by decide, by decide, by decide, ty_info (by kernel_rfl)⟩
theorem tyOk161 : TyOk Tryz.prog 161 { k := .int .i64, size := 1, bytes := 8, zero := .int .i64 0 } :=
  ⟨Tryz.underlying161, by decide, by decide, by decide, by decide, by decide, ty_info (by kernel_rfl)⟩
theorem tyOk170 : TyOk Tryz.prog 170 { k := .int .u64, size := 1, bytes := 8, zero := .int .u64 0 } :=
  ⟨Tryz.underlying170, by decide, by decide, by decide, by decide, by decide, ty_info (by kernel_rfl)⟩
theorem tyOk191 : TyOk Tryz.prog 191 { k := .int .i64, size := 1, bytes := 8, zero := .int .i64 0 } :=
  ⟨Tryz.underlying191, by decide, by decide, by decide, by decide, by decide, ty_info (by kernel_rfl)⟩
theorem tyOk199 : TyOk Tryz.prog 199 { k := .struct [(9, 0)], size := 1, bytes := 16, zero := .agg #[.string ⟨#[]⟩] } :=
  ⟨⟨_, Tryz.underlying199, rfl, by
      intro F hF
      simp only [List.mem_cons, List.not_mem_nil, or_false] at hF
      rcases hF with rfl
      · exact ty_has (by kernel_rfl)⟩, by decide, by decide, by decide, by decide, by decide, ty_info (by kernel_rfl)⟩
theorem tyOk200 : TyOk Tryz.prog 200 { k := .struct [(9, 0)], size := 1, bytes := 16, zero := .agg #[.string ⟨#[]⟩] } :=
  ⟨⟨_, Tryz.underlying200, rfl, by
      intro F hF
      simp only [List.mem_cons, List.not_mem_nil, or_false] at hF
      rcases hF with rfl
      · exact ty_has (by kernel_rfl)⟩, by decide, by decide, by decide, by decide, by decide, ty_info (by kernel_rfl)⟩
theorem tyOk202 : TyOk Tryz.prog 202 { k := .int .u64, size := 1, bytes := 8, zero := .int .u64 0 } :=
  ⟨Tryz.underlying202, by decide, by decide, by decide, by decide, by decide, ty_info (by kernel_rfl)⟩
theorem tyOk214 : TyOk Tryz.prog 214 { k := .struct [(212, 0), (9, 1)], size := 2, bytes := 24, zero := .agg #[.pointer none, .string ⟨#[]⟩] } :=
  ⟨⟨_, Tryz.underlying214, rfl, by
      intro F hF
      simp only [List.mem_cons, List.not_mem_nil, or_false] at hF
      rcases hF with rfl | rfl
      · exact ty_has (by kernel_rfl)
      · exact ty_has (by kernel_rfl)⟩, by decide, by decide, by decide, by decide, by decide, ty_info (by kernel_rfl)⟩
theorem tyOk215 : TyOk Tryz.prog 215 { k := .struct [(212, 0), (9, 1)], size := 2, bytes := 24, zero := .agg #[.pointer none, .string ⟨#[]⟩] } :=
  ⟨⟨_, Tryz.underlying215, rfl, by
      intro F hF
      simp only [List.mem_cons, List.not_mem_nil, or_false] at hF
      rcases hF with rfl | rfl
      · exact ty_has (by kernel_rfl)
      · exact ty_has (by kernel_rfl)⟩, by decide, by decide, by decide, by decide, by decide, ty_info (by kernel_rfl)⟩
theorem tyOk217 : TyOk Tryz.prog 217 { k := .sl 216, size := 1, bytes := 24, zero := .slice none 0 0 } :=
  ⟨Tryz.underlying217, by decide, by decide, by decide, by decide, by decide, ty_info (by kernel_rfl)⟩
theorem tyOk218 : TyOk Tryz.prog 218 { k := .struct [(9, 0), (3, 1), (9, 2), (216, 3), (217, 4)], size := 5, bytes := 72, zero := .agg #[.string ⟨#[]⟩, .int .i64 0, .string ⟨#[]⟩, .pointer none, .slice none 0 0] } :=
  ⟨⟨_, Tryz.underlying218, rfl, by
      intro F hF
      simp only [List.mem_cons, List.not_mem_nil, or_false] at hF
      rcases hF with rfl | rfl | rfl | rfl | rfl
      · exact ty_has (by kernel_rfl)
      · exact ty_has (by kernel_rfl)
      · exact ty_has (by kernel_rfl)
      · exact ty_has (by kernel_rfl)
      · exact ty_has (by kernel_rfl)⟩, by decide, by decide, by decide, by decide, by decide, ty_info (by kernel_rfl)⟩
theorem tyOk219 : TyOk Tryz.prog 219 { k := .struct [(9, 0), (3, 1), (9, 2), (216, 3), (217, 4)], size := 5, bytes := 72, zero := .agg #[.string ⟨#[]⟩, .int .i64 0, .string ⟨#[]⟩, .pointer none, .slice none 0 0] } :=
  ⟨⟨_, Tryz.underlying219, rfl, by
      intro F hF
      simp only [List.mem_cons, List.not_mem_nil, or_false] at hF
      rcases hF with rfl | rfl | rfl | rfl | rfl
      · exact ty_has (by kernel_rfl)
      · exact ty_has (by kernel_rfl)
      · exact ty_has (by kernel_rfl)
      · exact ty_has (by kernel_rfl)
      · exact ty_has (by kernel_rfl)⟩, by decide, by decide, by decide, by decide, by decide, ty_info (by kernel_rfl)⟩
theorem tyOk223 : TyOk Tryz.prog 223 { k := .arr 24 5, size := 24, bytes := 24, zero := .agg #[.int .u8 0, .int .u8 0, .int .u8 0, .int .u8 0, .int .u8 0, .int .u8 0, .int .u8 0, .int .u8 0, .int .u8 0, .int .u8 0, .int .u8 0, .int .u8 0, .int .u8 0, .int .u8 0, .int .u8 0, .int .u8 0, .int .u8 0, .int .u8 0, .int .u8 0, .int .u8 0, .int .u8 0, .int .u8 0, .int .u8 0, .int .u8 0] } :=
  ⟨Tryz.underlying223, by decide, by decide, by decide, by decide, by decide, ty_info (by kernel_rfl)⟩
theorem tyOk233 : TyOk Tryz.prog 233 { k := .sl 259, size := 1, bytes := 24, zero := .slice none 0 0 } :=
  ⟨Tryz.underlying233, by decide, by decide, by decide, by decide, by decide, ty_info (by kernel_rfl)⟩
theorem tyOk242 : TyOk Tryz.prog 242 { k := .struct [(5, 0), (5, 1)], size := 2, bytes := 2, zero := .agg #[.int .u8 0, .int .u8 0] } :=
  ⟨⟨_, Tryz.underlying242, rfl, by
      intro F hF
      simp only [List.mem_cons, List.not_mem_nil, or_false] at hF
      rcases hF with rfl | rfl
      · exact ty_has (by kernel_rfl)
      · exact ty_has (by kernel_rfl)⟩, by decide, by decide, by decide, by decide, by decide, ty_info (by kernel_rfl)⟩
theorem tyOk243 : TyOk Tryz.prog 243 { k := .struct [(5, 0), (5, 1)], size := 2, bytes := 2, zero := .agg #[.int .u8 0, .int .u8 0] } :=
  ⟨⟨_, Tryz.underlying243, rfl, by
      intro F hF
      simp only [List.mem_cons, List.not_mem_nil, or_false] at hF
      rcases hF with rfl | rfl
      · exact ty_has (by kernel_rfl)
      · exact ty_has (by kernel_rfl)⟩, by decide, by decide, by decide, by decide, by decide, ty_info (by kernel_rfl)⟩
theorem tyOk244 : TyOk Tryz.prog 244 { k := .arr 16 243, size := 32, bytes := 32, zero := .agg #[.int .u8 0, .int .u8 0, .int .u8 0, .int .u8 0, .int .u8 0, .int .u8 0, .int .u8 0, .int .u8 0, .int .u8 0, .int .u8 0, .int .u8 0, .int .u8 0, .int .u8 0, .int .u8 0, .int .u8 0, .int .u8 0, .int .u8 0, .int .u8 0, .int .u8 0, .int .u8 0, .int .u8 0, .int .u8 0, .int .u8 0, .int .u8 0, .int .u8 0, .int .u8 0, .int .u8 0, .int .u8 0, .int .u8 0, .int .u8 0, .int .u8 0, .int .u8 0] } :=
  ⟨Tryz.underlying244, by decide, by decide, by decide, by decide, by decide, ty_info (by kernel_rfl)⟩
theorem tyOk251 : TyOk Tryz.prog 251 { k := .sl 3, size := 1, bytes := 24, zero := .slice none 0 0 } :=
  ⟨Tryz.underlying251, by decide, by decide, by decide, by decide, by decide, ty_info (by kernel_rfl)⟩
theorem tyOk256 : TyOk Tryz.prog 256 { k := .arr 20 170, size := 20, bytes := 160, zero := .agg #[.int .u64 0, .int .u64 0, .int .u64 0, .int .u64 0, .int .u64 0, .int .u64 0, .int .u64 0, .int .u64 0, .int .u64 0, .int .u64 0, .int .u64 0, .int .u64 0, .int .u64 0, .int .u64 0, .int .u64 0, .int .u64 0, .int .u64 0, .int .u64 0, .int .u64 0, .int .u64 0] } :=
  ⟨Tryz.underlying256, by decide, by decide, by decide, by decide, by decide, ty_info (by kernel_rfl)⟩
theorem tyOk258 : TyOk Tryz.prog 258 { k := .struct [(9, 0), (3, 1)], size := 2, bytes := 24, zero := .agg #[.string ⟨#[]⟩, .int .i64 0] } :=
  ⟨⟨_, Tryz.underlying258, rfl, by
      intro F hF
      simp only [List.mem_cons, List.not_mem_nil, or_false] at hF
      rcases hF with rfl | rfl
      · exact ty_has (by kernel_rfl)
      · exact ty_has (by kernel_rfl)⟩, by decide, by decide, by decide, by decide, by decide, ty_info (by kernel_rfl)⟩
theorem tyOk259 : TyOk Tryz.prog 259 { k := .struct [(9, 0), (3, 1)], size := 2, bytes := 24, zero := .agg #[.string ⟨#[]⟩, .int .i64 0] } :=
  ⟨⟨_, Tryz.underlying259, rfl, by
      intro F hF
      simp only [List.mem_cons, List.not_mem_nil, or_false] at hF
      rcases hF with rfl | rfl
      · exact ty_has (by kernel_rfl)
      · exact ty_has (by kernel_rfl)⟩, by decide, by decide, by decide, by decide, by decide, ty_info (by kernel_rfl)⟩
theorem tyOk263 : TyOk Tryz.prog 263 { k := .arr 32 5, size := 32, bytes := 32, zero := .agg #[.int .u8 0, .int .u8 0, .int .u8 0, .int .u8 0, .int .u8 0, .int .u8 0, .int .u8 0, .int .u8 0, .int .u8 0, .int .u8 0, .int .u8 0, .int .u8 0, .int .u8 0, .int .u8 0, .int .u8 0, .int .u8 0, .int .u8 0, .int .u8 0, .int .u8 0, .int .u8 0, .int .u8 0, .int .u8 0, .int .u8 0, .int .u8 0, .int .u8 0, .int .u8 0, .int .u8 0, .int .u8 0, .int .u8 0, .int .u8 0, .int .u8 0, .int .u8 0] } :=
  ⟨Tryz.underlying263, by decide, by decide, by decide, by decide, by decide, ty_info (by kernel_rfl)⟩
theorem tyOk265 : TyOk Tryz.prog 265 { k := .struct [(17, 0), (17, 1), (17, 2), (9, 3)], size := 4, bytes := 40, zero := .agg #[.pointer none, .pointer none, .pointer none, .string ⟨#[]⟩] } :=
  ⟨⟨_, Tryz.underlying265, rfl, by
      intro F hF
      simp only [List.mem_cons, List.not_mem_nil, or_false] at hF
      rcases hF with rfl | rfl | rfl | rfl
      · exact ty_has (by kernel_rfl)
      · exact ty_has (by kernel_rfl)
      · exact ty_has (by kernel_rfl)
      · exact ty_has (by kernel_rfl)⟩, by decide, by decide, by decide, by decide, by decide, ty_info (by kernel_rfl)⟩
theorem tyOk266 : TyOk Tryz.prog 266 { k := .struct [(17, 0), (17, 1), (17, 2), (9, 3)], size := 4, bytes := 40, zero := .agg #[.pointer none, .pointer none, .pointer none, .string ⟨#[]⟩] } :=
  ⟨⟨_, Tryz.underlying266, rfl, by
      intro F hF
      simp only [List.mem_cons, List.not_mem_nil, or_false] at hF
      rcases hF with rfl | rfl | rfl | rfl
      · exact ty_has (by kernel_rfl)
      · exact ty_has (by kernel_rfl)
      · exact ty_has (by kernel_rfl)
      · exact ty_has (by kernel_rfl)⟩, by decide, by decide, by decide, by decide, by decide, ty_info (by kernel_rfl)⟩
theorem tyOk271 : TyOk Tryz.prog 271 { k := .int .u8, size := 1, bytes := 1, zero := .int .u8 0 } :=
  ⟨Tryz.underlying271, by decide, by decide, by decide, by decide, by decide, ty_info (by kernel_rfl)⟩
theorem tyOk272 : TyOk Tryz.prog 272 { k := .int .u8, size := 1, bytes := 1, zero := .int .u8 0 } :=
  ⟨Tryz.underlying272, by decide, by decide, by decide, by decide, by decide, ty_info (by kernel_rfl)⟩
theorem tyOk274 : TyOk Tryz.prog 274 { k := .int .i32, size := 1, bytes := 4, zero := .int .i32 0 } :=
  ⟨Tryz.underlying274, by decide, by decide, by decide, by decide, by decide, ty_info (by kernel_rfl)⟩
theorem tyOk275 : TyOk Tryz.prog 275 { k := .int .i32, size := 1, bytes := 4, zero := .int .i32 0 } :=
  ⟨Tryz.underlying275, by decide, by decide, by decide, by decide, by decide, ty_info (by kernel_rfl)⟩
theorem tyOk276 : TyOk Tryz.prog 276 { k := .struct [(12, 0), (12, 1), (86, 2), (271, 3), (5, 4), (5, 5), (272, 6), (273, 7), (193, 8), (274, 9), (275, 10)], size := 11, bytes := 48, zero := .agg #[.int .u64 0, .int .u64 0, .int .u32 0, .int .u8 0, .int .u8 0, .int .u8 0, .int .u8 0, .nilFunc, .pointer none, .int .i32 0, .int .i32 0] } :=
  ⟨⟨_, Tryz.underlying276, rfl, by
      intro F hF
      simp only [List.mem_cons, List.not_mem_nil, or_false] at hF
      rcases hF with rfl | rfl | rfl | rfl | rfl | rfl | rfl | rfl | rfl | rfl | rfl
      · exact ty_has (by kernel_rfl)
      · exact ty_has (by kernel_rfl)
      · exact ty_has (by kernel_rfl)
      · exact ty_has (by kernel_rfl)
      · exact ty_has (by kernel_rfl)
      · exact ty_has (by kernel_rfl)
      · exact ty_has (by kernel_rfl)
      · exact ty_has (by kernel_rfl)
      · exact ty_has (by kernel_rfl)
      · exact ty_has (by kernel_rfl)
      · exact ty_has (by kernel_rfl)⟩, by decide, by decide, by decide, by decide, by decide, ty_info (by kernel_rfl)⟩
theorem tyOk277 : TyOk Tryz.prog 277 { k := .struct [(12, 0), (12, 1), (86, 2), (271, 3), (5, 4), (5, 5), (272, 6), (273, 7), (193, 8), (274, 9), (275, 10)], size := 11, bytes := 48, zero := .agg #[.int .u64 0, .int .u64 0, .int .u32 0, .int .u8 0, .int .u8 0, .int .u8 0, .int .u8 0, .nilFunc, .pointer none, .int .i32 0, .int .i32 0] } :=
  ⟨⟨_, Tryz.underlying277, rfl, by
      intro F hF
      simp only [List.mem_cons, List.not_mem_nil, or_false] at hF
      rcases hF with rfl | rfl | rfl | rfl | rfl | rfl | rfl | rfl | rfl | rfl | rfl
      · exact ty_has (by kernel_rfl)
      · exact ty_has (by kernel_rfl)
      · exact ty_has (by kernel_rfl)
      · exact ty_has (by kernel_rfl)
      · exact ty_has (by kernel_rfl)
      · exact ty_has (by kernel_rfl)
      · exact ty_has (by kernel_rfl)
      · exact ty_has (by kernel_rfl)
      · exact ty_has (by kernel_rfl)
      · exact ty_has (by kernel_rfl)
      · exact ty_has (by kernel_rfl)⟩, by decide, by decide, by decide, by decide, by decide, ty_info (by kernel_rfl)⟩
theorem tyOk280 : TyOk Tryz.prog 280 { k := .sl 5, size := 1, bytes := 24, zero := .slice none 0 0 } :=
  ⟨Tryz.underlying280, by decide, by decide, by decide, by decide, by decide, ty_info (by kernel_rfl)⟩
theorem tyOk290 : TyOk Tryz.prog 290 { k := .struct [(283, 0)], size := 1, bytes := 16, zero := .agg #[.nilIface] } :=
  ⟨⟨_, Tryz.underlying290, rfl, by
      intro F hF
      simp only [List.mem_cons, List.not_mem_nil, or_false] at hF
      rcases hF with rfl
      · exact ty_has (by kernel_rfl)⟩, by decide, by decide, by decide, by decide, by decide, ty_info (by kernel_rfl)⟩
theorem tyOk291 : TyOk Tryz.prog 291 { k := .struct [(283, 0)], size := 1, bytes := 16, zero := .agg #[.nilIface] } :=
  ⟨⟨_, Tryz.underlying291, rfl, by
      intro F hF
      simp only [List.mem_cons, List.not_mem_nil, or_false] at hF
      rcases hF with rfl
      · exact ty_has (by kernel_rfl)⟩, by decide, by decide, by decide, by decide, by decide, ty_info (by kernel_rfl)⟩
theorem tyOk1 : TyOk Tryz.prog 1 { k := .func, size := 1, bytes := 8, zero := .nilFunc } :=
  ⟨⟨_, _, _, Tryz.underlying1⟩, by decide, by decide, by decide, by decide, by decide, ty_info (by kernel_rfl)⟩
theorem tyOk15 : TyOk Tryz.prog 15 { k := .ptr, size := 1, bytes := 8, zero := .pointer none } :=
  ⟨⟨_, Tryz.underlying15⟩, by decide, by decide, by decide, by decide, by decide, ty_info (by kernel_rfl)⟩
theorem tyOk16 : TyOk Tryz.prog 16 { k := .ptr, size := 1, bytes := 8, zero := .pointer none } :=
  ⟨⟨_, Tryz.underlying16⟩, by decide, by decide, by decide, by decide, by decide, ty_info (by kernel_rfl)⟩
theorem tyOk17 : TyOk Tryz.prog 17 { k := .ptr, size := 1, bytes := 8, zero := .pointer none } :=
  ⟨⟨_, Tryz.underlying17⟩, by decide, by decide, by decide, by decide, by decide, ty_info (by kernel_rfl)⟩
theorem tyOk20 : TyOk Tryz.prog 20 { k := .ifc, size := 1, bytes := 16, zero := .nilIface } :=
  ⟨⟨_, Tryz.underlying20⟩, by decide, by decide, by decide, by decide, by decide, ty_info (by kernel_rfl)⟩
theorem tyOk23 : TyOk Tryz.prog 23 { k := .func, size := 1, bytes := 8, zero := .nilFunc } :=
  ⟨⟨_, _, _, Tryz.underlying23⟩, by decide, by decide, by decide, by decide, by decide, ty_info (by kernel_rfl)⟩
theorem tyOk24 : TyOk Tryz.prog 24 { k := .func, size := 1, bytes := 8, zero := .nilFunc } :=
  ⟨⟨_, _, _, Tryz.underlying24⟩, by decide, by decide, by decide, by decide, by decide, ty_info (by kernel_rfl)⟩
theorem tyOk25 : TyOk Tryz.prog 25 { k := .func, size := 1, bytes := 8, zero := .nilFunc } :=
  ⟨⟨_, _, _, Tryz.underlying25⟩, by decide, by decide, by decide, by decide, by decide, ty_info (by kernel_rfl)⟩
theorem tyOk31 : TyOk Tryz.prog 31 { k := .func, size := 1, bytes := 8, zero := .nilFunc } :=
  ⟨⟨_, _, _, Tryz.underlying31⟩, by decide, by decide, by decide, by decide, by decide, ty_info (by kernel_rfl)⟩
theorem tyOk32 : TyOk Tryz.prog 32 { k := .func, size := 1, bytes := 8, zero := .nilFunc } :=
  ⟨⟨_, _, _, Tryz.underlying32⟩, by decide, by decide, by decide, by decide, by decide, ty_info (by kernel_rfl)⟩
theorem tyOk33 : TyOk Tryz.prog 33 { k := .func, size := 1, bytes := 8, zero := .nilFunc } :=
  ⟨⟨_, _, _, Tryz.underlying33⟩, by decide, by decide, by decide, by decide, by decide, ty_info (by kernel_rfl)⟩
theorem tyOk34 : TyOk Tryz.prog 34 { k := .func, size := 1, bytes := 8, zero := .nilFunc } :=
  ⟨⟨_, _, _, Tryz.underlying34⟩, by decide, by decide, by decide, by decide, by decide, ty_info (by kernel_rfl)⟩
theorem tyOk38 : TyOk Tryz.prog 38 { k := .func, size := 1, bytes := 8, zero := .nilFunc } :=
  ⟨⟨_, _, _, Tryz.underlying38⟩, by decide, by decide, by decide, by decide, by decide, ty_info (by kernel_rfl)⟩
theorem tyOk39 : TyOk Tryz.prog 39 { k := .func, size := 1, bytes := 8, zero := .nilFunc } :=
  ⟨⟨_, _, _, Tryz.underlying39⟩, by decide, by decide, by decide, by decide, by decide, ty_info (by kernel_rfl)⟩
theorem tyOk43 : TyOk Tryz.prog 43 { k := .func, size := 1, bytes := 8, zero := .nilFunc } :=
  ⟨⟨_, _, _, Tryz.underlying43⟩, by decide, by decide, by decide, by decide, by decide, ty_info (by kernel_rfl)⟩
theorem tyOk45 : TyOk Tryz.prog 45 { k := .func, size := 1, bytes := 8, zero := .nilFunc } :=
  ⟨⟨_, _, _, Tryz.underlying45⟩, by decide, by decide, by decide, by decide, by decide, ty_info (by kernel_rfl)⟩
theorem tyOk46 : TyOk Tryz.prog 46 { k := .func, size := 1, bytes := 8, zero := .nilFunc } :=
  ⟨⟨_, _, _, Tryz.underlying46⟩, by decide, by decide, by decide, by decide, by decide, ty_info (by kernel_rfl)⟩
theorem tyOk47 : TyOk Tryz.prog 47 { k := .func, size := 1, bytes := 8, zero := .nilFunc } :=
  ⟨⟨_, _, _, Tryz.underlying47⟩, by decide, by decide, by decide, by decide, by decide, ty_info (by kernel_rfl)⟩
theorem tyOk48 : TyOk Tryz.prog 48 { k := .func, size := 1, bytes := 8, zero := .nilFunc } :=
  ⟨⟨_, _, _, Tryz.underlying48⟩, by decide, by decide, by decide, by decide, by decide, ty_info (by kernel_rfl)⟩
theorem tyOk49 : TyOk Tryz.prog 49 { k := .func, size := 1, bytes := 8, zero := .nilFunc } :=
  ⟨⟨_, _, _, Tryz.underlying49⟩, by decide, by decide, by decide, by decide, by decide, ty_info (by kernel_rfl)⟩
theorem tyOk51 : TyOk Tryz.prog 51 { k := .func, size := 1, bytes := 8, zero := .nilFunc } :=
  ⟨⟨_, _, _, Tryz.underlying51⟩, by decide, by decide, by decide, by decide, by decide, ty_info (by kernel_rfl)⟩
theorem tyOk52 : TyOk Tryz.prog 52 { k := .func, size := 1, bytes := 8, zero := .nilFunc } :=
  ⟨⟨_, _, _, Tryz.underlying52⟩, by decide, by decide, by decide, by decide, by decide, ty_info (by kernel_rfl)⟩
theorem tyOk53 : TyOk Tryz.prog 53 { k := .ptr, size := 1, bytes := 8, zero := .pointer none } :=
  ⟨⟨_, Tryz.underlying53⟩, by decide, by decide, by decide, by decide, by decide, ty_info (by kernel_rfl)⟩
theorem tyOk54 : TyOk Tryz.prog 54 { k := .func, size := 1, bytes := 8, zero := .nilFunc } :=
  ⟨⟨_, _, _, Tryz.underlying54⟩, by decide, by decide, by decide, by decide, by decide, ty_info (by kernel_rfl)⟩
theorem tyOk55 : TyOk Tryz.prog 55 { k := .func, size := 1, bytes := 8, zero := .nilFunc } :=
  ⟨⟨_, _, _, Tryz.underlying55⟩, by decide, by decide, by decide, by decide, by decide, ty_info (by kernel_rfl)⟩
theorem tyOk56 : TyOk Tryz.prog 56 { k := .func, size := 1, bytes := 8, zero := .nilFunc } :=
  ⟨⟨_, _, _, Tryz.underlying56⟩, by decide, by decide, by decide, by decide, by decide, ty_info (by kernel_rfl)⟩
theorem tyOk57 : TyOk Tryz.prog 57 { k := .func, size := 1, bytes := 8, zero := .nilFunc } :=
  ⟨⟨_, _, _, Tryz.underlying57⟩, by decide, by decide, by decide, by decide, by decide, ty_info (by kernel_rfl)⟩
theorem tyOk59 : TyOk Tryz.prog 59 { k := .func, size := 1, bytes := 8, zero := .nilFunc } :=
  ⟨⟨_, _, _, Tryz.underlying59⟩, by decide, by decide, by decide, by decide, by decide, ty_info (by kernel_rfl)⟩
theorem tyOk61 : TyOk Tryz.prog 61 { k := .func, size := 1, bytes := 8, zero := .nilFunc } :=
  ⟨⟨_, _, _, Tryz.underlying61⟩, by decide, by decide, by decide, by decide, by decide, ty_info (by kernel_rfl)⟩
theorem tyOk62 : TyOk Tryz.prog 62 { k := .func, size := 1, bytes := 8, zero := .nilFunc } :=
  ⟨⟨_, _, _, Tryz.underlying62⟩, by decide, by decide, by decide, by decide, by decide, ty_info (by kernel_rfl)⟩
theorem tyOk63 : TyOk Tryz.prog 63 { k := .func, size := 1, bytes := 8, zero := .nilFunc } :=
  ⟨⟨_, _, _, Tryz.underlying63⟩, by decide, by decide, by decide, by decide, by decide, ty_info (by kernel_rfl)⟩
theorem tyOk64 : TyOk Tryz.prog 64 { k := .func, size := 1, bytes := 8, zero := .nilFunc } :=
  ⟨⟨_, _, _, Tryz.underlying64⟩, by decide, by decide, by decide, by decide, by decide, ty_info (by kernel_rfl)⟩
theorem tyOk65 : TyOk Tryz.prog 65 { k := .func, size := 1, bytes := 8, zero := .nilFunc } :=
  ⟨⟨_, _, _, Tryz.underlying65⟩, by decide, by decide, by decide, by decide, by decide, ty_info (by kernel_rfl)⟩
theorem tyOk66 : TyOk Tryz.prog 66 { k := .func, size := 1, bytes := 8, zero := .nilFunc } :=
  ⟨⟨_, _, _, Tryz.underlying66⟩, by decide, by decide, by decide, by decide, by decide, ty_info (by kernel_rfl)⟩
theorem tyOk67 : TyOk Tryz.prog 67 { k := .func, size := 1, bytes := 8, zero := .nilFunc } :=
  ⟨⟨_, _, _, Tryz.underlying67⟩, by decide, by decide, by decide, by decide, by decide, ty_info (by kernel_rfl)⟩
theorem tyOk71 : TyOk Tryz.prog 71 { k := .func, size := 1, bytes := 8, zero := .nilFunc } :=
  ⟨⟨_, _, _, Tryz.underlying71⟩, by decide, by decide, by decide, by decide, by decide, ty_info (by kernel_rfl)⟩
theorem tyOk72 : TyOk Tryz.prog 72 { k := .func, size := 1, bytes := 8, zero := .nilFunc } :=
  ⟨⟨_, _, _, Tryz.underlying72⟩, by decide, by decide, by decide, by decide, by decide, ty_info (by kernel_rfl)⟩
theorem tyOk73 : TyOk Tryz.prog 73 { k := .func, size := 1, bytes := 8, zero := .nilFunc } :=
  ⟨⟨_, _, _, Tryz.underlying73⟩, by decide, by decide, by decide, by decide, by decide, ty_info (by kernel_rfl)⟩
theorem tyOk74 : TyOk Tryz.prog 74 { k := .func, size := 1, bytes := 8, zero := .nilFunc } :=
  ⟨⟨_, _, _, Tryz.underlying74⟩, by decide, by decide, by decide, by decide, by decide, ty_info (by kernel_rfl)⟩
theorem tyOk75 : TyOk Tryz.prog 75 { k := .func, size := 1, bytes := 8, zero := .nilFunc } :=
  ⟨⟨_, _, _, Tryz.underlying75⟩, by decide, by decide, by decide, by decide, by decide, ty_info (by kernel_rfl)⟩
theorem tyOk76 : TyOk Tryz.prog 76 { k := .func, size := 1, bytes := 8, zero := .nilFunc } :=
  ⟨⟨_, _, _, Tryz.underlying76⟩, by decide, by decide, by decide, by decide, by decide, ty_info (by kernel_rfl)⟩
theorem tyOk80 : TyOk Tryz.prog 80 { k := .func, size := 1, bytes := 8, zero := .nilFunc } :=
  ⟨⟨_, _, _, Tryz.underlying80⟩, by decide, by decide, by decide, by decide, by decide, ty_info (by kernel_rfl)⟩
theorem tyOk81 : TyOk Tryz.prog 81 { k := .func, size := 1, bytes := 8, zero := .nilFunc } :=
  ⟨⟨_, _, _, Tryz.underlying81⟩, by decide, by decide, by decide, by decide, by decide, ty_info (by kernel_rfl)⟩
theorem tyOk82 : TyOk Tryz.prog 82 { k := .ptr, size := 1, bytes := 8, zero := .pointer none } :=
  ⟨⟨_, Tryz.underlying82⟩, by decide, by decide, by decide, by decide, by decide, ty_info (by kernel_rfl)⟩
theorem tyOk95 : TyOk Tryz.prog 95 { k := .ifc, size := 1, bytes := 16, zero := .nilIface } :=
  ⟨⟨_, Tryz.underlying95⟩, by decide, by decide, by decide, by decide, by decide, ty_info (by kernel_rfl)⟩
theorem tyOk96 : TyOk Tryz.prog 96 { k := .ifc, size := 1, bytes := 16, zero := .nilIface } :=
  ⟨⟨_, Tryz.underlying96⟩, by decide, by decide, by decide, by decide, by decide, ty_info (by kernel_rfl)⟩
theorem tyOk99 : TyOk Tryz.prog 99 { k := .func, size := 1, bytes := 8, zero := .nilFunc } :=
  ⟨⟨_, _, _, Tryz.underlying99⟩, by decide, by decide, by decide, by decide, by decide, ty_info (by kernel_rfl)⟩
theorem tyOk100 : TyOk Tryz.prog 100 { k := .func, size := 1, bytes := 8, zero := .nilFunc } :=
  ⟨⟨_, _, _, Tryz.underlying100⟩, by decide, by decide, by decide, by decide, by decide, ty_info (by kernel_rfl)⟩
theorem tyOk101 : TyOk Tryz.prog 101 { k := .func, size := 1, bytes := 8, zero := .nilFunc } :=
  ⟨⟨_, _, _, Tryz.underlying101⟩, by decide, by decide, by decide, by decide, by decide, ty_info (by kernel_rfl)⟩
theorem tyOk102 : TyOk Tryz.prog 102 { k := .func, size := 1, bytes := 8, zero := .nilFunc } :=
  ⟨⟨_, _, _, Tryz.underlying102⟩, by decide, by decide, by decide, by decide, by decide, ty_info (by kernel_rfl)⟩
theorem tyOk103 : TyOk Tryz.prog 103 { k := .func, size := 1, bytes := 8, zero := .nilFunc } :=
  ⟨⟨_, _, _, Tryz.underlying103⟩, by decide, by decide, by decide, by decide, by decide, ty_info (by kernel_rfl)⟩
theorem tyOk104 : TyOk Tryz.prog 104 { k := .map .int 3 9, size := 1, bytes := 8, zero := .map none } :=
  ⟨⟨Tryz.underlying104, Go.Maps.int_keyed Tryz.underlying3, fun v ⟨n, hv, h1, h2⟩ => ⟨_, hv ▸ Go.Maps.keyOf_int_mk Tryz.underlying3 (int_wf h1 h2)⟩⟩, by decide, by decide, by decide, by decide, by decide, ty_info (by kernel_rfl)⟩
theorem tyOk105 : TyOk Tryz.prog 105 { k := .func, size := 1, bytes := 8, zero := .nilFunc } :=
  ⟨⟨_, _, _, Tryz.underlying105⟩, by decide, by decide, by decide, by decide, by decide, ty_info (by kernel_rfl)⟩
theorem tyOk106 : TyOk Tryz.prog 106 { k := .func, size := 1, bytes := 8, zero := .nilFunc } :=
  ⟨⟨_, _, _, Tryz.underlying106⟩, by decide, by decide, by decide, by decide, by decide, ty_info (by kernel_rfl)⟩
theorem tyOk108 : TyOk Tryz.prog 108 { k := .func, size := 1, bytes := 8, zero := .nilFunc } :=
  ⟨⟨_, _, _, Tryz.underlying108⟩, by decide, by decide, by decide, by decide, by decide, ty_info (by kernel_rfl)⟩
theorem tyOk109 : TyOk Tryz.prog 109 { k := .func, size := 1, bytes := 8, zero := .nilFunc } :=
  ⟨⟨_, _, _, Tryz.underlying109⟩, by decide, by decide, by decide, by decide, by decide, ty_info (by kernel_rfl)⟩
theorem tyOk110 : TyOk Tryz.prog 110 { k := .func, size := 1, bytes := 8, zero := .nilFunc } :=
  ⟨⟨_, _, _, Tryz.underlying110⟩, by decide, by decide, by decide, by decide, by decide, ty_info (by kernel_rfl)⟩
theorem tyOk111 : TyOk Tryz.prog 111 { k := .func, size := 1, bytes := 8, zero := .nilFunc } :=
  ⟨⟨_, _, _, Tryz.underlying111⟩, by decide, by decide, by decide, by decide, by decide, ty_info (by kernel_rfl)⟩
theorem tyOk112 : TyOk Tryz.prog 112 { k := .func, size := 1, bytes := 8, zero := .nilFunc } :=
  ⟨⟨_, _, _, Tryz.underlying112⟩, by decide, by decide, by decide, by decide, by decide, ty_info (by kernel_rfl)⟩
theorem tyOk113 : TyOk Tryz.prog 113 { k := .func, size := 1, bytes := 8, zero := .nilFunc } :=
  ⟨⟨_, _, _, Tryz.underlying113⟩, by decide, by decide, by decide, by decide, by decide, ty_info (by kernel_rfl)⟩
theorem tyOk116 : TyOk Tryz.prog 116 { k := .func, size := 1, bytes := 8, zero := .nilFunc } :=
  ⟨⟨_, _, _, Tryz.underlying116⟩, by decide, by decide, by decide, by decide, by decide, ty_info (by kernel_rfl)⟩
theorem tyOk117 : TyOk Tryz.prog 117 { k := .func, size := 1, bytes := 8, zero := .nilFunc } :=
  ⟨⟨_, _, _, Tryz.underlying117⟩, by decide, by decide, by decide, by decide, by decide, ty_info (by kernel_rfl)⟩
theorem tyOk118 : TyOk Tryz.prog 118 { k := .func, size := 1, bytes := 8, zero := .nilFunc } :=
  ⟨⟨_, _, _, Tryz.underlying118⟩, by decide, by decide, by decide, by decide, by decide, ty_info (by kernel_rfl)⟩
theorem tyOk119 : TyOk Tryz.prog 119 { k := .func, size := 1, bytes := 8, zero := .nilFunc } :=
  ⟨⟨_, _, _, Tryz.underlying119⟩, by decide, by decide, by decide, by decide, by decide, ty_info (by kernel_rfl)⟩
theorem tyOk121 : TyOk Tryz.prog 121 { k := .func, size := 1, bytes := 8, zero := .nilFunc } :=
  ⟨⟨_, _, _, Tryz.underlying121⟩, by decide, by decide, by decide, by decide, by decide, ty_info (by kernel_rfl)⟩
theorem tyOk122 : TyOk Tryz.prog 122 { k := .func, size := 1, bytes := 8, zero := .nilFunc } :=
  ⟨⟨_, _, _, Tryz.underlying122⟩, by decide, by decide, by decide, by decide, by decide, ty_info (by kernel_rfl)⟩
theorem tyOk123 : TyOk Tryz.prog 123 { k := .func, size := 1, bytes := 8, zero := .nilFunc } :=
  ⟨⟨_, _, _, Tryz.underlying123⟩, by decide, by decide, by decide, by decide, by decide, ty_info (by kernel_rfl)⟩
theorem tyOk125 : TyOk Tryz.prog 125 { k := .func, size := 1, bytes := 8, zero := .nilFunc } :=
  ⟨⟨_, _, _, Tryz.underlying125⟩, by decide, by decide, by decide, by decide, by decide, ty_info (by kernel_rfl)⟩
theorem tyOk126 : TyOk Tryz.prog 126 { k := .func, size := 1, bytes := 8, zero := .nilFunc } :=
  ⟨⟨_, _, _, Tryz.underlying126⟩, by decide, by decide, by decide, by decide, by decide, ty_info (by kernel_rfl)⟩
theorem tyOk127 : TyOk Tryz.prog 127 { k := .ptr, size := 1, bytes := 8, zero := .pointer none } :=
  ⟨⟨_, Tryz.underlying127⟩, by decide, by decide, by decide, by decide, by decide, ty_info (by kernel_rfl)⟩
theorem tyOk128 : TyOk Tryz.prog 128 { k := .func, size := 1, bytes := 8, zero := .nilFunc } :=
  ⟨⟨_, _, _, Tryz.underlying128⟩, by decide, by decide, by decide, by decide, by decide, ty_info (by kernel_rfl)⟩
theorem tyOk129 : TyOk Tryz.prog 129 { k := .func, size := 1, bytes := 8, zero := .nilFunc } :=
  ⟨⟨_, _, _, Tryz.underlying129⟩, by decide, by decide, by decide, by decide, by decide, ty_info (by kernel_rfl)⟩
theorem tyOk131 : TyOk Tryz.prog 131 { k := .func, size := 1, bytes := 8, zero := .nilFunc } :=
  ⟨⟨_, _, _, Tryz.underlying131⟩, by decide, by decide, by decide, by decide, by decide, ty_info (by kernel_rfl)⟩
theorem tyOk132 : TyOk Tryz.prog 132 { k := .func, size := 1, bytes := 8, zero := .nilFunc } :=
  ⟨⟨_, _, _, Tryz.underlying132⟩, by decide, by decide, by decide, by decide, by decide, ty_info (by kernel_rfl)⟩
theorem tyOk133 : TyOk Tryz.prog 133 { k := .ptr, size := 1, bytes := 8, zero := .pointer none } :=
  ⟨⟨_, Tryz.underlying133⟩, by decide, by decide, by decide, by decide, by decide, ty_info (by kernel_rfl)⟩
theorem tyOk136 : TyOk Tryz.prog 136 { k := .func, size := 1, bytes := 8, zero := .nilFunc } :=
  ⟨⟨_, _, _, Tryz.underlying136⟩, by decide, by decide, by decide, by decide, by decide, ty_info (by kernel_rfl)⟩
theorem tyOk137 : TyOk Tryz.prog 137 { k := .ifc, size := 1, bytes := 16, zero := .nilIface } :=
  ⟨⟨_, Tryz.underlying137⟩, by decide, by decide, by decide, by decide, by decide, ty_info (by kernel_rfl)⟩
theorem tyOk138 : TyOk Tryz.prog 138 { k := .ifc, size := 1, bytes := 16, zero := .nilIface } :=
  ⟨⟨_, Tryz.underlying138⟩, by decide, by decide, by decide, by decide, by decide, ty_info (by kernel_rfl)⟩
theorem tyOk140 : TyOk Tryz.prog 140 { k := .func, size := 1, bytes := 8, zero := .nilFunc } :=
  ⟨⟨_, _, _, Tryz.underlying140⟩, by decide, by decide, by decide, by decide, by decide, ty_info (by kernel_rfl)⟩
theorem tyOk141 : TyOk Tryz.prog 141 { k := .func, size := 1, bytes := 8, zero := .nilFunc } :=
  ⟨⟨_, _, _, Tryz.underlying141⟩, by decide, by decide, by decide, by decide, by decide, ty_info (by kernel_rfl)⟩
theorem tyOk142 : TyOk Tryz.prog 142 { k := .func, size := 1, bytes := 8, zero := .nilFunc } :=
  ⟨⟨_, _, _, Tryz.underlying142⟩, by decide, by decide, by decide, by decide, by decide, ty_info (by kernel_rfl)⟩
theorem tyOk143 : TyOk Tryz.prog 143 { k := .func, size := 1, bytes := 8, zero := .nilFunc } :=
  ⟨⟨_, _, _, Tryz.underlying143⟩, by decide, by decide, by decide, by decide, by decide, ty_info (by kernel_rfl)⟩
theorem tyOk144 : TyOk Tryz.prog 144 { k := .func, size := 1, bytes := 8, zero := .nilFunc } :=
  ⟨⟨_, _, _, Tryz.underlying144⟩, by decide, by decide, by decide, by decide, by decide, ty_info (by kernel_rfl)⟩
theorem tyOk146 : TyOk Tryz.prog 146 { k := .func, size := 1, bytes := 8, zero := .nilFunc } :=
  ⟨⟨_, _, _, Tryz.underlying146⟩, by decide, by decide, by decide, by decide, by decide, ty_info (by kernel_rfl)⟩
theorem tyOk147 : TyOk Tryz.prog 147 { k := .func, size := 1, bytes := 8, zero := .nilFunc } :=
  ⟨⟨_, _, _, Tryz.underlying147⟩, by decide, by decide, by decide, by decide, by decide, ty_info (by kernel_rfl)⟩
theorem tyOk148 : TyOk Tryz.prog 148 { k := .func, size := 1, bytes := 8, zero := .nilFunc } :=
  ⟨⟨_, _, _, Tryz.underlying148⟩, by decide, by decide, by decide, by decide, by decide, ty_info (by kernel_rfl)⟩
theorem tyOk149 : TyOk Tryz.prog 149 { k := .func, size := 1, bytes := 8, zero := .nilFunc } :=
  ⟨⟨_, _, _, Tryz.underlying149⟩, by decide, by decide, by decide, by decide, by decide, ty_info (by kernel_rfl)⟩
theorem tyOk153 : TyOk Tryz.prog 153 { k := .ifc, size := 1, bytes := 16, zero := .nilIface } :=
  ⟨⟨_, Tryz.underlying153⟩, by decide, by decide, by decide, by decide, by decide, ty_info (by kernel_rfl)⟩
theorem tyOk154 : TyOk Tryz.prog 154 { k := .ifc, size := 1, bytes := 16, zero := .nilIface } :=
  ⟨⟨_, Tryz.underlying154⟩, by decide, by decide, by decide, by decide, by decide, ty_info (by kernel_rfl)⟩
theorem tyOk155 : TyOk Tryz.prog 155 { k := .func, size := 1, bytes := 8, zero := .nilFunc } :=
  ⟨⟨_, _, _, Tryz.underlying155⟩, by decide, by decide, by decide, by decide, by decide, ty_info (by kernel_rfl)⟩
theorem tyOk158 : TyOk Tryz.prog 158 { k := .func, size := 1, bytes := 8, zero := .nilFunc } :=
  ⟨⟨_, _, _, Tryz.underlying158⟩, by decide, by decide, by decide, by decide, by decide, ty_info (by kernel_rfl)⟩
theorem tyOk159 : TyOk Tryz.prog 159 { k := .func, size := 1, bytes := 8, zero := .nilFunc } :=
  ⟨⟨_, _, _, Tryz.underlying159⟩, by decide, by decide, by decide, by decide, by decide, ty_info (by kernel_rfl)⟩
theorem tyOk160 : TyOk Tryz.prog 160 { k := .func, size := 1, bytes := 8, zero := .nilFunc } :=
  ⟨⟨_, _, _, Tryz.underlying160⟩, by decide, by decide, by decide, by decide, by decide, ty_info (by kernel_rfl)⟩
theorem tyOk163 : TyOk Tryz.prog 163 { k := .func, size := 1, bytes := 8, zero := .nilFunc } :=
  ⟨⟨_, _, _, Tryz.underlying163⟩, by decide, by decide, by decide, by decide, by decide, ty_info (by kernel_rfl)⟩
theorem tyOk164 : TyOk Tryz.prog 164 { k := .func, size := 1, bytes := 8, zero := .nilFunc } :=
  ⟨⟨_, _, _, Tryz.underlying164⟩, by decide, by decide, by decide, by decide, by decide, ty_info (by kernel_rfl)⟩
theorem tyOk165 : TyOk Tryz.prog 165 { k := .func, size := 1, bytes := 8, zero := .nilFunc } :=
  ⟨⟨_, _, _, Tryz.underlying165⟩, by decide, by decide, by decide, by decide, by decide, ty_info (by kernel_rfl)⟩
theorem tyOk167 : TyOk Tryz.prog 167 { k := .func, size := 1, bytes := 8, zero := .nilFunc } :=
  ⟨⟨_, _, _, Tryz.underlying167⟩, by decide, by decide, by decide, by decide, by decide, ty_info (by kernel_rfl)⟩
theorem tyOk168 : TyOk Tryz.prog 168 { k := .func, size := 1, bytes := 8, zero := .nilFunc } :=
  ⟨⟨_, _, _, Tryz.underlying168⟩, by decide, by decide, by decide, by decide, by decide, ty_info (by kernel_rfl)⟩
theorem tyOk169 : TyOk Tryz.prog 169 { k := .func, size := 1, bytes := 8, zero := .nilFunc } :=
  ⟨⟨_, _, _, Tryz.underlying169⟩, by decide, by decide, by decide, by decide, by decide, ty_info (by kernel_rfl)⟩
theorem tyOk171 : TyOk Tryz.prog 171 { k := .func, size := 1, bytes := 8, zero := .nilFunc } :=
  ⟨⟨_, _, _, Tryz.underlying171⟩, by decide, by decide, by decide, by decide, by decide, ty_info (by kernel_rfl)⟩
theorem tyOk172 : TyOk Tryz.prog 172 { k := .func, size := 1, bytes := 8, zero := .nilFunc } :=
  ⟨⟨_, _, _, Tryz.underlying172⟩, by decide, by decide, by decide, by decide, by decide, ty_info (by kernel_rfl)⟩
theorem tyOk173 : TyOk Tryz.prog 173 { k := .func, size := 1, bytes := 8, zero := .nilFunc } :=
  ⟨⟨_, _, _, Tryz.underlying173⟩, by decide, by decide, by decide, by decide, by decide, ty_info (by kernel_rfl)⟩
theorem tyOk174 : TyOk Tryz.prog 174 { k := .ptr, size := 1, bytes := 8, zero := .pointer none } :=
  ⟨⟨_, Tryz.underlying174⟩, by decide, by decide, by decide, by decide, by decide, ty_info (by kernel_rfl)⟩
theorem tyOk175 : TyOk Tryz.prog 175 { k := .func, size := 1, bytes := 8, zero := .nilFunc } :=
  ⟨⟨_, _, _, Tryz.underlying175⟩, by decide, by decide, by decide, by decide, by decide, ty_info (by kernel_rfl)⟩
theorem tyOk176 : TyOk Tryz.prog 176 { k := .ptr, size := 1, bytes := 8, zero := .pointer none } :=
  ⟨⟨_, Tryz.underlying176⟩, by decide, by decide, by decide, by decide, by decide, ty_info (by kernel_rfl)⟩
theorem tyOk177 : TyOk Tryz.prog 177 { k := .func, size := 1, bytes := 8, zero := .nilFunc } :=
  ⟨⟨_, _, _, Tryz.underlying177⟩, by decide, by decide, by decide, by decide, by decide, ty_info (by kernel_rfl)⟩
theorem tyOk178 : TyOk Tryz.prog 178 { k := .ptr, size := 1, bytes := 8, zero := .pointer none } :=
  ⟨⟨_, Tryz.underlying178⟩, by decide, by decide, by decide, by decide, by decide, ty_info (by kernel_rfl)⟩
theorem tyOk179 : TyOk Tryz.prog 179 { k := .func, size := 1, bytes := 8, zero := .nilFunc } :=
  ⟨⟨_, _, _, Tryz.underlying179⟩, by decide, by decide, by decide, by decide, by decide, ty_info (by kernel_rfl)⟩
theorem tyOk180 : TyOk Tryz.prog 180 { k := .ptr, size := 1, bytes := 8, zero := .pointer none } :=
  ⟨⟨_, Tryz.underlying180⟩, by decide, by decide, by decide, by decide, by decide, ty_info (by kernel_rfl)⟩
theorem tyOk181 : TyOk Tryz.prog 181 { k := .func, size := 1, bytes := 8, zero := .nilFunc } :=
  ⟨⟨_, _, _, Tryz.underlying181⟩, by decide, by decide, by decide, by decide, by decide, ty_info (by kernel_rfl)⟩
theorem tyOk184 : TyOk Tryz.prog 184 { k := .ptr, size := 1, bytes := 8, zero := .pointer none } :=
  ⟨⟨_, Tryz.underlying184⟩, by decide, by decide, by decide, by decide, by decide, ty_info (by kernel_rfl)⟩
theorem tyOk188 : TyOk Tryz.prog 188 { k := .ptr, size := 1, bytes := 8, zero := .pointer none } :=
  ⟨⟨_, Tryz.underlying188⟩, by decide, by decide, by decide, by decide, by decide, ty_info (by kernel_rfl)⟩
theorem tyOk189 : TyOk Tryz.prog 189 { k := .func, size := 1, bytes := 8, zero := .nilFunc } :=
  ⟨⟨_, _, _, Tryz.underlying189⟩, by decide, by decide, by decide, by decide, by decide, ty_info (by kernel_rfl)⟩
theorem tyOk190 : TyOk Tryz.prog 190 { k := .func, size := 1, bytes := 8, zero := .nilFunc } :=
  ⟨⟨_, _, _, Tryz.underlying190⟩, by decide, by decide, by decide, by decide, by decide, ty_info (by kernel_rfl)⟩
theorem tyOk192 : TyOk Tryz.prog 192 { k := .func, size := 1, bytes := 8, zero := .nilFunc } :=
  ⟨⟨_, _, _, Tryz.underlying192⟩, by decide, by decide, by decide, by decide, by decide, ty_info (by kernel_rfl)⟩
theorem tyOk193 : TyOk Tryz.prog 193 { k := .ptr, size := 1, bytes := 8, zero := .pointer none } :=
  ⟨⟨_, Tryz.underlying193⟩, by decide, by decide, by decide, by decide, by decide, ty_info (by kernel_rfl)⟩
theorem tyOk194 : TyOk Tryz.prog 194 { k := .func, size := 1, bytes := 8, zero := .nilFunc } :=
  ⟨⟨_, _, _, Tryz.underlying194⟩, by decide, by decide, by decide, by decide, by decide, ty_info (by kernel_rfl)⟩
theorem tyOk195 : TyOk Tryz.prog 195 { k := .func, size := 1, bytes := 8, zero := .nilFunc } :=
  ⟨⟨_, _, _, Tryz.underlying195⟩, by decide, by decide, by decide, by decide, by decide, ty_info (by kernel_rfl)⟩
theorem tyOk196 : TyOk Tryz.prog 196 { k := .func, size := 1, bytes := 8, zero := .nilFunc } :=
  ⟨⟨_, _, _, Tryz.underlying196⟩, by decide, by decide, by decide, by decide, by decide, ty_info (by kernel_rfl)⟩
theorem tyOk197 : TyOk Tryz.prog 197 { k := .func, size := 1, bytes := 8, zero := .nilFunc } :=
  ⟨⟨_, _, _, Tryz.underlying197⟩, by decide, by decide, by decide, by decide, by decide, ty_info (by kernel_rfl)⟩
theorem tyOk198 : TyOk Tryz.prog 198 { k := .func, size := 1, bytes := 8, zero := .nilFunc } :=
  ⟨⟨_, _, _, Tryz.underlying198⟩, by decide, by decide, by decide, by decide, by decide, ty_info (by kernel_rfl)⟩
theorem tyOk203 : TyOk Tryz.prog 203 { k := .func, size := 1, bytes := 8, zero := .nilFunc } :=
  ⟨⟨_, _, _, Tryz.underlying203⟩, by decide, by decide, by decide, by decide, by decide, ty_info (by kernel_rfl)⟩
theorem tyOk204 : TyOk Tryz.prog 204 { k := .func, size := 1, bytes := 8, zero := .nilFunc } :=
  ⟨⟨_, _, _, Tryz.underlying204⟩, by decide, by decide, by decide, by decide, by decide, ty_info (by kernel_rfl)⟩
theorem tyOk205 : TyOk Tryz.prog 205 { k := .func, size := 1, bytes := 8, zero := .nilFunc } :=
  ⟨⟨_, _, _, Tryz.underlying205⟩, by decide, by decide, by decide, by decide, by decide, ty_info (by kernel_rfl)⟩
theorem tyOk206 : TyOk Tryz.prog 206 { k := .ptr, size := 1, bytes := 8, zero := .pointer none } :=
  ⟨⟨_, Tryz.underlying206⟩, by decide, by decide, by decide, by decide, by decide, ty_info (by kernel_rfl)⟩
theorem tyOk207 : TyOk Tryz.prog 207 { k := .func, size := 1, bytes := 8, zero := .nilFunc } :=
  ⟨⟨_, _, _, Tryz.underlying207⟩, by decide, by decide, by decide, by decide, by decide, ty_info (by kernel_rfl)⟩
theorem tyOk208 : TyOk Tryz.prog 208 { k := .func, size := 1, bytes := 8, zero := .nilFunc } :=
  ⟨⟨_, _, _, Tryz.underlying208⟩, by decide, by decide, by decide, by decide, by decide, ty_info (by kernel_rfl)⟩
theorem tyOk209 : TyOk Tryz.prog 209 { k := .ptr, size := 1, bytes := 8, zero := .pointer none } :=
  ⟨⟨_, Tryz.underlying209⟩, by decide, by decide, by decide, by decide, by decide, ty_info (by kernel_rfl)⟩
theorem tyOk210 : TyOk Tryz.prog 210 { k := .func, size := 1, bytes := 8, zero := .nilFunc } :=
  ⟨⟨_, _, _, Tryz.underlying210⟩, by decide, by decide, by decide, by decide, by decide, ty_info (by kernel_rfl)⟩
theorem tyOk211 : TyOk Tryz.prog 211 { k := .func, size := 1, bytes := 8, zero := .nilFunc } :=
  ⟨⟨_, _, _, Tryz.underlying211⟩, by decide, by decide, by decide, by decide, by decide, ty_info (by kernel_rfl)⟩
theorem tyOk212 : TyOk Tryz.prog 212 { k := .ptr, size := 1, bytes := 8, zero := .pointer none } :=
  ⟨⟨_, Tryz.underlying212⟩, by decide, by decide, by decide, by decide, by decide, ty_info (by kernel_rfl)⟩
theorem tyOk213 : TyOk Tryz.prog 213 { k := .func, size := 1, bytes := 8, zero := .nilFunc } :=
  ⟨⟨_, _, _, Tryz.underlying213⟩, by decide, by decide, by decide, by decide, by decide, ty_info (by kernel_rfl)⟩
theorem tyOk216 : TyOk Tryz.prog 216 { k := .ptr, size := 1, bytes := 8, zero := .pointer none } :=
  ⟨⟨_, Tryz.underlying216⟩, by decide, by decide, by decide, by decide, by decide, ty_info (by kernel_rfl)⟩
theorem tyOk222 : TyOk Tryz.prog 222 { k := .func, size := 1, bytes := 8, zero := .nilFunc } :=
  ⟨⟨_, _, _, Tryz.underlying222⟩, by decide, by decide, by decide, by decide, by decide, ty_info (by kernel_rfl)⟩
theorem tyOk224 : TyOk Tryz.prog 224 { k := .func, size := 1, bytes := 8, zero := .nilFunc } :=
  ⟨⟨_, _, _, Tryz.underlying224⟩, by decide, by decide, by decide, by decide, by decide, ty_info (by kernel_rfl)⟩
theorem tyOk226 : TyOk Tryz.prog 226 { k := .func, size := 1, bytes := 8, zero := .nilFunc } :=
  ⟨⟨_, _, _, Tryz.underlying226⟩, by decide, by decide, by decide, by decide, by decide, ty_info (by kernel_rfl)⟩
theorem tyOk227 : TyOk Tryz.prog 227 { k := .func, size := 1, bytes := 8, zero := .nilFunc } :=
  ⟨⟨_, _, _, Tryz.underlying227⟩, by decide, by decide, by decide, by decide, by decide, ty_info (by kernel_rfl)⟩
theorem tyOk229 : TyOk Tryz.prog 229 { k := .func, size := 1, bytes := 8, zero := .nilFunc } :=
  ⟨⟨_, _, _, Tryz.underlying229⟩, by decide, by decide, by decide, by decide, by decide, ty_info (by kernel_rfl)⟩
theorem tyOk230 : TyOk Tryz.prog 230 { k := .func, size := 1, bytes := 8, zero := .nilFunc } :=
  ⟨⟨_, _, _, Tryz.underlying230⟩, by decide, by decide, by decide, by decide, by decide, ty_info (by kernel_rfl)⟩
theorem tyOk232 : TyOk Tryz.prog 232 { k := .func, size := 1, bytes := 8, zero := .nilFunc } :=
  ⟨⟨_, _, _, Tryz.underlying232⟩, by decide, by decide, by decide, by decide, by decide, ty_info (by kernel_rfl)⟩
theorem tyOk235 : TyOk Tryz.prog 235 { k := .func, size := 1, bytes := 8, zero := .nilFunc } :=
  ⟨⟨_, _, _, Tryz.underlying235⟩, by decide, by decide, by decide, by decide, by decide, ty_info (by kernel_rfl)⟩
theorem tyOk236 : TyOk Tryz.prog 236 { k := .func, size := 1, bytes := 8, zero := .nilFunc } :=
  ⟨⟨_, _, _, Tryz.underlying236⟩, by decide, by decide, by decide, by decide, by decide, ty_info (by kernel_rfl)⟩
theorem tyOk237 : TyOk Tryz.prog 237 { k := .func, size := 1, bytes := 8, zero := .nilFunc } :=
  ⟨⟨_, _, _, Tryz.underlying237⟩, by decide, by decide, by decide, by decide, by decide, ty_info (by kernel_rfl)⟩
theorem tyOk238 : TyOk Tryz.prog 238 { k := .func, size := 1, bytes := 8, zero := .nilFunc } :=
  ⟨⟨_, _, _, Tryz.underlying238⟩, by decide, by decide, by decide, by decide, by decide, ty_info (by kernel_rfl)⟩
theorem tyOk239 : TyOk Tryz.prog 239 { k := .func, size := 1, bytes := 8, zero := .nilFunc } :=
  ⟨⟨_, _, _, Tryz.underlying239⟩, by decide, by decide, by decide, by decide, by decide, ty_info (by kernel_rfl)⟩
theorem tyOk240 : TyOk Tryz.prog 240 { k := .ptr, size := 1, bytes := 8, zero := .pointer none } :=
  ⟨⟨_, Tryz.underlying240⟩, by decide, by decide, by decide, by decide, by decide, ty_info (by kernel_rfl)⟩
theorem tyOk241 : TyOk Tryz.prog 241 { k := .func, size := 1, bytes := 8, zero := .nilFunc } :=
  ⟨⟨_, _, _, Tryz.underlying241⟩, by decide, by decide, by decide, by decide, by decide, ty_info (by kernel_rfl)⟩
theorem tyOk245 : TyOk Tryz.prog 245 { k := .ptr, size := 1, bytes := 8, zero := .pointer none } :=
  ⟨⟨_, Tryz.underlying245⟩, by decide, by decide, by decide, by decide, by decide, ty_info (by kernel_rfl)⟩
theorem tyOk246 : TyOk Tryz.prog 246 { k := .func, size := 1, bytes := 8, zero := .nilFunc } :=
  ⟨⟨_, _, _, Tryz.underlying246⟩, by decide, by decide, by decide, by decide, by decide, ty_info (by kernel_rfl)⟩
theorem tyOk247 : TyOk Tryz.prog 247 { k := .ptr, size := 1, bytes := 8, zero := .pointer none } :=
  ⟨⟨_, Tryz.underlying247⟩, by decide, by decide, by decide, by decide, by decide, ty_info (by kernel_rfl)⟩
theorem tyOk248 : TyOk Tryz.prog 248 { k := .func, size := 1, bytes := 8, zero := .nilFunc } :=
  ⟨⟨_, _, _, Tryz.underlying248⟩, by decide, by decide, by decide, by decide, by decide, ty_info (by kernel_rfl)⟩
theorem tyOk249 : TyOk Tryz.prog 249 { k := .func, size := 1, bytes := 8, zero := .nilFunc } :=
  ⟨⟨_, _, _, Tryz.underlying249⟩, by decide, by decide, by decide, by decide, by decide, ty_info (by kernel_rfl)⟩
theorem tyOk250 : TyOk Tryz.prog 250 { k := .func, size := 1, bytes := 8, zero := .nilFunc } :=
  ⟨⟨_, _, _, Tryz.underlying250⟩, by decide, by decide, by decide, by decide, by decide, ty_info (by kernel_rfl)⟩
theorem tyOk255 : TyOk Tryz.prog 255 { k := .func, size := 1, bytes := 8, zero := .nilFunc } :=
  ⟨⟨_, _, _, Tryz.underlying255⟩, by decide, by decide, by decide, by decide, by decide, ty_info (by kernel_rfl)⟩
theorem tyOk260 : TyOk Tryz.prog 260 { k := .func, size := 1, bytes := 8, zero := .nilFunc } :=
  ⟨⟨_, _, _, Tryz.underlying260⟩, by decide, by decide, by decide, by decide, by decide, ty_info (by kernel_rfl)⟩
theorem tyOk261 : TyOk Tryz.prog 261 { k := .func, size := 1, bytes := 8, zero := .nilFunc } :=
  ⟨⟨_, _, _, Tryz.underlying261⟩, by decide, by decide, by decide, by decide, by decide, ty_info (by kernel_rfl)⟩
theorem tyOk262 : TyOk Tryz.prog 262 { k := .func, size := 1, bytes := 8, zero := .nilFunc } :=
  ⟨⟨_, _, _, Tryz.underlying262⟩, by decide, by decide, by decide, by decide, by decide, ty_info (by kernel_rfl)⟩
theorem tyOk270 : TyOk Tryz.prog 270 { k := .func, size := 1, bytes := 8, zero := .nilFunc } :=
  ⟨⟨_, _, _, Tryz.underlying270⟩, by decide, by decide, by decide, by decide, by decide, ty_info (by kernel_rfl)⟩
theorem tyOk273 : TyOk Tryz.prog 273 { k := .func, size := 1, bytes := 8, zero := .nilFunc } :=
  ⟨⟨_, _, _, Tryz.underlying273⟩, by decide, by decide, by decide, by decide, by decide, ty_info (by kernel_rfl)⟩
theorem tyOk278 : TyOk Tryz.prog 278 { k := .func, size := 1, bytes := 8, zero := .nilFunc } :=
  ⟨⟨_, _, _, Tryz.underlying278⟩, by decide, by decide, by decide, by decide, by decide, ty_info (by kernel_rfl)⟩
theorem tyOk279 : TyOk Tryz.prog 279 { k := .func, size := 1, bytes := 8, zero := .nilFunc } :=
  ⟨⟨_, _, _, Tryz.underlying279⟩, by decide, by decide, by decide, by decide, by decide, ty_info (by kernel_rfl)⟩
theorem tyOk281 : TyOk Tryz.prog 281 { k := .ptr, size := 1, bytes := 8, zero := .pointer none } :=
  ⟨⟨_, Tryz.underlying281⟩, by decide, by decide, by decide, by decide, by decide, ty_info (by kernel_rfl)⟩
theorem tyOk282 : TyOk Tryz.prog 282 { k := .ifc, size := 1, bytes := 16, zero := .nilIface } :=
  ⟨⟨_, Tryz.underlying282⟩, by decide, by decide, by decide, by decide, by decide, ty_info (by kernel_rfl)⟩
theorem tyOk283 : TyOk Tryz.prog 283 { k := .ifc, size := 1, bytes := 16, zero := .nilIface } :=
  ⟨⟨_, Tryz.underlying283⟩, by decide, by decide, by decide, by decide, by decide, ty_info (by kernel_rfl)⟩
theorem tyOk284 : TyOk Tryz.prog 284 { k := .ifc, size := 1, bytes := 16, zero := .nilIface } :=
  ⟨⟨_, Tryz.underlying284⟩, by decide, by decide, by decide, by decide, by decide, ty_info (by kernel_rfl)⟩
theorem tyOk285 : TyOk Tryz.prog 285 { k := .ifc, size := 1, bytes := 16, zero := .nilIface } :=
  ⟨⟨_, Tryz.underlying285⟩, by decide, by decide, by decide, by decide, by decide, ty_info (by kernel_rfl)⟩
theorem tyOk286 : TyOk Tryz.prog 286 { k := .func, size := 1, bytes := 8, zero := .nilFunc } :=
  ⟨⟨_, _, _, Tryz.underlying286⟩, by decide, by decide, by decide, by decide, by decide, ty_info (by kernel_rfl)⟩
theorem tyOk288 : TyOk Tryz.prog 288 { k := .func, size := 1, bytes := 8, zero := .nilFunc } :=
  ⟨⟨_, _, _, Tryz.underlying288⟩, by decide, by decide, by decide, by decide, by decide, ty_info (by kernel_rfl)⟩
theorem tyOk292 : TyOk Tryz.prog 292 { k := .func, size := 1, bytes := 8, zero := .nilFunc } :=
  ⟨⟨_, _, _, Tryz.underlying292⟩, by decide, by decide, by decide, by decide, by decide, ty_info (by kernel_rfl)⟩
def TabOk (P : Program) : List (Nat × TyI) → Prop
  | [] => True
  | p :: r => TyOk P p.1 p.2 ∧ TabOk P r
theorem TabOk.mem {P : Program} : ∀ {l : List (Nat × TyI)}, TabOk P l → ∀ {p : Nat × TyI}, p ∈ l → TyOk P p.1 p.2
  | [], _, p, h => by cases h
  | q :: r, hl, p, h => by
    rcases List.mem_cons.1 h with rfl | h
    · exact hl.1
    · exact TabOk.mem hl.2 h
set_option maxHeartbeats 4000000 in
theorem tyTab_ok : TabOk Tryz.prog tyTab :=
  ⟨tyOk2, tyOk3, tyOk4, tyOk5, tyOk6, tyOk7, tyOk8, tyOk9, tyOk10, tyOk11, tyOk12, tyOk13, tyOk14, tyOk18, tyOk19, tyOk21, tyOk22, tyOk26, tyOk27, tyOk28, tyOk29, tyOk35, tyOk36, tyOk37, tyOk40, tyOk41, tyOk42, tyOk50, tyOk68, tyOk69, tyOk70, tyOk86, tyOk89, tyOk90, tyOk97, tyOk98, tyOk114, tyOk115, tyOk120, tyOk134, tyOk135, tyOk151, tyOk152, tyOk156, tyOk157, tyOk161, tyOk170, tyOk191, tyOk199, tyOk200, tyOk202, tyOk214, tyOk215, tyOk217, tyOk218, tyOk219, tyOk223, tyOk233, tyOk242, tyOk243, tyOk244, tyOk251, tyOk256, tyOk258, tyOk259, tyOk263, tyOk265, tyOk266, tyOk271, tyOk272, tyOk274, tyOk275, tyOk276, tyOk277, tyOk280, tyOk290, tyOk291, tyOk1, tyOk15, tyOk16, tyOk17, tyOk20, tyOk23, tyOk24, tyOk25, tyOk31, tyOk32, tyOk33, tyOk34, tyOk38, tyOk39, tyOk43, tyOk45, tyOk46, tyOk47, tyOk48, tyOk49, tyOk51, tyOk52, tyOk53, tyOk54, tyOk55, tyOk56, tyOk57, tyOk59, tyOk61, tyOk62, tyOk63, tyOk64, tyOk65, tyOk66, tyOk67, tyOk71, tyOk72, tyOk73, tyOk74, tyOk75, tyOk76, tyOk80, tyOk81, tyOk82, tyOk95, tyOk96, tyOk99, tyOk100, tyOk101, tyOk102, tyOk103, tyOk104, tyOk105, tyOk106, tyOk108, tyOk109, tyOk110, tyOk111, tyOk112, tyOk113, tyOk116, tyOk117, tyOk118, tyOk119, tyOk121, tyOk122, tyOk123, tyOk125, tyOk126, tyOk127, tyOk128, tyOk129, tyOk131, tyOk132, tyOk133, tyOk136, tyOk137, tyOk138, tyOk140, tyOk141, tyOk142, tyOk143, tyOk144, tyOk146, tyOk147, tyOk148, tyOk149, tyOk153, tyOk154, tyOk155, tyOk158, tyOk159, tyOk160, tyOk163, tyOk164, tyOk165, tyOk167, tyOk168, tyOk169, tyOk171, tyOk172, tyOk173, tyOk174, tyOk175, tyOk176, tyOk177, tyOk178, tyOk179, tyOk180, tyOk181, tyOk184, tyOk188, tyOk189, tyOk190, tyOk192, tyOk193, tyOk194, tyOk195, tyOk196, tyOk197, tyOk198, tyOk203, tyOk204, tyOk205, tyOk206, tyOk207, tyOk208, tyOk209, tyOk210, tyOk211, tyOk212, tyOk213, tyOk216, tyOk222, tyOk224, tyOk226, tyOk227, tyOk229, tyOk230, tyOk232, tyOk235, tyOk236, tyOk237, tyOk238, tyOk239, tyOk240, tyOk241, tyOk245, tyOk246, tyOk247, tyOk248, tyOk249, tyOk250, tyOk255, tyOk260, tyOk261, tyOk262, tyOk270, tyOk273, tyOk278, tyOk279, tyOk281, tyOk282, tyOk283, tyOk284, tyOk285, tyOk286, tyOk288, tyOk292, trivial⟩
theorem tyT_all (t : TypeId) : TyOk Tryz.prog t (tyT t) := by
  unfold tyT
  split
  · rename_i i h
    exact tyTab_ok.mem (findB_mem h)
  · trivial
/-- Struct types of plain fields. -/
def seTab : List Nat := [152, 200, 259]
def seB (t : TypeId) : Bool := elemB seTab t
def SeOk (P : Program) : List Nat → Prop
  | [] => True
  | t :: r => SOk P t ∧ SeOk P r
theorem SeOk.mem {P : Program} : ∀ {l : List Nat}, SeOk P l → ∀ {t : Nat}, elemB l t = true → SOk P t
  | [], _, t, h => by cases h
  | q :: r, hl, t, h => by
    unfold elemB at h
    split at h
    · rename_i e
      rw [Nat.eq_of_beq_eq_true e]
      exact hl.1
    · exact SeOk.mem hl.2 h
theorem seTab_ok : SeOk Tryz.prog seTab := ⟨⟨Tryz.stoodInHeld152, Tryz.eqGuardType152, by kernel_rfl⟩, ⟨Tryz.stoodInHeld200, Tryz.eqGuardType200, by kernel_rfl⟩, ⟨Tryz.stoodInHeld259, Tryz.eqGuardType259, by kernel_rfl⟩, trivial⟩
/-- What the program says of its types. -/
structure TyS (P : Program) : Prop where
  ty : ∀ t, TyOk P t (tyT t)
  se : ∀ t, seB t = true → SOk P t
theorem tyT_ok : TyS Tryz.prog := ⟨tyT_all, fun _ h => seTab_ok.mem h⟩
end Go.Proofs.YtemiaognopgnnaaGreatDoor
