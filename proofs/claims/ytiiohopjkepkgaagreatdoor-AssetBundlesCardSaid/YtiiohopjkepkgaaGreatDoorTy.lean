/-
  The table of this program's types that the readings know, each entry proved. Written by a program.
-/
import Derived.Test.YtiiohopjkepkgaaGreatDoorN17
import Derived.Test.YtiiohopjkepkgaaGreatDoorProg
namespace Go.Proofs.YtiiohopjkepkgaaGreatDoor
open Go.RowKit
set_option maxRecDepth 100000

def tyTab : List (Nat × TyI) :=
  [(2, { k := .int .i64, size := 1, bytes := 8, zero := .int .i64 0 }),
   (3, { k := .int .i64, size := 1, bytes := 8, zero := .int .i64 0 }),
   (4, { k := .bool, size := 1, bytes := 1, zero := .bool false }),
   (5, { k := .int .u8, size := 1, bytes := 1, zero := .int .u8 0 }),
   (6, { k := .int .u8, size := 1, bytes := 1, zero := .int .u8 0 }),
   (7, { k := .struct [(2, 0), (3, 1), (4, 2), (6, 3)], size := 4, bytes := 24, zero := .agg #[.int .i64 0, .int .i64 0, .bool false, .int .u8 0] }),
   (8, { k := .struct [(2, 0), (3, 1), (4, 2), (6, 3)], size := 4, bytes := 24, zero := .agg #[.int .i64 0, .int .i64 0, .bool false, .int .u8 0] }),
   (9, { k := .str, size := 1, bytes := 16, zero := .string ⟨#[]⟩ }),
   (10, { k := .str, size := 1, bytes := 16, zero := .string ⟨#[]⟩ }),
   (11, { k := .str, size := 1, bytes := 16, zero := .string ⟨#[]⟩ }),
   (12, { k := .int .u64, size := 1, bytes := 8, zero := .int .u64 0 }),
   (13, { k := .struct [(9, 0), (12, 1)], size := 2, bytes := 24, zero := .agg #[.string ⟨#[]⟩, .int .u64 0] }),
   (14, { k := .struct [(9, 0), (12, 1)], size := 2, bytes := 24, zero := .agg #[.string ⟨#[]⟩, .int .u64 0] }),
   (18, { k := .struct [(17, 0)], size := 1, bytes := 8, zero := .agg #[.pointer none] }),
   (19, { k := .struct [(17, 0)], size := 1, bytes := 8, zero := .agg #[.pointer none] }),
   (21, { k := .int .i32, size := 1, bytes := 4, zero := .int .i32 0 }),
   (22, { k := .sl 49, size := 1, bytes := 24, zero := .slice none 0 0 }),
   (23, { k := .sl 9, size := 1, bytes := 24, zero := .slice none 0 0 }),
   (24, { k := .sl 3, size := 1, bytes := 24, zero := .slice none 0 0 }),
   (25, { k := .struct [(9, 0), (23, 1), (24, 2)], size := 3, bytes := 64, zero := .agg #[.string ⟨#[]⟩, .slice none 0 0, .slice none 0 0] }),
   (26, { k := .struct [(9, 0), (23, 1), (24, 2)], size := 3, bytes := 64, zero := .agg #[.string ⟨#[]⟩, .slice none 0 0, .slice none 0 0] }),
   (27, { k := .int .i64, size := 1, bytes := 8, zero := .int .i64 0 }),
   (34, { k := .sl 144, size := 1, bytes := 24, zero := .slice none 0 0 }),
   (35, { k := .struct [(3, 0), (3, 1)], size := 2, bytes := 16, zero := .agg #[.int .i64 0, .int .i64 0] }),
   (36, { k := .struct [(3, 0), (3, 1)], size := 2, bytes := 16, zero := .agg #[.int .i64 0, .int .i64 0] }),
   (37, { k := .struct [(9, 0), (36, 1), (27, 3)], size := 4, bytes := 40, zero := .agg #[.string ⟨#[]⟩, .int .i64 0, .int .i64 0, .int .i64 0] }),
   (38, { k := .struct [(9, 0), (36, 1), (27, 3)], size := 4, bytes := 40, zero := .agg #[.string ⟨#[]⟩, .int .i64 0, .int .i64 0, .int .i64 0] }),
   (41, { k := .sl 43, size := 1, bytes := 24, zero := .slice none 0 0 }),
   (42, { k := .struct [(3, 0), (4, 1), (3, 2), (9, 3), (41, 4), (23, 5)], size := 6, bytes := 88, zero := .agg #[.int .i64 0, .bool false, .int .i64 0, .string ⟨#[]⟩, .slice none 0 0, .slice none 0 0] }),
   (43, { k := .struct [(3, 0), (4, 1), (3, 2), (9, 3), (41, 4), (23, 5)], size := 6, bytes := 88, zero := .agg #[.int .i64 0, .bool false, .int .i64 0, .string ⟨#[]⟩, .slice none 0 0, .slice none 0 0] }),
   (44, { k := .sl 99, size := 1, bytes := 24, zero := .slice none 0 0 }),
   (48, { k := .struct [(9, 0), (9, 1)], size := 2, bytes := 32, zero := .agg #[.string ⟨#[]⟩, .string ⟨#[]⟩] }),
   (49, { k := .struct [(9, 0), (9, 1)], size := 2, bytes := 32, zero := .agg #[.string ⟨#[]⟩, .string ⟨#[]⟩] }),
   (51, { k := .sl 5, size := 1, bytes := 24, zero := .slice none 0 0 }),
   (52, { k := .struct [(50, 0), (51, 1)], size := 2, bytes := 32, zero := .agg #[.pointer none, .slice none 0 0] }),
   (53, { k := .struct [(50, 0), (51, 1)], size := 2, bytes := 32, zero := .agg #[.pointer none, .slice none 0 0] }),
   (66, { k := .sl 70, size := 1, bytes := 24, zero := .slice none 0 0 }),
   (69, { k := .struct [(9, 0), (43, 1)], size := 7, bytes := 104, zero := .agg #[.string ⟨#[]⟩, .int .i64 0, .bool false, .int .i64 0, .string ⟨#[]⟩, .slice none 0 0, .slice none 0 0] }),
   (70, { k := .struct [(9, 0), (43, 1)], size := 7, bytes := 104, zero := .agg #[.string ⟨#[]⟩, .int .i64 0, .bool false, .int .i64 0, .string ⟨#[]⟩, .slice none 0 0, .slice none 0 0] }),
   (74, { k := .sl 161, size := 1, bytes := 24, zero := .slice none 0 0 }),
   (75, { k := .struct [(74, 0)], size := 1, bytes := 24, zero := .agg #[.slice none 0 0] }),
   (76, { k := .struct [(74, 0)], size := 1, bytes := 24, zero := .agg #[.slice none 0 0] }),
   (77, { k := .sl 165, size := 1, bytes := 24, zero := .slice none 0 0 }),
   (78, { k := .struct [(9, 0), (9, 1), (76, 2), (9, 3), (9, 4), (23, 5), (23, 6), (23, 7), (77, 8)], size := 9, bytes := 184, zero := .agg #[.string ⟨#[]⟩, .string ⟨#[]⟩, .slice none 0 0, .string ⟨#[]⟩, .string ⟨#[]⟩, .slice none 0 0, .slice none 0 0, .slice none 0 0, .slice none 0 0] }),
   (79, { k := .struct [(9, 0), (9, 1), (76, 2), (9, 3), (9, 4), (23, 5), (23, 6), (23, 7), (77, 8)], size := 9, bytes := 184, zero := .agg #[.string ⟨#[]⟩, .string ⟨#[]⟩, .slice none 0 0, .string ⟨#[]⟩, .string ⟨#[]⟩, .slice none 0 0, .slice none 0 0, .slice none 0 0, .slice none 0 0] }),
   (80, { k := .sl 170, size := 1, bytes := 24, zero := .slice none 0 0 }),
   (81, { k := .struct [(80, 0)], size := 1, bytes := 24, zero := .agg #[.slice none 0 0] }),
   (82, { k := .struct [(80, 0)], size := 1, bytes := 24, zero := .agg #[.slice none 0 0] }),
   (83, { k := .sl 176, size := 1, bytes := 24, zero := .slice none 0 0 }),
   (84, { k := .sl 184, size := 1, bytes := 24, zero := .slice none 0 0 }),
   (85, { k := .struct [(23, 0), (84, 1)], size := 2, bytes := 48, zero := .agg #[.slice none 0 0, .slice none 0 0] }),
   (86, { k := .struct [(23, 0), (84, 1)], size := 2, bytes := 48, zero := .agg #[.slice none 0 0, .slice none 0 0] }),
   (87, { k := .sl 189, size := 1, bytes := 24, zero := .slice none 0 0 }),
   (88, { k := .sl 194, size := 1, bytes := 24, zero := .slice none 0 0 }),
   (89, { k := .sl 198, size := 1, bytes := 24, zero := .slice none 0 0 }),
   (90, { k := .sl 92, size := 1, bytes := 24, zero := .slice none 0 0 }),
   (91, { k := .struct [(3, 0), (9, 1), (43, 2), (90, 8)], size := 9, bytes := 136, zero := .agg #[.int .i64 0, .string ⟨#[]⟩, .int .i64 0, .bool false, .int .i64 0, .string ⟨#[]⟩, .slice none 0 0, .slice none 0 0, .slice none 0 0] }),
   (92, { k := .struct [(3, 0), (9, 1), (43, 2), (90, 8)], size := 9, bytes := 136, zero := .agg #[.int .i64 0, .string ⟨#[]⟩, .int .i64 0, .bool false, .int .i64 0, .string ⟨#[]⟩, .slice none 0 0, .slice none 0 0, .slice none 0 0] }),
   (93, { k := .sl 204, size := 1, bytes := 24, zero := .slice none 0 0 }),
   (94, { k := .sl 209, size := 1, bytes := 24, zero := .slice none 0 0 }),
   (95, { k := .sl 214, size := 1, bytes := 24, zero := .slice none 0 0 }),
   (98, { k := .struct [(9, 0), (43, 1), (4, 7)], size := 8, bytes := 112, zero := .agg #[.string ⟨#[]⟩, .int .i64 0, .bool false, .int .i64 0, .string ⟨#[]⟩, .slice none 0 0, .slice none 0 0, .bool false] }),
   (99, { k := .struct [(9, 0), (43, 1), (4, 7)], size := 8, bytes := 112, zero := .agg #[.string ⟨#[]⟩, .int .i64 0, .bool false, .int .i64 0, .string ⟨#[]⟩, .slice none 0 0, .slice none 0 0, .bool false] }),
   (101, { k := .sl 107, size := 1, bytes := 24, zero := .slice none 0 0 }),
   (102, { k := .struct [(101, 0), (4, 1)], size := 2, bytes := 32, zero := .agg #[.slice none 0 0, .bool false] }),
   (103, { k := .struct [(101, 0), (4, 1)], size := 2, bytes := 32, zero := .agg #[.slice none 0 0, .bool false] }),
   (106, { k := .struct [(9, 0), (3, 1), (4, 2), (4, 3), (3, 4), (3, 5), (23, 6), (43, 7)], size := 13, bytes := 160, zero := .agg #[.string ⟨#[]⟩, .int .i64 0, .bool false, .bool false, .int .i64 0, .int .i64 0, .slice none 0 0, .int .i64 0, .bool false, .int .i64 0, .string ⟨#[]⟩, .slice none 0 0, .slice none 0 0] }),
   (107, { k := .struct [(9, 0), (3, 1), (4, 2), (4, 3), (3, 4), (3, 5), (23, 6), (43, 7)], size := 13, bytes := 160, zero := .agg #[.string ⟨#[]⟩, .int .i64 0, .bool false, .bool false, .int .i64 0, .int .i64 0, .slice none 0 0, .int .i64 0, .bool false, .int .i64 0, .string ⟨#[]⟩, .slice none 0 0, .slice none 0 0] }),
   (109, { k := .sl 113, size := 1, bytes := 24, zero := .slice none 0 0 }),
   (112, { k := .struct [(9, 0), (3, 1)], size := 2, bytes := 24, zero := .agg #[.string ⟨#[]⟩, .int .i64 0] }),
   (113, { k := .struct [(9, 0), (3, 1)], size := 2, bytes := 24, zero := .agg #[.string ⟨#[]⟩, .int .i64 0] }),
   (116, { k := .sl 120, size := 1, bytes := 24, zero := .slice none 0 0 }),
   (119, { k := .struct [(3, 0), (9, 1)], size := 2, bytes := 24, zero := .agg #[.int .i64 0, .string ⟨#[]⟩] }),
   (120, { k := .struct [(3, 0), (9, 1)], size := 2, bytes := 24, zero := .agg #[.int .i64 0, .string ⟨#[]⟩] }),
   (121, { k := .sl 125, size := 1, bytes := 24, zero := .slice none 0 0 }),
   (124, { k := .struct [(3, 0), (3, 1), (9, 2)], size := 3, bytes := 32, zero := .agg #[.int .i64 0, .int .i64 0, .string ⟨#[]⟩] }),
   (125, { k := .struct [(3, 0), (3, 1), (9, 2)], size := 3, bytes := 32, zero := .agg #[.int .i64 0, .int .i64 0, .string ⟨#[]⟩] }),
   (126, { k := .sl 130, size := 1, bytes := 24, zero := .slice none 0 0 }),
   (129, { k := .struct [(9, 0), (9, 1), (9, 2)], size := 3, bytes := 48, zero := .agg #[.string ⟨#[]⟩, .string ⟨#[]⟩, .string ⟨#[]⟩] }),
   (130, { k := .struct [(9, 0), (9, 1), (9, 2)], size := 3, bytes := 48, zero := .agg #[.string ⟨#[]⟩, .string ⟨#[]⟩, .string ⟨#[]⟩] }),
   (131, { k := .struct [(3, 0), (3, 1), (24, 2)], size := 3, bytes := 40, zero := .agg #[.int .i64 0, .int .i64 0, .slice none 0 0] }),
   (132, { k := .struct [(3, 0), (3, 1), (24, 2)], size := 3, bytes := 40, zero := .agg #[.int .i64 0, .int .i64 0, .slice none 0 0] }),
   (143, { k := .struct [(9, 0), (9, 1), (9, 2), (3, 3), (43, 4), (9, 10)], size := 11, bytes := 160, zero := .agg #[.string ⟨#[]⟩, .string ⟨#[]⟩, .string ⟨#[]⟩, .int .i64 0, .int .i64 0, .bool false, .int .i64 0, .string ⟨#[]⟩, .slice none 0 0, .slice none 0 0, .string ⟨#[]⟩] }),
   (144, { k := .struct [(9, 0), (9, 1), (9, 2), (3, 3), (43, 4), (9, 10)], size := 11, bytes := 160, zero := .agg #[.string ⟨#[]⟩, .string ⟨#[]⟩, .string ⟨#[]⟩, .int .i64 0, .int .i64 0, .bool false, .int .i64 0, .string ⟨#[]⟩, .slice none 0 0, .slice none 0 0, .string ⟨#[]⟩] }),
   (150, { k := .struct [(44, 0), (44, 1)], size := 2, bytes := 48, zero := .agg #[.slice none 0 0, .slice none 0 0] }),
   (151, { k := .struct [(44, 0), (44, 1)], size := 2, bytes := 48, zero := .agg #[.slice none 0 0, .slice none 0 0] }),
   (160, { k := .struct [(3, 0), (3, 1), (3, 2), (3, 3), (74, 4)], size := 5, bytes := 56, zero := .agg #[.int .i64 0, .int .i64 0, .int .i64 0, .int .i64 0, .slice none 0 0] }),
   (161, { k := .struct [(3, 0), (3, 1), (3, 2), (3, 3), (74, 4)], size := 5, bytes := 56, zero := .agg #[.int .i64 0, .int .i64 0, .int .i64 0, .int .i64 0, .slice none 0 0] }),
   (164, { k := .struct [(9, 0), (9, 1)], size := 2, bytes := 32, zero := .agg #[.string ⟨#[]⟩, .string ⟨#[]⟩] }),
   (165, { k := .struct [(9, 0), (9, 1)], size := 2, bytes := 32, zero := .agg #[.string ⟨#[]⟩, .string ⟨#[]⟩] }),
   (168, { k := .sl 250, size := 1, bytes := 24, zero := .slice none 0 0 }),
   (169, { k := .struct [(3, 0), (9, 1), (168, 2)], size := 3, bytes := 48, zero := .agg #[.int .i64 0, .string ⟨#[]⟩, .slice none 0 0] }),
   (170, { k := .struct [(3, 0), (9, 1), (168, 2)], size := 3, bytes := 48, zero := .agg #[.int .i64 0, .string ⟨#[]⟩, .slice none 0 0] }),
   (175, { k := .struct [(9, 0), (24, 1)], size := 2, bytes := 40, zero := .agg #[.string ⟨#[]⟩, .slice none 0 0] }),
   (176, { k := .struct [(9, 0), (24, 1)], size := 2, bytes := 40, zero := .agg #[.string ⟨#[]⟩, .slice none 0 0] }),
   (183, { k := .struct [(9, 0), (9, 1), (9, 2), (9, 3), (3, 4), (43, 5), (9, 11), (23, 12)], size := 13, bytes := 200, zero := .agg #[.string ⟨#[]⟩, .string ⟨#[]⟩, .string ⟨#[]⟩, .string ⟨#[]⟩, .int .i64 0, .int .i64 0, .bool false, .int .i64 0, .string ⟨#[]⟩, .slice none 0 0, .slice none 0 0, .string ⟨#[]⟩, .slice none 0 0] }),
   (184, { k := .struct [(9, 0), (9, 1), (9, 2), (9, 3), (3, 4), (43, 5), (9, 11), (23, 12)], size := 13, bytes := 200, zero := .agg #[.string ⟨#[]⟩, .string ⟨#[]⟩, .string ⟨#[]⟩, .string ⟨#[]⟩, .int .i64 0, .int .i64 0, .bool false, .int .i64 0, .string ⟨#[]⟩, .slice none 0 0, .slice none 0 0, .string ⟨#[]⟩, .slice none 0 0] }),
   (188, { k := .struct [(9, 0), (9, 1), (9, 2), (87, 3)], size := 4, bytes := 72, zero := .agg #[.string ⟨#[]⟩, .string ⟨#[]⟩, .string ⟨#[]⟩, .slice none 0 0] }),
   (189, { k := .struct [(9, 0), (9, 1), (9, 2), (87, 3)], size := 4, bytes := 72, zero := .agg #[.string ⟨#[]⟩, .string ⟨#[]⟩, .string ⟨#[]⟩, .slice none 0 0] }),
   (193, { k := .struct [(9, 0), (9, 1)], size := 2, bytes := 32, zero := .agg #[.string ⟨#[]⟩, .string ⟨#[]⟩] }),
   (194, { k := .struct [(9, 0), (9, 1)], size := 2, bytes := 32, zero := .agg #[.string ⟨#[]⟩, .string ⟨#[]⟩] }),
   (197, { k := .struct [(9, 0), (3, 1), (9, 2)], size := 3, bytes := 40, zero := .agg #[.string ⟨#[]⟩, .int .i64 0, .string ⟨#[]⟩] }),
   (198, { k := .struct [(9, 0), (3, 1), (9, 2)], size := 3, bytes := 40, zero := .agg #[.string ⟨#[]⟩, .int .i64 0, .string ⟨#[]⟩] }),
   (203, { k := .struct [(43, 0), (24, 6)], size := 7, bytes := 112, zero := .agg #[.int .i64 0, .bool false, .int .i64 0, .string ⟨#[]⟩, .slice none 0 0, .slice none 0 0, .slice none 0 0] }),
   (204, { k := .struct [(43, 0), (24, 6)], size := 7, bytes := 112, zero := .agg #[.int .i64 0, .bool false, .int .i64 0, .string ⟨#[]⟩, .slice none 0 0, .slice none 0 0, .slice none 0 0] }),
   (208, { k := .struct [(3, 0), (3, 1), (24, 2)], size := 3, bytes := 40, zero := .agg #[.int .i64 0, .int .i64 0, .slice none 0 0] }),
   (209, { k := .struct [(3, 0), (3, 1), (24, 2)], size := 3, bytes := 40, zero := .agg #[.int .i64 0, .int .i64 0, .slice none 0 0] }),
   (213, { k := .struct [(9, 0), (9, 1), (24, 2)], size := 3, bytes := 56, zero := .agg #[.string ⟨#[]⟩, .string ⟨#[]⟩, .slice none 0 0] }),
   (214, { k := .struct [(9, 0), (9, 1), (24, 2)], size := 3, bytes := 56, zero := .agg #[.string ⟨#[]⟩, .string ⟨#[]⟩, .slice none 0 0] }),
   (249, { k := .struct [(9, 0), (3, 1), (3, 2), (80, 3)], size := 4, bytes := 56, zero := .agg #[.string ⟨#[]⟩, .int .i64 0, .int .i64 0, .slice none 0 0] }),
   (250, { k := .struct [(9, 0), (3, 1), (3, 2), (80, 3)], size := 4, bytes := 56, zero := .agg #[.string ⟨#[]⟩, .int .i64 0, .int .i64 0, .slice none 0 0] }),
   (258, { k := .int .i64, size := 1, bytes := 8, zero := .int .i64 0 }),
   (259, { k := .int .u64, size := 1, bytes := 8, zero := .int .u64 0 }),
   (262, { k := .int .u64, size := 1, bytes := 8, zero := .int .u64 0 }),
   (278, { k := .sl 23, size := 1, bytes := 24, zero := .slice none 0 0 }),
   (283, { k := .struct [(9, 0), (9, 1), (55, 2)], size := 3, bytes := 48, zero := .agg #[.string ⟨#[]⟩, .string ⟨#[]⟩, .nilIface] }),
   (284, { k := .struct [(9, 0), (9, 1), (55, 2)], size := 3, bytes := 48, zero := .agg #[.string ⟨#[]⟩, .string ⟨#[]⟩, .nilIface] }),
   (296, { k := .int .u32, size := 1, bytes := 4, zero := .int .u32 0 }),
   (300, { k := .struct [(5, 0), (5, 1)], size := 2, bytes := 2, zero := .agg #[.int .u8 0, .int .u8 0] }),
   (301, { k := .struct [(5, 0), (5, 1)], size := 2, bytes := 2, zero := .agg #[.int .u8 0, .int .u8 0] }),
   (302, { k := .arr 16 301, size := 32, bytes := 32, zero := .agg #[.int .u8 0, .int .u8 0, .int .u8 0, .int .u8 0, .int .u8 0, .int .u8 0, .int .u8 0, .int .u8 0, .int .u8 0, .int .u8 0, .int .u8 0, .int .u8 0, .int .u8 0, .int .u8 0, .int .u8 0, .int .u8 0, .int .u8 0, .int .u8 0, .int .u8 0, .int .u8 0, .int .u8 0, .int .u8 0, .int .u8 0, .int .u8 0, .int .u8 0, .int .u8 0, .int .u8 0, .int .u8 0, .int .u8 0, .int .u8 0, .int .u8 0, .int .u8 0] }),
   (305, { k := .struct [(9, 0)], size := 1, bytes := 16, zero := .agg #[.string ⟨#[]⟩] }),
   (306, { k := .struct [(9, 0)], size := 1, bytes := 16, zero := .agg #[.string ⟨#[]⟩] }),
   (309, { k := .int .i64, size := 1, bytes := 8, zero := .int .i64 0 }),
   (318, { k := .int .u64, size := 1, bytes := 8, zero := .int .u64 0 }),
   (324, { k := .arr 24 5, size := 24, bytes := 24, zero := .agg #[.int .u8 0, .int .u8 0, .int .u8 0, .int .u8 0, .int .u8 0, .int .u8 0, .int .u8 0, .int .u8 0, .int .u8 0, .int .u8 0, .int .u8 0, .int .u8 0, .int .u8 0, .int .u8 0, .int .u8 0, .int .u8 0, .int .u8 0, .int .u8 0, .int .u8 0, .int .u8 0, .int .u8 0, .int .u8 0, .int .u8 0, .int .u8 0] }),
   (331, { k := .arr 20 259, size := 20, bytes := 160, zero := .agg #[.int .u64 0, .int .u64 0, .int .u64 0, .int .u64 0, .int .u64 0, .int .u64 0, .int .u64 0, .int .u64 0, .int .u64 0, .int .u64 0, .int .u64 0, .int .u64 0, .int .u64 0, .int .u64 0, .int .u64 0, .int .u64 0, .int .u64 0, .int .u64 0, .int .u64 0, .int .u64 0] }),
   (333, { k := .arr 32 5, size := 32, bytes := 32, zero := .agg #[.int .u8 0, .int .u8 0, .int .u8 0, .int .u8 0, .int .u8 0, .int .u8 0, .int .u8 0, .int .u8 0, .int .u8 0, .int .u8 0, .int .u8 0, .int .u8 0, .int .u8 0, .int .u8 0, .int .u8 0, .int .u8 0, .int .u8 0, .int .u8 0, .int .u8 0, .int .u8 0, .int .u8 0, .int .u8 0, .int .u8 0, .int .u8 0, .int .u8 0, .int .u8 0, .int .u8 0, .int .u8 0, .int .u8 0, .int .u8 0, .int .u8 0, .int .u8 0] }),
   (335, { k := .struct [(17, 0), (17, 1), (17, 2), (9, 3)], size := 4, bytes := 40, zero := .agg #[.pointer none, .pointer none, .pointer none, .string ⟨#[]⟩] }),
   (336, { k := .struct [(17, 0), (17, 1), (17, 2), (9, 3)], size := 4, bytes := 40, zero := .agg #[.pointer none, .pointer none, .pointer none, .string ⟨#[]⟩] }),
   (340, { k := .int .u8, size := 1, bytes := 1, zero := .int .u8 0 }),
   (341, { k := .int .u8, size := 1, bytes := 1, zero := .int .u8 0 }),
   (343, { k := .int .i32, size := 1, bytes := 4, zero := .int .i32 0 }),
   (344, { k := .int .i32, size := 1, bytes := 4, zero := .int .i32 0 }),
   (345, { k := .struct [(12, 0), (12, 1), (296, 2), (340, 3), (5, 4), (5, 5), (341, 6), (342, 7), (155, 8), (343, 9), (344, 10)], size := 11, bytes := 48, zero := .agg #[.int .u64 0, .int .u64 0, .int .u32 0, .int .u8 0, .int .u8 0, .int .u8 0, .int .u8 0, .nilFunc, .pointer none, .int .i32 0, .int .i32 0] }),
   (346, { k := .struct [(12, 0), (12, 1), (296, 2), (340, 3), (5, 4), (5, 5), (341, 6), (342, 7), (155, 8), (343, 9), (344, 10)], size := 11, bytes := 48, zero := .agg #[.int .u64 0, .int .u64 0, .int .u32 0, .int .u8 0, .int .u8 0, .int .u8 0, .int .u8 0, .nilFunc, .pointer none, .int .i32 0, .int .i32 0] }),
   (349, { k := .arr 2 9, size := 2, bytes := 32, zero := .agg #[.string ⟨#[]⟩, .string ⟨#[]⟩] }),
   (1, { k := .func, size := 1, bytes := 8, zero := .nilFunc }),
   (15, { k := .ptr, size := 1, bytes := 8, zero := .pointer none }),
   (16, { k := .ptr, size := 1, bytes := 8, zero := .pointer none }),
   (17, { k := .ptr, size := 1, bytes := 8, zero := .pointer none }),
   (20, { k := .ifc, size := 1, bytes := 16, zero := .nilIface }),
   (29, { k := .func, size := 1, bytes := 8, zero := .nilFunc }),
   (30, { k := .func, size := 1, bytes := 8, zero := .nilFunc }),
   (31, { k := .func, size := 1, bytes := 8, zero := .nilFunc }),
   (32, { k := .func, size := 1, bytes := 8, zero := .nilFunc }),
   (33, { k := .func, size := 1, bytes := 8, zero := .nilFunc }),
   (39, { k := .func, size := 1, bytes := 8, zero := .nilFunc }),
   (40, { k := .func, size := 1, bytes := 8, zero := .nilFunc }),
   (46, { k := .func, size := 1, bytes := 8, zero := .nilFunc }),
   (47, { k := .func, size := 1, bytes := 8, zero := .nilFunc }),
   (50, { k := .ptr, size := 1, bytes := 8, zero := .pointer none }),
   (54, { k := .ifc, size := 1, bytes := 16, zero := .nilIface }),
   (55, { k := .ifc, size := 1, bytes := 16, zero := .nilIface }),
   (57, { k := .func, size := 1, bytes := 8, zero := .nilFunc }),
   (58, { k := .func, size := 1, bytes := 8, zero := .nilFunc }),
   (59, { k := .func, size := 1, bytes := 8, zero := .nilFunc }),
   (60, { k := .func, size := 1, bytes := 8, zero := .nilFunc }),
   (61, { k := .func, size := 1, bytes := 8, zero := .nilFunc }),
   (62, { k := .func, size := 1, bytes := 8, zero := .nilFunc }),
   (63, { k := .func, size := 1, bytes := 8, zero := .nilFunc }),
   (65, { k := .func, size := 1, bytes := 8, zero := .nilFunc }),
   (68, { k := .func, size := 1, bytes := 8, zero := .nilFunc }),
   (71, { k := .func, size := 1, bytes := 8, zero := .nilFunc }),
   (73, { k := .func, size := 1, bytes := 8, zero := .nilFunc }),
   (97, { k := .func, size := 1, bytes := 8, zero := .nilFunc }),
   (100, { k := .func, size := 1, bytes := 8, zero := .nilFunc }),
   (105, { k := .func, size := 1, bytes := 8, zero := .nilFunc }),
   (108, { k := .func, size := 1, bytes := 8, zero := .nilFunc }),
   (111, { k := .func, size := 1, bytes := 8, zero := .nilFunc }),
   (115, { k := .func, size := 1, bytes := 8, zero := .nilFunc }),
   (118, { k := .func, size := 1, bytes := 8, zero := .nilFunc }),
   (123, { k := .func, size := 1, bytes := 8, zero := .nilFunc }),
   (128, { k := .func, size := 1, bytes := 8, zero := .nilFunc }),
   (135, { k := .func, size := 1, bytes := 8, zero := .nilFunc }),
   (137, { k := .func, size := 1, bytes := 8, zero := .nilFunc }),
   (138, { k := .func, size := 1, bytes := 8, zero := .nilFunc }),
   (139, { k := .func, size := 1, bytes := 8, zero := .nilFunc }),
   (141, { k := .func, size := 1, bytes := 8, zero := .nilFunc }),
   (142, { k := .func, size := 1, bytes := 8, zero := .nilFunc }),
   (145, { k := .func, size := 1, bytes := 8, zero := .nilFunc }),
   (146, { k := .func, size := 1, bytes := 8, zero := .nilFunc }),
   (147, { k := .func, size := 1, bytes := 8, zero := .nilFunc }),
   (148, { k := .func, size := 1, bytes := 8, zero := .nilFunc }),
   (149, { k := .ptr, size := 1, bytes := 8, zero := .pointer none }),
   (152, { k := .func, size := 1, bytes := 8, zero := .nilFunc }),
   (154, { k := .func, size := 1, bytes := 8, zero := .nilFunc }),
   (155, { k := .ptr, size := 1, bytes := 8, zero := .pointer none }),
   (156, { k := .func, size := 1, bytes := 8, zero := .nilFunc }),
   (157, { k := .func, size := 1, bytes := 8, zero := .nilFunc }),
   (159, { k := .func, size := 1, bytes := 8, zero := .nilFunc }),
   (162, { k := .func, size := 1, bytes := 8, zero := .nilFunc }),
   (163, { k := .func, size := 1, bytes := 8, zero := .nilFunc }),
   (167, { k := .func, size := 1, bytes := 8, zero := .nilFunc }),
   (171, { k := .func, size := 1, bytes := 8, zero := .nilFunc }),
   (174, { k := .func, size := 1, bytes := 8, zero := .nilFunc }),
   (177, { k := .func, size := 1, bytes := 8, zero := .nilFunc }),
   (179, { k := .func, size := 1, bytes := 8, zero := .nilFunc }),
   (180, { k := .func, size := 1, bytes := 8, zero := .nilFunc }),
   (182, { k := .func, size := 1, bytes := 8, zero := .nilFunc }),
   (185, { k := .func, size := 1, bytes := 8, zero := .nilFunc }),
   (187, { k := .func, size := 1, bytes := 8, zero := .nilFunc }),
   (190, { k := .func, size := 1, bytes := 8, zero := .nilFunc }),
   (192, { k := .func, size := 1, bytes := 8, zero := .nilFunc }),
   (196, { k := .func, size := 1, bytes := 8, zero := .nilFunc }),
   (200, { k := .func, size := 1, bytes := 8, zero := .nilFunc }),
   (202, { k := .func, size := 1, bytes := 8, zero := .nilFunc }),
   (205, { k := .func, size := 1, bytes := 8, zero := .nilFunc }),
   (207, { k := .func, size := 1, bytes := 8, zero := .nilFunc }),
   (210, { k := .func, size := 1, bytes := 8, zero := .nilFunc }),
   (212, { k := .func, size := 1, bytes := 8, zero := .nilFunc }),
   (215, { k := .func, size := 1, bytes := 8, zero := .nilFunc }),
   (216, { k := .func, size := 1, bytes := 8, zero := .nilFunc }),
   (217, { k := .func, size := 1, bytes := 8, zero := .nilFunc }),
   (218, { k := .func, size := 1, bytes := 8, zero := .nilFunc }),
   (222, { k := .func, size := 1, bytes := 8, zero := .nilFunc }),
   (223, { k := .func, size := 1, bytes := 8, zero := .nilFunc }),
   (224, { k := .ptr, size := 1, bytes := 8, zero := .pointer none }),
   (225, { k := .func, size := 1, bytes := 8, zero := .nilFunc }),
   (226, { k := .func, size := 1, bytes := 8, zero := .nilFunc }),
   (227, { k := .func, size := 1, bytes := 8, zero := .nilFunc }),
   (228, { k := .func, size := 1, bytes := 8, zero := .nilFunc }),
   (229, { k := .func, size := 1, bytes := 8, zero := .nilFunc }),
   (231, { k := .func, size := 1, bytes := 8, zero := .nilFunc }),
   (232, { k := .func, size := 1, bytes := 8, zero := .nilFunc }),
   (233, { k := .func, size := 1, bytes := 8, zero := .nilFunc }),
   (234, { k := .func, size := 1, bytes := 8, zero := .nilFunc }),
   (235, { k := .func, size := 1, bytes := 8, zero := .nilFunc }),
   (236, { k := .func, size := 1, bytes := 8, zero := .nilFunc }),
   (237, { k := .func, size := 1, bytes := 8, zero := .nilFunc }),
   (238, { k := .func, size := 1, bytes := 8, zero := .nilFunc }),
   (239, { k := .func, size := 1, bytes := 8, zero := .nilFunc }),
   (240, { k := .func, size := 1, bytes := 8, zero := .nilFunc }),
   (241, { k := .func, size := 1, bytes := 8, zero := .nilFunc }),
   (242, { k := .func, size := 1, bytes := 8, zero := .nilFunc }),
   (243, { k := .func, size := 1, bytes := 8, zero := .nilFunc }),
   (245, { k := .func, size := 1, bytes := 8, zero := .nilFunc }),
   (246, { k := .func, size := 1, bytes := 8, zero := .nilFunc }),
   (247, { k := .func, size := 1, bytes := 8, zero := .nilFunc }),
   (248, { k := .func, size := 1, bytes := 8, zero := .nilFunc }),
   (251, { k := .func, size := 1, bytes := 8, zero := .nilFunc }),
   (252, { k := .func, size := 1, bytes := 8, zero := .nilFunc }),
   (253, { k := .func, size := 1, bytes := 8, zero := .nilFunc }),
   (254, { k := .func, size := 1, bytes := 8, zero := .nilFunc }),
   (256, { k := .func, size := 1, bytes := 8, zero := .nilFunc }),
   (257, { k := .func, size := 1, bytes := 8, zero := .nilFunc }),
   (261, { k := .func, size := 1, bytes := 8, zero := .nilFunc }),
   (263, { k := .ptr, size := 1, bytes := 8, zero := .pointer none }),
   (264, { k := .func, size := 1, bytes := 8, zero := .nilFunc }),
   (265, { k := .func, size := 1, bytes := 8, zero := .nilFunc }),
   (267, { k := .func, size := 1, bytes := 8, zero := .nilFunc }),
   (269, { k := .func, size := 1, bytes := 8, zero := .nilFunc }),
   (270, { k := .func, size := 1, bytes := 8, zero := .nilFunc }),
   (271, { k := .func, size := 1, bytes := 8, zero := .nilFunc }),
   (273, { k := .func, size := 1, bytes := 8, zero := .nilFunc }),
   (274, { k := .func, size := 1, bytes := 8, zero := .nilFunc }),
   (275, { k := .func, size := 1, bytes := 8, zero := .nilFunc }),
   (276, { k := .func, size := 1, bytes := 8, zero := .nilFunc }),
   (277, { k := .func, size := 1, bytes := 8, zero := .nilFunc }),
   (279, { k := .func, size := 1, bytes := 8, zero := .nilFunc }),
   (280, { k := .func, size := 1, bytes := 8, zero := .nilFunc }),
   (281, { k := .func, size := 1, bytes := 8, zero := .nilFunc }),
   (282, { k := .func, size := 1, bytes := 8, zero := .nilFunc }),
   (285, { k := .func, size := 1, bytes := 8, zero := .nilFunc }),
   (286, { k := .func, size := 1, bytes := 8, zero := .nilFunc }),
   (287, { k := .func, size := 1, bytes := 8, zero := .nilFunc }),
   (288, { k := .func, size := 1, bytes := 8, zero := .nilFunc }),
   (289, { k := .map .str 9 3, size := 1, bytes := 8, zero := .map none }),
   (290, { k := .func, size := 1, bytes := 8, zero := .nilFunc }),
   (291, { k := .func, size := 1, bytes := 8, zero := .nilFunc }),
   (292, { k := .func, size := 1, bytes := 8, zero := .nilFunc }),
   (293, { k := .func, size := 1, bytes := 8, zero := .nilFunc }),
   (294, { k := .func, size := 1, bytes := 8, zero := .nilFunc }),
   (295, { k := .func, size := 1, bytes := 8, zero := .nilFunc }),
   (298, { k := .func, size := 1, bytes := 8, zero := .nilFunc }),
   (303, { k := .func, size := 1, bytes := 8, zero := .nilFunc }),
   (304, { k := .ptr, size := 1, bytes := 8, zero := .pointer none }),
   (307, { k := .func, size := 1, bytes := 8, zero := .nilFunc }),
   (308, { k := .func, size := 1, bytes := 8, zero := .nilFunc }),
   (311, { k := .func, size := 1, bytes := 8, zero := .nilFunc }),
   (312, { k := .func, size := 1, bytes := 8, zero := .nilFunc }),
   (313, { k := .func, size := 1, bytes := 8, zero := .nilFunc }),
   (314, { k := .func, size := 1, bytes := 8, zero := .nilFunc }),
   (315, { k := .func, size := 1, bytes := 8, zero := .nilFunc }),
   (316, { k := .func, size := 1, bytes := 8, zero := .nilFunc }),
   (317, { k := .func, size := 1, bytes := 8, zero := .nilFunc }),
   (319, { k := .func, size := 1, bytes := 8, zero := .nilFunc }),
   (320, { k := .func, size := 1, bytes := 8, zero := .nilFunc }),
   (321, { k := .func, size := 1, bytes := 8, zero := .nilFunc }),
   (322, { k := .ptr, size := 1, bytes := 8, zero := .pointer none }),
   (323, { k := .func, size := 1, bytes := 8, zero := .nilFunc }),
   (325, { k := .func, size := 1, bytes := 8, zero := .nilFunc }),
   (327, { k := .func, size := 1, bytes := 8, zero := .nilFunc }),
   (328, { k := .ptr, size := 1, bytes := 8, zero := .pointer none }),
   (330, { k := .func, size := 1, bytes := 8, zero := .nilFunc }),
   (342, { k := .func, size := 1, bytes := 8, zero := .nilFunc }),
   (347, { k := .func, size := 1, bytes := 8, zero := .nilFunc })]
def tyT (t : TypeId) : TyI := match findB tyTab t with | some i => i | none => { k := .other, size := 0, bytes := 0, zero := .bool false }
theorem ty_info {P : Program} {t : TypeId} {s b : Nat} {z : Value} (h : (P.info? t).map (fun i => (i.size, i.bytes, i.zero)) = some (s, b, some z)) : ∃ j, P.info? t = some j ∧ j.size = s ∧ j.bytes = b ∧ j.zero = some z := by
  cases hi : P.info? t with
  | none => rw [hi] at h; cases h
  | some j =>
    rw [hi] at h
    simp only [Option.map_some, Option.some.injEq, Prod.mk.injEq] at h
    exact ⟨j, rfl, h.1, h.2.1, h.2.2⟩
theorem int_wf {n : Int} (h1 : -9223372036854775808 ≤ n) (h2 : n ≤ 9223372036854775807) : (Lit.int .i64 n).wf = true := by
  simp only [Lit.wf, Bool.and_eq_true, decide_eq_true_eq]
  exact ⟨h1, h2⟩
theorem ty_has {P : Program} {t : TypeId} (h : (P.info? t).map (fun i => i.size != 0) = some true) : ∃ i, P.info? t = some i ∧ i.size ≠ 0 := by
  cases hi : P.info? t with
  | none => rw [hi] at h; cases h
  | some j =>
    rw [hi] at h
    exact ⟨j, rfl, by simpa using h⟩
theorem tyOk2 : TyOk Tryz.prog 2 { k := .int .i64, size := 1, bytes := 8, zero := .int .i64 0 } :=
  ⟨Tryz.underlying2, by decide, by decide, by decide, by decide, by decide, ty_info (by kernel_rfl)⟩
theorem tyOk3 : TyOk Tryz.prog 3 { k := .int .i64, size := 1, bytes := 8, zero := .int .i64 0 } :=
  ⟨Tryz.underlying3, by decide, by decide, by decide, by decide, by decide, ty_info (by kernel_rfl)⟩
theorem tyOk4 : TyOk Tryz.prog 4 { k := .bool, size := 1, bytes := 1, zero := .bool false } :=
  ⟨Tryz.underlying4, by decide, by decide, by decide, by decide, by decide, ty_info (by kernel_rfl)⟩
theorem tyOk5 : TyOk Tryz.prog 5 { k := .int .u8, size := 1, bytes := 1, zero := .int .u8 0 } :=
  ⟨Tryz.underlying5, by decide, by decide, by decide, by decide, by decide, ty_info (by kernel_rfl)⟩
theorem tyOk6 : TyOk Tryz.prog 6 { k := .int .u8, size := 1, bytes := 1, zero := .int .u8 0 } :=
  ⟨Tryz.underlying6, by decide, by decide, by decide, by decide, by decide, ty_info (by kernel_rfl)⟩
theorem tyOk7 : TyOk Tryz.prog 7 { k := .struct [(2, 0), (3, 1), (4, 2), (6, 3)], size := 4, bytes := 24, zero := .agg #[.int .i64 0, .int .i64 0, .bool false, .int .u8 0] } :=
  ⟨⟨_, Tryz.underlying7, rfl, by
      intro F hF
      simp only [List.mem_cons, List.not_mem_nil, or_false] at hF
      rcases hF with rfl | rfl | rfl | rfl
      · exact ty_has (by kernel_rfl)
      · exact ty_has (by kernel_rfl)
      · exact ty_has (by kernel_rfl)
      · exact ty_has (by kernel_rfl)⟩, by decide, by decide, by decide, by decide, by decide, ty_info (by kernel_rfl)⟩
theorem tyOk8 : TyOk Tryz.prog 8 { k := .struct [(2, 0), (3, 1), (4, 2), (6, 3)], size := 4, bytes := 24, zero := .agg #[.int .i64 0, .int .i64 0, .bool false, .int .u8 0] } :=
  ⟨⟨_, Tryz.underlying8, rfl, by
      intro F hF
      simp only [List.mem_cons, List.not_mem_nil, or_false] at hF
      rcases hF with rfl | rfl | rfl | rfl
      · exact ty_has (by kernel_rfl)
      · exact ty_has (by kernel_rfl)
      · exact ty_has (by kernel_rfl)
      · exact ty_has (by kernel_rfl)⟩, by decide, by decide, by decide, by decide, by decide, ty_info (by kernel_rfl)⟩
theorem tyOk9 : TyOk Tryz.prog 9 { k := .str, size := 1, bytes := 16, zero := .string ⟨#[]⟩ } :=
  ⟨Tryz.underlying9, by decide, by decide, by decide, by decide, by decide, ty_info (by kernel_rfl)⟩
theorem tyOk10 : TyOk Tryz.prog 10 { k := .str, size := 1, bytes := 16, zero := .string ⟨#[]⟩ } :=
  ⟨Tryz.underlying10, by decide, by decide, by decide, by decide, by decide, ty_info (by kernel_rfl)⟩
theorem tyOk11 : TyOk Tryz.prog 11 { k := .str, size := 1, bytes := 16, zero := .string ⟨#[]⟩ } :=
  ⟨Tryz.underlying11, by decide, by decide, by decide, by decide, by decide, ty_info (by kernel_rfl)⟩
theorem tyOk12 : TyOk Tryz.prog 12 { k := .int .u64, size := 1, bytes := 8, zero := .int .u64 0 } :=
  ⟨Tryz.underlying12, by decide, by decide, by decide, by decide, by decide, ty_info (by kernel_rfl)⟩
theorem tyOk13 : TyOk Tryz.prog 13 { k := .struct [(9, 0), (12, 1)], size := 2, bytes := 24, zero := .agg #[.string ⟨#[]⟩, .int .u64 0] } :=
  ⟨⟨_, Tryz.underlying13, rfl, by
      intro F hF
      simp only [List.mem_cons, List.not_mem_nil, or_false] at hF
      rcases hF with rfl | rfl
      · exact ty_has (by kernel_rfl)
      · exact ty_has (by kernel_rfl)⟩, by decide, by decide, by decide, by decide, by decide, ty_info (by kernel_rfl)⟩
theorem tyOk14 : TyOk Tryz.prog 14 { k := .struct [(9, 0), (12, 1)], size := 2, bytes := 24, zero := .agg #[.string ⟨#[]⟩, .int .u64 0] } :=
  ⟨⟨_, Tryz.underlying14, rfl, by
      intro F hF
      simp only [List.mem_cons, List.not_mem_nil, or_false] at hF
      rcases hF with rfl | rfl
      · exact ty_has (by kernel_rfl)
      · exact ty_has (by kernel_rfl)⟩, by decide, by decide, by decide, by decide, by decide, ty_info (by kernel_rfl)⟩
theorem tyOk18 : TyOk Tryz.prog 18 { k := .struct [(17, 0)], size := 1, bytes := 8, zero := .agg #[.pointer none] } :=
  ⟨⟨_, Tryz.underlying18, rfl, by
      intro F hF
      simp only [List.mem_cons, List.not_mem_nil, or_false] at hF
      rcases hF with rfl
      · exact ty_has (by kernel_rfl)⟩, by decide, by decide, by decide, by decide, by decide, ty_info (by kernel_rfl)⟩
theorem tyOk19 : TyOk Tryz.prog 19 { k := .struct [(17, 0)], size := 1, bytes := 8, zero := .agg #[.pointer none] } :=
  ⟨⟨_, Tryz.underlying19, rfl, by
      intro F hF
      simp only [List.mem_cons, List.not_mem_nil, or_false] at hF
      rcases hF with rfl
      · exact ty_has (by kernel_rfl)⟩, by decide, by decide, by decide, by decide, by decide, ty_info (by kernel_rfl)⟩
theorem tyOk21 : TyOk Tryz.prog 21 { k := .int .i32, size := 1, bytes := 4, zero := .int .i32 0 } :=
  ⟨Tryz.underlying21, by decide, by decide, by decide, by decide, by decide, ty_info (by kernel_rfl)⟩
theorem tyOk22 : TyOk Tryz.prog 22 { k := .sl 49, size := 1, bytes := 24, zero := .slice none 0 0 } :=
  ⟨Tryz.underlying22, by decide, by decide, by decide, by decide, by decide, ty_info (by kernel_rfl)⟩
theorem tyOk23 : TyOk Tryz.prog 23 { k := .sl 9, size := 1, bytes := 24, zero := .slice none 0 0 } :=
  ⟨Tryz.underlying23, by decide, by decide, by decide, by decide, by decide, ty_info (by kernel_rfl)⟩
theorem tyOk24 : TyOk Tryz.prog 24 { k := .sl 3, size := 1, bytes := 24, zero := .slice none 0 0 } :=
  ⟨Tryz.underlying24, by decide, by decide, by decide, by decide, by decide, ty_info (by kernel_rfl)⟩
theorem tyOk25 : TyOk Tryz.prog 25 { k := .struct [(9, 0), (23, 1), (24, 2)], size := 3, bytes := 64, zero := .agg #[.string ⟨#[]⟩, .slice none 0 0, .slice none 0 0] } :=
  ⟨⟨_, Tryz.underlying25, rfl, by
      intro F hF
      simp only [List.mem_cons, List.not_mem_nil, or_false] at hF
      rcases hF with rfl | rfl | rfl
      · exact ty_has (by kernel_rfl)
      · exact ty_has (by kernel_rfl)
      · exact ty_has (by kernel_rfl)⟩, by decide, by decide, by decide, by decide, by decide, ty_info (by kernel_rfl)⟩
theorem tyOk26 : TyOk Tryz.prog 26 { k := .struct [(9, 0), (23, 1), (24, 2)], size := 3, bytes := 64, zero := .agg #[.string ⟨#[]⟩, .slice none 0 0, .slice none 0 0] } :=
  ⟨⟨_, Tryz.underlying26, rfl, by
      intro F hF
      simp only [List.mem_cons, List.not_mem_nil, or_false] at hF
      rcases hF with rfl | rfl | rfl
      · exact ty_has (by kernel_rfl)
      · exact ty_has (by kernel_rfl)
      · exact ty_has (by kernel_rfl)⟩, by decide, by decide, by decide, by decide, by decide, ty_info (by kernel_rfl)⟩
theorem tyOk27 : TyOk Tryz.prog 27 { k := .int .i64, size := 1, bytes := 8, zero := .int .i64 0 } :=
  ⟨Tryz.underlying27, by decide, by decide, by decide, by decide, by decide, ty_info (by kernel_rfl)⟩
theorem tyOk34 : TyOk Tryz.prog 34 { k := .sl 144, size := 1, bytes := 24, zero := .slice none 0 0 } :=
  ⟨Tryz.underlying34, by decide, by decide, by decide, by decide, by decide, ty_info (by kernel_rfl)⟩
theorem tyOk35 : TyOk Tryz.prog 35 { k := .struct [(3, 0), (3, 1)], size := 2, bytes := 16, zero := .agg #[.int .i64 0, .int .i64 0] } :=
  ⟨⟨_, Tryz.underlying35, rfl, by
      intro F hF
      simp only [List.mem_cons, List.not_mem_nil, or_false] at hF
      rcases hF with rfl | rfl
      · exact ty_has (by kernel_rfl)
      · exact ty_has (by kernel_rfl)⟩, by decide, by decide, by decide, by decide, by decide, ty_info (by kernel_rfl)⟩
theorem tyOk36 : TyOk Tryz.prog 36 { k := .struct [(3, 0), (3, 1)], size := 2, bytes := 16, zero := .agg #[.int .i64 0, .int .i64 0] } :=
  ⟨⟨_, Tryz.underlying36, rfl, by
      intro F hF
      simp only [List.mem_cons, List.not_mem_nil, or_false] at hF
      rcases hF with rfl | rfl
      · exact ty_has (by kernel_rfl)
      · exact ty_has (by kernel_rfl)⟩, by decide, by decide, by decide, by decide, by decide, ty_info (by kernel_rfl)⟩
theorem tyOk37 : TyOk Tryz.prog 37 { k := .struct [(9, 0), (36, 1), (27, 3)], size := 4, bytes := 40, zero := .agg #[.string ⟨#[]⟩, .int .i64 0, .int .i64 0, .int .i64 0] } :=
  ⟨⟨_, Tryz.underlying37, rfl, by
      intro F hF
      simp only [List.mem_cons, List.not_mem_nil, or_false] at hF
      rcases hF with rfl | rfl | rfl
      · exact ty_has (by kernel_rfl)
      · exact ty_has (by kernel_rfl)
      · exact ty_has (by kernel_rfl)⟩, by decide, by decide, by decide, by decide, by decide, ty_info (by kernel_rfl)⟩
theorem tyOk38 : TyOk Tryz.prog 38 { k := .struct [(9, 0), (36, 1), (27, 3)], size := 4, bytes := 40, zero := .agg #[.string ⟨#[]⟩, .int .i64 0, .int .i64 0, .int .i64 0] } :=
  ⟨⟨_, Tryz.underlying38, rfl, by
      intro F hF
      simp only [List.mem_cons, List.not_mem_nil, or_false] at hF
      rcases hF with rfl | rfl | rfl
      · exact ty_has (by kernel_rfl)
      · exact ty_has (by kernel_rfl)
      · exact ty_has (by kernel_rfl)⟩, by decide, by decide, by decide, by decide, by decide, ty_info (by kernel_rfl)⟩
theorem tyOk41 : TyOk Tryz.prog 41 { k := .sl 43, size := 1, bytes := 24, zero := .slice none 0 0 } :=
  ⟨Tryz.underlying41, by decide, by decide, by decide, by decide, by decide, ty_info (by kernel_rfl)⟩
theorem tyOk42 : TyOk Tryz.prog 42 { k := .struct [(3, 0), (4, 1), (3, 2), (9, 3), (41, 4), (23, 5)], size := 6, bytes := 88, zero := .agg #[.int .i64 0, .bool false, .int .i64 0, .string ⟨#[]⟩, .slice none 0 0, .slice none 0 0] } :=
  ⟨⟨_, Tryz.underlying42, rfl, by
      intro F hF
      simp only [List.mem_cons, List.not_mem_nil, or_false] at hF
      rcases hF with rfl | rfl | rfl | rfl | rfl | rfl
      · exact ty_has (by kernel_rfl)
      · exact ty_has (by kernel_rfl)
      · exact ty_has (by kernel_rfl)
      · exact ty_has (by kernel_rfl)
      · exact ty_has (by kernel_rfl)
      · exact ty_has (by kernel_rfl)⟩, by decide, by decide, by decide, by decide, by decide, ty_info (by kernel_rfl)⟩
theorem tyOk43 : TyOk Tryz.prog 43 { k := .struct [(3, 0), (4, 1), (3, 2), (9, 3), (41, 4), (23, 5)], size := 6, bytes := 88, zero := .agg #[.int .i64 0, .bool false, .int .i64 0, .string ⟨#[]⟩, .slice none 0 0, .slice none 0 0] } :=
  ⟨⟨_, Tryz.underlying43, rfl, by
      intro F hF
      simp only [List.mem_cons, List.not_mem_nil, or_false] at hF
      rcases hF with rfl | rfl | rfl | rfl | rfl | rfl
      · exact ty_has (by kernel_rfl)
      · exact ty_has (by kernel_rfl)
      · exact ty_has (by kernel_rfl)
      · exact ty_has (by kernel_rfl)
      · exact ty_has (by kernel_rfl)
      · exact ty_has (by kernel_rfl)⟩, by decide, by decide, by decide, by decide, by decide, ty_info (by kernel_rfl)⟩
theorem tyOk44 : TyOk Tryz.prog 44 { k := .sl 99, size := 1, bytes := 24, zero := .slice none 0 0 } :=
  ⟨Tryz.underlying44, by decide, by decide, by decide, by decide, by decide, ty_info (by kernel_rfl)⟩
theorem tyOk48 : TyOk Tryz.prog 48 { k := .struct [(9, 0), (9, 1)], size := 2, bytes := 32, zero := .agg #[.string ⟨#[]⟩, .string ⟨#[]⟩] } :=
  ⟨⟨_, Tryz.underlying48, rfl, by
      intro F hF
      simp only [List.mem_cons, List.not_mem_nil, or_false] at hF
      rcases hF with rfl | rfl
      · exact ty_has (by kernel_rfl)
      · exact ty_has (by kernel_rfl)⟩, by decide, by decide, by decide, by decide, by decide, ty_info (by kernel_rfl)⟩
theorem tyOk49 : TyOk Tryz.prog 49 { k := .struct [(9, 0), (9, 1)], size := 2, bytes := 32, zero := .agg #[.string ⟨#[]⟩, .string ⟨#[]⟩] } :=
  ⟨⟨_, Tryz.underlying49, rfl, by
      intro F hF
      simp only [List.mem_cons, List.not_mem_nil, or_false] at hF
      rcases hF with rfl | rfl
      · exact ty_has (by kernel_rfl)
      · exact ty_has (by kernel_rfl)⟩, by decide, by decide, by decide, by decide, by decide, ty_info (by kernel_rfl)⟩
theorem tyOk51 : TyOk Tryz.prog 51 { k := .sl 5, size := 1, bytes := 24, zero := .slice none 0 0 } :=
  ⟨Tryz.underlying51, by decide, by decide, by decide, by decide, by decide, ty_info (by kernel_rfl)⟩
theorem tyOk52 : TyOk Tryz.prog 52 { k := .struct [(50, 0), (51, 1)], size := 2, bytes := 32, zero := .agg #[.pointer none, .slice none 0 0] } :=
  ⟨⟨_, Tryz.underlying52, rfl, by
      intro F hF
      simp only [List.mem_cons, List.not_mem_nil, or_false] at hF
      rcases hF with rfl | rfl
      · exact ty_has (by kernel_rfl)
      · exact ty_has (by kernel_rfl)⟩, by decide, by decide, by decide, by decide, by decide, ty_info (by kernel_rfl)⟩
theorem tyOk53 : TyOk Tryz.prog 53 { k := .struct [(50, 0), (51, 1)], size := 2, bytes := 32, zero := .agg #[.pointer none, .slice none 0 0] } :=
  ⟨⟨_, Tryz.underlying53, rfl, by
      intro F hF
      simp only [List.mem_cons, List.not_mem_nil, or_false] at hF
      rcases hF with rfl | rfl
      · exact ty_has (by kernel_rfl)
      · exact ty_has (by kernel_rfl)⟩, by decide, by decide, by decide, by decide, by decide, ty_info (by kernel_rfl)⟩
theorem tyOk66 : TyOk Tryz.prog 66 { k := .sl 70, size := 1, bytes := 24, zero := .slice none 0 0 } :=
  ⟨Tryz.underlying66, by decide, by decide, by decide, by decide, by decide, ty_info (by kernel_rfl)⟩
theorem tyOk69 : TyOk Tryz.prog 69 { k := .struct [(9, 0), (43, 1)], size := 7, bytes := 104, zero := .agg #[.string ⟨#[]⟩, .int .i64 0, .bool false, .int .i64 0, .string ⟨#[]⟩, .slice none 0 0, .slice none 0 0] } :=
  ⟨⟨_, Tryz.underlying69, rfl, by
      intro F hF
      simp only [List.mem_cons, List.not_mem_nil, or_false] at hF
      rcases hF with rfl | rfl
      · exact ty_has (by kernel_rfl)
      · exact ty_has (by kernel_rfl)⟩, by decide, by decide, by decide, by decide, by decide, ty_info (by kernel_rfl)⟩
theorem tyOk70 : TyOk Tryz.prog 70 { k := .struct [(9, 0), (43, 1)], size := 7, bytes := 104, zero := .agg #[.string ⟨#[]⟩, .int .i64 0, .bool false, .int .i64 0, .string ⟨#[]⟩, .slice none 0 0, .slice none 0 0] } :=
  ⟨⟨_, Tryz.underlying70, rfl, by
      intro F hF
      simp only [List.mem_cons, List.not_mem_nil, or_false] at hF
      rcases hF with rfl | rfl
      · exact ty_has (by kernel_rfl)
      · exact ty_has (by kernel_rfl)⟩, by decide, by decide, by decide, by decide, by decide, ty_info (by kernel_rfl)⟩
theorem tyOk74 : TyOk Tryz.prog 74 { k := .sl 161, size := 1, bytes := 24, zero := .slice none 0 0 } :=
  ⟨Tryz.underlying74, by decide, by decide, by decide, by decide, by decide, ty_info (by kernel_rfl)⟩
theorem tyOk75 : TyOk Tryz.prog 75 { k := .struct [(74, 0)], size := 1, bytes := 24, zero := .agg #[.slice none 0 0] } :=
  ⟨⟨_, Tryz.underlying75, rfl, by
      intro F hF
      simp only [List.mem_cons, List.not_mem_nil, or_false] at hF
      rcases hF with rfl
      · exact ty_has (by kernel_rfl)⟩, by decide, by decide, by decide, by decide, by decide, ty_info (by kernel_rfl)⟩
theorem tyOk76 : TyOk Tryz.prog 76 { k := .struct [(74, 0)], size := 1, bytes := 24, zero := .agg #[.slice none 0 0] } :=
  ⟨⟨_, Tryz.underlying76, rfl, by
      intro F hF
      simp only [List.mem_cons, List.not_mem_nil, or_false] at hF
      rcases hF with rfl
      · exact ty_has (by kernel_rfl)⟩, by decide, by decide, by decide, by decide, by decide, ty_info (by kernel_rfl)⟩
theorem tyOk77 : TyOk Tryz.prog 77 { k := .sl 165, size := 1, bytes := 24, zero := .slice none 0 0 } :=
  ⟨Tryz.underlying77, by decide, by decide, by decide, by decide, by decide, ty_info (by kernel_rfl)⟩
theorem tyOk78 : TyOk Tryz.prog 78 { k := .struct [(9, 0), (9, 1), (76, 2), (9, 3), (9, 4), (23, 5), (23, 6), (23, 7), (77, 8)], size := 9, bytes := 184, zero := .agg #[.string ⟨#[]⟩, .string ⟨#[]⟩, .slice none 0 0, .string ⟨#[]⟩, .string ⟨#[]⟩, .slice none 0 0, .slice none 0 0, .slice none 0 0, .slice none 0 0] } :=
  ⟨⟨_, Tryz.underlying78, rfl, by
      intro F hF
      simp only [List.mem_cons, List.not_mem_nil, or_false] at hF
      rcases hF with rfl | rfl | rfl | rfl | rfl | rfl | rfl | rfl | rfl
      · exact ty_has (by kernel_rfl)
      · exact ty_has (by kernel_rfl)
      · exact ty_has (by kernel_rfl)
      · exact ty_has (by kernel_rfl)
      · exact ty_has (by kernel_rfl)
      · exact ty_has (by kernel_rfl)
      · exact ty_has (by kernel_rfl)
      · exact ty_has (by kernel_rfl)
      · exact ty_has (by kernel_rfl)⟩, by decide, by decide, by decide, by decide, by decide, ty_info (by kernel_rfl)⟩
theorem tyOk79 : TyOk Tryz.prog 79 { k := .struct [(9, 0), (9, 1), (76, 2), (9, 3), (9, 4), (23, 5), (23, 6), (23, 7), (77, 8)], size := 9, bytes := 184, zero := .agg #[.string ⟨#[]⟩, .string ⟨#[]⟩, .slice none 0 0, .string ⟨#[]⟩, .string ⟨#[]⟩, .slice none 0 0, .slice none 0 0, .slice none 0 0, .slice none 0 0] } :=
  ⟨⟨_, Tryz.underlying79, rfl, by
      intro F hF
      simp only [List.mem_cons, List.not_mem_nil, or_false] at hF
      rcases hF with rfl | rfl | rfl | rfl | rfl | rfl | rfl | rfl | rfl
      · exact ty_has (by kernel_rfl)
      · exact ty_has (by kernel_rfl)
      · exact ty_has (by kernel_rfl)
      · exact ty_has (by kernel_rfl)
      · exact ty_has (by kernel_rfl)
      · exact ty_has (by kernel_rfl)
      · exact ty_has (by kernel_rfl)
      · exact ty_has (by kernel_rfl)
      · exact ty_has (by kernel_rfl)⟩, by decide, by decide, by decide, by decide, by decide, ty_info (by kernel_rfl)⟩
theorem tyOk80 : TyOk Tryz.prog 80 { k := .sl 170, size := 1, bytes := 24, zero := .slice none 0 0 } :=
  ⟨Tryz.underlying80, by decide, by decide, by decide, by decide, by decide, ty_info (by kernel_rfl)⟩
theorem tyOk81 : TyOk Tryz.prog 81 { k := .struct [(80, 0)], size := 1, bytes := 24, zero := .agg #[.slice none 0 0] } :=
  ⟨⟨_, Tryz.underlying81, rfl, by
      intro F hF
      simp only [List.mem_cons, List.not_mem_nil, or_false] at hF
      rcases hF with rfl
      · exact ty_has (by kernel_rfl)⟩, by decide, by decide, by decide, by decide, by decide, ty_info (by kernel_rfl)⟩
theorem tyOk82 : TyOk Tryz.prog 82 { k := .struct [(80, 0)], size := 1, bytes := 24, zero := .agg #[.slice none 0 0] } :=
  ⟨⟨_, Tryz.underlying82, rfl, by
      intro F hF
      simp only [List.mem_cons, List.not_mem_nil, or_false] at hF
      rcases hF with rfl
      · exact ty_has (by kernel_rfl)⟩, by decide, by decide, by decide, by decide, by decide, ty_info (by kernel_rfl)⟩
theorem tyOk83 : TyOk Tryz.prog 83 { k := .sl 176, size := 1, bytes := 24, zero := .slice none 0 0 } :=
  ⟨Tryz.underlying83, by decide, by decide, by decide, by decide, by decide, ty_info (by kernel_rfl)⟩
theorem tyOk84 : TyOk Tryz.prog 84 { k := .sl 184, size := 1, bytes := 24, zero := .slice none 0 0 } :=
  ⟨Tryz.underlying84, by decide, by decide, by decide, by decide, by decide, ty_info (by kernel_rfl)⟩
theorem tyOk85 : TyOk Tryz.prog 85 { k := .struct [(23, 0), (84, 1)], size := 2, bytes := 48, zero := .agg #[.slice none 0 0, .slice none 0 0] } :=
  ⟨⟨_, Tryz.underlying85, rfl, by
      intro F hF
      simp only [List.mem_cons, List.not_mem_nil, or_false] at hF
      rcases hF with rfl | rfl
      · exact ty_has (by kernel_rfl)
      · exact ty_has (by kernel_rfl)⟩, by decide, by decide, by decide, by decide, by decide, ty_info (by kernel_rfl)⟩
theorem tyOk86 : TyOk Tryz.prog 86 { k := .struct [(23, 0), (84, 1)], size := 2, bytes := 48, zero := .agg #[.slice none 0 0, .slice none 0 0] } :=
  ⟨⟨_, Tryz.underlying86, rfl, by
      intro F hF
      simp only [List.mem_cons, List.not_mem_nil, or_false] at hF
      rcases hF with rfl | rfl
      · exact ty_has (by kernel_rfl)
      · exact ty_has (by kernel_rfl)⟩, by decide, by decide, by decide, by decide, by decide, ty_info (by kernel_rfl)⟩
theorem tyOk87 : TyOk Tryz.prog 87 { k := .sl 189, size := 1, bytes := 24, zero := .slice none 0 0 } :=
  ⟨Tryz.underlying87, by decide, by decide, by decide, by decide, by decide, ty_info (by kernel_rfl)⟩
theorem tyOk88 : TyOk Tryz.prog 88 { k := .sl 194, size := 1, bytes := 24, zero := .slice none 0 0 } :=
  ⟨Tryz.underlying88, by decide, by decide, by decide, by decide, by decide, ty_info (by kernel_rfl)⟩
theorem tyOk89 : TyOk Tryz.prog 89 { k := .sl 198, size := 1, bytes := 24, zero := .slice none 0 0 } :=
  ⟨Tryz.underlying89, by decide, by decide, by decide, by decide, by decide, ty_info (by kernel_rfl)⟩
theorem tyOk90 : TyOk Tryz.prog 90 { k := .sl 92, size := 1, bytes := 24, zero := .slice none 0 0 } :=
  ⟨Tryz.underlying90, by decide, by decide, by decide, by decide, by decide, ty_info (by kernel_rfl)⟩
theorem tyOk91 : TyOk Tryz.prog 91 { k := .struct [(3, 0), (9, 1), (43, 2), (90, 8)], size := 9, bytes := 136, zero := .agg #[.int .i64 0, .string ⟨#[]⟩, .int .i64 0, .bool false, .int .i64 0, .string ⟨#[]⟩, .slice none 0 0, .slice none 0 0, .slice none 0 0] } :=
  ⟨⟨_, Tryz.underlying91, rfl, by
      intro F hF
      simp only [List.mem_cons, List.not_mem_nil, or_false] at hF
      rcases hF with rfl | rfl | rfl | rfl
      · exact ty_has (by kernel_rfl)
      · exact ty_has (by kernel_rfl)
      · exact ty_has (by kernel_rfl)
      · exact ty_has (by kernel_rfl)⟩, by decide, by decide, by decide, by decide, by decide, ty_info (by kernel_rfl)⟩
theorem tyOk92 : TyOk Tryz.prog 92 { k := .struct [(3, 0), (9, 1), (43, 2), (90, 8)], size := 9, bytes := 136, zero := .agg #[.int .i64 0, .string ⟨#[]⟩, .int .i64 0, .bool false, .int .i64 0, .string ⟨#[]⟩, .slice none 0 0, .slice none 0 0, .slice none 0 0] } :=
  ⟨⟨_, Tryz.underlying92, rfl, by
      intro F hF
      simp only [List.mem_cons, List.not_mem_nil, or_false] at hF
      rcases hF with rfl | rfl | rfl | rfl
      · exact ty_has (by kernel_rfl)
      · exact ty_has (by kernel_rfl)
      · exact ty_has (by kernel_rfl)
      · exact ty_has (by kernel_rfl)⟩, by decide, by decide, by decide, by decide, by decide, ty_info (by kernel_rfl)⟩
theorem tyOk93 : TyOk Tryz.prog 93 { k := .sl 204, size := 1, bytes := 24, zero := .slice none 0 0 } :=
  ⟨Tryz.underlying93, by decide, by decide, by decide, by decide, by decide, ty_info (by kernel_rfl)⟩
theorem tyOk94 : TyOk Tryz.prog 94 { k := .sl 209, size := 1, bytes := 24, zero := .slice none 0 0 } :=
  ⟨Tryz.underlying94, by decide, by decide, by decide, by decide, by decide, ty_info (by kernel_rfl)⟩
theorem tyOk95 : TyOk Tryz.prog 95 { k := .sl 214, size := 1, bytes := 24, zero := .slice none 0 0 } :=
  ⟨Tryz.underlying95, by decide, by decide, by decide, by decide, by decide, ty_info (by kernel_rfl)⟩
theorem tyOk98 : TyOk Tryz.prog 98 { k := .struct [(9, 0), (43, 1), (4, 7)], size := 8, bytes := 112, zero := .agg #[.string ⟨#[]⟩, .int .i64 0, .bool false, .int .i64 0, .string ⟨#[]⟩, .slice none 0 0, .slice none 0 0, .bool false] } :=
  ⟨⟨_, Tryz.underlying98, rfl, by
      intro F hF
      simp only [List.mem_cons, List.not_mem_nil, or_false] at hF
      rcases hF with rfl | rfl | rfl
      · exact ty_has (by kernel_rfl)
      · exact ty_has (by kernel_rfl)
      · exact ty_has (by kernel_rfl)⟩, by decide, by decide, by decide, by decide, by decide, ty_info (by kernel_rfl)⟩
theorem tyOk99 : TyOk Tryz.prog 99 { k := .struct [(9, 0), (43, 1), (4, 7)], size := 8, bytes := 112, zero := .agg #[.string ⟨#[]⟩, .int .i64 0, .bool false, .int .i64 0, .string ⟨#[]⟩, .slice none 0 0, .slice none 0 0, .bool false] } :=
  ⟨⟨_, Tryz.underlying99, rfl, by
      intro F hF
      simp only [List.mem_cons, List.not_mem_nil, or_false] at hF
      rcases hF with rfl | rfl | rfl
      · exact ty_has (by kernel_rfl)
      · exact ty_has (by kernel_rfl)
      · exact ty_has (by kernel_rfl)⟩, by decide, by decide, by decide, by decide, by decide, ty_info (by kernel_rfl)⟩
theorem tyOk101 : TyOk Tryz.prog 101 { k := .sl 107, size := 1, bytes := 24, zero := .slice none 0 0 } :=
  ⟨Tryz.underlying101, by decide, by decide, by decide, by decide, by decide, ty_info (by kernel_rfl)⟩
theorem tyOk102 : TyOk Tryz.prog 102 { k := .struct [(101, 0), (4, 1)], size := 2, bytes := 32, zero := .agg #[.slice none 0 0, .bool false] } :=
  ⟨⟨_, Tryz.underlying102, rfl, by
      intro F hF
      simp only [List.mem_cons, List.not_mem_nil, or_false] at hF
      rcases hF with rfl | rfl
      · exact ty_has (by kernel_rfl)
      · exact ty_has (by kernel_rfl)⟩, by decide, by decide, by decide, by decide, by decide, ty_info (by kernel_rfl)⟩
theorem tyOk103 : TyOk Tryz.prog 103 { k := .struct [(101, 0), (4, 1)], size := 2, bytes := 32, zero := .agg #[.slice none 0 0, .bool false] } :=
  ⟨⟨_, Tryz.underlying103, rfl, by
      intro F hF
      simp only [List.mem_cons, List.not_mem_nil, or_false] at hF
      rcases hF with rfl | rfl
      · exact ty_has (by kernel_rfl)
      · exact ty_has (by kernel_rfl)⟩, by decide, by decide, by decide, by decide, by decide, ty_info (by kernel_rfl)⟩
theorem tyOk106 : TyOk Tryz.prog 106 { k := .struct [(9, 0), (3, 1), (4, 2), (4, 3), (3, 4), (3, 5), (23, 6), (43, 7)], size := 13, bytes := 160, zero := .agg #[.string ⟨#[]⟩, .int .i64 0, .bool false, .bool false, .int .i64 0, .int .i64 0, .slice none 0 0, .int .i64 0, .bool false, .int .i64 0, .string ⟨#[]⟩, .slice none 0 0, .slice none 0 0] } :=
  ⟨⟨_, Tryz.underlying106, rfl, by
      intro F hF
      simp only [List.mem_cons, List.not_mem_nil, or_false] at hF
      rcases hF with rfl | rfl | rfl | rfl | rfl | rfl | rfl | rfl
      · exact ty_has (by kernel_rfl)
      · exact ty_has (by kernel_rfl)
      · exact ty_has (by kernel_rfl)
      · exact ty_has (by kernel_rfl)
      · exact ty_has (by kernel_rfl)
      · exact ty_has (by kernel_rfl)
      · exact ty_has (by kernel_rfl)
      · exact ty_has (by kernel_rfl)⟩, by decide, by decide, by decide, by decide, by decide, ty_info (by kernel_rfl)⟩
theorem tyOk107 : TyOk Tryz.prog 107 { k := .struct [(9, 0), (3, 1), (4, 2), (4, 3), (3, 4), (3, 5), (23, 6), (43, 7)], size := 13, bytes := 160, zero := .agg #[.string ⟨#[]⟩, .int .i64 0, .bool false, .bool false, .int .i64 0, .int .i64 0, .slice none 0 0, .int .i64 0, .bool false, .int .i64 0, .string ⟨#[]⟩, .slice none 0 0, .slice none 0 0] } :=
  ⟨⟨_, Tryz.underlying107, rfl, by
      intro F hF
      simp only [List.mem_cons, List.not_mem_nil, or_false] at hF
      rcases hF with rfl | rfl | rfl | rfl | rfl | rfl | rfl | rfl
      · exact ty_has (by kernel_rfl)
      · exact ty_has (by kernel_rfl)
      · exact ty_has (by kernel_rfl)
      · exact ty_has (by kernel_rfl)
      · exact ty_has (by kernel_rfl)
      · exact ty_has (by kernel_rfl)
      · exact ty_has (by kernel_rfl)
      · exact ty_has (by kernel_rfl)⟩, by decide, by decide, by decide, by decide, by decide, ty_info (by kernel_rfl)⟩
theorem tyOk109 : TyOk Tryz.prog 109 { k := .sl 113, size := 1, bytes := 24, zero := .slice none 0 0 } :=
  ⟨Tryz.underlying109, by decide, by decide, by decide, by decide, by decide, ty_info (by kernel_rfl)⟩
theorem tyOk112 : TyOk Tryz.prog 112 { k := .struct [(9, 0), (3, 1)], size := 2, bytes := 24, zero := .agg #[.string ⟨#[]⟩, .int .i64 0] } :=
  ⟨⟨_, Tryz.underlying112, rfl, by
      intro F hF
      simp only [List.mem_cons, List.not_mem_nil, or_false] at hF
      rcases hF with rfl | rfl
      · exact ty_has (by kernel_rfl)
      · exact ty_has (by kernel_rfl)⟩, by decide, by decide, by decide, by decide, by decide, ty_info (by kernel_rfl)⟩
theorem tyOk113 : TyOk Tryz.prog 113 { k := .struct [(9, 0), (3, 1)], size := 2, bytes := 24, zero := .agg #[.string ⟨#[]⟩, .int .i64 0] } :=
  ⟨⟨_, Tryz.underlying113, rfl, by
      intro F hF
      simp only [List.mem_cons, List.not_mem_nil, or_false] at hF
      rcases hF with rfl | rfl
      · exact ty_has (by kernel_rfl)
      · exact ty_has (by kernel_rfl)⟩, by decide, by decide, by decide, by decide, by decide, ty_info (by kernel_rfl)⟩
theorem tyOk116 : TyOk Tryz.prog 116 { k := .sl 120, size := 1, bytes := 24, zero := .slice none 0 0 } :=
  ⟨Tryz.underlying116, by decide, by decide, by decide, by decide, by decide, ty_info (by kernel_rfl)⟩
theorem tyOk119 : TyOk Tryz.prog 119 { k := .struct [(3, 0), (9, 1)], size := 2, bytes := 24, zero := .agg #[.int .i64 0, .string ⟨#[]⟩] } :=
  ⟨⟨_, Tryz.underlying119, rfl, by
      intro F hF
      simp only [List.mem_cons, List.not_mem_nil, or_false] at hF
      rcases hF with rfl | rfl
      · exact ty_has (by kernel_rfl)
      · exact ty_has (by kernel_rfl)⟩, by decide, by decide, by decide, by decide, by decide, ty_info (by kernel_rfl)⟩
theorem tyOk120 : TyOk Tryz.prog 120 { k := .struct [(3, 0), (9, 1)], size := 2, bytes := 24, zero := .agg #[.int .i64 0, .string ⟨#[]⟩] } :=
  ⟨⟨_, Tryz.underlying120, rfl, by
      intro F hF
      simp only [List.mem_cons, List.not_mem_nil, or_false] at hF
      rcases hF with rfl | rfl
      · exact ty_has (by kernel_rfl)
      · exact ty_has (by kernel_rfl)⟩, by decide, by decide, by decide, by decide, by decide, ty_info (by kernel_rfl)⟩
theorem tyOk121 : TyOk Tryz.prog 121 { k := .sl 125, size := 1, bytes := 24, zero := .slice none 0 0 } :=
  ⟨Tryz.underlying121, by decide, by decide, by decide, by decide, by decide, ty_info (by kernel_rfl)⟩
theorem tyOk124 : TyOk Tryz.prog 124 { k := .struct [(3, 0), (3, 1), (9, 2)], size := 3, bytes := 32, zero := .agg #[.int .i64 0, .int .i64 0, .string ⟨#[]⟩] } :=
  ⟨⟨_, Tryz.underlying124, rfl, by
      intro F hF
      simp only [List.mem_cons, List.not_mem_nil, or_false] at hF
      rcases hF with rfl | rfl | rfl
      · exact ty_has (by kernel_rfl)
      · exact ty_has (by kernel_rfl)
      · exact ty_has (by kernel_rfl)⟩, by decide, by decide, by decide, by decide, by decide, ty_info (by kernel_rfl)⟩
theorem tyOk125 : TyOk Tryz.prog 125 { k := .struct [(3, 0), (3, 1), (9, 2)], size := 3, bytes := 32, zero := .agg #[.int .i64 0, .int .i64 0, .string ⟨#[]⟩] } :=
  ⟨⟨_, Tryz.underlying125, rfl, by
      intro F hF
      simp only [List.mem_cons, List.not_mem_nil, or_false] at hF
      rcases hF with rfl | rfl | rfl
      · exact ty_has (by kernel_rfl)
      · exact ty_has (by kernel_rfl)
      · exact ty_has (by kernel_rfl)⟩, by decide, by decide, by decide, by decide, by decide, ty_info (by kernel_rfl)⟩
theorem tyOk126 : TyOk Tryz.prog 126 { k := .sl 130, size := 1, bytes := 24, zero := .slice none 0 0 } :=
  ⟨Tryz.underlying126, by decide, by decide, by decide, by decide, by decide, ty_info (by kernel_rfl)⟩
theorem tyOk129 : TyOk Tryz.prog 129 { k := .struct [(9, 0), (9, 1), (9, 2)], size := 3, bytes := 48, zero := .agg #[.string ⟨#[]⟩, .string ⟨#[]⟩, .string ⟨#[]⟩] } :=
  ⟨⟨_, Tryz.underlying129, rfl, by
      intro F hF
      simp only [List.mem_cons, List.not_mem_nil, or_false] at hF
      rcases hF with rfl | rfl | rfl
      · exact ty_has (by kernel_rfl)
      · exact ty_has (by kernel_rfl)
      · exact ty_has (by kernel_rfl)⟩, by decide, by decide, by decide, by decide, by decide, ty_info (by kernel_rfl)⟩
theorem tyOk130 : TyOk Tryz.prog 130 { k := .struct [(9, 0), (9, 1), (9, 2)], size := 3, bytes := 48, zero := .agg #[.string ⟨#[]⟩, .string ⟨#[]⟩, .string ⟨#[]⟩] } :=
  ⟨⟨_, Tryz.underlying130, rfl, by
      intro F hF
      simp only [List.mem_cons, List.not_mem_nil, or_false] at hF
      rcases hF with rfl | rfl | rfl
      · exact ty_has (by kernel_rfl)
      · exact ty_has (by kernel_rfl)
      · exact ty_has (by kernel_rfl)⟩, by decide, by decide, by decide, by decide, by decide, ty_info (by kernel_rfl)⟩
theorem tyOk131 : TyOk Tryz.prog 131 { k := .struct [(3, 0), (3, 1), (24, 2)], size := 3, bytes := 40, zero := .agg #[.int .i64 0, .int .i64 0, .slice none 0 0] } :=
  ⟨⟨_, Tryz.underlying131, rfl, by
      intro F hF
      simp only [List.mem_cons, List.not_mem_nil, or_false] at hF
      rcases hF with rfl | rfl | rfl
      · exact ty_has (by kernel_rfl)
      · exact ty_has (by kernel_rfl)
      · exact ty_has (by kernel_rfl)⟩, by decide, by decide, by decide, by decide, by decide, ty_info (by kernel_rfl)⟩
theorem tyOk132 : TyOk Tryz.prog 132 { k := .struct [(3, 0), (3, 1), (24, 2)], size := 3, bytes := 40, zero := .agg #[.int .i64 0, .int .i64 0, .slice none 0 0] } :=
  ⟨⟨_, Tryz.underlying132, rfl, by
      intro F hF
      simp only [List.mem_cons, List.not_mem_nil, or_false] at hF
      rcases hF with rfl | rfl | rfl
      · exact ty_has (by kernel_rfl)
      · exact ty_has (by kernel_rfl)
      · exact ty_has (by kernel_rfl)⟩, by decide, by decide, by decide, by decide, by decide, ty_info (by kernel_rfl)⟩
theorem tyOk143 : TyOk Tryz.prog 143 { k := .struct [(9, 0), (9, 1), (9, 2), (3, 3), (43, 4), (9, 10)], size := 11, bytes := 160, zero := .agg #[.string ⟨#[]⟩, .string ⟨#[]⟩, .string ⟨#[]⟩, .int .i64 0, .int .i64 0, .bool false, .int .i64 0, .string ⟨#[]⟩, .slice none 0 0, .slice none 0 0, .string ⟨#[]⟩] } :=
  ⟨⟨_, Tryz.underlying143, rfl, by
      intro F hF
      simp only [List.mem_cons, List.not_mem_nil, or_false] at hF
      rcases hF with rfl | rfl | rfl | rfl | rfl | rfl
      · exact ty_has (by kernel_rfl)
      · exact ty_has (by kernel_rfl)
      · exact ty_has (by kernel_rfl)
      · exact ty_has (by kernel_rfl)
      · exact ty_has (by kernel_rfl)
      · exact ty_has (by kernel_rfl)⟩, by decide, by decide, by decide, by decide, by decide, ty_info (by kernel_rfl)⟩
theorem tyOk144 : TyOk Tryz.prog 144 { k := .struct [(9, 0), (9, 1), (9, 2), (3, 3), (43, 4), (9, 10)], size := 11, bytes := 160, zero := .agg #[.string ⟨#[]⟩, .string ⟨#[]⟩, .string ⟨#[]⟩, .int .i64 0, .int .i64 0, .bool false, .int .i64 0, .string ⟨#[]⟩, .slice none 0 0, .slice none 0 0, .string ⟨#[]⟩] } :=
  ⟨⟨_, Tryz.underlying144, rfl, by
      intro F hF
      simp only [List.mem_cons, List.not_mem_nil, or_false] at hF
      rcases hF with rfl | rfl | rfl | rfl | rfl | rfl
      · exact ty_has (by kernel_rfl)
      · exact ty_has (by kernel_rfl)
      · exact ty_has (by kernel_rfl)
      · exact ty_has (by kernel_rfl)
      · exact ty_has (by kernel_rfl)
      · exact ty_has (by kernel_rfl)⟩, by decide, by decide, by decide, by decide, by decide, ty_info (by kernel_rfl)⟩
theorem tyOk150 : TyOk Tryz.prog 150 { k := .struct [(44, 0), (44, 1)], size := 2, bytes := 48, zero := .agg #[.slice none 0 0, .slice none 0 0] } :=
  ⟨⟨_, Tryz.underlying150, rfl, by
      intro F hF
      simp only [List.mem_cons, List.not_mem_nil, or_false] at hF
      rcases hF with rfl | rfl
      · exact ty_has (by kernel_rfl)
      · exact ty_has (by kernel_rfl)⟩, by decide, by decide, by decide, by decide, by decide, ty_info (by kernel_rfl)⟩
theorem tyOk151 : TyOk Tryz.prog 151 { k := .struct [(44, 0), (44, 1)], size := 2, bytes := 48, zero := .agg #[.slice none 0 0, .slice none 0 0] } :=
  ⟨⟨_, Tryz.underlying151, rfl, by
      intro F hF
      simp only [List.mem_cons, List.not_mem_nil, or_false] at hF
      rcases hF with rfl | rfl
      · exact ty_has (by kernel_rfl)
      · exact ty_has (by kernel_rfl)⟩, by decide, by decide, by decide, by decide, by decide, ty_info (by kernel_rfl)⟩
theorem tyOk160 : TyOk Tryz.prog 160 { k := .struct [(3, 0), (3, 1), (3, 2), (3, 3), (74, 4)], size := 5, bytes := 56, zero := .agg #[.int .i64 0, .int .i64 0, .int .i64 0, .int .i64 0, .slice none 0 0] } :=
  ⟨⟨_, Tryz.underlying160, rfl, by
      intro F hF
      simp only [List.mem_cons, List.not_mem_nil, or_false] at hF
      rcases hF with rfl | rfl | rfl | rfl | rfl
      · exact ty_has (by kernel_rfl)
      · exact ty_has (by kernel_rfl)
      · exact ty_has (by kernel_rfl)
      · exact ty_has (by kernel_rfl)
      · exact ty_has (by kernel_rfl)⟩, by decide, by decide, by decide, by decide, by decide, ty_info (by kernel_rfl)⟩
theorem tyOk161 : TyOk Tryz.prog 161 { k := .struct [(3, 0), (3, 1), (3, 2), (3, 3), (74, 4)], size := 5, bytes := 56, zero := .agg #[.int .i64 0, .int .i64 0, .int .i64 0, .int .i64 0, .slice none 0 0] } :=
  ⟨⟨_, Tryz.underlying161, rfl, by
      intro F hF
      simp only [List.mem_cons, List.not_mem_nil, or_false] at hF
      rcases hF with rfl | rfl | rfl | rfl | rfl
      · exact ty_has (by kernel_rfl)
      · exact ty_has (by kernel_rfl)
      · exact ty_has (by kernel_rfl)
      · exact ty_has (by kernel_rfl)
      · exact ty_has (by kernel_rfl)⟩, by decide, by decide, by decide, by decide, by decide, ty_info (by kernel_rfl)⟩
theorem tyOk164 : TyOk Tryz.prog 164 { k := .struct [(9, 0), (9, 1)], size := 2, bytes := 32, zero := .agg #[.string ⟨#[]⟩, .string ⟨#[]⟩] } :=
  ⟨⟨_, Tryz.underlying164, rfl, by
      intro F hF
      simp only [List.mem_cons, List.not_mem_nil, or_false] at hF
      rcases hF with rfl | rfl
      · exact ty_has (by kernel_rfl)
      · exact ty_has (by kernel_rfl)⟩, by decide, by decide, by decide, by decide, by decide, ty_info (by kernel_rfl)⟩
theorem tyOk165 : TyOk Tryz.prog 165 { k := .struct [(9, 0), (9, 1)], size := 2, bytes := 32, zero := .agg #[.string ⟨#[]⟩, .string ⟨#[]⟩] } :=
  ⟨⟨_, Tryz.underlying165, rfl, by
      intro F hF
      simp only [List.mem_cons, List.not_mem_nil, or_false] at hF
      rcases hF with rfl | rfl
      · exact ty_has (by kernel_rfl)
      · exact ty_has (by kernel_rfl)⟩, by decide, by decide, by decide, by decide, by decide, ty_info (by kernel_rfl)⟩
theorem tyOk168 : TyOk Tryz.prog 168 { k := .sl 250, size := 1, bytes := 24, zero := .slice none 0 0 } :=
  ⟨Tryz.underlying168, by decide, by decide, by decide, by decide, by decide, ty_info (by kernel_rfl)⟩
theorem tyOk169 : TyOk Tryz.prog 169 { k := .struct [(3, 0), (9, 1), (168, 2)], size := 3, bytes := 48, zero := .agg #[.int .i64 0, .string ⟨#[]⟩, .slice none 0 0] } :=
  ⟨⟨_, Tryz.underlying169, rfl, by
      intro F hF
      simp only [List.mem_cons, List.not_mem_nil, or_false] at hF
      rcases hF with rfl | rfl | rfl
      · exact ty_has (by kernel_rfl)
      · exact ty_has (by kernel_rfl)
      · exact ty_has (by kernel_rfl)⟩, by decide, by decide, by decide, by decide, by decide, ty_info (by kernel_rfl)⟩
theorem tyOk170 : TyOk Tryz.prog 170 { k := .struct [(3, 0), (9, 1), (168, 2)], size := 3, bytes := 48, zero := .agg #[.int .i64 0, .string ⟨#[]⟩, .slice none 0 0] } :=
  ⟨⟨_, Tryz.underlying170, rfl, by
      intro F hF
      simp only [List.mem_cons, List.not_mem_nil, or_false] at hF
      rcases hF with rfl | rfl | rfl
      · exact ty_has (by kernel_rfl)
      · exact ty_has (by kernel_rfl)
      · exact ty_has (by kernel_rfl)⟩, by decide, by decide, by decide, by decide, by decide, ty_info (by kernel_rfl)⟩
theorem tyOk175 : TyOk Tryz.prog 175 { k := .struct [(9, 0), (24, 1)], size := 2, bytes := 40, zero := .agg #[.string ⟨#[]⟩, .slice none 0 0] } :=
  ⟨⟨_, Tryz.underlying175, rfl, by
      intro F hF
      simp only [List.mem_cons, List.not_mem_nil, or_false] at hF
      rcases hF with rfl | rfl
      · exact ty_has (by kernel_rfl)
      · exact ty_has (by kernel_rfl)⟩, by decide, by decide, by decide, by decide, by decide, ty_info (by kernel_rfl)⟩
theorem tyOk176 : TyOk Tryz.prog 176 { k := .struct [(9, 0), (24, 1)], size := 2, bytes := 40, zero := .agg #[.string ⟨#[]⟩, .slice none 0 0] } :=
  ⟨⟨_, Tryz.underlying176, rfl, by
      intro F hF
      simp only [List.mem_cons, List.not_mem_nil, or_false] at hF
      rcases hF with rfl | rfl
      · exact ty_has (by kernel_rfl)
      · exact ty_has (by kernel_rfl)⟩, by decide, by decide, by decide, by decide, by decide, ty_info (by kernel_rfl)⟩
theorem tyOk183 : TyOk Tryz.prog 183 { k := .struct [(9, 0), (9, 1), (9, 2), (9, 3), (3, 4), (43, 5), (9, 11), (23, 12)], size := 13, bytes := 200, zero := .agg #[.string ⟨#[]⟩, .string ⟨#[]⟩, .string ⟨#[]⟩, .string ⟨#[]⟩, .int .i64 0, .int .i64 0, .bool false, .int .i64 0, .string ⟨#[]⟩, .slice none 0 0, .slice none 0 0, .string ⟨#[]⟩, .slice none 0 0] } :=
  ⟨⟨_, Tryz.underlying183, rfl, by
      intro F hF
      simp only [List.mem_cons, List.not_mem_nil, or_false] at hF
      rcases hF with rfl | rfl | rfl | rfl | rfl | rfl | rfl | rfl
      · exact ty_has (by kernel_rfl)
      · exact ty_has (by kernel_rfl)
      · exact ty_has (by kernel_rfl)
      · exact ty_has (by kernel_rfl)
      · exact ty_has (by kernel_rfl)
      · exact ty_has (by kernel_rfl)
      · exact ty_has (by kernel_rfl)
      · exact ty_has (by kernel_rfl)⟩, by decide, by decide, by decide, by decide, by decide, ty_info (by kernel_rfl)⟩
theorem tyOk184 : TyOk Tryz.prog 184 { k := .struct [(9, 0), (9, 1), (9, 2), (9, 3), (3, 4), (43, 5), (9, 11), (23, 12)], size := 13, bytes := 200, zero := .agg #[.string ⟨#[]⟩, .string ⟨#[]⟩, .string ⟨#[]⟩, .string ⟨#[]⟩, .int .i64 0, .int .i64 0, .bool false, .int .i64 0, .string ⟨#[]⟩, .slice none 0 0, .slice none 0 0, .string ⟨#[]⟩, .slice none 0 0] } :=
  ⟨⟨_, Tryz.underlying184, rfl, by
      intro F hF
      simp only [List.mem_cons, List.not_mem_nil, or_false] at hF
      rcases hF with rfl | rfl | rfl | rfl | rfl | rfl | rfl | rfl
      · exact ty_has (by kernel_rfl)
      · exact ty_has (by kernel_rfl)
      · exact ty_has (by kernel_rfl)
      · exact ty_has (by kernel_rfl)
      · exact ty_has (by kernel_rfl)
      · exact ty_has (by kernel_rfl)
      · exact ty_has (by kernel_rfl)
      · exact ty_has (by kernel_rfl)⟩, by decide, by decide, by decide, by decide, by decide, ty_info (by kernel_rfl)⟩
theorem tyOk188 : TyOk Tryz.prog 188 { k := .struct [(9, 0), (9, 1), (9, 2), (87, 3)], size := 4, bytes := 72, zero := .agg #[.string ⟨#[]⟩, .string ⟨#[]⟩, .string ⟨#[]⟩, .slice none 0 0] } :=
  ⟨⟨_, Tryz.underlying188, rfl, by
      intro F hF
      simp only [List.mem_cons, List.not_mem_nil, or_false] at hF
      rcases hF with rfl | rfl | rfl | rfl
      · exact ty_has (by kernel_rfl)
      · exact ty_has (by kernel_rfl)
      · exact ty_has (by kernel_rfl)
      · exact ty_has (by kernel_rfl)⟩, by decide, by decide, by decide, by decide, by decide, ty_info (by kernel_rfl)⟩
theorem tyOk189 : TyOk Tryz.prog 189 { k := .struct [(9, 0), (9, 1), (9, 2), (87, 3)], size := 4, bytes := 72, zero := .agg #[.string ⟨#[]⟩, .string ⟨#[]⟩, .string ⟨#[]⟩, .slice none 0 0] } :=
  ⟨⟨_, Tryz.underlying189, rfl, by
      intro F hF
      simp only [List.mem_cons, List.not_mem_nil, or_false] at hF
      rcases hF with rfl | rfl | rfl | rfl
      · exact ty_has (by kernel_rfl)
      · exact ty_has (by kernel_rfl)
      · exact ty_has (by kernel_rfl)
      · exact ty_has (by kernel_rfl)⟩, by decide, by decide, by decide, by decide, by decide, ty_info (by kernel_rfl)⟩
theorem tyOk193 : TyOk Tryz.prog 193 { k := .struct [(9, 0), (9, 1)], size := 2, bytes := 32, zero := .agg #[.string ⟨#[]⟩, .string ⟨#[]⟩] } :=
  ⟨⟨_, Tryz.underlying193, rfl, by
      intro F hF
      simp only [List.mem_cons, List.not_mem_nil, or_false] at hF
      rcases hF with rfl | rfl
      · exact ty_has (by kernel_rfl)
      · exact ty_has (by kernel_rfl)⟩, by decide, by decide, by decide, by decide, by decide, ty_info (by kernel_rfl)⟩
theorem tyOk194 : TyOk Tryz.prog 194 { k := .struct [(9, 0), (9, 1)], size := 2, bytes := 32, zero := .agg #[.string ⟨#[]⟩, .string ⟨#[]⟩] } :=
  ⟨⟨_, Tryz.underlying194, rfl, by
      intro F hF
      simp only [List.mem_cons, List.not_mem_nil, or_false] at hF
      rcases hF with rfl | rfl
      · exact ty_has (by kernel_rfl)
      · exact ty_has (by kernel_rfl)⟩, by decide, by decide, by decide, by decide, by decide, ty_info (by kernel_rfl)⟩
theorem tyOk197 : TyOk Tryz.prog 197 { k := .struct [(9, 0), (3, 1), (9, 2)], size := 3, bytes := 40, zero := .agg #[.string ⟨#[]⟩, .int .i64 0, .string ⟨#[]⟩] } :=
  ⟨⟨_, Tryz.underlying197, rfl, by
      intro F hF
      simp only [List.mem_cons, List.not_mem_nil, or_false] at hF
      rcases hF with rfl | rfl | rfl
      · exact ty_has (by kernel_rfl)
      · exact ty_has (by kernel_rfl)
      · exact ty_has (by kernel_rfl)⟩, by decide, by decide, by decide, by decide, by decide, ty_info (by kernel_rfl)⟩
theorem tyOk198 : TyOk Tryz.prog 198 { k := .struct [(9, 0), (3, 1), (9, 2)], size := 3, bytes := 40, zero := .agg #[.string ⟨#[]⟩, .int .i64 0, .string ⟨#[]⟩] } :=
  ⟨⟨_, Tryz.underlying198, rfl, by
      intro F hF
      simp only [List.mem_cons, List.not_mem_nil, or_false] at hF
      rcases hF with rfl | rfl | rfl
      · exact ty_has (by kernel_rfl)
      · exact ty_has (by kernel_rfl)
      · exact ty_has (by kernel_rfl)⟩, by decide, by decide, by decide, by decide, by decide, ty_info (by kernel_rfl)⟩
theorem tyOk203 : TyOk Tryz.prog 203 { k := .struct [(43, 0), (24, 6)], size := 7, bytes := 112, zero := .agg #[.int .i64 0, .bool false, .int .i64 0, .string ⟨#[]⟩, .slice none 0 0, .slice none 0 0, .slice none 0 0] } :=
  ⟨⟨_, Tryz.underlying203, rfl, by
      intro F hF
      simp only [List.mem_cons, List.not_mem_nil, or_false] at hF
      rcases hF with rfl | rfl
      · exact ty_has (by kernel_rfl)
      · exact ty_has (by kernel_rfl)⟩, by decide, by decide, by decide, by decide, by decide, ty_info (by kernel_rfl)⟩
theorem tyOk204 : TyOk Tryz.prog 204 { k := .struct [(43, 0), (24, 6)], size := 7, bytes := 112, zero := .agg #[.int .i64 0, .bool false, .int .i64 0, .string ⟨#[]⟩, .slice none 0 0, .slice none 0 0, .slice none 0 0] } :=
  ⟨⟨_, Tryz.underlying204, rfl, by
      intro F hF
      simp only [List.mem_cons, List.not_mem_nil, or_false] at hF
      rcases hF with rfl | rfl
      · exact ty_has (by kernel_rfl)
      · exact ty_has (by kernel_rfl)⟩, by decide, by decide, by decide, by decide, by decide, ty_info (by kernel_rfl)⟩
theorem tyOk208 : TyOk Tryz.prog 208 { k := .struct [(3, 0), (3, 1), (24, 2)], size := 3, bytes := 40, zero := .agg #[.int .i64 0, .int .i64 0, .slice none 0 0] } :=
  ⟨⟨_, Tryz.underlying208, rfl, by
      intro F hF
      simp only [List.mem_cons, List.not_mem_nil, or_false] at hF
      rcases hF with rfl | rfl | rfl
      · exact ty_has (by kernel_rfl)
      · exact ty_has (by kernel_rfl)
      · exact ty_has (by kernel_rfl)⟩, by decide, by decide, by decide, by decide, by decide, ty_info (by kernel_rfl)⟩
theorem tyOk209 : TyOk Tryz.prog 209 { k := .struct [(3, 0), (3, 1), (24, 2)], size := 3, bytes := 40, zero := .agg #[.int .i64 0, .int .i64 0, .slice none 0 0] } :=
  ⟨⟨_, Tryz.underlying209, rfl, by
      intro F hF
      simp only [List.mem_cons, List.not_mem_nil, or_false] at hF
      rcases hF with rfl | rfl | rfl
      · exact ty_has (by kernel_rfl)
      · exact ty_has (by kernel_rfl)
      · exact ty_has (by kernel_rfl)⟩, by decide, by decide, by decide, by decide, by decide, ty_info (by kernel_rfl)⟩
theorem tyOk213 : TyOk Tryz.prog 213 { k := .struct [(9, 0), (9, 1), (24, 2)], size := 3, bytes := 56, zero := .agg #[.string ⟨#[]⟩, .string ⟨#[]⟩, .slice none 0 0] } :=
  ⟨⟨_, Tryz.underlying213, rfl, by
      intro F hF
      simp only [List.mem_cons, List.not_mem_nil, or_false] at hF
      rcases hF with rfl | rfl | rfl
      · exact ty_has (by kernel_rfl)
      · exact ty_has (by kernel_rfl)
      · exact ty_has (by kernel_rfl)⟩, by decide, by decide, by decide, by decide, by decide, ty_info (by kernel_rfl)⟩
theorem tyOk214 : TyOk Tryz.prog 214 { k := .struct [(9, 0), (9, 1), (24, 2)], size := 3, bytes := 56, zero := .agg #[.string ⟨#[]⟩, .string ⟨#[]⟩, .slice none 0 0] } :=
  ⟨⟨_, Tryz.underlying214, rfl, by
      intro F hF
      simp only [List.mem_cons, List.not_mem_nil, or_false] at hF
      rcases hF with rfl | rfl | rfl
      · exact ty_has (by kernel_rfl)
      · exact ty_has (by kernel_rfl)
      · exact ty_has (by kernel_rfl)⟩, by decide, by decide, by decide, by decide, by decide, ty_info (by kernel_rfl)⟩
theorem tyOk249 : TyOk Tryz.prog 249 { k := .struct [(9, 0), (3, 1), (3, 2), (80, 3)], size := 4, bytes := 56, zero := .agg #[.string ⟨#[]⟩, .int .i64 0, .int .i64 0, .slice none 0 0] } :=
  ⟨⟨_, Tryz.underlying249, rfl, by
      intro F hF
      simp only [List.mem_cons, List.not_mem_nil, or_false] at hF
      rcases hF with rfl | rfl | rfl | rfl
      · exact ty_has (by kernel_rfl)
      · exact ty_has (by kernel_rfl)
      · exact ty_has (by kernel_rfl)
      · exact ty_has (by kernel_rfl)⟩, by decide, by decide, by decide, by decide, by decide, ty_info (by kernel_rfl)⟩
theorem tyOk250 : TyOk Tryz.prog 250 { k := .struct [(9, 0), (3, 1), (3, 2), (80, 3)], size := 4, bytes := 56, zero := .agg #[.string ⟨#[]⟩, .int .i64 0, .int .i64 0, .slice none 0 0] } :=
  ⟨⟨_, Tryz.underlying250, rfl, by
      intro F hF
      simp only [List.mem_cons, List.not_mem_nil, or_false] at hF
      rcases hF with rfl | rfl | rfl | rfl
      · exact ty_has (by kernel_rfl)
      · exact ty_has (by kernel_rfl)
      · exact ty_has (by kernel_rfl)
      · exact ty_has (by kernel_rfl)⟩, by decide, by decide, by decide, by decide, by decide, ty_info (by kernel_rfl)⟩
theorem tyOk258 : TyOk Tryz.prog 258 { k := .int .i64, size := 1, bytes := 8, zero := .int .i64 0 } :=
  ⟨Tryz.underlying258, by decide, by decide, by decide, by decide, by decide, ty_info (by kernel_rfl)⟩
theorem tyOk259 : TyOk Tryz.prog 259 { k := .int .u64, size := 1, bytes := 8, zero := .int .u64 0 } :=
  ⟨Tryz.underlying259, by decide, by decide, by decide, by decide, by decide, ty_info (by kernel_rfl)⟩
theorem tyOk262 : TyOk Tryz.prog 262 { k := .int .u64, size := 1, bytes := 8, zero := .int .u64 0 } :=
  ⟨Tryz.underlying262, by decide, by decide, by decide, by decide, by decide, ty_info (by kernel_rfl)⟩
theorem tyOk278 : TyOk Tryz.prog 278 { k := .sl 23, size := 1, bytes := 24, zero := .slice none 0 0 } :=
  ⟨Tryz.underlying278, by decide, by decide, by decide, by decide, by decide, ty_info (by kernel_rfl)⟩
theorem tyOk283 : TyOk Tryz.prog 283 { k := .struct [(9, 0), (9, 1), (55, 2)], size := 3, bytes := 48, zero := .agg #[.string ⟨#[]⟩, .string ⟨#[]⟩, .nilIface] } :=
  ⟨⟨_, Tryz.underlying283, rfl, by
      intro F hF
      simp only [List.mem_cons, List.not_mem_nil, or_false] at hF
      rcases hF with rfl | rfl | rfl
      · exact ty_has (by kernel_rfl)
      · exact ty_has (by kernel_rfl)
      · exact ty_has (by kernel_rfl)⟩, by decide, by decide, by decide, by decide, by decide, ty_info (by kernel_rfl)⟩
theorem tyOk284 : TyOk Tryz.prog 284 { k := .struct [(9, 0), (9, 1), (55, 2)], size := 3, bytes := 48, zero := .agg #[.string ⟨#[]⟩, .string ⟨#[]⟩, .nilIface] } :=
  ⟨⟨_, Tryz.underlying284, rfl, by
      intro F hF
      simp only [List.mem_cons, List.not_mem_nil, or_false] at hF
      rcases hF with rfl | rfl | rfl
      · exact ty_has (by kernel_rfl)
      · exact ty_has (by kernel_rfl)
      · exact ty_has (by kernel_rfl)⟩, by decide, by decide, by decide, by decide, by decide, ty_info (by kernel_rfl)⟩
theorem tyOk296 : TyOk Tryz.prog 296 { k := .int .u32, size := 1, bytes := 4, zero := .int .u32 0 } :=
  ⟨Tryz.underlying296, by decide, by decide, by decide, by decide, by decide, ty_info (by kernel_rfl)⟩
theorem tyOk300 : TyOk Tryz.prog 300 { k := .struct [(5, 0), (5, 1)], size := 2, bytes := 2, zero := .agg #[.int .u8 0, .int .u8 0] } :=
  ⟨⟨_, Tryz.underlying300, rfl, by
      intro F hF
      simp only [List.mem_cons, List.not_mem_nil, or_false] at hF
      rcases hF with rfl | rfl
      · exact ty_has (by kernel_rfl)
      · exact ty_has (by kernel_rfl)⟩, by decide, by decide, by decide, by decide, by decide, ty_info (by kernel_rfl)⟩
theorem tyOk301 : TyOk Tryz.prog 301 { k := .struct [(5, 0), (5, 1)], size := 2, bytes := 2, zero := .agg #[.int .u8 0, .int .u8 0] } :=
  ⟨⟨_, Tryz.underlying301, rfl, by
      intro F hF
      simp only [List.mem_cons, List.not_mem_nil, or_false] at hF
      rcases hF with rfl | rfl
      · exact ty_has (by kernel_rfl)
      · exact ty_has (by kernel_rfl)⟩, by decide, by decide, by decide, by decide, by decide, ty_info (by kernel_rfl)⟩
theorem tyOk302 : TyOk Tryz.prog 302 { k := .arr 16 301, size := 32, bytes := 32, zero := .agg #[.int .u8 0, .int .u8 0, .int .u8 0, .int .u8 0, .int .u8 0, .int .u8 0, .int .u8 0, .int .u8 0, .int .u8 0, .int .u8 0, .int .u8 0, .int .u8 0, .int .u8 0, .int .u8 0, .int .u8 0, .int .u8 0, .int .u8 0, .int .u8 0, .int .u8 0, .int .u8 0, .int .u8 0, .int .u8 0, .int .u8 0, .int .u8 0, .int .u8 0, .int .u8 0, .int .u8 0, .int .u8 0, .int .u8 0, .int .u8 0, .int .u8 0, .int .u8 0] } :=
  ⟨Tryz.underlying302, by decide, by decide, by decide, by decide, by decide, ty_info (by kernel_rfl)⟩
theorem tyOk305 : TyOk Tryz.prog 305 { k := .struct [(9, 0)], size := 1, bytes := 16, zero := .agg #[.string ⟨#[]⟩] } :=
  ⟨⟨_, Tryz.underlying305, rfl, by
      intro F hF
      simp only [List.mem_cons, List.not_mem_nil, or_false] at hF
      rcases hF with rfl
      · exact ty_has (by kernel_rfl)⟩, by decide, by decide, by decide, by decide, by decide, ty_info (by kernel_rfl)⟩
theorem tyOk306 : TyOk Tryz.prog 306 { k := .struct [(9, 0)], size := 1, bytes := 16, zero := .agg #[.string ⟨#[]⟩] } :=
  ⟨⟨_, Tryz.underlying306, rfl, by
      intro F hF
      simp only [List.mem_cons, List.not_mem_nil, or_false] at hF
      rcases hF with rfl
      · exact ty_has (by kernel_rfl)⟩, by decide, by decide, by decide, by decide, by decide, ty_info (by kernel_rfl)⟩
theorem tyOk309 : TyOk Tryz.prog 309 { k := .int .i64, size := 1, bytes := 8, zero := .int .i64 0 } :=
  ⟨Tryz.underlying309, by decide, by decide, by decide, by decide, by decide, ty_info (by kernel_rfl)⟩
theorem tyOk318 : TyOk Tryz.prog 318 { k := .int .u64, size := 1, bytes := 8, zero := .int .u64 0 } :=
  ⟨Tryz.underlying318, by decide, by decide, by decide, by decide, by decide, ty_info (by kernel_rfl)⟩
theorem tyOk324 : TyOk Tryz.prog 324 { k := .arr 24 5, size := 24, bytes := 24, zero := .agg #[.int .u8 0, .int .u8 0, .int .u8 0, .int .u8 0, .int .u8 0, .int .u8 0, .int .u8 0, .int .u8 0, .int .u8 0, .int .u8 0, .int .u8 0, .int .u8 0, .int .u8 0, .int .u8 0, .int .u8 0, .int .u8 0, .int .u8 0, .int .u8 0, .int .u8 0, .int .u8 0, .int .u8 0, .int .u8 0, .int .u8 0, .int .u8 0] } :=
  ⟨Tryz.underlying324, by decide, by decide, by decide, by decide, by decide, ty_info (by kernel_rfl)⟩
theorem tyOk331 : TyOk Tryz.prog 331 { k := .arr 20 259, size := 20, bytes := 160, zero := .agg #[.int .u64 0, .int .u64 0, .int .u64 0, .int .u64 0, .int .u64 0, .int .u64 0, .int .u64 0, .int .u64 0, .int .u64 0, .int .u64 0, .int .u64 0, .int .u64 0, .int .u64 0, .int .u64 0, .int .u64 0, .int .u64 0, .int .u64 0, .int .u64 0, .int .u64 0, .int .u64 0] } :=
  ⟨Tryz.underlying331, by decide, by decide, by decide, by decide, by decide, ty_info (by kernel_rfl)⟩
theorem tyOk333 : TyOk Tryz.prog 333 { k := .arr 32 5, size := 32, bytes := 32, zero := .agg #[.int .u8 0, .int .u8 0, .int .u8 0, .int .u8 0, .int .u8 0, .int .u8 0, .int .u8 0, .int .u8 0, .int .u8 0, .int .u8 0, .int .u8 0, .int .u8 0, .int .u8 0, .int .u8 0, .int .u8 0, .int .u8 0, .int .u8 0, .int .u8 0, .int .u8 0, .int .u8 0, .int .u8 0, .int .u8 0, .int .u8 0, .int .u8 0, .int .u8 0, .int .u8 0, .int .u8 0, .int .u8 0, .int .u8 0, .int .u8 0, .int .u8 0, .int .u8 0] } :=
  ⟨Tryz.underlying333, by decide, by decide, by decide, by decide, by decide, ty_info (by kernel_rfl)⟩
theorem tyOk335 : TyOk Tryz.prog 335 { k := .struct [(17, 0), (17, 1), (17, 2), (9, 3)], size := 4, bytes := 40, zero := .agg #[.pointer none, .pointer none, .pointer none, .string ⟨#[]⟩] } :=
  ⟨⟨_, Tryz.underlying335, rfl, by
      intro F hF
      simp only [List.mem_cons, List.not_mem_nil, or_false] at hF
      rcases hF with rfl | rfl | rfl | rfl
      · exact ty_has (by kernel_rfl)
      · exact ty_has (by kernel_rfl)
      · exact ty_has (by kernel_rfl)
      · exact ty_has (by kernel_rfl)⟩, by decide, by decide, by decide, by decide, by decide, ty_info (by kernel_rfl)⟩
theorem tyOk336 : TyOk Tryz.prog 336 { k := .struct [(17, 0), (17, 1), (17, 2), (9, 3)], size := 4, bytes := 40, zero := .agg #[.pointer none, .pointer none, .pointer none, .string ⟨#[]⟩] } :=
  ⟨⟨_, Tryz.underlying336, rfl, by
      intro F hF
      simp only [List.mem_cons, List.not_mem_nil, or_false] at hF
      rcases hF with rfl | rfl | rfl | rfl
      · exact ty_has (by kernel_rfl)
      · exact ty_has (by kernel_rfl)
      · exact ty_has (by kernel_rfl)
      · exact ty_has (by kernel_rfl)⟩, by decide, by decide, by decide, by decide, by decide, ty_info (by kernel_rfl)⟩
theorem tyOk340 : TyOk Tryz.prog 340 { k := .int .u8, size := 1, bytes := 1, zero := .int .u8 0 } :=
  ⟨Tryz.underlying340, by decide, by decide, by decide, by decide, by decide, ty_info (by kernel_rfl)⟩
theorem tyOk341 : TyOk Tryz.prog 341 { k := .int .u8, size := 1, bytes := 1, zero := .int .u8 0 } :=
  ⟨Tryz.underlying341, by decide, by decide, by decide, by decide, by decide, ty_info (by kernel_rfl)⟩
theorem tyOk343 : TyOk Tryz.prog 343 { k := .int .i32, size := 1, bytes := 4, zero := .int .i32 0 } :=
  ⟨Tryz.underlying343, by decide, by decide, by decide, by decide, by decide, ty_info (by kernel_rfl)⟩
theorem tyOk344 : TyOk Tryz.prog 344 { k := .int .i32, size := 1, bytes := 4, zero := .int .i32 0 } :=
  ⟨Tryz.underlying344, by decide, by decide, by decide, by decide, by decide, ty_info (by kernel_rfl)⟩
theorem tyOk345 : TyOk Tryz.prog 345 { k := .struct [(12, 0), (12, 1), (296, 2), (340, 3), (5, 4), (5, 5), (341, 6), (342, 7), (155, 8), (343, 9), (344, 10)], size := 11, bytes := 48, zero := .agg #[.int .u64 0, .int .u64 0, .int .u32 0, .int .u8 0, .int .u8 0, .int .u8 0, .int .u8 0, .nilFunc, .pointer none, .int .i32 0, .int .i32 0] } :=
  ⟨⟨_, Tryz.underlying345, rfl, by
      intro F hF
      simp only [List.mem_cons, List.not_mem_nil, or_false] at hF
      rcases hF with rfl | rfl | rfl | rfl | rfl | rfl | rfl | rfl | rfl | rfl | rfl
      · exact ty_has (by kernel_rfl)
      · exact ty_has (by kernel_rfl)
      · exact ty_has (by kernel_rfl)
      · exact ty_has (by kernel_rfl)
      · exact ty_has (by kernel_rfl)
      · exact ty_has (by kernel_rfl)
      · exact ty_has (by kernel_rfl)
      · exact ty_has (by kernel_rfl)
      · exact ty_has (by kernel_rfl)
      · exact ty_has (by kernel_rfl)
      · exact ty_has (by kernel_rfl)⟩, by decide, by decide, by decide, by decide, by decide, ty_info (by kernel_rfl)⟩
theorem tyOk346 : TyOk Tryz.prog 346 { k := .struct [(12, 0), (12, 1), (296, 2), (340, 3), (5, 4), (5, 5), (341, 6), (342, 7), (155, 8), (343, 9), (344, 10)], size := 11, bytes := 48, zero := .agg #[.int .u64 0, .int .u64 0, .int .u32 0, .int .u8 0, .int .u8 0, .int .u8 0, .int .u8 0, .nilFunc, .pointer none, .int .i32 0, .int .i32 0] } :=
  ⟨⟨_, Tryz.underlying346, rfl, by
      intro F hF
      simp only [List.mem_cons, List.not_mem_nil, or_false] at hF
      rcases hF with rfl | rfl | rfl | rfl | rfl | rfl | rfl | rfl | rfl | rfl | rfl
      · exact ty_has (by kernel_rfl)
      · exact ty_has (by kernel_rfl)
      · exact ty_has (by kernel_rfl)
      · exact ty_has (by kernel_rfl)
      · exact ty_has (by kernel_rfl)
      · exact ty_has (by kernel_rfl)
      · exact ty_has (by kernel_rfl)
      · exact ty_has (by kernel_rfl)
      · exact ty_has (by kernel_rfl)
      · exact ty_has (by kernel_rfl)
      · exact ty_has (by kernel_rfl)⟩, by decide, by decide, by decide, by decide, by decide, ty_info (by kernel_rfl)⟩
theorem tyOk349 : TyOk Tryz.prog 349 { k := .arr 2 9, size := 2, bytes := 32, zero := .agg #[.string ⟨#[]⟩, .string ⟨#[]⟩] } :=
  ⟨Tryz.underlying349, by decide, by decide, by decide, by decide, by decide, ty_info (by kernel_rfl)⟩
theorem tyOk1 : TyOk Tryz.prog 1 { k := .func, size := 1, bytes := 8, zero := .nilFunc } :=
  ⟨⟨_, _, _, Tryz.underlying1⟩, by decide, by decide, by decide, by decide, by decide, ty_info (by kernel_rfl)⟩
theorem tyOk15 : TyOk Tryz.prog 15 { k := .ptr, size := 1, bytes := 8, zero := .pointer none } :=
  ⟨⟨_, Tryz.underlying15⟩, by decide, by decide, by decide, by decide, by decide, ty_info (by kernel_rfl)⟩
theorem tyOk16 : TyOk Tryz.prog 16 { k := .ptr, size := 1, bytes := 8, zero := .pointer none } :=
  ⟨⟨_, Tryz.underlying16⟩, by decide, by decide, by decide, by decide, by decide, ty_info (by kernel_rfl)⟩
theorem tyOk17 : TyOk Tryz.prog 17 { k := .ptr, size := 1, bytes := 8, zero := .pointer none } :=
  ⟨⟨_, Tryz.underlying17⟩, by decide, by decide, by decide, by decide, by decide, ty_info (by kernel_rfl)⟩
theorem tyOk20 : TyOk Tryz.prog 20 { k := .ifc, size := 1, bytes := 16, zero := .nilIface } :=
  ⟨⟨_, Tryz.underlying20⟩, by decide, by decide, by decide, by decide, by decide, ty_info (by kernel_rfl)⟩
theorem tyOk29 : TyOk Tryz.prog 29 { k := .func, size := 1, bytes := 8, zero := .nilFunc } :=
  ⟨⟨_, _, _, Tryz.underlying29⟩, by decide, by decide, by decide, by decide, by decide, ty_info (by kernel_rfl)⟩
theorem tyOk30 : TyOk Tryz.prog 30 { k := .func, size := 1, bytes := 8, zero := .nilFunc } :=
  ⟨⟨_, _, _, Tryz.underlying30⟩, by decide, by decide, by decide, by decide, by decide, ty_info (by kernel_rfl)⟩
theorem tyOk31 : TyOk Tryz.prog 31 { k := .func, size := 1, bytes := 8, zero := .nilFunc } :=
  ⟨⟨_, _, _, Tryz.underlying31⟩, by decide, by decide, by decide, by decide, by decide, ty_info (by kernel_rfl)⟩
theorem tyOk32 : TyOk Tryz.prog 32 { k := .func, size := 1, bytes := 8, zero := .nilFunc } :=
  ⟨⟨_, _, _, Tryz.underlying32⟩, by decide, by decide, by decide, by decide, by decide, ty_info (by kernel_rfl)⟩
theorem tyOk33 : TyOk Tryz.prog 33 { k := .func, size := 1, bytes := 8, zero := .nilFunc } :=
  ⟨⟨_, _, _, Tryz.underlying33⟩, by decide, by decide, by decide, by decide, by decide, ty_info (by kernel_rfl)⟩
theorem tyOk39 : TyOk Tryz.prog 39 { k := .func, size := 1, bytes := 8, zero := .nilFunc } :=
  ⟨⟨_, _, _, Tryz.underlying39⟩, by decide, by decide, by decide, by decide, by decide, ty_info (by kernel_rfl)⟩
theorem tyOk40 : TyOk Tryz.prog 40 { k := .func, size := 1, bytes := 8, zero := .nilFunc } :=
  ⟨⟨_, _, _, Tryz.underlying40⟩, by decide, by decide, by decide, by decide, by decide, ty_info (by kernel_rfl)⟩
theorem tyOk46 : TyOk Tryz.prog 46 { k := .func, size := 1, bytes := 8, zero := .nilFunc } :=
  ⟨⟨_, _, _, Tryz.underlying46⟩, by decide, by decide, by decide, by decide, by decide, ty_info (by kernel_rfl)⟩
theorem tyOk47 : TyOk Tryz.prog 47 { k := .func, size := 1, bytes := 8, zero := .nilFunc } :=
  ⟨⟨_, _, _, Tryz.underlying47⟩, by decide, by decide, by decide, by decide, by decide, ty_info (by kernel_rfl)⟩
theorem tyOk50 : TyOk Tryz.prog 50 { k := .ptr, size := 1, bytes := 8, zero := .pointer none } :=
  ⟨⟨_, Tryz.underlying50⟩, by decide, by decide, by decide, by decide, by decide, ty_info (by kernel_rfl)⟩
theorem tyOk54 : TyOk Tryz.prog 54 { k := .ifc, size := 1, bytes := 16, zero := .nilIface } :=
  ⟨⟨_, Tryz.underlying54⟩, by decide, by decide, by decide, by decide, by decide, ty_info (by kernel_rfl)⟩
theorem tyOk55 : TyOk Tryz.prog 55 { k := .ifc, size := 1, bytes := 16, zero := .nilIface } :=
  ⟨⟨_, Tryz.underlying55⟩, by decide, by decide, by decide, by decide, by decide, ty_info (by kernel_rfl)⟩
theorem tyOk57 : TyOk Tryz.prog 57 { k := .func, size := 1, bytes := 8, zero := .nilFunc } :=
  ⟨⟨_, _, _, Tryz.underlying57⟩, by decide, by decide, by decide, by decide, by decide, ty_info (by kernel_rfl)⟩
theorem tyOk58 : TyOk Tryz.prog 58 { k := .func, size := 1, bytes := 8, zero := .nilFunc } :=
  ⟨⟨_, _, _, Tryz.underlying58⟩, by decide, by decide, by decide, by decide, by decide, ty_info (by kernel_rfl)⟩
theorem tyOk59 : TyOk Tryz.prog 59 { k := .func, size := 1, bytes := 8, zero := .nilFunc } :=
  ⟨⟨_, _, _, Tryz.underlying59⟩, by decide, by decide, by decide, by decide, by decide, ty_info (by kernel_rfl)⟩
theorem tyOk60 : TyOk Tryz.prog 60 { k := .func, size := 1, bytes := 8, zero := .nilFunc } :=
  ⟨⟨_, _, _, Tryz.underlying60⟩, by decide, by decide, by decide, by decide, by decide, ty_info (by kernel_rfl)⟩
theorem tyOk61 : TyOk Tryz.prog 61 { k := .func, size := 1, bytes := 8, zero := .nilFunc } :=
  ⟨⟨_, _, _, Tryz.underlying61⟩, by decide, by decide, by decide, by decide, by decide, ty_info (by kernel_rfl)⟩
theorem tyOk62 : TyOk Tryz.prog 62 { k := .func, size := 1, bytes := 8, zero := .nilFunc } :=
  ⟨⟨_, _, _, Tryz.underlying62⟩, by decide, by decide, by decide, by decide, by decide, ty_info (by kernel_rfl)⟩
theorem tyOk63 : TyOk Tryz.prog 63 { k := .func, size := 1, bytes := 8, zero := .nilFunc } :=
  ⟨⟨_, _, _, Tryz.underlying63⟩, by decide, by decide, by decide, by decide, by decide, ty_info (by kernel_rfl)⟩
theorem tyOk65 : TyOk Tryz.prog 65 { k := .func, size := 1, bytes := 8, zero := .nilFunc } :=
  ⟨⟨_, _, _, Tryz.underlying65⟩, by decide, by decide, by decide, by decide, by decide, ty_info (by kernel_rfl)⟩
theorem tyOk68 : TyOk Tryz.prog 68 { k := .func, size := 1, bytes := 8, zero := .nilFunc } :=
  ⟨⟨_, _, _, Tryz.underlying68⟩, by decide, by decide, by decide, by decide, by decide, ty_info (by kernel_rfl)⟩
theorem tyOk71 : TyOk Tryz.prog 71 { k := .func, size := 1, bytes := 8, zero := .nilFunc } :=
  ⟨⟨_, _, _, Tryz.underlying71⟩, by decide, by decide, by decide, by decide, by decide, ty_info (by kernel_rfl)⟩
theorem tyOk73 : TyOk Tryz.prog 73 { k := .func, size := 1, bytes := 8, zero := .nilFunc } :=
  ⟨⟨_, _, _, Tryz.underlying73⟩, by decide, by decide, by decide, by decide, by decide, ty_info (by kernel_rfl)⟩
theorem tyOk97 : TyOk Tryz.prog 97 { k := .func, size := 1, bytes := 8, zero := .nilFunc } :=
  ⟨⟨_, _, _, Tryz.underlying97⟩, by decide, by decide, by decide, by decide, by decide, ty_info (by kernel_rfl)⟩
theorem tyOk100 : TyOk Tryz.prog 100 { k := .func, size := 1, bytes := 8, zero := .nilFunc } :=
  ⟨⟨_, _, _, Tryz.underlying100⟩, by decide, by decide, by decide, by decide, by decide, ty_info (by kernel_rfl)⟩
theorem tyOk105 : TyOk Tryz.prog 105 { k := .func, size := 1, bytes := 8, zero := .nilFunc } :=
  ⟨⟨_, _, _, Tryz.underlying105⟩, by decide, by decide, by decide, by decide, by decide, ty_info (by kernel_rfl)⟩
theorem tyOk108 : TyOk Tryz.prog 108 { k := .func, size := 1, bytes := 8, zero := .nilFunc } :=
  ⟨⟨_, _, _, Tryz.underlying108⟩, by decide, by decide, by decide, by decide, by decide, ty_info (by kernel_rfl)⟩
theorem tyOk111 : TyOk Tryz.prog 111 { k := .func, size := 1, bytes := 8, zero := .nilFunc } :=
  ⟨⟨_, _, _, Tryz.underlying111⟩, by decide, by decide, by decide, by decide, by decide, ty_info (by kernel_rfl)⟩
theorem tyOk115 : TyOk Tryz.prog 115 { k := .func, size := 1, bytes := 8, zero := .nilFunc } :=
  ⟨⟨_, _, _, Tryz.underlying115⟩, by decide, by decide, by decide, by decide, by decide, ty_info (by kernel_rfl)⟩
theorem tyOk118 : TyOk Tryz.prog 118 { k := .func, size := 1, bytes := 8, zero := .nilFunc } :=
  ⟨⟨_, _, _, Tryz.underlying118⟩, by decide, by decide, by decide, by decide, by decide, ty_info (by kernel_rfl)⟩
theorem tyOk123 : TyOk Tryz.prog 123 { k := .func, size := 1, bytes := 8, zero := .nilFunc } :=
  ⟨⟨_, _, _, Tryz.underlying123⟩, by decide, by decide, by decide, by decide, by decide, ty_info (by kernel_rfl)⟩
theorem tyOk128 : TyOk Tryz.prog 128 { k := .func, size := 1, bytes := 8, zero := .nilFunc } :=
  ⟨⟨_, _, _, Tryz.underlying128⟩, by decide, by decide, by decide, by decide, by decide, ty_info (by kernel_rfl)⟩
theorem tyOk135 : TyOk Tryz.prog 135 { k := .func, size := 1, bytes := 8, zero := .nilFunc } :=
  ⟨⟨_, _, _, Tryz.underlying135⟩, by decide, by decide, by decide, by decide, by decide, ty_info (by kernel_rfl)⟩
theorem tyOk137 : TyOk Tryz.prog 137 { k := .func, size := 1, bytes := 8, zero := .nilFunc } :=
  ⟨⟨_, _, _, Tryz.underlying137⟩, by decide, by decide, by decide, by decide, by decide, ty_info (by kernel_rfl)⟩
theorem tyOk138 : TyOk Tryz.prog 138 { k := .func, size := 1, bytes := 8, zero := .nilFunc } :=
  ⟨⟨_, _, _, Tryz.underlying138⟩, by decide, by decide, by decide, by decide, by decide, ty_info (by kernel_rfl)⟩
theorem tyOk139 : TyOk Tryz.prog 139 { k := .func, size := 1, bytes := 8, zero := .nilFunc } :=
  ⟨⟨_, _, _, Tryz.underlying139⟩, by decide, by decide, by decide, by decide, by decide, ty_info (by kernel_rfl)⟩
theorem tyOk141 : TyOk Tryz.prog 141 { k := .func, size := 1, bytes := 8, zero := .nilFunc } :=
  ⟨⟨_, _, _, Tryz.underlying141⟩, by decide, by decide, by decide, by decide, by decide, ty_info (by kernel_rfl)⟩
theorem tyOk142 : TyOk Tryz.prog 142 { k := .func, size := 1, bytes := 8, zero := .nilFunc } :=
  ⟨⟨_, _, _, Tryz.underlying142⟩, by decide, by decide, by decide, by decide, by decide, ty_info (by kernel_rfl)⟩
theorem tyOk145 : TyOk Tryz.prog 145 { k := .func, size := 1, bytes := 8, zero := .nilFunc } :=
  ⟨⟨_, _, _, Tryz.underlying145⟩, by decide, by decide, by decide, by decide, by decide, ty_info (by kernel_rfl)⟩
theorem tyOk146 : TyOk Tryz.prog 146 { k := .func, size := 1, bytes := 8, zero := .nilFunc } :=
  ⟨⟨_, _, _, Tryz.underlying146⟩, by decide, by decide, by decide, by decide, by decide, ty_info (by kernel_rfl)⟩
theorem tyOk147 : TyOk Tryz.prog 147 { k := .func, size := 1, bytes := 8, zero := .nilFunc } :=
  ⟨⟨_, _, _, Tryz.underlying147⟩, by decide, by decide, by decide, by decide, by decide, ty_info (by kernel_rfl)⟩
theorem tyOk148 : TyOk Tryz.prog 148 { k := .func, size := 1, bytes := 8, zero := .nilFunc } :=
  ⟨⟨_, _, _, Tryz.underlying148⟩, by decide, by decide, by decide, by decide, by decide, ty_info (by kernel_rfl)⟩
theorem tyOk149 : TyOk Tryz.prog 149 { k := .ptr, size := 1, bytes := 8, zero := .pointer none } :=
  ⟨⟨_, Tryz.underlying149⟩, by decide, by decide, by decide, by decide, by decide, ty_info (by kernel_rfl)⟩
theorem tyOk152 : TyOk Tryz.prog 152 { k := .func, size := 1, bytes := 8, zero := .nilFunc } :=
  ⟨⟨_, _, _, Tryz.underlying152⟩, by decide, by decide, by decide, by decide, by decide, ty_info (by kernel_rfl)⟩
theorem tyOk154 : TyOk Tryz.prog 154 { k := .func, size := 1, bytes := 8, zero := .nilFunc } :=
  ⟨⟨_, _, _, Tryz.underlying154⟩, by decide, by decide, by decide, by decide, by decide, ty_info (by kernel_rfl)⟩
theorem tyOk155 : TyOk Tryz.prog 155 { k := .ptr, size := 1, bytes := 8, zero := .pointer none } :=
  ⟨⟨_, Tryz.underlying155⟩, by decide, by decide, by decide, by decide, by decide, ty_info (by kernel_rfl)⟩
theorem tyOk156 : TyOk Tryz.prog 156 { k := .func, size := 1, bytes := 8, zero := .nilFunc } :=
  ⟨⟨_, _, _, Tryz.underlying156⟩, by decide, by decide, by decide, by decide, by decide, ty_info (by kernel_rfl)⟩
theorem tyOk157 : TyOk Tryz.prog 157 { k := .func, size := 1, bytes := 8, zero := .nilFunc } :=
  ⟨⟨_, _, _, Tryz.underlying157⟩, by decide, by decide, by decide, by decide, by decide, ty_info (by kernel_rfl)⟩
theorem tyOk159 : TyOk Tryz.prog 159 { k := .func, size := 1, bytes := 8, zero := .nilFunc } :=
  ⟨⟨_, _, _, Tryz.underlying159⟩, by decide, by decide, by decide, by decide, by decide, ty_info (by kernel_rfl)⟩
theorem tyOk162 : TyOk Tryz.prog 162 { k := .func, size := 1, bytes := 8, zero := .nilFunc } :=
  ⟨⟨_, _, _, Tryz.underlying162⟩, by decide, by decide, by decide, by decide, by decide, ty_info (by kernel_rfl)⟩
theorem tyOk163 : TyOk Tryz.prog 163 { k := .func, size := 1, bytes := 8, zero := .nilFunc } :=
  ⟨⟨_, _, _, Tryz.underlying163⟩, by decide, by decide, by decide, by decide, by decide, ty_info (by kernel_rfl)⟩
theorem tyOk167 : TyOk Tryz.prog 167 { k := .func, size := 1, bytes := 8, zero := .nilFunc } :=
  ⟨⟨_, _, _, Tryz.underlying167⟩, by decide, by decide, by decide, by decide, by decide, ty_info (by kernel_rfl)⟩
theorem tyOk171 : TyOk Tryz.prog 171 { k := .func, size := 1, bytes := 8, zero := .nilFunc } :=
  ⟨⟨_, _, _, Tryz.underlying171⟩, by decide, by decide, by decide, by decide, by decide, ty_info (by kernel_rfl)⟩
theorem tyOk174 : TyOk Tryz.prog 174 { k := .func, size := 1, bytes := 8, zero := .nilFunc } :=
  ⟨⟨_, _, _, Tryz.underlying174⟩, by decide, by decide, by decide, by decide, by decide, ty_info (by kernel_rfl)⟩
theorem tyOk177 : TyOk Tryz.prog 177 { k := .func, size := 1, bytes := 8, zero := .nilFunc } :=
  ⟨⟨_, _, _, Tryz.underlying177⟩, by decide, by decide, by decide, by decide, by decide, ty_info (by kernel_rfl)⟩
theorem tyOk179 : TyOk Tryz.prog 179 { k := .func, size := 1, bytes := 8, zero := .nilFunc } :=
  ⟨⟨_, _, _, Tryz.underlying179⟩, by decide, by decide, by decide, by decide, by decide, ty_info (by kernel_rfl)⟩
theorem tyOk180 : TyOk Tryz.prog 180 { k := .func, size := 1, bytes := 8, zero := .nilFunc } :=
  ⟨⟨_, _, _, Tryz.underlying180⟩, by decide, by decide, by decide, by decide, by decide, ty_info (by kernel_rfl)⟩
theorem tyOk182 : TyOk Tryz.prog 182 { k := .func, size := 1, bytes := 8, zero := .nilFunc } :=
  ⟨⟨_, _, _, Tryz.underlying182⟩, by decide, by decide, by decide, by decide, by decide, ty_info (by kernel_rfl)⟩
theorem tyOk185 : TyOk Tryz.prog 185 { k := .func, size := 1, bytes := 8, zero := .nilFunc } :=
  ⟨⟨_, _, _, Tryz.underlying185⟩, by decide, by decide, by decide, by decide, by decide, ty_info (by kernel_rfl)⟩
theorem tyOk187 : TyOk Tryz.prog 187 { k := .func, size := 1, bytes := 8, zero := .nilFunc } :=
  ⟨⟨_, _, _, Tryz.underlying187⟩, by decide, by decide, by decide, by decide, by decide, ty_info (by kernel_rfl)⟩
theorem tyOk190 : TyOk Tryz.prog 190 { k := .func, size := 1, bytes := 8, zero := .nilFunc } :=
  ⟨⟨_, _, _, Tryz.underlying190⟩, by decide, by decide, by decide, by decide, by decide, ty_info (by kernel_rfl)⟩
theorem tyOk192 : TyOk Tryz.prog 192 { k := .func, size := 1, bytes := 8, zero := .nilFunc } :=
  ⟨⟨_, _, _, Tryz.underlying192⟩, by decide, by decide, by decide, by decide, by decide, ty_info (by kernel_rfl)⟩
theorem tyOk196 : TyOk Tryz.prog 196 { k := .func, size := 1, bytes := 8, zero := .nilFunc } :=
  ⟨⟨_, _, _, Tryz.underlying196⟩, by decide, by decide, by decide, by decide, by decide, ty_info (by kernel_rfl)⟩
theorem tyOk200 : TyOk Tryz.prog 200 { k := .func, size := 1, bytes := 8, zero := .nilFunc } :=
  ⟨⟨_, _, _, Tryz.underlying200⟩, by decide, by decide, by decide, by decide, by decide, ty_info (by kernel_rfl)⟩
theorem tyOk202 : TyOk Tryz.prog 202 { k := .func, size := 1, bytes := 8, zero := .nilFunc } :=
  ⟨⟨_, _, _, Tryz.underlying202⟩, by decide, by decide, by decide, by decide, by decide, ty_info (by kernel_rfl)⟩
theorem tyOk205 : TyOk Tryz.prog 205 { k := .func, size := 1, bytes := 8, zero := .nilFunc } :=
  ⟨⟨_, _, _, Tryz.underlying205⟩, by decide, by decide, by decide, by decide, by decide, ty_info (by kernel_rfl)⟩
theorem tyOk207 : TyOk Tryz.prog 207 { k := .func, size := 1, bytes := 8, zero := .nilFunc } :=
  ⟨⟨_, _, _, Tryz.underlying207⟩, by decide, by decide, by decide, by decide, by decide, ty_info (by kernel_rfl)⟩
theorem tyOk210 : TyOk Tryz.prog 210 { k := .func, size := 1, bytes := 8, zero := .nilFunc } :=
  ⟨⟨_, _, _, Tryz.underlying210⟩, by decide, by decide, by decide, by decide, by decide, ty_info (by kernel_rfl)⟩
theorem tyOk212 : TyOk Tryz.prog 212 { k := .func, size := 1, bytes := 8, zero := .nilFunc } :=
  ⟨⟨_, _, _, Tryz.underlying212⟩, by decide, by decide, by decide, by decide, by decide, ty_info (by kernel_rfl)⟩
theorem tyOk215 : TyOk Tryz.prog 215 { k := .func, size := 1, bytes := 8, zero := .nilFunc } :=
  ⟨⟨_, _, _, Tryz.underlying215⟩, by decide, by decide, by decide, by decide, by decide, ty_info (by kernel_rfl)⟩
theorem tyOk216 : TyOk Tryz.prog 216 { k := .func, size := 1, bytes := 8, zero := .nilFunc } :=
  ⟨⟨_, _, _, Tryz.underlying216⟩, by decide, by decide, by decide, by decide, by decide, ty_info (by kernel_rfl)⟩
theorem tyOk217 : TyOk Tryz.prog 217 { k := .func, size := 1, bytes := 8, zero := .nilFunc } :=
  ⟨⟨_, _, _, Tryz.underlying217⟩, by decide, by decide, by decide, by decide, by decide, ty_info (by kernel_rfl)⟩
theorem tyOk218 : TyOk Tryz.prog 218 { k := .func, size := 1, bytes := 8, zero := .nilFunc } :=
  ⟨⟨_, _, _, Tryz.underlying218⟩, by decide, by decide, by decide, by decide, by decide, ty_info (by kernel_rfl)⟩
theorem tyOk222 : TyOk Tryz.prog 222 { k := .func, size := 1, bytes := 8, zero := .nilFunc } :=
  ⟨⟨_, _, _, Tryz.underlying222⟩, by decide, by decide, by decide, by decide, by decide, ty_info (by kernel_rfl)⟩
theorem tyOk223 : TyOk Tryz.prog 223 { k := .func, size := 1, bytes := 8, zero := .nilFunc } :=
  ⟨⟨_, _, _, Tryz.underlying223⟩, by decide, by decide, by decide, by decide, by decide, ty_info (by kernel_rfl)⟩
theorem tyOk224 : TyOk Tryz.prog 224 { k := .ptr, size := 1, bytes := 8, zero := .pointer none } :=
  ⟨⟨_, Tryz.underlying224⟩, by decide, by decide, by decide, by decide, by decide, ty_info (by kernel_rfl)⟩
theorem tyOk225 : TyOk Tryz.prog 225 { k := .func, size := 1, bytes := 8, zero := .nilFunc } :=
  ⟨⟨_, _, _, Tryz.underlying225⟩, by decide, by decide, by decide, by decide, by decide, ty_info (by kernel_rfl)⟩
theorem tyOk226 : TyOk Tryz.prog 226 { k := .func, size := 1, bytes := 8, zero := .nilFunc } :=
  ⟨⟨_, _, _, Tryz.underlying226⟩, by decide, by decide, by decide, by decide, by decide, ty_info (by kernel_rfl)⟩
theorem tyOk227 : TyOk Tryz.prog 227 { k := .func, size := 1, bytes := 8, zero := .nilFunc } :=
  ⟨⟨_, _, _, Tryz.underlying227⟩, by decide, by decide, by decide, by decide, by decide, ty_info (by kernel_rfl)⟩
theorem tyOk228 : TyOk Tryz.prog 228 { k := .func, size := 1, bytes := 8, zero := .nilFunc } :=
  ⟨⟨_, _, _, Tryz.underlying228⟩, by decide, by decide, by decide, by decide, by decide, ty_info (by kernel_rfl)⟩
theorem tyOk229 : TyOk Tryz.prog 229 { k := .func, size := 1, bytes := 8, zero := .nilFunc } :=
  ⟨⟨_, _, _, Tryz.underlying229⟩, by decide, by decide, by decide, by decide, by decide, ty_info (by kernel_rfl)⟩
theorem tyOk231 : TyOk Tryz.prog 231 { k := .func, size := 1, bytes := 8, zero := .nilFunc } :=
  ⟨⟨_, _, _, Tryz.underlying231⟩, by decide, by decide, by decide, by decide, by decide, ty_info (by kernel_rfl)⟩
theorem tyOk232 : TyOk Tryz.prog 232 { k := .func, size := 1, bytes := 8, zero := .nilFunc } :=
  ⟨⟨_, _, _, Tryz.underlying232⟩, by decide, by decide, by decide, by decide, by decide, ty_info (by kernel_rfl)⟩
theorem tyOk233 : TyOk Tryz.prog 233 { k := .func, size := 1, bytes := 8, zero := .nilFunc } :=
  ⟨⟨_, _, _, Tryz.underlying233⟩, by decide, by decide, by decide, by decide, by decide, ty_info (by kernel_rfl)⟩
theorem tyOk234 : TyOk Tryz.prog 234 { k := .func, size := 1, bytes := 8, zero := .nilFunc } :=
  ⟨⟨_, _, _, Tryz.underlying234⟩, by decide, by decide, by decide, by decide, by decide, ty_info (by kernel_rfl)⟩
theorem tyOk235 : TyOk Tryz.prog 235 { k := .func, size := 1, bytes := 8, zero := .nilFunc } :=
  ⟨⟨_, _, _, Tryz.underlying235⟩, by decide, by decide, by decide, by decide, by decide, ty_info (by kernel_rfl)⟩
theorem tyOk236 : TyOk Tryz.prog 236 { k := .func, size := 1, bytes := 8, zero := .nilFunc } :=
  ⟨⟨_, _, _, Tryz.underlying236⟩, by decide, by decide, by decide, by decide, by decide, ty_info (by kernel_rfl)⟩
theorem tyOk237 : TyOk Tryz.prog 237 { k := .func, size := 1, bytes := 8, zero := .nilFunc } :=
  ⟨⟨_, _, _, Tryz.underlying237⟩, by decide, by decide, by decide, by decide, by decide, ty_info (by kernel_rfl)⟩
theorem tyOk238 : TyOk Tryz.prog 238 { k := .func, size := 1, bytes := 8, zero := .nilFunc } :=
  ⟨⟨_, _, _, Tryz.underlying238⟩, by decide, by decide, by decide, by decide, by decide, ty_info (by kernel_rfl)⟩
theorem tyOk239 : TyOk Tryz.prog 239 { k := .func, size := 1, bytes := 8, zero := .nilFunc } :=
  ⟨⟨_, _, _, Tryz.underlying239⟩, by decide, by decide, by decide, by decide, by decide, ty_info (by kernel_rfl)⟩
theorem tyOk240 : TyOk Tryz.prog 240 { k := .func, size := 1, bytes := 8, zero := .nilFunc } :=
  ⟨⟨_, _, _, Tryz.underlying240⟩, by decide, by decide, by decide, by decide, by decide, ty_info (by kernel_rfl)⟩
theorem tyOk241 : TyOk Tryz.prog 241 { k := .func, size := 1, bytes := 8, zero := .nilFunc } :=
  ⟨⟨_, _, _, Tryz.underlying241⟩, by decide, by decide, by decide, by decide, by decide, ty_info (by kernel_rfl)⟩
theorem tyOk242 : TyOk Tryz.prog 242 { k := .func, size := 1, bytes := 8, zero := .nilFunc } :=
  ⟨⟨_, _, _, Tryz.underlying242⟩, by decide, by decide, by decide, by decide, by decide, ty_info (by kernel_rfl)⟩
theorem tyOk243 : TyOk Tryz.prog 243 { k := .func, size := 1, bytes := 8, zero := .nilFunc } :=
  ⟨⟨_, _, _, Tryz.underlying243⟩, by decide, by decide, by decide, by decide, by decide, ty_info (by kernel_rfl)⟩
theorem tyOk245 : TyOk Tryz.prog 245 { k := .func, size := 1, bytes := 8, zero := .nilFunc } :=
  ⟨⟨_, _, _, Tryz.underlying245⟩, by decide, by decide, by decide, by decide, by decide, ty_info (by kernel_rfl)⟩
theorem tyOk246 : TyOk Tryz.prog 246 { k := .func, size := 1, bytes := 8, zero := .nilFunc } :=
  ⟨⟨_, _, _, Tryz.underlying246⟩, by decide, by decide, by decide, by decide, by decide, ty_info (by kernel_rfl)⟩
theorem tyOk247 : TyOk Tryz.prog 247 { k := .func, size := 1, bytes := 8, zero := .nilFunc } :=
  ⟨⟨_, _, _, Tryz.underlying247⟩, by decide, by decide, by decide, by decide, by decide, ty_info (by kernel_rfl)⟩
theorem tyOk248 : TyOk Tryz.prog 248 { k := .func, size := 1, bytes := 8, zero := .nilFunc } :=
  ⟨⟨_, _, _, Tryz.underlying248⟩, by decide, by decide, by decide, by decide, by decide, ty_info (by kernel_rfl)⟩
theorem tyOk251 : TyOk Tryz.prog 251 { k := .func, size := 1, bytes := 8, zero := .nilFunc } :=
  ⟨⟨_, _, _, Tryz.underlying251⟩, by decide, by decide, by decide, by decide, by decide, ty_info (by kernel_rfl)⟩
theorem tyOk252 : TyOk Tryz.prog 252 { k := .func, size := 1, bytes := 8, zero := .nilFunc } :=
  ⟨⟨_, _, _, Tryz.underlying252⟩, by decide, by decide, by decide, by decide, by decide, ty_info (by kernel_rfl)⟩
theorem tyOk253 : TyOk Tryz.prog 253 { k := .func, size := 1, bytes := 8, zero := .nilFunc } :=
  ⟨⟨_, _, _, Tryz.underlying253⟩, by decide, by decide, by decide, by decide, by decide, ty_info (by kernel_rfl)⟩
theorem tyOk254 : TyOk Tryz.prog 254 { k := .func, size := 1, bytes := 8, zero := .nilFunc } :=
  ⟨⟨_, _, _, Tryz.underlying254⟩, by decide, by decide, by decide, by decide, by decide, ty_info (by kernel_rfl)⟩
theorem tyOk256 : TyOk Tryz.prog 256 { k := .func, size := 1, bytes := 8, zero := .nilFunc } :=
  ⟨⟨_, _, _, Tryz.underlying256⟩, by decide, by decide, by decide, by decide, by decide, ty_info (by kernel_rfl)⟩
theorem tyOk257 : TyOk Tryz.prog 257 { k := .func, size := 1, bytes := 8, zero := .nilFunc } :=
  ⟨⟨_, _, _, Tryz.underlying257⟩, by decide, by decide, by decide, by decide, by decide, ty_info (by kernel_rfl)⟩
theorem tyOk261 : TyOk Tryz.prog 261 { k := .func, size := 1, bytes := 8, zero := .nilFunc } :=
  ⟨⟨_, _, _, Tryz.underlying261⟩, by decide, by decide, by decide, by decide, by decide, ty_info (by kernel_rfl)⟩
theorem tyOk263 : TyOk Tryz.prog 263 { k := .ptr, size := 1, bytes := 8, zero := .pointer none } :=
  ⟨⟨_, Tryz.underlying263⟩, by decide, by decide, by decide, by decide, by decide, ty_info (by kernel_rfl)⟩
theorem tyOk264 : TyOk Tryz.prog 264 { k := .func, size := 1, bytes := 8, zero := .nilFunc } :=
  ⟨⟨_, _, _, Tryz.underlying264⟩, by decide, by decide, by decide, by decide, by decide, ty_info (by kernel_rfl)⟩
theorem tyOk265 : TyOk Tryz.prog 265 { k := .func, size := 1, bytes := 8, zero := .nilFunc } :=
  ⟨⟨_, _, _, Tryz.underlying265⟩, by decide, by decide, by decide, by decide, by decide, ty_info (by kernel_rfl)⟩
theorem tyOk267 : TyOk Tryz.prog 267 { k := .func, size := 1, bytes := 8, zero := .nilFunc } :=
  ⟨⟨_, _, _, Tryz.underlying267⟩, by decide, by decide, by decide, by decide, by decide, ty_info (by kernel_rfl)⟩
theorem tyOk269 : TyOk Tryz.prog 269 { k := .func, size := 1, bytes := 8, zero := .nilFunc } :=
  ⟨⟨_, _, _, Tryz.underlying269⟩, by decide, by decide, by decide, by decide, by decide, ty_info (by kernel_rfl)⟩
theorem tyOk270 : TyOk Tryz.prog 270 { k := .func, size := 1, bytes := 8, zero := .nilFunc } :=
  ⟨⟨_, _, _, Tryz.underlying270⟩, by decide, by decide, by decide, by decide, by decide, ty_info (by kernel_rfl)⟩
theorem tyOk271 : TyOk Tryz.prog 271 { k := .func, size := 1, bytes := 8, zero := .nilFunc } :=
  ⟨⟨_, _, _, Tryz.underlying271⟩, by decide, by decide, by decide, by decide, by decide, ty_info (by kernel_rfl)⟩
theorem tyOk273 : TyOk Tryz.prog 273 { k := .func, size := 1, bytes := 8, zero := .nilFunc } :=
  ⟨⟨_, _, _, Tryz.underlying273⟩, by decide, by decide, by decide, by decide, by decide, ty_info (by kernel_rfl)⟩
theorem tyOk274 : TyOk Tryz.prog 274 { k := .func, size := 1, bytes := 8, zero := .nilFunc } :=
  ⟨⟨_, _, _, Tryz.underlying274⟩, by decide, by decide, by decide, by decide, by decide, ty_info (by kernel_rfl)⟩
theorem tyOk275 : TyOk Tryz.prog 275 { k := .func, size := 1, bytes := 8, zero := .nilFunc } :=
  ⟨⟨_, _, _, Tryz.underlying275⟩, by decide, by decide, by decide, by decide, by decide, ty_info (by kernel_rfl)⟩
theorem tyOk276 : TyOk Tryz.prog 276 { k := .func, size := 1, bytes := 8, zero := .nilFunc } :=
  ⟨⟨_, _, _, Tryz.underlying276⟩, by decide, by decide, by decide, by decide, by decide, ty_info (by kernel_rfl)⟩
theorem tyOk277 : TyOk Tryz.prog 277 { k := .func, size := 1, bytes := 8, zero := .nilFunc } :=
  ⟨⟨_, _, _, Tryz.underlying277⟩, by decide, by decide, by decide, by decide, by decide, ty_info (by kernel_rfl)⟩
theorem tyOk279 : TyOk Tryz.prog 279 { k := .func, size := 1, bytes := 8, zero := .nilFunc } :=
  ⟨⟨_, _, _, Tryz.underlying279⟩, by decide, by decide, by decide, by decide, by decide, ty_info (by kernel_rfl)⟩
theorem tyOk280 : TyOk Tryz.prog 280 { k := .func, size := 1, bytes := 8, zero := .nilFunc } :=
  ⟨⟨_, _, _, Tryz.underlying280⟩, by decide, by decide, by decide, by decide, by decide, ty_info (by kernel_rfl)⟩
theorem tyOk281 : TyOk Tryz.prog 281 { k := .func, size := 1, bytes := 8, zero := .nilFunc } :=
  ⟨⟨_, _, _, Tryz.underlying281⟩, by decide, by decide, by decide, by decide, by decide, ty_info (by kernel_rfl)⟩
theorem tyOk282 : TyOk Tryz.prog 282 { k := .func, size := 1, bytes := 8, zero := .nilFunc } :=
  ⟨⟨_, _, _, Tryz.underlying282⟩, by decide, by decide, by decide, by decide, by decide, ty_info (by kernel_rfl)⟩
theorem tyOk285 : TyOk Tryz.prog 285 { k := .func, size := 1, bytes := 8, zero := .nilFunc } :=
  ⟨⟨_, _, _, Tryz.underlying285⟩, by decide, by decide, by decide, by decide, by decide, ty_info (by kernel_rfl)⟩
theorem tyOk286 : TyOk Tryz.prog 286 { k := .func, size := 1, bytes := 8, zero := .nilFunc } :=
  ⟨⟨_, _, _, Tryz.underlying286⟩, by decide, by decide, by decide, by decide, by decide, ty_info (by kernel_rfl)⟩
theorem tyOk287 : TyOk Tryz.prog 287 { k := .func, size := 1, bytes := 8, zero := .nilFunc } :=
  ⟨⟨_, _, _, Tryz.underlying287⟩, by decide, by decide, by decide, by decide, by decide, ty_info (by kernel_rfl)⟩
theorem tyOk288 : TyOk Tryz.prog 288 { k := .func, size := 1, bytes := 8, zero := .nilFunc } :=
  ⟨⟨_, _, _, Tryz.underlying288⟩, by decide, by decide, by decide, by decide, by decide, ty_info (by kernel_rfl)⟩
theorem tyOk289 : TyOk Tryz.prog 289 { k := .map .str 9 3, size := 1, bytes := 8, zero := .map none } :=
  ⟨⟨Tryz.underlying289, Go.Maps.string_keyed Tryz.underlying9, fun v ⟨s, hv, hs⟩ => ⟨_, hv ▸ Go.WideMaps.keyOf_string_mk Tryz.underlying9 hs⟩⟩, by decide, by decide, by decide, by decide, by decide, ty_info (by kernel_rfl)⟩
theorem tyOk290 : TyOk Tryz.prog 290 { k := .func, size := 1, bytes := 8, zero := .nilFunc } :=
  ⟨⟨_, _, _, Tryz.underlying290⟩, by decide, by decide, by decide, by decide, by decide, ty_info (by kernel_rfl)⟩
theorem tyOk291 : TyOk Tryz.prog 291 { k := .func, size := 1, bytes := 8, zero := .nilFunc } :=
  ⟨⟨_, _, _, Tryz.underlying291⟩, by decide, by decide, by decide, by decide, by decide, ty_info (by kernel_rfl)⟩
theorem tyOk292 : TyOk Tryz.prog 292 { k := .func, size := 1, bytes := 8, zero := .nilFunc } :=
  ⟨⟨_, _, _, Tryz.underlying292⟩, by decide, by decide, by decide, by decide, by decide, ty_info (by kernel_rfl)⟩
theorem tyOk293 : TyOk Tryz.prog 293 { k := .func, size := 1, bytes := 8, zero := .nilFunc } :=
  ⟨⟨_, _, _, Tryz.underlying293⟩, by decide, by decide, by decide, by decide, by decide, ty_info (by kernel_rfl)⟩
theorem tyOk294 : TyOk Tryz.prog 294 { k := .func, size := 1, bytes := 8, zero := .nilFunc } :=
  ⟨⟨_, _, _, Tryz.underlying294⟩, by decide, by decide, by decide, by decide, by decide, ty_info (by kernel_rfl)⟩
theorem tyOk295 : TyOk Tryz.prog 295 { k := .func, size := 1, bytes := 8, zero := .nilFunc } :=
  ⟨⟨_, _, _, Tryz.underlying295⟩, by decide, by decide, by decide, by decide, by decide, ty_info (by kernel_rfl)⟩
theorem tyOk298 : TyOk Tryz.prog 298 { k := .func, size := 1, bytes := 8, zero := .nilFunc } :=
  ⟨⟨_, _, _, Tryz.underlying298⟩, by decide, by decide, by decide, by decide, by decide, ty_info (by kernel_rfl)⟩
theorem tyOk303 : TyOk Tryz.prog 303 { k := .func, size := 1, bytes := 8, zero := .nilFunc } :=
  ⟨⟨_, _, _, Tryz.underlying303⟩, by decide, by decide, by decide, by decide, by decide, ty_info (by kernel_rfl)⟩
theorem tyOk304 : TyOk Tryz.prog 304 { k := .ptr, size := 1, bytes := 8, zero := .pointer none } :=
  ⟨⟨_, Tryz.underlying304⟩, by decide, by decide, by decide, by decide, by decide, ty_info (by kernel_rfl)⟩
theorem tyOk307 : TyOk Tryz.prog 307 { k := .func, size := 1, bytes := 8, zero := .nilFunc } :=
  ⟨⟨_, _, _, Tryz.underlying307⟩, by decide, by decide, by decide, by decide, by decide, ty_info (by kernel_rfl)⟩
theorem tyOk308 : TyOk Tryz.prog 308 { k := .func, size := 1, bytes := 8, zero := .nilFunc } :=
  ⟨⟨_, _, _, Tryz.underlying308⟩, by decide, by decide, by decide, by decide, by decide, ty_info (by kernel_rfl)⟩
theorem tyOk311 : TyOk Tryz.prog 311 { k := .func, size := 1, bytes := 8, zero := .nilFunc } :=
  ⟨⟨_, _, _, Tryz.underlying311⟩, by decide, by decide, by decide, by decide, by decide, ty_info (by kernel_rfl)⟩
theorem tyOk312 : TyOk Tryz.prog 312 { k := .func, size := 1, bytes := 8, zero := .nilFunc } :=
  ⟨⟨_, _, _, Tryz.underlying312⟩, by decide, by decide, by decide, by decide, by decide, ty_info (by kernel_rfl)⟩
theorem tyOk313 : TyOk Tryz.prog 313 { k := .func, size := 1, bytes := 8, zero := .nilFunc } :=
  ⟨⟨_, _, _, Tryz.underlying313⟩, by decide, by decide, by decide, by decide, by decide, ty_info (by kernel_rfl)⟩
theorem tyOk314 : TyOk Tryz.prog 314 { k := .func, size := 1, bytes := 8, zero := .nilFunc } :=
  ⟨⟨_, _, _, Tryz.underlying314⟩, by decide, by decide, by decide, by decide, by decide, ty_info (by kernel_rfl)⟩
theorem tyOk315 : TyOk Tryz.prog 315 { k := .func, size := 1, bytes := 8, zero := .nilFunc } :=
  ⟨⟨_, _, _, Tryz.underlying315⟩, by decide, by decide, by decide, by decide, by decide, ty_info (by kernel_rfl)⟩
theorem tyOk316 : TyOk Tryz.prog 316 { k := .func, size := 1, bytes := 8, zero := .nilFunc } :=
  ⟨⟨_, _, _, Tryz.underlying316⟩, by decide, by decide, by decide, by decide, by decide, ty_info (by kernel_rfl)⟩
theorem tyOk317 : TyOk Tryz.prog 317 { k := .func, size := 1, bytes := 8, zero := .nilFunc } :=
  ⟨⟨_, _, _, Tryz.underlying317⟩, by decide, by decide, by decide, by decide, by decide, ty_info (by kernel_rfl)⟩
theorem tyOk319 : TyOk Tryz.prog 319 { k := .func, size := 1, bytes := 8, zero := .nilFunc } :=
  ⟨⟨_, _, _, Tryz.underlying319⟩, by decide, by decide, by decide, by decide, by decide, ty_info (by kernel_rfl)⟩
theorem tyOk320 : TyOk Tryz.prog 320 { k := .func, size := 1, bytes := 8, zero := .nilFunc } :=
  ⟨⟨_, _, _, Tryz.underlying320⟩, by decide, by decide, by decide, by decide, by decide, ty_info (by kernel_rfl)⟩
theorem tyOk321 : TyOk Tryz.prog 321 { k := .func, size := 1, bytes := 8, zero := .nilFunc } :=
  ⟨⟨_, _, _, Tryz.underlying321⟩, by decide, by decide, by decide, by decide, by decide, ty_info (by kernel_rfl)⟩
theorem tyOk322 : TyOk Tryz.prog 322 { k := .ptr, size := 1, bytes := 8, zero := .pointer none } :=
  ⟨⟨_, Tryz.underlying322⟩, by decide, by decide, by decide, by decide, by decide, ty_info (by kernel_rfl)⟩
theorem tyOk323 : TyOk Tryz.prog 323 { k := .func, size := 1, bytes := 8, zero := .nilFunc } :=
  ⟨⟨_, _, _, Tryz.underlying323⟩, by decide, by decide, by decide, by decide, by decide, ty_info (by kernel_rfl)⟩
theorem tyOk325 : TyOk Tryz.prog 325 { k := .func, size := 1, bytes := 8, zero := .nilFunc } :=
  ⟨⟨_, _, _, Tryz.underlying325⟩, by decide, by decide, by decide, by decide, by decide, ty_info (by kernel_rfl)⟩
theorem tyOk327 : TyOk Tryz.prog 327 { k := .func, size := 1, bytes := 8, zero := .nilFunc } :=
  ⟨⟨_, _, _, Tryz.underlying327⟩, by decide, by decide, by decide, by decide, by decide, ty_info (by kernel_rfl)⟩
theorem tyOk328 : TyOk Tryz.prog 328 { k := .ptr, size := 1, bytes := 8, zero := .pointer none } :=
  ⟨⟨_, Tryz.underlying328⟩, by decide, by decide, by decide, by decide, by decide, ty_info (by kernel_rfl)⟩
theorem tyOk330 : TyOk Tryz.prog 330 { k := .func, size := 1, bytes := 8, zero := .nilFunc } :=
  ⟨⟨_, _, _, Tryz.underlying330⟩, by decide, by decide, by decide, by decide, by decide, ty_info (by kernel_rfl)⟩
theorem tyOk342 : TyOk Tryz.prog 342 { k := .func, size := 1, bytes := 8, zero := .nilFunc } :=
  ⟨⟨_, _, _, Tryz.underlying342⟩, by decide, by decide, by decide, by decide, by decide, ty_info (by kernel_rfl)⟩
theorem tyOk347 : TyOk Tryz.prog 347 { k := .func, size := 1, bytes := 8, zero := .nilFunc } :=
  ⟨⟨_, _, _, Tryz.underlying347⟩, by decide, by decide, by decide, by decide, by decide, ty_info (by kernel_rfl)⟩
def TabOk (P : Program) : List (Nat × TyI) → Prop
  | [] => True
  | p :: r => TyOk P p.1 p.2 ∧ TabOk P r
theorem TabOk.mem {P : Program} : ∀ {l : List (Nat × TyI)}, TabOk P l → ∀ {p : Nat × TyI}, p ∈ l → TyOk P p.1 p.2
  | [], _, p, h => by cases h
  | q :: r, hl, p, h => by
    rcases List.mem_cons.1 h with rfl | h
    · exact hl.1
    · exact TabOk.mem hl.2 h
set_option maxHeartbeats 4000000 in
theorem tyTab_ok : TabOk Tryz.prog tyTab :=
  ⟨tyOk2, tyOk3, tyOk4, tyOk5, tyOk6, tyOk7, tyOk8, tyOk9, tyOk10, tyOk11, tyOk12, tyOk13, tyOk14, tyOk18, tyOk19, tyOk21, tyOk22, tyOk23, tyOk24, tyOk25, tyOk26, tyOk27, tyOk34, tyOk35, tyOk36, tyOk37, tyOk38, tyOk41, tyOk42, tyOk43, tyOk44, tyOk48, tyOk49, tyOk51, tyOk52, tyOk53, tyOk66, tyOk69, tyOk70, tyOk74, tyOk75, tyOk76, tyOk77, tyOk78, tyOk79, tyOk80, tyOk81, tyOk82, tyOk83, tyOk84, tyOk85, tyOk86, tyOk87, tyOk88, tyOk89, tyOk90, tyOk91, tyOk92, tyOk93, tyOk94, tyOk95, tyOk98, tyOk99, tyOk101, tyOk102, tyOk103, tyOk106, tyOk107, tyOk109, tyOk112, tyOk113, tyOk116, tyOk119, tyOk120, tyOk121, tyOk124, tyOk125, tyOk126, tyOk129, tyOk130, tyOk131, tyOk132, tyOk143, tyOk144, tyOk150, tyOk151, tyOk160, tyOk161, tyOk164, tyOk165, tyOk168, tyOk169, tyOk170, tyOk175, tyOk176, tyOk183, tyOk184, tyOk188, tyOk189, tyOk193, tyOk194, tyOk197, tyOk198, tyOk203, tyOk204, tyOk208, tyOk209, tyOk213, tyOk214, tyOk249, tyOk250, tyOk258, tyOk259, tyOk262, tyOk278, tyOk283, tyOk284, tyOk296, tyOk300, tyOk301, tyOk302, tyOk305, tyOk306, tyOk309, tyOk318, tyOk324, tyOk331, tyOk333, tyOk335, tyOk336, tyOk340, tyOk341, tyOk343, tyOk344, tyOk345, tyOk346, tyOk349, tyOk1, tyOk15, tyOk16, tyOk17, tyOk20, tyOk29, tyOk30, tyOk31, tyOk32, tyOk33, tyOk39, tyOk40, tyOk46, tyOk47, tyOk50, tyOk54, tyOk55, tyOk57, tyOk58, tyOk59, tyOk60, tyOk61, tyOk62, tyOk63, tyOk65, tyOk68, tyOk71, tyOk73, tyOk97, tyOk100, tyOk105, tyOk108, tyOk111, tyOk115, tyOk118, tyOk123, tyOk128, tyOk135, tyOk137, tyOk138, tyOk139, tyOk141, tyOk142, tyOk145, tyOk146, tyOk147, tyOk148, tyOk149, tyOk152, tyOk154, tyOk155, tyOk156, tyOk157, tyOk159, tyOk162, tyOk163, tyOk167, tyOk171, tyOk174, tyOk177, tyOk179, tyOk180, tyOk182, tyOk185, tyOk187, tyOk190, tyOk192, tyOk196, tyOk200, tyOk202, tyOk205, tyOk207, tyOk210, tyOk212, tyOk215, tyOk216, tyOk217, tyOk218, tyOk222, tyOk223, tyOk224, tyOk225, tyOk226, tyOk227, tyOk228, tyOk229, tyOk231, tyOk232, tyOk233, tyOk234, tyOk235, tyOk236, tyOk237, tyOk238, tyOk239, tyOk240, tyOk241, tyOk242, tyOk243, tyOk245, tyOk246, tyOk247, tyOk248, tyOk251, tyOk252, tyOk253, tyOk254, tyOk256, tyOk257, tyOk261, tyOk263, tyOk264, tyOk265, tyOk267, tyOk269, tyOk270, tyOk271, tyOk273, tyOk274, tyOk275, tyOk276, tyOk277, tyOk279, tyOk280, tyOk281, tyOk282, tyOk285, tyOk286, tyOk287, tyOk288, tyOk289, tyOk290, tyOk291, tyOk292, tyOk293, tyOk294, tyOk295, tyOk298, tyOk303, tyOk304, tyOk307, tyOk308, tyOk311, tyOk312, tyOk313, tyOk314, tyOk315, tyOk316, tyOk317, tyOk319, tyOk320, tyOk321, tyOk322, tyOk323, tyOk325, tyOk327, tyOk328, tyOk330, tyOk342, tyOk347, trivial⟩
theorem tyT_all (t : TypeId) : TyOk Tryz.prog t (tyT t) := by
  unfold tyT
  split
  · rename_i i h
    exact tyTab_ok.mem (findB_mem h)
  · trivial
/-- Struct types of plain fields. -/
def seTab : List Nat := [36, 49, 113, 120, 125, 130, 165, 194, 198]
def seB (t : TypeId) : Bool := elemB seTab t
def SeOk (P : Program) : List Nat → Prop
  | [] => True
  | t :: r => SOk P t ∧ SeOk P r
theorem SeOk.mem {P : Program} : ∀ {l : List Nat}, SeOk P l → ∀ {t : Nat}, elemB l t = true → SOk P t
  | [], _, t, h => by cases h
  | q :: r, hl, t, h => by
    unfold elemB at h
    split at h
    · rename_i e
      rw [Nat.eq_of_beq_eq_true e]
      exact hl.1
    · exact SeOk.mem hl.2 h
theorem seTab_ok : SeOk Tryz.prog seTab := ⟨⟨Tryz.stoodInHeld36, Tryz.eqGuardType36, by kernel_rfl⟩, ⟨Tryz.stoodInHeld49, Tryz.eqGuardType49, by kernel_rfl⟩, ⟨Tryz.stoodInHeld113, Tryz.eqGuardType113, by kernel_rfl⟩, ⟨Tryz.stoodInHeld120, Tryz.eqGuardType120, by kernel_rfl⟩, ⟨Tryz.stoodInHeld125, Tryz.eqGuardType125, by kernel_rfl⟩, ⟨Tryz.stoodInHeld130, Tryz.eqGuardType130, by kernel_rfl⟩, ⟨Tryz.stoodInHeld165, Tryz.eqGuardType165, by kernel_rfl⟩, ⟨Tryz.stoodInHeld194, Tryz.eqGuardType194, by kernel_rfl⟩, ⟨Tryz.stoodInHeld198, Tryz.eqGuardType198, by kernel_rfl⟩, trivial⟩
/-- What the program says of its types. -/
structure TyS (P : Program) : Prop where
  ty : ∀ t, TyOk P t (tyT t)
  se : ∀ t, seB t = true → SOk P t
theorem tyT_ok : TyS Tryz.prog := ⟨tyT_all, fun _ h => seTab_ok.mem h⟩
end Go.Proofs.YtiiohopjkepkgaaGreatDoor
