/-
  The table of this program's types that the readings know, each entry proved. Written by a program.
-/
import Derived.Test.YtdmbodlkkdeaoaaN17
import Derived.Test.YtdmbodlkkdeaoaaProg
namespace Go.Proofs.Ytdmbodlkkdeaoaa
open Go.RowKit
set_option maxRecDepth 100000

def tyTab : List (Nat × TyI) :=
  [(2, { k := .int .i64, size := 1, bytes := 8, zero := .int .i64 0 }),
   (3, { k := .int .i64, size := 1, bytes := 8, zero := .int .i64 0 }),
   (4, { k := .bool, size := 1, bytes := 1, zero := .bool false }),
   (5, { k := .int .u8, size := 1, bytes := 1, zero := .int .u8 0 }),
   (6, { k := .int .u8, size := 1, bytes := 1, zero := .int .u8 0 }),
   (7, { k := .struct [(2, 0), (3, 1), (4, 2), (6, 3)], size := 4, bytes := 24, zero := .agg #[.int .i64 0, .int .i64 0, .bool false, .int .u8 0] }),
   (8, { k := .struct [(2, 0), (3, 1), (4, 2), (6, 3)], size := 4, bytes := 24, zero := .agg #[.int .i64 0, .int .i64 0, .bool false, .int .u8 0] }),
   (9, { k := .str, size := 1, bytes := 16, zero := .string ⟨#[]⟩ }),
   (10, { k := .str, size := 1, bytes := 16, zero := .string ⟨#[]⟩ }),
   (11, { k := .str, size := 1, bytes := 16, zero := .string ⟨#[]⟩ }),
   (12, { k := .int .u64, size := 1, bytes := 8, zero := .int .u64 0 }),
   (13, { k := .struct [(9, 0), (12, 1)], size := 2, bytes := 24, zero := .agg #[.string ⟨#[]⟩, .int .u64 0] }),
   (14, { k := .struct [(9, 0), (12, 1)], size := 2, bytes := 24, zero := .agg #[.string ⟨#[]⟩, .int .u64 0] }),
   (18, { k := .struct [(17, 0)], size := 1, bytes := 8, zero := .agg #[.pointer none] }),
   (19, { k := .struct [(17, 0)], size := 1, bytes := 8, zero := .agg #[.pointer none] }),
   (21, { k := .int .i32, size := 1, bytes := 4, zero := .int .i32 0 }),
   (22, { k := .sl 39, size := 1, bytes := 24, zero := .slice none 0 0 }),
   (23, { k := .int .i64, size := 1, bytes := 8, zero := .int .i64 0 }),
   (33, { k := .sl 127, size := 1, bytes := 24, zero := .slice none 0 0 }),
   (38, { k := .struct [(3, 0), (9, 1)], size := 2, bytes := 24, zero := .agg #[.int .i64 0, .string ⟨#[]⟩] }),
   (39, { k := .struct [(3, 0), (9, 1)], size := 2, bytes := 24, zero := .agg #[.int .i64 0, .string ⟨#[]⟩] }),
   (41, { k := .sl 46, size := 1, bytes := 24, zero := .slice none 0 0 }),
   (44, { k := .sl 9, size := 1, bytes := 24, zero := .slice none 0 0 }),
   (45, { k := .struct [(3, 0), (4, 1), (3, 2), (9, 3), (41, 4), (44, 5)], size := 6, bytes := 88, zero := .agg #[.int .i64 0, .bool false, .int .i64 0, .string ⟨#[]⟩, .slice none 0 0, .slice none 0 0] }),
   (46, { k := .struct [(3, 0), (4, 1), (3, 2), (9, 3), (41, 4), (44, 5)], size := 6, bytes := 88, zero := .agg #[.int .i64 0, .bool false, .int .i64 0, .string ⟨#[]⟩, .slice none 0 0, .slice none 0 0] }),
   (48, { k := .sl 52, size := 1, bytes := 24, zero := .slice none 0 0 }),
   (51, { k := .struct [(9, 0), (46, 1)], size := 7, bytes := 104, zero := .agg #[.string ⟨#[]⟩, .int .i64 0, .bool false, .int .i64 0, .string ⟨#[]⟩, .slice none 0 0, .slice none 0 0] }),
   (52, { k := .struct [(9, 0), (46, 1)], size := 7, bytes := 104, zero := .agg #[.string ⟨#[]⟩, .int .i64 0, .bool false, .int .i64 0, .string ⟨#[]⟩, .slice none 0 0, .slice none 0 0] }),
   (56, { k := .sl 155, size := 1, bytes := 24, zero := .slice none 0 0 }),
   (57, { k := .struct [(56, 0)], size := 1, bytes := 24, zero := .agg #[.slice none 0 0] }),
   (58, { k := .struct [(56, 0)], size := 1, bytes := 24, zero := .agg #[.slice none 0 0] }),
   (59, { k := .sl 159, size := 1, bytes := 24, zero := .slice none 0 0 }),
   (60, { k := .struct [(9, 0), (9, 1), (58, 2), (9, 3), (9, 4), (44, 5), (44, 6), (44, 7), (59, 8)], size := 9, bytes := 184, zero := .agg #[.string ⟨#[]⟩, .string ⟨#[]⟩, .slice none 0 0, .string ⟨#[]⟩, .string ⟨#[]⟩, .slice none 0 0, .slice none 0 0, .slice none 0 0, .slice none 0 0] }),
   (61, { k := .struct [(9, 0), (9, 1), (58, 2), (9, 3), (9, 4), (44, 5), (44, 6), (44, 7), (59, 8)], size := 9, bytes := 184, zero := .agg #[.string ⟨#[]⟩, .string ⟨#[]⟩, .slice none 0 0, .string ⟨#[]⟩, .string ⟨#[]⟩, .slice none 0 0, .slice none 0 0, .slice none 0 0, .slice none 0 0] }),
   (62, { k := .sl 164, size := 1, bytes := 24, zero := .slice none 0 0 }),
   (63, { k := .struct [(62, 0)], size := 1, bytes := 24, zero := .agg #[.slice none 0 0] }),
   (64, { k := .struct [(62, 0)], size := 1, bytes := 24, zero := .agg #[.slice none 0 0] }),
   (65, { k := .sl 170, size := 1, bytes := 24, zero := .slice none 0 0 }),
   (66, { k := .sl 175, size := 1, bytes := 24, zero := .slice none 0 0 }),
   (67, { k := .sl 180, size := 1, bytes := 24, zero := .slice none 0 0 }),
   (68, { k := .struct [(44, 0), (67, 1)], size := 2, bytes := 48, zero := .agg #[.slice none 0 0, .slice none 0 0] }),
   (69, { k := .struct [(44, 0), (67, 1)], size := 2, bytes := 48, zero := .agg #[.slice none 0 0, .slice none 0 0] }),
   (70, { k := .sl 185, size := 1, bytes := 24, zero := .slice none 0 0 }),
   (71, { k := .sl 190, size := 1, bytes := 24, zero := .slice none 0 0 }),
   (72, { k := .sl 194, size := 1, bytes := 24, zero := .slice none 0 0 }),
   (73, { k := .sl 75, size := 1, bytes := 24, zero := .slice none 0 0 }),
   (74, { k := .struct [(3, 0), (9, 1), (46, 2), (73, 8)], size := 9, bytes := 136, zero := .agg #[.int .i64 0, .string ⟨#[]⟩, .int .i64 0, .bool false, .int .i64 0, .string ⟨#[]⟩, .slice none 0 0, .slice none 0 0, .slice none 0 0] }),
   (75, { k := .struct [(3, 0), (9, 1), (46, 2), (73, 8)], size := 9, bytes := 136, zero := .agg #[.int .i64 0, .string ⟨#[]⟩, .int .i64 0, .bool false, .int .i64 0, .string ⟨#[]⟩, .slice none 0 0, .slice none 0 0, .slice none 0 0] }),
   (76, { k := .sl 200, size := 1, bytes := 24, zero := .slice none 0 0 }),
   (77, { k := .sl 205, size := 1, bytes := 24, zero := .slice none 0 0 }),
   (78, { k := .sl 210, size := 1, bytes := 24, zero := .slice none 0 0 }),
   (79, { k := .sl 83, size := 1, bytes := 24, zero := .slice none 0 0 }),
   (82, { k := .struct [(9, 0), (46, 1), (4, 7)], size := 8, bytes := 112, zero := .agg #[.string ⟨#[]⟩, .int .i64 0, .bool false, .int .i64 0, .string ⟨#[]⟩, .slice none 0 0, .slice none 0 0, .bool false] }),
   (83, { k := .struct [(9, 0), (46, 1), (4, 7)], size := 8, bytes := 112, zero := .agg #[.string ⟨#[]⟩, .int .i64 0, .bool false, .int .i64 0, .string ⟨#[]⟩, .slice none 0 0, .slice none 0 0, .bool false] }),
   (85, { k := .sl 91, size := 1, bytes := 24, zero := .slice none 0 0 }),
   (86, { k := .struct [(85, 0), (4, 1)], size := 2, bytes := 32, zero := .agg #[.slice none 0 0, .bool false] }),
   (87, { k := .struct [(85, 0), (4, 1)], size := 2, bytes := 32, zero := .agg #[.slice none 0 0, .bool false] }),
   (90, { k := .struct [(9, 0), (3, 1), (4, 2), (4, 3), (3, 4), (3, 5), (44, 6), (46, 7)], size := 13, bytes := 160, zero := .agg #[.string ⟨#[]⟩, .int .i64 0, .bool false, .bool false, .int .i64 0, .int .i64 0, .slice none 0 0, .int .i64 0, .bool false, .int .i64 0, .string ⟨#[]⟩, .slice none 0 0, .slice none 0 0] }),
   (91, { k := .struct [(9, 0), (3, 1), (4, 2), (4, 3), (3, 4), (3, 5), (44, 6), (46, 7)], size := 13, bytes := 160, zero := .agg #[.string ⟨#[]⟩, .int .i64 0, .bool false, .bool false, .int .i64 0, .int .i64 0, .slice none 0 0, .int .i64 0, .bool false, .int .i64 0, .string ⟨#[]⟩, .slice none 0 0, .slice none 0 0] }),
   (93, { k := .sl 97, size := 1, bytes := 24, zero := .slice none 0 0 }),
   (96, { k := .struct [(9, 0), (3, 1)], size := 2, bytes := 24, zero := .agg #[.string ⟨#[]⟩, .int .i64 0] }),
   (97, { k := .struct [(9, 0), (3, 1)], size := 2, bytes := 24, zero := .agg #[.string ⟨#[]⟩, .int .i64 0] }),
   (98, { k := .sl 3, size := 1, bytes := 24, zero := .slice none 0 0 }),
   (99, { k := .struct [(9, 0), (44, 1), (98, 2)], size := 3, bytes := 64, zero := .agg #[.string ⟨#[]⟩, .slice none 0 0, .slice none 0 0] }),
   (100, { k := .struct [(9, 0), (44, 1), (98, 2)], size := 3, bytes := 64, zero := .agg #[.string ⟨#[]⟩, .slice none 0 0, .slice none 0 0] }),
   (105, { k := .sl 109, size := 1, bytes := 24, zero := .slice none 0 0 }),
   (108, { k := .struct [(3, 0), (3, 1), (9, 2)], size := 3, bytes := 32, zero := .agg #[.int .i64 0, .int .i64 0, .string ⟨#[]⟩] }),
   (109, { k := .struct [(3, 0), (3, 1), (9, 2)], size := 3, bytes := 32, zero := .agg #[.int .i64 0, .int .i64 0, .string ⟨#[]⟩] }),
   (110, { k := .sl 114, size := 1, bytes := 24, zero := .slice none 0 0 }),
   (113, { k := .struct [(9, 0), (9, 1), (9, 2)], size := 3, bytes := 48, zero := .agg #[.string ⟨#[]⟩, .string ⟨#[]⟩, .string ⟨#[]⟩] }),
   (114, { k := .struct [(9, 0), (9, 1), (9, 2)], size := 3, bytes := 48, zero := .agg #[.string ⟨#[]⟩, .string ⟨#[]⟩, .string ⟨#[]⟩] }),
   (115, { k := .struct [(3, 0), (3, 1), (98, 2)], size := 3, bytes := 40, zero := .agg #[.int .i64 0, .int .i64 0, .slice none 0 0] }),
   (116, { k := .struct [(3, 0), (3, 1), (98, 2)], size := 3, bytes := 40, zero := .agg #[.int .i64 0, .int .i64 0, .slice none 0 0] }),
   (118, { k := .sl 223, size := 1, bytes := 24, zero := .slice none 0 0 }),
   (126, { k := .struct [(9, 0), (9, 1)], size := 2, bytes := 32, zero := .agg #[.string ⟨#[]⟩, .string ⟨#[]⟩] }),
   (127, { k := .struct [(9, 0), (9, 1)], size := 2, bytes := 32, zero := .agg #[.string ⟨#[]⟩, .string ⟨#[]⟩] }),
   (138, { k := .sl 5, size := 1, bytes := 24, zero := .slice none 0 0 }),
   (139, { k := .struct [(137, 0), (138, 1)], size := 2, bytes := 32, zero := .agg #[.pointer none, .slice none 0 0] }),
   (140, { k := .struct [(137, 0), (138, 1)], size := 2, bytes := 32, zero := .agg #[.pointer none, .slice none 0 0] }),
   (148, { k := .sl 4, size := 1, bytes := 24, zero := .slice none 0 0 }),
   (154, { k := .struct [(3, 0), (3, 1), (3, 2), (3, 3), (56, 4)], size := 5, bytes := 56, zero := .agg #[.int .i64 0, .int .i64 0, .int .i64 0, .int .i64 0, .slice none 0 0] }),
   (155, { k := .struct [(3, 0), (3, 1), (3, 2), (3, 3), (56, 4)], size := 5, bytes := 56, zero := .agg #[.int .i64 0, .int .i64 0, .int .i64 0, .int .i64 0, .slice none 0 0] }),
   (158, { k := .struct [(9, 0), (9, 1)], size := 2, bytes := 32, zero := .agg #[.string ⟨#[]⟩, .string ⟨#[]⟩] }),
   (159, { k := .struct [(9, 0), (9, 1)], size := 2, bytes := 32, zero := .agg #[.string ⟨#[]⟩, .string ⟨#[]⟩] }),
   (162, { k := .sl 231, size := 1, bytes := 24, zero := .slice none 0 0 }),
   (163, { k := .struct [(3, 0), (9, 1), (162, 2)], size := 3, bytes := 48, zero := .agg #[.int .i64 0, .string ⟨#[]⟩, .slice none 0 0] }),
   (164, { k := .struct [(3, 0), (9, 1), (162, 2)], size := 3, bytes := 48, zero := .agg #[.int .i64 0, .string ⟨#[]⟩, .slice none 0 0] }),
   (169, { k := .struct [(9, 0), (98, 1)], size := 2, bytes := 40, zero := .agg #[.string ⟨#[]⟩, .slice none 0 0] }),
   (170, { k := .struct [(9, 0), (98, 1)], size := 2, bytes := 40, zero := .agg #[.string ⟨#[]⟩, .slice none 0 0] }),
   (174, { k := .struct [(9, 0), (9, 1), (9, 2), (3, 3), (46, 4), (9, 10)], size := 11, bytes := 160, zero := .agg #[.string ⟨#[]⟩, .string ⟨#[]⟩, .string ⟨#[]⟩, .int .i64 0, .int .i64 0, .bool false, .int .i64 0, .string ⟨#[]⟩, .slice none 0 0, .slice none 0 0, .string ⟨#[]⟩] }),
   (175, { k := .struct [(9, 0), (9, 1), (9, 2), (3, 3), (46, 4), (9, 10)], size := 11, bytes := 160, zero := .agg #[.string ⟨#[]⟩, .string ⟨#[]⟩, .string ⟨#[]⟩, .int .i64 0, .int .i64 0, .bool false, .int .i64 0, .string ⟨#[]⟩, .slice none 0 0, .slice none 0 0, .string ⟨#[]⟩] }),
   (179, { k := .struct [(9, 0), (9, 1), (9, 2), (9, 3), (3, 4), (46, 5), (9, 11), (44, 12)], size := 13, bytes := 200, zero := .agg #[.string ⟨#[]⟩, .string ⟨#[]⟩, .string ⟨#[]⟩, .string ⟨#[]⟩, .int .i64 0, .int .i64 0, .bool false, .int .i64 0, .string ⟨#[]⟩, .slice none 0 0, .slice none 0 0, .string ⟨#[]⟩, .slice none 0 0] }),
   (180, { k := .struct [(9, 0), (9, 1), (9, 2), (9, 3), (3, 4), (46, 5), (9, 11), (44, 12)], size := 13, bytes := 200, zero := .agg #[.string ⟨#[]⟩, .string ⟨#[]⟩, .string ⟨#[]⟩, .string ⟨#[]⟩, .int .i64 0, .int .i64 0, .bool false, .int .i64 0, .string ⟨#[]⟩, .slice none 0 0, .slice none 0 0, .string ⟨#[]⟩, .slice none 0 0] }),
   (184, { k := .struct [(9, 0), (9, 1), (9, 2), (70, 3)], size := 4, bytes := 72, zero := .agg #[.string ⟨#[]⟩, .string ⟨#[]⟩, .string ⟨#[]⟩, .slice none 0 0] }),
   (185, { k := .struct [(9, 0), (9, 1), (9, 2), (70, 3)], size := 4, bytes := 72, zero := .agg #[.string ⟨#[]⟩, .string ⟨#[]⟩, .string ⟨#[]⟩, .slice none 0 0] }),
   (189, { k := .struct [(9, 0), (9, 1)], size := 2, bytes := 32, zero := .agg #[.string ⟨#[]⟩, .string ⟨#[]⟩] }),
   (190, { k := .struct [(9, 0), (9, 1)], size := 2, bytes := 32, zero := .agg #[.string ⟨#[]⟩, .string ⟨#[]⟩] }),
   (193, { k := .struct [(9, 0), (3, 1), (9, 2)], size := 3, bytes := 40, zero := .agg #[.string ⟨#[]⟩, .int .i64 0, .string ⟨#[]⟩] }),
   (194, { k := .struct [(9, 0), (3, 1), (9, 2)], size := 3, bytes := 40, zero := .agg #[.string ⟨#[]⟩, .int .i64 0, .string ⟨#[]⟩] }),
   (199, { k := .struct [(46, 0), (98, 6)], size := 7, bytes := 112, zero := .agg #[.int .i64 0, .bool false, .int .i64 0, .string ⟨#[]⟩, .slice none 0 0, .slice none 0 0, .slice none 0 0] }),
   (200, { k := .struct [(46, 0), (98, 6)], size := 7, bytes := 112, zero := .agg #[.int .i64 0, .bool false, .int .i64 0, .string ⟨#[]⟩, .slice none 0 0, .slice none 0 0, .slice none 0 0] }),
   (204, { k := .struct [(3, 0), (3, 1), (98, 2)], size := 3, bytes := 40, zero := .agg #[.int .i64 0, .int .i64 0, .slice none 0 0] }),
   (205, { k := .struct [(3, 0), (3, 1), (98, 2)], size := 3, bytes := 40, zero := .agg #[.int .i64 0, .int .i64 0, .slice none 0 0] }),
   (209, { k := .struct [(9, 0), (9, 1), (98, 2)], size := 3, bytes := 56, zero := .agg #[.string ⟨#[]⟩, .string ⟨#[]⟩, .slice none 0 0] }),
   (210, { k := .struct [(9, 0), (9, 1), (98, 2)], size := 3, bytes := 56, zero := .agg #[.string ⟨#[]⟩, .string ⟨#[]⟩, .slice none 0 0] }),
   (213, { k := .struct [(9, 0), (4, 1), (118, 2)], size := 3, bytes := 48, zero := .agg #[.string ⟨#[]⟩, .bool false, .slice none 0 0] }),
   (214, { k := .struct [(9, 0), (4, 1), (118, 2)], size := 3, bytes := 48, zero := .agg #[.string ⟨#[]⟩, .bool false, .slice none 0 0] }),
   (222, { k := .struct [(39, 0), (3, 2), (3, 3)], size := 4, bytes := 40, zero := .agg #[.int .i64 0, .string ⟨#[]⟩, .int .i64 0, .int .i64 0] }),
   (223, { k := .struct [(39, 0), (3, 2), (3, 3)], size := 4, bytes := 40, zero := .agg #[.int .i64 0, .string ⟨#[]⟩, .int .i64 0, .int .i64 0] }),
   (230, { k := .struct [(9, 0), (3, 1), (3, 2), (62, 3)], size := 4, bytes := 56, zero := .agg #[.string ⟨#[]⟩, .int .i64 0, .int .i64 0, .slice none 0 0] }),
   (231, { k := .struct [(9, 0), (3, 1), (3, 2), (62, 3)], size := 4, bytes := 56, zero := .agg #[.string ⟨#[]⟩, .int .i64 0, .int .i64 0, .slice none 0 0] }),
   (247, { k := .int .u64, size := 1, bytes := 8, zero := .int .u64 0 }),
   (249, { k := .int .u32, size := 1, bytes := 4, zero := .int .u32 0 }),
   (252, { k := .struct [(17, 0), (17, 1), (17, 2), (9, 3)], size := 4, bytes := 40, zero := .agg #[.pointer none, .pointer none, .pointer none, .string ⟨#[]⟩] }),
   (253, { k := .struct [(17, 0), (17, 1), (17, 2), (9, 3)], size := 4, bytes := 40, zero := .agg #[.pointer none, .pointer none, .pointer none, .string ⟨#[]⟩] }),
   (258, { k := .int .u8, size := 1, bytes := 1, zero := .int .u8 0 }),
   (259, { k := .int .u8, size := 1, bytes := 1, zero := .int .u8 0 }),
   (261, { k := .int .i32, size := 1, bytes := 4, zero := .int .i32 0 }),
   (262, { k := .int .i32, size := 1, bytes := 4, zero := .int .i32 0 }),
   (263, { k := .struct [(12, 0), (12, 1), (249, 2), (258, 3), (5, 4), (5, 5), (259, 6), (260, 7), (226, 8), (261, 9), (262, 10)], size := 11, bytes := 48, zero := .agg #[.int .u64 0, .int .u64 0, .int .u32 0, .int .u8 0, .int .u8 0, .int .u8 0, .int .u8 0, .nilFunc, .pointer none, .int .i32 0, .int .i32 0] }),
   (264, { k := .struct [(12, 0), (12, 1), (249, 2), (258, 3), (5, 4), (5, 5), (259, 6), (260, 7), (226, 8), (261, 9), (262, 10)], size := 11, bytes := 48, zero := .agg #[.int .u64 0, .int .u64 0, .int .u32 0, .int .u8 0, .int .u8 0, .int .u8 0, .int .u8 0, .nilFunc, .pointer none, .int .i32 0, .int .i32 0] }),
   (267, { k := .arr 2 9, size := 2, bytes := 32, zero := .agg #[.string ⟨#[]⟩, .string ⟨#[]⟩] }),
   (1, { k := .func, size := 1, bytes := 8, zero := .nilFunc }),
   (15, { k := .ptr, size := 1, bytes := 8, zero := .pointer none }),
   (16, { k := .ptr, size := 1, bytes := 8, zero := .pointer none }),
   (17, { k := .ptr, size := 1, bytes := 8, zero := .pointer none }),
   (20, { k := .ifc, size := 1, bytes := 16, zero := .nilIface }),
   (25, { k := .func, size := 1, bytes := 8, zero := .nilFunc }),
   (27, { k := .func, size := 1, bytes := 8, zero := .nilFunc }),
   (28, { k := .func, size := 1, bytes := 8, zero := .nilFunc }),
   (29, { k := .func, size := 1, bytes := 8, zero := .nilFunc }),
   (31, { k := .func, size := 1, bytes := 8, zero := .nilFunc }),
   (32, { k := .func, size := 1, bytes := 8, zero := .nilFunc }),
   (34, { k := .func, size := 1, bytes := 8, zero := .nilFunc }),
   (35, { k := .func, size := 1, bytes := 8, zero := .nilFunc }),
   (36, { k := .func, size := 1, bytes := 8, zero := .nilFunc }),
   (37, { k := .func, size := 1, bytes := 8, zero := .nilFunc }),
   (40, { k := .func, size := 1, bytes := 8, zero := .nilFunc }),
   (43, { k := .func, size := 1, bytes := 8, zero := .nilFunc }),
   (47, { k := .func, size := 1, bytes := 8, zero := .nilFunc }),
   (50, { k := .func, size := 1, bytes := 8, zero := .nilFunc }),
   (53, { k := .func, size := 1, bytes := 8, zero := .nilFunc }),
   (55, { k := .func, size := 1, bytes := 8, zero := .nilFunc }),
   (81, { k := .func, size := 1, bytes := 8, zero := .nilFunc }),
   (84, { k := .func, size := 1, bytes := 8, zero := .nilFunc }),
   (89, { k := .func, size := 1, bytes := 8, zero := .nilFunc }),
   (92, { k := .func, size := 1, bytes := 8, zero := .nilFunc }),
   (95, { k := .func, size := 1, bytes := 8, zero := .nilFunc }),
   (102, { k := .func, size := 1, bytes := 8, zero := .nilFunc }),
   (104, { k := .func, size := 1, bytes := 8, zero := .nilFunc }),
   (107, { k := .func, size := 1, bytes := 8, zero := .nilFunc }),
   (112, { k := .func, size := 1, bytes := 8, zero := .nilFunc }),
   (120, { k := .func, size := 1, bytes := 8, zero := .nilFunc }),
   (121, { k := .func, size := 1, bytes := 8, zero := .nilFunc }),
   (123, { k := .func, size := 1, bytes := 8, zero := .nilFunc }),
   (124, { k := .func, size := 1, bytes := 8, zero := .nilFunc }),
   (125, { k := .map .str 9 9, size := 1, bytes := 8, zero := .map none }),
   (129, { k := .func, size := 1, bytes := 8, zero := .nilFunc }),
   (131, { k := .func, size := 1, bytes := 8, zero := .nilFunc }),
   (132, { k := .func, size := 1, bytes := 8, zero := .nilFunc }),
   (133, { k := .func, size := 1, bytes := 8, zero := .nilFunc }),
   (134, { k := .func, size := 1, bytes := 8, zero := .nilFunc }),
   (135, { k := .func, size := 1, bytes := 8, zero := .nilFunc }),
   (136, { k := .func, size := 1, bytes := 8, zero := .nilFunc }),
   (137, { k := .ptr, size := 1, bytes := 8, zero := .pointer none }),
   (141, { k := .ifc, size := 1, bytes := 16, zero := .nilIface }),
   (142, { k := .ifc, size := 1, bytes := 16, zero := .nilIface }),
   (144, { k := .func, size := 1, bytes := 8, zero := .nilFunc }),
   (145, { k := .func, size := 1, bytes := 8, zero := .nilFunc }),
   (146, { k := .func, size := 1, bytes := 8, zero := .nilFunc }),
   (147, { k := .func, size := 1, bytes := 8, zero := .nilFunc }),
   (149, { k := .func, size := 1, bytes := 8, zero := .nilFunc }),
   (150, { k := .func, size := 1, bytes := 8, zero := .nilFunc }),
   (151, { k := .func, size := 1, bytes := 8, zero := .nilFunc }),
   (153, { k := .func, size := 1, bytes := 8, zero := .nilFunc }),
   (156, { k := .func, size := 1, bytes := 8, zero := .nilFunc }),
   (157, { k := .func, size := 1, bytes := 8, zero := .nilFunc }),
   (161, { k := .func, size := 1, bytes := 8, zero := .nilFunc }),
   (165, { k := .func, size := 1, bytes := 8, zero := .nilFunc }),
   (168, { k := .func, size := 1, bytes := 8, zero := .nilFunc }),
   (171, { k := .func, size := 1, bytes := 8, zero := .nilFunc }),
   (173, { k := .func, size := 1, bytes := 8, zero := .nilFunc }),
   (176, { k := .func, size := 1, bytes := 8, zero := .nilFunc }),
   (178, { k := .func, size := 1, bytes := 8, zero := .nilFunc }),
   (181, { k := .func, size := 1, bytes := 8, zero := .nilFunc }),
   (183, { k := .func, size := 1, bytes := 8, zero := .nilFunc }),
   (186, { k := .func, size := 1, bytes := 8, zero := .nilFunc }),
   (188, { k := .func, size := 1, bytes := 8, zero := .nilFunc }),
   (192, { k := .func, size := 1, bytes := 8, zero := .nilFunc }),
   (196, { k := .func, size := 1, bytes := 8, zero := .nilFunc }),
   (198, { k := .func, size := 1, bytes := 8, zero := .nilFunc }),
   (201, { k := .func, size := 1, bytes := 8, zero := .nilFunc }),
   (203, { k := .func, size := 1, bytes := 8, zero := .nilFunc }),
   (206, { k := .func, size := 1, bytes := 8, zero := .nilFunc }),
   (208, { k := .func, size := 1, bytes := 8, zero := .nilFunc }),
   (211, { k := .func, size := 1, bytes := 8, zero := .nilFunc }),
   (212, { k := .ptr, size := 1, bytes := 8, zero := .pointer none }),
   (215, { k := .func, size := 1, bytes := 8, zero := .nilFunc }),
   (216, { k := .func, size := 1, bytes := 8, zero := .nilFunc }),
   (218, { k := .func, size := 1, bytes := 8, zero := .nilFunc }),
   (219, { k := .func, size := 1, bytes := 8, zero := .nilFunc }),
   (220, { k := .func, size := 1, bytes := 8, zero := .nilFunc }),
   (221, { k := .func, size := 1, bytes := 8, zero := .nilFunc }),
   (224, { k := .func, size := 1, bytes := 8, zero := .nilFunc }),
   (225, { k := .func, size := 1, bytes := 8, zero := .nilFunc }),
   (226, { k := .ptr, size := 1, bytes := 8, zero := .pointer none }),
   (227, { k := .func, size := 1, bytes := 8, zero := .nilFunc }),
   (228, { k := .func, size := 1, bytes := 8, zero := .nilFunc }),
   (229, { k := .func, size := 1, bytes := 8, zero := .nilFunc }),
   (232, { k := .func, size := 1, bytes := 8, zero := .nilFunc }),
   (233, { k := .func, size := 1, bytes := 8, zero := .nilFunc }),
   (234, { k := .func, size := 1, bytes := 8, zero := .nilFunc }),
   (235, { k := .func, size := 1, bytes := 8, zero := .nilFunc }),
   (236, { k := .func, size := 1, bytes := 8, zero := .nilFunc }),
   (237, { k := .func, size := 1, bytes := 8, zero := .nilFunc }),
   (238, { k := .func, size := 1, bytes := 8, zero := .nilFunc }),
   (239, { k := .func, size := 1, bytes := 8, zero := .nilFunc }),
   (240, { k := .func, size := 1, bytes := 8, zero := .nilFunc }),
   (241, { k := .func, size := 1, bytes := 8, zero := .nilFunc }),
   (242, { k := .func, size := 1, bytes := 8, zero := .nilFunc }),
   (244, { k := .func, size := 1, bytes := 8, zero := .nilFunc }),
   (245, { k := .func, size := 1, bytes := 8, zero := .nilFunc }),
   (246, { k := .func, size := 1, bytes := 8, zero := .nilFunc }),
   (248, { k := .func, size := 1, bytes := 8, zero := .nilFunc }),
   (251, { k := .func, size := 1, bytes := 8, zero := .nilFunc }),
   (257, { k := .func, size := 1, bytes := 8, zero := .nilFunc }),
   (260, { k := .func, size := 1, bytes := 8, zero := .nilFunc }),
   (265, { k := .func, size := 1, bytes := 8, zero := .nilFunc })]
def tyT (t : TypeId) : TyI := match findB tyTab t with | some i => i | none => { k := .other, size := 0, bytes := 0, zero := .bool false }
theorem ty_info {P : Program} {t : TypeId} {s b : Nat} {z : Value} (h : (P.info? t).map (fun i => (i.size, i.bytes, i.zero)) = some (s, b, some z)) : ∃ j, P.info? t = some j ∧ j.size = s ∧ j.bytes = b ∧ j.zero = some z := by
  cases hi : P.info? t with
  | none => rw [hi] at h; cases h
  | some j =>
    rw [hi] at h
    simp only [Option.map_some, Option.some.injEq, Prod.mk.injEq] at h
    exact ⟨j, rfl, h.1, h.2.1, h.2.2⟩
theorem int_wf {n : Int} (h1 : -9223372036854775808 ≤ n) (h2 : n ≤ 9223372036854775807) : (Lit.int .i64 n).wf = true := by
  simp only [Lit.wf, Bool.and_eq_true, decide_eq_true_eq]
  exact ⟨h1, h2⟩
theorem ty_has {P : Program} {t : TypeId} (h : (P.info? t).map (fun i => i.size != 0) = some true) : ∃ i, P.info? t = some i ∧ i.size ≠ 0 := by
  cases hi : P.info? t with
  | none => rw [hi] at h; cases h
  | some j =>
    rw [hi] at h
    exact ⟨j, rfl, by simpa using h⟩
theorem tyOk2 : TyOk Try.prog 2 { k := .int .i64, size := 1, bytes := 8, zero := .int .i64 0 } :=
  ⟨Try.underlying2, by decide, by decide, by decide, by decide, by decide, ty_info (by kernel_rfl)⟩
theorem tyOk3 : TyOk Try.prog 3 { k := .int .i64, size := 1, bytes := 8, zero := .int .i64 0 } :=
  ⟨Try.underlying3, by decide, by decide, by decide, by decide, by decide, ty_info (by kernel_rfl)⟩
theorem tyOk4 : TyOk Try.prog 4 { k := .bool, size := 1, bytes := 1, zero := .bool false } :=
  ⟨Try.underlying4, by decide, by decide, by decide, by decide, by decide, ty_info (by kernel_rfl)⟩
theorem tyOk5 : TyOk Try.prog 5 { k := .int .u8, size := 1, bytes := 1, zero := .int .u8 0 } :=
  ⟨Try.underlying5, by decide, by decide, by decide, by decide, by decide, ty_info (by kernel_rfl)⟩
theorem tyOk6 : TyOk Try.prog 6 { k := .int .u8, size := 1, bytes := 1, zero := .int .u8 0 } :=
  ⟨Try.underlying6, by decide, by decide, by decide, by decide, by decide, ty_info (by kernel_rfl)⟩
theorem tyOk7 : TyOk Try.prog 7 { k := .struct [(2, 0), (3, 1), (4, 2), (6, 3)], size := 4, bytes := 24, zero := .agg #[.int .i64 0, .int .i64 0, .bool false, .int .u8 0] } :=
  ⟨⟨_, Try.underlying7, rfl, by
      intro F hF
      simp only [List.mem_cons, List.not_mem_nil, or_false] at hF
      rcases hF with rfl | rfl | rfl | rfl
      · exact ty_has (by kernel_rfl)
      · exact ty_has (by kernel_rfl)
      · exact ty_has (by kernel_rfl)
      · exact ty_has (by kernel_rfl)⟩, by decide, by decide, by decide, by decide, by decide, ty_info (by kernel_rfl)⟩
theorem tyOk8 : TyOk Try.prog 8 { k := .struct [(2, 0), (3, 1), (4, 2), (6, 3)], size := 4, bytes := 24, zero := .agg #[.int .i64 0, .int .i64 0, .bool false, .int .u8 0] } :=
  ⟨⟨_, Try.underlying8, rfl, by
      intro F hF
      simp only [List.mem_cons, List.not_mem_nil, or_false] at hF
      rcases hF with rfl | rfl | rfl | rfl
      · exact ty_has (by kernel_rfl)
      · exact ty_has (by kernel_rfl)
      · exact ty_has (by kernel_rfl)
      · exact ty_has (by kernel_rfl)⟩, by decide, by decide, by decide, by decide, by decide, ty_info (by kernel_rfl)⟩
theorem tyOk9 : TyOk Try.prog 9 { k := .str, size := 1, bytes := 16, zero := .string ⟨#[]⟩ } :=
  ⟨Try.underlying9, by decide, by decide, by decide, by decide, by decide, ty_info (by kernel_rfl)⟩
theorem tyOk10 : TyOk Try.prog 10 { k := .str, size := 1, bytes := 16, zero := .string ⟨#[]⟩ } :=
  ⟨Try.underlying10, by decide, by decide, by decide, by decide, by decide, ty_info (by kernel_rfl)⟩
theorem tyOk11 : TyOk Try.prog 11 { k := .str, size := 1, bytes := 16, zero := .string ⟨#[]⟩ } :=
  ⟨Try.underlying11, by decide, by decide, by decide, by decide, by decide, ty_info (by kernel_rfl)⟩
theorem tyOk12 : TyOk Try.prog 12 { k := .int .u64, size := 1, bytes := 8, zero := .int .u64 0 } :=
  ⟨Try.underlying12, by decide, by decide, by decide, by decide, by decide, ty_info (by kernel_rfl)⟩
theorem tyOk13 : TyOk Try.prog 13 { k := .struct [(9, 0), (12, 1)], size := 2, bytes := 24, zero := .agg #[.string ⟨#[]⟩, .int .u64 0] } :=
  ⟨⟨_, Try.underlying13, rfl, by
      intro F hF
      simp only [List.mem_cons, List.not_mem_nil, or_false] at hF
      rcases hF with rfl | rfl
      · exact ty_has (by kernel_rfl)
      · exact ty_has (by kernel_rfl)⟩, by decide, by decide, by decide, by decide, by decide, ty_info (by kernel_rfl)⟩
theorem tyOk14 : TyOk Try.prog 14 { k := .struct [(9, 0), (12, 1)], size := 2, bytes := 24, zero := .agg #[.string ⟨#[]⟩, .int .u64 0] } :=
  ⟨⟨_, Try.underlying14, rfl, by
      intro F hF
      simp only [List.mem_cons, List.not_mem_nil, or_false] at hF
      rcases hF with rfl | rfl
      · exact ty_has (by kernel_rfl)
      · exact ty_has (by kernel_rfl)⟩, by decide, by decide, by decide, by decide, by decide, ty_info (by kernel_rfl)⟩
theorem tyOk18 : TyOk Try.prog 18 { k := .struct [(17, 0)], size := 1, bytes := 8, zero := .agg #[.pointer none] } :=
  ⟨⟨_, Try.underlying18, rfl, by
      intro F hF
      simp only [List.mem_cons, List.not_mem_nil, or_false] at hF
      rcases hF with rfl
      · exact ty_has (by kernel_rfl)⟩, by decide, by decide, by decide, by decide, by decide, ty_info (by kernel_rfl)⟩
theorem tyOk19 : TyOk Try.prog 19 { k := .struct [(17, 0)], size := 1, bytes := 8, zero := .agg #[.pointer none] } :=
  ⟨⟨_, Try.underlying19, rfl, by
      intro F hF
      simp only [List.mem_cons, List.not_mem_nil, or_false] at hF
      rcases hF with rfl
      · exact ty_has (by kernel_rfl)⟩, by decide, by decide, by decide, by decide, by decide, ty_info (by kernel_rfl)⟩
theorem tyOk21 : TyOk Try.prog 21 { k := .int .i32, size := 1, bytes := 4, zero := .int .i32 0 } :=
  ⟨Try.underlying21, by decide, by decide, by decide, by decide, by decide, ty_info (by kernel_rfl)⟩
theorem tyOk22 : TyOk Try.prog 22 { k := .sl 39, size := 1, bytes := 24, zero := .slice none 0 0 } :=
  ⟨Try.underlying22, by decide, by decide, by decide, by decide, by decide, ty_info (by kernel_rfl)⟩
theorem tyOk23 : TyOk Try.prog 23 { k := .int .i64, size := 1, bytes := 8, zero := .int .i64 0 } :=
  ⟨Try.underlying23, by decide, by decide, by decide, by decide, by decide, ty_info (by kernel_rfl)⟩
theorem tyOk33 : TyOk Try.prog 33 { k := .sl 127, size := 1, bytes := 24, zero := .slice none 0 0 } :=
  ⟨Try.underlying33, by decide, by decide, by decide, by decide, by decide, ty_info (by kernel_rfl)⟩
theorem tyOk38 : TyOk Try.prog 38 { k := .struct [(3, 0), (9, 1)], size := 2, bytes := 24, zero := .agg #[.int .i64 0, .string ⟨#[]⟩] } :=
  ⟨⟨_, Try.underlying38, rfl, by
      intro F hF
      simp only [List.mem_cons, List.not_mem_nil, or_false] at hF
      rcases hF with rfl | rfl
      · exact ty_has (by kernel_rfl)
      · exact ty_has (by kernel_rfl)⟩, by decide, by decide, by decide, by decide, by decide, ty_info (by kernel_rfl)⟩
theorem tyOk39 : TyOk Try.prog 39 { k := .struct [(3, 0), (9, 1)], size := 2, bytes := 24, zero := .agg #[.int .i64 0, .string ⟨#[]⟩] } :=
  ⟨⟨_, Try.underlying39, rfl, by
      intro F hF
      simp only [List.mem_cons, List.not_mem_nil, or_false] at hF
      rcases hF with rfl | rfl
      · exact ty_has (by kernel_rfl)
      · exact ty_has (by kernel_rfl)⟩, by decide, by decide, by decide, by decide, by decide, ty_info (by kernel_rfl)⟩
theorem tyOk41 : TyOk Try.prog 41 { k := .sl 46, size := 1, bytes := 24, zero := .slice none 0 0 } :=
  ⟨Try.underlying41, by decide, by decide, by decide, by decide, by decide, ty_info (by kernel_rfl)⟩
theorem tyOk44 : TyOk Try.prog 44 { k := .sl 9, size := 1, bytes := 24, zero := .slice none 0 0 } :=
  ⟨Try.underlying44, by decide, by decide, by decide, by decide, by decide, ty_info (by kernel_rfl)⟩
theorem tyOk45 : TyOk Try.prog 45 { k := .struct [(3, 0), (4, 1), (3, 2), (9, 3), (41, 4), (44, 5)], size := 6, bytes := 88, zero := .agg #[.int .i64 0, .bool false, .int .i64 0, .string ⟨#[]⟩, .slice none 0 0, .slice none 0 0] } :=
  ⟨⟨_, Try.underlying45, rfl, by
      intro F hF
      simp only [List.mem_cons, List.not_mem_nil, or_false] at hF
      rcases hF with rfl | rfl | rfl | rfl | rfl | rfl
      · exact ty_has (by kernel_rfl)
      · exact ty_has (by kernel_rfl)
      · exact ty_has (by kernel_rfl)
      · exact ty_has (by kernel_rfl)
      · exact ty_has (by kernel_rfl)
      · exact ty_has (by kernel_rfl)⟩, by decide, by decide, by decide, by decide, by decide, ty_info (by kernel_rfl)⟩
theorem tyOk46 : TyOk Try.prog 46 { k := .struct [(3, 0), (4, 1), (3, 2), (9, 3), (41, 4), (44, 5)], size := 6, bytes := 88, zero := .agg #[.int .i64 0, .bool false, .int .i64 0, .string ⟨#[]⟩, .slice none 0 0, .slice none 0 0] } :=
  ⟨⟨_, Try.underlying46, rfl, by
      intro F hF
      simp only [List.mem_cons, List.not_mem_nil, or_false] at hF
      rcases hF with rfl | rfl | rfl | rfl | rfl | rfl
      · exact ty_has (by kernel_rfl)
      · exact ty_has (by kernel_rfl)
      · exact ty_has (by kernel_rfl)
      · exact ty_has (by kernel_rfl)
      · exact ty_has (by kernel_rfl)
      · exact ty_has (by kernel_rfl)⟩, by decide, by decide, by decide, by decide, by decide, ty_info (by kernel_rfl)⟩
theorem tyOk48 : TyOk Try.prog 48 { k := .sl 52, size := 1, bytes := 24, zero := .slice none 0 0 } :=
  ⟨Try.underlying48, by decide, by decide, by decide, by decide, by decide, ty_info (by kernel_rfl)⟩
theorem tyOk51 : TyOk Try.prog 51 { k := .struct [(9, 0), (46, 1)], size := 7, bytes := 104, zero := .agg #[.string ⟨#[]⟩, .int .i64 0, .bool false, .int .i64 0, .string ⟨#[]⟩, .slice none 0 0, .slice none 0 0] } :=
  ⟨⟨_, Try.underlying51, rfl, by
      intro F hF
      simp only [List.mem_cons, List.not_mem_nil, or_false] at hF
      rcases hF with rfl | rfl
      · exact ty_has (by kernel_rfl)
      · exact ty_has (by kernel_rfl)⟩, by decide, by decide, by decide, by decide, by decide, ty_info (by kernel_rfl)⟩
theorem tyOk52 : TyOk Try.prog 52 { k := .struct [(9, 0), (46, 1)], size := 7, bytes := 104, zero := .agg #[.string ⟨#[]⟩, .int .i64 0, .bool false, .int .i64 0, .string ⟨#[]⟩, .slice none 0 0, .slice none 0 0] } :=
  ⟨⟨_, Try.underlying52, rfl, by
      intro F hF
      simp only [List.mem_cons, List.not_mem_nil, or_false] at hF
      rcases hF with rfl | rfl
      · exact ty_has (by kernel_rfl)
      · exact ty_has (by kernel_rfl)⟩, by decide, by decide, by decide, by decide, by decide, ty_info (by kernel_rfl)⟩
theorem tyOk56 : TyOk Try.prog 56 { k := .sl 155, size := 1, bytes := 24, zero := .slice none 0 0 } :=
  ⟨Try.underlying56, by decide, by decide, by decide, by decide, by decide, ty_info (by kernel_rfl)⟩
theorem tyOk57 : TyOk Try.prog 57 { k := .struct [(56, 0)], size := 1, bytes := 24, zero := .agg #[.slice none 0 0] } :=
  ⟨⟨_, Try.underlying57, rfl, by
      intro F hF
      simp only [List.mem_cons, List.not_mem_nil, or_false] at hF
      rcases hF with rfl
      · exact ty_has (by kernel_rfl)⟩, by decide, by decide, by decide, by decide, by decide, ty_info (by kernel_rfl)⟩
theorem tyOk58 : TyOk Try.prog 58 { k := .struct [(56, 0)], size := 1, bytes := 24, zero := .agg #[.slice none 0 0] } :=
  ⟨⟨_, Try.underlying58, rfl, by
      intro F hF
      simp only [List.mem_cons, List.not_mem_nil, or_false] at hF
      rcases hF with rfl
      · exact ty_has (by kernel_rfl)⟩, by decide, by decide, by decide, by decide, by decide, ty_info (by kernel_rfl)⟩
theorem tyOk59 : TyOk Try.prog 59 { k := .sl 159, size := 1, bytes := 24, zero := .slice none 0 0 } :=
  ⟨Try.underlying59, by decide, by decide, by decide, by decide, by decide, ty_info (by kernel_rfl)⟩
theorem tyOk60 : TyOk Try.prog 60 { k := .struct [(9, 0), (9, 1), (58, 2), (9, 3), (9, 4), (44, 5), (44, 6), (44, 7), (59, 8)], size := 9, bytes := 184, zero := .agg #[.string ⟨#[]⟩, .string ⟨#[]⟩, .slice none 0 0, .string ⟨#[]⟩, .string ⟨#[]⟩, .slice none 0 0, .slice none 0 0, .slice none 0 0, .slice none 0 0] } :=
  ⟨⟨_, Try.underlying60, rfl, by
      intro F hF
      simp only [List.mem_cons, List.not_mem_nil, or_false] at hF
      rcases hF with rfl | rfl | rfl | rfl | rfl | rfl | rfl | rfl | rfl
      · exact ty_has (by kernel_rfl)
      · exact ty_has (by kernel_rfl)
      · exact ty_has (by kernel_rfl)
      · exact ty_has (by kernel_rfl)
      · exact ty_has (by kernel_rfl)
      · exact ty_has (by kernel_rfl)
      · exact ty_has (by kernel_rfl)
      · exact ty_has (by kernel_rfl)
      · exact ty_has (by kernel_rfl)⟩, by decide, by decide, by decide, by decide, by decide, ty_info (by kernel_rfl)⟩
theorem tyOk61 : TyOk Try.prog 61 { k := .struct [(9, 0), (9, 1), (58, 2), (9, 3), (9, 4), (44, 5), (44, 6), (44, 7), (59, 8)], size := 9, bytes := 184, zero := .agg #[.string ⟨#[]⟩, .string ⟨#[]⟩, .slice none 0 0, .string ⟨#[]⟩, .string ⟨#[]⟩, .slice none 0 0, .slice none 0 0, .slice none 0 0, .slice none 0 0] } :=
  ⟨⟨_, Try.underlying61, rfl, by
      intro F hF
      simp only [List.mem_cons, List.not_mem_nil, or_false] at hF
      rcases hF with rfl | rfl | rfl | rfl | rfl | rfl | rfl | rfl | rfl
      · exact ty_has (by kernel_rfl)
      · exact ty_has (by kernel_rfl)
      · exact ty_has (by kernel_rfl)
      · exact ty_has (by kernel_rfl)
      · exact ty_has (by kernel_rfl)
      · exact ty_has (by kernel_rfl)
      · exact ty_has (by kernel_rfl)
      · exact ty_has (by kernel_rfl)
      · exact ty_has (by kernel_rfl)⟩, by decide, by decide, by decide, by decide, by decide, ty_info (by kernel_rfl)⟩
theorem tyOk62 : TyOk Try.prog 62 { k := .sl 164, size := 1, bytes := 24, zero := .slice none 0 0 } :=
  ⟨Try.underlying62, by decide, by decide, by decide, by decide, by decide, ty_info (by kernel_rfl)⟩
theorem tyOk63 : TyOk Try.prog 63 { k := .struct [(62, 0)], size := 1, bytes := 24, zero := .agg #[.slice none 0 0] } :=
  ⟨⟨_, Try.underlying63, rfl, by
      intro F hF
      simp only [List.mem_cons, List.not_mem_nil, or_false] at hF
      rcases hF with rfl
      · exact ty_has (by kernel_rfl)⟩, by decide, by decide, by decide, by decide, by decide, ty_info (by kernel_rfl)⟩
theorem tyOk64 : TyOk Try.prog 64 { k := .struct [(62, 0)], size := 1, bytes := 24, zero := .agg #[.slice none 0 0] } :=
  ⟨⟨_, Try.underlying64, rfl, by
      intro F hF
      simp only [List.mem_cons, List.not_mem_nil, or_false] at hF
      rcases hF with rfl
      · exact ty_has (by kernel_rfl)⟩, by decide, by decide, by decide, by decide, by decide, ty_info (by kernel_rfl)⟩
theorem tyOk65 : TyOk Try.prog 65 { k := .sl 170, size := 1, bytes := 24, zero := .slice none 0 0 } :=
  ⟨Try.underlying65, by decide, by decide, by decide, by decide, by decide, ty_info (by kernel_rfl)⟩
theorem tyOk66 : TyOk Try.prog 66 { k := .sl 175, size := 1, bytes := 24, zero := .slice none 0 0 } :=
  ⟨Try.underlying66, by decide, by decide, by decide, by decide, by decide, ty_info (by kernel_rfl)⟩
theorem tyOk67 : TyOk Try.prog 67 { k := .sl 180, size := 1, bytes := 24, zero := .slice none 0 0 } :=
  ⟨Try.underlying67, by decide, by decide, by decide, by decide, by decide, ty_info (by kernel_rfl)⟩
theorem tyOk68 : TyOk Try.prog 68 { k := .struct [(44, 0), (67, 1)], size := 2, bytes := 48, zero := .agg #[.slice none 0 0, .slice none 0 0] } :=
  ⟨⟨_, Try.underlying68, rfl, by
      intro F hF
      simp only [List.mem_cons, List.not_mem_nil, or_false] at hF
      rcases hF with rfl | rfl
      · exact ty_has (by kernel_rfl)
      · exact ty_has (by kernel_rfl)⟩, by decide, by decide, by decide, by decide, by decide, ty_info (by kernel_rfl)⟩
theorem tyOk69 : TyOk Try.prog 69 { k := .struct [(44, 0), (67, 1)], size := 2, bytes := 48, zero := .agg #[.slice none 0 0, .slice none 0 0] } :=
  ⟨⟨_, Try.underlying69, rfl, by
      intro F hF
      simp only [List.mem_cons, List.not_mem_nil, or_false] at hF
      rcases hF with rfl | rfl
      · exact ty_has (by kernel_rfl)
      · exact ty_has (by kernel_rfl)⟩, by decide, by decide, by decide, by decide, by decide, ty_info (by kernel_rfl)⟩
theorem tyOk70 : TyOk Try.prog 70 { k := .sl 185, size := 1, bytes := 24, zero := .slice none 0 0 } :=
  ⟨Try.underlying70, by decide, by decide, by decide, by decide, by decide, ty_info (by kernel_rfl)⟩
theorem tyOk71 : TyOk Try.prog 71 { k := .sl 190, size := 1, bytes := 24, zero := .slice none 0 0 } :=
  ⟨Try.underlying71, by decide, by decide, by decide, by decide, by decide, ty_info (by kernel_rfl)⟩
theorem tyOk72 : TyOk Try.prog 72 { k := .sl 194, size := 1, bytes := 24, zero := .slice none 0 0 } :=
  ⟨Try.underlying72, by decide, by decide, by decide, by decide, by decide, ty_info (by kernel_rfl)⟩
theorem tyOk73 : TyOk Try.prog 73 { k := .sl 75, size := 1, bytes := 24, zero := .slice none 0 0 } :=
  ⟨Try.underlying73, by decide, by decide, by decide, by decide, by decide, ty_info (by kernel_rfl)⟩
theorem tyOk74 : TyOk Try.prog 74 { k := .struct [(3, 0), (9, 1), (46, 2), (73, 8)], size := 9, bytes := 136, zero := .agg #[.int .i64 0, .string ⟨#[]⟩, .int .i64 0, .bool false, .int .i64 0, .string ⟨#[]⟩, .slice none 0 0, .slice none 0 0, .slice none 0 0] } :=
  ⟨⟨_, Try.underlying74, rfl, by
      intro F hF
      simp only [List.mem_cons, List.not_mem_nil, or_false] at hF
      rcases hF with rfl | rfl | rfl | rfl
      · exact ty_has (by kernel_rfl)
      · exact ty_has (by kernel_rfl)
      · exact ty_has (by kernel_rfl)
      · exact ty_has (by kernel_rfl)⟩, by decide, by decide, by decide, by decide, by decide, ty_info (by kernel_rfl)⟩
theorem tyOk75 : TyOk Try.prog 75 { k := .struct [(3, 0), (9, 1), (46, 2), (73, 8)], size := 9, bytes := 136, zero := .agg #[.int .i64 0, .string ⟨#[]⟩, .int .i64 0, .bool false, .int .i64 0, .string ⟨#[]⟩, .slice none 0 0, .slice none 0 0, .slice none 0 0] } :=
  ⟨⟨_, Try.underlying75, rfl, by
      intro F hF
      simp only [List.mem_cons, List.not_mem_nil, or_false] at hF
      rcases hF with rfl | rfl | rfl | rfl
      · exact ty_has (by kernel_rfl)
      · exact ty_has (by kernel_rfl)
      · exact ty_has (by kernel_rfl)
      · exact ty_has (by kernel_rfl)⟩, by decide, by decide, by decide, by decide, by decide, ty_info (by kernel_rfl)⟩
theorem tyOk76 : TyOk Try.prog 76 { k := .sl 200, size := 1, bytes := 24, zero := .slice none 0 0 } :=
  ⟨Try.underlying76, by decide, by decide, by decide, by decide, by decide, ty_info (by kernel_rfl)⟩
theorem tyOk77 : TyOk Try.prog 77 { k := .sl 205, size := 1, bytes := 24, zero := .slice none 0 0 } :=
  ⟨Try.underlying77, by decide, by decide, by decide, by decide, by decide, ty_info (by kernel_rfl)⟩
theorem tyOk78 : TyOk Try.prog 78 { k := .sl 210, size := 1, bytes := 24, zero := .slice none 0 0 } :=
  ⟨Try.underlying78, by decide, by decide, by decide, by decide, by decide, ty_info (by kernel_rfl)⟩
theorem tyOk79 : TyOk Try.prog 79 { k := .sl 83, size := 1, bytes := 24, zero := .slice none 0 0 } :=
  ⟨Try.underlying79, by decide, by decide, by decide, by decide, by decide, ty_info (by kernel_rfl)⟩
theorem tyOk82 : TyOk Try.prog 82 { k := .struct [(9, 0), (46, 1), (4, 7)], size := 8, bytes := 112, zero := .agg #[.string ⟨#[]⟩, .int .i64 0, .bool false, .int .i64 0, .string ⟨#[]⟩, .slice none 0 0, .slice none 0 0, .bool false] } :=
  ⟨⟨_, Try.underlying82, rfl, by
      intro F hF
      simp only [List.mem_cons, List.not_mem_nil, or_false] at hF
      rcases hF with rfl | rfl | rfl
      · exact ty_has (by kernel_rfl)
      · exact ty_has (by kernel_rfl)
      · exact ty_has (by kernel_rfl)⟩, by decide, by decide, by decide, by decide, by decide, ty_info (by kernel_rfl)⟩
theorem tyOk83 : TyOk Try.prog 83 { k := .struct [(9, 0), (46, 1), (4, 7)], size := 8, bytes := 112, zero := .agg #[.string ⟨#[]⟩, .int .i64 0, .bool false, .int .i64 0, .string ⟨#[]⟩, .slice none 0 0, .slice none 0 0, .bool false] } :=
  ⟨⟨_, Try.underlying83, rfl, by
      intro F hF
      simp only [List.mem_cons, List.not_mem_nil, or_false] at hF
      rcases hF with rfl | rfl | rfl
      · exact ty_has (by kernel_rfl)
      · exact ty_has (by kernel_rfl)
      · exact ty_has (by kernel_rfl)⟩, by decide, by decide, by decide, by decide, by decide, ty_info (by kernel_rfl)⟩
theorem tyOk85 : TyOk Try.prog 85 { k := .sl 91, size := 1, bytes := 24, zero := .slice none 0 0 } :=
  ⟨Try.underlying85, by decide, by decide, by decide, by decide, by decide, ty_info (by kernel_rfl)⟩
theorem tyOk86 : TyOk Try.prog 86 { k := .struct [(85, 0), (4, 1)], size := 2, bytes := 32, zero := .agg #[.slice none 0 0, .bool false] } :=
  ⟨⟨_, Try.underlying86, rfl, by
      intro F hF
      simp only [List.mem_cons, List.not_mem_nil, or_false] at hF
      rcases hF with rfl | rfl
      · exact ty_has (by kernel_rfl)
      · exact ty_has (by kernel_rfl)⟩, by decide, by decide, by decide, by decide, by decide, ty_info (by kernel_rfl)⟩
theorem tyOk87 : TyOk Try.prog 87 { k := .struct [(85, 0), (4, 1)], size := 2, bytes := 32, zero := .agg #[.slice none 0 0, .bool false] } :=
  ⟨⟨_, Try.underlying87, rfl, by
      intro F hF
      simp only [List.mem_cons, List.not_mem_nil, or_false] at hF
      rcases hF with rfl | rfl
      · exact ty_has (by kernel_rfl)
      · exact ty_has (by kernel_rfl)⟩, by decide, by decide, by decide, by decide, by decide, ty_info (by kernel_rfl)⟩
theorem tyOk90 : TyOk Try.prog 90 { k := .struct [(9, 0), (3, 1), (4, 2), (4, 3), (3, 4), (3, 5), (44, 6), (46, 7)], size := 13, bytes := 160, zero := .agg #[.string ⟨#[]⟩, .int .i64 0, .bool false, .bool false, .int .i64 0, .int .i64 0, .slice none 0 0, .int .i64 0, .bool false, .int .i64 0, .string ⟨#[]⟩, .slice none 0 0, .slice none 0 0] } :=
  ⟨⟨_, Try.underlying90, rfl, by
      intro F hF
      simp only [List.mem_cons, List.not_mem_nil, or_false] at hF
      rcases hF with rfl | rfl | rfl | rfl | rfl | rfl | rfl | rfl
      · exact ty_has (by kernel_rfl)
      · exact ty_has (by kernel_rfl)
      · exact ty_has (by kernel_rfl)
      · exact ty_has (by kernel_rfl)
      · exact ty_has (by kernel_rfl)
      · exact ty_has (by kernel_rfl)
      · exact ty_has (by kernel_rfl)
      · exact ty_has (by kernel_rfl)⟩, by decide, by decide, by decide, by decide, by decide, ty_info (by kernel_rfl)⟩
theorem tyOk91 : TyOk Try.prog 91 { k := .struct [(9, 0), (3, 1), (4, 2), (4, 3), (3, 4), (3, 5), (44, 6), (46, 7)], size := 13, bytes := 160, zero := .agg #[.string ⟨#[]⟩, .int .i64 0, .bool false, .bool false, .int .i64 0, .int .i64 0, .slice none 0 0, .int .i64 0, .bool false, .int .i64 0, .string ⟨#[]⟩, .slice none 0 0, .slice none 0 0] } :=
  ⟨⟨_, Try.underlying91, rfl, by
      intro F hF
      simp only [List.mem_cons, List.not_mem_nil, or_false] at hF
      rcases hF with rfl | rfl | rfl | rfl | rfl | rfl | rfl | rfl
      · exact ty_has (by kernel_rfl)
      · exact ty_has (by kernel_rfl)
      · exact ty_has (by kernel_rfl)
      · exact ty_has (by kernel_rfl)
      · exact ty_has (by kernel_rfl)
      · exact ty_has (by kernel_rfl)
      · exact ty_has (by kernel_rfl)
      · exact ty_has (by kernel_rfl)⟩, by decide, by decide, by decide, by decide, by decide, ty_info (by kernel_rfl)⟩
theorem tyOk93 : TyOk Try.prog 93 { k := .sl 97, size := 1, bytes := 24, zero := .slice none 0 0 } :=
  ⟨Try.underlying93, by decide, by decide, by decide, by decide, by decide, ty_info (by kernel_rfl)⟩
theorem tyOk96 : TyOk Try.prog 96 { k := .struct [(9, 0), (3, 1)], size := 2, bytes := 24, zero := .agg #[.string ⟨#[]⟩, .int .i64 0] } :=
  ⟨⟨_, Try.underlying96, rfl, by
      intro F hF
      simp only [List.mem_cons, List.not_mem_nil, or_false] at hF
      rcases hF with rfl | rfl
      · exact ty_has (by kernel_rfl)
      · exact ty_has (by kernel_rfl)⟩, by decide, by decide, by decide, by decide, by decide, ty_info (by kernel_rfl)⟩
theorem tyOk97 : TyOk Try.prog 97 { k := .struct [(9, 0), (3, 1)], size := 2, bytes := 24, zero := .agg #[.string ⟨#[]⟩, .int .i64 0] } :=
  ⟨⟨_, Try.underlying97, rfl, by
      intro F hF
      simp only [List.mem_cons, List.not_mem_nil, or_false] at hF
      rcases hF with rfl | rfl
      · exact ty_has (by kernel_rfl)
      · exact ty_has (by kernel_rfl)⟩, by decide, by decide, by decide, by decide, by decide, ty_info (by kernel_rfl)⟩
theorem tyOk98 : TyOk Try.prog 98 { k := .sl 3, size := 1, bytes := 24, zero := .slice none 0 0 } :=
  ⟨Try.underlying98, by decide, by decide, by decide, by decide, by decide, ty_info (by kernel_rfl)⟩
theorem tyOk99 : TyOk Try.prog 99 { k := .struct [(9, 0), (44, 1), (98, 2)], size := 3, bytes := 64, zero := .agg #[.string ⟨#[]⟩, .slice none 0 0, .slice none 0 0] } :=
  ⟨⟨_, Try.underlying99, rfl, by
      intro F hF
      simp only [List.mem_cons, List.not_mem_nil, or_false] at hF
      rcases hF with rfl | rfl | rfl
      · exact ty_has (by kernel_rfl)
      · exact ty_has (by kernel_rfl)
      · exact ty_has (by kernel_rfl)⟩, by decide, by decide, by decide, by decide, by decide, ty_info (by kernel_rfl)⟩
theorem tyOk100 : TyOk Try.prog 100 { k := .struct [(9, 0), (44, 1), (98, 2)], size := 3, bytes := 64, zero := .agg #[.string ⟨#[]⟩, .slice none 0 0, .slice none 0 0] } :=
  ⟨⟨_, Try.underlying100, rfl, by
      intro F hF
      simp only [List.mem_cons, List.not_mem_nil, or_false] at hF
      rcases hF with rfl | rfl | rfl
      · exact ty_has (by kernel_rfl)
      · exact ty_has (by kernel_rfl)
      · exact ty_has (by kernel_rfl)⟩, by decide, by decide, by decide, by decide, by decide, ty_info (by kernel_rfl)⟩
theorem tyOk105 : TyOk Try.prog 105 { k := .sl 109, size := 1, bytes := 24, zero := .slice none 0 0 } :=
  ⟨Try.underlying105, by decide, by decide, by decide, by decide, by decide, ty_info (by kernel_rfl)⟩
theorem tyOk108 : TyOk Try.prog 108 { k := .struct [(3, 0), (3, 1), (9, 2)], size := 3, bytes := 32, zero := .agg #[.int .i64 0, .int .i64 0, .string ⟨#[]⟩] } :=
  ⟨⟨_, Try.underlying108, rfl, by
      intro F hF
      simp only [List.mem_cons, List.not_mem_nil, or_false] at hF
      rcases hF with rfl | rfl | rfl
      · exact ty_has (by kernel_rfl)
      · exact ty_has (by kernel_rfl)
      · exact ty_has (by kernel_rfl)⟩, by decide, by decide, by decide, by decide, by decide, ty_info (by kernel_rfl)⟩
theorem tyOk109 : TyOk Try.prog 109 { k := .struct [(3, 0), (3, 1), (9, 2)], size := 3, bytes := 32, zero := .agg #[.int .i64 0, .int .i64 0, .string ⟨#[]⟩] } :=
  ⟨⟨_, Try.underlying109, rfl, by
      intro F hF
      simp only [List.mem_cons, List.not_mem_nil, or_false] at hF
      rcases hF with rfl | rfl | rfl
      · exact ty_has (by kernel_rfl)
      · exact ty_has (by kernel_rfl)
      · exact ty_has (by kernel_rfl)⟩, by decide, by decide, by decide, by decide, by decide, ty_info (by kernel_rfl)⟩
theorem tyOk110 : TyOk Try.prog 110 { k := .sl 114, size := 1, bytes := 24, zero := .slice none 0 0 } :=
  ⟨Try.underlying110, by decide, by decide, by decide, by decide, by decide, ty_info (by kernel_rfl)⟩
theorem tyOk113 : TyOk Try.prog 113 { k := .struct [(9, 0), (9, 1), (9, 2)], size := 3, bytes := 48, zero := .agg #[.string ⟨#[]⟩, .string ⟨#[]⟩, .string ⟨#[]⟩] } :=
  ⟨⟨_, Try.underlying113, rfl, by
      intro F hF
      simp only [List.mem_cons, List.not_mem_nil, or_false] at hF
      rcases hF with rfl | rfl | rfl
      · exact ty_has (by kernel_rfl)
      · exact ty_has (by kernel_rfl)
      · exact ty_has (by kernel_rfl)⟩, by decide, by decide, by decide, by decide, by decide, ty_info (by kernel_rfl)⟩
theorem tyOk114 : TyOk Try.prog 114 { k := .struct [(9, 0), (9, 1), (9, 2)], size := 3, bytes := 48, zero := .agg #[.string ⟨#[]⟩, .string ⟨#[]⟩, .string ⟨#[]⟩] } :=
  ⟨⟨_, Try.underlying114, rfl, by
      intro F hF
      simp only [List.mem_cons, List.not_mem_nil, or_false] at hF
      rcases hF with rfl | rfl | rfl
      · exact ty_has (by kernel_rfl)
      · exact ty_has (by kernel_rfl)
      · exact ty_has (by kernel_rfl)⟩, by decide, by decide, by decide, by decide, by decide, ty_info (by kernel_rfl)⟩
theorem tyOk115 : TyOk Try.prog 115 { k := .struct [(3, 0), (3, 1), (98, 2)], size := 3, bytes := 40, zero := .agg #[.int .i64 0, .int .i64 0, .slice none 0 0] } :=
  ⟨⟨_, Try.underlying115, rfl, by
      intro F hF
      simp only [List.mem_cons, List.not_mem_nil, or_false] at hF
      rcases hF with rfl | rfl | rfl
      · exact ty_has (by kernel_rfl)
      · exact ty_has (by kernel_rfl)
      · exact ty_has (by kernel_rfl)⟩, by decide, by decide, by decide, by decide, by decide, ty_info (by kernel_rfl)⟩
theorem tyOk116 : TyOk Try.prog 116 { k := .struct [(3, 0), (3, 1), (98, 2)], size := 3, bytes := 40, zero := .agg #[.int .i64 0, .int .i64 0, .slice none 0 0] } :=
  ⟨⟨_, Try.underlying116, rfl, by
      intro F hF
      simp only [List.mem_cons, List.not_mem_nil, or_false] at hF
      rcases hF with rfl | rfl | rfl
      · exact ty_has (by kernel_rfl)
      · exact ty_has (by kernel_rfl)
      · exact ty_has (by kernel_rfl)⟩, by decide, by decide, by decide, by decide, by decide, ty_info (by kernel_rfl)⟩
theorem tyOk118 : TyOk Try.prog 118 { k := .sl 223, size := 1, bytes := 24, zero := .slice none 0 0 } :=
  ⟨Try.underlying118, by decide, by decide, by decide, by decide, by decide, ty_info (by kernel_rfl)⟩
theorem tyOk126 : TyOk Try.prog 126 { k := .struct [(9, 0), (9, 1)], size := 2, bytes := 32, zero := .agg #[.string ⟨#[]⟩, .string ⟨#[]⟩] } :=
  ⟨⟨_, Try.underlying126, rfl, by
      intro F hF
      simp only [List.mem_cons, List.not_mem_nil, or_false] at hF
      rcases hF with rfl | rfl
      · exact ty_has (by kernel_rfl)
      · exact ty_has (by kernel_rfl)⟩, by decide, by decide, by decide, by decide, by decide, ty_info (by kernel_rfl)⟩
theorem tyOk127 : TyOk Try.prog 127 { k := .struct [(9, 0), (9, 1)], size := 2, bytes := 32, zero := .agg #[.string ⟨#[]⟩, .string ⟨#[]⟩] } :=
  ⟨⟨_, Try.underlying127, rfl, by
      intro F hF
      simp only [List.mem_cons, List.not_mem_nil, or_false] at hF
      rcases hF with rfl | rfl
      · exact ty_has (by kernel_rfl)
      · exact ty_has (by kernel_rfl)⟩, by decide, by decide, by decide, by decide, by decide, ty_info (by kernel_rfl)⟩
theorem tyOk138 : TyOk Try.prog 138 { k := .sl 5, size := 1, bytes := 24, zero := .slice none 0 0 } :=
  ⟨Try.underlying138, by decide, by decide, by decide, by decide, by decide, ty_info (by kernel_rfl)⟩
theorem tyOk139 : TyOk Try.prog 139 { k := .struct [(137, 0), (138, 1)], size := 2, bytes := 32, zero := .agg #[.pointer none, .slice none 0 0] } :=
  ⟨⟨_, Try.underlying139, rfl, by
      intro F hF
      simp only [List.mem_cons, List.not_mem_nil, or_false] at hF
      rcases hF with rfl | rfl
      · exact ty_has (by kernel_rfl)
      · exact ty_has (by kernel_rfl)⟩, by decide, by decide, by decide, by decide, by decide, ty_info (by kernel_rfl)⟩
theorem tyOk140 : TyOk Try.prog 140 { k := .struct [(137, 0), (138, 1)], size := 2, bytes := 32, zero := .agg #[.pointer none, .slice none 0 0] } :=
  ⟨⟨_, Try.underlying140, rfl, by
      intro F hF
      simp only [List.mem_cons, List.not_mem_nil, or_false] at hF
      rcases hF with rfl | rfl
      · exact ty_has (by kernel_rfl)
      · exact ty_has (by kernel_rfl)⟩, by decide, by decide, by decide, by decide, by decide, ty_info (by kernel_rfl)⟩
theorem tyOk148 : TyOk Try.prog 148 { k := .sl 4, size := 1, bytes := 24, zero := .slice none 0 0 } :=
  ⟨Try.underlying148, by decide, by decide, by decide, by decide, by decide, ty_info (by kernel_rfl)⟩
theorem tyOk154 : TyOk Try.prog 154 { k := .struct [(3, 0), (3, 1), (3, 2), (3, 3), (56, 4)], size := 5, bytes := 56, zero := .agg #[.int .i64 0, .int .i64 0, .int .i64 0, .int .i64 0, .slice none 0 0] } :=
  ⟨⟨_, Try.underlying154, rfl, by
      intro F hF
      simp only [List.mem_cons, List.not_mem_nil, or_false] at hF
      rcases hF with rfl | rfl | rfl | rfl | rfl
      · exact ty_has (by kernel_rfl)
      · exact ty_has (by kernel_rfl)
      · exact ty_has (by kernel_rfl)
      · exact ty_has (by kernel_rfl)
      · exact ty_has (by kernel_rfl)⟩, by decide, by decide, by decide, by decide, by decide, ty_info (by kernel_rfl)⟩
theorem tyOk155 : TyOk Try.prog 155 { k := .struct [(3, 0), (3, 1), (3, 2), (3, 3), (56, 4)], size := 5, bytes := 56, zero := .agg #[.int .i64 0, .int .i64 0, .int .i64 0, .int .i64 0, .slice none 0 0] } :=
  ⟨⟨_, Try.underlying155, rfl, by
      intro F hF
      simp only [List.mem_cons, List.not_mem_nil, or_false] at hF
      rcases hF with rfl | rfl | rfl | rfl | rfl
      · exact ty_has (by kernel_rfl)
      · exact ty_has (by kernel_rfl)
      · exact ty_has (by kernel_rfl)
      · exact ty_has (by kernel_rfl)
      · exact ty_has (by kernel_rfl)⟩, by decide, by decide, by decide, by decide, by decide, ty_info (by kernel_rfl)⟩
theorem tyOk158 : TyOk Try.prog 158 { k := .struct [(9, 0), (9, 1)], size := 2, bytes := 32, zero := .agg #[.string ⟨#[]⟩, .string ⟨#[]⟩] } :=
  ⟨⟨_, Try.underlying158, rfl, by
      intro F hF
      simp only [List.mem_cons, List.not_mem_nil, or_false] at hF
      rcases hF with rfl | rfl
      · exact ty_has (by kernel_rfl)
      · exact ty_has (by kernel_rfl)⟩, by decide, by decide, by decide, by decide, by decide, ty_info (by kernel_rfl)⟩
theorem tyOk159 : TyOk Try.prog 159 { k := .struct [(9, 0), (9, 1)], size := 2, bytes := 32, zero := .agg #[.string ⟨#[]⟩, .string ⟨#[]⟩] } :=
  ⟨⟨_, Try.underlying159, rfl, by
      intro F hF
      simp only [List.mem_cons, List.not_mem_nil, or_false] at hF
      rcases hF with rfl | rfl
      · exact ty_has (by kernel_rfl)
      · exact ty_has (by kernel_rfl)⟩, by decide, by decide, by decide, by decide, by decide, ty_info (by kernel_rfl)⟩
theorem tyOk162 : TyOk Try.prog 162 { k := .sl 231, size := 1, bytes := 24, zero := .slice none 0 0 } :=
  ⟨Try.underlying162, by decide, by decide, by decide, by decide, by decide, ty_info (by kernel_rfl)⟩
theorem tyOk163 : TyOk Try.prog 163 { k := .struct [(3, 0), (9, 1), (162, 2)], size := 3, bytes := 48, zero := .agg #[.int .i64 0, .string ⟨#[]⟩, .slice none 0 0] } :=
  ⟨⟨_, Try.underlying163, rfl, by
      intro F hF
      simp only [List.mem_cons, List.not_mem_nil, or_false] at hF
      rcases hF with rfl | rfl | rfl
      · exact ty_has (by kernel_rfl)
      · exact ty_has (by kernel_rfl)
      · exact ty_has (by kernel_rfl)⟩, by decide, by decide, by decide, by decide, by decide, ty_info (by kernel_rfl)⟩
theorem tyOk164 : TyOk Try.prog 164 { k := .struct [(3, 0), (9, 1), (162, 2)], size := 3, bytes := 48, zero := .agg #[.int .i64 0, .string ⟨#[]⟩, .slice none 0 0] } :=
  ⟨⟨_, Try.underlying164, rfl, by
      intro F hF
      simp only [List.mem_cons, List.not_mem_nil, or_false] at hF
      rcases hF with rfl | rfl | rfl
      · exact ty_has (by kernel_rfl)
      · exact ty_has (by kernel_rfl)
      · exact ty_has (by kernel_rfl)⟩, by decide, by decide, by decide, by decide, by decide, ty_info (by kernel_rfl)⟩
theorem tyOk169 : TyOk Try.prog 169 { k := .struct [(9, 0), (98, 1)], size := 2, bytes := 40, zero := .agg #[.string ⟨#[]⟩, .slice none 0 0] } :=
  ⟨⟨_, Try.underlying169, rfl, by
      intro F hF
      simp only [List.mem_cons, List.not_mem_nil, or_false] at hF
      rcases hF with rfl | rfl
      · exact ty_has (by kernel_rfl)
      · exact ty_has (by kernel_rfl)⟩, by decide, by decide, by decide, by decide, by decide, ty_info (by kernel_rfl)⟩
theorem tyOk170 : TyOk Try.prog 170 { k := .struct [(9, 0), (98, 1)], size := 2, bytes := 40, zero := .agg #[.string ⟨#[]⟩, .slice none 0 0] } :=
  ⟨⟨_, Try.underlying170, rfl, by
      intro F hF
      simp only [List.mem_cons, List.not_mem_nil, or_false] at hF
      rcases hF with rfl | rfl
      · exact ty_has (by kernel_rfl)
      · exact ty_has (by kernel_rfl)⟩, by decide, by decide, by decide, by decide, by decide, ty_info (by kernel_rfl)⟩
theorem tyOk174 : TyOk Try.prog 174 { k := .struct [(9, 0), (9, 1), (9, 2), (3, 3), (46, 4), (9, 10)], size := 11, bytes := 160, zero := .agg #[.string ⟨#[]⟩, .string ⟨#[]⟩, .string ⟨#[]⟩, .int .i64 0, .int .i64 0, .bool false, .int .i64 0, .string ⟨#[]⟩, .slice none 0 0, .slice none 0 0, .string ⟨#[]⟩] } :=
  ⟨⟨_, Try.underlying174, rfl, by
      intro F hF
      simp only [List.mem_cons, List.not_mem_nil, or_false] at hF
      rcases hF with rfl | rfl | rfl | rfl | rfl | rfl
      · exact ty_has (by kernel_rfl)
      · exact ty_has (by kernel_rfl)
      · exact ty_has (by kernel_rfl)
      · exact ty_has (by kernel_rfl)
      · exact ty_has (by kernel_rfl)
      · exact ty_has (by kernel_rfl)⟩, by decide, by decide, by decide, by decide, by decide, ty_info (by kernel_rfl)⟩
theorem tyOk175 : TyOk Try.prog 175 { k := .struct [(9, 0), (9, 1), (9, 2), (3, 3), (46, 4), (9, 10)], size := 11, bytes := 160, zero := .agg #[.string ⟨#[]⟩, .string ⟨#[]⟩, .string ⟨#[]⟩, .int .i64 0, .int .i64 0, .bool false, .int .i64 0, .string ⟨#[]⟩, .slice none 0 0, .slice none 0 0, .string ⟨#[]⟩] } :=
  ⟨⟨_, Try.underlying175, rfl, by
      intro F hF
      simp only [List.mem_cons, List.not_mem_nil, or_false] at hF
      rcases hF with rfl | rfl | rfl | rfl | rfl | rfl
      · exact ty_has (by kernel_rfl)
      · exact ty_has (by kernel_rfl)
      · exact ty_has (by kernel_rfl)
      · exact ty_has (by kernel_rfl)
      · exact ty_has (by kernel_rfl)
      · exact ty_has (by kernel_rfl)⟩, by decide, by decide, by decide, by decide, by decide, ty_info (by kernel_rfl)⟩
theorem tyOk179 : TyOk Try.prog 179 { k := .struct [(9, 0), (9, 1), (9, 2), (9, 3), (3, 4), (46, 5), (9, 11), (44, 12)], size := 13, bytes := 200, zero := .agg #[.string ⟨#[]⟩, .string ⟨#[]⟩, .string ⟨#[]⟩, .string ⟨#[]⟩, .int .i64 0, .int .i64 0, .bool false, .int .i64 0, .string ⟨#[]⟩, .slice none 0 0, .slice none 0 0, .string ⟨#[]⟩, .slice none 0 0] } :=
  ⟨⟨_, Try.underlying179, rfl, by
      intro F hF
      simp only [List.mem_cons, List.not_mem_nil, or_false] at hF
      rcases hF with rfl | rfl | rfl | rfl | rfl | rfl | rfl | rfl
      · exact ty_has (by kernel_rfl)
      · exact ty_has (by kernel_rfl)
      · exact ty_has (by kernel_rfl)
      · exact ty_has (by kernel_rfl)
      · exact ty_has (by kernel_rfl)
      · exact ty_has (by kernel_rfl)
      · exact ty_has (by kernel_rfl)
      · exact ty_has (by kernel_rfl)⟩, by decide, by decide, by decide, by decide, by decide, ty_info (by kernel_rfl)⟩
theorem tyOk180 : TyOk Try.prog 180 { k := .struct [(9, 0), (9, 1), (9, 2), (9, 3), (3, 4), (46, 5), (9, 11), (44, 12)], size := 13, bytes := 200, zero := .agg #[.string ⟨#[]⟩, .string ⟨#[]⟩, .string ⟨#[]⟩, .string ⟨#[]⟩, .int .i64 0, .int .i64 0, .bool false, .int .i64 0, .string ⟨#[]⟩, .slice none 0 0, .slice none 0 0, .string ⟨#[]⟩, .slice none 0 0] } :=
  ⟨⟨_, Try.underlying180, rfl, by
      intro F hF
      simp only [List.mem_cons, List.not_mem_nil, or_false] at hF
      rcases hF with rfl | rfl | rfl | rfl | rfl | rfl | rfl | rfl
      · exact ty_has (by kernel_rfl)
      · exact ty_has (by kernel_rfl)
      · exact ty_has (by kernel_rfl)
      · exact ty_has (by kernel_rfl)
      · exact ty_has (by kernel_rfl)
      · exact ty_has (by kernel_rfl)
      · exact ty_has (by kernel_rfl)
      · exact ty_has (by kernel_rfl)⟩, by decide, by decide, by decide, by decide, by decide, ty_info (by kernel_rfl)⟩
theorem tyOk184 : TyOk Try.prog 184 { k := .struct [(9, 0), (9, 1), (9, 2), (70, 3)], size := 4, bytes := 72, zero := .agg #[.string ⟨#[]⟩, .string ⟨#[]⟩, .string ⟨#[]⟩, .slice none 0 0] } :=
  ⟨⟨_, Try.underlying184, rfl, by
      intro F hF
      simp only [List.mem_cons, List.not_mem_nil, or_false] at hF
      rcases hF with rfl | rfl | rfl | rfl
      · exact ty_has (by kernel_rfl)
      · exact ty_has (by kernel_rfl)
      · exact ty_has (by kernel_rfl)
      · exact ty_has (by kernel_rfl)⟩, by decide, by decide, by decide, by decide, by decide, ty_info (by kernel_rfl)⟩
theorem tyOk185 : TyOk Try.prog 185 { k := .struct [(9, 0), (9, 1), (9, 2), (70, 3)], size := 4, bytes := 72, zero := .agg #[.string ⟨#[]⟩, .string ⟨#[]⟩, .string ⟨#[]⟩, .slice none 0 0] } :=
  ⟨⟨_, Try.underlying185, rfl, by
      intro F hF
      simp only [List.mem_cons, List.not_mem_nil, or_false] at hF
      rcases hF with rfl | rfl | rfl | rfl
      · exact ty_has (by kernel_rfl)
      · exact ty_has (by kernel_rfl)
      · exact ty_has (by kernel_rfl)
      · exact ty_has (by kernel_rfl)⟩, by decide, by decide, by decide, by decide, by decide, ty_info (by kernel_rfl)⟩
theorem tyOk189 : TyOk Try.prog 189 { k := .struct [(9, 0), (9, 1)], size := 2, bytes := 32, zero := .agg #[.string ⟨#[]⟩, .string ⟨#[]⟩] } :=
  ⟨⟨_, Try.underlying189, rfl, by
      intro F hF
      simp only [List.mem_cons, List.not_mem_nil, or_false] at hF
      rcases hF with rfl | rfl
      · exact ty_has (by kernel_rfl)
      · exact ty_has (by kernel_rfl)⟩, by decide, by decide, by decide, by decide, by decide, ty_info (by kernel_rfl)⟩
theorem tyOk190 : TyOk Try.prog 190 { k := .struct [(9, 0), (9, 1)], size := 2, bytes := 32, zero := .agg #[.string ⟨#[]⟩, .string ⟨#[]⟩] } :=
  ⟨⟨_, Try.underlying190, rfl, by
      intro F hF
      simp only [List.mem_cons, List.not_mem_nil, or_false] at hF
      rcases hF with rfl | rfl
      · exact ty_has (by kernel_rfl)
      · exact ty_has (by kernel_rfl)⟩, by decide, by decide, by decide, by decide, by decide, ty_info (by kernel_rfl)⟩
theorem tyOk193 : TyOk Try.prog 193 { k := .struct [(9, 0), (3, 1), (9, 2)], size := 3, bytes := 40, zero := .agg #[.string ⟨#[]⟩, .int .i64 0, .string ⟨#[]⟩] } :=
  ⟨⟨_, Try.underlying193, rfl, by
      intro F hF
      simp only [List.mem_cons, List.not_mem_nil, or_false] at hF
      rcases hF with rfl | rfl | rfl
      · exact ty_has (by kernel_rfl)
      · exact ty_has (by kernel_rfl)
      · exact ty_has (by kernel_rfl)⟩, by decide, by decide, by decide, by decide, by decide, ty_info (by kernel_rfl)⟩
theorem tyOk194 : TyOk Try.prog 194 { k := .struct [(9, 0), (3, 1), (9, 2)], size := 3, bytes := 40, zero := .agg #[.string ⟨#[]⟩, .int .i64 0, .string ⟨#[]⟩] } :=
  ⟨⟨_, Try.underlying194, rfl, by
      intro F hF
      simp only [List.mem_cons, List.not_mem_nil, or_false] at hF
      rcases hF with rfl | rfl | rfl
      · exact ty_has (by kernel_rfl)
      · exact ty_has (by kernel_rfl)
      · exact ty_has (by kernel_rfl)⟩, by decide, by decide, by decide, by decide, by decide, ty_info (by kernel_rfl)⟩
theorem tyOk199 : TyOk Try.prog 199 { k := .struct [(46, 0), (98, 6)], size := 7, bytes := 112, zero := .agg #[.int .i64 0, .bool false, .int .i64 0, .string ⟨#[]⟩, .slice none 0 0, .slice none 0 0, .slice none 0 0] } :=
  ⟨⟨_, Try.underlying199, rfl, by
      intro F hF
      simp only [List.mem_cons, List.not_mem_nil, or_false] at hF
      rcases hF with rfl | rfl
      · exact ty_has (by kernel_rfl)
      · exact ty_has (by kernel_rfl)⟩, by decide, by decide, by decide, by decide, by decide, ty_info (by kernel_rfl)⟩
theorem tyOk200 : TyOk Try.prog 200 { k := .struct [(46, 0), (98, 6)], size := 7, bytes := 112, zero := .agg #[.int .i64 0, .bool false, .int .i64 0, .string ⟨#[]⟩, .slice none 0 0, .slice none 0 0, .slice none 0 0] } :=
  ⟨⟨_, Try.underlying200, rfl, by
      intro F hF
      simp only [List.mem_cons, List.not_mem_nil, or_false] at hF
      rcases hF with rfl | rfl
      · exact ty_has (by kernel_rfl)
      · exact ty_has (by kernel_rfl)⟩, by decide, by decide, by decide, by decide, by decide, ty_info (by kernel_rfl)⟩
theorem tyOk204 : TyOk Try.prog 204 { k := .struct [(3, 0), (3, 1), (98, 2)], size := 3, bytes := 40, zero := .agg #[.int .i64 0, .int .i64 0, .slice none 0 0] } :=
  ⟨⟨_, Try.underlying204, rfl, by
      intro F hF
      simp only [List.mem_cons, List.not_mem_nil, or_false] at hF
      rcases hF with rfl | rfl | rfl
      · exact ty_has (by kernel_rfl)
      · exact ty_has (by kernel_rfl)
      · exact ty_has (by kernel_rfl)⟩, by decide, by decide, by decide, by decide, by decide, ty_info (by kernel_rfl)⟩
theorem tyOk205 : TyOk Try.prog 205 { k := .struct [(3, 0), (3, 1), (98, 2)], size := 3, bytes := 40, zero := .agg #[.int .i64 0, .int .i64 0, .slice none 0 0] } :=
  ⟨⟨_, Try.underlying205, rfl, by
      intro F hF
      simp only [List.mem_cons, List.not_mem_nil, or_false] at hF
      rcases hF with rfl | rfl | rfl
      · exact ty_has (by kernel_rfl)
      · exact ty_has (by kernel_rfl)
      · exact ty_has (by kernel_rfl)⟩, by decide, by decide, by decide, by decide, by decide, ty_info (by kernel_rfl)⟩
theorem tyOk209 : TyOk Try.prog 209 { k := .struct [(9, 0), (9, 1), (98, 2)], size := 3, bytes := 56, zero := .agg #[.string ⟨#[]⟩, .string ⟨#[]⟩, .slice none 0 0] } :=
  ⟨⟨_, Try.underlying209, rfl, by
      intro F hF
      simp only [List.mem_cons, List.not_mem_nil, or_false] at hF
      rcases hF with rfl | rfl | rfl
      · exact ty_has (by kernel_rfl)
      · exact ty_has (by kernel_rfl)
      · exact ty_has (by kernel_rfl)⟩, by decide, by decide, by decide, by decide, by decide, ty_info (by kernel_rfl)⟩
theorem tyOk210 : TyOk Try.prog 210 { k := .struct [(9, 0), (9, 1), (98, 2)], size := 3, bytes := 56, zero := .agg #[.string ⟨#[]⟩, .string ⟨#[]⟩, .slice none 0 0] } :=
  ⟨⟨_, Try.underlying210, rfl, by
      intro F hF
      simp only [List.mem_cons, List.not_mem_nil, or_false] at hF
      rcases hF with rfl | rfl | rfl
      · exact ty_has (by kernel_rfl)
      · exact ty_has (by kernel_rfl)
      · exact ty_has (by kernel_rfl)⟩, by decide, by decide, by decide, by decide, by decide, ty_info (by kernel_rfl)⟩
theorem tyOk213 : TyOk Try.prog 213 { k := .struct [(9, 0), (4, 1), (118, 2)], size := 3, bytes := 48, zero := .agg #[.string ⟨#[]⟩, .bool false, .slice none 0 0] } :=
  ⟨⟨_, Try.underlying213, rfl, by
      intro F hF
      simp only [List.mem_cons, List.not_mem_nil, or_false] at hF
      rcases hF with rfl | rfl | rfl
      · exact ty_has (by kernel_rfl)
      · exact ty_has (by kernel_rfl)
      · exact ty_has (by kernel_rfl)⟩, by decide, by decide, by decide, by decide, by decide, ty_info (by kernel_rfl)⟩
theorem tyOk214 : TyOk Try.prog 214 { k := .struct [(9, 0), (4, 1), (118, 2)], size := 3, bytes := 48, zero := .agg #[.string ⟨#[]⟩, .bool false, .slice none 0 0] } :=
  ⟨⟨_, Try.underlying214, rfl, by
      intro F hF
      simp only [List.mem_cons, List.not_mem_nil, or_false] at hF
      rcases hF with rfl | rfl | rfl
      · exact ty_has (by kernel_rfl)
      · exact ty_has (by kernel_rfl)
      · exact ty_has (by kernel_rfl)⟩, by decide, by decide, by decide, by decide, by decide, ty_info (by kernel_rfl)⟩
theorem tyOk222 : TyOk Try.prog 222 { k := .struct [(39, 0), (3, 2), (3, 3)], size := 4, bytes := 40, zero := .agg #[.int .i64 0, .string ⟨#[]⟩, .int .i64 0, .int .i64 0] } :=
  ⟨⟨_, Try.underlying222, rfl, by
      intro F hF
      simp only [List.mem_cons, List.not_mem_nil, or_false] at hF
      rcases hF with rfl | rfl | rfl
      · exact ty_has (by kernel_rfl)
      · exact ty_has (by kernel_rfl)
      · exact ty_has (by kernel_rfl)⟩, by decide, by decide, by decide, by decide, by decide, ty_info (by kernel_rfl)⟩
theorem tyOk223 : TyOk Try.prog 223 { k := .struct [(39, 0), (3, 2), (3, 3)], size := 4, bytes := 40, zero := .agg #[.int .i64 0, .string ⟨#[]⟩, .int .i64 0, .int .i64 0] } :=
  ⟨⟨_, Try.underlying223, rfl, by
      intro F hF
      simp only [List.mem_cons, List.not_mem_nil, or_false] at hF
      rcases hF with rfl | rfl | rfl
      · exact ty_has (by kernel_rfl)
      · exact ty_has (by kernel_rfl)
      · exact ty_has (by kernel_rfl)⟩, by decide, by decide, by decide, by decide, by decide, ty_info (by kernel_rfl)⟩
theorem tyOk230 : TyOk Try.prog 230 { k := .struct [(9, 0), (3, 1), (3, 2), (62, 3)], size := 4, bytes := 56, zero := .agg #[.string ⟨#[]⟩, .int .i64 0, .int .i64 0, .slice none 0 0] } :=
  ⟨⟨_, Try.underlying230, rfl, by
      intro F hF
      simp only [List.mem_cons, List.not_mem_nil, or_false] at hF
      rcases hF with rfl | rfl | rfl | rfl
      · exact ty_has (by kernel_rfl)
      · exact ty_has (by kernel_rfl)
      · exact ty_has (by kernel_rfl)
      · exact ty_has (by kernel_rfl)⟩, by decide, by decide, by decide, by decide, by decide, ty_info (by kernel_rfl)⟩
theorem tyOk231 : TyOk Try.prog 231 { k := .struct [(9, 0), (3, 1), (3, 2), (62, 3)], size := 4, bytes := 56, zero := .agg #[.string ⟨#[]⟩, .int .i64 0, .int .i64 0, .slice none 0 0] } :=
  ⟨⟨_, Try.underlying231, rfl, by
      intro F hF
      simp only [List.mem_cons, List.not_mem_nil, or_false] at hF
      rcases hF with rfl | rfl | rfl | rfl
      · exact ty_has (by kernel_rfl)
      · exact ty_has (by kernel_rfl)
      · exact ty_has (by kernel_rfl)
      · exact ty_has (by kernel_rfl)⟩, by decide, by decide, by decide, by decide, by decide, ty_info (by kernel_rfl)⟩
theorem tyOk247 : TyOk Try.prog 247 { k := .int .u64, size := 1, bytes := 8, zero := .int .u64 0 } :=
  ⟨Try.underlying247, by decide, by decide, by decide, by decide, by decide, ty_info (by kernel_rfl)⟩
theorem tyOk249 : TyOk Try.prog 249 { k := .int .u32, size := 1, bytes := 4, zero := .int .u32 0 } :=
  ⟨Try.underlying249, by decide, by decide, by decide, by decide, by decide, ty_info (by kernel_rfl)⟩
theorem tyOk252 : TyOk Try.prog 252 { k := .struct [(17, 0), (17, 1), (17, 2), (9, 3)], size := 4, bytes := 40, zero := .agg #[.pointer none, .pointer none, .pointer none, .string ⟨#[]⟩] } :=
  ⟨⟨_, Try.underlying252, rfl, by
      intro F hF
      simp only [List.mem_cons, List.not_mem_nil, or_false] at hF
      rcases hF with rfl | rfl | rfl | rfl
      · exact ty_has (by kernel_rfl)
      · exact ty_has (by kernel_rfl)
      · exact ty_has (by kernel_rfl)
      · exact ty_has (by kernel_rfl)⟩, by decide, by decide, by decide, by decide, by decide, ty_info (by kernel_rfl)⟩
theorem tyOk253 : TyOk Try.prog 253 { k := .struct [(17, 0), (17, 1), (17, 2), (9, 3)], size := 4, bytes := 40, zero := .agg #[.pointer none, .pointer none, .pointer none, .string ⟨#[]⟩] } :=
  ⟨⟨_, Try.underlying253, rfl, by
      intro F hF
      simp only [List.mem_cons, List.not_mem_nil, or_false] at hF
      rcases hF with rfl | rfl | rfl | rfl
      · exact ty_has (by kernel_rfl)
      · exact ty_has (by kernel_rfl)
      · exact ty_has (by kernel_rfl)
      · exact ty_has (by kernel_rfl)⟩, by decide, by decide, by decide, by decide, by decide, ty_info (by kernel_rfl)⟩
theorem tyOk258 : TyOk Try.prog 258 { k := .int .u8, size := 1, bytes := 1, zero := .int .u8 0 } :=
  ⟨Try.underlying258, by decide, by decide, by decide, by decide, by decide, ty_info (by kernel_rfl)⟩
theorem tyOk259 : TyOk Try.prog 259 { k := .int .u8, size := 1, bytes := 1, zero := .int .u8 0 } :=
  ⟨Try.underlying259, by decide, by decide, by decide, by decide, by decide, ty_info (by kernel_rfl)⟩
theorem tyOk261 : TyOk Try.prog 261 { k := .int .i32, size := 1, bytes := 4, zero := .int .i32 0 } :=
  ⟨Try.underlying261, by decide, by decide, by decide, by decide, by decide, ty_info (by kernel_rfl)⟩
theorem tyOk262 : TyOk Try.prog 262 { k := .int .i32, size := 1, bytes := 4, zero := .int .i32 0 } :=
  ⟨Try.underlying262, by decide, by decide, by decide, by decide, by decide, ty_info (by kernel_rfl)⟩
theorem tyOk263 : TyOk Try.prog 263 { k := .struct [(12, 0), (12, 1), (249, 2), (258, 3), (5, 4), (5, 5), (259, 6), (260, 7), (226, 8), (261, 9), (262, 10)], size := 11, bytes := 48, zero := .agg #[.int .u64 0, .int .u64 0, .int .u32 0, .int .u8 0, .int .u8 0, .int .u8 0, .int .u8 0, .nilFunc, .pointer none, .int .i32 0, .int .i32 0] } :=
  ⟨⟨_, Try.underlying263, rfl, by
      intro F hF
      simp only [List.mem_cons, List.not_mem_nil, or_false] at hF
      rcases hF with rfl | rfl | rfl | rfl | rfl | rfl | rfl | rfl | rfl | rfl | rfl
      · exact ty_has (by kernel_rfl)
      · exact ty_has (by kernel_rfl)
      · exact ty_has (by kernel_rfl)
      · exact ty_has (by kernel_rfl)
      · exact ty_has (by kernel_rfl)
      · exact ty_has (by kernel_rfl)
      · exact ty_has (by kernel_rfl)
      · exact ty_has (by kernel_rfl)
      · exact ty_has (by kernel_rfl)
      · exact ty_has (by kernel_rfl)
      · exact ty_has (by kernel_rfl)⟩, by decide, by decide, by decide, by decide, by decide, ty_info (by kernel_rfl)⟩
theorem tyOk264 : TyOk Try.prog 264 { k := .struct [(12, 0), (12, 1), (249, 2), (258, 3), (5, 4), (5, 5), (259, 6), (260, 7), (226, 8), (261, 9), (262, 10)], size := 11, bytes := 48, zero := .agg #[.int .u64 0, .int .u64 0, .int .u32 0, .int .u8 0, .int .u8 0, .int .u8 0, .int .u8 0, .nilFunc, .pointer none, .int .i32 0, .int .i32 0] } :=
  ⟨⟨_, Try.underlying264, rfl, by
      intro F hF
      simp only [List.mem_cons, List.not_mem_nil, or_false] at hF
      rcases hF with rfl | rfl | rfl | rfl | rfl | rfl | rfl | rfl | rfl | rfl | rfl
      · exact ty_has (by kernel_rfl)
      · exact ty_has (by kernel_rfl)
      · exact ty_has (by kernel_rfl)
      · exact ty_has (by kernel_rfl)
      · exact ty_has (by kernel_rfl)
      · exact ty_has (by kernel_rfl)
      · exact ty_has (by kernel_rfl)
      · exact ty_has (by kernel_rfl)
      · exact ty_has (by kernel_rfl)
      · exact ty_has (by kernel_rfl)
      · exact ty_has (by kernel_rfl)⟩, by decide, by decide, by decide, by decide, by decide, ty_info (by kernel_rfl)⟩
theorem tyOk267 : TyOk Try.prog 267 { k := .arr 2 9, size := 2, bytes := 32, zero := .agg #[.string ⟨#[]⟩, .string ⟨#[]⟩] } :=
  ⟨Try.underlying267, by decide, by decide, by decide, by decide, by decide, ty_info (by kernel_rfl)⟩
theorem tyOk1 : TyOk Try.prog 1 { k := .func, size := 1, bytes := 8, zero := .nilFunc } :=
  ⟨⟨_, _, _, Try.underlying1⟩, by decide, by decide, by decide, by decide, by decide, ty_info (by kernel_rfl)⟩
theorem tyOk15 : TyOk Try.prog 15 { k := .ptr, size := 1, bytes := 8, zero := .pointer none } :=
  ⟨⟨_, Try.underlying15⟩, by decide, by decide, by decide, by decide, by decide, ty_info (by kernel_rfl)⟩
theorem tyOk16 : TyOk Try.prog 16 { k := .ptr, size := 1, bytes := 8, zero := .pointer none } :=
  ⟨⟨_, Try.underlying16⟩, by decide, by decide, by decide, by decide, by decide, ty_info (by kernel_rfl)⟩
theorem tyOk17 : TyOk Try.prog 17 { k := .ptr, size := 1, bytes := 8, zero := .pointer none } :=
  ⟨⟨_, Try.underlying17⟩, by decide, by decide, by decide, by decide, by decide, ty_info (by kernel_rfl)⟩
theorem tyOk20 : TyOk Try.prog 20 { k := .ifc, size := 1, bytes := 16, zero := .nilIface } :=
  ⟨⟨_, Try.underlying20⟩, by decide, by decide, by decide, by decide, by decide, ty_info (by kernel_rfl)⟩
theorem tyOk25 : TyOk Try.prog 25 { k := .func, size := 1, bytes := 8, zero := .nilFunc } :=
  ⟨⟨_, _, _, Try.underlying25⟩, by decide, by decide, by decide, by decide, by decide, ty_info (by kernel_rfl)⟩
theorem tyOk27 : TyOk Try.prog 27 { k := .func, size := 1, bytes := 8, zero := .nilFunc } :=
  ⟨⟨_, _, _, Try.underlying27⟩, by decide, by decide, by decide, by decide, by decide, ty_info (by kernel_rfl)⟩
theorem tyOk28 : TyOk Try.prog 28 { k := .func, size := 1, bytes := 8, zero := .nilFunc } :=
  ⟨⟨_, _, _, Try.underlying28⟩, by decide, by decide, by decide, by decide, by decide, ty_info (by kernel_rfl)⟩
theorem tyOk29 : TyOk Try.prog 29 { k := .func, size := 1, bytes := 8, zero := .nilFunc } :=
  ⟨⟨_, _, _, Try.underlying29⟩, by decide, by decide, by decide, by decide, by decide, ty_info (by kernel_rfl)⟩
theorem tyOk31 : TyOk Try.prog 31 { k := .func, size := 1, bytes := 8, zero := .nilFunc } :=
  ⟨⟨_, _, _, Try.underlying31⟩, by decide, by decide, by decide, by decide, by decide, ty_info (by kernel_rfl)⟩
theorem tyOk32 : TyOk Try.prog 32 { k := .func, size := 1, bytes := 8, zero := .nilFunc } :=
  ⟨⟨_, _, _, Try.underlying32⟩, by decide, by decide, by decide, by decide, by decide, ty_info (by kernel_rfl)⟩
theorem tyOk34 : TyOk Try.prog 34 { k := .func, size := 1, bytes := 8, zero := .nilFunc } :=
  ⟨⟨_, _, _, Try.underlying34⟩, by decide, by decide, by decide, by decide, by decide, ty_info (by kernel_rfl)⟩
theorem tyOk35 : TyOk Try.prog 35 { k := .func, size := 1, bytes := 8, zero := .nilFunc } :=
  ⟨⟨_, _, _, Try.underlying35⟩, by decide, by decide, by decide, by decide, by decide, ty_info (by kernel_rfl)⟩
theorem tyOk36 : TyOk Try.prog 36 { k := .func, size := 1, bytes := 8, zero := .nilFunc } :=
  ⟨⟨_, _, _, Try.underlying36⟩, by decide, by decide, by decide, by decide, by decide, ty_info (by kernel_rfl)⟩
theorem tyOk37 : TyOk Try.prog 37 { k := .func, size := 1, bytes := 8, zero := .nilFunc } :=
  ⟨⟨_, _, _, Try.underlying37⟩, by decide, by decide, by decide, by decide, by decide, ty_info (by kernel_rfl)⟩
theorem tyOk40 : TyOk Try.prog 40 { k := .func, size := 1, bytes := 8, zero := .nilFunc } :=
  ⟨⟨_, _, _, Try.underlying40⟩, by decide, by decide, by decide, by decide, by decide, ty_info (by kernel_rfl)⟩
theorem tyOk43 : TyOk Try.prog 43 { k := .func, size := 1, bytes := 8, zero := .nilFunc } :=
  ⟨⟨_, _, _, Try.underlying43⟩, by decide, by decide, by decide, by decide, by decide, ty_info (by kernel_rfl)⟩
theorem tyOk47 : TyOk Try.prog 47 { k := .func, size := 1, bytes := 8, zero := .nilFunc } :=
  ⟨⟨_, _, _, Try.underlying47⟩, by decide, by decide, by decide, by decide, by decide, ty_info (by kernel_rfl)⟩
theorem tyOk50 : TyOk Try.prog 50 { k := .func, size := 1, bytes := 8, zero := .nilFunc } :=
  ⟨⟨_, _, _, Try.underlying50⟩, by decide, by decide, by decide, by decide, by decide, ty_info (by kernel_rfl)⟩
theorem tyOk53 : TyOk Try.prog 53 { k := .func, size := 1, bytes := 8, zero := .nilFunc } :=
  ⟨⟨_, _, _, Try.underlying53⟩, by decide, by decide, by decide, by decide, by decide, ty_info (by kernel_rfl)⟩
theorem tyOk55 : TyOk Try.prog 55 { k := .func, size := 1, bytes := 8, zero := .nilFunc } :=
  ⟨⟨_, _, _, Try.underlying55⟩, by decide, by decide, by decide, by decide, by decide, ty_info (by kernel_rfl)⟩
theorem tyOk81 : TyOk Try.prog 81 { k := .func, size := 1, bytes := 8, zero := .nilFunc } :=
  ⟨⟨_, _, _, Try.underlying81⟩, by decide, by decide, by decide, by decide, by decide, ty_info (by kernel_rfl)⟩
theorem tyOk84 : TyOk Try.prog 84 { k := .func, size := 1, bytes := 8, zero := .nilFunc } :=
  ⟨⟨_, _, _, Try.underlying84⟩, by decide, by decide, by decide, by decide, by decide, ty_info (by kernel_rfl)⟩
theorem tyOk89 : TyOk Try.prog 89 { k := .func, size := 1, bytes := 8, zero := .nilFunc } :=
  ⟨⟨_, _, _, Try.underlying89⟩, by decide, by decide, by decide, by decide, by decide, ty_info (by kernel_rfl)⟩
theorem tyOk92 : TyOk Try.prog 92 { k := .func, size := 1, bytes := 8, zero := .nilFunc } :=
  ⟨⟨_, _, _, Try.underlying92⟩, by decide, by decide, by decide, by decide, by decide, ty_info (by kernel_rfl)⟩
theorem tyOk95 : TyOk Try.prog 95 { k := .func, size := 1, bytes := 8, zero := .nilFunc } :=
  ⟨⟨_, _, _, Try.underlying95⟩, by decide, by decide, by decide, by decide, by decide, ty_info (by kernel_rfl)⟩
theorem tyOk102 : TyOk Try.prog 102 { k := .func, size := 1, bytes := 8, zero := .nilFunc } :=
  ⟨⟨_, _, _, Try.underlying102⟩, by decide, by decide, by decide, by decide, by decide, ty_info (by kernel_rfl)⟩
theorem tyOk104 : TyOk Try.prog 104 { k := .func, size := 1, bytes := 8, zero := .nilFunc } :=
  ⟨⟨_, _, _, Try.underlying104⟩, by decide, by decide, by decide, by decide, by decide, ty_info (by kernel_rfl)⟩
theorem tyOk107 : TyOk Try.prog 107 { k := .func, size := 1, bytes := 8, zero := .nilFunc } :=
  ⟨⟨_, _, _, Try.underlying107⟩, by decide, by decide, by decide, by decide, by decide, ty_info (by kernel_rfl)⟩
theorem tyOk112 : TyOk Try.prog 112 { k := .func, size := 1, bytes := 8, zero := .nilFunc } :=
  ⟨⟨_, _, _, Try.underlying112⟩, by decide, by decide, by decide, by decide, by decide, ty_info (by kernel_rfl)⟩
theorem tyOk120 : TyOk Try.prog 120 { k := .func, size := 1, bytes := 8, zero := .nilFunc } :=
  ⟨⟨_, _, _, Try.underlying120⟩, by decide, by decide, by decide, by decide, by decide, ty_info (by kernel_rfl)⟩
theorem tyOk121 : TyOk Try.prog 121 { k := .func, size := 1, bytes := 8, zero := .nilFunc } :=
  ⟨⟨_, _, _, Try.underlying121⟩, by decide, by decide, by decide, by decide, by decide, ty_info (by kernel_rfl)⟩
theorem tyOk123 : TyOk Try.prog 123 { k := .func, size := 1, bytes := 8, zero := .nilFunc } :=
  ⟨⟨_, _, _, Try.underlying123⟩, by decide, by decide, by decide, by decide, by decide, ty_info (by kernel_rfl)⟩
theorem tyOk124 : TyOk Try.prog 124 { k := .func, size := 1, bytes := 8, zero := .nilFunc } :=
  ⟨⟨_, _, _, Try.underlying124⟩, by decide, by decide, by decide, by decide, by decide, ty_info (by kernel_rfl)⟩
theorem tyOk125 : TyOk Try.prog 125 { k := .map .str 9 9, size := 1, bytes := 8, zero := .map none } :=
  ⟨⟨Try.underlying125, Go.Maps.string_keyed Try.underlying9, fun v ⟨s, hv, hs⟩ => ⟨_, hv ▸ Go.WideMaps.keyOf_string_mk Try.underlying9 hs⟩⟩, by decide, by decide, by decide, by decide, by decide, ty_info (by kernel_rfl)⟩
theorem tyOk129 : TyOk Try.prog 129 { k := .func, size := 1, bytes := 8, zero := .nilFunc } :=
  ⟨⟨_, _, _, Try.underlying129⟩, by decide, by decide, by decide, by decide, by decide, ty_info (by kernel_rfl)⟩
theorem tyOk131 : TyOk Try.prog 131 { k := .func, size := 1, bytes := 8, zero := .nilFunc } :=
  ⟨⟨_, _, _, Try.underlying131⟩, by decide, by decide, by decide, by decide, by decide, ty_info (by kernel_rfl)⟩
theorem tyOk132 : TyOk Try.prog 132 { k := .func, size := 1, bytes := 8, zero := .nilFunc } :=
  ⟨⟨_, _, _, Try.underlying132⟩, by decide, by decide, by decide, by decide, by decide, ty_info (by kernel_rfl)⟩
theorem tyOk133 : TyOk Try.prog 133 { k := .func, size := 1, bytes := 8, zero := .nilFunc } :=
  ⟨⟨_, _, _, Try.underlying133⟩, by decide, by decide, by decide, by decide, by decide, ty_info (by kernel_rfl)⟩
theorem tyOk134 : TyOk Try.prog 134 { k := .func, size := 1, bytes := 8, zero := .nilFunc } :=
  ⟨⟨_, _, _, Try.underlying134⟩, by decide, by decide, by decide, by decide, by decide, ty_info (by kernel_rfl)⟩
theorem tyOk135 : TyOk Try.prog 135 { k := .func, size := 1, bytes := 8, zero := .nilFunc } :=
  ⟨⟨_, _, _, Try.underlying135⟩, by decide, by decide, by decide, by decide, by decide, ty_info (by kernel_rfl)⟩
theorem tyOk136 : TyOk Try.prog 136 { k := .func, size := 1, bytes := 8, zero := .nilFunc } :=
  ⟨⟨_, _, _, Try.underlying136⟩, by decide, by decide, by decide, by decide, by decide, ty_info (by kernel_rfl)⟩
theorem tyOk137 : TyOk Try.prog 137 { k := .ptr, size := 1, bytes := 8, zero := .pointer none } :=
  ⟨⟨_, Try.underlying137⟩, by decide, by decide, by decide, by decide, by decide, ty_info (by kernel_rfl)⟩
theorem tyOk141 : TyOk Try.prog 141 { k := .ifc, size := 1, bytes := 16, zero := .nilIface } :=
  ⟨⟨_, Try.underlying141⟩, by decide, by decide, by decide, by decide, by decide, ty_info (by kernel_rfl)⟩
theorem tyOk142 : TyOk Try.prog 142 { k := .ifc, size := 1, bytes := 16, zero := .nilIface } :=
  ⟨⟨_, Try.underlying142⟩, by decide, by decide, by decide, by decide, by decide, ty_info (by kernel_rfl)⟩
theorem tyOk144 : TyOk Try.prog 144 { k := .func, size := 1, bytes := 8, zero := .nilFunc } :=
  ⟨⟨_, _, _, Try.underlying144⟩, by decide, by decide, by decide, by decide, by decide, ty_info (by kernel_rfl)⟩
theorem tyOk145 : TyOk Try.prog 145 { k := .func, size := 1, bytes := 8, zero := .nilFunc } :=
  ⟨⟨_, _, _, Try.underlying145⟩, by decide, by decide, by decide, by decide, by decide, ty_info (by kernel_rfl)⟩
theorem tyOk146 : TyOk Try.prog 146 { k := .func, size := 1, bytes := 8, zero := .nilFunc } :=
  ⟨⟨_, _, _, Try.underlying146⟩, by decide, by decide, by decide, by decide, by decide, ty_info (by kernel_rfl)⟩
theorem tyOk147 : TyOk Try.prog 147 { k := .func, size := 1, bytes := 8, zero := .nilFunc } :=
  ⟨⟨_, _, _, Try.underlying147⟩, by decide, by decide, by decide, by decide, by decide, ty_info (by kernel_rfl)⟩
theorem tyOk149 : TyOk Try.prog 149 { k := .func, size := 1, bytes := 8, zero := .nilFunc } :=
  ⟨⟨_, _, _, Try.underlying149⟩, by decide, by decide, by decide, by decide, by decide, ty_info (by kernel_rfl)⟩
theorem tyOk150 : TyOk Try.prog 150 { k := .func, size := 1, bytes := 8, zero := .nilFunc } :=
  ⟨⟨_, _, _, Try.underlying150⟩, by decide, by decide, by decide, by decide, by decide, ty_info (by kernel_rfl)⟩
theorem tyOk151 : TyOk Try.prog 151 { k := .func, size := 1, bytes := 8, zero := .nilFunc } :=
  ⟨⟨_, _, _, Try.underlying151⟩, by decide, by decide, by decide, by decide, by decide, ty_info (by kernel_rfl)⟩
theorem tyOk153 : TyOk Try.prog 153 { k := .func, size := 1, bytes := 8, zero := .nilFunc } :=
  ⟨⟨_, _, _, Try.underlying153⟩, by decide, by decide, by decide, by decide, by decide, ty_info (by kernel_rfl)⟩
theorem tyOk156 : TyOk Try.prog 156 { k := .func, size := 1, bytes := 8, zero := .nilFunc } :=
  ⟨⟨_, _, _, Try.underlying156⟩, by decide, by decide, by decide, by decide, by decide, ty_info (by kernel_rfl)⟩
theorem tyOk157 : TyOk Try.prog 157 { k := .func, size := 1, bytes := 8, zero := .nilFunc } :=
  ⟨⟨_, _, _, Try.underlying157⟩, by decide, by decide, by decide, by decide, by decide, ty_info (by kernel_rfl)⟩
theorem tyOk161 : TyOk Try.prog 161 { k := .func, size := 1, bytes := 8, zero := .nilFunc } :=
  ⟨⟨_, _, _, Try.underlying161⟩, by decide, by decide, by decide, by decide, by decide, ty_info (by kernel_rfl)⟩
theorem tyOk165 : TyOk Try.prog 165 { k := .func, size := 1, bytes := 8, zero := .nilFunc } :=
  ⟨⟨_, _, _, Try.underlying165⟩, by decide, by decide, by decide, by decide, by decide, ty_info (by kernel_rfl)⟩
theorem tyOk168 : TyOk Try.prog 168 { k := .func, size := 1, bytes := 8, zero := .nilFunc } :=
  ⟨⟨_, _, _, Try.underlying168⟩, by decide, by decide, by decide, by decide, by decide, ty_info (by kernel_rfl)⟩
theorem tyOk171 : TyOk Try.prog 171 { k := .func, size := 1, bytes := 8, zero := .nilFunc } :=
  ⟨⟨_, _, _, Try.underlying171⟩, by decide, by decide, by decide, by decide, by decide, ty_info (by kernel_rfl)⟩
theorem tyOk173 : TyOk Try.prog 173 { k := .func, size := 1, bytes := 8, zero := .nilFunc } :=
  ⟨⟨_, _, _, Try.underlying173⟩, by decide, by decide, by decide, by decide, by decide, ty_info (by kernel_rfl)⟩
theorem tyOk176 : TyOk Try.prog 176 { k := .func, size := 1, bytes := 8, zero := .nilFunc } :=
  ⟨⟨_, _, _, Try.underlying176⟩, by decide, by decide, by decide, by decide, by decide, ty_info (by kernel_rfl)⟩
theorem tyOk178 : TyOk Try.prog 178 { k := .func, size := 1, bytes := 8, zero := .nilFunc } :=
  ⟨⟨_, _, _, Try.underlying178⟩, by decide, by decide, by decide, by decide, by decide, ty_info (by kernel_rfl)⟩
theorem tyOk181 : TyOk Try.prog 181 { k := .func, size := 1, bytes := 8, zero := .nilFunc } :=
  ⟨⟨_, _, _, Try.underlying181⟩, by decide, by decide, by decide, by decide, by decide, ty_info (by kernel_rfl)⟩
theorem tyOk183 : TyOk Try.prog 183 { k := .func, size := 1, bytes := 8, zero := .nilFunc } :=
  ⟨⟨_, _, _, Try.underlying183⟩, by decide, by decide, by decide, by decide, by decide, ty_info (by kernel_rfl)⟩
theorem tyOk186 : TyOk Try.prog 186 { k := .func, size := 1, bytes := 8, zero := .nilFunc } :=
  ⟨⟨_, _, _, Try.underlying186⟩, by decide, by decide, by decide, by decide, by decide, ty_info (by kernel_rfl)⟩
theorem tyOk188 : TyOk Try.prog 188 { k := .func, size := 1, bytes := 8, zero := .nilFunc } :=
  ⟨⟨_, _, _, Try.underlying188⟩, by decide, by decide, by decide, by decide, by decide, ty_info (by kernel_rfl)⟩
theorem tyOk192 : TyOk Try.prog 192 { k := .func, size := 1, bytes := 8, zero := .nilFunc } :=
  ⟨⟨_, _, _, Try.underlying192⟩, by decide, by decide, by decide, by decide, by decide, ty_info (by kernel_rfl)⟩
theorem tyOk196 : TyOk Try.prog 196 { k := .func, size := 1, bytes := 8, zero := .nilFunc } :=
  ⟨⟨_, _, _, Try.underlying196⟩, by decide, by decide, by decide, by decide, by decide, ty_info (by kernel_rfl)⟩
theorem tyOk198 : TyOk Try.prog 198 { k := .func, size := 1, bytes := 8, zero := .nilFunc } :=
  ⟨⟨_, _, _, Try.underlying198⟩, by decide, by decide, by decide, by decide, by decide, ty_info (by kernel_rfl)⟩
theorem tyOk201 : TyOk Try.prog 201 { k := .func, size := 1, bytes := 8, zero := .nilFunc } :=
  ⟨⟨_, _, _, Try.underlying201⟩, by decide, by decide, by decide, by decide, by decide, ty_info (by kernel_rfl)⟩
theorem tyOk203 : TyOk Try.prog 203 { k := .func, size := 1, bytes := 8, zero := .nilFunc } :=
  ⟨⟨_, _, _, Try.underlying203⟩, by decide, by decide, by decide, by decide, by decide, ty_info (by kernel_rfl)⟩
theorem tyOk206 : TyOk Try.prog 206 { k := .func, size := 1, bytes := 8, zero := .nilFunc } :=
  ⟨⟨_, _, _, Try.underlying206⟩, by decide, by decide, by decide, by decide, by decide, ty_info (by kernel_rfl)⟩
theorem tyOk208 : TyOk Try.prog 208 { k := .func, size := 1, bytes := 8, zero := .nilFunc } :=
  ⟨⟨_, _, _, Try.underlying208⟩, by decide, by decide, by decide, by decide, by decide, ty_info (by kernel_rfl)⟩
theorem tyOk211 : TyOk Try.prog 211 { k := .func, size := 1, bytes := 8, zero := .nilFunc } :=
  ⟨⟨_, _, _, Try.underlying211⟩, by decide, by decide, by decide, by decide, by decide, ty_info (by kernel_rfl)⟩
theorem tyOk212 : TyOk Try.prog 212 { k := .ptr, size := 1, bytes := 8, zero := .pointer none } :=
  ⟨⟨_, Try.underlying212⟩, by decide, by decide, by decide, by decide, by decide, ty_info (by kernel_rfl)⟩
theorem tyOk215 : TyOk Try.prog 215 { k := .func, size := 1, bytes := 8, zero := .nilFunc } :=
  ⟨⟨_, _, _, Try.underlying215⟩, by decide, by decide, by decide, by decide, by decide, ty_info (by kernel_rfl)⟩
theorem tyOk216 : TyOk Try.prog 216 { k := .func, size := 1, bytes := 8, zero := .nilFunc } :=
  ⟨⟨_, _, _, Try.underlying216⟩, by decide, by decide, by decide, by decide, by decide, ty_info (by kernel_rfl)⟩
theorem tyOk218 : TyOk Try.prog 218 { k := .func, size := 1, bytes := 8, zero := .nilFunc } :=
  ⟨⟨_, _, _, Try.underlying218⟩, by decide, by decide, by decide, by decide, by decide, ty_info (by kernel_rfl)⟩
theorem tyOk219 : TyOk Try.prog 219 { k := .func, size := 1, bytes := 8, zero := .nilFunc } :=
  ⟨⟨_, _, _, Try.underlying219⟩, by decide, by decide, by decide, by decide, by decide, ty_info (by kernel_rfl)⟩
theorem tyOk220 : TyOk Try.prog 220 { k := .func, size := 1, bytes := 8, zero := .nilFunc } :=
  ⟨⟨_, _, _, Try.underlying220⟩, by decide, by decide, by decide, by decide, by decide, ty_info (by kernel_rfl)⟩
theorem tyOk221 : TyOk Try.prog 221 { k := .func, size := 1, bytes := 8, zero := .nilFunc } :=
  ⟨⟨_, _, _, Try.underlying221⟩, by decide, by decide, by decide, by decide, by decide, ty_info (by kernel_rfl)⟩
theorem tyOk224 : TyOk Try.prog 224 { k := .func, size := 1, bytes := 8, zero := .nilFunc } :=
  ⟨⟨_, _, _, Try.underlying224⟩, by decide, by decide, by decide, by decide, by decide, ty_info (by kernel_rfl)⟩
theorem tyOk225 : TyOk Try.prog 225 { k := .func, size := 1, bytes := 8, zero := .nilFunc } :=
  ⟨⟨_, _, _, Try.underlying225⟩, by decide, by decide, by decide, by decide, by decide, ty_info (by kernel_rfl)⟩
theorem tyOk226 : TyOk Try.prog 226 { k := .ptr, size := 1, bytes := 8, zero := .pointer none } :=
  ⟨⟨_, Try.underlying226⟩, by decide, by decide, by decide, by decide, by decide, ty_info (by kernel_rfl)⟩
theorem tyOk227 : TyOk Try.prog 227 { k := .func, size := 1, bytes := 8, zero := .nilFunc } :=
  ⟨⟨_, _, _, Try.underlying227⟩, by decide, by decide, by decide, by decide, by decide, ty_info (by kernel_rfl)⟩
theorem tyOk228 : TyOk Try.prog 228 { k := .func, size := 1, bytes := 8, zero := .nilFunc } :=
  ⟨⟨_, _, _, Try.underlying228⟩, by decide, by decide, by decide, by decide, by decide, ty_info (by kernel_rfl)⟩
theorem tyOk229 : TyOk Try.prog 229 { k := .func, size := 1, bytes := 8, zero := .nilFunc } :=
  ⟨⟨_, _, _, Try.underlying229⟩, by decide, by decide, by decide, by decide, by decide, ty_info (by kernel_rfl)⟩
theorem tyOk232 : TyOk Try.prog 232 { k := .func, size := 1, bytes := 8, zero := .nilFunc } :=
  ⟨⟨_, _, _, Try.underlying232⟩, by decide, by decide, by decide, by decide, by decide, ty_info (by kernel_rfl)⟩
theorem tyOk233 : TyOk Try.prog 233 { k := .func, size := 1, bytes := 8, zero := .nilFunc } :=
  ⟨⟨_, _, _, Try.underlying233⟩, by decide, by decide, by decide, by decide, by decide, ty_info (by kernel_rfl)⟩
theorem tyOk234 : TyOk Try.prog 234 { k := .func, size := 1, bytes := 8, zero := .nilFunc } :=
  ⟨⟨_, _, _, Try.underlying234⟩, by decide, by decide, by decide, by decide, by decide, ty_info (by kernel_rfl)⟩
theorem tyOk235 : TyOk Try.prog 235 { k := .func, size := 1, bytes := 8, zero := .nilFunc } :=
  ⟨⟨_, _, _, Try.underlying235⟩, by decide, by decide, by decide, by decide, by decide, ty_info (by kernel_rfl)⟩
theorem tyOk236 : TyOk Try.prog 236 { k := .func, size := 1, bytes := 8, zero := .nilFunc } :=
  ⟨⟨_, _, _, Try.underlying236⟩, by decide, by decide, by decide, by decide, by decide, ty_info (by kernel_rfl)⟩
theorem tyOk237 : TyOk Try.prog 237 { k := .func, size := 1, bytes := 8, zero := .nilFunc } :=
  ⟨⟨_, _, _, Try.underlying237⟩, by decide, by decide, by decide, by decide, by decide, ty_info (by kernel_rfl)⟩
theorem tyOk238 : TyOk Try.prog 238 { k := .func, size := 1, bytes := 8, zero := .nilFunc } :=
  ⟨⟨_, _, _, Try.underlying238⟩, by decide, by decide, by decide, by decide, by decide, ty_info (by kernel_rfl)⟩
theorem tyOk239 : TyOk Try.prog 239 { k := .func, size := 1, bytes := 8, zero := .nilFunc } :=
  ⟨⟨_, _, _, Try.underlying239⟩, by decide, by decide, by decide, by decide, by decide, ty_info (by kernel_rfl)⟩
theorem tyOk240 : TyOk Try.prog 240 { k := .func, size := 1, bytes := 8, zero := .nilFunc } :=
  ⟨⟨_, _, _, Try.underlying240⟩, by decide, by decide, by decide, by decide, by decide, ty_info (by kernel_rfl)⟩
theorem tyOk241 : TyOk Try.prog 241 { k := .func, size := 1, bytes := 8, zero := .nilFunc } :=
  ⟨⟨_, _, _, Try.underlying241⟩, by decide, by decide, by decide, by decide, by decide, ty_info (by kernel_rfl)⟩
theorem tyOk242 : TyOk Try.prog 242 { k := .func, size := 1, bytes := 8, zero := .nilFunc } :=
  ⟨⟨_, _, _, Try.underlying242⟩, by decide, by decide, by decide, by decide, by decide, ty_info (by kernel_rfl)⟩
theorem tyOk244 : TyOk Try.prog 244 { k := .func, size := 1, bytes := 8, zero := .nilFunc } :=
  ⟨⟨_, _, _, Try.underlying244⟩, by decide, by decide, by decide, by decide, by decide, ty_info (by kernel_rfl)⟩
theorem tyOk245 : TyOk Try.prog 245 { k := .func, size := 1, bytes := 8, zero := .nilFunc } :=
  ⟨⟨_, _, _, Try.underlying245⟩, by decide, by decide, by decide, by decide, by decide, ty_info (by kernel_rfl)⟩
theorem tyOk246 : TyOk Try.prog 246 { k := .func, size := 1, bytes := 8, zero := .nilFunc } :=
  ⟨⟨_, _, _, Try.underlying246⟩, by decide, by decide, by decide, by decide, by decide, ty_info (by kernel_rfl)⟩
theorem tyOk248 : TyOk Try.prog 248 { k := .func, size := 1, bytes := 8, zero := .nilFunc } :=
  ⟨⟨_, _, _, Try.underlying248⟩, by decide, by decide, by decide, by decide, by decide, ty_info (by kernel_rfl)⟩
theorem tyOk251 : TyOk Try.prog 251 { k := .func, size := 1, bytes := 8, zero := .nilFunc } :=
  ⟨⟨_, _, _, Try.underlying251⟩, by decide, by decide, by decide, by decide, by decide, ty_info (by kernel_rfl)⟩
theorem tyOk257 : TyOk Try.prog 257 { k := .func, size := 1, bytes := 8, zero := .nilFunc } :=
  ⟨⟨_, _, _, Try.underlying257⟩, by decide, by decide, by decide, by decide, by decide, ty_info (by kernel_rfl)⟩
theorem tyOk260 : TyOk Try.prog 260 { k := .func, size := 1, bytes := 8, zero := .nilFunc } :=
  ⟨⟨_, _, _, Try.underlying260⟩, by decide, by decide, by decide, by decide, by decide, ty_info (by kernel_rfl)⟩
theorem tyOk265 : TyOk Try.prog 265 { k := .func, size := 1, bytes := 8, zero := .nilFunc } :=
  ⟨⟨_, _, _, Try.underlying265⟩, by decide, by decide, by decide, by decide, by decide, ty_info (by kernel_rfl)⟩
def TabOk (P : Program) : List (Nat × TyI) → Prop
  | [] => True
  | p :: r => TyOk P p.1 p.2 ∧ TabOk P r
theorem TabOk.mem {P : Program} : ∀ {l : List (Nat × TyI)}, TabOk P l → ∀ {p : Nat × TyI}, p ∈ l → TyOk P p.1 p.2
  | [], _, p, h => by cases h
  | q :: r, hl, p, h => by
    rcases List.mem_cons.1 h with rfl | h
    · exact hl.1
    · exact TabOk.mem hl.2 h
set_option maxHeartbeats 4000000 in
theorem tyTab_ok : TabOk Try.prog tyTab :=
  ⟨tyOk2, tyOk3, tyOk4, tyOk5, tyOk6, tyOk7, tyOk8, tyOk9, tyOk10, tyOk11, tyOk12, tyOk13, tyOk14, tyOk18, tyOk19, tyOk21, tyOk22, tyOk23, tyOk33, tyOk38, tyOk39, tyOk41, tyOk44, tyOk45, tyOk46, tyOk48, tyOk51, tyOk52, tyOk56, tyOk57, tyOk58, tyOk59, tyOk60, tyOk61, tyOk62, tyOk63, tyOk64, tyOk65, tyOk66, tyOk67, tyOk68, tyOk69, tyOk70, tyOk71, tyOk72, tyOk73, tyOk74, tyOk75, tyOk76, tyOk77, tyOk78, tyOk79, tyOk82, tyOk83, tyOk85, tyOk86, tyOk87, tyOk90, tyOk91, tyOk93, tyOk96, tyOk97, tyOk98, tyOk99, tyOk100, tyOk105, tyOk108, tyOk109, tyOk110, tyOk113, tyOk114, tyOk115, tyOk116, tyOk118, tyOk126, tyOk127, tyOk138, tyOk139, tyOk140, tyOk148, tyOk154, tyOk155, tyOk158, tyOk159, tyOk162, tyOk163, tyOk164, tyOk169, tyOk170, tyOk174, tyOk175, tyOk179, tyOk180, tyOk184, tyOk185, tyOk189, tyOk190, tyOk193, tyOk194, tyOk199, tyOk200, tyOk204, tyOk205, tyOk209, tyOk210, tyOk213, tyOk214, tyOk222, tyOk223, tyOk230, tyOk231, tyOk247, tyOk249, tyOk252, tyOk253, tyOk258, tyOk259, tyOk261, tyOk262, tyOk263, tyOk264, tyOk267, tyOk1, tyOk15, tyOk16, tyOk17, tyOk20, tyOk25, tyOk27, tyOk28, tyOk29, tyOk31, tyOk32, tyOk34, tyOk35, tyOk36, tyOk37, tyOk40, tyOk43, tyOk47, tyOk50, tyOk53, tyOk55, tyOk81, tyOk84, tyOk89, tyOk92, tyOk95, tyOk102, tyOk104, tyOk107, tyOk112, tyOk120, tyOk121, tyOk123, tyOk124, tyOk125, tyOk129, tyOk131, tyOk132, tyOk133, tyOk134, tyOk135, tyOk136, tyOk137, tyOk141, tyOk142, tyOk144, tyOk145, tyOk146, tyOk147, tyOk149, tyOk150, tyOk151, tyOk153, tyOk156, tyOk157, tyOk161, tyOk165, tyOk168, tyOk171, tyOk173, tyOk176, tyOk178, tyOk181, tyOk183, tyOk186, tyOk188, tyOk192, tyOk196, tyOk198, tyOk201, tyOk203, tyOk206, tyOk208, tyOk211, tyOk212, tyOk215, tyOk216, tyOk218, tyOk219, tyOk220, tyOk221, tyOk224, tyOk225, tyOk226, tyOk227, tyOk228, tyOk229, tyOk232, tyOk233, tyOk234, tyOk235, tyOk236, tyOk237, tyOk238, tyOk239, tyOk240, tyOk241, tyOk242, tyOk244, tyOk245, tyOk246, tyOk248, tyOk251, tyOk257, tyOk260, tyOk265, trivial⟩
theorem tyT_all (t : TypeId) : TyOk Try.prog t (tyT t) := by
  unfold tyT
  split
  · rename_i i h
    exact tyTab_ok.mem (findB_mem h)
  · trivial
/-- Struct types of plain fields. -/
def seTab : List Nat := [39, 97, 109, 114, 127, 159, 190, 194]
def seB (t : TypeId) : Bool := elemB seTab t
def SeOk (P : Program) : List Nat → Prop
  | [] => True
  | t :: r => SOk P t ∧ SeOk P r
theorem SeOk.mem {P : Program} : ∀ {l : List Nat}, SeOk P l → ∀ {t : Nat}, elemB l t = true → SOk P t
  | [], _, t, h => by cases h
  | q :: r, hl, t, h => by
    unfold elemB at h
    split at h
    · rename_i e
      rw [Nat.eq_of_beq_eq_true e]
      exact hl.1
    · exact SeOk.mem hl.2 h
theorem seTab_ok : SeOk Try.prog seTab := ⟨⟨Try.stoodInHeld39, Try.eqGuardType39, by kernel_rfl⟩, ⟨Try.stoodInHeld97, Try.eqGuardType97, by kernel_rfl⟩, ⟨Try.stoodInHeld109, Try.eqGuardType109, by kernel_rfl⟩, ⟨Try.stoodInHeld114, Try.eqGuardType114, by kernel_rfl⟩, ⟨Try.stoodInHeld127, Try.eqGuardType127, by kernel_rfl⟩, ⟨Try.stoodInHeld159, Try.eqGuardType159, by kernel_rfl⟩, ⟨Try.stoodInHeld190, Try.eqGuardType190, by kernel_rfl⟩, ⟨Try.stoodInHeld194, Try.eqGuardType194, by kernel_rfl⟩, trivial⟩
/-- What the program says of its types. -/
structure TyS (P : Program) : Prop where
  ty : ∀ t, TyOk P t (tyT t)
  se : ∀ t, seB t = true → SOk P t
theorem tyT_ok : TyS Try.prog := ⟨tyT_all, fun _ h => seTab_ok.mem h⟩
end Go.Proofs.Ytdmbodlkkdeaoaa
