/-
  The table of this program's types that the readings know, each entry proved. Written by a program.
-/
import Derived.Test.YtocehfhhmljejaaGreatDoorN17
import Derived.Test.YtocehfhhmljejaaGreatDoorProg
namespace Go.Proofs.YtocehfhhmljejaaGreatDoor
open Go.RowKit
set_option maxRecDepth 100000

def tyTab : List (Nat × TyI) :=
  [(2, { k := .int .i64, size := 1, bytes := 8, zero := .int .i64 0 }),
   (3, { k := .int .i64, size := 1, bytes := 8, zero := .int .i64 0 }),
   (4, { k := .bool, size := 1, bytes := 1, zero := .bool false }),
   (5, { k := .int .u8, size := 1, bytes := 1, zero := .int .u8 0 }),
   (6, { k := .int .u8, size := 1, bytes := 1, zero := .int .u8 0 }),
   (7, { k := .struct [(2, 0), (3, 1), (4, 2), (6, 3)], size := 4, bytes := 24, zero := .agg #[.int .i64 0, .int .i64 0, .bool false, .int .u8 0] }),
   (8, { k := .struct [(2, 0), (3, 1), (4, 2), (6, 3)], size := 4, bytes := 24, zero := .agg #[.int .i64 0, .int .i64 0, .bool false, .int .u8 0] }),
   (9, { k := .str, size := 1, bytes := 16, zero := .string ⟨#[]⟩ }),
   (10, { k := .str, size := 1, bytes := 16, zero := .string ⟨#[]⟩ }),
   (11, { k := .str, size := 1, bytes := 16, zero := .string ⟨#[]⟩ }),
   (12, { k := .int .u64, size := 1, bytes := 8, zero := .int .u64 0 }),
   (13, { k := .struct [(9, 0), (12, 1)], size := 2, bytes := 24, zero := .agg #[.string ⟨#[]⟩, .int .u64 0] }),
   (14, { k := .struct [(9, 0), (12, 1)], size := 2, bytes := 24, zero := .agg #[.string ⟨#[]⟩, .int .u64 0] }),
   (18, { k := .struct [(17, 0)], size := 1, bytes := 8, zero := .agg #[.pointer none] }),
   (19, { k := .struct [(17, 0)], size := 1, bytes := 8, zero := .agg #[.pointer none] }),
   (21, { k := .int .i32, size := 1, bytes := 4, zero := .int .i32 0 }),
   (22, { k := .sl 25, size := 1, bytes := 24, zero := .slice none 0 0 }),
   (23, { k := .sl 9, size := 1, bytes := 24, zero := .slice none 0 0 }),
   (24, { k := .struct [(3, 0), (4, 1), (3, 2), (9, 3), (22, 4), (23, 5)], size := 6, bytes := 88, zero := .agg #[.int .i64 0, .bool false, .int .i64 0, .string ⟨#[]⟩, .slice none 0 0, .slice none 0 0] }),
   (25, { k := .struct [(3, 0), (4, 1), (3, 2), (9, 3), (22, 4), (23, 5)], size := 6, bytes := 88, zero := .agg #[.int .i64 0, .bool false, .int .i64 0, .string ⟨#[]⟩, .slice none 0 0, .slice none 0 0] }),
   (26, { k := .sl 75, size := 1, bytes := 24, zero := .slice none 0 0 }),
   (27, { k := .int .i64, size := 1, bytes := 8, zero := .int .i64 0 }),
   (34, { k := .struct [(26, 0), (26, 1)], size := 2, bytes := 48, zero := .agg #[.slice none 0 0, .slice none 0 0] }),
   (35, { k := .struct [(26, 0), (26, 1)], size := 2, bytes := 48, zero := .agg #[.slice none 0 0, .slice none 0 0] }),
   (41, { k := .sl 45, size := 1, bytes := 24, zero := .slice none 0 0 }),
   (44, { k := .struct [(9, 0), (25, 1)], size := 7, bytes := 104, zero := .agg #[.string ⟨#[]⟩, .int .i64 0, .bool false, .int .i64 0, .string ⟨#[]⟩, .slice none 0 0, .slice none 0 0] }),
   (45, { k := .struct [(9, 0), (25, 1)], size := 7, bytes := 104, zero := .agg #[.string ⟨#[]⟩, .int .i64 0, .bool false, .int .i64 0, .string ⟨#[]⟩, .slice none 0 0, .slice none 0 0] }),
   (49, { k := .sl 130, size := 1, bytes := 24, zero := .slice none 0 0 }),
   (50, { k := .struct [(49, 0)], size := 1, bytes := 24, zero := .agg #[.slice none 0 0] }),
   (51, { k := .struct [(49, 0)], size := 1, bytes := 24, zero := .agg #[.slice none 0 0] }),
   (52, { k := .sl 134, size := 1, bytes := 24, zero := .slice none 0 0 }),
   (53, { k := .struct [(9, 0), (9, 1), (51, 2), (9, 3), (9, 4), (23, 5), (23, 6), (23, 7), (52, 8)], size := 9, bytes := 184, zero := .agg #[.string ⟨#[]⟩, .string ⟨#[]⟩, .slice none 0 0, .string ⟨#[]⟩, .string ⟨#[]⟩, .slice none 0 0, .slice none 0 0, .slice none 0 0, .slice none 0 0] }),
   (54, { k := .struct [(9, 0), (9, 1), (51, 2), (9, 3), (9, 4), (23, 5), (23, 6), (23, 7), (52, 8)], size := 9, bytes := 184, zero := .agg #[.string ⟨#[]⟩, .string ⟨#[]⟩, .slice none 0 0, .string ⟨#[]⟩, .string ⟨#[]⟩, .slice none 0 0, .slice none 0 0, .slice none 0 0, .slice none 0 0] }),
   (55, { k := .sl 139, size := 1, bytes := 24, zero := .slice none 0 0 }),
   (56, { k := .struct [(55, 0)], size := 1, bytes := 24, zero := .agg #[.slice none 0 0] }),
   (57, { k := .struct [(55, 0)], size := 1, bytes := 24, zero := .agg #[.slice none 0 0] }),
   (58, { k := .sl 145, size := 1, bytes := 24, zero := .slice none 0 0 }),
   (59, { k := .sl 150, size := 1, bytes := 24, zero := .slice none 0 0 }),
   (60, { k := .sl 155, size := 1, bytes := 24, zero := .slice none 0 0 }),
   (61, { k := .struct [(23, 0), (60, 1)], size := 2, bytes := 48, zero := .agg #[.slice none 0 0, .slice none 0 0] }),
   (62, { k := .struct [(23, 0), (60, 1)], size := 2, bytes := 48, zero := .agg #[.slice none 0 0, .slice none 0 0] }),
   (63, { k := .sl 160, size := 1, bytes := 24, zero := .slice none 0 0 }),
   (64, { k := .sl 165, size := 1, bytes := 24, zero := .slice none 0 0 }),
   (65, { k := .sl 169, size := 1, bytes := 24, zero := .slice none 0 0 }),
   (66, { k := .sl 68, size := 1, bytes := 24, zero := .slice none 0 0 }),
   (67, { k := .struct [(3, 0), (9, 1), (25, 2), (66, 8)], size := 9, bytes := 136, zero := .agg #[.int .i64 0, .string ⟨#[]⟩, .int .i64 0, .bool false, .int .i64 0, .string ⟨#[]⟩, .slice none 0 0, .slice none 0 0, .slice none 0 0] }),
   (68, { k := .struct [(3, 0), (9, 1), (25, 2), (66, 8)], size := 9, bytes := 136, zero := .agg #[.int .i64 0, .string ⟨#[]⟩, .int .i64 0, .bool false, .int .i64 0, .string ⟨#[]⟩, .slice none 0 0, .slice none 0 0, .slice none 0 0] }),
   (69, { k := .sl 175, size := 1, bytes := 24, zero := .slice none 0 0 }),
   (70, { k := .sl 180, size := 1, bytes := 24, zero := .slice none 0 0 }),
   (71, { k := .sl 185, size := 1, bytes := 24, zero := .slice none 0 0 }),
   (74, { k := .struct [(9, 0), (25, 1), (4, 7)], size := 8, bytes := 112, zero := .agg #[.string ⟨#[]⟩, .int .i64 0, .bool false, .int .i64 0, .string ⟨#[]⟩, .slice none 0 0, .slice none 0 0, .bool false] }),
   (75, { k := .struct [(9, 0), (25, 1), (4, 7)], size := 8, bytes := 112, zero := .agg #[.string ⟨#[]⟩, .int .i64 0, .bool false, .int .i64 0, .string ⟨#[]⟩, .slice none 0 0, .slice none 0 0, .bool false] }),
   (77, { k := .sl 83, size := 1, bytes := 24, zero := .slice none 0 0 }),
   (78, { k := .struct [(77, 0), (4, 1)], size := 2, bytes := 32, zero := .agg #[.slice none 0 0, .bool false] }),
   (79, { k := .struct [(77, 0), (4, 1)], size := 2, bytes := 32, zero := .agg #[.slice none 0 0, .bool false] }),
   (82, { k := .struct [(9, 0), (3, 1), (4, 2), (4, 3), (3, 4), (3, 5), (23, 6), (25, 7)], size := 13, bytes := 160, zero := .agg #[.string ⟨#[]⟩, .int .i64 0, .bool false, .bool false, .int .i64 0, .int .i64 0, .slice none 0 0, .int .i64 0, .bool false, .int .i64 0, .string ⟨#[]⟩, .slice none 0 0, .slice none 0 0] }),
   (83, { k := .struct [(9, 0), (3, 1), (4, 2), (4, 3), (3, 4), (3, 5), (23, 6), (25, 7)], size := 13, bytes := 160, zero := .agg #[.string ⟨#[]⟩, .int .i64 0, .bool false, .bool false, .int .i64 0, .int .i64 0, .slice none 0 0, .int .i64 0, .bool false, .int .i64 0, .string ⟨#[]⟩, .slice none 0 0, .slice none 0 0] }),
   (85, { k := .sl 89, size := 1, bytes := 24, zero := .slice none 0 0 }),
   (88, { k := .struct [(9, 0), (3, 1)], size := 2, bytes := 24, zero := .agg #[.string ⟨#[]⟩, .int .i64 0] }),
   (89, { k := .struct [(9, 0), (3, 1)], size := 2, bytes := 24, zero := .agg #[.string ⟨#[]⟩, .int .i64 0] }),
   (90, { k := .sl 3, size := 1, bytes := 24, zero := .slice none 0 0 }),
   (91, { k := .struct [(9, 0), (23, 1), (90, 2)], size := 3, bytes := 64, zero := .agg #[.string ⟨#[]⟩, .slice none 0 0, .slice none 0 0] }),
   (92, { k := .struct [(9, 0), (23, 1), (90, 2)], size := 3, bytes := 64, zero := .agg #[.string ⟨#[]⟩, .slice none 0 0, .slice none 0 0] }),
   (95, { k := .sl 99, size := 1, bytes := 24, zero := .slice none 0 0 }),
   (98, { k := .struct [(3, 0), (9, 1)], size := 2, bytes := 24, zero := .agg #[.int .i64 0, .string ⟨#[]⟩] }),
   (99, { k := .struct [(3, 0), (9, 1)], size := 2, bytes := 24, zero := .agg #[.int .i64 0, .string ⟨#[]⟩] }),
   (100, { k := .sl 104, size := 1, bytes := 24, zero := .slice none 0 0 }),
   (103, { k := .struct [(3, 0), (3, 1), (9, 2)], size := 3, bytes := 32, zero := .agg #[.int .i64 0, .int .i64 0, .string ⟨#[]⟩] }),
   (104, { k := .struct [(3, 0), (3, 1), (9, 2)], size := 3, bytes := 32, zero := .agg #[.int .i64 0, .int .i64 0, .string ⟨#[]⟩] }),
   (105, { k := .sl 109, size := 1, bytes := 24, zero := .slice none 0 0 }),
   (108, { k := .struct [(9, 0), (9, 1), (9, 2)], size := 3, bytes := 48, zero := .agg #[.string ⟨#[]⟩, .string ⟨#[]⟩, .string ⟨#[]⟩] }),
   (109, { k := .struct [(9, 0), (9, 1), (9, 2)], size := 3, bytes := 48, zero := .agg #[.string ⟨#[]⟩, .string ⟨#[]⟩, .string ⟨#[]⟩] }),
   (110, { k := .struct [(3, 0), (3, 1), (90, 2)], size := 3, bytes := 40, zero := .agg #[.int .i64 0, .int .i64 0, .slice none 0 0] }),
   (111, { k := .struct [(3, 0), (3, 1), (90, 2)], size := 3, bytes := 40, zero := .agg #[.int .i64 0, .int .i64 0, .slice none 0 0] }),
   (129, { k := .struct [(3, 0), (3, 1), (3, 2), (3, 3), (49, 4)], size := 5, bytes := 56, zero := .agg #[.int .i64 0, .int .i64 0, .int .i64 0, .int .i64 0, .slice none 0 0] }),
   (130, { k := .struct [(3, 0), (3, 1), (3, 2), (3, 3), (49, 4)], size := 5, bytes := 56, zero := .agg #[.int .i64 0, .int .i64 0, .int .i64 0, .int .i64 0, .slice none 0 0] }),
   (133, { k := .struct [(9, 0), (9, 1)], size := 2, bytes := 32, zero := .agg #[.string ⟨#[]⟩, .string ⟨#[]⟩] }),
   (134, { k := .struct [(9, 0), (9, 1)], size := 2, bytes := 32, zero := .agg #[.string ⟨#[]⟩, .string ⟨#[]⟩] }),
   (137, { k := .sl 196, size := 1, bytes := 24, zero := .slice none 0 0 }),
   (138, { k := .struct [(3, 0), (9, 1), (137, 2)], size := 3, bytes := 48, zero := .agg #[.int .i64 0, .string ⟨#[]⟩, .slice none 0 0] }),
   (139, { k := .struct [(3, 0), (9, 1), (137, 2)], size := 3, bytes := 48, zero := .agg #[.int .i64 0, .string ⟨#[]⟩, .slice none 0 0] }),
   (144, { k := .struct [(9, 0), (90, 1)], size := 2, bytes := 40, zero := .agg #[.string ⟨#[]⟩, .slice none 0 0] }),
   (145, { k := .struct [(9, 0), (90, 1)], size := 2, bytes := 40, zero := .agg #[.string ⟨#[]⟩, .slice none 0 0] }),
   (149, { k := .struct [(9, 0), (9, 1), (9, 2), (3, 3), (25, 4), (9, 10)], size := 11, bytes := 160, zero := .agg #[.string ⟨#[]⟩, .string ⟨#[]⟩, .string ⟨#[]⟩, .int .i64 0, .int .i64 0, .bool false, .int .i64 0, .string ⟨#[]⟩, .slice none 0 0, .slice none 0 0, .string ⟨#[]⟩] }),
   (150, { k := .struct [(9, 0), (9, 1), (9, 2), (3, 3), (25, 4), (9, 10)], size := 11, bytes := 160, zero := .agg #[.string ⟨#[]⟩, .string ⟨#[]⟩, .string ⟨#[]⟩, .int .i64 0, .int .i64 0, .bool false, .int .i64 0, .string ⟨#[]⟩, .slice none 0 0, .slice none 0 0, .string ⟨#[]⟩] }),
   (154, { k := .struct [(9, 0), (9, 1), (9, 2), (9, 3), (3, 4), (25, 5), (9, 11), (23, 12)], size := 13, bytes := 200, zero := .agg #[.string ⟨#[]⟩, .string ⟨#[]⟩, .string ⟨#[]⟩, .string ⟨#[]⟩, .int .i64 0, .int .i64 0, .bool false, .int .i64 0, .string ⟨#[]⟩, .slice none 0 0, .slice none 0 0, .string ⟨#[]⟩, .slice none 0 0] }),
   (155, { k := .struct [(9, 0), (9, 1), (9, 2), (9, 3), (3, 4), (25, 5), (9, 11), (23, 12)], size := 13, bytes := 200, zero := .agg #[.string ⟨#[]⟩, .string ⟨#[]⟩, .string ⟨#[]⟩, .string ⟨#[]⟩, .int .i64 0, .int .i64 0, .bool false, .int .i64 0, .string ⟨#[]⟩, .slice none 0 0, .slice none 0 0, .string ⟨#[]⟩, .slice none 0 0] }),
   (159, { k := .struct [(9, 0), (9, 1), (9, 2), (63, 3)], size := 4, bytes := 72, zero := .agg #[.string ⟨#[]⟩, .string ⟨#[]⟩, .string ⟨#[]⟩, .slice none 0 0] }),
   (160, { k := .struct [(9, 0), (9, 1), (9, 2), (63, 3)], size := 4, bytes := 72, zero := .agg #[.string ⟨#[]⟩, .string ⟨#[]⟩, .string ⟨#[]⟩, .slice none 0 0] }),
   (164, { k := .struct [(9, 0), (9, 1)], size := 2, bytes := 32, zero := .agg #[.string ⟨#[]⟩, .string ⟨#[]⟩] }),
   (165, { k := .struct [(9, 0), (9, 1)], size := 2, bytes := 32, zero := .agg #[.string ⟨#[]⟩, .string ⟨#[]⟩] }),
   (168, { k := .struct [(9, 0), (3, 1), (9, 2)], size := 3, bytes := 40, zero := .agg #[.string ⟨#[]⟩, .int .i64 0, .string ⟨#[]⟩] }),
   (169, { k := .struct [(9, 0), (3, 1), (9, 2)], size := 3, bytes := 40, zero := .agg #[.string ⟨#[]⟩, .int .i64 0, .string ⟨#[]⟩] }),
   (174, { k := .struct [(25, 0), (90, 6)], size := 7, bytes := 112, zero := .agg #[.int .i64 0, .bool false, .int .i64 0, .string ⟨#[]⟩, .slice none 0 0, .slice none 0 0, .slice none 0 0] }),
   (175, { k := .struct [(25, 0), (90, 6)], size := 7, bytes := 112, zero := .agg #[.int .i64 0, .bool false, .int .i64 0, .string ⟨#[]⟩, .slice none 0 0, .slice none 0 0, .slice none 0 0] }),
   (179, { k := .struct [(3, 0), (3, 1), (90, 2)], size := 3, bytes := 40, zero := .agg #[.int .i64 0, .int .i64 0, .slice none 0 0] }),
   (180, { k := .struct [(3, 0), (3, 1), (90, 2)], size := 3, bytes := 40, zero := .agg #[.int .i64 0, .int .i64 0, .slice none 0 0] }),
   (184, { k := .struct [(9, 0), (9, 1), (90, 2)], size := 3, bytes := 56, zero := .agg #[.string ⟨#[]⟩, .string ⟨#[]⟩, .slice none 0 0] }),
   (185, { k := .struct [(9, 0), (9, 1), (90, 2)], size := 3, bytes := 56, zero := .agg #[.string ⟨#[]⟩, .string ⟨#[]⟩, .slice none 0 0] }),
   (192, { k := .sl 23, size := 1, bytes := 24, zero := .slice none 0 0 }),
   (195, { k := .struct [(9, 0), (3, 1), (3, 2), (55, 3)], size := 4, bytes := 56, zero := .agg #[.string ⟨#[]⟩, .int .i64 0, .int .i64 0, .slice none 0 0] }),
   (196, { k := .struct [(9, 0), (3, 1), (3, 2), (55, 3)], size := 4, bytes := 56, zero := .agg #[.string ⟨#[]⟩, .int .i64 0, .int .i64 0, .slice none 0 0] }),
   (207, { k := .int .u64, size := 1, bytes := 8, zero := .int .u64 0 }),
   (217, { k := .int .i64, size := 1, bytes := 8, zero := .int .i64 0 }),
   (225, { k := .int .u32, size := 1, bytes := 4, zero := .int .u32 0 }),
   (227, { k := .int .u64, size := 1, bytes := 8, zero := .int .u64 0 }),
   (231, { k := .int .u64, size := 1, bytes := 8, zero := .int .u64 0 }),
   (242, { k := .struct [(5, 0), (5, 1)], size := 2, bytes := 2, zero := .agg #[.int .u8 0, .int .u8 0] }),
   (243, { k := .struct [(5, 0), (5, 1)], size := 2, bytes := 2, zero := .agg #[.int .u8 0, .int .u8 0] }),
   (244, { k := .arr 16 243, size := 32, bytes := 32, zero := .agg #[.int .u8 0, .int .u8 0, .int .u8 0, .int .u8 0, .int .u8 0, .int .u8 0, .int .u8 0, .int .u8 0, .int .u8 0, .int .u8 0, .int .u8 0, .int .u8 0, .int .u8 0, .int .u8 0, .int .u8 0, .int .u8 0, .int .u8 0, .int .u8 0, .int .u8 0, .int .u8 0, .int .u8 0, .int .u8 0, .int .u8 0, .int .u8 0, .int .u8 0, .int .u8 0, .int .u8 0, .int .u8 0, .int .u8 0, .int .u8 0, .int .u8 0, .int .u8 0] }),
   (249, { k := .struct [(17, 0), (17, 1), (17, 2), (9, 3)], size := 4, bytes := 40, zero := .agg #[.pointer none, .pointer none, .pointer none, .string ⟨#[]⟩] }),
   (250, { k := .struct [(17, 0), (17, 1), (17, 2), (9, 3)], size := 4, bytes := 40, zero := .agg #[.pointer none, .pointer none, .pointer none, .string ⟨#[]⟩] }),
   (255, { k := .int .u8, size := 1, bytes := 1, zero := .int .u8 0 }),
   (256, { k := .int .u8, size := 1, bytes := 1, zero := .int .u8 0 }),
   (259, { k := .int .i32, size := 1, bytes := 4, zero := .int .i32 0 }),
   (260, { k := .int .i32, size := 1, bytes := 4, zero := .int .i32 0 }),
   (261, { k := .struct [(12, 0), (12, 1), (225, 2), (255, 3), (5, 4), (5, 5), (256, 6), (257, 7), (258, 8), (259, 9), (260, 10)], size := 11, bytes := 48, zero := .agg #[.int .u64 0, .int .u64 0, .int .u32 0, .int .u8 0, .int .u8 0, .int .u8 0, .int .u8 0, .nilFunc, .pointer none, .int .i32 0, .int .i32 0] }),
   (262, { k := .struct [(12, 0), (12, 1), (225, 2), (255, 3), (5, 4), (5, 5), (256, 6), (257, 7), (258, 8), (259, 9), (260, 10)], size := 11, bytes := 48, zero := .agg #[.int .u64 0, .int .u64 0, .int .u32 0, .int .u8 0, .int .u8 0, .int .u8 0, .int .u8 0, .nilFunc, .pointer none, .int .i32 0, .int .i32 0] }),
   (266, { k := .arr 2 9, size := 2, bytes := 32, zero := .agg #[.string ⟨#[]⟩, .string ⟨#[]⟩] }),
   (1, { k := .func, size := 1, bytes := 8, zero := .nilFunc }),
   (15, { k := .ptr, size := 1, bytes := 8, zero := .pointer none }),
   (16, { k := .ptr, size := 1, bytes := 8, zero := .pointer none }),
   (17, { k := .ptr, size := 1, bytes := 8, zero := .pointer none }),
   (20, { k := .ifc, size := 1, bytes := 16, zero := .nilIface }),
   (29, { k := .func, size := 1, bytes := 8, zero := .nilFunc }),
   (30, { k := .func, size := 1, bytes := 8, zero := .nilFunc }),
   (31, { k := .func, size := 1, bytes := 8, zero := .nilFunc }),
   (32, { k := .func, size := 1, bytes := 8, zero := .nilFunc }),
   (33, { k := .ptr, size := 1, bytes := 8, zero := .pointer none }),
   (36, { k := .func, size := 1, bytes := 8, zero := .nilFunc }),
   (38, { k := .func, size := 1, bytes := 8, zero := .nilFunc }),
   (40, { k := .func, size := 1, bytes := 8, zero := .nilFunc }),
   (43, { k := .func, size := 1, bytes := 8, zero := .nilFunc }),
   (46, { k := .func, size := 1, bytes := 8, zero := .nilFunc }),
   (48, { k := .func, size := 1, bytes := 8, zero := .nilFunc }),
   (73, { k := .func, size := 1, bytes := 8, zero := .nilFunc }),
   (76, { k := .func, size := 1, bytes := 8, zero := .nilFunc }),
   (81, { k := .func, size := 1, bytes := 8, zero := .nilFunc }),
   (84, { k := .func, size := 1, bytes := 8, zero := .nilFunc }),
   (87, { k := .func, size := 1, bytes := 8, zero := .nilFunc }),
   (94, { k := .func, size := 1, bytes := 8, zero := .nilFunc }),
   (97, { k := .func, size := 1, bytes := 8, zero := .nilFunc }),
   (102, { k := .func, size := 1, bytes := 8, zero := .nilFunc }),
   (107, { k := .func, size := 1, bytes := 8, zero := .nilFunc }),
   (113, { k := .func, size := 1, bytes := 8, zero := .nilFunc }),
   (114, { k := .func, size := 1, bytes := 8, zero := .nilFunc }),
   (115, { k := .func, size := 1, bytes := 8, zero := .nilFunc }),
   (116, { k := .func, size := 1, bytes := 8, zero := .nilFunc }),
   (118, { k := .func, size := 1, bytes := 8, zero := .nilFunc }),
   (119, { k := .func, size := 1, bytes := 8, zero := .nilFunc }),
   (120, { k := .func, size := 1, bytes := 8, zero := .nilFunc }),
   (121, { k := .func, size := 1, bytes := 8, zero := .nilFunc }),
   (122, { k := .func, size := 1, bytes := 8, zero := .nilFunc }),
   (123, { k := .func, size := 1, bytes := 8, zero := .nilFunc }),
   (124, { k := .func, size := 1, bytes := 8, zero := .nilFunc }),
   (125, { k := .func, size := 1, bytes := 8, zero := .nilFunc }),
   (126, { k := .func, size := 1, bytes := 8, zero := .nilFunc }),
   (128, { k := .func, size := 1, bytes := 8, zero := .nilFunc }),
   (131, { k := .func, size := 1, bytes := 8, zero := .nilFunc }),
   (132, { k := .func, size := 1, bytes := 8, zero := .nilFunc }),
   (136, { k := .func, size := 1, bytes := 8, zero := .nilFunc }),
   (140, { k := .func, size := 1, bytes := 8, zero := .nilFunc }),
   (143, { k := .func, size := 1, bytes := 8, zero := .nilFunc }),
   (146, { k := .func, size := 1, bytes := 8, zero := .nilFunc }),
   (148, { k := .func, size := 1, bytes := 8, zero := .nilFunc }),
   (151, { k := .func, size := 1, bytes := 8, zero := .nilFunc }),
   (153, { k := .func, size := 1, bytes := 8, zero := .nilFunc }),
   (156, { k := .func, size := 1, bytes := 8, zero := .nilFunc }),
   (158, { k := .func, size := 1, bytes := 8, zero := .nilFunc }),
   (161, { k := .func, size := 1, bytes := 8, zero := .nilFunc }),
   (163, { k := .func, size := 1, bytes := 8, zero := .nilFunc }),
   (167, { k := .func, size := 1, bytes := 8, zero := .nilFunc }),
   (171, { k := .func, size := 1, bytes := 8, zero := .nilFunc }),
   (173, { k := .func, size := 1, bytes := 8, zero := .nilFunc }),
   (176, { k := .func, size := 1, bytes := 8, zero := .nilFunc }),
   (178, { k := .func, size := 1, bytes := 8, zero := .nilFunc }),
   (181, { k := .func, size := 1, bytes := 8, zero := .nilFunc }),
   (183, { k := .func, size := 1, bytes := 8, zero := .nilFunc }),
   (186, { k := .func, size := 1, bytes := 8, zero := .nilFunc }),
   (187, { k := .func, size := 1, bytes := 8, zero := .nilFunc }),
   (188, { k := .func, size := 1, bytes := 8, zero := .nilFunc }),
   (189, { k := .func, size := 1, bytes := 8, zero := .nilFunc }),
   (190, { k := .func, size := 1, bytes := 8, zero := .nilFunc }),
   (191, { k := .func, size := 1, bytes := 8, zero := .nilFunc }),
   (193, { k := .func, size := 1, bytes := 8, zero := .nilFunc }),
   (194, { k := .func, size := 1, bytes := 8, zero := .nilFunc }),
   (197, { k := .func, size := 1, bytes := 8, zero := .nilFunc }),
   (198, { k := .func, size := 1, bytes := 8, zero := .nilFunc }),
   (199, { k := .func, size := 1, bytes := 8, zero := .nilFunc }),
   (200, { k := .func, size := 1, bytes := 8, zero := .nilFunc }),
   (201, { k := .func, size := 1, bytes := 8, zero := .nilFunc }),
   (202, { k := .func, size := 1, bytes := 8, zero := .nilFunc }),
   (203, { k := .func, size := 1, bytes := 8, zero := .nilFunc }),
   (204, { k := .func, size := 1, bytes := 8, zero := .nilFunc }),
   (205, { k := .func, size := 1, bytes := 8, zero := .nilFunc }),
   (206, { k := .func, size := 1, bytes := 8, zero := .nilFunc }),
   (208, { k := .func, size := 1, bytes := 8, zero := .nilFunc }),
   (209, { k := .func, size := 1, bytes := 8, zero := .nilFunc }),
   (213, { k := .func, size := 1, bytes := 8, zero := .nilFunc }),
   (214, { k := .func, size := 1, bytes := 8, zero := .nilFunc }),
   (215, { k := .ptr, size := 1, bytes := 8, zero := .pointer none }),
   (216, { k := .func, size := 1, bytes := 8, zero := .nilFunc }),
   (219, { k := .func, size := 1, bytes := 8, zero := .nilFunc }),
   (220, { k := .func, size := 1, bytes := 8, zero := .nilFunc }),
   (221, { k := .func, size := 1, bytes := 8, zero := .nilFunc }),
   (222, { k := .func, size := 1, bytes := 8, zero := .nilFunc }),
   (223, { k := .func, size := 1, bytes := 8, zero := .nilFunc }),
   (224, { k := .func, size := 1, bytes := 8, zero := .nilFunc }),
   (226, { k := .func, size := 1, bytes := 8, zero := .nilFunc }),
   (229, { k := .func, size := 1, bytes := 8, zero := .nilFunc }),
   (230, { k := .func, size := 1, bytes := 8, zero := .nilFunc }),
   (232, { k := .func, size := 1, bytes := 8, zero := .nilFunc }),
   (233, { k := .func, size := 1, bytes := 8, zero := .nilFunc }),
   (234, { k := .func, size := 1, bytes := 8, zero := .nilFunc }),
   (235, { k := .ptr, size := 1, bytes := 8, zero := .pointer none }),
   (236, { k := .func, size := 1, bytes := 8, zero := .nilFunc }),
   (237, { k := .func, size := 1, bytes := 8, zero := .nilFunc }),
   (238, { k := .ptr, size := 1, bytes := 8, zero := .pointer none }),
   (240, { k := .func, size := 1, bytes := 8, zero := .nilFunc }),
   (245, { k := .func, size := 1, bytes := 8, zero := .nilFunc }),
   (246, { k := .func, size := 1, bytes := 8, zero := .nilFunc }),
   (247, { k := .func, size := 1, bytes := 8, zero := .nilFunc }),
   (248, { k := .func, size := 1, bytes := 8, zero := .nilFunc }),
   (254, { k := .func, size := 1, bytes := 8, zero := .nilFunc }),
   (257, { k := .func, size := 1, bytes := 8, zero := .nilFunc }),
   (258, { k := .ptr, size := 1, bytes := 8, zero := .pointer none }),
   (263, { k := .func, size := 1, bytes := 8, zero := .nilFunc })]
def tyT (t : TypeId) : TyI := match findB tyTab t with | some i => i | none => { k := .other, size := 0, bytes := 0, zero := .bool false }
theorem ty_info {P : Program} {t : TypeId} {s b : Nat} {z : Value} (h : (P.info? t).map (fun i => (i.size, i.bytes, i.zero)) = some (s, b, some z)) : ∃ j, P.info? t = some j ∧ j.size = s ∧ j.bytes = b ∧ j.zero = some z := by
  cases hi : P.info? t with
  | none => rw [hi] at h; cases h
  | some j =>
    rw [hi] at h
    simp only [Option.map_some, Option.some.injEq, Prod.mk.injEq] at h
    exact ⟨j, rfl, h.1, h.2.1, h.2.2⟩
theorem ty_has {P : Program} {t : TypeId} (h : (P.info? t).map (fun i => i.size != 0) = some true) : ∃ i, P.info? t = some i ∧ i.size ≠ 0 := by
  cases hi : P.info? t with
  | none => rw [hi] at h; cases h
  | some j =>
    rw [hi] at h
    exact ⟨j, rfl, by simpa using h⟩
theorem tyOk2 : TyOk Tryz.prog 2 { k := .int .i64, size := 1, bytes := 8, zero := .int .i64 0 } :=
  ⟨Tryz.underlying2, by decide, by decide, by decide, by decide, by decide, ty_info (by kernel_rfl)⟩
theorem tyOk3 : TyOk Tryz.prog 3 { k := .int .i64, size := 1, bytes := 8, zero := .int .i64 0 } :=
  ⟨Tryz.underlying3, by decide, by decide, by decide, by decide, by decide, ty_info (by kernel_rfl)⟩
theorem tyOk4 : TyOk Tryz.prog 4 { k := .bool, size := 1, bytes := 1, zero := .bool false } :=
  ⟨Tryz.underlying4, by decide, by decide, by decide, by decide, by decide, ty_info (by kernel_rfl)⟩
theorem tyOk5 : TyOk Tryz.prog 5 { k := .int .u8, size := 1, bytes := 1, zero := .int .u8 0 } :=
  ⟨Tryz.underlying5, by decide, by decide, by decide, by decide, by decide, ty_info (by kernel_rfl)⟩
theorem tyOk6 : TyOk Tryz.prog 6 { k := .int .u8, size := 1, bytes := 1, zero := .int .u8 0 } :=
  ⟨Tryz.underlying6, by decide, by decide, by decide, by decide, by decide, ty_info (by kernel_rfl)⟩
theorem tyOk7 : TyOk Tryz.prog 7 { k := .struct [(2, 0), (3, 1), (4, 2), (6, 3)], size := 4, bytes := 24, zero := .agg #[.int .i64 0, .int .i64 0, .bool false, .int .u8 0] } :=
  ⟨⟨_, Tryz.underlying7, rfl, by
      intro F hF
      simp only [List.mem_cons, List.not_mem_nil, or_false] at hF
      rcases hF with rfl | rfl | rfl | rfl
      · exact ty_has (by kernel_rfl)
      · exact ty_has (by kernel_rfl)
      · exact ty_has (by kernel_rfl)
      · exact ty_has (by kernel_rfl)⟩, by decide, by decide, by decide, by decide, by decide, ty_info (by kernel_rfl)⟩
theorem tyOk8 : TyOk Tryz.prog 8 { k := .struct [(2, 0), (3, 1), (4, 2), (6, 3)], size := 4, bytes := 24, zero := .agg #[.int .i64 0, .int .i64 0, .bool false, .int .u8 0] } :=
  ⟨⟨_, Tryz.underlying8, rfl, by
      intro F hF
      simp only [List.mem_cons, List.not_mem_nil, or_false] at hF
      rcases hF with rfl | rfl | rfl | rfl
      · exact ty_has (by kernel_rfl)
      · exact ty_has (by kernel_rfl)
      · exact ty_has (by kernel_rfl)
      · exact ty_has (by kernel_rfl)⟩, by decide, by decide, by decide, by decide, by decide, ty_info (by kernel_rfl)⟩
theorem tyOk9 : TyOk Tryz.prog 9 { k := .str, size := 1, bytes := 16, zero := .string ⟨#[]⟩ } :=
  ⟨Tryz.underlying9, by decide, by decide, by decide, by decide, by decide, ty_info (by kernel_rfl)⟩
theorem tyOk10 : TyOk Tryz.prog 10 { k := .str, size := 1, bytes := 16, zero := .string ⟨#[]⟩ } :=
  ⟨Tryz.underlying10, by decide, by decide, by decide, by decide, by decide, ty_info (by kernel_rfl)⟩
theorem tyOk11 : TyOk Tryz.prog 11 { k := .str, size := 1, bytes := 16, zero := .string ⟨#[]⟩ } :=
  ⟨Tryz.underlying11, by decide, by decide, by decide, by decide, by decide, ty_info (by kernel_rfl)⟩
theorem tyOk12 : TyOk Tryz.prog 12 { k := .int .u64, size := 1, bytes := 8, zero := .int .u64 0 } :=
  ⟨Tryz.underlying12, by decide, by decide, by decide, by decide, by decide, ty_info (by kernel_rfl)⟩
theorem tyOk13 : TyOk Tryz.prog 13 { k := .struct [(9, 0), (12, 1)], size := 2, bytes := 24, zero := .agg #[.string ⟨#[]⟩, .int .u64 0] } :=
  ⟨⟨_, Tryz.underlying13, rfl, by
      intro F hF
      simp only [List.mem_cons, List.not_mem_nil, or_false] at hF
      rcases hF with rfl | rfl
      · exact ty_has (by kernel_rfl)
      · exact ty_has (by kernel_rfl)⟩, by decide, by decide, by decide, by decide, by decide, ty_info (by kernel_rfl)⟩
theorem tyOk14 : TyOk Tryz.prog 14 { k := .struct [(9, 0), (12, 1)], size := 2, bytes := 24, zero := .agg #[.string ⟨#[]⟩, .int .u64 0] } :=
  ⟨⟨_, Tryz.underlying14, rfl, by
      intro F hF
      simp only [List.mem_cons, List.not_mem_nil, or_false] at hF
      rcases hF with rfl | rfl
      · exact ty_has (by kernel_rfl)
      · exact ty_has (by kernel_rfl)⟩, by decide, by decide, by decide, by decide, by decide, ty_info (by kernel_rfl)⟩
theorem tyOk18 : TyOk Tryz.prog 18 { k := .struct [(17, 0)], size := 1, bytes := 8, zero := .agg #[.pointer none] } :=
  ⟨⟨_, Tryz.underlying18, rfl, by
      intro F hF
      simp only [List.mem_cons, List.not_mem_nil, or_false] at hF
      rcases hF with rfl
      · exact ty_has (by kernel_rfl)⟩, by decide, by decide, by decide, by decide, by decide, ty_info (by kernel_rfl)⟩
theorem tyOk19 : TyOk Tryz.prog 19 { k := .struct [(17, 0)], size := 1, bytes := 8, zero := .agg #[.pointer none] } :=
  ⟨⟨_, Tryz.underlying19, rfl, by
      intro F hF
      simp only [List.mem_cons, List.not_mem_nil, or_false] at hF
      rcases hF with rfl
      · exact ty_has (by kernel_rfl)⟩, by decide, by decide, by decide, by decide, by decide, ty_info (by kernel_rfl)⟩
theorem tyOk21 : TyOk Tryz.prog 21 { k := .int .i32, size := 1, bytes := 4, zero := .int .i32 0 } :=
  ⟨Tryz.underlying21, by decide, by decide, by decide, by decide, by decide, ty_info (by kernel_rfl)⟩
theorem tyOk22 : TyOk Tryz.prog 22 { k := .sl 25, size := 1, bytes := 24, zero := .slice none 0 0 } :=
  ⟨Tryz.underlying22, by decide, by decide, by decide, by decide, by decide, ty_info (by kernel_rfl)⟩
theorem tyOk23 : TyOk Tryz.prog 23 { k := .sl 9, size := 1, bytes := 24, zero := .slice none 0 0 } :=
  ⟨Tryz.underlying23, by decide, by decide, by decide, by decide, by decide, ty_info (by kernel_rfl)⟩
theorem tyOk24 : TyOk Tryz.prog 24 { k := .struct [(3, 0), (4, 1), (3, 2), (9, 3), (22, 4), (23, 5)], size := 6, bytes := 88, zero := .agg #[.int .i64 0, .bool false, .int .i64 0, .string ⟨#[]⟩, .slice none 0 0, .slice none 0 0] } :=
  ⟨⟨_, Tryz.underlying24, rfl, by
      intro F hF
      simp only [List.mem_cons, List.not_mem_nil, or_false] at hF
      rcases hF with rfl | rfl | rfl | rfl | rfl | rfl
      · exact ty_has (by kernel_rfl)
      · exact ty_has (by kernel_rfl)
      · exact ty_has (by kernel_rfl)
      · exact ty_has (by kernel_rfl)
      · exact ty_has (by kernel_rfl)
      · exact ty_has (by kernel_rfl)⟩, by decide, by decide, by decide, by decide, by decide, ty_info (by kernel_rfl)⟩
theorem tyOk25 : TyOk Tryz.prog 25 { k := .struct [(3, 0), (4, 1), (3, 2), (9, 3), (22, 4), (23, 5)], size := 6, bytes := 88, zero := .agg #[.int .i64 0, .bool false, .int .i64 0, .string ⟨#[]⟩, .slice none 0 0, .slice none 0 0] } :=
  ⟨⟨_, Tryz.underlying25, rfl, by
      intro F hF
      simp only [List.mem_cons, List.not_mem_nil, or_false] at hF
      rcases hF with rfl | rfl | rfl | rfl | rfl | rfl
      · exact ty_has (by kernel_rfl)
      · exact ty_has (by kernel_rfl)
      · exact ty_has (by kernel_rfl)
      · exact ty_has (by kernel_rfl)
      · exact ty_has (by kernel_rfl)
      · exact ty_has (by kernel_rfl)⟩, by decide, by decide, by decide, by decide, by decide, ty_info (by kernel_rfl)⟩
theorem tyOk26 : TyOk Tryz.prog 26 { k := .sl 75, size := 1, bytes := 24, zero := .slice none 0 0 } :=
  ⟨Tryz.underlying26, by decide, by decide, by decide, by decide, by decide, ty_info (by kernel_rfl)⟩
theorem tyOk27 : TyOk Tryz.prog 27 { k := .int .i64, size := 1, bytes := 8, zero := .int .i64 0 } :=
  ⟨Tryz.underlying27, by decide, by decide, by decide, by decide, by decide, ty_info (by kernel_rfl)⟩
theorem tyOk34 : TyOk Tryz.prog 34 { k := .struct [(26, 0), (26, 1)], size := 2, bytes := 48, zero := .agg #[.slice none 0 0, .slice none 0 0] } :=
  ⟨⟨_, Tryz.underlying34, rfl, by
      intro F hF
      simp only [List.mem_cons, List.not_mem_nil, or_false] at hF
      rcases hF with rfl | rfl
      · exact ty_has (by kernel_rfl)
      · exact ty_has (by kernel_rfl)⟩, by decide, by decide, by decide, by decide, by decide, ty_info (by kernel_rfl)⟩
theorem tyOk35 : TyOk Tryz.prog 35 { k := .struct [(26, 0), (26, 1)], size := 2, bytes := 48, zero := .agg #[.slice none 0 0, .slice none 0 0] } :=
  ⟨⟨_, Tryz.underlying35, rfl, by
      intro F hF
      simp only [List.mem_cons, List.not_mem_nil, or_false] at hF
      rcases hF with rfl | rfl
      · exact ty_has (by kernel_rfl)
      · exact ty_has (by kernel_rfl)⟩, by decide, by decide, by decide, by decide, by decide, ty_info (by kernel_rfl)⟩
theorem tyOk41 : TyOk Tryz.prog 41 { k := .sl 45, size := 1, bytes := 24, zero := .slice none 0 0 } :=
  ⟨Tryz.underlying41, by decide, by decide, by decide, by decide, by decide, ty_info (by kernel_rfl)⟩
theorem tyOk44 : TyOk Tryz.prog 44 { k := .struct [(9, 0), (25, 1)], size := 7, bytes := 104, zero := .agg #[.string ⟨#[]⟩, .int .i64 0, .bool false, .int .i64 0, .string ⟨#[]⟩, .slice none 0 0, .slice none 0 0] } :=
  ⟨⟨_, Tryz.underlying44, rfl, by
      intro F hF
      simp only [List.mem_cons, List.not_mem_nil, or_false] at hF
      rcases hF with rfl | rfl
      · exact ty_has (by kernel_rfl)
      · exact ty_has (by kernel_rfl)⟩, by decide, by decide, by decide, by decide, by decide, ty_info (by kernel_rfl)⟩
theorem tyOk45 : TyOk Tryz.prog 45 { k := .struct [(9, 0), (25, 1)], size := 7, bytes := 104, zero := .agg #[.string ⟨#[]⟩, .int .i64 0, .bool false, .int .i64 0, .string ⟨#[]⟩, .slice none 0 0, .slice none 0 0] } :=
  ⟨⟨_, Tryz.underlying45, rfl, by
      intro F hF
      simp only [List.mem_cons, List.not_mem_nil, or_false] at hF
      rcases hF with rfl | rfl
      · exact ty_has (by kernel_rfl)
      · exact ty_has (by kernel_rfl)⟩, by decide, by decide, by decide, by decide, by decide, ty_info (by kernel_rfl)⟩
theorem tyOk49 : TyOk Tryz.prog 49 { k := .sl 130, size := 1, bytes := 24, zero := .slice none 0 0 } :=
  ⟨Tryz.underlying49, by decide, by decide, by decide, by decide, by decide, ty_info (by kernel_rfl)⟩
theorem tyOk50 : TyOk Tryz.prog 50 { k := .struct [(49, 0)], size := 1, bytes := 24, zero := .agg #[.slice none 0 0] } :=
  ⟨⟨_, Tryz.underlying50, rfl, by
      intro F hF
      simp only [List.mem_cons, List.not_mem_nil, or_false] at hF
      rcases hF with rfl
      · exact ty_has (by kernel_rfl)⟩, by decide, by decide, by decide, by decide, by decide, ty_info (by kernel_rfl)⟩
theorem tyOk51 : TyOk Tryz.prog 51 { k := .struct [(49, 0)], size := 1, bytes := 24, zero := .agg #[.slice none 0 0] } :=
  ⟨⟨_, Tryz.underlying51, rfl, by
      intro F hF
      simp only [List.mem_cons, List.not_mem_nil, or_false] at hF
      rcases hF with rfl
      · exact ty_has (by kernel_rfl)⟩, by decide, by decide, by decide, by decide, by decide, ty_info (by kernel_rfl)⟩
theorem tyOk52 : TyOk Tryz.prog 52 { k := .sl 134, size := 1, bytes := 24, zero := .slice none 0 0 } :=
  ⟨Tryz.underlying52, by decide, by decide, by decide, by decide, by decide, ty_info (by kernel_rfl)⟩
theorem tyOk53 : TyOk Tryz.prog 53 { k := .struct [(9, 0), (9, 1), (51, 2), (9, 3), (9, 4), (23, 5), (23, 6), (23, 7), (52, 8)], size := 9, bytes := 184, zero := .agg #[.string ⟨#[]⟩, .string ⟨#[]⟩, .slice none 0 0, .string ⟨#[]⟩, .string ⟨#[]⟩, .slice none 0 0, .slice none 0 0, .slice none 0 0, .slice none 0 0] } :=
  ⟨⟨_, Tryz.underlying53, rfl, by
      intro F hF
      simp only [List.mem_cons, List.not_mem_nil, or_false] at hF
      rcases hF with rfl | rfl | rfl | rfl | rfl | rfl | rfl | rfl | rfl
      · exact ty_has (by kernel_rfl)
      · exact ty_has (by kernel_rfl)
      · exact ty_has (by kernel_rfl)
      · exact ty_has (by kernel_rfl)
      · exact ty_has (by kernel_rfl)
      · exact ty_has (by kernel_rfl)
      · exact ty_has (by kernel_rfl)
      · exact ty_has (by kernel_rfl)
      · exact ty_has (by kernel_rfl)⟩, by decide, by decide, by decide, by decide, by decide, ty_info (by kernel_rfl)⟩
theorem tyOk54 : TyOk Tryz.prog 54 { k := .struct [(9, 0), (9, 1), (51, 2), (9, 3), (9, 4), (23, 5), (23, 6), (23, 7), (52, 8)], size := 9, bytes := 184, zero := .agg #[.string ⟨#[]⟩, .string ⟨#[]⟩, .slice none 0 0, .string ⟨#[]⟩, .string ⟨#[]⟩, .slice none 0 0, .slice none 0 0, .slice none 0 0, .slice none 0 0] } :=
  ⟨⟨_, Tryz.underlying54, rfl, by
      intro F hF
      simp only [List.mem_cons, List.not_mem_nil, or_false] at hF
      rcases hF with rfl | rfl | rfl | rfl | rfl | rfl | rfl | rfl | rfl
      · exact ty_has (by kernel_rfl)
      · exact ty_has (by kernel_rfl)
      · exact ty_has (by kernel_rfl)
      · exact ty_has (by kernel_rfl)
      · exact ty_has (by kernel_rfl)
      · exact ty_has (by kernel_rfl)
      · exact ty_has (by kernel_rfl)
      · exact ty_has (by kernel_rfl)
      · exact ty_has (by kernel_rfl)⟩, by decide, by decide, by decide, by decide, by decide, ty_info (by kernel_rfl)⟩
theorem tyOk55 : TyOk Tryz.prog 55 { k := .sl 139, size := 1, bytes := 24, zero := .slice none 0 0 } :=
  ⟨Tryz.underlying55, by decide, by decide, by decide, by decide, by decide, ty_info (by kernel_rfl)⟩
theorem tyOk56 : TyOk Tryz.prog 56 { k := .struct [(55, 0)], size := 1, bytes := 24, zero := .agg #[.slice none 0 0] } :=
  ⟨⟨_, Tryz.underlying56, rfl, by
      intro F hF
      simp only [List.mem_cons, List.not_mem_nil, or_false] at hF
      rcases hF with rfl
      · exact ty_has (by kernel_rfl)⟩, by decide, by decide, by decide, by decide, by decide, ty_info (by kernel_rfl)⟩
theorem tyOk57 : TyOk Tryz.prog 57 { k := .struct [(55, 0)], size := 1, bytes := 24, zero := .agg #[.slice none 0 0] } :=
  ⟨⟨_, Tryz.underlying57, rfl, by
      intro F hF
      simp only [List.mem_cons, List.not_mem_nil, or_false] at hF
      rcases hF with rfl
      · exact ty_has (by kernel_rfl)⟩, by decide, by decide, by decide, by decide, by decide, ty_info (by kernel_rfl)⟩
theorem tyOk58 : TyOk Tryz.prog 58 { k := .sl 145, size := 1, bytes := 24, zero := .slice none 0 0 } :=
  ⟨Tryz.underlying58, by decide, by decide, by decide, by decide, by decide, ty_info (by kernel_rfl)⟩
theorem tyOk59 : TyOk Tryz.prog 59 { k := .sl 150, size := 1, bytes := 24, zero := .slice none 0 0 } :=
  ⟨Tryz.underlying59, by decide, by decide, by decide, by decide, by decide, ty_info (by kernel_rfl)⟩
theorem tyOk60 : TyOk Tryz.prog 60 { k := .sl 155, size := 1, bytes := 24, zero := .slice none 0 0 } :=
  ⟨Tryz.underlying60, by decide, by decide, by decide, by decide, by decide, ty_info (by kernel_rfl)⟩
theorem tyOk61 : TyOk Tryz.prog 61 { k := .struct [(23, 0), (60, 1)], size := 2, bytes := 48, zero := .agg #[.slice none 0 0, .slice none 0 0] } :=
  ⟨⟨_, Tryz.underlying61, rfl, by
      intro F hF
      simp only [List.mem_cons, List.not_mem_nil, or_false] at hF
      rcases hF with rfl | rfl
      · exact ty_has (by kernel_rfl)
      · exact ty_has (by kernel_rfl)⟩, by decide, by decide, by decide, by decide, by decide, ty_info (by kernel_rfl)⟩
theorem tyOk62 : TyOk Tryz.prog 62 { k := .struct [(23, 0), (60, 1)], size := 2, bytes := 48, zero := .agg #[.slice none 0 0, .slice none 0 0] } :=
  ⟨⟨_, Tryz.underlying62, rfl, by
      intro F hF
      simp only [List.mem_cons, List.not_mem_nil, or_false] at hF
      rcases hF with rfl | rfl
      · exact ty_has (by kernel_rfl)
      · exact ty_has (by kernel_rfl)⟩, by decide, by decide, by decide, by decide, by decide, ty_info (by kernel_rfl)⟩
theorem tyOk63 : TyOk Tryz.prog 63 { k := .sl 160, size := 1, bytes := 24, zero := .slice none 0 0 } :=
  ⟨Tryz.underlying63, by decide, by decide, by decide, by decide, by decide, ty_info (by kernel_rfl)⟩
theorem tyOk64 : TyOk Tryz.prog 64 { k := .sl 165, size := 1, bytes := 24, zero := .slice none 0 0 } :=
  ⟨Tryz.underlying64, by decide, by decide, by decide, by decide, by decide, ty_info (by kernel_rfl)⟩
theorem tyOk65 : TyOk Tryz.prog 65 { k := .sl 169, size := 1, bytes := 24, zero := .slice none 0 0 } :=
  ⟨Tryz.underlying65, by decide, by decide, by decide, by decide, by decide, ty_info (by kernel_rfl)⟩
theorem tyOk66 : TyOk Tryz.prog 66 { k := .sl 68, size := 1, bytes := 24, zero := .slice none 0 0 } :=
  ⟨Tryz.underlying66, by decide, by decide, by decide, by decide, by decide, ty_info (by kernel_rfl)⟩
theorem tyOk67 : TyOk Tryz.prog 67 { k := .struct [(3, 0), (9, 1), (25, 2), (66, 8)], size := 9, bytes := 136, zero := .agg #[.int .i64 0, .string ⟨#[]⟩, .int .i64 0, .bool false, .int .i64 0, .string ⟨#[]⟩, .slice none 0 0, .slice none 0 0, .slice none 0 0] } :=
  ⟨⟨_, Tryz.underlying67, rfl, by
      intro F hF
      simp only [List.mem_cons, List.not_mem_nil, or_false] at hF
      rcases hF with rfl | rfl | rfl | rfl
      · exact ty_has (by kernel_rfl)
      · exact ty_has (by kernel_rfl)
      · exact ty_has (by kernel_rfl)
      · exact ty_has (by kernel_rfl)⟩, by decide, by decide, by decide, by decide, by decide, ty_info (by kernel_rfl)⟩
theorem tyOk68 : TyOk Tryz.prog 68 { k := .struct [(3, 0), (9, 1), (25, 2), (66, 8)], size := 9, bytes := 136, zero := .agg #[.int .i64 0, .string ⟨#[]⟩, .int .i64 0, .bool false, .int .i64 0, .string ⟨#[]⟩, .slice none 0 0, .slice none 0 0, .slice none 0 0] } :=
  ⟨⟨_, Tryz.underlying68, rfl, by
      intro F hF
      simp only [List.mem_cons, List.not_mem_nil, or_false] at hF
      rcases hF with rfl | rfl | rfl | rfl
      · exact ty_has (by kernel_rfl)
      · exact ty_has (by kernel_rfl)
      · exact ty_has (by kernel_rfl)
      · exact ty_has (by kernel_rfl)⟩, by decide, by decide, by decide, by decide, by decide, ty_info (by kernel_rfl)⟩
theorem tyOk69 : TyOk Tryz.prog 69 { k := .sl 175, size := 1, bytes := 24, zero := .slice none 0 0 } :=
  ⟨Tryz.underlying69, by decide, by decide, by decide, by decide, by decide, ty_info (by kernel_rfl)⟩
theorem tyOk70 : TyOk Tryz.prog 70 { k := .sl 180, size := 1, bytes := 24, zero := .slice none 0 0 } :=
  ⟨Tryz.underlying70, by decide, by decide, by decide, by decide, by decide, ty_info (by kernel_rfl)⟩
theorem tyOk71 : TyOk Tryz.prog 71 { k := .sl 185, size := 1, bytes := 24, zero := .slice none 0 0 } :=
  ⟨Tryz.underlying71, by decide, by decide, by decide, by decide, by decide, ty_info (by kernel_rfl)⟩
theorem tyOk74 : TyOk Tryz.prog 74 { k := .struct [(9, 0), (25, 1), (4, 7)], size := 8, bytes := 112, zero := .agg #[.string ⟨#[]⟩, .int .i64 0, .bool false, .int .i64 0, .string ⟨#[]⟩, .slice none 0 0, .slice none 0 0, .bool false] } :=
  ⟨⟨_, Tryz.underlying74, rfl, by
      intro F hF
      simp only [List.mem_cons, List.not_mem_nil, or_false] at hF
      rcases hF with rfl | rfl | rfl
      · exact ty_has (by kernel_rfl)
      · exact ty_has (by kernel_rfl)
      · exact ty_has (by kernel_rfl)⟩, by decide, by decide, by decide, by decide, by decide, ty_info (by kernel_rfl)⟩
theorem tyOk75 : TyOk Tryz.prog 75 { k := .struct [(9, 0), (25, 1), (4, 7)], size := 8, bytes := 112, zero := .agg #[.string ⟨#[]⟩, .int .i64 0, .bool false, .int .i64 0, .string ⟨#[]⟩, .slice none 0 0, .slice none 0 0, .bool false] } :=
  ⟨⟨_, Tryz.underlying75, rfl, by
      intro F hF
      simp only [List.mem_cons, List.not_mem_nil, or_false] at hF
      rcases hF with rfl | rfl | rfl
      · exact ty_has (by kernel_rfl)
      · exact ty_has (by kernel_rfl)
      · exact ty_has (by kernel_rfl)⟩, by decide, by decide, by decide, by decide, by decide, ty_info (by kernel_rfl)⟩
theorem tyOk77 : TyOk Tryz.prog 77 { k := .sl 83, size := 1, bytes := 24, zero := .slice none 0 0 } :=
  ⟨Tryz.underlying77, by decide, by decide, by decide, by decide, by decide, ty_info (by kernel_rfl)⟩
theorem tyOk78 : TyOk Tryz.prog 78 { k := .struct [(77, 0), (4, 1)], size := 2, bytes := 32, zero := .agg #[.slice none 0 0, .bool false] } :=
  ⟨⟨_, Tryz.underlying78, rfl, by
      intro F hF
      simp only [List.mem_cons, List.not_mem_nil, or_false] at hF
      rcases hF with rfl | rfl
      · exact ty_has (by kernel_rfl)
      · exact ty_has (by kernel_rfl)⟩, by decide, by decide, by decide, by decide, by decide, ty_info (by kernel_rfl)⟩
theorem tyOk79 : TyOk Tryz.prog 79 { k := .struct [(77, 0), (4, 1)], size := 2, bytes := 32, zero := .agg #[.slice none 0 0, .bool false] } :=
  ⟨⟨_, Tryz.underlying79, rfl, by
      intro F hF
      simp only [List.mem_cons, List.not_mem_nil, or_false] at hF
      rcases hF with rfl | rfl
      · exact ty_has (by kernel_rfl)
      · exact ty_has (by kernel_rfl)⟩, by decide, by decide, by decide, by decide, by decide, ty_info (by kernel_rfl)⟩
theorem tyOk82 : TyOk Tryz.prog 82 { k := .struct [(9, 0), (3, 1), (4, 2), (4, 3), (3, 4), (3, 5), (23, 6), (25, 7)], size := 13, bytes := 160, zero := .agg #[.string ⟨#[]⟩, .int .i64 0, .bool false, .bool false, .int .i64 0, .int .i64 0, .slice none 0 0, .int .i64 0, .bool false, .int .i64 0, .string ⟨#[]⟩, .slice none 0 0, .slice none 0 0] } :=
  ⟨⟨_, Tryz.underlying82, rfl, by
      intro F hF
      simp only [List.mem_cons, List.not_mem_nil, or_false] at hF
      rcases hF with rfl | rfl | rfl | rfl | rfl | rfl | rfl | rfl
      · exact ty_has (by kernel_rfl)
      · exact ty_has (by kernel_rfl)
      · exact ty_has (by kernel_rfl)
      · exact ty_has (by kernel_rfl)
      · exact ty_has (by kernel_rfl)
      · exact ty_has (by kernel_rfl)
      · exact ty_has (by kernel_rfl)
      · exact ty_has (by kernel_rfl)⟩, by decide, by decide, by decide, by decide, by decide, ty_info (by kernel_rfl)⟩
theorem tyOk83 : TyOk Tryz.prog 83 { k := .struct [(9, 0), (3, 1), (4, 2), (4, 3), (3, 4), (3, 5), (23, 6), (25, 7)], size := 13, bytes := 160, zero := .agg #[.string ⟨#[]⟩, .int .i64 0, .bool false, .bool false, .int .i64 0, .int .i64 0, .slice none 0 0, .int .i64 0, .bool false, .int .i64 0, .string ⟨#[]⟩, .slice none 0 0, .slice none 0 0] } :=
  ⟨⟨_, Tryz.underlying83, rfl, by
      intro F hF
      simp only [List.mem_cons, List.not_mem_nil, or_false] at hF
      rcases hF with rfl | rfl | rfl | rfl | rfl | rfl | rfl | rfl
      · exact ty_has (by kernel_rfl)
      · exact ty_has (by kernel_rfl)
      · exact ty_has (by kernel_rfl)
      · exact ty_has (by kernel_rfl)
      · exact ty_has (by kernel_rfl)
      · exact ty_has (by kernel_rfl)
      · exact ty_has (by kernel_rfl)
      · exact ty_has (by kernel_rfl)⟩, by decide, by decide, by decide, by decide, by decide, ty_info (by kernel_rfl)⟩
theorem tyOk85 : TyOk Tryz.prog 85 { k := .sl 89, size := 1, bytes := 24, zero := .slice none 0 0 } :=
  ⟨Tryz.underlying85, by decide, by decide, by decide, by decide, by decide, ty_info (by kernel_rfl)⟩
theorem tyOk88 : TyOk Tryz.prog 88 { k := .struct [(9, 0), (3, 1)], size := 2, bytes := 24, zero := .agg #[.string ⟨#[]⟩, .int .i64 0] } :=
  ⟨⟨_, Tryz.underlying88, rfl, by
      intro F hF
      simp only [List.mem_cons, List.not_mem_nil, or_false] at hF
      rcases hF with rfl | rfl
      · exact ty_has (by kernel_rfl)
      · exact ty_has (by kernel_rfl)⟩, by decide, by decide, by decide, by decide, by decide, ty_info (by kernel_rfl)⟩
theorem tyOk89 : TyOk Tryz.prog 89 { k := .struct [(9, 0), (3, 1)], size := 2, bytes := 24, zero := .agg #[.string ⟨#[]⟩, .int .i64 0] } :=
  ⟨⟨_, Tryz.underlying89, rfl, by
      intro F hF
      simp only [List.mem_cons, List.not_mem_nil, or_false] at hF
      rcases hF with rfl | rfl
      · exact ty_has (by kernel_rfl)
      · exact ty_has (by kernel_rfl)⟩, by decide, by decide, by decide, by decide, by decide, ty_info (by kernel_rfl)⟩
theorem tyOk90 : TyOk Tryz.prog 90 { k := .sl 3, size := 1, bytes := 24, zero := .slice none 0 0 } :=
  ⟨Tryz.underlying90, by decide, by decide, by decide, by decide, by decide, ty_info (by kernel_rfl)⟩
theorem tyOk91 : TyOk Tryz.prog 91 { k := .struct [(9, 0), (23, 1), (90, 2)], size := 3, bytes := 64, zero := .agg #[.string ⟨#[]⟩, .slice none 0 0, .slice none 0 0] } :=
  ⟨⟨_, Tryz.underlying91, rfl, by
      intro F hF
      simp only [List.mem_cons, List.not_mem_nil, or_false] at hF
      rcases hF with rfl | rfl | rfl
      · exact ty_has (by kernel_rfl)
      · exact ty_has (by kernel_rfl)
      · exact ty_has (by kernel_rfl)⟩, by decide, by decide, by decide, by decide, by decide, ty_info (by kernel_rfl)⟩
theorem tyOk92 : TyOk Tryz.prog 92 { k := .struct [(9, 0), (23, 1), (90, 2)], size := 3, bytes := 64, zero := .agg #[.string ⟨#[]⟩, .slice none 0 0, .slice none 0 0] } :=
  ⟨⟨_, Tryz.underlying92, rfl, by
      intro F hF
      simp only [List.mem_cons, List.not_mem_nil, or_false] at hF
      rcases hF with rfl | rfl | rfl
      · exact ty_has (by kernel_rfl)
      · exact ty_has (by kernel_rfl)
      · exact ty_has (by kernel_rfl)⟩, by decide, by decide, by decide, by decide, by decide, ty_info (by kernel_rfl)⟩
theorem tyOk95 : TyOk Tryz.prog 95 { k := .sl 99, size := 1, bytes := 24, zero := .slice none 0 0 } :=
  ⟨Tryz.underlying95, by decide, by decide, by decide, by decide, by decide, ty_info (by kernel_rfl)⟩
theorem tyOk98 : TyOk Tryz.prog 98 { k := .struct [(3, 0), (9, 1)], size := 2, bytes := 24, zero := .agg #[.int .i64 0, .string ⟨#[]⟩] } :=
  ⟨⟨_, Tryz.underlying98, rfl, by
      intro F hF
      simp only [List.mem_cons, List.not_mem_nil, or_false] at hF
      rcases hF with rfl | rfl
      · exact ty_has (by kernel_rfl)
      · exact ty_has (by kernel_rfl)⟩, by decide, by decide, by decide, by decide, by decide, ty_info (by kernel_rfl)⟩
theorem tyOk99 : TyOk Tryz.prog 99 { k := .struct [(3, 0), (9, 1)], size := 2, bytes := 24, zero := .agg #[.int .i64 0, .string ⟨#[]⟩] } :=
  ⟨⟨_, Tryz.underlying99, rfl, by
      intro F hF
      simp only [List.mem_cons, List.not_mem_nil, or_false] at hF
      rcases hF with rfl | rfl
      · exact ty_has (by kernel_rfl)
      · exact ty_has (by kernel_rfl)⟩, by decide, by decide, by decide, by decide, by decide, ty_info (by kernel_rfl)⟩
theorem tyOk100 : TyOk Tryz.prog 100 { k := .sl 104, size := 1, bytes := 24, zero := .slice none 0 0 } :=
  ⟨Tryz.underlying100, by decide, by decide, by decide, by decide, by decide, ty_info (by kernel_rfl)⟩
theorem tyOk103 : TyOk Tryz.prog 103 { k := .struct [(3, 0), (3, 1), (9, 2)], size := 3, bytes := 32, zero := .agg #[.int .i64 0, .int .i64 0, .string ⟨#[]⟩] } :=
  ⟨⟨_, Tryz.underlying103, rfl, by
      intro F hF
      simp only [List.mem_cons, List.not_mem_nil, or_false] at hF
      rcases hF with rfl | rfl | rfl
      · exact ty_has (by kernel_rfl)
      · exact ty_has (by kernel_rfl)
      · exact ty_has (by kernel_rfl)⟩, by decide, by decide, by decide, by decide, by decide, ty_info (by kernel_rfl)⟩
theorem tyOk104 : TyOk Tryz.prog 104 { k := .struct [(3, 0), (3, 1), (9, 2)], size := 3, bytes := 32, zero := .agg #[.int .i64 0, .int .i64 0, .string ⟨#[]⟩] } :=
  ⟨⟨_, Tryz.underlying104, rfl, by
      intro F hF
      simp only [List.mem_cons, List.not_mem_nil, or_false] at hF
      rcases hF with rfl | rfl | rfl
      · exact ty_has (by kernel_rfl)
      · exact ty_has (by kernel_rfl)
      · exact ty_has (by kernel_rfl)⟩, by decide, by decide, by decide, by decide, by decide, ty_info (by kernel_rfl)⟩
theorem tyOk105 : TyOk Tryz.prog 105 { k := .sl 109, size := 1, bytes := 24, zero := .slice none 0 0 } :=
  ⟨Tryz.underlying105, by decide, by decide, by decide, by decide, by decide, ty_info (by kernel_rfl)⟩
theorem tyOk108 : TyOk Tryz.prog 108 { k := .struct [(9, 0), (9, 1), (9, 2)], size := 3, bytes := 48, zero := .agg #[.string ⟨#[]⟩, .string ⟨#[]⟩, .string ⟨#[]⟩] } :=
  ⟨⟨_, Tryz.underlying108, rfl, by
      intro F hF
      simp only [List.mem_cons, List.not_mem_nil, or_false] at hF
      rcases hF with rfl | rfl | rfl
      · exact ty_has (by kernel_rfl)
      · exact ty_has (by kernel_rfl)
      · exact ty_has (by kernel_rfl)⟩, by decide, by decide, by decide, by decide, by decide, ty_info (by kernel_rfl)⟩
theorem tyOk109 : TyOk Tryz.prog 109 { k := .struct [(9, 0), (9, 1), (9, 2)], size := 3, bytes := 48, zero := .agg #[.string ⟨#[]⟩, .string ⟨#[]⟩, .string ⟨#[]⟩] } :=
  ⟨⟨_, Tryz.underlying109, rfl, by
      intro F hF
      simp only [List.mem_cons, List.not_mem_nil, or_false] at hF
      rcases hF with rfl | rfl | rfl
      · exact ty_has (by kernel_rfl)
      · exact ty_has (by kernel_rfl)
      · exact ty_has (by kernel_rfl)⟩, by decide, by decide, by decide, by decide, by decide, ty_info (by kernel_rfl)⟩
theorem tyOk110 : TyOk Tryz.prog 110 { k := .struct [(3, 0), (3, 1), (90, 2)], size := 3, bytes := 40, zero := .agg #[.int .i64 0, .int .i64 0, .slice none 0 0] } :=
  ⟨⟨_, Tryz.underlying110, rfl, by
      intro F hF
      simp only [List.mem_cons, List.not_mem_nil, or_false] at hF
      rcases hF with rfl | rfl | rfl
      · exact ty_has (by kernel_rfl)
      · exact ty_has (by kernel_rfl)
      · exact ty_has (by kernel_rfl)⟩, by decide, by decide, by decide, by decide, by decide, ty_info (by kernel_rfl)⟩
theorem tyOk111 : TyOk Tryz.prog 111 { k := .struct [(3, 0), (3, 1), (90, 2)], size := 3, bytes := 40, zero := .agg #[.int .i64 0, .int .i64 0, .slice none 0 0] } :=
  ⟨⟨_, Tryz.underlying111, rfl, by
      intro F hF
      simp only [List.mem_cons, List.not_mem_nil, or_false] at hF
      rcases hF with rfl | rfl | rfl
      · exact ty_has (by kernel_rfl)
      · exact ty_has (by kernel_rfl)
      · exact ty_has (by kernel_rfl)⟩, by decide, by decide, by decide, by decide, by decide, ty_info (by kernel_rfl)⟩
theorem tyOk129 : TyOk Tryz.prog 129 { k := .struct [(3, 0), (3, 1), (3, 2), (3, 3), (49, 4)], size := 5, bytes := 56, zero := .agg #[.int .i64 0, .int .i64 0, .int .i64 0, .int .i64 0, .slice none 0 0] } :=
  ⟨⟨_, Tryz.underlying129, rfl, by
      intro F hF
      simp only [List.mem_cons, List.not_mem_nil, or_false] at hF
      rcases hF with rfl | rfl | rfl | rfl | rfl
      · exact ty_has (by kernel_rfl)
      · exact ty_has (by kernel_rfl)
      · exact ty_has (by kernel_rfl)
      · exact ty_has (by kernel_rfl)
      · exact ty_has (by kernel_rfl)⟩, by decide, by decide, by decide, by decide, by decide, ty_info (by kernel_rfl)⟩
theorem tyOk130 : TyOk Tryz.prog 130 { k := .struct [(3, 0), (3, 1), (3, 2), (3, 3), (49, 4)], size := 5, bytes := 56, zero := .agg #[.int .i64 0, .int .i64 0, .int .i64 0, .int .i64 0, .slice none 0 0] } :=
  ⟨⟨_, Tryz.underlying130, rfl, by
      intro F hF
      simp only [List.mem_cons, List.not_mem_nil, or_false] at hF
      rcases hF with rfl | rfl | rfl | rfl | rfl
      · exact ty_has (by kernel_rfl)
      · exact ty_has (by kernel_rfl)
      · exact ty_has (by kernel_rfl)
      · exact ty_has (by kernel_rfl)
      · exact ty_has (by kernel_rfl)⟩, by decide, by decide, by decide, by decide, by decide, ty_info (by kernel_rfl)⟩
theorem tyOk133 : TyOk Tryz.prog 133 { k := .struct [(9, 0), (9, 1)], size := 2, bytes := 32, zero := .agg #[.string ⟨#[]⟩, .string ⟨#[]⟩] } :=
  ⟨⟨_, Tryz.underlying133, rfl, by
      intro F hF
      simp only [List.mem_cons, List.not_mem_nil, or_false] at hF
      rcases hF with rfl | rfl
      · exact ty_has (by kernel_rfl)
      · exact ty_has (by kernel_rfl)⟩, by decide, by decide, by decide, by decide, by decide, ty_info (by kernel_rfl)⟩
theorem tyOk134 : TyOk Tryz.prog 134 { k := .struct [(9, 0), (9, 1)], size := 2, bytes := 32, zero := .agg #[.string ⟨#[]⟩, .string ⟨#[]⟩] } :=
  ⟨⟨_, Tryz.underlying134, rfl, by
      intro F hF
      simp only [List.mem_cons, List.not_mem_nil, or_false] at hF
      rcases hF with rfl | rfl
      · exact ty_has (by kernel_rfl)
      · exact ty_has (by kernel_rfl)⟩, by decide, by decide, by decide, by decide, by decide, ty_info (by kernel_rfl)⟩
theorem tyOk137 : TyOk Tryz.prog 137 { k := .sl 196, size := 1, bytes := 24, zero := .slice none 0 0 } :=
  ⟨Tryz.underlying137, by decide, by decide, by decide, by decide, by decide, ty_info (by kernel_rfl)⟩
theorem tyOk138 : TyOk Tryz.prog 138 { k := .struct [(3, 0), (9, 1), (137, 2)], size := 3, bytes := 48, zero := .agg #[.int .i64 0, .string ⟨#[]⟩, .slice none 0 0] } :=
  ⟨⟨_, Tryz.underlying138, rfl, by
      intro F hF
      simp only [List.mem_cons, List.not_mem_nil, or_false] at hF
      rcases hF with rfl | rfl | rfl
      · exact ty_has (by kernel_rfl)
      · exact ty_has (by kernel_rfl)
      · exact ty_has (by kernel_rfl)⟩, by decide, by decide, by decide, by decide, by decide, ty_info (by kernel_rfl)⟩
theorem tyOk139 : TyOk Tryz.prog 139 { k := .struct [(3, 0), (9, 1), (137, 2)], size := 3, bytes := 48, zero := .agg #[.int .i64 0, .string ⟨#[]⟩, .slice none 0 0] } :=
  ⟨⟨_, Tryz.underlying139, rfl, by
      intro F hF
      simp only [List.mem_cons, List.not_mem_nil, or_false] at hF
      rcases hF with rfl | rfl | rfl
      · exact ty_has (by kernel_rfl)
      · exact ty_has (by kernel_rfl)
      · exact ty_has (by kernel_rfl)⟩, by decide, by decide, by decide, by decide, by decide, ty_info (by kernel_rfl)⟩
theorem tyOk144 : TyOk Tryz.prog 144 { k := .struct [(9, 0), (90, 1)], size := 2, bytes := 40, zero := .agg #[.string ⟨#[]⟩, .slice none 0 0] } :=
  ⟨⟨_, Tryz.underlying144, rfl, by
      intro F hF
      simp only [List.mem_cons, List.not_mem_nil, or_false] at hF
      rcases hF with rfl | rfl
      · exact ty_has (by kernel_rfl)
      · exact ty_has (by kernel_rfl)⟩, by decide, by decide, by decide, by decide, by decide, ty_info (by kernel_rfl)⟩
theorem tyOk145 : TyOk Tryz.prog 145 { k := .struct [(9, 0), (90, 1)], size := 2, bytes := 40, zero := .agg #[.string ⟨#[]⟩, .slice none 0 0] } :=
  ⟨⟨_, Tryz.underlying145, rfl, by
      intro F hF
      simp only [List.mem_cons, List.not_mem_nil, or_false] at hF
      rcases hF with rfl | rfl
      · exact ty_has (by kernel_rfl)
      · exact ty_has (by kernel_rfl)⟩, by decide, by decide, by decide, by decide, by decide, ty_info (by kernel_rfl)⟩
theorem tyOk149 : TyOk Tryz.prog 149 { k := .struct [(9, 0), (9, 1), (9, 2), (3, 3), (25, 4), (9, 10)], size := 11, bytes := 160, zero := .agg #[.string ⟨#[]⟩, .string ⟨#[]⟩, .string ⟨#[]⟩, .int .i64 0, .int .i64 0, .bool false, .int .i64 0, .string ⟨#[]⟩, .slice none 0 0, .slice none 0 0, .string ⟨#[]⟩] } :=
  ⟨⟨_, Tryz.underlying149, rfl, by
      intro F hF
      simp only [List.mem_cons, List.not_mem_nil, or_false] at hF
      rcases hF with rfl | rfl | rfl | rfl | rfl | rfl
      · exact ty_has (by kernel_rfl)
      · exact ty_has (by kernel_rfl)
      · exact ty_has (by kernel_rfl)
      · exact ty_has (by kernel_rfl)
      · exact ty_has (by kernel_rfl)
      · exact ty_has (by kernel_rfl)⟩, by decide, by decide, by decide, by decide, by decide, ty_info (by kernel_rfl)⟩
theorem tyOk150 : TyOk Tryz.prog 150 { k := .struct [(9, 0), (9, 1), (9, 2), (3, 3), (25, 4), (9, 10)], size := 11, bytes := 160, zero := .agg #[.string ⟨#[]⟩, .string ⟨#[]⟩, .string ⟨#[]⟩, .int .i64 0, .int .i64 0, .bool false, .int .i64 0, .string ⟨#[]⟩, .slice none 0 0, .slice none 0 0, .string ⟨#[]⟩] } :=
  ⟨⟨_, Tryz.underlying150, rfl, by
      intro F hF
      simp only [List.mem_cons, List.not_mem_nil, or_false] at hF
      rcases hF with rfl | rfl | rfl | rfl | rfl | rfl
      · exact ty_has (by kernel_rfl)
      · exact ty_has (by kernel_rfl)
      · exact ty_has (by kernel_rfl)
      · exact ty_has (by kernel_rfl)
      · exact ty_has (by kernel_rfl)
      · exact ty_has (by kernel_rfl)⟩, by decide, by decide, by decide, by decide, by decide, ty_info (by kernel_rfl)⟩
theorem tyOk154 : TyOk Tryz.prog 154 { k := .struct [(9, 0), (9, 1), (9, 2), (9, 3), (3, 4), (25, 5), (9, 11), (23, 12)], size := 13, bytes := 200, zero := .agg #[.string ⟨#[]⟩, .string ⟨#[]⟩, .string ⟨#[]⟩, .string ⟨#[]⟩, .int .i64 0, .int .i64 0, .bool false, .int .i64 0, .string ⟨#[]⟩, .slice none 0 0, .slice none 0 0, .string ⟨#[]⟩, .slice none 0 0] } :=
  ⟨⟨_, Tryz.underlying154, rfl, by
      intro F hF
      simp only [List.mem_cons, List.not_mem_nil, or_false] at hF
      rcases hF with rfl | rfl | rfl | rfl | rfl | rfl | rfl | rfl
      · exact ty_has (by kernel_rfl)
      · exact ty_has (by kernel_rfl)
      · exact ty_has (by kernel_rfl)
      · exact ty_has (by kernel_rfl)
      · exact ty_has (by kernel_rfl)
      · exact ty_has (by kernel_rfl)
      · exact ty_has (by kernel_rfl)
      · exact ty_has (by kernel_rfl)⟩, by decide, by decide, by decide, by decide, by decide, ty_info (by kernel_rfl)⟩
theorem tyOk155 : TyOk Tryz.prog 155 { k := .struct [(9, 0), (9, 1), (9, 2), (9, 3), (3, 4), (25, 5), (9, 11), (23, 12)], size := 13, bytes := 200, zero := .agg #[.string ⟨#[]⟩, .string ⟨#[]⟩, .string ⟨#[]⟩, .string ⟨#[]⟩, .int .i64 0, .int .i64 0, .bool false, .int .i64 0, .string ⟨#[]⟩, .slice none 0 0, .slice none 0 0, .string ⟨#[]⟩, .slice none 0 0] } :=
  ⟨⟨_, Tryz.underlying155, rfl, by
      intro F hF
      simp only [List.mem_cons, List.not_mem_nil, or_false] at hF
      rcases hF with rfl | rfl | rfl | rfl | rfl | rfl | rfl | rfl
      · exact ty_has (by kernel_rfl)
      · exact ty_has (by kernel_rfl)
      · exact ty_has (by kernel_rfl)
      · exact ty_has (by kernel_rfl)
      · exact ty_has (by kernel_rfl)
      · exact ty_has (by kernel_rfl)
      · exact ty_has (by kernel_rfl)
      · exact ty_has (by kernel_rfl)⟩, by decide, by decide, by decide, by decide, by decide, ty_info (by kernel_rfl)⟩
theorem tyOk159 : TyOk Tryz.prog 159 { k := .struct [(9, 0), (9, 1), (9, 2), (63, 3)], size := 4, bytes := 72, zero := .agg #[.string ⟨#[]⟩, .string ⟨#[]⟩, .string ⟨#[]⟩, .slice none 0 0] } :=
  ⟨⟨_, Tryz.underlying159, rfl, by
      intro F hF
      simp only [List.mem_cons, List.not_mem_nil, or_false] at hF
      rcases hF with rfl | rfl | rfl | rfl
      · exact ty_has (by kernel_rfl)
      · exact ty_has (by kernel_rfl)
      · exact ty_has (by kernel_rfl)
      · exact ty_has (by kernel_rfl)⟩, by decide, by decide, by decide, by decide, by decide, ty_info (by kernel_rfl)⟩
theorem tyOk160 : TyOk Tryz.prog 160 { k := .struct [(9, 0), (9, 1), (9, 2), (63, 3)], size := 4, bytes := 72, zero := .agg #[.string ⟨#[]⟩, .string ⟨#[]⟩, .string ⟨#[]⟩, .slice none 0 0] } :=
  ⟨⟨_, Tryz.underlying160, rfl, by
      intro F hF
      simp only [List.mem_cons, List.not_mem_nil, or_false] at hF
      rcases hF with rfl | rfl | rfl | rfl
      · exact ty_has (by kernel_rfl)
      · exact ty_has (by kernel_rfl)
      · exact ty_has (by kernel_rfl)
      · exact ty_has (by kernel_rfl)⟩, by decide, by decide, by decide, by decide, by decide, ty_info (by kernel_rfl)⟩
theorem tyOk164 : TyOk Tryz.prog 164 { k := .struct [(9, 0), (9, 1)], size := 2, bytes := 32, zero := .agg #[.string ⟨#[]⟩, .string ⟨#[]⟩] } :=
  ⟨⟨_, Tryz.underlying164, rfl, by
      intro F hF
      simp only [List.mem_cons, List.not_mem_nil, or_false] at hF
      rcases hF with rfl | rfl
      · exact ty_has (by kernel_rfl)
      · exact ty_has (by kernel_rfl)⟩, by decide, by decide, by decide, by decide, by decide, ty_info (by kernel_rfl)⟩
theorem tyOk165 : TyOk Tryz.prog 165 { k := .struct [(9, 0), (9, 1)], size := 2, bytes := 32, zero := .agg #[.string ⟨#[]⟩, .string ⟨#[]⟩] } :=
  ⟨⟨_, Tryz.underlying165, rfl, by
      intro F hF
      simp only [List.mem_cons, List.not_mem_nil, or_false] at hF
      rcases hF with rfl | rfl
      · exact ty_has (by kernel_rfl)
      · exact ty_has (by kernel_rfl)⟩, by decide, by decide, by decide, by decide, by decide, ty_info (by kernel_rfl)⟩
theorem tyOk168 : TyOk Tryz.prog 168 { k := .struct [(9, 0), (3, 1), (9, 2)], size := 3, bytes := 40, zero := .agg #[.string ⟨#[]⟩, .int .i64 0, .string ⟨#[]⟩] } :=
  ⟨⟨_, Tryz.underlying168, rfl, by
      intro F hF
      simp only [List.mem_cons, List.not_mem_nil, or_false] at hF
      rcases hF with rfl | rfl | rfl
      · exact ty_has (by kernel_rfl)
      · exact ty_has (by kernel_rfl)
      · exact ty_has (by kernel_rfl)⟩, by decide, by decide, by decide, by decide, by decide, ty_info (by kernel_rfl)⟩
theorem tyOk169 : TyOk Tryz.prog 169 { k := .struct [(9, 0), (3, 1), (9, 2)], size := 3, bytes := 40, zero := .agg #[.string ⟨#[]⟩, .int .i64 0, .string ⟨#[]⟩] } :=
  ⟨⟨_, Tryz.underlying169, rfl, by
      intro F hF
      simp only [List.mem_cons, List.not_mem_nil, or_false] at hF
      rcases hF with rfl | rfl | rfl
      · exact ty_has (by kernel_rfl)
      · exact ty_has (by kernel_rfl)
      · exact ty_has (by kernel_rfl)⟩, by decide, by decide, by decide, by decide, by decide, ty_info (by kernel_rfl)⟩
theorem tyOk174 : TyOk Tryz.prog 174 { k := .struct [(25, 0), (90, 6)], size := 7, bytes := 112, zero := .agg #[.int .i64 0, .bool false, .int .i64 0, .string ⟨#[]⟩, .slice none 0 0, .slice none 0 0, .slice none 0 0] } :=
  ⟨⟨_, Tryz.underlying174, rfl, by
      intro F hF
      simp only [List.mem_cons, List.not_mem_nil, or_false] at hF
      rcases hF with rfl | rfl
      · exact ty_has (by kernel_rfl)
      · exact ty_has (by kernel_rfl)⟩, by decide, by decide, by decide, by decide, by decide, ty_info (by kernel_rfl)⟩
theorem tyOk175 : TyOk Tryz.prog 175 { k := .struct [(25, 0), (90, 6)], size := 7, bytes := 112, zero := .agg #[.int .i64 0, .bool false, .int .i64 0, .string ⟨#[]⟩, .slice none 0 0, .slice none 0 0, .slice none 0 0] } :=
  ⟨⟨_, Tryz.underlying175, rfl, by
      intro F hF
      simp only [List.mem_cons, List.not_mem_nil, or_false] at hF
      rcases hF with rfl | rfl
      · exact ty_has (by kernel_rfl)
      · exact ty_has (by kernel_rfl)⟩, by decide, by decide, by decide, by decide, by decide, ty_info (by kernel_rfl)⟩
theorem tyOk179 : TyOk Tryz.prog 179 { k := .struct [(3, 0), (3, 1), (90, 2)], size := 3, bytes := 40, zero := .agg #[.int .i64 0, .int .i64 0, .slice none 0 0] } :=
  ⟨⟨_, Tryz.underlying179, rfl, by
      intro F hF
      simp only [List.mem_cons, List.not_mem_nil, or_false] at hF
      rcases hF with rfl | rfl | rfl
      · exact ty_has (by kernel_rfl)
      · exact ty_has (by kernel_rfl)
      · exact ty_has (by kernel_rfl)⟩, by decide, by decide, by decide, by decide, by decide, ty_info (by kernel_rfl)⟩
theorem tyOk180 : TyOk Tryz.prog 180 { k := .struct [(3, 0), (3, 1), (90, 2)], size := 3, bytes := 40, zero := .agg #[.int .i64 0, .int .i64 0, .slice none 0 0] } :=
  ⟨⟨_, Tryz.underlying180, rfl, by
      intro F hF
      simp only [List.mem_cons, List.not_mem_nil, or_false] at hF
      rcases hF with rfl | rfl | rfl
      · exact ty_has (by kernel_rfl)
      · exact ty_has (by kernel_rfl)
      · exact ty_has (by kernel_rfl)⟩, by decide, by decide, by decide, by decide, by decide, ty_info (by kernel_rfl)⟩
theorem tyOk184 : TyOk Tryz.prog 184 { k := .struct [(9, 0), (9, 1), (90, 2)], size := 3, bytes := 56, zero := .agg #[.string ⟨#[]⟩, .string ⟨#[]⟩, .slice none 0 0] } :=
  ⟨⟨_, Tryz.underlying184, rfl, by
      intro F hF
      simp only [List.mem_cons, List.not_mem_nil, or_false] at hF
      rcases hF with rfl | rfl | rfl
      · exact ty_has (by kernel_rfl)
      · exact ty_has (by kernel_rfl)
      · exact ty_has (by kernel_rfl)⟩, by decide, by decide, by decide, by decide, by decide, ty_info (by kernel_rfl)⟩
theorem tyOk185 : TyOk Tryz.prog 185 { k := .struct [(9, 0), (9, 1), (90, 2)], size := 3, bytes := 56, zero := .agg #[.string ⟨#[]⟩, .string ⟨#[]⟩, .slice none 0 0] } :=
  ⟨⟨_, Tryz.underlying185, rfl, by
      intro F hF
      simp only [List.mem_cons, List.not_mem_nil, or_false] at hF
      rcases hF with rfl | rfl | rfl
      · exact ty_has (by kernel_rfl)
      · exact ty_has (by kernel_rfl)
      · exact ty_has (by kernel_rfl)⟩, by decide, by decide, by decide, by decide, by decide, ty_info (by kernel_rfl)⟩
theorem tyOk192 : TyOk Tryz.prog 192 { k := .sl 23, size := 1, bytes := 24, zero := .slice none 0 0 } :=
  ⟨Tryz.underlying192, by decide, by decide, by decide, by decide, by decide, ty_info (by kernel_rfl)⟩
theorem tyOk195 : TyOk Tryz.prog 195 { k := .struct [(9, 0), (3, 1), (3, 2), (55, 3)], size := 4, bytes := 56, zero := .agg #[.string ⟨#[]⟩, .int .i64 0, .int .i64 0, .slice none 0 0] } :=
  ⟨⟨_, Tryz.underlying195, rfl, by
      intro F hF
      simp only [List.mem_cons, List.not_mem_nil, or_false] at hF
      rcases hF with rfl | rfl | rfl | rfl
      · exact ty_has (by kernel_rfl)
      · exact ty_has (by kernel_rfl)
      · exact ty_has (by kernel_rfl)
      · exact ty_has (by kernel_rfl)⟩, by decide, by decide, by decide, by decide, by decide, ty_info (by kernel_rfl)⟩
theorem tyOk196 : TyOk Tryz.prog 196 { k := .struct [(9, 0), (3, 1), (3, 2), (55, 3)], size := 4, bytes := 56, zero := .agg #[.string ⟨#[]⟩, .int .i64 0, .int .i64 0, .slice none 0 0] } :=
  ⟨⟨_, Tryz.underlying196, rfl, by
      intro F hF
      simp only [List.mem_cons, List.not_mem_nil, or_false] at hF
      rcases hF with rfl | rfl | rfl | rfl
      · exact ty_has (by kernel_rfl)
      · exact ty_has (by kernel_rfl)
      · exact ty_has (by kernel_rfl)
      · exact ty_has (by kernel_rfl)⟩, by decide, by decide, by decide, by decide, by decide, ty_info (by kernel_rfl)⟩
theorem tyOk207 : TyOk Tryz.prog 207 { k := .int .u64, size := 1, bytes := 8, zero := .int .u64 0 } :=
  ⟨Tryz.underlying207, by decide, by decide, by decide, by decide, by decide, ty_info (by kernel_rfl)⟩
theorem tyOk217 : TyOk Tryz.prog 217 { k := .int .i64, size := 1, bytes := 8, zero := .int .i64 0 } :=
  ⟨Tryz.underlying217, by decide, by decide, by decide, by decide, by decide, ty_info (by kernel_rfl)⟩
theorem tyOk225 : TyOk Tryz.prog 225 { k := .int .u32, size := 1, bytes := 4, zero := .int .u32 0 } :=
  ⟨Tryz.underlying225, by decide, by decide, by decide, by decide, by decide, ty_info (by kernel_rfl)⟩
theorem tyOk227 : TyOk Tryz.prog 227 { k := .int .u64, size := 1, bytes := 8, zero := .int .u64 0 } :=
  ⟨Tryz.underlying227, by decide, by decide, by decide, by decide, by decide, ty_info (by kernel_rfl)⟩
theorem tyOk231 : TyOk Tryz.prog 231 { k := .int .u64, size := 1, bytes := 8, zero := .int .u64 0 } :=
  ⟨Tryz.underlying231, by decide, by decide, by decide, by decide, by decide, ty_info (by kernel_rfl)⟩
theorem tyOk242 : TyOk Tryz.prog 242 { k := .struct [(5, 0), (5, 1)], size := 2, bytes := 2, zero := .agg #[.int .u8 0, .int .u8 0] } :=
  ⟨⟨_, Tryz.underlying242, rfl, by
      intro F hF
      simp only [List.mem_cons, List.not_mem_nil, or_false] at hF
      rcases hF with rfl | rfl
      · exact ty_has (by kernel_rfl)
      · exact ty_has (by kernel_rfl)⟩, by decide, by decide, by decide, by decide, by decide, ty_info (by kernel_rfl)⟩
theorem tyOk243 : TyOk Tryz.prog 243 { k := .struct [(5, 0), (5, 1)], size := 2, bytes := 2, zero := .agg #[.int .u8 0, .int .u8 0] } :=
  ⟨⟨_, Tryz.underlying243, rfl, by
      intro F hF
      simp only [List.mem_cons, List.not_mem_nil, or_false] at hF
      rcases hF with rfl | rfl
      · exact ty_has (by kernel_rfl)
      · exact ty_has (by kernel_rfl)⟩, by decide, by decide, by decide, by decide, by decide, ty_info (by kernel_rfl)⟩
theorem tyOk244 : TyOk Tryz.prog 244 { k := .arr 16 243, size := 32, bytes := 32, zero := .agg #[.int .u8 0, .int .u8 0, .int .u8 0, .int .u8 0, .int .u8 0, .int .u8 0, .int .u8 0, .int .u8 0, .int .u8 0, .int .u8 0, .int .u8 0, .int .u8 0, .int .u8 0, .int .u8 0, .int .u8 0, .int .u8 0, .int .u8 0, .int .u8 0, .int .u8 0, .int .u8 0, .int .u8 0, .int .u8 0, .int .u8 0, .int .u8 0, .int .u8 0, .int .u8 0, .int .u8 0, .int .u8 0, .int .u8 0, .int .u8 0, .int .u8 0, .int .u8 0] } :=
  ⟨Tryz.underlying244, by decide, by decide, by decide, by decide, by decide, ty_info (by kernel_rfl)⟩
theorem tyOk249 : TyOk Tryz.prog 249 { k := .struct [(17, 0), (17, 1), (17, 2), (9, 3)], size := 4, bytes := 40, zero := .agg #[.pointer none, .pointer none, .pointer none, .string ⟨#[]⟩] } :=
  ⟨⟨_, Tryz.underlying249, rfl, by
      intro F hF
      simp only [List.mem_cons, List.not_mem_nil, or_false] at hF
      rcases hF with rfl | rfl | rfl | rfl
      · exact ty_has (by kernel_rfl)
      · exact ty_has (by kernel_rfl)
      · exact ty_has (by kernel_rfl)
      · exact ty_has (by kernel_rfl)⟩, by decide, by decide, by decide, by decide, by decide, ty_info (by kernel_rfl)⟩
theorem tyOk250 : TyOk Tryz.prog 250 { k := .struct [(17, 0), (17, 1), (17, 2), (9, 3)], size := 4, bytes := 40, zero := .agg #[.pointer none, .pointer none, .pointer none, .string ⟨#[]⟩] } :=
  ⟨⟨_, Tryz.underlying250, rfl, by
      intro F hF
      simp only [List.mem_cons, List.not_mem_nil, or_false] at hF
      rcases hF with rfl | rfl | rfl | rfl
      · exact ty_has (by kernel_rfl)
      · exact ty_has (by kernel_rfl)
      · exact ty_has (by kernel_rfl)
      · exact ty_has (by kernel_rfl)⟩, by decide, by decide, by decide, by decide, by decide, ty_info (by kernel_rfl)⟩
theorem tyOk255 : TyOk Tryz.prog 255 { k := .int .u8, size := 1, bytes := 1, zero := .int .u8 0 } :=
  ⟨Tryz.underlying255, by decide, by decide, by decide, by decide, by decide, ty_info (by kernel_rfl)⟩
theorem tyOk256 : TyOk Tryz.prog 256 { k := .int .u8, size := 1, bytes := 1, zero := .int .u8 0 } :=
  ⟨Tryz.underlying256, by decide, by decide, by decide, by decide, by decide, ty_info (by kernel_rfl)⟩
theorem tyOk259 : TyOk Tryz.prog 259 { k := .int .i32, size := 1, bytes := 4, zero := .int .i32 0 } :=
  ⟨Tryz.underlying259, by decide, by decide, by decide, by decide, by decide, ty_info (by kernel_rfl)⟩
theorem tyOk260 : TyOk Tryz.prog 260 { k := .int .i32, size := 1, bytes := 4, zero := .int .i32 0 } :=
  ⟨Tryz.underlying260, by decide, by decide, by decide, by decide, by decide, ty_info (by kernel_rfl)⟩
theorem tyOk261 : TyOk Tryz.prog 261 { k := .struct [(12, 0), (12, 1), (225, 2), (255, 3), (5, 4), (5, 5), (256, 6), (257, 7), (258, 8), (259, 9), (260, 10)], size := 11, bytes := 48, zero := .agg #[.int .u64 0, .int .u64 0, .int .u32 0, .int .u8 0, .int .u8 0, .int .u8 0, .int .u8 0, .nilFunc, .pointer none, .int .i32 0, .int .i32 0] } :=
  ⟨⟨_, Tryz.underlying261, rfl, by
      intro F hF
      simp only [List.mem_cons, List.not_mem_nil, or_false] at hF
      rcases hF with rfl | rfl | rfl | rfl | rfl | rfl | rfl | rfl | rfl | rfl | rfl
      · exact ty_has (by kernel_rfl)
      · exact ty_has (by kernel_rfl)
      · exact ty_has (by kernel_rfl)
      · exact ty_has (by kernel_rfl)
      · exact ty_has (by kernel_rfl)
      · exact ty_has (by kernel_rfl)
      · exact ty_has (by kernel_rfl)
      · exact ty_has (by kernel_rfl)
      · exact ty_has (by kernel_rfl)
      · exact ty_has (by kernel_rfl)
      · exact ty_has (by kernel_rfl)⟩, by decide, by decide, by decide, by decide, by decide, ty_info (by kernel_rfl)⟩
theorem tyOk262 : TyOk Tryz.prog 262 { k := .struct [(12, 0), (12, 1), (225, 2), (255, 3), (5, 4), (5, 5), (256, 6), (257, 7), (258, 8), (259, 9), (260, 10)], size := 11, bytes := 48, zero := .agg #[.int .u64 0, .int .u64 0, .int .u32 0, .int .u8 0, .int .u8 0, .int .u8 0, .int .u8 0, .nilFunc, .pointer none, .int .i32 0, .int .i32 0] } :=
  ⟨⟨_, Tryz.underlying262, rfl, by
      intro F hF
      simp only [List.mem_cons, List.not_mem_nil, or_false] at hF
      rcases hF with rfl | rfl | rfl | rfl | rfl | rfl | rfl | rfl | rfl | rfl | rfl
      · exact ty_has (by kernel_rfl)
      · exact ty_has (by kernel_rfl)
      · exact ty_has (by kernel_rfl)
      · exact ty_has (by kernel_rfl)
      · exact ty_has (by kernel_rfl)
      · exact ty_has (by kernel_rfl)
      · exact ty_has (by kernel_rfl)
      · exact ty_has (by kernel_rfl)
      · exact ty_has (by kernel_rfl)
      · exact ty_has (by kernel_rfl)
      · exact ty_has (by kernel_rfl)⟩, by decide, by decide, by decide, by decide, by decide, ty_info (by kernel_rfl)⟩
theorem tyOk266 : TyOk Tryz.prog 266 { k := .arr 2 9, size := 2, bytes := 32, zero := .agg #[.string ⟨#[]⟩, .string ⟨#[]⟩] } :=
  ⟨Tryz.underlying266, by decide, by decide, by decide, by decide, by decide, ty_info (by kernel_rfl)⟩
theorem tyOk1 : TyOk Tryz.prog 1 { k := .func, size := 1, bytes := 8, zero := .nilFunc } :=
  ⟨⟨_, _, _, Tryz.underlying1⟩, by decide, by decide, by decide, by decide, by decide, ty_info (by kernel_rfl)⟩
theorem tyOk15 : TyOk Tryz.prog 15 { k := .ptr, size := 1, bytes := 8, zero := .pointer none } :=
  ⟨⟨_, Tryz.underlying15⟩, by decide, by decide, by decide, by decide, by decide, ty_info (by kernel_rfl)⟩
theorem tyOk16 : TyOk Tryz.prog 16 { k := .ptr, size := 1, bytes := 8, zero := .pointer none } :=
  ⟨⟨_, Tryz.underlying16⟩, by decide, by decide, by decide, by decide, by decide, ty_info (by kernel_rfl)⟩
theorem tyOk17 : TyOk Tryz.prog 17 { k := .ptr, size := 1, bytes := 8, zero := .pointer none } :=
  ⟨⟨_, Tryz.underlying17⟩, by decide, by decide, by decide, by decide, by decide, ty_info (by kernel_rfl)⟩
theorem tyOk20 : TyOk Tryz.prog 20 { k := .ifc, size := 1, bytes := 16, zero := .nilIface } :=
  ⟨⟨_, Tryz.underlying20⟩, by decide, by decide, by decide, by decide, by decide, ty_info (by kernel_rfl)⟩
theorem tyOk29 : TyOk Tryz.prog 29 { k := .func, size := 1, bytes := 8, zero := .nilFunc } :=
  ⟨⟨_, _, _, Tryz.underlying29⟩, by decide, by decide, by decide, by decide, by decide, ty_info (by kernel_rfl)⟩
theorem tyOk30 : TyOk Tryz.prog 30 { k := .func, size := 1, bytes := 8, zero := .nilFunc } :=
  ⟨⟨_, _, _, Tryz.underlying30⟩, by decide, by decide, by decide, by decide, by decide, ty_info (by kernel_rfl)⟩
theorem tyOk31 : TyOk Tryz.prog 31 { k := .func, size := 1, bytes := 8, zero := .nilFunc } :=
  ⟨⟨_, _, _, Tryz.underlying31⟩, by decide, by decide, by decide, by decide, by decide, ty_info (by kernel_rfl)⟩
theorem tyOk32 : TyOk Tryz.prog 32 { k := .func, size := 1, bytes := 8, zero := .nilFunc } :=
  ⟨⟨_, _, _, Tryz.underlying32⟩, by decide, by decide, by decide, by decide, by decide, ty_info (by kernel_rfl)⟩
theorem tyOk33 : TyOk Tryz.prog 33 { k := .ptr, size := 1, bytes := 8, zero := .pointer none } :=
  ⟨⟨_, Tryz.underlying33⟩, by decide, by decide, by decide, by decide, by decide, ty_info (by kernel_rfl)⟩
theorem tyOk36 : TyOk Tryz.prog 36 { k := .func, size := 1, bytes := 8, zero := .nilFunc } :=
  ⟨⟨_, _, _, Tryz.underlying36⟩, by decide, by decide, by decide, by decide, by decide, ty_info (by kernel_rfl)⟩
theorem tyOk38 : TyOk Tryz.prog 38 { k := .func, size := 1, bytes := 8, zero := .nilFunc } :=
  ⟨⟨_, _, _, Tryz.underlying38⟩, by decide, by decide, by decide, by decide, by decide, ty_info (by kernel_rfl)⟩
theorem tyOk40 : TyOk Tryz.prog 40 { k := .func, size := 1, bytes := 8, zero := .nilFunc } :=
  ⟨⟨_, _, _, Tryz.underlying40⟩, by decide, by decide, by decide, by decide, by decide, ty_info (by kernel_rfl)⟩
theorem tyOk43 : TyOk Tryz.prog 43 { k := .func, size := 1, bytes := 8, zero := .nilFunc } :=
  ⟨⟨_, _, _, Tryz.underlying43⟩, by decide, by decide, by decide, by decide, by decide, ty_info (by kernel_rfl)⟩
theorem tyOk46 : TyOk Tryz.prog 46 { k := .func, size := 1, bytes := 8, zero := .nilFunc } :=
  ⟨⟨_, _, _, Tryz.underlying46⟩, by decide, by decide, by decide, by decide, by decide, ty_info (by kernel_rfl)⟩
theorem tyOk48 : TyOk Tryz.prog 48 { k := .func, size := 1, bytes := 8, zero := .nilFunc } :=
  ⟨⟨_, _, _, Tryz.underlying48⟩, by decide, by decide, by decide, by decide, by decide, ty_info (by kernel_rfl)⟩
theorem tyOk73 : TyOk Tryz.prog 73 { k := .func, size := 1, bytes := 8, zero := .nilFunc } :=
  ⟨⟨_, _, _, Tryz.underlying73⟩, by decide, by decide, by decide, by decide, by decide, ty_info (by kernel_rfl)⟩
theorem tyOk76 : TyOk Tryz.prog 76 { k := .func, size := 1, bytes := 8, zero := .nilFunc } :=
  ⟨⟨_, _, _, Tryz.underlying76⟩, by decide, by decide, by decide, by decide, by decide, ty_info (by kernel_rfl)⟩
theorem tyOk81 : TyOk Tryz.prog 81 { k := .func, size := 1, bytes := 8, zero := .nilFunc } :=
  ⟨⟨_, _, _, Tryz.underlying81⟩, by decide, by decide, by decide, by decide, by decide, ty_info (by kernel_rfl)⟩
theorem tyOk84 : TyOk Tryz.prog 84 { k := .func, size := 1, bytes := 8, zero := .nilFunc } :=
  ⟨⟨_, _, _, Tryz.underlying84⟩, by decide, by decide, by decide, by decide, by decide, ty_info (by kernel_rfl)⟩
theorem tyOk87 : TyOk Tryz.prog 87 { k := .func, size := 1, bytes := 8, zero := .nilFunc } :=
  ⟨⟨_, _, _, Tryz.underlying87⟩, by decide, by decide, by decide, by decide, by decide, ty_info (by kernel_rfl)⟩
theorem tyOk94 : TyOk Tryz.prog 94 { k := .func, size := 1, bytes := 8, zero := .nilFunc } :=
  ⟨⟨_, _, _, Tryz.underlying94⟩, by decide, by decide, by decide, by decide, by decide, ty_info (by kernel_rfl)⟩
theorem tyOk97 : TyOk Tryz.prog 97 { k := .func, size := 1, bytes := 8, zero := .nilFunc } :=
  ⟨⟨_, _, _, Tryz.underlying97⟩, by decide, by decide, by decide, by decide, by decide, ty_info (by kernel_rfl)⟩
theorem tyOk102 : TyOk Tryz.prog 102 { k := .func, size := 1, bytes := 8, zero := .nilFunc } :=
  ⟨⟨_, _, _, Tryz.underlying102⟩, by decide, by decide, by decide, by decide, by decide, ty_info (by kernel_rfl)⟩
theorem tyOk107 : TyOk Tryz.prog 107 { k := .func, size := 1, bytes := 8, zero := .nilFunc } :=
  ⟨⟨_, _, _, Tryz.underlying107⟩, by decide, by decide, by decide, by decide, by decide, ty_info (by kernel_rfl)⟩
theorem tyOk113 : TyOk Tryz.prog 113 { k := .func, size := 1, bytes := 8, zero := .nilFunc } :=
  ⟨⟨_, _, _, Tryz.underlying113⟩, by decide, by decide, by decide, by decide, by decide, ty_info (by kernel_rfl)⟩
theorem tyOk114 : TyOk Tryz.prog 114 { k := .func, size := 1, bytes := 8, zero := .nilFunc } :=
  ⟨⟨_, _, _, Tryz.underlying114⟩, by decide, by decide, by decide, by decide, by decide, ty_info (by kernel_rfl)⟩
theorem tyOk115 : TyOk Tryz.prog 115 { k := .func, size := 1, bytes := 8, zero := .nilFunc } :=
  ⟨⟨_, _, _, Tryz.underlying115⟩, by decide, by decide, by decide, by decide, by decide, ty_info (by kernel_rfl)⟩
theorem tyOk116 : TyOk Tryz.prog 116 { k := .func, size := 1, bytes := 8, zero := .nilFunc } :=
  ⟨⟨_, _, _, Tryz.underlying116⟩, by decide, by decide, by decide, by decide, by decide, ty_info (by kernel_rfl)⟩
theorem tyOk118 : TyOk Tryz.prog 118 { k := .func, size := 1, bytes := 8, zero := .nilFunc } :=
  ⟨⟨_, _, _, Tryz.underlying118⟩, by decide, by decide, by decide, by decide, by decide, ty_info (by kernel_rfl)⟩
theorem tyOk119 : TyOk Tryz.prog 119 { k := .func, size := 1, bytes := 8, zero := .nilFunc } :=
  ⟨⟨_, _, _, Tryz.underlying119⟩, by decide, by decide, by decide, by decide, by decide, ty_info (by kernel_rfl)⟩
theorem tyOk120 : TyOk Tryz.prog 120 { k := .func, size := 1, bytes := 8, zero := .nilFunc } :=
  ⟨⟨_, _, _, Tryz.underlying120⟩, by decide, by decide, by decide, by decide, by decide, ty_info (by kernel_rfl)⟩
theorem tyOk121 : TyOk Tryz.prog 121 { k := .func, size := 1, bytes := 8, zero := .nilFunc } :=
  ⟨⟨_, _, _, Tryz.underlying121⟩, by decide, by decide, by decide, by decide, by decide, ty_info (by kernel_rfl)⟩
theorem tyOk122 : TyOk Tryz.prog 122 { k := .func, size := 1, bytes := 8, zero := .nilFunc } :=
  ⟨⟨_, _, _, Tryz.underlying122⟩, by decide, by decide, by decide, by decide, by decide, ty_info (by kernel_rfl)⟩
theorem tyOk123 : TyOk Tryz.prog 123 { k := .func, size := 1, bytes := 8, zero := .nilFunc } :=
  ⟨⟨_, _, _, Tryz.underlying123⟩, by decide, by decide, by decide, by decide, by decide, ty_info (by kernel_rfl)⟩
theorem tyOk124 : TyOk Tryz.prog 124 { k := .func, size := 1, bytes := 8, zero := .nilFunc } :=
  ⟨⟨_, _, _, Tryz.underlying124⟩, by decide, by decide, by decide, by decide, by decide, ty_info (by kernel_rfl)⟩
theorem tyOk125 : TyOk Tryz.prog 125 { k := .func, size := 1, bytes := 8, zero := .nilFunc } :=
  ⟨⟨_, _, _, Tryz.underlying125⟩, by decide, by decide, by decide, by decide, by decide, ty_info (by kernel_rfl)⟩
theorem tyOk126 : TyOk Tryz.prog 126 { k := .func, size := 1, bytes := 8, zero := .nilFunc } :=
  ⟨⟨_, _, _, Tryz.underlying126⟩, by decide, by decide, by decide, by decide, by decide, ty_info (by kernel_rfl)⟩
theorem tyOk128 : TyOk Tryz.prog 128 { k := .func, size := 1, bytes := 8, zero := .nilFunc } :=
  ⟨⟨_, _, _, Tryz.underlying128⟩, by decide, by decide, by decide, by decide, by decide, ty_info (by kernel_rfl)⟩
theorem tyOk131 : TyOk Tryz.prog 131 { k := .func, size := 1, bytes := 8, zero := .nilFunc } :=
  ⟨⟨_, _, _, Tryz.underlying131⟩, by decide, by decide, by decide, by decide, by decide, ty_info (by kernel_rfl)⟩
theorem tyOk132 : TyOk Tryz.prog 132 { k := .func, size := 1, bytes := 8, zero := .nilFunc } :=
  ⟨⟨_, _, _, Tryz.underlying132⟩, by decide, by decide, by decide, by decide, by decide, ty_info (by kernel_rfl)⟩
theorem tyOk136 : TyOk Tryz.prog 136 { k := .func, size := 1, bytes := 8, zero := .nilFunc } :=
  ⟨⟨_, _, _, Tryz.underlying136⟩, by decide, by decide, by decide, by decide, by decide, ty_info (by kernel_rfl)⟩
theorem tyOk140 : TyOk Tryz.prog 140 { k := .func, size := 1, bytes := 8, zero := .nilFunc } :=
  ⟨⟨_, _, _, Tryz.underlying140⟩, by decide, by decide, by decide, by decide, by decide, ty_info (by kernel_rfl)⟩
theorem tyOk143 : TyOk Tryz.prog 143 { k := .func, size := 1, bytes := 8, zero := .nilFunc } :=
  ⟨⟨_, _, _, Tryz.underlying143⟩, by decide, by decide, by decide, by decide, by decide, ty_info (by kernel_rfl)⟩
theorem tyOk146 : TyOk Tryz.prog 146 { k := .func, size := 1, bytes := 8, zero := .nilFunc } :=
  ⟨⟨_, _, _, Tryz.underlying146⟩, by decide, by decide, by decide, by decide, by decide, ty_info (by kernel_rfl)⟩
theorem tyOk148 : TyOk Tryz.prog 148 { k := .func, size := 1, bytes := 8, zero := .nilFunc } :=
  ⟨⟨_, _, _, Tryz.underlying148⟩, by decide, by decide, by decide, by decide, by decide, ty_info (by kernel_rfl)⟩
theorem tyOk151 : TyOk Tryz.prog 151 { k := .func, size := 1, bytes := 8, zero := .nilFunc } :=
  ⟨⟨_, _, _, Tryz.underlying151⟩, by decide, by decide, by decide, by decide, by decide, ty_info (by kernel_rfl)⟩
theorem tyOk153 : TyOk Tryz.prog 153 { k := .func, size := 1, bytes := 8, zero := .nilFunc } :=
  ⟨⟨_, _, _, Tryz.underlying153⟩, by decide, by decide, by decide, by decide, by decide, ty_info (by kernel_rfl)⟩
theorem tyOk156 : TyOk Tryz.prog 156 { k := .func, size := 1, bytes := 8, zero := .nilFunc } :=
  ⟨⟨_, _, _, Tryz.underlying156⟩, by decide, by decide, by decide, by decide, by decide, ty_info (by kernel_rfl)⟩
theorem tyOk158 : TyOk Tryz.prog 158 { k := .func, size := 1, bytes := 8, zero := .nilFunc } :=
  ⟨⟨_, _, _, Tryz.underlying158⟩, by decide, by decide, by decide, by decide, by decide, ty_info (by kernel_rfl)⟩
theorem tyOk161 : TyOk Tryz.prog 161 { k := .func, size := 1, bytes := 8, zero := .nilFunc } :=
  ⟨⟨_, _, _, Tryz.underlying161⟩, by decide, by decide, by decide, by decide, by decide, ty_info (by kernel_rfl)⟩
theorem tyOk163 : TyOk Tryz.prog 163 { k := .func, size := 1, bytes := 8, zero := .nilFunc } :=
  ⟨⟨_, _, _, Tryz.underlying163⟩, by decide, by decide, by decide, by decide, by decide, ty_info (by kernel_rfl)⟩
theorem tyOk167 : TyOk Tryz.prog 167 { k := .func, size := 1, bytes := 8, zero := .nilFunc } :=
  ⟨⟨_, _, _, Tryz.underlying167⟩, by decide, by decide, by decide, by decide, by decide, ty_info (by kernel_rfl)⟩
theorem tyOk171 : TyOk Tryz.prog 171 { k := .func, size := 1, bytes := 8, zero := .nilFunc } :=
  ⟨⟨_, _, _, Tryz.underlying171⟩, by decide, by decide, by decide, by decide, by decide, ty_info (by kernel_rfl)⟩
theorem tyOk173 : TyOk Tryz.prog 173 { k := .func, size := 1, bytes := 8, zero := .nilFunc } :=
  ⟨⟨_, _, _, Tryz.underlying173⟩, by decide, by decide, by decide, by decide, by decide, ty_info (by kernel_rfl)⟩
theorem tyOk176 : TyOk Tryz.prog 176 { k := .func, size := 1, bytes := 8, zero := .nilFunc } :=
  ⟨⟨_, _, _, Tryz.underlying176⟩, by decide, by decide, by decide, by decide, by decide, ty_info (by kernel_rfl)⟩
theorem tyOk178 : TyOk Tryz.prog 178 { k := .func, size := 1, bytes := 8, zero := .nilFunc } :=
  ⟨⟨_, _, _, Tryz.underlying178⟩, by decide, by decide, by decide, by decide, by decide, ty_info (by kernel_rfl)⟩
theorem tyOk181 : TyOk Tryz.prog 181 { k := .func, size := 1, bytes := 8, zero := .nilFunc } :=
  ⟨⟨_, _, _, Tryz.underlying181⟩, by decide, by decide, by decide, by decide, by decide, ty_info (by kernel_rfl)⟩
theorem tyOk183 : TyOk Tryz.prog 183 { k := .func, size := 1, bytes := 8, zero := .nilFunc } :=
  ⟨⟨_, _, _, Tryz.underlying183⟩, by decide, by decide, by decide, by decide, by decide, ty_info (by kernel_rfl)⟩
theorem tyOk186 : TyOk Tryz.prog 186 { k := .func, size := 1, bytes := 8, zero := .nilFunc } :=
  ⟨⟨_, _, _, Tryz.underlying186⟩, by decide, by decide, by decide, by decide, by decide, ty_info (by kernel_rfl)⟩
theorem tyOk187 : TyOk Tryz.prog 187 { k := .func, size := 1, bytes := 8, zero := .nilFunc } :=
  ⟨⟨_, _, _, Tryz.underlying187⟩, by decide, by decide, by decide, by decide, by decide, ty_info (by kernel_rfl)⟩
theorem tyOk188 : TyOk Tryz.prog 188 { k := .func, size := 1, bytes := 8, zero := .nilFunc } :=
  ⟨⟨_, _, _, Tryz.underlying188⟩, by decide, by decide, by decide, by decide, by decide, ty_info (by kernel_rfl)⟩
theorem tyOk189 : TyOk Tryz.prog 189 { k := .func, size := 1, bytes := 8, zero := .nilFunc } :=
  ⟨⟨_, _, _, Tryz.underlying189⟩, by decide, by decide, by decide, by decide, by decide, ty_info (by kernel_rfl)⟩
theorem tyOk190 : TyOk Tryz.prog 190 { k := .func, size := 1, bytes := 8, zero := .nilFunc } :=
  ⟨⟨_, _, _, Tryz.underlying190⟩, by decide, by decide, by decide, by decide, by decide, ty_info (by kernel_rfl)⟩
theorem tyOk191 : TyOk Tryz.prog 191 { k := .func, size := 1, bytes := 8, zero := .nilFunc } :=
  ⟨⟨_, _, _, Tryz.underlying191⟩, by decide, by decide, by decide, by decide, by decide, ty_info (by kernel_rfl)⟩
theorem tyOk193 : TyOk Tryz.prog 193 { k := .func, size := 1, bytes := 8, zero := .nilFunc } :=
  ⟨⟨_, _, _, Tryz.underlying193⟩, by decide, by decide, by decide, by decide, by decide, ty_info (by kernel_rfl)⟩
theorem tyOk194 : TyOk Tryz.prog 194 { k := .func, size := 1, bytes := 8, zero := .nilFunc } :=
  ⟨⟨_, _, _, Tryz.underlying194⟩, by decide, by decide, by decide, by decide, by decide, ty_info (by kernel_rfl)⟩
theorem tyOk197 : TyOk Tryz.prog 197 { k := .func, size := 1, bytes := 8, zero := .nilFunc } :=
  ⟨⟨_, _, _, Tryz.underlying197⟩, by decide, by decide, by decide, by decide, by decide, ty_info (by kernel_rfl)⟩
theorem tyOk198 : TyOk Tryz.prog 198 { k := .func, size := 1, bytes := 8, zero := .nilFunc } :=
  ⟨⟨_, _, _, Tryz.underlying198⟩, by decide, by decide, by decide, by decide, by decide, ty_info (by kernel_rfl)⟩
theorem tyOk199 : TyOk Tryz.prog 199 { k := .func, size := 1, bytes := 8, zero := .nilFunc } :=
  ⟨⟨_, _, _, Tryz.underlying199⟩, by decide, by decide, by decide, by decide, by decide, ty_info (by kernel_rfl)⟩
theorem tyOk200 : TyOk Tryz.prog 200 { k := .func, size := 1, bytes := 8, zero := .nilFunc } :=
  ⟨⟨_, _, _, Tryz.underlying200⟩, by decide, by decide, by decide, by decide, by decide, ty_info (by kernel_rfl)⟩
theorem tyOk201 : TyOk Tryz.prog 201 { k := .func, size := 1, bytes := 8, zero := .nilFunc } :=
  ⟨⟨_, _, _, Tryz.underlying201⟩, by decide, by decide, by decide, by decide, by decide, ty_info (by kernel_rfl)⟩
theorem tyOk202 : TyOk Tryz.prog 202 { k := .func, size := 1, bytes := 8, zero := .nilFunc } :=
  ⟨⟨_, _, _, Tryz.underlying202⟩, by decide, by decide, by decide, by decide, by decide, ty_info (by kernel_rfl)⟩
theorem tyOk203 : TyOk Tryz.prog 203 { k := .func, size := 1, bytes := 8, zero := .nilFunc } :=
  ⟨⟨_, _, _, Tryz.underlying203⟩, by decide, by decide, by decide, by decide, by decide, ty_info (by kernel_rfl)⟩
theorem tyOk204 : TyOk Tryz.prog 204 { k := .func, size := 1, bytes := 8, zero := .nilFunc } :=
  ⟨⟨_, _, _, Tryz.underlying204⟩, by decide, by decide, by decide, by decide, by decide, ty_info (by kernel_rfl)⟩
theorem tyOk205 : TyOk Tryz.prog 205 { k := .func, size := 1, bytes := 8, zero := .nilFunc } :=
  ⟨⟨_, _, _, Tryz.underlying205⟩, by decide, by decide, by decide, by decide, by decide, ty_info (by kernel_rfl)⟩
theorem tyOk206 : TyOk Tryz.prog 206 { k := .func, size := 1, bytes := 8, zero := .nilFunc } :=
  ⟨⟨_, _, _, Tryz.underlying206⟩, by decide, by decide, by decide, by decide, by decide, ty_info (by kernel_rfl)⟩
theorem tyOk208 : TyOk Tryz.prog 208 { k := .func, size := 1, bytes := 8, zero := .nilFunc } :=
  ⟨⟨_, _, _, Tryz.underlying208⟩, by decide, by decide, by decide, by decide, by decide, ty_info (by kernel_rfl)⟩
theorem tyOk209 : TyOk Tryz.prog 209 { k := .func, size := 1, bytes := 8, zero := .nilFunc } :=
  ⟨⟨_, _, _, Tryz.underlying209⟩, by decide, by decide, by decide, by decide, by decide, ty_info (by kernel_rfl)⟩
theorem tyOk213 : TyOk Tryz.prog 213 { k := .func, size := 1, bytes := 8, zero := .nilFunc } :=
  ⟨⟨_, _, _, Tryz.underlying213⟩, by decide, by decide, by decide, by decide, by decide, ty_info (by kernel_rfl)⟩
theorem tyOk214 : TyOk Tryz.prog 214 { k := .func, size := 1, bytes := 8, zero := .nilFunc } :=
  ⟨⟨_, _, _, Tryz.underlying214⟩, by decide, by decide, by decide, by decide, by decide, ty_info (by kernel_rfl)⟩
theorem tyOk215 : TyOk Tryz.prog 215 { k := .ptr, size := 1, bytes := 8, zero := .pointer none } :=
  ⟨⟨_, Tryz.underlying215⟩, by decide, by decide, by decide, by decide, by decide, ty_info (by kernel_rfl)⟩
theorem tyOk216 : TyOk Tryz.prog 216 { k := .func, size := 1, bytes := 8, zero := .nilFunc } :=
  ⟨⟨_, _, _, Tryz.underlying216⟩, by decide, by decide, by decide, by decide, by decide, ty_info (by kernel_rfl)⟩
theorem tyOk219 : TyOk Tryz.prog 219 { k := .func, size := 1, bytes := 8, zero := .nilFunc } :=
  ⟨⟨_, _, _, Tryz.underlying219⟩, by decide, by decide, by decide, by decide, by decide, ty_info (by kernel_rfl)⟩
theorem tyOk220 : TyOk Tryz.prog 220 { k := .func, size := 1, bytes := 8, zero := .nilFunc } :=
  ⟨⟨_, _, _, Tryz.underlying220⟩, by decide, by decide, by decide, by decide, by decide, ty_info (by kernel_rfl)⟩
theorem tyOk221 : TyOk Tryz.prog 221 { k := .func, size := 1, bytes := 8, zero := .nilFunc } :=
  ⟨⟨_, _, _, Tryz.underlying221⟩, by decide, by decide, by decide, by decide, by decide, ty_info (by kernel_rfl)⟩
theorem tyOk222 : TyOk Tryz.prog 222 { k := .func, size := 1, bytes := 8, zero := .nilFunc } :=
  ⟨⟨_, _, _, Tryz.underlying222⟩, by decide, by decide, by decide, by decide, by decide, ty_info (by kernel_rfl)⟩
theorem tyOk223 : TyOk Tryz.prog 223 { k := .func, size := 1, bytes := 8, zero := .nilFunc } :=
  ⟨⟨_, _, _, Tryz.underlying223⟩, by decide, by decide, by decide, by decide, by decide, ty_info (by kernel_rfl)⟩
theorem tyOk224 : TyOk Tryz.prog 224 { k := .func, size := 1, bytes := 8, zero := .nilFunc } :=
  ⟨⟨_, _, _, Tryz.underlying224⟩, by decide, by decide, by decide, by decide, by decide, ty_info (by kernel_rfl)⟩
theorem tyOk226 : TyOk Tryz.prog 226 { k := .func, size := 1, bytes := 8, zero := .nilFunc } :=
  ⟨⟨_, _, _, Tryz.underlying226⟩, by decide, by decide, by decide, by decide, by decide, ty_info (by kernel_rfl)⟩
theorem tyOk229 : TyOk Tryz.prog 229 { k := .func, size := 1, bytes := 8, zero := .nilFunc } :=
  ⟨⟨_, _, _, Tryz.underlying229⟩, by decide, by decide, by decide, by decide, by decide, ty_info (by kernel_rfl)⟩
theorem tyOk230 : TyOk Tryz.prog 230 { k := .func, size := 1, bytes := 8, zero := .nilFunc } :=
  ⟨⟨_, _, _, Tryz.underlying230⟩, by decide, by decide, by decide, by decide, by decide, ty_info (by kernel_rfl)⟩
theorem tyOk232 : TyOk Tryz.prog 232 { k := .func, size := 1, bytes := 8, zero := .nilFunc } :=
  ⟨⟨_, _, _, Tryz.underlying232⟩, by decide, by decide, by decide, by decide, by decide, ty_info (by kernel_rfl)⟩
theorem tyOk233 : TyOk Tryz.prog 233 { k := .func, size := 1, bytes := 8, zero := .nilFunc } :=
  ⟨⟨_, _, _, Tryz.underlying233⟩, by decide, by decide, by decide, by decide, by decide, ty_info (by kernel_rfl)⟩
theorem tyOk234 : TyOk Tryz.prog 234 { k := .func, size := 1, bytes := 8, zero := .nilFunc } :=
  ⟨⟨_, _, _, Tryz.underlying234⟩, by decide, by decide, by decide, by decide, by decide, ty_info (by kernel_rfl)⟩
theorem tyOk235 : TyOk Tryz.prog 235 { k := .ptr, size := 1, bytes := 8, zero := .pointer none } :=
  ⟨⟨_, Tryz.underlying235⟩, by decide, by decide, by decide, by decide, by decide, ty_info (by kernel_rfl)⟩
theorem tyOk236 : TyOk Tryz.prog 236 { k := .func, size := 1, bytes := 8, zero := .nilFunc } :=
  ⟨⟨_, _, _, Tryz.underlying236⟩, by decide, by decide, by decide, by decide, by decide, ty_info (by kernel_rfl)⟩
theorem tyOk237 : TyOk Tryz.prog 237 { k := .func, size := 1, bytes := 8, zero := .nilFunc } :=
  ⟨⟨_, _, _, Tryz.underlying237⟩, by decide, by decide, by decide, by decide, by decide, ty_info (by kernel_rfl)⟩
theorem tyOk238 : TyOk Tryz.prog 238 { k := .ptr, size := 1, bytes := 8, zero := .pointer none } :=
  ⟨⟨_, Tryz.underlying238⟩, by decide, by decide, by decide, by decide, by decide, ty_info (by kernel_rfl)⟩
theorem tyOk240 : TyOk Tryz.prog 240 { k := .func, size := 1, bytes := 8, zero := .nilFunc } :=
  ⟨⟨_, _, _, Tryz.underlying240⟩, by decide, by decide, by decide, by decide, by decide, ty_info (by kernel_rfl)⟩
theorem tyOk245 : TyOk Tryz.prog 245 { k := .func, size := 1, bytes := 8, zero := .nilFunc } :=
  ⟨⟨_, _, _, Tryz.underlying245⟩, by decide, by decide, by decide, by decide, by decide, ty_info (by kernel_rfl)⟩
theorem tyOk246 : TyOk Tryz.prog 246 { k := .func, size := 1, bytes := 8, zero := .nilFunc } :=
  ⟨⟨_, _, _, Tryz.underlying246⟩, by decide, by decide, by decide, by decide, by decide, ty_info (by kernel_rfl)⟩
theorem tyOk247 : TyOk Tryz.prog 247 { k := .func, size := 1, bytes := 8, zero := .nilFunc } :=
  ⟨⟨_, _, _, Tryz.underlying247⟩, by decide, by decide, by decide, by decide, by decide, ty_info (by kernel_rfl)⟩
theorem tyOk248 : TyOk Tryz.prog 248 { k := .func, size := 1, bytes := 8, zero := .nilFunc } :=
  ⟨⟨_, _, _, Tryz.underlying248⟩, by decide, by decide, by decide, by decide, by decide, ty_info (by kernel_rfl)⟩
theorem tyOk254 : TyOk Tryz.prog 254 { k := .func, size := 1, bytes := 8, zero := .nilFunc } :=
  ⟨⟨_, _, _, Tryz.underlying254⟩, by decide, by decide, by decide, by decide, by decide, ty_info (by kernel_rfl)⟩
theorem tyOk257 : TyOk Tryz.prog 257 { k := .func, size := 1, bytes := 8, zero := .nilFunc } :=
  ⟨⟨_, _, _, Tryz.underlying257⟩, by decide, by decide, by decide, by decide, by decide, ty_info (by kernel_rfl)⟩
theorem tyOk258 : TyOk Tryz.prog 258 { k := .ptr, size := 1, bytes := 8, zero := .pointer none } :=
  ⟨⟨_, Tryz.underlying258⟩, by decide, by decide, by decide, by decide, by decide, ty_info (by kernel_rfl)⟩
theorem tyOk263 : TyOk Tryz.prog 263 { k := .func, size := 1, bytes := 8, zero := .nilFunc } :=
  ⟨⟨_, _, _, Tryz.underlying263⟩, by decide, by decide, by decide, by decide, by decide, ty_info (by kernel_rfl)⟩
def TabOk (P : Program) : List (Nat × TyI) → Prop
  | [] => True
  | p :: r => TyOk P p.1 p.2 ∧ TabOk P r
theorem TabOk.mem {P : Program} : ∀ {l : List (Nat × TyI)}, TabOk P l → ∀ {p : Nat × TyI}, p ∈ l → TyOk P p.1 p.2
  | [], _, p, h => by cases h
  | q :: r, hl, p, h => by
    rcases List.mem_cons.1 h with rfl | h
    · exact hl.1
    · exact TabOk.mem hl.2 h
set_option maxHeartbeats 4000000 in
theorem tyTab_ok : TabOk Tryz.prog tyTab :=
  ⟨tyOk2, tyOk3, tyOk4, tyOk5, tyOk6, tyOk7, tyOk8, tyOk9, tyOk10, tyOk11, tyOk12, tyOk13, tyOk14, tyOk18, tyOk19, tyOk21, tyOk22, tyOk23, tyOk24, tyOk25, tyOk26, tyOk27, tyOk34, tyOk35, tyOk41, tyOk44, tyOk45, tyOk49, tyOk50, tyOk51, tyOk52, tyOk53, tyOk54, tyOk55, tyOk56, tyOk57, tyOk58, tyOk59, tyOk60, tyOk61, tyOk62, tyOk63, tyOk64, tyOk65, tyOk66, tyOk67, tyOk68, tyOk69, tyOk70, tyOk71, tyOk74, tyOk75, tyOk77, tyOk78, tyOk79, tyOk82, tyOk83, tyOk85, tyOk88, tyOk89, tyOk90, tyOk91, tyOk92, tyOk95, tyOk98, tyOk99, tyOk100, tyOk103, tyOk104, tyOk105, tyOk108, tyOk109, tyOk110, tyOk111, tyOk129, tyOk130, tyOk133, tyOk134, tyOk137, tyOk138, tyOk139, tyOk144, tyOk145, tyOk149, tyOk150, tyOk154, tyOk155, tyOk159, tyOk160, tyOk164, tyOk165, tyOk168, tyOk169, tyOk174, tyOk175, tyOk179, tyOk180, tyOk184, tyOk185, tyOk192, tyOk195, tyOk196, tyOk207, tyOk217, tyOk225, tyOk227, tyOk231, tyOk242, tyOk243, tyOk244, tyOk249, tyOk250, tyOk255, tyOk256, tyOk259, tyOk260, tyOk261, tyOk262, tyOk266, tyOk1, tyOk15, tyOk16, tyOk17, tyOk20, tyOk29, tyOk30, tyOk31, tyOk32, tyOk33, tyOk36, tyOk38, tyOk40, tyOk43, tyOk46, tyOk48, tyOk73, tyOk76, tyOk81, tyOk84, tyOk87, tyOk94, tyOk97, tyOk102, tyOk107, tyOk113, tyOk114, tyOk115, tyOk116, tyOk118, tyOk119, tyOk120, tyOk121, tyOk122, tyOk123, tyOk124, tyOk125, tyOk126, tyOk128, tyOk131, tyOk132, tyOk136, tyOk140, tyOk143, tyOk146, tyOk148, tyOk151, tyOk153, tyOk156, tyOk158, tyOk161, tyOk163, tyOk167, tyOk171, tyOk173, tyOk176, tyOk178, tyOk181, tyOk183, tyOk186, tyOk187, tyOk188, tyOk189, tyOk190, tyOk191, tyOk193, tyOk194, tyOk197, tyOk198, tyOk199, tyOk200, tyOk201, tyOk202, tyOk203, tyOk204, tyOk205, tyOk206, tyOk208, tyOk209, tyOk213, tyOk214, tyOk215, tyOk216, tyOk219, tyOk220, tyOk221, tyOk222, tyOk223, tyOk224, tyOk226, tyOk229, tyOk230, tyOk232, tyOk233, tyOk234, tyOk235, tyOk236, tyOk237, tyOk238, tyOk240, tyOk245, tyOk246, tyOk247, tyOk248, tyOk254, tyOk257, tyOk258, tyOk263, trivial⟩
theorem tyT_all (t : TypeId) : TyOk Tryz.prog t (tyT t) := by
  unfold tyT
  split
  · rename_i i h
    exact tyTab_ok.mem (findB_mem h)
  · trivial
def seTab : List Nat := [89, 99, 104, 109, 134, 165, 169]
def seB (t : TypeId) : Bool := elemB seTab t
def SeOk (P : Program) : List Nat → Prop
  | [] => True
  | t :: r => SOk P t ∧ SeOk P r
theorem SeOk.mem {P : Program} : ∀ {l : List Nat}, SeOk P l → ∀ {t : Nat}, elemB l t = true → SOk P t
  | [], _, t, h => by cases h
  | q :: r, hl, t, h => by
    unfold elemB at h
    split at h
    · rename_i e
      rw [Nat.eq_of_beq_eq_true e]
      exact hl.1
    · exact SeOk.mem hl.2 h
theorem seTab_ok : SeOk Tryz.prog seTab := ⟨⟨Tryz.stoodInHeld89, Tryz.eqGuardType89, by kernel_rfl⟩, ⟨Tryz.stoodInHeld99, Tryz.eqGuardType99, by kernel_rfl⟩, ⟨Tryz.stoodInHeld104, Tryz.eqGuardType104, by kernel_rfl⟩, ⟨Tryz.stoodInHeld109, Tryz.eqGuardType109, by kernel_rfl⟩, ⟨Tryz.stoodInHeld134, Tryz.eqGuardType134, by kernel_rfl⟩, ⟨Tryz.stoodInHeld165, Tryz.eqGuardType165, by kernel_rfl⟩, ⟨Tryz.stoodInHeld169, Tryz.eqGuardType169, by kernel_rfl⟩, trivial⟩
structure TyS (P : Program) : Prop where
  ty : ∀ t, TyOk P t (tyT t)
  se : ∀ t, seB t = true → SOk P t
theorem tyT_ok : TyS Tryz.prog := ⟨tyT_all, fun _ h => seTab_ok.mem h⟩
end Go.Proofs.YtocehfhhmljejaaGreatDoor
