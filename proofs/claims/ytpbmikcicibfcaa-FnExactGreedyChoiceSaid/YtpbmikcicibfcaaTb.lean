/-
  The table of this seat's types, and that it agrees with the program's.
-/
import Derived.Test.YtpbmikcicibfcaaProg
import Derived.Test.YtpbmikcicibfcaaSc
namespace Go.Sx.U
open Go Go.Sx Go.Proofs

def tbl : Tbl := [
  (2, ⟨.int .i64, 1, 8, [.int .i64 0], 0⟩),
  (3, ⟨.int .i64, 1, 8, [.int .i64 0], 0⟩),
  (4, ⟨.bool, 1, 1, [.bool false], 0⟩),
  (5, ⟨.int .u8, 1, 1, [.int .u8 0], 0⟩),
  (6, ⟨.int .u8, 1, 1, [.int .u8 0], 0⟩),
  (7, ⟨.struct [(0, 1, false), (1, 1, false), (2, 1, false), (3, 1, false)], 4, 24, [.int .i64 0, .int .i64 0, .bool false, .int .u8 0], 0⟩),
  (8, ⟨.struct [(0, 1, false), (1, 1, false), (2, 1, false), (3, 1, false)], 4, 24, [.int .i64 0, .int .i64 0, .bool false, .int .u8 0], 0⟩),
  (9, ⟨.str, 1, 16, [.str ByteArray.empty], 0⟩),
  (10, ⟨.str, 1, 16, [.str ByteArray.empty], 0⟩),
  (11, ⟨.str, 1, 16, [.str ByteArray.empty], 0⟩),
  (12, ⟨.int .u64, 1, 8, [.int .u64 0], 0⟩),
  (13, ⟨.struct [(0, 1, false), (1, 1, false)], 2, 24, [.str ByteArray.empty, .int .u64 0], 0⟩),
  (14, ⟨.struct [(0, 1, false), (1, 1, false)], 2, 24, [.str ByteArray.empty, .int .u64 0], 0⟩),
  (15, ⟨.scalar, 1, 8, [.nilptr], 0⟩),
  (16, ⟨.scalar, 1, 8, [.nilptr], 0⟩),
  (17, ⟨.scalar, 1, 8, [.nilptr], 0⟩),
  (18, ⟨.struct [(0, 1, false)], 1, 8, [.nilptr], 0⟩),
  (19, ⟨.struct [(0, 1, false)], 1, 8, [.nilptr], 0⟩),
  (21, ⟨.int .i32, 1, 4, [.int .i32 0], 0⟩),
  (22, ⟨.slice 26 1 24 (.nestI .i64), 1, 24, [.nilsl], 0⟩),
  (23, ⟨.struct [(0, 1, false), (1, 1, false)], 2, 48, [.nilsl, .nilsl], 0⟩),
  (24, ⟨.struct [(0, 1, false), (1, 1, false)], 2, 48, [.nilsl, .nilsl], 0⟩),
  (25, ⟨.slice 79 4 32 (.r4), 1, 24, [.nilsl], 0⟩),
  (26, ⟨.slice 2 1 8 (.ints .i64), 1, 24, [.nilsl], 0⟩),
  (31, ⟨.struct [(0, 1, false), (1, 1, false)], 2, 48, [.nilsl, .nilsl], 0⟩),
  (33, ⟨.slice 58 4 32 (.r4), 1, 24, [.nilsl], 0⟩),
  (48, ⟨.slice 5 1 1 (.ints .u8), 1, 24, [.nilsl], 0⟩),
  (52, ⟨.slice 66 1 24 (.nestR2), 1, 24, [.nilsl], 0⟩),
  (55, ⟨.struct [(0, 1, false), (1, 1, false)], 2, 16, [.int .i64 0, .int .i64 0], 2⟩),
  (56, ⟨.struct [(0, 1, false), (1, 1, false)], 2, 16, [.int .i64 0, .int .i64 0], 2⟩),
  (57, ⟨.struct [(0, 2, true), (2, 2, true)], 4, 32, [.int .i64 0, .int .i64 0, .int .i64 0, .int .i64 0], 0⟩),
  (58, ⟨.struct [(0, 2, true), (2, 2, true)], 4, 32, [.int .i64 0, .int .i64 0, .int .i64 0, .int .i64 0], 0⟩),
  (66, ⟨.slice 56 2 16 (.r2), 1, 24, [.nilsl], 0⟩),
  (73, ⟨.scalar, 1, 8, [.nilptr], 0⟩),
  (77, ⟨.struct [(0, 1, false), (1, 1, false)], 2, 16, [.int .i64 0, .int .i64 0], 2⟩),
  (78, ⟨.struct [(0, 2, true), (2, 2, true)], 4, 32, [.int .i64 0, .int .i64 0, .int .i64 0, .int .i64 0], 0⟩),
  (79, ⟨.struct [(0, 2, true), (2, 2, true)], 4, 32, [.int .i64 0, .int .i64 0, .int .i64 0, .int .i64 0], 0⟩),
  (97, ⟨.slice 52 1 24 (.other), 1, 24, [.nilsl], 0⟩),
  (98, ⟨.scalar, 1, 8, [.nilptr], 0⟩),
  (123, ⟨.scalar, 1, 8, [.nilptr], 0⟩),
  (125, ⟨.int .u64, 1, 8, [.int .u64 0], 0⟩),
  (126, ⟨.struct [(0, 1, false), (1, 1, false), (2, 1, false)], 3, 40, [.nilsl, .int .i64 0, .int .u64 0], 0⟩),
  (127, ⟨.struct [(0, 1, false), (1, 1, false), (2, 1, false)], 3, 40, [.nilsl, .int .i64 0, .int .u64 0], 0⟩),
  (136, ⟨.int .u64, 1, 8, [.int .u64 0], 0⟩),
  (147, ⟨.int .u32, 1, 4, [.int .u32 0], 0⟩),
  (156, ⟨.int .i64, 1, 8, [.int .i64 0], 0⟩),
  (165, ⟨.slice 3 1 8 (.ints .i64), 1, 24, [.nilsl], 0⟩),
  (166, ⟨.int .u64, 1, 8, [.int .u64 0], 0⟩),
  (170, ⟨.scalar, 1, 8, [.nilptr], 0⟩),
  (172, ⟨.scalar, 1, 8, [.nilptr], 0⟩),
  (175, ⟨.struct [(0, 1, false), (1, 1, false), (2, 1, false), (3, 1, false)], 4, 40, [.nilptr, .nilptr, .nilptr, .str ByteArray.empty], 0⟩),
  (176, ⟨.struct [(0, 1, false), (1, 1, false), (2, 1, false), (3, 1, false)], 4, 40, [.nilptr, .nilptr, .nilptr, .str ByteArray.empty], 0⟩),
  (181, ⟨.int .u8, 1, 1, [.int .u8 0], 0⟩),
  (182, ⟨.int .u8, 1, 1, [.int .u8 0], 0⟩),
  (184, ⟨.scalar, 1, 8, [.nilptr], 0⟩),
  (185, ⟨.int .i32, 1, 4, [.int .i32 0], 0⟩),
  (186, ⟨.int .i32, 1, 4, [.int .i32 0], 0⟩),
  (187, ⟨.struct [(0, 1, false), (1, 1, false), (2, 1, false), (3, 1, false), (4, 1, false), (5, 1, false), (6, 1, false), (7, 1, false), (8, 1, false), (9, 1, false), (10, 1, false)], 11, 48, [], 0⟩),
  (188, ⟨.struct [(0, 1, false), (1, 1, false), (2, 1, false), (3, 1, false), (4, 1, false), (5, 1, false), (6, 1, false), (7, 1, false), (8, 1, false), (9, 1, false), (10, 1, false)], 11, 48, [], 0⟩)]

theorem tok : TblOK Try.prog tbl := tchk_sound (by kernel_rfl)
#print axioms tok
end Go.Sx.U
