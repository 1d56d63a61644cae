/-
  The table of this seat's types, and that it agrees with the program's.
-/
import Derived.Test.YtbjlbmehklfijaaProg
import Derived.Test.YtbjlbmehklfijaaSxQ
namespace Go.Sx.U
open Go Go.Sx Go.Proofs

def tbl : Tbl := [
  (2, ⟨.int .i64, 1, 8, [.int .i64 0], 0⟩),
  (3, ⟨.int .i64, 1, 8, [.int .i64 0], 0⟩),
  (4, ⟨.bool, 1, 1, [.bool false], 0⟩),
  (5, ⟨.int .u8, 1, 1, [.int .u8 0], 0⟩),
  (6, ⟨.int .u8, 1, 1, [.int .u8 0], 0⟩),
  (7, ⟨.struct [(0, 1, false), (1, 1, false), (2, 1, false), (3, 1, false)], 4, 24, [.int .i64 0, .int .i64 0, .bool false, .int .u8 0], 0⟩),
  (8, ⟨.struct [(0, 1, false), (1, 1, false), (2, 1, false), (3, 1, false)], 4, 24, [.int .i64 0, .int .i64 0, .bool false, .int .u8 0], 0⟩),
  (9, ⟨.str, 1, 16, [.str ByteArray.empty], 0⟩),
  (10, ⟨.str, 1, 16, [.str ByteArray.empty], 0⟩),
  (11, ⟨.str, 1, 16, [.str ByteArray.empty], 0⟩),
  (12, ⟨.int .u64, 1, 8, [.int .u64 0], 0⟩),
  (13, ⟨.struct [(0, 1, false), (1, 1, false)], 2, 24, [.str ByteArray.empty, .int .u64 0], 0⟩),
  (14, ⟨.struct [(0, 1, false), (1, 1, false)], 2, 24, [.str ByteArray.empty, .int .u64 0], 0⟩),
  (15, ⟨.scalar, 1, 8, [.nilptr], 0⟩),
  (16, ⟨.scalar, 1, 8, [.nilptr], 0⟩),
  (17, ⟨.scalar, 1, 8, [.nilptr], 0⟩),
  (18, ⟨.struct [(0, 1, false)], 1, 8, [.nilptr], 0⟩),
  (19, ⟨.struct [(0, 1, false)], 1, 8, [.nilptr], 0⟩),
  (21, ⟨.int .i32, 1, 4, [.int .i32 0], 0⟩),
  (22, ⟨.slice 76 1 24 (.nestI .i64), 1, 24, [.nilsl], 0⟩),
  (23, ⟨.struct [(0, 1, false), (1, 1, false)], 2, 48, [.nilsl, .nilsl], 0⟩),
  (24, ⟨.struct [(0, 1, false), (1, 1, false)], 2, 48, [.nilsl, .nilsl], 0⟩),
  (27, ⟨.struct [(0, 1, false), (1, 1, false)], 2, 48, [.nilsl, .nilsl], 0⟩),
  (31, ⟨.struct [(0, 1, false), (1, 1, false)], 2, 16, [.int .i64 0, .int .i64 0], 2⟩),
  (32, ⟨.struct [(0, 1, false), (1, 1, false)], 2, 16, [.int .i64 0, .int .i64 0], 2⟩),
  (33, ⟨.struct [(0, 2, true), (2, 2, true)], 4, 32, [.int .i64 0, .int .i64 0, .int .i64 0, .int .i64 0], 0⟩),
  (34, ⟨.struct [(0, 2, true), (2, 2, true)], 4, 32, [.int .i64 0, .int .i64 0, .int .i64 0, .int .i64 0], 0⟩),
  (36, ⟨.struct [(0, 1, false), (1, 1, false)], 2, 16, [.int .i64 0, .int .i64 0], 2⟩),
  (37, ⟨.struct [(0, 2, true), (2, 2, true)], 4, 32, [.int .i64 0, .int .i64 0, .int .i64 0, .int .i64 0], 0⟩),
  (38, ⟨.struct [(0, 2, true), (2, 2, true)], 4, 32, [.int .i64 0, .int .i64 0, .int .i64 0, .int .i64 0], 0⟩),
  (45, ⟨.slice 34 4 32 (.r4), 1, 24, [.nilsl], 0⟩),
  (49, ⟨.slice 38 4 32 (.r4), 1, 24, [.nilsl], 0⟩),
  (53, ⟨.slice 84 1 24 (.nestR2), 1, 24, [.nilsl], 0⟩),
  (60, ⟨.scalar, 1, 8, [.nilptr], 0⟩),
  (76, ⟨.slice 2 1 8 (.ints .i64), 1, 24, [.nilsl], 0⟩),
  (84, ⟨.slice 36 2 16 (.r2), 1, 24, [.nilsl], 0⟩),
  (104, ⟨.int .u64, 1, 8, [.int .u64 0], 0⟩),
  (108, ⟨.int .u32, 1, 4, [.int .u32 0], 0⟩),
  (111, ⟨.int .u64, 1, 8, [.int .u64 0], 0⟩),
  (116, ⟨.struct [(0, 1, false), (1, 1, false), (2, 1, false), (3, 1, false)], 4, 40, [.nilptr, .nilptr, .nilptr, .str ByteArray.empty], 0⟩),
  (117, ⟨.struct [(0, 1, false), (1, 1, false), (2, 1, false), (3, 1, false)], 4, 40, [.nilptr, .nilptr, .nilptr, .str ByteArray.empty], 0⟩),
  (122, ⟨.int .u8, 1, 1, [.int .u8 0], 0⟩),
  (123, ⟨.int .u8, 1, 1, [.int .u8 0], 0⟩),
  (125, ⟨.scalar, 1, 8, [.nilptr], 0⟩),
  (126, ⟨.int .i32, 1, 4, [.int .i32 0], 0⟩),
  (127, ⟨.int .i32, 1, 4, [.int .i32 0], 0⟩),
  (128, ⟨.struct [(0, 1, false), (1, 1, false), (2, 1, false), (3, 1, false), (4, 1, false), (5, 1, false), (6, 1, false), (7, 1, false), (8, 1, false), (9, 1, false), (10, 1, false)], 11, 48, [], 0⟩),
  (129, ⟨.struct [(0, 1, false), (1, 1, false), (2, 1, false), (3, 1, false), (4, 1, false), (5, 1, false), (6, 1, false), (7, 1, false), (8, 1, false), (9, 1, false), (10, 1, false)], 11, 48, [], 0⟩)]

theorem tok : TblOK Try.prog tbl := tchk_sound (by kernel_rfl)
#print axioms tok
end Go.Sx.U
