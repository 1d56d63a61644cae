/-
  The table of this seat's types, and that it agrees with the program's.
-/
import Derived.Test.YtkjbmkldghkpfaaProg
import Derived.Test.YtkjbmkldghkpfaaSxQ
namespace Go.Sx.U
open Go Go.Sx Go.Proofs

def tbl : Tbl := [
  (2, ⟨.int .i64, 1, 8, [.int .i64 0]⟩),
  (3, ⟨.int .i64, 1, 8, [.int .i64 0]⟩),
  (4, ⟨.bool, 1, 1, [.bool false]⟩),
  (5, ⟨.int .u8, 1, 1, [.int .u8 0]⟩),
  (6, ⟨.int .u8, 1, 1, [.int .u8 0]⟩),
  (7, ⟨.struct [(0, 1, false), (1, 1, false), (2, 1, false), (3, 1, false)], 4, 24, [.int .i64 0, .int .i64 0, .bool false, .int .u8 0]⟩),
  (8, ⟨.struct [(0, 1, false), (1, 1, false), (2, 1, false), (3, 1, false)], 4, 24, [.int .i64 0, .int .i64 0, .bool false, .int .u8 0]⟩),
  (9, ⟨.str, 1, 16, [.str ByteArray.empty]⟩),
  (10, ⟨.str, 1, 16, [.str ByteArray.empty]⟩),
  (11, ⟨.str, 1, 16, [.str ByteArray.empty]⟩),
  (12, ⟨.int .u64, 1, 8, [.int .u64 0]⟩),
  (13, ⟨.struct [(0, 1, false), (1, 1, false)], 2, 24, [.str ByteArray.empty, .int .u64 0]⟩),
  (14, ⟨.struct [(0, 1, false), (1, 1, false)], 2, 24, [.str ByteArray.empty, .int .u64 0]⟩),
  (15, ⟨.scalar, 1, 8, [.nilptr]⟩),
  (16, ⟨.scalar, 1, 8, [.nilptr]⟩),
  (17, ⟨.scalar, 1, 8, [.nilptr]⟩),
  (18, ⟨.struct [(0, 1, false)], 1, 8, [.nilptr]⟩),
  (19, ⟨.struct [(0, 1, false)], 1, 8, [.nilptr]⟩),
  (21, ⟨.int .i32, 1, 4, [.int .i32 0]⟩),
  (22, ⟨.slice 31 1 24 (.nestI .i64), 1, 24, [.nilsl]⟩),
  (23, ⟨.struct [(0, 1, false)], 1, 24, [.nilsl]⟩),
  (24, ⟨.struct [(0, 1, false)], 1, 24, [.nilsl]⟩),
  (27, ⟨.struct [(0, 1, false)], 1, 24, [.nilsl]⟩),
  (31, ⟨.slice 2 1 8 (.ints .i64), 1, 24, [.nilsl]⟩),
  (55, ⟨.slice 5 1 1 (.ints .u8), 1, 24, [.nilsl]⟩),
  (63, ⟨.scalar, 1, 8, [.nilptr]⟩),
  (79, ⟨.scalar, 1, 8, [.nilmap]⟩),
  (87, ⟨.int .u64, 1, 8, [.int .u64 0]⟩),
  (91, ⟨.scalar, 1, 8, [.nilmap]⟩),
  (92, ⟨.struct [(0, 1, false), (1, 1, false), (2, 1, false)], 3, 24, [.nilptr, .int .i64 0, .nilmap]⟩),
  (93, ⟨.struct [(0, 1, false), (1, 1, false), (2, 1, false)], 3, 24, [.nilptr, .int .i64 0, .nilmap]⟩),
  (95, ⟨.slice 3 1 8 (.ints .i64), 1, 24, [.nilsl]⟩),
  (97, ⟨.scalar, 1, 8, [.nilptr]⟩),
  (102, ⟨.slice 4 1 1 (.bools), 1, 24, [.nilsl]⟩),
  (104, ⟨.int .u32, 1, 4, [.int .u32 0]⟩),
  (106, ⟨.int .u64, 1, 8, [.int .u64 0]⟩),
  (110, ⟨.scalar, 1, 8, [.nilptr]⟩),
  (112, ⟨.struct [(0, 1, false), (1, 1, false), (2, 1, false)], 3, 24, [.int .i64 0, .int .i64 0, .int .i64 0]⟩),
  (113, ⟨.struct [(0, 1, false), (1, 1, false), (2, 1, false)], 3, 24, [.int .i64 0, .int .i64 0, .int .i64 0]⟩),
  (116, ⟨.struct [(0, 1, false), (1, 1, false), (2, 1, false)], 3, 40, [.nilsl, .int .i64 0, .int .u64 0]⟩),
  (117, ⟨.struct [(0, 1, false), (1, 1, false), (2, 1, false)], 3, 40, [.nilsl, .int .i64 0, .int .u64 0]⟩),
  (122, ⟨.struct [(0, 1, false), (1, 1, false), (2, 1, false), (3, 1, false)], 4, 40, [.nilptr, .nilptr, .nilptr, .str ByteArray.empty]⟩),
  (123, ⟨.struct [(0, 1, false), (1, 1, false), (2, 1, false), (3, 1, false)], 4, 40, [.nilptr, .nilptr, .nilptr, .str ByteArray.empty]⟩),
  (128, ⟨.int .u8, 1, 1, [.int .u8 0]⟩),
  (129, ⟨.int .u8, 1, 1, [.int .u8 0]⟩),
  (131, ⟨.scalar, 1, 8, [.nilptr]⟩),
  (132, ⟨.int .i32, 1, 4, [.int .i32 0]⟩),
  (133, ⟨.int .i32, 1, 4, [.int .i32 0]⟩),
  (134, ⟨.struct [(0, 1, false), (1, 1, false), (2, 1, false), (3, 1, false), (4, 1, false), (5, 1, false), (6, 1, false), (7, 1, false), (8, 1, false), (9, 1, false), (10, 1, false)], 11, 48, []⟩),
  (135, ⟨.struct [(0, 1, false), (1, 1, false), (2, 1, false), (3, 1, false), (4, 1, false), (5, 1, false), (6, 1, false), (7, 1, false), (8, 1, false), (9, 1, false), (10, 1, false)], 11, 48, []⟩)]

theorem tok : TblOK Try.prog tbl := tchk_sound (by kernel_rfl)
#print axioms tok
end Go.Sx.U
