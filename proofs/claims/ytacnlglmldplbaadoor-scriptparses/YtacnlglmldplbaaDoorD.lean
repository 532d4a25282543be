/- A part of the proof of the theorem in the last text of this folder: a symbolic executor over the model, and contracts of functions. -/
import Derived.Test.YtacnlglmldplbaaDoorProg
import Derived.Test.YtacnlglmldplbaaDoorC
import Derived.KernelRfl
import Derived.Shelf.Strings.SplitShaped
import Derived.Ground.NamesProg
set_option linter.unusedSimpArgs false
set_option linter.unusedVariables false
namespace Go.Sx.Tryd
open Go Go.Sx
def tyL : List (Option TI) := [
  none,
  some ⟨true, 1, 8, false, [.other], [.lit .nilFunc], .other, false⟩,
  some ⟨true, 1, 8, false, [.int .i64], [.int .i64 0], .int .i64, false⟩,
  some ⟨true, 1, 8, false, [.int .i64], [.int .i64 0], .int .i64, false⟩,
  some ⟨true, 1, 1, false, [.bool], [.bool false], .bool, false⟩,
  some ⟨true, 1, 1, false, [.int .u8], [.int .u8 0], .int .u8, false⟩,
  some ⟨true, 1, 1, false, [.int .u8], [.int .u8 0], .int .u8, false⟩,
  some ⟨true, 4, 24, true, [.int .i64, .int .i64, .bool, .int .u8], [.int .i64 0, .int .i64 0, .bool false, .int .u8 0], .struct [(0, 1), (1, 1), (2, 1), (3, 1)], false⟩,
  some ⟨true, 4, 24, true, [.int .i64, .int .i64, .bool, .int .u8], [.int .i64 0, .int .i64 0, .bool false, .int .u8 0], .struct [(0, 1), (1, 1), (2, 1), (3, 1)], false⟩,
  some ⟨true, 1, 16, false, [.str], [.str []], .str, false⟩,
  some ⟨true, 1, 16, false, [.str], [.str []], .str, false⟩,
  some ⟨true, 1, 16, false, [.str], [.str []], .str, false⟩,
  some ⟨true, 1, 8, false, [.int .u64], [.int .u64 0], .int .u64, false⟩,
  some ⟨true, 2, 24, true, [.str, .int .u64], [.str [], .int .u64 0], .struct [(0, 1), (1, 1)], false⟩,
  some ⟨true, 2, 24, true, [.str, .int .u64], [.str [], .int .u64 0], .struct [(0, 1), (1, 1)], false⟩,
  some ⟨true, 1, 8, false, [.other], [.nilp], .ptr, false⟩,
  some ⟨true, 1, 8, false, [.other], [.nilp], .ptr, false⟩,
  some ⟨true, 1, 8, false, [.other], [.nilp], .ptr, false⟩,
  some ⟨true, 1, 8, true, [.other], [.nilp], .struct [(0, 1)], false⟩,
  some ⟨true, 1, 8, true, [.other], [.nilp], .struct [(0, 1)], false⟩,
  some ⟨true, 1, 16, false, [.other], [.lit .nilIface], .other, false⟩,
  some ⟨true, 1, 4, false, [.int .i32], [.int .i32 0], .int .i32, false⟩,
  some ⟨true, 1, 8, false, [.int .u64], [.int .u64 0], .int .u64, false⟩,
  some ⟨true, 1, 8, false, [.other], [.lit .nilFunc], .other, false⟩,
  none,
  some ⟨true, 1, 8, false, [.other], [.lit .nilFunc], .other, false⟩,
  some ⟨true, 1, 24, false, [.other], [.nils], .slice 9, false⟩,
  some ⟨true, 1, 8, false, [.other], [.lit .nilFunc], .other, false⟩,
  some ⟨true, 1, 8, false, [.other], [.lit .nilFunc], .other, false⟩,
  some ⟨true, 1, 8, false, [.other], [.lit .nilFunc], .other, false⟩,
  some ⟨true, 1, 24, false, [.other], [.nils], .slice 44, false⟩,
  some ⟨true, 1, 8, false, [.int .i64], [.int .i64 0], .int .i64, false⟩,
  none,
  some ⟨true, 1, 8, false, [.other], [.lit .nilFunc], .other, false⟩,
  some ⟨true, 1, 24, false, [.other], [.nils], .slice 52, false⟩,
  none,
  some ⟨true, 1, 8, false, [.other], [.lit .nilFunc], .other, false⟩,
  some ⟨true, 1, 8, false, [.other], [.lit .nilFunc], .other, false⟩,
  some ⟨true, 1, 24, false, [.other], [.nils], .slice 3, false⟩,
  some ⟨true, 5, 40, true, [.int .i64, .int .i64, .int .i64, .int .i64, .int .i64], [.int .i64 0, .int .i64 0, .int .i64 0, .int .i64 0, .int .i64 0], .struct [(0, 1), (1, 1), (2, 1), (3, 1), (4, 1)], true⟩,
  some ⟨true, 5, 40, true, [.int .i64, .int .i64, .int .i64, .int .i64, .int .i64], [.int .i64 0, .int .i64 0, .int .i64 0, .int .i64 0, .int .i64 0], .struct [(0, 1), (1, 1), (2, 1), (3, 1), (4, 1)], true⟩,
  some ⟨true, 1, 24, false, [.other], [.nils], .slice 65, false⟩,
  some ⟨true, 1, 24, false, [.other], [.nils], .slice 74, false⟩,
  some ⟨true, 11, 136, true, [.int .i64, .other, .int .u64, .int .i64, .int .i64, .int .i64, .int .i64, .int .i64, .int .i64, .other, .other], [.int .i64 0, .nils, .int .u64 0, .int .i64 0, .int .i64 0, .int .i64 0, .int .i64 0, .int .i64 0, .int .i64 0, .nils, .nils], .struct [(0, 1), (1, 1), (2, 1), (3, 5), (8, 1), (9, 1), (10, 1)], false⟩,
  some ⟨true, 11, 136, true, [.int .i64, .other, .int .u64, .int .i64, .int .i64, .int .i64, .int .i64, .int .i64, .int .i64, .other, .other], [.int .i64 0, .nils, .int .u64 0, .int .i64 0, .int .i64 0, .int .i64 0, .int .i64 0, .int .i64 0, .int .i64 0, .nils, .nils], .struct [(0, 1), (1, 1), (2, 1), (3, 5), (8, 1), (9, 1), (10, 1)], false⟩,
  some ⟨true, 1, 8, false, [.other], [.lit .nilFunc], .other, false⟩,
  some ⟨true, 4, 32, true, [.int .i64, .int .i64, .int .i64, .int .i64], [.int .i64 0, .int .i64 0, .int .i64 0, .int .i64 0], .array 4 3, false⟩,
  some ⟨true, 5, 40, true, [.int .i64, .int .i64, .int .i64, .int .i64, .int .i64], [.int .i64 0, .int .i64 0, .int .i64 0, .int .i64 0, .int .i64 0], .struct [(0, 1), (1, 4)], false⟩,
  some ⟨true, 5, 40, true, [.int .i64, .int .i64, .int .i64, .int .i64, .int .i64], [.int .i64 0, .int .i64 0, .int .i64 0, .int .i64 0, .int .i64 0], .struct [(0, 1), (1, 4)], false⟩,
  some ⟨true, 1, 24, false, [.other], [.nils], .slice 58, false⟩,
  some ⟨true, 1, 24, false, [.other], [.nils], .slice 78, false⟩,
  some ⟨true, 11, 136, true, [.int .i64, .other, .int .u64, .int .i64, .int .i64, .int .i64, .int .i64, .int .i64, .int .i64, .other, .other], [.int .i64 0, .nils, .int .u64 0, .int .i64 0, .int .i64 0, .int .i64 0, .int .i64 0, .int .i64 0, .int .i64 0, .nils, .nils], .struct [(0, 1), (1, 1), (2, 1), (3, 5), (8, 1), (9, 1), (10, 1)], false⟩,
  some ⟨true, 11, 136, true, [.int .i64, .other, .int .u64, .int .i64, .int .i64, .int .i64, .int .i64, .int .i64, .int .i64, .other, .other], [.int .i64 0, .nils, .int .u64 0, .int .i64 0, .int .i64 0, .int .i64 0, .int .i64 0, .int .i64 0, .int .i64 0, .nils, .nils], .struct [(0, 1), (1, 1), (2, 1), (3, 5), (8, 1), (9, 1), (10, 1)], false⟩,
  some ⟨true, 1, 8, false, [.other], [.lit .nilFunc], .other, false⟩,
  some ⟨true, 3, 24, true, [.int .i64, .int .i64, .int .i64], [.int .i64 0, .int .i64 0, .int .i64 0], .struct [(0, 1), (1, 1), (2, 1)], true⟩,
  some ⟨true, 3, 24, true, [.int .i64, .int .i64, .int .i64], [.int .i64 0, .int .i64 0, .int .i64 0], .struct [(0, 1), (1, 1), (2, 1)], true⟩,
  some ⟨true, 1, 24, false, [.other], [.nils], .slice 76, false⟩,
  some ⟨true, 5, 56, true, [.int .i64, .int .i64, .int .i64, .other, .int .i64], [.int .i64 0, .int .i64 0, .int .i64 0, .nils, .int .i64 0], .struct [(0, 3), (3, 1), (4, 1)], false⟩,
  some ⟨true, 5, 56, true, [.int .i64, .int .i64, .int .i64, .other, .int .i64], [.int .i64 0, .int .i64 0, .int .i64 0, .nils, .int .i64 0], .struct [(0, 3), (3, 1), (4, 1)], false⟩,
  some ⟨true, 1, 8, false, [.other], [.lit .nilFunc], .other, false⟩,
  some ⟨true, 1, 8, false, [.other], [.lit .nilFunc], .other, false⟩,
  none,
  some ⟨true, 1, 8, false, [.other], [.lit .nilFunc], .other, false⟩,
  some ⟨true, 1, 24, false, [.other], [.nils], .slice 77, false⟩,
  some ⟨true, 5, 56, true, [.int .i64, .int .i64, .int .i64, .other, .int .i64], [.int .i64 0, .int .i64 0, .int .i64 0, .nils, .int .i64 0], .struct [(0, 3), (3, 1), (4, 1)], false⟩,
  some ⟨true, 5, 56, true, [.int .i64, .int .i64, .int .i64, .other, .int .i64], [.int .i64 0, .int .i64 0, .int .i64 0, .nils, .int .i64 0], .struct [(0, 3), (3, 1), (4, 1)], false⟩,
  some ⟨true, 1, 8, false, [.other], [.lit .nilFunc], .other, false⟩,
  some ⟨true, 1, 8, false, [.other], [.lit .nilFunc], .other, false⟩,
  some ⟨true, 18, 288, true, [.str, .str, .str, .str, .str, .str, .str, .str, .str, .str, .str, .str, .str, .str, .str, .str, .str, .str], [.str [], .str [], .str [], .str [], .str [], .str [], .str [], .str [], .str [], .str [], .str [], .str [], .str [], .str [], .str [], .str [], .str [], .str []], .array 18 9, false⟩,
  some ⟨true, 1, 8, false, [.other], [.lit .nilFunc], .other, false⟩,
  none,
  some ⟨true, 1, 8, false, [.other], [.lit .nilFunc], .other, false⟩,
  some ⟨true, 1, 8, false, [.other], [.lit .nilFunc], .other, false⟩,
  some ⟨true, 5, 40, true, [.int .i64, .int .i64, .int .i64, .int .i64, .int .u64], [.int .i64 0, .int .i64 0, .int .i64 0, .int .i64 0, .int .u64 0], .struct [(0, 1), (1, 1), (2, 1), (3, 1), (4, 1)], true⟩,
  some ⟨true, 5, 40, true, [.int .i64, .int .i64, .int .i64, .int .i64, .int .u64], [.int .i64 0, .int .i64 0, .int .i64 0, .int .i64 0, .int .u64 0], .struct [(0, 1), (1, 1), (2, 1), (3, 1), (4, 1)], true⟩,
  some ⟨true, 3, 24, true, [.int .i64, .int .i64, .int .i64], [.int .i64 0, .int .i64 0, .int .i64 0], .struct [(0, 1), (1, 1), (2, 1)], true⟩,
  some ⟨true, 3, 24, true, [.int .i64, .int .i64, .int .i64], [.int .i64 0, .int .i64 0, .int .i64 0], .struct [(0, 1), (1, 1), (2, 1)], true⟩,
  some ⟨true, 3, 24, true, [.int .i64, .int .i64, .int .i64], [.int .i64 0, .int .i64 0, .int .i64 0], .struct [(0, 1), (1, 1), (2, 1)], true⟩,
  some ⟨true, 5, 40, true, [.int .i64, .int .i64, .int .i64, .int .i64, .int .u64], [.int .i64 0, .int .i64 0, .int .i64 0, .int .i64 0, .int .u64 0], .struct [(0, 1), (1, 1), (2, 1), (3, 1), (4, 1)], true⟩,
  some ⟨true, 1, 8, false, [.other], [.lit .nilFunc], .other, false⟩,
  some ⟨true, 1, 8, false, [.other], [.lit .nilFunc], .other, false⟩,
  some ⟨true, 1, 8, false, [.other], [.lit .nilFunc], .other, false⟩,
  some ⟨true, 1, 8, false, [.other], [.lit .nilFunc], .other, false⟩,
  some ⟨true, 1, 8, false, [.other], [.lit .nilFunc], .other, false⟩,
  some ⟨true, 1, 8, false, [.other], [.lit .nilFunc], .other, false⟩,
  none,
  some ⟨true, 1, 8, false, [.other], [.lit .nilFunc], .other, false⟩,
  some ⟨true, 1, 8, false, [.other], [.lit .nilFunc], .other, false⟩,
  none,
  some ⟨true, 1, 8, false, [.other], [.lit .nilFunc], .other, false⟩,
  none,
  some ⟨true, 1, 8, false, [.other], [.lit .nilFunc], .other, false⟩,
  some ⟨true, 1, 8, false, [.other], [.lit .nilFunc], .other, false⟩,
  some ⟨true, 1, 8, false, [.other], [.lit .nilFunc], .other, false⟩,
  some ⟨true, 1, 8, false, [.other], [.lit .nilFunc], .other, false⟩,
  some ⟨true, 1, 8, false, [.other], [.lit .nilFunc], .other, false⟩,
  some ⟨true, 1, 8, false, [.other], [.lit .nilFunc], .other, false⟩,
  some ⟨true, 1, 8, false, [.other], [.lit .nilFunc], .other, false⟩,
  some ⟨true, 1, 8, false, [.other], [.lit .nilFunc], .other, false⟩,
  some ⟨true, 1, 8, false, [.other], [.lit .nilFunc], .other, false⟩,
  some ⟨true, 1, 8, false, [.other], [.lit .nilFunc], .other, false⟩,
  none,
  some ⟨true, 1, 8, false, [.other], [.lit .nilFunc], .other, false⟩,
  some ⟨true, 1, 8, false, [.other], [.lit .nilFunc], .other, false⟩,
  some ⟨true, 1, 8, false, [.other], [.lit .nilFunc], .other, false⟩,
  some ⟨true, 1, 8, false, [.other], [.lit .nilFunc], .other, false⟩,
  none,
  some ⟨true, 1, 8, false, [.other], [.lit .nilFunc], .other, false⟩,
  none,
  some ⟨true, 1, 8, false, [.other], [.lit .nilFunc], .other, false⟩,
  none,
  some ⟨true, 1, 8, false, [.other], [.lit .nilFunc], .other, false⟩,
  some ⟨true, 1, 8, false, [.other], [.nilp], .ptr, false⟩,
  some ⟨true, 1, 24, false, [.other], [.nils], .slice 5, false⟩,
  some ⟨true, 2, 32, true, [.other, .other], [.nilp, .nils], .struct [(0, 1), (1, 1)], false⟩,
  some ⟨true, 2, 32, true, [.other, .other], [.nilp, .nils], .struct [(0, 1), (1, 1)], false⟩,
  some ⟨true, 3, 24, true, [.int .i64, .int .i64, .int .i64], [.int .i64 0, .int .i64 0, .int .i64 0], .array 3 3, false⟩,
  some ⟨true, 1, 16, false, [.other], [.lit .nilIface], .other, false⟩,
  some ⟨true, 1, 16, false, [.other], [.lit .nilIface], .other, false⟩,
  none,
  some ⟨true, 1, 8, false, [.other], [.lit .nilFunc], .other, false⟩,
  some ⟨true, 1, 8, false, [.other], [.lit .nilFunc], .other, false⟩,
  some ⟨true, 1, 8, false, [.other], [.lit .nilFunc], .other, false⟩,
  none,
  some ⟨true, 1, 8, false, [.other], [.lit .nilFunc], .other, false⟩,
  some ⟨true, 1, 8, false, [.other], [.lit .nilFunc], .other, false⟩,
  some ⟨true, 1, 8, false, [.other], [.lit .nilFunc], .other, false⟩,
  some ⟨true, 1, 8, false, [.other], [.nilp], .ptr, false⟩,
  none,
  some ⟨true, 1, 8, false, [.other], [.lit .nilFunc], .other, false⟩,
  some ⟨true, 1, 8, false, [.other], [.lit .nilFunc], .other, false⟩,
  none,
  some ⟨true, 1, 8, false, [.other], [.lit .nilFunc], .other, false⟩,
  some ⟨true, 1, 8, false, [.other], [.lit .nilFunc], .other, false⟩,
  some ⟨true, 1, 8, false, [.other], [.lit .nilFunc], .other, false⟩,
  some ⟨true, 1, 8, false, [.other], [.nilp], .ptr, false⟩,
  some ⟨true, 19, 304, true, [.str, .str, .str, .str, .str, .str, .str, .str, .str, .str, .str, .str, .str, .str, .str, .str, .str, .str, .str], [.str [], .str [], .str [], .str [], .str [], .str [], .str [], .str [], .str [], .str [], .str [], .str [], .str [], .str [], .str [], .str [], .str [], .str [], .str []], .array 19 9, false⟩,
  some ⟨true, 20, 320, true, [.str, .str, .str, .str, .str, .str, .str, .str, .str, .str, .str, .str, .str, .str, .str, .str, .str, .str, .str, .str], [.str [], .str [], .str [], .str [], .str [], .str [], .str [], .str [], .str [], .str [], .str [], .str [], .str [], .str [], .str [], .str [], .str [], .str [], .str [], .str []], .array 20 9, false⟩,
  some ⟨true, 24, 24, true, [.int .u8, .int .u8, .int .u8, .int .u8, .int .u8, .int .u8, .int .u8, .int .u8, .int .u8, .int .u8, .int .u8, .int .u8, .int .u8, .int .u8, .int .u8, .int .u8, .int .u8, .int .u8, .int .u8, .int .u8, .int .u8, .int .u8, .int .u8, .int .u8], [.int .u8 0, .int .u8 0, .int .u8 0, .int .u8 0, .int .u8 0, .int .u8 0, .int .u8 0, .int .u8 0, .int .u8 0, .int .u8 0, .int .u8 0, .int .u8 0, .int .u8 0, .int .u8 0, .int .u8 0, .int .u8 0, .int .u8 0, .int .u8 0, .int .u8 0, .int .u8 0, .int .u8 0, .int .u8 0, .int .u8 0, .int .u8 0], .array 24 5, false⟩,
  some ⟨true, 1, 8, false, [.other], [.lit .nilFunc], .other, false⟩,
  none,
  some ⟨true, 1, 8, false, [.other], [.lit .nilFunc], .other, false⟩,
  none,
  some ⟨true, 1, 8, false, [.other], [.lit .nilFunc], .other, false⟩,
  some ⟨true, 1, 8, false, [.int .u64], [.int .u64 0], .int .u64, false⟩,
  some ⟨true, 1, 8, false, [.other], [.nilp], .other, false⟩,
  some ⟨true, 1, 8, false, [.other], [.lit .nilFunc], .other, false⟩,
  some ⟨true, 1, 8, false, [.other], [.lit .nilFunc], .other, false⟩,
  some ⟨true, 20, 160, true, [.int .u64, .int .u64, .int .u64, .int .u64, .int .u64, .int .u64, .int .u64, .int .u64, .int .u64, .int .u64, .int .u64, .int .u64, .int .u64, .int .u64, .int .u64, .int .u64, .int .u64, .int .u64, .int .u64, .int .u64], [.int .u64 0, .int .u64 0, .int .u64 0, .int .u64 0, .int .u64 0, .int .u64 0, .int .u64 0, .int .u64 0, .int .u64 0, .int .u64 0, .int .u64 0, .int .u64 0, .int .u64 0, .int .u64 0, .int .u64 0, .int .u64 0, .int .u64 0, .int .u64 0, .int .u64 0, .int .u64 0], .array 20 22, false⟩,
  some ⟨true, 1, 4, false, [.int .u32], [.int .u32 0], .int .u32, false⟩,
  none,
  some ⟨true, 1, 8, false, [.other], [.lit .nilFunc], .other, false⟩,
  some ⟨true, 1, 8, false, [.other], [.lit .nilFunc], .other, false⟩,
  some ⟨true, 1, 8, false, [.other], [.lit .nilFunc], .other, false⟩,
  none,
  some ⟨true, 1, 8, false, [.other], [.lit .nilFunc], .other, false⟩,
  none,
  some ⟨true, 2, 2, true, [.int .u8, .int .u8], [.int .u8 0, .int .u8 0], .struct [(0, 1), (1, 1)], true⟩,
  some ⟨true, 2, 2, true, [.int .u8, .int .u8], [.int .u8 0, .int .u8 0], .struct [(0, 1), (1, 1)], true⟩,
  some ⟨true, 32, 32, true, [.int .u8, .int .u8, .int .u8, .int .u8, .int .u8, .int .u8, .int .u8, .int .u8, .int .u8, .int .u8, .int .u8, .int .u8, .int .u8, .int .u8, .int .u8, .int .u8, .int .u8, .int .u8, .int .u8, .int .u8, .int .u8, .int .u8, .int .u8, .int .u8, .int .u8, .int .u8, .int .u8, .int .u8, .int .u8, .int .u8, .int .u8, .int .u8], [.int .u8 0, .int .u8 0, .int .u8 0, .int .u8 0, .int .u8 0, .int .u8 0, .int .u8 0, .int .u8 0, .int .u8 0, .int .u8 0, .int .u8 0, .int .u8 0, .int .u8 0, .int .u8 0, .int .u8 0, .int .u8 0, .int .u8 0, .int .u8 0, .int .u8 0, .int .u8 0, .int .u8 0, .int .u8 0, .int .u8 0, .int .u8 0, .int .u8 0, .int .u8 0, .int .u8 0, .int .u8 0, .int .u8 0, .int .u8 0, .int .u8 0, .int .u8 0], .array 16 158, false⟩,
  none,
  some ⟨true, 1, 8, false, [.other], [.lit .nilFunc], .other, false⟩,
  some ⟨true, 1, 8, false, [.other], [.lit .nilFunc], .other, false⟩,
  some ⟨true, 32, 32, true, [.int .u8, .int .u8, .int .u8, .int .u8, .int .u8, .int .u8, .int .u8, .int .u8, .int .u8, .int .u8, .int .u8, .int .u8, .int .u8, .int .u8, .int .u8, .int .u8, .int .u8, .int .u8, .int .u8, .int .u8, .int .u8, .int .u8, .int .u8, .int .u8, .int .u8, .int .u8, .int .u8, .int .u8, .int .u8, .int .u8, .int .u8, .int .u8], [.int .u8 0, .int .u8 0, .int .u8 0, .int .u8 0, .int .u8 0, .int .u8 0, .int .u8 0, .int .u8 0, .int .u8 0, .int .u8 0, .int .u8 0, .int .u8 0, .int .u8 0, .int .u8 0, .int .u8 0, .int .u8 0, .int .u8 0, .int .u8 0, .int .u8 0, .int .u8 0, .int .u8 0, .int .u8 0, .int .u8 0, .int .u8 0, .int .u8 0, .int .u8 0, .int .u8 0, .int .u8 0, .int .u8 0, .int .u8 0, .int .u8 0, .int .u8 0], .array 32 5, false⟩,
  some ⟨true, 64, 64, true, [.int .u8, .int .u8, .int .u8, .int .u8, .int .u8, .int .u8, .int .u8, .int .u8, .int .u8, .int .u8, .int .u8, .int .u8, .int .u8, .int .u8, .int .u8, .int .u8, .int .u8, .int .u8, .int .u8, .int .u8, .int .u8, .int .u8, .int .u8, .int .u8, .int .u8, .int .u8, .int .u8, .int .u8, .int .u8, .int .u8, .int .u8, .int .u8, .int .u8, .int .u8, .int .u8, .int .u8, .int .u8, .int .u8, .int .u8, .int .u8, .int .u8, .int .u8, .int .u8, .int .u8, .int .u8, .int .u8, .int .u8, .int .u8, .int .u8, .int .u8, .int .u8, .int .u8, .int .u8, .int .u8, .int .u8, .int .u8, .int .u8, .int .u8, .int .u8, .int .u8, .int .u8, .int .u8, .int .u8, .int .u8], [.int .u8 0, .int .u8 0, .int .u8 0, .int .u8 0, .int .u8 0, .int .u8 0, .int .u8 0, .int .u8 0, .int .u8 0, .int .u8 0, .int .u8 0, .int .u8 0, .int .u8 0, .int .u8 0, .int .u8 0, .int .u8 0, .int .u8 0, .int .u8 0, .int .u8 0, .int .u8 0, .int .u8 0, .int .u8 0, .int .u8 0, .int .u8 0, .int .u8 0, .int .u8 0, .int .u8 0, .int .u8 0, .int .u8 0, .int .u8 0, .int .u8 0, .int .u8 0, .int .u8 0, .int .u8 0, .int .u8 0, .int .u8 0, .int .u8 0, .int .u8 0, .int .u8 0, .int .u8 0, .int .u8 0, .int .u8 0, .int .u8 0, .int .u8 0, .int .u8 0, .int .u8 0, .int .u8 0, .int .u8 0, .int .u8 0, .int .u8 0, .int .u8 0, .int .u8 0, .int .u8 0, .int .u8 0, .int .u8 0, .int .u8 0, .int .u8 0, .int .u8 0, .int .u8 0, .int .u8 0, .int .u8 0, .int .u8 0, .int .u8 0, .int .u8 0], .array 64 5, false⟩,
  some ⟨true, 4, 40, true, [.other, .other, .other, .str], [.nilp, .nilp, .nilp, .str []], .struct [(0, 1), (1, 1), (2, 1), (3, 1)], false⟩,
  some ⟨true, 4, 40, true, [.other, .other, .other, .str], [.nilp, .nilp, .nilp, .str []], .struct [(0, 1), (1, 1), (2, 1), (3, 1)], false⟩,
  some ⟨true, 0, 0, true, [], [], .array 0 16, false⟩,
  some ⟨true, 0, 0, true, [], [], .other, false⟩,
  some ⟨true, 0, 0, true, [], [], .other, false⟩,
  some ⟨true, 1, 8, false, [.other], [.lit .nilFunc], .other, false⟩,
  some ⟨true, 1, 1, false, [.int .u8], [.int .u8 0], .int .u8, false⟩,
  some ⟨true, 1, 1, false, [.int .u8], [.int .u8 0], .int .u8, false⟩,
  some ⟨true, 1, 8, false, [.other], [.lit .nilFunc], .other, false⟩,
  some ⟨true, 1, 4, false, [.int .i32], [.int .i32 0], .int .i32, false⟩,
  some ⟨true, 1, 4, false, [.int .i32], [.int .i32 0], .int .i32, false⟩,
  some ⟨true, 11, 48, true, [.int .u64, .int .u64, .int .u32, .int .u8, .int .u8, .int .u8, .int .u8, .other, .other, .int .i32, .int .i32], [.int .u64 0, .int .u64 0, .int .u32 0, .int .u8 0, .int .u8 0, .int .u8 0, .int .u8 0, .lit .nilFunc, .nilp, .int .i32 0, .int .i32 0], .struct [(0, 1), (1, 1), (2, 1), (3, 1), (4, 1), (5, 1), (6, 1), (7, 1), (8, 1), (9, 1), (10, 1)], false⟩,
  some ⟨true, 11, 48, true, [.int .u64, .int .u64, .int .u32, .int .u8, .int .u8, .int .u8, .int .u8, .other, .other, .int .i32, .int .i32], [.int .u64 0, .int .u64 0, .int .u32 0, .int .u8 0, .int .u8 0, .int .u8 0, .int .u8 0, .lit .nilFunc, .nilp, .int .i32 0, .int .i32 0], .struct [(0, 1), (1, 1), (2, 1), (3, 1), (4, 1), (5, 1), (6, 1), (7, 1), (8, 1), (9, 1), (10, 1)], false⟩
]
def tt : Nat → TI := ttab tyL
theorem ttok : TTok Go.Proofs.Tryd.prog tt := TTok.of_list (by kernel_rfl)
theorem tt_1 : tt 1 = ⟨true, 1, 8, false, [.other], [.lit .nilFunc], .other, false⟩ := rfl
theorem tt_2 : tt 2 = ⟨true, 1, 8, false, [.int .i64], [.int .i64 0], .int .i64, false⟩ := rfl
theorem tt_3 : tt 3 = ⟨true, 1, 8, false, [.int .i64], [.int .i64 0], .int .i64, false⟩ := rfl
theorem tt_4 : tt 4 = ⟨true, 1, 1, false, [.bool], [.bool false], .bool, false⟩ := rfl
theorem tt_5 : tt 5 = ⟨true, 1, 1, false, [.int .u8], [.int .u8 0], .int .u8, false⟩ := rfl
theorem tt_6 : tt 6 = ⟨true, 1, 1, false, [.int .u8], [.int .u8 0], .int .u8, false⟩ := rfl
theorem tt_7 : tt 7 = ⟨true, 4, 24, true, [.int .i64, .int .i64, .bool, .int .u8], [.int .i64 0, .int .i64 0, .bool false, .int .u8 0], .struct [(0, 1), (1, 1), (2, 1), (3, 1)], false⟩ := rfl
theorem tt_8 : tt 8 = ⟨true, 4, 24, true, [.int .i64, .int .i64, .bool, .int .u8], [.int .i64 0, .int .i64 0, .bool false, .int .u8 0], .struct [(0, 1), (1, 1), (2, 1), (3, 1)], false⟩ := rfl
theorem tt_9 : tt 9 = ⟨true, 1, 16, false, [.str], [.str []], .str, false⟩ := rfl
theorem tt_10 : tt 10 = ⟨true, 1, 16, false, [.str], [.str []], .str, false⟩ := rfl
theorem tt_11 : tt 11 = ⟨true, 1, 16, false, [.str], [.str []], .str, false⟩ := rfl
theorem tt_12 : tt 12 = ⟨true, 1, 8, false, [.int .u64], [.int .u64 0], .int .u64, false⟩ := rfl
theorem tt_13 : tt 13 = ⟨true, 2, 24, true, [.str, .int .u64], [.str [], .int .u64 0], .struct [(0, 1), (1, 1)], false⟩ := rfl
theorem tt_14 : tt 14 = ⟨true, 2, 24, true, [.str, .int .u64], [.str [], .int .u64 0], .struct [(0, 1), (1, 1)], false⟩ := rfl
theorem tt_15 : tt 15 = ⟨true, 1, 8, false, [.other], [.nilp], .ptr, false⟩ := rfl
theorem tt_16 : tt 16 = ⟨true, 1, 8, false, [.other], [.nilp], .ptr, false⟩ := rfl
theorem tt_17 : tt 17 = ⟨true, 1, 8, false, [.other], [.nilp], .ptr, false⟩ := rfl
theorem tt_18 : tt 18 = ⟨true, 1, 8, true, [.other], [.nilp], .struct [(0, 1)], false⟩ := rfl
theorem tt_19 : tt 19 = ⟨true, 1, 8, true, [.other], [.nilp], .struct [(0, 1)], false⟩ := rfl
theorem tt_20 : tt 20 = ⟨true, 1, 16, false, [.other], [.lit .nilIface], .other, false⟩ := rfl
theorem tt_21 : tt 21 = ⟨true, 1, 4, false, [.int .i32], [.int .i32 0], .int .i32, false⟩ := rfl
theorem tt_22 : tt 22 = ⟨true, 1, 8, false, [.int .u64], [.int .u64 0], .int .u64, false⟩ := rfl
theorem tt_23 : tt 23 = ⟨true, 1, 8, false, [.other], [.lit .nilFunc], .other, false⟩ := rfl
theorem tt_25 : tt 25 = ⟨true, 1, 8, false, [.other], [.lit .nilFunc], .other, false⟩ := rfl
theorem tt_26 : tt 26 = ⟨true, 1, 24, false, [.other], [.nils], .slice 9, false⟩ := rfl
theorem tt_27 : tt 27 = ⟨true, 1, 8, false, [.other], [.lit .nilFunc], .other, false⟩ := rfl
theorem tt_28 : tt 28 = ⟨true, 1, 8, false, [.other], [.lit .nilFunc], .other, false⟩ := rfl
theorem tt_29 : tt 29 = ⟨true, 1, 8, false, [.other], [.lit .nilFunc], .other, false⟩ := rfl
theorem tt_30 : tt 30 = ⟨true, 1, 24, false, [.other], [.nils], .slice 44, false⟩ := rfl
theorem tt_31 : tt 31 = ⟨true, 1, 8, false, [.int .i64], [.int .i64 0], .int .i64, false⟩ := rfl
theorem tt_33 : tt 33 = ⟨true, 1, 8, false, [.other], [.lit .nilFunc], .other, false⟩ := rfl
theorem tt_34 : tt 34 = ⟨true, 1, 24, false, [.other], [.nils], .slice 52, false⟩ := rfl
theorem tt_36 : tt 36 = ⟨true, 1, 8, false, [.other], [.lit .nilFunc], .other, false⟩ := rfl
theorem tt_37 : tt 37 = ⟨true, 1, 8, false, [.other], [.lit .nilFunc], .other, false⟩ := rfl
theorem tt_38 : tt 38 = ⟨true, 1, 24, false, [.other], [.nils], .slice 3, false⟩ := rfl
theorem tt_39 : tt 39 = ⟨true, 5, 40, true, [.int .i64, .int .i64, .int .i64, .int .i64, .int .i64], [.int .i64 0, .int .i64 0, .int .i64 0, .int .i64 0, .int .i64 0], .struct [(0, 1), (1, 1), (2, 1), (3, 1), (4, 1)], true⟩ := rfl
theorem tt_40 : tt 40 = ⟨true, 5, 40, true, [.int .i64, .int .i64, .int .i64, .int .i64, .int .i64], [.int .i64 0, .int .i64 0, .int .i64 0, .int .i64 0, .int .i64 0], .struct [(0, 1), (1, 1), (2, 1), (3, 1), (4, 1)], true⟩ := rfl
theorem tt_41 : tt 41 = ⟨true, 1, 24, false, [.other], [.nils], .slice 65, false⟩ := rfl
theorem tt_42 : tt 42 = ⟨true, 1, 24, false, [.other], [.nils], .slice 74, false⟩ := rfl
theorem tt_43 : tt 43 = ⟨true, 11, 136, true, [.int .i64, .other, .int .u64, .int .i64, .int .i64, .int .i64, .int .i64, .int .i64, .int .i64, .other, .other], [.int .i64 0, .nils, .int .u64 0, .int .i64 0, .int .i64 0, .int .i64 0, .int .i64 0, .int .i64 0, .int .i64 0, .nils, .nils], .struct [(0, 1), (1, 1), (2, 1), (3, 5), (8, 1), (9, 1), (10, 1)], false⟩ := rfl
theorem tt_44 : tt 44 = ⟨true, 11, 136, true, [.int .i64, .other, .int .u64, .int .i64, .int .i64, .int .i64, .int .i64, .int .i64, .int .i64, .other, .other], [.int .i64 0, .nils, .int .u64 0, .int .i64 0, .int .i64 0, .int .i64 0, .int .i64 0, .int .i64 0, .int .i64 0, .nils, .nils], .struct [(0, 1), (1, 1), (2, 1), (3, 5), (8, 1), (9, 1), (10, 1)], false⟩ := rfl
theorem tt_45 : tt 45 = ⟨true, 1, 8, false, [.other], [.lit .nilFunc], .other, false⟩ := rfl
theorem tt_46 : tt 46 = ⟨true, 4, 32, true, [.int .i64, .int .i64, .int .i64, .int .i64], [.int .i64 0, .int .i64 0, .int .i64 0, .int .i64 0], .array 4 3, false⟩ := rfl
theorem tt_47 : tt 47 = ⟨true, 5, 40, true, [.int .i64, .int .i64, .int .i64, .int .i64, .int .i64], [.int .i64 0, .int .i64 0, .int .i64 0, .int .i64 0, .int .i64 0], .struct [(0, 1), (1, 4)], false⟩ := rfl
theorem tt_48 : tt 48 = ⟨true, 5, 40, true, [.int .i64, .int .i64, .int .i64, .int .i64, .int .i64], [.int .i64 0, .int .i64 0, .int .i64 0, .int .i64 0, .int .i64 0], .struct [(0, 1), (1, 4)], false⟩ := rfl
theorem tt_49 : tt 49 = ⟨true, 1, 24, false, [.other], [.nils], .slice 58, false⟩ := rfl
theorem tt_50 : tt 50 = ⟨true, 1, 24, false, [.other], [.nils], .slice 78, false⟩ := rfl
theorem tt_51 : tt 51 = ⟨true, 11, 136, true, [.int .i64, .other, .int .u64, .int .i64, .int .i64, .int .i64, .int .i64, .int .i64, .int .i64, .other, .other], [.int .i64 0, .nils, .int .u64 0, .int .i64 0, .int .i64 0, .int .i64 0, .int .i64 0, .int .i64 0, .int .i64 0, .nils, .nils], .struct [(0, 1), (1, 1), (2, 1), (3, 5), (8, 1), (9, 1), (10, 1)], false⟩ := rfl
theorem tt_52 : tt 52 = ⟨true, 11, 136, true, [.int .i64, .other, .int .u64, .int .i64, .int .i64, .int .i64, .int .i64, .int .i64, .int .i64, .other, .other], [.int .i64 0, .nils, .int .u64 0, .int .i64 0, .int .i64 0, .int .i64 0, .int .i64 0, .int .i64 0, .int .i64 0, .nils, .nils], .struct [(0, 1), (1, 1), (2, 1), (3, 5), (8, 1), (9, 1), (10, 1)], false⟩ := rfl
theorem tt_53 : tt 53 = ⟨true, 1, 8, false, [.other], [.lit .nilFunc], .other, false⟩ := rfl
theorem tt_54 : tt 54 = ⟨true, 3, 24, true, [.int .i64, .int .i64, .int .i64], [.int .i64 0, .int .i64 0, .int .i64 0], .struct [(0, 1), (1, 1), (2, 1)], true⟩ := rfl
theorem tt_55 : tt 55 = ⟨true, 3, 24, true, [.int .i64, .int .i64, .int .i64], [.int .i64 0, .int .i64 0, .int .i64 0], .struct [(0, 1), (1, 1), (2, 1)], true⟩ := rfl
theorem tt_56 : tt 56 = ⟨true, 1, 24, false, [.other], [.nils], .slice 76, false⟩ := rfl
theorem tt_57 : tt 57 = ⟨true, 5, 56, true, [.int .i64, .int .i64, .int .i64, .other, .int .i64], [.int .i64 0, .int .i64 0, .int .i64 0, .nils, .int .i64 0], .struct [(0, 3), (3, 1), (4, 1)], false⟩ := rfl
theorem tt_58 : tt 58 = ⟨true, 5, 56, true, [.int .i64, .int .i64, .int .i64, .other, .int .i64], [.int .i64 0, .int .i64 0, .int .i64 0, .nils, .int .i64 0], .struct [(0, 3), (3, 1), (4, 1)], false⟩ := rfl
theorem tt_59 : tt 59 = ⟨true, 1, 8, false, [.other], [.lit .nilFunc], .other, false⟩ := rfl
theorem tt_60 : tt 60 = ⟨true, 1, 8, false, [.other], [.lit .nilFunc], .other, false⟩ := rfl
theorem tt_62 : tt 62 = ⟨true, 1, 8, false, [.other], [.lit .nilFunc], .other, false⟩ := rfl
theorem tt_63 : tt 63 = ⟨true, 1, 24, false, [.other], [.nils], .slice 77, false⟩ := rfl
theorem tt_64 : tt 64 = ⟨true, 5, 56, true, [.int .i64, .int .i64, .int .i64, .other, .int .i64], [.int .i64 0, .int .i64 0, .int .i64 0, .nils, .int .i64 0], .struct [(0, 3), (3, 1), (4, 1)], false⟩ := rfl
theorem tt_65 : tt 65 = ⟨true, 5, 56, true, [.int .i64, .int .i64, .int .i64, .other, .int .i64], [.int .i64 0, .int .i64 0, .int .i64 0, .nils, .int .i64 0], .struct [(0, 3), (3, 1), (4, 1)], false⟩ := rfl
theorem tt_66 : tt 66 = ⟨true, 1, 8, false, [.other], [.lit .nilFunc], .other, false⟩ := rfl
theorem tt_67 : tt 67 = ⟨true, 1, 8, false, [.other], [.lit .nilFunc], .other, false⟩ := rfl
theorem tt_68 : tt 68 = ⟨true, 18, 288, true, [.str, .str, .str, .str, .str, .str, .str, .str, .str, .str, .str, .str, .str, .str, .str, .str, .str, .str], [.str [], .str [], .str [], .str [], .str [], .str [], .str [], .str [], .str [], .str [], .str [], .str [], .str [], .str [], .str [], .str [], .str [], .str []], .array 18 9, false⟩ := rfl
theorem tt_69 : tt 69 = ⟨true, 1, 8, false, [.other], [.lit .nilFunc], .other, false⟩ := rfl
theorem tt_71 : tt 71 = ⟨true, 1, 8, false, [.other], [.lit .nilFunc], .other, false⟩ := rfl
theorem tt_72 : tt 72 = ⟨true, 1, 8, false, [.other], [.lit .nilFunc], .other, false⟩ := rfl
theorem tt_73 : tt 73 = ⟨true, 5, 40, true, [.int .i64, .int .i64, .int .i64, .int .i64, .int .u64], [.int .i64 0, .int .i64 0, .int .i64 0, .int .i64 0, .int .u64 0], .struct [(0, 1), (1, 1), (2, 1), (3, 1), (4, 1)], true⟩ := rfl
theorem tt_74 : tt 74 = ⟨true, 5, 40, true, [.int .i64, .int .i64, .int .i64, .int .i64, .int .u64], [.int .i64 0, .int .i64 0, .int .i64 0, .int .i64 0, .int .u64 0], .struct [(0, 1), (1, 1), (2, 1), (3, 1), (4, 1)], true⟩ := rfl
theorem tt_75 : tt 75 = ⟨true, 3, 24, true, [.int .i64, .int .i64, .int .i64], [.int .i64 0, .int .i64 0, .int .i64 0], .struct [(0, 1), (1, 1), (2, 1)], true⟩ := rfl
theorem tt_76 : tt 76 = ⟨true, 3, 24, true, [.int .i64, .int .i64, .int .i64], [.int .i64 0, .int .i64 0, .int .i64 0], .struct [(0, 1), (1, 1), (2, 1)], true⟩ := rfl
theorem tt_77 : tt 77 = ⟨true, 3, 24, true, [.int .i64, .int .i64, .int .i64], [.int .i64 0, .int .i64 0, .int .i64 0], .struct [(0, 1), (1, 1), (2, 1)], true⟩ := rfl
theorem tt_78 : tt 78 = ⟨true, 5, 40, true, [.int .i64, .int .i64, .int .i64, .int .i64, .int .u64], [.int .i64 0, .int .i64 0, .int .i64 0, .int .i64 0, .int .u64 0], .struct [(0, 1), (1, 1), (2, 1), (3, 1), (4, 1)], true⟩ := rfl
theorem tt_79 : tt 79 = ⟨true, 1, 8, false, [.other], [.lit .nilFunc], .other, false⟩ := rfl
theorem tt_80 : tt 80 = ⟨true, 1, 8, false, [.other], [.lit .nilFunc], .other, false⟩ := rfl
theorem tt_81 : tt 81 = ⟨true, 1, 8, false, [.other], [.lit .nilFunc], .other, false⟩ := rfl
theorem tt_82 : tt 82 = ⟨true, 1, 8, false, [.other], [.lit .nilFunc], .other, false⟩ := rfl
theorem tt_83 : tt 83 = ⟨true, 1, 8, false, [.other], [.lit .nilFunc], .other, false⟩ := rfl
theorem tt_84 : tt 84 = ⟨true, 1, 8, false, [.other], [.lit .nilFunc], .other, false⟩ := rfl
theorem tt_86 : tt 86 = ⟨true, 1, 8, false, [.other], [.lit .nilFunc], .other, false⟩ := rfl
theorem tt_87 : tt 87 = ⟨true, 1, 8, false, [.other], [.lit .nilFunc], .other, false⟩ := rfl
theorem tt_89 : tt 89 = ⟨true, 1, 8, false, [.other], [.lit .nilFunc], .other, false⟩ := rfl
theorem tt_91 : tt 91 = ⟨true, 1, 8, false, [.other], [.lit .nilFunc], .other, false⟩ := rfl
theorem tt_92 : tt 92 = ⟨true, 1, 8, false, [.other], [.lit .nilFunc], .other, false⟩ := rfl
theorem tt_93 : tt 93 = ⟨true, 1, 8, false, [.other], [.lit .nilFunc], .other, false⟩ := rfl
theorem tt_94 : tt 94 = ⟨true, 1, 8, false, [.other], [.lit .nilFunc], .other, false⟩ := rfl
theorem tt_95 : tt 95 = ⟨true, 1, 8, false, [.other], [.lit .nilFunc], .other, false⟩ := rfl
theorem tt_96 : tt 96 = ⟨true, 1, 8, false, [.other], [.lit .nilFunc], .other, false⟩ := rfl
theorem tt_97 : tt 97 = ⟨true, 1, 8, false, [.other], [.lit .nilFunc], .other, false⟩ := rfl
theorem tt_98 : tt 98 = ⟨true, 1, 8, false, [.other], [.lit .nilFunc], .other, false⟩ := rfl
theorem tt_99 : tt 99 = ⟨true, 1, 8, false, [.other], [.lit .nilFunc], .other, false⟩ := rfl
theorem tt_100 : tt 100 = ⟨true, 1, 8, false, [.other], [.lit .nilFunc], .other, false⟩ := rfl
theorem tt_102 : tt 102 = ⟨true, 1, 8, false, [.other], [.lit .nilFunc], .other, false⟩ := rfl
theorem tt_103 : tt 103 = ⟨true, 1, 8, false, [.other], [.lit .nilFunc], .other, false⟩ := rfl
theorem tt_104 : tt 104 = ⟨true, 1, 8, false, [.other], [.lit .nilFunc], .other, false⟩ := rfl
theorem tt_105 : tt 105 = ⟨true, 1, 8, false, [.other], [.lit .nilFunc], .other, false⟩ := rfl
theorem tt_107 : tt 107 = ⟨true, 1, 8, false, [.other], [.lit .nilFunc], .other, false⟩ := rfl
theorem tt_109 : tt 109 = ⟨true, 1, 8, false, [.other], [.lit .nilFunc], .other, false⟩ := rfl
theorem tt_111 : tt 111 = ⟨true, 1, 8, false, [.other], [.lit .nilFunc], .other, false⟩ := rfl
theorem tt_112 : tt 112 = ⟨true, 1, 8, false, [.other], [.nilp], .ptr, false⟩ := rfl
theorem tt_113 : tt 113 = ⟨true, 1, 24, false, [.other], [.nils], .slice 5, false⟩ := rfl
theorem tt_114 : tt 114 = ⟨true, 2, 32, true, [.other, .other], [.nilp, .nils], .struct [(0, 1), (1, 1)], false⟩ := rfl
theorem tt_115 : tt 115 = ⟨true, 2, 32, true, [.other, .other], [.nilp, .nils], .struct [(0, 1), (1, 1)], false⟩ := rfl
theorem tt_116 : tt 116 = ⟨true, 3, 24, true, [.int .i64, .int .i64, .int .i64], [.int .i64 0, .int .i64 0, .int .i64 0], .array 3 3, false⟩ := rfl
theorem tt_117 : tt 117 = ⟨true, 1, 16, false, [.other], [.lit .nilIface], .other, false⟩ := rfl
theorem tt_118 : tt 118 = ⟨true, 1, 16, false, [.other], [.lit .nilIface], .other, false⟩ := rfl
theorem tt_120 : tt 120 = ⟨true, 1, 8, false, [.other], [.lit .nilFunc], .other, false⟩ := rfl
theorem tt_121 : tt 121 = ⟨true, 1, 8, false, [.other], [.lit .nilFunc], .other, false⟩ := rfl
theorem tt_122 : tt 122 = ⟨true, 1, 8, false, [.other], [.lit .nilFunc], .other, false⟩ := rfl
theorem tt_124 : tt 124 = ⟨true, 1, 8, false, [.other], [.lit .nilFunc], .other, false⟩ := rfl
theorem tt_125 : tt 125 = ⟨true, 1, 8, false, [.other], [.lit .nilFunc], .other, false⟩ := rfl
theorem tt_126 : tt 126 = ⟨true, 1, 8, false, [.other], [.lit .nilFunc], .other, false⟩ := rfl
theorem tt_127 : tt 127 = ⟨true, 1, 8, false, [.other], [.nilp], .ptr, false⟩ := rfl
theorem tt_129 : tt 129 = ⟨true, 1, 8, false, [.other], [.lit .nilFunc], .other, false⟩ := rfl
theorem tt_130 : tt 130 = ⟨true, 1, 8, false, [.other], [.lit .nilFunc], .other, false⟩ := rfl
theorem tt_132 : tt 132 = ⟨true, 1, 8, false, [.other], [.lit .nilFunc], .other, false⟩ := rfl
theorem tt_133 : tt 133 = ⟨true, 1, 8, false, [.other], [.lit .nilFunc], .other, false⟩ := rfl
theorem tt_134 : tt 134 = ⟨true, 1, 8, false, [.other], [.lit .nilFunc], .other, false⟩ := rfl
theorem tt_135 : tt 135 = ⟨true, 1, 8, false, [.other], [.nilp], .ptr, false⟩ := rfl
theorem tt_136 : tt 136 = ⟨true, 19, 304, true, [.str, .str, .str, .str, .str, .str, .str, .str, .str, .str, .str, .str, .str, .str, .str, .str, .str, .str, .str], [.str [], .str [], .str [], .str [], .str [], .str [], .str [], .str [], .str [], .str [], .str [], .str [], .str [], .str [], .str [], .str [], .str [], .str [], .str []], .array 19 9, false⟩ := rfl
theorem tt_137 : tt 137 = ⟨true, 20, 320, true, [.str, .str, .str, .str, .str, .str, .str, .str, .str, .str, .str, .str, .str, .str, .str, .str, .str, .str, .str, .str], [.str [], .str [], .str [], .str [], .str [], .str [], .str [], .str [], .str [], .str [], .str [], .str [], .str [], .str [], .str [], .str [], .str [], .str [], .str [], .str []], .array 20 9, false⟩ := rfl
theorem tt_138 : tt 138 = ⟨true, 24, 24, true, [.int .u8, .int .u8, .int .u8, .int .u8, .int .u8, .int .u8, .int .u8, .int .u8, .int .u8, .int .u8, .int .u8, .int .u8, .int .u8, .int .u8, .int .u8, .int .u8, .int .u8, .int .u8, .int .u8, .int .u8, .int .u8, .int .u8, .int .u8, .int .u8], [.int .u8 0, .int .u8 0, .int .u8 0, .int .u8 0, .int .u8 0, .int .u8 0, .int .u8 0, .int .u8 0, .int .u8 0, .int .u8 0, .int .u8 0, .int .u8 0, .int .u8 0, .int .u8 0, .int .u8 0, .int .u8 0, .int .u8 0, .int .u8 0, .int .u8 0, .int .u8 0, .int .u8 0, .int .u8 0, .int .u8 0, .int .u8 0], .array 24 5, false⟩ := rfl
theorem tt_139 : tt 139 = ⟨true, 1, 8, false, [.other], [.lit .nilFunc], .other, false⟩ := rfl
theorem tt_141 : tt 141 = ⟨true, 1, 8, false, [.other], [.lit .nilFunc], .other, false⟩ := rfl
theorem tt_143 : tt 143 = ⟨true, 1, 8, false, [.other], [.lit .nilFunc], .other, false⟩ := rfl
theorem tt_144 : tt 144 = ⟨true, 1, 8, false, [.int .u64], [.int .u64 0], .int .u64, false⟩ := rfl
theorem tt_145 : tt 145 = ⟨true, 1, 8, false, [.other], [.nilp], .other, false⟩ := rfl
theorem tt_146 : tt 146 = ⟨true, 1, 8, false, [.other], [.lit .nilFunc], .other, false⟩ := rfl
theorem tt_147 : tt 147 = ⟨true, 1, 8, false, [.other], [.lit .nilFunc], .other, false⟩ := rfl
theorem tt_148 : tt 148 = ⟨true, 20, 160, true, [.int .u64, .int .u64, .int .u64, .int .u64, .int .u64, .int .u64, .int .u64, .int .u64, .int .u64, .int .u64, .int .u64, .int .u64, .int .u64, .int .u64, .int .u64, .int .u64, .int .u64, .int .u64, .int .u64, .int .u64], [.int .u64 0, .int .u64 0, .int .u64 0, .int .u64 0, .int .u64 0, .int .u64 0, .int .u64 0, .int .u64 0, .int .u64 0, .int .u64 0, .int .u64 0, .int .u64 0, .int .u64 0, .int .u64 0, .int .u64 0, .int .u64 0, .int .u64 0, .int .u64 0, .int .u64 0, .int .u64 0], .array 20 22, false⟩ := rfl
theorem tt_149 : tt 149 = ⟨true, 1, 4, false, [.int .u32], [.int .u32 0], .int .u32, false⟩ := rfl
theorem tt_151 : tt 151 = ⟨true, 1, 8, false, [.other], [.lit .nilFunc], .other, false⟩ := rfl
theorem tt_152 : tt 152 = ⟨true, 1, 8, false, [.other], [.lit .nilFunc], .other, false⟩ := rfl
theorem tt_153 : tt 153 = ⟨true, 1, 8, false, [.other], [.lit .nilFunc], .other, false⟩ := rfl
theorem tt_155 : tt 155 = ⟨true, 1, 8, false, [.other], [.lit .nilFunc], .other, false⟩ := rfl
theorem tt_157 : tt 157 = ⟨true, 2, 2, true, [.int .u8, .int .u8], [.int .u8 0, .int .u8 0], .struct [(0, 1), (1, 1)], true⟩ := rfl
theorem tt_158 : tt 158 = ⟨true, 2, 2, true, [.int .u8, .int .u8], [.int .u8 0, .int .u8 0], .struct [(0, 1), (1, 1)], true⟩ := rfl
theorem tt_159 : tt 159 = ⟨true, 32, 32, true, [.int .u8, .int .u8, .int .u8, .int .u8, .int .u8, .int .u8, .int .u8, .int .u8, .int .u8, .int .u8, .int .u8, .int .u8, .int .u8, .int .u8, .int .u8, .int .u8, .int .u8, .int .u8, .int .u8, .int .u8, .int .u8, .int .u8, .int .u8, .int .u8, .int .u8, .int .u8, .int .u8, .int .u8, .int .u8, .int .u8, .int .u8, .int .u8], [.int .u8 0, .int .u8 0, .int .u8 0, .int .u8 0, .int .u8 0, .int .u8 0, .int .u8 0, .int .u8 0, .int .u8 0, .int .u8 0, .int .u8 0, .int .u8 0, .int .u8 0, .int .u8 0, .int .u8 0, .int .u8 0, .int .u8 0, .int .u8 0, .int .u8 0, .int .u8 0, .int .u8 0, .int .u8 0, .int .u8 0, .int .u8 0, .int .u8 0, .int .u8 0, .int .u8 0, .int .u8 0, .int .u8 0, .int .u8 0, .int .u8 0, .int .u8 0], .array 16 158, false⟩ := rfl
theorem tt_161 : tt 161 = ⟨true, 1, 8, false, [.other], [.lit .nilFunc], .other, false⟩ := rfl
theorem tt_162 : tt 162 = ⟨true, 1, 8, false, [.other], [.lit .nilFunc], .other, false⟩ := rfl
theorem tt_163 : tt 163 = ⟨true, 32, 32, true, [.int .u8, .int .u8, .int .u8, .int .u8, .int .u8, .int .u8, .int .u8, .int .u8, .int .u8, .int .u8, .int .u8, .int .u8, .int .u8, .int .u8, .int .u8, .int .u8, .int .u8, .int .u8, .int .u8, .int .u8, .int .u8, .int .u8, .int .u8, .int .u8, .int .u8, .int .u8, .int .u8, .int .u8, .int .u8, .int .u8, .int .u8, .int .u8], [.int .u8 0, .int .u8 0, .int .u8 0, .int .u8 0, .int .u8 0, .int .u8 0, .int .u8 0, .int .u8 0, .int .u8 0, .int .u8 0, .int .u8 0, .int .u8 0, .int .u8 0, .int .u8 0, .int .u8 0, .int .u8 0, .int .u8 0, .int .u8 0, .int .u8 0, .int .u8 0, .int .u8 0, .int .u8 0, .int .u8 0, .int .u8 0, .int .u8 0, .int .u8 0, .int .u8 0, .int .u8 0, .int .u8 0, .int .u8 0, .int .u8 0, .int .u8 0], .array 32 5, false⟩ := rfl
theorem tt_164 : tt 164 = ⟨true, 64, 64, true, [.int .u8, .int .u8, .int .u8, .int .u8, .int .u8, .int .u8, .int .u8, .int .u8, .int .u8, .int .u8, .int .u8, .int .u8, .int .u8, .int .u8, .int .u8, .int .u8, .int .u8, .int .u8, .int .u8, .int .u8, .int .u8, .int .u8, .int .u8, .int .u8, .int .u8, .int .u8, .int .u8, .int .u8, .int .u8, .int .u8, .int .u8, .int .u8, .int .u8, .int .u8, .int .u8, .int .u8, .int .u8, .int .u8, .int .u8, .int .u8, .int .u8, .int .u8, .int .u8, .int .u8, .int .u8, .int .u8, .int .u8, .int .u8, .int .u8, .int .u8, .int .u8, .int .u8, .int .u8, .int .u8, .int .u8, .int .u8, .int .u8, .int .u8, .int .u8, .int .u8, .int .u8, .int .u8, .int .u8, .int .u8], [.int .u8 0, .int .u8 0, .int .u8 0, .int .u8 0, .int .u8 0, .int .u8 0, .int .u8 0, .int .u8 0, .int .u8 0, .int .u8 0, .int .u8 0, .int .u8 0, .int .u8 0, .int .u8 0, .int .u8 0, .int .u8 0, .int .u8 0, .int .u8 0, .int .u8 0, .int .u8 0, .int .u8 0, .int .u8 0, .int .u8 0, .int .u8 0, .int .u8 0, .int .u8 0, .int .u8 0, .int .u8 0, .int .u8 0, .int .u8 0, .int .u8 0, .int .u8 0, .int .u8 0, .int .u8 0, .int .u8 0, .int .u8 0, .int .u8 0, .int .u8 0, .int .u8 0, .int .u8 0, .int .u8 0, .int .u8 0, .int .u8 0, .int .u8 0, .int .u8 0, .int .u8 0, .int .u8 0, .int .u8 0, .int .u8 0, .int .u8 0, .int .u8 0, .int .u8 0, .int .u8 0, .int .u8 0, .int .u8 0, .int .u8 0, .int .u8 0, .int .u8 0, .int .u8 0, .int .u8 0, .int .u8 0, .int .u8 0, .int .u8 0, .int .u8 0], .array 64 5, false⟩ := rfl
theorem tt_165 : tt 165 = ⟨true, 4, 40, true, [.other, .other, .other, .str], [.nilp, .nilp, .nilp, .str []], .struct [(0, 1), (1, 1), (2, 1), (3, 1)], false⟩ := rfl
theorem tt_166 : tt 166 = ⟨true, 4, 40, true, [.other, .other, .other, .str], [.nilp, .nilp, .nilp, .str []], .struct [(0, 1), (1, 1), (2, 1), (3, 1)], false⟩ := rfl
theorem tt_167 : tt 167 = ⟨true, 0, 0, true, [], [], .array 0 16, false⟩ := rfl
theorem tt_168 : tt 168 = ⟨true, 0, 0, true, [], [], .other, false⟩ := rfl
theorem tt_169 : tt 169 = ⟨true, 0, 0, true, [], [], .other, false⟩ := rfl
theorem tt_170 : tt 170 = ⟨true, 1, 8, false, [.other], [.lit .nilFunc], .other, false⟩ := rfl
theorem tt_171 : tt 171 = ⟨true, 1, 1, false, [.int .u8], [.int .u8 0], .int .u8, false⟩ := rfl
theorem tt_172 : tt 172 = ⟨true, 1, 1, false, [.int .u8], [.int .u8 0], .int .u8, false⟩ := rfl
theorem tt_173 : tt 173 = ⟨true, 1, 8, false, [.other], [.lit .nilFunc], .other, false⟩ := rfl
theorem tt_174 : tt 174 = ⟨true, 1, 4, false, [.int .i32], [.int .i32 0], .int .i32, false⟩ := rfl
theorem tt_175 : tt 175 = ⟨true, 1, 4, false, [.int .i32], [.int .i32 0], .int .i32, false⟩ := rfl
theorem tt_176 : tt 176 = ⟨true, 11, 48, true, [.int .u64, .int .u64, .int .u32, .int .u8, .int .u8, .int .u8, .int .u8, .other, .other, .int .i32, .int .i32], [.int .u64 0, .int .u64 0, .int .u32 0, .int .u8 0, .int .u8 0, .int .u8 0, .int .u8 0, .lit .nilFunc, .nilp, .int .i32 0, .int .i32 0], .struct [(0, 1), (1, 1), (2, 1), (3, 1), (4, 1), (5, 1), (6, 1), (7, 1), (8, 1), (9, 1), (10, 1)], false⟩ := rfl
theorem tt_177 : tt 177 = ⟨true, 11, 48, true, [.int .u64, .int .u64, .int .u32, .int .u8, .int .u8, .int .u8, .int .u8, .other, .other, .int .i32, .int .i32], [.int .u64 0, .int .u64 0, .int .u32 0, .int .u8 0, .int .u8 0, .int .u8 0, .int .u8 0, .lit .nilFunc, .nilp, .int .i32 0, .int .i32 0], .struct [(0, 1), (1, 1), (2, 1), (3, 1), (4, 1), (5, 1), (6, 1), (7, 1), (8, 1), (9, 1), (10, 1)], false⟩ := rfl
theorem mixed : Go.Proofs.Tryd.prog.follows .mixedOrders = true := by kernel_rfl
def ord3 : Nat → Option Ord := fun id => bif id == 9 then some (.go 0 (.go 1 (.go 2 (.go 3 (.go 4 (.go 5 (.go 6 (.go 7 (.go 8 (.done)))))))))) else none
def ord4 : Nat → Option Ord := fun id => bif id == 10 then some (.go 0 (.go 1 (.go 2 (.go 3 (.go 4 (.go 5 (.go 6 (.go 7 (.go 8 (.go 9 (.go 10 (.done)))))))))))) else none
def ord15 : Nat → Option Ord := fun id => bif id == 6 then some (.go 0 (.go 1 (.go 2 (.go 3 (.go 4 (.go 5 (.go 6 (.go 7 (.go 8 (.go 9 (.go 10 (.done)))))))))))) else bif id == 11 then some (.go 0 (.go 1 (.go 2 (.go 3 (.go 4 (.go 5 (.go 6 (.go 7 (.go 8 (.go 9 (.go 10 (.go 11 (.go 12 (.go 13 (.go 14 (.go 15 (.go 16 (.go 17 (.go 18 (.go 19 (.go 20 (.go 21 (.go 22 (.go 23 (.go 24 (.go 25 (.go 26 (.go 27 (.go 28 (.go 29 (.go 30 (.go 31 (.go 32 (.go 33 (.go 34 (.go 35 (.go 36 (.go 37 (.go 38 (.go 39 (.go 40 (.go 41 (.go 42 (.go 43 (.done))))))))))))))))))))))))))))))))))))))))))))) else bif id == 16 then some (.go 0 (.go 1 (.go 2 (.go 3 (.go 4 (.go 5 (.go 6 (.go 7 (.go 8 (.go 9 (.go 10 (.done)))))))))))) else none
def ord16 : Nat → Option Ord := fun id => bif id == 5 then some (.go 0 (.go 1 (.go 2 (.go 3 (.go 4 (.go 5 (.go 6 (.go 7 (.go 8 (.go 9 (.go 10 (.go 11 (.go 12 (.go 13 (.go 14 (.done)))))))))))))))) else none
def ord18 : Nat → Option Ord := fun id => bif id == 1 then some (.go 0 (.go 1 (.go 2 (.go 3 (.go 4 (.go 5 (.go 6 (.go 7 (.go 8 (.go 9 (.go 10 (.go 11 (.go 12 (.go 13 (.go 14 (.go 15 (.go 16 (.go 17 (.go 18 (.go 19 (.go 20 (.go 21 (.go 22 (.go 23 (.go 24 (.go 25 (.go 26 (.go 27 (.go 28 (.go 29 (.go 30 (.go 31 (.go 32 (.go 33 (.go 34 (.go 35 (.go 36 (.go 37 (.go 38 (.done)))))))))))))))))))))))))))))))))))))))) else bif id == 14 then some (.go 0 (.go 1 (.go 2 (.go 3 (.go 4 (.go 5 (.go 6 (.go 7 (.go 8 (.go 9 (.go 10 (.go 11 (.go 12 (.go 13 (.go 14 (.go 15 (.go 16 (.go 17 (.go 18 (.go 19 (.go 20 (.done)))))))))))))))))))))) else none
def ord20 : Nat → Option Ord := fun id => bif id == 12 then some (.go 0 (.go 1 (.go 2 (.go 3 (.go 4 (.go 5 (.go 8 (.go 9 (.go 10 (.go 11 (.go 14 (.go 15 (.go 16 (.go 17 (.go 21 (.go 22 (.br 6 (.go 7 (.br 12 (.go 13 (.br 18 (.go 19 (.go 20 (.go 23 (.go 24 (.go 25 (.go 26 (.go 27 (.done)))))))) 20 (.go 23 (.go 24 (.go 25 (.go 18 (.go 19 (.go 26 (.go 27 (.done)))))))))) 20 (.go 23 (.go 24 (.go 25 (.go 12 (.go 13 (.go 18 (.go 19 (.go 26 (.go 27 (.done)))))))))))) 20 (.go 23 (.go 24 (.go 25 (.go 6 (.go 7 (.go 12 (.go 13 (.go 18 (.go 19 (.go 26 (.go 27 (.done))))))))))))))))))))))))))))) else bif id == 17 then some (.go 0 (.go 1 (.go 2 (.go 3 (.go 4 (.go 7 (.go 8 (.go 9 (.go 12 (.go 13 (.go 14 (.go 5 (.go 6 (.go 10 (.go 11 (.go 15 (.go 16 (.go 17 (.done))))))))))))))))))) else none
def ord25 : Nat → Option Ord := fun id => bif id == 7 then some (.go 0 (.go 2 (.go 3 (.go 4 (.go 1 (.go 5 (.done))))))) else none
def ord26 : Nat → Option Ord := fun id => bif id == 4 then some (.go 0 (.go 1 (.go 2 (.go 3 (.go 4 (.go 5 (.go 6 (.go 7 (.go 8 (.done)))))))))) else none
def ord32 : Nat → Option Ord := fun id => bif id == 1 then some (.go 0 (.go 1 (.go 2 (.go 3 (.go 4 (.go 5 (.go 6 (.go 7 (.go 8 (.go 9 (.go 10 (.go 11 (.go 12 (.go 13 (.go 14 (.go 15 (.go 16 (.go 17 (.go 18 (.done)))))))))))))))))))) else none
def ord35 : Nat → Option Ord := fun id => bif id == 7 then some (.go 0 (.go 2 (.go 3 (.go 4 (.go 1 (.go 5 (.done))))))) else none
def ord61 : Nat → Option Ord := fun id => bif id == 11 then some (.go 0 (.go 1 (.go 2 (.go 3 (.go 4 (.go 5 (.go 6 (.go 7 (.go 8 (.go 9 (.go 10 (.done)))))))))))) else none
def ord65 : Nat → Option Ord := fun id => bif id == 8 then some (.go 0 (.go 1 (.go 2 (.go 3 (.go 4 (.go 5 (.go 6 (.go 7 (.go 8 (.go 9 (.go 10 (.go 11 (.go 12 (.done)))))))))))))) else bif id == 13 then some (.go 0 (.go 1 (.go 2 (.go 3 (.go 4 (.go 5 (.go 6 (.go 7 (.done))))))))) else bif id == 21 then some (.go 0 (.go 1 (.go 2 (.go 3 (.go 4 (.go 5 (.go 6 (.go 7 (.go 8 (.go 9 (.go 10 (.go 11 (.go 12 (.go 13 (.go 14 (.go 15 (.done))))))))))))))))) else bif id == 22 then some (.go 0 (.go 1 (.br 2 (.go 3 (.go 4 (.go 5 (.done)))) 4 (.go 2 (.go 3 (.go 5 (.done))))))) else none
def ord66 : Nat → Option Ord := fun id => bif id == 5 then some (.go 0 (.go 2 (.go 3 (.go 4 (.go 1 (.go 5 (.done))))))) else bif id == 24 then some (.go 0 (.go 1 (.go 2 (.go 3 (.go 4 (.done)))))) else none
def ord67 : Nat → Option Ord := fun id => bif id == 4 then some (.go 0 (.go 2 (.go 3 (.go 4 (.go 1 (.go 5 (.done))))))) else bif id == 12 then some (.go 0 (.go 2 (.go 6 (.go 7 (.go 8 (.go 9 (.go 10 (.go 1 (.go 3 (.go 4 (.go 5 (.go 11 (.go 12 (.done)))))))))))))) else bif id == 13 then some (.go 0 (.go 1 (.go 2 (.go 3 (.go 4 (.done)))))) else none
def ord72 : Nat → Option Ord := fun id => bif id == 1 then some (.go 0 (.go 1 (.go 2 (.go 3 (.go 5 (.go 6 (.go 7 (.br 4 (.go 8 (.go 9 (.go 10 (.go 11 (.done))))) 8 (.go 9 (.go 4 (.go 10 (.go 11 (.done))))))))))))) else none
def ord78 : Nat → Option Ord := fun id => bif id == 3 then some (.go 0 (.go 1 (.go 2 (.go 3 (.go 5 (.go 6 (.go 7 (.go 11 (.br 4 (.go 8 (.go 9 (.go 10 (.go 12 (.done))))) 8 (.go 9 (.go 4 (.go 10 (.go 12 (.done)))))))))))))) else none
def ord83 : Nat → Option Ord := fun id => bif id == 15 then some (.go 0 (.go 1 (.go 2 (.go 3 (.go 4 (.go 5 (.go 6 (.go 7 (.go 8 (.go 9 (.go 10 (.done)))))))))))) else none
def ord84 : Nat → Option Ord := fun id => bif id == 6 then some (.go 0 (.go 2 (.go 3 (.go 4 (.go 1 (.go 5 (.done))))))) else bif id == 28 then some (.go 0 (.go 1 (.go 2 (.go 3 (.go 4 (.done)))))) else none
def ord85 : Nat → Option Ord := fun id => bif id == 7 then some (.go 0 (.go 2 (.go 3 (.go 4 (.go 1 (.go 5 (.done))))))) else none
def ord95 : Nat → Option Ord := fun id => bif id == 7 then some (.go 0 (.go 1 (.go 2 (.go 3 (.go 4 (.go 5 (.go 6 (.go 7 (.go 8 (.go 9 (.go 10 (.go 11 (.go 12 (.go 13 (.go 14 (.done)))))))))))))))) else bif id == 8 then some (.go 0 (.go 1 (.go 2 (.go 3 (.go 4 (.go 5 (.go 6 (.go 7 (.go 8 (.go 9 (.go 10 (.go 11 (.go 12 (.go 13 (.go 14 (.done)))))))))))))))) else bif id == 9 then some (.go 0 (.go 1 (.go 2 (.go 3 (.go 4 (.go 5 (.go 6 (.go 7 (.go 8 (.go 9 (.go 10 (.go 11 (.go 12 (.go 13 (.go 14 (.done)))))))))))))))) else bif id == 10 then some (.go 0 (.go 1 (.go 2 (.go 3 (.go 4 (.go 5 (.go 6 (.go 7 (.go 8 (.go 9 (.go 10 (.go 11 (.go 12 (.go 13 (.go 14 (.done)))))))))))))))) else bif id == 17 then some (.go 0 (.go 1 (.go 2 (.go 3 (.go 4 (.go 5 (.go 6 (.go 7 (.go 8 (.go 9 (.go 10 (.go 11 (.go 12 (.go 13 (.go 14 (.done)))))))))))))))) else bif id == 18 then some (.go 0 (.go 1 (.go 2 (.go 3 (.go 4 (.go 5 (.go 6 (.go 7 (.go 8 (.go 9 (.go 10 (.go 11 (.go 12 (.go 13 (.go 14 (.done)))))))))))))))) else bif id == 23 then some (.go 0 (.go 1 (.go 2 (.go 3 (.go 4 (.go 5 (.go 6 (.go 7 (.go 8 (.go 9 (.go 10 (.go 11 (.go 12 (.go 13 (.go 14 (.done)))))))))))))))) else none
def ord97 : Nat → Option Ord := fun id => bif id == 0 then some (.go 0 (.go 1 (.go 2 (.go 3 (.go 6 (.go 9 (.go 10 (.go 11 (.br 4 (.go 5 (.go 7 (.go 12 (.go 13 (.go 8 (.go 14 (.go 15 (.done)))))))) 12 (.go 13 (.go 4 (.go 5 (.go 7 (.go 8 (.go 14 (.go 15 (.done))))))))))))))))) else none
def ord98 : Nat → Option Ord := fun id => bif id == 15 then some (.go 0 (.go 1 (.go 2 (.go 4 (.go 6 (.go 7 (.br3 3 (.br 5 (.go 8 (.go 9 (.go 10 (.go 11 (.go 12 (.go 13 (.go 14 (.done)))))))) 8 (.go 9 (.go 10 (.br 5 (.go 11 (.go 12 (.go 13 (.go 14 (.done))))) 11 (.go 5 (.go 12 (.go 13 (.go 14 (.done))))))))) 5 (.br 3 (.go 8 (.go 9 (.go 10 (.go 11 (.go 12 (.go 13 (.go 14 (.done)))))))) 8 (.go 3 (.go 9 (.go 10 (.go 11 (.go 12 (.go 13 (.go 14 (.done))))))))) 8 (.go 3 (.go 9 (.go 10 (.br 5 (.go 11 (.go 12 (.go 13 (.go 14 (.done))))) 11 (.go 5 (.go 12 (.go 13 (.go 14 (.done)))))))))))))))) else bif id == 20 then some (.go 0 (.go 2 (.go 3 (.go 4 (.go 1 (.go 5 (.done))))))) else none
end Go.Sx.Tryd
namespace Go.Sx.Tryd
open Go Go.Sx Go.Proofs
theorem callee3 : Callee Tryd.prog 3 := ⟨Tryd.f3, Tryd.func3, by rfl, by rfl⟩
theorem callee4 : Callee Tryd.prog 4 := ⟨Tryd.f4, Tryd.func4, by rfl, by rfl⟩
theorem callee5 : Callee Tryd.prog 5 := ⟨Tryd.f5, Tryd.func5, by rfl, by rfl⟩
theorem callee6 : Callee Tryd.prog 6 := ⟨Tryd.f6, Tryd.func6, by rfl, by rfl⟩
theorem callee7 : Callee Tryd.prog 7 := ⟨Tryd.f7, Tryd.func7, by rfl, by rfl⟩
theorem callee8 : Callee Tryd.prog 8 := ⟨Tryd.f8, Tryd.func8, by rfl, by rfl⟩
theorem callee9 : Callee Tryd.prog 9 := ⟨Tryd.f9, Tryd.func9, by rfl, by rfl⟩
theorem callee10 : Callee Tryd.prog 10 := ⟨Tryd.f10, Tryd.func10, by rfl, by rfl⟩
theorem callee11 : Callee Tryd.prog 11 := ⟨Tryd.f11, Tryd.func11, by rfl, by rfl⟩
theorem callee12 : Callee Tryd.prog 12 := ⟨Tryd.f12, Tryd.func12, by rfl, by rfl⟩
theorem callee13 : Callee Tryd.prog 13 := ⟨Tryd.f13, Tryd.func13, by rfl, by rfl⟩
theorem callee14 : Callee Tryd.prog 14 := ⟨Tryd.f14, Tryd.func14, by rfl, by rfl⟩
theorem callee15 : Callee Tryd.prog 15 := ⟨Tryd.f15, Tryd.func15, by rfl, by rfl⟩
theorem callee16 : Callee Tryd.prog 16 := ⟨Tryd.f16, Tryd.func16, by rfl, by rfl⟩
theorem callee17 : Callee Tryd.prog 17 := ⟨Tryd.f17, Tryd.func17, by rfl, by rfl⟩
theorem callee18 : Callee Tryd.prog 18 := ⟨Tryd.f18, Tryd.func18, by rfl, by rfl⟩
theorem callee19 : Callee Tryd.prog 19 := ⟨Tryd.f19, Tryd.func19, by rfl, by rfl⟩
theorem callee20 : Callee Tryd.prog 20 := ⟨Tryd.f20, Tryd.func20, by rfl, by rfl⟩
theorem callee21 : Callee Tryd.prog 21 := ⟨Tryd.f21, Tryd.func21, by rfl, by rfl⟩
theorem callee22 : Callee Tryd.prog 22 := ⟨Tryd.f22, Tryd.func22, by rfl, by rfl⟩
theorem callee23 : Callee Tryd.prog 23 := ⟨Tryd.f23, Tryd.func23, by rfl, by rfl⟩
theorem callee24 : Callee Tryd.prog 24 := ⟨Tryd.f24, Tryd.func24, by rfl, by rfl⟩
theorem callee25 : Callee Tryd.prog 25 := ⟨Tryd.f25, Tryd.func25, by rfl, by rfl⟩
theorem callee26 : Callee Tryd.prog 26 := ⟨Tryd.f26, Tryd.func26, by rfl, by rfl⟩
theorem callee27 : Callee Tryd.prog 27 := ⟨Tryd.f27, Tryd.func27, by rfl, by rfl⟩
theorem callee28 : Callee Tryd.prog 28 := ⟨Tryd.f28, Tryd.func28, by rfl, by rfl⟩
theorem callee29 : Callee Tryd.prog 29 := ⟨Tryd.f29, Tryd.func29, by rfl, by rfl⟩
theorem callee30 : Callee Tryd.prog 30 := ⟨Tryd.f30, Tryd.func30, by rfl, by rfl⟩
theorem callee31 : Callee Tryd.prog 31 := ⟨Tryd.f31, Tryd.func31, by rfl, by rfl⟩
theorem callee32 : Callee Tryd.prog 32 := ⟨Tryd.f32, Tryd.func32, by rfl, by rfl⟩
theorem callee33 : Callee Tryd.prog 33 := ⟨Tryd.f33, Tryd.func33, by rfl, by rfl⟩
theorem callee34 : Callee Tryd.prog 34 := ⟨Tryd.f34, Tryd.func34, by rfl, by rfl⟩
theorem callee35 : Callee Tryd.prog 35 := ⟨Tryd.f35, Tryd.func35, by rfl, by rfl⟩
theorem callee38 : Callee Tryd.prog 38 := ⟨Tryd.f38, Tryd.func38, by rfl, by rfl⟩
theorem callee39 : Callee Tryd.prog 39 := ⟨Tryd.f39, Tryd.func39, by rfl, by rfl⟩
theorem callee41 : Callee Tryd.prog 41 := ⟨Tryd.f41, Tryd.func41, by rfl, by rfl⟩
theorem callee42 : Callee Tryd.prog 42 := ⟨Tryd.f42, Tryd.func42, by rfl, by rfl⟩
theorem callee43 : Callee Tryd.prog 43 := ⟨Tryd.f43, Tryd.func43, by rfl, by rfl⟩
theorem callee44 : Callee Tryd.prog 44 := ⟨Tryd.f44, Tryd.func44, by rfl, by rfl⟩
theorem callee47 : Callee Tryd.prog 47 := ⟨Tryd.f47, Tryd.func47, by rfl, by rfl⟩
theorem callee48 : Callee Tryd.prog 48 := ⟨Tryd.f48, Tryd.func48, by rfl, by rfl⟩
theorem callee49 : Callee Tryd.prog 49 := ⟨Tryd.f49, Tryd.func49, by rfl, by rfl⟩
theorem callee50 : Callee Tryd.prog 50 := ⟨Tryd.f50, Tryd.func50, by rfl, by rfl⟩
theorem callee51 : Callee Tryd.prog 51 := ⟨Tryd.f51, Tryd.func51, by rfl, by rfl⟩
theorem callee52 : Callee Tryd.prog 52 := ⟨Tryd.f52, Tryd.func52, by rfl, by rfl⟩
theorem callee53 : Callee Tryd.prog 53 := ⟨Tryd.f53, Tryd.func53, by rfl, by rfl⟩
theorem callee54 : Callee Tryd.prog 54 := ⟨Tryd.f54, Tryd.func54, by rfl, by rfl⟩
theorem callee55 : Callee Tryd.prog 55 := ⟨Tryd.f55, Tryd.func55, by rfl, by rfl⟩
theorem callee56 : Callee Tryd.prog 56 := ⟨Tryd.f56, Tryd.func56, by rfl, by rfl⟩
theorem callee57 : Callee Tryd.prog 57 := ⟨Tryd.f57, Tryd.func57, by rfl, by rfl⟩
theorem callee58 : Callee Tryd.prog 58 := ⟨Tryd.f58, Tryd.func58, by rfl, by rfl⟩
theorem callee59 : Callee Tryd.prog 59 := ⟨Tryd.f59, Tryd.func59, by rfl, by rfl⟩
theorem callee60 : Callee Tryd.prog 60 := ⟨Tryd.f60, Tryd.func60, by rfl, by rfl⟩
theorem callee61 : Callee Tryd.prog 61 := ⟨Tryd.f61, Tryd.func61, by rfl, by rfl⟩
theorem callee65 : Callee Tryd.prog 65 := ⟨Tryd.f65, Tryd.func65, by rfl, by rfl⟩
theorem callee66 : Callee Tryd.prog 66 := ⟨Tryd.f66, Tryd.func66, by rfl, by rfl⟩
theorem callee67 : Callee Tryd.prog 67 := ⟨Tryd.f67, Tryd.func67, by rfl, by rfl⟩
theorem callee71 : Callee Tryd.prog 71 := ⟨Tryd.f71, Tryd.func71, by rfl, by rfl⟩
theorem callee73 : Callee Tryd.prog 73 := ⟨Tryd.f73, Tryd.func73, by rfl, by rfl⟩
theorem callee74 : Callee Tryd.prog 74 := ⟨Tryd.f74, Tryd.func74, by rfl, by rfl⟩
theorem callee75 : Callee Tryd.prog 75 := ⟨Tryd.f75, Tryd.func75, by rfl, by rfl⟩
theorem callee76 : Callee Tryd.prog 76 := ⟨Tryd.f76, Tryd.func76, by rfl, by rfl⟩
theorem callee79 : Callee Tryd.prog 79 := ⟨Tryd.f79, Tryd.func79, by rfl, by rfl⟩
theorem callee80 : Callee Tryd.prog 80 := ⟨Tryd.f80, Tryd.func80, by rfl, by rfl⟩
theorem callee81 : Callee Tryd.prog 81 := ⟨Tryd.f81, Tryd.func81, by rfl, by rfl⟩
theorem callee82 : Callee Tryd.prog 82 := ⟨Tryd.f82, Tryd.func82, by rfl, by rfl⟩
theorem callee83 : Callee Tryd.prog 83 := ⟨Tryd.f83, Tryd.func83, by rfl, by rfl⟩
theorem callee84 : Callee Tryd.prog 84 := ⟨Tryd.f84, Tryd.func84, by rfl, by rfl⟩
theorem callee85 : Callee Tryd.prog 85 := ⟨Tryd.f85, Tryd.func85, by rfl, by rfl⟩
theorem callee90 : Callee Tryd.prog 90 := ⟨Tryd.f90, Tryd.func90, by rfl, by rfl⟩
theorem callee98 : Callee Tryd.prog 98 := ⟨Tryd.f98, Tryd.func98, by rfl, by rfl⟩
theorem callee111 : Callee Tryd.prog 111 := ⟨Tryd.f111, Tryd.func111, by rfl, by rfl⟩
end Go.Sx.Tryd
namespace Go.Sx
open Go

/-! ### The script's names -/
def kindL : List (List UInt8) := [[], [98, 111, 111, 116], [114, 101, 115, 101, 114, 118, 101], [114, 101, 108, 101, 97, 115, 101], [111, 112, 101, 110], [115, 104, 117, 116], [99, 111, 100, 101], [103, 111], [106, 111, 98], [114, 97, 105, 115, 101], [119, 97, 110, 116], [99, 97, 108, 108], [119, 111, 114, 100], [116, 105, 99, 107], [115, 104, 111, 119], [108, 105, 98], [102, 114, 97, 109, 101], [116, 101, 115, 116]]
def instL : List (List UInt8) := [[104, 97, 108, 116], [115, 101, 116], [97, 100, 100], [115, 117, 98], [109, 117, 108], [100, 105, 118], [97, 110, 100], [111, 114], [120, 111, 114], [115, 104, 108], [115, 104, 114], [108, 101, 115, 115], [108, 111, 97, 100], [115, 116, 111, 114, 101], [106, 117, 109, 112], [98, 114, 97, 110, 99, 104], [97, 115, 107], [108, 105, 110, 107], [98, 97, 99, 107]]
def callL : List (List UInt8) := [[110, 117, 108, 108], [97, 108, 108, 111, 99], [102, 114, 101, 101], [114, 101, 97, 100], [119, 114, 105, 116, 101], [108, 111, 97, 100], [117, 110, 108, 111, 97, 100], [100, 101, 114, 105, 118, 101], [103, 105, 118, 101], [114, 101, 118, 111, 107, 101], [100, 114, 111, 112], [98, 105, 110, 100], [97, 99, 107], [109, 97, 115, 107], [97, 108, 97, 114, 109], [114, 101, 115, 101, 114, 118, 101], [114, 101, 108, 101, 97, 115, 101], [115, 101, 110, 100], [110, 101, 120, 116], [98, 108, 111, 99, 107]]
/-- The name that stands at a place; empty: there is none. -/
def nameAt (l : List (List UInt8)) (k : Int) : List UInt8 := if 0 ≤ k ∧ k < l.length then l.getD k.toNat [] else []
def tabF (l : List (List UInt8)) (_ j : Nat) : CV := .str (l.getD j [])
def glS (mx : Int) : Nat → Option CV := fun g => bif g == 0 then some (.rop 18 1 (tabF kindL) 0 0) else bif g == 1 then some (.rop 19 1 (tabF instL) 0 0) else bif g == 2 then some (.rop 20 1 (tabF callL) 0 0) else bif g == 3 then some (.rop 1 1 (fun _ _ => .int .i64 mx) 0 0) else none

def strs (l : List (List UInt8)) : List CV := l.map .str
theorem nth_strs (l : List (List UInt8)) (k : Nat) (h : k < l.length) : nth (strs l) k = .str (l.getD k []) := by
  induction l generalizing k with
  | nil => simp at h
  | cons x l ih => cases k with
    | zero => rfl
    | succ k => simpa [strs, nth] using ih k (by simpa using h)

theorem strs_at (l : List (List UInt8)) (k : Nat) (h : k < l.length) : CK.str.fits (nth (strs l) k) = true ∧ (nth (strs l) k).toStr = l.getD k [] := by
  rw [nth_strs l k h]
  exact ⟨rfl, rfl⟩
theorem nameAt_in {l : List (List UInt8)} {k : Int} (h : 0 ≤ k ∧ k < l.length) : nameAt l k = l.getD k.toNat [] := if_pos h
theorem nameAt_out {l : List (List UInt8)} {k : Int} (h : ¬ (0 ≤ k ∧ k < l.length)) : nameAt l k = [] := if_neg h

def nameSpec (l : List (List UInt8)) : Spec := {
  α := Int
  args k := [.c (.int .i64 k)]
  ins _ := []
  m := 0
  pre _ := True
  β := Unit
  post _ _ := True
  res k _ := .r (.c (.str (nameAt l k)))
  outs _ _ := []
  fresh := 0 }

def numSpec : Spec := {
  α := List UInt8 × Int
  args a := [.c (.str a.1), .c (.int .u64 a.2)]
  ins _ := []
  m := 0
  pre a := 0 ≤ a.2 ∧ a.2 < 18446744073709551616
  β := Unit
  post _ _ := True
  res a _ := .tup [.c (.int .u64 (numAns a.1 a.2).1), .c (.bool (numAns a.1 a.2).2)]
  outs _ _ := []
  fresh := 0 }
end Go.Sx
namespace Go.Sx
open Go

/-- What stands between bytes of a kind. -/
def cutL (c : UInt8) : List UInt8 → List (List UInt8)
  | [] => [[]]
  | b :: l => if b = c then [] :: cutL c l else match cutL c l with
    | h :: t => (b :: h) :: t
    | [] => [[b]]

theorem cutL_ne (c : UInt8) : ∀ s, cutL c s ≠ []
  | [] => by simp [cutL]
  | b :: l => by
    unfold cutL
    split
    · simp
    · split <;> simp

def onHead (b : UInt8) : List (List UInt8) → List (List UInt8)
  | h :: t => (b :: h) :: t
  | [] => [[b]]

theorem splitK_eq (c : UInt8) (k : Nat) (l : List UInt8) : Lib.splitK [c] 0 (k + 1) (c :: l) = [] :: Lib.splitK [c] 0 k l := by
  have hix : Lib.index (c :: l) [c] = 0 := by rw [Lib.index]; simp [List.isPrefixOf]
  rw [Lib.splitK, hix]
  simp

theorem splitK_ne (b c : UInt8) (h : b ≠ c) (k : Nat) (l : List UInt8) : Lib.splitK [c] 0 k (b :: l) = onHead b (Lib.splitK [c] 0 k l) := by
  cases k with
  | zero => rfl
  | succ k =>
    have hp : ([c] : List UInt8).isPrefixOf (b :: l) = false := by simp [List.isPrefixOf, Ne.symm h]
    have hix : Lib.index (b :: l) [c] = if Lib.index l [c] == -1 then -1 else Lib.index l [c] + 1 := by rw [Lib.index, hp]; simp
    by_cases hm : Lib.index l [c] = -1
    · rw [Lib.splitK, Lib.splitK, hix, hm]; rfl
    · have hge := Lib.index_ge l [c]
      obtain ⟨j, hj⟩ : ∃ j : Nat, Lib.index l [c] = j := ⟨(Lib.index l [c]).toNat, by omega⟩
      have hix' : Lib.index (b :: l) [c] = ((j + 1 : Nat) : Int) := by rw [hix, if_neg (fun e => hm (beq_iff_eq.1 e)), hj]; omega
      have n1 : ¬ ((((j + 1 : Nat) : Int)) == -1) = true := by simp; omega
      have n2 : ¬ (((j : Int)) == -1) = true := by simp
      rw [Lib.splitK, Lib.splitK, hix', hj, if_neg n1, if_neg n2]
      simp [onHead]

theorem splitK_cut (c : UInt8) : ∀ s : List UInt8, Lib.splitK [c] 0 (s.count c) s = cutL c s
  | [] => rfl
  | b :: l => by
    by_cases h : b = c
    · subst h
      rw [List.count_cons_self, splitK_eq, splitK_cut b l]
      simp [cutL]
    · rw [List.count_cons_of_ne h, splitK_ne b c h, splitK_cut c l]
      simp only [cutL, if_neg h]
      rfl

theorem splitB_cut (c : UInt8) (s : List UInt8) : (Lib.splitB ⟨#[c]⟩ 0 (Lib.countB ⟨s.toArray⟩ ⟨#[c]⟩) ⟨s.toArray⟩).map (·.data.toList) = cutL c s := by
  rw [Lib.splitB_data, ← splitK_cut c s]
  have : Lib.countB ⟨s.toArray⟩ ⟨#[c]⟩ = s.count c := by
    rw [← Lib.count_one c s]
  rw [this]
end Go.Sx
namespace Go.Sx.Tryd
open Go Go.Sx Go.Proofs
variable {mx : Int}

def numInv (a : List UInt8 × Int) : Nat → Option Inv := fun id => bif id == 5 then some { α := Nat, keep := [0, 1, 27], drop := [], env := fun _ k => [(28, .r (.c (.int .i64 k))), (6, .r (.c (.int .u64 (numF (a.1.take k)))))], chunks := fun _ _ => [], fresh := 0, pre := fun k => k ≤ a.1.length ∧ (a.1.take k).all dig = true ∧ numF (a.1.take k) < 18446744073709551616, μ := fun k => a.1.length - k } else none

set_option linter.unusedSimpArgs false
set_option maxRecDepth 20000 in
set_option maxHeartbeats 4000000 in
theorem num_does : Does Tryd.prog (glS mx) 7 numSpec := by
  refine Does.of (fn := Tryd.f7) Tryd.func7 rfl ttok (spec := fun _ => none) (fun k s h => by cases h) (pc := fun _ => true) (fun k s h => by cases h) mixed numSpec (fun a id _ => numInv a id) (fun _ => none) 1000 (rs := [.tmp 4, .tmp 5]) rfl (n := 60) rfl (by decide) (by kernel_rfl) ?_
  intro a hp
  refine ⟨by simp only [numSpec, List.length_cons, List.length_nil]; decide, ?_⟩
  simp (config := {maxSteps := 2000000}) only [numSpec, numInv, tt_1, tt_2, tt_3, tt_4, tt_5, tt_6, tt_7, tt_8, tt_9, tt_10, tt_11, tt_12, tt_13, tt_14, tt_15, tt_16, tt_17, tt_18, tt_19, tt_20, tt_21, tt_22, tt_23, tt_25, tt_26, tt_27, tt_28, tt_29, tt_30, tt_31, tt_33, tt_34, tt_36, tt_37, tt_38, tt_39, tt_40, tt_41, tt_42, tt_43, tt_44, tt_45, tt_46, tt_47, tt_48, tt_49, tt_50, tt_51, tt_52, tt_53, tt_54, tt_55, tt_56, tt_57, tt_58, tt_59, tt_60, tt_62, tt_63, tt_64, tt_65, tt_66, tt_67, tt_68, tt_69, tt_71, tt_72, tt_73, tt_74, tt_75, tt_76, tt_77, tt_78, tt_79, tt_80, tt_81, tt_82, tt_83, tt_84, tt_86, tt_87, tt_89, tt_91, tt_92, tt_93, tt_94, tt_95, tt_96, tt_97, tt_98, tt_99, tt_100, tt_102, tt_103, tt_104, tt_105, tt_107, tt_109, tt_111, tt_112, tt_113, tt_114, tt_115, tt_116, tt_117, tt_118, tt_120, tt_121, tt_122, tt_124, tt_125, tt_126, tt_127, tt_129, tt_130, tt_132, tt_133, tt_134, tt_135, tt_136, tt_137, tt_138, tt_139, tt_141, tt_143, tt_144, tt_145, tt_146, tt_147, tt_148, tt_149, tt_151, tt_152, tt_153, tt_155, tt_157, tt_158, tt_159, tt_161, tt_162, tt_163, tt_164, tt_165, tt_166, tt_167, tt_168, tt_169, tt_170, tt_171, tt_172, tt_173, tt_174, tt_175, tt_176, tt_177, sxRun, exA, Bool.and_true, Bool.true_and, rowF, mkCx, argsEnv, stepOp, stepOp0, undefd, anyU, opArgs, dstB, gcond, getV, getVs, getPs, evalO, look, lookS, chg, del, constCV, SS.put, SS.putT, catP, catE, allP, bop, cmpI, GC.imp, listAt, exitIt, rid, cutKey, keepEnv, SS.at, delAll, isA, isA0, entP, entEnv, entCh, TV.eqv, RV.eqv, CV.eqv, eqvL, eqvR, Chunk.eqv, Chunk.nil, coll3, collE, collL, collR, collC, TV.coll, RV.coll, CV.coll, apartB, memB, ikEq, finP, resAll, resOne, tupOf, tau, pureOp, loadOp, memOp, funcOf, sliceOf, fillC, fieldOff, repl, nth, setN, setFrom, cellsFrom, len', updR, appR, fits_i, fits_b, fits_s, fits_o, CK.eta, etas, fitss, toInt_i, toBool_b, toStr_s, CV.flat, flats, TI.val, RV.cells, kindsOk, wantB, SS.after, callSig, rnH, CV.rn, rnL, RV.rn, rnR, TV.rn, Chunk.rn, rnC, delIns, SS.frzs, SS.frz, frzOp, oslO, oslC, oslP, oslA, CV.frz, frzL, RV.frz, frzR, TV.frz, frzE, frzC, givE, TV.giv, RV.giv, CV.giv, givL, givR, List.toList_toArray, Nat.reduceBEq, Nat.reduceLT, Nat.reduceLeDiff, decide_true, decide_false, ↓reduceIte, Nat.reduceAdd, Nat.reduceMul, Nat.reduceSub, cond_true, cond_false, condP, cond_or, cond_and, imp_self, true_and, and_true, decide_eq_true_eq, decide_eq_false_iff_not, Bool.and_eq_true, Bool.or_eq_true, Bool.not_eq_true', Bool.not_eq_false', Bool.or_eq_false_iff, Bool.and_eq_false_imp, implies_true, exists_const, exists_prop, wrap_u64, wrap_u8, wrap_i64, tdiv_u64, tmod_u64, Int.toNat_natCast, Int.toNat_zero, Int.reduceToNat, Int.reduceLT, Int.reduceLE, Nat.zero_add, Nat.add_zero, Nat.mul_one, Int.reduceAdd, Int.reduceMod, Int.reduceSub, Int.reduceMul, Int.reduceNeg, Int.cast_ofNat_Int, not_false_eq_true, not_true_eq_false, forall_const, false_implies, Nat.reducePow, Bool.false_eq_true, Bool.true_eq_false, reduceCtorEq]
  obtain ⟨s, most⟩ := a
  obtain ⟨hm0, hm⟩ := hp
  simp only at hm0 hm
  simp only
  refine ⟨fun h => ?_, fun h h' => ⟨h, h'⟩, fun h => ?_, fun h => ⟨⟨0, ⟨by omega, by simp, by simp [numF]⟩, by simp, by simp [numF]⟩, fun x hx => ?_⟩⟩
  · have : s.length ≠ 0 := fun e => h.1 (List.length_eq_zero_iff.1 e)
    omega
  · refine numAns_none fun hh => ?_
    obtain ⟨h1, h2, h3, _⟩ := hh
    rcases h with (h | h) | h
    · exact h1 h
    · omega
    · have := h3 (UInt8.toNat_inj.1 (by have := h.1; show (s.getD 0 0).toNat = 48; omega))
      omega
  · obtain ⟨hx1, hx2, hx3⟩ := hx
    have h0 := numF_nonneg _ hx2
    refine ⟨fun hlt => ?_, fun hge => ?_⟩
    · have hlt : x < s.length := by omega
      refine ⟨by omega, fun _ => by omega, fun hc => numAns_none fun hh => ?_, fun hc => ⟨by omega, by decide, fun ho => numAns_none fun hh => ?_, fun ho => ⟨x + 1, ⟨by omega, ?_, ?_⟩, by omega, by omega, ?_⟩⟩⟩
      · have := all_at hh.2.2.2.1 hlt
        omega
      · have h1 := take_snoc s hlt
        have h2 := numF_snoc (s.take x) (s.getD x 0)
        rw [← h1] at h2
        have h3 := numF_take s (x + 1) hh.2.2.2.1
        have h4 := hh.2.2.2.2
        omega
      · rw [take_snoc s hlt, List.all_append, hx2]
        simp only [List.all_cons, List.all_nil, dig, Bool.true_and, Bool.and_true, Bool.and_eq_true, decide_eq_true_eq]
        omega
      · rw [take_snoc s hlt, numF_snoc]
        omega
      · rw [take_snoc s hlt, numF_snoc]
        have hd : ((s.getD x 0).toNat - 48 : Int) % 256 % 18446744073709551616 = (s.getD x 0).toNat - 48 := by omega
        rw [hd] at ho ⊢
        have hb : numF (s.take x) * 10 + ((s.getD x 0).toNat - 48 : Int) ≤ 18446744073709551615 := by omega
        rw [Int.emod_eq_of_lt (a := numF (s.take x) * 10) (by omega) (by omega), Int.emod_eq_of_lt (by omega) (by omega)]
    · have hx : x = s.length := by omega
      subst hx
      rw [List.take_length] at *
      refine ⟨fun hh => numAns_none fun hk => by omega, fun hh => ?_⟩
      refine numAns_some ⟨h.1.1, by omega, fun he => ?_, hx2, by omega⟩
      have := h.2 (by rw [he]; rfl)
      omega
end Go.Sx.Tryd
namespace Go.Sx.Tryd
open Go Go.Sx Go.Proofs
variable {mx : Int}

def rnumInv (a : List UInt8 × Int) : Nat → Option Inv := fun id => bif id == 5 then some { α := Nat, keep := [0, 1], drop := [], env := fun _ k => [(7, .r (.c (.int .i64 k))), (6, .r (.c (.int .u64 (numF (a.1.take k)))))], chunks := fun _ _ => [], fresh := 0, pre := fun k => k ≤ a.1.length ∧ (a.1.take k).all dig = true ∧ numF (a.1.take k) < 18446744073709551616, μ := fun k => a.1.length - k } else none

set_option linter.unusedSimpArgs false
set_option maxRecDepth 20000 in
set_option maxHeartbeats 4000000 in
theorem rnum_does : Does Tryd.prog (glS mx) 8 numSpec := by
  refine Does.of (fn := Tryd.f8) Tryd.func8 rfl ttok (spec := fun _ => none) (fun k s h => by cases h) (pc := fun _ => true) (fun k s h => by cases h) mixed numSpec (fun a id _ => rnumInv a id) (fun _ => none) 1000 (rs := [.tmp 4, .tmp 5]) rfl (n := 66) rfl (by decide) (by kernel_rfl) ?_
  intro a hp
  refine ⟨by simp only [numSpec, List.length_cons, List.length_nil]; decide, ?_⟩
  simp (config := {maxSteps := 2000000}) only [numSpec, rnumInv, tt_1, tt_2, tt_3, tt_4, tt_5, tt_6, tt_7, tt_8, tt_9, tt_10, tt_11, tt_12, tt_13, tt_14, tt_15, tt_16, tt_17, tt_18, tt_19, tt_20, tt_21, tt_22, tt_23, tt_25, tt_26, tt_27, tt_28, tt_29, tt_30, tt_31, tt_33, tt_34, tt_36, tt_37, tt_38, tt_39, tt_40, tt_41, tt_42, tt_43, tt_44, tt_45, tt_46, tt_47, tt_48, tt_49, tt_50, tt_51, tt_52, tt_53, tt_54, tt_55, tt_56, tt_57, tt_58, tt_59, tt_60, tt_62, tt_63, tt_64, tt_65, tt_66, tt_67, tt_68, tt_69, tt_71, tt_72, tt_73, tt_74, tt_75, tt_76, tt_77, tt_78, tt_79, tt_80, tt_81, tt_82, tt_83, tt_84, tt_86, tt_87, tt_89, tt_91, tt_92, tt_93, tt_94, tt_95, tt_96, tt_97, tt_98, tt_99, tt_100, tt_102, tt_103, tt_104, tt_105, tt_107, tt_109, tt_111, tt_112, tt_113, tt_114, tt_115, tt_116, tt_117, tt_118, tt_120, tt_121, tt_122, tt_124, tt_125, tt_126, tt_127, tt_129, tt_130, tt_132, tt_133, tt_134, tt_135, tt_136, tt_137, tt_138, tt_139, tt_141, tt_143, tt_144, tt_145, tt_146, tt_147, tt_148, tt_149, tt_151, tt_152, tt_153, tt_155, tt_157, tt_158, tt_159, tt_161, tt_162, tt_163, tt_164, tt_165, tt_166, tt_167, tt_168, tt_169, tt_170, tt_171, tt_172, tt_173, tt_174, tt_175, tt_176, tt_177, sxRun, exA, Bool.and_true, Bool.true_and, rowF, mkCx, argsEnv, stepOp, stepOp0, undefd, anyU, opArgs, dstB, gcond, getV, getVs, getPs, evalO, look, lookS, chg, del, constCV, SS.put, SS.putT, catP, catE, allP, bop, cmpI, GC.imp, listAt, exitIt, rid, cutKey, keepEnv, SS.at, delAll, isA, isA0, entP, entEnv, entCh, TV.eqv, RV.eqv, CV.eqv, eqvL, eqvR, Chunk.eqv, Chunk.nil, coll3, collE, collL, collR, collC, TV.coll, RV.coll, CV.coll, apartB, memB, ikEq, finP, resAll, resOne, tupOf, tau, pureOp, loadOp, memOp, funcOf, sliceOf, fillC, fieldOff, repl, nth, setN, setFrom, cellsFrom, len', updR, appR, fits_i, fits_b, fits_s, fits_o, CK.eta, etas, fitss, toInt_i, toBool_b, toStr_s, CV.flat, flats, TI.val, RV.cells, kindsOk, wantB, SS.after, callSig, rnH, CV.rn, rnL, RV.rn, rnR, TV.rn, Chunk.rn, rnC, delIns, SS.frzs, SS.frz, frzOp, oslO, oslC, oslP, oslA, CV.frz, frzL, RV.frz, frzR, TV.frz, frzE, frzC, givE, TV.giv, RV.giv, CV.giv, givL, givR, List.toList_toArray, Nat.reduceBEq, Nat.reduceLT, Nat.reduceLeDiff, decide_true, decide_false, ↓reduceIte, Nat.reduceAdd, Nat.reduceMul, Nat.reduceSub, cond_true, cond_false, condP, cond_or, cond_and, imp_self, true_and, and_true, decide_eq_true_eq, decide_eq_false_iff_not, Bool.and_eq_true, Bool.or_eq_true, Bool.not_eq_true', Bool.not_eq_false', Bool.or_eq_false_iff, Bool.and_eq_false_imp, implies_true, exists_const, exists_prop, wrap_u64, wrap_u8, wrap_i64, tdiv_u64, tmod_u64, Int.toNat_natCast, Int.toNat_zero, Int.reduceToNat, Int.reduceLT, Int.reduceLE, Nat.zero_add, Nat.add_zero, Nat.mul_one, Int.reduceAdd, Int.reduceMod, Int.reduceSub, Int.reduceMul, Int.reduceNeg, Int.cast_ofNat_Int, not_false_eq_true, not_true_eq_false, forall_const, false_implies, Nat.reducePow, Bool.false_eq_true, Bool.true_eq_false, reduceCtorEq]
  obtain ⟨s, most⟩ := a
  obtain ⟨hm0, hm⟩ := hp
  simp only at hm0 hm
  simp only
  refine ⟨fun h => ?_, fun h h' => ⟨h, h'⟩, fun h => ?_, fun h => ⟨⟨0, ⟨by omega, by simp, by simp [numF]⟩, by simp, by simp [numF]⟩, fun x hx => ?_⟩⟩
  · omega
  · refine numAns_none fun hh => ?_
    obtain ⟨h1, h2, h3, _⟩ := hh
    rcases h with (h | h) | h
    · exact h1 (List.length_eq_zero_iff.1 (by omega))
    · omega
    · have := h3 (UInt8.toNat_inj.1 (by have := h.1; show (s.getD 0 0).toNat = 48; omega))
      omega
  · obtain ⟨hx1, hx2, hx3⟩ := hx
    have h0 := numF_nonneg _ hx2
    refine ⟨fun hlt => ?_, fun hge => ?_⟩
    · have hlt : x < s.length := by omega
      refine ⟨by omega, fun _ => by omega, fun hc => numAns_none fun hh => ?_, fun hc => ⟨by omega, fun h1 h2 => ⟨h1, h2⟩, fun ho => numAns_none fun hh => ?_, fun ho => ⟨x + 1, ⟨by omega, ?_, ?_⟩, by omega, by omega, ?_⟩⟩⟩
      · have := all_at hh.2.2.2.1 hlt
        omega
      · have h1 := take_snoc s hlt
        have h2 := numF_snoc (s.take x) (s.getD x 0)
        rw [← h1] at h2
        have h3 := numF_take s (x + 1) hh.2.2.2.1
        have h4 := hh.2.2.2.2
        omega
      · rw [take_snoc s hlt, List.all_append, hx2]
        simp only [List.all_cons, List.all_nil, dig, Bool.true_and, Bool.and_true, Bool.and_eq_true, decide_eq_true_eq]
        omega
      · rw [take_snoc s hlt, numF_snoc]
        omega
      · rw [take_snoc s hlt, numF_snoc]
        have hd : ((s.getD x 0).toNat - 48 : Int) % 256 % 18446744073709551616 = (s.getD x 0).toNat - 48 := by omega
        rw [hd] at ho ⊢
        have hb : numF (s.take x) * 10 + ((s.getD x 0).toNat - 48 : Int) ≤ 18446744073709551615 := by omega
        rw [Int.emod_eq_of_lt (a := numF (s.take x) * 10) (by omega) (by omega), Int.emod_eq_of_lt (by omega) (by omega)]
    · have hx : x = s.length := by omega
      subst hx
      rw [List.take_length] at *
      refine ⟨fun hh => numAns_none fun hk => by omega, fun hh => ?_⟩
      refine numAns_some ⟨fun e => by rw [e] at h; simp at h, by omega, fun he => ?_, hx2, by omega⟩
      have := h.2 (by rw [he]; rfl)
      omega
end Go.Sx.Tryd
namespace Go.Sx.Tryd
open Go Go.Sx Go.Proofs
variable {mx : Int}
set_option linter.unusedSimpArgs false
set_option maxRecDepth 20000
set_option maxHeartbeats 4000000
theorem name_does : Does Tryd.prog (glS mx) 11 (nameSpec kindL) := by
  refine Does.of (fn := Tryd.f11) Tryd.func11 rfl ttok (spec := fun _ => none) (fun k s h => by cases h) (pc := fun _ => true) (fun k s h => by cases h) mixed (nameSpec kindL) (fun _ _ _ => none) (fun _ => none) 1000 (rs := [.tmp 2]) rfl (n := 12) rfl (by decide) (by kernel_rfl) ?_
  intro (a : Int) hp
  refine ⟨by simp only [nameSpec, List.length_cons, List.length_nil]; decide, ?_⟩
  simp (config := {maxSteps := 2000000}) only [nameSpec, glS, tabF, tt_1, tt_2, tt_3, tt_4, tt_5, tt_6, tt_7, tt_8, tt_9, tt_10, tt_11, tt_12, tt_13, tt_14, tt_15, tt_16, tt_17, tt_18, tt_19, tt_20, tt_21, tt_22, tt_23, tt_25, tt_26, tt_27, tt_28, tt_29, tt_30, tt_31, tt_33, tt_34, tt_36, tt_37, tt_38, tt_39, tt_40, tt_41, tt_42, tt_43, tt_44, tt_45, tt_46, tt_47, tt_48, tt_49, tt_50, tt_51, tt_52, tt_53, tt_54, tt_55, tt_56, tt_57, tt_58, tt_59, tt_60, tt_62, tt_63, tt_64, tt_65, tt_66, tt_67, tt_68, tt_69, tt_71, tt_72, tt_73, tt_74, tt_75, tt_76, tt_77, tt_78, tt_79, tt_80, tt_81, tt_82, tt_83, tt_84, tt_86, tt_87, tt_89, tt_91, tt_92, tt_93, tt_94, tt_95, tt_96, tt_97, tt_98, tt_99, tt_100, tt_102, tt_103, tt_104, tt_105, tt_107, tt_109, tt_111, tt_112, tt_113, tt_114, tt_115, tt_116, tt_117, tt_118, tt_120, tt_121, tt_122, tt_124, tt_125, tt_126, tt_127, tt_129, tt_130, tt_132, tt_133, tt_134, tt_135, tt_136, tt_137, tt_138, tt_139, tt_141, tt_143, tt_144, tt_145, tt_146, tt_147, tt_148, tt_149, tt_151, tt_152, tt_153, tt_155, tt_157, tt_158, tt_159, tt_161, tt_162, tt_163, tt_164, tt_165, tt_166, tt_167, tt_168, tt_169, tt_170, tt_171, tt_172, tt_173, tt_174, tt_175, tt_176, tt_177, sxRun, exA, Bool.and_true, Bool.true_and, rowF, mkCx, argsEnv, stepOp, stepOp0, undefd, anyU, opArgs, dstB, gcond, getV, getVs, getPs, evalO, look, lookS, chg, del, constCV, SS.put, SS.putT, catP, catE, allP, bop, cmpI, GC.imp, listAt, exitIt, rid, cutKey, keepEnv, SS.at, delAll, isA, isA0, entP, entEnv, entCh, TV.eqv, RV.eqv, CV.eqv, eqvL, eqvR, Chunk.eqv, Chunk.nil, coll3, collE, collL, collR, collC, TV.coll, RV.coll, CV.coll, apartB, memB, ikEq, finP, resAll, resOne, tupOf, tau, pureOp, loadOp, memOp, funcOf, sliceOf, fillC, fieldOff, repl, nth, setN, setFrom, cellsFrom, len', updR, appR, fits_i, fits_b, fits_s, fits_o, CK.eta, etas, fitss, toInt_i, toBool_b, toStr_s, CV.flat, flats, TI.val, RV.cells, kindsOk, wantB, SS.after, callSig, rnH, CV.rn, rnL, RV.rn, rnR, TV.rn, Chunk.rn, rnC, delIns, SS.frzs, SS.frz, frzOp, oslO, oslC, oslP, oslA, CV.frz, frzL, RV.frz, frzR, TV.frz, frzE, frzC, givE, TV.giv, RV.giv, CV.giv, givL, givR, List.toList_toArray, Nat.reduceBEq, Nat.reduceLT, Nat.reduceLeDiff, decide_true, decide_false, ↓reduceIte, Nat.reduceAdd, Nat.reduceMul, Nat.reduceSub, cond_true, cond_false, condP, cond_or, cond_and, imp_self, true_and, and_true, decide_eq_true_eq, decide_eq_false_iff_not, Bool.and_eq_true, Bool.or_eq_true, Bool.not_eq_true', Bool.not_eq_false', Bool.or_eq_false_iff, Bool.and_eq_false_imp, implies_true, exists_const, exists_prop, wrap_u64, wrap_u8, wrap_i64, tdiv_u64, tmod_u64, Int.toNat_natCast, Int.toNat_zero, Int.reduceToNat, Int.reduceLT, Int.reduceLE, Nat.zero_add, Nat.add_zero, Nat.mul_one, Int.reduceAdd, Int.reduceMod, Int.reduceSub, Int.reduceMul, Int.reduceNeg, Int.cast_ofNat_Int, not_false_eq_true, not_true_eq_false, forall_const, false_implies, Nat.reducePow, Bool.false_eq_true, Bool.true_eq_false, reduceCtorEq]
  refine ⟨fun h => ?_, fun h => ⟨⟨by omega, by omega⟩, by omega, ?_⟩⟩
  · by_cases h0 : a = 0
    · subst h0; rfl
    · exact if_neg (by simp only [kindL, List.length_cons, List.length_nil]; omega)
  · skip
    exact if_pos (by simp only [kindL, List.length_cons, List.length_nil]; omega)
theorem rname_does : Does Tryd.prog (glS mx) 12 (nameSpec kindL) := by
  refine Does.of (fn := Tryd.f12) Tryd.func12 rfl ttok (spec := fun _ => none) (fun k s h => by cases h) (pc := fun _ => true) (fun k s h => by cases h) mixed (nameSpec kindL) (fun _ _ _ => none) (fun _ => none) 1000 (rs := [.tmp 2]) rfl (n := 15) rfl (by decide) (by kernel_rfl) ?_
  intro (a : Int) hp
  refine ⟨by simp only [nameSpec, List.length_cons, List.length_nil]; decide, ?_⟩
  simp (config := {maxSteps := 2000000}) only [nameSpec, glS, tabF, tt_1, tt_2, tt_3, tt_4, tt_5, tt_6, tt_7, tt_8, tt_9, tt_10, tt_11, tt_12, tt_13, tt_14, tt_15, tt_16, tt_17, tt_18, tt_19, tt_20, tt_21, tt_22, tt_23, tt_25, tt_26, tt_27, tt_28, tt_29, tt_30, tt_31, tt_33, tt_34, tt_36, tt_37, tt_38, tt_39, tt_40, tt_41, tt_42, tt_43, tt_44, tt_45, tt_46, tt_47, tt_48, tt_49, tt_50, tt_51, tt_52, tt_53, tt_54, tt_55, tt_56, tt_57, tt_58, tt_59, tt_60, tt_62, tt_63, tt_64, tt_65, tt_66, tt_67, tt_68, tt_69, tt_71, tt_72, tt_73, tt_74, tt_75, tt_76, tt_77, tt_78, tt_79, tt_80, tt_81, tt_82, tt_83, tt_84, tt_86, tt_87, tt_89, tt_91, tt_92, tt_93, tt_94, tt_95, tt_96, tt_97, tt_98, tt_99, tt_100, tt_102, tt_103, tt_104, tt_105, tt_107, tt_109, tt_111, tt_112, tt_113, tt_114, tt_115, tt_116, tt_117, tt_118, tt_120, tt_121, tt_122, tt_124, tt_125, tt_126, tt_127, tt_129, tt_130, tt_132, tt_133, tt_134, tt_135, tt_136, tt_137, tt_138, tt_139, tt_141, tt_143, tt_144, tt_145, tt_146, tt_147, tt_148, tt_149, tt_151, tt_152, tt_153, tt_155, tt_157, tt_158, tt_159, tt_161, tt_162, tt_163, tt_164, tt_165, tt_166, tt_167, tt_168, tt_169, tt_170, tt_171, tt_172, tt_173, tt_174, tt_175, tt_176, tt_177, sxRun, exA, Bool.and_true, Bool.true_and, rowF, mkCx, argsEnv, stepOp, stepOp0, undefd, anyU, opArgs, dstB, gcond, getV, getVs, getPs, evalO, look, lookS, chg, del, constCV, SS.put, SS.putT, catP, catE, allP, bop, cmpI, GC.imp, listAt, exitIt, rid, cutKey, keepEnv, SS.at, delAll, isA, isA0, entP, entEnv, entCh, TV.eqv, RV.eqv, CV.eqv, eqvL, eqvR, Chunk.eqv, Chunk.nil, coll3, collE, collL, collR, collC, TV.coll, RV.coll, CV.coll, apartB, memB, ikEq, finP, resAll, resOne, tupOf, tau, pureOp, loadOp, memOp, funcOf, sliceOf, fillC, fieldOff, repl, nth, setN, setFrom, cellsFrom, len', updR, appR, fits_i, fits_b, fits_s, fits_o, CK.eta, etas, fitss, toInt_i, toBool_b, toStr_s, CV.flat, flats, TI.val, RV.cells, kindsOk, wantB, SS.after, callSig, rnH, CV.rn, rnL, RV.rn, rnR, TV.rn, Chunk.rn, rnC, delIns, SS.frzs, SS.frz, frzOp, oslO, oslC, oslP, oslA, CV.frz, frzL, RV.frz, frzR, TV.frz, frzE, frzC, givE, TV.giv, RV.giv, CV.giv, givL, givR, List.toList_toArray, Nat.reduceBEq, Nat.reduceLT, Nat.reduceLeDiff, decide_true, decide_false, ↓reduceIte, Nat.reduceAdd, Nat.reduceMul, Nat.reduceSub, cond_true, cond_false, condP, cond_or, cond_and, imp_self, true_and, and_true, decide_eq_true_eq, decide_eq_false_iff_not, Bool.and_eq_true, Bool.or_eq_true, Bool.not_eq_true', Bool.not_eq_false', Bool.or_eq_false_iff, Bool.and_eq_false_imp, implies_true, exists_const, exists_prop, wrap_u64, wrap_u8, wrap_i64, tdiv_u64, tmod_u64, Int.toNat_natCast, Int.toNat_zero, Int.reduceToNat, Int.reduceLT, Int.reduceLE, Nat.zero_add, Nat.add_zero, Nat.mul_one, Int.reduceAdd, Int.reduceMod, Int.reduceSub, Int.reduceMul, Int.reduceNeg, Int.cast_ofNat_Int, not_false_eq_true, not_true_eq_false, forall_const, false_implies, Nat.reducePow, Bool.false_eq_true, Bool.true_eq_false, reduceCtorEq]
  have hl : kindL.length = 18 := rfl
  refine ⟨fun h => nameAt_out (by rw [hl]; omega), fun h => ⟨⟨by omega, by omega⟩, by omega, ?_⟩⟩
  rw [nameAt_in (by rw [hl]; omega)]
  have := strs_at kindL a.toNat (by rw [hl]; omega)
  exact ⟨this.1, this.2.symm⟩
end Go.Sx.Tryd
namespace Go.Sx.Tryd
open Go Go.Sx Go.Proofs
variable {mx : Int}
set_option linter.unusedSimpArgs false
set_option maxRecDepth 20000
set_option maxHeartbeats 4000000

theorem cpuName_does : Does Tryd.prog (glS mx) 73 (nameSpec instL) := by
  refine Does.of (fn := Tryd.f73) Tryd.func73 rfl ttok (spec := lookS []) Known.nil (pc := fun _ => true) PureOk.nil mixed (nameSpec instL) (fun _ _ _ => none) (fun _ => none) 3000 (rs := [.tmp 2]) rfl (n := 12) rfl (by decide) (by kernel_rfl) ?_
  intro a hp
  refine ⟨by simp only [nameSpec, glS, tabF, List.length_cons, List.length_nil]; decide, ?_⟩
  simp (config := {maxSteps := 4000000}) only [nameSpec, glS, tabF, tt_1, tt_2, tt_3, tt_4, tt_5, tt_6, tt_7, tt_8, tt_9, tt_10, tt_11, tt_12, tt_13, tt_14, tt_15, tt_16, tt_17, tt_18, tt_19, tt_20, tt_21, tt_22, tt_23, tt_25, tt_26, tt_27, tt_28, tt_29, tt_30, tt_31, tt_33, tt_34, tt_36, tt_37, tt_38, tt_39, tt_40, tt_41, tt_42, tt_43, tt_44, tt_45, tt_46, tt_47, tt_48, tt_49, tt_50, tt_51, tt_52, tt_53, tt_54, tt_55, tt_56, tt_57, tt_58, tt_59, tt_60, tt_62, tt_63, tt_64, tt_65, tt_66, tt_67, tt_68, tt_69, tt_71, tt_72, tt_73, tt_74, tt_75, tt_76, tt_77, tt_78, tt_79, tt_80, tt_81, tt_82, tt_83, tt_84, tt_86, tt_87, tt_89, tt_91, tt_92, tt_93, tt_94, tt_95, tt_96, tt_97, tt_98, tt_99, tt_100, tt_102, tt_103, tt_104, tt_105, tt_107, tt_109, tt_111, tt_112, tt_113, tt_114, tt_115, tt_116, tt_117, tt_118, tt_120, tt_121, tt_122, tt_124, tt_125, tt_126, tt_127, tt_129, tt_130, tt_132, tt_133, tt_134, tt_135, tt_136, tt_137, tt_138, tt_139, tt_141, tt_143, tt_144, tt_145, tt_146, tt_147, tt_148, tt_149, tt_151, tt_152, tt_153, tt_155, tt_157, tt_158, tt_159, tt_161, tt_162, tt_163, tt_164, tt_165, tt_166, tt_167, tt_168, tt_169, tt_170, tt_171, tt_172, tt_173, tt_174, tt_175, tt_176, tt_177, sxRun, exA, Bool.and_true, Bool.true_and, rowF, mkCx, argsEnv, stepOp, stepOp0, undefd, anyU, opArgs, dstB, gcond, getV, getVs, getPs, evalO, look, lookS, chg, del, constCV, SS.put, SS.putT, catP, catE, allP, bop, cmpI, GC.imp, listAt, exitIt, rid, cutKey, keepEnv, SS.at, delAll, isA, isA0, entP, entEnv, entCh, TV.eqv, RV.eqv, CV.eqv, eqvL, eqvR, Chunk.eqv, Chunk.nil, coll3, collE, collL, collR, collC, TV.coll, RV.coll, CV.coll, apartB, memB, ikEq, finP, resAll, resOne, tupOf, tau, pureOp, loadOp, memOp, funcOf, sliceOf, fillC, fieldOff, repl, nth, setN, setFrom, cellsFrom, len', updR, appR, fits_i, fits_b, fits_s, fits_o, CK.eta, etas, fitss, toInt_i, toBool_b, toStr_s, CV.flat, flats, TI.val, RV.cells, kindsOk, wantB, SS.after, callSig, rnH, CV.rn, rnL, RV.rn, rnR, TV.rn, Chunk.rn, rnC, delIns, SS.frzs, SS.frz, frzOp, oslO, oslC, oslP, oslA, CV.frz, frzL, RV.frz, frzR, TV.frz, frzE, frzC, givE, TV.giv, RV.giv, CV.giv, givL, givR, List.toList_toArray, Nat.reduceBEq, Nat.reduceLT, Nat.reduceLeDiff, decide_true, decide_false, ↓reduceIte, Nat.reduceAdd, Nat.reduceMul, Nat.reduceSub, cond_true, cond_false, condP, cond_or, cond_and, imp_self, true_and, and_true, decide_eq_true_eq, decide_eq_false_iff_not, Bool.and_eq_true, Bool.or_eq_true, Bool.not_eq_true', Bool.not_eq_false', Bool.or_eq_false_iff, Bool.and_eq_false_imp, implies_true, exists_const, exists_prop, wrap_u64, wrap_u8, wrap_i64, tdiv_u64, tmod_u64, Int.toNat_natCast, Int.toNat_zero, Int.reduceToNat, Int.reduceLT, Int.reduceLE, Nat.zero_add, Nat.add_zero, Nat.mul_one, Int.reduceAdd, Int.reduceMod, Int.reduceSub, Int.reduceMul, Int.reduceNeg, Int.cast_ofNat_Int, not_false_eq_true, not_true_eq_false, forall_const, false_implies, Nat.reducePow, Bool.false_eq_true, Bool.true_eq_false, reduceCtorEq]
  change Int at a
  have hl : instL.length = 19 := rfl
  refine ⟨fun h => nameAt_out (by rw [hl]; omega), fun h => ⟨⟨by omega, by omega⟩, by omega, ?_⟩⟩
  exact nameAt_in (by rw [hl]; omega)
theorem callName_does : Does Tryd.prog (glS mx) 75 (nameSpec callL) := by
  refine Does.of (fn := Tryd.f75) Tryd.func75 rfl ttok (spec := lookS []) Known.nil (pc := fun _ => true) PureOk.nil mixed (nameSpec callL) (fun _ _ _ => none) (fun _ => none) 3000 (rs := [.tmp 2]) rfl (n := 12) rfl (by decide) (by kernel_rfl) ?_
  intro a hp
  refine ⟨by simp only [nameSpec, glS, tabF, List.length_cons, List.length_nil]; decide, ?_⟩
  simp (config := {maxSteps := 4000000}) only [nameSpec, glS, tabF, tt_1, tt_2, tt_3, tt_4, tt_5, tt_6, tt_7, tt_8, tt_9, tt_10, tt_11, tt_12, tt_13, tt_14, tt_15, tt_16, tt_17, tt_18, tt_19, tt_20, tt_21, tt_22, tt_23, tt_25, tt_26, tt_27, tt_28, tt_29, tt_30, tt_31, tt_33, tt_34, tt_36, tt_37, tt_38, tt_39, tt_40, tt_41, tt_42, tt_43, tt_44, tt_45, tt_46, tt_47, tt_48, tt_49, tt_50, tt_51, tt_52, tt_53, tt_54, tt_55, tt_56, tt_57, tt_58, tt_59, tt_60, tt_62, tt_63, tt_64, tt_65, tt_66, tt_67, tt_68, tt_69, tt_71, tt_72, tt_73, tt_74, tt_75, tt_76, tt_77, tt_78, tt_79, tt_80, tt_81, tt_82, tt_83, tt_84, tt_86, tt_87, tt_89, tt_91, tt_92, tt_93, tt_94, tt_95, tt_96, tt_97, tt_98, tt_99, tt_100, tt_102, tt_103, tt_104, tt_105, tt_107, tt_109, tt_111, tt_112, tt_113, tt_114, tt_115, tt_116, tt_117, tt_118, tt_120, tt_121, tt_122, tt_124, tt_125, tt_126, tt_127, tt_129, tt_130, tt_132, tt_133, tt_134, tt_135, tt_136, tt_137, tt_138, tt_139, tt_141, tt_143, tt_144, tt_145, tt_146, tt_147, tt_148, tt_149, tt_151, tt_152, tt_153, tt_155, tt_157, tt_158, tt_159, tt_161, tt_162, tt_163, tt_164, tt_165, tt_166, tt_167, tt_168, tt_169, tt_170, tt_171, tt_172, tt_173, tt_174, tt_175, tt_176, tt_177, sxRun, exA, Bool.and_true, Bool.true_and, rowF, mkCx, argsEnv, stepOp, stepOp0, undefd, anyU, opArgs, dstB, gcond, getV, getVs, getPs, evalO, look, lookS, chg, del, constCV, SS.put, SS.putT, catP, catE, allP, bop, cmpI, GC.imp, listAt, exitIt, rid, cutKey, keepEnv, SS.at, delAll, isA, isA0, entP, entEnv, entCh, TV.eqv, RV.eqv, CV.eqv, eqvL, eqvR, Chunk.eqv, Chunk.nil, coll3, collE, collL, collR, collC, TV.coll, RV.coll, CV.coll, apartB, memB, ikEq, finP, resAll, resOne, tupOf, tau, pureOp, loadOp, memOp, funcOf, sliceOf, fillC, fieldOff, repl, nth, setN, setFrom, cellsFrom, len', updR, appR, fits_i, fits_b, fits_s, fits_o, CK.eta, etas, fitss, toInt_i, toBool_b, toStr_s, CV.flat, flats, TI.val, RV.cells, kindsOk, wantB, SS.after, callSig, rnH, CV.rn, rnL, RV.rn, rnR, TV.rn, Chunk.rn, rnC, delIns, SS.frzs, SS.frz, frzOp, oslO, oslC, oslP, oslA, CV.frz, frzL, RV.frz, frzR, TV.frz, frzE, frzC, givE, TV.giv, RV.giv, CV.giv, givL, givR, List.toList_toArray, Nat.reduceBEq, Nat.reduceLT, Nat.reduceLeDiff, decide_true, decide_false, ↓reduceIte, Nat.reduceAdd, Nat.reduceMul, Nat.reduceSub, cond_true, cond_false, condP, cond_or, cond_and, imp_self, true_and, and_true, decide_eq_true_eq, decide_eq_false_iff_not, Bool.and_eq_true, Bool.or_eq_true, Bool.not_eq_true', Bool.not_eq_false', Bool.or_eq_false_iff, Bool.and_eq_false_imp, implies_true, exists_const, exists_prop, wrap_u64, wrap_u8, wrap_i64, tdiv_u64, tmod_u64, Int.toNat_natCast, Int.toNat_zero, Int.reduceToNat, Int.reduceLT, Int.reduceLE, Nat.zero_add, Nat.add_zero, Nat.mul_one, Int.reduceAdd, Int.reduceMod, Int.reduceSub, Int.reduceMul, Int.reduceNeg, Int.cast_ofNat_Int, not_false_eq_true, not_true_eq_false, forall_const, false_implies, Nat.reducePow, Bool.false_eq_true, Bool.true_eq_false, reduceCtorEq]
  change Int at a
  have hl : callL.length = 20 := rfl
  refine ⟨fun h => nameAt_out (by rw [hl]; omega), fun h => ⟨⟨by omega, by omega⟩, by omega, ?_⟩⟩
  exact nameAt_in (by rw [hl]; omega)
theorem rcallName_does : Does Tryd.prog (glS mx) 47 (nameSpec callL) := by
  refine Does.of (fn := Tryd.f47) Tryd.func47 rfl ttok (spec := lookS []) Known.nil (pc := fun _ => true) PureOk.nil mixed (nameSpec callL) (fun _ _ _ => none) (fun _ => none) 3000 (rs := [.tmp 2]) rfl (n := 15) rfl (by decide) (by kernel_rfl) ?_
  intro a hp
  refine ⟨by simp only [nameSpec, List.length_cons, List.length_nil]; decide, ?_⟩
  simp (config := {maxSteps := 4000000}) only [nameSpec, tt_1, tt_2, tt_3, tt_4, tt_5, tt_6, tt_7, tt_8, tt_9, tt_10, tt_11, tt_12, tt_13, tt_14, tt_15, tt_16, tt_17, tt_18, tt_19, tt_20, tt_21, tt_22, tt_23, tt_25, tt_26, tt_27, tt_28, tt_29, tt_30, tt_31, tt_33, tt_34, tt_36, tt_37, tt_38, tt_39, tt_40, tt_41, tt_42, tt_43, tt_44, tt_45, tt_46, tt_47, tt_48, tt_49, tt_50, tt_51, tt_52, tt_53, tt_54, tt_55, tt_56, tt_57, tt_58, tt_59, tt_60, tt_62, tt_63, tt_64, tt_65, tt_66, tt_67, tt_68, tt_69, tt_71, tt_72, tt_73, tt_74, tt_75, tt_76, tt_77, tt_78, tt_79, tt_80, tt_81, tt_82, tt_83, tt_84, tt_86, tt_87, tt_89, tt_91, tt_92, tt_93, tt_94, tt_95, tt_96, tt_97, tt_98, tt_99, tt_100, tt_102, tt_103, tt_104, tt_105, tt_107, tt_109, tt_111, tt_112, tt_113, tt_114, tt_115, tt_116, tt_117, tt_118, tt_120, tt_121, tt_122, tt_124, tt_125, tt_126, tt_127, tt_129, tt_130, tt_132, tt_133, tt_134, tt_135, tt_136, tt_137, tt_138, tt_139, tt_141, tt_143, tt_144, tt_145, tt_146, tt_147, tt_148, tt_149, tt_151, tt_152, tt_153, tt_155, tt_157, tt_158, tt_159, tt_161, tt_162, tt_163, tt_164, tt_165, tt_166, tt_167, tt_168, tt_169, tt_170, tt_171, tt_172, tt_173, tt_174, tt_175, tt_176, tt_177, sxRun, exA, Bool.and_true, Bool.true_and, rowF, mkCx, argsEnv, stepOp, stepOp0, undefd, anyU, opArgs, dstB, gcond, getV, getVs, getPs, evalO, look, lookS, chg, del, constCV, SS.put, SS.putT, catP, catE, allP, bop, cmpI, GC.imp, listAt, exitIt, rid, cutKey, keepEnv, SS.at, delAll, isA, isA0, entP, entEnv, entCh, TV.eqv, RV.eqv, CV.eqv, eqvL, eqvR, Chunk.eqv, Chunk.nil, coll3, collE, collL, collR, collC, TV.coll, RV.coll, CV.coll, apartB, memB, ikEq, finP, resAll, resOne, tupOf, tau, pureOp, loadOp, memOp, funcOf, sliceOf, fillC, fieldOff, repl, nth, setN, setFrom, cellsFrom, len', updR, appR, fits_i, fits_b, fits_s, fits_o, CK.eta, etas, fitss, toInt_i, toBool_b, toStr_s, CV.flat, flats, TI.val, RV.cells, kindsOk, wantB, SS.after, callSig, rnH, CV.rn, rnL, RV.rn, rnR, TV.rn, Chunk.rn, rnC, delIns, SS.frzs, SS.frz, frzOp, oslO, oslC, oslP, oslA, CV.frz, frzL, RV.frz, frzR, TV.frz, frzE, frzC, givE, TV.giv, RV.giv, CV.giv, givL, givR, List.toList_toArray, Nat.reduceBEq, Nat.reduceLT, Nat.reduceLeDiff, decide_true, decide_false, ↓reduceIte, Nat.reduceAdd, Nat.reduceMul, Nat.reduceSub, cond_true, cond_false, condP, cond_or, cond_and, imp_self, true_and, and_true, decide_eq_true_eq, decide_eq_false_iff_not, Bool.and_eq_true, Bool.or_eq_true, Bool.not_eq_true', Bool.not_eq_false', Bool.or_eq_false_iff, Bool.and_eq_false_imp, implies_true, exists_const, exists_prop, wrap_u64, wrap_u8, wrap_i64, tdiv_u64, tmod_u64, Int.toNat_natCast, Int.toNat_zero, Int.reduceToNat, Int.reduceLT, Int.reduceLE, Nat.zero_add, Nat.add_zero, Nat.mul_one, Int.reduceAdd, Int.reduceMod, Int.reduceSub, Int.reduceMul, Int.reduceNeg, Int.cast_ofNat_Int, not_false_eq_true, not_true_eq_false, forall_const, false_implies, Nat.reducePow, Bool.false_eq_true, Bool.true_eq_false, reduceCtorEq]
  change Int at a
  have hl : callL.length = 20 := rfl
  refine ⟨fun h => nameAt_out (by rw [hl]; omega), fun h => ⟨⟨by omega, by omega⟩, by omega, ?_⟩⟩
  rw [nameAt_in (by rw [hl]; omega)]
  have := strs_at callL a.toNat (by rw [hl]; omega)
  exact ⟨this.1, this.2.symm⟩
theorem rcpuName_does : Does Tryd.prog (glS mx) 50 (nameSpec instL) := by
  refine Does.of (fn := Tryd.f50) Tryd.func50 rfl ttok (spec := lookS []) Known.nil (pc := fun _ => true) PureOk.nil mixed (nameSpec instL) (fun _ _ _ => none) (fun _ => none) 3000 (rs := [.tmp 2]) rfl (n := 15) rfl (by decide) (by kernel_rfl) ?_
  intro a hp
  refine ⟨by simp only [nameSpec, List.length_cons, List.length_nil]; decide, ?_⟩
  simp (config := {maxSteps := 4000000}) only [nameSpec, tt_1, tt_2, tt_3, tt_4, tt_5, tt_6, tt_7, tt_8, tt_9, tt_10, tt_11, tt_12, tt_13, tt_14, tt_15, tt_16, tt_17, tt_18, tt_19, tt_20, tt_21, tt_22, tt_23, tt_25, tt_26, tt_27, tt_28, tt_29, tt_30, tt_31, tt_33, tt_34, tt_36, tt_37, tt_38, tt_39, tt_40, tt_41, tt_42, tt_43, tt_44, tt_45, tt_46, tt_47, tt_48, tt_49, tt_50, tt_51, tt_52, tt_53, tt_54, tt_55, tt_56, tt_57, tt_58, tt_59, tt_60, tt_62, tt_63, tt_64, tt_65, tt_66, tt_67, tt_68, tt_69, tt_71, tt_72, tt_73, tt_74, tt_75, tt_76, tt_77, tt_78, tt_79, tt_80, tt_81, tt_82, tt_83, tt_84, tt_86, tt_87, tt_89, tt_91, tt_92, tt_93, tt_94, tt_95, tt_96, tt_97, tt_98, tt_99, tt_100, tt_102, tt_103, tt_104, tt_105, tt_107, tt_109, tt_111, tt_112, tt_113, tt_114, tt_115, tt_116, tt_117, tt_118, tt_120, tt_121, tt_122, tt_124, tt_125, tt_126, tt_127, tt_129, tt_130, tt_132, tt_133, tt_134, tt_135, tt_136, tt_137, tt_138, tt_139, tt_141, tt_143, tt_144, tt_145, tt_146, tt_147, tt_148, tt_149, tt_151, tt_152, tt_153, tt_155, tt_157, tt_158, tt_159, tt_161, tt_162, tt_163, tt_164, tt_165, tt_166, tt_167, tt_168, tt_169, tt_170, tt_171, tt_172, tt_173, tt_174, tt_175, tt_176, tt_177, sxRun, exA, Bool.and_true, Bool.true_and, rowF, mkCx, argsEnv, stepOp, stepOp0, undefd, anyU, opArgs, dstB, gcond, getV, getVs, getPs, evalO, look, lookS, chg, del, constCV, SS.put, SS.putT, catP, catE, allP, bop, cmpI, GC.imp, listAt, exitIt, rid, cutKey, keepEnv, SS.at, delAll, isA, isA0, entP, entEnv, entCh, TV.eqv, RV.eqv, CV.eqv, eqvL, eqvR, Chunk.eqv, Chunk.nil, coll3, collE, collL, collR, collC, TV.coll, RV.coll, CV.coll, apartB, memB, ikEq, finP, resAll, resOne, tupOf, tau, pureOp, loadOp, memOp, funcOf, sliceOf, fillC, fieldOff, repl, nth, setN, setFrom, cellsFrom, len', updR, appR, fits_i, fits_b, fits_s, fits_o, CK.eta, etas, fitss, toInt_i, toBool_b, toStr_s, CV.flat, flats, TI.val, RV.cells, kindsOk, wantB, SS.after, callSig, rnH, CV.rn, rnL, RV.rn, rnR, TV.rn, Chunk.rn, rnC, delIns, SS.frzs, SS.frz, frzOp, oslO, oslC, oslP, oslA, CV.frz, frzL, RV.frz, frzR, TV.frz, frzE, frzC, givE, TV.giv, RV.giv, CV.giv, givL, givR, List.toList_toArray, Nat.reduceBEq, Nat.reduceLT, Nat.reduceLeDiff, decide_true, decide_false, ↓reduceIte, Nat.reduceAdd, Nat.reduceMul, Nat.reduceSub, cond_true, cond_false, condP, cond_or, cond_and, imp_self, true_and, and_true, decide_eq_true_eq, decide_eq_false_iff_not, Bool.and_eq_true, Bool.or_eq_true, Bool.not_eq_true', Bool.not_eq_false', Bool.or_eq_false_iff, Bool.and_eq_false_imp, implies_true, exists_const, exists_prop, wrap_u64, wrap_u8, wrap_i64, tdiv_u64, tmod_u64, Int.toNat_natCast, Int.toNat_zero, Int.reduceToNat, Int.reduceLT, Int.reduceLE, Nat.zero_add, Nat.add_zero, Nat.mul_one, Int.reduceAdd, Int.reduceMod, Int.reduceSub, Int.reduceMul, Int.reduceNeg, Int.cast_ofNat_Int, not_false_eq_true, not_true_eq_false, forall_const, false_implies, Nat.reducePow, Bool.false_eq_true, Bool.true_eq_false, reduceCtorEq]
  change Int at a
  have hl : instL.length = 19 := rfl
  refine ⟨fun h => nameAt_out (by rw [hl]; omega), fun h => ⟨⟨by omega, by omega⟩, by omega, ?_⟩⟩
  rw [nameAt_in (by rw [hl]; omega)]
  have := strs_at instL a.toNat (by rw [hl]; omega)
  exact ⟨this.1, this.2.symm⟩

def fnSpec (f : Int → List UInt8) : Spec := {
  α := Int
  args k := [.c (.int .i64 k)]
  ins _ := []
  m := 0
  pre _ := True
  β := Unit
  post _ _ := True
  res k _ := .r (.c (.str (f k)))
  outs _ _ := []
  fresh := 0 }
def fiSpec (f : Int → Int) : Spec := {
  α := Int
  args k := [.c (.int .i64 k)]
  ins _ := []
  m := 0
  pre _ := True
  β := Unit
  post _ _ := True
  res k _ := .r (.c (.int .i64 (f k)))
  outs _ _ := []
  fresh := 0 }
def orderT (k : Int) : List UInt8 := if k = 0 then [101, 100, 102] else if k = 1 then [114, 109] else []
def policyT (k : Int) : List UInt8 := if k = 0 then [97, 98, 111, 114, 116] else if k = 1 then [100, 101, 109, 111, 116, 101] else if k = 2 then [112, 111, 115, 116, 112, 111, 110, 101] else []
def countT (k : Int) : Int := if k = 1 then 4 else if k = 2 ∨ k = 8 ∨ k = 10 then 3 else if k = 17 then 2 else 1
def instT (k : Int) : List UInt8 := if k = 0 then [] else if k = 14 then [78] else if k = 16 ∨ k = 18 then [65] else if k = 1 ∨ k = 15 ∨ k = 17 then [65, 78] else if k = 12 ∨ k = 13 then [65, 66, 78] else [65, 66, 67]
def callT (k : Int) : List UInt8 := if k = 0 ∨ k = 16 ∨ k = 18 ∨ k = 19 then [] else if k = 3 ∨ k = 13 ∨ k = 17 then [65, 66] else if k = 4 ∨ k = 5 ∨ k = 7 then [65, 66, 67] else if k = 8 then [65, 66, 67, 68] else if k = 15 then [67, 68] else [65]
theorem order_does : Does Tryd.prog (glS mx) 41 (fnSpec orderT) := by
  refine Does.of (fn := Tryd.f41) Tryd.func41 rfl ttok (spec := lookS []) Known.nil (pc := fun _ => true) PureOk.nil mixed (fnSpec orderT) (fun _ _ _ => none) (fun _ => none) 3000 (rs := [.tmp 2]) rfl (n := 8) rfl (by decide) (by kernel_rfl) ?_
  intro a hp
  refine ⟨by simp only [fnSpec, List.length_cons, List.length_nil]; decide, ?_⟩
  simp (config := {maxSteps := 4000000}) only [fnSpec, tt_1, tt_2, tt_3, tt_4, tt_5, tt_6, tt_7, tt_8, tt_9, tt_10, tt_11, tt_12, tt_13, tt_14, tt_15, tt_16, tt_17, tt_18, tt_19, tt_20, tt_21, tt_22, tt_23, tt_25, tt_26, tt_27, tt_28, tt_29, tt_30, tt_31, tt_33, tt_34, tt_36, tt_37, tt_38, tt_39, tt_40, tt_41, tt_42, tt_43, tt_44, tt_45, tt_46, tt_47, tt_48, tt_49, tt_50, tt_51, tt_52, tt_53, tt_54, tt_55, tt_56, tt_57, tt_58, tt_59, tt_60, tt_62, tt_63, tt_64, tt_65, tt_66, tt_67, tt_68, tt_69, tt_71, tt_72, tt_73, tt_74, tt_75, tt_76, tt_77, tt_78, tt_79, tt_80, tt_81, tt_82, tt_83, tt_84, tt_86, tt_87, tt_89, tt_91, tt_92, tt_93, tt_94, tt_95, tt_96, tt_97, tt_98, tt_99, tt_100, tt_102, tt_103, tt_104, tt_105, tt_107, tt_109, tt_111, tt_112, tt_113, tt_114, tt_115, tt_116, tt_117, tt_118, tt_120, tt_121, tt_122, tt_124, tt_125, tt_126, tt_127, tt_129, tt_130, tt_132, tt_133, tt_134, tt_135, tt_136, tt_137, tt_138, tt_139, tt_141, tt_143, tt_144, tt_145, tt_146, tt_147, tt_148, tt_149, tt_151, tt_152, tt_153, tt_155, tt_157, tt_158, tt_159, tt_161, tt_162, tt_163, tt_164, tt_165, tt_166, tt_167, tt_168, tt_169, tt_170, tt_171, tt_172, tt_173, tt_174, tt_175, tt_176, tt_177, sxRun, exA, Bool.and_true, Bool.true_and, rowF, mkCx, argsEnv, stepOp, stepOp0, undefd, anyU, opArgs, dstB, gcond, getV, getVs, getPs, evalO, look, lookS, chg, del, constCV, SS.put, SS.putT, catP, catE, allP, bop, cmpI, GC.imp, listAt, exitIt, rid, cutKey, keepEnv, SS.at, delAll, isA, isA0, entP, entEnv, entCh, TV.eqv, RV.eqv, CV.eqv, eqvL, eqvR, Chunk.eqv, Chunk.nil, coll3, collE, collL, collR, collC, TV.coll, RV.coll, CV.coll, apartB, memB, ikEq, finP, resAll, resOne, tupOf, tau, pureOp, loadOp, memOp, funcOf, sliceOf, fillC, fieldOff, repl, nth, setN, setFrom, cellsFrom, len', updR, appR, fits_i, fits_b, fits_s, fits_o, CK.eta, etas, fitss, toInt_i, toBool_b, toStr_s, CV.flat, flats, TI.val, RV.cells, kindsOk, wantB, SS.after, callSig, rnH, CV.rn, rnL, RV.rn, rnR, TV.rn, Chunk.rn, rnC, delIns, SS.frzs, SS.frz, frzOp, oslO, oslC, oslP, oslA, CV.frz, frzL, RV.frz, frzR, TV.frz, frzE, frzC, givE, TV.giv, RV.giv, CV.giv, givL, givR, List.toList_toArray, Nat.reduceBEq, Nat.reduceLT, Nat.reduceLeDiff, decide_true, decide_false, ↓reduceIte, Nat.reduceAdd, Nat.reduceMul, Nat.reduceSub, cond_true, cond_false, condP, cond_or, cond_and, imp_self, true_and, and_true, decide_eq_true_eq, decide_eq_false_iff_not, Bool.and_eq_true, Bool.or_eq_true, Bool.not_eq_true', Bool.not_eq_false', Bool.or_eq_false_iff, Bool.and_eq_false_imp, implies_true, exists_const, exists_prop, wrap_u64, wrap_u8, wrap_i64, tdiv_u64, tmod_u64, Int.toNat_natCast, Int.toNat_zero, Int.reduceToNat, Int.reduceLT, Int.reduceLE, Nat.zero_add, Nat.add_zero, Nat.mul_one, Int.reduceAdd, Int.reduceMod, Int.reduceSub, Int.reduceMul, Int.reduceNeg, Int.cast_ofNat_Int, not_false_eq_true, not_true_eq_false, forall_const, false_implies, Nat.reducePow, Bool.false_eq_true, Bool.true_eq_false, reduceCtorEq]
  change Int at a
  unfold orderT
  by_cases h0 : a = 0
  · subst h0; simp
  by_cases h1 : a = 1
  · subst h1; simp
  simp [h0, h1]
theorem policy_does : Does Tryd.prog (glS mx) 71 (fnSpec policyT) := by
  refine Does.of (fn := Tryd.f71) Tryd.func71 rfl ttok (spec := lookS []) Known.nil (pc := fun _ => true) PureOk.nil mixed (fnSpec policyT) (fun _ _ _ => none) (fun _ => none) 3000 (rs := [.tmp 2]) rfl (n := 10) rfl (by decide) (by kernel_rfl) ?_
  intro a hp
  refine ⟨by simp only [fnSpec, List.length_cons, List.length_nil]; decide, ?_⟩
  simp (config := {maxSteps := 4000000}) only [fnSpec, tt_1, tt_2, tt_3, tt_4, tt_5, tt_6, tt_7, tt_8, tt_9, tt_10, tt_11, tt_12, tt_13, tt_14, tt_15, tt_16, tt_17, tt_18, tt_19, tt_20, tt_21, tt_22, tt_23, tt_25, tt_26, tt_27, tt_28, tt_29, tt_30, tt_31, tt_33, tt_34, tt_36, tt_37, tt_38, tt_39, tt_40, tt_41, tt_42, tt_43, tt_44, tt_45, tt_46, tt_47, tt_48, tt_49, tt_50, tt_51, tt_52, tt_53, tt_54, tt_55, tt_56, tt_57, tt_58, tt_59, tt_60, tt_62, tt_63, tt_64, tt_65, tt_66, tt_67, tt_68, tt_69, tt_71, tt_72, tt_73, tt_74, tt_75, tt_76, tt_77, tt_78, tt_79, tt_80, tt_81, tt_82, tt_83, tt_84, tt_86, tt_87, tt_89, tt_91, tt_92, tt_93, tt_94, tt_95, tt_96, tt_97, tt_98, tt_99, tt_100, tt_102, tt_103, tt_104, tt_105, tt_107, tt_109, tt_111, tt_112, tt_113, tt_114, tt_115, tt_116, tt_117, tt_118, tt_120, tt_121, tt_122, tt_124, tt_125, tt_126, tt_127, tt_129, tt_130, tt_132, tt_133, tt_134, tt_135, tt_136, tt_137, tt_138, tt_139, tt_141, tt_143, tt_144, tt_145, tt_146, tt_147, tt_148, tt_149, tt_151, tt_152, tt_153, tt_155, tt_157, tt_158, tt_159, tt_161, tt_162, tt_163, tt_164, tt_165, tt_166, tt_167, tt_168, tt_169, tt_170, tt_171, tt_172, tt_173, tt_174, tt_175, tt_176, tt_177, sxRun, exA, Bool.and_true, Bool.true_and, rowF, mkCx, argsEnv, stepOp, stepOp0, undefd, anyU, opArgs, dstB, gcond, getV, getVs, getPs, evalO, look, lookS, chg, del, constCV, SS.put, SS.putT, catP, catE, allP, bop, cmpI, GC.imp, listAt, exitIt, rid, cutKey, keepEnv, SS.at, delAll, isA, isA0, entP, entEnv, entCh, TV.eqv, RV.eqv, CV.eqv, eqvL, eqvR, Chunk.eqv, Chunk.nil, coll3, collE, collL, collR, collC, TV.coll, RV.coll, CV.coll, apartB, memB, ikEq, finP, resAll, resOne, tupOf, tau, pureOp, loadOp, memOp, funcOf, sliceOf, fillC, fieldOff, repl, nth, setN, setFrom, cellsFrom, len', updR, appR, fits_i, fits_b, fits_s, fits_o, CK.eta, etas, fitss, toInt_i, toBool_b, toStr_s, CV.flat, flats, TI.val, RV.cells, kindsOk, wantB, SS.after, callSig, rnH, CV.rn, rnL, RV.rn, rnR, TV.rn, Chunk.rn, rnC, delIns, SS.frzs, SS.frz, frzOp, oslO, oslC, oslP, oslA, CV.frz, frzL, RV.frz, frzR, TV.frz, frzE, frzC, givE, TV.giv, RV.giv, CV.giv, givL, givR, List.toList_toArray, Nat.reduceBEq, Nat.reduceLT, Nat.reduceLeDiff, decide_true, decide_false, ↓reduceIte, Nat.reduceAdd, Nat.reduceMul, Nat.reduceSub, cond_true, cond_false, condP, cond_or, cond_and, imp_self, true_and, and_true, decide_eq_true_eq, decide_eq_false_iff_not, Bool.and_eq_true, Bool.or_eq_true, Bool.not_eq_true', Bool.not_eq_false', Bool.or_eq_false_iff, Bool.and_eq_false_imp, implies_true, exists_const, exists_prop, wrap_u64, wrap_u8, wrap_i64, tdiv_u64, tmod_u64, Int.toNat_natCast, Int.toNat_zero, Int.reduceToNat, Int.reduceLT, Int.reduceLE, Nat.zero_add, Nat.add_zero, Nat.mul_one, Int.reduceAdd, Int.reduceMod, Int.reduceSub, Int.reduceMul, Int.reduceNeg, Int.cast_ofNat_Int, not_false_eq_true, not_true_eq_false, forall_const, false_implies, Nat.reducePow, Bool.false_eq_true, Bool.true_eq_false, reduceCtorEq]
  change Int at a
  unfold policyT
  by_cases h0 : a = 0
  · subst h0; simp
  by_cases h1 : a = 1
  · subst h1; simp
  by_cases h2 : a = 2
  · subst h2; simp
  simp [h0, h1, h2]
theorem count_does : Does Tryd.prog (glS mx) 53 (fiSpec countT) := by
  refine Does.of (fn := Tryd.f53) Tryd.func53 rfl ttok (spec := lookS []) Known.nil (pc := fun _ => true) PureOk.nil mixed (fiSpec countT) (fun _ _ _ => none) (fun _ => none) 3000 (rs := [.tmp 2]) rfl (n := 12) rfl (by decide) (by kernel_rfl) ?_
  intro a hp
  refine ⟨by simp only [fiSpec, List.length_cons, List.length_nil]; decide, ?_⟩
  simp (config := {maxSteps := 4000000}) only [fiSpec, tt_1, tt_2, tt_3, tt_4, tt_5, tt_6, tt_7, tt_8, tt_9, tt_10, tt_11, tt_12, tt_13, tt_14, tt_15, tt_16, tt_17, tt_18, tt_19, tt_20, tt_21, tt_22, tt_23, tt_25, tt_26, tt_27, tt_28, tt_29, tt_30, tt_31, tt_33, tt_34, tt_36, tt_37, tt_38, tt_39, tt_40, tt_41, tt_42, tt_43, tt_44, tt_45, tt_46, tt_47, tt_48, tt_49, tt_50, tt_51, tt_52, tt_53, tt_54, tt_55, tt_56, tt_57, tt_58, tt_59, tt_60, tt_62, tt_63, tt_64, tt_65, tt_66, tt_67, tt_68, tt_69, tt_71, tt_72, tt_73, tt_74, tt_75, tt_76, tt_77, tt_78, tt_79, tt_80, tt_81, tt_82, tt_83, tt_84, tt_86, tt_87, tt_89, tt_91, tt_92, tt_93, tt_94, tt_95, tt_96, tt_97, tt_98, tt_99, tt_100, tt_102, tt_103, tt_104, tt_105, tt_107, tt_109, tt_111, tt_112, tt_113, tt_114, tt_115, tt_116, tt_117, tt_118, tt_120, tt_121, tt_122, tt_124, tt_125, tt_126, tt_127, tt_129, tt_130, tt_132, tt_133, tt_134, tt_135, tt_136, tt_137, tt_138, tt_139, tt_141, tt_143, tt_144, tt_145, tt_146, tt_147, tt_148, tt_149, tt_151, tt_152, tt_153, tt_155, tt_157, tt_158, tt_159, tt_161, tt_162, tt_163, tt_164, tt_165, tt_166, tt_167, tt_168, tt_169, tt_170, tt_171, tt_172, tt_173, tt_174, tt_175, tt_176, tt_177, sxRun, exA, Bool.and_true, Bool.true_and, rowF, mkCx, argsEnv, stepOp, stepOp0, undefd, anyU, opArgs, dstB, gcond, getV, getVs, getPs, evalO, look, lookS, chg, del, constCV, SS.put, SS.putT, catP, catE, allP, bop, cmpI, GC.imp, listAt, exitIt, rid, cutKey, keepEnv, SS.at, delAll, isA, isA0, entP, entEnv, entCh, TV.eqv, RV.eqv, CV.eqv, eqvL, eqvR, Chunk.eqv, Chunk.nil, coll3, collE, collL, collR, collC, TV.coll, RV.coll, CV.coll, apartB, memB, ikEq, finP, resAll, resOne, tupOf, tau, pureOp, loadOp, memOp, funcOf, sliceOf, fillC, fieldOff, repl, nth, setN, setFrom, cellsFrom, len', updR, appR, fits_i, fits_b, fits_s, fits_o, CK.eta, etas, fitss, toInt_i, toBool_b, toStr_s, CV.flat, flats, TI.val, RV.cells, kindsOk, wantB, SS.after, callSig, rnH, CV.rn, rnL, RV.rn, rnR, TV.rn, Chunk.rn, rnC, delIns, SS.frzs, SS.frz, frzOp, oslO, oslC, oslP, oslA, CV.frz, frzL, RV.frz, frzR, TV.frz, frzE, frzC, givE, TV.giv, RV.giv, CV.giv, givL, givR, List.toList_toArray, Nat.reduceBEq, Nat.reduceLT, Nat.reduceLeDiff, decide_true, decide_false, ↓reduceIte, Nat.reduceAdd, Nat.reduceMul, Nat.reduceSub, cond_true, cond_false, condP, cond_or, cond_and, imp_self, true_and, and_true, decide_eq_true_eq, decide_eq_false_iff_not, Bool.and_eq_true, Bool.or_eq_true, Bool.not_eq_true', Bool.not_eq_false', Bool.or_eq_false_iff, Bool.and_eq_false_imp, implies_true, exists_const, exists_prop, wrap_u64, wrap_u8, wrap_i64, tdiv_u64, tmod_u64, Int.toNat_natCast, Int.toNat_zero, Int.reduceToNat, Int.reduceLT, Int.reduceLE, Nat.zero_add, Nat.add_zero, Nat.mul_one, Int.reduceAdd, Int.reduceMod, Int.reduceSub, Int.reduceMul, Int.reduceNeg, Int.cast_ofNat_Int, not_false_eq_true, not_true_eq_false, forall_const, false_implies, Nat.reducePow, Bool.false_eq_true, Bool.true_eq_false, reduceCtorEq]
  change Int at a
  unfold countT
  by_cases h1 : a = 1
  · subst h1; simp
  by_cases h2 : a = 2
  · subst h2; simp
  by_cases h8 : a = 8
  · subst h8; simp
  by_cases h10 : a = 10
  · subst h10; simp
  by_cases h17 : a = 17
  · subst h17; simp
  simp [h1, h2, h8, h10, h17]
theorem instParts_does : Does Tryd.prog (glS mx) 74 (fnSpec instT) := by
  refine Does.of (fn := Tryd.f74) Tryd.func74 rfl ttok (spec := lookS []) Known.nil (pc := fun _ => true) PureOk.nil mixed (fnSpec instT) (fun _ _ _ => none) (fun _ => none) 3000 (rs := [.tmp 2]) rfl (n := 18) rfl (by decide) (by kernel_rfl) ?_
  intro a hp
  refine ⟨by simp only [fnSpec, List.length_cons, List.length_nil]; decide, ?_⟩
  simp (config := {maxSteps := 4000000}) only [fnSpec, tt_1, tt_2, tt_3, tt_4, tt_5, tt_6, tt_7, tt_8, tt_9, tt_10, tt_11, tt_12, tt_13, tt_14, tt_15, tt_16, tt_17, tt_18, tt_19, tt_20, tt_21, tt_22, tt_23, tt_25, tt_26, tt_27, tt_28, tt_29, tt_30, tt_31, tt_33, tt_34, tt_36, tt_37, tt_38, tt_39, tt_40, tt_41, tt_42, tt_43, tt_44, tt_45, tt_46, tt_47, tt_48, tt_49, tt_50, tt_51, tt_52, tt_53, tt_54, tt_55, tt_56, tt_57, tt_58, tt_59, tt_60, tt_62, tt_63, tt_64, tt_65, tt_66, tt_67, tt_68, tt_69, tt_71, tt_72, tt_73, tt_74, tt_75, tt_76, tt_77, tt_78, tt_79, tt_80, tt_81, tt_82, tt_83, tt_84, tt_86, tt_87, tt_89, tt_91, tt_92, tt_93, tt_94, tt_95, tt_96, tt_97, tt_98, tt_99, tt_100, tt_102, tt_103, tt_104, tt_105, tt_107, tt_109, tt_111, tt_112, tt_113, tt_114, tt_115, tt_116, tt_117, tt_118, tt_120, tt_121, tt_122, tt_124, tt_125, tt_126, tt_127, tt_129, tt_130, tt_132, tt_133, tt_134, tt_135, tt_136, tt_137, tt_138, tt_139, tt_141, tt_143, tt_144, tt_145, tt_146, tt_147, tt_148, tt_149, tt_151, tt_152, tt_153, tt_155, tt_157, tt_158, tt_159, tt_161, tt_162, tt_163, tt_164, tt_165, tt_166, tt_167, tt_168, tt_169, tt_170, tt_171, tt_172, tt_173, tt_174, tt_175, tt_176, tt_177, sxRun, exA, Bool.and_true, Bool.true_and, rowF, mkCx, argsEnv, stepOp, stepOp0, undefd, anyU, opArgs, dstB, gcond, getV, getVs, getPs, evalO, look, lookS, chg, del, constCV, SS.put, SS.putT, catP, catE, allP, bop, cmpI, GC.imp, listAt, exitIt, rid, cutKey, keepEnv, SS.at, delAll, isA, isA0, entP, entEnv, entCh, TV.eqv, RV.eqv, CV.eqv, eqvL, eqvR, Chunk.eqv, Chunk.nil, coll3, collE, collL, collR, collC, TV.coll, RV.coll, CV.coll, apartB, memB, ikEq, finP, resAll, resOne, tupOf, tau, pureOp, loadOp, memOp, funcOf, sliceOf, fillC, fieldOff, repl, nth, setN, setFrom, cellsFrom, len', updR, appR, fits_i, fits_b, fits_s, fits_o, CK.eta, etas, fitss, toInt_i, toBool_b, toStr_s, CV.flat, flats, TI.val, RV.cells, kindsOk, wantB, SS.after, callSig, rnH, CV.rn, rnL, RV.rn, rnR, TV.rn, Chunk.rn, rnC, delIns, SS.frzs, SS.frz, frzOp, oslO, oslC, oslP, oslA, CV.frz, frzL, RV.frz, frzR, TV.frz, frzE, frzC, givE, TV.giv, RV.giv, CV.giv, givL, givR, List.toList_toArray, Nat.reduceBEq, Nat.reduceLT, Nat.reduceLeDiff, decide_true, decide_false, ↓reduceIte, Nat.reduceAdd, Nat.reduceMul, Nat.reduceSub, cond_true, cond_false, condP, cond_or, cond_and, imp_self, true_and, and_true, decide_eq_true_eq, decide_eq_false_iff_not, Bool.and_eq_true, Bool.or_eq_true, Bool.not_eq_true', Bool.not_eq_false', Bool.or_eq_false_iff, Bool.and_eq_false_imp, implies_true, exists_const, exists_prop, wrap_u64, wrap_u8, wrap_i64, tdiv_u64, tmod_u64, Int.toNat_natCast, Int.toNat_zero, Int.reduceToNat, Int.reduceLT, Int.reduceLE, Nat.zero_add, Nat.add_zero, Nat.mul_one, Int.reduceAdd, Int.reduceMod, Int.reduceSub, Int.reduceMul, Int.reduceNeg, Int.cast_ofNat_Int, not_false_eq_true, not_true_eq_false, forall_const, false_implies, Nat.reducePow, Bool.false_eq_true, Bool.true_eq_false, reduceCtorEq]
  change Int at a
  unfold instT
  by_cases h0 : a = 0
  · subst h0; simp
  by_cases h14 : a = 14
  · subst h14; simp
  by_cases h16 : a = 16
  · subst h16; simp
  by_cases h18 : a = 18
  · subst h18; simp
  by_cases h1 : a = 1
  · subst h1; simp
  by_cases h15 : a = 15
  · subst h15; simp
  by_cases h17 : a = 17
  · subst h17; simp
  by_cases h12 : a = 12
  · subst h12; simp
  by_cases h13 : a = 13
  · subst h13; simp
  simp [h0, h14, h16, h18, h1, h15, h17, h12, h13]
theorem callParts_does : Does Tryd.prog (glS mx) 76 (fnSpec callT) := by
  refine Does.of (fn := Tryd.f76) Tryd.func76 rfl ttok (spec := lookS []) Known.nil (pc := fun _ => true) PureOk.nil mixed (fnSpec callT) (fun _ _ _ => none) (fun _ => none) 3000 (rs := [.tmp 2]) rfl (n := 21) rfl (by decide) (by kernel_rfl) ?_
  intro a hp
  refine ⟨by simp only [fnSpec, List.length_cons, List.length_nil]; decide, ?_⟩
  simp (config := {maxSteps := 4000000}) only [fnSpec, tt_1, tt_2, tt_3, tt_4, tt_5, tt_6, tt_7, tt_8, tt_9, tt_10, tt_11, tt_12, tt_13, tt_14, tt_15, tt_16, tt_17, tt_18, tt_19, tt_20, tt_21, tt_22, tt_23, tt_25, tt_26, tt_27, tt_28, tt_29, tt_30, tt_31, tt_33, tt_34, tt_36, tt_37, tt_38, tt_39, tt_40, tt_41, tt_42, tt_43, tt_44, tt_45, tt_46, tt_47, tt_48, tt_49, tt_50, tt_51, tt_52, tt_53, tt_54, tt_55, tt_56, tt_57, tt_58, tt_59, tt_60, tt_62, tt_63, tt_64, tt_65, tt_66, tt_67, tt_68, tt_69, tt_71, tt_72, tt_73, tt_74, tt_75, tt_76, tt_77, tt_78, tt_79, tt_80, tt_81, tt_82, tt_83, tt_84, tt_86, tt_87, tt_89, tt_91, tt_92, tt_93, tt_94, tt_95, tt_96, tt_97, tt_98, tt_99, tt_100, tt_102, tt_103, tt_104, tt_105, tt_107, tt_109, tt_111, tt_112, tt_113, tt_114, tt_115, tt_116, tt_117, tt_118, tt_120, tt_121, tt_122, tt_124, tt_125, tt_126, tt_127, tt_129, tt_130, tt_132, tt_133, tt_134, tt_135, tt_136, tt_137, tt_138, tt_139, tt_141, tt_143, tt_144, tt_145, tt_146, tt_147, tt_148, tt_149, tt_151, tt_152, tt_153, tt_155, tt_157, tt_158, tt_159, tt_161, tt_162, tt_163, tt_164, tt_165, tt_166, tt_167, tt_168, tt_169, tt_170, tt_171, tt_172, tt_173, tt_174, tt_175, tt_176, tt_177, sxRun, exA, Bool.and_true, Bool.true_and, rowF, mkCx, argsEnv, stepOp, stepOp0, undefd, anyU, opArgs, dstB, gcond, getV, getVs, getPs, evalO, look, lookS, chg, del, constCV, SS.put, SS.putT, catP, catE, allP, bop, cmpI, GC.imp, listAt, exitIt, rid, cutKey, keepEnv, SS.at, delAll, isA, isA0, entP, entEnv, entCh, TV.eqv, RV.eqv, CV.eqv, eqvL, eqvR, Chunk.eqv, Chunk.nil, coll3, collE, collL, collR, collC, TV.coll, RV.coll, CV.coll, apartB, memB, ikEq, finP, resAll, resOne, tupOf, tau, pureOp, loadOp, memOp, funcOf, sliceOf, fillC, fieldOff, repl, nth, setN, setFrom, cellsFrom, len', updR, appR, fits_i, fits_b, fits_s, fits_o, CK.eta, etas, fitss, toInt_i, toBool_b, toStr_s, CV.flat, flats, TI.val, RV.cells, kindsOk, wantB, SS.after, callSig, rnH, CV.rn, rnL, RV.rn, rnR, TV.rn, Chunk.rn, rnC, delIns, SS.frzs, SS.frz, frzOp, oslO, oslC, oslP, oslA, CV.frz, frzL, RV.frz, frzR, TV.frz, frzE, frzC, givE, TV.giv, RV.giv, CV.giv, givL, givR, List.toList_toArray, Nat.reduceBEq, Nat.reduceLT, Nat.reduceLeDiff, decide_true, decide_false, ↓reduceIte, Nat.reduceAdd, Nat.reduceMul, Nat.reduceSub, cond_true, cond_false, condP, cond_or, cond_and, imp_self, true_and, and_true, decide_eq_true_eq, decide_eq_false_iff_not, Bool.and_eq_true, Bool.or_eq_true, Bool.not_eq_true', Bool.not_eq_false', Bool.or_eq_false_iff, Bool.and_eq_false_imp, implies_true, exists_const, exists_prop, wrap_u64, wrap_u8, wrap_i64, tdiv_u64, tmod_u64, Int.toNat_natCast, Int.toNat_zero, Int.reduceToNat, Int.reduceLT, Int.reduceLE, Nat.zero_add, Nat.add_zero, Nat.mul_one, Int.reduceAdd, Int.reduceMod, Int.reduceSub, Int.reduceMul, Int.reduceNeg, Int.cast_ofNat_Int, not_false_eq_true, not_true_eq_false, forall_const, false_implies, Nat.reducePow, Bool.false_eq_true, Bool.true_eq_false, reduceCtorEq]
  change Int at a
  unfold callT
  by_cases h0 : a = 0
  · subst h0; simp
  by_cases h16 : a = 16
  · subst h16; simp
  by_cases h18 : a = 18
  · subst h18; simp
  by_cases h19 : a = 19
  · subst h19; simp
  by_cases h3 : a = 3
  · subst h3; simp
  by_cases h13 : a = 13
  · subst h13; simp
  by_cases h17 : a = 17
  · subst h17; simp
  by_cases h4 : a = 4
  · subst h4; simp
  by_cases h5 : a = 5
  · subst h5; simp
  by_cases h7 : a = 7
  · subst h7; simp
  by_cases h8 : a = 8
  · subst h8; simp
  by_cases h15 : a = 15
  · subst h15; simp
  simp [h0, h16, h18, h19, h3, h13, h17, h4, h5, h7, h8, h15]
def smallSpec : Spec := {
  α := List UInt8
  args a := [.c (.str a)]
  ins _ := []
  m := 0
  pre _ := True
  β := Unit
  post _ _ := True
  res a _ := .tup [.c (.int .i64 (numAns a 1099511627776).1), .c (.bool (numAns a 1099511627776).2)]
  outs _ _ := []
  fresh := 0 }
theorem numAns_le (s : List UInt8) (most : Int) (h : 0 ≤ most) : 0 ≤ (numAns s most).1 ∧ (numAns s most).1 ≤ most := by
  by_cases hh : s ≠ [] ∧ s.length ≤ 20 ∧ (s.getD 0 0 = 48 → s.length ≤ 1) ∧ s.all dig = true ∧ numF s ≤ most
  · have := numAns_some hh
    have h0 := numF_nonneg s hh.2.2.2.1
    omega
  · have := numAns_none hh
    omega
theorem small_does : Does Tryd.prog (glS mx) 60 (smallSpec) := by
  refine Does.of (fn := Tryd.f60) Tryd.func60 rfl ttok (spec := lookS [(7, numSpec)]) (Known.nil.cons callee7 num_does) (pc := fun _ => true) (PureOk.nil.cons (s := numSpec) (k := 7) (fun _ _ => rfl)) mixed (smallSpec) (fun _ _ _ => none) (fun _ => none) 3000 (rs := [.tmp 2, .tmp 3]) rfl (n := 14) rfl (by decide) (by kernel_rfl) ?_
  intro a hp
  refine ⟨by simp only [smallSpec, numSpec, List.length_cons, List.length_nil]; decide, ?_⟩
  simp (config := {maxSteps := 4000000}) only [smallSpec, numSpec, tt_1, tt_2, tt_3, tt_4, tt_5, tt_6, tt_7, tt_8, tt_9, tt_10, tt_11, tt_12, tt_13, tt_14, tt_15, tt_16, tt_17, tt_18, tt_19, tt_20, tt_21, tt_22, tt_23, tt_25, tt_26, tt_27, tt_28, tt_29, tt_30, tt_31, tt_33, tt_34, tt_36, tt_37, tt_38, tt_39, tt_40, tt_41, tt_42, tt_43, tt_44, tt_45, tt_46, tt_47, tt_48, tt_49, tt_50, tt_51, tt_52, tt_53, tt_54, tt_55, tt_56, tt_57, tt_58, tt_59, tt_60, tt_62, tt_63, tt_64, tt_65, tt_66, tt_67, tt_68, tt_69, tt_71, tt_72, tt_73, tt_74, tt_75, tt_76, tt_77, tt_78, tt_79, tt_80, tt_81, tt_82, tt_83, tt_84, tt_86, tt_87, tt_89, tt_91, tt_92, tt_93, tt_94, tt_95, tt_96, tt_97, tt_98, tt_99, tt_100, tt_102, tt_103, tt_104, tt_105, tt_107, tt_109, tt_111, tt_112, tt_113, tt_114, tt_115, tt_116, tt_117, tt_118, tt_120, tt_121, tt_122, tt_124, tt_125, tt_126, tt_127, tt_129, tt_130, tt_132, tt_133, tt_134, tt_135, tt_136, tt_137, tt_138, tt_139, tt_141, tt_143, tt_144, tt_145, tt_146, tt_147, tt_148, tt_149, tt_151, tt_152, tt_153, tt_155, tt_157, tt_158, tt_159, tt_161, tt_162, tt_163, tt_164, tt_165, tt_166, tt_167, tt_168, tt_169, tt_170, tt_171, tt_172, tt_173, tt_174, tt_175, tt_176, tt_177, sxRun, exA, Bool.and_true, Bool.true_and, rowF, mkCx, argsEnv, stepOp, stepOp0, undefd, anyU, opArgs, dstB, gcond, getV, getVs, getPs, evalO, look, lookS, chg, del, constCV, SS.put, SS.putT, catP, catE, allP, bop, cmpI, GC.imp, listAt, exitIt, rid, cutKey, keepEnv, SS.at, delAll, isA, isA0, entP, entEnv, entCh, TV.eqv, RV.eqv, CV.eqv, eqvL, eqvR, Chunk.eqv, Chunk.nil, coll3, collE, collL, collR, collC, TV.coll, RV.coll, CV.coll, apartB, memB, ikEq, finP, resAll, resOne, tupOf, tau, pureOp, loadOp, memOp, funcOf, sliceOf, fillC, fieldOff, repl, nth, setN, setFrom, cellsFrom, len', updR, appR, fits_i, fits_b, fits_s, fits_o, CK.eta, etas, fitss, toInt_i, toBool_b, toStr_s, CV.flat, flats, TI.val, RV.cells, kindsOk, wantB, SS.after, callSig, rnH, CV.rn, rnL, RV.rn, rnR, TV.rn, Chunk.rn, rnC, delIns, SS.frzs, SS.frz, frzOp, oslO, oslC, oslP, oslA, CV.frz, frzL, RV.frz, frzR, TV.frz, frzE, frzC, givE, TV.giv, RV.giv, CV.giv, givL, givR, List.toList_toArray, Nat.reduceBEq, Nat.reduceLT, Nat.reduceLeDiff, decide_true, decide_false, ↓reduceIte, Nat.reduceAdd, Nat.reduceMul, Nat.reduceSub, cond_true, cond_false, condP, cond_or, cond_and, imp_self, true_and, and_true, decide_eq_true_eq, decide_eq_false_iff_not, Bool.and_eq_true, Bool.or_eq_true, Bool.not_eq_true', Bool.not_eq_false', Bool.or_eq_false_iff, Bool.and_eq_false_imp, implies_true, exists_const, exists_prop, wrap_u64, wrap_u8, wrap_i64, tdiv_u64, tmod_u64, Int.toNat_natCast, Int.toNat_zero, Int.reduceToNat, Int.reduceLT, Int.reduceLE, Nat.zero_add, Nat.add_zero, Nat.mul_one, Int.reduceAdd, Int.reduceMod, Int.reduceSub, Int.reduceMul, Int.reduceNeg, Int.cast_ofNat_Int, not_false_eq_true, not_true_eq_false, forall_const, false_implies, Nat.reducePow, Bool.false_eq_true, Bool.true_eq_false, reduceCtorEq]
  change List UInt8 at a
  have := numAns_le a 1099511627776 (by decide)
  refine ⟨(a, 1099511627776), ⟨(by decide : (0 : Int) ≤ 1099511627776), (by decide : (1099511627776 : Int) < 18446744073709551616)⟩, rfl, rfl, ?_, rfl⟩
  show (numAns a 1099511627776).1 = ((numAns a 1099511627776).1 + 9223372036854775808) % 18446744073709551616 - 9223372036854775808
  omega
end Go.Sx.Tryd
namespace Go.Proofs
open Go.Shelf
def Tryd.laysM146_ren : Go.Shelf.Ren := ⟨fun | 146 => 22 | 221 => 36 | 268 => 62 | 138 => 63 | 143 => 64 | 195 => 86 | 197 => 87 | 218 => 88 | 219 => 89 | 260 => 99 | 217 => 100 | 225 => 101 | 224 => 102 | 267 => 103 | 266 => 112 | 314 => 113 | n => n, fun | 9 => 9 | 31 => 26 | 3 => 3 | 4 => 4 | 0 => 0 | 105 => 131 | 21 => 21 | 5 => 5 | 46 => 144 | 119 => 156 | 139 => 159 | 138 => 158 | 146 => 160 | 51 => 149 | n => n, fun | 1 => 3 | 3 => 5 | 4 => 6 | n => n⟩
theorem Tryd.laysM146 : Go.Proofs.LaysM.n146 Tryd.prog Tryd.laysM146_ren := {
  mixed := by kernel_rfl
  f138 := Tryd.func63.trans (congrArg some (by kernel_rfl))
  f143 := Tryd.func64.trans (congrArg some (by kernel_rfl))
  f146 := Tryd.func22.trans (congrArg some (by kernel_rfl))
  f195 := Tryd.func86.trans (congrArg some (by kernel_rfl))
  f197 := Tryd.func87.trans (congrArg some (by kernel_rfl))
  f217 := Tryd.func100.trans (congrArg some (by kernel_rfl))
  f218 := Tryd.func88.trans (congrArg some (by kernel_rfl))
  f219 := Tryd.func89.trans (congrArg some (by kernel_rfl))
  f221 := Tryd.func36.trans (congrArg some (by kernel_rfl))
  f224 := Tryd.func102.trans (congrArg some (by kernel_rfl))
  f225 := Tryd.func101.trans (congrArg some (by kernel_rfl))
  f260 := Tryd.func99.trans (congrArg some (by kernel_rfl))
  f266 := Tryd.func112.trans (congrArg some (by kernel_rfl))
  f267 := Tryd.func103.trans (congrArg some (by kernel_rfl))
  f268 := Tryd.func62.trans (congrArg some (by kernel_rfl))
  f314 := Tryd.func113.trans (congrArg some (by kernel_rfl))
  t0 := Tryd.underlying0
  a0 := Tryd.isAgg0
  z0 := Tryd.sizeOf0
  v0 := Tryd.zeroValue0
  t3 := Tryd.underlying3
  a3 := Tryd.isAgg3
  z3 := Tryd.sizeOf3
  v3 := Tryd.zeroValue3
  t4 := Tryd.underlying4
  a4 := Tryd.isAgg4
  z4 := Tryd.sizeOf4
  v4 := Tryd.zeroValue4
  t5 := Tryd.underlying5
  a5 := Tryd.isAgg5
  z5 := Tryd.sizeOf5
  v5 := Tryd.zeroValue5
  t9 := Tryd.underlying9
  a9 := Tryd.isAgg9
  z9 := Tryd.sizeOf9
  v9 := Tryd.zeroValue9
  t21 := Tryd.underlying21
  a21 := Tryd.isAgg21
  z21 := Tryd.sizeOf21
  v21 := Tryd.zeroValue21
  t31 := Tryd.underlying26
  a31 := Tryd.isAgg26
  z31 := Tryd.sizeOf26
  v31 := Tryd.zeroValue26
  t46 := Tryd.underlying144
  a46 := Tryd.isAgg144
  z46 := Tryd.sizeOf144
  v46 := Tryd.zeroValue144
  t51 := Tryd.underlying149
  a51 := Tryd.isAgg149
  z51 := Tryd.sizeOf149
  v51 := Tryd.zeroValue149
  t105 := Tryd.underlying131
  a105 := Tryd.isAgg131
  z105 := Tryd.sizeOf131
  v105 := Tryd.zeroValue131
  t119 := Tryd.underlying156
  a119 := Tryd.isAgg156
  z119 := Tryd.sizeOf156
  t138 := Tryd.underlying158
  a138 := Tryd.isAgg158
  z138 := Tryd.sizeOf158
  v138 := Tryd.zeroValue158
  t139 := Tryd.underlying159
  a139 := Tryd.isAgg159
  z139 := Tryd.sizeOf159
  v139 := Tryd.zeroValue159
  t146 := Tryd.underlying160
  a146 := Tryd.isAgg160
  z146 := Tryd.sizeOf160
  v146 := Tryd.zeroValue160
  g1 := by kernel_rfl
  g3 := by kernel_rfl
  g4 := by kernel_rfl
  i0 := by kernel_rfl
  i3 := by kernel_rfl
  i4 := by kernel_rfl
  i5 := by kernel_rfl
  i9 := by kernel_rfl
  i21 := by kernel_rfl
  i31 := by kernel_rfl
  i46 := by kernel_rfl
  i51 := by kernel_rfl
  i105 := by kernel_rfl
  i138 := by kernel_rfl
  i139 := by kernel_rfl
  i146 := by kernel_rfl
  m1 := by kernel_rfl
  s1_3 := fun w h => Go.Proofs.cell_of_shapedOpen_int (zero := #[.int .i64 0]) (t := 3) h (of_decide_eq_true (by kernel_rfl)) (by kernel_rfl) rfl (by kernel_rfl) (by kernel_rfl) Tryd.underlying3
  m3 := by kernel_rfl
  m4 := by kernel_rfl }
end Go.Proofs
namespace Go.Sx.Tryd
open Go Go.Sx Go.Proofs
variable {mx : Int}

def strF (l : List (List UInt8)) (i _ : Nat) : CV := .str (l.getD i [])
def splitSpec : Spec := {
  α := List UInt8 × UInt8
  args a := [.c (.str a.1), .c (.str [a.2])]
  ins _ := []
  m := 0
  pre a := a.1.length < 4294967281
  β := Unit
  post _ _ := True
  res _ _ := .r (.c (.osl 0))
  outs a _ := [(0, .row 9 1 (cutL a.2 a.1).length (strF (cutL a.2 a.1)))]
  fresh := 1 }

theorem split_does : Does Tryd.prog (glS mx) 22 splitSpec := by
  rintro w0 ρ0 S0 Fr hFr ⟨s, c⟩ args hnx hmem hargs hp hgl
  obtain ⟨x, y, hxy⟩ : ∃ x y, args.toList = [x, y] := by
    have := denR_length hargs
    match h : args.toList, this with
    | [x, y], _ => exact ⟨x, y, rfl⟩
  rw [hxy] at hargs
  obtain ⟨hx, hy, _⟩ := hargs
  have hx : x = .string ⟨s.toArray⟩ := hx
  have hy : y = .string ⟨#[c]⟩ := hy
  subst hx hy
  have e : args = #[.string ⟨s.toArray⟩, .string ⟨#[c]⟩] := by rw [← Array.toArray_toList (xs := args), hxy]
  subst e
  have hm : w0.cell? ⟨3, 0, none⟩ = some (.int .i64 mx) := by
    obtain ⟨b, off, he, _, hc⟩ := hgl 3 _ rfl
    obtain ⟨u, hu, hd⟩ := hc 0 0 (by decide) (by decide)
    simp only [Value.pointer.injEq, Option.some.injEq, Addr.mk.injEq] at he
    obtain ⟨rfl, he, _⟩ := he
    have h0 : off = 0 := by omega
    subst h0
    have hd : u = .int .i64 mx := hd
    rw [hd] at hu
    exact hu
  have hn := splitB_cut c s
  have hlen : Lib.countB ⟨s.toArray⟩ ⟨#[c]⟩ + 1 = (cutL c s).length := by
    rw [← hn, List.length_map, Lib.splitB_all ⟨#[c]⟩ (Nat.le_refl 1) 0 _ _ rfl]
  have hcall := Any.strings_Split { Tryd.laysM146 with } Tryd.laysM146.i9 ⟨s.toArray⟩ ⟨#[c]⟩ mx w0 (by rw [size_mk]; exact hp) hm (Nat.le_refl 1)
  refine Calls.mono hcall ?_
  rintro e w' ⟨rfl, rfl⟩
  have hle := Lib.countB_le ⟨#[c]⟩ (Nat.le_refl 1) _ ⟨s.toArray⟩ (Nat.le_refl _)
  rw [size_mk] at hle
  have hp : s.length < 4294967281 := hp
  have hpush := alloc_pushed w0 (.cells ((Lib.splitB ⟨#[c]⟩ 0 (Lib.countB ⟨s.toArray⟩ ⟨#[c]⟩) ⟨s.toArray⟩).map Value.string).toArray (Tryd.laysM146_ren.t 9))
  have hm0 : Mem ⟨Tryd.prog, w0, ρ0, S0, Fr, hFr⟩ ρ0 S0 w0 [] := hmem
  have hm' := hm0.push hpush (v := .slice (some ⟨w0.heap.size, 0, none⟩) (Lib.countB ⟨s.toArray⟩ ⟨#[c]⟩ + 1) (Lib.countB ⟨s.toArray⟩ ⟨#[c]⟩ + 1)) (ch := .row 9 1 (cutL c s).length (strF (cutL c s))) (by
    refine .inr ⟨w0.heap.size, by simp [Env.push], _, Lib.countB ⟨s.toArray⟩ ⟨#[c]⟩ + 1, by simp [Env.push, hlen], by omega, by omega, hpush.new, ?_, ?_, ?_⟩
    · simp only [List.size_toArray, List.length_map]
      rw [Lib.splitB_all ⟨#[c]⟩ (Nat.le_refl 1) 0 _ _ rfl]
      omega
    · intro u hu
      simp only [List.mem_map] at hu
      obtain ⟨b, _, rfl⟩ := hu
      rfl
    · intro i j hi hj
      have hj : j = 0 := by omega
      subst hj
      rw [← hn, List.length_map] at hi
      refine ⟨.string ((Lib.splitB ⟨#[c]⟩ 0 (Lib.countB ⟨s.toArray⟩ ⟨#[c]⟩) ⟨s.toArray⟩)[i]), by simp [hi], ?_⟩
      show Value.string _ = .string ⟨((cutL c s).getD i []).toArray⟩
      rw [← hn, List.getD_eq_getElem?_getD, List.getElem?_map, List.getElem?_eq_getElem hi]
      simp)
  have h0 : ρ0.nx = 0 := hnx
  rw [h0] at hm'
  exact ⟨_, (), _, S0, rfl, trivial, hm', by show ρ0.nx + 1 = 0 + 1; omega, by show 0 < ρ0.nx + 1; omega, by simp [Env.push, h0], rfl⟩
end Go.Sx.Tryd
namespace Go.Sx.Tryd
open Go Go.Sx Go.Proofs
variable {mx : Int}
set_option linter.unusedSimpArgs false
set_option maxRecDepth 20000
set_option maxHeartbeats 4000000
/-- Words: what stands between blanks, and is not empty. -/
def wordsL (s : List UInt8) : List (List UInt8) := (cutL 32 s).filter (fun w => w ≠ [])
def wordsSpec : Spec := {
  α := List UInt8
  args a := [.c (.str a)]
  ins _ := []
  m := 0
  pre a := a.length < 4294967281
  β := Unit
  post _ _ := True
  res _ _ := .r (.c (.osl 0))
  outs a _ := [(0, .row 9 1 (wordsL a).length (strF (wordsL a)))]
  fresh := 1 }
def wordsInv (a : List UInt8) : Nat → Option Inv := fun id => bif id == 3 then some { α := Nat, keep := [7, 8], drop := [], env := fun b k => [(9, .r (.c (.int .i64 k))), (3, .r (.c (.osl b)))], chunks := fun b k => [(b, .row 9 1 (((cutL 32 a).take k).filter (fun w => w ≠ [])).length (strF (((cutL 32 a).take k).filter (fun w => w ≠ []))))], fresh := 1, pre := fun k => k ≤ (cutL 32 a).length, μ := fun k => (cutL 32 a).length - k } else none
theorem strF_fits (l : List (List UInt8)) (i j : Nat) : CK.str.fits (strF l i j) = true := rfl
theorem strF_str (l : List (List UInt8)) (i j : Nat) : (strF l i j).toStr = l.getD i [] := rfl
theorem cutL_length (c : UInt8) : ∀ s, (cutL c s).length ≤ s.length + 1
  | [] => by simp [cutL]
  | b :: l => by
    have := cutL_length c l
    unfold cutL
    split
    · simp; omega
    · split
      · rename_i h t e
        rw [e] at this
        simpa using Nat.le_succ_of_le this
      · simp
theorem take_getD {α : Type} (L : List α) (d : α) {x : Nat} (h : x < L.length) : L.take (x + 1) = L.take x ++ [L.getD x d] := by
  rw [List.take_succ_eq_append_getElem h]
  simp [h]
theorem strF_snoc {M : List (List UInt8)} {w : List UInt8} {i j : Nat} (hi : i < (M ++ [w]).length) (hj : j < 1) : strF (M ++ [w]) i j = if i < M.length then strF M i j else nth [CV.str w] j := by
  have hj : j = 0 := by omega
  subst hj
  unfold strF
  split
  · rename_i h
    simp [List.getD_eq_getElem?_getD, List.getElem?_append_left h]
  · rename_i h
    simp only [List.length_append, List.length_cons, List.length_nil] at hi
    have : i = M.length := by omega
    subst this
    simp [nth]
theorem words_does : Does Tryd.prog (glS mx) 9 (wordsSpec) := by
  refine Does.of (fn := Tryd.f9) Tryd.func9 rfl ttok (spec := lookS [(22, splitSpec)]) (Known.nil.cons callee22 split_does) (pc := fun _ => true) (PureOk.nil.cons (s := splitSpec) (k := 22) (fun _ _ => rfl)) mixed (wordsSpec) (fun a id _ => wordsInv a id) (fun _ => none) 3000 (rs := [.tmp 2]) rfl (n := 21) rfl (by decide) (by kernel_rfl) ?_
  intro a hp
  refine ⟨by simp only [wordsSpec, wordsInv, splitSpec, List.length_cons, List.length_nil]; decide, ?_⟩
  simp (config := {maxSteps := 4000000}) only [wordsSpec, wordsInv, splitSpec, tt_1, tt_2, tt_3, tt_4, tt_5, tt_6, tt_7, tt_8, tt_9, tt_10, tt_11, tt_12, tt_13, tt_14, tt_15, tt_16, tt_17, tt_18, tt_19, tt_20, tt_21, tt_22, tt_23, tt_25, tt_26, tt_27, tt_28, tt_29, tt_30, tt_31, tt_33, tt_34, tt_36, tt_37, tt_38, tt_39, tt_40, tt_41, tt_42, tt_43, tt_44, tt_45, tt_46, tt_47, tt_48, tt_49, tt_50, tt_51, tt_52, tt_53, tt_54, tt_55, tt_56, tt_57, tt_58, tt_59, tt_60, tt_62, tt_63, tt_64, tt_65, tt_66, tt_67, tt_68, tt_69, tt_71, tt_72, tt_73, tt_74, tt_75, tt_76, tt_77, tt_78, tt_79, tt_80, tt_81, tt_82, tt_83, tt_84, tt_86, tt_87, tt_89, tt_91, tt_92, tt_93, tt_94, tt_95, tt_96, tt_97, tt_98, tt_99, tt_100, tt_102, tt_103, tt_104, tt_105, tt_107, tt_109, tt_111, tt_112, tt_113, tt_114, tt_115, tt_116, tt_117, tt_118, tt_120, tt_121, tt_122, tt_124, tt_125, tt_126, tt_127, tt_129, tt_130, tt_132, tt_133, tt_134, tt_135, tt_136, tt_137, tt_138, tt_139, tt_141, tt_143, tt_144, tt_145, tt_146, tt_147, tt_148, tt_149, tt_151, tt_152, tt_153, tt_155, tt_157, tt_158, tt_159, tt_161, tt_162, tt_163, tt_164, tt_165, tt_166, tt_167, tt_168, tt_169, tt_170, tt_171, tt_172, tt_173, tt_174, tt_175, tt_176, tt_177, sxRun, exA, Bool.and_true, Bool.true_and, rowF, mkCx, argsEnv, stepOp, stepOp0, undefd, anyU, opArgs, dstB, gcond, getV, getVs, getPs, evalO, look, lookS, chg, del, constCV, SS.put, SS.putT, catP, catE, allP, bop, cmpI, GC.imp, listAt, exitIt, rid, cutKey, keepEnv, SS.at, delAll, isA, isA0, entP, entEnv, entCh, TV.eqv, RV.eqv, CV.eqv, eqvL, eqvR, Chunk.eqv, Chunk.nil, coll3, collE, collL, collR, collC, TV.coll, RV.coll, CV.coll, apartB, memB, ikEq, finP, resAll, resOne, tupOf, tau, pureOp, loadOp, memOp, funcOf, sliceOf, fillC, fieldOff, repl, nth, setN, setFrom, cellsFrom, len', updR, appR, fits_i, fits_b, fits_s, fits_o, CK.eta, etas, fitss, toInt_i, toBool_b, toStr_s, CV.flat, flats, TI.val, RV.cells, kindsOk, wantB, SS.after, callSig, rnH, CV.rn, rnL, RV.rn, rnR, TV.rn, Chunk.rn, rnC, delIns, SS.frzs, SS.frz, frzOp, oslO, oslC, oslP, oslA, CV.frz, frzL, RV.frz, frzR, TV.frz, frzE, frzC, givE, TV.giv, RV.giv, CV.giv, givL, givR, List.toList_toArray, Nat.reduceBEq, Nat.reduceLT, Nat.reduceLeDiff, decide_true, decide_false, ↓reduceIte, Nat.reduceAdd, Nat.reduceMul, Nat.reduceSub, cond_true, cond_false, condP, cond_or, cond_and, imp_self, true_and, and_true, decide_eq_true_eq, decide_eq_false_iff_not, Bool.and_eq_true, Bool.or_eq_true, Bool.not_eq_true', Bool.not_eq_false', Bool.or_eq_false_iff, Bool.and_eq_false_imp, implies_true, exists_const, exists_prop, wrap_u64, wrap_u8, wrap_i64, tdiv_u64, tmod_u64, Int.toNat_natCast, Int.toNat_zero, Int.reduceToNat, Int.reduceLT, Int.reduceLE, Nat.zero_add, Nat.add_zero, Nat.mul_one, Int.reduceAdd, Int.reduceMod, Int.reduceSub, Int.reduceMul, Int.reduceNeg, Int.cast_ofNat_Int, not_false_eq_true, not_true_eq_false, forall_const, false_implies, Nat.reducePow, Bool.false_eq_true, Bool.true_eq_false, reduceCtorEq]
  change List UInt8 at a
  have hp : a.length < 4294967281 := hp
  have hl := cutL_length 32 a
  refine ⟨(a, 32), hp, rfl, rfl, ⟨⟨0, Nat.zero_le _, rfl, by simp⟩, fun x hx => ⟨fun hlt => ?_, fun hge => ?_⟩⟩⟩
  · simp only at hlt
    have hlt : x < (cutL 32 a).length := by omega
    have ht := take_getD (cutL 32 a) [] hlt
    have hfl := List.length_filter_le (fun w => decide (w ≠ [])) ((cutL 32 a).take x)
    rw [List.length_take] at hfl
    refine ⟨⟨by omega, by simp only; omega⟩, hlt, rfl, fun hne => ⟨by omega, by omega, x + 1, by omega, by omega, by omega, ?_⟩, fun he => ⟨x + 1, by omega, by omega, by omega, ?_⟩⟩
    · have hne : ¬ (cutL 32 a).getD x [] = [] := hne
      have hf : ((cutL 32 a).take (x + 1)).filter (fun w => decide (w ≠ [])) = ((cutL 32 a).take x).filter (fun w => decide (w ≠ [])) ++ [(cutL 32 a).getD x []] := by
        rw [ht, List.filter_append]
        congr 1
        exact List.filter_cons_of_pos (p := fun w => decide (w ≠ [])) (l := []) (decide_eq_true hne)
      rw [hf]
      exact ⟨by simp, fun i j hi hj => strF_snoc hi hj⟩
    · have he : (cutL 32 a).getD x [] = [] := by simpa [strF, toStr_s] using he
      have hf : ((cutL 32 a).take (x + 1)).filter (fun w => decide (w ≠ [])) = ((cutL 32 a).take x).filter (fun w => decide (w ≠ [])) := by
        rw [ht, List.filter_append, he]
        simp
      rw [hf]
      exact ⟨rfl, fun _ _ _ _ => rfl⟩
  · simp only at hge
    have hx' : x = (cutL 32 a).length := by omega
    subst hx'
    rw [List.take_length]
    exact ⟨rfl, fun _ _ _ _ => rfl⟩
end Go.Sx.Tryd
namespace Go.Sx.Tryd
open Go Go.Sx Go.Proofs
variable {mx : Int}
set_option linter.unusedSimpArgs false
set_option maxRecDepth 20000
set_option maxHeartbeats 4000000
def cutSpec : Spec := {
  α := List UInt8 × UInt8
  args a := [.c (.str a.1), .c (.int .u8 a.2.toNat)]
  ins _ := []
  m := 0
  pre a := a.1.length < 4294967281
  β := Unit
  post _ _ := True
  res _ _ := .r (.c (.osl 0))
  outs a _ := [(0, .row 9 1 (cutL a.2 a.1).length (strF (cutL a.2 a.1)))]
  fresh := 1 }
def cutInv (a : List UInt8 × UInt8) : Nat → Option Inv := fun id => bif id == 4 then some { α := Nat × Nat × List (List UInt8), keep := [0, 1], drop := [], env := fun b x => [(7, .r (.c (.int .i64 x.1))), (6, .r (.c (.int .i64 x.2.1))), (5, .r (.c (.osl b)))], chunks := fun b x => [(b, .row 9 1 x.2.2.length (strF x.2.2))], fresh := 1, pre := fun x => x.1 ≤ a.1.length + 1 ∧ x.2.1 ≤ x.1 ∧ x.2.2.length ≤ x.1 ∧ (x.1 ≤ a.1.length → cutL a.2 a.1 = x.2.2 ++ cutL a.2 (a.1.drop x.2.1) ∧ a.2 ∉ (a.1.take x.1).drop x.2.1) ∧ (a.1.length < x.1 → x.2.2 = cutL a.2 a.1), μ := fun x => a.1.length + 1 - x.1 } else none
theorem cutL_plain (c : UInt8) : ∀ u : List UInt8, c ∉ u → cutL c u = [u]
  | [], _ => rfl
  | b :: u, h => by
    have h1 : b ≠ c := fun e => h (e ▸ List.mem_cons_self ..)
    have h2 := cutL_plain c u (fun e => h (List.mem_cons_of_mem _ e))
    simp only [cutL, if_neg h1, h2]
theorem cutL_at (c : UInt8) (r : List UInt8) : ∀ u : List UInt8, c ∉ u → cutL c (u ++ c :: r) = u :: cutL c r
  | [], _ => by simp [cutL]
  | b :: u, h => by
    have h1 : b ≠ c := fun e => h (e ▸ List.mem_cons_self ..)
    have h2 := cutL_at c r u (fun e => h (List.mem_cons_of_mem _ e))
    simp only [List.cons_append, cutL, if_neg h1, h2]
theorem drop_parts (s : List UInt8) {k f : Nat} (h : f ≤ k) (hk : k ≤ s.length) : s.drop f = (s.take k).drop f ++ s.drop k := by
  have h1 : s = s.take k ++ s.drop k := (List.take_append_drop k s).symm
  have h2 : (s.take k ++ s.drop k).drop f = (s.take k).drop f ++ s.drop k := List.drop_append_of_le_length (by rw [List.length_take]; omega)
  rwa [← h1] at h2
theorem drop_cons (s : List UInt8) {k : Nat} (hk : k < s.length) : s.drop k = s.getD k 0 :: s.drop (k + 1) := by
  rw [List.drop_eq_getElem_cons hk]
  simp [hk]
theorem cut_does : Does Tryd.prog (glS mx) 23 (cutSpec) := by
  refine Does.of (fn := Tryd.f23) Tryd.func23 rfl ttok (spec := lookS []) Known.nil (pc := fun _ => true) PureOk.nil mixed (cutSpec) (fun a id _ => cutInv a id) (fun _ => none) 3000 (rs := [.tmp 4]) rfl (n := 35) rfl (by decide) (by kernel_rfl) ?_
  intro a hp
  refine ⟨by simp only [cutSpec, cutInv, List.length_cons, List.length_nil]; decide, ?_⟩
  simp (config := {maxSteps := 4000000}) only [cutSpec, cutInv, tt_1, tt_2, tt_3, tt_4, tt_5, tt_6, tt_7, tt_8, tt_9, tt_10, tt_11, tt_12, tt_13, tt_14, tt_15, tt_16, tt_17, tt_18, tt_19, tt_20, tt_21, tt_22, tt_23, tt_25, tt_26, tt_27, tt_28, tt_29, tt_30, tt_31, tt_33, tt_34, tt_36, tt_37, tt_38, tt_39, tt_40, tt_41, tt_42, tt_43, tt_44, tt_45, tt_46, tt_47, tt_48, tt_49, tt_50, tt_51, tt_52, tt_53, tt_54, tt_55, tt_56, tt_57, tt_58, tt_59, tt_60, tt_62, tt_63, tt_64, tt_65, tt_66, tt_67, tt_68, tt_69, tt_71, tt_72, tt_73, tt_74, tt_75, tt_76, tt_77, tt_78, tt_79, tt_80, tt_81, tt_82, tt_83, tt_84, tt_86, tt_87, tt_89, tt_91, tt_92, tt_93, tt_94, tt_95, tt_96, tt_97, tt_98, tt_99, tt_100, tt_102, tt_103, tt_104, tt_105, tt_107, tt_109, tt_111, tt_112, tt_113, tt_114, tt_115, tt_116, tt_117, tt_118, tt_120, tt_121, tt_122, tt_124, tt_125, tt_126, tt_127, tt_129, tt_130, tt_132, tt_133, tt_134, tt_135, tt_136, tt_137, tt_138, tt_139, tt_141, tt_143, tt_144, tt_145, tt_146, tt_147, tt_148, tt_149, tt_151, tt_152, tt_153, tt_155, tt_157, tt_158, tt_159, tt_161, tt_162, tt_163, tt_164, tt_165, tt_166, tt_167, tt_168, tt_169, tt_170, tt_171, tt_172, tt_173, tt_174, tt_175, tt_176, tt_177, sxRun, exA, Bool.and_true, Bool.true_and, rowF, mkCx, argsEnv, stepOp, stepOp0, undefd, anyU, opArgs, dstB, gcond, getV, getVs, getPs, evalO, look, lookS, chg, del, constCV, SS.put, SS.putT, catP, catE, allP, bop, cmpI, GC.imp, listAt, exitIt, rid, cutKey, keepEnv, SS.at, delAll, isA, isA0, entP, entEnv, entCh, TV.eqv, RV.eqv, CV.eqv, eqvL, eqvR, Chunk.eqv, Chunk.nil, coll3, collE, collL, collR, collC, TV.coll, RV.coll, CV.coll, apartB, memB, ikEq, finP, resAll, resOne, tupOf, tau, pureOp, loadOp, memOp, funcOf, sliceOf, fillC, fieldOff, repl, nth, setN, setFrom, cellsFrom, len', updR, appR, fits_i, fits_b, fits_s, fits_o, CK.eta, etas, fitss, toInt_i, toBool_b, toStr_s, CV.flat, flats, TI.val, RV.cells, kindsOk, wantB, SS.after, callSig, rnH, CV.rn, rnL, RV.rn, rnR, TV.rn, Chunk.rn, rnC, delIns, SS.frzs, SS.frz, frzOp, oslO, oslC, oslP, oslA, CV.frz, frzL, RV.frz, frzR, TV.frz, frzE, frzC, givE, TV.giv, RV.giv, CV.giv, givL, givR, List.toList_toArray, Nat.reduceBEq, Nat.reduceLT, Nat.reduceLeDiff, decide_true, decide_false, ↓reduceIte, Nat.reduceAdd, Nat.reduceMul, Nat.reduceSub, cond_true, cond_false, condP, cond_or, cond_and, imp_self, true_and, and_true, decide_eq_true_eq, decide_eq_false_iff_not, Bool.and_eq_true, Bool.or_eq_true, Bool.not_eq_true', Bool.not_eq_false', Bool.or_eq_false_iff, Bool.and_eq_false_imp, implies_true, exists_const, exists_prop, wrap_u64, wrap_u8, wrap_i64, tdiv_u64, tmod_u64, Int.toNat_natCast, Int.toNat_zero, Int.reduceToNat, Int.reduceLT, Int.reduceLE, Nat.zero_add, Nat.add_zero, Nat.mul_one, Int.reduceAdd, Int.reduceMod, Int.reduceSub, Int.reduceMul, Int.reduceNeg, Int.cast_ofNat_Int, not_false_eq_true, not_true_eq_false, forall_const, false_implies, Nat.reducePow, Bool.false_eq_true, Bool.true_eq_false, reduceCtorEq]
  obtain ⟨s, c⟩ := a
  have hp : s.length < 4294967281 := hp
  refine ⟨⟨(0, 0, []), ⟨Nat.zero_le _, Nat.le_refl _, Nat.le_refl _, fun _ => ⟨by simp, by simp⟩, fun h => absurd h (Nat.not_lt_zero _)⟩, rfl, rfl, rfl⟩, ?_⟩
  rintro ⟨k, f, done⟩ ⟨h1, h2, h3, h4, h5⟩
  simp only at h1 h2 h3 h4 h5 ⊢
  refine ⟨fun hk => ?_, fun hk => ?_⟩
  · have hk : k ≤ s.length := by omega
    obtain ⟨h6, h7⟩ := h4 hk
    have hd := drop_parts s h2 hk
    refine ⟨fun hne => by omega, fun hc => ⟨by omega, by omega, by omega, (k + 1, k + 1, done ++ [(s.take k).drop f]), ⟨by simp only; omega, Nat.le_refl _, by simp; omega, fun hlt => ?_, fun hgt => ?_⟩, by simp only; omega, by simp only; omega, by simp only; omega, by simp, fun i j hi hj => strF_snoc hi hj⟩,
      fun hc => ⟨(k + 1, f, done), ⟨by simp only; omega, by simp only; omega, by simp only; omega, fun hlt => ?_, fun hgt => ?_⟩, by simp only; omega, by simp only; omega, rfl, rfl, fun _ _ _ _ => rfl⟩⟩
    · simp only at hlt ⊢
      have hlt : k < s.length := by omega
      have he : s.getD k 0 = c := UInt8.toNat_inj.1 (by omega)
      have := drop_cons s hlt
      rw [this, he] at hd
      refine ⟨?_, ?_⟩
      · rw [h6, hd, cutL_at c _ _ h7]
        simp
      · rw [List.drop_eq_nil_of_le (by rw [List.length_take]; omega)]
        simp
    · simp only at hgt ⊢
      have he : k = s.length := by omega
      subst he
      rw [List.drop_length, List.append_nil] at hd
      rw [h6, hd, cutL_plain c _ h7]
    · simp only at hlt ⊢
      have hlt : k < s.length := by omega
      refine ⟨h6, ?_⟩
      rw [take_snoc s hlt, List.drop_append_of_le_length (by rw [List.length_take]; omega), List.mem_append]
      rintro (h8 | h8)
      · exact h7 h8
      · simp only [List.mem_cons, List.not_mem_nil, or_false] at h8
        exact hc.2 (by rw [h8])
    · simp only at hgt
      omega
  · rw [h5 (by omega)]
    exact ⟨rfl, fun _ _ _ _ => rfl⟩
end Go.Sx.Tryd
namespace Go.Sx.Tryd
open Go Go.Sx Go.Proofs
variable {mx : Int}
set_option linter.unusedSimpArgs false
set_option maxRecDepth 20000
set_option maxHeartbeats 4000000
def rwordsInv (a : List UInt8) : Nat → Option Inv := fun id => bif id == 4 then some { α := Nat, keep := [4], drop := [], env := fun b k => [(5, .r (.c (.int .i64 k))), (3, .r (.c (.osl b)))], chunks := fun b k => [(b, .row 9 1 (((cutL 32 a).take k).filter (fun w => w ≠ [])).length (strF (((cutL 32 a).take k).filter (fun w => w ≠ []))))], fresh := 1, pre := fun k => k ≤ (cutL 32 a).length, μ := fun k => (cutL 32 a).length - k } else none
theorem rwords_does : Does Tryd.prog (glS mx) 10 (wordsSpec) := by
  refine Does.of (fn := Tryd.f10) Tryd.func10 rfl ttok (spec := lookS [(23, cutSpec)]) (Known.nil.cons callee23 cut_does) (pc := fun _ => true) (PureOk.nil.cons (s := cutSpec) (k := 23) (fun _ _ => rfl)) mixed (wordsSpec) (fun a id _ => rwordsInv a id) (fun _ => none) 3000 (rs := [.tmp 2]) rfl (n := 28) rfl (by decide) (by kernel_rfl) ?_
  intro a hp
  refine ⟨by simp only [wordsSpec, rwordsInv, cutSpec, List.length_cons, List.length_nil]; decide, ?_⟩
  simp (config := {maxSteps := 4000000}) only [wordsSpec, rwordsInv, cutSpec, tt_1, tt_2, tt_3, tt_4, tt_5, tt_6, tt_7, tt_8, tt_9, tt_10, tt_11, tt_12, tt_13, tt_14, tt_15, tt_16, tt_17, tt_18, tt_19, tt_20, tt_21, tt_22, tt_23, tt_25, tt_26, tt_27, tt_28, tt_29, tt_30, tt_31, tt_33, tt_34, tt_36, tt_37, tt_38, tt_39, tt_40, tt_41, tt_42, tt_43, tt_44, tt_45, tt_46, tt_47, tt_48, tt_49, tt_50, tt_51, tt_52, tt_53, tt_54, tt_55, tt_56, tt_57, tt_58, tt_59, tt_60, tt_62, tt_63, tt_64, tt_65, tt_66, tt_67, tt_68, tt_69, tt_71, tt_72, tt_73, tt_74, tt_75, tt_76, tt_77, tt_78, tt_79, tt_80, tt_81, tt_82, tt_83, tt_84, tt_86, tt_87, tt_89, tt_91, tt_92, tt_93, tt_94, tt_95, tt_96, tt_97, tt_98, tt_99, tt_100, tt_102, tt_103, tt_104, tt_105, tt_107, tt_109, tt_111, tt_112, tt_113, tt_114, tt_115, tt_116, tt_117, tt_118, tt_120, tt_121, tt_122, tt_124, tt_125, tt_126, tt_127, tt_129, tt_130, tt_132, tt_133, tt_134, tt_135, tt_136, tt_137, tt_138, tt_139, tt_141, tt_143, tt_144, tt_145, tt_146, tt_147, tt_148, tt_149, tt_151, tt_152, tt_153, tt_155, tt_157, tt_158, tt_159, tt_161, tt_162, tt_163, tt_164, tt_165, tt_166, tt_167, tt_168, tt_169, tt_170, tt_171, tt_172, tt_173, tt_174, tt_175, tt_176, tt_177, sxRun, exA, Bool.and_true, Bool.true_and, rowF, mkCx, argsEnv, stepOp, stepOp0, undefd, anyU, opArgs, dstB, gcond, getV, getVs, getPs, evalO, look, lookS, chg, del, constCV, SS.put, SS.putT, catP, catE, allP, bop, cmpI, GC.imp, listAt, exitIt, rid, cutKey, keepEnv, SS.at, delAll, isA, isA0, entP, entEnv, entCh, TV.eqv, RV.eqv, CV.eqv, eqvL, eqvR, Chunk.eqv, Chunk.nil, coll3, collE, collL, collR, collC, TV.coll, RV.coll, CV.coll, apartB, memB, ikEq, finP, resAll, resOne, tupOf, tau, pureOp, loadOp, memOp, funcOf, sliceOf, fillC, fieldOff, repl, nth, setN, setFrom, cellsFrom, len', updR, appR, fits_i, fits_b, fits_s, fits_o, CK.eta, etas, fitss, toInt_i, toBool_b, toStr_s, CV.flat, flats, TI.val, RV.cells, kindsOk, wantB, SS.after, callSig, rnH, CV.rn, rnL, RV.rn, rnR, TV.rn, Chunk.rn, rnC, delIns, SS.frzs, SS.frz, frzOp, oslO, oslC, oslP, oslA, CV.frz, frzL, RV.frz, frzR, TV.frz, frzE, frzC, givE, TV.giv, RV.giv, CV.giv, givL, givR, List.toList_toArray, Nat.reduceBEq, Nat.reduceLT, Nat.reduceLeDiff, decide_true, decide_false, ↓reduceIte, Nat.reduceAdd, Nat.reduceMul, Nat.reduceSub, cond_true, cond_false, condP, cond_or, cond_and, imp_self, true_and, and_true, decide_eq_true_eq, decide_eq_false_iff_not, Bool.and_eq_true, Bool.or_eq_true, Bool.not_eq_true', Bool.not_eq_false', Bool.or_eq_false_iff, Bool.and_eq_false_imp, implies_true, exists_const, exists_prop, wrap_u64, wrap_u8, wrap_i64, tdiv_u64, tmod_u64, Int.toNat_natCast, Int.toNat_zero, Int.reduceToNat, Int.reduceLT, Int.reduceLE, Nat.zero_add, Nat.add_zero, Nat.mul_one, Int.reduceAdd, Int.reduceMod, Int.reduceSub, Int.reduceMul, Int.reduceNeg, Int.cast_ofNat_Int, not_false_eq_true, not_true_eq_false, forall_const, false_implies, Nat.reducePow, Bool.false_eq_true, Bool.true_eq_false, reduceCtorEq]
  change List UInt8 at a
  have hp : a.length < 4294967281 := hp
  have hl := cutL_length 32 a
  refine ⟨(a, 32), hp, rfl, rfl, ⟨⟨0, Nat.zero_le _, rfl, by simp⟩, fun x hx => ⟨fun hlt => ?_, fun hge => ?_⟩⟩⟩
  · simp only at hlt
    have hlt : x < (cutL 32 a).length := by omega
    have ht := take_getD (cutL 32 a) [] hlt
    have hfl := List.length_filter_le (fun w => decide (w ≠ [])) ((cutL 32 a).take x)
    rw [List.length_take] at hfl
    refine ⟨⟨by omega, by simp only; omega⟩, hlt, rfl, fun hne => ⟨⟨by omega, by simp only; omega⟩, hlt, rfl, by omega, by omega, x + 1, by omega, by omega, by omega, ?_⟩, fun he => ⟨x + 1, by omega, by omega, by omega, ?_⟩⟩
    · have hne : ¬ (cutL 32 a).getD x [] = [] := fun e => by
        have hne : (0 : Int) < ((cutL 32 a).getD x []).length := hne
        rw [e] at hne
        exact absurd hne (by decide)
      have hf : ((cutL 32 a).take (x + 1)).filter (fun w => decide (w ≠ [])) = ((cutL 32 a).take x).filter (fun w => decide (w ≠ [])) ++ [(cutL 32 a).getD x []] := by
        rw [ht, List.filter_append]
        congr 1
        exact List.filter_cons_of_pos (p := fun w => decide (w ≠ [])) (l := []) (decide_eq_true hne)
      rw [hf]
      exact ⟨by simp, fun i j hi hj => strF_snoc hi hj⟩
    · have he : (cutL 32 a).getD x [] = [] := by
        have he : ¬ (0 : Int) < ((cutL 32 a).getD x []).length := he
        exact List.length_eq_zero_iff.1 (by omega)
      have hf : ((cutL 32 a).take (x + 1)).filter (fun w => decide (w ≠ [])) = ((cutL 32 a).take x).filter (fun w => decide (w ≠ [])) := by
        rw [ht, List.filter_append, he]
        simp
      rw [hf]
      exact ⟨rfl, fun _ _ _ _ => rfl⟩
  · simp only at hge
    have hx' : x = (cutL 32 a).length := by omega
    subst hx'
    rw [List.take_length]
    exact ⟨rfl, fun _ _ _ _ => rfl⟩
end Go.Sx.Tryd
namespace Go.Sx.Tryd
open Go Go.Sx Go.Proofs
variable {mx : Int}
set_option linter.unusedSimpArgs false
set_option maxRecDepth 20000
set_option maxHeartbeats 4000000
def mostN : Int := 1099511627776
def intF (l : List Int) (i _ : Nat) : CV := .int .i64 (l.getD i 0)
def okW (w : List UInt8) : Bool := (numAns w 1099511627776).2
def valW (w : List UInt8) : Int := (numAns w 1099511627776).1
/-- Words as numbers; none: one of them is none. -/
def numsL (l : List (List UInt8)) : List Int := if l.all okW then l.map valW else []
def numsSpec : Spec := {
  α := List (List UInt8)
  args a := [.c (.ro 1 a.length (strF a))]
  ins _ := []
  m := 0
  pre a := a.length < 4294967290
  β := Unit
  post _ _ := True
  res a _ := .tup [.c (.osl 0), .c (.bool (a.all okW))]
  outs a _ := [(0, .row 3 1 (numsL a).length (intF (numsL a)))]
  fresh := 1
  ro := [0] }
def numsInv (a : List (List UInt8)) : Nat → Option Inv := fun id => bif id == 3 then some { α := Nat, keep := [0], drop := [], env := fun b k => [(5, .r (.c (.int .i64 k))), (4, .r (.c (.osl b)))], chunks := fun b k => [(b, .row 3 1 k (intF ((a.take k).map valW)))], fresh := 1, pre := fun k => k ≤ a.length ∧ (a.take k).all okW = true, μ := fun k => a.length - k } else none
theorem intF_snoc {M : List Int} {v : Int} {i j : Nat} (hi : i < M.length + 1) (hj : j < 1) : intF (M ++ [v]) i j = if i < M.length then intF M i j else nth [CV.int .i64 v] j := by
  have hj : j = 0 := by omega
  subst hj
  unfold intF
  split
  · rename_i h
    simp [List.getD_eq_getElem?_getD, List.getElem?_append_left h]
  · rename_i h
    have : i = M.length := by omega
    subst this
    simp [nth]
theorem wrap_small (w : List UInt8) : ((numAns w 1099511627776).1 + 9223372036854775808) % 18446744073709551616 - 9223372036854775808 = valW w := by
  have := numAns_le w 1099511627776 (by decide)
  unfold valW
  omega
theorem nums_does : Does Tryd.prog (glS mx) 38 (numsSpec) := by
  refine Does.of (fn := Tryd.f38) Tryd.func38 rfl ttok (spec := lookS [(8, numSpec)]) (Known.nil.cons callee8 rnum_does) (pc := fun _ => true) (PureOk.nil.cons (s := numSpec) (k := 8) (fun _ _ => rfl)) mixed (numsSpec) (fun a id _ => numsInv a id) (fun _ => none) 3000 (rs := [.tmp 2, .tmp 3]) rfl (n := 30) rfl (by decide) (by kernel_rfl) ?_
  intro a hp
  refine ⟨by simp only [numsSpec, numsInv, numSpec, List.length_cons, List.length_nil]; decide, ?_⟩
  simp (config := {maxSteps := 4000000}) only [numsSpec, numsInv, numSpec, tt_1, tt_2, tt_3, tt_4, tt_5, tt_6, tt_7, tt_8, tt_9, tt_10, tt_11, tt_12, tt_13, tt_14, tt_15, tt_16, tt_17, tt_18, tt_19, tt_20, tt_21, tt_22, tt_23, tt_25, tt_26, tt_27, tt_28, tt_29, tt_30, tt_31, tt_33, tt_34, tt_36, tt_37, tt_38, tt_39, tt_40, tt_41, tt_42, tt_43, tt_44, tt_45, tt_46, tt_47, tt_48, tt_49, tt_50, tt_51, tt_52, tt_53, tt_54, tt_55, tt_56, tt_57, tt_58, tt_59, tt_60, tt_62, tt_63, tt_64, tt_65, tt_66, tt_67, tt_68, tt_69, tt_71, tt_72, tt_73, tt_74, tt_75, tt_76, tt_77, tt_78, tt_79, tt_80, tt_81, tt_82, tt_83, tt_84, tt_86, tt_87, tt_89, tt_91, tt_92, tt_93, tt_94, tt_95, tt_96, tt_97, tt_98, tt_99, tt_100, tt_102, tt_103, tt_104, tt_105, tt_107, tt_109, tt_111, tt_112, tt_113, tt_114, tt_115, tt_116, tt_117, tt_118, tt_120, tt_121, tt_122, tt_124, tt_125, tt_126, tt_127, tt_129, tt_130, tt_132, tt_133, tt_134, tt_135, tt_136, tt_137, tt_138, tt_139, tt_141, tt_143, tt_144, tt_145, tt_146, tt_147, tt_148, tt_149, tt_151, tt_152, tt_153, tt_155, tt_157, tt_158, tt_159, tt_161, tt_162, tt_163, tt_164, tt_165, tt_166, tt_167, tt_168, tt_169, tt_170, tt_171, tt_172, tt_173, tt_174, tt_175, tt_176, tt_177, sxRun, exA, Bool.and_true, Bool.true_and, rowF, mkCx, argsEnv, stepOp, stepOp0, undefd, anyU, opArgs, dstB, gcond, getV, getVs, getPs, evalO, look, lookS, chg, del, constCV, SS.put, SS.putT, catP, catE, allP, bop, cmpI, GC.imp, listAt, exitIt, rid, cutKey, keepEnv, SS.at, delAll, isA, isA0, entP, entEnv, entCh, TV.eqv, RV.eqv, CV.eqv, eqvL, eqvR, Chunk.eqv, Chunk.nil, coll3, collE, collL, collR, collC, TV.coll, RV.coll, CV.coll, apartB, memB, ikEq, finP, resAll, resOne, tupOf, tau, pureOp, loadOp, memOp, funcOf, sliceOf, fillC, fieldOff, repl, nth, setN, setFrom, cellsFrom, len', updR, appR, fits_i, fits_b, fits_s, fits_o, CK.eta, etas, fitss, toInt_i, toBool_b, toStr_s, CV.flat, flats, TI.val, RV.cells, kindsOk, wantB, SS.after, callSig, rnH, CV.rn, rnL, RV.rn, rnR, TV.rn, Chunk.rn, rnC, delIns, SS.frzs, SS.frz, frzOp, oslO, oslC, oslP, oslA, CV.frz, frzL, RV.frz, frzR, TV.frz, frzE, frzC, givE, TV.giv, RV.giv, CV.giv, givL, givR, List.toList_toArray, Nat.reduceBEq, Nat.reduceLT, Nat.reduceLeDiff, decide_true, decide_false, ↓reduceIte, Nat.reduceAdd, Nat.reduceMul, Nat.reduceSub, cond_true, cond_false, condP, cond_or, cond_and, imp_self, true_and, and_true, decide_eq_true_eq, decide_eq_false_iff_not, Bool.and_eq_true, Bool.or_eq_true, Bool.not_eq_true', Bool.not_eq_false', Bool.or_eq_false_iff, Bool.and_eq_false_imp, implies_true, exists_const, exists_prop, wrap_u64, wrap_u8, wrap_i64, tdiv_u64, tmod_u64, Int.toNat_natCast, Int.toNat_zero, Int.reduceToNat, Int.reduceLT, Int.reduceLE, Nat.zero_add, Nat.add_zero, Nat.mul_one, Int.reduceAdd, Int.reduceMod, Int.reduceSub, Int.reduceMul, Int.reduceNeg, Int.cast_ofNat_Int, not_false_eq_true, not_true_eq_false, forall_const, false_implies, Nat.reducePow, Bool.false_eq_true, Bool.true_eq_false, reduceCtorEq]
  change List (List UInt8) at a
  have hp : a.length < 4294967290 := hp
  refine ⟨⟨0, ⟨Nat.zero_le _, rfl⟩, rfl, rfl⟩, fun x hx => ⟨fun hlt => ?_, fun hge => ?_⟩⟩
  · obtain ⟨hx1, hx2⟩ := hx
    have hlt : x < a.length := by omega
    have ht := take_getD a [] hlt
    refine ⟨⟨by omega, by omega⟩, hlt, rfl, (a.getD x [], 1099511627776), ⟨(by decide : (0 : Int) ≤ 1099511627776), (by decide : (1099511627776 : Int) < 18446744073709551616)⟩, rfl, rfl, ⟨fun hno => ?_, fun hok => ⟨by omega, by omega, x + 1, ⟨by omega, ?_⟩, by omega, by omega, rfl, fun i j hi hj => ?_⟩⟩⟩
    · have hno : okW (a.getD x []) = false := hno
      have hall : a.all okW = false := by
        rw [List.all_eq_false]
        exact ⟨a.getD x [], by rw [List.getD_eq_getElem?_getD, List.getElem?_eq_getElem hlt]; exact List.getElem_mem hlt, by rw [hno]; decide⟩
      exact ⟨hall, by unfold numsL; rw [hall]; rfl⟩
    · have hok : okW (a.getD x []) = true := hok
      rw [ht, List.all_append, hx2]
      simp only [List.all_cons, List.all_nil, Bool.and_true, Bool.true_and]
      exact hok
    · rw [ht, List.map_append, List.map_singleton]
      have hl : ((a.take x).map valW).length = x := by rw [List.length_map, List.length_take]; omega
      have := intF_snoc (M := (a.take x).map valW) (v := valW (a.getD x [])) (i := i) (j := j) (by rw [hl]; exact hi) hj
      rw [hl] at this
      rw [this]
      show _ = if i < x then _ else nth [CV.int .i64 (((numAns (a.getD x []) 1099511627776).1 + 9223372036854775808) % 18446744073709551616 - 9223372036854775808)] j
      rw [wrap_small]
  · obtain ⟨hx1, hx2⟩ := hx
    have hx' : x = a.length := by omega
    subst hx'
    rw [List.take_length] at hx2 ⊢
    have hn : numsL a = a.map valW := by unfold numsL; rw [if_pos hx2]
    rw [hn]
    exact ⟨hx2, List.length_map .., fun _ _ _ _ => rfl⟩
end Go.Sx.Tryd
