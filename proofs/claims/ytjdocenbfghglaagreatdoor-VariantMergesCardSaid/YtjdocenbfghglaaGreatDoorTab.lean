/- The types of the translation as a table, written by a program of mine out of the translation's own rows; Lean checks it. -/
import Derived.Test.YtjdocenbfghglaaGreatDoorAw14
import Derived.Test.YtjdocenbfghglaaGreatDoorProg
import Derived.KernelRfl
set_option linter.unusedSimpArgs false
set_option maxRecDepth 100000
namespace Go.Proofs.YtjdocenbfghglaaGreatDoor.AW
open Go
def tab : List (Option TI) := [
  none,
  some ⟨.func, 1, 8, [.nilf]⟩,
  some ⟨.int .i64, 1, 8, [.int .i64]⟩,
  some ⟨.int .i64, 1, 8, [.int .i64]⟩,
  some ⟨.bool, 1, 1, [.bool]⟩,
  some ⟨.int .u8, 1, 1, [.int .u8]⟩,
  some ⟨.int .u8, 1, 1, [.int .u8]⟩,
  some ⟨.struct [(0, 2), (1, 3), (2, 4), (3, 6)], 4, 24, [.int .i64, .int .i64, .bool, .int .u8]⟩,
  some ⟨.struct [(0, 2), (1, 3), (2, 4), (3, 6)], 4, 24, [.int .i64, .int .i64, .bool, .int .u8]⟩,
  some ⟨.str, 1, 16, [.str]⟩,
  some ⟨.str, 1, 16, [.str]⟩,
  some ⟨.str, 1, 16, [.str]⟩,
  some ⟨.int .u64, 1, 8, [.int .u64]⟩,
  some ⟨.struct [(0, 9), (1, 12)], 2, 24, [.str, .int .u64]⟩,
  some ⟨.struct [(0, 9), (1, 12)], 2, 24, [.str, .int .u64]⟩,
  some ⟨.ptr 260, 1, 8, [.nilp]⟩,
  some ⟨.ptr 263, 1, 8, [.nilp]⟩,
  some ⟨.ptr 270, 1, 8, [.nilp]⟩,
  some ⟨.struct [(0, 17)], 1, 8, [.nilp]⟩,
  some ⟨.struct [(0, 17)], 1, 8, [.nilp]⟩,
  some ⟨.iface, 1, 16, [.nili]⟩,
  some ⟨.int .i32, 1, 4, [.int .i32]⟩,
  some ⟨.slice 25, 1, 24, [.nils]⟩,
  some ⟨.slice 9, 1, 24, [.nils]⟩,
  some ⟨.struct [(0, 3), (1, 3), (2, 9), (3, 22), (4, 23)], 5, 80, [.int .i64, .int .i64, .str, .nils, .nils]⟩,
  some ⟨.struct [(0, 3), (1, 3), (2, 9), (3, 22), (4, 23)], 5, 80, [.int .i64, .int .i64, .str, .nils, .nils]⟩,
  some ⟨.slice 64, 1, 24, [.nils]⟩,
  some ⟨.int .i64, 1, 8, [.int .i64]⟩,
  none,
  some ⟨.func, 1, 8, [.nilf]⟩,
  some ⟨.func, 1, 8, [.nilf]⟩,
  some ⟨.func, 1, 8, [.nilf]⟩,
  some ⟨.func, 1, 8, [.nilf]⟩,
  some ⟨.func, 1, 8, [.nilf]⟩,
  some ⟨.slice 44, 1, 24, [.nils]⟩,
  none,
  some ⟨.func, 1, 8, [.nilf]⟩,
  some ⟨.func, 1, 8, [.nilf]⟩,
  some ⟨.func, 1, 8, [.nilf]⟩,
  some ⟨.func, 1, 8, [.nilf]⟩,
  some ⟨.func, 1, 8, [.nilf]⟩,
  none,
  some ⟨.func, 1, 8, [.nilf]⟩,
  some ⟨.struct [(0, 26), (1, 25)], 6, 104, [.nils, .int .i64, .int .i64, .str, .nils, .nils]⟩,
  some ⟨.struct [(0, 26), (1, 25)], 6, 104, [.nils, .int .i64, .int .i64, .str, .nils, .nils]⟩,
  some ⟨.func, 1, 8, [.nilf]⟩,
  some ⟨.func, 1, 8, [.nilf]⟩,
  none,
  some ⟨.func, 1, 8, [.nilf]⟩,
  none,
  some ⟨.func, 1, 8, [.nilf]⟩,
  none,
  some ⟨.func, 1, 8, [.nilf]⟩,
  some ⟨.func, 1, 8, [.nilf]⟩,
  some ⟨.func, 1, 8, [.nilf]⟩,
  some ⟨.func, 1, 8, [.nilf]⟩,
  some ⟨.func, 1, 8, [.nilf]⟩,
  some ⟨.func, 1, 8, [.nilf]⟩,
  none,
  some ⟨.func, 1, 8, [.nilf]⟩,
  some ⟨.func, 1, 8, [.nilf]⟩,
  some ⟨.func, 1, 8, [.nilf]⟩,
  some ⟨.func, 1, 8, [.nilf]⟩,
  some ⟨.struct [(0, 3), (1, 9)], 2, 24, [.int .i64, .str]⟩,
  some ⟨.struct [(0, 3), (1, 9)], 2, 24, [.int .i64, .str]⟩,
  some ⟨.func, 1, 8, [.nilf]⟩,
  some ⟨.func, 1, 8, [.nilf]⟩,
  some ⟨.func, 1, 8, [.nilf]⟩,
  some ⟨.func, 1, 8, [.nilf]⟩,
  some ⟨.func, 1, 8, [.nilf]⟩,
  some ⟨.func, 1, 8, [.nilf]⟩,
  some ⟨.func, 1, 8, [.nilf]⟩,
  some ⟨.func, 1, 8, [.nilf]⟩,
  some ⟨.func, 1, 8, [.nilf]⟩,
  some ⟨.func, 1, 8, [.nilf]⟩,
  some ⟨.func, 1, 8, [.nilf]⟩,
  some ⟨.func, 1, 8, [.nilf]⟩,
  some ⟨.func, 1, 8, [.nilf]⟩,
  some ⟨.func, 1, 8, [.nilf]⟩,
  some ⟨.func, 1, 8, [.nilf]⟩,
  some ⟨.func, 1, 8, [.nilf]⟩,
  some ⟨.func, 1, 8, [.nilf]⟩,
  some ⟨.func, 1, 8, [.nilf]⟩,
  some ⟨.func, 1, 8, [.nilf]⟩,
  some ⟨.func, 1, 8, [.nilf]⟩,
  none,
  some ⟨.func, 1, 8, [.nilf]⟩,
  some ⟨.func, 1, 8, [.nilf]⟩,
  some ⟨.func, 1, 8, [.nilf]⟩,
  none,
  some ⟨.func, 1, 8, [.nilf]⟩,
  some ⟨.func, 1, 8, [.nilf]⟩,
  some ⟨.func, 1, 8, [.nilf]⟩,
  some ⟨.func, 1, 8, [.nilf]⟩,
  some ⟨.func, 1, 8, [.nilf]⟩,
  some ⟨.ptr 3, 1, 8, [.nilp]⟩,
  none,
  some ⟨.func, 1, 8, [.nilf]⟩,
  some ⟨.func, 1, 8, [.nilf]⟩,
  some ⟨.func, 1, 8, [.nilf]⟩,
  some ⟨.func, 1, 8, [.nilf]⟩,
  some ⟨.func, 1, 8, [.nilf]⟩,
  some ⟨.func, 1, 8, [.nilf]⟩,
  some ⟨.func, 1, 8, [.nilf]⟩,
  some ⟨.func, 1, 8, [.nilf]⟩,
  some ⟨.func, 1, 8, [.nilf]⟩,
  some ⟨.func, 1, 8, [.nilf]⟩,
  some ⟨.func, 1, 8, [.nilf]⟩,
  some ⟨.func, 1, 8, [.nilf]⟩,
  some ⟨.func, 1, 8, [.nilf]⟩,
  some ⟨.func, 1, 8, [.nilf]⟩,
  some ⟨.func, 1, 8, [.nilf]⟩,
  some ⟨.func, 1, 8, [.nilf]⟩,
  some ⟨.func, 1, 8, [.nilf]⟩,
  some ⟨.func, 1, 8, [.nilf]⟩,
  some ⟨.func, 1, 8, [.nilf]⟩,
  some ⟨.func, 1, 8, [.nilf]⟩,
  some ⟨.func, 1, 8, [.nilf]⟩,
  some ⟨.func, 1, 8, [.nilf]⟩,
  some ⟨.func, 1, 8, [.nilf]⟩,
  some ⟨.func, 1, 8, [.nilf]⟩,
  some ⟨.func, 1, 8, [.nilf]⟩,
  some ⟨.func, 1, 8, [.nilf]⟩,
  some ⟨.func, 1, 8, [.nilf]⟩,
  some ⟨.func, 1, 8, [.nilf]⟩,
  some ⟨.struct [], 0, 0, []⟩,
  some ⟨.struct [], 0, 0, []⟩,
  some ⟨.ptr 129, 1, 8, [.nilp]⟩,
  some ⟨.struct [(0, 9), (1, 3)], 2, 24, [.str, .int .i64]⟩,
  some ⟨.struct [(0, 9), (1, 3)], 2, 24, [.str, .int .i64]⟩,
  some ⟨.func, 1, 8, [.nilf]⟩,
  none,
  some ⟨.func, 1, 8, [.nilf]⟩,
  some ⟨.func, 1, 8, [.nilf]⟩,
  some ⟨.func, 1, 8, [.nilf]⟩,
  some ⟨.func, 1, 8, [.nilf]⟩,
  some ⟨.func, 1, 8, [.nilf]⟩,
  some ⟨.func, 1, 8, [.nilf]⟩,
  some ⟨.func, 1, 8, [.nilf]⟩,
  some ⟨.func, 1, 8, [.nilf]⟩,
  some ⟨.slice 23, 1, 24, [.nils]⟩,
  some ⟨.func, 1, 8, [.nilf]⟩,
  some ⟨.func, 1, 8, [.nilf]⟩,
  some ⟨.func, 1, 8, [.nilf]⟩,
  some ⟨.int .u64, 1, 8, [.int .u64]⟩,
  some ⟨.func, 1, 8, [.nilf]⟩,
  some ⟨.slice 3, 1, 24, [.nils]⟩,
  some ⟨.func, 1, 8, [.nilf]⟩,
  some ⟨.slice 5, 1, 24, [.nils]⟩,
  some ⟨.func, 1, 8, [.nilf]⟩,
  some ⟨.func, 1, 8, [.nilf]⟩,
  none,
  none,
  none,
  some ⟨.func, 1, 8, [.nilf]⟩,
  some ⟨.func, 1, 8, [.nilf]⟩,
  some ⟨.ptr 152, 1, 8, [.nilp]⟩,
  some ⟨.func, 1, 8, [.nilf]⟩,
  some ⟨.func, 1, 8, [.nilf]⟩,
  some ⟨.func, 1, 8, [.nilf]⟩,
  some ⟨.func, 1, 8, [.nilf]⟩,
  some ⟨.func, 1, 8, [.nilf]⟩,
  some ⟨.func, 1, 8, [.nilf]⟩,
  some ⟨.func, 1, 8, [.nilf]⟩,
  none,
  some ⟨.func, 1, 8, [.nilf]⟩,
  some ⟨.ptr 168, 1, 8, [.nilp]⟩,
  some ⟨.struct [(0, 9), (1, 3), (2, 4), (3, 4)], 4, 32, [.str, .int .i64, .bool, .bool]⟩,
  some ⟨.struct [(0, 9), (1, 3), (2, 4), (3, 4)], 4, 32, [.str, .int .i64, .bool, .bool]⟩,
  some ⟨.func, 1, 8, [.nilf]⟩,
  some ⟨.func, 1, 8, [.nilf]⟩,
  some ⟨.func, 1, 8, [.nilf]⟩,
  some ⟨.func, 1, 8, [.nilf]⟩,
  some ⟨.func, 1, 8, [.nilf]⟩,
  some ⟨.int .i64, 1, 8, [.int .i64]⟩,
  none,
  some ⟨.func, 1, 8, [.nilf]⟩,
  some ⟨.func, 1, 8, [.nilf]⟩,
  some ⟨.func, 1, 8, [.nilf]⟩,
  some ⟨.func, 1, 8, [.nilf]⟩,
  some ⟨.func, 1, 8, [.nilf]⟩,
  some ⟨.int .u32, 1, 4, [.int .u32]⟩,
  some ⟨.func, 1, 8, [.nilf]⟩,
  some ⟨.int .u64, 1, 8, [.int .u64]⟩,
  some ⟨.func, 1, 8, [.nilf]⟩,
  some ⟨.func, 1, 8, [.nilf]⟩,
  some ⟨.func, 1, 8, [.nilf]⟩,
  none,
  some ⟨.func, 1, 8, [.nilf]⟩,
  some ⟨.func, 1, 8, [.nilf]⟩,
  some ⟨.ptr 192, 1, 8, [.nilp]⟩,
  some ⟨.struct [(0, 190), (1, 148)], 2, 32, [.nilp, .nils]⟩,
  some ⟨.struct [(0, 190), (1, 148)], 2, 32, [.nilp, .nils]⟩,
  some ⟨.iface, 1, 16, [.nili]⟩,
  some ⟨.iface, 1, 16, [.nili]⟩,
  some ⟨.func, 1, 8, [.nilf]⟩,
  none,
  some ⟨.func, 1, 8, [.nilf]⟩,
  some ⟨.func, 1, 8, [.nilf]⟩,
  some ⟨.func, 1, 8, [.nilf]⟩,
  some ⟨.func, 1, 8, [.nilf]⟩,
  some ⟨.func, 1, 8, [.nilf]⟩,
  some ⟨.func, 1, 8, [.nilf]⟩,
  some ⟨.int .u64, 1, 8, [.int .u64]⟩,
  some ⟨.func, 1, 8, [.nilf]⟩,
  some ⟨.func, 1, 8, [.nilf]⟩,
  some ⟨.func, 1, 8, [.nilf]⟩,
  some ⟨.func, 1, 8, [.nilf]⟩,
  some ⟨.arr 24 5, 24, 24, [.int .u8, .int .u8, .int .u8, .int .u8, .int .u8, .int .u8, .int .u8, .int .u8, .int .u8, .int .u8, .int .u8, .int .u8, .int .u8, .int .u8, .int .u8, .int .u8, .int .u8, .int .u8, .int .u8, .int .u8, .int .u8, .int .u8, .int .u8, .int .u8]⟩,
  some ⟨.func, 1, 8, [.nilf]⟩,
  none,
  some ⟨.func, 1, 8, [.nilf]⟩,
  some ⟨.func, 1, 8, [.nilf]⟩,
  some ⟨.func, 1, 8, [.nilf]⟩,
  some ⟨.ptr 5, 1, 8, [.nilp]⟩,
  some ⟨.func, 1, 8, [.nilf]⟩,
  some ⟨.func, 1, 8, [.nilf]⟩,
  some ⟨.func, 1, 8, [.nilf]⟩,
  some ⟨.func, 1, 8, [.nilf]⟩,
  some ⟨.func, 1, 8, [.nilf]⟩,
  some ⟨.func, 1, 8, [.nilf]⟩,
  some ⟨.func, 1, 8, [.nilf]⟩,
  some ⟨.func, 1, 8, [.nilf]⟩,
  some ⟨.ptr 203, 1, 8, [.nilp]⟩,
  none,
  some ⟨.func, 1, 8, [.nilf]⟩,
  some ⟨.func, 1, 8, [.nilf]⟩,
  some ⟨.func, 1, 8, [.nilf]⟩,
  some ⟨.arr 20 183, 20, 160, [.int .u64, .int .u64, .int .u64, .int .u64, .int .u64, .int .u64, .int .u64, .int .u64, .int .u64, .int .u64, .int .u64, .int .u64, .int .u64, .int .u64, .int .u64, .int .u64, .int .u64, .int .u64, .int .u64, .int .u64]⟩,
  none,
  none,
  some ⟨.struct [(0, 5), (1, 5)], 2, 2, [.int .u8, .int .u8]⟩,
  some ⟨.struct [(0, 5), (1, 5)], 2, 2, [.int .u8, .int .u8]⟩,
  some ⟨.arr 16 232, 32, 32, [.int .u8, .int .u8, .int .u8, .int .u8, .int .u8, .int .u8, .int .u8, .int .u8, .int .u8, .int .u8, .int .u8, .int .u8, .int .u8, .int .u8, .int .u8, .int .u8, .int .u8, .int .u8, .int .u8, .int .u8, .int .u8, .int .u8, .int .u8, .int .u8, .int .u8, .int .u8, .int .u8, .int .u8, .int .u8, .int .u8, .int .u8, .int .u8]⟩,
  none,
  some ⟨.func, 1, 8, [.nilf]⟩,
  some ⟨.int .i64, 1, 8, [.int .i64]⟩,
  none,
  some ⟨.func, 1, 8, [.nilf]⟩,
  some ⟨.ptr 248, 1, 8, [.nilp]⟩,
  some ⟨.func, 1, 8, [.nilf]⟩,
  some ⟨.func, 1, 8, [.nilf]⟩,
  some ⟨.func, 1, 8, [.nilf]⟩,
  some ⟨.func, 1, 8, [.nilf]⟩,
  some ⟨.func, 1, 8, [.nilf]⟩,
  none,
  some ⟨.func, 1, 8, [.nilf]⟩,
  some ⟨.struct [(0, 9), (1, 9), (2, 194)], 3, 48, [.str, .str, .nili]⟩,
  some ⟨.struct [(0, 9), (1, 9), (2, 194)], 3, 48, [.str, .str, .nili]⟩,
  some ⟨.func, 1, 8, [.nilf]⟩,
  some ⟨.func, 1, 8, [.nilf]⟩,
  some ⟨.arr 32 5, 32, 32, [.int .u8, .int .u8, .int .u8, .int .u8, .int .u8, .int .u8, .int .u8, .int .u8, .int .u8, .int .u8, .int .u8, .int .u8, .int .u8, .int .u8, .int .u8, .int .u8, .int .u8, .int .u8, .int .u8, .int .u8, .int .u8, .int .u8, .int .u8, .int .u8, .int .u8, .int .u8, .int .u8, .int .u8, .int .u8, .int .u8, .int .u8, .int .u8]⟩,
  some ⟨.arr 64 5, 64, 64, [.int .u8, .int .u8, .int .u8, .int .u8, .int .u8, .int .u8, .int .u8, .int .u8, .int .u8, .int .u8, .int .u8, .int .u8, .int .u8, .int .u8, .int .u8, .int .u8, .int .u8, .int .u8, .int .u8, .int .u8, .int .u8, .int .u8, .int .u8, .int .u8, .int .u8, .int .u8, .int .u8, .int .u8, .int .u8, .int .u8, .int .u8, .int .u8, .int .u8, .int .u8, .int .u8, .int .u8, .int .u8, .int .u8, .int .u8, .int .u8, .int .u8, .int .u8, .int .u8, .int .u8, .int .u8, .int .u8, .int .u8, .int .u8, .int .u8, .int .u8, .int .u8, .int .u8, .int .u8, .int .u8, .int .u8, .int .u8, .int .u8, .int .u8, .int .u8, .int .u8, .int .u8, .int .u8, .int .u8, .int .u8]⟩,
  none,
  some ⟨.func, 1, 8, [.nilf]⟩,
  some ⟨.func, 1, 8, [.nilf]⟩,
  some ⟨.ptr 258, 1, 8, [.nilp]⟩,
  some ⟨.struct [(0, 9)], 1, 16, [.str]⟩,
  some ⟨.struct [(0, 9)], 1, 16, [.str]⟩,
  some ⟨.struct [(0, 17), (1, 17), (2, 17), (3, 9)], 4, 40, [.nilp, .nilp, .nilp, .str]⟩,
  some ⟨.struct [(0, 17), (1, 17), (2, 17), (3, 9)], 4, 40, [.nilp, .nilp, .nilp, .str]⟩,
  some ⟨.arr 0 16, 0, 0, []⟩,
  some ⟨.struct [(0, 261)], 0, 0, []⟩,
  some ⟨.struct [(0, 261)], 0, 0, []⟩,
  some ⟨.int .u8, 1, 1, [.int .u8]⟩,
  some ⟨.int .u8, 1, 1, [.int .u8]⟩,
  some ⟨.func, 1, 8, [.nilf]⟩,
  some ⟨.int .i32, 1, 4, [.int .i32]⟩,
  some ⟨.int .i32, 1, 4, [.int .i32]⟩,
  some ⟨.struct [(0, 12), (1, 12), (2, 181), (3, 264), (4, 5), (5, 5), (6, 265), (7, 266), (8, 214), (9, 267), (10, 268)], 11, 48, [.int .u64, .int .u64, .int .u32, .int .u8, .int .u8, .int .u8, .int .u8, .nilf, .nilp, .int .i32, .int .i32]⟩,
  some ⟨.struct [(0, 12), (1, 12), (2, 181), (3, 264), (4, 5), (5, 5), (6, 265), (7, 266), (8, 214), (9, 267), (10, 268)], 11, 48, [.int .u64, .int .u64, .int .u32, .int .u8, .int .u8, .int .u8, .int .u8, .nilf, .nilp, .int .i32, .int .i32]⟩]
def te : TE := fun t => (tab[t]?).join
theorem te_1 : te 1 = some ⟨.func, 1, 8, [.nilf]⟩ := rfl
theorem te_2 : te 2 = some ⟨.int .i64, 1, 8, [.int .i64]⟩ := rfl
theorem te_3 : te 3 = some ⟨.int .i64, 1, 8, [.int .i64]⟩ := rfl
theorem te_4 : te 4 = some ⟨.bool, 1, 1, [.bool]⟩ := rfl
theorem te_5 : te 5 = some ⟨.int .u8, 1, 1, [.int .u8]⟩ := rfl
theorem te_6 : te 6 = some ⟨.int .u8, 1, 1, [.int .u8]⟩ := rfl
theorem te_7 : te 7 = some ⟨.struct [(0, 2), (1, 3), (2, 4), (3, 6)], 4, 24, [.int .i64, .int .i64, .bool, .int .u8]⟩ := rfl
theorem te_8 : te 8 = some ⟨.struct [(0, 2), (1, 3), (2, 4), (3, 6)], 4, 24, [.int .i64, .int .i64, .bool, .int .u8]⟩ := rfl
theorem te_9 : te 9 = some ⟨.str, 1, 16, [.str]⟩ := rfl
theorem te_10 : te 10 = some ⟨.str, 1, 16, [.str]⟩ := rfl
theorem te_11 : te 11 = some ⟨.str, 1, 16, [.str]⟩ := rfl
theorem te_12 : te 12 = some ⟨.int .u64, 1, 8, [.int .u64]⟩ := rfl
theorem te_13 : te 13 = some ⟨.struct [(0, 9), (1, 12)], 2, 24, [.str, .int .u64]⟩ := rfl
theorem te_14 : te 14 = some ⟨.struct [(0, 9), (1, 12)], 2, 24, [.str, .int .u64]⟩ := rfl
theorem te_15 : te 15 = some ⟨.ptr 260, 1, 8, [.nilp]⟩ := rfl
theorem te_16 : te 16 = some ⟨.ptr 263, 1, 8, [.nilp]⟩ := rfl
theorem te_17 : te 17 = some ⟨.ptr 270, 1, 8, [.nilp]⟩ := rfl
theorem te_18 : te 18 = some ⟨.struct [(0, 17)], 1, 8, [.nilp]⟩ := rfl
theorem te_19 : te 19 = some ⟨.struct [(0, 17)], 1, 8, [.nilp]⟩ := rfl
theorem te_20 : te 20 = some ⟨.iface, 1, 16, [.nili]⟩ := rfl
theorem te_21 : te 21 = some ⟨.int .i32, 1, 4, [.int .i32]⟩ := rfl
theorem te_22 : te 22 = some ⟨.slice 25, 1, 24, [.nils]⟩ := rfl
theorem te_23 : te 23 = some ⟨.slice 9, 1, 24, [.nils]⟩ := rfl
theorem te_24 : te 24 = some ⟨.struct [(0, 3), (1, 3), (2, 9), (3, 22), (4, 23)], 5, 80, [.int .i64, .int .i64, .str, .nils, .nils]⟩ := rfl
theorem te_25 : te 25 = some ⟨.struct [(0, 3), (1, 3), (2, 9), (3, 22), (4, 23)], 5, 80, [.int .i64, .int .i64, .str, .nils, .nils]⟩ := rfl
theorem te_26 : te 26 = some ⟨.slice 64, 1, 24, [.nils]⟩ := rfl
theorem te_27 : te 27 = some ⟨.int .i64, 1, 8, [.int .i64]⟩ := rfl
theorem te_29 : te 29 = some ⟨.func, 1, 8, [.nilf]⟩ := rfl
theorem te_30 : te 30 = some ⟨.func, 1, 8, [.nilf]⟩ := rfl
theorem te_31 : te 31 = some ⟨.func, 1, 8, [.nilf]⟩ := rfl
theorem te_32 : te 32 = some ⟨.func, 1, 8, [.nilf]⟩ := rfl
theorem te_33 : te 33 = some ⟨.func, 1, 8, [.nilf]⟩ := rfl
theorem te_34 : te 34 = some ⟨.slice 44, 1, 24, [.nils]⟩ := rfl
theorem te_36 : te 36 = some ⟨.func, 1, 8, [.nilf]⟩ := rfl
theorem te_37 : te 37 = some ⟨.func, 1, 8, [.nilf]⟩ := rfl
theorem te_38 : te 38 = some ⟨.func, 1, 8, [.nilf]⟩ := rfl
theorem te_39 : te 39 = some ⟨.func, 1, 8, [.nilf]⟩ := rfl
theorem te_40 : te 40 = some ⟨.func, 1, 8, [.nilf]⟩ := rfl
theorem te_42 : te 42 = some ⟨.func, 1, 8, [.nilf]⟩ := rfl
theorem te_43 : te 43 = some ⟨.struct [(0, 26), (1, 25)], 6, 104, [.nils, .int .i64, .int .i64, .str, .nils, .nils]⟩ := rfl
theorem te_44 : te 44 = some ⟨.struct [(0, 26), (1, 25)], 6, 104, [.nils, .int .i64, .int .i64, .str, .nils, .nils]⟩ := rfl
theorem te_45 : te 45 = some ⟨.func, 1, 8, [.nilf]⟩ := rfl
theorem te_46 : te 46 = some ⟨.func, 1, 8, [.nilf]⟩ := rfl
theorem te_48 : te 48 = some ⟨.func, 1, 8, [.nilf]⟩ := rfl
theorem te_50 : te 50 = some ⟨.func, 1, 8, [.nilf]⟩ := rfl
theorem te_52 : te 52 = some ⟨.func, 1, 8, [.nilf]⟩ := rfl
theorem te_53 : te 53 = some ⟨.func, 1, 8, [.nilf]⟩ := rfl
theorem te_54 : te 54 = some ⟨.func, 1, 8, [.nilf]⟩ := rfl
theorem te_55 : te 55 = some ⟨.func, 1, 8, [.nilf]⟩ := rfl
theorem te_56 : te 56 = some ⟨.func, 1, 8, [.nilf]⟩ := rfl
theorem te_57 : te 57 = some ⟨.func, 1, 8, [.nilf]⟩ := rfl
theorem te_59 : te 59 = some ⟨.func, 1, 8, [.nilf]⟩ := rfl
theorem te_60 : te 60 = some ⟨.func, 1, 8, [.nilf]⟩ := rfl
theorem te_61 : te 61 = some ⟨.func, 1, 8, [.nilf]⟩ := rfl
theorem te_62 : te 62 = some ⟨.func, 1, 8, [.nilf]⟩ := rfl
theorem te_63 : te 63 = some ⟨.struct [(0, 3), (1, 9)], 2, 24, [.int .i64, .str]⟩ := rfl
theorem te_64 : te 64 = some ⟨.struct [(0, 3), (1, 9)], 2, 24, [.int .i64, .str]⟩ := rfl
theorem te_65 : te 65 = some ⟨.func, 1, 8, [.nilf]⟩ := rfl
theorem te_66 : te 66 = some ⟨.func, 1, 8, [.nilf]⟩ := rfl
theorem te_67 : te 67 = some ⟨.func, 1, 8, [.nilf]⟩ := rfl
theorem te_68 : te 68 = some ⟨.func, 1, 8, [.nilf]⟩ := rfl
theorem te_69 : te 69 = some ⟨.func, 1, 8, [.nilf]⟩ := rfl
theorem te_70 : te 70 = some ⟨.func, 1, 8, [.nilf]⟩ := rfl
theorem te_71 : te 71 = some ⟨.func, 1, 8, [.nilf]⟩ := rfl
theorem te_72 : te 72 = some ⟨.func, 1, 8, [.nilf]⟩ := rfl
theorem te_73 : te 73 = some ⟨.func, 1, 8, [.nilf]⟩ := rfl
theorem te_74 : te 74 = some ⟨.func, 1, 8, [.nilf]⟩ := rfl
theorem te_75 : te 75 = some ⟨.func, 1, 8, [.nilf]⟩ := rfl
theorem te_76 : te 76 = some ⟨.func, 1, 8, [.nilf]⟩ := rfl
theorem te_77 : te 77 = some ⟨.func, 1, 8, [.nilf]⟩ := rfl
theorem te_78 : te 78 = some ⟨.func, 1, 8, [.nilf]⟩ := rfl
theorem te_79 : te 79 = some ⟨.func, 1, 8, [.nilf]⟩ := rfl
theorem te_80 : te 80 = some ⟨.func, 1, 8, [.nilf]⟩ := rfl
theorem te_81 : te 81 = some ⟨.func, 1, 8, [.nilf]⟩ := rfl
theorem te_82 : te 82 = some ⟨.func, 1, 8, [.nilf]⟩ := rfl
theorem te_83 : te 83 = some ⟨.func, 1, 8, [.nilf]⟩ := rfl
theorem te_84 : te 84 = some ⟨.func, 1, 8, [.nilf]⟩ := rfl
theorem te_86 : te 86 = some ⟨.func, 1, 8, [.nilf]⟩ := rfl
theorem te_87 : te 87 = some ⟨.func, 1, 8, [.nilf]⟩ := rfl
theorem te_88 : te 88 = some ⟨.func, 1, 8, [.nilf]⟩ := rfl
theorem te_90 : te 90 = some ⟨.func, 1, 8, [.nilf]⟩ := rfl
theorem te_91 : te 91 = some ⟨.func, 1, 8, [.nilf]⟩ := rfl
theorem te_92 : te 92 = some ⟨.func, 1, 8, [.nilf]⟩ := rfl
theorem te_93 : te 93 = some ⟨.func, 1, 8, [.nilf]⟩ := rfl
theorem te_94 : te 94 = some ⟨.func, 1, 8, [.nilf]⟩ := rfl
theorem te_95 : te 95 = some ⟨.ptr 3, 1, 8, [.nilp]⟩ := rfl
theorem te_97 : te 97 = some ⟨.func, 1, 8, [.nilf]⟩ := rfl
theorem te_98 : te 98 = some ⟨.func, 1, 8, [.nilf]⟩ := rfl
theorem te_99 : te 99 = some ⟨.func, 1, 8, [.nilf]⟩ := rfl
theorem te_100 : te 100 = some ⟨.func, 1, 8, [.nilf]⟩ := rfl
theorem te_101 : te 101 = some ⟨.func, 1, 8, [.nilf]⟩ := rfl
theorem te_102 : te 102 = some ⟨.func, 1, 8, [.nilf]⟩ := rfl
theorem te_103 : te 103 = some ⟨.func, 1, 8, [.nilf]⟩ := rfl
theorem te_104 : te 104 = some ⟨.func, 1, 8, [.nilf]⟩ := rfl
theorem te_105 : te 105 = some ⟨.func, 1, 8, [.nilf]⟩ := rfl
theorem te_106 : te 106 = some ⟨.func, 1, 8, [.nilf]⟩ := rfl
theorem te_107 : te 107 = some ⟨.func, 1, 8, [.nilf]⟩ := rfl
theorem te_108 : te 108 = some ⟨.func, 1, 8, [.nilf]⟩ := rfl
theorem te_109 : te 109 = some ⟨.func, 1, 8, [.nilf]⟩ := rfl
theorem te_110 : te 110 = some ⟨.func, 1, 8, [.nilf]⟩ := rfl
theorem te_111 : te 111 = some ⟨.func, 1, 8, [.nilf]⟩ := rfl
theorem te_112 : te 112 = some ⟨.func, 1, 8, [.nilf]⟩ := rfl
theorem te_113 : te 113 = some ⟨.func, 1, 8, [.nilf]⟩ := rfl
theorem te_114 : te 114 = some ⟨.func, 1, 8, [.nilf]⟩ := rfl
theorem te_115 : te 115 = some ⟨.func, 1, 8, [.nilf]⟩ := rfl
theorem te_116 : te 116 = some ⟨.func, 1, 8, [.nilf]⟩ := rfl
theorem te_117 : te 117 = some ⟨.func, 1, 8, [.nilf]⟩ := rfl
theorem te_118 : te 118 = some ⟨.func, 1, 8, [.nilf]⟩ := rfl
theorem te_119 : te 119 = some ⟨.func, 1, 8, [.nilf]⟩ := rfl
theorem te_120 : te 120 = some ⟨.func, 1, 8, [.nilf]⟩ := rfl
theorem te_121 : te 121 = some ⟨.func, 1, 8, [.nilf]⟩ := rfl
theorem te_122 : te 122 = some ⟨.func, 1, 8, [.nilf]⟩ := rfl
theorem te_123 : te 123 = some ⟨.func, 1, 8, [.nilf]⟩ := rfl
theorem te_124 : te 124 = some ⟨.func, 1, 8, [.nilf]⟩ := rfl
theorem te_125 : te 125 = some ⟨.struct [], 0, 0, []⟩ := rfl
theorem te_126 : te 126 = some ⟨.struct [], 0, 0, []⟩ := rfl
theorem te_127 : te 127 = some ⟨.ptr 129, 1, 8, [.nilp]⟩ := rfl
theorem te_128 : te 128 = some ⟨.struct [(0, 9), (1, 3)], 2, 24, [.str, .int .i64]⟩ := rfl
theorem te_129 : te 129 = some ⟨.struct [(0, 9), (1, 3)], 2, 24, [.str, .int .i64]⟩ := rfl
theorem te_130 : te 130 = some ⟨.func, 1, 8, [.nilf]⟩ := rfl
theorem te_132 : te 132 = some ⟨.func, 1, 8, [.nilf]⟩ := rfl
theorem te_133 : te 133 = some ⟨.func, 1, 8, [.nilf]⟩ := rfl
theorem te_134 : te 134 = some ⟨.func, 1, 8, [.nilf]⟩ := rfl
theorem te_135 : te 135 = some ⟨.func, 1, 8, [.nilf]⟩ := rfl
theorem te_136 : te 136 = some ⟨.func, 1, 8, [.nilf]⟩ := rfl
theorem te_137 : te 137 = some ⟨.func, 1, 8, [.nilf]⟩ := rfl
theorem te_138 : te 138 = some ⟨.func, 1, 8, [.nilf]⟩ := rfl
theorem te_139 : te 139 = some ⟨.func, 1, 8, [.nilf]⟩ := rfl
theorem te_140 : te 140 = some ⟨.slice 23, 1, 24, [.nils]⟩ := rfl
theorem te_141 : te 141 = some ⟨.func, 1, 8, [.nilf]⟩ := rfl
theorem te_142 : te 142 = some ⟨.func, 1, 8, [.nilf]⟩ := rfl
theorem te_143 : te 143 = some ⟨.func, 1, 8, [.nilf]⟩ := rfl
theorem te_144 : te 144 = some ⟨.int .u64, 1, 8, [.int .u64]⟩ := rfl
theorem te_145 : te 145 = some ⟨.func, 1, 8, [.nilf]⟩ := rfl
theorem te_146 : te 146 = some ⟨.slice 3, 1, 24, [.nils]⟩ := rfl
theorem te_147 : te 147 = some ⟨.func, 1, 8, [.nilf]⟩ := rfl
theorem te_148 : te 148 = some ⟨.slice 5, 1, 24, [.nils]⟩ := rfl
theorem te_149 : te 149 = some ⟨.func, 1, 8, [.nilf]⟩ := rfl
theorem te_150 : te 150 = some ⟨.func, 1, 8, [.nilf]⟩ := rfl
theorem te_154 : te 154 = some ⟨.func, 1, 8, [.nilf]⟩ := rfl
theorem te_155 : te 155 = some ⟨.func, 1, 8, [.nilf]⟩ := rfl
theorem te_156 : te 156 = some ⟨.ptr 152, 1, 8, [.nilp]⟩ := rfl
theorem te_157 : te 157 = some ⟨.func, 1, 8, [.nilf]⟩ := rfl
theorem te_158 : te 158 = some ⟨.func, 1, 8, [.nilf]⟩ := rfl
theorem te_159 : te 159 = some ⟨.func, 1, 8, [.nilf]⟩ := rfl
theorem te_160 : te 160 = some ⟨.func, 1, 8, [.nilf]⟩ := rfl
theorem te_161 : te 161 = some ⟨.func, 1, 8, [.nilf]⟩ := rfl
theorem te_162 : te 162 = some ⟨.func, 1, 8, [.nilf]⟩ := rfl
theorem te_163 : te 163 = some ⟨.func, 1, 8, [.nilf]⟩ := rfl
theorem te_165 : te 165 = some ⟨.func, 1, 8, [.nilf]⟩ := rfl
theorem te_166 : te 166 = some ⟨.ptr 168, 1, 8, [.nilp]⟩ := rfl
theorem te_167 : te 167 = some ⟨.struct [(0, 9), (1, 3), (2, 4), (3, 4)], 4, 32, [.str, .int .i64, .bool, .bool]⟩ := rfl
theorem te_168 : te 168 = some ⟨.struct [(0, 9), (1, 3), (2, 4), (3, 4)], 4, 32, [.str, .int .i64, .bool, .bool]⟩ := rfl
theorem te_169 : te 169 = some ⟨.func, 1, 8, [.nilf]⟩ := rfl
theorem te_170 : te 170 = some ⟨.func, 1, 8, [.nilf]⟩ := rfl
theorem te_171 : te 171 = some ⟨.func, 1, 8, [.nilf]⟩ := rfl
theorem te_172 : te 172 = some ⟨.func, 1, 8, [.nilf]⟩ := rfl
theorem te_173 : te 173 = some ⟨.func, 1, 8, [.nilf]⟩ := rfl
theorem te_174 : te 174 = some ⟨.int .i64, 1, 8, [.int .i64]⟩ := rfl
theorem te_176 : te 176 = some ⟨.func, 1, 8, [.nilf]⟩ := rfl
theorem te_177 : te 177 = some ⟨.func, 1, 8, [.nilf]⟩ := rfl
theorem te_178 : te 178 = some ⟨.func, 1, 8, [.nilf]⟩ := rfl
theorem te_179 : te 179 = some ⟨.func, 1, 8, [.nilf]⟩ := rfl
theorem te_180 : te 180 = some ⟨.func, 1, 8, [.nilf]⟩ := rfl
theorem te_181 : te 181 = some ⟨.int .u32, 1, 4, [.int .u32]⟩ := rfl
theorem te_182 : te 182 = some ⟨.func, 1, 8, [.nilf]⟩ := rfl
theorem te_183 : te 183 = some ⟨.int .u64, 1, 8, [.int .u64]⟩ := rfl
theorem te_184 : te 184 = some ⟨.func, 1, 8, [.nilf]⟩ := rfl
theorem te_185 : te 185 = some ⟨.func, 1, 8, [.nilf]⟩ := rfl
theorem te_186 : te 186 = some ⟨.func, 1, 8, [.nilf]⟩ := rfl
theorem te_188 : te 188 = some ⟨.func, 1, 8, [.nilf]⟩ := rfl
theorem te_189 : te 189 = some ⟨.func, 1, 8, [.nilf]⟩ := rfl
theorem te_190 : te 190 = some ⟨.ptr 192, 1, 8, [.nilp]⟩ := rfl
theorem te_191 : te 191 = some ⟨.struct [(0, 190), (1, 148)], 2, 32, [.nilp, .nils]⟩ := rfl
theorem te_192 : te 192 = some ⟨.struct [(0, 190), (1, 148)], 2, 32, [.nilp, .nils]⟩ := rfl
theorem te_193 : te 193 = some ⟨.iface, 1, 16, [.nili]⟩ := rfl
theorem te_194 : te 194 = some ⟨.iface, 1, 16, [.nili]⟩ := rfl
theorem te_195 : te 195 = some ⟨.func, 1, 8, [.nilf]⟩ := rfl
theorem te_197 : te 197 = some ⟨.func, 1, 8, [.nilf]⟩ := rfl
theorem te_198 : te 198 = some ⟨.func, 1, 8, [.nilf]⟩ := rfl
theorem te_199 : te 199 = some ⟨.func, 1, 8, [.nilf]⟩ := rfl
theorem te_200 : te 200 = some ⟨.func, 1, 8, [.nilf]⟩ := rfl
theorem te_201 : te 201 = some ⟨.func, 1, 8, [.nilf]⟩ := rfl
theorem te_202 : te 202 = some ⟨.func, 1, 8, [.nilf]⟩ := rfl
theorem te_203 : te 203 = some ⟨.int .u64, 1, 8, [.int .u64]⟩ := rfl
theorem te_204 : te 204 = some ⟨.func, 1, 8, [.nilf]⟩ := rfl
theorem te_205 : te 205 = some ⟨.func, 1, 8, [.nilf]⟩ := rfl
theorem te_206 : te 206 = some ⟨.func, 1, 8, [.nilf]⟩ := rfl
theorem te_207 : te 207 = some ⟨.func, 1, 8, [.nilf]⟩ := rfl
theorem te_208 : te 208 = some ⟨.arr 24 5, 24, 24, [.int .u8, .int .u8, .int .u8, .int .u8, .int .u8, .int .u8, .int .u8, .int .u8, .int .u8, .int .u8, .int .u8, .int .u8, .int .u8, .int .u8, .int .u8, .int .u8, .int .u8, .int .u8, .int .u8, .int .u8, .int .u8, .int .u8, .int .u8, .int .u8]⟩ := rfl
theorem te_209 : te 209 = some ⟨.func, 1, 8, [.nilf]⟩ := rfl
theorem te_211 : te 211 = some ⟨.func, 1, 8, [.nilf]⟩ := rfl
theorem te_212 : te 212 = some ⟨.func, 1, 8, [.nilf]⟩ := rfl
theorem te_213 : te 213 = some ⟨.func, 1, 8, [.nilf]⟩ := rfl
theorem te_214 : te 214 = some ⟨.ptr 5, 1, 8, [.nilp]⟩ := rfl
theorem te_215 : te 215 = some ⟨.func, 1, 8, [.nilf]⟩ := rfl
theorem te_216 : te 216 = some ⟨.func, 1, 8, [.nilf]⟩ := rfl
theorem te_217 : te 217 = some ⟨.func, 1, 8, [.nilf]⟩ := rfl
theorem te_218 : te 218 = some ⟨.func, 1, 8, [.nilf]⟩ := rfl
theorem te_219 : te 219 = some ⟨.func, 1, 8, [.nilf]⟩ := rfl
theorem te_220 : te 220 = some ⟨.func, 1, 8, [.nilf]⟩ := rfl
theorem te_221 : te 221 = some ⟨.func, 1, 8, [.nilf]⟩ := rfl
theorem te_222 : te 222 = some ⟨.func, 1, 8, [.nilf]⟩ := rfl
theorem te_223 : te 223 = some ⟨.ptr 203, 1, 8, [.nilp]⟩ := rfl
theorem te_225 : te 225 = some ⟨.func, 1, 8, [.nilf]⟩ := rfl
theorem te_226 : te 226 = some ⟨.func, 1, 8, [.nilf]⟩ := rfl
theorem te_227 : te 227 = some ⟨.func, 1, 8, [.nilf]⟩ := rfl
theorem te_228 : te 228 = some ⟨.arr 20 183, 20, 160, [.int .u64, .int .u64, .int .u64, .int .u64, .int .u64, .int .u64, .int .u64, .int .u64, .int .u64, .int .u64, .int .u64, .int .u64, .int .u64, .int .u64, .int .u64, .int .u64, .int .u64, .int .u64, .int .u64, .int .u64]⟩ := rfl
theorem te_231 : te 231 = some ⟨.struct [(0, 5), (1, 5)], 2, 2, [.int .u8, .int .u8]⟩ := rfl
theorem te_232 : te 232 = some ⟨.struct [(0, 5), (1, 5)], 2, 2, [.int .u8, .int .u8]⟩ := rfl
theorem te_233 : te 233 = some ⟨.arr 16 232, 32, 32, [.int .u8, .int .u8, .int .u8, .int .u8, .int .u8, .int .u8, .int .u8, .int .u8, .int .u8, .int .u8, .int .u8, .int .u8, .int .u8, .int .u8, .int .u8, .int .u8, .int .u8, .int .u8, .int .u8, .int .u8, .int .u8, .int .u8, .int .u8, .int .u8, .int .u8, .int .u8, .int .u8, .int .u8, .int .u8, .int .u8, .int .u8, .int .u8]⟩ := rfl
theorem te_235 : te 235 = some ⟨.func, 1, 8, [.nilf]⟩ := rfl
theorem te_236 : te 236 = some ⟨.int .i64, 1, 8, [.int .i64]⟩ := rfl
theorem te_238 : te 238 = some ⟨.func, 1, 8, [.nilf]⟩ := rfl
theorem te_239 : te 239 = some ⟨.ptr 248, 1, 8, [.nilp]⟩ := rfl
theorem te_240 : te 240 = some ⟨.func, 1, 8, [.nilf]⟩ := rfl
theorem te_241 : te 241 = some ⟨.func, 1, 8, [.nilf]⟩ := rfl
theorem te_242 : te 242 = some ⟨.func, 1, 8, [.nilf]⟩ := rfl
theorem te_243 : te 243 = some ⟨.func, 1, 8, [.nilf]⟩ := rfl
theorem te_244 : te 244 = some ⟨.func, 1, 8, [.nilf]⟩ := rfl
theorem te_246 : te 246 = some ⟨.func, 1, 8, [.nilf]⟩ := rfl
theorem te_247 : te 247 = some ⟨.struct [(0, 9), (1, 9), (2, 194)], 3, 48, [.str, .str, .nili]⟩ := rfl
theorem te_248 : te 248 = some ⟨.struct [(0, 9), (1, 9), (2, 194)], 3, 48, [.str, .str, .nili]⟩ := rfl
theorem te_249 : te 249 = some ⟨.func, 1, 8, [.nilf]⟩ := rfl
theorem te_250 : te 250 = some ⟨.func, 1, 8, [.nilf]⟩ := rfl
theorem te_251 : te 251 = some ⟨.arr 32 5, 32, 32, [.int .u8, .int .u8, .int .u8, .int .u8, .int .u8, .int .u8, .int .u8, .int .u8, .int .u8, .int .u8, .int .u8, .int .u8, .int .u8, .int .u8, .int .u8, .int .u8, .int .u8, .int .u8, .int .u8, .int .u8, .int .u8, .int .u8, .int .u8, .int .u8, .int .u8, .int .u8, .int .u8, .int .u8, .int .u8, .int .u8, .int .u8, .int .u8]⟩ := rfl
theorem te_252 : te 252 = some ⟨.arr 64 5, 64, 64, [.int .u8, .int .u8, .int .u8, .int .u8, .int .u8, .int .u8, .int .u8, .int .u8, .int .u8, .int .u8, .int .u8, .int .u8, .int .u8, .int .u8, .int .u8, .int .u8, .int .u8, .int .u8, .int .u8, .int .u8, .int .u8, .int .u8, .int .u8, .int .u8, .int .u8, .int .u8, .int .u8, .int .u8, .int .u8, .int .u8, .int .u8, .int .u8, .int .u8, .int .u8, .int .u8, .int .u8, .int .u8, .int .u8, .int .u8, .int .u8, .int .u8, .int .u8, .int .u8, .int .u8, .int .u8, .int .u8, .int .u8, .int .u8, .int .u8, .int .u8, .int .u8, .int .u8, .int .u8, .int .u8, .int .u8, .int .u8, .int .u8, .int .u8, .int .u8, .int .u8, .int .u8, .int .u8, .int .u8, .int .u8]⟩ := rfl
theorem te_254 : te 254 = some ⟨.func, 1, 8, [.nilf]⟩ := rfl
theorem te_255 : te 255 = some ⟨.func, 1, 8, [.nilf]⟩ := rfl
theorem te_256 : te 256 = some ⟨.ptr 258, 1, 8, [.nilp]⟩ := rfl
theorem te_257 : te 257 = some ⟨.struct [(0, 9)], 1, 16, [.str]⟩ := rfl
theorem te_258 : te 258 = some ⟨.struct [(0, 9)], 1, 16, [.str]⟩ := rfl
theorem te_259 : te 259 = some ⟨.struct [(0, 17), (1, 17), (2, 17), (3, 9)], 4, 40, [.nilp, .nilp, .nilp, .str]⟩ := rfl
theorem te_260 : te 260 = some ⟨.struct [(0, 17), (1, 17), (2, 17), (3, 9)], 4, 40, [.nilp, .nilp, .nilp, .str]⟩ := rfl
theorem te_261 : te 261 = some ⟨.arr 0 16, 0, 0, []⟩ := rfl
theorem te_262 : te 262 = some ⟨.struct [(0, 261)], 0, 0, []⟩ := rfl
theorem te_263 : te 263 = some ⟨.struct [(0, 261)], 0, 0, []⟩ := rfl
theorem te_264 : te 264 = some ⟨.int .u8, 1, 1, [.int .u8]⟩ := rfl
theorem te_265 : te 265 = some ⟨.int .u8, 1, 1, [.int .u8]⟩ := rfl
theorem te_266 : te 266 = some ⟨.func, 1, 8, [.nilf]⟩ := rfl
theorem te_267 : te 267 = some ⟨.int .i32, 1, 4, [.int .i32]⟩ := rfl
theorem te_268 : te 268 = some ⟨.int .i32, 1, 4, [.int .i32]⟩ := rfl
theorem te_269 : te 269 = some ⟨.struct [(0, 12), (1, 12), (2, 181), (3, 264), (4, 5), (5, 5), (6, 265), (7, 266), (8, 214), (9, 267), (10, 268)], 11, 48, [.int .u64, .int .u64, .int .u32, .int .u8, .int .u8, .int .u8, .int .u8, .nilf, .nilp, .int .i32, .int .i32]⟩ := rfl
theorem te_270 : te 270 = some ⟨.struct [(0, 12), (1, 12), (2, 181), (3, 264), (4, 5), (5, 5), (6, 265), (7, 266), (8, 214), (9, 267), (10, 268)], 11, 48, [.int .u64, .int .u64, .int .u32, .int .u8, .int .u8, .int .u8, .int .u8, .nilf, .nilp, .int .i32, .int .i32]⟩ := rfl
set_option linter.defProp false
def teset := And.intro te_1 <| And.intro te_2 <| And.intro te_3 <| And.intro te_4 <| And.intro te_5 <| And.intro te_6 <| And.intro te_7 <| And.intro te_8 <| And.intro te_9 <| And.intro te_10 <| And.intro te_11 <| And.intro te_12 <| And.intro te_13 <| And.intro te_14 <| And.intro te_15 <| And.intro te_16 <| And.intro te_17 <| And.intro te_18 <| And.intro te_19 <| And.intro te_20 <| And.intro te_21 <| And.intro te_22 <| And.intro te_23 <| And.intro te_24 <| And.intro te_25 <| And.intro te_26 <| And.intro te_27 <| And.intro te_29 <| And.intro te_30 <| And.intro te_31 <| And.intro te_32 <| And.intro te_33 <| And.intro te_34 <| And.intro te_36 <| And.intro te_37 <| And.intro te_38 <| And.intro te_39 <| And.intro te_40 <| And.intro te_42 <| And.intro te_43 <| And.intro te_44 <| And.intro te_45 <| And.intro te_46 <| And.intro te_48 <| And.intro te_50 <| And.intro te_52 <| And.intro te_53 <| And.intro te_54 <| And.intro te_55 <| And.intro te_56 <| And.intro te_57 <| And.intro te_59 <| And.intro te_60 <| And.intro te_61 <| And.intro te_62 <| And.intro te_63 <| And.intro te_64 <| And.intro te_65 <| And.intro te_66 <| And.intro te_67 <| And.intro te_68 <| And.intro te_69 <| And.intro te_70 <| And.intro te_71 <| And.intro te_72 <| And.intro te_73 <| And.intro te_74 <| And.intro te_75 <| And.intro te_76 <| And.intro te_77 <| And.intro te_78 <| And.intro te_79 <| And.intro te_80 <| And.intro te_81 <| And.intro te_82 <| And.intro te_83 <| And.intro te_84 <| And.intro te_86 <| And.intro te_87 <| And.intro te_88 <| And.intro te_90 <| And.intro te_91 <| And.intro te_92 <| And.intro te_93 <| And.intro te_94 <| And.intro te_95 <| And.intro te_97 <| And.intro te_98 <| And.intro te_99 <| And.intro te_100 <| And.intro te_101 <| And.intro te_102 <| And.intro te_103 <| And.intro te_104 <| And.intro te_105 <| And.intro te_106 <| And.intro te_107 <| And.intro te_108 <| And.intro te_109 <| And.intro te_110 <| And.intro te_111 <| And.intro te_112 <| And.intro te_113 <| And.intro te_114 <| And.intro te_115 <| And.intro te_116 <| And.intro te_117 <| And.intro te_118 <| And.intro te_119 <| And.intro te_120 <| And.intro te_121 <| And.intro te_122 <| And.intro te_123 <| And.intro te_124 <| And.intro te_125 <| And.intro te_126 <| And.intro te_127 <| And.intro te_128 <| And.intro te_129 <| And.intro te_130 <| And.intro te_132 <| And.intro te_133 <| And.intro te_134 <| And.intro te_135 <| And.intro te_136 <| And.intro te_137 <| And.intro te_138 <| And.intro te_139 <| And.intro te_140 <| And.intro te_141 <| And.intro te_142 <| And.intro te_143 <| And.intro te_144 <| And.intro te_145 <| And.intro te_146 <| And.intro te_147 <| And.intro te_148 <| And.intro te_149 <| And.intro te_150 <| And.intro te_154 <| And.intro te_155 <| And.intro te_156 <| And.intro te_157 <| And.intro te_158 <| And.intro te_159 <| And.intro te_160 <| And.intro te_161 <| And.intro te_162 <| And.intro te_163 <| And.intro te_165 <| And.intro te_166 <| And.intro te_167 <| And.intro te_168 <| And.intro te_169 <| And.intro te_170 <| And.intro te_171 <| And.intro te_172 <| And.intro te_173 <| And.intro te_174 <| And.intro te_176 <| And.intro te_177 <| And.intro te_178 <| And.intro te_179 <| And.intro te_180 <| And.intro te_181 <| And.intro te_182 <| And.intro te_183 <| And.intro te_184 <| And.intro te_185 <| And.intro te_186 <| And.intro te_188 <| And.intro te_189 <| And.intro te_190 <| And.intro te_191 <| And.intro te_192 <| And.intro te_193 <| And.intro te_194 <| And.intro te_195 <| And.intro te_197 <| And.intro te_198 <| And.intro te_199 <| And.intro te_200 <| And.intro te_201 <| And.intro te_202 <| And.intro te_203 <| And.intro te_204 <| And.intro te_205 <| And.intro te_206 <| And.intro te_207 <| And.intro te_208 <| And.intro te_209 <| And.intro te_211 <| And.intro te_212 <| And.intro te_213 <| And.intro te_214 <| And.intro te_215 <| And.intro te_216 <| And.intro te_217 <| And.intro te_218 <| And.intro te_219 <| And.intro te_220 <| And.intro te_221 <| And.intro te_222 <| And.intro te_223 <| And.intro te_225 <| And.intro te_226 <| And.intro te_227 <| And.intro te_228 <| And.intro te_231 <| And.intro te_232 <| And.intro te_233 <| And.intro te_235 <| And.intro te_236 <| And.intro te_238 <| And.intro te_239 <| And.intro te_240 <| And.intro te_241 <| And.intro te_242 <| And.intro te_243 <| And.intro te_244 <| And.intro te_246 <| And.intro te_247 <| And.intro te_248 <| And.intro te_249 <| And.intro te_250 <| And.intro te_251 <| And.intro te_252 <| And.intro te_254 <| And.intro te_255 <| And.intro te_256 <| And.intro te_257 <| And.intro te_258 <| And.intro te_259 <| And.intro te_260 <| And.intro te_261 <| And.intro te_262 <| And.intro te_263 <| And.intro te_264 <| And.intro te_265 <| And.intro te_266 <| And.intro te_267 <| And.intro te_268 <| And.intro te_269 <| te_270
theorem te_check : checkTab Go.Proofs.Tryz.prog 0 tab = true := by kernel_rfl
theorem te_ok : te.ok Go.Proofs.Tryz.prog := checkTab_ok te_check
end Go.Proofs.YtjdocenbfghglaaGreatDoor.AW
