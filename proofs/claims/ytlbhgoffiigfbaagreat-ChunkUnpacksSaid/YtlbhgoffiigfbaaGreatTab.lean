/- The types of the translation as a table, written by a program of mine out of the translation's own rows; Lean checks it. -/
import Derived.Test.YtlbhgoffiigfbaaGreatAw14
import Derived.Test.YtlbhgoffiigfbaaGreatProg
import Derived.KernelRfl
set_option linter.unusedSimpArgs false
set_option maxRecDepth 100000
namespace Go.Proofs.YtlbhgoffiigfbaaGreat.AW
open Go
def tab : List (Option TI) := [
  none,
  some ⟨.func, 1, 8, [.nilf]⟩,
  some ⟨.int .i64, 1, 8, [.int .i64]⟩,
  some ⟨.int .i64, 1, 8, [.int .i64]⟩,
  some ⟨.bool, 1, 1, [.bool]⟩,
  some ⟨.int .u8, 1, 1, [.int .u8]⟩,
  some ⟨.int .u8, 1, 1, [.int .u8]⟩,
  some ⟨.struct [(0, 2), (1, 3), (2, 4), (3, 6)], 4, 24, [.int .i64, .int .i64, .bool, .int .u8]⟩,
  some ⟨.struct [(0, 2), (1, 3), (2, 4), (3, 6)], 4, 24, [.int .i64, .int .i64, .bool, .int .u8]⟩,
  some ⟨.str, 1, 16, [.str]⟩,
  some ⟨.str, 1, 16, [.str]⟩,
  some ⟨.str, 1, 16, [.str]⟩,
  some ⟨.int .u64, 1, 8, [.int .u64]⟩,
  some ⟨.struct [(0, 9), (1, 12)], 2, 24, [.str, .int .u64]⟩,
  some ⟨.struct [(0, 9), (1, 12)], 2, 24, [.str, .int .u64]⟩,
  some ⟨.ptr 101, 1, 8, [.nilp]⟩,
  some ⟨.ptr 104, 1, 8, [.nilp]⟩,
  some ⟨.ptr 113, 1, 8, [.nilp]⟩,
  some ⟨.struct [(0, 17)], 1, 8, [.nilp]⟩,
  some ⟨.struct [(0, 17)], 1, 8, [.nilp]⟩,
  some ⟨.iface, 1, 16, [.nili]⟩,
  some ⟨.int .i32, 1, 4, [.int .i32]⟩,
  some ⟨.slice 40, 1, 24, [.nils]⟩,
  some ⟨.func, 1, 8, [.nilf]⟩,
  some ⟨.func, 1, 8, [.nilf]⟩,
  some ⟨.int .i64, 1, 8, [.int .i64]⟩,
  none,
  some ⟨.func, 1, 8, [.nilf]⟩,
  some ⟨.func, 1, 8, [.nilf]⟩,
  none,
  some ⟨.func, 1, 8, [.nilf]⟩,
  some ⟨.func, 1, 8, [.nilf]⟩,
  some ⟨.func, 1, 8, [.nilf]⟩,
  none,
  some ⟨.func, 1, 8, [.nilf]⟩,
  some ⟨.arr 4 3, 4, 32, [.int .i64, .int .i64, .int .i64, .int .i64]⟩,
  none,
  some ⟨.func, 1, 8, [.nilf]⟩,
  some ⟨.slice 9, 1, 24, [.nils]⟩,
  some ⟨.struct [(0, 3), (1, 3), (2, 9), (3, 22), (4, 38)], 5, 80, [.int .i64, .int .i64, .str, .nils, .nils]⟩,
  some ⟨.struct [(0, 3), (1, 3), (2, 9), (3, 22), (4, 38)], 5, 80, [.int .i64, .int .i64, .str, .nils, .nils]⟩,
  some ⟨.func, 1, 8, [.nilf]⟩,
  some ⟨.func, 1, 8, [.nilf]⟩,
  some ⟨.func, 1, 8, [.nilf]⟩,
  some ⟨.func, 1, 8, [.nilf]⟩,
  some ⟨.func, 1, 8, [.nilf]⟩,
  some ⟨.iface, 1, 16, [.nili]⟩,
  some ⟨.iface, 1, 16, [.nili]⟩,
  none,
  some ⟨.func, 1, 8, [.nilf]⟩,
  some ⟨.slice 5, 1, 24, [.nils]⟩,
  some ⟨.func, 1, 8, [.nilf]⟩,
  some ⟨.func, 1, 8, [.nilf]⟩,
  some ⟨.ptr 55, 1, 8, [.nilp]⟩,
  some ⟨.struct [(0, 9)], 1, 16, [.str]⟩,
  some ⟨.struct [(0, 9)], 1, 16, [.str]⟩,
  some ⟨.func, 1, 8, [.nilf]⟩,
  some ⟨.func, 1, 8, [.nilf]⟩,
  some ⟨.func, 1, 8, [.nilf]⟩,
  none,
  some ⟨.func, 1, 8, [.nilf]⟩,
  some ⟨.slice 47, 1, 24, [.nils]⟩,
  some ⟨.func, 1, 8, [.nilf]⟩,
  some ⟨.func, 1, 8, [.nilf]⟩,
  some ⟨.int .u64, 1, 8, [.int .u64]⟩,
  some ⟨.func, 1, 8, [.nilf]⟩,
  some ⟨.func, 1, 8, [.nilf]⟩,
  some ⟨.func, 1, 8, [.nilf]⟩,
  some ⟨.struct [], 0, 0, []⟩,
  some ⟨.struct [], 0, 0, []⟩,
  none,
  some ⟨.func, 1, 8, [.nilf]⟩,
  some ⟨.ptr 74, 1, 8, [.nilp]⟩,
  some ⟨.struct [(0, 9), (1, 3), (2, 4)], 3, 32, [.str, .int .i64, .bool]⟩,
  some ⟨.struct [(0, 9), (1, 3), (2, 4)], 3, 32, [.str, .int .i64, .bool]⟩,
  some ⟨.func, 1, 8, [.nilf]⟩,
  some ⟨.struct [], 0, 0, []⟩,
  some ⟨.struct [], 0, 0, []⟩,
  some ⟨.struct [], 0, 0, []⟩,
  some ⟨.struct [], 0, 0, []⟩,
  some ⟨.func, 1, 8, [.nilf]⟩,
  some ⟨.func, 1, 8, [.nilf]⟩,
  some ⟨.ptr 3, 1, 8, [.nilp]⟩,
  some ⟨.func, 1, 8, [.nilf]⟩,
  some ⟨.func, 1, 8, [.nilf]⟩,
  some ⟨.func, 1, 8, [.nilf]⟩,
  some ⟨.func, 1, 8, [.nilf]⟩,
  some ⟨.func, 1, 8, [.nilf]⟩,
  some ⟨.func, 1, 8, [.nilf]⟩,
  some ⟨.func, 1, 8, [.nilf]⟩,
  some ⟨.func, 1, 8, [.nilf]⟩,
  some ⟨.func, 1, 8, [.nilf]⟩,
  some ⟨.func, 1, 8, [.nilf]⟩,
  some ⟨.func, 1, 8, [.nilf]⟩,
  some ⟨.func, 1, 8, [.nilf]⟩,
  some ⟨.func, 1, 8, [.nilf]⟩,
  some ⟨.func, 1, 8, [.nilf]⟩,
  some ⟨.func, 1, 8, [.nilf]⟩,
  some ⟨.func, 1, 8, [.nilf]⟩,
  some ⟨.func, 1, 8, [.nilf]⟩,
  some ⟨.struct [(0, 17), (1, 17), (2, 17), (3, 9)], 4, 40, [.nilp, .nilp, .nilp, .str]⟩,
  some ⟨.struct [(0, 17), (1, 17), (2, 17), (3, 9)], 4, 40, [.nilp, .nilp, .nilp, .str]⟩,
  some ⟨.arr 0 16, 0, 0, []⟩,
  some ⟨.struct [(0, 102)], 0, 0, []⟩,
  some ⟨.struct [(0, 102)], 0, 0, []⟩,
  some ⟨.int .u32, 1, 4, [.int .u32]⟩,
  some ⟨.int .u8, 1, 1, [.int .u8]⟩,
  some ⟨.int .u8, 1, 1, [.int .u8]⟩,
  some ⟨.func, 1, 8, [.nilf]⟩,
  some ⟨.ptr 5, 1, 8, [.nilp]⟩,
  some ⟨.int .i32, 1, 4, [.int .i32]⟩,
  some ⟨.int .i32, 1, 4, [.int .i32]⟩,
  some ⟨.struct [(0, 12), (1, 12), (2, 105), (3, 106), (4, 5), (5, 5), (6, 107), (7, 108), (8, 109), (9, 110), (10, 111)], 11, 48, [.int .u64, .int .u64, .int .u32, .int .u8, .int .u8, .int .u8, .int .u8, .nilf, .nilp, .int .i32, .int .i32]⟩,
  some ⟨.struct [(0, 12), (1, 12), (2, 105), (3, 106), (4, 5), (5, 5), (6, 107), (7, 108), (8, 109), (9, 110), (10, 111)], 11, 48, [.int .u64, .int .u64, .int .u32, .int .u8, .int .u8, .int .u8, .int .u8, .nilf, .nilp, .int .i32, .int .i32]⟩,
  some ⟨.func, 1, 8, [.nilf]⟩,
  some ⟨.func, 1, 8, [.nilf]⟩,
  some ⟨.func, 1, 8, [.nilf]⟩,
  some ⟨.func, 1, 8, [.nilf]⟩,
  some ⟨.func, 1, 8, [.nilf]⟩,
  none,
  some ⟨.func, 1, 8, [.nilf]⟩,
  none,
  some ⟨.func, 1, 8, [.nilf]⟩,
  some ⟨.int .u64, 1, 8, [.int .u64]⟩,
  none,
  some ⟨.func, 1, 8, [.nilf]⟩,
  some ⟨.func, 1, 8, [.nilf]⟩,
  some ⟨.func, 1, 8, [.nilf]⟩,
  some ⟨.func, 1, 8, [.nilf]⟩,
  some ⟨.func, 1, 8, [.nilf]⟩,
  some ⟨.slice 3, 1, 24, [.nils]⟩,
  some ⟨.func, 1, 8, [.nilf]⟩,
  some ⟨.func, 1, 8, [.nilf]⟩,
  none,
  some ⟨.func, 1, 8, [.nilf]⟩,
  some ⟨.func, 1, 8, [.nilf]⟩,
  some ⟨.func, 1, 8, [.nilf]⟩,
  some ⟨.func, 1, 8, [.nilf]⟩,
  some ⟨.int .i64, 1, 8, [.int .i64]⟩,
  none,
  some ⟨.func, 1, 8, [.nilf]⟩,
  some ⟨.func, 1, 8, [.nilf]⟩,
  some ⟨.func, 1, 8, [.nilf]⟩,
  some ⟨.func, 1, 8, [.nilf]⟩,
  some ⟨.func, 1, 8, [.nilf]⟩,
  some ⟨.func, 1, 8, [.nilf]⟩,
  some ⟨.int .u64, 1, 8, [.int .u64]⟩,
  some ⟨.func, 1, 8, [.nilf]⟩,
  some ⟨.func, 1, 8, [.nilf]⟩,
  some ⟨.func, 1, 8, [.nilf]⟩,
  some ⟨.func, 1, 8, [.nilf]⟩,
  some ⟨.ptr 146, 1, 8, [.nilp]⟩,
  none,
  some ⟨.func, 1, 8, [.nilf]⟩,
  none]
def te : TE := fun t => (tab[t]?).join
theorem te_1 : te 1 = some ⟨.func, 1, 8, [.nilf]⟩ := rfl
theorem te_2 : te 2 = some ⟨.int .i64, 1, 8, [.int .i64]⟩ := rfl
theorem te_3 : te 3 = some ⟨.int .i64, 1, 8, [.int .i64]⟩ := rfl
theorem te_4 : te 4 = some ⟨.bool, 1, 1, [.bool]⟩ := rfl
theorem te_5 : te 5 = some ⟨.int .u8, 1, 1, [.int .u8]⟩ := rfl
theorem te_6 : te 6 = some ⟨.int .u8, 1, 1, [.int .u8]⟩ := rfl
theorem te_7 : te 7 = some ⟨.struct [(0, 2), (1, 3), (2, 4), (3, 6)], 4, 24, [.int .i64, .int .i64, .bool, .int .u8]⟩ := rfl
theorem te_8 : te 8 = some ⟨.struct [(0, 2), (1, 3), (2, 4), (3, 6)], 4, 24, [.int .i64, .int .i64, .bool, .int .u8]⟩ := rfl
theorem te_9 : te 9 = some ⟨.str, 1, 16, [.str]⟩ := rfl
theorem te_10 : te 10 = some ⟨.str, 1, 16, [.str]⟩ := rfl
theorem te_11 : te 11 = some ⟨.str, 1, 16, [.str]⟩ := rfl
theorem te_12 : te 12 = some ⟨.int .u64, 1, 8, [.int .u64]⟩ := rfl
theorem te_13 : te 13 = some ⟨.struct [(0, 9), (1, 12)], 2, 24, [.str, .int .u64]⟩ := rfl
theorem te_14 : te 14 = some ⟨.struct [(0, 9), (1, 12)], 2, 24, [.str, .int .u64]⟩ := rfl
theorem te_15 : te 15 = some ⟨.ptr 101, 1, 8, [.nilp]⟩ := rfl
theorem te_16 : te 16 = some ⟨.ptr 104, 1, 8, [.nilp]⟩ := rfl
theorem te_17 : te 17 = some ⟨.ptr 113, 1, 8, [.nilp]⟩ := rfl
theorem te_18 : te 18 = some ⟨.struct [(0, 17)], 1, 8, [.nilp]⟩ := rfl
theorem te_19 : te 19 = some ⟨.struct [(0, 17)], 1, 8, [.nilp]⟩ := rfl
theorem te_20 : te 20 = some ⟨.iface, 1, 16, [.nili]⟩ := rfl
theorem te_21 : te 21 = some ⟨.int .i32, 1, 4, [.int .i32]⟩ := rfl
theorem te_22 : te 22 = some ⟨.slice 40, 1, 24, [.nils]⟩ := rfl
theorem te_23 : te 23 = some ⟨.func, 1, 8, [.nilf]⟩ := rfl
theorem te_24 : te 24 = some ⟨.func, 1, 8, [.nilf]⟩ := rfl
theorem te_25 : te 25 = some ⟨.int .i64, 1, 8, [.int .i64]⟩ := rfl
theorem te_27 : te 27 = some ⟨.func, 1, 8, [.nilf]⟩ := rfl
theorem te_28 : te 28 = some ⟨.func, 1, 8, [.nilf]⟩ := rfl
theorem te_30 : te 30 = some ⟨.func, 1, 8, [.nilf]⟩ := rfl
theorem te_31 : te 31 = some ⟨.func, 1, 8, [.nilf]⟩ := rfl
theorem te_32 : te 32 = some ⟨.func, 1, 8, [.nilf]⟩ := rfl
theorem te_34 : te 34 = some ⟨.func, 1, 8, [.nilf]⟩ := rfl
theorem te_35 : te 35 = some ⟨.arr 4 3, 4, 32, [.int .i64, .int .i64, .int .i64, .int .i64]⟩ := rfl
theorem te_37 : te 37 = some ⟨.func, 1, 8, [.nilf]⟩ := rfl
theorem te_38 : te 38 = some ⟨.slice 9, 1, 24, [.nils]⟩ := rfl
theorem te_39 : te 39 = some ⟨.struct [(0, 3), (1, 3), (2, 9), (3, 22), (4, 38)], 5, 80, [.int .i64, .int .i64, .str, .nils, .nils]⟩ := rfl
theorem te_40 : te 40 = some ⟨.struct [(0, 3), (1, 3), (2, 9), (3, 22), (4, 38)], 5, 80, [.int .i64, .int .i64, .str, .nils, .nils]⟩ := rfl
theorem te_41 : te 41 = some ⟨.func, 1, 8, [.nilf]⟩ := rfl
theorem te_42 : te 42 = some ⟨.func, 1, 8, [.nilf]⟩ := rfl
theorem te_43 : te 43 = some ⟨.func, 1, 8, [.nilf]⟩ := rfl
theorem te_44 : te 44 = some ⟨.func, 1, 8, [.nilf]⟩ := rfl
theorem te_45 : te 45 = some ⟨.func, 1, 8, [.nilf]⟩ := rfl
theorem te_46 : te 46 = some ⟨.iface, 1, 16, [.nili]⟩ := rfl
theorem te_47 : te 47 = some ⟨.iface, 1, 16, [.nili]⟩ := rfl
theorem te_49 : te 49 = some ⟨.func, 1, 8, [.nilf]⟩ := rfl
theorem te_50 : te 50 = some ⟨.slice 5, 1, 24, [.nils]⟩ := rfl
theorem te_51 : te 51 = some ⟨.func, 1, 8, [.nilf]⟩ := rfl
theorem te_52 : te 52 = some ⟨.func, 1, 8, [.nilf]⟩ := rfl
theorem te_53 : te 53 = some ⟨.ptr 55, 1, 8, [.nilp]⟩ := rfl
theorem te_54 : te 54 = some ⟨.struct [(0, 9)], 1, 16, [.str]⟩ := rfl
theorem te_55 : te 55 = some ⟨.struct [(0, 9)], 1, 16, [.str]⟩ := rfl
theorem te_56 : te 56 = some ⟨.func, 1, 8, [.nilf]⟩ := rfl
theorem te_57 : te 57 = some ⟨.func, 1, 8, [.nilf]⟩ := rfl
theorem te_58 : te 58 = some ⟨.func, 1, 8, [.nilf]⟩ := rfl
theorem te_60 : te 60 = some ⟨.func, 1, 8, [.nilf]⟩ := rfl
theorem te_61 : te 61 = some ⟨.slice 47, 1, 24, [.nils]⟩ := rfl
theorem te_62 : te 62 = some ⟨.func, 1, 8, [.nilf]⟩ := rfl
theorem te_63 : te 63 = some ⟨.func, 1, 8, [.nilf]⟩ := rfl
theorem te_64 : te 64 = some ⟨.int .u64, 1, 8, [.int .u64]⟩ := rfl
theorem te_65 : te 65 = some ⟨.func, 1, 8, [.nilf]⟩ := rfl
theorem te_66 : te 66 = some ⟨.func, 1, 8, [.nilf]⟩ := rfl
theorem te_67 : te 67 = some ⟨.func, 1, 8, [.nilf]⟩ := rfl
theorem te_68 : te 68 = some ⟨.struct [], 0, 0, []⟩ := rfl
theorem te_69 : te 69 = some ⟨.struct [], 0, 0, []⟩ := rfl
theorem te_71 : te 71 = some ⟨.func, 1, 8, [.nilf]⟩ := rfl
theorem te_72 : te 72 = some ⟨.ptr 74, 1, 8, [.nilp]⟩ := rfl
theorem te_73 : te 73 = some ⟨.struct [(0, 9), (1, 3), (2, 4)], 3, 32, [.str, .int .i64, .bool]⟩ := rfl
theorem te_74 : te 74 = some ⟨.struct [(0, 9), (1, 3), (2, 4)], 3, 32, [.str, .int .i64, .bool]⟩ := rfl
theorem te_75 : te 75 = some ⟨.func, 1, 8, [.nilf]⟩ := rfl
theorem te_76 : te 76 = some ⟨.struct [], 0, 0, []⟩ := rfl
theorem te_77 : te 77 = some ⟨.struct [], 0, 0, []⟩ := rfl
theorem te_78 : te 78 = some ⟨.struct [], 0, 0, []⟩ := rfl
theorem te_79 : te 79 = some ⟨.struct [], 0, 0, []⟩ := rfl
theorem te_80 : te 80 = some ⟨.func, 1, 8, [.nilf]⟩ := rfl
theorem te_81 : te 81 = some ⟨.func, 1, 8, [.nilf]⟩ := rfl
theorem te_82 : te 82 = some ⟨.ptr 3, 1, 8, [.nilp]⟩ := rfl
theorem te_83 : te 83 = some ⟨.func, 1, 8, [.nilf]⟩ := rfl
theorem te_84 : te 84 = some ⟨.func, 1, 8, [.nilf]⟩ := rfl
theorem te_85 : te 85 = some ⟨.func, 1, 8, [.nilf]⟩ := rfl
theorem te_86 : te 86 = some ⟨.func, 1, 8, [.nilf]⟩ := rfl
theorem te_87 : te 87 = some ⟨.func, 1, 8, [.nilf]⟩ := rfl
theorem te_88 : te 88 = some ⟨.func, 1, 8, [.nilf]⟩ := rfl
theorem te_89 : te 89 = some ⟨.func, 1, 8, [.nilf]⟩ := rfl
theorem te_90 : te 90 = some ⟨.func, 1, 8, [.nilf]⟩ := rfl
theorem te_91 : te 91 = some ⟨.func, 1, 8, [.nilf]⟩ := rfl
theorem te_92 : te 92 = some ⟨.func, 1, 8, [.nilf]⟩ := rfl
theorem te_93 : te 93 = some ⟨.func, 1, 8, [.nilf]⟩ := rfl
theorem te_94 : te 94 = some ⟨.func, 1, 8, [.nilf]⟩ := rfl
theorem te_95 : te 95 = some ⟨.func, 1, 8, [.nilf]⟩ := rfl
theorem te_96 : te 96 = some ⟨.func, 1, 8, [.nilf]⟩ := rfl
theorem te_97 : te 97 = some ⟨.func, 1, 8, [.nilf]⟩ := rfl
theorem te_98 : te 98 = some ⟨.func, 1, 8, [.nilf]⟩ := rfl
theorem te_99 : te 99 = some ⟨.func, 1, 8, [.nilf]⟩ := rfl
theorem te_100 : te 100 = some ⟨.struct [(0, 17), (1, 17), (2, 17), (3, 9)], 4, 40, [.nilp, .nilp, .nilp, .str]⟩ := rfl
theorem te_101 : te 101 = some ⟨.struct [(0, 17), (1, 17), (2, 17), (3, 9)], 4, 40, [.nilp, .nilp, .nilp, .str]⟩ := rfl
theorem te_102 : te 102 = some ⟨.arr 0 16, 0, 0, []⟩ := rfl
theorem te_103 : te 103 = some ⟨.struct [(0, 102)], 0, 0, []⟩ := rfl
theorem te_104 : te 104 = some ⟨.struct [(0, 102)], 0, 0, []⟩ := rfl
theorem te_105 : te 105 = some ⟨.int .u32, 1, 4, [.int .u32]⟩ := rfl
theorem te_106 : te 106 = some ⟨.int .u8, 1, 1, [.int .u8]⟩ := rfl
theorem te_107 : te 107 = some ⟨.int .u8, 1, 1, [.int .u8]⟩ := rfl
theorem te_108 : te 108 = some ⟨.func, 1, 8, [.nilf]⟩ := rfl
theorem te_109 : te 109 = some ⟨.ptr 5, 1, 8, [.nilp]⟩ := rfl
theorem te_110 : te 110 = some ⟨.int .i32, 1, 4, [.int .i32]⟩ := rfl
theorem te_111 : te 111 = some ⟨.int .i32, 1, 4, [.int .i32]⟩ := rfl
theorem te_112 : te 112 = some ⟨.struct [(0, 12), (1, 12), (2, 105), (3, 106), (4, 5), (5, 5), (6, 107), (7, 108), (8, 109), (9, 110), (10, 111)], 11, 48, [.int .u64, .int .u64, .int .u32, .int .u8, .int .u8, .int .u8, .int .u8, .nilf, .nilp, .int .i32, .int .i32]⟩ := rfl
theorem te_113 : te 113 = some ⟨.struct [(0, 12), (1, 12), (2, 105), (3, 106), (4, 5), (5, 5), (6, 107), (7, 108), (8, 109), (9, 110), (10, 111)], 11, 48, [.int .u64, .int .u64, .int .u32, .int .u8, .int .u8, .int .u8, .int .u8, .nilf, .nilp, .int .i32, .int .i32]⟩ := rfl
theorem te_114 : te 114 = some ⟨.func, 1, 8, [.nilf]⟩ := rfl
theorem te_115 : te 115 = some ⟨.func, 1, 8, [.nilf]⟩ := rfl
theorem te_116 : te 116 = some ⟨.func, 1, 8, [.nilf]⟩ := rfl
theorem te_117 : te 117 = some ⟨.func, 1, 8, [.nilf]⟩ := rfl
theorem te_118 : te 118 = some ⟨.func, 1, 8, [.nilf]⟩ := rfl
theorem te_120 : te 120 = some ⟨.func, 1, 8, [.nilf]⟩ := rfl
theorem te_122 : te 122 = some ⟨.func, 1, 8, [.nilf]⟩ := rfl
theorem te_123 : te 123 = some ⟨.int .u64, 1, 8, [.int .u64]⟩ := rfl
theorem te_125 : te 125 = some ⟨.func, 1, 8, [.nilf]⟩ := rfl
theorem te_126 : te 126 = some ⟨.func, 1, 8, [.nilf]⟩ := rfl
theorem te_127 : te 127 = some ⟨.func, 1, 8, [.nilf]⟩ := rfl
theorem te_128 : te 128 = some ⟨.func, 1, 8, [.nilf]⟩ := rfl
theorem te_129 : te 129 = some ⟨.func, 1, 8, [.nilf]⟩ := rfl
theorem te_130 : te 130 = some ⟨.slice 3, 1, 24, [.nils]⟩ := rfl
theorem te_131 : te 131 = some ⟨.func, 1, 8, [.nilf]⟩ := rfl
theorem te_132 : te 132 = some ⟨.func, 1, 8, [.nilf]⟩ := rfl
theorem te_134 : te 134 = some ⟨.func, 1, 8, [.nilf]⟩ := rfl
theorem te_135 : te 135 = some ⟨.func, 1, 8, [.nilf]⟩ := rfl
theorem te_136 : te 136 = some ⟨.func, 1, 8, [.nilf]⟩ := rfl
theorem te_137 : te 137 = some ⟨.func, 1, 8, [.nilf]⟩ := rfl
theorem te_138 : te 138 = some ⟨.int .i64, 1, 8, [.int .i64]⟩ := rfl
theorem te_140 : te 140 = some ⟨.func, 1, 8, [.nilf]⟩ := rfl
theorem te_141 : te 141 = some ⟨.func, 1, 8, [.nilf]⟩ := rfl
theorem te_142 : te 142 = some ⟨.func, 1, 8, [.nilf]⟩ := rfl
theorem te_143 : te 143 = some ⟨.func, 1, 8, [.nilf]⟩ := rfl
theorem te_144 : te 144 = some ⟨.func, 1, 8, [.nilf]⟩ := rfl
theorem te_145 : te 145 = some ⟨.func, 1, 8, [.nilf]⟩ := rfl
theorem te_146 : te 146 = some ⟨.int .u64, 1, 8, [.int .u64]⟩ := rfl
theorem te_147 : te 147 = some ⟨.func, 1, 8, [.nilf]⟩ := rfl
theorem te_148 : te 148 = some ⟨.func, 1, 8, [.nilf]⟩ := rfl
theorem te_149 : te 149 = some ⟨.func, 1, 8, [.nilf]⟩ := rfl
theorem te_150 : te 150 = some ⟨.func, 1, 8, [.nilf]⟩ := rfl
theorem te_151 : te 151 = some ⟨.ptr 146, 1, 8, [.nilp]⟩ := rfl
theorem te_153 : te 153 = some ⟨.func, 1, 8, [.nilf]⟩ := rfl
set_option linter.defProp false
def teset := And.intro te_1 <| And.intro te_2 <| And.intro te_3 <| And.intro te_4 <| And.intro te_5 <| And.intro te_6 <| And.intro te_7 <| And.intro te_8 <| And.intro te_9 <| And.intro te_10 <| And.intro te_11 <| And.intro te_12 <| And.intro te_13 <| And.intro te_14 <| And.intro te_15 <| And.intro te_16 <| And.intro te_17 <| And.intro te_18 <| And.intro te_19 <| And.intro te_20 <| And.intro te_21 <| And.intro te_22 <| And.intro te_23 <| And.intro te_24 <| And.intro te_25 <| And.intro te_27 <| And.intro te_28 <| And.intro te_30 <| And.intro te_31 <| And.intro te_32 <| And.intro te_34 <| And.intro te_35 <| And.intro te_37 <| And.intro te_38 <| And.intro te_39 <| And.intro te_40 <| And.intro te_41 <| And.intro te_42 <| And.intro te_43 <| And.intro te_44 <| And.intro te_45 <| And.intro te_46 <| And.intro te_47 <| And.intro te_49 <| And.intro te_50 <| And.intro te_51 <| And.intro te_52 <| And.intro te_53 <| And.intro te_54 <| And.intro te_55 <| And.intro te_56 <| And.intro te_57 <| And.intro te_58 <| And.intro te_60 <| And.intro te_61 <| And.intro te_62 <| And.intro te_63 <| And.intro te_64 <| And.intro te_65 <| And.intro te_66 <| And.intro te_67 <| And.intro te_68 <| And.intro te_69 <| And.intro te_71 <| And.intro te_72 <| And.intro te_73 <| And.intro te_74 <| And.intro te_75 <| And.intro te_76 <| And.intro te_77 <| And.intro te_78 <| And.intro te_79 <| And.intro te_80 <| And.intro te_81 <| And.intro te_82 <| And.intro te_83 <| And.intro te_84 <| And.intro te_85 <| And.intro te_86 <| And.intro te_87 <| And.intro te_88 <| And.intro te_89 <| And.intro te_90 <| And.intro te_91 <| And.intro te_92 <| And.intro te_93 <| And.intro te_94 <| And.intro te_95 <| And.intro te_96 <| And.intro te_97 <| And.intro te_98 <| And.intro te_99 <| And.intro te_100 <| And.intro te_101 <| And.intro te_102 <| And.intro te_103 <| And.intro te_104 <| And.intro te_105 <| And.intro te_106 <| And.intro te_107 <| And.intro te_108 <| And.intro te_109 <| And.intro te_110 <| And.intro te_111 <| And.intro te_112 <| And.intro te_113 <| And.intro te_114 <| And.intro te_115 <| And.intro te_116 <| And.intro te_117 <| And.intro te_118 <| And.intro te_120 <| And.intro te_122 <| And.intro te_123 <| And.intro te_125 <| And.intro te_126 <| And.intro te_127 <| And.intro te_128 <| And.intro te_129 <| And.intro te_130 <| And.intro te_131 <| And.intro te_132 <| And.intro te_134 <| And.intro te_135 <| And.intro te_136 <| And.intro te_137 <| And.intro te_138 <| And.intro te_140 <| And.intro te_141 <| And.intro te_142 <| And.intro te_143 <| And.intro te_144 <| And.intro te_145 <| And.intro te_146 <| And.intro te_147 <| And.intro te_148 <| And.intro te_149 <| And.intro te_150 <| And.intro te_151 <| te_153
theorem te_check : checkTab Go.Proofs.Tryz.prog 0 tab = true := by kernel_rfl
theorem te_ok : te.ok Go.Proofs.Tryz.prog := checkTab_ok te_check
end Go.Proofs.YtlbhgoffiigfbaaGreat.AW
