/- Lemmas for the statements of this seat (K4): they hold without conditions beyond those that each one states. -/
import Derived.Test.YtakkdmdkelbnjaaK2
import Derived.Test.YtakkdmdkelbnjaaChecked
import Derived.KernelRfl
import Derived.Test.YtakkdmdkelbnjaaK3
/- The types of this seat, as the abstract machine has them: made by program (gen_types.py). -/
namespace Go.Proofs.Ytakkdmdkelbnjaa.Abs
set_option maxHeartbeats 4000000
set_option maxRecDepth 100000
open Go Go.RowKit
def ty : TypeId → Option TyI
  | 1 => some ⟨.one, 1, 8, [.nilfunc]⟩
  | 2 => some ⟨.int .i64, 1, 8, [.int .i64 0]⟩
  | 3 => some ⟨.int .i64, 1, 8, [.int .i64 0]⟩
  | 4 => some ⟨.bool, 1, 1, [.bool false]⟩
  | 5 => some ⟨.int .u8, 1, 1, [.int .u8 0]⟩
  | 9 => some ⟨.string, 1, 16, [.str ByteArray.empty]⟩
  | 12 => some ⟨.int .u64, 1, 8, [.int .u64 0]⟩
  | 13 => some ⟨.struct [(0, 9), (1, 12)], 2, 24, [.str ByteArray.empty, .int .u64 0]⟩
  | 15 => some ⟨.one, 1, 8, [.nilptr]⟩
  | 16 => some ⟨.one, 1, 8, [.nilptr]⟩
  | 17 => some ⟨.one, 1, 8, [.nilptr]⟩
  | 18 => some ⟨.struct [(0, 17)], 1, 8, [.nilptr]⟩
  | 21 => some ⟨.int .i32, 1, 4, [.int .i32 0]⟩
  | 22 => some ⟨.slice 9, 1, 24, [.slice 1 []]⟩
  | 23 => some ⟨.slice 51, 1, 24, [.slice 4 []]⟩
  | 24 => some ⟨.slice 58, 1, 24, [.slice 2 []]⟩
  | 25 => some ⟨.struct [(0, 3), (1, 3), (2, 22), (3, 3), (4, 23), (5, 24)], 6, 96, [.int .i64 0, .int .i64 0, .slice 1 [], .int .i64 0, .slice 4 [], .slice 2 []]⟩
  | 26 => some ⟨.struct [(0, 3), (1, 3), (2, 22), (3, 3), (4, 23), (5, 24)], 6, 96, [.int .i64 0, .int .i64 0, .slice 1 [], .int .i64 0, .slice 4 [], .slice 2 []]⟩
  | 27 => some ⟨.slice 3, 1, 24, [.slice 1 []]⟩
  | 28 => some ⟨.int .i64, 1, 8, [.int .i64 0]⟩
  | 30 => some ⟨.one, 1, 8, [.nilfunc]⟩
  | 32 => some ⟨.one, 1, 8, [.nilfunc]⟩
  | 33 => some ⟨.one, 1, 8, [.nilfunc]⟩
  | 34 => some ⟨.one, 1, 8, [.nilfunc]⟩
  | 35 => some ⟨.one, 1, 8, [.nilfunc]⟩
  | 36 => some ⟨.one, 1, 8, [.nilfunc]⟩
  | 37 => some ⟨.array 2 3, 2, 16, [.int .i64 0, .int .i64 0]⟩
  | 38 => some ⟨.one, 1, 8, [.nilfunc]⟩
  | 39 => some ⟨.one, 1, 8, [.nilfunc]⟩
  | 40 => some ⟨.one, 1, 8, [.nilfunc]⟩
  | 41 => some ⟨.one, 1, 8, [.nilfunc]⟩
  | 42 => some ⟨.one, 1, 8, [.nilfunc]⟩
  | 43 => some ⟨.one, 1, 8, [.nilfunc]⟩
  | 44 => some ⟨.one, 1, 8, [.nilfunc]⟩
  | 45 => some ⟨.array 2 5, 2, 2, [.int .u8 0, .int .u8 0]⟩
  | 46 => some ⟨.one, 1, 8, [.nilfunc]⟩
  | 47 => some ⟨.one, 1, 8, [.nilfunc]⟩
  | 48 => some ⟨.one, 1, 8, [.nilfunc]⟩
  | 49 => some ⟨.one, 1, 8, [.nilfunc]⟩
  | 50 => some ⟨.struct [(0, 3), (1, 3), (2, 3), (3, 3)], 4, 32, [.int .i64 0, .int .i64 0, .int .i64 0, .int .i64 0]⟩
  | 51 => some ⟨.struct [(0, 3), (1, 3), (2, 3), (3, 3)], 4, 32, [.int .i64 0, .int .i64 0, .int .i64 0, .int .i64 0]⟩
  | 52 => some ⟨.one, 1, 8, [.nilfunc]⟩
  | 53 => some ⟨.array 3 5, 3, 3, [.int .u8 0, .int .u8 0, .int .u8 0]⟩
  | 54 => some ⟨.one, 1, 8, [.nilfunc]⟩
  | 55 => some ⟨.array 5 5, 5, 5, [.int .u8 0, .int .u8 0, .int .u8 0, .int .u8 0, .int .u8 0]⟩
  | 56 => some ⟨.one, 1, 8, [.nilfunc]⟩
  | 57 => some ⟨.struct [(0, 3), (1, 3)], 2, 16, [.int .i64 0, .int .i64 0]⟩
  | 58 => some ⟨.struct [(0, 3), (1, 3)], 2, 16, [.int .i64 0, .int .i64 0]⟩
  | 59 => some ⟨.one, 1, 8, [.nilfunc]⟩
  | 60 => some ⟨.one, 1, 8, [.nilfunc]⟩
  | 61 => some ⟨.one, 1, 8, [.nilfunc]⟩
  | 62 => some ⟨.array 4 5, 4, 4, [.int .u8 0, .int .u8 0, .int .u8 0, .int .u8 0]⟩
  | 63 => some ⟨.one, 1, 8, [.nilfunc]⟩
  | 64 => some ⟨.one, 1, 8, [.nilfunc]⟩
  | 66 => some ⟨.one, 1, 8, [.nilfunc]⟩
  | 67 => some ⟨.one, 1, 8, [.nilfunc]⟩
  | 68 => some ⟨.one, 1, 8, [.nilfunc]⟩
  | 69 => some ⟨.one, 1, 8, [.nilfunc]⟩
  | 70 => some ⟨.one, 1, 8, [.nilfunc]⟩
  | 71 => some ⟨.one, 1, 8, [.nilfunc]⟩
  | 72 => some ⟨.one, 1, 8, [.nilfunc]⟩
  | 73 => some ⟨.one, 1, 8, [.nilfunc]⟩
  | 74 => some ⟨.one, 1, 8, [.nilfunc]⟩
  | 75 => some ⟨.one, 1, 8, [.nilfunc]⟩
  | 76 => some ⟨.one, 1, 8, [.nilptr]⟩
  | 78 => some ⟨.one, 1, 8, [.nilfunc]⟩
  | 79 => some ⟨.one, 1, 8, [.nilfunc]⟩
  | 80 => some ⟨.one, 1, 8, [.nilfunc]⟩
  | 81 => some ⟨.one, 1, 8, [.nilfunc]⟩
  | 82 => some ⟨.one, 1, 8, [.nilfunc]⟩
  | 83 => some ⟨.one, 1, 8, [.nilfunc]⟩
  | 84 => some ⟨.one, 1, 8, [.nilfunc]⟩
  | 85 => some ⟨.one, 1, 8, [.nilfunc]⟩
  | 86 => some ⟨.one, 1, 8, [.nilfunc]⟩
  | 87 => some ⟨.array 3 3, 3, 24, [.int .i64 0, .int .i64 0, .int .i64 0]⟩
  | 88 => some ⟨.array 3 3, 3, 24, [.int .i64 0, .int .i64 0, .int .i64 0]⟩
  | 89 => some ⟨.map 3 3, 1, 8, [.nilmap]⟩
  | 90 => some ⟨.struct [(0, 26), (6, 88), (9, 89)], 10, 128, [.int .i64 0, .int .i64 0, .slice 1 [], .int .i64 0, .slice 4 [], .slice 2 [], .int .i64 0, .int .i64 0, .int .i64 0, .nilmap]⟩
  | 91 => some ⟨.struct [(0, 26), (6, 88), (9, 89)], 10, 128, [.int .i64 0, .int .i64 0, .slice 1 [], .int .i64 0, .slice 4 [], .slice 2 [], .int .i64 0, .int .i64 0, .int .i64 0, .nilmap]⟩
  | 93 => some ⟨.one, 1, 8, [.nilfunc]⟩
  | 94 => some ⟨.one, 1, 8, [.nilfunc]⟩
  | 95 => some ⟨.struct [(0, 94)], 1, 8, [.nilfunc]⟩
  | 96 => some ⟨.struct [(0, 94)], 1, 8, [.nilfunc]⟩
  | 97 => some ⟨.one, 1, 8, [.nilfunc]⟩
  | 98 => some ⟨.one, 1, 8, [.nilfunc]⟩
  | 99 => some ⟨.slice 27, 1, 24, [.slice 1 []]⟩
  | 100 => some ⟨.one, 1, 8, [.nilfunc]⟩
  | 101 => some ⟨.one, 1, 8, [.nilfunc]⟩
  | 102 => some ⟨.one, 1, 8, [.nilfunc]⟩
  | 103 => some ⟨.one, 1, 8, [.nilfunc]⟩
  | 104 => some ⟨.one, 1, 8, [.nilfunc]⟩
  | 105 => some ⟨.one, 1, 8, [.nilfunc]⟩
  | 106 => some ⟨.one, 1, 8, [.nilfunc]⟩
  | 107 => some ⟨.one, 1, 8, [.nilfunc]⟩
  | 108 => some ⟨.one, 1, 8, [.nilfunc]⟩
  | 109 => some ⟨.one, 1, 8, [.nilfunc]⟩
  | 111 => some ⟨.slice 4, 1, 24, [.slice 1 []]⟩
  | 112 => some ⟨.one, 1, 8, [.nilfunc]⟩
  | 113 => some ⟨.one, 1, 8, [.nilfunc]⟩
  | 114 => some ⟨.one, 1, 8, [.nilfunc]⟩
  | 115 => some ⟨.struct [(0, 17), (1, 17), (2, 17), (3, 9)], 4, 40, [.nilptr, .nilptr, .nilptr, .str ByteArray.empty]⟩
  | 120 => some ⟨.one, 1, 8, [.nilfunc]⟩
  | 121 => some ⟨.int .u32, 1, 4, [.int .u32 0]⟩
  | 124 => some ⟨.one, 1, 8, [.nilfunc]⟩
  | 125 => some ⟨.one, 1, 8, [.nilptr]⟩
  | _ => none
theorem ty_1 : ty 1 = some ⟨.one, 1, 8, [.nilfunc]⟩ := rfl
theorem ty_2 : ty 2 = some ⟨.int .i64, 1, 8, [.int .i64 0]⟩ := rfl
theorem ty_3 : ty 3 = some ⟨.int .i64, 1, 8, [.int .i64 0]⟩ := rfl
theorem ty_4 : ty 4 = some ⟨.bool, 1, 1, [.bool false]⟩ := rfl
theorem ty_5 : ty 5 = some ⟨.int .u8, 1, 1, [.int .u8 0]⟩ := rfl
theorem ty_9 : ty 9 = some ⟨.string, 1, 16, [.str ByteArray.empty]⟩ := rfl
theorem ty_12 : ty 12 = some ⟨.int .u64, 1, 8, [.int .u64 0]⟩ := rfl
theorem ty_13 : ty 13 = some ⟨.struct [(0, 9), (1, 12)], 2, 24, [.str ByteArray.empty, .int .u64 0]⟩ := rfl
theorem ty_15 : ty 15 = some ⟨.one, 1, 8, [.nilptr]⟩ := rfl
theorem ty_16 : ty 16 = some ⟨.one, 1, 8, [.nilptr]⟩ := rfl
theorem ty_17 : ty 17 = some ⟨.one, 1, 8, [.nilptr]⟩ := rfl
theorem ty_18 : ty 18 = some ⟨.struct [(0, 17)], 1, 8, [.nilptr]⟩ := rfl
theorem ty_21 : ty 21 = some ⟨.int .i32, 1, 4, [.int .i32 0]⟩ := rfl
theorem ty_22 : ty 22 = some ⟨.slice 9, 1, 24, [.slice 1 []]⟩ := rfl
theorem ty_23 : ty 23 = some ⟨.slice 51, 1, 24, [.slice 4 []]⟩ := rfl
theorem ty_24 : ty 24 = some ⟨.slice 58, 1, 24, [.slice 2 []]⟩ := rfl
theorem ty_25 : ty 25 = some ⟨.struct [(0, 3), (1, 3), (2, 22), (3, 3), (4, 23), (5, 24)], 6, 96, [.int .i64 0, .int .i64 0, .slice 1 [], .int .i64 0, .slice 4 [], .slice 2 []]⟩ := rfl
theorem ty_26 : ty 26 = some ⟨.struct [(0, 3), (1, 3), (2, 22), (3, 3), (4, 23), (5, 24)], 6, 96, [.int .i64 0, .int .i64 0, .slice 1 [], .int .i64 0, .slice 4 [], .slice 2 []]⟩ := rfl
theorem ty_27 : ty 27 = some ⟨.slice 3, 1, 24, [.slice 1 []]⟩ := rfl
theorem ty_28 : ty 28 = some ⟨.int .i64, 1, 8, [.int .i64 0]⟩ := rfl
theorem ty_30 : ty 30 = some ⟨.one, 1, 8, [.nilfunc]⟩ := rfl
theorem ty_32 : ty 32 = some ⟨.one, 1, 8, [.nilfunc]⟩ := rfl
theorem ty_33 : ty 33 = some ⟨.one, 1, 8, [.nilfunc]⟩ := rfl
theorem ty_34 : ty 34 = some ⟨.one, 1, 8, [.nilfunc]⟩ := rfl
theorem ty_35 : ty 35 = some ⟨.one, 1, 8, [.nilfunc]⟩ := rfl
theorem ty_36 : ty 36 = some ⟨.one, 1, 8, [.nilfunc]⟩ := rfl
theorem ty_37 : ty 37 = some ⟨.array 2 3, 2, 16, [.int .i64 0, .int .i64 0]⟩ := rfl
theorem ty_38 : ty 38 = some ⟨.one, 1, 8, [.nilfunc]⟩ := rfl
theorem ty_39 : ty 39 = some ⟨.one, 1, 8, [.nilfunc]⟩ := rfl
theorem ty_40 : ty 40 = some ⟨.one, 1, 8, [.nilfunc]⟩ := rfl
theorem ty_41 : ty 41 = some ⟨.one, 1, 8, [.nilfunc]⟩ := rfl
theorem ty_42 : ty 42 = some ⟨.one, 1, 8, [.nilfunc]⟩ := rfl
theorem ty_43 : ty 43 = some ⟨.one, 1, 8, [.nilfunc]⟩ := rfl
theorem ty_44 : ty 44 = some ⟨.one, 1, 8, [.nilfunc]⟩ := rfl
theorem ty_45 : ty 45 = some ⟨.array 2 5, 2, 2, [.int .u8 0, .int .u8 0]⟩ := rfl
theorem ty_46 : ty 46 = some ⟨.one, 1, 8, [.nilfunc]⟩ := rfl
theorem ty_47 : ty 47 = some ⟨.one, 1, 8, [.nilfunc]⟩ := rfl
theorem ty_48 : ty 48 = some ⟨.one, 1, 8, [.nilfunc]⟩ := rfl
theorem ty_49 : ty 49 = some ⟨.one, 1, 8, [.nilfunc]⟩ := rfl
theorem ty_50 : ty 50 = some ⟨.struct [(0, 3), (1, 3), (2, 3), (3, 3)], 4, 32, [.int .i64 0, .int .i64 0, .int .i64 0, .int .i64 0]⟩ := rfl
theorem ty_51 : ty 51 = some ⟨.struct [(0, 3), (1, 3), (2, 3), (3, 3)], 4, 32, [.int .i64 0, .int .i64 0, .int .i64 0, .int .i64 0]⟩ := rfl
theorem ty_52 : ty 52 = some ⟨.one, 1, 8, [.nilfunc]⟩ := rfl
theorem ty_53 : ty 53 = some ⟨.array 3 5, 3, 3, [.int .u8 0, .int .u8 0, .int .u8 0]⟩ := rfl
theorem ty_54 : ty 54 = some ⟨.one, 1, 8, [.nilfunc]⟩ := rfl
theorem ty_55 : ty 55 = some ⟨.array 5 5, 5, 5, [.int .u8 0, .int .u8 0, .int .u8 0, .int .u8 0, .int .u8 0]⟩ := rfl
theorem ty_56 : ty 56 = some ⟨.one, 1, 8, [.nilfunc]⟩ := rfl
theorem ty_57 : ty 57 = some ⟨.struct [(0, 3), (1, 3)], 2, 16, [.int .i64 0, .int .i64 0]⟩ := rfl
theorem ty_58 : ty 58 = some ⟨.struct [(0, 3), (1, 3)], 2, 16, [.int .i64 0, .int .i64 0]⟩ := rfl
theorem ty_59 : ty 59 = some ⟨.one, 1, 8, [.nilfunc]⟩ := rfl
theorem ty_60 : ty 60 = some ⟨.one, 1, 8, [.nilfunc]⟩ := rfl
theorem ty_61 : ty 61 = some ⟨.one, 1, 8, [.nilfunc]⟩ := rfl
theorem ty_62 : ty 62 = some ⟨.array 4 5, 4, 4, [.int .u8 0, .int .u8 0, .int .u8 0, .int .u8 0]⟩ := rfl
theorem ty_63 : ty 63 = some ⟨.one, 1, 8, [.nilfunc]⟩ := rfl
theorem ty_64 : ty 64 = some ⟨.one, 1, 8, [.nilfunc]⟩ := rfl
theorem ty_66 : ty 66 = some ⟨.one, 1, 8, [.nilfunc]⟩ := rfl
theorem ty_67 : ty 67 = some ⟨.one, 1, 8, [.nilfunc]⟩ := rfl
theorem ty_68 : ty 68 = some ⟨.one, 1, 8, [.nilfunc]⟩ := rfl
theorem ty_69 : ty 69 = some ⟨.one, 1, 8, [.nilfunc]⟩ := rfl
theorem ty_70 : ty 70 = some ⟨.one, 1, 8, [.nilfunc]⟩ := rfl
theorem ty_71 : ty 71 = some ⟨.one, 1, 8, [.nilfunc]⟩ := rfl
theorem ty_72 : ty 72 = some ⟨.one, 1, 8, [.nilfunc]⟩ := rfl
theorem ty_73 : ty 73 = some ⟨.one, 1, 8, [.nilfunc]⟩ := rfl
theorem ty_74 : ty 74 = some ⟨.one, 1, 8, [.nilfunc]⟩ := rfl
theorem ty_75 : ty 75 = some ⟨.one, 1, 8, [.nilfunc]⟩ := rfl
theorem ty_76 : ty 76 = some ⟨.one, 1, 8, [.nilptr]⟩ := rfl
theorem ty_78 : ty 78 = some ⟨.one, 1, 8, [.nilfunc]⟩ := rfl
theorem ty_79 : ty 79 = some ⟨.one, 1, 8, [.nilfunc]⟩ := rfl
theorem ty_80 : ty 80 = some ⟨.one, 1, 8, [.nilfunc]⟩ := rfl
theorem ty_81 : ty 81 = some ⟨.one, 1, 8, [.nilfunc]⟩ := rfl
theorem ty_82 : ty 82 = some ⟨.one, 1, 8, [.nilfunc]⟩ := rfl
theorem ty_83 : ty 83 = some ⟨.one, 1, 8, [.nilfunc]⟩ := rfl
theorem ty_84 : ty 84 = some ⟨.one, 1, 8, [.nilfunc]⟩ := rfl
theorem ty_85 : ty 85 = some ⟨.one, 1, 8, [.nilfunc]⟩ := rfl
theorem ty_86 : ty 86 = some ⟨.one, 1, 8, [.nilfunc]⟩ := rfl
theorem ty_87 : ty 87 = some ⟨.array 3 3, 3, 24, [.int .i64 0, .int .i64 0, .int .i64 0]⟩ := rfl
theorem ty_88 : ty 88 = some ⟨.array 3 3, 3, 24, [.int .i64 0, .int .i64 0, .int .i64 0]⟩ := rfl
theorem ty_89 : ty 89 = some ⟨.map 3 3, 1, 8, [.nilmap]⟩ := rfl
theorem ty_90 : ty 90 = some ⟨.struct [(0, 26), (6, 88), (9, 89)], 10, 128, [.int .i64 0, .int .i64 0, .slice 1 [], .int .i64 0, .slice 4 [], .slice 2 [], .int .i64 0, .int .i64 0, .int .i64 0, .nilmap]⟩ := rfl
theorem ty_91 : ty 91 = some ⟨.struct [(0, 26), (6, 88), (9, 89)], 10, 128, [.int .i64 0, .int .i64 0, .slice 1 [], .int .i64 0, .slice 4 [], .slice 2 [], .int .i64 0, .int .i64 0, .int .i64 0, .nilmap]⟩ := rfl
theorem ty_93 : ty 93 = some ⟨.one, 1, 8, [.nilfunc]⟩ := rfl
theorem ty_94 : ty 94 = some ⟨.one, 1, 8, [.nilfunc]⟩ := rfl
theorem ty_95 : ty 95 = some ⟨.struct [(0, 94)], 1, 8, [.nilfunc]⟩ := rfl
theorem ty_96 : ty 96 = some ⟨.struct [(0, 94)], 1, 8, [.nilfunc]⟩ := rfl
theorem ty_97 : ty 97 = some ⟨.one, 1, 8, [.nilfunc]⟩ := rfl
theorem ty_98 : ty 98 = some ⟨.one, 1, 8, [.nilfunc]⟩ := rfl
theorem ty_99 : ty 99 = some ⟨.slice 27, 1, 24, [.slice 1 []]⟩ := rfl
theorem ty_100 : ty 100 = some ⟨.one, 1, 8, [.nilfunc]⟩ := rfl
theorem ty_101 : ty 101 = some ⟨.one, 1, 8, [.nilfunc]⟩ := rfl
theorem ty_102 : ty 102 = some ⟨.one, 1, 8, [.nilfunc]⟩ := rfl
theorem ty_103 : ty 103 = some ⟨.one, 1, 8, [.nilfunc]⟩ := rfl
theorem ty_104 : ty 104 = some ⟨.one, 1, 8, [.nilfunc]⟩ := rfl
theorem ty_105 : ty 105 = some ⟨.one, 1, 8, [.nilfunc]⟩ := rfl
theorem ty_106 : ty 106 = some ⟨.one, 1, 8, [.nilfunc]⟩ := rfl
theorem ty_107 : ty 107 = some ⟨.one, 1, 8, [.nilfunc]⟩ := rfl
theorem ty_108 : ty 108 = some ⟨.one, 1, 8, [.nilfunc]⟩ := rfl
theorem ty_109 : ty 109 = some ⟨.one, 1, 8, [.nilfunc]⟩ := rfl
theorem ty_111 : ty 111 = some ⟨.slice 4, 1, 24, [.slice 1 []]⟩ := rfl
theorem ty_112 : ty 112 = some ⟨.one, 1, 8, [.nilfunc]⟩ := rfl
theorem ty_113 : ty 113 = some ⟨.one, 1, 8, [.nilfunc]⟩ := rfl
theorem ty_114 : ty 114 = some ⟨.one, 1, 8, [.nilfunc]⟩ := rfl
theorem ty_115 : ty 115 = some ⟨.struct [(0, 17), (1, 17), (2, 17), (3, 9)], 4, 40, [.nilptr, .nilptr, .nilptr, .str ByteArray.empty]⟩ := rfl
theorem ty_120 : ty 120 = some ⟨.one, 1, 8, [.nilfunc]⟩ := rfl
theorem ty_121 : ty 121 = some ⟨.int .u32, 1, 4, [.int .u32 0]⟩ := rfl
theorem ty_124 : ty 124 = some ⟨.one, 1, 8, [.nilfunc]⟩ := rfl
theorem ty_125 : ty 125 = some ⟨.one, 1, 8, [.nilptr]⟩ := rfl
theorem tyok_1 : TyOk Try.prog 1 ⟨.one, 1, 8, [.nilfunc]⟩ := tyOk_func (by kernel_rfl : Try.prog.info? 1 = some Try.t1) rfl rfl Try.underlying1 rfl
theorem tyok_2 : TyOk Try.prog 2 ⟨.int .i64, 1, 8, [.int .i64 0]⟩ := tyOk_int (by kernel_rfl : Try.prog.info? 2 = some Try.t2) rfl rfl Try.underlying2 rfl
theorem tyok_3 : TyOk Try.prog 3 ⟨.int .i64, 1, 8, [.int .i64 0]⟩ := tyOk_int (by kernel_rfl : Try.prog.info? 3 = some Try.t3) rfl rfl Try.underlying3 rfl
theorem tyok_4 : TyOk Try.prog 4 ⟨.bool, 1, 1, [.bool false]⟩ := tyOk_bool (by kernel_rfl : Try.prog.info? 4 = some Try.t4) rfl rfl Try.underlying4 rfl
theorem tyok_5 : TyOk Try.prog 5 ⟨.int .u8, 1, 1, [.int .u8 0]⟩ := tyOk_int (by kernel_rfl : Try.prog.info? 5 = some Try.t5) rfl rfl Try.underlying5 rfl
theorem tyok_9 : TyOk Try.prog 9 ⟨.string, 1, 16, [.str ByteArray.empty]⟩ := tyOk_string (by kernel_rfl : Try.prog.info? 9 = some Try.t9) rfl rfl Try.underlying9 rfl
theorem tyok_12 : TyOk Try.prog 12 ⟨.int .u64, 1, 8, [.int .u64 0]⟩ := tyOk_int (by kernel_rfl : Try.prog.info? 12 = some Try.t12) rfl rfl Try.underlying12 rfl
theorem tyok_13 : TyOk Try.prog 13 ⟨.struct [(0, 9), (1, 12)], 2, 24, [.str ByteArray.empty, .int .u64 0]⟩ := tyOk_struct (by kernel_rfl : Try.prog.info? 13 = some Try.t13) rfl Try.underlying13 rfl rfl rfl (fun _ _ => .cons (.str _) (.cons (.int _ _) (.nil))) rfl rfl (by kernel_rfl)
theorem tyok_15 : TyOk Try.prog 15 ⟨.one, 1, 8, [.nilptr]⟩ := tyOk_ptr (by kernel_rfl : Try.prog.info? 15 = some Try.t15) rfl rfl Try.underlying15 rfl
theorem tyok_16 : TyOk Try.prog 16 ⟨.one, 1, 8, [.nilptr]⟩ := tyOk_ptr (by kernel_rfl : Try.prog.info? 16 = some Try.t16) rfl rfl Try.underlying16 rfl
theorem tyok_17 : TyOk Try.prog 17 ⟨.one, 1, 8, [.nilptr]⟩ := tyOk_ptr (by kernel_rfl : Try.prog.info? 17 = some Try.t17) rfl rfl Try.underlying17 rfl
theorem tyok_18 : TyOk Try.prog 18 ⟨.struct [(0, 17)], 1, 8, [.nilptr]⟩ := tyOk_struct (by kernel_rfl : Try.prog.info? 18 = some Try.t18) rfl Try.underlying18 rfl rfl rfl (fun _ _ => .cons (.nilptr) (.nil)) rfl rfl (by kernel_rfl)
theorem tyok_21 : TyOk Try.prog 21 ⟨.int .i32, 1, 4, [.int .i32 0]⟩ := tyOk_int (by kernel_rfl : Try.prog.info? 21 = some Try.t21) rfl rfl Try.underlying21 rfl
theorem tyok_22 : TyOk Try.prog 22 ⟨.slice 9, 1, 24, [.slice 1 []]⟩ := tyOk_slice (by kernel_rfl : Try.prog.info? 22 = some Try.t22) rfl rfl Try.underlying22 rfl
theorem tyok_23 : TyOk Try.prog 23 ⟨.slice 51, 1, 24, [.slice 4 []]⟩ := tyOk_slice (by kernel_rfl : Try.prog.info? 23 = some Try.t23) rfl rfl Try.underlying23 rfl
theorem tyok_24 : TyOk Try.prog 24 ⟨.slice 58, 1, 24, [.slice 2 []]⟩ := tyOk_slice (by kernel_rfl : Try.prog.info? 24 = some Try.t24) rfl rfl Try.underlying24 rfl
theorem tyok_25 : TyOk Try.prog 25 ⟨.struct [(0, 3), (1, 3), (2, 22), (3, 3), (4, 23), (5, 24)], 6, 96, [.int .i64 0, .int .i64 0, .slice 1 [], .int .i64 0, .slice 4 [], .slice 2 []]⟩ := tyOk_struct (by kernel_rfl : Try.prog.info? 25 = some Try.t25) rfl Try.underlying25 rfl rfl rfl (fun _ _ => .cons (.int _ _) (.cons (.int _ _) (.cons (.nilslice _) (.cons (.int _ _) (.cons (.nilslice _) (.cons (.nilslice _) (.nil))))))) rfl rfl (by kernel_rfl)
theorem tyok_26 : TyOk Try.prog 26 ⟨.struct [(0, 3), (1, 3), (2, 22), (3, 3), (4, 23), (5, 24)], 6, 96, [.int .i64 0, .int .i64 0, .slice 1 [], .int .i64 0, .slice 4 [], .slice 2 []]⟩ := tyOk_struct (by kernel_rfl : Try.prog.info? 26 = some Try.t26) rfl Try.underlying26 rfl rfl rfl (fun _ _ => .cons (.int _ _) (.cons (.int _ _) (.cons (.nilslice _) (.cons (.int _ _) (.cons (.nilslice _) (.cons (.nilslice _) (.nil))))))) rfl rfl (by kernel_rfl)
theorem tyok_27 : TyOk Try.prog 27 ⟨.slice 3, 1, 24, [.slice 1 []]⟩ := tyOk_slice (by kernel_rfl : Try.prog.info? 27 = some Try.t27) rfl rfl Try.underlying27 rfl
theorem tyok_28 : TyOk Try.prog 28 ⟨.int .i64, 1, 8, [.int .i64 0]⟩ := tyOk_int (by kernel_rfl : Try.prog.info? 28 = some Try.t28) rfl rfl Try.underlying28 rfl
theorem tyok_30 : TyOk Try.prog 30 ⟨.one, 1, 8, [.nilfunc]⟩ := tyOk_func (by kernel_rfl : Try.prog.info? 30 = some Try.t30) rfl rfl Try.underlying30 rfl
theorem tyok_32 : TyOk Try.prog 32 ⟨.one, 1, 8, [.nilfunc]⟩ := tyOk_func (by kernel_rfl : Try.prog.info? 32 = some Try.t32) rfl rfl Try.underlying32 rfl
theorem tyok_33 : TyOk Try.prog 33 ⟨.one, 1, 8, [.nilfunc]⟩ := tyOk_func (by kernel_rfl : Try.prog.info? 33 = some Try.t33) rfl rfl Try.underlying33 rfl
theorem tyok_34 : TyOk Try.prog 34 ⟨.one, 1, 8, [.nilfunc]⟩ := tyOk_func (by kernel_rfl : Try.prog.info? 34 = some Try.t34) rfl rfl Try.underlying34 rfl
theorem tyok_35 : TyOk Try.prog 35 ⟨.one, 1, 8, [.nilfunc]⟩ := tyOk_func (by kernel_rfl : Try.prog.info? 35 = some Try.t35) rfl rfl Try.underlying35 rfl
theorem tyok_36 : TyOk Try.prog 36 ⟨.one, 1, 8, [.nilfunc]⟩ := tyOk_func (by kernel_rfl : Try.prog.info? 36 = some Try.t36) rfl rfl Try.underlying36 rfl
theorem tyok_37 : TyOk Try.prog 37 ⟨.array 2 3, 2, 16, [.int .i64 0, .int .i64 0]⟩ := tyOk_array (by kernel_rfl : Try.prog.info? 37 = some Try.t37) rfl Try.underlying37 rfl rfl (fun _ _ => .cons (.int _ _) (.cons (.int _ _) (.nil))) rfl rfl
theorem tyok_38 : TyOk Try.prog 38 ⟨.one, 1, 8, [.nilfunc]⟩ := tyOk_func (by kernel_rfl : Try.prog.info? 38 = some Try.t38) rfl rfl Try.underlying38 rfl
theorem tyok_39 : TyOk Try.prog 39 ⟨.one, 1, 8, [.nilfunc]⟩ := tyOk_func (by kernel_rfl : Try.prog.info? 39 = some Try.t39) rfl rfl Try.underlying39 rfl
theorem tyok_40 : TyOk Try.prog 40 ⟨.one, 1, 8, [.nilfunc]⟩ := tyOk_func (by kernel_rfl : Try.prog.info? 40 = some Try.t40) rfl rfl Try.underlying40 rfl
theorem tyok_41 : TyOk Try.prog 41 ⟨.one, 1, 8, [.nilfunc]⟩ := tyOk_func (by kernel_rfl : Try.prog.info? 41 = some Try.t41) rfl rfl Try.underlying41 rfl
theorem tyok_42 : TyOk Try.prog 42 ⟨.one, 1, 8, [.nilfunc]⟩ := tyOk_func (by kernel_rfl : Try.prog.info? 42 = some Try.t42) rfl rfl Try.underlying42 rfl
theorem tyok_43 : TyOk Try.prog 43 ⟨.one, 1, 8, [.nilfunc]⟩ := tyOk_func (by kernel_rfl : Try.prog.info? 43 = some Try.t43) rfl rfl Try.underlying43 rfl
theorem tyok_44 : TyOk Try.prog 44 ⟨.one, 1, 8, [.nilfunc]⟩ := tyOk_func (by kernel_rfl : Try.prog.info? 44 = some Try.t44) rfl rfl Try.underlying44 rfl
theorem tyok_45 : TyOk Try.prog 45 ⟨.array 2 5, 2, 2, [.int .u8 0, .int .u8 0]⟩ := tyOk_array (by kernel_rfl : Try.prog.info? 45 = some Try.t45) rfl Try.underlying45 rfl rfl (fun _ _ => .cons (.int _ _) (.cons (.int _ _) (.nil))) rfl rfl
theorem tyok_46 : TyOk Try.prog 46 ⟨.one, 1, 8, [.nilfunc]⟩ := tyOk_func (by kernel_rfl : Try.prog.info? 46 = some Try.t46) rfl rfl Try.underlying46 rfl
theorem tyok_47 : TyOk Try.prog 47 ⟨.one, 1, 8, [.nilfunc]⟩ := tyOk_func (by kernel_rfl : Try.prog.info? 47 = some Try.t47) rfl rfl Try.underlying47 rfl
theorem tyok_48 : TyOk Try.prog 48 ⟨.one, 1, 8, [.nilfunc]⟩ := tyOk_func (by kernel_rfl : Try.prog.info? 48 = some Try.t48) rfl rfl Try.underlying48 rfl
theorem tyok_49 : TyOk Try.prog 49 ⟨.one, 1, 8, [.nilfunc]⟩ := tyOk_func (by kernel_rfl : Try.prog.info? 49 = some Try.t49) rfl rfl Try.underlying49 rfl
theorem tyok_50 : TyOk Try.prog 50 ⟨.struct [(0, 3), (1, 3), (2, 3), (3, 3)], 4, 32, [.int .i64 0, .int .i64 0, .int .i64 0, .int .i64 0]⟩ := tyOk_struct (by kernel_rfl : Try.prog.info? 50 = some Try.t50) rfl Try.underlying50 rfl rfl rfl (fun _ _ => .cons (.int _ _) (.cons (.int _ _) (.cons (.int _ _) (.cons (.int _ _) (.nil))))) rfl rfl (by kernel_rfl)
theorem tyok_51 : TyOk Try.prog 51 ⟨.struct [(0, 3), (1, 3), (2, 3), (3, 3)], 4, 32, [.int .i64 0, .int .i64 0, .int .i64 0, .int .i64 0]⟩ := tyOk_struct (by kernel_rfl : Try.prog.info? 51 = some Try.t51) rfl Try.underlying51 rfl rfl rfl (fun _ _ => .cons (.int _ _) (.cons (.int _ _) (.cons (.int _ _) (.cons (.int _ _) (.nil))))) rfl rfl (by kernel_rfl)
theorem tyok_52 : TyOk Try.prog 52 ⟨.one, 1, 8, [.nilfunc]⟩ := tyOk_func (by kernel_rfl : Try.prog.info? 52 = some Try.t52) rfl rfl Try.underlying52 rfl
theorem tyok_53 : TyOk Try.prog 53 ⟨.array 3 5, 3, 3, [.int .u8 0, .int .u8 0, .int .u8 0]⟩ := tyOk_array (by kernel_rfl : Try.prog.info? 53 = some Try.t53) rfl Try.underlying53 rfl rfl (fun _ _ => .cons (.int _ _) (.cons (.int _ _) (.cons (.int _ _) (.nil)))) rfl rfl
theorem tyok_54 : TyOk Try.prog 54 ⟨.one, 1, 8, [.nilfunc]⟩ := tyOk_func (by kernel_rfl : Try.prog.info? 54 = some Try.t54) rfl rfl Try.underlying54 rfl
theorem tyok_55 : TyOk Try.prog 55 ⟨.array 5 5, 5, 5, [.int .u8 0, .int .u8 0, .int .u8 0, .int .u8 0, .int .u8 0]⟩ := tyOk_array (by kernel_rfl : Try.prog.info? 55 = some Try.t55) rfl Try.underlying55 rfl rfl (fun _ _ => .cons (.int _ _) (.cons (.int _ _) (.cons (.int _ _) (.cons (.int _ _) (.cons (.int _ _) (.nil)))))) rfl rfl
theorem tyok_56 : TyOk Try.prog 56 ⟨.one, 1, 8, [.nilfunc]⟩ := tyOk_func (by kernel_rfl : Try.prog.info? 56 = some Try.t56) rfl rfl Try.underlying56 rfl
theorem tyok_57 : TyOk Try.prog 57 ⟨.struct [(0, 3), (1, 3)], 2, 16, [.int .i64 0, .int .i64 0]⟩ := tyOk_struct (by kernel_rfl : Try.prog.info? 57 = some Try.t57) rfl Try.underlying57 rfl rfl rfl (fun _ _ => .cons (.int _ _) (.cons (.int _ _) (.nil))) rfl rfl (by kernel_rfl)
theorem tyok_58 : TyOk Try.prog 58 ⟨.struct [(0, 3), (1, 3)], 2, 16, [.int .i64 0, .int .i64 0]⟩ := tyOk_struct (by kernel_rfl : Try.prog.info? 58 = some Try.t58) rfl Try.underlying58 rfl rfl rfl (fun _ _ => .cons (.int _ _) (.cons (.int _ _) (.nil))) rfl rfl (by kernel_rfl)
theorem tyok_59 : TyOk Try.prog 59 ⟨.one, 1, 8, [.nilfunc]⟩ := tyOk_func (by kernel_rfl : Try.prog.info? 59 = some Try.t59) rfl rfl Try.underlying59 rfl
theorem tyok_60 : TyOk Try.prog 60 ⟨.one, 1, 8, [.nilfunc]⟩ := tyOk_func (by kernel_rfl : Try.prog.info? 60 = some Try.t60) rfl rfl Try.underlying60 rfl
theorem tyok_61 : TyOk Try.prog 61 ⟨.one, 1, 8, [.nilfunc]⟩ := tyOk_func (by kernel_rfl : Try.prog.info? 61 = some Try.t61) rfl rfl Try.underlying61 rfl
theorem tyok_62 : TyOk Try.prog 62 ⟨.array 4 5, 4, 4, [.int .u8 0, .int .u8 0, .int .u8 0, .int .u8 0]⟩ := tyOk_array (by kernel_rfl : Try.prog.info? 62 = some Try.t62) rfl Try.underlying62 rfl rfl (fun _ _ => .cons (.int _ _) (.cons (.int _ _) (.cons (.int _ _) (.cons (.int _ _) (.nil))))) rfl rfl
theorem tyok_63 : TyOk Try.prog 63 ⟨.one, 1, 8, [.nilfunc]⟩ := tyOk_func (by kernel_rfl : Try.prog.info? 63 = some Try.t63) rfl rfl Try.underlying63 rfl
theorem tyok_64 : TyOk Try.prog 64 ⟨.one, 1, 8, [.nilfunc]⟩ := tyOk_func (by kernel_rfl : Try.prog.info? 64 = some Try.t64) rfl rfl Try.underlying64 rfl
theorem tyok_66 : TyOk Try.prog 66 ⟨.one, 1, 8, [.nilfunc]⟩ := tyOk_func (by kernel_rfl : Try.prog.info? 66 = some Try.t66) rfl rfl Try.underlying66 rfl
theorem tyok_67 : TyOk Try.prog 67 ⟨.one, 1, 8, [.nilfunc]⟩ := tyOk_func (by kernel_rfl : Try.prog.info? 67 = some Try.t67) rfl rfl Try.underlying67 rfl
theorem tyok_68 : TyOk Try.prog 68 ⟨.one, 1, 8, [.nilfunc]⟩ := tyOk_func (by kernel_rfl : Try.prog.info? 68 = some Try.t68) rfl rfl Try.underlying68 rfl
theorem tyok_69 : TyOk Try.prog 69 ⟨.one, 1, 8, [.nilfunc]⟩ := tyOk_func (by kernel_rfl : Try.prog.info? 69 = some Try.t69) rfl rfl Try.underlying69 rfl
theorem tyok_70 : TyOk Try.prog 70 ⟨.one, 1, 8, [.nilfunc]⟩ := tyOk_func (by kernel_rfl : Try.prog.info? 70 = some Try.t70) rfl rfl Try.underlying70 rfl
theorem tyok_71 : TyOk Try.prog 71 ⟨.one, 1, 8, [.nilfunc]⟩ := tyOk_func (by kernel_rfl : Try.prog.info? 71 = some Try.t71) rfl rfl Try.underlying71 rfl
theorem tyok_72 : TyOk Try.prog 72 ⟨.one, 1, 8, [.nilfunc]⟩ := tyOk_func (by kernel_rfl : Try.prog.info? 72 = some Try.t72) rfl rfl Try.underlying72 rfl
theorem tyok_73 : TyOk Try.prog 73 ⟨.one, 1, 8, [.nilfunc]⟩ := tyOk_func (by kernel_rfl : Try.prog.info? 73 = some Try.t73) rfl rfl Try.underlying73 rfl
theorem tyok_74 : TyOk Try.prog 74 ⟨.one, 1, 8, [.nilfunc]⟩ := tyOk_func (by kernel_rfl : Try.prog.info? 74 = some Try.t74) rfl rfl Try.underlying74 rfl
theorem tyok_75 : TyOk Try.prog 75 ⟨.one, 1, 8, [.nilfunc]⟩ := tyOk_func (by kernel_rfl : Try.prog.info? 75 = some Try.t75) rfl rfl Try.underlying75 rfl
theorem tyok_76 : TyOk Try.prog 76 ⟨.one, 1, 8, [.nilptr]⟩ := tyOk_ptr (by kernel_rfl : Try.prog.info? 76 = some Try.t76) rfl rfl Try.underlying76 rfl
theorem tyok_78 : TyOk Try.prog 78 ⟨.one, 1, 8, [.nilfunc]⟩ := tyOk_func (by kernel_rfl : Try.prog.info? 78 = some Try.t78) rfl rfl Try.underlying78 rfl
theorem tyok_79 : TyOk Try.prog 79 ⟨.one, 1, 8, [.nilfunc]⟩ := tyOk_func (by kernel_rfl : Try.prog.info? 79 = some Try.t79) rfl rfl Try.underlying79 rfl
theorem tyok_80 : TyOk Try.prog 80 ⟨.one, 1, 8, [.nilfunc]⟩ := tyOk_func (by kernel_rfl : Try.prog.info? 80 = some Try.t80) rfl rfl Try.underlying80 rfl
theorem tyok_81 : TyOk Try.prog 81 ⟨.one, 1, 8, [.nilfunc]⟩ := tyOk_func (by kernel_rfl : Try.prog.info? 81 = some Try.t81) rfl rfl Try.underlying81 rfl
theorem tyok_82 : TyOk Try.prog 82 ⟨.one, 1, 8, [.nilfunc]⟩ := tyOk_func (by kernel_rfl : Try.prog.info? 82 = some Try.t82) rfl rfl Try.underlying82 rfl
theorem tyok_83 : TyOk Try.prog 83 ⟨.one, 1, 8, [.nilfunc]⟩ := tyOk_func (by kernel_rfl : Try.prog.info? 83 = some Try.t83) rfl rfl Try.underlying83 rfl
theorem tyok_84 : TyOk Try.prog 84 ⟨.one, 1, 8, [.nilfunc]⟩ := tyOk_func (by kernel_rfl : Try.prog.info? 84 = some Try.t84) rfl rfl Try.underlying84 rfl
theorem tyok_85 : TyOk Try.prog 85 ⟨.one, 1, 8, [.nilfunc]⟩ := tyOk_func (by kernel_rfl : Try.prog.info? 85 = some Try.t85) rfl rfl Try.underlying85 rfl
theorem tyok_86 : TyOk Try.prog 86 ⟨.one, 1, 8, [.nilfunc]⟩ := tyOk_func (by kernel_rfl : Try.prog.info? 86 = some Try.t86) rfl rfl Try.underlying86 rfl
theorem tyok_87 : TyOk Try.prog 87 ⟨.array 3 3, 3, 24, [.int .i64 0, .int .i64 0, .int .i64 0]⟩ := tyOk_array (by kernel_rfl : Try.prog.info? 87 = some Try.t87) rfl Try.underlying87 rfl rfl (fun _ _ => .cons (.int _ _) (.cons (.int _ _) (.cons (.int _ _) (.nil)))) rfl rfl
theorem tyok_88 : TyOk Try.prog 88 ⟨.array 3 3, 3, 24, [.int .i64 0, .int .i64 0, .int .i64 0]⟩ := tyOk_array (by kernel_rfl : Try.prog.info? 88 = some Try.t88) rfl Try.underlying88 rfl rfl (fun _ _ => .cons (.int _ _) (.cons (.int _ _) (.cons (.int _ _) (.nil)))) rfl rfl
theorem tyok_89 : TyOk Try.prog 89 ⟨.map 3 3, 1, 8, [.nilmap]⟩ := tyOk_map (by kernel_rfl : Try.prog.info? 89 = some Try.t89) rfl rfl Try.underlying89 rfl
theorem tyok_90 : TyOk Try.prog 90 ⟨.struct [(0, 26), (6, 88), (9, 89)], 10, 128, [.int .i64 0, .int .i64 0, .slice 1 [], .int .i64 0, .slice 4 [], .slice 2 [], .int .i64 0, .int .i64 0, .int .i64 0, .nilmap]⟩ := tyOk_struct (by kernel_rfl : Try.prog.info? 90 = some Try.t90) rfl Try.underlying90 rfl rfl rfl (fun _ _ => .cons (.int _ _) (.cons (.int _ _) (.cons (.nilslice _) (.cons (.int _ _) (.cons (.nilslice _) (.cons (.nilslice _) (.cons (.int _ _) (.cons (.int _ _) (.cons (.int _ _) (.cons (.nilmap) (.nil))))))))))) rfl rfl (by kernel_rfl)
theorem tyok_91 : TyOk Try.prog 91 ⟨.struct [(0, 26), (6, 88), (9, 89)], 10, 128, [.int .i64 0, .int .i64 0, .slice 1 [], .int .i64 0, .slice 4 [], .slice 2 [], .int .i64 0, .int .i64 0, .int .i64 0, .nilmap]⟩ := tyOk_struct (by kernel_rfl : Try.prog.info? 91 = some Try.t91) rfl Try.underlying91 rfl rfl rfl (fun _ _ => .cons (.int _ _) (.cons (.int _ _) (.cons (.nilslice _) (.cons (.int _ _) (.cons (.nilslice _) (.cons (.nilslice _) (.cons (.int _ _) (.cons (.int _ _) (.cons (.int _ _) (.cons (.nilmap) (.nil))))))))))) rfl rfl (by kernel_rfl)
theorem tyok_93 : TyOk Try.prog 93 ⟨.one, 1, 8, [.nilfunc]⟩ := tyOk_func (by kernel_rfl : Try.prog.info? 93 = some Try.t93) rfl rfl Try.underlying93 rfl
theorem tyok_94 : TyOk Try.prog 94 ⟨.one, 1, 8, [.nilfunc]⟩ := tyOk_func (by kernel_rfl : Try.prog.info? 94 = some Try.t94) rfl rfl Try.underlying94 rfl
theorem tyok_95 : TyOk Try.prog 95 ⟨.struct [(0, 94)], 1, 8, [.nilfunc]⟩ := tyOk_struct (by kernel_rfl : Try.prog.info? 95 = some Try.t95) rfl Try.underlying95 rfl rfl rfl (fun _ _ => .cons (.nilfunc) (.nil)) rfl rfl (by kernel_rfl)
theorem tyok_96 : TyOk Try.prog 96 ⟨.struct [(0, 94)], 1, 8, [.nilfunc]⟩ := tyOk_struct (by kernel_rfl : Try.prog.info? 96 = some Try.t96) rfl Try.underlying96 rfl rfl rfl (fun _ _ => .cons (.nilfunc) (.nil)) rfl rfl (by kernel_rfl)
theorem tyok_97 : TyOk Try.prog 97 ⟨.one, 1, 8, [.nilfunc]⟩ := tyOk_func (by kernel_rfl : Try.prog.info? 97 = some Try.t97) rfl rfl Try.underlying97 rfl
theorem tyok_98 : TyOk Try.prog 98 ⟨.one, 1, 8, [.nilfunc]⟩ := tyOk_func (by kernel_rfl : Try.prog.info? 98 = some Try.t98) rfl rfl Try.underlying98 rfl
theorem tyok_99 : TyOk Try.prog 99 ⟨.slice 27, 1, 24, [.slice 1 []]⟩ := tyOk_slice (by kernel_rfl : Try.prog.info? 99 = some Try.t99) rfl rfl Try.underlying99 rfl
theorem tyok_100 : TyOk Try.prog 100 ⟨.one, 1, 8, [.nilfunc]⟩ := tyOk_func (by kernel_rfl : Try.prog.info? 100 = some Try.t100) rfl rfl Try.underlying100 rfl
theorem tyok_101 : TyOk Try.prog 101 ⟨.one, 1, 8, [.nilfunc]⟩ := tyOk_func (by kernel_rfl : Try.prog.info? 101 = some Try.t101) rfl rfl Try.underlying101 rfl
theorem tyok_102 : TyOk Try.prog 102 ⟨.one, 1, 8, [.nilfunc]⟩ := tyOk_func (by kernel_rfl : Try.prog.info? 102 = some Try.t102) rfl rfl Try.underlying102 rfl
theorem tyok_103 : TyOk Try.prog 103 ⟨.one, 1, 8, [.nilfunc]⟩ := tyOk_func (by kernel_rfl : Try.prog.info? 103 = some Try.t103) rfl rfl Try.underlying103 rfl
theorem tyok_104 : TyOk Try.prog 104 ⟨.one, 1, 8, [.nilfunc]⟩ := tyOk_func (by kernel_rfl : Try.prog.info? 104 = some Try.t104) rfl rfl Try.underlying104 rfl
theorem tyok_105 : TyOk Try.prog 105 ⟨.one, 1, 8, [.nilfunc]⟩ := tyOk_func (by kernel_rfl : Try.prog.info? 105 = some Try.t105) rfl rfl Try.underlying105 rfl
theorem tyok_106 : TyOk Try.prog 106 ⟨.one, 1, 8, [.nilfunc]⟩ := tyOk_func (by kernel_rfl : Try.prog.info? 106 = some Try.t106) rfl rfl Try.underlying106 rfl
theorem tyok_107 : TyOk Try.prog 107 ⟨.one, 1, 8, [.nilfunc]⟩ := tyOk_func (by kernel_rfl : Try.prog.info? 107 = some Try.t107) rfl rfl Try.underlying107 rfl
theorem tyok_108 : TyOk Try.prog 108 ⟨.one, 1, 8, [.nilfunc]⟩ := tyOk_func (by kernel_rfl : Try.prog.info? 108 = some Try.t108) rfl rfl Try.underlying108 rfl
theorem tyok_109 : TyOk Try.prog 109 ⟨.one, 1, 8, [.nilfunc]⟩ := tyOk_func (by kernel_rfl : Try.prog.info? 109 = some Try.t109) rfl rfl Try.underlying109 rfl
theorem tyok_111 : TyOk Try.prog 111 ⟨.slice 4, 1, 24, [.slice 1 []]⟩ := tyOk_slice (by kernel_rfl : Try.prog.info? 111 = some Try.t111) rfl rfl Try.underlying111 rfl
theorem tyok_112 : TyOk Try.prog 112 ⟨.one, 1, 8, [.nilfunc]⟩ := tyOk_func (by kernel_rfl : Try.prog.info? 112 = some Try.t112) rfl rfl Try.underlying112 rfl
theorem tyok_113 : TyOk Try.prog 113 ⟨.one, 1, 8, [.nilfunc]⟩ := tyOk_func (by kernel_rfl : Try.prog.info? 113 = some Try.t113) rfl rfl Try.underlying113 rfl
theorem tyok_114 : TyOk Try.prog 114 ⟨.one, 1, 8, [.nilfunc]⟩ := tyOk_func (by kernel_rfl : Try.prog.info? 114 = some Try.t114) rfl rfl Try.underlying114 rfl
theorem tyok_115 : TyOk Try.prog 115 ⟨.struct [(0, 17), (1, 17), (2, 17), (3, 9)], 4, 40, [.nilptr, .nilptr, .nilptr, .str ByteArray.empty]⟩ := tyOk_struct (by kernel_rfl : Try.prog.info? 115 = some Try.t115) rfl Try.underlying115 rfl rfl rfl (fun _ _ => .cons (.nilptr) (.cons (.nilptr) (.cons (.nilptr) (.cons (.str _) (.nil))))) rfl rfl (by kernel_rfl)
theorem tyok_120 : TyOk Try.prog 120 ⟨.one, 1, 8, [.nilfunc]⟩ := tyOk_func (by kernel_rfl : Try.prog.info? 120 = some Try.t120) rfl rfl Try.underlying120 rfl
theorem tyok_121 : TyOk Try.prog 121 ⟨.int .u32, 1, 4, [.int .u32 0]⟩ := tyOk_int (by kernel_rfl : Try.prog.info? 121 = some Try.t121) rfl rfl Try.underlying121 rfl
theorem tyok_124 : TyOk Try.prog 124 ⟨.one, 1, 8, [.nilfunc]⟩ := tyOk_func (by kernel_rfl : Try.prog.info? 124 = some Try.t124) rfl rfl Try.underlying124 rfl
theorem tyok_125 : TyOk Try.prog 125 ⟨.one, 1, 8, [.nilptr]⟩ := tyOk_ptr (by kernel_rfl : Try.prog.info? 125 = some Try.t125) rfl rfl Try.underlying125 rfl
theorem ty_0 : ty 0 = none := rfl
noncomputable def envC (H : Nat → Mode) (rd : Bool) (cut : List Nat) : Env := ⟨Try.prog, ty, H, rd, cut⟩
noncomputable def env (H : Nat → Mode) : Env := ⟨Try.prog, ty, H, false, []⟩
noncomputable def envR (H : Nat → Mode) : Env := ⟨Try.prog, ty, H, true, []⟩
theorem envOk (H : Nat → Mode) : EnvOk (env H) := by
  intro t i h
  show TyOk Try.prog t i
  have h : ty t = some i := h
  unfold ty at h
  split at h
  · cases h; exact tyok_1
  · cases h; exact tyok_2
  · cases h; exact tyok_3
  · cases h; exact tyok_4
  · cases h; exact tyok_5
  · cases h; exact tyok_9
  · cases h; exact tyok_12
  · cases h; exact tyok_13
  · cases h; exact tyok_15
  · cases h; exact tyok_16
  · cases h; exact tyok_17
  · cases h; exact tyok_18
  · cases h; exact tyok_21
  · cases h; exact tyok_22
  · cases h; exact tyok_23
  · cases h; exact tyok_24
  · cases h; exact tyok_25
  · cases h; exact tyok_26
  · cases h; exact tyok_27
  · cases h; exact tyok_28
  · cases h; exact tyok_30
  · cases h; exact tyok_32
  · cases h; exact tyok_33
  · cases h; exact tyok_34
  · cases h; exact tyok_35
  · cases h; exact tyok_36
  · cases h; exact tyok_37
  · cases h; exact tyok_38
  · cases h; exact tyok_39
  · cases h; exact tyok_40
  · cases h; exact tyok_41
  · cases h; exact tyok_42
  · cases h; exact tyok_43
  · cases h; exact tyok_44
  · cases h; exact tyok_45
  · cases h; exact tyok_46
  · cases h; exact tyok_47
  · cases h; exact tyok_48
  · cases h; exact tyok_49
  · cases h; exact tyok_50
  · cases h; exact tyok_51
  · cases h; exact tyok_52
  · cases h; exact tyok_53
  · cases h; exact tyok_54
  · cases h; exact tyok_55
  · cases h; exact tyok_56
  · cases h; exact tyok_57
  · cases h; exact tyok_58
  · cases h; exact tyok_59
  · cases h; exact tyok_60
  · cases h; exact tyok_61
  · cases h; exact tyok_62
  · cases h; exact tyok_63
  · cases h; exact tyok_64
  · cases h; exact tyok_66
  · cases h; exact tyok_67
  · cases h; exact tyok_68
  · cases h; exact tyok_69
  · cases h; exact tyok_70
  · cases h; exact tyok_71
  · cases h; exact tyok_72
  · cases h; exact tyok_73
  · cases h; exact tyok_74
  · cases h; exact tyok_75
  · cases h; exact tyok_76
  · cases h; exact tyok_78
  · cases h; exact tyok_79
  · cases h; exact tyok_80
  · cases h; exact tyok_81
  · cases h; exact tyok_82
  · cases h; exact tyok_83
  · cases h; exact tyok_84
  · cases h; exact tyok_85
  · cases h; exact tyok_86
  · cases h; exact tyok_87
  · cases h; exact tyok_88
  · cases h; exact tyok_89
  · cases h; exact tyok_90
  · cases h; exact tyok_91
  · cases h; exact tyok_93
  · cases h; exact tyok_94
  · cases h; exact tyok_95
  · cases h; exact tyok_96
  · cases h; exact tyok_97
  · cases h; exact tyok_98
  · cases h; exact tyok_99
  · cases h; exact tyok_100
  · cases h; exact tyok_101
  · cases h; exact tyok_102
  · cases h; exact tyok_103
  · cases h; exact tyok_104
  · cases h; exact tyok_105
  · cases h; exact tyok_106
  · cases h; exact tyok_107
  · cases h; exact tyok_108
  · cases h; exact tyok_109
  · cases h; exact tyok_111
  · cases h; exact tyok_112
  · cases h; exact tyok_113
  · cases h; exact tyok_114
  · cases h; exact tyok_115
  · cases h; exact tyok_120
  · cases h; exact tyok_121
  · cases h; exact tyok_124
  · cases h; exact tyok_125
  · cases h
theorem envROk (H : Nat → Mode) : EnvOk (envR H) := envOk H
theorem envCOk (H : Nat → Mode) (rd : Bool) (cut : List Nat) : EnvOk (envC H rd cut) := envOk H
end Go.Proofs.Ytakkdmdkelbnjaa.Abs

/- The abstract machine, part 18: small laws by which conditions are worked out. -/
namespace Go.Proofs.Ytakkdmdkelbnjaa.Abs
set_option linter.unusedSimpArgs false
open Go Go.RowKit

@[congr] theorem vcSome.cong {α : Type} {o o' : Option α} {K : α → Prop} (h : o = o') : vcSome o K = vcSome o' K := by rw [h]
@[congr] theorem vcOps.cong {E : Env} {ops : Array Oper} {l l' : List Oper} {K : St → Prop} {st st' : St} (h : l = l') (hs : st = st') : vcOps E ops l K st = vcOps E ops l' K st' := by rw [h, hs]
@[congr] theorem vcOpsD.cong {E : Env} {ops : Array Oper} {fl fl' : List Fl} {l l' : List Oper} {K : St → Prop} {st st' : St} (hf : fl = fl') (h : l = l') (hs : st = st') : vcOpsD E ops fl l K st = vcOpsD E ops fl' l' K st' := by rw [hf, h, hs]
@[congr] theorem Back.cong {α : Type} {I : α → Head} {J : α → Prop} {m : α → Nat} {x : α} {st st' : St} (h : st = st') : Back I J m x st = Back I J m x st' := by rw [h]

theorem env_T (H : Nat → Mode) : (env H).T = ty := rfl
theorem env_P (H : Nat → Mode) : (env H).P = Try.prog := rfl
theorem env_H (H : Nat → Mode) : (env H).H = H := rfl
theorem env_cut (H : Nat → Mode) : (env H).cut = [] := rfl
theorem envR_cut (H : Nat → Mode) : (envR H).cut = [] := rfl
theorem envC_T (H : Nat → Mode) (r : Bool) (c : List Nat) : (envC H r c).T = ty := rfl
theorem envC_P (H : Nat → Mode) (r : Bool) (c : List Nat) : (envC H r c).P = Try.prog := rfl
theorem envC_H (H : Nat → Mode) (r : Bool) (c : List Nat) : (envC H r c).H = H := rfl
theorem envC_cut (H : Nat → Mode) (r : Bool) (c : List Nat) : (envC H r c).cut = c := rfl
theorem envR_T (H : Nat → Mode) : (envR H).T = ty := rfl
theorem envR_P (H : Nat → Mode) : (envR H).P = Try.prog := rfl
theorem envR_H (H : Nat → Mode) : (envR H).H = H := rfl

/-- How the variables of some slots are kept. -/
def modeAt (own sh : List Nat) (i : Nat) : Mode := if cutAt own i = true then .own else if cutAt sh i = true then .shared else .imm

theorem inR_i64 (n : Int) : inR .i64 n ↔ (-9223372036854775808 ≤ n ∧ n ≤ 9223372036854775807) := by
  simp [inR, IntKind.min, IntKind.max, IntKind.signed, IntKind.bits]
theorem inR_u8 (n : Int) : inR .u8 n ↔ (0 ≤ n ∧ n ≤ 255) := by
  simp [inR, IntKind.min, IntKind.max, IntKind.signed, IntKind.bits]
theorem maxLen_eq : maxLen = 9223372036854775807 := rfl

/-- Slices of numbers. -/
def ints (l : List Int) : AV := .slice 1 (l.map (AV.int .i64))

@[congr] theorem VIdx.cong {l l' : List AV} {i i' : Int} {K : AV → Prop} (h : l = l') (hi : i = i') : VIdx l i K = VIdx l' i' K := by rw [h, hi]

theorem VIdx_map {α : Type} [Inhabited α] (f : α → AV) (l : List α) (i : Int) (K : AV → Prop) : VIdx (l.map f) i K ↔ (0 ≤ i ∧ i.toNat < l.length) ∧ K (f l[i.toNat]!) := by
  unfold VIdx
  constructor
  · rintro ⟨e, he, h0, hk⟩
    rw [List.getElem?_map] at he
    cases h : l[i.toNat]? with
    | none => rw [h] at he; simp at he
    | some x =>
      rw [h] at he
      simp at he
      subst he
      have hlt := (List.getElem?_eq_some_iff.1 h).1
      refine ⟨⟨h0, hlt⟩, ?_⟩
      rw [List.getElem!_eq_getElem?_getD, h]; exact hk
  · rintro ⟨⟨h0, h1⟩, hk⟩
    refine ⟨_, ?_, h0, hk⟩
    rw [List.getElem?_map, List.getElem!_eq_getElem?_getD, List.getElem?_eq_getElem h1]; rfl

theorem ACall.pure {P : Program} {f : FuncId} {xs : List AV} {r : AV} (h : PCall P f xs r) {m : Mem} {K : AV → Mem → Prop} (hk : K r m) : VCall P f xs m K .mk :=
  ACall.mono (h m) fun _ _ ⟨h1, h2⟩ => by rw [h1, h2]; exact hk

/-- A call whose doings are told. -/
theorem ACall.told {P : Program} {f : FuncId} {xs : List AV} {m : Mem} {K K' : AV → Mem → Prop} (h : ACall P f xs m K') (hk : ∀ r m', K' r m' → K r m') : VCall P f xs m K .mk :=
  ACall.mono h hk

theorem getD_idx {l : List Int} {k : Nat} (h : k < l.length) : l[k]! = l[k] := by
  rw [List.getElem!_eq_getElem?_getD, List.getElem?_eq_getElem h]; rfl

theorem mixed : Try.prog.follows .mixedOrders = true := by kernel_rfl


/-- No slice is longer than slices can be. -/
def lenOk (xs : List AV) : Prop := ∀ sz l, AV.slice sz l ∈ xs → l.length ≤ maxLen

theorem acall_len {P : Program} {f : FuncId} {xs : List AV} {m : Mem} {K : AV → Mem → Prop} (hcall : ∀ (args : Array Value) (w : World), (callFunc f args).run P w = .ok (.enter f args) w) (h : lenOk xs → ACall P f xs m K) : ACall P f xs m K := by
  refine ⟨hcall, fun G w vs hi hm hr => (h fun sz l hl => ?_).2 G w vs hi hm hr⟩
  obtain ⟨i, hi', hl⟩ := List.mem_iff_getElem.1 hl
  have hv : i < vs.length := by rw [← hr.1]; exact hi'
  have := hr.2 i (.slice sz l) vs[i] (by rw [← hl]; exact List.getElem?_eq_getElem hi') (List.getElem?_eq_getElem hv)
  obtain ⟨cs, _, _, _, _, h5⟩ := slice_row this
  exact h5

theorem lenOk_cons {x : AV} {xs : List AV} : lenOk (x :: xs) ↔ (match x with | .slice _ l => l.length ≤ maxLen | _ => True) ∧ lenOk xs := by
  constructor
  · intro h
    refine ⟨?_, fun sz l hl => h sz l (by simp [hl])⟩
    split
    · rename_i sz l; exact h sz l (by simp)
    · trivial
  · rintro ⟨h1, h2⟩ sz l hl
    rcases List.mem_cons.1 hl with rfl | hl
    · exact h1
    · exact h2 sz l hl
theorem lenOk_nil : lenOk [] ↔ True := by simp [lenOk]

theorem natDivPow (s i : Nat) : ((s : Int) / 2 ^ i) = ((s / 2 ^ i : Nat) : Int) := by simp
theorem natMulPow (s i : Nat) : ((s : Int) * 2 ^ i) = ((s * 2 ^ i : Nat) : Int) := by simp
theorem oneMulPow (i : Nat) : ((1 : Int) * 2 ^ i) = ((2 ^ i : Nat) : Int) := by simp
theorem toNatOne : (1 : Int).toNat = 1 := rfl
theorem and_one_bit (s i : Nat) : (s / 2 ^ i &&& 1) = if s.testBit i then 1 else 0 := by
  rw [Nat.and_one_is_mod, Nat.testBit_eq_decide_div_mod_eq]
  by_cases h : s / 2 ^ i % 2 = 1
  · simp [h]
  · have : s / 2 ^ i % 2 = 0 := by omega
    simp [this]
theorem testBit_dec (s i : Nat) : decide (((s / 2 ^ i &&& 1 : Nat) : Int) = 1) = s.testBit i := by
  rw [and_one_bit]; by_cases h : s.testBit i <;> simp [h]
theorem testBit_dec0 (s i : Nat) : decide (((s / 2 ^ i &&& 1 : Nat) : Int) = 0) = !s.testBit i := by
  rw [and_one_bit]; by_cases h : s.testBit i <;> simp [h]

theorem testBit_prop (s i : Nat) : (((s / 2 ^ i &&& 1 : Nat) : Int) = 1) = (s.testBit i = true) := by
  rw [and_one_bit]; by_cases h : s.testBit i <;> simp [h]
theorem testBit_prop0 (s i : Nat) : (((s / 2 ^ i &&& 1 : Nat) : Int) = 0) = (s.testBit i = false) := by
  rw [and_one_bit]; by_cases h : s.testBit i <;> simp [h]

theorem ite_split {p : Prop} [Decidable p] {A B : Prop} : (if p then A else B) = ((p → A) ∧ (¬ p → B)) := by
  by_cases h : p <;> simp [h]
end Go.Proofs.Ytakkdmdkelbnjaa.Abs

/- The abstract machine, part 19: the laws by which conditions are worked out, bundled. -/
namespace Go.Proofs.Ytakkdmdkelbnjaa.Abs
set_option linter.unusedSimpArgs false
open Go Go.RowKit

theorem VP0 : type_of% (
  And.intro (@vc.eq_1) <|
  And.intro (@vc.eq_2) <|
  And.intro (@vc.eq_3) <|
  And.intro (@vc.eq_4) <|
  And.intro (@vc.eq_5) <|
  And.intro (@vc.eq_6) <|
  And.intro (@vc.eq_7) <|
  And.intro (@vc.eq_8) <|
  And.intro (@vc.eq_9) <|
  And.intro (@vc.eq_10) <|
  And.intro (@vc.eq_11) <|
  And.intro (@vc.eq_12) <|
  And.intro (@vc.eq_13) <|
  And.intro (@vcOps.eq_1) <|
  And.intro (@vcOps.eq_2) <|
  And.intro (@vcOp.eq_1) <|
  And.intro (@vcGuard.eq_def) <|
  And.intro (@ev.eq_1) <|
  And.intro (@vcCall.eq_def) <|
  And.intro (@vcBin.eq_def) <|
  And.intro (@vcInts.eq_def) <|
  And.intro (@vcShift.eq_def) <|
  And.intro (@vcFresh.eq_1) <|
  And.intro (@vcLookup.eq_def) <|
  And.intro (@vcMapUpdate.eq_def) <|
  And.intro (@vcNext.eq_def) <|
  And.intro (@vcRange.eq_def) <|
  And.intro (@vcCopy.eq_def) <|
  And.intro (@vcOpsD.eq_1) <|
  And.intro (@vcOpsD.eq_2) <|
  And.intro (@vcOpsD.eq_3) <|
  And.intro (@vcOpD.eq_1) <|
  And.intro (@evD.eq_1) <|
  And.intro (@vcLenTD.eq_def) <|
  And.intro (@vcLenD.eq_def) <|
  And.intro (@vcBuiltinD.eq_def) <|
  And.intro (@vcTk.eq_def) <|
  And.intro (@vcNew.eq_def) <|
  And.intro (@vcCallD.eq_def) <|
  (@vcCallT.eq_def)) :=
  And.intro (@vc.eq_1) <|
  And.intro (@vc.eq_2) <|
  And.intro (@vc.eq_3) <|
  And.intro (@vc.eq_4) <|
  And.intro (@vc.eq_5) <|
  And.intro (@vc.eq_6) <|
  And.intro (@vc.eq_7) <|
  And.intro (@vc.eq_8) <|
  And.intro (@vc.eq_9) <|
  And.intro (@vc.eq_10) <|
  And.intro (@vc.eq_11) <|
  And.intro (@vc.eq_12) <|
  And.intro (@vc.eq_13) <|
  And.intro (@vcOps.eq_1) <|
  And.intro (@vcOps.eq_2) <|
  And.intro (@vcOp.eq_1) <|
  And.intro (@vcGuard.eq_def) <|
  And.intro (@ev.eq_1) <|
  And.intro (@vcCall.eq_def) <|
  And.intro (@vcBin.eq_def) <|
  And.intro (@vcInts.eq_def) <|
  And.intro (@vcShift.eq_def) <|
  And.intro (@vcFresh.eq_1) <|
  And.intro (@vcLookup.eq_def) <|
  And.intro (@vcMapUpdate.eq_def) <|
  And.intro (@vcNext.eq_def) <|
  And.intro (@vcRange.eq_def) <|
  And.intro (@vcCopy.eq_def) <|
  And.intro (@vcOpsD.eq_1) <|
  And.intro (@vcOpsD.eq_2) <|
  And.intro (@vcOpsD.eq_3) <|
  And.intro (@vcOpD.eq_1) <|
  And.intro (@evD.eq_1) <|
  And.intro (@vcLenTD.eq_def) <|
  And.intro (@vcLenD.eq_def) <|
  And.intro (@vcBuiltinD.eq_def) <|
  And.intro (@vcTk.eq_def) <|
  And.intro (@vcNew.eq_def) <|
  And.intro (@vcCallD.eq_def) <|
  (@vcCallT.eq_def)

theorem VP1 : type_of% (
  And.intro (@vcEqAgg.eq_def) <|
  And.intro (@vcUn.eq_def) <|
  And.intro (@vcConvert.eq_def) <|
  And.intro (@vcLenT.eq_def) <|
  And.intro (@vcLen.eq_def) <|
  And.intro (@vcBuiltin.eq_def) <|
  And.intro (@vcAppend.eq_def) <|
  And.intro (@vcMinMax.eq_def) <|
  And.intro (@vcPick.eq_def) <|
  And.intro (@vcIndexAddr.eq_def) <|
  And.intro (@vcIndex.eq_def) <|
  And.intro (@vcLoad.eq_def) <|
  And.intro (@vcFrom.eq_def) <|
  And.intro (@vcStore.eq_def) <|
  And.intro (@vcStoreAt.eq_1) <|
  And.intro (@vcNil.eq_def) <|
  And.intro (@vcFieldAddr.eq_1) <|
  And.intro (@vcField.eq_1) <|
  And.intro (@vcBuild.eq_1) <|
  And.intro (@vcBuildSlice.eq_1) <|
  And.intro (@vcMakeSlice.eq_def) <|
  And.intro (@vcSliceOp.eq_def) <|
  And.intro (@vcExtract.eq_def) <|
  And.intro (@retK.eq_def) <|
  And.intro (@vcRet.eq_1) <|
  And.intro (@vcRets.eq_1) <|
  And.intro (@vcRets.eq_2) <|
  And.intro (@vcRets.eq_3) <|
  And.intro (@loopK.eq_def) <|
  And.intro (@rangeK.eq_def) <|
  And.intro (@busyK.eq_def) <|
  And.intro (@roundK.eq_def) <|
  And.intro (@upd.eq_1) <|
  And.intro (@lookV.eq_1) <|
  And.intro (@lookV.eq_2) <|
  And.intro (@lookO.eq_1) <|
  And.intro (@lookO.eq_2) <|
  And.intro (@lookL.eq_1) <|
  And.intro (@lookL.eq_2) <|
  (@laidV.eq_def)) :=
  And.intro (@vcEqAgg.eq_def) <|
  And.intro (@vcUn.eq_def) <|
  And.intro (@vcConvert.eq_def) <|
  And.intro (@vcLenT.eq_def) <|
  And.intro (@vcLen.eq_def) <|
  And.intro (@vcBuiltin.eq_def) <|
  And.intro (@vcAppend.eq_def) <|
  And.intro (@vcMinMax.eq_def) <|
  And.intro (@vcPick.eq_def) <|
  And.intro (@vcIndexAddr.eq_def) <|
  And.intro (@vcIndex.eq_def) <|
  And.intro (@vcLoad.eq_def) <|
  And.intro (@vcFrom.eq_def) <|
  And.intro (@vcStore.eq_def) <|
  And.intro (@vcStoreAt.eq_1) <|
  And.intro (@vcNil.eq_def) <|
  And.intro (@vcFieldAddr.eq_1) <|
  And.intro (@vcField.eq_1) <|
  And.intro (@vcBuild.eq_1) <|
  And.intro (@vcBuildSlice.eq_1) <|
  And.intro (@vcMakeSlice.eq_def) <|
  And.intro (@vcSliceOp.eq_def) <|
  And.intro (@vcExtract.eq_def) <|
  And.intro (@retK.eq_def) <|
  And.intro (@vcRet.eq_1) <|
  And.intro (@vcRets.eq_1) <|
  And.intro (@vcRets.eq_2) <|
  And.intro (@vcRets.eq_3) <|
  And.intro (@loopK.eq_def) <|
  And.intro (@rangeK.eq_def) <|
  And.intro (@busyK.eq_def) <|
  And.intro (@roundK.eq_def) <|
  And.intro (@upd.eq_1) <|
  And.intro (@lookV.eq_1) <|
  And.intro (@lookV.eq_2) <|
  And.intro (@lookO.eq_1) <|
  And.intro (@lookO.eq_2) <|
  And.intro (@lookL.eq_1) <|
  And.intro (@lookL.eq_2) <|
  (@laidV.eq_def)

theorem VP2 : type_of% (
  (@isIntKey.eq_def)) :=
  (@isIntKey.eq_def)

theorem VQ0 : type_of% (
  And.intro (@noneF.eq_1) <|
  And.intro (@avs.eq_1) <|
  And.intro (@avs.eq_2) <|
  And.intro (@avs.eq_3) <|
  And.intro (@eqCells.eq_1) <|
  And.intro (@eqCells.eq_2) <|
  And.intro (@eqCells.eq_3) <|
  And.intro (@eqCells.eq_4) <|
  And.intro (@eqCells.eq_5) <|
  And.intro (@fieldOf.eq_1) <|
  And.intro (@placeOf.eq_1) <|
  And.intro (@placeOf.eq_2) <|
  And.intro (@placeOf.eq_3) <|
  And.intro (@arrKnown.eq_1) <|
  And.intro (@arrKnown.eq_2) <|
  And.intro (@buildFrom.eq_1) <|
  And.intro (@buildFrom.eq_2) <|
  And.intro (@buildFrom.eq_3) <|
  And.intro (@sliceFrom.eq_1) <|
  And.intro (@sliceFrom.eq_2) <|
  And.intro (@sliceFrom.eq_3) <|
  And.intro (@overlay.eq_1) <|
  And.intro (@zeroOf.eq_1) <|
  And.intro (@known.eq_1) <|
  And.intro (@known.eq_2) <|
  And.intro (@flat.eq_1) <|
  And.intro (@flat.eq_2) <|
  And.intro (@flat.eq_3) <|
  And.intro (@flat.eq_4) <|
  And.intro (@bound.eq_1) <|
  And.intro (@bound.eq_2) <|
  And.intro (@bound.eq_3) <|
  And.intro (@retVal.eq_1) <|
  And.intro (@retVal.eq_2) <|
  And.intro (@resSlots.eq_1) <|
  And.intro (@resSlots.eq_2) <|
  And.intro (@resSlots.eq_3) <|
  And.intro (@entry.eq_1) <|
  And.intro (@Head.st.eq_1) <|
  (@env_T)) :=
  And.intro (@noneF.eq_1) <|
  And.intro (@avs.eq_1) <|
  And.intro (@avs.eq_2) <|
  And.intro (@avs.eq_3) <|
  And.intro (@eqCells.eq_1) <|
  And.intro (@eqCells.eq_2) <|
  And.intro (@eqCells.eq_3) <|
  And.intro (@eqCells.eq_4) <|
  And.intro (@eqCells.eq_5) <|
  And.intro (@fieldOf.eq_1) <|
  And.intro (@placeOf.eq_1) <|
  And.intro (@placeOf.eq_2) <|
  And.intro (@placeOf.eq_3) <|
  And.intro (@arrKnown.eq_1) <|
  And.intro (@arrKnown.eq_2) <|
  And.intro (@buildFrom.eq_1) <|
  And.intro (@buildFrom.eq_2) <|
  And.intro (@buildFrom.eq_3) <|
  And.intro (@sliceFrom.eq_1) <|
  And.intro (@sliceFrom.eq_2) <|
  And.intro (@sliceFrom.eq_3) <|
  And.intro (@overlay.eq_1) <|
  And.intro (@zeroOf.eq_1) <|
  And.intro (@known.eq_1) <|
  And.intro (@known.eq_2) <|
  And.intro (@flat.eq_1) <|
  And.intro (@flat.eq_2) <|
  And.intro (@flat.eq_3) <|
  And.intro (@flat.eq_4) <|
  And.intro (@bound.eq_1) <|
  And.intro (@bound.eq_2) <|
  And.intro (@bound.eq_3) <|
  And.intro (@retVal.eq_1) <|
  And.intro (@retVal.eq_2) <|
  And.intro (@resSlots.eq_1) <|
  And.intro (@resSlots.eq_2) <|
  And.intro (@resSlots.eq_3) <|
  And.intro (@entry.eq_1) <|
  And.intro (@Head.st.eq_1) <|
  (@env_T)

theorem VQ1 : type_of% (
  And.intro (@env_P) <|
  And.intro (@env_H) <|
  And.intro (@St.put.eq_1) <|
  And.intro (@St.put.eq_2) <|
  And.intro (@St.sv.eq_1) <|
  And.intro (@St.sv.eq_2) <|
  And.intro (@St.sv.eq_3) <|
  And.intro (@St.sv.eq_4) <|
  And.intro (@St.ow.eq_1) <|
  And.intro (@St.ow.eq_2) <|
  And.intro (@St.ow.eq_3) <|
  And.intro (@St.eff.eq_1) <|
  And.intro (@St.eff.eq_2) <|
  And.intro (@St.eff.eq_3) <|
  And.intro (@St.eff.eq_4) <|
  And.intro (@St.eff.eq_5) <|
  And.intro (@St.eff.eq_6) <|
  And.intro (@St.eff.eq_7) <|
  And.intro (@St.eff.eq_8) <|
  And.intro (@St.eff.eq_9) <|
  And.intro (@St.take.eq_1) <|
  And.intro (@St.take.eq_2) <|
  And.intro (@St.takeO.eq_1) <|
  And.intro (@St.takeO.eq_2) <|
  And.intro (@St.freezes.eq_1) <|
  And.intro (@St.freezes.eq_2) <|
  And.intro (@St.freezes.eq_3) <|
  And.intro (@St.freeze.eq_1) <|
  And.intro (@takes.eq_1) <|
  And.intro (@isSlice.eq_1) <|
  And.intro (@isSlice.eq_2) <|
  And.intro (@isShift.eq_1) <|
  And.intro (@isShift.eq_2) <|
  And.intro (@isShift.eq_3) <|
  And.intro (@TyI.agg.eq_1) <|
  And.intro (@cvv.eq_1) <|
  And.intro (@cvv.eq_2) <|
  And.intro (@cvv.eq_3) <|
  And.intro (@cvv.eq_4) <|
  (@cvv.eq_5)) :=
  And.intro (@env_P) <|
  And.intro (@env_H) <|
  And.intro (@St.put.eq_1) <|
  And.intro (@St.put.eq_2) <|
  And.intro (@St.sv.eq_1) <|
  And.intro (@St.sv.eq_2) <|
  And.intro (@St.sv.eq_3) <|
  And.intro (@St.sv.eq_4) <|
  And.intro (@St.ow.eq_1) <|
  And.intro (@St.ow.eq_2) <|
  And.intro (@St.ow.eq_3) <|
  And.intro (@St.eff.eq_1) <|
  And.intro (@St.eff.eq_2) <|
  And.intro (@St.eff.eq_3) <|
  And.intro (@St.eff.eq_4) <|
  And.intro (@St.eff.eq_5) <|
  And.intro (@St.eff.eq_6) <|
  And.intro (@St.eff.eq_7) <|
  And.intro (@St.eff.eq_8) <|
  And.intro (@St.eff.eq_9) <|
  And.intro (@St.take.eq_1) <|
  And.intro (@St.take.eq_2) <|
  And.intro (@St.takeO.eq_1) <|
  And.intro (@St.takeO.eq_2) <|
  And.intro (@St.freezes.eq_1) <|
  And.intro (@St.freezes.eq_2) <|
  And.intro (@St.freezes.eq_3) <|
  And.intro (@St.freeze.eq_1) <|
  And.intro (@takes.eq_1) <|
  And.intro (@isSlice.eq_1) <|
  And.intro (@isSlice.eq_2) <|
  And.intro (@isShift.eq_1) <|
  And.intro (@isShift.eq_2) <|
  And.intro (@isShift.eq_3) <|
  And.intro (@TyI.agg.eq_1) <|
  And.intro (@cvv.eq_1) <|
  And.intro (@cvv.eq_2) <|
  And.intro (@cvv.eq_3) <|
  And.intro (@cvv.eq_4) <|
  (@cvv.eq_5)

theorem VQ2 : type_of% (
  And.intro (@cvv.eq_6) <|
  And.intro (@cvv.eq_7) <|
  And.intro (@cvv.eq_8) <|
  And.intro (@undefS.eq_1) <|
  And.intro (@gslot.eq_1) <|
  And.intro (@AV.cells.eq_1) <|
  And.intro (@AV.cells.eq_2) <|
  And.intro (@ints.eq_1) <|
  And.intro (@inR_i64) <|
  And.intro (@inR_u8) <|
  And.intro (@maxLen_eq) <|
  And.intro (@small.eq_1) <|
  And.intro (@smallK.eq_1) <|
  And.intro (@smallK.eq_2) <|
  And.intro (@IntKind.bits.eq_1) <|
  And.intro (@IntKind.bits.eq_2) <|
  And.intro (@IntKind.bits.eq_3) <|
  And.intro (@IntKind.bits.eq_4) <|
  And.intro (@IntKind.bits.eq_5) <|
  And.intro (@IntKind.bits.eq_6) <|
  And.intro (@IntKind.bits.eq_7) <|
  And.intro (@IntKind.bits.eq_8) <|
  And.intro (@VIdx_map) <|
  And.intro (@List.map_cons.{0, 0}) <|
  And.intro (@List.map_nil.{0, 0}) <|
  And.intro (@List.zip_cons_cons.{0, 0}) <|
  And.intro (@List.zip_nil_right.{0, 0}) <|
  And.intro (@List.zip_nil_left.{0, 0}) <|
  And.intro (@List.append_nil.{0}) <|
  And.intro (@List.nil_append.{0}) <|
  And.intro (@List.cons_append.{0}) <|
  And.intro (@List.length_cons.{0}) <|
  And.intro (@List.length_nil.{0}) <|
  And.intro (@List.length_map.{0, 0}) <|
  And.intro (@List.replicate_succ.{0}) <|
  And.intro (@List.replicate_zero.{0}) <|
  And.intro (@List.set_cons_zero.{0}) <|
  And.intro (@List.set_cons_succ.{0}) <|
  And.intro (@List.set_nil.{0}) <|
  And.intro (@List.take_succ_cons.{0}) <|
  And.intro (@List.take_zero.{0}) <|
  (@List.take_nil.{0})) :=
  And.intro (@cvv.eq_6) <|
  And.intro (@cvv.eq_7) <|
  And.intro (@cvv.eq_8) <|
  And.intro (@undefS.eq_1) <|
  And.intro (@gslot.eq_1) <|
  And.intro (@AV.cells.eq_1) <|
  And.intro (@AV.cells.eq_2) <|
  And.intro (@ints.eq_1) <|
  And.intro (@inR_i64) <|
  And.intro (@inR_u8) <|
  And.intro (@maxLen_eq) <|
  And.intro (@small.eq_1) <|
  And.intro (@smallK.eq_1) <|
  And.intro (@smallK.eq_2) <|
  And.intro (@IntKind.bits.eq_1) <|
  And.intro (@IntKind.bits.eq_2) <|
  And.intro (@IntKind.bits.eq_3) <|
  And.intro (@IntKind.bits.eq_4) <|
  And.intro (@IntKind.bits.eq_5) <|
  And.intro (@IntKind.bits.eq_6) <|
  And.intro (@IntKind.bits.eq_7) <|
  And.intro (@IntKind.bits.eq_8) <|
  And.intro (@VIdx_map) <|
  And.intro (@List.map_cons.{0, 0}) <|
  And.intro (@List.map_nil.{0, 0}) <|
  And.intro (@List.zip_cons_cons.{0, 0}) <|
  And.intro (@List.zip_nil_right.{0, 0}) <|
  And.intro (@List.zip_nil_left.{0, 0}) <|
  And.intro (@List.append_nil.{0}) <|
  And.intro (@List.nil_append.{0}) <|
  And.intro (@List.cons_append.{0}) <|
  And.intro (@List.length_cons.{0}) <|
  And.intro (@List.length_nil.{0}) <|
  And.intro (@List.length_map.{0, 0}) <|
  And.intro (@List.replicate_succ.{0}) <|
  And.intro (@List.replicate_zero.{0}) <|
  And.intro (@List.set_cons_zero.{0}) <|
  And.intro (@List.set_cons_succ.{0}) <|
  And.intro (@List.set_nil.{0}) <|
  And.intro (@List.take_succ_cons.{0}) <|
  And.intro (@List.take_zero.{0}) <|
  (@List.take_nil.{0})

theorem VQ3 : type_of% (
  And.intro (@List.drop_succ_cons.{0}) <|
  And.intro (@List.drop_zero.{0}) <|
  And.intro (@List.drop_nil.{0}) <|
  And.intro (@List.all_cons.{0}) <|
  And.intro (@List.all_nil.{0}) <|
  And.intro (@List.getElem?_toArray.{0}) <|
  And.intro (@List.getElem?_cons_succ.{0}) <|
  And.intro (@List.getElem?_cons_zero.{0}) <|
  And.intro (@List.getElem?_nil.{0}) <|
  And.intro (@List.head?_cons.{0}) <|
  And.intro (@List.head?_nil.{0}) <|
  And.intro (@Option.bind_some.{0, 0}) <|
  And.intro (@Option.bind_none.{0, 0}) <|
  And.intro (@Option.map_some.{0, 0}) <|
  And.intro (@Option.map_none.{0, 0}) <|
  And.intro (@Option.isSome_some.{0}) <|
  And.intro (@Option.isSome_none.{0}) <|
  And.intro (@Option.getD_some.{0}) <|
  And.intro (@Option.getD_none.{0}) <|
  And.intro (@Option.some.injEq.{0}) <|
  And.intro (@Nat.add_zero) <|
  And.intro (@Nat.zero_add) <|
  And.intro (@Nat.one_mul) <|
  And.intro (@Nat.mul_one) <|
  And.intro (@Nat.zero_mul) <|
  And.intro (@Int.toNat_natCast) <|
  And.intro (@Int.ofNat_eq_natCast) <|
  And.intro (@decide_eq_true_eq) <|
  And.intro (@decide_eq_false_iff_not) <|
  And.intro (@Bool.false_eq_true) <|
  And.intro (@Bool.true_eq_false) <|
  And.intro (@false_implies) <|
  And.intro (@true_implies) <|
  And.intro (@and_true) <|
  And.intro (@true_and) <|
  And.intro (@and_false) <|
  And.intro (@false_and) <|
  And.intro (@and_self) <|
  And.intro (@Bool.not_false) <|
  (@Bool.not_true)) :=
  And.intro (@List.drop_succ_cons.{0}) <|
  And.intro (@List.drop_zero.{0}) <|
  And.intro (@List.drop_nil.{0}) <|
  And.intro (@List.all_cons.{0}) <|
  And.intro (@List.all_nil.{0}) <|
  And.intro (@List.getElem?_toArray.{0}) <|
  And.intro (@List.getElem?_cons_succ.{0}) <|
  And.intro (@List.getElem?_cons_zero.{0}) <|
  And.intro (@List.getElem?_nil.{0}) <|
  And.intro (@List.head?_cons.{0}) <|
  And.intro (@List.head?_nil.{0}) <|
  And.intro (@Option.bind_some.{0, 0}) <|
  And.intro (@Option.bind_none.{0, 0}) <|
  And.intro (@Option.map_some.{0, 0}) <|
  And.intro (@Option.map_none.{0, 0}) <|
  And.intro (@Option.isSome_some.{0}) <|
  And.intro (@Option.isSome_none.{0}) <|
  And.intro (@Option.getD_some.{0}) <|
  And.intro (@Option.getD_none.{0}) <|
  And.intro (@Option.some.injEq.{0}) <|
  And.intro (@Nat.add_zero) <|
  And.intro (@Nat.zero_add) <|
  And.intro (@Nat.one_mul) <|
  And.intro (@Nat.mul_one) <|
  And.intro (@Nat.zero_mul) <|
  And.intro (@Int.toNat_natCast) <|
  And.intro (@Int.ofNat_eq_natCast) <|
  And.intro (@decide_eq_true_eq) <|
  And.intro (@decide_eq_false_iff_not) <|
  And.intro (@Bool.false_eq_true) <|
  And.intro (@Bool.true_eq_false) <|
  And.intro (@false_implies) <|
  And.intro (@true_implies) <|
  And.intro (@and_true) <|
  And.intro (@true_and) <|
  And.intro (@and_false) <|
  And.intro (@false_and) <|
  And.intro (@and_self) <|
  And.intro (@Bool.not_false) <|
  (@Bool.not_true)

theorem VQ4 : type_of% (
  And.intro (@Bool.not_eq_true') <|
  And.intro (@Bool.not_eq_false') <|
  And.intro (@Bool.and_true) <|
  And.intro (@Bool.true_and) <|
  And.intro (@Bool.false_and) <|
  And.intro (@Bool.and_false) <|
  And.intro (@not_true_eq_false) <|
  And.intro (@not_false_eq_true) <|
  And.intro (@ne_eq.{1}) <|
  And.intro (@Int.natCast_zero) <|
  And.intro (@Int.natCast_one) <|
  And.intro (@roundSt.eq_1) <|
  And.intro (@SV.av.eq_1) <|
  And.intro (@SV.av.eq_2) <|
  And.intro (@envR_T) <|
  And.intro (@envR_P) <|
  And.intro (@envR_H) <|
  And.intro (@natDivPow) <|
  And.intro (@natMulPow) <|
  And.intro (@oneMulPow) <|
  And.intro (@toNatOne) <|
  And.intro (@testBit_dec) <|
  And.intro (@testBit_dec0) <|
  And.intro (@testBit_prop) <|
  And.intro (@testBit_prop0) <|
  And.intro (@env_cut) <|
  And.intro (@envR_cut) <|
  And.intro (@envC_T) <|
  And.intro (@envC_P) <|
  And.intro (@envC_H) <|
  And.intro (@envC_cut) <|
  And.intro (@cutAt.eq_1) <|
  And.intro (@cutAt.eq_2) <|
  And.intro (@modeAt.eq_1) <|
  And.intro (@vcSome.eq_1) <|
  (@vcSome.eq_2)) :=
  And.intro (@Bool.not_eq_true') <|
  And.intro (@Bool.not_eq_false') <|
  And.intro (@Bool.and_true) <|
  And.intro (@Bool.true_and) <|
  And.intro (@Bool.false_and) <|
  And.intro (@Bool.and_false) <|
  And.intro (@not_true_eq_false) <|
  And.intro (@not_false_eq_true) <|
  And.intro (@ne_eq.{1}) <|
  And.intro (@Int.natCast_zero) <|
  And.intro (@Int.natCast_one) <|
  And.intro (@roundSt.eq_1) <|
  And.intro (@SV.av.eq_1) <|
  And.intro (@SV.av.eq_2) <|
  And.intro (@envR_T) <|
  And.intro (@envR_P) <|
  And.intro (@envR_H) <|
  And.intro (@natDivPow) <|
  And.intro (@natMulPow) <|
  And.intro (@oneMulPow) <|
  And.intro (@toNatOne) <|
  And.intro (@testBit_dec) <|
  And.intro (@testBit_dec0) <|
  And.intro (@testBit_prop) <|
  And.intro (@testBit_prop0) <|
  And.intro (@env_cut) <|
  And.intro (@envR_cut) <|
  And.intro (@envC_T) <|
  And.intro (@envC_P) <|
  And.intro (@envC_H) <|
  And.intro (@envC_cut) <|
  And.intro (@cutAt.eq_1) <|
  And.intro (@cutAt.eq_2) <|
  And.intro (@modeAt.eq_1) <|
  And.intro (@vcSome.eq_1) <|
  (@vcSome.eq_2)

theorem VT : type_of% (
  And.intro ty_1 <|
  And.intro ty_2 <|
  And.intro ty_3 <|
  And.intro ty_4 <|
  And.intro ty_5 <|
  And.intro ty_9 <|
  And.intro ty_12 <|
  And.intro ty_13 <|
  And.intro ty_15 <|
  And.intro ty_16 <|
  And.intro ty_17 <|
  And.intro ty_18 <|
  And.intro ty_21 <|
  And.intro ty_22 <|
  And.intro ty_23 <|
  And.intro ty_24 <|
  And.intro ty_25 <|
  And.intro ty_26 <|
  And.intro ty_27 <|
  And.intro ty_28 <|
  And.intro ty_30 <|
  And.intro ty_32 <|
  And.intro ty_33 <|
  And.intro ty_34 <|
  And.intro ty_35 <|
  And.intro ty_36 <|
  And.intro ty_37 <|
  And.intro ty_38 <|
  And.intro ty_39 <|
  And.intro ty_40 <|
  And.intro ty_41 <|
  And.intro ty_42 <|
  And.intro ty_43 <|
  And.intro ty_44 <|
  And.intro ty_45 <|
  And.intro ty_46 <|
  And.intro ty_47 <|
  And.intro ty_48 <|
  And.intro ty_49 <|
  And.intro ty_50 <|
  And.intro ty_51 <|
  And.intro ty_52 <|
  And.intro ty_53 <|
  And.intro ty_54 <|
  And.intro ty_55 <|
  And.intro ty_56 <|
  And.intro ty_57 <|
  And.intro ty_58 <|
  And.intro ty_59 <|
  And.intro ty_60 <|
  And.intro ty_61 <|
  And.intro ty_62 <|
  And.intro ty_63 <|
  And.intro ty_64 <|
  And.intro ty_66 <|
  And.intro ty_67 <|
  And.intro ty_68 <|
  And.intro ty_69 <|
  And.intro ty_70 <|
  And.intro ty_71 <|
  And.intro ty_72 <|
  And.intro ty_73 <|
  And.intro ty_74 <|
  And.intro ty_75 <|
  And.intro ty_76 <|
  And.intro ty_78 <|
  And.intro ty_79 <|
  And.intro ty_80 <|
  And.intro ty_81 <|
  And.intro ty_82 <|
  And.intro ty_83 <|
  And.intro ty_84 <|
  And.intro ty_85 <|
  And.intro ty_86 <|
  And.intro ty_87 <|
  And.intro ty_88 <|
  And.intro ty_89 <|
  And.intro ty_90 <|
  And.intro ty_91 <|
  And.intro ty_93 <|
  And.intro ty_94 <|
  And.intro ty_95 <|
  And.intro ty_96 <|
  And.intro ty_97 <|
  And.intro ty_98 <|
  And.intro ty_99 <|
  And.intro ty_100 <|
  And.intro ty_101 <|
  And.intro ty_102 <|
  And.intro ty_103 <|
  And.intro ty_104 <|
  And.intro ty_105 <|
  And.intro ty_106 <|
  And.intro ty_107 <|
  And.intro ty_108 <|
  And.intro ty_109 <|
  And.intro ty_111 <|
  And.intro ty_112 <|
  And.intro ty_113 <|
  And.intro ty_114 <|
  And.intro ty_115 <|
  And.intro ty_120 <|
  And.intro ty_121 <|
  And.intro ty_124 <|
  And.intro ty_125 <|
  ty_0) :=
  And.intro ty_1 <|
  And.intro ty_2 <|
  And.intro ty_3 <|
  And.intro ty_4 <|
  And.intro ty_5 <|
  And.intro ty_9 <|
  And.intro ty_12 <|
  And.intro ty_13 <|
  And.intro ty_15 <|
  And.intro ty_16 <|
  And.intro ty_17 <|
  And.intro ty_18 <|
  And.intro ty_21 <|
  And.intro ty_22 <|
  And.intro ty_23 <|
  And.intro ty_24 <|
  And.intro ty_25 <|
  And.intro ty_26 <|
  And.intro ty_27 <|
  And.intro ty_28 <|
  And.intro ty_30 <|
  And.intro ty_32 <|
  And.intro ty_33 <|
  And.intro ty_34 <|
  And.intro ty_35 <|
  And.intro ty_36 <|
  And.intro ty_37 <|
  And.intro ty_38 <|
  And.intro ty_39 <|
  And.intro ty_40 <|
  And.intro ty_41 <|
  And.intro ty_42 <|
  And.intro ty_43 <|
  And.intro ty_44 <|
  And.intro ty_45 <|
  And.intro ty_46 <|
  And.intro ty_47 <|
  And.intro ty_48 <|
  And.intro ty_49 <|
  And.intro ty_50 <|
  And.intro ty_51 <|
  And.intro ty_52 <|
  And.intro ty_53 <|
  And.intro ty_54 <|
  And.intro ty_55 <|
  And.intro ty_56 <|
  And.intro ty_57 <|
  And.intro ty_58 <|
  And.intro ty_59 <|
  And.intro ty_60 <|
  And.intro ty_61 <|
  And.intro ty_62 <|
  And.intro ty_63 <|
  And.intro ty_64 <|
  And.intro ty_66 <|
  And.intro ty_67 <|
  And.intro ty_68 <|
  And.intro ty_69 <|
  And.intro ty_70 <|
  And.intro ty_71 <|
  And.intro ty_72 <|
  And.intro ty_73 <|
  And.intro ty_74 <|
  And.intro ty_75 <|
  And.intro ty_76 <|
  And.intro ty_78 <|
  And.intro ty_79 <|
  And.intro ty_80 <|
  And.intro ty_81 <|
  And.intro ty_82 <|
  And.intro ty_83 <|
  And.intro ty_84 <|
  And.intro ty_85 <|
  And.intro ty_86 <|
  And.intro ty_87 <|
  And.intro ty_88 <|
  And.intro ty_89 <|
  And.intro ty_90 <|
  And.intro ty_91 <|
  And.intro ty_93 <|
  And.intro ty_94 <|
  And.intro ty_95 <|
  And.intro ty_96 <|
  And.intro ty_97 <|
  And.intro ty_98 <|
  And.intro ty_99 <|
  And.intro ty_100 <|
  And.intro ty_101 <|
  And.intro ty_102 <|
  And.intro ty_103 <|
  And.intro ty_104 <|
  And.intro ty_105 <|
  And.intro ty_106 <|
  And.intro ty_107 <|
  And.intro ty_108 <|
  And.intro ty_109 <|
  And.intro ty_111 <|
  And.intro ty_112 <|
  And.intro ty_113 <|
  And.intro ty_114 <|
  And.intro ty_115 <|
  And.intro ty_120 <|
  And.intro ty_121 <|
  And.intro ty_124 <|
  And.intro ty_125 <|
  ty_0
end Go.Proofs.Ytakkdmdkelbnjaa.Abs
