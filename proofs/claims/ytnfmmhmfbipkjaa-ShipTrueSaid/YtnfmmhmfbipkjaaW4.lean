/- Lemmas for the statements of this seat (W4): they hold without conditions beyond those that each one states. -/
import Derived.Test.YtnfmmhmfbipkjaaW2
import Derived.Test.YtnfmmhmfbipkjaaChecked
import Derived.KernelRfl
import Derived.Test.YtnfmmhmfbipkjaaW3
/- The types of this seat, as the abstract machine has them: made by program (gen_types.py). -/
namespace Go.Proofs.Ytnfmmhmfbipkjaa.Abs
set_option maxHeartbeats 4000000
set_option maxRecDepth 100000
open Go Go.RowKit
def ty : TypeId → Option TyI
  | 2 => some ⟨.int .i64, 1, 8, [.int .i64 0]⟩
  | 3 => some ⟨.int .i64, 1, 8, [.int .i64 0]⟩
  | 4 => some ⟨.bool, 1, 1, [.bool false]⟩
  | 5 => some ⟨.int .u8, 1, 1, [.int .u8 0]⟩
  | 9 => some ⟨.string, 1, 16, [.str ByteArray.empty]⟩
  | 12 => some ⟨.int .u64, 1, 8, [.int .u64 0]⟩
  | 15 => some ⟨.one, 1, 8, [.nilptr]⟩
  | 16 => some ⟨.one, 1, 8, [.nilptr]⟩
  | 17 => some ⟨.one, 1, 8, [.nilptr]⟩
  | 21 => some ⟨.int .i32, 1, 4, [.int .i32 0]⟩
  | 22 => some ⟨.slice 84, 1, 24, [.slice 5 []]⟩
  | 23 => some ⟨.slice 66, 1, 24, [.slice 3 []]⟩
  | 24 => some ⟨.slice 71, 1, 24, [.slice 4 []]⟩
  | 26 => some ⟨.struct [(0, 3), (1, 3), (2, 22), (3, 23), (4, 24)], 5, 88, [.int .i64 0, .int .i64 0, .slice 5 [], .slice 3 [], .slice 4 []]⟩
  | 27 => some ⟨.array 2 3, 2, 16, [.int .i64 0, .int .i64 0]⟩
  | 28 => some ⟨.int .i64, 1, 8, [.int .i64 0]⟩
  | 32 => some ⟨.struct [(0, 3), (1, 3)], 2, 16, [.int .i64 0, .int .i64 0]⟩
  | 35 => some ⟨.slice 3, 1, 24, [.slice 1 []]⟩
  | 41 => some ⟨.array 3 3, 3, 24, [.int .i64 0, .int .i64 0, .int .i64 0]⟩
  | 51 => some ⟨.int .u16, 1, 2, [.int .u16 0]⟩
  | 52 => some ⟨.slice 5, 1, 24, [.slice 1 []]⟩
  | 54 => some ⟨.struct [(0, 51), (1, 52)], 2, 32, [.int .u16 0, .slice 1 []]⟩
  | 56 => some ⟨.slice 158, 1, 24, [.slice 2 []]⟩
  | 66 => some ⟨.struct [(0, 3), (1, 3), (2, 3)], 3, 24, [.int .i64 0, .int .i64 0, .int .i64 0]⟩
  | 71 => some ⟨.struct [(0, 3), (1, 3), (2, 3), (3, 3)], 4, 32, [.int .i64 0, .int .i64 0, .int .i64 0, .int .i64 0]⟩
  | 72 => some ⟨.array 2 5, 2, 2, [.int .u8 0, .int .u8 0]⟩
  | 75 => some ⟨.slice 79, 1, 24, [.slice 2 []]⟩
  | 77 => some ⟨.slice 35, 1, 24, [.slice 1 []]⟩
  | 79 => some ⟨.struct [(0, 56), (1, 77)], 2, 48, [.slice 2 [], .slice 1 []]⟩
  | 82 => some ⟨.slice 89, 1, 24, [.slice 2 []]⟩
  | 84 => some ⟨.struct [(0, 9), (1, 3), (2, 82), (3, 32)], 5, 64, [.str ByteArray.empty, .int .i64 0, .slice 2 [], .int .i64 0, .int .i64 0]⟩
  | 86 => some ⟨.array 3 5, 3, 3, [.int .u8 0, .int .u8 0, .int .u8 0]⟩
  | 89 => some ⟨.struct [(0, 3), (1, 3)], 2, 16, [.int .i64 0, .int .i64 0]⟩
  | 90 => some ⟨.array 4 5, 4, 4, [.int .u8 0, .int .u8 0, .int .u8 0, .int .u8 0]⟩
  | 106 => some ⟨.one, 1, 8, [.nilfunc]⟩
  | 108 => some ⟨.one, 1, 8, [.nilfunc]⟩
  | 110 => some ⟨.one, 1, 8, [.nilfunc]⟩
  | 112 => some ⟨.one, 1, 8, [.nilfunc]⟩
  | 113 => some ⟨.slice 9, 1, 24, [.slice 1 []]⟩
  | 117 => some ⟨.one, 1, 8, [.nilptr]⟩
  | 121 => some ⟨.struct [(0, 3), (1, 3)], 2, 16, [.int .i64 0, .int .i64 0]⟩
  | 131 => some ⟨.one, 1, 8, [.nilfunc]⟩
  | 132 => some ⟨.one, 1, 8, [.nilfunc]⟩
  | 135 => some ⟨.struct [(0, 3), (1, 3)], 2, 16, [.int .i64 0, .int .i64 0]⟩
  | 137 => some ⟨.array 3 135, 6, 48, [.int .i64 0, .int .i64 0, .int .i64 0, .int .i64 0, .int .i64 0, .int .i64 0]⟩
  | 143 => some ⟨.array 4 3, 4, 32, [.int .i64 0, .int .i64 0, .int .i64 0, .int .i64 0]⟩
  | 145 => some ⟨.one, 1, 8, [.nilfunc]⟩
  | 147 => some ⟨.one, 1, 8, [.nilfunc]⟩
  | 151 => some ⟨.slice 56, 1, 24, [.slice 1 []]⟩
  | 158 => some ⟨.struct [(0, 3), (1, 3)], 2, 16, [.int .i64 0, .int .i64 0]⟩
  | 193 => some ⟨.one, 1, 8, [.nilfunc]⟩
  | 196 => some ⟨.one, 1, 8, [.nilfunc]⟩
  | 201 => some ⟨.one, 1, 8, [.nilfunc]⟩
  | 203 => some ⟨.struct [(0, 147)], 1, 8, [.nilfunc]⟩
  | 204 => some ⟨.array 4 203, 4, 32, [.nilfunc, .nilfunc, .nilfunc, .nilfunc]⟩
  | 205 => some ⟨.map 137 143, 1, 8, [.nilmap]⟩
  | 207 => some ⟨.struct [(0, 26), (5, 204), (9, 3), (10, 205)], 11, 136, [.int .i64 0, .int .i64 0, .slice 5 [], .slice 3 [], .slice 4 [], .nilfunc, .nilfunc, .nilfunc, .nilfunc, .int .i64 0, .nilmap]⟩
  | 210 => some ⟨.one, 1, 8, [.nilptr]⟩
  | 223 => some ⟨.one, 1, 8, [.nilfunc]⟩
  | _ => none
theorem ty_2 : ty 2 = some ⟨.int .i64, 1, 8, [.int .i64 0]⟩ := rfl
theorem ty_3 : ty 3 = some ⟨.int .i64, 1, 8, [.int .i64 0]⟩ := rfl
theorem ty_4 : ty 4 = some ⟨.bool, 1, 1, [.bool false]⟩ := rfl
theorem ty_5 : ty 5 = some ⟨.int .u8, 1, 1, [.int .u8 0]⟩ := rfl
theorem ty_9 : ty 9 = some ⟨.string, 1, 16, [.str ByteArray.empty]⟩ := rfl
theorem ty_12 : ty 12 = some ⟨.int .u64, 1, 8, [.int .u64 0]⟩ := rfl
theorem ty_15 : ty 15 = some ⟨.one, 1, 8, [.nilptr]⟩ := rfl
theorem ty_16 : ty 16 = some ⟨.one, 1, 8, [.nilptr]⟩ := rfl
theorem ty_17 : ty 17 = some ⟨.one, 1, 8, [.nilptr]⟩ := rfl
theorem ty_21 : ty 21 = some ⟨.int .i32, 1, 4, [.int .i32 0]⟩ := rfl
theorem ty_22 : ty 22 = some ⟨.slice 84, 1, 24, [.slice 5 []]⟩ := rfl
theorem ty_23 : ty 23 = some ⟨.slice 66, 1, 24, [.slice 3 []]⟩ := rfl
theorem ty_24 : ty 24 = some ⟨.slice 71, 1, 24, [.slice 4 []]⟩ := rfl
theorem ty_26 : ty 26 = some ⟨.struct [(0, 3), (1, 3), (2, 22), (3, 23), (4, 24)], 5, 88, [.int .i64 0, .int .i64 0, .slice 5 [], .slice 3 [], .slice 4 []]⟩ := rfl
theorem ty_27 : ty 27 = some ⟨.array 2 3, 2, 16, [.int .i64 0, .int .i64 0]⟩ := rfl
theorem ty_28 : ty 28 = some ⟨.int .i64, 1, 8, [.int .i64 0]⟩ := rfl
theorem ty_32 : ty 32 = some ⟨.struct [(0, 3), (1, 3)], 2, 16, [.int .i64 0, .int .i64 0]⟩ := rfl
theorem ty_35 : ty 35 = some ⟨.slice 3, 1, 24, [.slice 1 []]⟩ := rfl
theorem ty_41 : ty 41 = some ⟨.array 3 3, 3, 24, [.int .i64 0, .int .i64 0, .int .i64 0]⟩ := rfl
theorem ty_51 : ty 51 = some ⟨.int .u16, 1, 2, [.int .u16 0]⟩ := rfl
theorem ty_52 : ty 52 = some ⟨.slice 5, 1, 24, [.slice 1 []]⟩ := rfl
theorem ty_54 : ty 54 = some ⟨.struct [(0, 51), (1, 52)], 2, 32, [.int .u16 0, .slice 1 []]⟩ := rfl
theorem ty_56 : ty 56 = some ⟨.slice 158, 1, 24, [.slice 2 []]⟩ := rfl
theorem ty_66 : ty 66 = some ⟨.struct [(0, 3), (1, 3), (2, 3)], 3, 24, [.int .i64 0, .int .i64 0, .int .i64 0]⟩ := rfl
theorem ty_71 : ty 71 = some ⟨.struct [(0, 3), (1, 3), (2, 3), (3, 3)], 4, 32, [.int .i64 0, .int .i64 0, .int .i64 0, .int .i64 0]⟩ := rfl
theorem ty_72 : ty 72 = some ⟨.array 2 5, 2, 2, [.int .u8 0, .int .u8 0]⟩ := rfl
theorem ty_75 : ty 75 = some ⟨.slice 79, 1, 24, [.slice 2 []]⟩ := rfl
theorem ty_77 : ty 77 = some ⟨.slice 35, 1, 24, [.slice 1 []]⟩ := rfl
theorem ty_79 : ty 79 = some ⟨.struct [(0, 56), (1, 77)], 2, 48, [.slice 2 [], .slice 1 []]⟩ := rfl
theorem ty_82 : ty 82 = some ⟨.slice 89, 1, 24, [.slice 2 []]⟩ := rfl
theorem ty_84 : ty 84 = some ⟨.struct [(0, 9), (1, 3), (2, 82), (3, 32)], 5, 64, [.str ByteArray.empty, .int .i64 0, .slice 2 [], .int .i64 0, .int .i64 0]⟩ := rfl
theorem ty_86 : ty 86 = some ⟨.array 3 5, 3, 3, [.int .u8 0, .int .u8 0, .int .u8 0]⟩ := rfl
theorem ty_89 : ty 89 = some ⟨.struct [(0, 3), (1, 3)], 2, 16, [.int .i64 0, .int .i64 0]⟩ := rfl
theorem ty_90 : ty 90 = some ⟨.array 4 5, 4, 4, [.int .u8 0, .int .u8 0, .int .u8 0, .int .u8 0]⟩ := rfl
theorem ty_106 : ty 106 = some ⟨.one, 1, 8, [.nilfunc]⟩ := rfl
theorem ty_108 : ty 108 = some ⟨.one, 1, 8, [.nilfunc]⟩ := rfl
theorem ty_110 : ty 110 = some ⟨.one, 1, 8, [.nilfunc]⟩ := rfl
theorem ty_112 : ty 112 = some ⟨.one, 1, 8, [.nilfunc]⟩ := rfl
theorem ty_113 : ty 113 = some ⟨.slice 9, 1, 24, [.slice 1 []]⟩ := rfl
theorem ty_117 : ty 117 = some ⟨.one, 1, 8, [.nilptr]⟩ := rfl
theorem ty_121 : ty 121 = some ⟨.struct [(0, 3), (1, 3)], 2, 16, [.int .i64 0, .int .i64 0]⟩ := rfl
theorem ty_131 : ty 131 = some ⟨.one, 1, 8, [.nilfunc]⟩ := rfl
theorem ty_132 : ty 132 = some ⟨.one, 1, 8, [.nilfunc]⟩ := rfl
theorem ty_135 : ty 135 = some ⟨.struct [(0, 3), (1, 3)], 2, 16, [.int .i64 0, .int .i64 0]⟩ := rfl
theorem ty_137 : ty 137 = some ⟨.array 3 135, 6, 48, [.int .i64 0, .int .i64 0, .int .i64 0, .int .i64 0, .int .i64 0, .int .i64 0]⟩ := rfl
theorem ty_143 : ty 143 = some ⟨.array 4 3, 4, 32, [.int .i64 0, .int .i64 0, .int .i64 0, .int .i64 0]⟩ := rfl
theorem ty_145 : ty 145 = some ⟨.one, 1, 8, [.nilfunc]⟩ := rfl
theorem ty_147 : ty 147 = some ⟨.one, 1, 8, [.nilfunc]⟩ := rfl
theorem ty_151 : ty 151 = some ⟨.slice 56, 1, 24, [.slice 1 []]⟩ := rfl
theorem ty_158 : ty 158 = some ⟨.struct [(0, 3), (1, 3)], 2, 16, [.int .i64 0, .int .i64 0]⟩ := rfl
theorem ty_193 : ty 193 = some ⟨.one, 1, 8, [.nilfunc]⟩ := rfl
theorem ty_196 : ty 196 = some ⟨.one, 1, 8, [.nilfunc]⟩ := rfl
theorem ty_201 : ty 201 = some ⟨.one, 1, 8, [.nilfunc]⟩ := rfl
theorem ty_203 : ty 203 = some ⟨.struct [(0, 147)], 1, 8, [.nilfunc]⟩ := rfl
theorem ty_204 : ty 204 = some ⟨.array 4 203, 4, 32, [.nilfunc, .nilfunc, .nilfunc, .nilfunc]⟩ := rfl
theorem ty_205 : ty 205 = some ⟨.map 137 143, 1, 8, [.nilmap]⟩ := rfl
theorem ty_207 : ty 207 = some ⟨.struct [(0, 26), (5, 204), (9, 3), (10, 205)], 11, 136, [.int .i64 0, .int .i64 0, .slice 5 [], .slice 3 [], .slice 4 [], .nilfunc, .nilfunc, .nilfunc, .nilfunc, .int .i64 0, .nilmap]⟩ := rfl
theorem ty_210 : ty 210 = some ⟨.one, 1, 8, [.nilptr]⟩ := rfl
theorem ty_223 : ty 223 = some ⟨.one, 1, 8, [.nilfunc]⟩ := rfl
theorem tyok_2 : TyOk Try.prog 2 ⟨.int .i64, 1, 8, [.int .i64 0]⟩ := tyOk_int (by kernel_rfl : Try.prog.info? 2 = some Try.t2) rfl rfl Try.underlying2 rfl
theorem tyok_3 : TyOk Try.prog 3 ⟨.int .i64, 1, 8, [.int .i64 0]⟩ := tyOk_int (by kernel_rfl : Try.prog.info? 3 = some Try.t3) rfl rfl Try.underlying3 rfl
theorem tyok_4 : TyOk Try.prog 4 ⟨.bool, 1, 1, [.bool false]⟩ := tyOk_bool (by kernel_rfl : Try.prog.info? 4 = some Try.t4) rfl rfl Try.underlying4 rfl
theorem tyok_5 : TyOk Try.prog 5 ⟨.int .u8, 1, 1, [.int .u8 0]⟩ := tyOk_int (by kernel_rfl : Try.prog.info? 5 = some Try.t5) rfl rfl Try.underlying5 rfl
theorem tyok_9 : TyOk Try.prog 9 ⟨.string, 1, 16, [.str ByteArray.empty]⟩ := tyOk_string (by kernel_rfl : Try.prog.info? 9 = some Try.t9) rfl rfl Try.underlying9 rfl
theorem tyok_12 : TyOk Try.prog 12 ⟨.int .u64, 1, 8, [.int .u64 0]⟩ := tyOk_int (by kernel_rfl : Try.prog.info? 12 = some Try.t12) rfl rfl Try.underlying12 rfl
theorem tyok_15 : TyOk Try.prog 15 ⟨.one, 1, 8, [.nilptr]⟩ := tyOk_ptr (by kernel_rfl : Try.prog.info? 15 = some Try.t15) rfl rfl Try.underlying15 rfl
theorem tyok_16 : TyOk Try.prog 16 ⟨.one, 1, 8, [.nilptr]⟩ := tyOk_ptr (by kernel_rfl : Try.prog.info? 16 = some Try.t16) rfl rfl Try.underlying16 rfl
theorem tyok_17 : TyOk Try.prog 17 ⟨.one, 1, 8, [.nilptr]⟩ := tyOk_ptr (by kernel_rfl : Try.prog.info? 17 = some Try.t17) rfl rfl Try.underlying17 rfl
theorem tyok_21 : TyOk Try.prog 21 ⟨.int .i32, 1, 4, [.int .i32 0]⟩ := tyOk_int (by kernel_rfl : Try.prog.info? 21 = some Try.t21) rfl rfl Try.underlying21 rfl
theorem tyok_22 : TyOk Try.prog 22 ⟨.slice 84, 1, 24, [.slice 5 []]⟩ := tyOk_slice (by kernel_rfl : Try.prog.info? 22 = some Try.t22) rfl rfl Try.underlying22 rfl
theorem tyok_23 : TyOk Try.prog 23 ⟨.slice 66, 1, 24, [.slice 3 []]⟩ := tyOk_slice (by kernel_rfl : Try.prog.info? 23 = some Try.t23) rfl rfl Try.underlying23 rfl
theorem tyok_24 : TyOk Try.prog 24 ⟨.slice 71, 1, 24, [.slice 4 []]⟩ := tyOk_slice (by kernel_rfl : Try.prog.info? 24 = some Try.t24) rfl rfl Try.underlying24 rfl
theorem tyok_26 : TyOk Try.prog 26 ⟨.struct [(0, 3), (1, 3), (2, 22), (3, 23), (4, 24)], 5, 88, [.int .i64 0, .int .i64 0, .slice 5 [], .slice 3 [], .slice 4 []]⟩ := tyOk_struct (by kernel_rfl : Try.prog.info? 26 = some Try.t26) rfl Try.underlying26 rfl rfl rfl (fun _ _ => .cons (.int _ _) (.cons (.int _ _) (.cons (.nilslice _) (.cons (.nilslice _) (.cons (.nilslice _) (.nil)))))) rfl rfl (by kernel_rfl)
theorem tyok_27 : TyOk Try.prog 27 ⟨.array 2 3, 2, 16, [.int .i64 0, .int .i64 0]⟩ := tyOk_array (by kernel_rfl : Try.prog.info? 27 = some Try.t27) rfl Try.underlying27 rfl rfl (fun _ _ => .cons (.int _ _) (.cons (.int _ _) (.nil))) rfl rfl
theorem tyok_28 : TyOk Try.prog 28 ⟨.int .i64, 1, 8, [.int .i64 0]⟩ := tyOk_int (by kernel_rfl : Try.prog.info? 28 = some Try.t28) rfl rfl Try.underlying28 rfl
theorem tyok_32 : TyOk Try.prog 32 ⟨.struct [(0, 3), (1, 3)], 2, 16, [.int .i64 0, .int .i64 0]⟩ := tyOk_struct (by kernel_rfl : Try.prog.info? 32 = some Try.t32) rfl Try.underlying32 rfl rfl rfl (fun _ _ => .cons (.int _ _) (.cons (.int _ _) (.nil))) rfl rfl (by kernel_rfl)
theorem tyok_35 : TyOk Try.prog 35 ⟨.slice 3, 1, 24, [.slice 1 []]⟩ := tyOk_slice (by kernel_rfl : Try.prog.info? 35 = some Try.t35) rfl rfl Try.underlying35 rfl
theorem tyok_41 : TyOk Try.prog 41 ⟨.array 3 3, 3, 24, [.int .i64 0, .int .i64 0, .int .i64 0]⟩ := tyOk_array (by kernel_rfl : Try.prog.info? 41 = some Try.t41) rfl Try.underlying41 rfl rfl (fun _ _ => .cons (.int _ _) (.cons (.int _ _) (.cons (.int _ _) (.nil)))) rfl rfl
theorem tyok_51 : TyOk Try.prog 51 ⟨.int .u16, 1, 2, [.int .u16 0]⟩ := tyOk_int (by kernel_rfl : Try.prog.info? 51 = some Try.t51) rfl rfl Try.underlying51 rfl
theorem tyok_52 : TyOk Try.prog 52 ⟨.slice 5, 1, 24, [.slice 1 []]⟩ := tyOk_slice (by kernel_rfl : Try.prog.info? 52 = some Try.t52) rfl rfl Try.underlying52 rfl
theorem tyok_54 : TyOk Try.prog 54 ⟨.struct [(0, 51), (1, 52)], 2, 32, [.int .u16 0, .slice 1 []]⟩ := tyOk_struct (by kernel_rfl : Try.prog.info? 54 = some Try.t54) rfl Try.underlying54 rfl rfl rfl (fun _ _ => .cons (.int _ _) (.cons (.nilslice _) (.nil))) rfl rfl (by kernel_rfl)
theorem tyok_56 : TyOk Try.prog 56 ⟨.slice 158, 1, 24, [.slice 2 []]⟩ := tyOk_slice (by kernel_rfl : Try.prog.info? 56 = some Try.t56) rfl rfl Try.underlying56 rfl
theorem tyok_66 : TyOk Try.prog 66 ⟨.struct [(0, 3), (1, 3), (2, 3)], 3, 24, [.int .i64 0, .int .i64 0, .int .i64 0]⟩ := tyOk_struct (by kernel_rfl : Try.prog.info? 66 = some Try.t66) rfl Try.underlying66 rfl rfl rfl (fun _ _ => .cons (.int _ _) (.cons (.int _ _) (.cons (.int _ _) (.nil)))) rfl rfl (by kernel_rfl)
theorem tyok_71 : TyOk Try.prog 71 ⟨.struct [(0, 3), (1, 3), (2, 3), (3, 3)], 4, 32, [.int .i64 0, .int .i64 0, .int .i64 0, .int .i64 0]⟩ := tyOk_struct (by kernel_rfl : Try.prog.info? 71 = some Try.t71) rfl Try.underlying71 rfl rfl rfl (fun _ _ => .cons (.int _ _) (.cons (.int _ _) (.cons (.int _ _) (.cons (.int _ _) (.nil))))) rfl rfl (by kernel_rfl)
theorem tyok_72 : TyOk Try.prog 72 ⟨.array 2 5, 2, 2, [.int .u8 0, .int .u8 0]⟩ := tyOk_array (by kernel_rfl : Try.prog.info? 72 = some Try.t72) rfl Try.underlying72 rfl rfl (fun _ _ => .cons (.int _ _) (.cons (.int _ _) (.nil))) rfl rfl
theorem tyok_75 : TyOk Try.prog 75 ⟨.slice 79, 1, 24, [.slice 2 []]⟩ := tyOk_slice (by kernel_rfl : Try.prog.info? 75 = some Try.t75) rfl rfl Try.underlying75 rfl
theorem tyok_77 : TyOk Try.prog 77 ⟨.slice 35, 1, 24, [.slice 1 []]⟩ := tyOk_slice (by kernel_rfl : Try.prog.info? 77 = some Try.t77) rfl rfl Try.underlying77 rfl
theorem tyok_79 : TyOk Try.prog 79 ⟨.struct [(0, 56), (1, 77)], 2, 48, [.slice 2 [], .slice 1 []]⟩ := tyOk_struct (by kernel_rfl : Try.prog.info? 79 = some Try.t79) rfl Try.underlying79 rfl rfl rfl (fun _ _ => .cons (.nilslice _) (.cons (.nilslice _) (.nil))) rfl rfl (by kernel_rfl)
theorem tyok_82 : TyOk Try.prog 82 ⟨.slice 89, 1, 24, [.slice 2 []]⟩ := tyOk_slice (by kernel_rfl : Try.prog.info? 82 = some Try.t82) rfl rfl Try.underlying82 rfl
theorem tyok_84 : TyOk Try.prog 84 ⟨.struct [(0, 9), (1, 3), (2, 82), (3, 32)], 5, 64, [.str ByteArray.empty, .int .i64 0, .slice 2 [], .int .i64 0, .int .i64 0]⟩ := tyOk_struct (by kernel_rfl : Try.prog.info? 84 = some Try.t84) rfl Try.underlying84 rfl rfl rfl (fun _ _ => .cons (.str _) (.cons (.int _ _) (.cons (.nilslice _) (.cons (.int _ _) (.cons (.int _ _) (.nil)))))) rfl rfl (by kernel_rfl)
theorem tyok_86 : TyOk Try.prog 86 ⟨.array 3 5, 3, 3, [.int .u8 0, .int .u8 0, .int .u8 0]⟩ := tyOk_array (by kernel_rfl : Try.prog.info? 86 = some Try.t86) rfl Try.underlying86 rfl rfl (fun _ _ => .cons (.int _ _) (.cons (.int _ _) (.cons (.int _ _) (.nil)))) rfl rfl
theorem tyok_89 : TyOk Try.prog 89 ⟨.struct [(0, 3), (1, 3)], 2, 16, [.int .i64 0, .int .i64 0]⟩ := tyOk_struct (by kernel_rfl : Try.prog.info? 89 = some Try.t89) rfl Try.underlying89 rfl rfl rfl (fun _ _ => .cons (.int _ _) (.cons (.int _ _) (.nil))) rfl rfl (by kernel_rfl)
theorem tyok_90 : TyOk Try.prog 90 ⟨.array 4 5, 4, 4, [.int .u8 0, .int .u8 0, .int .u8 0, .int .u8 0]⟩ := tyOk_array (by kernel_rfl : Try.prog.info? 90 = some Try.t90) rfl Try.underlying90 rfl rfl (fun _ _ => .cons (.int _ _) (.cons (.int _ _) (.cons (.int _ _) (.cons (.int _ _) (.nil))))) rfl rfl
theorem tyok_106 : TyOk Try.prog 106 ⟨.one, 1, 8, [.nilfunc]⟩ := tyOk_func (by kernel_rfl : Try.prog.info? 106 = some Try.t106) rfl rfl Try.underlying106 rfl
theorem tyok_108 : TyOk Try.prog 108 ⟨.one, 1, 8, [.nilfunc]⟩ := tyOk_func (by kernel_rfl : Try.prog.info? 108 = some Try.t108) rfl rfl Try.underlying108 rfl
theorem tyok_110 : TyOk Try.prog 110 ⟨.one, 1, 8, [.nilfunc]⟩ := tyOk_func (by kernel_rfl : Try.prog.info? 110 = some Try.t110) rfl rfl Try.underlying110 rfl
theorem tyok_112 : TyOk Try.prog 112 ⟨.one, 1, 8, [.nilfunc]⟩ := tyOk_func (by kernel_rfl : Try.prog.info? 112 = some Try.t112) rfl rfl Try.underlying112 rfl
theorem tyok_113 : TyOk Try.prog 113 ⟨.slice 9, 1, 24, [.slice 1 []]⟩ := tyOk_slice (by kernel_rfl : Try.prog.info? 113 = some Try.t113) rfl rfl Try.underlying113 rfl
theorem tyok_117 : TyOk Try.prog 117 ⟨.one, 1, 8, [.nilptr]⟩ := tyOk_ptr (by kernel_rfl : Try.prog.info? 117 = some Try.t117) rfl rfl Try.underlying117 rfl
theorem tyok_121 : TyOk Try.prog 121 ⟨.struct [(0, 3), (1, 3)], 2, 16, [.int .i64 0, .int .i64 0]⟩ := tyOk_struct (by kernel_rfl : Try.prog.info? 121 = some Try.t121) rfl Try.underlying121 rfl rfl rfl (fun _ _ => .cons (.int _ _) (.cons (.int _ _) (.nil))) rfl rfl (by kernel_rfl)
theorem tyok_131 : TyOk Try.prog 131 ⟨.one, 1, 8, [.nilfunc]⟩ := tyOk_func (by kernel_rfl : Try.prog.info? 131 = some Try.t131) rfl rfl Try.underlying131 rfl
theorem tyok_132 : TyOk Try.prog 132 ⟨.one, 1, 8, [.nilfunc]⟩ := tyOk_func (by kernel_rfl : Try.prog.info? 132 = some Try.t132) rfl rfl Try.underlying132 rfl
theorem tyok_135 : TyOk Try.prog 135 ⟨.struct [(0, 3), (1, 3)], 2, 16, [.int .i64 0, .int .i64 0]⟩ := tyOk_struct (by kernel_rfl : Try.prog.info? 135 = some Try.t135) rfl Try.underlying135 rfl rfl rfl (fun _ _ => .cons (.int _ _) (.cons (.int _ _) (.nil))) rfl rfl (by kernel_rfl)
theorem tyok_137 : TyOk Try.prog 137 ⟨.array 3 135, 6, 48, [.int .i64 0, .int .i64 0, .int .i64 0, .int .i64 0, .int .i64 0, .int .i64 0]⟩ := tyOk_array (by kernel_rfl : Try.prog.info? 137 = some Try.t137) rfl Try.underlying137 rfl rfl (fun _ _ => .cons (.int _ _) (.cons (.int _ _) (.cons (.int _ _) (.cons (.int _ _) (.cons (.int _ _) (.cons (.int _ _) (.nil))))))) rfl rfl
theorem tyok_143 : TyOk Try.prog 143 ⟨.array 4 3, 4, 32, [.int .i64 0, .int .i64 0, .int .i64 0, .int .i64 0]⟩ := tyOk_array (by kernel_rfl : Try.prog.info? 143 = some Try.t143) rfl Try.underlying143 rfl rfl (fun _ _ => .cons (.int _ _) (.cons (.int _ _) (.cons (.int _ _) (.cons (.int _ _) (.nil))))) rfl rfl
theorem tyok_145 : TyOk Try.prog 145 ⟨.one, 1, 8, [.nilfunc]⟩ := tyOk_func (by kernel_rfl : Try.prog.info? 145 = some Try.t145) rfl rfl Try.underlying145 rfl
theorem tyok_147 : TyOk Try.prog 147 ⟨.one, 1, 8, [.nilfunc]⟩ := tyOk_func (by kernel_rfl : Try.prog.info? 147 = some Try.t147) rfl rfl Try.underlying147 rfl
theorem tyok_151 : TyOk Try.prog 151 ⟨.slice 56, 1, 24, [.slice 1 []]⟩ := tyOk_slice (by kernel_rfl : Try.prog.info? 151 = some Try.t151) rfl rfl Try.underlying151 rfl
theorem tyok_158 : TyOk Try.prog 158 ⟨.struct [(0, 3), (1, 3)], 2, 16, [.int .i64 0, .int .i64 0]⟩ := tyOk_struct (by kernel_rfl : Try.prog.info? 158 = some Try.t158) rfl Try.underlying158 rfl rfl rfl (fun _ _ => .cons (.int _ _) (.cons (.int _ _) (.nil))) rfl rfl (by kernel_rfl)
theorem tyok_193 : TyOk Try.prog 193 ⟨.one, 1, 8, [.nilfunc]⟩ := tyOk_func (by kernel_rfl : Try.prog.info? 193 = some Try.t193) rfl rfl Try.underlying193 rfl
theorem tyok_196 : TyOk Try.prog 196 ⟨.one, 1, 8, [.nilfunc]⟩ := tyOk_func (by kernel_rfl : Try.prog.info? 196 = some Try.t196) rfl rfl Try.underlying196 rfl
theorem tyok_201 : TyOk Try.prog 201 ⟨.one, 1, 8, [.nilfunc]⟩ := tyOk_func (by kernel_rfl : Try.prog.info? 201 = some Try.t201) rfl rfl Try.underlying201 rfl
theorem tyok_203 : TyOk Try.prog 203 ⟨.struct [(0, 147)], 1, 8, [.nilfunc]⟩ := tyOk_struct (by kernel_rfl : Try.prog.info? 203 = some Try.t203) rfl Try.underlying203 rfl rfl rfl (fun _ _ => .cons (.nilfunc) (.nil)) rfl rfl (by kernel_rfl)
theorem tyok_204 : TyOk Try.prog 204 ⟨.array 4 203, 4, 32, [.nilfunc, .nilfunc, .nilfunc, .nilfunc]⟩ := tyOk_array (by kernel_rfl : Try.prog.info? 204 = some Try.t204) rfl Try.underlying204 rfl rfl (fun _ _ => .cons (.nilfunc) (.cons (.nilfunc) (.cons (.nilfunc) (.cons (.nilfunc) (.nil))))) rfl rfl
theorem tyok_205 : TyOk Try.prog 205 ⟨.map 137 143, 1, 8, [.nilmap]⟩ := tyOk_map (by kernel_rfl : Try.prog.info? 205 = some Try.t205) rfl rfl Try.underlying205 rfl
theorem tyok_207 : TyOk Try.prog 207 ⟨.struct [(0, 26), (5, 204), (9, 3), (10, 205)], 11, 136, [.int .i64 0, .int .i64 0, .slice 5 [], .slice 3 [], .slice 4 [], .nilfunc, .nilfunc, .nilfunc, .nilfunc, .int .i64 0, .nilmap]⟩ := tyOk_struct (by kernel_rfl : Try.prog.info? 207 = some Try.t207) rfl Try.underlying207 rfl rfl rfl (fun _ _ => .cons (.int _ _) (.cons (.int _ _) (.cons (.nilslice _) (.cons (.nilslice _) (.cons (.nilslice _) (.cons (.nilfunc) (.cons (.nilfunc) (.cons (.nilfunc) (.cons (.nilfunc) (.cons (.int _ _) (.cons (.nilmap) (.nil)))))))))))) rfl rfl (by kernel_rfl)
theorem tyok_210 : TyOk Try.prog 210 ⟨.one, 1, 8, [.nilptr]⟩ := tyOk_ptr (by kernel_rfl : Try.prog.info? 210 = some Try.t210) rfl rfl Try.underlying210 rfl
theorem tyok_223 : TyOk Try.prog 223 ⟨.one, 1, 8, [.nilfunc]⟩ := tyOk_func (by kernel_rfl : Try.prog.info? 223 = some Try.t223) rfl rfl Try.underlying223 rfl
theorem ty_0 : ty 0 = none := rfl
noncomputable def envC (H : Nat → Mode) (rd : Bool) (cut : List Nat) : Env := ⟨Try.prog, ty, H, rd, cut⟩
noncomputable def env (H : Nat → Mode) : Env := ⟨Try.prog, ty, H, false, []⟩
noncomputable def envR (H : Nat → Mode) : Env := ⟨Try.prog, ty, H, true, []⟩
theorem envOk (H : Nat → Mode) : EnvOk (env H) := by
  intro t i h
  show TyOk Try.prog t i
  have h : ty t = some i := h
  unfold ty at h
  split at h
  · cases h; exact tyok_2
  · cases h; exact tyok_3
  · cases h; exact tyok_4
  · cases h; exact tyok_5
  · cases h; exact tyok_9
  · cases h; exact tyok_12
  · cases h; exact tyok_15
  · cases h; exact tyok_16
  · cases h; exact tyok_17
  · cases h; exact tyok_21
  · cases h; exact tyok_22
  · cases h; exact tyok_23
  · cases h; exact tyok_24
  · cases h; exact tyok_26
  · cases h; exact tyok_27
  · cases h; exact tyok_28
  · cases h; exact tyok_32
  · cases h; exact tyok_35
  · cases h; exact tyok_41
  · cases h; exact tyok_51
  · cases h; exact tyok_52
  · cases h; exact tyok_54
  · cases h; exact tyok_56
  · cases h; exact tyok_66
  · cases h; exact tyok_71
  · cases h; exact tyok_72
  · cases h; exact tyok_75
  · cases h; exact tyok_77
  · cases h; exact tyok_79
  · cases h; exact tyok_82
  · cases h; exact tyok_84
  · cases h; exact tyok_86
  · cases h; exact tyok_89
  · cases h; exact tyok_90
  · cases h; exact tyok_106
  · cases h; exact tyok_108
  · cases h; exact tyok_110
  · cases h; exact tyok_112
  · cases h; exact tyok_113
  · cases h; exact tyok_117
  · cases h; exact tyok_121
  · cases h; exact tyok_131
  · cases h; exact tyok_132
  · cases h; exact tyok_135
  · cases h; exact tyok_137
  · cases h; exact tyok_143
  · cases h; exact tyok_145
  · cases h; exact tyok_147
  · cases h; exact tyok_151
  · cases h; exact tyok_158
  · cases h; exact tyok_193
  · cases h; exact tyok_196
  · cases h; exact tyok_201
  · cases h; exact tyok_203
  · cases h; exact tyok_204
  · cases h; exact tyok_205
  · cases h; exact tyok_207
  · cases h; exact tyok_210
  · cases h; exact tyok_223
  · cases h
theorem envCOk (H : Nat → Mode) (rd : Bool) (cut : List Nat) : EnvOk (envC H rd cut) := envOk H
end Go.Proofs.Ytnfmmhmfbipkjaa.Abs

/- The abstract machine, part 18: small laws by which conditions are worked out. -/
namespace Go.Proofs.Ytnfmmhmfbipkjaa.Abs
set_option linter.unusedSimpArgs false
open Go Go.RowKit

@[congr] theorem vcSome.cong {α : Type} {o o' : Option α} {K : α → Prop} (h : o = o') : vcSome o K = vcSome o' K := by rw [h]
@[congr] theorem vcOps.cong {E : Env} {ops : Array Oper} {l l' : List Oper} {K : St → Prop} {st st' : St} (h : l = l') (hs : st = st') : vcOps E ops l K st = vcOps E ops l' K st' := by rw [h, hs]
@[congr] theorem vcOpsD.cong {E : Env} {ops : Array Oper} {fl fl' : List Fl} {l l' : List Oper} {K : St → Prop} {st st' : St} (hf : fl = fl') (h : l = l') (hs : st = st') : vcOpsD E ops fl l K st = vcOpsD E ops fl' l' K st' := by rw [hf, h, hs]
@[congr] theorem Back.cong {α : Type} {I : α → Head} {J : α → Prop} {m : α → Nat} {x : α} {st st' : St} (h : st = st') : Back I J m x st = Back I J m x st' := by rw [h]

theorem env_T (H : Nat → Mode) : (env H).T = ty := rfl
theorem env_P (H : Nat → Mode) : (env H).P = Try.prog := rfl
theorem env_H (H : Nat → Mode) : (env H).H = H := rfl
theorem env_cut (H : Nat → Mode) : (env H).cut = [] := rfl
theorem envR_cut (H : Nat → Mode) : (envR H).cut = [] := rfl
theorem envC_T (H : Nat → Mode) (r : Bool) (c : List Nat) : (envC H r c).T = ty := rfl
theorem envC_P (H : Nat → Mode) (r : Bool) (c : List Nat) : (envC H r c).P = Try.prog := rfl
theorem envC_H (H : Nat → Mode) (r : Bool) (c : List Nat) : (envC H r c).H = H := rfl
theorem envC_cut (H : Nat → Mode) (r : Bool) (c : List Nat) : (envC H r c).cut = c := rfl
theorem envR_T (H : Nat → Mode) : (envR H).T = ty := rfl
theorem envR_P (H : Nat → Mode) : (envR H).P = Try.prog := rfl
theorem envR_H (H : Nat → Mode) : (envR H).H = H := rfl

/-- How the variables of some slots are kept. -/
def modeAt (own sh : List Nat) (i : Nat) : Mode := if cutAt own i = true then .own else if cutAt sh i = true then .shared else .imm

theorem inR_i64 (n : Int) : inR .i64 n ↔ (-9223372036854775808 ≤ n ∧ n ≤ 9223372036854775807) := by
  simp [inR, IntKind.min, IntKind.max, IntKind.signed, IntKind.bits]
theorem inR_u8 (n : Int) : inR .u8 n ↔ (0 ≤ n ∧ n ≤ 255) := by
  simp [inR, IntKind.min, IntKind.max, IntKind.signed, IntKind.bits]
theorem maxLen_eq : maxLen = 9223372036854775807 := rfl

/-- Slices of numbers. -/
def ints (l : List Int) : AV := .slice 1 (l.map (AV.int .i64))

@[congr] theorem VIdx.cong {l l' : List AV} {i i' : Int} {K : AV → Prop} (h : l = l') (hi : i = i') : VIdx l i K = VIdx l' i' K := by rw [h, hi]

theorem VIdx_map {α : Type} [Inhabited α] (f : α → AV) (l : List α) (i : Int) (K : AV → Prop) : VIdx (l.map f) i K ↔ (0 ≤ i ∧ i.toNat < l.length) ∧ K (f l[i.toNat]!) := by
  unfold VIdx
  constructor
  · rintro ⟨e, he, h0, hk⟩
    rw [List.getElem?_map] at he
    cases h : l[i.toNat]? with
    | none => rw [h] at he; simp at he
    | some x =>
      rw [h] at he
      simp at he
      subst he
      have hlt := (List.getElem?_eq_some_iff.1 h).1
      refine ⟨⟨h0, hlt⟩, ?_⟩
      rw [List.getElem!_eq_getElem?_getD, h]; exact hk
  · rintro ⟨⟨h0, h1⟩, hk⟩
    refine ⟨_, ?_, h0, hk⟩
    rw [List.getElem?_map, List.getElem!_eq_getElem?_getD, List.getElem?_eq_getElem h1]; rfl

theorem ACall.pure {P : Program} {f : FuncId} {xs : List AV} {r : AV} (h : PCall P f xs r) {m : Mem} {K : AV → Mem → Prop} (hk : K r m) : VCall P f xs m K .mk :=
  ACall.mono (h m) fun _ _ ⟨h1, h2⟩ => by rw [h1, h2]; exact hk

/-- A call whose doings are told. -/
theorem ACall.told {P : Program} {f : FuncId} {xs : List AV} {m : Mem} {K K' : AV → Mem → Prop} (h : ACall P f xs m K') (hk : ∀ r m', K' r m' → K r m') : VCall P f xs m K .mk :=
  ACall.mono h hk

theorem getD_idx {l : List Int} {k : Nat} (h : k < l.length) : l[k]! = l[k] := by
  rw [List.getElem!_eq_getElem?_getD, List.getElem?_eq_getElem h]; rfl

theorem mixed : Try.prog.follows .mixedOrders = true := by kernel_rfl

/-- No slice is longer than slices can be. -/
def lenOk (xs : List AV) : Prop := ∀ sz l, AV.slice sz l ∈ xs → l.length ≤ maxLen

theorem acall_len {P : Program} {f : FuncId} {xs : List AV} {m : Mem} {K : AV → Mem → Prop} (hcall : ∀ (args : Array Value) (w : World), (callFunc f args).run P w = .ok (.enter f args) w) (h : lenOk xs → ACall P f xs m K) : ACall P f xs m K := by
  refine ⟨hcall, fun G w vs hi hm hr => (h fun sz l hl => ?_).2 G w vs hi hm hr⟩
  obtain ⟨i, hi', hl⟩ := List.mem_iff_getElem.1 hl
  have hv : i < vs.length := by rw [← hr.1]; exact hi'
  have := hr.2 i (.slice sz l) vs[i] (by rw [← hl]; exact List.getElem?_eq_getElem hi') (List.getElem?_eq_getElem hv)
  obtain ⟨cs, _, _, _, _, h5⟩ := slice_row this
  exact h5

theorem lenOk_cons {x : AV} {xs : List AV} : lenOk (x :: xs) ↔ (match x with | .slice _ l => l.length ≤ maxLen | _ => True) ∧ lenOk xs := by
  constructor
  · intro h
    refine ⟨?_, fun sz l hl => h sz l (by simp [hl])⟩
    split
    · rename_i sz l; exact h sz l (by simp)
    · trivial
  · rintro ⟨h1, h2⟩ sz l hl
    rcases List.mem_cons.1 hl with rfl | hl
    · exact h1
    · exact h2 sz l hl
theorem lenOk_nil : lenOk [] ↔ True := by simp [lenOk]

theorem natDivPow (s i : Nat) : ((s : Int) / 2 ^ i) = ((s / 2 ^ i : Nat) : Int) := by simp
theorem natMulPow (s i : Nat) : ((s : Int) * 2 ^ i) = ((s * 2 ^ i : Nat) : Int) := by simp
theorem oneMulPow (i : Nat) : ((1 : Int) * 2 ^ i) = ((2 ^ i : Nat) : Int) := by simp
theorem toNatOne : (1 : Int).toNat = 1 := rfl
theorem and_one_bit (s i : Nat) : (s / 2 ^ i &&& 1) = if s.testBit i then 1 else 0 := by
  rw [Nat.and_one_is_mod, Nat.testBit_eq_decide_div_mod_eq]
  by_cases h : s / 2 ^ i % 2 = 1
  · simp [h]
  · have : s / 2 ^ i % 2 = 0 := by omega
    simp [this]
theorem testBit_dec (s i : Nat) : decide (((s / 2 ^ i &&& 1 : Nat) : Int) = 1) = s.testBit i := by
  rw [and_one_bit]; by_cases h : s.testBit i <;> simp [h]
theorem testBit_dec0 (s i : Nat) : decide (((s / 2 ^ i &&& 1 : Nat) : Int) = 0) = !s.testBit i := by
  rw [and_one_bit]; by_cases h : s.testBit i <;> simp [h]

theorem testBit_prop (s i : Nat) : (((s / 2 ^ i &&& 1 : Nat) : Int) = 1) = (s.testBit i = true) := by
  rw [and_one_bit]; by_cases h : s.testBit i <;> simp [h]
theorem testBit_prop0 (s i : Nat) : (((s / 2 ^ i &&& 1 : Nat) : Int) = 0) = (s.testBit i = false) := by
  rw [and_one_bit]; by_cases h : s.testBit i <;> simp [h]

theorem ite_split {p : Prop} [Decidable p] {A B : Prop} : (if p then A else B) = ((p → A) ∧ (¬ p → B)) := by
  by_cases h : p <;> simp [h]
end Go.Proofs.Ytnfmmhmfbipkjaa.Abs

/- The abstract machine, part 19: the laws by which conditions are worked out, bundled. -/
namespace Go.Proofs.Ytnfmmhmfbipkjaa.Abs
set_option linter.unusedSimpArgs false
open Go Go.RowKit

theorem VP0 : type_of% (
  And.intro (@vc.eq_1) <|
  And.intro (@vc.eq_2) <|
  And.intro (@vc.eq_3) <|
  And.intro (@vc.eq_4) <|
  And.intro (@vc.eq_5) <|
  And.intro (@vc.eq_6) <|
  And.intro (@vc.eq_7) <|
  And.intro (@vc.eq_8) <|
  And.intro (@vc.eq_9) <|
  And.intro (@vc.eq_10) <|
  And.intro (@vc.eq_11) <|
  And.intro (@vc.eq_12) <|
  And.intro (@vc.eq_13) <|
  And.intro (@vcOps.eq_1) <|
  And.intro (@vcOps.eq_2) <|
  And.intro (@vcOp.eq_1) <|
  And.intro (@vcGuard.eq_def) <|
  And.intro (@ev.eq_1) <|
  And.intro (@vcCall.eq_def) <|
  And.intro (@vcBin.eq_def) <|
  And.intro (@vcInts.eq_def) <|
  And.intro (@vcShift.eq_def) <|
  And.intro (@vcFresh.eq_1) <|
  And.intro (@vcLookup.eq_def) <|
  And.intro (@vcMapUpdate.eq_def) <|
  And.intro (@vcNext.eq_def) <|
  And.intro (@vcRange.eq_def) <|
  And.intro (@vcCopy.eq_def) <|
  And.intro (@vcOpsD.eq_1) <|
  And.intro (@vcOpsD.eq_2) <|
  And.intro (@vcOpsD.eq_3) <|
  And.intro (@vcOpD.eq_1) <|
  And.intro (@evD.eq_1) <|
  And.intro (@vcLenTD.eq_def) <|
  And.intro (@vcLenD.eq_def) <|
  And.intro (@vcBuiltinD.eq_def) <|
  And.intro (@vcTk.eq_def) <|
  And.intro (@vcNew.eq_def) <|
  And.intro (@vcCallD.eq_def) <|
  (@vcCallT.eq_def)) :=
  And.intro (@vc.eq_1) <|
  And.intro (@vc.eq_2) <|
  And.intro (@vc.eq_3) <|
  And.intro (@vc.eq_4) <|
  And.intro (@vc.eq_5) <|
  And.intro (@vc.eq_6) <|
  And.intro (@vc.eq_7) <|
  And.intro (@vc.eq_8) <|
  And.intro (@vc.eq_9) <|
  And.intro (@vc.eq_10) <|
  And.intro (@vc.eq_11) <|
  And.intro (@vc.eq_12) <|
  And.intro (@vc.eq_13) <|
  And.intro (@vcOps.eq_1) <|
  And.intro (@vcOps.eq_2) <|
  And.intro (@vcOp.eq_1) <|
  And.intro (@vcGuard.eq_def) <|
  And.intro (@ev.eq_1) <|
  And.intro (@vcCall.eq_def) <|
  And.intro (@vcBin.eq_def) <|
  And.intro (@vcInts.eq_def) <|
  And.intro (@vcShift.eq_def) <|
  And.intro (@vcFresh.eq_1) <|
  And.intro (@vcLookup.eq_def) <|
  And.intro (@vcMapUpdate.eq_def) <|
  And.intro (@vcNext.eq_def) <|
  And.intro (@vcRange.eq_def) <|
  And.intro (@vcCopy.eq_def) <|
  And.intro (@vcOpsD.eq_1) <|
  And.intro (@vcOpsD.eq_2) <|
  And.intro (@vcOpsD.eq_3) <|
  And.intro (@vcOpD.eq_1) <|
  And.intro (@evD.eq_1) <|
  And.intro (@vcLenTD.eq_def) <|
  And.intro (@vcLenD.eq_def) <|
  And.intro (@vcBuiltinD.eq_def) <|
  And.intro (@vcTk.eq_def) <|
  And.intro (@vcNew.eq_def) <|
  And.intro (@vcCallD.eq_def) <|
  (@vcCallT.eq_def)

theorem VP1 : type_of% (
  And.intro (@vcEqAgg.eq_def) <|
  And.intro (@vcUn.eq_def) <|
  And.intro (@vcConvert.eq_def) <|
  And.intro (@vcLenT.eq_def) <|
  And.intro (@vcLen.eq_def) <|
  And.intro (@vcBuiltin.eq_def) <|
  And.intro (@vcAppend.eq_def) <|
  And.intro (@vcMinMax.eq_def) <|
  And.intro (@vcPick.eq_def) <|
  And.intro (@vcIndexAddr.eq_def) <|
  And.intro (@vcIndex.eq_def) <|
  And.intro (@vcLoad.eq_def) <|
  And.intro (@vcFrom.eq_def) <|
  And.intro (@vcStore.eq_def) <|
  And.intro (@vcStoreAt.eq_1) <|
  And.intro (@vcNil.eq_def) <|
  And.intro (@vcFieldAddr.eq_1) <|
  And.intro (@vcField.eq_1) <|
  And.intro (@vcBuild.eq_1) <|
  And.intro (@vcBuildSlice.eq_1) <|
  And.intro (@vcMakeSlice.eq_def) <|
  And.intro (@vcSliceOp.eq_def) <|
  And.intro (@vcExtract.eq_def) <|
  And.intro (@retK.eq_def) <|
  And.intro (@vcRet.eq_1) <|
  And.intro (@vcRets.eq_1) <|
  And.intro (@vcRets.eq_2) <|
  And.intro (@vcRets.eq_3) <|
  And.intro (@loopK.eq_def) <|
  And.intro (@rangeK.eq_def) <|
  And.intro (@busyK.eq_def) <|
  And.intro (@roundK.eq_def) <|
  And.intro (@upd.eq_1) <|
  And.intro (@lookV.eq_1) <|
  And.intro (@lookV.eq_2) <|
  And.intro (@lookO.eq_1) <|
  And.intro (@lookO.eq_2) <|
  And.intro (@lookL.eq_1) <|
  And.intro (@lookL.eq_2) <|
  (@laidV.eq_def)) :=
  And.intro (@vcEqAgg.eq_def) <|
  And.intro (@vcUn.eq_def) <|
  And.intro (@vcConvert.eq_def) <|
  And.intro (@vcLenT.eq_def) <|
  And.intro (@vcLen.eq_def) <|
  And.intro (@vcBuiltin.eq_def) <|
  And.intro (@vcAppend.eq_def) <|
  And.intro (@vcMinMax.eq_def) <|
  And.intro (@vcPick.eq_def) <|
  And.intro (@vcIndexAddr.eq_def) <|
  And.intro (@vcIndex.eq_def) <|
  And.intro (@vcLoad.eq_def) <|
  And.intro (@vcFrom.eq_def) <|
  And.intro (@vcStore.eq_def) <|
  And.intro (@vcStoreAt.eq_1) <|
  And.intro (@vcNil.eq_def) <|
  And.intro (@vcFieldAddr.eq_1) <|
  And.intro (@vcField.eq_1) <|
  And.intro (@vcBuild.eq_1) <|
  And.intro (@vcBuildSlice.eq_1) <|
  And.intro (@vcMakeSlice.eq_def) <|
  And.intro (@vcSliceOp.eq_def) <|
  And.intro (@vcExtract.eq_def) <|
  And.intro (@retK.eq_def) <|
  And.intro (@vcRet.eq_1) <|
  And.intro (@vcRets.eq_1) <|
  And.intro (@vcRets.eq_2) <|
  And.intro (@vcRets.eq_3) <|
  And.intro (@loopK.eq_def) <|
  And.intro (@rangeK.eq_def) <|
  And.intro (@busyK.eq_def) <|
  And.intro (@roundK.eq_def) <|
  And.intro (@upd.eq_1) <|
  And.intro (@lookV.eq_1) <|
  And.intro (@lookV.eq_2) <|
  And.intro (@lookO.eq_1) <|
  And.intro (@lookO.eq_2) <|
  And.intro (@lookL.eq_1) <|
  And.intro (@lookL.eq_2) <|
  (@laidV.eq_def)

theorem VP2 : type_of% (
  (@isIntKey.eq_def)) :=
  (@isIntKey.eq_def)

theorem VQ0 : type_of% (
  And.intro (@noneF.eq_1) <|
  And.intro (@avs.eq_1) <|
  And.intro (@avs.eq_2) <|
  And.intro (@avs.eq_3) <|
  And.intro (@eqCells.eq_1) <|
  And.intro (@eqCells.eq_2) <|
  And.intro (@eqCells.eq_3) <|
  And.intro (@eqCells.eq_4) <|
  And.intro (@eqCells.eq_5) <|
  And.intro (@fieldOf.eq_1) <|
  And.intro (@placeOf.eq_1) <|
  And.intro (@placeOf.eq_2) <|
  And.intro (@placeOf.eq_3) <|
  And.intro (@arrKnown.eq_1) <|
  And.intro (@arrKnown.eq_2) <|
  And.intro (@buildFrom.eq_1) <|
  And.intro (@buildFrom.eq_2) <|
  And.intro (@buildFrom.eq_3) <|
  And.intro (@sliceFrom.eq_1) <|
  And.intro (@sliceFrom.eq_2) <|
  And.intro (@sliceFrom.eq_3) <|
  And.intro (@overlay.eq_1) <|
  And.intro (@zeroOf.eq_1) <|
  And.intro (@known.eq_1) <|
  And.intro (@known.eq_2) <|
  And.intro (@flat.eq_1) <|
  And.intro (@flat.eq_2) <|
  And.intro (@flat.eq_3) <|
  And.intro (@flat.eq_4) <|
  And.intro (@bound.eq_1) <|
  And.intro (@bound.eq_2) <|
  And.intro (@bound.eq_3) <|
  And.intro (@retVal.eq_1) <|
  And.intro (@retVal.eq_2) <|
  And.intro (@resSlots.eq_1) <|
  And.intro (@resSlots.eq_2) <|
  And.intro (@resSlots.eq_3) <|
  And.intro (@entry.eq_1) <|
  And.intro (@Head.st.eq_1) <|
  (@env_T)) :=
  And.intro (@noneF.eq_1) <|
  And.intro (@avs.eq_1) <|
  And.intro (@avs.eq_2) <|
  And.intro (@avs.eq_3) <|
  And.intro (@eqCells.eq_1) <|
  And.intro (@eqCells.eq_2) <|
  And.intro (@eqCells.eq_3) <|
  And.intro (@eqCells.eq_4) <|
  And.intro (@eqCells.eq_5) <|
  And.intro (@fieldOf.eq_1) <|
  And.intro (@placeOf.eq_1) <|
  And.intro (@placeOf.eq_2) <|
  And.intro (@placeOf.eq_3) <|
  And.intro (@arrKnown.eq_1) <|
  And.intro (@arrKnown.eq_2) <|
  And.intro (@buildFrom.eq_1) <|
  And.intro (@buildFrom.eq_2) <|
  And.intro (@buildFrom.eq_3) <|
  And.intro (@sliceFrom.eq_1) <|
  And.intro (@sliceFrom.eq_2) <|
  And.intro (@sliceFrom.eq_3) <|
  And.intro (@overlay.eq_1) <|
  And.intro (@zeroOf.eq_1) <|
  And.intro (@known.eq_1) <|
  And.intro (@known.eq_2) <|
  And.intro (@flat.eq_1) <|
  And.intro (@flat.eq_2) <|
  And.intro (@flat.eq_3) <|
  And.intro (@flat.eq_4) <|
  And.intro (@bound.eq_1) <|
  And.intro (@bound.eq_2) <|
  And.intro (@bound.eq_3) <|
  And.intro (@retVal.eq_1) <|
  And.intro (@retVal.eq_2) <|
  And.intro (@resSlots.eq_1) <|
  And.intro (@resSlots.eq_2) <|
  And.intro (@resSlots.eq_3) <|
  And.intro (@entry.eq_1) <|
  And.intro (@Head.st.eq_1) <|
  (@env_T)

theorem VQ1 : type_of% (
  And.intro (@env_P) <|
  And.intro (@env_H) <|
  And.intro (@St.put.eq_1) <|
  And.intro (@St.put.eq_2) <|
  And.intro (@St.sv.eq_1) <|
  And.intro (@St.sv.eq_2) <|
  And.intro (@St.sv.eq_3) <|
  And.intro (@St.sv.eq_4) <|
  And.intro (@St.ow.eq_1) <|
  And.intro (@St.ow.eq_2) <|
  And.intro (@St.ow.eq_3) <|
  And.intro (@St.eff.eq_1) <|
  And.intro (@St.eff.eq_2) <|
  And.intro (@St.eff.eq_3) <|
  And.intro (@St.eff.eq_4) <|
  And.intro (@St.eff.eq_5) <|
  And.intro (@St.eff.eq_6) <|
  And.intro (@St.eff.eq_7) <|
  And.intro (@St.eff.eq_8) <|
  And.intro (@St.eff.eq_9) <|
  And.intro (@St.take.eq_1) <|
  And.intro (@St.take.eq_2) <|
  And.intro (@St.takeO.eq_1) <|
  And.intro (@St.takeO.eq_2) <|
  And.intro (@St.freezes.eq_1) <|
  And.intro (@St.freezes.eq_2) <|
  And.intro (@St.freezes.eq_3) <|
  And.intro (@St.freeze.eq_1) <|
  And.intro (@takes.eq_1) <|
  And.intro (@isSlice.eq_1) <|
  And.intro (@isSlice.eq_2) <|
  And.intro (@isShift.eq_1) <|
  And.intro (@isShift.eq_2) <|
  And.intro (@isShift.eq_3) <|
  And.intro (@TyI.agg.eq_1) <|
  And.intro (@cvv.eq_1) <|
  And.intro (@cvv.eq_2) <|
  And.intro (@cvv.eq_3) <|
  And.intro (@cvv.eq_4) <|
  (@cvv.eq_5)) :=
  And.intro (@env_P) <|
  And.intro (@env_H) <|
  And.intro (@St.put.eq_1) <|
  And.intro (@St.put.eq_2) <|
  And.intro (@St.sv.eq_1) <|
  And.intro (@St.sv.eq_2) <|
  And.intro (@St.sv.eq_3) <|
  And.intro (@St.sv.eq_4) <|
  And.intro (@St.ow.eq_1) <|
  And.intro (@St.ow.eq_2) <|
  And.intro (@St.ow.eq_3) <|
  And.intro (@St.eff.eq_1) <|
  And.intro (@St.eff.eq_2) <|
  And.intro (@St.eff.eq_3) <|
  And.intro (@St.eff.eq_4) <|
  And.intro (@St.eff.eq_5) <|
  And.intro (@St.eff.eq_6) <|
  And.intro (@St.eff.eq_7) <|
  And.intro (@St.eff.eq_8) <|
  And.intro (@St.eff.eq_9) <|
  And.intro (@St.take.eq_1) <|
  And.intro (@St.take.eq_2) <|
  And.intro (@St.takeO.eq_1) <|
  And.intro (@St.takeO.eq_2) <|
  And.intro (@St.freezes.eq_1) <|
  And.intro (@St.freezes.eq_2) <|
  And.intro (@St.freezes.eq_3) <|
  And.intro (@St.freeze.eq_1) <|
  And.intro (@takes.eq_1) <|
  And.intro (@isSlice.eq_1) <|
  And.intro (@isSlice.eq_2) <|
  And.intro (@isShift.eq_1) <|
  And.intro (@isShift.eq_2) <|
  And.intro (@isShift.eq_3) <|
  And.intro (@TyI.agg.eq_1) <|
  And.intro (@cvv.eq_1) <|
  And.intro (@cvv.eq_2) <|
  And.intro (@cvv.eq_3) <|
  And.intro (@cvv.eq_4) <|
  (@cvv.eq_5)

theorem VQ2 : type_of% (
  And.intro (@cvv.eq_6) <|
  And.intro (@cvv.eq_7) <|
  And.intro (@cvv.eq_8) <|
  And.intro (@undefS.eq_1) <|
  And.intro (@gslot.eq_1) <|
  And.intro (@AV.cells.eq_1) <|
  And.intro (@AV.cells.eq_2) <|
  And.intro (@ints.eq_1) <|
  And.intro (@inR_i64) <|
  And.intro (@inR_u8) <|
  And.intro (@maxLen_eq) <|
  And.intro (@small.eq_1) <|
  And.intro (@smallK.eq_1) <|
  And.intro (@smallK.eq_2) <|
  And.intro (@IntKind.bits.eq_1) <|
  And.intro (@IntKind.bits.eq_2) <|
  And.intro (@IntKind.bits.eq_3) <|
  And.intro (@IntKind.bits.eq_4) <|
  And.intro (@IntKind.bits.eq_5) <|
  And.intro (@IntKind.bits.eq_6) <|
  And.intro (@IntKind.bits.eq_7) <|
  And.intro (@IntKind.bits.eq_8) <|
  And.intro (@VIdx_map) <|
  And.intro (@List.map_cons.{0, 0}) <|
  And.intro (@List.map_nil.{0, 0}) <|
  And.intro (@List.zip_cons_cons.{0, 0}) <|
  And.intro (@List.zip_nil_right.{0, 0}) <|
  And.intro (@List.zip_nil_left.{0, 0}) <|
  And.intro (@List.append_nil.{0}) <|
  And.intro (@List.nil_append.{0}) <|
  And.intro (@List.cons_append.{0}) <|
  And.intro (@List.length_cons.{0}) <|
  And.intro (@List.length_nil.{0}) <|
  And.intro (@List.length_map.{0, 0}) <|
  And.intro (@List.replicate_succ.{0}) <|
  And.intro (@List.replicate_zero.{0}) <|
  And.intro (@List.set_cons_zero.{0}) <|
  And.intro (@List.set_cons_succ.{0}) <|
  And.intro (@List.set_nil.{0}) <|
  And.intro (@List.take_succ_cons.{0}) <|
  And.intro (@List.take_zero.{0}) <|
  (@List.take_nil.{0})) :=
  And.intro (@cvv.eq_6) <|
  And.intro (@cvv.eq_7) <|
  And.intro (@cvv.eq_8) <|
  And.intro (@undefS.eq_1) <|
  And.intro (@gslot.eq_1) <|
  And.intro (@AV.cells.eq_1) <|
  And.intro (@AV.cells.eq_2) <|
  And.intro (@ints.eq_1) <|
  And.intro (@inR_i64) <|
  And.intro (@inR_u8) <|
  And.intro (@maxLen_eq) <|
  And.intro (@small.eq_1) <|
  And.intro (@smallK.eq_1) <|
  And.intro (@smallK.eq_2) <|
  And.intro (@IntKind.bits.eq_1) <|
  And.intro (@IntKind.bits.eq_2) <|
  And.intro (@IntKind.bits.eq_3) <|
  And.intro (@IntKind.bits.eq_4) <|
  And.intro (@IntKind.bits.eq_5) <|
  And.intro (@IntKind.bits.eq_6) <|
  And.intro (@IntKind.bits.eq_7) <|
  And.intro (@IntKind.bits.eq_8) <|
  And.intro (@VIdx_map) <|
  And.intro (@List.map_cons.{0, 0}) <|
  And.intro (@List.map_nil.{0, 0}) <|
  And.intro (@List.zip_cons_cons.{0, 0}) <|
  And.intro (@List.zip_nil_right.{0, 0}) <|
  And.intro (@List.zip_nil_left.{0, 0}) <|
  And.intro (@List.append_nil.{0}) <|
  And.intro (@List.nil_append.{0}) <|
  And.intro (@List.cons_append.{0}) <|
  And.intro (@List.length_cons.{0}) <|
  And.intro (@List.length_nil.{0}) <|
  And.intro (@List.length_map.{0, 0}) <|
  And.intro (@List.replicate_succ.{0}) <|
  And.intro (@List.replicate_zero.{0}) <|
  And.intro (@List.set_cons_zero.{0}) <|
  And.intro (@List.set_cons_succ.{0}) <|
  And.intro (@List.set_nil.{0}) <|
  And.intro (@List.take_succ_cons.{0}) <|
  And.intro (@List.take_zero.{0}) <|
  (@List.take_nil.{0})

theorem VQ3 : type_of% (
  And.intro (@List.drop_succ_cons.{0}) <|
  And.intro (@List.drop_zero.{0}) <|
  And.intro (@List.drop_nil.{0}) <|
  And.intro (@List.all_cons.{0}) <|
  And.intro (@List.all_nil.{0}) <|
  And.intro (@List.getElem?_toArray.{0}) <|
  And.intro (@List.getElem?_cons_succ.{0}) <|
  And.intro (@List.getElem?_cons_zero.{0}) <|
  And.intro (@List.getElem?_nil.{0}) <|
  And.intro (@List.head?_cons.{0}) <|
  And.intro (@List.head?_nil.{0}) <|
  And.intro (@Option.bind_some.{0, 0}) <|
  And.intro (@Option.bind_none.{0, 0}) <|
  And.intro (@Option.map_some.{0, 0}) <|
  And.intro (@Option.map_none.{0, 0}) <|
  And.intro (@Option.isSome_some.{0}) <|
  And.intro (@Option.isSome_none.{0}) <|
  And.intro (@Option.getD_some.{0}) <|
  And.intro (@Option.getD_none.{0}) <|
  And.intro (@Option.some.injEq.{0}) <|
  And.intro (@Nat.add_zero) <|
  And.intro (@Nat.zero_add) <|
  And.intro (@Nat.one_mul) <|
  And.intro (@Nat.mul_one) <|
  And.intro (@Nat.zero_mul) <|
  And.intro (@Int.toNat_natCast) <|
  And.intro (@Int.ofNat_eq_natCast) <|
  And.intro (@decide_eq_true_eq) <|
  And.intro (@decide_eq_false_iff_not) <|
  And.intro (@Bool.false_eq_true) <|
  And.intro (@Bool.true_eq_false) <|
  And.intro (@false_implies) <|
  And.intro (@true_implies) <|
  And.intro (@and_true) <|
  And.intro (@true_and) <|
  And.intro (@and_false) <|
  And.intro (@false_and) <|
  And.intro (@and_self) <|
  And.intro (@Bool.not_false) <|
  (@Bool.not_true)) :=
  And.intro (@List.drop_succ_cons.{0}) <|
  And.intro (@List.drop_zero.{0}) <|
  And.intro (@List.drop_nil.{0}) <|
  And.intro (@List.all_cons.{0}) <|
  And.intro (@List.all_nil.{0}) <|
  And.intro (@List.getElem?_toArray.{0}) <|
  And.intro (@List.getElem?_cons_succ.{0}) <|
  And.intro (@List.getElem?_cons_zero.{0}) <|
  And.intro (@List.getElem?_nil.{0}) <|
  And.intro (@List.head?_cons.{0}) <|
  And.intro (@List.head?_nil.{0}) <|
  And.intro (@Option.bind_some.{0, 0}) <|
  And.intro (@Option.bind_none.{0, 0}) <|
  And.intro (@Option.map_some.{0, 0}) <|
  And.intro (@Option.map_none.{0, 0}) <|
  And.intro (@Option.isSome_some.{0}) <|
  And.intro (@Option.isSome_none.{0}) <|
  And.intro (@Option.getD_some.{0}) <|
  And.intro (@Option.getD_none.{0}) <|
  And.intro (@Option.some.injEq.{0}) <|
  And.intro (@Nat.add_zero) <|
  And.intro (@Nat.zero_add) <|
  And.intro (@Nat.one_mul) <|
  And.intro (@Nat.mul_one) <|
  And.intro (@Nat.zero_mul) <|
  And.intro (@Int.toNat_natCast) <|
  And.intro (@Int.ofNat_eq_natCast) <|
  And.intro (@decide_eq_true_eq) <|
  And.intro (@decide_eq_false_iff_not) <|
  And.intro (@Bool.false_eq_true) <|
  And.intro (@Bool.true_eq_false) <|
  And.intro (@false_implies) <|
  And.intro (@true_implies) <|
  And.intro (@and_true) <|
  And.intro (@true_and) <|
  And.intro (@and_false) <|
  And.intro (@false_and) <|
  And.intro (@and_self) <|
  And.intro (@Bool.not_false) <|
  (@Bool.not_true)

theorem VQ4 : type_of% (
  And.intro (@Bool.not_eq_true') <|
  And.intro (@Bool.not_eq_false') <|
  And.intro (@Bool.and_true) <|
  And.intro (@Bool.true_and) <|
  And.intro (@Bool.false_and) <|
  And.intro (@Bool.and_false) <|
  And.intro (@not_true_eq_false) <|
  And.intro (@not_false_eq_true) <|
  And.intro (@ne_eq.{1}) <|
  And.intro (@Int.natCast_zero) <|
  And.intro (@Int.natCast_one) <|
  And.intro (@roundSt.eq_1) <|
  And.intro (@SV.av.eq_1) <|
  And.intro (@SV.av.eq_2) <|
  And.intro (@envR_T) <|
  And.intro (@envR_P) <|
  And.intro (@envR_H) <|
  And.intro (@natDivPow) <|
  And.intro (@natMulPow) <|
  And.intro (@oneMulPow) <|
  And.intro (@toNatOne) <|
  And.intro (@testBit_dec) <|
  And.intro (@testBit_dec0) <|
  And.intro (@testBit_prop) <|
  And.intro (@testBit_prop0) <|
  And.intro (@env_cut) <|
  And.intro (@envR_cut) <|
  And.intro (@envC_T) <|
  And.intro (@envC_P) <|
  And.intro (@envC_H) <|
  And.intro (@envC_cut) <|
  And.intro (@cutAt.eq_1) <|
  And.intro (@cutAt.eq_2) <|
  And.intro (@modeAt.eq_1) <|
  And.intro (@vcSome.eq_1) <|
  (@vcSome.eq_2)) :=
  And.intro (@Bool.not_eq_true') <|
  And.intro (@Bool.not_eq_false') <|
  And.intro (@Bool.and_true) <|
  And.intro (@Bool.true_and) <|
  And.intro (@Bool.false_and) <|
  And.intro (@Bool.and_false) <|
  And.intro (@not_true_eq_false) <|
  And.intro (@not_false_eq_true) <|
  And.intro (@ne_eq.{1}) <|
  And.intro (@Int.natCast_zero) <|
  And.intro (@Int.natCast_one) <|
  And.intro (@roundSt.eq_1) <|
  And.intro (@SV.av.eq_1) <|
  And.intro (@SV.av.eq_2) <|
  And.intro (@envR_T) <|
  And.intro (@envR_P) <|
  And.intro (@envR_H) <|
  And.intro (@natDivPow) <|
  And.intro (@natMulPow) <|
  And.intro (@oneMulPow) <|
  And.intro (@toNatOne) <|
  And.intro (@testBit_dec) <|
  And.intro (@testBit_dec0) <|
  And.intro (@testBit_prop) <|
  And.intro (@testBit_prop0) <|
  And.intro (@env_cut) <|
  And.intro (@envR_cut) <|
  And.intro (@envC_T) <|
  And.intro (@envC_P) <|
  And.intro (@envC_H) <|
  And.intro (@envC_cut) <|
  And.intro (@cutAt.eq_1) <|
  And.intro (@cutAt.eq_2) <|
  And.intro (@modeAt.eq_1) <|
  And.intro (@vcSome.eq_1) <|
  (@vcSome.eq_2)

theorem VT : type_of% (
  And.intro ty_2 <|
  And.intro ty_3 <|
  And.intro ty_4 <|
  And.intro ty_5 <|
  And.intro ty_9 <|
  And.intro ty_12 <|
  And.intro ty_15 <|
  And.intro ty_16 <|
  And.intro ty_17 <|
  And.intro ty_21 <|
  And.intro ty_22 <|
  And.intro ty_23 <|
  And.intro ty_24 <|
  And.intro ty_26 <|
  And.intro ty_27 <|
  And.intro ty_28 <|
  And.intro ty_32 <|
  And.intro ty_35 <|
  And.intro ty_41 <|
  And.intro ty_51 <|
  And.intro ty_52 <|
  And.intro ty_54 <|
  And.intro ty_56 <|
  And.intro ty_66 <|
  And.intro ty_71 <|
  And.intro ty_72 <|
  And.intro ty_75 <|
  And.intro ty_77 <|
  And.intro ty_79 <|
  And.intro ty_82 <|
  And.intro ty_84 <|
  And.intro ty_86 <|
  And.intro ty_89 <|
  And.intro ty_90 <|
  And.intro ty_106 <|
  And.intro ty_108 <|
  And.intro ty_110 <|
  And.intro ty_112 <|
  And.intro ty_113 <|
  And.intro ty_117 <|
  And.intro ty_121 <|
  And.intro ty_131 <|
  And.intro ty_132 <|
  And.intro ty_135 <|
  And.intro ty_137 <|
  And.intro ty_143 <|
  And.intro ty_145 <|
  And.intro ty_147 <|
  And.intro ty_151 <|
  And.intro ty_158 <|
  And.intro ty_193 <|
  And.intro ty_196 <|
  And.intro ty_201 <|
  And.intro ty_203 <|
  And.intro ty_204 <|
  And.intro ty_205 <|
  And.intro ty_207 <|
  And.intro ty_210 <|
  And.intro ty_223 <|
  ty_0) :=
  And.intro ty_2 <|
  And.intro ty_3 <|
  And.intro ty_4 <|
  And.intro ty_5 <|
  And.intro ty_9 <|
  And.intro ty_12 <|
  And.intro ty_15 <|
  And.intro ty_16 <|
  And.intro ty_17 <|
  And.intro ty_21 <|
  And.intro ty_22 <|
  And.intro ty_23 <|
  And.intro ty_24 <|
  And.intro ty_26 <|
  And.intro ty_27 <|
  And.intro ty_28 <|
  And.intro ty_32 <|
  And.intro ty_35 <|
  And.intro ty_41 <|
  And.intro ty_51 <|
  And.intro ty_52 <|
  And.intro ty_54 <|
  And.intro ty_56 <|
  And.intro ty_66 <|
  And.intro ty_71 <|
  And.intro ty_72 <|
  And.intro ty_75 <|
  And.intro ty_77 <|
  And.intro ty_79 <|
  And.intro ty_82 <|
  And.intro ty_84 <|
  And.intro ty_86 <|
  And.intro ty_89 <|
  And.intro ty_90 <|
  And.intro ty_106 <|
  And.intro ty_108 <|
  And.intro ty_110 <|
  And.intro ty_112 <|
  And.intro ty_113 <|
  And.intro ty_117 <|
  And.intro ty_121 <|
  And.intro ty_131 <|
  And.intro ty_132 <|
  And.intro ty_135 <|
  And.intro ty_137 <|
  And.intro ty_143 <|
  And.intro ty_145 <|
  And.intro ty_147 <|
  And.intro ty_151 <|
  And.intro ty_158 <|
  And.intro ty_193 <|
  And.intro ty_196 <|
  And.intro ty_201 <|
  And.intro ty_203 <|
  And.intro ty_204 <|
  And.intro ty_205 <|
  And.intro ty_207 <|
  And.intro ty_210 <|
  And.intro ty_223 <|
  ty_0

/-- All laws of the walk: on the way down; on the way up. -/
theorem VP : type_of% (And.intro VP0 <| And.intro VP1 <| VP2) := And.intro VP0 <| And.intro VP1 <| VP2
theorem VQ : type_of% (And.intro VQ0 <| And.intro VQ1 <| And.intro VQ2 <| And.intro VQ3 <| And.intro VQ4 <| And.intro VT <| (@ite_split)) := And.intro VQ0 <| And.intro VQ1 <| And.intro VQ2 <| And.intro VQ3 <| And.intro VQ4 <| And.intro VT <| (@ite_split)

theorem nnC (n : Nat) : (0 : Int) ≤ n := Int.natCast_nonneg n
theorem nlC {k : Int} (h : k ≤ 0) (n : Nat) : k ≤ (n : Int) := Int.le_trans h (Int.natCast_nonneg n)
theorem nbC {a b : Nat} (h : Nat.ble a b = true) : a ≤ b := Nat.le_of_ble_eq_true h
end Go.Proofs.Ytnfmmhmfbipkjaa.Abs
