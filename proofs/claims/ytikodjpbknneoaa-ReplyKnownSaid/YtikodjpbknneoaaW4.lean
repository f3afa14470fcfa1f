/- Lemmas for the statements of this seat (W4): they hold without conditions beyond those that each one states. -/
import Derived.Test.YtikodjpbknneoaaW2
import Derived.Test.YtikodjpbknneoaaChecked
import Derived.KernelRfl
import Derived.Test.YtikodjpbknneoaaW3
/- The types of this seat,as the abstract machine has them: made by program (gen_types.py). -/
namespace Go.Proofs.Ytikodjpbknneoaa.Abs
set_option maxHeartbeats 4000000
set_option maxRecDepth 100000
open Go Go.RowKit
def ty : TypeId → Option TyI
 | 2 => some ⟨.int .i64,1,8,[.int .i64 0]⟩
 | 3 => some ⟨.int .i64,1,8,[.int .i64 0]⟩
 | 4 => some ⟨.bool,1,1,[.bool false]⟩
 | 5 => some ⟨.int .u8,1,1,[.int .u8 0]⟩
 | 9 => some ⟨.string,1,16,[.str ByteArray.empty]⟩
 | 12 => some ⟨.int .u64,1,8,[.int .u64 0]⟩
 | 15 => some ⟨.one,1,8,[.nilptr]⟩
 | 16 => some ⟨.one,1,8,[.nilptr]⟩
 | 17 => some ⟨.one,1,8,[.nilptr]⟩
 | 21 => some ⟨.int .i32,1,4,[.int .i32 0]⟩
 | 22 => some ⟨.slice 87,1,24,[.slice 5 []]⟩
 | 23 => some ⟨.slice 89,1,24,[.slice 3 []]⟩
 | 24 => some ⟨.slice 91,1,24,[.slice 4 []]⟩
 | 26 => some ⟨.struct [(0,3),(1,3),(2,22),(3,23),(4,24)],5,88,[.int .i64 0,.int .i64 0,.slice 5 [],.slice 3 [],.slice 4 []]⟩
 | 27 => some ⟨.slice 3,1,24,[.slice 1 []]⟩
 | 28 => some ⟨.slice 49,1,24,[.slice 3 []]⟩
 | 30 => some ⟨.struct [(0,26),(5,27),(6,3),(7,28)],8,144,[.int .i64 0,.int .i64 0,.slice 5 [],.slice 3 [],.slice 4 [],.slice 1 [],.int .i64 0,.slice 3 []]⟩
 | 33 => some ⟨.int .i64,1,8,[.int .i64 0]⟩
 | 41 => some ⟨.struct [(0,3),(1,3)],2,16,[.int .i64 0,.int .i64 0]⟩
 | 49 => some ⟨.struct [(0,3),(1,3),(2,3)],3,24,[.int .i64 0,.int .i64 0,.int .i64 0]⟩
 | 51 => some ⟨.one,1,8,[.nilptr]⟩
 | 54 => some ⟨.slice 59,1,24,[.slice 1 []]⟩
 | 55 => some ⟨.map 3 96,1,8,[.nilmap]⟩
 | 57 => some ⟨.struct [(0,30),(8,54),(9,55),(10,3)],11,184,[.int .i64 0,.int .i64 0,.mslice 0 0 0 0,.mslice 0 0 0 0,.mslice 0 0 0 0,.mslice 0 0 0 0,.int .i64 0,.mslice 0 0 0 0,.mslice 0 0 0 0,.nilmap,.int .i64 0]⟩
 | 59 => some ⟨.slice 77,1,24,[.slice 1 []]⟩
 | 62 => some ⟨.array 3 3,3,24,[.int .i64 0,.int .i64 0,.int .i64 0]⟩
 | 64 => some ⟨.one,1,8,[.nilfunc]⟩
 | 71 => some ⟨.one,1,8,[.nilfunc]⟩
 | 73 => some ⟨.struct [(0,71)],1,8,[.nilfunc]⟩
 | 74 => some ⟨.one,1,8,[.nilfunc]⟩
 | 77 => some ⟨.slice 79,1,24,[.slice 2 []]⟩
 | 79 => some ⟨.struct [(0,3),(1,3)],2,16,[.int .i64 0,.int .i64 0]⟩
 | 84 => some ⟨.struct [(0,3),(1,3)],2,16,[.int .i64 0,.int .i64 0]⟩
 | 85 => some ⟨.slice 84,1,24,[.slice 2 []]⟩
 | 87 => some ⟨.struct [(0,9),(1,3),(2,85),(3,41)],5,64,[.str ByteArray.empty,.int .i64 0,.slice 2 [],.int .i64 0,.int .i64 0]⟩
 | 89 => some ⟨.struct [(0,3),(1,3),(2,3)],3,24,[.int .i64 0,.int .i64 0,.int .i64 0]⟩
 | 91 => some ⟨.struct [(0,3),(1,3),(2,3),(3,3)],4,32,[.int .i64 0,.int .i64 0,.int .i64 0,.int .i64 0]⟩
 | 95 => some ⟨.one,1,8,[.nilfunc]⟩
 | 96 => some ⟨.slice 62,1,24,[.mslice 0 0 0 0]⟩
 | 100 => some ⟨.one,1,8,[.nilfunc]⟩
 | 102 => some ⟨.slice 113,1,24,[.slice 2 []]⟩
 | 108 => some ⟨.one,1,8,[.nilfunc]⟩
 | 110 => some ⟨.one,1,8,[.nilfunc]⟩
 | 111 => some ⟨.one,1,8,[.nilfunc]⟩
 | 113 => some ⟨.struct [(0,3),(1,3)],2,16,[.int .i64 0,.int .i64 0]⟩
 | 120 => some ⟨.one,1,8,[.nilfunc]⟩
 | 122 => some ⟨.one,1,8,[.nilfunc]⟩
 | 125 => some ⟨.one,1,8,[.nilfunc]⟩
 | 127 => some ⟨.one,1,8,[.nilfunc]⟩
 | 128 => some ⟨.one,1,8,[.nilptr]⟩
 | 132 => some ⟨.one,1,8,[.nilfunc]⟩
 | 135 => some ⟨.struct [(0,3),(1,3)],2,16,[.int .i64 0,.int .i64 0]⟩
 | 137 => some ⟨.array 3 135,6,48,[.int .i64 0,.int .i64 0,.int .i64 0,.int .i64 0,.int .i64 0,.int .i64 0]⟩
 | 143 => some ⟨.one,1,8,[.nilfunc]⟩
 | 147 => some ⟨.one,1,8,[.nilfunc]⟩
 | 149 => some ⟨.one,1,8,[.nilfunc]⟩
 | 151 => some ⟨.struct [(0,95)],1,8,[.nilfunc]⟩
 | 152 => some ⟨.array 4 151,4,32,[.nilfunc,.nilfunc,.nilfunc,.nilfunc]⟩
 | 153 => some ⟨.map 137 157,1,8,[.nilmap]⟩
 | 155 => some ⟨.struct [(0,26),(5,152),(9,3),(10,153)],11,136,[.int .i64 0,.int .i64 0,.slice 5 [],.slice 3 [],.slice 4 [],.nilfunc,.nilfunc,.nilfunc,.nilfunc,.int .i64 0,.nilmap]⟩
 | 157 => some ⟨.array 4 3,4,32,[.int .i64 0,.int .i64 0,.int .i64 0,.int .i64 0]⟩
 | _ => none
theorem ty_2 : ty 2 = some ⟨.int .i64,1,8,[.int .i64 0]⟩ := rfl
theorem ty_3 : ty 3 = some ⟨.int .i64,1,8,[.int .i64 0]⟩ := rfl
theorem ty_4 : ty 4 = some ⟨.bool,1,1,[.bool false]⟩ := rfl
theorem ty_5 : ty 5 = some ⟨.int .u8,1,1,[.int .u8 0]⟩ := rfl
theorem ty_9 : ty 9 = some ⟨.string,1,16,[.str ByteArray.empty]⟩ := rfl
theorem ty_12 : ty 12 = some ⟨.int .u64,1,8,[.int .u64 0]⟩ := rfl
theorem ty_15 : ty 15 = some ⟨.one,1,8,[.nilptr]⟩ := rfl
theorem ty_16 : ty 16 = some ⟨.one,1,8,[.nilptr]⟩ := rfl
theorem ty_17 : ty 17 = some ⟨.one,1,8,[.nilptr]⟩ := rfl
theorem ty_21 : ty 21 = some ⟨.int .i32,1,4,[.int .i32 0]⟩ := rfl
theorem ty_22 : ty 22 = some ⟨.slice 87,1,24,[.slice 5 []]⟩ := rfl
theorem ty_23 : ty 23 = some ⟨.slice 89,1,24,[.slice 3 []]⟩ := rfl
theorem ty_24 : ty 24 = some ⟨.slice 91,1,24,[.slice 4 []]⟩ := rfl
theorem ty_26 : ty 26 = some ⟨.struct [(0,3),(1,3),(2,22),(3,23),(4,24)],5,88,[.int .i64 0,.int .i64 0,.slice 5 [],.slice 3 [],.slice 4 []]⟩ := rfl
theorem ty_27 : ty 27 = some ⟨.slice 3,1,24,[.slice 1 []]⟩ := rfl
theorem ty_28 : ty 28 = some ⟨.slice 49,1,24,[.slice 3 []]⟩ := rfl
theorem ty_30 : ty 30 = some ⟨.struct [(0,26),(5,27),(6,3),(7,28)],8,144,[.int .i64 0,.int .i64 0,.slice 5 [],.slice 3 [],.slice 4 [],.slice 1 [],.int .i64 0,.slice 3 []]⟩ := rfl
theorem ty_33 : ty 33 = some ⟨.int .i64,1,8,[.int .i64 0]⟩ := rfl
theorem ty_41 : ty 41 = some ⟨.struct [(0,3),(1,3)],2,16,[.int .i64 0,.int .i64 0]⟩ := rfl
theorem ty_49 : ty 49 = some ⟨.struct [(0,3),(1,3),(2,3)],3,24,[.int .i64 0,.int .i64 0,.int .i64 0]⟩ := rfl
theorem ty_51 : ty 51 = some ⟨.one,1,8,[.nilptr]⟩ := rfl
theorem ty_54 : ty 54 = some ⟨.slice 59,1,24,[.slice 1 []]⟩ := rfl
theorem ty_55 : ty 55 = some ⟨.map 3 96,1,8,[.nilmap]⟩ := rfl
theorem ty_57 : ty 57 = some ⟨.struct [(0,30),(8,54),(9,55),(10,3)],11,184,[.int .i64 0,.int .i64 0,.mslice 0 0 0 0,.mslice 0 0 0 0,.mslice 0 0 0 0,.mslice 0 0 0 0,.int .i64 0,.mslice 0 0 0 0,.mslice 0 0 0 0,.nilmap,.int .i64 0]⟩ := rfl
theorem ty_59 : ty 59 = some ⟨.slice 77,1,24,[.slice 1 []]⟩ := rfl
theorem ty_62 : ty 62 = some ⟨.array 3 3,3,24,[.int .i64 0,.int .i64 0,.int .i64 0]⟩ := rfl
theorem ty_64 : ty 64 = some ⟨.one,1,8,[.nilfunc]⟩ := rfl
theorem ty_71 : ty 71 = some ⟨.one,1,8,[.nilfunc]⟩ := rfl
theorem ty_73 : ty 73 = some ⟨.struct [(0,71)],1,8,[.nilfunc]⟩ := rfl
theorem ty_74 : ty 74 = some ⟨.one,1,8,[.nilfunc]⟩ := rfl
theorem ty_77 : ty 77 = some ⟨.slice 79,1,24,[.slice 2 []]⟩ := rfl
theorem ty_79 : ty 79 = some ⟨.struct [(0,3),(1,3)],2,16,[.int .i64 0,.int .i64 0]⟩ := rfl
theorem ty_84 : ty 84 = some ⟨.struct [(0,3),(1,3)],2,16,[.int .i64 0,.int .i64 0]⟩ := rfl
theorem ty_85 : ty 85 = some ⟨.slice 84,1,24,[.slice 2 []]⟩ := rfl
theorem ty_87 : ty 87 = some ⟨.struct [(0,9),(1,3),(2,85),(3,41)],5,64,[.str ByteArray.empty,.int .i64 0,.slice 2 [],.int .i64 0,.int .i64 0]⟩ := rfl
theorem ty_89 : ty 89 = some ⟨.struct [(0,3),(1,3),(2,3)],3,24,[.int .i64 0,.int .i64 0,.int .i64 0]⟩ := rfl
theorem ty_91 : ty 91 = some ⟨.struct [(0,3),(1,3),(2,3),(3,3)],4,32,[.int .i64 0,.int .i64 0,.int .i64 0,.int .i64 0]⟩ := rfl
theorem ty_95 : ty 95 = some ⟨.one,1,8,[.nilfunc]⟩ := rfl
theorem ty_96 : ty 96 = some ⟨.slice 62,1,24,[.mslice 0 0 0 0]⟩ := rfl
theorem ty_100 : ty 100 = some ⟨.one,1,8,[.nilfunc]⟩ := rfl
theorem ty_102 : ty 102 = some ⟨.slice 113,1,24,[.slice 2 []]⟩ := rfl
theorem ty_108 : ty 108 = some ⟨.one,1,8,[.nilfunc]⟩ := rfl
theorem ty_110 : ty 110 = some ⟨.one,1,8,[.nilfunc]⟩ := rfl
theorem ty_111 : ty 111 = some ⟨.one,1,8,[.nilfunc]⟩ := rfl
theorem ty_113 : ty 113 = some ⟨.struct [(0,3),(1,3)],2,16,[.int .i64 0,.int .i64 0]⟩ := rfl
theorem ty_120 : ty 120 = some ⟨.one,1,8,[.nilfunc]⟩ := rfl
theorem ty_122 : ty 122 = some ⟨.one,1,8,[.nilfunc]⟩ := rfl
theorem ty_125 : ty 125 = some ⟨.one,1,8,[.nilfunc]⟩ := rfl
theorem ty_127 : ty 127 = some ⟨.one,1,8,[.nilfunc]⟩ := rfl
theorem ty_128 : ty 128 = some ⟨.one,1,8,[.nilptr]⟩ := rfl
theorem ty_132 : ty 132 = some ⟨.one,1,8,[.nilfunc]⟩ := rfl
theorem ty_135 : ty 135 = some ⟨.struct [(0,3),(1,3)],2,16,[.int .i64 0,.int .i64 0]⟩ := rfl
theorem ty_137 : ty 137 = some ⟨.array 3 135,6,48,[.int .i64 0,.int .i64 0,.int .i64 0,.int .i64 0,.int .i64 0,.int .i64 0]⟩ := rfl
theorem ty_143 : ty 143 = some ⟨.one,1,8,[.nilfunc]⟩ := rfl
theorem ty_147 : ty 147 = some ⟨.one,1,8,[.nilfunc]⟩ := rfl
theorem ty_149 : ty 149 = some ⟨.one,1,8,[.nilfunc]⟩ := rfl
theorem ty_151 : ty 151 = some ⟨.struct [(0,95)],1,8,[.nilfunc]⟩ := rfl
theorem ty_152 : ty 152 = some ⟨.array 4 151,4,32,[.nilfunc,.nilfunc,.nilfunc,.nilfunc]⟩ := rfl
theorem ty_153 : ty 153 = some ⟨.map 137 157,1,8,[.nilmap]⟩ := rfl
theorem ty_155 : ty 155 = some ⟨.struct [(0,26),(5,152),(9,3),(10,153)],11,136,[.int .i64 0,.int .i64 0,.slice 5 [],.slice 3 [],.slice 4 [],.nilfunc,.nilfunc,.nilfunc,.nilfunc,.int .i64 0,.nilmap]⟩ := rfl
theorem ty_157 : ty 157 = some ⟨.array 4 3,4,32,[.int .i64 0,.int .i64 0,.int .i64 0,.int .i64 0]⟩ := rfl
theorem tyok_2 : TyOk Try.prog 2 ⟨.int .i64,1,8,[.int .i64 0]⟩ := tyOk_int (by kernel_rfl : Try.prog.info? 2 = some Try.t2) rfl rfl Try.underlying2 rfl
theorem tyok_3 : TyOk Try.prog 3 ⟨.int .i64,1,8,[.int .i64 0]⟩ := tyOk_int (by kernel_rfl : Try.prog.info? 3 = some Try.t3) rfl rfl Try.underlying3 rfl
theorem tyok_4 : TyOk Try.prog 4 ⟨.bool,1,1,[.bool false]⟩ := tyOk_bool (by kernel_rfl : Try.prog.info? 4 = some Try.t4) rfl rfl Try.underlying4 rfl
theorem tyok_5 : TyOk Try.prog 5 ⟨.int .u8,1,1,[.int .u8 0]⟩ := tyOk_int (by kernel_rfl : Try.prog.info? 5 = some Try.t5) rfl rfl Try.underlying5 rfl
theorem tyok_9 : TyOk Try.prog 9 ⟨.string,1,16,[.str ByteArray.empty]⟩ := tyOk_string (by kernel_rfl : Try.prog.info? 9 = some Try.t9) rfl rfl Try.underlying9 rfl
theorem tyok_12 : TyOk Try.prog 12 ⟨.int .u64,1,8,[.int .u64 0]⟩ := tyOk_int (by kernel_rfl : Try.prog.info? 12 = some Try.t12) rfl rfl Try.underlying12 rfl
theorem tyok_15 : TyOk Try.prog 15 ⟨.one,1,8,[.nilptr]⟩ := tyOk_ptr (by kernel_rfl : Try.prog.info? 15 = some Try.t15) rfl rfl Try.underlying15 rfl
theorem tyok_16 : TyOk Try.prog 16 ⟨.one,1,8,[.nilptr]⟩ := tyOk_ptr (by kernel_rfl : Try.prog.info? 16 = some Try.t16) rfl rfl Try.underlying16 rfl
theorem tyok_17 : TyOk Try.prog 17 ⟨.one,1,8,[.nilptr]⟩ := tyOk_ptr (by kernel_rfl : Try.prog.info? 17 = some Try.t17) rfl rfl Try.underlying17 rfl
theorem tyok_21 : TyOk Try.prog 21 ⟨.int .i32,1,4,[.int .i32 0]⟩ := tyOk_int (by kernel_rfl : Try.prog.info? 21 = some Try.t21) rfl rfl Try.underlying21 rfl
theorem tyok_22 : TyOk Try.prog 22 ⟨.slice 87,1,24,[.slice 5 []]⟩ := tyOk_slice (by kernel_rfl : Try.prog.info? 22 = some Try.t22) rfl rfl Try.underlying22 rfl
theorem tyok_23 : TyOk Try.prog 23 ⟨.slice 89,1,24,[.slice 3 []]⟩ := tyOk_slice (by kernel_rfl : Try.prog.info? 23 = some Try.t23) rfl rfl Try.underlying23 rfl
theorem tyok_24 : TyOk Try.prog 24 ⟨.slice 91,1,24,[.slice 4 []]⟩ := tyOk_slice (by kernel_rfl : Try.prog.info? 24 = some Try.t24) rfl rfl Try.underlying24 rfl
theorem tyok_26 : TyOk Try.prog 26 ⟨.struct [(0,3),(1,3),(2,22),(3,23),(4,24)],5,88,[.int .i64 0,.int .i64 0,.slice 5 [],.slice 3 [],.slice 4 []]⟩ := tyOk_struct (by kernel_rfl : Try.prog.info? 26 = some Try.t26) rfl Try.underlying26 rfl rfl rfl (fun _ _ => .cons (.int _ _) (.cons (.int _ _) (.cons (.nilslice _) (.cons (.nilslice _) (.cons (.nilslice _) (.nil)))))) rfl rfl (by kernel_rfl)
theorem tyok_27 : TyOk Try.prog 27 ⟨.slice 3,1,24,[.slice 1 []]⟩ := tyOk_slice (by kernel_rfl : Try.prog.info? 27 = some Try.t27) rfl rfl Try.underlying27 rfl
theorem tyok_28 : TyOk Try.prog 28 ⟨.slice 49,1,24,[.slice 3 []]⟩ := tyOk_slice (by kernel_rfl : Try.prog.info? 28 = some Try.t28) rfl rfl Try.underlying28 rfl
theorem tyok_30 : TyOk Try.prog 30 ⟨.struct [(0,26),(5,27),(6,3),(7,28)],8,144,[.int .i64 0,.int .i64 0,.slice 5 [],.slice 3 [],.slice 4 [],.slice 1 [],.int .i64 0,.slice 3 []]⟩ := tyOk_struct (by kernel_rfl : Try.prog.info? 30 = some Try.t30) rfl Try.underlying30 rfl rfl rfl (fun _ _ => .cons (.int _ _) (.cons (.int _ _) (.cons (.nilslice _) (.cons (.nilslice _) (.cons (.nilslice _) (.cons (.nilslice _) (.cons (.int _ _) (.cons (.nilslice _) (.nil))))))))) rfl rfl (by kernel_rfl)
theorem tyok_33 : TyOk Try.prog 33 ⟨.int .i64,1,8,[.int .i64 0]⟩ := tyOk_int (by kernel_rfl : Try.prog.info? 33 = some Try.t33) rfl rfl Try.underlying33 rfl
theorem tyok_41 : TyOk Try.prog 41 ⟨.struct [(0,3),(1,3)],2,16,[.int .i64 0,.int .i64 0]⟩ := tyOk_struct (by kernel_rfl : Try.prog.info? 41 = some Try.t41) rfl Try.underlying41 rfl rfl rfl (fun _ _ => .cons (.int _ _) (.cons (.int _ _) (.nil))) rfl rfl (by kernel_rfl)
theorem tyok_49 : TyOk Try.prog 49 ⟨.struct [(0,3),(1,3),(2,3)],3,24,[.int .i64 0,.int .i64 0,.int .i64 0]⟩ := tyOk_struct (by kernel_rfl : Try.prog.info? 49 = some Try.t49) rfl Try.underlying49 rfl rfl rfl (fun _ _ => .cons (.int _ _) (.cons (.int _ _) (.cons (.int _ _) (.nil)))) rfl rfl (by kernel_rfl)
theorem tyok_51 : TyOk Try.prog 51 ⟨.one,1,8,[.nilptr]⟩ := tyOk_ptr (by kernel_rfl : Try.prog.info? 51 = some Try.t51) rfl rfl Try.underlying51 rfl
theorem tyok_54 : TyOk Try.prog 54 ⟨.slice 59,1,24,[.slice 1 []]⟩ := tyOk_slice (by kernel_rfl : Try.prog.info? 54 = some Try.t54) rfl rfl Try.underlying54 rfl
theorem tyok_55 : TyOk Try.prog 55 ⟨.map 3 96,1,8,[.nilmap]⟩ := tyOk_map (by kernel_rfl : Try.prog.info? 55 = some Try.t55) rfl rfl Try.underlying55 rfl
theorem tyok_57 : TyOk Try.prog 57 ⟨.struct [(0,30),(8,54),(9,55),(10,3)],11,184,[.int .i64 0,.int .i64 0,.mslice 0 0 0 0,.mslice 0 0 0 0,.mslice 0 0 0 0,.mslice 0 0 0 0,.int .i64 0,.mslice 0 0 0 0,.mslice 0 0 0 0,.nilmap,.int .i64 0]⟩ := tyOk_struct (by kernel_rfl : Try.prog.info? 57 = some Try.t57) rfl Try.underlying57 rfl rfl rfl (fun _ _ => .cons (.int _ _) (.cons (.int _ _) (.cons (.nilm _ _) (.cons (.nilm _ _) (.cons (.nilm _ _) (.cons (.nilm _ _) (.cons (.int _ _) (.cons (.nilm _ _) (.cons (.nilm _ _) (.cons (.nilmap) (.cons (.int _ _) (.nil)))))))))))) rfl rfl (by kernel_rfl)
theorem tyok_59 : TyOk Try.prog 59 ⟨.slice 77,1,24,[.slice 1 []]⟩ := tyOk_slice (by kernel_rfl : Try.prog.info? 59 = some Try.t59) rfl rfl Try.underlying59 rfl
theorem tyok_62 : TyOk Try.prog 62 ⟨.array 3 3,3,24,[.int .i64 0,.int .i64 0,.int .i64 0]⟩ := tyOk_array (by kernel_rfl : Try.prog.info? 62 = some Try.t62) rfl Try.underlying62 rfl rfl (fun _ _ => .cons (.int _ _) (.cons (.int _ _) (.cons (.int _ _) (.nil)))) rfl rfl
theorem tyok_64 : TyOk Try.prog 64 ⟨.one,1,8,[.nilfunc]⟩ := tyOk_func (by kernel_rfl : Try.prog.info? 64 = some Try.t64) rfl rfl Try.underlying64 rfl
theorem tyok_71 : TyOk Try.prog 71 ⟨.one,1,8,[.nilfunc]⟩ := tyOk_func (by kernel_rfl : Try.prog.info? 71 = some Try.t71) rfl rfl Try.underlying71 rfl
theorem tyok_73 : TyOk Try.prog 73 ⟨.struct [(0,71)],1,8,[.nilfunc]⟩ := tyOk_struct (by kernel_rfl : Try.prog.info? 73 = some Try.t73) rfl Try.underlying73 rfl rfl rfl (fun _ _ => .cons (.nilfunc) (.nil)) rfl rfl (by kernel_rfl)
theorem tyok_74 : TyOk Try.prog 74 ⟨.one,1,8,[.nilfunc]⟩ := tyOk_func (by kernel_rfl : Try.prog.info? 74 = some Try.t74) rfl rfl Try.underlying74 rfl
theorem tyok_77 : TyOk Try.prog 77 ⟨.slice 79,1,24,[.slice 2 []]⟩ := tyOk_slice (by kernel_rfl : Try.prog.info? 77 = some Try.t77) rfl rfl Try.underlying77 rfl
theorem tyok_79 : TyOk Try.prog 79 ⟨.struct [(0,3),(1,3)],2,16,[.int .i64 0,.int .i64 0]⟩ := tyOk_struct (by kernel_rfl : Try.prog.info? 79 = some Try.t79) rfl Try.underlying79 rfl rfl rfl (fun _ _ => .cons (.int _ _) (.cons (.int _ _) (.nil))) rfl rfl (by kernel_rfl)
theorem tyok_84 : TyOk Try.prog 84 ⟨.struct [(0,3),(1,3)],2,16,[.int .i64 0,.int .i64 0]⟩ := tyOk_struct (by kernel_rfl : Try.prog.info? 84 = some Try.t84) rfl Try.underlying84 rfl rfl rfl (fun _ _ => .cons (.int _ _) (.cons (.int _ _) (.nil))) rfl rfl (by kernel_rfl)
theorem tyok_85 : TyOk Try.prog 85 ⟨.slice 84,1,24,[.slice 2 []]⟩ := tyOk_slice (by kernel_rfl : Try.prog.info? 85 = some Try.t85) rfl rfl Try.underlying85 rfl
theorem tyok_87 : TyOk Try.prog 87 ⟨.struct [(0,9),(1,3),(2,85),(3,41)],5,64,[.str ByteArray.empty,.int .i64 0,.slice 2 [],.int .i64 0,.int .i64 0]⟩ := tyOk_struct (by kernel_rfl : Try.prog.info? 87 = some Try.t87) rfl Try.underlying87 rfl rfl rfl (fun _ _ => .cons (.str _) (.cons (.int _ _) (.cons (.nilslice _) (.cons (.int _ _) (.cons (.int _ _) (.nil)))))) rfl rfl (by kernel_rfl)
theorem tyok_89 : TyOk Try.prog 89 ⟨.struct [(0,3),(1,3),(2,3)],3,24,[.int .i64 0,.int .i64 0,.int .i64 0]⟩ := tyOk_struct (by kernel_rfl : Try.prog.info? 89 = some Try.t89) rfl Try.underlying89 rfl rfl rfl (fun _ _ => .cons (.int _ _) (.cons (.int _ _) (.cons (.int _ _) (.nil)))) rfl rfl (by kernel_rfl)
theorem tyok_91 : TyOk Try.prog 91 ⟨.struct [(0,3),(1,3),(2,3),(3,3)],4,32,[.int .i64 0,.int .i64 0,.int .i64 0,.int .i64 0]⟩ := tyOk_struct (by kernel_rfl : Try.prog.info? 91 = some Try.t91) rfl Try.underlying91 rfl rfl rfl (fun _ _ => .cons (.int _ _) (.cons (.int _ _) (.cons (.int _ _) (.cons (.int _ _) (.nil))))) rfl rfl (by kernel_rfl)
theorem tyok_95 : TyOk Try.prog 95 ⟨.one,1,8,[.nilfunc]⟩ := tyOk_func (by kernel_rfl : Try.prog.info? 95 = some Try.t95) rfl rfl Try.underlying95 rfl
theorem tyok_96 : TyOk Try.prog 96 ⟨.slice 62,1,24,[.mslice 0 0 0 0]⟩ := tyOk_sliceN (by kernel_rfl : Try.prog.info? 96 = some Try.t96) rfl rfl Try.underlying96 rfl
theorem tyok_100 : TyOk Try.prog 100 ⟨.one,1,8,[.nilfunc]⟩ := tyOk_func (by kernel_rfl : Try.prog.info? 100 = some Try.t100) rfl rfl Try.underlying100 rfl
theorem tyok_102 : TyOk Try.prog 102 ⟨.slice 113,1,24,[.slice 2 []]⟩ := tyOk_slice (by kernel_rfl : Try.prog.info? 102 = some Try.t102) rfl rfl Try.underlying102 rfl
theorem tyok_108 : TyOk Try.prog 108 ⟨.one,1,8,[.nilfunc]⟩ := tyOk_func (by kernel_rfl : Try.prog.info? 108 = some Try.t108) rfl rfl Try.underlying108 rfl
theorem tyok_110 : TyOk Try.prog 110 ⟨.one,1,8,[.nilfunc]⟩ := tyOk_func (by kernel_rfl : Try.prog.info? 110 = some Try.t110) rfl rfl Try.underlying110 rfl
theorem tyok_111 : TyOk Try.prog 111 ⟨.one,1,8,[.nilfunc]⟩ := tyOk_func (by kernel_rfl : Try.prog.info? 111 = some Try.t111) rfl rfl Try.underlying111 rfl
theorem tyok_113 : TyOk Try.prog 113 ⟨.struct [(0,3),(1,3)],2,16,[.int .i64 0,.int .i64 0]⟩ := tyOk_struct (by kernel_rfl : Try.prog.info? 113 = some Try.t113) rfl Try.underlying113 rfl rfl rfl (fun _ _ => .cons (.int _ _) (.cons (.int _ _) (.nil))) rfl rfl (by kernel_rfl)
theorem tyok_120 : TyOk Try.prog 120 ⟨.one,1,8,[.nilfunc]⟩ := tyOk_func (by kernel_rfl : Try.prog.info? 120 = some Try.t120) rfl rfl Try.underlying120 rfl
theorem tyok_122 : TyOk Try.prog 122 ⟨.one,1,8,[.nilfunc]⟩ := tyOk_func (by kernel_rfl : Try.prog.info? 122 = some Try.t122) rfl rfl Try.underlying122 rfl
theorem tyok_125 : TyOk Try.prog 125 ⟨.one,1,8,[.nilfunc]⟩ := tyOk_func (by kernel_rfl : Try.prog.info? 125 = some Try.t125) rfl rfl Try.underlying125 rfl
theorem tyok_127 : TyOk Try.prog 127 ⟨.one,1,8,[.nilfunc]⟩ := tyOk_func (by kernel_rfl : Try.prog.info? 127 = some Try.t127) rfl rfl Try.underlying127 rfl
theorem tyok_128 : TyOk Try.prog 128 ⟨.one,1,8,[.nilptr]⟩ := tyOk_ptr (by kernel_rfl : Try.prog.info? 128 = some Try.t128) rfl rfl Try.underlying128 rfl
theorem tyok_132 : TyOk Try.prog 132 ⟨.one,1,8,[.nilfunc]⟩ := tyOk_func (by kernel_rfl : Try.prog.info? 132 = some Try.t132) rfl rfl Try.underlying132 rfl
theorem tyok_135 : TyOk Try.prog 135 ⟨.struct [(0,3),(1,3)],2,16,[.int .i64 0,.int .i64 0]⟩ := tyOk_struct (by kernel_rfl : Try.prog.info? 135 = some Try.t135) rfl Try.underlying135 rfl rfl rfl (fun _ _ => .cons (.int _ _) (.cons (.int _ _) (.nil))) rfl rfl (by kernel_rfl)
theorem tyok_137 : TyOk Try.prog 137 ⟨.array 3 135,6,48,[.int .i64 0,.int .i64 0,.int .i64 0,.int .i64 0,.int .i64 0,.int .i64 0]⟩ := tyOk_array (by kernel_rfl : Try.prog.info? 137 = some Try.t137) rfl Try.underlying137 rfl rfl (fun _ _ => .cons (.int _ _) (.cons (.int _ _) (.cons (.int _ _) (.cons (.int _ _) (.cons (.int _ _) (.cons (.int _ _) (.nil))))))) rfl rfl
theorem tyok_143 : TyOk Try.prog 143 ⟨.one,1,8,[.nilfunc]⟩ := tyOk_func (by kernel_rfl : Try.prog.info? 143 = some Try.t143) rfl rfl Try.underlying143 rfl
theorem tyok_147 : TyOk Try.prog 147 ⟨.one,1,8,[.nilfunc]⟩ := tyOk_func (by kernel_rfl : Try.prog.info? 147 = some Try.t147) rfl rfl Try.underlying147 rfl
theorem tyok_149 : TyOk Try.prog 149 ⟨.one,1,8,[.nilfunc]⟩ := tyOk_func (by kernel_rfl : Try.prog.info? 149 = some Try.t149) rfl rfl Try.underlying149 rfl
theorem tyok_151 : TyOk Try.prog 151 ⟨.struct [(0,95)],1,8,[.nilfunc]⟩ := tyOk_struct (by kernel_rfl : Try.prog.info? 151 = some Try.t151) rfl Try.underlying151 rfl rfl rfl (fun _ _ => .cons (.nilfunc) (.nil)) rfl rfl (by kernel_rfl)
theorem tyok_152 : TyOk Try.prog 152 ⟨.array 4 151,4,32,[.nilfunc,.nilfunc,.nilfunc,.nilfunc]⟩ := tyOk_array (by kernel_rfl : Try.prog.info? 152 = some Try.t152) rfl Try.underlying152 rfl rfl (fun _ _ => .cons (.nilfunc) (.cons (.nilfunc) (.cons (.nilfunc) (.cons (.nilfunc) (.nil))))) rfl rfl
theorem tyok_153 : TyOk Try.prog 153 ⟨.map 137 157,1,8,[.nilmap]⟩ := tyOk_map (by kernel_rfl : Try.prog.info? 153 = some Try.t153) rfl rfl Try.underlying153 rfl
theorem tyok_155 : TyOk Try.prog 155 ⟨.struct [(0,26),(5,152),(9,3),(10,153)],11,136,[.int .i64 0,.int .i64 0,.slice 5 [],.slice 3 [],.slice 4 [],.nilfunc,.nilfunc,.nilfunc,.nilfunc,.int .i64 0,.nilmap]⟩ := tyOk_struct (by kernel_rfl : Try.prog.info? 155 = some Try.t155) rfl Try.underlying155 rfl rfl rfl (fun _ _ => .cons (.int _ _) (.cons (.int _ _) (.cons (.nilslice _) (.cons (.nilslice _) (.cons (.nilslice _) (.cons (.nilfunc) (.cons (.nilfunc) (.cons (.nilfunc) (.cons (.nilfunc) (.cons (.int _ _) (.cons (.nilmap) (.nil)))))))))))) rfl rfl (by kernel_rfl)
theorem tyok_157 : TyOk Try.prog 157 ⟨.array 4 3,4,32,[.int .i64 0,.int .i64 0,.int .i64 0,.int .i64 0]⟩ := tyOk_array (by kernel_rfl : Try.prog.info? 157 = some Try.t157) rfl Try.underlying157 rfl rfl (fun _ _ => .cons (.int _ _) (.cons (.int _ _) (.cons (.int _ _) (.cons (.int _ _) (.nil))))) rfl rfl
theorem ty_0 : ty 0 = none := rfl
noncomputable def envC (H : Nat → Mode) (rd : Bool) (cut : List Nat) : Env := ⟨Try.prog,ty,H,rd,cut⟩
noncomputable def env (H : Nat → Mode) : Env := ⟨Try.prog,ty,H,false,[]⟩
noncomputable def envR (H : Nat → Mode) : Env := ⟨Try.prog,ty,H,true,[]⟩
theorem envOk (H : Nat → Mode) : EnvOk (env H) := by
 intro t i h
 show TyOk Try.prog t i
 have h : ty t = some i := h
 unfold ty at h
 split at h
 ·cases h; exact tyok_2
 ·cases h; exact tyok_3
 ·cases h; exact tyok_4
 ·cases h; exact tyok_5
 ·cases h; exact tyok_9
 ·cases h; exact tyok_12
 ·cases h; exact tyok_15
 ·cases h; exact tyok_16
 ·cases h; exact tyok_17
 ·cases h; exact tyok_21
 ·cases h; exact tyok_22
 ·cases h; exact tyok_23
 ·cases h; exact tyok_24
 ·cases h; exact tyok_26
 ·cases h; exact tyok_27
 ·cases h; exact tyok_28
 ·cases h; exact tyok_30
 ·cases h; exact tyok_33
 ·cases h; exact tyok_41
 ·cases h; exact tyok_49
 ·cases h; exact tyok_51
 ·cases h; exact tyok_54
 ·cases h; exact tyok_55
 ·cases h; exact tyok_57
 ·cases h; exact tyok_59
 ·cases h; exact tyok_62
 ·cases h; exact tyok_64
 ·cases h; exact tyok_71
 ·cases h; exact tyok_73
 ·cases h; exact tyok_74
 ·cases h; exact tyok_77
 ·cases h; exact tyok_79
 ·cases h; exact tyok_84
 ·cases h; exact tyok_85
 ·cases h; exact tyok_87
 ·cases h; exact tyok_89
 ·cases h; exact tyok_91
 ·cases h; exact tyok_95
 ·cases h; exact tyok_96
 ·cases h; exact tyok_100
 ·cases h; exact tyok_102
 ·cases h; exact tyok_108
 ·cases h; exact tyok_110
 ·cases h; exact tyok_111
 ·cases h; exact tyok_113
 ·cases h; exact tyok_120
 ·cases h; exact tyok_122
 ·cases h; exact tyok_125
 ·cases h; exact tyok_127
 ·cases h; exact tyok_128
 ·cases h; exact tyok_132
 ·cases h; exact tyok_135
 ·cases h; exact tyok_137
 ·cases h; exact tyok_143
 ·cases h; exact tyok_147
 ·cases h; exact tyok_149
 ·cases h; exact tyok_151
 ·cases h; exact tyok_152
 ·cases h; exact tyok_153
 ·cases h; exact tyok_155
 ·cases h; exact tyok_157
 ·cases h
theorem envCOk (H : Nat → Mode) (rd : Bool) (cut : List Nat) : EnvOk (envC H rd cut) := envOk H
end Go.Proofs.Ytikodjpbknneoaa.Abs
/- The abstract machine,part 18: small laws by which conditions are worked out. -/
namespace Go.Proofs.Ytikodjpbknneoaa.Abs
set_option linter.unusedSimpArgs false
open Go Go.RowKit
@[congr] theorem vcSome.cong {α : Type} {o o' : Option α} {K : α → Prop} (h : o = o') : vcSome o K = vcSome o' K := by rw [h]
@[congr] theorem vcOps.cong {E : Env} {ops : Array Oper} {l l' : List Oper} {K : St → Prop} {st st' : St} (h : l = l') (hs : st = st') : vcOps E ops l K st = vcOps E ops l' K st' := by rw [h,hs]
@[congr] theorem vcOpsD.cong {E : Env} {ops : Array Oper} {fl fl' : List Fl} {l l' : List Oper} {K : St → Prop} {st st' : St} (hf : fl = fl') (h : l = l') (hs : st = st') : vcOpsD E ops fl l K st = vcOpsD E ops fl' l' K st' := by rw [hf,h,hs]
@[congr] theorem Back.cong {α : Type} {I : α → Head} {J : α → Prop} {m : α → Nat} {x : α} {st st' : St} (h : st = st') : Back I J m x st = Back I J m x st' := by rw [h]
theorem env_T (H : Nat → Mode) : (env H).T = ty := rfl
theorem env_P (H : Nat → Mode) : (env H).P = Try.prog := rfl
theorem env_H (H : Nat → Mode) : (env H).H = H := rfl
theorem env_cut (H : Nat → Mode) : (env H).cut = [] := rfl
theorem envR_cut (H : Nat → Mode) : (envR H).cut = [] := rfl
theorem envC_T (H : Nat → Mode) (r : Bool) (c : List Nat) : (envC H r c).T = ty := rfl
theorem envC_P (H : Nat → Mode) (r : Bool) (c : List Nat) : (envC H r c).P = Try.prog := rfl
theorem envC_H (H : Nat → Mode) (r : Bool) (c : List Nat) : (envC H r c).H = H := rfl
theorem envC_cut (H : Nat → Mode) (r : Bool) (c : List Nat) : (envC H r c).cut = c := rfl
theorem envR_T (H : Nat → Mode) : (envR H).T = ty := rfl
theorem envR_P (H : Nat → Mode) : (envR H).P = Try.prog := rfl
theorem envR_H (H : Nat → Mode) : (envR H).H = H := rfl
def modeAt (own sh : List Nat) (i : Nat) : Mode := if cutAt own i = true then .own else if cutAt sh i = true then .shared else .imm
theorem inR_i64 (n : Int) : inR .i64 n ↔ (-9223372036854775808 ≤ n ∧ n ≤ 9223372036854775807) := by
 simp [inR,IntKind.min,IntKind.max,IntKind.signed,IntKind.bits]
theorem inR_u8 (n : Int) : inR .u8 n ↔ (0 ≤ n ∧ n ≤ 255) := by
 simp [inR,IntKind.min,IntKind.max,IntKind.signed,IntKind.bits]
theorem maxLen_eq : maxLen = 9223372036854775807 := rfl
def ints (l : List Int) : AV := .slice 1 (l.map (AV.int .i64))
@[congr] theorem VIdx.cong {l l' : List AV} {i i' : Int} {K : AV → Prop} (h : l = l') (hi : i = i') : VIdx l i K = VIdx l' i' K := by rw [h,hi]
theorem VIdx_map {α : Type} [Inhabited α] (f : α → AV) (l : List α) (i : Int) (K : AV → Prop) : VIdx (l.map f) i K ↔ (0 ≤ i ∧ i.toNat < l.length) ∧ K (f l[i.toNat]!) := by
 unfold VIdx
 constructor
 ·rintro ⟨e,he,h0,hk⟩
  rw [List.getElem?_map] at he
  cases h : l[i.toNat]? with
  | none => rw [h] at he; simp at he
  | some x =>
   rw [h] at he
   simp at he
   subst he
   have hlt := (List.getElem?_eq_some_iff.1 h).1
   refine ⟨⟨h0,hlt⟩,?_⟩
   rw [List.getElem!_eq_getElem?_getD,h]; exact hk
 ·rintro ⟨⟨h0,h1⟩,hk⟩
  refine ⟨_,?_,h0,hk⟩
  rw [List.getElem?_map,List.getElem!_eq_getElem?_getD,List.getElem?_eq_getElem h1]; rfl
theorem ACall.pure {P : Program} {f : FuncId} {xs : List AV} {r : AV} (h : PCall P f xs r) {m : Mem} {K : AV → Mem → Prop} (hk : K r m) : VCall P f xs m K .mk :=
 ACall.mono (h m) fun _ _ ⟨h1,h2⟩ => by rw [h1,h2]; exact hk
theorem ACall.told {P : Program} {f : FuncId} {xs : List AV} {m : Mem} {K K' : AV → Mem → Prop} (h : ACall P f xs m K') (hk : ∀ r m',K' r m' → K r m') : VCall P f xs m K .mk :=
 ACall.mono h hk
theorem getD_idx {l : List Int} {k : Nat} (h : k < l.length) : l[k]! = l[k] := by
 rw [List.getElem!_eq_getElem?_getD,List.getElem?_eq_getElem h]; rfl
theorem mixed : Try.prog.follows .mixedOrders = true := by kernel_rfl
def lenOk (xs : List AV) : Prop := ∀ sz l,AV.slice sz l ∈ xs → l.length ≤ maxLen
theorem acall_len {P : Program} {f : FuncId} {xs : List AV} {m : Mem} {K : AV → Mem → Prop} (hcall : ∀ (args : Array Value) (w : World),(callFunc f args).run P w = .ok (.enter f args) w) (h : lenOk xs → ACall P f xs m K) : ACall P f xs m K := by
 refine ⟨hcall,fun G w vs hi hm hr => (h fun sz l hl => ?_).2 G w vs hi hm hr⟩
 obtain ⟨i,hi',hl⟩ := List.mem_iff_getElem.1 hl
 have hv : i < vs.length := by rw [← hr.1]; exact hi'
 have := hr.2 i (.slice sz l) vs[i] (by rw [← hl]; exact List.getElem?_eq_getElem hi') (List.getElem?_eq_getElem hv)
 obtain ⟨cs,_,_,_,_,h5⟩ := slice_row this
 exact h5
theorem lenOk_cons {x : AV} {xs : List AV} : lenOk (x :: xs) ↔ (match x with | .slice _ l => l.length ≤ maxLen | _ => True) ∧ lenOk xs := by
 constructor
 ·intro h
  refine ⟨?_,fun sz l hl => h sz l (by simp [hl])⟩
  split
  ·rename_i sz l; exact h sz l (by simp)
  ·trivial
 ·rintro ⟨h1,h2⟩ sz l hl
  rcases List.mem_cons.1 hl with rfl | hl
  ·exact h1
  ·exact h2 sz l hl
theorem lenOk_nil : lenOk [] ↔ True := by simp [lenOk]
theorem natDivPow (s i : Nat) : ((s : Int) / 2 ^ i) = ((s / 2 ^ i : Nat) : Int) := by simp
theorem natMulPow (s i : Nat) : ((s : Int) * 2 ^ i) = ((s * 2 ^ i : Nat) : Int) := by simp
theorem oneMulPow (i : Nat) : ((1 : Int) * 2 ^ i) = ((2 ^ i : Nat) : Int) := by simp
theorem toNatOne : (1 : Int).toNat = 1 := rfl
theorem and_one_bit (s i : Nat) : (s / 2 ^ i &&& 1) = if s.testBit i then 1 else 0 := by
 rw [Nat.and_one_is_mod,Nat.testBit_eq_decide_div_mod_eq]
 by_cases h : s / 2 ^ i % 2 = 1
 ·simp [h]
 ·have : s / 2 ^ i % 2 = 0 := by omega
  simp [this]
theorem testBit_dec (s i : Nat) : decide (((s / 2 ^ i &&& 1 : Nat) : Int) = 1) = s.testBit i := by
 rw [and_one_bit]; by_cases h : s.testBit i <;> simp [h]
theorem testBit_dec0 (s i : Nat) : decide (((s / 2 ^ i &&& 1 : Nat) : Int) = 0) = !s.testBit i := by
 rw [and_one_bit]; by_cases h : s.testBit i <;> simp [h]
theorem testBit_prop (s i : Nat) : (((s / 2 ^ i &&& 1 : Nat) : Int) = 1) = (s.testBit i = true) := by
 rw [and_one_bit]; by_cases h : s.testBit i <;> simp [h]
theorem testBit_prop0 (s i : Nat) : (((s / 2 ^ i &&& 1 : Nat) : Int) = 0) = (s.testBit i = false) := by
 rw [and_one_bit]; by_cases h : s.testBit i <;> simp [h]
theorem ite_split {p : Prop} [Decidable p] {A B : Prop} : (if p then A else B) = ((p → A) ∧ (¬ p → B)) := by
 by_cases h : p <;> simp [h]
end Go.Proofs.Ytikodjpbknneoaa.Abs
/- The abstract machine,part 19: the laws by which conditions are worked out,bundled. -/
namespace Go.Proofs.Ytikodjpbknneoaa.Abs
set_option linter.unusedSimpArgs false
open Go Go.RowKit
theorem VP0 : type_of% (
 And.intro (@vc.eq_1) <|
 And.intro (@vc.eq_2) <|
 And.intro (@vc.eq_3) <|
 And.intro (@vc.eq_4) <|
 And.intro (@vc.eq_5) <|
 And.intro (@vc.eq_6) <|
 And.intro (@vc.eq_7) <|
 And.intro (@vc.eq_8) <|
 And.intro (@vc.eq_9) <|
 And.intro (@vc.eq_10) <|
 And.intro (@vc.eq_11) <|
 And.intro (@vc.eq_12) <|
 And.intro (@vc.eq_13) <|
 And.intro (@vcOps.eq_1) <|
 And.intro (@vcOps.eq_2) <|
 And.intro (@vcOp.eq_1) <|
 And.intro (@vcGuard.eq_def) <|
 And.intro (@ev.eq_1) <|
 And.intro (@vcCall.eq_def) <|
 And.intro (@vcBin.eq_def) <|
 And.intro (@vcInts.eq_def) <|
 And.intro (@vcShift.eq_def) <|
 And.intro (@vcFresh.eq_1) <|
 And.intro (@vcLookup.eq_def) <|
 And.intro (@vcMapUpdate.eq_def) <|
 And.intro (@vcNext.eq_def) <|
 And.intro (@vcRange.eq_def) <|
 And.intro (@vcCopy.eq_def) <|
 And.intro (@vcOpsD.eq_1) <|
 And.intro (@vcOpsD.eq_2) <|
 And.intro (@vcOpsD.eq_3) <|
 And.intro (@vcOpD.eq_1) <|
 And.intro (@evD.eq_1) <|
 And.intro (@vcLenTD.eq_def) <|
 And.intro (@vcLenD.eq_def) <|
 And.intro (@vcBuiltinD.eq_def) <|
 And.intro (@vcTk.eq_def) <|
 And.intro (@vcNew.eq_def) <|
 And.intro (@vcCallD.eq_def) <|
 (@vcCallT.eq_def)) :=
 And.intro (@vc.eq_1) <|
 And.intro (@vc.eq_2) <|
 And.intro (@vc.eq_3) <|
 And.intro (@vc.eq_4) <|
 And.intro (@vc.eq_5) <|
 And.intro (@vc.eq_6) <|
 And.intro (@vc.eq_7) <|
 And.intro (@vc.eq_8) <|
 And.intro (@vc.eq_9) <|
 And.intro (@vc.eq_10) <|
 And.intro (@vc.eq_11) <|
 And.intro (@vc.eq_12) <|
 And.intro (@vc.eq_13) <|
 And.intro (@vcOps.eq_1) <|
 And.intro (@vcOps.eq_2) <|
 And.intro (@vcOp.eq_1) <|
 And.intro (@vcGuard.eq_def) <|
 And.intro (@ev.eq_1) <|
 And.intro (@vcCall.eq_def) <|
 And.intro (@vcBin.eq_def) <|
 And.intro (@vcInts.eq_def) <|
 And.intro (@vcShift.eq_def) <|
 And.intro (@vcFresh.eq_1) <|
 And.intro (@vcLookup.eq_def) <|
 And.intro (@vcMapUpdate.eq_def) <|
 And.intro (@vcNext.eq_def) <|
 And.intro (@vcRange.eq_def) <|
 And.intro (@vcCopy.eq_def) <|
 And.intro (@vcOpsD.eq_1) <|
 And.intro (@vcOpsD.eq_2) <|
 And.intro (@vcOpsD.eq_3) <|
 And.intro (@vcOpD.eq_1) <|
 And.intro (@evD.eq_1) <|
 And.intro (@vcLenTD.eq_def) <|
 And.intro (@vcLenD.eq_def) <|
 And.intro (@vcBuiltinD.eq_def) <|
 And.intro (@vcTk.eq_def) <|
 And.intro (@vcNew.eq_def) <|
 And.intro (@vcCallD.eq_def) <|
 (@vcCallT.eq_def)
theorem VP1 : type_of% (
 And.intro (@vcEqAgg.eq_def) <|
 And.intro (@vcUn.eq_def) <|
 And.intro (@vcConvert.eq_def) <|
 And.intro (@vcLenT.eq_def) <|
 And.intro (@vcLen.eq_def) <|
 And.intro (@vcBuiltin.eq_def) <|
 And.intro (@vcAppend.eq_def) <|
 And.intro (@vcMinMax.eq_def) <|
 And.intro (@vcPick.eq_def) <|
 And.intro (@vcIndexAddr.eq_def) <|
 And.intro (@vcIndex.eq_def) <|
 And.intro (@vcLoad.eq_def) <|
 And.intro (@vcFrom.eq_def) <|
 And.intro (@vcStore.eq_def) <|
 And.intro (@vcStoreAt.eq_1) <|
 And.intro (@vcNil.eq_def) <|
 And.intro (@vcFieldAddr.eq_1) <|
 And.intro (@vcField.eq_1) <|
 And.intro (@vcBuild.eq_1) <|
 And.intro (@vcBuildSlice.eq_1) <|
 And.intro (@vcMakeSlice.eq_def) <|
 And.intro (@vcSliceOp.eq_def) <|
 And.intro (@vcExtract.eq_def) <|
 And.intro (@retK.eq_def) <|
 And.intro (@vcRet.eq_1) <|
 And.intro (@vcRets.eq_1) <|
 And.intro (@vcRets.eq_2) <|
 And.intro (@vcRets.eq_3) <|
 And.intro (@loopK.eq_def) <|
 And.intro (@rangeK.eq_def) <|
 And.intro (@busyK.eq_def) <|
 And.intro (@roundK.eq_def) <|
 And.intro (@upd.eq_1) <|
 And.intro (@lookV.eq_1) <|
 And.intro (@lookV.eq_2) <|
 And.intro (@lookO.eq_1) <|
 And.intro (@lookO.eq_2) <|
 And.intro (@lookL.eq_1) <|
 And.intro (@lookL.eq_2) <|
 (@laidV.eq_def)) :=
 And.intro (@vcEqAgg.eq_def) <|
 And.intro (@vcUn.eq_def) <|
 And.intro (@vcConvert.eq_def) <|
 And.intro (@vcLenT.eq_def) <|
 And.intro (@vcLen.eq_def) <|
 And.intro (@vcBuiltin.eq_def) <|
 And.intro (@vcAppend.eq_def) <|
 And.intro (@vcMinMax.eq_def) <|
 And.intro (@vcPick.eq_def) <|
 And.intro (@vcIndexAddr.eq_def) <|
 And.intro (@vcIndex.eq_def) <|
 And.intro (@vcLoad.eq_def) <|
 And.intro (@vcFrom.eq_def) <|
 And.intro (@vcStore.eq_def) <|
 And.intro (@vcStoreAt.eq_1) <|
 And.intro (@vcNil.eq_def) <|
 And.intro (@vcFieldAddr.eq_1) <|
 And.intro (@vcField.eq_1) <|
 And.intro (@vcBuild.eq_1) <|
 And.intro (@vcBuildSlice.eq_1) <|
 And.intro (@vcMakeSlice.eq_def) <|
 And.intro (@vcSliceOp.eq_def) <|
 And.intro (@vcExtract.eq_def) <|
 And.intro (@retK.eq_def) <|
 And.intro (@vcRet.eq_1) <|
 And.intro (@vcRets.eq_1) <|
 And.intro (@vcRets.eq_2) <|
 And.intro (@vcRets.eq_3) <|
 And.intro (@loopK.eq_def) <|
 And.intro (@rangeK.eq_def) <|
 And.intro (@busyK.eq_def) <|
 And.intro (@roundK.eq_def) <|
 And.intro (@upd.eq_1) <|
 And.intro (@lookV.eq_1) <|
 And.intro (@lookV.eq_2) <|
 And.intro (@lookO.eq_1) <|
 And.intro (@lookO.eq_2) <|
 And.intro (@lookL.eq_1) <|
 And.intro (@lookL.eq_2) <|
 (@laidV.eq_def)
theorem VP2 : type_of% (
 (@isIntKey.eq_def)) :=
 (@isIntKey.eq_def)
theorem VQ0 : type_of% (
 And.intro (@noneF.eq_1) <|
 And.intro (@avs.eq_1) <|
 And.intro (@avs.eq_2) <|
 And.intro (@avs.eq_3) <|
 And.intro (@eqCells.eq_1) <|
 And.intro (@eqCells.eq_2) <|
 And.intro (@eqCells.eq_3) <|
 And.intro (@eqCells.eq_4) <|
 And.intro (@eqCells.eq_5) <|
 And.intro (@fieldOf.eq_1) <|
 And.intro (@placeOf.eq_1) <|
 And.intro (@placeOf.eq_2) <|
 And.intro (@placeOf.eq_3) <|
 And.intro (@arrKnown.eq_1) <|
 And.intro (@arrKnown.eq_2) <|
 And.intro (@buildFrom.eq_1) <|
 And.intro (@buildFrom.eq_2) <|
 And.intro (@buildFrom.eq_3) <|
 And.intro (@sliceFrom.eq_1) <|
 And.intro (@sliceFrom.eq_2) <|
 And.intro (@sliceFrom.eq_3) <|
 And.intro (@overlay.eq_1) <|
 And.intro (@zeroOf.eq_1) <|
 And.intro (@known.eq_1) <|
 And.intro (@known.eq_2) <|
 And.intro (@flat.eq_1) <|
 And.intro (@flat.eq_2) <|
 And.intro (@flat.eq_3) <|
 And.intro (@flat.eq_4) <|
 And.intro (@bound.eq_1) <|
 And.intro (@bound.eq_2) <|
 And.intro (@bound.eq_3) <|
 And.intro (@retVal.eq_1) <|
 And.intro (@retVal.eq_2) <|
 And.intro (@resSlots.eq_1) <|
 And.intro (@resSlots.eq_2) <|
 And.intro (@resSlots.eq_3) <|
 And.intro (@entry.eq_1) <|
 And.intro (@Head.st.eq_1) <|
 (@env_T)) :=
 And.intro (@noneF.eq_1) <|
 And.intro (@avs.eq_1) <|
 And.intro (@avs.eq_2) <|
 And.intro (@avs.eq_3) <|
 And.intro (@eqCells.eq_1) <|
 And.intro (@eqCells.eq_2) <|
 And.intro (@eqCells.eq_3) <|
 And.intro (@eqCells.eq_4) <|
 And.intro (@eqCells.eq_5) <|
 And.intro (@fieldOf.eq_1) <|
 And.intro (@placeOf.eq_1) <|
 And.intro (@placeOf.eq_2) <|
 And.intro (@placeOf.eq_3) <|
 And.intro (@arrKnown.eq_1) <|
 And.intro (@arrKnown.eq_2) <|
 And.intro (@buildFrom.eq_1) <|
 And.intro (@buildFrom.eq_2) <|
 And.intro (@buildFrom.eq_3) <|
 And.intro (@sliceFrom.eq_1) <|
 And.intro (@sliceFrom.eq_2) <|
 And.intro (@sliceFrom.eq_3) <|
 And.intro (@overlay.eq_1) <|
 And.intro (@zeroOf.eq_1) <|
 And.intro (@known.eq_1) <|
 And.intro (@known.eq_2) <|
 And.intro (@flat.eq_1) <|
 And.intro (@flat.eq_2) <|
 And.intro (@flat.eq_3) <|
 And.intro (@flat.eq_4) <|
 And.intro (@bound.eq_1) <|
 And.intro (@bound.eq_2) <|
 And.intro (@bound.eq_3) <|
 And.intro (@retVal.eq_1) <|
 And.intro (@retVal.eq_2) <|
 And.intro (@resSlots.eq_1) <|
 And.intro (@resSlots.eq_2) <|
 And.intro (@resSlots.eq_3) <|
 And.intro (@entry.eq_1) <|
 And.intro (@Head.st.eq_1) <|
 (@env_T)
theorem VQ1 : type_of% (
 And.intro (@env_P) <|
 And.intro (@env_H) <|
 And.intro (@St.put.eq_1) <|
 And.intro (@St.put.eq_2) <|
 And.intro (@St.sv.eq_1) <|
 And.intro (@St.sv.eq_2) <|
 And.intro (@St.sv.eq_3) <|
 And.intro (@St.sv.eq_4) <|
 And.intro (@St.ow.eq_1) <|
 And.intro (@St.ow.eq_2) <|
 And.intro (@St.ow.eq_3) <|
 And.intro (@St.eff.eq_1) <|
 And.intro (@St.eff.eq_2) <|
 And.intro (@St.eff.eq_3) <|
 And.intro (@St.eff.eq_4) <|
 And.intro (@St.eff.eq_5) <|
 And.intro (@St.eff.eq_6) <|
 And.intro (@St.eff.eq_7) <|
 And.intro (@St.eff.eq_8) <|
 And.intro (@St.eff.eq_9) <|
 And.intro (@St.take.eq_1) <|
 And.intro (@St.take.eq_2) <|
 And.intro (@St.takeO.eq_1) <|
 And.intro (@St.takeO.eq_2) <|
 And.intro (@St.freezes.eq_1) <|
 And.intro (@St.freezes.eq_2) <|
 And.intro (@St.freezes.eq_3) <|
 And.intro (@St.freeze.eq_1) <|
 And.intro (@takes.eq_1) <|
 And.intro (@isSlice.eq_1) <|
 And.intro (@isSlice.eq_2) <|
 And.intro (@isShift.eq_1) <|
 And.intro (@isShift.eq_2) <|
 And.intro (@isShift.eq_3) <|
 And.intro (@TyI.agg.eq_1) <|
 And.intro (@cvv.eq_1) <|
 And.intro (@cvv.eq_2) <|
 And.intro (@cvv.eq_3) <|
 And.intro (@cvv.eq_4) <|
 (@cvv.eq_5)) :=
 And.intro (@env_P) <|
 And.intro (@env_H) <|
 And.intro (@St.put.eq_1) <|
 And.intro (@St.put.eq_2) <|
 And.intro (@St.sv.eq_1) <|
 And.intro (@St.sv.eq_2) <|
 And.intro (@St.sv.eq_3) <|
 And.intro (@St.sv.eq_4) <|
 And.intro (@St.ow.eq_1) <|
 And.intro (@St.ow.eq_2) <|
 And.intro (@St.ow.eq_3) <|
 And.intro (@St.eff.eq_1) <|
 And.intro (@St.eff.eq_2) <|
 And.intro (@St.eff.eq_3) <|
 And.intro (@St.eff.eq_4) <|
 And.intro (@St.eff.eq_5) <|
 And.intro (@St.eff.eq_6) <|
 And.intro (@St.eff.eq_7) <|
 And.intro (@St.eff.eq_8) <|
 And.intro (@St.eff.eq_9) <|
 And.intro (@St.take.eq_1) <|
 And.intro (@St.take.eq_2) <|
 And.intro (@St.takeO.eq_1) <|
 And.intro (@St.takeO.eq_2) <|
 And.intro (@St.freezes.eq_1) <|
 And.intro (@St.freezes.eq_2) <|
 And.intro (@St.freezes.eq_3) <|
 And.intro (@St.freeze.eq_1) <|
 And.intro (@takes.eq_1) <|
 And.intro (@isSlice.eq_1) <|
 And.intro (@isSlice.eq_2) <|
 And.intro (@isShift.eq_1) <|
 And.intro (@isShift.eq_2) <|
 And.intro (@isShift.eq_3) <|
 And.intro (@TyI.agg.eq_1) <|
 And.intro (@cvv.eq_1) <|
 And.intro (@cvv.eq_2) <|
 And.intro (@cvv.eq_3) <|
 And.intro (@cvv.eq_4) <|
 (@cvv.eq_5)
theorem VQ2 : type_of% (
 And.intro (@cvv.eq_6) <|
 And.intro (@cvv.eq_7) <|
 And.intro (@cvv.eq_8) <|
 And.intro (@undefS.eq_1) <|
 And.intro (@gslot.eq_1) <|
 And.intro (@AV.cells.eq_1) <|
 And.intro (@AV.cells.eq_2) <|
 And.intro (@ints.eq_1) <|
 And.intro (@inR_i64) <|
 And.intro (@inR_u8) <|
 And.intro (@maxLen_eq) <|
 And.intro (@small.eq_1) <|
 And.intro (@smallK.eq_1) <|
 And.intro (@smallK.eq_2) <|
 And.intro (@IntKind.bits.eq_1) <|
 And.intro (@IntKind.bits.eq_2) <|
 And.intro (@IntKind.bits.eq_3) <|
 And.intro (@IntKind.bits.eq_4) <|
 And.intro (@IntKind.bits.eq_5) <|
 And.intro (@IntKind.bits.eq_6) <|
 And.intro (@IntKind.bits.eq_7) <|
 And.intro (@IntKind.bits.eq_8) <|
 And.intro (@VIdx_map) <|
 And.intro (@List.map_cons.{0,0}) <|
 And.intro (@List.map_nil.{0,0}) <|
 And.intro (@List.zip_cons_cons.{0,0}) <|
 And.intro (@List.zip_nil_right.{0,0}) <|
 And.intro (@List.zip_nil_left.{0,0}) <|
 And.intro (@List.append_nil.{0}) <|
 And.intro (@List.nil_append.{0}) <|
 And.intro (@List.cons_append.{0}) <|
 And.intro (@List.length_cons.{0}) <|
 And.intro (@List.length_nil.{0}) <|
 And.intro (@List.length_map.{0,0}) <|
 And.intro (@List.replicate_succ.{0}) <|
 And.intro (@List.replicate_zero.{0}) <|
 And.intro (@List.set_cons_zero.{0}) <|
 And.intro (@List.set_cons_succ.{0}) <|
 And.intro (@List.set_nil.{0}) <|
 And.intro (@List.take_succ_cons.{0}) <|
 And.intro (@List.take_zero.{0}) <|
 (@List.take_nil.{0})) :=
 And.intro (@cvv.eq_6) <|
 And.intro (@cvv.eq_7) <|
 And.intro (@cvv.eq_8) <|
 And.intro (@undefS.eq_1) <|
 And.intro (@gslot.eq_1) <|
 And.intro (@AV.cells.eq_1) <|
 And.intro (@AV.cells.eq_2) <|
 And.intro (@ints.eq_1) <|
 And.intro (@inR_i64) <|
 And.intro (@inR_u8) <|
 And.intro (@maxLen_eq) <|
 And.intro (@small.eq_1) <|
 And.intro (@smallK.eq_1) <|
 And.intro (@smallK.eq_2) <|
 And.intro (@IntKind.bits.eq_1) <|
 And.intro (@IntKind.bits.eq_2) <|
 And.intro (@IntKind.bits.eq_3) <|
 And.intro (@IntKind.bits.eq_4) <|
 And.intro (@IntKind.bits.eq_5) <|
 And.intro (@IntKind.bits.eq_6) <|
 And.intro (@IntKind.bits.eq_7) <|
 And.intro (@IntKind.bits.eq_8) <|
 And.intro (@VIdx_map) <|
 And.intro (@List.map_cons.{0,0}) <|
 And.intro (@List.map_nil.{0,0}) <|
 And.intro (@List.zip_cons_cons.{0,0}) <|
 And.intro (@List.zip_nil_right.{0,0}) <|
 And.intro (@List.zip_nil_left.{0,0}) <|
 And.intro (@List.append_nil.{0}) <|
 And.intro (@List.nil_append.{0}) <|
 And.intro (@List.cons_append.{0}) <|
 And.intro (@List.length_cons.{0}) <|
 And.intro (@List.length_nil.{0}) <|
 And.intro (@List.length_map.{0,0}) <|
 And.intro (@List.replicate_succ.{0}) <|
 And.intro (@List.replicate_zero.{0}) <|
 And.intro (@List.set_cons_zero.{0}) <|
 And.intro (@List.set_cons_succ.{0}) <|
 And.intro (@List.set_nil.{0}) <|
 And.intro (@List.take_succ_cons.{0}) <|
 And.intro (@List.take_zero.{0}) <|
 (@List.take_nil.{0})
theorem VQ3 : type_of% (
 And.intro (@List.drop_succ_cons.{0}) <|
 And.intro (@List.drop_zero.{0}) <|
 And.intro (@List.drop_nil.{0}) <|
 And.intro (@List.all_cons.{0}) <|
 And.intro (@List.all_nil.{0}) <|
 And.intro (@List.getElem?_toArray.{0}) <|
 And.intro (@List.getElem?_cons_succ.{0}) <|
 And.intro (@List.getElem?_cons_zero.{0}) <|
 And.intro (@List.getElem?_nil.{0}) <|
 And.intro (@List.head?_cons.{0}) <|
 And.intro (@List.head?_nil.{0}) <|
 And.intro (@Option.bind_some.{0,0}) <|
 And.intro (@Option.bind_none.{0,0}) <|
 And.intro (@Option.map_some.{0,0}) <|
 And.intro (@Option.map_none.{0,0}) <|
 And.intro (@Option.isSome_some.{0}) <|
 And.intro (@Option.isSome_none.{0}) <|
 And.intro (@Option.getD_some.{0}) <|
 And.intro (@Option.getD_none.{0}) <|
 And.intro (@Option.some.injEq.{0}) <|
 And.intro (@Nat.add_zero) <|
 And.intro (@Nat.zero_add) <|
 And.intro (@Nat.one_mul) <|
 And.intro (@Nat.mul_one) <|
 And.intro (@Nat.zero_mul) <|
 And.intro (@Int.toNat_natCast) <|
 And.intro (@Int.ofNat_eq_natCast) <|
 And.intro (@decide_eq_true_eq) <|
 And.intro (@decide_eq_false_iff_not) <|
 And.intro (@Bool.false_eq_true) <|
 And.intro (@Bool.true_eq_false) <|
 And.intro (@false_implies) <|
 And.intro (@true_implies) <|
 And.intro (@and_true) <|
 And.intro (@true_and) <|
 And.intro (@and_false) <|
 And.intro (@false_and) <|
 And.intro (@and_self) <|
 And.intro (@Bool.not_false) <|
 (@Bool.not_true)) :=
 And.intro (@List.drop_succ_cons.{0}) <|
 And.intro (@List.drop_zero.{0}) <|
 And.intro (@List.drop_nil.{0}) <|
 And.intro (@List.all_cons.{0}) <|
 And.intro (@List.all_nil.{0}) <|
 And.intro (@List.getElem?_toArray.{0}) <|
 And.intro (@List.getElem?_cons_succ.{0}) <|
 And.intro (@List.getElem?_cons_zero.{0}) <|
 And.intro (@List.getElem?_nil.{0}) <|
 And.intro (@List.head?_cons.{0}) <|
 And.intro (@List.head?_nil.{0}) <|
 And.intro (@Option.bind_some.{0,0}) <|
 And.intro (@Option.bind_none.{0,0}) <|
 And.intro (@Option.map_some.{0,0}) <|
 And.intro (@Option.map_none.{0,0}) <|
 And.intro (@Option.isSome_some.{0}) <|
 And.intro (@Option.isSome_none.{0}) <|
 And.intro (@Option.getD_some.{0}) <|
 And.intro (@Option.getD_none.{0}) <|
 And.intro (@Option.some.injEq.{0}) <|
 And.intro (@Nat.add_zero) <|
 And.intro (@Nat.zero_add) <|
 And.intro (@Nat.one_mul) <|
 And.intro (@Nat.mul_one) <|
 And.intro (@Nat.zero_mul) <|
 And.intro (@Int.toNat_natCast) <|
 And.intro (@Int.ofNat_eq_natCast) <|
 And.intro (@decide_eq_true_eq) <|
 And.intro (@decide_eq_false_iff_not) <|
 And.intro (@Bool.false_eq_true) <|
 And.intro (@Bool.true_eq_false) <|
 And.intro (@false_implies) <|
 And.intro (@true_implies) <|
 And.intro (@and_true) <|
 And.intro (@true_and) <|
 And.intro (@and_false) <|
 And.intro (@false_and) <|
 And.intro (@and_self) <|
 And.intro (@Bool.not_false) <|
 (@Bool.not_true)
theorem VQ4 : type_of% (
 And.intro (@Bool.not_eq_true') <|
 And.intro (@Bool.not_eq_false') <|
 And.intro (@Bool.and_true) <|
 And.intro (@Bool.true_and) <|
 And.intro (@Bool.false_and) <|
 And.intro (@Bool.and_false) <|
 And.intro (@not_true_eq_false) <|
 And.intro (@not_false_eq_true) <|
 And.intro (@ne_eq.{1}) <|
 And.intro (@Int.natCast_zero) <|
 And.intro (@Int.natCast_one) <|
 And.intro (@roundSt.eq_1) <|
 And.intro (@SV.av.eq_1) <|
 And.intro (@SV.av.eq_2) <|
 And.intro (@envR_T) <|
 And.intro (@envR_P) <|
 And.intro (@envR_H) <|
 And.intro (@natDivPow) <|
 And.intro (@natMulPow) <|
 And.intro (@oneMulPow) <|
 And.intro (@toNatOne) <|
 And.intro (@testBit_dec) <|
 And.intro (@testBit_dec0) <|
 And.intro (@testBit_prop) <|
 And.intro (@testBit_prop0) <|
 And.intro (@env_cut) <|
 And.intro (@envR_cut) <|
 And.intro (@envC_T) <|
 And.intro (@envC_P) <|
 And.intro (@envC_H) <|
 And.intro (@envC_cut) <|
 And.intro (@cutAt.eq_1) <|
 And.intro (@cutAt.eq_2) <|
 And.intro (@modeAt.eq_1) <|
 And.intro (@vcSome.eq_1) <|
 (@vcSome.eq_2)) :=
 And.intro (@Bool.not_eq_true') <|
 And.intro (@Bool.not_eq_false') <|
 And.intro (@Bool.and_true) <|
 And.intro (@Bool.true_and) <|
 And.intro (@Bool.false_and) <|
 And.intro (@Bool.and_false) <|
 And.intro (@not_true_eq_false) <|
 And.intro (@not_false_eq_true) <|
 And.intro (@ne_eq.{1}) <|
 And.intro (@Int.natCast_zero) <|
 And.intro (@Int.natCast_one) <|
 And.intro (@roundSt.eq_1) <|
 And.intro (@SV.av.eq_1) <|
 And.intro (@SV.av.eq_2) <|
 And.intro (@envR_T) <|
 And.intro (@envR_P) <|
 And.intro (@envR_H) <|
 And.intro (@natDivPow) <|
 And.intro (@natMulPow) <|
 And.intro (@oneMulPow) <|
 And.intro (@toNatOne) <|
 And.intro (@testBit_dec) <|
 And.intro (@testBit_dec0) <|
 And.intro (@testBit_prop) <|
 And.intro (@testBit_prop0) <|
 And.intro (@env_cut) <|
 And.intro (@envR_cut) <|
 And.intro (@envC_T) <|
 And.intro (@envC_P) <|
 And.intro (@envC_H) <|
 And.intro (@envC_cut) <|
 And.intro (@cutAt.eq_1) <|
 And.intro (@cutAt.eq_2) <|
 And.intro (@modeAt.eq_1) <|
 And.intro (@vcSome.eq_1) <|
 (@vcSome.eq_2)
theorem VT : type_of% (
 And.intro ty_2 <|
 And.intro ty_3 <|
 And.intro ty_4 <|
 And.intro ty_5 <|
 And.intro ty_9 <|
 And.intro ty_12 <|
 And.intro ty_15 <|
 And.intro ty_16 <|
 And.intro ty_17 <|
 And.intro ty_21 <|
 And.intro ty_22 <|
 And.intro ty_23 <|
 And.intro ty_24 <|
 And.intro ty_26 <|
 And.intro ty_27 <|
 And.intro ty_28 <|
 And.intro ty_30 <|
 And.intro ty_33 <|
 And.intro ty_41 <|
 And.intro ty_49 <|
 And.intro ty_51 <|
 And.intro ty_54 <|
 And.intro ty_55 <|
 And.intro ty_57 <|
 And.intro ty_59 <|
 And.intro ty_62 <|
 And.intro ty_64 <|
 And.intro ty_71 <|
 And.intro ty_73 <|
 And.intro ty_74 <|
 And.intro ty_77 <|
 And.intro ty_79 <|
 And.intro ty_84 <|
 And.intro ty_85 <|
 And.intro ty_87 <|
 And.intro ty_89 <|
 And.intro ty_91 <|
 And.intro ty_95 <|
 And.intro ty_96 <|
 And.intro ty_100 <|
 And.intro ty_102 <|
 And.intro ty_108 <|
 And.intro ty_110 <|
 And.intro ty_111 <|
 And.intro ty_113 <|
 And.intro ty_120 <|
 And.intro ty_122 <|
 And.intro ty_125 <|
 And.intro ty_127 <|
 And.intro ty_128 <|
 And.intro ty_132 <|
 And.intro ty_135 <|
 And.intro ty_137 <|
 And.intro ty_143 <|
 And.intro ty_147 <|
 And.intro ty_149 <|
 And.intro ty_151 <|
 And.intro ty_152 <|
 And.intro ty_153 <|
 And.intro ty_155 <|
 And.intro ty_157 <|
 ty_0) :=
 And.intro ty_2 <|
 And.intro ty_3 <|
 And.intro ty_4 <|
 And.intro ty_5 <|
 And.intro ty_9 <|
 And.intro ty_12 <|
 And.intro ty_15 <|
 And.intro ty_16 <|
 And.intro ty_17 <|
 And.intro ty_21 <|
 And.intro ty_22 <|
 And.intro ty_23 <|
 And.intro ty_24 <|
 And.intro ty_26 <|
 And.intro ty_27 <|
 And.intro ty_28 <|
 And.intro ty_30 <|
 And.intro ty_33 <|
 And.intro ty_41 <|
 And.intro ty_49 <|
 And.intro ty_51 <|
 And.intro ty_54 <|
 And.intro ty_55 <|
 And.intro ty_57 <|
 And.intro ty_59 <|
 And.intro ty_62 <|
 And.intro ty_64 <|
 And.intro ty_71 <|
 And.intro ty_73 <|
 And.intro ty_74 <|
 And.intro ty_77 <|
 And.intro ty_79 <|
 And.intro ty_84 <|
 And.intro ty_85 <|
 And.intro ty_87 <|
 And.intro ty_89 <|
 And.intro ty_91 <|
 And.intro ty_95 <|
 And.intro ty_96 <|
 And.intro ty_100 <|
 And.intro ty_102 <|
 And.intro ty_108 <|
 And.intro ty_110 <|
 And.intro ty_111 <|
 And.intro ty_113 <|
 And.intro ty_120 <|
 And.intro ty_122 <|
 And.intro ty_125 <|
 And.intro ty_127 <|
 And.intro ty_128 <|
 And.intro ty_132 <|
 And.intro ty_135 <|
 And.intro ty_137 <|
 And.intro ty_143 <|
 And.intro ty_147 <|
 And.intro ty_149 <|
 And.intro ty_151 <|
 And.intro ty_152 <|
 And.intro ty_153 <|
 And.intro ty_155 <|
 And.intro ty_157 <|
 ty_0
theorem VP : type_of% (And.intro VP0 <| And.intro VP1 <| VP2) := And.intro VP0 <| And.intro VP1 <| VP2
theorem iteSelf {α : Type} {c : Prop} [Decidable c] (d : α) : ite c d d = d := ite_self d
theorem VQ : type_of% (And.intro @iteSelf <| And.intro VQ0 <| And.intro VQ1 <| And.intro VQ2 <| And.intro VQ3 <| And.intro VQ4 <| And.intro VT <| (@ite_split)) := And.intro @iteSelf <| And.intro VQ0 <| And.intro VQ1 <| And.intro VQ2 <| And.intro VQ3 <| And.intro VQ4 <| And.intro VT <| (@ite_split)
theorem FP : type_of% (And.intro (@upd.eq_1) <| And.intro (@lookV.eq_1) <| And.intro (@lookV.eq_2) <| And.intro (@lookO.eq_1) <| And.intro (@lookO.eq_2) <| And.intro (@lookL.eq_1) (@lookL.eq_2)) := And.intro (@upd.eq_1) <| And.intro (@lookV.eq_1) <| And.intro (@lookV.eq_2) <| And.intro (@lookO.eq_1) <| And.intro (@lookO.eq_2) <| And.intro (@lookL.eq_1) (@lookL.eq_2)
theorem FE : type_of% (And.intro (@Fits.eq_1) <| And.intro (@fitsV.eq_1) <| And.intro (@fitsV.eq_2) <| And.intro (@fitsO.eq_1) <| And.intro (@fitsO.eq_2) <| And.intro (@fitsL.eq_1) <| And.intro (@fitsL.eq_2) <| And.intro (@ints.eq_1) <| And.intro and_true <| And.intro true_and (@Option.some.injEq.{0})) := And.intro (@Fits.eq_1) <| And.intro (@fitsV.eq_1) <| And.intro (@fitsV.eq_2) <| And.intro (@fitsO.eq_1) <| And.intro (@fitsO.eq_2) <| And.intro (@fitsL.eq_1) <| And.intro (@fitsL.eq_2) <| And.intro (@ints.eq_1) <| And.intro and_true <| And.intro true_and (@Option.some.injEq.{0})
theorem GL : (∀ {α : Type} (a : α),(a = a) = True) ∧ (∀ (h : Decidable True),@decide True h = true) ∧ (∀ (h : Decidable False),@decide False h = false) ∧ (∀ {α : Type} {h : Decidable True} (a b : α),@ite α True h a b = a) ∧ (∀ {α : Type} {h : Decidable False} (a b : α),@ite α False h a b = b) ∧ ((¬ True) = False) ∧ ∀ {α : Type} (a b : List α),List.append a b = a ++ b :=
 ⟨eq_self,fun _ => decide_true _,fun _ => decide_false _,if_true,if_false,not_true_eq_false,fun _ _ => rfl⟩
theorem LL : (∀ {α β : Type} (f : α → β) (l : List α),(l.map f).length = l.length) ∧ (∀ {α : Type} (a : α) (l : List α),(a :: l).length = l.length + 1) ∧ (∀ {α : Type},([] : List α).length = 0) ∧ (∀ {α : Type} (a b : List α),(a ++ b).length = a.length + b.length) ∧ ∀ n : Nat,0 + n = n :=
 ⟨fun _ _ => List.length_map _,fun _ _ => List.length_cons,List.length_nil,fun _ _ => List.length_append,Nat.zero_add⟩
theorem nlC {k : Int} (h : k ≤ 0) (n : Nat) : k ≤ (n : Int) := Int.le_trans h (Int.natCast_nonneg n)
theorem nbC {a b : Nat} (h : Nat.ble a b = true) : a ≤ b := Nat.le_of_ble_eq_true h
end Go.Proofs.Ytikodjpbknneoaa.Abs
