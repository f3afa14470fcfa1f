/- Lemmas for the statements of this seat (W4): they hold without conditions beyond those that each one states. -/
import Derived.Test.YtikodjpbknneoaaGreatW2
import Derived.Test.YtikodjpbknneoaaGreatChecked
import Derived.KernelRfl
import Derived.Test.YtikodjpbknneoaaGreatW3
/- The types of this seat,as the abstract machine has them: made by program (gen_types.py). -/
namespace Go.Proofs.YtikodjpbknneoaaGreat.Abs
set_option maxHeartbeats 4000000
set_option maxRecDepth 100000
open Go Go.RowKit
def ty : TypeId → Option TyI
 | 2 => some ⟨.int .i64,1,8,[.int .i64 0]⟩
 | 3 => some ⟨.int .i64,1,8,[.int .i64 0]⟩
 | 4 => some ⟨.bool,1,1,[.bool false]⟩
 | 5 => some ⟨.int .u8,1,1,[.int .u8 0]⟩
 | 9 => some ⟨.string,1,16,[.str ByteArray.empty]⟩
 | 12 => some ⟨.int .u64,1,8,[.int .u64 0]⟩
 | 15 => some ⟨.one,1,8,[.nilptr]⟩
 | 16 => some ⟨.one,1,8,[.nilptr]⟩
 | 17 => some ⟨.one,1,8,[.nilptr]⟩
 | 21 => some ⟨.int .i32,1,4,[.int .i32 0]⟩
 | 22 => some ⟨.slice 117,1,24,[.slice 5 []]⟩
 | 23 => some ⟨.slice 111,1,24,[.slice 3 []]⟩
 | 24 => some ⟨.slice 49,1,24,[.slice 4 []]⟩
 | 26 => some ⟨.struct [(0,3),(1,3),(2,22),(3,23),(4,24)],5,88,[.int .i64 0,.int .i64 0,.slice 5 [],.slice 3 [],.slice 4 []]⟩
 | 27 => some ⟨.slice 3,1,24,[.slice 1 []]⟩
 | 28 => some ⟨.slice 39,1,24,[.slice 3 []]⟩
 | 30 => some ⟨.struct [(0,26),(5,27),(6,3),(7,28)],8,144,[.int .i64 0,.int .i64 0,.slice 5 [],.slice 3 [],.slice 4 [],.slice 1 [],.int .i64 0,.slice 3 []]⟩
 | 31 => some ⟨.array 2 5,2,2,[.int .u8 0,.int .u8 0]⟩
 | 32 => some ⟨.int .i64,1,8,[.int .i64 0]⟩
 | 39 => some ⟨.struct [(0,3),(1,3),(2,3)],3,24,[.int .i64 0,.int .i64 0,.int .i64 0]⟩
 | 43 => some ⟨.struct [(0,3),(1,3)],2,16,[.int .i64 0,.int .i64 0]⟩
 | 49 => some ⟨.struct [(0,3),(1,3),(2,3),(3,3)],4,32,[.int .i64 0,.int .i64 0,.int .i64 0,.int .i64 0]⟩
 | 53 => some ⟨.slice 126,1,24,[.slice 2 []]⟩
 | 55 => some ⟨.one,1,8,[.nilptr]⟩
 | 58 => some ⟨.slice 63,1,24,[.slice 1 []]⟩
 | 59 => some ⟨.map 3 147,1,8,[.nilmap]⟩
 | 61 => some ⟨.struct [(0,30),(8,58),(9,59),(10,3)],11,184,[.int .i64 0,.int .i64 0,.mslice 0 0 0 0,.mslice 0 0 0 0,.mslice 0 0 0 0,.mslice 0 0 0 0,.int .i64 0,.mslice 0 0 0 0,.mslice 0 0 0 0,.nilmap,.int .i64 0]⟩
 | 63 => some ⟨.slice 89,1,24,[.slice 1 []]⟩
 | 81 => some ⟨.array 3 3,3,24,[.int .i64 0,.int .i64 0,.int .i64 0]⟩
 | 82 => some ⟨.one,1,8,[.nilfunc]⟩
 | 84 => some ⟨.struct [(0,82)],1,8,[.nilfunc]⟩
 | 86 => some ⟨.one,1,8,[.nilfunc]⟩
 | 89 => some ⟨.slice 91,1,24,[.slice 2 []]⟩
 | 91 => some ⟨.struct [(0,3),(1,3)],2,16,[.int .i64 0,.int .i64 0]⟩
 | 92 => some ⟨.one,1,8,[.nilptr]⟩
 | 97 => some ⟨.struct [(0,3),(1,3)],2,16,[.int .i64 0,.int .i64 0]⟩
 | 99 => some ⟨.one,1,8,[.nilfunc]⟩
 | 102 => some ⟨.struct [(0,3),(1,3)],2,16,[.int .i64 0,.int .i64 0]⟩
 | 104 => some ⟨.array 3 102,6,48,[.int .i64 0,.int .i64 0,.int .i64 0,.int .i64 0,.int .i64 0,.int .i64 0]⟩
 | 106 => some ⟨.array 4 3,4,32,[.int .i64 0,.int .i64 0,.int .i64 0,.int .i64 0]⟩
 | 111 => some ⟨.struct [(0,3),(1,3),(2,3)],3,24,[.int .i64 0,.int .i64 0,.int .i64 0]⟩
 | 113 => some ⟨.slice 9,1,24,[.slice 1 []]⟩
 | 115 => some ⟨.slice 133,1,24,[.slice 2 []]⟩
 | 117 => some ⟨.struct [(0,9),(1,3),(2,115),(3,43)],5,64,[.str ByteArray.empty,.int .i64 0,.slice 2 [],.int .i64 0,.int .i64 0]⟩
 | 121 => some ⟨.slice 123,1,24,[.slice 1 []]⟩
 | 123 => some ⟨.slice 167,1,24,[.slice 2 []]⟩
 | 124 => some ⟨.slice 27,1,24,[.slice 1 []]⟩
 | 126 => some ⟨.struct [(0,123),(1,124)],2,48,[.slice 2 [],.slice 1 []]⟩
 | 131 => some ⟨.one,1,8,[.nilfunc]⟩
 | 133 => some ⟨.struct [(0,3),(1,3)],2,16,[.int .i64 0,.int .i64 0]⟩
 | 146 => some ⟨.one,1,8,[.nilfunc]⟩
 | 147 => some ⟨.slice 81,1,24,[.mslice 0 0 0 0]⟩
 | 150 => some ⟨.one,1,8,[.nilfunc]⟩
 | 152 => some ⟨.struct [(0,131)],1,8,[.nilfunc]⟩
 | 153 => some ⟨.array 4 152,4,32,[.nilfunc,.nilfunc,.nilfunc,.nilfunc]⟩
 | 154 => some ⟨.map 104 106,1,8,[.nilmap]⟩
 | 156 => some ⟨.struct [(0,26),(5,153),(9,3),(10,154)],11,136,[.int .i64 0,.int .i64 0,.slice 5 [],.slice 3 [],.slice 4 [],.nilfunc,.nilfunc,.nilfunc,.nilfunc,.int .i64 0,.nilmap]⟩
 | 159 => some ⟨.one,1,8,[.nilptr]⟩
 | 167 => some ⟨.struct [(0,3),(1,3)],2,16,[.int .i64 0,.int .i64 0]⟩
 | 172 => some ⟨.one,1,8,[.nilfunc]⟩
 | 174 => some ⟨.one,1,8,[.nilfunc]⟩
 | 176 => some ⟨.slice 195,1,24,[.slice 2 []]⟩
 | 181 => some ⟨.one,1,8,[.nilfunc]⟩
 | 182 => some ⟨.one,1,8,[.nilfunc]⟩
 | 184 => some ⟨.one,1,8,[.nilfunc]⟩
 | 186 => some ⟨.one,1,8,[.nilfunc]⟩
 | 189 => some ⟨.one,1,8,[.nilfunc]⟩
 | 191 => some ⟨.one,1,8,[.nilfunc]⟩
 | 193 => some ⟨.one,1,8,[.nilfunc]⟩
 | 195 => some ⟨.struct [(0,3),(1,3)],2,16,[.int .i64 0,.int .i64 0]⟩
 | 201 => some ⟨.one,1,8,[.nilfunc]⟩
 | _ => none
theorem ty_2 : ty 2 = some ⟨.int .i64,1,8,[.int .i64 0]⟩ := rfl
theorem ty_3 : ty 3 = some ⟨.int .i64,1,8,[.int .i64 0]⟩ := rfl
theorem ty_4 : ty 4 = some ⟨.bool,1,1,[.bool false]⟩ := rfl
theorem ty_5 : ty 5 = some ⟨.int .u8,1,1,[.int .u8 0]⟩ := rfl
theorem ty_9 : ty 9 = some ⟨.string,1,16,[.str ByteArray.empty]⟩ := rfl
theorem ty_12 : ty 12 = some ⟨.int .u64,1,8,[.int .u64 0]⟩ := rfl
theorem ty_15 : ty 15 = some ⟨.one,1,8,[.nilptr]⟩ := rfl
theorem ty_16 : ty 16 = some ⟨.one,1,8,[.nilptr]⟩ := rfl
theorem ty_17 : ty 17 = some ⟨.one,1,8,[.nilptr]⟩ := rfl
theorem ty_21 : ty 21 = some ⟨.int .i32,1,4,[.int .i32 0]⟩ := rfl
theorem ty_22 : ty 22 = some ⟨.slice 117,1,24,[.slice 5 []]⟩ := rfl
theorem ty_23 : ty 23 = some ⟨.slice 111,1,24,[.slice 3 []]⟩ := rfl
theorem ty_24 : ty 24 = some ⟨.slice 49,1,24,[.slice 4 []]⟩ := rfl
theorem ty_26 : ty 26 = some ⟨.struct [(0,3),(1,3),(2,22),(3,23),(4,24)],5,88,[.int .i64 0,.int .i64 0,.slice 5 [],.slice 3 [],.slice 4 []]⟩ := rfl
theorem ty_27 : ty 27 = some ⟨.slice 3,1,24,[.slice 1 []]⟩ := rfl
theorem ty_28 : ty 28 = some ⟨.slice 39,1,24,[.slice 3 []]⟩ := rfl
theorem ty_30 : ty 30 = some ⟨.struct [(0,26),(5,27),(6,3),(7,28)],8,144,[.int .i64 0,.int .i64 0,.slice 5 [],.slice 3 [],.slice 4 [],.slice 1 [],.int .i64 0,.slice 3 []]⟩ := rfl
theorem ty_31 : ty 31 = some ⟨.array 2 5,2,2,[.int .u8 0,.int .u8 0]⟩ := rfl
theorem ty_32 : ty 32 = some ⟨.int .i64,1,8,[.int .i64 0]⟩ := rfl
theorem ty_39 : ty 39 = some ⟨.struct [(0,3),(1,3),(2,3)],3,24,[.int .i64 0,.int .i64 0,.int .i64 0]⟩ := rfl
theorem ty_43 : ty 43 = some ⟨.struct [(0,3),(1,3)],2,16,[.int .i64 0,.int .i64 0]⟩ := rfl
theorem ty_49 : ty 49 = some ⟨.struct [(0,3),(1,3),(2,3),(3,3)],4,32,[.int .i64 0,.int .i64 0,.int .i64 0,.int .i64 0]⟩ := rfl
theorem ty_53 : ty 53 = some ⟨.slice 126,1,24,[.slice 2 []]⟩ := rfl
theorem ty_55 : ty 55 = some ⟨.one,1,8,[.nilptr]⟩ := rfl
theorem ty_58 : ty 58 = some ⟨.slice 63,1,24,[.slice 1 []]⟩ := rfl
theorem ty_59 : ty 59 = some ⟨.map 3 147,1,8,[.nilmap]⟩ := rfl
theorem ty_61 : ty 61 = some ⟨.struct [(0,30),(8,58),(9,59),(10,3)],11,184,[.int .i64 0,.int .i64 0,.mslice 0 0 0 0,.mslice 0 0 0 0,.mslice 0 0 0 0,.mslice 0 0 0 0,.int .i64 0,.mslice 0 0 0 0,.mslice 0 0 0 0,.nilmap,.int .i64 0]⟩ := rfl
theorem ty_63 : ty 63 = some ⟨.slice 89,1,24,[.slice 1 []]⟩ := rfl
theorem ty_81 : ty 81 = some ⟨.array 3 3,3,24,[.int .i64 0,.int .i64 0,.int .i64 0]⟩ := rfl
theorem ty_82 : ty 82 = some ⟨.one,1,8,[.nilfunc]⟩ := rfl
theorem ty_84 : ty 84 = some ⟨.struct [(0,82)],1,8,[.nilfunc]⟩ := rfl
theorem ty_86 : ty 86 = some ⟨.one,1,8,[.nilfunc]⟩ := rfl
theorem ty_89 : ty 89 = some ⟨.slice 91,1,24,[.slice 2 []]⟩ := rfl
theorem ty_91 : ty 91 = some ⟨.struct [(0,3),(1,3)],2,16,[.int .i64 0,.int .i64 0]⟩ := rfl
theorem ty_92 : ty 92 = some ⟨.one,1,8,[.nilptr]⟩ := rfl
theorem ty_97 : ty 97 = some ⟨.struct [(0,3),(1,3)],2,16,[.int .i64 0,.int .i64 0]⟩ := rfl
theorem ty_99 : ty 99 = some ⟨.one,1,8,[.nilfunc]⟩ := rfl
theorem ty_102 : ty 102 = some ⟨.struct [(0,3),(1,3)],2,16,[.int .i64 0,.int .i64 0]⟩ := rfl
theorem ty_104 : ty 104 = some ⟨.array 3 102,6,48,[.int .i64 0,.int .i64 0,.int .i64 0,.int .i64 0,.int .i64 0,.int .i64 0]⟩ := rfl
theorem ty_106 : ty 106 = some ⟨.array 4 3,4,32,[.int .i64 0,.int .i64 0,.int .i64 0,.int .i64 0]⟩ := rfl
theorem ty_111 : ty 111 = some ⟨.struct [(0,3),(1,3),(2,3)],3,24,[.int .i64 0,.int .i64 0,.int .i64 0]⟩ := rfl
theorem ty_113 : ty 113 = some ⟨.slice 9,1,24,[.slice 1 []]⟩ := rfl
theorem ty_115 : ty 115 = some ⟨.slice 133,1,24,[.slice 2 []]⟩ := rfl
theorem ty_117 : ty 117 = some ⟨.struct [(0,9),(1,3),(2,115),(3,43)],5,64,[.str ByteArray.empty,.int .i64 0,.slice 2 [],.int .i64 0,.int .i64 0]⟩ := rfl
theorem ty_121 : ty 121 = some ⟨.slice 123,1,24,[.slice 1 []]⟩ := rfl
theorem ty_123 : ty 123 = some ⟨.slice 167,1,24,[.slice 2 []]⟩ := rfl
theorem ty_124 : ty 124 = some ⟨.slice 27,1,24,[.slice 1 []]⟩ := rfl
theorem ty_126 : ty 126 = some ⟨.struct [(0,123),(1,124)],2,48,[.slice 2 [],.slice 1 []]⟩ := rfl
theorem ty_131 : ty 131 = some ⟨.one,1,8,[.nilfunc]⟩ := rfl
theorem ty_133 : ty 133 = some ⟨.struct [(0,3),(1,3)],2,16,[.int .i64 0,.int .i64 0]⟩ := rfl
theorem ty_146 : ty 146 = some ⟨.one,1,8,[.nilfunc]⟩ := rfl
theorem ty_147 : ty 147 = some ⟨.slice 81,1,24,[.mslice 0 0 0 0]⟩ := rfl
theorem ty_150 : ty 150 = some ⟨.one,1,8,[.nilfunc]⟩ := rfl
theorem ty_152 : ty 152 = some ⟨.struct [(0,131)],1,8,[.nilfunc]⟩ := rfl
theorem ty_153 : ty 153 = some ⟨.array 4 152,4,32,[.nilfunc,.nilfunc,.nilfunc,.nilfunc]⟩ := rfl
theorem ty_154 : ty 154 = some ⟨.map 104 106,1,8,[.nilmap]⟩ := rfl
theorem ty_156 : ty 156 = some ⟨.struct [(0,26),(5,153),(9,3),(10,154)],11,136,[.int .i64 0,.int .i64 0,.slice 5 [],.slice 3 [],.slice 4 [],.nilfunc,.nilfunc,.nilfunc,.nilfunc,.int .i64 0,.nilmap]⟩ := rfl
theorem ty_159 : ty 159 = some ⟨.one,1,8,[.nilptr]⟩ := rfl
theorem ty_167 : ty 167 = some ⟨.struct [(0,3),(1,3)],2,16,[.int .i64 0,.int .i64 0]⟩ := rfl
theorem ty_172 : ty 172 = some ⟨.one,1,8,[.nilfunc]⟩ := rfl
theorem ty_174 : ty 174 = some ⟨.one,1,8,[.nilfunc]⟩ := rfl
theorem ty_176 : ty 176 = some ⟨.slice 195,1,24,[.slice 2 []]⟩ := rfl
theorem ty_181 : ty 181 = some ⟨.one,1,8,[.nilfunc]⟩ := rfl
theorem ty_182 : ty 182 = some ⟨.one,1,8,[.nilfunc]⟩ := rfl
theorem ty_184 : ty 184 = some ⟨.one,1,8,[.nilfunc]⟩ := rfl
theorem ty_186 : ty 186 = some ⟨.one,1,8,[.nilfunc]⟩ := rfl
theorem ty_189 : ty 189 = some ⟨.one,1,8,[.nilfunc]⟩ := rfl
theorem ty_191 : ty 191 = some ⟨.one,1,8,[.nilfunc]⟩ := rfl
theorem ty_193 : ty 193 = some ⟨.one,1,8,[.nilfunc]⟩ := rfl
theorem ty_195 : ty 195 = some ⟨.struct [(0,3),(1,3)],2,16,[.int .i64 0,.int .i64 0]⟩ := rfl
theorem ty_201 : ty 201 = some ⟨.one,1,8,[.nilfunc]⟩ := rfl
theorem tyok_2 : TyOk Tryz.prog 2 ⟨.int .i64,1,8,[.int .i64 0]⟩ := tyOk_int (by kernel_rfl : Tryz.prog.info? 2 = some Tryz.t2) rfl rfl Tryz.underlying2 rfl
theorem tyok_3 : TyOk Tryz.prog 3 ⟨.int .i64,1,8,[.int .i64 0]⟩ := tyOk_int (by kernel_rfl : Tryz.prog.info? 3 = some Tryz.t3) rfl rfl Tryz.underlying3 rfl
theorem tyok_4 : TyOk Tryz.prog 4 ⟨.bool,1,1,[.bool false]⟩ := tyOk_bool (by kernel_rfl : Tryz.prog.info? 4 = some Tryz.t4) rfl rfl Tryz.underlying4 rfl
theorem tyok_5 : TyOk Tryz.prog 5 ⟨.int .u8,1,1,[.int .u8 0]⟩ := tyOk_int (by kernel_rfl : Tryz.prog.info? 5 = some Tryz.t5) rfl rfl Tryz.underlying5 rfl
theorem tyok_9 : TyOk Tryz.prog 9 ⟨.string,1,16,[.str ByteArray.empty]⟩ := tyOk_string (by kernel_rfl : Tryz.prog.info? 9 = some Tryz.t9) rfl rfl Tryz.underlying9 rfl
theorem tyok_12 : TyOk Tryz.prog 12 ⟨.int .u64,1,8,[.int .u64 0]⟩ := tyOk_int (by kernel_rfl : Tryz.prog.info? 12 = some Tryz.t12) rfl rfl Tryz.underlying12 rfl
theorem tyok_15 : TyOk Tryz.prog 15 ⟨.one,1,8,[.nilptr]⟩ := tyOk_ptr (by kernel_rfl : Tryz.prog.info? 15 = some Tryz.t15) rfl rfl Tryz.underlying15 rfl
theorem tyok_16 : TyOk Tryz.prog 16 ⟨.one,1,8,[.nilptr]⟩ := tyOk_ptr (by kernel_rfl : Tryz.prog.info? 16 = some Tryz.t16) rfl rfl Tryz.underlying16 rfl
theorem tyok_17 : TyOk Tryz.prog 17 ⟨.one,1,8,[.nilptr]⟩ := tyOk_ptr (by kernel_rfl : Tryz.prog.info? 17 = some Tryz.t17) rfl rfl Tryz.underlying17 rfl
theorem tyok_21 : TyOk Tryz.prog 21 ⟨.int .i32,1,4,[.int .i32 0]⟩ := tyOk_int (by kernel_rfl : Tryz.prog.info? 21 = some Tryz.t21) rfl rfl Tryz.underlying21 rfl
theorem tyok_22 : TyOk Tryz.prog 22 ⟨.slice 117,1,24,[.slice 5 []]⟩ := tyOk_slice (by kernel_rfl : Tryz.prog.info? 22 = some Tryz.t22) rfl rfl Tryz.underlying22 rfl
theorem tyok_23 : TyOk Tryz.prog 23 ⟨.slice 111,1,24,[.slice 3 []]⟩ := tyOk_slice (by kernel_rfl : Tryz.prog.info? 23 = some Tryz.t23) rfl rfl Tryz.underlying23 rfl
theorem tyok_24 : TyOk Tryz.prog 24 ⟨.slice 49,1,24,[.slice 4 []]⟩ := tyOk_slice (by kernel_rfl : Tryz.prog.info? 24 = some Tryz.t24) rfl rfl Tryz.underlying24 rfl
theorem tyok_26 : TyOk Tryz.prog 26 ⟨.struct [(0,3),(1,3),(2,22),(3,23),(4,24)],5,88,[.int .i64 0,.int .i64 0,.slice 5 [],.slice 3 [],.slice 4 []]⟩ := tyOk_struct (by kernel_rfl : Tryz.prog.info? 26 = some Tryz.t26) rfl Tryz.underlying26 rfl rfl rfl (fun _ _ => .cons (.int _ _) (.cons (.int _ _) (.cons (.nilslice _) (.cons (.nilslice _) (.cons (.nilslice _) (.nil)))))) rfl rfl (by kernel_rfl)
theorem tyok_27 : TyOk Tryz.prog 27 ⟨.slice 3,1,24,[.slice 1 []]⟩ := tyOk_slice (by kernel_rfl : Tryz.prog.info? 27 = some Tryz.t27) rfl rfl Tryz.underlying27 rfl
theorem tyok_28 : TyOk Tryz.prog 28 ⟨.slice 39,1,24,[.slice 3 []]⟩ := tyOk_slice (by kernel_rfl : Tryz.prog.info? 28 = some Tryz.t28) rfl rfl Tryz.underlying28 rfl
theorem tyok_30 : TyOk Tryz.prog 30 ⟨.struct [(0,26),(5,27),(6,3),(7,28)],8,144,[.int .i64 0,.int .i64 0,.slice 5 [],.slice 3 [],.slice 4 [],.slice 1 [],.int .i64 0,.slice 3 []]⟩ := tyOk_struct (by kernel_rfl : Tryz.prog.info? 30 = some Tryz.t30) rfl Tryz.underlying30 rfl rfl rfl (fun _ _ => .cons (.int _ _) (.cons (.int _ _) (.cons (.nilslice _) (.cons (.nilslice _) (.cons (.nilslice _) (.cons (.nilslice _) (.cons (.int _ _) (.cons (.nilslice _) (.nil))))))))) rfl rfl (by kernel_rfl)
theorem tyok_31 : TyOk Tryz.prog 31 ⟨.array 2 5,2,2,[.int .u8 0,.int .u8 0]⟩ := tyOk_array (by kernel_rfl : Tryz.prog.info? 31 = some Tryz.t31) rfl Tryz.underlying31 rfl rfl (fun _ _ => .cons (.int _ _) (.cons (.int _ _) (.nil))) rfl rfl
theorem tyok_32 : TyOk Tryz.prog 32 ⟨.int .i64,1,8,[.int .i64 0]⟩ := tyOk_int (by kernel_rfl : Tryz.prog.info? 32 = some Tryz.t32) rfl rfl Tryz.underlying32 rfl
theorem tyok_39 : TyOk Tryz.prog 39 ⟨.struct [(0,3),(1,3),(2,3)],3,24,[.int .i64 0,.int .i64 0,.int .i64 0]⟩ := tyOk_struct (by kernel_rfl : Tryz.prog.info? 39 = some Tryz.t39) rfl Tryz.underlying39 rfl rfl rfl (fun _ _ => .cons (.int _ _) (.cons (.int _ _) (.cons (.int _ _) (.nil)))) rfl rfl (by kernel_rfl)
theorem tyok_43 : TyOk Tryz.prog 43 ⟨.struct [(0,3),(1,3)],2,16,[.int .i64 0,.int .i64 0]⟩ := tyOk_struct (by kernel_rfl : Tryz.prog.info? 43 = some Tryz.t43) rfl Tryz.underlying43 rfl rfl rfl (fun _ _ => .cons (.int _ _) (.cons (.int _ _) (.nil))) rfl rfl (by kernel_rfl)
theorem tyok_49 : TyOk Tryz.prog 49 ⟨.struct [(0,3),(1,3),(2,3),(3,3)],4,32,[.int .i64 0,.int .i64 0,.int .i64 0,.int .i64 0]⟩ := tyOk_struct (by kernel_rfl : Tryz.prog.info? 49 = some Tryz.t49) rfl Tryz.underlying49 rfl rfl rfl (fun _ _ => .cons (.int _ _) (.cons (.int _ _) (.cons (.int _ _) (.cons (.int _ _) (.nil))))) rfl rfl (by kernel_rfl)
theorem tyok_53 : TyOk Tryz.prog 53 ⟨.slice 126,1,24,[.slice 2 []]⟩ := tyOk_slice (by kernel_rfl : Tryz.prog.info? 53 = some Tryz.t53) rfl rfl Tryz.underlying53 rfl
theorem tyok_55 : TyOk Tryz.prog 55 ⟨.one,1,8,[.nilptr]⟩ := tyOk_ptr (by kernel_rfl : Tryz.prog.info? 55 = some Tryz.t55) rfl rfl Tryz.underlying55 rfl
theorem tyok_58 : TyOk Tryz.prog 58 ⟨.slice 63,1,24,[.slice 1 []]⟩ := tyOk_slice (by kernel_rfl : Tryz.prog.info? 58 = some Tryz.t58) rfl rfl Tryz.underlying58 rfl
theorem tyok_59 : TyOk Tryz.prog 59 ⟨.map 3 147,1,8,[.nilmap]⟩ := tyOk_map (by kernel_rfl : Tryz.prog.info? 59 = some Tryz.t59) rfl rfl Tryz.underlying59 rfl
theorem tyok_61 : TyOk Tryz.prog 61 ⟨.struct [(0,30),(8,58),(9,59),(10,3)],11,184,[.int .i64 0,.int .i64 0,.mslice 0 0 0 0,.mslice 0 0 0 0,.mslice 0 0 0 0,.mslice 0 0 0 0,.int .i64 0,.mslice 0 0 0 0,.mslice 0 0 0 0,.nilmap,.int .i64 0]⟩ := tyOk_struct (by kernel_rfl : Tryz.prog.info? 61 = some Tryz.t61) rfl Tryz.underlying61 rfl rfl rfl (fun _ _ => .cons (.int _ _) (.cons (.int _ _) (.cons (.nilm _ _) (.cons (.nilm _ _) (.cons (.nilm _ _) (.cons (.nilm _ _) (.cons (.int _ _) (.cons (.nilm _ _) (.cons (.nilm _ _) (.cons (.nilmap) (.cons (.int _ _) (.nil)))))))))))) rfl rfl (by kernel_rfl)
theorem tyok_63 : TyOk Tryz.prog 63 ⟨.slice 89,1,24,[.slice 1 []]⟩ := tyOk_slice (by kernel_rfl : Tryz.prog.info? 63 = some Tryz.t63) rfl rfl Tryz.underlying63 rfl
theorem tyok_81 : TyOk Tryz.prog 81 ⟨.array 3 3,3,24,[.int .i64 0,.int .i64 0,.int .i64 0]⟩ := tyOk_array (by kernel_rfl : Tryz.prog.info? 81 = some Tryz.t81) rfl Tryz.underlying81 rfl rfl (fun _ _ => .cons (.int _ _) (.cons (.int _ _) (.cons (.int _ _) (.nil)))) rfl rfl
theorem tyok_82 : TyOk Tryz.prog 82 ⟨.one,1,8,[.nilfunc]⟩ := tyOk_func (by kernel_rfl : Tryz.prog.info? 82 = some Tryz.t82) rfl rfl Tryz.underlying82 rfl
theorem tyok_84 : TyOk Tryz.prog 84 ⟨.struct [(0,82)],1,8,[.nilfunc]⟩ := tyOk_struct (by kernel_rfl : Tryz.prog.info? 84 = some Tryz.t84) rfl Tryz.underlying84 rfl rfl rfl (fun _ _ => .cons (.nilfunc) (.nil)) rfl rfl (by kernel_rfl)
theorem tyok_86 : TyOk Tryz.prog 86 ⟨.one,1,8,[.nilfunc]⟩ := tyOk_func (by kernel_rfl : Tryz.prog.info? 86 = some Tryz.t86) rfl rfl Tryz.underlying86 rfl
theorem tyok_89 : TyOk Tryz.prog 89 ⟨.slice 91,1,24,[.slice 2 []]⟩ := tyOk_slice (by kernel_rfl : Tryz.prog.info? 89 = some Tryz.t89) rfl rfl Tryz.underlying89 rfl
theorem tyok_91 : TyOk Tryz.prog 91 ⟨.struct [(0,3),(1,3)],2,16,[.int .i64 0,.int .i64 0]⟩ := tyOk_struct (by kernel_rfl : Tryz.prog.info? 91 = some Tryz.t91) rfl Tryz.underlying91 rfl rfl rfl (fun _ _ => .cons (.int _ _) (.cons (.int _ _) (.nil))) rfl rfl (by kernel_rfl)
theorem tyok_92 : TyOk Tryz.prog 92 ⟨.one,1,8,[.nilptr]⟩ := tyOk_ptr (by kernel_rfl : Tryz.prog.info? 92 = some Tryz.t92) rfl rfl Tryz.underlying92 rfl
theorem tyok_97 : TyOk Tryz.prog 97 ⟨.struct [(0,3),(1,3)],2,16,[.int .i64 0,.int .i64 0]⟩ := tyOk_struct (by kernel_rfl : Tryz.prog.info? 97 = some Tryz.t97) rfl Tryz.underlying97 rfl rfl rfl (fun _ _ => .cons (.int _ _) (.cons (.int _ _) (.nil))) rfl rfl (by kernel_rfl)
theorem tyok_99 : TyOk Tryz.prog 99 ⟨.one,1,8,[.nilfunc]⟩ := tyOk_func (by kernel_rfl : Tryz.prog.info? 99 = some Tryz.t99) rfl rfl Tryz.underlying99 rfl
theorem tyok_102 : TyOk Tryz.prog 102 ⟨.struct [(0,3),(1,3)],2,16,[.int .i64 0,.int .i64 0]⟩ := tyOk_struct (by kernel_rfl : Tryz.prog.info? 102 = some Tryz.t102) rfl Tryz.underlying102 rfl rfl rfl (fun _ _ => .cons (.int _ _) (.cons (.int _ _) (.nil))) rfl rfl (by kernel_rfl)
theorem tyok_104 : TyOk Tryz.prog 104 ⟨.array 3 102,6,48,[.int .i64 0,.int .i64 0,.int .i64 0,.int .i64 0,.int .i64 0,.int .i64 0]⟩ := tyOk_array (by kernel_rfl : Tryz.prog.info? 104 = some Tryz.t104) rfl Tryz.underlying104 rfl rfl (fun _ _ => .cons (.int _ _) (.cons (.int _ _) (.cons (.int _ _) (.cons (.int _ _) (.cons (.int _ _) (.cons (.int _ _) (.nil))))))) rfl rfl
theorem tyok_106 : TyOk Tryz.prog 106 ⟨.array 4 3,4,32,[.int .i64 0,.int .i64 0,.int .i64 0,.int .i64 0]⟩ := tyOk_array (by kernel_rfl : Tryz.prog.info? 106 = some Tryz.t106) rfl Tryz.underlying106 rfl rfl (fun _ _ => .cons (.int _ _) (.cons (.int _ _) (.cons (.int _ _) (.cons (.int _ _) (.nil))))) rfl rfl
theorem tyok_111 : TyOk Tryz.prog 111 ⟨.struct [(0,3),(1,3),(2,3)],3,24,[.int .i64 0,.int .i64 0,.int .i64 0]⟩ := tyOk_struct (by kernel_rfl : Tryz.prog.info? 111 = some Tryz.t111) rfl Tryz.underlying111 rfl rfl rfl (fun _ _ => .cons (.int _ _) (.cons (.int _ _) (.cons (.int _ _) (.nil)))) rfl rfl (by kernel_rfl)
theorem tyok_113 : TyOk Tryz.prog 113 ⟨.slice 9,1,24,[.slice 1 []]⟩ := tyOk_slice (by kernel_rfl : Tryz.prog.info? 113 = some Tryz.t113) rfl rfl Tryz.underlying113 rfl
theorem tyok_115 : TyOk Tryz.prog 115 ⟨.slice 133,1,24,[.slice 2 []]⟩ := tyOk_slice (by kernel_rfl : Tryz.prog.info? 115 = some Tryz.t115) rfl rfl Tryz.underlying115 rfl
theorem tyok_117 : TyOk Tryz.prog 117 ⟨.struct [(0,9),(1,3),(2,115),(3,43)],5,64,[.str ByteArray.empty,.int .i64 0,.slice 2 [],.int .i64 0,.int .i64 0]⟩ := tyOk_struct (by kernel_rfl : Tryz.prog.info? 117 = some Tryz.t117) rfl Tryz.underlying117 rfl rfl rfl (fun _ _ => .cons (.str _) (.cons (.int _ _) (.cons (.nilslice _) (.cons (.int _ _) (.cons (.int _ _) (.nil)))))) rfl rfl (by kernel_rfl)
theorem tyok_121 : TyOk Tryz.prog 121 ⟨.slice 123,1,24,[.slice 1 []]⟩ := tyOk_slice (by kernel_rfl : Tryz.prog.info? 121 = some Tryz.t121) rfl rfl Tryz.underlying121 rfl
theorem tyok_123 : TyOk Tryz.prog 123 ⟨.slice 167,1,24,[.slice 2 []]⟩ := tyOk_slice (by kernel_rfl : Tryz.prog.info? 123 = some Tryz.t123) rfl rfl Tryz.underlying123 rfl
theorem tyok_124 : TyOk Tryz.prog 124 ⟨.slice 27,1,24,[.slice 1 []]⟩ := tyOk_slice (by kernel_rfl : Tryz.prog.info? 124 = some Tryz.t124) rfl rfl Tryz.underlying124 rfl
theorem tyok_126 : TyOk Tryz.prog 126 ⟨.struct [(0,123),(1,124)],2,48,[.slice 2 [],.slice 1 []]⟩ := tyOk_struct (by kernel_rfl : Tryz.prog.info? 126 = some Tryz.t126) rfl Tryz.underlying126 rfl rfl rfl (fun _ _ => .cons (.nilslice _) (.cons (.nilslice _) (.nil))) rfl rfl (by kernel_rfl)
theorem tyok_131 : TyOk Tryz.prog 131 ⟨.one,1,8,[.nilfunc]⟩ := tyOk_func (by kernel_rfl : Tryz.prog.info? 131 = some Tryz.t131) rfl rfl Tryz.underlying131 rfl
theorem tyok_133 : TyOk Tryz.prog 133 ⟨.struct [(0,3),(1,3)],2,16,[.int .i64 0,.int .i64 0]⟩ := tyOk_struct (by kernel_rfl : Tryz.prog.info? 133 = some Tryz.t133) rfl Tryz.underlying133 rfl rfl rfl (fun _ _ => .cons (.int _ _) (.cons (.int _ _) (.nil))) rfl rfl (by kernel_rfl)
theorem tyok_146 : TyOk Tryz.prog 146 ⟨.one,1,8,[.nilfunc]⟩ := tyOk_func (by kernel_rfl : Tryz.prog.info? 146 = some Tryz.t146) rfl rfl Tryz.underlying146 rfl
theorem tyok_147 : TyOk Tryz.prog 147 ⟨.slice 81,1,24,[.mslice 0 0 0 0]⟩ := tyOk_sliceN (by kernel_rfl : Tryz.prog.info? 147 = some Tryz.t147) rfl rfl Tryz.underlying147 rfl
theorem tyok_150 : TyOk Tryz.prog 150 ⟨.one,1,8,[.nilfunc]⟩ := tyOk_func (by kernel_rfl : Tryz.prog.info? 150 = some Tryz.t150) rfl rfl Tryz.underlying150 rfl
theorem tyok_152 : TyOk Tryz.prog 152 ⟨.struct [(0,131)],1,8,[.nilfunc]⟩ := tyOk_struct (by kernel_rfl : Tryz.prog.info? 152 = some Tryz.t152) rfl Tryz.underlying152 rfl rfl rfl (fun _ _ => .cons (.nilfunc) (.nil)) rfl rfl (by kernel_rfl)
theorem tyok_153 : TyOk Tryz.prog 153 ⟨.array 4 152,4,32,[.nilfunc,.nilfunc,.nilfunc,.nilfunc]⟩ := tyOk_array (by kernel_rfl : Tryz.prog.info? 153 = some Tryz.t153) rfl Tryz.underlying153 rfl rfl (fun _ _ => .cons (.nilfunc) (.cons (.nilfunc) (.cons (.nilfunc) (.cons (.nilfunc) (.nil))))) rfl rfl
theorem tyok_154 : TyOk Tryz.prog 154 ⟨.map 104 106,1,8,[.nilmap]⟩ := tyOk_map (by kernel_rfl : Tryz.prog.info? 154 = some Tryz.t154) rfl rfl Tryz.underlying154 rfl
theorem tyok_156 : TyOk Tryz.prog 156 ⟨.struct [(0,26),(5,153),(9,3),(10,154)],11,136,[.int .i64 0,.int .i64 0,.slice 5 [],.slice 3 [],.slice 4 [],.nilfunc,.nilfunc,.nilfunc,.nilfunc,.int .i64 0,.nilmap]⟩ := tyOk_struct (by kernel_rfl : Tryz.prog.info? 156 = some Tryz.t156) rfl Tryz.underlying156 rfl rfl rfl (fun _ _ => .cons (.int _ _) (.cons (.int _ _) (.cons (.nilslice _) (.cons (.nilslice _) (.cons (.nilslice _) (.cons (.nilfunc) (.cons (.nilfunc) (.cons (.nilfunc) (.cons (.nilfunc) (.cons (.int _ _) (.cons (.nilmap) (.nil)))))))))))) rfl rfl (by kernel_rfl)
theorem tyok_159 : TyOk Tryz.prog 159 ⟨.one,1,8,[.nilptr]⟩ := tyOk_ptr (by kernel_rfl : Tryz.prog.info? 159 = some Tryz.t159) rfl rfl Tryz.underlying159 rfl
theorem tyok_167 : TyOk Tryz.prog 167 ⟨.struct [(0,3),(1,3)],2,16,[.int .i64 0,.int .i64 0]⟩ := tyOk_struct (by kernel_rfl : Tryz.prog.info? 167 = some Tryz.t167) rfl Tryz.underlying167 rfl rfl rfl (fun _ _ => .cons (.int _ _) (.cons (.int _ _) (.nil))) rfl rfl (by kernel_rfl)
theorem tyok_172 : TyOk Tryz.prog 172 ⟨.one,1,8,[.nilfunc]⟩ := tyOk_func (by kernel_rfl : Tryz.prog.info? 172 = some Tryz.t172) rfl rfl Tryz.underlying172 rfl
theorem tyok_174 : TyOk Tryz.prog 174 ⟨.one,1,8,[.nilfunc]⟩ := tyOk_func (by kernel_rfl : Tryz.prog.info? 174 = some Tryz.t174) rfl rfl Tryz.underlying174 rfl
theorem tyok_176 : TyOk Tryz.prog 176 ⟨.slice 195,1,24,[.slice 2 []]⟩ := tyOk_slice (by kernel_rfl : Tryz.prog.info? 176 = some Tryz.t176) rfl rfl Tryz.underlying176 rfl
theorem tyok_181 : TyOk Tryz.prog 181 ⟨.one,1,8,[.nilfunc]⟩ := tyOk_func (by kernel_rfl : Tryz.prog.info? 181 = some Tryz.t181) rfl rfl Tryz.underlying181 rfl
theorem tyok_182 : TyOk Tryz.prog 182 ⟨.one,1,8,[.nilfunc]⟩ := tyOk_func (by kernel_rfl : Tryz.prog.info? 182 = some Tryz.t182) rfl rfl Tryz.underlying182 rfl
theorem tyok_184 : TyOk Tryz.prog 184 ⟨.one,1,8,[.nilfunc]⟩ := tyOk_func (by kernel_rfl : Tryz.prog.info? 184 = some Tryz.t184) rfl rfl Tryz.underlying184 rfl
theorem tyok_186 : TyOk Tryz.prog 186 ⟨.one,1,8,[.nilfunc]⟩ := tyOk_func (by kernel_rfl : Tryz.prog.info? 186 = some Tryz.t186) rfl rfl Tryz.underlying186 rfl
theorem tyok_189 : TyOk Tryz.prog 189 ⟨.one,1,8,[.nilfunc]⟩ := tyOk_func (by kernel_rfl : Tryz.prog.info? 189 = some Tryz.t189) rfl rfl Tryz.underlying189 rfl
theorem tyok_191 : TyOk Tryz.prog 191 ⟨.one,1,8,[.nilfunc]⟩ := tyOk_func (by kernel_rfl : Tryz.prog.info? 191 = some Tryz.t191) rfl rfl Tryz.underlying191 rfl
theorem tyok_193 : TyOk Tryz.prog 193 ⟨.one,1,8,[.nilfunc]⟩ := tyOk_func (by kernel_rfl : Tryz.prog.info? 193 = some Tryz.t193) rfl rfl Tryz.underlying193 rfl
theorem tyok_195 : TyOk Tryz.prog 195 ⟨.struct [(0,3),(1,3)],2,16,[.int .i64 0,.int .i64 0]⟩ := tyOk_struct (by kernel_rfl : Tryz.prog.info? 195 = some Tryz.t195) rfl Tryz.underlying195 rfl rfl rfl (fun _ _ => .cons (.int _ _) (.cons (.int _ _) (.nil))) rfl rfl (by kernel_rfl)
theorem tyok_201 : TyOk Tryz.prog 201 ⟨.one,1,8,[.nilfunc]⟩ := tyOk_func (by kernel_rfl : Tryz.prog.info? 201 = some Tryz.t201) rfl rfl Tryz.underlying201 rfl
theorem ty_0 : ty 0 = none := rfl
noncomputable def envC (H : Nat → Mode) (rd : Bool) (cut : List Nat) : Env := ⟨Tryz.prog,ty,H,rd,cut⟩
noncomputable def env (H : Nat → Mode) : Env := ⟨Tryz.prog,ty,H,false,[]⟩
noncomputable def envR (H : Nat → Mode) : Env := ⟨Tryz.prog,ty,H,true,[]⟩
theorem envOk (H : Nat → Mode) : EnvOk (env H) := by
 intro t i h
 show TyOk Tryz.prog t i
 have h : ty t = some i := h
 unfold ty at h
 split at h
 ·cases h; exact tyok_2
 ·cases h; exact tyok_3
 ·cases h; exact tyok_4
 ·cases h; exact tyok_5
 ·cases h; exact tyok_9
 ·cases h; exact tyok_12
 ·cases h; exact tyok_15
 ·cases h; exact tyok_16
 ·cases h; exact tyok_17
 ·cases h; exact tyok_21
 ·cases h; exact tyok_22
 ·cases h; exact tyok_23
 ·cases h; exact tyok_24
 ·cases h; exact tyok_26
 ·cases h; exact tyok_27
 ·cases h; exact tyok_28
 ·cases h; exact tyok_30
 ·cases h; exact tyok_31
 ·cases h; exact tyok_32
 ·cases h; exact tyok_39
 ·cases h; exact tyok_43
 ·cases h; exact tyok_49
 ·cases h; exact tyok_53
 ·cases h; exact tyok_55
 ·cases h; exact tyok_58
 ·cases h; exact tyok_59
 ·cases h; exact tyok_61
 ·cases h; exact tyok_63
 ·cases h; exact tyok_81
 ·cases h; exact tyok_82
 ·cases h; exact tyok_84
 ·cases h; exact tyok_86
 ·cases h; exact tyok_89
 ·cases h; exact tyok_91
 ·cases h; exact tyok_92
 ·cases h; exact tyok_97
 ·cases h; exact tyok_99
 ·cases h; exact tyok_102
 ·cases h; exact tyok_104
 ·cases h; exact tyok_106
 ·cases h; exact tyok_111
 ·cases h; exact tyok_113
 ·cases h; exact tyok_115
 ·cases h; exact tyok_117
 ·cases h; exact tyok_121
 ·cases h; exact tyok_123
 ·cases h; exact tyok_124
 ·cases h; exact tyok_126
 ·cases h; exact tyok_131
 ·cases h; exact tyok_133
 ·cases h; exact tyok_146
 ·cases h; exact tyok_147
 ·cases h; exact tyok_150
 ·cases h; exact tyok_152
 ·cases h; exact tyok_153
 ·cases h; exact tyok_154
 ·cases h; exact tyok_156
 ·cases h; exact tyok_159
 ·cases h; exact tyok_167
 ·cases h; exact tyok_172
 ·cases h; exact tyok_174
 ·cases h; exact tyok_176
 ·cases h; exact tyok_181
 ·cases h; exact tyok_182
 ·cases h; exact tyok_184
 ·cases h; exact tyok_186
 ·cases h; exact tyok_189
 ·cases h; exact tyok_191
 ·cases h; exact tyok_193
 ·cases h; exact tyok_195
 ·cases h; exact tyok_201
 ·cases h
theorem envCOk (H : Nat → Mode) (rd : Bool) (cut : List Nat) : EnvOk (envC H rd cut) := envOk H
end Go.Proofs.YtikodjpbknneoaaGreat.Abs
/- The abstract machine,part 18: small laws by which conditions are worked out. -/
namespace Go.Proofs.YtikodjpbknneoaaGreat.Abs
set_option linter.unusedSimpArgs false
open Go Go.RowKit
@[congr] theorem vcSome.cong {α : Type} {o o' : Option α} {K : α → Prop} (h : o = o') : vcSome o K = vcSome o' K := by rw [h]
@[congr] theorem vcOps.cong {E : Env} {ops : Array Oper} {l l' : List Oper} {K : St → Prop} {st st' : St} (h : l = l') (hs : st = st') : vcOps E ops l K st = vcOps E ops l' K st' := by rw [h,hs]
@[congr] theorem vcOpsD.cong {E : Env} {ops : Array Oper} {fl fl' : List Fl} {l l' : List Oper} {K : St → Prop} {st st' : St} (hf : fl = fl') (h : l = l') (hs : st = st') : vcOpsD E ops fl l K st = vcOpsD E ops fl' l' K st' := by rw [hf,h,hs]
@[congr] theorem Back.cong {α : Type} {I : α → Head} {J : α → Prop} {m : α → Nat} {x : α} {st st' : St} (h : st = st') : Back I J m x st = Back I J m x st' := by rw [h]
theorem env_T (H : Nat → Mode) : (env H).T = ty := rfl
theorem env_P (H : Nat → Mode) : (env H).P = Tryz.prog := rfl
theorem env_H (H : Nat → Mode) : (env H).H = H := rfl
theorem env_cut (H : Nat → Mode) : (env H).cut = [] := rfl
theorem envR_cut (H : Nat → Mode) : (envR H).cut = [] := rfl
theorem envC_T (H : Nat → Mode) (r : Bool) (c : List Nat) : (envC H r c).T = ty := rfl
theorem envC_P (H : Nat → Mode) (r : Bool) (c : List Nat) : (envC H r c).P = Tryz.prog := rfl
theorem envC_H (H : Nat → Mode) (r : Bool) (c : List Nat) : (envC H r c).H = H := rfl
theorem envC_cut (H : Nat → Mode) (r : Bool) (c : List Nat) : (envC H r c).cut = c := rfl
theorem envR_T (H : Nat → Mode) : (envR H).T = ty := rfl
theorem envR_P (H : Nat → Mode) : (envR H).P = Tryz.prog := rfl
theorem envR_H (H : Nat → Mode) : (envR H).H = H := rfl
def modeAt (own sh : List Nat) (i : Nat) : Mode := if cutAt own i = true then .own else if cutAt sh i = true then .shared else .imm
theorem inR_i64 (n : Int) : inR .i64 n ↔ (-9223372036854775808 ≤ n ∧ n ≤ 9223372036854775807) := by
 simp [inR,IntKind.min,IntKind.max,IntKind.signed,IntKind.bits]
theorem inR_u8 (n : Int) : inR .u8 n ↔ (0 ≤ n ∧ n ≤ 255) := by
 simp [inR,IntKind.min,IntKind.max,IntKind.signed,IntKind.bits]
theorem maxLen_eq : maxLen = 9223372036854775807 := rfl
def ints (l : List Int) : AV := .slice 1 (l.map (AV.int .i64))
@[congr] theorem VIdx.cong {l l' : List AV} {i i' : Int} {K : AV → Prop} (h : l = l') (hi : i = i') : VIdx l i K = VIdx l' i' K := by rw [h,hi]
theorem VIdx_map {α : Type} [Inhabited α] (f : α → AV) (l : List α) (i : Int) (K : AV → Prop) : VIdx (l.map f) i K ↔ (0 ≤ i ∧ i.toNat < l.length) ∧ K (f l[i.toNat]!) := by
 unfold VIdx
 constructor
 ·rintro ⟨e,he,h0,hk⟩
  rw [List.getElem?_map] at he
  cases h : l[i.toNat]? with
  | none => rw [h] at he; simp at he
  | some x =>
   rw [h] at he
   simp at he
   subst he
   have hlt := (List.getElem?_eq_some_iff.1 h).1
   refine ⟨⟨h0,hlt⟩,?_⟩
   rw [List.getElem!_eq_getElem?_getD,h]; exact hk
 ·rintro ⟨⟨h0,h1⟩,hk⟩
  refine ⟨_,?_,h0,hk⟩
  rw [List.getElem?_map,List.getElem!_eq_getElem?_getD,List.getElem?_eq_getElem h1]; rfl
theorem ACall.pure {P : Program} {f : FuncId} {xs : List AV} {r : AV} (h : PCall P f xs r) {m : Mem} {K : AV → Mem → Prop} (hk : K r m) : VCall P f xs m K .mk :=
 ACall.mono (h m) fun _ _ ⟨h1,h2⟩ => by rw [h1,h2]; exact hk
theorem ACall.told {P : Program} {f : FuncId} {xs : List AV} {m : Mem} {K K' : AV → Mem → Prop} (h : ACall P f xs m K') (hk : ∀ r m',K' r m' → K r m') : VCall P f xs m K .mk :=
 ACall.mono h hk
theorem getD_idx {l : List Int} {k : Nat} (h : k < l.length) : l[k]! = l[k] := by
 rw [List.getElem!_eq_getElem?_getD,List.getElem?_eq_getElem h]; rfl
theorem mixed : Tryz.prog.follows .mixedOrders = true := by kernel_rfl
def lenOk (xs : List AV) : Prop := ∀ sz l,AV.slice sz l ∈ xs → l.length ≤ maxLen
theorem acall_len {P : Program} {f : FuncId} {xs : List AV} {m : Mem} {K : AV → Mem → Prop} (hcall : ∀ (args : Array Value) (w : World),(callFunc f args).run P w = .ok (.enter f args) w) (h : lenOk xs → ACall P f xs m K) : ACall P f xs m K := by
 refine ⟨hcall,fun G w vs hi hm hr => (h fun sz l hl => ?_).2 G w vs hi hm hr⟩
 obtain ⟨i,hi',hl⟩ := List.mem_iff_getElem.1 hl
 have hv : i < vs.length := by rw [← hr.1]; exact hi'
 have := hr.2 i (.slice sz l) vs[i] (by rw [← hl]; exact List.getElem?_eq_getElem hi') (List.getElem?_eq_getElem hv)
 obtain ⟨cs,_,_,_,_,h5⟩ := slice_row this
 exact h5
theorem lenOk_cons {x : AV} {xs : List AV} : lenOk (x :: xs) ↔ (match x with | .slice _ l => l.length ≤ maxLen | _ => True) ∧ lenOk xs := by
 constructor
 ·intro h
  refine ⟨?_,fun sz l hl => h sz l (by simp [hl])⟩
  split
  ·rename_i sz l; exact h sz l (by simp)
  ·trivial
 ·rintro ⟨h1,h2⟩ sz l hl
  rcases List.mem_cons.1 hl with rfl | hl
  ·exact h1
  ·exact h2 sz l hl
theorem lenOk_nil : lenOk [] ↔ True := by simp [lenOk]
theorem natDivPow (s i : Nat) : ((s : Int) / 2 ^ i) = ((s / 2 ^ i : Nat) : Int) := by simp
theorem natMulPow (s i : Nat) : ((s : Int) * 2 ^ i) = ((s * 2 ^ i : Nat) : Int) := by simp
theorem oneMulPow (i : Nat) : ((1 : Int) * 2 ^ i) = ((2 ^ i : Nat) : Int) := by simp
theorem toNatOne : (1 : Int).toNat = 1 := rfl
theorem and_one_bit (s i : Nat) : (s / 2 ^ i &&& 1) = if s.testBit i then 1 else 0 := by
 rw [Nat.and_one_is_mod,Nat.testBit_eq_decide_div_mod_eq]
 by_cases h : s / 2 ^ i % 2 = 1
 ·simp [h]
 ·have : s / 2 ^ i % 2 = 0 := by omega
  simp [this]
theorem testBit_dec (s i : Nat) : decide (((s / 2 ^ i &&& 1 : Nat) : Int) = 1) = s.testBit i := by
 rw [and_one_bit]; by_cases h : s.testBit i <;> simp [h]
theorem testBit_dec0 (s i : Nat) : decide (((s / 2 ^ i &&& 1 : Nat) : Int) = 0) = !s.testBit i := by
 rw [and_one_bit]; by_cases h : s.testBit i <;> simp [h]
theorem testBit_prop (s i : Nat) : (((s / 2 ^ i &&& 1 : Nat) : Int) = 1) = (s.testBit i = true) := by
 rw [and_one_bit]; by_cases h : s.testBit i <;> simp [h]
theorem testBit_prop0 (s i : Nat) : (((s / 2 ^ i &&& 1 : Nat) : Int) = 0) = (s.testBit i = false) := by
 rw [and_one_bit]; by_cases h : s.testBit i <;> simp [h]
theorem ite_split {p : Prop} [Decidable p] {A B : Prop} : (if p then A else B) = ((p → A) ∧ (¬ p → B)) := by
 by_cases h : p <;> simp [h]
end Go.Proofs.YtikodjpbknneoaaGreat.Abs
/- The abstract machine,part 19: the laws by which conditions are worked out,bundled. -/
namespace Go.Proofs.YtikodjpbknneoaaGreat.Abs
set_option linter.unusedSimpArgs false
open Go Go.RowKit
theorem VP0 : type_of% (
 And.intro (@vc.eq_1) <|
 And.intro (@vc.eq_2) <|
 And.intro (@vc.eq_3) <|
 And.intro (@vc.eq_4) <|
 And.intro (@vc.eq_5) <|
 And.intro (@vc.eq_6) <|
 And.intro (@vc.eq_7) <|
 And.intro (@vc.eq_8) <|
 And.intro (@vc.eq_9) <|
 And.intro (@vc.eq_10) <|
 And.intro (@vc.eq_11) <|
 And.intro (@vc.eq_12) <|
 And.intro (@vc.eq_13) <|
 And.intro (@vcOps.eq_1) <|
 And.intro (@vcOps.eq_2) <|
 And.intro (@vcOp.eq_1) <|
 And.intro (@vcGuard.eq_def) <|
 And.intro (@ev.eq_1) <|
 And.intro (@vcCall.eq_def) <|
 And.intro (@vcBin.eq_def) <|
 And.intro (@vcInts.eq_def) <|
 And.intro (@vcShift.eq_def) <|
 And.intro (@vcFresh.eq_1) <|
 And.intro (@vcLookup.eq_def) <|
 And.intro (@vcMapUpdate.eq_def) <|
 And.intro (@vcNext.eq_def) <|
 And.intro (@vcRange.eq_def) <|
 And.intro (@vcCopy.eq_def) <|
 And.intro (@vcOpsD.eq_1) <|
 And.intro (@vcOpsD.eq_2) <|
 And.intro (@vcOpsD.eq_3) <|
 And.intro (@vcOpD.eq_1) <|
 And.intro (@evD.eq_1) <|
 And.intro (@vcLenTD.eq_def) <|
 And.intro (@vcLenD.eq_def) <|
 And.intro (@vcBuiltinD.eq_def) <|
 And.intro (@vcTk.eq_def) <|
 And.intro (@vcNew.eq_def) <|
 And.intro (@vcCallD.eq_def) <|
 (@vcCallT.eq_def)) :=
 And.intro (@vc.eq_1) <|
 And.intro (@vc.eq_2) <|
 And.intro (@vc.eq_3) <|
 And.intro (@vc.eq_4) <|
 And.intro (@vc.eq_5) <|
 And.intro (@vc.eq_6) <|
 And.intro (@vc.eq_7) <|
 And.intro (@vc.eq_8) <|
 And.intro (@vc.eq_9) <|
 And.intro (@vc.eq_10) <|
 And.intro (@vc.eq_11) <|
 And.intro (@vc.eq_12) <|
 And.intro (@vc.eq_13) <|
 And.intro (@vcOps.eq_1) <|
 And.intro (@vcOps.eq_2) <|
 And.intro (@vcOp.eq_1) <|
 And.intro (@vcGuard.eq_def) <|
 And.intro (@ev.eq_1) <|
 And.intro (@vcCall.eq_def) <|
 And.intro (@vcBin.eq_def) <|
 And.intro (@vcInts.eq_def) <|
 And.intro (@vcShift.eq_def) <|
 And.intro (@vcFresh.eq_1) <|
 And.intro (@vcLookup.eq_def) <|
 And.intro (@vcMapUpdate.eq_def) <|
 And.intro (@vcNext.eq_def) <|
 And.intro (@vcRange.eq_def) <|
 And.intro (@vcCopy.eq_def) <|
 And.intro (@vcOpsD.eq_1) <|
 And.intro (@vcOpsD.eq_2) <|
 And.intro (@vcOpsD.eq_3) <|
 And.intro (@vcOpD.eq_1) <|
 And.intro (@evD.eq_1) <|
 And.intro (@vcLenTD.eq_def) <|
 And.intro (@vcLenD.eq_def) <|
 And.intro (@vcBuiltinD.eq_def) <|
 And.intro (@vcTk.eq_def) <|
 And.intro (@vcNew.eq_def) <|
 And.intro (@vcCallD.eq_def) <|
 (@vcCallT.eq_def)
theorem VP1 : type_of% (
 And.intro (@vcEqAgg.eq_def) <|
 And.intro (@vcUn.eq_def) <|
 And.intro (@vcConvert.eq_def) <|
 And.intro (@vcLenT.eq_def) <|
 And.intro (@vcLen.eq_def) <|
 And.intro (@vcBuiltin.eq_def) <|
 And.intro (@vcAppend.eq_def) <|
 And.intro (@vcMinMax.eq_def) <|
 And.intro (@vcPick.eq_def) <|
 And.intro (@vcIndexAddr.eq_def) <|
 And.intro (@vcIndex.eq_def) <|
 And.intro (@vcLoad.eq_def) <|
 And.intro (@vcFrom.eq_def) <|
 And.intro (@vcStore.eq_def) <|
 And.intro (@vcStoreAt.eq_1) <|
 And.intro (@vcNil.eq_def) <|
 And.intro (@vcFieldAddr.eq_1) <|
 And.intro (@vcField.eq_1) <|
 And.intro (@vcBuild.eq_1) <|
 And.intro (@vcBuildSlice.eq_1) <|
 And.intro (@vcMakeSlice.eq_def) <|
 And.intro (@vcSliceOp.eq_def) <|
 And.intro (@vcExtract.eq_def) <|
 And.intro (@retK.eq_def) <|
 And.intro (@vcRet.eq_1) <|
 And.intro (@vcRets.eq_1) <|
 And.intro (@vcRets.eq_2) <|
 And.intro (@vcRets.eq_3) <|
 And.intro (@loopK.eq_def) <|
 And.intro (@rangeK.eq_def) <|
 And.intro (@busyK.eq_def) <|
 And.intro (@roundK.eq_def) <|
 And.intro (@upd.eq_1) <|
 And.intro (@lookV.eq_1) <|
 And.intro (@lookV.eq_2) <|
 And.intro (@lookO.eq_1) <|
 And.intro (@lookO.eq_2) <|
 And.intro (@lookL.eq_1) <|
 And.intro (@lookL.eq_2) <|
 (@laidV.eq_def)) :=
 And.intro (@vcEqAgg.eq_def) <|
 And.intro (@vcUn.eq_def) <|
 And.intro (@vcConvert.eq_def) <|
 And.intro (@vcLenT.eq_def) <|
 And.intro (@vcLen.eq_def) <|
 And.intro (@vcBuiltin.eq_def) <|
 And.intro (@vcAppend.eq_def) <|
 And.intro (@vcMinMax.eq_def) <|
 And.intro (@vcPick.eq_def) <|
 And.intro (@vcIndexAddr.eq_def) <|
 And.intro (@vcIndex.eq_def) <|
 And.intro (@vcLoad.eq_def) <|
 And.intro (@vcFrom.eq_def) <|
 And.intro (@vcStore.eq_def) <|
 And.intro (@vcStoreAt.eq_1) <|
 And.intro (@vcNil.eq_def) <|
 And.intro (@vcFieldAddr.eq_1) <|
 And.intro (@vcField.eq_1) <|
 And.intro (@vcBuild.eq_1) <|
 And.intro (@vcBuildSlice.eq_1) <|
 And.intro (@vcMakeSlice.eq_def) <|
 And.intro (@vcSliceOp.eq_def) <|
 And.intro (@vcExtract.eq_def) <|
 And.intro (@retK.eq_def) <|
 And.intro (@vcRet.eq_1) <|
 And.intro (@vcRets.eq_1) <|
 And.intro (@vcRets.eq_2) <|
 And.intro (@vcRets.eq_3) <|
 And.intro (@loopK.eq_def) <|
 And.intro (@rangeK.eq_def) <|
 And.intro (@busyK.eq_def) <|
 And.intro (@roundK.eq_def) <|
 And.intro (@upd.eq_1) <|
 And.intro (@lookV.eq_1) <|
 And.intro (@lookV.eq_2) <|
 And.intro (@lookO.eq_1) <|
 And.intro (@lookO.eq_2) <|
 And.intro (@lookL.eq_1) <|
 And.intro (@lookL.eq_2) <|
 (@laidV.eq_def)
theorem VP2 : type_of% (
 (@isIntKey.eq_def)) :=
 (@isIntKey.eq_def)
theorem VQ0 : type_of% (
 And.intro (@noneF.eq_1) <|
 And.intro (@avs.eq_1) <|
 And.intro (@avs.eq_2) <|
 And.intro (@avs.eq_3) <|
 And.intro (@eqCells.eq_1) <|
 And.intro (@eqCells.eq_2) <|
 And.intro (@eqCells.eq_3) <|
 And.intro (@eqCells.eq_4) <|
 And.intro (@eqCells.eq_5) <|
 And.intro (@fieldOf.eq_1) <|
 And.intro (@placeOf.eq_1) <|
 And.intro (@placeOf.eq_2) <|
 And.intro (@placeOf.eq_3) <|
 And.intro (@arrKnown.eq_1) <|
 And.intro (@arrKnown.eq_2) <|
 And.intro (@buildFrom.eq_1) <|
 And.intro (@buildFrom.eq_2) <|
 And.intro (@buildFrom.eq_3) <|
 And.intro (@sliceFrom.eq_1) <|
 And.intro (@sliceFrom.eq_2) <|
 And.intro (@sliceFrom.eq_3) <|
 And.intro (@overlay.eq_1) <|
 And.intro (@zeroOf.eq_1) <|
 And.intro (@known.eq_1) <|
 And.intro (@known.eq_2) <|
 And.intro (@flat.eq_1) <|
 And.intro (@flat.eq_2) <|
 And.intro (@flat.eq_3) <|
 And.intro (@flat.eq_4) <|
 And.intro (@bound.eq_1) <|
 And.intro (@bound.eq_2) <|
 And.intro (@bound.eq_3) <|
 And.intro (@retVal.eq_1) <|
 And.intro (@retVal.eq_2) <|
 And.intro (@resSlots.eq_1) <|
 And.intro (@resSlots.eq_2) <|
 And.intro (@resSlots.eq_3) <|
 And.intro (@entry.eq_1) <|
 And.intro (@Head.st.eq_1) <|
 (@env_T)) :=
 And.intro (@noneF.eq_1) <|
 And.intro (@avs.eq_1) <|
 And.intro (@avs.eq_2) <|
 And.intro (@avs.eq_3) <|
 And.intro (@eqCells.eq_1) <|
 And.intro (@eqCells.eq_2) <|
 And.intro (@eqCells.eq_3) <|
 And.intro (@eqCells.eq_4) <|
 And.intro (@eqCells.eq_5) <|
 And.intro (@fieldOf.eq_1) <|
 And.intro (@placeOf.eq_1) <|
 And.intro (@placeOf.eq_2) <|
 And.intro (@placeOf.eq_3) <|
 And.intro (@arrKnown.eq_1) <|
 And.intro (@arrKnown.eq_2) <|
 And.intro (@buildFrom.eq_1) <|
 And.intro (@buildFrom.eq_2) <|
 And.intro (@buildFrom.eq_3) <|
 And.intro (@sliceFrom.eq_1) <|
 And.intro (@sliceFrom.eq_2) <|
 And.intro (@sliceFrom.eq_3) <|
 And.intro (@overlay.eq_1) <|
 And.intro (@zeroOf.eq_1) <|
 And.intro (@known.eq_1) <|
 And.intro (@known.eq_2) <|
 And.intro (@flat.eq_1) <|
 And.intro (@flat.eq_2) <|
 And.intro (@flat.eq_3) <|
 And.intro (@flat.eq_4) <|
 And.intro (@bound.eq_1) <|
 And.intro (@bound.eq_2) <|
 And.intro (@bound.eq_3) <|
 And.intro (@retVal.eq_1) <|
 And.intro (@retVal.eq_2) <|
 And.intro (@resSlots.eq_1) <|
 And.intro (@resSlots.eq_2) <|
 And.intro (@resSlots.eq_3) <|
 And.intro (@entry.eq_1) <|
 And.intro (@Head.st.eq_1) <|
 (@env_T)
theorem VQ1 : type_of% (
 And.intro (@env_P) <|
 And.intro (@env_H) <|
 And.intro (@St.put.eq_1) <|
 And.intro (@St.put.eq_2) <|
 And.intro (@St.sv.eq_1) <|
 And.intro (@St.sv.eq_2) <|
 And.intro (@St.sv.eq_3) <|
 And.intro (@St.sv.eq_4) <|
 And.intro (@St.ow.eq_1) <|
 And.intro (@St.ow.eq_2) <|
 And.intro (@St.ow.eq_3) <|
 And.intro (@St.eff.eq_1) <|
 And.intro (@St.eff.eq_2) <|
 And.intro (@St.eff.eq_3) <|
 And.intro (@St.eff.eq_4) <|
 And.intro (@St.eff.eq_5) <|
 And.intro (@St.eff.eq_6) <|
 And.intro (@St.eff.eq_7) <|
 And.intro (@St.eff.eq_8) <|
 And.intro (@St.eff.eq_9) <|
 And.intro (@St.take.eq_1) <|
 And.intro (@St.take.eq_2) <|
 And.intro (@St.takeO.eq_1) <|
 And.intro (@St.takeO.eq_2) <|
 And.intro (@St.freezes.eq_1) <|
 And.intro (@St.freezes.eq_2) <|
 And.intro (@St.freezes.eq_3) <|
 And.intro (@St.freeze.eq_1) <|
 And.intro (@takes.eq_1) <|
 And.intro (@isSlice.eq_1) <|
 And.intro (@isSlice.eq_2) <|
 And.intro (@isShift.eq_1) <|
 And.intro (@isShift.eq_2) <|
 And.intro (@isShift.eq_3) <|
 And.intro (@TyI.agg.eq_1) <|
 And.intro (@cvv.eq_1) <|
 And.intro (@cvv.eq_2) <|
 And.intro (@cvv.eq_3) <|
 And.intro (@cvv.eq_4) <|
 (@cvv.eq_5)) :=
 And.intro (@env_P) <|
 And.intro (@env_H) <|
 And.intro (@St.put.eq_1) <|
 And.intro (@St.put.eq_2) <|
 And.intro (@St.sv.eq_1) <|
 And.intro (@St.sv.eq_2) <|
 And.intro (@St.sv.eq_3) <|
 And.intro (@St.sv.eq_4) <|
 And.intro (@St.ow.eq_1) <|
 And.intro (@St.ow.eq_2) <|
 And.intro (@St.ow.eq_3) <|
 And.intro (@St.eff.eq_1) <|
 And.intro (@St.eff.eq_2) <|
 And.intro (@St.eff.eq_3) <|
 And.intro (@St.eff.eq_4) <|
 And.intro (@St.eff.eq_5) <|
 And.intro (@St.eff.eq_6) <|
 And.intro (@St.eff.eq_7) <|
 And.intro (@St.eff.eq_8) <|
 And.intro (@St.eff.eq_9) <|
 And.intro (@St.take.eq_1) <|
 And.intro (@St.take.eq_2) <|
 And.intro (@St.takeO.eq_1) <|
 And.intro (@St.takeO.eq_2) <|
 And.intro (@St.freezes.eq_1) <|
 And.intro (@St.freezes.eq_2) <|
 And.intro (@St.freezes.eq_3) <|
 And.intro (@St.freeze.eq_1) <|
 And.intro (@takes.eq_1) <|
 And.intro (@isSlice.eq_1) <|
 And.intro (@isSlice.eq_2) <|
 And.intro (@isShift.eq_1) <|
 And.intro (@isShift.eq_2) <|
 And.intro (@isShift.eq_3) <|
 And.intro (@TyI.agg.eq_1) <|
 And.intro (@cvv.eq_1) <|
 And.intro (@cvv.eq_2) <|
 And.intro (@cvv.eq_3) <|
 And.intro (@cvv.eq_4) <|
 (@cvv.eq_5)
theorem VQ2 : type_of% (
 And.intro (@cvv.eq_6) <|
 And.intro (@cvv.eq_7) <|
 And.intro (@cvv.eq_8) <|
 And.intro (@undefS.eq_1) <|
 And.intro (@gslot.eq_1) <|
 And.intro (@AV.cells.eq_1) <|
 And.intro (@AV.cells.eq_2) <|
 And.intro (@ints.eq_1) <|
 And.intro (@inR_i64) <|
 And.intro (@inR_u8) <|
 And.intro (@maxLen_eq) <|
 And.intro (@small.eq_1) <|
 And.intro (@smallK.eq_1) <|
 And.intro (@smallK.eq_2) <|
 And.intro (@IntKind.bits.eq_1) <|
 And.intro (@IntKind.bits.eq_2) <|
 And.intro (@IntKind.bits.eq_3) <|
 And.intro (@IntKind.bits.eq_4) <|
 And.intro (@IntKind.bits.eq_5) <|
 And.intro (@IntKind.bits.eq_6) <|
 And.intro (@IntKind.bits.eq_7) <|
 And.intro (@IntKind.bits.eq_8) <|
 And.intro (@VIdx_map) <|
 And.intro (@List.map_cons.{0,0}) <|
 And.intro (@List.map_nil.{0,0}) <|
 And.intro (@List.zip_cons_cons.{0,0}) <|
 And.intro (@List.zip_nil_right.{0,0}) <|
 And.intro (@List.zip_nil_left.{0,0}) <|
 And.intro (@List.append_nil.{0}) <|
 And.intro (@List.nil_append.{0}) <|
 And.intro (@List.cons_append.{0}) <|
 And.intro (@List.length_cons.{0}) <|
 And.intro (@List.length_nil.{0}) <|
 And.intro (@List.length_map.{0,0}) <|
 And.intro (@List.replicate_succ.{0}) <|
 And.intro (@List.replicate_zero.{0}) <|
 And.intro (@List.set_cons_zero.{0}) <|
 And.intro (@List.set_cons_succ.{0}) <|
 And.intro (@List.set_nil.{0}) <|
 And.intro (@List.take_succ_cons.{0}) <|
 And.intro (@List.take_zero.{0}) <|
 (@List.take_nil.{0})) :=
 And.intro (@cvv.eq_6) <|
 And.intro (@cvv.eq_7) <|
 And.intro (@cvv.eq_8) <|
 And.intro (@undefS.eq_1) <|
 And.intro (@gslot.eq_1) <|
 And.intro (@AV.cells.eq_1) <|
 And.intro (@AV.cells.eq_2) <|
 And.intro (@ints.eq_1) <|
 And.intro (@inR_i64) <|
 And.intro (@inR_u8) <|
 And.intro (@maxLen_eq) <|
 And.intro (@small.eq_1) <|
 And.intro (@smallK.eq_1) <|
 And.intro (@smallK.eq_2) <|
 And.intro (@IntKind.bits.eq_1) <|
 And.intro (@IntKind.bits.eq_2) <|
 And.intro (@IntKind.bits.eq_3) <|
 And.intro (@IntKind.bits.eq_4) <|
 And.intro (@IntKind.bits.eq_5) <|
 And.intro (@IntKind.bits.eq_6) <|
 And.intro (@IntKind.bits.eq_7) <|
 And.intro (@IntKind.bits.eq_8) <|
 And.intro (@VIdx_map) <|
 And.intro (@List.map_cons.{0,0}) <|
 And.intro (@List.map_nil.{0,0}) <|
 And.intro (@List.zip_cons_cons.{0,0}) <|
 And.intro (@List.zip_nil_right.{0,0}) <|
 And.intro (@List.zip_nil_left.{0,0}) <|
 And.intro (@List.append_nil.{0}) <|
 And.intro (@List.nil_append.{0}) <|
 And.intro (@List.cons_append.{0}) <|
 And.intro (@List.length_cons.{0}) <|
 And.intro (@List.length_nil.{0}) <|
 And.intro (@List.length_map.{0,0}) <|
 And.intro (@List.replicate_succ.{0}) <|
 And.intro (@List.replicate_zero.{0}) <|
 And.intro (@List.set_cons_zero.{0}) <|
 And.intro (@List.set_cons_succ.{0}) <|
 And.intro (@List.set_nil.{0}) <|
 And.intro (@List.take_succ_cons.{0}) <|
 And.intro (@List.take_zero.{0}) <|
 (@List.take_nil.{0})
theorem VQ3 : type_of% (
 And.intro (@List.drop_succ_cons.{0}) <|
 And.intro (@List.drop_zero.{0}) <|
 And.intro (@List.drop_nil.{0}) <|
 And.intro (@List.all_cons.{0}) <|
 And.intro (@List.all_nil.{0}) <|
 And.intro (@List.getElem?_toArray.{0}) <|
 And.intro (@List.getElem?_cons_succ.{0}) <|
 And.intro (@List.getElem?_cons_zero.{0}) <|
 And.intro (@List.getElem?_nil.{0}) <|
 And.intro (@List.head?_cons.{0}) <|
 And.intro (@List.head?_nil.{0}) <|
 And.intro (@Option.bind_some.{0,0}) <|
 And.intro (@Option.bind_none.{0,0}) <|
 And.intro (@Option.map_some.{0,0}) <|
 And.intro (@Option.map_none.{0,0}) <|
 And.intro (@Option.isSome_some.{0}) <|
 And.intro (@Option.isSome_none.{0}) <|
 And.intro (@Option.getD_some.{0}) <|
 And.intro (@Option.getD_none.{0}) <|
 And.intro (@Option.some.injEq.{0}) <|
 And.intro (@Nat.add_zero) <|
 And.intro (@Nat.zero_add) <|
 And.intro (@Nat.one_mul) <|
 And.intro (@Nat.mul_one) <|
 And.intro (@Nat.zero_mul) <|
 And.intro (@Int.toNat_natCast) <|
 And.intro (@Int.ofNat_eq_natCast) <|
 And.intro (@decide_eq_true_eq) <|
 And.intro (@decide_eq_false_iff_not) <|
 And.intro (@Bool.false_eq_true) <|
 And.intro (@Bool.true_eq_false) <|
 And.intro (@false_implies) <|
 And.intro (@true_implies) <|
 And.intro (@and_true) <|
 And.intro (@true_and) <|
 And.intro (@and_false) <|
 And.intro (@false_and) <|
 And.intro (@and_self) <|
 And.intro (@Bool.not_false) <|
 (@Bool.not_true)) :=
 And.intro (@List.drop_succ_cons.{0}) <|
 And.intro (@List.drop_zero.{0}) <|
 And.intro (@List.drop_nil.{0}) <|
 And.intro (@List.all_cons.{0}) <|
 And.intro (@List.all_nil.{0}) <|
 And.intro (@List.getElem?_toArray.{0}) <|
 And.intro (@List.getElem?_cons_succ.{0}) <|
 And.intro (@List.getElem?_cons_zero.{0}) <|
 And.intro (@List.getElem?_nil.{0}) <|
 And.intro (@List.head?_cons.{0}) <|
 And.intro (@List.head?_nil.{0}) <|
 And.intro (@Option.bind_some.{0,0}) <|
 And.intro (@Option.bind_none.{0,0}) <|
 And.intro (@Option.map_some.{0,0}) <|
 And.intro (@Option.map_none.{0,0}) <|
 And.intro (@Option.isSome_some.{0}) <|
 And.intro (@Option.isSome_none.{0}) <|
 And.intro (@Option.getD_some.{0}) <|
 And.intro (@Option.getD_none.{0}) <|
 And.intro (@Option.some.injEq.{0}) <|
 And.intro (@Nat.add_zero) <|
 And.intro (@Nat.zero_add) <|
 And.intro (@Nat.one_mul) <|
 And.intro (@Nat.mul_one) <|
 And.intro (@Nat.zero_mul) <|
 And.intro (@Int.toNat_natCast) <|
 And.intro (@Int.ofNat_eq_natCast) <|
 And.intro (@decide_eq_true_eq) <|
 And.intro (@decide_eq_false_iff_not) <|
 And.intro (@Bool.false_eq_true) <|
 And.intro (@Bool.true_eq_false) <|
 And.intro (@false_implies) <|
 And.intro (@true_implies) <|
 And.intro (@and_true) <|
 And.intro (@true_and) <|
 And.intro (@and_false) <|
 And.intro (@false_and) <|
 And.intro (@and_self) <|
 And.intro (@Bool.not_false) <|
 (@Bool.not_true)
theorem VQ4 : type_of% (
 And.intro (@Bool.not_eq_true') <|
 And.intro (@Bool.not_eq_false') <|
 And.intro (@Bool.and_true) <|
 And.intro (@Bool.true_and) <|
 And.intro (@Bool.false_and) <|
 And.intro (@Bool.and_false) <|
 And.intro (@not_true_eq_false) <|
 And.intro (@not_false_eq_true) <|
 And.intro (@ne_eq.{1}) <|
 And.intro (@Int.natCast_zero) <|
 And.intro (@Int.natCast_one) <|
 And.intro (@roundSt.eq_1) <|
 And.intro (@SV.av.eq_1) <|
 And.intro (@SV.av.eq_2) <|
 And.intro (@envR_T) <|
 And.intro (@envR_P) <|
 And.intro (@envR_H) <|
 And.intro (@natDivPow) <|
 And.intro (@natMulPow) <|
 And.intro (@oneMulPow) <|
 And.intro (@toNatOne) <|
 And.intro (@testBit_dec) <|
 And.intro (@testBit_dec0) <|
 And.intro (@testBit_prop) <|
 And.intro (@testBit_prop0) <|
 And.intro (@env_cut) <|
 And.intro (@envR_cut) <|
 And.intro (@envC_T) <|
 And.intro (@envC_P) <|
 And.intro (@envC_H) <|
 And.intro (@envC_cut) <|
 And.intro (@cutAt.eq_1) <|
 And.intro (@cutAt.eq_2) <|
 And.intro (@modeAt.eq_1) <|
 And.intro (@vcSome.eq_1) <|
 (@vcSome.eq_2)) :=
 And.intro (@Bool.not_eq_true') <|
 And.intro (@Bool.not_eq_false') <|
 And.intro (@Bool.and_true) <|
 And.intro (@Bool.true_and) <|
 And.intro (@Bool.false_and) <|
 And.intro (@Bool.and_false) <|
 And.intro (@not_true_eq_false) <|
 And.intro (@not_false_eq_true) <|
 And.intro (@ne_eq.{1}) <|
 And.intro (@Int.natCast_zero) <|
 And.intro (@Int.natCast_one) <|
 And.intro (@roundSt.eq_1) <|
 And.intro (@SV.av.eq_1) <|
 And.intro (@SV.av.eq_2) <|
 And.intro (@envR_T) <|
 And.intro (@envR_P) <|
 And.intro (@envR_H) <|
 And.intro (@natDivPow) <|
 And.intro (@natMulPow) <|
 And.intro (@oneMulPow) <|
 And.intro (@toNatOne) <|
 And.intro (@testBit_dec) <|
 And.intro (@testBit_dec0) <|
 And.intro (@testBit_prop) <|
 And.intro (@testBit_prop0) <|
 And.intro (@env_cut) <|
 And.intro (@envR_cut) <|
 And.intro (@envC_T) <|
 And.intro (@envC_P) <|
 And.intro (@envC_H) <|
 And.intro (@envC_cut) <|
 And.intro (@cutAt.eq_1) <|
 And.intro (@cutAt.eq_2) <|
 And.intro (@modeAt.eq_1) <|
 And.intro (@vcSome.eq_1) <|
 (@vcSome.eq_2)
theorem VT : type_of% (
 And.intro ty_2 <|
 And.intro ty_3 <|
 And.intro ty_4 <|
 And.intro ty_5 <|
 And.intro ty_9 <|
 And.intro ty_12 <|
 And.intro ty_15 <|
 And.intro ty_16 <|
 And.intro ty_17 <|
 And.intro ty_21 <|
 And.intro ty_22 <|
 And.intro ty_23 <|
 And.intro ty_24 <|
 And.intro ty_26 <|
 And.intro ty_27 <|
 And.intro ty_28 <|
 And.intro ty_30 <|
 And.intro ty_31 <|
 And.intro ty_32 <|
 And.intro ty_39 <|
 And.intro ty_43 <|
 And.intro ty_49 <|
 And.intro ty_53 <|
 And.intro ty_55 <|
 And.intro ty_58 <|
 And.intro ty_59 <|
 And.intro ty_61 <|
 And.intro ty_63 <|
 And.intro ty_81 <|
 And.intro ty_82 <|
 And.intro ty_84 <|
 And.intro ty_86 <|
 And.intro ty_89 <|
 And.intro ty_91 <|
 And.intro ty_92 <|
 And.intro ty_97 <|
 And.intro ty_99 <|
 And.intro ty_102 <|
 And.intro ty_104 <|
 And.intro ty_106 <|
 And.intro ty_111 <|
 And.intro ty_113 <|
 And.intro ty_115 <|
 And.intro ty_117 <|
 And.intro ty_121 <|
 And.intro ty_123 <|
 And.intro ty_124 <|
 And.intro ty_126 <|
 And.intro ty_131 <|
 And.intro ty_133 <|
 And.intro ty_146 <|
 And.intro ty_147 <|
 And.intro ty_150 <|
 And.intro ty_152 <|
 And.intro ty_153 <|
 And.intro ty_154 <|
 And.intro ty_156 <|
 And.intro ty_159 <|
 And.intro ty_167 <|
 And.intro ty_172 <|
 And.intro ty_174 <|
 And.intro ty_176 <|
 And.intro ty_181 <|
 And.intro ty_182 <|
 And.intro ty_184 <|
 And.intro ty_186 <|
 And.intro ty_189 <|
 And.intro ty_191 <|
 And.intro ty_193 <|
 And.intro ty_195 <|
 And.intro ty_201 <|
 ty_0) :=
 And.intro ty_2 <|
 And.intro ty_3 <|
 And.intro ty_4 <|
 And.intro ty_5 <|
 And.intro ty_9 <|
 And.intro ty_12 <|
 And.intro ty_15 <|
 And.intro ty_16 <|
 And.intro ty_17 <|
 And.intro ty_21 <|
 And.intro ty_22 <|
 And.intro ty_23 <|
 And.intro ty_24 <|
 And.intro ty_26 <|
 And.intro ty_27 <|
 And.intro ty_28 <|
 And.intro ty_30 <|
 And.intro ty_31 <|
 And.intro ty_32 <|
 And.intro ty_39 <|
 And.intro ty_43 <|
 And.intro ty_49 <|
 And.intro ty_53 <|
 And.intro ty_55 <|
 And.intro ty_58 <|
 And.intro ty_59 <|
 And.intro ty_61 <|
 And.intro ty_63 <|
 And.intro ty_81 <|
 And.intro ty_82 <|
 And.intro ty_84 <|
 And.intro ty_86 <|
 And.intro ty_89 <|
 And.intro ty_91 <|
 And.intro ty_92 <|
 And.intro ty_97 <|
 And.intro ty_99 <|
 And.intro ty_102 <|
 And.intro ty_104 <|
 And.intro ty_106 <|
 And.intro ty_111 <|
 And.intro ty_113 <|
 And.intro ty_115 <|
 And.intro ty_117 <|
 And.intro ty_121 <|
 And.intro ty_123 <|
 And.intro ty_124 <|
 And.intro ty_126 <|
 And.intro ty_131 <|
 And.intro ty_133 <|
 And.intro ty_146 <|
 And.intro ty_147 <|
 And.intro ty_150 <|
 And.intro ty_152 <|
 And.intro ty_153 <|
 And.intro ty_154 <|
 And.intro ty_156 <|
 And.intro ty_159 <|
 And.intro ty_167 <|
 And.intro ty_172 <|
 And.intro ty_174 <|
 And.intro ty_176 <|
 And.intro ty_181 <|
 And.intro ty_182 <|
 And.intro ty_184 <|
 And.intro ty_186 <|
 And.intro ty_189 <|
 And.intro ty_191 <|
 And.intro ty_193 <|
 And.intro ty_195 <|
 And.intro ty_201 <|
 ty_0
theorem VP : type_of% (And.intro VP0 <| And.intro VP1 <| VP2) := And.intro VP0 <| And.intro VP1 <| VP2
theorem iteSelf {α : Type} {c : Prop} [Decidable c] (d : α) : ite c d d = d := ite_self d
theorem VQ : type_of% (And.intro @iteSelf <| And.intro VQ0 <| And.intro VQ1 <| And.intro VQ2 <| And.intro VQ3 <| And.intro VQ4 <| And.intro VT <| (@ite_split)) := And.intro @iteSelf <| And.intro VQ0 <| And.intro VQ1 <| And.intro VQ2 <| And.intro VQ3 <| And.intro VQ4 <| And.intro VT <| (@ite_split)
theorem FP : type_of% (And.intro (@upd.eq_1) <| And.intro (@lookV.eq_1) <| And.intro (@lookV.eq_2) <| And.intro (@lookO.eq_1) <| And.intro (@lookO.eq_2) <| And.intro (@lookL.eq_1) (@lookL.eq_2)) := And.intro (@upd.eq_1) <| And.intro (@lookV.eq_1) <| And.intro (@lookV.eq_2) <| And.intro (@lookO.eq_1) <| And.intro (@lookO.eq_2) <| And.intro (@lookL.eq_1) (@lookL.eq_2)
theorem FE : type_of% (And.intro (@Fits.eq_1) <| And.intro (@fitsV.eq_1) <| And.intro (@fitsV.eq_2) <| And.intro (@fitsO.eq_1) <| And.intro (@fitsO.eq_2) <| And.intro (@fitsL.eq_1) <| And.intro (@fitsL.eq_2) <| And.intro (@ints.eq_1) <| And.intro and_true <| And.intro true_and (@Option.some.injEq.{0})) := And.intro (@Fits.eq_1) <| And.intro (@fitsV.eq_1) <| And.intro (@fitsV.eq_2) <| And.intro (@fitsO.eq_1) <| And.intro (@fitsO.eq_2) <| And.intro (@fitsL.eq_1) <| And.intro (@fitsL.eq_2) <| And.intro (@ints.eq_1) <| And.intro and_true <| And.intro true_and (@Option.some.injEq.{0})
theorem GL : (∀ {α : Type} (a : α),(a = a) = True) ∧ (∀ (h : Decidable True),@decide True h = true) ∧ (∀ (h : Decidable False),@decide False h = false) ∧ (∀ {α : Type} {h : Decidable True} (a b : α),@ite α True h a b = a) ∧ (∀ {α : Type} {h : Decidable False} (a b : α),@ite α False h a b = b) ∧ ((¬ True) = False) ∧ ∀ {α : Type} (a b : List α),List.append a b = a ++ b :=
 ⟨eq_self,fun _ => decide_true _,fun _ => decide_false _,if_true,if_false,not_true_eq_false,fun _ _ => rfl⟩
theorem LL : (∀ {α β : Type} (f : α → β) (l : List α),(l.map f).length = l.length) ∧ (∀ {α : Type} (a : α) (l : List α),(a :: l).length = l.length + 1) ∧ (∀ {α : Type},([] : List α).length = 0) ∧ (∀ {α : Type} (a b : List α),(a ++ b).length = a.length + b.length) ∧ ∀ n : Nat,0 + n = n :=
 ⟨fun _ _ => List.length_map _,fun _ _ => List.length_cons,List.length_nil,fun _ _ => List.length_append,Nat.zero_add⟩
theorem nlC {k : Int} (h : k ≤ 0) (n : Nat) : k ≤ (n : Int) := Int.le_trans h (Int.natCast_nonneg n)
theorem nbC {a b : Nat} (h : Nat.ble a b = true) : a ≤ b := Nat.le_of_ble_eq_true h
end Go.Proofs.YtikodjpbknneoaaGreat.Abs
