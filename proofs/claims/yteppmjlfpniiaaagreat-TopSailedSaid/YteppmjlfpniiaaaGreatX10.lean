/- Lemmas for the statements of this seat (X10): they hold without conditions beyond those that each one states. -/
import Derived.Test.YteppmjlfpniiaaaGreatX5
import Derived.Test.YteppmjlfpniiaaaGreatChecked
import Derived.KernelRfl
import Derived.Test.YteppmjlfpniiaaaGreatX8
/- The types of this seat,as the abstract machine has them: made by program (gen_types.py). -/
namespace Go.Proofs.YteppmjlfpniiaaaGreat.Abs
set_option maxHeartbeats 4000000
set_option maxRecDepth 100000
open Go Go.RowKit
def ty : TypeId → Option TyI
 | 1 => some ⟨.one,1,8,[.nilfunc]⟩
 | 2 => some ⟨.int .i64,1,8,[.int .i64 0]⟩
 | 3 => some ⟨.int .i64,1,8,[.int .i64 0]⟩
 | 4 => some ⟨.bool,1,1,[.bool false]⟩
 | 5 => some ⟨.int .u8,1,1,[.int .u8 0]⟩
 | 9 => some ⟨.string,1,16,[.str ByteArray.empty]⟩
 | 12 => some ⟨.int .u64,1,8,[.int .u64 0]⟩
 | 13 => some ⟨.struct [(0,9),(1,12)],2,24,[.str ByteArray.empty,.int .u64 0]⟩
 | 15 => some ⟨.one,1,8,[.nilptr]⟩
 | 16 => some ⟨.one,1,8,[.nilptr]⟩
 | 17 => some ⟨.one,1,8,[.nilptr]⟩
 | 18 => some ⟨.struct [(0,17)],1,8,[.nilptr]⟩
 | 21 => some ⟨.int .i32,1,4,[.int .i32 0]⟩
 | 22 => some ⟨.slice 45,1,24,[.slice 5 []]⟩
 | 23 => some ⟨.slice 60,1,24,[.slice 3 []]⟩
 | 24 => some ⟨.slice 63,1,24,[.slice 4 []]⟩
 | 25 => some ⟨.struct [(0,3),(1,3),(2,22),(3,23),(4,24)],5,88,[.int .i64 0,.int .i64 0,.slice 5 [],.slice 3 [],.slice 4 []]⟩
 | 26 => some ⟨.struct [(0,3),(1,3),(2,22),(3,23),(4,24)],5,88,[.int .i64 0,.int .i64 0,.slice 5 [],.slice 3 [],.slice 4 []]⟩
 | 27 => some ⟨.slice 65,1,24,[.slice 4 []]⟩
 | 28 => some ⟨.slice 42,1,24,[.slice 5 []]⟩
 | 29 => some ⟨.struct [(0,3),(1,27),(2,28)],3,56,[.int .i64 0,.slice 4 [],.slice 5 []]⟩
 | 30 => some ⟨.struct [(0,3),(1,27),(2,28)],3,56,[.int .i64 0,.slice 4 [],.slice 5 []]⟩
 | 31 => some ⟨.slice 5,1,24,[.slice 1 []]⟩
 | 32 => some ⟨.int .i64,1,8,[.int .i64 0]⟩
 | 34 => some ⟨.one,1,8,[.nilfunc]⟩
 | 35 => some ⟨.one,1,8,[.nilfunc]⟩
 | 36 => some ⟨.one,1,8,[.nilfunc]⟩
 | 37 => some ⟨.slice 3,1,24,[.slice 1 []]⟩
 | 38 => some ⟨.one,1,8,[.nilfunc]⟩
 | 39 => some ⟨.struct [(0,3),(1,3)],2,16,[.int .i64 0,.int .i64 0]⟩
 | 40 => some ⟨.struct [(0,3),(1,3)],2,16,[.int .i64 0,.int .i64 0]⟩
 | 41 => some ⟨.struct [(0,9),(1,3),(2,40),(4,3)],5,48,[.str ByteArray.empty,.int .i64 0,.int .i64 0,.int .i64 0,.int .i64 0]⟩
 | 42 => some ⟨.struct [(0,9),(1,3),(2,40),(4,3)],5,48,[.str ByteArray.empty,.int .i64 0,.int .i64 0,.int .i64 0,.int .i64 0]⟩
 | 43 => some ⟨.slice 120,1,24,[.slice 2 []]⟩
 | 44 => some ⟨.struct [(0,9),(1,3),(2,43),(3,40)],5,64,[.str ByteArray.empty,.int .i64 0,.slice 2 [],.int .i64 0,.int .i64 0]⟩
 | 45 => some ⟨.struct [(0,9),(1,3),(2,43),(3,40)],5,64,[.str ByteArray.empty,.int .i64 0,.slice 2 [],.int .i64 0,.int .i64 0]⟩
 | 46 => some ⟨.slice 37,1,24,[.slice 1 []]⟩
 | 48 => some ⟨.one,1,8,[.nilfunc]⟩
 | 49 => some ⟨.slice 40,1,24,[.slice 2 []]⟩
 | 51 => some ⟨.one,1,8,[.nilfunc]⟩
 | 52 => some ⟨.one,1,8,[.nilfunc]⟩
 | 53 => some ⟨.one,1,8,[.nilfunc]⟩
 | 54 => some ⟨.one,1,8,[.nilfunc]⟩
 | 55 => some ⟨.slice 9,1,24,[.slice 1 []]⟩
 | 56 => some ⟨.one,1,8,[.nilfunc]⟩
 | 57 => some ⟨.one,1,8,[.nilfunc]⟩
 | 58 => some ⟨.one,1,8,[.nilfunc]⟩
 | 59 => some ⟨.struct [(0,3),(1,3),(2,3)],3,24,[.int .i64 0,.int .i64 0,.int .i64 0]⟩
 | 60 => some ⟨.struct [(0,3),(1,3),(2,3)],3,24,[.int .i64 0,.int .i64 0,.int .i64 0]⟩
 | 61 => some ⟨.one,1,8,[.nilfunc]⟩
 | 62 => some ⟨.struct [(0,3),(1,3),(2,3),(3,3)],4,32,[.int .i64 0,.int .i64 0,.int .i64 0,.int .i64 0]⟩
 | 63 => some ⟨.struct [(0,3),(1,3),(2,3),(3,3)],4,32,[.int .i64 0,.int .i64 0,.int .i64 0,.int .i64 0]⟩
 | 64 => some ⟨.struct [(0,9),(1,3),(2,40)],4,40,[.str ByteArray.empty,.int .i64 0,.int .i64 0,.int .i64 0]⟩
 | 65 => some ⟨.struct [(0,9),(1,3),(2,40)],4,40,[.str ByteArray.empty,.int .i64 0,.int .i64 0,.int .i64 0]⟩
 | 66 => some ⟨.one,1,8,[.nilfunc]⟩
 | 67 => some ⟨.one,1,8,[.nilfunc]⟩
 | 68 => some ⟨.one,1,8,[.nilfunc]⟩
 | 70 => some ⟨.one,1,8,[.nilfunc]⟩
 | 72 => some ⟨.one,1,8,[.nilfunc]⟩
 | 74 => some ⟨.one,1,8,[.nilfunc]⟩
 | 76 => some ⟨.one,1,8,[.nilfunc]⟩
 | 77 => some ⟨.one,1,8,[.nilfunc]⟩
 | 78 => some ⟨.one,1,8,[.nilfunc]⟩
 | 79 => some ⟨.one,1,8,[.nilfunc]⟩
 | 80 => some ⟨.one,1,8,[.nilfunc]⟩
 | 81 => some ⟨.one,1,8,[.nilfunc]⟩
 | 82 => some ⟨.one,1,8,[.nilfunc]⟩
 | 83 => some ⟨.one,1,8,[.nilfunc]⟩
 | 84 => some ⟨.one,1,8,[.nilfunc]⟩
 | 85 => some ⟨.one,1,8,[.nilfunc]⟩
 | 86 => some ⟨.one,1,8,[.nilfunc]⟩
 | 87 => some ⟨.one,1,8,[.nilptr]⟩
 | 89 => some ⟨.one,1,8,[.nilfunc]⟩
 | 90 => some ⟨.one,1,8,[.nilfunc]⟩
 | 91 => some ⟨.struct [(0,3),(1,3)],2,16,[.int .i64 0,.int .i64 0]⟩
 | 92 => some ⟨.struct [(0,3),(1,3)],2,16,[.int .i64 0,.int .i64 0]⟩
 | 94 => some ⟨.one,1,8,[.nilfunc]⟩
 | 95 => some ⟨.one,1,8,[.nilptr]⟩
 | 96 => some ⟨.one,1,8,[.nilfunc]⟩
 | 97 => some ⟨.one,1,8,[.nilfunc]⟩
 | 98 => some ⟨.array 3 3,3,24,[.int .i64 0,.int .i64 0,.int .i64 0]⟩
 | 99 => some ⟨.array 3 3,3,24,[.int .i64 0,.int .i64 0,.int .i64 0]⟩
 | 100 => some ⟨.struct [(0,3),(1,3),(2,99)],5,40,[.int .i64 0,.int .i64 0,.int .i64 0,.int .i64 0,.int .i64 0]⟩
 | 101 => some ⟨.struct [(0,3),(1,3),(2,99)],5,40,[.int .i64 0,.int .i64 0,.int .i64 0,.int .i64 0,.int .i64 0]⟩
 | 102 => some ⟨.one,1,8,[.nilfunc]⟩
 | 103 => some ⟨.one,1,8,[.nilfunc]⟩
 | 104 => some ⟨.map 101 3,1,8,[.nilmap]⟩
 | 105 => some ⟨.struct [(0,30),(3,3),(4,3),(5,104)],6,80,[.int .i64 0,.slice 4 [],.slice 5 [],.int .i64 0,.int .i64 0,.nilmap]⟩
 | 106 => some ⟨.struct [(0,30),(3,3),(4,3),(5,104)],6,80,[.int .i64 0,.slice 4 [],.slice 5 [],.int .i64 0,.int .i64 0,.nilmap]⟩
 | 107 => some ⟨.one,1,8,[.nilfunc]⟩
 | 108 => some ⟨.one,1,8,[.nilfunc]⟩
 | 109 => some ⟨.one,1,8,[.nilfunc]⟩
 | 111 => some ⟨.one,1,8,[.nilfunc]⟩
 | 112 => some ⟨.one,1,8,[.nilfunc]⟩
 | 113 => some ⟨.one,1,8,[.nilfunc]⟩
 | 114 => some ⟨.one,1,8,[.nilfunc]⟩
 | 115 => some ⟨.one,1,8,[.nilfunc]⟩
 | 116 => some ⟨.one,1,8,[.nilfunc]⟩
 | 117 => some ⟨.one,1,8,[.nilfunc]⟩
 | 118 => some ⟨.one,1,8,[.nilfunc]⟩
 | 119 => some ⟨.struct [(0,3),(1,3)],2,16,[.int .i64 0,.int .i64 0]⟩
 | 120 => some ⟨.struct [(0,3),(1,3)],2,16,[.int .i64 0,.int .i64 0]⟩
 | 121 => some ⟨.one,1,8,[.nilfunc]⟩
 | 122 => some ⟨.one,1,8,[.nilfunc]⟩
 | 123 => some ⟨.one,1,8,[.nilfunc]⟩
 | 124 => some ⟨.one,1,8,[.nilfunc]⟩
 | 125 => some ⟨.one,1,8,[.nilfunc]⟩
 | 126 => some ⟨.struct [(0,3),(1,3)],2,16,[.int .i64 0,.int .i64 0]⟩
 | 127 => some ⟨.struct [(0,3),(1,3)],2,16,[.int .i64 0,.int .i64 0]⟩
 | 128 => some ⟨.array 3 127,6,48,[.int .i64 0,.int .i64 0,.int .i64 0,.int .i64 0,.int .i64 0,.int .i64 0]⟩
 | 129 => some ⟨.array 3 127,6,48,[.int .i64 0,.int .i64 0,.int .i64 0,.int .i64 0,.int .i64 0,.int .i64 0]⟩
 | 131 => some ⟨.one,1,8,[.nilfunc]⟩
 | 132 => some ⟨.one,1,8,[.nilfunc]⟩
 | 133 => some ⟨.array 4 3,4,32,[.int .i64 0,.int .i64 0,.int .i64 0,.int .i64 0]⟩
 | 134 => some ⟨.array 4 3,4,32,[.int .i64 0,.int .i64 0,.int .i64 0,.int .i64 0]⟩
 | 135 => some ⟨.one,1,8,[.nilfunc]⟩
 | 136 => some ⟨.one,1,8,[.nilfunc]⟩
 | 137 => some ⟨.one,1,8,[.nilfunc]⟩
 | 138 => some ⟨.one,1,8,[.nilfunc]⟩
 | 140 => some ⟨.one,1,8,[.nilfunc]⟩
 | 141 => some ⟨.one,1,8,[.nilfunc]⟩
 | 142 => some ⟨.one,1,8,[.nilfunc]⟩
 | 143 => some ⟨.one,1,8,[.nilfunc]⟩
 | 144 => some ⟨.one,1,8,[.nilptr]⟩
 | 145 => some ⟨.one,1,8,[.nilfunc]⟩
 | 146 => some ⟨.one,1,8,[.nilfunc]⟩
 | 147 => some ⟨.one,1,8,[.nilfunc]⟩
 | 148 => some ⟨.one,1,8,[.nilfunc]⟩
 | 149 => some ⟨.one,1,8,[.nilfunc]⟩
 | 150 => some ⟨.one,1,8,[.nilfunc]⟩
 | 151 => some ⟨.one,1,8,[.nilfunc]⟩
 | 152 => some ⟨.one,1,8,[.nilfunc]⟩
 | 154 => some ⟨.one,1,8,[.nilfunc]⟩
 | 155 => some ⟨.slice 159,1,24,[.slice 2 []]⟩
 | 156 => some ⟨.one,1,8,[.nilfunc]⟩
 | 157 => some ⟨.one,1,8,[.nilfunc]⟩
 | 158 => some ⟨.struct [(0,32),(1,157)],2,16,[.int .i64 0,.nilfunc]⟩
 | 159 => some ⟨.struct [(0,32),(1,157)],2,16,[.int .i64 0,.nilfunc]⟩
 | 160 => some ⟨.one,1,8,[.nilfunc]⟩
 | 161 => some ⟨.one,1,8,[.nilfunc]⟩
 | 162 => some ⟨.struct [(0,141)],1,8,[.nilfunc]⟩
 | 163 => some ⟨.struct [(0,141)],1,8,[.nilfunc]⟩
 | 164 => some ⟨.array 4 163,4,32,[.nilfunc,.nilfunc,.nilfunc,.nilfunc]⟩
 | 165 => some ⟨.map 129 134,1,8,[.nilmap]⟩
 | 166 => some ⟨.struct [(0,26),(5,164),(9,3),(10,165)],11,136,[.int .i64 0,.int .i64 0,.slice 5 [],.slice 3 [],.slice 4 [],.nilfunc,.nilfunc,.nilfunc,.nilfunc,.int .i64 0,.nilmap]⟩
 | 167 => some ⟨.struct [(0,26),(5,164),(9,3),(10,165)],11,136,[.int .i64 0,.int .i64 0,.slice 5 [],.slice 3 [],.slice 4 [],.nilfunc,.nilfunc,.nilfunc,.nilfunc,.int .i64 0,.nilmap]⟩
 | 169 => some ⟨.one,1,8,[.nilfunc]⟩
 | 170 => some ⟨.one,1,8,[.nilptr]⟩
 | 171 => some ⟨.one,1,8,[.nilfunc]⟩
 | 172 => some ⟨.one,1,8,[.nilfunc]⟩
 | 173 => some ⟨.one,1,8,[.nilfunc]⟩
 | 174 => some ⟨.one,1,8,[.nilfunc]⟩
 | 175 => some ⟨.one,1,8,[.nilfunc]⟩
 | 176 => some ⟨.one,1,8,[.nilfunc]⟩
 | 177 => some ⟨.one,1,8,[.nilfunc]⟩
 | 178 => some ⟨.one,1,8,[.nilfunc]⟩
 | 179 => some ⟨.one,1,8,[.nilfunc]⟩
 | 180 => some ⟨.one,1,8,[.nilfunc]⟩
 | 181 => some ⟨.one,1,8,[.nilfunc]⟩
 | 182 => some ⟨.one,1,8,[.nilfunc]⟩
 | 183 => some ⟨.one,1,8,[.nilfunc]⟩
 | 184 => some ⟨.one,1,8,[.nilfunc]⟩
 | 185 => some ⟨.one,1,8,[.nilfunc]⟩
 | 186 => some ⟨.one,1,8,[.nilfunc]⟩
 | 187 => some ⟨.one,1,8,[.nilfunc]⟩
 | 188 => some ⟨.one,1,8,[.nilfunc]⟩
 | 189 => some ⟨.one,1,8,[.nilfunc]⟩
 | 190 => some ⟨.one,1,8,[.nilfunc]⟩
 | 191 => some ⟨.one,1,8,[.nilfunc]⟩
 | 192 => some ⟨.one,1,8,[.nilfunc]⟩
 | 193 => some ⟨.one,1,8,[.nilfunc]⟩
 | 194 => some ⟨.one,1,8,[.nilfunc]⟩
 | 195 => some ⟨.struct [(0,17),(1,17),(2,17),(3,9)],4,40,[.nilptr,.nilptr,.nilptr,.str ByteArray.empty]⟩
 | 200 => some ⟨.int .u32,1,4,[.int .u32 0]⟩
 | 203 => some ⟨.one,1,8,[.nilfunc]⟩
 | 204 => some ⟨.one,1,8,[.nilptr]⟩
 | _ => none
theorem ty_1 : ty 1 = some ⟨.one,1,8,[.nilfunc]⟩ := rfl
theorem ty_2 : ty 2 = some ⟨.int .i64,1,8,[.int .i64 0]⟩ := rfl
theorem ty_3 : ty 3 = some ⟨.int .i64,1,8,[.int .i64 0]⟩ := rfl
theorem ty_4 : ty 4 = some ⟨.bool,1,1,[.bool false]⟩ := rfl
theorem ty_5 : ty 5 = some ⟨.int .u8,1,1,[.int .u8 0]⟩ := rfl
theorem ty_9 : ty 9 = some ⟨.string,1,16,[.str ByteArray.empty]⟩ := rfl
theorem ty_12 : ty 12 = some ⟨.int .u64,1,8,[.int .u64 0]⟩ := rfl
theorem ty_13 : ty 13 = some ⟨.struct [(0,9),(1,12)],2,24,[.str ByteArray.empty,.int .u64 0]⟩ := rfl
theorem ty_15 : ty 15 = some ⟨.one,1,8,[.nilptr]⟩ := rfl
theorem ty_16 : ty 16 = some ⟨.one,1,8,[.nilptr]⟩ := rfl
theorem ty_17 : ty 17 = some ⟨.one,1,8,[.nilptr]⟩ := rfl
theorem ty_18 : ty 18 = some ⟨.struct [(0,17)],1,8,[.nilptr]⟩ := rfl
theorem ty_21 : ty 21 = some ⟨.int .i32,1,4,[.int .i32 0]⟩ := rfl
theorem ty_22 : ty 22 = some ⟨.slice 45,1,24,[.slice 5 []]⟩ := rfl
theorem ty_23 : ty 23 = some ⟨.slice 60,1,24,[.slice 3 []]⟩ := rfl
theorem ty_24 : ty 24 = some ⟨.slice 63,1,24,[.slice 4 []]⟩ := rfl
theorem ty_25 : ty 25 = some ⟨.struct [(0,3),(1,3),(2,22),(3,23),(4,24)],5,88,[.int .i64 0,.int .i64 0,.slice 5 [],.slice 3 [],.slice 4 []]⟩ := rfl
theorem ty_26 : ty 26 = some ⟨.struct [(0,3),(1,3),(2,22),(3,23),(4,24)],5,88,[.int .i64 0,.int .i64 0,.slice 5 [],.slice 3 [],.slice 4 []]⟩ := rfl
theorem ty_27 : ty 27 = some ⟨.slice 65,1,24,[.slice 4 []]⟩ := rfl
theorem ty_28 : ty 28 = some ⟨.slice 42,1,24,[.slice 5 []]⟩ := rfl
theorem ty_29 : ty 29 = some ⟨.struct [(0,3),(1,27),(2,28)],3,56,[.int .i64 0,.slice 4 [],.slice 5 []]⟩ := rfl
theorem ty_30 : ty 30 = some ⟨.struct [(0,3),(1,27),(2,28)],3,56,[.int .i64 0,.slice 4 [],.slice 5 []]⟩ := rfl
theorem ty_31 : ty 31 = some ⟨.slice 5,1,24,[.slice 1 []]⟩ := rfl
theorem ty_32 : ty 32 = some ⟨.int .i64,1,8,[.int .i64 0]⟩ := rfl
theorem ty_34 : ty 34 = some ⟨.one,1,8,[.nilfunc]⟩ := rfl
theorem ty_35 : ty 35 = some ⟨.one,1,8,[.nilfunc]⟩ := rfl
theorem ty_36 : ty 36 = some ⟨.one,1,8,[.nilfunc]⟩ := rfl
theorem ty_37 : ty 37 = some ⟨.slice 3,1,24,[.slice 1 []]⟩ := rfl
theorem ty_38 : ty 38 = some ⟨.one,1,8,[.nilfunc]⟩ := rfl
theorem ty_39 : ty 39 = some ⟨.struct [(0,3),(1,3)],2,16,[.int .i64 0,.int .i64 0]⟩ := rfl
theorem ty_40 : ty 40 = some ⟨.struct [(0,3),(1,3)],2,16,[.int .i64 0,.int .i64 0]⟩ := rfl
theorem ty_41 : ty 41 = some ⟨.struct [(0,9),(1,3),(2,40),(4,3)],5,48,[.str ByteArray.empty,.int .i64 0,.int .i64 0,.int .i64 0,.int .i64 0]⟩ := rfl
theorem ty_42 : ty 42 = some ⟨.struct [(0,9),(1,3),(2,40),(4,3)],5,48,[.str ByteArray.empty,.int .i64 0,.int .i64 0,.int .i64 0,.int .i64 0]⟩ := rfl
theorem ty_43 : ty 43 = some ⟨.slice 120,1,24,[.slice 2 []]⟩ := rfl
theorem ty_44 : ty 44 = some ⟨.struct [(0,9),(1,3),(2,43),(3,40)],5,64,[.str ByteArray.empty,.int .i64 0,.slice 2 [],.int .i64 0,.int .i64 0]⟩ := rfl
theorem ty_45 : ty 45 = some ⟨.struct [(0,9),(1,3),(2,43),(3,40)],5,64,[.str ByteArray.empty,.int .i64 0,.slice 2 [],.int .i64 0,.int .i64 0]⟩ := rfl
theorem ty_46 : ty 46 = some ⟨.slice 37,1,24,[.slice 1 []]⟩ := rfl
theorem ty_48 : ty 48 = some ⟨.one,1,8,[.nilfunc]⟩ := rfl
theorem ty_49 : ty 49 = some ⟨.slice 40,1,24,[.slice 2 []]⟩ := rfl
theorem ty_51 : ty 51 = some ⟨.one,1,8,[.nilfunc]⟩ := rfl
theorem ty_52 : ty 52 = some ⟨.one,1,8,[.nilfunc]⟩ := rfl
theorem ty_53 : ty 53 = some ⟨.one,1,8,[.nilfunc]⟩ := rfl
theorem ty_54 : ty 54 = some ⟨.one,1,8,[.nilfunc]⟩ := rfl
theorem ty_55 : ty 55 = some ⟨.slice 9,1,24,[.slice 1 []]⟩ := rfl
theorem ty_56 : ty 56 = some ⟨.one,1,8,[.nilfunc]⟩ := rfl
theorem ty_57 : ty 57 = some ⟨.one,1,8,[.nilfunc]⟩ := rfl
theorem ty_58 : ty 58 = some ⟨.one,1,8,[.nilfunc]⟩ := rfl
theorem ty_59 : ty 59 = some ⟨.struct [(0,3),(1,3),(2,3)],3,24,[.int .i64 0,.int .i64 0,.int .i64 0]⟩ := rfl
theorem ty_60 : ty 60 = some ⟨.struct [(0,3),(1,3),(2,3)],3,24,[.int .i64 0,.int .i64 0,.int .i64 0]⟩ := rfl
theorem ty_61 : ty 61 = some ⟨.one,1,8,[.nilfunc]⟩ := rfl
theorem ty_62 : ty 62 = some ⟨.struct [(0,3),(1,3),(2,3),(3,3)],4,32,[.int .i64 0,.int .i64 0,.int .i64 0,.int .i64 0]⟩ := rfl
theorem ty_63 : ty 63 = some ⟨.struct [(0,3),(1,3),(2,3),(3,3)],4,32,[.int .i64 0,.int .i64 0,.int .i64 0,.int .i64 0]⟩ := rfl
theorem ty_64 : ty 64 = some ⟨.struct [(0,9),(1,3),(2,40)],4,40,[.str ByteArray.empty,.int .i64 0,.int .i64 0,.int .i64 0]⟩ := rfl
theorem ty_65 : ty 65 = some ⟨.struct [(0,9),(1,3),(2,40)],4,40,[.str ByteArray.empty,.int .i64 0,.int .i64 0,.int .i64 0]⟩ := rfl
theorem ty_66 : ty 66 = some ⟨.one,1,8,[.nilfunc]⟩ := rfl
theorem ty_67 : ty 67 = some ⟨.one,1,8,[.nilfunc]⟩ := rfl
theorem ty_68 : ty 68 = some ⟨.one,1,8,[.nilfunc]⟩ := rfl
theorem ty_70 : ty 70 = some ⟨.one,1,8,[.nilfunc]⟩ := rfl
theorem ty_72 : ty 72 = some ⟨.one,1,8,[.nilfunc]⟩ := rfl
theorem ty_74 : ty 74 = some ⟨.one,1,8,[.nilfunc]⟩ := rfl
theorem ty_76 : ty 76 = some ⟨.one,1,8,[.nilfunc]⟩ := rfl
theorem ty_77 : ty 77 = some ⟨.one,1,8,[.nilfunc]⟩ := rfl
theorem ty_78 : ty 78 = some ⟨.one,1,8,[.nilfunc]⟩ := rfl
theorem ty_79 : ty 79 = some ⟨.one,1,8,[.nilfunc]⟩ := rfl
theorem ty_80 : ty 80 = some ⟨.one,1,8,[.nilfunc]⟩ := rfl
theorem ty_81 : ty 81 = some ⟨.one,1,8,[.nilfunc]⟩ := rfl
theorem ty_82 : ty 82 = some ⟨.one,1,8,[.nilfunc]⟩ := rfl
theorem ty_83 : ty 83 = some ⟨.one,1,8,[.nilfunc]⟩ := rfl
theorem ty_84 : ty 84 = some ⟨.one,1,8,[.nilfunc]⟩ := rfl
theorem ty_85 : ty 85 = some ⟨.one,1,8,[.nilfunc]⟩ := rfl
theorem ty_86 : ty 86 = some ⟨.one,1,8,[.nilfunc]⟩ := rfl
theorem ty_87 : ty 87 = some ⟨.one,1,8,[.nilptr]⟩ := rfl
theorem ty_89 : ty 89 = some ⟨.one,1,8,[.nilfunc]⟩ := rfl
theorem ty_90 : ty 90 = some ⟨.one,1,8,[.nilfunc]⟩ := rfl
theorem ty_91 : ty 91 = some ⟨.struct [(0,3),(1,3)],2,16,[.int .i64 0,.int .i64 0]⟩ := rfl
theorem ty_92 : ty 92 = some ⟨.struct [(0,3),(1,3)],2,16,[.int .i64 0,.int .i64 0]⟩ := rfl
theorem ty_94 : ty 94 = some ⟨.one,1,8,[.nilfunc]⟩ := rfl
theorem ty_95 : ty 95 = some ⟨.one,1,8,[.nilptr]⟩ := rfl
theorem ty_96 : ty 96 = some ⟨.one,1,8,[.nilfunc]⟩ := rfl
theorem ty_97 : ty 97 = some ⟨.one,1,8,[.nilfunc]⟩ := rfl
theorem ty_98 : ty 98 = some ⟨.array 3 3,3,24,[.int .i64 0,.int .i64 0,.int .i64 0]⟩ := rfl
theorem ty_99 : ty 99 = some ⟨.array 3 3,3,24,[.int .i64 0,.int .i64 0,.int .i64 0]⟩ := rfl
theorem ty_100 : ty 100 = some ⟨.struct [(0,3),(1,3),(2,99)],5,40,[.int .i64 0,.int .i64 0,.int .i64 0,.int .i64 0,.int .i64 0]⟩ := rfl
theorem ty_101 : ty 101 = some ⟨.struct [(0,3),(1,3),(2,99)],5,40,[.int .i64 0,.int .i64 0,.int .i64 0,.int .i64 0,.int .i64 0]⟩ := rfl
theorem ty_102 : ty 102 = some ⟨.one,1,8,[.nilfunc]⟩ := rfl
theorem ty_103 : ty 103 = some ⟨.one,1,8,[.nilfunc]⟩ := rfl
theorem ty_104 : ty 104 = some ⟨.map 101 3,1,8,[.nilmap]⟩ := rfl
theorem ty_105 : ty 105 = some ⟨.struct [(0,30),(3,3),(4,3),(5,104)],6,80,[.int .i64 0,.slice 4 [],.slice 5 [],.int .i64 0,.int .i64 0,.nilmap]⟩ := rfl
theorem ty_106 : ty 106 = some ⟨.struct [(0,30),(3,3),(4,3),(5,104)],6,80,[.int .i64 0,.slice 4 [],.slice 5 [],.int .i64 0,.int .i64 0,.nilmap]⟩ := rfl
theorem ty_107 : ty 107 = some ⟨.one,1,8,[.nilfunc]⟩ := rfl
theorem ty_108 : ty 108 = some ⟨.one,1,8,[.nilfunc]⟩ := rfl
theorem ty_109 : ty 109 = some ⟨.one,1,8,[.nilfunc]⟩ := rfl
theorem ty_111 : ty 111 = some ⟨.one,1,8,[.nilfunc]⟩ := rfl
theorem ty_112 : ty 112 = some ⟨.one,1,8,[.nilfunc]⟩ := rfl
theorem ty_113 : ty 113 = some ⟨.one,1,8,[.nilfunc]⟩ := rfl
theorem ty_114 : ty 114 = some ⟨.one,1,8,[.nilfunc]⟩ := rfl
theorem ty_115 : ty 115 = some ⟨.one,1,8,[.nilfunc]⟩ := rfl
theorem ty_116 : ty 116 = some ⟨.one,1,8,[.nilfunc]⟩ := rfl
theorem ty_117 : ty 117 = some ⟨.one,1,8,[.nilfunc]⟩ := rfl
theorem ty_118 : ty 118 = some ⟨.one,1,8,[.nilfunc]⟩ := rfl
theorem ty_119 : ty 119 = some ⟨.struct [(0,3),(1,3)],2,16,[.int .i64 0,.int .i64 0]⟩ := rfl
theorem ty_120 : ty 120 = some ⟨.struct [(0,3),(1,3)],2,16,[.int .i64 0,.int .i64 0]⟩ := rfl
theorem ty_121 : ty 121 = some ⟨.one,1,8,[.nilfunc]⟩ := rfl
theorem ty_122 : ty 122 = some ⟨.one,1,8,[.nilfunc]⟩ := rfl
theorem ty_123 : ty 123 = some ⟨.one,1,8,[.nilfunc]⟩ := rfl
theorem ty_124 : ty 124 = some ⟨.one,1,8,[.nilfunc]⟩ := rfl
theorem ty_125 : ty 125 = some ⟨.one,1,8,[.nilfunc]⟩ := rfl
theorem ty_126 : ty 126 = some ⟨.struct [(0,3),(1,3)],2,16,[.int .i64 0,.int .i64 0]⟩ := rfl
theorem ty_127 : ty 127 = some ⟨.struct [(0,3),(1,3)],2,16,[.int .i64 0,.int .i64 0]⟩ := rfl
theorem ty_128 : ty 128 = some ⟨.array 3 127,6,48,[.int .i64 0,.int .i64 0,.int .i64 0,.int .i64 0,.int .i64 0,.int .i64 0]⟩ := rfl
theorem ty_129 : ty 129 = some ⟨.array 3 127,6,48,[.int .i64 0,.int .i64 0,.int .i64 0,.int .i64 0,.int .i64 0,.int .i64 0]⟩ := rfl
theorem ty_131 : ty 131 = some ⟨.one,1,8,[.nilfunc]⟩ := rfl
theorem ty_132 : ty 132 = some ⟨.one,1,8,[.nilfunc]⟩ := rfl
theorem ty_133 : ty 133 = some ⟨.array 4 3,4,32,[.int .i64 0,.int .i64 0,.int .i64 0,.int .i64 0]⟩ := rfl
theorem ty_134 : ty 134 = some ⟨.array 4 3,4,32,[.int .i64 0,.int .i64 0,.int .i64 0,.int .i64 0]⟩ := rfl
theorem ty_135 : ty 135 = some ⟨.one,1,8,[.nilfunc]⟩ := rfl
theorem ty_136 : ty 136 = some ⟨.one,1,8,[.nilfunc]⟩ := rfl
theorem ty_137 : ty 137 = some ⟨.one,1,8,[.nilfunc]⟩ := rfl
theorem ty_138 : ty 138 = some ⟨.one,1,8,[.nilfunc]⟩ := rfl
theorem ty_140 : ty 140 = some ⟨.one,1,8,[.nilfunc]⟩ := rfl
theorem ty_141 : ty 141 = some ⟨.one,1,8,[.nilfunc]⟩ := rfl
theorem ty_142 : ty 142 = some ⟨.one,1,8,[.nilfunc]⟩ := rfl
theorem ty_143 : ty 143 = some ⟨.one,1,8,[.nilfunc]⟩ := rfl
theorem ty_144 : ty 144 = some ⟨.one,1,8,[.nilptr]⟩ := rfl
theorem ty_145 : ty 145 = some ⟨.one,1,8,[.nilfunc]⟩ := rfl
theorem ty_146 : ty 146 = some ⟨.one,1,8,[.nilfunc]⟩ := rfl
theorem ty_147 : ty 147 = some ⟨.one,1,8,[.nilfunc]⟩ := rfl
theorem ty_148 : ty 148 = some ⟨.one,1,8,[.nilfunc]⟩ := rfl
theorem ty_149 : ty 149 = some ⟨.one,1,8,[.nilfunc]⟩ := rfl
theorem ty_150 : ty 150 = some ⟨.one,1,8,[.nilfunc]⟩ := rfl
theorem ty_151 : ty 151 = some ⟨.one,1,8,[.nilfunc]⟩ := rfl
theorem ty_152 : ty 152 = some ⟨.one,1,8,[.nilfunc]⟩ := rfl
theorem ty_154 : ty 154 = some ⟨.one,1,8,[.nilfunc]⟩ := rfl
theorem ty_155 : ty 155 = some ⟨.slice 159,1,24,[.slice 2 []]⟩ := rfl
theorem ty_156 : ty 156 = some ⟨.one,1,8,[.nilfunc]⟩ := rfl
theorem ty_157 : ty 157 = some ⟨.one,1,8,[.nilfunc]⟩ := rfl
theorem ty_158 : ty 158 = some ⟨.struct [(0,32),(1,157)],2,16,[.int .i64 0,.nilfunc]⟩ := rfl
theorem ty_159 : ty 159 = some ⟨.struct [(0,32),(1,157)],2,16,[.int .i64 0,.nilfunc]⟩ := rfl
theorem ty_160 : ty 160 = some ⟨.one,1,8,[.nilfunc]⟩ := rfl
theorem ty_161 : ty 161 = some ⟨.one,1,8,[.nilfunc]⟩ := rfl
theorem ty_162 : ty 162 = some ⟨.struct [(0,141)],1,8,[.nilfunc]⟩ := rfl
theorem ty_163 : ty 163 = some ⟨.struct [(0,141)],1,8,[.nilfunc]⟩ := rfl
theorem ty_164 : ty 164 = some ⟨.array 4 163,4,32,[.nilfunc,.nilfunc,.nilfunc,.nilfunc]⟩ := rfl
theorem ty_165 : ty 165 = some ⟨.map 129 134,1,8,[.nilmap]⟩ := rfl
theorem ty_166 : ty 166 = some ⟨.struct [(0,26),(5,164),(9,3),(10,165)],11,136,[.int .i64 0,.int .i64 0,.slice 5 [],.slice 3 [],.slice 4 [],.nilfunc,.nilfunc,.nilfunc,.nilfunc,.int .i64 0,.nilmap]⟩ := rfl
theorem ty_167 : ty 167 = some ⟨.struct [(0,26),(5,164),(9,3),(10,165)],11,136,[.int .i64 0,.int .i64 0,.slice 5 [],.slice 3 [],.slice 4 [],.nilfunc,.nilfunc,.nilfunc,.nilfunc,.int .i64 0,.nilmap]⟩ := rfl
theorem ty_169 : ty 169 = some ⟨.one,1,8,[.nilfunc]⟩ := rfl
theorem ty_170 : ty 170 = some ⟨.one,1,8,[.nilptr]⟩ := rfl
theorem ty_171 : ty 171 = some ⟨.one,1,8,[.nilfunc]⟩ := rfl
theorem ty_172 : ty 172 = some ⟨.one,1,8,[.nilfunc]⟩ := rfl
theorem ty_173 : ty 173 = some ⟨.one,1,8,[.nilfunc]⟩ := rfl
theorem ty_174 : ty 174 = some ⟨.one,1,8,[.nilfunc]⟩ := rfl
theorem ty_175 : ty 175 = some ⟨.one,1,8,[.nilfunc]⟩ := rfl
theorem ty_176 : ty 176 = some ⟨.one,1,8,[.nilfunc]⟩ := rfl
theorem ty_177 : ty 177 = some ⟨.one,1,8,[.nilfunc]⟩ := rfl
theorem ty_178 : ty 178 = some ⟨.one,1,8,[.nilfunc]⟩ := rfl
theorem ty_179 : ty 179 = some ⟨.one,1,8,[.nilfunc]⟩ := rfl
theorem ty_180 : ty 180 = some ⟨.one,1,8,[.nilfunc]⟩ := rfl
theorem ty_181 : ty 181 = some ⟨.one,1,8,[.nilfunc]⟩ := rfl
theorem ty_182 : ty 182 = some ⟨.one,1,8,[.nilfunc]⟩ := rfl
theorem ty_183 : ty 183 = some ⟨.one,1,8,[.nilfunc]⟩ := rfl
theorem ty_184 : ty 184 = some ⟨.one,1,8,[.nilfunc]⟩ := rfl
theorem ty_185 : ty 185 = some ⟨.one,1,8,[.nilfunc]⟩ := rfl
theorem ty_186 : ty 186 = some ⟨.one,1,8,[.nilfunc]⟩ := rfl
theorem ty_187 : ty 187 = some ⟨.one,1,8,[.nilfunc]⟩ := rfl
theorem ty_188 : ty 188 = some ⟨.one,1,8,[.nilfunc]⟩ := rfl
theorem ty_189 : ty 189 = some ⟨.one,1,8,[.nilfunc]⟩ := rfl
theorem ty_190 : ty 190 = some ⟨.one,1,8,[.nilfunc]⟩ := rfl
theorem ty_191 : ty 191 = some ⟨.one,1,8,[.nilfunc]⟩ := rfl
theorem ty_192 : ty 192 = some ⟨.one,1,8,[.nilfunc]⟩ := rfl
theorem ty_193 : ty 193 = some ⟨.one,1,8,[.nilfunc]⟩ := rfl
theorem ty_194 : ty 194 = some ⟨.one,1,8,[.nilfunc]⟩ := rfl
theorem ty_195 : ty 195 = some ⟨.struct [(0,17),(1,17),(2,17),(3,9)],4,40,[.nilptr,.nilptr,.nilptr,.str ByteArray.empty]⟩ := rfl
theorem ty_200 : ty 200 = some ⟨.int .u32,1,4,[.int .u32 0]⟩ := rfl
theorem ty_203 : ty 203 = some ⟨.one,1,8,[.nilfunc]⟩ := rfl
theorem ty_204 : ty 204 = some ⟨.one,1,8,[.nilptr]⟩ := rfl
theorem tyok_1 : TyOk Tryz.prog 1 ⟨.one,1,8,[.nilfunc]⟩ := tyOk_func (by kernel_rfl : Tryz.prog.info? 1 = some Tryz.t1) rfl rfl Tryz.underlying1 rfl
theorem tyok_2 : TyOk Tryz.prog 2 ⟨.int .i64,1,8,[.int .i64 0]⟩ := tyOk_int (by kernel_rfl : Tryz.prog.info? 2 = some Tryz.t2) rfl rfl Tryz.underlying2 rfl
theorem tyok_3 : TyOk Tryz.prog 3 ⟨.int .i64,1,8,[.int .i64 0]⟩ := tyOk_int (by kernel_rfl : Tryz.prog.info? 3 = some Tryz.t3) rfl rfl Tryz.underlying3 rfl
theorem tyok_4 : TyOk Tryz.prog 4 ⟨.bool,1,1,[.bool false]⟩ := tyOk_bool (by kernel_rfl : Tryz.prog.info? 4 = some Tryz.t4) rfl rfl Tryz.underlying4 rfl
theorem tyok_5 : TyOk Tryz.prog 5 ⟨.int .u8,1,1,[.int .u8 0]⟩ := tyOk_int (by kernel_rfl : Tryz.prog.info? 5 = some Tryz.t5) rfl rfl Tryz.underlying5 rfl
theorem tyok_9 : TyOk Tryz.prog 9 ⟨.string,1,16,[.str ByteArray.empty]⟩ := tyOk_string (by kernel_rfl : Tryz.prog.info? 9 = some Tryz.t9) rfl rfl Tryz.underlying9 rfl
theorem tyok_12 : TyOk Tryz.prog 12 ⟨.int .u64,1,8,[.int .u64 0]⟩ := tyOk_int (by kernel_rfl : Tryz.prog.info? 12 = some Tryz.t12) rfl rfl Tryz.underlying12 rfl
theorem tyok_13 : TyOk Tryz.prog 13 ⟨.struct [(0,9),(1,12)],2,24,[.str ByteArray.empty,.int .u64 0]⟩ := tyOk_struct (by kernel_rfl : Tryz.prog.info? 13 = some Tryz.t13) rfl Tryz.underlying13 rfl rfl rfl (fun _ _ => .cons (.str _) (.cons (.int _ _) (.nil))) rfl rfl (by kernel_rfl)
theorem tyok_15 : TyOk Tryz.prog 15 ⟨.one,1,8,[.nilptr]⟩ := tyOk_ptr (by kernel_rfl : Tryz.prog.info? 15 = some Tryz.t15) rfl rfl Tryz.underlying15 rfl
theorem tyok_16 : TyOk Tryz.prog 16 ⟨.one,1,8,[.nilptr]⟩ := tyOk_ptr (by kernel_rfl : Tryz.prog.info? 16 = some Tryz.t16) rfl rfl Tryz.underlying16 rfl
theorem tyok_17 : TyOk Tryz.prog 17 ⟨.one,1,8,[.nilptr]⟩ := tyOk_ptr (by kernel_rfl : Tryz.prog.info? 17 = some Tryz.t17) rfl rfl Tryz.underlying17 rfl
theorem tyok_18 : TyOk Tryz.prog 18 ⟨.struct [(0,17)],1,8,[.nilptr]⟩ := tyOk_struct (by kernel_rfl : Tryz.prog.info? 18 = some Tryz.t18) rfl Tryz.underlying18 rfl rfl rfl (fun _ _ => .cons (.nilptr) (.nil)) rfl rfl (by kernel_rfl)
theorem tyok_21 : TyOk Tryz.prog 21 ⟨.int .i32,1,4,[.int .i32 0]⟩ := tyOk_int (by kernel_rfl : Tryz.prog.info? 21 = some Tryz.t21) rfl rfl Tryz.underlying21 rfl
theorem tyok_22 : TyOk Tryz.prog 22 ⟨.slice 45,1,24,[.slice 5 []]⟩ := tyOk_slice (by kernel_rfl : Tryz.prog.info? 22 = some Tryz.t22) rfl rfl Tryz.underlying22 rfl
theorem tyok_23 : TyOk Tryz.prog 23 ⟨.slice 60,1,24,[.slice 3 []]⟩ := tyOk_slice (by kernel_rfl : Tryz.prog.info? 23 = some Tryz.t23) rfl rfl Tryz.underlying23 rfl
theorem tyok_24 : TyOk Tryz.prog 24 ⟨.slice 63,1,24,[.slice 4 []]⟩ := tyOk_slice (by kernel_rfl : Tryz.prog.info? 24 = some Tryz.t24) rfl rfl Tryz.underlying24 rfl
theorem tyok_25 : TyOk Tryz.prog 25 ⟨.struct [(0,3),(1,3),(2,22),(3,23),(4,24)],5,88,[.int .i64 0,.int .i64 0,.slice 5 [],.slice 3 [],.slice 4 []]⟩ := tyOk_struct (by kernel_rfl : Tryz.prog.info? 25 = some Tryz.t25) rfl Tryz.underlying25 rfl rfl rfl (fun _ _ => .cons (.int _ _) (.cons (.int _ _) (.cons (.nilslice _) (.cons (.nilslice _) (.cons (.nilslice _) (.nil)))))) rfl rfl (by kernel_rfl)
theorem tyok_26 : TyOk Tryz.prog 26 ⟨.struct [(0,3),(1,3),(2,22),(3,23),(4,24)],5,88,[.int .i64 0,.int .i64 0,.slice 5 [],.slice 3 [],.slice 4 []]⟩ := tyOk_struct (by kernel_rfl : Tryz.prog.info? 26 = some Tryz.t26) rfl Tryz.underlying26 rfl rfl rfl (fun _ _ => .cons (.int _ _) (.cons (.int _ _) (.cons (.nilslice _) (.cons (.nilslice _) (.cons (.nilslice _) (.nil)))))) rfl rfl (by kernel_rfl)
theorem tyok_27 : TyOk Tryz.prog 27 ⟨.slice 65,1,24,[.slice 4 []]⟩ := tyOk_slice (by kernel_rfl : Tryz.prog.info? 27 = some Tryz.t27) rfl rfl Tryz.underlying27 rfl
theorem tyok_28 : TyOk Tryz.prog 28 ⟨.slice 42,1,24,[.slice 5 []]⟩ := tyOk_slice (by kernel_rfl : Tryz.prog.info? 28 = some Tryz.t28) rfl rfl Tryz.underlying28 rfl
theorem tyok_29 : TyOk Tryz.prog 29 ⟨.struct [(0,3),(1,27),(2,28)],3,56,[.int .i64 0,.slice 4 [],.slice 5 []]⟩ := tyOk_struct (by kernel_rfl : Tryz.prog.info? 29 = some Tryz.t29) rfl Tryz.underlying29 rfl rfl rfl (fun _ _ => .cons (.int _ _) (.cons (.nilslice _) (.cons (.nilslice _) (.nil)))) rfl rfl (by kernel_rfl)
theorem tyok_30 : TyOk Tryz.prog 30 ⟨.struct [(0,3),(1,27),(2,28)],3,56,[.int .i64 0,.slice 4 [],.slice 5 []]⟩ := tyOk_struct (by kernel_rfl : Tryz.prog.info? 30 = some Tryz.t30) rfl Tryz.underlying30 rfl rfl rfl (fun _ _ => .cons (.int _ _) (.cons (.nilslice _) (.cons (.nilslice _) (.nil)))) rfl rfl (by kernel_rfl)
theorem tyok_31 : TyOk Tryz.prog 31 ⟨.slice 5,1,24,[.slice 1 []]⟩ := tyOk_slice (by kernel_rfl : Tryz.prog.info? 31 = some Tryz.t31) rfl rfl Tryz.underlying31 rfl
theorem tyok_32 : TyOk Tryz.prog 32 ⟨.int .i64,1,8,[.int .i64 0]⟩ := tyOk_int (by kernel_rfl : Tryz.prog.info? 32 = some Tryz.t32) rfl rfl Tryz.underlying32 rfl
theorem tyok_34 : TyOk Tryz.prog 34 ⟨.one,1,8,[.nilfunc]⟩ := tyOk_func (by kernel_rfl : Tryz.prog.info? 34 = some Tryz.t34) rfl rfl Tryz.underlying34 rfl
theorem tyok_35 : TyOk Tryz.prog 35 ⟨.one,1,8,[.nilfunc]⟩ := tyOk_func (by kernel_rfl : Tryz.prog.info? 35 = some Tryz.t35) rfl rfl Tryz.underlying35 rfl
theorem tyok_36 : TyOk Tryz.prog 36 ⟨.one,1,8,[.nilfunc]⟩ := tyOk_func (by kernel_rfl : Tryz.prog.info? 36 = some Tryz.t36) rfl rfl Tryz.underlying36 rfl
theorem tyok_37 : TyOk Tryz.prog 37 ⟨.slice 3,1,24,[.slice 1 []]⟩ := tyOk_slice (by kernel_rfl : Tryz.prog.info? 37 = some Tryz.t37) rfl rfl Tryz.underlying37 rfl
theorem tyok_38 : TyOk Tryz.prog 38 ⟨.one,1,8,[.nilfunc]⟩ := tyOk_func (by kernel_rfl : Tryz.prog.info? 38 = some Tryz.t38) rfl rfl Tryz.underlying38 rfl
theorem tyok_39 : TyOk Tryz.prog 39 ⟨.struct [(0,3),(1,3)],2,16,[.int .i64 0,.int .i64 0]⟩ := tyOk_struct (by kernel_rfl : Tryz.prog.info? 39 = some Tryz.t39) rfl Tryz.underlying39 rfl rfl rfl (fun _ _ => .cons (.int _ _) (.cons (.int _ _) (.nil))) rfl rfl (by kernel_rfl)
theorem tyok_40 : TyOk Tryz.prog 40 ⟨.struct [(0,3),(1,3)],2,16,[.int .i64 0,.int .i64 0]⟩ := tyOk_struct (by kernel_rfl : Tryz.prog.info? 40 = some Tryz.t40) rfl Tryz.underlying40 rfl rfl rfl (fun _ _ => .cons (.int _ _) (.cons (.int _ _) (.nil))) rfl rfl (by kernel_rfl)
theorem tyok_41 : TyOk Tryz.prog 41 ⟨.struct [(0,9),(1,3),(2,40),(4,3)],5,48,[.str ByteArray.empty,.int .i64 0,.int .i64 0,.int .i64 0,.int .i64 0]⟩ := tyOk_struct (by kernel_rfl : Tryz.prog.info? 41 = some Tryz.t41) rfl Tryz.underlying41 rfl rfl rfl (fun _ _ => .cons (.str _) (.cons (.int _ _) (.cons (.int _ _) (.cons (.int _ _) (.cons (.int _ _) (.nil)))))) rfl rfl (by kernel_rfl)
theorem tyok_42 : TyOk Tryz.prog 42 ⟨.struct [(0,9),(1,3),(2,40),(4,3)],5,48,[.str ByteArray.empty,.int .i64 0,.int .i64 0,.int .i64 0,.int .i64 0]⟩ := tyOk_struct (by kernel_rfl : Tryz.prog.info? 42 = some Tryz.t42) rfl Tryz.underlying42 rfl rfl rfl (fun _ _ => .cons (.str _) (.cons (.int _ _) (.cons (.int _ _) (.cons (.int _ _) (.cons (.int _ _) (.nil)))))) rfl rfl (by kernel_rfl)
theorem tyok_43 : TyOk Tryz.prog 43 ⟨.slice 120,1,24,[.slice 2 []]⟩ := tyOk_slice (by kernel_rfl : Tryz.prog.info? 43 = some Tryz.t43) rfl rfl Tryz.underlying43 rfl
theorem tyok_44 : TyOk Tryz.prog 44 ⟨.struct [(0,9),(1,3),(2,43),(3,40)],5,64,[.str ByteArray.empty,.int .i64 0,.slice 2 [],.int .i64 0,.int .i64 0]⟩ := tyOk_struct (by kernel_rfl : Tryz.prog.info? 44 = some Tryz.t44) rfl Tryz.underlying44 rfl rfl rfl (fun _ _ => .cons (.str _) (.cons (.int _ _) (.cons (.nilslice _) (.cons (.int _ _) (.cons (.int _ _) (.nil)))))) rfl rfl (by kernel_rfl)
theorem tyok_45 : TyOk Tryz.prog 45 ⟨.struct [(0,9),(1,3),(2,43),(3,40)],5,64,[.str ByteArray.empty,.int .i64 0,.slice 2 [],.int .i64 0,.int .i64 0]⟩ := tyOk_struct (by kernel_rfl : Tryz.prog.info? 45 = some Tryz.t45) rfl Tryz.underlying45 rfl rfl rfl (fun _ _ => .cons (.str _) (.cons (.int _ _) (.cons (.nilslice _) (.cons (.int _ _) (.cons (.int _ _) (.nil)))))) rfl rfl (by kernel_rfl)
theorem tyok_46 : TyOk Tryz.prog 46 ⟨.slice 37,1,24,[.slice 1 []]⟩ := tyOk_slice (by kernel_rfl : Tryz.prog.info? 46 = some Tryz.t46) rfl rfl Tryz.underlying46 rfl
theorem tyok_48 : TyOk Tryz.prog 48 ⟨.one,1,8,[.nilfunc]⟩ := tyOk_func (by kernel_rfl : Tryz.prog.info? 48 = some Tryz.t48) rfl rfl Tryz.underlying48 rfl
theorem tyok_49 : TyOk Tryz.prog 49 ⟨.slice 40,1,24,[.slice 2 []]⟩ := tyOk_slice (by kernel_rfl : Tryz.prog.info? 49 = some Tryz.t49) rfl rfl Tryz.underlying49 rfl
theorem tyok_51 : TyOk Tryz.prog 51 ⟨.one,1,8,[.nilfunc]⟩ := tyOk_func (by kernel_rfl : Tryz.prog.info? 51 = some Tryz.t51) rfl rfl Tryz.underlying51 rfl
theorem tyok_52 : TyOk Tryz.prog 52 ⟨.one,1,8,[.nilfunc]⟩ := tyOk_func (by kernel_rfl : Tryz.prog.info? 52 = some Tryz.t52) rfl rfl Tryz.underlying52 rfl
theorem tyok_53 : TyOk Tryz.prog 53 ⟨.one,1,8,[.nilfunc]⟩ := tyOk_func (by kernel_rfl : Tryz.prog.info? 53 = some Tryz.t53) rfl rfl Tryz.underlying53 rfl
theorem tyok_54 : TyOk Tryz.prog 54 ⟨.one,1,8,[.nilfunc]⟩ := tyOk_func (by kernel_rfl : Tryz.prog.info? 54 = some Tryz.t54) rfl rfl Tryz.underlying54 rfl
theorem tyok_55 : TyOk Tryz.prog 55 ⟨.slice 9,1,24,[.slice 1 []]⟩ := tyOk_slice (by kernel_rfl : Tryz.prog.info? 55 = some Tryz.t55) rfl rfl Tryz.underlying55 rfl
theorem tyok_56 : TyOk Tryz.prog 56 ⟨.one,1,8,[.nilfunc]⟩ := tyOk_func (by kernel_rfl : Tryz.prog.info? 56 = some Tryz.t56) rfl rfl Tryz.underlying56 rfl
theorem tyok_57 : TyOk Tryz.prog 57 ⟨.one,1,8,[.nilfunc]⟩ := tyOk_func (by kernel_rfl : Tryz.prog.info? 57 = some Tryz.t57) rfl rfl Tryz.underlying57 rfl
theorem tyok_58 : TyOk Tryz.prog 58 ⟨.one,1,8,[.nilfunc]⟩ := tyOk_func (by kernel_rfl : Tryz.prog.info? 58 = some Tryz.t58) rfl rfl Tryz.underlying58 rfl
theorem tyok_59 : TyOk Tryz.prog 59 ⟨.struct [(0,3),(1,3),(2,3)],3,24,[.int .i64 0,.int .i64 0,.int .i64 0]⟩ := tyOk_struct (by kernel_rfl : Tryz.prog.info? 59 = some Tryz.t59) rfl Tryz.underlying59 rfl rfl rfl (fun _ _ => .cons (.int _ _) (.cons (.int _ _) (.cons (.int _ _) (.nil)))) rfl rfl (by kernel_rfl)
theorem tyok_60 : TyOk Tryz.prog 60 ⟨.struct [(0,3),(1,3),(2,3)],3,24,[.int .i64 0,.int .i64 0,.int .i64 0]⟩ := tyOk_struct (by kernel_rfl : Tryz.prog.info? 60 = some Tryz.t60) rfl Tryz.underlying60 rfl rfl rfl (fun _ _ => .cons (.int _ _) (.cons (.int _ _) (.cons (.int _ _) (.nil)))) rfl rfl (by kernel_rfl)
theorem tyok_61 : TyOk Tryz.prog 61 ⟨.one,1,8,[.nilfunc]⟩ := tyOk_func (by kernel_rfl : Tryz.prog.info? 61 = some Tryz.t61) rfl rfl Tryz.underlying61 rfl
theorem tyok_62 : TyOk Tryz.prog 62 ⟨.struct [(0,3),(1,3),(2,3),(3,3)],4,32,[.int .i64 0,.int .i64 0,.int .i64 0,.int .i64 0]⟩ := tyOk_struct (by kernel_rfl : Tryz.prog.info? 62 = some Tryz.t62) rfl Tryz.underlying62 rfl rfl rfl (fun _ _ => .cons (.int _ _) (.cons (.int _ _) (.cons (.int _ _) (.cons (.int _ _) (.nil))))) rfl rfl (by kernel_rfl)
theorem tyok_63 : TyOk Tryz.prog 63 ⟨.struct [(0,3),(1,3),(2,3),(3,3)],4,32,[.int .i64 0,.int .i64 0,.int .i64 0,.int .i64 0]⟩ := tyOk_struct (by kernel_rfl : Tryz.prog.info? 63 = some Tryz.t63) rfl Tryz.underlying63 rfl rfl rfl (fun _ _ => .cons (.int _ _) (.cons (.int _ _) (.cons (.int _ _) (.cons (.int _ _) (.nil))))) rfl rfl (by kernel_rfl)
theorem tyok_64 : TyOk Tryz.prog 64 ⟨.struct [(0,9),(1,3),(2,40)],4,40,[.str ByteArray.empty,.int .i64 0,.int .i64 0,.int .i64 0]⟩ := tyOk_struct (by kernel_rfl : Tryz.prog.info? 64 = some Tryz.t64) rfl Tryz.underlying64 rfl rfl rfl (fun _ _ => .cons (.str _) (.cons (.int _ _) (.cons (.int _ _) (.cons (.int _ _) (.nil))))) rfl rfl (by kernel_rfl)
theorem tyok_65 : TyOk Tryz.prog 65 ⟨.struct [(0,9),(1,3),(2,40)],4,40,[.str ByteArray.empty,.int .i64 0,.int .i64 0,.int .i64 0]⟩ := tyOk_struct (by kernel_rfl : Tryz.prog.info? 65 = some Tryz.t65) rfl Tryz.underlying65 rfl rfl rfl (fun _ _ => .cons (.str _) (.cons (.int _ _) (.cons (.int _ _) (.cons (.int _ _) (.nil))))) rfl rfl (by kernel_rfl)
theorem tyok_66 : TyOk Tryz.prog 66 ⟨.one,1,8,[.nilfunc]⟩ := tyOk_func (by kernel_rfl : Tryz.prog.info? 66 = some Tryz.t66) rfl rfl Tryz.underlying66 rfl
theorem tyok_67 : TyOk Tryz.prog 67 ⟨.one,1,8,[.nilfunc]⟩ := tyOk_func (by kernel_rfl : Tryz.prog.info? 67 = some Tryz.t67) rfl rfl Tryz.underlying67 rfl
theorem tyok_68 : TyOk Tryz.prog 68 ⟨.one,1,8,[.nilfunc]⟩ := tyOk_func (by kernel_rfl : Tryz.prog.info? 68 = some Tryz.t68) rfl rfl Tryz.underlying68 rfl
theorem tyok_70 : TyOk Tryz.prog 70 ⟨.one,1,8,[.nilfunc]⟩ := tyOk_func (by kernel_rfl : Tryz.prog.info? 70 = some Tryz.t70) rfl rfl Tryz.underlying70 rfl
theorem tyok_72 : TyOk Tryz.prog 72 ⟨.one,1,8,[.nilfunc]⟩ := tyOk_func (by kernel_rfl : Tryz.prog.info? 72 = some Tryz.t72) rfl rfl Tryz.underlying72 rfl
theorem tyok_74 : TyOk Tryz.prog 74 ⟨.one,1,8,[.nilfunc]⟩ := tyOk_func (by kernel_rfl : Tryz.prog.info? 74 = some Tryz.t74) rfl rfl Tryz.underlying74 rfl
theorem tyok_76 : TyOk Tryz.prog 76 ⟨.one,1,8,[.nilfunc]⟩ := tyOk_func (by kernel_rfl : Tryz.prog.info? 76 = some Tryz.t76) rfl rfl Tryz.underlying76 rfl
theorem tyok_77 : TyOk Tryz.prog 77 ⟨.one,1,8,[.nilfunc]⟩ := tyOk_func (by kernel_rfl : Tryz.prog.info? 77 = some Tryz.t77) rfl rfl Tryz.underlying77 rfl
theorem tyok_78 : TyOk Tryz.prog 78 ⟨.one,1,8,[.nilfunc]⟩ := tyOk_func (by kernel_rfl : Tryz.prog.info? 78 = some Tryz.t78) rfl rfl Tryz.underlying78 rfl
theorem tyok_79 : TyOk Tryz.prog 79 ⟨.one,1,8,[.nilfunc]⟩ := tyOk_func (by kernel_rfl : Tryz.prog.info? 79 = some Tryz.t79) rfl rfl Tryz.underlying79 rfl
theorem tyok_80 : TyOk Tryz.prog 80 ⟨.one,1,8,[.nilfunc]⟩ := tyOk_func (by kernel_rfl : Tryz.prog.info? 80 = some Tryz.t80) rfl rfl Tryz.underlying80 rfl
theorem tyok_81 : TyOk Tryz.prog 81 ⟨.one,1,8,[.nilfunc]⟩ := tyOk_func (by kernel_rfl : Tryz.prog.info? 81 = some Tryz.t81) rfl rfl Tryz.underlying81 rfl
theorem tyok_82 : TyOk Tryz.prog 82 ⟨.one,1,8,[.nilfunc]⟩ := tyOk_func (by kernel_rfl : Tryz.prog.info? 82 = some Tryz.t82) rfl rfl Tryz.underlying82 rfl
theorem tyok_83 : TyOk Tryz.prog 83 ⟨.one,1,8,[.nilfunc]⟩ := tyOk_func (by kernel_rfl : Tryz.prog.info? 83 = some Tryz.t83) rfl rfl Tryz.underlying83 rfl
theorem tyok_84 : TyOk Tryz.prog 84 ⟨.one,1,8,[.nilfunc]⟩ := tyOk_func (by kernel_rfl : Tryz.prog.info? 84 = some Tryz.t84) rfl rfl Tryz.underlying84 rfl
theorem tyok_85 : TyOk Tryz.prog 85 ⟨.one,1,8,[.nilfunc]⟩ := tyOk_func (by kernel_rfl : Tryz.prog.info? 85 = some Tryz.t85) rfl rfl Tryz.underlying85 rfl
theorem tyok_86 : TyOk Tryz.prog 86 ⟨.one,1,8,[.nilfunc]⟩ := tyOk_func (by kernel_rfl : Tryz.prog.info? 86 = some Tryz.t86) rfl rfl Tryz.underlying86 rfl
theorem tyok_87 : TyOk Tryz.prog 87 ⟨.one,1,8,[.nilptr]⟩ := tyOk_ptr (by kernel_rfl : Tryz.prog.info? 87 = some Tryz.t87) rfl rfl Tryz.underlying87 rfl
theorem tyok_89 : TyOk Tryz.prog 89 ⟨.one,1,8,[.nilfunc]⟩ := tyOk_func (by kernel_rfl : Tryz.prog.info? 89 = some Tryz.t89) rfl rfl Tryz.underlying89 rfl
theorem tyok_90 : TyOk Tryz.prog 90 ⟨.one,1,8,[.nilfunc]⟩ := tyOk_func (by kernel_rfl : Tryz.prog.info? 90 = some Tryz.t90) rfl rfl Tryz.underlying90 rfl
theorem tyok_91 : TyOk Tryz.prog 91 ⟨.struct [(0,3),(1,3)],2,16,[.int .i64 0,.int .i64 0]⟩ := tyOk_struct (by kernel_rfl : Tryz.prog.info? 91 = some Tryz.t91) rfl Tryz.underlying91 rfl rfl rfl (fun _ _ => .cons (.int _ _) (.cons (.int _ _) (.nil))) rfl rfl (by kernel_rfl)
theorem tyok_92 : TyOk Tryz.prog 92 ⟨.struct [(0,3),(1,3)],2,16,[.int .i64 0,.int .i64 0]⟩ := tyOk_struct (by kernel_rfl : Tryz.prog.info? 92 = some Tryz.t92) rfl Tryz.underlying92 rfl rfl rfl (fun _ _ => .cons (.int _ _) (.cons (.int _ _) (.nil))) rfl rfl (by kernel_rfl)
theorem tyok_94 : TyOk Tryz.prog 94 ⟨.one,1,8,[.nilfunc]⟩ := tyOk_func (by kernel_rfl : Tryz.prog.info? 94 = some Tryz.t94) rfl rfl Tryz.underlying94 rfl
theorem tyok_95 : TyOk Tryz.prog 95 ⟨.one,1,8,[.nilptr]⟩ := tyOk_ptr (by kernel_rfl : Tryz.prog.info? 95 = some Tryz.t95) rfl rfl Tryz.underlying95 rfl
theorem tyok_96 : TyOk Tryz.prog 96 ⟨.one,1,8,[.nilfunc]⟩ := tyOk_func (by kernel_rfl : Tryz.prog.info? 96 = some Tryz.t96) rfl rfl Tryz.underlying96 rfl
theorem tyok_97 : TyOk Tryz.prog 97 ⟨.one,1,8,[.nilfunc]⟩ := tyOk_func (by kernel_rfl : Tryz.prog.info? 97 = some Tryz.t97) rfl rfl Tryz.underlying97 rfl
theorem tyok_98 : TyOk Tryz.prog 98 ⟨.array 3 3,3,24,[.int .i64 0,.int .i64 0,.int .i64 0]⟩ := tyOk_array (by kernel_rfl : Tryz.prog.info? 98 = some Tryz.t98) rfl Tryz.underlying98 rfl rfl (fun _ _ => .cons (.int _ _) (.cons (.int _ _) (.cons (.int _ _) (.nil)))) rfl rfl
theorem tyok_99 : TyOk Tryz.prog 99 ⟨.array 3 3,3,24,[.int .i64 0,.int .i64 0,.int .i64 0]⟩ := tyOk_array (by kernel_rfl : Tryz.prog.info? 99 = some Tryz.t99) rfl Tryz.underlying99 rfl rfl (fun _ _ => .cons (.int _ _) (.cons (.int _ _) (.cons (.int _ _) (.nil)))) rfl rfl
theorem tyok_100 : TyOk Tryz.prog 100 ⟨.struct [(0,3),(1,3),(2,99)],5,40,[.int .i64 0,.int .i64 0,.int .i64 0,.int .i64 0,.int .i64 0]⟩ := tyOk_struct (by kernel_rfl : Tryz.prog.info? 100 = some Tryz.t100) rfl Tryz.underlying100 rfl rfl rfl (fun _ _ => .cons (.int _ _) (.cons (.int _ _) (.cons (.int _ _) (.cons (.int _ _) (.cons (.int _ _) (.nil)))))) rfl rfl (by kernel_rfl)
theorem tyok_101 : TyOk Tryz.prog 101 ⟨.struct [(0,3),(1,3),(2,99)],5,40,[.int .i64 0,.int .i64 0,.int .i64 0,.int .i64 0,.int .i64 0]⟩ := tyOk_struct (by kernel_rfl : Tryz.prog.info? 101 = some Tryz.t101) rfl Tryz.underlying101 rfl rfl rfl (fun _ _ => .cons (.int _ _) (.cons (.int _ _) (.cons (.int _ _) (.cons (.int _ _) (.cons (.int _ _) (.nil)))))) rfl rfl (by kernel_rfl)
theorem tyok_102 : TyOk Tryz.prog 102 ⟨.one,1,8,[.nilfunc]⟩ := tyOk_func (by kernel_rfl : Tryz.prog.info? 102 = some Tryz.t102) rfl rfl Tryz.underlying102 rfl
theorem tyok_103 : TyOk Tryz.prog 103 ⟨.one,1,8,[.nilfunc]⟩ := tyOk_func (by kernel_rfl : Tryz.prog.info? 103 = some Tryz.t103) rfl rfl Tryz.underlying103 rfl
theorem tyok_104 : TyOk Tryz.prog 104 ⟨.map 101 3,1,8,[.nilmap]⟩ := tyOk_map (by kernel_rfl : Tryz.prog.info? 104 = some Tryz.t104) rfl rfl Tryz.underlying104 rfl
theorem tyok_105 : TyOk Tryz.prog 105 ⟨.struct [(0,30),(3,3),(4,3),(5,104)],6,80,[.int .i64 0,.slice 4 [],.slice 5 [],.int .i64 0,.int .i64 0,.nilmap]⟩ := tyOk_struct (by kernel_rfl : Tryz.prog.info? 105 = some Tryz.t105) rfl Tryz.underlying105 rfl rfl rfl (fun _ _ => .cons (.int _ _) (.cons (.nilslice _) (.cons (.nilslice _) (.cons (.int _ _) (.cons (.int _ _) (.cons (.nilmap) (.nil))))))) rfl rfl (by kernel_rfl)
theorem tyok_106 : TyOk Tryz.prog 106 ⟨.struct [(0,30),(3,3),(4,3),(5,104)],6,80,[.int .i64 0,.slice 4 [],.slice 5 [],.int .i64 0,.int .i64 0,.nilmap]⟩ := tyOk_struct (by kernel_rfl : Tryz.prog.info? 106 = some Tryz.t106) rfl Tryz.underlying106 rfl rfl rfl (fun _ _ => .cons (.int _ _) (.cons (.nilslice _) (.cons (.nilslice _) (.cons (.int _ _) (.cons (.int _ _) (.cons (.nilmap) (.nil))))))) rfl rfl (by kernel_rfl)
theorem tyok_107 : TyOk Tryz.prog 107 ⟨.one,1,8,[.nilfunc]⟩ := tyOk_func (by kernel_rfl : Tryz.prog.info? 107 = some Tryz.t107) rfl rfl Tryz.underlying107 rfl
theorem tyok_108 : TyOk Tryz.prog 108 ⟨.one,1,8,[.nilfunc]⟩ := tyOk_func (by kernel_rfl : Tryz.prog.info? 108 = some Tryz.t108) rfl rfl Tryz.underlying108 rfl
theorem tyok_109 : TyOk Tryz.prog 109 ⟨.one,1,8,[.nilfunc]⟩ := tyOk_func (by kernel_rfl : Tryz.prog.info? 109 = some Tryz.t109) rfl rfl Tryz.underlying109 rfl
theorem tyok_111 : TyOk Tryz.prog 111 ⟨.one,1,8,[.nilfunc]⟩ := tyOk_func (by kernel_rfl : Tryz.prog.info? 111 = some Tryz.t111) rfl rfl Tryz.underlying111 rfl
theorem tyok_112 : TyOk Tryz.prog 112 ⟨.one,1,8,[.nilfunc]⟩ := tyOk_func (by kernel_rfl : Tryz.prog.info? 112 = some Tryz.t112) rfl rfl Tryz.underlying112 rfl
theorem tyok_113 : TyOk Tryz.prog 113 ⟨.one,1,8,[.nilfunc]⟩ := tyOk_func (by kernel_rfl : Tryz.prog.info? 113 = some Tryz.t113) rfl rfl Tryz.underlying113 rfl
theorem tyok_114 : TyOk Tryz.prog 114 ⟨.one,1,8,[.nilfunc]⟩ := tyOk_func (by kernel_rfl : Tryz.prog.info? 114 = some Tryz.t114) rfl rfl Tryz.underlying114 rfl
theorem tyok_115 : TyOk Tryz.prog 115 ⟨.one,1,8,[.nilfunc]⟩ := tyOk_func (by kernel_rfl : Tryz.prog.info? 115 = some Tryz.t115) rfl rfl Tryz.underlying115 rfl
theorem tyok_116 : TyOk Tryz.prog 116 ⟨.one,1,8,[.nilfunc]⟩ := tyOk_func (by kernel_rfl : Tryz.prog.info? 116 = some Tryz.t116) rfl rfl Tryz.underlying116 rfl
theorem tyok_117 : TyOk Tryz.prog 117 ⟨.one,1,8,[.nilfunc]⟩ := tyOk_func (by kernel_rfl : Tryz.prog.info? 117 = some Tryz.t117) rfl rfl Tryz.underlying117 rfl
theorem tyok_118 : TyOk Tryz.prog 118 ⟨.one,1,8,[.nilfunc]⟩ := tyOk_func (by kernel_rfl : Tryz.prog.info? 118 = some Tryz.t118) rfl rfl Tryz.underlying118 rfl
theorem tyok_119 : TyOk Tryz.prog 119 ⟨.struct [(0,3),(1,3)],2,16,[.int .i64 0,.int .i64 0]⟩ := tyOk_struct (by kernel_rfl : Tryz.prog.info? 119 = some Tryz.t119) rfl Tryz.underlying119 rfl rfl rfl (fun _ _ => .cons (.int _ _) (.cons (.int _ _) (.nil))) rfl rfl (by kernel_rfl)
theorem tyok_120 : TyOk Tryz.prog 120 ⟨.struct [(0,3),(1,3)],2,16,[.int .i64 0,.int .i64 0]⟩ := tyOk_struct (by kernel_rfl : Tryz.prog.info? 120 = some Tryz.t120) rfl Tryz.underlying120 rfl rfl rfl (fun _ _ => .cons (.int _ _) (.cons (.int _ _) (.nil))) rfl rfl (by kernel_rfl)
theorem tyok_121 : TyOk Tryz.prog 121 ⟨.one,1,8,[.nilfunc]⟩ := tyOk_func (by kernel_rfl : Tryz.prog.info? 121 = some Tryz.t121) rfl rfl Tryz.underlying121 rfl
theorem tyok_122 : TyOk Tryz.prog 122 ⟨.one,1,8,[.nilfunc]⟩ := tyOk_func (by kernel_rfl : Tryz.prog.info? 122 = some Tryz.t122) rfl rfl Tryz.underlying122 rfl
theorem tyok_123 : TyOk Tryz.prog 123 ⟨.one,1,8,[.nilfunc]⟩ := tyOk_func (by kernel_rfl : Tryz.prog.info? 123 = some Tryz.t123) rfl rfl Tryz.underlying123 rfl
theorem tyok_124 : TyOk Tryz.prog 124 ⟨.one,1,8,[.nilfunc]⟩ := tyOk_func (by kernel_rfl : Tryz.prog.info? 124 = some Tryz.t124) rfl rfl Tryz.underlying124 rfl
theorem tyok_125 : TyOk Tryz.prog 125 ⟨.one,1,8,[.nilfunc]⟩ := tyOk_func (by kernel_rfl : Tryz.prog.info? 125 = some Tryz.t125) rfl rfl Tryz.underlying125 rfl
theorem tyok_126 : TyOk Tryz.prog 126 ⟨.struct [(0,3),(1,3)],2,16,[.int .i64 0,.int .i64 0]⟩ := tyOk_struct (by kernel_rfl : Tryz.prog.info? 126 = some Tryz.t126) rfl Tryz.underlying126 rfl rfl rfl (fun _ _ => .cons (.int _ _) (.cons (.int _ _) (.nil))) rfl rfl (by kernel_rfl)
theorem tyok_127 : TyOk Tryz.prog 127 ⟨.struct [(0,3),(1,3)],2,16,[.int .i64 0,.int .i64 0]⟩ := tyOk_struct (by kernel_rfl : Tryz.prog.info? 127 = some Tryz.t127) rfl Tryz.underlying127 rfl rfl rfl (fun _ _ => .cons (.int _ _) (.cons (.int _ _) (.nil))) rfl rfl (by kernel_rfl)
theorem tyok_128 : TyOk Tryz.prog 128 ⟨.array 3 127,6,48,[.int .i64 0,.int .i64 0,.int .i64 0,.int .i64 0,.int .i64 0,.int .i64 0]⟩ := tyOk_array (by kernel_rfl : Tryz.prog.info? 128 = some Tryz.t128) rfl Tryz.underlying128 rfl rfl (fun _ _ => .cons (.int _ _) (.cons (.int _ _) (.cons (.int _ _) (.cons (.int _ _) (.cons (.int _ _) (.cons (.int _ _) (.nil))))))) rfl rfl
theorem tyok_129 : TyOk Tryz.prog 129 ⟨.array 3 127,6,48,[.int .i64 0,.int .i64 0,.int .i64 0,.int .i64 0,.int .i64 0,.int .i64 0]⟩ := tyOk_array (by kernel_rfl : Tryz.prog.info? 129 = some Tryz.t129) rfl Tryz.underlying129 rfl rfl (fun _ _ => .cons (.int _ _) (.cons (.int _ _) (.cons (.int _ _) (.cons (.int _ _) (.cons (.int _ _) (.cons (.int _ _) (.nil))))))) rfl rfl
theorem tyok_131 : TyOk Tryz.prog 131 ⟨.one,1,8,[.nilfunc]⟩ := tyOk_func (by kernel_rfl : Tryz.prog.info? 131 = some Tryz.t131) rfl rfl Tryz.underlying131 rfl
theorem tyok_132 : TyOk Tryz.prog 132 ⟨.one,1,8,[.nilfunc]⟩ := tyOk_func (by kernel_rfl : Tryz.prog.info? 132 = some Tryz.t132) rfl rfl Tryz.underlying132 rfl
theorem tyok_133 : TyOk Tryz.prog 133 ⟨.array 4 3,4,32,[.int .i64 0,.int .i64 0,.int .i64 0,.int .i64 0]⟩ := tyOk_array (by kernel_rfl : Tryz.prog.info? 133 = some Tryz.t133) rfl Tryz.underlying133 rfl rfl (fun _ _ => .cons (.int _ _) (.cons (.int _ _) (.cons (.int _ _) (.cons (.int _ _) (.nil))))) rfl rfl
theorem tyok_134 : TyOk Tryz.prog 134 ⟨.array 4 3,4,32,[.int .i64 0,.int .i64 0,.int .i64 0,.int .i64 0]⟩ := tyOk_array (by kernel_rfl : Tryz.prog.info? 134 = some Tryz.t134) rfl Tryz.underlying134 rfl rfl (fun _ _ => .cons (.int _ _) (.cons (.int _ _) (.cons (.int _ _) (.cons (.int _ _) (.nil))))) rfl rfl
theorem tyok_135 : TyOk Tryz.prog 135 ⟨.one,1,8,[.nilfunc]⟩ := tyOk_func (by kernel_rfl : Tryz.prog.info? 135 = some Tryz.t135) rfl rfl Tryz.underlying135 rfl
theorem tyok_136 : TyOk Tryz.prog 136 ⟨.one,1,8,[.nilfunc]⟩ := tyOk_func (by kernel_rfl : Tryz.prog.info? 136 = some Tryz.t136) rfl rfl Tryz.underlying136 rfl
theorem tyok_137 : TyOk Tryz.prog 137 ⟨.one,1,8,[.nilfunc]⟩ := tyOk_func (by kernel_rfl : Tryz.prog.info? 137 = some Tryz.t137) rfl rfl Tryz.underlying137 rfl
theorem tyok_138 : TyOk Tryz.prog 138 ⟨.one,1,8,[.nilfunc]⟩ := tyOk_func (by kernel_rfl : Tryz.prog.info? 138 = some Tryz.t138) rfl rfl Tryz.underlying138 rfl
theorem tyok_140 : TyOk Tryz.prog 140 ⟨.one,1,8,[.nilfunc]⟩ := tyOk_func (by kernel_rfl : Tryz.prog.info? 140 = some Tryz.t140) rfl rfl Tryz.underlying140 rfl
theorem tyok_141 : TyOk Tryz.prog 141 ⟨.one,1,8,[.nilfunc]⟩ := tyOk_func (by kernel_rfl : Tryz.prog.info? 141 = some Tryz.t141) rfl rfl Tryz.underlying141 rfl
theorem tyok_142 : TyOk Tryz.prog 142 ⟨.one,1,8,[.nilfunc]⟩ := tyOk_func (by kernel_rfl : Tryz.prog.info? 142 = some Tryz.t142) rfl rfl Tryz.underlying142 rfl
theorem tyok_143 : TyOk Tryz.prog 143 ⟨.one,1,8,[.nilfunc]⟩ := tyOk_func (by kernel_rfl : Tryz.prog.info? 143 = some Tryz.t143) rfl rfl Tryz.underlying143 rfl
theorem tyok_144 : TyOk Tryz.prog 144 ⟨.one,1,8,[.nilptr]⟩ := tyOk_ptr (by kernel_rfl : Tryz.prog.info? 144 = some Tryz.t144) rfl rfl Tryz.underlying144 rfl
theorem tyok_145 : TyOk Tryz.prog 145 ⟨.one,1,8,[.nilfunc]⟩ := tyOk_func (by kernel_rfl : Tryz.prog.info? 145 = some Tryz.t145) rfl rfl Tryz.underlying145 rfl
theorem tyok_146 : TyOk Tryz.prog 146 ⟨.one,1,8,[.nilfunc]⟩ := tyOk_func (by kernel_rfl : Tryz.prog.info? 146 = some Tryz.t146) rfl rfl Tryz.underlying146 rfl
theorem tyok_147 : TyOk Tryz.prog 147 ⟨.one,1,8,[.nilfunc]⟩ := tyOk_func (by kernel_rfl : Tryz.prog.info? 147 = some Tryz.t147) rfl rfl Tryz.underlying147 rfl
theorem tyok_148 : TyOk Tryz.prog 148 ⟨.one,1,8,[.nilfunc]⟩ := tyOk_func (by kernel_rfl : Tryz.prog.info? 148 = some Tryz.t148) rfl rfl Tryz.underlying148 rfl
theorem tyok_149 : TyOk Tryz.prog 149 ⟨.one,1,8,[.nilfunc]⟩ := tyOk_func (by kernel_rfl : Tryz.prog.info? 149 = some Tryz.t149) rfl rfl Tryz.underlying149 rfl
theorem tyok_150 : TyOk Tryz.prog 150 ⟨.one,1,8,[.nilfunc]⟩ := tyOk_func (by kernel_rfl : Tryz.prog.info? 150 = some Tryz.t150) rfl rfl Tryz.underlying150 rfl
theorem tyok_151 : TyOk Tryz.prog 151 ⟨.one,1,8,[.nilfunc]⟩ := tyOk_func (by kernel_rfl : Tryz.prog.info? 151 = some Tryz.t151) rfl rfl Tryz.underlying151 rfl
theorem tyok_152 : TyOk Tryz.prog 152 ⟨.one,1,8,[.nilfunc]⟩ := tyOk_func (by kernel_rfl : Tryz.prog.info? 152 = some Tryz.t152) rfl rfl Tryz.underlying152 rfl
theorem tyok_154 : TyOk Tryz.prog 154 ⟨.one,1,8,[.nilfunc]⟩ := tyOk_func (by kernel_rfl : Tryz.prog.info? 154 = some Tryz.t154) rfl rfl Tryz.underlying154 rfl
theorem tyok_155 : TyOk Tryz.prog 155 ⟨.slice 159,1,24,[.slice 2 []]⟩ := tyOk_slice (by kernel_rfl : Tryz.prog.info? 155 = some Tryz.t155) rfl rfl Tryz.underlying155 rfl
theorem tyok_156 : TyOk Tryz.prog 156 ⟨.one,1,8,[.nilfunc]⟩ := tyOk_func (by kernel_rfl : Tryz.prog.info? 156 = some Tryz.t156) rfl rfl Tryz.underlying156 rfl
theorem tyok_157 : TyOk Tryz.prog 157 ⟨.one,1,8,[.nilfunc]⟩ := tyOk_func (by kernel_rfl : Tryz.prog.info? 157 = some Tryz.t157) rfl rfl Tryz.underlying157 rfl
theorem tyok_158 : TyOk Tryz.prog 158 ⟨.struct [(0,32),(1,157)],2,16,[.int .i64 0,.nilfunc]⟩ := tyOk_struct (by kernel_rfl : Tryz.prog.info? 158 = some Tryz.t158) rfl Tryz.underlying158 rfl rfl rfl (fun _ _ => .cons (.int _ _) (.cons (.nilfunc) (.nil))) rfl rfl (by kernel_rfl)
theorem tyok_159 : TyOk Tryz.prog 159 ⟨.struct [(0,32),(1,157)],2,16,[.int .i64 0,.nilfunc]⟩ := tyOk_struct (by kernel_rfl : Tryz.prog.info? 159 = some Tryz.t159) rfl Tryz.underlying159 rfl rfl rfl (fun _ _ => .cons (.int _ _) (.cons (.nilfunc) (.nil))) rfl rfl (by kernel_rfl)
theorem tyok_160 : TyOk Tryz.prog 160 ⟨.one,1,8,[.nilfunc]⟩ := tyOk_func (by kernel_rfl : Tryz.prog.info? 160 = some Tryz.t160) rfl rfl Tryz.underlying160 rfl
theorem tyok_161 : TyOk Tryz.prog 161 ⟨.one,1,8,[.nilfunc]⟩ := tyOk_func (by kernel_rfl : Tryz.prog.info? 161 = some Tryz.t161) rfl rfl Tryz.underlying161 rfl
theorem tyok_162 : TyOk Tryz.prog 162 ⟨.struct [(0,141)],1,8,[.nilfunc]⟩ := tyOk_struct (by kernel_rfl : Tryz.prog.info? 162 = some Tryz.t162) rfl Tryz.underlying162 rfl rfl rfl (fun _ _ => .cons (.nilfunc) (.nil)) rfl rfl (by kernel_rfl)
theorem tyok_163 : TyOk Tryz.prog 163 ⟨.struct [(0,141)],1,8,[.nilfunc]⟩ := tyOk_struct (by kernel_rfl : Tryz.prog.info? 163 = some Tryz.t163) rfl Tryz.underlying163 rfl rfl rfl (fun _ _ => .cons (.nilfunc) (.nil)) rfl rfl (by kernel_rfl)
theorem tyok_164 : TyOk Tryz.prog 164 ⟨.array 4 163,4,32,[.nilfunc,.nilfunc,.nilfunc,.nilfunc]⟩ := tyOk_array (by kernel_rfl : Tryz.prog.info? 164 = some Tryz.t164) rfl Tryz.underlying164 rfl rfl (fun _ _ => .cons (.nilfunc) (.cons (.nilfunc) (.cons (.nilfunc) (.cons (.nilfunc) (.nil))))) rfl rfl
theorem tyok_165 : TyOk Tryz.prog 165 ⟨.map 129 134,1,8,[.nilmap]⟩ := tyOk_map (by kernel_rfl : Tryz.prog.info? 165 = some Tryz.t165) rfl rfl Tryz.underlying165 rfl
theorem tyok_166 : TyOk Tryz.prog 166 ⟨.struct [(0,26),(5,164),(9,3),(10,165)],11,136,[.int .i64 0,.int .i64 0,.slice 5 [],.slice 3 [],.slice 4 [],.nilfunc,.nilfunc,.nilfunc,.nilfunc,.int .i64 0,.nilmap]⟩ := tyOk_struct (by kernel_rfl : Tryz.prog.info? 166 = some Tryz.t166) rfl Tryz.underlying166 rfl rfl rfl (fun _ _ => .cons (.int _ _) (.cons (.int _ _) (.cons (.nilslice _) (.cons (.nilslice _) (.cons (.nilslice _) (.cons (.nilfunc) (.cons (.nilfunc) (.cons (.nilfunc) (.cons (.nilfunc) (.cons (.int _ _) (.cons (.nilmap) (.nil)))))))))))) rfl rfl (by kernel_rfl)
theorem tyok_167 : TyOk Tryz.prog 167 ⟨.struct [(0,26),(5,164),(9,3),(10,165)],11,136,[.int .i64 0,.int .i64 0,.slice 5 [],.slice 3 [],.slice 4 [],.nilfunc,.nilfunc,.nilfunc,.nilfunc,.int .i64 0,.nilmap]⟩ := tyOk_struct (by kernel_rfl : Tryz.prog.info? 167 = some Tryz.t167) rfl Tryz.underlying167 rfl rfl rfl (fun _ _ => .cons (.int _ _) (.cons (.int _ _) (.cons (.nilslice _) (.cons (.nilslice _) (.cons (.nilslice _) (.cons (.nilfunc) (.cons (.nilfunc) (.cons (.nilfunc) (.cons (.nilfunc) (.cons (.int _ _) (.cons (.nilmap) (.nil)))))))))))) rfl rfl (by kernel_rfl)
theorem tyok_169 : TyOk Tryz.prog 169 ⟨.one,1,8,[.nilfunc]⟩ := tyOk_func (by kernel_rfl : Tryz.prog.info? 169 = some Tryz.t169) rfl rfl Tryz.underlying169 rfl
theorem tyok_170 : TyOk Tryz.prog 170 ⟨.one,1,8,[.nilptr]⟩ := tyOk_ptr (by kernel_rfl : Tryz.prog.info? 170 = some Tryz.t170) rfl rfl Tryz.underlying170 rfl
theorem tyok_171 : TyOk Tryz.prog 171 ⟨.one,1,8,[.nilfunc]⟩ := tyOk_func (by kernel_rfl : Tryz.prog.info? 171 = some Tryz.t171) rfl rfl Tryz.underlying171 rfl
theorem tyok_172 : TyOk Tryz.prog 172 ⟨.one,1,8,[.nilfunc]⟩ := tyOk_func (by kernel_rfl : Tryz.prog.info? 172 = some Tryz.t172) rfl rfl Tryz.underlying172 rfl
theorem tyok_173 : TyOk Tryz.prog 173 ⟨.one,1,8,[.nilfunc]⟩ := tyOk_func (by kernel_rfl : Tryz.prog.info? 173 = some Tryz.t173) rfl rfl Tryz.underlying173 rfl
theorem tyok_174 : TyOk Tryz.prog 174 ⟨.one,1,8,[.nilfunc]⟩ := tyOk_func (by kernel_rfl : Tryz.prog.info? 174 = some Tryz.t174) rfl rfl Tryz.underlying174 rfl
theorem tyok_175 : TyOk Tryz.prog 175 ⟨.one,1,8,[.nilfunc]⟩ := tyOk_func (by kernel_rfl : Tryz.prog.info? 175 = some Tryz.t175) rfl rfl Tryz.underlying175 rfl
theorem tyok_176 : TyOk Tryz.prog 176 ⟨.one,1,8,[.nilfunc]⟩ := tyOk_func (by kernel_rfl : Tryz.prog.info? 176 = some Tryz.t176) rfl rfl Tryz.underlying176 rfl
theorem tyok_177 : TyOk Tryz.prog 177 ⟨.one,1,8,[.nilfunc]⟩ := tyOk_func (by kernel_rfl : Tryz.prog.info? 177 = some Tryz.t177) rfl rfl Tryz.underlying177 rfl
theorem tyok_178 : TyOk Tryz.prog 178 ⟨.one,1,8,[.nilfunc]⟩ := tyOk_func (by kernel_rfl : Tryz.prog.info? 178 = some Tryz.t178) rfl rfl Tryz.underlying178 rfl
theorem tyok_179 : TyOk Tryz.prog 179 ⟨.one,1,8,[.nilfunc]⟩ := tyOk_func (by kernel_rfl : Tryz.prog.info? 179 = some Tryz.t179) rfl rfl Tryz.underlying179 rfl
theorem tyok_180 : TyOk Tryz.prog 180 ⟨.one,1,8,[.nilfunc]⟩ := tyOk_func (by kernel_rfl : Tryz.prog.info? 180 = some Tryz.t180) rfl rfl Tryz.underlying180 rfl
theorem tyok_181 : TyOk Tryz.prog 181 ⟨.one,1,8,[.nilfunc]⟩ := tyOk_func (by kernel_rfl : Tryz.prog.info? 181 = some Tryz.t181) rfl rfl Tryz.underlying181 rfl
theorem tyok_182 : TyOk Tryz.prog 182 ⟨.one,1,8,[.nilfunc]⟩ := tyOk_func (by kernel_rfl : Tryz.prog.info? 182 = some Tryz.t182) rfl rfl Tryz.underlying182 rfl
theorem tyok_183 : TyOk Tryz.prog 183 ⟨.one,1,8,[.nilfunc]⟩ := tyOk_func (by kernel_rfl : Tryz.prog.info? 183 = some Tryz.t183) rfl rfl Tryz.underlying183 rfl
theorem tyok_184 : TyOk Tryz.prog 184 ⟨.one,1,8,[.nilfunc]⟩ := tyOk_func (by kernel_rfl : Tryz.prog.info? 184 = some Tryz.t184) rfl rfl Tryz.underlying184 rfl
theorem tyok_185 : TyOk Tryz.prog 185 ⟨.one,1,8,[.nilfunc]⟩ := tyOk_func (by kernel_rfl : Tryz.prog.info? 185 = some Tryz.t185) rfl rfl Tryz.underlying185 rfl
theorem tyok_186 : TyOk Tryz.prog 186 ⟨.one,1,8,[.nilfunc]⟩ := tyOk_func (by kernel_rfl : Tryz.prog.info? 186 = some Tryz.t186) rfl rfl Tryz.underlying186 rfl
theorem tyok_187 : TyOk Tryz.prog 187 ⟨.one,1,8,[.nilfunc]⟩ := tyOk_func (by kernel_rfl : Tryz.prog.info? 187 = some Tryz.t187) rfl rfl Tryz.underlying187 rfl
theorem tyok_188 : TyOk Tryz.prog 188 ⟨.one,1,8,[.nilfunc]⟩ := tyOk_func (by kernel_rfl : Tryz.prog.info? 188 = some Tryz.t188) rfl rfl Tryz.underlying188 rfl
theorem tyok_189 : TyOk Tryz.prog 189 ⟨.one,1,8,[.nilfunc]⟩ := tyOk_func (by kernel_rfl : Tryz.prog.info? 189 = some Tryz.t189) rfl rfl Tryz.underlying189 rfl
theorem tyok_190 : TyOk Tryz.prog 190 ⟨.one,1,8,[.nilfunc]⟩ := tyOk_func (by kernel_rfl : Tryz.prog.info? 190 = some Tryz.t190) rfl rfl Tryz.underlying190 rfl
theorem tyok_191 : TyOk Tryz.prog 191 ⟨.one,1,8,[.nilfunc]⟩ := tyOk_func (by kernel_rfl : Tryz.prog.info? 191 = some Tryz.t191) rfl rfl Tryz.underlying191 rfl
theorem tyok_192 : TyOk Tryz.prog 192 ⟨.one,1,8,[.nilfunc]⟩ := tyOk_func (by kernel_rfl : Tryz.prog.info? 192 = some Tryz.t192) rfl rfl Tryz.underlying192 rfl
theorem tyok_193 : TyOk Tryz.prog 193 ⟨.one,1,8,[.nilfunc]⟩ := tyOk_func (by kernel_rfl : Tryz.prog.info? 193 = some Tryz.t193) rfl rfl Tryz.underlying193 rfl
theorem tyok_194 : TyOk Tryz.prog 194 ⟨.one,1,8,[.nilfunc]⟩ := tyOk_func (by kernel_rfl : Tryz.prog.info? 194 = some Tryz.t194) rfl rfl Tryz.underlying194 rfl
theorem tyok_195 : TyOk Tryz.prog 195 ⟨.struct [(0,17),(1,17),(2,17),(3,9)],4,40,[.nilptr,.nilptr,.nilptr,.str ByteArray.empty]⟩ := tyOk_struct (by kernel_rfl : Tryz.prog.info? 195 = some Tryz.t195) rfl Tryz.underlying195 rfl rfl rfl (fun _ _ => .cons (.nilptr) (.cons (.nilptr) (.cons (.nilptr) (.cons (.str _) (.nil))))) rfl rfl (by kernel_rfl)
theorem tyok_200 : TyOk Tryz.prog 200 ⟨.int .u32,1,4,[.int .u32 0]⟩ := tyOk_int (by kernel_rfl : Tryz.prog.info? 200 = some Tryz.t200) rfl rfl Tryz.underlying200 rfl
theorem tyok_203 : TyOk Tryz.prog 203 ⟨.one,1,8,[.nilfunc]⟩ := tyOk_func (by kernel_rfl : Tryz.prog.info? 203 = some Tryz.t203) rfl rfl Tryz.underlying203 rfl
theorem tyok_204 : TyOk Tryz.prog 204 ⟨.one,1,8,[.nilptr]⟩ := tyOk_ptr (by kernel_rfl : Tryz.prog.info? 204 = some Tryz.t204) rfl rfl Tryz.underlying204 rfl
theorem ty_0 : ty 0 = none := rfl
noncomputable def envC (H : Nat → Mode) (rd : Bool) (cut : List Nat) : Env := ⟨Tryz.prog,ty,H,rd,cut⟩
noncomputable def env (H : Nat → Mode) : Env := ⟨Tryz.prog,ty,H,false,[]⟩
noncomputable def envR (H : Nat → Mode) : Env := ⟨Tryz.prog,ty,H,true,[]⟩
theorem envOk (H : Nat → Mode) : EnvOk (env H) := by
 intro t i h
 show TyOk Tryz.prog t i
 have h : ty t = some i := h
 unfold ty at h
 split at h
 ·cases h; exact tyok_1
 ·cases h; exact tyok_2
 ·cases h; exact tyok_3
 ·cases h; exact tyok_4
 ·cases h; exact tyok_5
 ·cases h; exact tyok_9
 ·cases h; exact tyok_12
 ·cases h; exact tyok_13
 ·cases h; exact tyok_15
 ·cases h; exact tyok_16
 ·cases h; exact tyok_17
 ·cases h; exact tyok_18
 ·cases h; exact tyok_21
 ·cases h; exact tyok_22
 ·cases h; exact tyok_23
 ·cases h; exact tyok_24
 ·cases h; exact tyok_25
 ·cases h; exact tyok_26
 ·cases h; exact tyok_27
 ·cases h; exact tyok_28
 ·cases h; exact tyok_29
 ·cases h; exact tyok_30
 ·cases h; exact tyok_31
 ·cases h; exact tyok_32
 ·cases h; exact tyok_34
 ·cases h; exact tyok_35
 ·cases h; exact tyok_36
 ·cases h; exact tyok_37
 ·cases h; exact tyok_38
 ·cases h; exact tyok_39
 ·cases h; exact tyok_40
 ·cases h; exact tyok_41
 ·cases h; exact tyok_42
 ·cases h; exact tyok_43
 ·cases h; exact tyok_44
 ·cases h; exact tyok_45
 ·cases h; exact tyok_46
 ·cases h; exact tyok_48
 ·cases h; exact tyok_49
 ·cases h; exact tyok_51
 ·cases h; exact tyok_52
 ·cases h; exact tyok_53
 ·cases h; exact tyok_54
 ·cases h; exact tyok_55
 ·cases h; exact tyok_56
 ·cases h; exact tyok_57
 ·cases h; exact tyok_58
 ·cases h; exact tyok_59
 ·cases h; exact tyok_60
 ·cases h; exact tyok_61
 ·cases h; exact tyok_62
 ·cases h; exact tyok_63
 ·cases h; exact tyok_64
 ·cases h; exact tyok_65
 ·cases h; exact tyok_66
 ·cases h; exact tyok_67
 ·cases h; exact tyok_68
 ·cases h; exact tyok_70
 ·cases h; exact tyok_72
 ·cases h; exact tyok_74
 ·cases h; exact tyok_76
 ·cases h; exact tyok_77
 ·cases h; exact tyok_78
 ·cases h; exact tyok_79
 ·cases h; exact tyok_80
 ·cases h; exact tyok_81
 ·cases h; exact tyok_82
 ·cases h; exact tyok_83
 ·cases h; exact tyok_84
 ·cases h; exact tyok_85
 ·cases h; exact tyok_86
 ·cases h; exact tyok_87
 ·cases h; exact tyok_89
 ·cases h; exact tyok_90
 ·cases h; exact tyok_91
 ·cases h; exact tyok_92
 ·cases h; exact tyok_94
 ·cases h; exact tyok_95
 ·cases h; exact tyok_96
 ·cases h; exact tyok_97
 ·cases h; exact tyok_98
 ·cases h; exact tyok_99
 ·cases h; exact tyok_100
 ·cases h; exact tyok_101
 ·cases h; exact tyok_102
 ·cases h; exact tyok_103
 ·cases h; exact tyok_104
 ·cases h; exact tyok_105
 ·cases h; exact tyok_106
 ·cases h; exact tyok_107
 ·cases h; exact tyok_108
 ·cases h; exact tyok_109
 ·cases h; exact tyok_111
 ·cases h; exact tyok_112
 ·cases h; exact tyok_113
 ·cases h; exact tyok_114
 ·cases h; exact tyok_115
 ·cases h; exact tyok_116
 ·cases h; exact tyok_117
 ·cases h; exact tyok_118
 ·cases h; exact tyok_119
 ·cases h; exact tyok_120
 ·cases h; exact tyok_121
 ·cases h; exact tyok_122
 ·cases h; exact tyok_123
 ·cases h; exact tyok_124
 ·cases h; exact tyok_125
 ·cases h; exact tyok_126
 ·cases h; exact tyok_127
 ·cases h; exact tyok_128
 ·cases h; exact tyok_129
 ·cases h; exact tyok_131
 ·cases h; exact tyok_132
 ·cases h; exact tyok_133
 ·cases h; exact tyok_134
 ·cases h; exact tyok_135
 ·cases h; exact tyok_136
 ·cases h; exact tyok_137
 ·cases h; exact tyok_138
 ·cases h; exact tyok_140
 ·cases h; exact tyok_141
 ·cases h; exact tyok_142
 ·cases h; exact tyok_143
 ·cases h; exact tyok_144
 ·cases h; exact tyok_145
 ·cases h; exact tyok_146
 ·cases h; exact tyok_147
 ·cases h; exact tyok_148
 ·cases h; exact tyok_149
 ·cases h; exact tyok_150
 ·cases h; exact tyok_151
 ·cases h; exact tyok_152
 ·cases h; exact tyok_154
 ·cases h; exact tyok_155
 ·cases h; exact tyok_156
 ·cases h; exact tyok_157
 ·cases h; exact tyok_158
 ·cases h; exact tyok_159
 ·cases h; exact tyok_160
 ·cases h; exact tyok_161
 ·cases h; exact tyok_162
 ·cases h; exact tyok_163
 ·cases h; exact tyok_164
 ·cases h; exact tyok_165
 ·cases h; exact tyok_166
 ·cases h; exact tyok_167
 ·cases h; exact tyok_169
 ·cases h; exact tyok_170
 ·cases h; exact tyok_171
 ·cases h; exact tyok_172
 ·cases h; exact tyok_173
 ·cases h; exact tyok_174
 ·cases h; exact tyok_175
 ·cases h; exact tyok_176
 ·cases h; exact tyok_177
 ·cases h; exact tyok_178
 ·cases h; exact tyok_179
 ·cases h; exact tyok_180
 ·cases h; exact tyok_181
 ·cases h; exact tyok_182
 ·cases h; exact tyok_183
 ·cases h; exact tyok_184
 ·cases h; exact tyok_185
 ·cases h; exact tyok_186
 ·cases h; exact tyok_187
 ·cases h; exact tyok_188
 ·cases h; exact tyok_189
 ·cases h; exact tyok_190
 ·cases h; exact tyok_191
 ·cases h; exact tyok_192
 ·cases h; exact tyok_193
 ·cases h; exact tyok_194
 ·cases h; exact tyok_195
 ·cases h; exact tyok_200
 ·cases h; exact tyok_203
 ·cases h; exact tyok_204
 ·cases h
theorem envCOk (H : Nat → Mode) (rd : Bool) (cut : List Nat) : EnvOk (envC H rd cut) := envOk H
end Go.Proofs.YteppmjlfpniiaaaGreat.Abs
/- The abstract machine,part 18: small laws by which conditions are worked out. -/
namespace Go.Proofs.YteppmjlfpniiaaaGreat.Abs
set_option linter.unusedSimpArgs false
open Go Go.RowKit
@[congr] theorem vcSome.cong {α : Type} {o o' : Option α} {K : α → Prop} (h : o = o') : vcSome o K = vcSome o' K := by rw [h]
@[congr] theorem vcOps.cong {E : Env} {ops : Array Oper} {l l' : List Oper} {K : St → Prop} {st st' : St} (h : l = l') (hs : st = st') : vcOps E ops l K st = vcOps E ops l' K st' := by rw [h,hs]
@[congr] theorem vcOpsD.cong {E : Env} {ops : Array Oper} {fl fl' : List Fl} {l l' : List Oper} {K : St → Prop} {st st' : St} (hf : fl = fl') (h : l = l') (hs : st = st') : vcOpsD E ops fl l K st = vcOpsD E ops fl' l' K st' := by rw [hf,h,hs]
@[congr] theorem Back.cong {α : Type} {I : α → Head} {J : α → Prop} {m : α → Nat} {x : α} {st st' : St} (h : st = st') : Back I J m x st = Back I J m x st' := by rw [h]
theorem env_T (H : Nat → Mode) : (env H).T = ty := rfl
theorem env_P (H : Nat → Mode) : (env H).P = Tryz.prog := rfl
theorem env_H (H : Nat → Mode) : (env H).H = H := rfl
theorem env_cut (H : Nat → Mode) : (env H).cut = [] := rfl
theorem envR_cut (H : Nat → Mode) : (envR H).cut = [] := rfl
theorem envC_T (H : Nat → Mode) (r : Bool) (c : List Nat) : (envC H r c).T = ty := rfl
theorem envC_P (H : Nat → Mode) (r : Bool) (c : List Nat) : (envC H r c).P = Tryz.prog := rfl
theorem envC_H (H : Nat → Mode) (r : Bool) (c : List Nat) : (envC H r c).H = H := rfl
theorem envC_cut (H : Nat → Mode) (r : Bool) (c : List Nat) : (envC H r c).cut = c := rfl
theorem envR_T (H : Nat → Mode) : (envR H).T = ty := rfl
theorem envR_P (H : Nat → Mode) : (envR H).P = Tryz.prog := rfl
theorem envR_H (H : Nat → Mode) : (envR H).H = H := rfl
def modeAt (own sh : List Nat) (i : Nat) : Mode := if cutAt own i = true then .own else if cutAt sh i = true then .shared else .imm
theorem inR_i64 (n : Int) : inR .i64 n ↔ (-9223372036854775808 ≤ n ∧ n ≤ 9223372036854775807) := by
 simp [inR,IntKind.min,IntKind.max,IntKind.signed,IntKind.bits]
theorem inR_u8 (n : Int) : inR .u8 n ↔ (0 ≤ n ∧ n ≤ 255) := by
 simp [inR,IntKind.min,IntKind.max,IntKind.signed,IntKind.bits]
theorem maxLen_eq : maxLen = 9223372036854775807 := rfl
def ints (l : List Int) : AV := .slice 1 (l.map (AV.int .i64))
@[congr] theorem VIdx.cong {l l' : List AV} {i i' : Int} {K : AV → Prop} (h : l = l') (hi : i = i') : VIdx l i K = VIdx l' i' K := by rw [h,hi]
theorem VIdx_map {α : Type} [Inhabited α] (f : α → AV) (l : List α) (i : Int) (K : AV → Prop) : VIdx (l.map f) i K ↔ (0 ≤ i ∧ i.toNat < l.length) ∧ K (f l[i.toNat]!) := by
 unfold VIdx
 constructor
 ·rintro ⟨e,he,h0,hk⟩
  rw [List.getElem?_map] at he
  cases h : l[i.toNat]? with
  | none => rw [h] at he; simp at he
  | some x =>
   rw [h] at he
   simp at he
   subst he
   have hlt := (List.getElem?_eq_some_iff.1 h).1
   refine ⟨⟨h0,hlt⟩,?_⟩
   rw [List.getElem!_eq_getElem?_getD,h]; exact hk
 ·rintro ⟨⟨h0,h1⟩,hk⟩
  refine ⟨_,?_,h0,hk⟩
  rw [List.getElem?_map,List.getElem!_eq_getElem?_getD,List.getElem?_eq_getElem h1]; rfl
theorem ACall.pure {P : Program} {f : FuncId} {xs : List AV} {r : AV} (h : PCall P f xs r) {m : Mem} {K : AV → Mem → Prop} (hk : K r m) : VCall P f xs m K .mk :=
 ACall.mono (h m) fun _ _ ⟨h1,h2⟩ => by rw [h1,h2]; exact hk
theorem ACall.told {P : Program} {f : FuncId} {xs : List AV} {m : Mem} {K K' : AV → Mem → Prop} (h : ACall P f xs m K') (hk : ∀ r m',K' r m' → K r m') : VCall P f xs m K .mk :=
 ACall.mono h hk
theorem getD_idx {l : List Int} {k : Nat} (h : k < l.length) : l[k]! = l[k] := by
 rw [List.getElem!_eq_getElem?_getD,List.getElem?_eq_getElem h]; rfl
theorem mixed : Tryz.prog.follows .mixedOrders = true := by kernel_rfl
def lenOk (xs : List AV) : Prop := ∀ sz l,AV.slice sz l ∈ xs → l.length ≤ maxLen
theorem acall_len {P : Program} {f : FuncId} {xs : List AV} {m : Mem} {K : AV → Mem → Prop} (hcall : ∀ (args : Array Value) (w : World),(callFunc f args).run P w = .ok (.enter f args) w) (h : lenOk xs → ACall P f xs m K) : ACall P f xs m K := by
 refine ⟨hcall,fun G w vs hi hm hr => (h fun sz l hl => ?_).2 G w vs hi hm hr⟩
 obtain ⟨i,hi',hl⟩ := List.mem_iff_getElem.1 hl
 have hv : i < vs.length := by rw [← hr.1]; exact hi'
 have := hr.2 i (.slice sz l) vs[i] (by rw [← hl]; exact List.getElem?_eq_getElem hi') (List.getElem?_eq_getElem hv)
 obtain ⟨cs,_,_,_,_,h5⟩ := slice_row this
 exact h5
theorem lenOk_cons {x : AV} {xs : List AV} : lenOk (x :: xs) ↔ (match x with | .slice _ l => l.length ≤ maxLen | _ => True) ∧ lenOk xs := by
 constructor
 ·intro h
  refine ⟨?_,fun sz l hl => h sz l (by simp [hl])⟩
  split
  ·rename_i sz l; exact h sz l (by simp)
  ·trivial
 ·rintro ⟨h1,h2⟩ sz l hl
  rcases List.mem_cons.1 hl with rfl | hl
  ·exact h1
  ·exact h2 sz l hl
theorem lenOk_nil : lenOk [] ↔ True := by simp [lenOk]
theorem natDivPow (s i : Nat) : ((s : Int) / 2 ^ i) = ((s / 2 ^ i : Nat) : Int) := by simp
theorem natMulPow (s i : Nat) : ((s : Int) * 2 ^ i) = ((s * 2 ^ i : Nat) : Int) := by simp
theorem oneMulPow (i : Nat) : ((1 : Int) * 2 ^ i) = ((2 ^ i : Nat) : Int) := by simp
theorem toNatOne : (1 : Int).toNat = 1 := rfl
theorem and_one_bit (s i : Nat) : (s / 2 ^ i &&& 1) = if s.testBit i then 1 else 0 := by
 rw [Nat.and_one_is_mod,Nat.testBit_eq_decide_div_mod_eq]
 by_cases h : s / 2 ^ i % 2 = 1
 ·simp [h]
 ·have : s / 2 ^ i % 2 = 0 := by omega
  simp [this]
theorem testBit_dec (s i : Nat) : decide (((s / 2 ^ i &&& 1 : Nat) : Int) = 1) = s.testBit i := by
 rw [and_one_bit]; by_cases h : s.testBit i <;> simp [h]
theorem testBit_dec0 (s i : Nat) : decide (((s / 2 ^ i &&& 1 : Nat) : Int) = 0) = !s.testBit i := by
 rw [and_one_bit]; by_cases h : s.testBit i <;> simp [h]
theorem testBit_prop (s i : Nat) : (((s / 2 ^ i &&& 1 : Nat) : Int) = 1) = (s.testBit i = true) := by
 rw [and_one_bit]; by_cases h : s.testBit i <;> simp [h]
theorem testBit_prop0 (s i : Nat) : (((s / 2 ^ i &&& 1 : Nat) : Int) = 0) = (s.testBit i = false) := by
 rw [and_one_bit]; by_cases h : s.testBit i <;> simp [h]
theorem ite_split {p : Prop} [Decidable p] {A B : Prop} : (if p then A else B) = ((p → A) ∧ (¬ p → B)) := by
 by_cases h : p <;> simp [h]
end Go.Proofs.YteppmjlfpniiaaaGreat.Abs
