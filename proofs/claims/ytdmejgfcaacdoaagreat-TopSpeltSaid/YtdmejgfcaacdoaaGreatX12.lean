/- Lemmas for the statements of this seat (X12): they hold without conditions beyond those that each one states. -/
import Derived.Test.YtdmejgfcaacdoaaGreatX5
import Derived.Test.YtdmejgfcaacdoaaGreatChecked
import Derived.KernelRfl
import Derived.Test.YtdmejgfcaacdoaaGreatX8
/- The types of this seat,as the abstract machine has them: made by program (gen_types.py). -/
namespace Go.Proofs.YtdmejgfcaacdoaaGreat.Abs
set_option maxHeartbeats 4000000
set_option maxRecDepth 100000
open Go Go.RowKit
def ty : TypeId → Option TyI
 | 1 => some ⟨.one,1,8,[.nilfunc]⟩
 | 2 => some ⟨.int .i64,1,8,[.int .i64 0]⟩
 | 3 => some ⟨.int .i64,1,8,[.int .i64 0]⟩
 | 4 => some ⟨.bool,1,1,[.bool false]⟩
 | 5 => some ⟨.int .u8,1,1,[.int .u8 0]⟩
 | 9 => some ⟨.string,1,16,[.str ByteArray.empty]⟩
 | 12 => some ⟨.int .u64,1,8,[.int .u64 0]⟩
 | 13 => some ⟨.struct [(0,9),(1,12)],2,24,[.str ByteArray.empty,.int .u64 0]⟩
 | 15 => some ⟨.one,1,8,[.nilptr]⟩
 | 16 => some ⟨.one,1,8,[.nilptr]⟩
 | 17 => some ⟨.one,1,8,[.nilptr]⟩
 | 18 => some ⟨.struct [(0,17)],1,8,[.nilptr]⟩
 | 21 => some ⟨.int .i32,1,4,[.int .i32 0]⟩
 | 22 => some ⟨.slice 34,1,24,[.slice 2 []]⟩
 | 23 => some ⟨.struct [(0,3),(1,22)],2,32,[.int .i64 0,.slice 2 []]⟩
 | 24 => some ⟨.struct [(0,3),(1,22)],2,32,[.int .i64 0,.slice 2 []]⟩
 | 25 => some ⟨.slice 30,1,24,[.slice 1 []]⟩
 | 26 => some ⟨.int .i64,1,8,[.int .i64 0]⟩
 | 28 => some ⟨.one,1,8,[.nilfunc]⟩
 | 29 => some ⟨.one,1,8,[.nilfunc]⟩
 | 30 => some ⟨.slice 9,1,24,[.slice 1 []]⟩
 | 31 => some ⟨.one,1,8,[.nilfunc]⟩
 | 32 => some ⟨.slice 86,1,24,[.slice 3 []]⟩
 | 33 => some ⟨.struct [(0,9),(1,32)],2,40,[.str ByteArray.empty,.slice 3 []]⟩
 | 34 => some ⟨.struct [(0,9),(1,32)],2,40,[.str ByteArray.empty,.slice 3 []]⟩
 | 35 => some ⟨.slice 42,1,24,[.slice 4 []]⟩
 | 36 => some ⟨.slice 189,1,24,[.slice 2 []]⟩
 | 37 => some ⟨.struct [(0,3),(1,3),(2,30),(3,3),(4,35),(5,36)],6,96,[.int .i64 0,.int .i64 0,.slice 1 [],.int .i64 0,.slice 4 [],.slice 2 []]⟩
 | 38 => some ⟨.struct [(0,3),(1,3),(2,30),(3,3),(4,35),(5,36)],6,96,[.int .i64 0,.int .i64 0,.slice 1 [],.int .i64 0,.slice 4 [],.slice 2 []]⟩
 | 39 => some ⟨.one,1,8,[.nilfunc]⟩
 | 40 => some ⟨.one,1,8,[.nilfunc]⟩
 | 41 => some ⟨.struct [(0,3),(1,3),(2,3),(3,3)],4,32,[.int .i64 0,.int .i64 0,.int .i64 0,.int .i64 0]⟩
 | 42 => some ⟨.struct [(0,3),(1,3),(2,3),(3,3)],4,32,[.int .i64 0,.int .i64 0,.int .i64 0,.int .i64 0]⟩
 | 43 => some ⟨.slice 3,1,24,[.slice 1 []]⟩
 | 45 => some ⟨.one,1,8,[.nilfunc]⟩
 | 46 => some ⟨.one,1,8,[.nilfunc]⟩
 | 48 => some ⟨.one,1,8,[.nilfunc]⟩
 | 49 => some ⟨.one,1,8,[.nilfunc]⟩
 | 50 => some ⟨.one,1,8,[.nilfunc]⟩
 | 51 => some ⟨.slice 137,1,24,[.slice 2 []]⟩
 | 53 => some ⟨.one,1,8,[.nilfunc]⟩
 | 54 => some ⟨.one,1,8,[.nilfunc]⟩
 | 55 => some ⟨.slice 147,1,24,[.slice 2 []]⟩
 | 56 => some ⟨.slice 76,1,24,[.slice 2 []]⟩
 | 57 => some ⟨.struct [(0,3),(1,55),(2,56)],3,56,[.int .i64 0,.slice 2 [],.slice 2 []]⟩
 | 58 => some ⟨.struct [(0,3),(1,55),(2,56)],3,56,[.int .i64 0,.slice 2 [],.slice 2 []]⟩
 | 59 => some ⟨.slice 5,1,24,[.slice 1 []]⟩
 | 60 => some ⟨.array 2 5,2,2,[.int .u8 0,.int .u8 0]⟩
 | 61 => some ⟨.struct [(0,59),(1,59),(2,60),(4,59)],5,80,[.slice 1 [],.slice 1 [],.int .u8 0,.int .u8 0,.slice 1 []]⟩
 | 62 => some ⟨.struct [(0,59),(1,59),(2,60),(4,59)],5,80,[.slice 1 [],.slice 1 [],.int .u8 0,.int .u8 0,.slice 1 []]⟩
 | 63 => some ⟨.one,1,8,[.nilfunc]⟩
 | 65 => some ⟨.one,1,8,[.nilfunc]⟩
 | 66 => some ⟨.one,1,8,[.nilfunc]⟩
 | 67 => some ⟨.one,1,8,[.nilfunc]⟩
 | 68 => some ⟨.one,1,8,[.nilfunc]⟩
 | 69 => some ⟨.one,1,8,[.nilfunc]⟩
 | 71 => some ⟨.one,1,8,[.nilfunc]⟩
 | 72 => some ⟨.one,1,8,[.nilfunc]⟩
 | 73 => some ⟨.one,1,8,[.nilfunc]⟩
 | 74 => some ⟨.one,1,8,[.nilfunc]⟩
 | 75 => some ⟨.struct [(0,3),(1,9)],2,24,[.int .i64 0,.str ByteArray.empty]⟩
 | 76 => some ⟨.struct [(0,3),(1,9)],2,24,[.int .i64 0,.str ByteArray.empty]⟩
 | 78 => some ⟨.one,1,8,[.nilfunc]⟩
 | 79 => some ⟨.one,1,8,[.nilfunc]⟩
 | 80 => some ⟨.one,1,8,[.nilfunc]⟩
 | 81 => some ⟨.one,1,8,[.nilfunc]⟩
 | 82 => some ⟨.one,1,8,[.nilfunc]⟩
 | 83 => some ⟨.struct [(0,3),(1,3)],2,16,[.int .i64 0,.int .i64 0]⟩
 | 84 => some ⟨.struct [(0,3),(1,3)],2,16,[.int .i64 0,.int .i64 0]⟩
 | 85 => some ⟨.struct [(0,30),(1,84)],3,40,[.slice 1 [],.int .i64 0,.int .i64 0]⟩
 | 86 => some ⟨.struct [(0,30),(1,84)],3,40,[.slice 1 [],.int .i64 0,.int .i64 0]⟩
 | 87 => some ⟨.one,1,8,[.nilfunc]⟩
 | 89 => some ⟨.one,1,8,[.nilfunc]⟩
 | 90 => some ⟨.one,1,8,[.nilfunc]⟩
 | 91 => some ⟨.one,1,8,[.nilfunc]⟩
 | 92 => some ⟨.one,1,8,[.nilfunc]⟩
 | 93 => some ⟨.one,1,8,[.nilfunc]⟩
 | 94 => some ⟨.one,1,8,[.nilfunc]⟩
 | 95 => some ⟨.one,1,8,[.nilfunc]⟩
 | 96 => some ⟨.one,1,8,[.nilfunc]⟩
 | 97 => some ⟨.one,1,8,[.nilfunc]⟩
 | 98 => some ⟨.one,1,8,[.nilfunc]⟩
 | 99 => some ⟨.one,1,8,[.nilfunc]⟩
 | 100 => some ⟨.one,1,8,[.nilfunc]⟩
 | 101 => some ⟨.one,1,8,[.nilfunc]⟩
 | 102 => some ⟨.one,1,8,[.nilptr]⟩
 | 104 => some ⟨.one,1,8,[.nilfunc]⟩
 | 105 => some ⟨.one,1,8,[.nilfunc]⟩
 | 106 => some ⟨.one,1,8,[.nilfunc]⟩
 | 107 => some ⟨.one,1,8,[.nilfunc]⟩
 | 108 => some ⟨.array 5 3,5,40,[.int .i64 0,.int .i64 0,.int .i64 0,.int .i64 0,.int .i64 0]⟩
 | 109 => some ⟨.array 5 3,5,40,[.int .i64 0,.int .i64 0,.int .i64 0,.int .i64 0,.int .i64 0]⟩
 | 111 => some ⟨.one,1,8,[.nilptr]⟩
 | 112 => some ⟨.one,1,8,[.nilfunc]⟩
 | 113 => some ⟨.one,1,8,[.nilfunc]⟩
 | 115 => some ⟨.one,1,8,[.nilfunc]⟩
 | 116 => some ⟨.one,1,8,[.nilfunc]⟩
 | 117 => some ⟨.one,1,8,[.nilfunc]⟩
 | 118 => some ⟨.one,1,8,[.nilfunc]⟩
 | 119 => some ⟨.array 3 3,3,24,[.int .i64 0,.int .i64 0,.int .i64 0]⟩
 | 120 => some ⟨.array 3 3,3,24,[.int .i64 0,.int .i64 0,.int .i64 0]⟩
 | 121 => some ⟨.map 3 3,1,8,[.nilmap]⟩
 | 122 => some ⟨.struct [(0,38),(6,120),(9,121)],10,128,[.int .i64 0,.int .i64 0,.slice 1 [],.int .i64 0,.slice 4 [],.slice 2 [],.int .i64 0,.int .i64 0,.int .i64 0,.nilmap]⟩
 | 123 => some ⟨.struct [(0,38),(6,120),(9,121)],10,128,[.int .i64 0,.int .i64 0,.slice 1 [],.int .i64 0,.slice 4 [],.slice 2 [],.int .i64 0,.int .i64 0,.int .i64 0,.nilmap]⟩
 | 125 => some ⟨.one,1,8,[.nilfunc]⟩
 | 126 => some ⟨.one,1,8,[.nilfunc]⟩
 | 127 => some ⟨.struct [(0,126)],1,8,[.nilfunc]⟩
 | 128 => some ⟨.struct [(0,126)],1,8,[.nilfunc]⟩
 | 129 => some ⟨.one,1,8,[.nilptr]⟩
 | 130 => some ⟨.one,1,8,[.nilfunc]⟩
 | 131 => some ⟨.struct [(0,3),(1,3)],2,16,[.int .i64 0,.int .i64 0]⟩
 | 132 => some ⟨.struct [(0,3),(1,3)],2,16,[.int .i64 0,.int .i64 0]⟩
 | 134 => some ⟨.one,1,8,[.nilfunc]⟩
 | 135 => some ⟨.one,1,8,[.nilfunc]⟩
 | 136 => some ⟨.struct [(0,3),(1,9)],2,24,[.int .i64 0,.str ByteArray.empty]⟩
 | 137 => some ⟨.struct [(0,3),(1,9)],2,24,[.int .i64 0,.str ByteArray.empty]⟩
 | 138 => some ⟨.one,1,8,[.nilfunc]⟩
 | 139 => some ⟨.struct [(0,4),(1,4),(2,138)],3,16,[.bool false,.bool false,.nilfunc]⟩
 | 140 => some ⟨.struct [(0,4),(1,4),(2,138)],3,16,[.bool false,.bool false,.nilfunc]⟩
 | 141 => some ⟨.array 4 140,12,64,[.bool false,.bool false,.nilfunc,.bool false,.bool false,.nilfunc,.bool false,.bool false,.nilfunc,.bool false,.bool false,.nilfunc]⟩
 | 142 => some ⟨.one,1,8,[.nilfunc]⟩
 | 144 => some ⟨.one,1,8,[.nilfunc]⟩
 | 145 => some ⟨.slice 159,1,24,[.slice 3 []]⟩
 | 146 => some ⟨.struct [(0,9),(1,145)],2,40,[.str ByteArray.empty,.slice 3 []]⟩
 | 147 => some ⟨.struct [(0,9),(1,145)],2,40,[.str ByteArray.empty,.slice 3 []]⟩
 | 148 => some ⟨.one,1,8,[.nilfunc]⟩
 | 149 => some ⟨.one,1,8,[.nilfunc]⟩
 | 150 => some ⟨.one,1,8,[.nilptr]⟩
 | 152 => some ⟨.one,1,8,[.nilfunc]⟩
 | 153 => some ⟨.struct [(0,3),(1,108)],6,48,[.int .i64 0,.int .i64 0,.int .i64 0,.int .i64 0,.int .i64 0,.int .i64 0]⟩
 | 154 => some ⟨.struct [(0,3),(1,108)],6,48,[.int .i64 0,.int .i64 0,.int .i64 0,.int .i64 0,.int .i64 0,.int .i64 0]⟩
 | 156 => some ⟨.one,1,8,[.nilfunc]⟩
 | 157 => some ⟨.one,1,8,[.nilfunc]⟩
 | 158 => some ⟨.struct [(0,5),(1,3),(2,4)],3,24,[.int .u8 0,.int .i64 0,.bool false]⟩
 | 159 => some ⟨.struct [(0,5),(1,3),(2,4)],3,24,[.int .u8 0,.int .i64 0,.bool false]⟩
 | 161 => some ⟨.one,1,8,[.nilfunc]⟩
 | 162 => some ⟨.one,1,8,[.nilfunc]⟩
 | 163 => some ⟨.one,1,8,[.nilfunc]⟩
 | 164 => some ⟨.one,1,8,[.nilfunc]⟩
 | 165 => some ⟨.one,1,8,[.nilfunc]⟩
 | 166 => some ⟨.one,1,8,[.nilfunc]⟩
 | 167 => some ⟨.one,1,8,[.nilfunc]⟩
 | 168 => some ⟨.one,1,8,[.nilfunc]⟩
 | 169 => some ⟨.one,1,8,[.nilfunc]⟩
 | 170 => some ⟨.one,1,8,[.nilfunc]⟩
 | 171 => some ⟨.slice 84,1,24,[.mslice 0 0 0 0]⟩
 | 172 => some ⟨.one,1,8,[.nilfunc]⟩
 | 173 => some ⟨.one,1,8,[.nilfunc]⟩
 | 174 => some ⟨.one,1,8,[.nilfunc]⟩
 | 175 => some ⟨.struct [(0,34),(2,171)],3,64,[.str ByteArray.empty,.mslice 0 0 0 0,.mslice 0 0 0 0]⟩
 | 176 => some ⟨.struct [(0,34),(2,171)],3,64,[.str ByteArray.empty,.mslice 0 0 0 0,.mslice 0 0 0 0]⟩
 | 177 => some ⟨.one,1,8,[.nilfunc]⟩
 | 178 => some ⟨.one,1,8,[.nilfunc]⟩
 | 179 => some ⟨.one,1,8,[.nilfunc]⟩
 | 180 => some ⟨.one,1,8,[.nilfunc]⟩
 | 181 => some ⟨.map 154 3,1,8,[.nilmap]⟩
 | 182 => some ⟨.struct [(0,58),(3,181)],4,64,[.int .i64 0,.slice 2 [],.slice 2 [],.nilmap]⟩
 | 183 => some ⟨.struct [(0,58),(3,181)],4,64,[.int .i64 0,.slice 2 [],.slice 2 [],.nilmap]⟩
 | 184 => some ⟨.one,1,8,[.nilfunc]⟩
 | 185 => some ⟨.one,1,8,[.nilfunc]⟩
 | 186 => some ⟨.one,1,8,[.nilfunc]⟩
 | 187 => some ⟨.one,1,8,[.nilfunc]⟩
 | 188 => some ⟨.struct [(0,3),(1,3)],2,16,[.int .i64 0,.int .i64 0]⟩
 | 189 => some ⟨.struct [(0,3),(1,3)],2,16,[.int .i64 0,.int .i64 0]⟩
 | 190 => some ⟨.one,1,8,[.nilfunc]⟩
 | 191 => some ⟨.one,1,8,[.nilfunc]⟩
 | 192 => some ⟨.one,1,8,[.nilfunc]⟩
 | 193 => some ⟨.one,1,8,[.nilfunc]⟩
 | 194 => some ⟨.one,1,8,[.nilfunc]⟩
 | 195 => some ⟨.one,1,8,[.nilfunc]⟩
 | 196 => some ⟨.one,1,8,[.nilfunc]⟩
 | 197 => some ⟨.one,1,8,[.nilfunc]⟩
 | 198 => some ⟨.one,1,8,[.nilfunc]⟩
 | 199 => some ⟨.one,1,8,[.nilfunc]⟩
 | 200 => some ⟨.one,1,8,[.nilfunc]⟩
 | 201 => some ⟨.one,1,8,[.nilfunc]⟩
 | 202 => some ⟨.one,1,8,[.nilfunc]⟩
 | 203 => some ⟨.one,1,8,[.nilfunc]⟩
 | 204 => some ⟨.map 132 3,1,8,[.nilmap]⟩
 | 205 => some ⟨.struct [(0,30),(1,30),(2,204)],3,56,[.slice 1 [],.slice 1 [],.nilmap]⟩
 | 206 => some ⟨.struct [(0,30),(1,30),(2,204)],3,56,[.slice 1 [],.slice 1 [],.nilmap]⟩
 | 208 => some ⟨.one,1,8,[.nilfunc]⟩
 | 209 => some ⟨.one,1,8,[.nilfunc]⟩
 | 210 => some ⟨.one,1,8,[.nilfunc]⟩
 | 211 => some ⟨.one,1,8,[.nilfunc]⟩
 | 212 => some ⟨.one,1,8,[.nilfunc]⟩
 | 213 => some ⟨.one,1,8,[.nilfunc]⟩
 | 214 => some ⟨.one,1,8,[.nilfunc]⟩
 | 216 => some ⟨.one,1,8,[.nilfunc]⟩
 | 217 => some ⟨.one,1,8,[.nilfunc]⟩
 | 218 => some ⟨.one,1,8,[.nilfunc]⟩
 | 219 => some ⟨.one,1,8,[.nilfunc]⟩
 | 220 => some ⟨.one,1,8,[.nilfunc]⟩
 | 221 => some ⟨.one,1,8,[.nilfunc]⟩
 | 222 => some ⟨.one,1,8,[.nilfunc]⟩
 | 223 => some ⟨.one,1,8,[.nilptr]⟩
 | 224 => some ⟨.struct [(0,223),(1,59)],2,32,[.nilptr,.slice 1 []]⟩
 | 225 => some ⟨.struct [(0,223),(1,59)],2,32,[.nilptr,.slice 1 []]⟩
 | 228 => some ⟨.one,1,8,[.nilfunc]⟩
 | 230 => some ⟨.one,1,8,[.nilfunc]⟩
 | 231 => some ⟨.one,1,8,[.nilfunc]⟩
 | 232 => some ⟨.slice 234,1,24,[.slice 2 []]⟩
 | 233 => some ⟨.struct [(0,3),(1,3)],2,16,[.int .i64 0,.int .i64 0]⟩
 | 234 => some ⟨.struct [(0,3),(1,3)],2,16,[.int .i64 0,.int .i64 0]⟩
 | 235 => some ⟨.one,1,8,[.nilfunc]⟩
 | 236 => some ⟨.one,1,8,[.nilfunc]⟩
 | 237 => some ⟨.one,1,8,[.nilfunc]⟩
 | 238 => some ⟨.one,1,8,[.nilfunc]⟩
 | 239 => some ⟨.one,1,8,[.nilfunc]⟩
 | 240 => some ⟨.one,1,8,[.nilfunc]⟩
 | 241 => some ⟨.one,1,8,[.nilfunc]⟩
 | 242 => some ⟨.one,1,8,[.nilfunc]⟩
 | 243 => some ⟨.one,1,8,[.nilfunc]⟩
 | 244 => some ⟨.one,1,8,[.nilfunc]⟩
 | 245 => some ⟨.one,1,8,[.nilfunc]⟩
 | 246 => some ⟨.one,1,8,[.nilfunc]⟩
 | 247 => some ⟨.one,1,8,[.nilfunc]⟩
 | 248 => some ⟨.slice 252,1,24,[.slice 2 []]⟩
 | 249 => some ⟨.one,1,8,[.nilfunc]⟩
 | 250 => some ⟨.one,1,8,[.nilfunc]⟩
 | 251 => some ⟨.struct [(0,26),(1,250)],2,16,[.int .i64 0,.nilfunc]⟩
 | 252 => some ⟨.struct [(0,26),(1,250)],2,16,[.int .i64 0,.nilfunc]⟩
 | 253 => some ⟨.one,1,8,[.nilfunc]⟩
 | 254 => some ⟨.one,1,8,[.nilfunc]⟩
 | 255 => some ⟨.one,1,8,[.nilfunc]⟩
 | 256 => some ⟨.one,1,8,[.nilfunc]⟩
 | 257 => some ⟨.one,1,8,[.nilfunc]⟩
 | 258 => some ⟨.one,1,8,[.nilfunc]⟩
 | 259 => some ⟨.one,1,8,[.nilfunc]⟩
 | 260 => some ⟨.one,1,8,[.nilfunc]⟩
 | 261 => some ⟨.one,1,8,[.nilfunc]⟩
 | 262 => some ⟨.one,1,8,[.nilfunc]⟩
 | 263 => some ⟨.one,1,8,[.nilfunc]⟩
 | 264 => some ⟨.one,1,8,[.nilfunc]⟩
 | 265 => some ⟨.one,1,8,[.nilptr]⟩
 | 266 => some ⟨.one,1,8,[.nilfunc]⟩
 | 267 => some ⟨.one,1,8,[.nilfunc]⟩
 | 269 => some ⟨.one,1,8,[.nilfunc]⟩
 | 270 => some ⟨.struct [(0,17),(1,17),(2,17),(3,9)],4,40,[.nilptr,.nilptr,.nilptr,.str ByteArray.empty]⟩
 | 275 => some ⟨.one,1,8,[.nilfunc]⟩
 | 276 => some ⟨.int .u32,1,4,[.int .u32 0]⟩
 | 279 => some ⟨.one,1,8,[.nilfunc]⟩
 | _ => none
theorem ty_1 : ty 1 = some ⟨.one,1,8,[.nilfunc]⟩ := rfl
theorem ty_2 : ty 2 = some ⟨.int .i64,1,8,[.int .i64 0]⟩ := rfl
theorem ty_3 : ty 3 = some ⟨.int .i64,1,8,[.int .i64 0]⟩ := rfl
theorem ty_4 : ty 4 = some ⟨.bool,1,1,[.bool false]⟩ := rfl
theorem ty_5 : ty 5 = some ⟨.int .u8,1,1,[.int .u8 0]⟩ := rfl
theorem ty_9 : ty 9 = some ⟨.string,1,16,[.str ByteArray.empty]⟩ := rfl
theorem ty_12 : ty 12 = some ⟨.int .u64,1,8,[.int .u64 0]⟩ := rfl
theorem ty_13 : ty 13 = some ⟨.struct [(0,9),(1,12)],2,24,[.str ByteArray.empty,.int .u64 0]⟩ := rfl
theorem ty_15 : ty 15 = some ⟨.one,1,8,[.nilptr]⟩ := rfl
theorem ty_16 : ty 16 = some ⟨.one,1,8,[.nilptr]⟩ := rfl
theorem ty_17 : ty 17 = some ⟨.one,1,8,[.nilptr]⟩ := rfl
theorem ty_18 : ty 18 = some ⟨.struct [(0,17)],1,8,[.nilptr]⟩ := rfl
theorem ty_21 : ty 21 = some ⟨.int .i32,1,4,[.int .i32 0]⟩ := rfl
theorem ty_22 : ty 22 = some ⟨.slice 34,1,24,[.slice 2 []]⟩ := rfl
theorem ty_23 : ty 23 = some ⟨.struct [(0,3),(1,22)],2,32,[.int .i64 0,.slice 2 []]⟩ := rfl
theorem ty_24 : ty 24 = some ⟨.struct [(0,3),(1,22)],2,32,[.int .i64 0,.slice 2 []]⟩ := rfl
theorem ty_25 : ty 25 = some ⟨.slice 30,1,24,[.slice 1 []]⟩ := rfl
theorem ty_26 : ty 26 = some ⟨.int .i64,1,8,[.int .i64 0]⟩ := rfl
theorem ty_28 : ty 28 = some ⟨.one,1,8,[.nilfunc]⟩ := rfl
theorem ty_29 : ty 29 = some ⟨.one,1,8,[.nilfunc]⟩ := rfl
theorem ty_30 : ty 30 = some ⟨.slice 9,1,24,[.slice 1 []]⟩ := rfl
theorem ty_31 : ty 31 = some ⟨.one,1,8,[.nilfunc]⟩ := rfl
theorem ty_32 : ty 32 = some ⟨.slice 86,1,24,[.slice 3 []]⟩ := rfl
theorem ty_33 : ty 33 = some ⟨.struct [(0,9),(1,32)],2,40,[.str ByteArray.empty,.slice 3 []]⟩ := rfl
theorem ty_34 : ty 34 = some ⟨.struct [(0,9),(1,32)],2,40,[.str ByteArray.empty,.slice 3 []]⟩ := rfl
theorem ty_35 : ty 35 = some ⟨.slice 42,1,24,[.slice 4 []]⟩ := rfl
theorem ty_36 : ty 36 = some ⟨.slice 189,1,24,[.slice 2 []]⟩ := rfl
theorem ty_37 : ty 37 = some ⟨.struct [(0,3),(1,3),(2,30),(3,3),(4,35),(5,36)],6,96,[.int .i64 0,.int .i64 0,.slice 1 [],.int .i64 0,.slice 4 [],.slice 2 []]⟩ := rfl
theorem ty_38 : ty 38 = some ⟨.struct [(0,3),(1,3),(2,30),(3,3),(4,35),(5,36)],6,96,[.int .i64 0,.int .i64 0,.slice 1 [],.int .i64 0,.slice 4 [],.slice 2 []]⟩ := rfl
theorem ty_39 : ty 39 = some ⟨.one,1,8,[.nilfunc]⟩ := rfl
theorem ty_40 : ty 40 = some ⟨.one,1,8,[.nilfunc]⟩ := rfl
theorem ty_41 : ty 41 = some ⟨.struct [(0,3),(1,3),(2,3),(3,3)],4,32,[.int .i64 0,.int .i64 0,.int .i64 0,.int .i64 0]⟩ := rfl
theorem ty_42 : ty 42 = some ⟨.struct [(0,3),(1,3),(2,3),(3,3)],4,32,[.int .i64 0,.int .i64 0,.int .i64 0,.int .i64 0]⟩ := rfl
theorem ty_43 : ty 43 = some ⟨.slice 3,1,24,[.slice 1 []]⟩ := rfl
theorem ty_45 : ty 45 = some ⟨.one,1,8,[.nilfunc]⟩ := rfl
theorem ty_46 : ty 46 = some ⟨.one,1,8,[.nilfunc]⟩ := rfl
theorem ty_48 : ty 48 = some ⟨.one,1,8,[.nilfunc]⟩ := rfl
theorem ty_49 : ty 49 = some ⟨.one,1,8,[.nilfunc]⟩ := rfl
theorem ty_50 : ty 50 = some ⟨.one,1,8,[.nilfunc]⟩ := rfl
theorem ty_51 : ty 51 = some ⟨.slice 137,1,24,[.slice 2 []]⟩ := rfl
theorem ty_53 : ty 53 = some ⟨.one,1,8,[.nilfunc]⟩ := rfl
theorem ty_54 : ty 54 = some ⟨.one,1,8,[.nilfunc]⟩ := rfl
theorem ty_55 : ty 55 = some ⟨.slice 147,1,24,[.slice 2 []]⟩ := rfl
theorem ty_56 : ty 56 = some ⟨.slice 76,1,24,[.slice 2 []]⟩ := rfl
theorem ty_57 : ty 57 = some ⟨.struct [(0,3),(1,55),(2,56)],3,56,[.int .i64 0,.slice 2 [],.slice 2 []]⟩ := rfl
theorem ty_58 : ty 58 = some ⟨.struct [(0,3),(1,55),(2,56)],3,56,[.int .i64 0,.slice 2 [],.slice 2 []]⟩ := rfl
theorem ty_59 : ty 59 = some ⟨.slice 5,1,24,[.slice 1 []]⟩ := rfl
theorem ty_60 : ty 60 = some ⟨.array 2 5,2,2,[.int .u8 0,.int .u8 0]⟩ := rfl
theorem ty_61 : ty 61 = some ⟨.struct [(0,59),(1,59),(2,60),(4,59)],5,80,[.slice 1 [],.slice 1 [],.int .u8 0,.int .u8 0,.slice 1 []]⟩ := rfl
theorem ty_62 : ty 62 = some ⟨.struct [(0,59),(1,59),(2,60),(4,59)],5,80,[.slice 1 [],.slice 1 [],.int .u8 0,.int .u8 0,.slice 1 []]⟩ := rfl
theorem ty_63 : ty 63 = some ⟨.one,1,8,[.nilfunc]⟩ := rfl
theorem ty_65 : ty 65 = some ⟨.one,1,8,[.nilfunc]⟩ := rfl
theorem ty_66 : ty 66 = some ⟨.one,1,8,[.nilfunc]⟩ := rfl
theorem ty_67 : ty 67 = some ⟨.one,1,8,[.nilfunc]⟩ := rfl
theorem ty_68 : ty 68 = some ⟨.one,1,8,[.nilfunc]⟩ := rfl
theorem ty_69 : ty 69 = some ⟨.one,1,8,[.nilfunc]⟩ := rfl
theorem ty_71 : ty 71 = some ⟨.one,1,8,[.nilfunc]⟩ := rfl
theorem ty_72 : ty 72 = some ⟨.one,1,8,[.nilfunc]⟩ := rfl
theorem ty_73 : ty 73 = some ⟨.one,1,8,[.nilfunc]⟩ := rfl
theorem ty_74 : ty 74 = some ⟨.one,1,8,[.nilfunc]⟩ := rfl
theorem ty_75 : ty 75 = some ⟨.struct [(0,3),(1,9)],2,24,[.int .i64 0,.str ByteArray.empty]⟩ := rfl
theorem ty_76 : ty 76 = some ⟨.struct [(0,3),(1,9)],2,24,[.int .i64 0,.str ByteArray.empty]⟩ := rfl
theorem ty_78 : ty 78 = some ⟨.one,1,8,[.nilfunc]⟩ := rfl
theorem ty_79 : ty 79 = some ⟨.one,1,8,[.nilfunc]⟩ := rfl
theorem ty_80 : ty 80 = some ⟨.one,1,8,[.nilfunc]⟩ := rfl
theorem ty_81 : ty 81 = some ⟨.one,1,8,[.nilfunc]⟩ := rfl
theorem ty_82 : ty 82 = some ⟨.one,1,8,[.nilfunc]⟩ := rfl
theorem ty_83 : ty 83 = some ⟨.struct [(0,3),(1,3)],2,16,[.int .i64 0,.int .i64 0]⟩ := rfl
theorem ty_84 : ty 84 = some ⟨.struct [(0,3),(1,3)],2,16,[.int .i64 0,.int .i64 0]⟩ := rfl
theorem ty_85 : ty 85 = some ⟨.struct [(0,30),(1,84)],3,40,[.slice 1 [],.int .i64 0,.int .i64 0]⟩ := rfl
theorem ty_86 : ty 86 = some ⟨.struct [(0,30),(1,84)],3,40,[.slice 1 [],.int .i64 0,.int .i64 0]⟩ := rfl
theorem ty_87 : ty 87 = some ⟨.one,1,8,[.nilfunc]⟩ := rfl
theorem ty_89 : ty 89 = some ⟨.one,1,8,[.nilfunc]⟩ := rfl
theorem ty_90 : ty 90 = some ⟨.one,1,8,[.nilfunc]⟩ := rfl
theorem ty_91 : ty 91 = some ⟨.one,1,8,[.nilfunc]⟩ := rfl
theorem ty_92 : ty 92 = some ⟨.one,1,8,[.nilfunc]⟩ := rfl
theorem ty_93 : ty 93 = some ⟨.one,1,8,[.nilfunc]⟩ := rfl
theorem ty_94 : ty 94 = some ⟨.one,1,8,[.nilfunc]⟩ := rfl
theorem ty_95 : ty 95 = some ⟨.one,1,8,[.nilfunc]⟩ := rfl
theorem ty_96 : ty 96 = some ⟨.one,1,8,[.nilfunc]⟩ := rfl
theorem ty_97 : ty 97 = some ⟨.one,1,8,[.nilfunc]⟩ := rfl
theorem ty_98 : ty 98 = some ⟨.one,1,8,[.nilfunc]⟩ := rfl
theorem ty_99 : ty 99 = some ⟨.one,1,8,[.nilfunc]⟩ := rfl
theorem ty_100 : ty 100 = some ⟨.one,1,8,[.nilfunc]⟩ := rfl
theorem ty_101 : ty 101 = some ⟨.one,1,8,[.nilfunc]⟩ := rfl
theorem ty_102 : ty 102 = some ⟨.one,1,8,[.nilptr]⟩ := rfl
theorem ty_104 : ty 104 = some ⟨.one,1,8,[.nilfunc]⟩ := rfl
theorem ty_105 : ty 105 = some ⟨.one,1,8,[.nilfunc]⟩ := rfl
theorem ty_106 : ty 106 = some ⟨.one,1,8,[.nilfunc]⟩ := rfl
theorem ty_107 : ty 107 = some ⟨.one,1,8,[.nilfunc]⟩ := rfl
theorem ty_108 : ty 108 = some ⟨.array 5 3,5,40,[.int .i64 0,.int .i64 0,.int .i64 0,.int .i64 0,.int .i64 0]⟩ := rfl
theorem ty_109 : ty 109 = some ⟨.array 5 3,5,40,[.int .i64 0,.int .i64 0,.int .i64 0,.int .i64 0,.int .i64 0]⟩ := rfl
theorem ty_111 : ty 111 = some ⟨.one,1,8,[.nilptr]⟩ := rfl
theorem ty_112 : ty 112 = some ⟨.one,1,8,[.nilfunc]⟩ := rfl
theorem ty_113 : ty 113 = some ⟨.one,1,8,[.nilfunc]⟩ := rfl
theorem ty_115 : ty 115 = some ⟨.one,1,8,[.nilfunc]⟩ := rfl
theorem ty_116 : ty 116 = some ⟨.one,1,8,[.nilfunc]⟩ := rfl
theorem ty_117 : ty 117 = some ⟨.one,1,8,[.nilfunc]⟩ := rfl
theorem ty_118 : ty 118 = some ⟨.one,1,8,[.nilfunc]⟩ := rfl
theorem ty_119 : ty 119 = some ⟨.array 3 3,3,24,[.int .i64 0,.int .i64 0,.int .i64 0]⟩ := rfl
theorem ty_120 : ty 120 = some ⟨.array 3 3,3,24,[.int .i64 0,.int .i64 0,.int .i64 0]⟩ := rfl
theorem ty_121 : ty 121 = some ⟨.map 3 3,1,8,[.nilmap]⟩ := rfl
theorem ty_122 : ty 122 = some ⟨.struct [(0,38),(6,120),(9,121)],10,128,[.int .i64 0,.int .i64 0,.slice 1 [],.int .i64 0,.slice 4 [],.slice 2 [],.int .i64 0,.int .i64 0,.int .i64 0,.nilmap]⟩ := rfl
theorem ty_123 : ty 123 = some ⟨.struct [(0,38),(6,120),(9,121)],10,128,[.int .i64 0,.int .i64 0,.slice 1 [],.int .i64 0,.slice 4 [],.slice 2 [],.int .i64 0,.int .i64 0,.int .i64 0,.nilmap]⟩ := rfl
theorem ty_125 : ty 125 = some ⟨.one,1,8,[.nilfunc]⟩ := rfl
theorem ty_126 : ty 126 = some ⟨.one,1,8,[.nilfunc]⟩ := rfl
theorem ty_127 : ty 127 = some ⟨.struct [(0,126)],1,8,[.nilfunc]⟩ := rfl
theorem ty_128 : ty 128 = some ⟨.struct [(0,126)],1,8,[.nilfunc]⟩ := rfl
theorem ty_129 : ty 129 = some ⟨.one,1,8,[.nilptr]⟩ := rfl
theorem ty_130 : ty 130 = some ⟨.one,1,8,[.nilfunc]⟩ := rfl
theorem ty_131 : ty 131 = some ⟨.struct [(0,3),(1,3)],2,16,[.int .i64 0,.int .i64 0]⟩ := rfl
theorem ty_132 : ty 132 = some ⟨.struct [(0,3),(1,3)],2,16,[.int .i64 0,.int .i64 0]⟩ := rfl
theorem ty_134 : ty 134 = some ⟨.one,1,8,[.nilfunc]⟩ := rfl
theorem ty_135 : ty 135 = some ⟨.one,1,8,[.nilfunc]⟩ := rfl
theorem ty_136 : ty 136 = some ⟨.struct [(0,3),(1,9)],2,24,[.int .i64 0,.str ByteArray.empty]⟩ := rfl
theorem ty_137 : ty 137 = some ⟨.struct [(0,3),(1,9)],2,24,[.int .i64 0,.str ByteArray.empty]⟩ := rfl
theorem ty_138 : ty 138 = some ⟨.one,1,8,[.nilfunc]⟩ := rfl
theorem ty_139 : ty 139 = some ⟨.struct [(0,4),(1,4),(2,138)],3,16,[.bool false,.bool false,.nilfunc]⟩ := rfl
theorem ty_140 : ty 140 = some ⟨.struct [(0,4),(1,4),(2,138)],3,16,[.bool false,.bool false,.nilfunc]⟩ := rfl
theorem ty_141 : ty 141 = some ⟨.array 4 140,12,64,[.bool false,.bool false,.nilfunc,.bool false,.bool false,.nilfunc,.bool false,.bool false,.nilfunc,.bool false,.bool false,.nilfunc]⟩ := rfl
theorem ty_142 : ty 142 = some ⟨.one,1,8,[.nilfunc]⟩ := rfl
theorem ty_144 : ty 144 = some ⟨.one,1,8,[.nilfunc]⟩ := rfl
theorem ty_145 : ty 145 = some ⟨.slice 159,1,24,[.slice 3 []]⟩ := rfl
theorem ty_146 : ty 146 = some ⟨.struct [(0,9),(1,145)],2,40,[.str ByteArray.empty,.slice 3 []]⟩ := rfl
theorem ty_147 : ty 147 = some ⟨.struct [(0,9),(1,145)],2,40,[.str ByteArray.empty,.slice 3 []]⟩ := rfl
theorem ty_148 : ty 148 = some ⟨.one,1,8,[.nilfunc]⟩ := rfl
theorem ty_149 : ty 149 = some ⟨.one,1,8,[.nilfunc]⟩ := rfl
theorem ty_150 : ty 150 = some ⟨.one,1,8,[.nilptr]⟩ := rfl
theorem ty_152 : ty 152 = some ⟨.one,1,8,[.nilfunc]⟩ := rfl
theorem ty_153 : ty 153 = some ⟨.struct [(0,3),(1,108)],6,48,[.int .i64 0,.int .i64 0,.int .i64 0,.int .i64 0,.int .i64 0,.int .i64 0]⟩ := rfl
theorem ty_154 : ty 154 = some ⟨.struct [(0,3),(1,108)],6,48,[.int .i64 0,.int .i64 0,.int .i64 0,.int .i64 0,.int .i64 0,.int .i64 0]⟩ := rfl
theorem ty_156 : ty 156 = some ⟨.one,1,8,[.nilfunc]⟩ := rfl
theorem ty_157 : ty 157 = some ⟨.one,1,8,[.nilfunc]⟩ := rfl
theorem ty_158 : ty 158 = some ⟨.struct [(0,5),(1,3),(2,4)],3,24,[.int .u8 0,.int .i64 0,.bool false]⟩ := rfl
theorem ty_159 : ty 159 = some ⟨.struct [(0,5),(1,3),(2,4)],3,24,[.int .u8 0,.int .i64 0,.bool false]⟩ := rfl
theorem ty_161 : ty 161 = some ⟨.one,1,8,[.nilfunc]⟩ := rfl
theorem ty_162 : ty 162 = some ⟨.one,1,8,[.nilfunc]⟩ := rfl
theorem ty_163 : ty 163 = some ⟨.one,1,8,[.nilfunc]⟩ := rfl
theorem ty_164 : ty 164 = some ⟨.one,1,8,[.nilfunc]⟩ := rfl
theorem ty_165 : ty 165 = some ⟨.one,1,8,[.nilfunc]⟩ := rfl
theorem ty_166 : ty 166 = some ⟨.one,1,8,[.nilfunc]⟩ := rfl
theorem ty_167 : ty 167 = some ⟨.one,1,8,[.nilfunc]⟩ := rfl
theorem ty_168 : ty 168 = some ⟨.one,1,8,[.nilfunc]⟩ := rfl
theorem ty_169 : ty 169 = some ⟨.one,1,8,[.nilfunc]⟩ := rfl
theorem ty_170 : ty 170 = some ⟨.one,1,8,[.nilfunc]⟩ := rfl
theorem ty_171 : ty 171 = some ⟨.slice 84,1,24,[.mslice 0 0 0 0]⟩ := rfl
theorem ty_172 : ty 172 = some ⟨.one,1,8,[.nilfunc]⟩ := rfl
theorem ty_173 : ty 173 = some ⟨.one,1,8,[.nilfunc]⟩ := rfl
theorem ty_174 : ty 174 = some ⟨.one,1,8,[.nilfunc]⟩ := rfl
theorem ty_175 : ty 175 = some ⟨.struct [(0,34),(2,171)],3,64,[.str ByteArray.empty,.mslice 0 0 0 0,.mslice 0 0 0 0]⟩ := rfl
theorem ty_176 : ty 176 = some ⟨.struct [(0,34),(2,171)],3,64,[.str ByteArray.empty,.mslice 0 0 0 0,.mslice 0 0 0 0]⟩ := rfl
theorem ty_177 : ty 177 = some ⟨.one,1,8,[.nilfunc]⟩ := rfl
theorem ty_178 : ty 178 = some ⟨.one,1,8,[.nilfunc]⟩ := rfl
theorem ty_179 : ty 179 = some ⟨.one,1,8,[.nilfunc]⟩ := rfl
theorem ty_180 : ty 180 = some ⟨.one,1,8,[.nilfunc]⟩ := rfl
theorem ty_181 : ty 181 = some ⟨.map 154 3,1,8,[.nilmap]⟩ := rfl
theorem ty_182 : ty 182 = some ⟨.struct [(0,58),(3,181)],4,64,[.int .i64 0,.slice 2 [],.slice 2 [],.nilmap]⟩ := rfl
theorem ty_183 : ty 183 = some ⟨.struct [(0,58),(3,181)],4,64,[.int .i64 0,.slice 2 [],.slice 2 [],.nilmap]⟩ := rfl
theorem ty_184 : ty 184 = some ⟨.one,1,8,[.nilfunc]⟩ := rfl
theorem ty_185 : ty 185 = some ⟨.one,1,8,[.nilfunc]⟩ := rfl
theorem ty_186 : ty 186 = some ⟨.one,1,8,[.nilfunc]⟩ := rfl
theorem ty_187 : ty 187 = some ⟨.one,1,8,[.nilfunc]⟩ := rfl
theorem ty_188 : ty 188 = some ⟨.struct [(0,3),(1,3)],2,16,[.int .i64 0,.int .i64 0]⟩ := rfl
theorem ty_189 : ty 189 = some ⟨.struct [(0,3),(1,3)],2,16,[.int .i64 0,.int .i64 0]⟩ := rfl
theorem ty_190 : ty 190 = some ⟨.one,1,8,[.nilfunc]⟩ := rfl
theorem ty_191 : ty 191 = some ⟨.one,1,8,[.nilfunc]⟩ := rfl
theorem ty_192 : ty 192 = some ⟨.one,1,8,[.nilfunc]⟩ := rfl
theorem ty_193 : ty 193 = some ⟨.one,1,8,[.nilfunc]⟩ := rfl
theorem ty_194 : ty 194 = some ⟨.one,1,8,[.nilfunc]⟩ := rfl
theorem ty_195 : ty 195 = some ⟨.one,1,8,[.nilfunc]⟩ := rfl
theorem ty_196 : ty 196 = some ⟨.one,1,8,[.nilfunc]⟩ := rfl
theorem ty_197 : ty 197 = some ⟨.one,1,8,[.nilfunc]⟩ := rfl
theorem ty_198 : ty 198 = some ⟨.one,1,8,[.nilfunc]⟩ := rfl
theorem ty_199 : ty 199 = some ⟨.one,1,8,[.nilfunc]⟩ := rfl
theorem ty_200 : ty 200 = some ⟨.one,1,8,[.nilfunc]⟩ := rfl
theorem ty_201 : ty 201 = some ⟨.one,1,8,[.nilfunc]⟩ := rfl
theorem ty_202 : ty 202 = some ⟨.one,1,8,[.nilfunc]⟩ := rfl
theorem ty_203 : ty 203 = some ⟨.one,1,8,[.nilfunc]⟩ := rfl
theorem ty_204 : ty 204 = some ⟨.map 132 3,1,8,[.nilmap]⟩ := rfl
theorem ty_205 : ty 205 = some ⟨.struct [(0,30),(1,30),(2,204)],3,56,[.slice 1 [],.slice 1 [],.nilmap]⟩ := rfl
theorem ty_206 : ty 206 = some ⟨.struct [(0,30),(1,30),(2,204)],3,56,[.slice 1 [],.slice 1 [],.nilmap]⟩ := rfl
theorem ty_208 : ty 208 = some ⟨.one,1,8,[.nilfunc]⟩ := rfl
theorem ty_209 : ty 209 = some ⟨.one,1,8,[.nilfunc]⟩ := rfl
theorem ty_210 : ty 210 = some ⟨.one,1,8,[.nilfunc]⟩ := rfl
theorem ty_211 : ty 211 = some ⟨.one,1,8,[.nilfunc]⟩ := rfl
theorem ty_212 : ty 212 = some ⟨.one,1,8,[.nilfunc]⟩ := rfl
theorem ty_213 : ty 213 = some ⟨.one,1,8,[.nilfunc]⟩ := rfl
theorem ty_214 : ty 214 = some ⟨.one,1,8,[.nilfunc]⟩ := rfl
theorem ty_216 : ty 216 = some ⟨.one,1,8,[.nilfunc]⟩ := rfl
theorem ty_217 : ty 217 = some ⟨.one,1,8,[.nilfunc]⟩ := rfl
theorem ty_218 : ty 218 = some ⟨.one,1,8,[.nilfunc]⟩ := rfl
theorem ty_219 : ty 219 = some ⟨.one,1,8,[.nilfunc]⟩ := rfl
theorem ty_220 : ty 220 = some ⟨.one,1,8,[.nilfunc]⟩ := rfl
theorem ty_221 : ty 221 = some ⟨.one,1,8,[.nilfunc]⟩ := rfl
theorem ty_222 : ty 222 = some ⟨.one,1,8,[.nilfunc]⟩ := rfl
theorem ty_223 : ty 223 = some ⟨.one,1,8,[.nilptr]⟩ := rfl
theorem ty_224 : ty 224 = some ⟨.struct [(0,223),(1,59)],2,32,[.nilptr,.slice 1 []]⟩ := rfl
theorem ty_225 : ty 225 = some ⟨.struct [(0,223),(1,59)],2,32,[.nilptr,.slice 1 []]⟩ := rfl
theorem ty_228 : ty 228 = some ⟨.one,1,8,[.nilfunc]⟩ := rfl
theorem ty_230 : ty 230 = some ⟨.one,1,8,[.nilfunc]⟩ := rfl
theorem ty_231 : ty 231 = some ⟨.one,1,8,[.nilfunc]⟩ := rfl
theorem ty_232 : ty 232 = some ⟨.slice 234,1,24,[.slice 2 []]⟩ := rfl
theorem ty_233 : ty 233 = some ⟨.struct [(0,3),(1,3)],2,16,[.int .i64 0,.int .i64 0]⟩ := rfl
theorem ty_234 : ty 234 = some ⟨.struct [(0,3),(1,3)],2,16,[.int .i64 0,.int .i64 0]⟩ := rfl
theorem ty_235 : ty 235 = some ⟨.one,1,8,[.nilfunc]⟩ := rfl
theorem ty_236 : ty 236 = some ⟨.one,1,8,[.nilfunc]⟩ := rfl
theorem ty_237 : ty 237 = some ⟨.one,1,8,[.nilfunc]⟩ := rfl
theorem ty_238 : ty 238 = some ⟨.one,1,8,[.nilfunc]⟩ := rfl
theorem ty_239 : ty 239 = some ⟨.one,1,8,[.nilfunc]⟩ := rfl
theorem ty_240 : ty 240 = some ⟨.one,1,8,[.nilfunc]⟩ := rfl
theorem ty_241 : ty 241 = some ⟨.one,1,8,[.nilfunc]⟩ := rfl
theorem ty_242 : ty 242 = some ⟨.one,1,8,[.nilfunc]⟩ := rfl
theorem ty_243 : ty 243 = some ⟨.one,1,8,[.nilfunc]⟩ := rfl
theorem ty_244 : ty 244 = some ⟨.one,1,8,[.nilfunc]⟩ := rfl
theorem ty_245 : ty 245 = some ⟨.one,1,8,[.nilfunc]⟩ := rfl
theorem ty_246 : ty 246 = some ⟨.one,1,8,[.nilfunc]⟩ := rfl
theorem ty_247 : ty 247 = some ⟨.one,1,8,[.nilfunc]⟩ := rfl
theorem ty_248 : ty 248 = some ⟨.slice 252,1,24,[.slice 2 []]⟩ := rfl
theorem ty_249 : ty 249 = some ⟨.one,1,8,[.nilfunc]⟩ := rfl
theorem ty_250 : ty 250 = some ⟨.one,1,8,[.nilfunc]⟩ := rfl
theorem ty_251 : ty 251 = some ⟨.struct [(0,26),(1,250)],2,16,[.int .i64 0,.nilfunc]⟩ := rfl
theorem ty_252 : ty 252 = some ⟨.struct [(0,26),(1,250)],2,16,[.int .i64 0,.nilfunc]⟩ := rfl
theorem ty_253 : ty 253 = some ⟨.one,1,8,[.nilfunc]⟩ := rfl
theorem ty_254 : ty 254 = some ⟨.one,1,8,[.nilfunc]⟩ := rfl
theorem ty_255 : ty 255 = some ⟨.one,1,8,[.nilfunc]⟩ := rfl
theorem ty_256 : ty 256 = some ⟨.one,1,8,[.nilfunc]⟩ := rfl
theorem ty_257 : ty 257 = some ⟨.one,1,8,[.nilfunc]⟩ := rfl
theorem ty_258 : ty 258 = some ⟨.one,1,8,[.nilfunc]⟩ := rfl
theorem ty_259 : ty 259 = some ⟨.one,1,8,[.nilfunc]⟩ := rfl
theorem ty_260 : ty 260 = some ⟨.one,1,8,[.nilfunc]⟩ := rfl
theorem ty_261 : ty 261 = some ⟨.one,1,8,[.nilfunc]⟩ := rfl
theorem ty_262 : ty 262 = some ⟨.one,1,8,[.nilfunc]⟩ := rfl
theorem ty_263 : ty 263 = some ⟨.one,1,8,[.nilfunc]⟩ := rfl
theorem ty_264 : ty 264 = some ⟨.one,1,8,[.nilfunc]⟩ := rfl
theorem ty_265 : ty 265 = some ⟨.one,1,8,[.nilptr]⟩ := rfl
theorem ty_266 : ty 266 = some ⟨.one,1,8,[.nilfunc]⟩ := rfl
theorem ty_267 : ty 267 = some ⟨.one,1,8,[.nilfunc]⟩ := rfl
theorem ty_269 : ty 269 = some ⟨.one,1,8,[.nilfunc]⟩ := rfl
theorem ty_270 : ty 270 = some ⟨.struct [(0,17),(1,17),(2,17),(3,9)],4,40,[.nilptr,.nilptr,.nilptr,.str ByteArray.empty]⟩ := rfl
theorem ty_275 : ty 275 = some ⟨.one,1,8,[.nilfunc]⟩ := rfl
theorem ty_276 : ty 276 = some ⟨.int .u32,1,4,[.int .u32 0]⟩ := rfl
theorem ty_279 : ty 279 = some ⟨.one,1,8,[.nilfunc]⟩ := rfl
theorem tyok_1 : TyOk Tryz.prog 1 ⟨.one,1,8,[.nilfunc]⟩ := tyOk_func (by kernel_rfl : Tryz.prog.info? 1 = some Tryz.t1) rfl rfl Tryz.underlying1 rfl
theorem tyok_2 : TyOk Tryz.prog 2 ⟨.int .i64,1,8,[.int .i64 0]⟩ := tyOk_int (by kernel_rfl : Tryz.prog.info? 2 = some Tryz.t2) rfl rfl Tryz.underlying2 rfl
theorem tyok_3 : TyOk Tryz.prog 3 ⟨.int .i64,1,8,[.int .i64 0]⟩ := tyOk_int (by kernel_rfl : Tryz.prog.info? 3 = some Tryz.t3) rfl rfl Tryz.underlying3 rfl
theorem tyok_4 : TyOk Tryz.prog 4 ⟨.bool,1,1,[.bool false]⟩ := tyOk_bool (by kernel_rfl : Tryz.prog.info? 4 = some Tryz.t4) rfl rfl Tryz.underlying4 rfl
theorem tyok_5 : TyOk Tryz.prog 5 ⟨.int .u8,1,1,[.int .u8 0]⟩ := tyOk_int (by kernel_rfl : Tryz.prog.info? 5 = some Tryz.t5) rfl rfl Tryz.underlying5 rfl
theorem tyok_9 : TyOk Tryz.prog 9 ⟨.string,1,16,[.str ByteArray.empty]⟩ := tyOk_string (by kernel_rfl : Tryz.prog.info? 9 = some Tryz.t9) rfl rfl Tryz.underlying9 rfl
theorem tyok_12 : TyOk Tryz.prog 12 ⟨.int .u64,1,8,[.int .u64 0]⟩ := tyOk_int (by kernel_rfl : Tryz.prog.info? 12 = some Tryz.t12) rfl rfl Tryz.underlying12 rfl
theorem tyok_13 : TyOk Tryz.prog 13 ⟨.struct [(0,9),(1,12)],2,24,[.str ByteArray.empty,.int .u64 0]⟩ := tyOk_struct (by kernel_rfl : Tryz.prog.info? 13 = some Tryz.t13) rfl Tryz.underlying13 rfl rfl rfl (fun _ _ => .cons (.str _) (.cons (.int _ _) (.nil))) rfl rfl (by kernel_rfl)
theorem tyok_15 : TyOk Tryz.prog 15 ⟨.one,1,8,[.nilptr]⟩ := tyOk_ptr (by kernel_rfl : Tryz.prog.info? 15 = some Tryz.t15) rfl rfl Tryz.underlying15 rfl
theorem tyok_16 : TyOk Tryz.prog 16 ⟨.one,1,8,[.nilptr]⟩ := tyOk_ptr (by kernel_rfl : Tryz.prog.info? 16 = some Tryz.t16) rfl rfl Tryz.underlying16 rfl
theorem tyok_17 : TyOk Tryz.prog 17 ⟨.one,1,8,[.nilptr]⟩ := tyOk_ptr (by kernel_rfl : Tryz.prog.info? 17 = some Tryz.t17) rfl rfl Tryz.underlying17 rfl
theorem tyok_18 : TyOk Tryz.prog 18 ⟨.struct [(0,17)],1,8,[.nilptr]⟩ := tyOk_struct (by kernel_rfl : Tryz.prog.info? 18 = some Tryz.t18) rfl Tryz.underlying18 rfl rfl rfl (fun _ _ => .cons (.nilptr) (.nil)) rfl rfl (by kernel_rfl)
theorem tyok_21 : TyOk Tryz.prog 21 ⟨.int .i32,1,4,[.int .i32 0]⟩ := tyOk_int (by kernel_rfl : Tryz.prog.info? 21 = some Tryz.t21) rfl rfl Tryz.underlying21 rfl
theorem tyok_22 : TyOk Tryz.prog 22 ⟨.slice 34,1,24,[.slice 2 []]⟩ := tyOk_slice (by kernel_rfl : Tryz.prog.info? 22 = some Tryz.t22) rfl rfl Tryz.underlying22 rfl
theorem tyok_23 : TyOk Tryz.prog 23 ⟨.struct [(0,3),(1,22)],2,32,[.int .i64 0,.slice 2 []]⟩ := tyOk_struct (by kernel_rfl : Tryz.prog.info? 23 = some Tryz.t23) rfl Tryz.underlying23 rfl rfl rfl (fun _ _ => .cons (.int _ _) (.cons (.nilslice _) (.nil))) rfl rfl (by kernel_rfl)
theorem tyok_24 : TyOk Tryz.prog 24 ⟨.struct [(0,3),(1,22)],2,32,[.int .i64 0,.slice 2 []]⟩ := tyOk_struct (by kernel_rfl : Tryz.prog.info? 24 = some Tryz.t24) rfl Tryz.underlying24 rfl rfl rfl (fun _ _ => .cons (.int _ _) (.cons (.nilslice _) (.nil))) rfl rfl (by kernel_rfl)
theorem tyok_25 : TyOk Tryz.prog 25 ⟨.slice 30,1,24,[.slice 1 []]⟩ := tyOk_slice (by kernel_rfl : Tryz.prog.info? 25 = some Tryz.t25) rfl rfl Tryz.underlying25 rfl
theorem tyok_26 : TyOk Tryz.prog 26 ⟨.int .i64,1,8,[.int .i64 0]⟩ := tyOk_int (by kernel_rfl : Tryz.prog.info? 26 = some Tryz.t26) rfl rfl Tryz.underlying26 rfl
theorem tyok_28 : TyOk Tryz.prog 28 ⟨.one,1,8,[.nilfunc]⟩ := tyOk_func (by kernel_rfl : Tryz.prog.info? 28 = some Tryz.t28) rfl rfl Tryz.underlying28 rfl
theorem tyok_29 : TyOk Tryz.prog 29 ⟨.one,1,8,[.nilfunc]⟩ := tyOk_func (by kernel_rfl : Tryz.prog.info? 29 = some Tryz.t29) rfl rfl Tryz.underlying29 rfl
theorem tyok_30 : TyOk Tryz.prog 30 ⟨.slice 9,1,24,[.slice 1 []]⟩ := tyOk_slice (by kernel_rfl : Tryz.prog.info? 30 = some Tryz.t30) rfl rfl Tryz.underlying30 rfl
theorem tyok_31 : TyOk Tryz.prog 31 ⟨.one,1,8,[.nilfunc]⟩ := tyOk_func (by kernel_rfl : Tryz.prog.info? 31 = some Tryz.t31) rfl rfl Tryz.underlying31 rfl
theorem tyok_32 : TyOk Tryz.prog 32 ⟨.slice 86,1,24,[.slice 3 []]⟩ := tyOk_slice (by kernel_rfl : Tryz.prog.info? 32 = some Tryz.t32) rfl rfl Tryz.underlying32 rfl
theorem tyok_33 : TyOk Tryz.prog 33 ⟨.struct [(0,9),(1,32)],2,40,[.str ByteArray.empty,.slice 3 []]⟩ := tyOk_struct (by kernel_rfl : Tryz.prog.info? 33 = some Tryz.t33) rfl Tryz.underlying33 rfl rfl rfl (fun _ _ => .cons (.str _) (.cons (.nilslice _) (.nil))) rfl rfl (by kernel_rfl)
theorem tyok_34 : TyOk Tryz.prog 34 ⟨.struct [(0,9),(1,32)],2,40,[.str ByteArray.empty,.slice 3 []]⟩ := tyOk_struct (by kernel_rfl : Tryz.prog.info? 34 = some Tryz.t34) rfl Tryz.underlying34 rfl rfl rfl (fun _ _ => .cons (.str _) (.cons (.nilslice _) (.nil))) rfl rfl (by kernel_rfl)
theorem tyok_35 : TyOk Tryz.prog 35 ⟨.slice 42,1,24,[.slice 4 []]⟩ := tyOk_slice (by kernel_rfl : Tryz.prog.info? 35 = some Tryz.t35) rfl rfl Tryz.underlying35 rfl
theorem tyok_36 : TyOk Tryz.prog 36 ⟨.slice 189,1,24,[.slice 2 []]⟩ := tyOk_slice (by kernel_rfl : Tryz.prog.info? 36 = some Tryz.t36) rfl rfl Tryz.underlying36 rfl
theorem tyok_37 : TyOk Tryz.prog 37 ⟨.struct [(0,3),(1,3),(2,30),(3,3),(4,35),(5,36)],6,96,[.int .i64 0,.int .i64 0,.slice 1 [],.int .i64 0,.slice 4 [],.slice 2 []]⟩ := tyOk_struct (by kernel_rfl : Tryz.prog.info? 37 = some Tryz.t37) rfl Tryz.underlying37 rfl rfl rfl (fun _ _ => .cons (.int _ _) (.cons (.int _ _) (.cons (.nilslice _) (.cons (.int _ _) (.cons (.nilslice _) (.cons (.nilslice _) (.nil))))))) rfl rfl (by kernel_rfl)
theorem tyok_38 : TyOk Tryz.prog 38 ⟨.struct [(0,3),(1,3),(2,30),(3,3),(4,35),(5,36)],6,96,[.int .i64 0,.int .i64 0,.slice 1 [],.int .i64 0,.slice 4 [],.slice 2 []]⟩ := tyOk_struct (by kernel_rfl : Tryz.prog.info? 38 = some Tryz.t38) rfl Tryz.underlying38 rfl rfl rfl (fun _ _ => .cons (.int _ _) (.cons (.int _ _) (.cons (.nilslice _) (.cons (.int _ _) (.cons (.nilslice _) (.cons (.nilslice _) (.nil))))))) rfl rfl (by kernel_rfl)
theorem tyok_39 : TyOk Tryz.prog 39 ⟨.one,1,8,[.nilfunc]⟩ := tyOk_func (by kernel_rfl : Tryz.prog.info? 39 = some Tryz.t39) rfl rfl Tryz.underlying39 rfl
theorem tyok_40 : TyOk Tryz.prog 40 ⟨.one,1,8,[.nilfunc]⟩ := tyOk_func (by kernel_rfl : Tryz.prog.info? 40 = some Tryz.t40) rfl rfl Tryz.underlying40 rfl
theorem tyok_41 : TyOk Tryz.prog 41 ⟨.struct [(0,3),(1,3),(2,3),(3,3)],4,32,[.int .i64 0,.int .i64 0,.int .i64 0,.int .i64 0]⟩ := tyOk_struct (by kernel_rfl : Tryz.prog.info? 41 = some Tryz.t41) rfl Tryz.underlying41 rfl rfl rfl (fun _ _ => .cons (.int _ _) (.cons (.int _ _) (.cons (.int _ _) (.cons (.int _ _) (.nil))))) rfl rfl (by kernel_rfl)
theorem tyok_42 : TyOk Tryz.prog 42 ⟨.struct [(0,3),(1,3),(2,3),(3,3)],4,32,[.int .i64 0,.int .i64 0,.int .i64 0,.int .i64 0]⟩ := tyOk_struct (by kernel_rfl : Tryz.prog.info? 42 = some Tryz.t42) rfl Tryz.underlying42 rfl rfl rfl (fun _ _ => .cons (.int _ _) (.cons (.int _ _) (.cons (.int _ _) (.cons (.int _ _) (.nil))))) rfl rfl (by kernel_rfl)
theorem tyok_43 : TyOk Tryz.prog 43 ⟨.slice 3,1,24,[.slice 1 []]⟩ := tyOk_slice (by kernel_rfl : Tryz.prog.info? 43 = some Tryz.t43) rfl rfl Tryz.underlying43 rfl
theorem tyok_45 : TyOk Tryz.prog 45 ⟨.one,1,8,[.nilfunc]⟩ := tyOk_func (by kernel_rfl : Tryz.prog.info? 45 = some Tryz.t45) rfl rfl Tryz.underlying45 rfl
theorem tyok_46 : TyOk Tryz.prog 46 ⟨.one,1,8,[.nilfunc]⟩ := tyOk_func (by kernel_rfl : Tryz.prog.info? 46 = some Tryz.t46) rfl rfl Tryz.underlying46 rfl
theorem tyok_48 : TyOk Tryz.prog 48 ⟨.one,1,8,[.nilfunc]⟩ := tyOk_func (by kernel_rfl : Tryz.prog.info? 48 = some Tryz.t48) rfl rfl Tryz.underlying48 rfl
theorem tyok_49 : TyOk Tryz.prog 49 ⟨.one,1,8,[.nilfunc]⟩ := tyOk_func (by kernel_rfl : Tryz.prog.info? 49 = some Tryz.t49) rfl rfl Tryz.underlying49 rfl
theorem tyok_50 : TyOk Tryz.prog 50 ⟨.one,1,8,[.nilfunc]⟩ := tyOk_func (by kernel_rfl : Tryz.prog.info? 50 = some Tryz.t50) rfl rfl Tryz.underlying50 rfl
theorem tyok_51 : TyOk Tryz.prog 51 ⟨.slice 137,1,24,[.slice 2 []]⟩ := tyOk_slice (by kernel_rfl : Tryz.prog.info? 51 = some Tryz.t51) rfl rfl Tryz.underlying51 rfl
theorem tyok_53 : TyOk Tryz.prog 53 ⟨.one,1,8,[.nilfunc]⟩ := tyOk_func (by kernel_rfl : Tryz.prog.info? 53 = some Tryz.t53) rfl rfl Tryz.underlying53 rfl
theorem tyok_54 : TyOk Tryz.prog 54 ⟨.one,1,8,[.nilfunc]⟩ := tyOk_func (by kernel_rfl : Tryz.prog.info? 54 = some Tryz.t54) rfl rfl Tryz.underlying54 rfl
theorem tyok_55 : TyOk Tryz.prog 55 ⟨.slice 147,1,24,[.slice 2 []]⟩ := tyOk_slice (by kernel_rfl : Tryz.prog.info? 55 = some Tryz.t55) rfl rfl Tryz.underlying55 rfl
theorem tyok_56 : TyOk Tryz.prog 56 ⟨.slice 76,1,24,[.slice 2 []]⟩ := tyOk_slice (by kernel_rfl : Tryz.prog.info? 56 = some Tryz.t56) rfl rfl Tryz.underlying56 rfl
theorem tyok_57 : TyOk Tryz.prog 57 ⟨.struct [(0,3),(1,55),(2,56)],3,56,[.int .i64 0,.slice 2 [],.slice 2 []]⟩ := tyOk_struct (by kernel_rfl : Tryz.prog.info? 57 = some Tryz.t57) rfl Tryz.underlying57 rfl rfl rfl (fun _ _ => .cons (.int _ _) (.cons (.nilslice _) (.cons (.nilslice _) (.nil)))) rfl rfl (by kernel_rfl)
theorem tyok_58 : TyOk Tryz.prog 58 ⟨.struct [(0,3),(1,55),(2,56)],3,56,[.int .i64 0,.slice 2 [],.slice 2 []]⟩ := tyOk_struct (by kernel_rfl : Tryz.prog.info? 58 = some Tryz.t58) rfl Tryz.underlying58 rfl rfl rfl (fun _ _ => .cons (.int _ _) (.cons (.nilslice _) (.cons (.nilslice _) (.nil)))) rfl rfl (by kernel_rfl)
theorem tyok_59 : TyOk Tryz.prog 59 ⟨.slice 5,1,24,[.slice 1 []]⟩ := tyOk_slice (by kernel_rfl : Tryz.prog.info? 59 = some Tryz.t59) rfl rfl Tryz.underlying59 rfl
theorem tyok_60 : TyOk Tryz.prog 60 ⟨.array 2 5,2,2,[.int .u8 0,.int .u8 0]⟩ := tyOk_array (by kernel_rfl : Tryz.prog.info? 60 = some Tryz.t60) rfl Tryz.underlying60 rfl rfl (fun _ _ => .cons (.int _ _) (.cons (.int _ _) (.nil))) rfl rfl
theorem tyok_61 : TyOk Tryz.prog 61 ⟨.struct [(0,59),(1,59),(2,60),(4,59)],5,80,[.slice 1 [],.slice 1 [],.int .u8 0,.int .u8 0,.slice 1 []]⟩ := tyOk_struct (by kernel_rfl : Tryz.prog.info? 61 = some Tryz.t61) rfl Tryz.underlying61 rfl rfl rfl (fun _ _ => .cons (.nilslice _) (.cons (.nilslice _) (.cons (.int _ _) (.cons (.int _ _) (.cons (.nilslice _) (.nil)))))) rfl rfl (by kernel_rfl)
theorem tyok_62 : TyOk Tryz.prog 62 ⟨.struct [(0,59),(1,59),(2,60),(4,59)],5,80,[.slice 1 [],.slice 1 [],.int .u8 0,.int .u8 0,.slice 1 []]⟩ := tyOk_struct (by kernel_rfl : Tryz.prog.info? 62 = some Tryz.t62) rfl Tryz.underlying62 rfl rfl rfl (fun _ _ => .cons (.nilslice _) (.cons (.nilslice _) (.cons (.int _ _) (.cons (.int _ _) (.cons (.nilslice _) (.nil)))))) rfl rfl (by kernel_rfl)
theorem tyok_63 : TyOk Tryz.prog 63 ⟨.one,1,8,[.nilfunc]⟩ := tyOk_func (by kernel_rfl : Tryz.prog.info? 63 = some Tryz.t63) rfl rfl Tryz.underlying63 rfl
theorem tyok_65 : TyOk Tryz.prog 65 ⟨.one,1,8,[.nilfunc]⟩ := tyOk_func (by kernel_rfl : Tryz.prog.info? 65 = some Tryz.t65) rfl rfl Tryz.underlying65 rfl
theorem tyok_66 : TyOk Tryz.prog 66 ⟨.one,1,8,[.nilfunc]⟩ := tyOk_func (by kernel_rfl : Tryz.prog.info? 66 = some Tryz.t66) rfl rfl Tryz.underlying66 rfl
theorem tyok_67 : TyOk Tryz.prog 67 ⟨.one,1,8,[.nilfunc]⟩ := tyOk_func (by kernel_rfl : Tryz.prog.info? 67 = some Tryz.t67) rfl rfl Tryz.underlying67 rfl
theorem tyok_68 : TyOk Tryz.prog 68 ⟨.one,1,8,[.nilfunc]⟩ := tyOk_func (by kernel_rfl : Tryz.prog.info? 68 = some Tryz.t68) rfl rfl Tryz.underlying68 rfl
theorem tyok_69 : TyOk Tryz.prog 69 ⟨.one,1,8,[.nilfunc]⟩ := tyOk_func (by kernel_rfl : Tryz.prog.info? 69 = some Tryz.t69) rfl rfl Tryz.underlying69 rfl
theorem tyok_71 : TyOk Tryz.prog 71 ⟨.one,1,8,[.nilfunc]⟩ := tyOk_func (by kernel_rfl : Tryz.prog.info? 71 = some Tryz.t71) rfl rfl Tryz.underlying71 rfl
theorem tyok_72 : TyOk Tryz.prog 72 ⟨.one,1,8,[.nilfunc]⟩ := tyOk_func (by kernel_rfl : Tryz.prog.info? 72 = some Tryz.t72) rfl rfl Tryz.underlying72 rfl
theorem tyok_73 : TyOk Tryz.prog 73 ⟨.one,1,8,[.nilfunc]⟩ := tyOk_func (by kernel_rfl : Tryz.prog.info? 73 = some Tryz.t73) rfl rfl Tryz.underlying73 rfl
theorem tyok_74 : TyOk Tryz.prog 74 ⟨.one,1,8,[.nilfunc]⟩ := tyOk_func (by kernel_rfl : Tryz.prog.info? 74 = some Tryz.t74) rfl rfl Tryz.underlying74 rfl
theorem tyok_75 : TyOk Tryz.prog 75 ⟨.struct [(0,3),(1,9)],2,24,[.int .i64 0,.str ByteArray.empty]⟩ := tyOk_struct (by kernel_rfl : Tryz.prog.info? 75 = some Tryz.t75) rfl Tryz.underlying75 rfl rfl rfl (fun _ _ => .cons (.int _ _) (.cons (.str _) (.nil))) rfl rfl (by kernel_rfl)
theorem tyok_76 : TyOk Tryz.prog 76 ⟨.struct [(0,3),(1,9)],2,24,[.int .i64 0,.str ByteArray.empty]⟩ := tyOk_struct (by kernel_rfl : Tryz.prog.info? 76 = some Tryz.t76) rfl Tryz.underlying76 rfl rfl rfl (fun _ _ => .cons (.int _ _) (.cons (.str _) (.nil))) rfl rfl (by kernel_rfl)
theorem tyok_78 : TyOk Tryz.prog 78 ⟨.one,1,8,[.nilfunc]⟩ := tyOk_func (by kernel_rfl : Tryz.prog.info? 78 = some Tryz.t78) rfl rfl Tryz.underlying78 rfl
theorem tyok_79 : TyOk Tryz.prog 79 ⟨.one,1,8,[.nilfunc]⟩ := tyOk_func (by kernel_rfl : Tryz.prog.info? 79 = some Tryz.t79) rfl rfl Tryz.underlying79 rfl
theorem tyok_80 : TyOk Tryz.prog 80 ⟨.one,1,8,[.nilfunc]⟩ := tyOk_func (by kernel_rfl : Tryz.prog.info? 80 = some Tryz.t80) rfl rfl Tryz.underlying80 rfl
theorem tyok_81 : TyOk Tryz.prog 81 ⟨.one,1,8,[.nilfunc]⟩ := tyOk_func (by kernel_rfl : Tryz.prog.info? 81 = some Tryz.t81) rfl rfl Tryz.underlying81 rfl
theorem tyok_82 : TyOk Tryz.prog 82 ⟨.one,1,8,[.nilfunc]⟩ := tyOk_func (by kernel_rfl : Tryz.prog.info? 82 = some Tryz.t82) rfl rfl Tryz.underlying82 rfl
theorem tyok_83 : TyOk Tryz.prog 83 ⟨.struct [(0,3),(1,3)],2,16,[.int .i64 0,.int .i64 0]⟩ := tyOk_struct (by kernel_rfl : Tryz.prog.info? 83 = some Tryz.t83) rfl Tryz.underlying83 rfl rfl rfl (fun _ _ => .cons (.int _ _) (.cons (.int _ _) (.nil))) rfl rfl (by kernel_rfl)
theorem tyok_84 : TyOk Tryz.prog 84 ⟨.struct [(0,3),(1,3)],2,16,[.int .i64 0,.int .i64 0]⟩ := tyOk_struct (by kernel_rfl : Tryz.prog.info? 84 = some Tryz.t84) rfl Tryz.underlying84 rfl rfl rfl (fun _ _ => .cons (.int _ _) (.cons (.int _ _) (.nil))) rfl rfl (by kernel_rfl)
theorem tyok_85 : TyOk Tryz.prog 85 ⟨.struct [(0,30),(1,84)],3,40,[.slice 1 [],.int .i64 0,.int .i64 0]⟩ := tyOk_struct (by kernel_rfl : Tryz.prog.info? 85 = some Tryz.t85) rfl Tryz.underlying85 rfl rfl rfl (fun _ _ => .cons (.nilslice _) (.cons (.int _ _) (.cons (.int _ _) (.nil)))) rfl rfl (by kernel_rfl)
theorem tyok_86 : TyOk Tryz.prog 86 ⟨.struct [(0,30),(1,84)],3,40,[.slice 1 [],.int .i64 0,.int .i64 0]⟩ := tyOk_struct (by kernel_rfl : Tryz.prog.info? 86 = some Tryz.t86) rfl Tryz.underlying86 rfl rfl rfl (fun _ _ => .cons (.nilslice _) (.cons (.int _ _) (.cons (.int _ _) (.nil)))) rfl rfl (by kernel_rfl)
theorem tyok_87 : TyOk Tryz.prog 87 ⟨.one,1,8,[.nilfunc]⟩ := tyOk_func (by kernel_rfl : Tryz.prog.info? 87 = some Tryz.t87) rfl rfl Tryz.underlying87 rfl
theorem tyok_89 : TyOk Tryz.prog 89 ⟨.one,1,8,[.nilfunc]⟩ := tyOk_func (by kernel_rfl : Tryz.prog.info? 89 = some Tryz.t89) rfl rfl Tryz.underlying89 rfl
theorem tyok_90 : TyOk Tryz.prog 90 ⟨.one,1,8,[.nilfunc]⟩ := tyOk_func (by kernel_rfl : Tryz.prog.info? 90 = some Tryz.t90) rfl rfl Tryz.underlying90 rfl
theorem tyok_91 : TyOk Tryz.prog 91 ⟨.one,1,8,[.nilfunc]⟩ := tyOk_func (by kernel_rfl : Tryz.prog.info? 91 = some Tryz.t91) rfl rfl Tryz.underlying91 rfl
theorem tyok_92 : TyOk Tryz.prog 92 ⟨.one,1,8,[.nilfunc]⟩ := tyOk_func (by kernel_rfl : Tryz.prog.info? 92 = some Tryz.t92) rfl rfl Tryz.underlying92 rfl
theorem tyok_93 : TyOk Tryz.prog 93 ⟨.one,1,8,[.nilfunc]⟩ := tyOk_func (by kernel_rfl : Tryz.prog.info? 93 = some Tryz.t93) rfl rfl Tryz.underlying93 rfl
theorem tyok_94 : TyOk Tryz.prog 94 ⟨.one,1,8,[.nilfunc]⟩ := tyOk_func (by kernel_rfl : Tryz.prog.info? 94 = some Tryz.t94) rfl rfl Tryz.underlying94 rfl
theorem tyok_95 : TyOk Tryz.prog 95 ⟨.one,1,8,[.nilfunc]⟩ := tyOk_func (by kernel_rfl : Tryz.prog.info? 95 = some Tryz.t95) rfl rfl Tryz.underlying95 rfl
theorem tyok_96 : TyOk Tryz.prog 96 ⟨.one,1,8,[.nilfunc]⟩ := tyOk_func (by kernel_rfl : Tryz.prog.info? 96 = some Tryz.t96) rfl rfl Tryz.underlying96 rfl
theorem tyok_97 : TyOk Tryz.prog 97 ⟨.one,1,8,[.nilfunc]⟩ := tyOk_func (by kernel_rfl : Tryz.prog.info? 97 = some Tryz.t97) rfl rfl Tryz.underlying97 rfl
theorem tyok_98 : TyOk Tryz.prog 98 ⟨.one,1,8,[.nilfunc]⟩ := tyOk_func (by kernel_rfl : Tryz.prog.info? 98 = some Tryz.t98) rfl rfl Tryz.underlying98 rfl
theorem tyok_99 : TyOk Tryz.prog 99 ⟨.one,1,8,[.nilfunc]⟩ := tyOk_func (by kernel_rfl : Tryz.prog.info? 99 = some Tryz.t99) rfl rfl Tryz.underlying99 rfl
theorem tyok_100 : TyOk Tryz.prog 100 ⟨.one,1,8,[.nilfunc]⟩ := tyOk_func (by kernel_rfl : Tryz.prog.info? 100 = some Tryz.t100) rfl rfl Tryz.underlying100 rfl
theorem tyok_101 : TyOk Tryz.prog 101 ⟨.one,1,8,[.nilfunc]⟩ := tyOk_func (by kernel_rfl : Tryz.prog.info? 101 = some Tryz.t101) rfl rfl Tryz.underlying101 rfl
theorem tyok_102 : TyOk Tryz.prog 102 ⟨.one,1,8,[.nilptr]⟩ := tyOk_ptr (by kernel_rfl : Tryz.prog.info? 102 = some Tryz.t102) rfl rfl Tryz.underlying102 rfl
theorem tyok_104 : TyOk Tryz.prog 104 ⟨.one,1,8,[.nilfunc]⟩ := tyOk_func (by kernel_rfl : Tryz.prog.info? 104 = some Tryz.t104) rfl rfl Tryz.underlying104 rfl
theorem tyok_105 : TyOk Tryz.prog 105 ⟨.one,1,8,[.nilfunc]⟩ := tyOk_func (by kernel_rfl : Tryz.prog.info? 105 = some Tryz.t105) rfl rfl Tryz.underlying105 rfl
theorem tyok_106 : TyOk Tryz.prog 106 ⟨.one,1,8,[.nilfunc]⟩ := tyOk_func (by kernel_rfl : Tryz.prog.info? 106 = some Tryz.t106) rfl rfl Tryz.underlying106 rfl
theorem tyok_107 : TyOk Tryz.prog 107 ⟨.one,1,8,[.nilfunc]⟩ := tyOk_func (by kernel_rfl : Tryz.prog.info? 107 = some Tryz.t107) rfl rfl Tryz.underlying107 rfl
theorem tyok_108 : TyOk Tryz.prog 108 ⟨.array 5 3,5,40,[.int .i64 0,.int .i64 0,.int .i64 0,.int .i64 0,.int .i64 0]⟩ := tyOk_array (by kernel_rfl : Tryz.prog.info? 108 = some Tryz.t108) rfl Tryz.underlying108 rfl rfl (fun _ _ => .cons (.int _ _) (.cons (.int _ _) (.cons (.int _ _) (.cons (.int _ _) (.cons (.int _ _) (.nil)))))) rfl rfl
theorem tyok_109 : TyOk Tryz.prog 109 ⟨.array 5 3,5,40,[.int .i64 0,.int .i64 0,.int .i64 0,.int .i64 0,.int .i64 0]⟩ := tyOk_array (by kernel_rfl : Tryz.prog.info? 109 = some Tryz.t109) rfl Tryz.underlying109 rfl rfl (fun _ _ => .cons (.int _ _) (.cons (.int _ _) (.cons (.int _ _) (.cons (.int _ _) (.cons (.int _ _) (.nil)))))) rfl rfl
theorem tyok_111 : TyOk Tryz.prog 111 ⟨.one,1,8,[.nilptr]⟩ := tyOk_ptr (by kernel_rfl : Tryz.prog.info? 111 = some Tryz.t111) rfl rfl Tryz.underlying111 rfl
theorem tyok_112 : TyOk Tryz.prog 112 ⟨.one,1,8,[.nilfunc]⟩ := tyOk_func (by kernel_rfl : Tryz.prog.info? 112 = some Tryz.t112) rfl rfl Tryz.underlying112 rfl
theorem tyok_113 : TyOk Tryz.prog 113 ⟨.one,1,8,[.nilfunc]⟩ := tyOk_func (by kernel_rfl : Tryz.prog.info? 113 = some Tryz.t113) rfl rfl Tryz.underlying113 rfl
theorem tyok_115 : TyOk Tryz.prog 115 ⟨.one,1,8,[.nilfunc]⟩ := tyOk_func (by kernel_rfl : Tryz.prog.info? 115 = some Tryz.t115) rfl rfl Tryz.underlying115 rfl
theorem tyok_116 : TyOk Tryz.prog 116 ⟨.one,1,8,[.nilfunc]⟩ := tyOk_func (by kernel_rfl : Tryz.prog.info? 116 = some Tryz.t116) rfl rfl Tryz.underlying116 rfl
theorem tyok_117 : TyOk Tryz.prog 117 ⟨.one,1,8,[.nilfunc]⟩ := tyOk_func (by kernel_rfl : Tryz.prog.info? 117 = some Tryz.t117) rfl rfl Tryz.underlying117 rfl
theorem tyok_118 : TyOk Tryz.prog 118 ⟨.one,1,8,[.nilfunc]⟩ := tyOk_func (by kernel_rfl : Tryz.prog.info? 118 = some Tryz.t118) rfl rfl Tryz.underlying118 rfl
theorem tyok_119 : TyOk Tryz.prog 119 ⟨.array 3 3,3,24,[.int .i64 0,.int .i64 0,.int .i64 0]⟩ := tyOk_array (by kernel_rfl : Tryz.prog.info? 119 = some Tryz.t119) rfl Tryz.underlying119 rfl rfl (fun _ _ => .cons (.int _ _) (.cons (.int _ _) (.cons (.int _ _) (.nil)))) rfl rfl
theorem tyok_120 : TyOk Tryz.prog 120 ⟨.array 3 3,3,24,[.int .i64 0,.int .i64 0,.int .i64 0]⟩ := tyOk_array (by kernel_rfl : Tryz.prog.info? 120 = some Tryz.t120) rfl Tryz.underlying120 rfl rfl (fun _ _ => .cons (.int _ _) (.cons (.int _ _) (.cons (.int _ _) (.nil)))) rfl rfl
theorem tyok_121 : TyOk Tryz.prog 121 ⟨.map 3 3,1,8,[.nilmap]⟩ := tyOk_map (by kernel_rfl : Tryz.prog.info? 121 = some Tryz.t121) rfl rfl Tryz.underlying121 rfl
theorem tyok_122 : TyOk Tryz.prog 122 ⟨.struct [(0,38),(6,120),(9,121)],10,128,[.int .i64 0,.int .i64 0,.slice 1 [],.int .i64 0,.slice 4 [],.slice 2 [],.int .i64 0,.int .i64 0,.int .i64 0,.nilmap]⟩ := tyOk_struct (by kernel_rfl : Tryz.prog.info? 122 = some Tryz.t122) rfl Tryz.underlying122 rfl rfl rfl (fun _ _ => .cons (.int _ _) (.cons (.int _ _) (.cons (.nilslice _) (.cons (.int _ _) (.cons (.nilslice _) (.cons (.nilslice _) (.cons (.int _ _) (.cons (.int _ _) (.cons (.int _ _) (.cons (.nilmap) (.nil))))))))))) rfl rfl (by kernel_rfl)
theorem tyok_123 : TyOk Tryz.prog 123 ⟨.struct [(0,38),(6,120),(9,121)],10,128,[.int .i64 0,.int .i64 0,.slice 1 [],.int .i64 0,.slice 4 [],.slice 2 [],.int .i64 0,.int .i64 0,.int .i64 0,.nilmap]⟩ := tyOk_struct (by kernel_rfl : Tryz.prog.info? 123 = some Tryz.t123) rfl Tryz.underlying123 rfl rfl rfl (fun _ _ => .cons (.int _ _) (.cons (.int _ _) (.cons (.nilslice _) (.cons (.int _ _) (.cons (.nilslice _) (.cons (.nilslice _) (.cons (.int _ _) (.cons (.int _ _) (.cons (.int _ _) (.cons (.nilmap) (.nil))))))))))) rfl rfl (by kernel_rfl)
theorem tyok_125 : TyOk Tryz.prog 125 ⟨.one,1,8,[.nilfunc]⟩ := tyOk_func (by kernel_rfl : Tryz.prog.info? 125 = some Tryz.t125) rfl rfl Tryz.underlying125 rfl
theorem tyok_126 : TyOk Tryz.prog 126 ⟨.one,1,8,[.nilfunc]⟩ := tyOk_func (by kernel_rfl : Tryz.prog.info? 126 = some Tryz.t126) rfl rfl Tryz.underlying126 rfl
theorem tyok_127 : TyOk Tryz.prog 127 ⟨.struct [(0,126)],1,8,[.nilfunc]⟩ := tyOk_struct (by kernel_rfl : Tryz.prog.info? 127 = some Tryz.t127) rfl Tryz.underlying127 rfl rfl rfl (fun _ _ => .cons (.nilfunc) (.nil)) rfl rfl (by kernel_rfl)
theorem tyok_128 : TyOk Tryz.prog 128 ⟨.struct [(0,126)],1,8,[.nilfunc]⟩ := tyOk_struct (by kernel_rfl : Tryz.prog.info? 128 = some Tryz.t128) rfl Tryz.underlying128 rfl rfl rfl (fun _ _ => .cons (.nilfunc) (.nil)) rfl rfl (by kernel_rfl)
theorem tyok_129 : TyOk Tryz.prog 129 ⟨.one,1,8,[.nilptr]⟩ := tyOk_ptr (by kernel_rfl : Tryz.prog.info? 129 = some Tryz.t129) rfl rfl Tryz.underlying129 rfl
theorem tyok_130 : TyOk Tryz.prog 130 ⟨.one,1,8,[.nilfunc]⟩ := tyOk_func (by kernel_rfl : Tryz.prog.info? 130 = some Tryz.t130) rfl rfl Tryz.underlying130 rfl
theorem tyok_131 : TyOk Tryz.prog 131 ⟨.struct [(0,3),(1,3)],2,16,[.int .i64 0,.int .i64 0]⟩ := tyOk_struct (by kernel_rfl : Tryz.prog.info? 131 = some Tryz.t131) rfl Tryz.underlying131 rfl rfl rfl (fun _ _ => .cons (.int _ _) (.cons (.int _ _) (.nil))) rfl rfl (by kernel_rfl)
theorem tyok_132 : TyOk Tryz.prog 132 ⟨.struct [(0,3),(1,3)],2,16,[.int .i64 0,.int .i64 0]⟩ := tyOk_struct (by kernel_rfl : Tryz.prog.info? 132 = some Tryz.t132) rfl Tryz.underlying132 rfl rfl rfl (fun _ _ => .cons (.int _ _) (.cons (.int _ _) (.nil))) rfl rfl (by kernel_rfl)
theorem tyok_134 : TyOk Tryz.prog 134 ⟨.one,1,8,[.nilfunc]⟩ := tyOk_func (by kernel_rfl : Tryz.prog.info? 134 = some Tryz.t134) rfl rfl Tryz.underlying134 rfl
theorem tyok_135 : TyOk Tryz.prog 135 ⟨.one,1,8,[.nilfunc]⟩ := tyOk_func (by kernel_rfl : Tryz.prog.info? 135 = some Tryz.t135) rfl rfl Tryz.underlying135 rfl
theorem tyok_136 : TyOk Tryz.prog 136 ⟨.struct [(0,3),(1,9)],2,24,[.int .i64 0,.str ByteArray.empty]⟩ := tyOk_struct (by kernel_rfl : Tryz.prog.info? 136 = some Tryz.t136) rfl Tryz.underlying136 rfl rfl rfl (fun _ _ => .cons (.int _ _) (.cons (.str _) (.nil))) rfl rfl (by kernel_rfl)
theorem tyok_137 : TyOk Tryz.prog 137 ⟨.struct [(0,3),(1,9)],2,24,[.int .i64 0,.str ByteArray.empty]⟩ := tyOk_struct (by kernel_rfl : Tryz.prog.info? 137 = some Tryz.t137) rfl Tryz.underlying137 rfl rfl rfl (fun _ _ => .cons (.int _ _) (.cons (.str _) (.nil))) rfl rfl (by kernel_rfl)
theorem tyok_138 : TyOk Tryz.prog 138 ⟨.one,1,8,[.nilfunc]⟩ := tyOk_func (by kernel_rfl : Tryz.prog.info? 138 = some Tryz.t138) rfl rfl Tryz.underlying138 rfl
theorem tyok_139 : TyOk Tryz.prog 139 ⟨.struct [(0,4),(1,4),(2,138)],3,16,[.bool false,.bool false,.nilfunc]⟩ := tyOk_struct (by kernel_rfl : Tryz.prog.info? 139 = some Tryz.t139) rfl Tryz.underlying139 rfl rfl rfl (fun _ _ => .cons (.bool _) (.cons (.bool _) (.cons (.nilfunc) (.nil)))) rfl rfl (by kernel_rfl)
theorem tyok_140 : TyOk Tryz.prog 140 ⟨.struct [(0,4),(1,4),(2,138)],3,16,[.bool false,.bool false,.nilfunc]⟩ := tyOk_struct (by kernel_rfl : Tryz.prog.info? 140 = some Tryz.t140) rfl Tryz.underlying140 rfl rfl rfl (fun _ _ => .cons (.bool _) (.cons (.bool _) (.cons (.nilfunc) (.nil)))) rfl rfl (by kernel_rfl)
theorem tyok_141 : TyOk Tryz.prog 141 ⟨.array 4 140,12,64,[.bool false,.bool false,.nilfunc,.bool false,.bool false,.nilfunc,.bool false,.bool false,.nilfunc,.bool false,.bool false,.nilfunc]⟩ := tyOk_array (by kernel_rfl : Tryz.prog.info? 141 = some Tryz.t141) rfl Tryz.underlying141 rfl rfl (fun _ _ => .cons (.bool _) (.cons (.bool _) (.cons (.nilfunc) (.cons (.bool _) (.cons (.bool _) (.cons (.nilfunc) (.cons (.bool _) (.cons (.bool _) (.cons (.nilfunc) (.cons (.bool _) (.cons (.bool _) (.cons (.nilfunc) (.nil))))))))))))) rfl rfl
theorem tyok_142 : TyOk Tryz.prog 142 ⟨.one,1,8,[.nilfunc]⟩ := tyOk_func (by kernel_rfl : Tryz.prog.info? 142 = some Tryz.t142) rfl rfl Tryz.underlying142 rfl
theorem tyok_144 : TyOk Tryz.prog 144 ⟨.one,1,8,[.nilfunc]⟩ := tyOk_func (by kernel_rfl : Tryz.prog.info? 144 = some Tryz.t144) rfl rfl Tryz.underlying144 rfl
theorem tyok_145 : TyOk Tryz.prog 145 ⟨.slice 159,1,24,[.slice 3 []]⟩ := tyOk_slice (by kernel_rfl : Tryz.prog.info? 145 = some Tryz.t145) rfl rfl Tryz.underlying145 rfl
theorem tyok_146 : TyOk Tryz.prog 146 ⟨.struct [(0,9),(1,145)],2,40,[.str ByteArray.empty,.slice 3 []]⟩ := tyOk_struct (by kernel_rfl : Tryz.prog.info? 146 = some Tryz.t146) rfl Tryz.underlying146 rfl rfl rfl (fun _ _ => .cons (.str _) (.cons (.nilslice _) (.nil))) rfl rfl (by kernel_rfl)
theorem tyok_147 : TyOk Tryz.prog 147 ⟨.struct [(0,9),(1,145)],2,40,[.str ByteArray.empty,.slice 3 []]⟩ := tyOk_struct (by kernel_rfl : Tryz.prog.info? 147 = some Tryz.t147) rfl Tryz.underlying147 rfl rfl rfl (fun _ _ => .cons (.str _) (.cons (.nilslice _) (.nil))) rfl rfl (by kernel_rfl)
theorem tyok_148 : TyOk Tryz.prog 148 ⟨.one,1,8,[.nilfunc]⟩ := tyOk_func (by kernel_rfl : Tryz.prog.info? 148 = some Tryz.t148) rfl rfl Tryz.underlying148 rfl
theorem tyok_149 : TyOk Tryz.prog 149 ⟨.one,1,8,[.nilfunc]⟩ := tyOk_func (by kernel_rfl : Tryz.prog.info? 149 = some Tryz.t149) rfl rfl Tryz.underlying149 rfl
theorem tyok_150 : TyOk Tryz.prog 150 ⟨.one,1,8,[.nilptr]⟩ := tyOk_ptr (by kernel_rfl : Tryz.prog.info? 150 = some Tryz.t150) rfl rfl Tryz.underlying150 rfl
theorem tyok_152 : TyOk Tryz.prog 152 ⟨.one,1,8,[.nilfunc]⟩ := tyOk_func (by kernel_rfl : Tryz.prog.info? 152 = some Tryz.t152) rfl rfl Tryz.underlying152 rfl
theorem tyok_153 : TyOk Tryz.prog 153 ⟨.struct [(0,3),(1,108)],6,48,[.int .i64 0,.int .i64 0,.int .i64 0,.int .i64 0,.int .i64 0,.int .i64 0]⟩ := tyOk_struct (by kernel_rfl : Tryz.prog.info? 153 = some Tryz.t153) rfl Tryz.underlying153 rfl rfl rfl (fun _ _ => .cons (.int _ _) (.cons (.int _ _) (.cons (.int _ _) (.cons (.int _ _) (.cons (.int _ _) (.cons (.int _ _) (.nil))))))) rfl rfl (by kernel_rfl)
theorem tyok_154 : TyOk Tryz.prog 154 ⟨.struct [(0,3),(1,108)],6,48,[.int .i64 0,.int .i64 0,.int .i64 0,.int .i64 0,.int .i64 0,.int .i64 0]⟩ := tyOk_struct (by kernel_rfl : Tryz.prog.info? 154 = some Tryz.t154) rfl Tryz.underlying154 rfl rfl rfl (fun _ _ => .cons (.int _ _) (.cons (.int _ _) (.cons (.int _ _) (.cons (.int _ _) (.cons (.int _ _) (.cons (.int _ _) (.nil))))))) rfl rfl (by kernel_rfl)
theorem tyok_156 : TyOk Tryz.prog 156 ⟨.one,1,8,[.nilfunc]⟩ := tyOk_func (by kernel_rfl : Tryz.prog.info? 156 = some Tryz.t156) rfl rfl Tryz.underlying156 rfl
theorem tyok_157 : TyOk Tryz.prog 157 ⟨.one,1,8,[.nilfunc]⟩ := tyOk_func (by kernel_rfl : Tryz.prog.info? 157 = some Tryz.t157) rfl rfl Tryz.underlying157 rfl
theorem tyok_158 : TyOk Tryz.prog 158 ⟨.struct [(0,5),(1,3),(2,4)],3,24,[.int .u8 0,.int .i64 0,.bool false]⟩ := tyOk_struct (by kernel_rfl : Tryz.prog.info? 158 = some Tryz.t158) rfl Tryz.underlying158 rfl rfl rfl (fun _ _ => .cons (.int _ _) (.cons (.int _ _) (.cons (.bool _) (.nil)))) rfl rfl (by kernel_rfl)
theorem tyok_159 : TyOk Tryz.prog 159 ⟨.struct [(0,5),(1,3),(2,4)],3,24,[.int .u8 0,.int .i64 0,.bool false]⟩ := tyOk_struct (by kernel_rfl : Tryz.prog.info? 159 = some Tryz.t159) rfl Tryz.underlying159 rfl rfl rfl (fun _ _ => .cons (.int _ _) (.cons (.int _ _) (.cons (.bool _) (.nil)))) rfl rfl (by kernel_rfl)
theorem tyok_161 : TyOk Tryz.prog 161 ⟨.one,1,8,[.nilfunc]⟩ := tyOk_func (by kernel_rfl : Tryz.prog.info? 161 = some Tryz.t161) rfl rfl Tryz.underlying161 rfl
theorem tyok_162 : TyOk Tryz.prog 162 ⟨.one,1,8,[.nilfunc]⟩ := tyOk_func (by kernel_rfl : Tryz.prog.info? 162 = some Tryz.t162) rfl rfl Tryz.underlying162 rfl
theorem tyok_163 : TyOk Tryz.prog 163 ⟨.one,1,8,[.nilfunc]⟩ := tyOk_func (by kernel_rfl : Tryz.prog.info? 163 = some Tryz.t163) rfl rfl Tryz.underlying163 rfl
theorem tyok_164 : TyOk Tryz.prog 164 ⟨.one,1,8,[.nilfunc]⟩ := tyOk_func (by kernel_rfl : Tryz.prog.info? 164 = some Tryz.t164) rfl rfl Tryz.underlying164 rfl
theorem tyok_165 : TyOk Tryz.prog 165 ⟨.one,1,8,[.nilfunc]⟩ := tyOk_func (by kernel_rfl : Tryz.prog.info? 165 = some Tryz.t165) rfl rfl Tryz.underlying165 rfl
theorem tyok_166 : TyOk Tryz.prog 166 ⟨.one,1,8,[.nilfunc]⟩ := tyOk_func (by kernel_rfl : Tryz.prog.info? 166 = some Tryz.t166) rfl rfl Tryz.underlying166 rfl
theorem tyok_167 : TyOk Tryz.prog 167 ⟨.one,1,8,[.nilfunc]⟩ := tyOk_func (by kernel_rfl : Tryz.prog.info? 167 = some Tryz.t167) rfl rfl Tryz.underlying167 rfl
theorem tyok_168 : TyOk Tryz.prog 168 ⟨.one,1,8,[.nilfunc]⟩ := tyOk_func (by kernel_rfl : Tryz.prog.info? 168 = some Tryz.t168) rfl rfl Tryz.underlying168 rfl
theorem tyok_169 : TyOk Tryz.prog 169 ⟨.one,1,8,[.nilfunc]⟩ := tyOk_func (by kernel_rfl : Tryz.prog.info? 169 = some Tryz.t169) rfl rfl Tryz.underlying169 rfl
theorem tyok_170 : TyOk Tryz.prog 170 ⟨.one,1,8,[.nilfunc]⟩ := tyOk_func (by kernel_rfl : Tryz.prog.info? 170 = some Tryz.t170) rfl rfl Tryz.underlying170 rfl
theorem tyok_171 : TyOk Tryz.prog 171 ⟨.slice 84,1,24,[.mslice 0 0 0 0]⟩ := tyOk_sliceN (by kernel_rfl : Tryz.prog.info? 171 = some Tryz.t171) rfl rfl Tryz.underlying171 rfl
theorem tyok_172 : TyOk Tryz.prog 172 ⟨.one,1,8,[.nilfunc]⟩ := tyOk_func (by kernel_rfl : Tryz.prog.info? 172 = some Tryz.t172) rfl rfl Tryz.underlying172 rfl
theorem tyok_173 : TyOk Tryz.prog 173 ⟨.one,1,8,[.nilfunc]⟩ := tyOk_func (by kernel_rfl : Tryz.prog.info? 173 = some Tryz.t173) rfl rfl Tryz.underlying173 rfl
theorem tyok_174 : TyOk Tryz.prog 174 ⟨.one,1,8,[.nilfunc]⟩ := tyOk_func (by kernel_rfl : Tryz.prog.info? 174 = some Tryz.t174) rfl rfl Tryz.underlying174 rfl
theorem tyok_175 : TyOk Tryz.prog 175 ⟨.struct [(0,34),(2,171)],3,64,[.str ByteArray.empty,.mslice 0 0 0 0,.mslice 0 0 0 0]⟩ := tyOk_struct (by kernel_rfl : Tryz.prog.info? 175 = some Tryz.t175) rfl Tryz.underlying175 rfl rfl rfl (fun _ _ => .cons (.str _) (.cons (.nilm _ _) (.cons (.nilm _ _) (.nil)))) rfl rfl (by kernel_rfl)
theorem tyok_176 : TyOk Tryz.prog 176 ⟨.struct [(0,34),(2,171)],3,64,[.str ByteArray.empty,.mslice 0 0 0 0,.mslice 0 0 0 0]⟩ := tyOk_struct (by kernel_rfl : Tryz.prog.info? 176 = some Tryz.t176) rfl Tryz.underlying176 rfl rfl rfl (fun _ _ => .cons (.str _) (.cons (.nilm _ _) (.cons (.nilm _ _) (.nil)))) rfl rfl (by kernel_rfl)
theorem tyok_177 : TyOk Tryz.prog 177 ⟨.one,1,8,[.nilfunc]⟩ := tyOk_func (by kernel_rfl : Tryz.prog.info? 177 = some Tryz.t177) rfl rfl Tryz.underlying177 rfl
theorem tyok_178 : TyOk Tryz.prog 178 ⟨.one,1,8,[.nilfunc]⟩ := tyOk_func (by kernel_rfl : Tryz.prog.info? 178 = some Tryz.t178) rfl rfl Tryz.underlying178 rfl
theorem tyok_179 : TyOk Tryz.prog 179 ⟨.one,1,8,[.nilfunc]⟩ := tyOk_func (by kernel_rfl : Tryz.prog.info? 179 = some Tryz.t179) rfl rfl Tryz.underlying179 rfl
theorem tyok_180 : TyOk Tryz.prog 180 ⟨.one,1,8,[.nilfunc]⟩ := tyOk_func (by kernel_rfl : Tryz.prog.info? 180 = some Tryz.t180) rfl rfl Tryz.underlying180 rfl
theorem tyok_181 : TyOk Tryz.prog 181 ⟨.map 154 3,1,8,[.nilmap]⟩ := tyOk_map (by kernel_rfl : Tryz.prog.info? 181 = some Tryz.t181) rfl rfl Tryz.underlying181 rfl
theorem tyok_182 : TyOk Tryz.prog 182 ⟨.struct [(0,58),(3,181)],4,64,[.int .i64 0,.slice 2 [],.slice 2 [],.nilmap]⟩ := tyOk_struct (by kernel_rfl : Tryz.prog.info? 182 = some Tryz.t182) rfl Tryz.underlying182 rfl rfl rfl (fun _ _ => .cons (.int _ _) (.cons (.nilslice _) (.cons (.nilslice _) (.cons (.nilmap) (.nil))))) rfl rfl (by kernel_rfl)
theorem tyok_183 : TyOk Tryz.prog 183 ⟨.struct [(0,58),(3,181)],4,64,[.int .i64 0,.slice 2 [],.slice 2 [],.nilmap]⟩ := tyOk_struct (by kernel_rfl : Tryz.prog.info? 183 = some Tryz.t183) rfl Tryz.underlying183 rfl rfl rfl (fun _ _ => .cons (.int _ _) (.cons (.nilslice _) (.cons (.nilslice _) (.cons (.nilmap) (.nil))))) rfl rfl (by kernel_rfl)
theorem tyok_184 : TyOk Tryz.prog 184 ⟨.one,1,8,[.nilfunc]⟩ := tyOk_func (by kernel_rfl : Tryz.prog.info? 184 = some Tryz.t184) rfl rfl Tryz.underlying184 rfl
theorem tyok_185 : TyOk Tryz.prog 185 ⟨.one,1,8,[.nilfunc]⟩ := tyOk_func (by kernel_rfl : Tryz.prog.info? 185 = some Tryz.t185) rfl rfl Tryz.underlying185 rfl
theorem tyok_186 : TyOk Tryz.prog 186 ⟨.one,1,8,[.nilfunc]⟩ := tyOk_func (by kernel_rfl : Tryz.prog.info? 186 = some Tryz.t186) rfl rfl Tryz.underlying186 rfl
theorem tyok_187 : TyOk Tryz.prog 187 ⟨.one,1,8,[.nilfunc]⟩ := tyOk_func (by kernel_rfl : Tryz.prog.info? 187 = some Tryz.t187) rfl rfl Tryz.underlying187 rfl
theorem tyok_188 : TyOk Tryz.prog 188 ⟨.struct [(0,3),(1,3)],2,16,[.int .i64 0,.int .i64 0]⟩ := tyOk_struct (by kernel_rfl : Tryz.prog.info? 188 = some Tryz.t188) rfl Tryz.underlying188 rfl rfl rfl (fun _ _ => .cons (.int _ _) (.cons (.int _ _) (.nil))) rfl rfl (by kernel_rfl)
theorem tyok_189 : TyOk Tryz.prog 189 ⟨.struct [(0,3),(1,3)],2,16,[.int .i64 0,.int .i64 0]⟩ := tyOk_struct (by kernel_rfl : Tryz.prog.info? 189 = some Tryz.t189) rfl Tryz.underlying189 rfl rfl rfl (fun _ _ => .cons (.int _ _) (.cons (.int _ _) (.nil))) rfl rfl (by kernel_rfl)
theorem tyok_190 : TyOk Tryz.prog 190 ⟨.one,1,8,[.nilfunc]⟩ := tyOk_func (by kernel_rfl : Tryz.prog.info? 190 = some Tryz.t190) rfl rfl Tryz.underlying190 rfl
theorem tyok_191 : TyOk Tryz.prog 191 ⟨.one,1,8,[.nilfunc]⟩ := tyOk_func (by kernel_rfl : Tryz.prog.info? 191 = some Tryz.t191) rfl rfl Tryz.underlying191 rfl
theorem tyok_192 : TyOk Tryz.prog 192 ⟨.one,1,8,[.nilfunc]⟩ := tyOk_func (by kernel_rfl : Tryz.prog.info? 192 = some Tryz.t192) rfl rfl Tryz.underlying192 rfl
theorem tyok_193 : TyOk Tryz.prog 193 ⟨.one,1,8,[.nilfunc]⟩ := tyOk_func (by kernel_rfl : Tryz.prog.info? 193 = some Tryz.t193) rfl rfl Tryz.underlying193 rfl
theorem tyok_194 : TyOk Tryz.prog 194 ⟨.one,1,8,[.nilfunc]⟩ := tyOk_func (by kernel_rfl : Tryz.prog.info? 194 = some Tryz.t194) rfl rfl Tryz.underlying194 rfl
theorem tyok_195 : TyOk Tryz.prog 195 ⟨.one,1,8,[.nilfunc]⟩ := tyOk_func (by kernel_rfl : Tryz.prog.info? 195 = some Tryz.t195) rfl rfl Tryz.underlying195 rfl
theorem tyok_196 : TyOk Tryz.prog 196 ⟨.one,1,8,[.nilfunc]⟩ := tyOk_func (by kernel_rfl : Tryz.prog.info? 196 = some Tryz.t196) rfl rfl Tryz.underlying196 rfl
theorem tyok_197 : TyOk Tryz.prog 197 ⟨.one,1,8,[.nilfunc]⟩ := tyOk_func (by kernel_rfl : Tryz.prog.info? 197 = some Tryz.t197) rfl rfl Tryz.underlying197 rfl
theorem tyok_198 : TyOk Tryz.prog 198 ⟨.one,1,8,[.nilfunc]⟩ := tyOk_func (by kernel_rfl : Tryz.prog.info? 198 = some Tryz.t198) rfl rfl Tryz.underlying198 rfl
theorem tyok_199 : TyOk Tryz.prog 199 ⟨.one,1,8,[.nilfunc]⟩ := tyOk_func (by kernel_rfl : Tryz.prog.info? 199 = some Tryz.t199) rfl rfl Tryz.underlying199 rfl
theorem tyok_200 : TyOk Tryz.prog 200 ⟨.one,1,8,[.nilfunc]⟩ := tyOk_func (by kernel_rfl : Tryz.prog.info? 200 = some Tryz.t200) rfl rfl Tryz.underlying200 rfl
theorem tyok_201 : TyOk Tryz.prog 201 ⟨.one,1,8,[.nilfunc]⟩ := tyOk_func (by kernel_rfl : Tryz.prog.info? 201 = some Tryz.t201) rfl rfl Tryz.underlying201 rfl
theorem tyok_202 : TyOk Tryz.prog 202 ⟨.one,1,8,[.nilfunc]⟩ := tyOk_func (by kernel_rfl : Tryz.prog.info? 202 = some Tryz.t202) rfl rfl Tryz.underlying202 rfl
theorem tyok_203 : TyOk Tryz.prog 203 ⟨.one,1,8,[.nilfunc]⟩ := tyOk_func (by kernel_rfl : Tryz.prog.info? 203 = some Tryz.t203) rfl rfl Tryz.underlying203 rfl
theorem tyok_204 : TyOk Tryz.prog 204 ⟨.map 132 3,1,8,[.nilmap]⟩ := tyOk_map (by kernel_rfl : Tryz.prog.info? 204 = some Tryz.t204) rfl rfl Tryz.underlying204 rfl
theorem tyok_205 : TyOk Tryz.prog 205 ⟨.struct [(0,30),(1,30),(2,204)],3,56,[.slice 1 [],.slice 1 [],.nilmap]⟩ := tyOk_struct (by kernel_rfl : Tryz.prog.info? 205 = some Tryz.t205) rfl Tryz.underlying205 rfl rfl rfl (fun _ _ => .cons (.nilslice _) (.cons (.nilslice _) (.cons (.nilmap) (.nil)))) rfl rfl (by kernel_rfl)
theorem tyok_206 : TyOk Tryz.prog 206 ⟨.struct [(0,30),(1,30),(2,204)],3,56,[.slice 1 [],.slice 1 [],.nilmap]⟩ := tyOk_struct (by kernel_rfl : Tryz.prog.info? 206 = some Tryz.t206) rfl Tryz.underlying206 rfl rfl rfl (fun _ _ => .cons (.nilslice _) (.cons (.nilslice _) (.cons (.nilmap) (.nil)))) rfl rfl (by kernel_rfl)
theorem tyok_208 : TyOk Tryz.prog 208 ⟨.one,1,8,[.nilfunc]⟩ := tyOk_func (by kernel_rfl : Tryz.prog.info? 208 = some Tryz.t208) rfl rfl Tryz.underlying208 rfl
theorem tyok_209 : TyOk Tryz.prog 209 ⟨.one,1,8,[.nilfunc]⟩ := tyOk_func (by kernel_rfl : Tryz.prog.info? 209 = some Tryz.t209) rfl rfl Tryz.underlying209 rfl
theorem tyok_210 : TyOk Tryz.prog 210 ⟨.one,1,8,[.nilfunc]⟩ := tyOk_func (by kernel_rfl : Tryz.prog.info? 210 = some Tryz.t210) rfl rfl Tryz.underlying210 rfl
theorem tyok_211 : TyOk Tryz.prog 211 ⟨.one,1,8,[.nilfunc]⟩ := tyOk_func (by kernel_rfl : Tryz.prog.info? 211 = some Tryz.t211) rfl rfl Tryz.underlying211 rfl
theorem tyok_212 : TyOk Tryz.prog 212 ⟨.one,1,8,[.nilfunc]⟩ := tyOk_func (by kernel_rfl : Tryz.prog.info? 212 = some Tryz.t212) rfl rfl Tryz.underlying212 rfl
theorem tyok_213 : TyOk Tryz.prog 213 ⟨.one,1,8,[.nilfunc]⟩ := tyOk_func (by kernel_rfl : Tryz.prog.info? 213 = some Tryz.t213) rfl rfl Tryz.underlying213 rfl
theorem tyok_214 : TyOk Tryz.prog 214 ⟨.one,1,8,[.nilfunc]⟩ := tyOk_func (by kernel_rfl : Tryz.prog.info? 214 = some Tryz.t214) rfl rfl Tryz.underlying214 rfl
theorem tyok_216 : TyOk Tryz.prog 216 ⟨.one,1,8,[.nilfunc]⟩ := tyOk_func (by kernel_rfl : Tryz.prog.info? 216 = some Tryz.t216) rfl rfl Tryz.underlying216 rfl
theorem tyok_217 : TyOk Tryz.prog 217 ⟨.one,1,8,[.nilfunc]⟩ := tyOk_func (by kernel_rfl : Tryz.prog.info? 217 = some Tryz.t217) rfl rfl Tryz.underlying217 rfl
theorem tyok_218 : TyOk Tryz.prog 218 ⟨.one,1,8,[.nilfunc]⟩ := tyOk_func (by kernel_rfl : Tryz.prog.info? 218 = some Tryz.t218) rfl rfl Tryz.underlying218 rfl
theorem tyok_219 : TyOk Tryz.prog 219 ⟨.one,1,8,[.nilfunc]⟩ := tyOk_func (by kernel_rfl : Tryz.prog.info? 219 = some Tryz.t219) rfl rfl Tryz.underlying219 rfl
theorem tyok_220 : TyOk Tryz.prog 220 ⟨.one,1,8,[.nilfunc]⟩ := tyOk_func (by kernel_rfl : Tryz.prog.info? 220 = some Tryz.t220) rfl rfl Tryz.underlying220 rfl
theorem tyok_221 : TyOk Tryz.prog 221 ⟨.one,1,8,[.nilfunc]⟩ := tyOk_func (by kernel_rfl : Tryz.prog.info? 221 = some Tryz.t221) rfl rfl Tryz.underlying221 rfl
theorem tyok_222 : TyOk Tryz.prog 222 ⟨.one,1,8,[.nilfunc]⟩ := tyOk_func (by kernel_rfl : Tryz.prog.info? 222 = some Tryz.t222) rfl rfl Tryz.underlying222 rfl
theorem tyok_223 : TyOk Tryz.prog 223 ⟨.one,1,8,[.nilptr]⟩ := tyOk_ptr (by kernel_rfl : Tryz.prog.info? 223 = some Tryz.t223) rfl rfl Tryz.underlying223 rfl
theorem tyok_224 : TyOk Tryz.prog 224 ⟨.struct [(0,223),(1,59)],2,32,[.nilptr,.slice 1 []]⟩ := tyOk_struct (by kernel_rfl : Tryz.prog.info? 224 = some Tryz.t224) rfl Tryz.underlying224 rfl rfl rfl (fun _ _ => .cons (.nilptr) (.cons (.nilslice _) (.nil))) rfl rfl (by kernel_rfl)
theorem tyok_225 : TyOk Tryz.prog 225 ⟨.struct [(0,223),(1,59)],2,32,[.nilptr,.slice 1 []]⟩ := tyOk_struct (by kernel_rfl : Tryz.prog.info? 225 = some Tryz.t225) rfl Tryz.underlying225 rfl rfl rfl (fun _ _ => .cons (.nilptr) (.cons (.nilslice _) (.nil))) rfl rfl (by kernel_rfl)
theorem tyok_228 : TyOk Tryz.prog 228 ⟨.one,1,8,[.nilfunc]⟩ := tyOk_func (by kernel_rfl : Tryz.prog.info? 228 = some Tryz.t228) rfl rfl Tryz.underlying228 rfl
theorem tyok_230 : TyOk Tryz.prog 230 ⟨.one,1,8,[.nilfunc]⟩ := tyOk_func (by kernel_rfl : Tryz.prog.info? 230 = some Tryz.t230) rfl rfl Tryz.underlying230 rfl
theorem tyok_231 : TyOk Tryz.prog 231 ⟨.one,1,8,[.nilfunc]⟩ := tyOk_func (by kernel_rfl : Tryz.prog.info? 231 = some Tryz.t231) rfl rfl Tryz.underlying231 rfl
theorem tyok_232 : TyOk Tryz.prog 232 ⟨.slice 234,1,24,[.slice 2 []]⟩ := tyOk_slice (by kernel_rfl : Tryz.prog.info? 232 = some Tryz.t232) rfl rfl Tryz.underlying232 rfl
theorem tyok_233 : TyOk Tryz.prog 233 ⟨.struct [(0,3),(1,3)],2,16,[.int .i64 0,.int .i64 0]⟩ := tyOk_struct (by kernel_rfl : Tryz.prog.info? 233 = some Tryz.t233) rfl Tryz.underlying233 rfl rfl rfl (fun _ _ => .cons (.int _ _) (.cons (.int _ _) (.nil))) rfl rfl (by kernel_rfl)
theorem tyok_234 : TyOk Tryz.prog 234 ⟨.struct [(0,3),(1,3)],2,16,[.int .i64 0,.int .i64 0]⟩ := tyOk_struct (by kernel_rfl : Tryz.prog.info? 234 = some Tryz.t234) rfl Tryz.underlying234 rfl rfl rfl (fun _ _ => .cons (.int _ _) (.cons (.int _ _) (.nil))) rfl rfl (by kernel_rfl)
theorem tyok_235 : TyOk Tryz.prog 235 ⟨.one,1,8,[.nilfunc]⟩ := tyOk_func (by kernel_rfl : Tryz.prog.info? 235 = some Tryz.t235) rfl rfl Tryz.underlying235 rfl
theorem tyok_236 : TyOk Tryz.prog 236 ⟨.one,1,8,[.nilfunc]⟩ := tyOk_func (by kernel_rfl : Tryz.prog.info? 236 = some Tryz.t236) rfl rfl Tryz.underlying236 rfl
theorem tyok_237 : TyOk Tryz.prog 237 ⟨.one,1,8,[.nilfunc]⟩ := tyOk_func (by kernel_rfl : Tryz.prog.info? 237 = some Tryz.t237) rfl rfl Tryz.underlying237 rfl
theorem tyok_238 : TyOk Tryz.prog 238 ⟨.one,1,8,[.nilfunc]⟩ := tyOk_func (by kernel_rfl : Tryz.prog.info? 238 = some Tryz.t238) rfl rfl Tryz.underlying238 rfl
theorem tyok_239 : TyOk Tryz.prog 239 ⟨.one,1,8,[.nilfunc]⟩ := tyOk_func (by kernel_rfl : Tryz.prog.info? 239 = some Tryz.t239) rfl rfl Tryz.underlying239 rfl
theorem tyok_240 : TyOk Tryz.prog 240 ⟨.one,1,8,[.nilfunc]⟩ := tyOk_func (by kernel_rfl : Tryz.prog.info? 240 = some Tryz.t240) rfl rfl Tryz.underlying240 rfl
theorem tyok_241 : TyOk Tryz.prog 241 ⟨.one,1,8,[.nilfunc]⟩ := tyOk_func (by kernel_rfl : Tryz.prog.info? 241 = some Tryz.t241) rfl rfl Tryz.underlying241 rfl
theorem tyok_242 : TyOk Tryz.prog 242 ⟨.one,1,8,[.nilfunc]⟩ := tyOk_func (by kernel_rfl : Tryz.prog.info? 242 = some Tryz.t242) rfl rfl Tryz.underlying242 rfl
theorem tyok_243 : TyOk Tryz.prog 243 ⟨.one,1,8,[.nilfunc]⟩ := tyOk_func (by kernel_rfl : Tryz.prog.info? 243 = some Tryz.t243) rfl rfl Tryz.underlying243 rfl
theorem tyok_244 : TyOk Tryz.prog 244 ⟨.one,1,8,[.nilfunc]⟩ := tyOk_func (by kernel_rfl : Tryz.prog.info? 244 = some Tryz.t244) rfl rfl Tryz.underlying244 rfl
theorem tyok_245 : TyOk Tryz.prog 245 ⟨.one,1,8,[.nilfunc]⟩ := tyOk_func (by kernel_rfl : Tryz.prog.info? 245 = some Tryz.t245) rfl rfl Tryz.underlying245 rfl
theorem tyok_246 : TyOk Tryz.prog 246 ⟨.one,1,8,[.nilfunc]⟩ := tyOk_func (by kernel_rfl : Tryz.prog.info? 246 = some Tryz.t246) rfl rfl Tryz.underlying246 rfl
theorem tyok_247 : TyOk Tryz.prog 247 ⟨.one,1,8,[.nilfunc]⟩ := tyOk_func (by kernel_rfl : Tryz.prog.info? 247 = some Tryz.t247) rfl rfl Tryz.underlying247 rfl
theorem tyok_248 : TyOk Tryz.prog 248 ⟨.slice 252,1,24,[.slice 2 []]⟩ := tyOk_slice (by kernel_rfl : Tryz.prog.info? 248 = some Tryz.t248) rfl rfl Tryz.underlying248 rfl
theorem tyok_249 : TyOk Tryz.prog 249 ⟨.one,1,8,[.nilfunc]⟩ := tyOk_func (by kernel_rfl : Tryz.prog.info? 249 = some Tryz.t249) rfl rfl Tryz.underlying249 rfl
theorem tyok_250 : TyOk Tryz.prog 250 ⟨.one,1,8,[.nilfunc]⟩ := tyOk_func (by kernel_rfl : Tryz.prog.info? 250 = some Tryz.t250) rfl rfl Tryz.underlying250 rfl
theorem tyok_251 : TyOk Tryz.prog 251 ⟨.struct [(0,26),(1,250)],2,16,[.int .i64 0,.nilfunc]⟩ := tyOk_struct (by kernel_rfl : Tryz.prog.info? 251 = some Tryz.t251) rfl Tryz.underlying251 rfl rfl rfl (fun _ _ => .cons (.int _ _) (.cons (.nilfunc) (.nil))) rfl rfl (by kernel_rfl)
theorem tyok_252 : TyOk Tryz.prog 252 ⟨.struct [(0,26),(1,250)],2,16,[.int .i64 0,.nilfunc]⟩ := tyOk_struct (by kernel_rfl : Tryz.prog.info? 252 = some Tryz.t252) rfl Tryz.underlying252 rfl rfl rfl (fun _ _ => .cons (.int _ _) (.cons (.nilfunc) (.nil))) rfl rfl (by kernel_rfl)
theorem tyok_253 : TyOk Tryz.prog 253 ⟨.one,1,8,[.nilfunc]⟩ := tyOk_func (by kernel_rfl : Tryz.prog.info? 253 = some Tryz.t253) rfl rfl Tryz.underlying253 rfl
theorem tyok_254 : TyOk Tryz.prog 254 ⟨.one,1,8,[.nilfunc]⟩ := tyOk_func (by kernel_rfl : Tryz.prog.info? 254 = some Tryz.t254) rfl rfl Tryz.underlying254 rfl
theorem tyok_255 : TyOk Tryz.prog 255 ⟨.one,1,8,[.nilfunc]⟩ := tyOk_func (by kernel_rfl : Tryz.prog.info? 255 = some Tryz.t255) rfl rfl Tryz.underlying255 rfl
theorem tyok_256 : TyOk Tryz.prog 256 ⟨.one,1,8,[.nilfunc]⟩ := tyOk_func (by kernel_rfl : Tryz.prog.info? 256 = some Tryz.t256) rfl rfl Tryz.underlying256 rfl
theorem tyok_257 : TyOk Tryz.prog 257 ⟨.one,1,8,[.nilfunc]⟩ := tyOk_func (by kernel_rfl : Tryz.prog.info? 257 = some Tryz.t257) rfl rfl Tryz.underlying257 rfl
theorem tyok_258 : TyOk Tryz.prog 258 ⟨.one,1,8,[.nilfunc]⟩ := tyOk_func (by kernel_rfl : Tryz.prog.info? 258 = some Tryz.t258) rfl rfl Tryz.underlying258 rfl
theorem tyok_259 : TyOk Tryz.prog 259 ⟨.one,1,8,[.nilfunc]⟩ := tyOk_func (by kernel_rfl : Tryz.prog.info? 259 = some Tryz.t259) rfl rfl Tryz.underlying259 rfl
theorem tyok_260 : TyOk Tryz.prog 260 ⟨.one,1,8,[.nilfunc]⟩ := tyOk_func (by kernel_rfl : Tryz.prog.info? 260 = some Tryz.t260) rfl rfl Tryz.underlying260 rfl
theorem tyok_261 : TyOk Tryz.prog 261 ⟨.one,1,8,[.nilfunc]⟩ := tyOk_func (by kernel_rfl : Tryz.prog.info? 261 = some Tryz.t261) rfl rfl Tryz.underlying261 rfl
theorem tyok_262 : TyOk Tryz.prog 262 ⟨.one,1,8,[.nilfunc]⟩ := tyOk_func (by kernel_rfl : Tryz.prog.info? 262 = some Tryz.t262) rfl rfl Tryz.underlying262 rfl
theorem tyok_263 : TyOk Tryz.prog 263 ⟨.one,1,8,[.nilfunc]⟩ := tyOk_func (by kernel_rfl : Tryz.prog.info? 263 = some Tryz.t263) rfl rfl Tryz.underlying263 rfl
theorem tyok_264 : TyOk Tryz.prog 264 ⟨.one,1,8,[.nilfunc]⟩ := tyOk_func (by kernel_rfl : Tryz.prog.info? 264 = some Tryz.t264) rfl rfl Tryz.underlying264 rfl
theorem tyok_265 : TyOk Tryz.prog 265 ⟨.one,1,8,[.nilptr]⟩ := tyOk_ptr (by kernel_rfl : Tryz.prog.info? 265 = some Tryz.t265) rfl rfl Tryz.underlying265 rfl
theorem tyok_266 : TyOk Tryz.prog 266 ⟨.one,1,8,[.nilfunc]⟩ := tyOk_func (by kernel_rfl : Tryz.prog.info? 266 = some Tryz.t266) rfl rfl Tryz.underlying266 rfl
theorem tyok_267 : TyOk Tryz.prog 267 ⟨.one,1,8,[.nilfunc]⟩ := tyOk_func (by kernel_rfl : Tryz.prog.info? 267 = some Tryz.t267) rfl rfl Tryz.underlying267 rfl
theorem tyok_269 : TyOk Tryz.prog 269 ⟨.one,1,8,[.nilfunc]⟩ := tyOk_func (by kernel_rfl : Tryz.prog.info? 269 = some Tryz.t269) rfl rfl Tryz.underlying269 rfl
theorem tyok_270 : TyOk Tryz.prog 270 ⟨.struct [(0,17),(1,17),(2,17),(3,9)],4,40,[.nilptr,.nilptr,.nilptr,.str ByteArray.empty]⟩ := tyOk_struct (by kernel_rfl : Tryz.prog.info? 270 = some Tryz.t270) rfl Tryz.underlying270 rfl rfl rfl (fun _ _ => .cons (.nilptr) (.cons (.nilptr) (.cons (.nilptr) (.cons (.str _) (.nil))))) rfl rfl (by kernel_rfl)
theorem tyok_275 : TyOk Tryz.prog 275 ⟨.one,1,8,[.nilfunc]⟩ := tyOk_func (by kernel_rfl : Tryz.prog.info? 275 = some Tryz.t275) rfl rfl Tryz.underlying275 rfl
theorem tyok_276 : TyOk Tryz.prog 276 ⟨.int .u32,1,4,[.int .u32 0]⟩ := tyOk_int (by kernel_rfl : Tryz.prog.info? 276 = some Tryz.t276) rfl rfl Tryz.underlying276 rfl
theorem tyok_279 : TyOk Tryz.prog 279 ⟨.one,1,8,[.nilfunc]⟩ := tyOk_func (by kernel_rfl : Tryz.prog.info? 279 = some Tryz.t279) rfl rfl Tryz.underlying279 rfl
theorem ty_0 : ty 0 = none := rfl
noncomputable def envC (H : Nat → Mode) (rd : Bool) (cut : List Nat) : Env := ⟨Tryz.prog,ty,H,rd,cut⟩
noncomputable def env (H : Nat → Mode) : Env := ⟨Tryz.prog,ty,H,false,[]⟩
noncomputable def envR (H : Nat → Mode) : Env := ⟨Tryz.prog,ty,H,true,[]⟩
theorem envOk (H : Nat → Mode) : EnvOk (env H) := by
 intro t i h
 show TyOk Tryz.prog t i
 have h : ty t = some i := h
 unfold ty at h
 split at h
 ·cases h; exact tyok_1
 ·cases h; exact tyok_2
 ·cases h; exact tyok_3
 ·cases h; exact tyok_4
 ·cases h; exact tyok_5
 ·cases h; exact tyok_9
 ·cases h; exact tyok_12
 ·cases h; exact tyok_13
 ·cases h; exact tyok_15
 ·cases h; exact tyok_16
 ·cases h; exact tyok_17
 ·cases h; exact tyok_18
 ·cases h; exact tyok_21
 ·cases h; exact tyok_22
 ·cases h; exact tyok_23
 ·cases h; exact tyok_24
 ·cases h; exact tyok_25
 ·cases h; exact tyok_26
 ·cases h; exact tyok_28
 ·cases h; exact tyok_29
 ·cases h; exact tyok_30
 ·cases h; exact tyok_31
 ·cases h; exact tyok_32
 ·cases h; exact tyok_33
 ·cases h; exact tyok_34
 ·cases h; exact tyok_35
 ·cases h; exact tyok_36
 ·cases h; exact tyok_37
 ·cases h; exact tyok_38
 ·cases h; exact tyok_39
 ·cases h; exact tyok_40
 ·cases h; exact tyok_41
 ·cases h; exact tyok_42
 ·cases h; exact tyok_43
 ·cases h; exact tyok_45
 ·cases h; exact tyok_46
 ·cases h; exact tyok_48
 ·cases h; exact tyok_49
 ·cases h; exact tyok_50
 ·cases h; exact tyok_51
 ·cases h; exact tyok_53
 ·cases h; exact tyok_54
 ·cases h; exact tyok_55
 ·cases h; exact tyok_56
 ·cases h; exact tyok_57
 ·cases h; exact tyok_58
 ·cases h; exact tyok_59
 ·cases h; exact tyok_60
 ·cases h; exact tyok_61
 ·cases h; exact tyok_62
 ·cases h; exact tyok_63
 ·cases h; exact tyok_65
 ·cases h; exact tyok_66
 ·cases h; exact tyok_67
 ·cases h; exact tyok_68
 ·cases h; exact tyok_69
 ·cases h; exact tyok_71
 ·cases h; exact tyok_72
 ·cases h; exact tyok_73
 ·cases h; exact tyok_74
 ·cases h; exact tyok_75
 ·cases h; exact tyok_76
 ·cases h; exact tyok_78
 ·cases h; exact tyok_79
 ·cases h; exact tyok_80
 ·cases h; exact tyok_81
 ·cases h; exact tyok_82
 ·cases h; exact tyok_83
 ·cases h; exact tyok_84
 ·cases h; exact tyok_85
 ·cases h; exact tyok_86
 ·cases h; exact tyok_87
 ·cases h; exact tyok_89
 ·cases h; exact tyok_90
 ·cases h; exact tyok_91
 ·cases h; exact tyok_92
 ·cases h; exact tyok_93
 ·cases h; exact tyok_94
 ·cases h; exact tyok_95
 ·cases h; exact tyok_96
 ·cases h; exact tyok_97
 ·cases h; exact tyok_98
 ·cases h; exact tyok_99
 ·cases h; exact tyok_100
 ·cases h; exact tyok_101
 ·cases h; exact tyok_102
 ·cases h; exact tyok_104
 ·cases h; exact tyok_105
 ·cases h; exact tyok_106
 ·cases h; exact tyok_107
 ·cases h; exact tyok_108
 ·cases h; exact tyok_109
 ·cases h; exact tyok_111
 ·cases h; exact tyok_112
 ·cases h; exact tyok_113
 ·cases h; exact tyok_115
 ·cases h; exact tyok_116
 ·cases h; exact tyok_117
 ·cases h; exact tyok_118
 ·cases h; exact tyok_119
 ·cases h; exact tyok_120
 ·cases h; exact tyok_121
 ·cases h; exact tyok_122
 ·cases h; exact tyok_123
 ·cases h; exact tyok_125
 ·cases h; exact tyok_126
 ·cases h; exact tyok_127
 ·cases h; exact tyok_128
 ·cases h; exact tyok_129
 ·cases h; exact tyok_130
 ·cases h; exact tyok_131
 ·cases h; exact tyok_132
 ·cases h; exact tyok_134
 ·cases h; exact tyok_135
 ·cases h; exact tyok_136
 ·cases h; exact tyok_137
 ·cases h; exact tyok_138
 ·cases h; exact tyok_139
 ·cases h; exact tyok_140
 ·cases h; exact tyok_141
 ·cases h; exact tyok_142
 ·cases h; exact tyok_144
 ·cases h; exact tyok_145
 ·cases h; exact tyok_146
 ·cases h; exact tyok_147
 ·cases h; exact tyok_148
 ·cases h; exact tyok_149
 ·cases h; exact tyok_150
 ·cases h; exact tyok_152
 ·cases h; exact tyok_153
 ·cases h; exact tyok_154
 ·cases h; exact tyok_156
 ·cases h; exact tyok_157
 ·cases h; exact tyok_158
 ·cases h; exact tyok_159
 ·cases h; exact tyok_161
 ·cases h; exact tyok_162
 ·cases h; exact tyok_163
 ·cases h; exact tyok_164
 ·cases h; exact tyok_165
 ·cases h; exact tyok_166
 ·cases h; exact tyok_167
 ·cases h; exact tyok_168
 ·cases h; exact tyok_169
 ·cases h; exact tyok_170
 ·cases h; exact tyok_171
 ·cases h; exact tyok_172
 ·cases h; exact tyok_173
 ·cases h; exact tyok_174
 ·cases h; exact tyok_175
 ·cases h; exact tyok_176
 ·cases h; exact tyok_177
 ·cases h; exact tyok_178
 ·cases h; exact tyok_179
 ·cases h; exact tyok_180
 ·cases h; exact tyok_181
 ·cases h; exact tyok_182
 ·cases h; exact tyok_183
 ·cases h; exact tyok_184
 ·cases h; exact tyok_185
 ·cases h; exact tyok_186
 ·cases h; exact tyok_187
 ·cases h; exact tyok_188
 ·cases h; exact tyok_189
 ·cases h; exact tyok_190
 ·cases h; exact tyok_191
 ·cases h; exact tyok_192
 ·cases h; exact tyok_193
 ·cases h; exact tyok_194
 ·cases h; exact tyok_195
 ·cases h; exact tyok_196
 ·cases h; exact tyok_197
 ·cases h; exact tyok_198
 ·cases h; exact tyok_199
 ·cases h; exact tyok_200
 ·cases h; exact tyok_201
 ·cases h; exact tyok_202
 ·cases h; exact tyok_203
 ·cases h; exact tyok_204
 ·cases h; exact tyok_205
 ·cases h; exact tyok_206
 ·cases h; exact tyok_208
 ·cases h; exact tyok_209
 ·cases h; exact tyok_210
 ·cases h; exact tyok_211
 ·cases h; exact tyok_212
 ·cases h; exact tyok_213
 ·cases h; exact tyok_214
 ·cases h; exact tyok_216
 ·cases h; exact tyok_217
 ·cases h; exact tyok_218
 ·cases h; exact tyok_219
 ·cases h; exact tyok_220
 ·cases h; exact tyok_221
 ·cases h; exact tyok_222
 ·cases h; exact tyok_223
 ·cases h; exact tyok_224
 ·cases h; exact tyok_225
 ·cases h; exact tyok_228
 ·cases h; exact tyok_230
 ·cases h; exact tyok_231
 ·cases h; exact tyok_232
 ·cases h; exact tyok_233
 ·cases h; exact tyok_234
 ·cases h; exact tyok_235
 ·cases h; exact tyok_236
 ·cases h; exact tyok_237
 ·cases h; exact tyok_238
 ·cases h; exact tyok_239
 ·cases h; exact tyok_240
 ·cases h; exact tyok_241
 ·cases h; exact tyok_242
 ·cases h; exact tyok_243
 ·cases h; exact tyok_244
 ·cases h; exact tyok_245
 ·cases h; exact tyok_246
 ·cases h; exact tyok_247
 ·cases h; exact tyok_248
 ·cases h; exact tyok_249
 ·cases h; exact tyok_250
 ·cases h; exact tyok_251
 ·cases h; exact tyok_252
 ·cases h; exact tyok_253
 ·cases h; exact tyok_254
 ·cases h; exact tyok_255
 ·cases h; exact tyok_256
 ·cases h; exact tyok_257
 ·cases h; exact tyok_258
 ·cases h; exact tyok_259
 ·cases h; exact tyok_260
 ·cases h; exact tyok_261
 ·cases h; exact tyok_262
 ·cases h; exact tyok_263
 ·cases h; exact tyok_264
 ·cases h; exact tyok_265
 ·cases h; exact tyok_266
 ·cases h; exact tyok_267
 ·cases h; exact tyok_269
 ·cases h; exact tyok_270
 ·cases h; exact tyok_275
 ·cases h; exact tyok_276
 ·cases h; exact tyok_279
 ·cases h
theorem envCOk (H : Nat → Mode) (rd : Bool) (cut : List Nat) : EnvOk (envC H rd cut) := envOk H
end Go.Proofs.YtdmejgfcaacdoaaGreat.Abs
/- The abstract machine,part 18: small laws by which conditions are worked out. -/
namespace Go.Proofs.YtdmejgfcaacdoaaGreat.Abs
set_option linter.unusedSimpArgs false
open Go Go.RowKit
@[congr] theorem vcSome.cong {α : Type} {o o' : Option α} {K : α → Prop} (h : o = o') : vcSome o K = vcSome o' K := by rw [h]
@[congr] theorem vcOps.cong {E : Env} {ops : Array Oper} {l l' : List Oper} {K : St → Prop} {st st' : St} (h : l = l') (hs : st = st') : vcOps E ops l K st = vcOps E ops l' K st' := by rw [h,hs]
@[congr] theorem vcOpsD.cong {E : Env} {ops : Array Oper} {fl fl' : List Fl} {l l' : List Oper} {K : St → Prop} {st st' : St} (hf : fl = fl') (h : l = l') (hs : st = st') : vcOpsD E ops fl l K st = vcOpsD E ops fl' l' K st' := by rw [hf,h,hs]
@[congr] theorem Back.cong {α : Type} {I : α → Head} {J : α → Prop} {m : α → Nat} {x : α} {st st' : St} (h : st = st') : Back I J m x st = Back I J m x st' := by rw [h]
theorem env_T (H : Nat → Mode) : (env H).T = ty := rfl
theorem env_P (H : Nat → Mode) : (env H).P = Tryz.prog := rfl
theorem env_H (H : Nat → Mode) : (env H).H = H := rfl
theorem env_cut (H : Nat → Mode) : (env H).cut = [] := rfl
theorem envR_cut (H : Nat → Mode) : (envR H).cut = [] := rfl
theorem envC_T (H : Nat → Mode) (r : Bool) (c : List Nat) : (envC H r c).T = ty := rfl
theorem envC_P (H : Nat → Mode) (r : Bool) (c : List Nat) : (envC H r c).P = Tryz.prog := rfl
theorem envC_H (H : Nat → Mode) (r : Bool) (c : List Nat) : (envC H r c).H = H := rfl
theorem envC_cut (H : Nat → Mode) (r : Bool) (c : List Nat) : (envC H r c).cut = c := rfl
theorem envR_T (H : Nat → Mode) : (envR H).T = ty := rfl
theorem envR_P (H : Nat → Mode) : (envR H).P = Tryz.prog := rfl
theorem envR_H (H : Nat → Mode) : (envR H).H = H := rfl
def modeAt (own sh : List Nat) (i : Nat) : Mode := if cutAt own i = true then .own else if cutAt sh i = true then .shared else .imm
theorem inR_i64 (n : Int) : inR .i64 n ↔ (-9223372036854775808 ≤ n ∧ n ≤ 9223372036854775807) := by
 simp [inR,IntKind.min,IntKind.max,IntKind.signed,IntKind.bits]
theorem inR_u8 (n : Int) : inR .u8 n ↔ (0 ≤ n ∧ n ≤ 255) := by
 simp [inR,IntKind.min,IntKind.max,IntKind.signed,IntKind.bits]
theorem maxLen_eq : maxLen = 9223372036854775807 := rfl
def ints (l : List Int) : AV := .slice 1 (l.map (AV.int .i64))
@[congr] theorem VIdx.cong {l l' : List AV} {i i' : Int} {K : AV → Prop} (h : l = l') (hi : i = i') : VIdx l i K = VIdx l' i' K := by rw [h,hi]
theorem VIdx_map {α : Type} [Inhabited α] (f : α → AV) (l : List α) (i : Int) (K : AV → Prop) : VIdx (l.map f) i K ↔ (0 ≤ i ∧ i.toNat < l.length) ∧ K (f l[i.toNat]!) := by
 unfold VIdx
 constructor
 ·rintro ⟨e,he,h0,hk⟩
  rw [List.getElem?_map] at he
  cases h : l[i.toNat]? with
  | none => rw [h] at he; simp at he
  | some x =>
   rw [h] at he
   simp at he
   subst he
   have hlt := (List.getElem?_eq_some_iff.1 h).1
   refine ⟨⟨h0,hlt⟩,?_⟩
   rw [List.getElem!_eq_getElem?_getD,h]; exact hk
 ·rintro ⟨⟨h0,h1⟩,hk⟩
  refine ⟨_,?_,h0,hk⟩
  rw [List.getElem?_map,List.getElem!_eq_getElem?_getD,List.getElem?_eq_getElem h1]; rfl
theorem ACall.pure {P : Program} {f : FuncId} {xs : List AV} {r : AV} (h : PCall P f xs r) {m : Mem} {K : AV → Mem → Prop} (hk : K r m) : VCall P f xs m K .mk :=
 ACall.mono (h m) fun _ _ ⟨h1,h2⟩ => by rw [h1,h2]; exact hk
theorem ACall.told {P : Program} {f : FuncId} {xs : List AV} {m : Mem} {K K' : AV → Mem → Prop} (h : ACall P f xs m K') (hk : ∀ r m',K' r m' → K r m') : VCall P f xs m K .mk :=
 ACall.mono h hk
theorem getD_idx {l : List Int} {k : Nat} (h : k < l.length) : l[k]! = l[k] := by
 rw [List.getElem!_eq_getElem?_getD,List.getElem?_eq_getElem h]; rfl
theorem mixed : Tryz.prog.follows .mixedOrders = true := by kernel_rfl
def lenOk (xs : List AV) : Prop := ∀ sz l,AV.slice sz l ∈ xs → l.length ≤ maxLen
theorem acall_len {P : Program} {f : FuncId} {xs : List AV} {m : Mem} {K : AV → Mem → Prop} (hcall : ∀ (args : Array Value) (w : World),(callFunc f args).run P w = .ok (.enter f args) w) (h : lenOk xs → ACall P f xs m K) : ACall P f xs m K := by
 refine ⟨hcall,fun G w vs hi hm hr => (h fun sz l hl => ?_).2 G w vs hi hm hr⟩
 obtain ⟨i,hi',hl⟩ := List.mem_iff_getElem.1 hl
 have hv : i < vs.length := by rw [← hr.1]; exact hi'
 have := hr.2 i (.slice sz l) vs[i] (by rw [← hl]; exact List.getElem?_eq_getElem hi') (List.getElem?_eq_getElem hv)
 obtain ⟨cs,_,_,_,_,h5⟩ := slice_row this
 exact h5
theorem lenOk_cons {x : AV} {xs : List AV} : lenOk (x :: xs) ↔ (match x with | .slice _ l => l.length ≤ maxLen | _ => True) ∧ lenOk xs := by
 constructor
 ·intro h
  refine ⟨?_,fun sz l hl => h sz l (by simp [hl])⟩
  split
  ·rename_i sz l; exact h sz l (by simp)
  ·trivial
 ·rintro ⟨h1,h2⟩ sz l hl
  rcases List.mem_cons.1 hl with rfl | hl
  ·exact h1
  ·exact h2 sz l hl
theorem lenOk_nil : lenOk [] ↔ True := by simp [lenOk]
theorem natDivPow (s i : Nat) : ((s : Int) / 2 ^ i) = ((s / 2 ^ i : Nat) : Int) := by simp
theorem natMulPow (s i : Nat) : ((s : Int) * 2 ^ i) = ((s * 2 ^ i : Nat) : Int) := by simp
theorem oneMulPow (i : Nat) : ((1 : Int) * 2 ^ i) = ((2 ^ i : Nat) : Int) := by simp
theorem toNatOne : (1 : Int).toNat = 1 := rfl
theorem and_one_bit (s i : Nat) : (s / 2 ^ i &&& 1) = if s.testBit i then 1 else 0 := by
 rw [Nat.and_one_is_mod,Nat.testBit_eq_decide_div_mod_eq]
 by_cases h : s / 2 ^ i % 2 = 1
 ·simp [h]
 ·have : s / 2 ^ i % 2 = 0 := by omega
  simp [this]
theorem testBit_dec (s i : Nat) : decide (((s / 2 ^ i &&& 1 : Nat) : Int) = 1) = s.testBit i := by
 rw [and_one_bit]; by_cases h : s.testBit i <;> simp [h]
theorem testBit_dec0 (s i : Nat) : decide (((s / 2 ^ i &&& 1 : Nat) : Int) = 0) = !s.testBit i := by
 rw [and_one_bit]; by_cases h : s.testBit i <;> simp [h]
theorem testBit_prop (s i : Nat) : (((s / 2 ^ i &&& 1 : Nat) : Int) = 1) = (s.testBit i = true) := by
 rw [and_one_bit]; by_cases h : s.testBit i <;> simp [h]
theorem testBit_prop0 (s i : Nat) : (((s / 2 ^ i &&& 1 : Nat) : Int) = 0) = (s.testBit i = false) := by
 rw [and_one_bit]; by_cases h : s.testBit i <;> simp [h]
theorem ite_split {p : Prop} [Decidable p] {A B : Prop} : (if p then A else B) = ((p → A) ∧ (¬ p → B)) := by
 by_cases h : p <;> simp [h]
end Go.Proofs.YtdmejgfcaacdoaaGreat.Abs
