import Derived.Shelf.Strings.Builder1
import Derived.Shelf.Strings.Builder2
import Derived.Shelf.Strings.OnBuilder
import Derived.Shelf.Strconv.Itoa0
import Derived.Shelf.Strconv.Itoa1
import Derived.Shelf.LaysM
import Derived.Shelf.Strconv.Itoa2
import Derived.Shelf.Strconv.Itoa3
import Derived.Shelf.Sort.Plain
import Derived.Ground.Names2Prog
import Derived.Shelf.Slices.CompactI
import Derived.Shelf.Slices.Cells
import Derived.Shelf.Slices.In.SortNone
import Derived.Test.YtplbaolbaniioaaGreatDoorProg
namespace Go.Proofs.YtplbaolbaniioaaGreatDoor
open Go.Shelf Go.RowKit
def Sh_lays156_ren : Go.Shelf.Ren := ⟨fun | 156 => 103 | 165 => 115 | 166 => 116 | 169 => 117 | 240 => 128 | 241 => 129 | 276 => 150 | 277 => 151 | n => n, fun | 31 => 153 | 9 => 9 | 3 => 3 | 4 => 4 | 0 => 0 | 20 => 20 | 72 => 166 | 76 => 169 | 70 => 164 | 37 => 78 | 75 => 168 | 127 => 185 | 164 => 204 | 5 => 5 | 80 => 171 | n => n, fun | n => n⟩
theorem Sh_lays156 : Go.Proofs.Lays.n156 Tryz.prog Sh_lays156_ren := {
 mixed := by kernel_rfl
 f156 := Tryz.func103.trans (congrArg some (by kernel_rfl))
 f165 := Tryz.func115.trans (congrArg some (by kernel_rfl))
 f166 := Tryz.func116.trans (congrArg some (by kernel_rfl))
 f169 := Tryz.func117.trans (congrArg some (by kernel_rfl))
 f240 := Tryz.func128.trans (congrArg some (by kernel_rfl))
 f241 := Tryz.func129.trans (congrArg some (by kernel_rfl))
 f276 := Tryz.func150.trans (congrArg some (by kernel_rfl))
 f277 := Tryz.func151.trans (congrArg some (by kernel_rfl))
 t0 := Tryz.underlying0
 a0 := Tryz.isAgg0
 z0 := Tryz.sizeOf0
 v0 := Tryz.zeroValue0
 t3 := Tryz.underlying3
 a3 := Tryz.isAgg3
 z3 := Tryz.sizeOf3
 v3 := Tryz.zeroValue3
 t4 := Tryz.underlying4
 a4 := Tryz.isAgg4
 z4 := Tryz.sizeOf4
 v4 := Tryz.zeroValue4
 t9 := Tryz.underlying9
 a9 := Tryz.isAgg9
 z9 := Tryz.sizeOf9
 v9 := Tryz.zeroValue9
 t20 := Tryz.underlying20
 a20 := Tryz.isAgg20
 z20 := Tryz.sizeOf20
 v20 := Tryz.zeroValue20
 t31 := Tryz.underlying153
 a31 := Tryz.isAgg153
 z31 := Tryz.sizeOf153
 v31 := Tryz.zeroValue153
 t37 := Tryz.underlying78
 a37 := Tryz.isAgg78
 z37 := Tryz.sizeOf78
 v37 := Tryz.zeroValue78
 t70 := Tryz.underlying164
 a70 := Tryz.isAgg164
 z70 := Tryz.sizeOf164
 v70 := Tryz.zeroValue164
 t72 := Tryz.underlying166
 a72 := Tryz.isAgg166
 z72 := Tryz.sizeOf166
 v72 := Tryz.zeroValue166
 t75 := Tryz.underlying168
 a75 := Tryz.isAgg168
 z75 := Tryz.sizeOf168
 v75 := Tryz.zeroValue168
 t76 := Tryz.underlying169
 a76 := Tryz.isAgg169
 z76 := Tryz.sizeOf169
 v76 := Tryz.zeroValue169
 t127 := Tryz.underlying185
 a127 := Tryz.isAgg185
 z127 := Tryz.sizeOf185
 v127 := Tryz.zeroValue185
 t164 := Tryz.underlying204
 a164 := Tryz.isAgg204
 z164 := Tryz.sizeOf204
 v164 := Tryz.zeroValue204 }
theorem Sh_Builder_Extra_156 : Builder.Extra Tryz.prog Sh_lays156_ren := {
 sizeBuilder := by kernel_rfl
 liesBuilder := by kernel_rfl
 t5 := Tryz.underlying5
 a5 := Tryz.isAgg5
 z5 := Tryz.sizeOf5
 v5 := Tryz.zeroValue5
 infoByte := by kernel_rfl
 cellsByte := by kernel_rfl
 sizeByte := by kernel_rfl
 neB5 := by decide }
theorem Sh_strings_Join_none (a : Option Addr) (c : Nat) (sep : ByteArray) (w : World) :
 Calls Tryz.prog 103 #[.slice a 0 c, .string sep] w fun e w' => e = .returned (.string ⟨#[]⟩) ∧ w' = w := Any.strings_Join_none Sh_lays156 Sh_Builder_Extra_156 a c sep w
theorem Sh_strings_Join (bk o c : Nat) (xs : List ByteArray) (sep : ByteArray) (w : World) (hcells : ∀ (j : Nat) x, xs[j]? = some x → w.cell? ⟨bk, o + j, none⟩ = some (.string x)) (hbk : bk < w.heap.size) (hN : xs.length ≤ 140737488355328) (hcap : xs.length ≤ c) (hlen : (Lib.join (xs.map (·.data.toList)) sep.data.toList).length ≤ 140737488355328) :
 Calls Tryz.prog 103 #[.slice (some ⟨bk, o, none⟩) xs.length c, .string sep] w fun e w' => e = .returned (.string ⟨(Lib.join (xs.map (·.data.toList)) sep.data.toList).toArray⟩) ∧ Below w.heap.size w w' := Any.strings_Join Sh_lays156 Sh_Builder_Extra_156 bk o c xs sep w hcells hbk hN hcap hlen
def Sh_laysM171_ren : Go.Shelf.Ren := ⟨fun | 171 => 80 | 243 => 104 | 246 => 118 | 283 => 124 | 284 => 125 | 285 => 126 | 286 => 127 | 129 => 140 | 317 => 146 | 318 => 147 | 319 => 148 | 320 => 149 | 337 => 158 | 338 => 159 | n => n, fun | 3 => 3 | 9 => 9 | 2 => 2 | 4 => 4 | 171 => 180 | 0 => 0 | 53 => 84 | 37 => 78 | 5 => 5 | 173 => 183 | 212 => 202 | 51 => 24 | 20 => 20 | 213 => 203 | 46 => 175 | 232 => 217 | 233 => 218 | n => n, fun | 17 => 0 | 18 => 2 | 19 => 3 | n => n⟩
theorem Sh_laysM171 : Go.Proofs.LaysM.n171 Tryz.prog Sh_laysM171_ren := {
 mixed := by kernel_rfl
 f129 := Tryz.func140.trans (congrArg some (by kernel_rfl))
 f171 := Tryz.func80.trans (congrArg some (by kernel_rfl))
 f243 := Tryz.func104.trans (congrArg some (by kernel_rfl))
 f246 := Tryz.func118.trans (congrArg some (by kernel_rfl))
 f283 := Tryz.func124.trans (congrArg some (by kernel_rfl))
 f284 := Tryz.func125.trans (congrArg some (by kernel_rfl))
 f285 := Tryz.func126.trans (congrArg some (by kernel_rfl))
 f286 := Tryz.func127.trans (congrArg some (by kernel_rfl))
 f317 := Tryz.func146.trans (congrArg some (by kernel_rfl))
 f318 := Tryz.func147.trans (congrArg some (by kernel_rfl))
 f319 := Tryz.func148.trans (congrArg some (by kernel_rfl))
 f320 := Tryz.func149.trans (congrArg some (by kernel_rfl))
 f337 := Tryz.func158.trans (congrArg some (by kernel_rfl))
 f338 := Tryz.func159.trans (congrArg some (by kernel_rfl))
 t0 := Tryz.underlying0
 a0 := Tryz.isAgg0
 z0 := Tryz.sizeOf0
 v0 := Tryz.zeroValue0
 t2 := Tryz.underlying2
 a2 := Tryz.isAgg2
 z2 := Tryz.sizeOf2
 v2 := Tryz.zeroValue2
 t3 := Tryz.underlying3
 a3 := Tryz.isAgg3
 z3 := Tryz.sizeOf3
 v3 := Tryz.zeroValue3
 t4 := Tryz.underlying4
 a4 := Tryz.isAgg4
 z4 := Tryz.sizeOf4
 v4 := Tryz.zeroValue4
 t5 := Tryz.underlying5
 a5 := Tryz.isAgg5
 z5 := Tryz.sizeOf5
 v5 := Tryz.zeroValue5
 t9 := Tryz.underlying9
 a9 := Tryz.isAgg9
 z9 := Tryz.sizeOf9
 v9 := Tryz.zeroValue9
 t20 := Tryz.underlying20
 a20 := Tryz.isAgg20
 z20 := Tryz.sizeOf20
 v20 := Tryz.zeroValue20
 t37 := Tryz.underlying78
 a37 := Tryz.isAgg78
 z37 := Tryz.sizeOf78
 v37 := Tryz.zeroValue78
 t46 := Tryz.underlying175
 a46 := Tryz.isAgg175
 z46 := Tryz.sizeOf175
 v46 := Tryz.zeroValue175
 t51 := Tryz.underlying24
 a51 := Tryz.isAgg24
 z51 := Tryz.sizeOf24
 v51 := Tryz.zeroValue24
 t53 := Tryz.underlying84
 a53 := Tryz.isAgg84
 z53 := Tryz.sizeOf84
 v53 := Tryz.zeroValue84
 t171 := Tryz.underlying180
 a171 := Tryz.isAgg180
 z171 := Tryz.sizeOf180
 v171 := Tryz.zeroValue180
 t173 := Tryz.underlying183
 a173 := Tryz.isAgg183
 z173 := Tryz.sizeOf183
 v173 := Tryz.zeroValue183
 t212 := Tryz.underlying202
 a212 := Tryz.isAgg202
 z212 := Tryz.sizeOf202
 v212 := Tryz.zeroValue202
 t213 := Tryz.underlying203
 a213 := Tryz.isAgg203
 z213 := Tryz.sizeOf203
 t232 := Tryz.underlying217
 a232 := Tryz.isAgg217
 z232 := Tryz.sizeOf217
 v232 := Tryz.zeroValue217
 t233 := Tryz.underlying218
 a233 := Tryz.isAgg218
 z233 := Tryz.sizeOf218
 v233 := Tryz.zeroValue218
 g17 := by kernel_rfl
 g18 := by kernel_rfl
 g19 := by kernel_rfl
 i0 := by kernel_rfl
 i2 := by kernel_rfl
 i3 := by kernel_rfl
 i4 := by kernel_rfl
 i5 := by kernel_rfl
 i9 := by kernel_rfl
 i20 := by kernel_rfl
 i37 := by kernel_rfl
 i46 := by kernel_rfl
 i51 := by kernel_rfl
 i53 := by kernel_rfl
 i171 := by kernel_rfl
 i173 := by kernel_rfl
 i212 := by kernel_rfl
 i232 := by kernel_rfl
 i233 := by kernel_rfl
 m17 := by kernel_rfl
 m18 := by kernel_rfl
 m19 := by kernel_rfl }
open Go.RowKit Go.Sort Go.Lib in
theorem Sh_strconv_Itoa (n : Int) (h0 : -9223372036854775808 ≤ n) (h1 : n ≤ 9223372036854775807) (w : World) (htab : Lib.TabIs Tryz.prog w "internal/strconv.uint64pow10" .u64 Lib.pow10Tab) :
 Calls Tryz.prog 80 #[.int .i64 n] w fun e w' => e = .returned (.string ⟨(Lib.itoa n).toArray⟩) ∧ ∃ k os, w' = grow (w.drewN k) os := Any.strconv_Itoa Sh_laysM171 n h0 h1 w htab
def Sh_lays171_ren : Go.Shelf.Ren := ⟨fun | 171 => 80 | 243 => 104 | 246 => 118 | 283 => 124 | 284 => 125 | 285 => 126 | 286 => 127 | 129 => 140 | 317 => 146 | 318 => 147 | 319 => 148 | 320 => 149 | 337 => 158 | 338 => 159 | n => n, fun | 3 => 3 | 9 => 9 | 2 => 2 | 4 => 4 | 171 => 180 | 0 => 0 | 53 => 84 | 37 => 78 | 5 => 5 | 173 => 183 | 212 => 202 | 51 => 24 | 20 => 20 | 213 => 203 | 46 => 175 | 232 => 217 | 233 => 218 | n => n, fun | 17 => 0 | 18 => 2 | 19 => 3 | n => n⟩
theorem Sh_lays171 : Go.Proofs.Lays.n171 Tryz.prog Sh_lays171_ren := {
 mixed := by kernel_rfl
 f129 := Tryz.func140.trans (congrArg some (by kernel_rfl))
 f171 := Tryz.func80.trans (congrArg some (by kernel_rfl))
 f243 := Tryz.func104.trans (congrArg some (by kernel_rfl))
 f246 := Tryz.func118.trans (congrArg some (by kernel_rfl))
 f283 := Tryz.func124.trans (congrArg some (by kernel_rfl))
 f284 := Tryz.func125.trans (congrArg some (by kernel_rfl))
 f285 := Tryz.func126.trans (congrArg some (by kernel_rfl))
 f286 := Tryz.func127.trans (congrArg some (by kernel_rfl))
 f317 := Tryz.func146.trans (congrArg some (by kernel_rfl))
 f318 := Tryz.func147.trans (congrArg some (by kernel_rfl))
 f319 := Tryz.func148.trans (congrArg some (by kernel_rfl))
 f320 := Tryz.func149.trans (congrArg some (by kernel_rfl))
 f337 := Tryz.func158.trans (congrArg some (by kernel_rfl))
 f338 := Tryz.func159.trans (congrArg some (by kernel_rfl))
 t0 := Tryz.underlying0
 a0 := Tryz.isAgg0
 z0 := Tryz.sizeOf0
 v0 := Tryz.zeroValue0
 t2 := Tryz.underlying2
 a2 := Tryz.isAgg2
 z2 := Tryz.sizeOf2
 v2 := Tryz.zeroValue2
 t3 := Tryz.underlying3
 a3 := Tryz.isAgg3
 z3 := Tryz.sizeOf3
 v3 := Tryz.zeroValue3
 t4 := Tryz.underlying4
 a4 := Tryz.isAgg4
 z4 := Tryz.sizeOf4
 v4 := Tryz.zeroValue4
 t5 := Tryz.underlying5
 a5 := Tryz.isAgg5
 z5 := Tryz.sizeOf5
 v5 := Tryz.zeroValue5
 t9 := Tryz.underlying9
 a9 := Tryz.isAgg9
 z9 := Tryz.sizeOf9
 v9 := Tryz.zeroValue9
 t20 := Tryz.underlying20
 a20 := Tryz.isAgg20
 z20 := Tryz.sizeOf20
 v20 := Tryz.zeroValue20
 t37 := Tryz.underlying78
 a37 := Tryz.isAgg78
 z37 := Tryz.sizeOf78
 v37 := Tryz.zeroValue78
 t46 := Tryz.underlying175
 a46 := Tryz.isAgg175
 z46 := Tryz.sizeOf175
 v46 := Tryz.zeroValue175
 t51 := Tryz.underlying24
 a51 := Tryz.isAgg24
 z51 := Tryz.sizeOf24
 v51 := Tryz.zeroValue24
 t53 := Tryz.underlying84
 a53 := Tryz.isAgg84
 z53 := Tryz.sizeOf84
 v53 := Tryz.zeroValue84
 t171 := Tryz.underlying180
 a171 := Tryz.isAgg180
 z171 := Tryz.sizeOf180
 v171 := Tryz.zeroValue180
 t173 := Tryz.underlying183
 a173 := Tryz.isAgg183
 z173 := Tryz.sizeOf183
 v173 := Tryz.zeroValue183
 t212 := Tryz.underlying202
 a212 := Tryz.isAgg202
 z212 := Tryz.sizeOf202
 v212 := Tryz.zeroValue202
 t213 := Tryz.underlying203
 a213 := Tryz.isAgg203
 z213 := Tryz.sizeOf203
 t232 := Tryz.underlying217
 a232 := Tryz.isAgg217
 z232 := Tryz.sizeOf217
 v232 := Tryz.zeroValue217
 t233 := Tryz.underlying218
 a233 := Tryz.isAgg218
 z233 := Tryz.sizeOf218
 v233 := Tryz.zeroValue218
 g17 := by kernel_rfl
 g18 := by kernel_rfl
 g19 := by kernel_rfl }
open Go.RowKit Go.Sort Go.Lib in
theorem Sh_strconv_Itoa_small (i : Nat) (hi : i < 100) (w : World) :
 Calls Tryz.prog 80 #[.int .i64 i] w fun e w' => e = .returned (.string ⟨(Lib.decDigits i).toArray⟩) ∧ w' = w := Any.strconv_Itoa_small Sh_lays171 i hi w
def Sh_lays189_ren : Go.Shelf.Ren := ⟨fun | 189 => 109 | 125 => 120 | 257 => 119 | 128 => 139 | 129 => 140 | 294 => 130 | 295 => 131 | 296 => 132 | 297 => 133 | 298 => 134 | 299 => 135 | 216 => 136 | 300 => 137 | 301 => 138 | 328 => 152 | 329 => 153 | 330 => 154 | 331 => 155 | 332 => 156 | 215 => 157 | 343 => 160 | n => n, fun | 28 => 59 | 3 => 3 | 46 => 175 | 0 => 0 | 51 => 24 | 53 => 84 | 4 => 4 | 183 => 188 | 182 => 187 | 131 => 56 | 5 => 5 | 9 => 9 | 218 => 207 | 222 => 211 | 228 => 214 | 229 => 215 | n => n, fun | n => n⟩
theorem Sh_lays189 : Go.Proofs.Lays.n189 Tryz.prog Sh_lays189_ren := {
 mixed := by kernel_rfl
 f125 := Tryz.func120.trans (congrArg some (by kernel_rfl))
 f128 := Tryz.func139.trans (congrArg some (by kernel_rfl))
 f129 := Tryz.func140.trans (congrArg some (by kernel_rfl))
 f189 := Tryz.func109.trans (congrArg some (by kernel_rfl))
 f215 := Tryz.func157.trans (congrArg some (by kernel_rfl))
 f216 := Tryz.func136.trans (congrArg some (by kernel_rfl))
 f257 := Tryz.func119.trans (congrArg some (by kernel_rfl))
 f294 := Tryz.func130.trans (congrArg some (by kernel_rfl))
 f295 := Tryz.func131.trans (congrArg some (by kernel_rfl))
 f296 := Tryz.func132.trans (congrArg some (by kernel_rfl))
 f297 := Tryz.func133.trans (congrArg some (by kernel_rfl))
 f298 := Tryz.func134.trans (congrArg some (by kernel_rfl))
 f299 := Tryz.func135.trans (congrArg some (by kernel_rfl))
 f300 := Tryz.func137.trans (congrArg some (by kernel_rfl))
 f301 := Tryz.func138.trans (congrArg some (by kernel_rfl))
 f328 := Tryz.func152.trans (congrArg some (by kernel_rfl))
 f329 := Tryz.func153.trans (congrArg some (by kernel_rfl))
 f330 := Tryz.func154.trans (congrArg some (by kernel_rfl))
 f331 := Tryz.func155.trans (congrArg some (by kernel_rfl))
 f332 := Tryz.func156.trans (congrArg some (by kernel_rfl))
 f343 := Tryz.func160.trans (congrArg some (by kernel_rfl))
 t0 := Tryz.underlying0
 a0 := Tryz.isAgg0
 z0 := Tryz.sizeOf0
 v0 := Tryz.zeroValue0
 t3 := Tryz.underlying3
 a3 := Tryz.isAgg3
 z3 := Tryz.sizeOf3
 v3 := Tryz.zeroValue3
 t4 := Tryz.underlying4
 a4 := Tryz.isAgg4
 z4 := Tryz.sizeOf4
 v4 := Tryz.zeroValue4
 t5 := Tryz.underlying5
 a5 := Tryz.isAgg5
 z5 := Tryz.sizeOf5
 v5 := Tryz.zeroValue5
 t9 := Tryz.underlying9
 a9 := Tryz.isAgg9
 z9 := Tryz.sizeOf9
 v9 := Tryz.zeroValue9
 t28 := Tryz.underlying59
 a28 := Tryz.isAgg59
 z28 := Tryz.sizeOf59
 v28 := Tryz.zeroValue59
 t46 := Tryz.underlying175
 a46 := Tryz.isAgg175
 z46 := Tryz.sizeOf175
 v46 := Tryz.zeroValue175
 t51 := Tryz.underlying24
 a51 := Tryz.isAgg24
 z51 := Tryz.sizeOf24
 v51 := Tryz.zeroValue24
 t53 := Tryz.underlying84
 a53 := Tryz.isAgg84
 z53 := Tryz.sizeOf84
 v53 := Tryz.zeroValue84
 t131 := Tryz.underlying56
 a131 := Tryz.isAgg56
 z131 := Tryz.sizeOf56
 v131 := Tryz.zeroValue56
 t182 := Tryz.underlying187
 a182 := Tryz.isAgg187
 z182 := Tryz.sizeOf187
 v182 := Tryz.zeroValue187
 t183 := Tryz.underlying188
 a183 := Tryz.isAgg188
 z183 := Tryz.sizeOf188
 v183 := Tryz.zeroValue188
 t218 := Tryz.underlying207
 a218 := Tryz.isAgg207
 z218 := Tryz.sizeOf207
 v218 := Tryz.zeroValue207
 t222 := Tryz.underlying211
 a222 := Tryz.isAgg211
 z222 := Tryz.sizeOf211
 v222 := Tryz.zeroValue211
 t228 := Tryz.underlying214
 a228 := Tryz.isAgg214
 z228 := Tryz.sizeOf214
 v228 := Tryz.zeroValue214
 t229 := Tryz.underlying215
 a229 := Tryz.isAgg215
 z229 := Tryz.sizeOf215
 v229 := Tryz.zeroValue215 }
open Go.Sort Go.RowKit in
theorem Sh_slices_Sort_int (blk off cap : Nat) (zs : List Int) (w : World) (hH : Holds (Value.int .i64) w blk off zs.toArray) (hblk : blk < w.heap.size) (hsz : zs.length < 4611686018427387904) :
 Calls Tryz.prog 109 #[.slice (some ⟨blk, off, none⟩) zs.length cap] w fun e w' =>
  e = .returned (.tuple #[]) ∧ ∃ n os, w' = grow (putRow (Value.int .i64) (Sort.ahead w n) blk off (zs.mergeSort fun x y => decide (x ≤ y)).toArray) os := Any.slices_Sort_int Sh_lays189 blk off cap zs w hH hblk hsz
def Sh_laysNm220_ren : Go.Shelf.Ren := ⟨fun | 20 => 110 | n => n, fun | 22 => 59 | 3 => 3 | 4 => 4 | 0 => 0 | n => n, fun | n => n⟩
theorem Sh_laysNm220 : Go.Proofs.Lays2.n20 Tryz.prog Sh_laysNm220_ren := {
 mixed := by kernel_rfl
 f20 := Tryz.func110.trans (congrArg some (by kernel_rfl))
 t0 := Tryz.underlying0
 a0 := Tryz.isAgg0
 z0 := Tryz.sizeOf0
 v0 := Tryz.zeroValue0
 t3 := Tryz.underlying3
 a3 := Tryz.isAgg3
 z3 := Tryz.sizeOf3
 v3 := Tryz.zeroValue3
 t4 := Tryz.underlying4
 a4 := Tryz.isAgg4
 z4 := Tryz.sizeOf4
 v4 := Tryz.zeroValue4
 t22 := Tryz.underlying59
 a22 := Tryz.isAgg59
 z22 := Tryz.sizeOf59
 v22 := Tryz.zeroValue59
 i3 := by kernel_rfl }
open Go.RowKit Go.Lib Go.Sort in
theorem Sh_slices_Compact_int (blk off cap : Nat) (zs : List Int) (w : World) (hH : Holds (Value.int .i64) w blk off zs.toArray) (hsz : zs.length ≤ 9223372036854775807) (hcap : zs.length ≤ cap) :
 Calls Tryz.prog 110 #[.slice (some ⟨blk, off, none⟩) zs.length cap] w fun e w' => e = .returned (.slice (some ⟨blk, off, none⟩) (Lib.compact zs).length cap) ∧ ∃ q, w' = putRow (Value.int .i64) (Sort.ahead w q) blk off (Lib.compact zs ++ List.replicate (zs.length - (Lib.compact zs).length) 0).toArray := Any.slices_Compact_int Sh_laysNm220 blk off cap zs w hH hsz hcap
open Go.RowKit Go.Lib Go.Sort in
theorem Sh_slices_Compact_int_empty (a : Option Addr) (cap : Nat) (w : World) :
 Calls Tryz.prog 110 #[.slice a 0 cap] w fun e w' => e = .returned (.slice a 0 cap) ∧ w' = w := Any.slices_Compact_int_empty Sh_laysNm220 a cap w
open Go.RowKit Go.Lib Go.Sort in
theorem Sh_slices_Sort_int_none (p : Option Addr) (cap : Nat) (w : World) :
 Calls Tryz.prog 109 #[.slice p 0 cap] w fun e w' => e = .returned (.tuple #[]) ∧ w' = w := Any.slices_Sort_int_none Sh_lays189 p cap w
end Go.Proofs.YtplbaolbaniioaaGreatDoor
