/- The library's contracts at this program, laid by the kit's tools (lay-shelf.mjs, lay-plain.mjs). -/
import Derived.Shelf.Strings.Builder1
import Derived.Shelf.Strings.Builder2
import Derived.Shelf.Strings.OnBuilder
import Derived.Shelf.Strconv.Itoa0
import Derived.Shelf.Strconv.Itoa1
import Derived.Shelf.LaysM
import Derived.Shelf.Strconv.Itoa2
import Derived.Shelf.Strconv.Itoa3
import Derived.Shelf.Strings.Fields
import Derived.Shelf.Unicode.Latin
import Derived.Shelf.Unicode.Is16White
import Derived.Shelf.Unicode.IsSpaceAny
import Derived.Shelf.Strings.FieldsFuncAny
import Derived.Shelf.Unicode.Is16Any
import Derived.Shelf.Unicode.Is32Any
import Derived.Shelf.Unicode.ExclAny
import Derived.Shelf.Strings.FieldsFuncGrows
import Derived.Test.YtlfkighdmheniaaDoorProg
namespace Go.Proofs.YtlfkighdmheniaaDoor
open Go.Shelf Go.RowKit
def Sh_lays156_ren : Go.Shelf.Ren := ⟨fun | 156 => 160 | 165 => 173 | 166 => 174 | 169 => 175 | 240 => 182 | 241 => 183 | 276 => 189 | 277 => 190 | n => n, fun | 31 => 56 | 9 => 9 | 3 => 3 | 4 => 4 | 0 => 0 | 20 => 20 | 72 => 183 | 76 => 187 | 70 => 181 | 37 => 74 | 75 => 186 | 127 => 200 | 164 => 206 | 5 => 5 | 80 => 189 | n => n, fun | n => n⟩
theorem Sh_lays156 : Go.Proofs.Lays.n156 Tryd.prog Sh_lays156_ren := {
  mixed := by kernel_rfl
  f156 := Tryd.func160.trans (congrArg some (by kernel_rfl))
  f165 := Tryd.func173.trans (congrArg some (by kernel_rfl))
  f166 := Tryd.func174.trans (congrArg some (by kernel_rfl))
  f169 := Tryd.func175.trans (congrArg some (by kernel_rfl))
  f240 := Tryd.func182.trans (congrArg some (by kernel_rfl))
  f241 := Tryd.func183.trans (congrArg some (by kernel_rfl))
  f276 := Tryd.func189.trans (congrArg some (by kernel_rfl))
  f277 := Tryd.func190.trans (congrArg some (by kernel_rfl))
  t0 := Tryd.underlying0
  a0 := Tryd.isAgg0
  z0 := Tryd.sizeOf0
  v0 := Tryd.zeroValue0
  t3 := Tryd.underlying3
  a3 := Tryd.isAgg3
  z3 := Tryd.sizeOf3
  v3 := Tryd.zeroValue3
  t4 := Tryd.underlying4
  a4 := Tryd.isAgg4
  z4 := Tryd.sizeOf4
  v4 := Tryd.zeroValue4
  t9 := Tryd.underlying9
  a9 := Tryd.isAgg9
  z9 := Tryd.sizeOf9
  v9 := Tryd.zeroValue9
  t20 := Tryd.underlying20
  a20 := Tryd.isAgg20
  z20 := Tryd.sizeOf20
  v20 := Tryd.zeroValue20
  t31 := Tryd.underlying56
  a31 := Tryd.isAgg56
  z31 := Tryd.sizeOf56
  v31 := Tryd.zeroValue56
  t37 := Tryd.underlying74
  a37 := Tryd.isAgg74
  z37 := Tryd.sizeOf74
  v37 := Tryd.zeroValue74
  t70 := Tryd.underlying181
  a70 := Tryd.isAgg181
  z70 := Tryd.sizeOf181
  v70 := Tryd.zeroValue181
  t72 := Tryd.underlying183
  a72 := Tryd.isAgg183
  z72 := Tryd.sizeOf183
  v72 := Tryd.zeroValue183
  t75 := Tryd.underlying186
  a75 := Tryd.isAgg186
  z75 := Tryd.sizeOf186
  v75 := Tryd.zeroValue186
  t76 := Tryd.underlying187
  a76 := Tryd.isAgg187
  z76 := Tryd.sizeOf187
  v76 := Tryd.zeroValue187
  t127 := Tryd.underlying200
  a127 := Tryd.isAgg200
  z127 := Tryd.sizeOf200
  v127 := Tryd.zeroValue200
  t164 := Tryd.underlying206
  a164 := Tryd.isAgg206
  z164 := Tryd.sizeOf206
  v164 := Tryd.zeroValue206 }
theorem Sh_Builder_Extra_156 : Builder.Extra Tryd.prog Sh_lays156_ren := {
  sizeBuilder := by kernel_rfl
  liesBuilder := by kernel_rfl
  t5 := Tryd.underlying5
  a5 := Tryd.isAgg5
  z5 := Tryd.sizeOf5
  v5 := Tryd.zeroValue5
  infoByte := by kernel_rfl
  cellsByte := by kernel_rfl
  sizeByte := by kernel_rfl
  neB5 := by decide }
theorem Sh_strings_Join_none (a : Option Addr) (c : Nat) (sep : ByteArray) (w : World) :
    Calls Tryd.prog 160 #[.slice a 0 c, .string sep] w fun e w' => e = .returned (.string ⟨#[]⟩) ∧ w' = w := Any.strings_Join_none Sh_lays156 Sh_Builder_Extra_156 a c sep w
theorem Sh_strings_Join (bk o c : Nat) (xs : List ByteArray) (sep : ByteArray) (w : World) (hcells : ∀ (j : Nat) x, xs[j]? = some x → w.cell? ⟨bk, o + j, none⟩ = some (.string x)) (hbk : bk < w.heap.size) (hN : xs.length ≤ 140737488355328) (hcap : xs.length ≤ c) (hlen : (Lib.join (xs.map (·.data.toList)) sep.data.toList).length ≤ 140737488355328) :
    Calls Tryd.prog 160 #[.slice (some ⟨bk, o, none⟩) xs.length c, .string sep] w fun e w' => e = .returned (.string ⟨(Lib.join (xs.map (·.data.toList)) sep.data.toList).toArray⟩) ∧ Below w.heap.size w w' := Any.strings_Join Sh_lays156 Sh_Builder_Extra_156 bk o c xs sep w hcells hbk hN hcap hlen
def Sh_lays171_ren : Go.Shelf.Ren := ⟨fun | 171 => 110 | 243 => 161 | 246 => 176 | 283 => 178 | 284 => 179 | 285 => 180 | 286 => 181 | 129 => 185 | 317 => 184 | 318 => 186 | 319 => 187 | 320 => 188 | 337 => 191 | 338 => 192 | n => n, fun | 3 => 3 | 9 => 9 | 2 => 2 | 4 => 4 | 171 => 195 | 0 => 0 | 53 => 143 | 37 => 74 | 5 => 5 | 173 => 198 | 212 => 203 | 51 => 22 | 20 => 20 | 213 => 204 | 46 => 193 | 232 => 210 | 233 => 211 | n => n, fun | 17 => 2 | 18 => 4 | 19 => 5 | n => n⟩
theorem Sh_lays171 : Go.Proofs.Lays.n171 Tryd.prog Sh_lays171_ren := {
  mixed := by kernel_rfl
  f129 := Tryd.func185.trans (congrArg some (by kernel_rfl))
  f171 := Tryd.func110.trans (congrArg some (by kernel_rfl))
  f243 := Tryd.func161.trans (congrArg some (by kernel_rfl))
  f246 := Tryd.func176.trans (congrArg some (by kernel_rfl))
  f283 := Tryd.func178.trans (congrArg some (by kernel_rfl))
  f284 := Tryd.func179.trans (congrArg some (by kernel_rfl))
  f285 := Tryd.func180.trans (congrArg some (by kernel_rfl))
  f286 := Tryd.func181.trans (congrArg some (by kernel_rfl))
  f317 := Tryd.func184.trans (congrArg some (by kernel_rfl))
  f318 := Tryd.func186.trans (congrArg some (by kernel_rfl))
  f319 := Tryd.func187.trans (congrArg some (by kernel_rfl))
  f320 := Tryd.func188.trans (congrArg some (by kernel_rfl))
  f337 := Tryd.func191.trans (congrArg some (by kernel_rfl))
  f338 := Tryd.func192.trans (congrArg some (by kernel_rfl))
  t0 := Tryd.underlying0
  a0 := Tryd.isAgg0
  z0 := Tryd.sizeOf0
  v0 := Tryd.zeroValue0
  t2 := Tryd.underlying2
  a2 := Tryd.isAgg2
  z2 := Tryd.sizeOf2
  v2 := Tryd.zeroValue2
  t3 := Tryd.underlying3
  a3 := Tryd.isAgg3
  z3 := Tryd.sizeOf3
  v3 := Tryd.zeroValue3
  t4 := Tryd.underlying4
  a4 := Tryd.isAgg4
  z4 := Tryd.sizeOf4
  v4 := Tryd.zeroValue4
  t5 := Tryd.underlying5
  a5 := Tryd.isAgg5
  z5 := Tryd.sizeOf5
  v5 := Tryd.zeroValue5
  t9 := Tryd.underlying9
  a9 := Tryd.isAgg9
  z9 := Tryd.sizeOf9
  v9 := Tryd.zeroValue9
  t20 := Tryd.underlying20
  a20 := Tryd.isAgg20
  z20 := Tryd.sizeOf20
  v20 := Tryd.zeroValue20
  t37 := Tryd.underlying74
  a37 := Tryd.isAgg74
  z37 := Tryd.sizeOf74
  v37 := Tryd.zeroValue74
  t46 := Tryd.underlying193
  a46 := Tryd.isAgg193
  z46 := Tryd.sizeOf193
  v46 := Tryd.zeroValue193
  t51 := Tryd.underlying22
  a51 := Tryd.isAgg22
  z51 := Tryd.sizeOf22
  v51 := Tryd.zeroValue22
  t53 := Tryd.underlying143
  a53 := Tryd.isAgg143
  z53 := Tryd.sizeOf143
  v53 := Tryd.zeroValue143
  t171 := Tryd.underlying195
  a171 := Tryd.isAgg195
  z171 := Tryd.sizeOf195
  v171 := Tryd.zeroValue195
  t173 := Tryd.underlying198
  a173 := Tryd.isAgg198
  z173 := Tryd.sizeOf198
  v173 := Tryd.zeroValue198
  t212 := Tryd.underlying203
  a212 := Tryd.isAgg203
  z212 := Tryd.sizeOf203
  v212 := Tryd.zeroValue203
  t213 := Tryd.underlying204
  a213 := Tryd.isAgg204
  z213 := Tryd.sizeOf204
  t232 := Tryd.underlying210
  a232 := Tryd.isAgg210
  z232 := Tryd.sizeOf210
  v232 := Tryd.zeroValue210
  t233 := Tryd.underlying211
  a233 := Tryd.isAgg211
  z233 := Tryd.sizeOf211
  v233 := Tryd.zeroValue211
  g17 := by kernel_rfl
  g18 := by kernel_rfl
  g19 := by kernel_rfl }
open Go.RowKit Go.Sort Go.Lib in
theorem Sh_strconv_Itoa_small (i : Nat) (hi : i < 100) (w : World) :
    Calls Tryd.prog 110 #[.int .i64 i] w fun e w' => e = .returned (.string ⟨(Lib.decDigits i).toArray⟩) ∧ w' = w := Any.strconv_Itoa_small Sh_lays171 i hi w
def Sh_lays157_ren : Go.Shelf.Ren := ⟨fun | 157 => 67 | 229 => 102 | 199 => 103 | 261 => 150 | 311 => 168 | 312 => 169 | n => n, fun | 9 => 9 | 31 => 56 | 3 => 3 | 5 => 5 | 4 => 4 | 119 => 101 | 0 => 0 | 40 => 103 | 152 => 137 | 21 => 21 | 154 => 139 | 51 => 22 | 141 => 141 | 196 => 165 | 193 => 162 | 198 => 168 | 49 => 166 | 194 => 163 | 201 => 171 | 226 => 192 | 46 => 193 | 227 => 194 | n => n, fun | 0 => 0 | 6 => 1 | n => n⟩
theorem Sh_lays157 : Go.Proofs.Lays.n157 Tryd.prog Sh_lays157_ren := {
  mixed := by kernel_rfl
  f157 := Tryd.func67.trans (congrArg some (by kernel_rfl))
  f199 := Tryd.func103.trans (congrArg some (by kernel_rfl))
  f229 := Tryd.func102.trans (congrArg some (by kernel_rfl))
  f261 := Tryd.func150.trans (congrArg some (by kernel_rfl))
  f311 := Tryd.func168.trans (congrArg some (by kernel_rfl))
  f312 := Tryd.func169.trans (congrArg some (by kernel_rfl))
  t0 := Tryd.underlying0
  a0 := Tryd.isAgg0
  z0 := Tryd.sizeOf0
  v0 := Tryd.zeroValue0
  t3 := Tryd.underlying3
  a3 := Tryd.isAgg3
  z3 := Tryd.sizeOf3
  v3 := Tryd.zeroValue3
  t4 := Tryd.underlying4
  a4 := Tryd.isAgg4
  z4 := Tryd.sizeOf4
  v4 := Tryd.zeroValue4
  t5 := Tryd.underlying5
  a5 := Tryd.isAgg5
  z5 := Tryd.sizeOf5
  v5 := Tryd.zeroValue5
  t9 := Tryd.underlying9
  a9 := Tryd.isAgg9
  z9 := Tryd.sizeOf9
  v9 := Tryd.zeroValue9
  t21 := Tryd.underlying21
  a21 := Tryd.isAgg21
  z21 := Tryd.sizeOf21
  v21 := Tryd.zeroValue21
  t31 := Tryd.underlying56
  a31 := Tryd.isAgg56
  z31 := Tryd.sizeOf56
  v31 := Tryd.zeroValue56
  t40 := Tryd.underlying103
  a40 := Tryd.isAgg103
  z40 := Tryd.sizeOf103
  v40 := Tryd.zeroValue103
  t46 := Tryd.underlying193
  a46 := Tryd.isAgg193
  z46 := Tryd.sizeOf193
  v46 := Tryd.zeroValue193
  t49 := Tryd.underlying166
  a49 := Tryd.isAgg166
  z49 := Tryd.sizeOf166
  v49 := Tryd.zeroValue166
  t51 := Tryd.underlying22
  a51 := Tryd.isAgg22
  z51 := Tryd.sizeOf22
  v51 := Tryd.zeroValue22
  t119 := Tryd.underlying101
  a119 := Tryd.isAgg101
  z119 := Tryd.sizeOf101
  t141 := Tryd.underlying141
  a141 := Tryd.isAgg141
  z141 := Tryd.sizeOf141
  v141 := Tryd.zeroValue141
  t152 := Tryd.underlying137
  a152 := Tryd.isAgg137
  z152 := Tryd.sizeOf137
  v152 := Tryd.zeroValue137
  t154 := Tryd.underlying139
  a154 := Tryd.isAgg139
  z154 := Tryd.sizeOf139
  v154 := Tryd.zeroValue139
  t193 := Tryd.underlying162
  a193 := Tryd.isAgg162
  z193 := Tryd.sizeOf162
  v193 := Tryd.zeroValue162
  t194 := Tryd.underlying163
  a194 := Tryd.isAgg163
  z194 := Tryd.sizeOf163
  v194 := Tryd.zeroValue163
  t196 := Tryd.underlying165
  a196 := Tryd.isAgg165
  z196 := Tryd.sizeOf165
  v196 := Tryd.zeroValue165
  t198 := Tryd.underlying168
  a198 := Tryd.isAgg168
  z198 := Tryd.sizeOf168
  v198 := Tryd.zeroValue168
  t201 := Tryd.underlying171
  a201 := Tryd.isAgg171
  z201 := Tryd.sizeOf171
  v201 := Tryd.zeroValue171
  t226 := Tryd.underlying192
  a226 := Tryd.isAgg192
  z226 := Tryd.sizeOf192
  v226 := Tryd.zeroValue192
  t227 := Tryd.underlying194
  a227 := Tryd.isAgg194
  z227 := Tryd.sizeOf194
  v227 := Tryd.zeroValue194
  g0 := by kernel_rfl
  g6 := by kernel_rfl }
open Go.RowKit Go.Lib in
theorem Sh_strings_Fields (s : ByteArray) (w : World) (hs : s.size < 4294967281) (hascii : ∀ (j : Nat) b, s.data.toList[j]? = some b → b.toNat < 128) (htab : Lib.TabIs Tryd.prog w "strings.asciiSpace" .u8 Lib.asciiSpaceTab) :
    Calls Tryd.prog 67 #[.string s] w fun e w' =>
      e = .returned (.slice (some ⟨w.heap.size, 0, none⟩) (Lib.fields s.data.toList).length (Lib.fields s.data.toList).length) ∧ w' = w.alloc (.cells ((Lib.fields s.data.toList).map fun l => Value.string ⟨l.toArray⟩).toArray 9) := Any.strings_Fields Sh_lays157 (by kernel_rfl) (by kernel_rfl) s w hs hascii htab
end Go.Proofs.YtlfkighdmheniaaDoor
