/- The library's contracts at this program, laid by the kit's tools (lay-shelf.mjs, lay-plain.mjs). -/
import Derived.Shelf.Strings.Fields
import Derived.Shelf.Unicode.Latin
import Derived.Shelf.Unicode.Is16White
import Derived.Shelf.Unicode.IsSpaceAny
import Derived.Shelf.Strings.FieldsFuncAny
import Derived.Shelf.Unicode.Is16Any
import Derived.Shelf.Unicode.Is32Any
import Derived.Shelf.Unicode.ExclAny
import Derived.Shelf.Strings.FieldsFuncGrows
import Derived.Test.YtlfkighdmheniaaGreatDoorProg
namespace Go.Proofs.YtlfkighdmheniaaGreatDoor
open Go.Shelf Go.RowKit
def Sh_lays157_ren : Go.Shelf.Ren := ⟨fun | 157 => 33 | 229 => 60 | 199 => 61 | 261 => 94 | 311 => 106 | 312 => 107 | n => n, fun | 9 => 9 | 31 => 54 | 3 => 3 | 5 => 5 | 4 => 4 | 119 => 74 | 0 => 0 | 40 => 76 | 152 => 102 | 21 => 21 | 154 => 104 | 51 => 22 | 141 => 106 | 196 => 116 | 193 => 113 | 198 => 119 | 49 => 117 | 194 => 114 | 201 => 122 | 226 => 130 | 46 => 131 | 227 => 132 | n => n, fun | 0 => 0 | 6 => 1 | n => n⟩
theorem Sh_lays157 : Go.Proofs.Lays.n157 Tryz.prog Sh_lays157_ren := {
  mixed := by kernel_rfl
  f157 := Tryz.func33.trans (congrArg some (by kernel_rfl))
  f199 := Tryz.func61.trans (congrArg some (by kernel_rfl))
  f229 := Tryz.func60.trans (congrArg some (by kernel_rfl))
  f261 := Tryz.func94.trans (congrArg some (by kernel_rfl))
  f311 := Tryz.func106.trans (congrArg some (by kernel_rfl))
  f312 := Tryz.func107.trans (congrArg some (by kernel_rfl))
  t0 := Tryz.underlying0
  a0 := Tryz.isAgg0
  z0 := Tryz.sizeOf0
  v0 := Tryz.zeroValue0
  t3 := Tryz.underlying3
  a3 := Tryz.isAgg3
  z3 := Tryz.sizeOf3
  v3 := Tryz.zeroValue3
  t4 := Tryz.underlying4
  a4 := Tryz.isAgg4
  z4 := Tryz.sizeOf4
  v4 := Tryz.zeroValue4
  t5 := Tryz.underlying5
  a5 := Tryz.isAgg5
  z5 := Tryz.sizeOf5
  v5 := Tryz.zeroValue5
  t9 := Tryz.underlying9
  a9 := Tryz.isAgg9
  z9 := Tryz.sizeOf9
  v9 := Tryz.zeroValue9
  t21 := Tryz.underlying21
  a21 := Tryz.isAgg21
  z21 := Tryz.sizeOf21
  v21 := Tryz.zeroValue21
  t31 := Tryz.underlying54
  a31 := Tryz.isAgg54
  z31 := Tryz.sizeOf54
  v31 := Tryz.zeroValue54
  t40 := Tryz.underlying76
  a40 := Tryz.isAgg76
  z40 := Tryz.sizeOf76
  v40 := Tryz.zeroValue76
  t46 := Tryz.underlying131
  a46 := Tryz.isAgg131
  z46 := Tryz.sizeOf131
  v46 := Tryz.zeroValue131
  t49 := Tryz.underlying117
  a49 := Tryz.isAgg117
  z49 := Tryz.sizeOf117
  v49 := Tryz.zeroValue117
  t51 := Tryz.underlying22
  a51 := Tryz.isAgg22
  z51 := Tryz.sizeOf22
  v51 := Tryz.zeroValue22
  t119 := Tryz.underlying74
  a119 := Tryz.isAgg74
  z119 := Tryz.sizeOf74
  t141 := Tryz.underlying106
  a141 := Tryz.isAgg106
  z141 := Tryz.sizeOf106
  v141 := Tryz.zeroValue106
  t152 := Tryz.underlying102
  a152 := Tryz.isAgg102
  z152 := Tryz.sizeOf102
  v152 := Tryz.zeroValue102
  t154 := Tryz.underlying104
  a154 := Tryz.isAgg104
  z154 := Tryz.sizeOf104
  v154 := Tryz.zeroValue104
  t193 := Tryz.underlying113
  a193 := Tryz.isAgg113
  z193 := Tryz.sizeOf113
  v193 := Tryz.zeroValue113
  t194 := Tryz.underlying114
  a194 := Tryz.isAgg114
  z194 := Tryz.sizeOf114
  v194 := Tryz.zeroValue114
  t196 := Tryz.underlying116
  a196 := Tryz.isAgg116
  z196 := Tryz.sizeOf116
  v196 := Tryz.zeroValue116
  t198 := Tryz.underlying119
  a198 := Tryz.isAgg119
  z198 := Tryz.sizeOf119
  v198 := Tryz.zeroValue119
  t201 := Tryz.underlying122
  a201 := Tryz.isAgg122
  z201 := Tryz.sizeOf122
  v201 := Tryz.zeroValue122
  t226 := Tryz.underlying130
  a226 := Tryz.isAgg130
  z226 := Tryz.sizeOf130
  v226 := Tryz.zeroValue130
  t227 := Tryz.underlying132
  a227 := Tryz.isAgg132
  z227 := Tryz.sizeOf132
  v227 := Tryz.zeroValue132
  g0 := by kernel_rfl
  g6 := by kernel_rfl }
open Go.RowKit Go.Lib in
theorem Sh_strings_Fields (s : ByteArray) (w : World) (hs : s.size < 4294967281) (hascii : ∀ (j : Nat) b, s.data.toList[j]? = some b → b.toNat < 128) (htab : Lib.TabIs Tryz.prog w "strings.asciiSpace" .u8 Lib.asciiSpaceTab) :
    Calls Tryz.prog 33 #[.string s] w fun e w' =>
      e = .returned (.slice (some ⟨w.heap.size, 0, none⟩) (Lib.fields s.data.toList).length (Lib.fields s.data.toList).length) ∧ w' = w.alloc (.cells ((Lib.fields s.data.toList).map fun l => Value.string ⟨l.toArray⟩).toArray 9) := Any.strings_Fields Sh_lays157 (by kernel_rfl) (by kernel_rfl) s w hs hascii htab
end Go.Proofs.YtlfkighdmheniaaGreatDoor
