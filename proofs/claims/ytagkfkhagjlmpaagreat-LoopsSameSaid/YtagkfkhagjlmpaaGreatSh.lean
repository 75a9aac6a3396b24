import Derived.Shelf.Sort.Plain
import Derived.Shelf.Slices.Reverse
import Derived.Ground.Names2Prog
import Derived.Shelf.Slices.CompactI
import Derived.Shelf.Slices.Cells
import Derived.Shelf.Slices.In.SortNone
import Derived.Shelf.SlIterI.Keys
import Derived.Shelf.SlIterI.Sorted
import Derived.Ground.GgzProg
import Derived.Shelf.SlMaps.Clone
import Derived.Ground.SlmcProg
import Derived.Test.YtagkfkhagjlmpaaGreatProg
namespace Go.Proofs.YtagkfkhagjlmpaaGreat
open Go.Shelf Go.RowKit
def Sh_lays189_ren : Go.Shelf.Ren := ⟨fun | 189 => 95 | 125 => 132 | 257 => 131 | 128 => 156 | 129 => 157 | 294 => 147 | 295 => 148 | 296 => 149 | 297 => 150 | 298 => 151 | 299 => 152 | 216 => 153 | 300 => 154 | 301 => 155 | 328 => 164 | 329 => 165 | 330 => 166 | 331 => 167 | 332 => 168 | 215 => 169 | 343 => 176 | n => n, fun | 28 => 49 | 3 => 3 | 46 => 182 | 0 => 0 | 51 => 22 | 53 => 120 | 4 => 4 | 183 => 195 | 182 => 194 | 131 => 177 | 5 => 5 | 9 => 9 | 218 => 207 | 222 => 211 | 228 => 220 | 229 => 221 | n => n, fun | n => n⟩
theorem Sh_lays189 : Go.Proofs.Lays.n189 Tryz.prog Sh_lays189_ren := {
 mixed := by kernel_rfl
 f125 := Tryz.func132.trans (congrArg some (by kernel_rfl))
 f128 := Tryz.func156.trans (congrArg some (by kernel_rfl))
 f129 := Tryz.func157.trans (congrArg some (by kernel_rfl))
 f189 := Tryz.func95.trans (congrArg some (by kernel_rfl))
 f215 := Tryz.func169.trans (congrArg some (by kernel_rfl))
 f216 := Tryz.func153.trans (congrArg some (by kernel_rfl))
 f257 := Tryz.func131.trans (congrArg some (by kernel_rfl))
 f294 := Tryz.func147.trans (congrArg some (by kernel_rfl))
 f295 := Tryz.func148.trans (congrArg some (by kernel_rfl))
 f296 := Tryz.func149.trans (congrArg some (by kernel_rfl))
 f297 := Tryz.func150.trans (congrArg some (by kernel_rfl))
 f298 := Tryz.func151.trans (congrArg some (by kernel_rfl))
 f299 := Tryz.func152.trans (congrArg some (by kernel_rfl))
 f300 := Tryz.func154.trans (congrArg some (by kernel_rfl))
 f301 := Tryz.func155.trans (congrArg some (by kernel_rfl))
 f328 := Tryz.func164.trans (congrArg some (by kernel_rfl))
 f329 := Tryz.func165.trans (congrArg some (by kernel_rfl))
 f330 := Tryz.func166.trans (congrArg some (by kernel_rfl))
 f331 := Tryz.func167.trans (congrArg some (by kernel_rfl))
 f332 := Tryz.func168.trans (congrArg some (by kernel_rfl))
 f343 := Tryz.func176.trans (congrArg some (by kernel_rfl))
 t0 := Tryz.underlying0
 a0 := Tryz.isAgg0
 z0 := Tryz.sizeOf0
 v0 := Tryz.zeroValue0
 t3 := Tryz.underlying3
 a3 := Tryz.isAgg3
 z3 := Tryz.sizeOf3
 v3 := Tryz.zeroValue3
 t4 := Tryz.underlying4
 a4 := Tryz.isAgg4
 z4 := Tryz.sizeOf4
 v4 := Tryz.zeroValue4
 t5 := Tryz.underlying5
 a5 := Tryz.isAgg5
 z5 := Tryz.sizeOf5
 v5 := Tryz.zeroValue5
 t9 := Tryz.underlying9
 a9 := Tryz.isAgg9
 z9 := Tryz.sizeOf9
 v9 := Tryz.zeroValue9
 t28 := Tryz.underlying49
 a28 := Tryz.isAgg49
 z28 := Tryz.sizeOf49
 v28 := Tryz.zeroValue49
 t46 := Tryz.underlying182
 a46 := Tryz.isAgg182
 z46 := Tryz.sizeOf182
 v46 := Tryz.zeroValue182
 t51 := Tryz.underlying22
 a51 := Tryz.isAgg22
 z51 := Tryz.sizeOf22
 v51 := Tryz.zeroValue22
 t53 := Tryz.underlying120
 a53 := Tryz.isAgg120
 z53 := Tryz.sizeOf120
 v53 := Tryz.zeroValue120
 t131 := Tryz.underlying177
 a131 := Tryz.isAgg177
 z131 := Tryz.sizeOf177
 v131 := Tryz.zeroValue177
 t182 := Tryz.underlying194
 a182 := Tryz.isAgg194
 z182 := Tryz.sizeOf194
 v182 := Tryz.zeroValue194
 t183 := Tryz.underlying195
 a183 := Tryz.isAgg195
 z183 := Tryz.sizeOf195
 v183 := Tryz.zeroValue195
 t218 := Tryz.underlying207
 a218 := Tryz.isAgg207
 z218 := Tryz.sizeOf207
 v218 := Tryz.zeroValue207
 t222 := Tryz.underlying211
 a222 := Tryz.isAgg211
 z222 := Tryz.sizeOf211
 v222 := Tryz.zeroValue211
 t228 := Tryz.underlying220
 a228 := Tryz.isAgg220
 z228 := Tryz.sizeOf220
 v228 := Tryz.zeroValue220
 t229 := Tryz.underlying221
 a229 := Tryz.isAgg221
 z229 := Tryz.sizeOf221
 v229 := Tryz.zeroValue221 }
open Go.Sort Go.RowKit in
theorem Sh_slices_Sort_int (blk off cap : Nat) (zs : List Int) (w : World) (hH : Holds (Value.int .i64) w blk off zs.toArray) (hblk : blk < w.heap.size) (hsz : zs.length < 4611686018427387904) :
 Calls Tryz.prog 95 #[.slice (some ⟨blk, off, none⟩) zs.length cap] w fun e w' =>
  e = .returned (.tuple #[]) ∧ ∃ n os, w' = grow (putRow (Value.int .i64) (Sort.ahead w n) blk off (zs.mergeSort fun x y => decide (x ≤ y)).toArray) os := Any.slices_Sort_int Sh_lays189 blk off cap zs w hH hblk hsz
def Sh_lays112_ren : Go.Shelf.Ren := ⟨fun | 112 => 128 | n => n, fun | 28 => 49 | 3 => 3 | 4 => 4 | 0 => 0 | n => n, fun | n => n⟩
theorem Sh_lays112 : Go.Proofs.Lays.n112 Tryz.prog Sh_lays112_ren := {
 mixed := by kernel_rfl
 f112 := Tryz.func128.trans (congrArg some (by kernel_rfl))
 t0 := Tryz.underlying0
 a0 := Tryz.isAgg0
 z0 := Tryz.sizeOf0
 v0 := Tryz.zeroValue0
 t3 := Tryz.underlying3
 a3 := Tryz.isAgg3
 z3 := Tryz.sizeOf3
 v3 := Tryz.zeroValue3
 t4 := Tryz.underlying4
 a4 := Tryz.isAgg4
 z4 := Tryz.sizeOf4
 v4 := Tryz.zeroValue4
 t28 := Tryz.underlying49
 a28 := Tryz.isAgg49
 z28 := Tryz.sizeOf49
 v28 := Tryz.zeroValue49 }
open Go.RowKit Go.Lib Go.Sort in
theorem Sh_slices_Reverse_int (blk off cap : Nat) (zs : List Int) (w : World) (hH : Holds (Value.int .i64) w blk off zs.toArray) (hsz : zs.length ≤ 9223372036854775807) :
 Calls Tryz.prog 128 #[.slice (some ⟨blk, off, none⟩) zs.length cap] w fun e w' => e = .returned (.tuple #[]) ∧ ∃ n, w' = putRow (Value.int .i64) (Sort.ahead w n) blk off zs.reverse.toArray := Any.slices_Reverse_int Sh_lays112 blk off cap zs w hH hsz
open Go.RowKit Go.Lib Go.Sort in
theorem Sh_slices_Reverse_int_empty (a : Option Addr) (cap : Nat) (w : World) :
 Calls Tryz.prog 128 #[.slice a 0 cap] w fun e w' => e = .returned (.tuple #[]) ∧ w' = w := Any.slices_Reverse_int_empty Sh_lays112 a cap w
def Sh_laysNm220_ren : Go.Shelf.Ren := ⟨fun | 20 => 96 | n => n, fun | 22 => 49 | 3 => 3 | 4 => 4 | 0 => 0 | n => n, fun | n => n⟩
theorem Sh_laysNm220 : Go.Proofs.Lays2.n20 Tryz.prog Sh_laysNm220_ren := {
 mixed := by kernel_rfl
 f20 := Tryz.func96.trans (congrArg some (by kernel_rfl))
 t0 := Tryz.underlying0
 a0 := Tryz.isAgg0
 z0 := Tryz.sizeOf0
 v0 := Tryz.zeroValue0
 t3 := Tryz.underlying3
 a3 := Tryz.isAgg3
 z3 := Tryz.sizeOf3
 v3 := Tryz.zeroValue3
 t4 := Tryz.underlying4
 a4 := Tryz.isAgg4
 z4 := Tryz.sizeOf4
 v4 := Tryz.zeroValue4
 t22 := Tryz.underlying49
 a22 := Tryz.isAgg49
 z22 := Tryz.sizeOf49
 v22 := Tryz.zeroValue49
 i3 := by kernel_rfl }
open Go.RowKit Go.Lib Go.Sort in
theorem Sh_slices_Compact_int (blk off cap : Nat) (zs : List Int) (w : World) (hH : Holds (Value.int .i64) w blk off zs.toArray) (hsz : zs.length ≤ 9223372036854775807) (hcap : zs.length ≤ cap) :
 Calls Tryz.prog 96 #[.slice (some ⟨blk, off, none⟩) zs.length cap] w fun e w' => e = .returned (.slice (some ⟨blk, off, none⟩) (Lib.compact zs).length cap) ∧ ∃ q, w' = putRow (Value.int .i64) (Sort.ahead w q) blk off (Lib.compact zs ++ List.replicate (zs.length - (Lib.compact zs).length) 0).toArray := Any.slices_Compact_int Sh_laysNm220 blk off cap zs w hH hsz hcap
open Go.RowKit Go.Lib Go.Sort in
theorem Sh_slices_Compact_int_empty (a : Option Addr) (cap : Nat) (w : World) :
 Calls Tryz.prog 96 #[.slice a 0 cap] w fun e w' => e = .returned (.slice a 0 cap) ∧ w' = w := Any.slices_Compact_int_empty Sh_laysNm220 a cap w
open Go.RowKit Go.Lib Go.Sort in
theorem Sh_slices_Sort_int_none (p : Option Addr) (cap : Nat) (w : World) :
 Calls Tryz.prog 95 #[.slice p 0 cap] w fun e w' => e = .returned (.tuple #[]) ∧ w' = w := Any.slices_Sort_int_none Sh_lays189 p cap w
def Sh_keysA_ren : Go.Shelf.Ren := ⟨fun | 7 => 94 | 10 => 130 | n => n, fun | 23 => 75 | 26 => 3 | 3 => 4 | 28 => 148 | 0 => 0 | 27 => 147 | 33 => 81 | 4 => 4 | n => n, fun | n => n⟩
theorem Sh_keysA : Go.Proofs.SlLaysZI.n7 Tryz.prog Sh_keysA_ren := {
 mixed := by kernel_rfl
 f7 := ⟨Tryz.f94.name, by decide, Tryz.func94.trans (congrArg some (by kernel_rfl))⟩
 f10 := ⟨Tryz.f130.name, by decide, Tryz.func130.trans (congrArg some (by kernel_rfl))⟩
 t0 := Tryz.underlying0
 a0 := Tryz.isAgg0
 z0 := Tryz.sizeOf0
 v0 := Tryz.zeroValue0
 t4 := Tryz.underlying4
 a4 := Tryz.isAgg4
 z4 := Tryz.sizeOf4
 v4 := Tryz.zeroValue4
 t23 := Tryz.underlying75
 a23 := Tryz.isAgg75
 z23 := Tryz.sizeOf75
 v23 := Tryz.zeroValue75
 t26 := Tryz.underlying3
 a26 := Tryz.isAgg3
 z26 := Tryz.sizeOf3
 v26 := Tryz.zeroValue3
 t27 := Tryz.underlying147
 a27 := Tryz.isAgg147
 z27 := Tryz.sizeOf147
 v27 := Tryz.zeroValue147
 t28 := Tryz.underlying148
 a28 := Tryz.isAgg148
 z28 := Tryz.sizeOf148
 v28 := Tryz.zeroValue148
 t33 := Tryz.underlying81
 a33 := Tryz.isAgg81
 z33 := Tryz.sizeOf81
 v33 := Tryz.zeroValue81 }
def Sh_sortedA_ren : Go.Shelf.Ren := ⟨fun | 6 => 93 | 8 => 129 | 9 => 95 | 11 => 146 | 13 => 132 | 12 => 131 | 23 => 156 | 24 => 157 | 14 => 147 | 15 => 148 | 16 => 149 | 17 => 150 | 18 => 151 | 19 => 152 | 20 => 153 | 21 => 154 | 22 => 155 | 25 => 164 | 26 => 165 | 27 => 166 | 28 => 167 | 29 => 168 | 30 => 169 | 31 => 176 | n => n, fun | 26 => 3 | 28 => 148 | 24 => 49 | 0 => 0 | 3 => 3 | 37 => 182 | 48 => 22 | 50 => 120 | 4 => 4 | 40 => 195 | 39 => 194 | 45 => 177 | 5 => 5 | 9 => 9 | 51 => 207 | 55 => 211 | 57 => 220 | 58 => 221 | 33 => 81 | n => n, fun | n => n⟩
theorem Sh_sortedA : Go.Proofs.SlLaysZI.n6 Tryz.prog Sh_sortedA_ren := {
 mixed := by kernel_rfl
 f6 := ⟨Tryz.f93.name, by decide, Tryz.func93.trans (congrArg some (by kernel_rfl))⟩
 f8 := ⟨Tryz.f129.name, by decide, Tryz.func129.trans (congrArg some (by kernel_rfl))⟩
 f11 := ⟨Tryz.f146.name, by decide, Tryz.func146.trans (congrArg some (by kernel_rfl))⟩
 t0 := Tryz.underlying0
 a0 := Tryz.isAgg0
 z0 := Tryz.sizeOf0
 v0 := Tryz.zeroValue0
 t24 := Tryz.underlying49
 a24 := Tryz.isAgg49
 z24 := Tryz.sizeOf49
 v24 := Tryz.zeroValue49
 t26 := Tryz.underlying3
 a26 := Tryz.isAgg3
 z26 := Tryz.sizeOf3
 v26 := Tryz.zeroValue3
 t28 := Tryz.underlying148
 a28 := Tryz.isAgg148
 z28 := Tryz.sizeOf148
 v28 := Tryz.zeroValue148
 i26 := by kernel_rfl }
def Sh_cloneM_ren : Go.Shelf.Ren := ⟨fun | 5 => 36 | 7 => 77 | n => n, fun | 23 => 75 | 25 => 3 | 3 => 4 | 4 => 4 | 20 => 20 | n => n, fun | n => n⟩
theorem Sh_cloneM : Go.Proofs.SlLaysW.n5 Tryz.prog Sh_cloneM_ren := {
 mixed := by kernel_rfl
 f5 := ⟨Tryz.f36.name, by decide, Tryz.func36.trans (congrArg some (by kernel_rfl))⟩
 f7 := Tryz.func77.trans (congrArg some (by kernel_rfl))
 t4 := Tryz.underlying4
 a4 := Tryz.isAgg4
 z4 := Tryz.sizeOf4
 v4 := Tryz.zeroValue4
 t20 := Tryz.underlying20
 a20 := Tryz.isAgg20
 z20 := Tryz.sizeOf20
 v20 := Tryz.zeroValue20
 t23 := Tryz.underlying75
 a23 := Tryz.isAgg75
 z23 := Tryz.sizeOf75
 v23 := Tryz.zeroValue75 }
theorem Sh_maps_Clone (b : Nat) (es : Array MapEntry) (clock : Nat) (w : World) (hb : w.heap[b]? = some (.map es clock)) :
 Calls Tryz.prog 36 #[.map (some b)] w fun e w' => e = .returned (.map (some w.heap.size)) ∧ w' = w.alloc (.map es clock) := AnyW.maps_Clone Sh_cloneM b es clock w hb
end Go.Proofs.YtagkfkhagjlmpaaGreat
