import Derived.Test.YtplbaolbaniioaaGreatDoorProg
import Derived.Test.YtplbaolbaniioaaGreatDoorAh
import Derived.KernelRfl
namespace Go.Proofs.YtplbaolbaniioaaGreatDoor
set_option maxRecDepth 100000
@[simp] theorem tk_26 : tk Tryz.prog 26 = some (true, 3) := by kernel_rfl
@[simp] theorem places_26 : places Tryz.prog 26 = some [(0, 1), (1, 1), (2, 1)] := by kernel_rfl
@[simp] theorem zvA_26 : zvA Tryz.prog 26 = some [AV.d (D.v (Value.slice none 0 0)), AV.d (D.v (Value.slice none 0 0)), AV.d (D.v (Value.int IntKind.u32 (0)))] := by kernel_rfl
@[simp] theorem ar_26 : ar Tryz.prog 26 = none := by kernel_rfl
@[simp] theorem fo_26_0 : fo Tryz.prog 26 0 = some 0 := by kernel_rfl
@[simp] theorem fo_26_1 : fo Tryz.prog 26 1 = some 1 := by kernel_rfl
@[simp] theorem fo_26_2 : fo Tryz.prog 26 2 = some 2 := by kernel_rfl
@[simp] theorem tk_30 : tk Tryz.prog 30 = some (true, 2) := by kernel_rfl
@[simp] theorem places_30 : places Tryz.prog 30 = some [(0, 1), (1, 1)] := by kernel_rfl
@[simp] theorem zvA_30 : zvA Tryz.prog 30 = some [AV.d (D.v (Value.int IntKind.u32 (0))), AV.d (D.v (Value.slice none 0 0))] := by kernel_rfl
@[simp] theorem ar_30 : ar Tryz.prog 30 = none := by kernel_rfl
@[simp] theorem fo_30_0 : fo Tryz.prog 30 0 = some 0 := by kernel_rfl
@[simp] theorem fo_30_1 : fo Tryz.prog 30 1 = some 1 := by kernel_rfl
@[simp] theorem tk_38 : tk Tryz.prog 38 = some (true, 2) := by kernel_rfl
@[simp] theorem places_38 : places Tryz.prog 38 = some [(0, 1), (1, 1)] := by kernel_rfl
@[simp] theorem zvA_38 : zvA Tryz.prog 38 = some [AV.d (D.v (Value.int IntKind.u32 (0))), AV.d (D.v (Value.slice none 0 0))] := by kernel_rfl
@[simp] theorem ar_38 : ar Tryz.prog 38 = none := by kernel_rfl
@[simp] theorem fo_38_0 : fo Tryz.prog 38 0 = some 0 := by kernel_rfl
@[simp] theorem fo_38_1 : fo Tryz.prog 38 1 = some 1 := by kernel_rfl
@[simp] theorem tk_42 : tk Tryz.prog 42 = some (true, 3) := by kernel_rfl
@[simp] theorem places_42 : places Tryz.prog 42 = some [(0, 1), (1, 1), (2, 1)] := by kernel_rfl
@[simp] theorem zvA_42 : zvA Tryz.prog 42 = some [AV.d (D.v (Value.int IntKind.i64 (0))), AV.d (D.v (Value.slice none 0 0)), AV.d (D.v (Value.int IntKind.i64 (0)))] := by kernel_rfl
@[simp] theorem ar_42 : ar Tryz.prog 42 = none := by kernel_rfl
@[simp] theorem fo_42_0 : fo Tryz.prog 42 0 = some 0 := by kernel_rfl
@[simp] theorem fo_42_1 : fo Tryz.prog 42 1 = some 1 := by kernel_rfl
@[simp] theorem fo_42_2 : fo Tryz.prog 42 2 = some 2 := by kernel_rfl
@[simp] theorem tk_53 : tk Tryz.prog 53 = some (true, 5) := by kernel_rfl
@[simp] theorem places_53 : places Tryz.prog 53 = some [(0, 1), (1, 1), (2, 1), (3, 1), (4, 1)] := by kernel_rfl
@[simp] theorem zvA_53 : zvA Tryz.prog 53 = some [AV.d (D.v (Value.int IntKind.i64 (0))), AV.d (D.v (Value.int IntKind.u32 (0))), AV.d (D.v (Value.int IntKind.i64 (0))), AV.d (D.v (Value.int IntKind.i64 (0))), AV.d (D.v (Value.slice none 0 0))] := by kernel_rfl
@[simp] theorem ar_53 : ar Tryz.prog 53 = none := by kernel_rfl
@[simp] theorem fo_53_0 : fo Tryz.prog 53 0 = some 0 := by kernel_rfl
@[simp] theorem fo_53_1 : fo Tryz.prog 53 1 = some 1 := by kernel_rfl
@[simp] theorem fo_53_2 : fo Tryz.prog 53 2 = some 2 := by kernel_rfl
@[simp] theorem fo_53_3 : fo Tryz.prog 53 3 = some 3 := by kernel_rfl
@[simp] theorem fo_53_4 : fo Tryz.prog 53 4 = some 4 := by kernel_rfl
@[simp] theorem tk_61 : tk Tryz.prog 61 = some (true, 8) := by kernel_rfl
@[simp] theorem zvA_61 : zvA Tryz.prog 61 = some [AV.d (D.v (Value.int IntKind.i64 (0))), AV.d (D.v (Value.int IntKind.i64 (0))), AV.d (D.v (Value.int IntKind.i64 (0))), AV.d (D.v (Value.int IntKind.i64 (0))), AV.d (D.v (Value.int IntKind.i64 (0))), AV.d (D.v (Value.int IntKind.u32 (0))), AV.d (D.v (Value.slice none 0 0)), AV.d (D.v (Value.slice none 0 0))] := by kernel_rfl
@[simp] theorem ar_61 : ar Tryz.prog 61 = none := by kernel_rfl
@[simp] theorem fo_61_0 : fo Tryz.prog 61 0 = some 0 := by kernel_rfl
@[simp] theorem fo_61_1 : fo Tryz.prog 61 1 = some 1 := by kernel_rfl
@[simp] theorem fo_61_2 : fo Tryz.prog 61 2 = some 2 := by kernel_rfl
@[simp] theorem fo_61_3 : fo Tryz.prog 61 3 = some 3 := by kernel_rfl
@[simp] theorem fo_61_4 : fo Tryz.prog 61 4 = some 4 := by kernel_rfl
@[simp] theorem fo_61_5 : fo Tryz.prog 61 5 = some 5 := by kernel_rfl
@[simp] theorem fo_61_6 : fo Tryz.prog 61 6 = some 6 := by kernel_rfl
@[simp] theorem fo_61_7 : fo Tryz.prog 61 7 = some 7 := by kernel_rfl
@[simp] theorem places_75 : places Tryz.prog 75 = some [(0, 1), (1, 1), (2, 1), (3, 12), (15, 1), (16, 1), (17, 1), (18, 1), (19, 1), (20, 1)] := by kernel_rfl
@[simp] theorem zvA_75 : zvA Tryz.prog 75 = some [AV.d (D.v (Value.slice none 0 0)), AV.d (D.v (Value.map none)), AV.d (D.v (Value.pointer none)), AV.d (D.v (Value.int IntKind.u32 (0))), AV.d (D.v (Value.int IntKind.u32 (0))), AV.d (D.v (Value.int IntKind.u32 (0))), AV.d (D.v (Value.int IntKind.u32 (0))), AV.d (D.v (Value.int IntKind.u32 (0))), AV.d (D.v (Value.int IntKind.u32 (0))), AV.d (D.v (Value.int IntKind.u32 (0))), AV.d (D.v (Value.int IntKind.u32 (0))), AV.d (D.v (Value.int IntKind.u32 (0))), AV.d (D.v (Value.int IntKind.u32 (0))), AV.d (D.v (Value.int IntKind.u32 (0))), AV.d (D.v (Value.int IntKind.u32 (0))), AV.d (D.v (Value.slice none 0 0)), AV.d (D.v (Value.slice none 0 0)), AV.d (D.v (Value.slice none 0 0)), AV.d (D.v (Value.slice none 0 0)), AV.d (D.v (Value.int IntKind.i64 (0))), AV.d (D.v (Value.bool false))] := by kernel_rfl
@[simp] theorem fo_75_0 : fo Tryz.prog 75 0 = some 0 := by kernel_rfl
@[simp] theorem fo_75_1 : fo Tryz.prog 75 1 = some 1 := by kernel_rfl
@[simp] theorem fo_75_2 : fo Tryz.prog 75 2 = some 2 := by kernel_rfl
@[simp] theorem fo_75_3 : fo Tryz.prog 75 3 = some 3 := by kernel_rfl
@[simp] theorem fo_75_4 : fo Tryz.prog 75 4 = some 15 := by kernel_rfl
@[simp] theorem fo_75_5 : fo Tryz.prog 75 5 = some 16 := by kernel_rfl
@[simp] theorem fo_75_6 : fo Tryz.prog 75 6 = some 17 := by kernel_rfl
@[simp] theorem fo_75_7 : fo Tryz.prog 75 7 = some 18 := by kernel_rfl
@[simp] theorem fo_75_8 : fo Tryz.prog 75 8 = some 19 := by kernel_rfl
@[simp] theorem fo_75_9 : fo Tryz.prog 75 9 = some 20 := by kernel_rfl
@[simp] theorem tk_80 : tk Tryz.prog 80 = some (true, 5) := by kernel_rfl
@[simp] theorem zvA_80 : zvA Tryz.prog 80 = some [AV.d (D.v (Value.string { data := #[] })), AV.d (D.v (Value.int IntKind.u32 (0))), AV.d (D.v (Value.slice none 0 0)), AV.d (D.v (Value.bool false)), AV.d (D.v (Value.bool false))] := by kernel_rfl
@[simp] theorem ar_80 : ar Tryz.prog 80 = none := by kernel_rfl
@[simp] theorem fo_80_0 : fo Tryz.prog 80 0 = some 0 := by kernel_rfl
@[simp] theorem fo_80_1 : fo Tryz.prog 80 1 = some 1 := by kernel_rfl
@[simp] theorem fo_80_2 : fo Tryz.prog 80 2 = some 2 := by kernel_rfl
@[simp] theorem fo_80_3 : fo Tryz.prog 80 3 = some 3 := by kernel_rfl
@[simp] theorem fo_80_4 : fo Tryz.prog 80 4 = some 4 := by kernel_rfl
@[simp] theorem tk_87 : tk Tryz.prog 87 = some (true, 2) := by kernel_rfl
@[simp] theorem places_87 : places Tryz.prog 87 = some [(0, 1), (1, 1)] := by kernel_rfl
@[simp] theorem zvA_87 : zvA Tryz.prog 87 = some [AV.d (D.v (Value.int IntKind.u32 (0))), AV.d (D.v (Value.int IntKind.u32 (0)))] := by kernel_rfl
@[simp] theorem ar_87 : ar Tryz.prog 87 = none := by kernel_rfl
@[simp] theorem fo_87_0 : fo Tryz.prog 87 0 = some 0 := by kernel_rfl
@[simp] theorem fo_87_1 : fo Tryz.prog 87 1 = some 1 := by kernel_rfl
@[simp] theorem tk_97 : tk Tryz.prog 97 = some (true, 10) := by kernel_rfl
@[simp] theorem places_97 : places Tryz.prog 97 = some [(0, 5), (5, 5)] := by kernel_rfl
@[simp] theorem zvA_97 : zvA Tryz.prog 97 = some [AV.d (D.v (Value.int IntKind.i64 (0))), AV.d (D.v (Value.int IntKind.u32 (0))), AV.d (D.v (Value.int IntKind.i64 (0))), AV.d (D.v (Value.int IntKind.i64 (0))), AV.d (D.v (Value.slice none 0 0)), AV.d (D.v (Value.int IntKind.i64 (0))), AV.d (D.v (Value.int IntKind.u32 (0))), AV.d (D.v (Value.int IntKind.i64 (0))), AV.d (D.v (Value.int IntKind.i64 (0))), AV.d (D.v (Value.slice none 0 0))] := by kernel_rfl
@[simp] theorem ar_97 : ar Tryz.prog 97 = none := by kernel_rfl
@[simp] theorem fo_97_0 : fo Tryz.prog 97 0 = some 0 := by kernel_rfl
@[simp] theorem fo_97_1 : fo Tryz.prog 97 1 = some 5 := by kernel_rfl
@[simp] theorem tk_108 : tk Tryz.prog 108 = some (true, 1) := by kernel_rfl
@[simp] theorem places_108 : places Tryz.prog 108 = some [(0, 1)] := by kernel_rfl
@[simp] theorem zvA_108 : zvA Tryz.prog 108 = some [AV.d (D.v (Value.slice none 0 0))] := by kernel_rfl
@[simp] theorem ar_108 : ar Tryz.prog 108 = none := by kernel_rfl
@[simp] theorem fo_108_0 : fo Tryz.prog 108 0 = some 0 := by kernel_rfl
@[simp] theorem ft_108_0 : ft Tryz.prog 108 0 = some (27, 0) := by kernel_rfl
@[simp] theorem places_112 : places Tryz.prog 112 = some [(0, 1), (1, 1), (2, 1), (3, 1)] := by kernel_rfl
@[simp] theorem zvA_112 : zvA Tryz.prog 112 = some [AV.d (D.v (Value.int IntKind.i64 (0))), AV.d (D.v (Value.int IntKind.i64 (0))), AV.d (D.v (Value.int IntKind.i64 (0))), AV.d (D.v (Value.map none))] := by kernel_rfl
@[simp] theorem fo_112_0 : fo Tryz.prog 112 0 = some 0 := by kernel_rfl
@[simp] theorem fo_112_1 : fo Tryz.prog 112 1 = some 1 := by kernel_rfl
@[simp] theorem fo_112_2 : fo Tryz.prog 112 2 = some 2 := by kernel_rfl
@[simp] theorem fo_112_3 : fo Tryz.prog 112 3 = some 3 := by kernel_rfl
@[simp] theorem places_139 : places Tryz.prog 139 = some [(0, 1), (1, 1)] := by kernel_rfl
@[simp] theorem zvA_139 : zvA Tryz.prog 139 = some [AV.d (D.v (Value.slice none 0 0)), AV.d (D.v (Value.map none))] := by kernel_rfl
@[simp] theorem fo_139_0 : fo Tryz.prog 139 0 = some 0 := by kernel_rfl
@[simp] theorem fo_139_1 : fo Tryz.prog 139 1 = some 1 := by kernel_rfl
@[simp] theorem places_142 : places Tryz.prog 142 = some [(0, 1), (1, 1)] := by kernel_rfl
@[simp] theorem zvA_142 : zvA Tryz.prog 142 = some [AV.d (D.v (Value.bool false)), AV.d (D.v (Value.bool false))] := by kernel_rfl
@[simp] theorem fo_142_0 : fo Tryz.prog 142 0 = some 0 := by kernel_rfl
@[simp] theorem tk_144 : tk Tryz.prog 144 = some (true, 4) := by kernel_rfl
@[simp] theorem places_144 : places Tryz.prog 144 = some [(0, 1), (1, 1), (2, 2)] := by kernel_rfl
@[simp] theorem zvA_144 : zvA Tryz.prog 144 = some [AV.d (D.v (Value.int IntKind.u64 (0))), AV.d (D.v (Value.slice none 0 0)), AV.d (D.v (Value.bool false)), AV.d (D.v (Value.bool false))] := by kernel_rfl
@[simp] theorem ar_144 : ar Tryz.prog 144 = none := by kernel_rfl
@[simp] theorem fo_144_0 : fo Tryz.prog 144 0 = some 0 := by kernel_rfl
@[simp] theorem fo_144_1 : fo Tryz.prog 144 1 = some 1 := by kernel_rfl
@[simp] theorem fo_144_2 : fo Tryz.prog 144 2 = some 2 := by kernel_rfl
@[simp] theorem ar_72 : ar Tryz.prog 72 = some (12, 24, 1) := by kernel_rfl
@[simp] theorem tk_125 : tk Tryz.prog 125 = some (true, 75) := by kernel_rfl
@[simp] theorem places_125 : places Tryz.prog 125 = none := by kernel_rfl
@[simp] theorem zvA_125 : zvA Tryz.prog 125 = some [AV.d (D.v (Value.int IntKind.i64 (0))), AV.d (D.v (Value.int IntKind.u32 (0))), AV.d (D.v (Value.int IntKind.i64 (0))), AV.d (D.v (Value.int IntKind.i64 (0))), AV.d (D.v (Value.slice none 0 0)), AV.d (D.v (Value.int IntKind.i64 (0))), AV.d (D.v (Value.int IntKind.u32 (0))), AV.d (D.v (Value.int IntKind.i64 (0))), AV.d (D.v (Value.int IntKind.i64 (0))), AV.d (D.v (Value.slice none 0 0)), AV.d (D.v (Value.int IntKind.i64 (0))), AV.d (D.v (Value.int IntKind.u32 (0))), AV.d (D.v (Value.int IntKind.i64 (0))), AV.d (D.v (Value.int IntKind.i64 (0))), AV.d (D.v (Value.slice none 0 0)), AV.d (D.v (Value.int IntKind.i64 (0))), AV.d (D.v (Value.int IntKind.u32 (0))), AV.d (D.v (Value.int IntKind.i64 (0))), AV.d (D.v (Value.int IntKind.i64 (0))), AV.d (D.v (Value.slice none 0 0)), AV.d (D.v (Value.int IntKind.i64 (0))), AV.d (D.v (Value.int IntKind.u32 (0))), AV.d (D.v (Value.int IntKind.i64 (0))), AV.d (D.v (Value.int IntKind.i64 (0))), AV.d (D.v (Value.slice none 0 0)), AV.d (D.v (Value.int IntKind.i64 (0))), AV.d (D.v (Value.int IntKind.u32 (0))), AV.d (D.v (Value.int IntKind.i64 (0))), AV.d (D.v (Value.int IntKind.i64 (0))), AV.d (D.v (Value.slice none 0 0)), AV.d (D.v (Value.int IntKind.i64 (0))), AV.d (D.v (Value.int IntKind.u32 (0))), AV.d (D.v (Value.int IntKind.i64 (0))), AV.d (D.v (Value.int IntKind.i64 (0))), AV.d (D.v (Value.slice none 0 0)), AV.d (D.v (Value.int IntKind.i64 (0))), AV.d (D.v (Value.int IntKind.u32 (0))), AV.d (D.v (Value.int IntKind.i64 (0))), AV.d (D.v (Value.int IntKind.i64 (0))), AV.d (D.v (Value.slice none 0 0)), AV.d (D.v (Value.int IntKind.i64 (0))), AV.d (D.v (Value.int IntKind.u32 (0))), AV.d (D.v (Value.int IntKind.i64 (0))), AV.d (D.v (Value.int IntKind.i64 (0))), AV.d (D.v (Value.slice none 0 0)), AV.d (D.v (Value.int IntKind.i64 (0))), AV.d (D.v (Value.int IntKind.u32 (0))), AV.d (D.v (Value.int IntKind.i64 (0))), AV.d (D.v (Value.int IntKind.i64 (0))), AV.d (D.v (Value.slice none 0 0)), AV.d (D.v (Value.int IntKind.i64 (0))), AV.d (D.v (Value.int IntKind.u32 (0))), AV.d (D.v (Value.int IntKind.i64 (0))), AV.d (D.v (Value.int IntKind.i64 (0))), AV.d (D.v (Value.slice none 0 0)), AV.d (D.v (Value.int IntKind.i64 (0))), AV.d (D.v (Value.int IntKind.u32 (0))), AV.d (D.v (Value.int IntKind.i64 (0))), AV.d (D.v (Value.int IntKind.i64 (0))), AV.d (D.v (Value.slice none 0 0)), AV.d (D.v (Value.int IntKind.i64 (0))), AV.d (D.v (Value.int IntKind.u32 (0))), AV.d (D.v (Value.int IntKind.i64 (0))), AV.d (D.v (Value.int IntKind.i64 (0))), AV.d (D.v (Value.slice none 0 0)), AV.d (D.v (Value.int IntKind.i64 (0))), AV.d (D.v (Value.int IntKind.u32 (0))), AV.d (D.v (Value.int IntKind.i64 (0))), AV.d (D.v (Value.int IntKind.i64 (0))), AV.d (D.v (Value.slice none 0 0)), AV.d (D.v (Value.int IntKind.i64 (0))), AV.d (D.v (Value.int IntKind.u32 (0))), AV.d (D.v (Value.int IntKind.i64 (0))), AV.d (D.v (Value.int IntKind.i64 (0))), AV.d (D.v (Value.slice none 0 0))] := by kernel_rfl
@[simp] theorem ar_125 : ar Tryz.prog 125 = some (15, 53, 5) := by kernel_rfl
@[simp] theorem tk_130 : tk Tryz.prog 130 = some (true, 20) := by kernel_rfl
@[simp] theorem places_130 : places Tryz.prog 130 = none := by kernel_rfl
@[simp] theorem zvA_130 : zvA Tryz.prog 130 = some [AV.d (D.v (Value.int IntKind.i64 (0))), AV.d (D.v (Value.int IntKind.u32 (0))), AV.d (D.v (Value.int IntKind.i64 (0))), AV.d (D.v (Value.int IntKind.i64 (0))), AV.d (D.v (Value.slice none 0 0)), AV.d (D.v (Value.int IntKind.i64 (0))), AV.d (D.v (Value.int IntKind.u32 (0))), AV.d (D.v (Value.int IntKind.i64 (0))), AV.d (D.v (Value.int IntKind.i64 (0))), AV.d (D.v (Value.slice none 0 0)), AV.d (D.v (Value.int IntKind.i64 (0))), AV.d (D.v (Value.int IntKind.u32 (0))), AV.d (D.v (Value.int IntKind.i64 (0))), AV.d (D.v (Value.int IntKind.i64 (0))), AV.d (D.v (Value.slice none 0 0)), AV.d (D.v (Value.int IntKind.i64 (0))), AV.d (D.v (Value.int IntKind.u32 (0))), AV.d (D.v (Value.int IntKind.i64 (0))), AV.d (D.v (Value.int IntKind.i64 (0))), AV.d (D.v (Value.slice none 0 0))] := by kernel_rfl
@[simp] theorem ar_130 : ar Tryz.prog 130 = some (4, 53, 5) := by kernel_rfl
@[simp] theorem tk_155 : tk Tryz.prog 155 = some (true, 13) := by kernel_rfl
@[simp] theorem places_155 : places Tryz.prog 155 = none := by kernel_rfl
@[simp] theorem zvA_155 : zvA Tryz.prog 155 = some [AV.d (D.v (Value.string { data := #[] })), AV.d (D.v (Value.string { data := #[] })), AV.d (D.v (Value.string { data := #[] })), AV.d (D.v (Value.string { data := #[] })), AV.d (D.v (Value.string { data := #[] })), AV.d (D.v (Value.string { data := #[] })), AV.d (D.v (Value.string { data := #[] })), AV.d (D.v (Value.string { data := #[] })), AV.d (D.v (Value.string { data := #[] })), AV.d (D.v (Value.string { data := #[] })), AV.d (D.v (Value.string { data := #[] })), AV.d (D.v (Value.string { data := #[] })), AV.d (D.v (Value.string { data := #[] }))] := by kernel_rfl
@[simp] theorem ar_155 : ar Tryz.prog 155 = some (13, 9, 1) := by kernel_rfl
@[simp] theorem zvA_176 : zvA Tryz.prog 176 = some [AV.d (D.v (Value.int IntKind.u32 (0))), AV.d (D.v (Value.int IntKind.u32 (0)))] := by kernel_rfl
@[simp] theorem ar_176 : ar Tryz.prog 176 = some (2, 24, 1) := by kernel_rfl
@[simp] theorem tk_197 : tk Tryz.prog 197 = some (true, 13) := by kernel_rfl
@[simp] theorem places_197 : places Tryz.prog 197 = none := by kernel_rfl
@[simp] theorem zvA_197 : zvA Tryz.prog 197 = some [AV.d (D.v (Value.int IntKind.u32 (0))), AV.d (D.v (Value.int IntKind.u32 (0))), AV.d (D.v (Value.int IntKind.u32 (0))), AV.d (D.v (Value.int IntKind.u32 (0))), AV.d (D.v (Value.int IntKind.u32 (0))), AV.d (D.v (Value.int IntKind.u32 (0))), AV.d (D.v (Value.int IntKind.u32 (0))), AV.d (D.v (Value.int IntKind.u32 (0))), AV.d (D.v (Value.int IntKind.u32 (0))), AV.d (D.v (Value.int IntKind.u32 (0))), AV.d (D.v (Value.int IntKind.u32 (0))), AV.d (D.v (Value.int IntKind.u32 (0))), AV.d (D.v (Value.int IntKind.u32 (0)))] := by kernel_rfl
@[simp] theorem ar_197 : ar Tryz.prog 197 = some (13, 24, 1) := by kernel_rfl
@[simp] theorem tk_22 : tk Tryz.prog 22 = some (false, 1) := by kernel_rfl
@[simp] theorem sl_22 : sl Tryz.prog 22 = some (30, 2) := by kernel_rfl
@[simp] theorem byt_22 : byt Tryz.prog 22 = some (30, 2, 32) := by kernel_rfl
@[simp] theorem tk_23 : tk Tryz.prog 23 = some (false, 1) := by kernel_rfl
@[simp] theorem sl_23 : sl Tryz.prog 23 = some (80, 5) := by kernel_rfl
@[simp] theorem tk_27 : tk Tryz.prog 27 = some (false, 1) := by kernel_rfl
@[simp] theorem sl_27 : sl Tryz.prog 27 = some (24, 1) := by kernel_rfl
@[simp] theorem byt_27 : byt Tryz.prog 27 = some (24, 1, 4) := by kernel_rfl
@[simp] theorem tk_28 : tk Tryz.prog 28 = some (false, 1) := by kernel_rfl
@[simp] theorem sl_28 : sl Tryz.prog 28 = some (38, 2) := by kernel_rfl
@[simp] theorem byt_28 : byt Tryz.prog 28 = some (38, 2, 32) := by kernel_rfl
@[simp] theorem tk_36 : tk Tryz.prog 36 = some (false, 1) := by kernel_rfl
@[simp] theorem sl_36 : sl Tryz.prog 36 = some (61, 8) := by kernel_rfl
@[simp] theorem byt_36 : byt Tryz.prog 36 = some (61, 8, 96) := by kernel_rfl
@[simp] theorem tk_51 : tk Tryz.prog 51 = some (false, 1) := by kernel_rfl
@[simp] theorem sl_51 : sl Tryz.prog 51 = some (53, 5) := by kernel_rfl
@[simp] theorem byt_51 : byt Tryz.prog 51 = some (53, 5, 56) := by kernel_rfl
@[simp] theorem tk_59 : tk Tryz.prog 59 = some (false, 1) := by kernel_rfl
@[simp] theorem sl_59 : sl Tryz.prog 59 = some (3, 1) := by kernel_rfl
@[simp] theorem zvA_59 : zvA Tryz.prog 59 = some [AV.d (D.v (Value.slice none 0 0))] := by kernel_rfl
@[simp] theorem byt_59 : byt Tryz.prog 59 = some (3, 1, 8) := by kernel_rfl
@[simp] theorem tk_73 : tk Tryz.prog 73 = some (false, 1) := by kernel_rfl
@[simp] theorem sl_73 : sl Tryz.prog 73 = some (112, 4) := by kernel_rfl
@[simp] theorem byt_73 : byt Tryz.prog 73 = some (112, 4, 32) := by kernel_rfl
@[simp] theorem tk_78 : tk Tryz.prog 78 = some (false, 1) := by kernel_rfl
@[simp] theorem sl_78 : sl Tryz.prog 78 = some (5, 1) := by kernel_rfl
@[simp] theorem byt_78 : byt Tryz.prog 78 = some (5, 1, 1) := by kernel_rfl
@[simp] theorem tk_137 : tk Tryz.prog 137 = some (false, 1) := by kernel_rfl
@[simp] theorem sl_137 : sl Tryz.prog 137 = some (144, 4) := by kernel_rfl
@[simp] theorem byt_137 : byt Tryz.prog 137 = some (144, 4, 40) := by kernel_rfl
@[simp] theorem sl_153 : sl Tryz.prog 153 = some (9, 1) := by kernel_rfl
@[simp] theorem tk_3 : tk Tryz.prog 3 = some (false, 1) := by kernel_rfl
@[simp] theorem isInt_3 : isInt Tryz.prog 3 = some IntKind.i64 := by kernel_rfl
@[simp] theorem zvA_3 : zvA Tryz.prog 3 = some [AV.d (D.v (Value.int IntKind.i64 (0)))] := by kernel_rfl
@[simp] theorem tk_4 : tk Tryz.prog 4 = some (false, 1) := by kernel_rfl
@[simp] theorem tk_5 : tk Tryz.prog 5 = some (false, 1) := by kernel_rfl
@[simp] theorem isInt_5 : isInt Tryz.prog 5 = some IntKind.u8 := by kernel_rfl
@[simp] theorem zvA_5 : zvA Tryz.prog 5 = some [AV.d (D.v (Value.int IntKind.u8 (0)))] := by kernel_rfl
@[simp] theorem tk_9 : tk Tryz.prog 9 = some (false, 1) := by kernel_rfl
@[simp] theorem isStr_9 : isStr Tryz.prog 9 = true := by kernel_rfl
@[simp] theorem zvA_9 : zvA Tryz.prog 9 = some [AV.d (D.v (Value.string { data := #[] }))] := by kernel_rfl
@[simp] theorem isInt_21 : isInt Tryz.prog 21 = some IntKind.i32 := by kernel_rfl
@[simp] theorem tk_24 : tk Tryz.prog 24 = some (false, 1) := by kernel_rfl
@[simp] theorem isInt_24 : isInt Tryz.prog 24 = some IntKind.u32 := by kernel_rfl
@[simp] theorem zvA_24 : zvA Tryz.prog 24 = some [AV.d (D.v (Value.int IntKind.u32 (0)))] := by kernel_rfl
@[simp] theorem tk_32 : tk Tryz.prog 32 = some (false, 1) := by kernel_rfl
@[simp] theorem tk_84 : tk Tryz.prog 84 = some (false, 1) := by kernel_rfl
@[simp] theorem isInt_84 : isInt Tryz.prog 84 = some IntKind.u64 := by kernel_rfl
@[simp] theorem isInt_199 : isInt Tryz.prog 199 = some IntKind.i8 := by kernel_rfl
@[simp] theorem isInt_200 : isInt Tryz.prog 200 = some IntKind.i16 := by kernel_rfl
@[simp] theorem tk_70 : tk Tryz.prog 70 = some (false, 1) := by kernel_rfl
@[simp] theorem tk_71 : tk Tryz.prog 71 = some (false, 1) := by kernel_rfl
@[simp] theorem tk_110 : tk Tryz.prog 110 = some (false, 1) := by kernel_rfl
@[simp] theorem tk_136 : tk Tryz.prog 136 = some (false, 1) := by kernel_rfl
@[simp] theorem okF_13 : okF Tryz.prog 13 = true := by kernel_rfl
@[simp] theorem okF_14 : okF Tryz.prog 14 = true := by kernel_rfl
@[simp] theorem okF_15 : okF Tryz.prog 15 = true := by kernel_rfl
@[simp] theorem okF_16 : okF Tryz.prog 16 = true := by kernel_rfl
@[simp] theorem okF_17 : okF Tryz.prog 17 = true := by kernel_rfl
@[simp] theorem okF_18 : okF Tryz.prog 18 = true := by kernel_rfl
@[simp] theorem okF_19 : okF Tryz.prog 19 = true := by kernel_rfl
@[simp] theorem okF_20 : okF Tryz.prog 20 = true := by kernel_rfl
@[simp] theorem okF_21 : okF Tryz.prog 21 = true := by kernel_rfl
@[simp] theorem okF_22 : okF Tryz.prog 22 = true := by kernel_rfl
@[simp] theorem okF_23 : okF Tryz.prog 23 = true := by kernel_rfl
@[simp] theorem okF_24 : okF Tryz.prog 24 = true := by kernel_rfl
@[simp] theorem okF_25 : okF Tryz.prog 25 = true := by kernel_rfl
@[simp] theorem okF_29 : okF Tryz.prog 29 = true := by kernel_rfl
@[simp] theorem okF_30 : okF Tryz.prog 30 = true := by kernel_rfl
@[simp] theorem okF_35 : okF Tryz.prog 35 = true := by kernel_rfl
@[simp] theorem okF_36 : okF Tryz.prog 36 = true := by kernel_rfl
@[simp] theorem okF_37 : okF Tryz.prog 37 = true := by kernel_rfl
@[simp] theorem okF_38 : okF Tryz.prog 38 = true := by kernel_rfl
@[simp] theorem okF_39 : okF Tryz.prog 39 = true := by kernel_rfl
@[simp] theorem okF_40 : okF Tryz.prog 40 = true := by kernel_rfl
@[simp] theorem okF_41 : okF Tryz.prog 41 = true := by kernel_rfl
@[simp] theorem okF_42 : okF Tryz.prog 42 = true := by kernel_rfl
@[simp] theorem okF_43 : okF Tryz.prog 43 = true := by kernel_rfl
@[simp] theorem okF_44 : okF Tryz.prog 44 = true := by kernel_rfl
@[simp] theorem okF_45 : okF Tryz.prog 45 = true := by kernel_rfl
@[simp] theorem okF_46 : okF Tryz.prog 46 = true := by kernel_rfl
@[simp] theorem okF_47 : okF Tryz.prog 47 = true := by kernel_rfl
@[simp] theorem okF_48 : okF Tryz.prog 48 = true := by kernel_rfl
@[simp] theorem okF_49 : okF Tryz.prog 49 = true := by kernel_rfl
@[simp] theorem okF_50 : okF Tryz.prog 50 = true := by kernel_rfl
@[simp] theorem okF_51 : okF Tryz.prog 51 = true := by kernel_rfl
@[simp] theorem okF_52 : okF Tryz.prog 52 = true := by kernel_rfl
@[simp] theorem okF_53 : okF Tryz.prog 53 = true := by kernel_rfl
@[simp] theorem okF_54 : okF Tryz.prog 54 = true := by kernel_rfl
@[simp] theorem okF_55 : okF Tryz.prog 55 = true := by kernel_rfl
@[simp] theorem okF_56 : okF Tryz.prog 56 = true := by kernel_rfl
@[simp] theorem okF_66 : okF Tryz.prog 66 = true := by kernel_rfl
@[simp] theorem okF_67 : okF Tryz.prog 67 = true := by kernel_rfl
@[simp] theorem okF_68 : okF Tryz.prog 68 = true := by kernel_rfl
@[simp] theorem okF_69 : okF Tryz.prog 69 = true := by kernel_rfl
@[simp] theorem okF_70 : okF Tryz.prog 70 = true := by kernel_rfl
@[simp] theorem okF_71 : okF Tryz.prog 71 = true := by kernel_rfl
@[simp] theorem okF_72 : okF Tryz.prog 72 = true := by kernel_rfl
@[simp] theorem okF_73 : okF Tryz.prog 73 = true := by kernel_rfl
@[simp] theorem okF_74 : okF Tryz.prog 74 = true := by kernel_rfl
@[simp] theorem okF_75 : okF Tryz.prog 75 = true := by kernel_rfl
@[simp] theorem okF_76 : okF Tryz.prog 76 = true := by kernel_rfl
@[simp] theorem okF_78 : okF Tryz.prog 78 = true := by kernel_rfl
@[simp] theorem okF_79 : okF Tryz.prog 79 = true := by kernel_rfl
@[simp] theorem okF_80 : okF Tryz.prog 80 = true := by kernel_rfl
@[simp] theorem okF_81 : okF Tryz.prog 81 = true := by kernel_rfl
@[simp] theorem okF_82 : okF Tryz.prog 82 = true := by kernel_rfl
@[simp] theorem okF_83 : okF Tryz.prog 83 = true := by kernel_rfl
@[simp] theorem okF_84 : okF Tryz.prog 84 = true := by kernel_rfl
@[simp] theorem okF_85 : okF Tryz.prog 85 = true := by kernel_rfl
@[simp] theorem okF_86 : okF Tryz.prog 86 = true := by kernel_rfl
@[simp] theorem okF_87 : okF Tryz.prog 87 = true := by kernel_rfl
@[simp] theorem okF_88 : okF Tryz.prog 88 = true := by kernel_rfl
@[simp] theorem okF_89 : okF Tryz.prog 89 = true := by kernel_rfl
@[simp] theorem okF_90 : okF Tryz.prog 90 = true := by kernel_rfl
@[simp] theorem okF_91 : okF Tryz.prog 91 = true := by kernel_rfl
@[simp] theorem okF_92 : okF Tryz.prog 92 = true := by kernel_rfl
@[simp] theorem okF_93 : okF Tryz.prog 93 = true := by kernel_rfl
@[simp] theorem okF_100 : okF Tryz.prog 100 = true := by kernel_rfl
@[simp] theorem okF_101 : okF Tryz.prog 101 = true := by kernel_rfl
@[simp] theorem okF_103 : okF Tryz.prog 103 = true := by kernel_rfl
@[simp] theorem okF_105 : okF Tryz.prog 105 = true := by kernel_rfl
@[simp] theorem okF_106 : okF Tryz.prog 106 = true := by kernel_rfl
@[simp] theorem okF_107 : okF Tryz.prog 107 = true := by kernel_rfl
@[simp] theorem okF_108 : okF Tryz.prog 108 = true := by kernel_rfl
@[simp] theorem okF_109 : okF Tryz.prog 109 = true := by kernel_rfl
@[simp] theorem okF_110 : okF Tryz.prog 110 = true := by kernel_rfl
@[simp] theorem okF_141 : okF Tryz.prog 141 = true := by kernel_rfl
@[simp] theorem okF_142 : okF Tryz.prog 142 = true := by kernel_rfl
@[simp] theorem okF_143 : okF Tryz.prog 143 = true := by kernel_rfl
@[simp] theorem okF_144 : okF Tryz.prog 144 = true := by kernel_rfl
end Go.Proofs.YtplbaolbaniioaaGreatDoor
