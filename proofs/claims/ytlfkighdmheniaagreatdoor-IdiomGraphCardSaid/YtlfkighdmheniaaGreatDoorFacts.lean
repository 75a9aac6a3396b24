/- Closed facts on the program's types and functions, made by program: what the calculator asks of its tables. -/
import Derived.Test.YtlfkighdmheniaaGreatDoorProg
import Derived.Test.YtlfkighdmheniaaGreatDoorAh
import Derived.KernelRfl
namespace Go.Proofs.YtlfkighdmheniaaGreatDoor
set_option maxRecDepth 100000
@[simp] theorem tk_7 : tk Tryz.prog 7 = some (true, 4) := by kernel_rfl
@[simp] theorem places_7 : places Tryz.prog 7 = some [(0, 1), (1, 1), (2, 1), (3, 1)] := by kernel_rfl
@[simp] theorem zvA_7 : zvA Tryz.prog 7 = some [AV.d (D.v (Value.int IntKind.i64 (0))), AV.d (D.v (Value.int IntKind.i64 (0))), AV.d (D.v (Value.bool false)), AV.d (D.v (Value.int IntKind.u8 (0)))] := by kernel_rfl
@[simp] theorem ar_7 : ar Tryz.prog 7 = none := by kernel_rfl
@[simp] theorem fo_7_0 : fo Tryz.prog 7 0 = some 0 := by kernel_rfl
@[simp] theorem ft_7_0 : ft Tryz.prog 7 0 = some (2, 0) := by kernel_rfl
@[simp] theorem fo_7_1 : fo Tryz.prog 7 1 = some 1 := by kernel_rfl
@[simp] theorem ft_7_1 : ft Tryz.prog 7 1 = some (3, 1) := by kernel_rfl
@[simp] theorem fo_7_2 : fo Tryz.prog 7 2 = some 2 := by kernel_rfl
@[simp] theorem ft_7_2 : ft Tryz.prog 7 2 = some (4, 2) := by kernel_rfl
@[simp] theorem fo_7_3 : fo Tryz.prog 7 3 = some 3 := by kernel_rfl
@[simp] theorem ft_7_3 : ft Tryz.prog 7 3 = some (6, 3) := by kernel_rfl
@[simp] theorem tk_8 : tk Tryz.prog 8 = some (true, 4) := by kernel_rfl
@[simp] theorem places_8 : places Tryz.prog 8 = some [(0, 1), (1, 1), (2, 1), (3, 1)] := by kernel_rfl
@[simp] theorem zvA_8 : zvA Tryz.prog 8 = some [AV.d (D.v (Value.int IntKind.i64 (0))), AV.d (D.v (Value.int IntKind.i64 (0))), AV.d (D.v (Value.bool false)), AV.d (D.v (Value.int IntKind.u8 (0)))] := by kernel_rfl
@[simp] theorem ar_8 : ar Tryz.prog 8 = none := by kernel_rfl
@[simp] theorem fo_8_0 : fo Tryz.prog 8 0 = some 0 := by kernel_rfl
@[simp] theorem ft_8_0 : ft Tryz.prog 8 0 = some (2, 0) := by kernel_rfl
@[simp] theorem fo_8_1 : fo Tryz.prog 8 1 = some 1 := by kernel_rfl
@[simp] theorem ft_8_1 : ft Tryz.prog 8 1 = some (3, 1) := by kernel_rfl
@[simp] theorem fo_8_2 : fo Tryz.prog 8 2 = some 2 := by kernel_rfl
@[simp] theorem ft_8_2 : ft Tryz.prog 8 2 = some (4, 2) := by kernel_rfl
@[simp] theorem fo_8_3 : fo Tryz.prog 8 3 = some 3 := by kernel_rfl
@[simp] theorem ft_8_3 : ft Tryz.prog 8 3 = some (6, 3) := by kernel_rfl
@[simp] theorem tk_13 : tk Tryz.prog 13 = some (true, 2) := by kernel_rfl
@[simp] theorem places_13 : places Tryz.prog 13 = some [(0, 1), (1, 1)] := by kernel_rfl
@[simp] theorem zvA_13 : zvA Tryz.prog 13 = some [AV.d (D.v (Value.string { data := #[] })), AV.d (D.v (Value.int IntKind.u64 (0)))] := by kernel_rfl
@[simp] theorem ar_13 : ar Tryz.prog 13 = none := by kernel_rfl
@[simp] theorem fo_13_0 : fo Tryz.prog 13 0 = some 0 := by kernel_rfl
@[simp] theorem ft_13_0 : ft Tryz.prog 13 0 = some (9, 0) := by kernel_rfl
@[simp] theorem fo_13_1 : fo Tryz.prog 13 1 = some 1 := by kernel_rfl
@[simp] theorem ft_13_1 : ft Tryz.prog 13 1 = some (12, 1) := by kernel_rfl
@[simp] theorem tk_14 : tk Tryz.prog 14 = some (true, 2) := by kernel_rfl
@[simp] theorem places_14 : places Tryz.prog 14 = some [(0, 1), (1, 1)] := by kernel_rfl
@[simp] theorem zvA_14 : zvA Tryz.prog 14 = some [AV.d (D.v (Value.string { data := #[] })), AV.d (D.v (Value.int IntKind.u64 (0)))] := by kernel_rfl
@[simp] theorem ar_14 : ar Tryz.prog 14 = none := by kernel_rfl
@[simp] theorem fo_14_0 : fo Tryz.prog 14 0 = some 0 := by kernel_rfl
@[simp] theorem ft_14_0 : ft Tryz.prog 14 0 = some (9, 0) := by kernel_rfl
@[simp] theorem fo_14_1 : fo Tryz.prog 14 1 = some 1 := by kernel_rfl
@[simp] theorem ft_14_1 : ft Tryz.prog 14 1 = some (12, 1) := by kernel_rfl
@[simp] theorem tk_18 : tk Tryz.prog 18 = some (true, 1) := by kernel_rfl
@[simp] theorem places_18 : places Tryz.prog 18 = some [(0, 1)] := by kernel_rfl
@[simp] theorem zvA_18 : zvA Tryz.prog 18 = some [AV.d (D.v (Value.pointer none))] := by kernel_rfl
@[simp] theorem ar_18 : ar Tryz.prog 18 = none := by kernel_rfl
@[simp] theorem fo_18_0 : fo Tryz.prog 18 0 = some 0 := by kernel_rfl
@[simp] theorem ft_18_0 : ft Tryz.prog 18 0 = some (17, 0) := by kernel_rfl
@[simp] theorem tk_19 : tk Tryz.prog 19 = some (true, 1) := by kernel_rfl
@[simp] theorem places_19 : places Tryz.prog 19 = some [(0, 1)] := by kernel_rfl
@[simp] theorem zvA_19 : zvA Tryz.prog 19 = some [AV.d (D.v (Value.pointer none))] := by kernel_rfl
@[simp] theorem ar_19 : ar Tryz.prog 19 = none := by kernel_rfl
@[simp] theorem fo_19_0 : fo Tryz.prog 19 0 = some 0 := by kernel_rfl
@[simp] theorem ft_19_0 : ft Tryz.prog 19 0 = some (17, 0) := by kernel_rfl
@[simp] theorem tk_24 : tk Tryz.prog 24 = some (true, 2) := by kernel_rfl
@[simp] theorem places_24 : places Tryz.prog 24 = some [(0, 1), (1, 1)] := by kernel_rfl
@[simp] theorem zvA_24 : zvA Tryz.prog 24 = some [AV.d (D.v (Value.int IntKind.u32 (0))), AV.d (D.v (Value.slice none 0 0))] := by kernel_rfl
@[simp] theorem ar_24 : ar Tryz.prog 24 = none := by kernel_rfl
@[simp] theorem fo_24_0 : fo Tryz.prog 24 0 = some 0 := by kernel_rfl
@[simp] theorem ft_24_0 : ft Tryz.prog 24 0 = some (22, 0) := by kernel_rfl
@[simp] theorem fo_24_1 : fo Tryz.prog 24 1 = some 1 := by kernel_rfl
@[simp] theorem ft_24_1 : ft Tryz.prog 24 1 = some (23, 1) := by kernel_rfl
@[simp] theorem tk_25 : tk Tryz.prog 25 = some (true, 2) := by kernel_rfl
@[simp] theorem places_25 : places Tryz.prog 25 = some [(0, 1), (1, 1)] := by kernel_rfl
@[simp] theorem zvA_25 : zvA Tryz.prog 25 = some [AV.d (D.v (Value.int IntKind.u32 (0))), AV.d (D.v (Value.slice none 0 0))] := by kernel_rfl
@[simp] theorem ar_25 : ar Tryz.prog 25 = none := by kernel_rfl
@[simp] theorem fo_25_0 : fo Tryz.prog 25 0 = some 0 := by kernel_rfl
@[simp] theorem ft_25_0 : ft Tryz.prog 25 0 = some (22, 0) := by kernel_rfl
@[simp] theorem fo_25_1 : fo Tryz.prog 25 1 = some 1 := by kernel_rfl
@[simp] theorem ft_25_1 : ft Tryz.prog 25 1 = some (23, 1) := by kernel_rfl
@[simp] theorem tk_34 : tk Tryz.prog 34 = some (true, 2) := by kernel_rfl
@[simp] theorem places_34 : places Tryz.prog 34 = some [(0, 1), (1, 1)] := by kernel_rfl
@[simp] theorem zvA_34 : zvA Tryz.prog 34 = some [AV.d (D.v (Value.int IntKind.u32 (0))), AV.d (D.v (Value.slice none 0 0))] := by kernel_rfl
@[simp] theorem ar_34 : ar Tryz.prog 34 = none := by kernel_rfl
@[simp] theorem fo_34_0 : fo Tryz.prog 34 0 = some 0 := by kernel_rfl
@[simp] theorem ft_34_0 : ft Tryz.prog 34 0 = some (22, 0) := by kernel_rfl
@[simp] theorem fo_34_1 : fo Tryz.prog 34 1 = some 1 := by kernel_rfl
@[simp] theorem ft_34_1 : ft Tryz.prog 34 1 = some (33, 1) := by kernel_rfl
@[simp] theorem tk_35 : tk Tryz.prog 35 = some (true, 2) := by kernel_rfl
@[simp] theorem places_35 : places Tryz.prog 35 = some [(0, 1), (1, 1)] := by kernel_rfl
@[simp] theorem zvA_35 : zvA Tryz.prog 35 = some [AV.d (D.v (Value.int IntKind.u32 (0))), AV.d (D.v (Value.slice none 0 0))] := by kernel_rfl
@[simp] theorem ar_35 : ar Tryz.prog 35 = none := by kernel_rfl
@[simp] theorem fo_35_0 : fo Tryz.prog 35 0 = some 0 := by kernel_rfl
@[simp] theorem ft_35_0 : ft Tryz.prog 35 0 = some (22, 0) := by kernel_rfl
@[simp] theorem fo_35_1 : fo Tryz.prog 35 1 = some 1 := by kernel_rfl
@[simp] theorem ft_35_1 : ft Tryz.prog 35 1 = some (33, 1) := by kernel_rfl
@[simp] theorem tk_38 : tk Tryz.prog 38 = some (true, 8) := by kernel_rfl
@[simp] theorem places_38 : places Tryz.prog 38 = some [(0, 1), (1, 1), (2, 1), (3, 1), (4, 1), (5, 1), (6, 1), (7, 1)] := by kernel_rfl
@[simp] theorem zvA_38 : zvA Tryz.prog 38 = some [AV.d (D.v (Value.int IntKind.i64 (0))), AV.d (D.v (Value.int IntKind.i64 (0))), AV.d (D.v (Value.int IntKind.i64 (0))), AV.d (D.v (Value.int IntKind.i64 (0))), AV.d (D.v (Value.int IntKind.i64 (0))), AV.d (D.v (Value.int IntKind.u32 (0))), AV.d (D.v (Value.slice none 0 0)), AV.d (D.v (Value.slice none 0 0))] := by kernel_rfl
@[simp] theorem ar_38 : ar Tryz.prog 38 = none := by kernel_rfl
@[simp] theorem fo_38_0 : fo Tryz.prog 38 0 = some 0 := by kernel_rfl
@[simp] theorem ft_38_0 : ft Tryz.prog 38 0 = some (3, 0) := by kernel_rfl
@[simp] theorem fo_38_1 : fo Tryz.prog 38 1 = some 1 := by kernel_rfl
@[simp] theorem ft_38_1 : ft Tryz.prog 38 1 = some (3, 1) := by kernel_rfl
@[simp] theorem fo_38_2 : fo Tryz.prog 38 2 = some 2 := by kernel_rfl
@[simp] theorem ft_38_2 : ft Tryz.prog 38 2 = some (3, 2) := by kernel_rfl
@[simp] theorem fo_38_3 : fo Tryz.prog 38 3 = some 3 := by kernel_rfl
@[simp] theorem ft_38_3 : ft Tryz.prog 38 3 = some (3, 3) := by kernel_rfl
@[simp] theorem fo_38_4 : fo Tryz.prog 38 4 = some 4 := by kernel_rfl
@[simp] theorem ft_38_4 : ft Tryz.prog 38 4 = some (3, 4) := by kernel_rfl
@[simp] theorem fo_38_5 : fo Tryz.prog 38 5 = some 5 := by kernel_rfl
@[simp] theorem ft_38_5 : ft Tryz.prog 38 5 = some (22, 5) := by kernel_rfl
@[simp] theorem fo_38_6 : fo Tryz.prog 38 6 = some 6 := by kernel_rfl
@[simp] theorem ft_38_6 : ft Tryz.prog 38 6 = some (36, 6) := by kernel_rfl
@[simp] theorem fo_38_7 : fo Tryz.prog 38 7 = some 7 := by kernel_rfl
@[simp] theorem ft_38_7 : ft Tryz.prog 38 7 = some (37, 7) := by kernel_rfl
@[simp] theorem tk_39 : tk Tryz.prog 39 = some (true, 8) := by kernel_rfl
@[simp] theorem places_39 : places Tryz.prog 39 = some [(0, 1), (1, 1), (2, 1), (3, 1), (4, 1), (5, 1), (6, 1), (7, 1)] := by kernel_rfl
@[simp] theorem zvA_39 : zvA Tryz.prog 39 = some [AV.d (D.v (Value.int IntKind.i64 (0))), AV.d (D.v (Value.int IntKind.i64 (0))), AV.d (D.v (Value.int IntKind.i64 (0))), AV.d (D.v (Value.int IntKind.i64 (0))), AV.d (D.v (Value.int IntKind.i64 (0))), AV.d (D.v (Value.int IntKind.u32 (0))), AV.d (D.v (Value.slice none 0 0)), AV.d (D.v (Value.slice none 0 0))] := by kernel_rfl
@[simp] theorem ar_39 : ar Tryz.prog 39 = none := by kernel_rfl
@[simp] theorem fo_39_0 : fo Tryz.prog 39 0 = some 0 := by kernel_rfl
@[simp] theorem ft_39_0 : ft Tryz.prog 39 0 = some (3, 0) := by kernel_rfl
@[simp] theorem fo_39_1 : fo Tryz.prog 39 1 = some 1 := by kernel_rfl
@[simp] theorem ft_39_1 : ft Tryz.prog 39 1 = some (3, 1) := by kernel_rfl
@[simp] theorem fo_39_2 : fo Tryz.prog 39 2 = some 2 := by kernel_rfl
@[simp] theorem ft_39_2 : ft Tryz.prog 39 2 = some (3, 2) := by kernel_rfl
@[simp] theorem fo_39_3 : fo Tryz.prog 39 3 = some 3 := by kernel_rfl
@[simp] theorem ft_39_3 : ft Tryz.prog 39 3 = some (3, 3) := by kernel_rfl
@[simp] theorem fo_39_4 : fo Tryz.prog 39 4 = some 4 := by kernel_rfl
@[simp] theorem ft_39_4 : ft Tryz.prog 39 4 = some (3, 4) := by kernel_rfl
@[simp] theorem fo_39_5 : fo Tryz.prog 39 5 = some 5 := by kernel_rfl
@[simp] theorem ft_39_5 : ft Tryz.prog 39 5 = some (22, 5) := by kernel_rfl
@[simp] theorem fo_39_6 : fo Tryz.prog 39 6 = some 6 := by kernel_rfl
@[simp] theorem ft_39_6 : ft Tryz.prog 39 6 = some (36, 6) := by kernel_rfl
@[simp] theorem fo_39_7 : fo Tryz.prog 39 7 = some 7 := by kernel_rfl
@[simp] theorem ft_39_7 : ft Tryz.prog 39 7 = some (37, 7) := by kernel_rfl
@[simp] theorem tk_41 : tk Tryz.prog 41 = some (true, 5) := by kernel_rfl
@[simp] theorem places_41 : places Tryz.prog 41 = some [(0, 1), (1, 1), (2, 1), (3, 1), (4, 1)] := by kernel_rfl
@[simp] theorem zvA_41 : zvA Tryz.prog 41 = some [AV.d (D.v (Value.int IntKind.i64 (0))), AV.d (D.v (Value.int IntKind.u32 (0))), AV.d (D.v (Value.int IntKind.i64 (0))), AV.d (D.v (Value.int IntKind.i64 (0))), AV.d (D.v (Value.slice none 0 0))] := by kernel_rfl
@[simp] theorem ar_41 : ar Tryz.prog 41 = none := by kernel_rfl
@[simp] theorem fo_41_0 : fo Tryz.prog 41 0 = some 0 := by kernel_rfl
@[simp] theorem ft_41_0 : ft Tryz.prog 41 0 = some (3, 0) := by kernel_rfl
@[simp] theorem fo_41_1 : fo Tryz.prog 41 1 = some 1 := by kernel_rfl
@[simp] theorem ft_41_1 : ft Tryz.prog 41 1 = some (22, 1) := by kernel_rfl
@[simp] theorem fo_41_2 : fo Tryz.prog 41 2 = some 2 := by kernel_rfl
@[simp] theorem ft_41_2 : ft Tryz.prog 41 2 = some (3, 2) := by kernel_rfl
@[simp] theorem fo_41_3 : fo Tryz.prog 41 3 = some 3 := by kernel_rfl
@[simp] theorem ft_41_3 : ft Tryz.prog 41 3 = some (3, 3) := by kernel_rfl
@[simp] theorem fo_41_4 : fo Tryz.prog 41 4 = some 4 := by kernel_rfl
@[simp] theorem ft_41_4 : ft Tryz.prog 41 4 = some (36, 4) := by kernel_rfl
@[simp] theorem tk_42 : tk Tryz.prog 42 = some (true, 5) := by kernel_rfl
@[simp] theorem places_42 : places Tryz.prog 42 = some [(0, 1), (1, 1), (2, 1), (3, 1), (4, 1)] := by kernel_rfl
@[simp] theorem zvA_42 : zvA Tryz.prog 42 = some [AV.d (D.v (Value.int IntKind.i64 (0))), AV.d (D.v (Value.int IntKind.u32 (0))), AV.d (D.v (Value.int IntKind.i64 (0))), AV.d (D.v (Value.int IntKind.i64 (0))), AV.d (D.v (Value.slice none 0 0))] := by kernel_rfl
@[simp] theorem ar_42 : ar Tryz.prog 42 = none := by kernel_rfl
@[simp] theorem fo_42_0 : fo Tryz.prog 42 0 = some 0 := by kernel_rfl
@[simp] theorem ft_42_0 : ft Tryz.prog 42 0 = some (3, 0) := by kernel_rfl
@[simp] theorem fo_42_1 : fo Tryz.prog 42 1 = some 1 := by kernel_rfl
@[simp] theorem ft_42_1 : ft Tryz.prog 42 1 = some (22, 1) := by kernel_rfl
@[simp] theorem fo_42_2 : fo Tryz.prog 42 2 = some 2 := by kernel_rfl
@[simp] theorem ft_42_2 : ft Tryz.prog 42 2 = some (3, 2) := by kernel_rfl
@[simp] theorem fo_42_3 : fo Tryz.prog 42 3 = some 3 := by kernel_rfl
@[simp] theorem ft_42_3 : ft Tryz.prog 42 3 = some (3, 3) := by kernel_rfl
@[simp] theorem fo_42_4 : fo Tryz.prog 42 4 = some 4 := by kernel_rfl
@[simp] theorem ft_42_4 : ft Tryz.prog 42 4 = some (36, 4) := by kernel_rfl
@[simp] theorem tk_103 : tk Tryz.prog 103 = some (true, 2) := by kernel_rfl
@[simp] theorem places_103 : places Tryz.prog 103 = some [(0, 1), (1, 1)] := by kernel_rfl
@[simp] theorem zvA_103 : zvA Tryz.prog 103 = some [AV.d (D.v (Value.int IntKind.i64 (0))), AV.d (D.v (Value.int IntKind.i64 (0)))] := by kernel_rfl
@[simp] theorem ar_103 : ar Tryz.prog 103 = none := by kernel_rfl
@[simp] theorem fo_103_0 : fo Tryz.prog 103 0 = some 0 := by kernel_rfl
@[simp] theorem ft_103_0 : ft Tryz.prog 103 0 = some (3, 0) := by kernel_rfl
@[simp] theorem fo_103_1 : fo Tryz.prog 103 1 = some 1 := by kernel_rfl
@[simp] theorem ft_103_1 : ft Tryz.prog 103 1 = some (3, 1) := by kernel_rfl
@[simp] theorem tk_104 : tk Tryz.prog 104 = some (true, 2) := by kernel_rfl
@[simp] theorem places_104 : places Tryz.prog 104 = some [(0, 1), (1, 1)] := by kernel_rfl
@[simp] theorem zvA_104 : zvA Tryz.prog 104 = some [AV.d (D.v (Value.int IntKind.i64 (0))), AV.d (D.v (Value.int IntKind.i64 (0)))] := by kernel_rfl
@[simp] theorem ar_104 : ar Tryz.prog 104 = none := by kernel_rfl
@[simp] theorem fo_104_0 : fo Tryz.prog 104 0 = some 0 := by kernel_rfl
@[simp] theorem ft_104_0 : ft Tryz.prog 104 0 = some (3, 0) := by kernel_rfl
@[simp] theorem fo_104_1 : fo Tryz.prog 104 1 = some 1 := by kernel_rfl
@[simp] theorem ft_104_1 : ft Tryz.prog 104 1 = some (3, 1) := by kernel_rfl
@[simp] theorem tk_115 : tk Tryz.prog 115 = some (true, 3) := by kernel_rfl
@[simp] theorem places_115 : places Tryz.prog 115 = some [(0, 1), (1, 1), (2, 1)] := by kernel_rfl
@[simp] theorem zvA_115 : zvA Tryz.prog 115 = some [AV.d (D.v (Value.slice none 0 0)), AV.d (D.v (Value.slice none 0 0)), AV.d (D.v (Value.int IntKind.i64 (0)))] := by kernel_rfl
@[simp] theorem ar_115 : ar Tryz.prog 115 = none := by kernel_rfl
@[simp] theorem fo_115_0 : fo Tryz.prog 115 0 = some 0 := by kernel_rfl
@[simp] theorem ft_115_0 : ft Tryz.prog 115 0 = some (113, 0) := by kernel_rfl
@[simp] theorem fo_115_1 : fo Tryz.prog 115 1 = some 1 := by kernel_rfl
@[simp] theorem ft_115_1 : ft Tryz.prog 115 1 = some (114, 1) := by kernel_rfl
@[simp] theorem fo_115_2 : fo Tryz.prog 115 2 = some 2 := by kernel_rfl
@[simp] theorem ft_115_2 : ft Tryz.prog 115 2 = some (3, 2) := by kernel_rfl
@[simp] theorem tk_116 : tk Tryz.prog 116 = some (true, 3) := by kernel_rfl
@[simp] theorem places_116 : places Tryz.prog 116 = some [(0, 1), (1, 1), (2, 1)] := by kernel_rfl
@[simp] theorem zvA_116 : zvA Tryz.prog 116 = some [AV.d (D.v (Value.slice none 0 0)), AV.d (D.v (Value.slice none 0 0)), AV.d (D.v (Value.int IntKind.i64 (0)))] := by kernel_rfl
@[simp] theorem ar_116 : ar Tryz.prog 116 = none := by kernel_rfl
@[simp] theorem fo_116_0 : fo Tryz.prog 116 0 = some 0 := by kernel_rfl
@[simp] theorem ft_116_0 : ft Tryz.prog 116 0 = some (113, 0) := by kernel_rfl
@[simp] theorem fo_116_1 : fo Tryz.prog 116 1 = some 1 := by kernel_rfl
@[simp] theorem ft_116_1 : ft Tryz.prog 116 1 = some (114, 1) := by kernel_rfl
@[simp] theorem fo_116_2 : fo Tryz.prog 116 2 = some 2 := by kernel_rfl
@[simp] theorem ft_116_2 : ft Tryz.prog 116 2 = some (3, 2) := by kernel_rfl
@[simp] theorem tk_118 : tk Tryz.prog 118 = some (true, 3) := by kernel_rfl
@[simp] theorem places_118 : places Tryz.prog 118 = some [(0, 1), (1, 1), (2, 1)] := by kernel_rfl
@[simp] theorem zvA_118 : zvA Tryz.prog 118 = some [AV.d (D.v (Value.int IntKind.u16 (0))), AV.d (D.v (Value.int IntKind.u16 (0))), AV.d (D.v (Value.int IntKind.u16 (0)))] := by kernel_rfl
@[simp] theorem ar_118 : ar Tryz.prog 118 = none := by kernel_rfl
@[simp] theorem fo_118_0 : fo Tryz.prog 118 0 = some 0 := by kernel_rfl
@[simp] theorem ft_118_0 : ft Tryz.prog 118 0 = some (117, 0) := by kernel_rfl
@[simp] theorem fo_118_1 : fo Tryz.prog 118 1 = some 1 := by kernel_rfl
@[simp] theorem ft_118_1 : ft Tryz.prog 118 1 = some (117, 1) := by kernel_rfl
@[simp] theorem fo_118_2 : fo Tryz.prog 118 2 = some 2 := by kernel_rfl
@[simp] theorem ft_118_2 : ft Tryz.prog 118 2 = some (117, 2) := by kernel_rfl
@[simp] theorem tk_119 : tk Tryz.prog 119 = some (true, 3) := by kernel_rfl
@[simp] theorem places_119 : places Tryz.prog 119 = some [(0, 1), (1, 1), (2, 1)] := by kernel_rfl
@[simp] theorem zvA_119 : zvA Tryz.prog 119 = some [AV.d (D.v (Value.int IntKind.u16 (0))), AV.d (D.v (Value.int IntKind.u16 (0))), AV.d (D.v (Value.int IntKind.u16 (0)))] := by kernel_rfl
@[simp] theorem ar_119 : ar Tryz.prog 119 = none := by kernel_rfl
@[simp] theorem fo_119_0 : fo Tryz.prog 119 0 = some 0 := by kernel_rfl
@[simp] theorem ft_119_0 : ft Tryz.prog 119 0 = some (117, 0) := by kernel_rfl
@[simp] theorem fo_119_1 : fo Tryz.prog 119 1 = some 1 := by kernel_rfl
@[simp] theorem ft_119_1 : ft Tryz.prog 119 1 = some (117, 1) := by kernel_rfl
@[simp] theorem fo_119_2 : fo Tryz.prog 119 2 = some 2 := by kernel_rfl
@[simp] theorem ft_119_2 : ft Tryz.prog 119 2 = some (117, 2) := by kernel_rfl
@[simp] theorem tk_121 : tk Tryz.prog 121 = some (true, 3) := by kernel_rfl
@[simp] theorem places_121 : places Tryz.prog 121 = some [(0, 1), (1, 1), (2, 1)] := by kernel_rfl
@[simp] theorem zvA_121 : zvA Tryz.prog 121 = some [AV.d (D.v (Value.int IntKind.u32 (0))), AV.d (D.v (Value.int IntKind.u32 (0))), AV.d (D.v (Value.int IntKind.u32 (0)))] := by kernel_rfl
@[simp] theorem ar_121 : ar Tryz.prog 121 = none := by kernel_rfl
@[simp] theorem fo_121_0 : fo Tryz.prog 121 0 = some 0 := by kernel_rfl
@[simp] theorem ft_121_0 : ft Tryz.prog 121 0 = some (22, 0) := by kernel_rfl
@[simp] theorem fo_121_1 : fo Tryz.prog 121 1 = some 1 := by kernel_rfl
@[simp] theorem ft_121_1 : ft Tryz.prog 121 1 = some (22, 1) := by kernel_rfl
@[simp] theorem fo_121_2 : fo Tryz.prog 121 2 = some 2 := by kernel_rfl
@[simp] theorem ft_121_2 : ft Tryz.prog 121 2 = some (22, 2) := by kernel_rfl
@[simp] theorem tk_122 : tk Tryz.prog 122 = some (true, 3) := by kernel_rfl
@[simp] theorem places_122 : places Tryz.prog 122 = some [(0, 1), (1, 1), (2, 1)] := by kernel_rfl
@[simp] theorem zvA_122 : zvA Tryz.prog 122 = some [AV.d (D.v (Value.int IntKind.u32 (0))), AV.d (D.v (Value.int IntKind.u32 (0))), AV.d (D.v (Value.int IntKind.u32 (0)))] := by kernel_rfl
@[simp] theorem ar_122 : ar Tryz.prog 122 = none := by kernel_rfl
@[simp] theorem fo_122_0 : fo Tryz.prog 122 0 = some 0 := by kernel_rfl
@[simp] theorem ft_122_0 : ft Tryz.prog 122 0 = some (22, 0) := by kernel_rfl
@[simp] theorem fo_122_1 : fo Tryz.prog 122 1 = some 1 := by kernel_rfl
@[simp] theorem ft_122_1 : ft Tryz.prog 122 1 = some (22, 1) := by kernel_rfl
@[simp] theorem fo_122_2 : fo Tryz.prog 122 2 = some 2 := by kernel_rfl
@[simp] theorem ft_122_2 : ft Tryz.prog 122 2 = some (22, 2) := by kernel_rfl
@[simp] theorem tk_124 : tk Tryz.prog 124 = some (true, 6) := by kernel_rfl
@[simp] theorem places_124 : places Tryz.prog 124 = some [(0, 5), (5, 1)] := by kernel_rfl
@[simp] theorem zvA_124 : zvA Tryz.prog 124 = some [AV.d (D.v (Value.int IntKind.i64 (0))), AV.d (D.v (Value.int IntKind.u32 (0))), AV.d (D.v (Value.int IntKind.i64 (0))), AV.d (D.v (Value.int IntKind.i64 (0))), AV.d (D.v (Value.slice none 0 0)), AV.d (D.v (Value.int IntKind.u32 (0)))] := by kernel_rfl
@[simp] theorem ar_124 : ar Tryz.prog 124 = none := by kernel_rfl
@[simp] theorem fo_124_0 : fo Tryz.prog 124 0 = some 0 := by kernel_rfl
@[simp] theorem ft_124_0 : ft Tryz.prog 124 0 = some (42, 0) := by kernel_rfl
@[simp] theorem fo_124_1 : fo Tryz.prog 124 1 = some 5 := by kernel_rfl
@[simp] theorem ft_124_1 : ft Tryz.prog 124 1 = some (22, 5) := by kernel_rfl
@[simp] theorem tk_125 : tk Tryz.prog 125 = some (true, 6) := by kernel_rfl
@[simp] theorem places_125 : places Tryz.prog 125 = some [(0, 5), (5, 1)] := by kernel_rfl
@[simp] theorem zvA_125 : zvA Tryz.prog 125 = some [AV.d (D.v (Value.int IntKind.i64 (0))), AV.d (D.v (Value.int IntKind.u32 (0))), AV.d (D.v (Value.int IntKind.i64 (0))), AV.d (D.v (Value.int IntKind.i64 (0))), AV.d (D.v (Value.slice none 0 0)), AV.d (D.v (Value.int IntKind.u32 (0)))] := by kernel_rfl
@[simp] theorem ar_125 : ar Tryz.prog 125 = none := by kernel_rfl
@[simp] theorem fo_125_0 : fo Tryz.prog 125 0 = some 0 := by kernel_rfl
@[simp] theorem ft_125_0 : ft Tryz.prog 125 0 = some (42, 0) := by kernel_rfl
@[simp] theorem fo_125_1 : fo Tryz.prog 125 1 = some 5 := by kernel_rfl
@[simp] theorem ft_125_1 : ft Tryz.prog 125 1 = some (22, 5) := by kernel_rfl
@[simp] theorem tk_134 : tk Tryz.prog 134 = some (true, 4) := by kernel_rfl
@[simp] theorem places_134 : places Tryz.prog 134 = some [(0, 1), (1, 1), (2, 1), (3, 1)] := by kernel_rfl
@[simp] theorem zvA_134 : zvA Tryz.prog 134 = some [AV.d (D.v (Value.pointer none)), AV.d (D.v (Value.pointer none)), AV.d (D.v (Value.pointer none)), AV.d (D.v (Value.string { data := #[] }))] := by kernel_rfl
@[simp] theorem ar_134 : ar Tryz.prog 134 = none := by kernel_rfl
@[simp] theorem fo_134_0 : fo Tryz.prog 134 0 = some 0 := by kernel_rfl
@[simp] theorem ft_134_0 : ft Tryz.prog 134 0 = some (17, 0) := by kernel_rfl
@[simp] theorem fo_134_1 : fo Tryz.prog 134 1 = some 1 := by kernel_rfl
@[simp] theorem ft_134_1 : ft Tryz.prog 134 1 = some (17, 1) := by kernel_rfl
@[simp] theorem fo_134_2 : fo Tryz.prog 134 2 = some 2 := by kernel_rfl
@[simp] theorem ft_134_2 : ft Tryz.prog 134 2 = some (17, 2) := by kernel_rfl
@[simp] theorem fo_134_3 : fo Tryz.prog 134 3 = some 3 := by kernel_rfl
@[simp] theorem ft_134_3 : ft Tryz.prog 134 3 = some (9, 3) := by kernel_rfl
@[simp] theorem tk_135 : tk Tryz.prog 135 = some (true, 4) := by kernel_rfl
@[simp] theorem places_135 : places Tryz.prog 135 = some [(0, 1), (1, 1), (2, 1), (3, 1)] := by kernel_rfl
@[simp] theorem zvA_135 : zvA Tryz.prog 135 = some [AV.d (D.v (Value.pointer none)), AV.d (D.v (Value.pointer none)), AV.d (D.v (Value.pointer none)), AV.d (D.v (Value.string { data := #[] }))] := by kernel_rfl
@[simp] theorem ar_135 : ar Tryz.prog 135 = none := by kernel_rfl
@[simp] theorem fo_135_0 : fo Tryz.prog 135 0 = some 0 := by kernel_rfl
@[simp] theorem ft_135_0 : ft Tryz.prog 135 0 = some (17, 0) := by kernel_rfl
@[simp] theorem fo_135_1 : fo Tryz.prog 135 1 = some 1 := by kernel_rfl
@[simp] theorem ft_135_1 : ft Tryz.prog 135 1 = some (17, 1) := by kernel_rfl
@[simp] theorem fo_135_2 : fo Tryz.prog 135 2 = some 2 := by kernel_rfl
@[simp] theorem ft_135_2 : ft Tryz.prog 135 2 = some (17, 2) := by kernel_rfl
@[simp] theorem fo_135_3 : fo Tryz.prog 135 3 = some 3 := by kernel_rfl
@[simp] theorem ft_135_3 : ft Tryz.prog 135 3 = some (9, 3) := by kernel_rfl
@[simp] theorem tk_137 : tk Tryz.prog 137 = some (true, 0) := by kernel_rfl
@[simp] theorem places_137 : places Tryz.prog 137 = some [(0, 0)] := by kernel_rfl
@[simp] theorem zvA_137 : zvA Tryz.prog 137 = some [] := by kernel_rfl
@[simp] theorem ar_137 : ar Tryz.prog 137 = none := by kernel_rfl
@[simp] theorem ft_137_0 : ft Tryz.prog 137 0 = some (136, 0) := by kernel_rfl
@[simp] theorem tk_138 : tk Tryz.prog 138 = some (true, 0) := by kernel_rfl
@[simp] theorem places_138 : places Tryz.prog 138 = some [(0, 0)] := by kernel_rfl
@[simp] theorem zvA_138 : zvA Tryz.prog 138 = some [] := by kernel_rfl
@[simp] theorem ar_138 : ar Tryz.prog 138 = none := by kernel_rfl
@[simp] theorem ft_138_0 : ft Tryz.prog 138 0 = some (136, 0) := by kernel_rfl
@[simp] theorem tk_146 : tk Tryz.prog 146 = some (true, 11) := by kernel_rfl
@[simp] theorem places_146 : places Tryz.prog 146 = some [(0, 1), (1, 1), (2, 1), (3, 1), (4, 1), (5, 1), (6, 1), (7, 1), (8, 1), (9, 1), (10, 1)] := by kernel_rfl
@[simp] theorem zvA_146 : zvA Tryz.prog 146 = some [AV.d (D.v (Value.int IntKind.u64 (0))), AV.d (D.v (Value.int IntKind.u64 (0))), AV.d (D.v (Value.int IntKind.u32 (0))), AV.d (D.v (Value.int IntKind.u8 (0))), AV.d (D.v (Value.int IntKind.u8 (0))), AV.d (D.v (Value.int IntKind.u8 (0))), AV.d (D.v (Value.int IntKind.u8 (0))), AV.d (D.v Value.nilFunc), AV.d (D.v (Value.pointer none)), AV.d (D.v (Value.int IntKind.i32 (0))), AV.d (D.v (Value.int IntKind.i32 (0)))] := by kernel_rfl
@[simp] theorem ar_146 : ar Tryz.prog 146 = none := by kernel_rfl
@[simp] theorem fo_146_0 : fo Tryz.prog 146 0 = some 0 := by kernel_rfl
@[simp] theorem ft_146_0 : ft Tryz.prog 146 0 = some (12, 0) := by kernel_rfl
@[simp] theorem fo_146_1 : fo Tryz.prog 146 1 = some 1 := by kernel_rfl
@[simp] theorem ft_146_1 : ft Tryz.prog 146 1 = some (12, 1) := by kernel_rfl
@[simp] theorem fo_146_2 : fo Tryz.prog 146 2 = some 2 := by kernel_rfl
@[simp] theorem ft_146_2 : ft Tryz.prog 146 2 = some (22, 2) := by kernel_rfl
@[simp] theorem fo_146_3 : fo Tryz.prog 146 3 = some 3 := by kernel_rfl
@[simp] theorem ft_146_3 : ft Tryz.prog 146 3 = some (140, 3) := by kernel_rfl
@[simp] theorem fo_146_4 : fo Tryz.prog 146 4 = some 4 := by kernel_rfl
@[simp] theorem ft_146_4 : ft Tryz.prog 146 4 = some (5, 4) := by kernel_rfl
@[simp] theorem fo_146_5 : fo Tryz.prog 146 5 = some 5 := by kernel_rfl
@[simp] theorem ft_146_5 : ft Tryz.prog 146 5 = some (5, 5) := by kernel_rfl
@[simp] theorem fo_146_6 : fo Tryz.prog 146 6 = some 6 := by kernel_rfl
@[simp] theorem ft_146_6 : ft Tryz.prog 146 6 = some (141, 6) := by kernel_rfl
@[simp] theorem fo_146_7 : fo Tryz.prog 146 7 = some 7 := by kernel_rfl
@[simp] theorem ft_146_7 : ft Tryz.prog 146 7 = some (142, 7) := by kernel_rfl
@[simp] theorem fo_146_8 : fo Tryz.prog 146 8 = some 8 := by kernel_rfl
@[simp] theorem ft_146_8 : ft Tryz.prog 146 8 = some (143, 8) := by kernel_rfl
@[simp] theorem fo_146_9 : fo Tryz.prog 146 9 = some 9 := by kernel_rfl
@[simp] theorem ft_146_9 : ft Tryz.prog 146 9 = some (144, 9) := by kernel_rfl
@[simp] theorem fo_146_10 : fo Tryz.prog 146 10 = some 10 := by kernel_rfl
@[simp] theorem ft_146_10 : ft Tryz.prog 146 10 = some (145, 10) := by kernel_rfl
@[simp] theorem tk_147 : tk Tryz.prog 147 = some (true, 11) := by kernel_rfl
@[simp] theorem places_147 : places Tryz.prog 147 = some [(0, 1), (1, 1), (2, 1), (3, 1), (4, 1), (5, 1), (6, 1), (7, 1), (8, 1), (9, 1), (10, 1)] := by kernel_rfl
@[simp] theorem zvA_147 : zvA Tryz.prog 147 = some [AV.d (D.v (Value.int IntKind.u64 (0))), AV.d (D.v (Value.int IntKind.u64 (0))), AV.d (D.v (Value.int IntKind.u32 (0))), AV.d (D.v (Value.int IntKind.u8 (0))), AV.d (D.v (Value.int IntKind.u8 (0))), AV.d (D.v (Value.int IntKind.u8 (0))), AV.d (D.v (Value.int IntKind.u8 (0))), AV.d (D.v Value.nilFunc), AV.d (D.v (Value.pointer none)), AV.d (D.v (Value.int IntKind.i32 (0))), AV.d (D.v (Value.int IntKind.i32 (0)))] := by kernel_rfl
@[simp] theorem ar_147 : ar Tryz.prog 147 = none := by kernel_rfl
@[simp] theorem fo_147_0 : fo Tryz.prog 147 0 = some 0 := by kernel_rfl
@[simp] theorem ft_147_0 : ft Tryz.prog 147 0 = some (12, 0) := by kernel_rfl
@[simp] theorem fo_147_1 : fo Tryz.prog 147 1 = some 1 := by kernel_rfl
@[simp] theorem ft_147_1 : ft Tryz.prog 147 1 = some (12, 1) := by kernel_rfl
@[simp] theorem fo_147_2 : fo Tryz.prog 147 2 = some 2 := by kernel_rfl
@[simp] theorem ft_147_2 : ft Tryz.prog 147 2 = some (22, 2) := by kernel_rfl
@[simp] theorem fo_147_3 : fo Tryz.prog 147 3 = some 3 := by kernel_rfl
@[simp] theorem ft_147_3 : ft Tryz.prog 147 3 = some (140, 3) := by kernel_rfl
@[simp] theorem fo_147_4 : fo Tryz.prog 147 4 = some 4 := by kernel_rfl
@[simp] theorem ft_147_4 : ft Tryz.prog 147 4 = some (5, 4) := by kernel_rfl
@[simp] theorem fo_147_5 : fo Tryz.prog 147 5 = some 5 := by kernel_rfl
@[simp] theorem ft_147_5 : ft Tryz.prog 147 5 = some (5, 5) := by kernel_rfl
@[simp] theorem fo_147_6 : fo Tryz.prog 147 6 = some 6 := by kernel_rfl
@[simp] theorem ft_147_6 : ft Tryz.prog 147 6 = some (141, 6) := by kernel_rfl
@[simp] theorem fo_147_7 : fo Tryz.prog 147 7 = some 7 := by kernel_rfl
@[simp] theorem ft_147_7 : ft Tryz.prog 147 7 = some (142, 7) := by kernel_rfl
@[simp] theorem fo_147_8 : fo Tryz.prog 147 8 = some 8 := by kernel_rfl
@[simp] theorem ft_147_8 : ft Tryz.prog 147 8 = some (143, 8) := by kernel_rfl
@[simp] theorem fo_147_9 : fo Tryz.prog 147 9 = some 9 := by kernel_rfl
@[simp] theorem ft_147_9 : ft Tryz.prog 147 9 = some (144, 9) := by kernel_rfl
@[simp] theorem fo_147_10 : fo Tryz.prog 147 10 = some 10 := by kernel_rfl
@[simp] theorem ft_147_10 : ft Tryz.prog 147 10 = some (145, 10) := by kernel_rfl
@[simp] theorem tk_74 : tk Tryz.prog 74 = some (true, 256) := by kernel_rfl
@[simp] theorem places_74 : places Tryz.prog 74 = none := by kernel_rfl
@[simp] theorem ar_74 : ar Tryz.prog 74 = some (256, 5, 1) := by kernel_rfl
@[simp] theorem tk_93 : tk Tryz.prog 93 = some (true, 10) := by kernel_rfl
@[simp] theorem places_93 : places Tryz.prog 93 = none := by kernel_rfl
@[simp] theorem zvA_93 : zvA Tryz.prog 93 = some [AV.d (D.v (Value.int IntKind.i64 (0))), AV.d (D.v (Value.int IntKind.u32 (0))), AV.d (D.v (Value.int IntKind.i64 (0))), AV.d (D.v (Value.int IntKind.i64 (0))), AV.d (D.v (Value.slice none 0 0)), AV.d (D.v (Value.int IntKind.i64 (0))), AV.d (D.v (Value.int IntKind.u32 (0))), AV.d (D.v (Value.int IntKind.i64 (0))), AV.d (D.v (Value.int IntKind.i64 (0))), AV.d (D.v (Value.slice none 0 0))] := by kernel_rfl
@[simp] theorem ar_93 : ar Tryz.prog 93 = some (2, 42, 5) := by kernel_rfl
@[simp] theorem tk_136 : tk Tryz.prog 136 = some (true, 0) := by kernel_rfl
@[simp] theorem places_136 : places Tryz.prog 136 = none := by kernel_rfl
@[simp] theorem zvA_136 : zvA Tryz.prog 136 = some [] := by kernel_rfl
@[simp] theorem ar_136 : ar Tryz.prog 136 = some (0, 16, 1) := by kernel_rfl
@[simp] theorem tk_23 : tk Tryz.prog 23 = some (false, 1) := by kernel_rfl
@[simp] theorem sl_23 : sl Tryz.prog 23 = some (35, 2) := by kernel_rfl
@[simp] theorem zvA_23 : zvA Tryz.prog 23 = some [AV.d (D.v (Value.slice none 0 0))] := by kernel_rfl
@[simp] theorem byt_23 : byt Tryz.prog 23 = some (35, 2, 32) := by kernel_rfl
@[simp] theorem tk_33 : tk Tryz.prog 33 = some (false, 1) := by kernel_rfl
@[simp] theorem sl_33 : sl Tryz.prog 33 = some (39, 8) := by kernel_rfl
@[simp] theorem zvA_33 : zvA Tryz.prog 33 = some [AV.d (D.v (Value.slice none 0 0))] := by kernel_rfl
@[simp] theorem byt_33 : byt Tryz.prog 33 = some (39, 8, 96) := by kernel_rfl
@[simp] theorem tk_36 : tk Tryz.prog 36 = some (false, 1) := by kernel_rfl
@[simp] theorem sl_36 : sl Tryz.prog 36 = some (42, 5) := by kernel_rfl
@[simp] theorem zvA_36 : zvA Tryz.prog 36 = some [AV.d (D.v (Value.slice none 0 0))] := by kernel_rfl
@[simp] theorem byt_36 : byt Tryz.prog 36 = some (42, 5, 56) := by kernel_rfl
@[simp] theorem tk_37 : tk Tryz.prog 37 = some (false, 1) := by kernel_rfl
@[simp] theorem sl_37 : sl Tryz.prog 37 = some (3, 1) := by kernel_rfl
@[simp] theorem zvA_37 : zvA Tryz.prog 37 = some [AV.d (D.v (Value.slice none 0 0))] := by kernel_rfl
@[simp] theorem byt_37 : byt Tryz.prog 37 = some (3, 1, 8) := by kernel_rfl
@[simp] theorem tk_54 : tk Tryz.prog 54 = some (false, 1) := by kernel_rfl
@[simp] theorem sl_54 : sl Tryz.prog 54 = some (9, 1) := by kernel_rfl
@[simp] theorem zvA_54 : zvA Tryz.prog 54 = some [AV.d (D.v (Value.slice none 0 0))] := by kernel_rfl
@[simp] theorem byt_54 : byt Tryz.prog 54 = some (9, 1, 16) := by kernel_rfl
@[simp] theorem tk_91 : tk Tryz.prog 91 = some (false, 1) := by kernel_rfl
@[simp] theorem sl_91 : sl Tryz.prog 91 = some (93, 10) := by kernel_rfl
@[simp] theorem zvA_91 : zvA Tryz.prog 91 = some [AV.d (D.v (Value.slice none 0 0))] := by kernel_rfl
@[simp] theorem byt_91 : byt Tryz.prog 91 = some (93, 10, 112) := by kernel_rfl
@[simp] theorem tk_101 : tk Tryz.prog 101 = some (false, 1) := by kernel_rfl
@[simp] theorem sl_101 : sl Tryz.prog 101 = some (5, 1) := by kernel_rfl
@[simp] theorem zvA_101 : zvA Tryz.prog 101 = some [AV.d (D.v (Value.slice none 0 0))] := by kernel_rfl
@[simp] theorem byt_101 : byt Tryz.prog 101 = some (5, 1, 1) := by kernel_rfl
@[simp] theorem tk_102 : tk Tryz.prog 102 = some (false, 1) := by kernel_rfl
@[simp] theorem sl_102 : sl Tryz.prog 102 = some (104, 2) := by kernel_rfl
@[simp] theorem zvA_102 : zvA Tryz.prog 102 = some [AV.d (D.v (Value.slice none 0 0))] := by kernel_rfl
@[simp] theorem byt_102 : byt Tryz.prog 102 = some (104, 2, 16) := by kernel_rfl
@[simp] theorem tk_113 : tk Tryz.prog 113 = some (false, 1) := by kernel_rfl
@[simp] theorem sl_113 : sl Tryz.prog 113 = some (119, 3) := by kernel_rfl
@[simp] theorem zvA_113 : zvA Tryz.prog 113 = some [AV.d (D.v (Value.slice none 0 0))] := by kernel_rfl
@[simp] theorem byt_113 : byt Tryz.prog 113 = some (119, 3, 6) := by kernel_rfl
@[simp] theorem tk_114 : tk Tryz.prog 114 = some (false, 1) := by kernel_rfl
@[simp] theorem sl_114 : sl Tryz.prog 114 = some (122, 3) := by kernel_rfl
@[simp] theorem zvA_114 : zvA Tryz.prog 114 = some [AV.d (D.v (Value.slice none 0 0))] := by kernel_rfl
@[simp] theorem byt_114 : byt Tryz.prog 114 = some (122, 3, 12) := by kernel_rfl
@[simp] theorem tk_2 : tk Tryz.prog 2 = some (false, 1) := by kernel_rfl
@[simp] theorem isInt_2 : isInt Tryz.prog 2 = some IntKind.i64 := by kernel_rfl
@[simp] theorem isStr_2 : isStr Tryz.prog 2 = false := by kernel_rfl
@[simp] theorem zvA_2 : zvA Tryz.prog 2 = some [AV.d (D.v (Value.int IntKind.i64 (0)))] := by kernel_rfl
@[simp] theorem tk_3 : tk Tryz.prog 3 = some (false, 1) := by kernel_rfl
@[simp] theorem isInt_3 : isInt Tryz.prog 3 = some IntKind.i64 := by kernel_rfl
@[simp] theorem isStr_3 : isStr Tryz.prog 3 = false := by kernel_rfl
@[simp] theorem zvA_3 : zvA Tryz.prog 3 = some [AV.d (D.v (Value.int IntKind.i64 (0)))] := by kernel_rfl
@[simp] theorem tk_4 : tk Tryz.prog 4 = some (false, 1) := by kernel_rfl
@[simp] theorem isInt_4 : isInt Tryz.prog 4 = none := by kernel_rfl
@[simp] theorem isStr_4 : isStr Tryz.prog 4 = false := by kernel_rfl
@[simp] theorem zvA_4 : zvA Tryz.prog 4 = some [AV.d (D.v (Value.bool false))] := by kernel_rfl
@[simp] theorem tk_5 : tk Tryz.prog 5 = some (false, 1) := by kernel_rfl
@[simp] theorem isInt_5 : isInt Tryz.prog 5 = some IntKind.u8 := by kernel_rfl
@[simp] theorem isStr_5 : isStr Tryz.prog 5 = false := by kernel_rfl
@[simp] theorem zvA_5 : zvA Tryz.prog 5 = some [AV.d (D.v (Value.int IntKind.u8 (0)))] := by kernel_rfl
@[simp] theorem tk_6 : tk Tryz.prog 6 = some (false, 1) := by kernel_rfl
@[simp] theorem isInt_6 : isInt Tryz.prog 6 = some IntKind.u8 := by kernel_rfl
@[simp] theorem isStr_6 : isStr Tryz.prog 6 = false := by kernel_rfl
@[simp] theorem zvA_6 : zvA Tryz.prog 6 = some [AV.d (D.v (Value.int IntKind.u8 (0)))] := by kernel_rfl
@[simp] theorem tk_9 : tk Tryz.prog 9 = some (false, 1) := by kernel_rfl
@[simp] theorem isInt_9 : isInt Tryz.prog 9 = none := by kernel_rfl
@[simp] theorem isStr_9 : isStr Tryz.prog 9 = true := by kernel_rfl
@[simp] theorem zvA_9 : zvA Tryz.prog 9 = some [AV.d (D.v (Value.string { data := #[] }))] := by kernel_rfl
@[simp] theorem tk_10 : tk Tryz.prog 10 = some (false, 1) := by kernel_rfl
@[simp] theorem isInt_10 : isInt Tryz.prog 10 = none := by kernel_rfl
@[simp] theorem isStr_10 : isStr Tryz.prog 10 = true := by kernel_rfl
@[simp] theorem zvA_10 : zvA Tryz.prog 10 = some [AV.d (D.v (Value.string { data := #[] }))] := by kernel_rfl
@[simp] theorem tk_11 : tk Tryz.prog 11 = some (false, 1) := by kernel_rfl
@[simp] theorem isInt_11 : isInt Tryz.prog 11 = none := by kernel_rfl
@[simp] theorem isStr_11 : isStr Tryz.prog 11 = true := by kernel_rfl
@[simp] theorem zvA_11 : zvA Tryz.prog 11 = some [AV.d (D.v (Value.string { data := #[] }))] := by kernel_rfl
@[simp] theorem tk_12 : tk Tryz.prog 12 = some (false, 1) := by kernel_rfl
@[simp] theorem isInt_12 : isInt Tryz.prog 12 = some IntKind.u64 := by kernel_rfl
@[simp] theorem isStr_12 : isStr Tryz.prog 12 = false := by kernel_rfl
@[simp] theorem zvA_12 : zvA Tryz.prog 12 = some [AV.d (D.v (Value.int IntKind.u64 (0)))] := by kernel_rfl
@[simp] theorem tk_21 : tk Tryz.prog 21 = some (false, 1) := by kernel_rfl
@[simp] theorem isInt_21 : isInt Tryz.prog 21 = some IntKind.i32 := by kernel_rfl
@[simp] theorem isStr_21 : isStr Tryz.prog 21 = false := by kernel_rfl
@[simp] theorem zvA_21 : zvA Tryz.prog 21 = some [AV.d (D.v (Value.int IntKind.i32 (0)))] := by kernel_rfl
@[simp] theorem tk_22 : tk Tryz.prog 22 = some (false, 1) := by kernel_rfl
@[simp] theorem isInt_22 : isInt Tryz.prog 22 = some IntKind.u32 := by kernel_rfl
@[simp] theorem isStr_22 : isStr Tryz.prog 22 = false := by kernel_rfl
@[simp] theorem zvA_22 : zvA Tryz.prog 22 = some [AV.d (D.v (Value.int IntKind.u32 (0)))] := by kernel_rfl
@[simp] theorem tk_28 : tk Tryz.prog 28 = some (false, 1) := by kernel_rfl
@[simp] theorem isInt_28 : isInt Tryz.prog 28 = some IntKind.i64 := by kernel_rfl
@[simp] theorem isStr_28 : isStr Tryz.prog 28 = false := by kernel_rfl
@[simp] theorem zvA_28 : zvA Tryz.prog 28 = some [AV.d (D.v (Value.int IntKind.i64 (0)))] := by kernel_rfl
@[simp] theorem tk_117 : tk Tryz.prog 117 = some (false, 1) := by kernel_rfl
@[simp] theorem isInt_117 : isInt Tryz.prog 117 = some IntKind.u16 := by kernel_rfl
@[simp] theorem isStr_117 : isStr Tryz.prog 117 = false := by kernel_rfl
@[simp] theorem zvA_117 : zvA Tryz.prog 117 = some [AV.d (D.v (Value.int IntKind.u16 (0)))] := by kernel_rfl
@[simp] theorem tk_131 : tk Tryz.prog 131 = some (false, 1) := by kernel_rfl
@[simp] theorem isInt_131 : isInt Tryz.prog 131 = some IntKind.u64 := by kernel_rfl
@[simp] theorem isStr_131 : isStr Tryz.prog 131 = false := by kernel_rfl
@[simp] theorem zvA_131 : zvA Tryz.prog 131 = some [AV.d (D.v (Value.int IntKind.u64 (0)))] := by kernel_rfl
@[simp] theorem tk_140 : tk Tryz.prog 140 = some (false, 1) := by kernel_rfl
@[simp] theorem isInt_140 : isInt Tryz.prog 140 = some IntKind.u8 := by kernel_rfl
@[simp] theorem isStr_140 : isStr Tryz.prog 140 = false := by kernel_rfl
@[simp] theorem zvA_140 : zvA Tryz.prog 140 = some [AV.d (D.v (Value.int IntKind.u8 (0)))] := by kernel_rfl
@[simp] theorem tk_141 : tk Tryz.prog 141 = some (false, 1) := by kernel_rfl
@[simp] theorem isInt_141 : isInt Tryz.prog 141 = some IntKind.u8 := by kernel_rfl
@[simp] theorem isStr_141 : isStr Tryz.prog 141 = false := by kernel_rfl
@[simp] theorem zvA_141 : zvA Tryz.prog 141 = some [AV.d (D.v (Value.int IntKind.u8 (0)))] := by kernel_rfl
@[simp] theorem tk_144 : tk Tryz.prog 144 = some (false, 1) := by kernel_rfl
@[simp] theorem isInt_144 : isInt Tryz.prog 144 = some IntKind.i32 := by kernel_rfl
@[simp] theorem isStr_144 : isStr Tryz.prog 144 = false := by kernel_rfl
@[simp] theorem zvA_144 : zvA Tryz.prog 144 = some [AV.d (D.v (Value.int IntKind.i32 (0)))] := by kernel_rfl
@[simp] theorem tk_145 : tk Tryz.prog 145 = some (false, 1) := by kernel_rfl
@[simp] theorem isInt_145 : isInt Tryz.prog 145 = some IntKind.i32 := by kernel_rfl
@[simp] theorem isStr_145 : isStr Tryz.prog 145 = false := by kernel_rfl
@[simp] theorem zvA_145 : zvA Tryz.prog 145 = some [AV.d (D.v (Value.int IntKind.i32 (0)))] := by kernel_rfl
@[simp] theorem tk_148 : tk Tryz.prog 148 = some (false, 1) := by kernel_rfl
@[simp] theorem isInt_148 : isInt Tryz.prog 148 = none := by kernel_rfl
@[simp] theorem isStr_148 : isStr Tryz.prog 148 = false := by kernel_rfl
@[simp] theorem zvA_148 : zvA Tryz.prog 148 = some [AV.d (D.v (Value.pointer none))] := by kernel_rfl
@[simp] theorem tk_1 : tk Tryz.prog 1 = some (false, 1) := by kernel_rfl
@[simp] theorem zvA_1 : zvA Tryz.prog 1 = some [AV.d (D.v Value.nilFunc)] := by kernel_rfl
@[simp] theorem tk_15 : tk Tryz.prog 15 = some (false, 1) := by kernel_rfl
@[simp] theorem zvA_15 : zvA Tryz.prog 15 = some [AV.d (D.v (Value.pointer none))] := by kernel_rfl
@[simp] theorem tk_16 : tk Tryz.prog 16 = some (false, 1) := by kernel_rfl
@[simp] theorem zvA_16 : zvA Tryz.prog 16 = some [AV.d (D.v (Value.pointer none))] := by kernel_rfl
@[simp] theorem tk_17 : tk Tryz.prog 17 = some (false, 1) := by kernel_rfl
@[simp] theorem zvA_17 : zvA Tryz.prog 17 = some [AV.d (D.v (Value.pointer none))] := by kernel_rfl
@[simp] theorem tk_20 : tk Tryz.prog 20 = some (false, 1) := by kernel_rfl
@[simp] theorem zvA_20 : zvA Tryz.prog 20 = some [AV.d (D.v Value.nilIface)] := by kernel_rfl
@[simp] theorem tk_26 : tk Tryz.prog 26 = some (false, 1) := by kernel_rfl
@[simp] theorem zvA_26 : zvA Tryz.prog 26 = some [AV.d (D.v Value.nilFunc)] := by kernel_rfl
@[simp] theorem tk_27 : tk Tryz.prog 27 = some (false, 1) := by kernel_rfl
@[simp] theorem zvA_27 : zvA Tryz.prog 27 = some [AV.d (D.v Value.nilFunc)] := by kernel_rfl
@[simp] theorem tk_30 : tk Tryz.prog 30 = some (false, 1) := by kernel_rfl
@[simp] theorem zvA_30 : zvA Tryz.prog 30 = some [AV.d (D.v Value.nilFunc)] := by kernel_rfl
@[simp] theorem tk_31 : tk Tryz.prog 31 = some (false, 1) := by kernel_rfl
@[simp] theorem zvA_31 : zvA Tryz.prog 31 = some [AV.d (D.v Value.nilFunc)] := by kernel_rfl
@[simp] theorem tk_32 : tk Tryz.prog 32 = some (false, 1) := by kernel_rfl
@[simp] theorem zvA_32 : zvA Tryz.prog 32 = some [AV.d (D.v Value.nilFunc)] := by kernel_rfl
@[simp] theorem tk_40 : tk Tryz.prog 40 = some (false, 1) := by kernel_rfl
@[simp] theorem zvA_40 : zvA Tryz.prog 40 = some [AV.d (D.v Value.nilFunc)] := by kernel_rfl
@[simp] theorem tk_43 : tk Tryz.prog 43 = some (false, 1) := by kernel_rfl
@[simp] theorem zvA_43 : zvA Tryz.prog 43 = some [AV.d (D.v Value.nilFunc)] := by kernel_rfl
@[simp] theorem tk_45 : tk Tryz.prog 45 = some (false, 1) := by kernel_rfl
@[simp] theorem zvA_45 : zvA Tryz.prog 45 = some [AV.d (D.v Value.nilFunc)] := by kernel_rfl
@[simp] theorem tk_46 : tk Tryz.prog 46 = some (false, 1) := by kernel_rfl
@[simp] theorem zvA_46 : zvA Tryz.prog 46 = some [AV.d (D.v Value.nilFunc)] := by kernel_rfl
@[simp] theorem tk_47 : tk Tryz.prog 47 = some (false, 1) := by kernel_rfl
@[simp] theorem zvA_47 : zvA Tryz.prog 47 = some [AV.d (D.v Value.nilFunc)] := by kernel_rfl
@[simp] theorem tk_48 : tk Tryz.prog 48 = some (false, 1) := by kernel_rfl
@[simp] theorem zvA_48 : zvA Tryz.prog 48 = some [AV.d (D.v Value.nilFunc)] := by kernel_rfl
@[simp] theorem tk_50 : tk Tryz.prog 50 = some (false, 1) := by kernel_rfl
@[simp] theorem zvA_50 : zvA Tryz.prog 50 = some [AV.d (D.v Value.nilFunc)] := by kernel_rfl
@[simp] theorem tk_51 : tk Tryz.prog 51 = some (false, 1) := by kernel_rfl
@[simp] theorem zvA_51 : zvA Tryz.prog 51 = some [AV.d (D.v Value.nilFunc)] := by kernel_rfl
@[simp] theorem tk_52 : tk Tryz.prog 52 = some (false, 1) := by kernel_rfl
@[simp] theorem zvA_52 : zvA Tryz.prog 52 = some [AV.d (D.v Value.nilFunc)] := by kernel_rfl
@[simp] theorem tk_53 : tk Tryz.prog 53 = some (false, 1) := by kernel_rfl
@[simp] theorem zvA_53 : zvA Tryz.prog 53 = some [AV.d (D.v Value.nilFunc)] := by kernel_rfl
@[simp] theorem tk_55 : tk Tryz.prog 55 = some (false, 1) := by kernel_rfl
@[simp] theorem zvA_55 : zvA Tryz.prog 55 = some [AV.d (D.v Value.nilFunc)] := by kernel_rfl
@[simp] theorem tk_56 : tk Tryz.prog 56 = some (false, 1) := by kernel_rfl
@[simp] theorem zvA_56 : zvA Tryz.prog 56 = some [AV.d (D.v Value.nilFunc)] := by kernel_rfl
@[simp] theorem tk_57 : tk Tryz.prog 57 = some (false, 1) := by kernel_rfl
@[simp] theorem zvA_57 : zvA Tryz.prog 57 = some [AV.d (D.v Value.nilFunc)] := by kernel_rfl
@[simp] theorem tk_58 : tk Tryz.prog 58 = some (false, 1) := by kernel_rfl
@[simp] theorem zvA_58 : zvA Tryz.prog 58 = some [AV.d (D.v Value.nilFunc)] := by kernel_rfl
@[simp] theorem tk_59 : tk Tryz.prog 59 = some (false, 1) := by kernel_rfl
@[simp] theorem zvA_59 : zvA Tryz.prog 59 = some [AV.d (D.v Value.nilFunc)] := by kernel_rfl
@[simp] theorem tk_60 : tk Tryz.prog 60 = some (false, 1) := by kernel_rfl
@[simp] theorem zvA_60 : zvA Tryz.prog 60 = some [AV.d (D.v Value.nilFunc)] := by kernel_rfl
@[simp] theorem tk_61 : tk Tryz.prog 61 = some (false, 1) := by kernel_rfl
@[simp] theorem zvA_61 : zvA Tryz.prog 61 = some [AV.d (D.v Value.nilFunc)] := by kernel_rfl
@[simp] theorem tk_62 : tk Tryz.prog 62 = some (false, 1) := by kernel_rfl
@[simp] theorem zvA_62 : zvA Tryz.prog 62 = some [AV.d (D.v Value.nilFunc)] := by kernel_rfl
@[simp] theorem tk_63 : tk Tryz.prog 63 = some (false, 1) := by kernel_rfl
@[simp] theorem zvA_63 : zvA Tryz.prog 63 = some [AV.d (D.v Value.nilFunc)] := by kernel_rfl
@[simp] theorem tk_64 : tk Tryz.prog 64 = some (false, 1) := by kernel_rfl
@[simp] theorem zvA_64 : zvA Tryz.prog 64 = some [AV.d (D.v Value.nilFunc)] := by kernel_rfl
@[simp] theorem tk_65 : tk Tryz.prog 65 = some (false, 1) := by kernel_rfl
@[simp] theorem zvA_65 : zvA Tryz.prog 65 = some [AV.d (D.v Value.nilFunc)] := by kernel_rfl
@[simp] theorem tk_66 : tk Tryz.prog 66 = some (false, 1) := by kernel_rfl
@[simp] theorem zvA_66 : zvA Tryz.prog 66 = some [AV.d (D.v Value.nilFunc)] := by kernel_rfl
@[simp] theorem tk_67 : tk Tryz.prog 67 = some (false, 1) := by kernel_rfl
@[simp] theorem zvA_67 : zvA Tryz.prog 67 = some [AV.d (D.v Value.nilFunc)] := by kernel_rfl
@[simp] theorem tk_68 : tk Tryz.prog 68 = some (false, 1) := by kernel_rfl
@[simp] theorem zvA_68 : zvA Tryz.prog 68 = some [AV.d (D.v Value.nilFunc)] := by kernel_rfl
@[simp] theorem tk_69 : tk Tryz.prog 69 = some (false, 1) := by kernel_rfl
@[simp] theorem zvA_69 : zvA Tryz.prog 69 = some [AV.d (D.v Value.nilFunc)] := by kernel_rfl
@[simp] theorem tk_70 : tk Tryz.prog 70 = some (false, 1) := by kernel_rfl
@[simp] theorem zvA_70 : zvA Tryz.prog 70 = some [AV.d (D.v Value.nilFunc)] := by kernel_rfl
@[simp] theorem tk_71 : tk Tryz.prog 71 = some (false, 1) := by kernel_rfl
@[simp] theorem zvA_71 : zvA Tryz.prog 71 = some [AV.d (D.v Value.nilFunc)] := by kernel_rfl
@[simp] theorem tk_72 : tk Tryz.prog 72 = some (false, 1) := by kernel_rfl
@[simp] theorem zvA_72 : zvA Tryz.prog 72 = some [AV.d (D.v Value.nilFunc)] := by kernel_rfl
@[simp] theorem tk_73 : tk Tryz.prog 73 = some (false, 1) := by kernel_rfl
@[simp] theorem zvA_73 : zvA Tryz.prog 73 = some [AV.d (D.v Value.nilFunc)] := by kernel_rfl
@[simp] theorem tk_75 : tk Tryz.prog 75 = some (false, 1) := by kernel_rfl
@[simp] theorem zvA_75 : zvA Tryz.prog 75 = some [AV.d (D.v Value.nilFunc)] := by kernel_rfl
@[simp] theorem tk_76 : tk Tryz.prog 76 = some (false, 1) := by kernel_rfl
@[simp] theorem zvA_76 : zvA Tryz.prog 76 = some [AV.d (D.v Value.nilFunc)] := by kernel_rfl
@[simp] theorem tk_77 : tk Tryz.prog 77 = some (false, 1) := by kernel_rfl
@[simp] theorem zvA_77 : zvA Tryz.prog 77 = some [AV.d (D.v Value.nilFunc)] := by kernel_rfl
@[simp] theorem tk_78 : tk Tryz.prog 78 = some (false, 1) := by kernel_rfl
@[simp] theorem zvA_78 : zvA Tryz.prog 78 = some [AV.d (D.v Value.nilFunc)] := by kernel_rfl
@[simp] theorem tk_79 : tk Tryz.prog 79 = some (false, 1) := by kernel_rfl
@[simp] theorem zvA_79 : zvA Tryz.prog 79 = some [AV.d (D.v Value.nilFunc)] := by kernel_rfl
@[simp] theorem tk_80 : tk Tryz.prog 80 = some (false, 1) := by kernel_rfl
@[simp] theorem zvA_80 : zvA Tryz.prog 80 = some [AV.d (D.v Value.nilFunc)] := by kernel_rfl
@[simp] theorem tk_81 : tk Tryz.prog 81 = some (false, 1) := by kernel_rfl
@[simp] theorem zvA_81 : zvA Tryz.prog 81 = some [AV.d (D.v Value.nilFunc)] := by kernel_rfl
@[simp] theorem tk_82 : tk Tryz.prog 82 = some (false, 1) := by kernel_rfl
@[simp] theorem zvA_82 : zvA Tryz.prog 82 = some [AV.d (D.v Value.nilFunc)] := by kernel_rfl
@[simp] theorem tk_83 : tk Tryz.prog 83 = some (false, 1) := by kernel_rfl
@[simp] theorem zvA_83 : zvA Tryz.prog 83 = some [AV.d (D.v Value.nilFunc)] := by kernel_rfl
@[simp] theorem tk_85 : tk Tryz.prog 85 = some (false, 1) := by kernel_rfl
@[simp] theorem zvA_85 : zvA Tryz.prog 85 = some [AV.d (D.v Value.nilFunc)] := by kernel_rfl
@[simp] theorem tk_86 : tk Tryz.prog 86 = some (false, 1) := by kernel_rfl
@[simp] theorem zvA_86 : zvA Tryz.prog 86 = some [AV.d (D.v Value.nilFunc)] := by kernel_rfl
@[simp] theorem tk_88 : tk Tryz.prog 88 = some (false, 1) := by kernel_rfl
@[simp] theorem zvA_88 : zvA Tryz.prog 88 = some [AV.d (D.v Value.nilFunc)] := by kernel_rfl
@[simp] theorem tk_89 : tk Tryz.prog 89 = some (false, 1) := by kernel_rfl
@[simp] theorem zvA_89 : zvA Tryz.prog 89 = some [AV.d (D.v Value.nilFunc)] := by kernel_rfl
@[simp] theorem tk_90 : tk Tryz.prog 90 = some (false, 1) := by kernel_rfl
@[simp] theorem zvA_90 : zvA Tryz.prog 90 = some [AV.d (D.v Value.nilFunc)] := by kernel_rfl
@[simp] theorem tk_92 : tk Tryz.prog 92 = some (false, 1) := by kernel_rfl
@[simp] theorem zvA_92 : zvA Tryz.prog 92 = some [AV.d (D.v Value.nilFunc)] := by kernel_rfl
@[simp] theorem tk_94 : tk Tryz.prog 94 = some (false, 1) := by kernel_rfl
@[simp] theorem zvA_94 : zvA Tryz.prog 94 = some [AV.d (D.v Value.nilFunc)] := by kernel_rfl
@[simp] theorem tk_96 : tk Tryz.prog 96 = some (false, 1) := by kernel_rfl
@[simp] theorem zvA_96 : zvA Tryz.prog 96 = some [AV.d (D.v Value.nilFunc)] := by kernel_rfl
@[simp] theorem tk_98 : tk Tryz.prog 98 = some (false, 1) := by kernel_rfl
@[simp] theorem zvA_98 : zvA Tryz.prog 98 = some [AV.d (D.v Value.nilFunc)] := by kernel_rfl
@[simp] theorem tk_99 : tk Tryz.prog 99 = some (false, 1) := by kernel_rfl
@[simp] theorem zvA_99 : zvA Tryz.prog 99 = some [AV.d (D.v Value.nilFunc)] := by kernel_rfl
@[simp] theorem tk_100 : tk Tryz.prog 100 = some (false, 1) := by kernel_rfl
@[simp] theorem zvA_100 : zvA Tryz.prog 100 = some [AV.d (D.v Value.nilFunc)] := by kernel_rfl
@[simp] theorem tk_105 : tk Tryz.prog 105 = some (false, 1) := by kernel_rfl
@[simp] theorem zvA_105 : zvA Tryz.prog 105 = some [AV.d (D.v Value.nilFunc)] := by kernel_rfl
@[simp] theorem tk_106 : tk Tryz.prog 106 = some (false, 1) := by kernel_rfl
@[simp] theorem zvA_106 : zvA Tryz.prog 106 = some [AV.d (D.v (Value.pointer none))] := by kernel_rfl
@[simp] theorem tk_107 : tk Tryz.prog 107 = some (false, 1) := by kernel_rfl
@[simp] theorem zvA_107 : zvA Tryz.prog 107 = some [AV.d (D.v Value.nilFunc)] := by kernel_rfl
@[simp] theorem tk_108 : tk Tryz.prog 108 = some (false, 1) := by kernel_rfl
@[simp] theorem zvA_108 : zvA Tryz.prog 108 = some [AV.d (D.v Value.nilFunc)] := by kernel_rfl
@[simp] theorem tk_109 : tk Tryz.prog 109 = some (false, 1) := by kernel_rfl
@[simp] theorem zvA_109 : zvA Tryz.prog 109 = some [AV.d (D.v Value.nilFunc)] := by kernel_rfl
@[simp] theorem tk_110 : tk Tryz.prog 110 = some (false, 1) := by kernel_rfl
@[simp] theorem zvA_110 : zvA Tryz.prog 110 = some [AV.d (D.v Value.nilFunc)] := by kernel_rfl
@[simp] theorem tk_111 : tk Tryz.prog 111 = some (false, 1) := by kernel_rfl
@[simp] theorem zvA_111 : zvA Tryz.prog 111 = some [AV.d (D.v Value.nilFunc)] := by kernel_rfl
@[simp] theorem tk_112 : tk Tryz.prog 112 = some (false, 1) := by kernel_rfl
@[simp] theorem zvA_112 : zvA Tryz.prog 112 = some [AV.d (D.v Value.nilFunc)] := by kernel_rfl
@[simp] theorem tk_120 : tk Tryz.prog 120 = some (false, 1) := by kernel_rfl
@[simp] theorem zvA_120 : zvA Tryz.prog 120 = some [AV.d (D.v Value.nilFunc)] := by kernel_rfl
@[simp] theorem tk_123 : tk Tryz.prog 123 = some (false, 1) := by kernel_rfl
@[simp] theorem zvA_123 : zvA Tryz.prog 123 = some [AV.d (D.v Value.nilFunc)] := by kernel_rfl
@[simp] theorem tk_126 : tk Tryz.prog 126 = some (false, 1) := by kernel_rfl
@[simp] theorem zvA_126 : zvA Tryz.prog 126 = some [AV.d (D.v Value.nilFunc)] := by kernel_rfl
@[simp] theorem tk_127 : tk Tryz.prog 127 = some (false, 1) := by kernel_rfl
@[simp] theorem zvA_127 : zvA Tryz.prog 127 = some [AV.d (D.v Value.nilFunc)] := by kernel_rfl
@[simp] theorem tk_129 : tk Tryz.prog 129 = some (false, 1) := by kernel_rfl
@[simp] theorem zvA_129 : zvA Tryz.prog 129 = some [AV.d (D.v Value.nilFunc)] := by kernel_rfl
@[simp] theorem tk_130 : tk Tryz.prog 130 = some (false, 1) := by kernel_rfl
@[simp] theorem zvA_130 : zvA Tryz.prog 130 = some [AV.d (D.v (Value.pointer none))] := by kernel_rfl
@[simp] theorem tk_132 : tk Tryz.prog 132 = some (false, 1) := by kernel_rfl
@[simp] theorem zvA_132 : zvA Tryz.prog 132 = some [AV.d (D.v (Value.pointer none))] := by kernel_rfl
@[simp] theorem tk_133 : tk Tryz.prog 133 = some (false, 1) := by kernel_rfl
@[simp] theorem zvA_133 : zvA Tryz.prog 133 = some [AV.d (D.v Value.nilFunc)] := by kernel_rfl
@[simp] theorem tk_139 : tk Tryz.prog 139 = some (false, 1) := by kernel_rfl
@[simp] theorem zvA_139 : zvA Tryz.prog 139 = some [AV.d (D.v Value.nilFunc)] := by kernel_rfl
@[simp] theorem tk_142 : tk Tryz.prog 142 = some (false, 1) := by kernel_rfl
@[simp] theorem zvA_142 : zvA Tryz.prog 142 = some [AV.d (D.v Value.nilFunc)] := by kernel_rfl
@[simp] theorem tk_143 : tk Tryz.prog 143 = some (false, 1) := by kernel_rfl
@[simp] theorem zvA_143 : zvA Tryz.prog 143 = some [AV.d (D.v (Value.pointer none))] := by kernel_rfl
@[simp] theorem okF_3 : okF Tryz.prog 3 = true := by kernel_rfl
@[simp] theorem okF_4 : okF Tryz.prog 4 = true := by kernel_rfl
@[simp] theorem okF_5 : okF Tryz.prog 5 = true := by kernel_rfl
@[simp] theorem okF_6 : okF Tryz.prog 6 = true := by kernel_rfl
@[simp] theorem okF_7 : okF Tryz.prog 7 = true := by kernel_rfl
@[simp] theorem okF_8 : okF Tryz.prog 8 = true := by kernel_rfl
@[simp] theorem okF_9 : okF Tryz.prog 9 = true := by kernel_rfl
@[simp] theorem okF_10 : okF Tryz.prog 10 = true := by kernel_rfl
@[simp] theorem okF_11 : okF Tryz.prog 11 = true := by kernel_rfl
@[simp] theorem okF_12 : okF Tryz.prog 12 = true := by kernel_rfl
@[simp] theorem okF_13 : okF Tryz.prog 13 = true := by kernel_rfl
@[simp] theorem okF_14 : okF Tryz.prog 14 = true := by kernel_rfl
@[simp] theorem okF_15 : okF Tryz.prog 15 = true := by kernel_rfl
@[simp] theorem okF_16 : okF Tryz.prog 16 = true := by kernel_rfl
@[simp] theorem okF_17 : okF Tryz.prog 17 = true := by kernel_rfl
@[simp] theorem okF_18 : okF Tryz.prog 18 = true := by kernel_rfl
@[simp] theorem okF_19 : okF Tryz.prog 19 = true := by kernel_rfl
@[simp] theorem okF_20 : okF Tryz.prog 20 = true := by kernel_rfl
@[simp] theorem okF_21 : okF Tryz.prog 21 = true := by kernel_rfl
@[simp] theorem okF_22 : okF Tryz.prog 22 = true := by kernel_rfl
@[simp] theorem okF_23 : okF Tryz.prog 23 = true := by kernel_rfl
@[simp] theorem okF_24 : okF Tryz.prog 24 = true := by kernel_rfl
@[simp] theorem okF_25 : okF Tryz.prog 25 = true := by kernel_rfl
@[simp] theorem okF_26 : okF Tryz.prog 26 = true := by kernel_rfl
@[simp] theorem okF_27 : okF Tryz.prog 27 = true := by kernel_rfl
@[simp] theorem okF_28 : okF Tryz.prog 28 = true := by kernel_rfl
@[simp] theorem okF_29 : okF Tryz.prog 29 = true := by kernel_rfl
@[simp] theorem okF_30 : okF Tryz.prog 30 = true := by kernel_rfl
@[simp] theorem okF_31 : okF Tryz.prog 31 = true := by kernel_rfl
@[simp] theorem okF_32 : okF Tryz.prog 32 = true := by kernel_rfl
@[simp] theorem okF_33 : okF Tryz.prog 33 = true := by kernel_rfl
@[simp] theorem okF_34 : okF Tryz.prog 34 = true := by kernel_rfl
@[simp] theorem okF_35 : okF Tryz.prog 35 = true := by kernel_rfl
@[simp] theorem okF_36 : okF Tryz.prog 36 = true := by kernel_rfl
@[simp] theorem okF_37 : okF Tryz.prog 37 = true := by kernel_rfl
@[simp] theorem okF_38 : okF Tryz.prog 38 = true := by kernel_rfl
@[simp] theorem okF_39 : okF Tryz.prog 39 = true := by kernel_rfl
@[simp] theorem okF_40 : okF Tryz.prog 40 = true := by kernel_rfl
@[simp] theorem okF_41 : okF Tryz.prog 41 = true := by kernel_rfl
@[simp] theorem okF_42 : okF Tryz.prog 42 = true := by kernel_rfl
@[simp] theorem okF_43 : okF Tryz.prog 43 = true := by kernel_rfl
@[simp] theorem okF_44 : okF Tryz.prog 44 = true := by kernel_rfl
@[simp] theorem okF_45 : okF Tryz.prog 45 = true := by kernel_rfl
@[simp] theorem okF_46 : okF Tryz.prog 46 = true := by kernel_rfl
@[simp] theorem okF_47 : okF Tryz.prog 47 = true := by kernel_rfl
@[simp] theorem okF_48 : okF Tryz.prog 48 = true := by kernel_rfl
@[simp] theorem okF_49 : okF Tryz.prog 49 = true := by kernel_rfl
@[simp] theorem okF_50 : okF Tryz.prog 50 = true := by kernel_rfl
@[simp] theorem okF_51 : okF Tryz.prog 51 = true := by kernel_rfl
@[simp] theorem okF_52 : okF Tryz.prog 52 = true := by kernel_rfl
@[simp] theorem okF_53 : okF Tryz.prog 53 = true := by kernel_rfl
@[simp] theorem okF_54 : okF Tryz.prog 54 = true := by kernel_rfl
@[simp] theorem okF_55 : okF Tryz.prog 55 = true := by kernel_rfl
@[simp] theorem okF_56 : okF Tryz.prog 56 = true := by kernel_rfl
@[simp] theorem okF_57 : okF Tryz.prog 57 = true := by kernel_rfl
@[simp] theorem okF_58 : okF Tryz.prog 58 = true := by kernel_rfl
@[simp] theorem okF_59 : okF Tryz.prog 59 = true := by kernel_rfl
@[simp] theorem okF_60 : okF Tryz.prog 60 = true := by kernel_rfl
@[simp] theorem okF_61 : okF Tryz.prog 61 = true := by kernel_rfl
@[simp] theorem okF_62 : okF Tryz.prog 62 = true := by kernel_rfl
@[simp] theorem okF_63 : okF Tryz.prog 63 = true := by kernel_rfl
@[simp] theorem okF_64 : okF Tryz.prog 64 = true := by kernel_rfl
@[simp] theorem okF_65 : okF Tryz.prog 65 = true := by kernel_rfl
@[simp] theorem okF_66 : okF Tryz.prog 66 = true := by kernel_rfl
@[simp] theorem okF_67 : okF Tryz.prog 67 = true := by kernel_rfl
@[simp] theorem okF_68 : okF Tryz.prog 68 = true := by kernel_rfl
@[simp] theorem okF_69 : okF Tryz.prog 69 = true := by kernel_rfl
@[simp] theorem okF_70 : okF Tryz.prog 70 = true := by kernel_rfl
@[simp] theorem okF_71 : okF Tryz.prog 71 = true := by kernel_rfl
@[simp] theorem okF_72 : okF Tryz.prog 72 = true := by kernel_rfl
@[simp] theorem okF_73 : okF Tryz.prog 73 = true := by kernel_rfl
@[simp] theorem okF_74 : okF Tryz.prog 74 = true := by kernel_rfl
@[simp] theorem okF_75 : okF Tryz.prog 75 = true := by kernel_rfl
@[simp] theorem okF_76 : okF Tryz.prog 76 = true := by kernel_rfl
@[simp] theorem okF_77 : okF Tryz.prog 77 = true := by kernel_rfl
@[simp] theorem okF_78 : okF Tryz.prog 78 = true := by kernel_rfl
@[simp] theorem okF_79 : okF Tryz.prog 79 = true := by kernel_rfl
@[simp] theorem okF_80 : okF Tryz.prog 80 = true := by kernel_rfl
@[simp] theorem okF_81 : okF Tryz.prog 81 = true := by kernel_rfl
@[simp] theorem okF_82 : okF Tryz.prog 82 = true := by kernel_rfl
@[simp] theorem okF_83 : okF Tryz.prog 83 = true := by kernel_rfl
@[simp] theorem okF_84 : okF Tryz.prog 84 = true := by kernel_rfl
@[simp] theorem okF_85 : okF Tryz.prog 85 = true := by kernel_rfl
@[simp] theorem okF_86 : okF Tryz.prog 86 = true := by kernel_rfl
@[simp] theorem okF_87 : okF Tryz.prog 87 = true := by kernel_rfl
@[simp] theorem okF_88 : okF Tryz.prog 88 = true := by kernel_rfl
@[simp] theorem okF_89 : okF Tryz.prog 89 = true := by kernel_rfl
@[simp] theorem okF_90 : okF Tryz.prog 90 = true := by kernel_rfl
@[simp] theorem okF_91 : okF Tryz.prog 91 = true := by kernel_rfl
@[simp] theorem okF_92 : okF Tryz.prog 92 = true := by kernel_rfl
@[simp] theorem okF_93 : okF Tryz.prog 93 = true := by kernel_rfl
@[simp] theorem okF_94 : okF Tryz.prog 94 = true := by kernel_rfl
@[simp] theorem okF_95 : okF Tryz.prog 95 = true := by kernel_rfl
@[simp] theorem okF_96 : okF Tryz.prog 96 = true := by kernel_rfl
@[simp] theorem okF_97 : okF Tryz.prog 97 = true := by kernel_rfl
@[simp] theorem okF_98 : okF Tryz.prog 98 = true := by kernel_rfl
@[simp] theorem okF_99 : okF Tryz.prog 99 = true := by kernel_rfl
@[simp] theorem okF_100 : okF Tryz.prog 100 = true := by kernel_rfl
@[simp] theorem okF_101 : okF Tryz.prog 101 = true := by kernel_rfl
@[simp] theorem okF_102 : okF Tryz.prog 102 = true := by kernel_rfl
@[simp] theorem okF_103 : okF Tryz.prog 103 = true := by kernel_rfl
@[simp] theorem okF_104 : okF Tryz.prog 104 = true := by kernel_rfl
@[simp] theorem okF_105 : okF Tryz.prog 105 = true := by kernel_rfl
@[simp] theorem okF_106 : okF Tryz.prog 106 = true := by kernel_rfl
@[simp] theorem okF_107 : okF Tryz.prog 107 = true := by kernel_rfl
@[simp] theorem okF_108 : okF Tryz.prog 108 = true := by kernel_rfl
@[simp] theorem okF_109 : okF Tryz.prog 109 = true := by kernel_rfl
@[simp] theorem okF_110 : okF Tryz.prog 110 = true := by kernel_rfl
@[simp] theorem okF_111 : okF Tryz.prog 111 = true := by kernel_rfl
@[simp] theorem okF_112 : okF Tryz.prog 112 = true := by kernel_rfl
@[simp] theorem okF_113 : okF Tryz.prog 113 = true := by kernel_rfl
@[simp] theorem okF_114 : okF Tryz.prog 114 = true := by kernel_rfl
end Go.Proofs.YtlfkighdmheniaaGreatDoor
