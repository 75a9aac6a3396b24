/- Closed facts on the program's types and functions, made by program: what the calculator asks of its tables. -/
import Derived.Test.YtfndoocgpmgalaaGreatDoorProg
import Derived.Test.YtfndoocgpmgalaaGreatDoorAh
import Derived.KernelRfl
namespace Go.Proofs.YtfndoocgpmgalaaGreatDoor
set_option maxRecDepth 100000
@[simp] theorem tk_7 : tk Tryz.prog 7 = some (true, 4) := by kernel_rfl
@[simp] theorem places_7 : places Tryz.prog 7 = some [(0, 1), (1, 1), (2, 1), (3, 1)] := by kernel_rfl
@[simp] theorem zvA_7 : zvA Tryz.prog 7 = some [AV.d (D.v (Value.int IntKind.i64 (0))), AV.d (D.v (Value.int IntKind.i64 (0))), AV.d (D.v (Value.bool false)), AV.d (D.v (Value.int IntKind.u8 (0)))] := by kernel_rfl
@[simp] theorem ar_7 : ar Tryz.prog 7 = none := by kernel_rfl
@[simp] theorem fo_7_0 : fo Tryz.prog 7 0 = some 0 := by kernel_rfl
@[simp] theorem ft_7_0 : ft Tryz.prog 7 0 = some (2, 0) := by kernel_rfl
@[simp] theorem fo_7_1 : fo Tryz.prog 7 1 = some 1 := by kernel_rfl
@[simp] theorem ft_7_1 : ft Tryz.prog 7 1 = some (3, 1) := by kernel_rfl
@[simp] theorem fo_7_2 : fo Tryz.prog 7 2 = some 2 := by kernel_rfl
@[simp] theorem ft_7_2 : ft Tryz.prog 7 2 = some (4, 2) := by kernel_rfl
@[simp] theorem fo_7_3 : fo Tryz.prog 7 3 = some 3 := by kernel_rfl
@[simp] theorem ft_7_3 : ft Tryz.prog 7 3 = some (6, 3) := by kernel_rfl
@[simp] theorem tk_8 : tk Tryz.prog 8 = some (true, 4) := by kernel_rfl
@[simp] theorem places_8 : places Tryz.prog 8 = some [(0, 1), (1, 1), (2, 1), (3, 1)] := by kernel_rfl
@[simp] theorem zvA_8 : zvA Tryz.prog 8 = some [AV.d (D.v (Value.int IntKind.i64 (0))), AV.d (D.v (Value.int IntKind.i64 (0))), AV.d (D.v (Value.bool false)), AV.d (D.v (Value.int IntKind.u8 (0)))] := by kernel_rfl
@[simp] theorem ar_8 : ar Tryz.prog 8 = none := by kernel_rfl
@[simp] theorem fo_8_0 : fo Tryz.prog 8 0 = some 0 := by kernel_rfl
@[simp] theorem ft_8_0 : ft Tryz.prog 8 0 = some (2, 0) := by kernel_rfl
@[simp] theorem fo_8_1 : fo Tryz.prog 8 1 = some 1 := by kernel_rfl
@[simp] theorem ft_8_1 : ft Tryz.prog 8 1 = some (3, 1) := by kernel_rfl
@[simp] theorem fo_8_2 : fo Tryz.prog 8 2 = some 2 := by kernel_rfl
@[simp] theorem ft_8_2 : ft Tryz.prog 8 2 = some (4, 2) := by kernel_rfl
@[simp] theorem fo_8_3 : fo Tryz.prog 8 3 = some 3 := by kernel_rfl
@[simp] theorem ft_8_3 : ft Tryz.prog 8 3 = some (6, 3) := by kernel_rfl
@[simp] theorem tk_13 : tk Tryz.prog 13 = some (true, 2) := by kernel_rfl
@[simp] theorem places_13 : places Tryz.prog 13 = some [(0, 1), (1, 1)] := by kernel_rfl
@[simp] theorem zvA_13 : zvA Tryz.prog 13 = some [AV.d (D.v (Value.string { data := #[] })), AV.d (D.v (Value.int IntKind.u64 (0)))] := by kernel_rfl
@[simp] theorem ar_13 : ar Tryz.prog 13 = none := by kernel_rfl
@[simp] theorem fo_13_0 : fo Tryz.prog 13 0 = some 0 := by kernel_rfl
@[simp] theorem ft_13_0 : ft Tryz.prog 13 0 = some (9, 0) := by kernel_rfl
@[simp] theorem fo_13_1 : fo Tryz.prog 13 1 = some 1 := by kernel_rfl
@[simp] theorem ft_13_1 : ft Tryz.prog 13 1 = some (12, 1) := by kernel_rfl
@[simp] theorem tk_14 : tk Tryz.prog 14 = some (true, 2) := by kernel_rfl
@[simp] theorem places_14 : places Tryz.prog 14 = some [(0, 1), (1, 1)] := by kernel_rfl
@[simp] theorem zvA_14 : zvA Tryz.prog 14 = some [AV.d (D.v (Value.string { data := #[] })), AV.d (D.v (Value.int IntKind.u64 (0)))] := by kernel_rfl
@[simp] theorem ar_14 : ar Tryz.prog 14 = none := by kernel_rfl
@[simp] theorem fo_14_0 : fo Tryz.prog 14 0 = some 0 := by kernel_rfl
@[simp] theorem ft_14_0 : ft Tryz.prog 14 0 = some (9, 0) := by kernel_rfl
@[simp] theorem fo_14_1 : fo Tryz.prog 14 1 = some 1 := by kernel_rfl
@[simp] theorem ft_14_1 : ft Tryz.prog 14 1 = some (12, 1) := by kernel_rfl
@[simp] theorem tk_18 : tk Tryz.prog 18 = some (true, 1) := by kernel_rfl
@[simp] theorem places_18 : places Tryz.prog 18 = some [(0, 1)] := by kernel_rfl
@[simp] theorem zvA_18 : zvA Tryz.prog 18 = some [AV.d (D.v (Value.pointer none))] := by kernel_rfl
@[simp] theorem ar_18 : ar Tryz.prog 18 = none := by kernel_rfl
@[simp] theorem fo_18_0 : fo Tryz.prog 18 0 = some 0 := by kernel_rfl
@[simp] theorem ft_18_0 : ft Tryz.prog 18 0 = some (17, 0) := by kernel_rfl
@[simp] theorem tk_19 : tk Tryz.prog 19 = some (true, 1) := by kernel_rfl
@[simp] theorem places_19 : places Tryz.prog 19 = some [(0, 1)] := by kernel_rfl
@[simp] theorem zvA_19 : zvA Tryz.prog 19 = some [AV.d (D.v (Value.pointer none))] := by kernel_rfl
@[simp] theorem ar_19 : ar Tryz.prog 19 = none := by kernel_rfl
@[simp] theorem fo_19_0 : fo Tryz.prog 19 0 = some 0 := by kernel_rfl
@[simp] theorem ft_19_0 : ft Tryz.prog 19 0 = some (17, 0) := by kernel_rfl
@[simp] theorem tk_24 : tk Tryz.prog 24 = some (true, 5) := by kernel_rfl
@[simp] theorem places_24 : places Tryz.prog 24 = some [(0, 1), (1, 1), (2, 1), (3, 1), (4, 1)] := by kernel_rfl
@[simp] theorem zvA_24 : zvA Tryz.prog 24 = some [AV.d (D.v (Value.int IntKind.i64 (0))), AV.d (D.v (Value.int IntKind.u32 (0))), AV.d (D.v (Value.int IntKind.i64 (0))), AV.d (D.v (Value.int IntKind.i64 (0))), AV.d (D.v (Value.slice none 0 0))] := by kernel_rfl
@[simp] theorem ar_24 : ar Tryz.prog 24 = none := by kernel_rfl
@[simp] theorem fo_24_0 : fo Tryz.prog 24 0 = some 0 := by kernel_rfl
@[simp] theorem ft_24_0 : ft Tryz.prog 24 0 = some (3, 0) := by kernel_rfl
@[simp] theorem fo_24_1 : fo Tryz.prog 24 1 = some 1 := by kernel_rfl
@[simp] theorem ft_24_1 : ft Tryz.prog 24 1 = some (22, 1) := by kernel_rfl
@[simp] theorem fo_24_2 : fo Tryz.prog 24 2 = some 2 := by kernel_rfl
@[simp] theorem ft_24_2 : ft Tryz.prog 24 2 = some (3, 2) := by kernel_rfl
@[simp] theorem fo_24_3 : fo Tryz.prog 24 3 = some 3 := by kernel_rfl
@[simp] theorem ft_24_3 : ft Tryz.prog 24 3 = some (3, 3) := by kernel_rfl
@[simp] theorem fo_24_4 : fo Tryz.prog 24 4 = some 4 := by kernel_rfl
@[simp] theorem ft_24_4 : ft Tryz.prog 24 4 = some (23, 4) := by kernel_rfl
@[simp] theorem tk_25 : tk Tryz.prog 25 = some (true, 5) := by kernel_rfl
@[simp] theorem places_25 : places Tryz.prog 25 = some [(0, 1), (1, 1), (2, 1), (3, 1), (4, 1)] := by kernel_rfl
@[simp] theorem zvA_25 : zvA Tryz.prog 25 = some [AV.d (D.v (Value.int IntKind.i64 (0))), AV.d (D.v (Value.int IntKind.u32 (0))), AV.d (D.v (Value.int IntKind.i64 (0))), AV.d (D.v (Value.int IntKind.i64 (0))), AV.d (D.v (Value.slice none 0 0))] := by kernel_rfl
@[simp] theorem ar_25 : ar Tryz.prog 25 = none := by kernel_rfl
@[simp] theorem fo_25_0 : fo Tryz.prog 25 0 = some 0 := by kernel_rfl
@[simp] theorem ft_25_0 : ft Tryz.prog 25 0 = some (3, 0) := by kernel_rfl
@[simp] theorem fo_25_1 : fo Tryz.prog 25 1 = some 1 := by kernel_rfl
@[simp] theorem ft_25_1 : ft Tryz.prog 25 1 = some (22, 1) := by kernel_rfl
@[simp] theorem fo_25_2 : fo Tryz.prog 25 2 = some 2 := by kernel_rfl
@[simp] theorem ft_25_2 : ft Tryz.prog 25 2 = some (3, 2) := by kernel_rfl
@[simp] theorem fo_25_3 : fo Tryz.prog 25 3 = some 3 := by kernel_rfl
@[simp] theorem ft_25_3 : ft Tryz.prog 25 3 = some (3, 3) := by kernel_rfl
@[simp] theorem fo_25_4 : fo Tryz.prog 25 4 = some 4 := by kernel_rfl
@[simp] theorem ft_25_4 : ft Tryz.prog 25 4 = some (23, 4) := by kernel_rfl
@[simp] theorem tk_34 : tk Tryz.prog 34 = some (true, 2) := by kernel_rfl
@[simp] theorem places_34 : places Tryz.prog 34 = some [(0, 1), (1, 1)] := by kernel_rfl
@[simp] theorem zvA_34 : zvA Tryz.prog 34 = some [AV.d (D.v (Value.int IntKind.u32 (0))), AV.d (D.v (Value.slice none 0 0))] := by kernel_rfl
@[simp] theorem ar_34 : ar Tryz.prog 34 = none := by kernel_rfl
@[simp] theorem fo_34_0 : fo Tryz.prog 34 0 = some 0 := by kernel_rfl
@[simp] theorem ft_34_0 : ft Tryz.prog 34 0 = some (22, 0) := by kernel_rfl
@[simp] theorem fo_34_1 : fo Tryz.prog 34 1 = some 1 := by kernel_rfl
@[simp] theorem ft_34_1 : ft Tryz.prog 34 1 = some (33, 1) := by kernel_rfl
@[simp] theorem tk_35 : tk Tryz.prog 35 = some (true, 2) := by kernel_rfl
@[simp] theorem places_35 : places Tryz.prog 35 = some [(0, 1), (1, 1)] := by kernel_rfl
@[simp] theorem zvA_35 : zvA Tryz.prog 35 = some [AV.d (D.v (Value.int IntKind.u32 (0))), AV.d (D.v (Value.slice none 0 0))] := by kernel_rfl
@[simp] theorem ar_35 : ar Tryz.prog 35 = none := by kernel_rfl
@[simp] theorem fo_35_0 : fo Tryz.prog 35 0 = some 0 := by kernel_rfl
@[simp] theorem ft_35_0 : ft Tryz.prog 35 0 = some (22, 0) := by kernel_rfl
@[simp] theorem fo_35_1 : fo Tryz.prog 35 1 = some 1 := by kernel_rfl
@[simp] theorem ft_35_1 : ft Tryz.prog 35 1 = some (33, 1) := by kernel_rfl
@[simp] theorem tk_46 : tk Tryz.prog 46 = some (true, 8) := by kernel_rfl
@[simp] theorem places_46 : places Tryz.prog 46 = some [(0, 1), (1, 1), (2, 1), (3, 1), (4, 1), (5, 1), (6, 1), (7, 1)] := by kernel_rfl
@[simp] theorem zvA_46 : zvA Tryz.prog 46 = some [AV.d (D.v (Value.int IntKind.i64 (0))), AV.d (D.v (Value.int IntKind.i64 (0))), AV.d (D.v (Value.int IntKind.i64 (0))), AV.d (D.v (Value.int IntKind.i64 (0))), AV.d (D.v (Value.int IntKind.i64 (0))), AV.d (D.v (Value.int IntKind.u32 (0))), AV.d (D.v (Value.slice none 0 0)), AV.d (D.v (Value.slice none 0 0))] := by kernel_rfl
@[simp] theorem ar_46 : ar Tryz.prog 46 = none := by kernel_rfl
@[simp] theorem fo_46_0 : fo Tryz.prog 46 0 = some 0 := by kernel_rfl
@[simp] theorem ft_46_0 : ft Tryz.prog 46 0 = some (3, 0) := by kernel_rfl
@[simp] theorem fo_46_1 : fo Tryz.prog 46 1 = some 1 := by kernel_rfl
@[simp] theorem ft_46_1 : ft Tryz.prog 46 1 = some (3, 1) := by kernel_rfl
@[simp] theorem fo_46_2 : fo Tryz.prog 46 2 = some 2 := by kernel_rfl
@[simp] theorem ft_46_2 : ft Tryz.prog 46 2 = some (3, 2) := by kernel_rfl
@[simp] theorem fo_46_3 : fo Tryz.prog 46 3 = some 3 := by kernel_rfl
@[simp] theorem ft_46_3 : ft Tryz.prog 46 3 = some (3, 3) := by kernel_rfl
@[simp] theorem fo_46_4 : fo Tryz.prog 46 4 = some 4 := by kernel_rfl
@[simp] theorem ft_46_4 : ft Tryz.prog 46 4 = some (3, 4) := by kernel_rfl
@[simp] theorem fo_46_5 : fo Tryz.prog 46 5 = some 5 := by kernel_rfl
@[simp] theorem ft_46_5 : ft Tryz.prog 46 5 = some (22, 5) := by kernel_rfl
@[simp] theorem fo_46_6 : fo Tryz.prog 46 6 = some 6 := by kernel_rfl
@[simp] theorem ft_46_6 : ft Tryz.prog 46 6 = some (23, 6) := by kernel_rfl
@[simp] theorem fo_46_7 : fo Tryz.prog 46 7 = some 7 := by kernel_rfl
@[simp] theorem ft_46_7 : ft Tryz.prog 46 7 = some (45, 7) := by kernel_rfl
@[simp] theorem tk_47 : tk Tryz.prog 47 = some (true, 8) := by kernel_rfl
@[simp] theorem places_47 : places Tryz.prog 47 = some [(0, 1), (1, 1), (2, 1), (3, 1), (4, 1), (5, 1), (6, 1), (7, 1)] := by kernel_rfl
@[simp] theorem zvA_47 : zvA Tryz.prog 47 = some [AV.d (D.v (Value.int IntKind.i64 (0))), AV.d (D.v (Value.int IntKind.i64 (0))), AV.d (D.v (Value.int IntKind.i64 (0))), AV.d (D.v (Value.int IntKind.i64 (0))), AV.d (D.v (Value.int IntKind.i64 (0))), AV.d (D.v (Value.int IntKind.u32 (0))), AV.d (D.v (Value.slice none 0 0)), AV.d (D.v (Value.slice none 0 0))] := by kernel_rfl
@[simp] theorem ar_47 : ar Tryz.prog 47 = none := by kernel_rfl
@[simp] theorem fo_47_0 : fo Tryz.prog 47 0 = some 0 := by kernel_rfl
@[simp] theorem ft_47_0 : ft Tryz.prog 47 0 = some (3, 0) := by kernel_rfl
@[simp] theorem fo_47_1 : fo Tryz.prog 47 1 = some 1 := by kernel_rfl
@[simp] theorem ft_47_1 : ft Tryz.prog 47 1 = some (3, 1) := by kernel_rfl
@[simp] theorem fo_47_2 : fo Tryz.prog 47 2 = some 2 := by kernel_rfl
@[simp] theorem ft_47_2 : ft Tryz.prog 47 2 = some (3, 2) := by kernel_rfl
@[simp] theorem fo_47_3 : fo Tryz.prog 47 3 = some 3 := by kernel_rfl
@[simp] theorem ft_47_3 : ft Tryz.prog 47 3 = some (3, 3) := by kernel_rfl
@[simp] theorem fo_47_4 : fo Tryz.prog 47 4 = some 4 := by kernel_rfl
@[simp] theorem ft_47_4 : ft Tryz.prog 47 4 = some (3, 4) := by kernel_rfl
@[simp] theorem fo_47_5 : fo Tryz.prog 47 5 = some 5 := by kernel_rfl
@[simp] theorem ft_47_5 : ft Tryz.prog 47 5 = some (22, 5) := by kernel_rfl
@[simp] theorem fo_47_6 : fo Tryz.prog 47 6 = some 6 := by kernel_rfl
@[simp] theorem ft_47_6 : ft Tryz.prog 47 6 = some (23, 6) := by kernel_rfl
@[simp] theorem fo_47_7 : fo Tryz.prog 47 7 = some 7 := by kernel_rfl
@[simp] theorem ft_47_7 : ft Tryz.prog 47 7 = some (45, 7) := by kernel_rfl
@[simp] theorem tk_49 : tk Tryz.prog 49 = some (true, 2) := by kernel_rfl
@[simp] theorem places_49 : places Tryz.prog 49 = some [(0, 1), (1, 1)] := by kernel_rfl
@[simp] theorem zvA_49 : zvA Tryz.prog 49 = some [AV.d (D.v (Value.int IntKind.u32 (0))), AV.d (D.v (Value.slice none 0 0))] := by kernel_rfl
@[simp] theorem ar_49 : ar Tryz.prog 49 = none := by kernel_rfl
@[simp] theorem fo_49_0 : fo Tryz.prog 49 0 = some 0 := by kernel_rfl
@[simp] theorem ft_49_0 : ft Tryz.prog 49 0 = some (22, 0) := by kernel_rfl
@[simp] theorem fo_49_1 : fo Tryz.prog 49 1 = some 1 := by kernel_rfl
@[simp] theorem ft_49_1 : ft Tryz.prog 49 1 = some (48, 1) := by kernel_rfl
@[simp] theorem tk_50 : tk Tryz.prog 50 = some (true, 2) := by kernel_rfl
@[simp] theorem places_50 : places Tryz.prog 50 = some [(0, 1), (1, 1)] := by kernel_rfl
@[simp] theorem zvA_50 : zvA Tryz.prog 50 = some [AV.d (D.v (Value.int IntKind.u32 (0))), AV.d (D.v (Value.slice none 0 0))] := by kernel_rfl
@[simp] theorem ar_50 : ar Tryz.prog 50 = none := by kernel_rfl
@[simp] theorem fo_50_0 : fo Tryz.prog 50 0 = some 0 := by kernel_rfl
@[simp] theorem ft_50_0 : ft Tryz.prog 50 0 = some (22, 0) := by kernel_rfl
@[simp] theorem fo_50_1 : fo Tryz.prog 50 1 = some 1 := by kernel_rfl
@[simp] theorem ft_50_1 : ft Tryz.prog 50 1 = some (48, 1) := by kernel_rfl
@[simp] theorem tk_94 : tk Tryz.prog 94 = some (true, 10) := by kernel_rfl
@[simp] theorem places_94 : places Tryz.prog 94 = some [(0, 5), (5, 5)] := by kernel_rfl
@[simp] theorem zvA_94 : zvA Tryz.prog 94 = some [AV.d (D.v (Value.int IntKind.i64 (0))), AV.d (D.v (Value.int IntKind.u32 (0))), AV.d (D.v (Value.int IntKind.i64 (0))), AV.d (D.v (Value.int IntKind.i64 (0))), AV.d (D.v (Value.slice none 0 0)), AV.d (D.v (Value.int IntKind.i64 (0))), AV.d (D.v (Value.int IntKind.u32 (0))), AV.d (D.v (Value.int IntKind.i64 (0))), AV.d (D.v (Value.int IntKind.i64 (0))), AV.d (D.v (Value.slice none 0 0))] := by kernel_rfl
@[simp] theorem ar_94 : ar Tryz.prog 94 = none := by kernel_rfl
@[simp] theorem fo_94_0 : fo Tryz.prog 94 0 = some 0 := by kernel_rfl
@[simp] theorem ft_94_0 : ft Tryz.prog 94 0 = some (25, 0) := by kernel_rfl
@[simp] theorem fo_94_1 : fo Tryz.prog 94 1 = some 5 := by kernel_rfl
@[simp] theorem ft_94_1 : ft Tryz.prog 94 1 = some (25, 5) := by kernel_rfl
@[simp] theorem tk_95 : tk Tryz.prog 95 = some (true, 10) := by kernel_rfl
@[simp] theorem places_95 : places Tryz.prog 95 = some [(0, 5), (5, 5)] := by kernel_rfl
@[simp] theorem zvA_95 : zvA Tryz.prog 95 = some [AV.d (D.v (Value.int IntKind.i64 (0))), AV.d (D.v (Value.int IntKind.u32 (0))), AV.d (D.v (Value.int IntKind.i64 (0))), AV.d (D.v (Value.int IntKind.i64 (0))), AV.d (D.v (Value.slice none 0 0)), AV.d (D.v (Value.int IntKind.i64 (0))), AV.d (D.v (Value.int IntKind.u32 (0))), AV.d (D.v (Value.int IntKind.i64 (0))), AV.d (D.v (Value.int IntKind.i64 (0))), AV.d (D.v (Value.slice none 0 0))] := by kernel_rfl
@[simp] theorem ar_95 : ar Tryz.prog 95 = none := by kernel_rfl
@[simp] theorem fo_95_0 : fo Tryz.prog 95 0 = some 0 := by kernel_rfl
@[simp] theorem ft_95_0 : ft Tryz.prog 95 0 = some (25, 0) := by kernel_rfl
@[simp] theorem fo_95_1 : fo Tryz.prog 95 1 = some 5 := by kernel_rfl
@[simp] theorem ft_95_1 : ft Tryz.prog 95 1 = some (25, 5) := by kernel_rfl
@[simp] theorem tk_125 : tk Tryz.prog 125 = some (true, 2) := by kernel_rfl
@[simp] theorem places_125 : places Tryz.prog 125 = some [(0, 1), (1, 1)] := by kernel_rfl
@[simp] theorem zvA_125 : zvA Tryz.prog 125 = some [AV.d (D.v (Value.pointer none)), AV.d (D.v (Value.slice none 0 0))] := by kernel_rfl
@[simp] theorem ar_125 : ar Tryz.prog 125 = none := by kernel_rfl
@[simp] theorem fo_125_0 : fo Tryz.prog 125 0 = some 0 := by kernel_rfl
@[simp] theorem ft_125_0 : ft Tryz.prog 125 0 = some (124, 0) := by kernel_rfl
@[simp] theorem fo_125_1 : fo Tryz.prog 125 1 = some 1 := by kernel_rfl
@[simp] theorem ft_125_1 : ft Tryz.prog 125 1 = some (111, 1) := by kernel_rfl
@[simp] theorem tk_126 : tk Tryz.prog 126 = some (true, 2) := by kernel_rfl
@[simp] theorem places_126 : places Tryz.prog 126 = some [(0, 1), (1, 1)] := by kernel_rfl
@[simp] theorem zvA_126 : zvA Tryz.prog 126 = some [AV.d (D.v (Value.pointer none)), AV.d (D.v (Value.slice none 0 0))] := by kernel_rfl
@[simp] theorem ar_126 : ar Tryz.prog 126 = none := by kernel_rfl
@[simp] theorem fo_126_0 : fo Tryz.prog 126 0 = some 0 := by kernel_rfl
@[simp] theorem ft_126_0 : ft Tryz.prog 126 0 = some (124, 0) := by kernel_rfl
@[simp] theorem fo_126_1 : fo Tryz.prog 126 1 = some 1 := by kernel_rfl
@[simp] theorem ft_126_1 : ft Tryz.prog 126 1 = some (111, 1) := by kernel_rfl
@[simp] theorem tk_169 : tk Tryz.prog 169 = some (true, 4) := by kernel_rfl
@[simp] theorem places_169 : places Tryz.prog 169 = some [(0, 1), (1, 1), (2, 1), (3, 1)] := by kernel_rfl
@[simp] theorem zvA_169 : zvA Tryz.prog 169 = some [AV.d (D.v (Value.pointer none)), AV.d (D.v (Value.pointer none)), AV.d (D.v (Value.pointer none)), AV.d (D.v (Value.string { data := #[] }))] := by kernel_rfl
@[simp] theorem ar_169 : ar Tryz.prog 169 = none := by kernel_rfl
@[simp] theorem fo_169_0 : fo Tryz.prog 169 0 = some 0 := by kernel_rfl
@[simp] theorem ft_169_0 : ft Tryz.prog 169 0 = some (17, 0) := by kernel_rfl
@[simp] theorem fo_169_1 : fo Tryz.prog 169 1 = some 1 := by kernel_rfl
@[simp] theorem ft_169_1 : ft Tryz.prog 169 1 = some (17, 1) := by kernel_rfl
@[simp] theorem fo_169_2 : fo Tryz.prog 169 2 = some 2 := by kernel_rfl
@[simp] theorem ft_169_2 : ft Tryz.prog 169 2 = some (17, 2) := by kernel_rfl
@[simp] theorem fo_169_3 : fo Tryz.prog 169 3 = some 3 := by kernel_rfl
@[simp] theorem ft_169_3 : ft Tryz.prog 169 3 = some (9, 3) := by kernel_rfl
@[simp] theorem tk_170 : tk Tryz.prog 170 = some (true, 4) := by kernel_rfl
@[simp] theorem places_170 : places Tryz.prog 170 = some [(0, 1), (1, 1), (2, 1), (3, 1)] := by kernel_rfl
@[simp] theorem zvA_170 : zvA Tryz.prog 170 = some [AV.d (D.v (Value.pointer none)), AV.d (D.v (Value.pointer none)), AV.d (D.v (Value.pointer none)), AV.d (D.v (Value.string { data := #[] }))] := by kernel_rfl
@[simp] theorem ar_170 : ar Tryz.prog 170 = none := by kernel_rfl
@[simp] theorem fo_170_0 : fo Tryz.prog 170 0 = some 0 := by kernel_rfl
@[simp] theorem ft_170_0 : ft Tryz.prog 170 0 = some (17, 0) := by kernel_rfl
@[simp] theorem fo_170_1 : fo Tryz.prog 170 1 = some 1 := by kernel_rfl
@[simp] theorem ft_170_1 : ft Tryz.prog 170 1 = some (17, 1) := by kernel_rfl
@[simp] theorem fo_170_2 : fo Tryz.prog 170 2 = some 2 := by kernel_rfl
@[simp] theorem ft_170_2 : ft Tryz.prog 170 2 = some (17, 2) := by kernel_rfl
@[simp] theorem fo_170_3 : fo Tryz.prog 170 3 = some 3 := by kernel_rfl
@[simp] theorem ft_170_3 : ft Tryz.prog 170 3 = some (9, 3) := by kernel_rfl
@[simp] theorem tk_172 : tk Tryz.prog 172 = some (true, 0) := by kernel_rfl
@[simp] theorem places_172 : places Tryz.prog 172 = some [(0, 0)] := by kernel_rfl
@[simp] theorem zvA_172 : zvA Tryz.prog 172 = some [] := by kernel_rfl
@[simp] theorem ar_172 : ar Tryz.prog 172 = none := by kernel_rfl
@[simp] theorem ft_172_0 : ft Tryz.prog 172 0 = some (171, 0) := by kernel_rfl
@[simp] theorem tk_173 : tk Tryz.prog 173 = some (true, 0) := by kernel_rfl
@[simp] theorem places_173 : places Tryz.prog 173 = some [(0, 0)] := by kernel_rfl
@[simp] theorem zvA_173 : zvA Tryz.prog 173 = some [] := by kernel_rfl
@[simp] theorem ar_173 : ar Tryz.prog 173 = none := by kernel_rfl
@[simp] theorem ft_173_0 : ft Tryz.prog 173 0 = some (171, 0) := by kernel_rfl
@[simp] theorem tk_180 : tk Tryz.prog 180 = some (true, 11) := by kernel_rfl
@[simp] theorem places_180 : places Tryz.prog 180 = some [(0, 1), (1, 1), (2, 1), (3, 1), (4, 1), (5, 1), (6, 1), (7, 1), (8, 1), (9, 1), (10, 1)] := by kernel_rfl
@[simp] theorem zvA_180 : zvA Tryz.prog 180 = some [AV.d (D.v (Value.int IntKind.u64 (0))), AV.d (D.v (Value.int IntKind.u64 (0))), AV.d (D.v (Value.int IntKind.u32 (0))), AV.d (D.v (Value.int IntKind.u8 (0))), AV.d (D.v (Value.int IntKind.u8 (0))), AV.d (D.v (Value.int IntKind.u8 (0))), AV.d (D.v (Value.int IntKind.u8 (0))), AV.d (D.v Value.nilFunc), AV.d (D.v (Value.pointer none)), AV.d (D.v (Value.int IntKind.i32 (0))), AV.d (D.v (Value.int IntKind.i32 (0)))] := by kernel_rfl
@[simp] theorem ar_180 : ar Tryz.prog 180 = none := by kernel_rfl
@[simp] theorem fo_180_0 : fo Tryz.prog 180 0 = some 0 := by kernel_rfl
@[simp] theorem ft_180_0 : ft Tryz.prog 180 0 = some (12, 0) := by kernel_rfl
@[simp] theorem fo_180_1 : fo Tryz.prog 180 1 = some 1 := by kernel_rfl
@[simp] theorem ft_180_1 : ft Tryz.prog 180 1 = some (12, 1) := by kernel_rfl
@[simp] theorem fo_180_2 : fo Tryz.prog 180 2 = some 2 := by kernel_rfl
@[simp] theorem ft_180_2 : ft Tryz.prog 180 2 = some (22, 2) := by kernel_rfl
@[simp] theorem fo_180_3 : fo Tryz.prog 180 3 = some 3 := by kernel_rfl
@[simp] theorem ft_180_3 : ft Tryz.prog 180 3 = some (175, 3) := by kernel_rfl
@[simp] theorem fo_180_4 : fo Tryz.prog 180 4 = some 4 := by kernel_rfl
@[simp] theorem ft_180_4 : ft Tryz.prog 180 4 = some (5, 4) := by kernel_rfl
@[simp] theorem fo_180_5 : fo Tryz.prog 180 5 = some 5 := by kernel_rfl
@[simp] theorem ft_180_5 : ft Tryz.prog 180 5 = some (5, 5) := by kernel_rfl
@[simp] theorem fo_180_6 : fo Tryz.prog 180 6 = some 6 := by kernel_rfl
@[simp] theorem ft_180_6 : ft Tryz.prog 180 6 = some (176, 6) := by kernel_rfl
@[simp] theorem fo_180_7 : fo Tryz.prog 180 7 = some 7 := by kernel_rfl
@[simp] theorem ft_180_7 : ft Tryz.prog 180 7 = some (177, 7) := by kernel_rfl
@[simp] theorem fo_180_8 : fo Tryz.prog 180 8 = some 8 := by kernel_rfl
@[simp] theorem ft_180_8 : ft Tryz.prog 180 8 = some (147, 8) := by kernel_rfl
@[simp] theorem fo_180_9 : fo Tryz.prog 180 9 = some 9 := by kernel_rfl
@[simp] theorem ft_180_9 : ft Tryz.prog 180 9 = some (178, 9) := by kernel_rfl
@[simp] theorem fo_180_10 : fo Tryz.prog 180 10 = some 10 := by kernel_rfl
@[simp] theorem ft_180_10 : ft Tryz.prog 180 10 = some (179, 10) := by kernel_rfl
@[simp] theorem tk_181 : tk Tryz.prog 181 = some (true, 11) := by kernel_rfl
@[simp] theorem places_181 : places Tryz.prog 181 = some [(0, 1), (1, 1), (2, 1), (3, 1), (4, 1), (5, 1), (6, 1), (7, 1), (8, 1), (9, 1), (10, 1)] := by kernel_rfl
@[simp] theorem zvA_181 : zvA Tryz.prog 181 = some [AV.d (D.v (Value.int IntKind.u64 (0))), AV.d (D.v (Value.int IntKind.u64 (0))), AV.d (D.v (Value.int IntKind.u32 (0))), AV.d (D.v (Value.int IntKind.u8 (0))), AV.d (D.v (Value.int IntKind.u8 (0))), AV.d (D.v (Value.int IntKind.u8 (0))), AV.d (D.v (Value.int IntKind.u8 (0))), AV.d (D.v Value.nilFunc), AV.d (D.v (Value.pointer none)), AV.d (D.v (Value.int IntKind.i32 (0))), AV.d (D.v (Value.int IntKind.i32 (0)))] := by kernel_rfl
@[simp] theorem ar_181 : ar Tryz.prog 181 = none := by kernel_rfl
@[simp] theorem fo_181_0 : fo Tryz.prog 181 0 = some 0 := by kernel_rfl
@[simp] theorem ft_181_0 : ft Tryz.prog 181 0 = some (12, 0) := by kernel_rfl
@[simp] theorem fo_181_1 : fo Tryz.prog 181 1 = some 1 := by kernel_rfl
@[simp] theorem ft_181_1 : ft Tryz.prog 181 1 = some (12, 1) := by kernel_rfl
@[simp] theorem fo_181_2 : fo Tryz.prog 181 2 = some 2 := by kernel_rfl
@[simp] theorem ft_181_2 : ft Tryz.prog 181 2 = some (22, 2) := by kernel_rfl
@[simp] theorem fo_181_3 : fo Tryz.prog 181 3 = some 3 := by kernel_rfl
@[simp] theorem ft_181_3 : ft Tryz.prog 181 3 = some (175, 3) := by kernel_rfl
@[simp] theorem fo_181_4 : fo Tryz.prog 181 4 = some 4 := by kernel_rfl
@[simp] theorem ft_181_4 : ft Tryz.prog 181 4 = some (5, 4) := by kernel_rfl
@[simp] theorem fo_181_5 : fo Tryz.prog 181 5 = some 5 := by kernel_rfl
@[simp] theorem ft_181_5 : ft Tryz.prog 181 5 = some (5, 5) := by kernel_rfl
@[simp] theorem fo_181_6 : fo Tryz.prog 181 6 = some 6 := by kernel_rfl
@[simp] theorem ft_181_6 : ft Tryz.prog 181 6 = some (176, 6) := by kernel_rfl
@[simp] theorem fo_181_7 : fo Tryz.prog 181 7 = some 7 := by kernel_rfl
@[simp] theorem ft_181_7 : ft Tryz.prog 181 7 = some (177, 7) := by kernel_rfl
@[simp] theorem fo_181_8 : fo Tryz.prog 181 8 = some 8 := by kernel_rfl
@[simp] theorem ft_181_8 : ft Tryz.prog 181 8 = some (147, 8) := by kernel_rfl
@[simp] theorem fo_181_9 : fo Tryz.prog 181 9 = some 9 := by kernel_rfl
@[simp] theorem ft_181_9 : ft Tryz.prog 181 9 = some (178, 9) := by kernel_rfl
@[simp] theorem fo_181_10 : fo Tryz.prog 181 10 = some 10 := by kernel_rfl
@[simp] theorem ft_181_10 : ft Tryz.prog 181 10 = some (179, 10) := by kernel_rfl
@[simp] theorem tk_120 : tk Tryz.prog 120 = some (true, 20) := by kernel_rfl
@[simp] theorem places_120 : places Tryz.prog 120 = none := by kernel_rfl
@[simp] theorem zvA_120 : zvA Tryz.prog 120 = some [AV.d (D.v (Value.int IntKind.i64 (0))), AV.d (D.v (Value.int IntKind.u32 (0))), AV.d (D.v (Value.int IntKind.i64 (0))), AV.d (D.v (Value.int IntKind.i64 (0))), AV.d (D.v (Value.slice none 0 0)), AV.d (D.v (Value.int IntKind.i64 (0))), AV.d (D.v (Value.int IntKind.u32 (0))), AV.d (D.v (Value.int IntKind.i64 (0))), AV.d (D.v (Value.int IntKind.i64 (0))), AV.d (D.v (Value.slice none 0 0)), AV.d (D.v (Value.int IntKind.i64 (0))), AV.d (D.v (Value.int IntKind.u32 (0))), AV.d (D.v (Value.int IntKind.i64 (0))), AV.d (D.v (Value.int IntKind.i64 (0))), AV.d (D.v (Value.slice none 0 0)), AV.d (D.v (Value.int IntKind.i64 (0))), AV.d (D.v (Value.int IntKind.u32 (0))), AV.d (D.v (Value.int IntKind.i64 (0))), AV.d (D.v (Value.int IntKind.i64 (0))), AV.d (D.v (Value.slice none 0 0))] := by kernel_rfl
@[simp] theorem ar_120 : ar Tryz.prog 120 = some (4, 25, 5) := by kernel_rfl
@[simp] theorem tk_132 : tk Tryz.prog 132 = some (true, 13) := by kernel_rfl
@[simp] theorem places_132 : places Tryz.prog 132 = none := by kernel_rfl
@[simp] theorem zvA_132 : zvA Tryz.prog 132 = some [AV.d (D.v (Value.string { data := #[] })), AV.d (D.v (Value.string { data := #[] })), AV.d (D.v (Value.string { data := #[] })), AV.d (D.v (Value.string { data := #[] })), AV.d (D.v (Value.string { data := #[] })), AV.d (D.v (Value.string { data := #[] })), AV.d (D.v (Value.string { data := #[] })), AV.d (D.v (Value.string { data := #[] })), AV.d (D.v (Value.string { data := #[] })), AV.d (D.v (Value.string { data := #[] })), AV.d (D.v (Value.string { data := #[] })), AV.d (D.v (Value.string { data := #[] })), AV.d (D.v (Value.string { data := #[] }))] := by kernel_rfl
@[simp] theorem ar_132 : ar Tryz.prog 132 = some (13, 9, 1) := by kernel_rfl
@[simp] theorem tk_144 : tk Tryz.prog 144 = some (true, 75) := by kernel_rfl
@[simp] theorem places_144 : places Tryz.prog 144 = none := by kernel_rfl
@[simp] theorem zvA_144 : zvA Tryz.prog 144 = some [AV.d (D.v (Value.int IntKind.i64 (0))), AV.d (D.v (Value.int IntKind.u32 (0))), AV.d (D.v (Value.int IntKind.i64 (0))), AV.d (D.v (Value.int IntKind.i64 (0))), AV.d (D.v (Value.slice none 0 0)), AV.d (D.v (Value.int IntKind.i64 (0))), AV.d (D.v (Value.int IntKind.u32 (0))), AV.d (D.v (Value.int IntKind.i64 (0))), AV.d (D.v (Value.int IntKind.i64 (0))), AV.d (D.v (Value.slice none 0 0)), AV.d (D.v (Value.int IntKind.i64 (0))), AV.d (D.v (Value.int IntKind.u32 (0))), AV.d (D.v (Value.int IntKind.i64 (0))), AV.d (D.v (Value.int IntKind.i64 (0))), AV.d (D.v (Value.slice none 0 0)), AV.d (D.v (Value.int IntKind.i64 (0))), AV.d (D.v (Value.int IntKind.u32 (0))), AV.d (D.v (Value.int IntKind.i64 (0))), AV.d (D.v (Value.int IntKind.i64 (0))), AV.d (D.v (Value.slice none 0 0)), AV.d (D.v (Value.int IntKind.i64 (0))), AV.d (D.v (Value.int IntKind.u32 (0))), AV.d (D.v (Value.int IntKind.i64 (0))), AV.d (D.v (Value.int IntKind.i64 (0))), AV.d (D.v (Value.slice none 0 0)), AV.d (D.v (Value.int IntKind.i64 (0))), AV.d (D.v (Value.int IntKind.u32 (0))), AV.d (D.v (Value.int IntKind.i64 (0))), AV.d (D.v (Value.int IntKind.i64 (0))), AV.d (D.v (Value.slice none 0 0)), AV.d (D.v (Value.int IntKind.i64 (0))), AV.d (D.v (Value.int IntKind.u32 (0))), AV.d (D.v (Value.int IntKind.i64 (0))), AV.d (D.v (Value.int IntKind.i64 (0))), AV.d (D.v (Value.slice none 0 0)), AV.d (D.v (Value.int IntKind.i64 (0))), AV.d (D.v (Value.int IntKind.u32 (0))), AV.d (D.v (Value.int IntKind.i64 (0))), AV.d (D.v (Value.int IntKind.i64 (0))), AV.d (D.v (Value.slice none 0 0)), AV.d (D.v (Value.int IntKind.i64 (0))), AV.d (D.v (Value.int IntKind.u32 (0))), AV.d (D.v (Value.int IntKind.i64 (0))), AV.d (D.v (Value.int IntKind.i64 (0))), AV.d (D.v (Value.slice none 0 0)), AV.d (D.v (Value.int IntKind.i64 (0))), AV.d (D.v (Value.int IntKind.u32 (0))), AV.d (D.v (Value.int IntKind.i64 (0))), AV.d (D.v (Value.int IntKind.i64 (0))), AV.d (D.v (Value.slice none 0 0)), AV.d (D.v (Value.int IntKind.i64 (0))), AV.d (D.v (Value.int IntKind.u32 (0))), AV.d (D.v (Value.int IntKind.i64 (0))), AV.d (D.v (Value.int IntKind.i64 (0))), AV.d (D.v (Value.slice none 0 0)), AV.d (D.v (Value.int IntKind.i64 (0))), AV.d (D.v (Value.int IntKind.u32 (0))), AV.d (D.v (Value.int IntKind.i64 (0))), AV.d (D.v (Value.int IntKind.i64 (0))), AV.d (D.v (Value.slice none 0 0)), AV.d (D.v (Value.int IntKind.i64 (0))), AV.d (D.v (Value.int IntKind.u32 (0))), AV.d (D.v (Value.int IntKind.i64 (0))), AV.d (D.v (Value.int IntKind.i64 (0))), AV.d (D.v (Value.slice none 0 0)), AV.d (D.v (Value.int IntKind.i64 (0))), AV.d (D.v (Value.int IntKind.u32 (0))), AV.d (D.v (Value.int IntKind.i64 (0))), AV.d (D.v (Value.int IntKind.i64 (0))), AV.d (D.v (Value.slice none 0 0)), AV.d (D.v (Value.int IntKind.i64 (0))), AV.d (D.v (Value.int IntKind.u32 (0))), AV.d (D.v (Value.int IntKind.i64 (0))), AV.d (D.v (Value.int IntKind.i64 (0))), AV.d (D.v (Value.slice none 0 0))] := by kernel_rfl
@[simp] theorem ar_144 : ar Tryz.prog 144 = some (15, 25, 5) := by kernel_rfl
@[simp] theorem tk_148 : tk Tryz.prog 148 = some (true, 24) := by kernel_rfl
@[simp] theorem places_148 : places Tryz.prog 148 = none := by kernel_rfl
@[simp] theorem zvA_148 : zvA Tryz.prog 148 = some [AV.d (D.v (Value.int IntKind.u8 (0))), AV.d (D.v (Value.int IntKind.u8 (0))), AV.d (D.v (Value.int IntKind.u8 (0))), AV.d (D.v (Value.int IntKind.u8 (0))), AV.d (D.v (Value.int IntKind.u8 (0))), AV.d (D.v (Value.int IntKind.u8 (0))), AV.d (D.v (Value.int IntKind.u8 (0))), AV.d (D.v (Value.int IntKind.u8 (0))), AV.d (D.v (Value.int IntKind.u8 (0))), AV.d (D.v (Value.int IntKind.u8 (0))), AV.d (D.v (Value.int IntKind.u8 (0))), AV.d (D.v (Value.int IntKind.u8 (0))), AV.d (D.v (Value.int IntKind.u8 (0))), AV.d (D.v (Value.int IntKind.u8 (0))), AV.d (D.v (Value.int IntKind.u8 (0))), AV.d (D.v (Value.int IntKind.u8 (0))), AV.d (D.v (Value.int IntKind.u8 (0))), AV.d (D.v (Value.int IntKind.u8 (0))), AV.d (D.v (Value.int IntKind.u8 (0))), AV.d (D.v (Value.int IntKind.u8 (0))), AV.d (D.v (Value.int IntKind.u8 (0))), AV.d (D.v (Value.int IntKind.u8 (0))), AV.d (D.v (Value.int IntKind.u8 (0))), AV.d (D.v (Value.int IntKind.u8 (0)))] := by kernel_rfl
@[simp] theorem ar_148 : ar Tryz.prog 148 = some (24, 5, 1) := by kernel_rfl
@[simp] theorem tk_162 : tk Tryz.prog 162 = some (true, 20) := by kernel_rfl
@[simp] theorem places_162 : places Tryz.prog 162 = none := by kernel_rfl
@[simp] theorem zvA_162 : zvA Tryz.prog 162 = some [AV.d (D.v (Value.int IntKind.u64 (0))), AV.d (D.v (Value.int IntKind.u64 (0))), AV.d (D.v (Value.int IntKind.u64 (0))), AV.d (D.v (Value.int IntKind.u64 (0))), AV.d (D.v (Value.int IntKind.u64 (0))), AV.d (D.v (Value.int IntKind.u64 (0))), AV.d (D.v (Value.int IntKind.u64 (0))), AV.d (D.v (Value.int IntKind.u64 (0))), AV.d (D.v (Value.int IntKind.u64 (0))), AV.d (D.v (Value.int IntKind.u64 (0))), AV.d (D.v (Value.int IntKind.u64 (0))), AV.d (D.v (Value.int IntKind.u64 (0))), AV.d (D.v (Value.int IntKind.u64 (0))), AV.d (D.v (Value.int IntKind.u64 (0))), AV.d (D.v (Value.int IntKind.u64 (0))), AV.d (D.v (Value.int IntKind.u64 (0))), AV.d (D.v (Value.int IntKind.u64 (0))), AV.d (D.v (Value.int IntKind.u64 (0))), AV.d (D.v (Value.int IntKind.u64 (0))), AV.d (D.v (Value.int IntKind.u64 (0)))] := by kernel_rfl
@[simp] theorem ar_162 : ar Tryz.prog 162 = some (20, 110, 1) := by kernel_rfl
@[simp] theorem tk_163 : tk Tryz.prog 163 = some (true, 65) := by kernel_rfl
@[simp] theorem places_163 : places Tryz.prog 163 = none := by kernel_rfl
@[simp] theorem zvA_163 : zvA Tryz.prog 163 = some [AV.d (D.v (Value.int IntKind.u8 (0))), AV.d (D.v (Value.int IntKind.u8 (0))), AV.d (D.v (Value.int IntKind.u8 (0))), AV.d (D.v (Value.int IntKind.u8 (0))), AV.d (D.v (Value.int IntKind.u8 (0))), AV.d (D.v (Value.int IntKind.u8 (0))), AV.d (D.v (Value.int IntKind.u8 (0))), AV.d (D.v (Value.int IntKind.u8 (0))), AV.d (D.v (Value.int IntKind.u8 (0))), AV.d (D.v (Value.int IntKind.u8 (0))), AV.d (D.v (Value.int IntKind.u8 (0))), AV.d (D.v (Value.int IntKind.u8 (0))), AV.d (D.v (Value.int IntKind.u8 (0))), AV.d (D.v (Value.int IntKind.u8 (0))), AV.d (D.v (Value.int IntKind.u8 (0))), AV.d (D.v (Value.int IntKind.u8 (0))), AV.d (D.v (Value.int IntKind.u8 (0))), AV.d (D.v (Value.int IntKind.u8 (0))), AV.d (D.v (Value.int IntKind.u8 (0))), AV.d (D.v (Value.int IntKind.u8 (0))), AV.d (D.v (Value.int IntKind.u8 (0))), AV.d (D.v (Value.int IntKind.u8 (0))), AV.d (D.v (Value.int IntKind.u8 (0))), AV.d (D.v (Value.int IntKind.u8 (0))), AV.d (D.v (Value.int IntKind.u8 (0))), AV.d (D.v (Value.int IntKind.u8 (0))), AV.d (D.v (Value.int IntKind.u8 (0))), AV.d (D.v (Value.int IntKind.u8 (0))), AV.d (D.v (Value.int IntKind.u8 (0))), AV.d (D.v (Value.int IntKind.u8 (0))), AV.d (D.v (Value.int IntKind.u8 (0))), AV.d (D.v (Value.int IntKind.u8 (0))), AV.d (D.v (Value.int IntKind.u8 (0))), AV.d (D.v (Value.int IntKind.u8 (0))), AV.d (D.v (Value.int IntKind.u8 (0))), AV.d (D.v (Value.int IntKind.u8 (0))), AV.d (D.v (Value.int IntKind.u8 (0))), AV.d (D.v (Value.int IntKind.u8 (0))), AV.d (D.v (Value.int IntKind.u8 (0))), AV.d (D.v (Value.int IntKind.u8 (0))), AV.d (D.v (Value.int IntKind.u8 (0))), AV.d (D.v (Value.int IntKind.u8 (0))), AV.d (D.v (Value.int IntKind.u8 (0))), AV.d (D.v (Value.int IntKind.u8 (0))), AV.d (D.v (Value.int IntKind.u8 (0))), AV.d (D.v (Value.int IntKind.u8 (0))), AV.d (D.v (Value.int IntKind.u8 (0))), AV.d (D.v (Value.int IntKind.u8 (0))), AV.d (D.v (Value.int IntKind.u8 (0))), AV.d (D.v (Value.int IntKind.u8 (0))), AV.d (D.v (Value.int IntKind.u8 (0))), AV.d (D.v (Value.int IntKind.u8 (0))), AV.d (D.v (Value.int IntKind.u8 (0))), AV.d (D.v (Value.int IntKind.u8 (0))), AV.d (D.v (Value.int IntKind.u8 (0))), AV.d (D.v (Value.int IntKind.u8 (0))), AV.d (D.v (Value.int IntKind.u8 (0))), AV.d (D.v (Value.int IntKind.u8 (0))), AV.d (D.v (Value.int IntKind.u8 (0))), AV.d (D.v (Value.int IntKind.u8 (0))), AV.d (D.v (Value.int IntKind.u8 (0))), AV.d (D.v (Value.int IntKind.u8 (0))), AV.d (D.v (Value.int IntKind.u8 (0))), AV.d (D.v (Value.int IntKind.u8 (0))), AV.d (D.v (Value.int IntKind.u8 (0)))] := by kernel_rfl
@[simp] theorem ar_163 : ar Tryz.prog 163 = some (65, 5, 1) := by kernel_rfl
@[simp] theorem tk_167 : tk Tryz.prog 167 = some (true, 32) := by kernel_rfl
@[simp] theorem places_167 : places Tryz.prog 167 = none := by kernel_rfl
@[simp] theorem zvA_167 : zvA Tryz.prog 167 = some [AV.d (D.v (Value.int IntKind.u8 (0))), AV.d (D.v (Value.int IntKind.u8 (0))), AV.d (D.v (Value.int IntKind.u8 (0))), AV.d (D.v (Value.int IntKind.u8 (0))), AV.d (D.v (Value.int IntKind.u8 (0))), AV.d (D.v (Value.int IntKind.u8 (0))), AV.d (D.v (Value.int IntKind.u8 (0))), AV.d (D.v (Value.int IntKind.u8 (0))), AV.d (D.v (Value.int IntKind.u8 (0))), AV.d (D.v (Value.int IntKind.u8 (0))), AV.d (D.v (Value.int IntKind.u8 (0))), AV.d (D.v (Value.int IntKind.u8 (0))), AV.d (D.v (Value.int IntKind.u8 (0))), AV.d (D.v (Value.int IntKind.u8 (0))), AV.d (D.v (Value.int IntKind.u8 (0))), AV.d (D.v (Value.int IntKind.u8 (0))), AV.d (D.v (Value.int IntKind.u8 (0))), AV.d (D.v (Value.int IntKind.u8 (0))), AV.d (D.v (Value.int IntKind.u8 (0))), AV.d (D.v (Value.int IntKind.u8 (0))), AV.d (D.v (Value.int IntKind.u8 (0))), AV.d (D.v (Value.int IntKind.u8 (0))), AV.d (D.v (Value.int IntKind.u8 (0))), AV.d (D.v (Value.int IntKind.u8 (0))), AV.d (D.v (Value.int IntKind.u8 (0))), AV.d (D.v (Value.int IntKind.u8 (0))), AV.d (D.v (Value.int IntKind.u8 (0))), AV.d (D.v (Value.int IntKind.u8 (0))), AV.d (D.v (Value.int IntKind.u8 (0))), AV.d (D.v (Value.int IntKind.u8 (0))), AV.d (D.v (Value.int IntKind.u8 (0))), AV.d (D.v (Value.int IntKind.u8 (0)))] := by kernel_rfl
@[simp] theorem ar_167 : ar Tryz.prog 167 = some (32, 5, 1) := by kernel_rfl
@[simp] theorem tk_168 : tk Tryz.prog 168 = some (true, 64) := by kernel_rfl
@[simp] theorem places_168 : places Tryz.prog 168 = none := by kernel_rfl
@[simp] theorem zvA_168 : zvA Tryz.prog 168 = some [AV.d (D.v (Value.int IntKind.u8 (0))), AV.d (D.v (Value.int IntKind.u8 (0))), AV.d (D.v (Value.int IntKind.u8 (0))), AV.d (D.v (Value.int IntKind.u8 (0))), AV.d (D.v (Value.int IntKind.u8 (0))), AV.d (D.v (Value.int IntKind.u8 (0))), AV.d (D.v (Value.int IntKind.u8 (0))), AV.d (D.v (Value.int IntKind.u8 (0))), AV.d (D.v (Value.int IntKind.u8 (0))), AV.d (D.v (Value.int IntKind.u8 (0))), AV.d (D.v (Value.int IntKind.u8 (0))), AV.d (D.v (Value.int IntKind.u8 (0))), AV.d (D.v (Value.int IntKind.u8 (0))), AV.d (D.v (Value.int IntKind.u8 (0))), AV.d (D.v (Value.int IntKind.u8 (0))), AV.d (D.v (Value.int IntKind.u8 (0))), AV.d (D.v (Value.int IntKind.u8 (0))), AV.d (D.v (Value.int IntKind.u8 (0))), AV.d (D.v (Value.int IntKind.u8 (0))), AV.d (D.v (Value.int IntKind.u8 (0))), AV.d (D.v (Value.int IntKind.u8 (0))), AV.d (D.v (Value.int IntKind.u8 (0))), AV.d (D.v (Value.int IntKind.u8 (0))), AV.d (D.v (Value.int IntKind.u8 (0))), AV.d (D.v (Value.int IntKind.u8 (0))), AV.d (D.v (Value.int IntKind.u8 (0))), AV.d (D.v (Value.int IntKind.u8 (0))), AV.d (D.v (Value.int IntKind.u8 (0))), AV.d (D.v (Value.int IntKind.u8 (0))), AV.d (D.v (Value.int IntKind.u8 (0))), AV.d (D.v (Value.int IntKind.u8 (0))), AV.d (D.v (Value.int IntKind.u8 (0))), AV.d (D.v (Value.int IntKind.u8 (0))), AV.d (D.v (Value.int IntKind.u8 (0))), AV.d (D.v (Value.int IntKind.u8 (0))), AV.d (D.v (Value.int IntKind.u8 (0))), AV.d (D.v (Value.int IntKind.u8 (0))), AV.d (D.v (Value.int IntKind.u8 (0))), AV.d (D.v (Value.int IntKind.u8 (0))), AV.d (D.v (Value.int IntKind.u8 (0))), AV.d (D.v (Value.int IntKind.u8 (0))), AV.d (D.v (Value.int IntKind.u8 (0))), AV.d (D.v (Value.int IntKind.u8 (0))), AV.d (D.v (Value.int IntKind.u8 (0))), AV.d (D.v (Value.int IntKind.u8 (0))), AV.d (D.v (Value.int IntKind.u8 (0))), AV.d (D.v (Value.int IntKind.u8 (0))), AV.d (D.v (Value.int IntKind.u8 (0))), AV.d (D.v (Value.int IntKind.u8 (0))), AV.d (D.v (Value.int IntKind.u8 (0))), AV.d (D.v (Value.int IntKind.u8 (0))), AV.d (D.v (Value.int IntKind.u8 (0))), AV.d (D.v (Value.int IntKind.u8 (0))), AV.d (D.v (Value.int IntKind.u8 (0))), AV.d (D.v (Value.int IntKind.u8 (0))), AV.d (D.v (Value.int IntKind.u8 (0))), AV.d (D.v (Value.int IntKind.u8 (0))), AV.d (D.v (Value.int IntKind.u8 (0))), AV.d (D.v (Value.int IntKind.u8 (0))), AV.d (D.v (Value.int IntKind.u8 (0))), AV.d (D.v (Value.int IntKind.u8 (0))), AV.d (D.v (Value.int IntKind.u8 (0))), AV.d (D.v (Value.int IntKind.u8 (0))), AV.d (D.v (Value.int IntKind.u8 (0)))] := by kernel_rfl
@[simp] theorem ar_168 : ar Tryz.prog 168 = some (64, 5, 1) := by kernel_rfl
@[simp] theorem tk_171 : tk Tryz.prog 171 = some (true, 0) := by kernel_rfl
@[simp] theorem places_171 : places Tryz.prog 171 = none := by kernel_rfl
@[simp] theorem zvA_171 : zvA Tryz.prog 171 = some [] := by kernel_rfl
@[simp] theorem ar_171 : ar Tryz.prog 171 = some (0, 16, 1) := by kernel_rfl
@[simp] theorem tk_23 : tk Tryz.prog 23 = some (false, 1) := by kernel_rfl
@[simp] theorem sl_23 : sl Tryz.prog 23 = some (25, 5) := by kernel_rfl
@[simp] theorem zvA_23 : zvA Tryz.prog 23 = some [AV.d (D.v (Value.slice none 0 0))] := by kernel_rfl
@[simp] theorem byt_23 : byt Tryz.prog 23 = some (25, 5, 56) := by kernel_rfl
@[simp] theorem tk_33 : tk Tryz.prog 33 = some (false, 1) := by kernel_rfl
@[simp] theorem sl_33 : sl Tryz.prog 33 = some (50, 2) := by kernel_rfl
@[simp] theorem zvA_33 : zvA Tryz.prog 33 = some [AV.d (D.v (Value.slice none 0 0))] := by kernel_rfl
@[simp] theorem byt_33 : byt Tryz.prog 33 = some (50, 2, 32) := by kernel_rfl
@[simp] theorem tk_45 : tk Tryz.prog 45 = some (false, 1) := by kernel_rfl
@[simp] theorem sl_45 : sl Tryz.prog 45 = some (3, 1) := by kernel_rfl
@[simp] theorem zvA_45 : zvA Tryz.prog 45 = some [AV.d (D.v (Value.slice none 0 0))] := by kernel_rfl
@[simp] theorem byt_45 : byt Tryz.prog 45 = some (3, 1, 8) := by kernel_rfl
@[simp] theorem tk_48 : tk Tryz.prog 48 = some (false, 1) := by kernel_rfl
@[simp] theorem sl_48 : sl Tryz.prog 48 = some (47, 8) := by kernel_rfl
@[simp] theorem zvA_48 : zvA Tryz.prog 48 = some [AV.d (D.v (Value.slice none 0 0))] := by kernel_rfl
@[simp] theorem byt_48 : byt Tryz.prog 48 = some (47, 8, 96) := by kernel_rfl
@[simp] theorem tk_107 : tk Tryz.prog 107 = some (false, 1) := by kernel_rfl
@[simp] theorem sl_107 : sl Tryz.prog 107 = some (9, 1) := by kernel_rfl
@[simp] theorem zvA_107 : zvA Tryz.prog 107 = some [AV.d (D.v (Value.slice none 0 0))] := by kernel_rfl
@[simp] theorem byt_107 : byt Tryz.prog 107 = some (9, 1, 16) := by kernel_rfl
@[simp] theorem tk_111 : tk Tryz.prog 111 = some (false, 1) := by kernel_rfl
@[simp] theorem sl_111 : sl Tryz.prog 111 = some (5, 1) := by kernel_rfl
@[simp] theorem zvA_111 : zvA Tryz.prog 111 = some [AV.d (D.v (Value.slice none 0 0))] := by kernel_rfl
@[simp] theorem byt_111 : byt Tryz.prog 111 = some (5, 1, 1) := by kernel_rfl
@[simp] theorem tk_2 : tk Tryz.prog 2 = some (false, 1) := by kernel_rfl
@[simp] theorem isInt_2 : isInt Tryz.prog 2 = some IntKind.i64 := by kernel_rfl
@[simp] theorem isStr_2 : isStr Tryz.prog 2 = false := by kernel_rfl
@[simp] theorem zvA_2 : zvA Tryz.prog 2 = some [AV.d (D.v (Value.int IntKind.i64 (0)))] := by kernel_rfl
@[simp] theorem tk_3 : tk Tryz.prog 3 = some (false, 1) := by kernel_rfl
@[simp] theorem isInt_3 : isInt Tryz.prog 3 = some IntKind.i64 := by kernel_rfl
@[simp] theorem isStr_3 : isStr Tryz.prog 3 = false := by kernel_rfl
@[simp] theorem zvA_3 : zvA Tryz.prog 3 = some [AV.d (D.v (Value.int IntKind.i64 (0)))] := by kernel_rfl
@[simp] theorem tk_4 : tk Tryz.prog 4 = some (false, 1) := by kernel_rfl
@[simp] theorem isInt_4 : isInt Tryz.prog 4 = none := by kernel_rfl
@[simp] theorem isStr_4 : isStr Tryz.prog 4 = false := by kernel_rfl
@[simp] theorem zvA_4 : zvA Tryz.prog 4 = some [AV.d (D.v (Value.bool false))] := by kernel_rfl
@[simp] theorem tk_5 : tk Tryz.prog 5 = some (false, 1) := by kernel_rfl
@[simp] theorem isInt_5 : isInt Tryz.prog 5 = some IntKind.u8 := by kernel_rfl
@[simp] theorem isStr_5 : isStr Tryz.prog 5 = false := by kernel_rfl
@[simp] theorem zvA_5 : zvA Tryz.prog 5 = some [AV.d (D.v (Value.int IntKind.u8 (0)))] := by kernel_rfl
@[simp] theorem tk_6 : tk Tryz.prog 6 = some (false, 1) := by kernel_rfl
@[simp] theorem isInt_6 : isInt Tryz.prog 6 = some IntKind.u8 := by kernel_rfl
@[simp] theorem isStr_6 : isStr Tryz.prog 6 = false := by kernel_rfl
@[simp] theorem zvA_6 : zvA Tryz.prog 6 = some [AV.d (D.v (Value.int IntKind.u8 (0)))] := by kernel_rfl
@[simp] theorem tk_9 : tk Tryz.prog 9 = some (false, 1) := by kernel_rfl
@[simp] theorem isInt_9 : isInt Tryz.prog 9 = none := by kernel_rfl
@[simp] theorem isStr_9 : isStr Tryz.prog 9 = true := by kernel_rfl
@[simp] theorem zvA_9 : zvA Tryz.prog 9 = some [AV.d (D.v (Value.string { data := #[] }))] := by kernel_rfl
@[simp] theorem tk_10 : tk Tryz.prog 10 = some (false, 1) := by kernel_rfl
@[simp] theorem isInt_10 : isInt Tryz.prog 10 = none := by kernel_rfl
@[simp] theorem isStr_10 : isStr Tryz.prog 10 = true := by kernel_rfl
@[simp] theorem zvA_10 : zvA Tryz.prog 10 = some [AV.d (D.v (Value.string { data := #[] }))] := by kernel_rfl
@[simp] theorem tk_11 : tk Tryz.prog 11 = some (false, 1) := by kernel_rfl
@[simp] theorem isInt_11 : isInt Tryz.prog 11 = none := by kernel_rfl
@[simp] theorem isStr_11 : isStr Tryz.prog 11 = true := by kernel_rfl
@[simp] theorem zvA_11 : zvA Tryz.prog 11 = some [AV.d (D.v (Value.string { data := #[] }))] := by kernel_rfl
@[simp] theorem tk_12 : tk Tryz.prog 12 = some (false, 1) := by kernel_rfl
@[simp] theorem isInt_12 : isInt Tryz.prog 12 = some IntKind.u64 := by kernel_rfl
@[simp] theorem isStr_12 : isStr Tryz.prog 12 = false := by kernel_rfl
@[simp] theorem zvA_12 : zvA Tryz.prog 12 = some [AV.d (D.v (Value.int IntKind.u64 (0)))] := by kernel_rfl
@[simp] theorem tk_21 : tk Tryz.prog 21 = some (false, 1) := by kernel_rfl
@[simp] theorem isInt_21 : isInt Tryz.prog 21 = some IntKind.i32 := by kernel_rfl
@[simp] theorem isStr_21 : isStr Tryz.prog 21 = false := by kernel_rfl
@[simp] theorem zvA_21 : zvA Tryz.prog 21 = some [AV.d (D.v (Value.int IntKind.i32 (0)))] := by kernel_rfl
@[simp] theorem tk_22 : tk Tryz.prog 22 = some (false, 1) := by kernel_rfl
@[simp] theorem isInt_22 : isInt Tryz.prog 22 = some IntKind.u32 := by kernel_rfl
@[simp] theorem isStr_22 : isStr Tryz.prog 22 = false := by kernel_rfl
@[simp] theorem zvA_22 : zvA Tryz.prog 22 = some [AV.d (D.v (Value.int IntKind.u32 (0)))] := by kernel_rfl
@[simp] theorem tk_27 : tk Tryz.prog 27 = some (false, 1) := by kernel_rfl
@[simp] theorem isInt_27 : isInt Tryz.prog 27 = some IntKind.i64 := by kernel_rfl
@[simp] theorem isStr_27 : isStr Tryz.prog 27 = false := by kernel_rfl
@[simp] theorem zvA_27 : zvA Tryz.prog 27 = some [AV.d (D.v (Value.int IntKind.i64 (0)))] := by kernel_rfl
@[simp] theorem tk_110 : tk Tryz.prog 110 = some (false, 1) := by kernel_rfl
@[simp] theorem isInt_110 : isInt Tryz.prog 110 = some IntKind.u64 := by kernel_rfl
@[simp] theorem isStr_110 : isStr Tryz.prog 110 = false := by kernel_rfl
@[simp] theorem zvA_110 : zvA Tryz.prog 110 = some [AV.d (D.v (Value.int IntKind.u64 (0)))] := by kernel_rfl
@[simp] theorem tk_114 : tk Tryz.prog 114 = some (false, 1) := by kernel_rfl
@[simp] theorem isInt_114 : isInt Tryz.prog 114 = some IntKind.u64 := by kernel_rfl
@[simp] theorem isStr_114 : isStr Tryz.prog 114 = false := by kernel_rfl
@[simp] theorem zvA_114 : zvA Tryz.prog 114 = some [AV.d (D.v (Value.int IntKind.u64 (0)))] := by kernel_rfl
@[simp] theorem tk_135 : tk Tryz.prog 135 = some (false, 1) := by kernel_rfl
@[simp] theorem isInt_135 : isInt Tryz.prog 135 = some IntKind.i64 := by kernel_rfl
@[simp] theorem isStr_135 : isStr Tryz.prog 135 = false := by kernel_rfl
@[simp] theorem zvA_135 : zvA Tryz.prog 135 = some [AV.d (D.v (Value.int IntKind.i64 (0)))] := by kernel_rfl
@[simp] theorem tk_152 : tk Tryz.prog 152 = some (false, 1) := by kernel_rfl
@[simp] theorem isInt_152 : isInt Tryz.prog 152 = some IntKind.u64 := by kernel_rfl
@[simp] theorem isStr_152 : isStr Tryz.prog 152 = false := by kernel_rfl
@[simp] theorem zvA_152 : zvA Tryz.prog 152 = some [AV.d (D.v (Value.int IntKind.u64 (0)))] := by kernel_rfl
@[simp] theorem tk_158 : tk Tryz.prog 158 = some (false, 1) := by kernel_rfl
@[simp] theorem isInt_158 : isInt Tryz.prog 158 = none := by kernel_rfl
@[simp] theorem isStr_158 : isStr Tryz.prog 158 = false := by kernel_rfl
@[simp] theorem zvA_158 : zvA Tryz.prog 158 = some [AV.d (D.v (Value.pointer none))] := by kernel_rfl
@[simp] theorem tk_175 : tk Tryz.prog 175 = some (false, 1) := by kernel_rfl
@[simp] theorem isInt_175 : isInt Tryz.prog 175 = some IntKind.u8 := by kernel_rfl
@[simp] theorem isStr_175 : isStr Tryz.prog 175 = false := by kernel_rfl
@[simp] theorem zvA_175 : zvA Tryz.prog 175 = some [AV.d (D.v (Value.int IntKind.u8 (0)))] := by kernel_rfl
@[simp] theorem tk_176 : tk Tryz.prog 176 = some (false, 1) := by kernel_rfl
@[simp] theorem isInt_176 : isInt Tryz.prog 176 = some IntKind.u8 := by kernel_rfl
@[simp] theorem isStr_176 : isStr Tryz.prog 176 = false := by kernel_rfl
@[simp] theorem zvA_176 : zvA Tryz.prog 176 = some [AV.d (D.v (Value.int IntKind.u8 (0)))] := by kernel_rfl
@[simp] theorem tk_178 : tk Tryz.prog 178 = some (false, 1) := by kernel_rfl
@[simp] theorem isInt_178 : isInt Tryz.prog 178 = some IntKind.i32 := by kernel_rfl
@[simp] theorem isStr_178 : isStr Tryz.prog 178 = false := by kernel_rfl
@[simp] theorem zvA_178 : zvA Tryz.prog 178 = some [AV.d (D.v (Value.int IntKind.i32 (0)))] := by kernel_rfl
@[simp] theorem tk_179 : tk Tryz.prog 179 = some (false, 1) := by kernel_rfl
@[simp] theorem isInt_179 : isInt Tryz.prog 179 = some IntKind.i32 := by kernel_rfl
@[simp] theorem isStr_179 : isStr Tryz.prog 179 = false := by kernel_rfl
@[simp] theorem zvA_179 : zvA Tryz.prog 179 = some [AV.d (D.v (Value.int IntKind.i32 (0)))] := by kernel_rfl
@[simp] theorem tk_1 : tk Tryz.prog 1 = some (false, 1) := by kernel_rfl
@[simp] theorem zvA_1 : zvA Tryz.prog 1 = some [AV.d (D.v Value.nilFunc)] := by kernel_rfl
@[simp] theorem tk_15 : tk Tryz.prog 15 = some (false, 1) := by kernel_rfl
@[simp] theorem zvA_15 : zvA Tryz.prog 15 = some [AV.d (D.v (Value.pointer none))] := by kernel_rfl
@[simp] theorem tk_16 : tk Tryz.prog 16 = some (false, 1) := by kernel_rfl
@[simp] theorem zvA_16 : zvA Tryz.prog 16 = some [AV.d (D.v (Value.pointer none))] := by kernel_rfl
@[simp] theorem tk_17 : tk Tryz.prog 17 = some (false, 1) := by kernel_rfl
@[simp] theorem zvA_17 : zvA Tryz.prog 17 = some [AV.d (D.v (Value.pointer none))] := by kernel_rfl
@[simp] theorem tk_20 : tk Tryz.prog 20 = some (false, 1) := by kernel_rfl
@[simp] theorem zvA_20 : zvA Tryz.prog 20 = some [AV.d (D.v Value.nilIface)] := by kernel_rfl
@[simp] theorem tk_26 : tk Tryz.prog 26 = some (false, 1) := by kernel_rfl
@[simp] theorem zvA_26 : zvA Tryz.prog 26 = some [AV.d (D.v Value.nilFunc)] := by kernel_rfl
@[simp] theorem tk_28 : tk Tryz.prog 28 = some (false, 1) := by kernel_rfl
@[simp] theorem zvA_28 : zvA Tryz.prog 28 = some [AV.d (D.v Value.nilFunc)] := by kernel_rfl
@[simp] theorem tk_29 : tk Tryz.prog 29 = some (false, 1) := by kernel_rfl
@[simp] theorem zvA_29 : zvA Tryz.prog 29 = some [AV.d (D.v Value.nilFunc)] := by kernel_rfl
@[simp] theorem tk_30 : tk Tryz.prog 30 = some (false, 1) := by kernel_rfl
@[simp] theorem zvA_30 : zvA Tryz.prog 30 = some [AV.d (D.v Value.nilFunc)] := by kernel_rfl
@[simp] theorem tk_31 : tk Tryz.prog 31 = some (false, 1) := by kernel_rfl
@[simp] theorem zvA_31 : zvA Tryz.prog 31 = some [AV.d (D.v Value.nilFunc)] := by kernel_rfl
@[simp] theorem tk_32 : tk Tryz.prog 32 = some (false, 1) := by kernel_rfl
@[simp] theorem zvA_32 : zvA Tryz.prog 32 = some [AV.d (D.v Value.nilFunc)] := by kernel_rfl
@[simp] theorem tk_36 : tk Tryz.prog 36 = some (false, 1) := by kernel_rfl
@[simp] theorem zvA_36 : zvA Tryz.prog 36 = some [AV.d (D.v Value.nilFunc)] := by kernel_rfl
@[simp] theorem tk_37 : tk Tryz.prog 37 = some (false, 1) := by kernel_rfl
@[simp] theorem zvA_37 : zvA Tryz.prog 37 = some [AV.d (D.v Value.nilFunc)] := by kernel_rfl
@[simp] theorem tk_38 : tk Tryz.prog 38 = some (false, 1) := by kernel_rfl
@[simp] theorem zvA_38 : zvA Tryz.prog 38 = some [AV.d (D.v Value.nilFunc)] := by kernel_rfl
@[simp] theorem tk_39 : tk Tryz.prog 39 = some (false, 1) := by kernel_rfl
@[simp] theorem zvA_39 : zvA Tryz.prog 39 = some [AV.d (D.v Value.nilFunc)] := by kernel_rfl
@[simp] theorem tk_40 : tk Tryz.prog 40 = some (false, 1) := by kernel_rfl
@[simp] theorem zvA_40 : zvA Tryz.prog 40 = some [AV.d (D.v Value.nilFunc)] := by kernel_rfl
@[simp] theorem tk_41 : tk Tryz.prog 41 = some (false, 1) := by kernel_rfl
@[simp] theorem zvA_41 : zvA Tryz.prog 41 = some [AV.d (D.v Value.nilFunc)] := by kernel_rfl
@[simp] theorem tk_42 : tk Tryz.prog 42 = some (false, 1) := by kernel_rfl
@[simp] theorem zvA_42 : zvA Tryz.prog 42 = some [AV.d (D.v Value.nilFunc)] := by kernel_rfl
@[simp] theorem tk_43 : tk Tryz.prog 43 = some (false, 1) := by kernel_rfl
@[simp] theorem zvA_43 : zvA Tryz.prog 43 = some [AV.d (D.v Value.nilFunc)] := by kernel_rfl
@[simp] theorem tk_44 : tk Tryz.prog 44 = some (false, 1) := by kernel_rfl
@[simp] theorem zvA_44 : zvA Tryz.prog 44 = some [AV.d (D.v Value.nilFunc)] := by kernel_rfl
@[simp] theorem tk_51 : tk Tryz.prog 51 = some (false, 1) := by kernel_rfl
@[simp] theorem zvA_51 : zvA Tryz.prog 51 = some [AV.d (D.v Value.nilFunc)] := by kernel_rfl
@[simp] theorem tk_52 : tk Tryz.prog 52 = some (false, 1) := by kernel_rfl
@[simp] theorem zvA_52 : zvA Tryz.prog 52 = some [AV.d (D.v Value.nilFunc)] := by kernel_rfl
@[simp] theorem tk_53 : tk Tryz.prog 53 = some (false, 1) := by kernel_rfl
@[simp] theorem zvA_53 : zvA Tryz.prog 53 = some [AV.d (D.v Value.nilFunc)] := by kernel_rfl
@[simp] theorem tk_54 : tk Tryz.prog 54 = some (false, 1) := by kernel_rfl
@[simp] theorem zvA_54 : zvA Tryz.prog 54 = some [AV.d (D.v Value.nilFunc)] := by kernel_rfl
@[simp] theorem tk_55 : tk Tryz.prog 55 = some (false, 1) := by kernel_rfl
@[simp] theorem zvA_55 : zvA Tryz.prog 55 = some [AV.d (D.v Value.nilFunc)] := by kernel_rfl
@[simp] theorem tk_56 : tk Tryz.prog 56 = some (false, 1) := by kernel_rfl
@[simp] theorem zvA_56 : zvA Tryz.prog 56 = some [AV.d (D.v Value.nilFunc)] := by kernel_rfl
@[simp] theorem tk_57 : tk Tryz.prog 57 = some (false, 1) := by kernel_rfl
@[simp] theorem zvA_57 : zvA Tryz.prog 57 = some [AV.d (D.v Value.nilFunc)] := by kernel_rfl
@[simp] theorem tk_58 : tk Tryz.prog 58 = some (false, 1) := by kernel_rfl
@[simp] theorem zvA_58 : zvA Tryz.prog 58 = some [AV.d (D.v Value.nilFunc)] := by kernel_rfl
@[simp] theorem tk_59 : tk Tryz.prog 59 = some (false, 1) := by kernel_rfl
@[simp] theorem zvA_59 : zvA Tryz.prog 59 = some [AV.d (D.v Value.nilFunc)] := by kernel_rfl
@[simp] theorem tk_60 : tk Tryz.prog 60 = some (false, 1) := by kernel_rfl
@[simp] theorem zvA_60 : zvA Tryz.prog 60 = some [AV.d (D.v Value.nilFunc)] := by kernel_rfl
@[simp] theorem tk_61 : tk Tryz.prog 61 = some (false, 1) := by kernel_rfl
@[simp] theorem zvA_61 : zvA Tryz.prog 61 = some [AV.d (D.v Value.nilFunc)] := by kernel_rfl
@[simp] theorem tk_63 : tk Tryz.prog 63 = some (false, 1) := by kernel_rfl
@[simp] theorem zvA_63 : zvA Tryz.prog 63 = some [AV.d (D.v Value.nilFunc)] := by kernel_rfl
@[simp] theorem tk_64 : tk Tryz.prog 64 = some (false, 1) := by kernel_rfl
@[simp] theorem zvA_64 : zvA Tryz.prog 64 = some [AV.d (D.v Value.nilFunc)] := by kernel_rfl
@[simp] theorem tk_65 : tk Tryz.prog 65 = some (false, 1) := by kernel_rfl
@[simp] theorem zvA_65 : zvA Tryz.prog 65 = some [AV.d (D.v Value.nilFunc)] := by kernel_rfl
@[simp] theorem tk_66 : tk Tryz.prog 66 = some (false, 1) := by kernel_rfl
@[simp] theorem zvA_66 : zvA Tryz.prog 66 = some [AV.d (D.v Value.nilFunc)] := by kernel_rfl
@[simp] theorem tk_67 : tk Tryz.prog 67 = some (false, 1) := by kernel_rfl
@[simp] theorem zvA_67 : zvA Tryz.prog 67 = some [AV.d (D.v Value.nilFunc)] := by kernel_rfl
@[simp] theorem tk_69 : tk Tryz.prog 69 = some (false, 1) := by kernel_rfl
@[simp] theorem zvA_69 : zvA Tryz.prog 69 = some [AV.d (D.v Value.nilFunc)] := by kernel_rfl
@[simp] theorem tk_70 : tk Tryz.prog 70 = some (false, 1) := by kernel_rfl
@[simp] theorem zvA_70 : zvA Tryz.prog 70 = some [AV.d (D.v Value.nilFunc)] := by kernel_rfl
@[simp] theorem tk_71 : tk Tryz.prog 71 = some (false, 1) := by kernel_rfl
@[simp] theorem zvA_71 : zvA Tryz.prog 71 = some [AV.d (D.v Value.nilFunc)] := by kernel_rfl
@[simp] theorem tk_72 : tk Tryz.prog 72 = some (false, 1) := by kernel_rfl
@[simp] theorem zvA_72 : zvA Tryz.prog 72 = some [AV.d (D.v Value.nilFunc)] := by kernel_rfl
@[simp] theorem tk_73 : tk Tryz.prog 73 = some (false, 1) := by kernel_rfl
@[simp] theorem zvA_73 : zvA Tryz.prog 73 = some [AV.d (D.v Value.nilFunc)] := by kernel_rfl
@[simp] theorem tk_74 : tk Tryz.prog 74 = some (false, 1) := by kernel_rfl
@[simp] theorem zvA_74 : zvA Tryz.prog 74 = some [AV.d (D.v Value.nilFunc)] := by kernel_rfl
@[simp] theorem tk_75 : tk Tryz.prog 75 = some (false, 1) := by kernel_rfl
@[simp] theorem zvA_75 : zvA Tryz.prog 75 = some [AV.d (D.v Value.nilFunc)] := by kernel_rfl
@[simp] theorem tk_76 : tk Tryz.prog 76 = some (false, 1) := by kernel_rfl
@[simp] theorem zvA_76 : zvA Tryz.prog 76 = some [AV.d (D.v Value.nilFunc)] := by kernel_rfl
@[simp] theorem tk_77 : tk Tryz.prog 77 = some (false, 1) := by kernel_rfl
@[simp] theorem zvA_77 : zvA Tryz.prog 77 = some [AV.d (D.v Value.nilFunc)] := by kernel_rfl
@[simp] theorem tk_78 : tk Tryz.prog 78 = some (false, 1) := by kernel_rfl
@[simp] theorem zvA_78 : zvA Tryz.prog 78 = some [AV.d (D.v Value.nilFunc)] := by kernel_rfl
@[simp] theorem tk_79 : tk Tryz.prog 79 = some (false, 1) := by kernel_rfl
@[simp] theorem zvA_79 : zvA Tryz.prog 79 = some [AV.d (D.v Value.nilFunc)] := by kernel_rfl
@[simp] theorem tk_80 : tk Tryz.prog 80 = some (false, 1) := by kernel_rfl
@[simp] theorem zvA_80 : zvA Tryz.prog 80 = some [AV.d (D.v Value.nilFunc)] := by kernel_rfl
@[simp] theorem tk_81 : tk Tryz.prog 81 = some (false, 1) := by kernel_rfl
@[simp] theorem zvA_81 : zvA Tryz.prog 81 = some [AV.d (D.v Value.nilFunc)] := by kernel_rfl
@[simp] theorem tk_82 : tk Tryz.prog 82 = some (false, 1) := by kernel_rfl
@[simp] theorem zvA_82 : zvA Tryz.prog 82 = some [AV.d (D.v Value.nilFunc)] := by kernel_rfl
@[simp] theorem tk_83 : tk Tryz.prog 83 = some (false, 1) := by kernel_rfl
@[simp] theorem zvA_83 : zvA Tryz.prog 83 = some [AV.d (D.v Value.nilFunc)] := by kernel_rfl
@[simp] theorem tk_84 : tk Tryz.prog 84 = some (false, 1) := by kernel_rfl
@[simp] theorem zvA_84 : zvA Tryz.prog 84 = some [AV.d (D.v Value.nilFunc)] := by kernel_rfl
@[simp] theorem tk_85 : tk Tryz.prog 85 = some (false, 1) := by kernel_rfl
@[simp] theorem zvA_85 : zvA Tryz.prog 85 = some [AV.d (D.v Value.nilFunc)] := by kernel_rfl
@[simp] theorem tk_86 : tk Tryz.prog 86 = some (false, 1) := by kernel_rfl
@[simp] theorem zvA_86 : zvA Tryz.prog 86 = some [AV.d (D.v Value.nilFunc)] := by kernel_rfl
@[simp] theorem tk_87 : tk Tryz.prog 87 = some (false, 1) := by kernel_rfl
@[simp] theorem zvA_87 : zvA Tryz.prog 87 = some [AV.d (D.v Value.nilFunc)] := by kernel_rfl
@[simp] theorem tk_89 : tk Tryz.prog 89 = some (false, 1) := by kernel_rfl
@[simp] theorem zvA_89 : zvA Tryz.prog 89 = some [AV.d (D.v Value.nilFunc)] := by kernel_rfl
@[simp] theorem tk_90 : tk Tryz.prog 90 = some (false, 1) := by kernel_rfl
@[simp] theorem zvA_90 : zvA Tryz.prog 90 = some [AV.d (D.v Value.nilFunc)] := by kernel_rfl
@[simp] theorem tk_91 : tk Tryz.prog 91 = some (false, 1) := by kernel_rfl
@[simp] theorem zvA_91 : zvA Tryz.prog 91 = some [AV.d (D.v Value.nilFunc)] := by kernel_rfl
@[simp] theorem tk_92 : tk Tryz.prog 92 = some (false, 1) := by kernel_rfl
@[simp] theorem zvA_92 : zvA Tryz.prog 92 = some [AV.d (D.v Value.nilFunc)] := by kernel_rfl
@[simp] theorem tk_93 : tk Tryz.prog 93 = some (false, 1) := by kernel_rfl
@[simp] theorem zvA_93 : zvA Tryz.prog 93 = some [AV.d (D.v Value.nilFunc)] := by kernel_rfl
@[simp] theorem tk_97 : tk Tryz.prog 97 = some (false, 1) := by kernel_rfl
@[simp] theorem zvA_97 : zvA Tryz.prog 97 = some [AV.d (D.v Value.nilFunc)] := by kernel_rfl
@[simp] theorem tk_98 : tk Tryz.prog 98 = some (false, 1) := by kernel_rfl
@[simp] theorem zvA_98 : zvA Tryz.prog 98 = some [AV.d (D.v Value.nilFunc)] := by kernel_rfl
@[simp] theorem tk_100 : tk Tryz.prog 100 = some (false, 1) := by kernel_rfl
@[simp] theorem zvA_100 : zvA Tryz.prog 100 = some [AV.d (D.v Value.nilFunc)] := by kernel_rfl
@[simp] theorem tk_101 : tk Tryz.prog 101 = some (false, 1) := by kernel_rfl
@[simp] theorem zvA_101 : zvA Tryz.prog 101 = some [AV.d (D.v Value.nilFunc)] := by kernel_rfl
@[simp] theorem tk_102 : tk Tryz.prog 102 = some (false, 1) := by kernel_rfl
@[simp] theorem zvA_102 : zvA Tryz.prog 102 = some [AV.d (D.v Value.nilFunc)] := by kernel_rfl
@[simp] theorem tk_103 : tk Tryz.prog 103 = some (false, 1) := by kernel_rfl
@[simp] theorem zvA_103 : zvA Tryz.prog 103 = some [AV.d (D.v Value.nilFunc)] := by kernel_rfl
@[simp] theorem tk_104 : tk Tryz.prog 104 = some (false, 1) := by kernel_rfl
@[simp] theorem zvA_104 : zvA Tryz.prog 104 = some [AV.d (D.v Value.nilFunc)] := by kernel_rfl
@[simp] theorem tk_105 : tk Tryz.prog 105 = some (false, 1) := by kernel_rfl
@[simp] theorem zvA_105 : zvA Tryz.prog 105 = some [AV.d (D.v Value.nilFunc)] := by kernel_rfl
@[simp] theorem tk_106 : tk Tryz.prog 106 = some (false, 1) := by kernel_rfl
@[simp] theorem zvA_106 : zvA Tryz.prog 106 = some [AV.d (D.v Value.nilFunc)] := by kernel_rfl
@[simp] theorem tk_108 : tk Tryz.prog 108 = some (false, 1) := by kernel_rfl
@[simp] theorem zvA_108 : zvA Tryz.prog 108 = some [AV.d (D.v Value.nilFunc)] := by kernel_rfl
@[simp] theorem tk_109 : tk Tryz.prog 109 = some (false, 1) := by kernel_rfl
@[simp] theorem zvA_109 : zvA Tryz.prog 109 = some [AV.d (D.v Value.nilFunc)] := by kernel_rfl
@[simp] theorem tk_112 : tk Tryz.prog 112 = some (false, 1) := by kernel_rfl
@[simp] theorem zvA_112 : zvA Tryz.prog 112 = some [AV.d (D.v Value.nilFunc)] := by kernel_rfl
@[simp] theorem tk_113 : tk Tryz.prog 113 = some (false, 1) := by kernel_rfl
@[simp] theorem zvA_113 : zvA Tryz.prog 113 = some [AV.d (D.v Value.nilFunc)] := by kernel_rfl
@[simp] theorem tk_115 : tk Tryz.prog 115 = some (false, 1) := by kernel_rfl
@[simp] theorem zvA_115 : zvA Tryz.prog 115 = some [AV.d (D.v Value.nilFunc)] := by kernel_rfl
@[simp] theorem tk_116 : tk Tryz.prog 116 = some (false, 1) := by kernel_rfl
@[simp] theorem zvA_116 : zvA Tryz.prog 116 = some [AV.d (D.v Value.nilFunc)] := by kernel_rfl
@[simp] theorem tk_117 : tk Tryz.prog 117 = some (false, 1) := by kernel_rfl
@[simp] theorem zvA_117 : zvA Tryz.prog 117 = some [AV.d (D.v Value.nilFunc)] := by kernel_rfl
@[simp] theorem tk_118 : tk Tryz.prog 118 = some (false, 1) := by kernel_rfl
@[simp] theorem zvA_118 : zvA Tryz.prog 118 = some [AV.d (D.v Value.nilFunc)] := by kernel_rfl
@[simp] theorem tk_119 : tk Tryz.prog 119 = some (false, 1) := by kernel_rfl
@[simp] theorem zvA_119 : zvA Tryz.prog 119 = some [AV.d (D.v Value.nilFunc)] := by kernel_rfl
@[simp] theorem tk_121 : tk Tryz.prog 121 = some (false, 1) := by kernel_rfl
@[simp] theorem zvA_121 : zvA Tryz.prog 121 = some [AV.d (D.v Value.nilFunc)] := by kernel_rfl
@[simp] theorem tk_122 : tk Tryz.prog 122 = some (false, 1) := by kernel_rfl
@[simp] theorem zvA_122 : zvA Tryz.prog 122 = some [AV.d (D.v Value.nilFunc)] := by kernel_rfl
@[simp] theorem tk_123 : tk Tryz.prog 123 = some (false, 1) := by kernel_rfl
@[simp] theorem zvA_123 : zvA Tryz.prog 123 = some [AV.d (D.v Value.nilFunc)] := by kernel_rfl
@[simp] theorem tk_124 : tk Tryz.prog 124 = some (false, 1) := by kernel_rfl
@[simp] theorem zvA_124 : zvA Tryz.prog 124 = some [AV.d (D.v (Value.pointer none))] := by kernel_rfl
@[simp] theorem tk_127 : tk Tryz.prog 127 = some (false, 1) := by kernel_rfl
@[simp] theorem zvA_127 : zvA Tryz.prog 127 = some [AV.d (D.v Value.nilIface)] := by kernel_rfl
@[simp] theorem tk_128 : tk Tryz.prog 128 = some (false, 1) := by kernel_rfl
@[simp] theorem zvA_128 : zvA Tryz.prog 128 = some [AV.d (D.v Value.nilIface)] := by kernel_rfl
@[simp] theorem tk_130 : tk Tryz.prog 130 = some (false, 1) := by kernel_rfl
@[simp] theorem zvA_130 : zvA Tryz.prog 130 = some [AV.d (D.v Value.nilFunc)] := by kernel_rfl
@[simp] theorem tk_131 : tk Tryz.prog 131 = some (false, 1) := by kernel_rfl
@[simp] theorem zvA_131 : zvA Tryz.prog 131 = some [AV.d (D.v Value.nilFunc)] := by kernel_rfl
@[simp] theorem tk_133 : tk Tryz.prog 133 = some (false, 1) := by kernel_rfl
@[simp] theorem zvA_133 : zvA Tryz.prog 133 = some [AV.d (D.v Value.nilFunc)] := by kernel_rfl
@[simp] theorem tk_134 : tk Tryz.prog 134 = some (false, 1) := by kernel_rfl
@[simp] theorem zvA_134 : zvA Tryz.prog 134 = some [AV.d (D.v Value.nilFunc)] := by kernel_rfl
@[simp] theorem tk_137 : tk Tryz.prog 137 = some (false, 1) := by kernel_rfl
@[simp] theorem zvA_137 : zvA Tryz.prog 137 = some [AV.d (D.v Value.nilFunc)] := by kernel_rfl
@[simp] theorem tk_138 : tk Tryz.prog 138 = some (false, 1) := by kernel_rfl
@[simp] theorem zvA_138 : zvA Tryz.prog 138 = some [AV.d (D.v Value.nilFunc)] := by kernel_rfl
@[simp] theorem tk_139 : tk Tryz.prog 139 = some (false, 1) := by kernel_rfl
@[simp] theorem zvA_139 : zvA Tryz.prog 139 = some [AV.d (D.v Value.nilFunc)] := by kernel_rfl
@[simp] theorem tk_140 : tk Tryz.prog 140 = some (false, 1) := by kernel_rfl
@[simp] theorem zvA_140 : zvA Tryz.prog 140 = some [AV.d (D.v Value.nilFunc)] := by kernel_rfl
@[simp] theorem tk_141 : tk Tryz.prog 141 = some (false, 1) := by kernel_rfl
@[simp] theorem zvA_141 : zvA Tryz.prog 141 = some [AV.d (D.v Value.nilFunc)] := by kernel_rfl
@[simp] theorem tk_142 : tk Tryz.prog 142 = some (false, 1) := by kernel_rfl
@[simp] theorem zvA_142 : zvA Tryz.prog 142 = some [AV.d (D.v Value.nilFunc)] := by kernel_rfl
@[simp] theorem tk_143 : tk Tryz.prog 143 = some (false, 1) := by kernel_rfl
@[simp] theorem zvA_143 : zvA Tryz.prog 143 = some [AV.d (D.v Value.nilFunc)] := by kernel_rfl
@[simp] theorem tk_146 : tk Tryz.prog 146 = some (false, 1) := by kernel_rfl
@[simp] theorem zvA_146 : zvA Tryz.prog 146 = some [AV.d (D.v Value.nilFunc)] := by kernel_rfl
@[simp] theorem tk_147 : tk Tryz.prog 147 = some (false, 1) := by kernel_rfl
@[simp] theorem zvA_147 : zvA Tryz.prog 147 = some [AV.d (D.v (Value.pointer none))] := by kernel_rfl
@[simp] theorem tk_149 : tk Tryz.prog 149 = some (false, 1) := by kernel_rfl
@[simp] theorem zvA_149 : zvA Tryz.prog 149 = some [AV.d (D.v Value.nilFunc)] := by kernel_rfl
@[simp] theorem tk_151 : tk Tryz.prog 151 = some (false, 1) := by kernel_rfl
@[simp] theorem zvA_151 : zvA Tryz.prog 151 = some [AV.d (D.v Value.nilFunc)] := by kernel_rfl
@[simp] theorem tk_153 : tk Tryz.prog 153 = some (false, 1) := by kernel_rfl
@[simp] theorem zvA_153 : zvA Tryz.prog 153 = some [AV.d (D.v Value.nilFunc)] := by kernel_rfl
@[simp] theorem tk_154 : tk Tryz.prog 154 = some (false, 1) := by kernel_rfl
@[simp] theorem zvA_154 : zvA Tryz.prog 154 = some [AV.d (D.v Value.nilFunc)] := by kernel_rfl
@[simp] theorem tk_155 : tk Tryz.prog 155 = some (false, 1) := by kernel_rfl
@[simp] theorem zvA_155 : zvA Tryz.prog 155 = some [AV.d (D.v Value.nilFunc)] := by kernel_rfl
@[simp] theorem tk_156 : tk Tryz.prog 156 = some (false, 1) := by kernel_rfl
@[simp] theorem zvA_156 : zvA Tryz.prog 156 = some [AV.d (D.v (Value.pointer none))] := by kernel_rfl
@[simp] theorem tk_157 : tk Tryz.prog 157 = some (false, 1) := by kernel_rfl
@[simp] theorem zvA_157 : zvA Tryz.prog 157 = some [AV.d (D.v Value.nilFunc)] := by kernel_rfl
@[simp] theorem tk_159 : tk Tryz.prog 159 = some (false, 1) := by kernel_rfl
@[simp] theorem zvA_159 : zvA Tryz.prog 159 = some [AV.d (D.v Value.nilFunc)] := by kernel_rfl
@[simp] theorem tk_160 : tk Tryz.prog 160 = some (false, 1) := by kernel_rfl
@[simp] theorem zvA_160 : zvA Tryz.prog 160 = some [AV.d (D.v Value.nilFunc)] := by kernel_rfl
@[simp] theorem tk_161 : tk Tryz.prog 161 = some (false, 1) := by kernel_rfl
@[simp] theorem zvA_161 : zvA Tryz.prog 161 = some [AV.d (D.v Value.nilFunc)] := by kernel_rfl
@[simp] theorem tk_164 : tk Tryz.prog 164 = some (false, 1) := by kernel_rfl
@[simp] theorem zvA_164 : zvA Tryz.prog 164 = some [AV.d (D.v (Value.pointer none))] := by kernel_rfl
@[simp] theorem tk_166 : tk Tryz.prog 166 = some (false, 1) := by kernel_rfl
@[simp] theorem zvA_166 : zvA Tryz.prog 166 = some [AV.d (D.v Value.nilFunc)] := by kernel_rfl
@[simp] theorem tk_174 : tk Tryz.prog 174 = some (false, 1) := by kernel_rfl
@[simp] theorem zvA_174 : zvA Tryz.prog 174 = some [AV.d (D.v Value.nilFunc)] := by kernel_rfl
@[simp] theorem tk_177 : tk Tryz.prog 177 = some (false, 1) := by kernel_rfl
@[simp] theorem zvA_177 : zvA Tryz.prog 177 = some [AV.d (D.v Value.nilFunc)] := by kernel_rfl
@[simp] theorem okF_3 : okF Tryz.prog 3 = true := by kernel_rfl
@[simp] theorem okF_4 : okF Tryz.prog 4 = true := by kernel_rfl
@[simp] theorem okF_5 : okF Tryz.prog 5 = true := by kernel_rfl
@[simp] theorem okF_6 : okF Tryz.prog 6 = true := by kernel_rfl
@[simp] theorem okF_7 : okF Tryz.prog 7 = true := by kernel_rfl
@[simp] theorem okF_8 : okF Tryz.prog 8 = true := by kernel_rfl
@[simp] theorem okF_9 : okF Tryz.prog 9 = true := by kernel_rfl
@[simp] theorem okF_10 : okF Tryz.prog 10 = true := by kernel_rfl
@[simp] theorem okF_11 : okF Tryz.prog 11 = true := by kernel_rfl
@[simp] theorem okF_12 : okF Tryz.prog 12 = true := by kernel_rfl
@[simp] theorem okF_13 : okF Tryz.prog 13 = true := by kernel_rfl
@[simp] theorem okF_14 : okF Tryz.prog 14 = true := by kernel_rfl
@[simp] theorem okF_15 : okF Tryz.prog 15 = true := by kernel_rfl
@[simp] theorem okF_16 : okF Tryz.prog 16 = true := by kernel_rfl
@[simp] theorem okF_17 : okF Tryz.prog 17 = true := by kernel_rfl
@[simp] theorem okF_18 : okF Tryz.prog 18 = true := by kernel_rfl
@[simp] theorem okF_19 : okF Tryz.prog 19 = true := by kernel_rfl
@[simp] theorem okF_20 : okF Tryz.prog 20 = true := by kernel_rfl
@[simp] theorem okF_21 : okF Tryz.prog 21 = true := by kernel_rfl
@[simp] theorem okF_22 : okF Tryz.prog 22 = true := by kernel_rfl
@[simp] theorem okF_23 : okF Tryz.prog 23 = true := by kernel_rfl
@[simp] theorem okF_24 : okF Tryz.prog 24 = true := by kernel_rfl
@[simp] theorem okF_25 : okF Tryz.prog 25 = true := by kernel_rfl
@[simp] theorem okF_26 : okF Tryz.prog 26 = true := by kernel_rfl
@[simp] theorem okF_27 : okF Tryz.prog 27 = true := by kernel_rfl
@[simp] theorem okF_28 : okF Tryz.prog 28 = true := by kernel_rfl
@[simp] theorem okF_29 : okF Tryz.prog 29 = true := by kernel_rfl
@[simp] theorem okF_30 : okF Tryz.prog 30 = true := by kernel_rfl
@[simp] theorem okF_31 : okF Tryz.prog 31 = true := by kernel_rfl
@[simp] theorem okF_32 : okF Tryz.prog 32 = true := by kernel_rfl
@[simp] theorem okF_33 : okF Tryz.prog 33 = true := by kernel_rfl
@[simp] theorem okF_34 : okF Tryz.prog 34 = true := by kernel_rfl
@[simp] theorem okF_35 : okF Tryz.prog 35 = true := by kernel_rfl
@[simp] theorem okF_36 : okF Tryz.prog 36 = true := by kernel_rfl
@[simp] theorem okF_37 : okF Tryz.prog 37 = true := by kernel_rfl
@[simp] theorem okF_38 : okF Tryz.prog 38 = true := by kernel_rfl
@[simp] theorem okF_39 : okF Tryz.prog 39 = true := by kernel_rfl
@[simp] theorem okF_40 : okF Tryz.prog 40 = true := by kernel_rfl
@[simp] theorem okF_41 : okF Tryz.prog 41 = true := by kernel_rfl
@[simp] theorem okF_42 : okF Tryz.prog 42 = true := by kernel_rfl
@[simp] theorem okF_43 : okF Tryz.prog 43 = true := by kernel_rfl
@[simp] theorem okF_44 : okF Tryz.prog 44 = true := by kernel_rfl
@[simp] theorem okF_45 : okF Tryz.prog 45 = true := by kernel_rfl
@[simp] theorem okF_46 : okF Tryz.prog 46 = true := by kernel_rfl
@[simp] theorem okF_47 : okF Tryz.prog 47 = true := by kernel_rfl
@[simp] theorem okF_48 : okF Tryz.prog 48 = true := by kernel_rfl
@[simp] theorem okF_49 : okF Tryz.prog 49 = true := by kernel_rfl
@[simp] theorem okF_50 : okF Tryz.prog 50 = true := by kernel_rfl
@[simp] theorem okF_51 : okF Tryz.prog 51 = true := by kernel_rfl
@[simp] theorem okF_52 : okF Tryz.prog 52 = true := by kernel_rfl
@[simp] theorem okF_53 : okF Tryz.prog 53 = true := by kernel_rfl
@[simp] theorem okF_54 : okF Tryz.prog 54 = true := by kernel_rfl
@[simp] theorem okF_55 : okF Tryz.prog 55 = true := by kernel_rfl
@[simp] theorem okF_56 : okF Tryz.prog 56 = true := by kernel_rfl
@[simp] theorem okF_57 : okF Tryz.prog 57 = true := by kernel_rfl
@[simp] theorem okF_58 : okF Tryz.prog 58 = true := by kernel_rfl
@[simp] theorem okF_59 : okF Tryz.prog 59 = true := by kernel_rfl
@[simp] theorem okF_60 : okF Tryz.prog 60 = true := by kernel_rfl
@[simp] theorem okF_61 : okF Tryz.prog 61 = true := by kernel_rfl
@[simp] theorem okF_62 : okF Tryz.prog 62 = true := by kernel_rfl
@[simp] theorem okF_63 : okF Tryz.prog 63 = true := by kernel_rfl
@[simp] theorem okF_64 : okF Tryz.prog 64 = true := by kernel_rfl
@[simp] theorem okF_65 : okF Tryz.prog 65 = true := by kernel_rfl
@[simp] theorem okF_66 : okF Tryz.prog 66 = true := by kernel_rfl
@[simp] theorem okF_67 : okF Tryz.prog 67 = true := by kernel_rfl
@[simp] theorem okF_68 : okF Tryz.prog 68 = true := by kernel_rfl
@[simp] theorem okF_69 : okF Tryz.prog 69 = true := by kernel_rfl
@[simp] theorem okF_70 : okF Tryz.prog 70 = true := by kernel_rfl
@[simp] theorem okF_71 : okF Tryz.prog 71 = true := by kernel_rfl
@[simp] theorem okF_72 : okF Tryz.prog 72 = true := by kernel_rfl
@[simp] theorem okF_73 : okF Tryz.prog 73 = true := by kernel_rfl
@[simp] theorem okF_74 : okF Tryz.prog 74 = true := by kernel_rfl
@[simp] theorem okF_75 : okF Tryz.prog 75 = true := by kernel_rfl
@[simp] theorem okF_76 : okF Tryz.prog 76 = true := by kernel_rfl
@[simp] theorem okF_77 : okF Tryz.prog 77 = true := by kernel_rfl
@[simp] theorem okF_78 : okF Tryz.prog 78 = true := by kernel_rfl
@[simp] theorem okF_79 : okF Tryz.prog 79 = true := by kernel_rfl
@[simp] theorem okF_80 : okF Tryz.prog 80 = true := by kernel_rfl
@[simp] theorem okF_81 : okF Tryz.prog 81 = true := by kernel_rfl
@[simp] theorem okF_82 : okF Tryz.prog 82 = true := by kernel_rfl
@[simp] theorem okF_83 : okF Tryz.prog 83 = true := by kernel_rfl
@[simp] theorem okF_84 : okF Tryz.prog 84 = true := by kernel_rfl
@[simp] theorem okF_85 : okF Tryz.prog 85 = true := by kernel_rfl
@[simp] theorem okF_86 : okF Tryz.prog 86 = true := by kernel_rfl
@[simp] theorem okF_87 : okF Tryz.prog 87 = true := by kernel_rfl
@[simp] theorem okF_88 : okF Tryz.prog 88 = true := by kernel_rfl
@[simp] theorem okF_89 : okF Tryz.prog 89 = true := by kernel_rfl
@[simp] theorem okF_90 : okF Tryz.prog 90 = true := by kernel_rfl
@[simp] theorem okF_91 : okF Tryz.prog 91 = true := by kernel_rfl
@[simp] theorem okF_92 : okF Tryz.prog 92 = true := by kernel_rfl
@[simp] theorem okF_93 : okF Tryz.prog 93 = true := by kernel_rfl
@[simp] theorem okF_94 : okF Tryz.prog 94 = true := by kernel_rfl
@[simp] theorem okF_95 : okF Tryz.prog 95 = true := by kernel_rfl
@[simp] theorem okF_96 : okF Tryz.prog 96 = true := by kernel_rfl
@[simp] theorem okF_97 : okF Tryz.prog 97 = true := by kernel_rfl
@[simp] theorem okF_98 : okF Tryz.prog 98 = true := by kernel_rfl
@[simp] theorem okF_99 : okF Tryz.prog 99 = true := by kernel_rfl
@[simp] theorem okF_100 : okF Tryz.prog 100 = true := by kernel_rfl
@[simp] theorem okF_101 : okF Tryz.prog 101 = true := by kernel_rfl
@[simp] theorem okF_102 : okF Tryz.prog 102 = true := by kernel_rfl
@[simp] theorem okF_103 : okF Tryz.prog 103 = true := by kernel_rfl
@[simp] theorem okF_104 : okF Tryz.prog 104 = true := by kernel_rfl
@[simp] theorem okF_105 : okF Tryz.prog 105 = true := by kernel_rfl
@[simp] theorem okF_106 : okF Tryz.prog 106 = true := by kernel_rfl
@[simp] theorem okF_107 : okF Tryz.prog 107 = true := by kernel_rfl
@[simp] theorem okF_108 : okF Tryz.prog 108 = true := by kernel_rfl
@[simp] theorem okF_109 : okF Tryz.prog 109 = true := by kernel_rfl
@[simp] theorem okF_110 : okF Tryz.prog 110 = true := by kernel_rfl
@[simp] theorem okF_111 : okF Tryz.prog 111 = true := by kernel_rfl
@[simp] theorem okF_112 : okF Tryz.prog 112 = true := by kernel_rfl
@[simp] theorem okF_113 : okF Tryz.prog 113 = true := by kernel_rfl
@[simp] theorem okF_114 : okF Tryz.prog 114 = true := by kernel_rfl
@[simp] theorem okF_115 : okF Tryz.prog 115 = true := by kernel_rfl
@[simp] theorem okF_116 : okF Tryz.prog 116 = true := by kernel_rfl
@[simp] theorem okF_117 : okF Tryz.prog 117 = true := by kernel_rfl
@[simp] theorem okF_118 : okF Tryz.prog 118 = true := by kernel_rfl
@[simp] theorem okF_119 : okF Tryz.prog 119 = true := by kernel_rfl
@[simp] theorem okF_120 : okF Tryz.prog 120 = true := by kernel_rfl
@[simp] theorem okF_121 : okF Tryz.prog 121 = true := by kernel_rfl
@[simp] theorem okF_122 : okF Tryz.prog 122 = true := by kernel_rfl
@[simp] theorem okF_123 : okF Tryz.prog 123 = true := by kernel_rfl
@[simp] theorem okF_124 : okF Tryz.prog 124 = true := by kernel_rfl
@[simp] theorem okF_125 : okF Tryz.prog 125 = true := by kernel_rfl
@[simp] theorem okF_126 : okF Tryz.prog 126 = true := by kernel_rfl
@[simp] theorem okF_127 : okF Tryz.prog 127 = true := by kernel_rfl
@[simp] theorem okF_128 : okF Tryz.prog 128 = true := by kernel_rfl
@[simp] theorem okF_129 : okF Tryz.prog 129 = true := by kernel_rfl
@[simp] theorem okF_130 : okF Tryz.prog 130 = true := by kernel_rfl
@[simp] theorem okF_131 : okF Tryz.prog 131 = true := by kernel_rfl
@[simp] theorem okF_132 : okF Tryz.prog 132 = true := by kernel_rfl
@[simp] theorem okF_133 : okF Tryz.prog 133 = true := by kernel_rfl
@[simp] theorem okF_134 : okF Tryz.prog 134 = true := by kernel_rfl
@[simp] theorem okF_135 : okF Tryz.prog 135 = true := by kernel_rfl
@[simp] theorem okF_136 : okF Tryz.prog 136 = true := by kernel_rfl
@[simp] theorem okF_137 : okF Tryz.prog 137 = true := by kernel_rfl
@[simp] theorem okF_138 : okF Tryz.prog 138 = true := by kernel_rfl
@[simp] theorem okF_139 : okF Tryz.prog 139 = true := by kernel_rfl
@[simp] theorem okF_140 : okF Tryz.prog 140 = true := by kernel_rfl
@[simp] theorem okF_141 : okF Tryz.prog 141 = true := by kernel_rfl
@[simp] theorem okF_142 : okF Tryz.prog 142 = true := by kernel_rfl
@[simp] theorem okF_143 : okF Tryz.prog 143 = true := by kernel_rfl
@[simp] theorem okF_144 : okF Tryz.prog 144 = true := by kernel_rfl
@[simp] theorem okF_145 : okF Tryz.prog 145 = true := by kernel_rfl
@[simp] theorem okF_146 : okF Tryz.prog 146 = true := by kernel_rfl
@[simp] theorem okF_147 : okF Tryz.prog 147 = true := by kernel_rfl
@[simp] theorem okF_148 : okF Tryz.prog 148 = true := by kernel_rfl
@[simp] theorem okF_149 : okF Tryz.prog 149 = true := by kernel_rfl
@[simp] theorem okF_150 : okF Tryz.prog 150 = true := by kernel_rfl
@[simp] theorem okF_151 : okF Tryz.prog 151 = true := by kernel_rfl
@[simp] theorem okF_152 : okF Tryz.prog 152 = true := by kernel_rfl
@[simp] theorem okF_153 : okF Tryz.prog 153 = true := by kernel_rfl
@[simp] theorem okF_154 : okF Tryz.prog 154 = true := by kernel_rfl
@[simp] theorem okF_155 : okF Tryz.prog 155 = true := by kernel_rfl
@[simp] theorem okF_156 : okF Tryz.prog 156 = true := by kernel_rfl
@[simp] theorem okF_157 : okF Tryz.prog 157 = true := by kernel_rfl
@[simp] theorem okF_158 : okF Tryz.prog 158 = true := by kernel_rfl
@[simp] theorem okF_159 : okF Tryz.prog 159 = true := by kernel_rfl
@[simp] theorem okF_160 : okF Tryz.prog 160 = true := by kernel_rfl
@[simp] theorem okF_161 : okF Tryz.prog 161 = true := by kernel_rfl
@[simp] theorem okF_162 : okF Tryz.prog 162 = true := by kernel_rfl
@[simp] theorem okF_163 : okF Tryz.prog 163 = true := by kernel_rfl
@[simp] theorem okF_164 : okF Tryz.prog 164 = true := by kernel_rfl
@[simp] theorem okF_165 : okF Tryz.prog 165 = true := by kernel_rfl
@[simp] theorem okF_166 : okF Tryz.prog 166 = true := by kernel_rfl
@[simp] theorem okF_167 : okF Tryz.prog 167 = true := by kernel_rfl
@[simp] theorem okF_168 : okF Tryz.prog 168 = true := by kernel_rfl
@[simp] theorem okF_169 : okF Tryz.prog 169 = true := by kernel_rfl
@[simp] theorem okF_170 : okF Tryz.prog 170 = true := by kernel_rfl
@[simp] theorem okF_171 : okF Tryz.prog 171 = true := by kernel_rfl
@[simp] theorem okF_172 : okF Tryz.prog 172 = true := by kernel_rfl
@[simp] theorem okF_173 : okF Tryz.prog 173 = true := by kernel_rfl
@[simp] theorem okF_174 : okF Tryz.prog 174 = true := by kernel_rfl
@[simp] theorem okF_175 : okF Tryz.prog 175 = true := by kernel_rfl
@[simp] theorem okF_176 : okF Tryz.prog 176 = true := by kernel_rfl
@[simp] theorem okF_177 : okF Tryz.prog 177 = true := by kernel_rfl
@[simp] theorem okF_178 : okF Tryz.prog 178 = true := by kernel_rfl
@[simp] theorem okF_179 : okF Tryz.prog 179 = true := by kernel_rfl
@[simp] theorem okF_180 : okF Tryz.prog 180 = true := by kernel_rfl
@[simp] theorem okF_181 : okF Tryz.prog 181 = true := by kernel_rfl
@[simp] theorem okF_182 : okF Tryz.prog 182 = true := by kernel_rfl
@[simp] theorem okF_183 : okF Tryz.prog 183 = true := by kernel_rfl
@[simp] theorem okF_184 : okF Tryz.prog 184 = true := by kernel_rfl
@[simp] theorem okF_187 : okF Tryz.prog 187 = true := by kernel_rfl
@[simp] theorem okF_188 : okF Tryz.prog 188 = true := by kernel_rfl
@[simp] theorem okF_189 : okF Tryz.prog 189 = true := by kernel_rfl
@[simp] theorem okF_190 : okF Tryz.prog 190 = true := by kernel_rfl
@[simp] theorem okF_191 : okF Tryz.prog 191 = true := by kernel_rfl
@[simp] theorem okF_192 : okF Tryz.prog 192 = true := by kernel_rfl
@[simp] theorem okF_193 : okF Tryz.prog 193 = true := by kernel_rfl
end Go.Proofs.YtfndoocgpmgalaaGreatDoor
