/- Closed facts on the program's types and functions, made by program: what the calculator asks of its tables. -/
import Derived.Test.YtjglpamdliplbaaDoorProg
import Derived.Test.YtjglpamdliplbaaDoorAh
import Derived.KernelRfl
namespace Go.Proofs.YtjglpamdliplbaaDoor
set_option maxRecDepth 100000
@[simp] theorem tk_7 : tk Tryd.prog 7 = some (true, 4) := by kernel_rfl
@[simp] theorem places_7 : places Tryd.prog 7 = some [(0, 1), (1, 1), (2, 1), (3, 1)] := by kernel_rfl
@[simp] theorem zvA_7 : zvA Tryd.prog 7 = some [AV.d (D.v (Value.int IntKind.i64 (0))), AV.d (D.v (Value.int IntKind.i64 (0))), AV.d (D.v (Value.bool false)), AV.d (D.v (Value.int IntKind.u8 (0)))] := by kernel_rfl
@[simp] theorem ar_7 : ar Tryd.prog 7 = none := by kernel_rfl
@[simp] theorem fo_7_0 : fo Tryd.prog 7 0 = some 0 := by kernel_rfl
@[simp] theorem ft_7_0 : ft Tryd.prog 7 0 = some (2, 0) := by kernel_rfl
@[simp] theorem fo_7_1 : fo Tryd.prog 7 1 = some 1 := by kernel_rfl
@[simp] theorem ft_7_1 : ft Tryd.prog 7 1 = some (3, 1) := by kernel_rfl
@[simp] theorem fo_7_2 : fo Tryd.prog 7 2 = some 2 := by kernel_rfl
@[simp] theorem ft_7_2 : ft Tryd.prog 7 2 = some (4, 2) := by kernel_rfl
@[simp] theorem fo_7_3 : fo Tryd.prog 7 3 = some 3 := by kernel_rfl
@[simp] theorem ft_7_3 : ft Tryd.prog 7 3 = some (6, 3) := by kernel_rfl
@[simp] theorem tk_8 : tk Tryd.prog 8 = some (true, 4) := by kernel_rfl
@[simp] theorem places_8 : places Tryd.prog 8 = some [(0, 1), (1, 1), (2, 1), (3, 1)] := by kernel_rfl
@[simp] theorem zvA_8 : zvA Tryd.prog 8 = some [AV.d (D.v (Value.int IntKind.i64 (0))), AV.d (D.v (Value.int IntKind.i64 (0))), AV.d (D.v (Value.bool false)), AV.d (D.v (Value.int IntKind.u8 (0)))] := by kernel_rfl
@[simp] theorem ar_8 : ar Tryd.prog 8 = none := by kernel_rfl
@[simp] theorem fo_8_0 : fo Tryd.prog 8 0 = some 0 := by kernel_rfl
@[simp] theorem ft_8_0 : ft Tryd.prog 8 0 = some (2, 0) := by kernel_rfl
@[simp] theorem fo_8_1 : fo Tryd.prog 8 1 = some 1 := by kernel_rfl
@[simp] theorem ft_8_1 : ft Tryd.prog 8 1 = some (3, 1) := by kernel_rfl
@[simp] theorem fo_8_2 : fo Tryd.prog 8 2 = some 2 := by kernel_rfl
@[simp] theorem ft_8_2 : ft Tryd.prog 8 2 = some (4, 2) := by kernel_rfl
@[simp] theorem fo_8_3 : fo Tryd.prog 8 3 = some 3 := by kernel_rfl
@[simp] theorem ft_8_3 : ft Tryd.prog 8 3 = some (6, 3) := by kernel_rfl
@[simp] theorem tk_13 : tk Tryd.prog 13 = some (true, 2) := by kernel_rfl
@[simp] theorem places_13 : places Tryd.prog 13 = some [(0, 1), (1, 1)] := by kernel_rfl
@[simp] theorem zvA_13 : zvA Tryd.prog 13 = some [AV.d (D.v (Value.string { data := #[] })), AV.d (D.v (Value.int IntKind.u64 (0)))] := by kernel_rfl
@[simp] theorem ar_13 : ar Tryd.prog 13 = none := by kernel_rfl
@[simp] theorem fo_13_0 : fo Tryd.prog 13 0 = some 0 := by kernel_rfl
@[simp] theorem ft_13_0 : ft Tryd.prog 13 0 = some (9, 0) := by kernel_rfl
@[simp] theorem fo_13_1 : fo Tryd.prog 13 1 = some 1 := by kernel_rfl
@[simp] theorem ft_13_1 : ft Tryd.prog 13 1 = some (12, 1) := by kernel_rfl
@[simp] theorem tk_14 : tk Tryd.prog 14 = some (true, 2) := by kernel_rfl
@[simp] theorem places_14 : places Tryd.prog 14 = some [(0, 1), (1, 1)] := by kernel_rfl
@[simp] theorem zvA_14 : zvA Tryd.prog 14 = some [AV.d (D.v (Value.string { data := #[] })), AV.d (D.v (Value.int IntKind.u64 (0)))] := by kernel_rfl
@[simp] theorem ar_14 : ar Tryd.prog 14 = none := by kernel_rfl
@[simp] theorem fo_14_0 : fo Tryd.prog 14 0 = some 0 := by kernel_rfl
@[simp] theorem ft_14_0 : ft Tryd.prog 14 0 = some (9, 0) := by kernel_rfl
@[simp] theorem fo_14_1 : fo Tryd.prog 14 1 = some 1 := by kernel_rfl
@[simp] theorem ft_14_1 : ft Tryd.prog 14 1 = some (12, 1) := by kernel_rfl
@[simp] theorem tk_18 : tk Tryd.prog 18 = some (true, 1) := by kernel_rfl
@[simp] theorem places_18 : places Tryd.prog 18 = some [(0, 1)] := by kernel_rfl
@[simp] theorem zvA_18 : zvA Tryd.prog 18 = some [AV.d (D.v (Value.pointer none))] := by kernel_rfl
@[simp] theorem ar_18 : ar Tryd.prog 18 = none := by kernel_rfl
@[simp] theorem fo_18_0 : fo Tryd.prog 18 0 = some 0 := by kernel_rfl
@[simp] theorem ft_18_0 : ft Tryd.prog 18 0 = some (17, 0) := by kernel_rfl
@[simp] theorem tk_19 : tk Tryd.prog 19 = some (true, 1) := by kernel_rfl
@[simp] theorem places_19 : places Tryd.prog 19 = some [(0, 1)] := by kernel_rfl
@[simp] theorem zvA_19 : zvA Tryd.prog 19 = some [AV.d (D.v (Value.pointer none))] := by kernel_rfl
@[simp] theorem ar_19 : ar Tryd.prog 19 = none := by kernel_rfl
@[simp] theorem fo_19_0 : fo Tryd.prog 19 0 = some 0 := by kernel_rfl
@[simp] theorem ft_19_0 : ft Tryd.prog 19 0 = some (17, 0) := by kernel_rfl
@[simp] theorem tk_25 : tk Tryd.prog 25 = some (true, 8) := by kernel_rfl
@[simp] theorem places_25 : places Tryd.prog 25 = some [(0, 1), (1, 1), (2, 1), (3, 1), (4, 1), (5, 1), (6, 1), (7, 1)] := by kernel_rfl
@[simp] theorem zvA_25 : zvA Tryd.prog 25 = some [AV.d (D.v (Value.int IntKind.i64 (0))), AV.d (D.v (Value.int IntKind.i64 (0))), AV.d (D.v (Value.int IntKind.i64 (0))), AV.d (D.v (Value.int IntKind.i64 (0))), AV.d (D.v (Value.int IntKind.i64 (0))), AV.d (D.v (Value.int IntKind.u32 (0))), AV.d (D.v (Value.slice none 0 0)), AV.d (D.v (Value.slice none 0 0))] := by kernel_rfl
@[simp] theorem ar_25 : ar Tryd.prog 25 = none := by kernel_rfl
@[simp] theorem fo_25_0 : fo Tryd.prog 25 0 = some 0 := by kernel_rfl
@[simp] theorem ft_25_0 : ft Tryd.prog 25 0 = some (3, 0) := by kernel_rfl
@[simp] theorem fo_25_1 : fo Tryd.prog 25 1 = some 1 := by kernel_rfl
@[simp] theorem ft_25_1 : ft Tryd.prog 25 1 = some (3, 1) := by kernel_rfl
@[simp] theorem fo_25_2 : fo Tryd.prog 25 2 = some 2 := by kernel_rfl
@[simp] theorem ft_25_2 : ft Tryd.prog 25 2 = some (3, 2) := by kernel_rfl
@[simp] theorem fo_25_3 : fo Tryd.prog 25 3 = some 3 := by kernel_rfl
@[simp] theorem ft_25_3 : ft Tryd.prog 25 3 = some (3, 3) := by kernel_rfl
@[simp] theorem fo_25_4 : fo Tryd.prog 25 4 = some 4 := by kernel_rfl
@[simp] theorem ft_25_4 : ft Tryd.prog 25 4 = some (3, 4) := by kernel_rfl
@[simp] theorem fo_25_5 : fo Tryd.prog 25 5 = some 5 := by kernel_rfl
@[simp] theorem ft_25_5 : ft Tryd.prog 25 5 = some (22, 5) := by kernel_rfl
@[simp] theorem fo_25_6 : fo Tryd.prog 25 6 = some 6 := by kernel_rfl
@[simp] theorem ft_25_6 : ft Tryd.prog 25 6 = some (23, 6) := by kernel_rfl
@[simp] theorem fo_25_7 : fo Tryd.prog 25 7 = some 7 := by kernel_rfl
@[simp] theorem ft_25_7 : ft Tryd.prog 25 7 = some (24, 7) := by kernel_rfl
@[simp] theorem tk_26 : tk Tryd.prog 26 = some (true, 8) := by kernel_rfl
@[simp] theorem places_26 : places Tryd.prog 26 = some [(0, 1), (1, 1), (2, 1), (3, 1), (4, 1), (5, 1), (6, 1), (7, 1)] := by kernel_rfl
@[simp] theorem zvA_26 : zvA Tryd.prog 26 = some [AV.d (D.v (Value.int IntKind.i64 (0))), AV.d (D.v (Value.int IntKind.i64 (0))), AV.d (D.v (Value.int IntKind.i64 (0))), AV.d (D.v (Value.int IntKind.i64 (0))), AV.d (D.v (Value.int IntKind.i64 (0))), AV.d (D.v (Value.int IntKind.u32 (0))), AV.d (D.v (Value.slice none 0 0)), AV.d (D.v (Value.slice none 0 0))] := by kernel_rfl
@[simp] theorem ar_26 : ar Tryd.prog 26 = none := by kernel_rfl
@[simp] theorem fo_26_0 : fo Tryd.prog 26 0 = some 0 := by kernel_rfl
@[simp] theorem ft_26_0 : ft Tryd.prog 26 0 = some (3, 0) := by kernel_rfl
@[simp] theorem fo_26_1 : fo Tryd.prog 26 1 = some 1 := by kernel_rfl
@[simp] theorem ft_26_1 : ft Tryd.prog 26 1 = some (3, 1) := by kernel_rfl
@[simp] theorem fo_26_2 : fo Tryd.prog 26 2 = some 2 := by kernel_rfl
@[simp] theorem ft_26_2 : ft Tryd.prog 26 2 = some (3, 2) := by kernel_rfl
@[simp] theorem fo_26_3 : fo Tryd.prog 26 3 = some 3 := by kernel_rfl
@[simp] theorem ft_26_3 : ft Tryd.prog 26 3 = some (3, 3) := by kernel_rfl
@[simp] theorem fo_26_4 : fo Tryd.prog 26 4 = some 4 := by kernel_rfl
@[simp] theorem ft_26_4 : ft Tryd.prog 26 4 = some (3, 4) := by kernel_rfl
@[simp] theorem fo_26_5 : fo Tryd.prog 26 5 = some 5 := by kernel_rfl
@[simp] theorem ft_26_5 : ft Tryd.prog 26 5 = some (22, 5) := by kernel_rfl
@[simp] theorem fo_26_6 : fo Tryd.prog 26 6 = some 6 := by kernel_rfl
@[simp] theorem ft_26_6 : ft Tryd.prog 26 6 = some (23, 6) := by kernel_rfl
@[simp] theorem fo_26_7 : fo Tryd.prog 26 7 = some 7 := by kernel_rfl
@[simp] theorem ft_26_7 : ft Tryd.prog 26 7 = some (24, 7) := by kernel_rfl
@[simp] theorem tk_38 : tk Tryd.prog 38 = some (true, 5) := by kernel_rfl
@[simp] theorem places_38 : places Tryd.prog 38 = some [(0, 1), (1, 1), (2, 1), (3, 1), (4, 1)] := by kernel_rfl
@[simp] theorem zvA_38 : zvA Tryd.prog 38 = some [AV.d (D.v (Value.int IntKind.i64 (0))), AV.d (D.v (Value.int IntKind.u32 (0))), AV.d (D.v (Value.int IntKind.i64 (0))), AV.d (D.v (Value.int IntKind.i64 (0))), AV.d (D.v (Value.slice none 0 0))] := by kernel_rfl
@[simp] theorem ar_38 : ar Tryd.prog 38 = none := by kernel_rfl
@[simp] theorem fo_38_0 : fo Tryd.prog 38 0 = some 0 := by kernel_rfl
@[simp] theorem ft_38_0 : ft Tryd.prog 38 0 = some (3, 0) := by kernel_rfl
@[simp] theorem fo_38_1 : fo Tryd.prog 38 1 = some 1 := by kernel_rfl
@[simp] theorem ft_38_1 : ft Tryd.prog 38 1 = some (22, 1) := by kernel_rfl
@[simp] theorem fo_38_2 : fo Tryd.prog 38 2 = some 2 := by kernel_rfl
@[simp] theorem ft_38_2 : ft Tryd.prog 38 2 = some (3, 2) := by kernel_rfl
@[simp] theorem fo_38_3 : fo Tryd.prog 38 3 = some 3 := by kernel_rfl
@[simp] theorem ft_38_3 : ft Tryd.prog 38 3 = some (3, 3) := by kernel_rfl
@[simp] theorem fo_38_4 : fo Tryd.prog 38 4 = some 4 := by kernel_rfl
@[simp] theorem ft_38_4 : ft Tryd.prog 38 4 = some (23, 4) := by kernel_rfl
@[simp] theorem tk_39 : tk Tryd.prog 39 = some (true, 5) := by kernel_rfl
@[simp] theorem places_39 : places Tryd.prog 39 = some [(0, 1), (1, 1), (2, 1), (3, 1), (4, 1)] := by kernel_rfl
@[simp] theorem zvA_39 : zvA Tryd.prog 39 = some [AV.d (D.v (Value.int IntKind.i64 (0))), AV.d (D.v (Value.int IntKind.u32 (0))), AV.d (D.v (Value.int IntKind.i64 (0))), AV.d (D.v (Value.int IntKind.i64 (0))), AV.d (D.v (Value.slice none 0 0))] := by kernel_rfl
@[simp] theorem ar_39 : ar Tryd.prog 39 = none := by kernel_rfl
@[simp] theorem fo_39_0 : fo Tryd.prog 39 0 = some 0 := by kernel_rfl
@[simp] theorem ft_39_0 : ft Tryd.prog 39 0 = some (3, 0) := by kernel_rfl
@[simp] theorem fo_39_1 : fo Tryd.prog 39 1 = some 1 := by kernel_rfl
@[simp] theorem ft_39_1 : ft Tryd.prog 39 1 = some (22, 1) := by kernel_rfl
@[simp] theorem fo_39_2 : fo Tryd.prog 39 2 = some 2 := by kernel_rfl
@[simp] theorem ft_39_2 : ft Tryd.prog 39 2 = some (3, 2) := by kernel_rfl
@[simp] theorem fo_39_3 : fo Tryd.prog 39 3 = some 3 := by kernel_rfl
@[simp] theorem ft_39_3 : ft Tryd.prog 39 3 = some (3, 3) := by kernel_rfl
@[simp] theorem fo_39_4 : fo Tryd.prog 39 4 = some 4 := by kernel_rfl
@[simp] theorem ft_39_4 : ft Tryd.prog 39 4 = some (23, 4) := by kernel_rfl
@[simp] theorem tk_45 : tk Tryd.prog 45 = some (true, 5) := by kernel_rfl
@[simp] theorem places_45 : places Tryd.prog 45 = some [(0, 1), (1, 1), (2, 1), (3, 1), (4, 1)] := by kernel_rfl
@[simp] theorem zvA_45 : zvA Tryd.prog 45 = some [AV.d (D.v (Value.int IntKind.i64 (0))), AV.d (D.v (Value.int IntKind.i64 (0))), AV.d (D.v (Value.int IntKind.i64 (0))), AV.d (D.v (Value.slice none 0 0)), AV.d (D.v (Value.slice none 0 0))] := by kernel_rfl
@[simp] theorem ar_45 : ar Tryd.prog 45 = none := by kernel_rfl
@[simp] theorem fo_45_0 : fo Tryd.prog 45 0 = some 0 := by kernel_rfl
@[simp] theorem ft_45_0 : ft Tryd.prog 45 0 = some (3, 0) := by kernel_rfl
@[simp] theorem fo_45_1 : fo Tryd.prog 45 1 = some 1 := by kernel_rfl
@[simp] theorem ft_45_1 : ft Tryd.prog 45 1 = some (3, 1) := by kernel_rfl
@[simp] theorem fo_45_2 : fo Tryd.prog 45 2 = some 2 := by kernel_rfl
@[simp] theorem ft_45_2 : ft Tryd.prog 45 2 = some (3, 2) := by kernel_rfl
@[simp] theorem fo_45_3 : fo Tryd.prog 45 3 = some 3 := by kernel_rfl
@[simp] theorem ft_45_3 : ft Tryd.prog 45 3 = some (43, 3) := by kernel_rfl
@[simp] theorem fo_45_4 : fo Tryd.prog 45 4 = some 4 := by kernel_rfl
@[simp] theorem ft_45_4 : ft Tryd.prog 45 4 = some (44, 4) := by kernel_rfl
@[simp] theorem tk_46 : tk Tryd.prog 46 = some (true, 5) := by kernel_rfl
@[simp] theorem places_46 : places Tryd.prog 46 = some [(0, 1), (1, 1), (2, 1), (3, 1), (4, 1)] := by kernel_rfl
@[simp] theorem zvA_46 : zvA Tryd.prog 46 = some [AV.d (D.v (Value.int IntKind.i64 (0))), AV.d (D.v (Value.int IntKind.i64 (0))), AV.d (D.v (Value.int IntKind.i64 (0))), AV.d (D.v (Value.slice none 0 0)), AV.d (D.v (Value.slice none 0 0))] := by kernel_rfl
@[simp] theorem ar_46 : ar Tryd.prog 46 = none := by kernel_rfl
@[simp] theorem fo_46_0 : fo Tryd.prog 46 0 = some 0 := by kernel_rfl
@[simp] theorem ft_46_0 : ft Tryd.prog 46 0 = some (3, 0) := by kernel_rfl
@[simp] theorem fo_46_1 : fo Tryd.prog 46 1 = some 1 := by kernel_rfl
@[simp] theorem ft_46_1 : ft Tryd.prog 46 1 = some (3, 1) := by kernel_rfl
@[simp] theorem fo_46_2 : fo Tryd.prog 46 2 = some 2 := by kernel_rfl
@[simp] theorem ft_46_2 : ft Tryd.prog 46 2 = some (3, 2) := by kernel_rfl
@[simp] theorem fo_46_3 : fo Tryd.prog 46 3 = some 3 := by kernel_rfl
@[simp] theorem ft_46_3 : ft Tryd.prog 46 3 = some (43, 3) := by kernel_rfl
@[simp] theorem fo_46_4 : fo Tryd.prog 46 4 = some 4 := by kernel_rfl
@[simp] theorem ft_46_4 : ft Tryd.prog 46 4 = some (44, 4) := by kernel_rfl
@[simp] theorem tk_47 : tk Tryd.prog 47 = some (true, 10) := by kernel_rfl
@[simp] theorem places_47 : places Tryd.prog 47 = some [(0, 1), (1, 1), (2, 1), (3, 1), (4, 1), (5, 5)] := by kernel_rfl
@[simp] theorem zvA_47 : zvA Tryd.prog 47 = some [AV.d (D.v (Value.int IntKind.i64 (0))), AV.d (D.v (Value.int IntKind.i64 (0))), AV.d (D.v (Value.int IntKind.i64 (0))), AV.d (D.v (Value.int IntKind.i64 (0))), AV.d (D.v (Value.int IntKind.i64 (0))), AV.d (D.v (Value.int IntKind.i64 (0))), AV.d (D.v (Value.int IntKind.i64 (0))), AV.d (D.v (Value.int IntKind.i64 (0))), AV.d (D.v (Value.slice none 0 0)), AV.d (D.v (Value.slice none 0 0))] := by kernel_rfl
@[simp] theorem ar_47 : ar Tryd.prog 47 = none := by kernel_rfl
@[simp] theorem fo_47_0 : fo Tryd.prog 47 0 = some 0 := by kernel_rfl
@[simp] theorem ft_47_0 : ft Tryd.prog 47 0 = some (3, 0) := by kernel_rfl
@[simp] theorem fo_47_1 : fo Tryd.prog 47 1 = some 1 := by kernel_rfl
@[simp] theorem ft_47_1 : ft Tryd.prog 47 1 = some (3, 1) := by kernel_rfl
@[simp] theorem fo_47_2 : fo Tryd.prog 47 2 = some 2 := by kernel_rfl
@[simp] theorem ft_47_2 : ft Tryd.prog 47 2 = some (3, 2) := by kernel_rfl
@[simp] theorem fo_47_3 : fo Tryd.prog 47 3 = some 3 := by kernel_rfl
@[simp] theorem ft_47_3 : ft Tryd.prog 47 3 = some (3, 3) := by kernel_rfl
@[simp] theorem fo_47_4 : fo Tryd.prog 47 4 = some 4 := by kernel_rfl
@[simp] theorem ft_47_4 : ft Tryd.prog 47 4 = some (3, 4) := by kernel_rfl
@[simp] theorem fo_47_5 : fo Tryd.prog 47 5 = some 5 := by kernel_rfl
@[simp] theorem ft_47_5 : ft Tryd.prog 47 5 = some (46, 5) := by kernel_rfl
@[simp] theorem tk_48 : tk Tryd.prog 48 = some (true, 10) := by kernel_rfl
@[simp] theorem places_48 : places Tryd.prog 48 = some [(0, 1), (1, 1), (2, 1), (3, 1), (4, 1), (5, 5)] := by kernel_rfl
@[simp] theorem zvA_48 : zvA Tryd.prog 48 = some [AV.d (D.v (Value.int IntKind.i64 (0))), AV.d (D.v (Value.int IntKind.i64 (0))), AV.d (D.v (Value.int IntKind.i64 (0))), AV.d (D.v (Value.int IntKind.i64 (0))), AV.d (D.v (Value.int IntKind.i64 (0))), AV.d (D.v (Value.int IntKind.i64 (0))), AV.d (D.v (Value.int IntKind.i64 (0))), AV.d (D.v (Value.int IntKind.i64 (0))), AV.d (D.v (Value.slice none 0 0)), AV.d (D.v (Value.slice none 0 0))] := by kernel_rfl
@[simp] theorem ar_48 : ar Tryd.prog 48 = none := by kernel_rfl
@[simp] theorem fo_48_0 : fo Tryd.prog 48 0 = some 0 := by kernel_rfl
@[simp] theorem ft_48_0 : ft Tryd.prog 48 0 = some (3, 0) := by kernel_rfl
@[simp] theorem fo_48_1 : fo Tryd.prog 48 1 = some 1 := by kernel_rfl
@[simp] theorem ft_48_1 : ft Tryd.prog 48 1 = some (3, 1) := by kernel_rfl
@[simp] theorem fo_48_2 : fo Tryd.prog 48 2 = some 2 := by kernel_rfl
@[simp] theorem ft_48_2 : ft Tryd.prog 48 2 = some (3, 2) := by kernel_rfl
@[simp] theorem fo_48_3 : fo Tryd.prog 48 3 = some 3 := by kernel_rfl
@[simp] theorem ft_48_3 : ft Tryd.prog 48 3 = some (3, 3) := by kernel_rfl
@[simp] theorem fo_48_4 : fo Tryd.prog 48 4 = some 4 := by kernel_rfl
@[simp] theorem ft_48_4 : ft Tryd.prog 48 4 = some (3, 4) := by kernel_rfl
@[simp] theorem fo_48_5 : fo Tryd.prog 48 5 = some 5 := by kernel_rfl
@[simp] theorem ft_48_5 : ft Tryd.prog 48 5 = some (46, 5) := by kernel_rfl
@[simp] theorem tk_51 : tk Tryd.prog 51 = some (true, 2) := by kernel_rfl
@[simp] theorem places_51 : places Tryd.prog 51 = some [(0, 1), (1, 1)] := by kernel_rfl
@[simp] theorem zvA_51 : zvA Tryd.prog 51 = some [AV.d (D.v (Value.int IntKind.u32 (0))), AV.d (D.v (Value.slice none 0 0))] := by kernel_rfl
@[simp] theorem ar_51 : ar Tryd.prog 51 = none := by kernel_rfl
@[simp] theorem fo_51_0 : fo Tryd.prog 51 0 = some 0 := by kernel_rfl
@[simp] theorem ft_51_0 : ft Tryd.prog 51 0 = some (22, 0) := by kernel_rfl
@[simp] theorem fo_51_1 : fo Tryd.prog 51 1 = some 1 := by kernel_rfl
@[simp] theorem ft_51_1 : ft Tryd.prog 51 1 = some (50, 1) := by kernel_rfl
@[simp] theorem tk_52 : tk Tryd.prog 52 = some (true, 2) := by kernel_rfl
@[simp] theorem places_52 : places Tryd.prog 52 = some [(0, 1), (1, 1)] := by kernel_rfl
@[simp] theorem zvA_52 : zvA Tryd.prog 52 = some [AV.d (D.v (Value.int IntKind.u32 (0))), AV.d (D.v (Value.slice none 0 0))] := by kernel_rfl
@[simp] theorem ar_52 : ar Tryd.prog 52 = none := by kernel_rfl
@[simp] theorem fo_52_0 : fo Tryd.prog 52 0 = some 0 := by kernel_rfl
@[simp] theorem ft_52_0 : ft Tryd.prog 52 0 = some (22, 0) := by kernel_rfl
@[simp] theorem fo_52_1 : fo Tryd.prog 52 1 = some 1 := by kernel_rfl
@[simp] theorem ft_52_1 : ft Tryd.prog 52 1 = some (50, 1) := by kernel_rfl
@[simp] theorem tk_54 : tk Tryd.prog 54 = some (true, 4) := by kernel_rfl
@[simp] theorem places_54 : places Tryd.prog 54 = some [(0, 2), (2, 1), (3, 1)] := by kernel_rfl
@[simp] theorem zvA_54 : zvA Tryd.prog 54 = some [AV.d (D.v (Value.int IntKind.u32 (0))), AV.d (D.v (Value.slice none 0 0)), AV.d (D.v (Value.slice none 0 0)), AV.d (D.v (Value.slice none 0 0))] := by kernel_rfl
@[simp] theorem ar_54 : ar Tryd.prog 54 = none := by kernel_rfl
@[simp] theorem fo_54_0 : fo Tryd.prog 54 0 = some 0 := by kernel_rfl
@[simp] theorem ft_54_0 : ft Tryd.prog 54 0 = some (52, 0) := by kernel_rfl
@[simp] theorem fo_54_1 : fo Tryd.prog 54 1 = some 2 := by kernel_rfl
@[simp] theorem ft_54_1 : ft Tryd.prog 54 1 = some (53, 2) := by kernel_rfl
@[simp] theorem fo_54_2 : fo Tryd.prog 54 2 = some 3 := by kernel_rfl
@[simp] theorem ft_54_2 : ft Tryd.prog 54 2 = some (24, 3) := by kernel_rfl
@[simp] theorem tk_55 : tk Tryd.prog 55 = some (true, 4) := by kernel_rfl
@[simp] theorem places_55 : places Tryd.prog 55 = some [(0, 2), (2, 1), (3, 1)] := by kernel_rfl
@[simp] theorem zvA_55 : zvA Tryd.prog 55 = some [AV.d (D.v (Value.int IntKind.u32 (0))), AV.d (D.v (Value.slice none 0 0)), AV.d (D.v (Value.slice none 0 0)), AV.d (D.v (Value.slice none 0 0))] := by kernel_rfl
@[simp] theorem ar_55 : ar Tryd.prog 55 = none := by kernel_rfl
@[simp] theorem fo_55_0 : fo Tryd.prog 55 0 = some 0 := by kernel_rfl
@[simp] theorem ft_55_0 : ft Tryd.prog 55 0 = some (52, 0) := by kernel_rfl
@[simp] theorem fo_55_1 : fo Tryd.prog 55 1 = some 2 := by kernel_rfl
@[simp] theorem ft_55_1 : ft Tryd.prog 55 1 = some (53, 2) := by kernel_rfl
@[simp] theorem fo_55_2 : fo Tryd.prog 55 2 = some 3 := by kernel_rfl
@[simp] theorem ft_55_2 : ft Tryd.prog 55 2 = some (24, 3) := by kernel_rfl
@[simp] theorem tk_62 : tk Tryd.prog 62 = some (true, 2) := by kernel_rfl
@[simp] theorem places_62 : places Tryd.prog 62 = some [(0, 1), (1, 1)] := by kernel_rfl
@[simp] theorem zvA_62 : zvA Tryd.prog 62 = some [AV.d (D.v (Value.int IntKind.i64 (0))), AV.d (D.v (Value.slice none 0 0))] := by kernel_rfl
@[simp] theorem ar_62 : ar Tryd.prog 62 = none := by kernel_rfl
@[simp] theorem fo_62_0 : fo Tryd.prog 62 0 = some 0 := by kernel_rfl
@[simp] theorem ft_62_0 : ft Tryd.prog 62 0 = some (3, 0) := by kernel_rfl
@[simp] theorem fo_62_1 : fo Tryd.prog 62 1 = some 1 := by kernel_rfl
@[simp] theorem ft_62_1 : ft Tryd.prog 62 1 = some (24, 1) := by kernel_rfl
@[simp] theorem tk_63 : tk Tryd.prog 63 = some (true, 2) := by kernel_rfl
@[simp] theorem places_63 : places Tryd.prog 63 = some [(0, 1), (1, 1)] := by kernel_rfl
@[simp] theorem zvA_63 : zvA Tryd.prog 63 = some [AV.d (D.v (Value.int IntKind.i64 (0))), AV.d (D.v (Value.slice none 0 0))] := by kernel_rfl
@[simp] theorem ar_63 : ar Tryd.prog 63 = none := by kernel_rfl
@[simp] theorem fo_63_0 : fo Tryd.prog 63 0 = some 0 := by kernel_rfl
@[simp] theorem ft_63_0 : ft Tryd.prog 63 0 = some (3, 0) := by kernel_rfl
@[simp] theorem fo_63_1 : fo Tryd.prog 63 1 = some 1 := by kernel_rfl
@[simp] theorem ft_63_1 : ft Tryd.prog 63 1 = some (24, 1) := by kernel_rfl
@[simp] theorem tk_64 : tk Tryd.prog 64 = some (true, 2) := by kernel_rfl
@[simp] theorem places_64 : places Tryd.prog 64 = some [(0, 1), (1, 1)] := by kernel_rfl
@[simp] theorem zvA_64 : zvA Tryd.prog 64 = some [AV.d (D.v (Value.int IntKind.u32 (0))), AV.d (D.v (Value.slice none 0 0))] := by kernel_rfl
@[simp] theorem ar_64 : ar Tryd.prog 64 = none := by kernel_rfl
@[simp] theorem fo_64_0 : fo Tryd.prog 64 0 = some 0 := by kernel_rfl
@[simp] theorem ft_64_0 : ft Tryd.prog 64 0 = some (22, 0) := by kernel_rfl
@[simp] theorem fo_64_1 : fo Tryd.prog 64 1 = some 1 := by kernel_rfl
@[simp] theorem ft_64_1 : ft Tryd.prog 64 1 = some (28, 1) := by kernel_rfl
@[simp] theorem tk_65 : tk Tryd.prog 65 = some (true, 2) := by kernel_rfl
@[simp] theorem places_65 : places Tryd.prog 65 = some [(0, 1), (1, 1)] := by kernel_rfl
@[simp] theorem zvA_65 : zvA Tryd.prog 65 = some [AV.d (D.v (Value.int IntKind.u32 (0))), AV.d (D.v (Value.slice none 0 0))] := by kernel_rfl
@[simp] theorem ar_65 : ar Tryd.prog 65 = none := by kernel_rfl
@[simp] theorem fo_65_0 : fo Tryd.prog 65 0 = some 0 := by kernel_rfl
@[simp] theorem ft_65_0 : ft Tryd.prog 65 0 = some (22, 0) := by kernel_rfl
@[simp] theorem fo_65_1 : fo Tryd.prog 65 1 = some 1 := by kernel_rfl
@[simp] theorem ft_65_1 : ft Tryd.prog 65 1 = some (28, 1) := by kernel_rfl
@[simp] theorem tk_67 : tk Tryd.prog 67 = some (true, 10) := by kernel_rfl
@[simp] theorem places_67 : places Tryd.prog 67 = some [(0, 1), (1, 1), (2, 1), (3, 1), (4, 1), (5, 5)] := by kernel_rfl
@[simp] theorem zvA_67 : zvA Tryd.prog 67 = some [AV.d (D.v (Value.int IntKind.i64 (0))), AV.d (D.v (Value.int IntKind.i64 (0))), AV.d (D.v (Value.int IntKind.i64 (0))), AV.d (D.v (Value.int IntKind.i64 (0))), AV.d (D.v (Value.int IntKind.i64 (0))), AV.d (D.v (Value.int IntKind.i64 (0))), AV.d (D.v (Value.int IntKind.i64 (0))), AV.d (D.v (Value.int IntKind.i64 (0))), AV.d (D.v (Value.slice none 0 0)), AV.d (D.v (Value.slice none 0 0))] := by kernel_rfl
@[simp] theorem ar_67 : ar Tryd.prog 67 = none := by kernel_rfl
@[simp] theorem fo_67_0 : fo Tryd.prog 67 0 = some 0 := by kernel_rfl
@[simp] theorem ft_67_0 : ft Tryd.prog 67 0 = some (3, 0) := by kernel_rfl
@[simp] theorem fo_67_1 : fo Tryd.prog 67 1 = some 1 := by kernel_rfl
@[simp] theorem ft_67_1 : ft Tryd.prog 67 1 = some (3, 1) := by kernel_rfl
@[simp] theorem fo_67_2 : fo Tryd.prog 67 2 = some 2 := by kernel_rfl
@[simp] theorem ft_67_2 : ft Tryd.prog 67 2 = some (3, 2) := by kernel_rfl
@[simp] theorem fo_67_3 : fo Tryd.prog 67 3 = some 3 := by kernel_rfl
@[simp] theorem ft_67_3 : ft Tryd.prog 67 3 = some (3, 3) := by kernel_rfl
@[simp] theorem fo_67_4 : fo Tryd.prog 67 4 = some 4 := by kernel_rfl
@[simp] theorem ft_67_4 : ft Tryd.prog 67 4 = some (3, 4) := by kernel_rfl
@[simp] theorem fo_67_5 : fo Tryd.prog 67 5 = some 5 := by kernel_rfl
@[simp] theorem ft_67_5 : ft Tryd.prog 67 5 = some (46, 5) := by kernel_rfl
@[simp] theorem tk_77 : tk Tryd.prog 77 = some (true, 2) := by kernel_rfl
@[simp] theorem places_77 : places Tryd.prog 77 = some [(0, 1), (1, 1)] := by kernel_rfl
@[simp] theorem zvA_77 : zvA Tryd.prog 77 = some [AV.d (D.v (Value.slice none 0 0)), AV.d (D.v (Value.int IntKind.i64 (0)))] := by kernel_rfl
@[simp] theorem ar_77 : ar Tryd.prog 77 = none := by kernel_rfl
@[simp] theorem fo_77_0 : fo Tryd.prog 77 0 = some 0 := by kernel_rfl
@[simp] theorem ft_77_0 : ft Tryd.prog 77 0 = some (30, 0) := by kernel_rfl
@[simp] theorem fo_77_1 : fo Tryd.prog 77 1 = some 1 := by kernel_rfl
@[simp] theorem ft_77_1 : ft Tryd.prog 77 1 = some (3, 1) := by kernel_rfl
@[simp] theorem tk_78 : tk Tryd.prog 78 = some (true, 2) := by kernel_rfl
@[simp] theorem places_78 : places Tryd.prog 78 = some [(0, 1), (1, 1)] := by kernel_rfl
@[simp] theorem zvA_78 : zvA Tryd.prog 78 = some [AV.d (D.v (Value.slice none 0 0)), AV.d (D.v (Value.int IntKind.i64 (0)))] := by kernel_rfl
@[simp] theorem ar_78 : ar Tryd.prog 78 = none := by kernel_rfl
@[simp] theorem fo_78_0 : fo Tryd.prog 78 0 = some 0 := by kernel_rfl
@[simp] theorem ft_78_0 : ft Tryd.prog 78 0 = some (30, 0) := by kernel_rfl
@[simp] theorem fo_78_1 : fo Tryd.prog 78 1 = some 1 := by kernel_rfl
@[simp] theorem ft_78_1 : ft Tryd.prog 78 1 = some (3, 1) := by kernel_rfl
@[simp] theorem tk_82 : tk Tryd.prog 82 = some (true, 2) := by kernel_rfl
@[simp] theorem places_82 : places Tryd.prog 82 = some [(0, 1), (1, 1)] := by kernel_rfl
@[simp] theorem zvA_82 : zvA Tryd.prog 82 = some [AV.d (D.v (Value.slice none 0 0)), AV.d (D.v (Value.int IntKind.i64 (0)))] := by kernel_rfl
@[simp] theorem ar_82 : ar Tryd.prog 82 = none := by kernel_rfl
@[simp] theorem fo_82_0 : fo Tryd.prog 82 0 = some 0 := by kernel_rfl
@[simp] theorem ft_82_0 : ft Tryd.prog 82 0 = some (33, 0) := by kernel_rfl
@[simp] theorem fo_82_1 : fo Tryd.prog 82 1 = some 1 := by kernel_rfl
@[simp] theorem ft_82_1 : ft Tryd.prog 82 1 = some (3, 1) := by kernel_rfl
@[simp] theorem tk_83 : tk Tryd.prog 83 = some (true, 2) := by kernel_rfl
@[simp] theorem places_83 : places Tryd.prog 83 = some [(0, 1), (1, 1)] := by kernel_rfl
@[simp] theorem zvA_83 : zvA Tryd.prog 83 = some [AV.d (D.v (Value.slice none 0 0)), AV.d (D.v (Value.int IntKind.i64 (0)))] := by kernel_rfl
@[simp] theorem ar_83 : ar Tryd.prog 83 = none := by kernel_rfl
@[simp] theorem fo_83_0 : fo Tryd.prog 83 0 = some 0 := by kernel_rfl
@[simp] theorem ft_83_0 : ft Tryd.prog 83 0 = some (33, 0) := by kernel_rfl
@[simp] theorem fo_83_1 : fo Tryd.prog 83 1 = some 1 := by kernel_rfl
@[simp] theorem ft_83_1 : ft Tryd.prog 83 1 = some (3, 1) := by kernel_rfl
@[simp] theorem tk_89 : tk Tryd.prog 89 = some (true, 5) := by kernel_rfl
@[simp] theorem places_89 : places Tryd.prog 89 = some [(0, 1), (1, 1), (2, 1), (3, 1), (4, 1)] := by kernel_rfl
@[simp] theorem zvA_89 : zvA Tryd.prog 89 = some [AV.d (D.v (Value.int IntKind.i64 (0))), AV.d (D.v (Value.int IntKind.i64 (0))), AV.d (D.v (Value.int IntKind.i64 (0))), AV.d (D.v (Value.int IntKind.i64 (0))), AV.d (D.v (Value.int IntKind.i64 (0)))] := by kernel_rfl
@[simp] theorem ar_89 : ar Tryd.prog 89 = none := by kernel_rfl
@[simp] theorem fo_89_0 : fo Tryd.prog 89 0 = some 0 := by kernel_rfl
@[simp] theorem ft_89_0 : ft Tryd.prog 89 0 = some (3, 0) := by kernel_rfl
@[simp] theorem fo_89_1 : fo Tryd.prog 89 1 = some 1 := by kernel_rfl
@[simp] theorem ft_89_1 : ft Tryd.prog 89 1 = some (3, 1) := by kernel_rfl
@[simp] theorem fo_89_2 : fo Tryd.prog 89 2 = some 2 := by kernel_rfl
@[simp] theorem ft_89_2 : ft Tryd.prog 89 2 = some (3, 2) := by kernel_rfl
@[simp] theorem fo_89_3 : fo Tryd.prog 89 3 = some 3 := by kernel_rfl
@[simp] theorem ft_89_3 : ft Tryd.prog 89 3 = some (3, 3) := by kernel_rfl
@[simp] theorem fo_89_4 : fo Tryd.prog 89 4 = some 4 := by kernel_rfl
@[simp] theorem ft_89_4 : ft Tryd.prog 89 4 = some (3, 4) := by kernel_rfl
@[simp] theorem tk_90 : tk Tryd.prog 90 = some (true, 5) := by kernel_rfl
@[simp] theorem places_90 : places Tryd.prog 90 = some [(0, 1), (1, 1), (2, 1), (3, 1), (4, 1)] := by kernel_rfl
@[simp] theorem zvA_90 : zvA Tryd.prog 90 = some [AV.d (D.v (Value.int IntKind.i64 (0))), AV.d (D.v (Value.int IntKind.i64 (0))), AV.d (D.v (Value.int IntKind.i64 (0))), AV.d (D.v (Value.int IntKind.i64 (0))), AV.d (D.v (Value.int IntKind.i64 (0)))] := by kernel_rfl
@[simp] theorem ar_90 : ar Tryd.prog 90 = none := by kernel_rfl
@[simp] theorem fo_90_0 : fo Tryd.prog 90 0 = some 0 := by kernel_rfl
@[simp] theorem ft_90_0 : ft Tryd.prog 90 0 = some (3, 0) := by kernel_rfl
@[simp] theorem fo_90_1 : fo Tryd.prog 90 1 = some 1 := by kernel_rfl
@[simp] theorem ft_90_1 : ft Tryd.prog 90 1 = some (3, 1) := by kernel_rfl
@[simp] theorem fo_90_2 : fo Tryd.prog 90 2 = some 2 := by kernel_rfl
@[simp] theorem ft_90_2 : ft Tryd.prog 90 2 = some (3, 2) := by kernel_rfl
@[simp] theorem fo_90_3 : fo Tryd.prog 90 3 = some 3 := by kernel_rfl
@[simp] theorem ft_90_3 : ft Tryd.prog 90 3 = some (3, 3) := by kernel_rfl
@[simp] theorem fo_90_4 : fo Tryd.prog 90 4 = some 4 := by kernel_rfl
@[simp] theorem ft_90_4 : ft Tryd.prog 90 4 = some (3, 4) := by kernel_rfl
@[simp] theorem tk_120 : tk Tryd.prog 120 = some (true, 2) := by kernel_rfl
@[simp] theorem places_120 : places Tryd.prog 120 = some [(0, 1), (1, 1)] := by kernel_rfl
@[simp] theorem zvA_120 : zvA Tryd.prog 120 = some [AV.d (D.v (Value.pointer none)), AV.d (D.v (Value.slice none 0 0))] := by kernel_rfl
@[simp] theorem ar_120 : ar Tryd.prog 120 = none := by kernel_rfl
@[simp] theorem fo_120_0 : fo Tryd.prog 120 0 = some 0 := by kernel_rfl
@[simp] theorem ft_120_0 : ft Tryd.prog 120 0 = some (118, 0) := by kernel_rfl
@[simp] theorem fo_120_1 : fo Tryd.prog 120 1 = some 1 := by kernel_rfl
@[simp] theorem ft_120_1 : ft Tryd.prog 120 1 = some (119, 1) := by kernel_rfl
@[simp] theorem tk_121 : tk Tryd.prog 121 = some (true, 2) := by kernel_rfl
@[simp] theorem places_121 : places Tryd.prog 121 = some [(0, 1), (1, 1)] := by kernel_rfl
@[simp] theorem zvA_121 : zvA Tryd.prog 121 = some [AV.d (D.v (Value.pointer none)), AV.d (D.v (Value.slice none 0 0))] := by kernel_rfl
@[simp] theorem ar_121 : ar Tryd.prog 121 = none := by kernel_rfl
@[simp] theorem fo_121_0 : fo Tryd.prog 121 0 = some 0 := by kernel_rfl
@[simp] theorem ft_121_0 : ft Tryd.prog 121 0 = some (118, 0) := by kernel_rfl
@[simp] theorem fo_121_1 : fo Tryd.prog 121 1 = some 1 := by kernel_rfl
@[simp] theorem ft_121_1 : ft Tryd.prog 121 1 = some (119, 1) := by kernel_rfl
@[simp] theorem tk_122 : tk Tryd.prog 122 = some (true, 2) := by kernel_rfl
@[simp] theorem places_122 : places Tryd.prog 122 = some [(0, 2)] := by kernel_rfl
@[simp] theorem zvA_122 : zvA Tryd.prog 122 = some [AV.d (D.v (Value.pointer none)), AV.d (D.v (Value.slice none 0 0))] := by kernel_rfl
@[simp] theorem ar_122 : ar Tryd.prog 122 = none := by kernel_rfl
@[simp] theorem fo_122_0 : fo Tryd.prog 122 0 = some 0 := by kernel_rfl
@[simp] theorem ft_122_0 : ft Tryd.prog 122 0 = some (121, 0) := by kernel_rfl
@[simp] theorem tk_123 : tk Tryd.prog 123 = some (true, 2) := by kernel_rfl
@[simp] theorem places_123 : places Tryd.prog 123 = some [(0, 2)] := by kernel_rfl
@[simp] theorem zvA_123 : zvA Tryd.prog 123 = some [AV.d (D.v (Value.pointer none)), AV.d (D.v (Value.slice none 0 0))] := by kernel_rfl
@[simp] theorem ar_123 : ar Tryd.prog 123 = none := by kernel_rfl
@[simp] theorem fo_123_0 : fo Tryd.prog 123 0 = some 0 := by kernel_rfl
@[simp] theorem ft_123_0 : ft Tryd.prog 123 0 = some (121, 0) := by kernel_rfl
@[simp] theorem tk_137 : tk Tryd.prog 137 = some (true, 6) := by kernel_rfl
@[simp] theorem places_137 : places Tryd.prog 137 = some [(0, 1), (1, 5)] := by kernel_rfl
@[simp] theorem zvA_137 : zvA Tryd.prog 137 = some [AV.d (D.v (Value.int IntKind.i64 (0))), AV.d (D.v (Value.int IntKind.i64 (0))), AV.d (D.v (Value.int IntKind.i64 (0))), AV.d (D.v (Value.int IntKind.i64 (0))), AV.d (D.v (Value.slice none 0 0)), AV.d (D.v (Value.slice none 0 0))] := by kernel_rfl
@[simp] theorem ar_137 : ar Tryd.prog 137 = none := by kernel_rfl
@[simp] theorem fo_137_0 : fo Tryd.prog 137 0 = some 0 := by kernel_rfl
@[simp] theorem ft_137_0 : ft Tryd.prog 137 0 = some (3, 0) := by kernel_rfl
@[simp] theorem fo_137_1 : fo Tryd.prog 137 1 = some 1 := by kernel_rfl
@[simp] theorem ft_137_1 : ft Tryd.prog 137 1 = some (46, 1) := by kernel_rfl
@[simp] theorem tk_138 : tk Tryd.prog 138 = some (true, 6) := by kernel_rfl
@[simp] theorem places_138 : places Tryd.prog 138 = some [(0, 1), (1, 5)] := by kernel_rfl
@[simp] theorem zvA_138 : zvA Tryd.prog 138 = some [AV.d (D.v (Value.int IntKind.i64 (0))), AV.d (D.v (Value.int IntKind.i64 (0))), AV.d (D.v (Value.int IntKind.i64 (0))), AV.d (D.v (Value.int IntKind.i64 (0))), AV.d (D.v (Value.slice none 0 0)), AV.d (D.v (Value.slice none 0 0))] := by kernel_rfl
@[simp] theorem ar_138 : ar Tryd.prog 138 = none := by kernel_rfl
@[simp] theorem fo_138_0 : fo Tryd.prog 138 0 = some 0 := by kernel_rfl
@[simp] theorem ft_138_0 : ft Tryd.prog 138 0 = some (3, 0) := by kernel_rfl
@[simp] theorem fo_138_1 : fo Tryd.prog 138 1 = some 1 := by kernel_rfl
@[simp] theorem ft_138_1 : ft Tryd.prog 138 1 = some (46, 1) := by kernel_rfl
@[simp] theorem tk_191 : tk Tryd.prog 191 = some (true, 4) := by kernel_rfl
@[simp] theorem places_191 : places Tryd.prog 191 = some [(0, 1), (1, 1), (2, 1), (3, 1)] := by kernel_rfl
@[simp] theorem zvA_191 : zvA Tryd.prog 191 = some [AV.d (D.v (Value.pointer none)), AV.d (D.v (Value.pointer none)), AV.d (D.v (Value.pointer none)), AV.d (D.v (Value.string { data := #[] }))] := by kernel_rfl
@[simp] theorem ar_191 : ar Tryd.prog 191 = none := by kernel_rfl
@[simp] theorem fo_191_0 : fo Tryd.prog 191 0 = some 0 := by kernel_rfl
@[simp] theorem ft_191_0 : ft Tryd.prog 191 0 = some (17, 0) := by kernel_rfl
@[simp] theorem fo_191_1 : fo Tryd.prog 191 1 = some 1 := by kernel_rfl
@[simp] theorem ft_191_1 : ft Tryd.prog 191 1 = some (17, 1) := by kernel_rfl
@[simp] theorem fo_191_2 : fo Tryd.prog 191 2 = some 2 := by kernel_rfl
@[simp] theorem ft_191_2 : ft Tryd.prog 191 2 = some (17, 2) := by kernel_rfl
@[simp] theorem fo_191_3 : fo Tryd.prog 191 3 = some 3 := by kernel_rfl
@[simp] theorem ft_191_3 : ft Tryd.prog 191 3 = some (9, 3) := by kernel_rfl
@[simp] theorem tk_192 : tk Tryd.prog 192 = some (true, 4) := by kernel_rfl
@[simp] theorem places_192 : places Tryd.prog 192 = some [(0, 1), (1, 1), (2, 1), (3, 1)] := by kernel_rfl
@[simp] theorem zvA_192 : zvA Tryd.prog 192 = some [AV.d (D.v (Value.pointer none)), AV.d (D.v (Value.pointer none)), AV.d (D.v (Value.pointer none)), AV.d (D.v (Value.string { data := #[] }))] := by kernel_rfl
@[simp] theorem ar_192 : ar Tryd.prog 192 = none := by kernel_rfl
@[simp] theorem fo_192_0 : fo Tryd.prog 192 0 = some 0 := by kernel_rfl
@[simp] theorem ft_192_0 : ft Tryd.prog 192 0 = some (17, 0) := by kernel_rfl
@[simp] theorem fo_192_1 : fo Tryd.prog 192 1 = some 1 := by kernel_rfl
@[simp] theorem ft_192_1 : ft Tryd.prog 192 1 = some (17, 1) := by kernel_rfl
@[simp] theorem fo_192_2 : fo Tryd.prog 192 2 = some 2 := by kernel_rfl
@[simp] theorem ft_192_2 : ft Tryd.prog 192 2 = some (17, 2) := by kernel_rfl
@[simp] theorem fo_192_3 : fo Tryd.prog 192 3 = some 3 := by kernel_rfl
@[simp] theorem ft_192_3 : ft Tryd.prog 192 3 = some (9, 3) := by kernel_rfl
@[simp] theorem tk_194 : tk Tryd.prog 194 = some (true, 0) := by kernel_rfl
@[simp] theorem places_194 : places Tryd.prog 194 = some [(0, 0)] := by kernel_rfl
@[simp] theorem zvA_194 : zvA Tryd.prog 194 = some [] := by kernel_rfl
@[simp] theorem ar_194 : ar Tryd.prog 194 = none := by kernel_rfl
@[simp] theorem ft_194_0 : ft Tryd.prog 194 0 = some (193, 0) := by kernel_rfl
@[simp] theorem tk_195 : tk Tryd.prog 195 = some (true, 0) := by kernel_rfl
@[simp] theorem places_195 : places Tryd.prog 195 = some [(0, 0)] := by kernel_rfl
@[simp] theorem zvA_195 : zvA Tryd.prog 195 = some [] := by kernel_rfl
@[simp] theorem ar_195 : ar Tryd.prog 195 = none := by kernel_rfl
@[simp] theorem ft_195_0 : ft Tryd.prog 195 0 = some (193, 0) := by kernel_rfl
@[simp] theorem tk_201 : tk Tryd.prog 201 = some (true, 11) := by kernel_rfl
@[simp] theorem places_201 : places Tryd.prog 201 = some [(0, 1), (1, 1), (2, 1), (3, 1), (4, 1), (5, 1), (6, 1), (7, 1), (8, 1), (9, 1), (10, 1)] := by kernel_rfl
@[simp] theorem zvA_201 : zvA Tryd.prog 201 = some [AV.d (D.v (Value.int IntKind.u64 (0))), AV.d (D.v (Value.int IntKind.u64 (0))), AV.d (D.v (Value.int IntKind.u32 (0))), AV.d (D.v (Value.int IntKind.u8 (0))), AV.d (D.v (Value.int IntKind.u8 (0))), AV.d (D.v (Value.int IntKind.u8 (0))), AV.d (D.v (Value.int IntKind.u8 (0))), AV.d (D.v Value.nilFunc), AV.d (D.v (Value.pointer none)), AV.d (D.v (Value.int IntKind.i32 (0))), AV.d (D.v (Value.int IntKind.i32 (0)))] := by kernel_rfl
@[simp] theorem ar_201 : ar Tryd.prog 201 = none := by kernel_rfl
@[simp] theorem fo_201_0 : fo Tryd.prog 201 0 = some 0 := by kernel_rfl
@[simp] theorem ft_201_0 : ft Tryd.prog 201 0 = some (12, 0) := by kernel_rfl
@[simp] theorem fo_201_1 : fo Tryd.prog 201 1 = some 1 := by kernel_rfl
@[simp] theorem ft_201_1 : ft Tryd.prog 201 1 = some (12, 1) := by kernel_rfl
@[simp] theorem fo_201_2 : fo Tryd.prog 201 2 = some 2 := by kernel_rfl
@[simp] theorem ft_201_2 : ft Tryd.prog 201 2 = some (22, 2) := by kernel_rfl
@[simp] theorem fo_201_3 : fo Tryd.prog 201 3 = some 3 := by kernel_rfl
@[simp] theorem ft_201_3 : ft Tryd.prog 201 3 = some (196, 3) := by kernel_rfl
@[simp] theorem fo_201_4 : fo Tryd.prog 201 4 = some 4 := by kernel_rfl
@[simp] theorem ft_201_4 : ft Tryd.prog 201 4 = some (5, 4) := by kernel_rfl
@[simp] theorem fo_201_5 : fo Tryd.prog 201 5 = some 5 := by kernel_rfl
@[simp] theorem ft_201_5 : ft Tryd.prog 201 5 = some (5, 5) := by kernel_rfl
@[simp] theorem fo_201_6 : fo Tryd.prog 201 6 = some 6 := by kernel_rfl
@[simp] theorem ft_201_6 : ft Tryd.prog 201 6 = some (197, 6) := by kernel_rfl
@[simp] theorem fo_201_7 : fo Tryd.prog 201 7 = some 7 := by kernel_rfl
@[simp] theorem ft_201_7 : ft Tryd.prog 201 7 = some (198, 7) := by kernel_rfl
@[simp] theorem fo_201_8 : fo Tryd.prog 201 8 = some 8 := by kernel_rfl
@[simp] theorem ft_201_8 : ft Tryd.prog 201 8 = some (160, 8) := by kernel_rfl
@[simp] theorem fo_201_9 : fo Tryd.prog 201 9 = some 9 := by kernel_rfl
@[simp] theorem ft_201_9 : ft Tryd.prog 201 9 = some (199, 9) := by kernel_rfl
@[simp] theorem fo_201_10 : fo Tryd.prog 201 10 = some 10 := by kernel_rfl
@[simp] theorem ft_201_10 : ft Tryd.prog 201 10 = some (200, 10) := by kernel_rfl
@[simp] theorem tk_202 : tk Tryd.prog 202 = some (true, 11) := by kernel_rfl
@[simp] theorem places_202 : places Tryd.prog 202 = some [(0, 1), (1, 1), (2, 1), (3, 1), (4, 1), (5, 1), (6, 1), (7, 1), (8, 1), (9, 1), (10, 1)] := by kernel_rfl
@[simp] theorem zvA_202 : zvA Tryd.prog 202 = some [AV.d (D.v (Value.int IntKind.u64 (0))), AV.d (D.v (Value.int IntKind.u64 (0))), AV.d (D.v (Value.int IntKind.u32 (0))), AV.d (D.v (Value.int IntKind.u8 (0))), AV.d (D.v (Value.int IntKind.u8 (0))), AV.d (D.v (Value.int IntKind.u8 (0))), AV.d (D.v (Value.int IntKind.u8 (0))), AV.d (D.v Value.nilFunc), AV.d (D.v (Value.pointer none)), AV.d (D.v (Value.int IntKind.i32 (0))), AV.d (D.v (Value.int IntKind.i32 (0)))] := by kernel_rfl
@[simp] theorem ar_202 : ar Tryd.prog 202 = none := by kernel_rfl
@[simp] theorem fo_202_0 : fo Tryd.prog 202 0 = some 0 := by kernel_rfl
@[simp] theorem ft_202_0 : ft Tryd.prog 202 0 = some (12, 0) := by kernel_rfl
@[simp] theorem fo_202_1 : fo Tryd.prog 202 1 = some 1 := by kernel_rfl
@[simp] theorem ft_202_1 : ft Tryd.prog 202 1 = some (12, 1) := by kernel_rfl
@[simp] theorem fo_202_2 : fo Tryd.prog 202 2 = some 2 := by kernel_rfl
@[simp] theorem ft_202_2 : ft Tryd.prog 202 2 = some (22, 2) := by kernel_rfl
@[simp] theorem fo_202_3 : fo Tryd.prog 202 3 = some 3 := by kernel_rfl
@[simp] theorem ft_202_3 : ft Tryd.prog 202 3 = some (196, 3) := by kernel_rfl
@[simp] theorem fo_202_4 : fo Tryd.prog 202 4 = some 4 := by kernel_rfl
@[simp] theorem ft_202_4 : ft Tryd.prog 202 4 = some (5, 4) := by kernel_rfl
@[simp] theorem fo_202_5 : fo Tryd.prog 202 5 = some 5 := by kernel_rfl
@[simp] theorem ft_202_5 : ft Tryd.prog 202 5 = some (5, 5) := by kernel_rfl
@[simp] theorem fo_202_6 : fo Tryd.prog 202 6 = some 6 := by kernel_rfl
@[simp] theorem ft_202_6 : ft Tryd.prog 202 6 = some (197, 6) := by kernel_rfl
@[simp] theorem fo_202_7 : fo Tryd.prog 202 7 = some 7 := by kernel_rfl
@[simp] theorem ft_202_7 : ft Tryd.prog 202 7 = some (198, 7) := by kernel_rfl
@[simp] theorem fo_202_8 : fo Tryd.prog 202 8 = some 8 := by kernel_rfl
@[simp] theorem ft_202_8 : ft Tryd.prog 202 8 = some (160, 8) := by kernel_rfl
@[simp] theorem fo_202_9 : fo Tryd.prog 202 9 = some 9 := by kernel_rfl
@[simp] theorem ft_202_9 : ft Tryd.prog 202 9 = some (199, 9) := by kernel_rfl
@[simp] theorem fo_202_10 : fo Tryd.prog 202 10 = some 10 := by kernel_rfl
@[simp] theorem ft_202_10 : ft Tryd.prog 202 10 = some (200, 10) := by kernel_rfl
@[simp] theorem tk_60 : tk Tryd.prog 60 = some (true, 5) := by kernel_rfl
@[simp] theorem places_60 : places Tryd.prog 60 = none := by kernel_rfl
@[simp] theorem zvA_60 : zvA Tryd.prog 60 = some [AV.d (D.v (Value.int IntKind.i64 (0))), AV.d (D.v (Value.int IntKind.i64 (0))), AV.d (D.v (Value.int IntKind.i64 (0))), AV.d (D.v (Value.int IntKind.i64 (0))), AV.d (D.v (Value.int IntKind.i64 (0)))] := by kernel_rfl
@[simp] theorem ar_60 : ar Tryd.prog 60 = some (5, 3, 1) := by kernel_rfl
@[simp] theorem tk_163 : tk Tryd.prog 163 = some (true, 13) := by kernel_rfl
@[simp] theorem places_163 : places Tryd.prog 163 = none := by kernel_rfl
@[simp] theorem zvA_163 : zvA Tryd.prog 163 = some [AV.d (D.v (Value.string { data := #[] })), AV.d (D.v (Value.string { data := #[] })), AV.d (D.v (Value.string { data := #[] })), AV.d (D.v (Value.string { data := #[] })), AV.d (D.v (Value.string { data := #[] })), AV.d (D.v (Value.string { data := #[] })), AV.d (D.v (Value.string { data := #[] })), AV.d (D.v (Value.string { data := #[] })), AV.d (D.v (Value.string { data := #[] })), AV.d (D.v (Value.string { data := #[] })), AV.d (D.v (Value.string { data := #[] })), AV.d (D.v (Value.string { data := #[] })), AV.d (D.v (Value.string { data := #[] }))] := by kernel_rfl
@[simp] theorem ar_163 : ar Tryd.prog 163 = some (13, 9, 1) := by kernel_rfl
@[simp] theorem tk_172 : tk Tryd.prog 172 = some (true, 24) := by kernel_rfl
@[simp] theorem places_172 : places Tryd.prog 172 = none := by kernel_rfl
@[simp] theorem zvA_172 : zvA Tryd.prog 172 = some [AV.d (D.v (Value.int IntKind.u8 (0))), AV.d (D.v (Value.int IntKind.u8 (0))), AV.d (D.v (Value.int IntKind.u8 (0))), AV.d (D.v (Value.int IntKind.u8 (0))), AV.d (D.v (Value.int IntKind.u8 (0))), AV.d (D.v (Value.int IntKind.u8 (0))), AV.d (D.v (Value.int IntKind.u8 (0))), AV.d (D.v (Value.int IntKind.u8 (0))), AV.d (D.v (Value.int IntKind.u8 (0))), AV.d (D.v (Value.int IntKind.u8 (0))), AV.d (D.v (Value.int IntKind.u8 (0))), AV.d (D.v (Value.int IntKind.u8 (0))), AV.d (D.v (Value.int IntKind.u8 (0))), AV.d (D.v (Value.int IntKind.u8 (0))), AV.d (D.v (Value.int IntKind.u8 (0))), AV.d (D.v (Value.int IntKind.u8 (0))), AV.d (D.v (Value.int IntKind.u8 (0))), AV.d (D.v (Value.int IntKind.u8 (0))), AV.d (D.v (Value.int IntKind.u8 (0))), AV.d (D.v (Value.int IntKind.u8 (0))), AV.d (D.v (Value.int IntKind.u8 (0))), AV.d (D.v (Value.int IntKind.u8 (0))), AV.d (D.v (Value.int IntKind.u8 (0))), AV.d (D.v (Value.int IntKind.u8 (0)))] := by kernel_rfl
@[simp] theorem ar_172 : ar Tryd.prog 172 = some (24, 5, 1) := by kernel_rfl
@[simp] theorem tk_182 : tk Tryd.prog 182 = some (true, 20) := by kernel_rfl
@[simp] theorem places_182 : places Tryd.prog 182 = none := by kernel_rfl
@[simp] theorem zvA_182 : zvA Tryd.prog 182 = some [AV.d (D.v (Value.int IntKind.u64 (0))), AV.d (D.v (Value.int IntKind.u64 (0))), AV.d (D.v (Value.int IntKind.u64 (0))), AV.d (D.v (Value.int IntKind.u64 (0))), AV.d (D.v (Value.int IntKind.u64 (0))), AV.d (D.v (Value.int IntKind.u64 (0))), AV.d (D.v (Value.int IntKind.u64 (0))), AV.d (D.v (Value.int IntKind.u64 (0))), AV.d (D.v (Value.int IntKind.u64 (0))), AV.d (D.v (Value.int IntKind.u64 (0))), AV.d (D.v (Value.int IntKind.u64 (0))), AV.d (D.v (Value.int IntKind.u64 (0))), AV.d (D.v (Value.int IntKind.u64 (0))), AV.d (D.v (Value.int IntKind.u64 (0))), AV.d (D.v (Value.int IntKind.u64 (0))), AV.d (D.v (Value.int IntKind.u64 (0))), AV.d (D.v (Value.int IntKind.u64 (0))), AV.d (D.v (Value.int IntKind.u64 (0))), AV.d (D.v (Value.int IntKind.u64 (0))), AV.d (D.v (Value.int IntKind.u64 (0)))] := by kernel_rfl
@[simp] theorem ar_182 : ar Tryd.prog 182 = some (20, 131, 1) := by kernel_rfl
@[simp] theorem tk_183 : tk Tryd.prog 183 = some (true, 65) := by kernel_rfl
@[simp] theorem places_183 : places Tryd.prog 183 = none := by kernel_rfl
@[simp] theorem zvA_183 : zvA Tryd.prog 183 = some [AV.d (D.v (Value.int IntKind.u8 (0))), AV.d (D.v (Value.int IntKind.u8 (0))), AV.d (D.v (Value.int IntKind.u8 (0))), AV.d (D.v (Value.int IntKind.u8 (0))), AV.d (D.v (Value.int IntKind.u8 (0))), AV.d (D.v (Value.int IntKind.u8 (0))), AV.d (D.v (Value.int IntKind.u8 (0))), AV.d (D.v (Value.int IntKind.u8 (0))), AV.d (D.v (Value.int IntKind.u8 (0))), AV.d (D.v (Value.int IntKind.u8 (0))), AV.d (D.v (Value.int IntKind.u8 (0))), AV.d (D.v (Value.int IntKind.u8 (0))), AV.d (D.v (Value.int IntKind.u8 (0))), AV.d (D.v (Value.int IntKind.u8 (0))), AV.d (D.v (Value.int IntKind.u8 (0))), AV.d (D.v (Value.int IntKind.u8 (0))), AV.d (D.v (Value.int IntKind.u8 (0))), AV.d (D.v (Value.int IntKind.u8 (0))), AV.d (D.v (Value.int IntKind.u8 (0))), AV.d (D.v (Value.int IntKind.u8 (0))), AV.d (D.v (Value.int IntKind.u8 (0))), AV.d (D.v (Value.int IntKind.u8 (0))), AV.d (D.v (Value.int IntKind.u8 (0))), AV.d (D.v (Value.int IntKind.u8 (0))), AV.d (D.v (Value.int IntKind.u8 (0))), AV.d (D.v (Value.int IntKind.u8 (0))), AV.d (D.v (Value.int IntKind.u8 (0))), AV.d (D.v (Value.int IntKind.u8 (0))), AV.d (D.v (Value.int IntKind.u8 (0))), AV.d (D.v (Value.int IntKind.u8 (0))), AV.d (D.v (Value.int IntKind.u8 (0))), AV.d (D.v (Value.int IntKind.u8 (0))), AV.d (D.v (Value.int IntKind.u8 (0))), AV.d (D.v (Value.int IntKind.u8 (0))), AV.d (D.v (Value.int IntKind.u8 (0))), AV.d (D.v (Value.int IntKind.u8 (0))), AV.d (D.v (Value.int IntKind.u8 (0))), AV.d (D.v (Value.int IntKind.u8 (0))), AV.d (D.v (Value.int IntKind.u8 (0))), AV.d (D.v (Value.int IntKind.u8 (0))), AV.d (D.v (Value.int IntKind.u8 (0))), AV.d (D.v (Value.int IntKind.u8 (0))), AV.d (D.v (Value.int IntKind.u8 (0))), AV.d (D.v (Value.int IntKind.u8 (0))), AV.d (D.v (Value.int IntKind.u8 (0))), AV.d (D.v (Value.int IntKind.u8 (0))), AV.d (D.v (Value.int IntKind.u8 (0))), AV.d (D.v (Value.int IntKind.u8 (0))), AV.d (D.v (Value.int IntKind.u8 (0))), AV.d (D.v (Value.int IntKind.u8 (0))), AV.d (D.v (Value.int IntKind.u8 (0))), AV.d (D.v (Value.int IntKind.u8 (0))), AV.d (D.v (Value.int IntKind.u8 (0))), AV.d (D.v (Value.int IntKind.u8 (0))), AV.d (D.v (Value.int IntKind.u8 (0))), AV.d (D.v (Value.int IntKind.u8 (0))), AV.d (D.v (Value.int IntKind.u8 (0))), AV.d (D.v (Value.int IntKind.u8 (0))), AV.d (D.v (Value.int IntKind.u8 (0))), AV.d (D.v (Value.int IntKind.u8 (0))), AV.d (D.v (Value.int IntKind.u8 (0))), AV.d (D.v (Value.int IntKind.u8 (0))), AV.d (D.v (Value.int IntKind.u8 (0))), AV.d (D.v (Value.int IntKind.u8 (0))), AV.d (D.v (Value.int IntKind.u8 (0)))] := by kernel_rfl
@[simp] theorem ar_183 : ar Tryd.prog 183 = some (65, 5, 1) := by kernel_rfl
@[simp] theorem tk_189 : tk Tryd.prog 189 = some (true, 32) := by kernel_rfl
@[simp] theorem places_189 : places Tryd.prog 189 = none := by kernel_rfl
@[simp] theorem zvA_189 : zvA Tryd.prog 189 = some [AV.d (D.v (Value.int IntKind.u8 (0))), AV.d (D.v (Value.int IntKind.u8 (0))), AV.d (D.v (Value.int IntKind.u8 (0))), AV.d (D.v (Value.int IntKind.u8 (0))), AV.d (D.v (Value.int IntKind.u8 (0))), AV.d (D.v (Value.int IntKind.u8 (0))), AV.d (D.v (Value.int IntKind.u8 (0))), AV.d (D.v (Value.int IntKind.u8 (0))), AV.d (D.v (Value.int IntKind.u8 (0))), AV.d (D.v (Value.int IntKind.u8 (0))), AV.d (D.v (Value.int IntKind.u8 (0))), AV.d (D.v (Value.int IntKind.u8 (0))), AV.d (D.v (Value.int IntKind.u8 (0))), AV.d (D.v (Value.int IntKind.u8 (0))), AV.d (D.v (Value.int IntKind.u8 (0))), AV.d (D.v (Value.int IntKind.u8 (0))), AV.d (D.v (Value.int IntKind.u8 (0))), AV.d (D.v (Value.int IntKind.u8 (0))), AV.d (D.v (Value.int IntKind.u8 (0))), AV.d (D.v (Value.int IntKind.u8 (0))), AV.d (D.v (Value.int IntKind.u8 (0))), AV.d (D.v (Value.int IntKind.u8 (0))), AV.d (D.v (Value.int IntKind.u8 (0))), AV.d (D.v (Value.int IntKind.u8 (0))), AV.d (D.v (Value.int IntKind.u8 (0))), AV.d (D.v (Value.int IntKind.u8 (0))), AV.d (D.v (Value.int IntKind.u8 (0))), AV.d (D.v (Value.int IntKind.u8 (0))), AV.d (D.v (Value.int IntKind.u8 (0))), AV.d (D.v (Value.int IntKind.u8 (0))), AV.d (D.v (Value.int IntKind.u8 (0))), AV.d (D.v (Value.int IntKind.u8 (0)))] := by kernel_rfl
@[simp] theorem ar_189 : ar Tryd.prog 189 = some (32, 5, 1) := by kernel_rfl
@[simp] theorem tk_190 : tk Tryd.prog 190 = some (true, 64) := by kernel_rfl
@[simp] theorem places_190 : places Tryd.prog 190 = none := by kernel_rfl
@[simp] theorem zvA_190 : zvA Tryd.prog 190 = some [AV.d (D.v (Value.int IntKind.u8 (0))), AV.d (D.v (Value.int IntKind.u8 (0))), AV.d (D.v (Value.int IntKind.u8 (0))), AV.d (D.v (Value.int IntKind.u8 (0))), AV.d (D.v (Value.int IntKind.u8 (0))), AV.d (D.v (Value.int IntKind.u8 (0))), AV.d (D.v (Value.int IntKind.u8 (0))), AV.d (D.v (Value.int IntKind.u8 (0))), AV.d (D.v (Value.int IntKind.u8 (0))), AV.d (D.v (Value.int IntKind.u8 (0))), AV.d (D.v (Value.int IntKind.u8 (0))), AV.d (D.v (Value.int IntKind.u8 (0))), AV.d (D.v (Value.int IntKind.u8 (0))), AV.d (D.v (Value.int IntKind.u8 (0))), AV.d (D.v (Value.int IntKind.u8 (0))), AV.d (D.v (Value.int IntKind.u8 (0))), AV.d (D.v (Value.int IntKind.u8 (0))), AV.d (D.v (Value.int IntKind.u8 (0))), AV.d (D.v (Value.int IntKind.u8 (0))), AV.d (D.v (Value.int IntKind.u8 (0))), AV.d (D.v (Value.int IntKind.u8 (0))), AV.d (D.v (Value.int IntKind.u8 (0))), AV.d (D.v (Value.int IntKind.u8 (0))), AV.d (D.v (Value.int IntKind.u8 (0))), AV.d (D.v (Value.int IntKind.u8 (0))), AV.d (D.v (Value.int IntKind.u8 (0))), AV.d (D.v (Value.int IntKind.u8 (0))), AV.d (D.v (Value.int IntKind.u8 (0))), AV.d (D.v (Value.int IntKind.u8 (0))), AV.d (D.v (Value.int IntKind.u8 (0))), AV.d (D.v (Value.int IntKind.u8 (0))), AV.d (D.v (Value.int IntKind.u8 (0))), AV.d (D.v (Value.int IntKind.u8 (0))), AV.d (D.v (Value.int IntKind.u8 (0))), AV.d (D.v (Value.int IntKind.u8 (0))), AV.d (D.v (Value.int IntKind.u8 (0))), AV.d (D.v (Value.int IntKind.u8 (0))), AV.d (D.v (Value.int IntKind.u8 (0))), AV.d (D.v (Value.int IntKind.u8 (0))), AV.d (D.v (Value.int IntKind.u8 (0))), AV.d (D.v (Value.int IntKind.u8 (0))), AV.d (D.v (Value.int IntKind.u8 (0))), AV.d (D.v (Value.int IntKind.u8 (0))), AV.d (D.v (Value.int IntKind.u8 (0))), AV.d (D.v (Value.int IntKind.u8 (0))), AV.d (D.v (Value.int IntKind.u8 (0))), AV.d (D.v (Value.int IntKind.u8 (0))), AV.d (D.v (Value.int IntKind.u8 (0))), AV.d (D.v (Value.int IntKind.u8 (0))), AV.d (D.v (Value.int IntKind.u8 (0))), AV.d (D.v (Value.int IntKind.u8 (0))), AV.d (D.v (Value.int IntKind.u8 (0))), AV.d (D.v (Value.int IntKind.u8 (0))), AV.d (D.v (Value.int IntKind.u8 (0))), AV.d (D.v (Value.int IntKind.u8 (0))), AV.d (D.v (Value.int IntKind.u8 (0))), AV.d (D.v (Value.int IntKind.u8 (0))), AV.d (D.v (Value.int IntKind.u8 (0))), AV.d (D.v (Value.int IntKind.u8 (0))), AV.d (D.v (Value.int IntKind.u8 (0))), AV.d (D.v (Value.int IntKind.u8 (0))), AV.d (D.v (Value.int IntKind.u8 (0))), AV.d (D.v (Value.int IntKind.u8 (0))), AV.d (D.v (Value.int IntKind.u8 (0)))] := by kernel_rfl
@[simp] theorem ar_190 : ar Tryd.prog 190 = some (64, 5, 1) := by kernel_rfl
@[simp] theorem tk_193 : tk Tryd.prog 193 = some (true, 0) := by kernel_rfl
@[simp] theorem places_193 : places Tryd.prog 193 = none := by kernel_rfl
@[simp] theorem zvA_193 : zvA Tryd.prog 193 = some [] := by kernel_rfl
@[simp] theorem ar_193 : ar Tryd.prog 193 = some (0, 16, 1) := by kernel_rfl
@[simp] theorem tk_23 : tk Tryd.prog 23 = some (false, 1) := by kernel_rfl
@[simp] theorem sl_23 : sl Tryd.prog 23 = some (39, 5) := by kernel_rfl
@[simp] theorem zvA_23 : zvA Tryd.prog 23 = some [AV.d (D.v (Value.slice none 0 0))] := by kernel_rfl
@[simp] theorem byt_23 : byt Tryd.prog 23 = some (39, 5, 56) := by kernel_rfl
@[simp] theorem tk_24 : tk Tryd.prog 24 = some (false, 1) := by kernel_rfl
@[simp] theorem sl_24 : sl Tryd.prog 24 = some (3, 1) := by kernel_rfl
@[simp] theorem zvA_24 : zvA Tryd.prog 24 = some [AV.d (D.v (Value.slice none 0 0))] := by kernel_rfl
@[simp] theorem byt_24 : byt Tryd.prog 24 = some (3, 1, 8) := by kernel_rfl
@[simp] theorem tk_28 : tk Tryd.prog 28 = some (false, 1) := by kernel_rfl
@[simp] theorem sl_28 : sl Tryd.prog 28 = some (26, 8) := by kernel_rfl
@[simp] theorem zvA_28 : zvA Tryd.prog 28 = some [AV.d (D.v (Value.slice none 0 0))] := by kernel_rfl
@[simp] theorem byt_28 : byt Tryd.prog 28 = some (26, 8, 96) := by kernel_rfl
@[simp] theorem tk_30 : tk Tryd.prog 30 = some (false, 1) := by kernel_rfl
@[simp] theorem sl_30 : sl Tryd.prog 30 = some (48, 10) := by kernel_rfl
@[simp] theorem zvA_30 : zvA Tryd.prog 30 = some [AV.d (D.v (Value.slice none 0 0))] := by kernel_rfl
@[simp] theorem byt_30 : byt Tryd.prog 30 = some (48, 10, 112) := by kernel_rfl
@[simp] theorem tk_33 : tk Tryd.prog 33 = some (false, 1) := by kernel_rfl
@[simp] theorem sl_33 : sl Tryd.prog 33 = some (67, 10) := by kernel_rfl
@[simp] theorem zvA_33 : zvA Tryd.prog 33 = some [AV.d (D.v (Value.slice none 0 0))] := by kernel_rfl
@[simp] theorem byt_33 : byt Tryd.prog 33 = some (67, 10, 112) := by kernel_rfl
@[simp] theorem tk_43 : tk Tryd.prog 43 = some (false, 1) := by kernel_rfl
@[simp] theorem sl_43 : sl Tryd.prog 43 = some (46, 5) := by kernel_rfl
@[simp] theorem zvA_43 : zvA Tryd.prog 43 = some [AV.d (D.v (Value.slice none 0 0))] := by kernel_rfl
@[simp] theorem byt_43 : byt Tryd.prog 43 = some (46, 5, 72) := by kernel_rfl
@[simp] theorem tk_44 : tk Tryd.prog 44 = some (false, 1) := by kernel_rfl
@[simp] theorem sl_44 : sl Tryd.prog 44 = some (138, 6) := by kernel_rfl
@[simp] theorem zvA_44 : zvA Tryd.prog 44 = some [AV.d (D.v (Value.slice none 0 0))] := by kernel_rfl
@[simp] theorem byt_44 : byt Tryd.prog 44 = some (138, 6, 80) := by kernel_rfl
@[simp] theorem tk_50 : tk Tryd.prog 50 = some (false, 1) := by kernel_rfl
@[simp] theorem sl_50 : sl Tryd.prog 50 = some (65, 2) := by kernel_rfl
@[simp] theorem zvA_50 : zvA Tryd.prog 50 = some [AV.d (D.v (Value.slice none 0 0))] := by kernel_rfl
@[simp] theorem byt_50 : byt Tryd.prog 50 = some (65, 2, 32) := by kernel_rfl
@[simp] theorem tk_53 : tk Tryd.prog 53 = some (false, 1) := by kernel_rfl
@[simp] theorem sl_53 : sl Tryd.prog 53 = some (61, 1) := by kernel_rfl
@[simp] theorem zvA_53 : zvA Tryd.prog 53 = some [AV.d (D.v (Value.slice none 0 0))] := by kernel_rfl
@[simp] theorem byt_53 : byt Tryd.prog 53 = some (61, 1, 24) := by kernel_rfl
@[simp] theorem tk_61 : tk Tryd.prog 61 = some (false, 1) := by kernel_rfl
@[simp] theorem sl_61 : sl Tryd.prog 61 = some (63, 2) := by kernel_rfl
@[simp] theorem zvA_61 : zvA Tryd.prog 61 = some [AV.d (D.v (Value.slice none 0 0))] := by kernel_rfl
@[simp] theorem byt_61 : byt Tryd.prog 61 = some (63, 2, 32) := by kernel_rfl
@[simp] theorem tk_119 : tk Tryd.prog 119 = some (false, 1) := by kernel_rfl
@[simp] theorem sl_119 : sl Tryd.prog 119 = some (5, 1) := by kernel_rfl
@[simp] theorem zvA_119 : zvA Tryd.prog 119 = some [AV.d (D.v (Value.slice none 0 0))] := by kernel_rfl
@[simp] theorem byt_119 : byt Tryd.prog 119 = some (5, 1, 1) := by kernel_rfl
@[simp] theorem tk_128 : tk Tryd.prog 128 = some (false, 1) := by kernel_rfl
@[simp] theorem sl_128 : sl Tryd.prog 128 = some (9, 1) := by kernel_rfl
@[simp] theorem zvA_128 : zvA Tryd.prog 128 = some [AV.d (D.v (Value.slice none 0 0))] := by kernel_rfl
@[simp] theorem byt_128 : byt Tryd.prog 128 = some (9, 1, 16) := by kernel_rfl
@[simp] theorem tk_2 : tk Tryd.prog 2 = some (false, 1) := by kernel_rfl
@[simp] theorem isInt_2 : isInt Tryd.prog 2 = some IntKind.i64 := by kernel_rfl
@[simp] theorem isStr_2 : isStr Tryd.prog 2 = false := by kernel_rfl
@[simp] theorem zvA_2 : zvA Tryd.prog 2 = some [AV.d (D.v (Value.int IntKind.i64 (0)))] := by kernel_rfl
@[simp] theorem tk_3 : tk Tryd.prog 3 = some (false, 1) := by kernel_rfl
@[simp] theorem isInt_3 : isInt Tryd.prog 3 = some IntKind.i64 := by kernel_rfl
@[simp] theorem isStr_3 : isStr Tryd.prog 3 = false := by kernel_rfl
@[simp] theorem zvA_3 : zvA Tryd.prog 3 = some [AV.d (D.v (Value.int IntKind.i64 (0)))] := by kernel_rfl
@[simp] theorem tk_4 : tk Tryd.prog 4 = some (false, 1) := by kernel_rfl
@[simp] theorem isInt_4 : isInt Tryd.prog 4 = none := by kernel_rfl
@[simp] theorem isStr_4 : isStr Tryd.prog 4 = false := by kernel_rfl
@[simp] theorem zvA_4 : zvA Tryd.prog 4 = some [AV.d (D.v (Value.bool false))] := by kernel_rfl
@[simp] theorem tk_5 : tk Tryd.prog 5 = some (false, 1) := by kernel_rfl
@[simp] theorem isInt_5 : isInt Tryd.prog 5 = some IntKind.u8 := by kernel_rfl
@[simp] theorem isStr_5 : isStr Tryd.prog 5 = false := by kernel_rfl
@[simp] theorem zvA_5 : zvA Tryd.prog 5 = some [AV.d (D.v (Value.int IntKind.u8 (0)))] := by kernel_rfl
@[simp] theorem tk_6 : tk Tryd.prog 6 = some (false, 1) := by kernel_rfl
@[simp] theorem isInt_6 : isInt Tryd.prog 6 = some IntKind.u8 := by kernel_rfl
@[simp] theorem isStr_6 : isStr Tryd.prog 6 = false := by kernel_rfl
@[simp] theorem zvA_6 : zvA Tryd.prog 6 = some [AV.d (D.v (Value.int IntKind.u8 (0)))] := by kernel_rfl
@[simp] theorem tk_9 : tk Tryd.prog 9 = some (false, 1) := by kernel_rfl
@[simp] theorem isInt_9 : isInt Tryd.prog 9 = none := by kernel_rfl
@[simp] theorem isStr_9 : isStr Tryd.prog 9 = true := by kernel_rfl
@[simp] theorem zvA_9 : zvA Tryd.prog 9 = some [AV.d (D.v (Value.string { data := #[] }))] := by kernel_rfl
@[simp] theorem tk_10 : tk Tryd.prog 10 = some (false, 1) := by kernel_rfl
@[simp] theorem isInt_10 : isInt Tryd.prog 10 = none := by kernel_rfl
@[simp] theorem isStr_10 : isStr Tryd.prog 10 = true := by kernel_rfl
@[simp] theorem zvA_10 : zvA Tryd.prog 10 = some [AV.d (D.v (Value.string { data := #[] }))] := by kernel_rfl
@[simp] theorem tk_11 : tk Tryd.prog 11 = some (false, 1) := by kernel_rfl
@[simp] theorem isInt_11 : isInt Tryd.prog 11 = none := by kernel_rfl
@[simp] theorem isStr_11 : isStr Tryd.prog 11 = true := by kernel_rfl
@[simp] theorem zvA_11 : zvA Tryd.prog 11 = some [AV.d (D.v (Value.string { data := #[] }))] := by kernel_rfl
@[simp] theorem tk_12 : tk Tryd.prog 12 = some (false, 1) := by kernel_rfl
@[simp] theorem isInt_12 : isInt Tryd.prog 12 = some IntKind.u64 := by kernel_rfl
@[simp] theorem isStr_12 : isStr Tryd.prog 12 = false := by kernel_rfl
@[simp] theorem zvA_12 : zvA Tryd.prog 12 = some [AV.d (D.v (Value.int IntKind.u64 (0)))] := by kernel_rfl
@[simp] theorem tk_21 : tk Tryd.prog 21 = some (false, 1) := by kernel_rfl
@[simp] theorem isInt_21 : isInt Tryd.prog 21 = some IntKind.i32 := by kernel_rfl
@[simp] theorem isStr_21 : isStr Tryd.prog 21 = false := by kernel_rfl
@[simp] theorem zvA_21 : zvA Tryd.prog 21 = some [AV.d (D.v (Value.int IntKind.i32 (0)))] := by kernel_rfl
@[simp] theorem tk_22 : tk Tryd.prog 22 = some (false, 1) := by kernel_rfl
@[simp] theorem isInt_22 : isInt Tryd.prog 22 = some IntKind.u32 := by kernel_rfl
@[simp] theorem isStr_22 : isStr Tryd.prog 22 = false := by kernel_rfl
@[simp] theorem zvA_22 : zvA Tryd.prog 22 = some [AV.d (D.v (Value.int IntKind.u32 (0)))] := by kernel_rfl
@[simp] theorem tk_57 : tk Tryd.prog 57 = some (false, 1) := by kernel_rfl
@[simp] theorem isInt_57 : isInt Tryd.prog 57 = some IntKind.i64 := by kernel_rfl
@[simp] theorem isStr_57 : isStr Tryd.prog 57 = false := by kernel_rfl
@[simp] theorem zvA_57 : zvA Tryd.prog 57 = some [AV.d (D.v (Value.int IntKind.i64 (0)))] := by kernel_rfl
@[simp] theorem tk_115 : tk Tryd.prog 115 = some (false, 1) := by kernel_rfl
@[simp] theorem isInt_115 : isInt Tryd.prog 115 = some IntKind.u64 := by kernel_rfl
@[simp] theorem isStr_115 : isStr Tryd.prog 115 = false := by kernel_rfl
@[simp] theorem zvA_115 : zvA Tryd.prog 115 = some [AV.d (D.v (Value.int IntKind.u64 (0)))] := by kernel_rfl
@[simp] theorem tk_131 : tk Tryd.prog 131 = some (false, 1) := by kernel_rfl
@[simp] theorem isInt_131 : isInt Tryd.prog 131 = some IntKind.u64 := by kernel_rfl
@[simp] theorem isStr_131 : isStr Tryd.prog 131 = false := by kernel_rfl
@[simp] theorem zvA_131 : zvA Tryd.prog 131 = some [AV.d (D.v (Value.int IntKind.u64 (0)))] := by kernel_rfl
@[simp] theorem tk_143 : tk Tryd.prog 143 = some (false, 1) := by kernel_rfl
@[simp] theorem isInt_143 : isInt Tryd.prog 143 = some IntKind.i64 := by kernel_rfl
@[simp] theorem isStr_143 : isStr Tryd.prog 143 = false := by kernel_rfl
@[simp] theorem zvA_143 : zvA Tryd.prog 143 = some [AV.d (D.v (Value.int IntKind.i64 (0)))] := by kernel_rfl
@[simp] theorem tk_166 : tk Tryd.prog 166 = some (false, 1) := by kernel_rfl
@[simp] theorem isInt_166 : isInt Tryd.prog 166 = some IntKind.u64 := by kernel_rfl
@[simp] theorem isStr_166 : isStr Tryd.prog 166 = false := by kernel_rfl
@[simp] theorem zvA_166 : zvA Tryd.prog 166 = some [AV.d (D.v (Value.int IntKind.u64 (0)))] := by kernel_rfl
@[simp] theorem tk_185 : tk Tryd.prog 185 = some (false, 1) := by kernel_rfl
@[simp] theorem isInt_185 : isInt Tryd.prog 185 = none := by kernel_rfl
@[simp] theorem isStr_185 : isStr Tryd.prog 185 = false := by kernel_rfl
@[simp] theorem zvA_185 : zvA Tryd.prog 185 = some [AV.d (D.v (Value.pointer none))] := by kernel_rfl
@[simp] theorem tk_196 : tk Tryd.prog 196 = some (false, 1) := by kernel_rfl
@[simp] theorem isInt_196 : isInt Tryd.prog 196 = some IntKind.u8 := by kernel_rfl
@[simp] theorem isStr_196 : isStr Tryd.prog 196 = false := by kernel_rfl
@[simp] theorem zvA_196 : zvA Tryd.prog 196 = some [AV.d (D.v (Value.int IntKind.u8 (0)))] := by kernel_rfl
@[simp] theorem tk_197 : tk Tryd.prog 197 = some (false, 1) := by kernel_rfl
@[simp] theorem isInt_197 : isInt Tryd.prog 197 = some IntKind.u8 := by kernel_rfl
@[simp] theorem isStr_197 : isStr Tryd.prog 197 = false := by kernel_rfl
@[simp] theorem zvA_197 : zvA Tryd.prog 197 = some [AV.d (D.v (Value.int IntKind.u8 (0)))] := by kernel_rfl
@[simp] theorem tk_199 : tk Tryd.prog 199 = some (false, 1) := by kernel_rfl
@[simp] theorem isInt_199 : isInt Tryd.prog 199 = some IntKind.i32 := by kernel_rfl
@[simp] theorem isStr_199 : isStr Tryd.prog 199 = false := by kernel_rfl
@[simp] theorem zvA_199 : zvA Tryd.prog 199 = some [AV.d (D.v (Value.int IntKind.i32 (0)))] := by kernel_rfl
@[simp] theorem tk_200 : tk Tryd.prog 200 = some (false, 1) := by kernel_rfl
@[simp] theorem isInt_200 : isInt Tryd.prog 200 = some IntKind.i32 := by kernel_rfl
@[simp] theorem isStr_200 : isStr Tryd.prog 200 = false := by kernel_rfl
@[simp] theorem zvA_200 : zvA Tryd.prog 200 = some [AV.d (D.v (Value.int IntKind.i32 (0)))] := by kernel_rfl
@[simp] theorem tk_1 : tk Tryd.prog 1 = some (false, 1) := by kernel_rfl
@[simp] theorem zvA_1 : zvA Tryd.prog 1 = some [AV.d (D.v Value.nilFunc)] := by kernel_rfl
@[simp] theorem tk_15 : tk Tryd.prog 15 = some (false, 1) := by kernel_rfl
@[simp] theorem zvA_15 : zvA Tryd.prog 15 = some [AV.d (D.v (Value.pointer none))] := by kernel_rfl
@[simp] theorem tk_16 : tk Tryd.prog 16 = some (false, 1) := by kernel_rfl
@[simp] theorem zvA_16 : zvA Tryd.prog 16 = some [AV.d (D.v (Value.pointer none))] := by kernel_rfl
@[simp] theorem tk_17 : tk Tryd.prog 17 = some (false, 1) := by kernel_rfl
@[simp] theorem zvA_17 : zvA Tryd.prog 17 = some [AV.d (D.v (Value.pointer none))] := by kernel_rfl
@[simp] theorem tk_20 : tk Tryd.prog 20 = some (false, 1) := by kernel_rfl
@[simp] theorem zvA_20 : zvA Tryd.prog 20 = some [AV.d (D.v Value.nilIface)] := by kernel_rfl
@[simp] theorem tk_27 : tk Tryd.prog 27 = some (false, 1) := by kernel_rfl
@[simp] theorem zvA_27 : zvA Tryd.prog 27 = some [AV.d (D.v Value.nilFunc)] := by kernel_rfl
@[simp] theorem tk_29 : tk Tryd.prog 29 = some (false, 1) := by kernel_rfl
@[simp] theorem zvA_29 : zvA Tryd.prog 29 = some [AV.d (D.v Value.nilFunc)] := by kernel_rfl
@[simp] theorem tk_32 : tk Tryd.prog 32 = some (false, 1) := by kernel_rfl
@[simp] theorem zvA_32 : zvA Tryd.prog 32 = some [AV.d (D.v Value.nilFunc)] := by kernel_rfl
@[simp] theorem tk_35 : tk Tryd.prog 35 = some (false, 1) := by kernel_rfl
@[simp] theorem zvA_35 : zvA Tryd.prog 35 = some [AV.d (D.v Value.nilFunc)] := by kernel_rfl
@[simp] theorem tk_36 : tk Tryd.prog 36 = some (false, 1) := by kernel_rfl
@[simp] theorem zvA_36 : zvA Tryd.prog 36 = some [AV.d (D.v Value.nilFunc)] := by kernel_rfl
@[simp] theorem tk_37 : tk Tryd.prog 37 = some (false, 1) := by kernel_rfl
@[simp] theorem zvA_37 : zvA Tryd.prog 37 = some [AV.d (D.v Value.nilFunc)] := by kernel_rfl
@[simp] theorem tk_40 : tk Tryd.prog 40 = some (false, 1) := by kernel_rfl
@[simp] theorem zvA_40 : zvA Tryd.prog 40 = some [AV.d (D.v Value.nilFunc)] := by kernel_rfl
@[simp] theorem tk_41 : tk Tryd.prog 41 = some (false, 1) := by kernel_rfl
@[simp] theorem zvA_41 : zvA Tryd.prog 41 = some [AV.d (D.v Value.nilFunc)] := by kernel_rfl
@[simp] theorem tk_42 : tk Tryd.prog 42 = some (false, 1) := by kernel_rfl
@[simp] theorem zvA_42 : zvA Tryd.prog 42 = some [AV.d (D.v Value.nilFunc)] := by kernel_rfl
@[simp] theorem tk_49 : tk Tryd.prog 49 = some (false, 1) := by kernel_rfl
@[simp] theorem zvA_49 : zvA Tryd.prog 49 = some [AV.d (D.v Value.nilFunc)] := by kernel_rfl
@[simp] theorem tk_56 : tk Tryd.prog 56 = some (false, 1) := by kernel_rfl
@[simp] theorem zvA_56 : zvA Tryd.prog 56 = some [AV.d (D.v Value.nilFunc)] := by kernel_rfl
@[simp] theorem tk_59 : tk Tryd.prog 59 = some (false, 1) := by kernel_rfl
@[simp] theorem zvA_59 : zvA Tryd.prog 59 = some [AV.d (D.v Value.nilFunc)] := by kernel_rfl
@[simp] theorem tk_66 : tk Tryd.prog 66 = some (false, 1) := by kernel_rfl
@[simp] theorem zvA_66 : zvA Tryd.prog 66 = some [AV.d (D.v Value.nilFunc)] := by kernel_rfl
@[simp] theorem tk_68 : tk Tryd.prog 68 = some (false, 1) := by kernel_rfl
@[simp] theorem zvA_68 : zvA Tryd.prog 68 = some [AV.d (D.v Value.nilFunc)] := by kernel_rfl
@[simp] theorem tk_69 : tk Tryd.prog 69 = some (false, 1) := by kernel_rfl
@[simp] theorem zvA_69 : zvA Tryd.prog 69 = some [AV.d (D.v Value.nilFunc)] := by kernel_rfl
@[simp] theorem tk_70 : tk Tryd.prog 70 = some (false, 1) := by kernel_rfl
@[simp] theorem zvA_70 : zvA Tryd.prog 70 = some [AV.d (D.v Value.nilFunc)] := by kernel_rfl
@[simp] theorem tk_71 : tk Tryd.prog 71 = some (false, 1) := by kernel_rfl
@[simp] theorem zvA_71 : zvA Tryd.prog 71 = some [AV.d (D.v Value.nilFunc)] := by kernel_rfl
@[simp] theorem tk_72 : tk Tryd.prog 72 = some (false, 1) := by kernel_rfl
@[simp] theorem zvA_72 : zvA Tryd.prog 72 = some [AV.d (D.v Value.nilFunc)] := by kernel_rfl
@[simp] theorem tk_73 : tk Tryd.prog 73 = some (false, 1) := by kernel_rfl
@[simp] theorem zvA_73 : zvA Tryd.prog 73 = some [AV.d (D.v Value.nilFunc)] := by kernel_rfl
@[simp] theorem tk_74 : tk Tryd.prog 74 = some (false, 1) := by kernel_rfl
@[simp] theorem zvA_74 : zvA Tryd.prog 74 = some [AV.d (D.v Value.nilFunc)] := by kernel_rfl
@[simp] theorem tk_75 : tk Tryd.prog 75 = some (false, 1) := by kernel_rfl
@[simp] theorem zvA_75 : zvA Tryd.prog 75 = some [AV.d (D.v Value.nilFunc)] := by kernel_rfl
@[simp] theorem tk_76 : tk Tryd.prog 76 = some (false, 1) := by kernel_rfl
@[simp] theorem zvA_76 : zvA Tryd.prog 76 = some [AV.d (D.v (Value.pointer none))] := by kernel_rfl
@[simp] theorem tk_79 : tk Tryd.prog 79 = some (false, 1) := by kernel_rfl
@[simp] theorem zvA_79 : zvA Tryd.prog 79 = some [AV.d (D.v Value.nilFunc)] := by kernel_rfl
@[simp] theorem tk_80 : tk Tryd.prog 80 = some (false, 1) := by kernel_rfl
@[simp] theorem zvA_80 : zvA Tryd.prog 80 = some [AV.d (D.v Value.nilFunc)] := by kernel_rfl
@[simp] theorem tk_81 : tk Tryd.prog 81 = some (false, 1) := by kernel_rfl
@[simp] theorem zvA_81 : zvA Tryd.prog 81 = some [AV.d (D.v (Value.pointer none))] := by kernel_rfl
@[simp] theorem tk_84 : tk Tryd.prog 84 = some (false, 1) := by kernel_rfl
@[simp] theorem zvA_84 : zvA Tryd.prog 84 = some [AV.d (D.v Value.nilFunc)] := by kernel_rfl
@[simp] theorem tk_85 : tk Tryd.prog 85 = some (false, 1) := by kernel_rfl
@[simp] theorem zvA_85 : zvA Tryd.prog 85 = some [AV.d (D.v Value.nilFunc)] := by kernel_rfl
@[simp] theorem tk_86 : tk Tryd.prog 86 = some (false, 1) := by kernel_rfl
@[simp] theorem zvA_86 : zvA Tryd.prog 86 = some [AV.d (D.v Value.nilFunc)] := by kernel_rfl
@[simp] theorem tk_87 : tk Tryd.prog 87 = some (false, 1) := by kernel_rfl
@[simp] theorem zvA_87 : zvA Tryd.prog 87 = some [AV.d (D.v Value.nilFunc)] := by kernel_rfl
@[simp] theorem tk_88 : tk Tryd.prog 88 = some (false, 1) := by kernel_rfl
@[simp] theorem zvA_88 : zvA Tryd.prog 88 = some [AV.d (D.v Value.nilFunc)] := by kernel_rfl
@[simp] theorem tk_91 : tk Tryd.prog 91 = some (false, 1) := by kernel_rfl
@[simp] theorem zvA_91 : zvA Tryd.prog 91 = some [AV.d (D.v Value.nilFunc)] := by kernel_rfl
@[simp] theorem tk_92 : tk Tryd.prog 92 = some (false, 1) := by kernel_rfl
@[simp] theorem zvA_92 : zvA Tryd.prog 92 = some [AV.d (D.v Value.nilFunc)] := by kernel_rfl
@[simp] theorem tk_93 : tk Tryd.prog 93 = some (false, 1) := by kernel_rfl
@[simp] theorem zvA_93 : zvA Tryd.prog 93 = some [AV.d (D.v Value.nilFunc)] := by kernel_rfl
@[simp] theorem tk_94 : tk Tryd.prog 94 = some (false, 1) := by kernel_rfl
@[simp] theorem zvA_94 : zvA Tryd.prog 94 = some [AV.d (D.v Value.nilFunc)] := by kernel_rfl
@[simp] theorem tk_95 : tk Tryd.prog 95 = some (false, 1) := by kernel_rfl
@[simp] theorem zvA_95 : zvA Tryd.prog 95 = some [AV.d (D.v Value.nilFunc)] := by kernel_rfl
@[simp] theorem tk_96 : tk Tryd.prog 96 = some (false, 1) := by kernel_rfl
@[simp] theorem zvA_96 : zvA Tryd.prog 96 = some [AV.d (D.v Value.nilFunc)] := by kernel_rfl
@[simp] theorem tk_97 : tk Tryd.prog 97 = some (false, 1) := by kernel_rfl
@[simp] theorem zvA_97 : zvA Tryd.prog 97 = some [AV.d (D.v Value.nilFunc)] := by kernel_rfl
@[simp] theorem tk_98 : tk Tryd.prog 98 = some (false, 1) := by kernel_rfl
@[simp] theorem zvA_98 : zvA Tryd.prog 98 = some [AV.d (D.v Value.nilFunc)] := by kernel_rfl
@[simp] theorem tk_99 : tk Tryd.prog 99 = some (false, 1) := by kernel_rfl
@[simp] theorem zvA_99 : zvA Tryd.prog 99 = some [AV.d (D.v Value.nilFunc)] := by kernel_rfl
@[simp] theorem tk_100 : tk Tryd.prog 100 = some (false, 1) := by kernel_rfl
@[simp] theorem zvA_100 : zvA Tryd.prog 100 = some [AV.d (D.v Value.nilFunc)] := by kernel_rfl
@[simp] theorem tk_102 : tk Tryd.prog 102 = some (false, 1) := by kernel_rfl
@[simp] theorem zvA_102 : zvA Tryd.prog 102 = some [AV.d (D.v Value.nilFunc)] := by kernel_rfl
@[simp] theorem tk_103 : tk Tryd.prog 103 = some (false, 1) := by kernel_rfl
@[simp] theorem zvA_103 : zvA Tryd.prog 103 = some [AV.d (D.v Value.nilFunc)] := by kernel_rfl
@[simp] theorem tk_104 : tk Tryd.prog 104 = some (false, 1) := by kernel_rfl
@[simp] theorem zvA_104 : zvA Tryd.prog 104 = some [AV.d (D.v Value.nilFunc)] := by kernel_rfl
@[simp] theorem tk_105 : tk Tryd.prog 105 = some (false, 1) := by kernel_rfl
@[simp] theorem zvA_105 : zvA Tryd.prog 105 = some [AV.d (D.v Value.nilFunc)] := by kernel_rfl
@[simp] theorem tk_106 : tk Tryd.prog 106 = some (false, 1) := by kernel_rfl
@[simp] theorem zvA_106 : zvA Tryd.prog 106 = some [AV.d (D.v Value.nilFunc)] := by kernel_rfl
@[simp] theorem tk_107 : tk Tryd.prog 107 = some (false, 1) := by kernel_rfl
@[simp] theorem zvA_107 : zvA Tryd.prog 107 = some [AV.d (D.v Value.nilFunc)] := by kernel_rfl
@[simp] theorem tk_108 : tk Tryd.prog 108 = some (false, 1) := by kernel_rfl
@[simp] theorem zvA_108 : zvA Tryd.prog 108 = some [AV.d (D.v Value.nilFunc)] := by kernel_rfl
@[simp] theorem tk_109 : tk Tryd.prog 109 = some (false, 1) := by kernel_rfl
@[simp] theorem zvA_109 : zvA Tryd.prog 109 = some [AV.d (D.v Value.nilFunc)] := by kernel_rfl
@[simp] theorem tk_110 : tk Tryd.prog 110 = some (false, 1) := by kernel_rfl
@[simp] theorem zvA_110 : zvA Tryd.prog 110 = some [AV.d (D.v Value.nilFunc)] := by kernel_rfl
@[simp] theorem tk_111 : tk Tryd.prog 111 = some (false, 1) := by kernel_rfl
@[simp] theorem zvA_111 : zvA Tryd.prog 111 = some [AV.d (D.v Value.nilFunc)] := by kernel_rfl
@[simp] theorem tk_112 : tk Tryd.prog 112 = some (false, 1) := by kernel_rfl
@[simp] theorem zvA_112 : zvA Tryd.prog 112 = some [AV.d (D.v Value.nilFunc)] := by kernel_rfl
@[simp] theorem tk_113 : tk Tryd.prog 113 = some (false, 1) := by kernel_rfl
@[simp] theorem zvA_113 : zvA Tryd.prog 113 = some [AV.d (D.v Value.nilFunc)] := by kernel_rfl
@[simp] theorem tk_114 : tk Tryd.prog 114 = some (false, 1) := by kernel_rfl
@[simp] theorem zvA_114 : zvA Tryd.prog 114 = some [AV.d (D.v Value.nilFunc)] := by kernel_rfl
@[simp] theorem tk_116 : tk Tryd.prog 116 = some (false, 1) := by kernel_rfl
@[simp] theorem zvA_116 : zvA Tryd.prog 116 = some [AV.d (D.v Value.nilFunc)] := by kernel_rfl
@[simp] theorem tk_117 : tk Tryd.prog 117 = some (false, 1) := by kernel_rfl
@[simp] theorem zvA_117 : zvA Tryd.prog 117 = some [AV.d (D.v (Value.pointer none))] := by kernel_rfl
@[simp] theorem tk_118 : tk Tryd.prog 118 = some (false, 1) := by kernel_rfl
@[simp] theorem zvA_118 : zvA Tryd.prog 118 = some [AV.d (D.v (Value.pointer none))] := by kernel_rfl
@[simp] theorem tk_124 : tk Tryd.prog 124 = some (false, 1) := by kernel_rfl
@[simp] theorem zvA_124 : zvA Tryd.prog 124 = some [AV.d (D.v Value.nilFunc)] := by kernel_rfl
@[simp] theorem tk_125 : tk Tryd.prog 125 = some (false, 1) := by kernel_rfl
@[simp] theorem zvA_125 : zvA Tryd.prog 125 = some [AV.d (D.v Value.nilFunc)] := by kernel_rfl
@[simp] theorem tk_126 : tk Tryd.prog 126 = some (false, 1) := by kernel_rfl
@[simp] theorem zvA_126 : zvA Tryd.prog 126 = some [AV.d (D.v Value.nilFunc)] := by kernel_rfl
@[simp] theorem tk_127 : tk Tryd.prog 127 = some (false, 1) := by kernel_rfl
@[simp] theorem zvA_127 : zvA Tryd.prog 127 = some [AV.d (D.v Value.nilFunc)] := by kernel_rfl
@[simp] theorem tk_129 : tk Tryd.prog 129 = some (false, 1) := by kernel_rfl
@[simp] theorem zvA_129 : zvA Tryd.prog 129 = some [AV.d (D.v Value.nilFunc)] := by kernel_rfl
@[simp] theorem tk_130 : tk Tryd.prog 130 = some (false, 1) := by kernel_rfl
@[simp] theorem zvA_130 : zvA Tryd.prog 130 = some [AV.d (D.v Value.nilFunc)] := by kernel_rfl
@[simp] theorem tk_132 : tk Tryd.prog 132 = some (false, 1) := by kernel_rfl
@[simp] theorem zvA_132 : zvA Tryd.prog 132 = some [AV.d (D.v Value.nilFunc)] := by kernel_rfl
@[simp] theorem tk_133 : tk Tryd.prog 133 = some (false, 1) := by kernel_rfl
@[simp] theorem zvA_133 : zvA Tryd.prog 133 = some [AV.d (D.v Value.nilFunc)] := by kernel_rfl
@[simp] theorem tk_134 : tk Tryd.prog 134 = some (false, 1) := by kernel_rfl
@[simp] theorem zvA_134 : zvA Tryd.prog 134 = some [AV.d (D.v Value.nilFunc)] := by kernel_rfl
@[simp] theorem tk_135 : tk Tryd.prog 135 = some (false, 1) := by kernel_rfl
@[simp] theorem zvA_135 : zvA Tryd.prog 135 = some [AV.d (D.v Value.nilFunc)] := by kernel_rfl
@[simp] theorem tk_136 : tk Tryd.prog 136 = some (false, 1) := by kernel_rfl
@[simp] theorem zvA_136 : zvA Tryd.prog 136 = some [AV.d (D.v Value.nilFunc)] := by kernel_rfl
@[simp] theorem tk_139 : tk Tryd.prog 139 = some (false, 1) := by kernel_rfl
@[simp] theorem zvA_139 : zvA Tryd.prog 139 = some [AV.d (D.v Value.nilFunc)] := by kernel_rfl
@[simp] theorem tk_140 : tk Tryd.prog 140 = some (false, 1) := by kernel_rfl
@[simp] theorem zvA_140 : zvA Tryd.prog 140 = some [AV.d (D.v Value.nilFunc)] := by kernel_rfl
@[simp] theorem tk_141 : tk Tryd.prog 141 = some (false, 1) := by kernel_rfl
@[simp] theorem zvA_141 : zvA Tryd.prog 141 = some [AV.d (D.v Value.nilFunc)] := by kernel_rfl
@[simp] theorem tk_142 : tk Tryd.prog 142 = some (false, 1) := by kernel_rfl
@[simp] theorem zvA_142 : zvA Tryd.prog 142 = some [AV.d (D.v Value.nilFunc)] := by kernel_rfl
@[simp] theorem tk_145 : tk Tryd.prog 145 = some (false, 1) := by kernel_rfl
@[simp] theorem zvA_145 : zvA Tryd.prog 145 = some [AV.d (D.v Value.nilFunc)] := by kernel_rfl
@[simp] theorem tk_146 : tk Tryd.prog 146 = some (false, 1) := by kernel_rfl
@[simp] theorem zvA_146 : zvA Tryd.prog 146 = some [AV.d (D.v Value.nilFunc)] := by kernel_rfl
@[simp] theorem tk_147 : tk Tryd.prog 147 = some (false, 1) := by kernel_rfl
@[simp] theorem zvA_147 : zvA Tryd.prog 147 = some [AV.d (D.v Value.nilFunc)] := by kernel_rfl
@[simp] theorem tk_148 : tk Tryd.prog 148 = some (false, 1) := by kernel_rfl
@[simp] theorem zvA_148 : zvA Tryd.prog 148 = some [AV.d (D.v Value.nilFunc)] := by kernel_rfl
@[simp] theorem tk_150 : tk Tryd.prog 150 = some (false, 1) := by kernel_rfl
@[simp] theorem zvA_150 : zvA Tryd.prog 150 = some [AV.d (D.v Value.nilFunc)] := by kernel_rfl
@[simp] theorem tk_151 : tk Tryd.prog 151 = some (false, 1) := by kernel_rfl
@[simp] theorem zvA_151 : zvA Tryd.prog 151 = some [AV.d (D.v Value.nilFunc)] := by kernel_rfl
@[simp] theorem tk_152 : tk Tryd.prog 152 = some (false, 1) := by kernel_rfl
@[simp] theorem zvA_152 : zvA Tryd.prog 152 = some [AV.d (D.v Value.nilFunc)] := by kernel_rfl
@[simp] theorem tk_153 : tk Tryd.prog 153 = some (false, 1) := by kernel_rfl
@[simp] theorem zvA_153 : zvA Tryd.prog 153 = some [AV.d (D.v Value.nilFunc)] := by kernel_rfl
@[simp] theorem tk_154 : tk Tryd.prog 154 = some (false, 1) := by kernel_rfl
@[simp] theorem zvA_154 : zvA Tryd.prog 154 = some [AV.d (D.v Value.nilFunc)] := by kernel_rfl
@[simp] theorem tk_155 : tk Tryd.prog 155 = some (false, 1) := by kernel_rfl
@[simp] theorem zvA_155 : zvA Tryd.prog 155 = some [AV.d (D.v Value.nilFunc)] := by kernel_rfl
@[simp] theorem tk_156 : tk Tryd.prog 156 = some (false, 1) := by kernel_rfl
@[simp] theorem zvA_156 : zvA Tryd.prog 156 = some [AV.d (D.v Value.nilIface)] := by kernel_rfl
@[simp] theorem tk_157 : tk Tryd.prog 157 = some (false, 1) := by kernel_rfl
@[simp] theorem zvA_157 : zvA Tryd.prog 157 = some [AV.d (D.v Value.nilIface)] := by kernel_rfl
@[simp] theorem tk_159 : tk Tryd.prog 159 = some (false, 1) := by kernel_rfl
@[simp] theorem zvA_159 : zvA Tryd.prog 159 = some [AV.d (D.v Value.nilFunc)] := by kernel_rfl
@[simp] theorem tk_160 : tk Tryd.prog 160 = some (false, 1) := by kernel_rfl
@[simp] theorem zvA_160 : zvA Tryd.prog 160 = some [AV.d (D.v (Value.pointer none))] := by kernel_rfl
@[simp] theorem tk_161 : tk Tryd.prog 161 = some (false, 1) := by kernel_rfl
@[simp] theorem zvA_161 : zvA Tryd.prog 161 = some [AV.d (D.v Value.nilFunc)] := by kernel_rfl
@[simp] theorem tk_162 : tk Tryd.prog 162 = some (false, 1) := by kernel_rfl
@[simp] theorem zvA_162 : zvA Tryd.prog 162 = some [AV.d (D.v Value.nilFunc)] := by kernel_rfl
@[simp] theorem tk_164 : tk Tryd.prog 164 = some (false, 1) := by kernel_rfl
@[simp] theorem zvA_164 : zvA Tryd.prog 164 = some [AV.d (D.v Value.nilFunc)] := by kernel_rfl
@[simp] theorem tk_165 : tk Tryd.prog 165 = some (false, 1) := by kernel_rfl
@[simp] theorem zvA_165 : zvA Tryd.prog 165 = some [AV.d (D.v Value.nilFunc)] := by kernel_rfl
@[simp] theorem tk_167 : tk Tryd.prog 167 = some (false, 1) := by kernel_rfl
@[simp] theorem zvA_167 : zvA Tryd.prog 167 = some [AV.d (D.v Value.nilFunc)] := by kernel_rfl
@[simp] theorem tk_168 : tk Tryd.prog 168 = some (false, 1) := by kernel_rfl
@[simp] theorem zvA_168 : zvA Tryd.prog 168 = some [AV.d (D.v Value.nilFunc)] := by kernel_rfl
@[simp] theorem tk_169 : tk Tryd.prog 169 = some (false, 1) := by kernel_rfl
@[simp] theorem zvA_169 : zvA Tryd.prog 169 = some [AV.d (D.v Value.nilFunc)] := by kernel_rfl
@[simp] theorem tk_170 : tk Tryd.prog 170 = some (false, 1) := by kernel_rfl
@[simp] theorem zvA_170 : zvA Tryd.prog 170 = some [AV.d (D.v (Value.pointer none))] := by kernel_rfl
@[simp] theorem tk_171 : tk Tryd.prog 171 = some (false, 1) := by kernel_rfl
@[simp] theorem zvA_171 : zvA Tryd.prog 171 = some [AV.d (D.v Value.nilFunc)] := by kernel_rfl
@[simp] theorem tk_173 : tk Tryd.prog 173 = some (false, 1) := by kernel_rfl
@[simp] theorem zvA_173 : zvA Tryd.prog 173 = some [AV.d (D.v Value.nilFunc)] := by kernel_rfl
@[simp] theorem tk_175 : tk Tryd.prog 175 = some (false, 1) := by kernel_rfl
@[simp] theorem zvA_175 : zvA Tryd.prog 175 = some [AV.d (D.v Value.nilFunc)] := by kernel_rfl
@[simp] theorem tk_176 : tk Tryd.prog 176 = some (false, 1) := by kernel_rfl
@[simp] theorem zvA_176 : zvA Tryd.prog 176 = some [AV.d (D.v Value.nilFunc)] := by kernel_rfl
@[simp] theorem tk_177 : tk Tryd.prog 177 = some (false, 1) := by kernel_rfl
@[simp] theorem zvA_177 : zvA Tryd.prog 177 = some [AV.d (D.v Value.nilFunc)] := by kernel_rfl
@[simp] theorem tk_178 : tk Tryd.prog 178 = some (false, 1) := by kernel_rfl
@[simp] theorem zvA_178 : zvA Tryd.prog 178 = some [AV.d (D.v (Value.pointer none))] := by kernel_rfl
@[simp] theorem tk_180 : tk Tryd.prog 180 = some (false, 1) := by kernel_rfl
@[simp] theorem zvA_180 : zvA Tryd.prog 180 = some [AV.d (D.v Value.nilFunc)] := by kernel_rfl
@[simp] theorem tk_181 : tk Tryd.prog 181 = some (false, 1) := by kernel_rfl
@[simp] theorem zvA_181 : zvA Tryd.prog 181 = some [AV.d (D.v Value.nilFunc)] := by kernel_rfl
@[simp] theorem tk_184 : tk Tryd.prog 184 = some (false, 1) := by kernel_rfl
@[simp] theorem zvA_184 : zvA Tryd.prog 184 = some [AV.d (D.v Value.nilFunc)] := by kernel_rfl
@[simp] theorem tk_186 : tk Tryd.prog 186 = some (false, 1) := by kernel_rfl
@[simp] theorem zvA_186 : zvA Tryd.prog 186 = some [AV.d (D.v Value.nilFunc)] := by kernel_rfl
@[simp] theorem tk_187 : tk Tryd.prog 187 = some (false, 1) := by kernel_rfl
@[simp] theorem zvA_187 : zvA Tryd.prog 187 = some [AV.d (D.v Value.nilFunc)] := by kernel_rfl
@[simp] theorem tk_188 : tk Tryd.prog 188 = some (false, 1) := by kernel_rfl
@[simp] theorem zvA_188 : zvA Tryd.prog 188 = some [AV.d (D.v Value.nilFunc)] := by kernel_rfl
@[simp] theorem tk_198 : tk Tryd.prog 198 = some (false, 1) := by kernel_rfl
@[simp] theorem zvA_198 : zvA Tryd.prog 198 = some [AV.d (D.v Value.nilFunc)] := by kernel_rfl
@[simp] theorem okF_3 : okF Tryd.prog 3 = true := by kernel_rfl
@[simp] theorem okF_4 : okF Tryd.prog 4 = true := by kernel_rfl
@[simp] theorem okF_5 : okF Tryd.prog 5 = true := by kernel_rfl
@[simp] theorem okF_6 : okF Tryd.prog 6 = true := by kernel_rfl
@[simp] theorem okF_7 : okF Tryd.prog 7 = true := by kernel_rfl
@[simp] theorem okF_8 : okF Tryd.prog 8 = true := by kernel_rfl
@[simp] theorem okF_9 : okF Tryd.prog 9 = true := by kernel_rfl
@[simp] theorem okF_10 : okF Tryd.prog 10 = true := by kernel_rfl
@[simp] theorem okF_11 : okF Tryd.prog 11 = true := by kernel_rfl
@[simp] theorem okF_12 : okF Tryd.prog 12 = true := by kernel_rfl
@[simp] theorem okF_13 : okF Tryd.prog 13 = true := by kernel_rfl
@[simp] theorem okF_14 : okF Tryd.prog 14 = true := by kernel_rfl
@[simp] theorem okF_15 : okF Tryd.prog 15 = true := by kernel_rfl
@[simp] theorem okF_16 : okF Tryd.prog 16 = true := by kernel_rfl
@[simp] theorem okF_17 : okF Tryd.prog 17 = true := by kernel_rfl
@[simp] theorem okF_18 : okF Tryd.prog 18 = true := by kernel_rfl
@[simp] theorem okF_19 : okF Tryd.prog 19 = true := by kernel_rfl
@[simp] theorem okF_20 : okF Tryd.prog 20 = true := by kernel_rfl
@[simp] theorem okF_21 : okF Tryd.prog 21 = true := by kernel_rfl
@[simp] theorem okF_22 : okF Tryd.prog 22 = true := by kernel_rfl
@[simp] theorem okF_23 : okF Tryd.prog 23 = true := by kernel_rfl
@[simp] theorem okF_24 : okF Tryd.prog 24 = true := by kernel_rfl
@[simp] theorem okF_25 : okF Tryd.prog 25 = true := by kernel_rfl
@[simp] theorem okF_26 : okF Tryd.prog 26 = true := by kernel_rfl
@[simp] theorem okF_27 : okF Tryd.prog 27 = true := by kernel_rfl
@[simp] theorem okF_28 : okF Tryd.prog 28 = true := by kernel_rfl
@[simp] theorem okF_29 : okF Tryd.prog 29 = true := by kernel_rfl
@[simp] theorem okF_30 : okF Tryd.prog 30 = true := by kernel_rfl
@[simp] theorem okF_31 : okF Tryd.prog 31 = true := by kernel_rfl
@[simp] theorem okF_32 : okF Tryd.prog 32 = true := by kernel_rfl
@[simp] theorem okF_33 : okF Tryd.prog 33 = true := by kernel_rfl
@[simp] theorem okF_34 : okF Tryd.prog 34 = true := by kernel_rfl
@[simp] theorem okF_35 : okF Tryd.prog 35 = true := by kernel_rfl
@[simp] theorem okF_36 : okF Tryd.prog 36 = true := by kernel_rfl
@[simp] theorem okF_37 : okF Tryd.prog 37 = true := by kernel_rfl
@[simp] theorem okF_38 : okF Tryd.prog 38 = true := by kernel_rfl
@[simp] theorem okF_39 : okF Tryd.prog 39 = true := by kernel_rfl
@[simp] theorem okF_40 : okF Tryd.prog 40 = true := by kernel_rfl
@[simp] theorem okF_41 : okF Tryd.prog 41 = true := by kernel_rfl
@[simp] theorem okF_42 : okF Tryd.prog 42 = true := by kernel_rfl
@[simp] theorem okF_43 : okF Tryd.prog 43 = true := by kernel_rfl
@[simp] theorem okF_44 : okF Tryd.prog 44 = true := by kernel_rfl
@[simp] theorem okF_45 : okF Tryd.prog 45 = true := by kernel_rfl
@[simp] theorem okF_46 : okF Tryd.prog 46 = true := by kernel_rfl
@[simp] theorem okF_47 : okF Tryd.prog 47 = true := by kernel_rfl
@[simp] theorem okF_48 : okF Tryd.prog 48 = true := by kernel_rfl
@[simp] theorem okF_49 : okF Tryd.prog 49 = true := by kernel_rfl
@[simp] theorem okF_50 : okF Tryd.prog 50 = true := by kernel_rfl
@[simp] theorem okF_51 : okF Tryd.prog 51 = true := by kernel_rfl
@[simp] theorem okF_52 : okF Tryd.prog 52 = true := by kernel_rfl
@[simp] theorem okF_53 : okF Tryd.prog 53 = true := by kernel_rfl
@[simp] theorem okF_54 : okF Tryd.prog 54 = true := by kernel_rfl
@[simp] theorem okF_55 : okF Tryd.prog 55 = true := by kernel_rfl
@[simp] theorem okF_56 : okF Tryd.prog 56 = true := by kernel_rfl
@[simp] theorem okF_57 : okF Tryd.prog 57 = true := by kernel_rfl
@[simp] theorem okF_58 : okF Tryd.prog 58 = true := by kernel_rfl
@[simp] theorem okF_59 : okF Tryd.prog 59 = true := by kernel_rfl
@[simp] theorem okF_60 : okF Tryd.prog 60 = true := by kernel_rfl
@[simp] theorem okF_61 : okF Tryd.prog 61 = true := by kernel_rfl
@[simp] theorem okF_62 : okF Tryd.prog 62 = true := by kernel_rfl
@[simp] theorem okF_63 : okF Tryd.prog 63 = true := by kernel_rfl
@[simp] theorem okF_64 : okF Tryd.prog 64 = true := by kernel_rfl
@[simp] theorem okF_65 : okF Tryd.prog 65 = true := by kernel_rfl
@[simp] theorem okF_66 : okF Tryd.prog 66 = true := by kernel_rfl
@[simp] theorem okF_67 : okF Tryd.prog 67 = true := by kernel_rfl
@[simp] theorem okF_68 : okF Tryd.prog 68 = true := by kernel_rfl
@[simp] theorem okF_69 : okF Tryd.prog 69 = true := by kernel_rfl
@[simp] theorem okF_70 : okF Tryd.prog 70 = true := by kernel_rfl
@[simp] theorem okF_71 : okF Tryd.prog 71 = true := by kernel_rfl
@[simp] theorem okF_72 : okF Tryd.prog 72 = true := by kernel_rfl
@[simp] theorem okF_73 : okF Tryd.prog 73 = true := by kernel_rfl
@[simp] theorem okF_74 : okF Tryd.prog 74 = true := by kernel_rfl
@[simp] theorem okF_75 : okF Tryd.prog 75 = true := by kernel_rfl
@[simp] theorem okF_76 : okF Tryd.prog 76 = true := by kernel_rfl
@[simp] theorem okF_77 : okF Tryd.prog 77 = true := by kernel_rfl
@[simp] theorem okF_78 : okF Tryd.prog 78 = true := by kernel_rfl
@[simp] theorem okF_79 : okF Tryd.prog 79 = true := by kernel_rfl
@[simp] theorem okF_80 : okF Tryd.prog 80 = true := by kernel_rfl
@[simp] theorem okF_81 : okF Tryd.prog 81 = true := by kernel_rfl
@[simp] theorem okF_82 : okF Tryd.prog 82 = true := by kernel_rfl
@[simp] theorem okF_83 : okF Tryd.prog 83 = true := by kernel_rfl
@[simp] theorem okF_84 : okF Tryd.prog 84 = true := by kernel_rfl
@[simp] theorem okF_85 : okF Tryd.prog 85 = true := by kernel_rfl
@[simp] theorem okF_86 : okF Tryd.prog 86 = true := by kernel_rfl
@[simp] theorem okF_87 : okF Tryd.prog 87 = true := by kernel_rfl
@[simp] theorem okF_88 : okF Tryd.prog 88 = true := by kernel_rfl
@[simp] theorem okF_89 : okF Tryd.prog 89 = true := by kernel_rfl
@[simp] theorem okF_90 : okF Tryd.prog 90 = true := by kernel_rfl
@[simp] theorem okF_91 : okF Tryd.prog 91 = true := by kernel_rfl
@[simp] theorem okF_92 : okF Tryd.prog 92 = true := by kernel_rfl
@[simp] theorem okF_93 : okF Tryd.prog 93 = true := by kernel_rfl
@[simp] theorem okF_94 : okF Tryd.prog 94 = true := by kernel_rfl
@[simp] theorem okF_95 : okF Tryd.prog 95 = true := by kernel_rfl
@[simp] theorem okF_96 : okF Tryd.prog 96 = true := by kernel_rfl
@[simp] theorem okF_97 : okF Tryd.prog 97 = true := by kernel_rfl
@[simp] theorem okF_98 : okF Tryd.prog 98 = true := by kernel_rfl
@[simp] theorem okF_99 : okF Tryd.prog 99 = true := by kernel_rfl
@[simp] theorem okF_100 : okF Tryd.prog 100 = true := by kernel_rfl
@[simp] theorem okF_101 : okF Tryd.prog 101 = true := by kernel_rfl
@[simp] theorem okF_102 : okF Tryd.prog 102 = true := by kernel_rfl
@[simp] theorem okF_103 : okF Tryd.prog 103 = true := by kernel_rfl
@[simp] theorem okF_104 : okF Tryd.prog 104 = true := by kernel_rfl
@[simp] theorem okF_105 : okF Tryd.prog 105 = true := by kernel_rfl
@[simp] theorem okF_106 : okF Tryd.prog 106 = true := by kernel_rfl
@[simp] theorem okF_107 : okF Tryd.prog 107 = true := by kernel_rfl
@[simp] theorem okF_108 : okF Tryd.prog 108 = true := by kernel_rfl
@[simp] theorem okF_109 : okF Tryd.prog 109 = true := by kernel_rfl
@[simp] theorem okF_110 : okF Tryd.prog 110 = true := by kernel_rfl
@[simp] theorem okF_111 : okF Tryd.prog 111 = true := by kernel_rfl
@[simp] theorem okF_112 : okF Tryd.prog 112 = true := by kernel_rfl
@[simp] theorem okF_113 : okF Tryd.prog 113 = true := by kernel_rfl
@[simp] theorem okF_114 : okF Tryd.prog 114 = true := by kernel_rfl
@[simp] theorem okF_115 : okF Tryd.prog 115 = true := by kernel_rfl
@[simp] theorem okF_116 : okF Tryd.prog 116 = true := by kernel_rfl
@[simp] theorem okF_117 : okF Tryd.prog 117 = true := by kernel_rfl
@[simp] theorem okF_118 : okF Tryd.prog 118 = true := by kernel_rfl
@[simp] theorem okF_119 : okF Tryd.prog 119 = true := by kernel_rfl
@[simp] theorem okF_120 : okF Tryd.prog 120 = true := by kernel_rfl
@[simp] theorem okF_121 : okF Tryd.prog 121 = true := by kernel_rfl
@[simp] theorem okF_122 : okF Tryd.prog 122 = true := by kernel_rfl
@[simp] theorem okF_123 : okF Tryd.prog 123 = true := by kernel_rfl
@[simp] theorem okF_124 : okF Tryd.prog 124 = true := by kernel_rfl
@[simp] theorem okF_125 : okF Tryd.prog 125 = true := by kernel_rfl
@[simp] theorem okF_126 : okF Tryd.prog 126 = true := by kernel_rfl
@[simp] theorem okF_127 : okF Tryd.prog 127 = true := by kernel_rfl
@[simp] theorem okF_128 : okF Tryd.prog 128 = true := by kernel_rfl
@[simp] theorem okF_129 : okF Tryd.prog 129 = true := by kernel_rfl
@[simp] theorem okF_130 : okF Tryd.prog 130 = true := by kernel_rfl
@[simp] theorem okF_131 : okF Tryd.prog 131 = true := by kernel_rfl
@[simp] theorem okF_132 : okF Tryd.prog 132 = true := by kernel_rfl
@[simp] theorem okF_133 : okF Tryd.prog 133 = true := by kernel_rfl
@[simp] theorem okF_134 : okF Tryd.prog 134 = true := by kernel_rfl
@[simp] theorem okF_135 : okF Tryd.prog 135 = true := by kernel_rfl
@[simp] theorem okF_136 : okF Tryd.prog 136 = true := by kernel_rfl
@[simp] theorem okF_137 : okF Tryd.prog 137 = true := by kernel_rfl
@[simp] theorem okF_138 : okF Tryd.prog 138 = true := by kernel_rfl
@[simp] theorem okF_139 : okF Tryd.prog 139 = true := by kernel_rfl
@[simp] theorem okF_140 : okF Tryd.prog 140 = true := by kernel_rfl
@[simp] theorem okF_141 : okF Tryd.prog 141 = true := by kernel_rfl
@[simp] theorem okF_142 : okF Tryd.prog 142 = true := by kernel_rfl
@[simp] theorem okF_144 : okF Tryd.prog 144 = true := by kernel_rfl
@[simp] theorem okF_146 : okF Tryd.prog 146 = true := by kernel_rfl
@[simp] theorem okF_147 : okF Tryd.prog 147 = true := by kernel_rfl
end Go.Proofs.YtjglpamdliplbaaDoor
