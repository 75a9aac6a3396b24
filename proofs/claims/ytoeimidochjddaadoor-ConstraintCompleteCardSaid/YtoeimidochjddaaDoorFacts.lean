/- Closed facts on the program's types and functions, made by program: what the calculator asks of its tables. -/
import Derived.Test.YtoeimidochjddaaDoorProg
import Derived.Test.YtoeimidochjddaaDoorAh
import Derived.KernelRfl
namespace Go.Proofs.YtoeimidochjddaaDoor
set_option maxRecDepth 100000
@[simp] theorem tk_7 : tk Tryd.prog 7 = some (true, 4) := by kernel_rfl
@[simp] theorem places_7 : places Tryd.prog 7 = some [(0, 1), (1, 1), (2, 1), (3, 1)] := by kernel_rfl
@[simp] theorem zvA_7 : zvA Tryd.prog 7 = some [AV.d (D.v (Value.int IntKind.i64 (0))), AV.d (D.v (Value.int IntKind.i64 (0))), AV.d (D.v (Value.bool false)), AV.d (D.v (Value.int IntKind.u8 (0)))] := by kernel_rfl
@[simp] theorem ar_7 : ar Tryd.prog 7 = none := by kernel_rfl
@[simp] theorem fo_7_0 : fo Tryd.prog 7 0 = some 0 := by kernel_rfl
@[simp] theorem ft_7_0 : ft Tryd.prog 7 0 = some (2, 0) := by kernel_rfl
@[simp] theorem fo_7_1 : fo Tryd.prog 7 1 = some 1 := by kernel_rfl
@[simp] theorem ft_7_1 : ft Tryd.prog 7 1 = some (3, 1) := by kernel_rfl
@[simp] theorem fo_7_2 : fo Tryd.prog 7 2 = some 2 := by kernel_rfl
@[simp] theorem ft_7_2 : ft Tryd.prog 7 2 = some (4, 2) := by kernel_rfl
@[simp] theorem fo_7_3 : fo Tryd.prog 7 3 = some 3 := by kernel_rfl
@[simp] theorem ft_7_3 : ft Tryd.prog 7 3 = some (6, 3) := by kernel_rfl
@[simp] theorem tk_8 : tk Tryd.prog 8 = some (true, 4) := by kernel_rfl
@[simp] theorem places_8 : places Tryd.prog 8 = some [(0, 1), (1, 1), (2, 1), (3, 1)] := by kernel_rfl
@[simp] theorem zvA_8 : zvA Tryd.prog 8 = some [AV.d (D.v (Value.int IntKind.i64 (0))), AV.d (D.v (Value.int IntKind.i64 (0))), AV.d (D.v (Value.bool false)), AV.d (D.v (Value.int IntKind.u8 (0)))] := by kernel_rfl
@[simp] theorem ar_8 : ar Tryd.prog 8 = none := by kernel_rfl
@[simp] theorem fo_8_0 : fo Tryd.prog 8 0 = some 0 := by kernel_rfl
@[simp] theorem ft_8_0 : ft Tryd.prog 8 0 = some (2, 0) := by kernel_rfl
@[simp] theorem fo_8_1 : fo Tryd.prog 8 1 = some 1 := by kernel_rfl
@[simp] theorem ft_8_1 : ft Tryd.prog 8 1 = some (3, 1) := by kernel_rfl
@[simp] theorem fo_8_2 : fo Tryd.prog 8 2 = some 2 := by kernel_rfl
@[simp] theorem ft_8_2 : ft Tryd.prog 8 2 = some (4, 2) := by kernel_rfl
@[simp] theorem fo_8_3 : fo Tryd.prog 8 3 = some 3 := by kernel_rfl
@[simp] theorem ft_8_3 : ft Tryd.prog 8 3 = some (6, 3) := by kernel_rfl
@[simp] theorem tk_13 : tk Tryd.prog 13 = some (true, 2) := by kernel_rfl
@[simp] theorem places_13 : places Tryd.prog 13 = some [(0, 1), (1, 1)] := by kernel_rfl
@[simp] theorem zvA_13 : zvA Tryd.prog 13 = some [AV.d (D.v (Value.string { data := #[] })), AV.d (D.v (Value.int IntKind.u64 (0)))] := by kernel_rfl
@[simp] theorem ar_13 : ar Tryd.prog 13 = none := by kernel_rfl
@[simp] theorem fo_13_0 : fo Tryd.prog 13 0 = some 0 := by kernel_rfl
@[simp] theorem ft_13_0 : ft Tryd.prog 13 0 = some (9, 0) := by kernel_rfl
@[simp] theorem fo_13_1 : fo Tryd.prog 13 1 = some 1 := by kernel_rfl
@[simp] theorem ft_13_1 : ft Tryd.prog 13 1 = some (12, 1) := by kernel_rfl
@[simp] theorem tk_14 : tk Tryd.prog 14 = some (true, 2) := by kernel_rfl
@[simp] theorem places_14 : places Tryd.prog 14 = some [(0, 1), (1, 1)] := by kernel_rfl
@[simp] theorem zvA_14 : zvA Tryd.prog 14 = some [AV.d (D.v (Value.string { data := #[] })), AV.d (D.v (Value.int IntKind.u64 (0)))] := by kernel_rfl
@[simp] theorem ar_14 : ar Tryd.prog 14 = none := by kernel_rfl
@[simp] theorem fo_14_0 : fo Tryd.prog 14 0 = some 0 := by kernel_rfl
@[simp] theorem ft_14_0 : ft Tryd.prog 14 0 = some (9, 0) := by kernel_rfl
@[simp] theorem fo_14_1 : fo Tryd.prog 14 1 = some 1 := by kernel_rfl
@[simp] theorem ft_14_1 : ft Tryd.prog 14 1 = some (12, 1) := by kernel_rfl
@[simp] theorem tk_18 : tk Tryd.prog 18 = some (true, 1) := by kernel_rfl
@[simp] theorem places_18 : places Tryd.prog 18 = some [(0, 1)] := by kernel_rfl
@[simp] theorem zvA_18 : zvA Tryd.prog 18 = some [AV.d (D.v (Value.pointer none))] := by kernel_rfl
@[simp] theorem ar_18 : ar Tryd.prog 18 = none := by kernel_rfl
@[simp] theorem fo_18_0 : fo Tryd.prog 18 0 = some 0 := by kernel_rfl
@[simp] theorem ft_18_0 : ft Tryd.prog 18 0 = some (17, 0) := by kernel_rfl
@[simp] theorem tk_19 : tk Tryd.prog 19 = some (true, 1) := by kernel_rfl
@[simp] theorem places_19 : places Tryd.prog 19 = some [(0, 1)] := by kernel_rfl
@[simp] theorem zvA_19 : zvA Tryd.prog 19 = some [AV.d (D.v (Value.pointer none))] := by kernel_rfl
@[simp] theorem ar_19 : ar Tryd.prog 19 = none := by kernel_rfl
@[simp] theorem fo_19_0 : fo Tryd.prog 19 0 = some 0 := by kernel_rfl
@[simp] theorem ft_19_0 : ft Tryd.prog 19 0 = some (17, 0) := by kernel_rfl
@[simp] theorem tk_24 : tk Tryd.prog 24 = some (true, 2) := by kernel_rfl
@[simp] theorem places_24 : places Tryd.prog 24 = some [(0, 1), (1, 1)] := by kernel_rfl
@[simp] theorem zvA_24 : zvA Tryd.prog 24 = some [AV.d (D.v (Value.int IntKind.u32 (0))), AV.d (D.v (Value.slice none 0 0))] := by kernel_rfl
@[simp] theorem ar_24 : ar Tryd.prog 24 = none := by kernel_rfl
@[simp] theorem fo_24_0 : fo Tryd.prog 24 0 = some 0 := by kernel_rfl
@[simp] theorem ft_24_0 : ft Tryd.prog 24 0 = some (22, 0) := by kernel_rfl
@[simp] theorem fo_24_1 : fo Tryd.prog 24 1 = some 1 := by kernel_rfl
@[simp] theorem ft_24_1 : ft Tryd.prog 24 1 = some (23, 1) := by kernel_rfl
@[simp] theorem tk_25 : tk Tryd.prog 25 = some (true, 2) := by kernel_rfl
@[simp] theorem places_25 : places Tryd.prog 25 = some [(0, 1), (1, 1)] := by kernel_rfl
@[simp] theorem zvA_25 : zvA Tryd.prog 25 = some [AV.d (D.v (Value.int IntKind.u32 (0))), AV.d (D.v (Value.slice none 0 0))] := by kernel_rfl
@[simp] theorem ar_25 : ar Tryd.prog 25 = none := by kernel_rfl
@[simp] theorem fo_25_0 : fo Tryd.prog 25 0 = some 0 := by kernel_rfl
@[simp] theorem ft_25_0 : ft Tryd.prog 25 0 = some (22, 0) := by kernel_rfl
@[simp] theorem fo_25_1 : fo Tryd.prog 25 1 = some 1 := by kernel_rfl
@[simp] theorem ft_25_1 : ft Tryd.prog 25 1 = some (23, 1) := by kernel_rfl
@[simp] theorem tk_28 : tk Tryd.prog 28 = some (true, 4) := by kernel_rfl
@[simp] theorem places_28 : places Tryd.prog 28 = some [(0, 2), (2, 1), (3, 1)] := by kernel_rfl
@[simp] theorem zvA_28 : zvA Tryd.prog 28 = some [AV.d (D.v (Value.int IntKind.u32 (0))), AV.d (D.v (Value.slice none 0 0)), AV.d (D.v (Value.slice none 0 0)), AV.d (D.v (Value.slice none 0 0))] := by kernel_rfl
@[simp] theorem ar_28 : ar Tryd.prog 28 = none := by kernel_rfl
@[simp] theorem fo_28_0 : fo Tryd.prog 28 0 = some 0 := by kernel_rfl
@[simp] theorem ft_28_0 : ft Tryd.prog 28 0 = some (25, 0) := by kernel_rfl
@[simp] theorem fo_28_1 : fo Tryd.prog 28 1 = some 2 := by kernel_rfl
@[simp] theorem ft_28_1 : ft Tryd.prog 28 1 = some (26, 2) := by kernel_rfl
@[simp] theorem fo_28_2 : fo Tryd.prog 28 2 = some 3 := by kernel_rfl
@[simp] theorem ft_28_2 : ft Tryd.prog 28 2 = some (27, 3) := by kernel_rfl
@[simp] theorem tk_29 : tk Tryd.prog 29 = some (true, 4) := by kernel_rfl
@[simp] theorem places_29 : places Tryd.prog 29 = some [(0, 2), (2, 1), (3, 1)] := by kernel_rfl
@[simp] theorem zvA_29 : zvA Tryd.prog 29 = some [AV.d (D.v (Value.int IntKind.u32 (0))), AV.d (D.v (Value.slice none 0 0)), AV.d (D.v (Value.slice none 0 0)), AV.d (D.v (Value.slice none 0 0))] := by kernel_rfl
@[simp] theorem ar_29 : ar Tryd.prog 29 = none := by kernel_rfl
@[simp] theorem fo_29_0 : fo Tryd.prog 29 0 = some 0 := by kernel_rfl
@[simp] theorem ft_29_0 : ft Tryd.prog 29 0 = some (25, 0) := by kernel_rfl
@[simp] theorem fo_29_1 : fo Tryd.prog 29 1 = some 2 := by kernel_rfl
@[simp] theorem ft_29_1 : ft Tryd.prog 29 1 = some (26, 2) := by kernel_rfl
@[simp] theorem fo_29_2 : fo Tryd.prog 29 2 = some 3 := by kernel_rfl
@[simp] theorem ft_29_2 : ft Tryd.prog 29 2 = some (27, 3) := by kernel_rfl
@[simp] theorem tk_39 : tk Tryd.prog 39 = some (true, 5) := by kernel_rfl
@[simp] theorem places_39 : places Tryd.prog 39 = some [(0, 1), (1, 1), (2, 1), (3, 1), (4, 1)] := by kernel_rfl
@[simp] theorem zvA_39 : zvA Tryd.prog 39 = some [AV.d (D.v (Value.int IntKind.i64 (0))), AV.d (D.v (Value.int IntKind.i64 (0))), AV.d (D.v (Value.int IntKind.i64 (0))), AV.d (D.v (Value.slice none 0 0)), AV.d (D.v (Value.slice none 0 0))] := by kernel_rfl
@[simp] theorem ar_39 : ar Tryd.prog 39 = none := by kernel_rfl
@[simp] theorem fo_39_0 : fo Tryd.prog 39 0 = some 0 := by kernel_rfl
@[simp] theorem ft_39_0 : ft Tryd.prog 39 0 = some (3, 0) := by kernel_rfl
@[simp] theorem fo_39_1 : fo Tryd.prog 39 1 = some 1 := by kernel_rfl
@[simp] theorem ft_39_1 : ft Tryd.prog 39 1 = some (3, 1) := by kernel_rfl
@[simp] theorem fo_39_2 : fo Tryd.prog 39 2 = some 2 := by kernel_rfl
@[simp] theorem ft_39_2 : ft Tryd.prog 39 2 = some (3, 2) := by kernel_rfl
@[simp] theorem fo_39_3 : fo Tryd.prog 39 3 = some 3 := by kernel_rfl
@[simp] theorem ft_39_3 : ft Tryd.prog 39 3 = some (37, 3) := by kernel_rfl
@[simp] theorem fo_39_4 : fo Tryd.prog 39 4 = some 4 := by kernel_rfl
@[simp] theorem ft_39_4 : ft Tryd.prog 39 4 = some (38, 4) := by kernel_rfl
@[simp] theorem tk_40 : tk Tryd.prog 40 = some (true, 5) := by kernel_rfl
@[simp] theorem places_40 : places Tryd.prog 40 = some [(0, 1), (1, 1), (2, 1), (3, 1), (4, 1)] := by kernel_rfl
@[simp] theorem zvA_40 : zvA Tryd.prog 40 = some [AV.d (D.v (Value.int IntKind.i64 (0))), AV.d (D.v (Value.int IntKind.i64 (0))), AV.d (D.v (Value.int IntKind.i64 (0))), AV.d (D.v (Value.slice none 0 0)), AV.d (D.v (Value.slice none 0 0))] := by kernel_rfl
@[simp] theorem ar_40 : ar Tryd.prog 40 = none := by kernel_rfl
@[simp] theorem fo_40_0 : fo Tryd.prog 40 0 = some 0 := by kernel_rfl
@[simp] theorem ft_40_0 : ft Tryd.prog 40 0 = some (3, 0) := by kernel_rfl
@[simp] theorem fo_40_1 : fo Tryd.prog 40 1 = some 1 := by kernel_rfl
@[simp] theorem ft_40_1 : ft Tryd.prog 40 1 = some (3, 1) := by kernel_rfl
@[simp] theorem fo_40_2 : fo Tryd.prog 40 2 = some 2 := by kernel_rfl
@[simp] theorem ft_40_2 : ft Tryd.prog 40 2 = some (3, 2) := by kernel_rfl
@[simp] theorem fo_40_3 : fo Tryd.prog 40 3 = some 3 := by kernel_rfl
@[simp] theorem ft_40_3 : ft Tryd.prog 40 3 = some (37, 3) := by kernel_rfl
@[simp] theorem fo_40_4 : fo Tryd.prog 40 4 = some 4 := by kernel_rfl
@[simp] theorem ft_40_4 : ft Tryd.prog 40 4 = some (38, 4) := by kernel_rfl
@[simp] theorem tk_41 : tk Tryd.prog 41 = some (true, 10) := by kernel_rfl
@[simp] theorem places_41 : places Tryd.prog 41 = some [(0, 1), (1, 1), (2, 1), (3, 1), (4, 1), (5, 5)] := by kernel_rfl
@[simp] theorem zvA_41 : zvA Tryd.prog 41 = some [AV.d (D.v (Value.int IntKind.i64 (0))), AV.d (D.v (Value.int IntKind.i64 (0))), AV.d (D.v (Value.int IntKind.i64 (0))), AV.d (D.v (Value.int IntKind.i64 (0))), AV.d (D.v (Value.int IntKind.i64 (0))), AV.d (D.v (Value.int IntKind.i64 (0))), AV.d (D.v (Value.int IntKind.i64 (0))), AV.d (D.v (Value.int IntKind.i64 (0))), AV.d (D.v (Value.slice none 0 0)), AV.d (D.v (Value.slice none 0 0))] := by kernel_rfl
@[simp] theorem ar_41 : ar Tryd.prog 41 = none := by kernel_rfl
@[simp] theorem fo_41_0 : fo Tryd.prog 41 0 = some 0 := by kernel_rfl
@[simp] theorem ft_41_0 : ft Tryd.prog 41 0 = some (3, 0) := by kernel_rfl
@[simp] theorem fo_41_1 : fo Tryd.prog 41 1 = some 1 := by kernel_rfl
@[simp] theorem ft_41_1 : ft Tryd.prog 41 1 = some (3, 1) := by kernel_rfl
@[simp] theorem fo_41_2 : fo Tryd.prog 41 2 = some 2 := by kernel_rfl
@[simp] theorem ft_41_2 : ft Tryd.prog 41 2 = some (3, 2) := by kernel_rfl
@[simp] theorem fo_41_3 : fo Tryd.prog 41 3 = some 3 := by kernel_rfl
@[simp] theorem ft_41_3 : ft Tryd.prog 41 3 = some (3, 3) := by kernel_rfl
@[simp] theorem fo_41_4 : fo Tryd.prog 41 4 = some 4 := by kernel_rfl
@[simp] theorem ft_41_4 : ft Tryd.prog 41 4 = some (3, 4) := by kernel_rfl
@[simp] theorem fo_41_5 : fo Tryd.prog 41 5 = some 5 := by kernel_rfl
@[simp] theorem ft_41_5 : ft Tryd.prog 41 5 = some (40, 5) := by kernel_rfl
@[simp] theorem tk_42 : tk Tryd.prog 42 = some (true, 10) := by kernel_rfl
@[simp] theorem places_42 : places Tryd.prog 42 = some [(0, 1), (1, 1), (2, 1), (3, 1), (4, 1), (5, 5)] := by kernel_rfl
@[simp] theorem zvA_42 : zvA Tryd.prog 42 = some [AV.d (D.v (Value.int IntKind.i64 (0))), AV.d (D.v (Value.int IntKind.i64 (0))), AV.d (D.v (Value.int IntKind.i64 (0))), AV.d (D.v (Value.int IntKind.i64 (0))), AV.d (D.v (Value.int IntKind.i64 (0))), AV.d (D.v (Value.int IntKind.i64 (0))), AV.d (D.v (Value.int IntKind.i64 (0))), AV.d (D.v (Value.int IntKind.i64 (0))), AV.d (D.v (Value.slice none 0 0)), AV.d (D.v (Value.slice none 0 0))] := by kernel_rfl
@[simp] theorem ar_42 : ar Tryd.prog 42 = none := by kernel_rfl
@[simp] theorem fo_42_0 : fo Tryd.prog 42 0 = some 0 := by kernel_rfl
@[simp] theorem ft_42_0 : ft Tryd.prog 42 0 = some (3, 0) := by kernel_rfl
@[simp] theorem fo_42_1 : fo Tryd.prog 42 1 = some 1 := by kernel_rfl
@[simp] theorem ft_42_1 : ft Tryd.prog 42 1 = some (3, 1) := by kernel_rfl
@[simp] theorem fo_42_2 : fo Tryd.prog 42 2 = some 2 := by kernel_rfl
@[simp] theorem ft_42_2 : ft Tryd.prog 42 2 = some (3, 2) := by kernel_rfl
@[simp] theorem fo_42_3 : fo Tryd.prog 42 3 = some 3 := by kernel_rfl
@[simp] theorem ft_42_3 : ft Tryd.prog 42 3 = some (3, 3) := by kernel_rfl
@[simp] theorem fo_42_4 : fo Tryd.prog 42 4 = some 4 := by kernel_rfl
@[simp] theorem ft_42_4 : ft Tryd.prog 42 4 = some (3, 4) := by kernel_rfl
@[simp] theorem fo_42_5 : fo Tryd.prog 42 5 = some 5 := by kernel_rfl
@[simp] theorem ft_42_5 : ft Tryd.prog 42 5 = some (40, 5) := by kernel_rfl
@[simp] theorem tk_44 : tk Tryd.prog 44 = some (true, 2) := by kernel_rfl
@[simp] theorem places_44 : places Tryd.prog 44 = some [(0, 1), (1, 1)] := by kernel_rfl
@[simp] theorem zvA_44 : zvA Tryd.prog 44 = some [AV.d (D.v (Value.int IntKind.i64 (0))), AV.d (D.v (Value.slice none 0 0))] := by kernel_rfl
@[simp] theorem ar_44 : ar Tryd.prog 44 = none := by kernel_rfl
@[simp] theorem fo_44_0 : fo Tryd.prog 44 0 = some 0 := by kernel_rfl
@[simp] theorem ft_44_0 : ft Tryd.prog 44 0 = some (3, 0) := by kernel_rfl
@[simp] theorem fo_44_1 : fo Tryd.prog 44 1 = some 1 := by kernel_rfl
@[simp] theorem ft_44_1 : ft Tryd.prog 44 1 = some (27, 1) := by kernel_rfl
@[simp] theorem tk_45 : tk Tryd.prog 45 = some (true, 2) := by kernel_rfl
@[simp] theorem places_45 : places Tryd.prog 45 = some [(0, 1), (1, 1)] := by kernel_rfl
@[simp] theorem zvA_45 : zvA Tryd.prog 45 = some [AV.d (D.v (Value.int IntKind.i64 (0))), AV.d (D.v (Value.slice none 0 0))] := by kernel_rfl
@[simp] theorem ar_45 : ar Tryd.prog 45 = none := by kernel_rfl
@[simp] theorem fo_45_0 : fo Tryd.prog 45 0 = some 0 := by kernel_rfl
@[simp] theorem ft_45_0 : ft Tryd.prog 45 0 = some (3, 0) := by kernel_rfl
@[simp] theorem fo_45_1 : fo Tryd.prog 45 1 = some 1 := by kernel_rfl
@[simp] theorem ft_45_1 : ft Tryd.prog 45 1 = some (27, 1) := by kernel_rfl
@[simp] theorem tk_47 : tk Tryd.prog 47 = some (true, 2) := by kernel_rfl
@[simp] theorem places_47 : places Tryd.prog 47 = some [(0, 1), (1, 1)] := by kernel_rfl
@[simp] theorem zvA_47 : zvA Tryd.prog 47 = some [AV.d (D.v (Value.int IntKind.u32 (0))), AV.d (D.v (Value.slice none 0 0))] := by kernel_rfl
@[simp] theorem ar_47 : ar Tryd.prog 47 = none := by kernel_rfl
@[simp] theorem fo_47_0 : fo Tryd.prog 47 0 = some 0 := by kernel_rfl
@[simp] theorem ft_47_0 : ft Tryd.prog 47 0 = some (22, 0) := by kernel_rfl
@[simp] theorem fo_47_1 : fo Tryd.prog 47 1 = some 1 := by kernel_rfl
@[simp] theorem ft_47_1 : ft Tryd.prog 47 1 = some (46, 1) := by kernel_rfl
@[simp] theorem tk_48 : tk Tryd.prog 48 = some (true, 2) := by kernel_rfl
@[simp] theorem places_48 : places Tryd.prog 48 = some [(0, 1), (1, 1)] := by kernel_rfl
@[simp] theorem zvA_48 : zvA Tryd.prog 48 = some [AV.d (D.v (Value.int IntKind.u32 (0))), AV.d (D.v (Value.slice none 0 0))] := by kernel_rfl
@[simp] theorem ar_48 : ar Tryd.prog 48 = none := by kernel_rfl
@[simp] theorem fo_48_0 : fo Tryd.prog 48 0 = some 0 := by kernel_rfl
@[simp] theorem ft_48_0 : ft Tryd.prog 48 0 = some (22, 0) := by kernel_rfl
@[simp] theorem fo_48_1 : fo Tryd.prog 48 1 = some 1 := by kernel_rfl
@[simp] theorem ft_48_1 : ft Tryd.prog 48 1 = some (46, 1) := by kernel_rfl
@[simp] theorem tk_50 : tk Tryd.prog 50 = some (true, 8) := by kernel_rfl
@[simp] theorem places_50 : places Tryd.prog 50 = some [(0, 1), (1, 1), (2, 1), (3, 1), (4, 1), (5, 1), (6, 1), (7, 1)] := by kernel_rfl
@[simp] theorem zvA_50 : zvA Tryd.prog 50 = some [AV.d (D.v (Value.int IntKind.i64 (0))), AV.d (D.v (Value.int IntKind.i64 (0))), AV.d (D.v (Value.int IntKind.i64 (0))), AV.d (D.v (Value.int IntKind.i64 (0))), AV.d (D.v (Value.int IntKind.i64 (0))), AV.d (D.v (Value.int IntKind.u32 (0))), AV.d (D.v (Value.slice none 0 0)), AV.d (D.v (Value.slice none 0 0))] := by kernel_rfl
@[simp] theorem ar_50 : ar Tryd.prog 50 = none := by kernel_rfl
@[simp] theorem fo_50_0 : fo Tryd.prog 50 0 = some 0 := by kernel_rfl
@[simp] theorem ft_50_0 : ft Tryd.prog 50 0 = some (3, 0) := by kernel_rfl
@[simp] theorem fo_50_1 : fo Tryd.prog 50 1 = some 1 := by kernel_rfl
@[simp] theorem ft_50_1 : ft Tryd.prog 50 1 = some (3, 1) := by kernel_rfl
@[simp] theorem fo_50_2 : fo Tryd.prog 50 2 = some 2 := by kernel_rfl
@[simp] theorem ft_50_2 : ft Tryd.prog 50 2 = some (3, 2) := by kernel_rfl
@[simp] theorem fo_50_3 : fo Tryd.prog 50 3 = some 3 := by kernel_rfl
@[simp] theorem ft_50_3 : ft Tryd.prog 50 3 = some (3, 3) := by kernel_rfl
@[simp] theorem fo_50_4 : fo Tryd.prog 50 4 = some 4 := by kernel_rfl
@[simp] theorem ft_50_4 : ft Tryd.prog 50 4 = some (3, 4) := by kernel_rfl
@[simp] theorem fo_50_5 : fo Tryd.prog 50 5 = some 5 := by kernel_rfl
@[simp] theorem ft_50_5 : ft Tryd.prog 50 5 = some (22, 5) := by kernel_rfl
@[simp] theorem fo_50_6 : fo Tryd.prog 50 6 = some 6 := by kernel_rfl
@[simp] theorem ft_50_6 : ft Tryd.prog 50 6 = some (49, 6) := by kernel_rfl
@[simp] theorem fo_50_7 : fo Tryd.prog 50 7 = some 7 := by kernel_rfl
@[simp] theorem ft_50_7 : ft Tryd.prog 50 7 = some (27, 7) := by kernel_rfl
@[simp] theorem tk_51 : tk Tryd.prog 51 = some (true, 8) := by kernel_rfl
@[simp] theorem places_51 : places Tryd.prog 51 = some [(0, 1), (1, 1), (2, 1), (3, 1), (4, 1), (5, 1), (6, 1), (7, 1)] := by kernel_rfl
@[simp] theorem zvA_51 : zvA Tryd.prog 51 = some [AV.d (D.v (Value.int IntKind.i64 (0))), AV.d (D.v (Value.int IntKind.i64 (0))), AV.d (D.v (Value.int IntKind.i64 (0))), AV.d (D.v (Value.int IntKind.i64 (0))), AV.d (D.v (Value.int IntKind.i64 (0))), AV.d (D.v (Value.int IntKind.u32 (0))), AV.d (D.v (Value.slice none 0 0)), AV.d (D.v (Value.slice none 0 0))] := by kernel_rfl
@[simp] theorem ar_51 : ar Tryd.prog 51 = none := by kernel_rfl
@[simp] theorem fo_51_0 : fo Tryd.prog 51 0 = some 0 := by kernel_rfl
@[simp] theorem ft_51_0 : ft Tryd.prog 51 0 = some (3, 0) := by kernel_rfl
@[simp] theorem fo_51_1 : fo Tryd.prog 51 1 = some 1 := by kernel_rfl
@[simp] theorem ft_51_1 : ft Tryd.prog 51 1 = some (3, 1) := by kernel_rfl
@[simp] theorem fo_51_2 : fo Tryd.prog 51 2 = some 2 := by kernel_rfl
@[simp] theorem ft_51_2 : ft Tryd.prog 51 2 = some (3, 2) := by kernel_rfl
@[simp] theorem fo_51_3 : fo Tryd.prog 51 3 = some 3 := by kernel_rfl
@[simp] theorem ft_51_3 : ft Tryd.prog 51 3 = some (3, 3) := by kernel_rfl
@[simp] theorem fo_51_4 : fo Tryd.prog 51 4 = some 4 := by kernel_rfl
@[simp] theorem ft_51_4 : ft Tryd.prog 51 4 = some (3, 4) := by kernel_rfl
@[simp] theorem fo_51_5 : fo Tryd.prog 51 5 = some 5 := by kernel_rfl
@[simp] theorem ft_51_5 : ft Tryd.prog 51 5 = some (22, 5) := by kernel_rfl
@[simp] theorem fo_51_6 : fo Tryd.prog 51 6 = some 6 := by kernel_rfl
@[simp] theorem ft_51_6 : ft Tryd.prog 51 6 = some (49, 6) := by kernel_rfl
@[simp] theorem fo_51_7 : fo Tryd.prog 51 7 = some 7 := by kernel_rfl
@[simp] theorem ft_51_7 : ft Tryd.prog 51 7 = some (27, 7) := by kernel_rfl
@[simp] theorem tk_52 : tk Tryd.prog 52 = some (true, 5) := by kernel_rfl
@[simp] theorem places_52 : places Tryd.prog 52 = some [(0, 1), (1, 1), (2, 1), (3, 1), (4, 1)] := by kernel_rfl
@[simp] theorem zvA_52 : zvA Tryd.prog 52 = some [AV.d (D.v (Value.int IntKind.i64 (0))), AV.d (D.v (Value.int IntKind.u32 (0))), AV.d (D.v (Value.int IntKind.i64 (0))), AV.d (D.v (Value.int IntKind.i64 (0))), AV.d (D.v (Value.slice none 0 0))] := by kernel_rfl
@[simp] theorem ar_52 : ar Tryd.prog 52 = none := by kernel_rfl
@[simp] theorem fo_52_0 : fo Tryd.prog 52 0 = some 0 := by kernel_rfl
@[simp] theorem ft_52_0 : ft Tryd.prog 52 0 = some (3, 0) := by kernel_rfl
@[simp] theorem fo_52_1 : fo Tryd.prog 52 1 = some 1 := by kernel_rfl
@[simp] theorem ft_52_1 : ft Tryd.prog 52 1 = some (22, 1) := by kernel_rfl
@[simp] theorem fo_52_2 : fo Tryd.prog 52 2 = some 2 := by kernel_rfl
@[simp] theorem ft_52_2 : ft Tryd.prog 52 2 = some (3, 2) := by kernel_rfl
@[simp] theorem fo_52_3 : fo Tryd.prog 52 3 = some 3 := by kernel_rfl
@[simp] theorem ft_52_3 : ft Tryd.prog 52 3 = some (3, 3) := by kernel_rfl
@[simp] theorem fo_52_4 : fo Tryd.prog 52 4 = some 4 := by kernel_rfl
@[simp] theorem ft_52_4 : ft Tryd.prog 52 4 = some (49, 4) := by kernel_rfl
@[simp] theorem tk_53 : tk Tryd.prog 53 = some (true, 5) := by kernel_rfl
@[simp] theorem places_53 : places Tryd.prog 53 = some [(0, 1), (1, 1), (2, 1), (3, 1), (4, 1)] := by kernel_rfl
@[simp] theorem zvA_53 : zvA Tryd.prog 53 = some [AV.d (D.v (Value.int IntKind.i64 (0))), AV.d (D.v (Value.int IntKind.u32 (0))), AV.d (D.v (Value.int IntKind.i64 (0))), AV.d (D.v (Value.int IntKind.i64 (0))), AV.d (D.v (Value.slice none 0 0))] := by kernel_rfl
@[simp] theorem ar_53 : ar Tryd.prog 53 = none := by kernel_rfl
@[simp] theorem fo_53_0 : fo Tryd.prog 53 0 = some 0 := by kernel_rfl
@[simp] theorem ft_53_0 : ft Tryd.prog 53 0 = some (3, 0) := by kernel_rfl
@[simp] theorem fo_53_1 : fo Tryd.prog 53 1 = some 1 := by kernel_rfl
@[simp] theorem ft_53_1 : ft Tryd.prog 53 1 = some (22, 1) := by kernel_rfl
@[simp] theorem fo_53_2 : fo Tryd.prog 53 2 = some 2 := by kernel_rfl
@[simp] theorem ft_53_2 : ft Tryd.prog 53 2 = some (3, 2) := by kernel_rfl
@[simp] theorem fo_53_3 : fo Tryd.prog 53 3 = some 3 := by kernel_rfl
@[simp] theorem ft_53_3 : ft Tryd.prog 53 3 = some (3, 3) := by kernel_rfl
@[simp] theorem fo_53_4 : fo Tryd.prog 53 4 = some 4 := by kernel_rfl
@[simp] theorem ft_53_4 : ft Tryd.prog 53 4 = some (49, 4) := by kernel_rfl
@[simp] theorem tk_66 : tk Tryd.prog 66 = some (true, 2) := by kernel_rfl
@[simp] theorem places_66 : places Tryd.prog 66 = some [(0, 1), (1, 1)] := by kernel_rfl
@[simp] theorem zvA_66 : zvA Tryd.prog 66 = some [AV.d (D.v (Value.slice none 0 0)), AV.d (D.v (Value.int IntKind.i64 (0)))] := by kernel_rfl
@[simp] theorem ar_66 : ar Tryd.prog 66 = none := by kernel_rfl
@[simp] theorem fo_66_0 : fo Tryd.prog 66 0 = some 0 := by kernel_rfl
@[simp] theorem ft_66_0 : ft Tryd.prog 66 0 = some (32, 0) := by kernel_rfl
@[simp] theorem fo_66_1 : fo Tryd.prog 66 1 = some 1 := by kernel_rfl
@[simp] theorem ft_66_1 : ft Tryd.prog 66 1 = some (3, 1) := by kernel_rfl
@[simp] theorem tk_67 : tk Tryd.prog 67 = some (true, 2) := by kernel_rfl
@[simp] theorem places_67 : places Tryd.prog 67 = some [(0, 1), (1, 1)] := by kernel_rfl
@[simp] theorem zvA_67 : zvA Tryd.prog 67 = some [AV.d (D.v (Value.slice none 0 0)), AV.d (D.v (Value.int IntKind.i64 (0)))] := by kernel_rfl
@[simp] theorem ar_67 : ar Tryd.prog 67 = none := by kernel_rfl
@[simp] theorem fo_67_0 : fo Tryd.prog 67 0 = some 0 := by kernel_rfl
@[simp] theorem ft_67_0 : ft Tryd.prog 67 0 = some (32, 0) := by kernel_rfl
@[simp] theorem fo_67_1 : fo Tryd.prog 67 1 = some 1 := by kernel_rfl
@[simp] theorem ft_67_1 : ft Tryd.prog 67 1 = some (3, 1) := by kernel_rfl
@[simp] theorem tk_69 : tk Tryd.prog 69 = some (true, 5) := by kernel_rfl
@[simp] theorem places_69 : places Tryd.prog 69 = some [(0, 1), (1, 1), (2, 1), (3, 1), (4, 1)] := by kernel_rfl
@[simp] theorem zvA_69 : zvA Tryd.prog 69 = some [AV.d (D.v (Value.int IntKind.i64 (0))), AV.d (D.v (Value.int IntKind.i64 (0))), AV.d (D.v (Value.int IntKind.i64 (0))), AV.d (D.v (Value.int IntKind.i64 (0))), AV.d (D.v (Value.int IntKind.i64 (0)))] := by kernel_rfl
@[simp] theorem ar_69 : ar Tryd.prog 69 = none := by kernel_rfl
@[simp] theorem fo_69_0 : fo Tryd.prog 69 0 = some 0 := by kernel_rfl
@[simp] theorem ft_69_0 : ft Tryd.prog 69 0 = some (3, 0) := by kernel_rfl
@[simp] theorem fo_69_1 : fo Tryd.prog 69 1 = some 1 := by kernel_rfl
@[simp] theorem ft_69_1 : ft Tryd.prog 69 1 = some (3, 1) := by kernel_rfl
@[simp] theorem fo_69_2 : fo Tryd.prog 69 2 = some 2 := by kernel_rfl
@[simp] theorem ft_69_2 : ft Tryd.prog 69 2 = some (3, 2) := by kernel_rfl
@[simp] theorem fo_69_3 : fo Tryd.prog 69 3 = some 3 := by kernel_rfl
@[simp] theorem ft_69_3 : ft Tryd.prog 69 3 = some (3, 3) := by kernel_rfl
@[simp] theorem fo_69_4 : fo Tryd.prog 69 4 = some 4 := by kernel_rfl
@[simp] theorem ft_69_4 : ft Tryd.prog 69 4 = some (3, 4) := by kernel_rfl
@[simp] theorem tk_70 : tk Tryd.prog 70 = some (true, 5) := by kernel_rfl
@[simp] theorem places_70 : places Tryd.prog 70 = some [(0, 1), (1, 1), (2, 1), (3, 1), (4, 1)] := by kernel_rfl
@[simp] theorem zvA_70 : zvA Tryd.prog 70 = some [AV.d (D.v (Value.int IntKind.i64 (0))), AV.d (D.v (Value.int IntKind.i64 (0))), AV.d (D.v (Value.int IntKind.i64 (0))), AV.d (D.v (Value.int IntKind.i64 (0))), AV.d (D.v (Value.int IntKind.i64 (0)))] := by kernel_rfl
@[simp] theorem ar_70 : ar Tryd.prog 70 = none := by kernel_rfl
@[simp] theorem fo_70_0 : fo Tryd.prog 70 0 = some 0 := by kernel_rfl
@[simp] theorem ft_70_0 : ft Tryd.prog 70 0 = some (3, 0) := by kernel_rfl
@[simp] theorem fo_70_1 : fo Tryd.prog 70 1 = some 1 := by kernel_rfl
@[simp] theorem ft_70_1 : ft Tryd.prog 70 1 = some (3, 1) := by kernel_rfl
@[simp] theorem fo_70_2 : fo Tryd.prog 70 2 = some 2 := by kernel_rfl
@[simp] theorem ft_70_2 : ft Tryd.prog 70 2 = some (3, 2) := by kernel_rfl
@[simp] theorem fo_70_3 : fo Tryd.prog 70 3 = some 3 := by kernel_rfl
@[simp] theorem ft_70_3 : ft Tryd.prog 70 3 = some (3, 3) := by kernel_rfl
@[simp] theorem fo_70_4 : fo Tryd.prog 70 4 = some 4 := by kernel_rfl
@[simp] theorem ft_70_4 : ft Tryd.prog 70 4 = some (3, 4) := by kernel_rfl
@[simp] theorem tk_96 : tk Tryd.prog 96 = some (true, 2) := by kernel_rfl
@[simp] theorem places_96 : places Tryd.prog 96 = some [(0, 1), (1, 1)] := by kernel_rfl
@[simp] theorem zvA_96 : zvA Tryd.prog 96 = some [AV.d (D.v (Value.pointer none)), AV.d (D.v (Value.slice none 0 0))] := by kernel_rfl
@[simp] theorem ar_96 : ar Tryd.prog 96 = none := by kernel_rfl
@[simp] theorem fo_96_0 : fo Tryd.prog 96 0 = some 0 := by kernel_rfl
@[simp] theorem ft_96_0 : ft Tryd.prog 96 0 = some (94, 0) := by kernel_rfl
@[simp] theorem fo_96_1 : fo Tryd.prog 96 1 = some 1 := by kernel_rfl
@[simp] theorem ft_96_1 : ft Tryd.prog 96 1 = some (95, 1) := by kernel_rfl
@[simp] theorem tk_97 : tk Tryd.prog 97 = some (true, 2) := by kernel_rfl
@[simp] theorem places_97 : places Tryd.prog 97 = some [(0, 1), (1, 1)] := by kernel_rfl
@[simp] theorem zvA_97 : zvA Tryd.prog 97 = some [AV.d (D.v (Value.pointer none)), AV.d (D.v (Value.slice none 0 0))] := by kernel_rfl
@[simp] theorem ar_97 : ar Tryd.prog 97 = none := by kernel_rfl
@[simp] theorem fo_97_0 : fo Tryd.prog 97 0 = some 0 := by kernel_rfl
@[simp] theorem ft_97_0 : ft Tryd.prog 97 0 = some (94, 0) := by kernel_rfl
@[simp] theorem fo_97_1 : fo Tryd.prog 97 1 = some 1 := by kernel_rfl
@[simp] theorem ft_97_1 : ft Tryd.prog 97 1 = some (95, 1) := by kernel_rfl
@[simp] theorem tk_98 : tk Tryd.prog 98 = some (true, 2) := by kernel_rfl
@[simp] theorem places_98 : places Tryd.prog 98 = some [(0, 2)] := by kernel_rfl
@[simp] theorem zvA_98 : zvA Tryd.prog 98 = some [AV.d (D.v (Value.pointer none)), AV.d (D.v (Value.slice none 0 0))] := by kernel_rfl
@[simp] theorem ar_98 : ar Tryd.prog 98 = none := by kernel_rfl
@[simp] theorem fo_98_0 : fo Tryd.prog 98 0 = some 0 := by kernel_rfl
@[simp] theorem ft_98_0 : ft Tryd.prog 98 0 = some (97, 0) := by kernel_rfl
@[simp] theorem tk_99 : tk Tryd.prog 99 = some (true, 2) := by kernel_rfl
@[simp] theorem places_99 : places Tryd.prog 99 = some [(0, 2)] := by kernel_rfl
@[simp] theorem zvA_99 : zvA Tryd.prog 99 = some [AV.d (D.v (Value.pointer none)), AV.d (D.v (Value.slice none 0 0))] := by kernel_rfl
@[simp] theorem ar_99 : ar Tryd.prog 99 = none := by kernel_rfl
@[simp] theorem fo_99_0 : fo Tryd.prog 99 0 = some 0 := by kernel_rfl
@[simp] theorem ft_99_0 : ft Tryd.prog 99 0 = some (97, 0) := by kernel_rfl
@[simp] theorem tk_122 : tk Tryd.prog 122 = some (true, 6) := by kernel_rfl
@[simp] theorem places_122 : places Tryd.prog 122 = some [(0, 1), (1, 5)] := by kernel_rfl
@[simp] theorem zvA_122 : zvA Tryd.prog 122 = some [AV.d (D.v (Value.int IntKind.i64 (0))), AV.d (D.v (Value.int IntKind.i64 (0))), AV.d (D.v (Value.int IntKind.i64 (0))), AV.d (D.v (Value.int IntKind.i64 (0))), AV.d (D.v (Value.slice none 0 0)), AV.d (D.v (Value.slice none 0 0))] := by kernel_rfl
@[simp] theorem ar_122 : ar Tryd.prog 122 = none := by kernel_rfl
@[simp] theorem fo_122_0 : fo Tryd.prog 122 0 = some 0 := by kernel_rfl
@[simp] theorem ft_122_0 : ft Tryd.prog 122 0 = some (3, 0) := by kernel_rfl
@[simp] theorem fo_122_1 : fo Tryd.prog 122 1 = some 1 := by kernel_rfl
@[simp] theorem ft_122_1 : ft Tryd.prog 122 1 = some (40, 1) := by kernel_rfl
@[simp] theorem tk_123 : tk Tryd.prog 123 = some (true, 6) := by kernel_rfl
@[simp] theorem places_123 : places Tryd.prog 123 = some [(0, 1), (1, 5)] := by kernel_rfl
@[simp] theorem zvA_123 : zvA Tryd.prog 123 = some [AV.d (D.v (Value.int IntKind.i64 (0))), AV.d (D.v (Value.int IntKind.i64 (0))), AV.d (D.v (Value.int IntKind.i64 (0))), AV.d (D.v (Value.int IntKind.i64 (0))), AV.d (D.v (Value.slice none 0 0)), AV.d (D.v (Value.slice none 0 0))] := by kernel_rfl
@[simp] theorem ar_123 : ar Tryd.prog 123 = none := by kernel_rfl
@[simp] theorem fo_123_0 : fo Tryd.prog 123 0 = some 0 := by kernel_rfl
@[simp] theorem ft_123_0 : ft Tryd.prog 123 0 = some (3, 0) := by kernel_rfl
@[simp] theorem fo_123_1 : fo Tryd.prog 123 1 = some 1 := by kernel_rfl
@[simp] theorem ft_123_1 : ft Tryd.prog 123 1 = some (40, 1) := by kernel_rfl
@[simp] theorem tk_150 : tk Tryd.prog 150 = some (true, 4) := by kernel_rfl
@[simp] theorem places_150 : places Tryd.prog 150 = some [(0, 1), (1, 1), (2, 1), (3, 1)] := by kernel_rfl
@[simp] theorem zvA_150 : zvA Tryd.prog 150 = some [AV.d (D.v (Value.pointer none)), AV.d (D.v (Value.pointer none)), AV.d (D.v (Value.pointer none)), AV.d (D.v (Value.string { data := #[] }))] := by kernel_rfl
@[simp] theorem ar_150 : ar Tryd.prog 150 = none := by kernel_rfl
@[simp] theorem fo_150_0 : fo Tryd.prog 150 0 = some 0 := by kernel_rfl
@[simp] theorem ft_150_0 : ft Tryd.prog 150 0 = some (17, 0) := by kernel_rfl
@[simp] theorem fo_150_1 : fo Tryd.prog 150 1 = some 1 := by kernel_rfl
@[simp] theorem ft_150_1 : ft Tryd.prog 150 1 = some (17, 1) := by kernel_rfl
@[simp] theorem fo_150_2 : fo Tryd.prog 150 2 = some 2 := by kernel_rfl
@[simp] theorem ft_150_2 : ft Tryd.prog 150 2 = some (17, 2) := by kernel_rfl
@[simp] theorem fo_150_3 : fo Tryd.prog 150 3 = some 3 := by kernel_rfl
@[simp] theorem ft_150_3 : ft Tryd.prog 150 3 = some (9, 3) := by kernel_rfl
@[simp] theorem tk_151 : tk Tryd.prog 151 = some (true, 4) := by kernel_rfl
@[simp] theorem places_151 : places Tryd.prog 151 = some [(0, 1), (1, 1), (2, 1), (3, 1)] := by kernel_rfl
@[simp] theorem zvA_151 : zvA Tryd.prog 151 = some [AV.d (D.v (Value.pointer none)), AV.d (D.v (Value.pointer none)), AV.d (D.v (Value.pointer none)), AV.d (D.v (Value.string { data := #[] }))] := by kernel_rfl
@[simp] theorem ar_151 : ar Tryd.prog 151 = none := by kernel_rfl
@[simp] theorem fo_151_0 : fo Tryd.prog 151 0 = some 0 := by kernel_rfl
@[simp] theorem ft_151_0 : ft Tryd.prog 151 0 = some (17, 0) := by kernel_rfl
@[simp] theorem fo_151_1 : fo Tryd.prog 151 1 = some 1 := by kernel_rfl
@[simp] theorem ft_151_1 : ft Tryd.prog 151 1 = some (17, 1) := by kernel_rfl
@[simp] theorem fo_151_2 : fo Tryd.prog 151 2 = some 2 := by kernel_rfl
@[simp] theorem ft_151_2 : ft Tryd.prog 151 2 = some (17, 2) := by kernel_rfl
@[simp] theorem fo_151_3 : fo Tryd.prog 151 3 = some 3 := by kernel_rfl
@[simp] theorem ft_151_3 : ft Tryd.prog 151 3 = some (9, 3) := by kernel_rfl
@[simp] theorem tk_153 : tk Tryd.prog 153 = some (true, 0) := by kernel_rfl
@[simp] theorem places_153 : places Tryd.prog 153 = some [(0, 0)] := by kernel_rfl
@[simp] theorem zvA_153 : zvA Tryd.prog 153 = some [] := by kernel_rfl
@[simp] theorem ar_153 : ar Tryd.prog 153 = none := by kernel_rfl
@[simp] theorem ft_153_0 : ft Tryd.prog 153 0 = some (152, 0) := by kernel_rfl
@[simp] theorem tk_154 : tk Tryd.prog 154 = some (true, 0) := by kernel_rfl
@[simp] theorem places_154 : places Tryd.prog 154 = some [(0, 0)] := by kernel_rfl
@[simp] theorem zvA_154 : zvA Tryd.prog 154 = some [] := by kernel_rfl
@[simp] theorem ar_154 : ar Tryd.prog 154 = none := by kernel_rfl
@[simp] theorem ft_154_0 : ft Tryd.prog 154 0 = some (152, 0) := by kernel_rfl
@[simp] theorem tk_160 : tk Tryd.prog 160 = some (true, 11) := by kernel_rfl
@[simp] theorem places_160 : places Tryd.prog 160 = some [(0, 1), (1, 1), (2, 1), (3, 1), (4, 1), (5, 1), (6, 1), (7, 1), (8, 1), (9, 1), (10, 1)] := by kernel_rfl
@[simp] theorem zvA_160 : zvA Tryd.prog 160 = some [AV.d (D.v (Value.int IntKind.u64 (0))), AV.d (D.v (Value.int IntKind.u64 (0))), AV.d (D.v (Value.int IntKind.u32 (0))), AV.d (D.v (Value.int IntKind.u8 (0))), AV.d (D.v (Value.int IntKind.u8 (0))), AV.d (D.v (Value.int IntKind.u8 (0))), AV.d (D.v (Value.int IntKind.u8 (0))), AV.d (D.v Value.nilFunc), AV.d (D.v (Value.pointer none)), AV.d (D.v (Value.int IntKind.i32 (0))), AV.d (D.v (Value.int IntKind.i32 (0)))] := by kernel_rfl
@[simp] theorem ar_160 : ar Tryd.prog 160 = none := by kernel_rfl
@[simp] theorem fo_160_0 : fo Tryd.prog 160 0 = some 0 := by kernel_rfl
@[simp] theorem ft_160_0 : ft Tryd.prog 160 0 = some (12, 0) := by kernel_rfl
@[simp] theorem fo_160_1 : fo Tryd.prog 160 1 = some 1 := by kernel_rfl
@[simp] theorem ft_160_1 : ft Tryd.prog 160 1 = some (12, 1) := by kernel_rfl
@[simp] theorem fo_160_2 : fo Tryd.prog 160 2 = some 2 := by kernel_rfl
@[simp] theorem ft_160_2 : ft Tryd.prog 160 2 = some (22, 2) := by kernel_rfl
@[simp] theorem fo_160_3 : fo Tryd.prog 160 3 = some 3 := by kernel_rfl
@[simp] theorem ft_160_3 : ft Tryd.prog 160 3 = some (155, 3) := by kernel_rfl
@[simp] theorem fo_160_4 : fo Tryd.prog 160 4 = some 4 := by kernel_rfl
@[simp] theorem ft_160_4 : ft Tryd.prog 160 4 = some (5, 4) := by kernel_rfl
@[simp] theorem fo_160_5 : fo Tryd.prog 160 5 = some 5 := by kernel_rfl
@[simp] theorem ft_160_5 : ft Tryd.prog 160 5 = some (5, 5) := by kernel_rfl
@[simp] theorem fo_160_6 : fo Tryd.prog 160 6 = some 6 := by kernel_rfl
@[simp] theorem ft_160_6 : ft Tryd.prog 160 6 = some (156, 6) := by kernel_rfl
@[simp] theorem fo_160_7 : fo Tryd.prog 160 7 = some 7 := by kernel_rfl
@[simp] theorem ft_160_7 : ft Tryd.prog 160 7 = some (157, 7) := by kernel_rfl
@[simp] theorem fo_160_8 : fo Tryd.prog 160 8 = some 8 := by kernel_rfl
@[simp] theorem ft_160_8 : ft Tryd.prog 160 8 = some (124, 8) := by kernel_rfl
@[simp] theorem fo_160_9 : fo Tryd.prog 160 9 = some 9 := by kernel_rfl
@[simp] theorem ft_160_9 : ft Tryd.prog 160 9 = some (158, 9) := by kernel_rfl
@[simp] theorem fo_160_10 : fo Tryd.prog 160 10 = some 10 := by kernel_rfl
@[simp] theorem ft_160_10 : ft Tryd.prog 160 10 = some (159, 10) := by kernel_rfl
@[simp] theorem tk_161 : tk Tryd.prog 161 = some (true, 11) := by kernel_rfl
@[simp] theorem places_161 : places Tryd.prog 161 = some [(0, 1), (1, 1), (2, 1), (3, 1), (4, 1), (5, 1), (6, 1), (7, 1), (8, 1), (9, 1), (10, 1)] := by kernel_rfl
@[simp] theorem zvA_161 : zvA Tryd.prog 161 = some [AV.d (D.v (Value.int IntKind.u64 (0))), AV.d (D.v (Value.int IntKind.u64 (0))), AV.d (D.v (Value.int IntKind.u32 (0))), AV.d (D.v (Value.int IntKind.u8 (0))), AV.d (D.v (Value.int IntKind.u8 (0))), AV.d (D.v (Value.int IntKind.u8 (0))), AV.d (D.v (Value.int IntKind.u8 (0))), AV.d (D.v Value.nilFunc), AV.d (D.v (Value.pointer none)), AV.d (D.v (Value.int IntKind.i32 (0))), AV.d (D.v (Value.int IntKind.i32 (0)))] := by kernel_rfl
@[simp] theorem ar_161 : ar Tryd.prog 161 = none := by kernel_rfl
@[simp] theorem fo_161_0 : fo Tryd.prog 161 0 = some 0 := by kernel_rfl
@[simp] theorem ft_161_0 : ft Tryd.prog 161 0 = some (12, 0) := by kernel_rfl
@[simp] theorem fo_161_1 : fo Tryd.prog 161 1 = some 1 := by kernel_rfl
@[simp] theorem ft_161_1 : ft Tryd.prog 161 1 = some (12, 1) := by kernel_rfl
@[simp] theorem fo_161_2 : fo Tryd.prog 161 2 = some 2 := by kernel_rfl
@[simp] theorem ft_161_2 : ft Tryd.prog 161 2 = some (22, 2) := by kernel_rfl
@[simp] theorem fo_161_3 : fo Tryd.prog 161 3 = some 3 := by kernel_rfl
@[simp] theorem ft_161_3 : ft Tryd.prog 161 3 = some (155, 3) := by kernel_rfl
@[simp] theorem fo_161_4 : fo Tryd.prog 161 4 = some 4 := by kernel_rfl
@[simp] theorem ft_161_4 : ft Tryd.prog 161 4 = some (5, 4) := by kernel_rfl
@[simp] theorem fo_161_5 : fo Tryd.prog 161 5 = some 5 := by kernel_rfl
@[simp] theorem ft_161_5 : ft Tryd.prog 161 5 = some (5, 5) := by kernel_rfl
@[simp] theorem fo_161_6 : fo Tryd.prog 161 6 = some 6 := by kernel_rfl
@[simp] theorem ft_161_6 : ft Tryd.prog 161 6 = some (156, 6) := by kernel_rfl
@[simp] theorem fo_161_7 : fo Tryd.prog 161 7 = some 7 := by kernel_rfl
@[simp] theorem ft_161_7 : ft Tryd.prog 161 7 = some (157, 7) := by kernel_rfl
@[simp] theorem fo_161_8 : fo Tryd.prog 161 8 = some 8 := by kernel_rfl
@[simp] theorem ft_161_8 : ft Tryd.prog 161 8 = some (124, 8) := by kernel_rfl
@[simp] theorem fo_161_9 : fo Tryd.prog 161 9 = some 9 := by kernel_rfl
@[simp] theorem ft_161_9 : ft Tryd.prog 161 9 = some (158, 9) := by kernel_rfl
@[simp] theorem fo_161_10 : fo Tryd.prog 161 10 = some 10 := by kernel_rfl
@[simp] theorem ft_161_10 : ft Tryd.prog 161 10 = some (159, 10) := by kernel_rfl
@[simp] theorem tk_36 : tk Tryd.prog 36 = some (true, 5) := by kernel_rfl
@[simp] theorem places_36 : places Tryd.prog 36 = none := by kernel_rfl
@[simp] theorem zvA_36 : zvA Tryd.prog 36 = some [AV.d (D.v (Value.int IntKind.i64 (0))), AV.d (D.v (Value.int IntKind.i64 (0))), AV.d (D.v (Value.int IntKind.i64 (0))), AV.d (D.v (Value.int IntKind.i64 (0))), AV.d (D.v (Value.int IntKind.i64 (0)))] := by kernel_rfl
@[simp] theorem ar_36 : ar Tryd.prog 36 = some (5, 3, 1) := by kernel_rfl
@[simp] theorem tk_129 : tk Tryd.prog 129 = some (true, 13) := by kernel_rfl
@[simp] theorem places_129 : places Tryd.prog 129 = none := by kernel_rfl
@[simp] theorem zvA_129 : zvA Tryd.prog 129 = some [AV.d (D.v (Value.string { data := #[] })), AV.d (D.v (Value.string { data := #[] })), AV.d (D.v (Value.string { data := #[] })), AV.d (D.v (Value.string { data := #[] })), AV.d (D.v (Value.string { data := #[] })), AV.d (D.v (Value.string { data := #[] })), AV.d (D.v (Value.string { data := #[] })), AV.d (D.v (Value.string { data := #[] })), AV.d (D.v (Value.string { data := #[] })), AV.d (D.v (Value.string { data := #[] })), AV.d (D.v (Value.string { data := #[] })), AV.d (D.v (Value.string { data := #[] })), AV.d (D.v (Value.string { data := #[] }))] := by kernel_rfl
@[simp] theorem ar_129 : ar Tryd.prog 129 = some (13, 9, 1) := by kernel_rfl
@[simp] theorem tk_130 : tk Tryd.prog 130 = some (true, 24) := by kernel_rfl
@[simp] theorem places_130 : places Tryd.prog 130 = none := by kernel_rfl
@[simp] theorem zvA_130 : zvA Tryd.prog 130 = some [AV.d (D.v (Value.int IntKind.u8 (0))), AV.d (D.v (Value.int IntKind.u8 (0))), AV.d (D.v (Value.int IntKind.u8 (0))), AV.d (D.v (Value.int IntKind.u8 (0))), AV.d (D.v (Value.int IntKind.u8 (0))), AV.d (D.v (Value.int IntKind.u8 (0))), AV.d (D.v (Value.int IntKind.u8 (0))), AV.d (D.v (Value.int IntKind.u8 (0))), AV.d (D.v (Value.int IntKind.u8 (0))), AV.d (D.v (Value.int IntKind.u8 (0))), AV.d (D.v (Value.int IntKind.u8 (0))), AV.d (D.v (Value.int IntKind.u8 (0))), AV.d (D.v (Value.int IntKind.u8 (0))), AV.d (D.v (Value.int IntKind.u8 (0))), AV.d (D.v (Value.int IntKind.u8 (0))), AV.d (D.v (Value.int IntKind.u8 (0))), AV.d (D.v (Value.int IntKind.u8 (0))), AV.d (D.v (Value.int IntKind.u8 (0))), AV.d (D.v (Value.int IntKind.u8 (0))), AV.d (D.v (Value.int IntKind.u8 (0))), AV.d (D.v (Value.int IntKind.u8 (0))), AV.d (D.v (Value.int IntKind.u8 (0))), AV.d (D.v (Value.int IntKind.u8 (0))), AV.d (D.v (Value.int IntKind.u8 (0)))] := by kernel_rfl
@[simp] theorem ar_130 : ar Tryd.prog 130 = some (24, 5, 1) := by kernel_rfl
@[simp] theorem tk_138 : tk Tryd.prog 138 = some (true, 20) := by kernel_rfl
@[simp] theorem places_138 : places Tryd.prog 138 = none := by kernel_rfl
@[simp] theorem zvA_138 : zvA Tryd.prog 138 = some [AV.d (D.v (Value.int IntKind.u64 (0))), AV.d (D.v (Value.int IntKind.u64 (0))), AV.d (D.v (Value.int IntKind.u64 (0))), AV.d (D.v (Value.int IntKind.u64 (0))), AV.d (D.v (Value.int IntKind.u64 (0))), AV.d (D.v (Value.int IntKind.u64 (0))), AV.d (D.v (Value.int IntKind.u64 (0))), AV.d (D.v (Value.int IntKind.u64 (0))), AV.d (D.v (Value.int IntKind.u64 (0))), AV.d (D.v (Value.int IntKind.u64 (0))), AV.d (D.v (Value.int IntKind.u64 (0))), AV.d (D.v (Value.int IntKind.u64 (0))), AV.d (D.v (Value.int IntKind.u64 (0))), AV.d (D.v (Value.int IntKind.u64 (0))), AV.d (D.v (Value.int IntKind.u64 (0))), AV.d (D.v (Value.int IntKind.u64 (0))), AV.d (D.v (Value.int IntKind.u64 (0))), AV.d (D.v (Value.int IntKind.u64 (0))), AV.d (D.v (Value.int IntKind.u64 (0))), AV.d (D.v (Value.int IntKind.u64 (0)))] := by kernel_rfl
@[simp] theorem ar_138 : ar Tryd.prog 138 = some (20, 114, 1) := by kernel_rfl
@[simp] theorem tk_139 : tk Tryd.prog 139 = some (true, 65) := by kernel_rfl
@[simp] theorem places_139 : places Tryd.prog 139 = none := by kernel_rfl
@[simp] theorem zvA_139 : zvA Tryd.prog 139 = some [AV.d (D.v (Value.int IntKind.u8 (0))), AV.d (D.v (Value.int IntKind.u8 (0))), AV.d (D.v (Value.int IntKind.u8 (0))), AV.d (D.v (Value.int IntKind.u8 (0))), AV.d (D.v (Value.int IntKind.u8 (0))), AV.d (D.v (Value.int IntKind.u8 (0))), AV.d (D.v (Value.int IntKind.u8 (0))), AV.d (D.v (Value.int IntKind.u8 (0))), AV.d (D.v (Value.int IntKind.u8 (0))), AV.d (D.v (Value.int IntKind.u8 (0))), AV.d (D.v (Value.int IntKind.u8 (0))), AV.d (D.v (Value.int IntKind.u8 (0))), AV.d (D.v (Value.int IntKind.u8 (0))), AV.d (D.v (Value.int IntKind.u8 (0))), AV.d (D.v (Value.int IntKind.u8 (0))), AV.d (D.v (Value.int IntKind.u8 (0))), AV.d (D.v (Value.int IntKind.u8 (0))), AV.d (D.v (Value.int IntKind.u8 (0))), AV.d (D.v (Value.int IntKind.u8 (0))), AV.d (D.v (Value.int IntKind.u8 (0))), AV.d (D.v (Value.int IntKind.u8 (0))), AV.d (D.v (Value.int IntKind.u8 (0))), AV.d (D.v (Value.int IntKind.u8 (0))), AV.d (D.v (Value.int IntKind.u8 (0))), AV.d (D.v (Value.int IntKind.u8 (0))), AV.d (D.v (Value.int IntKind.u8 (0))), AV.d (D.v (Value.int IntKind.u8 (0))), AV.d (D.v (Value.int IntKind.u8 (0))), AV.d (D.v (Value.int IntKind.u8 (0))), AV.d (D.v (Value.int IntKind.u8 (0))), AV.d (D.v (Value.int IntKind.u8 (0))), AV.d (D.v (Value.int IntKind.u8 (0))), AV.d (D.v (Value.int IntKind.u8 (0))), AV.d (D.v (Value.int IntKind.u8 (0))), AV.d (D.v (Value.int IntKind.u8 (0))), AV.d (D.v (Value.int IntKind.u8 (0))), AV.d (D.v (Value.int IntKind.u8 (0))), AV.d (D.v (Value.int IntKind.u8 (0))), AV.d (D.v (Value.int IntKind.u8 (0))), AV.d (D.v (Value.int IntKind.u8 (0))), AV.d (D.v (Value.int IntKind.u8 (0))), AV.d (D.v (Value.int IntKind.u8 (0))), AV.d (D.v (Value.int IntKind.u8 (0))), AV.d (D.v (Value.int IntKind.u8 (0))), AV.d (D.v (Value.int IntKind.u8 (0))), AV.d (D.v (Value.int IntKind.u8 (0))), AV.d (D.v (Value.int IntKind.u8 (0))), AV.d (D.v (Value.int IntKind.u8 (0))), AV.d (D.v (Value.int IntKind.u8 (0))), AV.d (D.v (Value.int IntKind.u8 (0))), AV.d (D.v (Value.int IntKind.u8 (0))), AV.d (D.v (Value.int IntKind.u8 (0))), AV.d (D.v (Value.int IntKind.u8 (0))), AV.d (D.v (Value.int IntKind.u8 (0))), AV.d (D.v (Value.int IntKind.u8 (0))), AV.d (D.v (Value.int IntKind.u8 (0))), AV.d (D.v (Value.int IntKind.u8 (0))), AV.d (D.v (Value.int IntKind.u8 (0))), AV.d (D.v (Value.int IntKind.u8 (0))), AV.d (D.v (Value.int IntKind.u8 (0))), AV.d (D.v (Value.int IntKind.u8 (0))), AV.d (D.v (Value.int IntKind.u8 (0))), AV.d (D.v (Value.int IntKind.u8 (0))), AV.d (D.v (Value.int IntKind.u8 (0))), AV.d (D.v (Value.int IntKind.u8 (0)))] := by kernel_rfl
@[simp] theorem ar_139 : ar Tryd.prog 139 = some (65, 5, 1) := by kernel_rfl
@[simp] theorem tk_148 : tk Tryd.prog 148 = some (true, 32) := by kernel_rfl
@[simp] theorem places_148 : places Tryd.prog 148 = none := by kernel_rfl
@[simp] theorem zvA_148 : zvA Tryd.prog 148 = some [AV.d (D.v (Value.int IntKind.u8 (0))), AV.d (D.v (Value.int IntKind.u8 (0))), AV.d (D.v (Value.int IntKind.u8 (0))), AV.d (D.v (Value.int IntKind.u8 (0))), AV.d (D.v (Value.int IntKind.u8 (0))), AV.d (D.v (Value.int IntKind.u8 (0))), AV.d (D.v (Value.int IntKind.u8 (0))), AV.d (D.v (Value.int IntKind.u8 (0))), AV.d (D.v (Value.int IntKind.u8 (0))), AV.d (D.v (Value.int IntKind.u8 (0))), AV.d (D.v (Value.int IntKind.u8 (0))), AV.d (D.v (Value.int IntKind.u8 (0))), AV.d (D.v (Value.int IntKind.u8 (0))), AV.d (D.v (Value.int IntKind.u8 (0))), AV.d (D.v (Value.int IntKind.u8 (0))), AV.d (D.v (Value.int IntKind.u8 (0))), AV.d (D.v (Value.int IntKind.u8 (0))), AV.d (D.v (Value.int IntKind.u8 (0))), AV.d (D.v (Value.int IntKind.u8 (0))), AV.d (D.v (Value.int IntKind.u8 (0))), AV.d (D.v (Value.int IntKind.u8 (0))), AV.d (D.v (Value.int IntKind.u8 (0))), AV.d (D.v (Value.int IntKind.u8 (0))), AV.d (D.v (Value.int IntKind.u8 (0))), AV.d (D.v (Value.int IntKind.u8 (0))), AV.d (D.v (Value.int IntKind.u8 (0))), AV.d (D.v (Value.int IntKind.u8 (0))), AV.d (D.v (Value.int IntKind.u8 (0))), AV.d (D.v (Value.int IntKind.u8 (0))), AV.d (D.v (Value.int IntKind.u8 (0))), AV.d (D.v (Value.int IntKind.u8 (0))), AV.d (D.v (Value.int IntKind.u8 (0)))] := by kernel_rfl
@[simp] theorem ar_148 : ar Tryd.prog 148 = some (32, 5, 1) := by kernel_rfl
@[simp] theorem tk_149 : tk Tryd.prog 149 = some (true, 64) := by kernel_rfl
@[simp] theorem places_149 : places Tryd.prog 149 = none := by kernel_rfl
@[simp] theorem zvA_149 : zvA Tryd.prog 149 = some [AV.d (D.v (Value.int IntKind.u8 (0))), AV.d (D.v (Value.int IntKind.u8 (0))), AV.d (D.v (Value.int IntKind.u8 (0))), AV.d (D.v (Value.int IntKind.u8 (0))), AV.d (D.v (Value.int IntKind.u8 (0))), AV.d (D.v (Value.int IntKind.u8 (0))), AV.d (D.v (Value.int IntKind.u8 (0))), AV.d (D.v (Value.int IntKind.u8 (0))), AV.d (D.v (Value.int IntKind.u8 (0))), AV.d (D.v (Value.int IntKind.u8 (0))), AV.d (D.v (Value.int IntKind.u8 (0))), AV.d (D.v (Value.int IntKind.u8 (0))), AV.d (D.v (Value.int IntKind.u8 (0))), AV.d (D.v (Value.int IntKind.u8 (0))), AV.d (D.v (Value.int IntKind.u8 (0))), AV.d (D.v (Value.int IntKind.u8 (0))), AV.d (D.v (Value.int IntKind.u8 (0))), AV.d (D.v (Value.int IntKind.u8 (0))), AV.d (D.v (Value.int IntKind.u8 (0))), AV.d (D.v (Value.int IntKind.u8 (0))), AV.d (D.v (Value.int IntKind.u8 (0))), AV.d (D.v (Value.int IntKind.u8 (0))), AV.d (D.v (Value.int IntKind.u8 (0))), AV.d (D.v (Value.int IntKind.u8 (0))), AV.d (D.v (Value.int IntKind.u8 (0))), AV.d (D.v (Value.int IntKind.u8 (0))), AV.d (D.v (Value.int IntKind.u8 (0))), AV.d (D.v (Value.int IntKind.u8 (0))), AV.d (D.v (Value.int IntKind.u8 (0))), AV.d (D.v (Value.int IntKind.u8 (0))), AV.d (D.v (Value.int IntKind.u8 (0))), AV.d (D.v (Value.int IntKind.u8 (0))), AV.d (D.v (Value.int IntKind.u8 (0))), AV.d (D.v (Value.int IntKind.u8 (0))), AV.d (D.v (Value.int IntKind.u8 (0))), AV.d (D.v (Value.int IntKind.u8 (0))), AV.d (D.v (Value.int IntKind.u8 (0))), AV.d (D.v (Value.int IntKind.u8 (0))), AV.d (D.v (Value.int IntKind.u8 (0))), AV.d (D.v (Value.int IntKind.u8 (0))), AV.d (D.v (Value.int IntKind.u8 (0))), AV.d (D.v (Value.int IntKind.u8 (0))), AV.d (D.v (Value.int IntKind.u8 (0))), AV.d (D.v (Value.int IntKind.u8 (0))), AV.d (D.v (Value.int IntKind.u8 (0))), AV.d (D.v (Value.int IntKind.u8 (0))), AV.d (D.v (Value.int IntKind.u8 (0))), AV.d (D.v (Value.int IntKind.u8 (0))), AV.d (D.v (Value.int IntKind.u8 (0))), AV.d (D.v (Value.int IntKind.u8 (0))), AV.d (D.v (Value.int IntKind.u8 (0))), AV.d (D.v (Value.int IntKind.u8 (0))), AV.d (D.v (Value.int IntKind.u8 (0))), AV.d (D.v (Value.int IntKind.u8 (0))), AV.d (D.v (Value.int IntKind.u8 (0))), AV.d (D.v (Value.int IntKind.u8 (0))), AV.d (D.v (Value.int IntKind.u8 (0))), AV.d (D.v (Value.int IntKind.u8 (0))), AV.d (D.v (Value.int IntKind.u8 (0))), AV.d (D.v (Value.int IntKind.u8 (0))), AV.d (D.v (Value.int IntKind.u8 (0))), AV.d (D.v (Value.int IntKind.u8 (0))), AV.d (D.v (Value.int IntKind.u8 (0))), AV.d (D.v (Value.int IntKind.u8 (0)))] := by kernel_rfl
@[simp] theorem ar_149 : ar Tryd.prog 149 = some (64, 5, 1) := by kernel_rfl
@[simp] theorem tk_152 : tk Tryd.prog 152 = some (true, 0) := by kernel_rfl
@[simp] theorem places_152 : places Tryd.prog 152 = none := by kernel_rfl
@[simp] theorem zvA_152 : zvA Tryd.prog 152 = some [] := by kernel_rfl
@[simp] theorem ar_152 : ar Tryd.prog 152 = some (0, 16, 1) := by kernel_rfl
@[simp] theorem tk_23 : tk Tryd.prog 23 = some (false, 1) := by kernel_rfl
@[simp] theorem sl_23 : sl Tryd.prog 23 = some (48, 2) := by kernel_rfl
@[simp] theorem zvA_23 : zvA Tryd.prog 23 = some [AV.d (D.v (Value.slice none 0 0))] := by kernel_rfl
@[simp] theorem byt_23 : byt Tryd.prog 23 = some (48, 2, 32) := by kernel_rfl
@[simp] theorem tk_26 : tk Tryd.prog 26 = some (false, 1) := by kernel_rfl
@[simp] theorem sl_26 : sl Tryd.prog 26 = some (43, 1) := by kernel_rfl
@[simp] theorem zvA_26 : zvA Tryd.prog 26 = some [AV.d (D.v (Value.slice none 0 0))] := by kernel_rfl
@[simp] theorem byt_26 : byt Tryd.prog 26 = some (43, 1, 24) := by kernel_rfl
@[simp] theorem tk_27 : tk Tryd.prog 27 = some (false, 1) := by kernel_rfl
@[simp] theorem sl_27 : sl Tryd.prog 27 = some (3, 1) := by kernel_rfl
@[simp] theorem zvA_27 : zvA Tryd.prog 27 = some [AV.d (D.v (Value.slice none 0 0))] := by kernel_rfl
@[simp] theorem byt_27 : byt Tryd.prog 27 = some (3, 1, 8) := by kernel_rfl
@[simp] theorem tk_32 : tk Tryd.prog 32 = some (false, 1) := by kernel_rfl
@[simp] theorem sl_32 : sl Tryd.prog 32 = some (42, 10) := by kernel_rfl
@[simp] theorem zvA_32 : zvA Tryd.prog 32 = some [AV.d (D.v (Value.slice none 0 0))] := by kernel_rfl
@[simp] theorem byt_32 : byt Tryd.prog 32 = some (42, 10, 112) := by kernel_rfl
@[simp] theorem tk_37 : tk Tryd.prog 37 = some (false, 1) := by kernel_rfl
@[simp] theorem sl_37 : sl Tryd.prog 37 = some (40, 5) := by kernel_rfl
@[simp] theorem zvA_37 : zvA Tryd.prog 37 = some [AV.d (D.v (Value.slice none 0 0))] := by kernel_rfl
@[simp] theorem byt_37 : byt Tryd.prog 37 = some (40, 5, 72) := by kernel_rfl
@[simp] theorem tk_38 : tk Tryd.prog 38 = some (false, 1) := by kernel_rfl
@[simp] theorem sl_38 : sl Tryd.prog 38 = some (123, 6) := by kernel_rfl
@[simp] theorem zvA_38 : zvA Tryd.prog 38 = some [AV.d (D.v (Value.slice none 0 0))] := by kernel_rfl
@[simp] theorem byt_38 : byt Tryd.prog 38 = some (123, 6, 80) := by kernel_rfl
@[simp] theorem tk_43 : tk Tryd.prog 43 = some (false, 1) := by kernel_rfl
@[simp] theorem sl_43 : sl Tryd.prog 43 = some (45, 2) := by kernel_rfl
@[simp] theorem zvA_43 : zvA Tryd.prog 43 = some [AV.d (D.v (Value.slice none 0 0))] := by kernel_rfl
@[simp] theorem byt_43 : byt Tryd.prog 43 = some (45, 2, 32) := by kernel_rfl
@[simp] theorem tk_46 : tk Tryd.prog 46 = some (false, 1) := by kernel_rfl
@[simp] theorem sl_46 : sl Tryd.prog 46 = some (51, 8) := by kernel_rfl
@[simp] theorem zvA_46 : zvA Tryd.prog 46 = some [AV.d (D.v (Value.slice none 0 0))] := by kernel_rfl
@[simp] theorem byt_46 : byt Tryd.prog 46 = some (51, 8, 96) := by kernel_rfl
@[simp] theorem tk_49 : tk Tryd.prog 49 = some (false, 1) := by kernel_rfl
@[simp] theorem sl_49 : sl Tryd.prog 49 = some (53, 5) := by kernel_rfl
@[simp] theorem zvA_49 : zvA Tryd.prog 49 = some [AV.d (D.v (Value.slice none 0 0))] := by kernel_rfl
@[simp] theorem byt_49 : byt Tryd.prog 49 = some (53, 5, 56) := by kernel_rfl
@[simp] theorem tk_95 : tk Tryd.prog 95 = some (false, 1) := by kernel_rfl
@[simp] theorem sl_95 : sl Tryd.prog 95 = some (5, 1) := by kernel_rfl
@[simp] theorem zvA_95 : zvA Tryd.prog 95 = some [AV.d (D.v (Value.slice none 0 0))] := by kernel_rfl
@[simp] theorem byt_95 : byt Tryd.prog 95 = some (5, 1, 1) := by kernel_rfl
@[simp] theorem tk_111 : tk Tryd.prog 111 = some (false, 1) := by kernel_rfl
@[simp] theorem sl_111 : sl Tryd.prog 111 = some (9, 1) := by kernel_rfl
@[simp] theorem zvA_111 : zvA Tryd.prog 111 = some [AV.d (D.v (Value.slice none 0 0))] := by kernel_rfl
@[simp] theorem byt_111 : byt Tryd.prog 111 = some (9, 1, 16) := by kernel_rfl
@[simp] theorem tk_2 : tk Tryd.prog 2 = some (false, 1) := by kernel_rfl
@[simp] theorem isInt_2 : isInt Tryd.prog 2 = some IntKind.i64 := by kernel_rfl
@[simp] theorem isStr_2 : isStr Tryd.prog 2 = false := by kernel_rfl
@[simp] theorem zvA_2 : zvA Tryd.prog 2 = some [AV.d (D.v (Value.int IntKind.i64 (0)))] := by kernel_rfl
@[simp] theorem tk_3 : tk Tryd.prog 3 = some (false, 1) := by kernel_rfl
@[simp] theorem isInt_3 : isInt Tryd.prog 3 = some IntKind.i64 := by kernel_rfl
@[simp] theorem isStr_3 : isStr Tryd.prog 3 = false := by kernel_rfl
@[simp] theorem zvA_3 : zvA Tryd.prog 3 = some [AV.d (D.v (Value.int IntKind.i64 (0)))] := by kernel_rfl
@[simp] theorem tk_4 : tk Tryd.prog 4 = some (false, 1) := by kernel_rfl
@[simp] theorem isInt_4 : isInt Tryd.prog 4 = none := by kernel_rfl
@[simp] theorem isStr_4 : isStr Tryd.prog 4 = false := by kernel_rfl
@[simp] theorem zvA_4 : zvA Tryd.prog 4 = some [AV.d (D.v (Value.bool false))] := by kernel_rfl
@[simp] theorem tk_5 : tk Tryd.prog 5 = some (false, 1) := by kernel_rfl
@[simp] theorem isInt_5 : isInt Tryd.prog 5 = some IntKind.u8 := by kernel_rfl
@[simp] theorem isStr_5 : isStr Tryd.prog 5 = false := by kernel_rfl
@[simp] theorem zvA_5 : zvA Tryd.prog 5 = some [AV.d (D.v (Value.int IntKind.u8 (0)))] := by kernel_rfl
@[simp] theorem tk_6 : tk Tryd.prog 6 = some (false, 1) := by kernel_rfl
@[simp] theorem isInt_6 : isInt Tryd.prog 6 = some IntKind.u8 := by kernel_rfl
@[simp] theorem isStr_6 : isStr Tryd.prog 6 = false := by kernel_rfl
@[simp] theorem zvA_6 : zvA Tryd.prog 6 = some [AV.d (D.v (Value.int IntKind.u8 (0)))] := by kernel_rfl
@[simp] theorem tk_9 : tk Tryd.prog 9 = some (false, 1) := by kernel_rfl
@[simp] theorem isInt_9 : isInt Tryd.prog 9 = none := by kernel_rfl
@[simp] theorem isStr_9 : isStr Tryd.prog 9 = true := by kernel_rfl
@[simp] theorem zvA_9 : zvA Tryd.prog 9 = some [AV.d (D.v (Value.string { data := #[] }))] := by kernel_rfl
@[simp] theorem tk_10 : tk Tryd.prog 10 = some (false, 1) := by kernel_rfl
@[simp] theorem isInt_10 : isInt Tryd.prog 10 = none := by kernel_rfl
@[simp] theorem isStr_10 : isStr Tryd.prog 10 = true := by kernel_rfl
@[simp] theorem zvA_10 : zvA Tryd.prog 10 = some [AV.d (D.v (Value.string { data := #[] }))] := by kernel_rfl
@[simp] theorem tk_11 : tk Tryd.prog 11 = some (false, 1) := by kernel_rfl
@[simp] theorem isInt_11 : isInt Tryd.prog 11 = none := by kernel_rfl
@[simp] theorem isStr_11 : isStr Tryd.prog 11 = true := by kernel_rfl
@[simp] theorem zvA_11 : zvA Tryd.prog 11 = some [AV.d (D.v (Value.string { data := #[] }))] := by kernel_rfl
@[simp] theorem tk_12 : tk Tryd.prog 12 = some (false, 1) := by kernel_rfl
@[simp] theorem isInt_12 : isInt Tryd.prog 12 = some IntKind.u64 := by kernel_rfl
@[simp] theorem isStr_12 : isStr Tryd.prog 12 = false := by kernel_rfl
@[simp] theorem zvA_12 : zvA Tryd.prog 12 = some [AV.d (D.v (Value.int IntKind.u64 (0)))] := by kernel_rfl
@[simp] theorem tk_21 : tk Tryd.prog 21 = some (false, 1) := by kernel_rfl
@[simp] theorem isInt_21 : isInt Tryd.prog 21 = some IntKind.i32 := by kernel_rfl
@[simp] theorem isStr_21 : isStr Tryd.prog 21 = false := by kernel_rfl
@[simp] theorem zvA_21 : zvA Tryd.prog 21 = some [AV.d (D.v (Value.int IntKind.i32 (0)))] := by kernel_rfl
@[simp] theorem tk_22 : tk Tryd.prog 22 = some (false, 1) := by kernel_rfl
@[simp] theorem isInt_22 : isInt Tryd.prog 22 = some IntKind.u32 := by kernel_rfl
@[simp] theorem isStr_22 : isStr Tryd.prog 22 = false := by kernel_rfl
@[simp] theorem zvA_22 : zvA Tryd.prog 22 = some [AV.d (D.v (Value.int IntKind.u32 (0)))] := by kernel_rfl
@[simp] theorem tk_33 : tk Tryd.prog 33 = some (false, 1) := by kernel_rfl
@[simp] theorem isInt_33 : isInt Tryd.prog 33 = some IntKind.i64 := by kernel_rfl
@[simp] theorem isStr_33 : isStr Tryd.prog 33 = false := by kernel_rfl
@[simp] theorem zvA_33 : zvA Tryd.prog 33 = some [AV.d (D.v (Value.int IntKind.i64 (0)))] := by kernel_rfl
@[simp] theorem tk_114 : tk Tryd.prog 114 = some (false, 1) := by kernel_rfl
@[simp] theorem isInt_114 : isInt Tryd.prog 114 = some IntKind.u64 := by kernel_rfl
@[simp] theorem isStr_114 : isStr Tryd.prog 114 = false := by kernel_rfl
@[simp] theorem zvA_114 : zvA Tryd.prog 114 = some [AV.d (D.v (Value.int IntKind.u64 (0)))] := by kernel_rfl
@[simp] theorem tk_140 : tk Tryd.prog 140 = some (false, 1) := by kernel_rfl
@[simp] theorem isInt_140 : isInt Tryd.prog 140 = some IntKind.u64 := by kernel_rfl
@[simp] theorem isStr_140 : isStr Tryd.prog 140 = false := by kernel_rfl
@[simp] theorem zvA_140 : zvA Tryd.prog 140 = some [AV.d (D.v (Value.int IntKind.u64 (0)))] := by kernel_rfl
@[simp] theorem tk_143 : tk Tryd.prog 143 = some (false, 1) := by kernel_rfl
@[simp] theorem isInt_143 : isInt Tryd.prog 143 = none := by kernel_rfl
@[simp] theorem isStr_143 : isStr Tryd.prog 143 = false := by kernel_rfl
@[simp] theorem zvA_143 : zvA Tryd.prog 143 = some [AV.d (D.v (Value.pointer none))] := by kernel_rfl
@[simp] theorem tk_155 : tk Tryd.prog 155 = some (false, 1) := by kernel_rfl
@[simp] theorem isInt_155 : isInt Tryd.prog 155 = some IntKind.u8 := by kernel_rfl
@[simp] theorem isStr_155 : isStr Tryd.prog 155 = false := by kernel_rfl
@[simp] theorem zvA_155 : zvA Tryd.prog 155 = some [AV.d (D.v (Value.int IntKind.u8 (0)))] := by kernel_rfl
@[simp] theorem tk_156 : tk Tryd.prog 156 = some (false, 1) := by kernel_rfl
@[simp] theorem isInt_156 : isInt Tryd.prog 156 = some IntKind.u8 := by kernel_rfl
@[simp] theorem isStr_156 : isStr Tryd.prog 156 = false := by kernel_rfl
@[simp] theorem zvA_156 : zvA Tryd.prog 156 = some [AV.d (D.v (Value.int IntKind.u8 (0)))] := by kernel_rfl
@[simp] theorem tk_158 : tk Tryd.prog 158 = some (false, 1) := by kernel_rfl
@[simp] theorem isInt_158 : isInt Tryd.prog 158 = some IntKind.i32 := by kernel_rfl
@[simp] theorem isStr_158 : isStr Tryd.prog 158 = false := by kernel_rfl
@[simp] theorem zvA_158 : zvA Tryd.prog 158 = some [AV.d (D.v (Value.int IntKind.i32 (0)))] := by kernel_rfl
@[simp] theorem tk_159 : tk Tryd.prog 159 = some (false, 1) := by kernel_rfl
@[simp] theorem isInt_159 : isInt Tryd.prog 159 = some IntKind.i32 := by kernel_rfl
@[simp] theorem isStr_159 : isStr Tryd.prog 159 = false := by kernel_rfl
@[simp] theorem zvA_159 : zvA Tryd.prog 159 = some [AV.d (D.v (Value.int IntKind.i32 (0)))] := by kernel_rfl
@[simp] theorem tk_1 : tk Tryd.prog 1 = some (false, 1) := by kernel_rfl
@[simp] theorem zvA_1 : zvA Tryd.prog 1 = some [AV.d (D.v Value.nilFunc)] := by kernel_rfl
@[simp] theorem tk_15 : tk Tryd.prog 15 = some (false, 1) := by kernel_rfl
@[simp] theorem zvA_15 : zvA Tryd.prog 15 = some [AV.d (D.v (Value.pointer none))] := by kernel_rfl
@[simp] theorem tk_16 : tk Tryd.prog 16 = some (false, 1) := by kernel_rfl
@[simp] theorem zvA_16 : zvA Tryd.prog 16 = some [AV.d (D.v (Value.pointer none))] := by kernel_rfl
@[simp] theorem tk_17 : tk Tryd.prog 17 = some (false, 1) := by kernel_rfl
@[simp] theorem zvA_17 : zvA Tryd.prog 17 = some [AV.d (D.v (Value.pointer none))] := by kernel_rfl
@[simp] theorem tk_20 : tk Tryd.prog 20 = some (false, 1) := by kernel_rfl
@[simp] theorem zvA_20 : zvA Tryd.prog 20 = some [AV.d (D.v Value.nilIface)] := by kernel_rfl
@[simp] theorem tk_30 : tk Tryd.prog 30 = some (false, 1) := by kernel_rfl
@[simp] theorem zvA_30 : zvA Tryd.prog 30 = some [AV.d (D.v Value.nilFunc)] := by kernel_rfl
@[simp] theorem tk_31 : tk Tryd.prog 31 = some (false, 1) := by kernel_rfl
@[simp] theorem zvA_31 : zvA Tryd.prog 31 = some [AV.d (D.v Value.nilFunc)] := by kernel_rfl
@[simp] theorem tk_35 : tk Tryd.prog 35 = some (false, 1) := by kernel_rfl
@[simp] theorem zvA_35 : zvA Tryd.prog 35 = some [AV.d (D.v Value.nilFunc)] := by kernel_rfl
@[simp] theorem tk_54 : tk Tryd.prog 54 = some (false, 1) := by kernel_rfl
@[simp] theorem zvA_54 : zvA Tryd.prog 54 = some [AV.d (D.v Value.nilFunc)] := by kernel_rfl
@[simp] theorem tk_55 : tk Tryd.prog 55 = some (false, 1) := by kernel_rfl
@[simp] theorem zvA_55 : zvA Tryd.prog 55 = some [AV.d (D.v Value.nilFunc)] := by kernel_rfl
@[simp] theorem tk_57 : tk Tryd.prog 57 = some (false, 1) := by kernel_rfl
@[simp] theorem zvA_57 : zvA Tryd.prog 57 = some [AV.d (D.v Value.nilFunc)] := by kernel_rfl
@[simp] theorem tk_58 : tk Tryd.prog 58 = some (false, 1) := by kernel_rfl
@[simp] theorem zvA_58 : zvA Tryd.prog 58 = some [AV.d (D.v Value.nilFunc)] := by kernel_rfl
@[simp] theorem tk_59 : tk Tryd.prog 59 = some (false, 1) := by kernel_rfl
@[simp] theorem zvA_59 : zvA Tryd.prog 59 = some [AV.d (D.v Value.nilFunc)] := by kernel_rfl
@[simp] theorem tk_60 : tk Tryd.prog 60 = some (false, 1) := by kernel_rfl
@[simp] theorem zvA_60 : zvA Tryd.prog 60 = some [AV.d (D.v Value.nilFunc)] := by kernel_rfl
@[simp] theorem tk_61 : tk Tryd.prog 61 = some (false, 1) := by kernel_rfl
@[simp] theorem zvA_61 : zvA Tryd.prog 61 = some [AV.d (D.v Value.nilFunc)] := by kernel_rfl
@[simp] theorem tk_62 : tk Tryd.prog 62 = some (false, 1) := by kernel_rfl
@[simp] theorem zvA_62 : zvA Tryd.prog 62 = some [AV.d (D.v Value.nilFunc)] := by kernel_rfl
@[simp] theorem tk_63 : tk Tryd.prog 63 = some (false, 1) := by kernel_rfl
@[simp] theorem zvA_63 : zvA Tryd.prog 63 = some [AV.d (D.v Value.nilFunc)] := by kernel_rfl
@[simp] theorem tk_64 : tk Tryd.prog 64 = some (false, 1) := by kernel_rfl
@[simp] theorem zvA_64 : zvA Tryd.prog 64 = some [AV.d (D.v (Value.pointer none))] := by kernel_rfl
@[simp] theorem tk_65 : tk Tryd.prog 65 = some (false, 1) := by kernel_rfl
@[simp] theorem zvA_65 : zvA Tryd.prog 65 = some [AV.d (D.v Value.nilFunc)] := by kernel_rfl
@[simp] theorem tk_68 : tk Tryd.prog 68 = some (false, 1) := by kernel_rfl
@[simp] theorem zvA_68 : zvA Tryd.prog 68 = some [AV.d (D.v Value.nilFunc)] := by kernel_rfl
@[simp] theorem tk_71 : tk Tryd.prog 71 = some (false, 1) := by kernel_rfl
@[simp] theorem zvA_71 : zvA Tryd.prog 71 = some [AV.d (D.v Value.nilFunc)] := by kernel_rfl
@[simp] theorem tk_72 : tk Tryd.prog 72 = some (false, 1) := by kernel_rfl
@[simp] theorem zvA_72 : zvA Tryd.prog 72 = some [AV.d (D.v Value.nilFunc)] := by kernel_rfl
@[simp] theorem tk_73 : tk Tryd.prog 73 = some (false, 1) := by kernel_rfl
@[simp] theorem zvA_73 : zvA Tryd.prog 73 = some [AV.d (D.v Value.nilFunc)] := by kernel_rfl
@[simp] theorem tk_74 : tk Tryd.prog 74 = some (false, 1) := by kernel_rfl
@[simp] theorem zvA_74 : zvA Tryd.prog 74 = some [AV.d (D.v Value.nilFunc)] := by kernel_rfl
@[simp] theorem tk_75 : tk Tryd.prog 75 = some (false, 1) := by kernel_rfl
@[simp] theorem zvA_75 : zvA Tryd.prog 75 = some [AV.d (D.v Value.nilFunc)] := by kernel_rfl
@[simp] theorem tk_76 : tk Tryd.prog 76 = some (false, 1) := by kernel_rfl
@[simp] theorem zvA_76 : zvA Tryd.prog 76 = some [AV.d (D.v Value.nilFunc)] := by kernel_rfl
@[simp] theorem tk_77 : tk Tryd.prog 77 = some (false, 1) := by kernel_rfl
@[simp] theorem zvA_77 : zvA Tryd.prog 77 = some [AV.d (D.v Value.nilFunc)] := by kernel_rfl
@[simp] theorem tk_78 : tk Tryd.prog 78 = some (false, 1) := by kernel_rfl
@[simp] theorem zvA_78 : zvA Tryd.prog 78 = some [AV.d (D.v Value.nilFunc)] := by kernel_rfl
@[simp] theorem tk_79 : tk Tryd.prog 79 = some (false, 1) := by kernel_rfl
@[simp] theorem zvA_79 : zvA Tryd.prog 79 = some [AV.d (D.v Value.nilFunc)] := by kernel_rfl
@[simp] theorem tk_80 : tk Tryd.prog 80 = some (false, 1) := by kernel_rfl
@[simp] theorem zvA_80 : zvA Tryd.prog 80 = some [AV.d (D.v Value.nilFunc)] := by kernel_rfl
@[simp] theorem tk_81 : tk Tryd.prog 81 = some (false, 1) := by kernel_rfl
@[simp] theorem zvA_81 : zvA Tryd.prog 81 = some [AV.d (D.v Value.nilFunc)] := by kernel_rfl
@[simp] theorem tk_82 : tk Tryd.prog 82 = some (false, 1) := by kernel_rfl
@[simp] theorem zvA_82 : zvA Tryd.prog 82 = some [AV.d (D.v Value.nilFunc)] := by kernel_rfl
@[simp] theorem tk_83 : tk Tryd.prog 83 = some (false, 1) := by kernel_rfl
@[simp] theorem zvA_83 : zvA Tryd.prog 83 = some [AV.d (D.v Value.nilFunc)] := by kernel_rfl
@[simp] theorem tk_84 : tk Tryd.prog 84 = some (false, 1) := by kernel_rfl
@[simp] theorem zvA_84 : zvA Tryd.prog 84 = some [AV.d (D.v Value.nilFunc)] := by kernel_rfl
@[simp] theorem tk_86 : tk Tryd.prog 86 = some (false, 1) := by kernel_rfl
@[simp] theorem zvA_86 : zvA Tryd.prog 86 = some [AV.d (D.v Value.nilFunc)] := by kernel_rfl
@[simp] theorem tk_87 : tk Tryd.prog 87 = some (false, 1) := by kernel_rfl
@[simp] theorem zvA_87 : zvA Tryd.prog 87 = some [AV.d (D.v Value.nilFunc)] := by kernel_rfl
@[simp] theorem tk_88 : tk Tryd.prog 88 = some (false, 1) := by kernel_rfl
@[simp] theorem zvA_88 : zvA Tryd.prog 88 = some [AV.d (D.v Value.nilFunc)] := by kernel_rfl
@[simp] theorem tk_89 : tk Tryd.prog 89 = some (false, 1) := by kernel_rfl
@[simp] theorem zvA_89 : zvA Tryd.prog 89 = some [AV.d (D.v Value.nilFunc)] := by kernel_rfl
@[simp] theorem tk_90 : tk Tryd.prog 90 = some (false, 1) := by kernel_rfl
@[simp] theorem zvA_90 : zvA Tryd.prog 90 = some [AV.d (D.v Value.nilFunc)] := by kernel_rfl
@[simp] theorem tk_91 : tk Tryd.prog 91 = some (false, 1) := by kernel_rfl
@[simp] theorem zvA_91 : zvA Tryd.prog 91 = some [AV.d (D.v Value.nilFunc)] := by kernel_rfl
@[simp] theorem tk_92 : tk Tryd.prog 92 = some (false, 1) := by kernel_rfl
@[simp] theorem zvA_92 : zvA Tryd.prog 92 = some [AV.d (D.v Value.nilFunc)] := by kernel_rfl
@[simp] theorem tk_93 : tk Tryd.prog 93 = some (false, 1) := by kernel_rfl
@[simp] theorem zvA_93 : zvA Tryd.prog 93 = some [AV.d (D.v (Value.pointer none))] := by kernel_rfl
@[simp] theorem tk_94 : tk Tryd.prog 94 = some (false, 1) := by kernel_rfl
@[simp] theorem zvA_94 : zvA Tryd.prog 94 = some [AV.d (D.v (Value.pointer none))] := by kernel_rfl
@[simp] theorem tk_100 : tk Tryd.prog 100 = some (false, 1) := by kernel_rfl
@[simp] theorem zvA_100 : zvA Tryd.prog 100 = some [AV.d (D.v Value.nilFunc)] := by kernel_rfl
@[simp] theorem tk_101 : tk Tryd.prog 101 = some (false, 1) := by kernel_rfl
@[simp] theorem zvA_101 : zvA Tryd.prog 101 = some [AV.d (D.v Value.nilFunc)] := by kernel_rfl
@[simp] theorem tk_102 : tk Tryd.prog 102 = some (false, 1) := by kernel_rfl
@[simp] theorem zvA_102 : zvA Tryd.prog 102 = some [AV.d (D.v Value.nilFunc)] := by kernel_rfl
@[simp] theorem tk_103 : tk Tryd.prog 103 = some (false, 1) := by kernel_rfl
@[simp] theorem zvA_103 : zvA Tryd.prog 103 = some [AV.d (D.v Value.nilFunc)] := by kernel_rfl
@[simp] theorem tk_104 : tk Tryd.prog 104 = some (false, 1) := by kernel_rfl
@[simp] theorem zvA_104 : zvA Tryd.prog 104 = some [AV.d (D.v Value.nilFunc)] := by kernel_rfl
@[simp] theorem tk_105 : tk Tryd.prog 105 = some (false, 1) := by kernel_rfl
@[simp] theorem zvA_105 : zvA Tryd.prog 105 = some [AV.d (D.v Value.nilFunc)] := by kernel_rfl
@[simp] theorem tk_106 : tk Tryd.prog 106 = some (false, 1) := by kernel_rfl
@[simp] theorem zvA_106 : zvA Tryd.prog 106 = some [AV.d (D.v Value.nilFunc)] := by kernel_rfl
@[simp] theorem tk_107 : tk Tryd.prog 107 = some (false, 1) := by kernel_rfl
@[simp] theorem zvA_107 : zvA Tryd.prog 107 = some [AV.d (D.v Value.nilFunc)] := by kernel_rfl
@[simp] theorem tk_108 : tk Tryd.prog 108 = some (false, 1) := by kernel_rfl
@[simp] theorem zvA_108 : zvA Tryd.prog 108 = some [AV.d (D.v Value.nilFunc)] := by kernel_rfl
@[simp] theorem tk_109 : tk Tryd.prog 109 = some (false, 1) := by kernel_rfl
@[simp] theorem zvA_109 : zvA Tryd.prog 109 = some [AV.d (D.v Value.nilFunc)] := by kernel_rfl
@[simp] theorem tk_110 : tk Tryd.prog 110 = some (false, 1) := by kernel_rfl
@[simp] theorem zvA_110 : zvA Tryd.prog 110 = some [AV.d (D.v Value.nilFunc)] := by kernel_rfl
@[simp] theorem tk_112 : tk Tryd.prog 112 = some (false, 1) := by kernel_rfl
@[simp] theorem zvA_112 : zvA Tryd.prog 112 = some [AV.d (D.v Value.nilFunc)] := by kernel_rfl
@[simp] theorem tk_113 : tk Tryd.prog 113 = some (false, 1) := by kernel_rfl
@[simp] theorem zvA_113 : zvA Tryd.prog 113 = some [AV.d (D.v Value.nilFunc)] := by kernel_rfl
@[simp] theorem tk_115 : tk Tryd.prog 115 = some (false, 1) := by kernel_rfl
@[simp] theorem zvA_115 : zvA Tryd.prog 115 = some [AV.d (D.v Value.nilFunc)] := by kernel_rfl
@[simp] theorem tk_116 : tk Tryd.prog 116 = some (false, 1) := by kernel_rfl
@[simp] theorem zvA_116 : zvA Tryd.prog 116 = some [AV.d (D.v Value.nilFunc)] := by kernel_rfl
@[simp] theorem tk_117 : tk Tryd.prog 117 = some (false, 1) := by kernel_rfl
@[simp] theorem zvA_117 : zvA Tryd.prog 117 = some [AV.d (D.v Value.nilFunc)] := by kernel_rfl
@[simp] theorem tk_118 : tk Tryd.prog 118 = some (false, 1) := by kernel_rfl
@[simp] theorem zvA_118 : zvA Tryd.prog 118 = some [AV.d (D.v Value.nilIface)] := by kernel_rfl
@[simp] theorem tk_119 : tk Tryd.prog 119 = some (false, 1) := by kernel_rfl
@[simp] theorem zvA_119 : zvA Tryd.prog 119 = some [AV.d (D.v Value.nilIface)] := by kernel_rfl
@[simp] theorem tk_121 : tk Tryd.prog 121 = some (false, 1) := by kernel_rfl
@[simp] theorem zvA_121 : zvA Tryd.prog 121 = some [AV.d (D.v Value.nilFunc)] := by kernel_rfl
@[simp] theorem tk_124 : tk Tryd.prog 124 = some (false, 1) := by kernel_rfl
@[simp] theorem zvA_124 : zvA Tryd.prog 124 = some [AV.d (D.v (Value.pointer none))] := by kernel_rfl
@[simp] theorem tk_125 : tk Tryd.prog 125 = some (false, 1) := by kernel_rfl
@[simp] theorem zvA_125 : zvA Tryd.prog 125 = some [AV.d (D.v Value.nilFunc)] := by kernel_rfl
@[simp] theorem tk_126 : tk Tryd.prog 126 = some (false, 1) := by kernel_rfl
@[simp] theorem zvA_126 : zvA Tryd.prog 126 = some [AV.d (D.v Value.nilFunc)] := by kernel_rfl
@[simp] theorem tk_127 : tk Tryd.prog 127 = some (false, 1) := by kernel_rfl
@[simp] theorem zvA_127 : zvA Tryd.prog 127 = some [AV.d (D.v Value.nilFunc)] := by kernel_rfl
@[simp] theorem tk_128 : tk Tryd.prog 128 = some (false, 1) := by kernel_rfl
@[simp] theorem zvA_128 : zvA Tryd.prog 128 = some [AV.d (D.v Value.nilFunc)] := by kernel_rfl
@[simp] theorem tk_131 : tk Tryd.prog 131 = some (false, 1) := by kernel_rfl
@[simp] theorem zvA_131 : zvA Tryd.prog 131 = some [AV.d (D.v Value.nilFunc)] := by kernel_rfl
@[simp] theorem tk_132 : tk Tryd.prog 132 = some (false, 1) := by kernel_rfl
@[simp] theorem zvA_132 : zvA Tryd.prog 132 = some [AV.d (D.v Value.nilFunc)] := by kernel_rfl
@[simp] theorem tk_134 : tk Tryd.prog 134 = some (false, 1) := by kernel_rfl
@[simp] theorem zvA_134 : zvA Tryd.prog 134 = some [AV.d (D.v Value.nilFunc)] := by kernel_rfl
@[simp] theorem tk_135 : tk Tryd.prog 135 = some (false, 1) := by kernel_rfl
@[simp] theorem zvA_135 : zvA Tryd.prog 135 = some [AV.d (D.v Value.nilFunc)] := by kernel_rfl
@[simp] theorem tk_136 : tk Tryd.prog 136 = some (false, 1) := by kernel_rfl
@[simp] theorem zvA_136 : zvA Tryd.prog 136 = some [AV.d (D.v Value.nilFunc)] := by kernel_rfl
@[simp] theorem tk_137 : tk Tryd.prog 137 = some (false, 1) := by kernel_rfl
@[simp] theorem zvA_137 : zvA Tryd.prog 137 = some [AV.d (D.v Value.nilFunc)] := by kernel_rfl
@[simp] theorem tk_141 : tk Tryd.prog 141 = some (false, 1) := by kernel_rfl
@[simp] theorem zvA_141 : zvA Tryd.prog 141 = some [AV.d (D.v Value.nilFunc)] := by kernel_rfl
@[simp] theorem tk_142 : tk Tryd.prog 142 = some (false, 1) := by kernel_rfl
@[simp] theorem zvA_142 : zvA Tryd.prog 142 = some [AV.d (D.v Value.nilFunc)] := by kernel_rfl
@[simp] theorem tk_144 : tk Tryd.prog 144 = some (false, 1) := by kernel_rfl
@[simp] theorem zvA_144 : zvA Tryd.prog 144 = some [AV.d (D.v Value.nilFunc)] := by kernel_rfl
@[simp] theorem tk_145 : tk Tryd.prog 145 = some (false, 1) := by kernel_rfl
@[simp] theorem zvA_145 : zvA Tryd.prog 145 = some [AV.d (D.v Value.nilFunc)] := by kernel_rfl
@[simp] theorem tk_146 : tk Tryd.prog 146 = some (false, 1) := by kernel_rfl
@[simp] theorem zvA_146 : zvA Tryd.prog 146 = some [AV.d (D.v Value.nilFunc)] := by kernel_rfl
@[simp] theorem tk_147 : tk Tryd.prog 147 = some (false, 1) := by kernel_rfl
@[simp] theorem zvA_147 : zvA Tryd.prog 147 = some [AV.d (D.v Value.nilFunc)] := by kernel_rfl
@[simp] theorem tk_157 : tk Tryd.prog 157 = some (false, 1) := by kernel_rfl
@[simp] theorem zvA_157 : zvA Tryd.prog 157 = some [AV.d (D.v Value.nilFunc)] := by kernel_rfl
@[simp] theorem okF_3 : okF Tryd.prog 3 = true := by kernel_rfl
@[simp] theorem okF_4 : okF Tryd.prog 4 = true := by kernel_rfl
@[simp] theorem okF_5 : okF Tryd.prog 5 = true := by kernel_rfl
@[simp] theorem okF_6 : okF Tryd.prog 6 = true := by kernel_rfl
@[simp] theorem okF_7 : okF Tryd.prog 7 = true := by kernel_rfl
@[simp] theorem okF_8 : okF Tryd.prog 8 = true := by kernel_rfl
@[simp] theorem okF_9 : okF Tryd.prog 9 = true := by kernel_rfl
@[simp] theorem okF_10 : okF Tryd.prog 10 = true := by kernel_rfl
@[simp] theorem okF_11 : okF Tryd.prog 11 = true := by kernel_rfl
@[simp] theorem okF_12 : okF Tryd.prog 12 = true := by kernel_rfl
@[simp] theorem okF_13 : okF Tryd.prog 13 = true := by kernel_rfl
@[simp] theorem okF_14 : okF Tryd.prog 14 = true := by kernel_rfl
@[simp] theorem okF_15 : okF Tryd.prog 15 = true := by kernel_rfl
@[simp] theorem okF_16 : okF Tryd.prog 16 = true := by kernel_rfl
@[simp] theorem okF_17 : okF Tryd.prog 17 = true := by kernel_rfl
@[simp] theorem okF_18 : okF Tryd.prog 18 = true := by kernel_rfl
@[simp] theorem okF_19 : okF Tryd.prog 19 = true := by kernel_rfl
@[simp] theorem okF_20 : okF Tryd.prog 20 = true := by kernel_rfl
@[simp] theorem okF_21 : okF Tryd.prog 21 = true := by kernel_rfl
@[simp] theorem okF_22 : okF Tryd.prog 22 = true := by kernel_rfl
@[simp] theorem okF_23 : okF Tryd.prog 23 = true := by kernel_rfl
@[simp] theorem okF_24 : okF Tryd.prog 24 = true := by kernel_rfl
@[simp] theorem okF_25 : okF Tryd.prog 25 = true := by kernel_rfl
@[simp] theorem okF_26 : okF Tryd.prog 26 = true := by kernel_rfl
@[simp] theorem okF_27 : okF Tryd.prog 27 = true := by kernel_rfl
@[simp] theorem okF_28 : okF Tryd.prog 28 = true := by kernel_rfl
@[simp] theorem okF_29 : okF Tryd.prog 29 = true := by kernel_rfl
@[simp] theorem okF_30 : okF Tryd.prog 30 = true := by kernel_rfl
@[simp] theorem okF_31 : okF Tryd.prog 31 = true := by kernel_rfl
@[simp] theorem okF_32 : okF Tryd.prog 32 = true := by kernel_rfl
@[simp] theorem okF_33 : okF Tryd.prog 33 = true := by kernel_rfl
@[simp] theorem okF_34 : okF Tryd.prog 34 = true := by kernel_rfl
@[simp] theorem okF_35 : okF Tryd.prog 35 = true := by kernel_rfl
@[simp] theorem okF_36 : okF Tryd.prog 36 = true := by kernel_rfl
@[simp] theorem okF_37 : okF Tryd.prog 37 = true := by kernel_rfl
@[simp] theorem okF_38 : okF Tryd.prog 38 = true := by kernel_rfl
@[simp] theorem okF_39 : okF Tryd.prog 39 = true := by kernel_rfl
@[simp] theorem okF_40 : okF Tryd.prog 40 = true := by kernel_rfl
@[simp] theorem okF_41 : okF Tryd.prog 41 = true := by kernel_rfl
@[simp] theorem okF_42 : okF Tryd.prog 42 = true := by kernel_rfl
@[simp] theorem okF_43 : okF Tryd.prog 43 = true := by kernel_rfl
@[simp] theorem okF_44 : okF Tryd.prog 44 = true := by kernel_rfl
@[simp] theorem okF_45 : okF Tryd.prog 45 = true := by kernel_rfl
@[simp] theorem okF_46 : okF Tryd.prog 46 = true := by kernel_rfl
@[simp] theorem okF_47 : okF Tryd.prog 47 = true := by kernel_rfl
@[simp] theorem okF_48 : okF Tryd.prog 48 = true := by kernel_rfl
@[simp] theorem okF_49 : okF Tryd.prog 49 = true := by kernel_rfl
@[simp] theorem okF_50 : okF Tryd.prog 50 = true := by kernel_rfl
@[simp] theorem okF_51 : okF Tryd.prog 51 = true := by kernel_rfl
@[simp] theorem okF_52 : okF Tryd.prog 52 = true := by kernel_rfl
@[simp] theorem okF_53 : okF Tryd.prog 53 = true := by kernel_rfl
@[simp] theorem okF_54 : okF Tryd.prog 54 = true := by kernel_rfl
@[simp] theorem okF_55 : okF Tryd.prog 55 = true := by kernel_rfl
@[simp] theorem okF_56 : okF Tryd.prog 56 = true := by kernel_rfl
@[simp] theorem okF_57 : okF Tryd.prog 57 = true := by kernel_rfl
@[simp] theorem okF_58 : okF Tryd.prog 58 = true := by kernel_rfl
@[simp] theorem okF_59 : okF Tryd.prog 59 = true := by kernel_rfl
@[simp] theorem okF_60 : okF Tryd.prog 60 = true := by kernel_rfl
@[simp] theorem okF_61 : okF Tryd.prog 61 = true := by kernel_rfl
@[simp] theorem okF_62 : okF Tryd.prog 62 = true := by kernel_rfl
@[simp] theorem okF_63 : okF Tryd.prog 63 = true := by kernel_rfl
@[simp] theorem okF_64 : okF Tryd.prog 64 = true := by kernel_rfl
@[simp] theorem okF_65 : okF Tryd.prog 65 = true := by kernel_rfl
@[simp] theorem okF_66 : okF Tryd.prog 66 = true := by kernel_rfl
@[simp] theorem okF_67 : okF Tryd.prog 67 = true := by kernel_rfl
@[simp] theorem okF_68 : okF Tryd.prog 68 = true := by kernel_rfl
@[simp] theorem okF_69 : okF Tryd.prog 69 = true := by kernel_rfl
@[simp] theorem okF_70 : okF Tryd.prog 70 = true := by kernel_rfl
@[simp] theorem okF_71 : okF Tryd.prog 71 = true := by kernel_rfl
@[simp] theorem okF_72 : okF Tryd.prog 72 = true := by kernel_rfl
@[simp] theorem okF_73 : okF Tryd.prog 73 = true := by kernel_rfl
@[simp] theorem okF_74 : okF Tryd.prog 74 = true := by kernel_rfl
@[simp] theorem okF_75 : okF Tryd.prog 75 = true := by kernel_rfl
@[simp] theorem okF_76 : okF Tryd.prog 76 = true := by kernel_rfl
@[simp] theorem okF_77 : okF Tryd.prog 77 = true := by kernel_rfl
@[simp] theorem okF_78 : okF Tryd.prog 78 = true := by kernel_rfl
@[simp] theorem okF_79 : okF Tryd.prog 79 = true := by kernel_rfl
@[simp] theorem okF_80 : okF Tryd.prog 80 = true := by kernel_rfl
@[simp] theorem okF_81 : okF Tryd.prog 81 = true := by kernel_rfl
@[simp] theorem okF_82 : okF Tryd.prog 82 = true := by kernel_rfl
@[simp] theorem okF_83 : okF Tryd.prog 83 = true := by kernel_rfl
@[simp] theorem okF_84 : okF Tryd.prog 84 = true := by kernel_rfl
@[simp] theorem okF_85 : okF Tryd.prog 85 = true := by kernel_rfl
@[simp] theorem okF_86 : okF Tryd.prog 86 = true := by kernel_rfl
@[simp] theorem okF_87 : okF Tryd.prog 87 = true := by kernel_rfl
@[simp] theorem okF_88 : okF Tryd.prog 88 = true := by kernel_rfl
@[simp] theorem okF_89 : okF Tryd.prog 89 = true := by kernel_rfl
@[simp] theorem okF_90 : okF Tryd.prog 90 = true := by kernel_rfl
@[simp] theorem okF_91 : okF Tryd.prog 91 = true := by kernel_rfl
@[simp] theorem okF_93 : okF Tryd.prog 93 = true := by kernel_rfl
@[simp] theorem okF_95 : okF Tryd.prog 95 = true := by kernel_rfl
@[simp] theorem okF_96 : okF Tryd.prog 96 = true := by kernel_rfl
end Go.Proofs.YtoeimidochjddaaDoor
