/- Closed facts on the program's types and functions, made by program: what the calculator asks of its tables. -/
import Derived.Test.YtoeimidochjddaaGreatDoorProg
import Derived.Test.YtoeimidochjddaaGreatDoorAh
import Derived.KernelRfl
namespace Go.Proofs.YtoeimidochjddaaGreatDoor
set_option maxRecDepth 100000
@[simp] theorem tk_7 : tk Tryz.prog 7 = some (true, 4) := by kernel_rfl
@[simp] theorem places_7 : places Tryz.prog 7 = some [(0, 1), (1, 1), (2, 1), (3, 1)] := by kernel_rfl
@[simp] theorem zvA_7 : zvA Tryz.prog 7 = some [AV.d (D.v (Value.int IntKind.i64 (0))), AV.d (D.v (Value.int IntKind.i64 (0))), AV.d (D.v (Value.bool false)), AV.d (D.v (Value.int IntKind.u8 (0)))] := by kernel_rfl
@[simp] theorem ar_7 : ar Tryz.prog 7 = none := by kernel_rfl
@[simp] theorem fo_7_0 : fo Tryz.prog 7 0 = some 0 := by kernel_rfl
@[simp] theorem ft_7_0 : ft Tryz.prog 7 0 = some (2, 0) := by kernel_rfl
@[simp] theorem fo_7_1 : fo Tryz.prog 7 1 = some 1 := by kernel_rfl
@[simp] theorem ft_7_1 : ft Tryz.prog 7 1 = some (3, 1) := by kernel_rfl
@[simp] theorem fo_7_2 : fo Tryz.prog 7 2 = some 2 := by kernel_rfl
@[simp] theorem ft_7_2 : ft Tryz.prog 7 2 = some (4, 2) := by kernel_rfl
@[simp] theorem fo_7_3 : fo Tryz.prog 7 3 = some 3 := by kernel_rfl
@[simp] theorem ft_7_3 : ft Tryz.prog 7 3 = some (6, 3) := by kernel_rfl
@[simp] theorem tk_8 : tk Tryz.prog 8 = some (true, 4) := by kernel_rfl
@[simp] theorem places_8 : places Tryz.prog 8 = some [(0, 1), (1, 1), (2, 1), (3, 1)] := by kernel_rfl
@[simp] theorem zvA_8 : zvA Tryz.prog 8 = some [AV.d (D.v (Value.int IntKind.i64 (0))), AV.d (D.v (Value.int IntKind.i64 (0))), AV.d (D.v (Value.bool false)), AV.d (D.v (Value.int IntKind.u8 (0)))] := by kernel_rfl
@[simp] theorem ar_8 : ar Tryz.prog 8 = none := by kernel_rfl
@[simp] theorem fo_8_0 : fo Tryz.prog 8 0 = some 0 := by kernel_rfl
@[simp] theorem ft_8_0 : ft Tryz.prog 8 0 = some (2, 0) := by kernel_rfl
@[simp] theorem fo_8_1 : fo Tryz.prog 8 1 = some 1 := by kernel_rfl
@[simp] theorem ft_8_1 : ft Tryz.prog 8 1 = some (3, 1) := by kernel_rfl
@[simp] theorem fo_8_2 : fo Tryz.prog 8 2 = some 2 := by kernel_rfl
@[simp] theorem ft_8_2 : ft Tryz.prog 8 2 = some (4, 2) := by kernel_rfl
@[simp] theorem fo_8_3 : fo Tryz.prog 8 3 = some 3 := by kernel_rfl
@[simp] theorem ft_8_3 : ft Tryz.prog 8 3 = some (6, 3) := by kernel_rfl
@[simp] theorem tk_13 : tk Tryz.prog 13 = some (true, 2) := by kernel_rfl
@[simp] theorem places_13 : places Tryz.prog 13 = some [(0, 1), (1, 1)] := by kernel_rfl
@[simp] theorem zvA_13 : zvA Tryz.prog 13 = some [AV.d (D.v (Value.string { data := #[] })), AV.d (D.v (Value.int IntKind.u64 (0)))] := by kernel_rfl
@[simp] theorem ar_13 : ar Tryz.prog 13 = none := by kernel_rfl
@[simp] theorem fo_13_0 : fo Tryz.prog 13 0 = some 0 := by kernel_rfl
@[simp] theorem ft_13_0 : ft Tryz.prog 13 0 = some (9, 0) := by kernel_rfl
@[simp] theorem fo_13_1 : fo Tryz.prog 13 1 = some 1 := by kernel_rfl
@[simp] theorem ft_13_1 : ft Tryz.prog 13 1 = some (12, 1) := by kernel_rfl
@[simp] theorem tk_14 : tk Tryz.prog 14 = some (true, 2) := by kernel_rfl
@[simp] theorem places_14 : places Tryz.prog 14 = some [(0, 1), (1, 1)] := by kernel_rfl
@[simp] theorem zvA_14 : zvA Tryz.prog 14 = some [AV.d (D.v (Value.string { data := #[] })), AV.d (D.v (Value.int IntKind.u64 (0)))] := by kernel_rfl
@[simp] theorem ar_14 : ar Tryz.prog 14 = none := by kernel_rfl
@[simp] theorem fo_14_0 : fo Tryz.prog 14 0 = some 0 := by kernel_rfl
@[simp] theorem ft_14_0 : ft Tryz.prog 14 0 = some (9, 0) := by kernel_rfl
@[simp] theorem fo_14_1 : fo Tryz.prog 14 1 = some 1 := by kernel_rfl
@[simp] theorem ft_14_1 : ft Tryz.prog 14 1 = some (12, 1) := by kernel_rfl
@[simp] theorem tk_18 : tk Tryz.prog 18 = some (true, 1) := by kernel_rfl
@[simp] theorem places_18 : places Tryz.prog 18 = some [(0, 1)] := by kernel_rfl
@[simp] theorem zvA_18 : zvA Tryz.prog 18 = some [AV.d (D.v (Value.pointer none))] := by kernel_rfl
@[simp] theorem ar_18 : ar Tryz.prog 18 = none := by kernel_rfl
@[simp] theorem fo_18_0 : fo Tryz.prog 18 0 = some 0 := by kernel_rfl
@[simp] theorem ft_18_0 : ft Tryz.prog 18 0 = some (17, 0) := by kernel_rfl
@[simp] theorem tk_19 : tk Tryz.prog 19 = some (true, 1) := by kernel_rfl
@[simp] theorem places_19 : places Tryz.prog 19 = some [(0, 1)] := by kernel_rfl
@[simp] theorem zvA_19 : zvA Tryz.prog 19 = some [AV.d (D.v (Value.pointer none))] := by kernel_rfl
@[simp] theorem ar_19 : ar Tryz.prog 19 = none := by kernel_rfl
@[simp] theorem fo_19_0 : fo Tryz.prog 19 0 = some 0 := by kernel_rfl
@[simp] theorem ft_19_0 : ft Tryz.prog 19 0 = some (17, 0) := by kernel_rfl
@[simp] theorem tk_24 : tk Tryz.prog 24 = some (true, 2) := by kernel_rfl
@[simp] theorem places_24 : places Tryz.prog 24 = some [(0, 1), (1, 1)] := by kernel_rfl
@[simp] theorem zvA_24 : zvA Tryz.prog 24 = some [AV.d (D.v (Value.int IntKind.u32 (0))), AV.d (D.v (Value.slice none 0 0))] := by kernel_rfl
@[simp] theorem ar_24 : ar Tryz.prog 24 = none := by kernel_rfl
@[simp] theorem fo_24_0 : fo Tryz.prog 24 0 = some 0 := by kernel_rfl
@[simp] theorem ft_24_0 : ft Tryz.prog 24 0 = some (22, 0) := by kernel_rfl
@[simp] theorem fo_24_1 : fo Tryz.prog 24 1 = some 1 := by kernel_rfl
@[simp] theorem ft_24_1 : ft Tryz.prog 24 1 = some (23, 1) := by kernel_rfl
@[simp] theorem tk_25 : tk Tryz.prog 25 = some (true, 2) := by kernel_rfl
@[simp] theorem places_25 : places Tryz.prog 25 = some [(0, 1), (1, 1)] := by kernel_rfl
@[simp] theorem zvA_25 : zvA Tryz.prog 25 = some [AV.d (D.v (Value.int IntKind.u32 (0))), AV.d (D.v (Value.slice none 0 0))] := by kernel_rfl
@[simp] theorem ar_25 : ar Tryz.prog 25 = none := by kernel_rfl
@[simp] theorem fo_25_0 : fo Tryz.prog 25 0 = some 0 := by kernel_rfl
@[simp] theorem ft_25_0 : ft Tryz.prog 25 0 = some (22, 0) := by kernel_rfl
@[simp] theorem fo_25_1 : fo Tryz.prog 25 1 = some 1 := by kernel_rfl
@[simp] theorem ft_25_1 : ft Tryz.prog 25 1 = some (23, 1) := by kernel_rfl
@[simp] theorem tk_28 : tk Tryz.prog 28 = some (true, 4) := by kernel_rfl
@[simp] theorem places_28 : places Tryz.prog 28 = some [(0, 2), (2, 1), (3, 1)] := by kernel_rfl
@[simp] theorem zvA_28 : zvA Tryz.prog 28 = some [AV.d (D.v (Value.int IntKind.u32 (0))), AV.d (D.v (Value.slice none 0 0)), AV.d (D.v (Value.slice none 0 0)), AV.d (D.v (Value.slice none 0 0))] := by kernel_rfl
@[simp] theorem ar_28 : ar Tryz.prog 28 = none := by kernel_rfl
@[simp] theorem fo_28_0 : fo Tryz.prog 28 0 = some 0 := by kernel_rfl
@[simp] theorem ft_28_0 : ft Tryz.prog 28 0 = some (25, 0) := by kernel_rfl
@[simp] theorem fo_28_1 : fo Tryz.prog 28 1 = some 2 := by kernel_rfl
@[simp] theorem ft_28_1 : ft Tryz.prog 28 1 = some (26, 2) := by kernel_rfl
@[simp] theorem fo_28_2 : fo Tryz.prog 28 2 = some 3 := by kernel_rfl
@[simp] theorem ft_28_2 : ft Tryz.prog 28 2 = some (27, 3) := by kernel_rfl
@[simp] theorem tk_29 : tk Tryz.prog 29 = some (true, 4) := by kernel_rfl
@[simp] theorem places_29 : places Tryz.prog 29 = some [(0, 2), (2, 1), (3, 1)] := by kernel_rfl
@[simp] theorem zvA_29 : zvA Tryz.prog 29 = some [AV.d (D.v (Value.int IntKind.u32 (0))), AV.d (D.v (Value.slice none 0 0)), AV.d (D.v (Value.slice none 0 0)), AV.d (D.v (Value.slice none 0 0))] := by kernel_rfl
@[simp] theorem ar_29 : ar Tryz.prog 29 = none := by kernel_rfl
@[simp] theorem fo_29_0 : fo Tryz.prog 29 0 = some 0 := by kernel_rfl
@[simp] theorem ft_29_0 : ft Tryz.prog 29 0 = some (25, 0) := by kernel_rfl
@[simp] theorem fo_29_1 : fo Tryz.prog 29 1 = some 2 := by kernel_rfl
@[simp] theorem ft_29_1 : ft Tryz.prog 29 1 = some (26, 2) := by kernel_rfl
@[simp] theorem fo_29_2 : fo Tryz.prog 29 2 = some 3 := by kernel_rfl
@[simp] theorem ft_29_2 : ft Tryz.prog 29 2 = some (27, 3) := by kernel_rfl
@[simp] theorem tk_41 : tk Tryz.prog 41 = some (true, 5) := by kernel_rfl
@[simp] theorem places_41 : places Tryz.prog 41 = some [(0, 1), (1, 1), (2, 1), (3, 1), (4, 1)] := by kernel_rfl
@[simp] theorem zvA_41 : zvA Tryz.prog 41 = some [AV.d (D.v (Value.int IntKind.i64 (0))), AV.d (D.v (Value.int IntKind.u32 (0))), AV.d (D.v (Value.int IntKind.i64 (0))), AV.d (D.v (Value.int IntKind.i64 (0))), AV.d (D.v (Value.slice none 0 0))] := by kernel_rfl
@[simp] theorem ar_41 : ar Tryz.prog 41 = none := by kernel_rfl
@[simp] theorem fo_41_0 : fo Tryz.prog 41 0 = some 0 := by kernel_rfl
@[simp] theorem ft_41_0 : ft Tryz.prog 41 0 = some (3, 0) := by kernel_rfl
@[simp] theorem fo_41_1 : fo Tryz.prog 41 1 = some 1 := by kernel_rfl
@[simp] theorem ft_41_1 : ft Tryz.prog 41 1 = some (22, 1) := by kernel_rfl
@[simp] theorem fo_41_2 : fo Tryz.prog 41 2 = some 2 := by kernel_rfl
@[simp] theorem ft_41_2 : ft Tryz.prog 41 2 = some (3, 2) := by kernel_rfl
@[simp] theorem fo_41_3 : fo Tryz.prog 41 3 = some 3 := by kernel_rfl
@[simp] theorem ft_41_3 : ft Tryz.prog 41 3 = some (3, 3) := by kernel_rfl
@[simp] theorem fo_41_4 : fo Tryz.prog 41 4 = some 4 := by kernel_rfl
@[simp] theorem ft_41_4 : ft Tryz.prog 41 4 = some (40, 4) := by kernel_rfl
@[simp] theorem tk_42 : tk Tryz.prog 42 = some (true, 5) := by kernel_rfl
@[simp] theorem places_42 : places Tryz.prog 42 = some [(0, 1), (1, 1), (2, 1), (3, 1), (4, 1)] := by kernel_rfl
@[simp] theorem zvA_42 : zvA Tryz.prog 42 = some [AV.d (D.v (Value.int IntKind.i64 (0))), AV.d (D.v (Value.int IntKind.u32 (0))), AV.d (D.v (Value.int IntKind.i64 (0))), AV.d (D.v (Value.int IntKind.i64 (0))), AV.d (D.v (Value.slice none 0 0))] := by kernel_rfl
@[simp] theorem ar_42 : ar Tryz.prog 42 = none := by kernel_rfl
@[simp] theorem fo_42_0 : fo Tryz.prog 42 0 = some 0 := by kernel_rfl
@[simp] theorem ft_42_0 : ft Tryz.prog 42 0 = some (3, 0) := by kernel_rfl
@[simp] theorem fo_42_1 : fo Tryz.prog 42 1 = some 1 := by kernel_rfl
@[simp] theorem ft_42_1 : ft Tryz.prog 42 1 = some (22, 1) := by kernel_rfl
@[simp] theorem fo_42_2 : fo Tryz.prog 42 2 = some 2 := by kernel_rfl
@[simp] theorem ft_42_2 : ft Tryz.prog 42 2 = some (3, 2) := by kernel_rfl
@[simp] theorem fo_42_3 : fo Tryz.prog 42 3 = some 3 := by kernel_rfl
@[simp] theorem ft_42_3 : ft Tryz.prog 42 3 = some (3, 3) := by kernel_rfl
@[simp] theorem fo_42_4 : fo Tryz.prog 42 4 = some 4 := by kernel_rfl
@[simp] theorem ft_42_4 : ft Tryz.prog 42 4 = some (40, 4) := by kernel_rfl
@[simp] theorem tk_46 : tk Tryz.prog 46 = some (true, 5) := by kernel_rfl
@[simp] theorem places_46 : places Tryz.prog 46 = some [(0, 1), (1, 1), (2, 1), (3, 1), (4, 1)] := by kernel_rfl
@[simp] theorem zvA_46 : zvA Tryz.prog 46 = some [AV.d (D.v (Value.int IntKind.i64 (0))), AV.d (D.v (Value.int IntKind.u32 (0))), AV.d (D.v (Value.string { data := #[] })), AV.d (D.v (Value.int IntKind.i64 (0))), AV.d (D.v (Value.slice none 0 0))] := by kernel_rfl
@[simp] theorem ar_46 : ar Tryz.prog 46 = none := by kernel_rfl
@[simp] theorem fo_46_0 : fo Tryz.prog 46 0 = some 0 := by kernel_rfl
@[simp] theorem ft_46_0 : ft Tryz.prog 46 0 = some (3, 0) := by kernel_rfl
@[simp] theorem fo_46_1 : fo Tryz.prog 46 1 = some 1 := by kernel_rfl
@[simp] theorem ft_46_1 : ft Tryz.prog 46 1 = some (22, 1) := by kernel_rfl
@[simp] theorem fo_46_2 : fo Tryz.prog 46 2 = some 2 := by kernel_rfl
@[simp] theorem ft_46_2 : ft Tryz.prog 46 2 = some (9, 2) := by kernel_rfl
@[simp] theorem fo_46_3 : fo Tryz.prog 46 3 = some 3 := by kernel_rfl
@[simp] theorem ft_46_3 : ft Tryz.prog 46 3 = some (3, 3) := by kernel_rfl
@[simp] theorem fo_46_4 : fo Tryz.prog 46 4 = some 4 := by kernel_rfl
@[simp] theorem ft_46_4 : ft Tryz.prog 46 4 = some (45, 4) := by kernel_rfl
@[simp] theorem tk_47 : tk Tryz.prog 47 = some (true, 5) := by kernel_rfl
@[simp] theorem places_47 : places Tryz.prog 47 = some [(0, 1), (1, 1), (2, 1), (3, 1), (4, 1)] := by kernel_rfl
@[simp] theorem zvA_47 : zvA Tryz.prog 47 = some [AV.d (D.v (Value.int IntKind.i64 (0))), AV.d (D.v (Value.int IntKind.u32 (0))), AV.d (D.v (Value.string { data := #[] })), AV.d (D.v (Value.int IntKind.i64 (0))), AV.d (D.v (Value.slice none 0 0))] := by kernel_rfl
@[simp] theorem ar_47 : ar Tryz.prog 47 = none := by kernel_rfl
@[simp] theorem fo_47_0 : fo Tryz.prog 47 0 = some 0 := by kernel_rfl
@[simp] theorem ft_47_0 : ft Tryz.prog 47 0 = some (3, 0) := by kernel_rfl
@[simp] theorem fo_47_1 : fo Tryz.prog 47 1 = some 1 := by kernel_rfl
@[simp] theorem ft_47_1 : ft Tryz.prog 47 1 = some (22, 1) := by kernel_rfl
@[simp] theorem fo_47_2 : fo Tryz.prog 47 2 = some 2 := by kernel_rfl
@[simp] theorem ft_47_2 : ft Tryz.prog 47 2 = some (9, 2) := by kernel_rfl
@[simp] theorem fo_47_3 : fo Tryz.prog 47 3 = some 3 := by kernel_rfl
@[simp] theorem ft_47_3 : ft Tryz.prog 47 3 = some (3, 3) := by kernel_rfl
@[simp] theorem fo_47_4 : fo Tryz.prog 47 4 = some 4 := by kernel_rfl
@[simp] theorem ft_47_4 : ft Tryz.prog 47 4 = some (45, 4) := by kernel_rfl
@[simp] theorem tk_55 : tk Tryz.prog 55 = some (true, 5) := by kernel_rfl
@[simp] theorem places_55 : places Tryz.prog 55 = some [(0, 1), (1, 1), (2, 1), (3, 1), (4, 1)] := by kernel_rfl
@[simp] theorem zvA_55 : zvA Tryz.prog 55 = some [AV.d (D.v (Value.int IntKind.i64 (0))), AV.d (D.v (Value.int IntKind.i64 (0))), AV.d (D.v (Value.int IntKind.i64 (0))), AV.d (D.v (Value.slice none 0 0)), AV.d (D.v (Value.slice none 0 0))] := by kernel_rfl
@[simp] theorem ar_55 : ar Tryz.prog 55 = none := by kernel_rfl
@[simp] theorem fo_55_0 : fo Tryz.prog 55 0 = some 0 := by kernel_rfl
@[simp] theorem ft_55_0 : ft Tryz.prog 55 0 = some (3, 0) := by kernel_rfl
@[simp] theorem fo_55_1 : fo Tryz.prog 55 1 = some 1 := by kernel_rfl
@[simp] theorem ft_55_1 : ft Tryz.prog 55 1 = some (3, 1) := by kernel_rfl
@[simp] theorem fo_55_2 : fo Tryz.prog 55 2 = some 2 := by kernel_rfl
@[simp] theorem ft_55_2 : ft Tryz.prog 55 2 = some (3, 2) := by kernel_rfl
@[simp] theorem fo_55_3 : fo Tryz.prog 55 3 = some 3 := by kernel_rfl
@[simp] theorem ft_55_3 : ft Tryz.prog 55 3 = some (40, 3) := by kernel_rfl
@[simp] theorem fo_55_4 : fo Tryz.prog 55 4 = some 4 := by kernel_rfl
@[simp] theorem ft_55_4 : ft Tryz.prog 55 4 = some (54, 4) := by kernel_rfl
@[simp] theorem tk_56 : tk Tryz.prog 56 = some (true, 5) := by kernel_rfl
@[simp] theorem places_56 : places Tryz.prog 56 = some [(0, 1), (1, 1), (2, 1), (3, 1), (4, 1)] := by kernel_rfl
@[simp] theorem zvA_56 : zvA Tryz.prog 56 = some [AV.d (D.v (Value.int IntKind.i64 (0))), AV.d (D.v (Value.int IntKind.i64 (0))), AV.d (D.v (Value.int IntKind.i64 (0))), AV.d (D.v (Value.slice none 0 0)), AV.d (D.v (Value.slice none 0 0))] := by kernel_rfl
@[simp] theorem ar_56 : ar Tryz.prog 56 = none := by kernel_rfl
@[simp] theorem fo_56_0 : fo Tryz.prog 56 0 = some 0 := by kernel_rfl
@[simp] theorem ft_56_0 : ft Tryz.prog 56 0 = some (3, 0) := by kernel_rfl
@[simp] theorem fo_56_1 : fo Tryz.prog 56 1 = some 1 := by kernel_rfl
@[simp] theorem ft_56_1 : ft Tryz.prog 56 1 = some (3, 1) := by kernel_rfl
@[simp] theorem fo_56_2 : fo Tryz.prog 56 2 = some 2 := by kernel_rfl
@[simp] theorem ft_56_2 : ft Tryz.prog 56 2 = some (3, 2) := by kernel_rfl
@[simp] theorem fo_56_3 : fo Tryz.prog 56 3 = some 3 := by kernel_rfl
@[simp] theorem ft_56_3 : ft Tryz.prog 56 3 = some (40, 3) := by kernel_rfl
@[simp] theorem fo_56_4 : fo Tryz.prog 56 4 = some 4 := by kernel_rfl
@[simp] theorem ft_56_4 : ft Tryz.prog 56 4 = some (54, 4) := by kernel_rfl
@[simp] theorem tk_61 : tk Tryz.prog 61 = some (true, 3) := by kernel_rfl
@[simp] theorem places_61 : places Tryz.prog 61 = some [(0, 1), (1, 1), (2, 1)] := by kernel_rfl
@[simp] theorem zvA_61 : zvA Tryz.prog 61 = some [AV.d (D.v (Value.string { data := #[] })), AV.d (D.v (Value.slice none 0 0)), AV.d (D.v (Value.slice none 0 0))] := by kernel_rfl
@[simp] theorem ar_61 : ar Tryz.prog 61 = none := by kernel_rfl
@[simp] theorem fo_61_0 : fo Tryz.prog 61 0 = some 0 := by kernel_rfl
@[simp] theorem ft_61_0 : ft Tryz.prog 61 0 = some (9, 0) := by kernel_rfl
@[simp] theorem fo_61_1 : fo Tryz.prog 61 1 = some 1 := by kernel_rfl
@[simp] theorem ft_61_1 : ft Tryz.prog 61 1 = some (59, 1) := by kernel_rfl
@[simp] theorem fo_61_2 : fo Tryz.prog 61 2 = some 2 := by kernel_rfl
@[simp] theorem ft_61_2 : ft Tryz.prog 61 2 = some (60, 2) := by kernel_rfl
@[simp] theorem tk_62 : tk Tryz.prog 62 = some (true, 3) := by kernel_rfl
@[simp] theorem places_62 : places Tryz.prog 62 = some [(0, 1), (1, 1), (2, 1)] := by kernel_rfl
@[simp] theorem zvA_62 : zvA Tryz.prog 62 = some [AV.d (D.v (Value.string { data := #[] })), AV.d (D.v (Value.slice none 0 0)), AV.d (D.v (Value.slice none 0 0))] := by kernel_rfl
@[simp] theorem ar_62 : ar Tryz.prog 62 = none := by kernel_rfl
@[simp] theorem fo_62_0 : fo Tryz.prog 62 0 = some 0 := by kernel_rfl
@[simp] theorem ft_62_0 : ft Tryz.prog 62 0 = some (9, 0) := by kernel_rfl
@[simp] theorem fo_62_1 : fo Tryz.prog 62 1 = some 1 := by kernel_rfl
@[simp] theorem ft_62_1 : ft Tryz.prog 62 1 = some (59, 1) := by kernel_rfl
@[simp] theorem fo_62_2 : fo Tryz.prog 62 2 = some 2 := by kernel_rfl
@[simp] theorem ft_62_2 : ft Tryz.prog 62 2 = some (60, 2) := by kernel_rfl
@[simp] theorem tk_68 : tk Tryz.prog 68 = some (true, 2) := by kernel_rfl
@[simp] theorem places_68 : places Tryz.prog 68 = some [(0, 1), (1, 1)] := by kernel_rfl
@[simp] theorem zvA_68 : zvA Tryz.prog 68 = some [AV.d (D.v (Value.int IntKind.u32 (0))), AV.d (D.v (Value.slice none 0 0))] := by kernel_rfl
@[simp] theorem ar_68 : ar Tryz.prog 68 = none := by kernel_rfl
@[simp] theorem fo_68_0 : fo Tryz.prog 68 0 = some 0 := by kernel_rfl
@[simp] theorem ft_68_0 : ft Tryz.prog 68 0 = some (22, 0) := by kernel_rfl
@[simp] theorem fo_68_1 : fo Tryz.prog 68 1 = some 1 := by kernel_rfl
@[simp] theorem ft_68_1 : ft Tryz.prog 68 1 = some (67, 1) := by kernel_rfl
@[simp] theorem tk_69 : tk Tryz.prog 69 = some (true, 2) := by kernel_rfl
@[simp] theorem places_69 : places Tryz.prog 69 = some [(0, 1), (1, 1)] := by kernel_rfl
@[simp] theorem zvA_69 : zvA Tryz.prog 69 = some [AV.d (D.v (Value.int IntKind.u32 (0))), AV.d (D.v (Value.slice none 0 0))] := by kernel_rfl
@[simp] theorem ar_69 : ar Tryz.prog 69 = none := by kernel_rfl
@[simp] theorem fo_69_0 : fo Tryz.prog 69 0 = some 0 := by kernel_rfl
@[simp] theorem ft_69_0 : ft Tryz.prog 69 0 = some (22, 0) := by kernel_rfl
@[simp] theorem fo_69_1 : fo Tryz.prog 69 1 = some 1 := by kernel_rfl
@[simp] theorem ft_69_1 : ft Tryz.prog 69 1 = some (67, 1) := by kernel_rfl
@[simp] theorem tk_72 : tk Tryz.prog 72 = some (true, 2) := by kernel_rfl
@[simp] theorem places_72 : places Tryz.prog 72 = some [(0, 1), (1, 1)] := by kernel_rfl
@[simp] theorem zvA_72 : zvA Tryz.prog 72 = some [AV.d (D.v (Value.int IntKind.i64 (0))), AV.d (D.v (Value.slice none 0 0))] := by kernel_rfl
@[simp] theorem ar_72 : ar Tryz.prog 72 = none := by kernel_rfl
@[simp] theorem fo_72_0 : fo Tryz.prog 72 0 = some 0 := by kernel_rfl
@[simp] theorem ft_72_0 : ft Tryz.prog 72 0 = some (3, 0) := by kernel_rfl
@[simp] theorem fo_72_1 : fo Tryz.prog 72 1 = some 1 := by kernel_rfl
@[simp] theorem ft_72_1 : ft Tryz.prog 72 1 = some (27, 1) := by kernel_rfl
@[simp] theorem tk_73 : tk Tryz.prog 73 = some (true, 2) := by kernel_rfl
@[simp] theorem places_73 : places Tryz.prog 73 = some [(0, 1), (1, 1)] := by kernel_rfl
@[simp] theorem zvA_73 : zvA Tryz.prog 73 = some [AV.d (D.v (Value.int IntKind.i64 (0))), AV.d (D.v (Value.slice none 0 0))] := by kernel_rfl
@[simp] theorem ar_73 : ar Tryz.prog 73 = none := by kernel_rfl
@[simp] theorem fo_73_0 : fo Tryz.prog 73 0 = some 0 := by kernel_rfl
@[simp] theorem ft_73_0 : ft Tryz.prog 73 0 = some (3, 0) := by kernel_rfl
@[simp] theorem fo_73_1 : fo Tryz.prog 73 1 = some 1 := by kernel_rfl
@[simp] theorem ft_73_1 : ft Tryz.prog 73 1 = some (27, 1) := by kernel_rfl
@[simp] theorem tk_80 : tk Tryz.prog 80 = some (true, 8) := by kernel_rfl
@[simp] theorem places_80 : places Tryz.prog 80 = some [(0, 1), (1, 1), (2, 1), (3, 1), (4, 1), (5, 1), (6, 1), (7, 1)] := by kernel_rfl
@[simp] theorem zvA_80 : zvA Tryz.prog 80 = some [AV.d (D.v (Value.int IntKind.i64 (0))), AV.d (D.v (Value.int IntKind.i64 (0))), AV.d (D.v (Value.int IntKind.i64 (0))), AV.d (D.v (Value.int IntKind.i64 (0))), AV.d (D.v (Value.int IntKind.i64 (0))), AV.d (D.v (Value.int IntKind.u32 (0))), AV.d (D.v (Value.slice none 0 0)), AV.d (D.v (Value.slice none 0 0))] := by kernel_rfl
@[simp] theorem ar_80 : ar Tryz.prog 80 = none := by kernel_rfl
@[simp] theorem fo_80_0 : fo Tryz.prog 80 0 = some 0 := by kernel_rfl
@[simp] theorem ft_80_0 : ft Tryz.prog 80 0 = some (3, 0) := by kernel_rfl
@[simp] theorem fo_80_1 : fo Tryz.prog 80 1 = some 1 := by kernel_rfl
@[simp] theorem ft_80_1 : ft Tryz.prog 80 1 = some (3, 1) := by kernel_rfl
@[simp] theorem fo_80_2 : fo Tryz.prog 80 2 = some 2 := by kernel_rfl
@[simp] theorem ft_80_2 : ft Tryz.prog 80 2 = some (3, 2) := by kernel_rfl
@[simp] theorem fo_80_3 : fo Tryz.prog 80 3 = some 3 := by kernel_rfl
@[simp] theorem ft_80_3 : ft Tryz.prog 80 3 = some (3, 3) := by kernel_rfl
@[simp] theorem fo_80_4 : fo Tryz.prog 80 4 = some 4 := by kernel_rfl
@[simp] theorem ft_80_4 : ft Tryz.prog 80 4 = some (3, 4) := by kernel_rfl
@[simp] theorem fo_80_5 : fo Tryz.prog 80 5 = some 5 := by kernel_rfl
@[simp] theorem ft_80_5 : ft Tryz.prog 80 5 = some (22, 5) := by kernel_rfl
@[simp] theorem fo_80_6 : fo Tryz.prog 80 6 = some 6 := by kernel_rfl
@[simp] theorem ft_80_6 : ft Tryz.prog 80 6 = some (40, 6) := by kernel_rfl
@[simp] theorem fo_80_7 : fo Tryz.prog 80 7 = some 7 := by kernel_rfl
@[simp] theorem ft_80_7 : ft Tryz.prog 80 7 = some (27, 7) := by kernel_rfl
@[simp] theorem tk_81 : tk Tryz.prog 81 = some (true, 8) := by kernel_rfl
@[simp] theorem places_81 : places Tryz.prog 81 = some [(0, 1), (1, 1), (2, 1), (3, 1), (4, 1), (5, 1), (6, 1), (7, 1)] := by kernel_rfl
@[simp] theorem zvA_81 : zvA Tryz.prog 81 = some [AV.d (D.v (Value.int IntKind.i64 (0))), AV.d (D.v (Value.int IntKind.i64 (0))), AV.d (D.v (Value.int IntKind.i64 (0))), AV.d (D.v (Value.int IntKind.i64 (0))), AV.d (D.v (Value.int IntKind.i64 (0))), AV.d (D.v (Value.int IntKind.u32 (0))), AV.d (D.v (Value.slice none 0 0)), AV.d (D.v (Value.slice none 0 0))] := by kernel_rfl
@[simp] theorem ar_81 : ar Tryz.prog 81 = none := by kernel_rfl
@[simp] theorem fo_81_0 : fo Tryz.prog 81 0 = some 0 := by kernel_rfl
@[simp] theorem ft_81_0 : ft Tryz.prog 81 0 = some (3, 0) := by kernel_rfl
@[simp] theorem fo_81_1 : fo Tryz.prog 81 1 = some 1 := by kernel_rfl
@[simp] theorem ft_81_1 : ft Tryz.prog 81 1 = some (3, 1) := by kernel_rfl
@[simp] theorem fo_81_2 : fo Tryz.prog 81 2 = some 2 := by kernel_rfl
@[simp] theorem ft_81_2 : ft Tryz.prog 81 2 = some (3, 2) := by kernel_rfl
@[simp] theorem fo_81_3 : fo Tryz.prog 81 3 = some 3 := by kernel_rfl
@[simp] theorem ft_81_3 : ft Tryz.prog 81 3 = some (3, 3) := by kernel_rfl
@[simp] theorem fo_81_4 : fo Tryz.prog 81 4 = some 4 := by kernel_rfl
@[simp] theorem ft_81_4 : ft Tryz.prog 81 4 = some (3, 4) := by kernel_rfl
@[simp] theorem fo_81_5 : fo Tryz.prog 81 5 = some 5 := by kernel_rfl
@[simp] theorem ft_81_5 : ft Tryz.prog 81 5 = some (22, 5) := by kernel_rfl
@[simp] theorem fo_81_6 : fo Tryz.prog 81 6 = some 6 := by kernel_rfl
@[simp] theorem ft_81_6 : ft Tryz.prog 81 6 = some (40, 6) := by kernel_rfl
@[simp] theorem fo_81_7 : fo Tryz.prog 81 7 = some 7 := by kernel_rfl
@[simp] theorem ft_81_7 : ft Tryz.prog 81 7 = some (27, 7) := by kernel_rfl
@[simp] theorem tk_85 : tk Tryz.prog 85 = some (true, 5) := by kernel_rfl
@[simp] theorem places_85 : places Tryz.prog 85 = some [(0, 1), (1, 1), (2, 1), (3, 1), (4, 1)] := by kernel_rfl
@[simp] theorem zvA_85 : zvA Tryz.prog 85 = some [AV.d (D.v (Value.int IntKind.i64 (0))), AV.d (D.v (Value.int IntKind.i64 (0))), AV.d (D.v (Value.int IntKind.i64 (0))), AV.d (D.v (Value.slice none 0 0)), AV.d (D.v (Value.slice none 0 0))] := by kernel_rfl
@[simp] theorem ar_85 : ar Tryz.prog 85 = none := by kernel_rfl
@[simp] theorem fo_85_0 : fo Tryz.prog 85 0 = some 0 := by kernel_rfl
@[simp] theorem ft_85_0 : ft Tryz.prog 85 0 = some (3, 0) := by kernel_rfl
@[simp] theorem fo_85_1 : fo Tryz.prog 85 1 = some 1 := by kernel_rfl
@[simp] theorem ft_85_1 : ft Tryz.prog 85 1 = some (3, 1) := by kernel_rfl
@[simp] theorem fo_85_2 : fo Tryz.prog 85 2 = some 2 := by kernel_rfl
@[simp] theorem ft_85_2 : ft Tryz.prog 85 2 = some (3, 2) := by kernel_rfl
@[simp] theorem fo_85_3 : fo Tryz.prog 85 3 = some 3 := by kernel_rfl
@[simp] theorem ft_85_3 : ft Tryz.prog 85 3 = some (83, 3) := by kernel_rfl
@[simp] theorem fo_85_4 : fo Tryz.prog 85 4 = some 4 := by kernel_rfl
@[simp] theorem ft_85_4 : ft Tryz.prog 85 4 = some (84, 4) := by kernel_rfl
@[simp] theorem tk_86 : tk Tryz.prog 86 = some (true, 5) := by kernel_rfl
@[simp] theorem places_86 : places Tryz.prog 86 = some [(0, 1), (1, 1), (2, 1), (3, 1), (4, 1)] := by kernel_rfl
@[simp] theorem zvA_86 : zvA Tryz.prog 86 = some [AV.d (D.v (Value.int IntKind.i64 (0))), AV.d (D.v (Value.int IntKind.i64 (0))), AV.d (D.v (Value.int IntKind.i64 (0))), AV.d (D.v (Value.slice none 0 0)), AV.d (D.v (Value.slice none 0 0))] := by kernel_rfl
@[simp] theorem ar_86 : ar Tryz.prog 86 = none := by kernel_rfl
@[simp] theorem fo_86_0 : fo Tryz.prog 86 0 = some 0 := by kernel_rfl
@[simp] theorem ft_86_0 : ft Tryz.prog 86 0 = some (3, 0) := by kernel_rfl
@[simp] theorem fo_86_1 : fo Tryz.prog 86 1 = some 1 := by kernel_rfl
@[simp] theorem ft_86_1 : ft Tryz.prog 86 1 = some (3, 1) := by kernel_rfl
@[simp] theorem fo_86_2 : fo Tryz.prog 86 2 = some 2 := by kernel_rfl
@[simp] theorem ft_86_2 : ft Tryz.prog 86 2 = some (3, 2) := by kernel_rfl
@[simp] theorem fo_86_3 : fo Tryz.prog 86 3 = some 3 := by kernel_rfl
@[simp] theorem ft_86_3 : ft Tryz.prog 86 3 = some (83, 3) := by kernel_rfl
@[simp] theorem fo_86_4 : fo Tryz.prog 86 4 = some 4 := by kernel_rfl
@[simp] theorem ft_86_4 : ft Tryz.prog 86 4 = some (84, 4) := by kernel_rfl
@[simp] theorem tk_87 : tk Tryz.prog 87 = some (true, 10) := by kernel_rfl
@[simp] theorem places_87 : places Tryz.prog 87 = some [(0, 1), (1, 1), (2, 1), (3, 1), (4, 1), (5, 5)] := by kernel_rfl
@[simp] theorem zvA_87 : zvA Tryz.prog 87 = some [AV.d (D.v (Value.int IntKind.i64 (0))), AV.d (D.v (Value.int IntKind.i64 (0))), AV.d (D.v (Value.int IntKind.i64 (0))), AV.d (D.v (Value.int IntKind.i64 (0))), AV.d (D.v (Value.int IntKind.i64 (0))), AV.d (D.v (Value.int IntKind.i64 (0))), AV.d (D.v (Value.int IntKind.i64 (0))), AV.d (D.v (Value.int IntKind.i64 (0))), AV.d (D.v (Value.slice none 0 0)), AV.d (D.v (Value.slice none 0 0))] := by kernel_rfl
@[simp] theorem ar_87 : ar Tryz.prog 87 = none := by kernel_rfl
@[simp] theorem fo_87_0 : fo Tryz.prog 87 0 = some 0 := by kernel_rfl
@[simp] theorem ft_87_0 : ft Tryz.prog 87 0 = some (3, 0) := by kernel_rfl
@[simp] theorem fo_87_1 : fo Tryz.prog 87 1 = some 1 := by kernel_rfl
@[simp] theorem ft_87_1 : ft Tryz.prog 87 1 = some (3, 1) := by kernel_rfl
@[simp] theorem fo_87_2 : fo Tryz.prog 87 2 = some 2 := by kernel_rfl
@[simp] theorem ft_87_2 : ft Tryz.prog 87 2 = some (3, 2) := by kernel_rfl
@[simp] theorem fo_87_3 : fo Tryz.prog 87 3 = some 3 := by kernel_rfl
@[simp] theorem ft_87_3 : ft Tryz.prog 87 3 = some (3, 3) := by kernel_rfl
@[simp] theorem fo_87_4 : fo Tryz.prog 87 4 = some 4 := by kernel_rfl
@[simp] theorem ft_87_4 : ft Tryz.prog 87 4 = some (3, 4) := by kernel_rfl
@[simp] theorem fo_87_5 : fo Tryz.prog 87 5 = some 5 := by kernel_rfl
@[simp] theorem ft_87_5 : ft Tryz.prog 87 5 = some (86, 5) := by kernel_rfl
@[simp] theorem tk_88 : tk Tryz.prog 88 = some (true, 10) := by kernel_rfl
@[simp] theorem places_88 : places Tryz.prog 88 = some [(0, 1), (1, 1), (2, 1), (3, 1), (4, 1), (5, 5)] := by kernel_rfl
@[simp] theorem zvA_88 : zvA Tryz.prog 88 = some [AV.d (D.v (Value.int IntKind.i64 (0))), AV.d (D.v (Value.int IntKind.i64 (0))), AV.d (D.v (Value.int IntKind.i64 (0))), AV.d (D.v (Value.int IntKind.i64 (0))), AV.d (D.v (Value.int IntKind.i64 (0))), AV.d (D.v (Value.int IntKind.i64 (0))), AV.d (D.v (Value.int IntKind.i64 (0))), AV.d (D.v (Value.int IntKind.i64 (0))), AV.d (D.v (Value.slice none 0 0)), AV.d (D.v (Value.slice none 0 0))] := by kernel_rfl
@[simp] theorem ar_88 : ar Tryz.prog 88 = none := by kernel_rfl
@[simp] theorem fo_88_0 : fo Tryz.prog 88 0 = some 0 := by kernel_rfl
@[simp] theorem ft_88_0 : ft Tryz.prog 88 0 = some (3, 0) := by kernel_rfl
@[simp] theorem fo_88_1 : fo Tryz.prog 88 1 = some 1 := by kernel_rfl
@[simp] theorem ft_88_1 : ft Tryz.prog 88 1 = some (3, 1) := by kernel_rfl
@[simp] theorem fo_88_2 : fo Tryz.prog 88 2 = some 2 := by kernel_rfl
@[simp] theorem ft_88_2 : ft Tryz.prog 88 2 = some (3, 2) := by kernel_rfl
@[simp] theorem fo_88_3 : fo Tryz.prog 88 3 = some 3 := by kernel_rfl
@[simp] theorem ft_88_3 : ft Tryz.prog 88 3 = some (3, 3) := by kernel_rfl
@[simp] theorem fo_88_4 : fo Tryz.prog 88 4 = some 4 := by kernel_rfl
@[simp] theorem ft_88_4 : ft Tryz.prog 88 4 = some (3, 4) := by kernel_rfl
@[simp] theorem fo_88_5 : fo Tryz.prog 88 5 = some 5 := by kernel_rfl
@[simp] theorem ft_88_5 : ft Tryz.prog 88 5 = some (86, 5) := by kernel_rfl
@[simp] theorem tk_92 : tk Tryz.prog 92 = some (true, 2) := by kernel_rfl
@[simp] theorem places_92 : places Tryz.prog 92 = some [(0, 1), (1, 1)] := by kernel_rfl
@[simp] theorem zvA_92 : zvA Tryz.prog 92 = some [AV.d (D.v (Value.slice none 0 0)), AV.d (D.v (Value.int IntKind.i64 (0)))] := by kernel_rfl
@[simp] theorem ar_92 : ar Tryz.prog 92 = none := by kernel_rfl
@[simp] theorem fo_92_0 : fo Tryz.prog 92 0 = some 0 := by kernel_rfl
@[simp] theorem ft_92_0 : ft Tryz.prog 92 0 = some (32, 0) := by kernel_rfl
@[simp] theorem fo_92_1 : fo Tryz.prog 92 1 = some 1 := by kernel_rfl
@[simp] theorem ft_92_1 : ft Tryz.prog 92 1 = some (3, 1) := by kernel_rfl
@[simp] theorem tk_93 : tk Tryz.prog 93 = some (true, 2) := by kernel_rfl
@[simp] theorem places_93 : places Tryz.prog 93 = some [(0, 1), (1, 1)] := by kernel_rfl
@[simp] theorem zvA_93 : zvA Tryz.prog 93 = some [AV.d (D.v (Value.slice none 0 0)), AV.d (D.v (Value.int IntKind.i64 (0)))] := by kernel_rfl
@[simp] theorem ar_93 : ar Tryz.prog 93 = none := by kernel_rfl
@[simp] theorem fo_93_0 : fo Tryz.prog 93 0 = some 0 := by kernel_rfl
@[simp] theorem ft_93_0 : ft Tryz.prog 93 0 = some (32, 0) := by kernel_rfl
@[simp] theorem fo_93_1 : fo Tryz.prog 93 1 = some 1 := by kernel_rfl
@[simp] theorem ft_93_1 : ft Tryz.prog 93 1 = some (3, 1) := by kernel_rfl
@[simp] theorem tk_95 : tk Tryz.prog 95 = some (true, 5) := by kernel_rfl
@[simp] theorem places_95 : places Tryz.prog 95 = some [(0, 1), (1, 1), (2, 1), (3, 1), (4, 1)] := by kernel_rfl
@[simp] theorem zvA_95 : zvA Tryz.prog 95 = some [AV.d (D.v (Value.int IntKind.i64 (0))), AV.d (D.v (Value.int IntKind.i64 (0))), AV.d (D.v (Value.int IntKind.i64 (0))), AV.d (D.v (Value.int IntKind.i64 (0))), AV.d (D.v (Value.int IntKind.i64 (0)))] := by kernel_rfl
@[simp] theorem ar_95 : ar Tryz.prog 95 = none := by kernel_rfl
@[simp] theorem fo_95_0 : fo Tryz.prog 95 0 = some 0 := by kernel_rfl
@[simp] theorem ft_95_0 : ft Tryz.prog 95 0 = some (3, 0) := by kernel_rfl
@[simp] theorem fo_95_1 : fo Tryz.prog 95 1 = some 1 := by kernel_rfl
@[simp] theorem ft_95_1 : ft Tryz.prog 95 1 = some (3, 1) := by kernel_rfl
@[simp] theorem fo_95_2 : fo Tryz.prog 95 2 = some 2 := by kernel_rfl
@[simp] theorem ft_95_2 : ft Tryz.prog 95 2 = some (3, 2) := by kernel_rfl
@[simp] theorem fo_95_3 : fo Tryz.prog 95 3 = some 3 := by kernel_rfl
@[simp] theorem ft_95_3 : ft Tryz.prog 95 3 = some (3, 3) := by kernel_rfl
@[simp] theorem fo_95_4 : fo Tryz.prog 95 4 = some 4 := by kernel_rfl
@[simp] theorem ft_95_4 : ft Tryz.prog 95 4 = some (3, 4) := by kernel_rfl
@[simp] theorem tk_96 : tk Tryz.prog 96 = some (true, 5) := by kernel_rfl
@[simp] theorem places_96 : places Tryz.prog 96 = some [(0, 1), (1, 1), (2, 1), (3, 1), (4, 1)] := by kernel_rfl
@[simp] theorem zvA_96 : zvA Tryz.prog 96 = some [AV.d (D.v (Value.int IntKind.i64 (0))), AV.d (D.v (Value.int IntKind.i64 (0))), AV.d (D.v (Value.int IntKind.i64 (0))), AV.d (D.v (Value.int IntKind.i64 (0))), AV.d (D.v (Value.int IntKind.i64 (0)))] := by kernel_rfl
@[simp] theorem ar_96 : ar Tryz.prog 96 = none := by kernel_rfl
@[simp] theorem fo_96_0 : fo Tryz.prog 96 0 = some 0 := by kernel_rfl
@[simp] theorem ft_96_0 : ft Tryz.prog 96 0 = some (3, 0) := by kernel_rfl
@[simp] theorem fo_96_1 : fo Tryz.prog 96 1 = some 1 := by kernel_rfl
@[simp] theorem ft_96_1 : ft Tryz.prog 96 1 = some (3, 1) := by kernel_rfl
@[simp] theorem fo_96_2 : fo Tryz.prog 96 2 = some 2 := by kernel_rfl
@[simp] theorem ft_96_2 : ft Tryz.prog 96 2 = some (3, 2) := by kernel_rfl
@[simp] theorem fo_96_3 : fo Tryz.prog 96 3 = some 3 := by kernel_rfl
@[simp] theorem ft_96_3 : ft Tryz.prog 96 3 = some (3, 3) := by kernel_rfl
@[simp] theorem fo_96_4 : fo Tryz.prog 96 4 = some 4 := by kernel_rfl
@[simp] theorem ft_96_4 : ft Tryz.prog 96 4 = some (3, 4) := by kernel_rfl
@[simp] theorem tk_99 : tk Tryz.prog 99 = some (true, 2) := by kernel_rfl
@[simp] theorem places_99 : places Tryz.prog 99 = some [(0, 1), (1, 1)] := by kernel_rfl
@[simp] theorem zvA_99 : zvA Tryz.prog 99 = some [AV.d (D.v (Value.slice none 0 0)), AV.d (D.v (Value.int IntKind.i64 (0)))] := by kernel_rfl
@[simp] theorem ar_99 : ar Tryz.prog 99 = none := by kernel_rfl
@[simp] theorem fo_99_0 : fo Tryz.prog 99 0 = some 0 := by kernel_rfl
@[simp] theorem ft_99_0 : ft Tryz.prog 99 0 = some (36, 0) := by kernel_rfl
@[simp] theorem fo_99_1 : fo Tryz.prog 99 1 = some 1 := by kernel_rfl
@[simp] theorem ft_99_1 : ft Tryz.prog 99 1 = some (3, 1) := by kernel_rfl
@[simp] theorem tk_100 : tk Tryz.prog 100 = some (true, 2) := by kernel_rfl
@[simp] theorem places_100 : places Tryz.prog 100 = some [(0, 1), (1, 1)] := by kernel_rfl
@[simp] theorem zvA_100 : zvA Tryz.prog 100 = some [AV.d (D.v (Value.slice none 0 0)), AV.d (D.v (Value.int IntKind.i64 (0)))] := by kernel_rfl
@[simp] theorem ar_100 : ar Tryz.prog 100 = none := by kernel_rfl
@[simp] theorem fo_100_0 : fo Tryz.prog 100 0 = some 0 := by kernel_rfl
@[simp] theorem ft_100_0 : ft Tryz.prog 100 0 = some (36, 0) := by kernel_rfl
@[simp] theorem fo_100_1 : fo Tryz.prog 100 1 = some 1 := by kernel_rfl
@[simp] theorem ft_100_1 : ft Tryz.prog 100 1 = some (3, 1) := by kernel_rfl
@[simp] theorem tk_102 : tk Tryz.prog 102 = some (true, 10) := by kernel_rfl
@[simp] theorem places_102 : places Tryz.prog 102 = some [(0, 1), (1, 1), (2, 1), (3, 1), (4, 1), (5, 5)] := by kernel_rfl
@[simp] theorem zvA_102 : zvA Tryz.prog 102 = some [AV.d (D.v (Value.int IntKind.i64 (0))), AV.d (D.v (Value.int IntKind.i64 (0))), AV.d (D.v (Value.int IntKind.i64 (0))), AV.d (D.v (Value.int IntKind.i64 (0))), AV.d (D.v (Value.int IntKind.i64 (0))), AV.d (D.v (Value.int IntKind.i64 (0))), AV.d (D.v (Value.int IntKind.i64 (0))), AV.d (D.v (Value.int IntKind.i64 (0))), AV.d (D.v (Value.slice none 0 0)), AV.d (D.v (Value.slice none 0 0))] := by kernel_rfl
@[simp] theorem ar_102 : ar Tryz.prog 102 = none := by kernel_rfl
@[simp] theorem fo_102_0 : fo Tryz.prog 102 0 = some 0 := by kernel_rfl
@[simp] theorem ft_102_0 : ft Tryz.prog 102 0 = some (3, 0) := by kernel_rfl
@[simp] theorem fo_102_1 : fo Tryz.prog 102 1 = some 1 := by kernel_rfl
@[simp] theorem ft_102_1 : ft Tryz.prog 102 1 = some (3, 1) := by kernel_rfl
@[simp] theorem fo_102_2 : fo Tryz.prog 102 2 = some 2 := by kernel_rfl
@[simp] theorem ft_102_2 : ft Tryz.prog 102 2 = some (3, 2) := by kernel_rfl
@[simp] theorem fo_102_3 : fo Tryz.prog 102 3 = some 3 := by kernel_rfl
@[simp] theorem ft_102_3 : ft Tryz.prog 102 3 = some (3, 3) := by kernel_rfl
@[simp] theorem fo_102_4 : fo Tryz.prog 102 4 = some 4 := by kernel_rfl
@[simp] theorem ft_102_4 : ft Tryz.prog 102 4 = some (3, 4) := by kernel_rfl
@[simp] theorem fo_102_5 : fo Tryz.prog 102 5 = some 5 := by kernel_rfl
@[simp] theorem ft_102_5 : ft Tryz.prog 102 5 = some (86, 5) := by kernel_rfl
@[simp] theorem tk_105 : tk Tryz.prog 105 = some (true, 6) := by kernel_rfl
@[simp] theorem places_105 : places Tryz.prog 105 = some [(0, 1), (1, 5)] := by kernel_rfl
@[simp] theorem zvA_105 : zvA Tryz.prog 105 = some [AV.d (D.v (Value.string { data := #[] })), AV.d (D.v (Value.int IntKind.i64 (0))), AV.d (D.v (Value.int IntKind.i64 (0))), AV.d (D.v (Value.int IntKind.i64 (0))), AV.d (D.v (Value.slice none 0 0)), AV.d (D.v (Value.slice none 0 0))] := by kernel_rfl
@[simp] theorem ar_105 : ar Tryz.prog 105 = none := by kernel_rfl
@[simp] theorem fo_105_0 : fo Tryz.prog 105 0 = some 0 := by kernel_rfl
@[simp] theorem ft_105_0 : ft Tryz.prog 105 0 = some (9, 0) := by kernel_rfl
@[simp] theorem fo_105_1 : fo Tryz.prog 105 1 = some 1 := by kernel_rfl
@[simp] theorem ft_105_1 : ft Tryz.prog 105 1 = some (86, 1) := by kernel_rfl
@[simp] theorem tk_106 : tk Tryz.prog 106 = some (true, 6) := by kernel_rfl
@[simp] theorem places_106 : places Tryz.prog 106 = some [(0, 1), (1, 5)] := by kernel_rfl
@[simp] theorem zvA_106 : zvA Tryz.prog 106 = some [AV.d (D.v (Value.string { data := #[] })), AV.d (D.v (Value.int IntKind.i64 (0))), AV.d (D.v (Value.int IntKind.i64 (0))), AV.d (D.v (Value.int IntKind.i64 (0))), AV.d (D.v (Value.slice none 0 0)), AV.d (D.v (Value.slice none 0 0))] := by kernel_rfl
@[simp] theorem ar_106 : ar Tryz.prog 106 = none := by kernel_rfl
@[simp] theorem fo_106_0 : fo Tryz.prog 106 0 = some 0 := by kernel_rfl
@[simp] theorem ft_106_0 : ft Tryz.prog 106 0 = some (9, 0) := by kernel_rfl
@[simp] theorem fo_106_1 : fo Tryz.prog 106 1 = some 1 := by kernel_rfl
@[simp] theorem ft_106_1 : ft Tryz.prog 106 1 = some (86, 1) := by kernel_rfl
@[simp] theorem tk_108 : tk Tryz.prog 108 = some (true, 7) := by kernel_rfl
@[simp] theorem places_108 : places Tryz.prog 108 = some [(0, 1), (1, 1), (2, 1), (3, 1), (4, 1), (5, 1), (6, 1)] := by kernel_rfl
@[simp] theorem zvA_108 : zvA Tryz.prog 108 = some [AV.d (D.v (Value.int IntKind.i64 (0))), AV.d (D.v (Value.int IntKind.i64 (0))), AV.d (D.v (Value.string { data := #[] })), AV.d (D.v (Value.slice none 0 0)), AV.d (D.v (Value.slice none 0 0)), AV.d (D.v (Value.slice none 0 0)), AV.d (D.v (Value.slice none 0 0))] := by kernel_rfl
@[simp] theorem ar_108 : ar Tryz.prog 108 = none := by kernel_rfl
@[simp] theorem fo_108_0 : fo Tryz.prog 108 0 = some 0 := by kernel_rfl
@[simp] theorem ft_108_0 : ft Tryz.prog 108 0 = some (3, 0) := by kernel_rfl
@[simp] theorem fo_108_1 : fo Tryz.prog 108 1 = some 1 := by kernel_rfl
@[simp] theorem ft_108_1 : ft Tryz.prog 108 1 = some (3, 1) := by kernel_rfl
@[simp] theorem fo_108_2 : fo Tryz.prog 108 2 = some 2 := by kernel_rfl
@[simp] theorem ft_108_2 : ft Tryz.prog 108 2 = some (9, 2) := by kernel_rfl
@[simp] theorem fo_108_3 : fo Tryz.prog 108 3 = some 3 := by kernel_rfl
@[simp] theorem ft_108_3 : ft Tryz.prog 108 3 = some (45, 3) := by kernel_rfl
@[simp] theorem fo_108_4 : fo Tryz.prog 108 4 = some 4 := by kernel_rfl
@[simp] theorem ft_108_4 : ft Tryz.prog 108 4 = some (60, 4) := by kernel_rfl
@[simp] theorem fo_108_5 : fo Tryz.prog 108 5 = some 5 := by kernel_rfl
@[simp] theorem ft_108_5 : ft Tryz.prog 108 5 = some (60, 5) := by kernel_rfl
@[simp] theorem fo_108_6 : fo Tryz.prog 108 6 = some 6 := by kernel_rfl
@[simp] theorem ft_108_6 : ft Tryz.prog 108 6 = some (107, 6) := by kernel_rfl
@[simp] theorem tk_109 : tk Tryz.prog 109 = some (true, 7) := by kernel_rfl
@[simp] theorem places_109 : places Tryz.prog 109 = some [(0, 1), (1, 1), (2, 1), (3, 1), (4, 1), (5, 1), (6, 1)] := by kernel_rfl
@[simp] theorem zvA_109 : zvA Tryz.prog 109 = some [AV.d (D.v (Value.int IntKind.i64 (0))), AV.d (D.v (Value.int IntKind.i64 (0))), AV.d (D.v (Value.string { data := #[] })), AV.d (D.v (Value.slice none 0 0)), AV.d (D.v (Value.slice none 0 0)), AV.d (D.v (Value.slice none 0 0)), AV.d (D.v (Value.slice none 0 0))] := by kernel_rfl
@[simp] theorem ar_109 : ar Tryz.prog 109 = none := by kernel_rfl
@[simp] theorem fo_109_0 : fo Tryz.prog 109 0 = some 0 := by kernel_rfl
@[simp] theorem ft_109_0 : ft Tryz.prog 109 0 = some (3, 0) := by kernel_rfl
@[simp] theorem fo_109_1 : fo Tryz.prog 109 1 = some 1 := by kernel_rfl
@[simp] theorem ft_109_1 : ft Tryz.prog 109 1 = some (3, 1) := by kernel_rfl
@[simp] theorem fo_109_2 : fo Tryz.prog 109 2 = some 2 := by kernel_rfl
@[simp] theorem ft_109_2 : ft Tryz.prog 109 2 = some (9, 2) := by kernel_rfl
@[simp] theorem fo_109_3 : fo Tryz.prog 109 3 = some 3 := by kernel_rfl
@[simp] theorem ft_109_3 : ft Tryz.prog 109 3 = some (45, 3) := by kernel_rfl
@[simp] theorem fo_109_4 : fo Tryz.prog 109 4 = some 4 := by kernel_rfl
@[simp] theorem ft_109_4 : ft Tryz.prog 109 4 = some (60, 4) := by kernel_rfl
@[simp] theorem fo_109_5 : fo Tryz.prog 109 5 = some 5 := by kernel_rfl
@[simp] theorem ft_109_5 : ft Tryz.prog 109 5 = some (60, 5) := by kernel_rfl
@[simp] theorem fo_109_6 : fo Tryz.prog 109 6 = some 6 := by kernel_rfl
@[simp] theorem ft_109_6 : ft Tryz.prog 109 6 = some (107, 6) := by kernel_rfl
@[simp] theorem tk_112 : tk Tryz.prog 112 = some (true, 3) := by kernel_rfl
@[simp] theorem places_112 : places Tryz.prog 112 = some [(0, 1), (1, 1), (2, 1)] := by kernel_rfl
@[simp] theorem zvA_112 : zvA Tryz.prog 112 = some [AV.d (D.v (Value.slice none 0 0)), AV.d (D.v (Value.slice none 0 0)), AV.d (D.v (Value.slice none 0 0))] := by kernel_rfl
@[simp] theorem ar_112 : ar Tryz.prog 112 = none := by kernel_rfl
@[simp] theorem fo_112_0 : fo Tryz.prog 112 0 = some 0 := by kernel_rfl
@[simp] theorem ft_112_0 : ft Tryz.prog 112 0 = some (59, 0) := by kernel_rfl
@[simp] theorem fo_112_1 : fo Tryz.prog 112 1 = some 1 := by kernel_rfl
@[simp] theorem ft_112_1 : ft Tryz.prog 112 1 = some (110, 1) := by kernel_rfl
@[simp] theorem fo_112_2 : fo Tryz.prog 112 2 = some 2 := by kernel_rfl
@[simp] theorem ft_112_2 : ft Tryz.prog 112 2 = some (111, 2) := by kernel_rfl
@[simp] theorem tk_113 : tk Tryz.prog 113 = some (true, 3) := by kernel_rfl
@[simp] theorem places_113 : places Tryz.prog 113 = some [(0, 1), (1, 1), (2, 1)] := by kernel_rfl
@[simp] theorem zvA_113 : zvA Tryz.prog 113 = some [AV.d (D.v (Value.slice none 0 0)), AV.d (D.v (Value.slice none 0 0)), AV.d (D.v (Value.slice none 0 0))] := by kernel_rfl
@[simp] theorem ar_113 : ar Tryz.prog 113 = none := by kernel_rfl
@[simp] theorem fo_113_0 : fo Tryz.prog 113 0 = some 0 := by kernel_rfl
@[simp] theorem ft_113_0 : ft Tryz.prog 113 0 = some (59, 0) := by kernel_rfl
@[simp] theorem fo_113_1 : fo Tryz.prog 113 1 = some 1 := by kernel_rfl
@[simp] theorem ft_113_1 : ft Tryz.prog 113 1 = some (110, 1) := by kernel_rfl
@[simp] theorem fo_113_2 : fo Tryz.prog 113 2 = some 2 := by kernel_rfl
@[simp] theorem ft_113_2 : ft Tryz.prog 113 2 = some (111, 2) := by kernel_rfl
@[simp] theorem tk_125 : tk Tryz.prog 125 = some (true, 5) := by kernel_rfl
@[simp] theorem places_125 : places Tryz.prog 125 = some [(0, 2), (2, 1), (3, 1), (4, 1)] := by kernel_rfl
@[simp] theorem zvA_125 : zvA Tryz.prog 125 = some [AV.d (D.v (Value.int IntKind.u32 (0))), AV.d (D.v (Value.slice none 0 0)), AV.d (D.v (Value.slice none 0 0)), AV.d (D.v (Value.slice none 0 0)), AV.d (D.v (Value.slice none 0 0))] := by kernel_rfl
@[simp] theorem ar_125 : ar Tryz.prog 125 = none := by kernel_rfl
@[simp] theorem fo_125_0 : fo Tryz.prog 125 0 = some 0 := by kernel_rfl
@[simp] theorem ft_125_0 : ft Tryz.prog 125 0 = some (25, 0) := by kernel_rfl
@[simp] theorem fo_125_1 : fo Tryz.prog 125 1 = some 2 := by kernel_rfl
@[simp] theorem ft_125_1 : ft Tryz.prog 125 1 = some (43, 2) := by kernel_rfl
@[simp] theorem fo_125_2 : fo Tryz.prog 125 2 = some 3 := by kernel_rfl
@[simp] theorem ft_125_2 : ft Tryz.prog 125 2 = some (43, 3) := by kernel_rfl
@[simp] theorem fo_125_3 : fo Tryz.prog 125 3 = some 4 := by kernel_rfl
@[simp] theorem ft_125_3 : ft Tryz.prog 125 3 = some (57, 4) := by kernel_rfl
@[simp] theorem tk_126 : tk Tryz.prog 126 = some (true, 5) := by kernel_rfl
@[simp] theorem places_126 : places Tryz.prog 126 = some [(0, 2), (2, 1), (3, 1), (4, 1)] := by kernel_rfl
@[simp] theorem zvA_126 : zvA Tryz.prog 126 = some [AV.d (D.v (Value.int IntKind.u32 (0))), AV.d (D.v (Value.slice none 0 0)), AV.d (D.v (Value.slice none 0 0)), AV.d (D.v (Value.slice none 0 0)), AV.d (D.v (Value.slice none 0 0))] := by kernel_rfl
@[simp] theorem ar_126 : ar Tryz.prog 126 = none := by kernel_rfl
@[simp] theorem fo_126_0 : fo Tryz.prog 126 0 = some 0 := by kernel_rfl
@[simp] theorem ft_126_0 : ft Tryz.prog 126 0 = some (25, 0) := by kernel_rfl
@[simp] theorem fo_126_1 : fo Tryz.prog 126 1 = some 2 := by kernel_rfl
@[simp] theorem ft_126_1 : ft Tryz.prog 126 1 = some (43, 2) := by kernel_rfl
@[simp] theorem fo_126_2 : fo Tryz.prog 126 2 = some 3 := by kernel_rfl
@[simp] theorem ft_126_2 : ft Tryz.prog 126 2 = some (43, 3) := by kernel_rfl
@[simp] theorem fo_126_3 : fo Tryz.prog 126 3 = some 4 := by kernel_rfl
@[simp] theorem ft_126_3 : ft Tryz.prog 126 3 = some (57, 4) := by kernel_rfl
@[simp] theorem tk_154 : tk Tryz.prog 154 = some (true, 5) := by kernel_rfl
@[simp] theorem places_154 : places Tryz.prog 154 = some [(0, 1), (1, 1), (2, 1), (3, 1), (4, 1)] := by kernel_rfl
@[simp] theorem zvA_154 : zvA Tryz.prog 154 = some [AV.d (D.v (Value.string { data := #[] })), AV.d (D.v (Value.int IntKind.u32 (0))), AV.d (D.v (Value.slice none 0 0)), AV.d (D.v (Value.bool false)), AV.d (D.v (Value.bool false))] := by kernel_rfl
@[simp] theorem ar_154 : ar Tryz.prog 154 = none := by kernel_rfl
@[simp] theorem fo_154_0 : fo Tryz.prog 154 0 = some 0 := by kernel_rfl
@[simp] theorem ft_154_0 : ft Tryz.prog 154 0 = some (9, 0) := by kernel_rfl
@[simp] theorem fo_154_1 : fo Tryz.prog 154 1 = some 1 := by kernel_rfl
@[simp] theorem ft_154_1 : ft Tryz.prog 154 1 = some (22, 1) := by kernel_rfl
@[simp] theorem fo_154_2 : fo Tryz.prog 154 2 = some 2 := by kernel_rfl
@[simp] theorem ft_154_2 : ft Tryz.prog 154 2 = some (153, 2) := by kernel_rfl
@[simp] theorem fo_154_3 : fo Tryz.prog 154 3 = some 3 := by kernel_rfl
@[simp] theorem ft_154_3 : ft Tryz.prog 154 3 = some (4, 3) := by kernel_rfl
@[simp] theorem fo_154_4 : fo Tryz.prog 154 4 = some 4 := by kernel_rfl
@[simp] theorem ft_154_4 : ft Tryz.prog 154 4 = some (4, 4) := by kernel_rfl
@[simp] theorem tk_155 : tk Tryz.prog 155 = some (true, 5) := by kernel_rfl
@[simp] theorem places_155 : places Tryz.prog 155 = some [(0, 1), (1, 1), (2, 1), (3, 1), (4, 1)] := by kernel_rfl
@[simp] theorem zvA_155 : zvA Tryz.prog 155 = some [AV.d (D.v (Value.string { data := #[] })), AV.d (D.v (Value.int IntKind.u32 (0))), AV.d (D.v (Value.slice none 0 0)), AV.d (D.v (Value.bool false)), AV.d (D.v (Value.bool false))] := by kernel_rfl
@[simp] theorem ar_155 : ar Tryz.prog 155 = none := by kernel_rfl
@[simp] theorem fo_155_0 : fo Tryz.prog 155 0 = some 0 := by kernel_rfl
@[simp] theorem ft_155_0 : ft Tryz.prog 155 0 = some (9, 0) := by kernel_rfl
@[simp] theorem fo_155_1 : fo Tryz.prog 155 1 = some 1 := by kernel_rfl
@[simp] theorem ft_155_1 : ft Tryz.prog 155 1 = some (22, 1) := by kernel_rfl
@[simp] theorem fo_155_2 : fo Tryz.prog 155 2 = some 2 := by kernel_rfl
@[simp] theorem ft_155_2 : ft Tryz.prog 155 2 = some (153, 2) := by kernel_rfl
@[simp] theorem fo_155_3 : fo Tryz.prog 155 3 = some 3 := by kernel_rfl
@[simp] theorem ft_155_3 : ft Tryz.prog 155 3 = some (4, 3) := by kernel_rfl
@[simp] theorem fo_155_4 : fo Tryz.prog 155 4 = some 4 := by kernel_rfl
@[simp] theorem ft_155_4 : ft Tryz.prog 155 4 = some (4, 4) := by kernel_rfl
@[simp] theorem tk_193 : tk Tryz.prog 193 = some (true, 2) := by kernel_rfl
@[simp] theorem places_193 : places Tryz.prog 193 = some [(0, 1), (1, 1)] := by kernel_rfl
@[simp] theorem zvA_193 : zvA Tryz.prog 193 = some [AV.d (D.v (Value.pointer none)), AV.d (D.v (Value.slice none 0 0))] := by kernel_rfl
@[simp] theorem ar_193 : ar Tryz.prog 193 = none := by kernel_rfl
@[simp] theorem fo_193_0 : fo Tryz.prog 193 0 = some 0 := by kernel_rfl
@[simp] theorem ft_193_0 : ft Tryz.prog 193 0 = some (192, 0) := by kernel_rfl
@[simp] theorem fo_193_1 : fo Tryz.prog 193 1 = some 1 := by kernel_rfl
@[simp] theorem ft_193_1 : ft Tryz.prog 193 1 = some (153, 1) := by kernel_rfl
@[simp] theorem tk_194 : tk Tryz.prog 194 = some (true, 2) := by kernel_rfl
@[simp] theorem places_194 : places Tryz.prog 194 = some [(0, 1), (1, 1)] := by kernel_rfl
@[simp] theorem zvA_194 : zvA Tryz.prog 194 = some [AV.d (D.v (Value.pointer none)), AV.d (D.v (Value.slice none 0 0))] := by kernel_rfl
@[simp] theorem ar_194 : ar Tryz.prog 194 = none := by kernel_rfl
@[simp] theorem fo_194_0 : fo Tryz.prog 194 0 = some 0 := by kernel_rfl
@[simp] theorem ft_194_0 : ft Tryz.prog 194 0 = some (192, 0) := by kernel_rfl
@[simp] theorem fo_194_1 : fo Tryz.prog 194 1 = some 1 := by kernel_rfl
@[simp] theorem ft_194_1 : ft Tryz.prog 194 1 = some (153, 1) := by kernel_rfl
@[simp] theorem tk_195 : tk Tryz.prog 195 = some (true, 2) := by kernel_rfl
@[simp] theorem places_195 : places Tryz.prog 195 = some [(0, 2)] := by kernel_rfl
@[simp] theorem zvA_195 : zvA Tryz.prog 195 = some [AV.d (D.v (Value.pointer none)), AV.d (D.v (Value.slice none 0 0))] := by kernel_rfl
@[simp] theorem ar_195 : ar Tryz.prog 195 = none := by kernel_rfl
@[simp] theorem fo_195_0 : fo Tryz.prog 195 0 = some 0 := by kernel_rfl
@[simp] theorem ft_195_0 : ft Tryz.prog 195 0 = some (194, 0) := by kernel_rfl
@[simp] theorem tk_196 : tk Tryz.prog 196 = some (true, 2) := by kernel_rfl
@[simp] theorem places_196 : places Tryz.prog 196 = some [(0, 2)] := by kernel_rfl
@[simp] theorem zvA_196 : zvA Tryz.prog 196 = some [AV.d (D.v (Value.pointer none)), AV.d (D.v (Value.slice none 0 0))] := by kernel_rfl
@[simp] theorem ar_196 : ar Tryz.prog 196 = none := by kernel_rfl
@[simp] theorem fo_196_0 : fo Tryz.prog 196 0 = some 0 := by kernel_rfl
@[simp] theorem ft_196_0 : ft Tryz.prog 196 0 = some (194, 0) := by kernel_rfl
@[simp] theorem tk_207 : tk Tryz.prog 207 = some (true, 6) := by kernel_rfl
@[simp] theorem places_207 : places Tryz.prog 207 = some [(0, 1), (1, 5)] := by kernel_rfl
@[simp] theorem zvA_207 : zvA Tryz.prog 207 = some [AV.d (D.v (Value.int IntKind.i64 (0))), AV.d (D.v (Value.int IntKind.i64 (0))), AV.d (D.v (Value.int IntKind.i64 (0))), AV.d (D.v (Value.int IntKind.i64 (0))), AV.d (D.v (Value.slice none 0 0)), AV.d (D.v (Value.slice none 0 0))] := by kernel_rfl
@[simp] theorem ar_207 : ar Tryz.prog 207 = none := by kernel_rfl
@[simp] theorem fo_207_0 : fo Tryz.prog 207 0 = some 0 := by kernel_rfl
@[simp] theorem ft_207_0 : ft Tryz.prog 207 0 = some (3, 0) := by kernel_rfl
@[simp] theorem fo_207_1 : fo Tryz.prog 207 1 = some 1 := by kernel_rfl
@[simp] theorem ft_207_1 : ft Tryz.prog 207 1 = some (86, 1) := by kernel_rfl
@[simp] theorem tk_208 : tk Tryz.prog 208 = some (true, 6) := by kernel_rfl
@[simp] theorem places_208 : places Tryz.prog 208 = some [(0, 1), (1, 5)] := by kernel_rfl
@[simp] theorem zvA_208 : zvA Tryz.prog 208 = some [AV.d (D.v (Value.int IntKind.i64 (0))), AV.d (D.v (Value.int IntKind.i64 (0))), AV.d (D.v (Value.int IntKind.i64 (0))), AV.d (D.v (Value.int IntKind.i64 (0))), AV.d (D.v (Value.slice none 0 0)), AV.d (D.v (Value.slice none 0 0))] := by kernel_rfl
@[simp] theorem ar_208 : ar Tryz.prog 208 = none := by kernel_rfl
@[simp] theorem fo_208_0 : fo Tryz.prog 208 0 = some 0 := by kernel_rfl
@[simp] theorem ft_208_0 : ft Tryz.prog 208 0 = some (3, 0) := by kernel_rfl
@[simp] theorem fo_208_1 : fo Tryz.prog 208 1 = some 1 := by kernel_rfl
@[simp] theorem ft_208_1 : ft Tryz.prog 208 1 = some (86, 1) := by kernel_rfl
@[simp] theorem tk_254 : tk Tryz.prog 254 = some (true, 4) := by kernel_rfl
@[simp] theorem places_254 : places Tryz.prog 254 = some [(0, 1), (1, 1), (2, 1), (3, 1)] := by kernel_rfl
@[simp] theorem zvA_254 : zvA Tryz.prog 254 = some [AV.d (D.v Value.nilFunc), AV.d (D.v (Value.slice none 0 0)), AV.d (D.v (Value.slice none 0 0)), AV.d (D.v (Value.slice none 0 0))] := by kernel_rfl
@[simp] theorem ar_254 : ar Tryz.prog 254 = none := by kernel_rfl
@[simp] theorem fo_254_0 : fo Tryz.prog 254 0 = some 0 := by kernel_rfl
@[simp] theorem ft_254_0 : ft Tryz.prog 254 0 = some (212, 0) := by kernel_rfl
@[simp] theorem fo_254_1 : fo Tryz.prog 254 1 = some 1 := by kernel_rfl
@[simp] theorem ft_254_1 : ft Tryz.prog 254 1 = some (43, 1) := by kernel_rfl
@[simp] theorem fo_254_2 : fo Tryz.prog 254 2 = some 2 := by kernel_rfl
@[simp] theorem ft_254_2 : ft Tryz.prog 254 2 = some (43, 2) := by kernel_rfl
@[simp] theorem fo_254_3 : fo Tryz.prog 254 3 = some 3 := by kernel_rfl
@[simp] theorem ft_254_3 : ft Tryz.prog 254 3 = some (43, 3) := by kernel_rfl
@[simp] theorem tk_255 : tk Tryz.prog 255 = some (true, 4) := by kernel_rfl
@[simp] theorem places_255 : places Tryz.prog 255 = some [(0, 1), (1, 1), (2, 1), (3, 1)] := by kernel_rfl
@[simp] theorem zvA_255 : zvA Tryz.prog 255 = some [AV.d (D.v Value.nilFunc), AV.d (D.v (Value.slice none 0 0)), AV.d (D.v (Value.slice none 0 0)), AV.d (D.v (Value.slice none 0 0))] := by kernel_rfl
@[simp] theorem ar_255 : ar Tryz.prog 255 = none := by kernel_rfl
@[simp] theorem fo_255_0 : fo Tryz.prog 255 0 = some 0 := by kernel_rfl
@[simp] theorem ft_255_0 : ft Tryz.prog 255 0 = some (212, 0) := by kernel_rfl
@[simp] theorem fo_255_1 : fo Tryz.prog 255 1 = some 1 := by kernel_rfl
@[simp] theorem ft_255_1 : ft Tryz.prog 255 1 = some (43, 1) := by kernel_rfl
@[simp] theorem fo_255_2 : fo Tryz.prog 255 2 = some 2 := by kernel_rfl
@[simp] theorem ft_255_2 : ft Tryz.prog 255 2 = some (43, 2) := by kernel_rfl
@[simp] theorem fo_255_3 : fo Tryz.prog 255 3 = some 3 := by kernel_rfl
@[simp] theorem ft_255_3 : ft Tryz.prog 255 3 = some (43, 3) := by kernel_rfl
@[simp] theorem tk_256 : tk Tryz.prog 256 = some (true, 8) := by kernel_rfl
@[simp] theorem places_256 : places Tryz.prog 256 = some [(0, 7), (7, 1)] := by kernel_rfl
@[simp] theorem zvA_256 : zvA Tryz.prog 256 = some [AV.d (D.v (Value.int IntKind.i64 (0))), AV.d (D.v (Value.int IntKind.i64 (0))), AV.d (D.v (Value.string { data := #[] })), AV.d (D.v (Value.slice none 0 0)), AV.d (D.v (Value.slice none 0 0)), AV.d (D.v (Value.slice none 0 0)), AV.d (D.v (Value.slice none 0 0)), AV.d (D.v (Value.bool false))] := by kernel_rfl
@[simp] theorem ar_256 : ar Tryz.prog 256 = none := by kernel_rfl
@[simp] theorem fo_256_0 : fo Tryz.prog 256 0 = some 0 := by kernel_rfl
@[simp] theorem ft_256_0 : ft Tryz.prog 256 0 = some (109, 0) := by kernel_rfl
@[simp] theorem fo_256_1 : fo Tryz.prog 256 1 = some 7 := by kernel_rfl
@[simp] theorem ft_256_1 : ft Tryz.prog 256 1 = some (4, 7) := by kernel_rfl
@[simp] theorem tk_257 : tk Tryz.prog 257 = some (true, 8) := by kernel_rfl
@[simp] theorem places_257 : places Tryz.prog 257 = some [(0, 7), (7, 1)] := by kernel_rfl
@[simp] theorem zvA_257 : zvA Tryz.prog 257 = some [AV.d (D.v (Value.int IntKind.i64 (0))), AV.d (D.v (Value.int IntKind.i64 (0))), AV.d (D.v (Value.string { data := #[] })), AV.d (D.v (Value.slice none 0 0)), AV.d (D.v (Value.slice none 0 0)), AV.d (D.v (Value.slice none 0 0)), AV.d (D.v (Value.slice none 0 0)), AV.d (D.v (Value.bool false))] := by kernel_rfl
@[simp] theorem ar_257 : ar Tryz.prog 257 = none := by kernel_rfl
@[simp] theorem fo_257_0 : fo Tryz.prog 257 0 = some 0 := by kernel_rfl
@[simp] theorem ft_257_0 : ft Tryz.prog 257 0 = some (109, 0) := by kernel_rfl
@[simp] theorem fo_257_1 : fo Tryz.prog 257 1 = some 7 := by kernel_rfl
@[simp] theorem ft_257_1 : ft Tryz.prog 257 1 = some (4, 7) := by kernel_rfl
@[simp] theorem tk_276 : tk Tryz.prog 276 = some (true, 2) := by kernel_rfl
@[simp] theorem places_276 : places Tryz.prog 276 = some [(0, 1), (1, 1)] := by kernel_rfl
@[simp] theorem zvA_276 : zvA Tryz.prog 276 = some [AV.d (D.v (Value.slice none 0 0)), AV.d (D.v (Value.slice none 0 0))] := by kernel_rfl
@[simp] theorem ar_276 : ar Tryz.prog 276 = none := by kernel_rfl
@[simp] theorem fo_276_0 : fo Tryz.prog 276 0 = some 0 := by kernel_rfl
@[simp] theorem ft_276_0 : ft Tryz.prog 276 0 = some (27, 0) := by kernel_rfl
@[simp] theorem fo_276_1 : fo Tryz.prog 276 1 = some 1 := by kernel_rfl
@[simp] theorem ft_276_1 : ft Tryz.prog 276 1 = some (27, 1) := by kernel_rfl
@[simp] theorem tk_277 : tk Tryz.prog 277 = some (true, 2) := by kernel_rfl
@[simp] theorem places_277 : places Tryz.prog 277 = some [(0, 1), (1, 1)] := by kernel_rfl
@[simp] theorem zvA_277 : zvA Tryz.prog 277 = some [AV.d (D.v (Value.slice none 0 0)), AV.d (D.v (Value.slice none 0 0))] := by kernel_rfl
@[simp] theorem ar_277 : ar Tryz.prog 277 = none := by kernel_rfl
@[simp] theorem fo_277_0 : fo Tryz.prog 277 0 = some 0 := by kernel_rfl
@[simp] theorem ft_277_0 : ft Tryz.prog 277 0 = some (27, 0) := by kernel_rfl
@[simp] theorem fo_277_1 : fo Tryz.prog 277 1 = some 1 := by kernel_rfl
@[simp] theorem ft_277_1 : ft Tryz.prog 277 1 = some (27, 1) := by kernel_rfl
@[simp] theorem tk_282 : tk Tryz.prog 282 = some (true, 2) := by kernel_rfl
@[simp] theorem places_282 : places Tryz.prog 282 = some [(0, 1), (1, 1)] := by kernel_rfl
@[simp] theorem zvA_282 : zvA Tryz.prog 282 = some [AV.d (D.v (Value.int IntKind.i64 (0))), AV.d (D.v (Value.int IntKind.i64 (0)))] := by kernel_rfl
@[simp] theorem ar_282 : ar Tryz.prog 282 = none := by kernel_rfl
@[simp] theorem fo_282_0 : fo Tryz.prog 282 0 = some 0 := by kernel_rfl
@[simp] theorem ft_282_0 : ft Tryz.prog 282 0 = some (3, 0) := by kernel_rfl
@[simp] theorem fo_282_1 : fo Tryz.prog 282 1 = some 1 := by kernel_rfl
@[simp] theorem ft_282_1 : ft Tryz.prog 282 1 = some (3, 1) := by kernel_rfl
@[simp] theorem tk_283 : tk Tryz.prog 283 = some (true, 2) := by kernel_rfl
@[simp] theorem places_283 : places Tryz.prog 283 = some [(0, 1), (1, 1)] := by kernel_rfl
@[simp] theorem zvA_283 : zvA Tryz.prog 283 = some [AV.d (D.v (Value.int IntKind.i64 (0))), AV.d (D.v (Value.int IntKind.i64 (0)))] := by kernel_rfl
@[simp] theorem ar_283 : ar Tryz.prog 283 = none := by kernel_rfl
@[simp] theorem fo_283_0 : fo Tryz.prog 283 0 = some 0 := by kernel_rfl
@[simp] theorem ft_283_0 : ft Tryz.prog 283 0 = some (3, 0) := by kernel_rfl
@[simp] theorem fo_283_1 : fo Tryz.prog 283 1 = some 1 := by kernel_rfl
@[simp] theorem ft_283_1 : ft Tryz.prog 283 1 = some (3, 1) := by kernel_rfl
@[simp] theorem tk_315 : tk Tryz.prog 315 = some (true, 3) := by kernel_rfl
@[simp] theorem places_315 : places Tryz.prog 315 = some [(0, 1), (1, 1), (2, 1)] := by kernel_rfl
@[simp] theorem zvA_315 : zvA Tryz.prog 315 = some [AV.d (D.v (Value.slice none 0 0)), AV.d (D.v (Value.slice none 0 0)), AV.d (D.v (Value.int IntKind.i64 (0)))] := by kernel_rfl
@[simp] theorem ar_315 : ar Tryz.prog 315 = none := by kernel_rfl
@[simp] theorem fo_315_0 : fo Tryz.prog 315 0 = some 0 := by kernel_rfl
@[simp] theorem ft_315_0 : ft Tryz.prog 315 0 = some (313, 0) := by kernel_rfl
@[simp] theorem fo_315_1 : fo Tryz.prog 315 1 = some 1 := by kernel_rfl
@[simp] theorem ft_315_1 : ft Tryz.prog 315 1 = some (314, 1) := by kernel_rfl
@[simp] theorem fo_315_2 : fo Tryz.prog 315 2 = some 2 := by kernel_rfl
@[simp] theorem ft_315_2 : ft Tryz.prog 315 2 = some (3, 2) := by kernel_rfl
@[simp] theorem tk_316 : tk Tryz.prog 316 = some (true, 3) := by kernel_rfl
@[simp] theorem places_316 : places Tryz.prog 316 = some [(0, 1), (1, 1), (2, 1)] := by kernel_rfl
@[simp] theorem zvA_316 : zvA Tryz.prog 316 = some [AV.d (D.v (Value.slice none 0 0)), AV.d (D.v (Value.slice none 0 0)), AV.d (D.v (Value.int IntKind.i64 (0)))] := by kernel_rfl
@[simp] theorem ar_316 : ar Tryz.prog 316 = none := by kernel_rfl
@[simp] theorem fo_316_0 : fo Tryz.prog 316 0 = some 0 := by kernel_rfl
@[simp] theorem ft_316_0 : ft Tryz.prog 316 0 = some (313, 0) := by kernel_rfl
@[simp] theorem fo_316_1 : fo Tryz.prog 316 1 = some 1 := by kernel_rfl
@[simp] theorem ft_316_1 : ft Tryz.prog 316 1 = some (314, 1) := by kernel_rfl
@[simp] theorem fo_316_2 : fo Tryz.prog 316 2 = some 2 := by kernel_rfl
@[simp] theorem ft_316_2 : ft Tryz.prog 316 2 = some (3, 2) := by kernel_rfl
@[simp] theorem tk_318 : tk Tryz.prog 318 = some (true, 3) := by kernel_rfl
@[simp] theorem places_318 : places Tryz.prog 318 = some [(0, 1), (1, 1), (2, 1)] := by kernel_rfl
@[simp] theorem zvA_318 : zvA Tryz.prog 318 = some [AV.d (D.v (Value.int IntKind.u16 (0))), AV.d (D.v (Value.int IntKind.u16 (0))), AV.d (D.v (Value.int IntKind.u16 (0)))] := by kernel_rfl
@[simp] theorem ar_318 : ar Tryz.prog 318 = none := by kernel_rfl
@[simp] theorem fo_318_0 : fo Tryz.prog 318 0 = some 0 := by kernel_rfl
@[simp] theorem ft_318_0 : ft Tryz.prog 318 0 = some (317, 0) := by kernel_rfl
@[simp] theorem fo_318_1 : fo Tryz.prog 318 1 = some 1 := by kernel_rfl
@[simp] theorem ft_318_1 : ft Tryz.prog 318 1 = some (317, 1) := by kernel_rfl
@[simp] theorem fo_318_2 : fo Tryz.prog 318 2 = some 2 := by kernel_rfl
@[simp] theorem ft_318_2 : ft Tryz.prog 318 2 = some (317, 2) := by kernel_rfl
@[simp] theorem tk_319 : tk Tryz.prog 319 = some (true, 3) := by kernel_rfl
@[simp] theorem places_319 : places Tryz.prog 319 = some [(0, 1), (1, 1), (2, 1)] := by kernel_rfl
@[simp] theorem zvA_319 : zvA Tryz.prog 319 = some [AV.d (D.v (Value.int IntKind.u16 (0))), AV.d (D.v (Value.int IntKind.u16 (0))), AV.d (D.v (Value.int IntKind.u16 (0)))] := by kernel_rfl
@[simp] theorem ar_319 : ar Tryz.prog 319 = none := by kernel_rfl
@[simp] theorem fo_319_0 : fo Tryz.prog 319 0 = some 0 := by kernel_rfl
@[simp] theorem ft_319_0 : ft Tryz.prog 319 0 = some (317, 0) := by kernel_rfl
@[simp] theorem fo_319_1 : fo Tryz.prog 319 1 = some 1 := by kernel_rfl
@[simp] theorem ft_319_1 : ft Tryz.prog 319 1 = some (317, 1) := by kernel_rfl
@[simp] theorem fo_319_2 : fo Tryz.prog 319 2 = some 2 := by kernel_rfl
@[simp] theorem ft_319_2 : ft Tryz.prog 319 2 = some (317, 2) := by kernel_rfl
@[simp] theorem tk_321 : tk Tryz.prog 321 = some (true, 3) := by kernel_rfl
@[simp] theorem places_321 : places Tryz.prog 321 = some [(0, 1), (1, 1), (2, 1)] := by kernel_rfl
@[simp] theorem zvA_321 : zvA Tryz.prog 321 = some [AV.d (D.v (Value.int IntKind.u32 (0))), AV.d (D.v (Value.int IntKind.u32 (0))), AV.d (D.v (Value.int IntKind.u32 (0)))] := by kernel_rfl
@[simp] theorem ar_321 : ar Tryz.prog 321 = none := by kernel_rfl
@[simp] theorem fo_321_0 : fo Tryz.prog 321 0 = some 0 := by kernel_rfl
@[simp] theorem ft_321_0 : ft Tryz.prog 321 0 = some (22, 0) := by kernel_rfl
@[simp] theorem fo_321_1 : fo Tryz.prog 321 1 = some 1 := by kernel_rfl
@[simp] theorem ft_321_1 : ft Tryz.prog 321 1 = some (22, 1) := by kernel_rfl
@[simp] theorem fo_321_2 : fo Tryz.prog 321 2 = some 2 := by kernel_rfl
@[simp] theorem ft_321_2 : ft Tryz.prog 321 2 = some (22, 2) := by kernel_rfl
@[simp] theorem tk_322 : tk Tryz.prog 322 = some (true, 3) := by kernel_rfl
@[simp] theorem places_322 : places Tryz.prog 322 = some [(0, 1), (1, 1), (2, 1)] := by kernel_rfl
@[simp] theorem zvA_322 : zvA Tryz.prog 322 = some [AV.d (D.v (Value.int IntKind.u32 (0))), AV.d (D.v (Value.int IntKind.u32 (0))), AV.d (D.v (Value.int IntKind.u32 (0)))] := by kernel_rfl
@[simp] theorem ar_322 : ar Tryz.prog 322 = none := by kernel_rfl
@[simp] theorem fo_322_0 : fo Tryz.prog 322 0 = some 0 := by kernel_rfl
@[simp] theorem ft_322_0 : ft Tryz.prog 322 0 = some (22, 0) := by kernel_rfl
@[simp] theorem fo_322_1 : fo Tryz.prog 322 1 = some 1 := by kernel_rfl
@[simp] theorem ft_322_1 : ft Tryz.prog 322 1 = some (22, 1) := by kernel_rfl
@[simp] theorem fo_322_2 : fo Tryz.prog 322 2 = some 2 := by kernel_rfl
@[simp] theorem ft_322_2 : ft Tryz.prog 322 2 = some (22, 2) := by kernel_rfl
@[simp] theorem tk_342 : tk Tryz.prog 342 = some (true, 4) := by kernel_rfl
@[simp] theorem places_342 : places Tryz.prog 342 = some [(0, 1), (1, 1), (2, 1), (3, 1)] := by kernel_rfl
@[simp] theorem zvA_342 : zvA Tryz.prog 342 = some [AV.d (D.v (Value.pointer none)), AV.d (D.v (Value.pointer none)), AV.d (D.v (Value.pointer none)), AV.d (D.v (Value.string { data := #[] }))] := by kernel_rfl
@[simp] theorem ar_342 : ar Tryz.prog 342 = none := by kernel_rfl
@[simp] theorem fo_342_0 : fo Tryz.prog 342 0 = some 0 := by kernel_rfl
@[simp] theorem ft_342_0 : ft Tryz.prog 342 0 = some (17, 0) := by kernel_rfl
@[simp] theorem fo_342_1 : fo Tryz.prog 342 1 = some 1 := by kernel_rfl
@[simp] theorem ft_342_1 : ft Tryz.prog 342 1 = some (17, 1) := by kernel_rfl
@[simp] theorem fo_342_2 : fo Tryz.prog 342 2 = some 2 := by kernel_rfl
@[simp] theorem ft_342_2 : ft Tryz.prog 342 2 = some (17, 2) := by kernel_rfl
@[simp] theorem fo_342_3 : fo Tryz.prog 342 3 = some 3 := by kernel_rfl
@[simp] theorem ft_342_3 : ft Tryz.prog 342 3 = some (9, 3) := by kernel_rfl
@[simp] theorem tk_343 : tk Tryz.prog 343 = some (true, 4) := by kernel_rfl
@[simp] theorem places_343 : places Tryz.prog 343 = some [(0, 1), (1, 1), (2, 1), (3, 1)] := by kernel_rfl
@[simp] theorem zvA_343 : zvA Tryz.prog 343 = some [AV.d (D.v (Value.pointer none)), AV.d (D.v (Value.pointer none)), AV.d (D.v (Value.pointer none)), AV.d (D.v (Value.string { data := #[] }))] := by kernel_rfl
@[simp] theorem ar_343 : ar Tryz.prog 343 = none := by kernel_rfl
@[simp] theorem fo_343_0 : fo Tryz.prog 343 0 = some 0 := by kernel_rfl
@[simp] theorem ft_343_0 : ft Tryz.prog 343 0 = some (17, 0) := by kernel_rfl
@[simp] theorem fo_343_1 : fo Tryz.prog 343 1 = some 1 := by kernel_rfl
@[simp] theorem ft_343_1 : ft Tryz.prog 343 1 = some (17, 1) := by kernel_rfl
@[simp] theorem fo_343_2 : fo Tryz.prog 343 2 = some 2 := by kernel_rfl
@[simp] theorem ft_343_2 : ft Tryz.prog 343 2 = some (17, 2) := by kernel_rfl
@[simp] theorem fo_343_3 : fo Tryz.prog 343 3 = some 3 := by kernel_rfl
@[simp] theorem ft_343_3 : ft Tryz.prog 343 3 = some (9, 3) := by kernel_rfl
@[simp] theorem tk_345 : tk Tryz.prog 345 = some (true, 0) := by kernel_rfl
@[simp] theorem places_345 : places Tryz.prog 345 = some [(0, 0)] := by kernel_rfl
@[simp] theorem zvA_345 : zvA Tryz.prog 345 = some [] := by kernel_rfl
@[simp] theorem ar_345 : ar Tryz.prog 345 = none := by kernel_rfl
@[simp] theorem ft_345_0 : ft Tryz.prog 345 0 = some (344, 0) := by kernel_rfl
@[simp] theorem tk_346 : tk Tryz.prog 346 = some (true, 0) := by kernel_rfl
@[simp] theorem places_346 : places Tryz.prog 346 = some [(0, 0)] := by kernel_rfl
@[simp] theorem zvA_346 : zvA Tryz.prog 346 = some [] := by kernel_rfl
@[simp] theorem ar_346 : ar Tryz.prog 346 = none := by kernel_rfl
@[simp] theorem ft_346_0 : ft Tryz.prog 346 0 = some (344, 0) := by kernel_rfl
@[simp] theorem tk_352 : tk Tryz.prog 352 = some (true, 11) := by kernel_rfl
@[simp] theorem places_352 : places Tryz.prog 352 = some [(0, 1), (1, 1), (2, 1), (3, 1), (4, 1), (5, 1), (6, 1), (7, 1), (8, 1), (9, 1), (10, 1)] := by kernel_rfl
@[simp] theorem zvA_352 : zvA Tryz.prog 352 = some [AV.d (D.v (Value.int IntKind.u64 (0))), AV.d (D.v (Value.int IntKind.u64 (0))), AV.d (D.v (Value.int IntKind.u32 (0))), AV.d (D.v (Value.int IntKind.u8 (0))), AV.d (D.v (Value.int IntKind.u8 (0))), AV.d (D.v (Value.int IntKind.u8 (0))), AV.d (D.v (Value.int IntKind.u8 (0))), AV.d (D.v Value.nilFunc), AV.d (D.v (Value.pointer none)), AV.d (D.v (Value.int IntKind.i32 (0))), AV.d (D.v (Value.int IntKind.i32 (0)))] := by kernel_rfl
@[simp] theorem ar_352 : ar Tryz.prog 352 = none := by kernel_rfl
@[simp] theorem fo_352_0 : fo Tryz.prog 352 0 = some 0 := by kernel_rfl
@[simp] theorem ft_352_0 : ft Tryz.prog 352 0 = some (12, 0) := by kernel_rfl
@[simp] theorem fo_352_1 : fo Tryz.prog 352 1 = some 1 := by kernel_rfl
@[simp] theorem ft_352_1 : ft Tryz.prog 352 1 = some (12, 1) := by kernel_rfl
@[simp] theorem fo_352_2 : fo Tryz.prog 352 2 = some 2 := by kernel_rfl
@[simp] theorem ft_352_2 : ft Tryz.prog 352 2 = some (22, 2) := by kernel_rfl
@[simp] theorem fo_352_3 : fo Tryz.prog 352 3 = some 3 := by kernel_rfl
@[simp] theorem ft_352_3 : ft Tryz.prog 352 3 = some (347, 3) := by kernel_rfl
@[simp] theorem fo_352_4 : fo Tryz.prog 352 4 = some 4 := by kernel_rfl
@[simp] theorem ft_352_4 : ft Tryz.prog 352 4 = some (5, 4) := by kernel_rfl
@[simp] theorem fo_352_5 : fo Tryz.prog 352 5 = some 5 := by kernel_rfl
@[simp] theorem ft_352_5 : ft Tryz.prog 352 5 = some (5, 5) := by kernel_rfl
@[simp] theorem fo_352_6 : fo Tryz.prog 352 6 = some 6 := by kernel_rfl
@[simp] theorem ft_352_6 : ft Tryz.prog 352 6 = some (348, 6) := by kernel_rfl
@[simp] theorem fo_352_7 : fo Tryz.prog 352 7 = some 7 := by kernel_rfl
@[simp] theorem ft_352_7 : ft Tryz.prog 352 7 = some (349, 7) := by kernel_rfl
@[simp] theorem fo_352_8 : fo Tryz.prog 352 8 = some 8 := by kernel_rfl
@[simp] theorem ft_352_8 : ft Tryz.prog 352 8 = some (240, 8) := by kernel_rfl
@[simp] theorem fo_352_9 : fo Tryz.prog 352 9 = some 9 := by kernel_rfl
@[simp] theorem ft_352_9 : ft Tryz.prog 352 9 = some (350, 9) := by kernel_rfl
@[simp] theorem fo_352_10 : fo Tryz.prog 352 10 = some 10 := by kernel_rfl
@[simp] theorem ft_352_10 : ft Tryz.prog 352 10 = some (351, 10) := by kernel_rfl
@[simp] theorem tk_353 : tk Tryz.prog 353 = some (true, 11) := by kernel_rfl
@[simp] theorem places_353 : places Tryz.prog 353 = some [(0, 1), (1, 1), (2, 1), (3, 1), (4, 1), (5, 1), (6, 1), (7, 1), (8, 1), (9, 1), (10, 1)] := by kernel_rfl
@[simp] theorem zvA_353 : zvA Tryz.prog 353 = some [AV.d (D.v (Value.int IntKind.u64 (0))), AV.d (D.v (Value.int IntKind.u64 (0))), AV.d (D.v (Value.int IntKind.u32 (0))), AV.d (D.v (Value.int IntKind.u8 (0))), AV.d (D.v (Value.int IntKind.u8 (0))), AV.d (D.v (Value.int IntKind.u8 (0))), AV.d (D.v (Value.int IntKind.u8 (0))), AV.d (D.v Value.nilFunc), AV.d (D.v (Value.pointer none)), AV.d (D.v (Value.int IntKind.i32 (0))), AV.d (D.v (Value.int IntKind.i32 (0)))] := by kernel_rfl
@[simp] theorem ar_353 : ar Tryz.prog 353 = none := by kernel_rfl
@[simp] theorem fo_353_0 : fo Tryz.prog 353 0 = some 0 := by kernel_rfl
@[simp] theorem ft_353_0 : ft Tryz.prog 353 0 = some (12, 0) := by kernel_rfl
@[simp] theorem fo_353_1 : fo Tryz.prog 353 1 = some 1 := by kernel_rfl
@[simp] theorem ft_353_1 : ft Tryz.prog 353 1 = some (12, 1) := by kernel_rfl
@[simp] theorem fo_353_2 : fo Tryz.prog 353 2 = some 2 := by kernel_rfl
@[simp] theorem ft_353_2 : ft Tryz.prog 353 2 = some (22, 2) := by kernel_rfl
@[simp] theorem fo_353_3 : fo Tryz.prog 353 3 = some 3 := by kernel_rfl
@[simp] theorem ft_353_3 : ft Tryz.prog 353 3 = some (347, 3) := by kernel_rfl
@[simp] theorem fo_353_4 : fo Tryz.prog 353 4 = some 4 := by kernel_rfl
@[simp] theorem ft_353_4 : ft Tryz.prog 353 4 = some (5, 4) := by kernel_rfl
@[simp] theorem fo_353_5 : fo Tryz.prog 353 5 = some 5 := by kernel_rfl
@[simp] theorem ft_353_5 : ft Tryz.prog 353 5 = some (5, 5) := by kernel_rfl
@[simp] theorem fo_353_6 : fo Tryz.prog 353 6 = some 6 := by kernel_rfl
@[simp] theorem ft_353_6 : ft Tryz.prog 353 6 = some (348, 6) := by kernel_rfl
@[simp] theorem fo_353_7 : fo Tryz.prog 353 7 = some 7 := by kernel_rfl
@[simp] theorem ft_353_7 : ft Tryz.prog 353 7 = some (349, 7) := by kernel_rfl
@[simp] theorem fo_353_8 : fo Tryz.prog 353 8 = some 8 := by kernel_rfl
@[simp] theorem ft_353_8 : ft Tryz.prog 353 8 = some (240, 8) := by kernel_rfl
@[simp] theorem fo_353_9 : fo Tryz.prog 353 9 = some 9 := by kernel_rfl
@[simp] theorem ft_353_9 : ft Tryz.prog 353 9 = some (350, 9) := by kernel_rfl
@[simp] theorem fo_353_10 : fo Tryz.prog 353 10 = some 10 := by kernel_rfl
@[simp] theorem ft_353_10 : ft Tryz.prog 353 10 = some (351, 10) := by kernel_rfl
@[simp] theorem tk_241 : tk Tryz.prog 241 = some (true, 256) := by kernel_rfl
@[simp] theorem places_241 : places Tryz.prog 241 = none := by kernel_rfl
@[simp] theorem ar_241 : ar Tryz.prog 241 = some (256, 5, 1) := by kernel_rfl
@[simp] theorem tk_271 : tk Tryz.prog 271 = some (true, 24) := by kernel_rfl
@[simp] theorem places_271 : places Tryz.prog 271 = none := by kernel_rfl
@[simp] theorem zvA_271 : zvA Tryz.prog 271 = some [AV.d (D.v (Value.int IntKind.u8 (0))), AV.d (D.v (Value.int IntKind.u8 (0))), AV.d (D.v (Value.int IntKind.u8 (0))), AV.d (D.v (Value.int IntKind.u8 (0))), AV.d (D.v (Value.int IntKind.u8 (0))), AV.d (D.v (Value.int IntKind.u8 (0))), AV.d (D.v (Value.int IntKind.u8 (0))), AV.d (D.v (Value.int IntKind.u8 (0))), AV.d (D.v (Value.int IntKind.u8 (0))), AV.d (D.v (Value.int IntKind.u8 (0))), AV.d (D.v (Value.int IntKind.u8 (0))), AV.d (D.v (Value.int IntKind.u8 (0))), AV.d (D.v (Value.int IntKind.u8 (0))), AV.d (D.v (Value.int IntKind.u8 (0))), AV.d (D.v (Value.int IntKind.u8 (0))), AV.d (D.v (Value.int IntKind.u8 (0))), AV.d (D.v (Value.int IntKind.u8 (0))), AV.d (D.v (Value.int IntKind.u8 (0))), AV.d (D.v (Value.int IntKind.u8 (0))), AV.d (D.v (Value.int IntKind.u8 (0))), AV.d (D.v (Value.int IntKind.u8 (0))), AV.d (D.v (Value.int IntKind.u8 (0))), AV.d (D.v (Value.int IntKind.u8 (0))), AV.d (D.v (Value.int IntKind.u8 (0)))] := by kernel_rfl
@[simp] theorem ar_271 : ar Tryz.prog 271 = some (24, 5, 1) := by kernel_rfl
@[simp] theorem tk_279 : tk Tryz.prog 279 = some (true, 13) := by kernel_rfl
@[simp] theorem places_279 : places Tryz.prog 279 = none := by kernel_rfl
@[simp] theorem zvA_279 : zvA Tryz.prog 279 = some [AV.d (D.v (Value.string { data := #[] })), AV.d (D.v (Value.string { data := #[] })), AV.d (D.v (Value.string { data := #[] })), AV.d (D.v (Value.string { data := #[] })), AV.d (D.v (Value.string { data := #[] })), AV.d (D.v (Value.string { data := #[] })), AV.d (D.v (Value.string { data := #[] })), AV.d (D.v (Value.string { data := #[] })), AV.d (D.v (Value.string { data := #[] })), AV.d (D.v (Value.string { data := #[] })), AV.d (D.v (Value.string { data := #[] })), AV.d (D.v (Value.string { data := #[] })), AV.d (D.v (Value.string { data := #[] }))] := by kernel_rfl
@[simp] theorem ar_279 : ar Tryz.prog 279 = some (13, 9, 1) := by kernel_rfl
@[simp] theorem tk_304 : tk Tryz.prog 304 = some (true, 20) := by kernel_rfl
@[simp] theorem places_304 : places Tryz.prog 304 = none := by kernel_rfl
@[simp] theorem zvA_304 : zvA Tryz.prog 304 = some [AV.d (D.v (Value.int IntKind.u64 (0))), AV.d (D.v (Value.int IntKind.u64 (0))), AV.d (D.v (Value.int IntKind.u64 (0))), AV.d (D.v (Value.int IntKind.u64 (0))), AV.d (D.v (Value.int IntKind.u64 (0))), AV.d (D.v (Value.int IntKind.u64 (0))), AV.d (D.v (Value.int IntKind.u64 (0))), AV.d (D.v (Value.int IntKind.u64 (0))), AV.d (D.v (Value.int IntKind.u64 (0))), AV.d (D.v (Value.int IntKind.u64 (0))), AV.d (D.v (Value.int IntKind.u64 (0))), AV.d (D.v (Value.int IntKind.u64 (0))), AV.d (D.v (Value.int IntKind.u64 (0))), AV.d (D.v (Value.int IntKind.u64 (0))), AV.d (D.v (Value.int IntKind.u64 (0))), AV.d (D.v (Value.int IntKind.u64 (0))), AV.d (D.v (Value.int IntKind.u64 (0))), AV.d (D.v (Value.int IntKind.u64 (0))), AV.d (D.v (Value.int IntKind.u64 (0))), AV.d (D.v (Value.int IntKind.u64 (0)))] := by kernel_rfl
@[simp] theorem ar_304 : ar Tryz.prog 304 = some (20, 233, 1) := by kernel_rfl
@[simp] theorem tk_305 : tk Tryz.prog 305 = some (true, 65) := by kernel_rfl
@[simp] theorem places_305 : places Tryz.prog 305 = none := by kernel_rfl
@[simp] theorem zvA_305 : zvA Tryz.prog 305 = some [AV.d (D.v (Value.int IntKind.u8 (0))), AV.d (D.v (Value.int IntKind.u8 (0))), AV.d (D.v (Value.int IntKind.u8 (0))), AV.d (D.v (Value.int IntKind.u8 (0))), AV.d (D.v (Value.int IntKind.u8 (0))), AV.d (D.v (Value.int IntKind.u8 (0))), AV.d (D.v (Value.int IntKind.u8 (0))), AV.d (D.v (Value.int IntKind.u8 (0))), AV.d (D.v (Value.int IntKind.u8 (0))), AV.d (D.v (Value.int IntKind.u8 (0))), AV.d (D.v (Value.int IntKind.u8 (0))), AV.d (D.v (Value.int IntKind.u8 (0))), AV.d (D.v (Value.int IntKind.u8 (0))), AV.d (D.v (Value.int IntKind.u8 (0))), AV.d (D.v (Value.int IntKind.u8 (0))), AV.d (D.v (Value.int IntKind.u8 (0))), AV.d (D.v (Value.int IntKind.u8 (0))), AV.d (D.v (Value.int IntKind.u8 (0))), AV.d (D.v (Value.int IntKind.u8 (0))), AV.d (D.v (Value.int IntKind.u8 (0))), AV.d (D.v (Value.int IntKind.u8 (0))), AV.d (D.v (Value.int IntKind.u8 (0))), AV.d (D.v (Value.int IntKind.u8 (0))), AV.d (D.v (Value.int IntKind.u8 (0))), AV.d (D.v (Value.int IntKind.u8 (0))), AV.d (D.v (Value.int IntKind.u8 (0))), AV.d (D.v (Value.int IntKind.u8 (0))), AV.d (D.v (Value.int IntKind.u8 (0))), AV.d (D.v (Value.int IntKind.u8 (0))), AV.d (D.v (Value.int IntKind.u8 (0))), AV.d (D.v (Value.int IntKind.u8 (0))), AV.d (D.v (Value.int IntKind.u8 (0))), AV.d (D.v (Value.int IntKind.u8 (0))), AV.d (D.v (Value.int IntKind.u8 (0))), AV.d (D.v (Value.int IntKind.u8 (0))), AV.d (D.v (Value.int IntKind.u8 (0))), AV.d (D.v (Value.int IntKind.u8 (0))), AV.d (D.v (Value.int IntKind.u8 (0))), AV.d (D.v (Value.int IntKind.u8 (0))), AV.d (D.v (Value.int IntKind.u8 (0))), AV.d (D.v (Value.int IntKind.u8 (0))), AV.d (D.v (Value.int IntKind.u8 (0))), AV.d (D.v (Value.int IntKind.u8 (0))), AV.d (D.v (Value.int IntKind.u8 (0))), AV.d (D.v (Value.int IntKind.u8 (0))), AV.d (D.v (Value.int IntKind.u8 (0))), AV.d (D.v (Value.int IntKind.u8 (0))), AV.d (D.v (Value.int IntKind.u8 (0))), AV.d (D.v (Value.int IntKind.u8 (0))), AV.d (D.v (Value.int IntKind.u8 (0))), AV.d (D.v (Value.int IntKind.u8 (0))), AV.d (D.v (Value.int IntKind.u8 (0))), AV.d (D.v (Value.int IntKind.u8 (0))), AV.d (D.v (Value.int IntKind.u8 (0))), AV.d (D.v (Value.int IntKind.u8 (0))), AV.d (D.v (Value.int IntKind.u8 (0))), AV.d (D.v (Value.int IntKind.u8 (0))), AV.d (D.v (Value.int IntKind.u8 (0))), AV.d (D.v (Value.int IntKind.u8 (0))), AV.d (D.v (Value.int IntKind.u8 (0))), AV.d (D.v (Value.int IntKind.u8 (0))), AV.d (D.v (Value.int IntKind.u8 (0))), AV.d (D.v (Value.int IntKind.u8 (0))), AV.d (D.v (Value.int IntKind.u8 (0))), AV.d (D.v (Value.int IntKind.u8 (0)))] := by kernel_rfl
@[simp] theorem ar_305 : ar Tryz.prog 305 = some (65, 5, 1) := by kernel_rfl
@[simp] theorem tk_337 : tk Tryz.prog 337 = some (true, 32) := by kernel_rfl
@[simp] theorem places_337 : places Tryz.prog 337 = none := by kernel_rfl
@[simp] theorem zvA_337 : zvA Tryz.prog 337 = some [AV.d (D.v (Value.int IntKind.u8 (0))), AV.d (D.v (Value.int IntKind.u8 (0))), AV.d (D.v (Value.int IntKind.u8 (0))), AV.d (D.v (Value.int IntKind.u8 (0))), AV.d (D.v (Value.int IntKind.u8 (0))), AV.d (D.v (Value.int IntKind.u8 (0))), AV.d (D.v (Value.int IntKind.u8 (0))), AV.d (D.v (Value.int IntKind.u8 (0))), AV.d (D.v (Value.int IntKind.u8 (0))), AV.d (D.v (Value.int IntKind.u8 (0))), AV.d (D.v (Value.int IntKind.u8 (0))), AV.d (D.v (Value.int IntKind.u8 (0))), AV.d (D.v (Value.int IntKind.u8 (0))), AV.d (D.v (Value.int IntKind.u8 (0))), AV.d (D.v (Value.int IntKind.u8 (0))), AV.d (D.v (Value.int IntKind.u8 (0))), AV.d (D.v (Value.int IntKind.u8 (0))), AV.d (D.v (Value.int IntKind.u8 (0))), AV.d (D.v (Value.int IntKind.u8 (0))), AV.d (D.v (Value.int IntKind.u8 (0))), AV.d (D.v (Value.int IntKind.u8 (0))), AV.d (D.v (Value.int IntKind.u8 (0))), AV.d (D.v (Value.int IntKind.u8 (0))), AV.d (D.v (Value.int IntKind.u8 (0))), AV.d (D.v (Value.int IntKind.u8 (0))), AV.d (D.v (Value.int IntKind.u8 (0))), AV.d (D.v (Value.int IntKind.u8 (0))), AV.d (D.v (Value.int IntKind.u8 (0))), AV.d (D.v (Value.int IntKind.u8 (0))), AV.d (D.v (Value.int IntKind.u8 (0))), AV.d (D.v (Value.int IntKind.u8 (0))), AV.d (D.v (Value.int IntKind.u8 (0)))] := by kernel_rfl
@[simp] theorem ar_337 : ar Tryz.prog 337 = some (32, 5, 1) := by kernel_rfl
@[simp] theorem tk_338 : tk Tryz.prog 338 = some (true, 64) := by kernel_rfl
@[simp] theorem places_338 : places Tryz.prog 338 = none := by kernel_rfl
@[simp] theorem zvA_338 : zvA Tryz.prog 338 = some [AV.d (D.v (Value.int IntKind.u8 (0))), AV.d (D.v (Value.int IntKind.u8 (0))), AV.d (D.v (Value.int IntKind.u8 (0))), AV.d (D.v (Value.int IntKind.u8 (0))), AV.d (D.v (Value.int IntKind.u8 (0))), AV.d (D.v (Value.int IntKind.u8 (0))), AV.d (D.v (Value.int IntKind.u8 (0))), AV.d (D.v (Value.int IntKind.u8 (0))), AV.d (D.v (Value.int IntKind.u8 (0))), AV.d (D.v (Value.int IntKind.u8 (0))), AV.d (D.v (Value.int IntKind.u8 (0))), AV.d (D.v (Value.int IntKind.u8 (0))), AV.d (D.v (Value.int IntKind.u8 (0))), AV.d (D.v (Value.int IntKind.u8 (0))), AV.d (D.v (Value.int IntKind.u8 (0))), AV.d (D.v (Value.int IntKind.u8 (0))), AV.d (D.v (Value.int IntKind.u8 (0))), AV.d (D.v (Value.int IntKind.u8 (0))), AV.d (D.v (Value.int IntKind.u8 (0))), AV.d (D.v (Value.int IntKind.u8 (0))), AV.d (D.v (Value.int IntKind.u8 (0))), AV.d (D.v (Value.int IntKind.u8 (0))), AV.d (D.v (Value.int IntKind.u8 (0))), AV.d (D.v (Value.int IntKind.u8 (0))), AV.d (D.v (Value.int IntKind.u8 (0))), AV.d (D.v (Value.int IntKind.u8 (0))), AV.d (D.v (Value.int IntKind.u8 (0))), AV.d (D.v (Value.int IntKind.u8 (0))), AV.d (D.v (Value.int IntKind.u8 (0))), AV.d (D.v (Value.int IntKind.u8 (0))), AV.d (D.v (Value.int IntKind.u8 (0))), AV.d (D.v (Value.int IntKind.u8 (0))), AV.d (D.v (Value.int IntKind.u8 (0))), AV.d (D.v (Value.int IntKind.u8 (0))), AV.d (D.v (Value.int IntKind.u8 (0))), AV.d (D.v (Value.int IntKind.u8 (0))), AV.d (D.v (Value.int IntKind.u8 (0))), AV.d (D.v (Value.int IntKind.u8 (0))), AV.d (D.v (Value.int IntKind.u8 (0))), AV.d (D.v (Value.int IntKind.u8 (0))), AV.d (D.v (Value.int IntKind.u8 (0))), AV.d (D.v (Value.int IntKind.u8 (0))), AV.d (D.v (Value.int IntKind.u8 (0))), AV.d (D.v (Value.int IntKind.u8 (0))), AV.d (D.v (Value.int IntKind.u8 (0))), AV.d (D.v (Value.int IntKind.u8 (0))), AV.d (D.v (Value.int IntKind.u8 (0))), AV.d (D.v (Value.int IntKind.u8 (0))), AV.d (D.v (Value.int IntKind.u8 (0))), AV.d (D.v (Value.int IntKind.u8 (0))), AV.d (D.v (Value.int IntKind.u8 (0))), AV.d (D.v (Value.int IntKind.u8 (0))), AV.d (D.v (Value.int IntKind.u8 (0))), AV.d (D.v (Value.int IntKind.u8 (0))), AV.d (D.v (Value.int IntKind.u8 (0))), AV.d (D.v (Value.int IntKind.u8 (0))), AV.d (D.v (Value.int IntKind.u8 (0))), AV.d (D.v (Value.int IntKind.u8 (0))), AV.d (D.v (Value.int IntKind.u8 (0))), AV.d (D.v (Value.int IntKind.u8 (0))), AV.d (D.v (Value.int IntKind.u8 (0))), AV.d (D.v (Value.int IntKind.u8 (0))), AV.d (D.v (Value.int IntKind.u8 (0))), AV.d (D.v (Value.int IntKind.u8 (0)))] := by kernel_rfl
@[simp] theorem ar_338 : ar Tryz.prog 338 = some (64, 5, 1) := by kernel_rfl
@[simp] theorem tk_344 : tk Tryz.prog 344 = some (true, 0) := by kernel_rfl
@[simp] theorem places_344 : places Tryz.prog 344 = none := by kernel_rfl
@[simp] theorem zvA_344 : zvA Tryz.prog 344 = some [] := by kernel_rfl
@[simp] theorem ar_344 : ar Tryz.prog 344 = some (0, 16, 1) := by kernel_rfl
@[simp] theorem tk_23 : tk Tryz.prog 23 = some (false, 1) := by kernel_rfl
@[simp] theorem sl_23 : sl Tryz.prog 23 = some (69, 2) := by kernel_rfl
@[simp] theorem zvA_23 : zvA Tryz.prog 23 = some [AV.d (D.v (Value.slice none 0 0))] := by kernel_rfl
@[simp] theorem byt_23 : byt Tryz.prog 23 = some (69, 2, 32) := by kernel_rfl
@[simp] theorem tk_26 : tk Tryz.prog 26 = some (false, 1) := by kernel_rfl
@[simp] theorem sl_26 : sl Tryz.prog 26 = some (71, 1) := by kernel_rfl
@[simp] theorem zvA_26 : zvA Tryz.prog 26 = some [AV.d (D.v (Value.slice none 0 0))] := by kernel_rfl
@[simp] theorem byt_26 : byt Tryz.prog 26 = some (71, 1, 24) := by kernel_rfl
@[simp] theorem tk_27 : tk Tryz.prog 27 = some (false, 1) := by kernel_rfl
@[simp] theorem sl_27 : sl Tryz.prog 27 = some (3, 1) := by kernel_rfl
@[simp] theorem zvA_27 : zvA Tryz.prog 27 = some [AV.d (D.v (Value.slice none 0 0))] := by kernel_rfl
@[simp] theorem byt_27 : byt Tryz.prog 27 = some (3, 1, 8) := by kernel_rfl
@[simp] theorem tk_32 : tk Tryz.prog 32 = some (false, 1) := by kernel_rfl
@[simp] theorem sl_32 : sl Tryz.prog 32 = some (88, 10) := by kernel_rfl
@[simp] theorem zvA_32 : zvA Tryz.prog 32 = some [AV.d (D.v (Value.slice none 0 0))] := by kernel_rfl
@[simp] theorem byt_32 : byt Tryz.prog 32 = some (88, 10, 112) := by kernel_rfl
@[simp] theorem tk_36 : tk Tryz.prog 36 = some (false, 1) := by kernel_rfl
@[simp] theorem sl_36 : sl Tryz.prog 36 = some (102, 10) := by kernel_rfl
@[simp] theorem zvA_36 : zvA Tryz.prog 36 = some [AV.d (D.v (Value.slice none 0 0))] := by kernel_rfl
@[simp] theorem byt_36 : byt Tryz.prog 36 = some (102, 10, 112) := by kernel_rfl
@[simp] theorem tk_40 : tk Tryz.prog 40 = some (false, 1) := by kernel_rfl
@[simp] theorem sl_40 : sl Tryz.prog 40 = some (42, 5) := by kernel_rfl
@[simp] theorem zvA_40 : zvA Tryz.prog 40 = some [AV.d (D.v (Value.slice none 0 0))] := by kernel_rfl
@[simp] theorem byt_40 : byt Tryz.prog 40 = some (42, 5, 56) := by kernel_rfl
@[simp] theorem tk_43 : tk Tryz.prog 43 = some (false, 1) := by kernel_rfl
@[simp] theorem sl_43 : sl Tryz.prog 43 = some (9, 1) := by kernel_rfl
@[simp] theorem zvA_43 : zvA Tryz.prog 43 = some [AV.d (D.v (Value.slice none 0 0))] := by kernel_rfl
@[simp] theorem byt_43 : byt Tryz.prog 43 = some (9, 1, 16) := by kernel_rfl
@[simp] theorem tk_45 : tk Tryz.prog 45 = some (false, 1) := by kernel_rfl
@[simp] theorem sl_45 : sl Tryz.prog 45 = some (47, 5) := by kernel_rfl
@[simp] theorem zvA_45 : zvA Tryz.prog 45 = some [AV.d (D.v (Value.slice none 0 0))] := by kernel_rfl
@[simp] theorem byt_45 : byt Tryz.prog 45 = some (47, 5, 64) := by kernel_rfl
@[simp] theorem tk_54 : tk Tryz.prog 54 = some (false, 1) := by kernel_rfl
@[simp] theorem sl_54 : sl Tryz.prog 54 = some (56, 5) := by kernel_rfl
@[simp] theorem zvA_54 : zvA Tryz.prog 54 = some [AV.d (D.v (Value.slice none 0 0))] := by kernel_rfl
@[simp] theorem byt_54 : byt Tryz.prog 54 = some (56, 5, 72) := by kernel_rfl
@[simp] theorem tk_57 : tk Tryz.prog 57 = some (false, 1) := by kernel_rfl
@[simp] theorem sl_57 : sl Tryz.prog 57 = some (22, 1) := by kernel_rfl
@[simp] theorem zvA_57 : zvA Tryz.prog 57 = some [AV.d (D.v (Value.slice none 0 0))] := by kernel_rfl
@[simp] theorem byt_57 : byt Tryz.prog 57 = some (22, 1, 4) := by kernel_rfl
@[simp] theorem tk_59 : tk Tryz.prog 59 = some (false, 1) := by kernel_rfl
@[simp] theorem sl_59 : sl Tryz.prog 59 = some (106, 6) := by kernel_rfl
@[simp] theorem zvA_59 : zvA Tryz.prog 59 = some [AV.d (D.v (Value.slice none 0 0))] := by kernel_rfl
@[simp] theorem byt_59 : byt Tryz.prog 59 = some (106, 6, 88) := by kernel_rfl
@[simp] theorem tk_60 : tk Tryz.prog 60 = some (false, 1) := by kernel_rfl
@[simp] theorem sl_60 : sl Tryz.prog 60 = some (109, 7) := by kernel_rfl
@[simp] theorem zvA_60 : zvA Tryz.prog 60 = some [AV.d (D.v (Value.slice none 0 0))] := by kernel_rfl
@[simp] theorem byt_60 : byt Tryz.prog 60 = some (109, 7, 128) := by kernel_rfl
@[simp] theorem tk_67 : tk Tryz.prog 67 = some (false, 1) := by kernel_rfl
@[simp] theorem sl_67 : sl Tryz.prog 67 = some (81, 8) := by kernel_rfl
@[simp] theorem zvA_67 : zvA Tryz.prog 67 = some [AV.d (D.v (Value.slice none 0 0))] := by kernel_rfl
@[simp] theorem byt_67 : byt Tryz.prog 67 = some (81, 8, 96) := by kernel_rfl
@[simp] theorem tk_71 : tk Tryz.prog 71 = some (false, 1) := by kernel_rfl
@[simp] theorem sl_71 : sl Tryz.prog 71 = some (73, 2) := by kernel_rfl
@[simp] theorem zvA_71 : zvA Tryz.prog 71 = some [AV.d (D.v (Value.slice none 0 0))] := by kernel_rfl
@[simp] theorem byt_71 : byt Tryz.prog 71 = some (73, 2, 32) := by kernel_rfl
@[simp] theorem tk_83 : tk Tryz.prog 83 = some (false, 1) := by kernel_rfl
@[simp] theorem sl_83 : sl Tryz.prog 83 = some (86, 5) := by kernel_rfl
@[simp] theorem zvA_83 : zvA Tryz.prog 83 = some [AV.d (D.v (Value.slice none 0 0))] := by kernel_rfl
@[simp] theorem byt_83 : byt Tryz.prog 83 = some (86, 5, 72) := by kernel_rfl
@[simp] theorem tk_84 : tk Tryz.prog 84 = some (false, 1) := by kernel_rfl
@[simp] theorem sl_84 : sl Tryz.prog 84 = some (208, 6) := by kernel_rfl
@[simp] theorem zvA_84 : zvA Tryz.prog 84 = some [AV.d (D.v (Value.slice none 0 0))] := by kernel_rfl
@[simp] theorem byt_84 : byt Tryz.prog 84 = some (208, 6, 80) := by kernel_rfl
@[simp] theorem tk_107 : tk Tryz.prog 107 = some (false, 1) := by kernel_rfl
@[simp] theorem sl_107 : sl Tryz.prog 107 = some (60, 1) := by kernel_rfl
@[simp] theorem zvA_107 : zvA Tryz.prog 107 = some [AV.d (D.v (Value.slice none 0 0))] := by kernel_rfl
@[simp] theorem byt_107 : byt Tryz.prog 107 = some (60, 1, 24) := by kernel_rfl
@[simp] theorem tk_110 : tk Tryz.prog 110 = some (false, 1) := by kernel_rfl
@[simp] theorem sl_110 : sl Tryz.prog 110 = some (155, 5) := by kernel_rfl
@[simp] theorem zvA_110 : zvA Tryz.prog 110 = some [AV.d (D.v (Value.slice none 0 0))] := by kernel_rfl
@[simp] theorem byt_110 : byt Tryz.prog 110 = some (155, 5, 56) := by kernel_rfl
@[simp] theorem tk_111 : tk Tryz.prog 111 = some (false, 1) := by kernel_rfl
@[simp] theorem sl_111 : sl Tryz.prog 111 = some (62, 3) := by kernel_rfl
@[simp] theorem zvA_111 : zvA Tryz.prog 111 = some [AV.d (D.v (Value.slice none 0 0))] := by kernel_rfl
@[simp] theorem byt_111 : byt Tryz.prog 111 = some (62, 3, 64) := by kernel_rfl
@[simp] theorem tk_153 : tk Tryz.prog 153 = some (false, 1) := by kernel_rfl
@[simp] theorem sl_153 : sl Tryz.prog 153 = some (5, 1) := by kernel_rfl
@[simp] theorem zvA_153 : zvA Tryz.prog 153 = some [AV.d (D.v (Value.slice none 0 0))] := by kernel_rfl
@[simp] theorem byt_153 : byt Tryz.prog 153 = some (5, 1, 1) := by kernel_rfl
@[simp] theorem tk_225 : tk Tryz.prog 225 = some (false, 1) := by kernel_rfl
@[simp] theorem sl_225 : sl Tryz.prog 225 = some (4, 1) := by kernel_rfl
@[simp] theorem zvA_225 : zvA Tryz.prog 225 = some [AV.d (D.v (Value.slice none 0 0))] := by kernel_rfl
@[simp] theorem byt_225 : byt Tryz.prog 225 = some (4, 1, 1) := by kernel_rfl
@[simp] theorem tk_250 : tk Tryz.prog 250 = some (false, 1) := by kernel_rfl
@[simp] theorem sl_250 : sl Tryz.prog 250 = some (257, 8) := by kernel_rfl
@[simp] theorem zvA_250 : zvA Tryz.prog 250 = some [AV.d (D.v (Value.slice none 0 0))] := by kernel_rfl
@[simp] theorem byt_250 : byt Tryz.prog 250 = some (257, 8, 136) := by kernel_rfl
@[simp] theorem tk_281 : tk Tryz.prog 281 = some (false, 1) := by kernel_rfl
@[simp] theorem sl_281 : sl Tryz.prog 281 = some (283, 2) := by kernel_rfl
@[simp] theorem zvA_281 : zvA Tryz.prog 281 = some [AV.d (D.v (Value.slice none 0 0))] := by kernel_rfl
@[simp] theorem byt_281 : byt Tryz.prog 281 = some (283, 2, 16) := by kernel_rfl
@[simp] theorem tk_291 : tk Tryz.prog 291 = some (false, 1) := by kernel_rfl
@[simp] theorem sl_291 : sl Tryz.prog 291 = some (59, 1) := by kernel_rfl
@[simp] theorem zvA_291 : zvA Tryz.prog 291 = some [AV.d (D.v (Value.slice none 0 0))] := by kernel_rfl
@[simp] theorem byt_291 : byt Tryz.prog 291 = some (59, 1, 24) := by kernel_rfl
@[simp] theorem tk_307 : tk Tryz.prog 307 = some (false, 1) := by kernel_rfl
@[simp] theorem sl_307 : sl Tryz.prog 307 = some (27, 1) := by kernel_rfl
@[simp] theorem zvA_307 : zvA Tryz.prog 307 = some [AV.d (D.v (Value.slice none 0 0))] := by kernel_rfl
@[simp] theorem byt_307 : byt Tryz.prog 307 = some (27, 1, 24) := by kernel_rfl
@[simp] theorem tk_313 : tk Tryz.prog 313 = some (false, 1) := by kernel_rfl
@[simp] theorem sl_313 : sl Tryz.prog 313 = some (319, 3) := by kernel_rfl
@[simp] theorem zvA_313 : zvA Tryz.prog 313 = some [AV.d (D.v (Value.slice none 0 0))] := by kernel_rfl
@[simp] theorem byt_313 : byt Tryz.prog 313 = some (319, 3, 6) := by kernel_rfl
@[simp] theorem tk_314 : tk Tryz.prog 314 = some (false, 1) := by kernel_rfl
@[simp] theorem sl_314 : sl Tryz.prog 314 = some (322, 3) := by kernel_rfl
@[simp] theorem zvA_314 : zvA Tryz.prog 314 = some [AV.d (D.v (Value.slice none 0 0))] := by kernel_rfl
@[simp] theorem byt_314 : byt Tryz.prog 314 = some (322, 3, 12) := by kernel_rfl
@[simp] theorem tk_335 : tk Tryz.prog 335 = some (false, 1) := by kernel_rfl
@[simp] theorem sl_335 : sl Tryz.prog 335 = some (107, 1) := by kernel_rfl
@[simp] theorem zvA_335 : zvA Tryz.prog 335 = some [AV.d (D.v (Value.slice none 0 0))] := by kernel_rfl
@[simp] theorem byt_335 : byt Tryz.prog 335 = some (107, 1, 24) := by kernel_rfl
@[simp] theorem tk_2 : tk Tryz.prog 2 = some (false, 1) := by kernel_rfl
@[simp] theorem isInt_2 : isInt Tryz.prog 2 = some IntKind.i64 := by kernel_rfl
@[simp] theorem isStr_2 : isStr Tryz.prog 2 = false := by kernel_rfl
@[simp] theorem zvA_2 : zvA Tryz.prog 2 = some [AV.d (D.v (Value.int IntKind.i64 (0)))] := by kernel_rfl
@[simp] theorem tk_3 : tk Tryz.prog 3 = some (false, 1) := by kernel_rfl
@[simp] theorem isInt_3 : isInt Tryz.prog 3 = some IntKind.i64 := by kernel_rfl
@[simp] theorem isStr_3 : isStr Tryz.prog 3 = false := by kernel_rfl
@[simp] theorem zvA_3 : zvA Tryz.prog 3 = some [AV.d (D.v (Value.int IntKind.i64 (0)))] := by kernel_rfl
@[simp] theorem tk_4 : tk Tryz.prog 4 = some (false, 1) := by kernel_rfl
@[simp] theorem isInt_4 : isInt Tryz.prog 4 = none := by kernel_rfl
@[simp] theorem isStr_4 : isStr Tryz.prog 4 = false := by kernel_rfl
@[simp] theorem zvA_4 : zvA Tryz.prog 4 = some [AV.d (D.v (Value.bool false))] := by kernel_rfl
@[simp] theorem tk_5 : tk Tryz.prog 5 = some (false, 1) := by kernel_rfl
@[simp] theorem isInt_5 : isInt Tryz.prog 5 = some IntKind.u8 := by kernel_rfl
@[simp] theorem isStr_5 : isStr Tryz.prog 5 = false := by kernel_rfl
@[simp] theorem zvA_5 : zvA Tryz.prog 5 = some [AV.d (D.v (Value.int IntKind.u8 (0)))] := by kernel_rfl
@[simp] theorem tk_6 : tk Tryz.prog 6 = some (false, 1) := by kernel_rfl
@[simp] theorem isInt_6 : isInt Tryz.prog 6 = some IntKind.u8 := by kernel_rfl
@[simp] theorem isStr_6 : isStr Tryz.prog 6 = false := by kernel_rfl
@[simp] theorem zvA_6 : zvA Tryz.prog 6 = some [AV.d (D.v (Value.int IntKind.u8 (0)))] := by kernel_rfl
@[simp] theorem tk_9 : tk Tryz.prog 9 = some (false, 1) := by kernel_rfl
@[simp] theorem isInt_9 : isInt Tryz.prog 9 = none := by kernel_rfl
@[simp] theorem isStr_9 : isStr Tryz.prog 9 = true := by kernel_rfl
@[simp] theorem zvA_9 : zvA Tryz.prog 9 = some [AV.d (D.v (Value.string { data := #[] }))] := by kernel_rfl
@[simp] theorem tk_10 : tk Tryz.prog 10 = some (false, 1) := by kernel_rfl
@[simp] theorem isInt_10 : isInt Tryz.prog 10 = none := by kernel_rfl
@[simp] theorem isStr_10 : isStr Tryz.prog 10 = true := by kernel_rfl
@[simp] theorem zvA_10 : zvA Tryz.prog 10 = some [AV.d (D.v (Value.string { data := #[] }))] := by kernel_rfl
@[simp] theorem tk_11 : tk Tryz.prog 11 = some (false, 1) := by kernel_rfl
@[simp] theorem isInt_11 : isInt Tryz.prog 11 = none := by kernel_rfl
@[simp] theorem isStr_11 : isStr Tryz.prog 11 = true := by kernel_rfl
@[simp] theorem zvA_11 : zvA Tryz.prog 11 = some [AV.d (D.v (Value.string { data := #[] }))] := by kernel_rfl
@[simp] theorem tk_12 : tk Tryz.prog 12 = some (false, 1) := by kernel_rfl
@[simp] theorem isInt_12 : isInt Tryz.prog 12 = some IntKind.u64 := by kernel_rfl
@[simp] theorem isStr_12 : isStr Tryz.prog 12 = false := by kernel_rfl
@[simp] theorem zvA_12 : zvA Tryz.prog 12 = some [AV.d (D.v (Value.int IntKind.u64 (0)))] := by kernel_rfl
@[simp] theorem tk_21 : tk Tryz.prog 21 = some (false, 1) := by kernel_rfl
@[simp] theorem isInt_21 : isInt Tryz.prog 21 = some IntKind.i32 := by kernel_rfl
@[simp] theorem isStr_21 : isStr Tryz.prog 21 = false := by kernel_rfl
@[simp] theorem zvA_21 : zvA Tryz.prog 21 = some [AV.d (D.v (Value.int IntKind.i32 (0)))] := by kernel_rfl
@[simp] theorem tk_22 : tk Tryz.prog 22 = some (false, 1) := by kernel_rfl
@[simp] theorem isInt_22 : isInt Tryz.prog 22 = some IntKind.u32 := by kernel_rfl
@[simp] theorem isStr_22 : isStr Tryz.prog 22 = false := by kernel_rfl
@[simp] theorem zvA_22 : zvA Tryz.prog 22 = some [AV.d (D.v (Value.int IntKind.u32 (0)))] := by kernel_rfl
@[simp] theorem tk_33 : tk Tryz.prog 33 = some (false, 1) := by kernel_rfl
@[simp] theorem isInt_33 : isInt Tryz.prog 33 = some IntKind.i64 := by kernel_rfl
@[simp] theorem isStr_33 : isStr Tryz.prog 33 = false := by kernel_rfl
@[simp] theorem zvA_33 : zvA Tryz.prog 33 = some [AV.d (D.v (Value.int IntKind.i64 (0)))] := by kernel_rfl
@[simp] theorem tk_222 : tk Tryz.prog 222 = some (false, 1) := by kernel_rfl
@[simp] theorem isInt_222 : isInt Tryz.prog 222 = some IntKind.u64 := by kernel_rfl
@[simp] theorem isStr_222 : isStr Tryz.prog 222 = false := by kernel_rfl
@[simp] theorem zvA_222 : zvA Tryz.prog 222 = some [AV.d (D.v (Value.int IntKind.u64 (0)))] := by kernel_rfl
@[simp] theorem tk_233 : tk Tryz.prog 233 = some (false, 1) := by kernel_rfl
@[simp] theorem isInt_233 : isInt Tryz.prog 233 = some IntKind.u64 := by kernel_rfl
@[simp] theorem isStr_233 : isStr Tryz.prog 233 = false := by kernel_rfl
@[simp] theorem zvA_233 : zvA Tryz.prog 233 = some [AV.d (D.v (Value.int IntKind.u64 (0)))] := by kernel_rfl
@[simp] theorem tk_261 : tk Tryz.prog 261 = some (false, 1) := by kernel_rfl
@[simp] theorem isInt_261 : isInt Tryz.prog 261 = some IntKind.i64 := by kernel_rfl
@[simp] theorem isStr_261 : isStr Tryz.prog 261 = false := by kernel_rfl
@[simp] theorem zvA_261 : zvA Tryz.prog 261 = some [AV.d (D.v (Value.int IntKind.i64 (0)))] := by kernel_rfl
@[simp] theorem tk_297 : tk Tryz.prog 297 = some (false, 1) := by kernel_rfl
@[simp] theorem isInt_297 : isInt Tryz.prog 297 = some IntKind.u64 := by kernel_rfl
@[simp] theorem isStr_297 : isStr Tryz.prog 297 = false := by kernel_rfl
@[simp] theorem zvA_297 : zvA Tryz.prog 297 = some [AV.d (D.v (Value.int IntKind.u64 (0)))] := by kernel_rfl
@[simp] theorem tk_311 : tk Tryz.prog 311 = some (false, 1) := by kernel_rfl
@[simp] theorem isInt_311 : isInt Tryz.prog 311 = none := by kernel_rfl
@[simp] theorem isStr_311 : isStr Tryz.prog 311 = false := by kernel_rfl
@[simp] theorem zvA_311 : zvA Tryz.prog 311 = some [AV.d (D.v (Value.pointer none))] := by kernel_rfl
@[simp] theorem tk_317 : tk Tryz.prog 317 = some (false, 1) := by kernel_rfl
@[simp] theorem isInt_317 : isInt Tryz.prog 317 = some IntKind.u16 := by kernel_rfl
@[simp] theorem isStr_317 : isStr Tryz.prog 317 = false := by kernel_rfl
@[simp] theorem zvA_317 : zvA Tryz.prog 317 = some [AV.d (D.v (Value.int IntKind.u16 (0)))] := by kernel_rfl
@[simp] theorem tk_347 : tk Tryz.prog 347 = some (false, 1) := by kernel_rfl
@[simp] theorem isInt_347 : isInt Tryz.prog 347 = some IntKind.u8 := by kernel_rfl
@[simp] theorem isStr_347 : isStr Tryz.prog 347 = false := by kernel_rfl
@[simp] theorem zvA_347 : zvA Tryz.prog 347 = some [AV.d (D.v (Value.int IntKind.u8 (0)))] := by kernel_rfl
@[simp] theorem tk_348 : tk Tryz.prog 348 = some (false, 1) := by kernel_rfl
@[simp] theorem isInt_348 : isInt Tryz.prog 348 = some IntKind.u8 := by kernel_rfl
@[simp] theorem isStr_348 : isStr Tryz.prog 348 = false := by kernel_rfl
@[simp] theorem zvA_348 : zvA Tryz.prog 348 = some [AV.d (D.v (Value.int IntKind.u8 (0)))] := by kernel_rfl
@[simp] theorem tk_350 : tk Tryz.prog 350 = some (false, 1) := by kernel_rfl
@[simp] theorem isInt_350 : isInt Tryz.prog 350 = some IntKind.i32 := by kernel_rfl
@[simp] theorem isStr_350 : isStr Tryz.prog 350 = false := by kernel_rfl
@[simp] theorem zvA_350 : zvA Tryz.prog 350 = some [AV.d (D.v (Value.int IntKind.i32 (0)))] := by kernel_rfl
@[simp] theorem tk_351 : tk Tryz.prog 351 = some (false, 1) := by kernel_rfl
@[simp] theorem isInt_351 : isInt Tryz.prog 351 = some IntKind.i32 := by kernel_rfl
@[simp] theorem isStr_351 : isStr Tryz.prog 351 = false := by kernel_rfl
@[simp] theorem zvA_351 : zvA Tryz.prog 351 = some [AV.d (D.v (Value.int IntKind.i32 (0)))] := by kernel_rfl
@[simp] theorem tk_1 : tk Tryz.prog 1 = some (false, 1) := by kernel_rfl
@[simp] theorem zvA_1 : zvA Tryz.prog 1 = some [AV.d (D.v Value.nilFunc)] := by kernel_rfl
@[simp] theorem tk_15 : tk Tryz.prog 15 = some (false, 1) := by kernel_rfl
@[simp] theorem zvA_15 : zvA Tryz.prog 15 = some [AV.d (D.v (Value.pointer none))] := by kernel_rfl
@[simp] theorem tk_16 : tk Tryz.prog 16 = some (false, 1) := by kernel_rfl
@[simp] theorem zvA_16 : zvA Tryz.prog 16 = some [AV.d (D.v (Value.pointer none))] := by kernel_rfl
@[simp] theorem tk_17 : tk Tryz.prog 17 = some (false, 1) := by kernel_rfl
@[simp] theorem zvA_17 : zvA Tryz.prog 17 = some [AV.d (D.v (Value.pointer none))] := by kernel_rfl
@[simp] theorem tk_20 : tk Tryz.prog 20 = some (false, 1) := by kernel_rfl
@[simp] theorem zvA_20 : zvA Tryz.prog 20 = some [AV.d (D.v Value.nilIface)] := by kernel_rfl
@[simp] theorem tk_30 : tk Tryz.prog 30 = some (false, 1) := by kernel_rfl
@[simp] theorem zvA_30 : zvA Tryz.prog 30 = some [AV.d (D.v Value.nilFunc)] := by kernel_rfl
@[simp] theorem tk_31 : tk Tryz.prog 31 = some (false, 1) := by kernel_rfl
@[simp] theorem zvA_31 : zvA Tryz.prog 31 = some [AV.d (D.v Value.nilFunc)] := by kernel_rfl
@[simp] theorem tk_35 : tk Tryz.prog 35 = some (false, 1) := by kernel_rfl
@[simp] theorem zvA_35 : zvA Tryz.prog 35 = some [AV.d (D.v Value.nilFunc)] := by kernel_rfl
@[simp] theorem tk_38 : tk Tryz.prog 38 = some (false, 1) := by kernel_rfl
@[simp] theorem zvA_38 : zvA Tryz.prog 38 = some [AV.d (D.v Value.nilFunc)] := by kernel_rfl
@[simp] theorem tk_39 : tk Tryz.prog 39 = some (false, 1) := by kernel_rfl
@[simp] theorem zvA_39 : zvA Tryz.prog 39 = some [AV.d (D.v Value.nilFunc)] := by kernel_rfl
@[simp] theorem tk_44 : tk Tryz.prog 44 = some (false, 1) := by kernel_rfl
@[simp] theorem zvA_44 : zvA Tryz.prog 44 = some [AV.d (D.v Value.nilFunc)] := by kernel_rfl
@[simp] theorem tk_49 : tk Tryz.prog 49 = some (false, 1) := by kernel_rfl
@[simp] theorem zvA_49 : zvA Tryz.prog 49 = some [AV.d (D.v Value.nilFunc)] := by kernel_rfl
@[simp] theorem tk_50 : tk Tryz.prog 50 = some (false, 1) := by kernel_rfl
@[simp] theorem zvA_50 : zvA Tryz.prog 50 = some [AV.d (D.v Value.nilFunc)] := by kernel_rfl
@[simp] theorem tk_51 : tk Tryz.prog 51 = some (false, 1) := by kernel_rfl
@[simp] theorem zvA_51 : zvA Tryz.prog 51 = some [AV.d (D.v Value.nilFunc)] := by kernel_rfl
@[simp] theorem tk_52 : tk Tryz.prog 52 = some (false, 1) := by kernel_rfl
@[simp] theorem zvA_52 : zvA Tryz.prog 52 = some [AV.d (D.v Value.nilFunc)] := by kernel_rfl
@[simp] theorem tk_53 : tk Tryz.prog 53 = some (false, 1) := by kernel_rfl
@[simp] theorem zvA_53 : zvA Tryz.prog 53 = some [AV.d (D.v Value.nilFunc)] := by kernel_rfl
@[simp] theorem tk_58 : tk Tryz.prog 58 = some (false, 1) := by kernel_rfl
@[simp] theorem zvA_58 : zvA Tryz.prog 58 = some [AV.d (D.v Value.nilFunc)] := by kernel_rfl
@[simp] theorem tk_64 : tk Tryz.prog 64 = some (false, 1) := by kernel_rfl
@[simp] theorem zvA_64 : zvA Tryz.prog 64 = some [AV.d (D.v Value.nilFunc)] := by kernel_rfl
@[simp] theorem tk_65 : tk Tryz.prog 65 = some (false, 1) := by kernel_rfl
@[simp] theorem zvA_65 : zvA Tryz.prog 65 = some [AV.d (D.v Value.nilFunc)] := by kernel_rfl
@[simp] theorem tk_66 : tk Tryz.prog 66 = some (false, 1) := by kernel_rfl
@[simp] theorem zvA_66 : zvA Tryz.prog 66 = some [AV.d (D.v Value.nilFunc)] := by kernel_rfl
@[simp] theorem tk_70 : tk Tryz.prog 70 = some (false, 1) := by kernel_rfl
@[simp] theorem zvA_70 : zvA Tryz.prog 70 = some [AV.d (D.v Value.nilFunc)] := by kernel_rfl
@[simp] theorem tk_75 : tk Tryz.prog 75 = some (false, 1) := by kernel_rfl
@[simp] theorem zvA_75 : zvA Tryz.prog 75 = some [AV.d (D.v Value.nilFunc)] := by kernel_rfl
@[simp] theorem tk_76 : tk Tryz.prog 76 = some (false, 1) := by kernel_rfl
@[simp] theorem zvA_76 : zvA Tryz.prog 76 = some [AV.d (D.v Value.nilFunc)] := by kernel_rfl
@[simp] theorem tk_77 : tk Tryz.prog 77 = some (false, 1) := by kernel_rfl
@[simp] theorem zvA_77 : zvA Tryz.prog 77 = some [AV.d (D.v Value.nilFunc)] := by kernel_rfl
@[simp] theorem tk_78 : tk Tryz.prog 78 = some (false, 1) := by kernel_rfl
@[simp] theorem zvA_78 : zvA Tryz.prog 78 = some [AV.d (D.v Value.nilFunc)] := by kernel_rfl
@[simp] theorem tk_79 : tk Tryz.prog 79 = some (false, 1) := by kernel_rfl
@[simp] theorem zvA_79 : zvA Tryz.prog 79 = some [AV.d (D.v Value.nilFunc)] := by kernel_rfl
@[simp] theorem tk_82 : tk Tryz.prog 82 = some (false, 1) := by kernel_rfl
@[simp] theorem zvA_82 : zvA Tryz.prog 82 = some [AV.d (D.v Value.nilFunc)] := by kernel_rfl
@[simp] theorem tk_89 : tk Tryz.prog 89 = some (false, 1) := by kernel_rfl
@[simp] theorem zvA_89 : zvA Tryz.prog 89 = some [AV.d (D.v Value.nilFunc)] := by kernel_rfl
@[simp] theorem tk_90 : tk Tryz.prog 90 = some (false, 1) := by kernel_rfl
@[simp] theorem zvA_90 : zvA Tryz.prog 90 = some [AV.d (D.v (Value.pointer none))] := by kernel_rfl
@[simp] theorem tk_91 : tk Tryz.prog 91 = some (false, 1) := by kernel_rfl
@[simp] theorem zvA_91 : zvA Tryz.prog 91 = some [AV.d (D.v Value.nilFunc)] := by kernel_rfl
@[simp] theorem tk_94 : tk Tryz.prog 94 = some (false, 1) := by kernel_rfl
@[simp] theorem zvA_94 : zvA Tryz.prog 94 = some [AV.d (D.v Value.nilFunc)] := by kernel_rfl
@[simp] theorem tk_97 : tk Tryz.prog 97 = some (false, 1) := by kernel_rfl
@[simp] theorem zvA_97 : zvA Tryz.prog 97 = some [AV.d (D.v Value.nilFunc)] := by kernel_rfl
@[simp] theorem tk_98 : tk Tryz.prog 98 = some (false, 1) := by kernel_rfl
@[simp] theorem zvA_98 : zvA Tryz.prog 98 = some [AV.d (D.v (Value.pointer none))] := by kernel_rfl
@[simp] theorem tk_101 : tk Tryz.prog 101 = some (false, 1) := by kernel_rfl
@[simp] theorem zvA_101 : zvA Tryz.prog 101 = some [AV.d (D.v Value.nilFunc)] := by kernel_rfl
@[simp] theorem tk_103 : tk Tryz.prog 103 = some (false, 1) := by kernel_rfl
@[simp] theorem zvA_103 : zvA Tryz.prog 103 = some [AV.d (D.v Value.nilFunc)] := by kernel_rfl
@[simp] theorem tk_104 : tk Tryz.prog 104 = some (false, 1) := by kernel_rfl
@[simp] theorem zvA_104 : zvA Tryz.prog 104 = some [AV.d (D.v Value.nilFunc)] := by kernel_rfl
@[simp] theorem tk_115 : tk Tryz.prog 115 = some (false, 1) := by kernel_rfl
@[simp] theorem zvA_115 : zvA Tryz.prog 115 = some [AV.d (D.v Value.nilFunc)] := by kernel_rfl
@[simp] theorem tk_116 : tk Tryz.prog 116 = some (false, 1) := by kernel_rfl
@[simp] theorem zvA_116 : zvA Tryz.prog 116 = some [AV.d (D.v Value.nilFunc)] := by kernel_rfl
@[simp] theorem tk_117 : tk Tryz.prog 117 = some (false, 1) := by kernel_rfl
@[simp] theorem zvA_117 : zvA Tryz.prog 117 = some [AV.d (D.v Value.nilFunc)] := by kernel_rfl
@[simp] theorem tk_118 : tk Tryz.prog 118 = some (false, 1) := by kernel_rfl
@[simp] theorem zvA_118 : zvA Tryz.prog 118 = some [AV.d (D.v Value.nilFunc)] := by kernel_rfl
@[simp] theorem tk_119 : tk Tryz.prog 119 = some (false, 1) := by kernel_rfl
@[simp] theorem zvA_119 : zvA Tryz.prog 119 = some [AV.d (D.v Value.nilFunc)] := by kernel_rfl
@[simp] theorem tk_120 : tk Tryz.prog 120 = some (false, 1) := by kernel_rfl
@[simp] theorem zvA_120 : zvA Tryz.prog 120 = some [AV.d (D.v Value.nilFunc)] := by kernel_rfl
@[simp] theorem tk_121 : tk Tryz.prog 121 = some (false, 1) := by kernel_rfl
@[simp] theorem zvA_121 : zvA Tryz.prog 121 = some [AV.d (D.v Value.nilFunc)] := by kernel_rfl
@[simp] theorem tk_122 : tk Tryz.prog 122 = some (false, 1) := by kernel_rfl
@[simp] theorem zvA_122 : zvA Tryz.prog 122 = some [AV.d (D.v Value.nilFunc)] := by kernel_rfl
@[simp] theorem tk_123 : tk Tryz.prog 123 = some (false, 1) := by kernel_rfl
@[simp] theorem zvA_123 : zvA Tryz.prog 123 = some [AV.d (D.v Value.nilFunc)] := by kernel_rfl
@[simp] theorem tk_124 : tk Tryz.prog 124 = some (false, 1) := by kernel_rfl
@[simp] theorem zvA_124 : zvA Tryz.prog 124 = some [AV.d (D.v (Value.pointer none))] := by kernel_rfl
@[simp] theorem tk_127 : tk Tryz.prog 127 = some (false, 1) := by kernel_rfl
@[simp] theorem zvA_127 : zvA Tryz.prog 127 = some [AV.d (D.v Value.nilFunc)] := by kernel_rfl
@[simp] theorem tk_128 : tk Tryz.prog 128 = some (false, 1) := by kernel_rfl
@[simp] theorem zvA_128 : zvA Tryz.prog 128 = some [AV.d (D.v Value.nilFunc)] := by kernel_rfl
@[simp] theorem tk_129 : tk Tryz.prog 129 = some (false, 1) := by kernel_rfl
@[simp] theorem zvA_129 : zvA Tryz.prog 129 = some [AV.d (D.v Value.nilFunc)] := by kernel_rfl
@[simp] theorem tk_130 : tk Tryz.prog 130 = some (false, 1) := by kernel_rfl
@[simp] theorem zvA_130 : zvA Tryz.prog 130 = some [AV.d (D.v Value.nilFunc)] := by kernel_rfl
@[simp] theorem tk_131 : tk Tryz.prog 131 = some (false, 1) := by kernel_rfl
@[simp] theorem zvA_131 : zvA Tryz.prog 131 = some [AV.d (D.v Value.nilFunc)] := by kernel_rfl
@[simp] theorem tk_132 : tk Tryz.prog 132 = some (false, 1) := by kernel_rfl
@[simp] theorem zvA_132 : zvA Tryz.prog 132 = some [AV.d (D.v Value.nilFunc)] := by kernel_rfl
@[simp] theorem tk_133 : tk Tryz.prog 133 = some (false, 1) := by kernel_rfl
@[simp] theorem zvA_133 : zvA Tryz.prog 133 = some [AV.d (D.v Value.nilFunc)] := by kernel_rfl
@[simp] theorem tk_134 : tk Tryz.prog 134 = some (false, 1) := by kernel_rfl
@[simp] theorem zvA_134 : zvA Tryz.prog 134 = some [AV.d (D.v Value.nilFunc)] := by kernel_rfl
@[simp] theorem tk_135 : tk Tryz.prog 135 = some (false, 1) := by kernel_rfl
@[simp] theorem zvA_135 : zvA Tryz.prog 135 = some [AV.d (D.v Value.nilFunc)] := by kernel_rfl
@[simp] theorem tk_136 : tk Tryz.prog 136 = some (false, 1) := by kernel_rfl
@[simp] theorem zvA_136 : zvA Tryz.prog 136 = some [AV.d (D.v Value.nilFunc)] := by kernel_rfl
@[simp] theorem tk_137 : tk Tryz.prog 137 = some (false, 1) := by kernel_rfl
@[simp] theorem zvA_137 : zvA Tryz.prog 137 = some [AV.d (D.v Value.nilFunc)] := by kernel_rfl
@[simp] theorem tk_138 : tk Tryz.prog 138 = some (false, 1) := by kernel_rfl
@[simp] theorem zvA_138 : zvA Tryz.prog 138 = some [AV.d (D.v Value.nilFunc)] := by kernel_rfl
@[simp] theorem tk_139 : tk Tryz.prog 139 = some (false, 1) := by kernel_rfl
@[simp] theorem zvA_139 : zvA Tryz.prog 139 = some [AV.d (D.v Value.nilFunc)] := by kernel_rfl
@[simp] theorem tk_140 : tk Tryz.prog 140 = some (false, 1) := by kernel_rfl
@[simp] theorem zvA_140 : zvA Tryz.prog 140 = some [AV.d (D.v Value.nilFunc)] := by kernel_rfl
@[simp] theorem tk_141 : tk Tryz.prog 141 = some (false, 1) := by kernel_rfl
@[simp] theorem zvA_141 : zvA Tryz.prog 141 = some [AV.d (D.v Value.nilFunc)] := by kernel_rfl
@[simp] theorem tk_142 : tk Tryz.prog 142 = some (false, 1) := by kernel_rfl
@[simp] theorem zvA_142 : zvA Tryz.prog 142 = some [AV.d (D.v Value.nilFunc)] := by kernel_rfl
@[simp] theorem tk_143 : tk Tryz.prog 143 = some (false, 1) := by kernel_rfl
@[simp] theorem zvA_143 : zvA Tryz.prog 143 = some [AV.d (D.v Value.nilFunc)] := by kernel_rfl
@[simp] theorem tk_144 : tk Tryz.prog 144 = some (false, 1) := by kernel_rfl
@[simp] theorem zvA_144 : zvA Tryz.prog 144 = some [AV.d (D.v Value.nilFunc)] := by kernel_rfl
@[simp] theorem tk_145 : tk Tryz.prog 145 = some (false, 1) := by kernel_rfl
@[simp] theorem zvA_145 : zvA Tryz.prog 145 = some [AV.d (D.v Value.nilFunc)] := by kernel_rfl
@[simp] theorem tk_146 : tk Tryz.prog 146 = some (false, 1) := by kernel_rfl
@[simp] theorem zvA_146 : zvA Tryz.prog 146 = some [AV.d (D.v Value.nilFunc)] := by kernel_rfl
@[simp] theorem tk_147 : tk Tryz.prog 147 = some (false, 1) := by kernel_rfl
@[simp] theorem zvA_147 : zvA Tryz.prog 147 = some [AV.d (D.v Value.nilFunc)] := by kernel_rfl
@[simp] theorem tk_149 : tk Tryz.prog 149 = some (false, 1) := by kernel_rfl
@[simp] theorem zvA_149 : zvA Tryz.prog 149 = some [AV.d (D.v Value.nilFunc)] := by kernel_rfl
@[simp] theorem tk_150 : tk Tryz.prog 150 = some (false, 1) := by kernel_rfl
@[simp] theorem zvA_150 : zvA Tryz.prog 150 = some [AV.d (D.v Value.nilFunc)] := by kernel_rfl
@[simp] theorem tk_151 : tk Tryz.prog 151 = some (false, 1) := by kernel_rfl
@[simp] theorem zvA_151 : zvA Tryz.prog 151 = some [AV.d (D.v Value.nilFunc)] := by kernel_rfl
@[simp] theorem tk_152 : tk Tryz.prog 152 = some (false, 1) := by kernel_rfl
@[simp] theorem zvA_152 : zvA Tryz.prog 152 = some [AV.d (D.v Value.nilFunc)] := by kernel_rfl
@[simp] theorem tk_156 : tk Tryz.prog 156 = some (false, 1) := by kernel_rfl
@[simp] theorem zvA_156 : zvA Tryz.prog 156 = some [AV.d (D.v Value.nilFunc)] := by kernel_rfl
@[simp] theorem tk_157 : tk Tryz.prog 157 = some (false, 1) := by kernel_rfl
@[simp] theorem zvA_157 : zvA Tryz.prog 157 = some [AV.d (D.v Value.nilFunc)] := by kernel_rfl
@[simp] theorem tk_158 : tk Tryz.prog 158 = some (false, 1) := by kernel_rfl
@[simp] theorem zvA_158 : zvA Tryz.prog 158 = some [AV.d (D.v Value.nilFunc)] := by kernel_rfl
@[simp] theorem tk_159 : tk Tryz.prog 159 = some (false, 1) := by kernel_rfl
@[simp] theorem zvA_159 : zvA Tryz.prog 159 = some [AV.d (D.v Value.nilFunc)] := by kernel_rfl
@[simp] theorem tk_160 : tk Tryz.prog 160 = some (false, 1) := by kernel_rfl
@[simp] theorem zvA_160 : zvA Tryz.prog 160 = some [AV.d (D.v Value.nilFunc)] := by kernel_rfl
@[simp] theorem tk_161 : tk Tryz.prog 161 = some (false, 1) := by kernel_rfl
@[simp] theorem zvA_161 : zvA Tryz.prog 161 = some [AV.d (D.v Value.nilFunc)] := by kernel_rfl
@[simp] theorem tk_162 : tk Tryz.prog 162 = some (false, 1) := by kernel_rfl
@[simp] theorem zvA_162 : zvA Tryz.prog 162 = some [AV.d (D.v Value.nilFunc)] := by kernel_rfl
@[simp] theorem tk_163 : tk Tryz.prog 163 = some (false, 1) := by kernel_rfl
@[simp] theorem zvA_163 : zvA Tryz.prog 163 = some [AV.d (D.v Value.nilFunc)] := by kernel_rfl
@[simp] theorem tk_164 : tk Tryz.prog 164 = some (false, 1) := by kernel_rfl
@[simp] theorem zvA_164 : zvA Tryz.prog 164 = some [AV.d (D.v Value.nilFunc)] := by kernel_rfl
@[simp] theorem tk_165 : tk Tryz.prog 165 = some (false, 1) := by kernel_rfl
@[simp] theorem zvA_165 : zvA Tryz.prog 165 = some [AV.d (D.v Value.nilFunc)] := by kernel_rfl
@[simp] theorem tk_166 : tk Tryz.prog 166 = some (false, 1) := by kernel_rfl
@[simp] theorem zvA_166 : zvA Tryz.prog 166 = some [AV.d (D.v Value.nilFunc)] := by kernel_rfl
@[simp] theorem tk_167 : tk Tryz.prog 167 = some (false, 1) := by kernel_rfl
@[simp] theorem zvA_167 : zvA Tryz.prog 167 = some [AV.d (D.v Value.nilFunc)] := by kernel_rfl
@[simp] theorem tk_168 : tk Tryz.prog 168 = some (false, 1) := by kernel_rfl
@[simp] theorem zvA_168 : zvA Tryz.prog 168 = some [AV.d (D.v Value.nilFunc)] := by kernel_rfl
@[simp] theorem tk_169 : tk Tryz.prog 169 = some (false, 1) := by kernel_rfl
@[simp] theorem zvA_169 : zvA Tryz.prog 169 = some [AV.d (D.v Value.nilFunc)] := by kernel_rfl
@[simp] theorem tk_170 : tk Tryz.prog 170 = some (false, 1) := by kernel_rfl
@[simp] theorem zvA_170 : zvA Tryz.prog 170 = some [AV.d (D.v Value.nilFunc)] := by kernel_rfl
@[simp] theorem tk_171 : tk Tryz.prog 171 = some (false, 1) := by kernel_rfl
@[simp] theorem zvA_171 : zvA Tryz.prog 171 = some [AV.d (D.v Value.nilFunc)] := by kernel_rfl
@[simp] theorem tk_172 : tk Tryz.prog 172 = some (false, 1) := by kernel_rfl
@[simp] theorem zvA_172 : zvA Tryz.prog 172 = some [AV.d (D.v Value.nilFunc)] := by kernel_rfl
@[simp] theorem tk_173 : tk Tryz.prog 173 = some (false, 1) := by kernel_rfl
@[simp] theorem zvA_173 : zvA Tryz.prog 173 = some [AV.d (D.v Value.nilFunc)] := by kernel_rfl
@[simp] theorem tk_174 : tk Tryz.prog 174 = some (false, 1) := by kernel_rfl
@[simp] theorem zvA_174 : zvA Tryz.prog 174 = some [AV.d (D.v Value.nilFunc)] := by kernel_rfl
@[simp] theorem tk_175 : tk Tryz.prog 175 = some (false, 1) := by kernel_rfl
@[simp] theorem zvA_175 : zvA Tryz.prog 175 = some [AV.d (D.v Value.nilFunc)] := by kernel_rfl
@[simp] theorem tk_176 : tk Tryz.prog 176 = some (false, 1) := by kernel_rfl
@[simp] theorem zvA_176 : zvA Tryz.prog 176 = some [AV.d (D.v Value.nilFunc)] := by kernel_rfl
@[simp] theorem tk_177 : tk Tryz.prog 177 = some (false, 1) := by kernel_rfl
@[simp] theorem zvA_177 : zvA Tryz.prog 177 = some [AV.d (D.v Value.nilFunc)] := by kernel_rfl
@[simp] theorem tk_178 : tk Tryz.prog 178 = some (false, 1) := by kernel_rfl
@[simp] theorem zvA_178 : zvA Tryz.prog 178 = some [AV.d (D.v Value.nilFunc)] := by kernel_rfl
@[simp] theorem tk_180 : tk Tryz.prog 180 = some (false, 1) := by kernel_rfl
@[simp] theorem zvA_180 : zvA Tryz.prog 180 = some [AV.d (D.v Value.nilFunc)] := by kernel_rfl
@[simp] theorem tk_181 : tk Tryz.prog 181 = some (false, 1) := by kernel_rfl
@[simp] theorem zvA_181 : zvA Tryz.prog 181 = some [AV.d (D.v Value.nilFunc)] := by kernel_rfl
@[simp] theorem tk_182 : tk Tryz.prog 182 = some (false, 1) := by kernel_rfl
@[simp] theorem zvA_182 : zvA Tryz.prog 182 = some [AV.d (D.v Value.nilFunc)] := by kernel_rfl
@[simp] theorem tk_183 : tk Tryz.prog 183 = some (false, 1) := by kernel_rfl
@[simp] theorem zvA_183 : zvA Tryz.prog 183 = some [AV.d (D.v Value.nilFunc)] := by kernel_rfl
@[simp] theorem tk_184 : tk Tryz.prog 184 = some (false, 1) := by kernel_rfl
@[simp] theorem zvA_184 : zvA Tryz.prog 184 = some [AV.d (D.v Value.nilFunc)] := by kernel_rfl
@[simp] theorem tk_185 : tk Tryz.prog 185 = some (false, 1) := by kernel_rfl
@[simp] theorem zvA_185 : zvA Tryz.prog 185 = some [AV.d (D.v Value.nilFunc)] := by kernel_rfl
@[simp] theorem tk_186 : tk Tryz.prog 186 = some (false, 1) := by kernel_rfl
@[simp] theorem zvA_186 : zvA Tryz.prog 186 = some [AV.d (D.v Value.nilFunc)] := by kernel_rfl
@[simp] theorem tk_187 : tk Tryz.prog 187 = some (false, 1) := by kernel_rfl
@[simp] theorem zvA_187 : zvA Tryz.prog 187 = some [AV.d (D.v Value.nilFunc)] := by kernel_rfl
@[simp] theorem tk_188 : tk Tryz.prog 188 = some (false, 1) := by kernel_rfl
@[simp] theorem zvA_188 : zvA Tryz.prog 188 = some [AV.d (D.v Value.nilFunc)] := by kernel_rfl
@[simp] theorem tk_189 : tk Tryz.prog 189 = some (false, 1) := by kernel_rfl
@[simp] theorem zvA_189 : zvA Tryz.prog 189 = some [AV.d (D.v Value.nilFunc)] := by kernel_rfl
@[simp] theorem tk_190 : tk Tryz.prog 190 = some (false, 1) := by kernel_rfl
@[simp] theorem zvA_190 : zvA Tryz.prog 190 = some [AV.d (D.v Value.nilFunc)] := by kernel_rfl
@[simp] theorem tk_191 : tk Tryz.prog 191 = some (false, 1) := by kernel_rfl
@[simp] theorem zvA_191 : zvA Tryz.prog 191 = some [AV.d (D.v (Value.pointer none))] := by kernel_rfl
@[simp] theorem tk_192 : tk Tryz.prog 192 = some (false, 1) := by kernel_rfl
@[simp] theorem zvA_192 : zvA Tryz.prog 192 = some [AV.d (D.v (Value.pointer none))] := by kernel_rfl
@[simp] theorem tk_197 : tk Tryz.prog 197 = some (false, 1) := by kernel_rfl
@[simp] theorem zvA_197 : zvA Tryz.prog 197 = some [AV.d (D.v Value.nilFunc)] := by kernel_rfl
@[simp] theorem tk_198 : tk Tryz.prog 198 = some (false, 1) := by kernel_rfl
@[simp] theorem zvA_198 : zvA Tryz.prog 198 = some [AV.d (D.v Value.nilFunc)] := by kernel_rfl
@[simp] theorem tk_199 : tk Tryz.prog 199 = some (false, 1) := by kernel_rfl
@[simp] theorem zvA_199 : zvA Tryz.prog 199 = some [AV.d (D.v Value.nilFunc)] := by kernel_rfl
@[simp] theorem tk_200 : tk Tryz.prog 200 = some (false, 1) := by kernel_rfl
@[simp] theorem zvA_200 : zvA Tryz.prog 200 = some [AV.d (D.v Value.nilFunc)] := by kernel_rfl
@[simp] theorem tk_201 : tk Tryz.prog 201 = some (false, 1) := by kernel_rfl
@[simp] theorem zvA_201 : zvA Tryz.prog 201 = some [AV.d (D.v Value.nilFunc)] := by kernel_rfl
@[simp] theorem tk_202 : tk Tryz.prog 202 = some (false, 1) := by kernel_rfl
@[simp] theorem zvA_202 : zvA Tryz.prog 202 = some [AV.d (D.v Value.nilFunc)] := by kernel_rfl
@[simp] theorem tk_203 : tk Tryz.prog 203 = some (false, 1) := by kernel_rfl
@[simp] theorem zvA_203 : zvA Tryz.prog 203 = some [AV.d (D.v Value.nilFunc)] := by kernel_rfl
@[simp] theorem tk_204 : tk Tryz.prog 204 = some (false, 1) := by kernel_rfl
@[simp] theorem zvA_204 : zvA Tryz.prog 204 = some [AV.d (D.v Value.nilFunc)] := by kernel_rfl
@[simp] theorem tk_205 : tk Tryz.prog 205 = some (false, 1) := by kernel_rfl
@[simp] theorem zvA_205 : zvA Tryz.prog 205 = some [AV.d (D.v Value.nilFunc)] := by kernel_rfl
@[simp] theorem tk_206 : tk Tryz.prog 206 = some (false, 1) := by kernel_rfl
@[simp] theorem zvA_206 : zvA Tryz.prog 206 = some [AV.d (D.v Value.nilFunc)] := by kernel_rfl
@[simp] theorem tk_209 : tk Tryz.prog 209 = some (false, 1) := by kernel_rfl
@[simp] theorem zvA_209 : zvA Tryz.prog 209 = some [AV.d (D.v Value.nilFunc)] := by kernel_rfl
@[simp] theorem tk_210 : tk Tryz.prog 210 = some (false, 1) := by kernel_rfl
@[simp] theorem zvA_210 : zvA Tryz.prog 210 = some [AV.d (D.v Value.nilFunc)] := by kernel_rfl
@[simp] theorem tk_211 : tk Tryz.prog 211 = some (false, 1) := by kernel_rfl
@[simp] theorem zvA_211 : zvA Tryz.prog 211 = some [AV.d (D.v Value.nilFunc)] := by kernel_rfl
@[simp] theorem tk_212 : tk Tryz.prog 212 = some (false, 1) := by kernel_rfl
@[simp] theorem zvA_212 : zvA Tryz.prog 212 = some [AV.d (D.v Value.nilFunc)] := by kernel_rfl
@[simp] theorem tk_213 : tk Tryz.prog 213 = some (false, 1) := by kernel_rfl
@[simp] theorem zvA_213 : zvA Tryz.prog 213 = some [AV.d (D.v Value.nilFunc)] := by kernel_rfl
@[simp] theorem tk_214 : tk Tryz.prog 214 = some (false, 1) := by kernel_rfl
@[simp] theorem zvA_214 : zvA Tryz.prog 214 = some [AV.d (D.v Value.nilFunc)] := by kernel_rfl
@[simp] theorem tk_215 : tk Tryz.prog 215 = some (false, 1) := by kernel_rfl
@[simp] theorem zvA_215 : zvA Tryz.prog 215 = some [AV.d (D.v Value.nilFunc)] := by kernel_rfl
@[simp] theorem tk_216 : tk Tryz.prog 216 = some (false, 1) := by kernel_rfl
@[simp] theorem zvA_216 : zvA Tryz.prog 216 = some [AV.d (D.v Value.nilFunc)] := by kernel_rfl
@[simp] theorem tk_217 : tk Tryz.prog 217 = some (false, 1) := by kernel_rfl
@[simp] theorem zvA_217 : zvA Tryz.prog 217 = some [AV.d (D.v Value.nilFunc)] := by kernel_rfl
@[simp] theorem tk_218 : tk Tryz.prog 218 = some (false, 1) := by kernel_rfl
@[simp] theorem zvA_218 : zvA Tryz.prog 218 = some [AV.d (D.v Value.nilFunc)] := by kernel_rfl
@[simp] theorem tk_219 : tk Tryz.prog 219 = some (false, 1) := by kernel_rfl
@[simp] theorem zvA_219 : zvA Tryz.prog 219 = some [AV.d (D.v Value.nilFunc)] := by kernel_rfl
@[simp] theorem tk_220 : tk Tryz.prog 220 = some (false, 1) := by kernel_rfl
@[simp] theorem zvA_220 : zvA Tryz.prog 220 = some [AV.d (D.v Value.nilFunc)] := by kernel_rfl
@[simp] theorem tk_221 : tk Tryz.prog 221 = some (false, 1) := by kernel_rfl
@[simp] theorem zvA_221 : zvA Tryz.prog 221 = some [AV.d (D.v Value.nilFunc)] := by kernel_rfl
@[simp] theorem tk_223 : tk Tryz.prog 223 = some (false, 1) := by kernel_rfl
@[simp] theorem zvA_223 : zvA Tryz.prog 223 = some [AV.d (D.v Value.nilFunc)] := by kernel_rfl
@[simp] theorem tk_224 : tk Tryz.prog 224 = some (false, 1) := by kernel_rfl
@[simp] theorem zvA_224 : zvA Tryz.prog 224 = some [AV.d (D.v Value.nilFunc)] := by kernel_rfl
@[simp] theorem tk_226 : tk Tryz.prog 226 = some (false, 1) := by kernel_rfl
@[simp] theorem zvA_226 : zvA Tryz.prog 226 = some [AV.d (D.v Value.nilFunc)] := by kernel_rfl
@[simp] theorem tk_227 : tk Tryz.prog 227 = some (false, 1) := by kernel_rfl
@[simp] theorem zvA_227 : zvA Tryz.prog 227 = some [AV.d (D.v Value.nilFunc)] := by kernel_rfl
@[simp] theorem tk_228 : tk Tryz.prog 228 = some (false, 1) := by kernel_rfl
@[simp] theorem zvA_228 : zvA Tryz.prog 228 = some [AV.d (D.v Value.nilFunc)] := by kernel_rfl
@[simp] theorem tk_229 : tk Tryz.prog 229 = some (false, 1) := by kernel_rfl
@[simp] theorem zvA_229 : zvA Tryz.prog 229 = some [AV.d (D.v Value.nilFunc)] := by kernel_rfl
@[simp] theorem tk_230 : tk Tryz.prog 230 = some (false, 1) := by kernel_rfl
@[simp] theorem zvA_230 : zvA Tryz.prog 230 = some [AV.d (D.v Value.nilFunc)] := by kernel_rfl
@[simp] theorem tk_231 : tk Tryz.prog 231 = some (false, 1) := by kernel_rfl
@[simp] theorem zvA_231 : zvA Tryz.prog 231 = some [AV.d (D.v Value.nilFunc)] := by kernel_rfl
@[simp] theorem tk_232 : tk Tryz.prog 232 = some (false, 1) := by kernel_rfl
@[simp] theorem zvA_232 : zvA Tryz.prog 232 = some [AV.d (D.v Value.nilFunc)] := by kernel_rfl
@[simp] theorem tk_234 : tk Tryz.prog 234 = some (false, 1) := by kernel_rfl
@[simp] theorem zvA_234 : zvA Tryz.prog 234 = some [AV.d (D.v Value.nilFunc)] := by kernel_rfl
@[simp] theorem tk_235 : tk Tryz.prog 235 = some (false, 1) := by kernel_rfl
@[simp] theorem zvA_235 : zvA Tryz.prog 235 = some [AV.d (D.v Value.nilFunc)] := by kernel_rfl
@[simp] theorem tk_236 : tk Tryz.prog 236 = some (false, 1) := by kernel_rfl
@[simp] theorem zvA_236 : zvA Tryz.prog 236 = some [AV.d (D.v Value.nilIface)] := by kernel_rfl
@[simp] theorem tk_237 : tk Tryz.prog 237 = some (false, 1) := by kernel_rfl
@[simp] theorem zvA_237 : zvA Tryz.prog 237 = some [AV.d (D.v Value.nilIface)] := by kernel_rfl
@[simp] theorem tk_239 : tk Tryz.prog 239 = some (false, 1) := by kernel_rfl
@[simp] theorem zvA_239 : zvA Tryz.prog 239 = some [AV.d (D.v Value.nilFunc)] := by kernel_rfl
@[simp] theorem tk_240 : tk Tryz.prog 240 = some (false, 1) := by kernel_rfl
@[simp] theorem zvA_240 : zvA Tryz.prog 240 = some [AV.d (D.v (Value.pointer none))] := by kernel_rfl
@[simp] theorem tk_242 : tk Tryz.prog 242 = some (false, 1) := by kernel_rfl
@[simp] theorem zvA_242 : zvA Tryz.prog 242 = some [AV.d (D.v Value.nilFunc)] := by kernel_rfl
@[simp] theorem tk_243 : tk Tryz.prog 243 = some (false, 1) := by kernel_rfl
@[simp] theorem zvA_243 : zvA Tryz.prog 243 = some [AV.d (D.v Value.nilFunc)] := by kernel_rfl
@[simp] theorem tk_244 : tk Tryz.prog 244 = some (false, 1) := by kernel_rfl
@[simp] theorem zvA_244 : zvA Tryz.prog 244 = some [AV.d (D.v Value.nilFunc)] := by kernel_rfl
@[simp] theorem tk_245 : tk Tryz.prog 245 = some (false, 1) := by kernel_rfl
@[simp] theorem zvA_245 : zvA Tryz.prog 245 = some [AV.d (D.v Value.nilFunc)] := by kernel_rfl
@[simp] theorem tk_246 : tk Tryz.prog 246 = some (false, 1) := by kernel_rfl
@[simp] theorem zvA_246 : zvA Tryz.prog 246 = some [AV.d (D.v Value.nilFunc)] := by kernel_rfl
@[simp] theorem tk_247 : tk Tryz.prog 247 = some (false, 1) := by kernel_rfl
@[simp] theorem zvA_247 : zvA Tryz.prog 247 = some [AV.d (D.v Value.nilFunc)] := by kernel_rfl
@[simp] theorem tk_248 : tk Tryz.prog 248 = some (false, 1) := by kernel_rfl
@[simp] theorem zvA_248 : zvA Tryz.prog 248 = some [AV.d (D.v Value.nilFunc)] := by kernel_rfl
@[simp] theorem tk_249 : tk Tryz.prog 249 = some (false, 1) := by kernel_rfl
@[simp] theorem zvA_249 : zvA Tryz.prog 249 = some [AV.d (D.v Value.nilFunc)] := by kernel_rfl
@[simp] theorem tk_251 : tk Tryz.prog 251 = some (false, 1) := by kernel_rfl
@[simp] theorem zvA_251 : zvA Tryz.prog 251 = some [AV.d (D.v Value.nilFunc)] := by kernel_rfl
@[simp] theorem tk_252 : tk Tryz.prog 252 = some (false, 1) := by kernel_rfl
@[simp] theorem zvA_252 : zvA Tryz.prog 252 = some [AV.d (D.v (Value.pointer none))] := by kernel_rfl
@[simp] theorem tk_253 : tk Tryz.prog 253 = some (false, 1) := by kernel_rfl
@[simp] theorem zvA_253 : zvA Tryz.prog 253 = some [AV.d (D.v Value.nilFunc)] := by kernel_rfl
@[simp] theorem tk_258 : tk Tryz.prog 258 = some (false, 1) := by kernel_rfl
@[simp] theorem zvA_258 : zvA Tryz.prog 258 = some [AV.d (D.v Value.nilFunc)] := by kernel_rfl
@[simp] theorem tk_259 : tk Tryz.prog 259 = some (false, 1) := by kernel_rfl
@[simp] theorem zvA_259 : zvA Tryz.prog 259 = some [AV.d (D.v Value.nilFunc)] := by kernel_rfl
@[simp] theorem tk_260 : tk Tryz.prog 260 = some (false, 1) := by kernel_rfl
@[simp] theorem zvA_260 : zvA Tryz.prog 260 = some [AV.d (D.v Value.nilFunc)] := by kernel_rfl
@[simp] theorem tk_263 : tk Tryz.prog 263 = some (false, 1) := by kernel_rfl
@[simp] theorem zvA_263 : zvA Tryz.prog 263 = some [AV.d (D.v Value.nilFunc)] := by kernel_rfl
@[simp] theorem tk_264 : tk Tryz.prog 264 = some (false, 1) := by kernel_rfl
@[simp] theorem zvA_264 : zvA Tryz.prog 264 = some [AV.d (D.v Value.nilFunc)] := by kernel_rfl
@[simp] theorem tk_265 : tk Tryz.prog 265 = some (false, 1) := by kernel_rfl
@[simp] theorem zvA_265 : zvA Tryz.prog 265 = some [AV.d (D.v Value.nilFunc)] := by kernel_rfl
@[simp] theorem tk_266 : tk Tryz.prog 266 = some (false, 1) := by kernel_rfl
@[simp] theorem zvA_266 : zvA Tryz.prog 266 = some [AV.d (D.v Value.nilFunc)] := by kernel_rfl
@[simp] theorem tk_268 : tk Tryz.prog 268 = some (false, 1) := by kernel_rfl
@[simp] theorem zvA_268 : zvA Tryz.prog 268 = some [AV.d (D.v Value.nilFunc)] := by kernel_rfl
@[simp] theorem tk_269 : tk Tryz.prog 269 = some (false, 1) := by kernel_rfl
@[simp] theorem zvA_269 : zvA Tryz.prog 269 = some [AV.d (D.v Value.nilFunc)] := by kernel_rfl
@[simp] theorem tk_270 : tk Tryz.prog 270 = some (false, 1) := by kernel_rfl
@[simp] theorem zvA_270 : zvA Tryz.prog 270 = some [AV.d (D.v Value.nilFunc)] := by kernel_rfl
@[simp] theorem tk_272 : tk Tryz.prog 272 = some (false, 1) := by kernel_rfl
@[simp] theorem zvA_272 : zvA Tryz.prog 272 = some [AV.d (D.v Value.nilFunc)] := by kernel_rfl
@[simp] theorem tk_274 : tk Tryz.prog 274 = some (false, 1) := by kernel_rfl
@[simp] theorem zvA_274 : zvA Tryz.prog 274 = some [AV.d (D.v Value.nilFunc)] := by kernel_rfl
@[simp] theorem tk_275 : tk Tryz.prog 275 = some (false, 1) := by kernel_rfl
@[simp] theorem zvA_275 : zvA Tryz.prog 275 = some [AV.d (D.v Value.nilFunc)] := by kernel_rfl
@[simp] theorem tk_278 : tk Tryz.prog 278 = some (false, 1) := by kernel_rfl
@[simp] theorem zvA_278 : zvA Tryz.prog 278 = some [AV.d (D.v Value.nilFunc)] := by kernel_rfl
@[simp] theorem tk_280 : tk Tryz.prog 280 = some (false, 1) := by kernel_rfl
@[simp] theorem zvA_280 : zvA Tryz.prog 280 = some [AV.d (D.v Value.nilFunc)] := by kernel_rfl
@[simp] theorem tk_284 : tk Tryz.prog 284 = some (false, 1) := by kernel_rfl
@[simp] theorem zvA_284 : zvA Tryz.prog 284 = some [AV.d (D.v Value.nilFunc)] := by kernel_rfl
@[simp] theorem tk_285 : tk Tryz.prog 285 = some (false, 1) := by kernel_rfl
@[simp] theorem zvA_285 : zvA Tryz.prog 285 = some [AV.d (D.v (Value.pointer none))] := by kernel_rfl
@[simp] theorem tk_286 : tk Tryz.prog 286 = some (false, 1) := by kernel_rfl
@[simp] theorem zvA_286 : zvA Tryz.prog 286 = some [AV.d (D.v Value.nilFunc)] := by kernel_rfl
@[simp] theorem tk_287 : tk Tryz.prog 287 = some (false, 1) := by kernel_rfl
@[simp] theorem zvA_287 : zvA Tryz.prog 287 = some [AV.d (D.v Value.nilFunc)] := by kernel_rfl
@[simp] theorem tk_288 : tk Tryz.prog 288 = some (false, 1) := by kernel_rfl
@[simp] theorem zvA_288 : zvA Tryz.prog 288 = some [AV.d (D.v Value.nilFunc)] := by kernel_rfl
@[simp] theorem tk_289 : tk Tryz.prog 289 = some (false, 1) := by kernel_rfl
@[simp] theorem zvA_289 : zvA Tryz.prog 289 = some [AV.d (D.v Value.nilFunc)] := by kernel_rfl
@[simp] theorem tk_290 : tk Tryz.prog 290 = some (false, 1) := by kernel_rfl
@[simp] theorem zvA_290 : zvA Tryz.prog 290 = some [AV.d (D.v Value.nilFunc)] := by kernel_rfl
@[simp] theorem tk_292 : tk Tryz.prog 292 = some (false, 1) := by kernel_rfl
@[simp] theorem zvA_292 : zvA Tryz.prog 292 = some [AV.d (D.v Value.nilFunc)] := by kernel_rfl
@[simp] theorem tk_293 : tk Tryz.prog 293 = some (false, 1) := by kernel_rfl
@[simp] theorem zvA_293 : zvA Tryz.prog 293 = some [AV.d (D.v Value.nilFunc)] := by kernel_rfl
@[simp] theorem tk_294 : tk Tryz.prog 294 = some (false, 1) := by kernel_rfl
@[simp] theorem zvA_294 : zvA Tryz.prog 294 = some [AV.d (D.v Value.nilFunc)] := by kernel_rfl
@[simp] theorem tk_295 : tk Tryz.prog 295 = some (false, 1) := by kernel_rfl
@[simp] theorem zvA_295 : zvA Tryz.prog 295 = some [AV.d (D.v Value.nilFunc)] := by kernel_rfl
@[simp] theorem tk_296 : tk Tryz.prog 296 = some (false, 1) := by kernel_rfl
@[simp] theorem zvA_296 : zvA Tryz.prog 296 = some [AV.d (D.v Value.nilFunc)] := by kernel_rfl
@[simp] theorem tk_298 : tk Tryz.prog 298 = some (false, 1) := by kernel_rfl
@[simp] theorem zvA_298 : zvA Tryz.prog 298 = some [AV.d (D.v Value.nilFunc)] := by kernel_rfl
@[simp] theorem tk_299 : tk Tryz.prog 299 = some (false, 1) := by kernel_rfl
@[simp] theorem zvA_299 : zvA Tryz.prog 299 = some [AV.d (D.v Value.nilFunc)] := by kernel_rfl
@[simp] theorem tk_300 : tk Tryz.prog 300 = some (false, 1) := by kernel_rfl
@[simp] theorem zvA_300 : zvA Tryz.prog 300 = some [AV.d (D.v Value.nilFunc)] := by kernel_rfl
@[simp] theorem tk_301 : tk Tryz.prog 301 = some (false, 1) := by kernel_rfl
@[simp] theorem zvA_301 : zvA Tryz.prog 301 = some [AV.d (D.v (Value.pointer none))] := by kernel_rfl
@[simp] theorem tk_302 : tk Tryz.prog 302 = some (false, 1) := by kernel_rfl
@[simp] theorem zvA_302 : zvA Tryz.prog 302 = some [AV.d (D.v Value.nilFunc)] := by kernel_rfl
@[simp] theorem tk_303 : tk Tryz.prog 303 = some (false, 1) := by kernel_rfl
@[simp] theorem zvA_303 : zvA Tryz.prog 303 = some [AV.d (D.v Value.nilFunc)] := by kernel_rfl
@[simp] theorem tk_306 : tk Tryz.prog 306 = some (false, 1) := by kernel_rfl
@[simp] theorem zvA_306 : zvA Tryz.prog 306 = some [AV.d (D.v Value.nilFunc)] := by kernel_rfl
@[simp] theorem tk_308 : tk Tryz.prog 308 = some (false, 1) := by kernel_rfl
@[simp] theorem zvA_308 : zvA Tryz.prog 308 = some [AV.d (D.v Value.nilFunc)] := by kernel_rfl
@[simp] theorem tk_309 : tk Tryz.prog 309 = some (false, 1) := by kernel_rfl
@[simp] theorem zvA_309 : zvA Tryz.prog 309 = some [AV.d (D.v Value.nilFunc)] := by kernel_rfl
@[simp] theorem tk_310 : tk Tryz.prog 310 = some (false, 1) := by kernel_rfl
@[simp] theorem zvA_310 : zvA Tryz.prog 310 = some [AV.d (D.v Value.nilFunc)] := by kernel_rfl
@[simp] theorem tk_312 : tk Tryz.prog 312 = some (false, 1) := by kernel_rfl
@[simp] theorem zvA_312 : zvA Tryz.prog 312 = some [AV.d (D.v Value.nilFunc)] := by kernel_rfl
@[simp] theorem tk_320 : tk Tryz.prog 320 = some (false, 1) := by kernel_rfl
@[simp] theorem zvA_320 : zvA Tryz.prog 320 = some [AV.d (D.v Value.nilFunc)] := by kernel_rfl
@[simp] theorem tk_323 : tk Tryz.prog 323 = some (false, 1) := by kernel_rfl
@[simp] theorem zvA_323 : zvA Tryz.prog 323 = some [AV.d (D.v Value.nilFunc)] := by kernel_rfl
@[simp] theorem tk_324 : tk Tryz.prog 324 = some (false, 1) := by kernel_rfl
@[simp] theorem zvA_324 : zvA Tryz.prog 324 = some [AV.d (D.v Value.nilFunc)] := by kernel_rfl
@[simp] theorem tk_325 : tk Tryz.prog 325 = some (false, 1) := by kernel_rfl
@[simp] theorem zvA_325 : zvA Tryz.prog 325 = some [AV.d (D.v Value.nilFunc)] := by kernel_rfl
@[simp] theorem tk_326 : tk Tryz.prog 326 = some (false, 1) := by kernel_rfl
@[simp] theorem zvA_326 : zvA Tryz.prog 326 = some [AV.d (D.v Value.nilFunc)] := by kernel_rfl
@[simp] theorem tk_327 : tk Tryz.prog 327 = some (false, 1) := by kernel_rfl
@[simp] theorem zvA_327 : zvA Tryz.prog 327 = some [AV.d (D.v Value.nilFunc)] := by kernel_rfl
@[simp] theorem tk_328 : tk Tryz.prog 328 = some (false, 1) := by kernel_rfl
@[simp] theorem zvA_328 : zvA Tryz.prog 328 = some [AV.d (D.v (Value.pointer none))] := by kernel_rfl
@[simp] theorem tk_330 : tk Tryz.prog 330 = some (false, 1) := by kernel_rfl
@[simp] theorem zvA_330 : zvA Tryz.prog 330 = some [AV.d (D.v Value.nilFunc)] := by kernel_rfl
@[simp] theorem tk_331 : tk Tryz.prog 331 = some (false, 1) := by kernel_rfl
@[simp] theorem zvA_331 : zvA Tryz.prog 331 = some [AV.d (D.v Value.nilFunc)] := by kernel_rfl
@[simp] theorem tk_332 : tk Tryz.prog 332 = some (false, 1) := by kernel_rfl
@[simp] theorem zvA_332 : zvA Tryz.prog 332 = some [AV.d (D.v (Value.pointer none))] := by kernel_rfl
@[simp] theorem tk_333 : tk Tryz.prog 333 = some (false, 1) := by kernel_rfl
@[simp] theorem zvA_333 : zvA Tryz.prog 333 = some [AV.d (D.v (Value.pointer none))] := by kernel_rfl
@[simp] theorem tk_334 : tk Tryz.prog 334 = some (false, 1) := by kernel_rfl
@[simp] theorem zvA_334 : zvA Tryz.prog 334 = some [AV.d (D.v Value.nilFunc)] := by kernel_rfl
@[simp] theorem tk_336 : tk Tryz.prog 336 = some (false, 1) := by kernel_rfl
@[simp] theorem zvA_336 : zvA Tryz.prog 336 = some [AV.d (D.v Value.nilFunc)] := by kernel_rfl
@[simp] theorem tk_339 : tk Tryz.prog 339 = some (false, 1) := by kernel_rfl
@[simp] theorem zvA_339 : zvA Tryz.prog 339 = some [AV.d (D.v Value.nilFunc)] := by kernel_rfl
@[simp] theorem tk_341 : tk Tryz.prog 341 = some (false, 1) := by kernel_rfl
@[simp] theorem zvA_341 : zvA Tryz.prog 341 = some [AV.d (D.v Value.nilFunc)] := by kernel_rfl
@[simp] theorem tk_349 : tk Tryz.prog 349 = some (false, 1) := by kernel_rfl
@[simp] theorem zvA_349 : zvA Tryz.prog 349 = some [AV.d (D.v Value.nilFunc)] := by kernel_rfl
@[simp] theorem okF_3 : okF Tryz.prog 3 = true := by kernel_rfl
@[simp] theorem okF_4 : okF Tryz.prog 4 = true := by kernel_rfl
@[simp] theorem okF_5 : okF Tryz.prog 5 = true := by kernel_rfl
@[simp] theorem okF_6 : okF Tryz.prog 6 = true := by kernel_rfl
@[simp] theorem okF_7 : okF Tryz.prog 7 = true := by kernel_rfl
@[simp] theorem okF_8 : okF Tryz.prog 8 = true := by kernel_rfl
@[simp] theorem okF_9 : okF Tryz.prog 9 = true := by kernel_rfl
@[simp] theorem okF_10 : okF Tryz.prog 10 = true := by kernel_rfl
@[simp] theorem okF_11 : okF Tryz.prog 11 = true := by kernel_rfl
@[simp] theorem okF_12 : okF Tryz.prog 12 = true := by kernel_rfl
@[simp] theorem okF_13 : okF Tryz.prog 13 = true := by kernel_rfl
@[simp] theorem okF_14 : okF Tryz.prog 14 = true := by kernel_rfl
@[simp] theorem okF_15 : okF Tryz.prog 15 = true := by kernel_rfl
@[simp] theorem okF_16 : okF Tryz.prog 16 = true := by kernel_rfl
@[simp] theorem okF_17 : okF Tryz.prog 17 = true := by kernel_rfl
@[simp] theorem okF_18 : okF Tryz.prog 18 = true := by kernel_rfl
@[simp] theorem okF_19 : okF Tryz.prog 19 = true := by kernel_rfl
@[simp] theorem okF_20 : okF Tryz.prog 20 = true := by kernel_rfl
@[simp] theorem okF_21 : okF Tryz.prog 21 = true := by kernel_rfl
@[simp] theorem okF_22 : okF Tryz.prog 22 = true := by kernel_rfl
@[simp] theorem okF_23 : okF Tryz.prog 23 = true := by kernel_rfl
@[simp] theorem okF_24 : okF Tryz.prog 24 = true := by kernel_rfl
@[simp] theorem okF_25 : okF Tryz.prog 25 = true := by kernel_rfl
@[simp] theorem okF_26 : okF Tryz.prog 26 = true := by kernel_rfl
@[simp] theorem okF_27 : okF Tryz.prog 27 = true := by kernel_rfl
@[simp] theorem okF_28 : okF Tryz.prog 28 = true := by kernel_rfl
@[simp] theorem okF_29 : okF Tryz.prog 29 = true := by kernel_rfl
@[simp] theorem okF_30 : okF Tryz.prog 30 = true := by kernel_rfl
@[simp] theorem okF_31 : okF Tryz.prog 31 = true := by kernel_rfl
@[simp] theorem okF_32 : okF Tryz.prog 32 = true := by kernel_rfl
@[simp] theorem okF_33 : okF Tryz.prog 33 = true := by kernel_rfl
@[simp] theorem okF_34 : okF Tryz.prog 34 = true := by kernel_rfl
@[simp] theorem okF_35 : okF Tryz.prog 35 = true := by kernel_rfl
@[simp] theorem okF_36 : okF Tryz.prog 36 = true := by kernel_rfl
@[simp] theorem okF_37 : okF Tryz.prog 37 = true := by kernel_rfl
@[simp] theorem okF_38 : okF Tryz.prog 38 = true := by kernel_rfl
@[simp] theorem okF_39 : okF Tryz.prog 39 = true := by kernel_rfl
@[simp] theorem okF_40 : okF Tryz.prog 40 = true := by kernel_rfl
@[simp] theorem okF_41 : okF Tryz.prog 41 = true := by kernel_rfl
@[simp] theorem okF_42 : okF Tryz.prog 42 = true := by kernel_rfl
@[simp] theorem okF_43 : okF Tryz.prog 43 = true := by kernel_rfl
@[simp] theorem okF_44 : okF Tryz.prog 44 = true := by kernel_rfl
@[simp] theorem okF_45 : okF Tryz.prog 45 = true := by kernel_rfl
@[simp] theorem okF_46 : okF Tryz.prog 46 = true := by kernel_rfl
@[simp] theorem okF_47 : okF Tryz.prog 47 = true := by kernel_rfl
@[simp] theorem okF_48 : okF Tryz.prog 48 = true := by kernel_rfl
@[simp] theorem okF_49 : okF Tryz.prog 49 = true := by kernel_rfl
@[simp] theorem okF_50 : okF Tryz.prog 50 = true := by kernel_rfl
@[simp] theorem okF_51 : okF Tryz.prog 51 = true := by kernel_rfl
@[simp] theorem okF_52 : okF Tryz.prog 52 = true := by kernel_rfl
@[simp] theorem okF_53 : okF Tryz.prog 53 = true := by kernel_rfl
@[simp] theorem okF_54 : okF Tryz.prog 54 = true := by kernel_rfl
@[simp] theorem okF_55 : okF Tryz.prog 55 = true := by kernel_rfl
@[simp] theorem okF_56 : okF Tryz.prog 56 = true := by kernel_rfl
@[simp] theorem okF_57 : okF Tryz.prog 57 = true := by kernel_rfl
@[simp] theorem okF_58 : okF Tryz.prog 58 = true := by kernel_rfl
@[simp] theorem okF_59 : okF Tryz.prog 59 = true := by kernel_rfl
@[simp] theorem okF_60 : okF Tryz.prog 60 = true := by kernel_rfl
@[simp] theorem okF_61 : okF Tryz.prog 61 = true := by kernel_rfl
@[simp] theorem okF_62 : okF Tryz.prog 62 = true := by kernel_rfl
@[simp] theorem okF_63 : okF Tryz.prog 63 = true := by kernel_rfl
@[simp] theorem okF_64 : okF Tryz.prog 64 = true := by kernel_rfl
@[simp] theorem okF_65 : okF Tryz.prog 65 = true := by kernel_rfl
@[simp] theorem okF_66 : okF Tryz.prog 66 = true := by kernel_rfl
@[simp] theorem okF_67 : okF Tryz.prog 67 = true := by kernel_rfl
@[simp] theorem okF_68 : okF Tryz.prog 68 = true := by kernel_rfl
@[simp] theorem okF_69 : okF Tryz.prog 69 = true := by kernel_rfl
@[simp] theorem okF_70 : okF Tryz.prog 70 = true := by kernel_rfl
@[simp] theorem okF_71 : okF Tryz.prog 71 = true := by kernel_rfl
@[simp] theorem okF_72 : okF Tryz.prog 72 = true := by kernel_rfl
@[simp] theorem okF_73 : okF Tryz.prog 73 = true := by kernel_rfl
@[simp] theorem okF_74 : okF Tryz.prog 74 = true := by kernel_rfl
@[simp] theorem okF_75 : okF Tryz.prog 75 = true := by kernel_rfl
@[simp] theorem okF_76 : okF Tryz.prog 76 = true := by kernel_rfl
@[simp] theorem okF_77 : okF Tryz.prog 77 = true := by kernel_rfl
@[simp] theorem okF_78 : okF Tryz.prog 78 = true := by kernel_rfl
@[simp] theorem okF_79 : okF Tryz.prog 79 = true := by kernel_rfl
@[simp] theorem okF_80 : okF Tryz.prog 80 = true := by kernel_rfl
@[simp] theorem okF_81 : okF Tryz.prog 81 = true := by kernel_rfl
@[simp] theorem okF_82 : okF Tryz.prog 82 = true := by kernel_rfl
@[simp] theorem okF_83 : okF Tryz.prog 83 = true := by kernel_rfl
@[simp] theorem okF_84 : okF Tryz.prog 84 = true := by kernel_rfl
@[simp] theorem okF_85 : okF Tryz.prog 85 = true := by kernel_rfl
@[simp] theorem okF_86 : okF Tryz.prog 86 = true := by kernel_rfl
@[simp] theorem okF_87 : okF Tryz.prog 87 = true := by kernel_rfl
@[simp] theorem okF_88 : okF Tryz.prog 88 = true := by kernel_rfl
@[simp] theorem okF_89 : okF Tryz.prog 89 = true := by kernel_rfl
@[simp] theorem okF_90 : okF Tryz.prog 90 = true := by kernel_rfl
@[simp] theorem okF_91 : okF Tryz.prog 91 = true := by kernel_rfl
@[simp] theorem okF_92 : okF Tryz.prog 92 = true := by kernel_rfl
@[simp] theorem okF_93 : okF Tryz.prog 93 = true := by kernel_rfl
@[simp] theorem okF_94 : okF Tryz.prog 94 = true := by kernel_rfl
@[simp] theorem okF_95 : okF Tryz.prog 95 = true := by kernel_rfl
@[simp] theorem okF_96 : okF Tryz.prog 96 = true := by kernel_rfl
@[simp] theorem okF_97 : okF Tryz.prog 97 = true := by kernel_rfl
@[simp] theorem okF_98 : okF Tryz.prog 98 = true := by kernel_rfl
@[simp] theorem okF_99 : okF Tryz.prog 99 = true := by kernel_rfl
@[simp] theorem okF_100 : okF Tryz.prog 100 = true := by kernel_rfl
@[simp] theorem okF_101 : okF Tryz.prog 101 = true := by kernel_rfl
@[simp] theorem okF_102 : okF Tryz.prog 102 = true := by kernel_rfl
@[simp] theorem okF_103 : okF Tryz.prog 103 = true := by kernel_rfl
@[simp] theorem okF_104 : okF Tryz.prog 104 = true := by kernel_rfl
@[simp] theorem okF_105 : okF Tryz.prog 105 = true := by kernel_rfl
@[simp] theorem okF_106 : okF Tryz.prog 106 = true := by kernel_rfl
@[simp] theorem okF_107 : okF Tryz.prog 107 = true := by kernel_rfl
@[simp] theorem okF_108 : okF Tryz.prog 108 = true := by kernel_rfl
@[simp] theorem okF_109 : okF Tryz.prog 109 = true := by kernel_rfl
@[simp] theorem okF_110 : okF Tryz.prog 110 = true := by kernel_rfl
@[simp] theorem okF_111 : okF Tryz.prog 111 = true := by kernel_rfl
@[simp] theorem okF_112 : okF Tryz.prog 112 = true := by kernel_rfl
@[simp] theorem okF_113 : okF Tryz.prog 113 = true := by kernel_rfl
@[simp] theorem okF_114 : okF Tryz.prog 114 = true := by kernel_rfl
@[simp] theorem okF_115 : okF Tryz.prog 115 = true := by kernel_rfl
@[simp] theorem okF_116 : okF Tryz.prog 116 = true := by kernel_rfl
@[simp] theorem okF_117 : okF Tryz.prog 117 = true := by kernel_rfl
@[simp] theorem okF_118 : okF Tryz.prog 118 = true := by kernel_rfl
@[simp] theorem okF_119 : okF Tryz.prog 119 = true := by kernel_rfl
@[simp] theorem okF_120 : okF Tryz.prog 120 = true := by kernel_rfl
@[simp] theorem okF_121 : okF Tryz.prog 121 = true := by kernel_rfl
@[simp] theorem okF_122 : okF Tryz.prog 122 = true := by kernel_rfl
@[simp] theorem okF_123 : okF Tryz.prog 123 = true := by kernel_rfl
@[simp] theorem okF_124 : okF Tryz.prog 124 = true := by kernel_rfl
@[simp] theorem okF_125 : okF Tryz.prog 125 = true := by kernel_rfl
@[simp] theorem okF_126 : okF Tryz.prog 126 = true := by kernel_rfl
@[simp] theorem okF_127 : okF Tryz.prog 127 = true := by kernel_rfl
@[simp] theorem okF_128 : okF Tryz.prog 128 = true := by kernel_rfl
@[simp] theorem okF_129 : okF Tryz.prog 129 = true := by kernel_rfl
@[simp] theorem okF_130 : okF Tryz.prog 130 = true := by kernel_rfl
@[simp] theorem okF_131 : okF Tryz.prog 131 = true := by kernel_rfl
@[simp] theorem okF_132 : okF Tryz.prog 132 = true := by kernel_rfl
@[simp] theorem okF_133 : okF Tryz.prog 133 = true := by kernel_rfl
@[simp] theorem okF_134 : okF Tryz.prog 134 = true := by kernel_rfl
@[simp] theorem okF_135 : okF Tryz.prog 135 = true := by kernel_rfl
@[simp] theorem okF_136 : okF Tryz.prog 136 = true := by kernel_rfl
@[simp] theorem okF_137 : okF Tryz.prog 137 = true := by kernel_rfl
@[simp] theorem okF_138 : okF Tryz.prog 138 = true := by kernel_rfl
@[simp] theorem okF_139 : okF Tryz.prog 139 = true := by kernel_rfl
@[simp] theorem okF_140 : okF Tryz.prog 140 = true := by kernel_rfl
@[simp] theorem okF_141 : okF Tryz.prog 141 = true := by kernel_rfl
@[simp] theorem okF_142 : okF Tryz.prog 142 = true := by kernel_rfl
@[simp] theorem okF_143 : okF Tryz.prog 143 = true := by kernel_rfl
@[simp] theorem okF_144 : okF Tryz.prog 144 = true := by kernel_rfl
@[simp] theorem okF_145 : okF Tryz.prog 145 = true := by kernel_rfl
@[simp] theorem okF_146 : okF Tryz.prog 146 = true := by kernel_rfl
@[simp] theorem okF_147 : okF Tryz.prog 147 = true := by kernel_rfl
@[simp] theorem okF_148 : okF Tryz.prog 148 = true := by kernel_rfl
@[simp] theorem okF_149 : okF Tryz.prog 149 = true := by kernel_rfl
@[simp] theorem okF_150 : okF Tryz.prog 150 = true := by kernel_rfl
@[simp] theorem okF_151 : okF Tryz.prog 151 = true := by kernel_rfl
@[simp] theorem okF_152 : okF Tryz.prog 152 = true := by kernel_rfl
@[simp] theorem okF_153 : okF Tryz.prog 153 = true := by kernel_rfl
@[simp] theorem okF_154 : okF Tryz.prog 154 = true := by kernel_rfl
@[simp] theorem okF_155 : okF Tryz.prog 155 = true := by kernel_rfl
@[simp] theorem okF_156 : okF Tryz.prog 156 = true := by kernel_rfl
@[simp] theorem okF_157 : okF Tryz.prog 157 = true := by kernel_rfl
@[simp] theorem okF_158 : okF Tryz.prog 158 = true := by kernel_rfl
@[simp] theorem okF_159 : okF Tryz.prog 159 = true := by kernel_rfl
@[simp] theorem okF_160 : okF Tryz.prog 160 = true := by kernel_rfl
@[simp] theorem okF_161 : okF Tryz.prog 161 = true := by kernel_rfl
@[simp] theorem okF_162 : okF Tryz.prog 162 = true := by kernel_rfl
@[simp] theorem okF_163 : okF Tryz.prog 163 = true := by kernel_rfl
@[simp] theorem okF_164 : okF Tryz.prog 164 = true := by kernel_rfl
@[simp] theorem okF_165 : okF Tryz.prog 165 = true := by kernel_rfl
@[simp] theorem okF_166 : okF Tryz.prog 166 = true := by kernel_rfl
@[simp] theorem okF_167 : okF Tryz.prog 167 = true := by kernel_rfl
@[simp] theorem okF_168 : okF Tryz.prog 168 = true := by kernel_rfl
@[simp] theorem okF_169 : okF Tryz.prog 169 = true := by kernel_rfl
@[simp] theorem okF_170 : okF Tryz.prog 170 = true := by kernel_rfl
@[simp] theorem okF_171 : okF Tryz.prog 171 = true := by kernel_rfl
@[simp] theorem okF_172 : okF Tryz.prog 172 = true := by kernel_rfl
@[simp] theorem okF_173 : okF Tryz.prog 173 = true := by kernel_rfl
@[simp] theorem okF_174 : okF Tryz.prog 174 = true := by kernel_rfl
@[simp] theorem okF_175 : okF Tryz.prog 175 = true := by kernel_rfl
@[simp] theorem okF_176 : okF Tryz.prog 176 = true := by kernel_rfl
@[simp] theorem okF_177 : okF Tryz.prog 177 = true := by kernel_rfl
@[simp] theorem okF_178 : okF Tryz.prog 178 = true := by kernel_rfl
@[simp] theorem okF_179 : okF Tryz.prog 179 = true := by kernel_rfl
@[simp] theorem okF_180 : okF Tryz.prog 180 = true := by kernel_rfl
@[simp] theorem okF_181 : okF Tryz.prog 181 = true := by kernel_rfl
@[simp] theorem okF_182 : okF Tryz.prog 182 = true := by kernel_rfl
@[simp] theorem okF_183 : okF Tryz.prog 183 = true := by kernel_rfl
@[simp] theorem okF_184 : okF Tryz.prog 184 = true := by kernel_rfl
@[simp] theorem okF_185 : okF Tryz.prog 185 = true := by kernel_rfl
@[simp] theorem okF_186 : okF Tryz.prog 186 = true := by kernel_rfl
@[simp] theorem okF_187 : okF Tryz.prog 187 = true := by kernel_rfl
@[simp] theorem okF_188 : okF Tryz.prog 188 = true := by kernel_rfl
@[simp] theorem okF_189 : okF Tryz.prog 189 = true := by kernel_rfl
@[simp] theorem okF_190 : okF Tryz.prog 190 = true := by kernel_rfl
@[simp] theorem okF_191 : okF Tryz.prog 191 = true := by kernel_rfl
@[simp] theorem okF_192 : okF Tryz.prog 192 = true := by kernel_rfl
@[simp] theorem okF_193 : okF Tryz.prog 193 = true := by kernel_rfl
@[simp] theorem okF_194 : okF Tryz.prog 194 = true := by kernel_rfl
@[simp] theorem okF_195 : okF Tryz.prog 195 = true := by kernel_rfl
@[simp] theorem okF_196 : okF Tryz.prog 196 = true := by kernel_rfl
@[simp] theorem okF_197 : okF Tryz.prog 197 = true := by kernel_rfl
@[simp] theorem okF_198 : okF Tryz.prog 198 = true := by kernel_rfl
@[simp] theorem okF_199 : okF Tryz.prog 199 = true := by kernel_rfl
@[simp] theorem okF_200 : okF Tryz.prog 200 = true := by kernel_rfl
@[simp] theorem okF_201 : okF Tryz.prog 201 = true := by kernel_rfl
@[simp] theorem okF_202 : okF Tryz.prog 202 = true := by kernel_rfl
@[simp] theorem okF_203 : okF Tryz.prog 203 = true := by kernel_rfl
@[simp] theorem okF_204 : okF Tryz.prog 204 = true := by kernel_rfl
@[simp] theorem okF_205 : okF Tryz.prog 205 = true := by kernel_rfl
@[simp] theorem okF_206 : okF Tryz.prog 206 = true := by kernel_rfl
@[simp] theorem okF_207 : okF Tryz.prog 207 = true := by kernel_rfl
@[simp] theorem okF_208 : okF Tryz.prog 208 = true := by kernel_rfl
@[simp] theorem okF_209 : okF Tryz.prog 209 = true := by kernel_rfl
@[simp] theorem okF_210 : okF Tryz.prog 210 = true := by kernel_rfl
@[simp] theorem okF_211 : okF Tryz.prog 211 = true := by kernel_rfl
@[simp] theorem okF_212 : okF Tryz.prog 212 = true := by kernel_rfl
@[simp] theorem okF_213 : okF Tryz.prog 213 = true := by kernel_rfl
@[simp] theorem okF_214 : okF Tryz.prog 214 = true := by kernel_rfl
@[simp] theorem okF_215 : okF Tryz.prog 215 = true := by kernel_rfl
@[simp] theorem okF_216 : okF Tryz.prog 216 = true := by kernel_rfl
@[simp] theorem okF_217 : okF Tryz.prog 217 = true := by kernel_rfl
@[simp] theorem okF_218 : okF Tryz.prog 218 = true := by kernel_rfl
@[simp] theorem okF_219 : okF Tryz.prog 219 = true := by kernel_rfl
@[simp] theorem okF_220 : okF Tryz.prog 220 = true := by kernel_rfl
@[simp] theorem okF_221 : okF Tryz.prog 221 = true := by kernel_rfl
@[simp] theorem okF_222 : okF Tryz.prog 222 = true := by kernel_rfl
@[simp] theorem okF_223 : okF Tryz.prog 223 = true := by kernel_rfl
@[simp] theorem okF_224 : okF Tryz.prog 224 = true := by kernel_rfl
@[simp] theorem okF_225 : okF Tryz.prog 225 = true := by kernel_rfl
@[simp] theorem okF_226 : okF Tryz.prog 226 = true := by kernel_rfl
@[simp] theorem okF_227 : okF Tryz.prog 227 = true := by kernel_rfl
@[simp] theorem okF_228 : okF Tryz.prog 228 = true := by kernel_rfl
@[simp] theorem okF_229 : okF Tryz.prog 229 = true := by kernel_rfl
@[simp] theorem okF_230 : okF Tryz.prog 230 = true := by kernel_rfl
@[simp] theorem okF_231 : okF Tryz.prog 231 = true := by kernel_rfl
@[simp] theorem okF_232 : okF Tryz.prog 232 = true := by kernel_rfl
@[simp] theorem okF_233 : okF Tryz.prog 233 = true := by kernel_rfl
@[simp] theorem okF_234 : okF Tryz.prog 234 = true := by kernel_rfl
@[simp] theorem okF_235 : okF Tryz.prog 235 = true := by kernel_rfl
@[simp] theorem okF_236 : okF Tryz.prog 236 = true := by kernel_rfl
@[simp] theorem okF_237 : okF Tryz.prog 237 = true := by kernel_rfl
@[simp] theorem okF_238 : okF Tryz.prog 238 = true := by kernel_rfl
@[simp] theorem okF_239 : okF Tryz.prog 239 = true := by kernel_rfl
@[simp] theorem okF_240 : okF Tryz.prog 240 = true := by kernel_rfl
@[simp] theorem okF_241 : okF Tryz.prog 241 = true := by kernel_rfl
@[simp] theorem okF_242 : okF Tryz.prog 242 = true := by kernel_rfl
@[simp] theorem okF_243 : okF Tryz.prog 243 = true := by kernel_rfl
@[simp] theorem okF_244 : okF Tryz.prog 244 = true := by kernel_rfl
@[simp] theorem okF_245 : okF Tryz.prog 245 = true := by kernel_rfl
@[simp] theorem okF_246 : okF Tryz.prog 246 = true := by kernel_rfl
@[simp] theorem okF_247 : okF Tryz.prog 247 = true := by kernel_rfl
@[simp] theorem okF_248 : okF Tryz.prog 248 = true := by kernel_rfl
@[simp] theorem okF_249 : okF Tryz.prog 249 = true := by kernel_rfl
@[simp] theorem okF_250 : okF Tryz.prog 250 = true := by kernel_rfl
@[simp] theorem okF_251 : okF Tryz.prog 251 = true := by kernel_rfl
@[simp] theorem okF_252 : okF Tryz.prog 252 = true := by kernel_rfl
@[simp] theorem okF_253 : okF Tryz.prog 253 = true := by kernel_rfl
@[simp] theorem okF_254 : okF Tryz.prog 254 = true := by kernel_rfl
@[simp] theorem okF_255 : okF Tryz.prog 255 = true := by kernel_rfl
@[simp] theorem okF_256 : okF Tryz.prog 256 = true := by kernel_rfl
@[simp] theorem okF_257 : okF Tryz.prog 257 = true := by kernel_rfl
@[simp] theorem okF_258 : okF Tryz.prog 258 = true := by kernel_rfl
@[simp] theorem okF_259 : okF Tryz.prog 259 = true := by kernel_rfl
@[simp] theorem okF_260 : okF Tryz.prog 260 = true := by kernel_rfl
@[simp] theorem okF_261 : okF Tryz.prog 261 = true := by kernel_rfl
@[simp] theorem okF_262 : okF Tryz.prog 262 = true := by kernel_rfl
@[simp] theorem okF_263 : okF Tryz.prog 263 = true := by kernel_rfl
@[simp] theorem okF_264 : okF Tryz.prog 264 = true := by kernel_rfl
@[simp] theorem okF_265 : okF Tryz.prog 265 = true := by kernel_rfl
@[simp] theorem okF_266 : okF Tryz.prog 266 = true := by kernel_rfl
@[simp] theorem okF_267 : okF Tryz.prog 267 = true := by kernel_rfl
@[simp] theorem okF_269 : okF Tryz.prog 269 = true := by kernel_rfl
@[simp] theorem okF_270 : okF Tryz.prog 270 = true := by kernel_rfl
@[simp] theorem okF_271 : okF Tryz.prog 271 = true := by kernel_rfl
@[simp] theorem okF_272 : okF Tryz.prog 272 = true := by kernel_rfl
@[simp] theorem okF_273 : okF Tryz.prog 273 = true := by kernel_rfl
@[simp] theorem okF_274 : okF Tryz.prog 274 = true := by kernel_rfl
@[simp] theorem okF_275 : okF Tryz.prog 275 = true := by kernel_rfl
@[simp] theorem okF_276 : okF Tryz.prog 276 = true := by kernel_rfl
@[simp] theorem okF_277 : okF Tryz.prog 277 = true := by kernel_rfl
@[simp] theorem okF_278 : okF Tryz.prog 278 = true := by kernel_rfl
@[simp] theorem okF_279 : okF Tryz.prog 279 = true := by kernel_rfl
@[simp] theorem okF_280 : okF Tryz.prog 280 = true := by kernel_rfl
@[simp] theorem okF_281 : okF Tryz.prog 281 = true := by kernel_rfl
@[simp] theorem okF_282 : okF Tryz.prog 282 = true := by kernel_rfl
@[simp] theorem okF_283 : okF Tryz.prog 283 = true := by kernel_rfl
@[simp] theorem okF_284 : okF Tryz.prog 284 = true := by kernel_rfl
@[simp] theorem okF_285 : okF Tryz.prog 285 = true := by kernel_rfl
@[simp] theorem okF_287 : okF Tryz.prog 287 = true := by kernel_rfl
@[simp] theorem okF_289 : okF Tryz.prog 289 = true := by kernel_rfl
@[simp] theorem okF_290 : okF Tryz.prog 290 = true := by kernel_rfl
@[simp] theorem okF_291 : okF Tryz.prog 291 = true := by kernel_rfl
@[simp] theorem okF_292 : okF Tryz.prog 292 = true := by kernel_rfl
@[simp] theorem okF_293 : okF Tryz.prog 293 = true := by kernel_rfl
@[simp] theorem okF_294 : okF Tryz.prog 294 = true := by kernel_rfl
@[simp] theorem okF_295 : okF Tryz.prog 295 = true := by kernel_rfl
@[simp] theorem okF_297 : okF Tryz.prog 297 = true := by kernel_rfl
end Go.Proofs.YtoeimidochjddaaGreatDoor
