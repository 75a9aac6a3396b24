/- Closed facts on the program's types and functions, made by program: what the calculator asks of its tables. -/
import Derived.Test.YtccjeoghjioamaaGreatDoorProg
import Derived.Test.YtccjeoghjioamaaGreatDoorAh
import Derived.KernelRfl
namespace Go.Proofs.YtccjeoghjioamaaGreatDoor
set_option maxRecDepth 100000
@[simp] theorem tk_7 : tk Tryz.prog 7 = some (true, 4) := by kernel_rfl
@[simp] theorem places_7 : places Tryz.prog 7 = some [(0, 1), (1, 1), (2, 1), (3, 1)] := by kernel_rfl
@[simp] theorem zvA_7 : zvA Tryz.prog 7 = some [AV.d (D.v (Value.int IntKind.i64 (0))), AV.d (D.v (Value.int IntKind.i64 (0))), AV.d (D.v (Value.bool false)), AV.d (D.v (Value.int IntKind.u8 (0)))] := by kernel_rfl
@[simp] theorem ar_7 : ar Tryz.prog 7 = none := by kernel_rfl
@[simp] theorem fo_7_0 : fo Tryz.prog 7 0 = some 0 := by kernel_rfl
@[simp] theorem ft_7_0 : ft Tryz.prog 7 0 = some (2, 0) := by kernel_rfl
@[simp] theorem fo_7_1 : fo Tryz.prog 7 1 = some 1 := by kernel_rfl
@[simp] theorem ft_7_1 : ft Tryz.prog 7 1 = some (3, 1) := by kernel_rfl
@[simp] theorem fo_7_2 : fo Tryz.prog 7 2 = some 2 := by kernel_rfl
@[simp] theorem ft_7_2 : ft Tryz.prog 7 2 = some (4, 2) := by kernel_rfl
@[simp] theorem fo_7_3 : fo Tryz.prog 7 3 = some 3 := by kernel_rfl
@[simp] theorem ft_7_3 : ft Tryz.prog 7 3 = some (6, 3) := by kernel_rfl
@[simp] theorem tk_8 : tk Tryz.prog 8 = some (true, 4) := by kernel_rfl
@[simp] theorem places_8 : places Tryz.prog 8 = some [(0, 1), (1, 1), (2, 1), (3, 1)] := by kernel_rfl
@[simp] theorem zvA_8 : zvA Tryz.prog 8 = some [AV.d (D.v (Value.int IntKind.i64 (0))), AV.d (D.v (Value.int IntKind.i64 (0))), AV.d (D.v (Value.bool false)), AV.d (D.v (Value.int IntKind.u8 (0)))] := by kernel_rfl
@[simp] theorem ar_8 : ar Tryz.prog 8 = none := by kernel_rfl
@[simp] theorem fo_8_0 : fo Tryz.prog 8 0 = some 0 := by kernel_rfl
@[simp] theorem ft_8_0 : ft Tryz.prog 8 0 = some (2, 0) := by kernel_rfl
@[simp] theorem fo_8_1 : fo Tryz.prog 8 1 = some 1 := by kernel_rfl
@[simp] theorem ft_8_1 : ft Tryz.prog 8 1 = some (3, 1) := by kernel_rfl
@[simp] theorem fo_8_2 : fo Tryz.prog 8 2 = some 2 := by kernel_rfl
@[simp] theorem ft_8_2 : ft Tryz.prog 8 2 = some (4, 2) := by kernel_rfl
@[simp] theorem fo_8_3 : fo Tryz.prog 8 3 = some 3 := by kernel_rfl
@[simp] theorem ft_8_3 : ft Tryz.prog 8 3 = some (6, 3) := by kernel_rfl
@[simp] theorem tk_13 : tk Tryz.prog 13 = some (true, 2) := by kernel_rfl
@[simp] theorem places_13 : places Tryz.prog 13 = some [(0, 1), (1, 1)] := by kernel_rfl
@[simp] theorem zvA_13 : zvA Tryz.prog 13 = some [AV.d (D.v (Value.string { data := #[] })), AV.d (D.v (Value.int IntKind.u64 (0)))] := by kernel_rfl
@[simp] theorem ar_13 : ar Tryz.prog 13 = none := by kernel_rfl
@[simp] theorem fo_13_0 : fo Tryz.prog 13 0 = some 0 := by kernel_rfl
@[simp] theorem ft_13_0 : ft Tryz.prog 13 0 = some (9, 0) := by kernel_rfl
@[simp] theorem fo_13_1 : fo Tryz.prog 13 1 = some 1 := by kernel_rfl
@[simp] theorem ft_13_1 : ft Tryz.prog 13 1 = some (12, 1) := by kernel_rfl
@[simp] theorem tk_14 : tk Tryz.prog 14 = some (true, 2) := by kernel_rfl
@[simp] theorem places_14 : places Tryz.prog 14 = some [(0, 1), (1, 1)] := by kernel_rfl
@[simp] theorem zvA_14 : zvA Tryz.prog 14 = some [AV.d (D.v (Value.string { data := #[] })), AV.d (D.v (Value.int IntKind.u64 (0)))] := by kernel_rfl
@[simp] theorem ar_14 : ar Tryz.prog 14 = none := by kernel_rfl
@[simp] theorem fo_14_0 : fo Tryz.prog 14 0 = some 0 := by kernel_rfl
@[simp] theorem ft_14_0 : ft Tryz.prog 14 0 = some (9, 0) := by kernel_rfl
@[simp] theorem fo_14_1 : fo Tryz.prog 14 1 = some 1 := by kernel_rfl
@[simp] theorem ft_14_1 : ft Tryz.prog 14 1 = some (12, 1) := by kernel_rfl
@[simp] theorem tk_18 : tk Tryz.prog 18 = some (true, 1) := by kernel_rfl
@[simp] theorem places_18 : places Tryz.prog 18 = some [(0, 1)] := by kernel_rfl
@[simp] theorem zvA_18 : zvA Tryz.prog 18 = some [AV.d (D.v (Value.pointer none))] := by kernel_rfl
@[simp] theorem ar_18 : ar Tryz.prog 18 = none := by kernel_rfl
@[simp] theorem fo_18_0 : fo Tryz.prog 18 0 = some 0 := by kernel_rfl
@[simp] theorem ft_18_0 : ft Tryz.prog 18 0 = some (17, 0) := by kernel_rfl
@[simp] theorem tk_19 : tk Tryz.prog 19 = some (true, 1) := by kernel_rfl
@[simp] theorem places_19 : places Tryz.prog 19 = some [(0, 1)] := by kernel_rfl
@[simp] theorem zvA_19 : zvA Tryz.prog 19 = some [AV.d (D.v (Value.pointer none))] := by kernel_rfl
@[simp] theorem ar_19 : ar Tryz.prog 19 = none := by kernel_rfl
@[simp] theorem fo_19_0 : fo Tryz.prog 19 0 = some 0 := by kernel_rfl
@[simp] theorem ft_19_0 : ft Tryz.prog 19 0 = some (17, 0) := by kernel_rfl
@[simp] theorem tk_24 : tk Tryz.prog 24 = some (true, 5) := by kernel_rfl
@[simp] theorem places_24 : places Tryz.prog 24 = some [(0, 1), (1, 1), (2, 1), (3, 1), (4, 1)] := by kernel_rfl
@[simp] theorem zvA_24 : zvA Tryz.prog 24 = some [AV.d (D.v (Value.int IntKind.i64 (0))), AV.d (D.v (Value.int IntKind.u32 (0))), AV.d (D.v (Value.int IntKind.i64 (0))), AV.d (D.v (Value.int IntKind.i64 (0))), AV.d (D.v (Value.slice none 0 0))] := by kernel_rfl
@[simp] theorem ar_24 : ar Tryz.prog 24 = none := by kernel_rfl
@[simp] theorem fo_24_0 : fo Tryz.prog 24 0 = some 0 := by kernel_rfl
@[simp] theorem ft_24_0 : ft Tryz.prog 24 0 = some (3, 0) := by kernel_rfl
@[simp] theorem fo_24_1 : fo Tryz.prog 24 1 = some 1 := by kernel_rfl
@[simp] theorem ft_24_1 : ft Tryz.prog 24 1 = some (22, 1) := by kernel_rfl
@[simp] theorem fo_24_2 : fo Tryz.prog 24 2 = some 2 := by kernel_rfl
@[simp] theorem ft_24_2 : ft Tryz.prog 24 2 = some (3, 2) := by kernel_rfl
@[simp] theorem fo_24_3 : fo Tryz.prog 24 3 = some 3 := by kernel_rfl
@[simp] theorem ft_24_3 : ft Tryz.prog 24 3 = some (3, 3) := by kernel_rfl
@[simp] theorem fo_24_4 : fo Tryz.prog 24 4 = some 4 := by kernel_rfl
@[simp] theorem ft_24_4 : ft Tryz.prog 24 4 = some (23, 4) := by kernel_rfl
@[simp] theorem tk_25 : tk Tryz.prog 25 = some (true, 5) := by kernel_rfl
@[simp] theorem places_25 : places Tryz.prog 25 = some [(0, 1), (1, 1), (2, 1), (3, 1), (4, 1)] := by kernel_rfl
@[simp] theorem zvA_25 : zvA Tryz.prog 25 = some [AV.d (D.v (Value.int IntKind.i64 (0))), AV.d (D.v (Value.int IntKind.u32 (0))), AV.d (D.v (Value.int IntKind.i64 (0))), AV.d (D.v (Value.int IntKind.i64 (0))), AV.d (D.v (Value.slice none 0 0))] := by kernel_rfl
@[simp] theorem ar_25 : ar Tryz.prog 25 = none := by kernel_rfl
@[simp] theorem fo_25_0 : fo Tryz.prog 25 0 = some 0 := by kernel_rfl
@[simp] theorem ft_25_0 : ft Tryz.prog 25 0 = some (3, 0) := by kernel_rfl
@[simp] theorem fo_25_1 : fo Tryz.prog 25 1 = some 1 := by kernel_rfl
@[simp] theorem ft_25_1 : ft Tryz.prog 25 1 = some (22, 1) := by kernel_rfl
@[simp] theorem fo_25_2 : fo Tryz.prog 25 2 = some 2 := by kernel_rfl
@[simp] theorem ft_25_2 : ft Tryz.prog 25 2 = some (3, 2) := by kernel_rfl
@[simp] theorem fo_25_3 : fo Tryz.prog 25 3 = some 3 := by kernel_rfl
@[simp] theorem ft_25_3 : ft Tryz.prog 25 3 = some (3, 3) := by kernel_rfl
@[simp] theorem fo_25_4 : fo Tryz.prog 25 4 = some 4 := by kernel_rfl
@[simp] theorem ft_25_4 : ft Tryz.prog 25 4 = some (23, 4) := by kernel_rfl
@[simp] theorem tk_30 : tk Tryz.prog 30 = some (true, 5) := by kernel_rfl
@[simp] theorem places_30 : places Tryz.prog 30 = some [(0, 1), (1, 1), (2, 1), (3, 1), (4, 1)] := by kernel_rfl
@[simp] theorem zvA_30 : zvA Tryz.prog 30 = some [AV.d (D.v (Value.int IntKind.i64 (0))), AV.d (D.v (Value.int IntKind.u32 (0))), AV.d (D.v (Value.string { data := #[] })), AV.d (D.v (Value.int IntKind.i64 (0))), AV.d (D.v (Value.slice none 0 0))] := by kernel_rfl
@[simp] theorem ar_30 : ar Tryz.prog 30 = none := by kernel_rfl
@[simp] theorem fo_30_0 : fo Tryz.prog 30 0 = some 0 := by kernel_rfl
@[simp] theorem ft_30_0 : ft Tryz.prog 30 0 = some (3, 0) := by kernel_rfl
@[simp] theorem fo_30_1 : fo Tryz.prog 30 1 = some 1 := by kernel_rfl
@[simp] theorem ft_30_1 : ft Tryz.prog 30 1 = some (22, 1) := by kernel_rfl
@[simp] theorem fo_30_2 : fo Tryz.prog 30 2 = some 2 := by kernel_rfl
@[simp] theorem ft_30_2 : ft Tryz.prog 30 2 = some (9, 2) := by kernel_rfl
@[simp] theorem fo_30_3 : fo Tryz.prog 30 3 = some 3 := by kernel_rfl
@[simp] theorem ft_30_3 : ft Tryz.prog 30 3 = some (3, 3) := by kernel_rfl
@[simp] theorem fo_30_4 : fo Tryz.prog 30 4 = some 4 := by kernel_rfl
@[simp] theorem ft_30_4 : ft Tryz.prog 30 4 = some (29, 4) := by kernel_rfl
@[simp] theorem tk_31 : tk Tryz.prog 31 = some (true, 5) := by kernel_rfl
@[simp] theorem places_31 : places Tryz.prog 31 = some [(0, 1), (1, 1), (2, 1), (3, 1), (4, 1)] := by kernel_rfl
@[simp] theorem zvA_31 : zvA Tryz.prog 31 = some [AV.d (D.v (Value.int IntKind.i64 (0))), AV.d (D.v (Value.int IntKind.u32 (0))), AV.d (D.v (Value.string { data := #[] })), AV.d (D.v (Value.int IntKind.i64 (0))), AV.d (D.v (Value.slice none 0 0))] := by kernel_rfl
@[simp] theorem ar_31 : ar Tryz.prog 31 = none := by kernel_rfl
@[simp] theorem fo_31_0 : fo Tryz.prog 31 0 = some 0 := by kernel_rfl
@[simp] theorem ft_31_0 : ft Tryz.prog 31 0 = some (3, 0) := by kernel_rfl
@[simp] theorem fo_31_1 : fo Tryz.prog 31 1 = some 1 := by kernel_rfl
@[simp] theorem ft_31_1 : ft Tryz.prog 31 1 = some (22, 1) := by kernel_rfl
@[simp] theorem fo_31_2 : fo Tryz.prog 31 2 = some 2 := by kernel_rfl
@[simp] theorem ft_31_2 : ft Tryz.prog 31 2 = some (9, 2) := by kernel_rfl
@[simp] theorem fo_31_3 : fo Tryz.prog 31 3 = some 3 := by kernel_rfl
@[simp] theorem ft_31_3 : ft Tryz.prog 31 3 = some (3, 3) := by kernel_rfl
@[simp] theorem fo_31_4 : fo Tryz.prog 31 4 = some 4 := by kernel_rfl
@[simp] theorem ft_31_4 : ft Tryz.prog 31 4 = some (29, 4) := by kernel_rfl
@[simp] theorem tk_38 : tk Tryz.prog 38 = some (true, 2) := by kernel_rfl
@[simp] theorem places_38 : places Tryz.prog 38 = some [(0, 1), (1, 1)] := by kernel_rfl
@[simp] theorem zvA_38 : zvA Tryz.prog 38 = some [AV.d (D.v (Value.int IntKind.u32 (0))), AV.d (D.v (Value.slice none 0 0))] := by kernel_rfl
@[simp] theorem ar_38 : ar Tryz.prog 38 = none := by kernel_rfl
@[simp] theorem fo_38_0 : fo Tryz.prog 38 0 = some 0 := by kernel_rfl
@[simp] theorem ft_38_0 : ft Tryz.prog 38 0 = some (22, 0) := by kernel_rfl
@[simp] theorem fo_38_1 : fo Tryz.prog 38 1 = some 1 := by kernel_rfl
@[simp] theorem ft_38_1 : ft Tryz.prog 38 1 = some (37, 1) := by kernel_rfl
@[simp] theorem tk_39 : tk Tryz.prog 39 = some (true, 2) := by kernel_rfl
@[simp] theorem places_39 : places Tryz.prog 39 = some [(0, 1), (1, 1)] := by kernel_rfl
@[simp] theorem zvA_39 : zvA Tryz.prog 39 = some [AV.d (D.v (Value.int IntKind.u32 (0))), AV.d (D.v (Value.slice none 0 0))] := by kernel_rfl
@[simp] theorem ar_39 : ar Tryz.prog 39 = none := by kernel_rfl
@[simp] theorem fo_39_0 : fo Tryz.prog 39 0 = some 0 := by kernel_rfl
@[simp] theorem ft_39_0 : ft Tryz.prog 39 0 = some (22, 0) := by kernel_rfl
@[simp] theorem fo_39_1 : fo Tryz.prog 39 1 = some 1 := by kernel_rfl
@[simp] theorem ft_39_1 : ft Tryz.prog 39 1 = some (37, 1) := by kernel_rfl
@[simp] theorem tk_43 : tk Tryz.prog 43 = some (true, 5) := by kernel_rfl
@[simp] theorem places_43 : places Tryz.prog 43 = some [(0, 1), (1, 1), (2, 1), (3, 1), (4, 1)] := by kernel_rfl
@[simp] theorem zvA_43 : zvA Tryz.prog 43 = some [AV.d (D.v (Value.int IntKind.i64 (0))), AV.d (D.v (Value.int IntKind.i64 (0))), AV.d (D.v (Value.int IntKind.i64 (0))), AV.d (D.v (Value.slice none 0 0)), AV.d (D.v (Value.slice none 0 0))] := by kernel_rfl
@[simp] theorem ar_43 : ar Tryz.prog 43 = none := by kernel_rfl
@[simp] theorem fo_43_0 : fo Tryz.prog 43 0 = some 0 := by kernel_rfl
@[simp] theorem ft_43_0 : ft Tryz.prog 43 0 = some (3, 0) := by kernel_rfl
@[simp] theorem fo_43_1 : fo Tryz.prog 43 1 = some 1 := by kernel_rfl
@[simp] theorem ft_43_1 : ft Tryz.prog 43 1 = some (3, 1) := by kernel_rfl
@[simp] theorem fo_43_2 : fo Tryz.prog 43 2 = some 2 := by kernel_rfl
@[simp] theorem ft_43_2 : ft Tryz.prog 43 2 = some (3, 2) := by kernel_rfl
@[simp] theorem fo_43_3 : fo Tryz.prog 43 3 = some 3 := by kernel_rfl
@[simp] theorem ft_43_3 : ft Tryz.prog 43 3 = some (23, 3) := by kernel_rfl
@[simp] theorem fo_43_4 : fo Tryz.prog 43 4 = some 4 := by kernel_rfl
@[simp] theorem ft_43_4 : ft Tryz.prog 43 4 = some (42, 4) := by kernel_rfl
@[simp] theorem tk_44 : tk Tryz.prog 44 = some (true, 5) := by kernel_rfl
@[simp] theorem places_44 : places Tryz.prog 44 = some [(0, 1), (1, 1), (2, 1), (3, 1), (4, 1)] := by kernel_rfl
@[simp] theorem zvA_44 : zvA Tryz.prog 44 = some [AV.d (D.v (Value.int IntKind.i64 (0))), AV.d (D.v (Value.int IntKind.i64 (0))), AV.d (D.v (Value.int IntKind.i64 (0))), AV.d (D.v (Value.slice none 0 0)), AV.d (D.v (Value.slice none 0 0))] := by kernel_rfl
@[simp] theorem ar_44 : ar Tryz.prog 44 = none := by kernel_rfl
@[simp] theorem fo_44_0 : fo Tryz.prog 44 0 = some 0 := by kernel_rfl
@[simp] theorem ft_44_0 : ft Tryz.prog 44 0 = some (3, 0) := by kernel_rfl
@[simp] theorem fo_44_1 : fo Tryz.prog 44 1 = some 1 := by kernel_rfl
@[simp] theorem ft_44_1 : ft Tryz.prog 44 1 = some (3, 1) := by kernel_rfl
@[simp] theorem fo_44_2 : fo Tryz.prog 44 2 = some 2 := by kernel_rfl
@[simp] theorem ft_44_2 : ft Tryz.prog 44 2 = some (3, 2) := by kernel_rfl
@[simp] theorem fo_44_3 : fo Tryz.prog 44 3 = some 3 := by kernel_rfl
@[simp] theorem ft_44_3 : ft Tryz.prog 44 3 = some (23, 3) := by kernel_rfl
@[simp] theorem fo_44_4 : fo Tryz.prog 44 4 = some 4 := by kernel_rfl
@[simp] theorem ft_44_4 : ft Tryz.prog 44 4 = some (42, 4) := by kernel_rfl
@[simp] theorem tk_49 : tk Tryz.prog 49 = some (true, 3) := by kernel_rfl
@[simp] theorem places_49 : places Tryz.prog 49 = some [(0, 1), (1, 1), (2, 1)] := by kernel_rfl
@[simp] theorem zvA_49 : zvA Tryz.prog 49 = some [AV.d (D.v (Value.string { data := #[] })), AV.d (D.v (Value.slice none 0 0)), AV.d (D.v (Value.slice none 0 0))] := by kernel_rfl
@[simp] theorem ar_49 : ar Tryz.prog 49 = none := by kernel_rfl
@[simp] theorem fo_49_0 : fo Tryz.prog 49 0 = some 0 := by kernel_rfl
@[simp] theorem ft_49_0 : ft Tryz.prog 49 0 = some (9, 0) := by kernel_rfl
@[simp] theorem fo_49_1 : fo Tryz.prog 49 1 = some 1 := by kernel_rfl
@[simp] theorem ft_49_1 : ft Tryz.prog 49 1 = some (47, 1) := by kernel_rfl
@[simp] theorem fo_49_2 : fo Tryz.prog 49 2 = some 2 := by kernel_rfl
@[simp] theorem ft_49_2 : ft Tryz.prog 49 2 = some (48, 2) := by kernel_rfl
@[simp] theorem tk_50 : tk Tryz.prog 50 = some (true, 3) := by kernel_rfl
@[simp] theorem places_50 : places Tryz.prog 50 = some [(0, 1), (1, 1), (2, 1)] := by kernel_rfl
@[simp] theorem zvA_50 : zvA Tryz.prog 50 = some [AV.d (D.v (Value.string { data := #[] })), AV.d (D.v (Value.slice none 0 0)), AV.d (D.v (Value.slice none 0 0))] := by kernel_rfl
@[simp] theorem ar_50 : ar Tryz.prog 50 = none := by kernel_rfl
@[simp] theorem fo_50_0 : fo Tryz.prog 50 0 = some 0 := by kernel_rfl
@[simp] theorem ft_50_0 : ft Tryz.prog 50 0 = some (9, 0) := by kernel_rfl
@[simp] theorem fo_50_1 : fo Tryz.prog 50 1 = some 1 := by kernel_rfl
@[simp] theorem ft_50_1 : ft Tryz.prog 50 1 = some (47, 1) := by kernel_rfl
@[simp] theorem fo_50_2 : fo Tryz.prog 50 2 = some 2 := by kernel_rfl
@[simp] theorem ft_50_2 : ft Tryz.prog 50 2 = some (48, 2) := by kernel_rfl
@[simp] theorem tk_56 : tk Tryz.prog 56 = some (true, 8) := by kernel_rfl
@[simp] theorem places_56 : places Tryz.prog 56 = some [(0, 1), (1, 1), (2, 1), (3, 1), (4, 1), (5, 1), (6, 1), (7, 1)] := by kernel_rfl
@[simp] theorem zvA_56 : zvA Tryz.prog 56 = some [AV.d (D.v (Value.int IntKind.i64 (0))), AV.d (D.v (Value.int IntKind.i64 (0))), AV.d (D.v (Value.int IntKind.i64 (0))), AV.d (D.v (Value.int IntKind.i64 (0))), AV.d (D.v (Value.int IntKind.i64 (0))), AV.d (D.v (Value.int IntKind.u32 (0))), AV.d (D.v (Value.slice none 0 0)), AV.d (D.v (Value.slice none 0 0))] := by kernel_rfl
@[simp] theorem ar_56 : ar Tryz.prog 56 = none := by kernel_rfl
@[simp] theorem fo_56_0 : fo Tryz.prog 56 0 = some 0 := by kernel_rfl
@[simp] theorem ft_56_0 : ft Tryz.prog 56 0 = some (3, 0) := by kernel_rfl
@[simp] theorem fo_56_1 : fo Tryz.prog 56 1 = some 1 := by kernel_rfl
@[simp] theorem ft_56_1 : ft Tryz.prog 56 1 = some (3, 1) := by kernel_rfl
@[simp] theorem fo_56_2 : fo Tryz.prog 56 2 = some 2 := by kernel_rfl
@[simp] theorem ft_56_2 : ft Tryz.prog 56 2 = some (3, 2) := by kernel_rfl
@[simp] theorem fo_56_3 : fo Tryz.prog 56 3 = some 3 := by kernel_rfl
@[simp] theorem ft_56_3 : ft Tryz.prog 56 3 = some (3, 3) := by kernel_rfl
@[simp] theorem fo_56_4 : fo Tryz.prog 56 4 = some 4 := by kernel_rfl
@[simp] theorem ft_56_4 : ft Tryz.prog 56 4 = some (3, 4) := by kernel_rfl
@[simp] theorem fo_56_5 : fo Tryz.prog 56 5 = some 5 := by kernel_rfl
@[simp] theorem ft_56_5 : ft Tryz.prog 56 5 = some (22, 5) := by kernel_rfl
@[simp] theorem fo_56_6 : fo Tryz.prog 56 6 = some 6 := by kernel_rfl
@[simp] theorem ft_56_6 : ft Tryz.prog 56 6 = some (23, 6) := by kernel_rfl
@[simp] theorem fo_56_7 : fo Tryz.prog 56 7 = some 7 := by kernel_rfl
@[simp] theorem ft_56_7 : ft Tryz.prog 56 7 = some (55, 7) := by kernel_rfl
@[simp] theorem tk_57 : tk Tryz.prog 57 = some (true, 8) := by kernel_rfl
@[simp] theorem places_57 : places Tryz.prog 57 = some [(0, 1), (1, 1), (2, 1), (3, 1), (4, 1), (5, 1), (6, 1), (7, 1)] := by kernel_rfl
@[simp] theorem zvA_57 : zvA Tryz.prog 57 = some [AV.d (D.v (Value.int IntKind.i64 (0))), AV.d (D.v (Value.int IntKind.i64 (0))), AV.d (D.v (Value.int IntKind.i64 (0))), AV.d (D.v (Value.int IntKind.i64 (0))), AV.d (D.v (Value.int IntKind.i64 (0))), AV.d (D.v (Value.int IntKind.u32 (0))), AV.d (D.v (Value.slice none 0 0)), AV.d (D.v (Value.slice none 0 0))] := by kernel_rfl
@[simp] theorem ar_57 : ar Tryz.prog 57 = none := by kernel_rfl
@[simp] theorem fo_57_0 : fo Tryz.prog 57 0 = some 0 := by kernel_rfl
@[simp] theorem ft_57_0 : ft Tryz.prog 57 0 = some (3, 0) := by kernel_rfl
@[simp] theorem fo_57_1 : fo Tryz.prog 57 1 = some 1 := by kernel_rfl
@[simp] theorem ft_57_1 : ft Tryz.prog 57 1 = some (3, 1) := by kernel_rfl
@[simp] theorem fo_57_2 : fo Tryz.prog 57 2 = some 2 := by kernel_rfl
@[simp] theorem ft_57_2 : ft Tryz.prog 57 2 = some (3, 2) := by kernel_rfl
@[simp] theorem fo_57_3 : fo Tryz.prog 57 3 = some 3 := by kernel_rfl
@[simp] theorem ft_57_3 : ft Tryz.prog 57 3 = some (3, 3) := by kernel_rfl
@[simp] theorem fo_57_4 : fo Tryz.prog 57 4 = some 4 := by kernel_rfl
@[simp] theorem ft_57_4 : ft Tryz.prog 57 4 = some (3, 4) := by kernel_rfl
@[simp] theorem fo_57_5 : fo Tryz.prog 57 5 = some 5 := by kernel_rfl
@[simp] theorem ft_57_5 : ft Tryz.prog 57 5 = some (22, 5) := by kernel_rfl
@[simp] theorem fo_57_6 : fo Tryz.prog 57 6 = some 6 := by kernel_rfl
@[simp] theorem ft_57_6 : ft Tryz.prog 57 6 = some (23, 6) := by kernel_rfl
@[simp] theorem fo_57_7 : fo Tryz.prog 57 7 = some 7 := by kernel_rfl
@[simp] theorem ft_57_7 : ft Tryz.prog 57 7 = some (55, 7) := by kernel_rfl
@[simp] theorem tk_59 : tk Tryz.prog 59 = some (true, 2) := by kernel_rfl
@[simp] theorem places_59 : places Tryz.prog 59 = some [(0, 1), (1, 1)] := by kernel_rfl
@[simp] theorem zvA_59 : zvA Tryz.prog 59 = some [AV.d (D.v (Value.int IntKind.u32 (0))), AV.d (D.v (Value.slice none 0 0))] := by kernel_rfl
@[simp] theorem ar_59 : ar Tryz.prog 59 = none := by kernel_rfl
@[simp] theorem fo_59_0 : fo Tryz.prog 59 0 = some 0 := by kernel_rfl
@[simp] theorem ft_59_0 : ft Tryz.prog 59 0 = some (22, 0) := by kernel_rfl
@[simp] theorem fo_59_1 : fo Tryz.prog 59 1 = some 1 := by kernel_rfl
@[simp] theorem ft_59_1 : ft Tryz.prog 59 1 = some (58, 1) := by kernel_rfl
@[simp] theorem tk_60 : tk Tryz.prog 60 = some (true, 2) := by kernel_rfl
@[simp] theorem places_60 : places Tryz.prog 60 = some [(0, 1), (1, 1)] := by kernel_rfl
@[simp] theorem zvA_60 : zvA Tryz.prog 60 = some [AV.d (D.v (Value.int IntKind.u32 (0))), AV.d (D.v (Value.slice none 0 0))] := by kernel_rfl
@[simp] theorem ar_60 : ar Tryz.prog 60 = none := by kernel_rfl
@[simp] theorem fo_60_0 : fo Tryz.prog 60 0 = some 0 := by kernel_rfl
@[simp] theorem ft_60_0 : ft Tryz.prog 60 0 = some (22, 0) := by kernel_rfl
@[simp] theorem fo_60_1 : fo Tryz.prog 60 1 = some 1 := by kernel_rfl
@[simp] theorem ft_60_1 : ft Tryz.prog 60 1 = some (58, 1) := by kernel_rfl
@[simp] theorem tk_63 : tk Tryz.prog 63 = some (true, 5) := by kernel_rfl
@[simp] theorem places_63 : places Tryz.prog 63 = some [(0, 1), (1, 1), (2, 1), (3, 1), (4, 1)] := by kernel_rfl
@[simp] theorem zvA_63 : zvA Tryz.prog 63 = some [AV.d (D.v (Value.int IntKind.i64 (0))), AV.d (D.v (Value.int IntKind.i64 (0))), AV.d (D.v (Value.int IntKind.i64 (0))), AV.d (D.v (Value.slice none 0 0)), AV.d (D.v (Value.slice none 0 0))] := by kernel_rfl
@[simp] theorem ar_63 : ar Tryz.prog 63 = none := by kernel_rfl
@[simp] theorem fo_63_0 : fo Tryz.prog 63 0 = some 0 := by kernel_rfl
@[simp] theorem ft_63_0 : ft Tryz.prog 63 0 = some (3, 0) := by kernel_rfl
@[simp] theorem fo_63_1 : fo Tryz.prog 63 1 = some 1 := by kernel_rfl
@[simp] theorem ft_63_1 : ft Tryz.prog 63 1 = some (3, 1) := by kernel_rfl
@[simp] theorem fo_63_2 : fo Tryz.prog 63 2 = some 2 := by kernel_rfl
@[simp] theorem ft_63_2 : ft Tryz.prog 63 2 = some (3, 2) := by kernel_rfl
@[simp] theorem fo_63_3 : fo Tryz.prog 63 3 = some 3 := by kernel_rfl
@[simp] theorem ft_63_3 : ft Tryz.prog 63 3 = some (61, 3) := by kernel_rfl
@[simp] theorem fo_63_4 : fo Tryz.prog 63 4 = some 4 := by kernel_rfl
@[simp] theorem ft_63_4 : ft Tryz.prog 63 4 = some (62, 4) := by kernel_rfl
@[simp] theorem tk_64 : tk Tryz.prog 64 = some (true, 5) := by kernel_rfl
@[simp] theorem places_64 : places Tryz.prog 64 = some [(0, 1), (1, 1), (2, 1), (3, 1), (4, 1)] := by kernel_rfl
@[simp] theorem zvA_64 : zvA Tryz.prog 64 = some [AV.d (D.v (Value.int IntKind.i64 (0))), AV.d (D.v (Value.int IntKind.i64 (0))), AV.d (D.v (Value.int IntKind.i64 (0))), AV.d (D.v (Value.slice none 0 0)), AV.d (D.v (Value.slice none 0 0))] := by kernel_rfl
@[simp] theorem ar_64 : ar Tryz.prog 64 = none := by kernel_rfl
@[simp] theorem fo_64_0 : fo Tryz.prog 64 0 = some 0 := by kernel_rfl
@[simp] theorem ft_64_0 : ft Tryz.prog 64 0 = some (3, 0) := by kernel_rfl
@[simp] theorem fo_64_1 : fo Tryz.prog 64 1 = some 1 := by kernel_rfl
@[simp] theorem ft_64_1 : ft Tryz.prog 64 1 = some (3, 1) := by kernel_rfl
@[simp] theorem fo_64_2 : fo Tryz.prog 64 2 = some 2 := by kernel_rfl
@[simp] theorem ft_64_2 : ft Tryz.prog 64 2 = some (3, 2) := by kernel_rfl
@[simp] theorem fo_64_3 : fo Tryz.prog 64 3 = some 3 := by kernel_rfl
@[simp] theorem ft_64_3 : ft Tryz.prog 64 3 = some (61, 3) := by kernel_rfl
@[simp] theorem fo_64_4 : fo Tryz.prog 64 4 = some 4 := by kernel_rfl
@[simp] theorem ft_64_4 : ft Tryz.prog 64 4 = some (62, 4) := by kernel_rfl
@[simp] theorem tk_65 : tk Tryz.prog 65 = some (true, 6) := by kernel_rfl
@[simp] theorem places_65 : places Tryz.prog 65 = some [(0, 1), (1, 5)] := by kernel_rfl
@[simp] theorem zvA_65 : zvA Tryz.prog 65 = some [AV.d (D.v (Value.string { data := #[] })), AV.d (D.v (Value.int IntKind.i64 (0))), AV.d (D.v (Value.int IntKind.i64 (0))), AV.d (D.v (Value.int IntKind.i64 (0))), AV.d (D.v (Value.slice none 0 0)), AV.d (D.v (Value.slice none 0 0))] := by kernel_rfl
@[simp] theorem ar_65 : ar Tryz.prog 65 = none := by kernel_rfl
@[simp] theorem fo_65_0 : fo Tryz.prog 65 0 = some 0 := by kernel_rfl
@[simp] theorem ft_65_0 : ft Tryz.prog 65 0 = some (9, 0) := by kernel_rfl
@[simp] theorem fo_65_1 : fo Tryz.prog 65 1 = some 1 := by kernel_rfl
@[simp] theorem ft_65_1 : ft Tryz.prog 65 1 = some (64, 1) := by kernel_rfl
@[simp] theorem tk_66 : tk Tryz.prog 66 = some (true, 6) := by kernel_rfl
@[simp] theorem places_66 : places Tryz.prog 66 = some [(0, 1), (1, 5)] := by kernel_rfl
@[simp] theorem zvA_66 : zvA Tryz.prog 66 = some [AV.d (D.v (Value.string { data := #[] })), AV.d (D.v (Value.int IntKind.i64 (0))), AV.d (D.v (Value.int IntKind.i64 (0))), AV.d (D.v (Value.int IntKind.i64 (0))), AV.d (D.v (Value.slice none 0 0)), AV.d (D.v (Value.slice none 0 0))] := by kernel_rfl
@[simp] theorem ar_66 : ar Tryz.prog 66 = none := by kernel_rfl
@[simp] theorem fo_66_0 : fo Tryz.prog 66 0 = some 0 := by kernel_rfl
@[simp] theorem ft_66_0 : ft Tryz.prog 66 0 = some (9, 0) := by kernel_rfl
@[simp] theorem fo_66_1 : fo Tryz.prog 66 1 = some 1 := by kernel_rfl
@[simp] theorem ft_66_1 : ft Tryz.prog 66 1 = some (64, 1) := by kernel_rfl
@[simp] theorem tk_68 : tk Tryz.prog 68 = some (true, 7) := by kernel_rfl
@[simp] theorem places_68 : places Tryz.prog 68 = some [(0, 1), (1, 1), (2, 1), (3, 1), (4, 1), (5, 1), (6, 1)] := by kernel_rfl
@[simp] theorem zvA_68 : zvA Tryz.prog 68 = some [AV.d (D.v (Value.int IntKind.i64 (0))), AV.d (D.v (Value.int IntKind.i64 (0))), AV.d (D.v (Value.string { data := #[] })), AV.d (D.v (Value.slice none 0 0)), AV.d (D.v (Value.slice none 0 0)), AV.d (D.v (Value.slice none 0 0)), AV.d (D.v (Value.slice none 0 0))] := by kernel_rfl
@[simp] theorem ar_68 : ar Tryz.prog 68 = none := by kernel_rfl
@[simp] theorem fo_68_0 : fo Tryz.prog 68 0 = some 0 := by kernel_rfl
@[simp] theorem ft_68_0 : ft Tryz.prog 68 0 = some (3, 0) := by kernel_rfl
@[simp] theorem fo_68_1 : fo Tryz.prog 68 1 = some 1 := by kernel_rfl
@[simp] theorem ft_68_1 : ft Tryz.prog 68 1 = some (3, 1) := by kernel_rfl
@[simp] theorem fo_68_2 : fo Tryz.prog 68 2 = some 2 := by kernel_rfl
@[simp] theorem ft_68_2 : ft Tryz.prog 68 2 = some (9, 2) := by kernel_rfl
@[simp] theorem fo_68_3 : fo Tryz.prog 68 3 = some 3 := by kernel_rfl
@[simp] theorem ft_68_3 : ft Tryz.prog 68 3 = some (29, 3) := by kernel_rfl
@[simp] theorem fo_68_4 : fo Tryz.prog 68 4 = some 4 := by kernel_rfl
@[simp] theorem ft_68_4 : ft Tryz.prog 68 4 = some (48, 4) := by kernel_rfl
@[simp] theorem fo_68_5 : fo Tryz.prog 68 5 = some 5 := by kernel_rfl
@[simp] theorem ft_68_5 : ft Tryz.prog 68 5 = some (48, 5) := by kernel_rfl
@[simp] theorem fo_68_6 : fo Tryz.prog 68 6 = some 6 := by kernel_rfl
@[simp] theorem ft_68_6 : ft Tryz.prog 68 6 = some (67, 6) := by kernel_rfl
@[simp] theorem tk_69 : tk Tryz.prog 69 = some (true, 7) := by kernel_rfl
@[simp] theorem places_69 : places Tryz.prog 69 = some [(0, 1), (1, 1), (2, 1), (3, 1), (4, 1), (5, 1), (6, 1)] := by kernel_rfl
@[simp] theorem zvA_69 : zvA Tryz.prog 69 = some [AV.d (D.v (Value.int IntKind.i64 (0))), AV.d (D.v (Value.int IntKind.i64 (0))), AV.d (D.v (Value.string { data := #[] })), AV.d (D.v (Value.slice none 0 0)), AV.d (D.v (Value.slice none 0 0)), AV.d (D.v (Value.slice none 0 0)), AV.d (D.v (Value.slice none 0 0))] := by kernel_rfl
@[simp] theorem ar_69 : ar Tryz.prog 69 = none := by kernel_rfl
@[simp] theorem fo_69_0 : fo Tryz.prog 69 0 = some 0 := by kernel_rfl
@[simp] theorem ft_69_0 : ft Tryz.prog 69 0 = some (3, 0) := by kernel_rfl
@[simp] theorem fo_69_1 : fo Tryz.prog 69 1 = some 1 := by kernel_rfl
@[simp] theorem ft_69_1 : ft Tryz.prog 69 1 = some (3, 1) := by kernel_rfl
@[simp] theorem fo_69_2 : fo Tryz.prog 69 2 = some 2 := by kernel_rfl
@[simp] theorem ft_69_2 : ft Tryz.prog 69 2 = some (9, 2) := by kernel_rfl
@[simp] theorem fo_69_3 : fo Tryz.prog 69 3 = some 3 := by kernel_rfl
@[simp] theorem ft_69_3 : ft Tryz.prog 69 3 = some (29, 3) := by kernel_rfl
@[simp] theorem fo_69_4 : fo Tryz.prog 69 4 = some 4 := by kernel_rfl
@[simp] theorem ft_69_4 : ft Tryz.prog 69 4 = some (48, 4) := by kernel_rfl
@[simp] theorem fo_69_5 : fo Tryz.prog 69 5 = some 5 := by kernel_rfl
@[simp] theorem ft_69_5 : ft Tryz.prog 69 5 = some (48, 5) := by kernel_rfl
@[simp] theorem fo_69_6 : fo Tryz.prog 69 6 = some 6 := by kernel_rfl
@[simp] theorem ft_69_6 : ft Tryz.prog 69 6 = some (67, 6) := by kernel_rfl
@[simp] theorem tk_72 : tk Tryz.prog 72 = some (true, 3) := by kernel_rfl
@[simp] theorem places_72 : places Tryz.prog 72 = some [(0, 1), (1, 1), (2, 1)] := by kernel_rfl
@[simp] theorem zvA_72 : zvA Tryz.prog 72 = some [AV.d (D.v (Value.slice none 0 0)), AV.d (D.v (Value.slice none 0 0)), AV.d (D.v (Value.slice none 0 0))] := by kernel_rfl
@[simp] theorem ar_72 : ar Tryz.prog 72 = none := by kernel_rfl
@[simp] theorem fo_72_0 : fo Tryz.prog 72 0 = some 0 := by kernel_rfl
@[simp] theorem ft_72_0 : ft Tryz.prog 72 0 = some (47, 0) := by kernel_rfl
@[simp] theorem fo_72_1 : fo Tryz.prog 72 1 = some 1 := by kernel_rfl
@[simp] theorem ft_72_1 : ft Tryz.prog 72 1 = some (70, 1) := by kernel_rfl
@[simp] theorem fo_72_2 : fo Tryz.prog 72 2 = some 2 := by kernel_rfl
@[simp] theorem ft_72_2 : ft Tryz.prog 72 2 = some (71, 2) := by kernel_rfl
@[simp] theorem tk_73 : tk Tryz.prog 73 = some (true, 3) := by kernel_rfl
@[simp] theorem places_73 : places Tryz.prog 73 = some [(0, 1), (1, 1), (2, 1)] := by kernel_rfl
@[simp] theorem zvA_73 : zvA Tryz.prog 73 = some [AV.d (D.v (Value.slice none 0 0)), AV.d (D.v (Value.slice none 0 0)), AV.d (D.v (Value.slice none 0 0))] := by kernel_rfl
@[simp] theorem ar_73 : ar Tryz.prog 73 = none := by kernel_rfl
@[simp] theorem fo_73_0 : fo Tryz.prog 73 0 = some 0 := by kernel_rfl
@[simp] theorem ft_73_0 : ft Tryz.prog 73 0 = some (47, 0) := by kernel_rfl
@[simp] theorem fo_73_1 : fo Tryz.prog 73 1 = some 1 := by kernel_rfl
@[simp] theorem ft_73_1 : ft Tryz.prog 73 1 = some (70, 1) := by kernel_rfl
@[simp] theorem fo_73_2 : fo Tryz.prog 73 2 = some 2 := by kernel_rfl
@[simp] theorem ft_73_2 : ft Tryz.prog 73 2 = some (71, 2) := by kernel_rfl
@[simp] theorem tk_87 : tk Tryz.prog 87 = some (true, 5) := by kernel_rfl
@[simp] theorem places_87 : places Tryz.prog 87 = some [(0, 2), (2, 1), (3, 1), (4, 1)] := by kernel_rfl
@[simp] theorem zvA_87 : zvA Tryz.prog 87 = some [AV.d (D.v (Value.int IntKind.u32 (0))), AV.d (D.v (Value.slice none 0 0)), AV.d (D.v (Value.slice none 0 0)), AV.d (D.v (Value.slice none 0 0)), AV.d (D.v (Value.slice none 0 0))] := by kernel_rfl
@[simp] theorem ar_87 : ar Tryz.prog 87 = none := by kernel_rfl
@[simp] theorem fo_87_0 : fo Tryz.prog 87 0 = some 0 := by kernel_rfl
@[simp] theorem ft_87_0 : ft Tryz.prog 87 0 = some (39, 0) := by kernel_rfl
@[simp] theorem fo_87_1 : fo Tryz.prog 87 1 = some 2 := by kernel_rfl
@[simp] theorem ft_87_1 : ft Tryz.prog 87 1 = some (26, 2) := by kernel_rfl
@[simp] theorem fo_87_2 : fo Tryz.prog 87 2 = some 3 := by kernel_rfl
@[simp] theorem ft_87_2 : ft Tryz.prog 87 2 = some (26, 3) := by kernel_rfl
@[simp] theorem fo_87_3 : fo Tryz.prog 87 3 = some 4 := by kernel_rfl
@[simp] theorem ft_87_3 : ft Tryz.prog 87 3 = some (45, 4) := by kernel_rfl
@[simp] theorem tk_88 : tk Tryz.prog 88 = some (true, 5) := by kernel_rfl
@[simp] theorem places_88 : places Tryz.prog 88 = some [(0, 2), (2, 1), (3, 1), (4, 1)] := by kernel_rfl
@[simp] theorem zvA_88 : zvA Tryz.prog 88 = some [AV.d (D.v (Value.int IntKind.u32 (0))), AV.d (D.v (Value.slice none 0 0)), AV.d (D.v (Value.slice none 0 0)), AV.d (D.v (Value.slice none 0 0)), AV.d (D.v (Value.slice none 0 0))] := by kernel_rfl
@[simp] theorem ar_88 : ar Tryz.prog 88 = none := by kernel_rfl
@[simp] theorem fo_88_0 : fo Tryz.prog 88 0 = some 0 := by kernel_rfl
@[simp] theorem ft_88_0 : ft Tryz.prog 88 0 = some (39, 0) := by kernel_rfl
@[simp] theorem fo_88_1 : fo Tryz.prog 88 1 = some 2 := by kernel_rfl
@[simp] theorem ft_88_1 : ft Tryz.prog 88 1 = some (26, 2) := by kernel_rfl
@[simp] theorem fo_88_2 : fo Tryz.prog 88 2 = some 3 := by kernel_rfl
@[simp] theorem ft_88_2 : ft Tryz.prog 88 2 = some (26, 3) := by kernel_rfl
@[simp] theorem fo_88_3 : fo Tryz.prog 88 3 = some 4 := by kernel_rfl
@[simp] theorem ft_88_3 : ft Tryz.prog 88 3 = some (45, 4) := by kernel_rfl
@[simp] theorem tk_102 : tk Tryz.prog 102 = some (true, 5) := by kernel_rfl
@[simp] theorem places_102 : places Tryz.prog 102 = some [(0, 1), (1, 1), (2, 1), (3, 1), (4, 1)] := by kernel_rfl
@[simp] theorem zvA_102 : zvA Tryz.prog 102 = some [AV.d (D.v (Value.string { data := #[] })), AV.d (D.v (Value.int IntKind.u32 (0))), AV.d (D.v (Value.slice none 0 0)), AV.d (D.v (Value.bool false)), AV.d (D.v (Value.bool false))] := by kernel_rfl
@[simp] theorem ar_102 : ar Tryz.prog 102 = none := by kernel_rfl
@[simp] theorem fo_102_0 : fo Tryz.prog 102 0 = some 0 := by kernel_rfl
@[simp] theorem ft_102_0 : ft Tryz.prog 102 0 = some (9, 0) := by kernel_rfl
@[simp] theorem fo_102_1 : fo Tryz.prog 102 1 = some 1 := by kernel_rfl
@[simp] theorem ft_102_1 : ft Tryz.prog 102 1 = some (22, 1) := by kernel_rfl
@[simp] theorem fo_102_2 : fo Tryz.prog 102 2 = some 2 := by kernel_rfl
@[simp] theorem ft_102_2 : ft Tryz.prog 102 2 = some (101, 2) := by kernel_rfl
@[simp] theorem fo_102_3 : fo Tryz.prog 102 3 = some 3 := by kernel_rfl
@[simp] theorem ft_102_3 : ft Tryz.prog 102 3 = some (4, 3) := by kernel_rfl
@[simp] theorem fo_102_4 : fo Tryz.prog 102 4 = some 4 := by kernel_rfl
@[simp] theorem ft_102_4 : ft Tryz.prog 102 4 = some (4, 4) := by kernel_rfl
@[simp] theorem tk_103 : tk Tryz.prog 103 = some (true, 5) := by kernel_rfl
@[simp] theorem places_103 : places Tryz.prog 103 = some [(0, 1), (1, 1), (2, 1), (3, 1), (4, 1)] := by kernel_rfl
@[simp] theorem zvA_103 : zvA Tryz.prog 103 = some [AV.d (D.v (Value.string { data := #[] })), AV.d (D.v (Value.int IntKind.u32 (0))), AV.d (D.v (Value.slice none 0 0)), AV.d (D.v (Value.bool false)), AV.d (D.v (Value.bool false))] := by kernel_rfl
@[simp] theorem ar_103 : ar Tryz.prog 103 = none := by kernel_rfl
@[simp] theorem fo_103_0 : fo Tryz.prog 103 0 = some 0 := by kernel_rfl
@[simp] theorem ft_103_0 : ft Tryz.prog 103 0 = some (9, 0) := by kernel_rfl
@[simp] theorem fo_103_1 : fo Tryz.prog 103 1 = some 1 := by kernel_rfl
@[simp] theorem ft_103_1 : ft Tryz.prog 103 1 = some (22, 1) := by kernel_rfl
@[simp] theorem fo_103_2 : fo Tryz.prog 103 2 = some 2 := by kernel_rfl
@[simp] theorem ft_103_2 : ft Tryz.prog 103 2 = some (101, 2) := by kernel_rfl
@[simp] theorem fo_103_3 : fo Tryz.prog 103 3 = some 3 := by kernel_rfl
@[simp] theorem ft_103_3 : ft Tryz.prog 103 3 = some (4, 3) := by kernel_rfl
@[simp] theorem fo_103_4 : fo Tryz.prog 103 4 = some 4 := by kernel_rfl
@[simp] theorem ft_103_4 : ft Tryz.prog 103 4 = some (4, 4) := by kernel_rfl
@[simp] theorem tk_148 : tk Tryz.prog 148 = some (true, 6) := by kernel_rfl
@[simp] theorem places_148 : places Tryz.prog 148 = some [(0, 1), (1, 5)] := by kernel_rfl
@[simp] theorem zvA_148 : zvA Tryz.prog 148 = some [AV.d (D.v (Value.int IntKind.i64 (0))), AV.d (D.v (Value.int IntKind.i64 (0))), AV.d (D.v (Value.int IntKind.i64 (0))), AV.d (D.v (Value.int IntKind.i64 (0))), AV.d (D.v (Value.slice none 0 0)), AV.d (D.v (Value.slice none 0 0))] := by kernel_rfl
@[simp] theorem ar_148 : ar Tryz.prog 148 = none := by kernel_rfl
@[simp] theorem fo_148_0 : fo Tryz.prog 148 0 = some 0 := by kernel_rfl
@[simp] theorem ft_148_0 : ft Tryz.prog 148 0 = some (3, 0) := by kernel_rfl
@[simp] theorem fo_148_1 : fo Tryz.prog 148 1 = some 1 := by kernel_rfl
@[simp] theorem ft_148_1 : ft Tryz.prog 148 1 = some (64, 1) := by kernel_rfl
@[simp] theorem tk_149 : tk Tryz.prog 149 = some (true, 6) := by kernel_rfl
@[simp] theorem places_149 : places Tryz.prog 149 = some [(0, 1), (1, 5)] := by kernel_rfl
@[simp] theorem zvA_149 : zvA Tryz.prog 149 = some [AV.d (D.v (Value.int IntKind.i64 (0))), AV.d (D.v (Value.int IntKind.i64 (0))), AV.d (D.v (Value.int IntKind.i64 (0))), AV.d (D.v (Value.int IntKind.i64 (0))), AV.d (D.v (Value.slice none 0 0)), AV.d (D.v (Value.slice none 0 0))] := by kernel_rfl
@[simp] theorem ar_149 : ar Tryz.prog 149 = none := by kernel_rfl
@[simp] theorem fo_149_0 : fo Tryz.prog 149 0 = some 0 := by kernel_rfl
@[simp] theorem ft_149_0 : ft Tryz.prog 149 0 = some (3, 0) := by kernel_rfl
@[simp] theorem fo_149_1 : fo Tryz.prog 149 1 = some 1 := by kernel_rfl
@[simp] theorem ft_149_1 : ft Tryz.prog 149 1 = some (64, 1) := by kernel_rfl
@[simp] theorem tk_182 : tk Tryz.prog 182 = some (true, 4) := by kernel_rfl
@[simp] theorem places_182 : places Tryz.prog 182 = some [(0, 1), (1, 1), (2, 1), (3, 1)] := by kernel_rfl
@[simp] theorem zvA_182 : zvA Tryz.prog 182 = some [AV.d (D.v Value.nilFunc), AV.d (D.v (Value.slice none 0 0)), AV.d (D.v (Value.slice none 0 0)), AV.d (D.v (Value.slice none 0 0))] := by kernel_rfl
@[simp] theorem ar_182 : ar Tryz.prog 182 = none := by kernel_rfl
@[simp] theorem fo_182_0 : fo Tryz.prog 182 0 = some 0 := by kernel_rfl
@[simp] theorem ft_182_0 : ft Tryz.prog 182 0 = some (143, 0) := by kernel_rfl
@[simp] theorem fo_182_1 : fo Tryz.prog 182 1 = some 1 := by kernel_rfl
@[simp] theorem ft_182_1 : ft Tryz.prog 182 1 = some (26, 1) := by kernel_rfl
@[simp] theorem fo_182_2 : fo Tryz.prog 182 2 = some 2 := by kernel_rfl
@[simp] theorem ft_182_2 : ft Tryz.prog 182 2 = some (26, 2) := by kernel_rfl
@[simp] theorem fo_182_3 : fo Tryz.prog 182 3 = some 3 := by kernel_rfl
@[simp] theorem ft_182_3 : ft Tryz.prog 182 3 = some (26, 3) := by kernel_rfl
@[simp] theorem tk_183 : tk Tryz.prog 183 = some (true, 4) := by kernel_rfl
@[simp] theorem places_183 : places Tryz.prog 183 = some [(0, 1), (1, 1), (2, 1), (3, 1)] := by kernel_rfl
@[simp] theorem zvA_183 : zvA Tryz.prog 183 = some [AV.d (D.v Value.nilFunc), AV.d (D.v (Value.slice none 0 0)), AV.d (D.v (Value.slice none 0 0)), AV.d (D.v (Value.slice none 0 0))] := by kernel_rfl
@[simp] theorem ar_183 : ar Tryz.prog 183 = none := by kernel_rfl
@[simp] theorem fo_183_0 : fo Tryz.prog 183 0 = some 0 := by kernel_rfl
@[simp] theorem ft_183_0 : ft Tryz.prog 183 0 = some (143, 0) := by kernel_rfl
@[simp] theorem fo_183_1 : fo Tryz.prog 183 1 = some 1 := by kernel_rfl
@[simp] theorem ft_183_1 : ft Tryz.prog 183 1 = some (26, 1) := by kernel_rfl
@[simp] theorem fo_183_2 : fo Tryz.prog 183 2 = some 2 := by kernel_rfl
@[simp] theorem ft_183_2 : ft Tryz.prog 183 2 = some (26, 2) := by kernel_rfl
@[simp] theorem fo_183_3 : fo Tryz.prog 183 3 = some 3 := by kernel_rfl
@[simp] theorem ft_183_3 : ft Tryz.prog 183 3 = some (26, 3) := by kernel_rfl
@[simp] theorem tk_184 : tk Tryz.prog 184 = some (true, 8) := by kernel_rfl
@[simp] theorem places_184 : places Tryz.prog 184 = some [(0, 7), (7, 1)] := by kernel_rfl
@[simp] theorem zvA_184 : zvA Tryz.prog 184 = some [AV.d (D.v (Value.int IntKind.i64 (0))), AV.d (D.v (Value.int IntKind.i64 (0))), AV.d (D.v (Value.string { data := #[] })), AV.d (D.v (Value.slice none 0 0)), AV.d (D.v (Value.slice none 0 0)), AV.d (D.v (Value.slice none 0 0)), AV.d (D.v (Value.slice none 0 0)), AV.d (D.v (Value.bool false))] := by kernel_rfl
@[simp] theorem ar_184 : ar Tryz.prog 184 = none := by kernel_rfl
@[simp] theorem fo_184_0 : fo Tryz.prog 184 0 = some 0 := by kernel_rfl
@[simp] theorem ft_184_0 : ft Tryz.prog 184 0 = some (69, 0) := by kernel_rfl
@[simp] theorem fo_184_1 : fo Tryz.prog 184 1 = some 7 := by kernel_rfl
@[simp] theorem ft_184_1 : ft Tryz.prog 184 1 = some (4, 7) := by kernel_rfl
@[simp] theorem tk_185 : tk Tryz.prog 185 = some (true, 8) := by kernel_rfl
@[simp] theorem places_185 : places Tryz.prog 185 = some [(0, 7), (7, 1)] := by kernel_rfl
@[simp] theorem zvA_185 : zvA Tryz.prog 185 = some [AV.d (D.v (Value.int IntKind.i64 (0))), AV.d (D.v (Value.int IntKind.i64 (0))), AV.d (D.v (Value.string { data := #[] })), AV.d (D.v (Value.slice none 0 0)), AV.d (D.v (Value.slice none 0 0)), AV.d (D.v (Value.slice none 0 0)), AV.d (D.v (Value.slice none 0 0)), AV.d (D.v (Value.bool false))] := by kernel_rfl
@[simp] theorem ar_185 : ar Tryz.prog 185 = none := by kernel_rfl
@[simp] theorem fo_185_0 : fo Tryz.prog 185 0 = some 0 := by kernel_rfl
@[simp] theorem ft_185_0 : ft Tryz.prog 185 0 = some (69, 0) := by kernel_rfl
@[simp] theorem fo_185_1 : fo Tryz.prog 185 1 = some 7 := by kernel_rfl
@[simp] theorem ft_185_1 : ft Tryz.prog 185 1 = some (4, 7) := by kernel_rfl
@[simp] theorem tk_205 : tk Tryz.prog 205 = some (true, 2) := by kernel_rfl
@[simp] theorem places_205 : places Tryz.prog 205 = some [(0, 1), (1, 1)] := by kernel_rfl
@[simp] theorem zvA_205 : zvA Tryz.prog 205 = some [AV.d (D.v (Value.slice none 0 0)), AV.d (D.v (Value.slice none 0 0))] := by kernel_rfl
@[simp] theorem ar_205 : ar Tryz.prog 205 = none := by kernel_rfl
@[simp] theorem fo_205_0 : fo Tryz.prog 205 0 = some 0 := by kernel_rfl
@[simp] theorem ft_205_0 : ft Tryz.prog 205 0 = some (55, 0) := by kernel_rfl
@[simp] theorem fo_205_1 : fo Tryz.prog 205 1 = some 1 := by kernel_rfl
@[simp] theorem ft_205_1 : ft Tryz.prog 205 1 = some (55, 1) := by kernel_rfl
@[simp] theorem tk_206 : tk Tryz.prog 206 = some (true, 2) := by kernel_rfl
@[simp] theorem places_206 : places Tryz.prog 206 = some [(0, 1), (1, 1)] := by kernel_rfl
@[simp] theorem zvA_206 : zvA Tryz.prog 206 = some [AV.d (D.v (Value.slice none 0 0)), AV.d (D.v (Value.slice none 0 0))] := by kernel_rfl
@[simp] theorem ar_206 : ar Tryz.prog 206 = none := by kernel_rfl
@[simp] theorem fo_206_0 : fo Tryz.prog 206 0 = some 0 := by kernel_rfl
@[simp] theorem ft_206_0 : ft Tryz.prog 206 0 = some (55, 0) := by kernel_rfl
@[simp] theorem fo_206_1 : fo Tryz.prog 206 1 = some 1 := by kernel_rfl
@[simp] theorem ft_206_1 : ft Tryz.prog 206 1 = some (55, 1) := by kernel_rfl
@[simp] theorem tk_209 : tk Tryz.prog 209 = some (true, 2) := by kernel_rfl
@[simp] theorem places_209 : places Tryz.prog 209 = some [(0, 1), (1, 1)] := by kernel_rfl
@[simp] theorem zvA_209 : zvA Tryz.prog 209 = some [AV.d (D.v (Value.int IntKind.i64 (0))), AV.d (D.v (Value.int IntKind.i64 (0)))] := by kernel_rfl
@[simp] theorem ar_209 : ar Tryz.prog 209 = none := by kernel_rfl
@[simp] theorem fo_209_0 : fo Tryz.prog 209 0 = some 0 := by kernel_rfl
@[simp] theorem ft_209_0 : ft Tryz.prog 209 0 = some (3, 0) := by kernel_rfl
@[simp] theorem fo_209_1 : fo Tryz.prog 209 1 = some 1 := by kernel_rfl
@[simp] theorem ft_209_1 : ft Tryz.prog 209 1 = some (3, 1) := by kernel_rfl
@[simp] theorem tk_210 : tk Tryz.prog 210 = some (true, 2) := by kernel_rfl
@[simp] theorem places_210 : places Tryz.prog 210 = some [(0, 1), (1, 1)] := by kernel_rfl
@[simp] theorem zvA_210 : zvA Tryz.prog 210 = some [AV.d (D.v (Value.int IntKind.i64 (0))), AV.d (D.v (Value.int IntKind.i64 (0)))] := by kernel_rfl
@[simp] theorem ar_210 : ar Tryz.prog 210 = none := by kernel_rfl
@[simp] theorem fo_210_0 : fo Tryz.prog 210 0 = some 0 := by kernel_rfl
@[simp] theorem ft_210_0 : ft Tryz.prog 210 0 = some (3, 0) := by kernel_rfl
@[simp] theorem fo_210_1 : fo Tryz.prog 210 1 = some 1 := by kernel_rfl
@[simp] theorem ft_210_1 : ft Tryz.prog 210 1 = some (3, 1) := by kernel_rfl
@[simp] theorem tk_241 : tk Tryz.prog 241 = some (true, 3) := by kernel_rfl
@[simp] theorem places_241 : places Tryz.prog 241 = some [(0, 1), (1, 1), (2, 1)] := by kernel_rfl
@[simp] theorem zvA_241 : zvA Tryz.prog 241 = some [AV.d (D.v (Value.slice none 0 0)), AV.d (D.v (Value.slice none 0 0)), AV.d (D.v (Value.int IntKind.i64 (0)))] := by kernel_rfl
@[simp] theorem ar_241 : ar Tryz.prog 241 = none := by kernel_rfl
@[simp] theorem fo_241_0 : fo Tryz.prog 241 0 = some 0 := by kernel_rfl
@[simp] theorem ft_241_0 : ft Tryz.prog 241 0 = some (239, 0) := by kernel_rfl
@[simp] theorem fo_241_1 : fo Tryz.prog 241 1 = some 1 := by kernel_rfl
@[simp] theorem ft_241_1 : ft Tryz.prog 241 1 = some (240, 1) := by kernel_rfl
@[simp] theorem fo_241_2 : fo Tryz.prog 241 2 = some 2 := by kernel_rfl
@[simp] theorem ft_241_2 : ft Tryz.prog 241 2 = some (3, 2) := by kernel_rfl
@[simp] theorem tk_242 : tk Tryz.prog 242 = some (true, 3) := by kernel_rfl
@[simp] theorem places_242 : places Tryz.prog 242 = some [(0, 1), (1, 1), (2, 1)] := by kernel_rfl
@[simp] theorem zvA_242 : zvA Tryz.prog 242 = some [AV.d (D.v (Value.slice none 0 0)), AV.d (D.v (Value.slice none 0 0)), AV.d (D.v (Value.int IntKind.i64 (0)))] := by kernel_rfl
@[simp] theorem ar_242 : ar Tryz.prog 242 = none := by kernel_rfl
@[simp] theorem fo_242_0 : fo Tryz.prog 242 0 = some 0 := by kernel_rfl
@[simp] theorem ft_242_0 : ft Tryz.prog 242 0 = some (239, 0) := by kernel_rfl
@[simp] theorem fo_242_1 : fo Tryz.prog 242 1 = some 1 := by kernel_rfl
@[simp] theorem ft_242_1 : ft Tryz.prog 242 1 = some (240, 1) := by kernel_rfl
@[simp] theorem fo_242_2 : fo Tryz.prog 242 2 = some 2 := by kernel_rfl
@[simp] theorem ft_242_2 : ft Tryz.prog 242 2 = some (3, 2) := by kernel_rfl
@[simp] theorem tk_244 : tk Tryz.prog 244 = some (true, 3) := by kernel_rfl
@[simp] theorem places_244 : places Tryz.prog 244 = some [(0, 1), (1, 1), (2, 1)] := by kernel_rfl
@[simp] theorem zvA_244 : zvA Tryz.prog 244 = some [AV.d (D.v (Value.int IntKind.u16 (0))), AV.d (D.v (Value.int IntKind.u16 (0))), AV.d (D.v (Value.int IntKind.u16 (0)))] := by kernel_rfl
@[simp] theorem ar_244 : ar Tryz.prog 244 = none := by kernel_rfl
@[simp] theorem fo_244_0 : fo Tryz.prog 244 0 = some 0 := by kernel_rfl
@[simp] theorem ft_244_0 : ft Tryz.prog 244 0 = some (243, 0) := by kernel_rfl
@[simp] theorem fo_244_1 : fo Tryz.prog 244 1 = some 1 := by kernel_rfl
@[simp] theorem ft_244_1 : ft Tryz.prog 244 1 = some (243, 1) := by kernel_rfl
@[simp] theorem fo_244_2 : fo Tryz.prog 244 2 = some 2 := by kernel_rfl
@[simp] theorem ft_244_2 : ft Tryz.prog 244 2 = some (243, 2) := by kernel_rfl
@[simp] theorem tk_245 : tk Tryz.prog 245 = some (true, 3) := by kernel_rfl
@[simp] theorem places_245 : places Tryz.prog 245 = some [(0, 1), (1, 1), (2, 1)] := by kernel_rfl
@[simp] theorem zvA_245 : zvA Tryz.prog 245 = some [AV.d (D.v (Value.int IntKind.u16 (0))), AV.d (D.v (Value.int IntKind.u16 (0))), AV.d (D.v (Value.int IntKind.u16 (0)))] := by kernel_rfl
@[simp] theorem ar_245 : ar Tryz.prog 245 = none := by kernel_rfl
@[simp] theorem fo_245_0 : fo Tryz.prog 245 0 = some 0 := by kernel_rfl
@[simp] theorem ft_245_0 : ft Tryz.prog 245 0 = some (243, 0) := by kernel_rfl
@[simp] theorem fo_245_1 : fo Tryz.prog 245 1 = some 1 := by kernel_rfl
@[simp] theorem ft_245_1 : ft Tryz.prog 245 1 = some (243, 1) := by kernel_rfl
@[simp] theorem fo_245_2 : fo Tryz.prog 245 2 = some 2 := by kernel_rfl
@[simp] theorem ft_245_2 : ft Tryz.prog 245 2 = some (243, 2) := by kernel_rfl
@[simp] theorem tk_247 : tk Tryz.prog 247 = some (true, 3) := by kernel_rfl
@[simp] theorem places_247 : places Tryz.prog 247 = some [(0, 1), (1, 1), (2, 1)] := by kernel_rfl
@[simp] theorem zvA_247 : zvA Tryz.prog 247 = some [AV.d (D.v (Value.int IntKind.u32 (0))), AV.d (D.v (Value.int IntKind.u32 (0))), AV.d (D.v (Value.int IntKind.u32 (0)))] := by kernel_rfl
@[simp] theorem ar_247 : ar Tryz.prog 247 = none := by kernel_rfl
@[simp] theorem fo_247_0 : fo Tryz.prog 247 0 = some 0 := by kernel_rfl
@[simp] theorem ft_247_0 : ft Tryz.prog 247 0 = some (22, 0) := by kernel_rfl
@[simp] theorem fo_247_1 : fo Tryz.prog 247 1 = some 1 := by kernel_rfl
@[simp] theorem ft_247_1 : ft Tryz.prog 247 1 = some (22, 1) := by kernel_rfl
@[simp] theorem fo_247_2 : fo Tryz.prog 247 2 = some 2 := by kernel_rfl
@[simp] theorem ft_247_2 : ft Tryz.prog 247 2 = some (22, 2) := by kernel_rfl
@[simp] theorem tk_248 : tk Tryz.prog 248 = some (true, 3) := by kernel_rfl
@[simp] theorem places_248 : places Tryz.prog 248 = some [(0, 1), (1, 1), (2, 1)] := by kernel_rfl
@[simp] theorem zvA_248 : zvA Tryz.prog 248 = some [AV.d (D.v (Value.int IntKind.u32 (0))), AV.d (D.v (Value.int IntKind.u32 (0))), AV.d (D.v (Value.int IntKind.u32 (0)))] := by kernel_rfl
@[simp] theorem ar_248 : ar Tryz.prog 248 = none := by kernel_rfl
@[simp] theorem fo_248_0 : fo Tryz.prog 248 0 = some 0 := by kernel_rfl
@[simp] theorem ft_248_0 : ft Tryz.prog 248 0 = some (22, 0) := by kernel_rfl
@[simp] theorem fo_248_1 : fo Tryz.prog 248 1 = some 1 := by kernel_rfl
@[simp] theorem ft_248_1 : ft Tryz.prog 248 1 = some (22, 1) := by kernel_rfl
@[simp] theorem fo_248_2 : fo Tryz.prog 248 2 = some 2 := by kernel_rfl
@[simp] theorem ft_248_2 : ft Tryz.prog 248 2 = some (22, 2) := by kernel_rfl
@[simp] theorem tk_269 : tk Tryz.prog 269 = some (true, 4) := by kernel_rfl
@[simp] theorem places_269 : places Tryz.prog 269 = some [(0, 1), (1, 1), (2, 1), (3, 1)] := by kernel_rfl
@[simp] theorem zvA_269 : zvA Tryz.prog 269 = some [AV.d (D.v (Value.pointer none)), AV.d (D.v (Value.pointer none)), AV.d (D.v (Value.pointer none)), AV.d (D.v (Value.string { data := #[] }))] := by kernel_rfl
@[simp] theorem ar_269 : ar Tryz.prog 269 = none := by kernel_rfl
@[simp] theorem fo_269_0 : fo Tryz.prog 269 0 = some 0 := by kernel_rfl
@[simp] theorem ft_269_0 : ft Tryz.prog 269 0 = some (17, 0) := by kernel_rfl
@[simp] theorem fo_269_1 : fo Tryz.prog 269 1 = some 1 := by kernel_rfl
@[simp] theorem ft_269_1 : ft Tryz.prog 269 1 = some (17, 1) := by kernel_rfl
@[simp] theorem fo_269_2 : fo Tryz.prog 269 2 = some 2 := by kernel_rfl
@[simp] theorem ft_269_2 : ft Tryz.prog 269 2 = some (17, 2) := by kernel_rfl
@[simp] theorem fo_269_3 : fo Tryz.prog 269 3 = some 3 := by kernel_rfl
@[simp] theorem ft_269_3 : ft Tryz.prog 269 3 = some (9, 3) := by kernel_rfl
@[simp] theorem tk_270 : tk Tryz.prog 270 = some (true, 4) := by kernel_rfl
@[simp] theorem places_270 : places Tryz.prog 270 = some [(0, 1), (1, 1), (2, 1), (3, 1)] := by kernel_rfl
@[simp] theorem zvA_270 : zvA Tryz.prog 270 = some [AV.d (D.v (Value.pointer none)), AV.d (D.v (Value.pointer none)), AV.d (D.v (Value.pointer none)), AV.d (D.v (Value.string { data := #[] }))] := by kernel_rfl
@[simp] theorem ar_270 : ar Tryz.prog 270 = none := by kernel_rfl
@[simp] theorem fo_270_0 : fo Tryz.prog 270 0 = some 0 := by kernel_rfl
@[simp] theorem ft_270_0 : ft Tryz.prog 270 0 = some (17, 0) := by kernel_rfl
@[simp] theorem fo_270_1 : fo Tryz.prog 270 1 = some 1 := by kernel_rfl
@[simp] theorem ft_270_1 : ft Tryz.prog 270 1 = some (17, 1) := by kernel_rfl
@[simp] theorem fo_270_2 : fo Tryz.prog 270 2 = some 2 := by kernel_rfl
@[simp] theorem ft_270_2 : ft Tryz.prog 270 2 = some (17, 2) := by kernel_rfl
@[simp] theorem fo_270_3 : fo Tryz.prog 270 3 = some 3 := by kernel_rfl
@[simp] theorem ft_270_3 : ft Tryz.prog 270 3 = some (9, 3) := by kernel_rfl
@[simp] theorem tk_272 : tk Tryz.prog 272 = some (true, 0) := by kernel_rfl
@[simp] theorem places_272 : places Tryz.prog 272 = some [(0, 0)] := by kernel_rfl
@[simp] theorem zvA_272 : zvA Tryz.prog 272 = some [] := by kernel_rfl
@[simp] theorem ar_272 : ar Tryz.prog 272 = none := by kernel_rfl
@[simp] theorem ft_272_0 : ft Tryz.prog 272 0 = some (271, 0) := by kernel_rfl
@[simp] theorem tk_273 : tk Tryz.prog 273 = some (true, 0) := by kernel_rfl
@[simp] theorem places_273 : places Tryz.prog 273 = some [(0, 0)] := by kernel_rfl
@[simp] theorem zvA_273 : zvA Tryz.prog 273 = some [] := by kernel_rfl
@[simp] theorem ar_273 : ar Tryz.prog 273 = none := by kernel_rfl
@[simp] theorem ft_273_0 : ft Tryz.prog 273 0 = some (271, 0) := by kernel_rfl
@[simp] theorem tk_281 : tk Tryz.prog 281 = some (true, 11) := by kernel_rfl
@[simp] theorem places_281 : places Tryz.prog 281 = some [(0, 1), (1, 1), (2, 1), (3, 1), (4, 1), (5, 1), (6, 1), (7, 1), (8, 1), (9, 1), (10, 1)] := by kernel_rfl
@[simp] theorem zvA_281 : zvA Tryz.prog 281 = some [AV.d (D.v (Value.int IntKind.u64 (0))), AV.d (D.v (Value.int IntKind.u64 (0))), AV.d (D.v (Value.int IntKind.u32 (0))), AV.d (D.v (Value.int IntKind.u8 (0))), AV.d (D.v (Value.int IntKind.u8 (0))), AV.d (D.v (Value.int IntKind.u8 (0))), AV.d (D.v (Value.int IntKind.u8 (0))), AV.d (D.v Value.nilFunc), AV.d (D.v (Value.pointer none)), AV.d (D.v (Value.int IntKind.i32 (0))), AV.d (D.v (Value.int IntKind.i32 (0)))] := by kernel_rfl
@[simp] theorem ar_281 : ar Tryz.prog 281 = none := by kernel_rfl
@[simp] theorem fo_281_0 : fo Tryz.prog 281 0 = some 0 := by kernel_rfl
@[simp] theorem ft_281_0 : ft Tryz.prog 281 0 = some (12, 0) := by kernel_rfl
@[simp] theorem fo_281_1 : fo Tryz.prog 281 1 = some 1 := by kernel_rfl
@[simp] theorem ft_281_1 : ft Tryz.prog 281 1 = some (12, 1) := by kernel_rfl
@[simp] theorem fo_281_2 : fo Tryz.prog 281 2 = some 2 := by kernel_rfl
@[simp] theorem ft_281_2 : ft Tryz.prog 281 2 = some (22, 2) := by kernel_rfl
@[simp] theorem fo_281_3 : fo Tryz.prog 281 3 = some 3 := by kernel_rfl
@[simp] theorem ft_281_3 : ft Tryz.prog 281 3 = some (275, 3) := by kernel_rfl
@[simp] theorem fo_281_4 : fo Tryz.prog 281 4 = some 4 := by kernel_rfl
@[simp] theorem ft_281_4 : ft Tryz.prog 281 4 = some (5, 4) := by kernel_rfl
@[simp] theorem fo_281_5 : fo Tryz.prog 281 5 = some 5 := by kernel_rfl
@[simp] theorem ft_281_5 : ft Tryz.prog 281 5 = some (5, 5) := by kernel_rfl
@[simp] theorem fo_281_6 : fo Tryz.prog 281 6 = some 6 := by kernel_rfl
@[simp] theorem ft_281_6 : ft Tryz.prog 281 6 = some (276, 6) := by kernel_rfl
@[simp] theorem fo_281_7 : fo Tryz.prog 281 7 = some 7 := by kernel_rfl
@[simp] theorem ft_281_7 : ft Tryz.prog 281 7 = some (277, 7) := by kernel_rfl
@[simp] theorem fo_281_8 : fo Tryz.prog 281 8 = some 8 := by kernel_rfl
@[simp] theorem ft_281_8 : ft Tryz.prog 281 8 = some (278, 8) := by kernel_rfl
@[simp] theorem fo_281_9 : fo Tryz.prog 281 9 = some 9 := by kernel_rfl
@[simp] theorem ft_281_9 : ft Tryz.prog 281 9 = some (279, 9) := by kernel_rfl
@[simp] theorem fo_281_10 : fo Tryz.prog 281 10 = some 10 := by kernel_rfl
@[simp] theorem ft_281_10 : ft Tryz.prog 281 10 = some (280, 10) := by kernel_rfl
@[simp] theorem tk_282 : tk Tryz.prog 282 = some (true, 11) := by kernel_rfl
@[simp] theorem places_282 : places Tryz.prog 282 = some [(0, 1), (1, 1), (2, 1), (3, 1), (4, 1), (5, 1), (6, 1), (7, 1), (8, 1), (9, 1), (10, 1)] := by kernel_rfl
@[simp] theorem zvA_282 : zvA Tryz.prog 282 = some [AV.d (D.v (Value.int IntKind.u64 (0))), AV.d (D.v (Value.int IntKind.u64 (0))), AV.d (D.v (Value.int IntKind.u32 (0))), AV.d (D.v (Value.int IntKind.u8 (0))), AV.d (D.v (Value.int IntKind.u8 (0))), AV.d (D.v (Value.int IntKind.u8 (0))), AV.d (D.v (Value.int IntKind.u8 (0))), AV.d (D.v Value.nilFunc), AV.d (D.v (Value.pointer none)), AV.d (D.v (Value.int IntKind.i32 (0))), AV.d (D.v (Value.int IntKind.i32 (0)))] := by kernel_rfl
@[simp] theorem ar_282 : ar Tryz.prog 282 = none := by kernel_rfl
@[simp] theorem fo_282_0 : fo Tryz.prog 282 0 = some 0 := by kernel_rfl
@[simp] theorem ft_282_0 : ft Tryz.prog 282 0 = some (12, 0) := by kernel_rfl
@[simp] theorem fo_282_1 : fo Tryz.prog 282 1 = some 1 := by kernel_rfl
@[simp] theorem ft_282_1 : ft Tryz.prog 282 1 = some (12, 1) := by kernel_rfl
@[simp] theorem fo_282_2 : fo Tryz.prog 282 2 = some 2 := by kernel_rfl
@[simp] theorem ft_282_2 : ft Tryz.prog 282 2 = some (22, 2) := by kernel_rfl
@[simp] theorem fo_282_3 : fo Tryz.prog 282 3 = some 3 := by kernel_rfl
@[simp] theorem ft_282_3 : ft Tryz.prog 282 3 = some (275, 3) := by kernel_rfl
@[simp] theorem fo_282_4 : fo Tryz.prog 282 4 = some 4 := by kernel_rfl
@[simp] theorem ft_282_4 : ft Tryz.prog 282 4 = some (5, 4) := by kernel_rfl
@[simp] theorem fo_282_5 : fo Tryz.prog 282 5 = some 5 := by kernel_rfl
@[simp] theorem ft_282_5 : ft Tryz.prog 282 5 = some (5, 5) := by kernel_rfl
@[simp] theorem fo_282_6 : fo Tryz.prog 282 6 = some 6 := by kernel_rfl
@[simp] theorem ft_282_6 : ft Tryz.prog 282 6 = some (276, 6) := by kernel_rfl
@[simp] theorem fo_282_7 : fo Tryz.prog 282 7 = some 7 := by kernel_rfl
@[simp] theorem ft_282_7 : ft Tryz.prog 282 7 = some (277, 7) := by kernel_rfl
@[simp] theorem fo_282_8 : fo Tryz.prog 282 8 = some 8 := by kernel_rfl
@[simp] theorem ft_282_8 : ft Tryz.prog 282 8 = some (278, 8) := by kernel_rfl
@[simp] theorem fo_282_9 : fo Tryz.prog 282 9 = some 9 := by kernel_rfl
@[simp] theorem ft_282_9 : ft Tryz.prog 282 9 = some (279, 9) := by kernel_rfl
@[simp] theorem fo_282_10 : fo Tryz.prog 282 10 = some 10 := by kernel_rfl
@[simp] theorem ft_282_10 : ft Tryz.prog 282 10 = some (280, 10) := by kernel_rfl
@[simp] theorem tk_168 : tk Tryz.prog 168 = some (true, 256) := by kernel_rfl
@[simp] theorem places_168 : places Tryz.prog 168 = none := by kernel_rfl
@[simp] theorem ar_168 : ar Tryz.prog 168 = some (256, 5, 1) := by kernel_rfl
@[simp] theorem tk_200 : tk Tryz.prog 200 = some (true, 24) := by kernel_rfl
@[simp] theorem places_200 : places Tryz.prog 200 = none := by kernel_rfl
@[simp] theorem zvA_200 : zvA Tryz.prog 200 = some [AV.d (D.v (Value.int IntKind.u8 (0))), AV.d (D.v (Value.int IntKind.u8 (0))), AV.d (D.v (Value.int IntKind.u8 (0))), AV.d (D.v (Value.int IntKind.u8 (0))), AV.d (D.v (Value.int IntKind.u8 (0))), AV.d (D.v (Value.int IntKind.u8 (0))), AV.d (D.v (Value.int IntKind.u8 (0))), AV.d (D.v (Value.int IntKind.u8 (0))), AV.d (D.v (Value.int IntKind.u8 (0))), AV.d (D.v (Value.int IntKind.u8 (0))), AV.d (D.v (Value.int IntKind.u8 (0))), AV.d (D.v (Value.int IntKind.u8 (0))), AV.d (D.v (Value.int IntKind.u8 (0))), AV.d (D.v (Value.int IntKind.u8 (0))), AV.d (D.v (Value.int IntKind.u8 (0))), AV.d (D.v (Value.int IntKind.u8 (0))), AV.d (D.v (Value.int IntKind.u8 (0))), AV.d (D.v (Value.int IntKind.u8 (0))), AV.d (D.v (Value.int IntKind.u8 (0))), AV.d (D.v (Value.int IntKind.u8 (0))), AV.d (D.v (Value.int IntKind.u8 (0))), AV.d (D.v (Value.int IntKind.u8 (0))), AV.d (D.v (Value.int IntKind.u8 (0))), AV.d (D.v (Value.int IntKind.u8 (0)))] := by kernel_rfl
@[simp] theorem ar_200 : ar Tryz.prog 200 = some (24, 5, 1) := by kernel_rfl
@[simp] theorem tk_233 : tk Tryz.prog 233 = some (true, 20) := by kernel_rfl
@[simp] theorem places_233 : places Tryz.prog 233 = none := by kernel_rfl
@[simp] theorem zvA_233 : zvA Tryz.prog 233 = some [AV.d (D.v (Value.int IntKind.u64 (0))), AV.d (D.v (Value.int IntKind.u64 (0))), AV.d (D.v (Value.int IntKind.u64 (0))), AV.d (D.v (Value.int IntKind.u64 (0))), AV.d (D.v (Value.int IntKind.u64 (0))), AV.d (D.v (Value.int IntKind.u64 (0))), AV.d (D.v (Value.int IntKind.u64 (0))), AV.d (D.v (Value.int IntKind.u64 (0))), AV.d (D.v (Value.int IntKind.u64 (0))), AV.d (D.v (Value.int IntKind.u64 (0))), AV.d (D.v (Value.int IntKind.u64 (0))), AV.d (D.v (Value.int IntKind.u64 (0))), AV.d (D.v (Value.int IntKind.u64 (0))), AV.d (D.v (Value.int IntKind.u64 (0))), AV.d (D.v (Value.int IntKind.u64 (0))), AV.d (D.v (Value.int IntKind.u64 (0))), AV.d (D.v (Value.int IntKind.u64 (0))), AV.d (D.v (Value.int IntKind.u64 (0))), AV.d (D.v (Value.int IntKind.u64 (0))), AV.d (D.v (Value.int IntKind.u64 (0)))] := by kernel_rfl
@[simp] theorem ar_233 : ar Tryz.prog 233 = some (20, 199, 1) := by kernel_rfl
@[simp] theorem tk_234 : tk Tryz.prog 234 = some (true, 65) := by kernel_rfl
@[simp] theorem places_234 : places Tryz.prog 234 = none := by kernel_rfl
@[simp] theorem zvA_234 : zvA Tryz.prog 234 = some [AV.d (D.v (Value.int IntKind.u8 (0))), AV.d (D.v (Value.int IntKind.u8 (0))), AV.d (D.v (Value.int IntKind.u8 (0))), AV.d (D.v (Value.int IntKind.u8 (0))), AV.d (D.v (Value.int IntKind.u8 (0))), AV.d (D.v (Value.int IntKind.u8 (0))), AV.d (D.v (Value.int IntKind.u8 (0))), AV.d (D.v (Value.int IntKind.u8 (0))), AV.d (D.v (Value.int IntKind.u8 (0))), AV.d (D.v (Value.int IntKind.u8 (0))), AV.d (D.v (Value.int IntKind.u8 (0))), AV.d (D.v (Value.int IntKind.u8 (0))), AV.d (D.v (Value.int IntKind.u8 (0))), AV.d (D.v (Value.int IntKind.u8 (0))), AV.d (D.v (Value.int IntKind.u8 (0))), AV.d (D.v (Value.int IntKind.u8 (0))), AV.d (D.v (Value.int IntKind.u8 (0))), AV.d (D.v (Value.int IntKind.u8 (0))), AV.d (D.v (Value.int IntKind.u8 (0))), AV.d (D.v (Value.int IntKind.u8 (0))), AV.d (D.v (Value.int IntKind.u8 (0))), AV.d (D.v (Value.int IntKind.u8 (0))), AV.d (D.v (Value.int IntKind.u8 (0))), AV.d (D.v (Value.int IntKind.u8 (0))), AV.d (D.v (Value.int IntKind.u8 (0))), AV.d (D.v (Value.int IntKind.u8 (0))), AV.d (D.v (Value.int IntKind.u8 (0))), AV.d (D.v (Value.int IntKind.u8 (0))), AV.d (D.v (Value.int IntKind.u8 (0))), AV.d (D.v (Value.int IntKind.u8 (0))), AV.d (D.v (Value.int IntKind.u8 (0))), AV.d (D.v (Value.int IntKind.u8 (0))), AV.d (D.v (Value.int IntKind.u8 (0))), AV.d (D.v (Value.int IntKind.u8 (0))), AV.d (D.v (Value.int IntKind.u8 (0))), AV.d (D.v (Value.int IntKind.u8 (0))), AV.d (D.v (Value.int IntKind.u8 (0))), AV.d (D.v (Value.int IntKind.u8 (0))), AV.d (D.v (Value.int IntKind.u8 (0))), AV.d (D.v (Value.int IntKind.u8 (0))), AV.d (D.v (Value.int IntKind.u8 (0))), AV.d (D.v (Value.int IntKind.u8 (0))), AV.d (D.v (Value.int IntKind.u8 (0))), AV.d (D.v (Value.int IntKind.u8 (0))), AV.d (D.v (Value.int IntKind.u8 (0))), AV.d (D.v (Value.int IntKind.u8 (0))), AV.d (D.v (Value.int IntKind.u8 (0))), AV.d (D.v (Value.int IntKind.u8 (0))), AV.d (D.v (Value.int IntKind.u8 (0))), AV.d (D.v (Value.int IntKind.u8 (0))), AV.d (D.v (Value.int IntKind.u8 (0))), AV.d (D.v (Value.int IntKind.u8 (0))), AV.d (D.v (Value.int IntKind.u8 (0))), AV.d (D.v (Value.int IntKind.u8 (0))), AV.d (D.v (Value.int IntKind.u8 (0))), AV.d (D.v (Value.int IntKind.u8 (0))), AV.d (D.v (Value.int IntKind.u8 (0))), AV.d (D.v (Value.int IntKind.u8 (0))), AV.d (D.v (Value.int IntKind.u8 (0))), AV.d (D.v (Value.int IntKind.u8 (0))), AV.d (D.v (Value.int IntKind.u8 (0))), AV.d (D.v (Value.int IntKind.u8 (0))), AV.d (D.v (Value.int IntKind.u8 (0))), AV.d (D.v (Value.int IntKind.u8 (0))), AV.d (D.v (Value.int IntKind.u8 (0)))] := by kernel_rfl
@[simp] theorem ar_234 : ar Tryz.prog 234 = some (65, 5, 1) := by kernel_rfl
@[simp] theorem tk_263 : tk Tryz.prog 263 = some (true, 32) := by kernel_rfl
@[simp] theorem places_263 : places Tryz.prog 263 = none := by kernel_rfl
@[simp] theorem zvA_263 : zvA Tryz.prog 263 = some [AV.d (D.v (Value.int IntKind.u8 (0))), AV.d (D.v (Value.int IntKind.u8 (0))), AV.d (D.v (Value.int IntKind.u8 (0))), AV.d (D.v (Value.int IntKind.u8 (0))), AV.d (D.v (Value.int IntKind.u8 (0))), AV.d (D.v (Value.int IntKind.u8 (0))), AV.d (D.v (Value.int IntKind.u8 (0))), AV.d (D.v (Value.int IntKind.u8 (0))), AV.d (D.v (Value.int IntKind.u8 (0))), AV.d (D.v (Value.int IntKind.u8 (0))), AV.d (D.v (Value.int IntKind.u8 (0))), AV.d (D.v (Value.int IntKind.u8 (0))), AV.d (D.v (Value.int IntKind.u8 (0))), AV.d (D.v (Value.int IntKind.u8 (0))), AV.d (D.v (Value.int IntKind.u8 (0))), AV.d (D.v (Value.int IntKind.u8 (0))), AV.d (D.v (Value.int IntKind.u8 (0))), AV.d (D.v (Value.int IntKind.u8 (0))), AV.d (D.v (Value.int IntKind.u8 (0))), AV.d (D.v (Value.int IntKind.u8 (0))), AV.d (D.v (Value.int IntKind.u8 (0))), AV.d (D.v (Value.int IntKind.u8 (0))), AV.d (D.v (Value.int IntKind.u8 (0))), AV.d (D.v (Value.int IntKind.u8 (0))), AV.d (D.v (Value.int IntKind.u8 (0))), AV.d (D.v (Value.int IntKind.u8 (0))), AV.d (D.v (Value.int IntKind.u8 (0))), AV.d (D.v (Value.int IntKind.u8 (0))), AV.d (D.v (Value.int IntKind.u8 (0))), AV.d (D.v (Value.int IntKind.u8 (0))), AV.d (D.v (Value.int IntKind.u8 (0))), AV.d (D.v (Value.int IntKind.u8 (0)))] := by kernel_rfl
@[simp] theorem ar_263 : ar Tryz.prog 263 = some (32, 5, 1) := by kernel_rfl
@[simp] theorem tk_264 : tk Tryz.prog 264 = some (true, 64) := by kernel_rfl
@[simp] theorem places_264 : places Tryz.prog 264 = none := by kernel_rfl
@[simp] theorem zvA_264 : zvA Tryz.prog 264 = some [AV.d (D.v (Value.int IntKind.u8 (0))), AV.d (D.v (Value.int IntKind.u8 (0))), AV.d (D.v (Value.int IntKind.u8 (0))), AV.d (D.v (Value.int IntKind.u8 (0))), AV.d (D.v (Value.int IntKind.u8 (0))), AV.d (D.v (Value.int IntKind.u8 (0))), AV.d (D.v (Value.int IntKind.u8 (0))), AV.d (D.v (Value.int IntKind.u8 (0))), AV.d (D.v (Value.int IntKind.u8 (0))), AV.d (D.v (Value.int IntKind.u8 (0))), AV.d (D.v (Value.int IntKind.u8 (0))), AV.d (D.v (Value.int IntKind.u8 (0))), AV.d (D.v (Value.int IntKind.u8 (0))), AV.d (D.v (Value.int IntKind.u8 (0))), AV.d (D.v (Value.int IntKind.u8 (0))), AV.d (D.v (Value.int IntKind.u8 (0))), AV.d (D.v (Value.int IntKind.u8 (0))), AV.d (D.v (Value.int IntKind.u8 (0))), AV.d (D.v (Value.int IntKind.u8 (0))), AV.d (D.v (Value.int IntKind.u8 (0))), AV.d (D.v (Value.int IntKind.u8 (0))), AV.d (D.v (Value.int IntKind.u8 (0))), AV.d (D.v (Value.int IntKind.u8 (0))), AV.d (D.v (Value.int IntKind.u8 (0))), AV.d (D.v (Value.int IntKind.u8 (0))), AV.d (D.v (Value.int IntKind.u8 (0))), AV.d (D.v (Value.int IntKind.u8 (0))), AV.d (D.v (Value.int IntKind.u8 (0))), AV.d (D.v (Value.int IntKind.u8 (0))), AV.d (D.v (Value.int IntKind.u8 (0))), AV.d (D.v (Value.int IntKind.u8 (0))), AV.d (D.v (Value.int IntKind.u8 (0))), AV.d (D.v (Value.int IntKind.u8 (0))), AV.d (D.v (Value.int IntKind.u8 (0))), AV.d (D.v (Value.int IntKind.u8 (0))), AV.d (D.v (Value.int IntKind.u8 (0))), AV.d (D.v (Value.int IntKind.u8 (0))), AV.d (D.v (Value.int IntKind.u8 (0))), AV.d (D.v (Value.int IntKind.u8 (0))), AV.d (D.v (Value.int IntKind.u8 (0))), AV.d (D.v (Value.int IntKind.u8 (0))), AV.d (D.v (Value.int IntKind.u8 (0))), AV.d (D.v (Value.int IntKind.u8 (0))), AV.d (D.v (Value.int IntKind.u8 (0))), AV.d (D.v (Value.int IntKind.u8 (0))), AV.d (D.v (Value.int IntKind.u8 (0))), AV.d (D.v (Value.int IntKind.u8 (0))), AV.d (D.v (Value.int IntKind.u8 (0))), AV.d (D.v (Value.int IntKind.u8 (0))), AV.d (D.v (Value.int IntKind.u8 (0))), AV.d (D.v (Value.int IntKind.u8 (0))), AV.d (D.v (Value.int IntKind.u8 (0))), AV.d (D.v (Value.int IntKind.u8 (0))), AV.d (D.v (Value.int IntKind.u8 (0))), AV.d (D.v (Value.int IntKind.u8 (0))), AV.d (D.v (Value.int IntKind.u8 (0))), AV.d (D.v (Value.int IntKind.u8 (0))), AV.d (D.v (Value.int IntKind.u8 (0))), AV.d (D.v (Value.int IntKind.u8 (0))), AV.d (D.v (Value.int IntKind.u8 (0))), AV.d (D.v (Value.int IntKind.u8 (0))), AV.d (D.v (Value.int IntKind.u8 (0))), AV.d (D.v (Value.int IntKind.u8 (0))), AV.d (D.v (Value.int IntKind.u8 (0)))] := by kernel_rfl
@[simp] theorem ar_264 : ar Tryz.prog 264 = some (64, 5, 1) := by kernel_rfl
@[simp] theorem tk_271 : tk Tryz.prog 271 = some (true, 0) := by kernel_rfl
@[simp] theorem places_271 : places Tryz.prog 271 = none := by kernel_rfl
@[simp] theorem zvA_271 : zvA Tryz.prog 271 = some [] := by kernel_rfl
@[simp] theorem ar_271 : ar Tryz.prog 271 = some (0, 16, 1) := by kernel_rfl
@[simp] theorem tk_23 : tk Tryz.prog 23 = some (false, 1) := by kernel_rfl
@[simp] theorem sl_23 : sl Tryz.prog 23 = some (25, 5) := by kernel_rfl
@[simp] theorem zvA_23 : zvA Tryz.prog 23 = some [AV.d (D.v (Value.slice none 0 0))] := by kernel_rfl
@[simp] theorem byt_23 : byt Tryz.prog 23 = some (25, 5, 56) := by kernel_rfl
@[simp] theorem tk_26 : tk Tryz.prog 26 = some (false, 1) := by kernel_rfl
@[simp] theorem sl_26 : sl Tryz.prog 26 = some (9, 1) := by kernel_rfl
@[simp] theorem zvA_26 : zvA Tryz.prog 26 = some [AV.d (D.v (Value.slice none 0 0))] := by kernel_rfl
@[simp] theorem byt_26 : byt Tryz.prog 26 = some (9, 1, 16) := by kernel_rfl
@[simp] theorem tk_29 : tk Tryz.prog 29 = some (false, 1) := by kernel_rfl
@[simp] theorem sl_29 : sl Tryz.prog 29 = some (31, 5) := by kernel_rfl
@[simp] theorem zvA_29 : zvA Tryz.prog 29 = some [AV.d (D.v (Value.slice none 0 0))] := by kernel_rfl
@[simp] theorem byt_29 : byt Tryz.prog 29 = some (31, 5, 64) := by kernel_rfl
@[simp] theorem tk_37 : tk Tryz.prog 37 = some (false, 1) := by kernel_rfl
@[simp] theorem sl_37 : sl Tryz.prog 37 = some (60, 2) := by kernel_rfl
@[simp] theorem zvA_37 : zvA Tryz.prog 37 = some [AV.d (D.v (Value.slice none 0 0))] := by kernel_rfl
@[simp] theorem byt_37 : byt Tryz.prog 37 = some (60, 2, 32) := by kernel_rfl
@[simp] theorem tk_42 : tk Tryz.prog 42 = some (false, 1) := by kernel_rfl
@[simp] theorem sl_42 : sl Tryz.prog 42 = some (44, 5) := by kernel_rfl
@[simp] theorem zvA_42 : zvA Tryz.prog 42 = some [AV.d (D.v (Value.slice none 0 0))] := by kernel_rfl
@[simp] theorem byt_42 : byt Tryz.prog 42 = some (44, 5, 72) := by kernel_rfl
@[simp] theorem tk_45 : tk Tryz.prog 45 = some (false, 1) := by kernel_rfl
@[simp] theorem sl_45 : sl Tryz.prog 45 = some (22, 1) := by kernel_rfl
@[simp] theorem zvA_45 : zvA Tryz.prog 45 = some [AV.d (D.v (Value.slice none 0 0))] := by kernel_rfl
@[simp] theorem byt_45 : byt Tryz.prog 45 = some (22, 1, 4) := by kernel_rfl
@[simp] theorem tk_47 : tk Tryz.prog 47 = some (false, 1) := by kernel_rfl
@[simp] theorem sl_47 : sl Tryz.prog 47 = some (66, 6) := by kernel_rfl
@[simp] theorem zvA_47 : zvA Tryz.prog 47 = some [AV.d (D.v (Value.slice none 0 0))] := by kernel_rfl
@[simp] theorem byt_47 : byt Tryz.prog 47 = some (66, 6, 88) := by kernel_rfl
@[simp] theorem tk_48 : tk Tryz.prog 48 = some (false, 1) := by kernel_rfl
@[simp] theorem sl_48 : sl Tryz.prog 48 = some (69, 7) := by kernel_rfl
@[simp] theorem zvA_48 : zvA Tryz.prog 48 = some [AV.d (D.v (Value.slice none 0 0))] := by kernel_rfl
@[simp] theorem byt_48 : byt Tryz.prog 48 = some (69, 7, 128) := by kernel_rfl
@[simp] theorem tk_55 : tk Tryz.prog 55 = some (false, 1) := by kernel_rfl
@[simp] theorem sl_55 : sl Tryz.prog 55 = some (3, 1) := by kernel_rfl
@[simp] theorem zvA_55 : zvA Tryz.prog 55 = some [AV.d (D.v (Value.slice none 0 0))] := by kernel_rfl
@[simp] theorem byt_55 : byt Tryz.prog 55 = some (3, 1, 8) := by kernel_rfl
@[simp] theorem tk_58 : tk Tryz.prog 58 = some (false, 1) := by kernel_rfl
@[simp] theorem sl_58 : sl Tryz.prog 58 = some (57, 8) := by kernel_rfl
@[simp] theorem zvA_58 : zvA Tryz.prog 58 = some [AV.d (D.v (Value.slice none 0 0))] := by kernel_rfl
@[simp] theorem byt_58 : byt Tryz.prog 58 = some (57, 8, 96) := by kernel_rfl
@[simp] theorem tk_61 : tk Tryz.prog 61 = some (false, 1) := by kernel_rfl
@[simp] theorem sl_61 : sl Tryz.prog 61 = some (64, 5) := by kernel_rfl
@[simp] theorem zvA_61 : zvA Tryz.prog 61 = some [AV.d (D.v (Value.slice none 0 0))] := by kernel_rfl
@[simp] theorem byt_61 : byt Tryz.prog 61 = some (64, 5, 72) := by kernel_rfl
@[simp] theorem tk_62 : tk Tryz.prog 62 = some (false, 1) := by kernel_rfl
@[simp] theorem sl_62 : sl Tryz.prog 62 = some (149, 6) := by kernel_rfl
@[simp] theorem zvA_62 : zvA Tryz.prog 62 = some [AV.d (D.v (Value.slice none 0 0))] := by kernel_rfl
@[simp] theorem byt_62 : byt Tryz.prog 62 = some (149, 6, 80) := by kernel_rfl
@[simp] theorem tk_67 : tk Tryz.prog 67 = some (false, 1) := by kernel_rfl
@[simp] theorem sl_67 : sl Tryz.prog 67 = some (48, 1) := by kernel_rfl
@[simp] theorem zvA_67 : zvA Tryz.prog 67 = some [AV.d (D.v (Value.slice none 0 0))] := by kernel_rfl
@[simp] theorem byt_67 : byt Tryz.prog 67 = some (48, 1, 24) := by kernel_rfl
@[simp] theorem tk_70 : tk Tryz.prog 70 = some (false, 1) := by kernel_rfl
@[simp] theorem sl_70 : sl Tryz.prog 70 = some (103, 5) := by kernel_rfl
@[simp] theorem zvA_70 : zvA Tryz.prog 70 = some [AV.d (D.v (Value.slice none 0 0))] := by kernel_rfl
@[simp] theorem byt_70 : byt Tryz.prog 70 = some (103, 5, 56) := by kernel_rfl
@[simp] theorem tk_71 : tk Tryz.prog 71 = some (false, 1) := by kernel_rfl
@[simp] theorem sl_71 : sl Tryz.prog 71 = some (50, 3) := by kernel_rfl
@[simp] theorem zvA_71 : zvA Tryz.prog 71 = some [AV.d (D.v (Value.slice none 0 0))] := by kernel_rfl
@[simp] theorem byt_71 : byt Tryz.prog 71 = some (50, 3, 64) := by kernel_rfl
@[simp] theorem tk_101 : tk Tryz.prog 101 = some (false, 1) := by kernel_rfl
@[simp] theorem sl_101 : sl Tryz.prog 101 = some (5, 1) := by kernel_rfl
@[simp] theorem zvA_101 : zvA Tryz.prog 101 = some [AV.d (D.v (Value.slice none 0 0))] := by kernel_rfl
@[simp] theorem byt_101 : byt Tryz.prog 101 = some (5, 1, 1) := by kernel_rfl
@[simp] theorem tk_160 : tk Tryz.prog 160 = some (false, 1) := by kernel_rfl
@[simp] theorem sl_160 : sl Tryz.prog 160 = some (4, 1) := by kernel_rfl
@[simp] theorem zvA_160 : zvA Tryz.prog 160 = some [AV.d (D.v (Value.slice none 0 0))] := by kernel_rfl
@[simp] theorem byt_160 : byt Tryz.prog 160 = some (4, 1, 1) := by kernel_rfl
@[simp] theorem tk_178 : tk Tryz.prog 178 = some (false, 1) := by kernel_rfl
@[simp] theorem sl_178 : sl Tryz.prog 178 = some (185, 8) := by kernel_rfl
@[simp] theorem zvA_178 : zvA Tryz.prog 178 = some [AV.d (D.v (Value.slice none 0 0))] := by kernel_rfl
@[simp] theorem byt_178 : byt Tryz.prog 178 = some (185, 8, 136) := by kernel_rfl
@[simp] theorem tk_208 : tk Tryz.prog 208 = some (false, 1) := by kernel_rfl
@[simp] theorem sl_208 : sl Tryz.prog 208 = some (210, 2) := by kernel_rfl
@[simp] theorem zvA_208 : zvA Tryz.prog 208 = some [AV.d (D.v (Value.slice none 0 0))] := by kernel_rfl
@[simp] theorem byt_208 : byt Tryz.prog 208 = some (210, 2, 16) := by kernel_rfl
@[simp] theorem tk_220 : tk Tryz.prog 220 = some (false, 1) := by kernel_rfl
@[simp] theorem sl_220 : sl Tryz.prog 220 = some (47, 1) := by kernel_rfl
@[simp] theorem zvA_220 : zvA Tryz.prog 220 = some [AV.d (D.v (Value.slice none 0 0))] := by kernel_rfl
@[simp] theorem byt_220 : byt Tryz.prog 220 = some (47, 1, 24) := by kernel_rfl
@[simp] theorem tk_236 : tk Tryz.prog 236 = some (false, 1) := by kernel_rfl
@[simp] theorem sl_236 : sl Tryz.prog 236 = some (55, 1) := by kernel_rfl
@[simp] theorem zvA_236 : zvA Tryz.prog 236 = some [AV.d (D.v (Value.slice none 0 0))] := by kernel_rfl
@[simp] theorem byt_236 : byt Tryz.prog 236 = some (55, 1, 24) := by kernel_rfl
@[simp] theorem tk_239 : tk Tryz.prog 239 = some (false, 1) := by kernel_rfl
@[simp] theorem sl_239 : sl Tryz.prog 239 = some (245, 3) := by kernel_rfl
@[simp] theorem zvA_239 : zvA Tryz.prog 239 = some [AV.d (D.v (Value.slice none 0 0))] := by kernel_rfl
@[simp] theorem byt_239 : byt Tryz.prog 239 = some (245, 3, 6) := by kernel_rfl
@[simp] theorem tk_240 : tk Tryz.prog 240 = some (false, 1) := by kernel_rfl
@[simp] theorem sl_240 : sl Tryz.prog 240 = some (248, 3) := by kernel_rfl
@[simp] theorem zvA_240 : zvA Tryz.prog 240 = some [AV.d (D.v (Value.slice none 0 0))] := by kernel_rfl
@[simp] theorem byt_240 : byt Tryz.prog 240 = some (248, 3, 12) := by kernel_rfl
@[simp] theorem tk_261 : tk Tryz.prog 261 = some (false, 1) := by kernel_rfl
@[simp] theorem sl_261 : sl Tryz.prog 261 = some (67, 1) := by kernel_rfl
@[simp] theorem zvA_261 : zvA Tryz.prog 261 = some [AV.d (D.v (Value.slice none 0 0))] := by kernel_rfl
@[simp] theorem byt_261 : byt Tryz.prog 261 = some (67, 1, 24) := by kernel_rfl
@[simp] theorem tk_2 : tk Tryz.prog 2 = some (false, 1) := by kernel_rfl
@[simp] theorem isInt_2 : isInt Tryz.prog 2 = some IntKind.i64 := by kernel_rfl
@[simp] theorem isStr_2 : isStr Tryz.prog 2 = false := by kernel_rfl
@[simp] theorem zvA_2 : zvA Tryz.prog 2 = some [AV.d (D.v (Value.int IntKind.i64 (0)))] := by kernel_rfl
@[simp] theorem tk_3 : tk Tryz.prog 3 = some (false, 1) := by kernel_rfl
@[simp] theorem isInt_3 : isInt Tryz.prog 3 = some IntKind.i64 := by kernel_rfl
@[simp] theorem isStr_3 : isStr Tryz.prog 3 = false := by kernel_rfl
@[simp] theorem zvA_3 : zvA Tryz.prog 3 = some [AV.d (D.v (Value.int IntKind.i64 (0)))] := by kernel_rfl
@[simp] theorem tk_4 : tk Tryz.prog 4 = some (false, 1) := by kernel_rfl
@[simp] theorem isInt_4 : isInt Tryz.prog 4 = none := by kernel_rfl
@[simp] theorem isStr_4 : isStr Tryz.prog 4 = false := by kernel_rfl
@[simp] theorem zvA_4 : zvA Tryz.prog 4 = some [AV.d (D.v (Value.bool false))] := by kernel_rfl
@[simp] theorem tk_5 : tk Tryz.prog 5 = some (false, 1) := by kernel_rfl
@[simp] theorem isInt_5 : isInt Tryz.prog 5 = some IntKind.u8 := by kernel_rfl
@[simp] theorem isStr_5 : isStr Tryz.prog 5 = false := by kernel_rfl
@[simp] theorem zvA_5 : zvA Tryz.prog 5 = some [AV.d (D.v (Value.int IntKind.u8 (0)))] := by kernel_rfl
@[simp] theorem tk_6 : tk Tryz.prog 6 = some (false, 1) := by kernel_rfl
@[simp] theorem isInt_6 : isInt Tryz.prog 6 = some IntKind.u8 := by kernel_rfl
@[simp] theorem isStr_6 : isStr Tryz.prog 6 = false := by kernel_rfl
@[simp] theorem zvA_6 : zvA Tryz.prog 6 = some [AV.d (D.v (Value.int IntKind.u8 (0)))] := by kernel_rfl
@[simp] theorem tk_9 : tk Tryz.prog 9 = some (false, 1) := by kernel_rfl
@[simp] theorem isInt_9 : isInt Tryz.prog 9 = none := by kernel_rfl
@[simp] theorem isStr_9 : isStr Tryz.prog 9 = true := by kernel_rfl
@[simp] theorem zvA_9 : zvA Tryz.prog 9 = some [AV.d (D.v (Value.string { data := #[] }))] := by kernel_rfl
@[simp] theorem tk_10 : tk Tryz.prog 10 = some (false, 1) := by kernel_rfl
@[simp] theorem isInt_10 : isInt Tryz.prog 10 = none := by kernel_rfl
@[simp] theorem isStr_10 : isStr Tryz.prog 10 = true := by kernel_rfl
@[simp] theorem zvA_10 : zvA Tryz.prog 10 = some [AV.d (D.v (Value.string { data := #[] }))] := by kernel_rfl
@[simp] theorem tk_11 : tk Tryz.prog 11 = some (false, 1) := by kernel_rfl
@[simp] theorem isInt_11 : isInt Tryz.prog 11 = none := by kernel_rfl
@[simp] theorem isStr_11 : isStr Tryz.prog 11 = true := by kernel_rfl
@[simp] theorem zvA_11 : zvA Tryz.prog 11 = some [AV.d (D.v (Value.string { data := #[] }))] := by kernel_rfl
@[simp] theorem tk_12 : tk Tryz.prog 12 = some (false, 1) := by kernel_rfl
@[simp] theorem isInt_12 : isInt Tryz.prog 12 = some IntKind.u64 := by kernel_rfl
@[simp] theorem isStr_12 : isStr Tryz.prog 12 = false := by kernel_rfl
@[simp] theorem zvA_12 : zvA Tryz.prog 12 = some [AV.d (D.v (Value.int IntKind.u64 (0)))] := by kernel_rfl
@[simp] theorem tk_21 : tk Tryz.prog 21 = some (false, 1) := by kernel_rfl
@[simp] theorem isInt_21 : isInt Tryz.prog 21 = some IntKind.i32 := by kernel_rfl
@[simp] theorem isStr_21 : isStr Tryz.prog 21 = false := by kernel_rfl
@[simp] theorem zvA_21 : zvA Tryz.prog 21 = some [AV.d (D.v (Value.int IntKind.i32 (0)))] := by kernel_rfl
@[simp] theorem tk_22 : tk Tryz.prog 22 = some (false, 1) := by kernel_rfl
@[simp] theorem isInt_22 : isInt Tryz.prog 22 = some IntKind.u32 := by kernel_rfl
@[simp] theorem isStr_22 : isStr Tryz.prog 22 = false := by kernel_rfl
@[simp] theorem zvA_22 : zvA Tryz.prog 22 = some [AV.d (D.v (Value.int IntKind.u32 (0)))] := by kernel_rfl
@[simp] theorem tk_32 : tk Tryz.prog 32 = some (false, 1) := by kernel_rfl
@[simp] theorem isInt_32 : isInt Tryz.prog 32 = some IntKind.i64 := by kernel_rfl
@[simp] theorem isStr_32 : isStr Tryz.prog 32 = false := by kernel_rfl
@[simp] theorem zvA_32 : zvA Tryz.prog 32 = some [AV.d (D.v (Value.int IntKind.i64 (0)))] := by kernel_rfl
@[simp] theorem tk_155 : tk Tryz.prog 155 = some (false, 1) := by kernel_rfl
@[simp] theorem isInt_155 : isInt Tryz.prog 155 = some IntKind.u64 := by kernel_rfl
@[simp] theorem isStr_155 : isStr Tryz.prog 155 = false := by kernel_rfl
@[simp] theorem zvA_155 : zvA Tryz.prog 155 = some [AV.d (D.v (Value.int IntKind.u64 (0)))] := by kernel_rfl
@[simp] theorem tk_189 : tk Tryz.prog 189 = some (false, 1) := by kernel_rfl
@[simp] theorem isInt_189 : isInt Tryz.prog 189 = some IntKind.i64 := by kernel_rfl
@[simp] theorem isStr_189 : isStr Tryz.prog 189 = false := by kernel_rfl
@[simp] theorem zvA_189 : zvA Tryz.prog 189 = some [AV.d (D.v (Value.int IntKind.i64 (0)))] := by kernel_rfl
@[simp] theorem tk_199 : tk Tryz.prog 199 = some (false, 1) := by kernel_rfl
@[simp] theorem isInt_199 : isInt Tryz.prog 199 = some IntKind.u64 := by kernel_rfl
@[simp] theorem isStr_199 : isStr Tryz.prog 199 = false := by kernel_rfl
@[simp] theorem zvA_199 : zvA Tryz.prog 199 = some [AV.d (D.v (Value.int IntKind.u64 (0)))] := by kernel_rfl
@[simp] theorem tk_226 : tk Tryz.prog 226 = some (false, 1) := by kernel_rfl
@[simp] theorem isInt_226 : isInt Tryz.prog 226 = some IntKind.u64 := by kernel_rfl
@[simp] theorem isStr_226 : isStr Tryz.prog 226 = false := by kernel_rfl
@[simp] theorem zvA_226 : zvA Tryz.prog 226 = some [AV.d (D.v (Value.int IntKind.u64 (0)))] := by kernel_rfl
@[simp] theorem tk_243 : tk Tryz.prog 243 = some (false, 1) := by kernel_rfl
@[simp] theorem isInt_243 : isInt Tryz.prog 243 = some IntKind.u16 := by kernel_rfl
@[simp] theorem isStr_243 : isStr Tryz.prog 243 = false := by kernel_rfl
@[simp] theorem zvA_243 : zvA Tryz.prog 243 = some [AV.d (D.v (Value.int IntKind.u16 (0)))] := by kernel_rfl
@[simp] theorem tk_275 : tk Tryz.prog 275 = some (false, 1) := by kernel_rfl
@[simp] theorem isInt_275 : isInt Tryz.prog 275 = some IntKind.u8 := by kernel_rfl
@[simp] theorem isStr_275 : isStr Tryz.prog 275 = false := by kernel_rfl
@[simp] theorem zvA_275 : zvA Tryz.prog 275 = some [AV.d (D.v (Value.int IntKind.u8 (0)))] := by kernel_rfl
@[simp] theorem tk_276 : tk Tryz.prog 276 = some (false, 1) := by kernel_rfl
@[simp] theorem isInt_276 : isInt Tryz.prog 276 = some IntKind.u8 := by kernel_rfl
@[simp] theorem isStr_276 : isStr Tryz.prog 276 = false := by kernel_rfl
@[simp] theorem zvA_276 : zvA Tryz.prog 276 = some [AV.d (D.v (Value.int IntKind.u8 (0)))] := by kernel_rfl
@[simp] theorem tk_279 : tk Tryz.prog 279 = some (false, 1) := by kernel_rfl
@[simp] theorem isInt_279 : isInt Tryz.prog 279 = some IntKind.i32 := by kernel_rfl
@[simp] theorem isStr_279 : isStr Tryz.prog 279 = false := by kernel_rfl
@[simp] theorem zvA_279 : zvA Tryz.prog 279 = some [AV.d (D.v (Value.int IntKind.i32 (0)))] := by kernel_rfl
@[simp] theorem tk_280 : tk Tryz.prog 280 = some (false, 1) := by kernel_rfl
@[simp] theorem isInt_280 : isInt Tryz.prog 280 = some IntKind.i32 := by kernel_rfl
@[simp] theorem isStr_280 : isStr Tryz.prog 280 = false := by kernel_rfl
@[simp] theorem zvA_280 : zvA Tryz.prog 280 = some [AV.d (D.v (Value.int IntKind.i32 (0)))] := by kernel_rfl
@[simp] theorem tk_283 : tk Tryz.prog 283 = some (false, 1) := by kernel_rfl
@[simp] theorem isInt_283 : isInt Tryz.prog 283 = none := by kernel_rfl
@[simp] theorem isStr_283 : isStr Tryz.prog 283 = false := by kernel_rfl
@[simp] theorem zvA_283 : zvA Tryz.prog 283 = some [AV.d (D.v (Value.pointer none))] := by kernel_rfl
@[simp] theorem tk_1 : tk Tryz.prog 1 = some (false, 1) := by kernel_rfl
@[simp] theorem zvA_1 : zvA Tryz.prog 1 = some [AV.d (D.v Value.nilFunc)] := by kernel_rfl
@[simp] theorem tk_15 : tk Tryz.prog 15 = some (false, 1) := by kernel_rfl
@[simp] theorem zvA_15 : zvA Tryz.prog 15 = some [AV.d (D.v (Value.pointer none))] := by kernel_rfl
@[simp] theorem tk_16 : tk Tryz.prog 16 = some (false, 1) := by kernel_rfl
@[simp] theorem zvA_16 : zvA Tryz.prog 16 = some [AV.d (D.v (Value.pointer none))] := by kernel_rfl
@[simp] theorem tk_17 : tk Tryz.prog 17 = some (false, 1) := by kernel_rfl
@[simp] theorem zvA_17 : zvA Tryz.prog 17 = some [AV.d (D.v (Value.pointer none))] := by kernel_rfl
@[simp] theorem tk_20 : tk Tryz.prog 20 = some (false, 1) := by kernel_rfl
@[simp] theorem zvA_20 : zvA Tryz.prog 20 = some [AV.d (D.v Value.nilIface)] := by kernel_rfl
@[simp] theorem tk_27 : tk Tryz.prog 27 = some (false, 1) := by kernel_rfl
@[simp] theorem zvA_27 : zvA Tryz.prog 27 = some [AV.d (D.v Value.nilFunc)] := by kernel_rfl
@[simp] theorem tk_28 : tk Tryz.prog 28 = some (false, 1) := by kernel_rfl
@[simp] theorem zvA_28 : zvA Tryz.prog 28 = some [AV.d (D.v Value.nilFunc)] := by kernel_rfl
@[simp] theorem tk_34 : tk Tryz.prog 34 = some (false, 1) := by kernel_rfl
@[simp] theorem zvA_34 : zvA Tryz.prog 34 = some [AV.d (D.v Value.nilFunc)] := by kernel_rfl
@[simp] theorem tk_35 : tk Tryz.prog 35 = some (false, 1) := by kernel_rfl
@[simp] theorem zvA_35 : zvA Tryz.prog 35 = some [AV.d (D.v Value.nilFunc)] := by kernel_rfl
@[simp] theorem tk_36 : tk Tryz.prog 36 = some (false, 1) := by kernel_rfl
@[simp] theorem zvA_36 : zvA Tryz.prog 36 = some [AV.d (D.v Value.nilFunc)] := by kernel_rfl
@[simp] theorem tk_40 : tk Tryz.prog 40 = some (false, 1) := by kernel_rfl
@[simp] theorem zvA_40 : zvA Tryz.prog 40 = some [AV.d (D.v Value.nilFunc)] := by kernel_rfl
@[simp] theorem tk_41 : tk Tryz.prog 41 = some (false, 1) := by kernel_rfl
@[simp] theorem zvA_41 : zvA Tryz.prog 41 = some [AV.d (D.v Value.nilFunc)] := by kernel_rfl
@[simp] theorem tk_46 : tk Tryz.prog 46 = some (false, 1) := by kernel_rfl
@[simp] theorem zvA_46 : zvA Tryz.prog 46 = some [AV.d (D.v Value.nilFunc)] := by kernel_rfl
@[simp] theorem tk_52 : tk Tryz.prog 52 = some (false, 1) := by kernel_rfl
@[simp] theorem zvA_52 : zvA Tryz.prog 52 = some [AV.d (D.v Value.nilFunc)] := by kernel_rfl
@[simp] theorem tk_53 : tk Tryz.prog 53 = some (false, 1) := by kernel_rfl
@[simp] theorem zvA_53 : zvA Tryz.prog 53 = some [AV.d (D.v Value.nilFunc)] := by kernel_rfl
@[simp] theorem tk_54 : tk Tryz.prog 54 = some (false, 1) := by kernel_rfl
@[simp] theorem zvA_54 : zvA Tryz.prog 54 = some [AV.d (D.v Value.nilFunc)] := by kernel_rfl
@[simp] theorem tk_75 : tk Tryz.prog 75 = some (false, 1) := by kernel_rfl
@[simp] theorem zvA_75 : zvA Tryz.prog 75 = some [AV.d (D.v Value.nilFunc)] := by kernel_rfl
@[simp] theorem tk_76 : tk Tryz.prog 76 = some (false, 1) := by kernel_rfl
@[simp] theorem zvA_76 : zvA Tryz.prog 76 = some [AV.d (D.v Value.nilFunc)] := by kernel_rfl
@[simp] theorem tk_77 : tk Tryz.prog 77 = some (false, 1) := by kernel_rfl
@[simp] theorem zvA_77 : zvA Tryz.prog 77 = some [AV.d (D.v Value.nilFunc)] := by kernel_rfl
@[simp] theorem tk_78 : tk Tryz.prog 78 = some (false, 1) := by kernel_rfl
@[simp] theorem zvA_78 : zvA Tryz.prog 78 = some [AV.d (D.v Value.nilFunc)] := by kernel_rfl
@[simp] theorem tk_79 : tk Tryz.prog 79 = some (false, 1) := by kernel_rfl
@[simp] theorem zvA_79 : zvA Tryz.prog 79 = some [AV.d (D.v Value.nilFunc)] := by kernel_rfl
@[simp] theorem tk_80 : tk Tryz.prog 80 = some (false, 1) := by kernel_rfl
@[simp] theorem zvA_80 : zvA Tryz.prog 80 = some [AV.d (D.v Value.nilFunc)] := by kernel_rfl
@[simp] theorem tk_81 : tk Tryz.prog 81 = some (false, 1) := by kernel_rfl
@[simp] theorem zvA_81 : zvA Tryz.prog 81 = some [AV.d (D.v Value.nilFunc)] := by kernel_rfl
@[simp] theorem tk_82 : tk Tryz.prog 82 = some (false, 1) := by kernel_rfl
@[simp] theorem zvA_82 : zvA Tryz.prog 82 = some [AV.d (D.v Value.nilFunc)] := by kernel_rfl
@[simp] theorem tk_83 : tk Tryz.prog 83 = some (false, 1) := by kernel_rfl
@[simp] theorem zvA_83 : zvA Tryz.prog 83 = some [AV.d (D.v Value.nilFunc)] := by kernel_rfl
@[simp] theorem tk_84 : tk Tryz.prog 84 = some (false, 1) := by kernel_rfl
@[simp] theorem zvA_84 : zvA Tryz.prog 84 = some [AV.d (D.v Value.nilFunc)] := by kernel_rfl
@[simp] theorem tk_85 : tk Tryz.prog 85 = some (false, 1) := by kernel_rfl
@[simp] theorem zvA_85 : zvA Tryz.prog 85 = some [AV.d (D.v Value.nilFunc)] := by kernel_rfl
@[simp] theorem tk_86 : tk Tryz.prog 86 = some (false, 1) := by kernel_rfl
@[simp] theorem zvA_86 : zvA Tryz.prog 86 = some [AV.d (D.v (Value.pointer none))] := by kernel_rfl
@[simp] theorem tk_89 : tk Tryz.prog 89 = some (false, 1) := by kernel_rfl
@[simp] theorem zvA_89 : zvA Tryz.prog 89 = some [AV.d (D.v Value.nilFunc)] := by kernel_rfl
@[simp] theorem tk_90 : tk Tryz.prog 90 = some (false, 1) := by kernel_rfl
@[simp] theorem zvA_90 : zvA Tryz.prog 90 = some [AV.d (D.v Value.nilFunc)] := by kernel_rfl
@[simp] theorem tk_91 : tk Tryz.prog 91 = some (false, 1) := by kernel_rfl
@[simp] theorem zvA_91 : zvA Tryz.prog 91 = some [AV.d (D.v Value.nilFunc)] := by kernel_rfl
@[simp] theorem tk_92 : tk Tryz.prog 92 = some (false, 1) := by kernel_rfl
@[simp] theorem zvA_92 : zvA Tryz.prog 92 = some [AV.d (D.v Value.nilFunc)] := by kernel_rfl
@[simp] theorem tk_93 : tk Tryz.prog 93 = some (false, 1) := by kernel_rfl
@[simp] theorem zvA_93 : zvA Tryz.prog 93 = some [AV.d (D.v Value.nilFunc)] := by kernel_rfl
@[simp] theorem tk_94 : tk Tryz.prog 94 = some (false, 1) := by kernel_rfl
@[simp] theorem zvA_94 : zvA Tryz.prog 94 = some [AV.d (D.v Value.nilFunc)] := by kernel_rfl
@[simp] theorem tk_95 : tk Tryz.prog 95 = some (false, 1) := by kernel_rfl
@[simp] theorem zvA_95 : zvA Tryz.prog 95 = some [AV.d (D.v Value.nilFunc)] := by kernel_rfl
@[simp] theorem tk_96 : tk Tryz.prog 96 = some (false, 1) := by kernel_rfl
@[simp] theorem zvA_96 : zvA Tryz.prog 96 = some [AV.d (D.v Value.nilFunc)] := by kernel_rfl
@[simp] theorem tk_97 : tk Tryz.prog 97 = some (false, 1) := by kernel_rfl
@[simp] theorem zvA_97 : zvA Tryz.prog 97 = some [AV.d (D.v Value.nilFunc)] := by kernel_rfl
@[simp] theorem tk_98 : tk Tryz.prog 98 = some (false, 1) := by kernel_rfl
@[simp] theorem zvA_98 : zvA Tryz.prog 98 = some [AV.d (D.v Value.nilFunc)] := by kernel_rfl
@[simp] theorem tk_99 : tk Tryz.prog 99 = some (false, 1) := by kernel_rfl
@[simp] theorem zvA_99 : zvA Tryz.prog 99 = some [AV.d (D.v Value.nilFunc)] := by kernel_rfl
@[simp] theorem tk_100 : tk Tryz.prog 100 = some (false, 1) := by kernel_rfl
@[simp] theorem zvA_100 : zvA Tryz.prog 100 = some [AV.d (D.v Value.nilFunc)] := by kernel_rfl
@[simp] theorem tk_104 : tk Tryz.prog 104 = some (false, 1) := by kernel_rfl
@[simp] theorem zvA_104 : zvA Tryz.prog 104 = some [AV.d (D.v Value.nilFunc)] := by kernel_rfl
@[simp] theorem tk_105 : tk Tryz.prog 105 = some (false, 1) := by kernel_rfl
@[simp] theorem zvA_105 : zvA Tryz.prog 105 = some [AV.d (D.v Value.nilFunc)] := by kernel_rfl
@[simp] theorem tk_106 : tk Tryz.prog 106 = some (false, 1) := by kernel_rfl
@[simp] theorem zvA_106 : zvA Tryz.prog 106 = some [AV.d (D.v Value.nilFunc)] := by kernel_rfl
@[simp] theorem tk_107 : tk Tryz.prog 107 = some (false, 1) := by kernel_rfl
@[simp] theorem zvA_107 : zvA Tryz.prog 107 = some [AV.d (D.v Value.nilFunc)] := by kernel_rfl
@[simp] theorem tk_108 : tk Tryz.prog 108 = some (false, 1) := by kernel_rfl
@[simp] theorem zvA_108 : zvA Tryz.prog 108 = some [AV.d (D.v Value.nilFunc)] := by kernel_rfl
@[simp] theorem tk_109 : tk Tryz.prog 109 = some (false, 1) := by kernel_rfl
@[simp] theorem zvA_109 : zvA Tryz.prog 109 = some [AV.d (D.v Value.nilFunc)] := by kernel_rfl
@[simp] theorem tk_110 : tk Tryz.prog 110 = some (false, 1) := by kernel_rfl
@[simp] theorem zvA_110 : zvA Tryz.prog 110 = some [AV.d (D.v Value.nilFunc)] := by kernel_rfl
@[simp] theorem tk_111 : tk Tryz.prog 111 = some (false, 1) := by kernel_rfl
@[simp] theorem zvA_111 : zvA Tryz.prog 111 = some [AV.d (D.v Value.nilFunc)] := by kernel_rfl
@[simp] theorem tk_112 : tk Tryz.prog 112 = some (false, 1) := by kernel_rfl
@[simp] theorem zvA_112 : zvA Tryz.prog 112 = some [AV.d (D.v Value.nilFunc)] := by kernel_rfl
@[simp] theorem tk_113 : tk Tryz.prog 113 = some (false, 1) := by kernel_rfl
@[simp] theorem zvA_113 : zvA Tryz.prog 113 = some [AV.d (D.v Value.nilFunc)] := by kernel_rfl
@[simp] theorem tk_114 : tk Tryz.prog 114 = some (false, 1) := by kernel_rfl
@[simp] theorem zvA_114 : zvA Tryz.prog 114 = some [AV.d (D.v Value.nilFunc)] := by kernel_rfl
@[simp] theorem tk_115 : tk Tryz.prog 115 = some (false, 1) := by kernel_rfl
@[simp] theorem zvA_115 : zvA Tryz.prog 115 = some [AV.d (D.v Value.nilFunc)] := by kernel_rfl
@[simp] theorem tk_116 : tk Tryz.prog 116 = some (false, 1) := by kernel_rfl
@[simp] theorem zvA_116 : zvA Tryz.prog 116 = some [AV.d (D.v Value.nilFunc)] := by kernel_rfl
@[simp] theorem tk_117 : tk Tryz.prog 117 = some (false, 1) := by kernel_rfl
@[simp] theorem zvA_117 : zvA Tryz.prog 117 = some [AV.d (D.v Value.nilFunc)] := by kernel_rfl
@[simp] theorem tk_118 : tk Tryz.prog 118 = some (false, 1) := by kernel_rfl
@[simp] theorem zvA_118 : zvA Tryz.prog 118 = some [AV.d (D.v Value.nilFunc)] := by kernel_rfl
@[simp] theorem tk_119 : tk Tryz.prog 119 = some (false, 1) := by kernel_rfl
@[simp] theorem zvA_119 : zvA Tryz.prog 119 = some [AV.d (D.v Value.nilFunc)] := by kernel_rfl
@[simp] theorem tk_120 : tk Tryz.prog 120 = some (false, 1) := by kernel_rfl
@[simp] theorem zvA_120 : zvA Tryz.prog 120 = some [AV.d (D.v Value.nilFunc)] := by kernel_rfl
@[simp] theorem tk_121 : tk Tryz.prog 121 = some (false, 1) := by kernel_rfl
@[simp] theorem zvA_121 : zvA Tryz.prog 121 = some [AV.d (D.v Value.nilFunc)] := by kernel_rfl
@[simp] theorem tk_122 : tk Tryz.prog 122 = some (false, 1) := by kernel_rfl
@[simp] theorem zvA_122 : zvA Tryz.prog 122 = some [AV.d (D.v Value.nilFunc)] := by kernel_rfl
@[simp] theorem tk_123 : tk Tryz.prog 123 = some (false, 1) := by kernel_rfl
@[simp] theorem zvA_123 : zvA Tryz.prog 123 = some [AV.d (D.v Value.nilFunc)] := by kernel_rfl
@[simp] theorem tk_124 : tk Tryz.prog 124 = some (false, 1) := by kernel_rfl
@[simp] theorem zvA_124 : zvA Tryz.prog 124 = some [AV.d (D.v Value.nilFunc)] := by kernel_rfl
@[simp] theorem tk_125 : tk Tryz.prog 125 = some (false, 1) := by kernel_rfl
@[simp] theorem zvA_125 : zvA Tryz.prog 125 = some [AV.d (D.v Value.nilFunc)] := by kernel_rfl
@[simp] theorem tk_126 : tk Tryz.prog 126 = some (false, 1) := by kernel_rfl
@[simp] theorem zvA_126 : zvA Tryz.prog 126 = some [AV.d (D.v Value.nilFunc)] := by kernel_rfl
@[simp] theorem tk_127 : tk Tryz.prog 127 = some (false, 1) := by kernel_rfl
@[simp] theorem zvA_127 : zvA Tryz.prog 127 = some [AV.d (D.v Value.nilFunc)] := by kernel_rfl
@[simp] theorem tk_128 : tk Tryz.prog 128 = some (false, 1) := by kernel_rfl
@[simp] theorem zvA_128 : zvA Tryz.prog 128 = some [AV.d (D.v Value.nilFunc)] := by kernel_rfl
@[simp] theorem tk_129 : tk Tryz.prog 129 = some (false, 1) := by kernel_rfl
@[simp] theorem zvA_129 : zvA Tryz.prog 129 = some [AV.d (D.v Value.nilFunc)] := by kernel_rfl
@[simp] theorem tk_130 : tk Tryz.prog 130 = some (false, 1) := by kernel_rfl
@[simp] theorem zvA_130 : zvA Tryz.prog 130 = some [AV.d (D.v Value.nilFunc)] := by kernel_rfl
@[simp] theorem tk_131 : tk Tryz.prog 131 = some (false, 1) := by kernel_rfl
@[simp] theorem zvA_131 : zvA Tryz.prog 131 = some [AV.d (D.v Value.nilFunc)] := by kernel_rfl
@[simp] theorem tk_132 : tk Tryz.prog 132 = some (false, 1) := by kernel_rfl
@[simp] theorem zvA_132 : zvA Tryz.prog 132 = some [AV.d (D.v Value.nilFunc)] := by kernel_rfl
@[simp] theorem tk_134 : tk Tryz.prog 134 = some (false, 1) := by kernel_rfl
@[simp] theorem zvA_134 : zvA Tryz.prog 134 = some [AV.d (D.v Value.nilFunc)] := by kernel_rfl
@[simp] theorem tk_135 : tk Tryz.prog 135 = some (false, 1) := by kernel_rfl
@[simp] theorem zvA_135 : zvA Tryz.prog 135 = some [AV.d (D.v Value.nilFunc)] := by kernel_rfl
@[simp] theorem tk_136 : tk Tryz.prog 136 = some (false, 1) := by kernel_rfl
@[simp] theorem zvA_136 : zvA Tryz.prog 136 = some [AV.d (D.v Value.nilFunc)] := by kernel_rfl
@[simp] theorem tk_137 : tk Tryz.prog 137 = some (false, 1) := by kernel_rfl
@[simp] theorem zvA_137 : zvA Tryz.prog 137 = some [AV.d (D.v Value.nilFunc)] := by kernel_rfl
@[simp] theorem tk_138 : tk Tryz.prog 138 = some (false, 1) := by kernel_rfl
@[simp] theorem zvA_138 : zvA Tryz.prog 138 = some [AV.d (D.v Value.nilFunc)] := by kernel_rfl
@[simp] theorem tk_139 : tk Tryz.prog 139 = some (false, 1) := by kernel_rfl
@[simp] theorem zvA_139 : zvA Tryz.prog 139 = some [AV.d (D.v Value.nilFunc)] := by kernel_rfl
@[simp] theorem tk_140 : tk Tryz.prog 140 = some (false, 1) := by kernel_rfl
@[simp] theorem zvA_140 : zvA Tryz.prog 140 = some [AV.d (D.v Value.nilFunc)] := by kernel_rfl
@[simp] theorem tk_141 : tk Tryz.prog 141 = some (false, 1) := by kernel_rfl
@[simp] theorem zvA_141 : zvA Tryz.prog 141 = some [AV.d (D.v Value.nilFunc)] := by kernel_rfl
@[simp] theorem tk_142 : tk Tryz.prog 142 = some (false, 1) := by kernel_rfl
@[simp] theorem zvA_142 : zvA Tryz.prog 142 = some [AV.d (D.v Value.nilFunc)] := by kernel_rfl
@[simp] theorem tk_143 : tk Tryz.prog 143 = some (false, 1) := by kernel_rfl
@[simp] theorem zvA_143 : zvA Tryz.prog 143 = some [AV.d (D.v Value.nilFunc)] := by kernel_rfl
@[simp] theorem tk_144 : tk Tryz.prog 144 = some (false, 1) := by kernel_rfl
@[simp] theorem zvA_144 : zvA Tryz.prog 144 = some [AV.d (D.v Value.nilFunc)] := by kernel_rfl
@[simp] theorem tk_145 : tk Tryz.prog 145 = some (false, 1) := by kernel_rfl
@[simp] theorem zvA_145 : zvA Tryz.prog 145 = some [AV.d (D.v Value.nilFunc)] := by kernel_rfl
@[simp] theorem tk_146 : tk Tryz.prog 146 = some (false, 1) := by kernel_rfl
@[simp] theorem zvA_146 : zvA Tryz.prog 146 = some [AV.d (D.v Value.nilFunc)] := by kernel_rfl
@[simp] theorem tk_147 : tk Tryz.prog 147 = some (false, 1) := by kernel_rfl
@[simp] theorem zvA_147 : zvA Tryz.prog 147 = some [AV.d (D.v Value.nilFunc)] := by kernel_rfl
@[simp] theorem tk_150 : tk Tryz.prog 150 = some (false, 1) := by kernel_rfl
@[simp] theorem zvA_150 : zvA Tryz.prog 150 = some [AV.d (D.v Value.nilFunc)] := by kernel_rfl
@[simp] theorem tk_151 : tk Tryz.prog 151 = some (false, 1) := by kernel_rfl
@[simp] theorem zvA_151 : zvA Tryz.prog 151 = some [AV.d (D.v Value.nilFunc)] := by kernel_rfl
@[simp] theorem tk_152 : tk Tryz.prog 152 = some (false, 1) := by kernel_rfl
@[simp] theorem zvA_152 : zvA Tryz.prog 152 = some [AV.d (D.v Value.nilFunc)] := by kernel_rfl
@[simp] theorem tk_153 : tk Tryz.prog 153 = some (false, 1) := by kernel_rfl
@[simp] theorem zvA_153 : zvA Tryz.prog 153 = some [AV.d (D.v Value.nilFunc)] := by kernel_rfl
@[simp] theorem tk_154 : tk Tryz.prog 154 = some (false, 1) := by kernel_rfl
@[simp] theorem zvA_154 : zvA Tryz.prog 154 = some [AV.d (D.v Value.nilFunc)] := by kernel_rfl
@[simp] theorem tk_156 : tk Tryz.prog 156 = some (false, 1) := by kernel_rfl
@[simp] theorem zvA_156 : zvA Tryz.prog 156 = some [AV.d (D.v Value.nilFunc)] := by kernel_rfl
@[simp] theorem tk_157 : tk Tryz.prog 157 = some (false, 1) := by kernel_rfl
@[simp] theorem zvA_157 : zvA Tryz.prog 157 = some [AV.d (D.v Value.nilFunc)] := by kernel_rfl
@[simp] theorem tk_158 : tk Tryz.prog 158 = some (false, 1) := by kernel_rfl
@[simp] theorem zvA_158 : zvA Tryz.prog 158 = some [AV.d (D.v Value.nilFunc)] := by kernel_rfl
@[simp] theorem tk_159 : tk Tryz.prog 159 = some (false, 1) := by kernel_rfl
@[simp] theorem zvA_159 : zvA Tryz.prog 159 = some [AV.d (D.v Value.nilFunc)] := by kernel_rfl
@[simp] theorem tk_161 : tk Tryz.prog 161 = some (false, 1) := by kernel_rfl
@[simp] theorem zvA_161 : zvA Tryz.prog 161 = some [AV.d (D.v Value.nilFunc)] := by kernel_rfl
@[simp] theorem tk_162 : tk Tryz.prog 162 = some (false, 1) := by kernel_rfl
@[simp] theorem zvA_162 : zvA Tryz.prog 162 = some [AV.d (D.v Value.nilFunc)] := by kernel_rfl
@[simp] theorem tk_163 : tk Tryz.prog 163 = some (false, 1) := by kernel_rfl
@[simp] theorem zvA_163 : zvA Tryz.prog 163 = some [AV.d (D.v Value.nilFunc)] := by kernel_rfl
@[simp] theorem tk_164 : tk Tryz.prog 164 = some (false, 1) := by kernel_rfl
@[simp] theorem zvA_164 : zvA Tryz.prog 164 = some [AV.d (D.v Value.nilFunc)] := by kernel_rfl
@[simp] theorem tk_165 : tk Tryz.prog 165 = some (false, 1) := by kernel_rfl
@[simp] theorem zvA_165 : zvA Tryz.prog 165 = some [AV.d (D.v Value.nilFunc)] := by kernel_rfl
@[simp] theorem tk_166 : tk Tryz.prog 166 = some (false, 1) := by kernel_rfl
@[simp] theorem zvA_166 : zvA Tryz.prog 166 = some [AV.d (D.v Value.nilFunc)] := by kernel_rfl
@[simp] theorem tk_167 : tk Tryz.prog 167 = some (false, 1) := by kernel_rfl
@[simp] theorem zvA_167 : zvA Tryz.prog 167 = some [AV.d (D.v Value.nilFunc)] := by kernel_rfl
@[simp] theorem tk_169 : tk Tryz.prog 169 = some (false, 1) := by kernel_rfl
@[simp] theorem zvA_169 : zvA Tryz.prog 169 = some [AV.d (D.v Value.nilFunc)] := by kernel_rfl
@[simp] theorem tk_170 : tk Tryz.prog 170 = some (false, 1) := by kernel_rfl
@[simp] theorem zvA_170 : zvA Tryz.prog 170 = some [AV.d (D.v Value.nilFunc)] := by kernel_rfl
@[simp] theorem tk_171 : tk Tryz.prog 171 = some (false, 1) := by kernel_rfl
@[simp] theorem zvA_171 : zvA Tryz.prog 171 = some [AV.d (D.v Value.nilFunc)] := by kernel_rfl
@[simp] theorem tk_172 : tk Tryz.prog 172 = some (false, 1) := by kernel_rfl
@[simp] theorem zvA_172 : zvA Tryz.prog 172 = some [AV.d (D.v Value.nilFunc)] := by kernel_rfl
@[simp] theorem tk_173 : tk Tryz.prog 173 = some (false, 1) := by kernel_rfl
@[simp] theorem zvA_173 : zvA Tryz.prog 173 = some [AV.d (D.v Value.nilFunc)] := by kernel_rfl
@[simp] theorem tk_174 : tk Tryz.prog 174 = some (false, 1) := by kernel_rfl
@[simp] theorem zvA_174 : zvA Tryz.prog 174 = some [AV.d (D.v Value.nilFunc)] := by kernel_rfl
@[simp] theorem tk_175 : tk Tryz.prog 175 = some (false, 1) := by kernel_rfl
@[simp] theorem zvA_175 : zvA Tryz.prog 175 = some [AV.d (D.v Value.nilFunc)] := by kernel_rfl
@[simp] theorem tk_176 : tk Tryz.prog 176 = some (false, 1) := by kernel_rfl
@[simp] theorem zvA_176 : zvA Tryz.prog 176 = some [AV.d (D.v Value.nilFunc)] := by kernel_rfl
@[simp] theorem tk_177 : tk Tryz.prog 177 = some (false, 1) := by kernel_rfl
@[simp] theorem zvA_177 : zvA Tryz.prog 177 = some [AV.d (D.v Value.nilFunc)] := by kernel_rfl
@[simp] theorem tk_179 : tk Tryz.prog 179 = some (false, 1) := by kernel_rfl
@[simp] theorem zvA_179 : zvA Tryz.prog 179 = some [AV.d (D.v Value.nilFunc)] := by kernel_rfl
@[simp] theorem tk_180 : tk Tryz.prog 180 = some (false, 1) := by kernel_rfl
@[simp] theorem zvA_180 : zvA Tryz.prog 180 = some [AV.d (D.v (Value.pointer none))] := by kernel_rfl
@[simp] theorem tk_181 : tk Tryz.prog 181 = some (false, 1) := by kernel_rfl
@[simp] theorem zvA_181 : zvA Tryz.prog 181 = some [AV.d (D.v Value.nilFunc)] := by kernel_rfl
@[simp] theorem tk_186 : tk Tryz.prog 186 = some (false, 1) := by kernel_rfl
@[simp] theorem zvA_186 : zvA Tryz.prog 186 = some [AV.d (D.v Value.nilFunc)] := by kernel_rfl
@[simp] theorem tk_187 : tk Tryz.prog 187 = some (false, 1) := by kernel_rfl
@[simp] theorem zvA_187 : zvA Tryz.prog 187 = some [AV.d (D.v Value.nilFunc)] := by kernel_rfl
@[simp] theorem tk_188 : tk Tryz.prog 188 = some (false, 1) := by kernel_rfl
@[simp] theorem zvA_188 : zvA Tryz.prog 188 = some [AV.d (D.v Value.nilFunc)] := by kernel_rfl
@[simp] theorem tk_191 : tk Tryz.prog 191 = some (false, 1) := by kernel_rfl
@[simp] theorem zvA_191 : zvA Tryz.prog 191 = some [AV.d (D.v Value.nilFunc)] := by kernel_rfl
@[simp] theorem tk_192 : tk Tryz.prog 192 = some (false, 1) := by kernel_rfl
@[simp] theorem zvA_192 : zvA Tryz.prog 192 = some [AV.d (D.v Value.nilFunc)] := by kernel_rfl
@[simp] theorem tk_193 : tk Tryz.prog 193 = some (false, 1) := by kernel_rfl
@[simp] theorem zvA_193 : zvA Tryz.prog 193 = some [AV.d (D.v Value.nilFunc)] := by kernel_rfl
@[simp] theorem tk_194 : tk Tryz.prog 194 = some (false, 1) := by kernel_rfl
@[simp] theorem zvA_194 : zvA Tryz.prog 194 = some [AV.d (D.v Value.nilFunc)] := by kernel_rfl
@[simp] theorem tk_196 : tk Tryz.prog 196 = some (false, 1) := by kernel_rfl
@[simp] theorem zvA_196 : zvA Tryz.prog 196 = some [AV.d (D.v Value.nilFunc)] := by kernel_rfl
@[simp] theorem tk_197 : tk Tryz.prog 197 = some (false, 1) := by kernel_rfl
@[simp] theorem zvA_197 : zvA Tryz.prog 197 = some [AV.d (D.v Value.nilFunc)] := by kernel_rfl
@[simp] theorem tk_198 : tk Tryz.prog 198 = some (false, 1) := by kernel_rfl
@[simp] theorem zvA_198 : zvA Tryz.prog 198 = some [AV.d (D.v Value.nilFunc)] := by kernel_rfl
@[simp] theorem tk_201 : tk Tryz.prog 201 = some (false, 1) := by kernel_rfl
@[simp] theorem zvA_201 : zvA Tryz.prog 201 = some [AV.d (D.v Value.nilFunc)] := by kernel_rfl
@[simp] theorem tk_203 : tk Tryz.prog 203 = some (false, 1) := by kernel_rfl
@[simp] theorem zvA_203 : zvA Tryz.prog 203 = some [AV.d (D.v Value.nilFunc)] := by kernel_rfl
@[simp] theorem tk_204 : tk Tryz.prog 204 = some (false, 1) := by kernel_rfl
@[simp] theorem zvA_204 : zvA Tryz.prog 204 = some [AV.d (D.v Value.nilFunc)] := by kernel_rfl
@[simp] theorem tk_207 : tk Tryz.prog 207 = some (false, 1) := by kernel_rfl
@[simp] theorem zvA_207 : zvA Tryz.prog 207 = some [AV.d (D.v Value.nilFunc)] := by kernel_rfl
@[simp] theorem tk_211 : tk Tryz.prog 211 = some (false, 1) := by kernel_rfl
@[simp] theorem zvA_211 : zvA Tryz.prog 211 = some [AV.d (D.v Value.nilFunc)] := by kernel_rfl
@[simp] theorem tk_212 : tk Tryz.prog 212 = some (false, 1) := by kernel_rfl
@[simp] theorem zvA_212 : zvA Tryz.prog 212 = some [AV.d (D.v (Value.pointer none))] := by kernel_rfl
@[simp] theorem tk_213 : tk Tryz.prog 213 = some (false, 1) := by kernel_rfl
@[simp] theorem zvA_213 : zvA Tryz.prog 213 = some [AV.d (D.v Value.nilFunc)] := by kernel_rfl
@[simp] theorem tk_214 : tk Tryz.prog 214 = some (false, 1) := by kernel_rfl
@[simp] theorem zvA_214 : zvA Tryz.prog 214 = some [AV.d (D.v Value.nilFunc)] := by kernel_rfl
@[simp] theorem tk_215 : tk Tryz.prog 215 = some (false, 1) := by kernel_rfl
@[simp] theorem zvA_215 : zvA Tryz.prog 215 = some [AV.d (D.v Value.nilFunc)] := by kernel_rfl
@[simp] theorem tk_216 : tk Tryz.prog 216 = some (false, 1) := by kernel_rfl
@[simp] theorem zvA_216 : zvA Tryz.prog 216 = some [AV.d (D.v Value.nilFunc)] := by kernel_rfl
@[simp] theorem tk_217 : tk Tryz.prog 217 = some (false, 1) := by kernel_rfl
@[simp] theorem zvA_217 : zvA Tryz.prog 217 = some [AV.d (D.v Value.nilFunc)] := by kernel_rfl
@[simp] theorem tk_218 : tk Tryz.prog 218 = some (false, 1) := by kernel_rfl
@[simp] theorem zvA_218 : zvA Tryz.prog 218 = some [AV.d (D.v Value.nilFunc)] := by kernel_rfl
@[simp] theorem tk_219 : tk Tryz.prog 219 = some (false, 1) := by kernel_rfl
@[simp] theorem zvA_219 : zvA Tryz.prog 219 = some [AV.d (D.v Value.nilFunc)] := by kernel_rfl
@[simp] theorem tk_221 : tk Tryz.prog 221 = some (false, 1) := by kernel_rfl
@[simp] theorem zvA_221 : zvA Tryz.prog 221 = some [AV.d (D.v Value.nilFunc)] := by kernel_rfl
@[simp] theorem tk_222 : tk Tryz.prog 222 = some (false, 1) := by kernel_rfl
@[simp] theorem zvA_222 : zvA Tryz.prog 222 = some [AV.d (D.v Value.nilFunc)] := by kernel_rfl
@[simp] theorem tk_223 : tk Tryz.prog 223 = some (false, 1) := by kernel_rfl
@[simp] theorem zvA_223 : zvA Tryz.prog 223 = some [AV.d (D.v Value.nilFunc)] := by kernel_rfl
@[simp] theorem tk_224 : tk Tryz.prog 224 = some (false, 1) := by kernel_rfl
@[simp] theorem zvA_224 : zvA Tryz.prog 224 = some [AV.d (D.v Value.nilFunc)] := by kernel_rfl
@[simp] theorem tk_225 : tk Tryz.prog 225 = some (false, 1) := by kernel_rfl
@[simp] theorem zvA_225 : zvA Tryz.prog 225 = some [AV.d (D.v Value.nilFunc)] := by kernel_rfl
@[simp] theorem tk_227 : tk Tryz.prog 227 = some (false, 1) := by kernel_rfl
@[simp] theorem zvA_227 : zvA Tryz.prog 227 = some [AV.d (D.v Value.nilFunc)] := by kernel_rfl
@[simp] theorem tk_228 : tk Tryz.prog 228 = some (false, 1) := by kernel_rfl
@[simp] theorem zvA_228 : zvA Tryz.prog 228 = some [AV.d (D.v Value.nilFunc)] := by kernel_rfl
@[simp] theorem tk_229 : tk Tryz.prog 229 = some (false, 1) := by kernel_rfl
@[simp] theorem zvA_229 : zvA Tryz.prog 229 = some [AV.d (D.v Value.nilFunc)] := by kernel_rfl
@[simp] theorem tk_230 : tk Tryz.prog 230 = some (false, 1) := by kernel_rfl
@[simp] theorem zvA_230 : zvA Tryz.prog 230 = some [AV.d (D.v (Value.pointer none))] := by kernel_rfl
@[simp] theorem tk_231 : tk Tryz.prog 231 = some (false, 1) := by kernel_rfl
@[simp] theorem zvA_231 : zvA Tryz.prog 231 = some [AV.d (D.v Value.nilFunc)] := by kernel_rfl
@[simp] theorem tk_232 : tk Tryz.prog 232 = some (false, 1) := by kernel_rfl
@[simp] theorem zvA_232 : zvA Tryz.prog 232 = some [AV.d (D.v Value.nilFunc)] := by kernel_rfl
@[simp] theorem tk_235 : tk Tryz.prog 235 = some (false, 1) := by kernel_rfl
@[simp] theorem zvA_235 : zvA Tryz.prog 235 = some [AV.d (D.v Value.nilFunc)] := by kernel_rfl
@[simp] theorem tk_237 : tk Tryz.prog 237 = some (false, 1) := by kernel_rfl
@[simp] theorem zvA_237 : zvA Tryz.prog 237 = some [AV.d (D.v Value.nilFunc)] := by kernel_rfl
@[simp] theorem tk_238 : tk Tryz.prog 238 = some (false, 1) := by kernel_rfl
@[simp] theorem zvA_238 : zvA Tryz.prog 238 = some [AV.d (D.v Value.nilFunc)] := by kernel_rfl
@[simp] theorem tk_246 : tk Tryz.prog 246 = some (false, 1) := by kernel_rfl
@[simp] theorem zvA_246 : zvA Tryz.prog 246 = some [AV.d (D.v Value.nilFunc)] := by kernel_rfl
@[simp] theorem tk_249 : tk Tryz.prog 249 = some (false, 1) := by kernel_rfl
@[simp] theorem zvA_249 : zvA Tryz.prog 249 = some [AV.d (D.v Value.nilFunc)] := by kernel_rfl
@[simp] theorem tk_250 : tk Tryz.prog 250 = some (false, 1) := by kernel_rfl
@[simp] theorem zvA_250 : zvA Tryz.prog 250 = some [AV.d (D.v Value.nilFunc)] := by kernel_rfl
@[simp] theorem tk_251 : tk Tryz.prog 251 = some (false, 1) := by kernel_rfl
@[simp] theorem zvA_251 : zvA Tryz.prog 251 = some [AV.d (D.v Value.nilFunc)] := by kernel_rfl
@[simp] theorem tk_252 : tk Tryz.prog 252 = some (false, 1) := by kernel_rfl
@[simp] theorem zvA_252 : zvA Tryz.prog 252 = some [AV.d (D.v Value.nilFunc)] := by kernel_rfl
@[simp] theorem tk_253 : tk Tryz.prog 253 = some (false, 1) := by kernel_rfl
@[simp] theorem zvA_253 : zvA Tryz.prog 253 = some [AV.d (D.v Value.nilFunc)] := by kernel_rfl
@[simp] theorem tk_254 : tk Tryz.prog 254 = some (false, 1) := by kernel_rfl
@[simp] theorem zvA_254 : zvA Tryz.prog 254 = some [AV.d (D.v Value.nilFunc)] := by kernel_rfl
@[simp] theorem tk_255 : tk Tryz.prog 255 = some (false, 1) := by kernel_rfl
@[simp] theorem zvA_255 : zvA Tryz.prog 255 = some [AV.d (D.v (Value.pointer none))] := by kernel_rfl
@[simp] theorem tk_257 : tk Tryz.prog 257 = some (false, 1) := by kernel_rfl
@[simp] theorem zvA_257 : zvA Tryz.prog 257 = some [AV.d (D.v Value.nilFunc)] := by kernel_rfl
@[simp] theorem tk_258 : tk Tryz.prog 258 = some (false, 1) := by kernel_rfl
@[simp] theorem zvA_258 : zvA Tryz.prog 258 = some [AV.d (D.v (Value.pointer none))] := by kernel_rfl
@[simp] theorem tk_259 : tk Tryz.prog 259 = some (false, 1) := by kernel_rfl
@[simp] theorem zvA_259 : zvA Tryz.prog 259 = some [AV.d (D.v (Value.pointer none))] := by kernel_rfl
@[simp] theorem tk_260 : tk Tryz.prog 260 = some (false, 1) := by kernel_rfl
@[simp] theorem zvA_260 : zvA Tryz.prog 260 = some [AV.d (D.v Value.nilFunc)] := by kernel_rfl
@[simp] theorem tk_262 : tk Tryz.prog 262 = some (false, 1) := by kernel_rfl
@[simp] theorem zvA_262 : zvA Tryz.prog 262 = some [AV.d (D.v Value.nilFunc)] := by kernel_rfl
@[simp] theorem tk_265 : tk Tryz.prog 265 = some (false, 1) := by kernel_rfl
@[simp] theorem zvA_265 : zvA Tryz.prog 265 = some [AV.d (D.v Value.nilFunc)] := by kernel_rfl
@[simp] theorem tk_267 : tk Tryz.prog 267 = some (false, 1) := by kernel_rfl
@[simp] theorem zvA_267 : zvA Tryz.prog 267 = some [AV.d (D.v Value.nilFunc)] := by kernel_rfl
@[simp] theorem tk_268 : tk Tryz.prog 268 = some (false, 1) := by kernel_rfl
@[simp] theorem zvA_268 : zvA Tryz.prog 268 = some [AV.d (D.v Value.nilFunc)] := by kernel_rfl
@[simp] theorem tk_274 : tk Tryz.prog 274 = some (false, 1) := by kernel_rfl
@[simp] theorem zvA_274 : zvA Tryz.prog 274 = some [AV.d (D.v Value.nilFunc)] := by kernel_rfl
@[simp] theorem tk_277 : tk Tryz.prog 277 = some (false, 1) := by kernel_rfl
@[simp] theorem zvA_277 : zvA Tryz.prog 277 = some [AV.d (D.v Value.nilFunc)] := by kernel_rfl
@[simp] theorem tk_278 : tk Tryz.prog 278 = some (false, 1) := by kernel_rfl
@[simp] theorem zvA_278 : zvA Tryz.prog 278 = some [AV.d (D.v (Value.pointer none))] := by kernel_rfl
@[simp] theorem okF_3 : okF Tryz.prog 3 = true := by kernel_rfl
@[simp] theorem okF_4 : okF Tryz.prog 4 = true := by kernel_rfl
@[simp] theorem okF_5 : okF Tryz.prog 5 = true := by kernel_rfl
@[simp] theorem okF_6 : okF Tryz.prog 6 = true := by kernel_rfl
@[simp] theorem okF_7 : okF Tryz.prog 7 = true := by kernel_rfl
@[simp] theorem okF_8 : okF Tryz.prog 8 = true := by kernel_rfl
@[simp] theorem okF_9 : okF Tryz.prog 9 = true := by kernel_rfl
@[simp] theorem okF_10 : okF Tryz.prog 10 = true := by kernel_rfl
@[simp] theorem okF_11 : okF Tryz.prog 11 = true := by kernel_rfl
@[simp] theorem okF_12 : okF Tryz.prog 12 = true := by kernel_rfl
@[simp] theorem okF_13 : okF Tryz.prog 13 = true := by kernel_rfl
@[simp] theorem okF_14 : okF Tryz.prog 14 = true := by kernel_rfl
@[simp] theorem okF_15 : okF Tryz.prog 15 = true := by kernel_rfl
@[simp] theorem okF_16 : okF Tryz.prog 16 = true := by kernel_rfl
@[simp] theorem okF_17 : okF Tryz.prog 17 = true := by kernel_rfl
@[simp] theorem okF_18 : okF Tryz.prog 18 = true := by kernel_rfl
@[simp] theorem okF_19 : okF Tryz.prog 19 = true := by kernel_rfl
@[simp] theorem okF_20 : okF Tryz.prog 20 = true := by kernel_rfl
@[simp] theorem okF_21 : okF Tryz.prog 21 = true := by kernel_rfl
@[simp] theorem okF_22 : okF Tryz.prog 22 = true := by kernel_rfl
@[simp] theorem okF_23 : okF Tryz.prog 23 = true := by kernel_rfl
@[simp] theorem okF_24 : okF Tryz.prog 24 = true := by kernel_rfl
@[simp] theorem okF_25 : okF Tryz.prog 25 = true := by kernel_rfl
@[simp] theorem okF_26 : okF Tryz.prog 26 = true := by kernel_rfl
@[simp] theorem okF_27 : okF Tryz.prog 27 = true := by kernel_rfl
@[simp] theorem okF_28 : okF Tryz.prog 28 = true := by kernel_rfl
@[simp] theorem okF_29 : okF Tryz.prog 29 = true := by kernel_rfl
@[simp] theorem okF_30 : okF Tryz.prog 30 = true := by kernel_rfl
@[simp] theorem okF_31 : okF Tryz.prog 31 = true := by kernel_rfl
@[simp] theorem okF_32 : okF Tryz.prog 32 = true := by kernel_rfl
@[simp] theorem okF_33 : okF Tryz.prog 33 = true := by kernel_rfl
@[simp] theorem okF_34 : okF Tryz.prog 34 = true := by kernel_rfl
@[simp] theorem okF_35 : okF Tryz.prog 35 = true := by kernel_rfl
@[simp] theorem okF_36 : okF Tryz.prog 36 = true := by kernel_rfl
@[simp] theorem okF_37 : okF Tryz.prog 37 = true := by kernel_rfl
@[simp] theorem okF_38 : okF Tryz.prog 38 = true := by kernel_rfl
@[simp] theorem okF_39 : okF Tryz.prog 39 = true := by kernel_rfl
@[simp] theorem okF_40 : okF Tryz.prog 40 = true := by kernel_rfl
@[simp] theorem okF_41 : okF Tryz.prog 41 = true := by kernel_rfl
@[simp] theorem okF_42 : okF Tryz.prog 42 = true := by kernel_rfl
@[simp] theorem okF_43 : okF Tryz.prog 43 = true := by kernel_rfl
@[simp] theorem okF_44 : okF Tryz.prog 44 = true := by kernel_rfl
@[simp] theorem okF_45 : okF Tryz.prog 45 = true := by kernel_rfl
@[simp] theorem okF_46 : okF Tryz.prog 46 = true := by kernel_rfl
@[simp] theorem okF_47 : okF Tryz.prog 47 = true := by kernel_rfl
@[simp] theorem okF_48 : okF Tryz.prog 48 = true := by kernel_rfl
@[simp] theorem okF_49 : okF Tryz.prog 49 = true := by kernel_rfl
@[simp] theorem okF_50 : okF Tryz.prog 50 = true := by kernel_rfl
@[simp] theorem okF_51 : okF Tryz.prog 51 = true := by kernel_rfl
@[simp] theorem okF_52 : okF Tryz.prog 52 = true := by kernel_rfl
@[simp] theorem okF_53 : okF Tryz.prog 53 = true := by kernel_rfl
@[simp] theorem okF_54 : okF Tryz.prog 54 = true := by kernel_rfl
@[simp] theorem okF_55 : okF Tryz.prog 55 = true := by kernel_rfl
@[simp] theorem okF_56 : okF Tryz.prog 56 = true := by kernel_rfl
@[simp] theorem okF_57 : okF Tryz.prog 57 = true := by kernel_rfl
@[simp] theorem okF_58 : okF Tryz.prog 58 = true := by kernel_rfl
@[simp] theorem okF_59 : okF Tryz.prog 59 = true := by kernel_rfl
@[simp] theorem okF_60 : okF Tryz.prog 60 = true := by kernel_rfl
@[simp] theorem okF_61 : okF Tryz.prog 61 = true := by kernel_rfl
@[simp] theorem okF_62 : okF Tryz.prog 62 = true := by kernel_rfl
@[simp] theorem okF_63 : okF Tryz.prog 63 = true := by kernel_rfl
@[simp] theorem okF_64 : okF Tryz.prog 64 = true := by kernel_rfl
@[simp] theorem okF_65 : okF Tryz.prog 65 = true := by kernel_rfl
@[simp] theorem okF_66 : okF Tryz.prog 66 = true := by kernel_rfl
@[simp] theorem okF_67 : okF Tryz.prog 67 = true := by kernel_rfl
@[simp] theorem okF_68 : okF Tryz.prog 68 = true := by kernel_rfl
@[simp] theorem okF_69 : okF Tryz.prog 69 = true := by kernel_rfl
@[simp] theorem okF_70 : okF Tryz.prog 70 = true := by kernel_rfl
@[simp] theorem okF_71 : okF Tryz.prog 71 = true := by kernel_rfl
@[simp] theorem okF_72 : okF Tryz.prog 72 = true := by kernel_rfl
@[simp] theorem okF_73 : okF Tryz.prog 73 = true := by kernel_rfl
@[simp] theorem okF_74 : okF Tryz.prog 74 = true := by kernel_rfl
@[simp] theorem okF_75 : okF Tryz.prog 75 = true := by kernel_rfl
@[simp] theorem okF_76 : okF Tryz.prog 76 = true := by kernel_rfl
@[simp] theorem okF_77 : okF Tryz.prog 77 = true := by kernel_rfl
@[simp] theorem okF_78 : okF Tryz.prog 78 = true := by kernel_rfl
@[simp] theorem okF_79 : okF Tryz.prog 79 = true := by kernel_rfl
@[simp] theorem okF_80 : okF Tryz.prog 80 = true := by kernel_rfl
@[simp] theorem okF_81 : okF Tryz.prog 81 = true := by kernel_rfl
@[simp] theorem okF_82 : okF Tryz.prog 82 = true := by kernel_rfl
@[simp] theorem okF_83 : okF Tryz.prog 83 = true := by kernel_rfl
@[simp] theorem okF_84 : okF Tryz.prog 84 = true := by kernel_rfl
@[simp] theorem okF_85 : okF Tryz.prog 85 = true := by kernel_rfl
@[simp] theorem okF_86 : okF Tryz.prog 86 = true := by kernel_rfl
@[simp] theorem okF_87 : okF Tryz.prog 87 = true := by kernel_rfl
@[simp] theorem okF_88 : okF Tryz.prog 88 = true := by kernel_rfl
@[simp] theorem okF_89 : okF Tryz.prog 89 = true := by kernel_rfl
@[simp] theorem okF_90 : okF Tryz.prog 90 = true := by kernel_rfl
@[simp] theorem okF_91 : okF Tryz.prog 91 = true := by kernel_rfl
@[simp] theorem okF_92 : okF Tryz.prog 92 = true := by kernel_rfl
@[simp] theorem okF_93 : okF Tryz.prog 93 = true := by kernel_rfl
@[simp] theorem okF_94 : okF Tryz.prog 94 = true := by kernel_rfl
@[simp] theorem okF_95 : okF Tryz.prog 95 = true := by kernel_rfl
@[simp] theorem okF_96 : okF Tryz.prog 96 = true := by kernel_rfl
@[simp] theorem okF_97 : okF Tryz.prog 97 = true := by kernel_rfl
@[simp] theorem okF_98 : okF Tryz.prog 98 = true := by kernel_rfl
@[simp] theorem okF_99 : okF Tryz.prog 99 = true := by kernel_rfl
@[simp] theorem okF_100 : okF Tryz.prog 100 = true := by kernel_rfl
@[simp] theorem okF_101 : okF Tryz.prog 101 = true := by kernel_rfl
@[simp] theorem okF_102 : okF Tryz.prog 102 = true := by kernel_rfl
@[simp] theorem okF_103 : okF Tryz.prog 103 = true := by kernel_rfl
@[simp] theorem okF_104 : okF Tryz.prog 104 = true := by kernel_rfl
@[simp] theorem okF_105 : okF Tryz.prog 105 = true := by kernel_rfl
@[simp] theorem okF_106 : okF Tryz.prog 106 = true := by kernel_rfl
@[simp] theorem okF_107 : okF Tryz.prog 107 = true := by kernel_rfl
@[simp] theorem okF_108 : okF Tryz.prog 108 = true := by kernel_rfl
@[simp] theorem okF_109 : okF Tryz.prog 109 = true := by kernel_rfl
@[simp] theorem okF_110 : okF Tryz.prog 110 = true := by kernel_rfl
@[simp] theorem okF_111 : okF Tryz.prog 111 = true := by kernel_rfl
@[simp] theorem okF_112 : okF Tryz.prog 112 = true := by kernel_rfl
@[simp] theorem okF_113 : okF Tryz.prog 113 = true := by kernel_rfl
@[simp] theorem okF_114 : okF Tryz.prog 114 = true := by kernel_rfl
@[simp] theorem okF_115 : okF Tryz.prog 115 = true := by kernel_rfl
@[simp] theorem okF_116 : okF Tryz.prog 116 = true := by kernel_rfl
@[simp] theorem okF_117 : okF Tryz.prog 117 = true := by kernel_rfl
@[simp] theorem okF_118 : okF Tryz.prog 118 = true := by kernel_rfl
@[simp] theorem okF_119 : okF Tryz.prog 119 = true := by kernel_rfl
@[simp] theorem okF_120 : okF Tryz.prog 120 = true := by kernel_rfl
@[simp] theorem okF_121 : okF Tryz.prog 121 = true := by kernel_rfl
@[simp] theorem okF_122 : okF Tryz.prog 122 = true := by kernel_rfl
@[simp] theorem okF_123 : okF Tryz.prog 123 = true := by kernel_rfl
@[simp] theorem okF_124 : okF Tryz.prog 124 = true := by kernel_rfl
@[simp] theorem okF_125 : okF Tryz.prog 125 = true := by kernel_rfl
@[simp] theorem okF_126 : okF Tryz.prog 126 = true := by kernel_rfl
@[simp] theorem okF_127 : okF Tryz.prog 127 = true := by kernel_rfl
@[simp] theorem okF_128 : okF Tryz.prog 128 = true := by kernel_rfl
@[simp] theorem okF_129 : okF Tryz.prog 129 = true := by kernel_rfl
@[simp] theorem okF_130 : okF Tryz.prog 130 = true := by kernel_rfl
@[simp] theorem okF_131 : okF Tryz.prog 131 = true := by kernel_rfl
@[simp] theorem okF_132 : okF Tryz.prog 132 = true := by kernel_rfl
@[simp] theorem okF_133 : okF Tryz.prog 133 = true := by kernel_rfl
@[simp] theorem okF_134 : okF Tryz.prog 134 = true := by kernel_rfl
@[simp] theorem okF_135 : okF Tryz.prog 135 = true := by kernel_rfl
@[simp] theorem okF_136 : okF Tryz.prog 136 = true := by kernel_rfl
@[simp] theorem okF_137 : okF Tryz.prog 137 = true := by kernel_rfl
@[simp] theorem okF_138 : okF Tryz.prog 138 = true := by kernel_rfl
@[simp] theorem okF_139 : okF Tryz.prog 139 = true := by kernel_rfl
@[simp] theorem okF_140 : okF Tryz.prog 140 = true := by kernel_rfl
@[simp] theorem okF_141 : okF Tryz.prog 141 = true := by kernel_rfl
@[simp] theorem okF_142 : okF Tryz.prog 142 = true := by kernel_rfl
@[simp] theorem okF_143 : okF Tryz.prog 143 = true := by kernel_rfl
@[simp] theorem okF_144 : okF Tryz.prog 144 = true := by kernel_rfl
@[simp] theorem okF_145 : okF Tryz.prog 145 = true := by kernel_rfl
@[simp] theorem okF_146 : okF Tryz.prog 146 = true := by kernel_rfl
@[simp] theorem okF_147 : okF Tryz.prog 147 = true := by kernel_rfl
@[simp] theorem okF_148 : okF Tryz.prog 148 = true := by kernel_rfl
@[simp] theorem okF_149 : okF Tryz.prog 149 = true := by kernel_rfl
@[simp] theorem okF_150 : okF Tryz.prog 150 = true := by kernel_rfl
@[simp] theorem okF_151 : okF Tryz.prog 151 = true := by kernel_rfl
@[simp] theorem okF_152 : okF Tryz.prog 152 = true := by kernel_rfl
@[simp] theorem okF_153 : okF Tryz.prog 153 = true := by kernel_rfl
@[simp] theorem okF_154 : okF Tryz.prog 154 = true := by kernel_rfl
@[simp] theorem okF_155 : okF Tryz.prog 155 = true := by kernel_rfl
@[simp] theorem okF_156 : okF Tryz.prog 156 = true := by kernel_rfl
@[simp] theorem okF_157 : okF Tryz.prog 157 = true := by kernel_rfl
@[simp] theorem okF_158 : okF Tryz.prog 158 = true := by kernel_rfl
@[simp] theorem okF_159 : okF Tryz.prog 159 = true := by kernel_rfl
@[simp] theorem okF_160 : okF Tryz.prog 160 = true := by kernel_rfl
@[simp] theorem okF_161 : okF Tryz.prog 161 = true := by kernel_rfl
@[simp] theorem okF_162 : okF Tryz.prog 162 = true := by kernel_rfl
@[simp] theorem okF_163 : okF Tryz.prog 163 = true := by kernel_rfl
@[simp] theorem okF_164 : okF Tryz.prog 164 = true := by kernel_rfl
@[simp] theorem okF_165 : okF Tryz.prog 165 = true := by kernel_rfl
@[simp] theorem okF_166 : okF Tryz.prog 166 = true := by kernel_rfl
@[simp] theorem okF_167 : okF Tryz.prog 167 = true := by kernel_rfl
@[simp] theorem okF_168 : okF Tryz.prog 168 = true := by kernel_rfl
@[simp] theorem okF_169 : okF Tryz.prog 169 = true := by kernel_rfl
@[simp] theorem okF_170 : okF Tryz.prog 170 = true := by kernel_rfl
@[simp] theorem okF_171 : okF Tryz.prog 171 = true := by kernel_rfl
@[simp] theorem okF_172 : okF Tryz.prog 172 = true := by kernel_rfl
@[simp] theorem okF_173 : okF Tryz.prog 173 = true := by kernel_rfl
@[simp] theorem okF_174 : okF Tryz.prog 174 = true := by kernel_rfl
@[simp] theorem okF_175 : okF Tryz.prog 175 = true := by kernel_rfl
@[simp] theorem okF_176 : okF Tryz.prog 176 = true := by kernel_rfl
@[simp] theorem okF_177 : okF Tryz.prog 177 = true := by kernel_rfl
@[simp] theorem okF_178 : okF Tryz.prog 178 = true := by kernel_rfl
@[simp] theorem okF_179 : okF Tryz.prog 179 = true := by kernel_rfl
@[simp] theorem okF_180 : okF Tryz.prog 180 = true := by kernel_rfl
@[simp] theorem okF_181 : okF Tryz.prog 181 = true := by kernel_rfl
@[simp] theorem okF_182 : okF Tryz.prog 182 = true := by kernel_rfl
@[simp] theorem okF_183 : okF Tryz.prog 183 = true := by kernel_rfl
@[simp] theorem okF_184 : okF Tryz.prog 184 = true := by kernel_rfl
@[simp] theorem okF_185 : okF Tryz.prog 185 = true := by kernel_rfl
@[simp] theorem okF_186 : okF Tryz.prog 186 = true := by kernel_rfl
@[simp] theorem okF_187 : okF Tryz.prog 187 = true := by kernel_rfl
@[simp] theorem okF_188 : okF Tryz.prog 188 = true := by kernel_rfl
@[simp] theorem okF_189 : okF Tryz.prog 189 = true := by kernel_rfl
@[simp] theorem okF_190 : okF Tryz.prog 190 = true := by kernel_rfl
@[simp] theorem okF_191 : okF Tryz.prog 191 = true := by kernel_rfl
@[simp] theorem okF_192 : okF Tryz.prog 192 = true := by kernel_rfl
@[simp] theorem okF_193 : okF Tryz.prog 193 = true := by kernel_rfl
@[simp] theorem okF_194 : okF Tryz.prog 194 = true := by kernel_rfl
@[simp] theorem okF_195 : okF Tryz.prog 195 = true := by kernel_rfl
@[simp] theorem okF_196 : okF Tryz.prog 196 = true := by kernel_rfl
@[simp] theorem okF_197 : okF Tryz.prog 197 = true := by kernel_rfl
@[simp] theorem okF_198 : okF Tryz.prog 198 = true := by kernel_rfl
@[simp] theorem okF_199 : okF Tryz.prog 199 = true := by kernel_rfl
@[simp] theorem okF_200 : okF Tryz.prog 200 = true := by kernel_rfl
@[simp] theorem okF_201 : okF Tryz.prog 201 = true := by kernel_rfl
@[simp] theorem okF_202 : okF Tryz.prog 202 = true := by kernel_rfl
@[simp] theorem okF_203 : okF Tryz.prog 203 = true := by kernel_rfl
@[simp] theorem okF_204 : okF Tryz.prog 204 = true := by kernel_rfl
@[simp] theorem okF_205 : okF Tryz.prog 205 = true := by kernel_rfl
@[simp] theorem okF_206 : okF Tryz.prog 206 = true := by kernel_rfl
@[simp] theorem okF_207 : okF Tryz.prog 207 = true := by kernel_rfl
@[simp] theorem okF_208 : okF Tryz.prog 208 = true := by kernel_rfl
@[simp] theorem okF_209 : okF Tryz.prog 209 = true := by kernel_rfl
@[simp] theorem okF_210 : okF Tryz.prog 210 = true := by kernel_rfl
@[simp] theorem okF_211 : okF Tryz.prog 211 = true := by kernel_rfl
@[simp] theorem okF_212 : okF Tryz.prog 212 = true := by kernel_rfl
@[simp] theorem okF_213 : okF Tryz.prog 213 = true := by kernel_rfl
@[simp] theorem okF_214 : okF Tryz.prog 214 = true := by kernel_rfl
@[simp] theorem okF_215 : okF Tryz.prog 215 = true := by kernel_rfl
@[simp] theorem okF_216 : okF Tryz.prog 216 = true := by kernel_rfl
@[simp] theorem okF_217 : okF Tryz.prog 217 = true := by kernel_rfl
@[simp] theorem okF_218 : okF Tryz.prog 218 = true := by kernel_rfl
@[simp] theorem okF_219 : okF Tryz.prog 219 = true := by kernel_rfl
@[simp] theorem okF_220 : okF Tryz.prog 220 = true := by kernel_rfl
@[simp] theorem okF_221 : okF Tryz.prog 221 = true := by kernel_rfl
@[simp] theorem okF_222 : okF Tryz.prog 222 = true := by kernel_rfl
@[simp] theorem okF_223 : okF Tryz.prog 223 = true := by kernel_rfl
@[simp] theorem okF_224 : okF Tryz.prog 224 = true := by kernel_rfl
@[simp] theorem okF_225 : okF Tryz.prog 225 = true := by kernel_rfl
@[simp] theorem okF_226 : okF Tryz.prog 226 = true := by kernel_rfl
@[simp] theorem okF_227 : okF Tryz.prog 227 = true := by kernel_rfl
@[simp] theorem okF_229 : okF Tryz.prog 229 = true := by kernel_rfl
@[simp] theorem okF_230 : okF Tryz.prog 230 = true := by kernel_rfl
@[simp] theorem okF_231 : okF Tryz.prog 231 = true := by kernel_rfl
@[simp] theorem okF_232 : okF Tryz.prog 232 = true := by kernel_rfl
@[simp] theorem okF_233 : okF Tryz.prog 233 = true := by kernel_rfl
@[simp] theorem okF_234 : okF Tryz.prog 234 = true := by kernel_rfl
@[simp] theorem okF_235 : okF Tryz.prog 235 = true := by kernel_rfl
@[simp] theorem okF_237 : okF Tryz.prog 237 = true := by kernel_rfl
end Go.Proofs.YtccjeoghjioamaaGreatDoor
