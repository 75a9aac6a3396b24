/- Closed facts on the program's types and functions, made by program: what the calculator asks of its tables. -/
import Derived.Test.YtpmpiidndgjaaaaGreatProg
import Derived.Test.YtpmpiidndgjaaaaGreatAh
import Derived.KernelRfl
namespace Go.Proofs.YtpmpiidndgjaaaaGreat
set_option maxRecDepth 100000
@[simp] theorem tk_7 : tk Tryz.prog 7 = some (true, 4) := by kernel_rfl
@[simp] theorem places_7 : places Tryz.prog 7 = some [(0, 1), (1, 1), (2, 1), (3, 1)] := by kernel_rfl
@[simp] theorem zvA_7 : zvA Tryz.prog 7 = some [AV.d (D.v (Value.int IntKind.i64 (0))), AV.d (D.v (Value.int IntKind.i64 (0))), AV.d (D.v (Value.bool false)), AV.d (D.v (Value.int IntKind.u8 (0)))] := by kernel_rfl
@[simp] theorem ar_7 : ar Tryz.prog 7 = none := by kernel_rfl
@[simp] theorem fo_7_0 : fo Tryz.prog 7 0 = some 0 := by kernel_rfl
@[simp] theorem ft_7_0 : ft Tryz.prog 7 0 = some (2, 0) := by kernel_rfl
@[simp] theorem fo_7_1 : fo Tryz.prog 7 1 = some 1 := by kernel_rfl
@[simp] theorem ft_7_1 : ft Tryz.prog 7 1 = some (3, 1) := by kernel_rfl
@[simp] theorem fo_7_2 : fo Tryz.prog 7 2 = some 2 := by kernel_rfl
@[simp] theorem ft_7_2 : ft Tryz.prog 7 2 = some (4, 2) := by kernel_rfl
@[simp] theorem fo_7_3 : fo Tryz.prog 7 3 = some 3 := by kernel_rfl
@[simp] theorem ft_7_3 : ft Tryz.prog 7 3 = some (6, 3) := by kernel_rfl
@[simp] theorem tk_8 : tk Tryz.prog 8 = some (true, 4) := by kernel_rfl
@[simp] theorem places_8 : places Tryz.prog 8 = some [(0, 1), (1, 1), (2, 1), (3, 1)] := by kernel_rfl
@[simp] theorem zvA_8 : zvA Tryz.prog 8 = some [AV.d (D.v (Value.int IntKind.i64 (0))), AV.d (D.v (Value.int IntKind.i64 (0))), AV.d (D.v (Value.bool false)), AV.d (D.v (Value.int IntKind.u8 (0)))] := by kernel_rfl
@[simp] theorem ar_8 : ar Tryz.prog 8 = none := by kernel_rfl
@[simp] theorem fo_8_0 : fo Tryz.prog 8 0 = some 0 := by kernel_rfl
@[simp] theorem ft_8_0 : ft Tryz.prog 8 0 = some (2, 0) := by kernel_rfl
@[simp] theorem fo_8_1 : fo Tryz.prog 8 1 = some 1 := by kernel_rfl
@[simp] theorem ft_8_1 : ft Tryz.prog 8 1 = some (3, 1) := by kernel_rfl
@[simp] theorem fo_8_2 : fo Tryz.prog 8 2 = some 2 := by kernel_rfl
@[simp] theorem ft_8_2 : ft Tryz.prog 8 2 = some (4, 2) := by kernel_rfl
@[simp] theorem fo_8_3 : fo Tryz.prog 8 3 = some 3 := by kernel_rfl
@[simp] theorem ft_8_3 : ft Tryz.prog 8 3 = some (6, 3) := by kernel_rfl
@[simp] theorem tk_13 : tk Tryz.prog 13 = some (true, 2) := by kernel_rfl
@[simp] theorem places_13 : places Tryz.prog 13 = some [(0, 1), (1, 1)] := by kernel_rfl
@[simp] theorem zvA_13 : zvA Tryz.prog 13 = some [AV.d (D.v (Value.string { data := #[] })), AV.d (D.v (Value.int IntKind.u64 (0)))] := by kernel_rfl
@[simp] theorem ar_13 : ar Tryz.prog 13 = none := by kernel_rfl
@[simp] theorem fo_13_0 : fo Tryz.prog 13 0 = some 0 := by kernel_rfl
@[simp] theorem ft_13_0 : ft Tryz.prog 13 0 = some (9, 0) := by kernel_rfl
@[simp] theorem fo_13_1 : fo Tryz.prog 13 1 = some 1 := by kernel_rfl
@[simp] theorem ft_13_1 : ft Tryz.prog 13 1 = some (12, 1) := by kernel_rfl
@[simp] theorem tk_14 : tk Tryz.prog 14 = some (true, 2) := by kernel_rfl
@[simp] theorem places_14 : places Tryz.prog 14 = some [(0, 1), (1, 1)] := by kernel_rfl
@[simp] theorem zvA_14 : zvA Tryz.prog 14 = some [AV.d (D.v (Value.string { data := #[] })), AV.d (D.v (Value.int IntKind.u64 (0)))] := by kernel_rfl
@[simp] theorem ar_14 : ar Tryz.prog 14 = none := by kernel_rfl
@[simp] theorem fo_14_0 : fo Tryz.prog 14 0 = some 0 := by kernel_rfl
@[simp] theorem ft_14_0 : ft Tryz.prog 14 0 = some (9, 0) := by kernel_rfl
@[simp] theorem fo_14_1 : fo Tryz.prog 14 1 = some 1 := by kernel_rfl
@[simp] theorem ft_14_1 : ft Tryz.prog 14 1 = some (12, 1) := by kernel_rfl
@[simp] theorem tk_18 : tk Tryz.prog 18 = some (true, 1) := by kernel_rfl
@[simp] theorem places_18 : places Tryz.prog 18 = some [(0, 1)] := by kernel_rfl
@[simp] theorem zvA_18 : zvA Tryz.prog 18 = some [AV.d (D.v (Value.pointer none))] := by kernel_rfl
@[simp] theorem ar_18 : ar Tryz.prog 18 = none := by kernel_rfl
@[simp] theorem fo_18_0 : fo Tryz.prog 18 0 = some 0 := by kernel_rfl
@[simp] theorem ft_18_0 : ft Tryz.prog 18 0 = some (17, 0) := by kernel_rfl
@[simp] theorem tk_19 : tk Tryz.prog 19 = some (true, 1) := by kernel_rfl
@[simp] theorem places_19 : places Tryz.prog 19 = some [(0, 1)] := by kernel_rfl
@[simp] theorem zvA_19 : zvA Tryz.prog 19 = some [AV.d (D.v (Value.pointer none))] := by kernel_rfl
@[simp] theorem ar_19 : ar Tryz.prog 19 = none := by kernel_rfl
@[simp] theorem fo_19_0 : fo Tryz.prog 19 0 = some 0 := by kernel_rfl
@[simp] theorem ft_19_0 : ft Tryz.prog 19 0 = some (17, 0) := by kernel_rfl
@[simp] theorem tk_29 : tk Tryz.prog 29 = some (true, 8) := by kernel_rfl
@[simp] theorem places_29 : places Tryz.prog 29 = some [(0, 1), (1, 1), (2, 1), (3, 1), (4, 1), (5, 1), (6, 1), (7, 1)] := by kernel_rfl
@[simp] theorem zvA_29 : zvA Tryz.prog 29 = some [AV.d (D.v (Value.map none)), AV.d (D.v (Value.map none)), AV.d (D.v (Value.pointer none)), AV.d (D.v (Value.slice none 0 0)), AV.d (D.v (Value.slice none 0 0)), AV.d (D.v (Value.slice none 0 0)), AV.d (D.v (Value.bool false)), AV.d (D.v (Value.int IntKind.i64 (0)))] := by kernel_rfl
@[simp] theorem ar_29 : ar Tryz.prog 29 = none := by kernel_rfl
@[simp] theorem fo_29_0 : fo Tryz.prog 29 0 = some 0 := by kernel_rfl
@[simp] theorem ft_29_0 : ft Tryz.prog 29 0 = some (23, 0) := by kernel_rfl
@[simp] theorem fo_29_1 : fo Tryz.prog 29 1 = some 1 := by kernel_rfl
@[simp] theorem ft_29_1 : ft Tryz.prog 29 1 = some (24, 1) := by kernel_rfl
@[simp] theorem fo_29_2 : fo Tryz.prog 29 2 = some 2 := by kernel_rfl
@[simp] theorem ft_29_2 : ft Tryz.prog 29 2 = some (25, 2) := by kernel_rfl
@[simp] theorem fo_29_3 : fo Tryz.prog 29 3 = some 3 := by kernel_rfl
@[simp] theorem ft_29_3 : ft Tryz.prog 29 3 = some (26, 3) := by kernel_rfl
@[simp] theorem fo_29_4 : fo Tryz.prog 29 4 = some 4 := by kernel_rfl
@[simp] theorem ft_29_4 : ft Tryz.prog 29 4 = some (27, 4) := by kernel_rfl
@[simp] theorem fo_29_5 : fo Tryz.prog 29 5 = some 5 := by kernel_rfl
@[simp] theorem ft_29_5 : ft Tryz.prog 29 5 = some (27, 5) := by kernel_rfl
@[simp] theorem fo_29_6 : fo Tryz.prog 29 6 = some 6 := by kernel_rfl
@[simp] theorem ft_29_6 : ft Tryz.prog 29 6 = some (4, 6) := by kernel_rfl
@[simp] theorem fo_29_7 : fo Tryz.prog 29 7 = some 7 := by kernel_rfl
@[simp] theorem ft_29_7 : ft Tryz.prog 29 7 = some (28, 7) := by kernel_rfl
@[simp] theorem tk_30 : tk Tryz.prog 30 = some (true, 8) := by kernel_rfl
@[simp] theorem places_30 : places Tryz.prog 30 = some [(0, 1), (1, 1), (2, 1), (3, 1), (4, 1), (5, 1), (6, 1), (7, 1)] := by kernel_rfl
@[simp] theorem zvA_30 : zvA Tryz.prog 30 = some [AV.d (D.v (Value.map none)), AV.d (D.v (Value.map none)), AV.d (D.v (Value.pointer none)), AV.d (D.v (Value.slice none 0 0)), AV.d (D.v (Value.slice none 0 0)), AV.d (D.v (Value.slice none 0 0)), AV.d (D.v (Value.bool false)), AV.d (D.v (Value.int IntKind.i64 (0)))] := by kernel_rfl
@[simp] theorem ar_30 : ar Tryz.prog 30 = none := by kernel_rfl
@[simp] theorem fo_30_0 : fo Tryz.prog 30 0 = some 0 := by kernel_rfl
@[simp] theorem ft_30_0 : ft Tryz.prog 30 0 = some (23, 0) := by kernel_rfl
@[simp] theorem fo_30_1 : fo Tryz.prog 30 1 = some 1 := by kernel_rfl
@[simp] theorem ft_30_1 : ft Tryz.prog 30 1 = some (24, 1) := by kernel_rfl
@[simp] theorem fo_30_2 : fo Tryz.prog 30 2 = some 2 := by kernel_rfl
@[simp] theorem ft_30_2 : ft Tryz.prog 30 2 = some (25, 2) := by kernel_rfl
@[simp] theorem fo_30_3 : fo Tryz.prog 30 3 = some 3 := by kernel_rfl
@[simp] theorem ft_30_3 : ft Tryz.prog 30 3 = some (26, 3) := by kernel_rfl
@[simp] theorem fo_30_4 : fo Tryz.prog 30 4 = some 4 := by kernel_rfl
@[simp] theorem ft_30_4 : ft Tryz.prog 30 4 = some (27, 4) := by kernel_rfl
@[simp] theorem fo_30_5 : fo Tryz.prog 30 5 = some 5 := by kernel_rfl
@[simp] theorem ft_30_5 : ft Tryz.prog 30 5 = some (27, 5) := by kernel_rfl
@[simp] theorem fo_30_6 : fo Tryz.prog 30 6 = some 6 := by kernel_rfl
@[simp] theorem ft_30_6 : ft Tryz.prog 30 6 = some (4, 6) := by kernel_rfl
@[simp] theorem fo_30_7 : fo Tryz.prog 30 7 = some 7 := by kernel_rfl
@[simp] theorem ft_30_7 : ft Tryz.prog 30 7 = some (28, 7) := by kernel_rfl
@[simp] theorem tk_32 : tk Tryz.prog 32 = some (true, 3) := by kernel_rfl
@[simp] theorem places_32 : places Tryz.prog 32 = some [(0, 1), (1, 1), (2, 1)] := by kernel_rfl
@[simp] theorem zvA_32 : zvA Tryz.prog 32 = some [AV.d (D.v (Value.int IntKind.i64 (0))), AV.d (D.v (Value.slice none 0 0)), AV.d (D.v (Value.int IntKind.i64 (0)))] := by kernel_rfl
@[simp] theorem ar_32 : ar Tryz.prog 32 = none := by kernel_rfl
@[simp] theorem fo_32_0 : fo Tryz.prog 32 0 = some 0 := by kernel_rfl
@[simp] theorem ft_32_0 : ft Tryz.prog 32 0 = some (28, 0) := by kernel_rfl
@[simp] theorem fo_32_1 : fo Tryz.prog 32 1 = some 1 := by kernel_rfl
@[simp] theorem ft_32_1 : ft Tryz.prog 32 1 = some (27, 1) := by kernel_rfl
@[simp] theorem fo_32_2 : fo Tryz.prog 32 2 = some 2 := by kernel_rfl
@[simp] theorem ft_32_2 : ft Tryz.prog 32 2 = some (3, 2) := by kernel_rfl
@[simp] theorem tk_33 : tk Tryz.prog 33 = some (true, 3) := by kernel_rfl
@[simp] theorem places_33 : places Tryz.prog 33 = some [(0, 1), (1, 1), (2, 1)] := by kernel_rfl
@[simp] theorem zvA_33 : zvA Tryz.prog 33 = some [AV.d (D.v (Value.int IntKind.i64 (0))), AV.d (D.v (Value.slice none 0 0)), AV.d (D.v (Value.int IntKind.i64 (0)))] := by kernel_rfl
@[simp] theorem ar_33 : ar Tryz.prog 33 = none := by kernel_rfl
@[simp] theorem fo_33_0 : fo Tryz.prog 33 0 = some 0 := by kernel_rfl
@[simp] theorem ft_33_0 : ft Tryz.prog 33 0 = some (28, 0) := by kernel_rfl
@[simp] theorem fo_33_1 : fo Tryz.prog 33 1 = some 1 := by kernel_rfl
@[simp] theorem ft_33_1 : ft Tryz.prog 33 1 = some (27, 1) := by kernel_rfl
@[simp] theorem fo_33_2 : fo Tryz.prog 33 2 = some 2 := by kernel_rfl
@[simp] theorem ft_33_2 : ft Tryz.prog 33 2 = some (3, 2) := by kernel_rfl
@[simp] theorem tk_45 : tk Tryz.prog 45 = some (true, 5) := by kernel_rfl
@[simp] theorem places_45 : places Tryz.prog 45 = some [(0, 1), (1, 1), (2, 1), (3, 1), (4, 1)] := by kernel_rfl
@[simp] theorem zvA_45 : zvA Tryz.prog 45 = some [AV.d (D.v (Value.int IntKind.i64 (0))), AV.d (D.v (Value.int IntKind.u32 (0))), AV.d (D.v (Value.string { data := #[] })), AV.d (D.v (Value.int IntKind.i64 (0))), AV.d (D.v (Value.slice none 0 0))] := by kernel_rfl
@[simp] theorem ar_45 : ar Tryz.prog 45 = none := by kernel_rfl
@[simp] theorem fo_45_0 : fo Tryz.prog 45 0 = some 0 := by kernel_rfl
@[simp] theorem ft_45_0 : ft Tryz.prog 45 0 = some (3, 0) := by kernel_rfl
@[simp] theorem fo_45_1 : fo Tryz.prog 45 1 = some 1 := by kernel_rfl
@[simp] theorem ft_45_1 : ft Tryz.prog 45 1 = some (35, 1) := by kernel_rfl
@[simp] theorem fo_45_2 : fo Tryz.prog 45 2 = some 2 := by kernel_rfl
@[simp] theorem ft_45_2 : ft Tryz.prog 45 2 = some (9, 2) := by kernel_rfl
@[simp] theorem fo_45_3 : fo Tryz.prog 45 3 = some 3 := by kernel_rfl
@[simp] theorem ft_45_3 : ft Tryz.prog 45 3 = some (3, 3) := by kernel_rfl
@[simp] theorem fo_45_4 : fo Tryz.prog 45 4 = some 4 := by kernel_rfl
@[simp] theorem ft_45_4 : ft Tryz.prog 45 4 = some (44, 4) := by kernel_rfl
@[simp] theorem tk_46 : tk Tryz.prog 46 = some (true, 5) := by kernel_rfl
@[simp] theorem places_46 : places Tryz.prog 46 = some [(0, 1), (1, 1), (2, 1), (3, 1), (4, 1)] := by kernel_rfl
@[simp] theorem zvA_46 : zvA Tryz.prog 46 = some [AV.d (D.v (Value.int IntKind.i64 (0))), AV.d (D.v (Value.int IntKind.u32 (0))), AV.d (D.v (Value.string { data := #[] })), AV.d (D.v (Value.int IntKind.i64 (0))), AV.d (D.v (Value.slice none 0 0))] := by kernel_rfl
@[simp] theorem ar_46 : ar Tryz.prog 46 = none := by kernel_rfl
@[simp] theorem fo_46_0 : fo Tryz.prog 46 0 = some 0 := by kernel_rfl
@[simp] theorem ft_46_0 : ft Tryz.prog 46 0 = some (3, 0) := by kernel_rfl
@[simp] theorem fo_46_1 : fo Tryz.prog 46 1 = some 1 := by kernel_rfl
@[simp] theorem ft_46_1 : ft Tryz.prog 46 1 = some (35, 1) := by kernel_rfl
@[simp] theorem fo_46_2 : fo Tryz.prog 46 2 = some 2 := by kernel_rfl
@[simp] theorem ft_46_2 : ft Tryz.prog 46 2 = some (9, 2) := by kernel_rfl
@[simp] theorem fo_46_3 : fo Tryz.prog 46 3 = some 3 := by kernel_rfl
@[simp] theorem ft_46_3 : ft Tryz.prog 46 3 = some (3, 3) := by kernel_rfl
@[simp] theorem fo_46_4 : fo Tryz.prog 46 4 = some 4 := by kernel_rfl
@[simp] theorem ft_46_4 : ft Tryz.prog 46 4 = some (44, 4) := by kernel_rfl
@[simp] theorem tk_50 : tk Tryz.prog 50 = some (true, 7) := by kernel_rfl
@[simp] theorem places_50 : places Tryz.prog 50 = some [(0, 1), (1, 1), (2, 1), (3, 1), (4, 1), (5, 1), (6, 1)] := by kernel_rfl
@[simp] theorem zvA_50 : zvA Tryz.prog 50 = some [AV.d (D.v (Value.int IntKind.i64 (0))), AV.d (D.v (Value.int IntKind.i64 (0))), AV.d (D.v (Value.string { data := #[] })), AV.d (D.v (Value.slice none 0 0)), AV.d (D.v (Value.slice none 0 0)), AV.d (D.v (Value.slice none 0 0)), AV.d (D.v (Value.slice none 0 0))] := by kernel_rfl
@[simp] theorem ar_50 : ar Tryz.prog 50 = none := by kernel_rfl
@[simp] theorem fo_50_0 : fo Tryz.prog 50 0 = some 0 := by kernel_rfl
@[simp] theorem ft_50_0 : ft Tryz.prog 50 0 = some (3, 0) := by kernel_rfl
@[simp] theorem fo_50_1 : fo Tryz.prog 50 1 = some 1 := by kernel_rfl
@[simp] theorem ft_50_1 : ft Tryz.prog 50 1 = some (3, 1) := by kernel_rfl
@[simp] theorem fo_50_2 : fo Tryz.prog 50 2 = some 2 := by kernel_rfl
@[simp] theorem ft_50_2 : ft Tryz.prog 50 2 = some (9, 2) := by kernel_rfl
@[simp] theorem fo_50_3 : fo Tryz.prog 50 3 = some 3 := by kernel_rfl
@[simp] theorem ft_50_3 : ft Tryz.prog 50 3 = some (44, 3) := by kernel_rfl
@[simp] theorem fo_50_4 : fo Tryz.prog 50 4 = some 4 := by kernel_rfl
@[simp] theorem ft_50_4 : ft Tryz.prog 50 4 = some (48, 4) := by kernel_rfl
@[simp] theorem fo_50_5 : fo Tryz.prog 50 5 = some 5 := by kernel_rfl
@[simp] theorem ft_50_5 : ft Tryz.prog 50 5 = some (48, 5) := by kernel_rfl
@[simp] theorem fo_50_6 : fo Tryz.prog 50 6 = some 6 := by kernel_rfl
@[simp] theorem ft_50_6 : ft Tryz.prog 50 6 = some (49, 6) := by kernel_rfl
@[simp] theorem tk_51 : tk Tryz.prog 51 = some (true, 7) := by kernel_rfl
@[simp] theorem places_51 : places Tryz.prog 51 = some [(0, 1), (1, 1), (2, 1), (3, 1), (4, 1), (5, 1), (6, 1)] := by kernel_rfl
@[simp] theorem zvA_51 : zvA Tryz.prog 51 = some [AV.d (D.v (Value.int IntKind.i64 (0))), AV.d (D.v (Value.int IntKind.i64 (0))), AV.d (D.v (Value.string { data := #[] })), AV.d (D.v (Value.slice none 0 0)), AV.d (D.v (Value.slice none 0 0)), AV.d (D.v (Value.slice none 0 0)), AV.d (D.v (Value.slice none 0 0))] := by kernel_rfl
@[simp] theorem ar_51 : ar Tryz.prog 51 = none := by kernel_rfl
@[simp] theorem fo_51_0 : fo Tryz.prog 51 0 = some 0 := by kernel_rfl
@[simp] theorem ft_51_0 : ft Tryz.prog 51 0 = some (3, 0) := by kernel_rfl
@[simp] theorem fo_51_1 : fo Tryz.prog 51 1 = some 1 := by kernel_rfl
@[simp] theorem ft_51_1 : ft Tryz.prog 51 1 = some (3, 1) := by kernel_rfl
@[simp] theorem fo_51_2 : fo Tryz.prog 51 2 = some 2 := by kernel_rfl
@[simp] theorem ft_51_2 : ft Tryz.prog 51 2 = some (9, 2) := by kernel_rfl
@[simp] theorem fo_51_3 : fo Tryz.prog 51 3 = some 3 := by kernel_rfl
@[simp] theorem ft_51_3 : ft Tryz.prog 51 3 = some (44, 3) := by kernel_rfl
@[simp] theorem fo_51_4 : fo Tryz.prog 51 4 = some 4 := by kernel_rfl
@[simp] theorem ft_51_4 : ft Tryz.prog 51 4 = some (48, 4) := by kernel_rfl
@[simp] theorem fo_51_5 : fo Tryz.prog 51 5 = some 5 := by kernel_rfl
@[simp] theorem ft_51_5 : ft Tryz.prog 51 5 = some (48, 5) := by kernel_rfl
@[simp] theorem fo_51_6 : fo Tryz.prog 51 6 = some 6 := by kernel_rfl
@[simp] theorem ft_51_6 : ft Tryz.prog 51 6 = some (49, 6) := by kernel_rfl
@[simp] theorem tk_56 : tk Tryz.prog 56 = some (true, 3) := by kernel_rfl
@[simp] theorem places_56 : places Tryz.prog 56 = some [(0, 1), (1, 1), (2, 1)] := by kernel_rfl
@[simp] theorem zvA_56 : zvA Tryz.prog 56 = some [AV.d (D.v (Value.slice none 0 0)), AV.d (D.v (Value.slice none 0 0)), AV.d (D.v (Value.slice none 0 0))] := by kernel_rfl
@[simp] theorem ar_56 : ar Tryz.prog 56 = none := by kernel_rfl
@[simp] theorem fo_56_0 : fo Tryz.prog 56 0 = some 0 := by kernel_rfl
@[simp] theorem ft_56_0 : ft Tryz.prog 56 0 = some (53, 0) := by kernel_rfl
@[simp] theorem fo_56_1 : fo Tryz.prog 56 1 = some 1 := by kernel_rfl
@[simp] theorem ft_56_1 : ft Tryz.prog 56 1 = some (54, 1) := by kernel_rfl
@[simp] theorem fo_56_2 : fo Tryz.prog 56 2 = some 2 := by kernel_rfl
@[simp] theorem ft_56_2 : ft Tryz.prog 56 2 = some (55, 2) := by kernel_rfl
@[simp] theorem tk_57 : tk Tryz.prog 57 = some (true, 3) := by kernel_rfl
@[simp] theorem places_57 : places Tryz.prog 57 = some [(0, 1), (1, 1), (2, 1)] := by kernel_rfl
@[simp] theorem zvA_57 : zvA Tryz.prog 57 = some [AV.d (D.v (Value.slice none 0 0)), AV.d (D.v (Value.slice none 0 0)), AV.d (D.v (Value.slice none 0 0))] := by kernel_rfl
@[simp] theorem ar_57 : ar Tryz.prog 57 = none := by kernel_rfl
@[simp] theorem fo_57_0 : fo Tryz.prog 57 0 = some 0 := by kernel_rfl
@[simp] theorem ft_57_0 : ft Tryz.prog 57 0 = some (53, 0) := by kernel_rfl
@[simp] theorem fo_57_1 : fo Tryz.prog 57 1 = some 1 := by kernel_rfl
@[simp] theorem ft_57_1 : ft Tryz.prog 57 1 = some (54, 1) := by kernel_rfl
@[simp] theorem fo_57_2 : fo Tryz.prog 57 2 = some 2 := by kernel_rfl
@[simp] theorem ft_57_2 : ft Tryz.prog 57 2 = some (55, 2) := by kernel_rfl
@[simp] theorem tk_63 : tk Tryz.prog 63 = some (true, 3) := by kernel_rfl
@[simp] theorem places_63 : places Tryz.prog 63 = some [(0, 1), (1, 1), (2, 1)] := by kernel_rfl
@[simp] theorem zvA_63 : zvA Tryz.prog 63 = some [AV.d (D.v (Value.slice none 0 0)), AV.d (D.v (Value.int IntKind.i64 (0))), AV.d (D.v (Value.map none))] := by kernel_rfl
@[simp] theorem ar_63 : ar Tryz.prog 63 = none := by kernel_rfl
@[simp] theorem fo_63_0 : fo Tryz.prog 63 0 = some 0 := by kernel_rfl
@[simp] theorem ft_63_0 : ft Tryz.prog 63 0 = some (62, 0) := by kernel_rfl
@[simp] theorem fo_63_1 : fo Tryz.prog 63 1 = some 1 := by kernel_rfl
@[simp] theorem ft_63_1 : ft Tryz.prog 63 1 = some (3, 1) := by kernel_rfl
@[simp] theorem fo_63_2 : fo Tryz.prog 63 2 = some 2 := by kernel_rfl
@[simp] theorem ft_63_2 : ft Tryz.prog 63 2 = some (24, 2) := by kernel_rfl
@[simp] theorem tk_64 : tk Tryz.prog 64 = some (true, 3) := by kernel_rfl
@[simp] theorem places_64 : places Tryz.prog 64 = some [(0, 1), (1, 1), (2, 1)] := by kernel_rfl
@[simp] theorem zvA_64 : zvA Tryz.prog 64 = some [AV.d (D.v (Value.slice none 0 0)), AV.d (D.v (Value.int IntKind.i64 (0))), AV.d (D.v (Value.map none))] := by kernel_rfl
@[simp] theorem ar_64 : ar Tryz.prog 64 = none := by kernel_rfl
@[simp] theorem fo_64_0 : fo Tryz.prog 64 0 = some 0 := by kernel_rfl
@[simp] theorem ft_64_0 : ft Tryz.prog 64 0 = some (62, 0) := by kernel_rfl
@[simp] theorem fo_64_1 : fo Tryz.prog 64 1 = some 1 := by kernel_rfl
@[simp] theorem ft_64_1 : ft Tryz.prog 64 1 = some (3, 1) := by kernel_rfl
@[simp] theorem fo_64_2 : fo Tryz.prog 64 2 = some 2 := by kernel_rfl
@[simp] theorem ft_64_2 : ft Tryz.prog 64 2 = some (24, 2) := by kernel_rfl
@[simp] theorem tk_72 : tk Tryz.prog 72 = some (true, 2) := by kernel_rfl
@[simp] theorem places_72 : places Tryz.prog 72 = some [(0, 1), (1, 1)] := by kernel_rfl
@[simp] theorem zvA_72 : zvA Tryz.prog 72 = some [AV.d (D.v (Value.bool false)), AV.d (D.v (Value.bool false))] := by kernel_rfl
@[simp] theorem ar_72 : ar Tryz.prog 72 = none := by kernel_rfl
@[simp] theorem fo_72_0 : fo Tryz.prog 72 0 = some 0 := by kernel_rfl
@[simp] theorem ft_72_0 : ft Tryz.prog 72 0 = some (4, 0) := by kernel_rfl
@[simp] theorem fo_72_1 : fo Tryz.prog 72 1 = some 1 := by kernel_rfl
@[simp] theorem ft_72_1 : ft Tryz.prog 72 1 = some (4, 1) := by kernel_rfl
@[simp] theorem tk_73 : tk Tryz.prog 73 = some (true, 2) := by kernel_rfl
@[simp] theorem places_73 : places Tryz.prog 73 = some [(0, 1), (1, 1)] := by kernel_rfl
@[simp] theorem zvA_73 : zvA Tryz.prog 73 = some [AV.d (D.v (Value.bool false)), AV.d (D.v (Value.bool false))] := by kernel_rfl
@[simp] theorem ar_73 : ar Tryz.prog 73 = none := by kernel_rfl
@[simp] theorem fo_73_0 : fo Tryz.prog 73 0 = some 0 := by kernel_rfl
@[simp] theorem ft_73_0 : ft Tryz.prog 73 0 = some (4, 0) := by kernel_rfl
@[simp] theorem fo_73_1 : fo Tryz.prog 73 1 = some 1 := by kernel_rfl
@[simp] theorem ft_73_1 : ft Tryz.prog 73 1 = some (4, 1) := by kernel_rfl
@[simp] theorem tk_74 : tk Tryz.prog 74 = some (true, 4) := by kernel_rfl
@[simp] theorem places_74 : places Tryz.prog 74 = some [(0, 1), (1, 1), (2, 2)] := by kernel_rfl
@[simp] theorem zvA_74 : zvA Tryz.prog 74 = some [AV.d (D.v (Value.int IntKind.u64 (0))), AV.d (D.v (Value.slice none 0 0)), AV.d (D.v (Value.bool false)), AV.d (D.v (Value.bool false))] := by kernel_rfl
@[simp] theorem ar_74 : ar Tryz.prog 74 = none := by kernel_rfl
@[simp] theorem fo_74_0 : fo Tryz.prog 74 0 = some 0 := by kernel_rfl
@[simp] theorem ft_74_0 : ft Tryz.prog 74 0 = some (70, 0) := by kernel_rfl
@[simp] theorem fo_74_1 : fo Tryz.prog 74 1 = some 1 := by kernel_rfl
@[simp] theorem ft_74_1 : ft Tryz.prog 74 1 = some (71, 1) := by kernel_rfl
@[simp] theorem fo_74_2 : fo Tryz.prog 74 2 = some 2 := by kernel_rfl
@[simp] theorem ft_74_2 : ft Tryz.prog 74 2 = some (73, 2) := by kernel_rfl
@[simp] theorem tk_75 : tk Tryz.prog 75 = some (true, 4) := by kernel_rfl
@[simp] theorem places_75 : places Tryz.prog 75 = some [(0, 1), (1, 1), (2, 2)] := by kernel_rfl
@[simp] theorem zvA_75 : zvA Tryz.prog 75 = some [AV.d (D.v (Value.int IntKind.u64 (0))), AV.d (D.v (Value.slice none 0 0)), AV.d (D.v (Value.bool false)), AV.d (D.v (Value.bool false))] := by kernel_rfl
@[simp] theorem ar_75 : ar Tryz.prog 75 = none := by kernel_rfl
@[simp] theorem fo_75_0 : fo Tryz.prog 75 0 = some 0 := by kernel_rfl
@[simp] theorem ft_75_0 : ft Tryz.prog 75 0 = some (70, 0) := by kernel_rfl
@[simp] theorem fo_75_1 : fo Tryz.prog 75 1 = some 1 := by kernel_rfl
@[simp] theorem ft_75_1 : ft Tryz.prog 75 1 = some (71, 1) := by kernel_rfl
@[simp] theorem fo_75_2 : fo Tryz.prog 75 2 = some 2 := by kernel_rfl
@[simp] theorem ft_75_2 : ft Tryz.prog 75 2 = some (73, 2) := by kernel_rfl
@[simp] theorem tk_77 : tk Tryz.prog 77 = some (true, 2) := by kernel_rfl
@[simp] theorem places_77 : places Tryz.prog 77 = some [(0, 1), (1, 1)] := by kernel_rfl
@[simp] theorem zvA_77 : zvA Tryz.prog 77 = some [AV.d (D.v (Value.slice none 0 0)), AV.d (D.v (Value.map none))] := by kernel_rfl
@[simp] theorem ar_77 : ar Tryz.prog 77 = none := by kernel_rfl
@[simp] theorem fo_77_0 : fo Tryz.prog 77 0 = some 0 := by kernel_rfl
@[simp] theorem ft_77_0 : ft Tryz.prog 77 0 = some (68, 0) := by kernel_rfl
@[simp] theorem fo_77_1 : fo Tryz.prog 77 1 = some 1 := by kernel_rfl
@[simp] theorem ft_77_1 : ft Tryz.prog 77 1 = some (76, 1) := by kernel_rfl
@[simp] theorem tk_78 : tk Tryz.prog 78 = some (true, 2) := by kernel_rfl
@[simp] theorem places_78 : places Tryz.prog 78 = some [(0, 1), (1, 1)] := by kernel_rfl
@[simp] theorem zvA_78 : zvA Tryz.prog 78 = some [AV.d (D.v (Value.slice none 0 0)), AV.d (D.v (Value.map none))] := by kernel_rfl
@[simp] theorem ar_78 : ar Tryz.prog 78 = none := by kernel_rfl
@[simp] theorem fo_78_0 : fo Tryz.prog 78 0 = some 0 := by kernel_rfl
@[simp] theorem ft_78_0 : ft Tryz.prog 78 0 = some (68, 0) := by kernel_rfl
@[simp] theorem fo_78_1 : fo Tryz.prog 78 1 = some 1 := by kernel_rfl
@[simp] theorem ft_78_1 : ft Tryz.prog 78 1 = some (76, 1) := by kernel_rfl
@[simp] theorem tk_83 : tk Tryz.prog 83 = some (true, 3) := by kernel_rfl
@[simp] theorem places_83 : places Tryz.prog 83 = some [(0, 1), (1, 1), (2, 1)] := by kernel_rfl
@[simp] theorem zvA_83 : zvA Tryz.prog 83 = some [AV.d (D.v (Value.string { data := #[] })), AV.d (D.v (Value.slice none 0 0)), AV.d (D.v (Value.slice none 0 0))] := by kernel_rfl
@[simp] theorem ar_83 : ar Tryz.prog 83 = none := by kernel_rfl
@[simp] theorem fo_83_0 : fo Tryz.prog 83 0 = some 0 := by kernel_rfl
@[simp] theorem ft_83_0 : ft Tryz.prog 83 0 = some (9, 0) := by kernel_rfl
@[simp] theorem fo_83_1 : fo Tryz.prog 83 1 = some 1 := by kernel_rfl
@[simp] theorem ft_83_1 : ft Tryz.prog 83 1 = some (53, 1) := by kernel_rfl
@[simp] theorem fo_83_2 : fo Tryz.prog 83 2 = some 2 := by kernel_rfl
@[simp] theorem ft_83_2 : ft Tryz.prog 83 2 = some (48, 2) := by kernel_rfl
@[simp] theorem tk_84 : tk Tryz.prog 84 = some (true, 3) := by kernel_rfl
@[simp] theorem places_84 : places Tryz.prog 84 = some [(0, 1), (1, 1), (2, 1)] := by kernel_rfl
@[simp] theorem zvA_84 : zvA Tryz.prog 84 = some [AV.d (D.v (Value.string { data := #[] })), AV.d (D.v (Value.slice none 0 0)), AV.d (D.v (Value.slice none 0 0))] := by kernel_rfl
@[simp] theorem ar_84 : ar Tryz.prog 84 = none := by kernel_rfl
@[simp] theorem fo_84_0 : fo Tryz.prog 84 0 = some 0 := by kernel_rfl
@[simp] theorem ft_84_0 : ft Tryz.prog 84 0 = some (9, 0) := by kernel_rfl
@[simp] theorem fo_84_1 : fo Tryz.prog 84 1 = some 1 := by kernel_rfl
@[simp] theorem ft_84_1 : ft Tryz.prog 84 1 = some (53, 1) := by kernel_rfl
@[simp] theorem fo_84_2 : fo Tryz.prog 84 2 = some 2 := by kernel_rfl
@[simp] theorem ft_84_2 : ft Tryz.prog 84 2 = some (48, 2) := by kernel_rfl
@[simp] theorem tk_92 : tk Tryz.prog 92 = some (true, 5) := by kernel_rfl
@[simp] theorem places_92 : places Tryz.prog 92 = some [(0, 1), (1, 1), (2, 1), (3, 1), (4, 1)] := by kernel_rfl
@[simp] theorem zvA_92 : zvA Tryz.prog 92 = some [AV.d (D.v (Value.int IntKind.i64 (0))), AV.d (D.v (Value.int IntKind.i64 (0))), AV.d (D.v (Value.int IntKind.i64 (0))), AV.d (D.v (Value.slice none 0 0)), AV.d (D.v (Value.slice none 0 0))] := by kernel_rfl
@[simp] theorem ar_92 : ar Tryz.prog 92 = none := by kernel_rfl
@[simp] theorem fo_92_0 : fo Tryz.prog 92 0 = some 0 := by kernel_rfl
@[simp] theorem ft_92_0 : ft Tryz.prog 92 0 = some (3, 0) := by kernel_rfl
@[simp] theorem fo_92_1 : fo Tryz.prog 92 1 = some 1 := by kernel_rfl
@[simp] theorem ft_92_1 : ft Tryz.prog 92 1 = some (3, 1) := by kernel_rfl
@[simp] theorem fo_92_2 : fo Tryz.prog 92 2 = some 2 := by kernel_rfl
@[simp] theorem ft_92_2 : ft Tryz.prog 92 2 = some (3, 2) := by kernel_rfl
@[simp] theorem fo_92_3 : fo Tryz.prog 92 3 = some 3 := by kernel_rfl
@[simp] theorem ft_92_3 : ft Tryz.prog 92 3 = some (90, 3) := by kernel_rfl
@[simp] theorem fo_92_4 : fo Tryz.prog 92 4 = some 4 := by kernel_rfl
@[simp] theorem ft_92_4 : ft Tryz.prog 92 4 = some (91, 4) := by kernel_rfl
@[simp] theorem tk_93 : tk Tryz.prog 93 = some (true, 5) := by kernel_rfl
@[simp] theorem places_93 : places Tryz.prog 93 = some [(0, 1), (1, 1), (2, 1), (3, 1), (4, 1)] := by kernel_rfl
@[simp] theorem zvA_93 : zvA Tryz.prog 93 = some [AV.d (D.v (Value.int IntKind.i64 (0))), AV.d (D.v (Value.int IntKind.i64 (0))), AV.d (D.v (Value.int IntKind.i64 (0))), AV.d (D.v (Value.slice none 0 0)), AV.d (D.v (Value.slice none 0 0))] := by kernel_rfl
@[simp] theorem ar_93 : ar Tryz.prog 93 = none := by kernel_rfl
@[simp] theorem fo_93_0 : fo Tryz.prog 93 0 = some 0 := by kernel_rfl
@[simp] theorem ft_93_0 : ft Tryz.prog 93 0 = some (3, 0) := by kernel_rfl
@[simp] theorem fo_93_1 : fo Tryz.prog 93 1 = some 1 := by kernel_rfl
@[simp] theorem ft_93_1 : ft Tryz.prog 93 1 = some (3, 1) := by kernel_rfl
@[simp] theorem fo_93_2 : fo Tryz.prog 93 2 = some 2 := by kernel_rfl
@[simp] theorem ft_93_2 : ft Tryz.prog 93 2 = some (3, 2) := by kernel_rfl
@[simp] theorem fo_93_3 : fo Tryz.prog 93 3 = some 3 := by kernel_rfl
@[simp] theorem ft_93_3 : ft Tryz.prog 93 3 = some (90, 3) := by kernel_rfl
@[simp] theorem fo_93_4 : fo Tryz.prog 93 4 = some 4 := by kernel_rfl
@[simp] theorem ft_93_4 : ft Tryz.prog 93 4 = some (91, 4) := by kernel_rfl
@[simp] theorem tk_94 : tk Tryz.prog 94 = some (true, 6) := by kernel_rfl
@[simp] theorem places_94 : places Tryz.prog 94 = some [(0, 1), (1, 5)] := by kernel_rfl
@[simp] theorem zvA_94 : zvA Tryz.prog 94 = some [AV.d (D.v (Value.string { data := #[] })), AV.d (D.v (Value.int IntKind.i64 (0))), AV.d (D.v (Value.int IntKind.i64 (0))), AV.d (D.v (Value.int IntKind.i64 (0))), AV.d (D.v (Value.slice none 0 0)), AV.d (D.v (Value.slice none 0 0))] := by kernel_rfl
@[simp] theorem ar_94 : ar Tryz.prog 94 = none := by kernel_rfl
@[simp] theorem fo_94_0 : fo Tryz.prog 94 0 = some 0 := by kernel_rfl
@[simp] theorem ft_94_0 : ft Tryz.prog 94 0 = some (9, 0) := by kernel_rfl
@[simp] theorem fo_94_1 : fo Tryz.prog 94 1 = some 1 := by kernel_rfl
@[simp] theorem ft_94_1 : ft Tryz.prog 94 1 = some (93, 1) := by kernel_rfl
@[simp] theorem tk_95 : tk Tryz.prog 95 = some (true, 6) := by kernel_rfl
@[simp] theorem places_95 : places Tryz.prog 95 = some [(0, 1), (1, 5)] := by kernel_rfl
@[simp] theorem zvA_95 : zvA Tryz.prog 95 = some [AV.d (D.v (Value.string { data := #[] })), AV.d (D.v (Value.int IntKind.i64 (0))), AV.d (D.v (Value.int IntKind.i64 (0))), AV.d (D.v (Value.int IntKind.i64 (0))), AV.d (D.v (Value.slice none 0 0)), AV.d (D.v (Value.slice none 0 0))] := by kernel_rfl
@[simp] theorem ar_95 : ar Tryz.prog 95 = none := by kernel_rfl
@[simp] theorem fo_95_0 : fo Tryz.prog 95 0 = some 0 := by kernel_rfl
@[simp] theorem ft_95_0 : ft Tryz.prog 95 0 = some (9, 0) := by kernel_rfl
@[simp] theorem fo_95_1 : fo Tryz.prog 95 1 = some 1 := by kernel_rfl
@[simp] theorem ft_95_1 : ft Tryz.prog 95 1 = some (93, 1) := by kernel_rfl
@[simp] theorem tk_96 : tk Tryz.prog 96 = some (true, 2) := by kernel_rfl
@[simp] theorem places_96 : places Tryz.prog 96 = some [(0, 1), (1, 1)] := by kernel_rfl
@[simp] theorem zvA_96 : zvA Tryz.prog 96 = some [AV.d (D.v (Value.slice none 0 0)), AV.d (D.v (Value.map none))] := by kernel_rfl
@[simp] theorem ar_96 : ar Tryz.prog 96 = none := by kernel_rfl
@[simp] theorem fo_96_0 : fo Tryz.prog 96 0 = some 0 := by kernel_rfl
@[simp] theorem ft_96_0 : ft Tryz.prog 96 0 = some (62, 0) := by kernel_rfl
@[simp] theorem fo_96_1 : fo Tryz.prog 96 1 = some 1 := by kernel_rfl
@[simp] theorem ft_96_1 : ft Tryz.prog 96 1 = some (24, 1) := by kernel_rfl
@[simp] theorem tk_97 : tk Tryz.prog 97 = some (true, 2) := by kernel_rfl
@[simp] theorem places_97 : places Tryz.prog 97 = some [(0, 1), (1, 1)] := by kernel_rfl
@[simp] theorem zvA_97 : zvA Tryz.prog 97 = some [AV.d (D.v (Value.slice none 0 0)), AV.d (D.v (Value.map none))] := by kernel_rfl
@[simp] theorem ar_97 : ar Tryz.prog 97 = none := by kernel_rfl
@[simp] theorem fo_97_0 : fo Tryz.prog 97 0 = some 0 := by kernel_rfl
@[simp] theorem ft_97_0 : ft Tryz.prog 97 0 = some (62, 0) := by kernel_rfl
@[simp] theorem fo_97_1 : fo Tryz.prog 97 1 = some 1 := by kernel_rfl
@[simp] theorem ft_97_1 : ft Tryz.prog 97 1 = some (24, 1) := by kernel_rfl
@[simp] theorem tk_106 : tk Tryz.prog 106 = some (true, 5) := by kernel_rfl
@[simp] theorem places_106 : places Tryz.prog 106 = some [(0, 1), (1, 1), (2, 1), (3, 1), (4, 1)] := by kernel_rfl
@[simp] theorem zvA_106 : zvA Tryz.prog 106 = some [AV.d (D.v (Value.string { data := #[] })), AV.d (D.v (Value.int IntKind.u32 (0))), AV.d (D.v (Value.slice none 0 0)), AV.d (D.v (Value.bool false)), AV.d (D.v (Value.bool false))] := by kernel_rfl
@[simp] theorem ar_106 : ar Tryz.prog 106 = none := by kernel_rfl
@[simp] theorem fo_106_0 : fo Tryz.prog 106 0 = some 0 := by kernel_rfl
@[simp] theorem ft_106_0 : ft Tryz.prog 106 0 = some (9, 0) := by kernel_rfl
@[simp] theorem fo_106_1 : fo Tryz.prog 106 1 = some 1 := by kernel_rfl
@[simp] theorem ft_106_1 : ft Tryz.prog 106 1 = some (35, 1) := by kernel_rfl
@[simp] theorem fo_106_2 : fo Tryz.prog 106 2 = some 2 := by kernel_rfl
@[simp] theorem ft_106_2 : ft Tryz.prog 106 2 = some (71, 2) := by kernel_rfl
@[simp] theorem fo_106_3 : fo Tryz.prog 106 3 = some 3 := by kernel_rfl
@[simp] theorem ft_106_3 : ft Tryz.prog 106 3 = some (4, 3) := by kernel_rfl
@[simp] theorem fo_106_4 : fo Tryz.prog 106 4 = some 4 := by kernel_rfl
@[simp] theorem ft_106_4 : ft Tryz.prog 106 4 = some (4, 4) := by kernel_rfl
@[simp] theorem tk_107 : tk Tryz.prog 107 = some (true, 5) := by kernel_rfl
@[simp] theorem places_107 : places Tryz.prog 107 = some [(0, 1), (1, 1), (2, 1), (3, 1), (4, 1)] := by kernel_rfl
@[simp] theorem zvA_107 : zvA Tryz.prog 107 = some [AV.d (D.v (Value.string { data := #[] })), AV.d (D.v (Value.int IntKind.u32 (0))), AV.d (D.v (Value.slice none 0 0)), AV.d (D.v (Value.bool false)), AV.d (D.v (Value.bool false))] := by kernel_rfl
@[simp] theorem ar_107 : ar Tryz.prog 107 = none := by kernel_rfl
@[simp] theorem fo_107_0 : fo Tryz.prog 107 0 = some 0 := by kernel_rfl
@[simp] theorem ft_107_0 : ft Tryz.prog 107 0 = some (9, 0) := by kernel_rfl
@[simp] theorem fo_107_1 : fo Tryz.prog 107 1 = some 1 := by kernel_rfl
@[simp] theorem ft_107_1 : ft Tryz.prog 107 1 = some (35, 1) := by kernel_rfl
@[simp] theorem fo_107_2 : fo Tryz.prog 107 2 = some 2 := by kernel_rfl
@[simp] theorem ft_107_2 : ft Tryz.prog 107 2 = some (71, 2) := by kernel_rfl
@[simp] theorem fo_107_3 : fo Tryz.prog 107 3 = some 3 := by kernel_rfl
@[simp] theorem ft_107_3 : ft Tryz.prog 107 3 = some (4, 3) := by kernel_rfl
@[simp] theorem fo_107_4 : fo Tryz.prog 107 4 = some 4 := by kernel_rfl
@[simp] theorem ft_107_4 : ft Tryz.prog 107 4 = some (4, 4) := by kernel_rfl
@[simp] theorem tk_114 : tk Tryz.prog 114 = some (true, 2) := by kernel_rfl
@[simp] theorem places_114 : places Tryz.prog 114 = some [(0, 1), (1, 1)] := by kernel_rfl
@[simp] theorem zvA_114 : zvA Tryz.prog 114 = some [AV.d (D.v (Value.slice none 0 0)), AV.d (D.v (Value.map none))] := by kernel_rfl
@[simp] theorem ar_114 : ar Tryz.prog 114 = none := by kernel_rfl
@[simp] theorem fo_114_0 : fo Tryz.prog 114 0 = some 0 := by kernel_rfl
@[simp] theorem ft_114_0 : ft Tryz.prog 114 0 = some (62, 0) := by kernel_rfl
@[simp] theorem fo_114_1 : fo Tryz.prog 114 1 = some 1 := by kernel_rfl
@[simp] theorem ft_114_1 : ft Tryz.prog 114 1 = some (113, 1) := by kernel_rfl
@[simp] theorem tk_115 : tk Tryz.prog 115 = some (true, 2) := by kernel_rfl
@[simp] theorem places_115 : places Tryz.prog 115 = some [(0, 1), (1, 1)] := by kernel_rfl
@[simp] theorem zvA_115 : zvA Tryz.prog 115 = some [AV.d (D.v (Value.slice none 0 0)), AV.d (D.v (Value.map none))] := by kernel_rfl
@[simp] theorem ar_115 : ar Tryz.prog 115 = none := by kernel_rfl
@[simp] theorem fo_115_0 : fo Tryz.prog 115 0 = some 0 := by kernel_rfl
@[simp] theorem ft_115_0 : ft Tryz.prog 115 0 = some (62, 0) := by kernel_rfl
@[simp] theorem fo_115_1 : fo Tryz.prog 115 1 = some 1 := by kernel_rfl
@[simp] theorem ft_115_1 : ft Tryz.prog 115 1 = some (113, 1) := by kernel_rfl
@[simp] theorem tk_118 : tk Tryz.prog 118 = some (true, 0) := by kernel_rfl
@[simp] theorem places_118 : places Tryz.prog 118 = some [] := by kernel_rfl
@[simp] theorem zvA_118 : zvA Tryz.prog 118 = some [] := by kernel_rfl
@[simp] theorem ar_118 : ar Tryz.prog 118 = none := by kernel_rfl
@[simp] theorem tk_119 : tk Tryz.prog 119 = some (true, 0) := by kernel_rfl
@[simp] theorem places_119 : places Tryz.prog 119 = some [] := by kernel_rfl
@[simp] theorem zvA_119 : zvA Tryz.prog 119 = some [] := by kernel_rfl
@[simp] theorem ar_119 : ar Tryz.prog 119 = none := by kernel_rfl
@[simp] theorem tk_133 : tk Tryz.prog 133 = some (true, 4) := by kernel_rfl
@[simp] theorem places_133 : places Tryz.prog 133 = some [(0, 1), (1, 1), (2, 1), (3, 1)] := by kernel_rfl
@[simp] theorem zvA_133 : zvA Tryz.prog 133 = some [AV.d (D.v Value.nilFunc), AV.d (D.v (Value.slice none 0 0)), AV.d (D.v (Value.slice none 0 0)), AV.d (D.v (Value.slice none 0 0))] := by kernel_rfl
@[simp] theorem ar_133 : ar Tryz.prog 133 = none := by kernel_rfl
@[simp] theorem fo_133_0 : fo Tryz.prog 133 0 = some 0 := by kernel_rfl
@[simp] theorem ft_133_0 : ft Tryz.prog 133 0 = some (103, 0) := by kernel_rfl
@[simp] theorem fo_133_1 : fo Tryz.prog 133 1 = some 1 := by kernel_rfl
@[simp] theorem ft_133_1 : ft Tryz.prog 133 1 = some (100, 1) := by kernel_rfl
@[simp] theorem fo_133_2 : fo Tryz.prog 133 2 = some 2 := by kernel_rfl
@[simp] theorem ft_133_2 : ft Tryz.prog 133 2 = some (100, 2) := by kernel_rfl
@[simp] theorem fo_133_3 : fo Tryz.prog 133 3 = some 3 := by kernel_rfl
@[simp] theorem ft_133_3 : ft Tryz.prog 133 3 = some (100, 3) := by kernel_rfl
@[simp] theorem tk_134 : tk Tryz.prog 134 = some (true, 4) := by kernel_rfl
@[simp] theorem places_134 : places Tryz.prog 134 = some [(0, 1), (1, 1), (2, 1), (3, 1)] := by kernel_rfl
@[simp] theorem zvA_134 : zvA Tryz.prog 134 = some [AV.d (D.v Value.nilFunc), AV.d (D.v (Value.slice none 0 0)), AV.d (D.v (Value.slice none 0 0)), AV.d (D.v (Value.slice none 0 0))] := by kernel_rfl
@[simp] theorem ar_134 : ar Tryz.prog 134 = none := by kernel_rfl
@[simp] theorem fo_134_0 : fo Tryz.prog 134 0 = some 0 := by kernel_rfl
@[simp] theorem ft_134_0 : ft Tryz.prog 134 0 = some (103, 0) := by kernel_rfl
@[simp] theorem fo_134_1 : fo Tryz.prog 134 1 = some 1 := by kernel_rfl
@[simp] theorem ft_134_1 : ft Tryz.prog 134 1 = some (100, 1) := by kernel_rfl
@[simp] theorem fo_134_2 : fo Tryz.prog 134 2 = some 2 := by kernel_rfl
@[simp] theorem ft_134_2 : ft Tryz.prog 134 2 = some (100, 2) := by kernel_rfl
@[simp] theorem fo_134_3 : fo Tryz.prog 134 3 = some 3 := by kernel_rfl
@[simp] theorem ft_134_3 : ft Tryz.prog 134 3 = some (100, 3) := by kernel_rfl
@[simp] theorem tk_135 : tk Tryz.prog 135 = some (true, 8) := by kernel_rfl
@[simp] theorem places_135 : places Tryz.prog 135 = some [(0, 7), (7, 1)] := by kernel_rfl
@[simp] theorem zvA_135 : zvA Tryz.prog 135 = some [AV.d (D.v (Value.int IntKind.i64 (0))), AV.d (D.v (Value.int IntKind.i64 (0))), AV.d (D.v (Value.string { data := #[] })), AV.d (D.v (Value.slice none 0 0)), AV.d (D.v (Value.slice none 0 0)), AV.d (D.v (Value.slice none 0 0)), AV.d (D.v (Value.slice none 0 0)), AV.d (D.v (Value.bool false))] := by kernel_rfl
@[simp] theorem ar_135 : ar Tryz.prog 135 = none := by kernel_rfl
@[simp] theorem fo_135_0 : fo Tryz.prog 135 0 = some 0 := by kernel_rfl
@[simp] theorem ft_135_0 : ft Tryz.prog 135 0 = some (51, 0) := by kernel_rfl
@[simp] theorem fo_135_1 : fo Tryz.prog 135 1 = some 7 := by kernel_rfl
@[simp] theorem ft_135_1 : ft Tryz.prog 135 1 = some (4, 7) := by kernel_rfl
@[simp] theorem tk_136 : tk Tryz.prog 136 = some (true, 8) := by kernel_rfl
@[simp] theorem places_136 : places Tryz.prog 136 = some [(0, 7), (7, 1)] := by kernel_rfl
@[simp] theorem zvA_136 : zvA Tryz.prog 136 = some [AV.d (D.v (Value.int IntKind.i64 (0))), AV.d (D.v (Value.int IntKind.i64 (0))), AV.d (D.v (Value.string { data := #[] })), AV.d (D.v (Value.slice none 0 0)), AV.d (D.v (Value.slice none 0 0)), AV.d (D.v (Value.slice none 0 0)), AV.d (D.v (Value.slice none 0 0)), AV.d (D.v (Value.bool false))] := by kernel_rfl
@[simp] theorem ar_136 : ar Tryz.prog 136 = none := by kernel_rfl
@[simp] theorem fo_136_0 : fo Tryz.prog 136 0 = some 0 := by kernel_rfl
@[simp] theorem ft_136_0 : ft Tryz.prog 136 0 = some (51, 0) := by kernel_rfl
@[simp] theorem fo_136_1 : fo Tryz.prog 136 1 = some 7 := by kernel_rfl
@[simp] theorem ft_136_1 : ft Tryz.prog 136 1 = some (4, 7) := by kernel_rfl
@[simp] theorem tk_139 : tk Tryz.prog 139 = some (true, 2) := by kernel_rfl
@[simp] theorem places_139 : places Tryz.prog 139 = some [(0, 1), (1, 1)] := by kernel_rfl
@[simp] theorem zvA_139 : zvA Tryz.prog 139 = some [AV.d (D.v (Value.int IntKind.u32 (0))), AV.d (D.v (Value.int IntKind.u32 (0)))] := by kernel_rfl
@[simp] theorem ar_139 : ar Tryz.prog 139 = none := by kernel_rfl
@[simp] theorem fo_139_0 : fo Tryz.prog 139 0 = some 0 := by kernel_rfl
@[simp] theorem ft_139_0 : ft Tryz.prog 139 0 = some (35, 0) := by kernel_rfl
@[simp] theorem fo_139_1 : fo Tryz.prog 139 1 = some 1 := by kernel_rfl
@[simp] theorem ft_139_1 : ft Tryz.prog 139 1 = some (35, 1) := by kernel_rfl
@[simp] theorem tk_140 : tk Tryz.prog 140 = some (true, 2) := by kernel_rfl
@[simp] theorem places_140 : places Tryz.prog 140 = some [(0, 1), (1, 1)] := by kernel_rfl
@[simp] theorem zvA_140 : zvA Tryz.prog 140 = some [AV.d (D.v (Value.int IntKind.u32 (0))), AV.d (D.v (Value.int IntKind.u32 (0)))] := by kernel_rfl
@[simp] theorem ar_140 : ar Tryz.prog 140 = none := by kernel_rfl
@[simp] theorem fo_140_0 : fo Tryz.prog 140 0 = some 0 := by kernel_rfl
@[simp] theorem ft_140_0 : ft Tryz.prog 140 0 = some (35, 0) := by kernel_rfl
@[simp] theorem fo_140_1 : fo Tryz.prog 140 1 = some 1 := by kernel_rfl
@[simp] theorem ft_140_1 : ft Tryz.prog 140 1 = some (35, 1) := by kernel_rfl
@[simp] theorem tk_160 : tk Tryz.prog 160 = some (true, 6) := by kernel_rfl
@[simp] theorem places_160 : places Tryz.prog 160 = some [(0, 5), (5, 1)] := by kernel_rfl
@[simp] theorem zvA_160 : zvA Tryz.prog 160 = some [AV.d (D.v (Value.int IntKind.i64 (0))), AV.d (D.v (Value.int IntKind.u32 (0))), AV.d (D.v (Value.string { data := #[] })), AV.d (D.v (Value.int IntKind.i64 (0))), AV.d (D.v (Value.slice none 0 0)), AV.d (D.v (Value.pointer none))] := by kernel_rfl
@[simp] theorem ar_160 : ar Tryz.prog 160 = none := by kernel_rfl
@[simp] theorem fo_160_0 : fo Tryz.prog 160 0 = some 0 := by kernel_rfl
@[simp] theorem ft_160_0 : ft Tryz.prog 160 0 = some (46, 0) := by kernel_rfl
@[simp] theorem fo_160_1 : fo Tryz.prog 160 1 = some 5 := by kernel_rfl
@[simp] theorem ft_160_1 : ft Tryz.prog 160 1 = some (145, 5) := by kernel_rfl
@[simp] theorem tk_161 : tk Tryz.prog 161 = some (true, 6) := by kernel_rfl
@[simp] theorem places_161 : places Tryz.prog 161 = some [(0, 5), (5, 1)] := by kernel_rfl
@[simp] theorem zvA_161 : zvA Tryz.prog 161 = some [AV.d (D.v (Value.int IntKind.i64 (0))), AV.d (D.v (Value.int IntKind.u32 (0))), AV.d (D.v (Value.string { data := #[] })), AV.d (D.v (Value.int IntKind.i64 (0))), AV.d (D.v (Value.slice none 0 0)), AV.d (D.v (Value.pointer none))] := by kernel_rfl
@[simp] theorem ar_161 : ar Tryz.prog 161 = none := by kernel_rfl
@[simp] theorem fo_161_0 : fo Tryz.prog 161 0 = some 0 := by kernel_rfl
@[simp] theorem ft_161_0 : ft Tryz.prog 161 0 = some (46, 0) := by kernel_rfl
@[simp] theorem fo_161_1 : fo Tryz.prog 161 1 = some 5 := by kernel_rfl
@[simp] theorem ft_161_1 : ft Tryz.prog 161 1 = some (145, 5) := by kernel_rfl
@[simp] theorem tk_162 : tk Tryz.prog 162 = some (true, 2) := by kernel_rfl
@[simp] theorem places_162 : places Tryz.prog 162 = some [(0, 1), (1, 1)] := by kernel_rfl
@[simp] theorem zvA_162 : zvA Tryz.prog 162 = some [AV.d (D.v (Value.pointer none)), AV.d (D.v (Value.bool false))] := by kernel_rfl
@[simp] theorem ar_162 : ar Tryz.prog 162 = none := by kernel_rfl
@[simp] theorem fo_162_0 : fo Tryz.prog 162 0 = some 0 := by kernel_rfl
@[simp] theorem ft_162_0 : ft Tryz.prog 162 0 = some (145, 0) := by kernel_rfl
@[simp] theorem fo_162_1 : fo Tryz.prog 162 1 = some 1 := by kernel_rfl
@[simp] theorem ft_162_1 : ft Tryz.prog 162 1 = some (4, 1) := by kernel_rfl
@[simp] theorem tk_163 : tk Tryz.prog 163 = some (true, 2) := by kernel_rfl
@[simp] theorem places_163 : places Tryz.prog 163 = some [(0, 1), (1, 1)] := by kernel_rfl
@[simp] theorem zvA_163 : zvA Tryz.prog 163 = some [AV.d (D.v (Value.pointer none)), AV.d (D.v (Value.bool false))] := by kernel_rfl
@[simp] theorem ar_163 : ar Tryz.prog 163 = none := by kernel_rfl
@[simp] theorem fo_163_0 : fo Tryz.prog 163 0 = some 0 := by kernel_rfl
@[simp] theorem ft_163_0 : ft Tryz.prog 163 0 = some (145, 0) := by kernel_rfl
@[simp] theorem fo_163_1 : fo Tryz.prog 163 1 = some 1 := by kernel_rfl
@[simp] theorem ft_163_1 : ft Tryz.prog 163 1 = some (4, 1) := by kernel_rfl
@[simp] theorem tk_165 : tk Tryz.prog 165 = some (true, 0) := by kernel_rfl
@[simp] theorem places_165 : places Tryz.prog 165 = some [] := by kernel_rfl
@[simp] theorem zvA_165 : zvA Tryz.prog 165 = some [] := by kernel_rfl
@[simp] theorem ar_165 : ar Tryz.prog 165 = none := by kernel_rfl
@[simp] theorem tk_167 : tk Tryz.prog 167 = some (true, 6) := by kernel_rfl
@[simp] theorem places_167 : places Tryz.prog 167 = some [(0, 5), (5, 1)] := by kernel_rfl
@[simp] theorem zvA_167 : zvA Tryz.prog 167 = some [AV.d (D.v (Value.int IntKind.i64 (0))), AV.d (D.v (Value.int IntKind.u32 (0))), AV.d (D.v (Value.string { data := #[] })), AV.d (D.v (Value.int IntKind.i64 (0))), AV.d (D.v (Value.slice none 0 0)), AV.d (D.v (Value.slice none 0 0))] := by kernel_rfl
@[simp] theorem ar_167 : ar Tryz.prog 167 = none := by kernel_rfl
@[simp] theorem fo_167_0 : fo Tryz.prog 167 0 = some 0 := by kernel_rfl
@[simp] theorem ft_167_0 : ft Tryz.prog 167 0 = some (46, 0) := by kernel_rfl
@[simp] theorem fo_167_1 : fo Tryz.prog 167 1 = some 5 := by kernel_rfl
@[simp] theorem ft_167_1 : ft Tryz.prog 167 1 = some (166, 5) := by kernel_rfl
@[simp] theorem tk_168 : tk Tryz.prog 168 = some (true, 6) := by kernel_rfl
@[simp] theorem places_168 : places Tryz.prog 168 = some [(0, 5), (5, 1)] := by kernel_rfl
@[simp] theorem zvA_168 : zvA Tryz.prog 168 = some [AV.d (D.v (Value.int IntKind.i64 (0))), AV.d (D.v (Value.int IntKind.u32 (0))), AV.d (D.v (Value.string { data := #[] })), AV.d (D.v (Value.int IntKind.i64 (0))), AV.d (D.v (Value.slice none 0 0)), AV.d (D.v (Value.slice none 0 0))] := by kernel_rfl
@[simp] theorem ar_168 : ar Tryz.prog 168 = none := by kernel_rfl
@[simp] theorem fo_168_0 : fo Tryz.prog 168 0 = some 0 := by kernel_rfl
@[simp] theorem ft_168_0 : ft Tryz.prog 168 0 = some (46, 0) := by kernel_rfl
@[simp] theorem fo_168_1 : fo Tryz.prog 168 1 = some 5 := by kernel_rfl
@[simp] theorem ft_168_1 : ft Tryz.prog 168 1 = some (166, 5) := by kernel_rfl
@[simp] theorem tk_170 : tk Tryz.prog 170 = some (true, 7) := by kernel_rfl
@[simp] theorem places_170 : places Tryz.prog 170 = some [(0, 7)] := by kernel_rfl
@[simp] theorem zvA_170 : zvA Tryz.prog 170 = some [AV.d (D.v (Value.int IntKind.i64 (0))), AV.d (D.v (Value.int IntKind.i64 (0))), AV.d (D.v (Value.string { data := #[] })), AV.d (D.v (Value.slice none 0 0)), AV.d (D.v (Value.slice none 0 0)), AV.d (D.v (Value.slice none 0 0)), AV.d (D.v (Value.slice none 0 0))] := by kernel_rfl
@[simp] theorem ar_170 : ar Tryz.prog 170 = none := by kernel_rfl
@[simp] theorem fo_170_0 : fo Tryz.prog 170 0 = some 0 := by kernel_rfl
@[simp] theorem ft_170_0 : ft Tryz.prog 170 0 = some (51, 0) := by kernel_rfl
@[simp] theorem tk_171 : tk Tryz.prog 171 = some (true, 7) := by kernel_rfl
@[simp] theorem places_171 : places Tryz.prog 171 = some [(0, 7)] := by kernel_rfl
@[simp] theorem zvA_171 : zvA Tryz.prog 171 = some [AV.d (D.v (Value.int IntKind.i64 (0))), AV.d (D.v (Value.int IntKind.i64 (0))), AV.d (D.v (Value.string { data := #[] })), AV.d (D.v (Value.slice none 0 0)), AV.d (D.v (Value.slice none 0 0)), AV.d (D.v (Value.slice none 0 0)), AV.d (D.v (Value.slice none 0 0))] := by kernel_rfl
@[simp] theorem ar_171 : ar Tryz.prog 171 = none := by kernel_rfl
@[simp] theorem fo_171_0 : fo Tryz.prog 171 0 = some 0 := by kernel_rfl
@[simp] theorem ft_171_0 : ft Tryz.prog 171 0 = some (51, 0) := by kernel_rfl
@[simp] theorem tk_173 : tk Tryz.prog 173 = some (true, 6) := by kernel_rfl
@[simp] theorem places_173 : places Tryz.prog 173 = some [(0, 1), (1, 5)] := by kernel_rfl
@[simp] theorem zvA_173 : zvA Tryz.prog 173 = some [AV.d (D.v (Value.int IntKind.i64 (0))), AV.d (D.v (Value.int IntKind.i64 (0))), AV.d (D.v (Value.int IntKind.i64 (0))), AV.d (D.v (Value.int IntKind.i64 (0))), AV.d (D.v (Value.slice none 0 0)), AV.d (D.v (Value.slice none 0 0))] := by kernel_rfl
@[simp] theorem ar_173 : ar Tryz.prog 173 = none := by kernel_rfl
@[simp] theorem fo_173_0 : fo Tryz.prog 173 0 = some 0 := by kernel_rfl
@[simp] theorem ft_173_0 : ft Tryz.prog 173 0 = some (3, 0) := by kernel_rfl
@[simp] theorem fo_173_1 : fo Tryz.prog 173 1 = some 1 := by kernel_rfl
@[simp] theorem ft_173_1 : ft Tryz.prog 173 1 = some (93, 1) := by kernel_rfl
@[simp] theorem tk_174 : tk Tryz.prog 174 = some (true, 6) := by kernel_rfl
@[simp] theorem places_174 : places Tryz.prog 174 = some [(0, 1), (1, 5)] := by kernel_rfl
@[simp] theorem zvA_174 : zvA Tryz.prog 174 = some [AV.d (D.v (Value.int IntKind.i64 (0))), AV.d (D.v (Value.int IntKind.i64 (0))), AV.d (D.v (Value.int IntKind.i64 (0))), AV.d (D.v (Value.int IntKind.i64 (0))), AV.d (D.v (Value.slice none 0 0)), AV.d (D.v (Value.slice none 0 0))] := by kernel_rfl
@[simp] theorem ar_174 : ar Tryz.prog 174 = none := by kernel_rfl
@[simp] theorem fo_174_0 : fo Tryz.prog 174 0 = some 0 := by kernel_rfl
@[simp] theorem ft_174_0 : ft Tryz.prog 174 0 = some (3, 0) := by kernel_rfl
@[simp] theorem fo_174_1 : fo Tryz.prog 174 1 = some 1 := by kernel_rfl
@[simp] theorem ft_174_1 : ft Tryz.prog 174 1 = some (93, 1) := by kernel_rfl
@[simp] theorem tk_187 : tk Tryz.prog 187 = some (true, 4) := by kernel_rfl
@[simp] theorem places_187 : places Tryz.prog 187 = some [(0, 1), (1, 1), (2, 1), (3, 1)] := by kernel_rfl
@[simp] theorem zvA_187 : zvA Tryz.prog 187 = some [AV.d (D.v (Value.pointer none)), AV.d (D.v (Value.pointer none)), AV.d (D.v (Value.pointer none)), AV.d (D.v (Value.string { data := #[] }))] := by kernel_rfl
@[simp] theorem ar_187 : ar Tryz.prog 187 = none := by kernel_rfl
@[simp] theorem fo_187_0 : fo Tryz.prog 187 0 = some 0 := by kernel_rfl
@[simp] theorem ft_187_0 : ft Tryz.prog 187 0 = some (17, 0) := by kernel_rfl
@[simp] theorem fo_187_1 : fo Tryz.prog 187 1 = some 1 := by kernel_rfl
@[simp] theorem ft_187_1 : ft Tryz.prog 187 1 = some (17, 1) := by kernel_rfl
@[simp] theorem fo_187_2 : fo Tryz.prog 187 2 = some 2 := by kernel_rfl
@[simp] theorem ft_187_2 : ft Tryz.prog 187 2 = some (17, 2) := by kernel_rfl
@[simp] theorem fo_187_3 : fo Tryz.prog 187 3 = some 3 := by kernel_rfl
@[simp] theorem ft_187_3 : ft Tryz.prog 187 3 = some (9, 3) := by kernel_rfl
@[simp] theorem tk_188 : tk Tryz.prog 188 = some (true, 4) := by kernel_rfl
@[simp] theorem places_188 : places Tryz.prog 188 = some [(0, 1), (1, 1), (2, 1), (3, 1)] := by kernel_rfl
@[simp] theorem zvA_188 : zvA Tryz.prog 188 = some [AV.d (D.v (Value.pointer none)), AV.d (D.v (Value.pointer none)), AV.d (D.v (Value.pointer none)), AV.d (D.v (Value.string { data := #[] }))] := by kernel_rfl
@[simp] theorem ar_188 : ar Tryz.prog 188 = none := by kernel_rfl
@[simp] theorem fo_188_0 : fo Tryz.prog 188 0 = some 0 := by kernel_rfl
@[simp] theorem ft_188_0 : ft Tryz.prog 188 0 = some (17, 0) := by kernel_rfl
@[simp] theorem fo_188_1 : fo Tryz.prog 188 1 = some 1 := by kernel_rfl
@[simp] theorem ft_188_1 : ft Tryz.prog 188 1 = some (17, 1) := by kernel_rfl
@[simp] theorem fo_188_2 : fo Tryz.prog 188 2 = some 2 := by kernel_rfl
@[simp] theorem ft_188_2 : ft Tryz.prog 188 2 = some (17, 2) := by kernel_rfl
@[simp] theorem fo_188_3 : fo Tryz.prog 188 3 = some 3 := by kernel_rfl
@[simp] theorem ft_188_3 : ft Tryz.prog 188 3 = some (9, 3) := by kernel_rfl
@[simp] theorem tk_190 : tk Tryz.prog 190 = some (true, 0) := by kernel_rfl
@[simp] theorem places_190 : places Tryz.prog 190 = some [(0, 0)] := by kernel_rfl
@[simp] theorem zvA_190 : zvA Tryz.prog 190 = some [] := by kernel_rfl
@[simp] theorem ar_190 : ar Tryz.prog 190 = none := by kernel_rfl
@[simp] theorem ft_190_0 : ft Tryz.prog 190 0 = some (189, 0) := by kernel_rfl
@[simp] theorem tk_191 : tk Tryz.prog 191 = some (true, 0) := by kernel_rfl
@[simp] theorem places_191 : places Tryz.prog 191 = some [(0, 0)] := by kernel_rfl
@[simp] theorem zvA_191 : zvA Tryz.prog 191 = some [] := by kernel_rfl
@[simp] theorem ar_191 : ar Tryz.prog 191 = none := by kernel_rfl
@[simp] theorem ft_191_0 : ft Tryz.prog 191 0 = some (189, 0) := by kernel_rfl
@[simp] theorem tk_199 : tk Tryz.prog 199 = some (true, 11) := by kernel_rfl
@[simp] theorem places_199 : places Tryz.prog 199 = some [(0, 1), (1, 1), (2, 1), (3, 1), (4, 1), (5, 1), (6, 1), (7, 1), (8, 1), (9, 1), (10, 1)] := by kernel_rfl
@[simp] theorem zvA_199 : zvA Tryz.prog 199 = some [AV.d (D.v (Value.int IntKind.u64 (0))), AV.d (D.v (Value.int IntKind.u64 (0))), AV.d (D.v (Value.int IntKind.u32 (0))), AV.d (D.v (Value.int IntKind.u8 (0))), AV.d (D.v (Value.int IntKind.u8 (0))), AV.d (D.v (Value.int IntKind.u8 (0))), AV.d (D.v (Value.int IntKind.u8 (0))), AV.d (D.v Value.nilFunc), AV.d (D.v (Value.pointer none)), AV.d (D.v (Value.int IntKind.i32 (0))), AV.d (D.v (Value.int IntKind.i32 (0)))] := by kernel_rfl
@[simp] theorem ar_199 : ar Tryz.prog 199 = none := by kernel_rfl
@[simp] theorem fo_199_0 : fo Tryz.prog 199 0 = some 0 := by kernel_rfl
@[simp] theorem ft_199_0 : ft Tryz.prog 199 0 = some (12, 0) := by kernel_rfl
@[simp] theorem fo_199_1 : fo Tryz.prog 199 1 = some 1 := by kernel_rfl
@[simp] theorem ft_199_1 : ft Tryz.prog 199 1 = some (12, 1) := by kernel_rfl
@[simp] theorem fo_199_2 : fo Tryz.prog 199 2 = some 2 := by kernel_rfl
@[simp] theorem ft_199_2 : ft Tryz.prog 199 2 = some (35, 2) := by kernel_rfl
@[simp] theorem fo_199_3 : fo Tryz.prog 199 3 = some 3 := by kernel_rfl
@[simp] theorem ft_199_3 : ft Tryz.prog 199 3 = some (193, 3) := by kernel_rfl
@[simp] theorem fo_199_4 : fo Tryz.prog 199 4 = some 4 := by kernel_rfl
@[simp] theorem ft_199_4 : ft Tryz.prog 199 4 = some (5, 4) := by kernel_rfl
@[simp] theorem fo_199_5 : fo Tryz.prog 199 5 = some 5 := by kernel_rfl
@[simp] theorem ft_199_5 : ft Tryz.prog 199 5 = some (5, 5) := by kernel_rfl
@[simp] theorem fo_199_6 : fo Tryz.prog 199 6 = some 6 := by kernel_rfl
@[simp] theorem ft_199_6 : ft Tryz.prog 199 6 = some (194, 6) := by kernel_rfl
@[simp] theorem fo_199_7 : fo Tryz.prog 199 7 = some 7 := by kernel_rfl
@[simp] theorem ft_199_7 : ft Tryz.prog 199 7 = some (195, 7) := by kernel_rfl
@[simp] theorem fo_199_8 : fo Tryz.prog 199 8 = some 8 := by kernel_rfl
@[simp] theorem ft_199_8 : ft Tryz.prog 199 8 = some (196, 8) := by kernel_rfl
@[simp] theorem fo_199_9 : fo Tryz.prog 199 9 = some 9 := by kernel_rfl
@[simp] theorem ft_199_9 : ft Tryz.prog 199 9 = some (197, 9) := by kernel_rfl
@[simp] theorem fo_199_10 : fo Tryz.prog 199 10 = some 10 := by kernel_rfl
@[simp] theorem ft_199_10 : ft Tryz.prog 199 10 = some (198, 10) := by kernel_rfl
@[simp] theorem tk_200 : tk Tryz.prog 200 = some (true, 11) := by kernel_rfl
@[simp] theorem places_200 : places Tryz.prog 200 = some [(0, 1), (1, 1), (2, 1), (3, 1), (4, 1), (5, 1), (6, 1), (7, 1), (8, 1), (9, 1), (10, 1)] := by kernel_rfl
@[simp] theorem zvA_200 : zvA Tryz.prog 200 = some [AV.d (D.v (Value.int IntKind.u64 (0))), AV.d (D.v (Value.int IntKind.u64 (0))), AV.d (D.v (Value.int IntKind.u32 (0))), AV.d (D.v (Value.int IntKind.u8 (0))), AV.d (D.v (Value.int IntKind.u8 (0))), AV.d (D.v (Value.int IntKind.u8 (0))), AV.d (D.v (Value.int IntKind.u8 (0))), AV.d (D.v Value.nilFunc), AV.d (D.v (Value.pointer none)), AV.d (D.v (Value.int IntKind.i32 (0))), AV.d (D.v (Value.int IntKind.i32 (0)))] := by kernel_rfl
@[simp] theorem ar_200 : ar Tryz.prog 200 = none := by kernel_rfl
@[simp] theorem fo_200_0 : fo Tryz.prog 200 0 = some 0 := by kernel_rfl
@[simp] theorem ft_200_0 : ft Tryz.prog 200 0 = some (12, 0) := by kernel_rfl
@[simp] theorem fo_200_1 : fo Tryz.prog 200 1 = some 1 := by kernel_rfl
@[simp] theorem ft_200_1 : ft Tryz.prog 200 1 = some (12, 1) := by kernel_rfl
@[simp] theorem fo_200_2 : fo Tryz.prog 200 2 = some 2 := by kernel_rfl
@[simp] theorem ft_200_2 : ft Tryz.prog 200 2 = some (35, 2) := by kernel_rfl
@[simp] theorem fo_200_3 : fo Tryz.prog 200 3 = some 3 := by kernel_rfl
@[simp] theorem ft_200_3 : ft Tryz.prog 200 3 = some (193, 3) := by kernel_rfl
@[simp] theorem fo_200_4 : fo Tryz.prog 200 4 = some 4 := by kernel_rfl
@[simp] theorem ft_200_4 : ft Tryz.prog 200 4 = some (5, 4) := by kernel_rfl
@[simp] theorem fo_200_5 : fo Tryz.prog 200 5 = some 5 := by kernel_rfl
@[simp] theorem ft_200_5 : ft Tryz.prog 200 5 = some (5, 5) := by kernel_rfl
@[simp] theorem fo_200_6 : fo Tryz.prog 200 6 = some 6 := by kernel_rfl
@[simp] theorem ft_200_6 : ft Tryz.prog 200 6 = some (194, 6) := by kernel_rfl
@[simp] theorem fo_200_7 : fo Tryz.prog 200 7 = some 7 := by kernel_rfl
@[simp] theorem ft_200_7 : ft Tryz.prog 200 7 = some (195, 7) := by kernel_rfl
@[simp] theorem fo_200_8 : fo Tryz.prog 200 8 = some 8 := by kernel_rfl
@[simp] theorem ft_200_8 : ft Tryz.prog 200 8 = some (196, 8) := by kernel_rfl
@[simp] theorem fo_200_9 : fo Tryz.prog 200 9 = some 9 := by kernel_rfl
@[simp] theorem ft_200_9 : ft Tryz.prog 200 9 = some (197, 9) := by kernel_rfl
@[simp] theorem fo_200_10 : fo Tryz.prog 200 10 = some 10 := by kernel_rfl
@[simp] theorem ft_200_10 : ft Tryz.prog 200 10 = some (198, 10) := by kernel_rfl
@[simp] theorem tk_189 : tk Tryz.prog 189 = some (true, 0) := by kernel_rfl
@[simp] theorem places_189 : places Tryz.prog 189 = none := by kernel_rfl
@[simp] theorem zvA_189 : zvA Tryz.prog 189 = some [] := by kernel_rfl
@[simp] theorem ar_189 : ar Tryz.prog 189 = some (0, 16, 1) := by kernel_rfl
@[simp] theorem tk_203 : tk Tryz.prog 203 = some (true, 2) := by kernel_rfl
@[simp] theorem places_203 : places Tryz.prog 203 = none := by kernel_rfl
@[simp] theorem zvA_203 : zvA Tryz.prog 203 = some [AV.d (D.v (Value.int IntKind.u32 (0))), AV.d (D.v (Value.int IntKind.u32 (0)))] := by kernel_rfl
@[simp] theorem ar_203 : ar Tryz.prog 203 = some (2, 35, 1) := by kernel_rfl
@[simp] theorem tk_210 : tk Tryz.prog 210 = some (true, 13) := by kernel_rfl
@[simp] theorem places_210 : places Tryz.prog 210 = none := by kernel_rfl
@[simp] theorem zvA_210 : zvA Tryz.prog 210 = some [AV.d (D.v (Value.int IntKind.u32 (0))), AV.d (D.v (Value.int IntKind.u32 (0))), AV.d (D.v (Value.int IntKind.u32 (0))), AV.d (D.v (Value.int IntKind.u32 (0))), AV.d (D.v (Value.int IntKind.u32 (0))), AV.d (D.v (Value.int IntKind.u32 (0))), AV.d (D.v (Value.int IntKind.u32 (0))), AV.d (D.v (Value.int IntKind.u32 (0))), AV.d (D.v (Value.int IntKind.u32 (0))), AV.d (D.v (Value.int IntKind.u32 (0))), AV.d (D.v (Value.int IntKind.u32 (0))), AV.d (D.v (Value.int IntKind.u32 (0))), AV.d (D.v (Value.int IntKind.u32 (0)))] := by kernel_rfl
@[simp] theorem ar_210 : ar Tryz.prog 210 = some (13, 35, 1) := by kernel_rfl
@[simp] theorem tk_26 : tk Tryz.prog 26 = some (false, 1) := by kernel_rfl
@[simp] theorem sl_26 : sl Tryz.prog 26 = some (64, 3) := by kernel_rfl
@[simp] theorem zvA_26 : zvA Tryz.prog 26 = some [AV.d (D.v (Value.slice none 0 0))] := by kernel_rfl
@[simp] theorem byt_26 : byt Tryz.prog 26 = some (64, 3, 40) := by kernel_rfl
@[simp] theorem tk_27 : tk Tryz.prog 27 = some (false, 1) := by kernel_rfl
@[simp] theorem sl_27 : sl Tryz.prog 27 = some (35, 1) := by kernel_rfl
@[simp] theorem zvA_27 : zvA Tryz.prog 27 = some [AV.d (D.v (Value.slice none 0 0))] := by kernel_rfl
@[simp] theorem byt_27 : byt Tryz.prog 27 = some (35, 1, 4) := by kernel_rfl
@[simp] theorem tk_31 : tk Tryz.prog 31 = some (false, 1) := by kernel_rfl
@[simp] theorem sl_31 : sl Tryz.prog 31 = some (22, 1) := by kernel_rfl
@[simp] theorem zvA_31 : zvA Tryz.prog 31 = some [AV.d (D.v (Value.slice none 0 0))] := by kernel_rfl
@[simp] theorem byt_31 : byt Tryz.prog 31 = some (22, 1, 8) := by kernel_rfl
@[simp] theorem tk_44 : tk Tryz.prog 44 = some (false, 1) := by kernel_rfl
@[simp] theorem sl_44 : sl Tryz.prog 44 = some (46, 5) := by kernel_rfl
@[simp] theorem zvA_44 : zvA Tryz.prog 44 = some [AV.d (D.v (Value.slice none 0 0))] := by kernel_rfl
@[simp] theorem byt_44 : byt Tryz.prog 44 = some (46, 5, 64) := by kernel_rfl
@[simp] theorem tk_48 : tk Tryz.prog 48 = some (false, 1) := by kernel_rfl
@[simp] theorem sl_48 : sl Tryz.prog 48 = some (51, 7) := by kernel_rfl
@[simp] theorem zvA_48 : zvA Tryz.prog 48 = some [AV.d (D.v (Value.slice none 0 0))] := by kernel_rfl
@[simp] theorem byt_48 : byt Tryz.prog 48 = some (51, 7, 128) := by kernel_rfl
@[simp] theorem tk_49 : tk Tryz.prog 49 = some (false, 1) := by kernel_rfl
@[simp] theorem sl_49 : sl Tryz.prog 49 = some (48, 1) := by kernel_rfl
@[simp] theorem zvA_49 : zvA Tryz.prog 49 = some [AV.d (D.v (Value.slice none 0 0))] := by kernel_rfl
@[simp] theorem byt_49 : byt Tryz.prog 49 = some (48, 1, 24) := by kernel_rfl
@[simp] theorem tk_53 : tk Tryz.prog 53 = some (false, 1) := by kernel_rfl
@[simp] theorem sl_53 : sl Tryz.prog 53 = some (95, 6) := by kernel_rfl
@[simp] theorem zvA_53 : zvA Tryz.prog 53 = some [AV.d (D.v (Value.slice none 0 0))] := by kernel_rfl
@[simp] theorem byt_53 : byt Tryz.prog 53 = some (95, 6, 88) := by kernel_rfl
@[simp] theorem tk_54 : tk Tryz.prog 54 = some (false, 1) := by kernel_rfl
@[simp] theorem sl_54 : sl Tryz.prog 54 = some (107, 5) := by kernel_rfl
@[simp] theorem zvA_54 : zvA Tryz.prog 54 = some [AV.d (D.v (Value.slice none 0 0))] := by kernel_rfl
@[simp] theorem byt_54 : byt Tryz.prog 54 = some (107, 5, 56) := by kernel_rfl
@[simp] theorem tk_55 : tk Tryz.prog 55 = some (false, 1) := by kernel_rfl
@[simp] theorem sl_55 : sl Tryz.prog 55 = some (84, 3) := by kernel_rfl
@[simp] theorem zvA_55 : zvA Tryz.prog 55 = some [AV.d (D.v (Value.slice none 0 0))] := by kernel_rfl
@[simp] theorem byt_55 : byt Tryz.prog 55 = some (84, 3, 64) := by kernel_rfl
@[simp] theorem tk_61 : tk Tryz.prog 61 = some (false, 1) := by kernel_rfl
@[simp] theorem sl_61 : sl Tryz.prog 61 = some (60, 1) := by kernel_rfl
@[simp] theorem zvA_61 : zvA Tryz.prog 61 = some [AV.d (D.v (Value.slice none 0 0))] := by kernel_rfl
@[simp] theorem byt_61 : byt Tryz.prog 61 = some (60, 1, 16) := by kernel_rfl
@[simp] theorem tk_62 : tk Tryz.prog 62 = some (false, 1) := by kernel_rfl
@[simp] theorem sl_62 : sl Tryz.prog 62 = some (60, 1) := by kernel_rfl
@[simp] theorem zvA_62 : zvA Tryz.prog 62 = some [AV.d (D.v (Value.slice none 0 0))] := by kernel_rfl
@[simp] theorem byt_62 : byt Tryz.prog 62 = some (60, 1, 16) := by kernel_rfl
@[simp] theorem tk_68 : tk Tryz.prog 68 = some (false, 1) := by kernel_rfl
@[simp] theorem sl_68 : sl Tryz.prog 68 = some (75, 4) := by kernel_rfl
@[simp] theorem zvA_68 : zvA Tryz.prog 68 = some [AV.d (D.v (Value.slice none 0 0))] := by kernel_rfl
@[simp] theorem byt_68 : byt Tryz.prog 68 = some (75, 4, 40) := by kernel_rfl
@[simp] theorem tk_71 : tk Tryz.prog 71 = some (false, 1) := by kernel_rfl
@[simp] theorem sl_71 : sl Tryz.prog 71 = some (5, 1) := by kernel_rfl
@[simp] theorem zvA_71 : zvA Tryz.prog 71 = some [AV.d (D.v (Value.slice none 0 0))] := by kernel_rfl
@[simp] theorem byt_71 : byt Tryz.prog 71 = some (5, 1, 1) := by kernel_rfl
@[simp] theorem tk_90 : tk Tryz.prog 90 = some (false, 1) := by kernel_rfl
@[simp] theorem sl_90 : sl Tryz.prog 90 = some (93, 5) := by kernel_rfl
@[simp] theorem zvA_90 : zvA Tryz.prog 90 = some [AV.d (D.v (Value.slice none 0 0))] := by kernel_rfl
@[simp] theorem byt_90 : byt Tryz.prog 90 = some (93, 5, 72) := by kernel_rfl
@[simp] theorem tk_91 : tk Tryz.prog 91 = some (false, 1) := by kernel_rfl
@[simp] theorem sl_91 : sl Tryz.prog 91 = some (174, 6) := by kernel_rfl
@[simp] theorem zvA_91 : zvA Tryz.prog 91 = some [AV.d (D.v (Value.slice none 0 0))] := by kernel_rfl
@[simp] theorem byt_91 : byt Tryz.prog 91 = some (174, 6, 80) := by kernel_rfl
@[simp] theorem tk_100 : tk Tryz.prog 100 = some (false, 1) := by kernel_rfl
@[simp] theorem sl_100 : sl Tryz.prog 100 = some (9, 1) := by kernel_rfl
@[simp] theorem zvA_100 : zvA Tryz.prog 100 = some [AV.d (D.v (Value.slice none 0 0))] := by kernel_rfl
@[simp] theorem byt_100 : byt Tryz.prog 100 = some (9, 1, 16) := by kernel_rfl
@[simp] theorem tk_129 : tk Tryz.prog 129 = some (false, 1) := by kernel_rfl
@[simp] theorem sl_129 : sl Tryz.prog 129 = some (136, 8) := by kernel_rfl
@[simp] theorem zvA_129 : zvA Tryz.prog 129 = some [AV.d (D.v (Value.slice none 0 0))] := by kernel_rfl
@[simp] theorem byt_129 : byt Tryz.prog 129 = some (136, 8, 136) := by kernel_rfl
@[simp] theorem tk_154 : tk Tryz.prog 154 = some (false, 1) := by kernel_rfl
@[simp] theorem sl_154 : sl Tryz.prog 154 = some (53, 1) := by kernel_rfl
@[simp] theorem zvA_154 : zvA Tryz.prog 154 = some [AV.d (D.v (Value.slice none 0 0))] := by kernel_rfl
@[simp] theorem byt_154 : byt Tryz.prog 154 = some (53, 1, 24) := by kernel_rfl
@[simp] theorem tk_166 : tk Tryz.prog 166 = some (false, 1) := by kernel_rfl
@[simp] theorem sl_166 : sl Tryz.prog 166 = some (145, 1) := by kernel_rfl
@[simp] theorem zvA_166 : zvA Tryz.prog 166 = some [AV.d (D.v (Value.slice none 0 0))] := by kernel_rfl
@[simp] theorem byt_166 : byt Tryz.prog 166 = some (145, 1, 8) := by kernel_rfl
@[simp] theorem tk_182 : tk Tryz.prog 182 = some (false, 1) := by kernel_rfl
@[simp] theorem sl_182 : sl Tryz.prog 182 = some (49, 1) := by kernel_rfl
@[simp] theorem zvA_182 : zvA Tryz.prog 182 = some [AV.d (D.v (Value.slice none 0 0))] := by kernel_rfl
@[simp] theorem byt_182 : byt Tryz.prog 182 = some (49, 1, 24) := by kernel_rfl
@[simp] theorem tk_2 : tk Tryz.prog 2 = some (false, 1) := by kernel_rfl
@[simp] theorem isInt_2 : isInt Tryz.prog 2 = some IntKind.i64 := by kernel_rfl
@[simp] theorem isStr_2 : isStr Tryz.prog 2 = false := by kernel_rfl
@[simp] theorem zvA_2 : zvA Tryz.prog 2 = some [AV.d (D.v (Value.int IntKind.i64 (0)))] := by kernel_rfl
@[simp] theorem tk_3 : tk Tryz.prog 3 = some (false, 1) := by kernel_rfl
@[simp] theorem isInt_3 : isInt Tryz.prog 3 = some IntKind.i64 := by kernel_rfl
@[simp] theorem isStr_3 : isStr Tryz.prog 3 = false := by kernel_rfl
@[simp] theorem zvA_3 : zvA Tryz.prog 3 = some [AV.d (D.v (Value.int IntKind.i64 (0)))] := by kernel_rfl
@[simp] theorem tk_4 : tk Tryz.prog 4 = some (false, 1) := by kernel_rfl
@[simp] theorem isInt_4 : isInt Tryz.prog 4 = none := by kernel_rfl
@[simp] theorem isStr_4 : isStr Tryz.prog 4 = false := by kernel_rfl
@[simp] theorem zvA_4 : zvA Tryz.prog 4 = some [AV.d (D.v (Value.bool false))] := by kernel_rfl
@[simp] theorem tk_5 : tk Tryz.prog 5 = some (false, 1) := by kernel_rfl
@[simp] theorem isInt_5 : isInt Tryz.prog 5 = some IntKind.u8 := by kernel_rfl
@[simp] theorem isStr_5 : isStr Tryz.prog 5 = false := by kernel_rfl
@[simp] theorem zvA_5 : zvA Tryz.prog 5 = some [AV.d (D.v (Value.int IntKind.u8 (0)))] := by kernel_rfl
@[simp] theorem tk_6 : tk Tryz.prog 6 = some (false, 1) := by kernel_rfl
@[simp] theorem isInt_6 : isInt Tryz.prog 6 = some IntKind.u8 := by kernel_rfl
@[simp] theorem isStr_6 : isStr Tryz.prog 6 = false := by kernel_rfl
@[simp] theorem zvA_6 : zvA Tryz.prog 6 = some [AV.d (D.v (Value.int IntKind.u8 (0)))] := by kernel_rfl
@[simp] theorem tk_9 : tk Tryz.prog 9 = some (false, 1) := by kernel_rfl
@[simp] theorem isInt_9 : isInt Tryz.prog 9 = none := by kernel_rfl
@[simp] theorem isStr_9 : isStr Tryz.prog 9 = true := by kernel_rfl
@[simp] theorem zvA_9 : zvA Tryz.prog 9 = some [AV.d (D.v (Value.string { data := #[] }))] := by kernel_rfl
@[simp] theorem tk_10 : tk Tryz.prog 10 = some (false, 1) := by kernel_rfl
@[simp] theorem isInt_10 : isInt Tryz.prog 10 = none := by kernel_rfl
@[simp] theorem isStr_10 : isStr Tryz.prog 10 = true := by kernel_rfl
@[simp] theorem zvA_10 : zvA Tryz.prog 10 = some [AV.d (D.v (Value.string { data := #[] }))] := by kernel_rfl
@[simp] theorem tk_11 : tk Tryz.prog 11 = some (false, 1) := by kernel_rfl
@[simp] theorem isInt_11 : isInt Tryz.prog 11 = none := by kernel_rfl
@[simp] theorem isStr_11 : isStr Tryz.prog 11 = true := by kernel_rfl
@[simp] theorem zvA_11 : zvA Tryz.prog 11 = some [AV.d (D.v (Value.string { data := #[] }))] := by kernel_rfl
@[simp] theorem tk_12 : tk Tryz.prog 12 = some (false, 1) := by kernel_rfl
@[simp] theorem isInt_12 : isInt Tryz.prog 12 = some IntKind.u64 := by kernel_rfl
@[simp] theorem isStr_12 : isStr Tryz.prog 12 = false := by kernel_rfl
@[simp] theorem zvA_12 : zvA Tryz.prog 12 = some [AV.d (D.v (Value.int IntKind.u64 (0)))] := by kernel_rfl
@[simp] theorem tk_21 : tk Tryz.prog 21 = some (false, 1) := by kernel_rfl
@[simp] theorem isInt_21 : isInt Tryz.prog 21 = some IntKind.i32 := by kernel_rfl
@[simp] theorem isStr_21 : isStr Tryz.prog 21 = false := by kernel_rfl
@[simp] theorem zvA_21 : zvA Tryz.prog 21 = some [AV.d (D.v (Value.int IntKind.i32 (0)))] := by kernel_rfl
@[simp] theorem tk_28 : tk Tryz.prog 28 = some (false, 1) := by kernel_rfl
@[simp] theorem isInt_28 : isInt Tryz.prog 28 = some IntKind.i64 := by kernel_rfl
@[simp] theorem isStr_28 : isStr Tryz.prog 28 = false := by kernel_rfl
@[simp] theorem zvA_28 : zvA Tryz.prog 28 = some [AV.d (D.v (Value.int IntKind.i64 (0)))] := by kernel_rfl
@[simp] theorem tk_35 : tk Tryz.prog 35 = some (false, 1) := by kernel_rfl
@[simp] theorem isInt_35 : isInt Tryz.prog 35 = some IntKind.u32 := by kernel_rfl
@[simp] theorem isStr_35 : isStr Tryz.prog 35 = false := by kernel_rfl
@[simp] theorem zvA_35 : zvA Tryz.prog 35 = some [AV.d (D.v (Value.int IntKind.u32 (0)))] := by kernel_rfl
@[simp] theorem tk_70 : tk Tryz.prog 70 = some (false, 1) := by kernel_rfl
@[simp] theorem isInt_70 : isInt Tryz.prog 70 = some IntKind.u64 := by kernel_rfl
@[simp] theorem isStr_70 : isStr Tryz.prog 70 = false := by kernel_rfl
@[simp] theorem zvA_70 : zvA Tryz.prog 70 = some [AV.d (D.v (Value.int IntKind.u64 (0)))] := by kernel_rfl
@[simp] theorem tk_181 : tk Tryz.prog 181 = some (false, 1) := by kernel_rfl
@[simp] theorem isInt_181 : isInt Tryz.prog 181 = some IntKind.u64 := by kernel_rfl
@[simp] theorem isStr_181 : isStr Tryz.prog 181 = false := by kernel_rfl
@[simp] theorem zvA_181 : zvA Tryz.prog 181 = some [AV.d (D.v (Value.int IntKind.u64 (0)))] := by kernel_rfl
@[simp] theorem tk_193 : tk Tryz.prog 193 = some (false, 1) := by kernel_rfl
@[simp] theorem isInt_193 : isInt Tryz.prog 193 = some IntKind.u8 := by kernel_rfl
@[simp] theorem isStr_193 : isStr Tryz.prog 193 = false := by kernel_rfl
@[simp] theorem zvA_193 : zvA Tryz.prog 193 = some [AV.d (D.v (Value.int IntKind.u8 (0)))] := by kernel_rfl
@[simp] theorem tk_194 : tk Tryz.prog 194 = some (false, 1) := by kernel_rfl
@[simp] theorem isInt_194 : isInt Tryz.prog 194 = some IntKind.u8 := by kernel_rfl
@[simp] theorem isStr_194 : isStr Tryz.prog 194 = false := by kernel_rfl
@[simp] theorem zvA_194 : zvA Tryz.prog 194 = some [AV.d (D.v (Value.int IntKind.u8 (0)))] := by kernel_rfl
@[simp] theorem tk_197 : tk Tryz.prog 197 = some (false, 1) := by kernel_rfl
@[simp] theorem isInt_197 : isInt Tryz.prog 197 = some IntKind.i32 := by kernel_rfl
@[simp] theorem isStr_197 : isStr Tryz.prog 197 = false := by kernel_rfl
@[simp] theorem zvA_197 : zvA Tryz.prog 197 = some [AV.d (D.v (Value.int IntKind.i32 (0)))] := by kernel_rfl
@[simp] theorem tk_198 : tk Tryz.prog 198 = some (false, 1) := by kernel_rfl
@[simp] theorem isInt_198 : isInt Tryz.prog 198 = some IntKind.i32 := by kernel_rfl
@[simp] theorem isStr_198 : isStr Tryz.prog 198 = false := by kernel_rfl
@[simp] theorem zvA_198 : zvA Tryz.prog 198 = some [AV.d (D.v (Value.int IntKind.i32 (0)))] := by kernel_rfl
@[simp] theorem tk_212 : tk Tryz.prog 212 = some (false, 1) := by kernel_rfl
@[simp] theorem isInt_212 : isInt Tryz.prog 212 = some IntKind.i8 := by kernel_rfl
@[simp] theorem isStr_212 : isStr Tryz.prog 212 = false := by kernel_rfl
@[simp] theorem zvA_212 : zvA Tryz.prog 212 = some [AV.d (D.v (Value.int IntKind.i8 (0)))] := by kernel_rfl
@[simp] theorem tk_213 : tk Tryz.prog 213 = some (false, 1) := by kernel_rfl
@[simp] theorem isInt_213 : isInt Tryz.prog 213 = some IntKind.i16 := by kernel_rfl
@[simp] theorem isStr_213 : isStr Tryz.prog 213 = false := by kernel_rfl
@[simp] theorem zvA_213 : zvA Tryz.prog 213 = some [AV.d (D.v (Value.int IntKind.i16 (0)))] := by kernel_rfl
@[simp] theorem tk_217 : tk Tryz.prog 217 = some (false, 1) := by kernel_rfl
@[simp] theorem isInt_217 : isInt Tryz.prog 217 = none := by kernel_rfl
@[simp] theorem isStr_217 : isStr Tryz.prog 217 = false := by kernel_rfl
@[simp] theorem zvA_217 : zvA Tryz.prog 217 = some [AV.d (D.v (Value.pointer none))] := by kernel_rfl
@[simp] theorem tk_1 : tk Tryz.prog 1 = some (false, 1) := by kernel_rfl
@[simp] theorem zvA_1 : zvA Tryz.prog 1 = some [AV.d (D.v Value.nilFunc)] := by kernel_rfl
@[simp] theorem tk_15 : tk Tryz.prog 15 = some (false, 1) := by kernel_rfl
@[simp] theorem zvA_15 : zvA Tryz.prog 15 = some [AV.d (D.v (Value.pointer none))] := by kernel_rfl
@[simp] theorem tk_16 : tk Tryz.prog 16 = some (false, 1) := by kernel_rfl
@[simp] theorem zvA_16 : zvA Tryz.prog 16 = some [AV.d (D.v (Value.pointer none))] := by kernel_rfl
@[simp] theorem tk_17 : tk Tryz.prog 17 = some (false, 1) := by kernel_rfl
@[simp] theorem zvA_17 : zvA Tryz.prog 17 = some [AV.d (D.v (Value.pointer none))] := by kernel_rfl
@[simp] theorem tk_20 : tk Tryz.prog 20 = some (false, 1) := by kernel_rfl
@[simp] theorem zvA_20 : zvA Tryz.prog 20 = some [AV.d (D.v Value.nilIface)] := by kernel_rfl
@[simp] theorem tk_22 : tk Tryz.prog 22 = some (false, 1) := by kernel_rfl
@[simp] theorem zvA_22 : zvA Tryz.prog 22 = some [AV.d (D.v (Value.pointer none))] := by kernel_rfl
@[simp] theorem tk_23 : tk Tryz.prog 23 = some (false, 1) := by kernel_rfl
@[simp] theorem zvA_23 : zvA Tryz.prog 23 = some [AV.d (D.v (Value.map none))] := by kernel_rfl
@[simp] theorem tk_24 : tk Tryz.prog 24 = some (false, 1) := by kernel_rfl
@[simp] theorem zvA_24 : zvA Tryz.prog 24 = some [AV.d (D.v (Value.map none))] := by kernel_rfl
@[simp] theorem tk_25 : tk Tryz.prog 25 = some (false, 1) := by kernel_rfl
@[simp] theorem zvA_25 : zvA Tryz.prog 25 = some [AV.d (D.v (Value.pointer none))] := by kernel_rfl
@[simp] theorem tk_34 : tk Tryz.prog 34 = some (false, 1) := by kernel_rfl
@[simp] theorem zvA_34 : zvA Tryz.prog 34 = some [AV.d (D.v Value.nilFunc)] := by kernel_rfl
@[simp] theorem tk_37 : tk Tryz.prog 37 = some (false, 1) := by kernel_rfl
@[simp] theorem zvA_37 : zvA Tryz.prog 37 = some [AV.d (D.v Value.nilFunc)] := by kernel_rfl
@[simp] theorem tk_38 : tk Tryz.prog 38 = some (false, 1) := by kernel_rfl
@[simp] theorem zvA_38 : zvA Tryz.prog 38 = some [AV.d (D.v Value.nilFunc)] := by kernel_rfl
@[simp] theorem tk_39 : tk Tryz.prog 39 = some (false, 1) := by kernel_rfl
@[simp] theorem zvA_39 : zvA Tryz.prog 39 = some [AV.d (D.v Value.nilFunc)] := by kernel_rfl
@[simp] theorem tk_40 : tk Tryz.prog 40 = some (false, 1) := by kernel_rfl
@[simp] theorem zvA_40 : zvA Tryz.prog 40 = some [AV.d (D.v Value.nilFunc)] := by kernel_rfl
@[simp] theorem tk_41 : tk Tryz.prog 41 = some (false, 1) := by kernel_rfl
@[simp] theorem zvA_41 : zvA Tryz.prog 41 = some [AV.d (D.v Value.nilFunc)] := by kernel_rfl
@[simp] theorem tk_42 : tk Tryz.prog 42 = some (false, 1) := by kernel_rfl
@[simp] theorem zvA_42 : zvA Tryz.prog 42 = some [AV.d (D.v Value.nilFunc)] := by kernel_rfl
@[simp] theorem tk_43 : tk Tryz.prog 43 = some (false, 1) := by kernel_rfl
@[simp] theorem zvA_43 : zvA Tryz.prog 43 = some [AV.d (D.v Value.nilFunc)] := by kernel_rfl
@[simp] theorem tk_47 : tk Tryz.prog 47 = some (false, 1) := by kernel_rfl
@[simp] theorem zvA_47 : zvA Tryz.prog 47 = some [AV.d (D.v Value.nilFunc)] := by kernel_rfl
@[simp] theorem tk_52 : tk Tryz.prog 52 = some (false, 1) := by kernel_rfl
@[simp] theorem zvA_52 : zvA Tryz.prog 52 = some [AV.d (D.v Value.nilFunc)] := by kernel_rfl
@[simp] theorem tk_58 : tk Tryz.prog 58 = some (false, 1) := by kernel_rfl
@[simp] theorem zvA_58 : zvA Tryz.prog 58 = some [AV.d (D.v Value.nilFunc)] := by kernel_rfl
@[simp] theorem tk_59 : tk Tryz.prog 59 = some (false, 1) := by kernel_rfl
@[simp] theorem zvA_59 : zvA Tryz.prog 59 = some [AV.d (D.v Value.nilIface)] := by kernel_rfl
@[simp] theorem tk_60 : tk Tryz.prog 60 = some (false, 1) := by kernel_rfl
@[simp] theorem zvA_60 : zvA Tryz.prog 60 = some [AV.d (D.v Value.nilIface)] := by kernel_rfl
@[simp] theorem tk_65 : tk Tryz.prog 65 = some (false, 1) := by kernel_rfl
@[simp] theorem zvA_65 : zvA Tryz.prog 65 = some [AV.d (D.v (Value.pointer none))] := by kernel_rfl
@[simp] theorem tk_66 : tk Tryz.prog 66 = some (false, 1) := by kernel_rfl
@[simp] theorem zvA_66 : zvA Tryz.prog 66 = some [AV.d (D.v Value.nilFunc)] := by kernel_rfl
@[simp] theorem tk_67 : tk Tryz.prog 67 = some (false, 1) := by kernel_rfl
@[simp] theorem zvA_67 : zvA Tryz.prog 67 = some [AV.d (D.v Value.nilFunc)] := by kernel_rfl
@[simp] theorem tk_69 : tk Tryz.prog 69 = some (false, 1) := by kernel_rfl
@[simp] theorem zvA_69 : zvA Tryz.prog 69 = some [AV.d (D.v Value.nilFunc)] := by kernel_rfl
@[simp] theorem tk_76 : tk Tryz.prog 76 = some (false, 1) := by kernel_rfl
@[simp] theorem zvA_76 : zvA Tryz.prog 76 = some [AV.d (D.v (Value.map none))] := by kernel_rfl
@[simp] theorem tk_79 : tk Tryz.prog 79 = some (false, 1) := by kernel_rfl
@[simp] theorem zvA_79 : zvA Tryz.prog 79 = some [AV.d (D.v Value.nilFunc)] := by kernel_rfl
@[simp] theorem tk_81 : tk Tryz.prog 81 = some (false, 1) := by kernel_rfl
@[simp] theorem zvA_81 : zvA Tryz.prog 81 = some [AV.d (D.v Value.nilFunc)] := by kernel_rfl
@[simp] theorem tk_82 : tk Tryz.prog 82 = some (false, 1) := by kernel_rfl
@[simp] theorem zvA_82 : zvA Tryz.prog 82 = some [AV.d (D.v Value.nilFunc)] := by kernel_rfl
@[simp] theorem tk_85 : tk Tryz.prog 85 = some (false, 1) := by kernel_rfl
@[simp] theorem zvA_85 : zvA Tryz.prog 85 = some [AV.d (D.v Value.nilFunc)] := by kernel_rfl
@[simp] theorem tk_86 : tk Tryz.prog 86 = some (false, 1) := by kernel_rfl
@[simp] theorem zvA_86 : zvA Tryz.prog 86 = some [AV.d (D.v Value.nilFunc)] := by kernel_rfl
@[simp] theorem tk_88 : tk Tryz.prog 88 = some (false, 1) := by kernel_rfl
@[simp] theorem zvA_88 : zvA Tryz.prog 88 = some [AV.d (D.v Value.nilFunc)] := by kernel_rfl
@[simp] theorem tk_89 : tk Tryz.prog 89 = some (false, 1) := by kernel_rfl
@[simp] theorem zvA_89 : zvA Tryz.prog 89 = some [AV.d (D.v Value.nilFunc)] := by kernel_rfl
@[simp] theorem tk_98 : tk Tryz.prog 98 = some (false, 1) := by kernel_rfl
@[simp] theorem zvA_98 : zvA Tryz.prog 98 = some [AV.d (D.v Value.nilFunc)] := by kernel_rfl
@[simp] theorem tk_99 : tk Tryz.prog 99 = some (false, 1) := by kernel_rfl
@[simp] theorem zvA_99 : zvA Tryz.prog 99 = some [AV.d (D.v Value.nilFunc)] := by kernel_rfl
@[simp] theorem tk_101 : tk Tryz.prog 101 = some (false, 1) := by kernel_rfl
@[simp] theorem zvA_101 : zvA Tryz.prog 101 = some [AV.d (D.v Value.nilFunc)] := by kernel_rfl
@[simp] theorem tk_102 : tk Tryz.prog 102 = some (false, 1) := by kernel_rfl
@[simp] theorem zvA_102 : zvA Tryz.prog 102 = some [AV.d (D.v Value.nilFunc)] := by kernel_rfl
@[simp] theorem tk_103 : tk Tryz.prog 103 = some (false, 1) := by kernel_rfl
@[simp] theorem zvA_103 : zvA Tryz.prog 103 = some [AV.d (D.v Value.nilFunc)] := by kernel_rfl
@[simp] theorem tk_104 : tk Tryz.prog 104 = some (false, 1) := by kernel_rfl
@[simp] theorem zvA_104 : zvA Tryz.prog 104 = some [AV.d (D.v Value.nilFunc)] := by kernel_rfl
@[simp] theorem tk_105 : tk Tryz.prog 105 = some (false, 1) := by kernel_rfl
@[simp] theorem zvA_105 : zvA Tryz.prog 105 = some [AV.d (D.v Value.nilFunc)] := by kernel_rfl
@[simp] theorem tk_108 : tk Tryz.prog 108 = some (false, 1) := by kernel_rfl
@[simp] theorem zvA_108 : zvA Tryz.prog 108 = some [AV.d (D.v Value.nilFunc)] := by kernel_rfl
@[simp] theorem tk_109 : tk Tryz.prog 109 = some (false, 1) := by kernel_rfl
@[simp] theorem zvA_109 : zvA Tryz.prog 109 = some [AV.d (D.v Value.nilFunc)] := by kernel_rfl
@[simp] theorem tk_111 : tk Tryz.prog 111 = some (false, 1) := by kernel_rfl
@[simp] theorem zvA_111 : zvA Tryz.prog 111 = some [AV.d (D.v Value.nilFunc)] := by kernel_rfl
@[simp] theorem tk_112 : tk Tryz.prog 112 = some (false, 1) := by kernel_rfl
@[simp] theorem zvA_112 : zvA Tryz.prog 112 = some [AV.d (D.v (Value.pointer none))] := by kernel_rfl
@[simp] theorem tk_113 : tk Tryz.prog 113 = some (false, 1) := by kernel_rfl
@[simp] theorem zvA_113 : zvA Tryz.prog 113 = some [AV.d (D.v (Value.map none))] := by kernel_rfl
@[simp] theorem tk_116 : tk Tryz.prog 116 = some (false, 1) := by kernel_rfl
@[simp] theorem zvA_116 : zvA Tryz.prog 116 = some [AV.d (D.v Value.nilFunc)] := by kernel_rfl
@[simp] theorem tk_117 : tk Tryz.prog 117 = some (false, 1) := by kernel_rfl
@[simp] theorem zvA_117 : zvA Tryz.prog 117 = some [AV.d (D.v Value.nilFunc)] := by kernel_rfl
@[simp] theorem tk_120 : tk Tryz.prog 120 = some (false, 1) := by kernel_rfl
@[simp] theorem zvA_120 : zvA Tryz.prog 120 = some [AV.d (D.v Value.nilFunc)] := by kernel_rfl
@[simp] theorem tk_121 : tk Tryz.prog 121 = some (false, 1) := by kernel_rfl
@[simp] theorem zvA_121 : zvA Tryz.prog 121 = some [AV.d (D.v Value.nilFunc)] := by kernel_rfl
@[simp] theorem tk_122 : tk Tryz.prog 122 = some (false, 1) := by kernel_rfl
@[simp] theorem zvA_122 : zvA Tryz.prog 122 = some [AV.d (D.v Value.nilFunc)] := by kernel_rfl
@[simp] theorem tk_123 : tk Tryz.prog 123 = some (false, 1) := by kernel_rfl
@[simp] theorem zvA_123 : zvA Tryz.prog 123 = some [AV.d (D.v Value.nilFunc)] := by kernel_rfl
@[simp] theorem tk_124 : tk Tryz.prog 124 = some (false, 1) := by kernel_rfl
@[simp] theorem zvA_124 : zvA Tryz.prog 124 = some [AV.d (D.v Value.nilFunc)] := by kernel_rfl
@[simp] theorem tk_125 : tk Tryz.prog 125 = some (false, 1) := by kernel_rfl
@[simp] theorem zvA_125 : zvA Tryz.prog 125 = some [AV.d (D.v Value.nilFunc)] := by kernel_rfl
@[simp] theorem tk_126 : tk Tryz.prog 126 = some (false, 1) := by kernel_rfl
@[simp] theorem zvA_126 : zvA Tryz.prog 126 = some [AV.d (D.v Value.nilFunc)] := by kernel_rfl
@[simp] theorem tk_127 : tk Tryz.prog 127 = some (false, 1) := by kernel_rfl
@[simp] theorem zvA_127 : zvA Tryz.prog 127 = some [AV.d (D.v Value.nilFunc)] := by kernel_rfl
@[simp] theorem tk_128 : tk Tryz.prog 128 = some (false, 1) := by kernel_rfl
@[simp] theorem zvA_128 : zvA Tryz.prog 128 = some [AV.d (D.v Value.nilFunc)] := by kernel_rfl
@[simp] theorem tk_130 : tk Tryz.prog 130 = some (false, 1) := by kernel_rfl
@[simp] theorem zvA_130 : zvA Tryz.prog 130 = some [AV.d (D.v Value.nilFunc)] := by kernel_rfl
@[simp] theorem tk_131 : tk Tryz.prog 131 = some (false, 1) := by kernel_rfl
@[simp] theorem zvA_131 : zvA Tryz.prog 131 = some [AV.d (D.v (Value.pointer none))] := by kernel_rfl
@[simp] theorem tk_132 : tk Tryz.prog 132 = some (false, 1) := by kernel_rfl
@[simp] theorem zvA_132 : zvA Tryz.prog 132 = some [AV.d (D.v Value.nilFunc)] := by kernel_rfl
@[simp] theorem tk_137 : tk Tryz.prog 137 = some (false, 1) := by kernel_rfl
@[simp] theorem zvA_137 : zvA Tryz.prog 137 = some [AV.d (D.v Value.nilFunc)] := by kernel_rfl
@[simp] theorem tk_138 : tk Tryz.prog 138 = some (false, 1) := by kernel_rfl
@[simp] theorem zvA_138 : zvA Tryz.prog 138 = some [AV.d (D.v Value.nilFunc)] := by kernel_rfl
@[simp] theorem tk_141 : tk Tryz.prog 141 = some (false, 1) := by kernel_rfl
@[simp] theorem zvA_141 : zvA Tryz.prog 141 = some [AV.d (D.v Value.nilFunc)] := by kernel_rfl
@[simp] theorem tk_142 : tk Tryz.prog 142 = some (false, 1) := by kernel_rfl
@[simp] theorem zvA_142 : zvA Tryz.prog 142 = some [AV.d (D.v Value.nilFunc)] := by kernel_rfl
@[simp] theorem tk_144 : tk Tryz.prog 144 = some (false, 1) := by kernel_rfl
@[simp] theorem zvA_144 : zvA Tryz.prog 144 = some [AV.d (D.v Value.nilFunc)] := by kernel_rfl
@[simp] theorem tk_145 : tk Tryz.prog 145 = some (false, 1) := by kernel_rfl
@[simp] theorem zvA_145 : zvA Tryz.prog 145 = some [AV.d (D.v (Value.pointer none))] := by kernel_rfl
@[simp] theorem tk_146 : tk Tryz.prog 146 = some (false, 1) := by kernel_rfl
@[simp] theorem zvA_146 : zvA Tryz.prog 146 = some [AV.d (D.v Value.nilFunc)] := by kernel_rfl
@[simp] theorem tk_147 : tk Tryz.prog 147 = some (false, 1) := by kernel_rfl
@[simp] theorem zvA_147 : zvA Tryz.prog 147 = some [AV.d (D.v Value.nilFunc)] := by kernel_rfl
@[simp] theorem tk_148 : tk Tryz.prog 148 = some (false, 1) := by kernel_rfl
@[simp] theorem zvA_148 : zvA Tryz.prog 148 = some [AV.d (D.v Value.nilFunc)] := by kernel_rfl
@[simp] theorem tk_149 : tk Tryz.prog 149 = some (false, 1) := by kernel_rfl
@[simp] theorem zvA_149 : zvA Tryz.prog 149 = some [AV.d (D.v Value.nilFunc)] := by kernel_rfl
@[simp] theorem tk_150 : tk Tryz.prog 150 = some (false, 1) := by kernel_rfl
@[simp] theorem zvA_150 : zvA Tryz.prog 150 = some [AV.d (D.v Value.nilFunc)] := by kernel_rfl
@[simp] theorem tk_151 : tk Tryz.prog 151 = some (false, 1) := by kernel_rfl
@[simp] theorem zvA_151 : zvA Tryz.prog 151 = some [AV.d (D.v Value.nilFunc)] := by kernel_rfl
@[simp] theorem tk_152 : tk Tryz.prog 152 = some (false, 1) := by kernel_rfl
@[simp] theorem zvA_152 : zvA Tryz.prog 152 = some [AV.d (D.v Value.nilFunc)] := by kernel_rfl
@[simp] theorem tk_153 : tk Tryz.prog 153 = some (false, 1) := by kernel_rfl
@[simp] theorem zvA_153 : zvA Tryz.prog 153 = some [AV.d (D.v Value.nilFunc)] := by kernel_rfl
@[simp] theorem tk_155 : tk Tryz.prog 155 = some (false, 1) := by kernel_rfl
@[simp] theorem zvA_155 : zvA Tryz.prog 155 = some [AV.d (D.v Value.nilFunc)] := by kernel_rfl
@[simp] theorem tk_156 : tk Tryz.prog 156 = some (false, 1) := by kernel_rfl
@[simp] theorem zvA_156 : zvA Tryz.prog 156 = some [AV.d (D.v Value.nilFunc)] := by kernel_rfl
@[simp] theorem tk_157 : tk Tryz.prog 157 = some (false, 1) := by kernel_rfl
@[simp] theorem zvA_157 : zvA Tryz.prog 157 = some [AV.d (D.v Value.nilFunc)] := by kernel_rfl
@[simp] theorem tk_158 : tk Tryz.prog 158 = some (false, 1) := by kernel_rfl
@[simp] theorem zvA_158 : zvA Tryz.prog 158 = some [AV.d (D.v Value.nilFunc)] := by kernel_rfl
@[simp] theorem tk_159 : tk Tryz.prog 159 = some (false, 1) := by kernel_rfl
@[simp] theorem zvA_159 : zvA Tryz.prog 159 = some [AV.d (D.v Value.nilFunc)] := by kernel_rfl
@[simp] theorem tk_164 : tk Tryz.prog 164 = some (false, 1) := by kernel_rfl
@[simp] theorem zvA_164 : zvA Tryz.prog 164 = some [AV.d (D.v Value.nilFunc)] := by kernel_rfl
@[simp] theorem tk_169 : tk Tryz.prog 169 = some (false, 1) := by kernel_rfl
@[simp] theorem zvA_169 : zvA Tryz.prog 169 = some [AV.d (D.v Value.nilFunc)] := by kernel_rfl
@[simp] theorem tk_172 : tk Tryz.prog 172 = some (false, 1) := by kernel_rfl
@[simp] theorem zvA_172 : zvA Tryz.prog 172 = some [AV.d (D.v Value.nilFunc)] := by kernel_rfl
@[simp] theorem tk_175 : tk Tryz.prog 175 = some (false, 1) := by kernel_rfl
@[simp] theorem zvA_175 : zvA Tryz.prog 175 = some [AV.d (D.v Value.nilFunc)] := by kernel_rfl
@[simp] theorem tk_176 : tk Tryz.prog 176 = some (false, 1) := by kernel_rfl
@[simp] theorem zvA_176 : zvA Tryz.prog 176 = some [AV.d (D.v Value.nilFunc)] := by kernel_rfl
@[simp] theorem tk_177 : tk Tryz.prog 177 = some (false, 1) := by kernel_rfl
@[simp] theorem zvA_177 : zvA Tryz.prog 177 = some [AV.d (D.v Value.nilFunc)] := by kernel_rfl
@[simp] theorem tk_178 : tk Tryz.prog 178 = some (false, 1) := by kernel_rfl
@[simp] theorem zvA_178 : zvA Tryz.prog 178 = some [AV.d (D.v Value.nilFunc)] := by kernel_rfl
@[simp] theorem tk_179 : tk Tryz.prog 179 = some (false, 1) := by kernel_rfl
@[simp] theorem zvA_179 : zvA Tryz.prog 179 = some [AV.d (D.v Value.nilFunc)] := by kernel_rfl
@[simp] theorem tk_180 : tk Tryz.prog 180 = some (false, 1) := by kernel_rfl
@[simp] theorem zvA_180 : zvA Tryz.prog 180 = some [AV.d (D.v Value.nilFunc)] := by kernel_rfl
@[simp] theorem tk_183 : tk Tryz.prog 183 = some (false, 1) := by kernel_rfl
@[simp] theorem zvA_183 : zvA Tryz.prog 183 = some [AV.d (D.v Value.nilFunc)] := by kernel_rfl
@[simp] theorem tk_185 : tk Tryz.prog 185 = some (false, 1) := by kernel_rfl
@[simp] theorem zvA_185 : zvA Tryz.prog 185 = some [AV.d (D.v Value.nilFunc)] := by kernel_rfl
@[simp] theorem tk_186 : tk Tryz.prog 186 = some (false, 1) := by kernel_rfl
@[simp] theorem zvA_186 : zvA Tryz.prog 186 = some [AV.d (D.v Value.nilFunc)] := by kernel_rfl
@[simp] theorem tk_192 : tk Tryz.prog 192 = some (false, 1) := by kernel_rfl
@[simp] theorem zvA_192 : zvA Tryz.prog 192 = some [AV.d (D.v Value.nilFunc)] := by kernel_rfl
@[simp] theorem tk_195 : tk Tryz.prog 195 = some (false, 1) := by kernel_rfl
@[simp] theorem zvA_195 : zvA Tryz.prog 195 = some [AV.d (D.v Value.nilFunc)] := by kernel_rfl
@[simp] theorem tk_196 : tk Tryz.prog 196 = some (false, 1) := by kernel_rfl
@[simp] theorem zvA_196 : zvA Tryz.prog 196 = some [AV.d (D.v (Value.pointer none))] := by kernel_rfl
@[simp] theorem tk_202 : tk Tryz.prog 202 = some (false, 1) := by kernel_rfl
@[simp] theorem zvA_202 : zvA Tryz.prog 202 = some [AV.d (D.v Value.nilFunc)] := by kernel_rfl
@[simp] theorem tk_204 : tk Tryz.prog 204 = some (false, 1) := by kernel_rfl
@[simp] theorem zvA_204 : zvA Tryz.prog 204 = some [AV.d (D.v Value.nilFunc)] := by kernel_rfl
@[simp] theorem tk_205 : tk Tryz.prog 205 = some (false, 1) := by kernel_rfl
@[simp] theorem zvA_205 : zvA Tryz.prog 205 = some [AV.d (D.v Value.nilFunc)] := by kernel_rfl
@[simp] theorem tk_206 : tk Tryz.prog 206 = some (false, 1) := by kernel_rfl
@[simp] theorem zvA_206 : zvA Tryz.prog 206 = some [AV.d (D.v Value.nilFunc)] := by kernel_rfl
@[simp] theorem tk_207 : tk Tryz.prog 207 = some (false, 1) := by kernel_rfl
@[simp] theorem zvA_207 : zvA Tryz.prog 207 = some [AV.d (D.v Value.nilFunc)] := by kernel_rfl
@[simp] theorem tk_208 : tk Tryz.prog 208 = some (false, 1) := by kernel_rfl
@[simp] theorem zvA_208 : zvA Tryz.prog 208 = some [AV.d (D.v Value.nilFunc)] := by kernel_rfl
@[simp] theorem tk_209 : tk Tryz.prog 209 = some (false, 1) := by kernel_rfl
@[simp] theorem zvA_209 : zvA Tryz.prog 209 = some [AV.d (D.v Value.nilFunc)] := by kernel_rfl
@[simp] theorem tk_211 : tk Tryz.prog 211 = some (false, 1) := by kernel_rfl
@[simp] theorem zvA_211 : zvA Tryz.prog 211 = some [AV.d (D.v Value.nilFunc)] := by kernel_rfl
@[simp] theorem tk_215 : tk Tryz.prog 215 = some (false, 1) := by kernel_rfl
@[simp] theorem zvA_215 : zvA Tryz.prog 215 = some [AV.d (D.v Value.nilFunc)] := by kernel_rfl
@[simp] theorem tk_216 : tk Tryz.prog 216 = some (false, 1) := by kernel_rfl
@[simp] theorem zvA_216 : zvA Tryz.prog 216 = some [AV.d (D.v Value.nilFunc)] := by kernel_rfl
@[simp] theorem okF_3 : okF Tryz.prog 3 = true := by kernel_rfl
@[simp] theorem okF_4 : okF Tryz.prog 4 = true := by kernel_rfl
@[simp] theorem okF_5 : okF Tryz.prog 5 = true := by kernel_rfl
@[simp] theorem okF_6 : okF Tryz.prog 6 = true := by kernel_rfl
@[simp] theorem okF_7 : okF Tryz.prog 7 = true := by kernel_rfl
@[simp] theorem okF_8 : okF Tryz.prog 8 = true := by kernel_rfl
@[simp] theorem okF_9 : okF Tryz.prog 9 = true := by kernel_rfl
@[simp] theorem okF_10 : okF Tryz.prog 10 = true := by kernel_rfl
@[simp] theorem okF_11 : okF Tryz.prog 11 = true := by kernel_rfl
@[simp] theorem okF_12 : okF Tryz.prog 12 = true := by kernel_rfl
@[simp] theorem okF_13 : okF Tryz.prog 13 = true := by kernel_rfl
@[simp] theorem okF_14 : okF Tryz.prog 14 = true := by kernel_rfl
@[simp] theorem okF_15 : okF Tryz.prog 15 = true := by kernel_rfl
@[simp] theorem okF_16 : okF Tryz.prog 16 = true := by kernel_rfl
@[simp] theorem okF_17 : okF Tryz.prog 17 = true := by kernel_rfl
@[simp] theorem okF_18 : okF Tryz.prog 18 = true := by kernel_rfl
@[simp] theorem okF_19 : okF Tryz.prog 19 = true := by kernel_rfl
@[simp] theorem okF_20 : okF Tryz.prog 20 = true := by kernel_rfl
@[simp] theorem okF_21 : okF Tryz.prog 21 = true := by kernel_rfl
@[simp] theorem okF_22 : okF Tryz.prog 22 = true := by kernel_rfl
@[simp] theorem okF_23 : okF Tryz.prog 23 = true := by kernel_rfl
@[simp] theorem okF_25 : okF Tryz.prog 25 = true := by kernel_rfl
@[simp] theorem okF_26 : okF Tryz.prog 26 = true := by kernel_rfl
@[simp] theorem okF_27 : okF Tryz.prog 27 = true := by kernel_rfl
@[simp] theorem okF_28 : okF Tryz.prog 28 = true := by kernel_rfl
@[simp] theorem okF_29 : okF Tryz.prog 29 = true := by kernel_rfl
@[simp] theorem okF_30 : okF Tryz.prog 30 = true := by kernel_rfl
@[simp] theorem okF_31 : okF Tryz.prog 31 = true := by kernel_rfl
@[simp] theorem okF_32 : okF Tryz.prog 32 = true := by kernel_rfl
@[simp] theorem okF_33 : okF Tryz.prog 33 = true := by kernel_rfl
@[simp] theorem okF_34 : okF Tryz.prog 34 = true := by kernel_rfl
@[simp] theorem okF_35 : okF Tryz.prog 35 = true := by kernel_rfl
@[simp] theorem okF_36 : okF Tryz.prog 36 = true := by kernel_rfl
@[simp] theorem okF_37 : okF Tryz.prog 37 = true := by kernel_rfl
@[simp] theorem okF_38 : okF Tryz.prog 38 = true := by kernel_rfl
@[simp] theorem okF_39 : okF Tryz.prog 39 = true := by kernel_rfl
@[simp] theorem okF_40 : okF Tryz.prog 40 = true := by kernel_rfl
@[simp] theorem okF_41 : okF Tryz.prog 41 = true := by kernel_rfl
@[simp] theorem okF_42 : okF Tryz.prog 42 = true := by kernel_rfl
@[simp] theorem okF_43 : okF Tryz.prog 43 = true := by kernel_rfl
@[simp] theorem okF_44 : okF Tryz.prog 44 = true := by kernel_rfl
@[simp] theorem okF_45 : okF Tryz.prog 45 = true := by kernel_rfl
@[simp] theorem okF_46 : okF Tryz.prog 46 = true := by kernel_rfl
@[simp] theorem okF_47 : okF Tryz.prog 47 = true := by kernel_rfl
@[simp] theorem okF_48 : okF Tryz.prog 48 = true := by kernel_rfl
@[simp] theorem okF_49 : okF Tryz.prog 49 = true := by kernel_rfl
@[simp] theorem okF_50 : okF Tryz.prog 50 = true := by kernel_rfl
@[simp] theorem okF_51 : okF Tryz.prog 51 = true := by kernel_rfl
@[simp] theorem okF_52 : okF Tryz.prog 52 = true := by kernel_rfl
@[simp] theorem okF_53 : okF Tryz.prog 53 = true := by kernel_rfl
@[simp] theorem okF_54 : okF Tryz.prog 54 = true := by kernel_rfl
@[simp] theorem okF_55 : okF Tryz.prog 55 = true := by kernel_rfl
@[simp] theorem okF_56 : okF Tryz.prog 56 = true := by kernel_rfl
@[simp] theorem okF_57 : okF Tryz.prog 57 = true := by kernel_rfl
@[simp] theorem okF_58 : okF Tryz.prog 58 = true := by kernel_rfl
@[simp] theorem okF_59 : okF Tryz.prog 59 = true := by kernel_rfl
@[simp] theorem okF_60 : okF Tryz.prog 60 = true := by kernel_rfl
@[simp] theorem okF_61 : okF Tryz.prog 61 = true := by kernel_rfl
@[simp] theorem okF_62 : okF Tryz.prog 62 = true := by kernel_rfl
@[simp] theorem okF_63 : okF Tryz.prog 63 = true := by kernel_rfl
@[simp] theorem okF_64 : okF Tryz.prog 64 = true := by kernel_rfl
@[simp] theorem okF_65 : okF Tryz.prog 65 = true := by kernel_rfl
@[simp] theorem okF_66 : okF Tryz.prog 66 = true := by kernel_rfl
@[simp] theorem okF_67 : okF Tryz.prog 67 = true := by kernel_rfl
@[simp] theorem okF_68 : okF Tryz.prog 68 = true := by kernel_rfl
@[simp] theorem okF_69 : okF Tryz.prog 69 = true := by kernel_rfl
@[simp] theorem okF_70 : okF Tryz.prog 70 = true := by kernel_rfl
@[simp] theorem okF_71 : okF Tryz.prog 71 = true := by kernel_rfl
@[simp] theorem okF_72 : okF Tryz.prog 72 = true := by kernel_rfl
@[simp] theorem okF_73 : okF Tryz.prog 73 = true := by kernel_rfl
@[simp] theorem okF_74 : okF Tryz.prog 74 = true := by kernel_rfl
@[simp] theorem okF_75 : okF Tryz.prog 75 = true := by kernel_rfl
@[simp] theorem okF_76 : okF Tryz.prog 76 = true := by kernel_rfl
@[simp] theorem okF_77 : okF Tryz.prog 77 = true := by kernel_rfl
@[simp] theorem okF_78 : okF Tryz.prog 78 = true := by kernel_rfl
@[simp] theorem okF_79 : okF Tryz.prog 79 = true := by kernel_rfl
@[simp] theorem okF_80 : okF Tryz.prog 80 = true := by kernel_rfl
@[simp] theorem okF_81 : okF Tryz.prog 81 = true := by kernel_rfl
@[simp] theorem okF_82 : okF Tryz.prog 82 = true := by kernel_rfl
@[simp] theorem okF_83 : okF Tryz.prog 83 = true := by kernel_rfl
@[simp] theorem okF_84 : okF Tryz.prog 84 = true := by kernel_rfl
@[simp] theorem okF_85 : okF Tryz.prog 85 = true := by kernel_rfl
@[simp] theorem okF_86 : okF Tryz.prog 86 = true := by kernel_rfl
@[simp] theorem okF_87 : okF Tryz.prog 87 = true := by kernel_rfl
@[simp] theorem okF_89 : okF Tryz.prog 89 = true := by kernel_rfl
@[simp] theorem okF_90 : okF Tryz.prog 90 = true := by kernel_rfl
@[simp] theorem okF_91 : okF Tryz.prog 91 = true := by kernel_rfl
@[simp] theorem okF_92 : okF Tryz.prog 92 = true := by kernel_rfl
@[simp] theorem okF_93 : okF Tryz.prog 93 = true := by kernel_rfl
@[simp] theorem okF_95 : okF Tryz.prog 95 = true := by kernel_rfl
@[simp] theorem okF_111 : okF Tryz.prog 111 = true := by kernel_rfl
@[simp] theorem okF_112 : okF Tryz.prog 112 = true := by kernel_rfl
@[simp] theorem okF_113 : okF Tryz.prog 113 = true := by kernel_rfl
@[simp] theorem okF_114 : okF Tryz.prog 114 = true := by kernel_rfl
@[simp] theorem okF_115 : okF Tryz.prog 115 = true := by kernel_rfl
@[simp] theorem okF_116 : okF Tryz.prog 116 = true := by kernel_rfl
@[simp] theorem okF_117 : okF Tryz.prog 117 = true := by kernel_rfl
@[simp] theorem okF_118 : okF Tryz.prog 118 = true := by kernel_rfl
@[simp] theorem okF_119 : okF Tryz.prog 119 = true := by kernel_rfl
@[simp] theorem okF_120 : okF Tryz.prog 120 = true := by kernel_rfl
@[simp] theorem okF_121 : okF Tryz.prog 121 = true := by kernel_rfl
@[simp] theorem okF_122 : okF Tryz.prog 122 = true := by kernel_rfl
@[simp] theorem okF_123 : okF Tryz.prog 123 = true := by kernel_rfl
@[simp] theorem okF_124 : okF Tryz.prog 124 = true := by kernel_rfl
@[simp] theorem okF_125 : okF Tryz.prog 125 = true := by kernel_rfl
@[simp] theorem okF_126 : okF Tryz.prog 126 = true := by kernel_rfl
@[simp] theorem okF_127 : okF Tryz.prog 127 = true := by kernel_rfl
@[simp] theorem okF_128 : okF Tryz.prog 128 = true := by kernel_rfl
@[simp] theorem okF_129 : okF Tryz.prog 129 = true := by kernel_rfl
@[simp] theorem okF_130 : okF Tryz.prog 130 = true := by kernel_rfl
@[simp] theorem okF_131 : okF Tryz.prog 131 = true := by kernel_rfl
@[simp] theorem okF_132 : okF Tryz.prog 132 = true := by kernel_rfl
@[simp] theorem okF_133 : okF Tryz.prog 133 = true := by kernel_rfl
@[simp] theorem okF_134 : okF Tryz.prog 134 = true := by kernel_rfl
@[simp] theorem okF_135 : okF Tryz.prog 135 = true := by kernel_rfl
@[simp] theorem okF_136 : okF Tryz.prog 136 = true := by kernel_rfl
end Go.Proofs.YtpmpiidndgjaaaaGreat
