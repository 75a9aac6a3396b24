/- Closed facts on the program's types and functions, made by program: what the calculator asks of its tables. -/
import Derived.Test.YtagkfkhagjlmpaaGreatProg
import Derived.Test.YtagkfkhagjlmpaaGreatAh
import Derived.KernelRfl
namespace Go.Proofs.YtagkfkhagjlmpaaGreat
set_option maxRecDepth 100000
@[simp] theorem tk_7 : tk Tryz.prog 7 = some (true, 4) := by kernel_rfl
@[simp] theorem places_7 : places Tryz.prog 7 = some [(0, 1), (1, 1), (2, 1), (3, 1)] := by kernel_rfl
@[simp] theorem zvA_7 : zvA Tryz.prog 7 = some [AV.d (D.v (Value.int IntKind.i64 (0))), AV.d (D.v (Value.int IntKind.i64 (0))), AV.d (D.v (Value.bool false)), AV.d (D.v (Value.int IntKind.u8 (0)))] := by kernel_rfl
@[simp] theorem ar_7 : ar Tryz.prog 7 = none := by kernel_rfl
@[simp] theorem fo_7_0 : fo Tryz.prog 7 0 = some 0 := by kernel_rfl
@[simp] theorem ft_7_0 : ft Tryz.prog 7 0 = some (2, 0) := by kernel_rfl
@[simp] theorem fo_7_1 : fo Tryz.prog 7 1 = some 1 := by kernel_rfl
@[simp] theorem ft_7_1 : ft Tryz.prog 7 1 = some (3, 1) := by kernel_rfl
@[simp] theorem fo_7_2 : fo Tryz.prog 7 2 = some 2 := by kernel_rfl
@[simp] theorem ft_7_2 : ft Tryz.prog 7 2 = some (4, 2) := by kernel_rfl
@[simp] theorem fo_7_3 : fo Tryz.prog 7 3 = some 3 := by kernel_rfl
@[simp] theorem ft_7_3 : ft Tryz.prog 7 3 = some (6, 3) := by kernel_rfl
@[simp] theorem tk_8 : tk Tryz.prog 8 = some (true, 4) := by kernel_rfl
@[simp] theorem places_8 : places Tryz.prog 8 = some [(0, 1), (1, 1), (2, 1), (3, 1)] := by kernel_rfl
@[simp] theorem zvA_8 : zvA Tryz.prog 8 = some [AV.d (D.v (Value.int IntKind.i64 (0))), AV.d (D.v (Value.int IntKind.i64 (0))), AV.d (D.v (Value.bool false)), AV.d (D.v (Value.int IntKind.u8 (0)))] := by kernel_rfl
@[simp] theorem ar_8 : ar Tryz.prog 8 = none := by kernel_rfl
@[simp] theorem fo_8_0 : fo Tryz.prog 8 0 = some 0 := by kernel_rfl
@[simp] theorem ft_8_0 : ft Tryz.prog 8 0 = some (2, 0) := by kernel_rfl
@[simp] theorem fo_8_1 : fo Tryz.prog 8 1 = some 1 := by kernel_rfl
@[simp] theorem ft_8_1 : ft Tryz.prog 8 1 = some (3, 1) := by kernel_rfl
@[simp] theorem fo_8_2 : fo Tryz.prog 8 2 = some 2 := by kernel_rfl
@[simp] theorem ft_8_2 : ft Tryz.prog 8 2 = some (4, 2) := by kernel_rfl
@[simp] theorem fo_8_3 : fo Tryz.prog 8 3 = some 3 := by kernel_rfl
@[simp] theorem ft_8_3 : ft Tryz.prog 8 3 = some (6, 3) := by kernel_rfl
@[simp] theorem tk_13 : tk Tryz.prog 13 = some (true, 2) := by kernel_rfl
@[simp] theorem places_13 : places Tryz.prog 13 = some [(0, 1), (1, 1)] := by kernel_rfl
@[simp] theorem zvA_13 : zvA Tryz.prog 13 = some [AV.d (D.v (Value.string { data := #[] })), AV.d (D.v (Value.int IntKind.u64 (0)))] := by kernel_rfl
@[simp] theorem ar_13 : ar Tryz.prog 13 = none := by kernel_rfl
@[simp] theorem fo_13_0 : fo Tryz.prog 13 0 = some 0 := by kernel_rfl
@[simp] theorem ft_13_0 : ft Tryz.prog 13 0 = some (9, 0) := by kernel_rfl
@[simp] theorem fo_13_1 : fo Tryz.prog 13 1 = some 1 := by kernel_rfl
@[simp] theorem ft_13_1 : ft Tryz.prog 13 1 = some (12, 1) := by kernel_rfl
@[simp] theorem tk_14 : tk Tryz.prog 14 = some (true, 2) := by kernel_rfl
@[simp] theorem places_14 : places Tryz.prog 14 = some [(0, 1), (1, 1)] := by kernel_rfl
@[simp] theorem zvA_14 : zvA Tryz.prog 14 = some [AV.d (D.v (Value.string { data := #[] })), AV.d (D.v (Value.int IntKind.u64 (0)))] := by kernel_rfl
@[simp] theorem ar_14 : ar Tryz.prog 14 = none := by kernel_rfl
@[simp] theorem fo_14_0 : fo Tryz.prog 14 0 = some 0 := by kernel_rfl
@[simp] theorem ft_14_0 : ft Tryz.prog 14 0 = some (9, 0) := by kernel_rfl
@[simp] theorem fo_14_1 : fo Tryz.prog 14 1 = some 1 := by kernel_rfl
@[simp] theorem ft_14_1 : ft Tryz.prog 14 1 = some (12, 1) := by kernel_rfl
@[simp] theorem tk_18 : tk Tryz.prog 18 = some (true, 1) := by kernel_rfl
@[simp] theorem places_18 : places Tryz.prog 18 = some [(0, 1)] := by kernel_rfl
@[simp] theorem zvA_18 : zvA Tryz.prog 18 = some [AV.d (D.v (Value.pointer none))] := by kernel_rfl
@[simp] theorem ar_18 : ar Tryz.prog 18 = none := by kernel_rfl
@[simp] theorem fo_18_0 : fo Tryz.prog 18 0 = some 0 := by kernel_rfl
@[simp] theorem ft_18_0 : ft Tryz.prog 18 0 = some (17, 0) := by kernel_rfl
@[simp] theorem tk_19 : tk Tryz.prog 19 = some (true, 1) := by kernel_rfl
@[simp] theorem places_19 : places Tryz.prog 19 = some [(0, 1)] := by kernel_rfl
@[simp] theorem zvA_19 : zvA Tryz.prog 19 = some [AV.d (D.v (Value.pointer none))] := by kernel_rfl
@[simp] theorem ar_19 : ar Tryz.prog 19 = none := by kernel_rfl
@[simp] theorem fo_19_0 : fo Tryz.prog 19 0 = some 0 := by kernel_rfl
@[simp] theorem ft_19_0 : ft Tryz.prog 19 0 = some (17, 0) := by kernel_rfl
@[simp] theorem tk_24 : tk Tryz.prog 24 = some (true, 2) := by kernel_rfl
@[simp] theorem places_24 : places Tryz.prog 24 = some [(0, 1), (1, 1)] := by kernel_rfl
@[simp] theorem zvA_24 : zvA Tryz.prog 24 = some [AV.d (D.v (Value.int IntKind.u32 (0))), AV.d (D.v (Value.slice none 0 0))] := by kernel_rfl
@[simp] theorem ar_24 : ar Tryz.prog 24 = none := by kernel_rfl
@[simp] theorem fo_24_0 : fo Tryz.prog 24 0 = some 0 := by kernel_rfl
@[simp] theorem ft_24_0 : ft Tryz.prog 24 0 = some (22, 0) := by kernel_rfl
@[simp] theorem fo_24_1 : fo Tryz.prog 24 1 = some 1 := by kernel_rfl
@[simp] theorem ft_24_1 : ft Tryz.prog 24 1 = some (23, 1) := by kernel_rfl
@[simp] theorem tk_25 : tk Tryz.prog 25 = some (true, 2) := by kernel_rfl
@[simp] theorem places_25 : places Tryz.prog 25 = some [(0, 1), (1, 1)] := by kernel_rfl
@[simp] theorem zvA_25 : zvA Tryz.prog 25 = some [AV.d (D.v (Value.int IntKind.u32 (0))), AV.d (D.v (Value.slice none 0 0))] := by kernel_rfl
@[simp] theorem ar_25 : ar Tryz.prog 25 = none := by kernel_rfl
@[simp] theorem fo_25_0 : fo Tryz.prog 25 0 = some 0 := by kernel_rfl
@[simp] theorem ft_25_0 : ft Tryz.prog 25 0 = some (22, 0) := by kernel_rfl
@[simp] theorem fo_25_1 : fo Tryz.prog 25 1 = some 1 := by kernel_rfl
@[simp] theorem ft_25_1 : ft Tryz.prog 25 1 = some (23, 1) := by kernel_rfl
@[simp] theorem tk_34 : tk Tryz.prog 34 = some (true, 3) := by kernel_rfl
@[simp] theorem places_34 : places Tryz.prog 34 = some [(0, 1), (1, 1), (2, 1)] := by kernel_rfl
@[simp] theorem zvA_34 : zvA Tryz.prog 34 = some [AV.d (D.v (Value.slice none 0 0)), AV.d (D.v (Value.slice none 0 0)), AV.d (D.v (Value.int IntKind.u32 (0)))] := by kernel_rfl
@[simp] theorem ar_34 : ar Tryz.prog 34 = none := by kernel_rfl
@[simp] theorem fo_34_0 : fo Tryz.prog 34 0 = some 0 := by kernel_rfl
@[simp] theorem ft_34_0 : ft Tryz.prog 34 0 = some (32, 0) := by kernel_rfl
@[simp] theorem fo_34_1 : fo Tryz.prog 34 1 = some 1 := by kernel_rfl
@[simp] theorem ft_34_1 : ft Tryz.prog 34 1 = some (33, 1) := by kernel_rfl
@[simp] theorem fo_34_2 : fo Tryz.prog 34 2 = some 2 := by kernel_rfl
@[simp] theorem ft_34_2 : ft Tryz.prog 34 2 = some (22, 2) := by kernel_rfl
@[simp] theorem tk_35 : tk Tryz.prog 35 = some (true, 3) := by kernel_rfl
@[simp] theorem places_35 : places Tryz.prog 35 = some [(0, 1), (1, 1), (2, 1)] := by kernel_rfl
@[simp] theorem zvA_35 : zvA Tryz.prog 35 = some [AV.d (D.v (Value.slice none 0 0)), AV.d (D.v (Value.slice none 0 0)), AV.d (D.v (Value.int IntKind.u32 (0)))] := by kernel_rfl
@[simp] theorem ar_35 : ar Tryz.prog 35 = none := by kernel_rfl
@[simp] theorem fo_35_0 : fo Tryz.prog 35 0 = some 0 := by kernel_rfl
@[simp] theorem ft_35_0 : ft Tryz.prog 35 0 = some (32, 0) := by kernel_rfl
@[simp] theorem fo_35_1 : fo Tryz.prog 35 1 = some 1 := by kernel_rfl
@[simp] theorem ft_35_1 : ft Tryz.prog 35 1 = some (33, 1) := by kernel_rfl
@[simp] theorem fo_35_2 : fo Tryz.prog 35 2 = some 2 := by kernel_rfl
@[simp] theorem ft_35_2 : ft Tryz.prog 35 2 = some (22, 2) := by kernel_rfl
@[simp] theorem tk_39 : tk Tryz.prog 39 = some (true, 3) := by kernel_rfl
@[simp] theorem places_39 : places Tryz.prog 39 = some [(0, 1), (1, 1), (2, 1)] := by kernel_rfl
@[simp] theorem zvA_39 : zvA Tryz.prog 39 = some [AV.d (D.v (Value.int IntKind.i64 (0))), AV.d (D.v (Value.slice none 0 0)), AV.d (D.v (Value.int IntKind.i64 (0)))] := by kernel_rfl
@[simp] theorem ar_39 : ar Tryz.prog 39 = none := by kernel_rfl
@[simp] theorem fo_39_0 : fo Tryz.prog 39 0 = some 0 := by kernel_rfl
@[simp] theorem ft_39_0 : ft Tryz.prog 39 0 = some (28, 0) := by kernel_rfl
@[simp] theorem fo_39_1 : fo Tryz.prog 39 1 = some 1 := by kernel_rfl
@[simp] theorem ft_39_1 : ft Tryz.prog 39 1 = some (36, 1) := by kernel_rfl
@[simp] theorem fo_39_2 : fo Tryz.prog 39 2 = some 2 := by kernel_rfl
@[simp] theorem ft_39_2 : ft Tryz.prog 39 2 = some (3, 2) := by kernel_rfl
@[simp] theorem tk_40 : tk Tryz.prog 40 = some (true, 3) := by kernel_rfl
@[simp] theorem places_40 : places Tryz.prog 40 = some [(0, 1), (1, 1), (2, 1)] := by kernel_rfl
@[simp] theorem zvA_40 : zvA Tryz.prog 40 = some [AV.d (D.v (Value.int IntKind.i64 (0))), AV.d (D.v (Value.slice none 0 0)), AV.d (D.v (Value.int IntKind.i64 (0)))] := by kernel_rfl
@[simp] theorem ar_40 : ar Tryz.prog 40 = none := by kernel_rfl
@[simp] theorem fo_40_0 : fo Tryz.prog 40 0 = some 0 := by kernel_rfl
@[simp] theorem ft_40_0 : ft Tryz.prog 40 0 = some (28, 0) := by kernel_rfl
@[simp] theorem fo_40_1 : fo Tryz.prog 40 1 = some 1 := by kernel_rfl
@[simp] theorem ft_40_1 : ft Tryz.prog 40 1 = some (36, 1) := by kernel_rfl
@[simp] theorem fo_40_2 : fo Tryz.prog 40 2 = some 2 := by kernel_rfl
@[simp] theorem ft_40_2 : ft Tryz.prog 40 2 = some (3, 2) := by kernel_rfl
@[simp] theorem tk_47 : tk Tryz.prog 47 = some (true, 2) := by kernel_rfl
@[simp] theorem places_47 : places Tryz.prog 47 = some [(0, 1), (1, 1)] := by kernel_rfl
@[simp] theorem zvA_47 : zvA Tryz.prog 47 = some [AV.d (D.v (Value.int IntKind.u32 (0))), AV.d (D.v (Value.slice none 0 0))] := by kernel_rfl
@[simp] theorem ar_47 : ar Tryz.prog 47 = none := by kernel_rfl
@[simp] theorem fo_47_0 : fo Tryz.prog 47 0 = some 0 := by kernel_rfl
@[simp] theorem ft_47_0 : ft Tryz.prog 47 0 = some (22, 0) := by kernel_rfl
@[simp] theorem fo_47_1 : fo Tryz.prog 47 1 = some 1 := by kernel_rfl
@[simp] theorem ft_47_1 : ft Tryz.prog 47 1 = some (46, 1) := by kernel_rfl
@[simp] theorem tk_48 : tk Tryz.prog 48 = some (true, 2) := by kernel_rfl
@[simp] theorem places_48 : places Tryz.prog 48 = some [(0, 1), (1, 1)] := by kernel_rfl
@[simp] theorem zvA_48 : zvA Tryz.prog 48 = some [AV.d (D.v (Value.int IntKind.u32 (0))), AV.d (D.v (Value.slice none 0 0))] := by kernel_rfl
@[simp] theorem ar_48 : ar Tryz.prog 48 = none := by kernel_rfl
@[simp] theorem fo_48_0 : fo Tryz.prog 48 0 = some 0 := by kernel_rfl
@[simp] theorem ft_48_0 : ft Tryz.prog 48 0 = some (22, 0) := by kernel_rfl
@[simp] theorem fo_48_1 : fo Tryz.prog 48 1 = some 1 := by kernel_rfl
@[simp] theorem ft_48_1 : ft Tryz.prog 48 1 = some (46, 1) := by kernel_rfl
@[simp] theorem tk_57 : tk Tryz.prog 57 = some (true, 4) := by kernel_rfl
@[simp] theorem places_57 : places Tryz.prog 57 = some [(0, 1), (1, 1), (2, 1), (3, 1)] := by kernel_rfl
@[simp] theorem zvA_57 : zvA Tryz.prog 57 = some [AV.d (D.v (Value.int IntKind.i64 (0))), AV.d (D.v (Value.slice none 0 0)), AV.d (D.v (Value.slice none 0 0)), AV.d (D.v (Value.int IntKind.i64 (0)))] := by kernel_rfl
@[simp] theorem ar_57 : ar Tryz.prog 57 = none := by kernel_rfl
@[simp] theorem fo_57_0 : fo Tryz.prog 57 0 = some 0 := by kernel_rfl
@[simp] theorem ft_57_0 : ft Tryz.prog 57 0 = some (3, 0) := by kernel_rfl
@[simp] theorem fo_57_1 : fo Tryz.prog 57 1 = some 1 := by kernel_rfl
@[simp] theorem ft_57_1 : ft Tryz.prog 57 1 = some (49, 1) := by kernel_rfl
@[simp] theorem fo_57_2 : fo Tryz.prog 57 2 = some 2 := by kernel_rfl
@[simp] theorem ft_57_2 : ft Tryz.prog 57 2 = some (49, 2) := by kernel_rfl
@[simp] theorem fo_57_3 : fo Tryz.prog 57 3 = some 3 := by kernel_rfl
@[simp] theorem ft_57_3 : ft Tryz.prog 57 3 = some (3, 3) := by kernel_rfl
@[simp] theorem tk_58 : tk Tryz.prog 58 = some (true, 4) := by kernel_rfl
@[simp] theorem places_58 : places Tryz.prog 58 = some [(0, 1), (1, 1), (2, 1), (3, 1)] := by kernel_rfl
@[simp] theorem zvA_58 : zvA Tryz.prog 58 = some [AV.d (D.v (Value.int IntKind.i64 (0))), AV.d (D.v (Value.slice none 0 0)), AV.d (D.v (Value.slice none 0 0)), AV.d (D.v (Value.int IntKind.i64 (0)))] := by kernel_rfl
@[simp] theorem ar_58 : ar Tryz.prog 58 = none := by kernel_rfl
@[simp] theorem fo_58_0 : fo Tryz.prog 58 0 = some 0 := by kernel_rfl
@[simp] theorem ft_58_0 : ft Tryz.prog 58 0 = some (3, 0) := by kernel_rfl
@[simp] theorem fo_58_1 : fo Tryz.prog 58 1 = some 1 := by kernel_rfl
@[simp] theorem ft_58_1 : ft Tryz.prog 58 1 = some (49, 1) := by kernel_rfl
@[simp] theorem fo_58_2 : fo Tryz.prog 58 2 = some 2 := by kernel_rfl
@[simp] theorem ft_58_2 : ft Tryz.prog 58 2 = some (49, 2) := by kernel_rfl
@[simp] theorem fo_58_3 : fo Tryz.prog 58 3 = some 3 := by kernel_rfl
@[simp] theorem ft_58_3 : ft Tryz.prog 58 3 = some (3, 3) := by kernel_rfl
@[simp] theorem tk_67 : tk Tryz.prog 67 = some (true, 8) := by kernel_rfl
@[simp] theorem places_67 : places Tryz.prog 67 = some [(0, 1), (1, 1), (2, 1), (3, 1), (4, 1), (5, 1), (6, 1), (7, 1)] := by kernel_rfl
@[simp] theorem zvA_67 : zvA Tryz.prog 67 = some [AV.d (D.v (Value.int IntKind.i64 (0))), AV.d (D.v (Value.int IntKind.i64 (0))), AV.d (D.v (Value.int IntKind.i64 (0))), AV.d (D.v (Value.int IntKind.i64 (0))), AV.d (D.v (Value.int IntKind.i64 (0))), AV.d (D.v (Value.int IntKind.u32 (0))), AV.d (D.v (Value.slice none 0 0)), AV.d (D.v (Value.slice none 0 0))] := by kernel_rfl
@[simp] theorem ar_67 : ar Tryz.prog 67 = none := by kernel_rfl
@[simp] theorem fo_67_0 : fo Tryz.prog 67 0 = some 0 := by kernel_rfl
@[simp] theorem ft_67_0 : ft Tryz.prog 67 0 = some (3, 0) := by kernel_rfl
@[simp] theorem fo_67_1 : fo Tryz.prog 67 1 = some 1 := by kernel_rfl
@[simp] theorem ft_67_1 : ft Tryz.prog 67 1 = some (3, 1) := by kernel_rfl
@[simp] theorem fo_67_2 : fo Tryz.prog 67 2 = some 2 := by kernel_rfl
@[simp] theorem ft_67_2 : ft Tryz.prog 67 2 = some (3, 2) := by kernel_rfl
@[simp] theorem fo_67_3 : fo Tryz.prog 67 3 = some 3 := by kernel_rfl
@[simp] theorem ft_67_3 : ft Tryz.prog 67 3 = some (3, 3) := by kernel_rfl
@[simp] theorem fo_67_4 : fo Tryz.prog 67 4 = some 4 := by kernel_rfl
@[simp] theorem ft_67_4 : ft Tryz.prog 67 4 = some (3, 4) := by kernel_rfl
@[simp] theorem fo_67_5 : fo Tryz.prog 67 5 = some 5 := by kernel_rfl
@[simp] theorem ft_67_5 : ft Tryz.prog 67 5 = some (22, 5) := by kernel_rfl
@[simp] theorem fo_67_6 : fo Tryz.prog 67 6 = some 6 := by kernel_rfl
@[simp] theorem ft_67_6 : ft Tryz.prog 67 6 = some (66, 6) := by kernel_rfl
@[simp] theorem fo_67_7 : fo Tryz.prog 67 7 = some 7 := by kernel_rfl
@[simp] theorem ft_67_7 : ft Tryz.prog 67 7 = some (49, 7) := by kernel_rfl
@[simp] theorem tk_68 : tk Tryz.prog 68 = some (true, 8) := by kernel_rfl
@[simp] theorem places_68 : places Tryz.prog 68 = some [(0, 1), (1, 1), (2, 1), (3, 1), (4, 1), (5, 1), (6, 1), (7, 1)] := by kernel_rfl
@[simp] theorem zvA_68 : zvA Tryz.prog 68 = some [AV.d (D.v (Value.int IntKind.i64 (0))), AV.d (D.v (Value.int IntKind.i64 (0))), AV.d (D.v (Value.int IntKind.i64 (0))), AV.d (D.v (Value.int IntKind.i64 (0))), AV.d (D.v (Value.int IntKind.i64 (0))), AV.d (D.v (Value.int IntKind.u32 (0))), AV.d (D.v (Value.slice none 0 0)), AV.d (D.v (Value.slice none 0 0))] := by kernel_rfl
@[simp] theorem ar_68 : ar Tryz.prog 68 = none := by kernel_rfl
@[simp] theorem fo_68_0 : fo Tryz.prog 68 0 = some 0 := by kernel_rfl
@[simp] theorem ft_68_0 : ft Tryz.prog 68 0 = some (3, 0) := by kernel_rfl
@[simp] theorem fo_68_1 : fo Tryz.prog 68 1 = some 1 := by kernel_rfl
@[simp] theorem ft_68_1 : ft Tryz.prog 68 1 = some (3, 1) := by kernel_rfl
@[simp] theorem fo_68_2 : fo Tryz.prog 68 2 = some 2 := by kernel_rfl
@[simp] theorem ft_68_2 : ft Tryz.prog 68 2 = some (3, 2) := by kernel_rfl
@[simp] theorem fo_68_3 : fo Tryz.prog 68 3 = some 3 := by kernel_rfl
@[simp] theorem ft_68_3 : ft Tryz.prog 68 3 = some (3, 3) := by kernel_rfl
@[simp] theorem fo_68_4 : fo Tryz.prog 68 4 = some 4 := by kernel_rfl
@[simp] theorem ft_68_4 : ft Tryz.prog 68 4 = some (3, 4) := by kernel_rfl
@[simp] theorem fo_68_5 : fo Tryz.prog 68 5 = some 5 := by kernel_rfl
@[simp] theorem ft_68_5 : ft Tryz.prog 68 5 = some (22, 5) := by kernel_rfl
@[simp] theorem fo_68_6 : fo Tryz.prog 68 6 = some 6 := by kernel_rfl
@[simp] theorem ft_68_6 : ft Tryz.prog 68 6 = some (66, 6) := by kernel_rfl
@[simp] theorem fo_68_7 : fo Tryz.prog 68 7 = some 7 := by kernel_rfl
@[simp] theorem ft_68_7 : ft Tryz.prog 68 7 = some (49, 7) := by kernel_rfl
@[simp] theorem tk_89 : tk Tryz.prog 89 = some (true, 21) := by kernel_rfl
@[simp] theorem places_89 : places Tryz.prog 89 = some [(0, 1), (1, 1), (2, 1), (3, 12), (15, 1), (16, 1), (17, 1), (18, 1), (19, 1), (20, 1)] := by kernel_rfl
@[simp] theorem zvA_89 : zvA Tryz.prog 89 = some [AV.d (D.v (Value.slice none 0 0)), AV.d (D.v (Value.map none)), AV.d (D.v (Value.pointer none)), AV.d (D.v (Value.int IntKind.u32 (0))), AV.d (D.v (Value.int IntKind.u32 (0))), AV.d (D.v (Value.int IntKind.u32 (0))), AV.d (D.v (Value.int IntKind.u32 (0))), AV.d (D.v (Value.int IntKind.u32 (0))), AV.d (D.v (Value.int IntKind.u32 (0))), AV.d (D.v (Value.int IntKind.u32 (0))), AV.d (D.v (Value.int IntKind.u32 (0))), AV.d (D.v (Value.int IntKind.u32 (0))), AV.d (D.v (Value.int IntKind.u32 (0))), AV.d (D.v (Value.int IntKind.u32 (0))), AV.d (D.v (Value.int IntKind.u32 (0))), AV.d (D.v (Value.slice none 0 0)), AV.d (D.v (Value.slice none 0 0)), AV.d (D.v (Value.slice none 0 0)), AV.d (D.v (Value.slice none 0 0)), AV.d (D.v (Value.int IntKind.i64 (0))), AV.d (D.v (Value.bool false))] := by kernel_rfl
@[simp] theorem ar_89 : ar Tryz.prog 89 = none := by kernel_rfl
@[simp] theorem fo_89_0 : fo Tryz.prog 89 0 = some 0 := by kernel_rfl
@[simp] theorem ft_89_0 : ft Tryz.prog 89 0 = some (32, 0) := by kernel_rfl
@[simp] theorem fo_89_1 : fo Tryz.prog 89 1 = some 1 := by kernel_rfl
@[simp] theorem ft_89_1 : ft Tryz.prog 89 1 = some (85, 1) := by kernel_rfl
@[simp] theorem fo_89_2 : fo Tryz.prog 89 2 = some 2 := by kernel_rfl
@[simp] theorem ft_89_2 : ft Tryz.prog 89 2 = some (86, 2) := by kernel_rfl
@[simp] theorem fo_89_3 : fo Tryz.prog 89 3 = some 3 := by kernel_rfl
@[simp] theorem ft_89_3 : ft Tryz.prog 89 3 = some (87, 3) := by kernel_rfl
@[simp] theorem fo_89_4 : fo Tryz.prog 89 4 = some 15 := by kernel_rfl
@[simp] theorem ft_89_4 : ft Tryz.prog 89 4 = some (88, 15) := by kernel_rfl
@[simp] theorem fo_89_5 : fo Tryz.prog 89 5 = some 16 := by kernel_rfl
@[simp] theorem ft_89_5 : ft Tryz.prog 89 5 = some (36, 16) := by kernel_rfl
@[simp] theorem fo_89_6 : fo Tryz.prog 89 6 = some 17 := by kernel_rfl
@[simp] theorem ft_89_6 : ft Tryz.prog 89 6 = some (36, 17) := by kernel_rfl
@[simp] theorem fo_89_7 : fo Tryz.prog 89 7 = some 18 := by kernel_rfl
@[simp] theorem ft_89_7 : ft Tryz.prog 89 7 = some (36, 18) := by kernel_rfl
@[simp] theorem fo_89_8 : fo Tryz.prog 89 8 = some 19 := by kernel_rfl
@[simp] theorem ft_89_8 : ft Tryz.prog 89 8 = some (3, 19) := by kernel_rfl
@[simp] theorem fo_89_9 : fo Tryz.prog 89 9 = some 20 := by kernel_rfl
@[simp] theorem ft_89_9 : ft Tryz.prog 89 9 = some (4, 20) := by kernel_rfl
@[simp] theorem tk_90 : tk Tryz.prog 90 = some (true, 21) := by kernel_rfl
@[simp] theorem places_90 : places Tryz.prog 90 = some [(0, 1), (1, 1), (2, 1), (3, 12), (15, 1), (16, 1), (17, 1), (18, 1), (19, 1), (20, 1)] := by kernel_rfl
@[simp] theorem zvA_90 : zvA Tryz.prog 90 = some [AV.d (D.v (Value.slice none 0 0)), AV.d (D.v (Value.map none)), AV.d (D.v (Value.pointer none)), AV.d (D.v (Value.int IntKind.u32 (0))), AV.d (D.v (Value.int IntKind.u32 (0))), AV.d (D.v (Value.int IntKind.u32 (0))), AV.d (D.v (Value.int IntKind.u32 (0))), AV.d (D.v (Value.int IntKind.u32 (0))), AV.d (D.v (Value.int IntKind.u32 (0))), AV.d (D.v (Value.int IntKind.u32 (0))), AV.d (D.v (Value.int IntKind.u32 (0))), AV.d (D.v (Value.int IntKind.u32 (0))), AV.d (D.v (Value.int IntKind.u32 (0))), AV.d (D.v (Value.int IntKind.u32 (0))), AV.d (D.v (Value.int IntKind.u32 (0))), AV.d (D.v (Value.slice none 0 0)), AV.d (D.v (Value.slice none 0 0)), AV.d (D.v (Value.slice none 0 0)), AV.d (D.v (Value.slice none 0 0)), AV.d (D.v (Value.int IntKind.i64 (0))), AV.d (D.v (Value.bool false))] := by kernel_rfl
@[simp] theorem ar_90 : ar Tryz.prog 90 = none := by kernel_rfl
@[simp] theorem fo_90_0 : fo Tryz.prog 90 0 = some 0 := by kernel_rfl
@[simp] theorem ft_90_0 : ft Tryz.prog 90 0 = some (32, 0) := by kernel_rfl
@[simp] theorem fo_90_1 : fo Tryz.prog 90 1 = some 1 := by kernel_rfl
@[simp] theorem ft_90_1 : ft Tryz.prog 90 1 = some (85, 1) := by kernel_rfl
@[simp] theorem fo_90_2 : fo Tryz.prog 90 2 = some 2 := by kernel_rfl
@[simp] theorem ft_90_2 : ft Tryz.prog 90 2 = some (86, 2) := by kernel_rfl
@[simp] theorem fo_90_3 : fo Tryz.prog 90 3 = some 3 := by kernel_rfl
@[simp] theorem ft_90_3 : ft Tryz.prog 90 3 = some (87, 3) := by kernel_rfl
@[simp] theorem fo_90_4 : fo Tryz.prog 90 4 = some 15 := by kernel_rfl
@[simp] theorem ft_90_4 : ft Tryz.prog 90 4 = some (88, 15) := by kernel_rfl
@[simp] theorem fo_90_5 : fo Tryz.prog 90 5 = some 16 := by kernel_rfl
@[simp] theorem ft_90_5 : ft Tryz.prog 90 5 = some (36, 16) := by kernel_rfl
@[simp] theorem fo_90_6 : fo Tryz.prog 90 6 = some 17 := by kernel_rfl
@[simp] theorem ft_90_6 : ft Tryz.prog 90 6 = some (36, 17) := by kernel_rfl
@[simp] theorem fo_90_7 : fo Tryz.prog 90 7 = some 18 := by kernel_rfl
@[simp] theorem ft_90_7 : ft Tryz.prog 90 7 = some (36, 18) := by kernel_rfl
@[simp] theorem fo_90_8 : fo Tryz.prog 90 8 = some 19 := by kernel_rfl
@[simp] theorem ft_90_8 : ft Tryz.prog 90 8 = some (3, 19) := by kernel_rfl
@[simp] theorem fo_90_9 : fo Tryz.prog 90 9 = some 20 := by kernel_rfl
@[simp] theorem ft_90_9 : ft Tryz.prog 90 9 = some (4, 20) := by kernel_rfl
@[simp] theorem tk_93 : tk Tryz.prog 93 = some (true, 5) := by kernel_rfl
@[simp] theorem places_93 : places Tryz.prog 93 = some [(0, 1), (1, 1), (2, 1), (3, 1), (4, 1)] := by kernel_rfl
@[simp] theorem zvA_93 : zvA Tryz.prog 93 = some [AV.d (D.v (Value.int IntKind.i64 (0))), AV.d (D.v (Value.int IntKind.u32 (0))), AV.d (D.v (Value.int IntKind.i64 (0))), AV.d (D.v (Value.int IntKind.i64 (0))), AV.d (D.v (Value.slice none 0 0))] := by kernel_rfl
@[simp] theorem ar_93 : ar Tryz.prog 93 = none := by kernel_rfl
@[simp] theorem fo_93_0 : fo Tryz.prog 93 0 = some 0 := by kernel_rfl
@[simp] theorem ft_93_0 : ft Tryz.prog 93 0 = some (3, 0) := by kernel_rfl
@[simp] theorem fo_93_1 : fo Tryz.prog 93 1 = some 1 := by kernel_rfl
@[simp] theorem ft_93_1 : ft Tryz.prog 93 1 = some (22, 1) := by kernel_rfl
@[simp] theorem fo_93_2 : fo Tryz.prog 93 2 = some 2 := by kernel_rfl
@[simp] theorem ft_93_2 : ft Tryz.prog 93 2 = some (3, 2) := by kernel_rfl
@[simp] theorem fo_93_3 : fo Tryz.prog 93 3 = some 3 := by kernel_rfl
@[simp] theorem ft_93_3 : ft Tryz.prog 93 3 = some (3, 3) := by kernel_rfl
@[simp] theorem fo_93_4 : fo Tryz.prog 93 4 = some 4 := by kernel_rfl
@[simp] theorem ft_93_4 : ft Tryz.prog 93 4 = some (66, 4) := by kernel_rfl
@[simp] theorem tk_94 : tk Tryz.prog 94 = some (true, 5) := by kernel_rfl
@[simp] theorem places_94 : places Tryz.prog 94 = some [(0, 1), (1, 1), (2, 1), (3, 1), (4, 1)] := by kernel_rfl
@[simp] theorem zvA_94 : zvA Tryz.prog 94 = some [AV.d (D.v (Value.int IntKind.i64 (0))), AV.d (D.v (Value.int IntKind.u32 (0))), AV.d (D.v (Value.int IntKind.i64 (0))), AV.d (D.v (Value.int IntKind.i64 (0))), AV.d (D.v (Value.slice none 0 0))] := by kernel_rfl
@[simp] theorem ar_94 : ar Tryz.prog 94 = none := by kernel_rfl
@[simp] theorem fo_94_0 : fo Tryz.prog 94 0 = some 0 := by kernel_rfl
@[simp] theorem ft_94_0 : ft Tryz.prog 94 0 = some (3, 0) := by kernel_rfl
@[simp] theorem fo_94_1 : fo Tryz.prog 94 1 = some 1 := by kernel_rfl
@[simp] theorem ft_94_1 : ft Tryz.prog 94 1 = some (22, 1) := by kernel_rfl
@[simp] theorem fo_94_2 : fo Tryz.prog 94 2 = some 2 := by kernel_rfl
@[simp] theorem ft_94_2 : ft Tryz.prog 94 2 = some (3, 2) := by kernel_rfl
@[simp] theorem fo_94_3 : fo Tryz.prog 94 3 = some 3 := by kernel_rfl
@[simp] theorem ft_94_3 : ft Tryz.prog 94 3 = some (3, 3) := by kernel_rfl
@[simp] theorem fo_94_4 : fo Tryz.prog 94 4 = some 4 := by kernel_rfl
@[simp] theorem ft_94_4 : ft Tryz.prog 94 4 = some (66, 4) := by kernel_rfl
@[simp] theorem tk_115 : tk Tryz.prog 115 = some (true, 5) := by kernel_rfl
@[simp] theorem places_115 : places Tryz.prog 115 = some [(0, 1), (1, 1), (2, 1), (3, 1), (4, 1)] := by kernel_rfl
@[simp] theorem zvA_115 : zvA Tryz.prog 115 = some [AV.d (D.v (Value.string { data := #[] })), AV.d (D.v (Value.int IntKind.u32 (0))), AV.d (D.v (Value.slice none 0 0)), AV.d (D.v (Value.bool false)), AV.d (D.v (Value.bool false))] := by kernel_rfl
@[simp] theorem ar_115 : ar Tryz.prog 115 = none := by kernel_rfl
@[simp] theorem fo_115_0 : fo Tryz.prog 115 0 = some 0 := by kernel_rfl
@[simp] theorem ft_115_0 : ft Tryz.prog 115 0 = some (9, 0) := by kernel_rfl
@[simp] theorem fo_115_1 : fo Tryz.prog 115 1 = some 1 := by kernel_rfl
@[simp] theorem ft_115_1 : ft Tryz.prog 115 1 = some (22, 1) := by kernel_rfl
@[simp] theorem fo_115_2 : fo Tryz.prog 115 2 = some 2 := by kernel_rfl
@[simp] theorem ft_115_2 : ft Tryz.prog 115 2 = some (114, 2) := by kernel_rfl
@[simp] theorem fo_115_3 : fo Tryz.prog 115 3 = some 3 := by kernel_rfl
@[simp] theorem ft_115_3 : ft Tryz.prog 115 3 = some (4, 3) := by kernel_rfl
@[simp] theorem fo_115_4 : fo Tryz.prog 115 4 = some 4 := by kernel_rfl
@[simp] theorem ft_115_4 : ft Tryz.prog 115 4 = some (4, 4) := by kernel_rfl
@[simp] theorem tk_116 : tk Tryz.prog 116 = some (true, 5) := by kernel_rfl
@[simp] theorem places_116 : places Tryz.prog 116 = some [(0, 1), (1, 1), (2, 1), (3, 1), (4, 1)] := by kernel_rfl
@[simp] theorem zvA_116 : zvA Tryz.prog 116 = some [AV.d (D.v (Value.string { data := #[] })), AV.d (D.v (Value.int IntKind.u32 (0))), AV.d (D.v (Value.slice none 0 0)), AV.d (D.v (Value.bool false)), AV.d (D.v (Value.bool false))] := by kernel_rfl
@[simp] theorem ar_116 : ar Tryz.prog 116 = none := by kernel_rfl
@[simp] theorem fo_116_0 : fo Tryz.prog 116 0 = some 0 := by kernel_rfl
@[simp] theorem ft_116_0 : ft Tryz.prog 116 0 = some (9, 0) := by kernel_rfl
@[simp] theorem fo_116_1 : fo Tryz.prog 116 1 = some 1 := by kernel_rfl
@[simp] theorem ft_116_1 : ft Tryz.prog 116 1 = some (22, 1) := by kernel_rfl
@[simp] theorem fo_116_2 : fo Tryz.prog 116 2 = some 2 := by kernel_rfl
@[simp] theorem ft_116_2 : ft Tryz.prog 116 2 = some (114, 2) := by kernel_rfl
@[simp] theorem fo_116_3 : fo Tryz.prog 116 3 = some 3 := by kernel_rfl
@[simp] theorem ft_116_3 : ft Tryz.prog 116 3 = some (4, 3) := by kernel_rfl
@[simp] theorem fo_116_4 : fo Tryz.prog 116 4 = some 4 := by kernel_rfl
@[simp] theorem ft_116_4 : ft Tryz.prog 116 4 = some (4, 4) := by kernel_rfl
@[simp] theorem tk_122 : tk Tryz.prog 122 = some (true, 2) := by kernel_rfl
@[simp] theorem places_122 : places Tryz.prog 122 = some [(0, 1), (1, 1)] := by kernel_rfl
@[simp] theorem zvA_122 : zvA Tryz.prog 122 = some [AV.d (D.v (Value.int IntKind.u32 (0))), AV.d (D.v (Value.int IntKind.u32 (0)))] := by kernel_rfl
@[simp] theorem ar_122 : ar Tryz.prog 122 = none := by kernel_rfl
@[simp] theorem fo_122_0 : fo Tryz.prog 122 0 = some 0 := by kernel_rfl
@[simp] theorem ft_122_0 : ft Tryz.prog 122 0 = some (22, 0) := by kernel_rfl
@[simp] theorem fo_122_1 : fo Tryz.prog 122 1 = some 1 := by kernel_rfl
@[simp] theorem ft_122_1 : ft Tryz.prog 122 1 = some (22, 1) := by kernel_rfl
@[simp] theorem tk_123 : tk Tryz.prog 123 = some (true, 2) := by kernel_rfl
@[simp] theorem places_123 : places Tryz.prog 123 = some [(0, 1), (1, 1)] := by kernel_rfl
@[simp] theorem zvA_123 : zvA Tryz.prog 123 = some [AV.d (D.v (Value.int IntKind.u32 (0))), AV.d (D.v (Value.int IntKind.u32 (0)))] := by kernel_rfl
@[simp] theorem ar_123 : ar Tryz.prog 123 = none := by kernel_rfl
@[simp] theorem fo_123_0 : fo Tryz.prog 123 0 = some 0 := by kernel_rfl
@[simp] theorem ft_123_0 : ft Tryz.prog 123 0 = some (22, 0) := by kernel_rfl
@[simp] theorem fo_123_1 : fo Tryz.prog 123 1 = some 1 := by kernel_rfl
@[simp] theorem ft_123_1 : ft Tryz.prog 123 1 = some (22, 1) := by kernel_rfl
@[simp] theorem tk_134 : tk Tryz.prog 134 = some (true, 1) := by kernel_rfl
@[simp] theorem places_134 : places Tryz.prog 134 = some [(0, 1)] := by kernel_rfl
@[simp] theorem zvA_134 : zvA Tryz.prog 134 = some [AV.d (D.v (Value.slice none 0 0))] := by kernel_rfl
@[simp] theorem ar_134 : ar Tryz.prog 134 = none := by kernel_rfl
@[simp] theorem fo_134_0 : fo Tryz.prog 134 0 = some 0 := by kernel_rfl
@[simp] theorem ft_134_0 : ft Tryz.prog 134 0 = some (36, 0) := by kernel_rfl
@[simp] theorem tk_135 : tk Tryz.prog 135 = some (true, 1) := by kernel_rfl
@[simp] theorem places_135 : places Tryz.prog 135 = some [(0, 1)] := by kernel_rfl
@[simp] theorem zvA_135 : zvA Tryz.prog 135 = some [AV.d (D.v (Value.slice none 0 0))] := by kernel_rfl
@[simp] theorem ar_135 : ar Tryz.prog 135 = none := by kernel_rfl
@[simp] theorem fo_135_0 : fo Tryz.prog 135 0 = some 0 := by kernel_rfl
@[simp] theorem ft_135_0 : ft Tryz.prog 135 0 = some (36, 0) := by kernel_rfl
@[simp] theorem tk_138 : tk Tryz.prog 138 = some (true, 4) := by kernel_rfl
@[simp] theorem places_138 : places Tryz.prog 138 = some [(0, 1), (1, 1), (2, 1), (3, 1)] := by kernel_rfl
@[simp] theorem zvA_138 : zvA Tryz.prog 138 = some [AV.d (D.v (Value.int IntKind.i64 (0))), AV.d (D.v (Value.int IntKind.i64 (0))), AV.d (D.v (Value.int IntKind.i64 (0))), AV.d (D.v (Value.map none))] := by kernel_rfl
@[simp] theorem ar_138 : ar Tryz.prog 138 = none := by kernel_rfl
@[simp] theorem fo_138_0 : fo Tryz.prog 138 0 = some 0 := by kernel_rfl
@[simp] theorem ft_138_0 : ft Tryz.prog 138 0 = some (3, 0) := by kernel_rfl
@[simp] theorem fo_138_1 : fo Tryz.prog 138 1 = some 1 := by kernel_rfl
@[simp] theorem ft_138_1 : ft Tryz.prog 138 1 = some (3, 1) := by kernel_rfl
@[simp] theorem fo_138_2 : fo Tryz.prog 138 2 = some 2 := by kernel_rfl
@[simp] theorem ft_138_2 : ft Tryz.prog 138 2 = some (3, 2) := by kernel_rfl
@[simp] theorem fo_138_3 : fo Tryz.prog 138 3 = some 3 := by kernel_rfl
@[simp] theorem ft_138_3 : ft Tryz.prog 138 3 = some (137, 3) := by kernel_rfl
@[simp] theorem tk_139 : tk Tryz.prog 139 = some (true, 4) := by kernel_rfl
@[simp] theorem places_139 : places Tryz.prog 139 = some [(0, 1), (1, 1), (2, 1), (3, 1)] := by kernel_rfl
@[simp] theorem zvA_139 : zvA Tryz.prog 139 = some [AV.d (D.v (Value.int IntKind.i64 (0))), AV.d (D.v (Value.int IntKind.i64 (0))), AV.d (D.v (Value.int IntKind.i64 (0))), AV.d (D.v (Value.map none))] := by kernel_rfl
@[simp] theorem ar_139 : ar Tryz.prog 139 = none := by kernel_rfl
@[simp] theorem fo_139_0 : fo Tryz.prog 139 0 = some 0 := by kernel_rfl
@[simp] theorem ft_139_0 : ft Tryz.prog 139 0 = some (3, 0) := by kernel_rfl
@[simp] theorem fo_139_1 : fo Tryz.prog 139 1 = some 1 := by kernel_rfl
@[simp] theorem ft_139_1 : ft Tryz.prog 139 1 = some (3, 1) := by kernel_rfl
@[simp] theorem fo_139_2 : fo Tryz.prog 139 2 = some 2 := by kernel_rfl
@[simp] theorem ft_139_2 : ft Tryz.prog 139 2 = some (3, 2) := by kernel_rfl
@[simp] theorem fo_139_3 : fo Tryz.prog 139 3 = some 3 := by kernel_rfl
@[simp] theorem ft_139_3 : ft Tryz.prog 139 3 = some (137, 3) := by kernel_rfl
@[simp] theorem tk_157 : tk Tryz.prog 157 = some (true, 2) := by kernel_rfl
@[simp] theorem places_157 : places Tryz.prog 157 = some [(0, 1), (1, 1)] := by kernel_rfl
@[simp] theorem zvA_157 : zvA Tryz.prog 157 = some [AV.d (D.v (Value.slice none 0 0)), AV.d (D.v (Value.slice none 0 0))] := by kernel_rfl
@[simp] theorem ar_157 : ar Tryz.prog 157 = none := by kernel_rfl
@[simp] theorem fo_157_0 : fo Tryz.prog 157 0 = some 0 := by kernel_rfl
@[simp] theorem ft_157_0 : ft Tryz.prog 157 0 = some (49, 0) := by kernel_rfl
@[simp] theorem fo_157_1 : fo Tryz.prog 157 1 = some 1 := by kernel_rfl
@[simp] theorem ft_157_1 : ft Tryz.prog 157 1 = some (49, 1) := by kernel_rfl
@[simp] theorem tk_158 : tk Tryz.prog 158 = some (true, 2) := by kernel_rfl
@[simp] theorem places_158 : places Tryz.prog 158 = some [(0, 1), (1, 1)] := by kernel_rfl
@[simp] theorem zvA_158 : zvA Tryz.prog 158 = some [AV.d (D.v (Value.slice none 0 0)), AV.d (D.v (Value.slice none 0 0))] := by kernel_rfl
@[simp] theorem ar_158 : ar Tryz.prog 158 = none := by kernel_rfl
@[simp] theorem fo_158_0 : fo Tryz.prog 158 0 = some 0 := by kernel_rfl
@[simp] theorem ft_158_0 : ft Tryz.prog 158 0 = some (49, 0) := by kernel_rfl
@[simp] theorem fo_158_1 : fo Tryz.prog 158 1 = some 1 := by kernel_rfl
@[simp] theorem ft_158_1 : ft Tryz.prog 158 1 = some (49, 1) := by kernel_rfl
@[simp] theorem tk_166 : tk Tryz.prog 166 = some (true, 2) := by kernel_rfl
@[simp] theorem places_166 : places Tryz.prog 166 = some [(0, 1), (1, 1)] := by kernel_rfl
@[simp] theorem zvA_166 : zvA Tryz.prog 166 = some [AV.d (D.v (Value.slice none 0 0)), AV.d (D.v (Value.map none))] := by kernel_rfl
@[simp] theorem ar_166 : ar Tryz.prog 166 = none := by kernel_rfl
@[simp] theorem fo_166_0 : fo Tryz.prog 166 0 = some 0 := by kernel_rfl
@[simp] theorem ft_166_0 : ft Tryz.prog 166 0 = some (165, 0) := by kernel_rfl
@[simp] theorem fo_166_1 : fo Tryz.prog 166 1 = some 1 := by kernel_rfl
@[simp] theorem ft_166_1 : ft Tryz.prog 166 1 = some (164, 1) := by kernel_rfl
@[simp] theorem tk_167 : tk Tryz.prog 167 = some (true, 2) := by kernel_rfl
@[simp] theorem places_167 : places Tryz.prog 167 = some [(0, 1), (1, 1)] := by kernel_rfl
@[simp] theorem zvA_167 : zvA Tryz.prog 167 = some [AV.d (D.v (Value.slice none 0 0)), AV.d (D.v (Value.map none))] := by kernel_rfl
@[simp] theorem ar_167 : ar Tryz.prog 167 = none := by kernel_rfl
@[simp] theorem fo_167_0 : fo Tryz.prog 167 0 = some 0 := by kernel_rfl
@[simp] theorem ft_167_0 : ft Tryz.prog 167 0 = some (165, 0) := by kernel_rfl
@[simp] theorem fo_167_1 : fo Tryz.prog 167 1 = some 1 := by kernel_rfl
@[simp] theorem ft_167_1 : ft Tryz.prog 167 1 = some (164, 1) := by kernel_rfl
@[simp] theorem tk_169 : tk Tryz.prog 169 = some (true, 2) := by kernel_rfl
@[simp] theorem places_169 : places Tryz.prog 169 = some [(0, 1), (1, 1)] := by kernel_rfl
@[simp] theorem zvA_169 : zvA Tryz.prog 169 = some [AV.d (D.v (Value.bool false)), AV.d (D.v (Value.bool false))] := by kernel_rfl
@[simp] theorem ar_169 : ar Tryz.prog 169 = none := by kernel_rfl
@[simp] theorem fo_169_0 : fo Tryz.prog 169 0 = some 0 := by kernel_rfl
@[simp] theorem ft_169_0 : ft Tryz.prog 169 0 = some (4, 0) := by kernel_rfl
@[simp] theorem fo_169_1 : fo Tryz.prog 169 1 = some 1 := by kernel_rfl
@[simp] theorem ft_169_1 : ft Tryz.prog 169 1 = some (4, 1) := by kernel_rfl
@[simp] theorem tk_170 : tk Tryz.prog 170 = some (true, 2) := by kernel_rfl
@[simp] theorem places_170 : places Tryz.prog 170 = some [(0, 1), (1, 1)] := by kernel_rfl
@[simp] theorem zvA_170 : zvA Tryz.prog 170 = some [AV.d (D.v (Value.bool false)), AV.d (D.v (Value.bool false))] := by kernel_rfl
@[simp] theorem ar_170 : ar Tryz.prog 170 = none := by kernel_rfl
@[simp] theorem fo_170_0 : fo Tryz.prog 170 0 = some 0 := by kernel_rfl
@[simp] theorem ft_170_0 : ft Tryz.prog 170 0 = some (4, 0) := by kernel_rfl
@[simp] theorem fo_170_1 : fo Tryz.prog 170 1 = some 1 := by kernel_rfl
@[simp] theorem ft_170_1 : ft Tryz.prog 170 1 = some (4, 1) := by kernel_rfl
@[simp] theorem tk_171 : tk Tryz.prog 171 = some (true, 4) := by kernel_rfl
@[simp] theorem places_171 : places Tryz.prog 171 = some [(0, 1), (1, 1), (2, 2)] := by kernel_rfl
@[simp] theorem zvA_171 : zvA Tryz.prog 171 = some [AV.d (D.v (Value.int IntKind.u64 (0))), AV.d (D.v (Value.slice none 0 0)), AV.d (D.v (Value.bool false)), AV.d (D.v (Value.bool false))] := by kernel_rfl
@[simp] theorem ar_171 : ar Tryz.prog 171 = none := by kernel_rfl
@[simp] theorem fo_171_0 : fo Tryz.prog 171 0 = some 0 := by kernel_rfl
@[simp] theorem ft_171_0 : ft Tryz.prog 171 0 = some (120, 0) := by kernel_rfl
@[simp] theorem fo_171_1 : fo Tryz.prog 171 1 = some 1 := by kernel_rfl
@[simp] theorem ft_171_1 : ft Tryz.prog 171 1 = some (114, 1) := by kernel_rfl
@[simp] theorem fo_171_2 : fo Tryz.prog 171 2 = some 2 := by kernel_rfl
@[simp] theorem ft_171_2 : ft Tryz.prog 171 2 = some (170, 2) := by kernel_rfl
@[simp] theorem tk_172 : tk Tryz.prog 172 = some (true, 4) := by kernel_rfl
@[simp] theorem places_172 : places Tryz.prog 172 = some [(0, 1), (1, 1), (2, 2)] := by kernel_rfl
@[simp] theorem zvA_172 : zvA Tryz.prog 172 = some [AV.d (D.v (Value.int IntKind.u64 (0))), AV.d (D.v (Value.slice none 0 0)), AV.d (D.v (Value.bool false)), AV.d (D.v (Value.bool false))] := by kernel_rfl
@[simp] theorem ar_172 : ar Tryz.prog 172 = none := by kernel_rfl
@[simp] theorem fo_172_0 : fo Tryz.prog 172 0 = some 0 := by kernel_rfl
@[simp] theorem ft_172_0 : ft Tryz.prog 172 0 = some (120, 0) := by kernel_rfl
@[simp] theorem fo_172_1 : fo Tryz.prog 172 1 = some 1 := by kernel_rfl
@[simp] theorem ft_172_1 : ft Tryz.prog 172 1 = some (114, 1) := by kernel_rfl
@[simp] theorem fo_172_2 : fo Tryz.prog 172 2 = some 2 := by kernel_rfl
@[simp] theorem ft_172_2 : ft Tryz.prog 172 2 = some (170, 2) := by kernel_rfl
@[simp] theorem tk_225 : tk Tryz.prog 225 = some (true, 4) := by kernel_rfl
@[simp] theorem places_225 : places Tryz.prog 225 = some [(0, 1), (1, 1), (2, 1), (3, 1)] := by kernel_rfl
@[simp] theorem zvA_225 : zvA Tryz.prog 225 = some [AV.d (D.v (Value.pointer none)), AV.d (D.v (Value.pointer none)), AV.d (D.v (Value.pointer none)), AV.d (D.v (Value.string { data := #[] }))] := by kernel_rfl
@[simp] theorem ar_225 : ar Tryz.prog 225 = none := by kernel_rfl
@[simp] theorem fo_225_0 : fo Tryz.prog 225 0 = some 0 := by kernel_rfl
@[simp] theorem ft_225_0 : ft Tryz.prog 225 0 = some (17, 0) := by kernel_rfl
@[simp] theorem fo_225_1 : fo Tryz.prog 225 1 = some 1 := by kernel_rfl
@[simp] theorem ft_225_1 : ft Tryz.prog 225 1 = some (17, 1) := by kernel_rfl
@[simp] theorem fo_225_2 : fo Tryz.prog 225 2 = some 2 := by kernel_rfl
@[simp] theorem ft_225_2 : ft Tryz.prog 225 2 = some (17, 2) := by kernel_rfl
@[simp] theorem fo_225_3 : fo Tryz.prog 225 3 = some 3 := by kernel_rfl
@[simp] theorem ft_225_3 : ft Tryz.prog 225 3 = some (9, 3) := by kernel_rfl
@[simp] theorem tk_226 : tk Tryz.prog 226 = some (true, 4) := by kernel_rfl
@[simp] theorem places_226 : places Tryz.prog 226 = some [(0, 1), (1, 1), (2, 1), (3, 1)] := by kernel_rfl
@[simp] theorem zvA_226 : zvA Tryz.prog 226 = some [AV.d (D.v (Value.pointer none)), AV.d (D.v (Value.pointer none)), AV.d (D.v (Value.pointer none)), AV.d (D.v (Value.string { data := #[] }))] := by kernel_rfl
@[simp] theorem ar_226 : ar Tryz.prog 226 = none := by kernel_rfl
@[simp] theorem fo_226_0 : fo Tryz.prog 226 0 = some 0 := by kernel_rfl
@[simp] theorem ft_226_0 : ft Tryz.prog 226 0 = some (17, 0) := by kernel_rfl
@[simp] theorem fo_226_1 : fo Tryz.prog 226 1 = some 1 := by kernel_rfl
@[simp] theorem ft_226_1 : ft Tryz.prog 226 1 = some (17, 1) := by kernel_rfl
@[simp] theorem fo_226_2 : fo Tryz.prog 226 2 = some 2 := by kernel_rfl
@[simp] theorem ft_226_2 : ft Tryz.prog 226 2 = some (17, 2) := by kernel_rfl
@[simp] theorem fo_226_3 : fo Tryz.prog 226 3 = some 3 := by kernel_rfl
@[simp] theorem ft_226_3 : ft Tryz.prog 226 3 = some (9, 3) := by kernel_rfl
@[simp] theorem tk_228 : tk Tryz.prog 228 = some (true, 0) := by kernel_rfl
@[simp] theorem places_228 : places Tryz.prog 228 = some [(0, 0)] := by kernel_rfl
@[simp] theorem zvA_228 : zvA Tryz.prog 228 = some [] := by kernel_rfl
@[simp] theorem ar_228 : ar Tryz.prog 228 = none := by kernel_rfl
@[simp] theorem ft_228_0 : ft Tryz.prog 228 0 = some (227, 0) := by kernel_rfl
@[simp] theorem tk_229 : tk Tryz.prog 229 = some (true, 0) := by kernel_rfl
@[simp] theorem places_229 : places Tryz.prog 229 = some [(0, 0)] := by kernel_rfl
@[simp] theorem zvA_229 : zvA Tryz.prog 229 = some [] := by kernel_rfl
@[simp] theorem ar_229 : ar Tryz.prog 229 = none := by kernel_rfl
@[simp] theorem ft_229_0 : ft Tryz.prog 229 0 = some (227, 0) := by kernel_rfl
@[simp] theorem tk_237 : tk Tryz.prog 237 = some (true, 11) := by kernel_rfl
@[simp] theorem places_237 : places Tryz.prog 237 = some [(0, 1), (1, 1), (2, 1), (3, 1), (4, 1), (5, 1), (6, 1), (7, 1), (8, 1), (9, 1), (10, 1)] := by kernel_rfl
@[simp] theorem zvA_237 : zvA Tryz.prog 237 = some [AV.d (D.v (Value.int IntKind.u64 (0))), AV.d (D.v (Value.int IntKind.u64 (0))), AV.d (D.v (Value.int IntKind.u32 (0))), AV.d (D.v (Value.int IntKind.u8 (0))), AV.d (D.v (Value.int IntKind.u8 (0))), AV.d (D.v (Value.int IntKind.u8 (0))), AV.d (D.v (Value.int IntKind.u8 (0))), AV.d (D.v Value.nilFunc), AV.d (D.v (Value.pointer none)), AV.d (D.v (Value.int IntKind.i32 (0))), AV.d (D.v (Value.int IntKind.i32 (0)))] := by kernel_rfl
@[simp] theorem ar_237 : ar Tryz.prog 237 = none := by kernel_rfl
@[simp] theorem fo_237_0 : fo Tryz.prog 237 0 = some 0 := by kernel_rfl
@[simp] theorem ft_237_0 : ft Tryz.prog 237 0 = some (12, 0) := by kernel_rfl
@[simp] theorem fo_237_1 : fo Tryz.prog 237 1 = some 1 := by kernel_rfl
@[simp] theorem ft_237_1 : ft Tryz.prog 237 1 = some (12, 1) := by kernel_rfl
@[simp] theorem fo_237_2 : fo Tryz.prog 237 2 = some 2 := by kernel_rfl
@[simp] theorem ft_237_2 : ft Tryz.prog 237 2 = some (22, 2) := by kernel_rfl
@[simp] theorem fo_237_3 : fo Tryz.prog 237 3 = some 3 := by kernel_rfl
@[simp] theorem ft_237_3 : ft Tryz.prog 237 3 = some (231, 3) := by kernel_rfl
@[simp] theorem fo_237_4 : fo Tryz.prog 237 4 = some 4 := by kernel_rfl
@[simp] theorem ft_237_4 : ft Tryz.prog 237 4 = some (5, 4) := by kernel_rfl
@[simp] theorem fo_237_5 : fo Tryz.prog 237 5 = some 5 := by kernel_rfl
@[simp] theorem ft_237_5 : ft Tryz.prog 237 5 = some (5, 5) := by kernel_rfl
@[simp] theorem fo_237_6 : fo Tryz.prog 237 6 = some 6 := by kernel_rfl
@[simp] theorem ft_237_6 : ft Tryz.prog 237 6 = some (232, 6) := by kernel_rfl
@[simp] theorem fo_237_7 : fo Tryz.prog 237 7 = some 7 := by kernel_rfl
@[simp] theorem ft_237_7 : ft Tryz.prog 237 7 = some (233, 7) := by kernel_rfl
@[simp] theorem fo_237_8 : fo Tryz.prog 237 8 = some 8 := by kernel_rfl
@[simp] theorem ft_237_8 : ft Tryz.prog 237 8 = some (234, 8) := by kernel_rfl
@[simp] theorem fo_237_9 : fo Tryz.prog 237 9 = some 9 := by kernel_rfl
@[simp] theorem ft_237_9 : ft Tryz.prog 237 9 = some (235, 9) := by kernel_rfl
@[simp] theorem fo_237_10 : fo Tryz.prog 237 10 = some 10 := by kernel_rfl
@[simp] theorem ft_237_10 : ft Tryz.prog 237 10 = some (236, 10) := by kernel_rfl
@[simp] theorem tk_238 : tk Tryz.prog 238 = some (true, 11) := by kernel_rfl
@[simp] theorem places_238 : places Tryz.prog 238 = some [(0, 1), (1, 1), (2, 1), (3, 1), (4, 1), (5, 1), (6, 1), (7, 1), (8, 1), (9, 1), (10, 1)] := by kernel_rfl
@[simp] theorem zvA_238 : zvA Tryz.prog 238 = some [AV.d (D.v (Value.int IntKind.u64 (0))), AV.d (D.v (Value.int IntKind.u64 (0))), AV.d (D.v (Value.int IntKind.u32 (0))), AV.d (D.v (Value.int IntKind.u8 (0))), AV.d (D.v (Value.int IntKind.u8 (0))), AV.d (D.v (Value.int IntKind.u8 (0))), AV.d (D.v (Value.int IntKind.u8 (0))), AV.d (D.v Value.nilFunc), AV.d (D.v (Value.pointer none)), AV.d (D.v (Value.int IntKind.i32 (0))), AV.d (D.v (Value.int IntKind.i32 (0)))] := by kernel_rfl
@[simp] theorem ar_238 : ar Tryz.prog 238 = none := by kernel_rfl
@[simp] theorem fo_238_0 : fo Tryz.prog 238 0 = some 0 := by kernel_rfl
@[simp] theorem ft_238_0 : ft Tryz.prog 238 0 = some (12, 0) := by kernel_rfl
@[simp] theorem fo_238_1 : fo Tryz.prog 238 1 = some 1 := by kernel_rfl
@[simp] theorem ft_238_1 : ft Tryz.prog 238 1 = some (12, 1) := by kernel_rfl
@[simp] theorem fo_238_2 : fo Tryz.prog 238 2 = some 2 := by kernel_rfl
@[simp] theorem ft_238_2 : ft Tryz.prog 238 2 = some (22, 2) := by kernel_rfl
@[simp] theorem fo_238_3 : fo Tryz.prog 238 3 = some 3 := by kernel_rfl
@[simp] theorem ft_238_3 : ft Tryz.prog 238 3 = some (231, 3) := by kernel_rfl
@[simp] theorem fo_238_4 : fo Tryz.prog 238 4 = some 4 := by kernel_rfl
@[simp] theorem ft_238_4 : ft Tryz.prog 238 4 = some (5, 4) := by kernel_rfl
@[simp] theorem fo_238_5 : fo Tryz.prog 238 5 = some 5 := by kernel_rfl
@[simp] theorem ft_238_5 : ft Tryz.prog 238 5 = some (5, 5) := by kernel_rfl
@[simp] theorem fo_238_6 : fo Tryz.prog 238 6 = some 6 := by kernel_rfl
@[simp] theorem ft_238_6 : ft Tryz.prog 238 6 = some (232, 6) := by kernel_rfl
@[simp] theorem fo_238_7 : fo Tryz.prog 238 7 = some 7 := by kernel_rfl
@[simp] theorem ft_238_7 : ft Tryz.prog 238 7 = some (233, 7) := by kernel_rfl
@[simp] theorem fo_238_8 : fo Tryz.prog 238 8 = some 8 := by kernel_rfl
@[simp] theorem ft_238_8 : ft Tryz.prog 238 8 = some (234, 8) := by kernel_rfl
@[simp] theorem fo_238_9 : fo Tryz.prog 238 9 = some 9 := by kernel_rfl
@[simp] theorem ft_238_9 : ft Tryz.prog 238 9 = some (235, 9) := by kernel_rfl
@[simp] theorem fo_238_10 : fo Tryz.prog 238 10 = some 10 := by kernel_rfl
@[simp] theorem ft_238_10 : ft Tryz.prog 238 10 = some (236, 10) := by kernel_rfl
@[simp] theorem tk_56 : tk Tryz.prog 56 = some (true, 2) := by kernel_rfl
@[simp] theorem places_56 : places Tryz.prog 56 = none := by kernel_rfl
@[simp] theorem zvA_56 : zvA Tryz.prog 56 = some [AV.d (D.v (Value.int IntKind.i64 (0))), AV.d (D.v (Value.int IntKind.i64 (0)))] := by kernel_rfl
@[simp] theorem ar_56 : ar Tryz.prog 56 = some (2, 3, 1) := by kernel_rfl
@[simp] theorem tk_87 : tk Tryz.prog 87 = some (true, 12) := by kernel_rfl
@[simp] theorem places_87 : places Tryz.prog 87 = none := by kernel_rfl
@[simp] theorem zvA_87 : zvA Tryz.prog 87 = some [AV.d (D.v (Value.int IntKind.u32 (0))), AV.d (D.v (Value.int IntKind.u32 (0))), AV.d (D.v (Value.int IntKind.u32 (0))), AV.d (D.v (Value.int IntKind.u32 (0))), AV.d (D.v (Value.int IntKind.u32 (0))), AV.d (D.v (Value.int IntKind.u32 (0))), AV.d (D.v (Value.int IntKind.u32 (0))), AV.d (D.v (Value.int IntKind.u32 (0))), AV.d (D.v (Value.int IntKind.u32 (0))), AV.d (D.v (Value.int IntKind.u32 (0))), AV.d (D.v (Value.int IntKind.u32 (0))), AV.d (D.v (Value.int IntKind.u32 (0)))] := by kernel_rfl
@[simp] theorem ar_87 : ar Tryz.prog 87 = some (12, 22, 1) := by kernel_rfl
@[simp] theorem tk_203 : tk Tryz.prog 203 = some (true, 2) := by kernel_rfl
@[simp] theorem places_203 : places Tryz.prog 203 = none := by kernel_rfl
@[simp] theorem zvA_203 : zvA Tryz.prog 203 = some [AV.d (D.v (Value.int IntKind.u32 (0))), AV.d (D.v (Value.int IntKind.u32 (0)))] := by kernel_rfl
@[simp] theorem ar_203 : ar Tryz.prog 203 = some (2, 22, 1) := by kernel_rfl
@[simp] theorem tk_216 : tk Tryz.prog 216 = some (true, 13) := by kernel_rfl
@[simp] theorem places_216 : places Tryz.prog 216 = none := by kernel_rfl
@[simp] theorem zvA_216 : zvA Tryz.prog 216 = some [AV.d (D.v (Value.int IntKind.u32 (0))), AV.d (D.v (Value.int IntKind.u32 (0))), AV.d (D.v (Value.int IntKind.u32 (0))), AV.d (D.v (Value.int IntKind.u32 (0))), AV.d (D.v (Value.int IntKind.u32 (0))), AV.d (D.v (Value.int IntKind.u32 (0))), AV.d (D.v (Value.int IntKind.u32 (0))), AV.d (D.v (Value.int IntKind.u32 (0))), AV.d (D.v (Value.int IntKind.u32 (0))), AV.d (D.v (Value.int IntKind.u32 (0))), AV.d (D.v (Value.int IntKind.u32 (0))), AV.d (D.v (Value.int IntKind.u32 (0))), AV.d (D.v (Value.int IntKind.u32 (0)))] := by kernel_rfl
@[simp] theorem ar_216 : ar Tryz.prog 216 = some (13, 22, 1) := by kernel_rfl
@[simp] theorem tk_227 : tk Tryz.prog 227 = some (true, 0) := by kernel_rfl
@[simp] theorem places_227 : places Tryz.prog 227 = none := by kernel_rfl
@[simp] theorem zvA_227 : zvA Tryz.prog 227 = some [] := by kernel_rfl
@[simp] theorem ar_227 : ar Tryz.prog 227 = some (0, 16, 1) := by kernel_rfl
@[simp] theorem tk_23 : tk Tryz.prog 23 = some (false, 1) := by kernel_rfl
@[simp] theorem sl_23 : sl Tryz.prog 23 = some (48, 2) := by kernel_rfl
@[simp] theorem zvA_23 : zvA Tryz.prog 23 = some [AV.d (D.v (Value.slice none 0 0))] := by kernel_rfl
@[simp] theorem byt_23 : byt Tryz.prog 23 = some (48, 2, 32) := by kernel_rfl
@[simp] theorem tk_32 : tk Tryz.prog 32 = some (false, 1) := by kernel_rfl
@[simp] theorem sl_32 : sl Tryz.prog 32 = some (25, 2) := by kernel_rfl
@[simp] theorem zvA_32 : zvA Tryz.prog 32 = some [AV.d (D.v (Value.slice none 0 0))] := by kernel_rfl
@[simp] theorem byt_32 : byt Tryz.prog 32 = some (25, 2, 32) := by kernel_rfl
@[simp] theorem tk_33 : tk Tryz.prog 33 = some (false, 1) := by kernel_rfl
@[simp] theorem sl_33 : sl Tryz.prog 33 = some (116, 5) := by kernel_rfl
@[simp] theorem zvA_33 : zvA Tryz.prog 33 = some [AV.d (D.v (Value.slice none 0 0))] := by kernel_rfl
@[simp] theorem byt_33 : byt Tryz.prog 33 = some (116, 5, 56) := by kernel_rfl
@[simp] theorem tk_36 : tk Tryz.prog 36 = some (false, 1) := by kernel_rfl
@[simp] theorem sl_36 : sl Tryz.prog 36 = some (22, 1) := by kernel_rfl
@[simp] theorem zvA_36 : zvA Tryz.prog 36 = some [AV.d (D.v (Value.slice none 0 0))] := by kernel_rfl
@[simp] theorem byt_36 : byt Tryz.prog 36 = some (22, 1, 4) := by kernel_rfl
@[simp] theorem tk_46 : tk Tryz.prog 46 = some (false, 1) := by kernel_rfl
@[simp] theorem sl_46 : sl Tryz.prog 46 = some (68, 8) := by kernel_rfl
@[simp] theorem zvA_46 : zvA Tryz.prog 46 = some [AV.d (D.v (Value.slice none 0 0))] := by kernel_rfl
@[simp] theorem byt_46 : byt Tryz.prog 46 = some (68, 8, 96) := by kernel_rfl
@[simp] theorem tk_49 : tk Tryz.prog 49 = some (false, 1) := by kernel_rfl
@[simp] theorem sl_49 : sl Tryz.prog 49 = some (3, 1) := by kernel_rfl
@[simp] theorem zvA_49 : zvA Tryz.prog 49 = some [AV.d (D.v (Value.slice none 0 0))] := by kernel_rfl
@[simp] theorem byt_49 : byt Tryz.prog 49 = some (3, 1, 8) := by kernel_rfl
@[simp] theorem tk_51 : tk Tryz.prog 51 = some (false, 1) := by kernel_rfl
@[simp] theorem sl_51 : sl Tryz.prog 51 = some (56, 2) := by kernel_rfl
@[simp] theorem zvA_51 : zvA Tryz.prog 51 = some [AV.d (D.v (Value.slice none 0 0))] := by kernel_rfl
@[simp] theorem byt_51 : byt Tryz.prog 51 = some (56, 2, 16) := by kernel_rfl
@[simp] theorem tk_54 : tk Tryz.prog 54 = some (false, 1) := by kernel_rfl
@[simp] theorem sl_54 : sl Tryz.prog 54 = some (58, 4) := by kernel_rfl
@[simp] theorem zvA_54 : zvA Tryz.prog 54 = some [AV.d (D.v (Value.slice none 0 0))] := by kernel_rfl
@[simp] theorem byt_54 : byt Tryz.prog 54 = some (58, 4, 64) := by kernel_rfl
@[simp] theorem tk_66 : tk Tryz.prog 66 = some (false, 1) := by kernel_rfl
@[simp] theorem sl_66 : sl Tryz.prog 66 = some (94, 5) := by kernel_rfl
@[simp] theorem zvA_66 : zvA Tryz.prog 66 = some [AV.d (D.v (Value.slice none 0 0))] := by kernel_rfl
@[simp] theorem byt_66 : byt Tryz.prog 66 = some (94, 5, 56) := by kernel_rfl
@[simp] theorem tk_73 : tk Tryz.prog 73 = some (false, 1) := by kernel_rfl
@[simp] theorem sl_73 : sl Tryz.prog 73 = some (4, 1) := by kernel_rfl
@[simp] theorem zvA_73 : zvA Tryz.prog 73 = some [AV.d (D.v (Value.slice none 0 0))] := by kernel_rfl
@[simp] theorem byt_73 : byt Tryz.prog 73 = some (4, 1, 1) := by kernel_rfl
@[simp] theorem tk_76 : tk Tryz.prog 76 = some (false, 1) := by kernel_rfl
@[simp] theorem sl_76 : sl Tryz.prog 76 = some (49, 1) := by kernel_rfl
@[simp] theorem zvA_76 : zvA Tryz.prog 76 = some [AV.d (D.v (Value.slice none 0 0))] := by kernel_rfl
@[simp] theorem byt_76 : byt Tryz.prog 76 = some (49, 1, 24) := by kernel_rfl
@[simp] theorem tk_88 : tk Tryz.prog 88 = some (false, 1) := by kernel_rfl
@[simp] theorem sl_88 : sl Tryz.prog 88 = some (139, 4) := by kernel_rfl
@[simp] theorem zvA_88 : zvA Tryz.prog 88 = some [AV.d (D.v (Value.slice none 0 0))] := by kernel_rfl
@[simp] theorem byt_88 : byt Tryz.prog 88 = some (139, 4, 32) := by kernel_rfl
@[simp] theorem tk_114 : tk Tryz.prog 114 = some (false, 1) := by kernel_rfl
@[simp] theorem sl_114 : sl Tryz.prog 114 = some (5, 1) := by kernel_rfl
@[simp] theorem zvA_114 : zvA Tryz.prog 114 = some [AV.d (D.v (Value.slice none 0 0))] := by kernel_rfl
@[simp] theorem byt_114 : byt Tryz.prog 114 = some (5, 1, 1) := by kernel_rfl
@[simp] theorem tk_165 : tk Tryz.prog 165 = some (false, 1) := by kernel_rfl
@[simp] theorem sl_165 : sl Tryz.prog 165 = some (172, 4) := by kernel_rfl
@[simp] theorem zvA_165 : zvA Tryz.prog 165 = some [AV.d (D.v (Value.slice none 0 0))] := by kernel_rfl
@[simp] theorem byt_165 : byt Tryz.prog 165 = some (172, 4, 40) := by kernel_rfl
@[simp] theorem tk_2 : tk Tryz.prog 2 = some (false, 1) := by kernel_rfl
@[simp] theorem isInt_2 : isInt Tryz.prog 2 = some IntKind.i64 := by kernel_rfl
@[simp] theorem isStr_2 : isStr Tryz.prog 2 = false := by kernel_rfl
@[simp] theorem zvA_2 : zvA Tryz.prog 2 = some [AV.d (D.v (Value.int IntKind.i64 (0)))] := by kernel_rfl
@[simp] theorem tk_3 : tk Tryz.prog 3 = some (false, 1) := by kernel_rfl
@[simp] theorem isInt_3 : isInt Tryz.prog 3 = some IntKind.i64 := by kernel_rfl
@[simp] theorem isStr_3 : isStr Tryz.prog 3 = false := by kernel_rfl
@[simp] theorem zvA_3 : zvA Tryz.prog 3 = some [AV.d (D.v (Value.int IntKind.i64 (0)))] := by kernel_rfl
@[simp] theorem tk_4 : tk Tryz.prog 4 = some (false, 1) := by kernel_rfl
@[simp] theorem isInt_4 : isInt Tryz.prog 4 = none := by kernel_rfl
@[simp] theorem isStr_4 : isStr Tryz.prog 4 = false := by kernel_rfl
@[simp] theorem zvA_4 : zvA Tryz.prog 4 = some [AV.d (D.v (Value.bool false))] := by kernel_rfl
@[simp] theorem tk_5 : tk Tryz.prog 5 = some (false, 1) := by kernel_rfl
@[simp] theorem isInt_5 : isInt Tryz.prog 5 = some IntKind.u8 := by kernel_rfl
@[simp] theorem isStr_5 : isStr Tryz.prog 5 = false := by kernel_rfl
@[simp] theorem zvA_5 : zvA Tryz.prog 5 = some [AV.d (D.v (Value.int IntKind.u8 (0)))] := by kernel_rfl
@[simp] theorem tk_6 : tk Tryz.prog 6 = some (false, 1) := by kernel_rfl
@[simp] theorem isInt_6 : isInt Tryz.prog 6 = some IntKind.u8 := by kernel_rfl
@[simp] theorem isStr_6 : isStr Tryz.prog 6 = false := by kernel_rfl
@[simp] theorem zvA_6 : zvA Tryz.prog 6 = some [AV.d (D.v (Value.int IntKind.u8 (0)))] := by kernel_rfl
@[simp] theorem tk_9 : tk Tryz.prog 9 = some (false, 1) := by kernel_rfl
@[simp] theorem isInt_9 : isInt Tryz.prog 9 = none := by kernel_rfl
@[simp] theorem isStr_9 : isStr Tryz.prog 9 = true := by kernel_rfl
@[simp] theorem zvA_9 : zvA Tryz.prog 9 = some [AV.d (D.v (Value.string { data := #[] }))] := by kernel_rfl
@[simp] theorem tk_10 : tk Tryz.prog 10 = some (false, 1) := by kernel_rfl
@[simp] theorem isInt_10 : isInt Tryz.prog 10 = none := by kernel_rfl
@[simp] theorem isStr_10 : isStr Tryz.prog 10 = true := by kernel_rfl
@[simp] theorem zvA_10 : zvA Tryz.prog 10 = some [AV.d (D.v (Value.string { data := #[] }))] := by kernel_rfl
@[simp] theorem tk_11 : tk Tryz.prog 11 = some (false, 1) := by kernel_rfl
@[simp] theorem isInt_11 : isInt Tryz.prog 11 = none := by kernel_rfl
@[simp] theorem isStr_11 : isStr Tryz.prog 11 = true := by kernel_rfl
@[simp] theorem zvA_11 : zvA Tryz.prog 11 = some [AV.d (D.v (Value.string { data := #[] }))] := by kernel_rfl
@[simp] theorem tk_12 : tk Tryz.prog 12 = some (false, 1) := by kernel_rfl
@[simp] theorem isInt_12 : isInt Tryz.prog 12 = some IntKind.u64 := by kernel_rfl
@[simp] theorem isStr_12 : isStr Tryz.prog 12 = false := by kernel_rfl
@[simp] theorem zvA_12 : zvA Tryz.prog 12 = some [AV.d (D.v (Value.int IntKind.u64 (0)))] := by kernel_rfl
@[simp] theorem tk_21 : tk Tryz.prog 21 = some (false, 1) := by kernel_rfl
@[simp] theorem isInt_21 : isInt Tryz.prog 21 = some IntKind.i32 := by kernel_rfl
@[simp] theorem isStr_21 : isStr Tryz.prog 21 = false := by kernel_rfl
@[simp] theorem zvA_21 : zvA Tryz.prog 21 = some [AV.d (D.v (Value.int IntKind.i32 (0)))] := by kernel_rfl
@[simp] theorem tk_22 : tk Tryz.prog 22 = some (false, 1) := by kernel_rfl
@[simp] theorem isInt_22 : isInt Tryz.prog 22 = some IntKind.u32 := by kernel_rfl
@[simp] theorem isStr_22 : isStr Tryz.prog 22 = false := by kernel_rfl
@[simp] theorem zvA_22 : zvA Tryz.prog 22 = some [AV.d (D.v (Value.int IntKind.u32 (0)))] := by kernel_rfl
@[simp] theorem tk_28 : tk Tryz.prog 28 = some (false, 1) := by kernel_rfl
@[simp] theorem isInt_28 : isInt Tryz.prog 28 = some IntKind.i64 := by kernel_rfl
@[simp] theorem isStr_28 : isStr Tryz.prog 28 = false := by kernel_rfl
@[simp] theorem zvA_28 : zvA Tryz.prog 28 = some [AV.d (D.v (Value.int IntKind.i64 (0)))] := by kernel_rfl
@[simp] theorem tk_120 : tk Tryz.prog 120 = some (false, 1) := by kernel_rfl
@[simp] theorem isInt_120 : isInt Tryz.prog 120 = some IntKind.u64 := by kernel_rfl
@[simp] theorem isStr_120 : isStr Tryz.prog 120 = false := by kernel_rfl
@[simp] theorem zvA_120 : zvA Tryz.prog 120 = some [AV.d (D.v (Value.int IntKind.u64 (0)))] := by kernel_rfl
@[simp] theorem tk_182 : tk Tryz.prog 182 = some (false, 1) := by kernel_rfl
@[simp] theorem isInt_182 : isInt Tryz.prog 182 = some IntKind.u64 := by kernel_rfl
@[simp] theorem isStr_182 : isStr Tryz.prog 182 = false := by kernel_rfl
@[simp] theorem zvA_182 : zvA Tryz.prog 182 = some [AV.d (D.v (Value.int IntKind.u64 (0)))] := by kernel_rfl
@[simp] theorem tk_194 : tk Tryz.prog 194 = some (false, 1) := by kernel_rfl
@[simp] theorem isInt_194 : isInt Tryz.prog 194 = some IntKind.i64 := by kernel_rfl
@[simp] theorem isStr_194 : isStr Tryz.prog 194 = false := by kernel_rfl
@[simp] theorem zvA_194 : zvA Tryz.prog 194 = some [AV.d (D.v (Value.int IntKind.i64 (0)))] := by kernel_rfl
@[simp] theorem tk_207 : tk Tryz.prog 207 = some (false, 1) := by kernel_rfl
@[simp] theorem isInt_207 : isInt Tryz.prog 207 = some IntKind.u64 := by kernel_rfl
@[simp] theorem isStr_207 : isStr Tryz.prog 207 = false := by kernel_rfl
@[simp] theorem zvA_207 : zvA Tryz.prog 207 = some [AV.d (D.v (Value.int IntKind.u64 (0)))] := by kernel_rfl
@[simp] theorem tk_218 : tk Tryz.prog 218 = some (false, 1) := by kernel_rfl
@[simp] theorem isInt_218 : isInt Tryz.prog 218 = some IntKind.i8 := by kernel_rfl
@[simp] theorem isStr_218 : isStr Tryz.prog 218 = false := by kernel_rfl
@[simp] theorem zvA_218 : zvA Tryz.prog 218 = some [AV.d (D.v (Value.int IntKind.i8 (0)))] := by kernel_rfl
@[simp] theorem tk_219 : tk Tryz.prog 219 = some (false, 1) := by kernel_rfl
@[simp] theorem isInt_219 : isInt Tryz.prog 219 = some IntKind.i16 := by kernel_rfl
@[simp] theorem isStr_219 : isStr Tryz.prog 219 = false := by kernel_rfl
@[simp] theorem zvA_219 : zvA Tryz.prog 219 = some [AV.d (D.v (Value.int IntKind.i16 (0)))] := by kernel_rfl
@[simp] theorem tk_231 : tk Tryz.prog 231 = some (false, 1) := by kernel_rfl
@[simp] theorem isInt_231 : isInt Tryz.prog 231 = some IntKind.u8 := by kernel_rfl
@[simp] theorem isStr_231 : isStr Tryz.prog 231 = false := by kernel_rfl
@[simp] theorem zvA_231 : zvA Tryz.prog 231 = some [AV.d (D.v (Value.int IntKind.u8 (0)))] := by kernel_rfl
@[simp] theorem tk_232 : tk Tryz.prog 232 = some (false, 1) := by kernel_rfl
@[simp] theorem isInt_232 : isInt Tryz.prog 232 = some IntKind.u8 := by kernel_rfl
@[simp] theorem isStr_232 : isStr Tryz.prog 232 = false := by kernel_rfl
@[simp] theorem zvA_232 : zvA Tryz.prog 232 = some [AV.d (D.v (Value.int IntKind.u8 (0)))] := by kernel_rfl
@[simp] theorem tk_235 : tk Tryz.prog 235 = some (false, 1) := by kernel_rfl
@[simp] theorem isInt_235 : isInt Tryz.prog 235 = some IntKind.i32 := by kernel_rfl
@[simp] theorem isStr_235 : isStr Tryz.prog 235 = false := by kernel_rfl
@[simp] theorem zvA_235 : zvA Tryz.prog 235 = some [AV.d (D.v (Value.int IntKind.i32 (0)))] := by kernel_rfl
@[simp] theorem tk_236 : tk Tryz.prog 236 = some (false, 1) := by kernel_rfl
@[simp] theorem isInt_236 : isInt Tryz.prog 236 = some IntKind.i32 := by kernel_rfl
@[simp] theorem isStr_236 : isStr Tryz.prog 236 = false := by kernel_rfl
@[simp] theorem zvA_236 : zvA Tryz.prog 236 = some [AV.d (D.v (Value.int IntKind.i32 (0)))] := by kernel_rfl
@[simp] theorem tk_239 : tk Tryz.prog 239 = some (false, 1) := by kernel_rfl
@[simp] theorem isInt_239 : isInt Tryz.prog 239 = none := by kernel_rfl
@[simp] theorem isStr_239 : isStr Tryz.prog 239 = false := by kernel_rfl
@[simp] theorem zvA_239 : zvA Tryz.prog 239 = some [AV.d (D.v (Value.pointer none))] := by kernel_rfl
@[simp] theorem tk_1 : tk Tryz.prog 1 = some (false, 1) := by kernel_rfl
@[simp] theorem zvA_1 : zvA Tryz.prog 1 = some [AV.d (D.v Value.nilFunc)] := by kernel_rfl
@[simp] theorem tk_15 : tk Tryz.prog 15 = some (false, 1) := by kernel_rfl
@[simp] theorem zvA_15 : zvA Tryz.prog 15 = some [AV.d (D.v (Value.pointer none))] := by kernel_rfl
@[simp] theorem tk_16 : tk Tryz.prog 16 = some (false, 1) := by kernel_rfl
@[simp] theorem zvA_16 : zvA Tryz.prog 16 = some [AV.d (D.v (Value.pointer none))] := by kernel_rfl
@[simp] theorem tk_17 : tk Tryz.prog 17 = some (false, 1) := by kernel_rfl
@[simp] theorem zvA_17 : zvA Tryz.prog 17 = some [AV.d (D.v (Value.pointer none))] := by kernel_rfl
@[simp] theorem tk_20 : tk Tryz.prog 20 = some (false, 1) := by kernel_rfl
@[simp] theorem zvA_20 : zvA Tryz.prog 20 = some [AV.d (D.v Value.nilIface)] := by kernel_rfl
@[simp] theorem tk_26 : tk Tryz.prog 26 = some (false, 1) := by kernel_rfl
@[simp] theorem zvA_26 : zvA Tryz.prog 26 = some [AV.d (D.v Value.nilFunc)] := by kernel_rfl
@[simp] theorem tk_27 : tk Tryz.prog 27 = some (false, 1) := by kernel_rfl
@[simp] theorem zvA_27 : zvA Tryz.prog 27 = some [AV.d (D.v Value.nilFunc)] := by kernel_rfl
@[simp] theorem tk_30 : tk Tryz.prog 30 = some (false, 1) := by kernel_rfl
@[simp] theorem zvA_30 : zvA Tryz.prog 30 = some [AV.d (D.v Value.nilFunc)] := by kernel_rfl
@[simp] theorem tk_31 : tk Tryz.prog 31 = some (false, 1) := by kernel_rfl
@[simp] theorem zvA_31 : zvA Tryz.prog 31 = some [AV.d (D.v Value.nilFunc)] := by kernel_rfl
@[simp] theorem tk_37 : tk Tryz.prog 37 = some (false, 1) := by kernel_rfl
@[simp] theorem zvA_37 : zvA Tryz.prog 37 = some [AV.d (D.v Value.nilFunc)] := by kernel_rfl
@[simp] theorem tk_38 : tk Tryz.prog 38 = some (false, 1) := by kernel_rfl
@[simp] theorem zvA_38 : zvA Tryz.prog 38 = some [AV.d (D.v Value.nilFunc)] := by kernel_rfl
@[simp] theorem tk_42 : tk Tryz.prog 42 = some (false, 1) := by kernel_rfl
@[simp] theorem zvA_42 : zvA Tryz.prog 42 = some [AV.d (D.v Value.nilFunc)] := by kernel_rfl
@[simp] theorem tk_43 : tk Tryz.prog 43 = some (false, 1) := by kernel_rfl
@[simp] theorem zvA_43 : zvA Tryz.prog 43 = some [AV.d (D.v Value.nilFunc)] := by kernel_rfl
@[simp] theorem tk_44 : tk Tryz.prog 44 = some (false, 1) := by kernel_rfl
@[simp] theorem zvA_44 : zvA Tryz.prog 44 = some [AV.d (D.v Value.nilFunc)] := by kernel_rfl
@[simp] theorem tk_45 : tk Tryz.prog 45 = some (false, 1) := by kernel_rfl
@[simp] theorem zvA_45 : zvA Tryz.prog 45 = some [AV.d (D.v Value.nilFunc)] := by kernel_rfl
@[simp] theorem tk_50 : tk Tryz.prog 50 = some (false, 1) := by kernel_rfl
@[simp] theorem zvA_50 : zvA Tryz.prog 50 = some [AV.d (D.v Value.nilFunc)] := by kernel_rfl
@[simp] theorem tk_52 : tk Tryz.prog 52 = some (false, 1) := by kernel_rfl
@[simp] theorem zvA_52 : zvA Tryz.prog 52 = some [AV.d (D.v Value.nilFunc)] := by kernel_rfl
@[simp] theorem tk_53 : tk Tryz.prog 53 = some (false, 1) := by kernel_rfl
@[simp] theorem zvA_53 : zvA Tryz.prog 53 = some [AV.d (D.v Value.nilFunc)] := by kernel_rfl
@[simp] theorem tk_55 : tk Tryz.prog 55 = some (false, 1) := by kernel_rfl
@[simp] theorem zvA_55 : zvA Tryz.prog 55 = some [AV.d (D.v Value.nilFunc)] := by kernel_rfl
@[simp] theorem tk_59 : tk Tryz.prog 59 = some (false, 1) := by kernel_rfl
@[simp] theorem zvA_59 : zvA Tryz.prog 59 = some [AV.d (D.v Value.nilFunc)] := by kernel_rfl
@[simp] theorem tk_60 : tk Tryz.prog 60 = some (false, 1) := by kernel_rfl
@[simp] theorem zvA_60 : zvA Tryz.prog 60 = some [AV.d (D.v Value.nilFunc)] := by kernel_rfl
@[simp] theorem tk_62 : tk Tryz.prog 62 = some (false, 1) := by kernel_rfl
@[simp] theorem zvA_62 : zvA Tryz.prog 62 = some [AV.d (D.v Value.nilFunc)] := by kernel_rfl
@[simp] theorem tk_63 : tk Tryz.prog 63 = some (false, 1) := by kernel_rfl
@[simp] theorem zvA_63 : zvA Tryz.prog 63 = some [AV.d (D.v Value.nilFunc)] := by kernel_rfl
@[simp] theorem tk_65 : tk Tryz.prog 65 = some (false, 1) := by kernel_rfl
@[simp] theorem zvA_65 : zvA Tryz.prog 65 = some [AV.d (D.v Value.nilFunc)] := by kernel_rfl
@[simp] theorem tk_69 : tk Tryz.prog 69 = some (false, 1) := by kernel_rfl
@[simp] theorem zvA_69 : zvA Tryz.prog 69 = some [AV.d (D.v Value.nilFunc)] := by kernel_rfl
@[simp] theorem tk_70 : tk Tryz.prog 70 = some (false, 1) := by kernel_rfl
@[simp] theorem zvA_70 : zvA Tryz.prog 70 = some [AV.d (D.v Value.nilFunc)] := by kernel_rfl
@[simp] theorem tk_71 : tk Tryz.prog 71 = some (false, 1) := by kernel_rfl
@[simp] theorem zvA_71 : zvA Tryz.prog 71 = some [AV.d (D.v Value.nilFunc)] := by kernel_rfl
@[simp] theorem tk_72 : tk Tryz.prog 72 = some (false, 1) := by kernel_rfl
@[simp] theorem zvA_72 : zvA Tryz.prog 72 = some [AV.d (D.v Value.nilFunc)] := by kernel_rfl
@[simp] theorem tk_74 : tk Tryz.prog 74 = some (false, 1) := by kernel_rfl
@[simp] theorem zvA_74 : zvA Tryz.prog 74 = some [AV.d (D.v Value.nilFunc)] := by kernel_rfl
@[simp] theorem tk_75 : tk Tryz.prog 75 = some (false, 1) := by kernel_rfl
@[simp] theorem zvA_75 : zvA Tryz.prog 75 = some [AV.d (D.v (Value.map none))] := by kernel_rfl
@[simp] theorem tk_77 : tk Tryz.prog 77 = some (false, 1) := by kernel_rfl
@[simp] theorem zvA_77 : zvA Tryz.prog 77 = some [AV.d (D.v Value.nilFunc)] := by kernel_rfl
@[simp] theorem tk_78 : tk Tryz.prog 78 = some (false, 1) := by kernel_rfl
@[simp] theorem zvA_78 : zvA Tryz.prog 78 = some [AV.d (D.v Value.nilFunc)] := by kernel_rfl
@[simp] theorem tk_79 : tk Tryz.prog 79 = some (false, 1) := by kernel_rfl
@[simp] theorem zvA_79 : zvA Tryz.prog 79 = some [AV.d (D.v Value.nilFunc)] := by kernel_rfl
@[simp] theorem tk_80 : tk Tryz.prog 80 = some (false, 1) := by kernel_rfl
@[simp] theorem zvA_80 : zvA Tryz.prog 80 = some [AV.d (D.v Value.nilFunc)] := by kernel_rfl
@[simp] theorem tk_81 : tk Tryz.prog 81 = some (false, 1) := by kernel_rfl
@[simp] theorem zvA_81 : zvA Tryz.prog 81 = some [AV.d (D.v Value.nilFunc)] := by kernel_rfl
@[simp] theorem tk_82 : tk Tryz.prog 82 = some (false, 1) := by kernel_rfl
@[simp] theorem zvA_82 : zvA Tryz.prog 82 = some [AV.d (D.v (Value.pointer none))] := by kernel_rfl
@[simp] theorem tk_84 : tk Tryz.prog 84 = some (false, 1) := by kernel_rfl
@[simp] theorem zvA_84 : zvA Tryz.prog 84 = some [AV.d (D.v Value.nilFunc)] := by kernel_rfl
@[simp] theorem tk_85 : tk Tryz.prog 85 = some (false, 1) := by kernel_rfl
@[simp] theorem zvA_85 : zvA Tryz.prog 85 = some [AV.d (D.v (Value.map none))] := by kernel_rfl
@[simp] theorem tk_86 : tk Tryz.prog 86 = some (false, 1) := by kernel_rfl
@[simp] theorem zvA_86 : zvA Tryz.prog 86 = some [AV.d (D.v (Value.pointer none))] := by kernel_rfl
@[simp] theorem tk_91 : tk Tryz.prog 91 = some (false, 1) := by kernel_rfl
@[simp] theorem zvA_91 : zvA Tryz.prog 91 = some [AV.d (D.v Value.nilFunc)] := by kernel_rfl
@[simp] theorem tk_92 : tk Tryz.prog 92 = some (false, 1) := by kernel_rfl
@[simp] theorem zvA_92 : zvA Tryz.prog 92 = some [AV.d (D.v Value.nilFunc)] := by kernel_rfl
@[simp] theorem tk_95 : tk Tryz.prog 95 = some (false, 1) := by kernel_rfl
@[simp] theorem zvA_95 : zvA Tryz.prog 95 = some [AV.d (D.v Value.nilFunc)] := by kernel_rfl
@[simp] theorem tk_96 : tk Tryz.prog 96 = some (false, 1) := by kernel_rfl
@[simp] theorem zvA_96 : zvA Tryz.prog 96 = some [AV.d (D.v Value.nilFunc)] := by kernel_rfl
@[simp] theorem tk_97 : tk Tryz.prog 97 = some (false, 1) := by kernel_rfl
@[simp] theorem zvA_97 : zvA Tryz.prog 97 = some [AV.d (D.v Value.nilFunc)] := by kernel_rfl
@[simp] theorem tk_98 : tk Tryz.prog 98 = some (false, 1) := by kernel_rfl
@[simp] theorem zvA_98 : zvA Tryz.prog 98 = some [AV.d (D.v Value.nilFunc)] := by kernel_rfl
@[simp] theorem tk_99 : tk Tryz.prog 99 = some (false, 1) := by kernel_rfl
@[simp] theorem zvA_99 : zvA Tryz.prog 99 = some [AV.d (D.v Value.nilFunc)] := by kernel_rfl
@[simp] theorem tk_100 : tk Tryz.prog 100 = some (false, 1) := by kernel_rfl
@[simp] theorem zvA_100 : zvA Tryz.prog 100 = some [AV.d (D.v Value.nilFunc)] := by kernel_rfl
@[simp] theorem tk_101 : tk Tryz.prog 101 = some (false, 1) := by kernel_rfl
@[simp] theorem zvA_101 : zvA Tryz.prog 101 = some [AV.d (D.v Value.nilFunc)] := by kernel_rfl
@[simp] theorem tk_102 : tk Tryz.prog 102 = some (false, 1) := by kernel_rfl
@[simp] theorem zvA_102 : zvA Tryz.prog 102 = some [AV.d (D.v Value.nilFunc)] := by kernel_rfl
@[simp] theorem tk_103 : tk Tryz.prog 103 = some (false, 1) := by kernel_rfl
@[simp] theorem zvA_103 : zvA Tryz.prog 103 = some [AV.d (D.v Value.nilFunc)] := by kernel_rfl
@[simp] theorem tk_104 : tk Tryz.prog 104 = some (false, 1) := by kernel_rfl
@[simp] theorem zvA_104 : zvA Tryz.prog 104 = some [AV.d (D.v Value.nilFunc)] := by kernel_rfl
@[simp] theorem tk_105 : tk Tryz.prog 105 = some (false, 1) := by kernel_rfl
@[simp] theorem zvA_105 : zvA Tryz.prog 105 = some [AV.d (D.v Value.nilFunc)] := by kernel_rfl
@[simp] theorem tk_106 : tk Tryz.prog 106 = some (false, 1) := by kernel_rfl
@[simp] theorem zvA_106 : zvA Tryz.prog 106 = some [AV.d (D.v Value.nilFunc)] := by kernel_rfl
@[simp] theorem tk_107 : tk Tryz.prog 107 = some (false, 1) := by kernel_rfl
@[simp] theorem zvA_107 : zvA Tryz.prog 107 = some [AV.d (D.v Value.nilFunc)] := by kernel_rfl
@[simp] theorem tk_108 : tk Tryz.prog 108 = some (false, 1) := by kernel_rfl
@[simp] theorem zvA_108 : zvA Tryz.prog 108 = some [AV.d (D.v Value.nilFunc)] := by kernel_rfl
@[simp] theorem tk_109 : tk Tryz.prog 109 = some (false, 1) := by kernel_rfl
@[simp] theorem zvA_109 : zvA Tryz.prog 109 = some [AV.d (D.v (Value.map none))] := by kernel_rfl
@[simp] theorem tk_110 : tk Tryz.prog 110 = some (false, 1) := by kernel_rfl
@[simp] theorem zvA_110 : zvA Tryz.prog 110 = some [AV.d (D.v (Value.pointer none))] := by kernel_rfl
@[simp] theorem tk_111 : tk Tryz.prog 111 = some (false, 1) := by kernel_rfl
@[simp] theorem zvA_111 : zvA Tryz.prog 111 = some [AV.d (D.v Value.nilFunc)] := by kernel_rfl
@[simp] theorem tk_112 : tk Tryz.prog 112 = some (false, 1) := by kernel_rfl
@[simp] theorem zvA_112 : zvA Tryz.prog 112 = some [AV.d (D.v Value.nilFunc)] := by kernel_rfl
@[simp] theorem tk_113 : tk Tryz.prog 113 = some (false, 1) := by kernel_rfl
@[simp] theorem zvA_113 : zvA Tryz.prog 113 = some [AV.d (D.v Value.nilFunc)] := by kernel_rfl
@[simp] theorem tk_117 : tk Tryz.prog 117 = some (false, 1) := by kernel_rfl
@[simp] theorem zvA_117 : zvA Tryz.prog 117 = some [AV.d (D.v Value.nilFunc)] := by kernel_rfl
@[simp] theorem tk_118 : tk Tryz.prog 118 = some (false, 1) := by kernel_rfl
@[simp] theorem zvA_118 : zvA Tryz.prog 118 = some [AV.d (D.v Value.nilFunc)] := by kernel_rfl
@[simp] theorem tk_119 : tk Tryz.prog 119 = some (false, 1) := by kernel_rfl
@[simp] theorem zvA_119 : zvA Tryz.prog 119 = some [AV.d (D.v Value.nilFunc)] := by kernel_rfl
@[simp] theorem tk_121 : tk Tryz.prog 121 = some (false, 1) := by kernel_rfl
@[simp] theorem zvA_121 : zvA Tryz.prog 121 = some [AV.d (D.v Value.nilFunc)] := by kernel_rfl
@[simp] theorem tk_124 : tk Tryz.prog 124 = some (false, 1) := by kernel_rfl
@[simp] theorem zvA_124 : zvA Tryz.prog 124 = some [AV.d (D.v Value.nilFunc)] := by kernel_rfl
@[simp] theorem tk_125 : tk Tryz.prog 125 = some (false, 1) := by kernel_rfl
@[simp] theorem zvA_125 : zvA Tryz.prog 125 = some [AV.d (D.v Value.nilFunc)] := by kernel_rfl
@[simp] theorem tk_126 : tk Tryz.prog 126 = some (false, 1) := by kernel_rfl
@[simp] theorem zvA_126 : zvA Tryz.prog 126 = some [AV.d (D.v Value.nilFunc)] := by kernel_rfl
@[simp] theorem tk_127 : tk Tryz.prog 127 = some (false, 1) := by kernel_rfl
@[simp] theorem zvA_127 : zvA Tryz.prog 127 = some [AV.d (D.v Value.nilFunc)] := by kernel_rfl
@[simp] theorem tk_128 : tk Tryz.prog 128 = some (false, 1) := by kernel_rfl
@[simp] theorem zvA_128 : zvA Tryz.prog 128 = some [AV.d (D.v Value.nilFunc)] := by kernel_rfl
@[simp] theorem tk_129 : tk Tryz.prog 129 = some (false, 1) := by kernel_rfl
@[simp] theorem zvA_129 : zvA Tryz.prog 129 = some [AV.d (D.v Value.nilFunc)] := by kernel_rfl
@[simp] theorem tk_130 : tk Tryz.prog 130 = some (false, 1) := by kernel_rfl
@[simp] theorem zvA_130 : zvA Tryz.prog 130 = some [AV.d (D.v Value.nilFunc)] := by kernel_rfl
@[simp] theorem tk_132 : tk Tryz.prog 132 = some (false, 1) := by kernel_rfl
@[simp] theorem zvA_132 : zvA Tryz.prog 132 = some [AV.d (D.v Value.nilFunc)] := by kernel_rfl
@[simp] theorem tk_133 : tk Tryz.prog 133 = some (false, 1) := by kernel_rfl
@[simp] theorem zvA_133 : zvA Tryz.prog 133 = some [AV.d (D.v Value.nilFunc)] := by kernel_rfl
@[simp] theorem tk_136 : tk Tryz.prog 136 = some (false, 1) := by kernel_rfl
@[simp] theorem zvA_136 : zvA Tryz.prog 136 = some [AV.d (D.v Value.nilFunc)] := by kernel_rfl
@[simp] theorem tk_137 : tk Tryz.prog 137 = some (false, 1) := by kernel_rfl
@[simp] theorem zvA_137 : zvA Tryz.prog 137 = some [AV.d (D.v (Value.map none))] := by kernel_rfl
@[simp] theorem tk_140 : tk Tryz.prog 140 = some (false, 1) := by kernel_rfl
@[simp] theorem zvA_140 : zvA Tryz.prog 140 = some [AV.d (D.v Value.nilFunc)] := by kernel_rfl
@[simp] theorem tk_141 : tk Tryz.prog 141 = some (false, 1) := by kernel_rfl
@[simp] theorem zvA_141 : zvA Tryz.prog 141 = some [AV.d (D.v (Value.pointer none))] := by kernel_rfl
@[simp] theorem tk_142 : tk Tryz.prog 142 = some (false, 1) := by kernel_rfl
@[simp] theorem zvA_142 : zvA Tryz.prog 142 = some [AV.d (D.v Value.nilFunc)] := by kernel_rfl
@[simp] theorem tk_143 : tk Tryz.prog 143 = some (false, 1) := by kernel_rfl
@[simp] theorem zvA_143 : zvA Tryz.prog 143 = some [AV.d (D.v Value.nilFunc)] := by kernel_rfl
@[simp] theorem tk_144 : tk Tryz.prog 144 = some (false, 1) := by kernel_rfl
@[simp] theorem zvA_144 : zvA Tryz.prog 144 = some [AV.d (D.v Value.nilFunc)] := by kernel_rfl
@[simp] theorem tk_145 : tk Tryz.prog 145 = some (false, 1) := by kernel_rfl
@[simp] theorem zvA_145 : zvA Tryz.prog 145 = some [AV.d (D.v Value.nilFunc)] := by kernel_rfl
@[simp] theorem tk_146 : tk Tryz.prog 146 = some (false, 1) := by kernel_rfl
@[simp] theorem zvA_146 : zvA Tryz.prog 146 = some [AV.d (D.v Value.nilFunc)] := by kernel_rfl
@[simp] theorem tk_147 : tk Tryz.prog 147 = some (false, 1) := by kernel_rfl
@[simp] theorem zvA_147 : zvA Tryz.prog 147 = some [AV.d (D.v Value.nilFunc)] := by kernel_rfl
@[simp] theorem tk_148 : tk Tryz.prog 148 = some (false, 1) := by kernel_rfl
@[simp] theorem zvA_148 : zvA Tryz.prog 148 = some [AV.d (D.v Value.nilFunc)] := by kernel_rfl
@[simp] theorem tk_149 : tk Tryz.prog 149 = some (false, 1) := by kernel_rfl
@[simp] theorem zvA_149 : zvA Tryz.prog 149 = some [AV.d (D.v Value.nilFunc)] := by kernel_rfl
@[simp] theorem tk_150 : tk Tryz.prog 150 = some (false, 1) := by kernel_rfl
@[simp] theorem zvA_150 : zvA Tryz.prog 150 = some [AV.d (D.v Value.nilFunc)] := by kernel_rfl
@[simp] theorem tk_151 : tk Tryz.prog 151 = some (false, 1) := by kernel_rfl
@[simp] theorem zvA_151 : zvA Tryz.prog 151 = some [AV.d (D.v Value.nilFunc)] := by kernel_rfl
@[simp] theorem tk_152 : tk Tryz.prog 152 = some (false, 1) := by kernel_rfl
@[simp] theorem zvA_152 : zvA Tryz.prog 152 = some [AV.d (D.v Value.nilFunc)] := by kernel_rfl
@[simp] theorem tk_153 : tk Tryz.prog 153 = some (false, 1) := by kernel_rfl
@[simp] theorem zvA_153 : zvA Tryz.prog 153 = some [AV.d (D.v Value.nilFunc)] := by kernel_rfl
@[simp] theorem tk_154 : tk Tryz.prog 154 = some (false, 1) := by kernel_rfl
@[simp] theorem zvA_154 : zvA Tryz.prog 154 = some [AV.d (D.v Value.nilFunc)] := by kernel_rfl
@[simp] theorem tk_155 : tk Tryz.prog 155 = some (false, 1) := by kernel_rfl
@[simp] theorem zvA_155 : zvA Tryz.prog 155 = some [AV.d (D.v Value.nilFunc)] := by kernel_rfl
@[simp] theorem tk_156 : tk Tryz.prog 156 = some (false, 1) := by kernel_rfl
@[simp] theorem zvA_156 : zvA Tryz.prog 156 = some [AV.d (D.v Value.nilFunc)] := by kernel_rfl
@[simp] theorem tk_159 : tk Tryz.prog 159 = some (false, 1) := by kernel_rfl
@[simp] theorem zvA_159 : zvA Tryz.prog 159 = some [AV.d (D.v Value.nilFunc)] := by kernel_rfl
@[simp] theorem tk_160 : tk Tryz.prog 160 = some (false, 1) := by kernel_rfl
@[simp] theorem zvA_160 : zvA Tryz.prog 160 = some [AV.d (D.v Value.nilFunc)] := by kernel_rfl
@[simp] theorem tk_161 : tk Tryz.prog 161 = some (false, 1) := by kernel_rfl
@[simp] theorem zvA_161 : zvA Tryz.prog 161 = some [AV.d (D.v Value.nilFunc)] := by kernel_rfl
@[simp] theorem tk_162 : tk Tryz.prog 162 = some (false, 1) := by kernel_rfl
@[simp] theorem zvA_162 : zvA Tryz.prog 162 = some [AV.d (D.v Value.nilFunc)] := by kernel_rfl
@[simp] theorem tk_163 : tk Tryz.prog 163 = some (false, 1) := by kernel_rfl
@[simp] theorem zvA_163 : zvA Tryz.prog 163 = some [AV.d (D.v Value.nilFunc)] := by kernel_rfl
@[simp] theorem tk_164 : tk Tryz.prog 164 = some (false, 1) := by kernel_rfl
@[simp] theorem zvA_164 : zvA Tryz.prog 164 = some [AV.d (D.v (Value.map none))] := by kernel_rfl
@[simp] theorem tk_168 : tk Tryz.prog 168 = some (false, 1) := by kernel_rfl
@[simp] theorem zvA_168 : zvA Tryz.prog 168 = some [AV.d (D.v Value.nilFunc)] := by kernel_rfl
@[simp] theorem tk_174 : tk Tryz.prog 174 = some (false, 1) := by kernel_rfl
@[simp] theorem zvA_174 : zvA Tryz.prog 174 = some [AV.d (D.v Value.nilFunc)] := by kernel_rfl
@[simp] theorem tk_176 : tk Tryz.prog 176 = some (false, 1) := by kernel_rfl
@[simp] theorem zvA_176 : zvA Tryz.prog 176 = some [AV.d (D.v Value.nilFunc)] := by kernel_rfl
@[simp] theorem tk_178 : tk Tryz.prog 178 = some (false, 1) := by kernel_rfl
@[simp] theorem zvA_178 : zvA Tryz.prog 178 = some [AV.d (D.v Value.nilFunc)] := by kernel_rfl
@[simp] theorem tk_179 : tk Tryz.prog 179 = some (false, 1) := by kernel_rfl
@[simp] theorem zvA_179 : zvA Tryz.prog 179 = some [AV.d (D.v Value.nilFunc)] := by kernel_rfl
@[simp] theorem tk_180 : tk Tryz.prog 180 = some (false, 1) := by kernel_rfl
@[simp] theorem zvA_180 : zvA Tryz.prog 180 = some [AV.d (D.v Value.nilFunc)] := by kernel_rfl
@[simp] theorem tk_181 : tk Tryz.prog 181 = some (false, 1) := by kernel_rfl
@[simp] theorem zvA_181 : zvA Tryz.prog 181 = some [AV.d (D.v Value.nilFunc)] := by kernel_rfl
@[simp] theorem tk_183 : tk Tryz.prog 183 = some (false, 1) := by kernel_rfl
@[simp] theorem zvA_183 : zvA Tryz.prog 183 = some [AV.d (D.v Value.nilFunc)] := by kernel_rfl
@[simp] theorem tk_184 : tk Tryz.prog 184 = some (false, 1) := by kernel_rfl
@[simp] theorem zvA_184 : zvA Tryz.prog 184 = some [AV.d (D.v Value.nilFunc)] := by kernel_rfl
@[simp] theorem tk_185 : tk Tryz.prog 185 = some (false, 1) := by kernel_rfl
@[simp] theorem zvA_185 : zvA Tryz.prog 185 = some [AV.d (D.v Value.nilFunc)] := by kernel_rfl
@[simp] theorem tk_186 : tk Tryz.prog 186 = some (false, 1) := by kernel_rfl
@[simp] theorem zvA_186 : zvA Tryz.prog 186 = some [AV.d (D.v Value.nilFunc)] := by kernel_rfl
@[simp] theorem tk_188 : tk Tryz.prog 188 = some (false, 1) := by kernel_rfl
@[simp] theorem zvA_188 : zvA Tryz.prog 188 = some [AV.d (D.v Value.nilFunc)] := by kernel_rfl
@[simp] theorem tk_189 : tk Tryz.prog 189 = some (false, 1) := by kernel_rfl
@[simp] theorem zvA_189 : zvA Tryz.prog 189 = some [AV.d (D.v Value.nilFunc)] := by kernel_rfl
@[simp] theorem tk_190 : tk Tryz.prog 190 = some (false, 1) := by kernel_rfl
@[simp] theorem zvA_190 : zvA Tryz.prog 190 = some [AV.d (D.v Value.nilFunc)] := by kernel_rfl
@[simp] theorem tk_191 : tk Tryz.prog 191 = some (false, 1) := by kernel_rfl
@[simp] theorem zvA_191 : zvA Tryz.prog 191 = some [AV.d (D.v Value.nilFunc)] := by kernel_rfl
@[simp] theorem tk_192 : tk Tryz.prog 192 = some (false, 1) := by kernel_rfl
@[simp] theorem zvA_192 : zvA Tryz.prog 192 = some [AV.d (D.v Value.nilFunc)] := by kernel_rfl
@[simp] theorem tk_193 : tk Tryz.prog 193 = some (false, 1) := by kernel_rfl
@[simp] theorem zvA_193 : zvA Tryz.prog 193 = some [AV.d (D.v Value.nilFunc)] := by kernel_rfl
@[simp] theorem tk_196 : tk Tryz.prog 196 = some (false, 1) := by kernel_rfl
@[simp] theorem zvA_196 : zvA Tryz.prog 196 = some [AV.d (D.v Value.nilFunc)] := by kernel_rfl
@[simp] theorem tk_197 : tk Tryz.prog 197 = some (false, 1) := by kernel_rfl
@[simp] theorem zvA_197 : zvA Tryz.prog 197 = some [AV.d (D.v Value.nilFunc)] := by kernel_rfl
@[simp] theorem tk_198 : tk Tryz.prog 198 = some (false, 1) := by kernel_rfl
@[simp] theorem zvA_198 : zvA Tryz.prog 198 = some [AV.d (D.v Value.nilFunc)] := by kernel_rfl
@[simp] theorem tk_199 : tk Tryz.prog 199 = some (false, 1) := by kernel_rfl
@[simp] theorem zvA_199 : zvA Tryz.prog 199 = some [AV.d (D.v Value.nilFunc)] := by kernel_rfl
@[simp] theorem tk_200 : tk Tryz.prog 200 = some (false, 1) := by kernel_rfl
@[simp] theorem zvA_200 : zvA Tryz.prog 200 = some [AV.d (D.v Value.nilFunc)] := by kernel_rfl
@[simp] theorem tk_201 : tk Tryz.prog 201 = some (false, 1) := by kernel_rfl
@[simp] theorem zvA_201 : zvA Tryz.prog 201 = some [AV.d (D.v Value.nilFunc)] := by kernel_rfl
@[simp] theorem tk_202 : tk Tryz.prog 202 = some (false, 1) := by kernel_rfl
@[simp] theorem zvA_202 : zvA Tryz.prog 202 = some [AV.d (D.v Value.nilFunc)] := by kernel_rfl
@[simp] theorem tk_204 : tk Tryz.prog 204 = some (false, 1) := by kernel_rfl
@[simp] theorem zvA_204 : zvA Tryz.prog 204 = some [AV.d (D.v Value.nilFunc)] := by kernel_rfl
@[simp] theorem tk_205 : tk Tryz.prog 205 = some (false, 1) := by kernel_rfl
@[simp] theorem zvA_205 : zvA Tryz.prog 205 = some [AV.d (D.v Value.nilFunc)] := by kernel_rfl
@[simp] theorem tk_206 : tk Tryz.prog 206 = some (false, 1) := by kernel_rfl
@[simp] theorem zvA_206 : zvA Tryz.prog 206 = some [AV.d (D.v Value.nilFunc)] := by kernel_rfl
@[simp] theorem tk_208 : tk Tryz.prog 208 = some (false, 1) := by kernel_rfl
@[simp] theorem zvA_208 : zvA Tryz.prog 208 = some [AV.d (D.v Value.nilFunc)] := by kernel_rfl
@[simp] theorem tk_209 : tk Tryz.prog 209 = some (false, 1) := by kernel_rfl
@[simp] theorem zvA_209 : zvA Tryz.prog 209 = some [AV.d (D.v Value.nilFunc)] := by kernel_rfl
@[simp] theorem tk_210 : tk Tryz.prog 210 = some (false, 1) := by kernel_rfl
@[simp] theorem zvA_210 : zvA Tryz.prog 210 = some [AV.d (D.v Value.nilFunc)] := by kernel_rfl
@[simp] theorem tk_211 : tk Tryz.prog 211 = some (false, 1) := by kernel_rfl
@[simp] theorem zvA_211 : zvA Tryz.prog 211 = some [AV.d (D.v (Value.pointer none))] := by kernel_rfl
@[simp] theorem tk_212 : tk Tryz.prog 212 = some (false, 1) := by kernel_rfl
@[simp] theorem zvA_212 : zvA Tryz.prog 212 = some [AV.d (D.v Value.nilFunc)] := by kernel_rfl
@[simp] theorem tk_213 : tk Tryz.prog 213 = some (false, 1) := by kernel_rfl
@[simp] theorem zvA_213 : zvA Tryz.prog 213 = some [AV.d (D.v Value.nilFunc)] := by kernel_rfl
@[simp] theorem tk_214 : tk Tryz.prog 214 = some (false, 1) := by kernel_rfl
@[simp] theorem zvA_214 : zvA Tryz.prog 214 = some [AV.d (D.v Value.nilFunc)] := by kernel_rfl
@[simp] theorem tk_215 : tk Tryz.prog 215 = some (false, 1) := by kernel_rfl
@[simp] theorem zvA_215 : zvA Tryz.prog 215 = some [AV.d (D.v Value.nilFunc)] := by kernel_rfl
@[simp] theorem tk_217 : tk Tryz.prog 217 = some (false, 1) := by kernel_rfl
@[simp] theorem zvA_217 : zvA Tryz.prog 217 = some [AV.d (D.v Value.nilFunc)] := by kernel_rfl
@[simp] theorem tk_220 : tk Tryz.prog 220 = some (false, 1) := by kernel_rfl
@[simp] theorem zvA_220 : zvA Tryz.prog 220 = some [AV.d (D.v (Value.pointer none))] := by kernel_rfl
@[simp] theorem tk_222 : tk Tryz.prog 222 = some (false, 1) := by kernel_rfl
@[simp] theorem zvA_222 : zvA Tryz.prog 222 = some [AV.d (D.v Value.nilFunc)] := by kernel_rfl
@[simp] theorem tk_224 : tk Tryz.prog 224 = some (false, 1) := by kernel_rfl
@[simp] theorem zvA_224 : zvA Tryz.prog 224 = some [AV.d (D.v Value.nilFunc)] := by kernel_rfl
@[simp] theorem tk_230 : tk Tryz.prog 230 = some (false, 1) := by kernel_rfl
@[simp] theorem zvA_230 : zvA Tryz.prog 230 = some [AV.d (D.v Value.nilFunc)] := by kernel_rfl
@[simp] theorem tk_233 : tk Tryz.prog 233 = some (false, 1) := by kernel_rfl
@[simp] theorem zvA_233 : zvA Tryz.prog 233 = some [AV.d (D.v Value.nilFunc)] := by kernel_rfl
@[simp] theorem tk_234 : tk Tryz.prog 234 = some (false, 1) := by kernel_rfl
@[simp] theorem zvA_234 : zvA Tryz.prog 234 = some [AV.d (D.v (Value.pointer none))] := by kernel_rfl
@[simp] theorem okF_3 : okF Tryz.prog 3 = true := by kernel_rfl
@[simp] theorem okF_4 : okF Tryz.prog 4 = true := by kernel_rfl
@[simp] theorem okF_5 : okF Tryz.prog 5 = true := by kernel_rfl
@[simp] theorem okF_6 : okF Tryz.prog 6 = true := by kernel_rfl
@[simp] theorem okF_7 : okF Tryz.prog 7 = true := by kernel_rfl
@[simp] theorem okF_8 : okF Tryz.prog 8 = true := by kernel_rfl
@[simp] theorem okF_9 : okF Tryz.prog 9 = true := by kernel_rfl
@[simp] theorem okF_10 : okF Tryz.prog 10 = true := by kernel_rfl
@[simp] theorem okF_11 : okF Tryz.prog 11 = true := by kernel_rfl
@[simp] theorem okF_12 : okF Tryz.prog 12 = true := by kernel_rfl
@[simp] theorem okF_13 : okF Tryz.prog 13 = true := by kernel_rfl
@[simp] theorem okF_14 : okF Tryz.prog 14 = true := by kernel_rfl
@[simp] theorem okF_15 : okF Tryz.prog 15 = true := by kernel_rfl
@[simp] theorem okF_16 : okF Tryz.prog 16 = true := by kernel_rfl
@[simp] theorem okF_17 : okF Tryz.prog 17 = true := by kernel_rfl
@[simp] theorem okF_18 : okF Tryz.prog 18 = true := by kernel_rfl
@[simp] theorem okF_19 : okF Tryz.prog 19 = true := by kernel_rfl
@[simp] theorem okF_20 : okF Tryz.prog 20 = true := by kernel_rfl
@[simp] theorem okF_21 : okF Tryz.prog 21 = true := by kernel_rfl
@[simp] theorem okF_22 : okF Tryz.prog 22 = true := by kernel_rfl
@[simp] theorem okF_23 : okF Tryz.prog 23 = true := by kernel_rfl
@[simp] theorem okF_24 : okF Tryz.prog 24 = true := by kernel_rfl
@[simp] theorem okF_25 : okF Tryz.prog 25 = true := by kernel_rfl
@[simp] theorem okF_26 : okF Tryz.prog 26 = true := by kernel_rfl
@[simp] theorem okF_27 : okF Tryz.prog 27 = true := by kernel_rfl
@[simp] theorem okF_28 : okF Tryz.prog 28 = true := by kernel_rfl
@[simp] theorem okF_29 : okF Tryz.prog 29 = true := by kernel_rfl
@[simp] theorem okF_30 : okF Tryz.prog 30 = true := by kernel_rfl
@[simp] theorem okF_31 : okF Tryz.prog 31 = true := by kernel_rfl
@[simp] theorem okF_32 : okF Tryz.prog 32 = true := by kernel_rfl
@[simp] theorem okF_33 : okF Tryz.prog 33 = true := by kernel_rfl
@[simp] theorem okF_34 : okF Tryz.prog 34 = true := by kernel_rfl
@[simp] theorem okF_35 : okF Tryz.prog 35 = true := by kernel_rfl
@[simp] theorem okF_36 : okF Tryz.prog 36 = true := by kernel_rfl
@[simp] theorem okF_37 : okF Tryz.prog 37 = true := by kernel_rfl
@[simp] theorem okF_38 : okF Tryz.prog 38 = true := by kernel_rfl
@[simp] theorem okF_39 : okF Tryz.prog 39 = true := by kernel_rfl
@[simp] theorem okF_40 : okF Tryz.prog 40 = true := by kernel_rfl
@[simp] theorem okF_41 : okF Tryz.prog 41 = true := by kernel_rfl
@[simp] theorem okF_42 : okF Tryz.prog 42 = true := by kernel_rfl
@[simp] theorem okF_43 : okF Tryz.prog 43 = true := by kernel_rfl
@[simp] theorem okF_44 : okF Tryz.prog 44 = true := by kernel_rfl
@[simp] theorem okF_45 : okF Tryz.prog 45 = true := by kernel_rfl
@[simp] theorem okF_46 : okF Tryz.prog 46 = true := by kernel_rfl
@[simp] theorem okF_47 : okF Tryz.prog 47 = true := by kernel_rfl
@[simp] theorem okF_48 : okF Tryz.prog 48 = true := by kernel_rfl
@[simp] theorem okF_49 : okF Tryz.prog 49 = true := by kernel_rfl
@[simp] theorem okF_50 : okF Tryz.prog 50 = true := by kernel_rfl
@[simp] theorem okF_51 : okF Tryz.prog 51 = true := by kernel_rfl
@[simp] theorem okF_52 : okF Tryz.prog 52 = true := by kernel_rfl
@[simp] theorem okF_53 : okF Tryz.prog 53 = true := by kernel_rfl
@[simp] theorem okF_54 : okF Tryz.prog 54 = true := by kernel_rfl
@[simp] theorem okF_55 : okF Tryz.prog 55 = true := by kernel_rfl
@[simp] theorem okF_56 : okF Tryz.prog 56 = true := by kernel_rfl
@[simp] theorem okF_57 : okF Tryz.prog 57 = true := by kernel_rfl
@[simp] theorem okF_58 : okF Tryz.prog 58 = true := by kernel_rfl
@[simp] theorem okF_59 : okF Tryz.prog 59 = true := by kernel_rfl
@[simp] theorem okF_60 : okF Tryz.prog 60 = true := by kernel_rfl
@[simp] theorem okF_61 : okF Tryz.prog 61 = true := by kernel_rfl
@[simp] theorem okF_62 : okF Tryz.prog 62 = true := by kernel_rfl
@[simp] theorem okF_63 : okF Tryz.prog 63 = true := by kernel_rfl
@[simp] theorem okF_64 : okF Tryz.prog 64 = true := by kernel_rfl
@[simp] theorem okF_65 : okF Tryz.prog 65 = true := by kernel_rfl
@[simp] theorem okF_66 : okF Tryz.prog 66 = true := by kernel_rfl
@[simp] theorem okF_67 : okF Tryz.prog 67 = true := by kernel_rfl
@[simp] theorem okF_68 : okF Tryz.prog 68 = true := by kernel_rfl
@[simp] theorem okF_69 : okF Tryz.prog 69 = true := by kernel_rfl
@[simp] theorem okF_70 : okF Tryz.prog 70 = true := by kernel_rfl
@[simp] theorem okF_71 : okF Tryz.prog 71 = true := by kernel_rfl
@[simp] theorem okF_72 : okF Tryz.prog 72 = true := by kernel_rfl
@[simp] theorem okF_73 : okF Tryz.prog 73 = true := by kernel_rfl
@[simp] theorem okF_74 : okF Tryz.prog 74 = true := by kernel_rfl
@[simp] theorem okF_75 : okF Tryz.prog 75 = true := by kernel_rfl
@[simp] theorem okF_76 : okF Tryz.prog 76 = true := by kernel_rfl
@[simp] theorem okF_78 : okF Tryz.prog 78 = true := by kernel_rfl
@[simp] theorem okF_79 : okF Tryz.prog 79 = true := by kernel_rfl
@[simp] theorem okF_80 : okF Tryz.prog 80 = true := by kernel_rfl
@[simp] theorem okF_81 : okF Tryz.prog 81 = true := by kernel_rfl
@[simp] theorem okF_82 : okF Tryz.prog 82 = true := by kernel_rfl
@[simp] theorem okF_83 : okF Tryz.prog 83 = true := by kernel_rfl
@[simp] theorem okF_84 : okF Tryz.prog 84 = true := by kernel_rfl
@[simp] theorem okF_85 : okF Tryz.prog 85 = true := by kernel_rfl
@[simp] theorem okF_86 : okF Tryz.prog 86 = true := by kernel_rfl
@[simp] theorem okF_87 : okF Tryz.prog 87 = true := by kernel_rfl
@[simp] theorem okF_88 : okF Tryz.prog 88 = true := by kernel_rfl
@[simp] theorem okF_89 : okF Tryz.prog 89 = true := by kernel_rfl
@[simp] theorem okF_90 : okF Tryz.prog 90 = true := by kernel_rfl
@[simp] theorem okF_91 : okF Tryz.prog 91 = true := by kernel_rfl
@[simp] theorem okF_92 : okF Tryz.prog 92 = true := by kernel_rfl
@[simp] theorem okF_93 : okF Tryz.prog 93 = true := by kernel_rfl
@[simp] theorem okF_94 : okF Tryz.prog 94 = true := by kernel_rfl
@[simp] theorem okF_95 : okF Tryz.prog 95 = true := by kernel_rfl
@[simp] theorem okF_96 : okF Tryz.prog 96 = true := by kernel_rfl
@[simp] theorem okF_97 : okF Tryz.prog 97 = true := by kernel_rfl
@[simp] theorem okF_98 : okF Tryz.prog 98 = true := by kernel_rfl
@[simp] theorem okF_99 : okF Tryz.prog 99 = true := by kernel_rfl
@[simp] theorem okF_100 : okF Tryz.prog 100 = true := by kernel_rfl
@[simp] theorem okF_101 : okF Tryz.prog 101 = true := by kernel_rfl
@[simp] theorem okF_102 : okF Tryz.prog 102 = true := by kernel_rfl
@[simp] theorem okF_103 : okF Tryz.prog 103 = true := by kernel_rfl
@[simp] theorem okF_104 : okF Tryz.prog 104 = true := by kernel_rfl
@[simp] theorem okF_105 : okF Tryz.prog 105 = true := by kernel_rfl
@[simp] theorem okF_106 : okF Tryz.prog 106 = true := by kernel_rfl
@[simp] theorem okF_107 : okF Tryz.prog 107 = true := by kernel_rfl
@[simp] theorem okF_108 : okF Tryz.prog 108 = true := by kernel_rfl
@[simp] theorem okF_109 : okF Tryz.prog 109 = true := by kernel_rfl
@[simp] theorem okF_110 : okF Tryz.prog 110 = true := by kernel_rfl
@[simp] theorem okF_111 : okF Tryz.prog 111 = true := by kernel_rfl
@[simp] theorem okF_112 : okF Tryz.prog 112 = true := by kernel_rfl
@[simp] theorem okF_113 : okF Tryz.prog 113 = true := by kernel_rfl
@[simp] theorem okF_114 : okF Tryz.prog 114 = true := by kernel_rfl
@[simp] theorem okF_115 : okF Tryz.prog 115 = true := by kernel_rfl
@[simp] theorem okF_116 : okF Tryz.prog 116 = true := by kernel_rfl
@[simp] theorem okF_117 : okF Tryz.prog 117 = true := by kernel_rfl
@[simp] theorem okF_118 : okF Tryz.prog 118 = true := by kernel_rfl
@[simp] theorem okF_119 : okF Tryz.prog 119 = true := by kernel_rfl
@[simp] theorem okF_120 : okF Tryz.prog 120 = true := by kernel_rfl
@[simp] theorem okF_121 : okF Tryz.prog 121 = true := by kernel_rfl
@[simp] theorem okF_122 : okF Tryz.prog 122 = true := by kernel_rfl
@[simp] theorem okF_123 : okF Tryz.prog 123 = true := by kernel_rfl
@[simp] theorem okF_124 : okF Tryz.prog 124 = true := by kernel_rfl
@[simp] theorem okF_125 : okF Tryz.prog 125 = true := by kernel_rfl
@[simp] theorem okF_126 : okF Tryz.prog 126 = true := by kernel_rfl
@[simp] theorem okF_127 : okF Tryz.prog 127 = true := by kernel_rfl
@[simp] theorem okF_128 : okF Tryz.prog 128 = true := by kernel_rfl
@[simp] theorem okF_129 : okF Tryz.prog 129 = true := by kernel_rfl
@[simp] theorem okF_130 : okF Tryz.prog 130 = true := by kernel_rfl
@[simp] theorem okF_131 : okF Tryz.prog 131 = true := by kernel_rfl
@[simp] theorem okF_132 : okF Tryz.prog 132 = true := by kernel_rfl
@[simp] theorem okF_133 : okF Tryz.prog 133 = true := by kernel_rfl
@[simp] theorem okF_134 : okF Tryz.prog 134 = true := by kernel_rfl
@[simp] theorem okF_135 : okF Tryz.prog 135 = true := by kernel_rfl
@[simp] theorem okF_136 : okF Tryz.prog 136 = true := by kernel_rfl
@[simp] theorem okF_137 : okF Tryz.prog 137 = true := by kernel_rfl
@[simp] theorem okF_138 : okF Tryz.prog 138 = true := by kernel_rfl
@[simp] theorem okF_139 : okF Tryz.prog 139 = true := by kernel_rfl
@[simp] theorem okF_140 : okF Tryz.prog 140 = true := by kernel_rfl
@[simp] theorem okF_141 : okF Tryz.prog 141 = true := by kernel_rfl
@[simp] theorem okF_142 : okF Tryz.prog 142 = true := by kernel_rfl
@[simp] theorem okF_143 : okF Tryz.prog 143 = true := by kernel_rfl
@[simp] theorem okF_144 : okF Tryz.prog 144 = true := by kernel_rfl
@[simp] theorem okF_145 : okF Tryz.prog 145 = true := by kernel_rfl
@[simp] theorem okF_146 : okF Tryz.prog 146 = true := by kernel_rfl
@[simp] theorem okF_147 : okF Tryz.prog 147 = true := by kernel_rfl
@[simp] theorem okF_148 : okF Tryz.prog 148 = true := by kernel_rfl
@[simp] theorem okF_149 : okF Tryz.prog 149 = true := by kernel_rfl
@[simp] theorem okF_150 : okF Tryz.prog 150 = true := by kernel_rfl
@[simp] theorem okF_151 : okF Tryz.prog 151 = true := by kernel_rfl
@[simp] theorem okF_152 : okF Tryz.prog 152 = true := by kernel_rfl
@[simp] theorem okF_153 : okF Tryz.prog 153 = true := by kernel_rfl
@[simp] theorem okF_154 : okF Tryz.prog 154 = true := by kernel_rfl
@[simp] theorem okF_155 : okF Tryz.prog 155 = true := by kernel_rfl
@[simp] theorem okF_156 : okF Tryz.prog 156 = true := by kernel_rfl
@[simp] theorem okF_157 : okF Tryz.prog 157 = true := by kernel_rfl
@[simp] theorem okF_158 : okF Tryz.prog 158 = true := by kernel_rfl
@[simp] theorem okF_159 : okF Tryz.prog 159 = true := by kernel_rfl
@[simp] theorem okF_160 : okF Tryz.prog 160 = true := by kernel_rfl
@[simp] theorem okF_161 : okF Tryz.prog 161 = true := by kernel_rfl
@[simp] theorem okF_162 : okF Tryz.prog 162 = true := by kernel_rfl
@[simp] theorem okF_163 : okF Tryz.prog 163 = true := by kernel_rfl
@[simp] theorem okF_164 : okF Tryz.prog 164 = true := by kernel_rfl
@[simp] theorem okF_165 : okF Tryz.prog 165 = true := by kernel_rfl
@[simp] theorem okF_166 : okF Tryz.prog 166 = true := by kernel_rfl
@[simp] theorem okF_167 : okF Tryz.prog 167 = true := by kernel_rfl
@[simp] theorem okF_168 : okF Tryz.prog 168 = true := by kernel_rfl
@[simp] theorem okF_169 : okF Tryz.prog 169 = true := by kernel_rfl
@[simp] theorem okF_170 : okF Tryz.prog 170 = true := by kernel_rfl
@[simp] theorem okF_171 : okF Tryz.prog 171 = true := by kernel_rfl
@[simp] theorem okF_172 : okF Tryz.prog 172 = true := by kernel_rfl
@[simp] theorem okF_173 : okF Tryz.prog 173 = true := by kernel_rfl
@[simp] theorem okF_174 : okF Tryz.prog 174 = true := by kernel_rfl
@[simp] theorem okF_175 : okF Tryz.prog 175 = true := by kernel_rfl
@[simp] theorem okF_176 : okF Tryz.prog 176 = true := by kernel_rfl
end Go.Proofs.YtagkfkhagjlmpaaGreat
