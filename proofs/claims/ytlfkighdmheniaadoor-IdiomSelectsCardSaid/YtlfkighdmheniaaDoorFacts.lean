/- Closed facts on the program's types and functions, made by program: what the calculator asks of its tables. -/
import Derived.Test.YtlfkighdmheniaaDoorProg
import Derived.Test.YtlfkighdmheniaaDoorAh
import Derived.KernelRfl
namespace Go.Proofs.YtlfkighdmheniaaDoor
set_option maxRecDepth 100000
@[simp] theorem tk_7 : tk Tryd.prog 7 = some (true, 4) := by kernel_rfl
@[simp] theorem places_7 : places Tryd.prog 7 = some [(0, 1), (1, 1), (2, 1), (3, 1)] := by kernel_rfl
@[simp] theorem zvA_7 : zvA Tryd.prog 7 = some [AV.d (D.v (Value.int IntKind.i64 (0))), AV.d (D.v (Value.int IntKind.i64 (0))), AV.d (D.v (Value.bool false)), AV.d (D.v (Value.int IntKind.u8 (0)))] := by kernel_rfl
@[simp] theorem ar_7 : ar Tryd.prog 7 = none := by kernel_rfl
@[simp] theorem fo_7_0 : fo Tryd.prog 7 0 = some 0 := by kernel_rfl
@[simp] theorem ft_7_0 : ft Tryd.prog 7 0 = some (2, 0) := by kernel_rfl
@[simp] theorem fo_7_1 : fo Tryd.prog 7 1 = some 1 := by kernel_rfl
@[simp] theorem ft_7_1 : ft Tryd.prog 7 1 = some (3, 1) := by kernel_rfl
@[simp] theorem fo_7_2 : fo Tryd.prog 7 2 = some 2 := by kernel_rfl
@[simp] theorem ft_7_2 : ft Tryd.prog 7 2 = some (4, 2) := by kernel_rfl
@[simp] theorem fo_7_3 : fo Tryd.prog 7 3 = some 3 := by kernel_rfl
@[simp] theorem ft_7_3 : ft Tryd.prog 7 3 = some (6, 3) := by kernel_rfl
@[simp] theorem tk_8 : tk Tryd.prog 8 = some (true, 4) := by kernel_rfl
@[simp] theorem places_8 : places Tryd.prog 8 = some [(0, 1), (1, 1), (2, 1), (3, 1)] := by kernel_rfl
@[simp] theorem zvA_8 : zvA Tryd.prog 8 = some [AV.d (D.v (Value.int IntKind.i64 (0))), AV.d (D.v (Value.int IntKind.i64 (0))), AV.d (D.v (Value.bool false)), AV.d (D.v (Value.int IntKind.u8 (0)))] := by kernel_rfl
@[simp] theorem ar_8 : ar Tryd.prog 8 = none := by kernel_rfl
@[simp] theorem fo_8_0 : fo Tryd.prog 8 0 = some 0 := by kernel_rfl
@[simp] theorem ft_8_0 : ft Tryd.prog 8 0 = some (2, 0) := by kernel_rfl
@[simp] theorem fo_8_1 : fo Tryd.prog 8 1 = some 1 := by kernel_rfl
@[simp] theorem ft_8_1 : ft Tryd.prog 8 1 = some (3, 1) := by kernel_rfl
@[simp] theorem fo_8_2 : fo Tryd.prog 8 2 = some 2 := by kernel_rfl
@[simp] theorem ft_8_2 : ft Tryd.prog 8 2 = some (4, 2) := by kernel_rfl
@[simp] theorem fo_8_3 : fo Tryd.prog 8 3 = some 3 := by kernel_rfl
@[simp] theorem ft_8_3 : ft Tryd.prog 8 3 = some (6, 3) := by kernel_rfl
@[simp] theorem tk_13 : tk Tryd.prog 13 = some (true, 2) := by kernel_rfl
@[simp] theorem places_13 : places Tryd.prog 13 = some [(0, 1), (1, 1)] := by kernel_rfl
@[simp] theorem zvA_13 : zvA Tryd.prog 13 = some [AV.d (D.v (Value.string { data := #[] })), AV.d (D.v (Value.int IntKind.u64 (0)))] := by kernel_rfl
@[simp] theorem ar_13 : ar Tryd.prog 13 = none := by kernel_rfl
@[simp] theorem fo_13_0 : fo Tryd.prog 13 0 = some 0 := by kernel_rfl
@[simp] theorem ft_13_0 : ft Tryd.prog 13 0 = some (9, 0) := by kernel_rfl
@[simp] theorem fo_13_1 : fo Tryd.prog 13 1 = some 1 := by kernel_rfl
@[simp] theorem ft_13_1 : ft Tryd.prog 13 1 = some (12, 1) := by kernel_rfl
@[simp] theorem tk_14 : tk Tryd.prog 14 = some (true, 2) := by kernel_rfl
@[simp] theorem places_14 : places Tryd.prog 14 = some [(0, 1), (1, 1)] := by kernel_rfl
@[simp] theorem zvA_14 : zvA Tryd.prog 14 = some [AV.d (D.v (Value.string { data := #[] })), AV.d (D.v (Value.int IntKind.u64 (0)))] := by kernel_rfl
@[simp] theorem ar_14 : ar Tryd.prog 14 = none := by kernel_rfl
@[simp] theorem fo_14_0 : fo Tryd.prog 14 0 = some 0 := by kernel_rfl
@[simp] theorem ft_14_0 : ft Tryd.prog 14 0 = some (9, 0) := by kernel_rfl
@[simp] theorem fo_14_1 : fo Tryd.prog 14 1 = some 1 := by kernel_rfl
@[simp] theorem ft_14_1 : ft Tryd.prog 14 1 = some (12, 1) := by kernel_rfl
@[simp] theorem tk_18 : tk Tryd.prog 18 = some (true, 1) := by kernel_rfl
@[simp] theorem places_18 : places Tryd.prog 18 = some [(0, 1)] := by kernel_rfl
@[simp] theorem zvA_18 : zvA Tryd.prog 18 = some [AV.d (D.v (Value.pointer none))] := by kernel_rfl
@[simp] theorem ar_18 : ar Tryd.prog 18 = none := by kernel_rfl
@[simp] theorem fo_18_0 : fo Tryd.prog 18 0 = some 0 := by kernel_rfl
@[simp] theorem ft_18_0 : ft Tryd.prog 18 0 = some (17, 0) := by kernel_rfl
@[simp] theorem tk_19 : tk Tryd.prog 19 = some (true, 1) := by kernel_rfl
@[simp] theorem places_19 : places Tryd.prog 19 = some [(0, 1)] := by kernel_rfl
@[simp] theorem zvA_19 : zvA Tryd.prog 19 = some [AV.d (D.v (Value.pointer none))] := by kernel_rfl
@[simp] theorem ar_19 : ar Tryd.prog 19 = none := by kernel_rfl
@[simp] theorem fo_19_0 : fo Tryd.prog 19 0 = some 0 := by kernel_rfl
@[simp] theorem ft_19_0 : ft Tryd.prog 19 0 = some (17, 0) := by kernel_rfl
@[simp] theorem tk_24 : tk Tryd.prog 24 = some (true, 5) := by kernel_rfl
@[simp] theorem places_24 : places Tryd.prog 24 = some [(0, 1), (1, 1), (2, 1), (3, 1), (4, 1)] := by kernel_rfl
@[simp] theorem zvA_24 : zvA Tryd.prog 24 = some [AV.d (D.v (Value.int IntKind.i64 (0))), AV.d (D.v (Value.int IntKind.u32 (0))), AV.d (D.v (Value.int IntKind.i64 (0))), AV.d (D.v (Value.int IntKind.i64 (0))), AV.d (D.v (Value.slice none 0 0))] := by kernel_rfl
@[simp] theorem ar_24 : ar Tryd.prog 24 = none := by kernel_rfl
@[simp] theorem fo_24_0 : fo Tryd.prog 24 0 = some 0 := by kernel_rfl
@[simp] theorem ft_24_0 : ft Tryd.prog 24 0 = some (3, 0) := by kernel_rfl
@[simp] theorem fo_24_1 : fo Tryd.prog 24 1 = some 1 := by kernel_rfl
@[simp] theorem ft_24_1 : ft Tryd.prog 24 1 = some (22, 1) := by kernel_rfl
@[simp] theorem fo_24_2 : fo Tryd.prog 24 2 = some 2 := by kernel_rfl
@[simp] theorem ft_24_2 : ft Tryd.prog 24 2 = some (3, 2) := by kernel_rfl
@[simp] theorem fo_24_3 : fo Tryd.prog 24 3 = some 3 := by kernel_rfl
@[simp] theorem ft_24_3 : ft Tryd.prog 24 3 = some (3, 3) := by kernel_rfl
@[simp] theorem fo_24_4 : fo Tryd.prog 24 4 = some 4 := by kernel_rfl
@[simp] theorem ft_24_4 : ft Tryd.prog 24 4 = some (23, 4) := by kernel_rfl
@[simp] theorem tk_25 : tk Tryd.prog 25 = some (true, 5) := by kernel_rfl
@[simp] theorem places_25 : places Tryd.prog 25 = some [(0, 1), (1, 1), (2, 1), (3, 1), (4, 1)] := by kernel_rfl
@[simp] theorem zvA_25 : zvA Tryd.prog 25 = some [AV.d (D.v (Value.int IntKind.i64 (0))), AV.d (D.v (Value.int IntKind.u32 (0))), AV.d (D.v (Value.int IntKind.i64 (0))), AV.d (D.v (Value.int IntKind.i64 (0))), AV.d (D.v (Value.slice none 0 0))] := by kernel_rfl
@[simp] theorem ar_25 : ar Tryd.prog 25 = none := by kernel_rfl
@[simp] theorem fo_25_0 : fo Tryd.prog 25 0 = some 0 := by kernel_rfl
@[simp] theorem ft_25_0 : ft Tryd.prog 25 0 = some (3, 0) := by kernel_rfl
@[simp] theorem fo_25_1 : fo Tryd.prog 25 1 = some 1 := by kernel_rfl
@[simp] theorem ft_25_1 : ft Tryd.prog 25 1 = some (22, 1) := by kernel_rfl
@[simp] theorem fo_25_2 : fo Tryd.prog 25 2 = some 2 := by kernel_rfl
@[simp] theorem ft_25_2 : ft Tryd.prog 25 2 = some (3, 2) := by kernel_rfl
@[simp] theorem fo_25_3 : fo Tryd.prog 25 3 = some 3 := by kernel_rfl
@[simp] theorem ft_25_3 : ft Tryd.prog 25 3 = some (3, 3) := by kernel_rfl
@[simp] theorem fo_25_4 : fo Tryd.prog 25 4 = some 4 := by kernel_rfl
@[simp] theorem ft_25_4 : ft Tryd.prog 25 4 = some (23, 4) := by kernel_rfl
@[simp] theorem tk_35 : tk Tryd.prog 35 = some (true, 1) := by kernel_rfl
@[simp] theorem places_35 : places Tryd.prog 35 = some [(0, 1)] := by kernel_rfl
@[simp] theorem zvA_35 : zvA Tryd.prog 35 = some [AV.d (D.v (Value.slice none 0 0))] := by kernel_rfl
@[simp] theorem ar_35 : ar Tryd.prog 35 = none := by kernel_rfl
@[simp] theorem fo_35_0 : fo Tryd.prog 35 0 = some 0 := by kernel_rfl
@[simp] theorem ft_35_0 : ft Tryd.prog 35 0 = some (33, 0) := by kernel_rfl
@[simp] theorem tk_36 : tk Tryd.prog 36 = some (true, 1) := by kernel_rfl
@[simp] theorem places_36 : places Tryd.prog 36 = some [(0, 1)] := by kernel_rfl
@[simp] theorem zvA_36 : zvA Tryd.prog 36 = some [AV.d (D.v (Value.slice none 0 0))] := by kernel_rfl
@[simp] theorem ar_36 : ar Tryd.prog 36 = none := by kernel_rfl
@[simp] theorem fo_36_0 : fo Tryd.prog 36 0 = some 0 := by kernel_rfl
@[simp] theorem ft_36_0 : ft Tryd.prog 36 0 = some (33, 0) := by kernel_rfl
@[simp] theorem tk_39 : tk Tryd.prog 39 = some (true, 3) := by kernel_rfl
@[simp] theorem places_39 : places Tryd.prog 39 = some [(0, 1), (1, 1), (2, 1)] := by kernel_rfl
@[simp] theorem zvA_39 : zvA Tryd.prog 39 = some [AV.d (D.v (Value.bool false)), AV.d (D.v (Value.slice none 0 0)), AV.d (D.v (Value.slice none 0 0))] := by kernel_rfl
@[simp] theorem ar_39 : ar Tryd.prog 39 = none := by kernel_rfl
@[simp] theorem fo_39_0 : fo Tryd.prog 39 0 = some 0 := by kernel_rfl
@[simp] theorem ft_39_0 : ft Tryd.prog 39 0 = some (4, 0) := by kernel_rfl
@[simp] theorem fo_39_1 : fo Tryd.prog 39 1 = some 1 := by kernel_rfl
@[simp] theorem ft_39_1 : ft Tryd.prog 39 1 = some (37, 1) := by kernel_rfl
@[simp] theorem fo_39_2 : fo Tryd.prog 39 2 = some 2 := by kernel_rfl
@[simp] theorem ft_39_2 : ft Tryd.prog 39 2 = some (38, 2) := by kernel_rfl
@[simp] theorem tk_40 : tk Tryd.prog 40 = some (true, 3) := by kernel_rfl
@[simp] theorem places_40 : places Tryd.prog 40 = some [(0, 1), (1, 1), (2, 1)] := by kernel_rfl
@[simp] theorem zvA_40 : zvA Tryd.prog 40 = some [AV.d (D.v (Value.bool false)), AV.d (D.v (Value.slice none 0 0)), AV.d (D.v (Value.slice none 0 0))] := by kernel_rfl
@[simp] theorem ar_40 : ar Tryd.prog 40 = none := by kernel_rfl
@[simp] theorem fo_40_0 : fo Tryd.prog 40 0 = some 0 := by kernel_rfl
@[simp] theorem ft_40_0 : ft Tryd.prog 40 0 = some (4, 0) := by kernel_rfl
@[simp] theorem fo_40_1 : fo Tryd.prog 40 1 = some 1 := by kernel_rfl
@[simp] theorem ft_40_1 : ft Tryd.prog 40 1 = some (37, 1) := by kernel_rfl
@[simp] theorem fo_40_2 : fo Tryd.prog 40 2 = some 2 := by kernel_rfl
@[simp] theorem ft_40_2 : ft Tryd.prog 40 2 = some (38, 2) := by kernel_rfl
@[simp] theorem tk_58 : tk Tryd.prog 58 = some (true, 4) := by kernel_rfl
@[simp] theorem places_58 : places Tryd.prog 58 = some [(0, 1), (1, 1), (2, 1), (3, 1)] := by kernel_rfl
@[simp] theorem zvA_58 : zvA Tryd.prog 58 = some [AV.d (D.v (Value.bool false)), AV.d (D.v (Value.bool false)), AV.d (D.v (Value.bool false)), AV.d (D.v (Value.bool false))] := by kernel_rfl
@[simp] theorem ar_58 : ar Tryd.prog 58 = none := by kernel_rfl
@[simp] theorem fo_58_0 : fo Tryd.prog 58 0 = some 0 := by kernel_rfl
@[simp] theorem ft_58_0 : ft Tryd.prog 58 0 = some (4, 0) := by kernel_rfl
@[simp] theorem fo_58_1 : fo Tryd.prog 58 1 = some 1 := by kernel_rfl
@[simp] theorem ft_58_1 : ft Tryd.prog 58 1 = some (4, 1) := by kernel_rfl
@[simp] theorem fo_58_2 : fo Tryd.prog 58 2 = some 2 := by kernel_rfl
@[simp] theorem ft_58_2 : ft Tryd.prog 58 2 = some (4, 2) := by kernel_rfl
@[simp] theorem fo_58_3 : fo Tryd.prog 58 3 = some 3 := by kernel_rfl
@[simp] theorem ft_58_3 : ft Tryd.prog 58 3 = some (4, 3) := by kernel_rfl
@[simp] theorem tk_59 : tk Tryd.prog 59 = some (true, 4) := by kernel_rfl
@[simp] theorem places_59 : places Tryd.prog 59 = some [(0, 1), (1, 1), (2, 1), (3, 1)] := by kernel_rfl
@[simp] theorem zvA_59 : zvA Tryd.prog 59 = some [AV.d (D.v (Value.bool false)), AV.d (D.v (Value.bool false)), AV.d (D.v (Value.bool false)), AV.d (D.v (Value.bool false))] := by kernel_rfl
@[simp] theorem ar_59 : ar Tryd.prog 59 = none := by kernel_rfl
@[simp] theorem fo_59_0 : fo Tryd.prog 59 0 = some 0 := by kernel_rfl
@[simp] theorem ft_59_0 : ft Tryd.prog 59 0 = some (4, 0) := by kernel_rfl
@[simp] theorem fo_59_1 : fo Tryd.prog 59 1 = some 1 := by kernel_rfl
@[simp] theorem ft_59_1 : ft Tryd.prog 59 1 = some (4, 1) := by kernel_rfl
@[simp] theorem fo_59_2 : fo Tryd.prog 59 2 = some 2 := by kernel_rfl
@[simp] theorem ft_59_2 : ft Tryd.prog 59 2 = some (4, 2) := by kernel_rfl
@[simp] theorem fo_59_3 : fo Tryd.prog 59 3 = some 3 := by kernel_rfl
@[simp] theorem ft_59_3 : ft Tryd.prog 59 3 = some (4, 3) := by kernel_rfl
@[simp] theorem tk_64 : tk Tryd.prog 64 = some (true, 1) := by kernel_rfl
@[simp] theorem places_64 : places Tryd.prog 64 = some [(0, 1)] := by kernel_rfl
@[simp] theorem zvA_64 : zvA Tryd.prog 64 = some [AV.d (D.v (Value.slice none 0 0))] := by kernel_rfl
@[simp] theorem ar_64 : ar Tryd.prog 64 = none := by kernel_rfl
@[simp] theorem fo_64_0 : fo Tryd.prog 64 0 = some 0 := by kernel_rfl
@[simp] theorem ft_64_0 : ft Tryd.prog 64 0 = some (33, 0) := by kernel_rfl
@[simp] theorem tk_77 : tk Tryd.prog 77 = some (true, 5) := by kernel_rfl
@[simp] theorem places_77 : places Tryd.prog 77 = some [(0, 1), (1, 1), (2, 1), (3, 1), (4, 1)] := by kernel_rfl
@[simp] theorem zvA_77 : zvA Tryd.prog 77 = some [AV.d (D.v (Value.string { data := #[] })), AV.d (D.v (Value.int IntKind.u32 (0))), AV.d (D.v (Value.slice none 0 0)), AV.d (D.v (Value.bool false)), AV.d (D.v (Value.bool false))] := by kernel_rfl
@[simp] theorem ar_77 : ar Tryd.prog 77 = none := by kernel_rfl
@[simp] theorem fo_77_0 : fo Tryd.prog 77 0 = some 0 := by kernel_rfl
@[simp] theorem ft_77_0 : ft Tryd.prog 77 0 = some (9, 0) := by kernel_rfl
@[simp] theorem fo_77_1 : fo Tryd.prog 77 1 = some 1 := by kernel_rfl
@[simp] theorem ft_77_1 : ft Tryd.prog 77 1 = some (22, 1) := by kernel_rfl
@[simp] theorem fo_77_2 : fo Tryd.prog 77 2 = some 2 := by kernel_rfl
@[simp] theorem ft_77_2 : ft Tryd.prog 77 2 = some (74, 2) := by kernel_rfl
@[simp] theorem fo_77_3 : fo Tryd.prog 77 3 = some 3 := by kernel_rfl
@[simp] theorem ft_77_3 : ft Tryd.prog 77 3 = some (4, 3) := by kernel_rfl
@[simp] theorem fo_77_4 : fo Tryd.prog 77 4 = some 4 := by kernel_rfl
@[simp] theorem ft_77_4 : ft Tryd.prog 77 4 = some (4, 4) := by kernel_rfl
@[simp] theorem tk_78 : tk Tryd.prog 78 = some (true, 5) := by kernel_rfl
@[simp] theorem places_78 : places Tryd.prog 78 = some [(0, 1), (1, 1), (2, 1), (3, 1), (4, 1)] := by kernel_rfl
@[simp] theorem zvA_78 : zvA Tryd.prog 78 = some [AV.d (D.v (Value.string { data := #[] })), AV.d (D.v (Value.int IntKind.u32 (0))), AV.d (D.v (Value.slice none 0 0)), AV.d (D.v (Value.bool false)), AV.d (D.v (Value.bool false))] := by kernel_rfl
@[simp] theorem ar_78 : ar Tryd.prog 78 = none := by kernel_rfl
@[simp] theorem fo_78_0 : fo Tryd.prog 78 0 = some 0 := by kernel_rfl
@[simp] theorem ft_78_0 : ft Tryd.prog 78 0 = some (9, 0) := by kernel_rfl
@[simp] theorem fo_78_1 : fo Tryd.prog 78 1 = some 1 := by kernel_rfl
@[simp] theorem ft_78_1 : ft Tryd.prog 78 1 = some (22, 1) := by kernel_rfl
@[simp] theorem fo_78_2 : fo Tryd.prog 78 2 = some 2 := by kernel_rfl
@[simp] theorem ft_78_2 : ft Tryd.prog 78 2 = some (74, 2) := by kernel_rfl
@[simp] theorem fo_78_3 : fo Tryd.prog 78 3 = some 3 := by kernel_rfl
@[simp] theorem ft_78_3 : ft Tryd.prog 78 3 = some (4, 3) := by kernel_rfl
@[simp] theorem fo_78_4 : fo Tryd.prog 78 4 = some 4 := by kernel_rfl
@[simp] theorem ft_78_4 : ft Tryd.prog 78 4 = some (4, 4) := by kernel_rfl
@[simp] theorem tk_131 : tk Tryd.prog 131 = some (true, 6) := by kernel_rfl
@[simp] theorem places_131 : places Tryd.prog 131 = some [(0, 5), (5, 1)] := by kernel_rfl
@[simp] theorem zvA_131 : zvA Tryd.prog 131 = some [AV.d (D.v (Value.int IntKind.i64 (0))), AV.d (D.v (Value.int IntKind.u32 (0))), AV.d (D.v (Value.int IntKind.i64 (0))), AV.d (D.v (Value.int IntKind.i64 (0))), AV.d (D.v (Value.slice none 0 0)), AV.d (D.v (Value.int IntKind.u32 (0)))] := by kernel_rfl
@[simp] theorem ar_131 : ar Tryd.prog 131 = none := by kernel_rfl
@[simp] theorem fo_131_0 : fo Tryd.prog 131 0 = some 0 := by kernel_rfl
@[simp] theorem ft_131_0 : ft Tryd.prog 131 0 = some (25, 0) := by kernel_rfl
@[simp] theorem fo_131_1 : fo Tryd.prog 131 1 = some 5 := by kernel_rfl
@[simp] theorem ft_131_1 : ft Tryd.prog 131 1 = some (22, 5) := by kernel_rfl
@[simp] theorem tk_132 : tk Tryd.prog 132 = some (true, 6) := by kernel_rfl
@[simp] theorem places_132 : places Tryd.prog 132 = some [(0, 5), (5, 1)] := by kernel_rfl
@[simp] theorem zvA_132 : zvA Tryd.prog 132 = some [AV.d (D.v (Value.int IntKind.i64 (0))), AV.d (D.v (Value.int IntKind.u32 (0))), AV.d (D.v (Value.int IntKind.i64 (0))), AV.d (D.v (Value.int IntKind.i64 (0))), AV.d (D.v (Value.slice none 0 0)), AV.d (D.v (Value.int IntKind.u32 (0)))] := by kernel_rfl
@[simp] theorem ar_132 : ar Tryd.prog 132 = none := by kernel_rfl
@[simp] theorem fo_132_0 : fo Tryd.prog 132 0 = some 0 := by kernel_rfl
@[simp] theorem ft_132_0 : ft Tryd.prog 132 0 = some (25, 0) := by kernel_rfl
@[simp] theorem fo_132_1 : fo Tryd.prog 132 1 = some 5 := by kernel_rfl
@[simp] theorem ft_132_1 : ft Tryd.prog 132 1 = some (22, 5) := by kernel_rfl
@[simp] theorem tk_138 : tk Tryd.prog 138 = some (true, 2) := by kernel_rfl
@[simp] theorem places_138 : places Tryd.prog 138 = some [(0, 1), (1, 1)] := by kernel_rfl
@[simp] theorem zvA_138 : zvA Tryd.prog 138 = some [AV.d (D.v (Value.int IntKind.i64 (0))), AV.d (D.v (Value.int IntKind.i64 (0)))] := by kernel_rfl
@[simp] theorem ar_138 : ar Tryd.prog 138 = none := by kernel_rfl
@[simp] theorem fo_138_0 : fo Tryd.prog 138 0 = some 0 := by kernel_rfl
@[simp] theorem ft_138_0 : ft Tryd.prog 138 0 = some (3, 0) := by kernel_rfl
@[simp] theorem fo_138_1 : fo Tryd.prog 138 1 = some 1 := by kernel_rfl
@[simp] theorem ft_138_1 : ft Tryd.prog 138 1 = some (3, 1) := by kernel_rfl
@[simp] theorem tk_139 : tk Tryd.prog 139 = some (true, 2) := by kernel_rfl
@[simp] theorem places_139 : places Tryd.prog 139 = some [(0, 1), (1, 1)] := by kernel_rfl
@[simp] theorem zvA_139 : zvA Tryd.prog 139 = some [AV.d (D.v (Value.int IntKind.i64 (0))), AV.d (D.v (Value.int IntKind.i64 (0)))] := by kernel_rfl
@[simp] theorem ar_139 : ar Tryd.prog 139 = none := by kernel_rfl
@[simp] theorem fo_139_0 : fo Tryd.prog 139 0 = some 0 := by kernel_rfl
@[simp] theorem ft_139_0 : ft Tryd.prog 139 0 = some (3, 0) := by kernel_rfl
@[simp] theorem fo_139_1 : fo Tryd.prog 139 1 = some 1 := by kernel_rfl
@[simp] theorem ft_139_1 : ft Tryd.prog 139 1 = some (3, 1) := by kernel_rfl
@[simp] theorem tk_144 : tk Tryd.prog 144 = some (true, 2) := by kernel_rfl
@[simp] theorem places_144 : places Tryd.prog 144 = some [(0, 1), (1, 1)] := by kernel_rfl
@[simp] theorem zvA_144 : zvA Tryd.prog 144 = some [AV.d (D.v (Value.bool false)), AV.d (D.v (Value.bool false))] := by kernel_rfl
@[simp] theorem ar_144 : ar Tryd.prog 144 = none := by kernel_rfl
@[simp] theorem fo_144_0 : fo Tryd.prog 144 0 = some 0 := by kernel_rfl
@[simp] theorem ft_144_0 : ft Tryd.prog 144 0 = some (4, 0) := by kernel_rfl
@[simp] theorem fo_144_1 : fo Tryd.prog 144 1 = some 1 := by kernel_rfl
@[simp] theorem ft_144_1 : ft Tryd.prog 144 1 = some (4, 1) := by kernel_rfl
@[simp] theorem tk_145 : tk Tryd.prog 145 = some (true, 2) := by kernel_rfl
@[simp] theorem places_145 : places Tryd.prog 145 = some [(0, 1), (1, 1)] := by kernel_rfl
@[simp] theorem zvA_145 : zvA Tryd.prog 145 = some [AV.d (D.v (Value.bool false)), AV.d (D.v (Value.bool false))] := by kernel_rfl
@[simp] theorem ar_145 : ar Tryd.prog 145 = none := by kernel_rfl
@[simp] theorem fo_145_0 : fo Tryd.prog 145 0 = some 0 := by kernel_rfl
@[simp] theorem ft_145_0 : ft Tryd.prog 145 0 = some (4, 0) := by kernel_rfl
@[simp] theorem fo_145_1 : fo Tryd.prog 145 1 = some 1 := by kernel_rfl
@[simp] theorem ft_145_1 : ft Tryd.prog 145 1 = some (4, 1) := by kernel_rfl
@[simp] theorem tk_146 : tk Tryd.prog 146 = some (true, 4) := by kernel_rfl
@[simp] theorem places_146 : places Tryd.prog 146 = some [(0, 1), (1, 1), (2, 2)] := by kernel_rfl
@[simp] theorem zvA_146 : zvA Tryd.prog 146 = some [AV.d (D.v (Value.int IntKind.u64 (0))), AV.d (D.v (Value.slice none 0 0)), AV.d (D.v (Value.bool false)), AV.d (D.v (Value.bool false))] := by kernel_rfl
@[simp] theorem ar_146 : ar Tryd.prog 146 = none := by kernel_rfl
@[simp] theorem fo_146_0 : fo Tryd.prog 146 0 = some 0 := by kernel_rfl
@[simp] theorem ft_146_0 : ft Tryd.prog 146 0 = some (143, 0) := by kernel_rfl
@[simp] theorem fo_146_1 : fo Tryd.prog 146 1 = some 1 := by kernel_rfl
@[simp] theorem ft_146_1 : ft Tryd.prog 146 1 = some (74, 1) := by kernel_rfl
@[simp] theorem fo_146_2 : fo Tryd.prog 146 2 = some 2 := by kernel_rfl
@[simp] theorem ft_146_2 : ft Tryd.prog 146 2 = some (145, 2) := by kernel_rfl
@[simp] theorem tk_147 : tk Tryd.prog 147 = some (true, 4) := by kernel_rfl
@[simp] theorem places_147 : places Tryd.prog 147 = some [(0, 1), (1, 1), (2, 2)] := by kernel_rfl
@[simp] theorem zvA_147 : zvA Tryd.prog 147 = some [AV.d (D.v (Value.int IntKind.u64 (0))), AV.d (D.v (Value.slice none 0 0)), AV.d (D.v (Value.bool false)), AV.d (D.v (Value.bool false))] := by kernel_rfl
@[simp] theorem ar_147 : ar Tryd.prog 147 = none := by kernel_rfl
@[simp] theorem fo_147_0 : fo Tryd.prog 147 0 = some 0 := by kernel_rfl
@[simp] theorem ft_147_0 : ft Tryd.prog 147 0 = some (143, 0) := by kernel_rfl
@[simp] theorem fo_147_1 : fo Tryd.prog 147 1 = some 1 := by kernel_rfl
@[simp] theorem ft_147_1 : ft Tryd.prog 147 1 = some (74, 1) := by kernel_rfl
@[simp] theorem fo_147_2 : fo Tryd.prog 147 2 = some 2 := by kernel_rfl
@[simp] theorem ft_147_2 : ft Tryd.prog 147 2 = some (145, 2) := by kernel_rfl
@[simp] theorem tk_158 : tk Tryd.prog 158 = some (true, 2) := by kernel_rfl
@[simp] theorem places_158 : places Tryd.prog 158 = some [(0, 1), (1, 1)] := by kernel_rfl
@[simp] theorem zvA_158 : zvA Tryd.prog 158 = some [AV.d (D.v (Value.int IntKind.u32 (0))), AV.d (D.v (Value.int IntKind.u8 (0)))] := by kernel_rfl
@[simp] theorem ar_158 : ar Tryd.prog 158 = none := by kernel_rfl
@[simp] theorem fo_158_0 : fo Tryd.prog 158 0 = some 0 := by kernel_rfl
@[simp] theorem ft_158_0 : ft Tryd.prog 158 0 = some (22, 0) := by kernel_rfl
@[simp] theorem fo_158_1 : fo Tryd.prog 158 1 = some 1 := by kernel_rfl
@[simp] theorem ft_158_1 : ft Tryd.prog 158 1 = some (5, 1) := by kernel_rfl
@[simp] theorem tk_159 : tk Tryd.prog 159 = some (true, 2) := by kernel_rfl
@[simp] theorem places_159 : places Tryd.prog 159 = some [(0, 1), (1, 1)] := by kernel_rfl
@[simp] theorem zvA_159 : zvA Tryd.prog 159 = some [AV.d (D.v (Value.int IntKind.u32 (0))), AV.d (D.v (Value.int IntKind.u8 (0)))] := by kernel_rfl
@[simp] theorem ar_159 : ar Tryd.prog 159 = none := by kernel_rfl
@[simp] theorem fo_159_0 : fo Tryd.prog 159 0 = some 0 := by kernel_rfl
@[simp] theorem ft_159_0 : ft Tryd.prog 159 0 = some (22, 0) := by kernel_rfl
@[simp] theorem fo_159_1 : fo Tryd.prog 159 1 = some 1 := by kernel_rfl
@[simp] theorem ft_159_1 : ft Tryd.prog 159 1 = some (5, 1) := by kernel_rfl
@[simp] theorem tk_164 : tk Tryd.prog 164 = some (true, 3) := by kernel_rfl
@[simp] theorem places_164 : places Tryd.prog 164 = some [(0, 1), (1, 1), (2, 1)] := by kernel_rfl
@[simp] theorem zvA_164 : zvA Tryd.prog 164 = some [AV.d (D.v (Value.slice none 0 0)), AV.d (D.v (Value.slice none 0 0)), AV.d (D.v (Value.int IntKind.i64 (0)))] := by kernel_rfl
@[simp] theorem ar_164 : ar Tryd.prog 164 = none := by kernel_rfl
@[simp] theorem fo_164_0 : fo Tryd.prog 164 0 = some 0 := by kernel_rfl
@[simp] theorem ft_164_0 : ft Tryd.prog 164 0 = some (162, 0) := by kernel_rfl
@[simp] theorem fo_164_1 : fo Tryd.prog 164 1 = some 1 := by kernel_rfl
@[simp] theorem ft_164_1 : ft Tryd.prog 164 1 = some (163, 1) := by kernel_rfl
@[simp] theorem fo_164_2 : fo Tryd.prog 164 2 = some 2 := by kernel_rfl
@[simp] theorem ft_164_2 : ft Tryd.prog 164 2 = some (3, 2) := by kernel_rfl
@[simp] theorem tk_165 : tk Tryd.prog 165 = some (true, 3) := by kernel_rfl
@[simp] theorem places_165 : places Tryd.prog 165 = some [(0, 1), (1, 1), (2, 1)] := by kernel_rfl
@[simp] theorem zvA_165 : zvA Tryd.prog 165 = some [AV.d (D.v (Value.slice none 0 0)), AV.d (D.v (Value.slice none 0 0)), AV.d (D.v (Value.int IntKind.i64 (0)))] := by kernel_rfl
@[simp] theorem ar_165 : ar Tryd.prog 165 = none := by kernel_rfl
@[simp] theorem fo_165_0 : fo Tryd.prog 165 0 = some 0 := by kernel_rfl
@[simp] theorem ft_165_0 : ft Tryd.prog 165 0 = some (162, 0) := by kernel_rfl
@[simp] theorem fo_165_1 : fo Tryd.prog 165 1 = some 1 := by kernel_rfl
@[simp] theorem ft_165_1 : ft Tryd.prog 165 1 = some (163, 1) := by kernel_rfl
@[simp] theorem fo_165_2 : fo Tryd.prog 165 2 = some 2 := by kernel_rfl
@[simp] theorem ft_165_2 : ft Tryd.prog 165 2 = some (3, 2) := by kernel_rfl
@[simp] theorem tk_167 : tk Tryd.prog 167 = some (true, 3) := by kernel_rfl
@[simp] theorem places_167 : places Tryd.prog 167 = some [(0, 1), (1, 1), (2, 1)] := by kernel_rfl
@[simp] theorem zvA_167 : zvA Tryd.prog 167 = some [AV.d (D.v (Value.int IntKind.u16 (0))), AV.d (D.v (Value.int IntKind.u16 (0))), AV.d (D.v (Value.int IntKind.u16 (0)))] := by kernel_rfl
@[simp] theorem ar_167 : ar Tryd.prog 167 = none := by kernel_rfl
@[simp] theorem fo_167_0 : fo Tryd.prog 167 0 = some 0 := by kernel_rfl
@[simp] theorem ft_167_0 : ft Tryd.prog 167 0 = some (166, 0) := by kernel_rfl
@[simp] theorem fo_167_1 : fo Tryd.prog 167 1 = some 1 := by kernel_rfl
@[simp] theorem ft_167_1 : ft Tryd.prog 167 1 = some (166, 1) := by kernel_rfl
@[simp] theorem fo_167_2 : fo Tryd.prog 167 2 = some 2 := by kernel_rfl
@[simp] theorem ft_167_2 : ft Tryd.prog 167 2 = some (166, 2) := by kernel_rfl
@[simp] theorem tk_168 : tk Tryd.prog 168 = some (true, 3) := by kernel_rfl
@[simp] theorem places_168 : places Tryd.prog 168 = some [(0, 1), (1, 1), (2, 1)] := by kernel_rfl
@[simp] theorem zvA_168 : zvA Tryd.prog 168 = some [AV.d (D.v (Value.int IntKind.u16 (0))), AV.d (D.v (Value.int IntKind.u16 (0))), AV.d (D.v (Value.int IntKind.u16 (0)))] := by kernel_rfl
@[simp] theorem ar_168 : ar Tryd.prog 168 = none := by kernel_rfl
@[simp] theorem fo_168_0 : fo Tryd.prog 168 0 = some 0 := by kernel_rfl
@[simp] theorem ft_168_0 : ft Tryd.prog 168 0 = some (166, 0) := by kernel_rfl
@[simp] theorem fo_168_1 : fo Tryd.prog 168 1 = some 1 := by kernel_rfl
@[simp] theorem ft_168_1 : ft Tryd.prog 168 1 = some (166, 1) := by kernel_rfl
@[simp] theorem fo_168_2 : fo Tryd.prog 168 2 = some 2 := by kernel_rfl
@[simp] theorem ft_168_2 : ft Tryd.prog 168 2 = some (166, 2) := by kernel_rfl
@[simp] theorem tk_170 : tk Tryd.prog 170 = some (true, 3) := by kernel_rfl
@[simp] theorem places_170 : places Tryd.prog 170 = some [(0, 1), (1, 1), (2, 1)] := by kernel_rfl
@[simp] theorem zvA_170 : zvA Tryd.prog 170 = some [AV.d (D.v (Value.int IntKind.u32 (0))), AV.d (D.v (Value.int IntKind.u32 (0))), AV.d (D.v (Value.int IntKind.u32 (0)))] := by kernel_rfl
@[simp] theorem ar_170 : ar Tryd.prog 170 = none := by kernel_rfl
@[simp] theorem fo_170_0 : fo Tryd.prog 170 0 = some 0 := by kernel_rfl
@[simp] theorem ft_170_0 : ft Tryd.prog 170 0 = some (22, 0) := by kernel_rfl
@[simp] theorem fo_170_1 : fo Tryd.prog 170 1 = some 1 := by kernel_rfl
@[simp] theorem ft_170_1 : ft Tryd.prog 170 1 = some (22, 1) := by kernel_rfl
@[simp] theorem fo_170_2 : fo Tryd.prog 170 2 = some 2 := by kernel_rfl
@[simp] theorem ft_170_2 : ft Tryd.prog 170 2 = some (22, 2) := by kernel_rfl
@[simp] theorem tk_171 : tk Tryd.prog 171 = some (true, 3) := by kernel_rfl
@[simp] theorem places_171 : places Tryd.prog 171 = some [(0, 1), (1, 1), (2, 1)] := by kernel_rfl
@[simp] theorem zvA_171 : zvA Tryd.prog 171 = some [AV.d (D.v (Value.int IntKind.u32 (0))), AV.d (D.v (Value.int IntKind.u32 (0))), AV.d (D.v (Value.int IntKind.u32 (0)))] := by kernel_rfl
@[simp] theorem ar_171 : ar Tryd.prog 171 = none := by kernel_rfl
@[simp] theorem fo_171_0 : fo Tryd.prog 171 0 = some 0 := by kernel_rfl
@[simp] theorem ft_171_0 : ft Tryd.prog 171 0 = some (22, 0) := by kernel_rfl
@[simp] theorem fo_171_1 : fo Tryd.prog 171 1 = some 1 := by kernel_rfl
@[simp] theorem ft_171_1 : ft Tryd.prog 171 1 = some (22, 1) := by kernel_rfl
@[simp] theorem fo_171_2 : fo Tryd.prog 171 2 = some 2 := by kernel_rfl
@[simp] theorem ft_171_2 : ft Tryd.prog 171 2 = some (22, 2) := by kernel_rfl
@[simp] theorem tk_175 : tk Tryd.prog 175 = some (true, 2) := by kernel_rfl
@[simp] theorem places_175 : places Tryd.prog 175 = some [(0, 1), (1, 1)] := by kernel_rfl
@[simp] theorem zvA_175 : zvA Tryd.prog 175 = some [AV.d (D.v (Value.slice none 0 0)), AV.d (D.v (Value.map none))] := by kernel_rfl
@[simp] theorem ar_175 : ar Tryd.prog 175 = none := by kernel_rfl
@[simp] theorem fo_175_0 : fo Tryd.prog 175 0 = some 0 := by kernel_rfl
@[simp] theorem ft_175_0 : ft Tryd.prog 175 0 = some (173, 0) := by kernel_rfl
@[simp] theorem fo_175_1 : fo Tryd.prog 175 1 = some 1 := by kernel_rfl
@[simp] theorem ft_175_1 : ft Tryd.prog 175 1 = some (174, 1) := by kernel_rfl
@[simp] theorem tk_176 : tk Tryd.prog 176 = some (true, 2) := by kernel_rfl
@[simp] theorem places_176 : places Tryd.prog 176 = some [(0, 1), (1, 1)] := by kernel_rfl
@[simp] theorem zvA_176 : zvA Tryd.prog 176 = some [AV.d (D.v (Value.slice none 0 0)), AV.d (D.v (Value.map none))] := by kernel_rfl
@[simp] theorem ar_176 : ar Tryd.prog 176 = none := by kernel_rfl
@[simp] theorem fo_176_0 : fo Tryd.prog 176 0 = some 0 := by kernel_rfl
@[simp] theorem ft_176_0 : ft Tryd.prog 176 0 = some (173, 0) := by kernel_rfl
@[simp] theorem fo_176_1 : fo Tryd.prog 176 1 = some 1 := by kernel_rfl
@[simp] theorem ft_176_1 : ft Tryd.prog 176 1 = some (174, 1) := by kernel_rfl
@[simp] theorem tk_182 : tk Tryd.prog 182 = some (true, 2) := by kernel_rfl
@[simp] theorem places_182 : places Tryd.prog 182 = some [(0, 1), (1, 1)] := by kernel_rfl
@[simp] theorem zvA_182 : zvA Tryd.prog 182 = some [AV.d (D.v (Value.pointer none)), AV.d (D.v (Value.slice none 0 0))] := by kernel_rfl
@[simp] theorem ar_182 : ar Tryd.prog 182 = none := by kernel_rfl
@[simp] theorem fo_182_0 : fo Tryd.prog 182 0 = some 0 := by kernel_rfl
@[simp] theorem ft_182_0 : ft Tryd.prog 182 0 = some (181, 0) := by kernel_rfl
@[simp] theorem fo_182_1 : fo Tryd.prog 182 1 = some 1 := by kernel_rfl
@[simp] theorem ft_182_1 : ft Tryd.prog 182 1 = some (74, 1) := by kernel_rfl
@[simp] theorem tk_183 : tk Tryd.prog 183 = some (true, 2) := by kernel_rfl
@[simp] theorem places_183 : places Tryd.prog 183 = some [(0, 1), (1, 1)] := by kernel_rfl
@[simp] theorem zvA_183 : zvA Tryd.prog 183 = some [AV.d (D.v (Value.pointer none)), AV.d (D.v (Value.slice none 0 0))] := by kernel_rfl
@[simp] theorem ar_183 : ar Tryd.prog 183 = none := by kernel_rfl
@[simp] theorem fo_183_0 : fo Tryd.prog 183 0 = some 0 := by kernel_rfl
@[simp] theorem ft_183_0 : ft Tryd.prog 183 0 = some (181, 0) := by kernel_rfl
@[simp] theorem fo_183_1 : fo Tryd.prog 183 1 = some 1 := by kernel_rfl
@[simp] theorem ft_183_1 : ft Tryd.prog 183 1 = some (74, 1) := by kernel_rfl
@[simp] theorem tk_212 : tk Tryd.prog 212 = some (true, 4) := by kernel_rfl
@[simp] theorem places_212 : places Tryd.prog 212 = some [(0, 1), (1, 1), (2, 1), (3, 1)] := by kernel_rfl
@[simp] theorem zvA_212 : zvA Tryd.prog 212 = some [AV.d (D.v (Value.pointer none)), AV.d (D.v (Value.pointer none)), AV.d (D.v (Value.pointer none)), AV.d (D.v (Value.string { data := #[] }))] := by kernel_rfl
@[simp] theorem ar_212 : ar Tryd.prog 212 = none := by kernel_rfl
@[simp] theorem fo_212_0 : fo Tryd.prog 212 0 = some 0 := by kernel_rfl
@[simp] theorem ft_212_0 : ft Tryd.prog 212 0 = some (17, 0) := by kernel_rfl
@[simp] theorem fo_212_1 : fo Tryd.prog 212 1 = some 1 := by kernel_rfl
@[simp] theorem ft_212_1 : ft Tryd.prog 212 1 = some (17, 1) := by kernel_rfl
@[simp] theorem fo_212_2 : fo Tryd.prog 212 2 = some 2 := by kernel_rfl
@[simp] theorem ft_212_2 : ft Tryd.prog 212 2 = some (17, 2) := by kernel_rfl
@[simp] theorem fo_212_3 : fo Tryd.prog 212 3 = some 3 := by kernel_rfl
@[simp] theorem ft_212_3 : ft Tryd.prog 212 3 = some (9, 3) := by kernel_rfl
@[simp] theorem tk_213 : tk Tryd.prog 213 = some (true, 4) := by kernel_rfl
@[simp] theorem places_213 : places Tryd.prog 213 = some [(0, 1), (1, 1), (2, 1), (3, 1)] := by kernel_rfl
@[simp] theorem zvA_213 : zvA Tryd.prog 213 = some [AV.d (D.v (Value.pointer none)), AV.d (D.v (Value.pointer none)), AV.d (D.v (Value.pointer none)), AV.d (D.v (Value.string { data := #[] }))] := by kernel_rfl
@[simp] theorem ar_213 : ar Tryd.prog 213 = none := by kernel_rfl
@[simp] theorem fo_213_0 : fo Tryd.prog 213 0 = some 0 := by kernel_rfl
@[simp] theorem ft_213_0 : ft Tryd.prog 213 0 = some (17, 0) := by kernel_rfl
@[simp] theorem fo_213_1 : fo Tryd.prog 213 1 = some 1 := by kernel_rfl
@[simp] theorem ft_213_1 : ft Tryd.prog 213 1 = some (17, 1) := by kernel_rfl
@[simp] theorem fo_213_2 : fo Tryd.prog 213 2 = some 2 := by kernel_rfl
@[simp] theorem ft_213_2 : ft Tryd.prog 213 2 = some (17, 2) := by kernel_rfl
@[simp] theorem fo_213_3 : fo Tryd.prog 213 3 = some 3 := by kernel_rfl
@[simp] theorem ft_213_3 : ft Tryd.prog 213 3 = some (9, 3) := by kernel_rfl
@[simp] theorem tk_215 : tk Tryd.prog 215 = some (true, 0) := by kernel_rfl
@[simp] theorem places_215 : places Tryd.prog 215 = some [(0, 0)] := by kernel_rfl
@[simp] theorem zvA_215 : zvA Tryd.prog 215 = some [] := by kernel_rfl
@[simp] theorem ar_215 : ar Tryd.prog 215 = none := by kernel_rfl
@[simp] theorem ft_215_0 : ft Tryd.prog 215 0 = some (214, 0) := by kernel_rfl
@[simp] theorem tk_216 : tk Tryd.prog 216 = some (true, 0) := by kernel_rfl
@[simp] theorem places_216 : places Tryd.prog 216 = some [(0, 0)] := by kernel_rfl
@[simp] theorem zvA_216 : zvA Tryd.prog 216 = some [] := by kernel_rfl
@[simp] theorem ar_216 : ar Tryd.prog 216 = none := by kernel_rfl
@[simp] theorem ft_216_0 : ft Tryd.prog 216 0 = some (214, 0) := by kernel_rfl
@[simp] theorem tk_223 : tk Tryd.prog 223 = some (true, 11) := by kernel_rfl
@[simp] theorem places_223 : places Tryd.prog 223 = some [(0, 1), (1, 1), (2, 1), (3, 1), (4, 1), (5, 1), (6, 1), (7, 1), (8, 1), (9, 1), (10, 1)] := by kernel_rfl
@[simp] theorem zvA_223 : zvA Tryd.prog 223 = some [AV.d (D.v (Value.int IntKind.u64 (0))), AV.d (D.v (Value.int IntKind.u64 (0))), AV.d (D.v (Value.int IntKind.u32 (0))), AV.d (D.v (Value.int IntKind.u8 (0))), AV.d (D.v (Value.int IntKind.u8 (0))), AV.d (D.v (Value.int IntKind.u8 (0))), AV.d (D.v (Value.int IntKind.u8 (0))), AV.d (D.v Value.nilFunc), AV.d (D.v (Value.pointer none)), AV.d (D.v (Value.int IntKind.i32 (0))), AV.d (D.v (Value.int IntKind.i32 (0)))] := by kernel_rfl
@[simp] theorem ar_223 : ar Tryd.prog 223 = none := by kernel_rfl
@[simp] theorem fo_223_0 : fo Tryd.prog 223 0 = some 0 := by kernel_rfl
@[simp] theorem ft_223_0 : ft Tryd.prog 223 0 = some (12, 0) := by kernel_rfl
@[simp] theorem fo_223_1 : fo Tryd.prog 223 1 = some 1 := by kernel_rfl
@[simp] theorem ft_223_1 : ft Tryd.prog 223 1 = some (12, 1) := by kernel_rfl
@[simp] theorem fo_223_2 : fo Tryd.prog 223 2 = some 2 := by kernel_rfl
@[simp] theorem ft_223_2 : ft Tryd.prog 223 2 = some (22, 2) := by kernel_rfl
@[simp] theorem fo_223_3 : fo Tryd.prog 223 3 = some 3 := by kernel_rfl
@[simp] theorem ft_223_3 : ft Tryd.prog 223 3 = some (218, 3) := by kernel_rfl
@[simp] theorem fo_223_4 : fo Tryd.prog 223 4 = some 4 := by kernel_rfl
@[simp] theorem ft_223_4 : ft Tryd.prog 223 4 = some (5, 4) := by kernel_rfl
@[simp] theorem fo_223_5 : fo Tryd.prog 223 5 = some 5 := by kernel_rfl
@[simp] theorem ft_223_5 : ft Tryd.prog 223 5 = some (5, 5) := by kernel_rfl
@[simp] theorem fo_223_6 : fo Tryd.prog 223 6 = some 6 := by kernel_rfl
@[simp] theorem ft_223_6 : ft Tryd.prog 223 6 = some (219, 6) := by kernel_rfl
@[simp] theorem fo_223_7 : fo Tryd.prog 223 7 = some 7 := by kernel_rfl
@[simp] theorem ft_223_7 : ft Tryd.prog 223 7 = some (220, 7) := by kernel_rfl
@[simp] theorem fo_223_8 : fo Tryd.prog 223 8 = some 8 := by kernel_rfl
@[simp] theorem ft_223_8 : ft Tryd.prog 223 8 = some (200, 8) := by kernel_rfl
@[simp] theorem fo_223_9 : fo Tryd.prog 223 9 = some 9 := by kernel_rfl
@[simp] theorem ft_223_9 : ft Tryd.prog 223 9 = some (221, 9) := by kernel_rfl
@[simp] theorem fo_223_10 : fo Tryd.prog 223 10 = some 10 := by kernel_rfl
@[simp] theorem ft_223_10 : ft Tryd.prog 223 10 = some (222, 10) := by kernel_rfl
@[simp] theorem tk_224 : tk Tryd.prog 224 = some (true, 11) := by kernel_rfl
@[simp] theorem places_224 : places Tryd.prog 224 = some [(0, 1), (1, 1), (2, 1), (3, 1), (4, 1), (5, 1), (6, 1), (7, 1), (8, 1), (9, 1), (10, 1)] := by kernel_rfl
@[simp] theorem zvA_224 : zvA Tryd.prog 224 = some [AV.d (D.v (Value.int IntKind.u64 (0))), AV.d (D.v (Value.int IntKind.u64 (0))), AV.d (D.v (Value.int IntKind.u32 (0))), AV.d (D.v (Value.int IntKind.u8 (0))), AV.d (D.v (Value.int IntKind.u8 (0))), AV.d (D.v (Value.int IntKind.u8 (0))), AV.d (D.v (Value.int IntKind.u8 (0))), AV.d (D.v Value.nilFunc), AV.d (D.v (Value.pointer none)), AV.d (D.v (Value.int IntKind.i32 (0))), AV.d (D.v (Value.int IntKind.i32 (0)))] := by kernel_rfl
@[simp] theorem ar_224 : ar Tryd.prog 224 = none := by kernel_rfl
@[simp] theorem fo_224_0 : fo Tryd.prog 224 0 = some 0 := by kernel_rfl
@[simp] theorem ft_224_0 : ft Tryd.prog 224 0 = some (12, 0) := by kernel_rfl
@[simp] theorem fo_224_1 : fo Tryd.prog 224 1 = some 1 := by kernel_rfl
@[simp] theorem ft_224_1 : ft Tryd.prog 224 1 = some (12, 1) := by kernel_rfl
@[simp] theorem fo_224_2 : fo Tryd.prog 224 2 = some 2 := by kernel_rfl
@[simp] theorem ft_224_2 : ft Tryd.prog 224 2 = some (22, 2) := by kernel_rfl
@[simp] theorem fo_224_3 : fo Tryd.prog 224 3 = some 3 := by kernel_rfl
@[simp] theorem ft_224_3 : ft Tryd.prog 224 3 = some (218, 3) := by kernel_rfl
@[simp] theorem fo_224_4 : fo Tryd.prog 224 4 = some 4 := by kernel_rfl
@[simp] theorem ft_224_4 : ft Tryd.prog 224 4 = some (5, 4) := by kernel_rfl
@[simp] theorem fo_224_5 : fo Tryd.prog 224 5 = some 5 := by kernel_rfl
@[simp] theorem ft_224_5 : ft Tryd.prog 224 5 = some (5, 5) := by kernel_rfl
@[simp] theorem fo_224_6 : fo Tryd.prog 224 6 = some 6 := by kernel_rfl
@[simp] theorem ft_224_6 : ft Tryd.prog 224 6 = some (219, 6) := by kernel_rfl
@[simp] theorem fo_224_7 : fo Tryd.prog 224 7 = some 7 := by kernel_rfl
@[simp] theorem ft_224_7 : ft Tryd.prog 224 7 = some (220, 7) := by kernel_rfl
@[simp] theorem fo_224_8 : fo Tryd.prog 224 8 = some 8 := by kernel_rfl
@[simp] theorem ft_224_8 : ft Tryd.prog 224 8 = some (200, 8) := by kernel_rfl
@[simp] theorem fo_224_9 : fo Tryd.prog 224 9 = some 9 := by kernel_rfl
@[simp] theorem ft_224_9 : ft Tryd.prog 224 9 = some (221, 9) := by kernel_rfl
@[simp] theorem fo_224_10 : fo Tryd.prog 224 10 = some 10 := by kernel_rfl
@[simp] theorem ft_224_10 : ft Tryd.prog 224 10 = some (222, 10) := by kernel_rfl
@[simp] theorem tk_87 : tk Tryd.prog 87 = some (true, 15) := by kernel_rfl
@[simp] theorem places_87 : places Tryd.prog 87 = none := by kernel_rfl
@[simp] theorem zvA_87 : zvA Tryd.prog 87 = some [AV.d (D.v (Value.bool false)), AV.d (D.v (Value.bool false)), AV.d (D.v (Value.bool false)), AV.d (D.v (Value.bool false)), AV.d (D.v (Value.bool false)), AV.d (D.v (Value.bool false)), AV.d (D.v (Value.bool false)), AV.d (D.v (Value.bool false)), AV.d (D.v (Value.bool false)), AV.d (D.v (Value.bool false)), AV.d (D.v (Value.bool false)), AV.d (D.v (Value.bool false)), AV.d (D.v (Value.bool false)), AV.d (D.v (Value.bool false)), AV.d (D.v (Value.bool false))] := by kernel_rfl
@[simp] theorem ar_87 : ar Tryd.prog 87 = some (15, 4, 1) := by kernel_rfl
@[simp] theorem tk_89 : tk Tryd.prog 89 = some (true, 75) := by kernel_rfl
@[simp] theorem places_89 : places Tryd.prog 89 = none := by kernel_rfl
@[simp] theorem zvA_89 : zvA Tryd.prog 89 = some [AV.d (D.v (Value.int IntKind.i64 (0))), AV.d (D.v (Value.int IntKind.u32 (0))), AV.d (D.v (Value.int IntKind.i64 (0))), AV.d (D.v (Value.int IntKind.i64 (0))), AV.d (D.v (Value.slice none 0 0)), AV.d (D.v (Value.int IntKind.i64 (0))), AV.d (D.v (Value.int IntKind.u32 (0))), AV.d (D.v (Value.int IntKind.i64 (0))), AV.d (D.v (Value.int IntKind.i64 (0))), AV.d (D.v (Value.slice none 0 0)), AV.d (D.v (Value.int IntKind.i64 (0))), AV.d (D.v (Value.int IntKind.u32 (0))), AV.d (D.v (Value.int IntKind.i64 (0))), AV.d (D.v (Value.int IntKind.i64 (0))), AV.d (D.v (Value.slice none 0 0)), AV.d (D.v (Value.int IntKind.i64 (0))), AV.d (D.v (Value.int IntKind.u32 (0))), AV.d (D.v (Value.int IntKind.i64 (0))), AV.d (D.v (Value.int IntKind.i64 (0))), AV.d (D.v (Value.slice none 0 0)), AV.d (D.v (Value.int IntKind.i64 (0))), AV.d (D.v (Value.int IntKind.u32 (0))), AV.d (D.v (Value.int IntKind.i64 (0))), AV.d (D.v (Value.int IntKind.i64 (0))), AV.d (D.v (Value.slice none 0 0)), AV.d (D.v (Value.int IntKind.i64 (0))), AV.d (D.v (Value.int IntKind.u32 (0))), AV.d (D.v (Value.int IntKind.i64 (0))), AV.d (D.v (Value.int IntKind.i64 (0))), AV.d (D.v (Value.slice none 0 0)), AV.d (D.v (Value.int IntKind.i64 (0))), AV.d (D.v (Value.int IntKind.u32 (0))), AV.d (D.v (Value.int IntKind.i64 (0))), AV.d (D.v (Value.int IntKind.i64 (0))), AV.d (D.v (Value.slice none 0 0)), AV.d (D.v (Value.int IntKind.i64 (0))), AV.d (D.v (Value.int IntKind.u32 (0))), AV.d (D.v (Value.int IntKind.i64 (0))), AV.d (D.v (Value.int IntKind.i64 (0))), AV.d (D.v (Value.slice none 0 0)), AV.d (D.v (Value.int IntKind.i64 (0))), AV.d (D.v (Value.int IntKind.u32 (0))), AV.d (D.v (Value.int IntKind.i64 (0))), AV.d (D.v (Value.int IntKind.i64 (0))), AV.d (D.v (Value.slice none 0 0)), AV.d (D.v (Value.int IntKind.i64 (0))), AV.d (D.v (Value.int IntKind.u32 (0))), AV.d (D.v (Value.int IntKind.i64 (0))), AV.d (D.v (Value.int IntKind.i64 (0))), AV.d (D.v (Value.slice none 0 0)), AV.d (D.v (Value.int IntKind.i64 (0))), AV.d (D.v (Value.int IntKind.u32 (0))), AV.d (D.v (Value.int IntKind.i64 (0))), AV.d (D.v (Value.int IntKind.i64 (0))), AV.d (D.v (Value.slice none 0 0)), AV.d (D.v (Value.int IntKind.i64 (0))), AV.d (D.v (Value.int IntKind.u32 (0))), AV.d (D.v (Value.int IntKind.i64 (0))), AV.d (D.v (Value.int IntKind.i64 (0))), AV.d (D.v (Value.slice none 0 0)), AV.d (D.v (Value.int IntKind.i64 (0))), AV.d (D.v (Value.int IntKind.u32 (0))), AV.d (D.v (Value.int IntKind.i64 (0))), AV.d (D.v (Value.int IntKind.i64 (0))), AV.d (D.v (Value.slice none 0 0)), AV.d (D.v (Value.int IntKind.i64 (0))), AV.d (D.v (Value.int IntKind.u32 (0))), AV.d (D.v (Value.int IntKind.i64 (0))), AV.d (D.v (Value.int IntKind.i64 (0))), AV.d (D.v (Value.slice none 0 0)), AV.d (D.v (Value.int IntKind.i64 (0))), AV.d (D.v (Value.int IntKind.u32 (0))), AV.d (D.v (Value.int IntKind.i64 (0))), AV.d (D.v (Value.int IntKind.i64 (0))), AV.d (D.v (Value.slice none 0 0))] := by kernel_rfl
@[simp] theorem ar_89 : ar Tryd.prog 89 = some (15, 25, 5) := by kernel_rfl
@[simp] theorem tk_101 : tk Tryd.prog 101 = some (true, 256) := by kernel_rfl
@[simp] theorem places_101 : places Tryd.prog 101 = none := by kernel_rfl
@[simp] theorem ar_101 : ar Tryd.prog 101 = some (256, 5, 1) := by kernel_rfl
@[simp] theorem tk_104 : tk Tryd.prog 104 = some (true, 2) := by kernel_rfl
@[simp] theorem places_104 : places Tryd.prog 104 = none := by kernel_rfl
@[simp] theorem zvA_104 : zvA Tryd.prog 104 = some [AV.d (D.v (Value.int IntKind.u32 (0))), AV.d (D.v (Value.int IntKind.u32 (0)))] := by kernel_rfl
@[simp] theorem ar_104 : ar Tryd.prog 104 = some (2, 22, 1) := by kernel_rfl
@[simp] theorem tk_123 : tk Tryd.prog 123 = some (true, 10) := by kernel_rfl
@[simp] theorem places_123 : places Tryd.prog 123 = none := by kernel_rfl
@[simp] theorem zvA_123 : zvA Tryd.prog 123 = some [AV.d (D.v (Value.int IntKind.i64 (0))), AV.d (D.v (Value.int IntKind.u32 (0))), AV.d (D.v (Value.int IntKind.i64 (0))), AV.d (D.v (Value.int IntKind.i64 (0))), AV.d (D.v (Value.slice none 0 0)), AV.d (D.v (Value.int IntKind.i64 (0))), AV.d (D.v (Value.int IntKind.u32 (0))), AV.d (D.v (Value.int IntKind.i64 (0))), AV.d (D.v (Value.int IntKind.i64 (0))), AV.d (D.v (Value.slice none 0 0))] := by kernel_rfl
@[simp] theorem ar_123 : ar Tryd.prog 123 = some (2, 25, 5) := by kernel_rfl
@[simp] theorem tk_142 : tk Tryd.prog 142 = some (true, 13) := by kernel_rfl
@[simp] theorem places_142 : places Tryd.prog 142 = none := by kernel_rfl
@[simp] theorem zvA_142 : zvA Tryd.prog 142 = some [AV.d (D.v (Value.int IntKind.u32 (0))), AV.d (D.v (Value.int IntKind.u32 (0))), AV.d (D.v (Value.int IntKind.u32 (0))), AV.d (D.v (Value.int IntKind.u32 (0))), AV.d (D.v (Value.int IntKind.u32 (0))), AV.d (D.v (Value.int IntKind.u32 (0))), AV.d (D.v (Value.int IntKind.u32 (0))), AV.d (D.v (Value.int IntKind.u32 (0))), AV.d (D.v (Value.int IntKind.u32 (0))), AV.d (D.v (Value.int IntKind.u32 (0))), AV.d (D.v (Value.int IntKind.u32 (0))), AV.d (D.v (Value.int IntKind.u32 (0))), AV.d (D.v (Value.int IntKind.u32 (0)))] := by kernel_rfl
@[simp] theorem ar_142 : ar Tryd.prog 142 = some (13, 22, 1) := by kernel_rfl
@[simp] theorem tk_155 : tk Tryd.prog 155 = some (true, 13) := by kernel_rfl
@[simp] theorem places_155 : places Tryd.prog 155 = none := by kernel_rfl
@[simp] theorem zvA_155 : zvA Tryd.prog 155 = some [AV.d (D.v (Value.string { data := #[] })), AV.d (D.v (Value.string { data := #[] })), AV.d (D.v (Value.string { data := #[] })), AV.d (D.v (Value.string { data := #[] })), AV.d (D.v (Value.string { data := #[] })), AV.d (D.v (Value.string { data := #[] })), AV.d (D.v (Value.string { data := #[] })), AV.d (D.v (Value.string { data := #[] })), AV.d (D.v (Value.string { data := #[] })), AV.d (D.v (Value.string { data := #[] })), AV.d (D.v (Value.string { data := #[] })), AV.d (D.v (Value.string { data := #[] })), AV.d (D.v (Value.string { data := #[] }))] := by kernel_rfl
@[simp] theorem ar_155 : ar Tryd.prog 155 = some (13, 9, 1) := by kernel_rfl
@[simp] theorem tk_195 : tk Tryd.prog 195 = some (true, 24) := by kernel_rfl
@[simp] theorem places_195 : places Tryd.prog 195 = none := by kernel_rfl
@[simp] theorem zvA_195 : zvA Tryd.prog 195 = some [AV.d (D.v (Value.int IntKind.u8 (0))), AV.d (D.v (Value.int IntKind.u8 (0))), AV.d (D.v (Value.int IntKind.u8 (0))), AV.d (D.v (Value.int IntKind.u8 (0))), AV.d (D.v (Value.int IntKind.u8 (0))), AV.d (D.v (Value.int IntKind.u8 (0))), AV.d (D.v (Value.int IntKind.u8 (0))), AV.d (D.v (Value.int IntKind.u8 (0))), AV.d (D.v (Value.int IntKind.u8 (0))), AV.d (D.v (Value.int IntKind.u8 (0))), AV.d (D.v (Value.int IntKind.u8 (0))), AV.d (D.v (Value.int IntKind.u8 (0))), AV.d (D.v (Value.int IntKind.u8 (0))), AV.d (D.v (Value.int IntKind.u8 (0))), AV.d (D.v (Value.int IntKind.u8 (0))), AV.d (D.v (Value.int IntKind.u8 (0))), AV.d (D.v (Value.int IntKind.u8 (0))), AV.d (D.v (Value.int IntKind.u8 (0))), AV.d (D.v (Value.int IntKind.u8 (0))), AV.d (D.v (Value.int IntKind.u8 (0))), AV.d (D.v (Value.int IntKind.u8 (0))), AV.d (D.v (Value.int IntKind.u8 (0))), AV.d (D.v (Value.int IntKind.u8 (0))), AV.d (D.v (Value.int IntKind.u8 (0)))] := by kernel_rfl
@[simp] theorem ar_195 : ar Tryd.prog 195 = some (24, 5, 1) := by kernel_rfl
@[simp] theorem tk_203 : tk Tryd.prog 203 = some (true, 20) := by kernel_rfl
@[simp] theorem places_203 : places Tryd.prog 203 = none := by kernel_rfl
@[simp] theorem zvA_203 : zvA Tryd.prog 203 = some [AV.d (D.v (Value.int IntKind.u64 (0))), AV.d (D.v (Value.int IntKind.u64 (0))), AV.d (D.v (Value.int IntKind.u64 (0))), AV.d (D.v (Value.int IntKind.u64 (0))), AV.d (D.v (Value.int IntKind.u64 (0))), AV.d (D.v (Value.int IntKind.u64 (0))), AV.d (D.v (Value.int IntKind.u64 (0))), AV.d (D.v (Value.int IntKind.u64 (0))), AV.d (D.v (Value.int IntKind.u64 (0))), AV.d (D.v (Value.int IntKind.u64 (0))), AV.d (D.v (Value.int IntKind.u64 (0))), AV.d (D.v (Value.int IntKind.u64 (0))), AV.d (D.v (Value.int IntKind.u64 (0))), AV.d (D.v (Value.int IntKind.u64 (0))), AV.d (D.v (Value.int IntKind.u64 (0))), AV.d (D.v (Value.int IntKind.u64 (0))), AV.d (D.v (Value.int IntKind.u64 (0))), AV.d (D.v (Value.int IntKind.u64 (0))), AV.d (D.v (Value.int IntKind.u64 (0))), AV.d (D.v (Value.int IntKind.u64 (0)))] := by kernel_rfl
@[simp] theorem ar_203 : ar Tryd.prog 203 = some (20, 143, 1) := by kernel_rfl
@[simp] theorem tk_204 : tk Tryd.prog 204 = some (true, 65) := by kernel_rfl
@[simp] theorem places_204 : places Tryd.prog 204 = none := by kernel_rfl
@[simp] theorem zvA_204 : zvA Tryd.prog 204 = some [AV.d (D.v (Value.int IntKind.u8 (0))), AV.d (D.v (Value.int IntKind.u8 (0))), AV.d (D.v (Value.int IntKind.u8 (0))), AV.d (D.v (Value.int IntKind.u8 (0))), AV.d (D.v (Value.int IntKind.u8 (0))), AV.d (D.v (Value.int IntKind.u8 (0))), AV.d (D.v (Value.int IntKind.u8 (0))), AV.d (D.v (Value.int IntKind.u8 (0))), AV.d (D.v (Value.int IntKind.u8 (0))), AV.d (D.v (Value.int IntKind.u8 (0))), AV.d (D.v (Value.int IntKind.u8 (0))), AV.d (D.v (Value.int IntKind.u8 (0))), AV.d (D.v (Value.int IntKind.u8 (0))), AV.d (D.v (Value.int IntKind.u8 (0))), AV.d (D.v (Value.int IntKind.u8 (0))), AV.d (D.v (Value.int IntKind.u8 (0))), AV.d (D.v (Value.int IntKind.u8 (0))), AV.d (D.v (Value.int IntKind.u8 (0))), AV.d (D.v (Value.int IntKind.u8 (0))), AV.d (D.v (Value.int IntKind.u8 (0))), AV.d (D.v (Value.int IntKind.u8 (0))), AV.d (D.v (Value.int IntKind.u8 (0))), AV.d (D.v (Value.int IntKind.u8 (0))), AV.d (D.v (Value.int IntKind.u8 (0))), AV.d (D.v (Value.int IntKind.u8 (0))), AV.d (D.v (Value.int IntKind.u8 (0))), AV.d (D.v (Value.int IntKind.u8 (0))), AV.d (D.v (Value.int IntKind.u8 (0))), AV.d (D.v (Value.int IntKind.u8 (0))), AV.d (D.v (Value.int IntKind.u8 (0))), AV.d (D.v (Value.int IntKind.u8 (0))), AV.d (D.v (Value.int IntKind.u8 (0))), AV.d (D.v (Value.int IntKind.u8 (0))), AV.d (D.v (Value.int IntKind.u8 (0))), AV.d (D.v (Value.int IntKind.u8 (0))), AV.d (D.v (Value.int IntKind.u8 (0))), AV.d (D.v (Value.int IntKind.u8 (0))), AV.d (D.v (Value.int IntKind.u8 (0))), AV.d (D.v (Value.int IntKind.u8 (0))), AV.d (D.v (Value.int IntKind.u8 (0))), AV.d (D.v (Value.int IntKind.u8 (0))), AV.d (D.v (Value.int IntKind.u8 (0))), AV.d (D.v (Value.int IntKind.u8 (0))), AV.d (D.v (Value.int IntKind.u8 (0))), AV.d (D.v (Value.int IntKind.u8 (0))), AV.d (D.v (Value.int IntKind.u8 (0))), AV.d (D.v (Value.int IntKind.u8 (0))), AV.d (D.v (Value.int IntKind.u8 (0))), AV.d (D.v (Value.int IntKind.u8 (0))), AV.d (D.v (Value.int IntKind.u8 (0))), AV.d (D.v (Value.int IntKind.u8 (0))), AV.d (D.v (Value.int IntKind.u8 (0))), AV.d (D.v (Value.int IntKind.u8 (0))), AV.d (D.v (Value.int IntKind.u8 (0))), AV.d (D.v (Value.int IntKind.u8 (0))), AV.d (D.v (Value.int IntKind.u8 (0))), AV.d (D.v (Value.int IntKind.u8 (0))), AV.d (D.v (Value.int IntKind.u8 (0))), AV.d (D.v (Value.int IntKind.u8 (0))), AV.d (D.v (Value.int IntKind.u8 (0))), AV.d (D.v (Value.int IntKind.u8 (0))), AV.d (D.v (Value.int IntKind.u8 (0))), AV.d (D.v (Value.int IntKind.u8 (0))), AV.d (D.v (Value.int IntKind.u8 (0))), AV.d (D.v (Value.int IntKind.u8 (0)))] := by kernel_rfl
@[simp] theorem ar_204 : ar Tryd.prog 204 = some (65, 5, 1) := by kernel_rfl
@[simp] theorem tk_210 : tk Tryd.prog 210 = some (true, 32) := by kernel_rfl
@[simp] theorem places_210 : places Tryd.prog 210 = none := by kernel_rfl
@[simp] theorem zvA_210 : zvA Tryd.prog 210 = some [AV.d (D.v (Value.int IntKind.u8 (0))), AV.d (D.v (Value.int IntKind.u8 (0))), AV.d (D.v (Value.int IntKind.u8 (0))), AV.d (D.v (Value.int IntKind.u8 (0))), AV.d (D.v (Value.int IntKind.u8 (0))), AV.d (D.v (Value.int IntKind.u8 (0))), AV.d (D.v (Value.int IntKind.u8 (0))), AV.d (D.v (Value.int IntKind.u8 (0))), AV.d (D.v (Value.int IntKind.u8 (0))), AV.d (D.v (Value.int IntKind.u8 (0))), AV.d (D.v (Value.int IntKind.u8 (0))), AV.d (D.v (Value.int IntKind.u8 (0))), AV.d (D.v (Value.int IntKind.u8 (0))), AV.d (D.v (Value.int IntKind.u8 (0))), AV.d (D.v (Value.int IntKind.u8 (0))), AV.d (D.v (Value.int IntKind.u8 (0))), AV.d (D.v (Value.int IntKind.u8 (0))), AV.d (D.v (Value.int IntKind.u8 (0))), AV.d (D.v (Value.int IntKind.u8 (0))), AV.d (D.v (Value.int IntKind.u8 (0))), AV.d (D.v (Value.int IntKind.u8 (0))), AV.d (D.v (Value.int IntKind.u8 (0))), AV.d (D.v (Value.int IntKind.u8 (0))), AV.d (D.v (Value.int IntKind.u8 (0))), AV.d (D.v (Value.int IntKind.u8 (0))), AV.d (D.v (Value.int IntKind.u8 (0))), AV.d (D.v (Value.int IntKind.u8 (0))), AV.d (D.v (Value.int IntKind.u8 (0))), AV.d (D.v (Value.int IntKind.u8 (0))), AV.d (D.v (Value.int IntKind.u8 (0))), AV.d (D.v (Value.int IntKind.u8 (0))), AV.d (D.v (Value.int IntKind.u8 (0)))] := by kernel_rfl
@[simp] theorem ar_210 : ar Tryd.prog 210 = some (32, 5, 1) := by kernel_rfl
@[simp] theorem tk_211 : tk Tryd.prog 211 = some (true, 64) := by kernel_rfl
@[simp] theorem places_211 : places Tryd.prog 211 = none := by kernel_rfl
@[simp] theorem zvA_211 : zvA Tryd.prog 211 = some [AV.d (D.v (Value.int IntKind.u8 (0))), AV.d (D.v (Value.int IntKind.u8 (0))), AV.d (D.v (Value.int IntKind.u8 (0))), AV.d (D.v (Value.int IntKind.u8 (0))), AV.d (D.v (Value.int IntKind.u8 (0))), AV.d (D.v (Value.int IntKind.u8 (0))), AV.d (D.v (Value.int IntKind.u8 (0))), AV.d (D.v (Value.int IntKind.u8 (0))), AV.d (D.v (Value.int IntKind.u8 (0))), AV.d (D.v (Value.int IntKind.u8 (0))), AV.d (D.v (Value.int IntKind.u8 (0))), AV.d (D.v (Value.int IntKind.u8 (0))), AV.d (D.v (Value.int IntKind.u8 (0))), AV.d (D.v (Value.int IntKind.u8 (0))), AV.d (D.v (Value.int IntKind.u8 (0))), AV.d (D.v (Value.int IntKind.u8 (0))), AV.d (D.v (Value.int IntKind.u8 (0))), AV.d (D.v (Value.int IntKind.u8 (0))), AV.d (D.v (Value.int IntKind.u8 (0))), AV.d (D.v (Value.int IntKind.u8 (0))), AV.d (D.v (Value.int IntKind.u8 (0))), AV.d (D.v (Value.int IntKind.u8 (0))), AV.d (D.v (Value.int IntKind.u8 (0))), AV.d (D.v (Value.int IntKind.u8 (0))), AV.d (D.v (Value.int IntKind.u8 (0))), AV.d (D.v (Value.int IntKind.u8 (0))), AV.d (D.v (Value.int IntKind.u8 (0))), AV.d (D.v (Value.int IntKind.u8 (0))), AV.d (D.v (Value.int IntKind.u8 (0))), AV.d (D.v (Value.int IntKind.u8 (0))), AV.d (D.v (Value.int IntKind.u8 (0))), AV.d (D.v (Value.int IntKind.u8 (0))), AV.d (D.v (Value.int IntKind.u8 (0))), AV.d (D.v (Value.int IntKind.u8 (0))), AV.d (D.v (Value.int IntKind.u8 (0))), AV.d (D.v (Value.int IntKind.u8 (0))), AV.d (D.v (Value.int IntKind.u8 (0))), AV.d (D.v (Value.int IntKind.u8 (0))), AV.d (D.v (Value.int IntKind.u8 (0))), AV.d (D.v (Value.int IntKind.u8 (0))), AV.d (D.v (Value.int IntKind.u8 (0))), AV.d (D.v (Value.int IntKind.u8 (0))), AV.d (D.v (Value.int IntKind.u8 (0))), AV.d (D.v (Value.int IntKind.u8 (0))), AV.d (D.v (Value.int IntKind.u8 (0))), AV.d (D.v (Value.int IntKind.u8 (0))), AV.d (D.v (Value.int IntKind.u8 (0))), AV.d (D.v (Value.int IntKind.u8 (0))), AV.d (D.v (Value.int IntKind.u8 (0))), AV.d (D.v (Value.int IntKind.u8 (0))), AV.d (D.v (Value.int IntKind.u8 (0))), AV.d (D.v (Value.int IntKind.u8 (0))), AV.d (D.v (Value.int IntKind.u8 (0))), AV.d (D.v (Value.int IntKind.u8 (0))), AV.d (D.v (Value.int IntKind.u8 (0))), AV.d (D.v (Value.int IntKind.u8 (0))), AV.d (D.v (Value.int IntKind.u8 (0))), AV.d (D.v (Value.int IntKind.u8 (0))), AV.d (D.v (Value.int IntKind.u8 (0))), AV.d (D.v (Value.int IntKind.u8 (0))), AV.d (D.v (Value.int IntKind.u8 (0))), AV.d (D.v (Value.int IntKind.u8 (0))), AV.d (D.v (Value.int IntKind.u8 (0))), AV.d (D.v (Value.int IntKind.u8 (0)))] := by kernel_rfl
@[simp] theorem ar_211 : ar Tryd.prog 211 = some (64, 5, 1) := by kernel_rfl
@[simp] theorem tk_214 : tk Tryd.prog 214 = some (true, 0) := by kernel_rfl
@[simp] theorem places_214 : places Tryd.prog 214 = none := by kernel_rfl
@[simp] theorem zvA_214 : zvA Tryd.prog 214 = some [] := by kernel_rfl
@[simp] theorem ar_214 : ar Tryd.prog 214 = some (0, 16, 1) := by kernel_rfl
@[simp] theorem tk_23 : tk Tryd.prog 23 = some (false, 1) := by kernel_rfl
@[simp] theorem sl_23 : sl Tryd.prog 23 = some (25, 5) := by kernel_rfl
@[simp] theorem zvA_23 : zvA Tryd.prog 23 = some [AV.d (D.v (Value.slice none 0 0))] := by kernel_rfl
@[simp] theorem byt_23 : byt Tryd.prog 23 = some (25, 5, 56) := by kernel_rfl
@[simp] theorem tk_33 : tk Tryd.prog 33 = some (false, 1) := by kernel_rfl
@[simp] theorem sl_33 : sl Tryd.prog 33 = some (22, 1) := by kernel_rfl
@[simp] theorem zvA_33 : zvA Tryd.prog 33 = some [AV.d (D.v (Value.slice none 0 0))] := by kernel_rfl
@[simp] theorem byt_33 : byt Tryd.prog 33 = some (22, 1, 4) := by kernel_rfl
@[simp] theorem tk_37 : tk Tryd.prog 37 = some (false, 1) := by kernel_rfl
@[simp] theorem sl_37 : sl Tryd.prog 37 = some (78, 5) := by kernel_rfl
@[simp] theorem zvA_37 : zvA Tryd.prog 37 = some [AV.d (D.v (Value.slice none 0 0))] := by kernel_rfl
@[simp] theorem byt_37 : byt Tryd.prog 37 = some (78, 5, 56) := by kernel_rfl
@[simp] theorem tk_38 : tk Tryd.prog 38 = some (false, 1) := by kernel_rfl
@[simp] theorem sl_38 : sl Tryd.prog 38 = some (159, 2) := by kernel_rfl
@[simp] theorem zvA_38 : zvA Tryd.prog 38 = some [AV.d (D.v (Value.slice none 0 0))] := by kernel_rfl
@[simp] theorem byt_38 : byt Tryd.prog 38 = some (159, 2, 8) := by kernel_rfl
@[simp] theorem tk_56 : tk Tryd.prog 56 = some (false, 1) := by kernel_rfl
@[simp] theorem sl_56 : sl Tryd.prog 56 = some (9, 1) := by kernel_rfl
@[simp] theorem zvA_56 : zvA Tryd.prog 56 = some [AV.d (D.v (Value.slice none 0 0))] := by kernel_rfl
@[simp] theorem byt_56 : byt Tryd.prog 56 = some (9, 1, 16) := by kernel_rfl
@[simp] theorem tk_74 : tk Tryd.prog 74 = some (false, 1) := by kernel_rfl
@[simp] theorem sl_74 : sl Tryd.prog 74 = some (5, 1) := by kernel_rfl
@[simp] theorem zvA_74 : zvA Tryd.prog 74 = some [AV.d (D.v (Value.slice none 0 0))] := by kernel_rfl
@[simp] theorem byt_74 : byt Tryd.prog 74 = some (5, 1, 1) := by kernel_rfl
@[simp] theorem tk_121 : tk Tryd.prog 121 = some (false, 1) := by kernel_rfl
@[simp] theorem sl_121 : sl Tryd.prog 121 = some (123, 10) := by kernel_rfl
@[simp] theorem zvA_121 : zvA Tryd.prog 121 = some [AV.d (D.v (Value.slice none 0 0))] := by kernel_rfl
@[simp] theorem byt_121 : byt Tryd.prog 121 = some (123, 10, 112) := by kernel_rfl
@[simp] theorem tk_137 : tk Tryd.prog 137 = some (false, 1) := by kernel_rfl
@[simp] theorem sl_137 : sl Tryd.prog 137 = some (139, 2) := by kernel_rfl
@[simp] theorem zvA_137 : zvA Tryd.prog 137 = some [AV.d (D.v (Value.slice none 0 0))] := by kernel_rfl
@[simp] theorem byt_137 : byt Tryd.prog 137 = some (139, 2, 16) := by kernel_rfl
@[simp] theorem tk_162 : tk Tryd.prog 162 = some (false, 1) := by kernel_rfl
@[simp] theorem sl_162 : sl Tryd.prog 162 = some (168, 3) := by kernel_rfl
@[simp] theorem zvA_162 : zvA Tryd.prog 162 = some [AV.d (D.v (Value.slice none 0 0))] := by kernel_rfl
@[simp] theorem byt_162 : byt Tryd.prog 162 = some (168, 3, 6) := by kernel_rfl
@[simp] theorem tk_163 : tk Tryd.prog 163 = some (false, 1) := by kernel_rfl
@[simp] theorem sl_163 : sl Tryd.prog 163 = some (171, 3) := by kernel_rfl
@[simp] theorem zvA_163 : zvA Tryd.prog 163 = some [AV.d (D.v (Value.slice none 0 0))] := by kernel_rfl
@[simp] theorem byt_163 : byt Tryd.prog 163 = some (171, 3, 12) := by kernel_rfl
@[simp] theorem tk_173 : tk Tryd.prog 173 = some (false, 1) := by kernel_rfl
@[simp] theorem sl_173 : sl Tryd.prog 173 = some (147, 4) := by kernel_rfl
@[simp] theorem zvA_173 : zvA Tryd.prog 173 = some [AV.d (D.v (Value.slice none 0 0))] := by kernel_rfl
@[simp] theorem byt_173 : byt Tryd.prog 173 = some (147, 4, 40) := by kernel_rfl
@[simp] theorem tk_2 : tk Tryd.prog 2 = some (false, 1) := by kernel_rfl
@[simp] theorem isInt_2 : isInt Tryd.prog 2 = some IntKind.i64 := by kernel_rfl
@[simp] theorem isStr_2 : isStr Tryd.prog 2 = false := by kernel_rfl
@[simp] theorem zvA_2 : zvA Tryd.prog 2 = some [AV.d (D.v (Value.int IntKind.i64 (0)))] := by kernel_rfl
@[simp] theorem tk_3 : tk Tryd.prog 3 = some (false, 1) := by kernel_rfl
@[simp] theorem isInt_3 : isInt Tryd.prog 3 = some IntKind.i64 := by kernel_rfl
@[simp] theorem isStr_3 : isStr Tryd.prog 3 = false := by kernel_rfl
@[simp] theorem zvA_3 : zvA Tryd.prog 3 = some [AV.d (D.v (Value.int IntKind.i64 (0)))] := by kernel_rfl
@[simp] theorem tk_4 : tk Tryd.prog 4 = some (false, 1) := by kernel_rfl
@[simp] theorem isInt_4 : isInt Tryd.prog 4 = none := by kernel_rfl
@[simp] theorem isStr_4 : isStr Tryd.prog 4 = false := by kernel_rfl
@[simp] theorem zvA_4 : zvA Tryd.prog 4 = some [AV.d (D.v (Value.bool false))] := by kernel_rfl
@[simp] theorem tk_5 : tk Tryd.prog 5 = some (false, 1) := by kernel_rfl
@[simp] theorem isInt_5 : isInt Tryd.prog 5 = some IntKind.u8 := by kernel_rfl
@[simp] theorem isStr_5 : isStr Tryd.prog 5 = false := by kernel_rfl
@[simp] theorem zvA_5 : zvA Tryd.prog 5 = some [AV.d (D.v (Value.int IntKind.u8 (0)))] := by kernel_rfl
@[simp] theorem tk_6 : tk Tryd.prog 6 = some (false, 1) := by kernel_rfl
@[simp] theorem isInt_6 : isInt Tryd.prog 6 = some IntKind.u8 := by kernel_rfl
@[simp] theorem isStr_6 : isStr Tryd.prog 6 = false := by kernel_rfl
@[simp] theorem zvA_6 : zvA Tryd.prog 6 = some [AV.d (D.v (Value.int IntKind.u8 (0)))] := by kernel_rfl
@[simp] theorem tk_9 : tk Tryd.prog 9 = some (false, 1) := by kernel_rfl
@[simp] theorem isInt_9 : isInt Tryd.prog 9 = none := by kernel_rfl
@[simp] theorem isStr_9 : isStr Tryd.prog 9 = true := by kernel_rfl
@[simp] theorem zvA_9 : zvA Tryd.prog 9 = some [AV.d (D.v (Value.string { data := #[] }))] := by kernel_rfl
@[simp] theorem tk_10 : tk Tryd.prog 10 = some (false, 1) := by kernel_rfl
@[simp] theorem isInt_10 : isInt Tryd.prog 10 = none := by kernel_rfl
@[simp] theorem isStr_10 : isStr Tryd.prog 10 = true := by kernel_rfl
@[simp] theorem zvA_10 : zvA Tryd.prog 10 = some [AV.d (D.v (Value.string { data := #[] }))] := by kernel_rfl
@[simp] theorem tk_11 : tk Tryd.prog 11 = some (false, 1) := by kernel_rfl
@[simp] theorem isInt_11 : isInt Tryd.prog 11 = none := by kernel_rfl
@[simp] theorem isStr_11 : isStr Tryd.prog 11 = true := by kernel_rfl
@[simp] theorem zvA_11 : zvA Tryd.prog 11 = some [AV.d (D.v (Value.string { data := #[] }))] := by kernel_rfl
@[simp] theorem tk_12 : tk Tryd.prog 12 = some (false, 1) := by kernel_rfl
@[simp] theorem isInt_12 : isInt Tryd.prog 12 = some IntKind.u64 := by kernel_rfl
@[simp] theorem isStr_12 : isStr Tryd.prog 12 = false := by kernel_rfl
@[simp] theorem zvA_12 : zvA Tryd.prog 12 = some [AV.d (D.v (Value.int IntKind.u64 (0)))] := by kernel_rfl
@[simp] theorem tk_21 : tk Tryd.prog 21 = some (false, 1) := by kernel_rfl
@[simp] theorem isInt_21 : isInt Tryd.prog 21 = some IntKind.i32 := by kernel_rfl
@[simp] theorem isStr_21 : isStr Tryd.prog 21 = false := by kernel_rfl
@[simp] theorem zvA_21 : zvA Tryd.prog 21 = some [AV.d (D.v (Value.int IntKind.i32 (0)))] := by kernel_rfl
@[simp] theorem tk_22 : tk Tryd.prog 22 = some (false, 1) := by kernel_rfl
@[simp] theorem isInt_22 : isInt Tryd.prog 22 = some IntKind.u32 := by kernel_rfl
@[simp] theorem isStr_22 : isStr Tryd.prog 22 = false := by kernel_rfl
@[simp] theorem zvA_22 : zvA Tryd.prog 22 = some [AV.d (D.v (Value.int IntKind.u32 (0)))] := by kernel_rfl
@[simp] theorem tk_44 : tk Tryd.prog 44 = some (false, 1) := by kernel_rfl
@[simp] theorem isInt_44 : isInt Tryd.prog 44 = some IntKind.i64 := by kernel_rfl
@[simp] theorem isStr_44 : isStr Tryd.prog 44 = false := by kernel_rfl
@[simp] theorem zvA_44 : zvA Tryd.prog 44 = some [AV.d (D.v (Value.int IntKind.i64 (0)))] := by kernel_rfl
@[simp] theorem tk_143 : tk Tryd.prog 143 = some (false, 1) := by kernel_rfl
@[simp] theorem isInt_143 : isInt Tryd.prog 143 = some IntKind.u64 := by kernel_rfl
@[simp] theorem isStr_143 : isStr Tryd.prog 143 = false := by kernel_rfl
@[simp] theorem zvA_143 : zvA Tryd.prog 143 = some [AV.d (D.v (Value.int IntKind.u64 (0)))] := by kernel_rfl
@[simp] theorem tk_151 : tk Tryd.prog 151 = some (false, 1) := by kernel_rfl
@[simp] theorem isInt_151 : isInt Tryd.prog 151 = some IntKind.i8 := by kernel_rfl
@[simp] theorem isStr_151 : isStr Tryd.prog 151 = false := by kernel_rfl
@[simp] theorem zvA_151 : zvA Tryd.prog 151 = some [AV.d (D.v (Value.int IntKind.i8 (0)))] := by kernel_rfl
@[simp] theorem tk_152 : tk Tryd.prog 152 = some (false, 1) := by kernel_rfl
@[simp] theorem isInt_152 : isInt Tryd.prog 152 = some IntKind.i16 := by kernel_rfl
@[simp] theorem isStr_152 : isStr Tryd.prog 152 = false := by kernel_rfl
@[simp] theorem zvA_152 : zvA Tryd.prog 152 = some [AV.d (D.v (Value.int IntKind.i16 (0)))] := by kernel_rfl
@[simp] theorem tk_166 : tk Tryd.prog 166 = some (false, 1) := by kernel_rfl
@[simp] theorem isInt_166 : isInt Tryd.prog 166 = some IntKind.u16 := by kernel_rfl
@[simp] theorem isStr_166 : isStr Tryd.prog 166 = false := by kernel_rfl
@[simp] theorem zvA_166 : zvA Tryd.prog 166 = some [AV.d (D.v (Value.int IntKind.u16 (0)))] := by kernel_rfl
@[simp] theorem tk_193 : tk Tryd.prog 193 = some (false, 1) := by kernel_rfl
@[simp] theorem isInt_193 : isInt Tryd.prog 193 = some IntKind.u64 := by kernel_rfl
@[simp] theorem isStr_193 : isStr Tryd.prog 193 = false := by kernel_rfl
@[simp] theorem zvA_193 : zvA Tryd.prog 193 = some [AV.d (D.v (Value.int IntKind.u64 (0)))] := by kernel_rfl
@[simp] theorem tk_206 : tk Tryd.prog 206 = some (false, 1) := by kernel_rfl
@[simp] theorem isInt_206 : isInt Tryd.prog 206 = none := by kernel_rfl
@[simp] theorem isStr_206 : isStr Tryd.prog 206 = false := by kernel_rfl
@[simp] theorem zvA_206 : zvA Tryd.prog 206 = some [AV.d (D.v (Value.pointer none))] := by kernel_rfl
@[simp] theorem tk_218 : tk Tryd.prog 218 = some (false, 1) := by kernel_rfl
@[simp] theorem isInt_218 : isInt Tryd.prog 218 = some IntKind.u8 := by kernel_rfl
@[simp] theorem isStr_218 : isStr Tryd.prog 218 = false := by kernel_rfl
@[simp] theorem zvA_218 : zvA Tryd.prog 218 = some [AV.d (D.v (Value.int IntKind.u8 (0)))] := by kernel_rfl
@[simp] theorem tk_219 : tk Tryd.prog 219 = some (false, 1) := by kernel_rfl
@[simp] theorem isInt_219 : isInt Tryd.prog 219 = some IntKind.u8 := by kernel_rfl
@[simp] theorem isStr_219 : isStr Tryd.prog 219 = false := by kernel_rfl
@[simp] theorem zvA_219 : zvA Tryd.prog 219 = some [AV.d (D.v (Value.int IntKind.u8 (0)))] := by kernel_rfl
@[simp] theorem tk_221 : tk Tryd.prog 221 = some (false, 1) := by kernel_rfl
@[simp] theorem isInt_221 : isInt Tryd.prog 221 = some IntKind.i32 := by kernel_rfl
@[simp] theorem isStr_221 : isStr Tryd.prog 221 = false := by kernel_rfl
@[simp] theorem zvA_221 : zvA Tryd.prog 221 = some [AV.d (D.v (Value.int IntKind.i32 (0)))] := by kernel_rfl
@[simp] theorem tk_222 : tk Tryd.prog 222 = some (false, 1) := by kernel_rfl
@[simp] theorem isInt_222 : isInt Tryd.prog 222 = some IntKind.i32 := by kernel_rfl
@[simp] theorem isStr_222 : isStr Tryd.prog 222 = false := by kernel_rfl
@[simp] theorem zvA_222 : zvA Tryd.prog 222 = some [AV.d (D.v (Value.int IntKind.i32 (0)))] := by kernel_rfl
@[simp] theorem tk_1 : tk Tryd.prog 1 = some (false, 1) := by kernel_rfl
@[simp] theorem zvA_1 : zvA Tryd.prog 1 = some [AV.d (D.v Value.nilFunc)] := by kernel_rfl
@[simp] theorem tk_15 : tk Tryd.prog 15 = some (false, 1) := by kernel_rfl
@[simp] theorem zvA_15 : zvA Tryd.prog 15 = some [AV.d (D.v (Value.pointer none))] := by kernel_rfl
@[simp] theorem tk_16 : tk Tryd.prog 16 = some (false, 1) := by kernel_rfl
@[simp] theorem zvA_16 : zvA Tryd.prog 16 = some [AV.d (D.v (Value.pointer none))] := by kernel_rfl
@[simp] theorem tk_17 : tk Tryd.prog 17 = some (false, 1) := by kernel_rfl
@[simp] theorem zvA_17 : zvA Tryd.prog 17 = some [AV.d (D.v (Value.pointer none))] := by kernel_rfl
@[simp] theorem tk_20 : tk Tryd.prog 20 = some (false, 1) := by kernel_rfl
@[simp] theorem zvA_20 : zvA Tryd.prog 20 = some [AV.d (D.v Value.nilIface)] := by kernel_rfl
@[simp] theorem tk_26 : tk Tryd.prog 26 = some (false, 1) := by kernel_rfl
@[simp] theorem zvA_26 : zvA Tryd.prog 26 = some [AV.d (D.v Value.nilFunc)] := by kernel_rfl
@[simp] theorem tk_27 : tk Tryd.prog 27 = some (false, 1) := by kernel_rfl
@[simp] theorem zvA_27 : zvA Tryd.prog 27 = some [AV.d (D.v Value.nilFunc)] := by kernel_rfl
@[simp] theorem tk_29 : tk Tryd.prog 29 = some (false, 1) := by kernel_rfl
@[simp] theorem zvA_29 : zvA Tryd.prog 29 = some [AV.d (D.v Value.nilFunc)] := by kernel_rfl
@[simp] theorem tk_30 : tk Tryd.prog 30 = some (false, 1) := by kernel_rfl
@[simp] theorem zvA_30 : zvA Tryd.prog 30 = some [AV.d (D.v Value.nilFunc)] := by kernel_rfl
@[simp] theorem tk_31 : tk Tryd.prog 31 = some (false, 1) := by kernel_rfl
@[simp] theorem zvA_31 : zvA Tryd.prog 31 = some [AV.d (D.v Value.nilFunc)] := by kernel_rfl
@[simp] theorem tk_32 : tk Tryd.prog 32 = some (false, 1) := by kernel_rfl
@[simp] theorem zvA_32 : zvA Tryd.prog 32 = some [AV.d (D.v Value.nilFunc)] := by kernel_rfl
@[simp] theorem tk_34 : tk Tryd.prog 34 = some (false, 1) := by kernel_rfl
@[simp] theorem zvA_34 : zvA Tryd.prog 34 = some [AV.d (D.v Value.nilFunc)] := by kernel_rfl
@[simp] theorem tk_41 : tk Tryd.prog 41 = some (false, 1) := by kernel_rfl
@[simp] theorem zvA_41 : zvA Tryd.prog 41 = some [AV.d (D.v Value.nilFunc)] := by kernel_rfl
@[simp] theorem tk_43 : tk Tryd.prog 43 = some (false, 1) := by kernel_rfl
@[simp] theorem zvA_43 : zvA Tryd.prog 43 = some [AV.d (D.v Value.nilFunc)] := by kernel_rfl
@[simp] theorem tk_46 : tk Tryd.prog 46 = some (false, 1) := by kernel_rfl
@[simp] theorem zvA_46 : zvA Tryd.prog 46 = some [AV.d (D.v Value.nilFunc)] := by kernel_rfl
@[simp] theorem tk_47 : tk Tryd.prog 47 = some (false, 1) := by kernel_rfl
@[simp] theorem zvA_47 : zvA Tryd.prog 47 = some [AV.d (D.v Value.nilFunc)] := by kernel_rfl
@[simp] theorem tk_49 : tk Tryd.prog 49 = some (false, 1) := by kernel_rfl
@[simp] theorem zvA_49 : zvA Tryd.prog 49 = some [AV.d (D.v Value.nilFunc)] := by kernel_rfl
@[simp] theorem tk_50 : tk Tryd.prog 50 = some (false, 1) := by kernel_rfl
@[simp] theorem zvA_50 : zvA Tryd.prog 50 = some [AV.d (D.v Value.nilFunc)] := by kernel_rfl
@[simp] theorem tk_51 : tk Tryd.prog 51 = some (false, 1) := by kernel_rfl
@[simp] theorem zvA_51 : zvA Tryd.prog 51 = some [AV.d (D.v Value.nilFunc)] := by kernel_rfl
@[simp] theorem tk_52 : tk Tryd.prog 52 = some (false, 1) := by kernel_rfl
@[simp] theorem zvA_52 : zvA Tryd.prog 52 = some [AV.d (D.v Value.nilFunc)] := by kernel_rfl
@[simp] theorem tk_53 : tk Tryd.prog 53 = some (false, 1) := by kernel_rfl
@[simp] theorem zvA_53 : zvA Tryd.prog 53 = some [AV.d (D.v Value.nilFunc)] := by kernel_rfl
@[simp] theorem tk_54 : tk Tryd.prog 54 = some (false, 1) := by kernel_rfl
@[simp] theorem zvA_54 : zvA Tryd.prog 54 = some [AV.d (D.v Value.nilFunc)] := by kernel_rfl
@[simp] theorem tk_55 : tk Tryd.prog 55 = some (false, 1) := by kernel_rfl
@[simp] theorem zvA_55 : zvA Tryd.prog 55 = some [AV.d (D.v Value.nilFunc)] := by kernel_rfl
@[simp] theorem tk_57 : tk Tryd.prog 57 = some (false, 1) := by kernel_rfl
@[simp] theorem zvA_57 : zvA Tryd.prog 57 = some [AV.d (D.v Value.nilFunc)] := by kernel_rfl
@[simp] theorem tk_61 : tk Tryd.prog 61 = some (false, 1) := by kernel_rfl
@[simp] theorem zvA_61 : zvA Tryd.prog 61 = some [AV.d (D.v Value.nilFunc)] := by kernel_rfl
@[simp] theorem tk_62 : tk Tryd.prog 62 = some (false, 1) := by kernel_rfl
@[simp] theorem zvA_62 : zvA Tryd.prog 62 = some [AV.d (D.v Value.nilFunc)] := by kernel_rfl
@[simp] theorem tk_63 : tk Tryd.prog 63 = some (false, 1) := by kernel_rfl
@[simp] theorem zvA_63 : zvA Tryd.prog 63 = some [AV.d (D.v Value.nilFunc)] := by kernel_rfl
@[simp] theorem tk_65 : tk Tryd.prog 65 = some (false, 1) := by kernel_rfl
@[simp] theorem zvA_65 : zvA Tryd.prog 65 = some [AV.d (D.v Value.nilFunc)] := by kernel_rfl
@[simp] theorem tk_66 : tk Tryd.prog 66 = some (false, 1) := by kernel_rfl
@[simp] theorem zvA_66 : zvA Tryd.prog 66 = some [AV.d (D.v Value.nilFunc)] := by kernel_rfl
@[simp] theorem tk_67 : tk Tryd.prog 67 = some (false, 1) := by kernel_rfl
@[simp] theorem zvA_67 : zvA Tryd.prog 67 = some [AV.d (D.v Value.nilFunc)] := by kernel_rfl
@[simp] theorem tk_68 : tk Tryd.prog 68 = some (false, 1) := by kernel_rfl
@[simp] theorem zvA_68 : zvA Tryd.prog 68 = some [AV.d (D.v Value.nilFunc)] := by kernel_rfl
@[simp] theorem tk_69 : tk Tryd.prog 69 = some (false, 1) := by kernel_rfl
@[simp] theorem zvA_69 : zvA Tryd.prog 69 = some [AV.d (D.v Value.nilFunc)] := by kernel_rfl
@[simp] theorem tk_70 : tk Tryd.prog 70 = some (false, 1) := by kernel_rfl
@[simp] theorem zvA_70 : zvA Tryd.prog 70 = some [AV.d (D.v Value.nilFunc)] := by kernel_rfl
@[simp] theorem tk_71 : tk Tryd.prog 71 = some (false, 1) := by kernel_rfl
@[simp] theorem zvA_71 : zvA Tryd.prog 71 = some [AV.d (D.v Value.nilFunc)] := by kernel_rfl
@[simp] theorem tk_72 : tk Tryd.prog 72 = some (false, 1) := by kernel_rfl
@[simp] theorem zvA_72 : zvA Tryd.prog 72 = some [AV.d (D.v Value.nilFunc)] := by kernel_rfl
@[simp] theorem tk_73 : tk Tryd.prog 73 = some (false, 1) := by kernel_rfl
@[simp] theorem zvA_73 : zvA Tryd.prog 73 = some [AV.d (D.v Value.nilFunc)] := by kernel_rfl
@[simp] theorem tk_76 : tk Tryd.prog 76 = some (false, 1) := by kernel_rfl
@[simp] theorem zvA_76 : zvA Tryd.prog 76 = some [AV.d (D.v Value.nilFunc)] := by kernel_rfl
@[simp] theorem tk_79 : tk Tryd.prog 79 = some (false, 1) := by kernel_rfl
@[simp] theorem zvA_79 : zvA Tryd.prog 79 = some [AV.d (D.v Value.nilFunc)] := by kernel_rfl
@[simp] theorem tk_81 : tk Tryd.prog 81 = some (false, 1) := by kernel_rfl
@[simp] theorem zvA_81 : zvA Tryd.prog 81 = some [AV.d (D.v Value.nilFunc)] := by kernel_rfl
@[simp] theorem tk_82 : tk Tryd.prog 82 = some (false, 1) := by kernel_rfl
@[simp] theorem zvA_82 : zvA Tryd.prog 82 = some [AV.d (D.v Value.nilFunc)] := by kernel_rfl
@[simp] theorem tk_83 : tk Tryd.prog 83 = some (false, 1) := by kernel_rfl
@[simp] theorem zvA_83 : zvA Tryd.prog 83 = some [AV.d (D.v Value.nilFunc)] := by kernel_rfl
@[simp] theorem tk_84 : tk Tryd.prog 84 = some (false, 1) := by kernel_rfl
@[simp] theorem zvA_84 : zvA Tryd.prog 84 = some [AV.d (D.v (Value.pointer none))] := by kernel_rfl
@[simp] theorem tk_85 : tk Tryd.prog 85 = some (false, 1) := by kernel_rfl
@[simp] theorem zvA_85 : zvA Tryd.prog 85 = some [AV.d (D.v Value.nilFunc)] := by kernel_rfl
@[simp] theorem tk_86 : tk Tryd.prog 86 = some (false, 1) := by kernel_rfl
@[simp] theorem zvA_86 : zvA Tryd.prog 86 = some [AV.d (D.v Value.nilFunc)] := by kernel_rfl
@[simp] theorem tk_88 : tk Tryd.prog 88 = some (false, 1) := by kernel_rfl
@[simp] theorem zvA_88 : zvA Tryd.prog 88 = some [AV.d (D.v Value.nilFunc)] := by kernel_rfl
@[simp] theorem tk_90 : tk Tryd.prog 90 = some (false, 1) := by kernel_rfl
@[simp] theorem zvA_90 : zvA Tryd.prog 90 = some [AV.d (D.v Value.nilFunc)] := by kernel_rfl
@[simp] theorem tk_91 : tk Tryd.prog 91 = some (false, 1) := by kernel_rfl
@[simp] theorem zvA_91 : zvA Tryd.prog 91 = some [AV.d (D.v Value.nilFunc)] := by kernel_rfl
@[simp] theorem tk_92 : tk Tryd.prog 92 = some (false, 1) := by kernel_rfl
@[simp] theorem zvA_92 : zvA Tryd.prog 92 = some [AV.d (D.v Value.nilFunc)] := by kernel_rfl
@[simp] theorem tk_93 : tk Tryd.prog 93 = some (false, 1) := by kernel_rfl
@[simp] theorem zvA_93 : zvA Tryd.prog 93 = some [AV.d (D.v Value.nilFunc)] := by kernel_rfl
@[simp] theorem tk_94 : tk Tryd.prog 94 = some (false, 1) := by kernel_rfl
@[simp] theorem zvA_94 : zvA Tryd.prog 94 = some [AV.d (D.v Value.nilFunc)] := by kernel_rfl
@[simp] theorem tk_95 : tk Tryd.prog 95 = some (false, 1) := by kernel_rfl
@[simp] theorem zvA_95 : zvA Tryd.prog 95 = some [AV.d (D.v Value.nilFunc)] := by kernel_rfl
@[simp] theorem tk_96 : tk Tryd.prog 96 = some (false, 1) := by kernel_rfl
@[simp] theorem zvA_96 : zvA Tryd.prog 96 = some [AV.d (D.v Value.nilFunc)] := by kernel_rfl
@[simp] theorem tk_97 : tk Tryd.prog 97 = some (false, 1) := by kernel_rfl
@[simp] theorem zvA_97 : zvA Tryd.prog 97 = some [AV.d (D.v Value.nilFunc)] := by kernel_rfl
@[simp] theorem tk_98 : tk Tryd.prog 98 = some (false, 1) := by kernel_rfl
@[simp] theorem zvA_98 : zvA Tryd.prog 98 = some [AV.d (D.v Value.nilFunc)] := by kernel_rfl
@[simp] theorem tk_99 : tk Tryd.prog 99 = some (false, 1) := by kernel_rfl
@[simp] theorem zvA_99 : zvA Tryd.prog 99 = some [AV.d (D.v Value.nilFunc)] := by kernel_rfl
@[simp] theorem tk_100 : tk Tryd.prog 100 = some (false, 1) := by kernel_rfl
@[simp] theorem zvA_100 : zvA Tryd.prog 100 = some [AV.d (D.v Value.nilFunc)] := by kernel_rfl
@[simp] theorem tk_102 : tk Tryd.prog 102 = some (false, 1) := by kernel_rfl
@[simp] theorem zvA_102 : zvA Tryd.prog 102 = some [AV.d (D.v Value.nilFunc)] := by kernel_rfl
@[simp] theorem tk_103 : tk Tryd.prog 103 = some (false, 1) := by kernel_rfl
@[simp] theorem zvA_103 : zvA Tryd.prog 103 = some [AV.d (D.v Value.nilFunc)] := by kernel_rfl
@[simp] theorem tk_105 : tk Tryd.prog 105 = some (false, 1) := by kernel_rfl
@[simp] theorem zvA_105 : zvA Tryd.prog 105 = some [AV.d (D.v Value.nilFunc)] := by kernel_rfl
@[simp] theorem tk_106 : tk Tryd.prog 106 = some (false, 1) := by kernel_rfl
@[simp] theorem zvA_106 : zvA Tryd.prog 106 = some [AV.d (D.v Value.nilFunc)] := by kernel_rfl
@[simp] theorem tk_107 : tk Tryd.prog 107 = some (false, 1) := by kernel_rfl
@[simp] theorem zvA_107 : zvA Tryd.prog 107 = some [AV.d (D.v Value.nilFunc)] := by kernel_rfl
@[simp] theorem tk_108 : tk Tryd.prog 108 = some (false, 1) := by kernel_rfl
@[simp] theorem zvA_108 : zvA Tryd.prog 108 = some [AV.d (D.v Value.nilFunc)] := by kernel_rfl
@[simp] theorem tk_109 : tk Tryd.prog 109 = some (false, 1) := by kernel_rfl
@[simp] theorem zvA_109 : zvA Tryd.prog 109 = some [AV.d (D.v Value.nilFunc)] := by kernel_rfl
@[simp] theorem tk_110 : tk Tryd.prog 110 = some (false, 1) := by kernel_rfl
@[simp] theorem zvA_110 : zvA Tryd.prog 110 = some [AV.d (D.v Value.nilFunc)] := by kernel_rfl
@[simp] theorem tk_111 : tk Tryd.prog 111 = some (false, 1) := by kernel_rfl
@[simp] theorem zvA_111 : zvA Tryd.prog 111 = some [AV.d (D.v Value.nilFunc)] := by kernel_rfl
@[simp] theorem tk_112 : tk Tryd.prog 112 = some (false, 1) := by kernel_rfl
@[simp] theorem zvA_112 : zvA Tryd.prog 112 = some [AV.d (D.v Value.nilFunc)] := by kernel_rfl
@[simp] theorem tk_113 : tk Tryd.prog 113 = some (false, 1) := by kernel_rfl
@[simp] theorem zvA_113 : zvA Tryd.prog 113 = some [AV.d (D.v Value.nilFunc)] := by kernel_rfl
@[simp] theorem tk_114 : tk Tryd.prog 114 = some (false, 1) := by kernel_rfl
@[simp] theorem zvA_114 : zvA Tryd.prog 114 = some [AV.d (D.v Value.nilFunc)] := by kernel_rfl
@[simp] theorem tk_115 : tk Tryd.prog 115 = some (false, 1) := by kernel_rfl
@[simp] theorem zvA_115 : zvA Tryd.prog 115 = some [AV.d (D.v Value.nilFunc)] := by kernel_rfl
@[simp] theorem tk_116 : tk Tryd.prog 116 = some (false, 1) := by kernel_rfl
@[simp] theorem zvA_116 : zvA Tryd.prog 116 = some [AV.d (D.v Value.nilFunc)] := by kernel_rfl
@[simp] theorem tk_118 : tk Tryd.prog 118 = some (false, 1) := by kernel_rfl
@[simp] theorem zvA_118 : zvA Tryd.prog 118 = some [AV.d (D.v Value.nilFunc)] := by kernel_rfl
@[simp] theorem tk_119 : tk Tryd.prog 119 = some (false, 1) := by kernel_rfl
@[simp] theorem zvA_119 : zvA Tryd.prog 119 = some [AV.d (D.v Value.nilFunc)] := by kernel_rfl
@[simp] theorem tk_120 : tk Tryd.prog 120 = some (false, 1) := by kernel_rfl
@[simp] theorem zvA_120 : zvA Tryd.prog 120 = some [AV.d (D.v Value.nilFunc)] := by kernel_rfl
@[simp] theorem tk_122 : tk Tryd.prog 122 = some (false, 1) := by kernel_rfl
@[simp] theorem zvA_122 : zvA Tryd.prog 122 = some [AV.d (D.v Value.nilFunc)] := by kernel_rfl
@[simp] theorem tk_124 : tk Tryd.prog 124 = some (false, 1) := by kernel_rfl
@[simp] theorem zvA_124 : zvA Tryd.prog 124 = some [AV.d (D.v Value.nilFunc)] := by kernel_rfl
@[simp] theorem tk_126 : tk Tryd.prog 126 = some (false, 1) := by kernel_rfl
@[simp] theorem zvA_126 : zvA Tryd.prog 126 = some [AV.d (D.v Value.nilFunc)] := by kernel_rfl
@[simp] theorem tk_128 : tk Tryd.prog 128 = some (false, 1) := by kernel_rfl
@[simp] theorem zvA_128 : zvA Tryd.prog 128 = some [AV.d (D.v Value.nilFunc)] := by kernel_rfl
@[simp] theorem tk_129 : tk Tryd.prog 129 = some (false, 1) := by kernel_rfl
@[simp] theorem zvA_129 : zvA Tryd.prog 129 = some [AV.d (D.v Value.nilFunc)] := by kernel_rfl
@[simp] theorem tk_130 : tk Tryd.prog 130 = some (false, 1) := by kernel_rfl
@[simp] theorem zvA_130 : zvA Tryd.prog 130 = some [AV.d (D.v Value.nilFunc)] := by kernel_rfl
@[simp] theorem tk_133 : tk Tryd.prog 133 = some (false, 1) := by kernel_rfl
@[simp] theorem zvA_133 : zvA Tryd.prog 133 = some [AV.d (D.v Value.nilFunc)] := by kernel_rfl
@[simp] theorem tk_134 : tk Tryd.prog 134 = some (false, 1) := by kernel_rfl
@[simp] theorem zvA_134 : zvA Tryd.prog 134 = some [AV.d (D.v Value.nilFunc)] := by kernel_rfl
@[simp] theorem tk_136 : tk Tryd.prog 136 = some (false, 1) := by kernel_rfl
@[simp] theorem zvA_136 : zvA Tryd.prog 136 = some [AV.d (D.v Value.nilFunc)] := by kernel_rfl
@[simp] theorem tk_140 : tk Tryd.prog 140 = some (false, 1) := by kernel_rfl
@[simp] theorem zvA_140 : zvA Tryd.prog 140 = some [AV.d (D.v Value.nilFunc)] := by kernel_rfl
@[simp] theorem tk_141 : tk Tryd.prog 141 = some (false, 1) := by kernel_rfl
@[simp] theorem zvA_141 : zvA Tryd.prog 141 = some [AV.d (D.v (Value.pointer none))] := by kernel_rfl
@[simp] theorem tk_149 : tk Tryd.prog 149 = some (false, 1) := by kernel_rfl
@[simp] theorem zvA_149 : zvA Tryd.prog 149 = some [AV.d (D.v Value.nilFunc)] := by kernel_rfl
@[simp] theorem tk_150 : tk Tryd.prog 150 = some (false, 1) := by kernel_rfl
@[simp] theorem zvA_150 : zvA Tryd.prog 150 = some [AV.d (D.v Value.nilFunc)] := by kernel_rfl
@[simp] theorem tk_153 : tk Tryd.prog 153 = some (false, 1) := by kernel_rfl
@[simp] theorem zvA_153 : zvA Tryd.prog 153 = some [AV.d (D.v Value.nilFunc)] := by kernel_rfl
@[simp] theorem tk_154 : tk Tryd.prog 154 = some (false, 1) := by kernel_rfl
@[simp] theorem zvA_154 : zvA Tryd.prog 154 = some [AV.d (D.v Value.nilFunc)] := by kernel_rfl
@[simp] theorem tk_156 : tk Tryd.prog 156 = some (false, 1) := by kernel_rfl
@[simp] theorem zvA_156 : zvA Tryd.prog 156 = some [AV.d (D.v Value.nilFunc)] := by kernel_rfl
@[simp] theorem tk_157 : tk Tryd.prog 157 = some (false, 1) := by kernel_rfl
@[simp] theorem zvA_157 : zvA Tryd.prog 157 = some [AV.d (D.v Value.nilFunc)] := by kernel_rfl
@[simp] theorem tk_160 : tk Tryd.prog 160 = some (false, 1) := by kernel_rfl
@[simp] theorem zvA_160 : zvA Tryd.prog 160 = some [AV.d (D.v Value.nilFunc)] := by kernel_rfl
@[simp] theorem tk_161 : tk Tryd.prog 161 = some (false, 1) := by kernel_rfl
@[simp] theorem zvA_161 : zvA Tryd.prog 161 = some [AV.d (D.v Value.nilFunc)] := by kernel_rfl
@[simp] theorem tk_169 : tk Tryd.prog 169 = some (false, 1) := by kernel_rfl
@[simp] theorem zvA_169 : zvA Tryd.prog 169 = some [AV.d (D.v Value.nilFunc)] := by kernel_rfl
@[simp] theorem tk_172 : tk Tryd.prog 172 = some (false, 1) := by kernel_rfl
@[simp] theorem zvA_172 : zvA Tryd.prog 172 = some [AV.d (D.v Value.nilFunc)] := by kernel_rfl
@[simp] theorem tk_174 : tk Tryd.prog 174 = some (false, 1) := by kernel_rfl
@[simp] theorem zvA_174 : zvA Tryd.prog 174 = some [AV.d (D.v (Value.map none))] := by kernel_rfl
@[simp] theorem tk_178 : tk Tryd.prog 178 = some (false, 1) := by kernel_rfl
@[simp] theorem zvA_178 : zvA Tryd.prog 178 = some [AV.d (D.v Value.nilFunc)] := by kernel_rfl
@[simp] theorem tk_179 : tk Tryd.prog 179 = some (false, 1) := by kernel_rfl
@[simp] theorem zvA_179 : zvA Tryd.prog 179 = some [AV.d (D.v Value.nilFunc)] := by kernel_rfl
@[simp] theorem tk_181 : tk Tryd.prog 181 = some (false, 1) := by kernel_rfl
@[simp] theorem zvA_181 : zvA Tryd.prog 181 = some [AV.d (D.v (Value.pointer none))] := by kernel_rfl
@[simp] theorem tk_184 : tk Tryd.prog 184 = some (false, 1) := by kernel_rfl
@[simp] theorem zvA_184 : zvA Tryd.prog 184 = some [AV.d (D.v Value.nilFunc)] := by kernel_rfl
@[simp] theorem tk_185 : tk Tryd.prog 185 = some (false, 1) := by kernel_rfl
@[simp] theorem zvA_185 : zvA Tryd.prog 185 = some [AV.d (D.v Value.nilIface)] := by kernel_rfl
@[simp] theorem tk_186 : tk Tryd.prog 186 = some (false, 1) := by kernel_rfl
@[simp] theorem zvA_186 : zvA Tryd.prog 186 = some [AV.d (D.v Value.nilIface)] := by kernel_rfl
@[simp] theorem tk_188 : tk Tryd.prog 188 = some (false, 1) := by kernel_rfl
@[simp] theorem zvA_188 : zvA Tryd.prog 188 = some [AV.d (D.v Value.nilFunc)] := by kernel_rfl
@[simp] theorem tk_189 : tk Tryd.prog 189 = some (false, 1) := by kernel_rfl
@[simp] theorem zvA_189 : zvA Tryd.prog 189 = some [AV.d (D.v Value.nilFunc)] := by kernel_rfl
@[simp] theorem tk_190 : tk Tryd.prog 190 = some (false, 1) := by kernel_rfl
@[simp] theorem zvA_190 : zvA Tryd.prog 190 = some [AV.d (D.v Value.nilFunc)] := by kernel_rfl
@[simp] theorem tk_191 : tk Tryd.prog 191 = some (false, 1) := by kernel_rfl
@[simp] theorem zvA_191 : zvA Tryd.prog 191 = some [AV.d (D.v Value.nilFunc)] := by kernel_rfl
@[simp] theorem tk_192 : tk Tryd.prog 192 = some (false, 1) := by kernel_rfl
@[simp] theorem zvA_192 : zvA Tryd.prog 192 = some [AV.d (D.v (Value.pointer none))] := by kernel_rfl
@[simp] theorem tk_194 : tk Tryd.prog 194 = some (false, 1) := by kernel_rfl
@[simp] theorem zvA_194 : zvA Tryd.prog 194 = some [AV.d (D.v (Value.pointer none))] := by kernel_rfl
@[simp] theorem tk_196 : tk Tryd.prog 196 = some (false, 1) := by kernel_rfl
@[simp] theorem zvA_196 : zvA Tryd.prog 196 = some [AV.d (D.v Value.nilFunc)] := by kernel_rfl
@[simp] theorem tk_197 : tk Tryd.prog 197 = some (false, 1) := by kernel_rfl
@[simp] theorem zvA_197 : zvA Tryd.prog 197 = some [AV.d (D.v Value.nilFunc)] := by kernel_rfl
@[simp] theorem tk_199 : tk Tryd.prog 199 = some (false, 1) := by kernel_rfl
@[simp] theorem zvA_199 : zvA Tryd.prog 199 = some [AV.d (D.v Value.nilFunc)] := by kernel_rfl
@[simp] theorem tk_200 : tk Tryd.prog 200 = some (false, 1) := by kernel_rfl
@[simp] theorem zvA_200 : zvA Tryd.prog 200 = some [AV.d (D.v (Value.pointer none))] := by kernel_rfl
@[simp] theorem tk_201 : tk Tryd.prog 201 = some (false, 1) := by kernel_rfl
@[simp] theorem zvA_201 : zvA Tryd.prog 201 = some [AV.d (D.v Value.nilFunc)] := by kernel_rfl
@[simp] theorem tk_202 : tk Tryd.prog 202 = some (false, 1) := by kernel_rfl
@[simp] theorem zvA_202 : zvA Tryd.prog 202 = some [AV.d (D.v Value.nilFunc)] := by kernel_rfl
@[simp] theorem tk_205 : tk Tryd.prog 205 = some (false, 1) := by kernel_rfl
@[simp] theorem zvA_205 : zvA Tryd.prog 205 = some [AV.d (D.v Value.nilFunc)] := by kernel_rfl
@[simp] theorem tk_207 : tk Tryd.prog 207 = some (false, 1) := by kernel_rfl
@[simp] theorem zvA_207 : zvA Tryd.prog 207 = some [AV.d (D.v Value.nilFunc)] := by kernel_rfl
@[simp] theorem tk_208 : tk Tryd.prog 208 = some (false, 1) := by kernel_rfl
@[simp] theorem zvA_208 : zvA Tryd.prog 208 = some [AV.d (D.v Value.nilFunc)] := by kernel_rfl
@[simp] theorem tk_209 : tk Tryd.prog 209 = some (false, 1) := by kernel_rfl
@[simp] theorem zvA_209 : zvA Tryd.prog 209 = some [AV.d (D.v Value.nilFunc)] := by kernel_rfl
@[simp] theorem tk_217 : tk Tryd.prog 217 = some (false, 1) := by kernel_rfl
@[simp] theorem zvA_217 : zvA Tryd.prog 217 = some [AV.d (D.v Value.nilFunc)] := by kernel_rfl
@[simp] theorem tk_220 : tk Tryd.prog 220 = some (false, 1) := by kernel_rfl
@[simp] theorem zvA_220 : zvA Tryd.prog 220 = some [AV.d (D.v Value.nilFunc)] := by kernel_rfl
@[simp] theorem okF_3 : okF Tryd.prog 3 = true := by kernel_rfl
@[simp] theorem okF_4 : okF Tryd.prog 4 = true := by kernel_rfl
@[simp] theorem okF_5 : okF Tryd.prog 5 = true := by kernel_rfl
@[simp] theorem okF_6 : okF Tryd.prog 6 = true := by kernel_rfl
@[simp] theorem okF_7 : okF Tryd.prog 7 = true := by kernel_rfl
@[simp] theorem okF_8 : okF Tryd.prog 8 = true := by kernel_rfl
@[simp] theorem okF_9 : okF Tryd.prog 9 = true := by kernel_rfl
@[simp] theorem okF_10 : okF Tryd.prog 10 = true := by kernel_rfl
@[simp] theorem okF_11 : okF Tryd.prog 11 = true := by kernel_rfl
@[simp] theorem okF_12 : okF Tryd.prog 12 = true := by kernel_rfl
@[simp] theorem okF_13 : okF Tryd.prog 13 = true := by kernel_rfl
@[simp] theorem okF_14 : okF Tryd.prog 14 = true := by kernel_rfl
@[simp] theorem okF_15 : okF Tryd.prog 15 = true := by kernel_rfl
@[simp] theorem okF_16 : okF Tryd.prog 16 = true := by kernel_rfl
@[simp] theorem okF_17 : okF Tryd.prog 17 = true := by kernel_rfl
@[simp] theorem okF_18 : okF Tryd.prog 18 = true := by kernel_rfl
@[simp] theorem okF_19 : okF Tryd.prog 19 = true := by kernel_rfl
@[simp] theorem okF_20 : okF Tryd.prog 20 = true := by kernel_rfl
@[simp] theorem okF_21 : okF Tryd.prog 21 = true := by kernel_rfl
@[simp] theorem okF_22 : okF Tryd.prog 22 = true := by kernel_rfl
@[simp] theorem okF_23 : okF Tryd.prog 23 = true := by kernel_rfl
@[simp] theorem okF_24 : okF Tryd.prog 24 = true := by kernel_rfl
@[simp] theorem okF_25 : okF Tryd.prog 25 = true := by kernel_rfl
@[simp] theorem okF_26 : okF Tryd.prog 26 = true := by kernel_rfl
@[simp] theorem okF_27 : okF Tryd.prog 27 = true := by kernel_rfl
@[simp] theorem okF_28 : okF Tryd.prog 28 = true := by kernel_rfl
@[simp] theorem okF_29 : okF Tryd.prog 29 = true := by kernel_rfl
@[simp] theorem okF_30 : okF Tryd.prog 30 = true := by kernel_rfl
@[simp] theorem okF_31 : okF Tryd.prog 31 = true := by kernel_rfl
@[simp] theorem okF_32 : okF Tryd.prog 32 = true := by kernel_rfl
@[simp] theorem okF_33 : okF Tryd.prog 33 = true := by kernel_rfl
@[simp] theorem okF_34 : okF Tryd.prog 34 = true := by kernel_rfl
@[simp] theorem okF_35 : okF Tryd.prog 35 = true := by kernel_rfl
@[simp] theorem okF_36 : okF Tryd.prog 36 = true := by kernel_rfl
@[simp] theorem okF_37 : okF Tryd.prog 37 = true := by kernel_rfl
@[simp] theorem okF_38 : okF Tryd.prog 38 = true := by kernel_rfl
@[simp] theorem okF_39 : okF Tryd.prog 39 = true := by kernel_rfl
@[simp] theorem okF_40 : okF Tryd.prog 40 = true := by kernel_rfl
@[simp] theorem okF_41 : okF Tryd.prog 41 = true := by kernel_rfl
@[simp] theorem okF_42 : okF Tryd.prog 42 = true := by kernel_rfl
@[simp] theorem okF_43 : okF Tryd.prog 43 = true := by kernel_rfl
@[simp] theorem okF_44 : okF Tryd.prog 44 = true := by kernel_rfl
@[simp] theorem okF_45 : okF Tryd.prog 45 = true := by kernel_rfl
@[simp] theorem okF_46 : okF Tryd.prog 46 = true := by kernel_rfl
@[simp] theorem okF_47 : okF Tryd.prog 47 = true := by kernel_rfl
@[simp] theorem okF_48 : okF Tryd.prog 48 = true := by kernel_rfl
@[simp] theorem okF_49 : okF Tryd.prog 49 = true := by kernel_rfl
@[simp] theorem okF_50 : okF Tryd.prog 50 = true := by kernel_rfl
@[simp] theorem okF_51 : okF Tryd.prog 51 = true := by kernel_rfl
@[simp] theorem okF_52 : okF Tryd.prog 52 = true := by kernel_rfl
@[simp] theorem okF_53 : okF Tryd.prog 53 = true := by kernel_rfl
@[simp] theorem okF_54 : okF Tryd.prog 54 = true := by kernel_rfl
@[simp] theorem okF_55 : okF Tryd.prog 55 = true := by kernel_rfl
@[simp] theorem okF_56 : okF Tryd.prog 56 = true := by kernel_rfl
@[simp] theorem okF_57 : okF Tryd.prog 57 = true := by kernel_rfl
@[simp] theorem okF_58 : okF Tryd.prog 58 = true := by kernel_rfl
@[simp] theorem okF_59 : okF Tryd.prog 59 = true := by kernel_rfl
@[simp] theorem okF_60 : okF Tryd.prog 60 = true := by kernel_rfl
@[simp] theorem okF_61 : okF Tryd.prog 61 = true := by kernel_rfl
@[simp] theorem okF_62 : okF Tryd.prog 62 = true := by kernel_rfl
@[simp] theorem okF_63 : okF Tryd.prog 63 = true := by kernel_rfl
@[simp] theorem okF_64 : okF Tryd.prog 64 = true := by kernel_rfl
@[simp] theorem okF_65 : okF Tryd.prog 65 = true := by kernel_rfl
@[simp] theorem okF_66 : okF Tryd.prog 66 = true := by kernel_rfl
@[simp] theorem okF_67 : okF Tryd.prog 67 = true := by kernel_rfl
@[simp] theorem okF_68 : okF Tryd.prog 68 = true := by kernel_rfl
@[simp] theorem okF_69 : okF Tryd.prog 69 = true := by kernel_rfl
@[simp] theorem okF_70 : okF Tryd.prog 70 = true := by kernel_rfl
@[simp] theorem okF_71 : okF Tryd.prog 71 = true := by kernel_rfl
@[simp] theorem okF_72 : okF Tryd.prog 72 = true := by kernel_rfl
@[simp] theorem okF_73 : okF Tryd.prog 73 = true := by kernel_rfl
@[simp] theorem okF_74 : okF Tryd.prog 74 = true := by kernel_rfl
@[simp] theorem okF_75 : okF Tryd.prog 75 = true := by kernel_rfl
@[simp] theorem okF_76 : okF Tryd.prog 76 = true := by kernel_rfl
@[simp] theorem okF_77 : okF Tryd.prog 77 = true := by kernel_rfl
@[simp] theorem okF_78 : okF Tryd.prog 78 = true := by kernel_rfl
@[simp] theorem okF_79 : okF Tryd.prog 79 = true := by kernel_rfl
@[simp] theorem okF_80 : okF Tryd.prog 80 = true := by kernel_rfl
@[simp] theorem okF_81 : okF Tryd.prog 81 = true := by kernel_rfl
@[simp] theorem okF_82 : okF Tryd.prog 82 = true := by kernel_rfl
@[simp] theorem okF_83 : okF Tryd.prog 83 = true := by kernel_rfl
@[simp] theorem okF_84 : okF Tryd.prog 84 = true := by kernel_rfl
@[simp] theorem okF_85 : okF Tryd.prog 85 = true := by kernel_rfl
@[simp] theorem okF_86 : okF Tryd.prog 86 = true := by kernel_rfl
@[simp] theorem okF_87 : okF Tryd.prog 87 = true := by kernel_rfl
@[simp] theorem okF_88 : okF Tryd.prog 88 = true := by kernel_rfl
@[simp] theorem okF_89 : okF Tryd.prog 89 = true := by kernel_rfl
@[simp] theorem okF_90 : okF Tryd.prog 90 = true := by kernel_rfl
@[simp] theorem okF_91 : okF Tryd.prog 91 = true := by kernel_rfl
@[simp] theorem okF_92 : okF Tryd.prog 92 = true := by kernel_rfl
@[simp] theorem okF_93 : okF Tryd.prog 93 = true := by kernel_rfl
@[simp] theorem okF_94 : okF Tryd.prog 94 = true := by kernel_rfl
@[simp] theorem okF_95 : okF Tryd.prog 95 = true := by kernel_rfl
@[simp] theorem okF_96 : okF Tryd.prog 96 = true := by kernel_rfl
@[simp] theorem okF_97 : okF Tryd.prog 97 = true := by kernel_rfl
@[simp] theorem okF_98 : okF Tryd.prog 98 = true := by kernel_rfl
@[simp] theorem okF_99 : okF Tryd.prog 99 = true := by kernel_rfl
@[simp] theorem okF_100 : okF Tryd.prog 100 = true := by kernel_rfl
@[simp] theorem okF_101 : okF Tryd.prog 101 = true := by kernel_rfl
@[simp] theorem okF_102 : okF Tryd.prog 102 = true := by kernel_rfl
@[simp] theorem okF_103 : okF Tryd.prog 103 = true := by kernel_rfl
@[simp] theorem okF_104 : okF Tryd.prog 104 = true := by kernel_rfl
@[simp] theorem okF_105 : okF Tryd.prog 105 = true := by kernel_rfl
@[simp] theorem okF_106 : okF Tryd.prog 106 = true := by kernel_rfl
@[simp] theorem okF_107 : okF Tryd.prog 107 = true := by kernel_rfl
@[simp] theorem okF_108 : okF Tryd.prog 108 = true := by kernel_rfl
@[simp] theorem okF_109 : okF Tryd.prog 109 = true := by kernel_rfl
@[simp] theorem okF_110 : okF Tryd.prog 110 = true := by kernel_rfl
@[simp] theorem okF_111 : okF Tryd.prog 111 = true := by kernel_rfl
@[simp] theorem okF_112 : okF Tryd.prog 112 = true := by kernel_rfl
@[simp] theorem okF_113 : okF Tryd.prog 113 = true := by kernel_rfl
@[simp] theorem okF_114 : okF Tryd.prog 114 = true := by kernel_rfl
@[simp] theorem okF_115 : okF Tryd.prog 115 = true := by kernel_rfl
@[simp] theorem okF_116 : okF Tryd.prog 116 = true := by kernel_rfl
@[simp] theorem okF_117 : okF Tryd.prog 117 = true := by kernel_rfl
@[simp] theorem okF_118 : okF Tryd.prog 118 = true := by kernel_rfl
@[simp] theorem okF_119 : okF Tryd.prog 119 = true := by kernel_rfl
@[simp] theorem okF_120 : okF Tryd.prog 120 = true := by kernel_rfl
@[simp] theorem okF_121 : okF Tryd.prog 121 = true := by kernel_rfl
@[simp] theorem okF_122 : okF Tryd.prog 122 = true := by kernel_rfl
@[simp] theorem okF_123 : okF Tryd.prog 123 = true := by kernel_rfl
@[simp] theorem okF_124 : okF Tryd.prog 124 = true := by kernel_rfl
@[simp] theorem okF_125 : okF Tryd.prog 125 = true := by kernel_rfl
@[simp] theorem okF_126 : okF Tryd.prog 126 = true := by kernel_rfl
@[simp] theorem okF_127 : okF Tryd.prog 127 = true := by kernel_rfl
@[simp] theorem okF_128 : okF Tryd.prog 128 = true := by kernel_rfl
@[simp] theorem okF_129 : okF Tryd.prog 129 = true := by kernel_rfl
@[simp] theorem okF_130 : okF Tryd.prog 130 = true := by kernel_rfl
@[simp] theorem okF_131 : okF Tryd.prog 131 = true := by kernel_rfl
@[simp] theorem okF_132 : okF Tryd.prog 132 = true := by kernel_rfl
@[simp] theorem okF_133 : okF Tryd.prog 133 = true := by kernel_rfl
@[simp] theorem okF_134 : okF Tryd.prog 134 = true := by kernel_rfl
@[simp] theorem okF_135 : okF Tryd.prog 135 = true := by kernel_rfl
@[simp] theorem okF_136 : okF Tryd.prog 136 = true := by kernel_rfl
@[simp] theorem okF_137 : okF Tryd.prog 137 = true := by kernel_rfl
@[simp] theorem okF_138 : okF Tryd.prog 138 = true := by kernel_rfl
@[simp] theorem okF_139 : okF Tryd.prog 139 = true := by kernel_rfl
@[simp] theorem okF_140 : okF Tryd.prog 140 = true := by kernel_rfl
@[simp] theorem okF_141 : okF Tryd.prog 141 = true := by kernel_rfl
@[simp] theorem okF_142 : okF Tryd.prog 142 = true := by kernel_rfl
@[simp] theorem okF_143 : okF Tryd.prog 143 = true := by kernel_rfl
@[simp] theorem okF_144 : okF Tryd.prog 144 = true := by kernel_rfl
@[simp] theorem okF_145 : okF Tryd.prog 145 = true := by kernel_rfl
@[simp] theorem okF_146 : okF Tryd.prog 146 = true := by kernel_rfl
@[simp] theorem okF_147 : okF Tryd.prog 147 = true := by kernel_rfl
@[simp] theorem okF_148 : okF Tryd.prog 148 = true := by kernel_rfl
@[simp] theorem okF_149 : okF Tryd.prog 149 = true := by kernel_rfl
@[simp] theorem okF_150 : okF Tryd.prog 150 = true := by kernel_rfl
@[simp] theorem okF_151 : okF Tryd.prog 151 = true := by kernel_rfl
@[simp] theorem okF_152 : okF Tryd.prog 152 = true := by kernel_rfl
@[simp] theorem okF_153 : okF Tryd.prog 153 = true := by kernel_rfl
@[simp] theorem okF_154 : okF Tryd.prog 154 = true := by kernel_rfl
@[simp] theorem okF_155 : okF Tryd.prog 155 = true := by kernel_rfl
@[simp] theorem okF_156 : okF Tryd.prog 156 = true := by kernel_rfl
@[simp] theorem okF_157 : okF Tryd.prog 157 = true := by kernel_rfl
@[simp] theorem okF_158 : okF Tryd.prog 158 = true := by kernel_rfl
@[simp] theorem okF_159 : okF Tryd.prog 159 = true := by kernel_rfl
@[simp] theorem okF_160 : okF Tryd.prog 160 = true := by kernel_rfl
@[simp] theorem okF_161 : okF Tryd.prog 161 = true := by kernel_rfl
@[simp] theorem okF_162 : okF Tryd.prog 162 = true := by kernel_rfl
@[simp] theorem okF_163 : okF Tryd.prog 163 = true := by kernel_rfl
@[simp] theorem okF_164 : okF Tryd.prog 164 = true := by kernel_rfl
@[simp] theorem okF_165 : okF Tryd.prog 165 = true := by kernel_rfl
@[simp] theorem okF_166 : okF Tryd.prog 166 = true := by kernel_rfl
@[simp] theorem okF_167 : okF Tryd.prog 167 = true := by kernel_rfl
@[simp] theorem okF_168 : okF Tryd.prog 168 = true := by kernel_rfl
@[simp] theorem okF_169 : okF Tryd.prog 169 = true := by kernel_rfl
@[simp] theorem okF_170 : okF Tryd.prog 170 = true := by kernel_rfl
@[simp] theorem okF_171 : okF Tryd.prog 171 = true := by kernel_rfl
@[simp] theorem okF_172 : okF Tryd.prog 172 = true := by kernel_rfl
@[simp] theorem okF_173 : okF Tryd.prog 173 = true := by kernel_rfl
@[simp] theorem okF_174 : okF Tryd.prog 174 = true := by kernel_rfl
@[simp] theorem okF_175 : okF Tryd.prog 175 = true := by kernel_rfl
@[simp] theorem okF_176 : okF Tryd.prog 176 = true := by kernel_rfl
@[simp] theorem okF_177 : okF Tryd.prog 177 = true := by kernel_rfl
@[simp] theorem okF_178 : okF Tryd.prog 178 = true := by kernel_rfl
@[simp] theorem okF_179 : okF Tryd.prog 179 = true := by kernel_rfl
@[simp] theorem okF_180 : okF Tryd.prog 180 = true := by kernel_rfl
@[simp] theorem okF_181 : okF Tryd.prog 181 = true := by kernel_rfl
@[simp] theorem okF_182 : okF Tryd.prog 182 = true := by kernel_rfl
@[simp] theorem okF_183 : okF Tryd.prog 183 = true := by kernel_rfl
@[simp] theorem okF_184 : okF Tryd.prog 184 = true := by kernel_rfl
@[simp] theorem okF_185 : okF Tryd.prog 185 = true := by kernel_rfl
@[simp] theorem okF_186 : okF Tryd.prog 186 = true := by kernel_rfl
@[simp] theorem okF_187 : okF Tryd.prog 187 = true := by kernel_rfl
@[simp] theorem okF_188 : okF Tryd.prog 188 = true := by kernel_rfl
@[simp] theorem okF_191 : okF Tryd.prog 191 = true := by kernel_rfl
@[simp] theorem okF_192 : okF Tryd.prog 192 = true := by kernel_rfl
end Go.Proofs.YtlfkighdmheniaaDoor
