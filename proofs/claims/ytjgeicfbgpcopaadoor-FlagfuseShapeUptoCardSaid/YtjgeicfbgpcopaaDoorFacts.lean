/- Closed facts on the program's types and functions, made by program: what the calculator asks of its tables. -/
import Derived.Test.YtjgeicfbgpcopaaDoorProg
import Derived.Test.YtjgeicfbgpcopaaDoorAh
import Derived.KernelRfl
namespace Go.Proofs.YtjgeicfbgpcopaaDoor
set_option maxRecDepth 100000
@[simp] theorem tk_7 : tk Tryd.prog 7 = some (true, 4) := by kernel_rfl
@[simp] theorem places_7 : places Tryd.prog 7 = some [(0, 1), (1, 1), (2, 1), (3, 1)] := by kernel_rfl
@[simp] theorem zvA_7 : zvA Tryd.prog 7 = some [AV.d (D.v (Value.int IntKind.i64 (0))), AV.d (D.v (Value.int IntKind.i64 (0))), AV.d (D.v (Value.bool false)), AV.d (D.v (Value.int IntKind.u8 (0)))] := by kernel_rfl
@[simp] theorem ar_7 : ar Tryd.prog 7 = none := by kernel_rfl
@[simp] theorem fo_7_0 : fo Tryd.prog 7 0 = some 0 := by kernel_rfl
@[simp] theorem ft_7_0 : ft Tryd.prog 7 0 = some (2, 0) := by kernel_rfl
@[simp] theorem fo_7_1 : fo Tryd.prog 7 1 = some 1 := by kernel_rfl
@[simp] theorem ft_7_1 : ft Tryd.prog 7 1 = some (3, 1) := by kernel_rfl
@[simp] theorem fo_7_2 : fo Tryd.prog 7 2 = some 2 := by kernel_rfl
@[simp] theorem ft_7_2 : ft Tryd.prog 7 2 = some (4, 2) := by kernel_rfl
@[simp] theorem fo_7_3 : fo Tryd.prog 7 3 = some 3 := by kernel_rfl
@[simp] theorem ft_7_3 : ft Tryd.prog 7 3 = some (6, 3) := by kernel_rfl
@[simp] theorem tk_8 : tk Tryd.prog 8 = some (true, 4) := by kernel_rfl
@[simp] theorem places_8 : places Tryd.prog 8 = some [(0, 1), (1, 1), (2, 1), (3, 1)] := by kernel_rfl
@[simp] theorem zvA_8 : zvA Tryd.prog 8 = some [AV.d (D.v (Value.int IntKind.i64 (0))), AV.d (D.v (Value.int IntKind.i64 (0))), AV.d (D.v (Value.bool false)), AV.d (D.v (Value.int IntKind.u8 (0)))] := by kernel_rfl
@[simp] theorem ar_8 : ar Tryd.prog 8 = none := by kernel_rfl
@[simp] theorem fo_8_0 : fo Tryd.prog 8 0 = some 0 := by kernel_rfl
@[simp] theorem ft_8_0 : ft Tryd.prog 8 0 = some (2, 0) := by kernel_rfl
@[simp] theorem fo_8_1 : fo Tryd.prog 8 1 = some 1 := by kernel_rfl
@[simp] theorem ft_8_1 : ft Tryd.prog 8 1 = some (3, 1) := by kernel_rfl
@[simp] theorem fo_8_2 : fo Tryd.prog 8 2 = some 2 := by kernel_rfl
@[simp] theorem ft_8_2 : ft Tryd.prog 8 2 = some (4, 2) := by kernel_rfl
@[simp] theorem fo_8_3 : fo Tryd.prog 8 3 = some 3 := by kernel_rfl
@[simp] theorem ft_8_3 : ft Tryd.prog 8 3 = some (6, 3) := by kernel_rfl
@[simp] theorem tk_13 : tk Tryd.prog 13 = some (true, 2) := by kernel_rfl
@[simp] theorem places_13 : places Tryd.prog 13 = some [(0, 1), (1, 1)] := by kernel_rfl
@[simp] theorem zvA_13 : zvA Tryd.prog 13 = some [AV.d (D.v (Value.string { data := #[] })), AV.d (D.v (Value.int IntKind.u64 (0)))] := by kernel_rfl
@[simp] theorem ar_13 : ar Tryd.prog 13 = none := by kernel_rfl
@[simp] theorem fo_13_0 : fo Tryd.prog 13 0 = some 0 := by kernel_rfl
@[simp] theorem ft_13_0 : ft Tryd.prog 13 0 = some (9, 0) := by kernel_rfl
@[simp] theorem fo_13_1 : fo Tryd.prog 13 1 = some 1 := by kernel_rfl
@[simp] theorem ft_13_1 : ft Tryd.prog 13 1 = some (12, 1) := by kernel_rfl
@[simp] theorem tk_14 : tk Tryd.prog 14 = some (true, 2) := by kernel_rfl
@[simp] theorem places_14 : places Tryd.prog 14 = some [(0, 1), (1, 1)] := by kernel_rfl
@[simp] theorem zvA_14 : zvA Tryd.prog 14 = some [AV.d (D.v (Value.string { data := #[] })), AV.d (D.v (Value.int IntKind.u64 (0)))] := by kernel_rfl
@[simp] theorem ar_14 : ar Tryd.prog 14 = none := by kernel_rfl
@[simp] theorem fo_14_0 : fo Tryd.prog 14 0 = some 0 := by kernel_rfl
@[simp] theorem ft_14_0 : ft Tryd.prog 14 0 = some (9, 0) := by kernel_rfl
@[simp] theorem fo_14_1 : fo Tryd.prog 14 1 = some 1 := by kernel_rfl
@[simp] theorem ft_14_1 : ft Tryd.prog 14 1 = some (12, 1) := by kernel_rfl
@[simp] theorem tk_18 : tk Tryd.prog 18 = some (true, 1) := by kernel_rfl
@[simp] theorem places_18 : places Tryd.prog 18 = some [(0, 1)] := by kernel_rfl
@[simp] theorem zvA_18 : zvA Tryd.prog 18 = some [AV.d (D.v (Value.pointer none))] := by kernel_rfl
@[simp] theorem ar_18 : ar Tryd.prog 18 = none := by kernel_rfl
@[simp] theorem fo_18_0 : fo Tryd.prog 18 0 = some 0 := by kernel_rfl
@[simp] theorem ft_18_0 : ft Tryd.prog 18 0 = some (17, 0) := by kernel_rfl
@[simp] theorem tk_19 : tk Tryd.prog 19 = some (true, 1) := by kernel_rfl
@[simp] theorem places_19 : places Tryd.prog 19 = some [(0, 1)] := by kernel_rfl
@[simp] theorem zvA_19 : zvA Tryd.prog 19 = some [AV.d (D.v (Value.pointer none))] := by kernel_rfl
@[simp] theorem ar_19 : ar Tryd.prog 19 = none := by kernel_rfl
@[simp] theorem fo_19_0 : fo Tryd.prog 19 0 = some 0 := by kernel_rfl
@[simp] theorem ft_19_0 : ft Tryd.prog 19 0 = some (17, 0) := by kernel_rfl
@[simp] theorem tk_24 : tk Tryd.prog 24 = some (true, 2) := by kernel_rfl
@[simp] theorem places_24 : places Tryd.prog 24 = some [(0, 1), (1, 1)] := by kernel_rfl
@[simp] theorem zvA_24 : zvA Tryd.prog 24 = some [AV.d (D.v (Value.int IntKind.u32 (0))), AV.d (D.v (Value.slice none 0 0))] := by kernel_rfl
@[simp] theorem ar_24 : ar Tryd.prog 24 = none := by kernel_rfl
@[simp] theorem fo_24_0 : fo Tryd.prog 24 0 = some 0 := by kernel_rfl
@[simp] theorem ft_24_0 : ft Tryd.prog 24 0 = some (22, 0) := by kernel_rfl
@[simp] theorem fo_24_1 : fo Tryd.prog 24 1 = some 1 := by kernel_rfl
@[simp] theorem ft_24_1 : ft Tryd.prog 24 1 = some (23, 1) := by kernel_rfl
@[simp] theorem tk_25 : tk Tryd.prog 25 = some (true, 2) := by kernel_rfl
@[simp] theorem places_25 : places Tryd.prog 25 = some [(0, 1), (1, 1)] := by kernel_rfl
@[simp] theorem zvA_25 : zvA Tryd.prog 25 = some [AV.d (D.v (Value.int IntKind.u32 (0))), AV.d (D.v (Value.slice none 0 0))] := by kernel_rfl
@[simp] theorem ar_25 : ar Tryd.prog 25 = none := by kernel_rfl
@[simp] theorem fo_25_0 : fo Tryd.prog 25 0 = some 0 := by kernel_rfl
@[simp] theorem ft_25_0 : ft Tryd.prog 25 0 = some (22, 0) := by kernel_rfl
@[simp] theorem fo_25_1 : fo Tryd.prog 25 1 = some 1 := by kernel_rfl
@[simp] theorem ft_25_1 : ft Tryd.prog 25 1 = some (23, 1) := by kernel_rfl
@[simp] theorem tk_31 : tk Tryd.prog 31 = some (true, 8) := by kernel_rfl
@[simp] theorem places_31 : places Tryd.prog 31 = some [(0, 1), (1, 1), (2, 1), (3, 1), (4, 1), (5, 1), (6, 1), (7, 1)] := by kernel_rfl
@[simp] theorem zvA_31 : zvA Tryd.prog 31 = some [AV.d (D.v (Value.int IntKind.i64 (0))), AV.d (D.v (Value.int IntKind.i64 (0))), AV.d (D.v (Value.int IntKind.i64 (0))), AV.d (D.v (Value.int IntKind.i64 (0))), AV.d (D.v (Value.int IntKind.i64 (0))), AV.d (D.v (Value.int IntKind.u32 (0))), AV.d (D.v (Value.slice none 0 0)), AV.d (D.v (Value.slice none 0 0))] := by kernel_rfl
@[simp] theorem ar_31 : ar Tryd.prog 31 = none := by kernel_rfl
@[simp] theorem fo_31_0 : fo Tryd.prog 31 0 = some 0 := by kernel_rfl
@[simp] theorem ft_31_0 : ft Tryd.prog 31 0 = some (3, 0) := by kernel_rfl
@[simp] theorem fo_31_1 : fo Tryd.prog 31 1 = some 1 := by kernel_rfl
@[simp] theorem ft_31_1 : ft Tryd.prog 31 1 = some (3, 1) := by kernel_rfl
@[simp] theorem fo_31_2 : fo Tryd.prog 31 2 = some 2 := by kernel_rfl
@[simp] theorem ft_31_2 : ft Tryd.prog 31 2 = some (3, 2) := by kernel_rfl
@[simp] theorem fo_31_3 : fo Tryd.prog 31 3 = some 3 := by kernel_rfl
@[simp] theorem ft_31_3 : ft Tryd.prog 31 3 = some (3, 3) := by kernel_rfl
@[simp] theorem fo_31_4 : fo Tryd.prog 31 4 = some 4 := by kernel_rfl
@[simp] theorem ft_31_4 : ft Tryd.prog 31 4 = some (3, 4) := by kernel_rfl
@[simp] theorem fo_31_5 : fo Tryd.prog 31 5 = some 5 := by kernel_rfl
@[simp] theorem ft_31_5 : ft Tryd.prog 31 5 = some (22, 5) := by kernel_rfl
@[simp] theorem fo_31_6 : fo Tryd.prog 31 6 = some 6 := by kernel_rfl
@[simp] theorem ft_31_6 : ft Tryd.prog 31 6 = some (29, 6) := by kernel_rfl
@[simp] theorem fo_31_7 : fo Tryd.prog 31 7 = some 7 := by kernel_rfl
@[simp] theorem ft_31_7 : ft Tryd.prog 31 7 = some (30, 7) := by kernel_rfl
@[simp] theorem tk_32 : tk Tryd.prog 32 = some (true, 8) := by kernel_rfl
@[simp] theorem places_32 : places Tryd.prog 32 = some [(0, 1), (1, 1), (2, 1), (3, 1), (4, 1), (5, 1), (6, 1), (7, 1)] := by kernel_rfl
@[simp] theorem zvA_32 : zvA Tryd.prog 32 = some [AV.d (D.v (Value.int IntKind.i64 (0))), AV.d (D.v (Value.int IntKind.i64 (0))), AV.d (D.v (Value.int IntKind.i64 (0))), AV.d (D.v (Value.int IntKind.i64 (0))), AV.d (D.v (Value.int IntKind.i64 (0))), AV.d (D.v (Value.int IntKind.u32 (0))), AV.d (D.v (Value.slice none 0 0)), AV.d (D.v (Value.slice none 0 0))] := by kernel_rfl
@[simp] theorem ar_32 : ar Tryd.prog 32 = none := by kernel_rfl
@[simp] theorem fo_32_0 : fo Tryd.prog 32 0 = some 0 := by kernel_rfl
@[simp] theorem ft_32_0 : ft Tryd.prog 32 0 = some (3, 0) := by kernel_rfl
@[simp] theorem fo_32_1 : fo Tryd.prog 32 1 = some 1 := by kernel_rfl
@[simp] theorem ft_32_1 : ft Tryd.prog 32 1 = some (3, 1) := by kernel_rfl
@[simp] theorem fo_32_2 : fo Tryd.prog 32 2 = some 2 := by kernel_rfl
@[simp] theorem ft_32_2 : ft Tryd.prog 32 2 = some (3, 2) := by kernel_rfl
@[simp] theorem fo_32_3 : fo Tryd.prog 32 3 = some 3 := by kernel_rfl
@[simp] theorem ft_32_3 : ft Tryd.prog 32 3 = some (3, 3) := by kernel_rfl
@[simp] theorem fo_32_4 : fo Tryd.prog 32 4 = some 4 := by kernel_rfl
@[simp] theorem ft_32_4 : ft Tryd.prog 32 4 = some (3, 4) := by kernel_rfl
@[simp] theorem fo_32_5 : fo Tryd.prog 32 5 = some 5 := by kernel_rfl
@[simp] theorem ft_32_5 : ft Tryd.prog 32 5 = some (22, 5) := by kernel_rfl
@[simp] theorem fo_32_6 : fo Tryd.prog 32 6 = some 6 := by kernel_rfl
@[simp] theorem ft_32_6 : ft Tryd.prog 32 6 = some (29, 6) := by kernel_rfl
@[simp] theorem fo_32_7 : fo Tryd.prog 32 7 = some 7 := by kernel_rfl
@[simp] theorem ft_32_7 : ft Tryd.prog 32 7 = some (30, 7) := by kernel_rfl
@[simp] theorem tk_36 : tk Tryd.prog 36 = some (true, 5) := by kernel_rfl
@[simp] theorem places_36 : places Tryd.prog 36 = some [(0, 1), (1, 1), (2, 1), (3, 1), (4, 1)] := by kernel_rfl
@[simp] theorem zvA_36 : zvA Tryd.prog 36 = some [AV.d (D.v (Value.int IntKind.i64 (0))), AV.d (D.v (Value.int IntKind.u32 (0))), AV.d (D.v (Value.int IntKind.i64 (0))), AV.d (D.v (Value.int IntKind.i64 (0))), AV.d (D.v (Value.slice none 0 0))] := by kernel_rfl
@[simp] theorem ar_36 : ar Tryd.prog 36 = none := by kernel_rfl
@[simp] theorem fo_36_0 : fo Tryd.prog 36 0 = some 0 := by kernel_rfl
@[simp] theorem ft_36_0 : ft Tryd.prog 36 0 = some (3, 0) := by kernel_rfl
@[simp] theorem fo_36_1 : fo Tryd.prog 36 1 = some 1 := by kernel_rfl
@[simp] theorem ft_36_1 : ft Tryd.prog 36 1 = some (22, 1) := by kernel_rfl
@[simp] theorem fo_36_2 : fo Tryd.prog 36 2 = some 2 := by kernel_rfl
@[simp] theorem ft_36_2 : ft Tryd.prog 36 2 = some (3, 2) := by kernel_rfl
@[simp] theorem fo_36_3 : fo Tryd.prog 36 3 = some 3 := by kernel_rfl
@[simp] theorem ft_36_3 : ft Tryd.prog 36 3 = some (3, 3) := by kernel_rfl
@[simp] theorem fo_36_4 : fo Tryd.prog 36 4 = some 4 := by kernel_rfl
@[simp] theorem ft_36_4 : ft Tryd.prog 36 4 = some (29, 4) := by kernel_rfl
@[simp] theorem tk_37 : tk Tryd.prog 37 = some (true, 5) := by kernel_rfl
@[simp] theorem places_37 : places Tryd.prog 37 = some [(0, 1), (1, 1), (2, 1), (3, 1), (4, 1)] := by kernel_rfl
@[simp] theorem zvA_37 : zvA Tryd.prog 37 = some [AV.d (D.v (Value.int IntKind.i64 (0))), AV.d (D.v (Value.int IntKind.u32 (0))), AV.d (D.v (Value.int IntKind.i64 (0))), AV.d (D.v (Value.int IntKind.i64 (0))), AV.d (D.v (Value.slice none 0 0))] := by kernel_rfl
@[simp] theorem ar_37 : ar Tryd.prog 37 = none := by kernel_rfl
@[simp] theorem fo_37_0 : fo Tryd.prog 37 0 = some 0 := by kernel_rfl
@[simp] theorem ft_37_0 : ft Tryd.prog 37 0 = some (3, 0) := by kernel_rfl
@[simp] theorem fo_37_1 : fo Tryd.prog 37 1 = some 1 := by kernel_rfl
@[simp] theorem ft_37_1 : ft Tryd.prog 37 1 = some (22, 1) := by kernel_rfl
@[simp] theorem fo_37_2 : fo Tryd.prog 37 2 = some 2 := by kernel_rfl
@[simp] theorem ft_37_2 : ft Tryd.prog 37 2 = some (3, 2) := by kernel_rfl
@[simp] theorem fo_37_3 : fo Tryd.prog 37 3 = some 3 := by kernel_rfl
@[simp] theorem ft_37_3 : ft Tryd.prog 37 3 = some (3, 3) := by kernel_rfl
@[simp] theorem fo_37_4 : fo Tryd.prog 37 4 = some 4 := by kernel_rfl
@[simp] theorem ft_37_4 : ft Tryd.prog 37 4 = some (29, 4) := by kernel_rfl
@[simp] theorem tk_43 : tk Tryd.prog 43 = some (true, 10) := by kernel_rfl
@[simp] theorem places_43 : places Tryd.prog 43 = some [(0, 5), (5, 5)] := by kernel_rfl
@[simp] theorem zvA_43 : zvA Tryd.prog 43 = some [AV.d (D.v (Value.int IntKind.i64 (0))), AV.d (D.v (Value.int IntKind.u32 (0))), AV.d (D.v (Value.int IntKind.i64 (0))), AV.d (D.v (Value.int IntKind.i64 (0))), AV.d (D.v (Value.slice none 0 0)), AV.d (D.v (Value.int IntKind.i64 (0))), AV.d (D.v (Value.int IntKind.u32 (0))), AV.d (D.v (Value.int IntKind.i64 (0))), AV.d (D.v (Value.int IntKind.i64 (0))), AV.d (D.v (Value.slice none 0 0))] := by kernel_rfl
@[simp] theorem ar_43 : ar Tryd.prog 43 = none := by kernel_rfl
@[simp] theorem fo_43_0 : fo Tryd.prog 43 0 = some 0 := by kernel_rfl
@[simp] theorem ft_43_0 : ft Tryd.prog 43 0 = some (37, 0) := by kernel_rfl
@[simp] theorem fo_43_1 : fo Tryd.prog 43 1 = some 5 := by kernel_rfl
@[simp] theorem ft_43_1 : ft Tryd.prog 43 1 = some (37, 5) := by kernel_rfl
@[simp] theorem tk_44 : tk Tryd.prog 44 = some (true, 10) := by kernel_rfl
@[simp] theorem places_44 : places Tryd.prog 44 = some [(0, 5), (5, 5)] := by kernel_rfl
@[simp] theorem zvA_44 : zvA Tryd.prog 44 = some [AV.d (D.v (Value.int IntKind.i64 (0))), AV.d (D.v (Value.int IntKind.u32 (0))), AV.d (D.v (Value.int IntKind.i64 (0))), AV.d (D.v (Value.int IntKind.i64 (0))), AV.d (D.v (Value.slice none 0 0)), AV.d (D.v (Value.int IntKind.i64 (0))), AV.d (D.v (Value.int IntKind.u32 (0))), AV.d (D.v (Value.int IntKind.i64 (0))), AV.d (D.v (Value.int IntKind.i64 (0))), AV.d (D.v (Value.slice none 0 0))] := by kernel_rfl
@[simp] theorem ar_44 : ar Tryd.prog 44 = none := by kernel_rfl
@[simp] theorem fo_44_0 : fo Tryd.prog 44 0 = some 0 := by kernel_rfl
@[simp] theorem ft_44_0 : ft Tryd.prog 44 0 = some (37, 0) := by kernel_rfl
@[simp] theorem fo_44_1 : fo Tryd.prog 44 1 = some 5 := by kernel_rfl
@[simp] theorem ft_44_1 : ft Tryd.prog 44 1 = some (37, 5) := by kernel_rfl
@[simp] theorem tk_86 : tk Tryd.prog 86 = some (true, 2) := by kernel_rfl
@[simp] theorem places_86 : places Tryd.prog 86 = some [(0, 1), (1, 1)] := by kernel_rfl
@[simp] theorem zvA_86 : zvA Tryd.prog 86 = some [AV.d (D.v (Value.pointer none)), AV.d (D.v (Value.slice none 0 0))] := by kernel_rfl
@[simp] theorem ar_86 : ar Tryd.prog 86 = none := by kernel_rfl
@[simp] theorem fo_86_0 : fo Tryd.prog 86 0 = some 0 := by kernel_rfl
@[simp] theorem ft_86_0 : ft Tryd.prog 86 0 = some (84, 0) := by kernel_rfl
@[simp] theorem fo_86_1 : fo Tryd.prog 86 1 = some 1 := by kernel_rfl
@[simp] theorem ft_86_1 : ft Tryd.prog 86 1 = some (85, 1) := by kernel_rfl
@[simp] theorem tk_87 : tk Tryd.prog 87 = some (true, 2) := by kernel_rfl
@[simp] theorem places_87 : places Tryd.prog 87 = some [(0, 1), (1, 1)] := by kernel_rfl
@[simp] theorem zvA_87 : zvA Tryd.prog 87 = some [AV.d (D.v (Value.pointer none)), AV.d (D.v (Value.slice none 0 0))] := by kernel_rfl
@[simp] theorem ar_87 : ar Tryd.prog 87 = none := by kernel_rfl
@[simp] theorem fo_87_0 : fo Tryd.prog 87 0 = some 0 := by kernel_rfl
@[simp] theorem ft_87_0 : ft Tryd.prog 87 0 = some (84, 0) := by kernel_rfl
@[simp] theorem fo_87_1 : fo Tryd.prog 87 1 = some 1 := by kernel_rfl
@[simp] theorem ft_87_1 : ft Tryd.prog 87 1 = some (85, 1) := by kernel_rfl
@[simp] theorem tk_128 : tk Tryd.prog 128 = some (true, 4) := by kernel_rfl
@[simp] theorem places_128 : places Tryd.prog 128 = some [(0, 1), (1, 1), (2, 1), (3, 1)] := by kernel_rfl
@[simp] theorem zvA_128 : zvA Tryd.prog 128 = some [AV.d (D.v (Value.pointer none)), AV.d (D.v (Value.pointer none)), AV.d (D.v (Value.pointer none)), AV.d (D.v (Value.string { data := #[] }))] := by kernel_rfl
@[simp] theorem ar_128 : ar Tryd.prog 128 = none := by kernel_rfl
@[simp] theorem fo_128_0 : fo Tryd.prog 128 0 = some 0 := by kernel_rfl
@[simp] theorem ft_128_0 : ft Tryd.prog 128 0 = some (17, 0) := by kernel_rfl
@[simp] theorem fo_128_1 : fo Tryd.prog 128 1 = some 1 := by kernel_rfl
@[simp] theorem ft_128_1 : ft Tryd.prog 128 1 = some (17, 1) := by kernel_rfl
@[simp] theorem fo_128_2 : fo Tryd.prog 128 2 = some 2 := by kernel_rfl
@[simp] theorem ft_128_2 : ft Tryd.prog 128 2 = some (17, 2) := by kernel_rfl
@[simp] theorem fo_128_3 : fo Tryd.prog 128 3 = some 3 := by kernel_rfl
@[simp] theorem ft_128_3 : ft Tryd.prog 128 3 = some (9, 3) := by kernel_rfl
@[simp] theorem tk_129 : tk Tryd.prog 129 = some (true, 4) := by kernel_rfl
@[simp] theorem places_129 : places Tryd.prog 129 = some [(0, 1), (1, 1), (2, 1), (3, 1)] := by kernel_rfl
@[simp] theorem zvA_129 : zvA Tryd.prog 129 = some [AV.d (D.v (Value.pointer none)), AV.d (D.v (Value.pointer none)), AV.d (D.v (Value.pointer none)), AV.d (D.v (Value.string { data := #[] }))] := by kernel_rfl
@[simp] theorem ar_129 : ar Tryd.prog 129 = none := by kernel_rfl
@[simp] theorem fo_129_0 : fo Tryd.prog 129 0 = some 0 := by kernel_rfl
@[simp] theorem ft_129_0 : ft Tryd.prog 129 0 = some (17, 0) := by kernel_rfl
@[simp] theorem fo_129_1 : fo Tryd.prog 129 1 = some 1 := by kernel_rfl
@[simp] theorem ft_129_1 : ft Tryd.prog 129 1 = some (17, 1) := by kernel_rfl
@[simp] theorem fo_129_2 : fo Tryd.prog 129 2 = some 2 := by kernel_rfl
@[simp] theorem ft_129_2 : ft Tryd.prog 129 2 = some (17, 2) := by kernel_rfl
@[simp] theorem fo_129_3 : fo Tryd.prog 129 3 = some 3 := by kernel_rfl
@[simp] theorem ft_129_3 : ft Tryd.prog 129 3 = some (9, 3) := by kernel_rfl
@[simp] theorem tk_131 : tk Tryd.prog 131 = some (true, 0) := by kernel_rfl
@[simp] theorem places_131 : places Tryd.prog 131 = some [(0, 0)] := by kernel_rfl
@[simp] theorem zvA_131 : zvA Tryd.prog 131 = some [] := by kernel_rfl
@[simp] theorem ar_131 : ar Tryd.prog 131 = none := by kernel_rfl
@[simp] theorem ft_131_0 : ft Tryd.prog 131 0 = some (130, 0) := by kernel_rfl
@[simp] theorem tk_132 : tk Tryd.prog 132 = some (true, 0) := by kernel_rfl
@[simp] theorem places_132 : places Tryd.prog 132 = some [(0, 0)] := by kernel_rfl
@[simp] theorem zvA_132 : zvA Tryd.prog 132 = some [] := by kernel_rfl
@[simp] theorem ar_132 : ar Tryd.prog 132 = none := by kernel_rfl
@[simp] theorem ft_132_0 : ft Tryd.prog 132 0 = some (130, 0) := by kernel_rfl
@[simp] theorem tk_139 : tk Tryd.prog 139 = some (true, 11) := by kernel_rfl
@[simp] theorem places_139 : places Tryd.prog 139 = some [(0, 1), (1, 1), (2, 1), (3, 1), (4, 1), (5, 1), (6, 1), (7, 1), (8, 1), (9, 1), (10, 1)] := by kernel_rfl
@[simp] theorem zvA_139 : zvA Tryd.prog 139 = some [AV.d (D.v (Value.int IntKind.u64 (0))), AV.d (D.v (Value.int IntKind.u64 (0))), AV.d (D.v (Value.int IntKind.u32 (0))), AV.d (D.v (Value.int IntKind.u8 (0))), AV.d (D.v (Value.int IntKind.u8 (0))), AV.d (D.v (Value.int IntKind.u8 (0))), AV.d (D.v (Value.int IntKind.u8 (0))), AV.d (D.v Value.nilFunc), AV.d (D.v (Value.pointer none)), AV.d (D.v (Value.int IntKind.i32 (0))), AV.d (D.v (Value.int IntKind.i32 (0)))] := by kernel_rfl
@[simp] theorem ar_139 : ar Tryd.prog 139 = none := by kernel_rfl
@[simp] theorem fo_139_0 : fo Tryd.prog 139 0 = some 0 := by kernel_rfl
@[simp] theorem ft_139_0 : ft Tryd.prog 139 0 = some (12, 0) := by kernel_rfl
@[simp] theorem fo_139_1 : fo Tryd.prog 139 1 = some 1 := by kernel_rfl
@[simp] theorem ft_139_1 : ft Tryd.prog 139 1 = some (12, 1) := by kernel_rfl
@[simp] theorem fo_139_2 : fo Tryd.prog 139 2 = some 2 := by kernel_rfl
@[simp] theorem ft_139_2 : ft Tryd.prog 139 2 = some (22, 2) := by kernel_rfl
@[simp] theorem fo_139_3 : fo Tryd.prog 139 3 = some 3 := by kernel_rfl
@[simp] theorem ft_139_3 : ft Tryd.prog 139 3 = some (134, 3) := by kernel_rfl
@[simp] theorem fo_139_4 : fo Tryd.prog 139 4 = some 4 := by kernel_rfl
@[simp] theorem ft_139_4 : ft Tryd.prog 139 4 = some (5, 4) := by kernel_rfl
@[simp] theorem fo_139_5 : fo Tryd.prog 139 5 = some 5 := by kernel_rfl
@[simp] theorem ft_139_5 : ft Tryd.prog 139 5 = some (5, 5) := by kernel_rfl
@[simp] theorem fo_139_6 : fo Tryd.prog 139 6 = some 6 := by kernel_rfl
@[simp] theorem ft_139_6 : ft Tryd.prog 139 6 = some (135, 6) := by kernel_rfl
@[simp] theorem fo_139_7 : fo Tryd.prog 139 7 = some 7 := by kernel_rfl
@[simp] theorem ft_139_7 : ft Tryd.prog 139 7 = some (136, 7) := by kernel_rfl
@[simp] theorem fo_139_8 : fo Tryd.prog 139 8 = some 8 := by kernel_rfl
@[simp] theorem ft_139_8 : ft Tryd.prog 139 8 = some (109, 8) := by kernel_rfl
@[simp] theorem fo_139_9 : fo Tryd.prog 139 9 = some 9 := by kernel_rfl
@[simp] theorem ft_139_9 : ft Tryd.prog 139 9 = some (137, 9) := by kernel_rfl
@[simp] theorem fo_139_10 : fo Tryd.prog 139 10 = some 10 := by kernel_rfl
@[simp] theorem ft_139_10 : ft Tryd.prog 139 10 = some (138, 10) := by kernel_rfl
@[simp] theorem tk_140 : tk Tryd.prog 140 = some (true, 11) := by kernel_rfl
@[simp] theorem places_140 : places Tryd.prog 140 = some [(0, 1), (1, 1), (2, 1), (3, 1), (4, 1), (5, 1), (6, 1), (7, 1), (8, 1), (9, 1), (10, 1)] := by kernel_rfl
@[simp] theorem zvA_140 : zvA Tryd.prog 140 = some [AV.d (D.v (Value.int IntKind.u64 (0))), AV.d (D.v (Value.int IntKind.u64 (0))), AV.d (D.v (Value.int IntKind.u32 (0))), AV.d (D.v (Value.int IntKind.u8 (0))), AV.d (D.v (Value.int IntKind.u8 (0))), AV.d (D.v (Value.int IntKind.u8 (0))), AV.d (D.v (Value.int IntKind.u8 (0))), AV.d (D.v Value.nilFunc), AV.d (D.v (Value.pointer none)), AV.d (D.v (Value.int IntKind.i32 (0))), AV.d (D.v (Value.int IntKind.i32 (0)))] := by kernel_rfl
@[simp] theorem ar_140 : ar Tryd.prog 140 = none := by kernel_rfl
@[simp] theorem fo_140_0 : fo Tryd.prog 140 0 = some 0 := by kernel_rfl
@[simp] theorem ft_140_0 : ft Tryd.prog 140 0 = some (12, 0) := by kernel_rfl
@[simp] theorem fo_140_1 : fo Tryd.prog 140 1 = some 1 := by kernel_rfl
@[simp] theorem ft_140_1 : ft Tryd.prog 140 1 = some (12, 1) := by kernel_rfl
@[simp] theorem fo_140_2 : fo Tryd.prog 140 2 = some 2 := by kernel_rfl
@[simp] theorem ft_140_2 : ft Tryd.prog 140 2 = some (22, 2) := by kernel_rfl
@[simp] theorem fo_140_3 : fo Tryd.prog 140 3 = some 3 := by kernel_rfl
@[simp] theorem ft_140_3 : ft Tryd.prog 140 3 = some (134, 3) := by kernel_rfl
@[simp] theorem fo_140_4 : fo Tryd.prog 140 4 = some 4 := by kernel_rfl
@[simp] theorem ft_140_4 : ft Tryd.prog 140 4 = some (5, 4) := by kernel_rfl
@[simp] theorem fo_140_5 : fo Tryd.prog 140 5 = some 5 := by kernel_rfl
@[simp] theorem ft_140_5 : ft Tryd.prog 140 5 = some (5, 5) := by kernel_rfl
@[simp] theorem fo_140_6 : fo Tryd.prog 140 6 = some 6 := by kernel_rfl
@[simp] theorem ft_140_6 : ft Tryd.prog 140 6 = some (135, 6) := by kernel_rfl
@[simp] theorem fo_140_7 : fo Tryd.prog 140 7 = some 7 := by kernel_rfl
@[simp] theorem ft_140_7 : ft Tryd.prog 140 7 = some (136, 7) := by kernel_rfl
@[simp] theorem fo_140_8 : fo Tryd.prog 140 8 = some 8 := by kernel_rfl
@[simp] theorem ft_140_8 : ft Tryd.prog 140 8 = some (109, 8) := by kernel_rfl
@[simp] theorem fo_140_9 : fo Tryd.prog 140 9 = some 9 := by kernel_rfl
@[simp] theorem ft_140_9 : ft Tryd.prog 140 9 = some (137, 9) := by kernel_rfl
@[simp] theorem fo_140_10 : fo Tryd.prog 140 10 = some 10 := by kernel_rfl
@[simp] theorem ft_140_10 : ft Tryd.prog 140 10 = some (138, 10) := by kernel_rfl
@[simp] theorem tk_56 : tk Tryd.prog 56 = some (true, 20) := by kernel_rfl
@[simp] theorem places_56 : places Tryd.prog 56 = none := by kernel_rfl
@[simp] theorem zvA_56 : zvA Tryd.prog 56 = some [AV.d (D.v (Value.int IntKind.i64 (0))), AV.d (D.v (Value.int IntKind.u32 (0))), AV.d (D.v (Value.int IntKind.i64 (0))), AV.d (D.v (Value.int IntKind.i64 (0))), AV.d (D.v (Value.slice none 0 0)), AV.d (D.v (Value.int IntKind.i64 (0))), AV.d (D.v (Value.int IntKind.u32 (0))), AV.d (D.v (Value.int IntKind.i64 (0))), AV.d (D.v (Value.int IntKind.i64 (0))), AV.d (D.v (Value.slice none 0 0)), AV.d (D.v (Value.int IntKind.i64 (0))), AV.d (D.v (Value.int IntKind.u32 (0))), AV.d (D.v (Value.int IntKind.i64 (0))), AV.d (D.v (Value.int IntKind.i64 (0))), AV.d (D.v (Value.slice none 0 0)), AV.d (D.v (Value.int IntKind.i64 (0))), AV.d (D.v (Value.int IntKind.u32 (0))), AV.d (D.v (Value.int IntKind.i64 (0))), AV.d (D.v (Value.int IntKind.i64 (0))), AV.d (D.v (Value.slice none 0 0))] := by kernel_rfl
@[simp] theorem ar_56 : ar Tryd.prog 56 = some (4, 37, 5) := by kernel_rfl
@[simp] theorem tk_64 : tk Tryd.prog 64 = some (true, 75) := by kernel_rfl
@[simp] theorem places_64 : places Tryd.prog 64 = none := by kernel_rfl
@[simp] theorem zvA_64 : zvA Tryd.prog 64 = some [AV.d (D.v (Value.int IntKind.i64 (0))), AV.d (D.v (Value.int IntKind.u32 (0))), AV.d (D.v (Value.int IntKind.i64 (0))), AV.d (D.v (Value.int IntKind.i64 (0))), AV.d (D.v (Value.slice none 0 0)), AV.d (D.v (Value.int IntKind.i64 (0))), AV.d (D.v (Value.int IntKind.u32 (0))), AV.d (D.v (Value.int IntKind.i64 (0))), AV.d (D.v (Value.int IntKind.i64 (0))), AV.d (D.v (Value.slice none 0 0)), AV.d (D.v (Value.int IntKind.i64 (0))), AV.d (D.v (Value.int IntKind.u32 (0))), AV.d (D.v (Value.int IntKind.i64 (0))), AV.d (D.v (Value.int IntKind.i64 (0))), AV.d (D.v (Value.slice none 0 0)), AV.d (D.v (Value.int IntKind.i64 (0))), AV.d (D.v (Value.int IntKind.u32 (0))), AV.d (D.v (Value.int IntKind.i64 (0))), AV.d (D.v (Value.int IntKind.i64 (0))), AV.d (D.v (Value.slice none 0 0)), AV.d (D.v (Value.int IntKind.i64 (0))), AV.d (D.v (Value.int IntKind.u32 (0))), AV.d (D.v (Value.int IntKind.i64 (0))), AV.d (D.v (Value.int IntKind.i64 (0))), AV.d (D.v (Value.slice none 0 0)), AV.d (D.v (Value.int IntKind.i64 (0))), AV.d (D.v (Value.int IntKind.u32 (0))), AV.d (D.v (Value.int IntKind.i64 (0))), AV.d (D.v (Value.int IntKind.i64 (0))), AV.d (D.v (Value.slice none 0 0)), AV.d (D.v (Value.int IntKind.i64 (0))), AV.d (D.v (Value.int IntKind.u32 (0))), AV.d (D.v (Value.int IntKind.i64 (0))), AV.d (D.v (Value.int IntKind.i64 (0))), AV.d (D.v (Value.slice none 0 0)), AV.d (D.v (Value.int IntKind.i64 (0))), AV.d (D.v (Value.int IntKind.u32 (0))), AV.d (D.v (Value.int IntKind.i64 (0))), AV.d (D.v (Value.int IntKind.i64 (0))), AV.d (D.v (Value.slice none 0 0)), AV.d (D.v (Value.int IntKind.i64 (0))), AV.d (D.v (Value.int IntKind.u32 (0))), AV.d (D.v (Value.int IntKind.i64 (0))), AV.d (D.v (Value.int IntKind.i64 (0))), AV.d (D.v (Value.slice none 0 0)), AV.d (D.v (Value.int IntKind.i64 (0))), AV.d (D.v (Value.int IntKind.u32 (0))), AV.d (D.v (Value.int IntKind.i64 (0))), AV.d (D.v (Value.int IntKind.i64 (0))), AV.d (D.v (Value.slice none 0 0)), AV.d (D.v (Value.int IntKind.i64 (0))), AV.d (D.v (Value.int IntKind.u32 (0))), AV.d (D.v (Value.int IntKind.i64 (0))), AV.d (D.v (Value.int IntKind.i64 (0))), AV.d (D.v (Value.slice none 0 0)), AV.d (D.v (Value.int IntKind.i64 (0))), AV.d (D.v (Value.int IntKind.u32 (0))), AV.d (D.v (Value.int IntKind.i64 (0))), AV.d (D.v (Value.int IntKind.i64 (0))), AV.d (D.v (Value.slice none 0 0)), AV.d (D.v (Value.int IntKind.i64 (0))), AV.d (D.v (Value.int IntKind.u32 (0))), AV.d (D.v (Value.int IntKind.i64 (0))), AV.d (D.v (Value.int IntKind.i64 (0))), AV.d (D.v (Value.slice none 0 0)), AV.d (D.v (Value.int IntKind.i64 (0))), AV.d (D.v (Value.int IntKind.u32 (0))), AV.d (D.v (Value.int IntKind.i64 (0))), AV.d (D.v (Value.int IntKind.i64 (0))), AV.d (D.v (Value.slice none 0 0)), AV.d (D.v (Value.int IntKind.i64 (0))), AV.d (D.v (Value.int IntKind.u32 (0))), AV.d (D.v (Value.int IntKind.i64 (0))), AV.d (D.v (Value.int IntKind.i64 (0))), AV.d (D.v (Value.slice none 0 0))] := by kernel_rfl
@[simp] theorem ar_64 : ar Tryd.prog 64 = some (15, 37, 5) := by kernel_rfl
@[simp] theorem tk_79 : tk Tryd.prog 79 = some (true, 13) := by kernel_rfl
@[simp] theorem places_79 : places Tryd.prog 79 = none := by kernel_rfl
@[simp] theorem zvA_79 : zvA Tryd.prog 79 = some [AV.d (D.v (Value.string { data := #[] })), AV.d (D.v (Value.string { data := #[] })), AV.d (D.v (Value.string { data := #[] })), AV.d (D.v (Value.string { data := #[] })), AV.d (D.v (Value.string { data := #[] })), AV.d (D.v (Value.string { data := #[] })), AV.d (D.v (Value.string { data := #[] })), AV.d (D.v (Value.string { data := #[] })), AV.d (D.v (Value.string { data := #[] })), AV.d (D.v (Value.string { data := #[] })), AV.d (D.v (Value.string { data := #[] })), AV.d (D.v (Value.string { data := #[] })), AV.d (D.v (Value.string { data := #[] }))] := by kernel_rfl
@[simp] theorem ar_79 : ar Tryd.prog 79 = some (13, 9, 1) := by kernel_rfl
@[simp] theorem tk_105 : tk Tryd.prog 105 = some (true, 24) := by kernel_rfl
@[simp] theorem places_105 : places Tryd.prog 105 = none := by kernel_rfl
@[simp] theorem zvA_105 : zvA Tryd.prog 105 = some [AV.d (D.v (Value.int IntKind.u8 (0))), AV.d (D.v (Value.int IntKind.u8 (0))), AV.d (D.v (Value.int IntKind.u8 (0))), AV.d (D.v (Value.int IntKind.u8 (0))), AV.d (D.v (Value.int IntKind.u8 (0))), AV.d (D.v (Value.int IntKind.u8 (0))), AV.d (D.v (Value.int IntKind.u8 (0))), AV.d (D.v (Value.int IntKind.u8 (0))), AV.d (D.v (Value.int IntKind.u8 (0))), AV.d (D.v (Value.int IntKind.u8 (0))), AV.d (D.v (Value.int IntKind.u8 (0))), AV.d (D.v (Value.int IntKind.u8 (0))), AV.d (D.v (Value.int IntKind.u8 (0))), AV.d (D.v (Value.int IntKind.u8 (0))), AV.d (D.v (Value.int IntKind.u8 (0))), AV.d (D.v (Value.int IntKind.u8 (0))), AV.d (D.v (Value.int IntKind.u8 (0))), AV.d (D.v (Value.int IntKind.u8 (0))), AV.d (D.v (Value.int IntKind.u8 (0))), AV.d (D.v (Value.int IntKind.u8 (0))), AV.d (D.v (Value.int IntKind.u8 (0))), AV.d (D.v (Value.int IntKind.u8 (0))), AV.d (D.v (Value.int IntKind.u8 (0))), AV.d (D.v (Value.int IntKind.u8 (0)))] := by kernel_rfl
@[simp] theorem ar_105 : ar Tryd.prog 105 = some (24, 5, 1) := by kernel_rfl
@[simp] theorem tk_118 : tk Tryd.prog 118 = some (true, 20) := by kernel_rfl
@[simp] theorem places_118 : places Tryd.prog 118 = none := by kernel_rfl
@[simp] theorem zvA_118 : zvA Tryd.prog 118 = some [AV.d (D.v (Value.int IntKind.u64 (0))), AV.d (D.v (Value.int IntKind.u64 (0))), AV.d (D.v (Value.int IntKind.u64 (0))), AV.d (D.v (Value.int IntKind.u64 (0))), AV.d (D.v (Value.int IntKind.u64 (0))), AV.d (D.v (Value.int IntKind.u64 (0))), AV.d (D.v (Value.int IntKind.u64 (0))), AV.d (D.v (Value.int IntKind.u64 (0))), AV.d (D.v (Value.int IntKind.u64 (0))), AV.d (D.v (Value.int IntKind.u64 (0))), AV.d (D.v (Value.int IntKind.u64 (0))), AV.d (D.v (Value.int IntKind.u64 (0))), AV.d (D.v (Value.int IntKind.u64 (0))), AV.d (D.v (Value.int IntKind.u64 (0))), AV.d (D.v (Value.int IntKind.u64 (0))), AV.d (D.v (Value.int IntKind.u64 (0))), AV.d (D.v (Value.int IntKind.u64 (0))), AV.d (D.v (Value.int IntKind.u64 (0))), AV.d (D.v (Value.int IntKind.u64 (0))), AV.d (D.v (Value.int IntKind.u64 (0)))] := by kernel_rfl
@[simp] theorem ar_118 : ar Tryd.prog 118 = some (20, 76, 1) := by kernel_rfl
@[simp] theorem tk_119 : tk Tryd.prog 119 = some (true, 65) := by kernel_rfl
@[simp] theorem places_119 : places Tryd.prog 119 = none := by kernel_rfl
@[simp] theorem zvA_119 : zvA Tryd.prog 119 = some [AV.d (D.v (Value.int IntKind.u8 (0))), AV.d (D.v (Value.int IntKind.u8 (0))), AV.d (D.v (Value.int IntKind.u8 (0))), AV.d (D.v (Value.int IntKind.u8 (0))), AV.d (D.v (Value.int IntKind.u8 (0))), AV.d (D.v (Value.int IntKind.u8 (0))), AV.d (D.v (Value.int IntKind.u8 (0))), AV.d (D.v (Value.int IntKind.u8 (0))), AV.d (D.v (Value.int IntKind.u8 (0))), AV.d (D.v (Value.int IntKind.u8 (0))), AV.d (D.v (Value.int IntKind.u8 (0))), AV.d (D.v (Value.int IntKind.u8 (0))), AV.d (D.v (Value.int IntKind.u8 (0))), AV.d (D.v (Value.int IntKind.u8 (0))), AV.d (D.v (Value.int IntKind.u8 (0))), AV.d (D.v (Value.int IntKind.u8 (0))), AV.d (D.v (Value.int IntKind.u8 (0))), AV.d (D.v (Value.int IntKind.u8 (0))), AV.d (D.v (Value.int IntKind.u8 (0))), AV.d (D.v (Value.int IntKind.u8 (0))), AV.d (D.v (Value.int IntKind.u8 (0))), AV.d (D.v (Value.int IntKind.u8 (0))), AV.d (D.v (Value.int IntKind.u8 (0))), AV.d (D.v (Value.int IntKind.u8 (0))), AV.d (D.v (Value.int IntKind.u8 (0))), AV.d (D.v (Value.int IntKind.u8 (0))), AV.d (D.v (Value.int IntKind.u8 (0))), AV.d (D.v (Value.int IntKind.u8 (0))), AV.d (D.v (Value.int IntKind.u8 (0))), AV.d (D.v (Value.int IntKind.u8 (0))), AV.d (D.v (Value.int IntKind.u8 (0))), AV.d (D.v (Value.int IntKind.u8 (0))), AV.d (D.v (Value.int IntKind.u8 (0))), AV.d (D.v (Value.int IntKind.u8 (0))), AV.d (D.v (Value.int IntKind.u8 (0))), AV.d (D.v (Value.int IntKind.u8 (0))), AV.d (D.v (Value.int IntKind.u8 (0))), AV.d (D.v (Value.int IntKind.u8 (0))), AV.d (D.v (Value.int IntKind.u8 (0))), AV.d (D.v (Value.int IntKind.u8 (0))), AV.d (D.v (Value.int IntKind.u8 (0))), AV.d (D.v (Value.int IntKind.u8 (0))), AV.d (D.v (Value.int IntKind.u8 (0))), AV.d (D.v (Value.int IntKind.u8 (0))), AV.d (D.v (Value.int IntKind.u8 (0))), AV.d (D.v (Value.int IntKind.u8 (0))), AV.d (D.v (Value.int IntKind.u8 (0))), AV.d (D.v (Value.int IntKind.u8 (0))), AV.d (D.v (Value.int IntKind.u8 (0))), AV.d (D.v (Value.int IntKind.u8 (0))), AV.d (D.v (Value.int IntKind.u8 (0))), AV.d (D.v (Value.int IntKind.u8 (0))), AV.d (D.v (Value.int IntKind.u8 (0))), AV.d (D.v (Value.int IntKind.u8 (0))), AV.d (D.v (Value.int IntKind.u8 (0))), AV.d (D.v (Value.int IntKind.u8 (0))), AV.d (D.v (Value.int IntKind.u8 (0))), AV.d (D.v (Value.int IntKind.u8 (0))), AV.d (D.v (Value.int IntKind.u8 (0))), AV.d (D.v (Value.int IntKind.u8 (0))), AV.d (D.v (Value.int IntKind.u8 (0))), AV.d (D.v (Value.int IntKind.u8 (0))), AV.d (D.v (Value.int IntKind.u8 (0))), AV.d (D.v (Value.int IntKind.u8 (0))), AV.d (D.v (Value.int IntKind.u8 (0)))] := by kernel_rfl
@[simp] theorem ar_119 : ar Tryd.prog 119 = some (65, 5, 1) := by kernel_rfl
@[simp] theorem tk_126 : tk Tryd.prog 126 = some (true, 32) := by kernel_rfl
@[simp] theorem places_126 : places Tryd.prog 126 = none := by kernel_rfl
@[simp] theorem zvA_126 : zvA Tryd.prog 126 = some [AV.d (D.v (Value.int IntKind.u8 (0))), AV.d (D.v (Value.int IntKind.u8 (0))), AV.d (D.v (Value.int IntKind.u8 (0))), AV.d (D.v (Value.int IntKind.u8 (0))), AV.d (D.v (Value.int IntKind.u8 (0))), AV.d (D.v (Value.int IntKind.u8 (0))), AV.d (D.v (Value.int IntKind.u8 (0))), AV.d (D.v (Value.int IntKind.u8 (0))), AV.d (D.v (Value.int IntKind.u8 (0))), AV.d (D.v (Value.int IntKind.u8 (0))), AV.d (D.v (Value.int IntKind.u8 (0))), AV.d (D.v (Value.int IntKind.u8 (0))), AV.d (D.v (Value.int IntKind.u8 (0))), AV.d (D.v (Value.int IntKind.u8 (0))), AV.d (D.v (Value.int IntKind.u8 (0))), AV.d (D.v (Value.int IntKind.u8 (0))), AV.d (D.v (Value.int IntKind.u8 (0))), AV.d (D.v (Value.int IntKind.u8 (0))), AV.d (D.v (Value.int IntKind.u8 (0))), AV.d (D.v (Value.int IntKind.u8 (0))), AV.d (D.v (Value.int IntKind.u8 (0))), AV.d (D.v (Value.int IntKind.u8 (0))), AV.d (D.v (Value.int IntKind.u8 (0))), AV.d (D.v (Value.int IntKind.u8 (0))), AV.d (D.v (Value.int IntKind.u8 (0))), AV.d (D.v (Value.int IntKind.u8 (0))), AV.d (D.v (Value.int IntKind.u8 (0))), AV.d (D.v (Value.int IntKind.u8 (0))), AV.d (D.v (Value.int IntKind.u8 (0))), AV.d (D.v (Value.int IntKind.u8 (0))), AV.d (D.v (Value.int IntKind.u8 (0))), AV.d (D.v (Value.int IntKind.u8 (0)))] := by kernel_rfl
@[simp] theorem ar_126 : ar Tryd.prog 126 = some (32, 5, 1) := by kernel_rfl
@[simp] theorem tk_127 : tk Tryd.prog 127 = some (true, 64) := by kernel_rfl
@[simp] theorem places_127 : places Tryd.prog 127 = none := by kernel_rfl
@[simp] theorem zvA_127 : zvA Tryd.prog 127 = some [AV.d (D.v (Value.int IntKind.u8 (0))), AV.d (D.v (Value.int IntKind.u8 (0))), AV.d (D.v (Value.int IntKind.u8 (0))), AV.d (D.v (Value.int IntKind.u8 (0))), AV.d (D.v (Value.int IntKind.u8 (0))), AV.d (D.v (Value.int IntKind.u8 (0))), AV.d (D.v (Value.int IntKind.u8 (0))), AV.d (D.v (Value.int IntKind.u8 (0))), AV.d (D.v (Value.int IntKind.u8 (0))), AV.d (D.v (Value.int IntKind.u8 (0))), AV.d (D.v (Value.int IntKind.u8 (0))), AV.d (D.v (Value.int IntKind.u8 (0))), AV.d (D.v (Value.int IntKind.u8 (0))), AV.d (D.v (Value.int IntKind.u8 (0))), AV.d (D.v (Value.int IntKind.u8 (0))), AV.d (D.v (Value.int IntKind.u8 (0))), AV.d (D.v (Value.int IntKind.u8 (0))), AV.d (D.v (Value.int IntKind.u8 (0))), AV.d (D.v (Value.int IntKind.u8 (0))), AV.d (D.v (Value.int IntKind.u8 (0))), AV.d (D.v (Value.int IntKind.u8 (0))), AV.d (D.v (Value.int IntKind.u8 (0))), AV.d (D.v (Value.int IntKind.u8 (0))), AV.d (D.v (Value.int IntKind.u8 (0))), AV.d (D.v (Value.int IntKind.u8 (0))), AV.d (D.v (Value.int IntKind.u8 (0))), AV.d (D.v (Value.int IntKind.u8 (0))), AV.d (D.v (Value.int IntKind.u8 (0))), AV.d (D.v (Value.int IntKind.u8 (0))), AV.d (D.v (Value.int IntKind.u8 (0))), AV.d (D.v (Value.int IntKind.u8 (0))), AV.d (D.v (Value.int IntKind.u8 (0))), AV.d (D.v (Value.int IntKind.u8 (0))), AV.d (D.v (Value.int IntKind.u8 (0))), AV.d (D.v (Value.int IntKind.u8 (0))), AV.d (D.v (Value.int IntKind.u8 (0))), AV.d (D.v (Value.int IntKind.u8 (0))), AV.d (D.v (Value.int IntKind.u8 (0))), AV.d (D.v (Value.int IntKind.u8 (0))), AV.d (D.v (Value.int IntKind.u8 (0))), AV.d (D.v (Value.int IntKind.u8 (0))), AV.d (D.v (Value.int IntKind.u8 (0))), AV.d (D.v (Value.int IntKind.u8 (0))), AV.d (D.v (Value.int IntKind.u8 (0))), AV.d (D.v (Value.int IntKind.u8 (0))), AV.d (D.v (Value.int IntKind.u8 (0))), AV.d (D.v (Value.int IntKind.u8 (0))), AV.d (D.v (Value.int IntKind.u8 (0))), AV.d (D.v (Value.int IntKind.u8 (0))), AV.d (D.v (Value.int IntKind.u8 (0))), AV.d (D.v (Value.int IntKind.u8 (0))), AV.d (D.v (Value.int IntKind.u8 (0))), AV.d (D.v (Value.int IntKind.u8 (0))), AV.d (D.v (Value.int IntKind.u8 (0))), AV.d (D.v (Value.int IntKind.u8 (0))), AV.d (D.v (Value.int IntKind.u8 (0))), AV.d (D.v (Value.int IntKind.u8 (0))), AV.d (D.v (Value.int IntKind.u8 (0))), AV.d (D.v (Value.int IntKind.u8 (0))), AV.d (D.v (Value.int IntKind.u8 (0))), AV.d (D.v (Value.int IntKind.u8 (0))), AV.d (D.v (Value.int IntKind.u8 (0))), AV.d (D.v (Value.int IntKind.u8 (0))), AV.d (D.v (Value.int IntKind.u8 (0)))] := by kernel_rfl
@[simp] theorem ar_127 : ar Tryd.prog 127 = some (64, 5, 1) := by kernel_rfl
@[simp] theorem tk_130 : tk Tryd.prog 130 = some (true, 0) := by kernel_rfl
@[simp] theorem places_130 : places Tryd.prog 130 = none := by kernel_rfl
@[simp] theorem zvA_130 : zvA Tryd.prog 130 = some [] := by kernel_rfl
@[simp] theorem ar_130 : ar Tryd.prog 130 = some (0, 16, 1) := by kernel_rfl
@[simp] theorem tk_23 : tk Tryd.prog 23 = some (false, 1) := by kernel_rfl
@[simp] theorem sl_23 : sl Tryd.prog 23 = some (32, 8) := by kernel_rfl
@[simp] theorem zvA_23 : zvA Tryd.prog 23 = some [AV.d (D.v (Value.slice none 0 0))] := by kernel_rfl
@[simp] theorem byt_23 : byt Tryd.prog 23 = some (32, 8, 96) := by kernel_rfl
@[simp] theorem tk_29 : tk Tryd.prog 29 = some (false, 1) := by kernel_rfl
@[simp] theorem sl_29 : sl Tryd.prog 29 = some (37, 5) := by kernel_rfl
@[simp] theorem zvA_29 : zvA Tryd.prog 29 = some [AV.d (D.v (Value.slice none 0 0))] := by kernel_rfl
@[simp] theorem byt_29 : byt Tryd.prog 29 = some (37, 5, 56) := by kernel_rfl
@[simp] theorem tk_30 : tk Tryd.prog 30 = some (false, 1) := by kernel_rfl
@[simp] theorem sl_30 : sl Tryd.prog 30 = some (3, 1) := by kernel_rfl
@[simp] theorem zvA_30 : zvA Tryd.prog 30 = some [AV.d (D.v (Value.slice none 0 0))] := by kernel_rfl
@[simp] theorem byt_30 : byt Tryd.prog 30 = some (3, 1, 8) := by kernel_rfl
@[simp] theorem tk_77 : tk Tryd.prog 77 = some (false, 1) := by kernel_rfl
@[simp] theorem sl_77 : sl Tryd.prog 77 = some (9, 1) := by kernel_rfl
@[simp] theorem zvA_77 : zvA Tryd.prog 77 = some [AV.d (D.v (Value.slice none 0 0))] := by kernel_rfl
@[simp] theorem byt_77 : byt Tryd.prog 77 = some (9, 1, 16) := by kernel_rfl
@[simp] theorem tk_85 : tk Tryd.prog 85 = some (false, 1) := by kernel_rfl
@[simp] theorem sl_85 : sl Tryd.prog 85 = some (5, 1) := by kernel_rfl
@[simp] theorem zvA_85 : zvA Tryd.prog 85 = some [AV.d (D.v (Value.slice none 0 0))] := by kernel_rfl
@[simp] theorem byt_85 : byt Tryd.prog 85 = some (5, 1, 1) := by kernel_rfl
@[simp] theorem tk_2 : tk Tryd.prog 2 = some (false, 1) := by kernel_rfl
@[simp] theorem isInt_2 : isInt Tryd.prog 2 = some IntKind.i64 := by kernel_rfl
@[simp] theorem isStr_2 : isStr Tryd.prog 2 = false := by kernel_rfl
@[simp] theorem zvA_2 : zvA Tryd.prog 2 = some [AV.d (D.v (Value.int IntKind.i64 (0)))] := by kernel_rfl
@[simp] theorem tk_3 : tk Tryd.prog 3 = some (false, 1) := by kernel_rfl
@[simp] theorem isInt_3 : isInt Tryd.prog 3 = some IntKind.i64 := by kernel_rfl
@[simp] theorem isStr_3 : isStr Tryd.prog 3 = false := by kernel_rfl
@[simp] theorem zvA_3 : zvA Tryd.prog 3 = some [AV.d (D.v (Value.int IntKind.i64 (0)))] := by kernel_rfl
@[simp] theorem tk_4 : tk Tryd.prog 4 = some (false, 1) := by kernel_rfl
@[simp] theorem isInt_4 : isInt Tryd.prog 4 = none := by kernel_rfl
@[simp] theorem isStr_4 : isStr Tryd.prog 4 = false := by kernel_rfl
@[simp] theorem zvA_4 : zvA Tryd.prog 4 = some [AV.d (D.v (Value.bool false))] := by kernel_rfl
@[simp] theorem tk_5 : tk Tryd.prog 5 = some (false, 1) := by kernel_rfl
@[simp] theorem isInt_5 : isInt Tryd.prog 5 = some IntKind.u8 := by kernel_rfl
@[simp] theorem isStr_5 : isStr Tryd.prog 5 = false := by kernel_rfl
@[simp] theorem zvA_5 : zvA Tryd.prog 5 = some [AV.d (D.v (Value.int IntKind.u8 (0)))] := by kernel_rfl
@[simp] theorem tk_6 : tk Tryd.prog 6 = some (false, 1) := by kernel_rfl
@[simp] theorem isInt_6 : isInt Tryd.prog 6 = some IntKind.u8 := by kernel_rfl
@[simp] theorem isStr_6 : isStr Tryd.prog 6 = false := by kernel_rfl
@[simp] theorem zvA_6 : zvA Tryd.prog 6 = some [AV.d (D.v (Value.int IntKind.u8 (0)))] := by kernel_rfl
@[simp] theorem tk_9 : tk Tryd.prog 9 = some (false, 1) := by kernel_rfl
@[simp] theorem isInt_9 : isInt Tryd.prog 9 = none := by kernel_rfl
@[simp] theorem isStr_9 : isStr Tryd.prog 9 = true := by kernel_rfl
@[simp] theorem zvA_9 : zvA Tryd.prog 9 = some [AV.d (D.v (Value.string { data := #[] }))] := by kernel_rfl
@[simp] theorem tk_10 : tk Tryd.prog 10 = some (false, 1) := by kernel_rfl
@[simp] theorem isInt_10 : isInt Tryd.prog 10 = none := by kernel_rfl
@[simp] theorem isStr_10 : isStr Tryd.prog 10 = true := by kernel_rfl
@[simp] theorem zvA_10 : zvA Tryd.prog 10 = some [AV.d (D.v (Value.string { data := #[] }))] := by kernel_rfl
@[simp] theorem tk_11 : tk Tryd.prog 11 = some (false, 1) := by kernel_rfl
@[simp] theorem isInt_11 : isInt Tryd.prog 11 = none := by kernel_rfl
@[simp] theorem isStr_11 : isStr Tryd.prog 11 = true := by kernel_rfl
@[simp] theorem zvA_11 : zvA Tryd.prog 11 = some [AV.d (D.v (Value.string { data := #[] }))] := by kernel_rfl
@[simp] theorem tk_12 : tk Tryd.prog 12 = some (false, 1) := by kernel_rfl
@[simp] theorem isInt_12 : isInt Tryd.prog 12 = some IntKind.u64 := by kernel_rfl
@[simp] theorem isStr_12 : isStr Tryd.prog 12 = false := by kernel_rfl
@[simp] theorem zvA_12 : zvA Tryd.prog 12 = some [AV.d (D.v (Value.int IntKind.u64 (0)))] := by kernel_rfl
@[simp] theorem tk_21 : tk Tryd.prog 21 = some (false, 1) := by kernel_rfl
@[simp] theorem isInt_21 : isInt Tryd.prog 21 = some IntKind.i32 := by kernel_rfl
@[simp] theorem isStr_21 : isStr Tryd.prog 21 = false := by kernel_rfl
@[simp] theorem zvA_21 : zvA Tryd.prog 21 = some [AV.d (D.v (Value.int IntKind.i32 (0)))] := by kernel_rfl
@[simp] theorem tk_22 : tk Tryd.prog 22 = some (false, 1) := by kernel_rfl
@[simp] theorem isInt_22 : isInt Tryd.prog 22 = some IntKind.u32 := by kernel_rfl
@[simp] theorem isStr_22 : isStr Tryd.prog 22 = false := by kernel_rfl
@[simp] theorem zvA_22 : zvA Tryd.prog 22 = some [AV.d (D.v (Value.int IntKind.u32 (0)))] := by kernel_rfl
@[simp] theorem tk_53 : tk Tryd.prog 53 = some (false, 1) := by kernel_rfl
@[simp] theorem isInt_53 : isInt Tryd.prog 53 = some IntKind.i64 := by kernel_rfl
@[simp] theorem isStr_53 : isStr Tryd.prog 53 = false := by kernel_rfl
@[simp] theorem zvA_53 : zvA Tryd.prog 53 = some [AV.d (D.v (Value.int IntKind.i64 (0)))] := by kernel_rfl
@[simp] theorem tk_76 : tk Tryd.prog 76 = some (false, 1) := by kernel_rfl
@[simp] theorem isInt_76 : isInt Tryd.prog 76 = some IntKind.u64 := by kernel_rfl
@[simp] theorem isStr_76 : isStr Tryd.prog 76 = false := by kernel_rfl
@[simp] theorem zvA_76 : zvA Tryd.prog 76 = some [AV.d (D.v (Value.int IntKind.u64 (0)))] := by kernel_rfl
@[simp] theorem tk_83 : tk Tryd.prog 83 = some (false, 1) := by kernel_rfl
@[simp] theorem isInt_83 : isInt Tryd.prog 83 = some IntKind.u64 := by kernel_rfl
@[simp] theorem isStr_83 : isStr Tryd.prog 83 = false := by kernel_rfl
@[simp] theorem zvA_83 : zvA Tryd.prog 83 = some [AV.d (D.v (Value.int IntKind.u64 (0)))] := by kernel_rfl
@[simp] theorem tk_96 : tk Tryd.prog 96 = some (false, 1) := by kernel_rfl
@[simp] theorem isInt_96 : isInt Tryd.prog 96 = some IntKind.i64 := by kernel_rfl
@[simp] theorem isStr_96 : isStr Tryd.prog 96 = false := by kernel_rfl
@[simp] theorem zvA_96 : zvA Tryd.prog 96 = some [AV.d (D.v (Value.int IntKind.i64 (0)))] := by kernel_rfl
@[simp] theorem tk_110 : tk Tryd.prog 110 = some (false, 1) := by kernel_rfl
@[simp] theorem isInt_110 : isInt Tryd.prog 110 = some IntKind.u64 := by kernel_rfl
@[simp] theorem isStr_110 : isStr Tryd.prog 110 = false := by kernel_rfl
@[simp] theorem zvA_110 : zvA Tryd.prog 110 = some [AV.d (D.v (Value.int IntKind.u64 (0)))] := by kernel_rfl
@[simp] theorem tk_120 : tk Tryd.prog 120 = some (false, 1) := by kernel_rfl
@[simp] theorem isInt_120 : isInt Tryd.prog 120 = none := by kernel_rfl
@[simp] theorem isStr_120 : isStr Tryd.prog 120 = false := by kernel_rfl
@[simp] theorem zvA_120 : zvA Tryd.prog 120 = some [AV.d (D.v (Value.pointer none))] := by kernel_rfl
@[simp] theorem tk_134 : tk Tryd.prog 134 = some (false, 1) := by kernel_rfl
@[simp] theorem isInt_134 : isInt Tryd.prog 134 = some IntKind.u8 := by kernel_rfl
@[simp] theorem isStr_134 : isStr Tryd.prog 134 = false := by kernel_rfl
@[simp] theorem zvA_134 : zvA Tryd.prog 134 = some [AV.d (D.v (Value.int IntKind.u8 (0)))] := by kernel_rfl
@[simp] theorem tk_135 : tk Tryd.prog 135 = some (false, 1) := by kernel_rfl
@[simp] theorem isInt_135 : isInt Tryd.prog 135 = some IntKind.u8 := by kernel_rfl
@[simp] theorem isStr_135 : isStr Tryd.prog 135 = false := by kernel_rfl
@[simp] theorem zvA_135 : zvA Tryd.prog 135 = some [AV.d (D.v (Value.int IntKind.u8 (0)))] := by kernel_rfl
@[simp] theorem tk_137 : tk Tryd.prog 137 = some (false, 1) := by kernel_rfl
@[simp] theorem isInt_137 : isInt Tryd.prog 137 = some IntKind.i32 := by kernel_rfl
@[simp] theorem isStr_137 : isStr Tryd.prog 137 = false := by kernel_rfl
@[simp] theorem zvA_137 : zvA Tryd.prog 137 = some [AV.d (D.v (Value.int IntKind.i32 (0)))] := by kernel_rfl
@[simp] theorem tk_138 : tk Tryd.prog 138 = some (false, 1) := by kernel_rfl
@[simp] theorem isInt_138 : isInt Tryd.prog 138 = some IntKind.i32 := by kernel_rfl
@[simp] theorem isStr_138 : isStr Tryd.prog 138 = false := by kernel_rfl
@[simp] theorem zvA_138 : zvA Tryd.prog 138 = some [AV.d (D.v (Value.int IntKind.i32 (0)))] := by kernel_rfl
@[simp] theorem tk_1 : tk Tryd.prog 1 = some (false, 1) := by kernel_rfl
@[simp] theorem zvA_1 : zvA Tryd.prog 1 = some [AV.d (D.v Value.nilFunc)] := by kernel_rfl
@[simp] theorem tk_15 : tk Tryd.prog 15 = some (false, 1) := by kernel_rfl
@[simp] theorem zvA_15 : zvA Tryd.prog 15 = some [AV.d (D.v (Value.pointer none))] := by kernel_rfl
@[simp] theorem tk_16 : tk Tryd.prog 16 = some (false, 1) := by kernel_rfl
@[simp] theorem zvA_16 : zvA Tryd.prog 16 = some [AV.d (D.v (Value.pointer none))] := by kernel_rfl
@[simp] theorem tk_17 : tk Tryd.prog 17 = some (false, 1) := by kernel_rfl
@[simp] theorem zvA_17 : zvA Tryd.prog 17 = some [AV.d (D.v (Value.pointer none))] := by kernel_rfl
@[simp] theorem tk_20 : tk Tryd.prog 20 = some (false, 1) := by kernel_rfl
@[simp] theorem zvA_20 : zvA Tryd.prog 20 = some [AV.d (D.v Value.nilIface)] := by kernel_rfl
@[simp] theorem tk_26 : tk Tryd.prog 26 = some (false, 1) := by kernel_rfl
@[simp] theorem zvA_26 : zvA Tryd.prog 26 = some [AV.d (D.v Value.nilFunc)] := by kernel_rfl
@[simp] theorem tk_27 : tk Tryd.prog 27 = some (false, 1) := by kernel_rfl
@[simp] theorem zvA_27 : zvA Tryd.prog 27 = some [AV.d (D.v Value.nilFunc)] := by kernel_rfl
@[simp] theorem tk_28 : tk Tryd.prog 28 = some (false, 1) := by kernel_rfl
@[simp] theorem zvA_28 : zvA Tryd.prog 28 = some [AV.d (D.v Value.nilFunc)] := by kernel_rfl
@[simp] theorem tk_33 : tk Tryd.prog 33 = some (false, 1) := by kernel_rfl
@[simp] theorem zvA_33 : zvA Tryd.prog 33 = some [AV.d (D.v Value.nilFunc)] := by kernel_rfl
@[simp] theorem tk_34 : tk Tryd.prog 34 = some (false, 1) := by kernel_rfl
@[simp] theorem zvA_34 : zvA Tryd.prog 34 = some [AV.d (D.v Value.nilFunc)] := by kernel_rfl
@[simp] theorem tk_35 : tk Tryd.prog 35 = some (false, 1) := by kernel_rfl
@[simp] theorem zvA_35 : zvA Tryd.prog 35 = some [AV.d (D.v Value.nilFunc)] := by kernel_rfl
@[simp] theorem tk_38 : tk Tryd.prog 38 = some (false, 1) := by kernel_rfl
@[simp] theorem zvA_38 : zvA Tryd.prog 38 = some [AV.d (D.v Value.nilFunc)] := by kernel_rfl
@[simp] theorem tk_39 : tk Tryd.prog 39 = some (false, 1) := by kernel_rfl
@[simp] theorem zvA_39 : zvA Tryd.prog 39 = some [AV.d (D.v Value.nilFunc)] := by kernel_rfl
@[simp] theorem tk_41 : tk Tryd.prog 41 = some (false, 1) := by kernel_rfl
@[simp] theorem zvA_41 : zvA Tryd.prog 41 = some [AV.d (D.v Value.nilFunc)] := by kernel_rfl
@[simp] theorem tk_42 : tk Tryd.prog 42 = some (false, 1) := by kernel_rfl
@[simp] theorem zvA_42 : zvA Tryd.prog 42 = some [AV.d (D.v Value.nilFunc)] := by kernel_rfl
@[simp] theorem tk_46 : tk Tryd.prog 46 = some (false, 1) := by kernel_rfl
@[simp] theorem zvA_46 : zvA Tryd.prog 46 = some [AV.d (D.v Value.nilFunc)] := by kernel_rfl
@[simp] theorem tk_47 : tk Tryd.prog 47 = some (false, 1) := by kernel_rfl
@[simp] theorem zvA_47 : zvA Tryd.prog 47 = some [AV.d (D.v Value.nilFunc)] := by kernel_rfl
@[simp] theorem tk_48 : tk Tryd.prog 48 = some (false, 1) := by kernel_rfl
@[simp] theorem zvA_48 : zvA Tryd.prog 48 = some [AV.d (D.v Value.nilFunc)] := by kernel_rfl
@[simp] theorem tk_49 : tk Tryd.prog 49 = some (false, 1) := by kernel_rfl
@[simp] theorem zvA_49 : zvA Tryd.prog 49 = some [AV.d (D.v Value.nilFunc)] := by kernel_rfl
@[simp] theorem tk_50 : tk Tryd.prog 50 = some (false, 1) := by kernel_rfl
@[simp] theorem zvA_50 : zvA Tryd.prog 50 = some [AV.d (D.v Value.nilFunc)] := by kernel_rfl
@[simp] theorem tk_51 : tk Tryd.prog 51 = some (false, 1) := by kernel_rfl
@[simp] theorem zvA_51 : zvA Tryd.prog 51 = some [AV.d (D.v Value.nilFunc)] := by kernel_rfl
@[simp] theorem tk_52 : tk Tryd.prog 52 = some (false, 1) := by kernel_rfl
@[simp] theorem zvA_52 : zvA Tryd.prog 52 = some [AV.d (D.v Value.nilFunc)] := by kernel_rfl
@[simp] theorem tk_54 : tk Tryd.prog 54 = some (false, 1) := by kernel_rfl
@[simp] theorem zvA_54 : zvA Tryd.prog 54 = some [AV.d (D.v Value.nilFunc)] := by kernel_rfl
@[simp] theorem tk_55 : tk Tryd.prog 55 = some (false, 1) := by kernel_rfl
@[simp] theorem zvA_55 : zvA Tryd.prog 55 = some [AV.d (D.v Value.nilFunc)] := by kernel_rfl
@[simp] theorem tk_57 : tk Tryd.prog 57 = some (false, 1) := by kernel_rfl
@[simp] theorem zvA_57 : zvA Tryd.prog 57 = some [AV.d (D.v Value.nilFunc)] := by kernel_rfl
@[simp] theorem tk_58 : tk Tryd.prog 58 = some (false, 1) := by kernel_rfl
@[simp] theorem zvA_58 : zvA Tryd.prog 58 = some [AV.d (D.v Value.nilFunc)] := by kernel_rfl
@[simp] theorem tk_59 : tk Tryd.prog 59 = some (false, 1) := by kernel_rfl
@[simp] theorem zvA_59 : zvA Tryd.prog 59 = some [AV.d (D.v Value.nilFunc)] := by kernel_rfl
@[simp] theorem tk_60 : tk Tryd.prog 60 = some (false, 1) := by kernel_rfl
@[simp] theorem zvA_60 : zvA Tryd.prog 60 = some [AV.d (D.v Value.nilFunc)] := by kernel_rfl
@[simp] theorem tk_61 : tk Tryd.prog 61 = some (false, 1) := by kernel_rfl
@[simp] theorem zvA_61 : zvA Tryd.prog 61 = some [AV.d (D.v Value.nilFunc)] := by kernel_rfl
@[simp] theorem tk_62 : tk Tryd.prog 62 = some (false, 1) := by kernel_rfl
@[simp] theorem zvA_62 : zvA Tryd.prog 62 = some [AV.d (D.v Value.nilFunc)] := by kernel_rfl
@[simp] theorem tk_63 : tk Tryd.prog 63 = some (false, 1) := by kernel_rfl
@[simp] theorem zvA_63 : zvA Tryd.prog 63 = some [AV.d (D.v Value.nilFunc)] := by kernel_rfl
@[simp] theorem tk_65 : tk Tryd.prog 65 = some (false, 1) := by kernel_rfl
@[simp] theorem zvA_65 : zvA Tryd.prog 65 = some [AV.d (D.v Value.nilFunc)] := by kernel_rfl
@[simp] theorem tk_66 : tk Tryd.prog 66 = some (false, 1) := by kernel_rfl
@[simp] theorem zvA_66 : zvA Tryd.prog 66 = some [AV.d (D.v Value.nilFunc)] := by kernel_rfl
@[simp] theorem tk_67 : tk Tryd.prog 67 = some (false, 1) := by kernel_rfl
@[simp] theorem zvA_67 : zvA Tryd.prog 67 = some [AV.d (D.v Value.nilFunc)] := by kernel_rfl
@[simp] theorem tk_68 : tk Tryd.prog 68 = some (false, 1) := by kernel_rfl
@[simp] theorem zvA_68 : zvA Tryd.prog 68 = some [AV.d (D.v Value.nilFunc)] := by kernel_rfl
@[simp] theorem tk_69 : tk Tryd.prog 69 = some (false, 1) := by kernel_rfl
@[simp] theorem zvA_69 : zvA Tryd.prog 69 = some [AV.d (D.v Value.nilFunc)] := by kernel_rfl
@[simp] theorem tk_70 : tk Tryd.prog 70 = some (false, 1) := by kernel_rfl
@[simp] theorem zvA_70 : zvA Tryd.prog 70 = some [AV.d (D.v Value.nilFunc)] := by kernel_rfl
@[simp] theorem tk_71 : tk Tryd.prog 71 = some (false, 1) := by kernel_rfl
@[simp] theorem zvA_71 : zvA Tryd.prog 71 = some [AV.d (D.v Value.nilFunc)] := by kernel_rfl
@[simp] theorem tk_72 : tk Tryd.prog 72 = some (false, 1) := by kernel_rfl
@[simp] theorem zvA_72 : zvA Tryd.prog 72 = some [AV.d (D.v Value.nilFunc)] := by kernel_rfl
@[simp] theorem tk_73 : tk Tryd.prog 73 = some (false, 1) := by kernel_rfl
@[simp] theorem zvA_73 : zvA Tryd.prog 73 = some [AV.d (D.v Value.nilFunc)] := by kernel_rfl
@[simp] theorem tk_74 : tk Tryd.prog 74 = some (false, 1) := by kernel_rfl
@[simp] theorem zvA_74 : zvA Tryd.prog 74 = some [AV.d (D.v Value.nilFunc)] := by kernel_rfl
@[simp] theorem tk_75 : tk Tryd.prog 75 = some (false, 1) := by kernel_rfl
@[simp] theorem zvA_75 : zvA Tryd.prog 75 = some [AV.d (D.v Value.nilFunc)] := by kernel_rfl
@[simp] theorem tk_78 : tk Tryd.prog 78 = some (false, 1) := by kernel_rfl
@[simp] theorem zvA_78 : zvA Tryd.prog 78 = some [AV.d (D.v Value.nilFunc)] := by kernel_rfl
@[simp] theorem tk_80 : tk Tryd.prog 80 = some (false, 1) := by kernel_rfl
@[simp] theorem zvA_80 : zvA Tryd.prog 80 = some [AV.d (D.v Value.nilFunc)] := by kernel_rfl
@[simp] theorem tk_81 : tk Tryd.prog 81 = some (false, 1) := by kernel_rfl
@[simp] theorem zvA_81 : zvA Tryd.prog 81 = some [AV.d (D.v Value.nilFunc)] := by kernel_rfl
@[simp] theorem tk_82 : tk Tryd.prog 82 = some (false, 1) := by kernel_rfl
@[simp] theorem zvA_82 : zvA Tryd.prog 82 = some [AV.d (D.v Value.nilFunc)] := by kernel_rfl
@[simp] theorem tk_84 : tk Tryd.prog 84 = some (false, 1) := by kernel_rfl
@[simp] theorem zvA_84 : zvA Tryd.prog 84 = some [AV.d (D.v (Value.pointer none))] := by kernel_rfl
@[simp] theorem tk_88 : tk Tryd.prog 88 = some (false, 1) := by kernel_rfl
@[simp] theorem zvA_88 : zvA Tryd.prog 88 = some [AV.d (D.v Value.nilFunc)] := by kernel_rfl
@[simp] theorem tk_89 : tk Tryd.prog 89 = some (false, 1) := by kernel_rfl
@[simp] theorem zvA_89 : zvA Tryd.prog 89 = some [AV.d (D.v Value.nilIface)] := by kernel_rfl
@[simp] theorem tk_90 : tk Tryd.prog 90 = some (false, 1) := by kernel_rfl
@[simp] theorem zvA_90 : zvA Tryd.prog 90 = some [AV.d (D.v Value.nilIface)] := by kernel_rfl
@[simp] theorem tk_92 : tk Tryd.prog 92 = some (false, 1) := by kernel_rfl
@[simp] theorem zvA_92 : zvA Tryd.prog 92 = some [AV.d (D.v Value.nilFunc)] := by kernel_rfl
@[simp] theorem tk_93 : tk Tryd.prog 93 = some (false, 1) := by kernel_rfl
@[simp] theorem zvA_93 : zvA Tryd.prog 93 = some [AV.d (D.v Value.nilFunc)] := by kernel_rfl
@[simp] theorem tk_94 : tk Tryd.prog 94 = some (false, 1) := by kernel_rfl
@[simp] theorem zvA_94 : zvA Tryd.prog 94 = some [AV.d (D.v Value.nilFunc)] := by kernel_rfl
@[simp] theorem tk_95 : tk Tryd.prog 95 = some (false, 1) := by kernel_rfl
@[simp] theorem zvA_95 : zvA Tryd.prog 95 = some [AV.d (D.v Value.nilFunc)] := by kernel_rfl
@[simp] theorem tk_98 : tk Tryd.prog 98 = some (false, 1) := by kernel_rfl
@[simp] theorem zvA_98 : zvA Tryd.prog 98 = some [AV.d (D.v Value.nilFunc)] := by kernel_rfl
@[simp] theorem tk_99 : tk Tryd.prog 99 = some (false, 1) := by kernel_rfl
@[simp] theorem zvA_99 : zvA Tryd.prog 99 = some [AV.d (D.v Value.nilFunc)] := by kernel_rfl
@[simp] theorem tk_100 : tk Tryd.prog 100 = some (false, 1) := by kernel_rfl
@[simp] theorem zvA_100 : zvA Tryd.prog 100 = some [AV.d (D.v Value.nilFunc)] := by kernel_rfl
@[simp] theorem tk_101 : tk Tryd.prog 101 = some (false, 1) := by kernel_rfl
@[simp] theorem zvA_101 : zvA Tryd.prog 101 = some [AV.d (D.v Value.nilFunc)] := by kernel_rfl
@[simp] theorem tk_102 : tk Tryd.prog 102 = some (false, 1) := by kernel_rfl
@[simp] theorem zvA_102 : zvA Tryd.prog 102 = some [AV.d (D.v Value.nilFunc)] := by kernel_rfl
@[simp] theorem tk_103 : tk Tryd.prog 103 = some (false, 1) := by kernel_rfl
@[simp] theorem zvA_103 : zvA Tryd.prog 103 = some [AV.d (D.v Value.nilFunc)] := by kernel_rfl
@[simp] theorem tk_104 : tk Tryd.prog 104 = some (false, 1) := by kernel_rfl
@[simp] theorem zvA_104 : zvA Tryd.prog 104 = some [AV.d (D.v Value.nilFunc)] := by kernel_rfl
@[simp] theorem tk_106 : tk Tryd.prog 106 = some (false, 1) := by kernel_rfl
@[simp] theorem zvA_106 : zvA Tryd.prog 106 = some [AV.d (D.v Value.nilFunc)] := by kernel_rfl
@[simp] theorem tk_108 : tk Tryd.prog 108 = some (false, 1) := by kernel_rfl
@[simp] theorem zvA_108 : zvA Tryd.prog 108 = some [AV.d (D.v Value.nilFunc)] := by kernel_rfl
@[simp] theorem tk_109 : tk Tryd.prog 109 = some (false, 1) := by kernel_rfl
@[simp] theorem zvA_109 : zvA Tryd.prog 109 = some [AV.d (D.v (Value.pointer none))] := by kernel_rfl
@[simp] theorem tk_111 : tk Tryd.prog 111 = some (false, 1) := by kernel_rfl
@[simp] theorem zvA_111 : zvA Tryd.prog 111 = some [AV.d (D.v Value.nilFunc)] := by kernel_rfl
@[simp] theorem tk_112 : tk Tryd.prog 112 = some (false, 1) := by kernel_rfl
@[simp] theorem zvA_112 : zvA Tryd.prog 112 = some [AV.d (D.v Value.nilFunc)] := by kernel_rfl
@[simp] theorem tk_113 : tk Tryd.prog 113 = some (false, 1) := by kernel_rfl
@[simp] theorem zvA_113 : zvA Tryd.prog 113 = some [AV.d (D.v Value.nilFunc)] := by kernel_rfl
@[simp] theorem tk_114 : tk Tryd.prog 114 = some (false, 1) := by kernel_rfl
@[simp] theorem zvA_114 : zvA Tryd.prog 114 = some [AV.d (D.v (Value.pointer none))] := by kernel_rfl
@[simp] theorem tk_115 : tk Tryd.prog 115 = some (false, 1) := by kernel_rfl
@[simp] theorem zvA_115 : zvA Tryd.prog 115 = some [AV.d (D.v Value.nilFunc)] := by kernel_rfl
@[simp] theorem tk_116 : tk Tryd.prog 116 = some (false, 1) := by kernel_rfl
@[simp] theorem zvA_116 : zvA Tryd.prog 116 = some [AV.d (D.v Value.nilFunc)] := by kernel_rfl
@[simp] theorem tk_117 : tk Tryd.prog 117 = some (false, 1) := by kernel_rfl
@[simp] theorem zvA_117 : zvA Tryd.prog 117 = some [AV.d (D.v Value.nilFunc)] := by kernel_rfl
@[simp] theorem tk_121 : tk Tryd.prog 121 = some (false, 1) := by kernel_rfl
@[simp] theorem zvA_121 : zvA Tryd.prog 121 = some [AV.d (D.v Value.nilFunc)] := by kernel_rfl
@[simp] theorem tk_122 : tk Tryd.prog 122 = some (false, 1) := by kernel_rfl
@[simp] theorem zvA_122 : zvA Tryd.prog 122 = some [AV.d (D.v Value.nilFunc)] := by kernel_rfl
@[simp] theorem tk_123 : tk Tryd.prog 123 = some (false, 1) := by kernel_rfl
@[simp] theorem zvA_123 : zvA Tryd.prog 123 = some [AV.d (D.v (Value.pointer none))] := by kernel_rfl
@[simp] theorem tk_125 : tk Tryd.prog 125 = some (false, 1) := by kernel_rfl
@[simp] theorem zvA_125 : zvA Tryd.prog 125 = some [AV.d (D.v Value.nilFunc)] := by kernel_rfl
@[simp] theorem tk_133 : tk Tryd.prog 133 = some (false, 1) := by kernel_rfl
@[simp] theorem zvA_133 : zvA Tryd.prog 133 = some [AV.d (D.v Value.nilFunc)] := by kernel_rfl
@[simp] theorem tk_136 : tk Tryd.prog 136 = some (false, 1) := by kernel_rfl
@[simp] theorem zvA_136 : zvA Tryd.prog 136 = some [AV.d (D.v Value.nilFunc)] := by kernel_rfl
@[simp] theorem okF_3 : okF Tryd.prog 3 = true := by kernel_rfl
@[simp] theorem okF_4 : okF Tryd.prog 4 = true := by kernel_rfl
@[simp] theorem okF_5 : okF Tryd.prog 5 = true := by kernel_rfl
@[simp] theorem okF_6 : okF Tryd.prog 6 = true := by kernel_rfl
@[simp] theorem okF_7 : okF Tryd.prog 7 = true := by kernel_rfl
@[simp] theorem okF_8 : okF Tryd.prog 8 = true := by kernel_rfl
@[simp] theorem okF_9 : okF Tryd.prog 9 = true := by kernel_rfl
@[simp] theorem okF_10 : okF Tryd.prog 10 = true := by kernel_rfl
@[simp] theorem okF_11 : okF Tryd.prog 11 = true := by kernel_rfl
@[simp] theorem okF_12 : okF Tryd.prog 12 = true := by kernel_rfl
@[simp] theorem okF_13 : okF Tryd.prog 13 = true := by kernel_rfl
@[simp] theorem okF_14 : okF Tryd.prog 14 = true := by kernel_rfl
@[simp] theorem okF_15 : okF Tryd.prog 15 = true := by kernel_rfl
@[simp] theorem okF_16 : okF Tryd.prog 16 = true := by kernel_rfl
@[simp] theorem okF_17 : okF Tryd.prog 17 = true := by kernel_rfl
@[simp] theorem okF_18 : okF Tryd.prog 18 = true := by kernel_rfl
@[simp] theorem okF_19 : okF Tryd.prog 19 = true := by kernel_rfl
@[simp] theorem okF_20 : okF Tryd.prog 20 = true := by kernel_rfl
@[simp] theorem okF_21 : okF Tryd.prog 21 = true := by kernel_rfl
@[simp] theorem okF_22 : okF Tryd.prog 22 = true := by kernel_rfl
@[simp] theorem okF_23 : okF Tryd.prog 23 = true := by kernel_rfl
@[simp] theorem okF_24 : okF Tryd.prog 24 = true := by kernel_rfl
@[simp] theorem okF_25 : okF Tryd.prog 25 = true := by kernel_rfl
@[simp] theorem okF_26 : okF Tryd.prog 26 = true := by kernel_rfl
@[simp] theorem okF_27 : okF Tryd.prog 27 = true := by kernel_rfl
@[simp] theorem okF_28 : okF Tryd.prog 28 = true := by kernel_rfl
@[simp] theorem okF_29 : okF Tryd.prog 29 = true := by kernel_rfl
@[simp] theorem okF_30 : okF Tryd.prog 30 = true := by kernel_rfl
@[simp] theorem okF_31 : okF Tryd.prog 31 = true := by kernel_rfl
@[simp] theorem okF_32 : okF Tryd.prog 32 = true := by kernel_rfl
@[simp] theorem okF_33 : okF Tryd.prog 33 = true := by kernel_rfl
@[simp] theorem okF_34 : okF Tryd.prog 34 = true := by kernel_rfl
@[simp] theorem okF_35 : okF Tryd.prog 35 = true := by kernel_rfl
@[simp] theorem okF_36 : okF Tryd.prog 36 = true := by kernel_rfl
@[simp] theorem okF_37 : okF Tryd.prog 37 = true := by kernel_rfl
@[simp] theorem okF_38 : okF Tryd.prog 38 = true := by kernel_rfl
@[simp] theorem okF_39 : okF Tryd.prog 39 = true := by kernel_rfl
@[simp] theorem okF_40 : okF Tryd.prog 40 = true := by kernel_rfl
@[simp] theorem okF_41 : okF Tryd.prog 41 = true := by kernel_rfl
@[simp] theorem okF_42 : okF Tryd.prog 42 = true := by kernel_rfl
@[simp] theorem okF_43 : okF Tryd.prog 43 = true := by kernel_rfl
@[simp] theorem okF_44 : okF Tryd.prog 44 = true := by kernel_rfl
@[simp] theorem okF_45 : okF Tryd.prog 45 = true := by kernel_rfl
@[simp] theorem okF_46 : okF Tryd.prog 46 = true := by kernel_rfl
@[simp] theorem okF_47 : okF Tryd.prog 47 = true := by kernel_rfl
@[simp] theorem okF_48 : okF Tryd.prog 48 = true := by kernel_rfl
@[simp] theorem okF_49 : okF Tryd.prog 49 = true := by kernel_rfl
@[simp] theorem okF_50 : okF Tryd.prog 50 = true := by kernel_rfl
@[simp] theorem okF_51 : okF Tryd.prog 51 = true := by kernel_rfl
@[simp] theorem okF_52 : okF Tryd.prog 52 = true := by kernel_rfl
@[simp] theorem okF_53 : okF Tryd.prog 53 = true := by kernel_rfl
@[simp] theorem okF_54 : okF Tryd.prog 54 = true := by kernel_rfl
@[simp] theorem okF_55 : okF Tryd.prog 55 = true := by kernel_rfl
@[simp] theorem okF_56 : okF Tryd.prog 56 = true := by kernel_rfl
@[simp] theorem okF_57 : okF Tryd.prog 57 = true := by kernel_rfl
@[simp] theorem okF_58 : okF Tryd.prog 58 = true := by kernel_rfl
@[simp] theorem okF_59 : okF Tryd.prog 59 = true := by kernel_rfl
@[simp] theorem okF_60 : okF Tryd.prog 60 = true := by kernel_rfl
@[simp] theorem okF_61 : okF Tryd.prog 61 = true := by kernel_rfl
@[simp] theorem okF_62 : okF Tryd.prog 62 = true := by kernel_rfl
@[simp] theorem okF_63 : okF Tryd.prog 63 = true := by kernel_rfl
@[simp] theorem okF_64 : okF Tryd.prog 64 = true := by kernel_rfl
@[simp] theorem okF_65 : okF Tryd.prog 65 = true := by kernel_rfl
@[simp] theorem okF_66 : okF Tryd.prog 66 = true := by kernel_rfl
@[simp] theorem okF_67 : okF Tryd.prog 67 = true := by kernel_rfl
@[simp] theorem okF_68 : okF Tryd.prog 68 = true := by kernel_rfl
@[simp] theorem okF_69 : okF Tryd.prog 69 = true := by kernel_rfl
@[simp] theorem okF_70 : okF Tryd.prog 70 = true := by kernel_rfl
@[simp] theorem okF_71 : okF Tryd.prog 71 = true := by kernel_rfl
@[simp] theorem okF_72 : okF Tryd.prog 72 = true := by kernel_rfl
@[simp] theorem okF_73 : okF Tryd.prog 73 = true := by kernel_rfl
@[simp] theorem okF_74 : okF Tryd.prog 74 = true := by kernel_rfl
@[simp] theorem okF_75 : okF Tryd.prog 75 = true := by kernel_rfl
@[simp] theorem okF_76 : okF Tryd.prog 76 = true := by kernel_rfl
@[simp] theorem okF_77 : okF Tryd.prog 77 = true := by kernel_rfl
@[simp] theorem okF_78 : okF Tryd.prog 78 = true := by kernel_rfl
@[simp] theorem okF_79 : okF Tryd.prog 79 = true := by kernel_rfl
@[simp] theorem okF_80 : okF Tryd.prog 80 = true := by kernel_rfl
@[simp] theorem okF_81 : okF Tryd.prog 81 = true := by kernel_rfl
@[simp] theorem okF_82 : okF Tryd.prog 82 = true := by kernel_rfl
@[simp] theorem okF_83 : okF Tryd.prog 83 = true := by kernel_rfl
@[simp] theorem okF_84 : okF Tryd.prog 84 = true := by kernel_rfl
@[simp] theorem okF_85 : okF Tryd.prog 85 = true := by kernel_rfl
@[simp] theorem okF_86 : okF Tryd.prog 86 = true := by kernel_rfl
@[simp] theorem okF_87 : okF Tryd.prog 87 = true := by kernel_rfl
@[simp] theorem okF_88 : okF Tryd.prog 88 = true := by kernel_rfl
@[simp] theorem okF_89 : okF Tryd.prog 89 = true := by kernel_rfl
@[simp] theorem okF_90 : okF Tryd.prog 90 = true := by kernel_rfl
@[simp] theorem okF_91 : okF Tryd.prog 91 = true := by kernel_rfl
@[simp] theorem okF_92 : okF Tryd.prog 92 = true := by kernel_rfl
@[simp] theorem okF_93 : okF Tryd.prog 93 = true := by kernel_rfl
@[simp] theorem okF_94 : okF Tryd.prog 94 = true := by kernel_rfl
@[simp] theorem okF_95 : okF Tryd.prog 95 = true := by kernel_rfl
@[simp] theorem okF_96 : okF Tryd.prog 96 = true := by kernel_rfl
@[simp] theorem okF_99 : okF Tryd.prog 99 = true := by kernel_rfl
@[simp] theorem okF_100 : okF Tryd.prog 100 = true := by kernel_rfl
@[simp] theorem okF_101 : okF Tryd.prog 101 = true := by kernel_rfl
end Go.Proofs.YtjgeicfbgpcopaaDoor
