/- Closed facts on the program's types and functions, made by program: what the calculator asks of its tables. -/
import Derived.Test.YtngjcmeclhlfeaaProg
import Derived.Test.YtngjcmeclhlfeaaAh
import Derived.KernelRfl
namespace Go.Proofs.Ytngjcmeclhlfeaa
set_option maxRecDepth 100000
@[simp] theorem tk_7 : tk Try.prog 7 = some (true, 4) := by kernel_rfl
@[simp] theorem places_7 : places Try.prog 7 = some [(0, 1), (1, 1), (2, 1), (3, 1)] := by kernel_rfl
@[simp] theorem zvA_7 : zvA Try.prog 7 = some [AV.d (D.v (Value.int IntKind.i64 (0))), AV.d (D.v (Value.int IntKind.i64 (0))), AV.d (D.v (Value.bool false)), AV.d (D.v (Value.int IntKind.u8 (0)))] := by kernel_rfl
@[simp] theorem ar_7 : ar Try.prog 7 = none := by kernel_rfl
@[simp] theorem fo_7_0 : fo Try.prog 7 0 = some 0 := by kernel_rfl
@[simp] theorem ft_7_0 : ft Try.prog 7 0 = some (2, 0) := by kernel_rfl
@[simp] theorem fo_7_1 : fo Try.prog 7 1 = some 1 := by kernel_rfl
@[simp] theorem ft_7_1 : ft Try.prog 7 1 = some (3, 1) := by kernel_rfl
@[simp] theorem fo_7_2 : fo Try.prog 7 2 = some 2 := by kernel_rfl
@[simp] theorem ft_7_2 : ft Try.prog 7 2 = some (4, 2) := by kernel_rfl
@[simp] theorem fo_7_3 : fo Try.prog 7 3 = some 3 := by kernel_rfl
@[simp] theorem ft_7_3 : ft Try.prog 7 3 = some (6, 3) := by kernel_rfl
@[simp] theorem tk_8 : tk Try.prog 8 = some (true, 4) := by kernel_rfl
@[simp] theorem places_8 : places Try.prog 8 = some [(0, 1), (1, 1), (2, 1), (3, 1)] := by kernel_rfl
@[simp] theorem zvA_8 : zvA Try.prog 8 = some [AV.d (D.v (Value.int IntKind.i64 (0))), AV.d (D.v (Value.int IntKind.i64 (0))), AV.d (D.v (Value.bool false)), AV.d (D.v (Value.int IntKind.u8 (0)))] := by kernel_rfl
@[simp] theorem ar_8 : ar Try.prog 8 = none := by kernel_rfl
@[simp] theorem fo_8_0 : fo Try.prog 8 0 = some 0 := by kernel_rfl
@[simp] theorem ft_8_0 : ft Try.prog 8 0 = some (2, 0) := by kernel_rfl
@[simp] theorem fo_8_1 : fo Try.prog 8 1 = some 1 := by kernel_rfl
@[simp] theorem ft_8_1 : ft Try.prog 8 1 = some (3, 1) := by kernel_rfl
@[simp] theorem fo_8_2 : fo Try.prog 8 2 = some 2 := by kernel_rfl
@[simp] theorem ft_8_2 : ft Try.prog 8 2 = some (4, 2) := by kernel_rfl
@[simp] theorem fo_8_3 : fo Try.prog 8 3 = some 3 := by kernel_rfl
@[simp] theorem ft_8_3 : ft Try.prog 8 3 = some (6, 3) := by kernel_rfl
@[simp] theorem tk_13 : tk Try.prog 13 = some (true, 2) := by kernel_rfl
@[simp] theorem places_13 : places Try.prog 13 = some [(0, 1), (1, 1)] := by kernel_rfl
@[simp] theorem zvA_13 : zvA Try.prog 13 = some [AV.d (D.v (Value.string { data := #[] })), AV.d (D.v (Value.int IntKind.u64 (0)))] := by kernel_rfl
@[simp] theorem ar_13 : ar Try.prog 13 = none := by kernel_rfl
@[simp] theorem fo_13_0 : fo Try.prog 13 0 = some 0 := by kernel_rfl
@[simp] theorem ft_13_0 : ft Try.prog 13 0 = some (9, 0) := by kernel_rfl
@[simp] theorem fo_13_1 : fo Try.prog 13 1 = some 1 := by kernel_rfl
@[simp] theorem ft_13_1 : ft Try.prog 13 1 = some (12, 1) := by kernel_rfl
@[simp] theorem tk_14 : tk Try.prog 14 = some (true, 2) := by kernel_rfl
@[simp] theorem places_14 : places Try.prog 14 = some [(0, 1), (1, 1)] := by kernel_rfl
@[simp] theorem zvA_14 : zvA Try.prog 14 = some [AV.d (D.v (Value.string { data := #[] })), AV.d (D.v (Value.int IntKind.u64 (0)))] := by kernel_rfl
@[simp] theorem ar_14 : ar Try.prog 14 = none := by kernel_rfl
@[simp] theorem fo_14_0 : fo Try.prog 14 0 = some 0 := by kernel_rfl
@[simp] theorem ft_14_0 : ft Try.prog 14 0 = some (9, 0) := by kernel_rfl
@[simp] theorem fo_14_1 : fo Try.prog 14 1 = some 1 := by kernel_rfl
@[simp] theorem ft_14_1 : ft Try.prog 14 1 = some (12, 1) := by kernel_rfl
@[simp] theorem tk_18 : tk Try.prog 18 = some (true, 1) := by kernel_rfl
@[simp] theorem places_18 : places Try.prog 18 = some [(0, 1)] := by kernel_rfl
@[simp] theorem zvA_18 : zvA Try.prog 18 = some [AV.d (D.v (Value.pointer none))] := by kernel_rfl
@[simp] theorem ar_18 : ar Try.prog 18 = none := by kernel_rfl
@[simp] theorem fo_18_0 : fo Try.prog 18 0 = some 0 := by kernel_rfl
@[simp] theorem ft_18_0 : ft Try.prog 18 0 = some (17, 0) := by kernel_rfl
@[simp] theorem tk_19 : tk Try.prog 19 = some (true, 1) := by kernel_rfl
@[simp] theorem places_19 : places Try.prog 19 = some [(0, 1)] := by kernel_rfl
@[simp] theorem zvA_19 : zvA Try.prog 19 = some [AV.d (D.v (Value.pointer none))] := by kernel_rfl
@[simp] theorem ar_19 : ar Try.prog 19 = none := by kernel_rfl
@[simp] theorem fo_19_0 : fo Try.prog 19 0 = some 0 := by kernel_rfl
@[simp] theorem ft_19_0 : ft Try.prog 19 0 = some (17, 0) := by kernel_rfl
@[simp] theorem tk_24 : tk Try.prog 24 = some (true, 2) := by kernel_rfl
@[simp] theorem places_24 : places Try.prog 24 = some [(0, 1), (1, 1)] := by kernel_rfl
@[simp] theorem zvA_24 : zvA Try.prog 24 = some [AV.d (D.v (Value.int IntKind.u32 (0))), AV.d (D.v (Value.slice none 0 0))] := by kernel_rfl
@[simp] theorem ar_24 : ar Try.prog 24 = none := by kernel_rfl
@[simp] theorem fo_24_0 : fo Try.prog 24 0 = some 0 := by kernel_rfl
@[simp] theorem ft_24_0 : ft Try.prog 24 0 = some (22, 0) := by kernel_rfl
@[simp] theorem fo_24_1 : fo Try.prog 24 1 = some 1 := by kernel_rfl
@[simp] theorem ft_24_1 : ft Try.prog 24 1 = some (23, 1) := by kernel_rfl
@[simp] theorem tk_25 : tk Try.prog 25 = some (true, 2) := by kernel_rfl
@[simp] theorem places_25 : places Try.prog 25 = some [(0, 1), (1, 1)] := by kernel_rfl
@[simp] theorem zvA_25 : zvA Try.prog 25 = some [AV.d (D.v (Value.int IntKind.u32 (0))), AV.d (D.v (Value.slice none 0 0))] := by kernel_rfl
@[simp] theorem ar_25 : ar Try.prog 25 = none := by kernel_rfl
@[simp] theorem fo_25_0 : fo Try.prog 25 0 = some 0 := by kernel_rfl
@[simp] theorem ft_25_0 : ft Try.prog 25 0 = some (22, 0) := by kernel_rfl
@[simp] theorem fo_25_1 : fo Try.prog 25 1 = some 1 := by kernel_rfl
@[simp] theorem ft_25_1 : ft Try.prog 25 1 = some (23, 1) := by kernel_rfl
@[simp] theorem tk_36 : tk Try.prog 36 = some (true, 4) := by kernel_rfl
@[simp] theorem places_36 : places Try.prog 36 = some [(0, 1), (1, 1), (2, 1), (3, 1)] := by kernel_rfl
@[simp] theorem zvA_36 : zvA Try.prog 36 = some [AV.d (D.v (Value.int IntKind.i64 (0))), AV.d (D.v (Value.slice none 0 0)), AV.d (D.v (Value.slice none 0 0)), AV.d (D.v (Value.int IntKind.i64 (0)))] := by kernel_rfl
@[simp] theorem ar_36 : ar Try.prog 36 = none := by kernel_rfl
@[simp] theorem fo_36_0 : fo Try.prog 36 0 = some 0 := by kernel_rfl
@[simp] theorem ft_36_0 : ft Try.prog 36 0 = some (3, 0) := by kernel_rfl
@[simp] theorem fo_36_1 : fo Try.prog 36 1 = some 1 := by kernel_rfl
@[simp] theorem ft_36_1 : ft Try.prog 36 1 = some (35, 1) := by kernel_rfl
@[simp] theorem fo_36_2 : fo Try.prog 36 2 = some 2 := by kernel_rfl
@[simp] theorem ft_36_2 : ft Try.prog 36 2 = some (35, 2) := by kernel_rfl
@[simp] theorem fo_36_3 : fo Try.prog 36 3 = some 3 := by kernel_rfl
@[simp] theorem ft_36_3 : ft Try.prog 36 3 = some (3, 3) := by kernel_rfl
@[simp] theorem tk_37 : tk Try.prog 37 = some (true, 4) := by kernel_rfl
@[simp] theorem places_37 : places Try.prog 37 = some [(0, 1), (1, 1), (2, 1), (3, 1)] := by kernel_rfl
@[simp] theorem zvA_37 : zvA Try.prog 37 = some [AV.d (D.v (Value.int IntKind.i64 (0))), AV.d (D.v (Value.slice none 0 0)), AV.d (D.v (Value.slice none 0 0)), AV.d (D.v (Value.int IntKind.i64 (0)))] := by kernel_rfl
@[simp] theorem ar_37 : ar Try.prog 37 = none := by kernel_rfl
@[simp] theorem fo_37_0 : fo Try.prog 37 0 = some 0 := by kernel_rfl
@[simp] theorem ft_37_0 : ft Try.prog 37 0 = some (3, 0) := by kernel_rfl
@[simp] theorem fo_37_1 : fo Try.prog 37 1 = some 1 := by kernel_rfl
@[simp] theorem ft_37_1 : ft Try.prog 37 1 = some (35, 1) := by kernel_rfl
@[simp] theorem fo_37_2 : fo Try.prog 37 2 = some 2 := by kernel_rfl
@[simp] theorem ft_37_2 : ft Try.prog 37 2 = some (35, 2) := by kernel_rfl
@[simp] theorem fo_37_3 : fo Try.prog 37 3 = some 3 := by kernel_rfl
@[simp] theorem ft_37_3 : ft Try.prog 37 3 = some (3, 3) := by kernel_rfl
@[simp] theorem tk_38 : tk Try.prog 38 = some (true, 4) := by kernel_rfl
@[simp] theorem places_38 : places Try.prog 38 = some [(0, 1), (1, 1), (2, 1), (3, 1)] := by kernel_rfl
@[simp] theorem zvA_38 : zvA Try.prog 38 = some [AV.d (D.v (Value.int IntKind.i64 (0))), AV.d (D.v (Value.slice none 0 0)), AV.d (D.v (Value.slice none 0 0)), AV.d (D.v (Value.int IntKind.i64 (0)))] := by kernel_rfl
@[simp] theorem ar_38 : ar Try.prog 38 = none := by kernel_rfl
@[simp] theorem fo_38_0 : fo Try.prog 38 0 = some 0 := by kernel_rfl
@[simp] theorem ft_38_0 : ft Try.prog 38 0 = some (3, 0) := by kernel_rfl
@[simp] theorem fo_38_1 : fo Try.prog 38 1 = some 1 := by kernel_rfl
@[simp] theorem ft_38_1 : ft Try.prog 38 1 = some (35, 1) := by kernel_rfl
@[simp] theorem fo_38_2 : fo Try.prog 38 2 = some 2 := by kernel_rfl
@[simp] theorem ft_38_2 : ft Try.prog 38 2 = some (35, 2) := by kernel_rfl
@[simp] theorem fo_38_3 : fo Try.prog 38 3 = some 3 := by kernel_rfl
@[simp] theorem ft_38_3 : ft Try.prog 38 3 = some (3, 3) := by kernel_rfl
@[simp] theorem tk_52 : tk Try.prog 52 = some (true, 2) := by kernel_rfl
@[simp] theorem places_52 : places Try.prog 52 = some [(0, 1), (1, 1)] := by kernel_rfl
@[simp] theorem zvA_52 : zvA Try.prog 52 = some [AV.d (D.v (Value.int IntKind.u32 (0))), AV.d (D.v (Value.slice none 0 0))] := by kernel_rfl
@[simp] theorem ar_52 : ar Try.prog 52 = none := by kernel_rfl
@[simp] theorem fo_52_0 : fo Try.prog 52 0 = some 0 := by kernel_rfl
@[simp] theorem ft_52_0 : ft Try.prog 52 0 = some (22, 0) := by kernel_rfl
@[simp] theorem fo_52_1 : fo Try.prog 52 1 = some 1 := by kernel_rfl
@[simp] theorem ft_52_1 : ft Try.prog 52 1 = some (51, 1) := by kernel_rfl
@[simp] theorem tk_53 : tk Try.prog 53 = some (true, 2) := by kernel_rfl
@[simp] theorem places_53 : places Try.prog 53 = some [(0, 1), (1, 1)] := by kernel_rfl
@[simp] theorem zvA_53 : zvA Try.prog 53 = some [AV.d (D.v (Value.int IntKind.u32 (0))), AV.d (D.v (Value.slice none 0 0))] := by kernel_rfl
@[simp] theorem ar_53 : ar Try.prog 53 = none := by kernel_rfl
@[simp] theorem fo_53_0 : fo Try.prog 53 0 = some 0 := by kernel_rfl
@[simp] theorem ft_53_0 : ft Try.prog 53 0 = some (22, 0) := by kernel_rfl
@[simp] theorem fo_53_1 : fo Try.prog 53 1 = some 1 := by kernel_rfl
@[simp] theorem ft_53_1 : ft Try.prog 53 1 = some (51, 1) := by kernel_rfl
@[simp] theorem tk_72 : tk Try.prog 72 = some (true, 8) := by kernel_rfl
@[simp] theorem places_72 : places Try.prog 72 = some [(0, 1), (1, 1), (2, 1), (3, 1), (4, 1), (5, 1), (6, 1), (7, 1)] := by kernel_rfl
@[simp] theorem zvA_72 : zvA Try.prog 72 = some [AV.d (D.v (Value.int IntKind.i64 (0))), AV.d (D.v (Value.int IntKind.i64 (0))), AV.d (D.v (Value.int IntKind.i64 (0))), AV.d (D.v (Value.int IntKind.i64 (0))), AV.d (D.v (Value.int IntKind.i64 (0))), AV.d (D.v (Value.int IntKind.u32 (0))), AV.d (D.v (Value.slice none 0 0)), AV.d (D.v (Value.slice none 0 0))] := by kernel_rfl
@[simp] theorem ar_72 : ar Try.prog 72 = none := by kernel_rfl
@[simp] theorem fo_72_0 : fo Try.prog 72 0 = some 0 := by kernel_rfl
@[simp] theorem ft_72_0 : ft Try.prog 72 0 = some (3, 0) := by kernel_rfl
@[simp] theorem fo_72_1 : fo Try.prog 72 1 = some 1 := by kernel_rfl
@[simp] theorem ft_72_1 : ft Try.prog 72 1 = some (3, 1) := by kernel_rfl
@[simp] theorem fo_72_2 : fo Try.prog 72 2 = some 2 := by kernel_rfl
@[simp] theorem ft_72_2 : ft Try.prog 72 2 = some (3, 2) := by kernel_rfl
@[simp] theorem fo_72_3 : fo Try.prog 72 3 = some 3 := by kernel_rfl
@[simp] theorem ft_72_3 : ft Try.prog 72 3 = some (3, 3) := by kernel_rfl
@[simp] theorem fo_72_4 : fo Try.prog 72 4 = some 4 := by kernel_rfl
@[simp] theorem ft_72_4 : ft Try.prog 72 4 = some (3, 4) := by kernel_rfl
@[simp] theorem fo_72_5 : fo Try.prog 72 5 = some 5 := by kernel_rfl
@[simp] theorem ft_72_5 : ft Try.prog 72 5 = some (22, 5) := by kernel_rfl
@[simp] theorem fo_72_6 : fo Try.prog 72 6 = some 6 := by kernel_rfl
@[simp] theorem ft_72_6 : ft Try.prog 72 6 = some (71, 6) := by kernel_rfl
@[simp] theorem fo_72_7 : fo Try.prog 72 7 = some 7 := by kernel_rfl
@[simp] theorem ft_72_7 : ft Try.prog 72 7 = some (35, 7) := by kernel_rfl
@[simp] theorem tk_73 : tk Try.prog 73 = some (true, 8) := by kernel_rfl
@[simp] theorem places_73 : places Try.prog 73 = some [(0, 1), (1, 1), (2, 1), (3, 1), (4, 1), (5, 1), (6, 1), (7, 1)] := by kernel_rfl
@[simp] theorem zvA_73 : zvA Try.prog 73 = some [AV.d (D.v (Value.int IntKind.i64 (0))), AV.d (D.v (Value.int IntKind.i64 (0))), AV.d (D.v (Value.int IntKind.i64 (0))), AV.d (D.v (Value.int IntKind.i64 (0))), AV.d (D.v (Value.int IntKind.i64 (0))), AV.d (D.v (Value.int IntKind.u32 (0))), AV.d (D.v (Value.slice none 0 0)), AV.d (D.v (Value.slice none 0 0))] := by kernel_rfl
@[simp] theorem ar_73 : ar Try.prog 73 = none := by kernel_rfl
@[simp] theorem fo_73_0 : fo Try.prog 73 0 = some 0 := by kernel_rfl
@[simp] theorem ft_73_0 : ft Try.prog 73 0 = some (3, 0) := by kernel_rfl
@[simp] theorem fo_73_1 : fo Try.prog 73 1 = some 1 := by kernel_rfl
@[simp] theorem ft_73_1 : ft Try.prog 73 1 = some (3, 1) := by kernel_rfl
@[simp] theorem fo_73_2 : fo Try.prog 73 2 = some 2 := by kernel_rfl
@[simp] theorem ft_73_2 : ft Try.prog 73 2 = some (3, 2) := by kernel_rfl
@[simp] theorem fo_73_3 : fo Try.prog 73 3 = some 3 := by kernel_rfl
@[simp] theorem ft_73_3 : ft Try.prog 73 3 = some (3, 3) := by kernel_rfl
@[simp] theorem fo_73_4 : fo Try.prog 73 4 = some 4 := by kernel_rfl
@[simp] theorem ft_73_4 : ft Try.prog 73 4 = some (3, 4) := by kernel_rfl
@[simp] theorem fo_73_5 : fo Try.prog 73 5 = some 5 := by kernel_rfl
@[simp] theorem ft_73_5 : ft Try.prog 73 5 = some (22, 5) := by kernel_rfl
@[simp] theorem fo_73_6 : fo Try.prog 73 6 = some 6 := by kernel_rfl
@[simp] theorem ft_73_6 : ft Try.prog 73 6 = some (71, 6) := by kernel_rfl
@[simp] theorem fo_73_7 : fo Try.prog 73 7 = some 7 := by kernel_rfl
@[simp] theorem ft_73_7 : ft Try.prog 73 7 = some (35, 7) := by kernel_rfl
@[simp] theorem tk_75 : tk Try.prog 75 = some (true, 5) := by kernel_rfl
@[simp] theorem places_75 : places Try.prog 75 = some [(0, 1), (1, 1), (2, 1), (3, 1), (4, 1)] := by kernel_rfl
@[simp] theorem zvA_75 : zvA Try.prog 75 = some [AV.d (D.v (Value.int IntKind.i64 (0))), AV.d (D.v (Value.int IntKind.u32 (0))), AV.d (D.v (Value.int IntKind.i64 (0))), AV.d (D.v (Value.int IntKind.i64 (0))), AV.d (D.v (Value.slice none 0 0))] := by kernel_rfl
@[simp] theorem ar_75 : ar Try.prog 75 = none := by kernel_rfl
@[simp] theorem fo_75_0 : fo Try.prog 75 0 = some 0 := by kernel_rfl
@[simp] theorem ft_75_0 : ft Try.prog 75 0 = some (3, 0) := by kernel_rfl
@[simp] theorem fo_75_1 : fo Try.prog 75 1 = some 1 := by kernel_rfl
@[simp] theorem ft_75_1 : ft Try.prog 75 1 = some (22, 1) := by kernel_rfl
@[simp] theorem fo_75_2 : fo Try.prog 75 2 = some 2 := by kernel_rfl
@[simp] theorem ft_75_2 : ft Try.prog 75 2 = some (3, 2) := by kernel_rfl
@[simp] theorem fo_75_3 : fo Try.prog 75 3 = some 3 := by kernel_rfl
@[simp] theorem ft_75_3 : ft Try.prog 75 3 = some (3, 3) := by kernel_rfl
@[simp] theorem fo_75_4 : fo Try.prog 75 4 = some 4 := by kernel_rfl
@[simp] theorem ft_75_4 : ft Try.prog 75 4 = some (71, 4) := by kernel_rfl
@[simp] theorem tk_76 : tk Try.prog 76 = some (true, 5) := by kernel_rfl
@[simp] theorem places_76 : places Try.prog 76 = some [(0, 1), (1, 1), (2, 1), (3, 1), (4, 1)] := by kernel_rfl
@[simp] theorem zvA_76 : zvA Try.prog 76 = some [AV.d (D.v (Value.int IntKind.i64 (0))), AV.d (D.v (Value.int IntKind.u32 (0))), AV.d (D.v (Value.int IntKind.i64 (0))), AV.d (D.v (Value.int IntKind.i64 (0))), AV.d (D.v (Value.slice none 0 0))] := by kernel_rfl
@[simp] theorem ar_76 : ar Try.prog 76 = none := by kernel_rfl
@[simp] theorem fo_76_0 : fo Try.prog 76 0 = some 0 := by kernel_rfl
@[simp] theorem ft_76_0 : ft Try.prog 76 0 = some (3, 0) := by kernel_rfl
@[simp] theorem fo_76_1 : fo Try.prog 76 1 = some 1 := by kernel_rfl
@[simp] theorem ft_76_1 : ft Try.prog 76 1 = some (22, 1) := by kernel_rfl
@[simp] theorem fo_76_2 : fo Try.prog 76 2 = some 2 := by kernel_rfl
@[simp] theorem ft_76_2 : ft Try.prog 76 2 = some (3, 2) := by kernel_rfl
@[simp] theorem fo_76_3 : fo Try.prog 76 3 = some 3 := by kernel_rfl
@[simp] theorem ft_76_3 : ft Try.prog 76 3 = some (3, 3) := by kernel_rfl
@[simp] theorem fo_76_4 : fo Try.prog 76 4 = some 4 := by kernel_rfl
@[simp] theorem ft_76_4 : ft Try.prog 76 4 = some (71, 4) := by kernel_rfl
@[simp] theorem tk_89 : tk Try.prog 89 = some (true, 2) := by kernel_rfl
@[simp] theorem places_89 : places Try.prog 89 = some [(0, 1), (1, 1)] := by kernel_rfl
@[simp] theorem zvA_89 : zvA Try.prog 89 = some [AV.d (D.v (Value.slice none 0 0)), AV.d (D.v (Value.slice none 0 0))] := by kernel_rfl
@[simp] theorem ar_89 : ar Try.prog 89 = none := by kernel_rfl
@[simp] theorem fo_89_0 : fo Try.prog 89 0 = some 0 := by kernel_rfl
@[simp] theorem ft_89_0 : ft Try.prog 89 0 = some (35, 0) := by kernel_rfl
@[simp] theorem fo_89_1 : fo Try.prog 89 1 = some 1 := by kernel_rfl
@[simp] theorem ft_89_1 : ft Try.prog 89 1 = some (35, 1) := by kernel_rfl
@[simp] theorem tk_90 : tk Try.prog 90 = some (true, 2) := by kernel_rfl
@[simp] theorem places_90 : places Try.prog 90 = some [(0, 1), (1, 1)] := by kernel_rfl
@[simp] theorem zvA_90 : zvA Try.prog 90 = some [AV.d (D.v (Value.slice none 0 0)), AV.d (D.v (Value.slice none 0 0))] := by kernel_rfl
@[simp] theorem ar_90 : ar Try.prog 90 = none := by kernel_rfl
@[simp] theorem fo_90_0 : fo Try.prog 90 0 = some 0 := by kernel_rfl
@[simp] theorem ft_90_0 : ft Try.prog 90 0 = some (35, 0) := by kernel_rfl
@[simp] theorem fo_90_1 : fo Try.prog 90 1 = some 1 := by kernel_rfl
@[simp] theorem ft_90_1 : ft Try.prog 90 1 = some (35, 1) := by kernel_rfl
@[simp] theorem tk_122 : tk Try.prog 122 = some (true, 4) := by kernel_rfl
@[simp] theorem places_122 : places Try.prog 122 = some [(0, 1), (1, 1), (2, 1), (3, 1)] := by kernel_rfl
@[simp] theorem zvA_122 : zvA Try.prog 122 = some [AV.d (D.v (Value.pointer none)), AV.d (D.v (Value.pointer none)), AV.d (D.v (Value.pointer none)), AV.d (D.v (Value.string { data := #[] }))] := by kernel_rfl
@[simp] theorem ar_122 : ar Try.prog 122 = none := by kernel_rfl
@[simp] theorem fo_122_0 : fo Try.prog 122 0 = some 0 := by kernel_rfl
@[simp] theorem ft_122_0 : ft Try.prog 122 0 = some (17, 0) := by kernel_rfl
@[simp] theorem fo_122_1 : fo Try.prog 122 1 = some 1 := by kernel_rfl
@[simp] theorem ft_122_1 : ft Try.prog 122 1 = some (17, 1) := by kernel_rfl
@[simp] theorem fo_122_2 : fo Try.prog 122 2 = some 2 := by kernel_rfl
@[simp] theorem ft_122_2 : ft Try.prog 122 2 = some (17, 2) := by kernel_rfl
@[simp] theorem fo_122_3 : fo Try.prog 122 3 = some 3 := by kernel_rfl
@[simp] theorem ft_122_3 : ft Try.prog 122 3 = some (9, 3) := by kernel_rfl
@[simp] theorem tk_123 : tk Try.prog 123 = some (true, 4) := by kernel_rfl
@[simp] theorem places_123 : places Try.prog 123 = some [(0, 1), (1, 1), (2, 1), (3, 1)] := by kernel_rfl
@[simp] theorem zvA_123 : zvA Try.prog 123 = some [AV.d (D.v (Value.pointer none)), AV.d (D.v (Value.pointer none)), AV.d (D.v (Value.pointer none)), AV.d (D.v (Value.string { data := #[] }))] := by kernel_rfl
@[simp] theorem ar_123 : ar Try.prog 123 = none := by kernel_rfl
@[simp] theorem fo_123_0 : fo Try.prog 123 0 = some 0 := by kernel_rfl
@[simp] theorem ft_123_0 : ft Try.prog 123 0 = some (17, 0) := by kernel_rfl
@[simp] theorem fo_123_1 : fo Try.prog 123 1 = some 1 := by kernel_rfl
@[simp] theorem ft_123_1 : ft Try.prog 123 1 = some (17, 1) := by kernel_rfl
@[simp] theorem fo_123_2 : fo Try.prog 123 2 = some 2 := by kernel_rfl
@[simp] theorem ft_123_2 : ft Try.prog 123 2 = some (17, 2) := by kernel_rfl
@[simp] theorem fo_123_3 : fo Try.prog 123 3 = some 3 := by kernel_rfl
@[simp] theorem ft_123_3 : ft Try.prog 123 3 = some (9, 3) := by kernel_rfl
@[simp] theorem tk_125 : tk Try.prog 125 = some (true, 0) := by kernel_rfl
@[simp] theorem places_125 : places Try.prog 125 = some [(0, 0)] := by kernel_rfl
@[simp] theorem zvA_125 : zvA Try.prog 125 = some [] := by kernel_rfl
@[simp] theorem ar_125 : ar Try.prog 125 = none := by kernel_rfl
@[simp] theorem ft_125_0 : ft Try.prog 125 0 = some (124, 0) := by kernel_rfl
@[simp] theorem tk_126 : tk Try.prog 126 = some (true, 0) := by kernel_rfl
@[simp] theorem places_126 : places Try.prog 126 = some [(0, 0)] := by kernel_rfl
@[simp] theorem zvA_126 : zvA Try.prog 126 = some [] := by kernel_rfl
@[simp] theorem ar_126 : ar Try.prog 126 = none := by kernel_rfl
@[simp] theorem ft_126_0 : ft Try.prog 126 0 = some (124, 0) := by kernel_rfl
@[simp] theorem tk_134 : tk Try.prog 134 = some (true, 11) := by kernel_rfl
@[simp] theorem places_134 : places Try.prog 134 = some [(0, 1), (1, 1), (2, 1), (3, 1), (4, 1), (5, 1), (6, 1), (7, 1), (8, 1), (9, 1), (10, 1)] := by kernel_rfl
@[simp] theorem zvA_134 : zvA Try.prog 134 = some [AV.d (D.v (Value.int IntKind.u64 (0))), AV.d (D.v (Value.int IntKind.u64 (0))), AV.d (D.v (Value.int IntKind.u32 (0))), AV.d (D.v (Value.int IntKind.u8 (0))), AV.d (D.v (Value.int IntKind.u8 (0))), AV.d (D.v (Value.int IntKind.u8 (0))), AV.d (D.v (Value.int IntKind.u8 (0))), AV.d (D.v Value.nilFunc), AV.d (D.v (Value.pointer none)), AV.d (D.v (Value.int IntKind.i32 (0))), AV.d (D.v (Value.int IntKind.i32 (0)))] := by kernel_rfl
@[simp] theorem ar_134 : ar Try.prog 134 = none := by kernel_rfl
@[simp] theorem fo_134_0 : fo Try.prog 134 0 = some 0 := by kernel_rfl
@[simp] theorem ft_134_0 : ft Try.prog 134 0 = some (12, 0) := by kernel_rfl
@[simp] theorem fo_134_1 : fo Try.prog 134 1 = some 1 := by kernel_rfl
@[simp] theorem ft_134_1 : ft Try.prog 134 1 = some (12, 1) := by kernel_rfl
@[simp] theorem fo_134_2 : fo Try.prog 134 2 = some 2 := by kernel_rfl
@[simp] theorem ft_134_2 : ft Try.prog 134 2 = some (22, 2) := by kernel_rfl
@[simp] theorem fo_134_3 : fo Try.prog 134 3 = some 3 := by kernel_rfl
@[simp] theorem ft_134_3 : ft Try.prog 134 3 = some (128, 3) := by kernel_rfl
@[simp] theorem fo_134_4 : fo Try.prog 134 4 = some 4 := by kernel_rfl
@[simp] theorem ft_134_4 : ft Try.prog 134 4 = some (5, 4) := by kernel_rfl
@[simp] theorem fo_134_5 : fo Try.prog 134 5 = some 5 := by kernel_rfl
@[simp] theorem ft_134_5 : ft Try.prog 134 5 = some (5, 5) := by kernel_rfl
@[simp] theorem fo_134_6 : fo Try.prog 134 6 = some 6 := by kernel_rfl
@[simp] theorem ft_134_6 : ft Try.prog 134 6 = some (129, 6) := by kernel_rfl
@[simp] theorem fo_134_7 : fo Try.prog 134 7 = some 7 := by kernel_rfl
@[simp] theorem ft_134_7 : ft Try.prog 134 7 = some (130, 7) := by kernel_rfl
@[simp] theorem fo_134_8 : fo Try.prog 134 8 = some 8 := by kernel_rfl
@[simp] theorem ft_134_8 : ft Try.prog 134 8 = some (131, 8) := by kernel_rfl
@[simp] theorem fo_134_9 : fo Try.prog 134 9 = some 9 := by kernel_rfl
@[simp] theorem ft_134_9 : ft Try.prog 134 9 = some (132, 9) := by kernel_rfl
@[simp] theorem fo_134_10 : fo Try.prog 134 10 = some 10 := by kernel_rfl
@[simp] theorem ft_134_10 : ft Try.prog 134 10 = some (133, 10) := by kernel_rfl
@[simp] theorem tk_135 : tk Try.prog 135 = some (true, 11) := by kernel_rfl
@[simp] theorem places_135 : places Try.prog 135 = some [(0, 1), (1, 1), (2, 1), (3, 1), (4, 1), (5, 1), (6, 1), (7, 1), (8, 1), (9, 1), (10, 1)] := by kernel_rfl
@[simp] theorem zvA_135 : zvA Try.prog 135 = some [AV.d (D.v (Value.int IntKind.u64 (0))), AV.d (D.v (Value.int IntKind.u64 (0))), AV.d (D.v (Value.int IntKind.u32 (0))), AV.d (D.v (Value.int IntKind.u8 (0))), AV.d (D.v (Value.int IntKind.u8 (0))), AV.d (D.v (Value.int IntKind.u8 (0))), AV.d (D.v (Value.int IntKind.u8 (0))), AV.d (D.v Value.nilFunc), AV.d (D.v (Value.pointer none)), AV.d (D.v (Value.int IntKind.i32 (0))), AV.d (D.v (Value.int IntKind.i32 (0)))] := by kernel_rfl
@[simp] theorem ar_135 : ar Try.prog 135 = none := by kernel_rfl
@[simp] theorem fo_135_0 : fo Try.prog 135 0 = some 0 := by kernel_rfl
@[simp] theorem ft_135_0 : ft Try.prog 135 0 = some (12, 0) := by kernel_rfl
@[simp] theorem fo_135_1 : fo Try.prog 135 1 = some 1 := by kernel_rfl
@[simp] theorem ft_135_1 : ft Try.prog 135 1 = some (12, 1) := by kernel_rfl
@[simp] theorem fo_135_2 : fo Try.prog 135 2 = some 2 := by kernel_rfl
@[simp] theorem ft_135_2 : ft Try.prog 135 2 = some (22, 2) := by kernel_rfl
@[simp] theorem fo_135_3 : fo Try.prog 135 3 = some 3 := by kernel_rfl
@[simp] theorem ft_135_3 : ft Try.prog 135 3 = some (128, 3) := by kernel_rfl
@[simp] theorem fo_135_4 : fo Try.prog 135 4 = some 4 := by kernel_rfl
@[simp] theorem ft_135_4 : ft Try.prog 135 4 = some (5, 4) := by kernel_rfl
@[simp] theorem fo_135_5 : fo Try.prog 135 5 = some 5 := by kernel_rfl
@[simp] theorem ft_135_5 : ft Try.prog 135 5 = some (5, 5) := by kernel_rfl
@[simp] theorem fo_135_6 : fo Try.prog 135 6 = some 6 := by kernel_rfl
@[simp] theorem ft_135_6 : ft Try.prog 135 6 = some (129, 6) := by kernel_rfl
@[simp] theorem fo_135_7 : fo Try.prog 135 7 = some 7 := by kernel_rfl
@[simp] theorem ft_135_7 : ft Try.prog 135 7 = some (130, 7) := by kernel_rfl
@[simp] theorem fo_135_8 : fo Try.prog 135 8 = some 8 := by kernel_rfl
@[simp] theorem ft_135_8 : ft Try.prog 135 8 = some (131, 8) := by kernel_rfl
@[simp] theorem fo_135_9 : fo Try.prog 135 9 = some 9 := by kernel_rfl
@[simp] theorem ft_135_9 : ft Try.prog 135 9 = some (132, 9) := by kernel_rfl
@[simp] theorem fo_135_10 : fo Try.prog 135 10 = some 10 := by kernel_rfl
@[simp] theorem ft_135_10 : ft Try.prog 135 10 = some (133, 10) := by kernel_rfl
@[simp] theorem tk_30 : tk Try.prog 30 = some (true, 2) := by kernel_rfl
@[simp] theorem places_30 : places Try.prog 30 = none := by kernel_rfl
@[simp] theorem zvA_30 : zvA Try.prog 30 = some [AV.d (D.v (Value.int IntKind.i64 (0))), AV.d (D.v (Value.int IntKind.i64 (0)))] := by kernel_rfl
@[simp] theorem ar_30 : ar Try.prog 30 = some (2, 3, 1) := by kernel_rfl
@[simp] theorem tk_124 : tk Try.prog 124 = some (true, 0) := by kernel_rfl
@[simp] theorem places_124 : places Try.prog 124 = none := by kernel_rfl
@[simp] theorem zvA_124 : zvA Try.prog 124 = some [] := by kernel_rfl
@[simp] theorem ar_124 : ar Try.prog 124 = some (0, 16, 1) := by kernel_rfl
@[simp] theorem tk_23 : tk Try.prog 23 = some (false, 1) := by kernel_rfl
@[simp] theorem sl_23 : sl Try.prog 23 = some (53, 2) := by kernel_rfl
@[simp] theorem zvA_23 : zvA Try.prog 23 = some [AV.d (D.v (Value.slice none 0 0))] := by kernel_rfl
@[simp] theorem byt_23 : byt Try.prog 23 = some (53, 2, 32) := by kernel_rfl
@[simp] theorem tk_28 : tk Try.prog 28 = some (false, 1) := by kernel_rfl
@[simp] theorem sl_28 : sl Try.prog 28 = some (30, 2) := by kernel_rfl
@[simp] theorem zvA_28 : zvA Try.prog 28 = some [AV.d (D.v (Value.slice none 0 0))] := by kernel_rfl
@[simp] theorem byt_28 : byt Try.prog 28 = some (30, 2, 16) := by kernel_rfl
@[simp] theorem tk_31 : tk Try.prog 31 = some (false, 1) := by kernel_rfl
@[simp] theorem sl_31 : sl Try.prog 31 = some (37, 4) := by kernel_rfl
@[simp] theorem zvA_31 : zvA Try.prog 31 = some [AV.d (D.v (Value.slice none 0 0))] := by kernel_rfl
@[simp] theorem byt_31 : byt Try.prog 31 = some (37, 4, 64) := by kernel_rfl
@[simp] theorem tk_33 : tk Try.prog 33 = some (false, 1) := by kernel_rfl
@[simp] theorem sl_33 : sl Try.prog 33 = some (38, 4) := by kernel_rfl
@[simp] theorem zvA_33 : zvA Try.prog 33 = some [AV.d (D.v (Value.slice none 0 0))] := by kernel_rfl
@[simp] theorem byt_33 : byt Try.prog 33 = some (38, 4, 64) := by kernel_rfl
@[simp] theorem tk_35 : tk Try.prog 35 = some (false, 1) := by kernel_rfl
@[simp] theorem sl_35 : sl Try.prog 35 = some (3, 1) := by kernel_rfl
@[simp] theorem zvA_35 : zvA Try.prog 35 = some [AV.d (D.v (Value.slice none 0 0))] := by kernel_rfl
@[simp] theorem byt_35 : byt Try.prog 35 = some (3, 1, 8) := by kernel_rfl
@[simp] theorem tk_44 : tk Try.prog 44 = some (false, 1) := by kernel_rfl
@[simp] theorem sl_44 : sl Try.prog 44 = some (35, 1) := by kernel_rfl
@[simp] theorem zvA_44 : zvA Try.prog 44 = some [AV.d (D.v (Value.slice none 0 0))] := by kernel_rfl
@[simp] theorem byt_44 : byt Try.prog 44 = some (35, 1, 24) := by kernel_rfl
@[simp] theorem tk_46 : tk Try.prog 46 = some (false, 1) := by kernel_rfl
@[simp] theorem sl_46 : sl Try.prog 46 = some (4, 1) := by kernel_rfl
@[simp] theorem zvA_46 : zvA Try.prog 46 = some [AV.d (D.v (Value.slice none 0 0))] := by kernel_rfl
@[simp] theorem byt_46 : byt Try.prog 46 = some (4, 1, 1) := by kernel_rfl
@[simp] theorem tk_51 : tk Try.prog 51 = some (false, 1) := by kernel_rfl
@[simp] theorem sl_51 : sl Try.prog 51 = some (73, 8) := by kernel_rfl
@[simp] theorem zvA_51 : zvA Try.prog 51 = some [AV.d (D.v (Value.slice none 0 0))] := by kernel_rfl
@[simp] theorem byt_51 : byt Try.prog 51 = some (73, 8, 96) := by kernel_rfl
@[simp] theorem tk_71 : tk Try.prog 71 = some (false, 1) := by kernel_rfl
@[simp] theorem sl_71 : sl Try.prog 71 = some (76, 5) := by kernel_rfl
@[simp] theorem zvA_71 : zvA Try.prog 71 = some [AV.d (D.v (Value.slice none 0 0))] := by kernel_rfl
@[simp] theorem byt_71 : byt Try.prog 71 = some (76, 5, 56) := by kernel_rfl
@[simp] theorem tk_2 : tk Try.prog 2 = some (false, 1) := by kernel_rfl
@[simp] theorem isInt_2 : isInt Try.prog 2 = some IntKind.i64 := by kernel_rfl
@[simp] theorem isStr_2 : isStr Try.prog 2 = false := by kernel_rfl
@[simp] theorem zvA_2 : zvA Try.prog 2 = some [AV.d (D.v (Value.int IntKind.i64 (0)))] := by kernel_rfl
@[simp] theorem tk_3 : tk Try.prog 3 = some (false, 1) := by kernel_rfl
@[simp] theorem isInt_3 : isInt Try.prog 3 = some IntKind.i64 := by kernel_rfl
@[simp] theorem isStr_3 : isStr Try.prog 3 = false := by kernel_rfl
@[simp] theorem zvA_3 : zvA Try.prog 3 = some [AV.d (D.v (Value.int IntKind.i64 (0)))] := by kernel_rfl
@[simp] theorem tk_4 : tk Try.prog 4 = some (false, 1) := by kernel_rfl
@[simp] theorem isInt_4 : isInt Try.prog 4 = none := by kernel_rfl
@[simp] theorem isStr_4 : isStr Try.prog 4 = false := by kernel_rfl
@[simp] theorem zvA_4 : zvA Try.prog 4 = some [AV.d (D.v (Value.bool false))] := by kernel_rfl
@[simp] theorem tk_5 : tk Try.prog 5 = some (false, 1) := by kernel_rfl
@[simp] theorem isInt_5 : isInt Try.prog 5 = some IntKind.u8 := by kernel_rfl
@[simp] theorem isStr_5 : isStr Try.prog 5 = false := by kernel_rfl
@[simp] theorem zvA_5 : zvA Try.prog 5 = some [AV.d (D.v (Value.int IntKind.u8 (0)))] := by kernel_rfl
@[simp] theorem tk_6 : tk Try.prog 6 = some (false, 1) := by kernel_rfl
@[simp] theorem isInt_6 : isInt Try.prog 6 = some IntKind.u8 := by kernel_rfl
@[simp] theorem isStr_6 : isStr Try.prog 6 = false := by kernel_rfl
@[simp] theorem zvA_6 : zvA Try.prog 6 = some [AV.d (D.v (Value.int IntKind.u8 (0)))] := by kernel_rfl
@[simp] theorem tk_9 : tk Try.prog 9 = some (false, 1) := by kernel_rfl
@[simp] theorem isInt_9 : isInt Try.prog 9 = none := by kernel_rfl
@[simp] theorem isStr_9 : isStr Try.prog 9 = true := by kernel_rfl
@[simp] theorem zvA_9 : zvA Try.prog 9 = some [AV.d (D.v (Value.string { data := #[] }))] := by kernel_rfl
@[simp] theorem tk_10 : tk Try.prog 10 = some (false, 1) := by kernel_rfl
@[simp] theorem isInt_10 : isInt Try.prog 10 = none := by kernel_rfl
@[simp] theorem isStr_10 : isStr Try.prog 10 = true := by kernel_rfl
@[simp] theorem zvA_10 : zvA Try.prog 10 = some [AV.d (D.v (Value.string { data := #[] }))] := by kernel_rfl
@[simp] theorem tk_11 : tk Try.prog 11 = some (false, 1) := by kernel_rfl
@[simp] theorem isInt_11 : isInt Try.prog 11 = none := by kernel_rfl
@[simp] theorem isStr_11 : isStr Try.prog 11 = true := by kernel_rfl
@[simp] theorem zvA_11 : zvA Try.prog 11 = some [AV.d (D.v (Value.string { data := #[] }))] := by kernel_rfl
@[simp] theorem tk_12 : tk Try.prog 12 = some (false, 1) := by kernel_rfl
@[simp] theorem isInt_12 : isInt Try.prog 12 = some IntKind.u64 := by kernel_rfl
@[simp] theorem isStr_12 : isStr Try.prog 12 = false := by kernel_rfl
@[simp] theorem zvA_12 : zvA Try.prog 12 = some [AV.d (D.v (Value.int IntKind.u64 (0)))] := by kernel_rfl
@[simp] theorem tk_21 : tk Try.prog 21 = some (false, 1) := by kernel_rfl
@[simp] theorem isInt_21 : isInt Try.prog 21 = some IntKind.i32 := by kernel_rfl
@[simp] theorem isStr_21 : isStr Try.prog 21 = false := by kernel_rfl
@[simp] theorem zvA_21 : zvA Try.prog 21 = some [AV.d (D.v (Value.int IntKind.i32 (0)))] := by kernel_rfl
@[simp] theorem tk_22 : tk Try.prog 22 = some (false, 1) := by kernel_rfl
@[simp] theorem isInt_22 : isInt Try.prog 22 = some IntKind.u32 := by kernel_rfl
@[simp] theorem isStr_22 : isStr Try.prog 22 = false := by kernel_rfl
@[simp] theorem zvA_22 : zvA Try.prog 22 = some [AV.d (D.v (Value.int IntKind.u32 (0)))] := by kernel_rfl
@[simp] theorem tk_98 : tk Try.prog 98 = some (false, 1) := by kernel_rfl
@[simp] theorem isInt_98 : isInt Try.prog 98 = some IntKind.u64 := by kernel_rfl
@[simp] theorem isStr_98 : isStr Try.prog 98 = false := by kernel_rfl
@[simp] theorem zvA_98 : zvA Try.prog 98 = some [AV.d (D.v (Value.int IntKind.u64 (0)))] := by kernel_rfl
@[simp] theorem tk_102 : tk Try.prog 102 = some (false, 1) := by kernel_rfl
@[simp] theorem isInt_102 : isInt Try.prog 102 = some IntKind.i64 := by kernel_rfl
@[simp] theorem isStr_102 : isStr Try.prog 102 = false := by kernel_rfl
@[simp] theorem zvA_102 : zvA Try.prog 102 = some [AV.d (D.v (Value.int IntKind.i64 (0)))] := by kernel_rfl
@[simp] theorem tk_111 : tk Try.prog 111 = some (false, 1) := by kernel_rfl
@[simp] theorem isInt_111 : isInt Try.prog 111 = some IntKind.u64 := by kernel_rfl
@[simp] theorem isStr_111 : isStr Try.prog 111 = false := by kernel_rfl
@[simp] theorem zvA_111 : zvA Try.prog 111 = some [AV.d (D.v (Value.int IntKind.u64 (0)))] := by kernel_rfl
@[simp] theorem tk_112 : tk Try.prog 112 = some (false, 1) := by kernel_rfl
@[simp] theorem isInt_112 : isInt Try.prog 112 = some IntKind.u64 := by kernel_rfl
@[simp] theorem isStr_112 : isStr Try.prog 112 = false := by kernel_rfl
@[simp] theorem zvA_112 : zvA Try.prog 112 = some [AV.d (D.v (Value.int IntKind.u64 (0)))] := by kernel_rfl
@[simp] theorem tk_128 : tk Try.prog 128 = some (false, 1) := by kernel_rfl
@[simp] theorem isInt_128 : isInt Try.prog 128 = some IntKind.u8 := by kernel_rfl
@[simp] theorem isStr_128 : isStr Try.prog 128 = false := by kernel_rfl
@[simp] theorem zvA_128 : zvA Try.prog 128 = some [AV.d (D.v (Value.int IntKind.u8 (0)))] := by kernel_rfl
@[simp] theorem tk_129 : tk Try.prog 129 = some (false, 1) := by kernel_rfl
@[simp] theorem isInt_129 : isInt Try.prog 129 = some IntKind.u8 := by kernel_rfl
@[simp] theorem isStr_129 : isStr Try.prog 129 = false := by kernel_rfl
@[simp] theorem zvA_129 : zvA Try.prog 129 = some [AV.d (D.v (Value.int IntKind.u8 (0)))] := by kernel_rfl
@[simp] theorem tk_132 : tk Try.prog 132 = some (false, 1) := by kernel_rfl
@[simp] theorem isInt_132 : isInt Try.prog 132 = some IntKind.i32 := by kernel_rfl
@[simp] theorem isStr_132 : isStr Try.prog 132 = false := by kernel_rfl
@[simp] theorem zvA_132 : zvA Try.prog 132 = some [AV.d (D.v (Value.int IntKind.i32 (0)))] := by kernel_rfl
@[simp] theorem tk_133 : tk Try.prog 133 = some (false, 1) := by kernel_rfl
@[simp] theorem isInt_133 : isInt Try.prog 133 = some IntKind.i32 := by kernel_rfl
@[simp] theorem isStr_133 : isStr Try.prog 133 = false := by kernel_rfl
@[simp] theorem zvA_133 : zvA Try.prog 133 = some [AV.d (D.v (Value.int IntKind.i32 (0)))] := by kernel_rfl
@[simp] theorem tk_136 : tk Try.prog 136 = some (false, 1) := by kernel_rfl
@[simp] theorem isInt_136 : isInt Try.prog 136 = none := by kernel_rfl
@[simp] theorem isStr_136 : isStr Try.prog 136 = false := by kernel_rfl
@[simp] theorem zvA_136 : zvA Try.prog 136 = some [AV.d (D.v (Value.pointer none))] := by kernel_rfl
@[simp] theorem tk_1 : tk Try.prog 1 = some (false, 1) := by kernel_rfl
@[simp] theorem zvA_1 : zvA Try.prog 1 = some [AV.d (D.v Value.nilFunc)] := by kernel_rfl
@[simp] theorem tk_15 : tk Try.prog 15 = some (false, 1) := by kernel_rfl
@[simp] theorem zvA_15 : zvA Try.prog 15 = some [AV.d (D.v (Value.pointer none))] := by kernel_rfl
@[simp] theorem tk_16 : tk Try.prog 16 = some (false, 1) := by kernel_rfl
@[simp] theorem zvA_16 : zvA Try.prog 16 = some [AV.d (D.v (Value.pointer none))] := by kernel_rfl
@[simp] theorem tk_17 : tk Try.prog 17 = some (false, 1) := by kernel_rfl
@[simp] theorem zvA_17 : zvA Try.prog 17 = some [AV.d (D.v (Value.pointer none))] := by kernel_rfl
@[simp] theorem tk_20 : tk Try.prog 20 = some (false, 1) := by kernel_rfl
@[simp] theorem zvA_20 : zvA Try.prog 20 = some [AV.d (D.v Value.nilIface)] := by kernel_rfl
@[simp] theorem tk_26 : tk Try.prog 26 = some (false, 1) := by kernel_rfl
@[simp] theorem zvA_26 : zvA Try.prog 26 = some [AV.d (D.v Value.nilFunc)] := by kernel_rfl
@[simp] theorem tk_27 : tk Try.prog 27 = some (false, 1) := by kernel_rfl
@[simp] theorem zvA_27 : zvA Try.prog 27 = some [AV.d (D.v Value.nilFunc)] := by kernel_rfl
@[simp] theorem tk_29 : tk Try.prog 29 = some (false, 1) := by kernel_rfl
@[simp] theorem zvA_29 : zvA Try.prog 29 = some [AV.d (D.v Value.nilFunc)] := by kernel_rfl
@[simp] theorem tk_32 : tk Try.prog 32 = some (false, 1) := by kernel_rfl
@[simp] theorem zvA_32 : zvA Try.prog 32 = some [AV.d (D.v Value.nilFunc)] := by kernel_rfl
@[simp] theorem tk_34 : tk Try.prog 34 = some (false, 1) := by kernel_rfl
@[simp] theorem zvA_34 : zvA Try.prog 34 = some [AV.d (D.v Value.nilFunc)] := by kernel_rfl
@[simp] theorem tk_39 : tk Try.prog 39 = some (false, 1) := by kernel_rfl
@[simp] theorem zvA_39 : zvA Try.prog 39 = some [AV.d (D.v Value.nilFunc)] := by kernel_rfl
@[simp] theorem tk_40 : tk Try.prog 40 = some (false, 1) := by kernel_rfl
@[simp] theorem zvA_40 : zvA Try.prog 40 = some [AV.d (D.v Value.nilFunc)] := by kernel_rfl
@[simp] theorem tk_41 : tk Try.prog 41 = some (false, 1) := by kernel_rfl
@[simp] theorem zvA_41 : zvA Try.prog 41 = some [AV.d (D.v Value.nilFunc)] := by kernel_rfl
@[simp] theorem tk_42 : tk Try.prog 42 = some (false, 1) := by kernel_rfl
@[simp] theorem zvA_42 : zvA Try.prog 42 = some [AV.d (D.v Value.nilFunc)] := by kernel_rfl
@[simp] theorem tk_43 : tk Try.prog 43 = some (false, 1) := by kernel_rfl
@[simp] theorem zvA_43 : zvA Try.prog 43 = some [AV.d (D.v Value.nilFunc)] := by kernel_rfl
@[simp] theorem tk_45 : tk Try.prog 45 = some (false, 1) := by kernel_rfl
@[simp] theorem zvA_45 : zvA Try.prog 45 = some [AV.d (D.v Value.nilFunc)] := by kernel_rfl
@[simp] theorem tk_47 : tk Try.prog 47 = some (false, 1) := by kernel_rfl
@[simp] theorem zvA_47 : zvA Try.prog 47 = some [AV.d (D.v Value.nilFunc)] := by kernel_rfl
@[simp] theorem tk_48 : tk Try.prog 48 = some (false, 1) := by kernel_rfl
@[simp] theorem zvA_48 : zvA Try.prog 48 = some [AV.d (D.v Value.nilFunc)] := by kernel_rfl
@[simp] theorem tk_49 : tk Try.prog 49 = some (false, 1) := by kernel_rfl
@[simp] theorem zvA_49 : zvA Try.prog 49 = some [AV.d (D.v Value.nilFunc)] := by kernel_rfl
@[simp] theorem tk_50 : tk Try.prog 50 = some (false, 1) := by kernel_rfl
@[simp] theorem zvA_50 : zvA Try.prog 50 = some [AV.d (D.v Value.nilFunc)] := by kernel_rfl
@[simp] theorem tk_54 : tk Try.prog 54 = some (false, 1) := by kernel_rfl
@[simp] theorem zvA_54 : zvA Try.prog 54 = some [AV.d (D.v Value.nilFunc)] := by kernel_rfl
@[simp] theorem tk_55 : tk Try.prog 55 = some (false, 1) := by kernel_rfl
@[simp] theorem zvA_55 : zvA Try.prog 55 = some [AV.d (D.v Value.nilFunc)] := by kernel_rfl
@[simp] theorem tk_56 : tk Try.prog 56 = some (false, 1) := by kernel_rfl
@[simp] theorem zvA_56 : zvA Try.prog 56 = some [AV.d (D.v (Value.map none))] := by kernel_rfl
@[simp] theorem tk_57 : tk Try.prog 57 = some (false, 1) := by kernel_rfl
@[simp] theorem zvA_57 : zvA Try.prog 57 = some [AV.d (D.v Value.nilFunc)] := by kernel_rfl
@[simp] theorem tk_58 : tk Try.prog 58 = some (false, 1) := by kernel_rfl
@[simp] theorem zvA_58 : zvA Try.prog 58 = some [AV.d (D.v Value.nilFunc)] := by kernel_rfl
@[simp] theorem tk_59 : tk Try.prog 59 = some (false, 1) := by kernel_rfl
@[simp] theorem zvA_59 : zvA Try.prog 59 = some [AV.d (D.v Value.nilFunc)] := by kernel_rfl
@[simp] theorem tk_60 : tk Try.prog 60 = some (false, 1) := by kernel_rfl
@[simp] theorem zvA_60 : zvA Try.prog 60 = some [AV.d (D.v Value.nilFunc)] := by kernel_rfl
@[simp] theorem tk_61 : tk Try.prog 61 = some (false, 1) := by kernel_rfl
@[simp] theorem zvA_61 : zvA Try.prog 61 = some [AV.d (D.v Value.nilFunc)] := by kernel_rfl
@[simp] theorem tk_62 : tk Try.prog 62 = some (false, 1) := by kernel_rfl
@[simp] theorem zvA_62 : zvA Try.prog 62 = some [AV.d (D.v Value.nilFunc)] := by kernel_rfl
@[simp] theorem tk_63 : tk Try.prog 63 = some (false, 1) := by kernel_rfl
@[simp] theorem zvA_63 : zvA Try.prog 63 = some [AV.d (D.v Value.nilFunc)] := by kernel_rfl
@[simp] theorem tk_64 : tk Try.prog 64 = some (false, 1) := by kernel_rfl
@[simp] theorem zvA_64 : zvA Try.prog 64 = some [AV.d (D.v Value.nilFunc)] := by kernel_rfl
@[simp] theorem tk_65 : tk Try.prog 65 = some (false, 1) := by kernel_rfl
@[simp] theorem zvA_65 : zvA Try.prog 65 = some [AV.d (D.v Value.nilFunc)] := by kernel_rfl
@[simp] theorem tk_66 : tk Try.prog 66 = some (false, 1) := by kernel_rfl
@[simp] theorem zvA_66 : zvA Try.prog 66 = some [AV.d (D.v Value.nilFunc)] := by kernel_rfl
@[simp] theorem tk_67 : tk Try.prog 67 = some (false, 1) := by kernel_rfl
@[simp] theorem zvA_67 : zvA Try.prog 67 = some [AV.d (D.v Value.nilFunc)] := by kernel_rfl
@[simp] theorem tk_68 : tk Try.prog 68 = some (false, 1) := by kernel_rfl
@[simp] theorem zvA_68 : zvA Try.prog 68 = some [AV.d (D.v Value.nilFunc)] := by kernel_rfl
@[simp] theorem tk_69 : tk Try.prog 69 = some (false, 1) := by kernel_rfl
@[simp] theorem zvA_69 : zvA Try.prog 69 = some [AV.d (D.v Value.nilFunc)] := by kernel_rfl
@[simp] theorem tk_70 : tk Try.prog 70 = some (false, 1) := by kernel_rfl
@[simp] theorem zvA_70 : zvA Try.prog 70 = some [AV.d (D.v Value.nilFunc)] := by kernel_rfl
@[simp] theorem tk_74 : tk Try.prog 74 = some (false, 1) := by kernel_rfl
@[simp] theorem zvA_74 : zvA Try.prog 74 = some [AV.d (D.v Value.nilFunc)] := by kernel_rfl
@[simp] theorem tk_77 : tk Try.prog 77 = some (false, 1) := by kernel_rfl
@[simp] theorem zvA_77 : zvA Try.prog 77 = some [AV.d (D.v Value.nilFunc)] := by kernel_rfl
@[simp] theorem tk_78 : tk Try.prog 78 = some (false, 1) := by kernel_rfl
@[simp] theorem zvA_78 : zvA Try.prog 78 = some [AV.d (D.v Value.nilFunc)] := by kernel_rfl
@[simp] theorem tk_79 : tk Try.prog 79 = some (false, 1) := by kernel_rfl
@[simp] theorem zvA_79 : zvA Try.prog 79 = some [AV.d (D.v Value.nilFunc)] := by kernel_rfl
@[simp] theorem tk_80 : tk Try.prog 80 = some (false, 1) := by kernel_rfl
@[simp] theorem zvA_80 : zvA Try.prog 80 = some [AV.d (D.v Value.nilFunc)] := by kernel_rfl
@[simp] theorem tk_81 : tk Try.prog 81 = some (false, 1) := by kernel_rfl
@[simp] theorem zvA_81 : zvA Try.prog 81 = some [AV.d (D.v Value.nilFunc)] := by kernel_rfl
@[simp] theorem tk_82 : tk Try.prog 82 = some (false, 1) := by kernel_rfl
@[simp] theorem zvA_82 : zvA Try.prog 82 = some [AV.d (D.v Value.nilFunc)] := by kernel_rfl
@[simp] theorem tk_83 : tk Try.prog 83 = some (false, 1) := by kernel_rfl
@[simp] theorem zvA_83 : zvA Try.prog 83 = some [AV.d (D.v Value.nilFunc)] := by kernel_rfl
@[simp] theorem tk_84 : tk Try.prog 84 = some (false, 1) := by kernel_rfl
@[simp] theorem zvA_84 : zvA Try.prog 84 = some [AV.d (D.v Value.nilFunc)] := by kernel_rfl
@[simp] theorem tk_85 : tk Try.prog 85 = some (false, 1) := by kernel_rfl
@[simp] theorem zvA_85 : zvA Try.prog 85 = some [AV.d (D.v Value.nilFunc)] := by kernel_rfl
@[simp] theorem tk_86 : tk Try.prog 86 = some (false, 1) := by kernel_rfl
@[simp] theorem zvA_86 : zvA Try.prog 86 = some [AV.d (D.v Value.nilFunc)] := by kernel_rfl
@[simp] theorem tk_87 : tk Try.prog 87 = some (false, 1) := by kernel_rfl
@[simp] theorem zvA_87 : zvA Try.prog 87 = some [AV.d (D.v Value.nilFunc)] := by kernel_rfl
@[simp] theorem tk_88 : tk Try.prog 88 = some (false, 1) := by kernel_rfl
@[simp] theorem zvA_88 : zvA Try.prog 88 = some [AV.d (D.v Value.nilFunc)] := by kernel_rfl
@[simp] theorem tk_91 : tk Try.prog 91 = some (false, 1) := by kernel_rfl
@[simp] theorem zvA_91 : zvA Try.prog 91 = some [AV.d (D.v Value.nilFunc)] := by kernel_rfl
@[simp] theorem tk_92 : tk Try.prog 92 = some (false, 1) := by kernel_rfl
@[simp] theorem zvA_92 : zvA Try.prog 92 = some [AV.d (D.v Value.nilFunc)] := by kernel_rfl
@[simp] theorem tk_93 : tk Try.prog 93 = some (false, 1) := by kernel_rfl
@[simp] theorem zvA_93 : zvA Try.prog 93 = some [AV.d (D.v Value.nilFunc)] := by kernel_rfl
@[simp] theorem tk_94 : tk Try.prog 94 = some (false, 1) := by kernel_rfl
@[simp] theorem zvA_94 : zvA Try.prog 94 = some [AV.d (D.v Value.nilFunc)] := by kernel_rfl
@[simp] theorem tk_95 : tk Try.prog 95 = some (false, 1) := by kernel_rfl
@[simp] theorem zvA_95 : zvA Try.prog 95 = some [AV.d (D.v Value.nilFunc)] := by kernel_rfl
@[simp] theorem tk_96 : tk Try.prog 96 = some (false, 1) := by kernel_rfl
@[simp] theorem zvA_96 : zvA Try.prog 96 = some [AV.d (D.v Value.nilFunc)] := by kernel_rfl
@[simp] theorem tk_97 : tk Try.prog 97 = some (false, 1) := by kernel_rfl
@[simp] theorem zvA_97 : zvA Try.prog 97 = some [AV.d (D.v Value.nilFunc)] := by kernel_rfl
@[simp] theorem tk_99 : tk Try.prog 99 = some (false, 1) := by kernel_rfl
@[simp] theorem zvA_99 : zvA Try.prog 99 = some [AV.d (D.v Value.nilFunc)] := by kernel_rfl
@[simp] theorem tk_100 : tk Try.prog 100 = some (false, 1) := by kernel_rfl
@[simp] theorem zvA_100 : zvA Try.prog 100 = some [AV.d (D.v Value.nilFunc)] := by kernel_rfl
@[simp] theorem tk_101 : tk Try.prog 101 = some (false, 1) := by kernel_rfl
@[simp] theorem zvA_101 : zvA Try.prog 101 = some [AV.d (D.v Value.nilFunc)] := by kernel_rfl
@[simp] theorem tk_104 : tk Try.prog 104 = some (false, 1) := by kernel_rfl
@[simp] theorem zvA_104 : zvA Try.prog 104 = some [AV.d (D.v Value.nilFunc)] := by kernel_rfl
@[simp] theorem tk_105 : tk Try.prog 105 = some (false, 1) := by kernel_rfl
@[simp] theorem zvA_105 : zvA Try.prog 105 = some [AV.d (D.v Value.nilFunc)] := by kernel_rfl
@[simp] theorem tk_106 : tk Try.prog 106 = some (false, 1) := by kernel_rfl
@[simp] theorem zvA_106 : zvA Try.prog 106 = some [AV.d (D.v Value.nilFunc)] := by kernel_rfl
@[simp] theorem tk_108 : tk Try.prog 108 = some (false, 1) := by kernel_rfl
@[simp] theorem zvA_108 : zvA Try.prog 108 = some [AV.d (D.v Value.nilFunc)] := by kernel_rfl
@[simp] theorem tk_109 : tk Try.prog 109 = some (false, 1) := by kernel_rfl
@[simp] theorem zvA_109 : zvA Try.prog 109 = some [AV.d (D.v Value.nilFunc)] := by kernel_rfl
@[simp] theorem tk_110 : tk Try.prog 110 = some (false, 1) := by kernel_rfl
@[simp] theorem zvA_110 : zvA Try.prog 110 = some [AV.d (D.v Value.nilFunc)] := by kernel_rfl
@[simp] theorem tk_113 : tk Try.prog 113 = some (false, 1) := by kernel_rfl
@[simp] theorem zvA_113 : zvA Try.prog 113 = some [AV.d (D.v Value.nilFunc)] := by kernel_rfl
@[simp] theorem tk_114 : tk Try.prog 114 = some (false, 1) := by kernel_rfl
@[simp] theorem zvA_114 : zvA Try.prog 114 = some [AV.d (D.v Value.nilFunc)] := by kernel_rfl
@[simp] theorem tk_115 : tk Try.prog 115 = some (false, 1) := by kernel_rfl
@[simp] theorem zvA_115 : zvA Try.prog 115 = some [AV.d (D.v Value.nilFunc)] := by kernel_rfl
@[simp] theorem tk_116 : tk Try.prog 116 = some (false, 1) := by kernel_rfl
@[simp] theorem zvA_116 : zvA Try.prog 116 = some [AV.d (D.v (Value.pointer none))] := by kernel_rfl
@[simp] theorem tk_117 : tk Try.prog 117 = some (false, 1) := by kernel_rfl
@[simp] theorem zvA_117 : zvA Try.prog 117 = some [AV.d (D.v Value.nilFunc)] := by kernel_rfl
@[simp] theorem tk_118 : tk Try.prog 118 = some (false, 1) := by kernel_rfl
@[simp] theorem zvA_118 : zvA Try.prog 118 = some [AV.d (D.v (Value.pointer none))] := by kernel_rfl
@[simp] theorem tk_120 : tk Try.prog 120 = some (false, 1) := by kernel_rfl
@[simp] theorem zvA_120 : zvA Try.prog 120 = some [AV.d (D.v Value.nilFunc)] := by kernel_rfl
@[simp] theorem tk_121 : tk Try.prog 121 = some (false, 1) := by kernel_rfl
@[simp] theorem zvA_121 : zvA Try.prog 121 = some [AV.d (D.v Value.nilFunc)] := by kernel_rfl
@[simp] theorem tk_127 : tk Try.prog 127 = some (false, 1) := by kernel_rfl
@[simp] theorem zvA_127 : zvA Try.prog 127 = some [AV.d (D.v Value.nilFunc)] := by kernel_rfl
@[simp] theorem tk_130 : tk Try.prog 130 = some (false, 1) := by kernel_rfl
@[simp] theorem zvA_130 : zvA Try.prog 130 = some [AV.d (D.v Value.nilFunc)] := by kernel_rfl
@[simp] theorem tk_131 : tk Try.prog 131 = some (false, 1) := by kernel_rfl
@[simp] theorem zvA_131 : zvA Try.prog 131 = some [AV.d (D.v (Value.pointer none))] := by kernel_rfl
@[simp] theorem okF_3 : okF Try.prog 3 = true := by kernel_rfl
@[simp] theorem okF_4 : okF Try.prog 4 = true := by kernel_rfl
@[simp] theorem okF_5 : okF Try.prog 5 = true := by kernel_rfl
@[simp] theorem okF_6 : okF Try.prog 6 = true := by kernel_rfl
@[simp] theorem okF_7 : okF Try.prog 7 = true := by kernel_rfl
@[simp] theorem okF_8 : okF Try.prog 8 = true := by kernel_rfl
@[simp] theorem okF_9 : okF Try.prog 9 = true := by kernel_rfl
@[simp] theorem okF_10 : okF Try.prog 10 = true := by kernel_rfl
@[simp] theorem okF_11 : okF Try.prog 11 = true := by kernel_rfl
@[simp] theorem okF_12 : okF Try.prog 12 = true := by kernel_rfl
@[simp] theorem okF_13 : okF Try.prog 13 = true := by kernel_rfl
@[simp] theorem okF_14 : okF Try.prog 14 = true := by kernel_rfl
@[simp] theorem okF_15 : okF Try.prog 15 = true := by kernel_rfl
@[simp] theorem okF_16 : okF Try.prog 16 = true := by kernel_rfl
@[simp] theorem okF_17 : okF Try.prog 17 = true := by kernel_rfl
@[simp] theorem okF_18 : okF Try.prog 18 = true := by kernel_rfl
@[simp] theorem okF_19 : okF Try.prog 19 = true := by kernel_rfl
@[simp] theorem okF_20 : okF Try.prog 20 = true := by kernel_rfl
@[simp] theorem okF_21 : okF Try.prog 21 = true := by kernel_rfl
@[simp] theorem okF_22 : okF Try.prog 22 = true := by kernel_rfl
@[simp] theorem okF_23 : okF Try.prog 23 = true := by kernel_rfl
@[simp] theorem okF_24 : okF Try.prog 24 = true := by kernel_rfl
@[simp] theorem okF_25 : okF Try.prog 25 = true := by kernel_rfl
@[simp] theorem okF_26 : okF Try.prog 26 = true := by kernel_rfl
@[simp] theorem okF_27 : okF Try.prog 27 = true := by kernel_rfl
@[simp] theorem okF_28 : okF Try.prog 28 = true := by kernel_rfl
@[simp] theorem okF_29 : okF Try.prog 29 = true := by kernel_rfl
@[simp] theorem okF_30 : okF Try.prog 30 = true := by kernel_rfl
@[simp] theorem okF_31 : okF Try.prog 31 = true := by kernel_rfl
@[simp] theorem okF_32 : okF Try.prog 32 = true := by kernel_rfl
@[simp] theorem okF_33 : okF Try.prog 33 = true := by kernel_rfl
@[simp] theorem okF_34 : okF Try.prog 34 = true := by kernel_rfl
@[simp] theorem okF_35 : okF Try.prog 35 = true := by kernel_rfl
@[simp] theorem okF_36 : okF Try.prog 36 = true := by kernel_rfl
@[simp] theorem okF_37 : okF Try.prog 37 = true := by kernel_rfl
@[simp] theorem okF_38 : okF Try.prog 38 = true := by kernel_rfl
@[simp] theorem okF_39 : okF Try.prog 39 = true := by kernel_rfl
@[simp] theorem okF_40 : okF Try.prog 40 = true := by kernel_rfl
@[simp] theorem okF_41 : okF Try.prog 41 = true := by kernel_rfl
@[simp] theorem okF_42 : okF Try.prog 42 = true := by kernel_rfl
@[simp] theorem okF_43 : okF Try.prog 43 = true := by kernel_rfl
@[simp] theorem okF_44 : okF Try.prog 44 = true := by kernel_rfl
@[simp] theorem okF_45 : okF Try.prog 45 = true := by kernel_rfl
@[simp] theorem okF_46 : okF Try.prog 46 = true := by kernel_rfl
@[simp] theorem okF_47 : okF Try.prog 47 = true := by kernel_rfl
@[simp] theorem okF_48 : okF Try.prog 48 = true := by kernel_rfl
@[simp] theorem okF_49 : okF Try.prog 49 = true := by kernel_rfl
@[simp] theorem okF_50 : okF Try.prog 50 = true := by kernel_rfl
@[simp] theorem okF_51 : okF Try.prog 51 = true := by kernel_rfl
@[simp] theorem okF_52 : okF Try.prog 52 = true := by kernel_rfl
@[simp] theorem okF_53 : okF Try.prog 53 = true := by kernel_rfl
@[simp] theorem okF_54 : okF Try.prog 54 = true := by kernel_rfl
@[simp] theorem okF_55 : okF Try.prog 55 = true := by kernel_rfl
@[simp] theorem okF_57 : okF Try.prog 57 = true := by kernel_rfl
@[simp] theorem okF_58 : okF Try.prog 58 = true := by kernel_rfl
@[simp] theorem okF_59 : okF Try.prog 59 = true := by kernel_rfl
@[simp] theorem okF_60 : okF Try.prog 60 = true := by kernel_rfl
@[simp] theorem okF_61 : okF Try.prog 61 = true := by kernel_rfl
@[simp] theorem okF_62 : okF Try.prog 62 = true := by kernel_rfl
@[simp] theorem okF_63 : okF Try.prog 63 = true := by kernel_rfl
@[simp] theorem okF_64 : okF Try.prog 64 = true := by kernel_rfl
@[simp] theorem okF_65 : okF Try.prog 65 = true := by kernel_rfl
@[simp] theorem okF_66 : okF Try.prog 66 = true := by kernel_rfl
@[simp] theorem okF_67 : okF Try.prog 67 = true := by kernel_rfl
@[simp] theorem okF_68 : okF Try.prog 68 = true := by kernel_rfl
@[simp] theorem okF_69 : okF Try.prog 69 = true := by kernel_rfl
@[simp] theorem okF_70 : okF Try.prog 70 = true := by kernel_rfl
@[simp] theorem okF_71 : okF Try.prog 71 = true := by kernel_rfl
@[simp] theorem okF_72 : okF Try.prog 72 = true := by kernel_rfl
@[simp] theorem okF_73 : okF Try.prog 73 = true := by kernel_rfl
@[simp] theorem okF_74 : okF Try.prog 74 = true := by kernel_rfl
@[simp] theorem okF_75 : okF Try.prog 75 = true := by kernel_rfl
@[simp] theorem okF_76 : okF Try.prog 76 = true := by kernel_rfl
@[simp] theorem okF_77 : okF Try.prog 77 = true := by kernel_rfl
@[simp] theorem okF_78 : okF Try.prog 78 = true := by kernel_rfl
@[simp] theorem okF_79 : okF Try.prog 79 = true := by kernel_rfl
@[simp] theorem okF_80 : okF Try.prog 80 = true := by kernel_rfl
@[simp] theorem okF_81 : okF Try.prog 81 = true := by kernel_rfl
@[simp] theorem okF_82 : okF Try.prog 82 = true := by kernel_rfl
@[simp] theorem okF_83 : okF Try.prog 83 = true := by kernel_rfl
@[simp] theorem okF_84 : okF Try.prog 84 = true := by kernel_rfl
@[simp] theorem okF_85 : okF Try.prog 85 = true := by kernel_rfl
@[simp] theorem okF_86 : okF Try.prog 86 = true := by kernel_rfl
@[simp] theorem okF_87 : okF Try.prog 87 = true := by kernel_rfl
@[simp] theorem okF_88 : okF Try.prog 88 = true := by kernel_rfl
@[simp] theorem okF_89 : okF Try.prog 89 = true := by kernel_rfl
@[simp] theorem okF_90 : okF Try.prog 90 = true := by kernel_rfl
@[simp] theorem okF_91 : okF Try.prog 91 = true := by kernel_rfl
@[simp] theorem okF_92 : okF Try.prog 92 = true := by kernel_rfl
@[simp] theorem okF_93 : okF Try.prog 93 = true := by kernel_rfl
@[simp] theorem okF_94 : okF Try.prog 94 = true := by kernel_rfl
@[simp] theorem okF_95 : okF Try.prog 95 = true := by kernel_rfl
@[simp] theorem okF_96 : okF Try.prog 96 = true := by kernel_rfl
end Go.Proofs.Ytngjcmeclhlfeaa
