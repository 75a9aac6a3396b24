import Derived.Test.YtagkfkhagjlmpaaGreatProg
import Derived.Test.YtagkfkhagjlmpaaGreatAh
import Derived.KernelRfl
namespace Go.Proofs.YtagkfkhagjlmpaaGreat
set_option maxRecDepth 100000
@[simp] theorem tk_25 : tk Tryz.prog 25 = some (true, 2) := by kernel_rfl
@[simp] theorem places_25 : places Tryz.prog 25 = some [(0, 1), (1, 1)] := by kernel_rfl
@[simp] theorem zvA_25 : zvA Tryz.prog 25 = some [AV.d (D.v (Value.int IntKind.u32 (0))), AV.d (D.v (Value.slice none 0 0))] := by kernel_rfl
@[simp] theorem ar_25 : ar Tryz.prog 25 = none := by kernel_rfl
@[simp] theorem fo_25_0 : fo Tryz.prog 25 0 = some 0 := by kernel_rfl
@[simp] theorem fo_25_1 : fo Tryz.prog 25 1 = some 1 := by kernel_rfl
@[simp] theorem tk_35 : tk Tryz.prog 35 = some (true, 3) := by kernel_rfl
@[simp] theorem places_35 : places Tryz.prog 35 = some [(0, 1), (1, 1), (2, 1)] := by kernel_rfl
@[simp] theorem zvA_35 : zvA Tryz.prog 35 = some [AV.d (D.v (Value.slice none 0 0)), AV.d (D.v (Value.slice none 0 0)), AV.d (D.v (Value.int IntKind.u32 (0)))] := by kernel_rfl
@[simp] theorem ar_35 : ar Tryz.prog 35 = none := by kernel_rfl
@[simp] theorem fo_35_0 : fo Tryz.prog 35 0 = some 0 := by kernel_rfl
@[simp] theorem fo_35_1 : fo Tryz.prog 35 1 = some 1 := by kernel_rfl
@[simp] theorem fo_35_2 : fo Tryz.prog 35 2 = some 2 := by kernel_rfl
@[simp] theorem tk_40 : tk Tryz.prog 40 = some (true, 3) := by kernel_rfl
@[simp] theorem places_40 : places Tryz.prog 40 = some [(0, 1), (1, 1), (2, 1)] := by kernel_rfl
@[simp] theorem zvA_40 : zvA Tryz.prog 40 = some [AV.d (D.v (Value.int IntKind.i64 (0))), AV.d (D.v (Value.slice none 0 0)), AV.d (D.v (Value.int IntKind.i64 (0)))] := by kernel_rfl
@[simp] theorem ar_40 : ar Tryz.prog 40 = none := by kernel_rfl
@[simp] theorem fo_40_0 : fo Tryz.prog 40 0 = some 0 := by kernel_rfl
@[simp] theorem fo_40_1 : fo Tryz.prog 40 1 = some 1 := by kernel_rfl
@[simp] theorem fo_40_2 : fo Tryz.prog 40 2 = some 2 := by kernel_rfl
@[simp] theorem tk_48 : tk Tryz.prog 48 = some (true, 2) := by kernel_rfl
@[simp] theorem places_48 : places Tryz.prog 48 = some [(0, 1), (1, 1)] := by kernel_rfl
@[simp] theorem zvA_48 : zvA Tryz.prog 48 = some [AV.d (D.v (Value.int IntKind.u32 (0))), AV.d (D.v (Value.slice none 0 0))] := by kernel_rfl
@[simp] theorem ar_48 : ar Tryz.prog 48 = none := by kernel_rfl
@[simp] theorem fo_48_0 : fo Tryz.prog 48 0 = some 0 := by kernel_rfl
@[simp] theorem fo_48_1 : fo Tryz.prog 48 1 = some 1 := by kernel_rfl
@[simp] theorem tk_58 : tk Tryz.prog 58 = some (true, 4) := by kernel_rfl
@[simp] theorem places_58 : places Tryz.prog 58 = some [(0, 1), (1, 1), (2, 1), (3, 1)] := by kernel_rfl
@[simp] theorem zvA_58 : zvA Tryz.prog 58 = some [AV.d (D.v (Value.int IntKind.i64 (0))), AV.d (D.v (Value.slice none 0 0)), AV.d (D.v (Value.slice none 0 0)), AV.d (D.v (Value.int IntKind.i64 (0)))] := by kernel_rfl
@[simp] theorem ar_58 : ar Tryz.prog 58 = none := by kernel_rfl
@[simp] theorem fo_58_0 : fo Tryz.prog 58 0 = some 0 := by kernel_rfl
@[simp] theorem fo_58_1 : fo Tryz.prog 58 1 = some 1 := by kernel_rfl
@[simp] theorem fo_58_2 : fo Tryz.prog 58 2 = some 2 := by kernel_rfl
@[simp] theorem fo_58_3 : fo Tryz.prog 58 3 = some 3 := by kernel_rfl
@[simp] theorem tk_68 : tk Tryz.prog 68 = some (true, 8) := by kernel_rfl
@[simp] theorem places_68 : places Tryz.prog 68 = some [(0, 1), (1, 1), (2, 1), (3, 1), (4, 1), (5, 1), (6, 1), (7, 1)] := by kernel_rfl
@[simp] theorem zvA_68 : zvA Tryz.prog 68 = some [AV.d (D.v (Value.int IntKind.i64 (0))), AV.d (D.v (Value.int IntKind.i64 (0))), AV.d (D.v (Value.int IntKind.i64 (0))), AV.d (D.v (Value.int IntKind.i64 (0))), AV.d (D.v (Value.int IntKind.i64 (0))), AV.d (D.v (Value.int IntKind.u32 (0))), AV.d (D.v (Value.slice none 0 0)), AV.d (D.v (Value.slice none 0 0))] := by kernel_rfl
@[simp] theorem ar_68 : ar Tryz.prog 68 = none := by kernel_rfl
@[simp] theorem fo_68_0 : fo Tryz.prog 68 0 = some 0 := by kernel_rfl
@[simp] theorem fo_68_1 : fo Tryz.prog 68 1 = some 1 := by kernel_rfl
@[simp] theorem fo_68_2 : fo Tryz.prog 68 2 = some 2 := by kernel_rfl
@[simp] theorem fo_68_3 : fo Tryz.prog 68 3 = some 3 := by kernel_rfl
@[simp] theorem fo_68_4 : fo Tryz.prog 68 4 = some 4 := by kernel_rfl
@[simp] theorem fo_68_5 : fo Tryz.prog 68 5 = some 5 := by kernel_rfl
@[simp] theorem fo_68_6 : fo Tryz.prog 68 6 = some 6 := by kernel_rfl
@[simp] theorem fo_68_7 : fo Tryz.prog 68 7 = some 7 := by kernel_rfl
@[simp] theorem places_90 : places Tryz.prog 90 = some [(0, 1), (1, 1), (2, 1), (3, 12), (15, 1), (16, 1), (17, 1), (18, 1), (19, 1), (20, 1)] := by kernel_rfl
@[simp] theorem zvA_90 : zvA Tryz.prog 90 = some [AV.d (D.v (Value.slice none 0 0)), AV.d (D.v (Value.map none)), AV.d (D.v (Value.pointer none)), AV.d (D.v (Value.int IntKind.u32 (0))), AV.d (D.v (Value.int IntKind.u32 (0))), AV.d (D.v (Value.int IntKind.u32 (0))), AV.d (D.v (Value.int IntKind.u32 (0))), AV.d (D.v (Value.int IntKind.u32 (0))), AV.d (D.v (Value.int IntKind.u32 (0))), AV.d (D.v (Value.int IntKind.u32 (0))), AV.d (D.v (Value.int IntKind.u32 (0))), AV.d (D.v (Value.int IntKind.u32 (0))), AV.d (D.v (Value.int IntKind.u32 (0))), AV.d (D.v (Value.int IntKind.u32 (0))), AV.d (D.v (Value.int IntKind.u32 (0))), AV.d (D.v (Value.slice none 0 0)), AV.d (D.v (Value.slice none 0 0)), AV.d (D.v (Value.slice none 0 0)), AV.d (D.v (Value.slice none 0 0)), AV.d (D.v (Value.int IntKind.i64 (0))), AV.d (D.v (Value.bool false))] := by kernel_rfl
@[simp] theorem fo_90_0 : fo Tryz.prog 90 0 = some 0 := by kernel_rfl
@[simp] theorem fo_90_1 : fo Tryz.prog 90 1 = some 1 := by kernel_rfl
@[simp] theorem fo_90_2 : fo Tryz.prog 90 2 = some 2 := by kernel_rfl
@[simp] theorem fo_90_3 : fo Tryz.prog 90 3 = some 3 := by kernel_rfl
@[simp] theorem fo_90_4 : fo Tryz.prog 90 4 = some 15 := by kernel_rfl
@[simp] theorem fo_90_5 : fo Tryz.prog 90 5 = some 16 := by kernel_rfl
@[simp] theorem fo_90_6 : fo Tryz.prog 90 6 = some 17 := by kernel_rfl
@[simp] theorem fo_90_7 : fo Tryz.prog 90 7 = some 18 := by kernel_rfl
@[simp] theorem fo_90_8 : fo Tryz.prog 90 8 = some 19 := by kernel_rfl
@[simp] theorem fo_90_9 : fo Tryz.prog 90 9 = some 20 := by kernel_rfl
@[simp] theorem tk_94 : tk Tryz.prog 94 = some (true, 5) := by kernel_rfl
@[simp] theorem places_94 : places Tryz.prog 94 = some [(0, 1), (1, 1), (2, 1), (3, 1), (4, 1)] := by kernel_rfl
@[simp] theorem zvA_94 : zvA Tryz.prog 94 = some [AV.d (D.v (Value.int IntKind.i64 (0))), AV.d (D.v (Value.int IntKind.u32 (0))), AV.d (D.v (Value.int IntKind.i64 (0))), AV.d (D.v (Value.int IntKind.i64 (0))), AV.d (D.v (Value.slice none 0 0))] := by kernel_rfl
@[simp] theorem ar_94 : ar Tryz.prog 94 = none := by kernel_rfl
@[simp] theorem fo_94_0 : fo Tryz.prog 94 0 = some 0 := by kernel_rfl
@[simp] theorem fo_94_1 : fo Tryz.prog 94 1 = some 1 := by kernel_rfl
@[simp] theorem fo_94_2 : fo Tryz.prog 94 2 = some 2 := by kernel_rfl
@[simp] theorem fo_94_3 : fo Tryz.prog 94 3 = some 3 := by kernel_rfl
@[simp] theorem fo_94_4 : fo Tryz.prog 94 4 = some 4 := by kernel_rfl
@[simp] theorem tk_116 : tk Tryz.prog 116 = some (true, 5) := by kernel_rfl
@[simp] theorem zvA_116 : zvA Tryz.prog 116 = some [AV.d (D.v (Value.string { data := #[] })), AV.d (D.v (Value.int IntKind.u32 (0))), AV.d (D.v (Value.slice none 0 0)), AV.d (D.v (Value.bool false)), AV.d (D.v (Value.bool false))] := by kernel_rfl
@[simp] theorem ar_116 : ar Tryz.prog 116 = none := by kernel_rfl
@[simp] theorem fo_116_0 : fo Tryz.prog 116 0 = some 0 := by kernel_rfl
@[simp] theorem fo_116_1 : fo Tryz.prog 116 1 = some 1 := by kernel_rfl
@[simp] theorem fo_116_2 : fo Tryz.prog 116 2 = some 2 := by kernel_rfl
@[simp] theorem fo_116_3 : fo Tryz.prog 116 3 = some 3 := by kernel_rfl
@[simp] theorem fo_116_4 : fo Tryz.prog 116 4 = some 4 := by kernel_rfl
@[simp] theorem tk_123 : tk Tryz.prog 123 = some (true, 2) := by kernel_rfl
@[simp] theorem places_123 : places Tryz.prog 123 = some [(0, 1), (1, 1)] := by kernel_rfl
@[simp] theorem zvA_123 : zvA Tryz.prog 123 = some [AV.d (D.v (Value.int IntKind.u32 (0))), AV.d (D.v (Value.int IntKind.u32 (0)))] := by kernel_rfl
@[simp] theorem ar_123 : ar Tryz.prog 123 = none := by kernel_rfl
@[simp] theorem fo_123_0 : fo Tryz.prog 123 0 = some 0 := by kernel_rfl
@[simp] theorem fo_123_1 : fo Tryz.prog 123 1 = some 1 := by kernel_rfl
@[simp] theorem tk_135 : tk Tryz.prog 135 = some (true, 1) := by kernel_rfl
@[simp] theorem places_135 : places Tryz.prog 135 = some [(0, 1)] := by kernel_rfl
@[simp] theorem zvA_135 : zvA Tryz.prog 135 = some [AV.d (D.v (Value.slice none 0 0))] := by kernel_rfl
@[simp] theorem ar_135 : ar Tryz.prog 135 = none := by kernel_rfl
@[simp] theorem fo_135_0 : fo Tryz.prog 135 0 = some 0 := by kernel_rfl
@[simp] theorem ft_135_0 : ft Tryz.prog 135 0 = some (36, 0) := by kernel_rfl
@[simp] theorem places_139 : places Tryz.prog 139 = some [(0, 1), (1, 1), (2, 1), (3, 1)] := by kernel_rfl
@[simp] theorem zvA_139 : zvA Tryz.prog 139 = some [AV.d (D.v (Value.int IntKind.i64 (0))), AV.d (D.v (Value.int IntKind.i64 (0))), AV.d (D.v (Value.int IntKind.i64 (0))), AV.d (D.v (Value.map none))] := by kernel_rfl
@[simp] theorem fo_139_0 : fo Tryz.prog 139 0 = some 0 := by kernel_rfl
@[simp] theorem fo_139_1 : fo Tryz.prog 139 1 = some 1 := by kernel_rfl
@[simp] theorem fo_139_2 : fo Tryz.prog 139 2 = some 2 := by kernel_rfl
@[simp] theorem fo_139_3 : fo Tryz.prog 139 3 = some 3 := by kernel_rfl
@[simp] theorem places_167 : places Tryz.prog 167 = some [(0, 1), (1, 1)] := by kernel_rfl
@[simp] theorem zvA_167 : zvA Tryz.prog 167 = some [AV.d (D.v (Value.slice none 0 0)), AV.d (D.v (Value.map none))] := by kernel_rfl
@[simp] theorem fo_167_0 : fo Tryz.prog 167 0 = some 0 := by kernel_rfl
@[simp] theorem fo_167_1 : fo Tryz.prog 167 1 = some 1 := by kernel_rfl
@[simp] theorem places_170 : places Tryz.prog 170 = some [(0, 1), (1, 1)] := by kernel_rfl
@[simp] theorem zvA_170 : zvA Tryz.prog 170 = some [AV.d (D.v (Value.bool false)), AV.d (D.v (Value.bool false))] := by kernel_rfl
@[simp] theorem fo_170_0 : fo Tryz.prog 170 0 = some 0 := by kernel_rfl
@[simp] theorem tk_172 : tk Tryz.prog 172 = some (true, 4) := by kernel_rfl
@[simp] theorem places_172 : places Tryz.prog 172 = some [(0, 1), (1, 1), (2, 2)] := by kernel_rfl
@[simp] theorem zvA_172 : zvA Tryz.prog 172 = some [AV.d (D.v (Value.int IntKind.u64 (0))), AV.d (D.v (Value.slice none 0 0)), AV.d (D.v (Value.bool false)), AV.d (D.v (Value.bool false))] := by kernel_rfl
@[simp] theorem ar_172 : ar Tryz.prog 172 = none := by kernel_rfl
@[simp] theorem fo_172_0 : fo Tryz.prog 172 0 = some 0 := by kernel_rfl
@[simp] theorem fo_172_1 : fo Tryz.prog 172 1 = some 1 := by kernel_rfl
@[simp] theorem fo_172_2 : fo Tryz.prog 172 2 = some 2 := by kernel_rfl
@[simp] theorem tk_56 : tk Tryz.prog 56 = some (true, 2) := by kernel_rfl
@[simp] theorem places_56 : places Tryz.prog 56 = none := by kernel_rfl
@[simp] theorem zvA_56 : zvA Tryz.prog 56 = some [AV.d (D.v (Value.int IntKind.i64 (0))), AV.d (D.v (Value.int IntKind.i64 (0)))] := by kernel_rfl
@[simp] theorem ar_56 : ar Tryz.prog 56 = some (2, 3, 1) := by kernel_rfl
@[simp] theorem ar_87 : ar Tryz.prog 87 = some (12, 22, 1) := by kernel_rfl
@[simp] theorem zvA_203 : zvA Tryz.prog 203 = some [AV.d (D.v (Value.int IntKind.u32 (0))), AV.d (D.v (Value.int IntKind.u32 (0)))] := by kernel_rfl
@[simp] theorem ar_203 : ar Tryz.prog 203 = some (2, 22, 1) := by kernel_rfl
@[simp] theorem tk_216 : tk Tryz.prog 216 = some (true, 13) := by kernel_rfl
@[simp] theorem places_216 : places Tryz.prog 216 = none := by kernel_rfl
@[simp] theorem zvA_216 : zvA Tryz.prog 216 = some [AV.d (D.v (Value.int IntKind.u32 (0))), AV.d (D.v (Value.int IntKind.u32 (0))), AV.d (D.v (Value.int IntKind.u32 (0))), AV.d (D.v (Value.int IntKind.u32 (0))), AV.d (D.v (Value.int IntKind.u32 (0))), AV.d (D.v (Value.int IntKind.u32 (0))), AV.d (D.v (Value.int IntKind.u32 (0))), AV.d (D.v (Value.int IntKind.u32 (0))), AV.d (D.v (Value.int IntKind.u32 (0))), AV.d (D.v (Value.int IntKind.u32 (0))), AV.d (D.v (Value.int IntKind.u32 (0))), AV.d (D.v (Value.int IntKind.u32 (0))), AV.d (D.v (Value.int IntKind.u32 (0)))] := by kernel_rfl
@[simp] theorem ar_216 : ar Tryz.prog 216 = some (13, 22, 1) := by kernel_rfl
@[simp] theorem tk_23 : tk Tryz.prog 23 = some (false, 1) := by kernel_rfl
@[simp] theorem sl_23 : sl Tryz.prog 23 = some (48, 2) := by kernel_rfl
@[simp] theorem byt_23 : byt Tryz.prog 23 = some (48, 2, 32) := by kernel_rfl
@[simp] theorem tk_32 : tk Tryz.prog 32 = some (false, 1) := by kernel_rfl
@[simp] theorem sl_32 : sl Tryz.prog 32 = some (25, 2) := by kernel_rfl
@[simp] theorem byt_32 : byt Tryz.prog 32 = some (25, 2, 32) := by kernel_rfl
@[simp] theorem tk_33 : tk Tryz.prog 33 = some (false, 1) := by kernel_rfl
@[simp] theorem sl_33 : sl Tryz.prog 33 = some (116, 5) := by kernel_rfl
@[simp] theorem tk_36 : tk Tryz.prog 36 = some (false, 1) := by kernel_rfl
@[simp] theorem sl_36 : sl Tryz.prog 36 = some (22, 1) := by kernel_rfl
@[simp] theorem byt_36 : byt Tryz.prog 36 = some (22, 1, 4) := by kernel_rfl
@[simp] theorem tk_46 : tk Tryz.prog 46 = some (false, 1) := by kernel_rfl
@[simp] theorem sl_46 : sl Tryz.prog 46 = some (68, 8) := by kernel_rfl
@[simp] theorem byt_46 : byt Tryz.prog 46 = some (68, 8, 96) := by kernel_rfl
@[simp] theorem tk_49 : tk Tryz.prog 49 = some (false, 1) := by kernel_rfl
@[simp] theorem sl_49 : sl Tryz.prog 49 = some (3, 1) := by kernel_rfl
@[simp] theorem zvA_49 : zvA Tryz.prog 49 = some [AV.d (D.v (Value.slice none 0 0))] := by kernel_rfl
@[simp] theorem byt_49 : byt Tryz.prog 49 = some (3, 1, 8) := by kernel_rfl
@[simp] theorem tk_51 : tk Tryz.prog 51 = some (false, 1) := by kernel_rfl
@[simp] theorem sl_51 : sl Tryz.prog 51 = some (56, 2) := by kernel_rfl
@[simp] theorem zvA_51 : zvA Tryz.prog 51 = some [AV.d (D.v (Value.slice none 0 0))] := by kernel_rfl
@[simp] theorem byt_51 : byt Tryz.prog 51 = some (56, 2, 16) := by kernel_rfl
@[simp] theorem sl_54 : sl Tryz.prog 54 = some (58, 4) := by kernel_rfl
@[simp] theorem byt_54 : byt Tryz.prog 54 = some (58, 4, 64) := by kernel_rfl
@[simp] theorem tk_66 : tk Tryz.prog 66 = some (false, 1) := by kernel_rfl
@[simp] theorem sl_66 : sl Tryz.prog 66 = some (94, 5) := by kernel_rfl
@[simp] theorem byt_66 : byt Tryz.prog 66 = some (94, 5, 56) := by kernel_rfl
@[simp] theorem tk_73 : tk Tryz.prog 73 = some (false, 1) := by kernel_rfl
@[simp] theorem sl_73 : sl Tryz.prog 73 = some (4, 1) := by kernel_rfl
@[simp] theorem zvA_73 : zvA Tryz.prog 73 = some [AV.d (D.v (Value.slice none 0 0))] := by kernel_rfl
@[simp] theorem byt_73 : byt Tryz.prog 73 = some (4, 1, 1) := by kernel_rfl
@[simp] theorem tk_76 : tk Tryz.prog 76 = some (false, 1) := by kernel_rfl
@[simp] theorem sl_76 : sl Tryz.prog 76 = some (49, 1) := by kernel_rfl
@[simp] theorem byt_76 : byt Tryz.prog 76 = some (49, 1, 24) := by kernel_rfl
@[simp] theorem tk_88 : tk Tryz.prog 88 = some (false, 1) := by kernel_rfl
@[simp] theorem sl_88 : sl Tryz.prog 88 = some (139, 4) := by kernel_rfl
@[simp] theorem byt_88 : byt Tryz.prog 88 = some (139, 4, 32) := by kernel_rfl
@[simp] theorem tk_114 : tk Tryz.prog 114 = some (false, 1) := by kernel_rfl
@[simp] theorem sl_114 : sl Tryz.prog 114 = some (5, 1) := by kernel_rfl
@[simp] theorem byt_114 : byt Tryz.prog 114 = some (5, 1, 1) := by kernel_rfl
@[simp] theorem tk_165 : tk Tryz.prog 165 = some (false, 1) := by kernel_rfl
@[simp] theorem sl_165 : sl Tryz.prog 165 = some (172, 4) := by kernel_rfl
@[simp] theorem byt_165 : byt Tryz.prog 165 = some (172, 4, 40) := by kernel_rfl
@[simp] theorem tk_3 : tk Tryz.prog 3 = some (false, 1) := by kernel_rfl
@[simp] theorem isInt_3 : isInt Tryz.prog 3 = some IntKind.i64 := by kernel_rfl
@[simp] theorem zvA_3 : zvA Tryz.prog 3 = some [AV.d (D.v (Value.int IntKind.i64 (0)))] := by kernel_rfl
@[simp] theorem tk_4 : tk Tryz.prog 4 = some (false, 1) := by kernel_rfl
@[simp] theorem zvA_4 : zvA Tryz.prog 4 = some [AV.d (D.v (Value.bool false))] := by kernel_rfl
@[simp] theorem tk_5 : tk Tryz.prog 5 = some (false, 1) := by kernel_rfl
@[simp] theorem isInt_5 : isInt Tryz.prog 5 = some IntKind.u8 := by kernel_rfl
@[simp] theorem zvA_5 : zvA Tryz.prog 5 = some [AV.d (D.v (Value.int IntKind.u8 (0)))] := by kernel_rfl
@[simp] theorem tk_9 : tk Tryz.prog 9 = some (false, 1) := by kernel_rfl
@[simp] theorem isInt_21 : isInt Tryz.prog 21 = some IntKind.i32 := by kernel_rfl
@[simp] theorem tk_22 : tk Tryz.prog 22 = some (false, 1) := by kernel_rfl
@[simp] theorem isInt_22 : isInt Tryz.prog 22 = some IntKind.u32 := by kernel_rfl
@[simp] theorem zvA_22 : zvA Tryz.prog 22 = some [AV.d (D.v (Value.int IntKind.u32 (0)))] := by kernel_rfl
@[simp] theorem tk_28 : tk Tryz.prog 28 = some (false, 1) := by kernel_rfl
@[simp] theorem tk_120 : tk Tryz.prog 120 = some (false, 1) := by kernel_rfl
@[simp] theorem isInt_120 : isInt Tryz.prog 120 = some IntKind.u64 := by kernel_rfl
@[simp] theorem isInt_218 : isInt Tryz.prog 218 = some IntKind.i8 := by kernel_rfl
@[simp] theorem isInt_219 : isInt Tryz.prog 219 = some IntKind.i16 := by kernel_rfl
@[simp] theorem tk_75 : tk Tryz.prog 75 = some (false, 1) := by kernel_rfl
@[simp] theorem zvA_75 : zvA Tryz.prog 75 = some [AV.d (D.v (Value.map none))] := by kernel_rfl
@[simp] theorem tk_85 : tk Tryz.prog 85 = some (false, 1) := by kernel_rfl
@[simp] theorem tk_86 : tk Tryz.prog 86 = some (false, 1) := by kernel_rfl
@[simp] theorem tk_137 : tk Tryz.prog 137 = some (false, 1) := by kernel_rfl
@[simp] theorem tk_140 : tk Tryz.prog 140 = some (false, 1) := by kernel_rfl
@[simp] theorem zvA_140 : zvA Tryz.prog 140 = some [AV.d (D.v Value.nilFunc)] := by kernel_rfl
@[simp] theorem tk_164 : tk Tryz.prog 164 = some (false, 1) := by kernel_rfl
@[simp] theorem okF_22 : okF Tryz.prog 22 = true := by kernel_rfl
@[simp] theorem okF_24 : okF Tryz.prog 24 = true := by kernel_rfl
@[simp] theorem okF_28 : okF Tryz.prog 28 = true := by kernel_rfl
@[simp] theorem okF_31 : okF Tryz.prog 31 = true := by kernel_rfl
@[simp] theorem okF_32 : okF Tryz.prog 32 = true := by kernel_rfl
@[simp] theorem okF_33 : okF Tryz.prog 33 = true := by kernel_rfl
@[simp] theorem okF_37 : okF Tryz.prog 37 = true := by kernel_rfl
@[simp] theorem okF_42 : okF Tryz.prog 42 = true := by kernel_rfl
@[simp] theorem okF_53 : okF Tryz.prog 53 = true := by kernel_rfl
@[simp] theorem okF_54 : okF Tryz.prog 54 = true := by kernel_rfl
@[simp] theorem okF_55 : okF Tryz.prog 55 = true := by kernel_rfl
@[simp] theorem okF_56 : okF Tryz.prog 56 = true := by kernel_rfl
@[simp] theorem okF_57 : okF Tryz.prog 57 = true := by kernel_rfl
@[simp] theorem okF_58 : okF Tryz.prog 58 = true := by kernel_rfl
@[simp] theorem okF_66 : okF Tryz.prog 66 = true := by kernel_rfl
@[simp] theorem okF_67 : okF Tryz.prog 67 = true := by kernel_rfl
@[simp] theorem okF_68 : okF Tryz.prog 68 = true := by kernel_rfl
@[simp] theorem okF_73 : okF Tryz.prog 73 = true := by kernel_rfl
@[simp] theorem okF_74 : okF Tryz.prog 74 = true := by kernel_rfl
@[simp] theorem okF_78 : okF Tryz.prog 78 = true := by kernel_rfl
@[simp] theorem okF_79 : okF Tryz.prog 79 = true := by kernel_rfl
@[simp] theorem okF_92 : okF Tryz.prog 92 = true := by kernel_rfl
@[simp] theorem okF_96 : okF Tryz.prog 96 = true := by kernel_rfl
@[simp] theorem okF_97 : okF Tryz.prog 97 = true := by kernel_rfl
@[simp] theorem okF_98 : okF Tryz.prog 98 = true := by kernel_rfl
@[simp] theorem okF_99 : okF Tryz.prog 99 = true := by kernel_rfl
@[simp] theorem okF_100 : okF Tryz.prog 100 = true := by kernel_rfl
@[simp] theorem okF_101 : okF Tryz.prog 101 = true := by kernel_rfl
@[simp] theorem okF_102 : okF Tryz.prog 102 = true := by kernel_rfl
@[simp] theorem okF_103 : okF Tryz.prog 103 = true := by kernel_rfl
@[simp] theorem okF_115 : okF Tryz.prog 115 = true := by kernel_rfl
@[simp] theorem okF_116 : okF Tryz.prog 116 = true := by kernel_rfl
@[simp] theorem okF_118 : okF Tryz.prog 118 = true := by kernel_rfl
@[simp] theorem okF_133 : okF Tryz.prog 133 = true := by kernel_rfl
@[simp] theorem okF_134 : okF Tryz.prog 134 = true := by kernel_rfl
@[simp] theorem okF_135 : okF Tryz.prog 135 = true := by kernel_rfl
@[simp] theorem okF_136 : okF Tryz.prog 136 = true := by kernel_rfl
@[simp] theorem okF_137 : okF Tryz.prog 137 = true := by kernel_rfl
@[simp] theorem okF_158 : okF Tryz.prog 158 = true := by kernel_rfl
@[simp] theorem okF_159 : okF Tryz.prog 159 = true := by kernel_rfl
@[simp] theorem okF_160 : okF Tryz.prog 160 = true := by kernel_rfl
@[simp] theorem okF_170 : okF Tryz.prog 170 = true := by kernel_rfl
@[simp] theorem okF_171 : okF Tryz.prog 171 = true := by kernel_rfl
@[simp] theorem okF_172 : okF Tryz.prog 172 = true := by kernel_rfl
@[simp] theorem okF_173 : okF Tryz.prog 173 = true := by kernel_rfl
@[simp] theorem okF_174 : okF Tryz.prog 174 = true := by kernel_rfl
end Go.Proofs.YtagkfkhagjlmpaaGreat
