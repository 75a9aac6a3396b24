import Derived.Test.YtinkdalcmnnocaaGreatProg
import Derived.Test.YtinkdalcmnnocaaGreatAh
import Derived.KernelRfl
namespace Go.Proofs.YtinkdalcmnnocaaGreat
set_option maxRecDepth 100000
@[simp] theorem tk_28 : tk Tryz.prog 28 = some (true, 2) := by kernel_rfl
@[simp] theorem places_28 : places Tryz.prog 28 = some [(0, 1), (1, 1)] := by kernel_rfl
@[simp] theorem zvA_28 : zvA Tryz.prog 28 = some [AV.d (D.v (Value.int IntKind.u32 (0))), AV.d (D.v (Value.slice none 0 0))] := by kernel_rfl
@[simp] theorem fo_28_0 : fo Tryz.prog 28 0 = some 0 := by kernel_rfl
@[simp] theorem fo_28_1 : fo Tryz.prog 28 1 = some 1 := by kernel_rfl
@[simp] theorem tk_31 : tk Tryz.prog 31 = some (true, 4) := by kernel_rfl
@[simp] theorem places_31 : places Tryz.prog 31 = some [(0, 2), (2, 1), (3, 1)] := by kernel_rfl
@[simp] theorem zvA_31 : zvA Tryz.prog 31 = some [AV.d (D.v (Value.int IntKind.u32 (0))), AV.d (D.v (Value.slice none 0 0)), AV.d (D.v (Value.slice none 0 0)), AV.d (D.v (Value.slice none 0 0))] := by kernel_rfl
@[simp] theorem ar_31 : ar Tryz.prog 31 = none := by kernel_rfl
@[simp] theorem fo_31_0 : fo Tryz.prog 31 0 = some 0 := by kernel_rfl
@[simp] theorem fo_31_1 : fo Tryz.prog 31 1 = some 2 := by kernel_rfl
@[simp] theorem fo_31_2 : fo Tryz.prog 31 2 = some 3 := by kernel_rfl
@[simp] theorem tk_34 : tk Tryz.prog 34 = some (true, 2) := by kernel_rfl
@[simp] theorem places_34 : places Tryz.prog 34 = some [(0, 1), (1, 1)] := by kernel_rfl
@[simp] theorem zvA_34 : zvA Tryz.prog 34 = some [AV.d (D.v (Value.int IntKind.u32 (0))), AV.d (D.v (Value.slice none 0 0))] := by kernel_rfl
@[simp] theorem ar_34 : ar Tryz.prog 34 = none := by kernel_rfl
@[simp] theorem fo_34_1 : fo Tryz.prog 34 1 = some 1 := by kernel_rfl
@[simp] theorem tk_37 : tk Tryz.prog 37 = some (true, 5) := by kernel_rfl
@[simp] theorem places_37 : places Tryz.prog 37 = some [(0, 1), (1, 1), (2, 1), (3, 1), (4, 1)] := by kernel_rfl
@[simp] theorem zvA_37 : zvA Tryz.prog 37 = some [AV.d (D.v (Value.int IntKind.i64 (0))), AV.d (D.v (Value.int IntKind.u32 (0))), AV.d (D.v (Value.int IntKind.i64 (0))), AV.d (D.v (Value.int IntKind.i64 (0))), AV.d (D.v (Value.slice none 0 0))] := by kernel_rfl
@[simp] theorem ar_37 : ar Tryz.prog 37 = none := by kernel_rfl
@[simp] theorem fo_37_0 : fo Tryz.prog 37 0 = some 0 := by kernel_rfl
@[simp] theorem fo_37_1 : fo Tryz.prog 37 1 = some 1 := by kernel_rfl
@[simp] theorem fo_37_2 : fo Tryz.prog 37 2 = some 2 := by kernel_rfl
@[simp] theorem fo_37_3 : fo Tryz.prog 37 3 = some 3 := by kernel_rfl
@[simp] theorem fo_37_4 : fo Tryz.prog 37 4 = some 4 := by kernel_rfl
@[simp] theorem tk_40 : tk Tryz.prog 40 = some (true, 8) := by kernel_rfl
@[simp] theorem places_40 : places Tryz.prog 40 = some [(0, 1), (1, 1), (2, 1), (3, 1), (4, 1), (5, 1), (6, 1), (7, 1)] := by kernel_rfl
@[simp] theorem zvA_40 : zvA Tryz.prog 40 = some [AV.d (D.v (Value.int IntKind.i64 (0))), AV.d (D.v (Value.int IntKind.i64 (0))), AV.d (D.v (Value.int IntKind.i64 (0))), AV.d (D.v (Value.int IntKind.i64 (0))), AV.d (D.v (Value.int IntKind.i64 (0))), AV.d (D.v (Value.int IntKind.u32 (0))), AV.d (D.v (Value.slice none 0 0)), AV.d (D.v (Value.slice none 0 0))] := by kernel_rfl
@[simp] theorem ar_40 : ar Tryz.prog 40 = none := by kernel_rfl
@[simp] theorem fo_40_0 : fo Tryz.prog 40 0 = some 0 := by kernel_rfl
@[simp] theorem fo_40_1 : fo Tryz.prog 40 1 = some 1 := by kernel_rfl
@[simp] theorem fo_40_2 : fo Tryz.prog 40 2 = some 2 := by kernel_rfl
@[simp] theorem fo_40_3 : fo Tryz.prog 40 3 = some 3 := by kernel_rfl
@[simp] theorem fo_40_4 : fo Tryz.prog 40 4 = some 4 := by kernel_rfl
@[simp] theorem fo_40_5 : fo Tryz.prog 40 5 = some 5 := by kernel_rfl
@[simp] theorem fo_40_6 : fo Tryz.prog 40 6 = some 6 := by kernel_rfl
@[simp] theorem fo_40_7 : fo Tryz.prog 40 7 = some 7 := by kernel_rfl
@[simp] theorem tk_47 : tk Tryz.prog 47 = some (true, 5) := by kernel_rfl
@[simp] theorem places_47 : places Tryz.prog 47 = some [(0, 1), (1, 1), (2, 1), (3, 1), (4, 1)] := by kernel_rfl
@[simp] theorem zvA_47 : zvA Tryz.prog 47 = some [AV.d (D.v (Value.bool false)), AV.d (D.v (Value.bool false)), AV.d (D.v (Value.int IntKind.u32 (0))), AV.d (D.v (Value.int IntKind.u32 (0))), AV.d (D.v (Value.int IntKind.u32 (0)))] := by kernel_rfl
@[simp] theorem fo_47_0 : fo Tryz.prog 47 0 = some 0 := by kernel_rfl
@[simp] theorem fo_47_1 : fo Tryz.prog 47 1 = some 1 := by kernel_rfl
@[simp] theorem fo_47_2 : fo Tryz.prog 47 2 = some 2 := by kernel_rfl
@[simp] theorem fo_47_3 : fo Tryz.prog 47 3 = some 3 := by kernel_rfl
@[simp] theorem tk_58 : tk Tryz.prog 58 = some (true, 2) := by kernel_rfl
@[simp] theorem places_58 : places Tryz.prog 58 = some [(0, 1), (1, 1)] := by kernel_rfl
@[simp] theorem zvA_58 : zvA Tryz.prog 58 = some [AV.d (D.v (Value.int IntKind.i64 (0))), AV.d (D.v (Value.int IntKind.u32 (0)))] := by kernel_rfl
@[simp] theorem ar_58 : ar Tryz.prog 58 = none := by kernel_rfl
@[simp] theorem fo_58_0 : fo Tryz.prog 58 0 = some 0 := by kernel_rfl
@[simp] theorem fo_58_1 : fo Tryz.prog 58 1 = some 1 := by kernel_rfl
@[simp] theorem places_64 : places Tryz.prog 64 = some [(0, 4), (4, 1), (5, 1), (6, 1), (7, 1), (8, 1)] := by kernel_rfl
@[simp] theorem zvA_64 : zvA Tryz.prog 64 = some [AV.d (D.v (Value.int IntKind.u32 (0))), AV.d (D.v (Value.slice none 0 0)), AV.d (D.v (Value.slice none 0 0)), AV.d (D.v (Value.slice none 0 0)), AV.d (D.v (Value.map none)), AV.d (D.v (Value.slice none 0 0)), AV.d (D.v (Value.map none)), AV.d (D.v (Value.slice none 0 0)), AV.d (D.v (Value.bool false))] := by kernel_rfl
@[simp] theorem fo_64_0 : fo Tryz.prog 64 0 = some 0 := by kernel_rfl
@[simp] theorem fo_64_1 : fo Tryz.prog 64 1 = some 4 := by kernel_rfl
@[simp] theorem fo_64_2 : fo Tryz.prog 64 2 = some 5 := by kernel_rfl
@[simp] theorem fo_64_4 : fo Tryz.prog 64 4 = some 7 := by kernel_rfl
@[simp] theorem fo_64_5 : fo Tryz.prog 64 5 = some 8 := by kernel_rfl
@[simp] theorem places_88 : places Tryz.prog 88 = some [(0, 4), (4, 1), (5, 1), (6, 1), (7, 1)] := by kernel_rfl
@[simp] theorem zvA_88 : zvA Tryz.prog 88 = some [AV.d (D.v (Value.int IntKind.u32 (0))), AV.d (D.v (Value.slice none 0 0)), AV.d (D.v (Value.slice none 0 0)), AV.d (D.v (Value.slice none 0 0)), AV.d (D.v (Value.slice none 0 0)), AV.d (D.v (Value.slice none 0 0)), AV.d (D.v (Value.slice none 0 0)), AV.d (D.v (Value.map none))] := by kernel_rfl
@[simp] theorem fo_88_0 : fo Tryz.prog 88 0 = some 0 := by kernel_rfl
@[simp] theorem fo_88_1 : fo Tryz.prog 88 1 = some 4 := by kernel_rfl
@[simp] theorem fo_88_4 : fo Tryz.prog 88 4 = some 7 := by kernel_rfl
@[simp] theorem tk_100 : tk Tryz.prog 100 = some (true, 1) := by kernel_rfl
@[simp] theorem places_100 : places Tryz.prog 100 = some [(0, 1)] := by kernel_rfl
@[simp] theorem zvA_100 : zvA Tryz.prog 100 = some [AV.d (D.v (Value.slice none 0 0))] := by kernel_rfl
@[simp] theorem fo_100_0 : fo Tryz.prog 100 0 = some 0 := by kernel_rfl
@[simp] theorem tk_108 : tk Tryz.prog 108 = some (true, 2) := by kernel_rfl
@[simp] theorem places_108 : places Tryz.prog 108 = some [(0, 1), (1, 1)] := by kernel_rfl
@[simp] theorem zvA_108 : zvA Tryz.prog 108 = some [AV.d (D.v (Value.int IntKind.i64 (0))), AV.d (D.v (Value.int IntKind.i64 (0)))] := by kernel_rfl
@[simp] theorem ar_108 : ar Tryz.prog 108 = none := by kernel_rfl
@[simp] theorem fo_108_0 : fo Tryz.prog 108 0 = some 0 := by kernel_rfl
@[simp] theorem fo_108_1 : fo Tryz.prog 108 1 = some 1 := by kernel_rfl
@[simp] theorem zvA_137 : zvA Tryz.prog 137 = some [AV.d (D.v (Value.int IntKind.u32 (0))), AV.d (D.v (Value.int IntKind.u32 (0)))] := by kernel_rfl
@[simp] theorem ar_137 : ar Tryz.prog 137 = some (2, 25, 1) := by kernel_rfl
@[simp] theorem tk_149 : tk Tryz.prog 149 = some (true, 13) := by kernel_rfl
@[simp] theorem places_149 : places Tryz.prog 149 = none := by kernel_rfl
@[simp] theorem zvA_149 : zvA Tryz.prog 149 = some [AV.d (D.v (Value.int IntKind.u32 (0))), AV.d (D.v (Value.int IntKind.u32 (0))), AV.d (D.v (Value.int IntKind.u32 (0))), AV.d (D.v (Value.int IntKind.u32 (0))), AV.d (D.v (Value.int IntKind.u32 (0))), AV.d (D.v (Value.int IntKind.u32 (0))), AV.d (D.v (Value.int IntKind.u32 (0))), AV.d (D.v (Value.int IntKind.u32 (0))), AV.d (D.v (Value.int IntKind.u32 (0))), AV.d (D.v (Value.int IntKind.u32 (0))), AV.d (D.v (Value.int IntKind.u32 (0))), AV.d (D.v (Value.int IntKind.u32 (0))), AV.d (D.v (Value.int IntKind.u32 (0)))] := by kernel_rfl
@[simp] theorem ar_149 : ar Tryz.prog 149 = some (13, 25, 1) := by kernel_rfl
@[simp] theorem tk_22 : tk Tryz.prog 22 = some (false, 1) := by kernel_rfl
@[simp] theorem sl_22 : sl Tryz.prog 22 = some (25, 1) := by kernel_rfl
@[simp] theorem tk_24 : tk Tryz.prog 24 = some (false, 1) := by kernel_rfl
@[simp] theorem sl_24 : sl Tryz.prog 24 = some (70, 1) := by kernel_rfl
@[simp] theorem byt_24 : byt Tryz.prog 24 = some (70, 1, 24) := by kernel_rfl
@[simp] theorem tk_26 : tk Tryz.prog 26 = some (false, 1) := by kernel_rfl
@[simp] theorem sl_26 : sl Tryz.prog 26 = some (34, 2) := by kernel_rfl
@[simp] theorem byt_26 : byt Tryz.prog 26 = some (34, 2, 32) := by kernel_rfl
@[simp] theorem tk_29 : tk Tryz.prog 29 = some (false, 1) := by kernel_rfl
@[simp] theorem sl_29 : sl Tryz.prog 29 = some (3, 1) := by kernel_rfl
@[simp] theorem zvA_29 : zvA Tryz.prog 29 = some [AV.d (D.v (Value.slice none 0 0))] := by kernel_rfl
@[simp] theorem byt_29 : byt Tryz.prog 29 = some (3, 1, 8) := by kernel_rfl
@[simp] theorem tk_32 : tk Tryz.prog 32 = some (false, 1) := by kernel_rfl
@[simp] theorem sl_32 : sl Tryz.prog 32 = some (40, 8) := by kernel_rfl
@[simp] theorem byt_32 : byt Tryz.prog 32 = some (40, 8, 96) := by kernel_rfl
@[simp] theorem tk_35 : tk Tryz.prog 35 = some (false, 1) := by kernel_rfl
@[simp] theorem sl_35 : sl Tryz.prog 35 = some (37, 5) := by kernel_rfl
@[simp] theorem byt_35 : byt Tryz.prog 35 = some (37, 5, 56) := by kernel_rfl
@[simp] theorem sl_41 : sl Tryz.prog 41 = some (47, 5) := by kernel_rfl
@[simp] theorem byt_41 : byt Tryz.prog 41 = some (47, 5, 16) := by kernel_rfl
@[simp] theorem tk_60 : tk Tryz.prog 60 = some (false, 1) := by kernel_rfl
@[simp] theorem sl_60 : sl Tryz.prog 60 = some (4, 1) := by kernel_rfl
@[simp] theorem zvA_60 : zvA Tryz.prog 60 = some [AV.d (D.v (Value.slice none 0 0))] := by kernel_rfl
@[simp] theorem byt_60 : byt Tryz.prog 60 = some (4, 1, 1) := by kernel_rfl
@[simp] theorem tk_62 : tk Tryz.prog 62 = some (false, 1) := by kernel_rfl
@[simp] theorem sl_62 : sl Tryz.prog 62 = some (29, 1) := by kernel_rfl
@[simp] theorem byt_62 : byt Tryz.prog 62 = some (29, 1, 24) := by kernel_rfl
@[simp] theorem tk_70 : tk Tryz.prog 70 = some (false, 1) := by kernel_rfl
@[simp] theorem sl_70 : sl Tryz.prog 70 = some (72, 2) := by kernel_rfl
@[simp] theorem zvA_70 : zvA Tryz.prog 70 = some [AV.d (D.v (Value.slice none 0 0))] := by kernel_rfl
@[simp] theorem tk_3 : tk Tryz.prog 3 = some (false, 1) := by kernel_rfl
@[simp] theorem isInt_3 : isInt Tryz.prog 3 = some IntKind.i64 := by kernel_rfl
@[simp] theorem zvA_3 : zvA Tryz.prog 3 = some [AV.d (D.v (Value.int IntKind.i64 (0)))] := by kernel_rfl
@[simp] theorem tk_4 : tk Tryz.prog 4 = some (false, 1) := by kernel_rfl
@[simp] theorem zvA_4 : zvA Tryz.prog 4 = some [AV.d (D.v (Value.bool false))] := by kernel_rfl
@[simp] theorem isInt_21 : isInt Tryz.prog 21 = some IntKind.i32 := by kernel_rfl
@[simp] theorem tk_25 : tk Tryz.prog 25 = some (false, 1) := by kernel_rfl
@[simp] theorem isInt_25 : isInt Tryz.prog 25 = some IntKind.u32 := by kernel_rfl
@[simp] theorem isInt_158 : isInt Tryz.prog 158 = some IntKind.i8 := by kernel_rfl
@[simp] theorem isInt_159 : isInt Tryz.prog 159 = some IntKind.i16 := by kernel_rfl
@[simp] theorem tk_59 : tk Tryz.prog 59 = some (false, 1) := by kernel_rfl
@[simp] theorem tk_83 : tk Tryz.prog 83 = some (false, 1) := by kernel_rfl
@[simp] theorem tk_86 : tk Tryz.prog 86 = some (false, 1) := by kernel_rfl
@[simp] theorem tk_91 : tk Tryz.prog 91 = some (false, 1) := by kernel_rfl
@[simp] theorem zvA_91 : zvA Tryz.prog 91 = some [AV.d (D.v Value.nilFunc)] := by kernel_rfl
@[simp] theorem okF_5 : okF Tryz.prog 5 = true := by kernel_rfl
@[simp] theorem okF_9 : okF Tryz.prog 9 = true := by kernel_rfl
@[simp] theorem okF_10 : okF Tryz.prog 10 = true := by kernel_rfl
@[simp] theorem okF_16 : okF Tryz.prog 16 = true := by kernel_rfl
@[simp] theorem okF_35 : okF Tryz.prog 35 = true := by kernel_rfl
@[simp] theorem okF_37 : okF Tryz.prog 37 = true := by kernel_rfl
@[simp] theorem okF_42 : okF Tryz.prog 42 = true := by kernel_rfl
@[simp] theorem okF_43 : okF Tryz.prog 43 = true := by kernel_rfl
@[simp] theorem okF_44 : okF Tryz.prog 44 = true := by kernel_rfl
@[simp] theorem okF_50 : okF Tryz.prog 50 = true := by kernel_rfl
@[simp] theorem okF_59 : okF Tryz.prog 59 = true := by kernel_rfl
@[simp] theorem okF_60 : okF Tryz.prog 60 = true := by kernel_rfl
@[simp] theorem okF_64 : okF Tryz.prog 64 = true := by kernel_rfl
@[simp] theorem okF_65 : okF Tryz.prog 65 = true := by kernel_rfl
@[simp] theorem okF_66 : okF Tryz.prog 66 = true := by kernel_rfl
@[simp] theorem okF_67 : okF Tryz.prog 67 = true := by kernel_rfl
@[simp] theorem okF_68 : okF Tryz.prog 68 = true := by kernel_rfl
@[simp] theorem okF_69 : okF Tryz.prog 69 = true := by kernel_rfl
@[simp] theorem okF_73 : okF Tryz.prog 73 = true := by kernel_rfl
@[simp] theorem okF_74 : okF Tryz.prog 74 = true := by kernel_rfl
@[simp] theorem okF_75 : okF Tryz.prog 75 = true := by kernel_rfl
@[simp] theorem okF_76 : okF Tryz.prog 76 = true := by kernel_rfl
@[simp] theorem okF_79 : okF Tryz.prog 79 = true := by kernel_rfl
@[simp] theorem okF_80 : okF Tryz.prog 80 = true := by kernel_rfl
@[simp] theorem okF_86 : okF Tryz.prog 86 = true := by kernel_rfl
@[simp] theorem okF_87 : okF Tryz.prog 87 = true := by kernel_rfl
@[simp] theorem okF_88 : okF Tryz.prog 88 = true := by kernel_rfl
@[simp] theorem okF_93 : okF Tryz.prog 93 = true := by kernel_rfl
@[simp] theorem okF_94 : okF Tryz.prog 94 = true := by kernel_rfl
@[simp] theorem okF_95 : okF Tryz.prog 95 = true := by kernel_rfl
@[simp] theorem okF_96 : okF Tryz.prog 96 = true := by kernel_rfl
@[simp] theorem okF_97 : okF Tryz.prog 97 = true := by kernel_rfl
@[simp] theorem okF_98 : okF Tryz.prog 98 = true := by kernel_rfl
@[simp] theorem okF_99 : okF Tryz.prog 99 = true := by kernel_rfl
@[simp] theorem okF_100 : okF Tryz.prog 100 = true := by kernel_rfl
@[simp] theorem okF_115 : okF Tryz.prog 115 = true := by kernel_rfl
end Go.Proofs.YtinkdalcmnnocaaGreat
