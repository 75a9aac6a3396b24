import Derived.Test.YtfnbhkbfelllgaaGreatDoorProg
import Derived.Test.YtfnbhkbfelllgaaGreatDoorAh
import Derived.KernelRfl
namespace Go.Proofs.YtfnbhkbfelllgaaGreatDoor
set_option maxRecDepth 100000
@[simp] theorem tk_25:tk Tryz.prog 25=some (true,2):=by kernel_rfl
@[simp] theorem fo_25_1:fo Tryz.prog 25 1=some 1:=by kernel_rfl
@[simp] theorem tk_29:tk Tryz.prog 29=some (true,5):=by kernel_rfl
@[simp] theorem places_29:places Tryz.prog 29=some [(0,1),(1,1),(2,1),(3,1),(4,1)]:=by kernel_rfl
@[simp] theorem zvA_29:zvA Tryz.prog 29=some [AV.d (D.v (Value.int IntKind.i64 (0))),AV.d (D.v (Value.int IntKind.i64 (0))),AV.d (D.v (Value.int IntKind.i64 (0))),AV.d (D.v (Value.slice none 0 0)),AV.d (D.v (Value.slice none 0 0))]:=by kernel_rfl
@[simp] theorem ar_29:ar Tryz.prog 29=none:=by kernel_rfl
@[simp] theorem fo_29_0:fo Tryz.prog 29 0=some 0:=by kernel_rfl
@[simp] theorem fo_29_1:fo Tryz.prog 29 1=some 1:=by kernel_rfl
@[simp] theorem fo_29_2:fo Tryz.prog 29 2=some 2:=by kernel_rfl
@[simp] theorem fo_29_3:fo Tryz.prog 29 3=some 3:=by kernel_rfl
@[simp] theorem fo_29_4:fo Tryz.prog 29 4=some 4:=by kernel_rfl
@[simp] theorem tk_39:tk Tryz.prog 39=some (true,3):=by kernel_rfl
@[simp] theorem places_39:places Tryz.prog 39=some [(0,1),(1,1),(2,1)]:=by kernel_rfl
@[simp] theorem zvA_39:zvA Tryz.prog 39=some [AV.d (D.v (Value.string { data:=#[] })),AV.d (D.v (Value.slice none 0 0)),AV.d (D.v (Value.slice none 0 0))]:=by kernel_rfl
@[simp] theorem ar_39:ar Tryz.prog 39=none:=by kernel_rfl
@[simp] theorem fo_39_0:fo Tryz.prog 39 0=some 0:=by kernel_rfl
@[simp] theorem fo_39_1:fo Tryz.prog 39 1=some 1:=by kernel_rfl
@[simp] theorem fo_39_2:fo Tryz.prog 39 2=some 2:=by kernel_rfl
@[simp] theorem tk_52:tk Tryz.prog 52=some (true,2):=by kernel_rfl
@[simp] theorem zvA_52:zvA Tryz.prog 52=some [AV.d (D.v (Value.int IntKind.u32 (0))),AV.d (D.v (Value.slice none 0 0))]:=by kernel_rfl
@[simp] theorem ar_52:ar Tryz.prog 52=none:=by kernel_rfl
@[simp] theorem fo_52_1:fo Tryz.prog 52 1=some 1:=by kernel_rfl
@[simp] theorem tk_56:tk Tryz.prog 56=some (true,5):=by kernel_rfl
@[simp] theorem places_56:places Tryz.prog 56=some [(0,1),(1,1),(2,1),(3,1),(4,1)]:=by kernel_rfl
@[simp] theorem zvA_56:zvA Tryz.prog 56=some [AV.d (D.v (Value.int IntKind.i64 (0))),AV.d (D.v (Value.int IntKind.u32 (0))),AV.d (D.v (Value.string { data:=#[] })),AV.d (D.v (Value.int IntKind.i64 (0))),AV.d (D.v (Value.slice none 0 0))]:=by kernel_rfl
@[simp] theorem ar_56:ar Tryz.prog 56=none:=by kernel_rfl
@[simp] theorem fo_56_2:fo Tryz.prog 56 2=some 2:=by kernel_rfl
@[simp] theorem fo_56_4:fo Tryz.prog 56 4=some 4:=by kernel_rfl
@[simp] theorem tk_60:tk Tryz.prog 60=some (true,5):=by kernel_rfl
@[simp] theorem places_60:places Tryz.prog 60=some [(0,1),(1,1),(2,1),(3,1),(4,1)]:=by kernel_rfl
@[simp] theorem zvA_60:zvA Tryz.prog 60=some [AV.d (D.v (Value.int IntKind.i64 (0))),AV.d (D.v (Value.int IntKind.u32 (0))),AV.d (D.v (Value.int IntKind.i64 (0))),AV.d (D.v (Value.int IntKind.i64 (0))),AV.d (D.v (Value.slice none 0 0))]:=by kernel_rfl
@[simp] theorem ar_60:ar Tryz.prog 60=none:=by kernel_rfl
@[simp] theorem fo_60_0:fo Tryz.prog 60 0=some 0:=by kernel_rfl
@[simp] theorem fo_60_1:fo Tryz.prog 60 1=some 1:=by kernel_rfl
@[simp] theorem fo_60_2:fo Tryz.prog 60 2=some 2:=by kernel_rfl
@[simp] theorem fo_60_3:fo Tryz.prog 60 3=some 3:=by kernel_rfl
@[simp] theorem fo_60_4:fo Tryz.prog 60 4=some 4:=by kernel_rfl
@[simp] theorem tk_62:tk Tryz.prog 62=some (true,8):=by kernel_rfl
@[simp] theorem zvA_62:zvA Tryz.prog 62=some [AV.d (D.v (Value.int IntKind.i64 (0))),AV.d (D.v (Value.int IntKind.i64 (0))),AV.d (D.v (Value.int IntKind.i64 (0))),AV.d (D.v (Value.int IntKind.i64 (0))),AV.d (D.v (Value.int IntKind.i64 (0))),AV.d (D.v (Value.int IntKind.u32 (0))),AV.d (D.v (Value.slice none 0 0)),AV.d (D.v (Value.slice none 0 0))]:=by kernel_rfl
@[simp] theorem ar_62:ar Tryz.prog 62=none:=by kernel_rfl
@[simp] theorem fo_62_0:fo Tryz.prog 62 0=some 0:=by kernel_rfl
@[simp] theorem fo_62_1:fo Tryz.prog 62 1=some 1:=by kernel_rfl
@[simp] theorem fo_62_2:fo Tryz.prog 62 2=some 2:=by kernel_rfl
@[simp] theorem fo_62_3:fo Tryz.prog 62 3=some 3:=by kernel_rfl
@[simp] theorem fo_62_4:fo Tryz.prog 62 4=some 4:=by kernel_rfl
@[simp] theorem fo_62_5:fo Tryz.prog 62 5=some 5:=by kernel_rfl
@[simp] theorem fo_62_6:fo Tryz.prog 62 6=some 6:=by kernel_rfl
@[simp] theorem fo_62_7:fo Tryz.prog 62 7=some 7:=by kernel_rfl
@[simp] theorem places_66:places Tryz.prog 66=some [(0,1),(1,1),(2,1),(3,1),(4,1)]:=by kernel_rfl
@[simp] theorem zvA_66:zvA Tryz.prog 66=some [AV.d (D.v (Value.int IntKind.i64 (0))),AV.d (D.v (Value.int IntKind.i64 (0))),AV.d (D.v (Value.int IntKind.i64 (0))),AV.d (D.v (Value.slice none 0 0)),AV.d (D.v (Value.slice none 0 0))]:=by kernel_rfl
@[simp] theorem places_68:places Tryz.prog 68=some [(0,1),(1,5)]:=by kernel_rfl
@[simp] theorem zvA_68:zvA Tryz.prog 68=some [AV.d (D.v (Value.string { data:=#[] })),AV.d (D.v (Value.int IntKind.i64 (0))),AV.d (D.v (Value.int IntKind.i64 (0))),AV.d (D.v (Value.int IntKind.i64 (0))),AV.d (D.v (Value.slice none 0 0)),AV.d (D.v (Value.slice none 0 0))]:=by kernel_rfl
@[simp] theorem tk_71:tk Tryz.prog 71=some (true,7):=by kernel_rfl
@[simp] theorem places_71:places Tryz.prog 71=some [(0,1),(1,1),(2,1),(3,1),(4,1),(5,1),(6,1)]:=by kernel_rfl
@[simp] theorem zvA_71:zvA Tryz.prog 71=some [AV.d (D.v (Value.int IntKind.i64 (0))),AV.d (D.v (Value.int IntKind.i64 (0))),AV.d (D.v (Value.string { data:=#[] })),AV.d (D.v (Value.slice none 0 0)),AV.d (D.v (Value.slice none 0 0)),AV.d (D.v (Value.slice none 0 0)),AV.d (D.v (Value.slice none 0 0))]:=by kernel_rfl
@[simp] theorem ar_71:ar Tryz.prog 71=none:=by kernel_rfl
@[simp] theorem fo_71_0:fo Tryz.prog 71 0=some 0:=by kernel_rfl
@[simp] theorem fo_71_1:fo Tryz.prog 71 1=some 1:=by kernel_rfl
@[simp] theorem fo_71_2:fo Tryz.prog 71 2=some 2:=by kernel_rfl
@[simp] theorem fo_71_4:fo Tryz.prog 71 4=some 4:=by kernel_rfl
@[simp] theorem fo_71_5:fo Tryz.prog 71 5=some 5:=by kernel_rfl
@[simp] theorem fo_71_6:fo Tryz.prog 71 6=some 6:=by kernel_rfl
@[simp] theorem places_85:places Tryz.prog 85=some [(0,2),(2,1),(3,1),(4,1)]:=by kernel_rfl
@[simp] theorem zvA_85:zvA Tryz.prog 85=some [AV.d (D.v (Value.int IntKind.u32 (0))),AV.d (D.v (Value.slice none 0 0)),AV.d (D.v (Value.slice none 0 0)),AV.d (D.v (Value.slice none 0 0)),AV.d (D.v (Value.slice none 0 0))]:=by kernel_rfl
@[simp] theorem fo_85_0:fo Tryz.prog 85 0=some 0:=by kernel_rfl
@[simp] theorem fo_85_1:fo Tryz.prog 85 1=some 2:=by kernel_rfl
@[simp] theorem fo_85_2:fo Tryz.prog 85 2=some 3:=by kernel_rfl
@[simp] theorem fo_85_3:fo Tryz.prog 85 3=some 4:=by kernel_rfl
@[simp] theorem tk_103:tk Tryz.prog 103=some (true,3):=by kernel_rfl
@[simp] theorem places_103:places Tryz.prog 103=some [(0,1),(1,1),(2,1)]:=by kernel_rfl
@[simp] theorem zvA_103:zvA Tryz.prog 103=some [AV.d (D.v (Value.int IntKind.i64 (0))),AV.d (D.v (Value.int IntKind.i64 (0))),AV.d (D.v (Value.int IntKind.i64 (0)))]:=by kernel_rfl
@[simp] theorem ar_103:ar Tryz.prog 103=none:=by kernel_rfl
@[simp] theorem fo_103_0:fo Tryz.prog 103 0=some 0:=by kernel_rfl
@[simp] theorem fo_103_1:fo Tryz.prog 103 1=some 1:=by kernel_rfl
@[simp] theorem fo_103_2:fo Tryz.prog 103 2=some 2:=by kernel_rfl
@[simp] theorem places_148:places Tryz.prog 148=some [(0,2),(2,1),(3,1),(4,1)]:=by kernel_rfl
@[simp] theorem zvA_148:zvA Tryz.prog 148=some [AV.d (D.v (Value.int IntKind.u32 (0))),AV.d (D.v (Value.slice none 0 0)),AV.d (D.v (Value.slice none 0 0)),AV.d (D.v (Value.slice none 0 0)),AV.d (D.v (Value.map none))]:=by kernel_rfl
@[simp] theorem fo_148_0:fo Tryz.prog 148 0=some 0:=by kernel_rfl
@[simp] theorem fo_148_1:fo Tryz.prog 148 1=some 2:=by kernel_rfl
@[simp] theorem fo_148_2:fo Tryz.prog 148 2=some 3:=by kernel_rfl
@[simp] theorem fo_148_3:fo Tryz.prog 148 3=some 4:=by kernel_rfl
@[simp] theorem tk_153:tk Tryz.prog 153=some (true,4):=by kernel_rfl
@[simp] theorem places_153:places Tryz.prog 153=some [(0,1),(1,1),(2,1),(3,1)]:=by kernel_rfl
@[simp] theorem zvA_153:zvA Tryz.prog 153=some [AV.d (D.v (Value.int IntKind.i64 (0))),AV.d (D.v (Value.slice none 0 0)),AV.d (D.v (Value.slice none 0 0)),AV.d (D.v (Value.int IntKind.i64 (0)))]:=by kernel_rfl
@[simp] theorem ar_153:ar Tryz.prog 153=none:=by kernel_rfl
@[simp] theorem fo_153_0:fo Tryz.prog 153 0=some 0:=by kernel_rfl
@[simp] theorem fo_153_1:fo Tryz.prog 153 1=some 1:=by kernel_rfl
@[simp] theorem fo_153_3:fo Tryz.prog 153 3=some 3:=by kernel_rfl
@[simp] theorem tk_196:tk Tryz.prog 196=some (true,2):=by kernel_rfl
@[simp] theorem places_196:places Tryz.prog 196=none:=by kernel_rfl
@[simp] theorem zvA_196:zvA Tryz.prog 196=some [AV.d (D.v (Value.int IntKind.i64 (0))),AV.d (D.v (Value.int IntKind.i64 (0)))]:=by kernel_rfl
@[simp] theorem ar_196:ar Tryz.prog 196=some (2,3,1):=by kernel_rfl
@[simp] theorem tk_23:tk Tryz.prog 23=some (false,1):=by kernel_rfl
@[simp] theorem sl_23:sl Tryz.prog 23=some (52,2):=by kernel_rfl
@[simp] theorem tk_26:tk Tryz.prog 26=some (false,1):=by kernel_rfl
@[simp] theorem sl_26:sl Tryz.prog 26=some (60,5):=by kernel_rfl
@[simp] theorem byt_26:byt Tryz.prog 26=some (60,5,56):=by kernel_rfl
@[simp] theorem tk_27:tk Tryz.prog 27=some (false,1):=by kernel_rfl
@[simp] theorem sl_27:sl Tryz.prog 27=some (29,5):=by kernel_rfl
@[simp] theorem byt_27:byt Tryz.prog 27=some (29,5,72):=by kernel_rfl
@[simp] theorem tk_30:tk Tryz.prog 30=some (false,1):=by kernel_rfl
@[simp] theorem sl_30:sl Tryz.prog 30=some (9,1):=by kernel_rfl
@[simp] theorem byt_30:byt Tryz.prog 30=some (9,1,16):=by kernel_rfl
@[simp] theorem tk_31:tk Tryz.prog 31=some (false,1):=by kernel_rfl
@[simp] theorem sl_31:sl Tryz.prog 31=some (22,1):=by kernel_rfl
@[simp] theorem tk_36:tk Tryz.prog 36=some (false,1):=by kernel_rfl
@[simp] theorem sl_36:sl Tryz.prog 36=some (68,6):=by kernel_rfl
@[simp] theorem byt_36:byt Tryz.prog 36=some (68,6,88):=by kernel_rfl
@[simp] theorem tk_37:tk Tryz.prog 37=some (false,1):=by kernel_rfl
@[simp] theorem sl_37:sl Tryz.prog 37=some (71,7):=by kernel_rfl
@[simp] theorem zvA_37:zvA Tryz.prog 37=some [AV.d (D.v (Value.slice none 0 0))]:=by kernel_rfl
@[simp] theorem byt_37:byt Tryz.prog 37=some (71,7,128):=by kernel_rfl
@[simp] theorem tk_48:tk Tryz.prog 48=some (false,1):=by kernel_rfl
@[simp] theorem sl_48:sl Tryz.prog 48=some (3,1):=by kernel_rfl
@[simp] theorem zvA_48:zvA Tryz.prog 48=some [AV.d (D.v (Value.slice none 0 0))]:=by kernel_rfl
@[simp] theorem byt_48:byt Tryz.prog 48=some (3,1,8):=by kernel_rfl
@[simp] theorem tk_50:tk Tryz.prog 50=some (false,1):=by kernel_rfl
@[simp] theorem sl_50:sl Tryz.prog 50=some (62,8):=by kernel_rfl
@[simp] theorem tk_54:tk Tryz.prog 54=some (false,1):=by kernel_rfl
@[simp] theorem sl_54:sl Tryz.prog 54=some (56,5):=by kernel_rfl
@[simp] theorem byt_54:byt Tryz.prog 54=some (56,5,64):=by kernel_rfl
@[simp] theorem tk_69:tk Tryz.prog 69=some (false,1):=by kernel_rfl
@[simp] theorem sl_69:sl Tryz.prog 69=some (37,1):=by kernel_rfl
@[simp] theorem byt_69:byt Tryz.prog 69=some (37,1,24):=by kernel_rfl
@[simp] theorem tk_145:tk Tryz.prog 145=some (false,1):=by kernel_rfl
@[simp] theorem sl_145:sl Tryz.prog 145=some (48,1):=by kernel_rfl
@[simp] theorem byt_145:byt Tryz.prog 145=some (48,1,24):=by kernel_rfl
@[simp] theorem sl_150:sl Tryz.prog 150=some (153,4):=by kernel_rfl
@[simp] theorem byt_150:byt Tryz.prog 150=some (153,4,64):=by kernel_rfl
@[simp] theorem tk_181:tk Tryz.prog 181=some (false,1):=by kernel_rfl
@[simp] theorem sl_181:sl Tryz.prog 181=some (4,1):=by kernel_rfl
@[simp] theorem zvA_181:zvA Tryz.prog 181=some [AV.d (D.v (Value.slice none 0 0))]:=by kernel_rfl
@[simp] theorem byt_181:byt Tryz.prog 181=some (4,1,1):=by kernel_rfl
@[simp] theorem sl_193:sl Tryz.prog 193=some (196,2):=by kernel_rfl
@[simp] theorem byt_193:byt Tryz.prog 193=some (196,2,16):=by kernel_rfl
@[simp] theorem tk_3:tk Tryz.prog 3=some (false,1):=by kernel_rfl
@[simp] theorem zvA_3:zvA Tryz.prog 3=some [AV.d (D.v (Value.int IntKind.i64 (0)))]:=by kernel_rfl
@[simp] theorem tk_4:tk Tryz.prog 4=some (false,1):=by kernel_rfl
@[simp] theorem zvA_4:zvA Tryz.prog 4=some [AV.d (D.v (Value.bool false))]:=by kernel_rfl
@[simp] theorem tk_9:tk Tryz.prog 9=some (false,1):=by kernel_rfl
@[simp] theorem zvA_9:zvA Tryz.prog 9=some [AV.d (D.v (Value.string { data:=#[] }))]:=by kernel_rfl
@[simp] theorem tk_22:tk Tryz.prog 22=some (false,1):=by kernel_rfl
@[simp] theorem tk_83:tk Tryz.prog 83=some (false,1):=by kernel_rfl
@[simp] theorem tk_99:tk Tryz.prog 99=some (false,1):=by kernel_rfl
@[simp] theorem tk_146:tk Tryz.prog 146=some (false,1):=by kernel_rfl
@[simp] theorem tk_162:tk Tryz.prog 162=some (false,1):=by kernel_rfl
@[simp] theorem zvA_162:zvA Tryz.prog 162=some [AV.d (D.v Value.nilFunc)]:=by kernel_rfl
@[simp] theorem okF_6:okF Tryz.prog 6=true:=by kernel_rfl
@[simp] theorem okF_21:okF Tryz.prog 21=true:=by kernel_rfl
@[simp] theorem okF_29:okF Tryz.prog 29=true:=by kernel_rfl
@[simp] theorem okF_39:okF Tryz.prog 39=true:=by kernel_rfl
@[simp] theorem okF_40:okF Tryz.prog 40=true:=by kernel_rfl
@[simp] theorem okF_45:okF Tryz.prog 45=true:=by kernel_rfl
@[simp] theorem okF_46:okF Tryz.prog 46=true:=by kernel_rfl
@[simp] theorem okF_47:okF Tryz.prog 47=true:=by kernel_rfl
@[simp] theorem okF_48:okF Tryz.prog 48=true:=by kernel_rfl
@[simp] theorem okF_51:okF Tryz.prog 51=true:=by kernel_rfl
@[simp] theorem okF_61:okF Tryz.prog 61=true:=by kernel_rfl
@[simp] theorem okF_62:okF Tryz.prog 62=true:=by kernel_rfl
@[simp] theorem okF_71:okF Tryz.prog 71=true:=by kernel_rfl
@[simp] theorem okF_72:okF Tryz.prog 72=true:=by kernel_rfl
@[simp] theorem okF_73:okF Tryz.prog 73=true:=by kernel_rfl
@[simp] theorem okF_74:okF Tryz.prog 74=true:=by kernel_rfl
@[simp] theorem okF_76:okF Tryz.prog 76=true:=by kernel_rfl
@[simp] theorem okF_77:okF Tryz.prog 77=true:=by kernel_rfl
@[simp] theorem okF_98:okF Tryz.prog 98=true:=by kernel_rfl
@[simp] theorem okF_99:okF Tryz.prog 99=true:=by kernel_rfl
@[simp] theorem okF_100:okF Tryz.prog 100=true:=by kernel_rfl
@[simp] theorem okF_101:okF Tryz.prog 101=true:=by kernel_rfl
@[simp] theorem okF_102:okF Tryz.prog 102=true:=by kernel_rfl
@[simp] theorem okF_103:okF Tryz.prog 103=true:=by kernel_rfl
@[simp] theorem okF_106:okF Tryz.prog 106=true:=by kernel_rfl
@[simp] theorem okF_114:okF Tryz.prog 114=true:=by kernel_rfl
@[simp] theorem okF_115:okF Tryz.prog 115=true:=by kernel_rfl
@[simp] theorem okF_116:okF Tryz.prog 116=true:=by kernel_rfl
@[simp] theorem okF_118:okF Tryz.prog 118=true:=by kernel_rfl
@[simp] theorem okF_119:okF Tryz.prog 119=true:=by kernel_rfl
@[simp] theorem okF_120:okF Tryz.prog 120=true:=by kernel_rfl
@[simp] theorem okF_121:okF Tryz.prog 121=true:=by kernel_rfl
@[simp] theorem okF_134:okF Tryz.prog 134=true:=by kernel_rfl
@[simp] theorem okF_135:okF Tryz.prog 135=true:=by kernel_rfl
@[simp] theorem okF_136:okF Tryz.prog 136=true:=by kernel_rfl
@[simp] theorem okF_137:okF Tryz.prog 137=true:=by kernel_rfl
@[simp] theorem okF_138:okF Tryz.prog 138=true:=by kernel_rfl
@[simp] theorem okF_141:okF Tryz.prog 141=true:=by kernel_rfl
@[simp] theorem okF_144:okF Tryz.prog 144=true:=by kernel_rfl
@[simp] theorem okF_153:okF Tryz.prog 153=true:=by kernel_rfl
@[simp] theorem okF_154:okF Tryz.prog 154=true:=by kernel_rfl
@[simp] theorem okF_169:okF Tryz.prog 169=true:=by kernel_rfl
@[simp] theorem okF_171:okF Tryz.prog 171=true:=by kernel_rfl
@[simp] theorem okF_172:okF Tryz.prog 172=true:=by kernel_rfl
@[simp] theorem okF_173:okF Tryz.prog 173=true:=by kernel_rfl
@[simp] theorem okF_174:okF Tryz.prog 174=true:=by kernel_rfl
@[simp] theorem okF_175:okF Tryz.prog 175=true:=by kernel_rfl
@[simp] theorem okF_210:okF Tryz.prog 210=true:=by kernel_rfl
@[simp] theorem okF_213:okF Tryz.prog 213=true:=by kernel_rfl
@[simp] theorem okF_218:okF Tryz.prog 218=true:=by kernel_rfl
end Go.Proofs.YtfnbhkbfelllgaaGreatDoor
