/- A part of the proof: ZT, D4, D9, D10, D8, HI9, GM, D2, ZTo, ZA, ZB, ZC, ZD, ZE, ZF, ZG, ZH, ZI, ZJ, ZK, D3. -/
import Derived.Test.YtknondpcbpgpoaaGreatK03
import Derived.Test.YtknondpcbpgpoaaGreatProg
import Derived.KernelRfl
import Derived.Lib.SlicesCompact
set_option linter.unusedVariables false
set_option linter.unusedSimpArgs false
section
namespace Go.TM.ZT
open Go.Proofs
@[simp] theorem ti_2:tiOf Tryz.prog 2=(some (TI.mk 1 false 8 (.int .i64 0))):=by kernel_rfl
@[simp] theorem int_2:intOf Tryz.prog 2=(some .i64):=by kernel_rfl
@[simp] theorem ti_3:tiOf Tryz.prog 3=(some (TI.mk 1 false 8 (.int .i64 0))):=by kernel_rfl
@[simp] theorem int_3:intOf Tryz.prog 3=(some .i64):=by kernel_rfl
@[simp] theorem ti_4:tiOf Tryz.prog 4=(some (TI.mk 1 false 1 (.bool false))):=by kernel_rfl
@[simp] theorem bol_4:bolOf Tryz.prog 4=true:=by kernel_rfl
@[simp] theorem ti_5:tiOf Tryz.prog 5=(some (TI.mk 1 false 1 (.int .u8 0))):=by kernel_rfl
@[simp] theorem int_5:intOf Tryz.prog 5=(some .u8):=by kernel_rfl
@[simp] theorem ti_6:tiOf Tryz.prog 6=(some (TI.mk 1 false 1 (.int .u8 0))):=by kernel_rfl
@[simp] theorem int_6:intOf Tryz.prog 6=(some .u8):=by kernel_rfl
@[simp] theorem ti_7:tiOf Tryz.prog 7=(some (TI.mk 4 true 24 (.agg [(.int .i64 0),(.int .i64 0),(.bool false),(.int .u8 0)]))):=by kernel_rfl
@[simp] theorem eqs_7:eqsOf Tryz.prog 7=(some [(.int .i64 0),(.int .i64 0),(.bool false),(.int .u8 0)]):=by kernel_rfl
@[simp] theorem bld_7:bldOf Tryz.prog 7=true:=by kernel_rfl
@[simp] theorem fld_7_0:fldOf Tryz.prog 7 0=(some (0,2)):=by kernel_rfl
@[simp] theorem fld_7_1:fldOf Tryz.prog 7 1=(some (1,3)):=by kernel_rfl
@[simp] theorem fld_7_2:fldOf Tryz.prog 7 2=(some (2,4)):=by kernel_rfl
@[simp] theorem fld_7_3:fldOf Tryz.prog 7 3=(some (3,6)):=by kernel_rfl
@[simp] theorem ti_8:tiOf Tryz.prog 8=(some (TI.mk 4 true 24 (.agg [(.int .i64 0),(.int .i64 0),(.bool false),(.int .u8 0)]))):=by kernel_rfl
@[simp] theorem eqs_8:eqsOf Tryz.prog 8=(some [(.int .i64 0),(.int .i64 0),(.bool false),(.int .u8 0)]):=by kernel_rfl
@[simp] theorem bld_8:bldOf Tryz.prog 8=true:=by kernel_rfl
@[simp] theorem fld_8_0:fldOf Tryz.prog 8 0=(some (0,2)):=by kernel_rfl
@[simp] theorem fld_8_1:fldOf Tryz.prog 8 1=(some (1,3)):=by kernel_rfl
@[simp] theorem fld_8_2:fldOf Tryz.prog 8 2=(some (2,4)):=by kernel_rfl
@[simp] theorem fld_8_3:fldOf Tryz.prog 8 3=(some (3,6)):=by kernel_rfl
@[simp] theorem ti_9:tiOf Tryz.prog 9=(some (TI.mk 1 false 16 (.str ⟨#[]⟩))):=by kernel_rfl
@[simp] theorem str_9:strOf Tryz.prog 9=true:=by kernel_rfl
@[simp] theorem ti_10:tiOf Tryz.prog 10=(some (TI.mk 1 false 16 (.str ⟨#[]⟩))):=by kernel_rfl
@[simp] theorem str_10:strOf Tryz.prog 10=true:=by kernel_rfl
@[simp] theorem ti_11:tiOf Tryz.prog 11=(some (TI.mk 1 false 16 (.str ⟨#[]⟩))):=by kernel_rfl
@[simp] theorem str_11:strOf Tryz.prog 11=true:=by kernel_rfl
@[simp] theorem ti_12:tiOf Tryz.prog 12=(some (TI.mk 1 false 8 (.int .u64 0))):=by kernel_rfl
@[simp] theorem int_12:intOf Tryz.prog 12=(some .u64):=by kernel_rfl
@[simp] theorem ti_13:tiOf Tryz.prog 13=(some (TI.mk 2 true 24 (.agg [(.str ⟨#[]⟩),(.int .u64 0)]))):=by kernel_rfl
@[simp] theorem bld_13:bldOf Tryz.prog 13=true:=by kernel_rfl
@[simp] theorem fld_13_0:fldOf Tryz.prog 13 0=(some (0,9)):=by kernel_rfl
@[simp] theorem fld_13_1:fldOf Tryz.prog 13 1=(some (1,12)):=by kernel_rfl
@[simp] theorem ti_14:tiOf Tryz.prog 14=(some (TI.mk 2 true 24 (.agg [(.str ⟨#[]⟩),(.int .u64 0)]))):=by kernel_rfl
@[simp] theorem bld_14:bldOf Tryz.prog 14=true:=by kernel_rfl
@[simp] theorem fld_14_0:fldOf Tryz.prog 14 0=(some (0,9)):=by kernel_rfl
@[simp] theorem fld_14_1:fldOf Tryz.prog 14 1=(some (1,12)):=by kernel_rfl
@[simp] theorem ti_15:tiOf Tryz.prog 15=(some (TI.mk 1 false 8 .nilp)):=by kernel_rfl
@[simp] theorem ti_16:tiOf Tryz.prog 16=(some (TI.mk 1 false 8 .nilp)):=by kernel_rfl
@[simp] theorem ti_17:tiOf Tryz.prog 17=(some (TI.mk 1 false 8 .nilp)):=by kernel_rfl
@[simp] theorem ti_18:tiOf Tryz.prog 18=(some (TI.mk 1 true 8 (.agg [.nilp]))):=by kernel_rfl
@[simp] theorem bld_18:bldOf Tryz.prog 18=true:=by kernel_rfl
@[simp] theorem fld_18_0:fldOf Tryz.prog 18 0=(some (0,17)):=by kernel_rfl
@[simp] theorem ti_19:tiOf Tryz.prog 19=(some (TI.mk 1 true 8 (.agg [.nilp]))):=by kernel_rfl
@[simp] theorem bld_19:bldOf Tryz.prog 19=true:=by kernel_rfl
@[simp] theorem fld_19_0:fldOf Tryz.prog 19 0=(some (0,17)):=by kernel_rfl
@[simp] theorem ti_20:tiOf Tryz.prog 20=(some (TI.mk 1 false 16 .nili)):=by kernel_rfl
@[simp] theorem ti_21:tiOf Tryz.prog 21=(some (TI.mk 1 false 4 (.int .i32 0))):=by kernel_rfl
@[simp] theorem int_21:intOf Tryz.prog 21=(some .i32):=by kernel_rfl
@[simp] theorem ti_22:tiOf Tryz.prog 22=(some (TI.mk 1 false 24 (.inl 1 []))):=by kernel_rfl
@[simp] theorem el_22:elOf Tryz.prog 22=(some 9):=by kernel_rfl
@[simp] theorem ti_23:tiOf Tryz.prog 23=(some (TI.mk 1 false 24 (.inl 6 []))):=by kernel_rfl
@[simp] theorem el_23:elOf Tryz.prog 23=(some 141):=by kernel_rfl
@[simp] theorem ti_24:tiOf Tryz.prog 24=(some (TI.mk 1 false 24 (.inl 6 []))):=by kernel_rfl
@[simp] theorem el_24:elOf Tryz.prog 24=(some 145):=by kernel_rfl
@[simp] theorem ti_25:tiOf Tryz.prog 25=(some (TI.mk 1 false 24 (.inl 2 []))):=by kernel_rfl
@[simp] theorem el_25:elOf Tryz.prog 25=(some 147):=by kernel_rfl
@[simp] theorem ti_26:tiOf Tryz.prog 26=(some (TI.mk 5 true 112 (.agg [(.str ⟨#[]⟩),(.inl 1 []),(.inl 6 []),(.inl 6 []),(.inl 2 [])]))):=by kernel_rfl
@[simp] theorem bld_26:bldOf Tryz.prog 26=true:=by kernel_rfl
@[simp] theorem fld_26_0:fldOf Tryz.prog 26 0=(some (0,9)):=by kernel_rfl
@[simp] theorem fld_26_1:fldOf Tryz.prog 26 1=(some (1,22)):=by kernel_rfl
@[simp] theorem fld_26_2:fldOf Tryz.prog 26 2=(some (2,23)):=by kernel_rfl
@[simp] theorem fld_26_3:fldOf Tryz.prog 26 3=(some (3,24)):=by kernel_rfl
@[simp] theorem fld_26_4:fldOf Tryz.prog 26 4=(some (4,25)):=by kernel_rfl
@[simp] theorem ti_27:tiOf Tryz.prog 27=(some (TI.mk 5 true 112 (.agg [(.str ⟨#[]⟩),(.inl 1 []),(.inl 6 []),(.inl 6 []),(.inl 2 [])]))):=by kernel_rfl
@[simp] theorem bld_27:bldOf Tryz.prog 27=true:=by kernel_rfl
@[simp] theorem fld_27_0:fldOf Tryz.prog 27 0=(some (0,9)):=by kernel_rfl
@[simp] theorem fld_27_1:fldOf Tryz.prog 27 1=(some (1,22)):=by kernel_rfl
@[simp] theorem fld_27_2:fldOf Tryz.prog 27 2=(some (2,23)):=by kernel_rfl
@[simp] theorem fld_27_3:fldOf Tryz.prog 27 3=(some (3,24)):=by kernel_rfl
@[simp] theorem fld_27_4:fldOf Tryz.prog 27 4=(some (4,25)):=by kernel_rfl
@[simp] theorem ti_29:tiOf Tryz.prog 29=(some (TI.mk 1 false 24 (.inl 6 []))):=by kernel_rfl
@[simp] theorem el_29:elOf Tryz.prog 29=(some 164):=by kernel_rfl
@[simp] theorem ti_30:tiOf Tryz.prog 30=(some (TI.mk 1 false 24 (.inl 6 []))):=by kernel_rfl
@[simp] theorem el_30:elOf Tryz.prog 30=(some 151):=by kernel_rfl
@[simp] theorem ti_31:tiOf Tryz.prog 31=(some (TI.mk 1 false 24 (.inl 2 []))):=by kernel_rfl
@[simp] theorem el_31:elOf Tryz.prog 31=(some 135):=by kernel_rfl
@[simp] theorem ti_32:tiOf Tryz.prog 32=(some (TI.mk 5 true 112 (.agg [(.str ⟨#[]⟩),(.inl 1 []),(.inl 6 []),(.inl 6 []),(.inl 2 [])]))):=by kernel_rfl
@[simp] theorem bld_32:bldOf Tryz.prog 32=true:=by kernel_rfl
@[simp] theorem fld_32_0:fldOf Tryz.prog 32 0=(some (0,9)):=by kernel_rfl
@[simp] theorem fld_32_1:fldOf Tryz.prog 32 1=(some (1,22)):=by kernel_rfl
@[simp] theorem fld_32_2:fldOf Tryz.prog 32 2=(some (2,29)):=by kernel_rfl
@[simp] theorem fld_32_3:fldOf Tryz.prog 32 3=(some (3,30)):=by kernel_rfl
@[simp] theorem fld_32_4:fldOf Tryz.prog 32 4=(some (4,31)):=by kernel_rfl
@[simp] theorem ti_33:tiOf Tryz.prog 33=(some (TI.mk 5 true 112 (.agg [(.str ⟨#[]⟩),(.inl 1 []),(.inl 6 []),(.inl 6 []),(.inl 2 [])]))):=by kernel_rfl
@[simp] theorem bld_33:bldOf Tryz.prog 33=true:=by kernel_rfl
@[simp] theorem fld_33_0:fldOf Tryz.prog 33 0=(some (0,9)):=by kernel_rfl
@[simp] theorem fld_33_1:fldOf Tryz.prog 33 1=(some (1,22)):=by kernel_rfl
@[simp] theorem fld_33_2:fldOf Tryz.prog 33 2=(some (2,29)):=by kernel_rfl
@[simp] theorem fld_33_3:fldOf Tryz.prog 33 3=(some (3,30)):=by kernel_rfl
@[simp] theorem fld_33_4:fldOf Tryz.prog 33 4=(some (4,31)):=by kernel_rfl
@[simp] theorem ti_43:tiOf Tryz.prog 43=(some (TI.mk 1 false 24 (.inl 6 []))):=by kernel_rfl
@[simp] theorem el_43:elOf Tryz.prog 43=(some 110):=by kernel_rfl
@[simp] theorem ti_45:tiOf Tryz.prog 45=(some (TI.mk 1 false 24 (.inl 5 []))):=by kernel_rfl
@[simp] theorem el_45:elOf Tryz.prog 45=(some 33):=by kernel_rfl
@[simp] theorem ti_48:tiOf Tryz.prog 48=(some (TI.mk 1 false 24 (.inl 6 []))):=by kernel_rfl
@[simp] theorem el_48:elOf Tryz.prog 48=(some 114):=by kernel_rfl
@[simp] theorem ti_58:tiOf Tryz.prog 58=(some (TI.mk 1 false 24 (.inl 5 []))):=by kernel_rfl
@[simp] theorem el_58:elOf Tryz.prog 58=(some 27):=by kernel_rfl
@[simp] theorem ti_60:tiOf Tryz.prog 60=(some (TI.mk 1 false 24 (.inl 3 []))):=by kernel_rfl
@[simp] theorem el_60:elOf Tryz.prog 60=(some 127):=by kernel_rfl
@[simp] theorem ti_67:tiOf Tryz.prog 67=(some (TI.mk 1 false 24 (.inl 3 []))):=by kernel_rfl
@[simp] theorem el_67:elOf Tryz.prog 67=(some 129):=by kernel_rfl
@[simp] theorem ti_97:tiOf Tryz.prog 97=(some (TI.mk 1 false 8 .nilp)):=by kernel_rfl
@[simp] theorem ti_98:tiOf Tryz.prog 98=(some (TI.mk 3 true 32 (.agg [(.str ⟨#[]⟩),(.int .i64 0),(.bool false)]))):=by kernel_rfl
@[simp] theorem eqs_98:eqsOf Tryz.prog 98=(some [(.str ⟨#[]⟩),(.int .i64 0),(.bool false)]):=by kernel_rfl
@[simp] theorem bld_98:bldOf Tryz.prog 98=true:=by kernel_rfl
@[simp] theorem fld_98_0:fldOf Tryz.prog 98 0=(some (0,9)):=by kernel_rfl
@[simp] theorem fld_98_1:fldOf Tryz.prog 98 1=(some (1,3)):=by kernel_rfl
@[simp] theorem fld_98_2:fldOf Tryz.prog 98 2=(some (2,4)):=by kernel_rfl
@[simp] theorem ti_99:tiOf Tryz.prog 99=(some (TI.mk 3 true 32 (.agg [(.str ⟨#[]⟩),(.int .i64 0),(.bool false)]))):=by kernel_rfl
@[simp] theorem eqs_99:eqsOf Tryz.prog 99=(some [(.str ⟨#[]⟩),(.int .i64 0),(.bool false)]):=by kernel_rfl
@[simp] theorem bld_99:bldOf Tryz.prog 99=true:=by kernel_rfl
@[simp] theorem fld_99_0:fldOf Tryz.prog 99 0=(some (0,9)):=by kernel_rfl
@[simp] theorem fld_99_1:fldOf Tryz.prog 99 1=(some (1,3)):=by kernel_rfl
@[simp] theorem fld_99_2:fldOf Tryz.prog 99 2=(some (2,4)):=by kernel_rfl
@[simp] theorem ti_100:tiOf Tryz.prog 100=(some (TI.mk 4 true 40 (.agg [(.str ⟨#[]⟩),(.int .i64 0),(.bool false),(.int .i64 0)]))):=by kernel_rfl
@[simp] theorem bld_100:bldOf Tryz.prog 100=true:=by kernel_rfl
@[simp] theorem fld_100_0:fldOf Tryz.prog 100 0=(some (0,99)):=by kernel_rfl
@[simp] theorem fld_100_1:fldOf Tryz.prog 100 1=(some (3,3)):=by kernel_rfl
@[simp] theorem ti_101:tiOf Tryz.prog 101=(some (TI.mk 4 true 40 (.agg [(.str ⟨#[]⟩),(.int .i64 0),(.bool false),(.int .i64 0)]))):=by kernel_rfl
@[simp] theorem bld_101:bldOf Tryz.prog 101=true:=by kernel_rfl
@[simp] theorem fld_101_0:fldOf Tryz.prog 101 0=(some (0,99)):=by kernel_rfl
@[simp] theorem fld_101_1:fldOf Tryz.prog 101 1=(some (3,3)):=by kernel_rfl
@[simp] theorem ti_109:tiOf Tryz.prog 109=(some (TI.mk 6 true 136 (.agg [(.str ⟨#[]⟩),(.inl 1 []),(.inl 6 []),(.inl 6 []),(.inl 2 []),(.inl 3 [])]))):=by kernel_rfl
@[simp] theorem bld_109:bldOf Tryz.prog 109=true:=by kernel_rfl
@[simp] theorem fld_109_0:fldOf Tryz.prog 109 0=(some (0,27)):=by kernel_rfl
@[simp] theorem fld_109_1:fldOf Tryz.prog 109 1=(some (5,67)):=by kernel_rfl
@[simp] theorem ti_110:tiOf Tryz.prog 110=(some (TI.mk 6 true 136 (.agg [(.str ⟨#[]⟩),(.inl 1 []),(.inl 6 []),(.inl 6 []),(.inl 2 []),(.inl 3 [])]))):=by kernel_rfl
@[simp] theorem bld_110:bldOf Tryz.prog 110=true:=by kernel_rfl
@[simp] theorem fld_110_0:fldOf Tryz.prog 110 0=(some (0,27)):=by kernel_rfl
@[simp] theorem fld_110_1:fldOf Tryz.prog 110 1=(some (5,67)):=by kernel_rfl
@[simp] theorem ti_113:tiOf Tryz.prog 113=(some (TI.mk 6 true 136 (.agg [(.str ⟨#[]⟩),(.inl 1 []),(.inl 6 []),(.inl 6 []),(.inl 2 []),(.inl 3 [])]))):=by kernel_rfl
@[simp] theorem bld_113:bldOf Tryz.prog 113=true:=by kernel_rfl
@[simp] theorem fld_113_0:fldOf Tryz.prog 113 0=(some (0,33)):=by kernel_rfl
@[simp] theorem fld_113_1:fldOf Tryz.prog 113 1=(some (5,60)):=by kernel_rfl
@[simp] theorem ti_114:tiOf Tryz.prog 114=(some (TI.mk 6 true 136 (.agg [(.str ⟨#[]⟩),(.inl 1 []),(.inl 6 []),(.inl 6 []),(.inl 2 []),(.inl 3 [])]))):=by kernel_rfl
@[simp] theorem bld_114:bldOf Tryz.prog 114=true:=by kernel_rfl
@[simp] theorem fld_114_0:fldOf Tryz.prog 114 0=(some (0,33)):=by kernel_rfl
@[simp] theorem fld_114_1:fldOf Tryz.prog 114 1=(some (5,60)):=by kernel_rfl
@[simp] theorem ti_124:tiOf Tryz.prog 124=(some (TI.mk 1 false 8 .nilp)):=by kernel_rfl
@[simp] theorem ti_126:tiOf Tryz.prog 126=(some (TI.mk 3 true 40 (.agg [(.str ⟨#[]⟩),(.str ⟨#[]⟩),(.int .i64 0)]))):=by kernel_rfl
@[simp] theorem eqs_126:eqsOf Tryz.prog 126=(some [(.str ⟨#[]⟩),(.str ⟨#[]⟩),(.int .i64 0)]):=by kernel_rfl
@[simp] theorem bld_126:bldOf Tryz.prog 126=true:=by kernel_rfl
@[simp] theorem fld_126_0:fldOf Tryz.prog 126 0=(some (0,9)):=by kernel_rfl
@[simp] theorem fld_126_1:fldOf Tryz.prog 126 1=(some (1,9)):=by kernel_rfl
@[simp] theorem fld_126_2:fldOf Tryz.prog 126 2=(some (2,3)):=by kernel_rfl
@[simp] theorem ti_127:tiOf Tryz.prog 127=(some (TI.mk 3 true 40 (.agg [(.str ⟨#[]⟩),(.str ⟨#[]⟩),(.int .i64 0)]))):=by kernel_rfl
@[simp] theorem eqs_127:eqsOf Tryz.prog 127=(some [(.str ⟨#[]⟩),(.str ⟨#[]⟩),(.int .i64 0)]):=by kernel_rfl
@[simp] theorem bld_127:bldOf Tryz.prog 127=true:=by kernel_rfl
@[simp] theorem fld_127_0:fldOf Tryz.prog 127 0=(some (0,9)):=by kernel_rfl
@[simp] theorem fld_127_1:fldOf Tryz.prog 127 1=(some (1,9)):=by kernel_rfl
@[simp] theorem fld_127_2:fldOf Tryz.prog 127 2=(some (2,3)):=by kernel_rfl
@[simp] theorem ti_129:tiOf Tryz.prog 129=(some (TI.mk 3 true 40 (.agg [(.str ⟨#[]⟩),(.str ⟨#[]⟩),(.int .i64 0)]))):=by kernel_rfl
@[simp] theorem eqs_129:eqsOf Tryz.prog 129=(some [(.str ⟨#[]⟩),(.str ⟨#[]⟩),(.int .i64 0)]):=by kernel_rfl
@[simp] theorem bld_129:bldOf Tryz.prog 129=true:=by kernel_rfl
@[simp] theorem fld_129_0:fldOf Tryz.prog 129 0=(some (0,9)):=by kernel_rfl
@[simp] theorem fld_129_1:fldOf Tryz.prog 129 1=(some (1,9)):=by kernel_rfl
@[simp] theorem fld_129_2:fldOf Tryz.prog 129 2=(some (2,3)):=by kernel_rfl
@[simp] theorem ti_134:tiOf Tryz.prog 134=(some (TI.mk 2 true 32 (.agg [(.str ⟨#[]⟩),(.str ⟨#[]⟩)]))):=by kernel_rfl
@[simp] theorem eqs_134:eqsOf Tryz.prog 134=(some [(.str ⟨#[]⟩),(.str ⟨#[]⟩)]):=by kernel_rfl
@[simp] theorem bld_134:bldOf Tryz.prog 134=true:=by kernel_rfl
@[simp] theorem fld_134_0:fldOf Tryz.prog 134 0=(some (0,9)):=by kernel_rfl
@[simp] theorem fld_134_1:fldOf Tryz.prog 134 1=(some (1,9)):=by kernel_rfl
@[simp] theorem ti_135:tiOf Tryz.prog 135=(some (TI.mk 2 true 32 (.agg [(.str ⟨#[]⟩),(.str ⟨#[]⟩)]))):=by kernel_rfl
@[simp] theorem eqs_135:eqsOf Tryz.prog 135=(some [(.str ⟨#[]⟩),(.str ⟨#[]⟩)]):=by kernel_rfl
@[simp] theorem bld_135:bldOf Tryz.prog 135=true:=by kernel_rfl
@[simp] theorem fld_135_0:fldOf Tryz.prog 135 0=(some (0,9)):=by kernel_rfl
@[simp] theorem fld_135_1:fldOf Tryz.prog 135 1=(some (1,9)):=by kernel_rfl
@[simp] theorem ti_139:tiOf Tryz.prog 139=(some (TI.mk 1 false 24 (.inl 3 []))):=by kernel_rfl
@[simp] theorem el_139:elOf Tryz.prog 139=(some 235):=by kernel_rfl
@[simp] theorem ti_140:tiOf Tryz.prog 140=(some (TI.mk 6 true 80 (.agg [(.int .i64 0),(.int .i64 0),(.int .i64 0),(.inl 3 []),(.str ⟨#[]⟩),(.str ⟨#[]⟩)]))):=by kernel_rfl
@[simp] theorem bld_140:bldOf Tryz.prog 140=true:=by kernel_rfl
@[simp] theorem fld_140_0:fldOf Tryz.prog 140 0=(some (0,3)):=by kernel_rfl
@[simp] theorem fld_140_1:fldOf Tryz.prog 140 1=(some (1,3)):=by kernel_rfl
@[simp] theorem fld_140_2:fldOf Tryz.prog 140 2=(some (2,3)):=by kernel_rfl
@[simp] theorem fld_140_3:fldOf Tryz.prog 140 3=(some (3,139)):=by kernel_rfl
@[simp] theorem fld_140_4:fldOf Tryz.prog 140 4=(some (4,9)):=by kernel_rfl
@[simp] theorem fld_140_5:fldOf Tryz.prog 140 5=(some (5,9)):=by kernel_rfl
@[simp] theorem ti_141:tiOf Tryz.prog 141=(some (TI.mk 6 true 80 (.agg [(.int .i64 0),(.int .i64 0),(.int .i64 0),(.inl 3 []),(.str ⟨#[]⟩),(.str ⟨#[]⟩)]))):=by kernel_rfl
@[simp] theorem bld_141:bldOf Tryz.prog 141=true:=by kernel_rfl
@[simp] theorem fld_141_0:fldOf Tryz.prog 141 0=(some (0,3)):=by kernel_rfl
@[simp] theorem fld_141_1:fldOf Tryz.prog 141 1=(some (1,3)):=by kernel_rfl
@[simp] theorem fld_141_2:fldOf Tryz.prog 141 2=(some (2,3)):=by kernel_rfl
@[simp] theorem fld_141_3:fldOf Tryz.prog 141 3=(some (3,139)):=by kernel_rfl
@[simp] theorem fld_141_4:fldOf Tryz.prog 141 4=(some (4,9)):=by kernel_rfl
@[simp] theorem fld_141_5:fldOf Tryz.prog 141 5=(some (5,9)):=by kernel_rfl
@[simp] theorem ti_143:tiOf Tryz.prog 143=(some (TI.mk 1 false 24 (.inl 3 []))):=by kernel_rfl
@[simp] theorem el_143:elOf Tryz.prog 143=(some 237):=by kernel_rfl
@[simp] theorem ti_144:tiOf Tryz.prog 144=(some (TI.mk 6 true 72 (.agg [(.str ⟨#[]⟩),(.int .i64 0),(.int .i64 0),(.int .i64 0),(.int .i64 0),(.inl 3 [])]))):=by kernel_rfl
@[simp] theorem bld_144:bldOf Tryz.prog 144=true:=by kernel_rfl
@[simp] theorem fld_144_0:fldOf Tryz.prog 144 0=(some (0,9)):=by kernel_rfl
@[simp] theorem fld_144_1:fldOf Tryz.prog 144 1=(some (1,3)):=by kernel_rfl
@[simp] theorem fld_144_2:fldOf Tryz.prog 144 2=(some (2,3)):=by kernel_rfl
@[simp] theorem fld_144_3:fldOf Tryz.prog 144 3=(some (3,3)):=by kernel_rfl
@[simp] theorem fld_144_4:fldOf Tryz.prog 144 4=(some (4,3)):=by kernel_rfl
@[simp] theorem fld_144_5:fldOf Tryz.prog 144 5=(some (5,143)):=by kernel_rfl
@[simp] theorem ti_145:tiOf Tryz.prog 145=(some (TI.mk 6 true 72 (.agg [(.str ⟨#[]⟩),(.int .i64 0),(.int .i64 0),(.int .i64 0),(.int .i64 0),(.inl 3 [])]))):=by kernel_rfl
@[simp] theorem bld_145:bldOf Tryz.prog 145=true:=by kernel_rfl
@[simp] theorem fld_145_0:fldOf Tryz.prog 145 0=(some (0,9)):=by kernel_rfl
@[simp] theorem fld_145_1:fldOf Tryz.prog 145 1=(some (1,3)):=by kernel_rfl
@[simp] theorem fld_145_2:fldOf Tryz.prog 145 2=(some (2,3)):=by kernel_rfl
@[simp] theorem fld_145_3:fldOf Tryz.prog 145 3=(some (3,3)):=by kernel_rfl
@[simp] theorem fld_145_4:fldOf Tryz.prog 145 4=(some (4,3)):=by kernel_rfl
@[simp] theorem fld_145_5:fldOf Tryz.prog 145 5=(some (5,143)):=by kernel_rfl
@[simp] theorem ti_147:tiOf Tryz.prog 147=(some (TI.mk 2 true 32 (.agg [(.str ⟨#[]⟩),(.str ⟨#[]⟩)]))):=by kernel_rfl
@[simp] theorem eqs_147:eqsOf Tryz.prog 147=(some [(.str ⟨#[]⟩),(.str ⟨#[]⟩)]):=by kernel_rfl
@[simp] theorem bld_147:bldOf Tryz.prog 147=true:=by kernel_rfl
@[simp] theorem fld_147_0:fldOf Tryz.prog 147 0=(some (0,9)):=by kernel_rfl
@[simp] theorem fld_147_1:fldOf Tryz.prog 147 1=(some (1,9)):=by kernel_rfl
@[simp] theorem ti_149:tiOf Tryz.prog 149=(some (TI.mk 1 false 24 (.inl 3 []))):=by kernel_rfl
@[simp] theorem el_149:elOf Tryz.prog 149=(some 159):=by kernel_rfl
@[simp] theorem ti_150:tiOf Tryz.prog 150=(some (TI.mk 6 true 72 (.agg [(.str ⟨#[]⟩),(.int .i64 0),(.int .i64 0),(.int .i64 0),(.int .i64 0),(.inl 3 [])]))):=by kernel_rfl
@[simp] theorem bld_150:bldOf Tryz.prog 150=true:=by kernel_rfl
@[simp] theorem fld_150_0:fldOf Tryz.prog 150 0=(some (0,9)):=by kernel_rfl
@[simp] theorem fld_150_1:fldOf Tryz.prog 150 1=(some (1,3)):=by kernel_rfl
@[simp] theorem fld_150_2:fldOf Tryz.prog 150 2=(some (2,3)):=by kernel_rfl
@[simp] theorem fld_150_3:fldOf Tryz.prog 150 3=(some (3,3)):=by kernel_rfl
@[simp] theorem fld_150_4:fldOf Tryz.prog 150 4=(some (4,3)):=by kernel_rfl
@[simp] theorem fld_150_5:fldOf Tryz.prog 150 5=(some (5,149)):=by kernel_rfl
@[simp] theorem ti_151:tiOf Tryz.prog 151=(some (TI.mk 6 true 72 (.agg [(.str ⟨#[]⟩),(.int .i64 0),(.int .i64 0),(.int .i64 0),(.int .i64 0),(.inl 3 [])]))):=by kernel_rfl
@[simp] theorem bld_151:bldOf Tryz.prog 151=true:=by kernel_rfl
@[simp] theorem fld_151_0:fldOf Tryz.prog 151 0=(some (0,9)):=by kernel_rfl
@[simp] theorem fld_151_1:fldOf Tryz.prog 151 1=(some (1,3)):=by kernel_rfl
@[simp] theorem fld_151_2:fldOf Tryz.prog 151 2=(some (2,3)):=by kernel_rfl
@[simp] theorem fld_151_3:fldOf Tryz.prog 151 3=(some (3,3)):=by kernel_rfl
@[simp] theorem fld_151_4:fldOf Tryz.prog 151 4=(some (4,3)):=by kernel_rfl
@[simp] theorem fld_151_5:fldOf Tryz.prog 151 5=(some (5,149)):=by kernel_rfl
@[simp] theorem ti_155:tiOf Tryz.prog 155=(some (TI.mk 1 false 8 .nilp)):=by kernel_rfl
@[simp] theorem ti_158:tiOf Tryz.prog 158=(some (TI.mk 3 true 32 (.agg [(.str ⟨#[]⟩),(.bool false),(.int .i64 0)]))):=by kernel_rfl
@[simp] theorem eqs_158:eqsOf Tryz.prog 158=(some [(.str ⟨#[]⟩),(.bool false),(.int .i64 0)]):=by kernel_rfl
@[simp] theorem bld_158:bldOf Tryz.prog 158=true:=by kernel_rfl
@[simp] theorem fld_158_0:fldOf Tryz.prog 158 0=(some (0,9)):=by kernel_rfl
@[simp] theorem fld_158_1:fldOf Tryz.prog 158 1=(some (1,4)):=by kernel_rfl
@[simp] theorem fld_158_2:fldOf Tryz.prog 158 2=(some (2,3)):=by kernel_rfl
@[simp] theorem ti_159:tiOf Tryz.prog 159=(some (TI.mk 3 true 32 (.agg [(.str ⟨#[]⟩),(.bool false),(.int .i64 0)]))):=by kernel_rfl
@[simp] theorem eqs_159:eqsOf Tryz.prog 159=(some [(.str ⟨#[]⟩),(.bool false),(.int .i64 0)]):=by kernel_rfl
@[simp] theorem bld_159:bldOf Tryz.prog 159=true:=by kernel_rfl
@[simp] theorem fld_159_0:fldOf Tryz.prog 159 0=(some (0,9)):=by kernel_rfl
@[simp] theorem fld_159_1:fldOf Tryz.prog 159 1=(some (1,4)):=by kernel_rfl
@[simp] theorem fld_159_2:fldOf Tryz.prog 159 2=(some (2,3)):=by kernel_rfl
@[simp] theorem ti_162:tiOf Tryz.prog 162=(some (TI.mk 1 false 24 (.inl 3 []))):=by kernel_rfl
@[simp] theorem el_162:elOf Tryz.prog 162=(some 184):=by kernel_rfl
@[simp] theorem ti_163:tiOf Tryz.prog 163=(some (TI.mk 6 true 80 (.agg [(.int .i64 0),(.int .i64 0),(.int .i64 0),(.inl 3 []),(.str ⟨#[]⟩),(.str ⟨#[]⟩)]))):=by kernel_rfl
@[simp] theorem bld_163:bldOf Tryz.prog 163=true:=by kernel_rfl
@[simp] theorem fld_163_0:fldOf Tryz.prog 163 0=(some (0,3)):=by kernel_rfl
@[simp] theorem fld_163_1:fldOf Tryz.prog 163 1=(some (1,3)):=by kernel_rfl
@[simp] theorem fld_163_2:fldOf Tryz.prog 163 2=(some (2,3)):=by kernel_rfl
@[simp] theorem fld_163_3:fldOf Tryz.prog 163 3=(some (3,162)):=by kernel_rfl
@[simp] theorem fld_163_4:fldOf Tryz.prog 163 4=(some (4,9)):=by kernel_rfl
@[simp] theorem fld_163_5:fldOf Tryz.prog 163 5=(some (5,9)):=by kernel_rfl
@[simp] theorem ti_164:tiOf Tryz.prog 164=(some (TI.mk 6 true 80 (.agg [(.int .i64 0),(.int .i64 0),(.int .i64 0),(.inl 3 []),(.str ⟨#[]⟩),(.str ⟨#[]⟩)]))):=by kernel_rfl
@[simp] theorem bld_164:bldOf Tryz.prog 164=true:=by kernel_rfl
@[simp] theorem fld_164_0:fldOf Tryz.prog 164 0=(some (0,3)):=by kernel_rfl
@[simp] theorem fld_164_1:fldOf Tryz.prog 164 1=(some (1,3)):=by kernel_rfl
@[simp] theorem fld_164_2:fldOf Tryz.prog 164 2=(some (2,3)):=by kernel_rfl
@[simp] theorem fld_164_3:fldOf Tryz.prog 164 3=(some (3,162)):=by kernel_rfl
@[simp] theorem fld_164_4:fldOf Tryz.prog 164 4=(some (4,9)):=by kernel_rfl
@[simp] theorem fld_164_5:fldOf Tryz.prog 164 5=(some (5,9)):=by kernel_rfl
@[simp] theorem ti_171:tiOf Tryz.prog 171=(some (TI.mk 1 false 8 .nilp)):=by kernel_rfl
@[simp] theorem ti_174:tiOf Tryz.prog 174=(some (TI.mk 1 false 8 (.raw (.mp none)))):=by kernel_rfl
@[simp] theorem ti_175:tiOf Tryz.prog 175=(some (TI.mk 3 true 56 (.agg [(.inl 6 []),(.inl 6 []),(.raw (.mp none))]))):=by kernel_rfl
@[simp] theorem bld_175:bldOf Tryz.prog 175=true:=by kernel_rfl
@[simp] theorem fld_175_0:fldOf Tryz.prog 175 0=(some (0,29)):=by kernel_rfl
@[simp] theorem fld_175_1:fldOf Tryz.prog 175 1=(some (1,29)):=by kernel_rfl
@[simp] theorem fld_175_2:fldOf Tryz.prog 175 2=(some (2,174)):=by kernel_rfl
@[simp] theorem ti_176:tiOf Tryz.prog 176=(some (TI.mk 3 true 56 (.agg [(.inl 6 []),(.inl 6 []),(.raw (.mp none))]))):=by kernel_rfl
@[simp] theorem bld_176:bldOf Tryz.prog 176=true:=by kernel_rfl
@[simp] theorem fld_176_0:fldOf Tryz.prog 176 0=(some (0,29)):=by kernel_rfl
@[simp] theorem fld_176_1:fldOf Tryz.prog 176 1=(some (1,29)):=by kernel_rfl
@[simp] theorem fld_176_2:fldOf Tryz.prog 176 2=(some (2,174)):=by kernel_rfl
@[simp] theorem ti_183:tiOf Tryz.prog 183=(some (TI.mk 3 true 32 (.agg [(.str ⟨#[]⟩),(.int .i64 0),(.int .i64 0)]))):=by kernel_rfl
@[simp] theorem eqs_183:eqsOf Tryz.prog 183=(some [(.str ⟨#[]⟩),(.int .i64 0),(.int .i64 0)]):=by kernel_rfl
@[simp] theorem bld_183:bldOf Tryz.prog 183=true:=by kernel_rfl
@[simp] theorem fld_183_0:fldOf Tryz.prog 183 0=(some (0,9)):=by kernel_rfl
@[simp] theorem fld_183_1:fldOf Tryz.prog 183 1=(some (1,3)):=by kernel_rfl
@[simp] theorem fld_183_2:fldOf Tryz.prog 183 2=(some (2,3)):=by kernel_rfl
@[simp] theorem ti_184:tiOf Tryz.prog 184=(some (TI.mk 3 true 32 (.agg [(.str ⟨#[]⟩),(.int .i64 0),(.int .i64 0)]))):=by kernel_rfl
@[simp] theorem eqs_184:eqsOf Tryz.prog 184=(some [(.str ⟨#[]⟩),(.int .i64 0),(.int .i64 0)]):=by kernel_rfl
@[simp] theorem bld_184:bldOf Tryz.prog 184=true:=by kernel_rfl
@[simp] theorem fld_184_0:fldOf Tryz.prog 184 0=(some (0,9)):=by kernel_rfl
@[simp] theorem fld_184_1:fldOf Tryz.prog 184 1=(some (1,3)):=by kernel_rfl
@[simp] theorem fld_184_2:fldOf Tryz.prog 184 2=(some (2,3)):=by kernel_rfl
@[simp] theorem ti_185:tiOf Tryz.prog 185=(some (TI.mk 1 false 24 (.inl 1 []))):=by kernel_rfl
@[simp] theorem el_185:elOf Tryz.prog 185=(some 5):=by kernel_rfl
@[simp] theorem ti_187:tiOf Tryz.prog 187=(some (TI.mk 1 false 8 .nilp)):=by kernel_rfl
@[simp] theorem ti_188:tiOf Tryz.prog 188=(some (TI.mk 3 true 32 (.agg [(.str ⟨#[]⟩),(.int .i64 0),(.int .i64 0)]))):=by kernel_rfl
@[simp] theorem eqs_188:eqsOf Tryz.prog 188=(some [(.str ⟨#[]⟩),(.int .i64 0),(.int .i64 0)]):=by kernel_rfl
@[simp] theorem bld_188:bldOf Tryz.prog 188=true:=by kernel_rfl
@[simp] theorem fld_188_0:fldOf Tryz.prog 188 0=(some (0,9)):=by kernel_rfl
@[simp] theorem fld_188_1:fldOf Tryz.prog 188 1=(some (1,3)):=by kernel_rfl
@[simp] theorem fld_188_2:fldOf Tryz.prog 188 2=(some (2,3)):=by kernel_rfl
@[simp] theorem ti_189:tiOf Tryz.prog 189=(some (TI.mk 3 true 32 (.agg [(.str ⟨#[]⟩),(.int .i64 0),(.int .i64 0)]))):=by kernel_rfl
@[simp] theorem eqs_189:eqsOf Tryz.prog 189=(some [(.str ⟨#[]⟩),(.int .i64 0),(.int .i64 0)]):=by kernel_rfl
@[simp] theorem bld_189:bldOf Tryz.prog 189=true:=by kernel_rfl
@[simp] theorem fld_189_0:fldOf Tryz.prog 189 0=(some (0,9)):=by kernel_rfl
@[simp] theorem fld_189_1:fldOf Tryz.prog 189 1=(some (1,3)):=by kernel_rfl
@[simp] theorem fld_189_2:fldOf Tryz.prog 189 2=(some (2,3)):=by kernel_rfl
@[simp] theorem ti_205:tiOf Tryz.prog 205=(some (TI.mk 1 false 24 (.inl 1 []))):=by kernel_rfl
@[simp] theorem el_205:elOf Tryz.prog 205=(some 3):=by kernel_rfl
@[simp] theorem ti_206:tiOf Tryz.prog 206=(some (TI.mk 3 true 72 (.agg [(.inl 6 []),(.inl 1 []),(.inl 1 [])]))):=by kernel_rfl
@[simp] theorem bld_206:bldOf Tryz.prog 206=true:=by kernel_rfl
@[simp] theorem fld_206_0:fldOf Tryz.prog 206 0=(some (0,29)):=by kernel_rfl
@[simp] theorem fld_206_1:fldOf Tryz.prog 206 1=(some (1,205)):=by kernel_rfl
@[simp] theorem fld_206_2:fldOf Tryz.prog 206 2=(some (2,205)):=by kernel_rfl
@[simp] theorem ti_207:tiOf Tryz.prog 207=(some (TI.mk 3 true 72 (.agg [(.inl 6 []),(.inl 1 []),(.inl 1 [])]))):=by kernel_rfl
@[simp] theorem bld_207:bldOf Tryz.prog 207=true:=by kernel_rfl
@[simp] theorem fld_207_0:fldOf Tryz.prog 207 0=(some (0,29)):=by kernel_rfl
@[simp] theorem fld_207_1:fldOf Tryz.prog 207 1=(some (1,205)):=by kernel_rfl
@[simp] theorem fld_207_2:fldOf Tryz.prog 207 2=(some (2,205)):=by kernel_rfl
@[simp] theorem ti_219:tiOf Tryz.prog 219=(some (TI.mk 1 false 8 .nilp)):=by kernel_rfl
@[simp] theorem ti_230:tiOf Tryz.prog 230=(some (TI.mk 1 false 24 (.inl 3 []))):=by kernel_rfl
@[simp] theorem el_230:elOf Tryz.prog 230=(some 255):=by kernel_rfl
@[simp] theorem ti_235:tiOf Tryz.prog 235=(some (TI.mk 3 true 32 (.agg [(.str ⟨#[]⟩),(.int .i64 0),(.int .i64 0)]))):=by kernel_rfl
@[simp] theorem eqs_235:eqsOf Tryz.prog 235=(some [(.str ⟨#[]⟩),(.int .i64 0),(.int .i64 0)]):=by kernel_rfl
@[simp] theorem bld_235:bldOf Tryz.prog 235=true:=by kernel_rfl
@[simp] theorem fld_235_0:fldOf Tryz.prog 235 0=(some (0,9)):=by kernel_rfl
@[simp] theorem fld_235_1:fldOf Tryz.prog 235 1=(some (1,3)):=by kernel_rfl
@[simp] theorem fld_235_2:fldOf Tryz.prog 235 2=(some (2,3)):=by kernel_rfl
@[simp] theorem ti_237:tiOf Tryz.prog 237=(some (TI.mk 3 true 32 (.agg [(.str ⟨#[]⟩),(.bool false),(.int .i64 0)]))):=by kernel_rfl
@[simp] theorem eqs_237:eqsOf Tryz.prog 237=(some [(.str ⟨#[]⟩),(.bool false),(.int .i64 0)]):=by kernel_rfl
@[simp] theorem bld_237:bldOf Tryz.prog 237=true:=by kernel_rfl
@[simp] theorem fld_237_0:fldOf Tryz.prog 237 0=(some (0,9)):=by kernel_rfl
@[simp] theorem fld_237_1:fldOf Tryz.prog 237 1=(some (1,4)):=by kernel_rfl
@[simp] theorem fld_237_2:fldOf Tryz.prog 237 2=(some (2,3)):=by kernel_rfl
@[simp] theorem ti_254:tiOf Tryz.prog 254=(some (TI.mk 3 true 32 (.agg [(.str ⟨#[]⟩),(.int .i64 0),(.int .i64 0)]))):=by kernel_rfl
@[simp] theorem eqs_254:eqsOf Tryz.prog 254=(some [(.str ⟨#[]⟩),(.int .i64 0),(.int .i64 0)]):=by kernel_rfl
@[simp] theorem bld_254:bldOf Tryz.prog 254=true:=by kernel_rfl
@[simp] theorem fld_254_0:fldOf Tryz.prog 254 0=(some (0,9)):=by kernel_rfl
@[simp] theorem fld_254_1:fldOf Tryz.prog 254 1=(some (1,3)):=by kernel_rfl
@[simp] theorem fld_254_2:fldOf Tryz.prog 254 2=(some (2,3)):=by kernel_rfl
@[simp] theorem ti_255:tiOf Tryz.prog 255=(some (TI.mk 3 true 32 (.agg [(.str ⟨#[]⟩),(.int .i64 0),(.int .i64 0)]))):=by kernel_rfl
@[simp] theorem eqs_255:eqsOf Tryz.prog 255=(some [(.str ⟨#[]⟩),(.int .i64 0),(.int .i64 0)]):=by kernel_rfl
@[simp] theorem bld_255:bldOf Tryz.prog 255=true:=by kernel_rfl
@[simp] theorem fld_255_0:fldOf Tryz.prog 255 0=(some (0,9)):=by kernel_rfl
@[simp] theorem fld_255_1:fldOf Tryz.prog 255 1=(some (1,3)):=by kernel_rfl
@[simp] theorem fld_255_2:fldOf Tryz.prog 255 2=(some (2,3)):=by kernel_rfl
@[simp] theorem ti_265:tiOf Tryz.prog 265=(some (TI.mk 1 false 8 (.int .u64 0))):=by kernel_rfl
@[simp] theorem int_265:intOf Tryz.prog 265=(some .u64):=by kernel_rfl
@[simp] theorem ti_276:tiOf Tryz.prog 276=(some (TI.mk 1 false 8 (.int .i64 0))):=by kernel_rfl
@[simp] theorem int_276:intOf Tryz.prog 276=(some .i64):=by kernel_rfl
@[simp] theorem ti_284:tiOf Tryz.prog 284=(some (TI.mk 1 false 4 (.int .u32 0))):=by kernel_rfl
@[simp] theorem int_284:intOf Tryz.prog 284=(some .u32):=by kernel_rfl
@[simp] theorem ti_286:tiOf Tryz.prog 286=(some (TI.mk 1 false 8 (.int .u64 0))):=by kernel_rfl
@[simp] theorem int_286:intOf Tryz.prog 286=(some .u64):=by kernel_rfl
@[simp] theorem ti_289:tiOf Tryz.prog 289=(some (TI.mk 1 false 8 (.int .u64 0))):=by kernel_rfl
@[simp] theorem int_289:intOf Tryz.prog 289=(some .u64):=by kernel_rfl
@[simp] theorem ti_293:tiOf Tryz.prog 293=(some (TI.mk 1 false 8 .nilp)):=by kernel_rfl
@[simp] theorem ti_301:tiOf Tryz.prog 301=(some (TI.mk 1 false 8 .nilp)):=by kernel_rfl
@[simp] theorem ti_307:tiOf Tryz.prog 307=(some (TI.mk 4 true 40 (.agg [.nilp,.nilp,.nilp,(.str ⟨#[]⟩)]))):=by kernel_rfl
@[simp] theorem bld_307:bldOf Tryz.prog 307=true:=by kernel_rfl
@[simp] theorem fld_307_0:fldOf Tryz.prog 307 0=(some (0,17)):=by kernel_rfl
@[simp] theorem fld_307_1:fldOf Tryz.prog 307 1=(some (1,17)):=by kernel_rfl
@[simp] theorem fld_307_2:fldOf Tryz.prog 307 2=(some (2,17)):=by kernel_rfl
@[simp] theorem fld_307_3:fldOf Tryz.prog 307 3=(some (3,9)):=by kernel_rfl
@[simp] theorem ti_308:tiOf Tryz.prog 308=(some (TI.mk 4 true 40 (.agg [.nilp,.nilp,.nilp,(.str ⟨#[]⟩)]))):=by kernel_rfl
@[simp] theorem bld_308:bldOf Tryz.prog 308=true:=by kernel_rfl
@[simp] theorem fld_308_0:fldOf Tryz.prog 308 0=(some (0,17)):=by kernel_rfl
@[simp] theorem fld_308_1:fldOf Tryz.prog 308 1=(some (1,17)):=by kernel_rfl
@[simp] theorem fld_308_2:fldOf Tryz.prog 308 2=(some (2,17)):=by kernel_rfl
@[simp] theorem fld_308_3:fldOf Tryz.prog 308 3=(some (3,9)):=by kernel_rfl
@[simp] theorem bld_310:bldOf Tryz.prog 310=true:=by kernel_rfl
@[simp] theorem bld_311:bldOf Tryz.prog 311=true:=by kernel_rfl
@[simp] theorem ti_312:tiOf Tryz.prog 312=(some (TI.mk 1 false 1 (.int .u8 0))):=by kernel_rfl
@[simp] theorem int_312:intOf Tryz.prog 312=(some .u8):=by kernel_rfl
@[simp] theorem ti_313:tiOf Tryz.prog 313=(some (TI.mk 1 false 1 (.int .u8 0))):=by kernel_rfl
@[simp] theorem int_313:intOf Tryz.prog 313=(some .u8):=by kernel_rfl
@[simp] theorem ti_315:tiOf Tryz.prog 315=(some (TI.mk 1 false 8 .nilp)):=by kernel_rfl
@[simp] theorem ti_316:tiOf Tryz.prog 316=(some (TI.mk 1 false 4 (.int .i32 0))):=by kernel_rfl
@[simp] theorem int_316:intOf Tryz.prog 316=(some .i32):=by kernel_rfl
@[simp] theorem ti_317:tiOf Tryz.prog 317=(some (TI.mk 1 false 4 (.int .i32 0))):=by kernel_rfl
@[simp] theorem int_317:intOf Tryz.prog 317=(some .i32):=by kernel_rfl
@[simp] theorem bld_318:bldOf Tryz.prog 318=true:=by kernel_rfl
@[simp] theorem fld_318_0:fldOf Tryz.prog 318 0=(some (0,12)):=by kernel_rfl
@[simp] theorem fld_318_1:fldOf Tryz.prog 318 1=(some (1,12)):=by kernel_rfl
@[simp] theorem fld_318_2:fldOf Tryz.prog 318 2=(some (2,284)):=by kernel_rfl
@[simp] theorem fld_318_3:fldOf Tryz.prog 318 3=(some (3,312)):=by kernel_rfl
@[simp] theorem fld_318_4:fldOf Tryz.prog 318 4=(some (4,5)):=by kernel_rfl
@[simp] theorem fld_318_5:fldOf Tryz.prog 318 5=(some (5,5)):=by kernel_rfl
@[simp] theorem fld_318_6:fldOf Tryz.prog 318 6=(some (6,313)):=by kernel_rfl
@[simp] theorem fld_318_7:fldOf Tryz.prog 318 7=(some (7,314)):=by kernel_rfl
@[simp] theorem fld_318_8:fldOf Tryz.prog 318 8=(some (8,315)):=by kernel_rfl
@[simp] theorem fld_318_9:fldOf Tryz.prog 318 9=(some (9,316)):=by kernel_rfl
@[simp] theorem fld_318_10:fldOf Tryz.prog 318 10=(some (10,317)):=by kernel_rfl
@[simp] theorem bld_319:bldOf Tryz.prog 319=true:=by kernel_rfl
@[simp] theorem fld_319_0:fldOf Tryz.prog 319 0=(some (0,12)):=by kernel_rfl
@[simp] theorem fld_319_1:fldOf Tryz.prog 319 1=(some (1,12)):=by kernel_rfl
@[simp] theorem fld_319_2:fldOf Tryz.prog 319 2=(some (2,284)):=by kernel_rfl
@[simp] theorem fld_319_3:fldOf Tryz.prog 319 3=(some (3,312)):=by kernel_rfl
@[simp] theorem fld_319_4:fldOf Tryz.prog 319 4=(some (4,5)):=by kernel_rfl
@[simp] theorem fld_319_5:fldOf Tryz.prog 319 5=(some (5,5)):=by kernel_rfl
@[simp] theorem fld_319_6:fldOf Tryz.prog 319 6=(some (6,313)):=by kernel_rfl
@[simp] theorem fld_319_7:fldOf Tryz.prog 319 7=(some (7,314)):=by kernel_rfl
@[simp] theorem fld_319_8:fldOf Tryz.prog 319 8=(some (8,315)):=by kernel_rfl
@[simp] theorem fld_319_9:fldOf Tryz.prog 319 9=(some (9,316)):=by kernel_rfl
@[simp] theorem fld_319_10:fldOf Tryz.prog 319 10=(some (10,317)):=by kernel_rfl
end Go.TM.ZT
end
section
namespace Go.TM
open Go
structure Knw where
  mod:ByteArray
  name:ByteArray
  value:Int
@[simp] def Knw.v (x:Knw):V:=.agg [.str x.mod,.str x.name,.int .i64 x.value]
@[simp] theorem cut_knw (xs:List Knw):(xs=[] ∨ (leaves ((Option.map Knw.v xs[0]?).getD .bad)).length=3)=True:=cut_ok (f:=Knw.v) (n:=3) (fun _=>rfl) xs
@[simp] theorem norms_knw (xs:List Knw):norms (xs.map Knw.v)=xs.map Knw.v:=by rw [norms_map];simp
@[simp] theorem noLs_knw (xs:List Knw):noLs (xs.map Knw.v)=true:=noLs_map _ (by simp) _
theorem Knw.v_inj:Function.Injective Knw.v:=by rintro ⟨⟩ ⟨⟩;simp
def Knw.sz (x:Knw):Nat:=x.mod.size + x.name.size
def Knw.lim (x:Knw):Prop:=x.mod.size≤TM.lim∧x.name.size≤TM.lim
def mkKnw (k:Int) (_:Knw):Knw:=⟨mtext k,mtext (k + 1),k + 1 + 1⟩
def cKnw (_:Knw):Nat:=3
end Go.TM
end
section
namespace Go.TM
open Go
@[simp] theorem cut_scp (xs:List Scp):(xs=[] ∨ (leaves ((Option.map Scp.v xs[0]?).getD .bad)).length=5)=True:=cut_ok (f:=Scp.v) (n:=5) (fun _=>rfl) xs
@[simp] theorem norms_scp (xs:List Scp):norms (xs.map Scp.v)=xs.map Scp.v:=by rw [norms_map];simp
@[simp] theorem norms_scpo (xs:List Scp):norms (xs.map Scp.o)=xs.map Scp.v:=by rw [norms_map];simp
@[simp] theorem noLs_scpo (xs:List Scp):noLs (xs.map Scp.o)=true:=noLs_map _ (by simp) _
end Go.TM
end
section
namespace Go.TM
open Go
structure Mdl where
  scope:Scp
  seen:List Knw
@[simp] def Mdl.v (x:Mdl):V:=.agg [.str x.scope.name,.lst (x.scope.imports.map V.str),.lst (x.scope.types.map Ty.v),.lst (x.scope.objects.map Obj.v),.lst (x.scope.uses.map Use.v),.lst (x.seen.map Knw.v)]
@[simp] def Mdl.o (x:Mdl):V:=.agg [.str x.scope.name,.inl 1 (x.scope.imports.map V.str),.inl 6 (x.scope.types.map Ty.o),.inl 6 (x.scope.objects.map Obj.o),.inl 2 (x.scope.uses.map Use.v),.inl 3 (x.seen.map Knw.v)]
@[simp] theorem cut_mdl (xs:List Mdl):(xs=[] ∨ (leaves ((Option.map Mdl.v xs[0]?).getD .bad)).length=6)=True:=cut_ok (f:=Mdl.v) (n:=6) (fun _=>rfl) xs
@[simp] theorem norms_mdl (xs:List Mdl):norms (xs.map Mdl.v)=xs.map Mdl.v:=by rw [norms_map];simp
@[simp] theorem norms_mdlo (xs:List Mdl):norms (xs.map Mdl.o)=xs.map Mdl.v:=by rw [norms_map];simp
@[simp] theorem noLs_mdlo (xs:List Mdl):noLs (xs.map Mdl.o)=true:=noLs_map _ (by simp) _
theorem Mdl.v_inj:Function.Injective Mdl.v:=by
  rintro ⟨⟨⟩,_⟩ ⟨⟨⟩,_⟩ h
  simp only [Mdl.v,V.agg.injEq,List.cons.injEq,V.lst.injEq,V.str.injEq,and_true] at h
  rw [Mdl.mk.injEq,Scp.mk.injEq]
  exact ⟨⟨h.1,map_inj str_inj h.2.1,map_inj Ty.v_inj h.2.2.1,map_inj Obj.v_inj h.2.2.2.1,map_inj Use.v_inj h.2.2.2.2.1⟩,map_inj Knw.v_inj h.2.2.2.2.2⟩
theorem Mdl.o_inj:Function.Injective Mdl.o:=by
  rintro ⟨⟨⟩,_⟩ ⟨⟨⟩,_⟩ h
  simp only [Mdl.o,V.agg.injEq,List.cons.injEq,V.inl.injEq,V.str.injEq,true_and,and_true] at h
  rw [Mdl.mk.injEq,Scp.mk.injEq]
  exact ⟨⟨h.1,map_inj str_inj h.2.1,map_inj Ty.o_inj h.2.2.1,map_inj Obj.o_inj h.2.2.2.1,map_inj Use.v_inj h.2.2.2.2.1⟩,map_inj Knw.v_inj h.2.2.2.2.2⟩
def Mdl.sz (x:Mdl):Nat:=x.scope.sz + szL Knw.sz x.seen
def Mdl.lim (x:Mdl):Prop:=x.scope.lim∧limL Knw.lim x.seen
end Go.TM
end
section
namespace Go.TM
open Go
instance:DecidableEq Use:=fun x y=>decidable_of_iff (x.mod=y.mod∧x.name=y.name) (by cases x;cases y;simp)
instance:DecidableEq Par:=fun x y=>decidable_of_iff (x.name=y.name∧x.byVar=y.byVar∧x.type=y.type) (by cases x;cases y;simp)
instance:DecidableEq Fld:=fun x y=>decidable_of_iff (x.name=y.name∧x.mark=y.mark∧x.type=y.type) (by cases x;cases y;simp)
instance:DecidableEq Ty:=fun x y=>decidable_of_iff (x.kind=y.kind∧x.long=y.long∧x.base=y.base∧x.fields=y.fields∧x.owner=y.owner∧x.name=y.name) (by cases x;cases y;simp)
instance:DecidableEq Obj:=fun x y=>decidable_of_iff (x.name=y.name∧x.kind=y.kind∧x.mark=y.mark∧x.type=y.type∧x.value=y.value∧x.params=y.params) (by cases x;cases y;simp)
instance:DecidableEq Scp:=fun x y=>decidable_of_iff (x.name=y.name∧x.imports=y.imports∧x.types=y.types∧x.objects=y.objects∧x.uses=y.uses) (by cases x;cases y;simp)
end Go.TM
end
section
set_option maxHeartbeats 2000000
namespace Go.TM.Tryz
open Go Go.TM Go.Proofs
section
variable {H:Type} {enc:TypeId × Value→H} {W:World}
theorem rd_Fld:Rd Tryz.prog W enc 235 Fld.v Fld.lim:=fun fuel cs x h=>by
  obtain ⟨hl,n,hf⟩:=rd_cells Tryz.underlying235 (by kernel_rfl) h
  match cs,hl with
  | [c0,c1,c2],_ =>
    obtain ⟨d0,y0,e0,h0⟩:=hf 0 _ rfl
    simp only [gcz,gcs,Option.some.injEq] at e0
    subst e0
    obtain ⟨a0,p0,q0⟩:=(rd_str Tryz.underlying9) _ _ _ h0
    obtain ⟨d1,y1,e1,h1⟩:=hf 1 _ rfl
    simp only [gcz,gcs,Option.some.injEq] at e1
    subst e1
    obtain ⟨a1,p1,q1⟩:=(rd_int Tryz.underlying3) _ _ _ h1
    obtain ⟨d2,y2,e2,h2⟩:=hf 2 _ rfl
    simp only [gcz,gcs,Option.some.injEq] at e2
    subst e2
    obtain ⟨a2,p2,q2⟩:=(rd_int Tryz.underlying3) _ _ _ h2
    exact ⟨⟨a0,a1,a2⟩,p0,q0.1,q1.1,q2.1,trivial⟩
theorem rd_Par:Rd Tryz.prog W enc 237 Par.v Par.lim:=fun fuel cs x h=>by
  obtain ⟨hl,n,hf⟩:=rd_cells Tryz.underlying237 (by kernel_rfl) h
  match cs,hl with
  | [c0,c1,c2],_ =>
    obtain ⟨d0,y0,e0,h0⟩:=hf 0 _ rfl
    simp only [gcz,gcs,Option.some.injEq] at e0
    subst e0
    obtain ⟨a0,p0,q0⟩:=(rd_str Tryz.underlying9) _ _ _ h0
    obtain ⟨d1,y1,e1,h1⟩:=hf 1 _ rfl
    simp only [gcz,gcs,Option.some.injEq] at e1
    subst e1
    obtain ⟨a1,p1,q1⟩:=(rd_bool Tryz.underlying4) _ _ _ h1
    obtain ⟨d2,y2,e2,h2⟩:=hf 2 _ rfl
    simp only [gcz,gcs,Option.some.injEq] at e2
    subst e2
    obtain ⟨a2,p2,q2⟩:=(rd_int Tryz.underlying3) _ _ _ h2
    exact ⟨⟨a0,a1,a2⟩,p0,q0.1,q1.1,q2.1,trivial⟩
theorem rd_Ty:Rd Tryz.prog W enc 141 Ty.v Ty.lim:=fun fuel cs x h=>by
  obtain ⟨hl,n,hf⟩:=rd_cells Tryz.underlying141 (by kernel_rfl) h
  match cs,hl with
  | [c0,c1,c2,c3,c4,c5],_ =>
    obtain ⟨d0,y0,e0,h0⟩:=hf 0 _ rfl
    simp only [gcz,gcs,Option.some.injEq] at e0
    subst e0
    obtain ⟨a0,p0,q0⟩:=(rd_int Tryz.underlying3) _ _ _ h0
    obtain ⟨d1,y1,e1,h1⟩:=hf 1 _ rfl
    simp only [gcz,gcs,Option.some.injEq] at e1
    subst e1
    obtain ⟨a1,p1,q1⟩:=(rd_int Tryz.underlying3) _ _ _ h1
    obtain ⟨d2,y2,e2,h2⟩:=hf 2 _ rfl
    simp only [gcz,gcs,Option.some.injEq] at e2
    subst e2
    obtain ⟨a2,p2,q2⟩:=(rd_int Tryz.underlying3) _ _ _ h2
    obtain ⟨d3,y3,e3,h3⟩:=hf 3 _ rfl
    simp only [gcz,gcs,Option.some.injEq] at e3
    subst e3
    obtain ⟨a3,p3,q3⟩:=(rd_slice Tryz.underlying139 (n:=3) (by kernel_rfl) (by omega) (fun _=>rfl) rd_Fld) _ _ _ h3
    obtain ⟨d4,y4,e4,h4⟩:=hf 4 _ rfl
    simp only [gcz,gcs,Option.some.injEq] at e4
    subst e4
    obtain ⟨a4,p4,q4⟩:=(rd_str Tryz.underlying9) _ _ _ h4
    obtain ⟨d5,y5,e5,h5⟩:=hf 5 _ rfl
    simp only [gcz,gcs,Option.some.injEq] at e5
    subst e5
    obtain ⟨a5,p5,q5⟩:=(rd_str Tryz.underlying9) _ _ _ h5
    exact ⟨⟨a0,a1,a2,a3,a4,a5⟩,⟨p3,p4,p5⟩,q0.1,q1.1,q2.1,q3.1,q4.1,q5.1,trivial⟩
theorem rd_Obj:Rd Tryz.prog W enc 145 Obj.v Obj.lim:=fun fuel cs x h=>by
  obtain ⟨hl,n,hf⟩:=rd_cells Tryz.underlying145 (by kernel_rfl) h
  match cs,hl with
  | [c0,c1,c2,c3,c4,c5],_ =>
    obtain ⟨d0,y0,e0,h0⟩:=hf 0 _ rfl
    simp only [gcz,gcs,Option.some.injEq] at e0
    subst e0
    obtain ⟨a0,p0,q0⟩:=(rd_str Tryz.underlying9) _ _ _ h0
    obtain ⟨d1,y1,e1,h1⟩:=hf 1 _ rfl
    simp only [gcz,gcs,Option.some.injEq] at e1
    subst e1
    obtain ⟨a1,p1,q1⟩:=(rd_int Tryz.underlying3) _ _ _ h1
    obtain ⟨d2,y2,e2,h2⟩:=hf 2 _ rfl
    simp only [gcz,gcs,Option.some.injEq] at e2
    subst e2
    obtain ⟨a2,p2,q2⟩:=(rd_int Tryz.underlying3) _ _ _ h2
    obtain ⟨d3,y3,e3,h3⟩:=hf 3 _ rfl
    simp only [gcz,gcs,Option.some.injEq] at e3
    subst e3
    obtain ⟨a3,p3,q3⟩:=(rd_int Tryz.underlying3) _ _ _ h3
    obtain ⟨d4,y4,e4,h4⟩:=hf 4 _ rfl
    simp only [gcz,gcs,Option.some.injEq] at e4
    subst e4
    obtain ⟨a4,p4,q4⟩:=(rd_int Tryz.underlying3) _ _ _ h4
    obtain ⟨d5,y5,e5,h5⟩:=hf 5 _ rfl
    simp only [gcz,gcs,Option.some.injEq] at e5
    subst e5
    obtain ⟨a5,p5,q5⟩:=(rd_slice Tryz.underlying143 (n:=3) (by kernel_rfl) (by omega) (fun _=>rfl) rd_Par) _ _ _ h5
    exact ⟨⟨a0,a1,a2,a3,a4,a5⟩,⟨p0,p5⟩,q0.1,q1.1,q2.1,q3.1,q4.1,q5.1,trivial⟩
theorem rd_Use:Rd Tryz.prog W enc 147 Use.v Use.lim:=fun fuel cs x h=>by
  obtain ⟨hl,n,hf⟩:=rd_cells Tryz.underlying147 (by kernel_rfl) h
  match cs,hl with
  | [c0,c1],_ =>
    obtain ⟨d0,y0,e0,h0⟩:=hf 0 _ rfl
    simp only [gcz,gcs,Option.some.injEq] at e0
    subst e0
    obtain ⟨a0,p0,q0⟩:=(rd_str Tryz.underlying9) _ _ _ h0
    obtain ⟨d1,y1,e1,h1⟩:=hf 1 _ rfl
    simp only [gcz,gcs,Option.some.injEq] at e1
    subst e1
    obtain ⟨a1,p1,q1⟩:=(rd_str Tryz.underlying9) _ _ _ h1
    exact ⟨⟨a0,a1⟩,⟨p0,p1⟩,q0.1,q1.1,trivial⟩
theorem rd_Scp:Rd Tryz.prog W enc 27 Scp.v Scp.lim:=fun fuel cs x h=>by
  obtain ⟨hl,n,hf⟩:=rd_cells Tryz.underlying27 (by kernel_rfl) h
  match cs,hl with
  | [c0,c1,c2,c3,c4],_ =>
    obtain ⟨d0,y0,e0,h0⟩:=hf 0 _ rfl
    simp only [gcz,gcs,Option.some.injEq] at e0
    subst e0
    obtain ⟨a0,p0,q0⟩:=(rd_str Tryz.underlying9) _ _ _ h0
    obtain ⟨d1,y1,e1,h1⟩:=hf 1 _ rfl
    simp only [gcz,gcs,Option.some.injEq] at e1
    subst e1
    obtain ⟨a1,p1,q1⟩:=(rd_slice Tryz.underlying22 (n:=1) (by kernel_rfl) (by omega) (fun _=>rfl) (rd_str Tryz.underlying9)) _ _ _ h1
    obtain ⟨d2,y2,e2,h2⟩:=hf 2 _ rfl
    simp only [gcz,gcs,Option.some.injEq] at e2
    subst e2
    obtain ⟨a2,p2,q2⟩:=(rd_slice Tryz.underlying23 (n:=6) (by kernel_rfl) (by omega) (fun _=>rfl) rd_Ty) _ _ _ h2
    obtain ⟨d3,y3,e3,h3⟩:=hf 3 _ rfl
    simp only [gcz,gcs,Option.some.injEq] at e3
    subst e3
    obtain ⟨a3,p3,q3⟩:=(rd_slice Tryz.underlying24 (n:=6) (by kernel_rfl) (by omega) (fun _=>rfl) rd_Obj) _ _ _ h3
    obtain ⟨d4,y4,e4,h4⟩:=hf 4 _ rfl
    simp only [gcz,gcs,Option.some.injEq] at e4
    subst e4
    obtain ⟨a4,p4,q4⟩:=(rd_slice Tryz.underlying25 (n:=2) (by kernel_rfl) (by omega) (fun _=>rfl) rd_Use) _ _ _ h4
    exact ⟨⟨a0,a1,a2,a3,a4⟩,⟨p0,p1,p2,p3,p4⟩,q0.1,q1.1,q2.1,q3.1,q4.1,trivial⟩
theorem rd_Knw:Rd Tryz.prog W enc 129 Knw.v Knw.lim:=fun fuel cs x h=>by
  obtain ⟨hl,n,hf⟩:=rd_cells Tryz.underlying129 (by kernel_rfl) h
  match cs,hl with
  | [c0,c1,c2],_ =>
    obtain ⟨d0,y0,e0,h0⟩:=hf 0 _ rfl
    simp only [gcz,gcs,Option.some.injEq] at e0
    subst e0
    obtain ⟨a0,p0,q0⟩:=(rd_str Tryz.underlying9) _ _ _ h0
    obtain ⟨d1,y1,e1,h1⟩:=hf 1 _ rfl
    simp only [gcz,gcs,Option.some.injEq] at e1
    subst e1
    obtain ⟨a1,p1,q1⟩:=(rd_str Tryz.underlying9) _ _ _ h1
    obtain ⟨d2,y2,e2,h2⟩:=hf 2 _ rfl
    simp only [gcz,gcs,Option.some.injEq] at e2
    subst e2
    obtain ⟨a2,p2,q2⟩:=(rd_int Tryz.underlying3) _ _ _ h2
    exact ⟨⟨a0,a1,a2⟩,⟨p0,p1⟩,q0.1,q1.1,q2.1,trivial⟩
theorem rd_Mdl:Rd Tryz.prog W enc 110 Mdl.v Mdl.lim:=fun fuel cs x h=>by
  obtain ⟨⟨a,b⟩,hp,hr⟩:=rd_pair (m:=5) (n:=1) Tryz.underlying110 rfl rfl (by kernel_rfl) rfl (by kernel_rfl) rfl (by kernel_rfl) rd_Scp (rd_slice Tryz.underlying67 (n:=3) (by kernel_rfl) (by omega) (fun _=>rfl) rd_Knw) fuel cs x h
  exact ⟨⟨a,b⟩,hp,hr⟩
end
end Go.TM.Tryz
end
section
namespace Go.TM
open Go
structure RM where
  name:ByteArray
  a:Hdr
  b:Hdr
  c:Hdr
  d:Hdr
  e:Hdr
@[simp] def RM.v (x:RM):V:=.agg [.str x.name,.raw x.a,.raw x.b,.raw x.c,.raw x.d,.raw x.e]
@[simp] def RM.s (x:RM):V:=.agg [.str x.name,.raw x.a,.raw x.b,.raw x.c,.raw x.d]
theorem Mdl.leaf {x:Mdl} {i:Nat} {l:V} (h:(leaves x.o)[i]?=some l):(i=0∧l=.str x.scope.name) ∨ (1≤i∧i≤5∧∃ z ys,l=.inl z ys):=by
  match i with
  | 0=>exact .inl ⟨rfl,by simpa [leaves] using h.symm⟩
  | 1=>exact .inr ⟨by omega,by omega,_,_,by simpa [leaves] using h.symm⟩
  | 2=>exact .inr ⟨by omega,by omega,_,_,by simpa [leaves] using h.symm⟩
  | 3=>exact .inr ⟨by omega,by omega,_,_,by simpa [leaves] using h.symm⟩
  | 4=>exact .inr ⟨by omega,by omega,_,_,by simpa [leaves] using h.symm⟩
  | 5=>exact .inr ⟨by omega,by omega,_,_,by simpa [leaves] using h.symm⟩
  | i + 6=>simp [leaves] at h
theorem Mdl.sub {x:Mdl} {i:Nat} {l:V} (h:(leaves x.scope.o)[i]?=some l):(leaves x.o)[i]?=some l∧i < 5:=by
  match i with
  | 0 | 1 | 2 | 3 | 4=>exact ⟨by simpa [leaves] using h,by omega⟩
  | i + 5=>simp [leaves] at h
end Go.TM
end
section
namespace Go.TM
open Go
def allI {α:Type} (p:Nat→α→Bool) (xs:List α) (i:Nat):Bool:=(xs.take i).zipIdx.all fun y=>p y.2 y.1
section
variable {α:Type} {p:Nat→α→Bool} {xs:List α} {i:Nat} {x:α}
@[simp] theorem allI_zero:allI p xs 0=true:=by simp [allI]
theorem allI_succ (hx:xs[i]?=some x):allI p xs (i + 1)=(allI p xs i && p i x):=by
  have hi:i < xs.length:=by
    rw [List.getElem?_eq_some_iff] at hx
    exact hx.1
  simp only [allI,List.take_add_one,hx,Option.toList_some,List.zipIdx_append,List.all_append]
  simp [Nat.min_eq_left (Nat.le_of_lt hi)]
theorem allI_no (hx:xs[i]?=some x) (hp:p i x=false):allI p xs xs.length=false:=by
  have hi:i < xs.length:=by
    rw [List.getElem?_eq_some_iff] at hx
    exact hx.1
  rw [List.getElem?_eq_some_iff] at hx
  simp only [allI,List.take_length,List.all_eq_false]
  refine ⟨(x,i),?_,by simp [hp]⟩
  rw [List.mem_zipIdx_iff_getElem?]
  simp [hx.2,hi]
theorem allI_iff:allI p xs xs.length=true ↔ ∀ i x,xs[i]?=some x→p i x=true:=by
  simp only [allI,List.take_length,List.all_eq_true,Prod.forall]
  constructor
  · intro h i x hx
    exact h x i (by rw [List.mem_zipIdx_iff_getElem?];exact hx)
  · intro h x i hm
    rw [List.mem_zipIdx_iff_getElem?] at hm
    exact h i x hm
end
def anyI {α:Type} (p:α→Bool) (xs:List α) (i:Nat):Bool:=(xs.take i).any p
section
variable {α:Type} {p:α→Bool} {xs:List α} {i:Nat} {x:α}
@[simp] theorem anyI_zero:anyI p xs 0=false:=by simp [anyI]
theorem anyI_succ (hx:xs[i]?=some x):anyI p xs (i + 1)=(anyI p xs i || p x):=by
  simp [anyI,List.take_add_one,hx]
theorem anyI_all:anyI p xs xs.length=xs.any p:=by simp [anyI]
theorem any_yes (hx:xs[i]?=some x) (hp:p x=true):xs.any p=true:=List.any_eq_true.2 ⟨x,List.mem_of_getElem? hx,hp⟩
end
def fstI {α:Type} (p:α→Bool) (xs:List α):Int:=if xs.any p=true then (xs.findIdx p:Nat) else -1
theorem fst_yes {α:Type} {p:α→Bool} {xs:List α} {i:Nat} {x:α} (hx:xs[i]?=some x) (hp:p x=true) (hn:anyI p xs i=false):fstI p xs=i:=by
  rw [fstI,if_pos (any_yes hx hp)]
  congr 1
  have hi:i < xs.length:=by
    rw [List.getElem?_eq_some_iff] at hx
    exact hx.1
  rw [List.findIdx_eq hi]
  rw [List.getElem?_eq_some_iff] at hx
  refine ⟨by rw [hx.2];exact hp,fun j hj=>?_⟩
  simp only [anyI,List.any_eq_false] at hn
  have:=hn xs[j] (by rw [List.mem_take_iff_getElem];exact ⟨j,by omega,rfl⟩)
  simpa using this
theorem fst_no {α:Type} {p:α→Bool} {xs:List α} (hn:anyI p xs xs.length=false):fstI p xs=-1:=by
  rw [anyI_all] at hn
  simp [fstI,hn]
theorem fst_ge {α:Type} (p:α→Bool) (xs:List α):decide (0≤fstI p xs)=xs.any p:=by
  unfold fstI
  cases h:xs.any p <;> simp
def letterB (n:Int):Bool:=(decide (65≤n) && decide (n≤90)) || (decide (97≤n) && decide (n≤122))
def digitB (n:Int):Bool:=decide (48≤n) && decide (n≤57)
def inB (n lo hi:Int):Bool:=decide (lo≤n) && decide (n≤hi)
def okB (i:Nat) (b:UInt8):Bool:=letterB b.toNat || (!decide (i=0) && digitB b.toNat)
def nameB (s:ByteArray):Bool:=allI okB s.data.toList s.size && inB s.size 1 10
theorem ba_len (s:ByteArray):s.size=s.data.toList.length:=by
  rw [Array.length_toList]
  rfl
def hasB (l:List ByteArray) (s:ByteArray):Bool:=l.any fun x=>decide (x=s)
theorem okB_no {i:Nat} {x:UInt8}:okB i x=false ↔ (letterB (x.toNat:Int)=false∧(i=0 ∨ digitB (x.toNat:Int)=false)):=by
  unfold okB
  cases letterB (x.toNat:Int) <;> cases digitB (x.toNat:Int) <;> simp
theorem okB_no2 {i:Nat} {x:UInt8}:okB i x=false ↔ (((x.toNat:Int) < 65 ∨ 90 < (x.toNat:Int))∧((x.toNat:Int) < 97 ∨ 122 < (x.toNat:Int)))∧((i=0 ∨ (x.toNat:Int) < 48) ∨ 57 < (x.toNat:Int)):=by
  rw [okB_no]
  simp only [letterB,digitB,Bool.or_eq_false_iff,Bool.and_eq_false_iff,decide_eq_false_iff_not]
  omega
def unlikeB (l:List ByteArray):Bool:=allI (fun i x=>nameB x && !hasB (l.take i) x) l l.length
theorem injLS {α:Type} {f:α→V} (hf:Function.Injective f) {β:Type} (out:List α × ByteArray→β):∀ a b:List α × ByteArray,[V.lst (a.1.map f),.str a.2]=[V.lst (b.1.map f),.str b.2]→out a=out b:=by
  rintro ⟨a,i⟩ ⟨b,j⟩ h
  simp only [List.cons.injEq,and_true,V.lst.injEq,V.str.injEq] at h
  rw [map_inj hf h.1,h.2]
end Go.TM
end
section
set_option maxHeartbeats 2000000
namespace Go.TM.Tryz
open Go Go.TM Go.Proofs
theorem zmix:Tryz.prog.follows .mixedOrders=true:=by kernel_rfl
theorem f62_ok (xs:List ByteArray) (h:szL ByteArray.size xs≤1048576):FunOK Tryz.prog 62 [.lst (xs.map V.str)] false (.inl 1 (xs.map V.str)):=by
  refine fun_ok (mkE_ok zmix (cl:=[]) (gl:=[]) [] trivial trivial) Tryz.func62 (by kernel_rfl) ?_
  refine FunW_run _ _ rfl rfl ?_
  have hl:=szL_len ByteArray.size xs
  have hb2:xs.length * 16≤140737488355328:=by omega
  have hb3:xs.length≤4294967296:=by omega
  simp [room,hb2,hb3]
  refine lp_list xs (fun i t=>t.e 0=.lst (xs.map V.str)∧t.e 4=.int .i64 i∧t.e 3=.own 1∧t.nt=2∧t.nb=0∧t.R 1=some ⟨1,fill V.str (.str ⟨#[]⟩) xs i,true⟩) ?_ ?_ ?_
  · simp [fill_zero]
  · rintro c' L hL i t x hx hi ih ⟨h0,h4,h3,hnt,hnb,hR⟩
    have hw:=wrI (i:=i) (by omega)
    have hn:¬ 1=t.nt:=by omega
    simp [-getElem?_pos,gcz,gcs,h0,h4,h3,hnt,hnb,hR,hL,hx,hi,fill_get hi,hn]
    refine ih _ ?_
    simp [-getElem?_pos,gcz,gcs,h0,h4,h3,hnt,hnb,hR,hL,hx,hi,hw,hn]
    exact fill_set hx rfl
  · rintro c' t ⟨h0,h4,h3,hnt,hnb,hR⟩
    simp [h0,h4,h3,hnb,hR,fill_all]
noncomputable def c62:=ctr (fun xs:List ByteArray=>szL ByteArray.size xs≤1048576) (fun xs=>[.lst (xs.map V.str)]) (fun xs=>(false,.inl 1 (xs.map V.str)))
theorem c62_eq (xs:List ByteArray) (h:szL ByteArray.size xs≤1048576):c62 [.lst (xs.map V.str)]=some (false,.inl 1 (xs.map V.str)):=ctr_eq (injl str_inj _) xs h rfl
theorem c62_ok:COK Tryz.prog (62,c62):=ctr_ok fun n h=>f62_ok n h
theorem f215_ok (x:Fld) (h:True):FunOK Tryz.prog 215 [x.v] false x.v:=by
  refine fun_ok (mkE_ok zmix (cl:=[]) (gl:=[]) [] trivial trivial) Tryz.func215 (by kernel_rfl) ?_
  refine FunW_run _ _ rfl rfl ?_
  simp
noncomputable def c215:=ctr (fun x:Fld=>True) (fun x=>[x.v]) (fun x=>(false,x.v))
theorem c215_eq (a0:ByteArray) (a1:Int) (a2:Int):c215 [.agg [.str a0,.int .i64 a1,.int .i64 a2]]=some (false,.agg [.str a0,.int .i64 a1,.int .i64 a2]):=ctr_eq (inj0 Fld.v_inj _) (Fld.mk a0 a1 a2) trivial rfl
theorem c215_ok:COK Tryz.prog (215,c215):=ctr_ok fun n h=>f215_ok n h
theorem f171_ok (xs:List Fld) (h:szL Fld.sz xs≤1048576):FunOK Tryz.prog 171 [.lst (xs.map Fld.v)] false (.inl 3 (xs.map Fld.v)):=by
  refine fun_ok (mkE_ok zmix (cl:=[(215,c215)]) (gl:=[]) [] c215_ok trivial) Tryz.func171 (by kernel_rfl) ?_
  refine FunW_run _ _ rfl rfl ?_
  have hl:=szL_len Fld.sz xs
  have hb2:xs.length * 32≤140737488355328:=by omega
  have hb3:xs.length≤4294967296:=by omega
  simp [room,hb2,hb3]
  refine lp_list xs (fun i t=>t.e 0=.lst (xs.map Fld.v)∧t.e 4=.int .i64 i∧t.e 3=.own 1∧t.nt=2∧t.nb=0∧t.R 1=some ⟨3,fill Fld.v (.agg [.str ⟨#[]⟩,.int .i64 0,.int .i64 0]) xs i,true⟩) ?_ ?_ ?_
  · simp [fill_zero]
  · rintro c' L hL i t x hx hi ih ⟨h0,h4,h3,hnt,hnb,hR⟩
    have hw:=wrI (i:=i) (by omega)
    have hn:¬ 1=t.nt:=by omega
    simp [-getElem?_pos,gcz,gcs,h0,h4,h3,hnt,hnb,hR,hL,hx,hi,fill_get hi,hn,c215_eq]
    refine ih _ ?_
    simp [-getElem?_pos,gcz,gcs,h0,h4,h3,hnt,hnb,hR,hL,hx,hi,hw,hn]
    exact fill_set hx rfl
  · rintro c' t ⟨h0,h4,h3,hnt,hnb,hR⟩
    simp [h0,h4,h3,hnb,hR,fill_all]
noncomputable def c171:=ctr (fun xs:List Fld=>szL Fld.sz xs≤1048576) (fun xs=>[.lst (xs.map Fld.v)]) (fun xs=>(false,.inl 3 (xs.map Fld.v)))
theorem c171_eq (xs:List Fld) (h:szL Fld.sz xs≤1048576):c171 [.lst (xs.map Fld.v)]=some (false,.inl 3 (xs.map Fld.v)):=ctr_eq (injl Fld.v_inj _) xs h rfl
theorem c171_ok:COK Tryz.prog (171,c171):=ctr_ok fun n h=>f171_ok n h
theorem f216_ok (x:Par) (h:True):FunOK Tryz.prog 216 [x.v] false x.v:=by
  refine fun_ok (mkE_ok zmix (cl:=[]) (gl:=[]) [] trivial trivial) Tryz.func216 (by kernel_rfl) ?_
  refine FunW_run _ _ rfl rfl ?_
  simp
noncomputable def c216:=ctr (fun x:Par=>True) (fun x=>[x.v]) (fun x=>(false,x.v))
theorem c216_eq (a0:ByteArray) (a1:Bool) (a2:Int):c216 [.agg [.str a0,.bool a1,.int .i64 a2]]=some (false,.agg [.str a0,.bool a1,.int .i64 a2]):=ctr_eq (inj0 Par.v_inj _) (Par.mk a0 a1 a2) trivial rfl
theorem c216_ok:COK Tryz.prog (216,c216):=ctr_ok fun n h=>f216_ok n h
theorem f172_ok (xs:List Par) (h:szL Par.sz xs≤1048576):FunOK Tryz.prog 172 [.lst (xs.map Par.v)] false (.inl 3 (xs.map Par.v)):=by
  refine fun_ok (mkE_ok zmix (cl:=[(216,c216)]) (gl:=[]) [] c216_ok trivial) Tryz.func172 (by kernel_rfl) ?_
  refine FunW_run _ _ rfl rfl ?_
  have hl:=szL_len Par.sz xs
  have hb2:xs.length * 32≤140737488355328:=by omega
  have hb3:xs.length≤4294967296:=by omega
  simp [room,hb2,hb3]
  refine lp_list xs (fun i t=>t.e 0=.lst (xs.map Par.v)∧t.e 4=.int .i64 i∧t.e 3=.own 1∧t.nt=2∧t.nb=0∧t.R 1=some ⟨3,fill Par.v (.agg [.str ⟨#[]⟩,.bool false,.int .i64 0]) xs i,true⟩) ?_ ?_ ?_
  · simp [fill_zero]
  · rintro c' L hL i t x hx hi ih ⟨h0,h4,h3,hnt,hnb,hR⟩
    have hw:=wrI (i:=i) (by omega)
    have hn:¬ 1=t.nt:=by omega
    simp [-getElem?_pos,gcz,gcs,h0,h4,h3,hnt,hnb,hR,hL,hx,hi,fill_get hi,hn,c216_eq]
    refine ih _ ?_
    simp [-getElem?_pos,gcz,gcs,h0,h4,h3,hnt,hnb,hR,hL,hx,hi,hw,hn]
    exact fill_set hx rfl
  · rintro c' t ⟨h0,h4,h3,hnt,hnb,hR⟩
    simp [h0,h4,h3,hnb,hR,fill_all]
noncomputable def c172:=ctr (fun xs:List Par=>szL Par.sz xs≤1048576) (fun xs=>[.lst (xs.map Par.v)]) (fun xs=>(false,.inl 3 (xs.map Par.v)))
theorem c172_eq (xs:List Par) (h:szL Par.sz xs≤1048576):c172 [.lst (xs.map Par.v)]=some (false,.inl 3 (xs.map Par.v)):=ctr_eq (injl Par.v_inj _) xs h rfl
theorem c172_ok:COK Tryz.prog (172,c172):=ctr_ok fun n h=>f172_ok n h
theorem f123_ok (x:Use) (h:True):FunOK Tryz.prog 123 [x.v] false x.v:=by
  refine fun_ok (mkE_ok zmix (cl:=[]) (gl:=[]) [] trivial trivial) Tryz.func123 (by kernel_rfl) ?_
  refine FunW_run _ _ rfl rfl ?_
  simp
noncomputable def c123:=ctr (fun x:Use=>True) (fun x=>[x.v]) (fun x=>(false,x.v))
theorem c123_eq (a0:ByteArray) (a1:ByteArray):c123 [.agg [.str a0,.str a1]]=some (false,.agg [.str a0,.str a1]):=ctr_eq (inj0 Use.v_inj _) (Use.mk a0 a1) trivial rfl
theorem c123_ok:COK Tryz.prog (123,c123):=ctr_ok fun n h=>f123_ok n h
theorem f65_ok (xs:List Use) (h:szL Use.sz xs≤1048576):FunOK Tryz.prog 65 [.lst (xs.map Use.v)] false (.inl 2 (xs.map Use.v)):=by
  refine fun_ok (mkE_ok zmix (cl:=[(123,c123)]) (gl:=[]) [] c123_ok trivial) Tryz.func65 (by kernel_rfl) ?_
  refine FunW_run _ _ rfl rfl ?_
  have hl:=szL_len Use.sz xs
  have hb2:xs.length * 32≤140737488355328:=by omega
  have hb3:xs.length≤4294967296:=by omega
  simp [room,hb2,hb3]
  refine lp_list xs (fun i t=>t.e 0=.lst (xs.map Use.v)∧t.e 4=.int .i64 i∧t.e 3=.own 1∧t.nt=2∧t.nb=0∧t.R 1=some ⟨2,fill Use.v (.agg [.str ⟨#[]⟩,.str ⟨#[]⟩]) xs i,true⟩) ?_ ?_ ?_
  · simp [fill_zero]
  · rintro c' L hL i t x hx hi ih ⟨h0,h4,h3,hnt,hnb,hR⟩
    have hw:=wrI (i:=i) (by omega)
    have hn:¬ 1=t.nt:=by omega
    simp [-getElem?_pos,gcz,gcs,h0,h4,h3,hnt,hnb,hR,hL,hx,hi,fill_get hi,hn,c123_eq]
    refine ih _ ?_
    simp [-getElem?_pos,gcz,gcs,h0,h4,h3,hnt,hnb,hR,hL,hx,hi,hw,hn]
    exact fill_set hx rfl
  · rintro c' t ⟨h0,h4,h3,hnt,hnb,hR⟩
    simp [h0,h4,h3,hnb,hR,fill_all]
noncomputable def c65:=ctr (fun xs:List Use=>szL Use.sz xs≤1048576) (fun xs=>[.lst (xs.map Use.v)]) (fun xs=>(false,.inl 2 (xs.map Use.v)))
theorem c65_eq (xs:List Use) (h:szL Use.sz xs≤1048576):c65 [.lst (xs.map Use.v)]=some (false,.inl 2 (xs.map Use.v)):=ctr_eq (injl Use.v_inj _) xs h rfl
theorem c65_ok:COK Tryz.prog (65,c65):=ctr_ok fun n h=>f65_ok n h
theorem f121_ok (x:Ty) (h:x.sz≤1048576):FunOK Tryz.prog 121 [x.v] false x.o:=by
  refine fun_ok (mkE_ok zmix (cl:=[(171,c171)]) (gl:=[]) [] c171_ok trivial) Tryz.func121 (by kernel_rfl) ?_
  refine FunW_run _ _ rfl rfl ?_
  simp only [Ty.sz] at h
  have e0:=c171_eq x.fields (by omega)
  simp [e0]
noncomputable def c121:=ctr (fun x:Ty=>x.sz≤1048576) (fun x=>[x.v]) (fun x=>(false,x.o))
theorem c121_eq (a0:Int) (a1:Int) (a2:Int) (a3:List Fld) (a4:ByteArray) (a5:ByteArray) (h:Ty.sz (Ty.mk a0 a1 a2 a3 a4 a5)≤1048576):c121 [.agg [.int .i64 a0,.int .i64 a1,.int .i64 a2,.lst (a3.map Fld.v),.str a4,.str a5]]=some (false,.agg [.int .i64 a0,.int .i64 a1,.int .i64 a2,.inl 3 (a3.map Fld.v),.str a4,.str a5]):=ctr_eq (inj0 Ty.v_inj _) (Ty.mk a0 a1 a2 a3 a4 a5) h rfl
theorem c121_ok:COK Tryz.prog (121,c121):=ctr_ok fun n h=>f121_ok n h
theorem f63_ok (xs:List Ty) (h:szL Ty.sz xs≤1048576):FunOK Tryz.prog 63 [.lst (xs.map Ty.v)] false (.inl 6 (xs.map Ty.o)):=by
  refine fun_ok (mkE_ok zmix (cl:=[(121,c121)]) (gl:=[]) [] c121_ok trivial) Tryz.func63 (by kernel_rfl) ?_
  refine FunW_run _ _ rfl rfl ?_
  have hl:=szL_len Ty.sz xs
  have hb2:xs.length * 80≤140737488355328:=by omega
  have hb3:xs.length≤4294967296:=by omega
  simp [room,hb2,hb3]
  refine lp_list xs (fun i t=>t.e 0=.lst (xs.map Ty.v)∧t.e 4=.int .i64 i∧t.e 3=.own 1∧2≤t.nt∧t.nb=0∧t.R 1=some ⟨6,fill Ty.o (.agg [.int .i64 0,.int .i64 0,.int .i64 0,.inl 3 [],.str ⟨#[]⟩,.str ⟨#[]⟩]) xs i,true⟩) ?_ ?_ ?_
  · simp [fill_zero]
  · rintro c' L hL i t x hx hi ih ⟨h0,h4,h3,hnt,hnb,hR⟩
    have hw:=wrI (i:=i) (by omega)
    have hn:¬ 1=t.nt:=by omega
    simp [-getElem?_pos,gcz,gcs,h0,h4,h3,hnb,hR,hL,hx,hi,fill_get hi,hn,c121_eq _ _ _ _ _ _ (Nat.le_trans (szL_get hx) h)]
    refine ih _ ?_
    simp [-getElem?_pos,gcz,gcs,h0,h4,h3,hnb,hR,hL,hx,hi,hw,hn]
    exact ⟨by omega,fill_set hx rfl⟩
  · rintro c' t ⟨h0,h4,h3,hnt,hnb,hR⟩
    simp [h0,h4,h3,hnb,hR,fill_all]
noncomputable def c63:=ctr (fun xs:List Ty=>szL Ty.sz xs≤1048576) (fun xs=>[.lst (xs.map Ty.v)]) (fun xs=>(false,.inl 6 (xs.map Ty.o)))
theorem c63_eq (xs:List Ty) (h:szL Ty.sz xs≤1048576):c63 [.lst (xs.map Ty.v)]=some (false,.inl 6 (xs.map Ty.o)):=ctr_eq (injl Ty.v_inj _) xs h rfl
theorem c63_ok:COK Tryz.prog (63,c63):=ctr_ok fun n h=>f63_ok n h
theorem f122_ok (x:Obj) (h:x.sz≤1048576):FunOK Tryz.prog 122 [x.v] false x.o:=by
  refine fun_ok (mkE_ok zmix (cl:=[(172,c172)]) (gl:=[]) [] c172_ok trivial) Tryz.func122 (by kernel_rfl) ?_
  refine FunW_run _ _ rfl rfl ?_
  simp only [Obj.sz] at h
  have e0:=c172_eq x.params (by omega)
  simp [e0]
noncomputable def c122:=ctr (fun x:Obj=>x.sz≤1048576) (fun x=>[x.v]) (fun x=>(false,x.o))
theorem c122_eq (a0:ByteArray) (a1:Int) (a2:Int) (a3:Int) (a4:Int) (a5:List Par) (h:Obj.sz (Obj.mk a0 a1 a2 a3 a4 a5)≤1048576):c122 [.agg [.str a0,.int .i64 a1,.int .i64 a2,.int .i64 a3,.int .i64 a4,.lst (a5.map Par.v)]]=some (false,.agg [.str a0,.int .i64 a1,.int .i64 a2,.int .i64 a3,.int .i64 a4,.inl 3 (a5.map Par.v)]):=ctr_eq (inj0 Obj.v_inj _) (Obj.mk a0 a1 a2 a3 a4 a5) h rfl
theorem c122_ok:COK Tryz.prog (122,c122):=ctr_ok fun n h=>f122_ok n h
theorem f64_ok (xs:List Obj) (h:szL Obj.sz xs≤1048576):FunOK Tryz.prog 64 [.lst (xs.map Obj.v)] false (.inl 6 (xs.map Obj.o)):=by
  refine fun_ok (mkE_ok zmix (cl:=[(122,c122)]) (gl:=[]) [] c122_ok trivial) Tryz.func64 (by kernel_rfl) ?_
  refine FunW_run _ _ rfl rfl ?_
  have hl:=szL_len Obj.sz xs
  have hb2:xs.length * 72≤140737488355328:=by omega
  have hb3:xs.length≤4294967296:=by omega
  simp [room,hb2,hb3]
  refine lp_list xs (fun i t=>t.e 0=.lst (xs.map Obj.v)∧t.e 4=.int .i64 i∧t.e 3=.own 1∧2≤t.nt∧t.nb=0∧t.R 1=some ⟨6,fill Obj.o (.agg [.str ⟨#[]⟩,.int .i64 0,.int .i64 0,.int .i64 0,.int .i64 0,.inl 3 []]) xs i,true⟩) ?_ ?_ ?_
  · simp [fill_zero]
  · rintro c' L hL i t x hx hi ih ⟨h0,h4,h3,hnt,hnb,hR⟩
    have hw:=wrI (i:=i) (by omega)
    have hn:¬ 1=t.nt:=by omega
    simp [-getElem?_pos,gcz,gcs,h0,h4,h3,hnb,hR,hL,hx,hi,fill_get hi,hn,c122_eq _ _ _ _ _ _ (Nat.le_trans (szL_get hx) h)]
    refine ih _ ?_
    simp [-getElem?_pos,gcz,gcs,h0,h4,h3,hnb,hR,hL,hx,hi,hw,hn]
    exact ⟨by omega,fill_set hx rfl⟩
  · rintro c' t ⟨h0,h4,h3,hnt,hnb,hR⟩
    simp [h0,h4,h3,hnb,hR,fill_all]
noncomputable def c64:=ctr (fun xs:List Obj=>szL Obj.sz xs≤1048576) (fun xs=>[.lst (xs.map Obj.v)]) (fun xs=>(false,.inl 6 (xs.map Obj.o)))
theorem c64_eq (xs:List Obj) (h:szL Obj.sz xs≤1048576):c64 [.lst (xs.map Obj.v)]=some (false,.inl 6 (xs.map Obj.o)):=ctr_eq (injl Obj.v_inj _) xs h rfl
theorem c64_ok:COK Tryz.prog (64,c64):=ctr_ok fun n h=>f64_ok n h
theorem f14_ok (x:Scp) (h:x.sz≤1048576):FunOK Tryz.prog 14 [x.v] false x.o:=by
  refine fun_ok (mkE_ok zmix (cl:=[(62,c62),(63,c63),(64,c64),(65,c65)]) (gl:=[]) [] ⟨c62_ok,c63_ok,c64_ok,c65_ok⟩ trivial) Tryz.func14 (by kernel_rfl) ?_
  refine FunW_run _ _ rfl rfl ?_
  simp only [Scp.sz] at h
  have e0:=c62_eq x.imports (by omega)
  have e1:=c63_eq x.types (by omega)
  have e2:=c64_eq x.objects (by omega)
  have e3:=c65_eq x.uses (by omega)
  simp [e0,e1,e2,e3]
noncomputable def c14:=ctr (fun x:Scp=>x.sz≤1048576) (fun x=>[x.v]) (fun x=>(false,x.o))
theorem c14_eq (a0:ByteArray) (a1:List ByteArray) (a2:List Ty) (a3:List Obj) (a4:List Use) (h:Scp.sz (Scp.mk a0 a1 a2 a3 a4)≤1048576):c14 [.agg [.str a0,.lst (a1.map V.str),.lst (a2.map Ty.v),.lst (a3.map Obj.v),.lst (a4.map Use.v)]]=some (false,.agg [.str a0,.inl 1 (a1.map V.str),.inl 6 (a2.map Ty.o),.inl 6 (a3.map Obj.o),.inl 2 (a4.map Use.v)]):=ctr_eq (inj0 Scp.v_inj _) (Scp.mk a0 a1 a2 a3 a4) h rfl
theorem c14_ok:COK Tryz.prog (14,c14):=ctr_ok fun n h=>f14_ok n h
end Go.TM.Tryz
end
section
set_option maxHeartbeats 2000000
namespace Go.TM.Tryz
open Go Go.TM Go.Proofs
theorem f173_ok (n:Int):FunOK Tryz.prog 173 [.int .u8 n] false (.bool (letterB n)):=by
  refine fun_ok (mkE_ok zmix (cl:=[]) (gl:=[]) [] trivial trivial) Tryz.func173 (by kernel_rfl) ?_
  refine FunW_run _ _ rfl rfl ?_
  simp [letterB]
noncomputable def c173:=ctr (fun _:Int=>True) (fun n=>[.int .u8 n]) (fun n=>(false,.bool (letterB n)))
theorem c173_eq (n:Int):c173 [.int .u8 n]=some (false,.bool (letterB n)):=ctr_eq (by simp) n trivial rfl
theorem c173_ok:COK Tryz.prog (173,c173):=ctr_ok fun n _=>f173_ok n
theorem f174_ok (n:Int):FunOK Tryz.prog 174 [.int .u8 n] false (.bool (digitB n)):=by
  refine fun_ok (mkE_ok zmix (cl:=[]) (gl:=[]) [] trivial trivial) Tryz.func174 (by kernel_rfl) ?_
  refine FunW_run _ _ rfl rfl ?_
  simp [digitB]
noncomputable def c174:=ctr (fun _:Int=>True) (fun n=>[.int .u8 n]) (fun n=>(false,.bool (digitB n)))
theorem c174_eq (n:Int):c174 [.int .u8 n]=some (false,.bool (digitB n)):=ctr_eq (by simp) n trivial rfl
theorem c174_ok:COK Tryz.prog (174,c174):=ctr_ok fun n _=>f174_ok n
theorem f175_ok (a:Int × Int × Int):FunOK Tryz.prog 175 [.int .i64 a.1,.int .i64 a.2.1,.int .i64 a.2.2] false (.bool (inB a.1 a.2.1 a.2.2)):=by
  refine fun_ok (mkE_ok zmix (cl:=[]) (gl:=[]) [] trivial trivial) Tryz.func175 (by kernel_rfl) ?_
  refine FunW_run _ _ rfl rfl ?_
  simp [inB]
noncomputable def c175:=ctr (fun _:Int × Int × Int=>True) (fun a=>[.int .i64 a.1,.int .i64 a.2.1,.int .i64 a.2.2]) (fun a=>(false,.bool (inB a.1 a.2.1 a.2.2)))
theorem c175_eq (n l h:Int):c175 [.int .i64 n,.int .i64 l,.int .i64 h]=some (false,.bool (inB n l h)):=ctr_eq (by rintro ⟨a,b,c⟩ ⟨d,e,f⟩;simp;rintro rfl rfl rfl;simp) (n,l,h) trivial rfl
theorem c175_ok:COK Tryz.prog (175,c175):=ctr_ok fun n _=>f175_ok n
theorem f167_ok (a:Int × Int × Int):FunOK Tryz.prog 167 [.int .i64 a.1,.int .i64 a.2.1,.int .i64 a.2.2] false (.bool (inB a.1 a.2.1 a.2.2)):=by
  refine fun_ok (mkE_ok zmix (cl:=[]) (gl:=[]) [] trivial trivial) Tryz.func167 (by kernel_rfl) ?_
  refine FunW_run _ _ rfl rfl ?_
  simp [inB]
noncomputable def c167:=ctr (fun _:Int × Int × Int=>True) (fun a=>[.int .i64 a.1,.int .i64 a.2.1,.int .i64 a.2.2]) (fun a=>(false,.bool (inB a.1 a.2.1 a.2.2)))
theorem c167_eq (n l h:Int):c167 [.int .i64 n,.int .i64 l,.int .i64 h]=some (false,.bool (inB n l h)):=ctr_eq (by rintro ⟨a,b,c⟩ ⟨d,e,f⟩;simp;rintro rfl rfl rfl;simp) (n,l,h) trivial rfl
theorem c167_ok:COK Tryz.prog (167,c167):=ctr_ok fun n _=>f167_ok n
theorem f124_ok (s:ByteArray) (hs:s.size≤lim):FunOK Tryz.prog 124 [.str s] false (.bool (nameB s)):=by
  refine fun_ok (mkE_ok zmix (cl:=[(173,c173),(174,c174),(175,c175)]) (gl:=[]) [] ⟨c173_ok,c174_ok,c175_ok⟩ trivial) Tryz.func124 (by kernel_rfl) ?_
  refine FunW_run _ _ rfl rfl ?_
  have hsz:=ba_len s
  simp only [lim] at hs
  simp
  refine lp_list s.data.toList (fun i t=>t.e 0=.str s∧t.e 5=.int .i64 s.size∧t.e 6=.int .i64 i∧allI okB s.data.toList i=true) ?_ ?_ ?_
  · simp
  · rintro c' L hL i t x hx hi ih ⟨h0,h5,h6,hall⟩
    have hi':i < s.size:=by omega
    have hw:=wrI (i:=i) (by omega)
    have hx':s.data[i]?=some x:=by simpa using hx
    simp [-getElem?_pos,h0,h5,h6,hL,hi',hx',c173_eq,c174_eq]
    split
    · rename_i hc
      have hok:okB i x=false:=okB_no.2 hc
      have:=allI_no hx hok
      rw [← hsz] at this
      simp [nameB,this]
    · rename_i hc
      have hok:okB i x=true:=by rw [← Bool.not_eq_false,okB_no];exact hc
      refine ih _ ?_
      simp [h0,h5,h6,hw,allI_succ hx,hall,hok]
  · rintro c' t ⟨h0,h5,h6,hall⟩
    rw [← hsz] at h6 hall
    simp [h0,h5,h6,c175_eq,nameB,hall]
noncomputable def c124:=ctr (fun s:ByteArray=>s.size≤lim) (fun s=>[.str s]) (fun s=>(false,.bool (nameB s)))
theorem c124_eq (s:ByteArray) (h:s.size≤lim):c124 [.str s]=some (false,.bool (nameB s)):=ctr_eq (by simp) s h rfl
theorem c124_ok:COK Tryz.prog (124,c124):=ctr_ok fun s h=>f124_ok s h
theorem f111_ok (s:ByteArray) (hs:s.size≤lim):FunOK Tryz.prog 111 [.str s] false (.bool (nameB s)):=by
  refine fun_ok (mkE_ok zmix (cl:=[(167,c167)]) (gl:=[]) [] c167_ok trivial) Tryz.func111 (by kernel_rfl) ?_
  refine FunW_run _ _ rfl rfl ?_
  have hsz:=ba_len s
  simp only [lim] at hs
  simp
  refine lp_list s.data.toList (fun i t=>t.e 0=.str s∧t.e 3=.int .i64 i∧allI okB s.data.toList i=true) ?_ ?_ ?_
  · simp
  · rintro c' L hL i t x hx hi ih ⟨h0,h3,hall⟩
    have hi':i < s.size:=by omega
    have hw:=wrI (i:=i) (by omega)
    have hx':s.data[i]?=some x:=by simpa using hx
    simp [-getElem?_pos,h0,h3,hL,hi',hx']
    split
    · rename_i hc
      have hno:=allI_no hx (okB_no2.2 hc)
      rw [← hsz] at hno
      simp [nameB,hno]
    · rename_i hc
      have hok:okB i x=true:=by rw [← Bool.not_eq_false,okB_no2];exact hc
      refine ih _ ?_
      simp [h0,h3,hw,allI_succ hx,hall,hok]
  · rintro c' t ⟨h0,h3,hall⟩
    rw [← hsz] at h3 hall
    simp [h0,h3,c167_eq,nameB,hall]
noncomputable def c111:=ctr (fun s:ByteArray=>s.size≤lim) (fun s=>[.str s]) (fun s=>(false,.bool (nameB s)))
theorem c111_eq (s:ByteArray) (h:s.size≤lim):c111 [.str s]=some (false,.bool (nameB s)):=ctr_eq (by simp) s h rfl
theorem c111_ok:COK Tryz.prog (111,c111):=ctr_ok fun s h=>f111_ok s h
theorem f112_ok (l:List ByteArray) (s:ByteArray) (hl:l.length≤lim):FunOK Tryz.prog 112 [.lst (l.map .str),.str s] false (.bool (hasB l s)):=by
  refine fun_ok (mkE_ok zmix (cl:=[]) (gl:=[]) [] trivial trivial) Tryz.func112 (by kernel_rfl) ?_
  refine FunW_run _ _ rfl rfl ?_
  simp only [lim] at hl
  simp
  refine lp_list l (fun i t=>t.e 1=.str s∧t.e 7=.lst (l.map .str)∧t.e 8=.int .i64 l.length∧t.e 9=.int .i64 i∧anyI (fun x=>decide (x=s)) l i=false) ?_ ?_ ?_
  · simp
  · rintro c' L hL i t x hx hi ih ⟨h1,h7,h8,h9,hall⟩
    have hw:=wrI (i:=i) (by omega)
    simp [-getElem?_pos,List.getElem?_cons_zero,h1,h7,h8,h9,hL,hi,hx]
    split
    · rename_i hc
      exact any_yes hx (by simp [hc])
    · rename_i hc
      refine ih _ ?_
      simp [h1,h7,h8,h9,hw,anyI_succ hx,hall,hc]
  · rintro c' t ⟨h1,h7,h8,h9,hall⟩
    rw [anyI_all] at hall
    simp [h1,h7,h8,h9,hasB,hall]
noncomputable def c112:=ctr (fun a:List ByteArray × ByteArray=>a.1.length≤lim) (fun a=>[.lst (a.1.map .str),.str a.2]) (fun a=>(false,.bool (hasB a.1 a.2)))
theorem c112_eq (l:List ByteArray) (s:ByteArray) (h:l.length≤lim):c112 [.lst (l.map .str),.str s]=some (false,.bool (hasB l s)):=ctr_eq (injLS str_inj _) (l,s) h rfl
theorem c112_ok:COK Tryz.prog (112,c112):=ctr_ok fun a h=>f112_ok a.1 a.2 h
theorem f182_ok (l:List ByteArray) (s:ByteArray) (hl:l.length≤lim):FunOK Tryz.prog 182 [.lst (l.map .str),.str s] false (.int .i64 (fstI (fun x=>decide (x=s)) l)):=by
  refine fun_ok (mkE_ok zmix (cl:=[]) (gl:=[]) [] trivial trivial) Tryz.func182 (by kernel_rfl) ?_
  refine FunW_run _ _ rfl rfl ?_
  simp only [lim] at hl
  simp
  refine lp_list l (fun i t=>t.e 1=.str s∧t.e 0=.lst (l.map .str)∧t.e 7=.int .i64 l.length∧t.e 8=.int .i64 i∧anyI (fun x=>decide (x=s)) l i=false) ?_ ?_ ?_
  · simp
  · rintro c' L hL i t x hx hi ih ⟨h1,h7,h8,h9,hall⟩
    have hw:=wrI (i:=i) (by omega)
    simp [-getElem?_pos,List.getElem?_cons_zero,h1,h7,h8,h9,hL,hi,hx]
    split
    · rename_i hc
      exact (fst_yes hx (by simp [hc]) hall).symm
    · rename_i hc
      refine ih _ ?_
      simp [h1,h7,h8,h9,hw,anyI_succ hx,hall]
      exact fun h=>hc h.symm
  · rintro c' t ⟨h1,h7,h8,h9,hall⟩
    simp [h1,h7,h8,h9,fst_no hall]
noncomputable def c182:=ctr (fun a:List ByteArray × ByteArray=>a.1.length≤lim) (fun a=>[.lst (a.1.map .str),.str a.2]) (fun a=>(false,.int .i64 (fstI (fun x=>decide (x=a.2)) a.1)))
theorem c182_eq (l:List ByteArray) (s:ByteArray) (h:l.length≤lim):c182 [.lst (l.map .str),.str s]=some (false,.int .i64 (fstI (fun x=>decide (x=s)) l)):=ctr_eq (injLS str_inj _) (l,s) h rfl
theorem c182_ok:COK Tryz.prog (182,c182):=ctr_ok fun a h=>f182_ok a.1 a.2 h
theorem f129_ok (l:List ByteArray) (s:ByteArray) (hl:l.length≤lim):FunOK Tryz.prog 129 [.lst (l.map .str),.str s] false (.bool (hasB l s)):=by
  refine fun_ok (mkE_ok zmix (cl:=[(182,c182)]) (gl:=[]) [] c182_ok trivial) Tryz.func129 (by kernel_rfl) ?_
  refine FunW_run _ _ rfl rfl ?_
  simp [c182_eq l s hl,fst_ge,hasB]
noncomputable def c129:=ctr (fun a:List ByteArray × ByteArray=>a.1.length≤lim) (fun a=>[.lst (a.1.map .str),.str a.2]) (fun a=>(false,.bool (hasB a.1 a.2)))
theorem c129_eq (l:List ByteArray) (s:ByteArray) (h:l.length≤lim):c129 [.lst (l.map .str),.str s]=some (false,.bool (hasB l s)):=ctr_eq (injLS str_inj _) (l,s) h rfl
theorem c129_ok:COK Tryz.prog (129,c129):=ctr_ok fun a h=>f129_ok a.1 a.2 h
theorem f125_ok (l:List ByteArray) (hl:limL strLim l):FunOK Tryz.prog 125 [.lst (l.map .str)] false (.bool (unlikeB l)):=by
  refine fun_ok (mkE_ok zmix (cl:=[(124,c124),(129,c129)]) (gl:=[]) [] ⟨c124_ok,c129_ok⟩ trivial) Tryz.func125 (by kernel_rfl) ?_
  refine FunW_run _ _ rfl rfl ?_
  have hlen:=hl.1
  simp
  refine lp_list l (fun i t=>t.e 0=.lst (l.map .str)∧t.e 5=.lst (l.map .str)∧t.e 6=.int .i64 l.length∧t.e 7=.int .i64 i∧allI (fun i x=>nameB x && !hasB (l.take i) x) l i=true) ?_ ?_ ?_
  · simp
  · rintro c' L hL i t x hx hi ih ⟨h0,h5,h6,h7,hall⟩
    have e1:=c124_eq x (hl.2 x (List.mem_of_getElem? hx))
    have e2:=c129_eq (l.take i) x (by simp only [List.length_take];omega)
    rw [List.map_take] at e2
    simp only [lim] at hlen
    have hw:=wrI (i:=i) (by omega)
    simp [-getElem?_pos,List.getElem?_cons_zero,h0,h5,h6,h7,hL,hi,hx,e1,e2]
    refine ⟨fun _=>Nat.le_of_lt hi,?_⟩
    split
    · rename_i hc
      exact allI_no hx (by cases h1:nameB x <;> simp_all only [Bool.and_eq_false_iff,Bool.not_eq_false',Bool.true_and,Bool.false_and,false_or,true_or,reduceCtorEq,Bool.not_true])
    · rename_i hc
      refine ih _ ?_
      simp [h0,h5,h6,h7,hw,allI_succ hx,hall]
      simpa using hc
  · rintro c' t ⟨h0,h5,h6,h7,hall⟩
    simp [h0,h5,h6,h7,unlikeB,hall]
noncomputable def c125:=ctr (fun l:List ByteArray=>limL strLim l) (fun l=>[.lst (l.map .str)]) (fun l=>(false,.bool (unlikeB l)))
theorem c125_eq (l:List ByteArray) (h:limL strLim l):c125 [.lst (l.map .str)]=some (false,.bool (unlikeB l)):=ctr_eq (injl str_inj _) l h rfl
theorem c125_ok:COK Tryz.prog (125,c125):=ctr_ok fun l h=>f125_ok l h
end Go.TM.Tryz
end
section
set_option maxHeartbeats 2000000
namespace Go.TM.Tryz
open Go Go.TM Go.Proofs
def sameParB (p q:Par):Bool:=decide (q.name=p.name)
theorem f180_ok (q p:Par):FunOK Tryz.prog 180 [q.v,.ladr [p.v] 0 0] false (.bool (sameParB p q)):=by
  refine fun_ok (mkE_ok zmix (cl:=[]) (gl:=[]) [] trivial trivial) Tryz.func180 (by kernel_rfl) ?_
  refine FunW_run _ _ rfl rfl ?_
  simp [sameParB]
theorem inj180 {β:Type} (out:Par × Par→β):∀ a b:Par × Par,[a.1.v,.ladr [a.2.v] 0 0]=[b.1.v,.ladr [b.2.v] 0 0]→out a=out b:=by
  rintro ⟨a,c⟩ ⟨b,d⟩ h
  simp only [List.cons.injEq,and_true,V.ladr.injEq] at h
  rw [Par.v_inj h.1,Par.v_inj h.2]
noncomputable def c180:=ctr (fun _:Par × Par=>True) (fun a=>[a.1.v,.ladr [a.2.v] 0 0]) (fun a=>(false,.bool (sameParB a.2 a.1)))
theorem c180_eq (q p:Par):c180 [q.v,.ladr [p.v] 0 0]=some (false,.bool (sameParB p q)):=ctr_eq (inj180 _) (q,p) trivial rfl
theorem c180_ok:COK Tryz.prog (180,c180):=ctr_ok fun a h=>f180_ok a.1 a.2
theorem f227_ok (l:List Par) (p:Par) (hl:l.length≤lim):FunOK Tryz.prog 227 [.lst (l.map Par.v),.fn 180 [.ladr [p.v] 0 0]] false (.int .i64 (fstI (sameParB p) l)):=by
  refine fun_ok (mkE_ok zmix (cl:=[(180,c180)]) (gl:=[]) [] c180_ok trivial) Tryz.func227 (by kernel_rfl) ?_
  refine FunW_run _ _ rfl rfl ?_
  simp only [lim] at hl
  simp
  refine lp_list l (fun i t=>t.e 1=.fn 180 [.ladr [p.v] 0 0]∧t.e 0=.lst (l.map Par.v)∧t.e 7=.int .i64 l.length∧t.e 8=.int .i64 i∧anyI (sameParB p) l i=false) ?_ ?_ ?_
  · simp
  · rintro c' L hL i t x hx hi ih ⟨h1,h7,h8,h9,hall⟩
    have hw:=wrI (i:=i) (by omega)
    have e:=c180_eq x p
    simp only [Par.v] at e
    simp [-getElem?_pos,List.getElem?_cons_zero,h1,h7,h8,h9,hL,hi,hx,e]
    split
    · rename_i hc
      exact (fst_yes hx hc hall).symm
    · rename_i hc
      refine ih _ ?_
      simp [h1,h7,h8,h9,hw,anyI_succ hx,hall,hc]
  · rintro c' t ⟨h1,h7,h8,h9,hall⟩
    simp [h1,h7,h8,h9,fst_no hall]
theorem inj227 {β:Type} (out:List Par × Par→β):∀ a b:List Par × Par,[V.lst (a.1.map Par.v),.fn 180 [.ladr [a.2.v] 0 0]]=[V.lst (b.1.map Par.v),.fn 180 [.ladr [b.2.v] 0 0]]→out a=out b:=by
  rintro ⟨a,c⟩ ⟨b,d⟩ h
  simp only [List.cons.injEq,and_true,V.ladr.injEq,V.fn.injEq,true_and,V.lst.injEq] at h
  rw [map_inj Par.v_inj h.1,Par.v_inj h.2]
noncomputable def c227:=ctr (fun a:List Par × Par=>a.1.length≤lim) (fun a=>[.lst (a.1.map Par.v),.fn 180 [.ladr [a.2.v] 0 0]]) (fun a=>(false,.int .i64 (fstI (sameParB a.2) a.1)))
theorem c227_eq (l:List Par) (p:Par) (h:l.length≤lim):c227 [.lst (l.map Par.v),.fn 180 [.ladr [p.v] 0 0]]=some (false,.int .i64 (fstI (sameParB p) l)):=ctr_eq (inj227 _) (l,p) h rfl
theorem c227_ok:COK Tryz.prog (227,c227):=ctr_ok fun a h=>f227_ok a.1 a.2 h
theorem f179_ok (l:List Par) (p:Par) (hl:l.length≤lim):FunOK Tryz.prog 179 [.lst (l.map Par.v),.fn 180 [.ladr [p.v] 0 0]] false (.bool (l.any (sameParB p))):=by
  refine fun_ok (mkE_ok zmix (cl:=[(227,c227)]) (gl:=[]) [] c227_ok trivial) Tryz.func179 (by kernel_rfl) ?_
  refine FunW_run _ _ rfl rfl ?_
  have e:=c227_eq l p hl
  simp only [Par.v] at e
  simp [e,fst_ge]
noncomputable def c179:=ctr (fun a:List Par × Par=>a.1.length≤lim) (fun a=>[.lst (a.1.map Par.v),.fn 180 [.ladr [a.2.v] 0 0]]) (fun a=>(false,.bool (a.1.any (sameParB a.2))))
theorem c179_eq (l:List Par) (p:Par) (h:l.length≤lim):c179 [.lst (l.map Par.v),.fn 180 [.ladr [p.v] 0 0]]=some (false,.bool (l.any (sameParB p))):=ctr_eq (inj227 _) (l,p) h rfl
theorem c179_ok:COK Tryz.prog (179,c179):=ctr_ok fun a h=>f179_ok a.1 a.2 h
theorem f178_ok (l:List Ty) (n:Int) (hl:l.length≤lim):FunOK Tryz.prog 178 [.lst (l.map Ty.v),.int .i64 n] false (.bool (inB n 0 (l.length - 1))):=by
  refine fun_ok (mkE_ok zmix (cl:=[(175,c175)]) (gl:=[]) [] c175_ok trivial) Tryz.func178 (by kernel_rfl) ?_
  refine FunW_run _ _ rfl rfl ?_
  simp only [lim] at hl
  have hw:IntKind.i64.wrap ((l.length:Int) - 1)=l.length - 1:=wrap64 (by omega) (by omega)
  simp [c175_eq,hw]
noncomputable def c178:=ctr (fun a:List Ty × Int=>a.1.length≤lim) (fun a=>[.lst (a.1.map Ty.v),.int .i64 a.2]) (fun a=>(false,.bool (inB a.2 0 (a.1.length - 1))))
theorem c178_eq (l:List Ty) (n:Int) (h:l.length≤lim):c178 [.lst (l.map Ty.v),.int .i64 n]=some (false,.bool (inB n 0 (l.length - 1))):=ctr_eq (injl1 Ty.v_inj _) (l,n) h rfl
theorem c178_ok:COK Tryz.prog (178,c178):=ctr_ok fun a h=>f178_ok a.1 a.2 h
theorem f181_ok (n:Int):FunOK Tryz.prog 181 [.int .i64 n] false (.bool (inB n (-1000000000) 1000000000)):=by
  refine fun_ok (mkE_ok zmix (cl:=[(175,c175)]) (gl:=[]) [] c175_ok trivial) Tryz.func181 (by kernel_rfl) ?_
  refine FunW_run _ _ rfl rfl ?_
  simp [c175_eq]
noncomputable def c181:=ctr (fun _:Int=>True) (fun n=>[.int .i64 n]) (fun n=>(false,.bool (inB n (-1000000000) 1000000000)))
theorem c181_eq (n:Int):c181 [.int .i64 n]=some (false,.bool (inB n (-1000000000) 1000000000)):=ctr_eq (by simp) n trivial rfl
theorem c181_ok:COK Tryz.prog (181,c181):=ctr_ok fun n _=>f181_ok n
end Go.TM.Tryz
end
section
set_option maxHeartbeats 2000000
namespace Go.TM.Tryz
open Go Go.TM Go.Proofs
def sameUseB (u x:Use):Bool:=decide (u.mod=x.mod) && decide (u.name=x.name)
theorem f183_ok (l:List Use) (u:Use) (hl:l.length≤lim):FunOK Tryz.prog 183 [.lst (l.map Use.v),u.v] false (.int .i64 (fstI (sameUseB u) l)):=by
  refine fun_ok (mkE_ok zmix (cl:=[]) (gl:=[]) [] trivial trivial) Tryz.func183 (by kernel_rfl) ?_
  refine FunW_run _ _ rfl rfl ?_
  simp only [lim] at hl
  simp
  refine lp_list l (fun i t=>t.e 3=.ptr 0 0∧t.B 0=some u.v∧t.e 0=.lst (l.map Use.v)∧t.e 7=.int .i64 l.length∧t.e 8=.int .i64 i∧anyI (sameUseB u) l i=false) ?_ ?_ ?_
  · simp
  · rintro c' L hL i t x hx hi ih ⟨h1,hB,h7,h8,h9,hall⟩
    have hw:=wrI (i:=i) (by omega)
    simp only [Use.v] at hB
    simp [-getElem?_pos,List.getElem?_cons_zero,h1,hB,h7,h8,h9,hL,hi,hx]
    split
    · rename_i hc
      exact (fst_yes hx (by simp [sameUseB,hc]) hall).symm
    · rename_i hc
      refine ih _ ?_
      simp [h1,hB,h7,h8,h9,hw,anyI_succ hx,hall]
      simpa [sameUseB] using hc
  · rintro c' t ⟨h1,hB,h7,h8,h9,hall⟩
    simp [h1,h7,h8,h9,fst_no hall]
theorem inj183 {β:Type} (out:List Use × Use→β):∀ a b:List Use × Use,[V.lst (a.1.map Use.v),a.2.v]=[V.lst (b.1.map Use.v),b.2.v]→out a=out b:=by
  rintro ⟨a,c⟩ ⟨b,d⟩ h
  simp only [List.cons.injEq,and_true,V.lst.injEq] at h
  rw [map_inj Use.v_inj h.1,Use.v_inj h.2]
noncomputable def c183:=ctr (fun a:List Use × Use=>a.1.length≤lim) (fun a=>[.lst (a.1.map Use.v),a.2.v]) (fun a=>(false,.int .i64 (fstI (sameUseB a.2) a.1)))
theorem c183_eq (l:List Use) (u:Use) (h:l.length≤lim):c183 [.lst (l.map Use.v),u.v]=some (false,.int .i64 (fstI (sameUseB u) l)):=ctr_eq (inj183 _) (l,u) h rfl
theorem c183_ok:COK Tryz.prog (183,c183):=ctr_ok fun a h=>f183_ok a.1 a.2 h
theorem f130_ok (l:List Use) (u:Use) (hl:l.length≤lim):FunOK Tryz.prog 130 [.lst (l.map Use.v),u.v] false (.bool (l.any (sameUseB u))):=by
  refine fun_ok (mkE_ok zmix (cl:=[(183,c183)]) (gl:=[]) [] c183_ok trivial) Tryz.func130 (by kernel_rfl) ?_
  refine FunW_run _ _ rfl rfl ?_
  have e:=c183_eq l u hl
  simp only [Use.v] at e
  simp [e,fst_ge]
noncomputable def c130:=ctr (fun a:List Use × Use=>a.1.length≤lim) (fun a=>[.lst (a.1.map Use.v),a.2.v]) (fun a=>(false,.bool (a.1.any (sameUseB a.2))))
theorem c130_eq (l:List Use) (u:Use) (h:l.length≤lim):c130 [.lst (l.map Use.v),u.v]=some (false,.bool (l.any (sameUseB u))):=ctr_eq (inj183 _) (l,u) h rfl
theorem c130_ok:COK Tryz.prog (130,c130):=ctr_ok fun a h=>f130_ok a.1 a.2 h
theorem f114_ok (s:Scp) (n:ByteArray) (hl:s.objects.length≤lim):FunOK Tryz.prog 114 [s.v,.str n] false (.int .i64 (fstI (fun o=>decide (o.name=n)) s.objects)):=by
  refine fun_ok (mkE_ok zmix (cl:=[]) (gl:=[]) [] trivial trivial) Tryz.func114 (by kernel_rfl) ?_
  refine FunW_run _ _ rfl rfl ?_
  simp only [lim] at hl
  simp
  refine lp_list s.objects (fun i t=>t.e 1=.str n∧t.e 8=.lst (s.objects.map Obj.v)∧t.e 9=.int .i64 s.objects.length∧t.e 10=.int .i64 i∧anyI (fun o=>decide (o.name=n)) s.objects i=false) ?_ ?_ ?_
  · simp
  · rintro c' L hL i t x hx hi ih ⟨h1,h7,h8,h9,hall⟩
    have hw:=wrI (i:=i) (by omega)
    simp [-getElem?_pos,List.getElem?_cons_zero,h1,h7,h8,h9,hL,hi,hx]
    split
    · rename_i hc
      exact (fst_yes hx (by simp [hc]) hall).symm
    · rename_i hc
      refine ih _ ?_
      simp [h1,h7,h8,h9,hw,anyI_succ hx,hall,hc]
  · rintro c' t ⟨h1,h7,h8,h9,hall⟩
    simp [h1,h7,h8,h9,fst_no hall]
theorem inj114 {β:Type} (out:Scp × ByteArray→β):∀ a b:Scp × ByteArray,[a.1.v,.str a.2]=[b.1.v,.str b.2]→out a=out b:=by
  rintro ⟨a,c⟩ ⟨b,d⟩ h
  simp only [List.cons.injEq,and_true,V.str.injEq] at h
  rw [Scp.v_inj h.1,h.2]
noncomputable def c114:=ctr (fun a:Scp × ByteArray=>a.1.objects.length≤lim) (fun a=>[a.1.v,.str a.2]) (fun a=>(false,.int .i64 (fstI (fun o=>decide (o.name=a.2)) a.1.objects)))
theorem c114_eq (s:Scp) (n:ByteArray) (h:s.objects.length≤lim):c114 [s.v,.str n]=some (false,.int .i64 (fstI (fun o=>decide (o.name=n)) s.objects)):=ctr_eq (inj114 _) (s,n) h rfl
theorem c114_ok:COK Tryz.prog (114,c114):=ctr_ok fun a h=>f114_ok a.1 a.2 h
def parAt (n:Int) (l:List Par) (i:Nat) (p:Par):Bool:=nameB p.name && inB p.type 0 (n - 1) && !(l.take i).any (sameParB p)
def parsB (n:Int) (l:List Par):Bool:=allI (parAt n l) l l.length && decide (l.length≤4)
theorem f168_ok (ts:List Ty) (l:List Par) (ht:ts.length≤lim) (hl:limL Par.lim l):FunOK Tryz.prog 168 [.lst (ts.map Ty.v),.lst (l.map Par.v)] false (.bool (parsB ts.length l)):=by
  refine fun_ok (mkE_ok zmix (cl:=[(111,c111),(167,c167)]) (gl:=[]) [] ⟨c111_ok,c167_ok⟩ trivial) Tryz.func168 (by kernel_rfl) ?_
  refine FunW_run _ _ rfl rfl ?_
  have hlen:=hl.1
  simp only [lim] at ht hlen
  have hwt:IntKind.i64.wrap ((ts.length:Int) - 1)=ts.length - 1:=wrap64 (by omega) (by omega)
  simp
  refine lp_list l (fun i t=>t.e 0=.lst (ts.map Ty.v)∧t.e 1=.lst (l.map Par.v)∧t.e 9=.lst (l.map Par.v)∧t.e 10=.int .i64 l.length∧t.e 11=.int .i64 i∧allI (parAt ts.length l) l i=true) ?_ ?_ ?_
  · simp
  · rintro c' L hL i t x hx hi ih ⟨h0,h1,h9,h10,h11,hall⟩
    have hw:=wrI (i:=i) (by omega)
    have e1:=c111_eq x.name (hl.2 x (List.mem_of_getElem? hx))
    by_cases hc:nameB x.name=true∧inB x.type 0 (ts.length - 1)=true
    · have hle:i≤l.length:=Nat.le_of_lt hi
      have hmin:min i l.length=i:=Nat.min_eq_left hle
      simp [-getElem?_pos,List.getElem?_cons_zero,h0,h1,h9,h10,h11,hi,hx,e1,hwt,c167_eq,hc.1,hc.2,hle,hmin]
      refine lp_list (l.take i) (fun j t'=>t'.e 0=.lst (ts.map Ty.v)∧t'.e 1=.lst (l.map Par.v)∧t'.e 9=.lst (l.map Par.v)∧t'.e 10=.int .i64 l.length∧t'.e 11=.int .i64 i∧t'.e 6=.ptr t.nb 0∧t'.B t.nb=some x.v∧t.nb < t'.nb ∧
        t'.e 31=.lst ((l.take i).map Par.v)∧t'.e 32=.int .i64 i∧t'.e 33=.int .i64 j∧anyI (sameParB x) (l.take i) j=false) ?_ ?_ ?_
      · simp [h0,h1,h9,h10,h11]
      · rintro d' L' hL' j t' q hq hj ih' ⟨g0,g1,g9,g10,g11,g6,gB,gnb,g31,g32,g33,gall⟩
        have hji:j < i:=by rw [List.length_take] at hj;omega
        have hq':l[j]?=some q:=by rw [List.getElem?_take,if_pos hji] at hq;exact hq
        have hw':IntKind.i64.wrap ((j:Int) + 1)=((j + 1:Nat):Int):=wrap64 (by omega) (by omega)
        have hnb:¬ t.nb=t'.nb:=by omega
        have hjl:j < l.length:=by omega
        simp only [Par.v] at gB
        simp [-getElem?_pos,List.getElem?_cons_zero,List.getElem?_take,g0,g1,g9,g10,g11,g6,gB,g31,g32,g33,hji,hmin,hq',hL',hnb]
        split
        · rename_i hn
          have:(l.take i).any (sameParB x)=true:=any_yes hq (by simp [sameParB,hn])
          have hno:=allI_no (p:=parAt ts.length l) hx (by simp [parAt,this])
          simp [parsB,hno]
        · rename_i hn
          refine ih' _ ?_
          simp [g0,g1,g9,g10,g11,g6,gB,g31,g32,g33,hnb,hw',anyI_succ hq,gall,sameParB]
          exact ⟨by omega,fun h=>hn h.symm⟩
      · rintro d' t' ⟨g0,g1,g9,g10,g11,g6,gB,gnb,g31,g32,g33,gall⟩
        rw [List.length_take,hmin] at g33
        rw [anyI_all] at gall
        simp [g0,g1,g9,g10,g11,g6,gB,g31,g32,g33,hL]
        refine ih _ ?_
        simp [g0,g1,g9,g10,g11,hw,allI_succ hx,hall,parAt,hc.1,hc.2]
        simpa using gall
    · have hno:=allI_no (p:=parAt ts.length l) hx (by
        unfold parAt
        simp only [not_and,Bool.not_eq_true] at hc
        cases h:nameB x.name with
        | true=>simp [hc h]
        | false=>simp)
      simp only [not_and,Bool.not_eq_true] at hc
      cases h:nameB x.name with
      | true =>
        rw [h] at e1
        simp [-getElem?_pos,List.getElem?_cons_zero,h0,h1,h9,h10,h11,hi,hx,e1,hwt,c167_eq,hc h,parsB,hno]
      | false =>
        rw [h] at e1
        simp [-getElem?_pos,List.getElem?_cons_zero,h0,h1,h9,h10,h11,hi,hx,e1,hwt,c167_eq,parsB,hno]
  · rintro c' t ⟨h0,h1,h9,h10,h11,hall⟩
    simp [h0,h1,h9,h10,h11,parsB,hall]
    omega
end Go.TM.Tryz
end
section
set_option maxHeartbeats 2000000
namespace Go.TM.Tryz
open Go Go.TM Go.Proofs
theorem inj168 {β:Type} (out:List Ty × List Par→β):∀ a b:List Ty × List Par,[V.lst (a.1.map Ty.v),.lst (a.2.map Par.v)]=[V.lst (b.1.map Ty.v),.lst (b.2.map Par.v)]→out a=out b:=by
  rintro ⟨a,c⟩ ⟨b,d⟩ h
  simp only [List.cons.injEq,and_true,V.lst.injEq] at h
  rw [map_inj Ty.v_inj h.1,map_inj Par.v_inj h.2]
noncomputable def c168:=ctr (fun a:List Ty × List Par=>a.1.length≤lim∧limL Par.lim a.2) (fun a=>[.lst (a.1.map Ty.v),.lst (a.2.map Par.v)]) (fun a=>(false,.bool (parsB a.1.length a.2)))
theorem c168_eq (ts:List Ty) (l:List Par) (h:ts.length≤lim) (h2:limL Par.lim l):c168 [.lst (ts.map Ty.v),.lst (l.map Par.v)]=some (false,.bool (parsB ts.length l)):=ctr_eq (inj168 _) (ts,l) ⟨h,h2⟩ rfl
theorem c168_ok:COK Tryz.prog (168,c168):=ctr_ok fun a h=>f168_ok a.1 a.2 h.1 h.2
def objKind (n:Int) (o:Obj):Bool :=
  if o.kind=1 then decide (o.type=0) && inB o.value (-1000000000) 1000000000
  else if o.kind=2 ∨ o.kind=3 then inB o.type 0 (n - 1)
  else decide (o.kind=4) && inB o.type (-1) (n - 1) && parsB n o.params
def objB (n:Int) (o:Obj):Bool :=
  nameB o.name && inB o.mark 0 2 && !(decide (o.mark=2) && !decide (o.kind=3)) && !(!decide (o.kind=1) && !decide (o.value=0)) && !(!decide (o.kind=4) && decide (0 < o.params.length)) && objKind n o
theorem f113_ok (ts:List Ty) (o:Obj) (ht:ts.length≤lim) (hl:o.lim):FunOK Tryz.prog 113 [.lst (ts.map Ty.v),o.v] false (.bool (objB ts.length o)):=by
  refine fun_ok (mkE_ok zmix (cl:=[(111,c111),(167,c167),(168,c168)]) (gl:=[]) [] ⟨c111_ok,c167_ok,c168_ok⟩ trivial) Tryz.func113 (by kernel_rfl) ?_
  refine FunW_run _ _ rfl rfl ?_
  have e2:=c168_eq ts o.params ht hl.2
  have e1:=c111_eq o.name hl.1
  simp only [lim] at ht
  have hwt:IntKind.i64.wrap ((ts.length:Int) - 1)=ts.length - 1:=wrap64 (by omega) (by omega)
  have hlen:(0 < o.params.length)=¬ (o.params=[]):=by cases o.params <;> simp
  by_cases k1:o.kind=1
  · simp [e1,e2,c167_eq,hwt,k1,objB,objKind,hlen]
    clear e1 e2 hl
    cases nameB o.name <;> cases inB o.mark 0 2 <;> cases inB o.value (-1000000000) 1000000000 <;> by_cases m:o.mark=2 <;> by_cases p:o.params=[] <;> by_cases q:o.type=0 <;> simp [m,p,q]
  · by_cases k2:o.kind=2
    · simp [e1,e2,c167_eq,hwt,k2,objB,objKind,hlen]
      clear e1 e2 hl
      cases nameB o.name <;> cases inB o.mark 0 2 <;> cases inB o.type 0 (ts.length - 1) <;> by_cases m:o.mark=2 <;> by_cases p:o.params=[] <;> by_cases q:o.value=0 <;> simp [m,p,q]
    · by_cases k3:o.kind=3
      · simp [e1,e2,c167_eq,hwt,k3,objB,objKind,hlen]
        clear e1 e2 hl
        cases nameB o.name <;> cases inB o.mark 0 2 <;> cases inB o.type 0 (ts.length - 1) <;> by_cases m:o.mark=2 <;> by_cases p:o.params=[] <;> by_cases q:o.value=0 <;> simp [m,p,q]
      · by_cases k4:o.kind=4
        · simp [e1,e2,c167_eq,hwt,k4,objB,objKind,hlen]
          clear e1 e2 hl
          cases nameB o.name <;> cases inB o.mark 0 2 <;> cases inB o.type (-1) (ts.length - 1) <;> cases parsB ts.length o.params <;> by_cases m:o.mark=2 <;> by_cases q:o.value=0 <;> simp [m,q]
        · simp [e1,e2,c167_eq,hwt,k1,k2,k3,k4,objB,objKind,hlen]
noncomputable def c113:=ctr (fun a:List Ty × Obj=>a.1.length≤lim∧a.2.lim) (fun a=>[.lst (a.1.map Ty.v),a.2.v]) (fun a=>(false,.bool (objB a.1.length a.2)))
theorem inj113 {β:Type} (out:List Ty × Obj→β):∀ a b:List Ty × Obj,[V.lst (a.1.map Ty.v),a.2.v]=[V.lst (b.1.map Ty.v),b.2.v]→out a=out b:=by
  rintro ⟨a,c⟩ ⟨b,d⟩ h
  simp only [List.cons.injEq,and_true,V.lst.injEq] at h
  rw [map_inj Ty.v_inj h.1,Obj.v_inj h.2]
theorem c113_eq (ts:List Ty) (o:Obj) (h:ts.length≤lim) (h2:o.lim):c113 [.lst (ts.map Ty.v),o.v]=some (false,.bool (objB ts.length o)):=ctr_eq (inj113 _) (ts,o) ⟨h,h2⟩ rfl
theorem c113_ok:COK Tryz.prog (113,c113):=ctr_ok fun a h=>f113_ok a.1 a.2 h.1 h.2
def objIKind (n:Int) (o:Obj):Bool :=
  if o.kind=1 then decide (o.type=0) && inB o.value (-1000000000) 1000000000
  else if o.kind=2 ∨ o.kind=3 then inB o.type 0 (n - 1) && decide (o.value=0)
  else decide (o.kind=4) && (decide (o.type=-1) || inB o.type 0 (n - 1)) && decide (o.value=0)
def parIAt (n:Int) (l:List Par) (i:Nat) (p:Par):Bool:=nameB p.name && inB p.type 0 (n - 1) && !(l.take i).any (sameParB p)
def objIHead (o:Obj):Bool:=inB o.mark 0 2 && !(decide (o.mark=2) && !decide (o.kind=3)) && decide (o.params.length≤4) && !(!decide (o.kind=4) && decide (0 < o.params.length))
theorem objIHead_no (o:Obj):objIHead o=false ↔ (((inB o.mark 0 2=false ∨ o.mark=2∧¬o.kind=3) ∨ 4 < (o.params.length:Int)) ∨ ¬o.kind=4∧0 < o.params.length):=by
  unfold objIHead
  grind
theorem parIAt_no (n:Int) (l:List Par) (i:Nat) (x:Par):parIAt n l i x=false ↔ ((nameB x.name=false ∨ inB x.type 0 (n - 1)=false) ∨ ∃ y,y ∈ List.take i l∧sameParB x y=true):=by
  unfold parIAt
  simp only [Bool.and_eq_false_iff,Bool.not_eq_false',List.any_eq_true]
def objIB (n:Int) (o:Obj):Bool :=
  objIHead o && allI (parIAt n o.params) o.params o.params.length && objIKind n o
theorem f128_ok (s:Scp) (o:Obj) (ht:s.types.length≤lim) (hl:o.lim):FunOK Tryz.prog 128 [.ladr [s.v] 0 0,o.v] false (.bool (objIB s.types.length o)):=by
  refine fun_ok (mkE_ok zmix (cl:=[(124,c124),(175,c175),(178,c178),(179,c179),(181,c181)]) (gl:=[]) [] ⟨c124_ok,c175_ok,c178_ok,c179_ok,c181_ok⟩ trivial) Tryz.func128 (by kernel_rfl) ?_
  refine FunW_run _ _ rfl rfl ?_
  have hlen:=hl.2.1
  have e77:=fun n=>c178_eq s.types n ht
  simp only [lim] at hlen
  simp [c175_eq]
  split
  · rename_i hc
    simp [objIB,(objIHead_no o).2 hc]
  · rename_i hc
    refine lp_list o.params (fun i t=>t.e 0=.ladr [s.v] 0 0∧t.e 3=.ptr 0 0∧t.B 0=some o.v∧1≤t.nb∧t.e 39=.lst (o.params.map Par.v)∧t.e 40=.int .i64 o.params.length∧t.e 41=.int .i64 i∧allI (parIAt s.types.length o.params) o.params i=true) ?_ ?_ ?_
    · simp
    · rintro c' L hL i t x hx hi ih ⟨h0,h3,hB,hnb,h39,h40,h41,hall⟩
      have hw:=wrI (i:=i) (by omega)
      have e1:=c124_eq x.name (hl.2.2 x (List.mem_of_getElem? hx))
      have e2:=c179_eq (o.params.take i) x (by simp only [List.length_take,lim];omega)
      rw [List.map_take] at e2
      simp only [Par.v] at e2
      have hle:i≤o.params.length:=Nat.le_of_lt hi
      have hn0:¬ 0=t.nb:=by omega
      have e7:=e77 x.type
      simp only [Obj.v] at hB
      simp [-getElem?_pos,List.getElem?_cons_zero,h0,h3,hB,h39,h40,h41,hL,hi,hx,e1,e2,e7,hle,hn0]
      split
      · rename_i hn
        have:=allI_no hx ((parIAt_no s.types.length o.params i x).2 hn)
        simp [objIB,this]
      · rename_i hn
        have hy:parIAt s.types.length o.params i x=true:=by rw [← Bool.not_eq_false,parIAt_no];exact hn
        refine ih _ ?_
        simp [h0,h3,hB,h39,h40,h41,hn0,hw,allI_succ hx,hall,hy]
    · rintro c' t ⟨h0,h3,hB,hnb,h39,h40,h41,hall⟩
      simp only [Obj.v] at hB
      have hh:objIHead o=true:=by rw [← Bool.not_eq_false,objIHead_no];exact hc
      simp [h0,h3,hB,h39,h40,h41,e77,c181_eq,objIB,hall,hh]
      unfold objIKind
      grind
end Go.TM.Tryz
end
section
set_option maxHeartbeats 2000000
namespace Go.TM.Tryz
open Go Go.TM Go.Proofs
noncomputable def c128:=ctr (fun a:Scp × Obj=>a.1.types.length≤lim∧a.2.lim) (fun a=>[.ladr [a.1.v] 0 0,a.2.v]) (fun a=>(false,.bool (objIB a.1.types.length a.2)))
theorem inj128 {β:Type} (out:Scp × Obj→β):∀ a b:Scp × Obj,[V.ladr [a.1.v] 0 0,a.2.v]=[V.ladr [b.1.v] 0 0,b.2.v]→out a=out b:=by
  rintro ⟨a,c⟩ ⟨b,d⟩ h
  simp only [List.cons.injEq,and_true,V.ladr.injEq] at h
  rw [Scp.v_inj h.1,Obj.v_inj h.2]
theorem c128_eq (s:Scp) (o:Obj) (h:s.types.length≤lim) (h2:o.lim):c128 [.ladr [s.v] 0 0,o.v]=some (false,.bool (objIB s.types.length o)):=ctr_eq (inj128 _) (s,o) ⟨h,h2⟩ rfl
theorem c128_ok:COK Tryz.prog (128,c128):=ctr_ok fun a h=>f128_ok a.1 a.2 h.1 h.2
def sameFldB (p q:Fld):Bool:=decide (q.name=p.name)
theorem f263_ok (q:Fld) (p:Fld):FunOK Tryz.prog 263 [q.v,.ladr [p.v] 0 0] false (.bool (sameFldB p q)):=by
  refine fun_ok (mkE_ok zmix (cl:=[]) (gl:=[]) [] trivial trivial) Tryz.func263 (by kernel_rfl) ?_
  refine FunW_run _ _ rfl rfl ?_
  simp [sameFldB]
theorem inj263 {β:Type} (out:Fld × Fld→β):∀ a b:Fld × Fld,[a.1.v,.ladr [a.2.v] 0 0]=[b.1.v,.ladr [b.2.v] 0 0]→out a=out b:=by
  rintro ⟨a,c⟩ ⟨b,d⟩ h
  simp only [List.cons.injEq,and_true,V.ladr.injEq] at h
  rw [Fld.v_inj h.1,Fld.v_inj h.2]
noncomputable def c263:=ctr (fun _:Fld × Fld=>True) (fun a=>[a.1.v,.ladr [a.2.v] 0 0]) (fun a=>(false,.bool (sameFldB a.2 a.1)))
theorem c263_eq (q:Fld) (p:Fld):c263 [q.v,.ladr [p.v] 0 0]=some (false,.bool (sameFldB p q)):=ctr_eq (inj263 _) (q,p) trivial rfl
theorem c263_ok:COK Tryz.prog (263,c263):=ctr_ok fun a h=>f263_ok a.1 a.2
theorem f280_ok (l:List Fld) (p:Fld) (hl:l.length≤lim):FunOK Tryz.prog 280 [.lst (l.map Fld.v),.fn 263 [.ladr [p.v] 0 0]] false (.int .i64 (fstI (sameFldB p) l)):=by
  refine fun_ok (mkE_ok zmix (cl:=[(263,c263)]) (gl:=[]) [] c263_ok trivial) Tryz.func280 (by kernel_rfl) ?_
  refine FunW_run _ _ rfl rfl ?_
  simp only [lim] at hl
  simp
  refine lp_list l (fun i t=>t.e 1=.fn 263 [.ladr [p.v] 0 0]∧t.e 0=.lst (l.map Fld.v)∧t.e 7=.int .i64 l.length∧t.e 8=.int .i64 i∧anyI (sameFldB p) l i=false) ?_ ?_ ?_
  · simp
  · rintro c' L hL i t x hx hi ih ⟨h1,h7,h8,h9,hall⟩
    have hw:=wrI (i:=i) (by omega)
    have e:=c263_eq x p
    simp only [Fld.v,Fld.v] at e h1
    simp [-getElem?_pos,List.getElem?_cons_zero,h1,h7,h8,h9,hL,hi,hx,e]
    split
    · rename_i hc
      exact (fst_yes hx hc hall).symm
    · rename_i hc
      refine ih _ ?_
      simp [h1,h7,h8,h9,hw,anyI_succ hx,hall,hc]
  · rintro c' t ⟨h1,h7,h8,h9,hall⟩
    simp [h1,h7,h8,h9,fst_no hall]
theorem inj280 {β:Type} (out:List Fld × Fld→β):∀ a b:List Fld × Fld,[V.lst (a.1.map Fld.v),.fn 263 [.ladr [a.2.v] 0 0]]=[V.lst (b.1.map Fld.v),.fn 263 [.ladr [b.2.v] 0 0]]→out a=out b:=by
  rintro ⟨a,c⟩ ⟨b,d⟩ h
  simp only [List.cons.injEq,and_true,V.ladr.injEq,V.fn.injEq,true_and,V.lst.injEq] at h
  rw [map_inj Fld.v_inj h.1,Fld.v_inj h.2]
noncomputable def c280:=ctr (fun a:List Fld × Fld=>a.1.length≤lim) (fun a=>[.lst (a.1.map Fld.v),.fn 263 [.ladr [a.2.v] 0 0]]) (fun a=>(false,.int .i64 (fstI (sameFldB a.2) a.1)))
theorem c280_eq (l:List Fld) (p:Fld) (h:l.length≤lim):c280 [.lst (l.map Fld.v),.fn 263 [.ladr [p.v] 0 0]]=some (false,.int .i64 (fstI (sameFldB p) l)):=ctr_eq (inj280 _) (l,p) h rfl
theorem c280_ok:COK Tryz.prog (280,c280):=ctr_ok fun a h=>f280_ok a.1 a.2 h
theorem f262_ok (l:List Fld) (p:Fld) (hl:l.length≤lim):FunOK Tryz.prog 262 [.lst (l.map Fld.v),.fn 263 [.ladr [p.v] 0 0]] false (.bool (l.any (sameFldB p))):=by
  refine fun_ok (mkE_ok zmix (cl:=[(280,c280)]) (gl:=[]) [] c280_ok trivial) Tryz.func262 (by kernel_rfl) ?_
  refine FunW_run _ _ rfl rfl ?_
  have e:=c280_eq l p hl
  simp only [Fld.v] at e
  simp [e,fst_ge]
noncomputable def c262:=ctr (fun a:List Fld × Fld=>a.1.length≤lim) (fun a=>[.lst (a.1.map Fld.v),.fn 263 [.ladr [a.2.v] 0 0]]) (fun a=>(false,.bool (a.1.any (sameFldB a.2))))
theorem c262_eq (l:List Fld) (p:Fld) (h:l.length≤lim):c262 [.lst (l.map Fld.v),.fn 263 [.ladr [p.v] 0 0]]=some (false,.bool (l.any (sameFldB p))):=ctr_eq (inj280 _) (l,p) h rfl
theorem c262_ok:COK Tryz.prog (262,c262):=ctr_ok fun a h=>f262_ok a.1 a.2 h
def fldAt (n:Int) (l:List Fld) (i:Nat) (x:Fld):Bool :=
  inB x.mark 0 2 && inB x.type 0 (n - 1) && (if x.name=⟨#[]⟩ then decide (x.mark=0) else nameB x.name && !(l.take i).any (sameFldB x))
def fldsB (n:Int) (l:List Fld):Bool:=allI (fldAt n l) l l.length && decide (l.length≤6)
theorem f246_ok (x:Ty) (h:x.lim):FunOK Tryz.prog 246 [x.v] false (.bool ((nameB x.name && nameB x.owner) || (decide (x.name=⟨#[]⟩) && decide (x.owner=⟨#[]⟩)))):=by
  refine fun_ok (mkE_ok zmix (cl:=[(124,c124)]) (gl:=[]) [] c124_ok trivial) Tryz.func246 (by kernel_rfl) ?_
  refine FunW_run _ _ rfl rfl ?_
  simp [c124_eq _ h.2.1,c124_eq _ h.2.2]
noncomputable def c246:=ctr (fun x:Ty=>x.lim) (fun x=>[x.v]) (fun x=>(false,.bool ((nameB x.name && nameB x.owner) || (decide (x.name=⟨#[]⟩) && decide (x.owner=⟨#[]⟩)))))
theorem c246_eq (x:Ty) (h:x.lim):c246 [x.v]=some (false,.bool ((nameB x.name && nameB x.owner) || (decide (x.name=⟨#[]⟩) && decide (x.owner=⟨#[]⟩)))):=ctr_eq (inj0 Ty.v_inj _) x h rfl
theorem c246_ok:COK Tryz.prog (246,c246):=ctr_ok fun x h=>f246_ok x h
def kindAt (l:List Ty) (n k:Int):Bool:=inB n 0 (l.length - 1) && (l[n.toNat]?).any fun x=>decide (x.kind=k)
theorem inB_nat {n:Int} {m:Nat} (h:inB n 0 ((m:Int) - 1)=true):0≤n∧n < m∧n.toNat < m∧(n.toNat:Int)=n:=by
  simp only [inB,Bool.and_eq_true,decide_eq_true_eq] at h
  omega
theorem f247_ok (l:List Ty) (n:Int) (hl:l.length≤lim):FunOK Tryz.prog 247 [.lst (l.map Ty.v),.int .i64 n] false (.bool (kindAt l n 5)):=by
  refine fun_ok (mkE_ok zmix (cl:=[(178,c178)]) (gl:=[]) [] c178_ok trivial) Tryz.func247 (by kernel_rfl) ?_
  refine FunW_run _ _ rfl rfl ?_
  have e:=c178_eq l n hl
  cases hb:inB n 0 (l.length - 1) with
  | true =>
    rw [hb] at e
    obtain ⟨h1,h2,h3,h4⟩:=inB_nat hb
    have hx:=List.getElem?_eq_getElem h3
    simp [-getElem?_pos,gcz,gcs,e,hx,h1,h2,kindAt,hb]
    rfl
  | false =>
    rw [hb] at e
    cases hx:l[n.toNat]? <;> simp [-getElem?_pos,gcz,gcs,e,hx,kindAt,hb]
noncomputable def c247:=ctr (fun a:List Ty × Int=>a.1.length≤lim) (fun a=>[.lst (a.1.map Ty.v),.int .i64 a.2]) (fun a=>(false,.bool (kindAt a.1 a.2 5)))
theorem c247_eq (l:List Ty) (n:Int) (h:l.length≤lim):c247 [.lst (l.map Ty.v),.int .i64 n]=some (false,.bool (kindAt l n 5)):=ctr_eq (injl1 Ty.v_inj _) (l,n) h rfl
theorem c247_ok:COK Tryz.prog (247,c247):=ctr_ok fun a h=>f247_ok a.1 a.2 h
end Go.TM.Tryz
end
section
set_option maxHeartbeats 2000000
namespace Go.TM.Tryz
open Go Go.TM Go.Proofs
theorem f248_ok (ts:List Ty) (l:List Fld) (ht:ts.length≤lim) (hl:limL Fld.lim l):FunOK Tryz.prog 248 [.lst (ts.map Ty.v),.lst (l.map Fld.v)] false (.bool (fldsB ts.length l)):=by
  refine fun_ok (mkE_ok zmix (cl:=[(124,c124),(175,c175),(178,c178),(262,c262)]) (gl:=[]) [] ⟨c124_ok,c175_ok,c178_ok,c262_ok⟩ trivial) Tryz.func248 (by kernel_rfl) ?_
  refine FunW_run _ _ rfl rfl ?_
  have hlen:=hl.1
  simp only [lim] at hlen
  simp
  refine lp_list l (fun i t=>t.e 0=.lst (ts.map Ty.v)∧t.e 1=.lst (l.map Fld.v)∧t.e 7=.lst (l.map Fld.v)∧t.e 8=.int .i64 l.length∧t.e 9=.int .i64 i∧allI (fldAt ts.length l) l i=true) ?_ ?_ ?_
  · simp
  · rintro c' L hL i t x hx hi ih ⟨h0,h1,h7,h8,h9,hall⟩
    have hw:=wrI (i:=i) (by omega)
    have e1:=c124_eq x.name (hl.2 x (List.mem_of_getElem? hx))
    have e2:=c262_eq (l.take i) x (by simp only [List.length_take,lim];omega)
    rw [List.map_take] at e2
    simp only [Fld.v] at e2
    have e7:=c178_eq ts x.type ht
    have hle:i≤l.length:=Nat.le_of_lt hi
    have fin:∀ s',fldAt ts.length l i x=true→s'.e 0=.lst (ts.map Ty.v)→s'.e 1=.lst (l.map Fld.v)→s'.e 7=.lst (l.map Fld.v)→s'.e 8=.int .i64 l.length→s'.e 9=.int .i64 ((i + 1:Nat):Int)→L s':=fun s' hy g0 g1 g7 g8 g9 =>
      ih s' ⟨g0,g1,g7,g8,g9,by rw [allI_succ hx,hall,hy];rfl⟩
    have bad:fldAt ts.length l i x=false→fldsB ts.length l=false:=fun hn=>by
      have:=allI_no hx hn
      simp [fldsB,this]
    simp [-getElem?_pos,List.getElem?_cons_zero,h0,h1,h7,h8,h9,hL,hi,hx,e1,e2,e7,c175_eq,hle]
    split
    · rename_i hc
      apply bad
      unfold fldAt
      rcases hc with hc | hc <;> simp [hc]
    · rename_i hc
      simp only [not_or,Bool.not_eq_false] at hc
      split
      · rename_i hn
        split
        · rename_i hm
          refine fin _ ?_ ?_ ?_ ?_ ?_ ?_ <;> simp [h0,h1,h7,h8,hw,fldAt,hc.1,hc.2,hn,hm]
          rfl
        · rename_i hm
          apply bad
          unfold fldAt
          simp [hc.1,hc.2,hn,hm]
      · rename_i hn
        split
        · rename_i hm
          apply bad
          unfold fldAt
          simp [hc.1,hc.2,hn]
          grind
        · rename_i hm
          refine fin _ ?_ ?_ ?_ ?_ ?_ ?_ <;> simp [h0,h1,h7,h8,hw,fldAt,hc.1,hc.2,hn]
          grind
  · rintro c' t ⟨h0,h1,h7,h8,h9,hall⟩
    simp [h0,h1,h7,h8,h9,fldsB,hall]
    omega
noncomputable def c248:=ctr (fun a:List Ty × List Fld=>a.1.length≤lim∧limL Fld.lim a.2) (fun a=>[.lst (a.1.map Ty.v),.lst (a.2.map Fld.v)]) (fun a=>(false,.bool (fldsB a.1.length a.2)))
theorem inj248 {β:Type} (out:List Ty × List Fld→β):∀ a b:List Ty × List Fld,[V.lst (a.1.map Ty.v),.lst (a.2.map Fld.v)]=[V.lst (b.1.map Ty.v),.lst (b.2.map Fld.v)]→out a=out b:=by
  rintro ⟨a,c⟩ ⟨b,d⟩ h
  simp only [List.cons.injEq,and_true,V.lst.injEq] at h
  rw [map_inj Ty.v_inj h.1,map_inj Fld.v_inj h.2]
theorem c248_eq (ts:List Ty) (l:List Fld) (h:ts.length≤lim) (h2:limL Fld.lim l):c248 [.lst (ts.map Ty.v),.lst (l.map Fld.v)]=some (false,.bool (fldsB ts.length l)):=ctr_eq (inj248 _) (ts,l) ⟨h,h2⟩ rfl
theorem c248_ok:COK Tryz.prog (248,c248):=ctr_ok fun a h=>f248_ok a.1 a.2 h.1 h.2
end Go.TM.Tryz
end
section
set_option maxHeartbeats 2000000
namespace Go.TM.Tryz
open Go Go.TM Go.Proofs
theorem aftQ_F3 {E:Env} (dr:Bool) (c a:V) (xc xa xb:Operand) (d:Option Tmp) (all:Array Oper) (os:List Oper) (k:List Fr) (Q:X→S→Prop) (s:S) :
    aftQ dr (some false) c a .bad xc xa xb d all os k E Q s=kont E (.ops dr all os :: k) Q .normal (s.put d (.cnd false .bad)):=by
  cases c <;> cases a <;> simp [aftQ]
def namedB (x:Ty):Bool:=(nameB x.name && nameB x.owner) || (decide (x.name=⟨#[]⟩) && decide (x.owner=⟨#[]⟩))
def typeKB (ts:List Ty) (x:Ty):Bool :=
  if x.kind=4 then inB x.long 1 1000 && inB x.base 0 (ts.length - 1)
  else if x.kind=5 then decide (x.long=0) && (decide (x.base=-1) || kindAt ts x.base 5) && fldsB ts.length x.fields
  else decide (x.kind=6) && decide (x.long=0) && (kindAt ts x.base 5 || kindAt ts x.base 4)
def typeB (ts:List Ty) (x:Ty):Bool:=namedB x && !(!decide (x.kind=5) && decide (0 < x.fields.length)) && typeKB ts x
theorem f221_ok (ts:List Ty) (x:Ty) (ht:ts.length≤lim) (hl:x.lim):FunOK Tryz.prog 221 [.lst (ts.map Ty.v),x.v] false (.bool (typeB ts x)):=by
  refine fun_ok (mkE_ok zmix (cl:=[(175,c175),(178,c178),(246,c246),(247,c247),(248,c248)]) (gl:=[]) [] ⟨c175_ok,c178_ok,c246_ok,c247_ok,c248_ok⟩ trivial) Tryz.func221 (by kernel_rfl) ?_
  refine FunW_run _ _ rfl rfl ?_
  have e1:=c246_eq x hl
  have e2:=c248_eq ts x.fields ht hl.1
  have e3:=c247_eq ts x.base ht
  have e4:=c178_eq ts x.base ht
  rw [show ((nameB x.name && nameB x.owner) || (decide (x.name=⟨#[]⟩) && decide (x.owner=⟨#[]⟩)))=namedB x from rfl] at e1
  simp only [Ty.v] at e1
  have hk4:∀ y,ts[x.base.toNat]?=some y→kindAt ts x.base 4=(inB x.base 0 (ts.length - 1) && decide (y.kind=4)):=fun y hy=>by simp [kindAt,hy]
  by_cases k4:x.kind=4
  · rw [k4] at e1
    simp [e1,e2,e3,e4,c175_eq,k4,typeB,typeKB]
    clear e1 e2 e3 e4 hk4 hl
    cases namedB x <;> cases hf:x.fields <;> simp
  · by_cases k5:x.kind=5
    · rw [k5] at e1
      simp [e1,e2,e3,e4,c175_eq,k4,k5,typeB,typeKB]
      clear e1 e2 e3 e4 hk4 hl
      grind
    · by_cases k6:x.kind=6
      · rw [k6] at e1
        cases hb:inB x.base 0 (ts.length - 1) with
        | true =>
          obtain ⟨h1,h2,h3,h4⟩:=inB_nat hb
          have hx:=List.getElem?_eq_getElem h3
          have:=hk4 _ hx
          rw [hb] at e4 this
          simp [-getElem?_pos,gcz,gcs,e1,e2,e3,e4,c175_eq,k4,k5,k6,typeB,typeKB,hx,h1,h2,this]
          clear e1 e2 e3 e4 hk4 hl
          grind
        | false =>
          have h4:kindAt ts x.base 4=false:=by simp [kindAt,hb]
          have h5:kindAt ts x.base 5=false:=by simp [kindAt,hb]
          rw [hb] at e4
          rw [h5] at e3
          have hb0:x.long ≠ 0→(x.long == 0)=false:=fun h=>beq_eq_false_iff_ne.2 h
          cases hx:ts[x.base.toNat]? <;> by_cases hl0:x.long=0 <;>
          · first | rw [hl0] at e1 | skip
            simp [hl0,hb0,aftQ_F3,-getElem?_pos,gcz,gcs,e1,e2,e3,e4,c175_eq,k4,k5,k6,typeB,typeKB,hx,h4,h5]
      · simp [e1,e2,e3,e4,c175_eq,k4,k5,k6,typeB,typeKB]
noncomputable def c221:=ctr (fun a:List Ty × Ty=>a.1.length≤lim∧a.2.lim) (fun a=>[.lst (a.1.map Ty.v),a.2.v]) (fun a=>(false,.bool (typeB a.1 a.2)))
theorem inj221 {β:Type} (out:List Ty × Ty→β):∀ a b:List Ty × Ty,[V.lst (a.1.map Ty.v),a.2.v]=[V.lst (b.1.map Ty.v),b.2.v]→out a=out b:=by
  rintro ⟨a,c⟩ ⟨b,d⟩ h
  simp only [List.cons.injEq,and_true,V.lst.injEq] at h
  rw [map_inj Ty.v_inj h.1,Ty.v_inj h.2]
theorem c221_eq (ts:List Ty) (x:Ty) (h:ts.length≤lim) (h2:x.lim):c221 [.lst (ts.map Ty.v),x.v]=some (false,.bool (typeB ts x)):=ctr_eq (inj221 _) (ts,x) ⟨h,h2⟩ rfl
theorem c221_ok:COK Tryz.prog (221,c221):=ctr_ok fun a h=>f221_ok a.1 a.2 h.1 h.2
end Go.TM.Tryz
end
section
set_option maxHeartbeats 2000000
namespace Go.TM.Tryz
open Go Go.TM Go.Proofs
theorem f127_ok (l:List ByteArray) (hl:l.length≤1048576):FunOK Tryz.prog 127 [.lst (l.map .str)] false (.inl 1 (l.map .str)):=by
  refine fun_ok (mkE_ok zmix (cl:=[]) (gl:=[]) [] trivial trivial) Tryz.func127 (by kernel_rfl) ?_
  refine FunW_run _ _ rfl rfl ?_
  have h1:l.length * 16≤140737488355328:=by omega
  have h2:l.length≤4294967296:=by omega
  cases l with
  | nil=>simp [room]
  | cons x xs=>simp at h1 h2;simp [room,h1,h2]
noncomputable def c127:=ctr (fun l:List ByteArray=>l.length≤1048576) (fun l=>[.lst (l.map .str)]) (fun l=>(false,.inl 1 (l.map .str)))
theorem c127_eq (l:List ByteArray) (h:l.length≤1048576):c127 [.lst (l.map .str)]=some (false,.inl 1 (l.map .str)):=ctr_eq (injl str_inj _) l h rfl
theorem c127_ok:COK Tryz.prog (127,c127):=ctr_ok fun l h=>f127_ok l h
end Go.TM.Tryz
end
section
set_option maxHeartbeats 2000000
namespace Go.TM.Tryz
open Go Go.TM Go.Proofs
def fldEq (ys:List Fld) (i:Nat) (x:Fld):Bool:=(ys[i]?).any fun y=>decide (x.name=y.name) && (x.mark == y.mark) && (x.type == y.type)
def fldsEq (xs ys:List Fld):Bool:=decide (xs.length=ys.length) && allI (fldEq ys) xs xs.length
theorem f244_ok (xs ys:List Fld) (hx:xs.length≤lim) (hy:ys.length≤lim):FunOK Tryz.prog 244 [.lst (xs.map Fld.v),.lst (ys.map Fld.v)] false (.bool (fldsEq xs ys)):=by
  refine fun_ok (mkE_ok zmix (cl:=[]) (gl:=[]) [] trivial trivial) Tryz.func244 (by kernel_rfl) ?_
  refine FunW_run _ _ rfl rfl ?_
  simp only [lim] at hx hy
  by_cases hl:xs.length=ys.length
  · simp [hl]
    refine lp_list xs (fun i t=>t.e 0=.lst (xs.map Fld.v)∧t.e 1=.lst (ys.map Fld.v)∧t.e 12=.int .i64 xs.length∧t.e 13=.int .i64 i∧allI (fldEq ys) xs i=true) ?_ ?_ ?_
    · simp [hl]
    · rintro c' L hL i t x hx' hi ih ⟨h0,h1,h12,h13,hall⟩
      have hw:=wrI (i:=i) (by omega)
      have hiy:i < ys.length:=by omega
      have hy':=List.getElem?_eq_getElem hiy
      simp [-getElem?_pos,List.getElem?_cons_zero,h0,h1,h12,h13,hL,hi,hx',hy',hiy]
      split
      · rename_i hn
        have hno:fldEq ys i x=false:=by
          simp only [fldEq,hy',Option.any_some]
          grind
        have:=allI_no hx' hno
        simp [fldsEq,this]
      · rename_i hn
        have hyes:fldEq ys i x=true:=by
          simp only [fldEq,hy',Option.any_some]
          grind
        refine ih _ ?_
        simp [h0,h1,h12,h13,hw,allI_succ hx',hall,hyes]
    · rintro c' t ⟨h0,h1,h12,h13,hall⟩
      rw [hl] at hall
      simp [h0,h1,h12,h13,fldsEq,hl,hall]
  · have hl':¬ (xs.length:Int)=ys.length:=by omega
    simp [hl,hl',fldsEq]
noncomputable def c244:=ctr (fun a:List Fld × List Fld=>a.1.length≤lim∧a.2.length≤lim) (fun a=>[.lst (a.1.map Fld.v),.lst (a.2.map Fld.v)]) (fun a=>(false,.bool (fldsEq a.1 a.2)))
theorem inj244 {β:Type} (out:List Fld × List Fld→β):∀ a b:List Fld × List Fld,[V.lst (a.1.map Fld.v),.lst (a.2.map Fld.v)]=[V.lst (b.1.map Fld.v),.lst (b.2.map Fld.v)]→out a=out b:=by
  rintro ⟨a,c⟩ ⟨b,d⟩ h
  simp only [List.cons.injEq,and_true,V.lst.injEq] at h
  rw [map_inj Fld.v_inj h.1,map_inj Fld.v_inj h.2]
theorem c244_eq (xs ys:List Fld) (h:xs.length≤lim) (h2:ys.length≤lim):c244 [.lst (xs.map Fld.v),.lst (ys.map Fld.v)]=some (false,.bool (fldsEq xs ys)):=ctr_eq (inj244 _) (xs,ys) ⟨h,h2⟩ rfl
theorem c244_ok:COK Tryz.prog (244,c244):=ctr_ok fun a h=>f244_ok a.1 a.2 h.1 h.2
end Go.TM.Tryz
end
section
set_option maxHeartbeats 2000000
namespace Go.TM.Tryz
open Go Go.TM Go.Proofs
def tyEq (x y:Ty):Bool:=x.kind == y.kind && x.long == y.long && x.base == y.base && fldsEq x.fields y.fields && decide (x.owner=y.owner) && decide (x.name=y.name)
theorem f218_ok (x y:Ty) (hx:x.fields.length≤lim) (hy:y.fields.length≤lim):FunOK Tryz.prog 218 [x.v,y.v] false (.bool (tyEq x y)):=by
  refine fun_ok (mkE_ok zmix (cl:=[(244,c244)]) (gl:=[]) [] c244_ok trivial) Tryz.func218 (by kernel_rfl) ?_
  refine FunW_run _ _ rfl rfl ?_
  simp [c244_eq _ _ hx hy,tyEq]
def sameTyB (p q:Ty):Bool:=decide (q.name=p.name) && decide (q.owner=p.owner)
theorem f220_ok (q:Ty) (p:Ty):FunOK Tryz.prog 220 [q.v,.ladr [p.v] 0 0] false (.bool (sameTyB p q)):=by
  refine fun_ok (mkE_ok zmix (cl:=[]) (gl:=[]) [] trivial trivial) Tryz.func220 (by kernel_rfl) ?_
  refine FunW_run _ _ rfl rfl ?_
  simp [sameTyB]
theorem inj220 {β:Type} (out:Ty × Ty→β):∀ a b:Ty × Ty,[a.1.v,.ladr [a.2.v] 0 0]=[b.1.v,.ladr [b.2.v] 0 0]→out a=out b:=by
  rintro ⟨a,c⟩ ⟨b,d⟩ h
  simp only [List.cons.injEq,and_true,V.ladr.injEq] at h
  rw [Ty.v_inj h.1,Ty.v_inj h.2]
noncomputable def c220:=ctr (fun _:Ty × Ty=>True) (fun a=>[a.1.v,.ladr [a.2.v] 0 0]) (fun a=>(false,.bool (sameTyB a.2 a.1)))
theorem c220_eq (q:Ty) (p:Ty):c220 [q.v,.ladr [p.v] 0 0]=some (false,.bool (sameTyB p q)):=ctr_eq (inj220 _) (q,p) trivial rfl
theorem c220_ok:COK Tryz.prog (220,c220):=ctr_ok fun a h=>f220_ok a.1 a.2
theorem f245_ok (l:List Ty) (p:Ty) (hl:l.length≤lim):FunOK Tryz.prog 245 [.lst (l.map Ty.v),.fn 220 [.ladr [p.v] 0 0]] false (.int .i64 (fstI (sameTyB p) l)):=by
  refine fun_ok (mkE_ok zmix (cl:=[(220,c220)]) (gl:=[]) [] c220_ok trivial) Tryz.func245 (by kernel_rfl) ?_
  refine FunW_run _ _ rfl rfl ?_
  simp only [lim] at hl
  simp
  refine lp_list l (fun i t=>t.e 1=.fn 220 [.ladr [p.v] 0 0]∧t.e 0=.lst (l.map Ty.v)∧t.e 7=.int .i64 l.length∧t.e 8=.int .i64 i∧anyI (sameTyB p) l i=false) ?_ ?_ ?_
  · simp
  · rintro c' L hL i t x hx hi ih ⟨h1,h7,h8,h9,hall⟩
    have hw:=wrI (i:=i) (by omega)
    have e:=c220_eq x p
    simp only [Ty.v,Ty.v] at e h1
    simp [-getElem?_pos,List.getElem?_cons_zero,h1,h7,h8,h9,hL,hi,hx,e]
    split
    · rename_i hc
      exact (fst_yes hx hc hall).symm
    · rename_i hc
      refine ih _ ?_
      simp [h1,h7,h8,h9,hw,anyI_succ hx,hall,hc]
  · rintro c' t ⟨h1,h7,h8,h9,hall⟩
    simp [h1,h7,h8,h9,fst_no hall]
theorem inj245 {β:Type} (out:List Ty × Ty→β):∀ a b:List Ty × Ty,[V.lst (a.1.map Ty.v),.fn 220 [.ladr [a.2.v] 0 0]]=[V.lst (b.1.map Ty.v),.fn 220 [.ladr [b.2.v] 0 0]]→out a=out b:=by
  rintro ⟨a,c⟩ ⟨b,d⟩ h
  simp only [List.cons.injEq,and_true,V.ladr.injEq,V.fn.injEq,true_and,V.lst.injEq] at h
  rw [map_inj Ty.v_inj h.1,Ty.v_inj h.2]
noncomputable def c245:=ctr (fun a:List Ty × Ty=>a.1.length≤lim) (fun a=>[.lst (a.1.map Ty.v),.fn 220 [.ladr [a.2.v] 0 0]]) (fun a=>(false,.int .i64 (fstI (sameTyB a.2) a.1)))
theorem c245_eq (l:List Ty) (p:Ty) (h:l.length≤lim):c245 [.lst (l.map Ty.v),.fn 220 [.ladr [p.v] 0 0]]=some (false,.int .i64 (fstI (sameTyB p) l)):=ctr_eq (inj245 _) (l,p) h rfl
theorem c245_ok:COK Tryz.prog (245,c245):=ctr_ok fun a h=>f245_ok a.1 a.2 h
theorem f219_ok (l:List Ty) (p:Ty) (hl:l.length≤lim):FunOK Tryz.prog 219 [.lst (l.map Ty.v),.fn 220 [.ladr [p.v] 0 0]] false (.bool (l.any (sameTyB p))):=by
  refine fun_ok (mkE_ok zmix (cl:=[(245,c245)]) (gl:=[]) [] c245_ok trivial) Tryz.func219 (by kernel_rfl) ?_
  refine FunW_run _ _ rfl rfl ?_
  have e:=c245_eq l p hl
  simp only [Ty.v] at e
  simp [e,fst_ge]
noncomputable def c219:=ctr (fun a:List Ty × Ty=>a.1.length≤lim) (fun a=>[.lst (a.1.map Ty.v),.fn 220 [.ladr [a.2.v] 0 0]]) (fun a=>(false,.bool (a.1.any (sameTyB a.2))))
theorem c219_eq (l:List Ty) (p:Ty) (h:l.length≤lim):c219 [.lst (l.map Ty.v),.fn 220 [.ladr [p.v] 0 0]]=some (false,.bool (l.any (sameTyB p))):=ctr_eq (inj245 _) (l,p) h rfl
theorem c219_ok:COK Tryz.prog (219,c219):=ctr_ok fun a h=>f219_ok a.1 a.2 h
end Go.TM.Tryz
end
section
set_option maxHeartbeats 2000000
namespace Go.TM.Tryz
open Go Go.TM Go.Proofs
noncomputable def c218:=ctr (fun a:Ty × Ty=>a.1.lim∧a.2.lim) (fun a=>[a.1.v,a.2.v]) (fun a=>(false,.bool (tyEq a.1 a.2)))
theorem inj218 {β:Type} (out:Ty × Ty→β):∀ a b:Ty × Ty,[a.1.v,a.2.v]=[b.1.v,b.2.v]→out a=out b:=by
  rintro ⟨a,c⟩ ⟨b,d⟩ h
  simp only [List.cons.injEq,and_true] at h
  rw [Ty.v_inj h.1,Ty.v_inj h.2]
theorem c218_eq (x y:Ty) (hx:x.lim) (hy:y.lim):c218 [x.v,y.v]=some (false,.bool (tyEq x y)):=ctr_eq (inj218 _) (x,y) ⟨hx,hy⟩ rfl
theorem c218_ok:COK Tryz.prog (218,c218):=ctr_ok fun a h=>f218_ok a.1 a.2 h.1.1.1 h.2.1.1
def tyAtEq (ys:List Ty) (i:Nat) (x:Ty):Bool:=(ys[i]?).any fun y=>tyEq x y
def tysEq (xs ys:List Ty):Bool:=decide (xs.length=ys.length) && allI (tyAtEq ys) xs xs.length
theorem f217_ok (xs ys:List Ty) (hx:limL Ty.lim xs) (hy:limL Ty.lim ys):FunOK Tryz.prog 217 [.lst (xs.map Ty.v),.lst (ys.map Ty.v),.fn 218 []] false (.bool (tysEq xs ys)):=by
  refine fun_ok (mkE_ok zmix (cl:=[(218,c218)]) (gl:=[]) [] c218_ok trivial) Tryz.func217 (by kernel_rfl) ?_
  refine FunW_run _ _ rfl rfl ?_
  have h1:=hx.1
  have h2:=hy.1
  simp only [lim] at h1 h2
  by_cases hl:xs.length=ys.length
  · simp [hl]
    refine lp_list xs (fun i t=>t.e 0=.lst (xs.map Ty.v)∧t.e 1=.lst (ys.map Ty.v)∧t.e 2=.fn 218 []∧t.e 15=.lst (xs.map Ty.v)∧t.e 16=.int .i64 xs.length∧t.e 17=.int .i64 i∧allI (tyAtEq ys) xs i=true) ?_ ?_ ?_
    · simp [hl]
    · rintro c' L hL i t x hx' hi ih ⟨h0,h1,h2,h15,h16,h17,hall⟩
      have hw:=wrI (i:=i) (by omega)
      have hiy:i < ys.length:=by omega
      have hy':=List.getElem?_eq_getElem hiy
      have e:=c218_eq x ys[i] (hx.2 x (List.mem_of_getElem? hx')) (hy.2 _ (List.getElem_mem hiy))
      simp only [Ty.v] at e
      cases hq:tyEq x ys[i]
      · rw [hq] at e
        have hno:tyAtEq ys i x=false:=by simp [tyAtEq,hy',hq]
        have:=allI_no hx' hno
        simp [-getElem?_pos,gcz,gcs,h0,h1,h2,h15,h16,h17,hL,hi,hx',hy',hiy,e,tysEq,this]
      · rw [hq] at e
        have hyes:tyAtEq ys i x=true:=by simp [tyAtEq,hy',hq]
        simp [-getElem?_pos,gcz,gcs,h0,h1,h2,h15,h16,h17,hL,hi,hx',hy',hiy,e]
        refine ih _ ?_
        simp [h0,h1,h2,h15,h16,h17,hw,allI_succ hx',hall,hyes]
    · rintro c' t ⟨h0,h1,h2,h15,h16,h17,hall⟩
      rw [hl] at hall
      simp [h0,h1,h2,h15,h16,h17,tysEq,hl,hall]
  · have hl':¬ (xs.length:Int)=ys.length:=by omega
    simp [hl,hl',tysEq]
noncomputable def c217:=ctr (fun a:List Ty × List Ty=>limL Ty.lim a.1∧limL Ty.lim a.2) (fun a=>[.lst (a.1.map Ty.v),.lst (a.2.map Ty.v),.fn 218 []]) (fun a=>(false,.bool (tysEq a.1 a.2)))
theorem inj217 {β:Type} (out:List Ty × List Ty→β):∀ a b:List Ty × List Ty,[V.lst (a.1.map Ty.v),.lst (a.2.map Ty.v),.fn 218 []]=[V.lst (b.1.map Ty.v),.lst (b.2.map Ty.v),.fn 218 []]→out a=out b:=by
  rintro ⟨a,c⟩ ⟨b,d⟩ h
  simp only [List.cons.injEq,and_true,V.lst.injEq] at h
  rw [map_inj Ty.v_inj h.1,map_inj Ty.v_inj h.2]
theorem c217_eq (xs ys:List Ty) (h:limL Ty.lim xs) (h2:limL Ty.lim ys):c217 [.lst (xs.map Ty.v),.lst (ys.map Ty.v),.fn 218 []]=some (false,.bool (tysEq xs ys)):=ctr_eq (inj217 _) (xs,ys) ⟨h,h2⟩ rfl
theorem c217_ok:COK Tryz.prog (217,c217):=ctr_ok fun a h=>f217_ok a.1 a.2 h.1 h.2
def baseTys:List Ty:=[⟨1,0,-1,[],⟨#[]⟩,⟨#[73,78,84]⟩⟩,⟨2,0,-1,[],⟨#[]⟩,⟨#[66,79,79,76]⟩⟩,⟨3,0,-1,[],⟨#[]⟩,⟨#[67,72,65,82]⟩⟩]
theorem f146_ok:FunOK Tryz.prog 146 [] false (.inl 6 (baseTys.map Ty.o)):=by
  refine fun_ok (mkE_ok zmix (cl:=[]) (gl:=[]) [] trivial trivial) Tryz.func146 (by kernel_rfl) ?_
  refine FunW_run _ _ rfl rfl ?_
  simp [baseTys]
  rfl
end Go.TM.Tryz
end
section
namespace Go.TM
open Go
inductive Rch (nx:Int→List Int) (from_:List Int):Int→Prop
  | base {n:Int}:n ∈ from_→Rch nx from_ n
  | step {n k:Int}:Rch nx from_ n→k ∈ nx n→Rch nx from_ k
section
variable {nx:Int→List Int}
theorem Rch.mono {a b:List Int} (h:∀ x ∈ a,Rch nx b x) {x:Int} (hx:Rch nx a x):Rch nx b x:=by
  induction hx with
  | base h1=>exact h _ h1
  | step _ h2 ih=>exact .step ih h2
def putI (out:List Int) (n:Int):List Int :=
  if n ∈ out then out else out.takeWhile (fun x=>decide (x < n)) ++ n :: out.dropWhile (fun x=>decide (x < n))
theorem mem_putI {out:List Int} {n x:Int}:x ∈ putI out n ↔ x=n ∨ x ∈ out:=by
  unfold putI
  split
  · rename_i h
    constructor
    · exact .inr
    · rintro (rfl | h1)
      · exact h
      · exact h1
  · have e:x ∈ out ↔ x ∈ out.takeWhile (fun x=>decide (x < n)) ∨ x ∈ out.dropWhile (fun x=>decide (x < n)):=by
      rw [← List.mem_append,List.takeWhile_append_dropWhile]
    rw [List.mem_append,List.mem_cons,e]
    constructor
    · rintro (h | h | h)
      · exact .inr (.inl h)
      · exact .inl h
      · exact .inr (.inr h)
    · rintro (h | h | h)
      · exact .inr (.inl h)
      · exact .inl h
      · exact .inr (.inr h)
theorem putI_perm {out:List Int} {n:Int} (h:n ∉ out):(putI out n).Perm (n :: out):=by
  rw [putI,if_neg h]
  refine List.perm_middle.trans ?_
  rw [List.takeWhile_append_dropWhile]
theorem putI_nodup {out:List Int} {n:Int} (h:out.Nodup):(putI out n).Nodup:=by
  by_cases hn:n ∈ out
  · rw [putI,if_pos hn]
    exact h
  · rw [(putI_perm hn).nodup_iff]
    exact List.nodup_cons.2 ⟨hn,h⟩
theorem putI_length {out:List Int} {n:Int} (h:n ∉ out):(putI out n).length=out.length + 1:=by
  rw [(putI_perm h).length_eq]
  rfl
theorem nodup_le:∀ {xs ys:List Int},xs.Nodup→(∀ x ∈ xs,x ∈ ys)→xs.length≤ys.length
  | [],_,_,_=>Nat.zero_le _
  | x :: xs,ys,h,hs=>by
    rw [List.nodup_cons] at h
    have hx:x ∈ ys:=hs x (by simp)
    have:=nodup_le (xs:=xs) (ys:=ys.erase x) h.2 (fun y hy=>by
      have hne:y ≠ x:=fun e=>h.1 (e ▸ hy)
      exact (List.mem_erase_of_ne hne).2 (hs y (by simp [hy])))
    rw [List.length_erase_of_mem hx] at this
    have:0 < ys.length:=List.length_pos_of_mem hx
    simp only [List.length_cons]
    omega
def Within (L:Nat) (l:List Int):Prop:=∀ x ∈ l,0≤x∧x < L
theorem nodup_within {L:Nat} {l:List Int} (h:l.Nodup) (hb:Within L l):l.length≤L:=by
  have:=nodup_le (ys:=(List.range L).map (fun i:Nat=>(i:Int))) h (fun x hx=>by
    have:=hb x hx
    rw [List.mem_map]
    exact ⟨x.toNat,by rw [List.mem_range];omega,by omega⟩)
  simpa using this
def fromL (nx:Int→List Int):Nat→List Int→List Int→List Int
  | 0,_,out=>out
  | _ + 1,[],out=>out
  | f + 1,n :: q,out=>if n ∈ out then fromL nx f q out else fromL nx f (q ++ nx n) (putI out n)
theorem fromL_mem {L:Nat} (hnx:∀ n:Int,0≤n→n < L→(nx n).length≤7∧Within L (nx n)):∀ (f:Nat) (q out:List Int),Within L q→Within L out→out.Nodup →
    q.length + 8 * (L - out.length) < f→(∀ n ∈ out,∀ k ∈ nx n,k ∈ out ∨ k ∈ q)→∀ x,x ∈ fromL nx f q out ↔ x ∈ out ∨ Rch nx q x
  | 0,_,_,_,_,_,h,_,_=>by omega
  | f + 1,[],out,_,_,_,_,hcl,x=>by
    simp only [fromL]
    constructor
    · exact .inl
    · rintro (h | h)
      · exact h
      · induction h with
        | base h=>cases h
        | step _ h2 ih=>rcases hcl _ ih _ h2 with h | h;exact h;cases h
  | f + 1,n :: q,out,hq,ho,hnd,hf,hcl,x=>by
    have hn:=hq n (by simp)
    have hq':Within L q:=fun y hy=>hq y (by simp [hy])
    simp only [List.length_cons] at hf
    simp only [fromL]
    split
    · rename_i hm
      rw [fromL_mem hnx f q out hq' ho hnd (by omega) (fun m hm' k hk=>by
        rcases hcl m hm' k hk with h | h
        · exact .inl h
        · rcases List.mem_cons.1 h with rfl | h
          · exact .inl hm
          · exact .inr h) x]
      constructor
      · rintro (h | h)
        · exact .inl h
        · exact .inr (h.mono fun y hy=>.base (by simp [hy]))
      · rintro (h | h)
        · exact .inl h
        · induction h with
          | base h =>
            rcases List.mem_cons.1 h with rfl | h
            · exact .inl hm
            · exact .inr (.base h)
          | step _ h2 ih =>
            rcases ih with ih | ih
            · rcases hcl _ ih _ h2 with h | h
              · exact .inl h
              · rcases List.mem_cons.1 h with rfl | h
                · exact .inl hm
                · exact .inr (.base h)
            · exact .inr (.step ih h2)
    · rename_i hm
      obtain ⟨h7,hb⟩:=hnx n hn.1 hn.2
      have hlen:=putI_length hm
      have hbo:Within L (putI out n):=fun y hy=>by
        rcases mem_putI.1 hy with rfl | h
        · exact hn
        · exact ho y h
      have hle:=nodup_within (putI_nodup (n:=n) hnd) hbo
      rw [fromL_mem hnx f (q ++ nx n) (putI out n) (fun y hy=>by
          rcases List.mem_append.1 hy with h | h
          · exact hq' y h
          · exact hb y h) hbo (putI_nodup hnd) (by rw [List.length_append,hlen];omega) (fun m hm' k hk=>by
        rcases mem_putI.1 hm' with rfl | h
        · exact .inr (by simp [hk])
        · rcases hcl m h k hk with h | h
          · exact .inl (mem_putI.2 (.inr h))
          · rcases List.mem_cons.1 h with rfl | h
            · exact .inl (mem_putI.2 (.inl rfl))
            · exact .inr (by simp [h])) x]
      rw [mem_putI]
      constructor
      · rintro ((rfl | h) | h)
        · exact .inr (.base (by simp))
        · exact .inl h
        · refine .inr (h.mono fun y hy=>?_)
          rcases List.mem_append.1 hy with h | h
          · exact .base (by simp [h])
          · exact .step (n:=n) (.base (by simp)) h
      · rintro (h | h)
        · exact .inl (.inr h)
        · induction h with
          | base h =>
            rcases List.mem_cons.1 h with rfl | h
            · exact .inl (.inl rfl)
            · exact .inr (.base (by simp [h]))
          | step _ h2 ih =>
            rcases ih with (rfl | ih) | ih
            · exact .inr (.base (by simp [h2]))
            · rcases hcl _ ih _ h2 with h | h
              · exact .inl (.inr h)
              · rcases List.mem_cons.1 h with rfl | h
                · exact .inl (.inl rfl)
                · exact .inr (.base (by simp [h]))
            · exact .inr (.step ih h2)
def addL:List Int→List Int→List Int
  | out,[]=>out
  | out,k :: ks=>addL (if k ∈ out then out else out ++ [k]) ks
theorem mem_addL:∀ {ks out:List Int} {x:Int},x ∈ addL out ks ↔ x ∈ out ∨ x ∈ ks
  | [],out,x=>by simp [addL]
  | k :: ks,out,x=>by
    rw [addL,mem_addL]
    split
    · rename_i h
      simp only [List.mem_cons]
      constructor
      · rintro (h1 | h1)
        · exact .inl h1
        · exact .inr (.inr h1)
      · rintro (h1 | rfl | h1)
        · exact .inl h1
        · exact .inl h
        · exact .inr h1
    · simp only [List.mem_append,List.mem_cons,List.not_mem_nil,or_false]
      constructor
      · rintro ((h1 | h1) | h1)
        · exact .inl h1
        · exact .inr (.inl h1)
        · exact .inr (.inr h1)
      · rintro (h1 | h1 | h1)
        · exact .inl (.inl h1)
        · exact .inl (.inr h1)
        · exact .inr h1
theorem addL_nodup:∀ {ks out:List Int},out.Nodup→(addL out ks).Nodup
  | [],_,h=>h
  | k :: ks,out,h=>by
    rw [addL]
    split
    · exact addL_nodup h
    · rename_i hk
      refine addL_nodup ?_
      rw [List.nodup_append]
      refine ⟨h,by simp,fun a ha b hb e=>?_⟩
      simp only [List.mem_singleton] at hb
      subst hb e
      exact hk ha
theorem addL_ext:∀ (ks out:List Int),∃ r,addL out ks=out ++ r∧r.length≤ks.length
  | [],out=>⟨[],by simp [addL],by simp⟩
  | k :: ks,out=>by
    rw [addL]
    split
    · obtain ⟨r,h,hr⟩:=addL_ext ks out
      exact ⟨r,h,by simp;omega⟩
    · obtain ⟨r,h,hr⟩:=addL_ext ks (out ++ [k])
      exact ⟨k :: r,by rw [h];simp,by simp;omega⟩
theorem addL_append:∀ (ks js out:List Int),addL out (ks ++ js)=addL (addL out ks) js
  | [],_,_=>rfl
  | k :: ks,js,out=>by simp only [List.cons_append,addL];rw [addL_append ks js]
def reachL (nx:Int→List Int):Nat→Nat→List Int→List Int
  | 0,_,out=>out
  | f + 1,i,out=>match out[i]? with
    | none=>out
    | some n=>reachL nx f (i + 1) (addL out (nx n))
theorem reachL_spec {L:Nat} (hnx:∀ n:Int,0≤n→n < L→Within L (nx n)):∀ (f i:Nat) (out:List Int),Within L out→out.Nodup→i≤out.length →
    L - i < f→(∀ j,j < i→∀ n,out[j]?=some n→∀ k ∈ nx n,k ∈ out)→(∀ x,x ∈ reachL nx f i out ↔ Rch nx out x)∧Within L (reachL nx f i out)∧(reachL nx f i out).Nodup
  | 0,_,_,_,_,_,h,_=>by omega
  | f + 1,i,out,hb,hnd,hi,hf,hcl=>by
    have hle:=nodup_within hnd hb
    simp only [reachL]
    split
    · rename_i h0
      have hlen:out.length≤i:=by simpa using h0
      refine ⟨fun x=>⟨.base,fun h=>?_⟩,hb,hnd⟩
      induction h with
      | base h=>exact h
      | step _ h2 ih =>
        obtain ⟨j,hj,e⟩:=List.mem_iff_getElem.1 ih
        exact hcl j (by omega) _ (by rw [List.getElem?_eq_getElem hj,e]) _ h2
    · rename_i n h0
      have hlt:i < out.length:=by
        rw [List.getElem?_eq_some_iff] at h0
        exact h0.1
      have hnm:n ∈ out:=List.mem_of_getElem? h0
      have hn:=hb n hnm
      obtain ⟨r,hr,_⟩:=addL_ext (nx n) out
      have hb':Within L (addL out (nx n)):=fun x hx=>by
        rcases mem_addL.1 hx with h | h
        · exact hb x h
        · exact hnx n hn.1 hn.2 x h
      have key:=reachL_spec hnx f (i + 1) (addL out (nx n)) hb' (addL_nodup hnd) (by rw [hr,List.length_append];omega) (by omega) (fun j hj m hm k hk=>by
        have hjo:out[j]?=some m:=by
          rw [hr,List.getElem?_append_left (by omega)] at hm
          exact hm
        by_cases e:j=i
        · subst e
          rw [h0] at hjo
          cases hjo
          exact mem_addL.2 (.inr hk)
        · exact mem_addL.2 (.inl (hcl j (by omega) m hjo k hk)))
      refine ⟨fun x=>?_,key.2⟩
      rw [key.1 x]
      constructor
      · refine fun h=>h.mono fun y hy=>?_
        rcases mem_addL.1 hy with h | h
        · exact .base h
        · exact .step (.base hnm) h
      · exact fun h=>h.mono fun y hy=>.base (mem_addL.2 (.inl hy))
end
def sortI (l:List Int):List Int:=l.mergeSort fun x y=>decide (x≤y)
theorem sortI_perm (l:List Int):(sortI l).Perm l:=List.mergeSort_perm _ _
theorem mem_sortI {l:List Int} {x:Int}:x ∈ sortI l ↔ x ∈ l:=(sortI_perm l).mem_iff
theorem sortI_sorted (l:List Int):(sortI l).Pairwise (·≤·):=by
  have:=List.pairwise_mergeSort (le:=fun x y:Int=>decide (x≤y)) (fun a b c h1 h2=>by simp at *;omega) (fun a b=>by simp;omega) l
  simpa [sortI] using this
theorem mem_compact {l:List Int} {x:Int}:x ∈ Lib.compact l ↔ x ∈ l:=by
  unfold Lib.compact Lib.compactUpTo
  simp only [List.mem_map,List.mem_filter,List.mem_range]
  constructor
  · rintro ⟨j,⟨hj,_⟩,rfl⟩
    rw [getElem!_pos l.toArray j (by simpa using hj)]
    simp
  · intro h
    obtain ⟨j,hj,rfl⟩:=List.mem_iff_getElem.1 h
    clear h
    induction j with
    | zero=>exact ⟨0,⟨hj,by simp [Lib.keeps]⟩,by rw [getElem!_pos l.toArray 0 (by simpa using hj)];simp⟩
    | succ j ih =>
      by_cases e:l[j + 1]=l[j]
      · rw [e]
        exact ih (by omega)
      · refine ⟨j + 1,⟨hj,?_⟩,by rw [getElem!_pos l.toArray (j + 1) (by simpa using hj)];simp⟩
        simp only [Lib.keeps,decide_eq_true_eq]
        right
        rw [getElem!_pos l.toArray (j + 1) (by simpa using hj),getElem!_pos l.toArray (j + 1 - 1) (by simp;omega)]
        simpa using e
theorem compact_nodup {l:List Int} (h:l.Pairwise (·≤·)):(Lib.compact l).Nodup:=by
  unfold Lib.compact Lib.compactUpTo List.Nodup
  rw [List.pairwise_map]
  have hr:((List.range l.length).filter (Lib.keeps l.toArray)).Pairwise (· < ·):=List.Pairwise.filter _ List.pairwise_lt_range
  refine List.Pairwise.imp_of_mem ?_ hr
  intro i j hi hj hij
  simp only [List.mem_filter,List.mem_range,Lib.keeps,decide_eq_true_eq] at hi hj
  have hp:∀ a b (ha:a < l.length) (hb:b < l.length),a≤b→l[a]≤l[b]:=by
    intro a b ha hb hab
    by_cases e:a=b
    · subst e;exact Int.le_refl _
    · exact List.pairwise_iff_getElem.1 h a b ha hb (by omega)
  obtain ⟨hj1,hj2⟩:=hj
  have hi1:=hi.1
  have hne:l.toArray[j]! ≠ l.toArray[j - 1]! := by
    rcases hj2 with h0 | h0
    · omega
    · exact h0
  have a1:l.toArray[j]! = l[j]:=by rw [getElem!_pos l.toArray j (by simpa using hj1)];simp
  have a2:l.toArray[j - 1]! = l[j - 1]:=by rw [getElem!_pos l.toArray (j - 1) (by simp;omega)];simp
  have a3:l.toArray[i]! = l[i]:=by rw [getElem!_pos l.toArray i (by simpa using hi1)];simp
  rw [a1,a2] at hne
  rw [a3,a1]
  have h1:=hp i (j - 1) hi1 (by omega) (by omega)
  have h2:=hp (j - 1) j (by omega) hj1 (by omega)
  omega
end Go.TM
end
