/- A part of the proof: ZT, ZTo, ZA, D4, D5, D6, XA, ZB, ZC, ZD, ZE, ZF, ZG, ZH, ZI, ZJ, ZK, D3. -/
import Derived.Test.YtaillfemdmkdpaaGreatK03
import Derived.Test.YtaillfemdmkdpaaGreatProg
import Derived.KernelRfl
import Derived.Sort.Walk0
import Derived.Laws.Strings
import Derived.Lib.SlicesCompact
set_option linter.unusedVariables false
set_option linter.unusedSimpArgs false
section
namespace Go.TM.ZT
open Go.Proofs
@[simp] theorem ti_2 : tiOf Tryz.prog 2 = (some (TI.mk 1 false 8 (.int .i64 0))) := by kernel_rfl
@[simp] theorem int_2 : intOf Tryz.prog 2 = (some .i64) := by kernel_rfl
@[simp] theorem ti_3 : tiOf Tryz.prog 3 = (some (TI.mk 1 false 8 (.int .i64 0))) := by kernel_rfl
@[simp] theorem int_3 : intOf Tryz.prog 3 = (some .i64) := by kernel_rfl
@[simp] theorem ti_4 : tiOf Tryz.prog 4 = (some (TI.mk 1 false 1 (.bool false))) := by kernel_rfl
@[simp] theorem bol_4 : bolOf Tryz.prog 4 = true := by kernel_rfl
@[simp] theorem ti_5 : tiOf Tryz.prog 5 = (some (TI.mk 1 false 1 (.int .u8 0))) := by kernel_rfl
@[simp] theorem int_5 : intOf Tryz.prog 5 = (some .u8) := by kernel_rfl
@[simp] theorem ti_6 : tiOf Tryz.prog 6 = (some (TI.mk 1 false 1 (.int .u8 0))) := by kernel_rfl
@[simp] theorem int_6 : intOf Tryz.prog 6 = (some .u8) := by kernel_rfl
@[simp] theorem ti_7 : tiOf Tryz.prog 7 = (some (TI.mk 4 true 24 (.agg [(.int .i64 0), (.int .i64 0), (.bool false), (.int .u8 0)]))) := by kernel_rfl
@[simp] theorem eqs_7 : eqsOf Tryz.prog 7 = (some [(.int .i64 0), (.int .i64 0), (.bool false), (.int .u8 0)]) := by kernel_rfl
@[simp] theorem bld_7 : bldOf Tryz.prog 7 = true := by kernel_rfl
@[simp] theorem fld_7_0 : fldOf Tryz.prog 7 0 = (some (0, 2)) := by kernel_rfl
@[simp] theorem fld_7_1 : fldOf Tryz.prog 7 1 = (some (1, 3)) := by kernel_rfl
@[simp] theorem fld_7_2 : fldOf Tryz.prog 7 2 = (some (2, 4)) := by kernel_rfl
@[simp] theorem fld_7_3 : fldOf Tryz.prog 7 3 = (some (3, 6)) := by kernel_rfl
@[simp] theorem ti_8 : tiOf Tryz.prog 8 = (some (TI.mk 4 true 24 (.agg [(.int .i64 0), (.int .i64 0), (.bool false), (.int .u8 0)]))) := by kernel_rfl
@[simp] theorem eqs_8 : eqsOf Tryz.prog 8 = (some [(.int .i64 0), (.int .i64 0), (.bool false), (.int .u8 0)]) := by kernel_rfl
@[simp] theorem bld_8 : bldOf Tryz.prog 8 = true := by kernel_rfl
@[simp] theorem fld_8_0 : fldOf Tryz.prog 8 0 = (some (0, 2)) := by kernel_rfl
@[simp] theorem fld_8_1 : fldOf Tryz.prog 8 1 = (some (1, 3)) := by kernel_rfl
@[simp] theorem fld_8_2 : fldOf Tryz.prog 8 2 = (some (2, 4)) := by kernel_rfl
@[simp] theorem fld_8_3 : fldOf Tryz.prog 8 3 = (some (3, 6)) := by kernel_rfl
@[simp] theorem ti_9 : tiOf Tryz.prog 9 = (some (TI.mk 1 false 16 (.str ⟨#[]⟩))) := by kernel_rfl
@[simp] theorem str_9 : strOf Tryz.prog 9 = true := by kernel_rfl
@[simp] theorem ti_10 : tiOf Tryz.prog 10 = (some (TI.mk 1 false 16 (.str ⟨#[]⟩))) := by kernel_rfl
@[simp] theorem str_10 : strOf Tryz.prog 10 = true := by kernel_rfl
@[simp] theorem ti_11 : tiOf Tryz.prog 11 = (some (TI.mk 1 false 16 (.str ⟨#[]⟩))) := by kernel_rfl
@[simp] theorem str_11 : strOf Tryz.prog 11 = true := by kernel_rfl
@[simp] theorem ti_12 : tiOf Tryz.prog 12 = (some (TI.mk 1 false 8 (.int .u64 0))) := by kernel_rfl
@[simp] theorem int_12 : intOf Tryz.prog 12 = (some .u64) := by kernel_rfl
@[simp] theorem ti_13 : tiOf Tryz.prog 13 = (some (TI.mk 2 true 24 (.agg [(.str ⟨#[]⟩), (.int .u64 0)]))) := by kernel_rfl
@[simp] theorem bld_13 : bldOf Tryz.prog 13 = true := by kernel_rfl
@[simp] theorem fld_13_0 : fldOf Tryz.prog 13 0 = (some (0, 9)) := by kernel_rfl
@[simp] theorem fld_13_1 : fldOf Tryz.prog 13 1 = (some (1, 12)) := by kernel_rfl
@[simp] theorem ti_14 : tiOf Tryz.prog 14 = (some (TI.mk 2 true 24 (.agg [(.str ⟨#[]⟩), (.int .u64 0)]))) := by kernel_rfl
@[simp] theorem bld_14 : bldOf Tryz.prog 14 = true := by kernel_rfl
@[simp] theorem fld_14_0 : fldOf Tryz.prog 14 0 = (some (0, 9)) := by kernel_rfl
@[simp] theorem fld_14_1 : fldOf Tryz.prog 14 1 = (some (1, 12)) := by kernel_rfl
@[simp] theorem ti_15 : tiOf Tryz.prog 15 = (some (TI.mk 1 false 8 .nilp)) := by kernel_rfl
@[simp] theorem ti_16 : tiOf Tryz.prog 16 = (some (TI.mk 1 false 8 .nilp)) := by kernel_rfl
@[simp] theorem ti_17 : tiOf Tryz.prog 17 = (some (TI.mk 1 false 8 .nilp)) := by kernel_rfl
@[simp] theorem ti_18 : tiOf Tryz.prog 18 = (some (TI.mk 1 true 8 (.agg [.nilp]))) := by kernel_rfl
@[simp] theorem bld_18 : bldOf Tryz.prog 18 = true := by kernel_rfl
@[simp] theorem fld_18_0 : fldOf Tryz.prog 18 0 = (some (0, 17)) := by kernel_rfl
@[simp] theorem ti_19 : tiOf Tryz.prog 19 = (some (TI.mk 1 true 8 (.agg [.nilp]))) := by kernel_rfl
@[simp] theorem bld_19 : bldOf Tryz.prog 19 = true := by kernel_rfl
@[simp] theorem fld_19_0 : fldOf Tryz.prog 19 0 = (some (0, 17)) := by kernel_rfl
@[simp] theorem ti_20 : tiOf Tryz.prog 20 = (some (TI.mk 1 false 16 .nili)) := by kernel_rfl
@[simp] theorem ti_21 : tiOf Tryz.prog 21 = (some (TI.mk 1 false 4 (.int .i32 0))) := by kernel_rfl
@[simp] theorem int_21 : intOf Tryz.prog 21 = (some .i32) := by kernel_rfl
@[simp] theorem ti_22 : tiOf Tryz.prog 22 = (some (TI.mk 1 false 24 (.inl 1 []))) := by kernel_rfl
@[simp] theorem el_22 : elOf Tryz.prog 22 = (some 9) := by kernel_rfl
@[simp] theorem ti_23 : tiOf Tryz.prog 23 = (some (TI.mk 1 false 24 (.inl 6 []))) := by kernel_rfl
@[simp] theorem el_23 : elOf Tryz.prog 23 = (some 81) := by kernel_rfl
@[simp] theorem ti_24 : tiOf Tryz.prog 24 = (some (TI.mk 1 false 24 (.inl 6 []))) := by kernel_rfl
@[simp] theorem el_24 : elOf Tryz.prog 24 = (some 85) := by kernel_rfl
@[simp] theorem ti_25 : tiOf Tryz.prog 25 = (some (TI.mk 1 false 24 (.inl 2 []))) := by kernel_rfl
@[simp] theorem el_25 : elOf Tryz.prog 25 = (some 88) := by kernel_rfl
@[simp] theorem ti_26 : tiOf Tryz.prog 26 = (some (TI.mk 5 true 112 (.agg [(.str ⟨#[]⟩), (.inl 1 []), (.inl 6 []), (.inl 6 []), (.inl 2 [])]))) := by kernel_rfl
@[simp] theorem bld_26 : bldOf Tryz.prog 26 = true := by kernel_rfl
@[simp] theorem fld_26_0 : fldOf Tryz.prog 26 0 = (some (0, 9)) := by kernel_rfl
@[simp] theorem fld_26_1 : fldOf Tryz.prog 26 1 = (some (1, 22)) := by kernel_rfl
@[simp] theorem fld_26_2 : fldOf Tryz.prog 26 2 = (some (2, 23)) := by kernel_rfl
@[simp] theorem fld_26_3 : fldOf Tryz.prog 26 3 = (some (3, 24)) := by kernel_rfl
@[simp] theorem fld_26_4 : fldOf Tryz.prog 26 4 = (some (4, 25)) := by kernel_rfl
@[simp] theorem ti_27 : tiOf Tryz.prog 27 = (some (TI.mk 5 true 112 (.agg [(.str ⟨#[]⟩), (.inl 1 []), (.inl 6 []), (.inl 6 []), (.inl 2 [])]))) := by kernel_rfl
@[simp] theorem bld_27 : bldOf Tryz.prog 27 = true := by kernel_rfl
@[simp] theorem fld_27_0 : fldOf Tryz.prog 27 0 = (some (0, 9)) := by kernel_rfl
@[simp] theorem fld_27_1 : fldOf Tryz.prog 27 1 = (some (1, 22)) := by kernel_rfl
@[simp] theorem fld_27_2 : fldOf Tryz.prog 27 2 = (some (2, 23)) := by kernel_rfl
@[simp] theorem fld_27_3 : fldOf Tryz.prog 27 3 = (some (3, 24)) := by kernel_rfl
@[simp] theorem fld_27_4 : fldOf Tryz.prog 27 4 = (some (4, 25)) := by kernel_rfl
@[simp] theorem ti_29 : tiOf Tryz.prog 29 = (some (TI.mk 1 false 24 (.inl 3 []))) := by kernel_rfl
@[simp] theorem el_29 : elOf Tryz.prog 29 = (some 63) := by kernel_rfl
@[simp] theorem ti_32 : tiOf Tryz.prog 32 = (some (TI.mk 1 false 24 (.inl 6 []))) := by kernel_rfl
@[simp] theorem el_32 : elOf Tryz.prog 32 = (some 103) := by kernel_rfl
@[simp] theorem ti_33 : tiOf Tryz.prog 33 = (some (TI.mk 1 false 24 (.inl 6 []))) := by kernel_rfl
@[simp] theorem el_33 : elOf Tryz.prog 33 = (some 93) := by kernel_rfl
@[simp] theorem ti_34 : tiOf Tryz.prog 34 = (some (TI.mk 1 false 24 (.inl 2 []))) := by kernel_rfl
@[simp] theorem el_34 : elOf Tryz.prog 34 = (some 96) := by kernel_rfl
@[simp] theorem ti_35 : tiOf Tryz.prog 35 = (some (TI.mk 5 true 112 (.agg [(.str ⟨#[]⟩), (.inl 1 []), (.inl 6 []), (.inl 6 []), (.inl 2 [])]))) := by kernel_rfl
@[simp] theorem bld_35 : bldOf Tryz.prog 35 = true := by kernel_rfl
@[simp] theorem fld_35_0 : fldOf Tryz.prog 35 0 = (some (0, 9)) := by kernel_rfl
@[simp] theorem fld_35_1 : fldOf Tryz.prog 35 1 = (some (1, 22)) := by kernel_rfl
@[simp] theorem fld_35_2 : fldOf Tryz.prog 35 2 = (some (2, 32)) := by kernel_rfl
@[simp] theorem fld_35_3 : fldOf Tryz.prog 35 3 = (some (3, 33)) := by kernel_rfl
@[simp] theorem fld_35_4 : fldOf Tryz.prog 35 4 = (some (4, 34)) := by kernel_rfl
@[simp] theorem ti_36 : tiOf Tryz.prog 36 = (some (TI.mk 5 true 112 (.agg [(.str ⟨#[]⟩), (.inl 1 []), (.inl 6 []), (.inl 6 []), (.inl 2 [])]))) := by kernel_rfl
@[simp] theorem bld_36 : bldOf Tryz.prog 36 = true := by kernel_rfl
@[simp] theorem fld_36_0 : fldOf Tryz.prog 36 0 = (some (0, 9)) := by kernel_rfl
@[simp] theorem fld_36_1 : fldOf Tryz.prog 36 1 = (some (1, 22)) := by kernel_rfl
@[simp] theorem fld_36_2 : fldOf Tryz.prog 36 2 = (some (2, 32)) := by kernel_rfl
@[simp] theorem fld_36_3 : fldOf Tryz.prog 36 3 = (some (3, 33)) := by kernel_rfl
@[simp] theorem fld_36_4 : fldOf Tryz.prog 36 4 = (some (4, 34)) := by kernel_rfl
@[simp] theorem ti_43 : tiOf Tryz.prog 43 = (some (TI.mk 1 false 24 (.inl 2 []))) := by kernel_rfl
@[simp] theorem el_43 : elOf Tryz.prog 43 = (some 77) := by kernel_rfl
@[simp] theorem ti_62 : tiOf Tryz.prog 62 = (some (TI.mk 3 true 32 (.agg [(.str ⟨#[]⟩), (.int .i64 0), (.int .i64 0)]))) := by kernel_rfl
@[simp] theorem eqs_62 : eqsOf Tryz.prog 62 = (some [(.str ⟨#[]⟩), (.int .i64 0), (.int .i64 0)]) := by kernel_rfl
@[simp] theorem bld_62 : bldOf Tryz.prog 62 = true := by kernel_rfl
@[simp] theorem fld_62_0 : fldOf Tryz.prog 62 0 = (some (0, 9)) := by kernel_rfl
@[simp] theorem fld_62_1 : fldOf Tryz.prog 62 1 = (some (1, 3)) := by kernel_rfl
@[simp] theorem fld_62_2 : fldOf Tryz.prog 62 2 = (some (2, 3)) := by kernel_rfl
@[simp] theorem ti_63 : tiOf Tryz.prog 63 = (some (TI.mk 3 true 32 (.agg [(.str ⟨#[]⟩), (.int .i64 0), (.int .i64 0)]))) := by kernel_rfl
@[simp] theorem eqs_63 : eqsOf Tryz.prog 63 = (some [(.str ⟨#[]⟩), (.int .i64 0), (.int .i64 0)]) := by kernel_rfl
@[simp] theorem bld_63 : bldOf Tryz.prog 63 = true := by kernel_rfl
@[simp] theorem fld_63_0 : fldOf Tryz.prog 63 0 = (some (0, 9)) := by kernel_rfl
@[simp] theorem fld_63_1 : fldOf Tryz.prog 63 1 = (some (1, 3)) := by kernel_rfl
@[simp] theorem fld_63_2 : fldOf Tryz.prog 63 2 = (some (2, 3)) := by kernel_rfl
@[simp] theorem ti_74 : tiOf Tryz.prog 74 = (some (TI.mk 1 false 8 .nilp)) := by kernel_rfl
@[simp] theorem ti_76 : tiOf Tryz.prog 76 = (some (TI.mk 2 true 24 (.agg [(.str ⟨#[]⟩), (.int .i64 0)]))) := by kernel_rfl
@[simp] theorem eqs_76 : eqsOf Tryz.prog 76 = (some [(.str ⟨#[]⟩), (.int .i64 0)]) := by kernel_rfl
@[simp] theorem bld_76 : bldOf Tryz.prog 76 = true := by kernel_rfl
@[simp] theorem fld_76_0 : fldOf Tryz.prog 76 0 = (some (0, 9)) := by kernel_rfl
@[simp] theorem fld_76_1 : fldOf Tryz.prog 76 1 = (some (1, 3)) := by kernel_rfl
@[simp] theorem ti_77 : tiOf Tryz.prog 77 = (some (TI.mk 2 true 24 (.agg [(.str ⟨#[]⟩), (.int .i64 0)]))) := by kernel_rfl
@[simp] theorem eqs_77 : eqsOf Tryz.prog 77 = (some [(.str ⟨#[]⟩), (.int .i64 0)]) := by kernel_rfl
@[simp] theorem bld_77 : bldOf Tryz.prog 77 = true := by kernel_rfl
@[simp] theorem fld_77_0 : fldOf Tryz.prog 77 0 = (some (0, 9)) := by kernel_rfl
@[simp] theorem fld_77_1 : fldOf Tryz.prog 77 1 = (some (1, 3)) := by kernel_rfl
@[simp] theorem ti_79 : tiOf Tryz.prog 79 = (some (TI.mk 1 false 24 (.inl 3 []))) := by kernel_rfl
@[simp] theorem el_79 : elOf Tryz.prog 79 = (some 151) := by kernel_rfl
@[simp] theorem ti_80 : tiOf Tryz.prog 80 = (some (TI.mk 6 true 80 (.agg [(.int .i64 0), (.int .i64 0), (.int .i64 0), (.inl 3 []), (.str ⟨#[]⟩), (.str ⟨#[]⟩)]))) := by kernel_rfl
@[simp] theorem bld_80 : bldOf Tryz.prog 80 = true := by kernel_rfl
@[simp] theorem fld_80_0 : fldOf Tryz.prog 80 0 = (some (0, 3)) := by kernel_rfl
@[simp] theorem fld_80_1 : fldOf Tryz.prog 80 1 = (some (1, 3)) := by kernel_rfl
@[simp] theorem fld_80_2 : fldOf Tryz.prog 80 2 = (some (2, 3)) := by kernel_rfl
@[simp] theorem fld_80_3 : fldOf Tryz.prog 80 3 = (some (3, 79)) := by kernel_rfl
@[simp] theorem fld_80_4 : fldOf Tryz.prog 80 4 = (some (4, 9)) := by kernel_rfl
@[simp] theorem fld_80_5 : fldOf Tryz.prog 80 5 = (some (5, 9)) := by kernel_rfl
@[simp] theorem ti_81 : tiOf Tryz.prog 81 = (some (TI.mk 6 true 80 (.agg [(.int .i64 0), (.int .i64 0), (.int .i64 0), (.inl 3 []), (.str ⟨#[]⟩), (.str ⟨#[]⟩)]))) := by kernel_rfl
@[simp] theorem bld_81 : bldOf Tryz.prog 81 = true := by kernel_rfl
@[simp] theorem fld_81_0 : fldOf Tryz.prog 81 0 = (some (0, 3)) := by kernel_rfl
@[simp] theorem fld_81_1 : fldOf Tryz.prog 81 1 = (some (1, 3)) := by kernel_rfl
@[simp] theorem fld_81_2 : fldOf Tryz.prog 81 2 = (some (2, 3)) := by kernel_rfl
@[simp] theorem fld_81_3 : fldOf Tryz.prog 81 3 = (some (3, 79)) := by kernel_rfl
@[simp] theorem fld_81_4 : fldOf Tryz.prog 81 4 = (some (4, 9)) := by kernel_rfl
@[simp] theorem fld_81_5 : fldOf Tryz.prog 81 5 = (some (5, 9)) := by kernel_rfl
@[simp] theorem ti_83 : tiOf Tryz.prog 83 = (some (TI.mk 1 false 24 (.inl 3 []))) := by kernel_rfl
@[simp] theorem el_83 : elOf Tryz.prog 83 = (some 153) := by kernel_rfl
@[simp] theorem ti_84 : tiOf Tryz.prog 84 = (some (TI.mk 6 true 72 (.agg [(.str ⟨#[]⟩), (.int .i64 0), (.int .i64 0), (.int .i64 0), (.int .i64 0), (.inl 3 [])]))) := by kernel_rfl
@[simp] theorem bld_84 : bldOf Tryz.prog 84 = true := by kernel_rfl
@[simp] theorem fld_84_0 : fldOf Tryz.prog 84 0 = (some (0, 9)) := by kernel_rfl
@[simp] theorem fld_84_1 : fldOf Tryz.prog 84 1 = (some (1, 3)) := by kernel_rfl
@[simp] theorem fld_84_2 : fldOf Tryz.prog 84 2 = (some (2, 3)) := by kernel_rfl
@[simp] theorem fld_84_3 : fldOf Tryz.prog 84 3 = (some (3, 3)) := by kernel_rfl
@[simp] theorem fld_84_4 : fldOf Tryz.prog 84 4 = (some (4, 3)) := by kernel_rfl
@[simp] theorem fld_84_5 : fldOf Tryz.prog 84 5 = (some (5, 83)) := by kernel_rfl
@[simp] theorem ti_85 : tiOf Tryz.prog 85 = (some (TI.mk 6 true 72 (.agg [(.str ⟨#[]⟩), (.int .i64 0), (.int .i64 0), (.int .i64 0), (.int .i64 0), (.inl 3 [])]))) := by kernel_rfl
@[simp] theorem bld_85 : bldOf Tryz.prog 85 = true := by kernel_rfl
@[simp] theorem fld_85_0 : fldOf Tryz.prog 85 0 = (some (0, 9)) := by kernel_rfl
@[simp] theorem fld_85_1 : fldOf Tryz.prog 85 1 = (some (1, 3)) := by kernel_rfl
@[simp] theorem fld_85_2 : fldOf Tryz.prog 85 2 = (some (2, 3)) := by kernel_rfl
@[simp] theorem fld_85_3 : fldOf Tryz.prog 85 3 = (some (3, 3)) := by kernel_rfl
@[simp] theorem fld_85_4 : fldOf Tryz.prog 85 4 = (some (4, 3)) := by kernel_rfl
@[simp] theorem fld_85_5 : fldOf Tryz.prog 85 5 = (some (5, 83)) := by kernel_rfl
@[simp] theorem ti_87 : tiOf Tryz.prog 87 = (some (TI.mk 2 true 32 (.agg [(.str ⟨#[]⟩), (.str ⟨#[]⟩)]))) := by kernel_rfl
@[simp] theorem eqs_87 : eqsOf Tryz.prog 87 = (some [(.str ⟨#[]⟩), (.str ⟨#[]⟩)]) := by kernel_rfl
@[simp] theorem bld_87 : bldOf Tryz.prog 87 = true := by kernel_rfl
@[simp] theorem fld_87_0 : fldOf Tryz.prog 87 0 = (some (0, 9)) := by kernel_rfl
@[simp] theorem fld_87_1 : fldOf Tryz.prog 87 1 = (some (1, 9)) := by kernel_rfl
@[simp] theorem ti_88 : tiOf Tryz.prog 88 = (some (TI.mk 2 true 32 (.agg [(.str ⟨#[]⟩), (.str ⟨#[]⟩)]))) := by kernel_rfl
@[simp] theorem eqs_88 : eqsOf Tryz.prog 88 = (some [(.str ⟨#[]⟩), (.str ⟨#[]⟩)]) := by kernel_rfl
@[simp] theorem bld_88 : bldOf Tryz.prog 88 = true := by kernel_rfl
@[simp] theorem fld_88_0 : fldOf Tryz.prog 88 0 = (some (0, 9)) := by kernel_rfl
@[simp] theorem fld_88_1 : fldOf Tryz.prog 88 1 = (some (1, 9)) := by kernel_rfl
@[simp] theorem ti_91 : tiOf Tryz.prog 91 = (some (TI.mk 1 false 24 (.inl 3 []))) := by kernel_rfl
@[simp] theorem el_91 : elOf Tryz.prog 91 = (some 135) := by kernel_rfl
@[simp] theorem ti_92 : tiOf Tryz.prog 92 = (some (TI.mk 6 true 72 (.agg [(.str ⟨#[]⟩), (.int .i64 0), (.int .i64 0), (.int .i64 0), (.int .i64 0), (.inl 3 [])]))) := by kernel_rfl
@[simp] theorem bld_92 : bldOf Tryz.prog 92 = true := by kernel_rfl
@[simp] theorem fld_92_0 : fldOf Tryz.prog 92 0 = (some (0, 9)) := by kernel_rfl
@[simp] theorem fld_92_1 : fldOf Tryz.prog 92 1 = (some (1, 3)) := by kernel_rfl
@[simp] theorem fld_92_2 : fldOf Tryz.prog 92 2 = (some (2, 3)) := by kernel_rfl
@[simp] theorem fld_92_3 : fldOf Tryz.prog 92 3 = (some (3, 3)) := by kernel_rfl
@[simp] theorem fld_92_4 : fldOf Tryz.prog 92 4 = (some (4, 3)) := by kernel_rfl
@[simp] theorem fld_92_5 : fldOf Tryz.prog 92 5 = (some (5, 91)) := by kernel_rfl
@[simp] theorem ti_93 : tiOf Tryz.prog 93 = (some (TI.mk 6 true 72 (.agg [(.str ⟨#[]⟩), (.int .i64 0), (.int .i64 0), (.int .i64 0), (.int .i64 0), (.inl 3 [])]))) := by kernel_rfl
@[simp] theorem bld_93 : bldOf Tryz.prog 93 = true := by kernel_rfl
@[simp] theorem fld_93_0 : fldOf Tryz.prog 93 0 = (some (0, 9)) := by kernel_rfl
@[simp] theorem fld_93_1 : fldOf Tryz.prog 93 1 = (some (1, 3)) := by kernel_rfl
@[simp] theorem fld_93_2 : fldOf Tryz.prog 93 2 = (some (2, 3)) := by kernel_rfl
@[simp] theorem fld_93_3 : fldOf Tryz.prog 93 3 = (some (3, 3)) := by kernel_rfl
@[simp] theorem fld_93_4 : fldOf Tryz.prog 93 4 = (some (4, 3)) := by kernel_rfl
@[simp] theorem fld_93_5 : fldOf Tryz.prog 93 5 = (some (5, 91)) := by kernel_rfl
@[simp] theorem ti_96 : tiOf Tryz.prog 96 = (some (TI.mk 2 true 32 (.agg [(.str ⟨#[]⟩), (.str ⟨#[]⟩)]))) := by kernel_rfl
@[simp] theorem eqs_96 : eqsOf Tryz.prog 96 = (some [(.str ⟨#[]⟩), (.str ⟨#[]⟩)]) := by kernel_rfl
@[simp] theorem bld_96 : bldOf Tryz.prog 96 = true := by kernel_rfl
@[simp] theorem fld_96_0 : fldOf Tryz.prog 96 0 = (some (0, 9)) := by kernel_rfl
@[simp] theorem fld_96_1 : fldOf Tryz.prog 96 1 = (some (1, 9)) := by kernel_rfl
@[simp] theorem ti_98 : tiOf Tryz.prog 98 = (some (TI.mk 1 false 24 (.inl 1 []))) := by kernel_rfl
@[simp] theorem el_98 : elOf Tryz.prog 98 = (some 3) := by kernel_rfl
@[simp] theorem ti_101 : tiOf Tryz.prog 101 = (some (TI.mk 1 false 24 (.inl 3 []))) := by kernel_rfl
@[simp] theorem el_101 : elOf Tryz.prog 101 = (some 133) := by kernel_rfl
@[simp] theorem ti_102 : tiOf Tryz.prog 102 = (some (TI.mk 6 true 80 (.agg [(.int .i64 0), (.int .i64 0), (.int .i64 0), (.inl 3 []), (.str ⟨#[]⟩), (.str ⟨#[]⟩)]))) := by kernel_rfl
@[simp] theorem bld_102 : bldOf Tryz.prog 102 = true := by kernel_rfl
@[simp] theorem fld_102_0 : fldOf Tryz.prog 102 0 = (some (0, 3)) := by kernel_rfl
@[simp] theorem fld_102_1 : fldOf Tryz.prog 102 1 = (some (1, 3)) := by kernel_rfl
@[simp] theorem fld_102_2 : fldOf Tryz.prog 102 2 = (some (2, 3)) := by kernel_rfl
@[simp] theorem fld_102_3 : fldOf Tryz.prog 102 3 = (some (3, 101)) := by kernel_rfl
@[simp] theorem fld_102_4 : fldOf Tryz.prog 102 4 = (some (4, 9)) := by kernel_rfl
@[simp] theorem fld_102_5 : fldOf Tryz.prog 102 5 = (some (5, 9)) := by kernel_rfl
@[simp] theorem ti_103 : tiOf Tryz.prog 103 = (some (TI.mk 6 true 80 (.agg [(.int .i64 0), (.int .i64 0), (.int .i64 0), (.inl 3 []), (.str ⟨#[]⟩), (.str ⟨#[]⟩)]))) := by kernel_rfl
@[simp] theorem bld_103 : bldOf Tryz.prog 103 = true := by kernel_rfl
@[simp] theorem fld_103_0 : fldOf Tryz.prog 103 0 = (some (0, 3)) := by kernel_rfl
@[simp] theorem fld_103_1 : fldOf Tryz.prog 103 1 = (some (1, 3)) := by kernel_rfl
@[simp] theorem fld_103_2 : fldOf Tryz.prog 103 2 = (some (2, 3)) := by kernel_rfl
@[simp] theorem fld_103_3 : fldOf Tryz.prog 103 3 = (some (3, 101)) := by kernel_rfl
@[simp] theorem fld_103_4 : fldOf Tryz.prog 103 4 = (some (4, 9)) := by kernel_rfl
@[simp] theorem fld_103_5 : fldOf Tryz.prog 103 5 = (some (5, 9)) := by kernel_rfl
@[simp] theorem ti_119 : tiOf Tryz.prog 119 = (some (TI.mk 1 false 24 (.inl 1 []))) := by kernel_rfl
@[simp] theorem el_119 : elOf Tryz.prog 119 = (some 5) := by kernel_rfl
@[simp] theorem ti_132 : tiOf Tryz.prog 132 = (some (TI.mk 3 true 32 (.agg [(.str ⟨#[]⟩), (.int .i64 0), (.int .i64 0)]))) := by kernel_rfl
@[simp] theorem eqs_132 : eqsOf Tryz.prog 132 = (some [(.str ⟨#[]⟩), (.int .i64 0), (.int .i64 0)]) := by kernel_rfl
@[simp] theorem bld_132 : bldOf Tryz.prog 132 = true := by kernel_rfl
@[simp] theorem fld_132_0 : fldOf Tryz.prog 132 0 = (some (0, 9)) := by kernel_rfl
@[simp] theorem fld_132_1 : fldOf Tryz.prog 132 1 = (some (1, 3)) := by kernel_rfl
@[simp] theorem fld_132_2 : fldOf Tryz.prog 132 2 = (some (2, 3)) := by kernel_rfl
@[simp] theorem ti_133 : tiOf Tryz.prog 133 = (some (TI.mk 3 true 32 (.agg [(.str ⟨#[]⟩), (.int .i64 0), (.int .i64 0)]))) := by kernel_rfl
@[simp] theorem eqs_133 : eqsOf Tryz.prog 133 = (some [(.str ⟨#[]⟩), (.int .i64 0), (.int .i64 0)]) := by kernel_rfl
@[simp] theorem bld_133 : bldOf Tryz.prog 133 = true := by kernel_rfl
@[simp] theorem fld_133_0 : fldOf Tryz.prog 133 0 = (some (0, 9)) := by kernel_rfl
@[simp] theorem fld_133_1 : fldOf Tryz.prog 133 1 = (some (1, 3)) := by kernel_rfl
@[simp] theorem fld_133_2 : fldOf Tryz.prog 133 2 = (some (2, 3)) := by kernel_rfl
@[simp] theorem ti_134 : tiOf Tryz.prog 134 = (some (TI.mk 3 true 32 (.agg [(.str ⟨#[]⟩), (.bool false), (.int .i64 0)]))) := by kernel_rfl
@[simp] theorem eqs_134 : eqsOf Tryz.prog 134 = (some [(.str ⟨#[]⟩), (.bool false), (.int .i64 0)]) := by kernel_rfl
@[simp] theorem bld_134 : bldOf Tryz.prog 134 = true := by kernel_rfl
@[simp] theorem fld_134_0 : fldOf Tryz.prog 134 0 = (some (0, 9)) := by kernel_rfl
@[simp] theorem fld_134_1 : fldOf Tryz.prog 134 1 = (some (1, 4)) := by kernel_rfl
@[simp] theorem fld_134_2 : fldOf Tryz.prog 134 2 = (some (2, 3)) := by kernel_rfl
@[simp] theorem ti_135 : tiOf Tryz.prog 135 = (some (TI.mk 3 true 32 (.agg [(.str ⟨#[]⟩), (.bool false), (.int .i64 0)]))) := by kernel_rfl
@[simp] theorem eqs_135 : eqsOf Tryz.prog 135 = (some [(.str ⟨#[]⟩), (.bool false), (.int .i64 0)]) := by kernel_rfl
@[simp] theorem bld_135 : bldOf Tryz.prog 135 = true := by kernel_rfl
@[simp] theorem fld_135_0 : fldOf Tryz.prog 135 0 = (some (0, 9)) := by kernel_rfl
@[simp] theorem fld_135_1 : fldOf Tryz.prog 135 1 = (some (1, 4)) := by kernel_rfl
@[simp] theorem fld_135_2 : fldOf Tryz.prog 135 2 = (some (2, 3)) := by kernel_rfl
@[simp] theorem ti_146 : tiOf Tryz.prog 146 = (some (TI.mk 1 false 8 (.int .u64 0))) := by kernel_rfl
@[simp] theorem int_146 : intOf Tryz.prog 146 = (some .u64) := by kernel_rfl
@[simp] theorem ti_151 : tiOf Tryz.prog 151 = (some (TI.mk 3 true 32 (.agg [(.str ⟨#[]⟩), (.int .i64 0), (.int .i64 0)]))) := by kernel_rfl
@[simp] theorem eqs_151 : eqsOf Tryz.prog 151 = (some [(.str ⟨#[]⟩), (.int .i64 0), (.int .i64 0)]) := by kernel_rfl
@[simp] theorem bld_151 : bldOf Tryz.prog 151 = true := by kernel_rfl
@[simp] theorem fld_151_0 : fldOf Tryz.prog 151 0 = (some (0, 9)) := by kernel_rfl
@[simp] theorem fld_151_1 : fldOf Tryz.prog 151 1 = (some (1, 3)) := by kernel_rfl
@[simp] theorem fld_151_2 : fldOf Tryz.prog 151 2 = (some (2, 3)) := by kernel_rfl
@[simp] theorem ti_153 : tiOf Tryz.prog 153 = (some (TI.mk 3 true 32 (.agg [(.str ⟨#[]⟩), (.bool false), (.int .i64 0)]))) := by kernel_rfl
@[simp] theorem eqs_153 : eqsOf Tryz.prog 153 = (some [(.str ⟨#[]⟩), (.bool false), (.int .i64 0)]) := by kernel_rfl
@[simp] theorem bld_153 : bldOf Tryz.prog 153 = true := by kernel_rfl
@[simp] theorem fld_153_0 : fldOf Tryz.prog 153 0 = (some (0, 9)) := by kernel_rfl
@[simp] theorem fld_153_1 : fldOf Tryz.prog 153 1 = (some (1, 4)) := by kernel_rfl
@[simp] theorem fld_153_2 : fldOf Tryz.prog 153 2 = (some (2, 3)) := by kernel_rfl
@[simp] theorem ti_170 : tiOf Tryz.prog 170 = (some (TI.mk 1 false 8 (.int .i64 0))) := by kernel_rfl
@[simp] theorem int_170 : intOf Tryz.prog 170 = (some .i64) := by kernel_rfl
@[simp] theorem ti_177 : tiOf Tryz.prog 177 = (some (TI.mk 1 false 4 (.int .u32 0))) := by kernel_rfl
@[simp] theorem int_177 : intOf Tryz.prog 177 = (some .u32) := by kernel_rfl
@[simp] theorem ti_179 : tiOf Tryz.prog 179 = (some (TI.mk 1 false 8 (.int .u64 0))) := by kernel_rfl
@[simp] theorem int_179 : intOf Tryz.prog 179 = (some .u64) := by kernel_rfl
@[simp] theorem ti_193 : tiOf Tryz.prog 193 = (some (TI.mk 1 false 8 (.int .u64 0))) := by kernel_rfl
@[simp] theorem int_193 : intOf Tryz.prog 193 = (some .u64) := by kernel_rfl
@[simp] theorem ti_197 : tiOf Tryz.prog 197 = (some (TI.mk 1 false 8 .nilp)) := by kernel_rfl
@[simp] theorem ti_209 : tiOf Tryz.prog 209 = (some (TI.mk 1 false 8 .nilp)) := by kernel_rfl
@[simp] theorem ti_218 : tiOf Tryz.prog 218 = (some (TI.mk 4 true 40 (.agg [.nilp, .nilp, .nilp, (.str ⟨#[]⟩)]))) := by kernel_rfl
@[simp] theorem bld_218 : bldOf Tryz.prog 218 = true := by kernel_rfl
@[simp] theorem fld_218_0 : fldOf Tryz.prog 218 0 = (some (0, 17)) := by kernel_rfl
@[simp] theorem fld_218_1 : fldOf Tryz.prog 218 1 = (some (1, 17)) := by kernel_rfl
@[simp] theorem fld_218_2 : fldOf Tryz.prog 218 2 = (some (2, 17)) := by kernel_rfl
@[simp] theorem fld_218_3 : fldOf Tryz.prog 218 3 = (some (3, 9)) := by kernel_rfl
@[simp] theorem ti_219 : tiOf Tryz.prog 219 = (some (TI.mk 4 true 40 (.agg [.nilp, .nilp, .nilp, (.str ⟨#[]⟩)]))) := by kernel_rfl
@[simp] theorem bld_219 : bldOf Tryz.prog 219 = true := by kernel_rfl
@[simp] theorem fld_219_0 : fldOf Tryz.prog 219 0 = (some (0, 17)) := by kernel_rfl
@[simp] theorem fld_219_1 : fldOf Tryz.prog 219 1 = (some (1, 17)) := by kernel_rfl
@[simp] theorem fld_219_2 : fldOf Tryz.prog 219 2 = (some (2, 17)) := by kernel_rfl
@[simp] theorem fld_219_3 : fldOf Tryz.prog 219 3 = (some (3, 9)) := by kernel_rfl
@[simp] theorem bld_221 : bldOf Tryz.prog 221 = true := by kernel_rfl
@[simp] theorem bld_222 : bldOf Tryz.prog 222 = true := by kernel_rfl
@[simp] theorem ti_224 : tiOf Tryz.prog 224 = (some (TI.mk 1 false 1 (.int .u8 0))) := by kernel_rfl
@[simp] theorem int_224 : intOf Tryz.prog 224 = (some .u8) := by kernel_rfl
@[simp] theorem ti_225 : tiOf Tryz.prog 225 = (some (TI.mk 1 false 1 (.int .u8 0))) := by kernel_rfl
@[simp] theorem int_225 : intOf Tryz.prog 225 = (some .u8) := by kernel_rfl
@[simp] theorem ti_227 : tiOf Tryz.prog 227 = (some (TI.mk 1 false 8 .nilp)) := by kernel_rfl
@[simp] theorem ti_228 : tiOf Tryz.prog 228 = (some (TI.mk 1 false 4 (.int .i32 0))) := by kernel_rfl
@[simp] theorem int_228 : intOf Tryz.prog 228 = (some .i32) := by kernel_rfl
@[simp] theorem ti_229 : tiOf Tryz.prog 229 = (some (TI.mk 1 false 4 (.int .i32 0))) := by kernel_rfl
@[simp] theorem int_229 : intOf Tryz.prog 229 = (some .i32) := by kernel_rfl
@[simp] theorem bld_230 : bldOf Tryz.prog 230 = true := by kernel_rfl
@[simp] theorem fld_230_0 : fldOf Tryz.prog 230 0 = (some (0, 12)) := by kernel_rfl
@[simp] theorem fld_230_1 : fldOf Tryz.prog 230 1 = (some (1, 12)) := by kernel_rfl
@[simp] theorem fld_230_2 : fldOf Tryz.prog 230 2 = (some (2, 177)) := by kernel_rfl
@[simp] theorem fld_230_3 : fldOf Tryz.prog 230 3 = (some (3, 224)) := by kernel_rfl
@[simp] theorem fld_230_4 : fldOf Tryz.prog 230 4 = (some (4, 5)) := by kernel_rfl
@[simp] theorem fld_230_5 : fldOf Tryz.prog 230 5 = (some (5, 5)) := by kernel_rfl
@[simp] theorem fld_230_6 : fldOf Tryz.prog 230 6 = (some (6, 225)) := by kernel_rfl
@[simp] theorem fld_230_7 : fldOf Tryz.prog 230 7 = (some (7, 226)) := by kernel_rfl
@[simp] theorem fld_230_8 : fldOf Tryz.prog 230 8 = (some (8, 227)) := by kernel_rfl
@[simp] theorem fld_230_9 : fldOf Tryz.prog 230 9 = (some (9, 228)) := by kernel_rfl
@[simp] theorem fld_230_10 : fldOf Tryz.prog 230 10 = (some (10, 229)) := by kernel_rfl
@[simp] theorem bld_231 : bldOf Tryz.prog 231 = true := by kernel_rfl
@[simp] theorem fld_231_0 : fldOf Tryz.prog 231 0 = (some (0, 12)) := by kernel_rfl
@[simp] theorem fld_231_1 : fldOf Tryz.prog 231 1 = (some (1, 12)) := by kernel_rfl
@[simp] theorem fld_231_2 : fldOf Tryz.prog 231 2 = (some (2, 177)) := by kernel_rfl
@[simp] theorem fld_231_3 : fldOf Tryz.prog 231 3 = (some (3, 224)) := by kernel_rfl
@[simp] theorem fld_231_4 : fldOf Tryz.prog 231 4 = (some (4, 5)) := by kernel_rfl
@[simp] theorem fld_231_5 : fldOf Tryz.prog 231 5 = (some (5, 5)) := by kernel_rfl
@[simp] theorem fld_231_6 : fldOf Tryz.prog 231 6 = (some (6, 225)) := by kernel_rfl
@[simp] theorem fld_231_7 : fldOf Tryz.prog 231 7 = (some (7, 226)) := by kernel_rfl
@[simp] theorem fld_231_8 : fldOf Tryz.prog 231 8 = (some (8, 227)) := by kernel_rfl
@[simp] theorem fld_231_9 : fldOf Tryz.prog 231 9 = (some (9, 228)) := by kernel_rfl
@[simp] theorem fld_231_10 : fldOf Tryz.prog 231 10 = (some (10, 229)) := by kernel_rfl
end Go.TM.ZT
end
section
set_option maxHeartbeats 2000000
set_option linter.unusedSimpArgs false
set_option linter.unusedVariables false
namespace Go.TM.Tryz
open Go Go.TM Go.Proofs
theorem zmix : Tryz.prog.follows .mixedOrders = true := by kernel_rfl
theorem f25_ok (xs : List ByteArray) (h : szL ByteArray.size xs ≤ 1048576) : FunOK Tryz.prog 25 [.lst (xs.map V.str)] false (.inl 1 (xs.map V.str)) := by
  refine fun_ok (mkE_ok zmix (cl := []) (gl := []) [] trivial trivial) Tryz.func25 (by kernel_rfl) ?_
  refine FunW_run _ _ rfl rfl ?_
  have hl := szL_len ByteArray.size xs
  have hb2 : xs.length * 16 ≤ 140737488355328 := by omega
  have hb3 : xs.length ≤ 4294967296 := by omega
  simp [room, hb2, hb3]
  refine lp_list xs (fun i t => t.e 0 = .lst (xs.map V.str) ∧ t.e 4 = .int .i64 i ∧ t.e 3 = .own 1 ∧ t.nt = 2 ∧ t.nb = 0 ∧ t.R 1 = some ⟨1, fill V.str (.str ⟨#[]⟩) xs i, true⟩) ?_ ?_ ?_
  · simp [fill_zero]
  · rintro c' L hL i t x hx hi ih ⟨h0, h4, h3, hnt, hnb, hR⟩
    have hw : IntKind.i64.wrap ((i : Int) + 1) = ((i + 1 : Nat) : Int) := wrap64 (by omega) (by omega)
    have hn : ¬ 1 = t.nt := by omega
    simp [-getElem?_pos, List.getElem?_cons_zero, List.getElem?_cons_succ, h0, h4, h3, hnt, hnb, hR, hL, hx, hi, fill_get hi, hn]
    refine ih _ ?_
    simp [-getElem?_pos, List.getElem?_cons_zero, List.getElem?_cons_succ, h0, h4, h3, hnt, hnb, hR, hL, hx, hi, hw, hn]
    exact fill_set hx rfl
  · rintro c' t ⟨h0, h4, h3, hnt, hnb, hR⟩
    simp [h0, h4, h3, hnb, hR, fill_all]
noncomputable def c25 := ctr (fun xs : List ByteArray => szL ByteArray.size xs ≤ 1048576) (fun xs => [.lst (xs.map V.str)]) (fun xs => (false, .inl 1 (xs.map V.str)))
theorem c25_eq (xs : List ByteArray) (h : szL ByteArray.size xs ≤ 1048576) : c25 [.lst (xs.map V.str)] = some (false, .inl 1 (xs.map V.str)) := ctr_eq (injl str_inj _) xs h rfl
theorem c25_ok : COK Tryz.prog (25, c25) := ctr_ok fun n h => f25_ok n h

theorem f115_ok (x : Fld) (h : True) : FunOK Tryz.prog 115 [x.v] false x.v := by
  refine fun_ok (mkE_ok zmix (cl := []) (gl := []) [] trivial trivial) Tryz.func115 (by kernel_rfl) ?_
  refine FunW_run _ _ rfl rfl ?_
  simp
noncomputable def c115 := ctr (fun x : Fld => True) (fun x => [x.v]) (fun x => (false, x.v))
theorem c115_eq (a0 : ByteArray) (a1 : Int) (a2 : Int) : c115 [.agg [.str a0, .int .i64 a1, .int .i64 a2]] = some (false, .agg [.str a0, .int .i64 a1, .int .i64 a2]) := ctr_eq (inj0 Fld.v_inj _) (Fld.mk a0 a1 a2) trivial rfl
theorem c115_ok : COK Tryz.prog (115, c115) := ctr_ok fun n h => f115_ok n h

theorem f86_ok (xs : List Fld) (h : szL Fld.sz xs ≤ 1048576) : FunOK Tryz.prog 86 [.lst (xs.map Fld.v)] false (.inl 3 (xs.map Fld.v)) := by
  refine fun_ok (mkE_ok zmix (cl := [(115, c115)]) (gl := []) [] c115_ok trivial) Tryz.func86 (by kernel_rfl) ?_
  refine FunW_run _ _ rfl rfl ?_
  have hl := szL_len Fld.sz xs
  have hb2 : xs.length * 32 ≤ 140737488355328 := by omega
  have hb3 : xs.length ≤ 4294967296 := by omega
  simp [room, hb2, hb3]
  refine lp_list xs (fun i t => t.e 0 = .lst (xs.map Fld.v) ∧ t.e 4 = .int .i64 i ∧ t.e 3 = .own 1 ∧ t.nt = 2 ∧ t.nb = 0 ∧ t.R 1 = some ⟨3, fill Fld.v (.agg [.str ⟨#[]⟩, .int .i64 0, .int .i64 0]) xs i, true⟩) ?_ ?_ ?_
  · simp [fill_zero]
  · rintro c' L hL i t x hx hi ih ⟨h0, h4, h3, hnt, hnb, hR⟩
    have hw : IntKind.i64.wrap ((i : Int) + 1) = ((i + 1 : Nat) : Int) := wrap64 (by omega) (by omega)
    have hn : ¬ 1 = t.nt := by omega
    simp [-getElem?_pos, List.getElem?_cons_zero, List.getElem?_cons_succ, h0, h4, h3, hnt, hnb, hR, hL, hx, hi, fill_get hi, hn, c115_eq]
    refine ih _ ?_
    simp [-getElem?_pos, List.getElem?_cons_zero, List.getElem?_cons_succ, h0, h4, h3, hnt, hnb, hR, hL, hx, hi, hw, hn]
    exact fill_set hx rfl
  · rintro c' t ⟨h0, h4, h3, hnt, hnb, hR⟩
    simp [h0, h4, h3, hnb, hR, fill_all]
noncomputable def c86 := ctr (fun xs : List Fld => szL Fld.sz xs ≤ 1048576) (fun xs => [.lst (xs.map Fld.v)]) (fun xs => (false, .inl 3 (xs.map Fld.v)))
theorem c86_eq (xs : List Fld) (h : szL Fld.sz xs ≤ 1048576) : c86 [.lst (xs.map Fld.v)] = some (false, .inl 3 (xs.map Fld.v)) := ctr_eq (injl Fld.v_inj _) xs h rfl
theorem c86_ok : COK Tryz.prog (86, c86) := ctr_ok fun n h => f86_ok n h

theorem f116_ok (x : Par) (h : True) : FunOK Tryz.prog 116 [x.v] false x.v := by
  refine fun_ok (mkE_ok zmix (cl := []) (gl := []) [] trivial trivial) Tryz.func116 (by kernel_rfl) ?_
  refine FunW_run _ _ rfl rfl ?_
  simp
noncomputable def c116 := ctr (fun x : Par => True) (fun x => [x.v]) (fun x => (false, x.v))
theorem c116_eq (a0 : ByteArray) (a1 : Bool) (a2 : Int) : c116 [.agg [.str a0, .bool a1, .int .i64 a2]] = some (false, .agg [.str a0, .bool a1, .int .i64 a2]) := ctr_eq (inj0 Par.v_inj _) (Par.mk a0 a1 a2) trivial rfl
theorem c116_ok : COK Tryz.prog (116, c116) := ctr_ok fun n h => f116_ok n h

theorem f87_ok (xs : List Par) (h : szL Par.sz xs ≤ 1048576) : FunOK Tryz.prog 87 [.lst (xs.map Par.v)] false (.inl 3 (xs.map Par.v)) := by
  refine fun_ok (mkE_ok zmix (cl := [(116, c116)]) (gl := []) [] c116_ok trivial) Tryz.func87 (by kernel_rfl) ?_
  refine FunW_run _ _ rfl rfl ?_
  have hl := szL_len Par.sz xs
  have hb2 : xs.length * 32 ≤ 140737488355328 := by omega
  have hb3 : xs.length ≤ 4294967296 := by omega
  simp [room, hb2, hb3]
  refine lp_list xs (fun i t => t.e 0 = .lst (xs.map Par.v) ∧ t.e 4 = .int .i64 i ∧ t.e 3 = .own 1 ∧ t.nt = 2 ∧ t.nb = 0 ∧ t.R 1 = some ⟨3, fill Par.v (.agg [.str ⟨#[]⟩, .bool false, .int .i64 0]) xs i, true⟩) ?_ ?_ ?_
  · simp [fill_zero]
  · rintro c' L hL i t x hx hi ih ⟨h0, h4, h3, hnt, hnb, hR⟩
    have hw : IntKind.i64.wrap ((i : Int) + 1) = ((i + 1 : Nat) : Int) := wrap64 (by omega) (by omega)
    have hn : ¬ 1 = t.nt := by omega
    simp [-getElem?_pos, List.getElem?_cons_zero, List.getElem?_cons_succ, h0, h4, h3, hnt, hnb, hR, hL, hx, hi, fill_get hi, hn, c116_eq]
    refine ih _ ?_
    simp [-getElem?_pos, List.getElem?_cons_zero, List.getElem?_cons_succ, h0, h4, h3, hnt, hnb, hR, hL, hx, hi, hw, hn]
    exact fill_set hx rfl
  · rintro c' t ⟨h0, h4, h3, hnt, hnb, hR⟩
    simp [h0, h4, h3, hnb, hR, fill_all]
noncomputable def c87 := ctr (fun xs : List Par => szL Par.sz xs ≤ 1048576) (fun xs => [.lst (xs.map Par.v)]) (fun xs => (false, .inl 3 (xs.map Par.v)))
theorem c87_eq (xs : List Par) (h : szL Par.sz xs ≤ 1048576) : c87 [.lst (xs.map Par.v)] = some (false, .inl 3 (xs.map Par.v)) := ctr_eq (injl Par.v_inj _) xs h rfl
theorem c87_ok : COK Tryz.prog (87, c87) := ctr_ok fun n h => f87_ok n h

theorem f56_ok (x : Use) (h : True) : FunOK Tryz.prog 56 [x.v] false x.v := by
  refine fun_ok (mkE_ok zmix (cl := []) (gl := []) [] trivial trivial) Tryz.func56 (by kernel_rfl) ?_
  refine FunW_run _ _ rfl rfl ?_
  simp
noncomputable def c56 := ctr (fun x : Use => True) (fun x => [x.v]) (fun x => (false, x.v))
theorem c56_eq (a0 : ByteArray) (a1 : ByteArray) : c56 [.agg [.str a0, .str a1]] = some (false, .agg [.str a0, .str a1]) := ctr_eq (inj0 Use.v_inj _) (Use.mk a0 a1) trivial rfl
theorem c56_ok : COK Tryz.prog (56, c56) := ctr_ok fun n h => f56_ok n h

theorem f28_ok (xs : List Use) (h : szL Use.sz xs ≤ 1048576) : FunOK Tryz.prog 28 [.lst (xs.map Use.v)] false (.inl 2 (xs.map Use.v)) := by
  refine fun_ok (mkE_ok zmix (cl := [(56, c56)]) (gl := []) [] c56_ok trivial) Tryz.func28 (by kernel_rfl) ?_
  refine FunW_run _ _ rfl rfl ?_
  have hl := szL_len Use.sz xs
  have hb2 : xs.length * 32 ≤ 140737488355328 := by omega
  have hb3 : xs.length ≤ 4294967296 := by omega
  simp [room, hb2, hb3]
  refine lp_list xs (fun i t => t.e 0 = .lst (xs.map Use.v) ∧ t.e 4 = .int .i64 i ∧ t.e 3 = .own 1 ∧ t.nt = 2 ∧ t.nb = 0 ∧ t.R 1 = some ⟨2, fill Use.v (.agg [.str ⟨#[]⟩, .str ⟨#[]⟩]) xs i, true⟩) ?_ ?_ ?_
  · simp [fill_zero]
  · rintro c' L hL i t x hx hi ih ⟨h0, h4, h3, hnt, hnb, hR⟩
    have hw : IntKind.i64.wrap ((i : Int) + 1) = ((i + 1 : Nat) : Int) := wrap64 (by omega) (by omega)
    have hn : ¬ 1 = t.nt := by omega
    simp [-getElem?_pos, List.getElem?_cons_zero, List.getElem?_cons_succ, h0, h4, h3, hnt, hnb, hR, hL, hx, hi, fill_get hi, hn, c56_eq]
    refine ih _ ?_
    simp [-getElem?_pos, List.getElem?_cons_zero, List.getElem?_cons_succ, h0, h4, h3, hnt, hnb, hR, hL, hx, hi, hw, hn]
    exact fill_set hx rfl
  · rintro c' t ⟨h0, h4, h3, hnt, hnb, hR⟩
    simp [h0, h4, h3, hnb, hR, fill_all]
noncomputable def c28 := ctr (fun xs : List Use => szL Use.sz xs ≤ 1048576) (fun xs => [.lst (xs.map Use.v)]) (fun xs => (false, .inl 2 (xs.map Use.v)))
theorem c28_eq (xs : List Use) (h : szL Use.sz xs ≤ 1048576) : c28 [.lst (xs.map Use.v)] = some (false, .inl 2 (xs.map Use.v)) := ctr_eq (injl Use.v_inj _) xs h rfl
theorem c28_ok : COK Tryz.prog (28, c28) := ctr_ok fun n h => f28_ok n h

theorem f54_ok (x : Ty) (h : x.sz ≤ 1048576) : FunOK Tryz.prog 54 [x.v] false x.o := by
  refine fun_ok (mkE_ok zmix (cl := [(86, c86)]) (gl := []) [] c86_ok trivial) Tryz.func54 (by kernel_rfl) ?_
  refine FunW_run _ _ rfl rfl ?_
  simp only [Ty.sz] at h
  have e0 := c86_eq x.fields (by omega)
  simp [e0]
noncomputable def c54 := ctr (fun x : Ty => x.sz ≤ 1048576) (fun x => [x.v]) (fun x => (false, x.o))
theorem c54_eq (a0 : Int) (a1 : Int) (a2 : Int) (a3 : List Fld) (a4 : ByteArray) (a5 : ByteArray) (h : Ty.sz (Ty.mk a0 a1 a2 a3 a4 a5) ≤ 1048576) : c54 [.agg [.int .i64 a0, .int .i64 a1, .int .i64 a2, .lst (a3.map Fld.v), .str a4, .str a5]] = some (false, .agg [.int .i64 a0, .int .i64 a1, .int .i64 a2, .inl 3 (a3.map Fld.v), .str a4, .str a5]) := ctr_eq (inj0 Ty.v_inj _) (Ty.mk a0 a1 a2 a3 a4 a5) h rfl
theorem c54_ok : COK Tryz.prog (54, c54) := ctr_ok fun n h => f54_ok n h

theorem f26_ok (xs : List Ty) (h : szL Ty.sz xs ≤ 1048576) : FunOK Tryz.prog 26 [.lst (xs.map Ty.v)] false (.inl 6 (xs.map Ty.o)) := by
  refine fun_ok (mkE_ok zmix (cl := [(54, c54)]) (gl := []) [] c54_ok trivial) Tryz.func26 (by kernel_rfl) ?_
  refine FunW_run _ _ rfl rfl ?_
  have hl := szL_len Ty.sz xs
  have hb2 : xs.length * 80 ≤ 140737488355328 := by omega
  have hb3 : xs.length ≤ 4294967296 := by omega
  simp [room, hb2, hb3]
  refine lp_list xs (fun i t => t.e 0 = .lst (xs.map Ty.v) ∧ t.e 4 = .int .i64 i ∧ t.e 3 = .own 1 ∧ 2 ≤ t.nt ∧ t.nb = 0 ∧ t.R 1 = some ⟨6, fill Ty.o (.agg [.int .i64 0, .int .i64 0, .int .i64 0, .inl 3 [], .str ⟨#[]⟩, .str ⟨#[]⟩]) xs i, true⟩) ?_ ?_ ?_
  · simp [fill_zero]
  · rintro c' L hL i t x hx hi ih ⟨h0, h4, h3, hnt, hnb, hR⟩
    have hw : IntKind.i64.wrap ((i : Int) + 1) = ((i + 1 : Nat) : Int) := wrap64 (by omega) (by omega)
    have hn : ¬ 1 = t.nt := by omega
    simp [-getElem?_pos, List.getElem?_cons_zero, List.getElem?_cons_succ, h0, h4, h3, hnb, hR, hL, hx, hi, fill_get hi, hn, c54_eq _ _ _ _ _ _ (Nat.le_trans (szL_get hx) h)]
    refine ih _ ?_
    simp [-getElem?_pos, List.getElem?_cons_zero, List.getElem?_cons_succ, h0, h4, h3, hnb, hR, hL, hx, hi, hw, hn]
    exact ⟨by omega, fill_set hx rfl⟩
  · rintro c' t ⟨h0, h4, h3, hnt, hnb, hR⟩
    simp [h0, h4, h3, hnb, hR, fill_all]
noncomputable def c26 := ctr (fun xs : List Ty => szL Ty.sz xs ≤ 1048576) (fun xs => [.lst (xs.map Ty.v)]) (fun xs => (false, .inl 6 (xs.map Ty.o)))
theorem c26_eq (xs : List Ty) (h : szL Ty.sz xs ≤ 1048576) : c26 [.lst (xs.map Ty.v)] = some (false, .inl 6 (xs.map Ty.o)) := ctr_eq (injl Ty.v_inj _) xs h rfl
theorem c26_ok : COK Tryz.prog (26, c26) := ctr_ok fun n h => f26_ok n h

theorem f55_ok (x : Obj) (h : x.sz ≤ 1048576) : FunOK Tryz.prog 55 [x.v] false x.o := by
  refine fun_ok (mkE_ok zmix (cl := [(87, c87)]) (gl := []) [] c87_ok trivial) Tryz.func55 (by kernel_rfl) ?_
  refine FunW_run _ _ rfl rfl ?_
  simp only [Obj.sz] at h
  have e0 := c87_eq x.params (by omega)
  simp [e0]
noncomputable def c55 := ctr (fun x : Obj => x.sz ≤ 1048576) (fun x => [x.v]) (fun x => (false, x.o))
theorem c55_eq (a0 : ByteArray) (a1 : Int) (a2 : Int) (a3 : Int) (a4 : Int) (a5 : List Par) (h : Obj.sz (Obj.mk a0 a1 a2 a3 a4 a5) ≤ 1048576) : c55 [.agg [.str a0, .int .i64 a1, .int .i64 a2, .int .i64 a3, .int .i64 a4, .lst (a5.map Par.v)]] = some (false, .agg [.str a0, .int .i64 a1, .int .i64 a2, .int .i64 a3, .int .i64 a4, .inl 3 (a5.map Par.v)]) := ctr_eq (inj0 Obj.v_inj _) (Obj.mk a0 a1 a2 a3 a4 a5) h rfl
theorem c55_ok : COK Tryz.prog (55, c55) := ctr_ok fun n h => f55_ok n h

theorem f27_ok (xs : List Obj) (h : szL Obj.sz xs ≤ 1048576) : FunOK Tryz.prog 27 [.lst (xs.map Obj.v)] false (.inl 6 (xs.map Obj.o)) := by
  refine fun_ok (mkE_ok zmix (cl := [(55, c55)]) (gl := []) [] c55_ok trivial) Tryz.func27 (by kernel_rfl) ?_
  refine FunW_run _ _ rfl rfl ?_
  have hl := szL_len Obj.sz xs
  have hb2 : xs.length * 72 ≤ 140737488355328 := by omega
  have hb3 : xs.length ≤ 4294967296 := by omega
  simp [room, hb2, hb3]
  refine lp_list xs (fun i t => t.e 0 = .lst (xs.map Obj.v) ∧ t.e 4 = .int .i64 i ∧ t.e 3 = .own 1 ∧ 2 ≤ t.nt ∧ t.nb = 0 ∧ t.R 1 = some ⟨6, fill Obj.o (.agg [.str ⟨#[]⟩, .int .i64 0, .int .i64 0, .int .i64 0, .int .i64 0, .inl 3 []]) xs i, true⟩) ?_ ?_ ?_
  · simp [fill_zero]
  · rintro c' L hL i t x hx hi ih ⟨h0, h4, h3, hnt, hnb, hR⟩
    have hw : IntKind.i64.wrap ((i : Int) + 1) = ((i + 1 : Nat) : Int) := wrap64 (by omega) (by omega)
    have hn : ¬ 1 = t.nt := by omega
    simp [-getElem?_pos, List.getElem?_cons_zero, List.getElem?_cons_succ, h0, h4, h3, hnb, hR, hL, hx, hi, fill_get hi, hn, c55_eq _ _ _ _ _ _ (Nat.le_trans (szL_get hx) h)]
    refine ih _ ?_
    simp [-getElem?_pos, List.getElem?_cons_zero, List.getElem?_cons_succ, h0, h4, h3, hnb, hR, hL, hx, hi, hw, hn]
    exact ⟨by omega, fill_set hx rfl⟩
  · rintro c' t ⟨h0, h4, h3, hnt, hnb, hR⟩
    simp [h0, h4, h3, hnb, hR, fill_all]
noncomputable def c27 := ctr (fun xs : List Obj => szL Obj.sz xs ≤ 1048576) (fun xs => [.lst (xs.map Obj.v)]) (fun xs => (false, .inl 6 (xs.map Obj.o)))
theorem c27_eq (xs : List Obj) (h : szL Obj.sz xs ≤ 1048576) : c27 [.lst (xs.map Obj.v)] = some (false, .inl 6 (xs.map Obj.o)) := ctr_eq (injl Obj.v_inj _) xs h rfl
theorem c27_ok : COK Tryz.prog (27, c27) := ctr_ok fun n h => f27_ok n h

theorem f7_ok (x : Scp) (h : x.sz ≤ 1048576) : FunOK Tryz.prog 7 [x.v] false x.o := by
  refine fun_ok (mkE_ok zmix (cl := [(25, c25), (26, c26), (27, c27), (28, c28)]) (gl := []) [] ⟨c25_ok, c26_ok, c27_ok, c28_ok⟩ trivial) Tryz.func7 (by kernel_rfl) ?_
  refine FunW_run _ _ rfl rfl ?_
  simp only [Scp.sz] at h
  have e0 := c25_eq x.imports (by omega)
  have e1 := c26_eq x.types (by omega)
  have e2 := c27_eq x.objects (by omega)
  have e3 := c28_eq x.uses (by omega)
  simp [e0, e1, e2, e3]
noncomputable def c7 := ctr (fun x : Scp => x.sz ≤ 1048576) (fun x => [x.v]) (fun x => (false, x.o))
theorem c7_eq (a0 : ByteArray) (a1 : List ByteArray) (a2 : List Ty) (a3 : List Obj) (a4 : List Use) (h : Scp.sz (Scp.mk a0 a1 a2 a3 a4) ≤ 1048576) : c7 [.agg [.str a0, .lst (a1.map V.str), .lst (a2.map Ty.v), .lst (a3.map Obj.v), .lst (a4.map Use.v)]] = some (false, .agg [.str a0, .inl 1 (a1.map V.str), .inl 6 (a2.map Ty.o), .inl 6 (a3.map Obj.o), .inl 2 (a4.map Use.v)]) := ctr_eq (inj0 Scp.v_inj _) (Scp.mk a0 a1 a2 a3 a4) h rfl
theorem c7_ok : COK Tryz.prog (7, c7) := ctr_ok fun n h => f7_ok n h

end Go.TM.Tryz
end
section
set_option maxHeartbeats 2000000
set_option linter.unusedSimpArgs false
set_option linter.unusedVariables false
namespace Go.TM.Tryz
open Go Go.TM Go.Proofs
theorem f88_ok (n : Int) : FunOK Tryz.prog 88 [.int .u8 n] false (.bool (letterB n)) := by
  refine fun_ok (mkE_ok zmix (cl := []) (gl := []) [] trivial trivial) Tryz.func88 (by kernel_rfl) ?_
  refine FunW_run _ _ rfl rfl ?_
  simp [letterB]
noncomputable def c88 := ctr (fun _ : Int => True) (fun n => [.int .u8 n]) (fun n => (false, .bool (letterB n)))
theorem c88_eq (n : Int) : c88 [.int .u8 n] = some (false, .bool (letterB n)) := ctr_eq (by simp) n trivial rfl
theorem c88_ok : COK Tryz.prog (88, c88) := ctr_ok fun n _ => f88_ok n
theorem f89_ok (n : Int) : FunOK Tryz.prog 89 [.int .u8 n] false (.bool (digitB n)) := by
  refine fun_ok (mkE_ok zmix (cl := []) (gl := []) [] trivial trivial) Tryz.func89 (by kernel_rfl) ?_
  refine FunW_run _ _ rfl rfl ?_
  simp [digitB]
noncomputable def c89 := ctr (fun _ : Int => True) (fun n => [.int .u8 n]) (fun n => (false, .bool (digitB n)))
theorem c89_eq (n : Int) : c89 [.int .u8 n] = some (false, .bool (digitB n)) := ctr_eq (by simp) n trivial rfl
theorem c89_ok : COK Tryz.prog (89, c89) := ctr_ok fun n _ => f89_ok n
theorem f90_ok (a : Int × Int × Int) : FunOK Tryz.prog 90 [.int .i64 a.1, .int .i64 a.2.1, .int .i64 a.2.2] false (.bool (inB a.1 a.2.1 a.2.2)) := by
  refine fun_ok (mkE_ok zmix (cl := []) (gl := []) [] trivial trivial) Tryz.func90 (by kernel_rfl) ?_
  refine FunW_run _ _ rfl rfl ?_
  simp [inB]
noncomputable def c90 := ctr (fun _ : Int × Int × Int => True) (fun a => [.int .i64 a.1, .int .i64 a.2.1, .int .i64 a.2.2]) (fun a => (false, .bool (inB a.1 a.2.1 a.2.2)))
theorem c90_eq (n l h : Int) : c90 [.int .i64 n, .int .i64 l, .int .i64 h] = some (false, .bool (inB n l h)) := ctr_eq (by rintro ⟨a, b, c⟩ ⟨d, e, f⟩; simp; rintro rfl rfl rfl; simp) (n, l, h) trivial rfl
theorem c90_ok : COK Tryz.prog (90, c90) := ctr_ok fun n _ => f90_ok n
theorem f79_ok (a : Int × Int × Int) : FunOK Tryz.prog 79 [.int .i64 a.1, .int .i64 a.2.1, .int .i64 a.2.2] false (.bool (inB a.1 a.2.1 a.2.2)) := by
  refine fun_ok (mkE_ok zmix (cl := []) (gl := []) [] trivial trivial) Tryz.func79 (by kernel_rfl) ?_
  refine FunW_run _ _ rfl rfl ?_
  simp [inB]
noncomputable def c79 := ctr (fun _ : Int × Int × Int => True) (fun a => [.int .i64 a.1, .int .i64 a.2.1, .int .i64 a.2.2]) (fun a => (false, .bool (inB a.1 a.2.1 a.2.2)))
theorem c79_eq (n l h : Int) : c79 [.int .i64 n, .int .i64 l, .int .i64 h] = some (false, .bool (inB n l h)) := ctr_eq (by rintro ⟨a, b, c⟩ ⟨d, e, f⟩; simp; rintro rfl rfl rfl; simp) (n, l, h) trivial rfl
theorem c79_ok : COK Tryz.prog (79, c79) := ctr_ok fun n _ => f79_ok n
theorem f57_ok (s : ByteArray) (hs : s.size ≤ lim) : FunOK Tryz.prog 57 [.str s] false (.bool (nameB s)) := by
  refine fun_ok (mkE_ok zmix (cl := [(88, c88), (89, c89), (90, c90)]) (gl := []) [] ⟨c88_ok, c89_ok, c90_ok⟩ trivial) Tryz.func57 (by kernel_rfl) ?_
  refine FunW_run _ _ rfl rfl ?_
  have hsz := ba_len s
  simp only [lim] at hs
  simp
  refine lp_list s.data.toList (fun i t => t.e 0 = .str s ∧ t.e 5 = .int .i64 s.size ∧ t.e 6 = .int .i64 i ∧ allI okB s.data.toList i = true) ?_ ?_ ?_
  · simp
  · rintro c' L hL i t x hx hi ih ⟨h0, h5, h6, hall⟩
    have hi' : i < s.size := by omega
    have hw : IntKind.i64.wrap ((i : Int) + 1) = ((i + 1 : Nat) : Int) := wrap64 (by omega) (by omega)
    have hx' : s.data[i]? = some x := by simpa using hx
    simp [-getElem?_pos, h0, h5, h6, hL, hi', hx', c88_eq, c89_eq]
    split
    · rename_i hc
      have hok : okB i x = false := okB_no.2 hc
      have := allI_no hx hok
      rw [← hsz] at this
      simp [nameB, this]
    · rename_i hc
      have hok : okB i x = true := by rw [← Bool.not_eq_false, okB_no]; exact hc
      refine ih _ ?_
      simp [h0, h5, h6, hw, allI_succ hx, hall, hok]
  · rintro c' t ⟨h0, h5, h6, hall⟩
    rw [← hsz] at h6 hall
    simp [h0, h5, h6, c90_eq, nameB, hall]
noncomputable def c57 := ctr (fun s : ByteArray => s.size ≤ lim) (fun s => [.str s]) (fun s => (false, .bool (nameB s)))
theorem c57_eq (s : ByteArray) (h : s.size ≤ lim) : c57 [.str s] = some (false, .bool (nameB s)) := ctr_eq (by simp) s h rfl
theorem c57_ok : COK Tryz.prog (57, c57) := ctr_ok fun s h => f57_ok s h
theorem f47_ok (s : ByteArray) (hs : s.size ≤ lim) : FunOK Tryz.prog 47 [.str s] false (.bool (nameB s)) := by
  refine fun_ok (mkE_ok zmix (cl := [(79, c79)]) (gl := []) [] c79_ok trivial) Tryz.func47 (by kernel_rfl) ?_
  refine FunW_run _ _ rfl rfl ?_
  have hsz := ba_len s
  simp only [lim] at hs
  simp
  refine lp_list s.data.toList (fun i t => t.e 0 = .str s ∧ t.e 3 = .int .i64 i ∧ allI okB s.data.toList i = true) ?_ ?_ ?_
  · simp
  · rintro c' L hL i t x hx hi ih ⟨h0, h3, hall⟩
    have hi' : i < s.size := by omega
    have hw : IntKind.i64.wrap ((i : Int) + 1) = ((i + 1 : Nat) : Int) := wrap64 (by omega) (by omega)
    have hx' : s.data[i]? = some x := by simpa using hx
    simp [-getElem?_pos, h0, h3, hL, hi', hx']
    split
    · rename_i hc
      have hno := allI_no hx (okB_no2.2 hc)
      rw [← hsz] at hno
      simp [nameB, hno]
    · rename_i hc
      have hok : okB i x = true := by rw [← Bool.not_eq_false, okB_no2]; exact hc
      refine ih _ ?_
      simp [h0, h3, hw, allI_succ hx, hall, hok]
  · rintro c' t ⟨h0, h3, hall⟩
    rw [← hsz] at h3 hall
    simp [h0, h3, c79_eq, nameB, hall]
noncomputable def c47 := ctr (fun s : ByteArray => s.size ≤ lim) (fun s => [.str s]) (fun s => (false, .bool (nameB s)))
theorem c47_eq (s : ByteArray) (h : s.size ≤ lim) : c47 [.str s] = some (false, .bool (nameB s)) := ctr_eq (by simp) s h rfl
theorem c47_ok : COK Tryz.prog (47, c47) := ctr_ok fun s h => f47_ok s h
theorem f48_ok (l : List ByteArray) (s : ByteArray) (hl : l.length ≤ lim) : FunOK Tryz.prog 48 [.lst (l.map .str), .str s] false (.bool (hasB l s)) := by
  refine fun_ok (mkE_ok zmix (cl := []) (gl := []) [] trivial trivial) Tryz.func48 (by kernel_rfl) ?_
  refine FunW_run _ _ rfl rfl ?_
  simp only [lim] at hl
  simp
  refine lp_list l (fun i t => t.e 1 = .str s ∧ t.e 7 = .lst (l.map .str) ∧ t.e 8 = .int .i64 l.length ∧ t.e 9 = .int .i64 i ∧ anyI (fun x => decide (x = s)) l i = false) ?_ ?_ ?_
  · simp
  · rintro c' L hL i t x hx hi ih ⟨h1, h7, h8, h9, hall⟩
    have hw : IntKind.i64.wrap ((i : Int) + 1) = ((i + 1 : Nat) : Int) := wrap64 (by omega) (by omega)
    simp [-getElem?_pos, List.getElem?_cons_zero, h1, h7, h8, h9, hL, hi, hx]
    split
    · rename_i hc
      exact any_yes hx (by simp [hc])
    · rename_i hc
      refine ih _ ?_
      simp [h1, h7, h8, h9, hw, anyI_succ hx, hall, hc]
  · rintro c' t ⟨h1, h7, h8, h9, hall⟩
    rw [anyI_all] at hall
    simp [h1, h7, h8, h9, hasB, hall]
noncomputable def c48 := ctr (fun a : List ByteArray × ByteArray => a.1.length ≤ lim) (fun a => [.lst (a.1.map .str), .str a.2]) (fun a => (false, .bool (hasB a.1 a.2)))
theorem c48_eq (l : List ByteArray) (s : ByteArray) (h : l.length ≤ lim) : c48 [.lst (l.map .str), .str s] = some (false, .bool (hasB l s)) := ctr_eq (injLS str_inj _) (l, s) h rfl
theorem c48_ok : COK Tryz.prog (48, c48) := ctr_ok fun a h => f48_ok a.1 a.2 h
theorem f97_ok (l : List ByteArray) (s : ByteArray) (hl : l.length ≤ lim) : FunOK Tryz.prog 97 [.lst (l.map .str), .str s] false (.int .i64 (fstI (fun x => decide (x = s)) l)) := by
  refine fun_ok (mkE_ok zmix (cl := []) (gl := []) [] trivial trivial) Tryz.func97 (by kernel_rfl) ?_
  refine FunW_run _ _ rfl rfl ?_
  simp only [lim] at hl
  simp
  refine lp_list l (fun i t => t.e 1 = .str s ∧ t.e 0 = .lst (l.map .str) ∧ t.e 7 = .int .i64 l.length ∧ t.e 8 = .int .i64 i ∧ anyI (fun x => decide (x = s)) l i = false) ?_ ?_ ?_
  · simp
  · rintro c' L hL i t x hx hi ih ⟨h1, h7, h8, h9, hall⟩
    have hw : IntKind.i64.wrap ((i : Int) + 1) = ((i + 1 : Nat) : Int) := wrap64 (by omega) (by omega)
    simp [-getElem?_pos, List.getElem?_cons_zero, h1, h7, h8, h9, hL, hi, hx]
    split
    · rename_i hc
      exact (fst_yes hx (by simp [hc]) hall).symm
    · rename_i hc
      refine ih _ ?_
      simp [h1, h7, h8, h9, hw, anyI_succ hx, hall]
      exact fun h => hc h.symm
  · rintro c' t ⟨h1, h7, h8, h9, hall⟩
    simp [h1, h7, h8, h9, fst_no hall]
noncomputable def c97 := ctr (fun a : List ByteArray × ByteArray => a.1.length ≤ lim) (fun a => [.lst (a.1.map .str), .str a.2]) (fun a => (false, .int .i64 (fstI (fun x => decide (x = a.2)) a.1)))
theorem c97_eq (l : List ByteArray) (s : ByteArray) (h : l.length ≤ lim) : c97 [.lst (l.map .str), .str s] = some (false, .int .i64 (fstI (fun x => decide (x = s)) l)) := ctr_eq (injLS str_inj _) (l, s) h rfl
theorem c97_ok : COK Tryz.prog (97, c97) := ctr_ok fun a h => f97_ok a.1 a.2 h
theorem f62_ok (l : List ByteArray) (s : ByteArray) (hl : l.length ≤ lim) : FunOK Tryz.prog 62 [.lst (l.map .str), .str s] false (.bool (hasB l s)) := by
  refine fun_ok (mkE_ok zmix (cl := [(97, c97)]) (gl := []) [] c97_ok trivial) Tryz.func62 (by kernel_rfl) ?_
  refine FunW_run _ _ rfl rfl ?_
  simp [c97_eq l s hl, fst_ge, hasB]
noncomputable def c62 := ctr (fun a : List ByteArray × ByteArray => a.1.length ≤ lim) (fun a => [.lst (a.1.map .str), .str a.2]) (fun a => (false, .bool (hasB a.1 a.2)))
theorem c62_eq (l : List ByteArray) (s : ByteArray) (h : l.length ≤ lim) : c62 [.lst (l.map .str), .str s] = some (false, .bool (hasB l s)) := ctr_eq (injLS str_inj _) (l, s) h rfl
theorem c62_ok : COK Tryz.prog (62, c62) := ctr_ok fun a h => f62_ok a.1 a.2 h
theorem f58_ok (l : List ByteArray) (hl : limL strLim l) : FunOK Tryz.prog 58 [.lst (l.map .str)] false (.bool (unlikeB l)) := by
  refine fun_ok (mkE_ok zmix (cl := [(57, c57), (62, c62)]) (gl := []) [] ⟨c57_ok, c62_ok⟩ trivial) Tryz.func58 (by kernel_rfl) ?_
  refine FunW_run _ _ rfl rfl ?_
  have hlen := hl.1
  simp
  refine lp_list l (fun i t => t.e 0 = .lst (l.map .str) ∧ t.e 5 = .lst (l.map .str) ∧ t.e 6 = .int .i64 l.length ∧ t.e 7 = .int .i64 i ∧ allI (fun i x => nameB x && !hasB (l.take i) x) l i = true) ?_ ?_ ?_
  · simp
  · rintro c' L hL i t x hx hi ih ⟨h0, h5, h6, h7, hall⟩
    have e1 := c57_eq x (hl.2 x (List.mem_of_getElem? hx))
    have e2 := c62_eq (l.take i) x (by simp only [List.length_take]; omega)
    rw [List.map_take] at e2
    simp only [lim] at hlen
    have hw : IntKind.i64.wrap ((i : Int) + 1) = ((i + 1 : Nat) : Int) := wrap64 (by omega) (by omega)
    simp [-getElem?_pos, List.getElem?_cons_zero, h0, h5, h6, h7, hL, hi, hx, e1, e2]
    refine ⟨fun _ => Nat.le_of_lt hi, ?_⟩
    split
    · rename_i hc
      exact allI_no hx (by cases h1 : nameB x <;> simp_all only [Bool.and_eq_false_iff, Bool.not_eq_false', Bool.true_and, Bool.false_and, false_or, true_or, reduceCtorEq, Bool.not_true])
    · rename_i hc
      refine ih _ ?_
      simp [h0, h5, h6, h7, hw, allI_succ hx, hall]
      simpa using hc
  · rintro c' t ⟨h0, h5, h6, h7, hall⟩
    simp [h0, h5, h6, h7, unlikeB, hall]
noncomputable def c58 := ctr (fun l : List ByteArray => limL strLim l) (fun l => [.lst (l.map .str)]) (fun l => (false, .bool (unlikeB l)))
theorem c58_eq (l : List ByteArray) (h : limL strLim l) : c58 [.lst (l.map .str)] = some (false, .bool (unlikeB l)) := ctr_eq (injl str_inj _) l h rfl
theorem c58_ok : COK Tryz.prog (58, c58) := ctr_ok fun l h => f58_ok l h
end Go.TM.Tryz
end
section
set_option linter.unusedVariables false
namespace Go.TM
open Go
structure Knw where
  mod : ByteArray
  name : ByteArray
  value : Int
@[simp] def Knw.v (x : Knw) : V := .agg [.str x.mod, .str x.name, .int .i64 x.value]
@[simp] theorem cut_knw (xs : List Knw) : (xs = [] ∨ (leaves ((Option.map Knw.v xs[0]?).getD .bad)).length = 3) = True := cut_ok (f := Knw.v) (n := 3) (fun _ => rfl) xs
@[simp] theorem norms_knw (xs : List Knw) : norms (xs.map Knw.v) = xs.map Knw.v := by rw [norms_map]; simp
@[simp] theorem noLs_knw (xs : List Knw) : noLs (xs.map Knw.v) = true := noLs_map _ (by simp) _
theorem Knw.v_inj : Function.Injective Knw.v := by rintro ⟨⟩ ⟨⟩; simp
def Knw.sz (x : Knw) : Nat := x.mod.size + x.name.size
def Knw.lim (x : Knw) : Prop := x.mod.size ≤ TM.lim ∧ x.name.size ≤ TM.lim
def mkKnw (k : Int) (_ : Knw) : Knw := ⟨mtext k, mtext (k + 1), k + 1 + 1⟩
def cKnw (_ : Knw) : Nat := 3
end Go.TM
end
section
set_option linter.unusedVariables false
set_option linter.unusedSimpArgs false
namespace Go.TM
open Go
/-! ### texts in order -/
def ltS (a b : ByteArray) : Bool := Op.bytesLess a.toList b.toList
theorem ltS_iff {a b : ByteArray} : ltS a b = true ↔ a.toList < b.toList := by
  simp [ltS, Go.Proofs.bytesLess_eq]
theorem ltS_irrefl (a : ByteArray) : ltS a a = false := by
  rw [← Bool.not_eq_true, ltS_iff]
  exact List.lt_irrefl _
theorem ltS_trans {a b c : ByteArray} (h : ltS a b = true) (k : ltS b c = true) : ltS a c = true := by
  rw [ltS_iff] at *
  exact List.lt_trans h k
theorem ltS_asymm {a b : ByteArray} (h : ltS a b = true) : ltS b a = false := by
  rw [← Bool.not_eq_true]
  intro k
  have := ltS_trans h k
  rw [ltS_irrefl] at this
  cases this
theorem toList_inj {a b : ByteArray} (h : a.toList = b.toList) : a = b := by
  have := congrArg List.toArray h
  cases a
  cases b
  simp [ByteArray.toList_eq] at this h ⊢
  exact h
theorem ltS_total {a b : ByteArray} (h : ltS a b = false) (k : ltS b a = false) : a = b := by
  rw [← Bool.not_eq_true, ltS_iff] at h k
  exact toList_inj (List.le_antisymm (List.not_lt.1 k) (List.not_lt.1 h))
end Go.TM
end
section
set_option linter.unusedVariables false
namespace Go.TM
open Go
structure Fgr where
  name : ByteArray
  mark : Int
  sum : Int
structure Chg where
  name : ByteArray
  kind : Int
instance : Inhabited Fgr := ⟨⟨⟨#[]⟩, 0, 0⟩⟩
instance : Inhabited Chg := ⟨⟨⟨#[]⟩, 0⟩⟩
@[simp] def Fgr.v (x : Fgr) : V := .agg [.str x.name, .int .i64 x.mark, .int .i64 x.sum]
@[simp] def Chg.v (x : Chg) : V := .agg [.str x.name, .int .i64 x.kind]
@[simp] theorem cut_fgr (xs : List Fgr) : (xs = [] ∨ (leaves ((Option.map Fgr.v xs[0]?).getD .bad)).length = 3) = True := cut_ok (f := Fgr.v) (n := 3) (fun _ => rfl) xs
@[simp] theorem cut_chg (xs : List Chg) : (xs = [] ∨ (leaves ((Option.map Chg.v xs[0]?).getD .bad)).length = 2) = True := cut_ok (f := Chg.v) (n := 2) (fun _ => rfl) xs
@[simp] theorem norms_fgr (xs : List Fgr) : norms (xs.map Fgr.v) = xs.map Fgr.v := by rw [norms_map]; simp
@[simp] theorem norms_chg (xs : List Chg) : norms (xs.map Chg.v) = xs.map Chg.v := by rw [norms_map]; simp
@[simp] theorem noLs_fgr (xs : List Fgr) : noLs (xs.map Fgr.v) = true := noLs_map _ (by simp) _
@[simp] theorem noLs_chg (xs : List Chg) : noLs (xs.map Chg.v) = true := noLs_map _ (by simp) _
theorem Fgr.v_inj : Function.Injective Fgr.v := by rintro ⟨⟩ ⟨⟩; simp
theorem Chg.v_inj : Function.Injective Chg.v := by rintro ⟨⟩ ⟨⟩; simp
def Fgr.lim (x : Fgr) : Prop := x.name.size ≤ TM.lim
def Chg.lim (x : Chg) : Prop := x.name.size ≤ TM.lim
def mkFgr (k : Int) (_ : Fgr) : Fgr := ⟨mtext k, k + 1, k + 1 + 1⟩
def cFgr (_ : Fgr) : Nat := 3
def mkChg (k : Int) (_ : Chg) : Chg := ⟨mtext k, k + 1⟩
def cChg (_ : Chg) : Nat := 2
end Go.TM
end
section
set_option maxHeartbeats 2000000
set_option linter.unusedSimpArgs false
set_option linter.unusedVariables false
namespace Go.TM.Tryz
open Go Go.TM Go.Proofs
def wU (a : Int) : Int := IntKind.u64.wrap a
def bU (a : Int) : Nat := (a % 2 ^ IntKind.u64.bits).toNat
def xorU (a b : Int) : Int := wU (bU a ^^^ bU b : Nat)
def andU (a : Int) : Int := wU (bU a &&& (4611686018427387903 % 2 ^ IntKind.u64.bits) : Nat)
def shrU (a : Int) (n : Nat) : Int := a.fdiv (2 ^ min n IntKind.u64.bits)
def mix1 (a b : Int) : Int := wU (wU (wU (wU a * 31) + wU (wU b * 131)) + 17)
def mix2 (x : Int) : Int := wU (xorU x (shrU x 29) * 1000003)
def mix3 (x : Int) : Int := IntKind.i64.wrap (andU (xorU x (shrU x 32)))
theorem mix_ex : ∃ f : Int → Int → Int, ∀ a b, f a b = mix3 (mix2 (mix1 a b)) := ⟨fun a b => mix3 (mix2 (mix1 a b)), fun _ _ => rfl⟩
noncomputable def mixI : Int → Int → Int := Classical.choose mix_ex
theorem mixI_eq (a b : Int) : mixI a b = mix3 (mix2 (mix1 a b)) := Classical.choose_spec mix_ex a b
theorem f129_ok (a b : Int) : FunOK Tryz.prog 129 [.int .i64 a, .int .i64 b] false (.int .i64 (mixI a b)) := by
  refine fun_ok (mkE_ok zmix (cl := []) (gl := []) [] trivial trivial) Tryz.func129 (by kernel_rfl) ?_
  refine FunW_run _ _ rfl rfl ?_
  simp [mixI_eq, mix3, mix2, mix1, xorU, andU, shrU, bU, wU]
noncomputable def c129 := ctr (fun _ : Int × Int => True) (fun a => [.int .i64 a.1, .int .i64 a.2]) (fun a => (false, .int .i64 (mixI a.1 a.2)))
theorem c129_eq (a b : Int) : c129 [.int .i64 a, .int .i64 b] = some (false, .int .i64 (mixI a b)) := ctr_eq (by rintro ⟨a, b⟩ ⟨c, d⟩ h; simp at h; rw [h.1, h.2]) (a, b) trivial rfl
theorem c129_ok : COK Tryz.prog (129, c129) := ctr_ok fun a _ => f129_ok a.1 a.2
theorem f114_ok (a b : Int) : FunOK Tryz.prog 114 [.int .i64 a, .int .i64 b] false (.int .i64 (mixI a b)) := by
  refine fun_ok (mkE_ok zmix (cl := []) (gl := []) [] trivial trivial) Tryz.func114 (by kernel_rfl) ?_
  refine FunW_run _ _ rfl rfl ?_
  simp [mixI_eq, mix3, mix2, mix1, xorU, andU, shrU, bU, wU]
noncomputable def c114 := ctr (fun _ : Int × Int => True) (fun a => [.int .i64 a.1, .int .i64 a.2]) (fun a => (false, .int .i64 (mixI a.1 a.2)))
theorem c114_eq (a b : Int) : c114 [.int .i64 a, .int .i64 b] = some (false, .int .i64 (mixI a b)) := ctr_eq (by rintro ⟨a, b⟩ ⟨c, d⟩ h; simp at h; rw [h.1, h.2]) (a, b) trivial rfl
theorem c114_ok : COK Tryz.prog (114, c114) := ctr_ok fun a _ => f114_ok a.1 a.2
end Go.TM.Tryz
end
section
set_option maxHeartbeats 2000000
set_option linter.unusedSimpArgs false
set_option linter.unusedVariables false
namespace Go.TM.Tryz
open Go Go.TM Go.Proofs
def sameParB (p q : Par) : Bool := decide (q.name = p.name)
theorem f95_ok (q p : Par) : FunOK Tryz.prog 95 [q.v, .ladr [p.v] 0 0] false (.bool (sameParB p q)) := by
  refine fun_ok (mkE_ok zmix (cl := []) (gl := []) [] trivial trivial) Tryz.func95 (by kernel_rfl) ?_
  refine FunW_run _ _ rfl rfl ?_
  simp [sameParB]
theorem inj95 {β : Type} (out : Par × Par → β) : ∀ a b : Par × Par, [a.1.v, .ladr [a.2.v] 0 0] = [b.1.v, .ladr [b.2.v] 0 0] → out a = out b := by
  rintro ⟨a, c⟩ ⟨b, d⟩ h
  simp only [List.cons.injEq, and_true, V.ladr.injEq] at h
  rw [Par.v_inj h.1, Par.v_inj h.2]
noncomputable def c95 := ctr (fun _ : Par × Par => True) (fun a => [a.1.v, .ladr [a.2.v] 0 0]) (fun a => (false, .bool (sameParB a.2 a.1)))
theorem c95_eq (q p : Par) : c95 [q.v, .ladr [p.v] 0 0] = some (false, .bool (sameParB p q)) := ctr_eq (inj95 _) (q, p) trivial rfl
theorem c95_ok : COK Tryz.prog (95, c95) := ctr_ok fun a h => f95_ok a.1 a.2
theorem f128_ok (l : List Par) (p : Par) (hl : l.length ≤ lim) : FunOK Tryz.prog 128 [.lst (l.map Par.v), .fn 95 [.ladr [p.v] 0 0]] false (.int .i64 (fstI (sameParB p) l)) := by
  refine fun_ok (mkE_ok zmix (cl := [(95, c95)]) (gl := []) [] c95_ok trivial) Tryz.func128 (by kernel_rfl) ?_
  refine FunW_run _ _ rfl rfl ?_
  simp only [lim] at hl
  simp
  refine lp_list l (fun i t => t.e 1 = .fn 95 [.ladr [p.v] 0 0] ∧ t.e 0 = .lst (l.map Par.v) ∧ t.e 7 = .int .i64 l.length ∧ t.e 8 = .int .i64 i ∧ anyI (sameParB p) l i = false) ?_ ?_ ?_
  · simp
  · rintro c' L hL i t x hx hi ih ⟨h1, h7, h8, h9, hall⟩
    have hw : IntKind.i64.wrap ((i : Int) + 1) = ((i + 1 : Nat) : Int) := wrap64 (by omega) (by omega)
    have e := c95_eq x p
    simp only [Par.v] at e
    simp [-getElem?_pos, List.getElem?_cons_zero, h1, h7, h8, h9, hL, hi, hx, e]
    split
    · rename_i hc
      exact (fst_yes hx hc hall).symm
    · rename_i hc
      refine ih _ ?_
      simp [h1, h7, h8, h9, hw, anyI_succ hx, hall, hc]
  · rintro c' t ⟨h1, h7, h8, h9, hall⟩
    simp [h1, h7, h8, h9, fst_no hall]
theorem inj128 {β : Type} (out : List Par × Par → β) : ∀ a b : List Par × Par, [V.lst (a.1.map Par.v), .fn 95 [.ladr [a.2.v] 0 0]] = [V.lst (b.1.map Par.v), .fn 95 [.ladr [b.2.v] 0 0]] → out a = out b := by
  rintro ⟨a, c⟩ ⟨b, d⟩ h
  simp only [List.cons.injEq, and_true, V.ladr.injEq, V.fn.injEq, true_and, V.lst.injEq] at h
  rw [map_inj Par.v_inj h.1, Par.v_inj h.2]
noncomputable def c128 := ctr (fun a : List Par × Par => a.1.length ≤ lim) (fun a => [.lst (a.1.map Par.v), .fn 95 [.ladr [a.2.v] 0 0]]) (fun a => (false, .int .i64 (fstI (sameParB a.2) a.1)))
theorem c128_eq (l : List Par) (p : Par) (h : l.length ≤ lim) : c128 [.lst (l.map Par.v), .fn 95 [.ladr [p.v] 0 0]] = some (false, .int .i64 (fstI (sameParB p) l)) := ctr_eq (inj128 _) (l, p) h rfl
theorem c128_ok : COK Tryz.prog (128, c128) := ctr_ok fun a h => f128_ok a.1 a.2 h
theorem f94_ok (l : List Par) (p : Par) (hl : l.length ≤ lim) : FunOK Tryz.prog 94 [.lst (l.map Par.v), .fn 95 [.ladr [p.v] 0 0]] false (.bool (l.any (sameParB p))) := by
  refine fun_ok (mkE_ok zmix (cl := [(128, c128)]) (gl := []) [] c128_ok trivial) Tryz.func94 (by kernel_rfl) ?_
  refine FunW_run _ _ rfl rfl ?_
  have e := c128_eq l p hl
  simp only [Par.v] at e
  simp [e, fst_ge]
noncomputable def c94 := ctr (fun a : List Par × Par => a.1.length ≤ lim) (fun a => [.lst (a.1.map Par.v), .fn 95 [.ladr [a.2.v] 0 0]]) (fun a => (false, .bool (a.1.any (sameParB a.2))))
theorem c94_eq (l : List Par) (p : Par) (h : l.length ≤ lim) : c94 [.lst (l.map Par.v), .fn 95 [.ladr [p.v] 0 0]] = some (false, .bool (l.any (sameParB p))) := ctr_eq (inj128 _) (l, p) h rfl
theorem c94_ok : COK Tryz.prog (94, c94) := ctr_ok fun a h => f94_ok a.1 a.2 h
theorem f93_ok (l : List Ty) (n : Int) (hl : l.length ≤ lim) : FunOK Tryz.prog 93 [.lst (l.map Ty.v), .int .i64 n] false (.bool (inB n 0 (l.length - 1))) := by
  refine fun_ok (mkE_ok zmix (cl := [(90, c90)]) (gl := []) [] c90_ok trivial) Tryz.func93 (by kernel_rfl) ?_
  refine FunW_run _ _ rfl rfl ?_
  simp only [lim] at hl
  have hw : IntKind.i64.wrap ((l.length : Int) - 1) = l.length - 1 := wrap64 (by omega) (by omega)
  simp [c90_eq, hw]
noncomputable def c93 := ctr (fun a : List Ty × Int => a.1.length ≤ lim) (fun a => [.lst (a.1.map Ty.v), .int .i64 a.2]) (fun a => (false, .bool (inB a.2 0 (a.1.length - 1))))
theorem c93_eq (l : List Ty) (n : Int) (h : l.length ≤ lim) : c93 [.lst (l.map Ty.v), .int .i64 n] = some (false, .bool (inB n 0 (l.length - 1))) := ctr_eq (injl1 Ty.v_inj _) (l, n) h rfl
theorem c93_ok : COK Tryz.prog (93, c93) := ctr_ok fun a h => f93_ok a.1 a.2 h
theorem f96_ok (n : Int) : FunOK Tryz.prog 96 [.int .i64 n] false (.bool (inB n (-1000000000) 1000000000)) := by
  refine fun_ok (mkE_ok zmix (cl := [(90, c90)]) (gl := []) [] c90_ok trivial) Tryz.func96 (by kernel_rfl) ?_
  refine FunW_run _ _ rfl rfl ?_
  simp [c90_eq]
noncomputable def c96 := ctr (fun _ : Int => True) (fun n => [.int .i64 n]) (fun n => (false, .bool (inB n (-1000000000) 1000000000)))
theorem c96_eq (n : Int) : c96 [.int .i64 n] = some (false, .bool (inB n (-1000000000) 1000000000)) := ctr_eq (by simp) n trivial rfl
theorem c96_ok : COK Tryz.prog (96, c96) := ctr_ok fun n _ => f96_ok n
end Go.TM.Tryz
end
section
set_option maxHeartbeats 2000000
set_option linter.unusedSimpArgs false
set_option linter.unusedVariables false
namespace Go.TM.Tryz
open Go Go.TM Go.Proofs
def sameUseB (u x : Use) : Bool := decide (u.mod = x.mod) && decide (u.name = x.name)
theorem f98_ok (l : List Use) (u : Use) (hl : l.length ≤ lim) : FunOK Tryz.prog 98 [.lst (l.map Use.v), u.v] false (.int .i64 (fstI (sameUseB u) l)) := by
  refine fun_ok (mkE_ok zmix (cl := []) (gl := []) [] trivial trivial) Tryz.func98 (by kernel_rfl) ?_
  refine FunW_run _ _ rfl rfl ?_
  simp only [lim] at hl
  simp
  refine lp_list l (fun i t => t.e 3 = .ptr 0 0 ∧ t.B 0 = some u.v ∧ t.e 0 = .lst (l.map Use.v) ∧ t.e 7 = .int .i64 l.length ∧ t.e 8 = .int .i64 i ∧ anyI (sameUseB u) l i = false) ?_ ?_ ?_
  · simp
  · rintro c' L hL i t x hx hi ih ⟨h1, hB, h7, h8, h9, hall⟩
    have hw : IntKind.i64.wrap ((i : Int) + 1) = ((i + 1 : Nat) : Int) := wrap64 (by omega) (by omega)
    simp only [Use.v] at hB
    simp [-getElem?_pos, List.getElem?_cons_zero, h1, hB, h7, h8, h9, hL, hi, hx]
    split
    · rename_i hc
      exact (fst_yes hx (by simp [sameUseB, hc]) hall).symm
    · rename_i hc
      refine ih _ ?_
      simp [h1, hB, h7, h8, h9, hw, anyI_succ hx, hall]
      simpa [sameUseB] using hc
  · rintro c' t ⟨h1, hB, h7, h8, h9, hall⟩
    simp [h1, h7, h8, h9, fst_no hall]
theorem inj98 {β : Type} (out : List Use × Use → β) : ∀ a b : List Use × Use, [V.lst (a.1.map Use.v), a.2.v] = [V.lst (b.1.map Use.v), b.2.v] → out a = out b := by
  rintro ⟨a, c⟩ ⟨b, d⟩ h
  simp only [List.cons.injEq, and_true, V.lst.injEq] at h
  rw [map_inj Use.v_inj h.1, Use.v_inj h.2]
noncomputable def c98 := ctr (fun a : List Use × Use => a.1.length ≤ lim) (fun a => [.lst (a.1.map Use.v), a.2.v]) (fun a => (false, .int .i64 (fstI (sameUseB a.2) a.1)))
theorem c98_eq (l : List Use) (u : Use) (h : l.length ≤ lim) : c98 [.lst (l.map Use.v), u.v] = some (false, .int .i64 (fstI (sameUseB u) l)) := ctr_eq (inj98 _) (l, u) h rfl
theorem c98_ok : COK Tryz.prog (98, c98) := ctr_ok fun a h => f98_ok a.1 a.2 h
theorem f63_ok (l : List Use) (u : Use) (hl : l.length ≤ lim) : FunOK Tryz.prog 63 [.lst (l.map Use.v), u.v] false (.bool (l.any (sameUseB u))) := by
  refine fun_ok (mkE_ok zmix (cl := [(98, c98)]) (gl := []) [] c98_ok trivial) Tryz.func63 (by kernel_rfl) ?_
  refine FunW_run _ _ rfl rfl ?_
  have e := c98_eq l u hl
  simp only [Use.v] at e
  simp [e, fst_ge]
noncomputable def c63 := ctr (fun a : List Use × Use => a.1.length ≤ lim) (fun a => [.lst (a.1.map Use.v), a.2.v]) (fun a => (false, .bool (a.1.any (sameUseB a.2))))
theorem c63_eq (l : List Use) (u : Use) (h : l.length ≤ lim) : c63 [.lst (l.map Use.v), u.v] = some (false, .bool (l.any (sameUseB u))) := ctr_eq (inj98 _) (l, u) h rfl
theorem c63_ok : COK Tryz.prog (63, c63) := ctr_ok fun a h => f63_ok a.1 a.2 h
/-! ### spec.l4At -/
theorem f50_ok (s : Scp) (n : ByteArray) (hl : s.objects.length ≤ lim) : FunOK Tryz.prog 50 [s.v, .str n] false (.int .i64 (fstI (fun o => decide (o.name = n)) s.objects)) := by
  refine fun_ok (mkE_ok zmix (cl := []) (gl := []) [] trivial trivial) Tryz.func50 (by kernel_rfl) ?_
  refine FunW_run _ _ rfl rfl ?_
  simp only [lim] at hl
  simp
  refine lp_list s.objects (fun i t => t.e 1 = .str n ∧ t.e 8 = .lst (s.objects.map Obj.v) ∧ t.e 9 = .int .i64 s.objects.length ∧ t.e 10 = .int .i64 i ∧ anyI (fun o => decide (o.name = n)) s.objects i = false) ?_ ?_ ?_
  · simp
  · rintro c' L hL i t x hx hi ih ⟨h1, h7, h8, h9, hall⟩
    have hw : IntKind.i64.wrap ((i : Int) + 1) = ((i + 1 : Nat) : Int) := wrap64 (by omega) (by omega)
    simp [-getElem?_pos, List.getElem?_cons_zero, h1, h7, h8, h9, hL, hi, hx]
    split
    · rename_i hc
      exact (fst_yes hx (by simp [hc]) hall).symm
    · rename_i hc
      refine ih _ ?_
      simp [h1, h7, h8, h9, hw, anyI_succ hx, hall, hc]
  · rintro c' t ⟨h1, h7, h8, h9, hall⟩
    simp [h1, h7, h8, h9, fst_no hall]
theorem inj50 {β : Type} (out : Scp × ByteArray → β) : ∀ a b : Scp × ByteArray, [a.1.v, .str a.2] = [b.1.v, .str b.2] → out a = out b := by
  rintro ⟨a, c⟩ ⟨b, d⟩ h
  simp only [List.cons.injEq, and_true, V.str.injEq] at h
  rw [Scp.v_inj h.1, h.2]
noncomputable def c50 := ctr (fun a : Scp × ByteArray => a.1.objects.length ≤ lim) (fun a => [a.1.v, .str a.2]) (fun a => (false, .int .i64 (fstI (fun o => decide (o.name = a.2)) a.1.objects)))
theorem c50_eq (s : Scp) (n : ByteArray) (h : s.objects.length ≤ lim) : c50 [s.v, .str n] = some (false, .int .i64 (fstI (fun o => decide (o.name = n)) s.objects)) := ctr_eq (inj50 _) (s, n) h rfl
theorem c50_ok : COK Tryz.prog (50, c50) := ctr_ok fun a h => f50_ok a.1 a.2 h
/-! ### spec.l4Params -/
def parAt (n : Int) (l : List Par) (i : Nat) (p : Par) : Bool := nameB p.name && inB p.type 0 (n - 1) && !(l.take i).any (sameParB p)
def parsB (n : Int) (l : List Par) : Bool := allI (parAt n l) l l.length && decide (l.length ≤ 4)
theorem f80_ok (ts : List Ty) (l : List Par) (ht : ts.length ≤ lim) (hl : limL Par.lim l) : FunOK Tryz.prog 80 [.lst (ts.map Ty.v), .lst (l.map Par.v)] false (.bool (parsB ts.length l)) := by
  refine fun_ok (mkE_ok zmix (cl := [(47, c47), (79, c79)]) (gl := []) [] ⟨c47_ok, c79_ok⟩ trivial) Tryz.func80 (by kernel_rfl) ?_
  refine FunW_run _ _ rfl rfl ?_
  have hlen := hl.1
  simp only [lim] at ht hlen
  have hwt : IntKind.i64.wrap ((ts.length : Int) - 1) = ts.length - 1 := wrap64 (by omega) (by omega)
  simp
  refine lp_list l (fun i t => t.e 0 = .lst (ts.map Ty.v) ∧ t.e 1 = .lst (l.map Par.v) ∧ t.e 9 = .lst (l.map Par.v) ∧ t.e 10 = .int .i64 l.length ∧ t.e 11 = .int .i64 i ∧ allI (parAt ts.length l) l i = true) ?_ ?_ ?_
  · simp
  · rintro c' L hL i t x hx hi ih ⟨h0, h1, h9, h10, h11, hall⟩
    have hw : IntKind.i64.wrap ((i : Int) + 1) = ((i + 1 : Nat) : Int) := wrap64 (by omega) (by omega)
    have e1 := c47_eq x.name (hl.2 x (List.mem_of_getElem? hx))
    by_cases hc : nameB x.name = true ∧ inB x.type 0 (ts.length - 1) = true
    · have hle : i ≤ l.length := Nat.le_of_lt hi
      have hmin : min i l.length = i := Nat.min_eq_left hle
      simp [-getElem?_pos, List.getElem?_cons_zero, h0, h1, h9, h10, h11, hi, hx, e1, hwt, c79_eq, hc.1, hc.2, hle, hmin]
      refine lp_list (l.take i) (fun j t' => t'.e 0 = .lst (ts.map Ty.v) ∧ t'.e 1 = .lst (l.map Par.v) ∧ t'.e 9 = .lst (l.map Par.v) ∧ t'.e 10 = .int .i64 l.length ∧ t'.e 11 = .int .i64 i ∧ t'.e 6 = .ptr t.nb 0 ∧ t'.B t.nb = some x.v ∧ t.nb < t'.nb ∧
        t'.e 31 = .lst ((l.take i).map Par.v) ∧ t'.e 32 = .int .i64 i ∧ t'.e 33 = .int .i64 j ∧ anyI (sameParB x) (l.take i) j = false) ?_ ?_ ?_
      · simp [h0, h1, h9, h10, h11]
      · rintro d' L' hL' j t' q hq hj ih' ⟨g0, g1, g9, g10, g11, g6, gB, gnb, g31, g32, g33, gall⟩
        have hji : j < i := by rw [List.length_take] at hj; omega
        have hq' : l[j]? = some q := by rw [List.getElem?_take, if_pos hji] at hq; exact hq
        have hw' : IntKind.i64.wrap ((j : Int) + 1) = ((j + 1 : Nat) : Int) := wrap64 (by omega) (by omega)
        have hnb : ¬ t.nb = t'.nb := by omega
        have hjl : j < l.length := by omega
        simp only [Par.v] at gB
        simp [-getElem?_pos, List.getElem?_cons_zero, List.getElem?_take, g0, g1, g9, g10, g11, g6, gB, g31, g32, g33, hji, hmin, hq', hL', hnb]
        split
        · rename_i hn
          have : (l.take i).any (sameParB x) = true := any_yes hq (by simp [sameParB, hn])
          have hno := allI_no (p := parAt ts.length l) hx (by simp [parAt, this])
          simp [parsB, hno]
        · rename_i hn
          refine ih' _ ?_
          simp [g0, g1, g9, g10, g11, g6, gB, g31, g32, g33, hnb, hw', anyI_succ hq, gall, sameParB]
          exact ⟨by omega, fun h => hn h.symm⟩
      · rintro d' t' ⟨g0, g1, g9, g10, g11, g6, gB, gnb, g31, g32, g33, gall⟩
        rw [List.length_take, hmin] at g33
        rw [anyI_all] at gall
        simp [g0, g1, g9, g10, g11, g6, gB, g31, g32, g33, hL]
        refine ih _ ?_
        simp [g0, g1, g9, g10, g11, hw, allI_succ hx, hall, parAt, hc.1, hc.2]
        simpa using gall
    · have hno := allI_no (p := parAt ts.length l) hx (by
        unfold parAt
        simp only [not_and, Bool.not_eq_true] at hc
        cases h : nameB x.name with
        | true => simp [hc h]
        | false => simp)
      simp only [not_and, Bool.not_eq_true] at hc
      cases h : nameB x.name with
      | true =>
        rw [h] at e1
        simp [-getElem?_pos, List.getElem?_cons_zero, h0, h1, h9, h10, h11, hi, hx, e1, hwt, c79_eq, hc h, parsB, hno]
      | false =>
        rw [h] at e1
        simp [-getElem?_pos, List.getElem?_cons_zero, h0, h1, h9, h10, h11, hi, hx, e1, hwt, c79_eq, parsB, hno]
  · rintro c' t ⟨h0, h1, h9, h10, h11, hall⟩
    simp [h0, h1, h9, h10, h11, parsB, hall]
    omega
end Go.TM.Tryz
end
section
set_option maxHeartbeats 2000000
set_option linter.unusedSimpArgs false
set_option linter.unusedVariables false
namespace Go.TM.Tryz
open Go Go.TM Go.Proofs
theorem inj80 {β : Type} (out : List Ty × List Par → β) : ∀ a b : List Ty × List Par, [V.lst (a.1.map Ty.v), .lst (a.2.map Par.v)] = [V.lst (b.1.map Ty.v), .lst (b.2.map Par.v)] → out a = out b := by
  rintro ⟨a, c⟩ ⟨b, d⟩ h
  simp only [List.cons.injEq, and_true, V.lst.injEq] at h
  rw [map_inj Ty.v_inj h.1, map_inj Par.v_inj h.2]
noncomputable def c80 := ctr (fun a : List Ty × List Par => a.1.length ≤ lim ∧ limL Par.lim a.2) (fun a => [.lst (a.1.map Ty.v), .lst (a.2.map Par.v)]) (fun a => (false, .bool (parsB a.1.length a.2)))
theorem c80_eq (ts : List Ty) (l : List Par) (h : ts.length ≤ lim) (h2 : limL Par.lim l) : c80 [.lst (ts.map Ty.v), .lst (l.map Par.v)] = some (false, .bool (parsB ts.length l)) := ctr_eq (inj80 _) (ts, l) ⟨h, h2⟩ rfl
theorem c80_ok : COK Tryz.prog (80, c80) := ctr_ok fun a h => f80_ok a.1 a.2 h.1 h.2
def objKind (n : Int) (o : Obj) : Bool :=
  if o.kind = 1 then decide (o.type = 0) && inB o.value (-1000000000) 1000000000
  else if o.kind = 2 ∨ o.kind = 3 then inB o.type 0 (n - 1)
  else decide (o.kind = 4) && inB o.type (-1) (n - 1) && parsB n o.params
def objB (n : Int) (o : Obj) : Bool :=
  nameB o.name && inB o.mark 0 2 && !(decide (o.mark = 2) && !decide (o.kind = 3)) && !(!decide (o.kind = 1) && !decide (o.value = 0)) && !(!decide (o.kind = 4) && decide (0 < o.params.length)) && objKind n o
theorem f49_ok (ts : List Ty) (o : Obj) (ht : ts.length ≤ lim) (hl : o.lim) : FunOK Tryz.prog 49 [.lst (ts.map Ty.v), o.v] false (.bool (objB ts.length o)) := by
  refine fun_ok (mkE_ok zmix (cl := [(47, c47), (79, c79), (80, c80)]) (gl := []) [] ⟨c47_ok, c79_ok, c80_ok⟩ trivial) Tryz.func49 (by kernel_rfl) ?_
  refine FunW_run _ _ rfl rfl ?_
  have e2 := c80_eq ts o.params ht hl.2
  have e1 := c47_eq o.name hl.1
  simp only [lim] at ht
  have hwt : IntKind.i64.wrap ((ts.length : Int) - 1) = ts.length - 1 := wrap64 (by omega) (by omega)
  have hlen : (0 < o.params.length) = ¬ (o.params = []) := by cases o.params <;> simp
  by_cases k1 : o.kind = 1
  · simp [e1, e2, c79_eq, hwt, k1, objB, objKind, hlen]
    clear e1 e2 hl
    cases nameB o.name <;> cases inB o.mark 0 2 <;> cases inB o.value (-1000000000) 1000000000 <;> by_cases m : o.mark = 2 <;> by_cases p : o.params = [] <;> by_cases q : o.type = 0 <;> simp [m, p, q]
  · by_cases k2 : o.kind = 2
    · simp [e1, e2, c79_eq, hwt, k2, objB, objKind, hlen]
      clear e1 e2 hl
      cases nameB o.name <;> cases inB o.mark 0 2 <;> cases inB o.type 0 (ts.length - 1) <;> by_cases m : o.mark = 2 <;> by_cases p : o.params = [] <;> by_cases q : o.value = 0 <;> simp [m, p, q]
    · by_cases k3 : o.kind = 3
      · simp [e1, e2, c79_eq, hwt, k3, objB, objKind, hlen]
        clear e1 e2 hl
        cases nameB o.name <;> cases inB o.mark 0 2 <;> cases inB o.type 0 (ts.length - 1) <;> by_cases m : o.mark = 2 <;> by_cases p : o.params = [] <;> by_cases q : o.value = 0 <;> simp [m, p, q]
      · by_cases k4 : o.kind = 4
        · simp [e1, e2, c79_eq, hwt, k4, objB, objKind, hlen]
          clear e1 e2 hl
          cases nameB o.name <;> cases inB o.mark 0 2 <;> cases inB o.type (-1) (ts.length - 1) <;> cases parsB ts.length o.params <;> by_cases m : o.mark = 2 <;> by_cases q : o.value = 0 <;> simp [m, q]
        · simp [e1, e2, c79_eq, hwt, k1, k2, k3, k4, objB, objKind, hlen]
noncomputable def c49 := ctr (fun a : List Ty × Obj => a.1.length ≤ lim ∧ a.2.lim) (fun a => [.lst (a.1.map Ty.v), a.2.v]) (fun a => (false, .bool (objB a.1.length a.2)))
theorem inj49 {β : Type} (out : List Ty × Obj → β) : ∀ a b : List Ty × Obj, [V.lst (a.1.map Ty.v), a.2.v] = [V.lst (b.1.map Ty.v), b.2.v] → out a = out b := by
  rintro ⟨a, c⟩ ⟨b, d⟩ h
  simp only [List.cons.injEq, and_true, V.lst.injEq] at h
  rw [map_inj Ty.v_inj h.1, Obj.v_inj h.2]
theorem c49_eq (ts : List Ty) (o : Obj) (h : ts.length ≤ lim) (h2 : o.lim) : c49 [.lst (ts.map Ty.v), o.v] = some (false, .bool (objB ts.length o)) := ctr_eq (inj49 _) (ts, o) ⟨h, h2⟩ rfl
theorem c49_ok : COK Tryz.prog (49, c49) := ctr_ok fun a h => f49_ok a.1 a.2 h.1 h.2
/-! ### impl.isObject -/
def objIKind (n : Int) (o : Obj) : Bool :=
  if o.kind = 1 then decide (o.type = 0) && inB o.value (-1000000000) 1000000000
  else if o.kind = 2 ∨ o.kind = 3 then inB o.type 0 (n - 1) && decide (o.value = 0)
  else decide (o.kind = 4) && (decide (o.type = -1) || inB o.type 0 (n - 1)) && decide (o.value = 0)
def parIAt (n : Int) (l : List Par) (i : Nat) (p : Par) : Bool := nameB p.name && inB p.type 0 (n - 1) && !(l.take i).any (sameParB p)
def objIHead (o : Obj) : Bool := inB o.mark 0 2 && !(decide (o.mark = 2) && !decide (o.kind = 3)) && decide (o.params.length ≤ 4) && !(!decide (o.kind = 4) && decide (0 < o.params.length))
theorem objIHead_no (o : Obj) : objIHead o = false ↔ (((inB o.mark 0 2 = false ∨ o.mark = 2 ∧ ¬o.kind = 3) ∨ 4 < (o.params.length : Int)) ∨ ¬o.kind = 4 ∧ 0 < o.params.length) := by
  unfold objIHead
  grind
theorem parIAt_no (n : Int) (l : List Par) (i : Nat) (x : Par) : parIAt n l i x = false ↔ ((nameB x.name = false ∨ inB x.type 0 (n - 1) = false) ∨ ∃ y, y ∈ List.take i l ∧ sameParB x y = true) := by
  unfold parIAt
  simp only [Bool.and_eq_false_iff, Bool.not_eq_false', List.any_eq_true]
def objIB (n : Int) (o : Obj) : Bool :=
  objIHead o && allI (parIAt n o.params) o.params o.params.length && objIKind n o
theorem f61_ok (s : Scp) (o : Obj) (ht : s.types.length ≤ lim) (hl : o.lim) : FunOK Tryz.prog 61 [.ladr [s.v] 0 0, o.v] false (.bool (objIB s.types.length o)) := by
  refine fun_ok (mkE_ok zmix (cl := [(57, c57), (90, c90), (93, c93), (94, c94), (96, c96)]) (gl := []) [] ⟨c57_ok, c90_ok, c93_ok, c94_ok, c96_ok⟩ trivial) Tryz.func61 (by kernel_rfl) ?_
  refine FunW_run _ _ rfl rfl ?_
  have hlen := hl.2.1
  have e77 := fun n => c93_eq s.types n ht
  simp only [lim] at hlen
  simp [c90_eq]
  split
  · rename_i hc
    simp [objIB, (objIHead_no o).2 hc]
  · rename_i hc
    refine lp_list o.params (fun i t => t.e 0 = .ladr [s.v] 0 0 ∧ t.e 3 = .ptr 0 0 ∧ t.B 0 = some o.v ∧ 1 ≤ t.nb ∧ t.e 39 = .lst (o.params.map Par.v) ∧ t.e 40 = .int .i64 o.params.length ∧ t.e 41 = .int .i64 i ∧ allI (parIAt s.types.length o.params) o.params i = true) ?_ ?_ ?_
    · simp
    · rintro c' L hL i t x hx hi ih ⟨h0, h3, hB, hnb, h39, h40, h41, hall⟩
      have hw : IntKind.i64.wrap ((i : Int) + 1) = ((i + 1 : Nat) : Int) := wrap64 (by omega) (by omega)
      have e1 := c57_eq x.name (hl.2.2 x (List.mem_of_getElem? hx))
      have e2 := c94_eq (o.params.take i) x (by simp only [List.length_take, lim]; omega)
      rw [List.map_take] at e2
      simp only [Par.v] at e2
      have hle : i ≤ o.params.length := Nat.le_of_lt hi
      have hn0 : ¬ 0 = t.nb := by omega
      have e7 := e77 x.type
      simp only [Obj.v] at hB
      simp [-getElem?_pos, List.getElem?_cons_zero, h0, h3, hB, h39, h40, h41, hL, hi, hx, e1, e2, e7, hle, hn0]
      split
      · rename_i hn
        have := allI_no hx ((parIAt_no s.types.length o.params i x).2 hn)
        simp [objIB, this]
      · rename_i hn
        have hy : parIAt s.types.length o.params i x = true := by rw [← Bool.not_eq_false, parIAt_no]; exact hn
        refine ih _ ?_
        simp [h0, h3, hB, h39, h40, h41, hn0, hw, allI_succ hx, hall, hy]
    · rintro c' t ⟨h0, h3, hB, hnb, h39, h40, h41, hall⟩
      simp only [Obj.v] at hB
      have hh : objIHead o = true := by rw [← Bool.not_eq_false, objIHead_no]; exact hc
      simp [h0, h3, hB, h39, h40, h41, e77, c96_eq, objIB, hall, hh]
      unfold objIKind
      grind
end Go.TM.Tryz
end
section
set_option maxHeartbeats 2000000
set_option linter.unusedSimpArgs false
set_option linter.unusedVariables false
namespace Go.TM.Tryz
open Go Go.TM Go.Proofs
noncomputable def c61 := ctr (fun a : Scp × Obj => a.1.types.length ≤ lim ∧ a.2.lim) (fun a => [.ladr [a.1.v] 0 0, a.2.v]) (fun a => (false, .bool (objIB a.1.types.length a.2)))
theorem inj61 {β : Type} (out : Scp × Obj → β) : ∀ a b : Scp × Obj, [V.ladr [a.1.v] 0 0, a.2.v] = [V.ladr [b.1.v] 0 0, b.2.v] → out a = out b := by
  rintro ⟨a, c⟩ ⟨b, d⟩ h
  simp only [List.cons.injEq, and_true, V.ladr.injEq] at h
  rw [Scp.v_inj h.1, Obj.v_inj h.2]
theorem c61_eq (s : Scp) (o : Obj) (h : s.types.length ≤ lim) (h2 : o.lim) : c61 [.ladr [s.v] 0 0, o.v] = some (false, .bool (objIB s.types.length o)) := ctr_eq (inj61 _) (s, o) ⟨h, h2⟩ rfl
theorem c61_ok : COK Tryz.prog (61, c61) := ctr_ok fun a h => f61_ok a.1 a.2 h.1 h.2
/-! ### fields -/
def sameFldB (p q : Fld) : Bool := decide (q.name = p.name)
theorem f172_ok (q : Fld) (p : Fld) : FunOK Tryz.prog 172 [q.v, .ladr [p.v] 0 0] false (.bool (sameFldB p q)) := by
  refine fun_ok (mkE_ok zmix (cl := []) (gl := []) [] trivial trivial) Tryz.func172 (by kernel_rfl) ?_
  refine FunW_run _ _ rfl rfl ?_
  simp [sameFldB]
theorem inj172 {β : Type} (out : Fld × Fld → β) : ∀ a b : Fld × Fld, [a.1.v, .ladr [a.2.v] 0 0] = [b.1.v, .ladr [b.2.v] 0 0] → out a = out b := by
  rintro ⟨a, c⟩ ⟨b, d⟩ h
  simp only [List.cons.injEq, and_true, V.ladr.injEq] at h
  rw [Fld.v_inj h.1, Fld.v_inj h.2]
noncomputable def c172 := ctr (fun _ : Fld × Fld => True) (fun a => [a.1.v, .ladr [a.2.v] 0 0]) (fun a => (false, .bool (sameFldB a.2 a.1)))
theorem c172_eq (q : Fld) (p : Fld) : c172 [q.v, .ladr [p.v] 0 0] = some (false, .bool (sameFldB p q)) := ctr_eq (inj172 _) (q, p) trivial rfl
theorem c172_ok : COK Tryz.prog (172, c172) := ctr_ok fun a h => f172_ok a.1 a.2
theorem f184_ok (l : List Fld) (p : Fld) (hl : l.length ≤ lim) : FunOK Tryz.prog 184 [.lst (l.map Fld.v), .fn 172 [.ladr [p.v] 0 0]] false (.int .i64 (fstI (sameFldB p) l)) := by
  refine fun_ok (mkE_ok zmix (cl := [(172, c172)]) (gl := []) [] c172_ok trivial) Tryz.func184 (by kernel_rfl) ?_
  refine FunW_run _ _ rfl rfl ?_
  simp only [lim] at hl
  simp
  refine lp_list l (fun i t => t.e 1 = .fn 172 [.ladr [p.v] 0 0] ∧ t.e 0 = .lst (l.map Fld.v) ∧ t.e 7 = .int .i64 l.length ∧ t.e 8 = .int .i64 i ∧ anyI (sameFldB p) l i = false) ?_ ?_ ?_
  · simp
  · rintro c' L hL i t x hx hi ih ⟨h1, h7, h8, h9, hall⟩
    have hw : IntKind.i64.wrap ((i : Int) + 1) = ((i + 1 : Nat) : Int) := wrap64 (by omega) (by omega)
    have e := c172_eq x p
    simp only [Fld.v, Fld.v] at e h1
    simp [-getElem?_pos, List.getElem?_cons_zero, h1, h7, h8, h9, hL, hi, hx, e]
    split
    · rename_i hc
      exact (fst_yes hx hc hall).symm
    · rename_i hc
      refine ih _ ?_
      simp [h1, h7, h8, h9, hw, anyI_succ hx, hall, hc]
  · rintro c' t ⟨h1, h7, h8, h9, hall⟩
    simp [h1, h7, h8, h9, fst_no hall]
theorem inj184 {β : Type} (out : List Fld × Fld → β) : ∀ a b : List Fld × Fld, [V.lst (a.1.map Fld.v), .fn 172 [.ladr [a.2.v] 0 0]] = [V.lst (b.1.map Fld.v), .fn 172 [.ladr [b.2.v] 0 0]] → out a = out b := by
  rintro ⟨a, c⟩ ⟨b, d⟩ h
  simp only [List.cons.injEq, and_true, V.ladr.injEq, V.fn.injEq, true_and, V.lst.injEq] at h
  rw [map_inj Fld.v_inj h.1, Fld.v_inj h.2]
noncomputable def c184 := ctr (fun a : List Fld × Fld => a.1.length ≤ lim) (fun a => [.lst (a.1.map Fld.v), .fn 172 [.ladr [a.2.v] 0 0]]) (fun a => (false, .int .i64 (fstI (sameFldB a.2) a.1)))
theorem c184_eq (l : List Fld) (p : Fld) (h : l.length ≤ lim) : c184 [.lst (l.map Fld.v), .fn 172 [.ladr [p.v] 0 0]] = some (false, .int .i64 (fstI (sameFldB p) l)) := ctr_eq (inj184 _) (l, p) h rfl
theorem c184_ok : COK Tryz.prog (184, c184) := ctr_ok fun a h => f184_ok a.1 a.2 h
theorem f171_ok (l : List Fld) (p : Fld) (hl : l.length ≤ lim) : FunOK Tryz.prog 171 [.lst (l.map Fld.v), .fn 172 [.ladr [p.v] 0 0]] false (.bool (l.any (sameFldB p))) := by
  refine fun_ok (mkE_ok zmix (cl := [(184, c184)]) (gl := []) [] c184_ok trivial) Tryz.func171 (by kernel_rfl) ?_
  refine FunW_run _ _ rfl rfl ?_
  have e := c184_eq l p hl
  simp only [Fld.v] at e
  simp [e, fst_ge]
noncomputable def c171 := ctr (fun a : List Fld × Fld => a.1.length ≤ lim) (fun a => [.lst (a.1.map Fld.v), .fn 172 [.ladr [a.2.v] 0 0]]) (fun a => (false, .bool (a.1.any (sameFldB a.2))))
theorem c171_eq (l : List Fld) (p : Fld) (h : l.length ≤ lim) : c171 [.lst (l.map Fld.v), .fn 172 [.ladr [p.v] 0 0]] = some (false, .bool (l.any (sameFldB p))) := ctr_eq (inj184 _) (l, p) h rfl
theorem c171_ok : COK Tryz.prog (171, c171) := ctr_ok fun a h => f171_ok a.1 a.2 h

def fldAt (n : Int) (l : List Fld) (i : Nat) (x : Fld) : Bool :=
  inB x.mark 0 2 && inB x.type 0 (n - 1) && (if x.name = ⟨#[]⟩ then decide (x.mark = 0) else nameB x.name && !(l.take i).any (sameFldB x))
def fldsB (n : Int) (l : List Fld) : Bool := allI (fldAt n l) l l.length && decide (l.length ≤ 6)
theorem f157_ok (x : Ty) (h : x.lim) : FunOK Tryz.prog 157 [x.v] false (.bool ((nameB x.name && nameB x.owner) || (decide (x.name = ⟨#[]⟩) && decide (x.owner = ⟨#[]⟩)))) := by
  refine fun_ok (mkE_ok zmix (cl := [(57, c57)]) (gl := []) [] c57_ok trivial) Tryz.func157 (by kernel_rfl) ?_
  refine FunW_run _ _ rfl rfl ?_
  simp [c57_eq _ h.2.1, c57_eq _ h.2.2]
noncomputable def c157 := ctr (fun x : Ty => x.lim) (fun x => [x.v]) (fun x => (false, .bool ((nameB x.name && nameB x.owner) || (decide (x.name = ⟨#[]⟩) && decide (x.owner = ⟨#[]⟩)))))
theorem c157_eq (x : Ty) (h : x.lim) : c157 [x.v] = some (false, .bool ((nameB x.name && nameB x.owner) || (decide (x.name = ⟨#[]⟩) && decide (x.owner = ⟨#[]⟩)))) := ctr_eq (inj0 Ty.v_inj _) x h rfl
theorem c157_ok : COK Tryz.prog (157, c157) := ctr_ok fun x h => f157_ok x h
/-- A type of a kind stands there. -/
def kindAt (l : List Ty) (n k : Int) : Bool := inB n 0 (l.length - 1) && (l[n.toNat]?).any fun x => decide (x.kind = k)
theorem inB_nat {n : Int} {m : Nat} (h : inB n 0 ((m : Int) - 1) = true) : 0 ≤ n ∧ n < m ∧ n.toNat < m ∧ (n.toNat : Int) = n := by
  simp only [inB, Bool.and_eq_true, decide_eq_true_eq] at h
  omega
theorem f158_ok (l : List Ty) (n : Int) (hl : l.length ≤ lim) : FunOK Tryz.prog 158 [.lst (l.map Ty.v), .int .i64 n] false (.bool (kindAt l n 5)) := by
  refine fun_ok (mkE_ok zmix (cl := [(93, c93)]) (gl := []) [] c93_ok trivial) Tryz.func158 (by kernel_rfl) ?_
  refine FunW_run _ _ rfl rfl ?_
  have e := c93_eq l n hl
  cases hb : inB n 0 (l.length - 1) with
  | true =>
    rw [hb] at e
    obtain ⟨h1, h2, h3, h4⟩ := inB_nat hb
    have hx := List.getElem?_eq_getElem h3
    simp [-getElem?_pos, List.getElem?_cons_zero, List.getElem?_cons_succ, e, hx, h1, h2, kindAt, hb]
    rfl
  | false =>
    rw [hb] at e
    cases hx : l[n.toNat]? <;> simp [-getElem?_pos, List.getElem?_cons_zero, List.getElem?_cons_succ, e, hx, kindAt, hb]
noncomputable def c158 := ctr (fun a : List Ty × Int => a.1.length ≤ lim) (fun a => [.lst (a.1.map Ty.v), .int .i64 a.2]) (fun a => (false, .bool (kindAt a.1 a.2 5)))
theorem c158_eq (l : List Ty) (n : Int) (h : l.length ≤ lim) : c158 [.lst (l.map Ty.v), .int .i64 n] = some (false, .bool (kindAt l n 5)) := ctr_eq (injl1 Ty.v_inj _) (l, n) h rfl
theorem c158_ok : COK Tryz.prog (158, c158) := ctr_ok fun a h => f158_ok a.1 a.2 h
end Go.TM.Tryz
end
section
set_option maxHeartbeats 2000000
set_option linter.unusedSimpArgs false
set_option linter.unusedVariables false
namespace Go.TM.Tryz
open Go Go.TM Go.Proofs
theorem f159_ok (ts : List Ty) (l : List Fld) (ht : ts.length ≤ lim) (hl : limL Fld.lim l) : FunOK Tryz.prog 159 [.lst (ts.map Ty.v), .lst (l.map Fld.v)] false (.bool (fldsB ts.length l)) := by
  refine fun_ok (mkE_ok zmix (cl := [(57, c57), (90, c90), (93, c93), (171, c171)]) (gl := []) [] ⟨c57_ok, c90_ok, c93_ok, c171_ok⟩ trivial) Tryz.func159 (by kernel_rfl) ?_
  refine FunW_run _ _ rfl rfl ?_
  have hlen := hl.1
  simp only [lim] at hlen
  simp
  refine lp_list l (fun i t => t.e 0 = .lst (ts.map Ty.v) ∧ t.e 1 = .lst (l.map Fld.v) ∧ t.e 7 = .lst (l.map Fld.v) ∧ t.e 8 = .int .i64 l.length ∧ t.e 9 = .int .i64 i ∧ allI (fldAt ts.length l) l i = true) ?_ ?_ ?_
  · simp
  · rintro c' L hL i t x hx hi ih ⟨h0, h1, h7, h8, h9, hall⟩
    have hw : IntKind.i64.wrap ((i : Int) + 1) = ((i + 1 : Nat) : Int) := wrap64 (by omega) (by omega)
    have e1 := c57_eq x.name (hl.2 x (List.mem_of_getElem? hx))
    have e2 := c171_eq (l.take i) x (by simp only [List.length_take, lim]; omega)
    rw [List.map_take] at e2
    simp only [Fld.v] at e2
    have e7 := c93_eq ts x.type ht
    have hle : i ≤ l.length := Nat.le_of_lt hi
    have fin : ∀ s', fldAt ts.length l i x = true → s'.e 0 = .lst (ts.map Ty.v) → s'.e 1 = .lst (l.map Fld.v) → s'.e 7 = .lst (l.map Fld.v) → s'.e 8 = .int .i64 l.length → s'.e 9 = .int .i64 ((i + 1 : Nat) : Int) → L s' := fun s' hy g0 g1 g7 g8 g9 =>
      ih s' ⟨g0, g1, g7, g8, g9, by rw [allI_succ hx, hall, hy]; rfl⟩
    have bad : fldAt ts.length l i x = false → fldsB ts.length l = false := fun hn => by
      have := allI_no hx hn
      simp [fldsB, this]
    simp [-getElem?_pos, List.getElem?_cons_zero, h0, h1, h7, h8, h9, hL, hi, hx, e1, e2, e7, c90_eq, hle]
    split
    · rename_i hc
      apply bad
      unfold fldAt
      rcases hc with hc | hc <;> simp [hc]
    · rename_i hc
      simp only [not_or, Bool.not_eq_false] at hc
      split
      · rename_i hn
        split
        · rename_i hm
          refine fin _ ?_ ?_ ?_ ?_ ?_ ?_ <;> simp [h0, h1, h7, h8, hw, fldAt, hc.1, hc.2, hn, hm]
          rfl
        · rename_i hm
          apply bad
          unfold fldAt
          simp [hc.1, hc.2, hn, hm]
      · rename_i hn
        split
        · rename_i hm
          apply bad
          unfold fldAt
          simp [hc.1, hc.2, hn]
          grind
        · rename_i hm
          refine fin _ ?_ ?_ ?_ ?_ ?_ ?_ <;> simp [h0, h1, h7, h8, hw, fldAt, hc.1, hc.2, hn]
          grind
  · rintro c' t ⟨h0, h1, h7, h8, h9, hall⟩
    simp [h0, h1, h7, h8, h9, fldsB, hall]
    omega
noncomputable def c159 := ctr (fun a : List Ty × List Fld => a.1.length ≤ lim ∧ limL Fld.lim a.2) (fun a => [.lst (a.1.map Ty.v), .lst (a.2.map Fld.v)]) (fun a => (false, .bool (fldsB a.1.length a.2)))
theorem inj159 {β : Type} (out : List Ty × List Fld → β) : ∀ a b : List Ty × List Fld, [V.lst (a.1.map Ty.v), .lst (a.2.map Fld.v)] = [V.lst (b.1.map Ty.v), .lst (b.2.map Fld.v)] → out a = out b := by
  rintro ⟨a, c⟩ ⟨b, d⟩ h
  simp only [List.cons.injEq, and_true, V.lst.injEq] at h
  rw [map_inj Ty.v_inj h.1, map_inj Fld.v_inj h.2]
theorem c159_eq (ts : List Ty) (l : List Fld) (h : ts.length ≤ lim) (h2 : limL Fld.lim l) : c159 [.lst (ts.map Ty.v), .lst (l.map Fld.v)] = some (false, .bool (fldsB ts.length l)) := ctr_eq (inj159 _) (ts, l) ⟨h, h2⟩ rfl
theorem c159_ok : COK Tryz.prog (159, c159) := ctr_ok fun a h => f159_ok a.1 a.2 h.1 h.2
end Go.TM.Tryz
end
section
set_option maxHeartbeats 2000000
set_option linter.unusedSimpArgs false
set_option linter.unusedVariables false
namespace Go.TM.Tryz
open Go Go.TM Go.Proofs
theorem aftQ_F3 {E : Env} (dr : Bool) (c a : V) (xc xa xb : Operand) (d : Option Tmp) (all : Array Oper) (os : List Oper) (k : List Fr) (Q : X → S → Prop) (s : S) :
    aftQ dr (some false) c a .bad xc xa xb d all os k E Q s = kont E (.ops dr all os :: k) Q .normal (s.put d (.cnd false .bad)) := by
  cases c <;> cases a <;> simp [aftQ]
def namedB (x : Ty) : Bool := (nameB x.name && nameB x.owner) || (decide (x.name = ⟨#[]⟩) && decide (x.owner = ⟨#[]⟩))
def typeKB (ts : List Ty) (x : Ty) : Bool :=
  if x.kind = 4 then inB x.long 1 1000 && inB x.base 0 (ts.length - 1)
  else if x.kind = 5 then decide (x.long = 0) && (decide (x.base = -1) || kindAt ts x.base 5) && fldsB ts.length x.fields
  else decide (x.kind = 6) && decide (x.long = 0) && (kindAt ts x.base 5 || kindAt ts x.base 4)
def typeB (ts : List Ty) (x : Ty) : Bool := namedB x && !(!decide (x.kind = 5) && decide (0 < x.fields.length)) && typeKB ts x
theorem f122_ok (ts : List Ty) (x : Ty) (ht : ts.length ≤ lim) (hl : x.lim) : FunOK Tryz.prog 122 [.lst (ts.map Ty.v), x.v] false (.bool (typeB ts x)) := by
  refine fun_ok (mkE_ok zmix (cl := [(90, c90), (93, c93), (157, c157), (158, c158), (159, c159)]) (gl := []) [] ⟨c90_ok, c93_ok, c157_ok, c158_ok, c159_ok⟩ trivial) Tryz.func122 (by kernel_rfl) ?_
  refine FunW_run _ _ rfl rfl ?_
  have e1 := c157_eq x hl
  have e2 := c159_eq ts x.fields ht hl.1
  have e3 := c158_eq ts x.base ht
  have e4 := c93_eq ts x.base ht
  rw [show ((nameB x.name && nameB x.owner) || (decide (x.name = ⟨#[]⟩) && decide (x.owner = ⟨#[]⟩))) = namedB x from rfl] at e1
  simp only [Ty.v] at e1
  have hk4 : ∀ y, ts[x.base.toNat]? = some y → kindAt ts x.base 4 = (inB x.base 0 (ts.length - 1) && decide (y.kind = 4)) := fun y hy => by simp [kindAt, hy]
  by_cases k4 : x.kind = 4
  · rw [k4] at e1
    simp [e1, e2, e3, e4, c90_eq, k4, typeB, typeKB]
    clear e1 e2 e3 e4 hk4 hl
    cases namedB x <;> cases hf : x.fields <;> simp
  · by_cases k5 : x.kind = 5
    · rw [k5] at e1
      simp [e1, e2, e3, e4, c90_eq, k4, k5, typeB, typeKB]
      clear e1 e2 e3 e4 hk4 hl
      grind
    · by_cases k6 : x.kind = 6
      · rw [k6] at e1
        cases hb : inB x.base 0 (ts.length - 1) with
        | true =>
          obtain ⟨h1, h2, h3, h4⟩ := inB_nat hb
          have hx := List.getElem?_eq_getElem h3
          have := hk4 _ hx
          rw [hb] at e4 this
          simp [-getElem?_pos, List.getElem?_cons_zero, List.getElem?_cons_succ, e1, e2, e3, e4, c90_eq, k4, k5, k6, typeB, typeKB, hx, h1, h2, this]
          clear e1 e2 e3 e4 hk4 hl
          grind
        | false =>
          have h4 : kindAt ts x.base 4 = false := by simp [kindAt, hb]
          have h5 : kindAt ts x.base 5 = false := by simp [kindAt, hb]
          rw [hb] at e4
          rw [h5] at e3
          have hb0 : x.long ≠ 0 → (x.long == 0) = false := fun h => beq_eq_false_iff_ne.2 h
          cases hx : ts[x.base.toNat]? <;> by_cases hl0 : x.long = 0 <;>
          · first | rw [hl0] at e1 | skip
            simp [hl0, hb0, aftQ_F3, -getElem?_pos, List.getElem?_cons_zero, List.getElem?_cons_succ, e1, e2, e3, e4, c90_eq, k4, k5, k6, typeB, typeKB, hx, h4, h5]
      · simp [e1, e2, e3, e4, c90_eq, k4, k5, k6, typeB, typeKB]
noncomputable def c122 := ctr (fun a : List Ty × Ty => a.1.length ≤ lim ∧ a.2.lim) (fun a => [.lst (a.1.map Ty.v), a.2.v]) (fun a => (false, .bool (typeB a.1 a.2)))
theorem inj122 {β : Type} (out : List Ty × Ty → β) : ∀ a b : List Ty × Ty, [V.lst (a.1.map Ty.v), a.2.v] = [V.lst (b.1.map Ty.v), b.2.v] → out a = out b := by
  rintro ⟨a, c⟩ ⟨b, d⟩ h
  simp only [List.cons.injEq, and_true, V.lst.injEq] at h
  rw [map_inj Ty.v_inj h.1, Ty.v_inj h.2]
theorem c122_eq (ts : List Ty) (x : Ty) (h : ts.length ≤ lim) (h2 : x.lim) : c122 [.lst (ts.map Ty.v), x.v] = some (false, .bool (typeB ts x)) := ctr_eq (inj122 _) (ts, x) ⟨h, h2⟩ rfl
theorem c122_ok : COK Tryz.prog (122, c122) := ctr_ok fun a h => f122_ok a.1 a.2 h.1 h.2
end Go.TM.Tryz
end
section
set_option maxHeartbeats 2000000
set_option linter.unusedSimpArgs false
set_option linter.unusedVariables false
namespace Go.TM.Tryz
open Go Go.TM Go.Proofs
theorem f60_ok (l : List ByteArray) (hl : l.length ≤ 1048576) : FunOK Tryz.prog 60 [.lst (l.map .str)] false (.inl 1 (l.map .str)) := by
  refine fun_ok (mkE_ok zmix (cl := []) (gl := []) [] trivial trivial) Tryz.func60 (by kernel_rfl) ?_
  refine FunW_run _ _ rfl rfl ?_
  have h1 : l.length * 16 ≤ 140737488355328 := by omega
  have h2 : l.length ≤ 4294967296 := by omega
  cases l with
  | nil => simp [room]
  | cons x xs => simp at h1 h2; simp [room, h1, h2]
noncomputable def c60 := ctr (fun l : List ByteArray => l.length ≤ 1048576) (fun l => [.lst (l.map .str)]) (fun l => (false, .inl 1 (l.map .str)))
theorem c60_eq (l : List ByteArray) (h : l.length ≤ 1048576) : c60 [.lst (l.map .str)] = some (false, .inl 1 (l.map .str)) := ctr_eq (injl str_inj _) l h rfl
theorem c60_ok : COK Tryz.prog (60, c60) := ctr_ok fun l h => f60_ok l h
end Go.TM.Tryz
end
section
set_option maxHeartbeats 2000000
set_option linter.unusedSimpArgs false
set_option linter.unusedVariables false
namespace Go.TM.Tryz
open Go Go.TM Go.Proofs
def fldEq (ys : List Fld) (i : Nat) (x : Fld) : Bool := (ys[i]?).any fun y => decide (x.name = y.name) && (x.mark == y.mark) && (x.type == y.type)
def fldsEq (xs ys : List Fld) : Bool := decide (xs.length = ys.length) && allI (fldEq ys) xs xs.length
theorem f155_ok (xs ys : List Fld) (hx : xs.length ≤ lim) (hy : ys.length ≤ lim) : FunOK Tryz.prog 155 [.lst (xs.map Fld.v), .lst (ys.map Fld.v)] false (.bool (fldsEq xs ys)) := by
  refine fun_ok (mkE_ok zmix (cl := []) (gl := []) [] trivial trivial) Tryz.func155 (by kernel_rfl) ?_
  refine FunW_run _ _ rfl rfl ?_
  simp only [lim] at hx hy
  by_cases hl : xs.length = ys.length
  · simp [hl]
    refine lp_list xs (fun i t => t.e 0 = .lst (xs.map Fld.v) ∧ t.e 1 = .lst (ys.map Fld.v) ∧ t.e 12 = .int .i64 xs.length ∧ t.e 13 = .int .i64 i ∧ allI (fldEq ys) xs i = true) ?_ ?_ ?_
    · simp [hl]
    · rintro c' L hL i t x hx' hi ih ⟨h0, h1, h12, h13, hall⟩
      have hw : IntKind.i64.wrap ((i : Int) + 1) = ((i + 1 : Nat) : Int) := wrap64 (by omega) (by omega)
      have hiy : i < ys.length := by omega
      have hy' := List.getElem?_eq_getElem hiy
      simp [-getElem?_pos, List.getElem?_cons_zero, h0, h1, h12, h13, hL, hi, hx', hy', hiy]
      split
      · rename_i hn
        have hno : fldEq ys i x = false := by
          simp only [fldEq, hy', Option.any_some]
          grind
        have := allI_no hx' hno
        simp [fldsEq, this]
      · rename_i hn
        have hyes : fldEq ys i x = true := by
          simp only [fldEq, hy', Option.any_some]
          grind
        refine ih _ ?_
        simp [h0, h1, h12, h13, hw, allI_succ hx', hall, hyes]
    · rintro c' t ⟨h0, h1, h12, h13, hall⟩
      rw [hl] at hall
      simp [h0, h1, h12, h13, fldsEq, hl, hall]
  · have hl' : ¬ (xs.length : Int) = ys.length := by omega
    simp [hl, hl', fldsEq]
noncomputable def c155 := ctr (fun a : List Fld × List Fld => a.1.length ≤ lim ∧ a.2.length ≤ lim) (fun a => [.lst (a.1.map Fld.v), .lst (a.2.map Fld.v)]) (fun a => (false, .bool (fldsEq a.1 a.2)))
theorem inj155 {β : Type} (out : List Fld × List Fld → β) : ∀ a b : List Fld × List Fld, [V.lst (a.1.map Fld.v), .lst (a.2.map Fld.v)] = [V.lst (b.1.map Fld.v), .lst (b.2.map Fld.v)] → out a = out b := by
  rintro ⟨a, c⟩ ⟨b, d⟩ h
  simp only [List.cons.injEq, and_true, V.lst.injEq] at h
  rw [map_inj Fld.v_inj h.1, map_inj Fld.v_inj h.2]
theorem c155_eq (xs ys : List Fld) (h : xs.length ≤ lim) (h2 : ys.length ≤ lim) : c155 [.lst (xs.map Fld.v), .lst (ys.map Fld.v)] = some (false, .bool (fldsEq xs ys)) := ctr_eq (inj155 _) (xs, ys) ⟨h, h2⟩ rfl
theorem c155_ok : COK Tryz.prog (155, c155) := ctr_ok fun a h => f155_ok a.1 a.2 h.1 h.2
end Go.TM.Tryz
end
section
set_option maxHeartbeats 2000000
set_option linter.unusedSimpArgs false
set_option linter.unusedVariables false
namespace Go.TM.Tryz
open Go Go.TM Go.Proofs
def tyEq (x y : Ty) : Bool := x.kind == y.kind && x.long == y.long && x.base == y.base && fldsEq x.fields y.fields && decide (x.owner = y.owner) && decide (x.name = y.name)
theorem f119_ok (x y : Ty) (hx : x.fields.length ≤ lim) (hy : y.fields.length ≤ lim) : FunOK Tryz.prog 119 [x.v, y.v] false (.bool (tyEq x y)) := by
  refine fun_ok (mkE_ok zmix (cl := [(155, c155)]) (gl := []) [] c155_ok trivial) Tryz.func119 (by kernel_rfl) ?_
  refine FunW_run _ _ rfl rfl ?_
  simp [c155_eq _ _ hx hy, tyEq]
def sameTyB (p q : Ty) : Bool := decide (q.name = p.name) && decide (q.owner = p.owner)
theorem f121_ok (q : Ty) (p : Ty) : FunOK Tryz.prog 121 [q.v, .ladr [p.v] 0 0] false (.bool (sameTyB p q)) := by
  refine fun_ok (mkE_ok zmix (cl := []) (gl := []) [] trivial trivial) Tryz.func121 (by kernel_rfl) ?_
  refine FunW_run _ _ rfl rfl ?_
  simp [sameTyB]
theorem inj121 {β : Type} (out : Ty × Ty → β) : ∀ a b : Ty × Ty, [a.1.v, .ladr [a.2.v] 0 0] = [b.1.v, .ladr [b.2.v] 0 0] → out a = out b := by
  rintro ⟨a, c⟩ ⟨b, d⟩ h
  simp only [List.cons.injEq, and_true, V.ladr.injEq] at h
  rw [Ty.v_inj h.1, Ty.v_inj h.2]
noncomputable def c121 := ctr (fun _ : Ty × Ty => True) (fun a => [a.1.v, .ladr [a.2.v] 0 0]) (fun a => (false, .bool (sameTyB a.2 a.1)))
theorem c121_eq (q : Ty) (p : Ty) : c121 [q.v, .ladr [p.v] 0 0] = some (false, .bool (sameTyB p q)) := ctr_eq (inj121 _) (q, p) trivial rfl
theorem c121_ok : COK Tryz.prog (121, c121) := ctr_ok fun a h => f121_ok a.1 a.2
theorem f156_ok (l : List Ty) (p : Ty) (hl : l.length ≤ lim) : FunOK Tryz.prog 156 [.lst (l.map Ty.v), .fn 121 [.ladr [p.v] 0 0]] false (.int .i64 (fstI (sameTyB p) l)) := by
  refine fun_ok (mkE_ok zmix (cl := [(121, c121)]) (gl := []) [] c121_ok trivial) Tryz.func156 (by kernel_rfl) ?_
  refine FunW_run _ _ rfl rfl ?_
  simp only [lim] at hl
  simp
  refine lp_list l (fun i t => t.e 1 = .fn 121 [.ladr [p.v] 0 0] ∧ t.e 0 = .lst (l.map Ty.v) ∧ t.e 7 = .int .i64 l.length ∧ t.e 8 = .int .i64 i ∧ anyI (sameTyB p) l i = false) ?_ ?_ ?_
  · simp
  · rintro c' L hL i t x hx hi ih ⟨h1, h7, h8, h9, hall⟩
    have hw : IntKind.i64.wrap ((i : Int) + 1) = ((i + 1 : Nat) : Int) := wrap64 (by omega) (by omega)
    have e := c121_eq x p
    simp only [Ty.v, Ty.v] at e h1
    simp [-getElem?_pos, List.getElem?_cons_zero, h1, h7, h8, h9, hL, hi, hx, e]
    split
    · rename_i hc
      exact (fst_yes hx hc hall).symm
    · rename_i hc
      refine ih _ ?_
      simp [h1, h7, h8, h9, hw, anyI_succ hx, hall, hc]
  · rintro c' t ⟨h1, h7, h8, h9, hall⟩
    simp [h1, h7, h8, h9, fst_no hall]
theorem inj156 {β : Type} (out : List Ty × Ty → β) : ∀ a b : List Ty × Ty, [V.lst (a.1.map Ty.v), .fn 121 [.ladr [a.2.v] 0 0]] = [V.lst (b.1.map Ty.v), .fn 121 [.ladr [b.2.v] 0 0]] → out a = out b := by
  rintro ⟨a, c⟩ ⟨b, d⟩ h
  simp only [List.cons.injEq, and_true, V.ladr.injEq, V.fn.injEq, true_and, V.lst.injEq] at h
  rw [map_inj Ty.v_inj h.1, Ty.v_inj h.2]
noncomputable def c156 := ctr (fun a : List Ty × Ty => a.1.length ≤ lim) (fun a => [.lst (a.1.map Ty.v), .fn 121 [.ladr [a.2.v] 0 0]]) (fun a => (false, .int .i64 (fstI (sameTyB a.2) a.1)))
theorem c156_eq (l : List Ty) (p : Ty) (h : l.length ≤ lim) : c156 [.lst (l.map Ty.v), .fn 121 [.ladr [p.v] 0 0]] = some (false, .int .i64 (fstI (sameTyB p) l)) := ctr_eq (inj156 _) (l, p) h rfl
theorem c156_ok : COK Tryz.prog (156, c156) := ctr_ok fun a h => f156_ok a.1 a.2 h
theorem f120_ok (l : List Ty) (p : Ty) (hl : l.length ≤ lim) : FunOK Tryz.prog 120 [.lst (l.map Ty.v), .fn 121 [.ladr [p.v] 0 0]] false (.bool (l.any (sameTyB p))) := by
  refine fun_ok (mkE_ok zmix (cl := [(156, c156)]) (gl := []) [] c156_ok trivial) Tryz.func120 (by kernel_rfl) ?_
  refine FunW_run _ _ rfl rfl ?_
  have e := c156_eq l p hl
  simp only [Ty.v] at e
  simp [e, fst_ge]
noncomputable def c120 := ctr (fun a : List Ty × Ty => a.1.length ≤ lim) (fun a => [.lst (a.1.map Ty.v), .fn 121 [.ladr [a.2.v] 0 0]]) (fun a => (false, .bool (a.1.any (sameTyB a.2))))
theorem c120_eq (l : List Ty) (p : Ty) (h : l.length ≤ lim) : c120 [.lst (l.map Ty.v), .fn 121 [.ladr [p.v] 0 0]] = some (false, .bool (l.any (sameTyB p))) := ctr_eq (inj156 _) (l, p) h rfl
theorem c120_ok : COK Tryz.prog (120, c120) := ctr_ok fun a h => f120_ok a.1 a.2 h
end Go.TM.Tryz
end
section
set_option maxHeartbeats 2000000
set_option linter.unusedSimpArgs false
set_option linter.unusedVariables false
namespace Go.TM.Tryz
open Go Go.TM Go.Proofs
noncomputable def c119 := ctr (fun a : Ty × Ty => a.1.lim ∧ a.2.lim) (fun a => [a.1.v, a.2.v]) (fun a => (false, .bool (tyEq a.1 a.2)))
theorem inj119 {β : Type} (out : Ty × Ty → β) : ∀ a b : Ty × Ty, [a.1.v, a.2.v] = [b.1.v, b.2.v] → out a = out b := by
  rintro ⟨a, c⟩ ⟨b, d⟩ h
  simp only [List.cons.injEq, and_true] at h
  rw [Ty.v_inj h.1, Ty.v_inj h.2]
theorem c119_eq (x y : Ty) (hx : x.lim) (hy : y.lim) : c119 [x.v, y.v] = some (false, .bool (tyEq x y)) := ctr_eq (inj119 _) (x, y) ⟨hx, hy⟩ rfl
theorem c119_ok : COK Tryz.prog (119, c119) := ctr_ok fun a h => f119_ok a.1 a.2 h.1.1.1 h.2.1.1
def tyAtEq (ys : List Ty) (i : Nat) (x : Ty) : Bool := (ys[i]?).any fun y => tyEq x y
def tysEq (xs ys : List Ty) : Bool := decide (xs.length = ys.length) && allI (tyAtEq ys) xs xs.length
theorem f118_ok (xs ys : List Ty) (hx : limL Ty.lim xs) (hy : limL Ty.lim ys) : FunOK Tryz.prog 118 [.lst (xs.map Ty.v), .lst (ys.map Ty.v), .fn 119 []] false (.bool (tysEq xs ys)) := by
  refine fun_ok (mkE_ok zmix (cl := [(119, c119)]) (gl := []) [] c119_ok trivial) Tryz.func118 (by kernel_rfl) ?_
  refine FunW_run _ _ rfl rfl ?_
  have h1 := hx.1
  have h2 := hy.1
  simp only [lim] at h1 h2
  by_cases hl : xs.length = ys.length
  · simp [hl]
    refine lp_list xs (fun i t => t.e 0 = .lst (xs.map Ty.v) ∧ t.e 1 = .lst (ys.map Ty.v) ∧ t.e 2 = .fn 119 [] ∧ t.e 15 = .lst (xs.map Ty.v) ∧ t.e 16 = .int .i64 xs.length ∧ t.e 17 = .int .i64 i ∧ allI (tyAtEq ys) xs i = true) ?_ ?_ ?_
    · simp [hl]
    · rintro c' L hL i t x hx' hi ih ⟨h0, h1, h2, h15, h16, h17, hall⟩
      have hw : IntKind.i64.wrap ((i : Int) + 1) = ((i + 1 : Nat) : Int) := wrap64 (by omega) (by omega)
      have hiy : i < ys.length := by omega
      have hy' := List.getElem?_eq_getElem hiy
      have e := c119_eq x ys[i] (hx.2 x (List.mem_of_getElem? hx')) (hy.2 _ (List.getElem_mem hiy))
      simp only [Ty.v] at e
      cases hq : tyEq x ys[i]
      · rw [hq] at e
        have hno : tyAtEq ys i x = false := by simp [tyAtEq, hy', hq]
        have := allI_no hx' hno
        simp [-getElem?_pos, List.getElem?_cons_zero, List.getElem?_cons_succ, h0, h1, h2, h15, h16, h17, hL, hi, hx', hy', hiy, e, tysEq, this]
      · rw [hq] at e
        have hyes : tyAtEq ys i x = true := by simp [tyAtEq, hy', hq]
        simp [-getElem?_pos, List.getElem?_cons_zero, List.getElem?_cons_succ, h0, h1, h2, h15, h16, h17, hL, hi, hx', hy', hiy, e]
        refine ih _ ?_
        simp [h0, h1, h2, h15, h16, h17, hw, allI_succ hx', hall, hyes]
    · rintro c' t ⟨h0, h1, h2, h15, h16, h17, hall⟩
      rw [hl] at hall
      simp [h0, h1, h2, h15, h16, h17, tysEq, hl, hall]
  · have hl' : ¬ (xs.length : Int) = ys.length := by omega
    simp [hl, hl', tysEq]
noncomputable def c118 := ctr (fun a : List Ty × List Ty => limL Ty.lim a.1 ∧ limL Ty.lim a.2) (fun a => [.lst (a.1.map Ty.v), .lst (a.2.map Ty.v), .fn 119 []]) (fun a => (false, .bool (tysEq a.1 a.2)))
theorem inj118 {β : Type} (out : List Ty × List Ty → β) : ∀ a b : List Ty × List Ty, [V.lst (a.1.map Ty.v), .lst (a.2.map Ty.v), .fn 119 []] = [V.lst (b.1.map Ty.v), .lst (b.2.map Ty.v), .fn 119 []] → out a = out b := by
  rintro ⟨a, c⟩ ⟨b, d⟩ h
  simp only [List.cons.injEq, and_true, V.lst.injEq] at h
  rw [map_inj Ty.v_inj h.1, map_inj Ty.v_inj h.2]
theorem c118_eq (xs ys : List Ty) (h : limL Ty.lim xs) (h2 : limL Ty.lim ys) : c118 [.lst (xs.map Ty.v), .lst (ys.map Ty.v), .fn 119 []] = some (false, .bool (tysEq xs ys)) := ctr_eq (inj118 _) (xs, ys) ⟨h, h2⟩ rfl
theorem c118_ok : COK Tryz.prog (118, c118) := ctr_ok fun a h => f118_ok a.1 a.2 h.1 h.2
def baseTys : List Ty := [⟨1, 0, -1, [], ⟨#[]⟩, ⟨#[73, 78, 84]⟩⟩, ⟨2, 0, -1, [], ⟨#[]⟩, ⟨#[66, 79, 79, 76]⟩⟩, ⟨3, 0, -1, [], ⟨#[]⟩, ⟨#[67, 72, 65, 82]⟩⟩]
theorem f117_ok : FunOK Tryz.prog 117 [] false (.inl 6 (baseTys.map Ty.o)) := by
  refine fun_ok (mkE_ok zmix (cl := []) (gl := []) [] trivial trivial) Tryz.func117 (by kernel_rfl) ?_
  refine FunW_run _ _ rfl rfl ?_
  simp [baseTys]
  rfl
end Go.TM.Tryz
end
section
set_option linter.unusedVariables false
namespace Go.TM
open Go
/-! ### what is reached -/
inductive Rch (nx : Int → List Int) (from_ : List Int) : Int → Prop
  | base {n : Int} : n ∈ from_ → Rch nx from_ n
  | step {n k : Int} : Rch nx from_ n → k ∈ nx n → Rch nx from_ k
section
variable {nx : Int → List Int}
theorem Rch.mono {a b : List Int} (h : ∀ x ∈ a, Rch nx b x) {x : Int} (hx : Rch nx a x) : Rch nx b x := by
  induction hx with
  | base h1 => exact h _ h1
  | step _ h2 ih => exact .step ih h2
/-- One puts n into a rising list. -/
def putI (out : List Int) (n : Int) : List Int :=
  if n ∈ out then out else out.takeWhile (fun x => decide (x < n)) ++ n :: out.dropWhile (fun x => decide (x < n))
theorem mem_putI {out : List Int} {n x : Int} : x ∈ putI out n ↔ x = n ∨ x ∈ out := by
  unfold putI
  split
  · rename_i h
    constructor
    · exact .inr
    · rintro (rfl | h1)
      · exact h
      · exact h1
  · have e : x ∈ out ↔ x ∈ out.takeWhile (fun x => decide (x < n)) ∨ x ∈ out.dropWhile (fun x => decide (x < n)) := by
      rw [← List.mem_append, List.takeWhile_append_dropWhile]
    rw [List.mem_append, List.mem_cons, e]
    constructor
    · rintro (h | h | h)
      · exact .inr (.inl h)
      · exact .inl h
      · exact .inr (.inr h)
    · rintro (h | h | h)
      · exact .inr (.inl h)
      · exact .inl h
      · exact .inr (.inr h)
theorem putI_perm {out : List Int} {n : Int} (h : n ∉ out) : (putI out n).Perm (n :: out) := by
  rw [putI, if_neg h]
  refine List.perm_middle.trans ?_
  rw [List.takeWhile_append_dropWhile]
theorem putI_nodup {out : List Int} {n : Int} (h : out.Nodup) : (putI out n).Nodup := by
  by_cases hn : n ∈ out
  · rw [putI, if_pos hn]
    exact h
  · rw [(putI_perm hn).nodup_iff]
    exact List.nodup_cons.2 ⟨hn, h⟩
theorem putI_length {out : List Int} {n : Int} (h : n ∉ out) : (putI out n).length = out.length + 1 := by
  rw [(putI_perm h).length_eq]
  rfl
theorem nodup_le : ∀ {xs ys : List Int}, xs.Nodup → (∀ x ∈ xs, x ∈ ys) → xs.length ≤ ys.length
  | [], _, _, _ => Nat.zero_le _
  | x :: xs, ys, h, hs => by
    rw [List.nodup_cons] at h
    have hx : x ∈ ys := hs x (by simp)
    have := nodup_le (xs := xs) (ys := ys.erase x) h.2 (fun y hy => by
      have hne : y ≠ x := fun e => h.1 (e ▸ hy)
      exact (List.mem_erase_of_ne hne).2 (hs y (by simp [hy])))
    rw [List.length_erase_of_mem hx] at this
    have : 0 < ys.length := List.length_pos_of_mem hx
    simp only [List.length_cons]
    omega
/-- Numbers of places. -/
def Within (L : Nat) (l : List Int) : Prop := ∀ x ∈ l, 0 ≤ x ∧ x < L
theorem nodup_within {L : Nat} {l : List Int} (h : l.Nodup) (hb : Within L l) : l.length ≤ L := by
  have := nodup_le (ys := (List.range L).map (fun i : Nat => (i : Int))) h (fun x hx => by
    have := hb x hx
    rw [List.mem_map]
    exact ⟨x.toNat, by rw [List.mem_range]; omega, by omega⟩)
  simpa using this
/-- The queue. -/
def fromL (nx : Int → List Int) : Nat → List Int → List Int → List Int
  | 0, _, out => out
  | _ + 1, [], out => out
  | f + 1, n :: q, out => if n ∈ out then fromL nx f q out else fromL nx f (q ++ nx n) (putI out n)
theorem fromL_mem {L : Nat} (hnx : ∀ n : Int, 0 ≤ n → n < L → (nx n).length ≤ 7 ∧ Within L (nx n)) : ∀ (f : Nat) (q out : List Int), Within L q → Within L out → out.Nodup →
    q.length + 8 * (L - out.length) < f → (∀ n ∈ out, ∀ k ∈ nx n, k ∈ out ∨ k ∈ q) → ∀ x, x ∈ fromL nx f q out ↔ x ∈ out ∨ Rch nx q x
  | 0, _, _, _, _, _, h, _, _ => by omega
  | f + 1, [], out, _, _, _, _, hcl, x => by
    simp only [fromL]
    constructor
    · exact .inl
    · rintro (h | h)
      · exact h
      · induction h with
        | base h => cases h
        | step _ h2 ih => rcases hcl _ ih _ h2 with h | h; exact h; cases h
  | f + 1, n :: q, out, hq, ho, hnd, hf, hcl, x => by
    have hn := hq n (by simp)
    have hq' : Within L q := fun y hy => hq y (by simp [hy])
    simp only [List.length_cons] at hf
    simp only [fromL]
    split
    · rename_i hm
      rw [fromL_mem hnx f q out hq' ho hnd (by omega) (fun m hm' k hk => by
        rcases hcl m hm' k hk with h | h
        · exact .inl h
        · rcases List.mem_cons.1 h with rfl | h
          · exact .inl hm
          · exact .inr h) x]
      constructor
      · rintro (h | h)
        · exact .inl h
        · exact .inr (h.mono fun y hy => .base (by simp [hy]))
      · rintro (h | h)
        · exact .inl h
        · induction h with
          | base h =>
            rcases List.mem_cons.1 h with rfl | h
            · exact .inl hm
            · exact .inr (.base h)
          | step _ h2 ih =>
            rcases ih with ih | ih
            · rcases hcl _ ih _ h2 with h | h
              · exact .inl h
              · rcases List.mem_cons.1 h with rfl | h
                · exact .inl hm
                · exact .inr (.base h)
            · exact .inr (.step ih h2)
    · rename_i hm
      obtain ⟨h7, hb⟩ := hnx n hn.1 hn.2
      have hlen := putI_length hm
      have hbo : Within L (putI out n) := fun y hy => by
        rcases mem_putI.1 hy with rfl | h
        · exact hn
        · exact ho y h
      have hle := nodup_within (putI_nodup (n := n) hnd) hbo
      rw [fromL_mem hnx f (q ++ nx n) (putI out n) (fun y hy => by
          rcases List.mem_append.1 hy with h | h
          · exact hq' y h
          · exact hb y h) hbo (putI_nodup hnd) (by rw [List.length_append, hlen]; omega) (fun m hm' k hk => by
        rcases mem_putI.1 hm' with rfl | h
        · exact .inr (by simp [hk])
        · rcases hcl m h k hk with h | h
          · exact .inl (mem_putI.2 (.inr h))
          · rcases List.mem_cons.1 h with rfl | h
            · exact .inl (mem_putI.2 (.inl rfl))
            · exact .inr (by simp [h])) x]
      rw [mem_putI]
      constructor
      · rintro ((rfl | h) | h)
        · exact .inr (.base (by simp))
        · exact .inl h
        · refine .inr (h.mono fun y hy => ?_)
          rcases List.mem_append.1 hy with h | h
          · exact .base (by simp [h])
          · exact .step (n := n) (.base (by simp)) h
      · rintro (h | h)
        · exact .inl (.inr h)
        · induction h with
          | base h =>
            rcases List.mem_cons.1 h with rfl | h
            · exact .inl (.inl rfl)
            · exact .inr (.base (by simp [h]))
          | step _ h2 ih =>
            rcases ih with (rfl | ih) | ih
            · exact .inr (.base (by simp [h2]))
            · rcases hcl _ ih _ h2 with h | h
              · exact .inl (.inr h)
              · rcases List.mem_cons.1 h with rfl | h
                · exact .inl (.inl rfl)
                · exact .inr (.base (by simp [h]))
            · exact .inr (.step ih h2)
/-- The list that grows. -/
def addL : List Int → List Int → List Int
  | out, [] => out
  | out, k :: ks => addL (if k ∈ out then out else out ++ [k]) ks
theorem mem_addL : ∀ {ks out : List Int} {x : Int}, x ∈ addL out ks ↔ x ∈ out ∨ x ∈ ks
  | [], out, x => by simp [addL]
  | k :: ks, out, x => by
    rw [addL, mem_addL]
    split
    · rename_i h
      simp only [List.mem_cons]
      constructor
      · rintro (h1 | h1)
        · exact .inl h1
        · exact .inr (.inr h1)
      · rintro (h1 | rfl | h1)
        · exact .inl h1
        · exact .inl h
        · exact .inr h1
    · simp only [List.mem_append, List.mem_cons, List.not_mem_nil, or_false]
      constructor
      · rintro ((h1 | h1) | h1)
        · exact .inl h1
        · exact .inr (.inl h1)
        · exact .inr (.inr h1)
      · rintro (h1 | h1 | h1)
        · exact .inl (.inl h1)
        · exact .inl (.inr h1)
        · exact .inr h1
theorem addL_nodup : ∀ {ks out : List Int}, out.Nodup → (addL out ks).Nodup
  | [], _, h => h
  | k :: ks, out, h => by
    rw [addL]
    split
    · exact addL_nodup h
    · rename_i hk
      refine addL_nodup ?_
      rw [List.nodup_append]
      refine ⟨h, by simp, fun a ha b hb e => ?_⟩
      simp only [List.mem_singleton] at hb
      subst hb e
      exact hk ha
theorem addL_ext : ∀ (ks out : List Int), ∃ r, addL out ks = out ++ r ∧ r.length ≤ ks.length
  | [], out => ⟨[], by simp [addL], by simp⟩
  | k :: ks, out => by
    rw [addL]
    split
    · obtain ⟨r, h, hr⟩ := addL_ext ks out
      exact ⟨r, h, by simp; omega⟩
    · obtain ⟨r, h, hr⟩ := addL_ext ks (out ++ [k])
      exact ⟨k :: r, by rw [h]; simp, by simp; omega⟩
theorem addL_append : ∀ (ks js out : List Int), addL out (ks ++ js) = addL (addL out ks) js
  | [], _, _ => rfl
  | k :: ks, js, out => by simp only [List.cons_append, addL]; rw [addL_append ks js]
def reachL (nx : Int → List Int) : Nat → Nat → List Int → List Int
  | 0, _, out => out
  | f + 1, i, out => match out[i]? with
    | none => out
    | some n => reachL nx f (i + 1) (addL out (nx n))
theorem reachL_spec {L : Nat} (hnx : ∀ n : Int, 0 ≤ n → n < L → Within L (nx n)) : ∀ (f i : Nat) (out : List Int), Within L out → out.Nodup → i ≤ out.length →
    L - i < f → (∀ j, j < i → ∀ n, out[j]? = some n → ∀ k ∈ nx n, k ∈ out) → (∀ x, x ∈ reachL nx f i out ↔ Rch nx out x) ∧ Within L (reachL nx f i out) ∧ (reachL nx f i out).Nodup
  | 0, _, _, _, _, _, h, _ => by omega
  | f + 1, i, out, hb, hnd, hi, hf, hcl => by
    have hle := nodup_within hnd hb
    simp only [reachL]
    split
    · rename_i h0
      have hlen : out.length ≤ i := by simpa using h0
      refine ⟨fun x => ⟨.base, fun h => ?_⟩, hb, hnd⟩
      induction h with
      | base h => exact h
      | step _ h2 ih =>
        obtain ⟨j, hj, e⟩ := List.mem_iff_getElem.1 ih
        exact hcl j (by omega) _ (by rw [List.getElem?_eq_getElem hj, e]) _ h2
    · rename_i n h0
      have hlt : i < out.length := by
        rw [List.getElem?_eq_some_iff] at h0
        exact h0.1
      have hnm : n ∈ out := List.mem_of_getElem? h0
      have hn := hb n hnm
      obtain ⟨r, hr, _⟩ := addL_ext (nx n) out
      have hb' : Within L (addL out (nx n)) := fun x hx => by
        rcases mem_addL.1 hx with h | h
        · exact hb x h
        · exact hnx n hn.1 hn.2 x h
      have key := reachL_spec hnx f (i + 1) (addL out (nx n)) hb' (addL_nodup hnd) (by rw [hr, List.length_append]; omega) (by omega) (fun j hj m hm k hk => by
        have hjo : out[j]? = some m := by
          rw [hr, List.getElem?_append_left (by omega)] at hm
          exact hm
        by_cases e : j = i
        · subst e
          rw [h0] at hjo
          cases hjo
          exact mem_addL.2 (.inr hk)
        · exact mem_addL.2 (.inl (hcl j (by omega) m hjo k hk)))
      refine ⟨fun x => ?_, key.2⟩
      rw [key.1 x]
      constructor
      · refine fun h => h.mono fun y hy => ?_
        rcases mem_addL.1 hy with h | h
        · exact .base h
        · exact .step (.base hnm) h
      · exact fun h => h.mono fun y hy => .base (mem_addL.2 (.inl hy))
end
/-! ### sorted, each once -/
def sortI (l : List Int) : List Int := l.mergeSort fun x y => decide (x ≤ y)
theorem sortI_perm (l : List Int) : (sortI l).Perm l := List.mergeSort_perm _ _
theorem mem_sortI {l : List Int} {x : Int} : x ∈ sortI l ↔ x ∈ l := (sortI_perm l).mem_iff
theorem sortI_sorted (l : List Int) : (sortI l).Pairwise (· ≤ ·) := by
  have := List.pairwise_mergeSort (le := fun x y : Int => decide (x ≤ y)) (fun a b c h1 h2 => by simp at *; omega) (fun a b => by simp; omega) l
  simpa [sortI] using this
theorem mem_compact {l : List Int} {x : Int} : x ∈ Lib.compact l ↔ x ∈ l := by
  unfold Lib.compact Lib.compactUpTo
  simp only [List.mem_map, List.mem_filter, List.mem_range]
  constructor
  · rintro ⟨j, ⟨hj, _⟩, rfl⟩
    rw [getElem!_pos l.toArray j (by simpa using hj)]
    simp
  · intro h
    obtain ⟨j, hj, rfl⟩ := List.mem_iff_getElem.1 h
    clear h
    induction j with
    | zero => exact ⟨0, ⟨hj, by simp [Lib.keeps]⟩, by rw [getElem!_pos l.toArray 0 (by simpa using hj)]; simp⟩
    | succ j ih =>
      by_cases e : l[j + 1] = l[j]
      · rw [e]
        exact ih (by omega)
      · refine ⟨j + 1, ⟨hj, ?_⟩, by rw [getElem!_pos l.toArray (j + 1) (by simpa using hj)]; simp⟩
        simp only [Lib.keeps, decide_eq_true_eq]
        right
        rw [getElem!_pos l.toArray (j + 1) (by simpa using hj), getElem!_pos l.toArray (j + 1 - 1) (by simp; omega)]
        simpa using e
theorem compact_nodup {l : List Int} (h : l.Pairwise (· ≤ ·)) : (Lib.compact l).Nodup := by
  unfold Lib.compact Lib.compactUpTo List.Nodup
  rw [List.pairwise_map]
  have hr : ((List.range l.length).filter (Lib.keeps l.toArray)).Pairwise (· < ·) := List.Pairwise.filter _ List.pairwise_lt_range
  refine List.Pairwise.imp_of_mem ?_ hr
  intro i j hi hj hij
  simp only [List.mem_filter, List.mem_range, Lib.keeps, decide_eq_true_eq] at hi hj
  have hp : ∀ a b (ha : a < l.length) (hb : b < l.length), a ≤ b → l[a] ≤ l[b] := by
    intro a b ha hb hab
    by_cases e : a = b
    · subst e; exact Int.le_refl _
    · exact List.pairwise_iff_getElem.1 h a b ha hb (by omega)
  obtain ⟨hj1, hj2⟩ := hj
  have hi1 := hi.1
  have hne : l.toArray[j]! ≠ l.toArray[j - 1]! := by
    rcases hj2 with h0 | h0
    · omega
    · exact h0
  have a1 : l.toArray[j]! = l[j] := by rw [getElem!_pos l.toArray j (by simpa using hj1)]; simp
  have a2 : l.toArray[j - 1]! = l[j - 1] := by rw [getElem!_pos l.toArray (j - 1) (by simp; omega)]; simp
  have a3 : l.toArray[i]! = l[i] := by rw [getElem!_pos l.toArray i (by simpa using hi1)]; simp
  rw [a1, a2] at hne
  rw [a3, a1]
  have h1 := hp i (j - 1) hi1 (by omega) (by omega)
  have h2 := hp (j - 1) j (by omega) hj1 (by omega)
  omega
end Go.TM
end
