/- A part of the proof: ZT, D4, D9, D10, D8. -/
import Derived.Test.YtknondpcbpgpoaaGreatK03
import Derived.Test.YtknondpcbpgpoaaGreatProg
import Derived.KernelRfl
set_option linter.unusedVariables false
set_option linter.unusedSimpArgs false
section
namespace Go.TM.ZT
open Go.Proofs
@[simp] theorem ti_2 : tiOf Tryz.prog 2 = (some (TI.mk 1 false 8 (.int .i64 0))) := by kernel_rfl
@[simp] theorem int_2 : intOf Tryz.prog 2 = (some .i64) := by kernel_rfl
@[simp] theorem ti_3 : tiOf Tryz.prog 3 = (some (TI.mk 1 false 8 (.int .i64 0))) := by kernel_rfl
@[simp] theorem int_3 : intOf Tryz.prog 3 = (some .i64) := by kernel_rfl
@[simp] theorem ti_4 : tiOf Tryz.prog 4 = (some (TI.mk 1 false 1 (.bool false))) := by kernel_rfl
@[simp] theorem bol_4 : bolOf Tryz.prog 4 = true := by kernel_rfl
@[simp] theorem ti_5 : tiOf Tryz.prog 5 = (some (TI.mk 1 false 1 (.int .u8 0))) := by kernel_rfl
@[simp] theorem int_5 : intOf Tryz.prog 5 = (some .u8) := by kernel_rfl
@[simp] theorem ti_6 : tiOf Tryz.prog 6 = (some (TI.mk 1 false 1 (.int .u8 0))) := by kernel_rfl
@[simp] theorem int_6 : intOf Tryz.prog 6 = (some .u8) := by kernel_rfl
@[simp] theorem ti_7 : tiOf Tryz.prog 7 = (some (TI.mk 4 true 24 (.agg [(.int .i64 0), (.int .i64 0), (.bool false), (.int .u8 0)]))) := by kernel_rfl
@[simp] theorem eqs_7 : eqsOf Tryz.prog 7 = (some [(.int .i64 0), (.int .i64 0), (.bool false), (.int .u8 0)]) := by kernel_rfl
@[simp] theorem bld_7 : bldOf Tryz.prog 7 = true := by kernel_rfl
@[simp] theorem fld_7_0 : fldOf Tryz.prog 7 0 = (some (0, 2)) := by kernel_rfl
@[simp] theorem fld_7_1 : fldOf Tryz.prog 7 1 = (some (1, 3)) := by kernel_rfl
@[simp] theorem fld_7_2 : fldOf Tryz.prog 7 2 = (some (2, 4)) := by kernel_rfl
@[simp] theorem fld_7_3 : fldOf Tryz.prog 7 3 = (some (3, 6)) := by kernel_rfl
@[simp] theorem ti_8 : tiOf Tryz.prog 8 = (some (TI.mk 4 true 24 (.agg [(.int .i64 0), (.int .i64 0), (.bool false), (.int .u8 0)]))) := by kernel_rfl
@[simp] theorem eqs_8 : eqsOf Tryz.prog 8 = (some [(.int .i64 0), (.int .i64 0), (.bool false), (.int .u8 0)]) := by kernel_rfl
@[simp] theorem bld_8 : bldOf Tryz.prog 8 = true := by kernel_rfl
@[simp] theorem fld_8_0 : fldOf Tryz.prog 8 0 = (some (0, 2)) := by kernel_rfl
@[simp] theorem fld_8_1 : fldOf Tryz.prog 8 1 = (some (1, 3)) := by kernel_rfl
@[simp] theorem fld_8_2 : fldOf Tryz.prog 8 2 = (some (2, 4)) := by kernel_rfl
@[simp] theorem fld_8_3 : fldOf Tryz.prog 8 3 = (some (3, 6)) := by kernel_rfl
@[simp] theorem ti_9 : tiOf Tryz.prog 9 = (some (TI.mk 1 false 16 (.str ⟨#[]⟩))) := by kernel_rfl
@[simp] theorem str_9 : strOf Tryz.prog 9 = true := by kernel_rfl
@[simp] theorem ti_10 : tiOf Tryz.prog 10 = (some (TI.mk 1 false 16 (.str ⟨#[]⟩))) := by kernel_rfl
@[simp] theorem str_10 : strOf Tryz.prog 10 = true := by kernel_rfl
@[simp] theorem ti_11 : tiOf Tryz.prog 11 = (some (TI.mk 1 false 16 (.str ⟨#[]⟩))) := by kernel_rfl
@[simp] theorem str_11 : strOf Tryz.prog 11 = true := by kernel_rfl
@[simp] theorem ti_12 : tiOf Tryz.prog 12 = (some (TI.mk 1 false 8 (.int .u64 0))) := by kernel_rfl
@[simp] theorem int_12 : intOf Tryz.prog 12 = (some .u64) := by kernel_rfl
@[simp] theorem ti_13 : tiOf Tryz.prog 13 = (some (TI.mk 2 true 24 (.agg [(.str ⟨#[]⟩), (.int .u64 0)]))) := by kernel_rfl
@[simp] theorem bld_13 : bldOf Tryz.prog 13 = true := by kernel_rfl
@[simp] theorem fld_13_0 : fldOf Tryz.prog 13 0 = (some (0, 9)) := by kernel_rfl
@[simp] theorem fld_13_1 : fldOf Tryz.prog 13 1 = (some (1, 12)) := by kernel_rfl
@[simp] theorem ti_14 : tiOf Tryz.prog 14 = (some (TI.mk 2 true 24 (.agg [(.str ⟨#[]⟩), (.int .u64 0)]))) := by kernel_rfl
@[simp] theorem bld_14 : bldOf Tryz.prog 14 = true := by kernel_rfl
@[simp] theorem fld_14_0 : fldOf Tryz.prog 14 0 = (some (0, 9)) := by kernel_rfl
@[simp] theorem fld_14_1 : fldOf Tryz.prog 14 1 = (some (1, 12)) := by kernel_rfl
@[simp] theorem ti_15 : tiOf Tryz.prog 15 = (some (TI.mk 1 false 8 .nilp)) := by kernel_rfl
@[simp] theorem ti_16 : tiOf Tryz.prog 16 = (some (TI.mk 1 false 8 .nilp)) := by kernel_rfl
@[simp] theorem ti_17 : tiOf Tryz.prog 17 = (some (TI.mk 1 false 8 .nilp)) := by kernel_rfl
@[simp] theorem ti_18 : tiOf Tryz.prog 18 = (some (TI.mk 1 true 8 (.agg [.nilp]))) := by kernel_rfl
@[simp] theorem bld_18 : bldOf Tryz.prog 18 = true := by kernel_rfl
@[simp] theorem fld_18_0 : fldOf Tryz.prog 18 0 = (some (0, 17)) := by kernel_rfl
@[simp] theorem ti_19 : tiOf Tryz.prog 19 = (some (TI.mk 1 true 8 (.agg [.nilp]))) := by kernel_rfl
@[simp] theorem bld_19 : bldOf Tryz.prog 19 = true := by kernel_rfl
@[simp] theorem fld_19_0 : fldOf Tryz.prog 19 0 = (some (0, 17)) := by kernel_rfl
@[simp] theorem ti_20 : tiOf Tryz.prog 20 = (some (TI.mk 1 false 16 .nili)) := by kernel_rfl
@[simp] theorem ti_21 : tiOf Tryz.prog 21 = (some (TI.mk 1 false 4 (.int .i32 0))) := by kernel_rfl
@[simp] theorem int_21 : intOf Tryz.prog 21 = (some .i32) := by kernel_rfl
@[simp] theorem ti_22 : tiOf Tryz.prog 22 = (some (TI.mk 1 false 24 (.inl 1 []))) := by kernel_rfl
@[simp] theorem el_22 : elOf Tryz.prog 22 = (some 9) := by kernel_rfl
@[simp] theorem ti_23 : tiOf Tryz.prog 23 = (some (TI.mk 1 false 24 (.inl 6 []))) := by kernel_rfl
@[simp] theorem el_23 : elOf Tryz.prog 23 = (some 141) := by kernel_rfl
@[simp] theorem ti_24 : tiOf Tryz.prog 24 = (some (TI.mk 1 false 24 (.inl 6 []))) := by kernel_rfl
@[simp] theorem el_24 : elOf Tryz.prog 24 = (some 145) := by kernel_rfl
@[simp] theorem ti_25 : tiOf Tryz.prog 25 = (some (TI.mk 1 false 24 (.inl 2 []))) := by kernel_rfl
@[simp] theorem el_25 : elOf Tryz.prog 25 = (some 147) := by kernel_rfl
@[simp] theorem ti_26 : tiOf Tryz.prog 26 = (some (TI.mk 5 true 112 (.agg [(.str ⟨#[]⟩), (.inl 1 []), (.inl 6 []), (.inl 6 []), (.inl 2 [])]))) := by kernel_rfl
@[simp] theorem bld_26 : bldOf Tryz.prog 26 = true := by kernel_rfl
@[simp] theorem fld_26_0 : fldOf Tryz.prog 26 0 = (some (0, 9)) := by kernel_rfl
@[simp] theorem fld_26_1 : fldOf Tryz.prog 26 1 = (some (1, 22)) := by kernel_rfl
@[simp] theorem fld_26_2 : fldOf Tryz.prog 26 2 = (some (2, 23)) := by kernel_rfl
@[simp] theorem fld_26_3 : fldOf Tryz.prog 26 3 = (some (3, 24)) := by kernel_rfl
@[simp] theorem fld_26_4 : fldOf Tryz.prog 26 4 = (some (4, 25)) := by kernel_rfl
@[simp] theorem ti_27 : tiOf Tryz.prog 27 = (some (TI.mk 5 true 112 (.agg [(.str ⟨#[]⟩), (.inl 1 []), (.inl 6 []), (.inl 6 []), (.inl 2 [])]))) := by kernel_rfl
@[simp] theorem bld_27 : bldOf Tryz.prog 27 = true := by kernel_rfl
@[simp] theorem fld_27_0 : fldOf Tryz.prog 27 0 = (some (0, 9)) := by kernel_rfl
@[simp] theorem fld_27_1 : fldOf Tryz.prog 27 1 = (some (1, 22)) := by kernel_rfl
@[simp] theorem fld_27_2 : fldOf Tryz.prog 27 2 = (some (2, 23)) := by kernel_rfl
@[simp] theorem fld_27_3 : fldOf Tryz.prog 27 3 = (some (3, 24)) := by kernel_rfl
@[simp] theorem fld_27_4 : fldOf Tryz.prog 27 4 = (some (4, 25)) := by kernel_rfl
@[simp] theorem ti_29 : tiOf Tryz.prog 29 = (some (TI.mk 1 false 24 (.inl 6 []))) := by kernel_rfl
@[simp] theorem el_29 : elOf Tryz.prog 29 = (some 164) := by kernel_rfl
@[simp] theorem ti_30 : tiOf Tryz.prog 30 = (some (TI.mk 1 false 24 (.inl 6 []))) := by kernel_rfl
@[simp] theorem el_30 : elOf Tryz.prog 30 = (some 151) := by kernel_rfl
@[simp] theorem ti_31 : tiOf Tryz.prog 31 = (some (TI.mk 1 false 24 (.inl 2 []))) := by kernel_rfl
@[simp] theorem el_31 : elOf Tryz.prog 31 = (some 135) := by kernel_rfl
@[simp] theorem ti_32 : tiOf Tryz.prog 32 = (some (TI.mk 5 true 112 (.agg [(.str ⟨#[]⟩), (.inl 1 []), (.inl 6 []), (.inl 6 []), (.inl 2 [])]))) := by kernel_rfl
@[simp] theorem bld_32 : bldOf Tryz.prog 32 = true := by kernel_rfl
@[simp] theorem fld_32_0 : fldOf Tryz.prog 32 0 = (some (0, 9)) := by kernel_rfl
@[simp] theorem fld_32_1 : fldOf Tryz.prog 32 1 = (some (1, 22)) := by kernel_rfl
@[simp] theorem fld_32_2 : fldOf Tryz.prog 32 2 = (some (2, 29)) := by kernel_rfl
@[simp] theorem fld_32_3 : fldOf Tryz.prog 32 3 = (some (3, 30)) := by kernel_rfl
@[simp] theorem fld_32_4 : fldOf Tryz.prog 32 4 = (some (4, 31)) := by kernel_rfl
@[simp] theorem ti_33 : tiOf Tryz.prog 33 = (some (TI.mk 5 true 112 (.agg [(.str ⟨#[]⟩), (.inl 1 []), (.inl 6 []), (.inl 6 []), (.inl 2 [])]))) := by kernel_rfl
@[simp] theorem bld_33 : bldOf Tryz.prog 33 = true := by kernel_rfl
@[simp] theorem fld_33_0 : fldOf Tryz.prog 33 0 = (some (0, 9)) := by kernel_rfl
@[simp] theorem fld_33_1 : fldOf Tryz.prog 33 1 = (some (1, 22)) := by kernel_rfl
@[simp] theorem fld_33_2 : fldOf Tryz.prog 33 2 = (some (2, 29)) := by kernel_rfl
@[simp] theorem fld_33_3 : fldOf Tryz.prog 33 3 = (some (3, 30)) := by kernel_rfl
@[simp] theorem fld_33_4 : fldOf Tryz.prog 33 4 = (some (4, 31)) := by kernel_rfl
@[simp] theorem ti_43 : tiOf Tryz.prog 43 = (some (TI.mk 1 false 24 (.inl 6 []))) := by kernel_rfl
@[simp] theorem el_43 : elOf Tryz.prog 43 = (some 110) := by kernel_rfl
@[simp] theorem ti_45 : tiOf Tryz.prog 45 = (some (TI.mk 1 false 24 (.inl 5 []))) := by kernel_rfl
@[simp] theorem el_45 : elOf Tryz.prog 45 = (some 33) := by kernel_rfl
@[simp] theorem ti_48 : tiOf Tryz.prog 48 = (some (TI.mk 1 false 24 (.inl 6 []))) := by kernel_rfl
@[simp] theorem el_48 : elOf Tryz.prog 48 = (some 114) := by kernel_rfl
@[simp] theorem ti_58 : tiOf Tryz.prog 58 = (some (TI.mk 1 false 24 (.inl 5 []))) := by kernel_rfl
@[simp] theorem el_58 : elOf Tryz.prog 58 = (some 27) := by kernel_rfl
@[simp] theorem ti_60 : tiOf Tryz.prog 60 = (some (TI.mk 1 false 24 (.inl 3 []))) := by kernel_rfl
@[simp] theorem el_60 : elOf Tryz.prog 60 = (some 127) := by kernel_rfl
@[simp] theorem ti_67 : tiOf Tryz.prog 67 = (some (TI.mk 1 false 24 (.inl 3 []))) := by kernel_rfl
@[simp] theorem el_67 : elOf Tryz.prog 67 = (some 129) := by kernel_rfl
@[simp] theorem ti_97 : tiOf Tryz.prog 97 = (some (TI.mk 1 false 8 .nilp)) := by kernel_rfl
@[simp] theorem ti_98 : tiOf Tryz.prog 98 = (some (TI.mk 3 true 32 (.agg [(.str ⟨#[]⟩), (.int .i64 0), (.bool false)]))) := by kernel_rfl
@[simp] theorem eqs_98 : eqsOf Tryz.prog 98 = (some [(.str ⟨#[]⟩), (.int .i64 0), (.bool false)]) := by kernel_rfl
@[simp] theorem bld_98 : bldOf Tryz.prog 98 = true := by kernel_rfl
@[simp] theorem fld_98_0 : fldOf Tryz.prog 98 0 = (some (0, 9)) := by kernel_rfl
@[simp] theorem fld_98_1 : fldOf Tryz.prog 98 1 = (some (1, 3)) := by kernel_rfl
@[simp] theorem fld_98_2 : fldOf Tryz.prog 98 2 = (some (2, 4)) := by kernel_rfl
@[simp] theorem ti_99 : tiOf Tryz.prog 99 = (some (TI.mk 3 true 32 (.agg [(.str ⟨#[]⟩), (.int .i64 0), (.bool false)]))) := by kernel_rfl
@[simp] theorem eqs_99 : eqsOf Tryz.prog 99 = (some [(.str ⟨#[]⟩), (.int .i64 0), (.bool false)]) := by kernel_rfl
@[simp] theorem bld_99 : bldOf Tryz.prog 99 = true := by kernel_rfl
@[simp] theorem fld_99_0 : fldOf Tryz.prog 99 0 = (some (0, 9)) := by kernel_rfl
@[simp] theorem fld_99_1 : fldOf Tryz.prog 99 1 = (some (1, 3)) := by kernel_rfl
@[simp] theorem fld_99_2 : fldOf Tryz.prog 99 2 = (some (2, 4)) := by kernel_rfl
@[simp] theorem ti_100 : tiOf Tryz.prog 100 = (some (TI.mk 4 true 40 (.agg [(.str ⟨#[]⟩), (.int .i64 0), (.bool false), (.int .i64 0)]))) := by kernel_rfl
@[simp] theorem bld_100 : bldOf Tryz.prog 100 = true := by kernel_rfl
@[simp] theorem fld_100_0 : fldOf Tryz.prog 100 0 = (some (0, 99)) := by kernel_rfl
@[simp] theorem fld_100_1 : fldOf Tryz.prog 100 1 = (some (3, 3)) := by kernel_rfl
@[simp] theorem ti_101 : tiOf Tryz.prog 101 = (some (TI.mk 4 true 40 (.agg [(.str ⟨#[]⟩), (.int .i64 0), (.bool false), (.int .i64 0)]))) := by kernel_rfl
@[simp] theorem bld_101 : bldOf Tryz.prog 101 = true := by kernel_rfl
@[simp] theorem fld_101_0 : fldOf Tryz.prog 101 0 = (some (0, 99)) := by kernel_rfl
@[simp] theorem fld_101_1 : fldOf Tryz.prog 101 1 = (some (3, 3)) := by kernel_rfl
@[simp] theorem ti_109 : tiOf Tryz.prog 109 = (some (TI.mk 6 true 136 (.agg [(.str ⟨#[]⟩), (.inl 1 []), (.inl 6 []), (.inl 6 []), (.inl 2 []), (.inl 3 [])]))) := by kernel_rfl
@[simp] theorem bld_109 : bldOf Tryz.prog 109 = true := by kernel_rfl
@[simp] theorem fld_109_0 : fldOf Tryz.prog 109 0 = (some (0, 27)) := by kernel_rfl
@[simp] theorem fld_109_1 : fldOf Tryz.prog 109 1 = (some (5, 67)) := by kernel_rfl
@[simp] theorem ti_110 : tiOf Tryz.prog 110 = (some (TI.mk 6 true 136 (.agg [(.str ⟨#[]⟩), (.inl 1 []), (.inl 6 []), (.inl 6 []), (.inl 2 []), (.inl 3 [])]))) := by kernel_rfl
@[simp] theorem bld_110 : bldOf Tryz.prog 110 = true := by kernel_rfl
@[simp] theorem fld_110_0 : fldOf Tryz.prog 110 0 = (some (0, 27)) := by kernel_rfl
@[simp] theorem fld_110_1 : fldOf Tryz.prog 110 1 = (some (5, 67)) := by kernel_rfl
@[simp] theorem ti_113 : tiOf Tryz.prog 113 = (some (TI.mk 6 true 136 (.agg [(.str ⟨#[]⟩), (.inl 1 []), (.inl 6 []), (.inl 6 []), (.inl 2 []), (.inl 3 [])]))) := by kernel_rfl
@[simp] theorem bld_113 : bldOf Tryz.prog 113 = true := by kernel_rfl
@[simp] theorem fld_113_0 : fldOf Tryz.prog 113 0 = (some (0, 33)) := by kernel_rfl
@[simp] theorem fld_113_1 : fldOf Tryz.prog 113 1 = (some (5, 60)) := by kernel_rfl
@[simp] theorem ti_114 : tiOf Tryz.prog 114 = (some (TI.mk 6 true 136 (.agg [(.str ⟨#[]⟩), (.inl 1 []), (.inl 6 []), (.inl 6 []), (.inl 2 []), (.inl 3 [])]))) := by kernel_rfl
@[simp] theorem bld_114 : bldOf Tryz.prog 114 = true := by kernel_rfl
@[simp] theorem fld_114_0 : fldOf Tryz.prog 114 0 = (some (0, 33)) := by kernel_rfl
@[simp] theorem fld_114_1 : fldOf Tryz.prog 114 1 = (some (5, 60)) := by kernel_rfl
@[simp] theorem ti_124 : tiOf Tryz.prog 124 = (some (TI.mk 1 false 8 .nilp)) := by kernel_rfl
@[simp] theorem ti_126 : tiOf Tryz.prog 126 = (some (TI.mk 3 true 40 (.agg [(.str ⟨#[]⟩), (.str ⟨#[]⟩), (.int .i64 0)]))) := by kernel_rfl
@[simp] theorem eqs_126 : eqsOf Tryz.prog 126 = (some [(.str ⟨#[]⟩), (.str ⟨#[]⟩), (.int .i64 0)]) := by kernel_rfl
@[simp] theorem bld_126 : bldOf Tryz.prog 126 = true := by kernel_rfl
@[simp] theorem fld_126_0 : fldOf Tryz.prog 126 0 = (some (0, 9)) := by kernel_rfl
@[simp] theorem fld_126_1 : fldOf Tryz.prog 126 1 = (some (1, 9)) := by kernel_rfl
@[simp] theorem fld_126_2 : fldOf Tryz.prog 126 2 = (some (2, 3)) := by kernel_rfl
@[simp] theorem ti_127 : tiOf Tryz.prog 127 = (some (TI.mk 3 true 40 (.agg [(.str ⟨#[]⟩), (.str ⟨#[]⟩), (.int .i64 0)]))) := by kernel_rfl
@[simp] theorem eqs_127 : eqsOf Tryz.prog 127 = (some [(.str ⟨#[]⟩), (.str ⟨#[]⟩), (.int .i64 0)]) := by kernel_rfl
@[simp] theorem bld_127 : bldOf Tryz.prog 127 = true := by kernel_rfl
@[simp] theorem fld_127_0 : fldOf Tryz.prog 127 0 = (some (0, 9)) := by kernel_rfl
@[simp] theorem fld_127_1 : fldOf Tryz.prog 127 1 = (some (1, 9)) := by kernel_rfl
@[simp] theorem fld_127_2 : fldOf Tryz.prog 127 2 = (some (2, 3)) := by kernel_rfl
@[simp] theorem ti_129 : tiOf Tryz.prog 129 = (some (TI.mk 3 true 40 (.agg [(.str ⟨#[]⟩), (.str ⟨#[]⟩), (.int .i64 0)]))) := by kernel_rfl
@[simp] theorem eqs_129 : eqsOf Tryz.prog 129 = (some [(.str ⟨#[]⟩), (.str ⟨#[]⟩), (.int .i64 0)]) := by kernel_rfl
@[simp] theorem bld_129 : bldOf Tryz.prog 129 = true := by kernel_rfl
@[simp] theorem fld_129_0 : fldOf Tryz.prog 129 0 = (some (0, 9)) := by kernel_rfl
@[simp] theorem fld_129_1 : fldOf Tryz.prog 129 1 = (some (1, 9)) := by kernel_rfl
@[simp] theorem fld_129_2 : fldOf Tryz.prog 129 2 = (some (2, 3)) := by kernel_rfl
@[simp] theorem ti_134 : tiOf Tryz.prog 134 = (some (TI.mk 2 true 32 (.agg [(.str ⟨#[]⟩), (.str ⟨#[]⟩)]))) := by kernel_rfl
@[simp] theorem eqs_134 : eqsOf Tryz.prog 134 = (some [(.str ⟨#[]⟩), (.str ⟨#[]⟩)]) := by kernel_rfl
@[simp] theorem bld_134 : bldOf Tryz.prog 134 = true := by kernel_rfl
@[simp] theorem fld_134_0 : fldOf Tryz.prog 134 0 = (some (0, 9)) := by kernel_rfl
@[simp] theorem fld_134_1 : fldOf Tryz.prog 134 1 = (some (1, 9)) := by kernel_rfl
@[simp] theorem ti_135 : tiOf Tryz.prog 135 = (some (TI.mk 2 true 32 (.agg [(.str ⟨#[]⟩), (.str ⟨#[]⟩)]))) := by kernel_rfl
@[simp] theorem eqs_135 : eqsOf Tryz.prog 135 = (some [(.str ⟨#[]⟩), (.str ⟨#[]⟩)]) := by kernel_rfl
@[simp] theorem bld_135 : bldOf Tryz.prog 135 = true := by kernel_rfl
@[simp] theorem fld_135_0 : fldOf Tryz.prog 135 0 = (some (0, 9)) := by kernel_rfl
@[simp] theorem fld_135_1 : fldOf Tryz.prog 135 1 = (some (1, 9)) := by kernel_rfl
@[simp] theorem ti_139 : tiOf Tryz.prog 139 = (some (TI.mk 1 false 24 (.inl 3 []))) := by kernel_rfl
@[simp] theorem el_139 : elOf Tryz.prog 139 = (some 235) := by kernel_rfl
@[simp] theorem ti_140 : tiOf Tryz.prog 140 = (some (TI.mk 6 true 80 (.agg [(.int .i64 0), (.int .i64 0), (.int .i64 0), (.inl 3 []), (.str ⟨#[]⟩), (.str ⟨#[]⟩)]))) := by kernel_rfl
@[simp] theorem bld_140 : bldOf Tryz.prog 140 = true := by kernel_rfl
@[simp] theorem fld_140_0 : fldOf Tryz.prog 140 0 = (some (0, 3)) := by kernel_rfl
@[simp] theorem fld_140_1 : fldOf Tryz.prog 140 1 = (some (1, 3)) := by kernel_rfl
@[simp] theorem fld_140_2 : fldOf Tryz.prog 140 2 = (some (2, 3)) := by kernel_rfl
@[simp] theorem fld_140_3 : fldOf Tryz.prog 140 3 = (some (3, 139)) := by kernel_rfl
@[simp] theorem fld_140_4 : fldOf Tryz.prog 140 4 = (some (4, 9)) := by kernel_rfl
@[simp] theorem fld_140_5 : fldOf Tryz.prog 140 5 = (some (5, 9)) := by kernel_rfl
@[simp] theorem ti_141 : tiOf Tryz.prog 141 = (some (TI.mk 6 true 80 (.agg [(.int .i64 0), (.int .i64 0), (.int .i64 0), (.inl 3 []), (.str ⟨#[]⟩), (.str ⟨#[]⟩)]))) := by kernel_rfl
@[simp] theorem bld_141 : bldOf Tryz.prog 141 = true := by kernel_rfl
@[simp] theorem fld_141_0 : fldOf Tryz.prog 141 0 = (some (0, 3)) := by kernel_rfl
@[simp] theorem fld_141_1 : fldOf Tryz.prog 141 1 = (some (1, 3)) := by kernel_rfl
@[simp] theorem fld_141_2 : fldOf Tryz.prog 141 2 = (some (2, 3)) := by kernel_rfl
@[simp] theorem fld_141_3 : fldOf Tryz.prog 141 3 = (some (3, 139)) := by kernel_rfl
@[simp] theorem fld_141_4 : fldOf Tryz.prog 141 4 = (some (4, 9)) := by kernel_rfl
@[simp] theorem fld_141_5 : fldOf Tryz.prog 141 5 = (some (5, 9)) := by kernel_rfl
@[simp] theorem ti_143 : tiOf Tryz.prog 143 = (some (TI.mk 1 false 24 (.inl 3 []))) := by kernel_rfl
@[simp] theorem el_143 : elOf Tryz.prog 143 = (some 237) := by kernel_rfl
@[simp] theorem ti_144 : tiOf Tryz.prog 144 = (some (TI.mk 6 true 72 (.agg [(.str ⟨#[]⟩), (.int .i64 0), (.int .i64 0), (.int .i64 0), (.int .i64 0), (.inl 3 [])]))) := by kernel_rfl
@[simp] theorem bld_144 : bldOf Tryz.prog 144 = true := by kernel_rfl
@[simp] theorem fld_144_0 : fldOf Tryz.prog 144 0 = (some (0, 9)) := by kernel_rfl
@[simp] theorem fld_144_1 : fldOf Tryz.prog 144 1 = (some (1, 3)) := by kernel_rfl
@[simp] theorem fld_144_2 : fldOf Tryz.prog 144 2 = (some (2, 3)) := by kernel_rfl
@[simp] theorem fld_144_3 : fldOf Tryz.prog 144 3 = (some (3, 3)) := by kernel_rfl
@[simp] theorem fld_144_4 : fldOf Tryz.prog 144 4 = (some (4, 3)) := by kernel_rfl
@[simp] theorem fld_144_5 : fldOf Tryz.prog 144 5 = (some (5, 143)) := by kernel_rfl
@[simp] theorem ti_145 : tiOf Tryz.prog 145 = (some (TI.mk 6 true 72 (.agg [(.str ⟨#[]⟩), (.int .i64 0), (.int .i64 0), (.int .i64 0), (.int .i64 0), (.inl 3 [])]))) := by kernel_rfl
@[simp] theorem bld_145 : bldOf Tryz.prog 145 = true := by kernel_rfl
@[simp] theorem fld_145_0 : fldOf Tryz.prog 145 0 = (some (0, 9)) := by kernel_rfl
@[simp] theorem fld_145_1 : fldOf Tryz.prog 145 1 = (some (1, 3)) := by kernel_rfl
@[simp] theorem fld_145_2 : fldOf Tryz.prog 145 2 = (some (2, 3)) := by kernel_rfl
@[simp] theorem fld_145_3 : fldOf Tryz.prog 145 3 = (some (3, 3)) := by kernel_rfl
@[simp] theorem fld_145_4 : fldOf Tryz.prog 145 4 = (some (4, 3)) := by kernel_rfl
@[simp] theorem fld_145_5 : fldOf Tryz.prog 145 5 = (some (5, 143)) := by kernel_rfl
@[simp] theorem ti_147 : tiOf Tryz.prog 147 = (some (TI.mk 2 true 32 (.agg [(.str ⟨#[]⟩), (.str ⟨#[]⟩)]))) := by kernel_rfl
@[simp] theorem eqs_147 : eqsOf Tryz.prog 147 = (some [(.str ⟨#[]⟩), (.str ⟨#[]⟩)]) := by kernel_rfl
@[simp] theorem bld_147 : bldOf Tryz.prog 147 = true := by kernel_rfl
@[simp] theorem fld_147_0 : fldOf Tryz.prog 147 0 = (some (0, 9)) := by kernel_rfl
@[simp] theorem fld_147_1 : fldOf Tryz.prog 147 1 = (some (1, 9)) := by kernel_rfl
@[simp] theorem ti_149 : tiOf Tryz.prog 149 = (some (TI.mk 1 false 24 (.inl 3 []))) := by kernel_rfl
@[simp] theorem el_149 : elOf Tryz.prog 149 = (some 159) := by kernel_rfl
@[simp] theorem ti_150 : tiOf Tryz.prog 150 = (some (TI.mk 6 true 72 (.agg [(.str ⟨#[]⟩), (.int .i64 0), (.int .i64 0), (.int .i64 0), (.int .i64 0), (.inl 3 [])]))) := by kernel_rfl
@[simp] theorem bld_150 : bldOf Tryz.prog 150 = true := by kernel_rfl
@[simp] theorem fld_150_0 : fldOf Tryz.prog 150 0 = (some (0, 9)) := by kernel_rfl
@[simp] theorem fld_150_1 : fldOf Tryz.prog 150 1 = (some (1, 3)) := by kernel_rfl
@[simp] theorem fld_150_2 : fldOf Tryz.prog 150 2 = (some (2, 3)) := by kernel_rfl
@[simp] theorem fld_150_3 : fldOf Tryz.prog 150 3 = (some (3, 3)) := by kernel_rfl
@[simp] theorem fld_150_4 : fldOf Tryz.prog 150 4 = (some (4, 3)) := by kernel_rfl
@[simp] theorem fld_150_5 : fldOf Tryz.prog 150 5 = (some (5, 149)) := by kernel_rfl
@[simp] theorem ti_151 : tiOf Tryz.prog 151 = (some (TI.mk 6 true 72 (.agg [(.str ⟨#[]⟩), (.int .i64 0), (.int .i64 0), (.int .i64 0), (.int .i64 0), (.inl 3 [])]))) := by kernel_rfl
@[simp] theorem bld_151 : bldOf Tryz.prog 151 = true := by kernel_rfl
@[simp] theorem fld_151_0 : fldOf Tryz.prog 151 0 = (some (0, 9)) := by kernel_rfl
@[simp] theorem fld_151_1 : fldOf Tryz.prog 151 1 = (some (1, 3)) := by kernel_rfl
@[simp] theorem fld_151_2 : fldOf Tryz.prog 151 2 = (some (2, 3)) := by kernel_rfl
@[simp] theorem fld_151_3 : fldOf Tryz.prog 151 3 = (some (3, 3)) := by kernel_rfl
@[simp] theorem fld_151_4 : fldOf Tryz.prog 151 4 = (some (4, 3)) := by kernel_rfl
@[simp] theorem fld_151_5 : fldOf Tryz.prog 151 5 = (some (5, 149)) := by kernel_rfl
@[simp] theorem ti_155 : tiOf Tryz.prog 155 = (some (TI.mk 1 false 8 .nilp)) := by kernel_rfl
@[simp] theorem ti_158 : tiOf Tryz.prog 158 = (some (TI.mk 3 true 32 (.agg [(.str ⟨#[]⟩), (.bool false), (.int .i64 0)]))) := by kernel_rfl
@[simp] theorem eqs_158 : eqsOf Tryz.prog 158 = (some [(.str ⟨#[]⟩), (.bool false), (.int .i64 0)]) := by kernel_rfl
@[simp] theorem bld_158 : bldOf Tryz.prog 158 = true := by kernel_rfl
@[simp] theorem fld_158_0 : fldOf Tryz.prog 158 0 = (some (0, 9)) := by kernel_rfl
@[simp] theorem fld_158_1 : fldOf Tryz.prog 158 1 = (some (1, 4)) := by kernel_rfl
@[simp] theorem fld_158_2 : fldOf Tryz.prog 158 2 = (some (2, 3)) := by kernel_rfl
@[simp] theorem ti_159 : tiOf Tryz.prog 159 = (some (TI.mk 3 true 32 (.agg [(.str ⟨#[]⟩), (.bool false), (.int .i64 0)]))) := by kernel_rfl
@[simp] theorem eqs_159 : eqsOf Tryz.prog 159 = (some [(.str ⟨#[]⟩), (.bool false), (.int .i64 0)]) := by kernel_rfl
@[simp] theorem bld_159 : bldOf Tryz.prog 159 = true := by kernel_rfl
@[simp] theorem fld_159_0 : fldOf Tryz.prog 159 0 = (some (0, 9)) := by kernel_rfl
@[simp] theorem fld_159_1 : fldOf Tryz.prog 159 1 = (some (1, 4)) := by kernel_rfl
@[simp] theorem fld_159_2 : fldOf Tryz.prog 159 2 = (some (2, 3)) := by kernel_rfl
@[simp] theorem ti_162 : tiOf Tryz.prog 162 = (some (TI.mk 1 false 24 (.inl 3 []))) := by kernel_rfl
@[simp] theorem el_162 : elOf Tryz.prog 162 = (some 184) := by kernel_rfl
@[simp] theorem ti_163 : tiOf Tryz.prog 163 = (some (TI.mk 6 true 80 (.agg [(.int .i64 0), (.int .i64 0), (.int .i64 0), (.inl 3 []), (.str ⟨#[]⟩), (.str ⟨#[]⟩)]))) := by kernel_rfl
@[simp] theorem bld_163 : bldOf Tryz.prog 163 = true := by kernel_rfl
@[simp] theorem fld_163_0 : fldOf Tryz.prog 163 0 = (some (0, 3)) := by kernel_rfl
@[simp] theorem fld_163_1 : fldOf Tryz.prog 163 1 = (some (1, 3)) := by kernel_rfl
@[simp] theorem fld_163_2 : fldOf Tryz.prog 163 2 = (some (2, 3)) := by kernel_rfl
@[simp] theorem fld_163_3 : fldOf Tryz.prog 163 3 = (some (3, 162)) := by kernel_rfl
@[simp] theorem fld_163_4 : fldOf Tryz.prog 163 4 = (some (4, 9)) := by kernel_rfl
@[simp] theorem fld_163_5 : fldOf Tryz.prog 163 5 = (some (5, 9)) := by kernel_rfl
@[simp] theorem ti_164 : tiOf Tryz.prog 164 = (some (TI.mk 6 true 80 (.agg [(.int .i64 0), (.int .i64 0), (.int .i64 0), (.inl 3 []), (.str ⟨#[]⟩), (.str ⟨#[]⟩)]))) := by kernel_rfl
@[simp] theorem bld_164 : bldOf Tryz.prog 164 = true := by kernel_rfl
@[simp] theorem fld_164_0 : fldOf Tryz.prog 164 0 = (some (0, 3)) := by kernel_rfl
@[simp] theorem fld_164_1 : fldOf Tryz.prog 164 1 = (some (1, 3)) := by kernel_rfl
@[simp] theorem fld_164_2 : fldOf Tryz.prog 164 2 = (some (2, 3)) := by kernel_rfl
@[simp] theorem fld_164_3 : fldOf Tryz.prog 164 3 = (some (3, 162)) := by kernel_rfl
@[simp] theorem fld_164_4 : fldOf Tryz.prog 164 4 = (some (4, 9)) := by kernel_rfl
@[simp] theorem fld_164_5 : fldOf Tryz.prog 164 5 = (some (5, 9)) := by kernel_rfl
@[simp] theorem ti_171 : tiOf Tryz.prog 171 = (some (TI.mk 1 false 8 .nilp)) := by kernel_rfl
@[simp] theorem ti_174 : tiOf Tryz.prog 174 = (some (TI.mk 1 false 8 (.raw (.mp none)))) := by kernel_rfl
@[simp] theorem ti_175 : tiOf Tryz.prog 175 = (some (TI.mk 3 true 56 (.agg [(.inl 6 []), (.inl 6 []), (.raw (.mp none))]))) := by kernel_rfl
@[simp] theorem bld_175 : bldOf Tryz.prog 175 = true := by kernel_rfl
@[simp] theorem fld_175_0 : fldOf Tryz.prog 175 0 = (some (0, 29)) := by kernel_rfl
@[simp] theorem fld_175_1 : fldOf Tryz.prog 175 1 = (some (1, 29)) := by kernel_rfl
@[simp] theorem fld_175_2 : fldOf Tryz.prog 175 2 = (some (2, 174)) := by kernel_rfl
@[simp] theorem ti_176 : tiOf Tryz.prog 176 = (some (TI.mk 3 true 56 (.agg [(.inl 6 []), (.inl 6 []), (.raw (.mp none))]))) := by kernel_rfl
@[simp] theorem bld_176 : bldOf Tryz.prog 176 = true := by kernel_rfl
@[simp] theorem fld_176_0 : fldOf Tryz.prog 176 0 = (some (0, 29)) := by kernel_rfl
@[simp] theorem fld_176_1 : fldOf Tryz.prog 176 1 = (some (1, 29)) := by kernel_rfl
@[simp] theorem fld_176_2 : fldOf Tryz.prog 176 2 = (some (2, 174)) := by kernel_rfl
@[simp] theorem ti_183 : tiOf Tryz.prog 183 = (some (TI.mk 3 true 32 (.agg [(.str ⟨#[]⟩), (.int .i64 0), (.int .i64 0)]))) := by kernel_rfl
@[simp] theorem eqs_183 : eqsOf Tryz.prog 183 = (some [(.str ⟨#[]⟩), (.int .i64 0), (.int .i64 0)]) := by kernel_rfl
@[simp] theorem bld_183 : bldOf Tryz.prog 183 = true := by kernel_rfl
@[simp] theorem fld_183_0 : fldOf Tryz.prog 183 0 = (some (0, 9)) := by kernel_rfl
@[simp] theorem fld_183_1 : fldOf Tryz.prog 183 1 = (some (1, 3)) := by kernel_rfl
@[simp] theorem fld_183_2 : fldOf Tryz.prog 183 2 = (some (2, 3)) := by kernel_rfl
@[simp] theorem ti_184 : tiOf Tryz.prog 184 = (some (TI.mk 3 true 32 (.agg [(.str ⟨#[]⟩), (.int .i64 0), (.int .i64 0)]))) := by kernel_rfl
@[simp] theorem eqs_184 : eqsOf Tryz.prog 184 = (some [(.str ⟨#[]⟩), (.int .i64 0), (.int .i64 0)]) := by kernel_rfl
@[simp] theorem bld_184 : bldOf Tryz.prog 184 = true := by kernel_rfl
@[simp] theorem fld_184_0 : fldOf Tryz.prog 184 0 = (some (0, 9)) := by kernel_rfl
@[simp] theorem fld_184_1 : fldOf Tryz.prog 184 1 = (some (1, 3)) := by kernel_rfl
@[simp] theorem fld_184_2 : fldOf Tryz.prog 184 2 = (some (2, 3)) := by kernel_rfl
@[simp] theorem ti_185 : tiOf Tryz.prog 185 = (some (TI.mk 1 false 24 (.inl 1 []))) := by kernel_rfl
@[simp] theorem el_185 : elOf Tryz.prog 185 = (some 5) := by kernel_rfl
@[simp] theorem ti_187 : tiOf Tryz.prog 187 = (some (TI.mk 1 false 8 .nilp)) := by kernel_rfl
@[simp] theorem ti_188 : tiOf Tryz.prog 188 = (some (TI.mk 3 true 32 (.agg [(.str ⟨#[]⟩), (.int .i64 0), (.int .i64 0)]))) := by kernel_rfl
@[simp] theorem eqs_188 : eqsOf Tryz.prog 188 = (some [(.str ⟨#[]⟩), (.int .i64 0), (.int .i64 0)]) := by kernel_rfl
@[simp] theorem bld_188 : bldOf Tryz.prog 188 = true := by kernel_rfl
@[simp] theorem fld_188_0 : fldOf Tryz.prog 188 0 = (some (0, 9)) := by kernel_rfl
@[simp] theorem fld_188_1 : fldOf Tryz.prog 188 1 = (some (1, 3)) := by kernel_rfl
@[simp] theorem fld_188_2 : fldOf Tryz.prog 188 2 = (some (2, 3)) := by kernel_rfl
@[simp] theorem ti_189 : tiOf Tryz.prog 189 = (some (TI.mk 3 true 32 (.agg [(.str ⟨#[]⟩), (.int .i64 0), (.int .i64 0)]))) := by kernel_rfl
@[simp] theorem eqs_189 : eqsOf Tryz.prog 189 = (some [(.str ⟨#[]⟩), (.int .i64 0), (.int .i64 0)]) := by kernel_rfl
@[simp] theorem bld_189 : bldOf Tryz.prog 189 = true := by kernel_rfl
@[simp] theorem fld_189_0 : fldOf Tryz.prog 189 0 = (some (0, 9)) := by kernel_rfl
@[simp] theorem fld_189_1 : fldOf Tryz.prog 189 1 = (some (1, 3)) := by kernel_rfl
@[simp] theorem fld_189_2 : fldOf Tryz.prog 189 2 = (some (2, 3)) := by kernel_rfl
@[simp] theorem ti_205 : tiOf Tryz.prog 205 = (some (TI.mk 1 false 24 (.inl 1 []))) := by kernel_rfl
@[simp] theorem el_205 : elOf Tryz.prog 205 = (some 3) := by kernel_rfl
@[simp] theorem ti_206 : tiOf Tryz.prog 206 = (some (TI.mk 3 true 72 (.agg [(.inl 6 []), (.inl 1 []), (.inl 1 [])]))) := by kernel_rfl
@[simp] theorem bld_206 : bldOf Tryz.prog 206 = true := by kernel_rfl
@[simp] theorem fld_206_0 : fldOf Tryz.prog 206 0 = (some (0, 29)) := by kernel_rfl
@[simp] theorem fld_206_1 : fldOf Tryz.prog 206 1 = (some (1, 205)) := by kernel_rfl
@[simp] theorem fld_206_2 : fldOf Tryz.prog 206 2 = (some (2, 205)) := by kernel_rfl
@[simp] theorem ti_207 : tiOf Tryz.prog 207 = (some (TI.mk 3 true 72 (.agg [(.inl 6 []), (.inl 1 []), (.inl 1 [])]))) := by kernel_rfl
@[simp] theorem bld_207 : bldOf Tryz.prog 207 = true := by kernel_rfl
@[simp] theorem fld_207_0 : fldOf Tryz.prog 207 0 = (some (0, 29)) := by kernel_rfl
@[simp] theorem fld_207_1 : fldOf Tryz.prog 207 1 = (some (1, 205)) := by kernel_rfl
@[simp] theorem fld_207_2 : fldOf Tryz.prog 207 2 = (some (2, 205)) := by kernel_rfl
@[simp] theorem ti_219 : tiOf Tryz.prog 219 = (some (TI.mk 1 false 8 .nilp)) := by kernel_rfl
@[simp] theorem ti_230 : tiOf Tryz.prog 230 = (some (TI.mk 1 false 24 (.inl 3 []))) := by kernel_rfl
@[simp] theorem el_230 : elOf Tryz.prog 230 = (some 255) := by kernel_rfl
@[simp] theorem ti_235 : tiOf Tryz.prog 235 = (some (TI.mk 3 true 32 (.agg [(.str ⟨#[]⟩), (.int .i64 0), (.int .i64 0)]))) := by kernel_rfl
@[simp] theorem eqs_235 : eqsOf Tryz.prog 235 = (some [(.str ⟨#[]⟩), (.int .i64 0), (.int .i64 0)]) := by kernel_rfl
@[simp] theorem bld_235 : bldOf Tryz.prog 235 = true := by kernel_rfl
@[simp] theorem fld_235_0 : fldOf Tryz.prog 235 0 = (some (0, 9)) := by kernel_rfl
@[simp] theorem fld_235_1 : fldOf Tryz.prog 235 1 = (some (1, 3)) := by kernel_rfl
@[simp] theorem fld_235_2 : fldOf Tryz.prog 235 2 = (some (2, 3)) := by kernel_rfl
@[simp] theorem ti_237 : tiOf Tryz.prog 237 = (some (TI.mk 3 true 32 (.agg [(.str ⟨#[]⟩), (.bool false), (.int .i64 0)]))) := by kernel_rfl
@[simp] theorem eqs_237 : eqsOf Tryz.prog 237 = (some [(.str ⟨#[]⟩), (.bool false), (.int .i64 0)]) := by kernel_rfl
@[simp] theorem bld_237 : bldOf Tryz.prog 237 = true := by kernel_rfl
@[simp] theorem fld_237_0 : fldOf Tryz.prog 237 0 = (some (0, 9)) := by kernel_rfl
@[simp] theorem fld_237_1 : fldOf Tryz.prog 237 1 = (some (1, 4)) := by kernel_rfl
@[simp] theorem fld_237_2 : fldOf Tryz.prog 237 2 = (some (2, 3)) := by kernel_rfl
@[simp] theorem ti_254 : tiOf Tryz.prog 254 = (some (TI.mk 3 true 32 (.agg [(.str ⟨#[]⟩), (.int .i64 0), (.int .i64 0)]))) := by kernel_rfl
@[simp] theorem eqs_254 : eqsOf Tryz.prog 254 = (some [(.str ⟨#[]⟩), (.int .i64 0), (.int .i64 0)]) := by kernel_rfl
@[simp] theorem bld_254 : bldOf Tryz.prog 254 = true := by kernel_rfl
@[simp] theorem fld_254_0 : fldOf Tryz.prog 254 0 = (some (0, 9)) := by kernel_rfl
@[simp] theorem fld_254_1 : fldOf Tryz.prog 254 1 = (some (1, 3)) := by kernel_rfl
@[simp] theorem fld_254_2 : fldOf Tryz.prog 254 2 = (some (2, 3)) := by kernel_rfl
@[simp] theorem ti_255 : tiOf Tryz.prog 255 = (some (TI.mk 3 true 32 (.agg [(.str ⟨#[]⟩), (.int .i64 0), (.int .i64 0)]))) := by kernel_rfl
@[simp] theorem eqs_255 : eqsOf Tryz.prog 255 = (some [(.str ⟨#[]⟩), (.int .i64 0), (.int .i64 0)]) := by kernel_rfl
@[simp] theorem bld_255 : bldOf Tryz.prog 255 = true := by kernel_rfl
@[simp] theorem fld_255_0 : fldOf Tryz.prog 255 0 = (some (0, 9)) := by kernel_rfl
@[simp] theorem fld_255_1 : fldOf Tryz.prog 255 1 = (some (1, 3)) := by kernel_rfl
@[simp] theorem fld_255_2 : fldOf Tryz.prog 255 2 = (some (2, 3)) := by kernel_rfl
@[simp] theorem ti_265 : tiOf Tryz.prog 265 = (some (TI.mk 1 false 8 (.int .u64 0))) := by kernel_rfl
@[simp] theorem int_265 : intOf Tryz.prog 265 = (some .u64) := by kernel_rfl
@[simp] theorem ti_276 : tiOf Tryz.prog 276 = (some (TI.mk 1 false 8 (.int .i64 0))) := by kernel_rfl
@[simp] theorem int_276 : intOf Tryz.prog 276 = (some .i64) := by kernel_rfl
@[simp] theorem ti_284 : tiOf Tryz.prog 284 = (some (TI.mk 1 false 4 (.int .u32 0))) := by kernel_rfl
@[simp] theorem int_284 : intOf Tryz.prog 284 = (some .u32) := by kernel_rfl
@[simp] theorem ti_286 : tiOf Tryz.prog 286 = (some (TI.mk 1 false 8 (.int .u64 0))) := by kernel_rfl
@[simp] theorem int_286 : intOf Tryz.prog 286 = (some .u64) := by kernel_rfl
@[simp] theorem ti_289 : tiOf Tryz.prog 289 = (some (TI.mk 1 false 8 (.int .u64 0))) := by kernel_rfl
@[simp] theorem int_289 : intOf Tryz.prog 289 = (some .u64) := by kernel_rfl
@[simp] theorem ti_293 : tiOf Tryz.prog 293 = (some (TI.mk 1 false 8 .nilp)) := by kernel_rfl
@[simp] theorem ti_301 : tiOf Tryz.prog 301 = (some (TI.mk 1 false 8 .nilp)) := by kernel_rfl
@[simp] theorem ti_307 : tiOf Tryz.prog 307 = (some (TI.mk 4 true 40 (.agg [.nilp, .nilp, .nilp, (.str ⟨#[]⟩)]))) := by kernel_rfl
@[simp] theorem bld_307 : bldOf Tryz.prog 307 = true := by kernel_rfl
@[simp] theorem fld_307_0 : fldOf Tryz.prog 307 0 = (some (0, 17)) := by kernel_rfl
@[simp] theorem fld_307_1 : fldOf Tryz.prog 307 1 = (some (1, 17)) := by kernel_rfl
@[simp] theorem fld_307_2 : fldOf Tryz.prog 307 2 = (some (2, 17)) := by kernel_rfl
@[simp] theorem fld_307_3 : fldOf Tryz.prog 307 3 = (some (3, 9)) := by kernel_rfl
@[simp] theorem ti_308 : tiOf Tryz.prog 308 = (some (TI.mk 4 true 40 (.agg [.nilp, .nilp, .nilp, (.str ⟨#[]⟩)]))) := by kernel_rfl
@[simp] theorem bld_308 : bldOf Tryz.prog 308 = true := by kernel_rfl
@[simp] theorem fld_308_0 : fldOf Tryz.prog 308 0 = (some (0, 17)) := by kernel_rfl
@[simp] theorem fld_308_1 : fldOf Tryz.prog 308 1 = (some (1, 17)) := by kernel_rfl
@[simp] theorem fld_308_2 : fldOf Tryz.prog 308 2 = (some (2, 17)) := by kernel_rfl
@[simp] theorem fld_308_3 : fldOf Tryz.prog 308 3 = (some (3, 9)) := by kernel_rfl
@[simp] theorem bld_310 : bldOf Tryz.prog 310 = true := by kernel_rfl
@[simp] theorem bld_311 : bldOf Tryz.prog 311 = true := by kernel_rfl
@[simp] theorem ti_312 : tiOf Tryz.prog 312 = (some (TI.mk 1 false 1 (.int .u8 0))) := by kernel_rfl
@[simp] theorem int_312 : intOf Tryz.prog 312 = (some .u8) := by kernel_rfl
@[simp] theorem ti_313 : tiOf Tryz.prog 313 = (some (TI.mk 1 false 1 (.int .u8 0))) := by kernel_rfl
@[simp] theorem int_313 : intOf Tryz.prog 313 = (some .u8) := by kernel_rfl
@[simp] theorem ti_315 : tiOf Tryz.prog 315 = (some (TI.mk 1 false 8 .nilp)) := by kernel_rfl
@[simp] theorem ti_316 : tiOf Tryz.prog 316 = (some (TI.mk 1 false 4 (.int .i32 0))) := by kernel_rfl
@[simp] theorem int_316 : intOf Tryz.prog 316 = (some .i32) := by kernel_rfl
@[simp] theorem ti_317 : tiOf Tryz.prog 317 = (some (TI.mk 1 false 4 (.int .i32 0))) := by kernel_rfl
@[simp] theorem int_317 : intOf Tryz.prog 317 = (some .i32) := by kernel_rfl
@[simp] theorem bld_318 : bldOf Tryz.prog 318 = true := by kernel_rfl
@[simp] theorem fld_318_0 : fldOf Tryz.prog 318 0 = (some (0, 12)) := by kernel_rfl
@[simp] theorem fld_318_1 : fldOf Tryz.prog 318 1 = (some (1, 12)) := by kernel_rfl
@[simp] theorem fld_318_2 : fldOf Tryz.prog 318 2 = (some (2, 284)) := by kernel_rfl
@[simp] theorem fld_318_3 : fldOf Tryz.prog 318 3 = (some (3, 312)) := by kernel_rfl
@[simp] theorem fld_318_4 : fldOf Tryz.prog 318 4 = (some (4, 5)) := by kernel_rfl
@[simp] theorem fld_318_5 : fldOf Tryz.prog 318 5 = (some (5, 5)) := by kernel_rfl
@[simp] theorem fld_318_6 : fldOf Tryz.prog 318 6 = (some (6, 313)) := by kernel_rfl
@[simp] theorem fld_318_7 : fldOf Tryz.prog 318 7 = (some (7, 314)) := by kernel_rfl
@[simp] theorem fld_318_8 : fldOf Tryz.prog 318 8 = (some (8, 315)) := by kernel_rfl
@[simp] theorem fld_318_9 : fldOf Tryz.prog 318 9 = (some (9, 316)) := by kernel_rfl
@[simp] theorem fld_318_10 : fldOf Tryz.prog 318 10 = (some (10, 317)) := by kernel_rfl
@[simp] theorem bld_319 : bldOf Tryz.prog 319 = true := by kernel_rfl
@[simp] theorem fld_319_0 : fldOf Tryz.prog 319 0 = (some (0, 12)) := by kernel_rfl
@[simp] theorem fld_319_1 : fldOf Tryz.prog 319 1 = (some (1, 12)) := by kernel_rfl
@[simp] theorem fld_319_2 : fldOf Tryz.prog 319 2 = (some (2, 284)) := by kernel_rfl
@[simp] theorem fld_319_3 : fldOf Tryz.prog 319 3 = (some (3, 312)) := by kernel_rfl
@[simp] theorem fld_319_4 : fldOf Tryz.prog 319 4 = (some (4, 5)) := by kernel_rfl
@[simp] theorem fld_319_5 : fldOf Tryz.prog 319 5 = (some (5, 5)) := by kernel_rfl
@[simp] theorem fld_319_6 : fldOf Tryz.prog 319 6 = (some (6, 313)) := by kernel_rfl
@[simp] theorem fld_319_7 : fldOf Tryz.prog 319 7 = (some (7, 314)) := by kernel_rfl
@[simp] theorem fld_319_8 : fldOf Tryz.prog 319 8 = (some (8, 315)) := by kernel_rfl
@[simp] theorem fld_319_9 : fldOf Tryz.prog 319 9 = (some (9, 316)) := by kernel_rfl
@[simp] theorem fld_319_10 : fldOf Tryz.prog 319 10 = (some (10, 317)) := by kernel_rfl
end Go.TM.ZT
end
section
namespace Go.TM
open Go
structure Knw where
  mod : ByteArray
  name : ByteArray
  value : Int
@[simp] def Knw.v (x : Knw) : V := .agg [.str x.mod, .str x.name, .int .i64 x.value]
@[simp] theorem cut_knw (xs : List Knw) : (xs = [] ∨ (leaves ((Option.map Knw.v xs[0]?).getD .bad)).length = 3) = True := cut_ok (f := Knw.v) (n := 3) (fun _ => rfl) xs
@[simp] theorem norms_knw (xs : List Knw) : norms (xs.map Knw.v) = xs.map Knw.v := by rw [norms_map]; simp
@[simp] theorem noLs_knw (xs : List Knw) : noLs (xs.map Knw.v) = true := noLs_map _ (by simp) _
theorem Knw.v_inj : Function.Injective Knw.v := by rintro ⟨⟩ ⟨⟩; simp
def Knw.sz (x : Knw) : Nat := x.mod.size + x.name.size
def Knw.lim (x : Knw) : Prop := x.mod.size ≤ TM.lim ∧ x.name.size ≤ TM.lim
def mkKnw (k : Int) (_ : Knw) : Knw := ⟨mtext k, mtext (k + 1), k + 1 + 1⟩
def cKnw (_ : Knw) : Nat := 3
end Go.TM
end
section
namespace Go.TM
open Go
@[simp] theorem cut_scp (xs : List Scp) : (xs = [] ∨ (leaves ((Option.map Scp.v xs[0]?).getD .bad)).length = 5) = True := cut_ok (f := Scp.v) (n := 5) (fun _ => rfl) xs
@[simp] theorem norms_scp (xs : List Scp) : norms (xs.map Scp.v) = xs.map Scp.v := by rw [norms_map]; simp
@[simp] theorem norms_scpo (xs : List Scp) : norms (xs.map Scp.o) = xs.map Scp.v := by rw [norms_map]; simp
@[simp] theorem noLs_scpo (xs : List Scp) : noLs (xs.map Scp.o) = true := noLs_map _ (by simp) _
end Go.TM
end
section
namespace Go.TM
open Go
structure Mdl where
  scope : Scp
  seen : List Knw
@[simp] def Mdl.v (x : Mdl) : V := .agg [.str x.scope.name, .lst (x.scope.imports.map V.str), .lst (x.scope.types.map Ty.v), .lst (x.scope.objects.map Obj.v), .lst (x.scope.uses.map Use.v), .lst (x.seen.map Knw.v)]
@[simp] def Mdl.o (x : Mdl) : V := .agg [.str x.scope.name, .inl 1 (x.scope.imports.map V.str), .inl 6 (x.scope.types.map Ty.o), .inl 6 (x.scope.objects.map Obj.o), .inl 2 (x.scope.uses.map Use.v), .inl 3 (x.seen.map Knw.v)]
@[simp] theorem cut_mdl (xs : List Mdl) : (xs = [] ∨ (leaves ((Option.map Mdl.v xs[0]?).getD .bad)).length = 6) = True := cut_ok (f := Mdl.v) (n := 6) (fun _ => rfl) xs
@[simp] theorem norms_mdl (xs : List Mdl) : norms (xs.map Mdl.v) = xs.map Mdl.v := by rw [norms_map]; simp
@[simp] theorem norms_mdlo (xs : List Mdl) : norms (xs.map Mdl.o) = xs.map Mdl.v := by rw [norms_map]; simp
@[simp] theorem noLs_mdlo (xs : List Mdl) : noLs (xs.map Mdl.o) = true := noLs_map _ (by simp) _
theorem Mdl.v_inj : Function.Injective Mdl.v := by
  rintro ⟨⟨⟩, _⟩ ⟨⟨⟩, _⟩ h
  simp only [Mdl.v, V.agg.injEq, List.cons.injEq, V.lst.injEq, V.str.injEq, and_true] at h
  rw [Mdl.mk.injEq, Scp.mk.injEq]
  exact ⟨⟨h.1, map_inj str_inj h.2.1, map_inj Ty.v_inj h.2.2.1, map_inj Obj.v_inj h.2.2.2.1, map_inj Use.v_inj h.2.2.2.2.1⟩, map_inj Knw.v_inj h.2.2.2.2.2⟩
theorem Mdl.o_inj : Function.Injective Mdl.o := by
  rintro ⟨⟨⟩, _⟩ ⟨⟨⟩, _⟩ h
  simp only [Mdl.o, V.agg.injEq, List.cons.injEq, V.inl.injEq, V.str.injEq, true_and, and_true] at h
  rw [Mdl.mk.injEq, Scp.mk.injEq]
  exact ⟨⟨h.1, map_inj str_inj h.2.1, map_inj Ty.o_inj h.2.2.1, map_inj Obj.o_inj h.2.2.2.1, map_inj Use.v_inj h.2.2.2.2.1⟩, map_inj Knw.v_inj h.2.2.2.2.2⟩
def Mdl.sz (x : Mdl) : Nat := x.scope.sz + szL Knw.sz x.seen
def Mdl.lim (x : Mdl) : Prop := x.scope.lim ∧ limL Knw.lim x.seen
end Go.TM
end
section
namespace Go.TM
open Go
instance : DecidableEq Use := fun x y => decidable_of_iff (x.mod = y.mod ∧ x.name = y.name) (by cases x; cases y; simp)
instance : DecidableEq Par := fun x y => decidable_of_iff (x.name = y.name ∧ x.byVar = y.byVar ∧ x.type = y.type) (by cases x; cases y; simp)
instance : DecidableEq Fld := fun x y => decidable_of_iff (x.name = y.name ∧ x.mark = y.mark ∧ x.type = y.type) (by cases x; cases y; simp)
instance : DecidableEq Ty := fun x y => decidable_of_iff (x.kind = y.kind ∧ x.long = y.long ∧ x.base = y.base ∧ x.fields = y.fields ∧ x.owner = y.owner ∧ x.name = y.name) (by cases x; cases y; simp)
instance : DecidableEq Obj := fun x y => decidable_of_iff (x.name = y.name ∧ x.kind = y.kind ∧ x.mark = y.mark ∧ x.type = y.type ∧ x.value = y.value ∧ x.params = y.params) (by cases x; cases y; simp)
instance : DecidableEq Scp := fun x y => decidable_of_iff (x.name = y.name ∧ x.imports = y.imports ∧ x.types = y.types ∧ x.objects = y.objects ∧ x.uses = y.uses) (by cases x; cases y; simp)
end Go.TM
end
