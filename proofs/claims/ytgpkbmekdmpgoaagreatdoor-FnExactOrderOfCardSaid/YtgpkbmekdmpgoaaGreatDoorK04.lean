/- A part of the proof: ZT, ZTo, UT, UI, UD, QA. -/
import Derived.Test.YtgpkbmekdmpgoaaGreatDoorK03
import Derived.Test.YtgpkbmekdmpgoaaGreatDoorProg
import Derived.KernelRfl
set_option linter.unusedVariables false
set_option linter.unusedSimpArgs false
section
namespace Go.TM.ZT
open Go.Proofs
@[simp] theorem ti_2 : tiOf Tryz.prog 2 = (some (TI.mk 1 false 8 (.int .i64 0))) := by kernel_rfl
@[simp] theorem int_2 : intOf Tryz.prog 2 = (some .i64) := by kernel_rfl
@[simp] theorem ti_3 : tiOf Tryz.prog 3 = (some (TI.mk 1 false 8 (.int .i64 0))) := by kernel_rfl
@[simp] theorem int_3 : intOf Tryz.prog 3 = (some .i64) := by kernel_rfl
@[simp] theorem ti_4 : tiOf Tryz.prog 4 = (some (TI.mk 1 false 1 (.bool false))) := by kernel_rfl
@[simp] theorem bol_4 : bolOf Tryz.prog 4 = true := by kernel_rfl
@[simp] theorem ti_5 : tiOf Tryz.prog 5 = (some (TI.mk 1 false 1 (.int .u8 0))) := by kernel_rfl
@[simp] theorem int_5 : intOf Tryz.prog 5 = (some .u8) := by kernel_rfl
@[simp] theorem ti_6 : tiOf Tryz.prog 6 = (some (TI.mk 1 false 1 (.int .u8 0))) := by kernel_rfl
@[simp] theorem int_6 : intOf Tryz.prog 6 = (some .u8) := by kernel_rfl
@[simp] theorem ti_7 : tiOf Tryz.prog 7 = (some (TI.mk 4 true 24 (.agg [(.int .i64 0), (.int .i64 0), (.bool false), (.int .u8 0)]))) := by kernel_rfl
@[simp] theorem eqs_7 : eqsOf Tryz.prog 7 = (some [(.int .i64 0), (.int .i64 0), (.bool false), (.int .u8 0)]) := by kernel_rfl
@[simp] theorem bld_7 : bldOf Tryz.prog 7 = true := by kernel_rfl
@[simp] theorem fld_7_0 : fldOf Tryz.prog 7 0 = (some (0, 2)) := by kernel_rfl
@[simp] theorem fld_7_1 : fldOf Tryz.prog 7 1 = (some (1, 3)) := by kernel_rfl
@[simp] theorem fld_7_2 : fldOf Tryz.prog 7 2 = (some (2, 4)) := by kernel_rfl
@[simp] theorem fld_7_3 : fldOf Tryz.prog 7 3 = (some (3, 6)) := by kernel_rfl
@[simp] theorem ti_8 : tiOf Tryz.prog 8 = (some (TI.mk 4 true 24 (.agg [(.int .i64 0), (.int .i64 0), (.bool false), (.int .u8 0)]))) := by kernel_rfl
@[simp] theorem eqs_8 : eqsOf Tryz.prog 8 = (some [(.int .i64 0), (.int .i64 0), (.bool false), (.int .u8 0)]) := by kernel_rfl
@[simp] theorem bld_8 : bldOf Tryz.prog 8 = true := by kernel_rfl
@[simp] theorem fld_8_0 : fldOf Tryz.prog 8 0 = (some (0, 2)) := by kernel_rfl
@[simp] theorem fld_8_1 : fldOf Tryz.prog 8 1 = (some (1, 3)) := by kernel_rfl
@[simp] theorem fld_8_2 : fldOf Tryz.prog 8 2 = (some (2, 4)) := by kernel_rfl
@[simp] theorem fld_8_3 : fldOf Tryz.prog 8 3 = (some (3, 6)) := by kernel_rfl
@[simp] theorem ti_9 : tiOf Tryz.prog 9 = (some (TI.mk 1 false 16 (.str ⟨#[]⟩))) := by kernel_rfl
@[simp] theorem str_9 : strOf Tryz.prog 9 = true := by kernel_rfl
@[simp] theorem ti_10 : tiOf Tryz.prog 10 = (some (TI.mk 1 false 16 (.str ⟨#[]⟩))) := by kernel_rfl
@[simp] theorem str_10 : strOf Tryz.prog 10 = true := by kernel_rfl
@[simp] theorem ti_11 : tiOf Tryz.prog 11 = (some (TI.mk 1 false 16 (.str ⟨#[]⟩))) := by kernel_rfl
@[simp] theorem str_11 : strOf Tryz.prog 11 = true := by kernel_rfl
@[simp] theorem ti_12 : tiOf Tryz.prog 12 = (some (TI.mk 1 false 8 (.int .u64 0))) := by kernel_rfl
@[simp] theorem int_12 : intOf Tryz.prog 12 = (some .u64) := by kernel_rfl
@[simp] theorem ti_13 : tiOf Tryz.prog 13 = (some (TI.mk 2 true 24 (.agg [(.str ⟨#[]⟩), (.int .u64 0)]))) := by kernel_rfl
@[simp] theorem bld_13 : bldOf Tryz.prog 13 = true := by kernel_rfl
@[simp] theorem fld_13_0 : fldOf Tryz.prog 13 0 = (some (0, 9)) := by kernel_rfl
@[simp] theorem fld_13_1 : fldOf Tryz.prog 13 1 = (some (1, 12)) := by kernel_rfl
@[simp] theorem ti_14 : tiOf Tryz.prog 14 = (some (TI.mk 2 true 24 (.agg [(.str ⟨#[]⟩), (.int .u64 0)]))) := by kernel_rfl
@[simp] theorem bld_14 : bldOf Tryz.prog 14 = true := by kernel_rfl
@[simp] theorem fld_14_0 : fldOf Tryz.prog 14 0 = (some (0, 9)) := by kernel_rfl
@[simp] theorem fld_14_1 : fldOf Tryz.prog 14 1 = (some (1, 12)) := by kernel_rfl
@[simp] theorem ti_15 : tiOf Tryz.prog 15 = (some (TI.mk 1 false 8 .nilp)) := by kernel_rfl
@[simp] theorem ti_16 : tiOf Tryz.prog 16 = (some (TI.mk 1 false 8 .nilp)) := by kernel_rfl
@[simp] theorem ti_17 : tiOf Tryz.prog 17 = (some (TI.mk 1 false 8 .nilp)) := by kernel_rfl
@[simp] theorem ti_18 : tiOf Tryz.prog 18 = (some (TI.mk 1 true 8 (.agg [.nilp]))) := by kernel_rfl
@[simp] theorem bld_18 : bldOf Tryz.prog 18 = true := by kernel_rfl
@[simp] theorem fld_18_0 : fldOf Tryz.prog 18 0 = (some (0, 17)) := by kernel_rfl
@[simp] theorem ti_19 : tiOf Tryz.prog 19 = (some (TI.mk 1 true 8 (.agg [.nilp]))) := by kernel_rfl
@[simp] theorem bld_19 : bldOf Tryz.prog 19 = true := by kernel_rfl
@[simp] theorem fld_19_0 : fldOf Tryz.prog 19 0 = (some (0, 17)) := by kernel_rfl
@[simp] theorem ti_20 : tiOf Tryz.prog 20 = (some (TI.mk 1 false 16 .nili)) := by kernel_rfl
@[simp] theorem ifc_20 : ifcOf Tryz.prog 20 = true := by kernel_rfl
@[simp] theorem ti_21 : tiOf Tryz.prog 21 = (some (TI.mk 1 false 4 (.int .i32 0))) := by kernel_rfl
@[simp] theorem int_21 : intOf Tryz.prog 21 = (some .i32) := by kernel_rfl
@[simp] theorem ti_22 : tiOf Tryz.prog 22 = (some (TI.mk 1 false 24 (.inl 4 []))) := by kernel_rfl
@[simp] theorem el_22 : elOf Tryz.prog 22 = (some 77) := by kernel_rfl
@[simp] theorem ti_24 : tiOf Tryz.prog 24 = (some (TI.mk 1 false 24 (.inl 4 []))) := by kernel_rfl
@[simp] theorem el_24 : elOf Tryz.prog 24 = (some 90) := by kernel_rfl
@[simp] theorem ti_27 : tiOf Tryz.prog 27 = (some (TI.mk 1 false 24 (.inl 4 []))) := by kernel_rfl
@[simp] theorem el_27 : elOf Tryz.prog 27 = (some 82) := by kernel_rfl
@[simp] theorem ti_34 : tiOf Tryz.prog 34 = (some (TI.mk 1 false 24 (.inl 2 []))) := by kernel_rfl
@[simp] theorem el_34 : elOf Tryz.prog 34 = (some 95) := by kernel_rfl
@[simp] theorem ti_36 : tiOf Tryz.prog 36 = (some (TI.mk 1 false 24 (.inl 1 []))) := by kernel_rfl
@[simp] theorem el_36 : elOf Tryz.prog 36 = (some 46) := by kernel_rfl
@[simp] theorem ti_39 : tiOf Tryz.prog 39 = (some (TI.mk 1 false 24 (.inl 2 []))) := by kernel_rfl
@[simp] theorem el_39 : elOf Tryz.prog 39 = (some 98) := by kernel_rfl
@[simp] theorem ti_46 : tiOf Tryz.prog 46 = (some (TI.mk 1 false 24 (.inl 1 []))) := by kernel_rfl
@[simp] theorem el_46 : elOf Tryz.prog 46 = (some 3) := by kernel_rfl
@[simp] theorem ti_53 : tiOf Tryz.prog 53 = (some (TI.mk 1 false 24 (.inl 1 []))) := by kernel_rfl
@[simp] theorem el_53 : elOf Tryz.prog 53 = (some 5) := by kernel_rfl
@[simp] theorem ti_55 : tiOf Tryz.prog 55 = (some (TI.mk 1 false 24 (.inl 1 []))) := by kernel_rfl
@[simp] theorem el_55 : elOf Tryz.prog 55 = (some 9) := by kernel_rfl
@[simp] theorem ti_56 : tiOf Tryz.prog 56 = (some (TI.mk 1 false 24 (.inl 6 []))) := by kernel_rfl
@[simp] theorem el_56 : elOf Tryz.prog 56 = (some 164) := by kernel_rfl
@[simp] theorem ti_57 : tiOf Tryz.prog 57 = (some (TI.mk 1 false 24 (.inl 6 []))) := by kernel_rfl
@[simp] theorem el_57 : elOf Tryz.prog 57 = (some 68) := by kernel_rfl
@[simp] theorem ti_58 : tiOf Tryz.prog 58 = (some (TI.mk 1 false 24 (.inl 2 []))) := by kernel_rfl
@[simp] theorem el_58 : elOf Tryz.prog 58 = (some 154) := by kernel_rfl
@[simp] theorem ti_59 : tiOf Tryz.prog 59 = (some (TI.mk 5 true 112 (.agg [(.str ⟨#[]⟩), (.inl 1 []), (.inl 6 []), (.inl 6 []), (.inl 2 [])]))) := by kernel_rfl
@[simp] theorem bld_59 : bldOf Tryz.prog 59 = true := by kernel_rfl
@[simp] theorem fld_59_0 : fldOf Tryz.prog 59 0 = (some (0, 9)) := by kernel_rfl
@[simp] theorem fld_59_1 : fldOf Tryz.prog 59 1 = (some (1, 55)) := by kernel_rfl
@[simp] theorem fld_59_2 : fldOf Tryz.prog 59 2 = (some (2, 56)) := by kernel_rfl
@[simp] theorem fld_59_3 : fldOf Tryz.prog 59 3 = (some (3, 57)) := by kernel_rfl
@[simp] theorem fld_59_4 : fldOf Tryz.prog 59 4 = (some (4, 58)) := by kernel_rfl
@[simp] theorem ti_60 : tiOf Tryz.prog 60 = (some (TI.mk 5 true 112 (.agg [(.str ⟨#[]⟩), (.inl 1 []), (.inl 6 []), (.inl 6 []), (.inl 2 [])]))) := by kernel_rfl
@[simp] theorem bld_60 : bldOf Tryz.prog 60 = true := by kernel_rfl
@[simp] theorem fld_60_0 : fldOf Tryz.prog 60 0 = (some (0, 9)) := by kernel_rfl
@[simp] theorem fld_60_1 : fldOf Tryz.prog 60 1 = (some (1, 55)) := by kernel_rfl
@[simp] theorem fld_60_2 : fldOf Tryz.prog 60 2 = (some (2, 56)) := by kernel_rfl
@[simp] theorem fld_60_3 : fldOf Tryz.prog 60 3 = (some (3, 57)) := by kernel_rfl
@[simp] theorem fld_60_4 : fldOf Tryz.prog 60 4 = (some (4, 58)) := by kernel_rfl
@[simp] theorem ti_66 : tiOf Tryz.prog 66 = (some (TI.mk 1 false 24 (.inl 3 []))) := by kernel_rfl
@[simp] theorem el_66 : elOf Tryz.prog 66 = (some 166) := by kernel_rfl
@[simp] theorem ti_67 : tiOf Tryz.prog 67 = (some (TI.mk 6 true 72 (.agg [(.str ⟨#[]⟩), (.int .i64 0), (.int .i64 0), (.int .i64 0), (.int .i64 0), (.inl 3 [])]))) := by kernel_rfl
@[simp] theorem bld_67 : bldOf Tryz.prog 67 = true := by kernel_rfl
@[simp] theorem fld_67_0 : fldOf Tryz.prog 67 0 = (some (0, 9)) := by kernel_rfl
@[simp] theorem fld_67_1 : fldOf Tryz.prog 67 1 = (some (1, 3)) := by kernel_rfl
@[simp] theorem fld_67_2 : fldOf Tryz.prog 67 2 = (some (2, 3)) := by kernel_rfl
@[simp] theorem fld_67_3 : fldOf Tryz.prog 67 3 = (some (3, 3)) := by kernel_rfl
@[simp] theorem fld_67_4 : fldOf Tryz.prog 67 4 = (some (4, 3)) := by kernel_rfl
@[simp] theorem fld_67_5 : fldOf Tryz.prog 67 5 = (some (5, 66)) := by kernel_rfl
@[simp] theorem ti_68 : tiOf Tryz.prog 68 = (some (TI.mk 6 true 72 (.agg [(.str ⟨#[]⟩), (.int .i64 0), (.int .i64 0), (.int .i64 0), (.int .i64 0), (.inl 3 [])]))) := by kernel_rfl
@[simp] theorem bld_68 : bldOf Tryz.prog 68 = true := by kernel_rfl
@[simp] theorem fld_68_0 : fldOf Tryz.prog 68 0 = (some (0, 9)) := by kernel_rfl
@[simp] theorem fld_68_1 : fldOf Tryz.prog 68 1 = (some (1, 3)) := by kernel_rfl
@[simp] theorem fld_68_2 : fldOf Tryz.prog 68 2 = (some (2, 3)) := by kernel_rfl
@[simp] theorem fld_68_3 : fldOf Tryz.prog 68 3 = (some (3, 3)) := by kernel_rfl
@[simp] theorem fld_68_4 : fldOf Tryz.prog 68 4 = (some (4, 3)) := by kernel_rfl
@[simp] theorem fld_68_5 : fldOf Tryz.prog 68 5 = (some (5, 66)) := by kernel_rfl
@[simp] theorem ti_76 : tiOf Tryz.prog 76 = (some (TI.mk 4 true 40 (.agg [(.int .i64 0), (.str ⟨#[]⟩), (.int .i64 0), (.int .i64 0)]))) := by kernel_rfl
@[simp] theorem eqs_76 : eqsOf Tryz.prog 76 = (some [(.int .i64 0), (.str ⟨#[]⟩), (.int .i64 0), (.int .i64 0)]) := by kernel_rfl
@[simp] theorem bld_76 : bldOf Tryz.prog 76 = true := by kernel_rfl
@[simp] theorem fld_76_0 : fldOf Tryz.prog 76 0 = (some (0, 3)) := by kernel_rfl
@[simp] theorem fld_76_1 : fldOf Tryz.prog 76 1 = (some (1, 9)) := by kernel_rfl
@[simp] theorem fld_76_2 : fldOf Tryz.prog 76 2 = (some (2, 3)) := by kernel_rfl
@[simp] theorem fld_76_3 : fldOf Tryz.prog 76 3 = (some (3, 3)) := by kernel_rfl
@[simp] theorem ti_77 : tiOf Tryz.prog 77 = (some (TI.mk 4 true 40 (.agg [(.int .i64 0), (.str ⟨#[]⟩), (.int .i64 0), (.int .i64 0)]))) := by kernel_rfl
@[simp] theorem eqs_77 : eqsOf Tryz.prog 77 = (some [(.int .i64 0), (.str ⟨#[]⟩), (.int .i64 0), (.int .i64 0)]) := by kernel_rfl
@[simp] theorem bld_77 : bldOf Tryz.prog 77 = true := by kernel_rfl
@[simp] theorem fld_77_0 : fldOf Tryz.prog 77 0 = (some (0, 3)) := by kernel_rfl
@[simp] theorem fld_77_1 : fldOf Tryz.prog 77 1 = (some (1, 9)) := by kernel_rfl
@[simp] theorem fld_77_2 : fldOf Tryz.prog 77 2 = (some (2, 3)) := by kernel_rfl
@[simp] theorem fld_77_3 : fldOf Tryz.prog 77 3 = (some (3, 3)) := by kernel_rfl
@[simp] theorem ti_79 : tiOf Tryz.prog 79 = (some (TI.mk 1 false 8 .nilp)) := by kernel_rfl
@[simp] theorem ti_80 : tiOf Tryz.prog 80 = (some (TI.mk 4 true 64 (.agg [(.inl 4 []), (.int .i64 0), (.int .i64 0), (.inl 4 [])]))) := by kernel_rfl
@[simp] theorem bld_80 : bldOf Tryz.prog 80 = true := by kernel_rfl
@[simp] theorem fld_80_0 : fldOf Tryz.prog 80 0 = (some (0, 27)) := by kernel_rfl
@[simp] theorem fld_80_1 : fldOf Tryz.prog 80 1 = (some (1, 3)) := by kernel_rfl
@[simp] theorem fld_80_2 : fldOf Tryz.prog 80 2 = (some (2, 3)) := by kernel_rfl
@[simp] theorem fld_80_3 : fldOf Tryz.prog 80 3 = (some (3, 24)) := by kernel_rfl
@[simp] theorem ti_81 : tiOf Tryz.prog 81 = (some (TI.mk 4 true 64 (.agg [(.inl 4 []), (.int .i64 0), (.int .i64 0), (.inl 4 [])]))) := by kernel_rfl
@[simp] theorem bld_81 : bldOf Tryz.prog 81 = true := by kernel_rfl
@[simp] theorem fld_81_0 : fldOf Tryz.prog 81 0 = (some (0, 27)) := by kernel_rfl
@[simp] theorem fld_81_1 : fldOf Tryz.prog 81 1 = (some (1, 3)) := by kernel_rfl
@[simp] theorem fld_81_2 : fldOf Tryz.prog 81 2 = (some (2, 3)) := by kernel_rfl
@[simp] theorem fld_81_3 : fldOf Tryz.prog 81 3 = (some (3, 24)) := by kernel_rfl
@[simp] theorem ti_82 : tiOf Tryz.prog 82 = (some (TI.mk 4 true 40 (.agg [(.int .i64 0), (.str ⟨#[]⟩), (.int .i64 0), (.int .i64 0)]))) := by kernel_rfl
@[simp] theorem eqs_82 : eqsOf Tryz.prog 82 = (some [(.int .i64 0), (.str ⟨#[]⟩), (.int .i64 0), (.int .i64 0)]) := by kernel_rfl
@[simp] theorem bld_82 : bldOf Tryz.prog 82 = true := by kernel_rfl
@[simp] theorem fld_82_0 : fldOf Tryz.prog 82 0 = (some (0, 3)) := by kernel_rfl
@[simp] theorem fld_82_1 : fldOf Tryz.prog 82 1 = (some (1, 9)) := by kernel_rfl
@[simp] theorem fld_82_2 : fldOf Tryz.prog 82 2 = (some (2, 3)) := by kernel_rfl
@[simp] theorem fld_82_3 : fldOf Tryz.prog 82 3 = (some (3, 3)) := by kernel_rfl
@[simp] theorem ti_84 : tiOf Tryz.prog 84 = (some (TI.mk 1 false 8 .nilp)) := by kernel_rfl
@[simp] theorem ti_85 : tiOf Tryz.prog 85 = (some (TI.mk 3 true 40 (.agg [(.inl 4 []), (.int .i64 0), (.int .i64 0)]))) := by kernel_rfl
@[simp] theorem bld_85 : bldOf Tryz.prog 85 = true := by kernel_rfl
@[simp] theorem fld_85_0 : fldOf Tryz.prog 85 0 = (some (0, 27)) := by kernel_rfl
@[simp] theorem fld_85_1 : fldOf Tryz.prog 85 1 = (some (1, 3)) := by kernel_rfl
@[simp] theorem fld_85_2 : fldOf Tryz.prog 85 2 = (some (2, 3)) := by kernel_rfl
@[simp] theorem ti_86 : tiOf Tryz.prog 86 = (some (TI.mk 3 true 40 (.agg [(.inl 4 []), (.int .i64 0), (.int .i64 0)]))) := by kernel_rfl
@[simp] theorem bld_86 : bldOf Tryz.prog 86 = true := by kernel_rfl
@[simp] theorem fld_86_0 : fldOf Tryz.prog 86 0 = (some (0, 27)) := by kernel_rfl
@[simp] theorem fld_86_1 : fldOf Tryz.prog 86 1 = (some (1, 3)) := by kernel_rfl
@[simp] theorem fld_86_2 : fldOf Tryz.prog 86 2 = (some (2, 3)) := by kernel_rfl
@[simp] theorem ti_89 : tiOf Tryz.prog 89 = (some (TI.mk 4 true 48 (.agg [(.int .i64 0), (.int .i64 0), (.str ⟨#[]⟩), (.str ⟨#[]⟩)]))) := by kernel_rfl
@[simp] theorem eqs_89 : eqsOf Tryz.prog 89 = (some [(.int .i64 0), (.int .i64 0), (.str ⟨#[]⟩), (.str ⟨#[]⟩)]) := by kernel_rfl
@[simp] theorem bld_89 : bldOf Tryz.prog 89 = true := by kernel_rfl
@[simp] theorem fld_89_0 : fldOf Tryz.prog 89 0 = (some (0, 3)) := by kernel_rfl
@[simp] theorem fld_89_1 : fldOf Tryz.prog 89 1 = (some (1, 3)) := by kernel_rfl
@[simp] theorem fld_89_2 : fldOf Tryz.prog 89 2 = (some (2, 9)) := by kernel_rfl
@[simp] theorem fld_89_3 : fldOf Tryz.prog 89 3 = (some (3, 9)) := by kernel_rfl
@[simp] theorem ti_90 : tiOf Tryz.prog 90 = (some (TI.mk 4 true 48 (.agg [(.int .i64 0), (.int .i64 0), (.str ⟨#[]⟩), (.str ⟨#[]⟩)]))) := by kernel_rfl
@[simp] theorem eqs_90 : eqsOf Tryz.prog 90 = (some [(.int .i64 0), (.int .i64 0), (.str ⟨#[]⟩), (.str ⟨#[]⟩)]) := by kernel_rfl
@[simp] theorem bld_90 : bldOf Tryz.prog 90 = true := by kernel_rfl
@[simp] theorem fld_90_0 : fldOf Tryz.prog 90 0 = (some (0, 3)) := by kernel_rfl
@[simp] theorem fld_90_1 : fldOf Tryz.prog 90 1 = (some (1, 3)) := by kernel_rfl
@[simp] theorem fld_90_2 : fldOf Tryz.prog 90 2 = (some (2, 9)) := by kernel_rfl
@[simp] theorem fld_90_3 : fldOf Tryz.prog 90 3 = (some (3, 9)) := by kernel_rfl
@[simp] theorem ti_94 : tiOf Tryz.prog 94 = (some (TI.mk 2 true 32 (.agg [(.str ⟨#[]⟩), (.str ⟨#[]⟩)]))) := by kernel_rfl
@[simp] theorem eqs_94 : eqsOf Tryz.prog 94 = (some [(.str ⟨#[]⟩), (.str ⟨#[]⟩)]) := by kernel_rfl
@[simp] theorem bld_94 : bldOf Tryz.prog 94 = true := by kernel_rfl
@[simp] theorem fld_94_0 : fldOf Tryz.prog 94 0 = (some (0, 9)) := by kernel_rfl
@[simp] theorem fld_94_1 : fldOf Tryz.prog 94 1 = (some (1, 9)) := by kernel_rfl
@[simp] theorem ti_95 : tiOf Tryz.prog 95 = (some (TI.mk 2 true 32 (.agg [(.str ⟨#[]⟩), (.str ⟨#[]⟩)]))) := by kernel_rfl
@[simp] theorem eqs_95 : eqsOf Tryz.prog 95 = (some [(.str ⟨#[]⟩), (.str ⟨#[]⟩)]) := by kernel_rfl
@[simp] theorem bld_95 : bldOf Tryz.prog 95 = true := by kernel_rfl
@[simp] theorem fld_95_0 : fldOf Tryz.prog 95 0 = (some (0, 9)) := by kernel_rfl
@[simp] theorem fld_95_1 : fldOf Tryz.prog 95 1 = (some (1, 9)) := by kernel_rfl
@[simp] theorem ti_98 : tiOf Tryz.prog 98 = (some (TI.mk 2 true 32 (.agg [(.str ⟨#[]⟩), (.str ⟨#[]⟩)]))) := by kernel_rfl
@[simp] theorem eqs_98 : eqsOf Tryz.prog 98 = (some [(.str ⟨#[]⟩), (.str ⟨#[]⟩)]) := by kernel_rfl
@[simp] theorem bld_98 : bldOf Tryz.prog 98 = true := by kernel_rfl
@[simp] theorem fld_98_0 : fldOf Tryz.prog 98 0 = (some (0, 9)) := by kernel_rfl
@[simp] theorem fld_98_1 : fldOf Tryz.prog 98 1 = (some (1, 9)) := by kernel_rfl
@[simp] theorem ti_108 : tiOf Tryz.prog 108 = (some (TI.mk 1 false 8 .nilp)) := by kernel_rfl
@[simp] theorem ti_109 : tiOf Tryz.prog 109 = (some (TI.mk 1 false 8 .nilp)) := by kernel_rfl
@[simp] theorem ti_110 : tiOf Tryz.prog 110 = (some (TI.mk 2 true 32 (.agg [.nilp, (.inl 1 [])]))) := by kernel_rfl
@[simp] theorem bld_110 : bldOf Tryz.prog 110 = true := by kernel_rfl
@[simp] theorem fld_110_0 : fldOf Tryz.prog 110 0 = (some (0, 109)) := by kernel_rfl
@[simp] theorem fld_110_1 : fldOf Tryz.prog 110 1 = (some (1, 53)) := by kernel_rfl
@[simp] theorem ti_111 : tiOf Tryz.prog 111 = (some (TI.mk 2 true 32 (.agg [.nilp, (.inl 1 [])]))) := by kernel_rfl
@[simp] theorem bld_111 : bldOf Tryz.prog 111 = true := by kernel_rfl
@[simp] theorem fld_111_0 : fldOf Tryz.prog 111 0 = (some (0, 109)) := by kernel_rfl
@[simp] theorem fld_111_1 : fldOf Tryz.prog 111 1 = (some (1, 53)) := by kernel_rfl
@[simp] theorem ti_112 : tiOf Tryz.prog 112 = (some (TI.mk 6 true 88 (.agg [(.inl 6 []), (.str ⟨#[]⟩), (.bool false), (.int .i64 0), .nilp, (.inl 1 [])]))) := by kernel_rfl
@[simp] theorem bld_112 : bldOf Tryz.prog 112 = true := by kernel_rfl
@[simp] theorem fld_112_0 : fldOf Tryz.prog 112 0 = (some (0, 56)) := by kernel_rfl
@[simp] theorem fld_112_1 : fldOf Tryz.prog 112 1 = (some (1, 9)) := by kernel_rfl
@[simp] theorem fld_112_2 : fldOf Tryz.prog 112 2 = (some (2, 4)) := by kernel_rfl
@[simp] theorem fld_112_3 : fldOf Tryz.prog 112 3 = (some (3, 3)) := by kernel_rfl
@[simp] theorem fld_112_4 : fldOf Tryz.prog 112 4 = (some (4, 111)) := by kernel_rfl
@[simp] theorem ti_113 : tiOf Tryz.prog 113 = (some (TI.mk 6 true 88 (.agg [(.inl 6 []), (.str ⟨#[]⟩), (.bool false), (.int .i64 0), .nilp, (.inl 1 [])]))) := by kernel_rfl
@[simp] theorem bld_113 : bldOf Tryz.prog 113 = true := by kernel_rfl
@[simp] theorem fld_113_0 : fldOf Tryz.prog 113 0 = (some (0, 56)) := by kernel_rfl
@[simp] theorem fld_113_1 : fldOf Tryz.prog 113 1 = (some (1, 9)) := by kernel_rfl
@[simp] theorem fld_113_2 : fldOf Tryz.prog 113 2 = (some (2, 4)) := by kernel_rfl
@[simp] theorem fld_113_3 : fldOf Tryz.prog 113 3 = (some (3, 3)) := by kernel_rfl
@[simp] theorem fld_113_4 : fldOf Tryz.prog 113 4 = (some (4, 111)) := by kernel_rfl
@[simp] theorem ti_118 : tiOf Tryz.prog 118 = (some (TI.mk 1 false 8 .nilp)) := by kernel_rfl
@[simp] theorem ti_119 : tiOf Tryz.prog 119 = (some (TI.mk 3 true 48 (.agg [(.inl 6 []), (.str ⟨#[]⟩), (.bool false)]))) := by kernel_rfl
@[simp] theorem bld_119 : bldOf Tryz.prog 119 = true := by kernel_rfl
@[simp] theorem fld_119_0 : fldOf Tryz.prog 119 0 = (some (0, 56)) := by kernel_rfl
@[simp] theorem fld_119_1 : fldOf Tryz.prog 119 1 = (some (1, 9)) := by kernel_rfl
@[simp] theorem fld_119_2 : fldOf Tryz.prog 119 2 = (some (2, 4)) := by kernel_rfl
@[simp] theorem ti_120 : tiOf Tryz.prog 120 = (some (TI.mk 3 true 48 (.agg [(.inl 6 []), (.str ⟨#[]⟩), (.bool false)]))) := by kernel_rfl
@[simp] theorem bld_120 : bldOf Tryz.prog 120 = true := by kernel_rfl
@[simp] theorem fld_120_0 : fldOf Tryz.prog 120 0 = (some (0, 56)) := by kernel_rfl
@[simp] theorem fld_120_1 : fldOf Tryz.prog 120 1 = (some (1, 9)) := by kernel_rfl
@[simp] theorem fld_120_2 : fldOf Tryz.prog 120 2 = (some (2, 4)) := by kernel_rfl
@[simp] theorem ti_144 : tiOf Tryz.prog 144 = (some (TI.mk 1 false 8 .nilp)) := by kernel_rfl
@[simp] theorem ti_145 : tiOf Tryz.prog 145 = (some (TI.mk 1 false 8 (.int .u64 0))) := by kernel_rfl
@[simp] theorem int_145 : intOf Tryz.prog 145 = (some .u64) := by kernel_rfl
@[simp] theorem ti_146 : tiOf Tryz.prog 146 = (some (TI.mk 3 true 40 (.agg [(.inl 1 []), (.int .i64 0), (.int .u64 0)]))) := by kernel_rfl
@[simp] theorem bld_146 : bldOf Tryz.prog 146 = true := by kernel_rfl
@[simp] theorem fld_146_0 : fldOf Tryz.prog 146 0 = (some (0, 53)) := by kernel_rfl
@[simp] theorem fld_146_1 : fldOf Tryz.prog 146 1 = (some (1, 3)) := by kernel_rfl
@[simp] theorem fld_146_2 : fldOf Tryz.prog 146 2 = (some (2, 145)) := by kernel_rfl
@[simp] theorem ti_147 : tiOf Tryz.prog 147 = (some (TI.mk 3 true 40 (.agg [(.inl 1 []), (.int .i64 0), (.int .u64 0)]))) := by kernel_rfl
@[simp] theorem bld_147 : bldOf Tryz.prog 147 = true := by kernel_rfl
@[simp] theorem fld_147_0 : fldOf Tryz.prog 147 0 = (some (0, 53)) := by kernel_rfl
@[simp] theorem fld_147_1 : fldOf Tryz.prog 147 1 = (some (1, 3)) := by kernel_rfl
@[simp] theorem fld_147_2 : fldOf Tryz.prog 147 2 = (some (2, 145)) := by kernel_rfl
@[simp] theorem ti_149 : tiOf Tryz.prog 149 = (some (TI.mk 1 false 8 .nilp)) := by kernel_rfl
@[simp] theorem ti_153 : tiOf Tryz.prog 153 = (some (TI.mk 2 true 32 (.agg [(.str ⟨#[]⟩), (.str ⟨#[]⟩)]))) := by kernel_rfl
@[simp] theorem eqs_153 : eqsOf Tryz.prog 153 = (some [(.str ⟨#[]⟩), (.str ⟨#[]⟩)]) := by kernel_rfl
@[simp] theorem bld_153 : bldOf Tryz.prog 153 = true := by kernel_rfl
@[simp] theorem fld_153_0 : fldOf Tryz.prog 153 0 = (some (0, 9)) := by kernel_rfl
@[simp] theorem fld_153_1 : fldOf Tryz.prog 153 1 = (some (1, 9)) := by kernel_rfl
@[simp] theorem ti_154 : tiOf Tryz.prog 154 = (some (TI.mk 2 true 32 (.agg [(.str ⟨#[]⟩), (.str ⟨#[]⟩)]))) := by kernel_rfl
@[simp] theorem eqs_154 : eqsOf Tryz.prog 154 = (some [(.str ⟨#[]⟩), (.str ⟨#[]⟩)]) := by kernel_rfl
@[simp] theorem bld_154 : bldOf Tryz.prog 154 = true := by kernel_rfl
@[simp] theorem fld_154_0 : fldOf Tryz.prog 154 0 = (some (0, 9)) := by kernel_rfl
@[simp] theorem fld_154_1 : fldOf Tryz.prog 154 1 = (some (1, 9)) := by kernel_rfl
@[simp] theorem ti_158 : tiOf Tryz.prog 158 = (some (TI.mk 1 false 16 .nili)) := by kernel_rfl
@[simp] theorem ifc_158 : ifcOf Tryz.prog 158 = true := by kernel_rfl
@[simp] theorem ti_159 : tiOf Tryz.prog 159 = (some (TI.mk 1 false 16 .nili)) := by kernel_rfl
@[simp] theorem ifc_159 : ifcOf Tryz.prog 159 = true := by kernel_rfl
@[simp] theorem ti_162 : tiOf Tryz.prog 162 = (some (TI.mk 1 false 24 (.inl 3 []))) := by kernel_rfl
@[simp] theorem el_162 : elOf Tryz.prog 162 = (some 212) := by kernel_rfl
@[simp] theorem ti_163 : tiOf Tryz.prog 163 = (some (TI.mk 6 true 80 (.agg [(.int .i64 0), (.int .i64 0), (.int .i64 0), (.inl 3 []), (.str ⟨#[]⟩), (.str ⟨#[]⟩)]))) := by kernel_rfl
@[simp] theorem bld_163 : bldOf Tryz.prog 163 = true := by kernel_rfl
@[simp] theorem fld_163_0 : fldOf Tryz.prog 163 0 = (some (0, 3)) := by kernel_rfl
@[simp] theorem fld_163_1 : fldOf Tryz.prog 163 1 = (some (1, 3)) := by kernel_rfl
@[simp] theorem fld_163_2 : fldOf Tryz.prog 163 2 = (some (2, 3)) := by kernel_rfl
@[simp] theorem fld_163_3 : fldOf Tryz.prog 163 3 = (some (3, 162)) := by kernel_rfl
@[simp] theorem fld_163_4 : fldOf Tryz.prog 163 4 = (some (4, 9)) := by kernel_rfl
@[simp] theorem fld_163_5 : fldOf Tryz.prog 163 5 = (some (5, 9)) := by kernel_rfl
@[simp] theorem ti_164 : tiOf Tryz.prog 164 = (some (TI.mk 6 true 80 (.agg [(.int .i64 0), (.int .i64 0), (.int .i64 0), (.inl 3 []), (.str ⟨#[]⟩), (.str ⟨#[]⟩)]))) := by kernel_rfl
@[simp] theorem bld_164 : bldOf Tryz.prog 164 = true := by kernel_rfl
@[simp] theorem fld_164_0 : fldOf Tryz.prog 164 0 = (some (0, 3)) := by kernel_rfl
@[simp] theorem fld_164_1 : fldOf Tryz.prog 164 1 = (some (1, 3)) := by kernel_rfl
@[simp] theorem fld_164_2 : fldOf Tryz.prog 164 2 = (some (2, 3)) := by kernel_rfl
@[simp] theorem fld_164_3 : fldOf Tryz.prog 164 3 = (some (3, 162)) := by kernel_rfl
@[simp] theorem fld_164_4 : fldOf Tryz.prog 164 4 = (some (4, 9)) := by kernel_rfl
@[simp] theorem fld_164_5 : fldOf Tryz.prog 164 5 = (some (5, 9)) := by kernel_rfl
@[simp] theorem ti_165 : tiOf Tryz.prog 165 = (some (TI.mk 3 true 32 (.agg [(.str ⟨#[]⟩), (.bool false), (.int .i64 0)]))) := by kernel_rfl
@[simp] theorem eqs_165 : eqsOf Tryz.prog 165 = (some [(.str ⟨#[]⟩), (.bool false), (.int .i64 0)]) := by kernel_rfl
@[simp] theorem bld_165 : bldOf Tryz.prog 165 = true := by kernel_rfl
@[simp] theorem fld_165_0 : fldOf Tryz.prog 165 0 = (some (0, 9)) := by kernel_rfl
@[simp] theorem fld_165_1 : fldOf Tryz.prog 165 1 = (some (1, 4)) := by kernel_rfl
@[simp] theorem fld_165_2 : fldOf Tryz.prog 165 2 = (some (2, 3)) := by kernel_rfl
@[simp] theorem ti_166 : tiOf Tryz.prog 166 = (some (TI.mk 3 true 32 (.agg [(.str ⟨#[]⟩), (.bool false), (.int .i64 0)]))) := by kernel_rfl
@[simp] theorem eqs_166 : eqsOf Tryz.prog 166 = (some [(.str ⟨#[]⟩), (.bool false), (.int .i64 0)]) := by kernel_rfl
@[simp] theorem bld_166 : bldOf Tryz.prog 166 = true := by kernel_rfl
@[simp] theorem fld_166_0 : fldOf Tryz.prog 166 0 = (some (0, 9)) := by kernel_rfl
@[simp] theorem fld_166_1 : fldOf Tryz.prog 166 1 = (some (1, 4)) := by kernel_rfl
@[simp] theorem fld_166_2 : fldOf Tryz.prog 166 2 = (some (2, 3)) := by kernel_rfl
@[simp] theorem ti_182 : tiOf Tryz.prog 182 = (some (TI.mk 1 false 8 .nilp)) := by kernel_rfl
@[simp] theorem ti_183 : tiOf Tryz.prog 183 = (some (TI.mk 1 false 24 (.inl 5 []))) := by kernel_rfl
@[simp] theorem el_183 : elOf Tryz.prog 183 = (some 60) := by kernel_rfl
@[simp] theorem ti_184 : tiOf Tryz.prog 184 = (some (TI.mk 1 false 24 (.inl 3 []))) := by kernel_rfl
@[simp] theorem el_184 : elOf Tryz.prog 184 = (some 325) := by kernel_rfl
@[simp] theorem ti_185 : tiOf Tryz.prog 185 = (some (TI.mk 12 true 216 (.agg [(.inl 4 []), (.int .i64 0), (.int .i64 0), (.inl 5 []), (.str ⟨#[]⟩), (.inl 1 []), (.inl 6 []), (.inl 6 []), (.inl 2 []), (.inl 3 []), (.int .i64 0), (.int .i64 0)]))) := by kernel_rfl
@[simp] theorem bld_185 : bldOf Tryz.prog 185 = true := by kernel_rfl
@[simp] theorem fld_185_0 : fldOf Tryz.prog 185 0 = (some (0, 27)) := by kernel_rfl
@[simp] theorem fld_185_1 : fldOf Tryz.prog 185 1 = (some (1, 3)) := by kernel_rfl
@[simp] theorem fld_185_2 : fldOf Tryz.prog 185 2 = (some (2, 3)) := by kernel_rfl
@[simp] theorem fld_185_3 : fldOf Tryz.prog 185 3 = (some (3, 183)) := by kernel_rfl
@[simp] theorem fld_185_4 : fldOf Tryz.prog 185 4 = (some (4, 60)) := by kernel_rfl
@[simp] theorem fld_185_5 : fldOf Tryz.prog 185 5 = (some (9, 184)) := by kernel_rfl
@[simp] theorem fld_185_6 : fldOf Tryz.prog 185 6 = (some (10, 3)) := by kernel_rfl
@[simp] theorem fld_185_7 : fldOf Tryz.prog 185 7 = (some (11, 3)) := by kernel_rfl
@[simp] theorem ti_186 : tiOf Tryz.prog 186 = (some (TI.mk 12 true 216 (.agg [(.inl 4 []), (.int .i64 0), (.int .i64 0), (.inl 5 []), (.str ⟨#[]⟩), (.inl 1 []), (.inl 6 []), (.inl 6 []), (.inl 2 []), (.inl 3 []), (.int .i64 0), (.int .i64 0)]))) := by kernel_rfl
@[simp] theorem bld_186 : bldOf Tryz.prog 186 = true := by kernel_rfl
@[simp] theorem fld_186_0 : fldOf Tryz.prog 186 0 = (some (0, 27)) := by kernel_rfl
@[simp] theorem fld_186_1 : fldOf Tryz.prog 186 1 = (some (1, 3)) := by kernel_rfl
@[simp] theorem fld_186_2 : fldOf Tryz.prog 186 2 = (some (2, 3)) := by kernel_rfl
@[simp] theorem fld_186_3 : fldOf Tryz.prog 186 3 = (some (3, 183)) := by kernel_rfl
@[simp] theorem fld_186_4 : fldOf Tryz.prog 186 4 = (some (4, 60)) := by kernel_rfl
@[simp] theorem fld_186_5 : fldOf Tryz.prog 186 5 = (some (9, 184)) := by kernel_rfl
@[simp] theorem fld_186_6 : fldOf Tryz.prog 186 6 = (some (10, 3)) := by kernel_rfl
@[simp] theorem fld_186_7 : fldOf Tryz.prog 186 7 = (some (11, 3)) := by kernel_rfl
@[simp] theorem ti_188 : tiOf Tryz.prog 188 = (some (TI.mk 1 false 8 .nilp)) := by kernel_rfl
@[simp] theorem ti_189 : tiOf Tryz.prog 189 = (some (TI.mk 1 false 24 (.inl 3 []))) := by kernel_rfl
@[simp] theorem el_189 : elOf Tryz.prog 189 = (some 327) := by kernel_rfl
@[simp] theorem ti_190 : tiOf Tryz.prog 190 = (some (TI.mk 11 true 208 (.agg [(.inl 4 []), (.int .i64 0), (.int .i64 0), (.inl 5 []), (.str ⟨#[]⟩), (.inl 1 []), (.inl 6 []), (.inl 6 []), (.inl 2 []), (.int .i64 0), (.inl 3 [])]))) := by kernel_rfl
@[simp] theorem bld_190 : bldOf Tryz.prog 190 = true := by kernel_rfl
@[simp] theorem fld_190_0 : fldOf Tryz.prog 190 0 = (some (0, 86)) := by kernel_rfl
@[simp] theorem fld_190_1 : fldOf Tryz.prog 190 1 = (some (3, 183)) := by kernel_rfl
@[simp] theorem fld_190_2 : fldOf Tryz.prog 190 2 = (some (4, 60)) := by kernel_rfl
@[simp] theorem fld_190_3 : fldOf Tryz.prog 190 3 = (some (9, 3)) := by kernel_rfl
@[simp] theorem fld_190_4 : fldOf Tryz.prog 190 4 = (some (10, 189)) := by kernel_rfl
@[simp] theorem ti_191 : tiOf Tryz.prog 191 = (some (TI.mk 11 true 208 (.agg [(.inl 4 []), (.int .i64 0), (.int .i64 0), (.inl 5 []), (.str ⟨#[]⟩), (.inl 1 []), (.inl 6 []), (.inl 6 []), (.inl 2 []), (.int .i64 0), (.inl 3 [])]))) := by kernel_rfl
@[simp] theorem bld_191 : bldOf Tryz.prog 191 = true := by kernel_rfl
@[simp] theorem fld_191_0 : fldOf Tryz.prog 191 0 = (some (0, 86)) := by kernel_rfl
@[simp] theorem fld_191_1 : fldOf Tryz.prog 191 1 = (some (3, 183)) := by kernel_rfl
@[simp] theorem fld_191_2 : fldOf Tryz.prog 191 2 = (some (4, 60)) := by kernel_rfl
@[simp] theorem fld_191_3 : fldOf Tryz.prog 191 3 = (some (9, 3)) := by kernel_rfl
@[simp] theorem fld_191_4 : fldOf Tryz.prog 191 4 = (some (10, 189)) := by kernel_rfl
@[simp] theorem ti_192 : tiOf Tryz.prog 192 = (some (TI.mk 2 true 16 (.agg [(.int .i64 0), (.int .i64 0)]))) := by kernel_rfl
@[simp] theorem eqs_192 : eqsOf Tryz.prog 192 = (some [(.int .i64 0), (.int .i64 0)]) := by kernel_rfl
@[simp] theorem bld_192 : bldOf Tryz.prog 192 = true := by kernel_rfl
@[simp] theorem fld_192_0 : fldOf Tryz.prog 192 0 = (some (0, 3)) := by kernel_rfl
@[simp] theorem fld_192_1 : fldOf Tryz.prog 192 1 = (some (1, 3)) := by kernel_rfl
@[simp] theorem ti_193 : tiOf Tryz.prog 193 = (some (TI.mk 2 true 16 (.agg [(.int .i64 0), (.int .i64 0)]))) := by kernel_rfl
@[simp] theorem eqs_193 : eqsOf Tryz.prog 193 = (some [(.int .i64 0), (.int .i64 0)]) := by kernel_rfl
@[simp] theorem bld_193 : bldOf Tryz.prog 193 = true := by kernel_rfl
@[simp] theorem fld_193_0 : fldOf Tryz.prog 193 0 = (some (0, 3)) := by kernel_rfl
@[simp] theorem fld_193_1 : fldOf Tryz.prog 193 1 = (some (1, 3)) := by kernel_rfl
@[simp] theorem ti_198 : tiOf Tryz.prog 198 = (some (TI.mk 1 false 8 (.int .u64 0))) := by kernel_rfl
@[simp] theorem int_198 : intOf Tryz.prog 198 = (some .u64) := by kernel_rfl
@[simp] theorem ti_209 : tiOf Tryz.prog 209 = (some (TI.mk 1 false 8 .nilp)) := by kernel_rfl
@[simp] theorem ti_211 : tiOf Tryz.prog 211 = (some (TI.mk 3 true 32 (.agg [(.str ⟨#[]⟩), (.int .i64 0), (.int .i64 0)]))) := by kernel_rfl
@[simp] theorem eqs_211 : eqsOf Tryz.prog 211 = (some [(.str ⟨#[]⟩), (.int .i64 0), (.int .i64 0)]) := by kernel_rfl
@[simp] theorem bld_211 : bldOf Tryz.prog 211 = true := by kernel_rfl
@[simp] theorem fld_211_0 : fldOf Tryz.prog 211 0 = (some (0, 9)) := by kernel_rfl
@[simp] theorem fld_211_1 : fldOf Tryz.prog 211 1 = (some (1, 3)) := by kernel_rfl
@[simp] theorem fld_211_2 : fldOf Tryz.prog 211 2 = (some (2, 3)) := by kernel_rfl
@[simp] theorem ti_212 : tiOf Tryz.prog 212 = (some (TI.mk 3 true 32 (.agg [(.str ⟨#[]⟩), (.int .i64 0), (.int .i64 0)]))) := by kernel_rfl
@[simp] theorem eqs_212 : eqsOf Tryz.prog 212 = (some [(.str ⟨#[]⟩), (.int .i64 0), (.int .i64 0)]) := by kernel_rfl
@[simp] theorem bld_212 : bldOf Tryz.prog 212 = true := by kernel_rfl
@[simp] theorem fld_212_0 : fldOf Tryz.prog 212 0 = (some (0, 9)) := by kernel_rfl
@[simp] theorem fld_212_1 : fldOf Tryz.prog 212 1 = (some (1, 3)) := by kernel_rfl
@[simp] theorem fld_212_2 : fldOf Tryz.prog 212 2 = (some (2, 3)) := by kernel_rfl
@[simp] theorem ti_231 : tiOf Tryz.prog 231 = (some (TI.mk 1 false 8 (.int .i64 0))) := by kernel_rfl
@[simp] theorem int_231 : intOf Tryz.prog 231 = (some .i64) := by kernel_rfl
@[simp] theorem ti_239 : tiOf Tryz.prog 239 = (some (TI.mk 1 false 4 (.int .u32 0))) := by kernel_rfl
@[simp] theorem int_239 : intOf Tryz.prog 239 = (some .u32) := by kernel_rfl
@[simp] theorem ti_257 : tiOf Tryz.prog 257 = (some (TI.mk 1 false 8 (.int .u64 0))) := by kernel_rfl
@[simp] theorem int_257 : intOf Tryz.prog 257 = (some .u64) := by kernel_rfl
@[simp] theorem ti_261 : tiOf Tryz.prog 261 = (some (TI.mk 1 false 8 .nilp)) := by kernel_rfl
@[simp] theorem ti_272 : tiOf Tryz.prog 272 = (some (TI.mk 1 false 8 .nilp)) := by kernel_rfl
@[simp] theorem ti_285 : tiOf Tryz.prog 285 = (some (TI.mk 1 false 8 .nilp)) := by kernel_rfl
@[simp] theorem ti_286 : tiOf Tryz.prog 286 = (some (TI.mk 1 false 8 (.int .i64 0))) := by kernel_rfl
@[simp] theorem int_286 : intOf Tryz.prog 286 = (some .i64) := by kernel_rfl
@[simp] theorem ti_287 : tiOf Tryz.prog 287 = (some (TI.mk 1 false 8 .nilp)) := by kernel_rfl
@[simp] theorem ti_296 : tiOf Tryz.prog 296 = (some (TI.mk 3 true 48 (.agg [(.str ⟨#[]⟩), (.str ⟨#[]⟩), .nili]))) := by kernel_rfl
@[simp] theorem bld_296 : bldOf Tryz.prog 296 = true := by kernel_rfl
@[simp] theorem fld_296_0 : fldOf Tryz.prog 296 0 = (some (0, 9)) := by kernel_rfl
@[simp] theorem fld_296_1 : fldOf Tryz.prog 296 1 = (some (1, 9)) := by kernel_rfl
@[simp] theorem fld_296_2 : fldOf Tryz.prog 296 2 = (some (2, 159)) := by kernel_rfl
@[simp] theorem ti_297 : tiOf Tryz.prog 297 = (some (TI.mk 3 true 48 (.agg [(.str ⟨#[]⟩), (.str ⟨#[]⟩), .nili]))) := by kernel_rfl
@[simp] theorem bld_297 : bldOf Tryz.prog 297 = true := by kernel_rfl
@[simp] theorem fld_297_0 : fldOf Tryz.prog 297 0 = (some (0, 9)) := by kernel_rfl
@[simp] theorem fld_297_1 : fldOf Tryz.prog 297 1 = (some (1, 9)) := by kernel_rfl
@[simp] theorem fld_297_2 : fldOf Tryz.prog 297 2 = (some (2, 159)) := by kernel_rfl
@[simp] theorem ti_303 : tiOf Tryz.prog 303 = (some (TI.mk 1 false 8 .nilp)) := by kernel_rfl
@[simp] theorem ti_304 : tiOf Tryz.prog 304 = (some (TI.mk 1 true 16 (.agg [(.str ⟨#[]⟩)]))) := by kernel_rfl
@[simp] theorem eqs_304 : eqsOf Tryz.prog 304 = (some [(.str ⟨#[]⟩)]) := by kernel_rfl
@[simp] theorem bld_304 : bldOf Tryz.prog 304 = true := by kernel_rfl
@[simp] theorem fld_304_0 : fldOf Tryz.prog 304 0 = (some (0, 9)) := by kernel_rfl
@[simp] theorem ti_305 : tiOf Tryz.prog 305 = (some (TI.mk 1 true 16 (.agg [(.str ⟨#[]⟩)]))) := by kernel_rfl
@[simp] theorem eqs_305 : eqsOf Tryz.prog 305 = (some [(.str ⟨#[]⟩)]) := by kernel_rfl
@[simp] theorem bld_305 : bldOf Tryz.prog 305 = true := by kernel_rfl
@[simp] theorem fld_305_0 : fldOf Tryz.prog 305 0 = (some (0, 9)) := by kernel_rfl
@[simp] theorem ti_307 : tiOf Tryz.prog 307 = (some (TI.mk 2 true 2 (.agg [(.int .u8 0), (.int .u8 0)]))) := by kernel_rfl
@[simp] theorem eqs_307 : eqsOf Tryz.prog 307 = (some [(.int .u8 0), (.int .u8 0)]) := by kernel_rfl
@[simp] theorem bld_307 : bldOf Tryz.prog 307 = true := by kernel_rfl
@[simp] theorem fld_307_0 : fldOf Tryz.prog 307 0 = (some (0, 5)) := by kernel_rfl
@[simp] theorem fld_307_1 : fldOf Tryz.prog 307 1 = (some (1, 5)) := by kernel_rfl
@[simp] theorem ti_308 : tiOf Tryz.prog 308 = (some (TI.mk 2 true 2 (.agg [(.int .u8 0), (.int .u8 0)]))) := by kernel_rfl
@[simp] theorem eqs_308 : eqsOf Tryz.prog 308 = (some [(.int .u8 0), (.int .u8 0)]) := by kernel_rfl
@[simp] theorem bld_308 : bldOf Tryz.prog 308 = true := by kernel_rfl
@[simp] theorem fld_308_0 : fldOf Tryz.prog 308 0 = (some (0, 5)) := by kernel_rfl
@[simp] theorem fld_308_1 : fldOf Tryz.prog 308 1 = (some (1, 5)) := by kernel_rfl
@[simp] theorem ti_312 : tiOf Tryz.prog 312 = (some (TI.mk 4 true 40 (.agg [.nilp, .nilp, .nilp, (.str ⟨#[]⟩)]))) := by kernel_rfl
@[simp] theorem bld_312 : bldOf Tryz.prog 312 = true := by kernel_rfl
@[simp] theorem fld_312_0 : fldOf Tryz.prog 312 0 = (some (0, 17)) := by kernel_rfl
@[simp] theorem fld_312_1 : fldOf Tryz.prog 312 1 = (some (1, 17)) := by kernel_rfl
@[simp] theorem fld_312_2 : fldOf Tryz.prog 312 2 = (some (2, 17)) := by kernel_rfl
@[simp] theorem fld_312_3 : fldOf Tryz.prog 312 3 = (some (3, 9)) := by kernel_rfl
@[simp] theorem ti_313 : tiOf Tryz.prog 313 = (some (TI.mk 4 true 40 (.agg [.nilp, .nilp, .nilp, (.str ⟨#[]⟩)]))) := by kernel_rfl
@[simp] theorem bld_313 : bldOf Tryz.prog 313 = true := by kernel_rfl
@[simp] theorem fld_313_0 : fldOf Tryz.prog 313 0 = (some (0, 17)) := by kernel_rfl
@[simp] theorem fld_313_1 : fldOf Tryz.prog 313 1 = (some (1, 17)) := by kernel_rfl
@[simp] theorem fld_313_2 : fldOf Tryz.prog 313 2 = (some (2, 17)) := by kernel_rfl
@[simp] theorem fld_313_3 : fldOf Tryz.prog 313 3 = (some (3, 9)) := by kernel_rfl
@[simp] theorem bld_315 : bldOf Tryz.prog 315 = true := by kernel_rfl
@[simp] theorem bld_316 : bldOf Tryz.prog 316 = true := by kernel_rfl
@[simp] theorem ti_317 : tiOf Tryz.prog 317 = (some (TI.mk 1 false 1 (.int .u8 0))) := by kernel_rfl
@[simp] theorem int_317 : intOf Tryz.prog 317 = (some .u8) := by kernel_rfl
@[simp] theorem ti_318 : tiOf Tryz.prog 318 = (some (TI.mk 1 false 1 (.int .u8 0))) := by kernel_rfl
@[simp] theorem int_318 : intOf Tryz.prog 318 = (some .u8) := by kernel_rfl
@[simp] theorem ti_320 : tiOf Tryz.prog 320 = (some (TI.mk 1 false 4 (.int .i32 0))) := by kernel_rfl
@[simp] theorem int_320 : intOf Tryz.prog 320 = (some .i32) := by kernel_rfl
@[simp] theorem ti_321 : tiOf Tryz.prog 321 = (some (TI.mk 1 false 4 (.int .i32 0))) := by kernel_rfl
@[simp] theorem int_321 : intOf Tryz.prog 321 = (some .i32) := by kernel_rfl
@[simp] theorem bld_322 : bldOf Tryz.prog 322 = true := by kernel_rfl
@[simp] theorem fld_322_0 : fldOf Tryz.prog 322 0 = (some (0, 12)) := by kernel_rfl
@[simp] theorem fld_322_1 : fldOf Tryz.prog 322 1 = (some (1, 12)) := by kernel_rfl
@[simp] theorem fld_322_2 : fldOf Tryz.prog 322 2 = (some (2, 239)) := by kernel_rfl
@[simp] theorem fld_322_3 : fldOf Tryz.prog 322 3 = (some (3, 317)) := by kernel_rfl
@[simp] theorem fld_322_4 : fldOf Tryz.prog 322 4 = (some (4, 5)) := by kernel_rfl
@[simp] theorem fld_322_5 : fldOf Tryz.prog 322 5 = (some (5, 5)) := by kernel_rfl
@[simp] theorem fld_322_6 : fldOf Tryz.prog 322 6 = (some (6, 318)) := by kernel_rfl
@[simp] theorem fld_322_7 : fldOf Tryz.prog 322 7 = (some (7, 319)) := by kernel_rfl
@[simp] theorem fld_322_8 : fldOf Tryz.prog 322 8 = (some (8, 209)) := by kernel_rfl
@[simp] theorem fld_322_9 : fldOf Tryz.prog 322 9 = (some (9, 320)) := by kernel_rfl
@[simp] theorem fld_322_10 : fldOf Tryz.prog 322 10 = (some (10, 321)) := by kernel_rfl
@[simp] theorem bld_323 : bldOf Tryz.prog 323 = true := by kernel_rfl
@[simp] theorem fld_323_0 : fldOf Tryz.prog 323 0 = (some (0, 12)) := by kernel_rfl
@[simp] theorem fld_323_1 : fldOf Tryz.prog 323 1 = (some (1, 12)) := by kernel_rfl
@[simp] theorem fld_323_2 : fldOf Tryz.prog 323 2 = (some (2, 239)) := by kernel_rfl
@[simp] theorem fld_323_3 : fldOf Tryz.prog 323 3 = (some (3, 317)) := by kernel_rfl
@[simp] theorem fld_323_4 : fldOf Tryz.prog 323 4 = (some (4, 5)) := by kernel_rfl
@[simp] theorem fld_323_5 : fldOf Tryz.prog 323 5 = (some (5, 5)) := by kernel_rfl
@[simp] theorem fld_323_6 : fldOf Tryz.prog 323 6 = (some (6, 318)) := by kernel_rfl
@[simp] theorem fld_323_7 : fldOf Tryz.prog 323 7 = (some (7, 319)) := by kernel_rfl
@[simp] theorem fld_323_8 : fldOf Tryz.prog 323 8 = (some (8, 209)) := by kernel_rfl
@[simp] theorem fld_323_9 : fldOf Tryz.prog 323 9 = (some (9, 320)) := by kernel_rfl
@[simp] theorem fld_323_10 : fldOf Tryz.prog 323 10 = (some (10, 321)) := by kernel_rfl
@[simp] theorem ti_324 : tiOf Tryz.prog 324 = (some (TI.mk 3 true 32 (.agg [(.int .i64 0), (.str ⟨#[]⟩), (.int .i64 0)]))) := by kernel_rfl
@[simp] theorem eqs_324 : eqsOf Tryz.prog 324 = (some [(.int .i64 0), (.str ⟨#[]⟩), (.int .i64 0)]) := by kernel_rfl
@[simp] theorem bld_324 : bldOf Tryz.prog 324 = true := by kernel_rfl
@[simp] theorem fld_324_0 : fldOf Tryz.prog 324 0 = (some (0, 3)) := by kernel_rfl
@[simp] theorem fld_324_1 : fldOf Tryz.prog 324 1 = (some (1, 9)) := by kernel_rfl
@[simp] theorem fld_324_2 : fldOf Tryz.prog 324 2 = (some (2, 3)) := by kernel_rfl
@[simp] theorem ti_325 : tiOf Tryz.prog 325 = (some (TI.mk 3 true 32 (.agg [(.int .i64 0), (.str ⟨#[]⟩), (.int .i64 0)]))) := by kernel_rfl
@[simp] theorem eqs_325 : eqsOf Tryz.prog 325 = (some [(.int .i64 0), (.str ⟨#[]⟩), (.int .i64 0)]) := by kernel_rfl
@[simp] theorem bld_325 : bldOf Tryz.prog 325 = true := by kernel_rfl
@[simp] theorem fld_325_0 : fldOf Tryz.prog 325 0 = (some (0, 3)) := by kernel_rfl
@[simp] theorem fld_325_1 : fldOf Tryz.prog 325 1 = (some (1, 9)) := by kernel_rfl
@[simp] theorem fld_325_2 : fldOf Tryz.prog 325 2 = (some (2, 3)) := by kernel_rfl
@[simp] theorem ti_326 : tiOf Tryz.prog 326 = (some (TI.mk 3 true 32 (.agg [(.int .i64 0), (.str ⟨#[]⟩), (.int .i64 0)]))) := by kernel_rfl
@[simp] theorem eqs_326 : eqsOf Tryz.prog 326 = (some [(.int .i64 0), (.str ⟨#[]⟩), (.int .i64 0)]) := by kernel_rfl
@[simp] theorem bld_326 : bldOf Tryz.prog 326 = true := by kernel_rfl
@[simp] theorem fld_326_0 : fldOf Tryz.prog 326 0 = (some (0, 3)) := by kernel_rfl
@[simp] theorem fld_326_1 : fldOf Tryz.prog 326 1 = (some (1, 9)) := by kernel_rfl
@[simp] theorem fld_326_2 : fldOf Tryz.prog 326 2 = (some (2, 3)) := by kernel_rfl
@[simp] theorem ti_327 : tiOf Tryz.prog 327 = (some (TI.mk 3 true 32 (.agg [(.int .i64 0), (.str ⟨#[]⟩), (.int .i64 0)]))) := by kernel_rfl
@[simp] theorem eqs_327 : eqsOf Tryz.prog 327 = (some [(.int .i64 0), (.str ⟨#[]⟩), (.int .i64 0)]) := by kernel_rfl
@[simp] theorem bld_327 : bldOf Tryz.prog 327 = true := by kernel_rfl
@[simp] theorem fld_327_0 : fldOf Tryz.prog 327 0 = (some (0, 3)) := by kernel_rfl
@[simp] theorem fld_327_1 : fldOf Tryz.prog 327 1 = (some (1, 9)) := by kernel_rfl
@[simp] theorem fld_327_2 : fldOf Tryz.prog 327 2 = (some (2, 3)) := by kernel_rfl
end Go.TM.ZT
end
section
set_option maxHeartbeats 2000000
namespace Go.TM.Tryz
open Go Go.TM Go.Proofs
theorem zmix : Tryz.prog.follows .mixedOrders = true := by kernel_rfl
theorem f61_ok (x : Src) (h : True) : FunOK Tryz.prog 61 [x.v] false x.v := by
  refine fun_ok (mkE_ok zmix (cl := []) (gl := []) [] trivial trivial) Tryz.func61 (by kernel_rfl) ?_
  refine FunW_run _ _ rfl rfl ?_
  simp
noncomputable def c61 := ctr (fun x : Src => True) (fun x => [x.v]) (fun x => (false, x.v))
theorem c61_eq (a0 : ByteArray) (a1 : ByteArray) : c61 [.agg [.str a0, .str a1]] = some (false, .agg [.str a0, .str a1]) := ctr_eq (inj0 Src.v_inj _) (Src.mk a0 a1) trivial rfl
theorem c61_ok : COK Tryz.prog (61, c61) := ctr_ok fun n h => f61_ok n h
theorem f20_ok (xs : List Src) (h : szL Src.sz xs ≤ 1048576) : FunOK Tryz.prog 20 [.lst (xs.map Src.v)] false (.inl 2 (xs.map Src.v)) := by
  refine fun_ok (mkE_ok zmix (cl := [(61, c61)]) (gl := []) [] c61_ok trivial) Tryz.func20 (by kernel_rfl) ?_
  refine FunW_run _ _ rfl rfl ?_
  have hl := szL_len Src.sz xs
  have hb2 : xs.length * 32 ≤ 140737488355328 := by omega
  have hb3 : xs.length ≤ 4294967296 := by omega
  simp [room, hb2, hb3]
  refine lp_list xs (fun i t => t.e 0 = .lst (xs.map Src.v) ∧ t.e 4 = .int .i64 i ∧ t.e 3 = .own 1 ∧ t.nt = 2 ∧ t.nb = 0 ∧ t.R 1 = some ⟨2, fill Src.v (.agg [.str ⟨#[]⟩, .str ⟨#[]⟩]) xs i, true⟩) ?_ ?_ ?_
  · simp [fill_zero]
  · rintro c' L hL i t x hx hi ih ⟨h0, h4, h3, hnt, hnb, hR⟩
    have hw := wrI (i := i) (by omega)
    have hn : ¬ 1 = t.nt := by omega
    simp [-getElem?_pos, gcz, gcs, h0, h4, h3, hnt, hnb, hR, hL, hx, hi, fill_get hi, hn, c61_eq]
    refine ih _ ?_
    simp [-getElem?_pos, gcz, gcs, h0, h4, h3, hnt, hnb, hR, hL, hx, hi, hw, hn]
    exact fill_set hx rfl
  · rintro c' t ⟨h0, h4, h3, hnt, hnb, hR⟩
    simp [h0, h4, h3, hnb, hR, fill_all]
noncomputable def c20 := ctr (fun xs : List Src => szL Src.sz xs ≤ 1048576) (fun xs => [.lst (xs.map Src.v)]) (fun xs => (false, .inl 2 (xs.map Src.v)))
theorem c20_eq (xs : List Src) (h : szL Src.sz xs ≤ 1048576) : c20 [.lst (xs.map Src.v)] = some (false, .inl 2 (xs.map Src.v)) := ctr_eq (injl Src.v_inj _) xs h rfl
theorem c20_ok : COK Tryz.prog (20, c20) := ctr_ok fun n h => f20_ok n h
end Go.TM.Tryz
end
section
set_option maxHeartbeats 2000000
namespace Go.TM.Tryz
open Go Go.TM Go.Proofs
section
variable {H : Type} {enc : TypeId × Value → H} {W : World}
theorem rd_Src : Rd Tryz.prog W enc 95 Src.v Src.lim := fun fuel cs x h => by
  obtain ⟨hl, n, hf⟩ := rd_cells Tryz.underlying95 (by kernel_rfl) h
  match cs, hl with
  | [c0, c1], _ =>
    obtain ⟨d0, y0, e0, h0⟩ := hf 0 _ rfl
    simp only [gcz, gcs, Option.some.injEq] at e0
    subst e0
    obtain ⟨a0, p0, q0⟩ := (rd_str Tryz.underlying9) _ _ _ h0
    obtain ⟨d1, y1, e1, h1⟩ := hf 1 _ rfl
    simp only [gcz, gcs, Option.some.injEq] at e1
    subst e1
    obtain ⟨a1, p1, q1⟩ := (rd_str Tryz.underlying9) _ _ _ h1
    exact ⟨⟨a0, a1⟩, ⟨p0, p1⟩, q0.1, q1.1, trivial⟩
end
end Go.TM.Tryz
end
section
namespace Go.TM.Tryz
open Go Go.TM Go.Proofs
@[simp] theorem cut_ints (xs : List Int) : (xs = [] ∨ (leaves ((Option.map (V.int .i64) xs[0]?).getD .bad)).length = 1) = True := cut_ok (f := V.int .i64) (n := 1) (fun _ => rfl) xs
@[simp] theorem vwE_int : vwE ∘ V.int .i64 = V.int .i64 := by funext x; rfl
@[simp] theorem norms_ints (xs : List Int) : norms (xs.map (V.int .i64)) = xs.map (V.int .i64) := by rw [norms_map]; simp
@[simp] theorem noLs_ints (xs : List Int) : noLs (xs.map (V.int .i64)) = true := noLs_map _ (by simp) _
theorem intv_inj : Function.Injective (V.int .i64) := fun a b h => by simpa using h
theorem ints_inj {a b : List Int} (h : a.map (V.int .i64) = b.map (V.int .i64)) : a = b := map_inj intv_inj h
end Go.TM.Tryz
end
section
set_option maxHeartbeats 8000000
set_option maxRecDepth 20000
namespace Go.TM.Tryz
open Go Go.TM Go.Proofs
def isN (n : Int) (x : Int) : Bool := decide (x = n)
theorem any_isN (xs : List Int) (n : Int) : xs.any (isN n) = decide (n ∈ xs) := by
  rw [Bool.eq_iff_iff]
  simp only [List.any_eq_true, isN, decide_eq_true_eq]
  constructor
  · rintro ⟨x, h, rfl⟩
    exact h
  · exact fun h => ⟨n, h, rfl⟩
theorem inj_in {β : Type} (out : List Int × Int → β) : ∀ a b : List Int × Int, [V.lst (a.1.map (V.int .i64)), .int .i64 a.2] = [V.lst (b.1.map (V.int .i64)), .int .i64 b.2] → out a = out b := by
  rintro ⟨a, c⟩ ⟨b, d⟩ h
  simp only [List.cons.injEq, and_true, V.lst.injEq, V.int.injEq, true_and] at h
  rw [ints_inj h.1, h.2]
theorem f108_ok (xs : List Int) (n : Int) (h : xs.length ≤ 1048576) : FunOK Tryz.prog 108 [.lst (xs.map (V.int .i64)), .int .i64 n] false (.bool (decide (n ∈ xs))) := by
  refine fun_ok (mkE_ok zmix (cl := []) (gl := []) [] trivial trivial) Tryz.func108 (by kernel_rfl) ?_
  refine FunW_run _ _ rfl rfl ?_
  rw [← any_isN]
  simp
  refine lp_list xs (fun i t => t.e 1 = .int .i64 n ∧ t.e 7 = .lst (xs.map (V.int .i64)) ∧ t.e 8 = .int .i64 xs.length ∧ t.e 9 = .int .i64 i ∧ anyI (isN n) xs i = false) ?_ ?_ ?_
  · simp
  · rintro c' L hL i t x hx hi ih ⟨h1, h7, h8, h9, hall⟩
    have hw := wrI (i := i) (by omega)
    by_cases hc : x = n
    · have := any_yes (p := isN n) hx (by simp [isN, hc])
      simp [-getElem?_pos, gcz, gcs, h1, h7, h8, h9, hL, hi, hx, hc, this]
    · simp [-getElem?_pos, gcz, gcs, h1, h7, h8, h9, hL, hi, hx, hc]
      refine ih _ ?_
      simp [h1, h7, h8, h9, hw, anyI_succ hx, hall, isN, hc]
  · rintro c' t ⟨h1, h7, h8, h9, hall⟩
    rw [anyI_all] at hall
    simp [h1, h7, h8, h9, hall]
noncomputable def c108 := ctr (fun a : List Int × Int => a.1.length ≤ 1048576) (fun a => [.lst (a.1.map (V.int .i64)), .int .i64 a.2]) (fun a => (false, .bool (decide (a.2 ∈ a.1))))
theorem c108_eq (xs : List Int) (n : Int) (h : xs.length ≤ 1048576) : c108 [.lst (xs.map (V.int .i64)), .int .i64 n] = some (false, .bool (decide (n ∈ xs))) := ctr_eq (inj_in _) (xs, n) h rfl
theorem c108_ok : COK Tryz.prog (108, c108) := ctr_ok fun a h => f108_ok a.1 a.2 h
theorem f113_ok (xs : List Int) (n : Int) (h : xs.length ≤ 1048576) : FunOK Tryz.prog 113 [.lst (xs.map (V.int .i64)), .int .i64 n] false (.int .i64 (fstI (isN n) xs)) := by
  refine fun_ok (mkE_ok zmix (cl := []) (gl := []) [] trivial trivial) Tryz.func113 (by kernel_rfl) ?_
  refine FunW_run _ _ rfl rfl ?_
  simp
  refine lp_list xs (fun i t => t.e 0 = .lst (xs.map (V.int .i64)) ∧ t.e 1 = .int .i64 n ∧ t.e 7 = .int .i64 xs.length ∧ t.e 8 = .int .i64 i ∧ anyI (isN n) xs i = false) ?_ ?_ ?_
  · simp
  · rintro c' L hL i t x hx hi ih ⟨h0, h1, h7, h8, hall⟩
    have hw := wrI (i := i) (by omega)
    by_cases hc : n = x
    · have := fst_yes (p := isN n) hx (by simp [isN, hc]) hall
      simp [-getElem?_pos, gcz, gcs, h0, h1, h7, h8, hL, hi, hx, hc]
      rw [hc] at this
      exact this.symm
    · have hc' : ¬ x = n := fun e => hc e.symm
      simp [-getElem?_pos, gcz, gcs, h0, h1, h7, h8, hL, hi, hx, hc]
      refine ih _ ?_
      simp [h0, h1, h7, h8, hw, anyI_succ hx, hall, isN, hc']
  · rintro c' t ⟨h0, h1, h7, h8, hall⟩
    simp [h0, h1, h7, h8, fst_no hall]
noncomputable def c113 := ctr (fun a : List Int × Int => a.1.length ≤ 1048576) (fun a => [.lst (a.1.map (V.int .i64)), .int .i64 a.2]) (fun a => (false, .int .i64 (fstI (isN a.2) a.1)))
theorem c113_eq (xs : List Int) (n : Int) (h : xs.length ≤ 1048576) : c113 [.lst (xs.map (V.int .i64)), .int .i64 n] = some (false, .int .i64 (fstI (isN n) xs)) := ctr_eq (inj_in _) (xs, n) h rfl
theorem c113_ok : COK Tryz.prog (113, c113) := ctr_ok fun a h => f113_ok a.1 a.2 h
theorem fstI_nn {α : Type} (p : α → Bool) (xs : List α) : (0 ≤ fstI p xs) ↔ xs.any p = true := by
  unfold fstI
  split
  · rename_i h
    exact ⟨fun _ => h, fun _ => by omega⟩
  · rename_i h
    exact ⟨fun h0 => by omega, fun h0 => absurd h0 h⟩
theorem fstI_dec {α : Type} (p : α → Bool) (xs : List α) : decide (0 ≤ fstI p xs) = xs.any p := by
  rw [Bool.eq_iff_iff, decide_eq_true_eq]
  exact fstI_nn p xs
theorem f73_ok (xs : List Int) (n : Int) (h : xs.length ≤ 1048576) : FunOK Tryz.prog 73 [.lst (xs.map (V.int .i64)), .int .i64 n] false (.bool (decide (n ∈ xs))) := by
  refine fun_ok (mkE_ok zmix (cl := [(113, c113)]) (gl := []) [] c113_ok trivial) Tryz.func73 (by kernel_rfl) ?_
  refine FunW_run _ _ rfl rfl ?_
  have e := c113_eq xs n h
  have e2 := fstI_dec (isN n) xs
  rw [any_isN] at e2
  generalize fstI (isN n) xs = k at *
  simp [e, e2]
noncomputable def c73 := ctr (fun a : List Int × Int => a.1.length ≤ 1048576) (fun a => [.lst (a.1.map (V.int .i64)), .int .i64 a.2]) (fun a => (false, .bool (decide (a.2 ∈ a.1))))
theorem c73_eq (xs : List Int) (n : Int) (h : xs.length ≤ 1048576) : c73 [.lst (xs.map (V.int .i64)), .int .i64 n] = some (false, .bool (decide (n ∈ xs))) := ctr_eq (inj_in _) (xs, n) h rfl
theorem c73_ok : COK Tryz.prog (73, c73) := ctr_ok fun a h => f73_ok a.1 a.2 h
def notIn (out : List Int) (x : Int) : Bool := !decide (x ∈ out)
theorem f110_ok (k : Int) (out : List Int) (h : out.length ≤ 1048576) : FunOK Tryz.prog 110 [.int .i64 k, .ladr [.lst (out.map (V.int .i64))] 0 0] false (.bool (notIn out k)) := by
  refine fun_ok (mkE_ok zmix (cl := [(73, c73)]) (gl := []) [] c73_ok trivial) Tryz.func110 (by kernel_rfl) ?_
  refine FunW_run _ _ rfl rfl ?_
  have e := c73_eq out k h
  simp [e, notIn]
theorem inj110 {β : Type} (f : List Int × Int → β) : ∀ a b : List Int × Int, [.int .i64 a.2, V.ladr [.lst (a.1.map (V.int .i64))] 0 0] = [.int .i64 b.2, V.ladr [.lst (b.1.map (V.int .i64))] 0 0] → f a = f b := by
  rintro ⟨a, c⟩ ⟨b, d⟩ h
  simp only [List.cons.injEq, and_true, V.lst.injEq, V.int.injEq, true_and, V.ladr.injEq] at h
  rw [ints_inj h.2, h.1]
noncomputable def c110 := ctr (fun a : List Int × Int => a.1.length ≤ 1048576) (fun a => [.int .i64 a.2, V.ladr [.lst (a.1.map (V.int .i64))] 0 0]) (fun a => (false, .bool (notIn a.1 a.2)))
theorem c110_eq (k : Int) (out : List Int) (h : out.length ≤ 1048576) : c110 [.int .i64 k, V.ladr [.lst (out.map (V.int .i64))] 0 0] = some (false, .bool (notIn out k)) := ctr_eq (inj110 _) (out, k) h rfl
theorem c110_ok : COK Tryz.prog (110, c110) := ctr_ok fun a h => f110_ok a.2 a.1 h
theorem f161_ok (l out : List Int) (hl : l.length ≤ 1048576) (h : out.length ≤ 1048576) : FunOK Tryz.prog 161 [.lst (l.map (V.int .i64)), .fn 110 [.ladr [.lst (out.map (V.int .i64))] 0 0]] false (.int .i64 (fstI (notIn out) l)) := by
  refine fun_ok (mkE_ok zmix (cl := [(110, c110)]) (gl := []) [] c110_ok trivial) Tryz.func161 (by kernel_rfl) ?_
  refine FunW_run _ _ rfl rfl ?_
  simp
  refine lp_list l (fun i t => t.e 1 = .fn 110 [.ladr [.lst (out.map (V.int .i64))] 0 0] ∧ t.e 0 = .lst (l.map (V.int .i64)) ∧ t.e 7 = .int .i64 l.length ∧ t.e 8 = .int .i64 i ∧ anyI (notIn out) l i = false) ?_ ?_ ?_
  · simp
  · rintro c' L hL i t x hx hi ih ⟨h1, h7, h8, h9, hall⟩
    have hw := wrI (i := i) (by omega)
    have e := c110_eq x out h
    simp [-getElem?_pos, List.getElem?_cons_zero, h1, h7, h8, h9, hL, hi, hx, e]
    split
    · rename_i hc
      exact (fst_yes hx hc hall).symm
    · rename_i hc
      refine ih _ ?_
      simp [h1, h7, h8, h9, hw, anyI_succ hx, hall, hc]
  · rintro c' t ⟨h1, h7, h8, h9, hall⟩
    simp [h1, h7, h8, h9, fst_no hall]
theorem inj161 {β : Type} (f : List Int × List Int → β) : ∀ a b : List Int × List Int, [V.lst (a.1.map (V.int .i64)), .fn 110 [.ladr [.lst (a.2.map (V.int .i64))] 0 0]] = [V.lst (b.1.map (V.int .i64)), .fn 110 [.ladr [.lst (b.2.map (V.int .i64))] 0 0]] → f a = f b := by
  rintro ⟨a, c⟩ ⟨b, d⟩ h
  simp only [List.cons.injEq, and_true, V.lst.injEq, V.fn.injEq, true_and, V.ladr.injEq] at h
  rw [ints_inj h.1, ints_inj h.2]
noncomputable def c161 := ctr (fun a : List Int × List Int => a.1.length ≤ 1048576 ∧ a.2.length ≤ 1048576) (fun a => [V.lst (a.1.map (V.int .i64)), .fn 110 [.ladr [.lst (a.2.map (V.int .i64))] 0 0]]) (fun a => (false, .int .i64 (fstI (notIn a.2) a.1)))
theorem c161_eq (l out : List Int) (hl : l.length ≤ 1048576) (h : out.length ≤ 1048576) : c161 [V.lst (l.map (V.int .i64)), .fn 110 [.ladr [.lst (out.map (V.int .i64))] 0 0]] = some (false, .int .i64 (fstI (notIn out) l)) := ctr_eq (inj161 _) (l, out) ⟨hl, h⟩ rfl
theorem c161_ok : COK Tryz.prog (161, c161) := ctr_ok fun a h => f161_ok a.1 a.2 h.1 h.2
theorem f109_ok (l out : List Int) (hl : l.length ≤ 1048576) (h : out.length ≤ 1048576) : FunOK Tryz.prog 109 [.lst (l.map (V.int .i64)), .fn 110 [.ladr [.lst (out.map (V.int .i64))] 0 0]] false (.bool (l.any (notIn out))) := by
  refine fun_ok (mkE_ok zmix (cl := [(161, c161)]) (gl := []) [] c161_ok trivial) Tryz.func109 (by kernel_rfl) ?_
  refine FunW_run _ _ rfl rfl ?_
  have e := c161_eq l out hl h
  have e2 := fstI_dec (notIn out) l
  generalize fstI (notIn out) l = k at *
  simp [e, e2]
noncomputable def c109 := ctr (fun a : List Int × List Int => a.1.length ≤ 1048576 ∧ a.2.length ≤ 1048576) (fun a => [V.lst (a.1.map (V.int .i64)), .fn 110 [.ladr [.lst (a.2.map (V.int .i64))] 0 0]]) (fun a => (false, .bool (a.1.any (notIn a.2))))
theorem c109_eq (l out : List Int) (hl : l.length ≤ 1048576) (h : out.length ≤ 1048576) : c109 [V.lst (l.map (V.int .i64)), .fn 110 [.ladr [.lst (out.map (V.int .i64))] 0 0]] = some (false, .bool (l.any (notIn out))) := ctr_eq (inj161 _) (l, out) ⟨hl, h⟩ rfl
theorem c109_ok : COK Tryz.prog (109, c109) := ctr_ok fun a h => f109_ok a.1 a.2 h.1 h.2
end Go.TM.Tryz
end
section
set_option maxHeartbeats 2000000
namespace Go.TM.Tryz
open Go Go.TM Go.Proofs
theorem f157_ok (n : Int) : FunOK Tryz.prog 157 [.int .u8 n] false (.bool (letterB n)) := by
  refine fun_ok (mkE_ok zmix (cl := []) (gl := []) [] trivial trivial) Tryz.func157 (by kernel_rfl) ?_
  refine FunW_run _ _ rfl rfl ?_
  simp [letterB]
noncomputable def c157 := ctr (fun _ : Int => True) (fun n => [.int .u8 n]) (fun n => (false, .bool (letterB n)))
theorem c157_eq (n : Int) : c157 [.int .u8 n] = some (false, .bool (letterB n)) := ctr_eq (by simp) n trivial rfl
theorem c157_ok : COK Tryz.prog (157, c157) := ctr_ok fun n _ => f157_ok n
theorem f158_ok (n : Int) : FunOK Tryz.prog 158 [.int .u8 n] false (.bool (digitB n)) := by
  refine fun_ok (mkE_ok zmix (cl := []) (gl := []) [] trivial trivial) Tryz.func158 (by kernel_rfl) ?_
  refine FunW_run _ _ rfl rfl ?_
  simp [digitB]
noncomputable def c158 := ctr (fun _ : Int => True) (fun n => [.int .u8 n]) (fun n => (false, .bool (digitB n)))
theorem c158_eq (n : Int) : c158 [.int .u8 n] = some (false, .bool (digitB n)) := ctr_eq (by simp) n trivial rfl
theorem c158_ok : COK Tryz.prog (158, c158) := ctr_ok fun n _ => f158_ok n
theorem f68_ok (a : Int × Int × Int) : FunOK Tryz.prog 68 [.int .i64 a.1, .int .i64 a.2.1, .int .i64 a.2.2] false (.bool (inB a.1 a.2.1 a.2.2)) := by
  refine fun_ok (mkE_ok zmix (cl := []) (gl := []) [] trivial trivial) Tryz.func68 (by kernel_rfl) ?_
  refine FunW_run _ _ rfl rfl ?_
  simp [inB]
noncomputable def c68 := ctr (fun _ : Int × Int × Int => True) (fun a => [.int .i64 a.1, .int .i64 a.2.1, .int .i64 a.2.2]) (fun a => (false, .bool (inB a.1 a.2.1 a.2.2)))
theorem c68_eq (n l h : Int) : c68 [.int .i64 n, .int .i64 l, .int .i64 h] = some (false, .bool (inB n l h)) := ctr_eq (by rintro ⟨a, b, c⟩ ⟨d, e, f⟩; simp; rintro rfl rfl rfl; simp) (n, l, h) trivial rfl
theorem c68_ok : COK Tryz.prog (68, c68) := ctr_ok fun n _ => f68_ok n
theorem f66_ok (a : Int × Int × Int) : FunOK Tryz.prog 66 [.int .i64 a.1, .int .i64 a.2.1, .int .i64 a.2.2] false (.bool (inB a.1 a.2.1 a.2.2)) := by
  refine fun_ok (mkE_ok zmix (cl := []) (gl := []) [] trivial trivial) Tryz.func66 (by kernel_rfl) ?_
  refine FunW_run _ _ rfl rfl ?_
  simp [inB]
noncomputable def c66 := ctr (fun _ : Int × Int × Int => True) (fun a => [.int .i64 a.1, .int .i64 a.2.1, .int .i64 a.2.2]) (fun a => (false, .bool (inB a.1 a.2.1 a.2.2)))
theorem c66_eq (n l h : Int) : c66 [.int .i64 n, .int .i64 l, .int .i64 h] = some (false, .bool (inB n l h)) := ctr_eq (by rintro ⟨a, b, c⟩ ⟨d, e, f⟩; simp; rintro rfl rfl rfl; simp) (n, l, h) trivial rfl
theorem c66_ok : COK Tryz.prog (66, c66) := ctr_ok fun n _ => f66_ok n
theorem f105_ok (s : ByteArray) (hs : s.size ≤ lim) : FunOK Tryz.prog 105 [.str s] false (.bool (nameB s)) := by
  refine fun_ok (mkE_ok zmix (cl := [(157, c157), (158, c158), (68, c68)]) (gl := []) [] ⟨c157_ok, c158_ok, c68_ok⟩ trivial) Tryz.func105 (by kernel_rfl) ?_
  refine FunW_run _ _ rfl rfl ?_
  have hsz := ba_len s
  simp only [lim] at hs
  simp
  refine lp_list s.data.toList (fun i t => t.e 0 = .str s ∧ t.e 5 = .int .i64 s.size ∧ t.e 6 = .int .i64 i ∧ allI okB s.data.toList i = true) ?_ ?_ ?_
  · simp
  · rintro c' L hL i t x hx hi ih ⟨h0, h5, h6, hall⟩
    have hi' : i < s.size := by omega
    have hw := wrI (i := i) (by omega)
    have hx' : s.data[i]? = some x := by simpa using hx
    simp [-getElem?_pos, h0, h5, h6, hL, hi', hx', c157_eq, c158_eq]
    split
    · rename_i hc
      have hok : okB i x = false := okB_no.2 hc
      have := allI_no hx hok
      rw [← hsz] at this
      simp [nameB, this]
    · rename_i hc
      have hok : okB i x = true := by rw [← Bool.not_eq_false, okB_no]; exact hc
      refine ih _ ?_
      simp [h0, h5, h6, hw, allI_succ hx, hall, hok]
  · rintro c' t ⟨h0, h5, h6, hall⟩
    rw [← hsz] at h6 hall
    simp [h0, h5, h6, c68_eq, nameB, hall]
noncomputable def c105 := ctr (fun s : ByteArray => s.size ≤ lim) (fun s => [.str s]) (fun s => (false, .bool (nameB s)))
theorem c105_eq (s : ByteArray) (h : s.size ≤ lim) : c105 [.str s] = some (false, .bool (nameB s)) := ctr_eq (by simp) s h rfl
theorem c105_ok : COK Tryz.prog (105, c105) := ctr_ok fun s h => f105_ok s h
theorem f98_ok (s : ByteArray) (hs : s.size ≤ lim) : FunOK Tryz.prog 98 [.str s] false (.bool (nameB s)) := by
  refine fun_ok (mkE_ok zmix (cl := [(66, c66)]) (gl := []) [] c66_ok trivial) Tryz.func98 (by kernel_rfl) ?_
  refine FunW_run _ _ rfl rfl ?_
  have hsz := ba_len s
  simp only [lim] at hs
  simp
  refine lp_list s.data.toList (fun i t => t.e 0 = .str s ∧ t.e 3 = .int .i64 i ∧ allI okB s.data.toList i = true) ?_ ?_ ?_
  · simp
  · rintro c' L hL i t x hx hi ih ⟨h0, h3, hall⟩
    have hi' : i < s.size := by omega
    have hw := wrI (i := i) (by omega)
    have hx' : s.data[i]? = some x := by simpa using hx
    simp [-getElem?_pos, h0, h3, hL, hi', hx']
    split
    · rename_i hc
      have hno := allI_no hx (okB_no2.2 hc)
      rw [← hsz] at hno
      simp [nameB, hno]
    · rename_i hc
      have hok : okB i x = true := by rw [← Bool.not_eq_false, okB_no2]; exact hc
      refine ih _ ?_
      simp [h0, h3, hw, allI_succ hx, hall, hok]
  · rintro c' t ⟨h0, h3, hall⟩
    rw [← hsz] at h3 hall
    simp [h0, h3, c66_eq, nameB, hall]
noncomputable def c98 := ctr (fun s : ByteArray => s.size ≤ lim) (fun s => [.str s]) (fun s => (false, .bool (nameB s)))
theorem c98_eq (s : ByteArray) (h : s.size ≤ lim) : c98 [.str s] = some (false, .bool (nameB s)) := ctr_eq (by simp) s h rfl
theorem c98_ok : COK Tryz.prog (98, c98) := ctr_ok fun s h => f98_ok s h
theorem f170_ok (l : List ByteArray) (s : ByteArray) (hl : l.length ≤ lim) : FunOK Tryz.prog 170 [.lst (l.map .str), .str s] false (.int .i64 (fstI (fun x => decide (x = s)) l)) := by
  refine fun_ok (mkE_ok zmix (cl := []) (gl := []) [] trivial trivial) Tryz.func170 (by kernel_rfl) ?_
  refine FunW_run _ _ rfl rfl ?_
  simp only [lim] at hl
  simp
  refine lp_list l (fun i t => t.e 1 = .str s ∧ t.e 0 = .lst (l.map .str) ∧ t.e 7 = .int .i64 l.length ∧ t.e 8 = .int .i64 i ∧ anyI (fun x => decide (x = s)) l i = false) ?_ ?_ ?_
  · simp
  · rintro c' L hL i t x hx hi ih ⟨h1, h7, h8, h9, hall⟩
    have hw := wrI (i := i) (by omega)
    simp [-getElem?_pos, List.getElem?_cons_zero, h1, h7, h8, h9, hL, hi, hx]
    split
    · rename_i hc
      exact (fst_yes hx (by simp [hc]) hall).symm
    · rename_i hc
      refine ih _ ?_
      simp [h1, h7, h8, h9, hw, anyI_succ hx, hall]
      exact fun h => hc h.symm
  · rintro c' t ⟨h1, h7, h8, h9, hall⟩
    simp [h1, h7, h8, h9, fst_no hall]
noncomputable def c170 := ctr (fun a : List ByteArray × ByteArray => a.1.length ≤ lim) (fun a => [.lst (a.1.map .str), .str a.2]) (fun a => (false, .int .i64 (fstI (fun x => decide (x = a.2)) a.1)))
theorem c170_eq (l : List ByteArray) (s : ByteArray) (h : l.length ≤ lim) : c170 [.lst (l.map .str), .str s] = some (false, .int .i64 (fstI (fun x => decide (x = s)) l)) := ctr_eq (injLS str_inj _) (l, s) h rfl
theorem c170_ok : COK Tryz.prog (170, c170) := ctr_ok fun a h => f170_ok a.1 a.2 h
theorem f118_ok (l : List ByteArray) (s : ByteArray) (hl : l.length ≤ lim) : FunOK Tryz.prog 118 [.lst (l.map .str), .str s] false (.bool (hasB l s)) := by
  refine fun_ok (mkE_ok zmix (cl := [(170, c170)]) (gl := []) [] c170_ok trivial) Tryz.func118 (by kernel_rfl) ?_
  refine FunW_run _ _ rfl rfl ?_
  simp [c170_eq l s hl, fst_ge, hasB]
noncomputable def c118 := ctr (fun a : List ByteArray × ByteArray => a.1.length ≤ lim) (fun a => [.lst (a.1.map .str), .str a.2]) (fun a => (false, .bool (hasB a.1 a.2)))
theorem c118_eq (l : List ByteArray) (s : ByteArray) (h : l.length ≤ lim) : c118 [.lst (l.map .str), .str s] = some (false, .bool (hasB l s)) := ctr_eq (injLS str_inj _) (l, s) h rfl
theorem c118_ok : COK Tryz.prog (118, c118) := ctr_ok fun a h => f118_ok a.1 a.2 h
end Go.TM.Tryz
end
