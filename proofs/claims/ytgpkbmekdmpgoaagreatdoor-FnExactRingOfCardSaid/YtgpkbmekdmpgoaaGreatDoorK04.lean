/- A part of the proof: ZT, ZTo, UT, G0, G0b, G0c, G1, G2, G3, D3, G4, G5, G6, GDel, GDel2, GDel3, GDel4, GDel5, S0, S1. -/
import Derived.Test.YtgpkbmekdmpgoaaGreatDoorK03
import Derived.Test.YtgpkbmekdmpgoaaGreatDoorProg
import Derived.KernelRfl
import Derived.MapKept
import Derived.Lib.SlicesCompact
import Derived.Shelf.Sort.Plain
import Derived.Shelf.Slices.CompactI
set_option linter.unusedVariables false
set_option linter.unusedSimpArgs false
section
namespace Go.TM.ZT
open Go.Proofs
@[simp] theorem ti_2 : tiOf Tryz.prog 2 = (some (TI.mk 1 false 8 (.int .i64 0))) := by kernel_rfl
@[simp] theorem int_2 : intOf Tryz.prog 2 = (some .i64) := by kernel_rfl
@[simp] theorem ti_3 : tiOf Tryz.prog 3 = (some (TI.mk 1 false 8 (.int .i64 0))) := by kernel_rfl
@[simp] theorem int_3 : intOf Tryz.prog 3 = (some .i64) := by kernel_rfl
@[simp] theorem ti_4 : tiOf Tryz.prog 4 = (some (TI.mk 1 false 1 (.bool false))) := by kernel_rfl
@[simp] theorem bol_4 : bolOf Tryz.prog 4 = true := by kernel_rfl
@[simp] theorem ti_5 : tiOf Tryz.prog 5 = (some (TI.mk 1 false 1 (.int .u8 0))) := by kernel_rfl
@[simp] theorem int_5 : intOf Tryz.prog 5 = (some .u8) := by kernel_rfl
@[simp] theorem ti_6 : tiOf Tryz.prog 6 = (some (TI.mk 1 false 1 (.int .u8 0))) := by kernel_rfl
@[simp] theorem int_6 : intOf Tryz.prog 6 = (some .u8) := by kernel_rfl
@[simp] theorem ti_7 : tiOf Tryz.prog 7 = (some (TI.mk 4 true 24 (.agg [(.int .i64 0), (.int .i64 0), (.bool false), (.int .u8 0)]))) := by kernel_rfl
@[simp] theorem eqs_7 : eqsOf Tryz.prog 7 = (some [(.int .i64 0), (.int .i64 0), (.bool false), (.int .u8 0)]) := by kernel_rfl
@[simp] theorem bld_7 : bldOf Tryz.prog 7 = true := by kernel_rfl
@[simp] theorem fld_7_0 : fldOf Tryz.prog 7 0 = (some (0, 2)) := by kernel_rfl
@[simp] theorem fld_7_1 : fldOf Tryz.prog 7 1 = (some (1, 3)) := by kernel_rfl
@[simp] theorem fld_7_2 : fldOf Tryz.prog 7 2 = (some (2, 4)) := by kernel_rfl
@[simp] theorem fld_7_3 : fldOf Tryz.prog 7 3 = (some (3, 6)) := by kernel_rfl
@[simp] theorem ti_8 : tiOf Tryz.prog 8 = (some (TI.mk 4 true 24 (.agg [(.int .i64 0), (.int .i64 0), (.bool false), (.int .u8 0)]))) := by kernel_rfl
@[simp] theorem eqs_8 : eqsOf Tryz.prog 8 = (some [(.int .i64 0), (.int .i64 0), (.bool false), (.int .u8 0)]) := by kernel_rfl
@[simp] theorem bld_8 : bldOf Tryz.prog 8 = true := by kernel_rfl
@[simp] theorem fld_8_0 : fldOf Tryz.prog 8 0 = (some (0, 2)) := by kernel_rfl
@[simp] theorem fld_8_1 : fldOf Tryz.prog 8 1 = (some (1, 3)) := by kernel_rfl
@[simp] theorem fld_8_2 : fldOf Tryz.prog 8 2 = (some (2, 4)) := by kernel_rfl
@[simp] theorem fld_8_3 : fldOf Tryz.prog 8 3 = (some (3, 6)) := by kernel_rfl
@[simp] theorem ti_9 : tiOf Tryz.prog 9 = (some (TI.mk 1 false 16 (.str ⟨#[]⟩))) := by kernel_rfl
@[simp] theorem str_9 : strOf Tryz.prog 9 = true := by kernel_rfl
@[simp] theorem ti_10 : tiOf Tryz.prog 10 = (some (TI.mk 1 false 16 (.str ⟨#[]⟩))) := by kernel_rfl
@[simp] theorem str_10 : strOf Tryz.prog 10 = true := by kernel_rfl
@[simp] theorem ti_11 : tiOf Tryz.prog 11 = (some (TI.mk 1 false 16 (.str ⟨#[]⟩))) := by kernel_rfl
@[simp] theorem str_11 : strOf Tryz.prog 11 = true := by kernel_rfl
@[simp] theorem ti_12 : tiOf Tryz.prog 12 = (some (TI.mk 1 false 8 (.int .u64 0))) := by kernel_rfl
@[simp] theorem int_12 : intOf Tryz.prog 12 = (some .u64) := by kernel_rfl
@[simp] theorem ti_13 : tiOf Tryz.prog 13 = (some (TI.mk 2 true 24 (.agg [(.str ⟨#[]⟩), (.int .u64 0)]))) := by kernel_rfl
@[simp] theorem bld_13 : bldOf Tryz.prog 13 = true := by kernel_rfl
@[simp] theorem fld_13_0 : fldOf Tryz.prog 13 0 = (some (0, 9)) := by kernel_rfl
@[simp] theorem fld_13_1 : fldOf Tryz.prog 13 1 = (some (1, 12)) := by kernel_rfl
@[simp] theorem ti_14 : tiOf Tryz.prog 14 = (some (TI.mk 2 true 24 (.agg [(.str ⟨#[]⟩), (.int .u64 0)]))) := by kernel_rfl
@[simp] theorem bld_14 : bldOf Tryz.prog 14 = true := by kernel_rfl
@[simp] theorem fld_14_0 : fldOf Tryz.prog 14 0 = (some (0, 9)) := by kernel_rfl
@[simp] theorem fld_14_1 : fldOf Tryz.prog 14 1 = (some (1, 12)) := by kernel_rfl
@[simp] theorem ti_15 : tiOf Tryz.prog 15 = (some (TI.mk 1 false 8 .nilp)) := by kernel_rfl
@[simp] theorem ti_16 : tiOf Tryz.prog 16 = (some (TI.mk 1 false 8 .nilp)) := by kernel_rfl
@[simp] theorem ti_17 : tiOf Tryz.prog 17 = (some (TI.mk 1 false 8 .nilp)) := by kernel_rfl
@[simp] theorem ti_18 : tiOf Tryz.prog 18 = (some (TI.mk 1 true 8 (.agg [.nilp]))) := by kernel_rfl
@[simp] theorem bld_18 : bldOf Tryz.prog 18 = true := by kernel_rfl
@[simp] theorem fld_18_0 : fldOf Tryz.prog 18 0 = (some (0, 17)) := by kernel_rfl
@[simp] theorem ti_19 : tiOf Tryz.prog 19 = (some (TI.mk 1 true 8 (.agg [.nilp]))) := by kernel_rfl
@[simp] theorem bld_19 : bldOf Tryz.prog 19 = true := by kernel_rfl
@[simp] theorem fld_19_0 : fldOf Tryz.prog 19 0 = (some (0, 17)) := by kernel_rfl
@[simp] theorem ti_20 : tiOf Tryz.prog 20 = (some (TI.mk 1 false 16 .nili)) := by kernel_rfl
@[simp] theorem ifc_20 : ifcOf Tryz.prog 20 = true := by kernel_rfl
@[simp] theorem ti_21 : tiOf Tryz.prog 21 = (some (TI.mk 1 false 4 (.int .i32 0))) := by kernel_rfl
@[simp] theorem int_21 : intOf Tryz.prog 21 = (some .i32) := by kernel_rfl
@[simp] theorem ti_22 : tiOf Tryz.prog 22 = (some (TI.mk 1 false 24 (.inl 4 []))) := by kernel_rfl
@[simp] theorem el_22 : elOf Tryz.prog 22 = (some 77) := by kernel_rfl
@[simp] theorem ti_24 : tiOf Tryz.prog 24 = (some (TI.mk 1 false 24 (.inl 4 []))) := by kernel_rfl
@[simp] theorem el_24 : elOf Tryz.prog 24 = (some 90) := by kernel_rfl
@[simp] theorem ti_27 : tiOf Tryz.prog 27 = (some (TI.mk 1 false 24 (.inl 4 []))) := by kernel_rfl
@[simp] theorem el_27 : elOf Tryz.prog 27 = (some 82) := by kernel_rfl
@[simp] theorem ti_34 : tiOf Tryz.prog 34 = (some (TI.mk 1 false 24 (.inl 2 []))) := by kernel_rfl
@[simp] theorem el_34 : elOf Tryz.prog 34 = (some 95) := by kernel_rfl
@[simp] theorem ti_36 : tiOf Tryz.prog 36 = (some (TI.mk 1 false 24 (.inl 1 []))) := by kernel_rfl
@[simp] theorem el_36 : elOf Tryz.prog 36 = (some 46) := by kernel_rfl
@[simp] theorem ti_39 : tiOf Tryz.prog 39 = (some (TI.mk 1 false 24 (.inl 2 []))) := by kernel_rfl
@[simp] theorem el_39 : elOf Tryz.prog 39 = (some 98) := by kernel_rfl
@[simp] theorem ti_46 : tiOf Tryz.prog 46 = (some (TI.mk 1 false 24 (.inl 1 []))) := by kernel_rfl
@[simp] theorem el_46 : elOf Tryz.prog 46 = (some 3) := by kernel_rfl
@[simp] theorem ti_53 : tiOf Tryz.prog 53 = (some (TI.mk 1 false 24 (.inl 1 []))) := by kernel_rfl
@[simp] theorem el_53 : elOf Tryz.prog 53 = (some 5) := by kernel_rfl
@[simp] theorem ti_55 : tiOf Tryz.prog 55 = (some (TI.mk 1 false 24 (.inl 1 []))) := by kernel_rfl
@[simp] theorem el_55 : elOf Tryz.prog 55 = (some 9) := by kernel_rfl
@[simp] theorem ti_56 : tiOf Tryz.prog 56 = (some (TI.mk 1 false 24 (.inl 6 []))) := by kernel_rfl
@[simp] theorem el_56 : elOf Tryz.prog 56 = (some 164) := by kernel_rfl
@[simp] theorem ti_57 : tiOf Tryz.prog 57 = (some (TI.mk 1 false 24 (.inl 6 []))) := by kernel_rfl
@[simp] theorem el_57 : elOf Tryz.prog 57 = (some 68) := by kernel_rfl
@[simp] theorem ti_58 : tiOf Tryz.prog 58 = (some (TI.mk 1 false 24 (.inl 2 []))) := by kernel_rfl
@[simp] theorem el_58 : elOf Tryz.prog 58 = (some 154) := by kernel_rfl
@[simp] theorem ti_59 : tiOf Tryz.prog 59 = (some (TI.mk 5 true 112 (.agg [(.str ⟨#[]⟩), (.inl 1 []), (.inl 6 []), (.inl 6 []), (.inl 2 [])]))) := by kernel_rfl
@[simp] theorem bld_59 : bldOf Tryz.prog 59 = true := by kernel_rfl
@[simp] theorem fld_59_0 : fldOf Tryz.prog 59 0 = (some (0, 9)) := by kernel_rfl
@[simp] theorem fld_59_1 : fldOf Tryz.prog 59 1 = (some (1, 55)) := by kernel_rfl
@[simp] theorem fld_59_2 : fldOf Tryz.prog 59 2 = (some (2, 56)) := by kernel_rfl
@[simp] theorem fld_59_3 : fldOf Tryz.prog 59 3 = (some (3, 57)) := by kernel_rfl
@[simp] theorem fld_59_4 : fldOf Tryz.prog 59 4 = (some (4, 58)) := by kernel_rfl
@[simp] theorem ti_60 : tiOf Tryz.prog 60 = (some (TI.mk 5 true 112 (.agg [(.str ⟨#[]⟩), (.inl 1 []), (.inl 6 []), (.inl 6 []), (.inl 2 [])]))) := by kernel_rfl
@[simp] theorem bld_60 : bldOf Tryz.prog 60 = true := by kernel_rfl
@[simp] theorem fld_60_0 : fldOf Tryz.prog 60 0 = (some (0, 9)) := by kernel_rfl
@[simp] theorem fld_60_1 : fldOf Tryz.prog 60 1 = (some (1, 55)) := by kernel_rfl
@[simp] theorem fld_60_2 : fldOf Tryz.prog 60 2 = (some (2, 56)) := by kernel_rfl
@[simp] theorem fld_60_3 : fldOf Tryz.prog 60 3 = (some (3, 57)) := by kernel_rfl
@[simp] theorem fld_60_4 : fldOf Tryz.prog 60 4 = (some (4, 58)) := by kernel_rfl
@[simp] theorem ti_66 : tiOf Tryz.prog 66 = (some (TI.mk 1 false 24 (.inl 3 []))) := by kernel_rfl
@[simp] theorem el_66 : elOf Tryz.prog 66 = (some 166) := by kernel_rfl
@[simp] theorem ti_67 : tiOf Tryz.prog 67 = (some (TI.mk 6 true 72 (.agg [(.str ⟨#[]⟩), (.int .i64 0), (.int .i64 0), (.int .i64 0), (.int .i64 0), (.inl 3 [])]))) := by kernel_rfl
@[simp] theorem bld_67 : bldOf Tryz.prog 67 = true := by kernel_rfl
@[simp] theorem fld_67_0 : fldOf Tryz.prog 67 0 = (some (0, 9)) := by kernel_rfl
@[simp] theorem fld_67_1 : fldOf Tryz.prog 67 1 = (some (1, 3)) := by kernel_rfl
@[simp] theorem fld_67_2 : fldOf Tryz.prog 67 2 = (some (2, 3)) := by kernel_rfl
@[simp] theorem fld_67_3 : fldOf Tryz.prog 67 3 = (some (3, 3)) := by kernel_rfl
@[simp] theorem fld_67_4 : fldOf Tryz.prog 67 4 = (some (4, 3)) := by kernel_rfl
@[simp] theorem fld_67_5 : fldOf Tryz.prog 67 5 = (some (5, 66)) := by kernel_rfl
@[simp] theorem ti_68 : tiOf Tryz.prog 68 = (some (TI.mk 6 true 72 (.agg [(.str ⟨#[]⟩), (.int .i64 0), (.int .i64 0), (.int .i64 0), (.int .i64 0), (.inl 3 [])]))) := by kernel_rfl
@[simp] theorem bld_68 : bldOf Tryz.prog 68 = true := by kernel_rfl
@[simp] theorem fld_68_0 : fldOf Tryz.prog 68 0 = (some (0, 9)) := by kernel_rfl
@[simp] theorem fld_68_1 : fldOf Tryz.prog 68 1 = (some (1, 3)) := by kernel_rfl
@[simp] theorem fld_68_2 : fldOf Tryz.prog 68 2 = (some (2, 3)) := by kernel_rfl
@[simp] theorem fld_68_3 : fldOf Tryz.prog 68 3 = (some (3, 3)) := by kernel_rfl
@[simp] theorem fld_68_4 : fldOf Tryz.prog 68 4 = (some (4, 3)) := by kernel_rfl
@[simp] theorem fld_68_5 : fldOf Tryz.prog 68 5 = (some (5, 66)) := by kernel_rfl
@[simp] theorem ti_76 : tiOf Tryz.prog 76 = (some (TI.mk 4 true 40 (.agg [(.int .i64 0), (.str ⟨#[]⟩), (.int .i64 0), (.int .i64 0)]))) := by kernel_rfl
@[simp] theorem eqs_76 : eqsOf Tryz.prog 76 = (some [(.int .i64 0), (.str ⟨#[]⟩), (.int .i64 0), (.int .i64 0)]) := by kernel_rfl
@[simp] theorem bld_76 : bldOf Tryz.prog 76 = true := by kernel_rfl
@[simp] theorem fld_76_0 : fldOf Tryz.prog 76 0 = (some (0, 3)) := by kernel_rfl
@[simp] theorem fld_76_1 : fldOf Tryz.prog 76 1 = (some (1, 9)) := by kernel_rfl
@[simp] theorem fld_76_2 : fldOf Tryz.prog 76 2 = (some (2, 3)) := by kernel_rfl
@[simp] theorem fld_76_3 : fldOf Tryz.prog 76 3 = (some (3, 3)) := by kernel_rfl
@[simp] theorem ti_77 : tiOf Tryz.prog 77 = (some (TI.mk 4 true 40 (.agg [(.int .i64 0), (.str ⟨#[]⟩), (.int .i64 0), (.int .i64 0)]))) := by kernel_rfl
@[simp] theorem eqs_77 : eqsOf Tryz.prog 77 = (some [(.int .i64 0), (.str ⟨#[]⟩), (.int .i64 0), (.int .i64 0)]) := by kernel_rfl
@[simp] theorem bld_77 : bldOf Tryz.prog 77 = true := by kernel_rfl
@[simp] theorem fld_77_0 : fldOf Tryz.prog 77 0 = (some (0, 3)) := by kernel_rfl
@[simp] theorem fld_77_1 : fldOf Tryz.prog 77 1 = (some (1, 9)) := by kernel_rfl
@[simp] theorem fld_77_2 : fldOf Tryz.prog 77 2 = (some (2, 3)) := by kernel_rfl
@[simp] theorem fld_77_3 : fldOf Tryz.prog 77 3 = (some (3, 3)) := by kernel_rfl
@[simp] theorem ti_79 : tiOf Tryz.prog 79 = (some (TI.mk 1 false 8 .nilp)) := by kernel_rfl
@[simp] theorem ti_80 : tiOf Tryz.prog 80 = (some (TI.mk 4 true 64 (.agg [(.inl 4 []), (.int .i64 0), (.int .i64 0), (.inl 4 [])]))) := by kernel_rfl
@[simp] theorem bld_80 : bldOf Tryz.prog 80 = true := by kernel_rfl
@[simp] theorem fld_80_0 : fldOf Tryz.prog 80 0 = (some (0, 27)) := by kernel_rfl
@[simp] theorem fld_80_1 : fldOf Tryz.prog 80 1 = (some (1, 3)) := by kernel_rfl
@[simp] theorem fld_80_2 : fldOf Tryz.prog 80 2 = (some (2, 3)) := by kernel_rfl
@[simp] theorem fld_80_3 : fldOf Tryz.prog 80 3 = (some (3, 24)) := by kernel_rfl
@[simp] theorem ti_81 : tiOf Tryz.prog 81 = (some (TI.mk 4 true 64 (.agg [(.inl 4 []), (.int .i64 0), (.int .i64 0), (.inl 4 [])]))) := by kernel_rfl
@[simp] theorem bld_81 : bldOf Tryz.prog 81 = true := by kernel_rfl
@[simp] theorem fld_81_0 : fldOf Tryz.prog 81 0 = (some (0, 27)) := by kernel_rfl
@[simp] theorem fld_81_1 : fldOf Tryz.prog 81 1 = (some (1, 3)) := by kernel_rfl
@[simp] theorem fld_81_2 : fldOf Tryz.prog 81 2 = (some (2, 3)) := by kernel_rfl
@[simp] theorem fld_81_3 : fldOf Tryz.prog 81 3 = (some (3, 24)) := by kernel_rfl
@[simp] theorem ti_82 : tiOf Tryz.prog 82 = (some (TI.mk 4 true 40 (.agg [(.int .i64 0), (.str ⟨#[]⟩), (.int .i64 0), (.int .i64 0)]))) := by kernel_rfl
@[simp] theorem eqs_82 : eqsOf Tryz.prog 82 = (some [(.int .i64 0), (.str ⟨#[]⟩), (.int .i64 0), (.int .i64 0)]) := by kernel_rfl
@[simp] theorem bld_82 : bldOf Tryz.prog 82 = true := by kernel_rfl
@[simp] theorem fld_82_0 : fldOf Tryz.prog 82 0 = (some (0, 3)) := by kernel_rfl
@[simp] theorem fld_82_1 : fldOf Tryz.prog 82 1 = (some (1, 9)) := by kernel_rfl
@[simp] theorem fld_82_2 : fldOf Tryz.prog 82 2 = (some (2, 3)) := by kernel_rfl
@[simp] theorem fld_82_3 : fldOf Tryz.prog 82 3 = (some (3, 3)) := by kernel_rfl
@[simp] theorem ti_84 : tiOf Tryz.prog 84 = (some (TI.mk 1 false 8 .nilp)) := by kernel_rfl
@[simp] theorem ti_85 : tiOf Tryz.prog 85 = (some (TI.mk 3 true 40 (.agg [(.inl 4 []), (.int .i64 0), (.int .i64 0)]))) := by kernel_rfl
@[simp] theorem bld_85 : bldOf Tryz.prog 85 = true := by kernel_rfl
@[simp] theorem fld_85_0 : fldOf Tryz.prog 85 0 = (some (0, 27)) := by kernel_rfl
@[simp] theorem fld_85_1 : fldOf Tryz.prog 85 1 = (some (1, 3)) := by kernel_rfl
@[simp] theorem fld_85_2 : fldOf Tryz.prog 85 2 = (some (2, 3)) := by kernel_rfl
@[simp] theorem ti_86 : tiOf Tryz.prog 86 = (some (TI.mk 3 true 40 (.agg [(.inl 4 []), (.int .i64 0), (.int .i64 0)]))) := by kernel_rfl
@[simp] theorem bld_86 : bldOf Tryz.prog 86 = true := by kernel_rfl
@[simp] theorem fld_86_0 : fldOf Tryz.prog 86 0 = (some (0, 27)) := by kernel_rfl
@[simp] theorem fld_86_1 : fldOf Tryz.prog 86 1 = (some (1, 3)) := by kernel_rfl
@[simp] theorem fld_86_2 : fldOf Tryz.prog 86 2 = (some (2, 3)) := by kernel_rfl
@[simp] theorem ti_89 : tiOf Tryz.prog 89 = (some (TI.mk 4 true 48 (.agg [(.int .i64 0), (.int .i64 0), (.str ⟨#[]⟩), (.str ⟨#[]⟩)]))) := by kernel_rfl
@[simp] theorem eqs_89 : eqsOf Tryz.prog 89 = (some [(.int .i64 0), (.int .i64 0), (.str ⟨#[]⟩), (.str ⟨#[]⟩)]) := by kernel_rfl
@[simp] theorem bld_89 : bldOf Tryz.prog 89 = true := by kernel_rfl
@[simp] theorem fld_89_0 : fldOf Tryz.prog 89 0 = (some (0, 3)) := by kernel_rfl
@[simp] theorem fld_89_1 : fldOf Tryz.prog 89 1 = (some (1, 3)) := by kernel_rfl
@[simp] theorem fld_89_2 : fldOf Tryz.prog 89 2 = (some (2, 9)) := by kernel_rfl
@[simp] theorem fld_89_3 : fldOf Tryz.prog 89 3 = (some (3, 9)) := by kernel_rfl
@[simp] theorem ti_90 : tiOf Tryz.prog 90 = (some (TI.mk 4 true 48 (.agg [(.int .i64 0), (.int .i64 0), (.str ⟨#[]⟩), (.str ⟨#[]⟩)]))) := by kernel_rfl
@[simp] theorem eqs_90 : eqsOf Tryz.prog 90 = (some [(.int .i64 0), (.int .i64 0), (.str ⟨#[]⟩), (.str ⟨#[]⟩)]) := by kernel_rfl
@[simp] theorem bld_90 : bldOf Tryz.prog 90 = true := by kernel_rfl
@[simp] theorem fld_90_0 : fldOf Tryz.prog 90 0 = (some (0, 3)) := by kernel_rfl
@[simp] theorem fld_90_1 : fldOf Tryz.prog 90 1 = (some (1, 3)) := by kernel_rfl
@[simp] theorem fld_90_2 : fldOf Tryz.prog 90 2 = (some (2, 9)) := by kernel_rfl
@[simp] theorem fld_90_3 : fldOf Tryz.prog 90 3 = (some (3, 9)) := by kernel_rfl
@[simp] theorem ti_94 : tiOf Tryz.prog 94 = (some (TI.mk 2 true 32 (.agg [(.str ⟨#[]⟩), (.str ⟨#[]⟩)]))) := by kernel_rfl
@[simp] theorem eqs_94 : eqsOf Tryz.prog 94 = (some [(.str ⟨#[]⟩), (.str ⟨#[]⟩)]) := by kernel_rfl
@[simp] theorem bld_94 : bldOf Tryz.prog 94 = true := by kernel_rfl
@[simp] theorem fld_94_0 : fldOf Tryz.prog 94 0 = (some (0, 9)) := by kernel_rfl
@[simp] theorem fld_94_1 : fldOf Tryz.prog 94 1 = (some (1, 9)) := by kernel_rfl
@[simp] theorem ti_95 : tiOf Tryz.prog 95 = (some (TI.mk 2 true 32 (.agg [(.str ⟨#[]⟩), (.str ⟨#[]⟩)]))) := by kernel_rfl
@[simp] theorem eqs_95 : eqsOf Tryz.prog 95 = (some [(.str ⟨#[]⟩), (.str ⟨#[]⟩)]) := by kernel_rfl
@[simp] theorem bld_95 : bldOf Tryz.prog 95 = true := by kernel_rfl
@[simp] theorem fld_95_0 : fldOf Tryz.prog 95 0 = (some (0, 9)) := by kernel_rfl
@[simp] theorem fld_95_1 : fldOf Tryz.prog 95 1 = (some (1, 9)) := by kernel_rfl
@[simp] theorem ti_98 : tiOf Tryz.prog 98 = (some (TI.mk 2 true 32 (.agg [(.str ⟨#[]⟩), (.str ⟨#[]⟩)]))) := by kernel_rfl
@[simp] theorem eqs_98 : eqsOf Tryz.prog 98 = (some [(.str ⟨#[]⟩), (.str ⟨#[]⟩)]) := by kernel_rfl
@[simp] theorem bld_98 : bldOf Tryz.prog 98 = true := by kernel_rfl
@[simp] theorem fld_98_0 : fldOf Tryz.prog 98 0 = (some (0, 9)) := by kernel_rfl
@[simp] theorem fld_98_1 : fldOf Tryz.prog 98 1 = (some (1, 9)) := by kernel_rfl
@[simp] theorem ti_108 : tiOf Tryz.prog 108 = (some (TI.mk 1 false 8 .nilp)) := by kernel_rfl
@[simp] theorem ti_109 : tiOf Tryz.prog 109 = (some (TI.mk 1 false 8 .nilp)) := by kernel_rfl
@[simp] theorem ti_110 : tiOf Tryz.prog 110 = (some (TI.mk 2 true 32 (.agg [.nilp, (.inl 1 [])]))) := by kernel_rfl
@[simp] theorem bld_110 : bldOf Tryz.prog 110 = true := by kernel_rfl
@[simp] theorem fld_110_0 : fldOf Tryz.prog 110 0 = (some (0, 109)) := by kernel_rfl
@[simp] theorem fld_110_1 : fldOf Tryz.prog 110 1 = (some (1, 53)) := by kernel_rfl
@[simp] theorem ti_111 : tiOf Tryz.prog 111 = (some (TI.mk 2 true 32 (.agg [.nilp, (.inl 1 [])]))) := by kernel_rfl
@[simp] theorem bld_111 : bldOf Tryz.prog 111 = true := by kernel_rfl
@[simp] theorem fld_111_0 : fldOf Tryz.prog 111 0 = (some (0, 109)) := by kernel_rfl
@[simp] theorem fld_111_1 : fldOf Tryz.prog 111 1 = (some (1, 53)) := by kernel_rfl
@[simp] theorem ti_112 : tiOf Tryz.prog 112 = (some (TI.mk 6 true 88 (.agg [(.inl 6 []), (.str ⟨#[]⟩), (.bool false), (.int .i64 0), .nilp, (.inl 1 [])]))) := by kernel_rfl
@[simp] theorem bld_112 : bldOf Tryz.prog 112 = true := by kernel_rfl
@[simp] theorem fld_112_0 : fldOf Tryz.prog 112 0 = (some (0, 56)) := by kernel_rfl
@[simp] theorem fld_112_1 : fldOf Tryz.prog 112 1 = (some (1, 9)) := by kernel_rfl
@[simp] theorem fld_112_2 : fldOf Tryz.prog 112 2 = (some (2, 4)) := by kernel_rfl
@[simp] theorem fld_112_3 : fldOf Tryz.prog 112 3 = (some (3, 3)) := by kernel_rfl
@[simp] theorem fld_112_4 : fldOf Tryz.prog 112 4 = (some (4, 111)) := by kernel_rfl
@[simp] theorem ti_113 : tiOf Tryz.prog 113 = (some (TI.mk 6 true 88 (.agg [(.inl 6 []), (.str ⟨#[]⟩), (.bool false), (.int .i64 0), .nilp, (.inl 1 [])]))) := by kernel_rfl
@[simp] theorem bld_113 : bldOf Tryz.prog 113 = true := by kernel_rfl
@[simp] theorem fld_113_0 : fldOf Tryz.prog 113 0 = (some (0, 56)) := by kernel_rfl
@[simp] theorem fld_113_1 : fldOf Tryz.prog 113 1 = (some (1, 9)) := by kernel_rfl
@[simp] theorem fld_113_2 : fldOf Tryz.prog 113 2 = (some (2, 4)) := by kernel_rfl
@[simp] theorem fld_113_3 : fldOf Tryz.prog 113 3 = (some (3, 3)) := by kernel_rfl
@[simp] theorem fld_113_4 : fldOf Tryz.prog 113 4 = (some (4, 111)) := by kernel_rfl
@[simp] theorem ti_118 : tiOf Tryz.prog 118 = (some (TI.mk 1 false 8 .nilp)) := by kernel_rfl
@[simp] theorem ti_119 : tiOf Tryz.prog 119 = (some (TI.mk 3 true 48 (.agg [(.inl 6 []), (.str ⟨#[]⟩), (.bool false)]))) := by kernel_rfl
@[simp] theorem bld_119 : bldOf Tryz.prog 119 = true := by kernel_rfl
@[simp] theorem fld_119_0 : fldOf Tryz.prog 119 0 = (some (0, 56)) := by kernel_rfl
@[simp] theorem fld_119_1 : fldOf Tryz.prog 119 1 = (some (1, 9)) := by kernel_rfl
@[simp] theorem fld_119_2 : fldOf Tryz.prog 119 2 = (some (2, 4)) := by kernel_rfl
@[simp] theorem ti_120 : tiOf Tryz.prog 120 = (some (TI.mk 3 true 48 (.agg [(.inl 6 []), (.str ⟨#[]⟩), (.bool false)]))) := by kernel_rfl
@[simp] theorem bld_120 : bldOf Tryz.prog 120 = true := by kernel_rfl
@[simp] theorem fld_120_0 : fldOf Tryz.prog 120 0 = (some (0, 56)) := by kernel_rfl
@[simp] theorem fld_120_1 : fldOf Tryz.prog 120 1 = (some (1, 9)) := by kernel_rfl
@[simp] theorem fld_120_2 : fldOf Tryz.prog 120 2 = (some (2, 4)) := by kernel_rfl
@[simp] theorem ti_144 : tiOf Tryz.prog 144 = (some (TI.mk 1 false 8 .nilp)) := by kernel_rfl
@[simp] theorem ti_145 : tiOf Tryz.prog 145 = (some (TI.mk 1 false 8 (.int .u64 0))) := by kernel_rfl
@[simp] theorem int_145 : intOf Tryz.prog 145 = (some .u64) := by kernel_rfl
@[simp] theorem ti_146 : tiOf Tryz.prog 146 = (some (TI.mk 3 true 40 (.agg [(.inl 1 []), (.int .i64 0), (.int .u64 0)]))) := by kernel_rfl
@[simp] theorem bld_146 : bldOf Tryz.prog 146 = true := by kernel_rfl
@[simp] theorem fld_146_0 : fldOf Tryz.prog 146 0 = (some (0, 53)) := by kernel_rfl
@[simp] theorem fld_146_1 : fldOf Tryz.prog 146 1 = (some (1, 3)) := by kernel_rfl
@[simp] theorem fld_146_2 : fldOf Tryz.prog 146 2 = (some (2, 145)) := by kernel_rfl
@[simp] theorem ti_147 : tiOf Tryz.prog 147 = (some (TI.mk 3 true 40 (.agg [(.inl 1 []), (.int .i64 0), (.int .u64 0)]))) := by kernel_rfl
@[simp] theorem bld_147 : bldOf Tryz.prog 147 = true := by kernel_rfl
@[simp] theorem fld_147_0 : fldOf Tryz.prog 147 0 = (some (0, 53)) := by kernel_rfl
@[simp] theorem fld_147_1 : fldOf Tryz.prog 147 1 = (some (1, 3)) := by kernel_rfl
@[simp] theorem fld_147_2 : fldOf Tryz.prog 147 2 = (some (2, 145)) := by kernel_rfl
@[simp] theorem ti_149 : tiOf Tryz.prog 149 = (some (TI.mk 1 false 8 .nilp)) := by kernel_rfl
@[simp] theorem ti_153 : tiOf Tryz.prog 153 = (some (TI.mk 2 true 32 (.agg [(.str ⟨#[]⟩), (.str ⟨#[]⟩)]))) := by kernel_rfl
@[simp] theorem eqs_153 : eqsOf Tryz.prog 153 = (some [(.str ⟨#[]⟩), (.str ⟨#[]⟩)]) := by kernel_rfl
@[simp] theorem bld_153 : bldOf Tryz.prog 153 = true := by kernel_rfl
@[simp] theorem fld_153_0 : fldOf Tryz.prog 153 0 = (some (0, 9)) := by kernel_rfl
@[simp] theorem fld_153_1 : fldOf Tryz.prog 153 1 = (some (1, 9)) := by kernel_rfl
@[simp] theorem ti_154 : tiOf Tryz.prog 154 = (some (TI.mk 2 true 32 (.agg [(.str ⟨#[]⟩), (.str ⟨#[]⟩)]))) := by kernel_rfl
@[simp] theorem eqs_154 : eqsOf Tryz.prog 154 = (some [(.str ⟨#[]⟩), (.str ⟨#[]⟩)]) := by kernel_rfl
@[simp] theorem bld_154 : bldOf Tryz.prog 154 = true := by kernel_rfl
@[simp] theorem fld_154_0 : fldOf Tryz.prog 154 0 = (some (0, 9)) := by kernel_rfl
@[simp] theorem fld_154_1 : fldOf Tryz.prog 154 1 = (some (1, 9)) := by kernel_rfl
@[simp] theorem ti_158 : tiOf Tryz.prog 158 = (some (TI.mk 1 false 16 .nili)) := by kernel_rfl
@[simp] theorem ifc_158 : ifcOf Tryz.prog 158 = true := by kernel_rfl
@[simp] theorem ti_159 : tiOf Tryz.prog 159 = (some (TI.mk 1 false 16 .nili)) := by kernel_rfl
@[simp] theorem ifc_159 : ifcOf Tryz.prog 159 = true := by kernel_rfl
@[simp] theorem ti_162 : tiOf Tryz.prog 162 = (some (TI.mk 1 false 24 (.inl 3 []))) := by kernel_rfl
@[simp] theorem el_162 : elOf Tryz.prog 162 = (some 212) := by kernel_rfl
@[simp] theorem ti_163 : tiOf Tryz.prog 163 = (some (TI.mk 6 true 80 (.agg [(.int .i64 0), (.int .i64 0), (.int .i64 0), (.inl 3 []), (.str ⟨#[]⟩), (.str ⟨#[]⟩)]))) := by kernel_rfl
@[simp] theorem bld_163 : bldOf Tryz.prog 163 = true := by kernel_rfl
@[simp] theorem fld_163_0 : fldOf Tryz.prog 163 0 = (some (0, 3)) := by kernel_rfl
@[simp] theorem fld_163_1 : fldOf Tryz.prog 163 1 = (some (1, 3)) := by kernel_rfl
@[simp] theorem fld_163_2 : fldOf Tryz.prog 163 2 = (some (2, 3)) := by kernel_rfl
@[simp] theorem fld_163_3 : fldOf Tryz.prog 163 3 = (some (3, 162)) := by kernel_rfl
@[simp] theorem fld_163_4 : fldOf Tryz.prog 163 4 = (some (4, 9)) := by kernel_rfl
@[simp] theorem fld_163_5 : fldOf Tryz.prog 163 5 = (some (5, 9)) := by kernel_rfl
@[simp] theorem ti_164 : tiOf Tryz.prog 164 = (some (TI.mk 6 true 80 (.agg [(.int .i64 0), (.int .i64 0), (.int .i64 0), (.inl 3 []), (.str ⟨#[]⟩), (.str ⟨#[]⟩)]))) := by kernel_rfl
@[simp] theorem bld_164 : bldOf Tryz.prog 164 = true := by kernel_rfl
@[simp] theorem fld_164_0 : fldOf Tryz.prog 164 0 = (some (0, 3)) := by kernel_rfl
@[simp] theorem fld_164_1 : fldOf Tryz.prog 164 1 = (some (1, 3)) := by kernel_rfl
@[simp] theorem fld_164_2 : fldOf Tryz.prog 164 2 = (some (2, 3)) := by kernel_rfl
@[simp] theorem fld_164_3 : fldOf Tryz.prog 164 3 = (some (3, 162)) := by kernel_rfl
@[simp] theorem fld_164_4 : fldOf Tryz.prog 164 4 = (some (4, 9)) := by kernel_rfl
@[simp] theorem fld_164_5 : fldOf Tryz.prog 164 5 = (some (5, 9)) := by kernel_rfl
@[simp] theorem ti_165 : tiOf Tryz.prog 165 = (some (TI.mk 3 true 32 (.agg [(.str ⟨#[]⟩), (.bool false), (.int .i64 0)]))) := by kernel_rfl
@[simp] theorem eqs_165 : eqsOf Tryz.prog 165 = (some [(.str ⟨#[]⟩), (.bool false), (.int .i64 0)]) := by kernel_rfl
@[simp] theorem bld_165 : bldOf Tryz.prog 165 = true := by kernel_rfl
@[simp] theorem fld_165_0 : fldOf Tryz.prog 165 0 = (some (0, 9)) := by kernel_rfl
@[simp] theorem fld_165_1 : fldOf Tryz.prog 165 1 = (some (1, 4)) := by kernel_rfl
@[simp] theorem fld_165_2 : fldOf Tryz.prog 165 2 = (some (2, 3)) := by kernel_rfl
@[simp] theorem ti_166 : tiOf Tryz.prog 166 = (some (TI.mk 3 true 32 (.agg [(.str ⟨#[]⟩), (.bool false), (.int .i64 0)]))) := by kernel_rfl
@[simp] theorem eqs_166 : eqsOf Tryz.prog 166 = (some [(.str ⟨#[]⟩), (.bool false), (.int .i64 0)]) := by kernel_rfl
@[simp] theorem bld_166 : bldOf Tryz.prog 166 = true := by kernel_rfl
@[simp] theorem fld_166_0 : fldOf Tryz.prog 166 0 = (some (0, 9)) := by kernel_rfl
@[simp] theorem fld_166_1 : fldOf Tryz.prog 166 1 = (some (1, 4)) := by kernel_rfl
@[simp] theorem fld_166_2 : fldOf Tryz.prog 166 2 = (some (2, 3)) := by kernel_rfl
@[simp] theorem ti_182 : tiOf Tryz.prog 182 = (some (TI.mk 1 false 8 .nilp)) := by kernel_rfl
@[simp] theorem ti_183 : tiOf Tryz.prog 183 = (some (TI.mk 1 false 24 (.inl 5 []))) := by kernel_rfl
@[simp] theorem el_183 : elOf Tryz.prog 183 = (some 60) := by kernel_rfl
@[simp] theorem ti_184 : tiOf Tryz.prog 184 = (some (TI.mk 1 false 24 (.inl 3 []))) := by kernel_rfl
@[simp] theorem el_184 : elOf Tryz.prog 184 = (some 325) := by kernel_rfl
@[simp] theorem ti_185 : tiOf Tryz.prog 185 = (some (TI.mk 12 true 216 (.agg [(.inl 4 []), (.int .i64 0), (.int .i64 0), (.inl 5 []), (.str ⟨#[]⟩), (.inl 1 []), (.inl 6 []), (.inl 6 []), (.inl 2 []), (.inl 3 []), (.int .i64 0), (.int .i64 0)]))) := by kernel_rfl
@[simp] theorem bld_185 : bldOf Tryz.prog 185 = true := by kernel_rfl
@[simp] theorem fld_185_0 : fldOf Tryz.prog 185 0 = (some (0, 27)) := by kernel_rfl
@[simp] theorem fld_185_1 : fldOf Tryz.prog 185 1 = (some (1, 3)) := by kernel_rfl
@[simp] theorem fld_185_2 : fldOf Tryz.prog 185 2 = (some (2, 3)) := by kernel_rfl
@[simp] theorem fld_185_3 : fldOf Tryz.prog 185 3 = (some (3, 183)) := by kernel_rfl
@[simp] theorem fld_185_4 : fldOf Tryz.prog 185 4 = (some (4, 60)) := by kernel_rfl
@[simp] theorem fld_185_5 : fldOf Tryz.prog 185 5 = (some (9, 184)) := by kernel_rfl
@[simp] theorem fld_185_6 : fldOf Tryz.prog 185 6 = (some (10, 3)) := by kernel_rfl
@[simp] theorem fld_185_7 : fldOf Tryz.prog 185 7 = (some (11, 3)) := by kernel_rfl
@[simp] theorem ti_186 : tiOf Tryz.prog 186 = (some (TI.mk 12 true 216 (.agg [(.inl 4 []), (.int .i64 0), (.int .i64 0), (.inl 5 []), (.str ⟨#[]⟩), (.inl 1 []), (.inl 6 []), (.inl 6 []), (.inl 2 []), (.inl 3 []), (.int .i64 0), (.int .i64 0)]))) := by kernel_rfl
@[simp] theorem bld_186 : bldOf Tryz.prog 186 = true := by kernel_rfl
@[simp] theorem fld_186_0 : fldOf Tryz.prog 186 0 = (some (0, 27)) := by kernel_rfl
@[simp] theorem fld_186_1 : fldOf Tryz.prog 186 1 = (some (1, 3)) := by kernel_rfl
@[simp] theorem fld_186_2 : fldOf Tryz.prog 186 2 = (some (2, 3)) := by kernel_rfl
@[simp] theorem fld_186_3 : fldOf Tryz.prog 186 3 = (some (3, 183)) := by kernel_rfl
@[simp] theorem fld_186_4 : fldOf Tryz.prog 186 4 = (some (4, 60)) := by kernel_rfl
@[simp] theorem fld_186_5 : fldOf Tryz.prog 186 5 = (some (9, 184)) := by kernel_rfl
@[simp] theorem fld_186_6 : fldOf Tryz.prog 186 6 = (some (10, 3)) := by kernel_rfl
@[simp] theorem fld_186_7 : fldOf Tryz.prog 186 7 = (some (11, 3)) := by kernel_rfl
@[simp] theorem ti_188 : tiOf Tryz.prog 188 = (some (TI.mk 1 false 8 .nilp)) := by kernel_rfl
@[simp] theorem ti_189 : tiOf Tryz.prog 189 = (some (TI.mk 1 false 24 (.inl 3 []))) := by kernel_rfl
@[simp] theorem el_189 : elOf Tryz.prog 189 = (some 327) := by kernel_rfl
@[simp] theorem ti_190 : tiOf Tryz.prog 190 = (some (TI.mk 11 true 208 (.agg [(.inl 4 []), (.int .i64 0), (.int .i64 0), (.inl 5 []), (.str ⟨#[]⟩), (.inl 1 []), (.inl 6 []), (.inl 6 []), (.inl 2 []), (.int .i64 0), (.inl 3 [])]))) := by kernel_rfl
@[simp] theorem bld_190 : bldOf Tryz.prog 190 = true := by kernel_rfl
@[simp] theorem fld_190_0 : fldOf Tryz.prog 190 0 = (some (0, 86)) := by kernel_rfl
@[simp] theorem fld_190_1 : fldOf Tryz.prog 190 1 = (some (3, 183)) := by kernel_rfl
@[simp] theorem fld_190_2 : fldOf Tryz.prog 190 2 = (some (4, 60)) := by kernel_rfl
@[simp] theorem fld_190_3 : fldOf Tryz.prog 190 3 = (some (9, 3)) := by kernel_rfl
@[simp] theorem fld_190_4 : fldOf Tryz.prog 190 4 = (some (10, 189)) := by kernel_rfl
@[simp] theorem ti_191 : tiOf Tryz.prog 191 = (some (TI.mk 11 true 208 (.agg [(.inl 4 []), (.int .i64 0), (.int .i64 0), (.inl 5 []), (.str ⟨#[]⟩), (.inl 1 []), (.inl 6 []), (.inl 6 []), (.inl 2 []), (.int .i64 0), (.inl 3 [])]))) := by kernel_rfl
@[simp] theorem bld_191 : bldOf Tryz.prog 191 = true := by kernel_rfl
@[simp] theorem fld_191_0 : fldOf Tryz.prog 191 0 = (some (0, 86)) := by kernel_rfl
@[simp] theorem fld_191_1 : fldOf Tryz.prog 191 1 = (some (3, 183)) := by kernel_rfl
@[simp] theorem fld_191_2 : fldOf Tryz.prog 191 2 = (some (4, 60)) := by kernel_rfl
@[simp] theorem fld_191_3 : fldOf Tryz.prog 191 3 = (some (9, 3)) := by kernel_rfl
@[simp] theorem fld_191_4 : fldOf Tryz.prog 191 4 = (some (10, 189)) := by kernel_rfl
@[simp] theorem ti_192 : tiOf Tryz.prog 192 = (some (TI.mk 2 true 16 (.agg [(.int .i64 0), (.int .i64 0)]))) := by kernel_rfl
@[simp] theorem eqs_192 : eqsOf Tryz.prog 192 = (some [(.int .i64 0), (.int .i64 0)]) := by kernel_rfl
@[simp] theorem bld_192 : bldOf Tryz.prog 192 = true := by kernel_rfl
@[simp] theorem fld_192_0 : fldOf Tryz.prog 192 0 = (some (0, 3)) := by kernel_rfl
@[simp] theorem fld_192_1 : fldOf Tryz.prog 192 1 = (some (1, 3)) := by kernel_rfl
@[simp] theorem ti_193 : tiOf Tryz.prog 193 = (some (TI.mk 2 true 16 (.agg [(.int .i64 0), (.int .i64 0)]))) := by kernel_rfl
@[simp] theorem eqs_193 : eqsOf Tryz.prog 193 = (some [(.int .i64 0), (.int .i64 0)]) := by kernel_rfl
@[simp] theorem bld_193 : bldOf Tryz.prog 193 = true := by kernel_rfl
@[simp] theorem fld_193_0 : fldOf Tryz.prog 193 0 = (some (0, 3)) := by kernel_rfl
@[simp] theorem fld_193_1 : fldOf Tryz.prog 193 1 = (some (1, 3)) := by kernel_rfl
@[simp] theorem ti_198 : tiOf Tryz.prog 198 = (some (TI.mk 1 false 8 (.int .u64 0))) := by kernel_rfl
@[simp] theorem int_198 : intOf Tryz.prog 198 = (some .u64) := by kernel_rfl
@[simp] theorem ti_209 : tiOf Tryz.prog 209 = (some (TI.mk 1 false 8 .nilp)) := by kernel_rfl
@[simp] theorem ti_211 : tiOf Tryz.prog 211 = (some (TI.mk 3 true 32 (.agg [(.str ⟨#[]⟩), (.int .i64 0), (.int .i64 0)]))) := by kernel_rfl
@[simp] theorem eqs_211 : eqsOf Tryz.prog 211 = (some [(.str ⟨#[]⟩), (.int .i64 0), (.int .i64 0)]) := by kernel_rfl
@[simp] theorem bld_211 : bldOf Tryz.prog 211 = true := by kernel_rfl
@[simp] theorem fld_211_0 : fldOf Tryz.prog 211 0 = (some (0, 9)) := by kernel_rfl
@[simp] theorem fld_211_1 : fldOf Tryz.prog 211 1 = (some (1, 3)) := by kernel_rfl
@[simp] theorem fld_211_2 : fldOf Tryz.prog 211 2 = (some (2, 3)) := by kernel_rfl
@[simp] theorem ti_212 : tiOf Tryz.prog 212 = (some (TI.mk 3 true 32 (.agg [(.str ⟨#[]⟩), (.int .i64 0), (.int .i64 0)]))) := by kernel_rfl
@[simp] theorem eqs_212 : eqsOf Tryz.prog 212 = (some [(.str ⟨#[]⟩), (.int .i64 0), (.int .i64 0)]) := by kernel_rfl
@[simp] theorem bld_212 : bldOf Tryz.prog 212 = true := by kernel_rfl
@[simp] theorem fld_212_0 : fldOf Tryz.prog 212 0 = (some (0, 9)) := by kernel_rfl
@[simp] theorem fld_212_1 : fldOf Tryz.prog 212 1 = (some (1, 3)) := by kernel_rfl
@[simp] theorem fld_212_2 : fldOf Tryz.prog 212 2 = (some (2, 3)) := by kernel_rfl
@[simp] theorem ti_231 : tiOf Tryz.prog 231 = (some (TI.mk 1 false 8 (.int .i64 0))) := by kernel_rfl
@[simp] theorem int_231 : intOf Tryz.prog 231 = (some .i64) := by kernel_rfl
@[simp] theorem ti_239 : tiOf Tryz.prog 239 = (some (TI.mk 1 false 4 (.int .u32 0))) := by kernel_rfl
@[simp] theorem int_239 : intOf Tryz.prog 239 = (some .u32) := by kernel_rfl
@[simp] theorem ti_257 : tiOf Tryz.prog 257 = (some (TI.mk 1 false 8 (.int .u64 0))) := by kernel_rfl
@[simp] theorem int_257 : intOf Tryz.prog 257 = (some .u64) := by kernel_rfl
@[simp] theorem ti_261 : tiOf Tryz.prog 261 = (some (TI.mk 1 false 8 .nilp)) := by kernel_rfl
@[simp] theorem ti_272 : tiOf Tryz.prog 272 = (some (TI.mk 1 false 8 .nilp)) := by kernel_rfl
@[simp] theorem ti_285 : tiOf Tryz.prog 285 = (some (TI.mk 1 false 8 .nilp)) := by kernel_rfl
@[simp] theorem ti_286 : tiOf Tryz.prog 286 = (some (TI.mk 1 false 8 (.int .i64 0))) := by kernel_rfl
@[simp] theorem int_286 : intOf Tryz.prog 286 = (some .i64) := by kernel_rfl
@[simp] theorem ti_287 : tiOf Tryz.prog 287 = (some (TI.mk 1 false 8 .nilp)) := by kernel_rfl
@[simp] theorem ti_296 : tiOf Tryz.prog 296 = (some (TI.mk 3 true 48 (.agg [(.str ⟨#[]⟩), (.str ⟨#[]⟩), .nili]))) := by kernel_rfl
@[simp] theorem bld_296 : bldOf Tryz.prog 296 = true := by kernel_rfl
@[simp] theorem fld_296_0 : fldOf Tryz.prog 296 0 = (some (0, 9)) := by kernel_rfl
@[simp] theorem fld_296_1 : fldOf Tryz.prog 296 1 = (some (1, 9)) := by kernel_rfl
@[simp] theorem fld_296_2 : fldOf Tryz.prog 296 2 = (some (2, 159)) := by kernel_rfl
@[simp] theorem ti_297 : tiOf Tryz.prog 297 = (some (TI.mk 3 true 48 (.agg [(.str ⟨#[]⟩), (.str ⟨#[]⟩), .nili]))) := by kernel_rfl
@[simp] theorem bld_297 : bldOf Tryz.prog 297 = true := by kernel_rfl
@[simp] theorem fld_297_0 : fldOf Tryz.prog 297 0 = (some (0, 9)) := by kernel_rfl
@[simp] theorem fld_297_1 : fldOf Tryz.prog 297 1 = (some (1, 9)) := by kernel_rfl
@[simp] theorem fld_297_2 : fldOf Tryz.prog 297 2 = (some (2, 159)) := by kernel_rfl
@[simp] theorem ti_303 : tiOf Tryz.prog 303 = (some (TI.mk 1 false 8 .nilp)) := by kernel_rfl
@[simp] theorem ti_304 : tiOf Tryz.prog 304 = (some (TI.mk 1 true 16 (.agg [(.str ⟨#[]⟩)]))) := by kernel_rfl
@[simp] theorem eqs_304 : eqsOf Tryz.prog 304 = (some [(.str ⟨#[]⟩)]) := by kernel_rfl
@[simp] theorem bld_304 : bldOf Tryz.prog 304 = true := by kernel_rfl
@[simp] theorem fld_304_0 : fldOf Tryz.prog 304 0 = (some (0, 9)) := by kernel_rfl
@[simp] theorem ti_305 : tiOf Tryz.prog 305 = (some (TI.mk 1 true 16 (.agg [(.str ⟨#[]⟩)]))) := by kernel_rfl
@[simp] theorem eqs_305 : eqsOf Tryz.prog 305 = (some [(.str ⟨#[]⟩)]) := by kernel_rfl
@[simp] theorem bld_305 : bldOf Tryz.prog 305 = true := by kernel_rfl
@[simp] theorem fld_305_0 : fldOf Tryz.prog 305 0 = (some (0, 9)) := by kernel_rfl
@[simp] theorem ti_307 : tiOf Tryz.prog 307 = (some (TI.mk 2 true 2 (.agg [(.int .u8 0), (.int .u8 0)]))) := by kernel_rfl
@[simp] theorem eqs_307 : eqsOf Tryz.prog 307 = (some [(.int .u8 0), (.int .u8 0)]) := by kernel_rfl
@[simp] theorem bld_307 : bldOf Tryz.prog 307 = true := by kernel_rfl
@[simp] theorem fld_307_0 : fldOf Tryz.prog 307 0 = (some (0, 5)) := by kernel_rfl
@[simp] theorem fld_307_1 : fldOf Tryz.prog 307 1 = (some (1, 5)) := by kernel_rfl
@[simp] theorem ti_308 : tiOf Tryz.prog 308 = (some (TI.mk 2 true 2 (.agg [(.int .u8 0), (.int .u8 0)]))) := by kernel_rfl
@[simp] theorem eqs_308 : eqsOf Tryz.prog 308 = (some [(.int .u8 0), (.int .u8 0)]) := by kernel_rfl
@[simp] theorem bld_308 : bldOf Tryz.prog 308 = true := by kernel_rfl
@[simp] theorem fld_308_0 : fldOf Tryz.prog 308 0 = (some (0, 5)) := by kernel_rfl
@[simp] theorem fld_308_1 : fldOf Tryz.prog 308 1 = (some (1, 5)) := by kernel_rfl
@[simp] theorem ti_312 : tiOf Tryz.prog 312 = (some (TI.mk 4 true 40 (.agg [.nilp, .nilp, .nilp, (.str ⟨#[]⟩)]))) := by kernel_rfl
@[simp] theorem bld_312 : bldOf Tryz.prog 312 = true := by kernel_rfl
@[simp] theorem fld_312_0 : fldOf Tryz.prog 312 0 = (some (0, 17)) := by kernel_rfl
@[simp] theorem fld_312_1 : fldOf Tryz.prog 312 1 = (some (1, 17)) := by kernel_rfl
@[simp] theorem fld_312_2 : fldOf Tryz.prog 312 2 = (some (2, 17)) := by kernel_rfl
@[simp] theorem fld_312_3 : fldOf Tryz.prog 312 3 = (some (3, 9)) := by kernel_rfl
@[simp] theorem ti_313 : tiOf Tryz.prog 313 = (some (TI.mk 4 true 40 (.agg [.nilp, .nilp, .nilp, (.str ⟨#[]⟩)]))) := by kernel_rfl
@[simp] theorem bld_313 : bldOf Tryz.prog 313 = true := by kernel_rfl
@[simp] theorem fld_313_0 : fldOf Tryz.prog 313 0 = (some (0, 17)) := by kernel_rfl
@[simp] theorem fld_313_1 : fldOf Tryz.prog 313 1 = (some (1, 17)) := by kernel_rfl
@[simp] theorem fld_313_2 : fldOf Tryz.prog 313 2 = (some (2, 17)) := by kernel_rfl
@[simp] theorem fld_313_3 : fldOf Tryz.prog 313 3 = (some (3, 9)) := by kernel_rfl
@[simp] theorem bld_315 : bldOf Tryz.prog 315 = true := by kernel_rfl
@[simp] theorem bld_316 : bldOf Tryz.prog 316 = true := by kernel_rfl
@[simp] theorem ti_317 : tiOf Tryz.prog 317 = (some (TI.mk 1 false 1 (.int .u8 0))) := by kernel_rfl
@[simp] theorem int_317 : intOf Tryz.prog 317 = (some .u8) := by kernel_rfl
@[simp] theorem ti_318 : tiOf Tryz.prog 318 = (some (TI.mk 1 false 1 (.int .u8 0))) := by kernel_rfl
@[simp] theorem int_318 : intOf Tryz.prog 318 = (some .u8) := by kernel_rfl
@[simp] theorem ti_320 : tiOf Tryz.prog 320 = (some (TI.mk 1 false 4 (.int .i32 0))) := by kernel_rfl
@[simp] theorem int_320 : intOf Tryz.prog 320 = (some .i32) := by kernel_rfl
@[simp] theorem ti_321 : tiOf Tryz.prog 321 = (some (TI.mk 1 false 4 (.int .i32 0))) := by kernel_rfl
@[simp] theorem int_321 : intOf Tryz.prog 321 = (some .i32) := by kernel_rfl
@[simp] theorem bld_322 : bldOf Tryz.prog 322 = true := by kernel_rfl
@[simp] theorem fld_322_0 : fldOf Tryz.prog 322 0 = (some (0, 12)) := by kernel_rfl
@[simp] theorem fld_322_1 : fldOf Tryz.prog 322 1 = (some (1, 12)) := by kernel_rfl
@[simp] theorem fld_322_2 : fldOf Tryz.prog 322 2 = (some (2, 239)) := by kernel_rfl
@[simp] theorem fld_322_3 : fldOf Tryz.prog 322 3 = (some (3, 317)) := by kernel_rfl
@[simp] theorem fld_322_4 : fldOf Tryz.prog 322 4 = (some (4, 5)) := by kernel_rfl
@[simp] theorem fld_322_5 : fldOf Tryz.prog 322 5 = (some (5, 5)) := by kernel_rfl
@[simp] theorem fld_322_6 : fldOf Tryz.prog 322 6 = (some (6, 318)) := by kernel_rfl
@[simp] theorem fld_322_7 : fldOf Tryz.prog 322 7 = (some (7, 319)) := by kernel_rfl
@[simp] theorem fld_322_8 : fldOf Tryz.prog 322 8 = (some (8, 209)) := by kernel_rfl
@[simp] theorem fld_322_9 : fldOf Tryz.prog 322 9 = (some (9, 320)) := by kernel_rfl
@[simp] theorem fld_322_10 : fldOf Tryz.prog 322 10 = (some (10, 321)) := by kernel_rfl
@[simp] theorem bld_323 : bldOf Tryz.prog 323 = true := by kernel_rfl
@[simp] theorem fld_323_0 : fldOf Tryz.prog 323 0 = (some (0, 12)) := by kernel_rfl
@[simp] theorem fld_323_1 : fldOf Tryz.prog 323 1 = (some (1, 12)) := by kernel_rfl
@[simp] theorem fld_323_2 : fldOf Tryz.prog 323 2 = (some (2, 239)) := by kernel_rfl
@[simp] theorem fld_323_3 : fldOf Tryz.prog 323 3 = (some (3, 317)) := by kernel_rfl
@[simp] theorem fld_323_4 : fldOf Tryz.prog 323 4 = (some (4, 5)) := by kernel_rfl
@[simp] theorem fld_323_5 : fldOf Tryz.prog 323 5 = (some (5, 5)) := by kernel_rfl
@[simp] theorem fld_323_6 : fldOf Tryz.prog 323 6 = (some (6, 318)) := by kernel_rfl
@[simp] theorem fld_323_7 : fldOf Tryz.prog 323 7 = (some (7, 319)) := by kernel_rfl
@[simp] theorem fld_323_8 : fldOf Tryz.prog 323 8 = (some (8, 209)) := by kernel_rfl
@[simp] theorem fld_323_9 : fldOf Tryz.prog 323 9 = (some (9, 320)) := by kernel_rfl
@[simp] theorem fld_323_10 : fldOf Tryz.prog 323 10 = (some (10, 321)) := by kernel_rfl
@[simp] theorem ti_324 : tiOf Tryz.prog 324 = (some (TI.mk 3 true 32 (.agg [(.int .i64 0), (.str ⟨#[]⟩), (.int .i64 0)]))) := by kernel_rfl
@[simp] theorem eqs_324 : eqsOf Tryz.prog 324 = (some [(.int .i64 0), (.str ⟨#[]⟩), (.int .i64 0)]) := by kernel_rfl
@[simp] theorem bld_324 : bldOf Tryz.prog 324 = true := by kernel_rfl
@[simp] theorem fld_324_0 : fldOf Tryz.prog 324 0 = (some (0, 3)) := by kernel_rfl
@[simp] theorem fld_324_1 : fldOf Tryz.prog 324 1 = (some (1, 9)) := by kernel_rfl
@[simp] theorem fld_324_2 : fldOf Tryz.prog 324 2 = (some (2, 3)) := by kernel_rfl
@[simp] theorem ti_325 : tiOf Tryz.prog 325 = (some (TI.mk 3 true 32 (.agg [(.int .i64 0), (.str ⟨#[]⟩), (.int .i64 0)]))) := by kernel_rfl
@[simp] theorem eqs_325 : eqsOf Tryz.prog 325 = (some [(.int .i64 0), (.str ⟨#[]⟩), (.int .i64 0)]) := by kernel_rfl
@[simp] theorem bld_325 : bldOf Tryz.prog 325 = true := by kernel_rfl
@[simp] theorem fld_325_0 : fldOf Tryz.prog 325 0 = (some (0, 3)) := by kernel_rfl
@[simp] theorem fld_325_1 : fldOf Tryz.prog 325 1 = (some (1, 9)) := by kernel_rfl
@[simp] theorem fld_325_2 : fldOf Tryz.prog 325 2 = (some (2, 3)) := by kernel_rfl
@[simp] theorem ti_326 : tiOf Tryz.prog 326 = (some (TI.mk 3 true 32 (.agg [(.int .i64 0), (.str ⟨#[]⟩), (.int .i64 0)]))) := by kernel_rfl
@[simp] theorem eqs_326 : eqsOf Tryz.prog 326 = (some [(.int .i64 0), (.str ⟨#[]⟩), (.int .i64 0)]) := by kernel_rfl
@[simp] theorem bld_326 : bldOf Tryz.prog 326 = true := by kernel_rfl
@[simp] theorem fld_326_0 : fldOf Tryz.prog 326 0 = (some (0, 3)) := by kernel_rfl
@[simp] theorem fld_326_1 : fldOf Tryz.prog 326 1 = (some (1, 9)) := by kernel_rfl
@[simp] theorem fld_326_2 : fldOf Tryz.prog 326 2 = (some (2, 3)) := by kernel_rfl
@[simp] theorem ti_327 : tiOf Tryz.prog 327 = (some (TI.mk 3 true 32 (.agg [(.int .i64 0), (.str ⟨#[]⟩), (.int .i64 0)]))) := by kernel_rfl
@[simp] theorem eqs_327 : eqsOf Tryz.prog 327 = (some [(.int .i64 0), (.str ⟨#[]⟩), (.int .i64 0)]) := by kernel_rfl
@[simp] theorem bld_327 : bldOf Tryz.prog 327 = true := by kernel_rfl
@[simp] theorem fld_327_0 : fldOf Tryz.prog 327 0 = (some (0, 3)) := by kernel_rfl
@[simp] theorem fld_327_1 : fldOf Tryz.prog 327 1 = (some (1, 9)) := by kernel_rfl
@[simp] theorem fld_327_2 : fldOf Tryz.prog 327 2 = (some (2, 3)) := by kernel_rfl
end Go.TM.ZT
end
section
set_option maxHeartbeats 2000000
namespace Go.TM.Tryz
open Go Go.TM Go.Proofs
theorem zmix : Tryz.prog.follows .mixedOrders = true := by kernel_rfl
theorem f61_ok (x : Src) (h : True) : FunOK Tryz.prog 61 [x.v] false x.v := by
  refine fun_ok (mkE_ok zmix (cl := []) (gl := []) [] trivial trivial) Tryz.func61 (by kernel_rfl) ?_
  refine FunW_run _ _ rfl rfl ?_
  simp
noncomputable def c61 := ctr (fun x : Src => True) (fun x => [x.v]) (fun x => (false, x.v))
theorem c61_eq (a0 : ByteArray) (a1 : ByteArray) : c61 [.agg [.str a0, .str a1]] = some (false, .agg [.str a0, .str a1]) := ctr_eq (inj0 Src.v_inj _) (Src.mk a0 a1) trivial rfl
theorem c61_ok : COK Tryz.prog (61, c61) := ctr_ok fun n h => f61_ok n h
theorem f20_ok (xs : List Src) (h : szL Src.sz xs ≤ 1048576) : FunOK Tryz.prog 20 [.lst (xs.map Src.v)] false (.inl 2 (xs.map Src.v)) := by
  refine fun_ok (mkE_ok zmix (cl := [(61, c61)]) (gl := []) [] c61_ok trivial) Tryz.func20 (by kernel_rfl) ?_
  refine FunW_run _ _ rfl rfl ?_
  have hl := szL_len Src.sz xs
  have hb2 : xs.length * 32 ≤ 140737488355328 := by omega
  have hb3 : xs.length ≤ 4294967296 := by omega
  simp [room, hb2, hb3]
  refine lp_list xs (fun i t => t.e 0 = .lst (xs.map Src.v) ∧ t.e 4 = .int .i64 i ∧ t.e 3 = .own 1 ∧ t.nt = 2 ∧ t.nb = 0 ∧ t.R 1 = some ⟨2, fill Src.v (.agg [.str ⟨#[]⟩, .str ⟨#[]⟩]) xs i, true⟩) ?_ ?_ ?_
  · simp [fill_zero]
  · rintro c' L hL i t x hx hi ih ⟨h0, h4, h3, hnt, hnb, hR⟩
    have hw := wrI (i := i) (by omega)
    have hn : ¬ 1 = t.nt := by omega
    simp [-getElem?_pos, gcz, gcs, h0, h4, h3, hnt, hnb, hR, hL, hx, hi, fill_get hi, hn, c61_eq]
    refine ih _ ?_
    simp [-getElem?_pos, gcz, gcs, h0, h4, h3, hnt, hnb, hR, hL, hx, hi, hw, hn]
    exact fill_set hx rfl
  · rintro c' t ⟨h0, h4, h3, hnt, hnb, hR⟩
    simp [h0, h4, h3, hnb, hR, fill_all]
noncomputable def c20 := ctr (fun xs : List Src => szL Src.sz xs ≤ 1048576) (fun xs => [.lst (xs.map Src.v)]) (fun xs => (false, .inl 2 (xs.map Src.v)))
theorem c20_eq (xs : List Src) (h : szL Src.sz xs ≤ 1048576) : c20 [.lst (xs.map Src.v)] = some (false, .inl 2 (xs.map Src.v)) := ctr_eq (injl Src.v_inj _) xs h rfl
theorem c20_ok : COK Tryz.prog (20, c20) := ctr_ok fun n h => f20_ok n h
end Go.TM.Tryz
end
section
set_option maxHeartbeats 2000000
namespace Go.TM.Tryz
open Go Go.TM Go.Proofs
section
variable {H : Type} {enc : TypeId × Value → H} {W : World}
theorem rd_Src : Rd Tryz.prog W enc 95 Src.v Src.lim := fun fuel cs x h => by
  obtain ⟨hl, n, hf⟩ := rd_cells Tryz.underlying95 (by kernel_rfl) h
  match cs, hl with
  | [c0, c1], _ =>
    obtain ⟨d0, y0, e0, h0⟩ := hf 0 _ rfl
    simp only [gcz, gcs, Option.some.injEq] at e0
    subst e0
    obtain ⟨a0, p0, q0⟩ := (rd_str Tryz.underlying9) _ _ _ h0
    obtain ⟨d1, y1, e1, h1⟩ := hf 1 _ rfl
    simp only [gcz, gcs, Option.some.injEq] at e1
    subst e1
    obtain ⟨a1, p1, q1⟩ := (rd_str Tryz.underlying9) _ _ _ h1
    exact ⟨⟨a0, a1⟩, ⟨p0, p1⟩, q0.1, q1.1, trivial⟩
end
end Go.TM.Tryz
end
section
namespace Go.TM
open Go
abbrev Rule (Γ : Type) := S → Γ → (S → Γ → Prop) → Prop
section
variable {Γ : Type} (E : Env)
def opsX (c : Nat → Option (Rule Γ)) (all : Array Oper) : Nat → List Oper → S → Γ → (S → Γ → Prop) → Prop
  | _, [], s, g, K => K s g
  | i, o :: os, s, g, K => match c i with
    | some r => r s g fun s' g' => opsX c all (i + 1) os s' g' K
    | none => opsW E false all [o] s fun s' => opsX c all (i + 1) os s' g K
end
section
variable {Γ : Type} {P : Program} {E : Env} {n : Nat} (Inv : Γ → Mem → World → Prop)
def RuleOK (P : Program) (n : Nat) (o : Oper) (r : Rule Γ) : Prop :=
  ∀ s g a W M (K : S → Γ → Prop) (Q : Exit → Act → World → Prop), St n M W s a → Inv g M W → r s g K → o.wp P a W (fun a' W' => ∃ M' s' g', St n M' W' s' a' ∧ Inv g' M' W' ∧ K s' g') Q
variable {Inv}
theorem opsX_sound (env : EnvOK P E) (hI : ∀ g M W M' W', Inv g M W → Evo M W M' W' → Inv g M' W') {all : Array Oper} (hall : all.toList.all (okO n) = true) {c : Nat → Option (Rule Γ)}
    (hc : ∀ i o r, all[i]? = some o → c i = some r → o.guard = none ∧ RuleOK Inv P n o r) {K : S → Γ → Prop} {Q : Exit → Act → World → Prop}
    (hK : ∀ s' g' a' W' M', K s' g' → St n M' W' s' a' → Inv g' M' W' → Q .normal a' W') :
    ∀ (os : List Oper) (k : Nat) (s : S) (g : Γ) (a : Act) (W : World) (M : Mem), (∀ j, os[j]? = all[k + j]?) → St n M W s a → Inv g M W → opsX E c all k os s g K → wpOps P all Q (List.range' k os.length) a W
  | [], _, s, g, a, W, M, _, h, hi, hw => hK s g a W M hw h hi
  | o :: os, k, s, g, a, W, M, hl, h, hi, hw => by
    have h0 : all[k]? = some o := by simpa using (hl 0).symm
    have hok : okO n o = true := okO_at hall h0
    have hl' : ∀ j, os[j]? = all[(k + 1) + j]? := fun j => by
      have := hl (j + 1)
      simpa [Nat.add_assoc, Nat.add_comm 1 j] using this
    have ihh := opsX_sound env hI hall hc hK os (k + 1)
    simp only [List.length_cons, List.range'_succ, wpOps, h0]
    simp only [opsX] at hw
    split at hw
    · rename_i r hr
      obtain ⟨h1, h2⟩ := hc k o r h0 hr
      have hwant : Region.wanted o (yielded all a.tmps) = true := by simp [Region.wanted, h1]
      rw [hwant, if_pos rfl]
      left
      exact Oper.wp_mono (fun a' W' ⟨M', s', g', h3, h4, h5⟩ => ihh s' g' a' W' M' hl' h3 h4 h5) (h2 s g a W M _ Q h hi hw)
    · rcases up env hall h hok hw with ⟨h1, s', h2, h3⟩ | ⟨h1, h2⟩
      · rw [h1]
        exact ihh s' g _ W M hl' h3 hi h2
      · rw [h1, if_pos rfl]
        left
        rcases h2 with ⟨val, M', s', h2, h3, h4, -, h5⟩ | ⟨-, h2⟩
        · exact wp_of_quietAt h2 fun w hw => ihh s' g _ w M' hl' (h3.cls hw) (hI _ _ _ _ _ hi (h4.trans (hw.evo M'))) h5
        · exact Oper.wp_mono (fun a' W' ⟨val, M', s', _, h3, h4, h5⟩ => ihh s' g a' W' M' hl' h3 (hI _ _ _ _ _ hi h4) h5) (h2 Q)
end
end Go.TM
end
section
namespace Go.TM
open Go
inductive TX where
  | done
  | one (q : Bool) (i : Nat) (k : TX)
  | two (q : Bool) (i : Nat) (a : TX) (q' : Bool) (j : Nat) (b : TX)
  | three (q : Bool) (i : Nat) (a : TX) (q' : Bool) (j : Nat) (b : TX) (q'' : Bool) (l : Nat) (d : TX)
def TX.depth : TX → Nat
  | .done => 0
  | .one _ _ k => k.depth + 1
  | .two _ _ a _ _ b => max a.depth b.depth + 1
  | .three _ _ a _ _ b _ _ d => max (max a.depth b.depth) d.depth + 1
section
variable {Γ : Type} (E : Env)
def memX (c : Nat → Option (Rule Γ)) (all : Array Oper) (q : Bool) (i : Nat) (s : S) (g : Γ) (K : S → Γ → Prop) : Prop :=
  match c i with
  | some r => r s g K
  | none => memW E all q i s fun s' => K s' g
def treeX (c : Nat → Option (Rule Γ)) (all : Array Oper) : TX → S → Γ → (S → Γ → Prop) → Prop
  | .done, s, g, K => K s g
  | .one q i k, s, g, K => memX E c all q i s g fun s' g' => treeX c all k s' g' K
  | .two q i a q' j b, s, g, K => memX E c all q i s g (fun s' g' => treeX c all a s' g' K) ∧ memX E c all q' j s g (fun s' g' => treeX c all b s' g' K)
  | .three q i a q' j b q'' l d, s, g, K => memX E c all q i s g (fun s' g' => treeX c all a s' g' K) ∧ memX E c all q' j s g (fun s' g' => treeX c all b s' g' K) ∧ memX E c all q'' l s g (fun s' g' => treeX c all d s' g' K)
def cutX (c : Nat → Option (Rule Γ)) (all : Array Oper) (p : Pl) (t : TX) : Rule Γ := fun s g K => preW E all (cutL p) s fun u => treeX E c all t u g K
end
def okEX (all : Array Oper) (kp cs : List Nat) (c q : Bool) (i : Nat) : Bool := if cs.contains i then !kp.contains i || (c && q) else okEa all kp c q i
def okCX2 (all : Array Oper) (cs : List Nat) (q : Bool) (i : Nat) : Bool := if cs.contains i then q else okCls all q i
def okTX (all : Array Oper) (kp cs : List Nat) : Bool → Array Bool → TX → Bool
  | _, listed, .done => (Region.ready .any all listed).isEmpty
  | c, listed, .one q i k => Region.ready .any all listed == [i] && okEX all kp cs c q i && okTX all kp cs (c && okCX2 all cs q i) (listed.setIfInBounds i true) k
  | c, listed, .two q i a q' j b => Region.ready .any all listed == [i, j] && okEX all kp cs c q i && okEX all kp cs c q' j && okTX all kp cs (c && okCX2 all cs q i) (listed.setIfInBounds i true) a && okTX all kp cs (c && okCX2 all cs q' j) (listed.setIfInBounds j true) b
  | c, listed, .three q i a q' j b q'' l d => Region.ready .any all listed == [i, j, l] && okEX all kp cs c q i && okEX all kp cs c q' j && okEX all kp cs c q'' l && okTX all kp cs (c && okCX2 all cs q i) (listed.setIfInBounds i true) a && okTX all kp cs (c && okCX2 all cs q' j) (listed.setIfInBounds j true) b && okTX all kp cs (c && okCX2 all cs q'' l) (listed.setIfInBounds l true) d
def okCutX (all : Array Oper) (cs : List Nat) (p : Pl) (t : TX) : Bool :=
  let pre := p.pr.map (·.1)
  Region.noSelect all && decide (p.rg.length + pre.length + t.depth ≤ all.size) &&
    (List.range all.size).all (fun j => p.rg.contains j || (pre ++ p.ea).contains j || p.la.contains j) &&
    pre.all (fun i => !p.la.contains i) && p.rg.all (fun i => !(pre ++ p.ea).contains i) && p.la.all (fun i => !p.rg.contains i) &&
    (match p.la with
      | [] => true
      | t0 :: tl => pre.isEmpty || pre.all (fun i => pathB all t0 all.size i) && tl.all (fun j => (t0 :: tl).any fun k => decide (k < j) && edgeB all j k)) &&
    (match okRig all (Array.replicate all.size false) p.rg with
      | some l1 => match okPre all l1 p.pr with
        | some l2 => okTX all (pre ++ p.ea) cs true l2 t
        | none => false
      | none => false)
section
variable {Γ : Type} {P : Program} {E : Env} {n : Nat} {Inv : Γ → Mem → World → Prop}
def RuleQ (Inv : Γ → Mem → World → Prop) (P : Program) (n : Nat) (o : Oper) (r : Rule Γ) : Prop :=
  ∀ s g a W M (K : S → Γ → Prop) (Q : Exit → Act → World → Prop), St n M W s a → Inv g M W → r s g K → o.wp P a W (fun a' W' => Cls W W' ∧ ∃ M' s' g', St n M' W' s' a' ∧ Inv g' M' W' ∧ K s' g') Q
theorem RuleQ.ok {o : Oper} {r : Rule Γ} (h : RuleQ Inv P n o r) : RuleOK Inv P n o r := fun s g a W M K Q h1 h2 h3 => Oper.wp_mono (fun a' W' h4 => h4.2) (h s g a W M K Q h1 h2 h3)
theorem memX_one (env : EnvOK P E) (hI : ∀ g M W M' W', Inv g M W → Evo M W M' W' → Inv g M' W') {all : Array Oper} (hall : all.toList.all (okO n) = true) {c : Nat → Option (Rule Γ)} {cs : List Nat} (hcs : ∀ i r, c i = some r → i ∈ cs) (hcs' : ∀ i ∈ cs, (c i).isSome = true)
    (hc : ∀ i o r, all[i]? = some o → c i = some r → o.guard = none ∧ RuleOK Inv P n o r) {Q : Exit → Act → World → Prop} {W : World} {kp : List Nat} {i : Nat} {q b : Bool} (hq : ∀ o r, all[i]? = some o → c i = some r → q = true → RuleQ Inv P n o r)
    (hea : okEX all kp cs b q i = true) (hi : i < all.size) {s : S} {g : Γ} {a : Act} {w : World} {M : Mem} (hb : b = true → Cls W w) (h : St n M w s a) (hv : Inv g M w) {K : S → Γ → Prop} (hw : memX E c all q i s g K)
    {R : Act → World → Prop} (go : ∀ s' g' a' w' M', ((b && okCX2 all cs q i) = true → Cls W w') → St n M' w' s' a' → Inv g' M' w' → K s' g' → R a' w') : wpOp P all Q i (fun a' w' => (i ∈ kp → Cls W w') ∧ R a' w') a w := by
  unfold memX at hw
  split at hw
  · rename_i r hr
    have hm := hcs i r hr
    have ho : all[i]? = some all[i] := Array.getElem?_eq_getElem hi
    obtain ⟨h1, h2⟩ := hc i _ r ho hr
    unfold wpOp
    simp only [ho]
    have hwant : Region.wanted all[i] (yielded all a.tmps) = true := by simp [Region.wanted, h1]
    rw [hwant, if_pos rfl]
    left
    have e1 : cs.contains i = true := by simpa using hm
    cases q with
    | true =>
      refine Oper.wp_mono ?_ (hq _ r ho hr rfl s g a w M K Q h hv hw)
      rintro a' w' ⟨h3, M', s', g', h4, h5, h6⟩
      refine ⟨fun hk => ?_, go s' g' a' w' M' (fun hb' => ?_) h4 h5 h6⟩
      · have e2 : kp.contains i = true := by simpa using hk
        simp only [okEX, e1, if_true, e2, Bool.not_true, Bool.false_or, Bool.and_true] at hea
        exact Cls_trans (hb hea) h3
      · simp only [Bool.and_eq_true] at hb'
        exact Cls_trans (hb hb'.1) h3
    | false =>
      refine Oper.wp_mono ?_ (h2 s g a w M K Q h hv hw)
      rintro a' w' ⟨M', s', g', h4, h5, h6⟩
      refine ⟨fun hk => ?_, go s' g' a' w' M' (fun hb' => ?_) h4 h5 h6⟩
      · have e2 : kp.contains i = true := by simpa using hk
        simp only [okEX, e1, if_true, e2, Bool.not_true, Bool.false_or, Bool.and_false, Bool.false_eq_true] at hea
      · simp only [okCX2, e1, if_true, Bool.and_false, Bool.false_eq_true] at hb'
  · rename_i hr
    have e1 : cs.contains i = false := by
      rw [← Bool.not_eq_true]
      intro hm
      have := hcs' i (by simpa using hm)
      rw [hr] at this
      cases this
    simp only [okEX, e1, Bool.false_eq_true, if_false] at hea
    refine tree_one (M0 := M) (W0 := w) env hall hea hb h (Evo.refl _ _) hw fun s' a' w' M' h1 h2 h3 h4 => ?_
    exact go s' g a' w' M' (fun hb' => h1 (by simpa only [okCX2, e1, Bool.false_eq_true, if_false] using hb')) h2 (hI _ _ _ _ _ hv h3) h4
theorem ready_lt {all : Array Oper} {listed : Array Bool} {i : Nat} (h : i ∈ Region.ready .any all listed) : i < all.size := by
  obtain ⟨_, o, ho, _⟩ := mem_ready.1 h
  rw [Array.getElem?_eq_some_iff] at ho
  exact ho.1
structure RgC (Inv : Γ → Mem → World → Prop) (P : Program) (n : Nat) (all : Array Oper) (c : Nat → Option (Rule Γ)) (cs qs : List Nat) : Prop where
  c1 : ∀ i r, c i = some r → i ∈ cs
  c2 : ∀ i ∈ cs, (c i).isSome = true
  ok : ∀ i o r, all[i]? = some o → c i = some r → o.guard = none ∧ RuleOK Inv P n o r
  q : ∀ i o r, all[i]? = some o → c i = some r → i ∈ qs → RuleQ Inv P n o r
def qsTX (cs qs : List Nat) : TX → Bool
  | .done => true
  | .one q i k => (!q || !cs.contains i || qs.contains i) && qsTX cs qs k
  | .two q i a q' j b => (!q || !cs.contains i || qs.contains i) && (!q' || !cs.contains j || qs.contains j) && qsTX cs qs a && qsTX cs qs b
  | .three q i a q' j b q'' l d => (!q || !cs.contains i || qs.contains i) && (!q' || !cs.contains j || qs.contains j) && (!q'' || !cs.contains l || qs.contains l) && qsTX cs qs a && qsTX cs qs b && qsTX cs qs d
theorem qs_use {all : Array Oper} {c : Nat → Option (Rule Γ)} {cs qs : List Nat} (hr : RgC Inv P n all c cs qs) {q : Bool} {i : Nat} (h : (!q || !cs.contains i || qs.contains i) = true) : ∀ o r, all[i]? = some o → c i = some r → q = true → RuleQ Inv P n o r := fun o r h1 h2 h3 => by
  subst h3
  have e := hr.c1 i r h2
  refine hr.q i o r h1 h2 ?_
  have e1 : cs.contains i = true := by simpa using e
  simp only [Bool.not_true, e1, Bool.false_or] at h
  simpa using h
theorem tree_runX (env : EnvOK P E) (hI : ∀ g M W M' W', Inv g M W → Evo M W M' W' → Inv g M' W') {all : Array Oper} (hall : all.toList.all (okO n) = true) {c : Nat → Option (Rule Γ)} {cs qs : List Nat} (hr : RgC Inv P n all c cs qs)
    {K : S → Γ → Prop} {Q : Exit → Act → World → Prop} {W : World} {kp : List Nat}
    (hK : ∀ s g a w M, K s g → St n M w s a → Inv g M w → Q .normal a w) :
    ∀ (t : TX) (b : Bool) (listed : Array Bool) (k : Nat) (s : S) (g : Γ) (a : Act) (w : World) (M : Mem), t.depth ≤ k → okTX all kp cs b listed t = true → qsTX cs qs t = true → (b = true → Cls W w) → St n M w s a → Inv g M w → treeX E c all t s g K → anyK P all Q (Cls W) kp k listed a w
  | .done, b, listed, k, s, g, a, w, M, _, hok, _, _, h, hi, hw => anyK_done (by simpa [okTX] using hok) (hK s g a w M hw h hi) k
  | .one q i t, b, listed, 0, s, g, a, w, M, hf, _, _, _, _, _, _ => by simp [TX.depth] at hf
  | .one q i t, b, listed, k + 1, s, g, a, w, M, hf, hok, hqs, hb, h, hi, hw => by
    simp only [okTX, Bool.and_eq_true, beq_iff_eq] at hok
    simp only [qsTX] at hqs
    rw [Bool.and_eq_true] at hqs
    obtain ⟨⟨h1, h2⟩, h3⟩ := hok
    simp only [treeX] at hw
    simp only [TX.depth] at hf
    exact anyK_one h1 (memX_one env hI hall hr.c1 hr.c2 hr.ok (qs_use hr hqs.1) h2 (ready_lt (by rw [h1]; simp)) hb h hi hw fun s' g' a' w' M' c1 c2 c3 c4 =>
      tree_runX env hI hall hr hK t (b && okCX2 all cs q i) _ k s' g' a' w' M' (by omega) (by simpa only [Bool.and_eq_true] using h3) hqs.2 c1 c2 c3 c4)
  | .two q i t q' j t', b, listed, 0, s, g, a, w, M, hf, _, _, _, _, _, _ => by simp [TX.depth] at hf
  | .two q i t q' j t', b, listed, k + 1, s, g, a, w, M, hf, hok, hqs, hb, h, hi, hw => by
    simp only [okTX, Bool.and_eq_true, beq_iff_eq] at hok
    simp only [qsTX] at hqs
    rw [Bool.and_eq_true, Bool.and_eq_true, Bool.and_eq_true] at hqs
    obtain ⟨⟨⟨q1, q2⟩, q3⟩, q4⟩ := hqs
    obtain ⟨⟨⟨⟨h1, h2⟩, h3⟩, h4⟩, h5⟩ := hok
    simp only [treeX] at hw
    simp only [TX.depth] at hf
    refine anyK_two h1 (memX_one env hI hall hr.c1 hr.c2 hr.ok (qs_use hr q1) h2 (ready_lt (by rw [h1]; simp)) hb h hi hw.1 fun s' g' a' w' M' c1 c2 c3 c4 => ?_) (memX_one env hI hall hr.c1 hr.c2 hr.ok (qs_use hr q2) h3 (ready_lt (by rw [h1]; simp)) hb h hi hw.2 fun s' g' a' w' M' c1 c2 c3 c4 => ?_)
    · exact tree_runX env hI hall hr hK t (b && okCX2 all cs q i) _ k s' g' a' w' M' (by omega) (by simpa only [Bool.and_eq_true] using h4) q3 c1 c2 c3 c4
    · exact tree_runX env hI hall hr hK t' (b && okCX2 all cs q' j) _ k s' g' a' w' M' (by omega) (by simpa only [Bool.and_eq_true] using h5) q4 c1 c2 c3 c4
  | .three q i t q' j t' q'' l t'', b, listed, 0, s, g, a, w, M, hf, _, _, _, _, _, _ => by simp [TX.depth] at hf
  | .three q i t q' j t' q'' l t'', b, listed, k + 1, s, g, a, w, M, hf, hok, hqs, hb, h, hi, hw => by
    simp only [okTX, Bool.and_eq_true, beq_iff_eq] at hok
    simp only [qsTX] at hqs
    rw [Bool.and_eq_true, Bool.and_eq_true, Bool.and_eq_true, Bool.and_eq_true, Bool.and_eq_true] at hqs
    obtain ⟨⟨⟨⟨⟨q1, q2⟩, q3⟩, q4⟩, q5⟩, q6⟩ := hqs
    obtain ⟨⟨⟨⟨⟨⟨h1, h2⟩, h3⟩, h4⟩, h5⟩, h6⟩, h7⟩ := hok
    simp only [treeX] at hw
    simp only [TX.depth] at hf
    refine anyK_three h1 (memX_one env hI hall hr.c1 hr.c2 hr.ok (qs_use hr q1) h2 (ready_lt (by rw [h1]; simp)) hb h hi hw.1 fun s' g' a' w' M' c1 c2 c3 c4 => ?_) (memX_one env hI hall hr.c1 hr.c2 hr.ok (qs_use hr q2) h3 (ready_lt (by rw [h1]; simp)) hb h hi hw.2.1 fun s' g' a' w' M' c1 c2 c3 c4 => ?_)
      (memX_one env hI hall hr.c1 hr.c2 hr.ok (qs_use hr q3) h4 (ready_lt (by rw [h1]; simp)) hb h hi hw.2.2 fun s' g' a' w' M' c1 c2 c3 c4 => ?_)
    · exact tree_runX env hI hall hr hK t (b && okCX2 all cs q i) _ k s' g' a' w' M' (by omega) (by simpa only [Bool.and_eq_true] using h5) q4 c1 c2 c3 c4
    · exact tree_runX env hI hall hr hK t' (b && okCX2 all cs q' j) _ k s' g' a' w' M' (by omega) (by simpa only [Bool.and_eq_true] using h6) q5 c1 c2 c3 c4
    · exact tree_runX env hI hall hr hK t'' (b && okCX2 all cs q'' l) _ k s' g' a' w' M' (by omega) (by simpa only [Bool.and_eq_true] using h7) q6 c1 c2 c3 c4
theorem pre_runX (env : EnvOK P E) {all : Array Oper} (hall : all.toList.all (okO n) = true) (hns : Region.noSelect all = true) {KK : S → Prop} {Q : Exit → Act → World → Prop} (hQ : ∀ c a w, ¬ Q (.panic c) a w) {M0 : Mem} {W0 W : World} {pr kp tl : List Nat} (hcut : TwoCut all pr tl) (hsub : ∀ i ∈ pr, i ∈ kp) {dep : Nat} {l2 : Array Bool}
    (hgo : ∀ (k : Nat) (u : S) (a : Act) (w : World) (M : Mem), dep ≤ k → Cls W w → St n M w u a → Evo M0 W0 M w → KK u → anyK P all Q (Cls W) kp k l2 a w) :
    ∀ (pl : List (Nat × Bool)) (listed : Array Bool) (k : Nat) (u : S) (a : Act) (w : World) (M : Mem), pl.length + dep ≤ k → (∀ y ∈ pl, y.1 ∈ pr) → ClosedL all listed → (∀ j, j < all.size → j ∉ kp → j ∉ tl → listed.getD j false = true) →
      okPre all listed pl = some l2 → St n M W u a → Evo M0 W0 M W → Cls W w → preW E all pl u KK → anyK P all Q (Cls W) kp k listed a w
  | [], listed, k, u, a, w, M, hf, _, _, _, hok, h, he, hw, hp => by
    simp only [okPre, Option.some.injEq] at hok
    subst hok
    exact hgo k u a w M (by simpa using hf) hw (h.cls hw) (he.trans (hw.evo M)) hp
  | (i, b) :: pl, listed, 0, u, a, w, M, hf, _, _, _, _, _, _, _, _ => by simp at hf
  | (i, false) :: pl, listed, k + 1, u, a, w, M, hf, hin, hcl, hrest, hok, h, he, hw, hp => by
    simp only [okPre, Bool.false_eq_true, if_false] at hok
    split at hok
    · rename_i hc
      simp only [Bool.and_eq_true] at hc
      obtain ⟨h1, h2⟩ := hc
      simp only [preW] at hp
      split at hp
      · rename_i o ho
        obtain ⟨hpu, hp⟩ := hp
        have hoo := okO_at hall ho
        have hrd : i ∈ Region.ready .any all listed := by simpa using h2
        have ih := pre_runX (W := W) env hall hns hQ hcut hsub hgo pl (listed.setIfInBounds i true) k
        have hf' : pl.length + dep ≤ k := by simp only [List.length_cons] at hf; omega
        have hin' : ∀ y ∈ pl, y.1 ∈ pr := fun y hy => hin y (by simp [hy])
        have hcl' := closed_add hcl hrd
        have hrest' : ∀ j, j < all.size → j ∉ kp → j ∉ tl → (listed.setIfInBounds i true).getD j false = true := fun j a b c => getD_set_true (hrest j a b c)
        rcases up env hall h hoo hp with ⟨h4, s', h5, h6⟩ | ⟨h4, h5⟩
        · exact anyK_pre hcut hsub ho hns hQ (hin (i, false) (by simp)) hcl hrest h1 h2 (.inr ⟨h4, rfl⟩) hw (ih s' _ w M hf' hin' hcl' hrest' hok h6 he hw h5)
        · rcases h5 with ⟨val, M', s', h5, h6, h7, h8, h9⟩ | ⟨h5, -⟩
          · obtain ⟨rfl, h10⟩ := h8 (hpu trivial)
            exact anyK_pre hcut hsub ho hns hQ (hin (i, false) (by simp)) hcl hrest h1 h2 (.inl ⟨h4, h10⟩) hw (ih s' _ w M' hf' hin' hcl' hrest' hok h6 he hw h9)
          · cases h5
      · exact hp.elim
    · cases hok
  | (i, true) :: pl, listed, k + 1, u, a, w, M, hf, hin, hcl, hrest, hok, h, he, hw, hp => by
    simp only [okPre, if_true] at hok
    split at hok
    · rename_i hc
      have h1 : Region.ready .any all listed = [i] := by simpa using hc
      simp only [preW] at hp
      split at hp
      · rename_i o ho
        obtain ⟨-, hp⟩ := hp
        have hoo := okO_at hall ho
        have hrd : i ∈ Region.ready .any all listed := by rw [h1]; simp
        have ih := pre_runX (W := W) env hall hns hQ hcut hsub hgo pl (listed.setIfInBounds i true) k
        have hf' : pl.length + dep ≤ k := by simp only [List.length_cons] at hf; omega
        have hin' : ∀ y ∈ pl, y.1 ∈ pr := fun y hy => hin y (by simp [hy])
        have hcl' := closed_add hcl hrd
        have hrest' : ∀ j, j < all.size → j ∉ kp → j ∉ tl → (listed.setIfInBounds i true).getD j false = true := fun j a b c => getD_set_true (hrest j a b c)
        refine anyK_one h1 ?_
        unfold wpOp
        simp only [ho]
        rcases up env hall h hoo hp with ⟨h4, s', h5, h6⟩ | ⟨h4, h5⟩
        · rw [h4, if_neg (by simp)]
          exact ⟨fun _ => hw, ih s' _ w M hf' hin' hcl' hrest' hok h6 he hw h5⟩
        · rw [h4, if_pos rfl]
          left
          rcases h5 with ⟨val, M', s', h5, h6, h7, -, h9⟩ | ⟨h5, -⟩
          · exact Go.Oper.wp_of_quiet (C := Cls W) (K := fun a' => a' = a.put o.dst val) hw (fun a' w' hw' e => by
              subst e
              exact ⟨fun _ => hw', ih s' _ w' M' hf' hin' hcl' hrest' hok h6 (he.trans h7) hw' h9⟩) ⟨val, h5, rfl⟩
          · cases h5
      · exact hp.elim
    · cases hok
theorem cutX_run (env : EnvOK P E) (hI : ∀ g M W M' W', Inv g M W → Evo M W M' W' → Inv g M' W') {all : Array Oper} (hall : all.toList.all (okO n) = true) {c : Nat → Option (Rule Γ)} {cs qs : List Nat} (hr : RgC Inv P n all c cs qs) {p : Pl} {t : TX} (hok : okCutX all cs p t = true) (hqs : qsTX cs qs t = true)
    {K : S → Γ → Prop} {Q : Exit → Act → World → Prop} (hQ : ∀ c a w, ¬ Q (.panic c) a w) {W : World}
    (hK : ∀ s g a w M, K s g → St n M w s a → Inv g M w → Q .normal a w) {u : S} {g : Γ} {a : Act} {w : World} {M : Mem} (h : St n M W u a) (hi : Inv g M W) (hw : Cls W w) (hp : cutX E c all p t u g K) :
    wpAny P .any all Q all.size (Array.replicate all.size false) a w := by
  obtain ⟨rg, pl, ea, tl, tt⟩ := p
  simp only [okCutX, Bool.and_eq_true, decide_eq_true_eq] at hok
  obtain ⟨⟨⟨⟨⟨⟨⟨hns, hlen⟩, hcov⟩, hpre⟩, hrg⟩, hla⟩, hcut⟩, hsim⟩ := hok
  simp only [List.length_map] at hlen
  simp only [List.all_eq_true, List.mem_range, Bool.or_eq_true, List.contains_iff_mem] at hcov
  simp only [List.all_eq_true, Bool.not_eq_true', ← Bool.not_eq_true, List.contains_iff_mem] at hpre hrg
  have hc : TwoCut all (pl.map (·.1)) tl := by
    cases tl with
    | nil => intro _ _ j hj; cases hj
    | cons t0 tl =>
      simp only [Bool.or_eq_true, Bool.and_eq_true, List.isEmpty_iff] at hcut
      rcases hcut with hcut | hcut
      · rw [hcut]
        intro _ _ _ _ _ _ hp
        cases hp
      · exact two_ok hcut.1 hcut.2
  cases h1 : okRig all (Array.replicate all.size false) rg with
  | none => rw [h1] at hsim; cases hsim
  | some l1 =>
    rw [h1] at hsim
    dsimp only at hsim
    cases h2 : okPre all l1 pl with
    | none => rw [h2] at hsim; cases hsim
    | some l2 =>
      rw [h2] at hsim
      dsimp only at hsim
      obtain ⟨a1, -, a3⟩ := okRig_spec h1 (closed_new all)
      refine anyK_any (C := Cls W) (pre := pl.map (·.1) ++ ea) _ _ _ _ ?_
      refine rig_run (M := M) (m := pl.length + t.depth) env hall hns hQ hw (fun k u a hk hs hp => ?_) rg _ _ u a (by omega) (fun i hi => hrg i hi) h1 h hp
      refine pre_runX (M0 := M) (W0 := W) (dep := t.depth) (KK := fun u => treeX E c all t u g K) env hall hns hQ hc (fun i hi => List.mem_append_left _ hi) (fun k u a w M' h3 h4 h5 h6 h7 => ?_) pl l1 k u a w M hk (fun y hy => List.mem_map_of_mem hy) a1 (fun j hj hjp hjt => ?_) h2 hs (Evo.refl _ _) hw hp
      · exact tree_runX env hI hall hr hK t true l2 k u g a w M' h3 hsim hqs (fun _ => h4) h5 (hI _ _ _ _ _ hi h6) h7
      · rcases hcov j hj with (h3 | h3) | h3
        · exact a3 j h3
        · exact absurd h3 hjp
        · exact absurd h3 hjt
def RgOK (Inv : Γ → Mem → World → Prop) (P : Program) (n : Nat) (id : Nat) (ops : Array Oper) (dr : Bool) (r : Rule Γ) : Prop :=
  ∀ s g a W M (K : S → Γ → Prop) (Q : Exit → Act → World → Prop), (∀ s' g' a' W' M', K s' g' → St n M' W' s' a' → Inv g' M' W' → Q .normal a' W') → St n M W s a → Inv g M W → r s g K → (Code.region id ops dr).wp P Q a W
theorem cutX_ok (env : EnvOK P E) (hI : ∀ g M W M' W', Inv g M W → Evo M W M' W' → Inv g M' W') {id : Nat} {all : Array Oper} (hall : all.toList.all (okO n) = true) {c : Nat → Option (Rule Γ)} {cs qs : List Nat} (hr : RgC Inv P n all c cs qs) {p : Pl} {t : TX} (hok : okCutX all cs p t = true) (hqs : qsTX cs qs t = true) :
    RgOK Inv P n id all true (cutX E c all p t) := by
  intro s g a W M K Q hK h hi hw
  have hd : Cls W { heap := W.heap, tape := W.tape, drawn := W.drawn + 1, os := W.os, output := W.output } := ⟨rfl, rfl, rfl, Nat.le_refl _, fun _ _ => rfl⟩
  have key : (Code.region id all true).wp P (fun e a' w' => e = .normal ∧ Q .normal a' w') a W := by
    refine wp_region_any env.mixed ?_
    exact cutX_run env hI hall hr hok hqs (fun c a' w' hc => by cases hc.1) (fun s' g' a' w' M' h1 h2 h3 => ⟨rfl, hK s' g' a' w' M' h1 h2 h3⟩) h hi hd hw
  refine Code.wp_mono (fun e a' w' hq => ?_) key
  obtain ⟨rfl, hq⟩ := hq
  exact hq
theorem opsX_ok (env : EnvOK P E) (hI : ∀ g M W M' W', Inv g M W → Evo M W M' W' → Inv g M' W') {id : Nat} {all : Array Oper} (hall : all.toList.all (okO n) = true) {c : Nat → Option (Rule Γ)} (hc : ∀ i o r, all[i]? = some o → c i = some r → o.guard = none ∧ RuleOK Inv P n o r) :
    RgOK Inv P n id all false (fun s g K => opsX E c all 0 all.toList s g K) := by
  intro s g a W M K Q hK h hi hw
  refine wp_region ?_
  have := opsX_sound (Q := Q) env hI hall hc (fun s' g' a' W' M' h1 h2 h3 => hK s' g' a' W' M' h1 h2 h3) all.toList 0 s g a W M (by simp) h hi hw
  rwa [List.range_eq_range', ← Array.length_toList]
end
end Go.TM
end
section
namespace Go.TM
open Go
section
variable {Γ : Type} (E : Env) (C : Nat → Option (Array Oper → Rule Γ))
def codeX : Code → S → Γ → (X → S → Γ → Prop) → Prop
  | .skip, s, g, K => K .normal s g
  | .region id ops dr, s, g, K => match C id with
    | some r => r ops s g (K .normal)
    | none => codeW E (.region id ops dr) s fun x s' => K x s' g
  | .seq a b, s, g, K => codeX a s g fun x s' g' => match x with
    | .normal => codeX b s' g' K
    | x => K x s' g'
  | .cond c a b, s, g, K => match opnd s c with
    | .bool v => needs true s [c] ∧ (if v = true then codeX a s g K else codeX b s g K)
    | .anyB => needs true s [c] ∧ codeX a s g K ∧ codeX b s g K
    | _ => False
  | .block id c, s, g, K => codeX c s g fun x s' g' => match x with
    | .exit id' => if id' = id then K .normal s' g' else K (.exit id') s' g'
    | x => K x s' g'
  | .loop c, s, g, K => ∀ I : S → Γ → Prop, (∀ s' g', codeX c s' g' (fun x s'' g'' => match x with | .normal => I s'' g'' | x => K x s'' g'') → I s' g') → I s g
  | .exit id, s, g, K => K (.exit id) s g
  | .ret, s, g, K => K .ret s g
  | _, _, _, _ => False
end
section
variable {Γ : Type} {P : Program} {E : Env} {C : Nat → Option (Array Oper → Rule Γ)} {n : Nat} (Inv : Γ → Mem → World → Prop)
def okCX (P : Program) (n : Nat) (C : Nat → Option (Array Oper → Rule Γ)) : Code → Prop
  | .region id ops dr => ∀ r, C id = some r → RgOK Inv P n id ops dr (r ops)
  | .seq a b => okCX P n C a ∧ okCX P n C b
  | .cond _ a b => okCX P n C a ∧ okCX P n C b
  | .block _ c => okCX P n C c
  | .loop c => okCX P n C c
  | _ => True
variable {Inv}
theorem codeX_sound (env : EnvOK P E) (hI : ∀ g M W M' W', Inv g M W → Evo M W M' W' → Inv g M' W') : ∀ (c : Code) (K : X → S → Γ → Prop) (Q : Exit → Act → World → Prop) (s : S) (g : Γ) (a : Act) (W : World) (M : Mem),
    okC E n c = true → okCX Inv P n C c → (∀ x s' g' a' W' M', K x s' g' → St n M' W' s' a' → Inv g' M' W' → Q (toExit x) a' W') → St n M W s a → Inv g M W → codeX E C c s g K → c.wp P Q a W := by
  intro c
  induction c with
  | skip => intro K Q s g a W M hok hx hK h hi hw; exact wp_skip (hK .normal s g a W M hw h hi)
  | region id ops dr =>
    intro K Q s g a W M hok hx hK h hi hw
    simp only [codeX] at hw
    split at hw
    · rename_i r hr
      exact hx r hr s g a W M _ Q (fun s' g' a' W' M' h1 h2 h3 => hK .normal s' g' a' W' M' h1 h2 h3) h hi hw
    · exact code_sound env (M0 := M) (W0 := W) _ _ Q s a W M hok (fun x s' a' W' M' h1 h2 h3 => hK x s' g a' W' M' h1 h2 (hI _ _ _ _ _ hi h3)) h (Evo.refl _ _) hw
  | seq x y ihx ihy =>
    intro K Q s g a W M hok hx hK h hi hw
    simp only [okC, Bool.and_eq_true] at hok
    refine wp_seq (ihx _ _ s g a W M hok.1 hx.1 (fun e s' g' a' W' M' h1 h2 h3 => ?_) h hi hw)
    cases e with
    | normal => exact ihy K Q s' g' a' W' M' hok.2 hx.2 hK h2 h3 h1
    | exit id => exact hK (.exit id) s' g' a' W' M' h1 h2 h3
    | ret => exact hK .ret s' g' a' W' M' h1 h2 h3
  | cond c x y ihx ihy =>
    intro K Q s g a W M hok hx hK h hi hw
    simp only [okC, Bool.and_eq_true] at hok
    simp only [codeX] at hw
    split at hw
    · rename_i v hv
      have hc : a.eval c = .bool v := by
        have := opnd_sound h hok.1.1 hw.1
        rw [hv] at this
        exact this
      refine wp_cond hc ?_
      cases v with
      | true => exact ihx K Q s g a W M hok.1.2 hx.1 hK h hi (by simpa using hw.2)
      | false => exact ihy K Q s g a W M hok.2 hx.2 hK h hi (by simpa using hw.2)
    · rename_i hv
      have hc : ∃ b, a.eval c = .bool b := by
        have := opnd_sound h hok.1.1 hw.1
        rw [hv] at this
        exact this
      obtain ⟨b, hc⟩ := hc
      refine wp_cond hc ?_
      cases b with
      | true => exact ihx K Q s g a W M hok.1.2 hx.1 hK h hi hw.2.1
      | false => exact ihy K Q s g a W M hok.2 hx.2 hK h hi hw.2.2
    · exact hw.elim
  | block id x ih =>
    intro K Q s g a W M hok hx hK h hi hw
    refine wp_block (ih _ _ s g a W M hok hx (fun e s' g' a' W' M' h1 h2 h3 => ?_) h hi hw)
    cases e with
    | normal => exact hK .normal s' g' a' W' M' h1 h2 h3
    | exit id' =>
      simp only [toExit, Exit.inBlock]
      by_cases e : id' = id
      · subst e
        simp only [if_true] at h1 ⊢
        exact hK .normal s' g' a' W' M' h1 h2 h3
      · simp only [e, if_false] at h1 ⊢
        exact hK (.exit id') s' g' a' W' M' h1 h2 h3
    | ret => exact hK .ret s' g' a' W' M' h1 h2 h3
  | loop x ih =>
    intro K Q s g a W M hok hx hK h hi hw
    refine wp_loop_go ?_
    refine hw (fun s g => ∀ a W M, St n M W s a → Inv g M W → LoopGo P x Q a W) (fun s' g' hs' a W M h hi => ?_) a W M h hi
    refine loopGo_step (ih _ _ s' g' a W M hok hx (fun e s'' g'' a' W' M' h1 h2 h3 => ?_) h hi hs')
    cases e with
    | normal => exact h1 a' W' M' h2 h3
    | exit id => exact hK (.exit id) s'' g'' a' W' M' h1 h2 h3
    | ret => exact hK .ret s'' g'' a' W' M' h1 h2 h3
  | exit id => intro K Q s g a W M hok hx hK h hi hw; exact wp_exit (hK (.exit id) s g a W M hw h hi)
  | ret => intro K Q s g a W M hok hx hK h hi hw; exact wp_ret (hK .ret s g a W M hw h hi)
  | _ => intro K Q s g a W M hok hx hK h hi hw; exact hw.elim
end
end Go.TM
end
section
namespace Go.TM
open Go
def entsOf (L : List (Int × Nat)) : List (Value × Value) := L.map fun y => (.int .i64 y.1, .int .i64 (y.2 : Nat))
structure GT where
  mb : Nat
  ord : List Int
  hd : List (Nat × Hdr)
structure EvoX (m : Nat) (M : Mem) (W : World) (M' : Mem) (W' : World) : Prop where
  os : W'.os = W.os
  tape : W'.tape = W.tape
  output : W'.output = W.output
  size : W.heap.size ≤ W'.heap.size
  old : ∀ b, b < W.heap.size → M.ω b = none → b ≠ m → W'.heap[b]? = W.heap[b]?
  lab : ∀ b l, M'.ω b = some l → M.ω b ≠ none ∨ W.heap.size ≤ b
  frz : ∀ b, M'.F b → M.F b ∨ M.ω b ≠ none ∨ W.heap.size ≤ b
  frz0 : ∀ b, M.F b → M'.F b
  nt : M.nt ≤ M'.nt
  nb : M.nb ≤ M'.nb
  ρ : ∀ t, t < M.nt → M'.ρ t = M.ρ t
  β : ∀ b, b < M.nb → M'.β b = M.β b
theorem Evo.x {M M' : Mem} {W W' : World} (h : Evo M W M' W') (m : Nat) : EvoX m M W M' W' :=
  ⟨h.os, h.tape, h.output, h.size, fun b h1 h2 _ => h.old b h1 h2, h.lab, h.frz, h.frz0, h.nt, h.nb, h.ρ, h.β⟩
theorem EvoX.trans {m : Nat} {M M' M'' : Mem} {W W' W'' : World} (h : EvoX m M W M' W') (k : EvoX m M' W' M'' W'') : EvoX m M W M'' W'' where
  os := k.os.trans h.os
  tape := k.tape.trans h.tape
  output := k.output.trans h.output
  size := Nat.le_trans h.size k.size
  old b hb hω hm := by
    have : M'.ω b = none := by
      cases e : M'.ω b with
      | none => rfl
      | some l =>
        rcases h.lab b l e with h1 | h1
        · exact absurd hω h1
        · omega
    exact (k.old b (Nat.lt_of_lt_of_le hb h.size) this hm).trans (h.old b hb hω hm)
  lab b l hl := by
    rcases k.lab b l hl with h1 | h1
    · cases e : M'.ω b with
      | none => exact absurd e h1
      | some l' => exact h.lab b l' e
    · exact .inr (Nat.le_trans h.size h1)
  frz b hb := by
    rcases k.frz b hb with h1 | h1 | h1
    · exact h.frz b h1
    · cases e : M'.ω b with
      | none => exact absurd e h1
      | some l' => exact .inr (h.lab b l' e)
    · exact .inr (.inr (Nat.le_trans h.size h1))
  frz0 b hb := k.frz0 b (h.frz0 b hb)
  nt := Nat.le_trans h.nt k.nt
  nb := Nat.le_trans h.nb k.nb
  ρ t ht := (k.ρ t (Nat.lt_of_lt_of_le ht h.nt)).trans (h.ρ t ht)
  β t ht := (k.β t (Nat.lt_of_lt_of_le ht h.nb)).trans (h.β t ht)
structure MapAt (g : GT) (M : Mem) (W : World) : Prop where
  es : ∃ es clock, W.heap[g.mb]? = some (.map es clock) ∧ es.toList.map (fun e => (e.key, e.val)) = entsOf g.ord.zipIdx
  om : M.ω g.mb = none
  fz : ¬ M.F g.mb
  hd : ∀ h ∈ g.hd, h.1 < M.nt ∧ M.ρ h.1 = h.2.val
theorem MapAt.lt {g : GT} {M : Mem} {W : World} (h : MapAt g M W) : g.mb < W.heap.size := by
  obtain ⟨es, clock, hb, -⟩ := h.es
  exact (Array.getElem?_eq_some_iff.1 hb).1
theorem MapAt.evo {g : GT} {M M' : Mem} {W W' : World} (h : MapAt g M W) (he : Evo M W M' W') : MapAt g M' W' where
  es := by
    obtain ⟨es, clock, hb, h2⟩ := h.es
    exact ⟨es, clock, (he.old _ h.lt h.om).trans hb, h2⟩
  om := by
    cases e : M'.ω g.mb with
    | none => rfl
    | some l =>
      rcases he.lab _ l e with h1 | h1
      · exact absurd h.om h1
      · have := h.lt
        omega
  fz hf := by
    rcases he.frz _ hf with h1 | h1 | h1
    · exact h.fz h1
    · exact h1 h.om
    · have := h.lt
      omega
  hd x hx := ⟨Nat.lt_of_lt_of_le (h.hd x hx).1 he.nt, (he.ρ _ (h.hd x hx).1).trans (h.hd x hx).2⟩
def InvT (M0 : Mem) (W0 : World) (g : GT) (M : Mem) (W : World) : Prop := MapAt g M W ∧ EvoX g.mb M0 W0 M W
theorem InvT.evo {M0 : Mem} {W0 : World} (g : GT) (M : Mem) (W : World) (M' : Mem) (W' : World) (h : InvT M0 W0 g M W) (he : Evo M W M' W') : InvT M0 W0 g M' W' := ⟨h.1.evo he, h.2.trans (he.x _)⟩
structure InvK (Inv : GT → Mem → World → Prop) : Prop where
  map : ∀ g M W, Inv g M W → MapAt g M W
  step : ∀ g M W g' M' W', Inv g M W → MapAt g' M' W' → EvoX g.mb M W M' W' → g'.mb = g.mb → Inv g' M' W'
theorem InvT.k (M0 : Mem) (W0 : World) : InvK (InvT M0 W0) where
  map _ _ _ h := h.1
  step g M W g' M' W' h h1 h2 h3 := ⟨h1, by rw [h3]; exact h.2.trans h2⟩
def InvF (M0 : Mem) (W0 : World) (g : GT) (M : Mem) (W : World) : Prop := MapAt g M W ∧ W0.heap.size ≤ g.mb ∧ Evo M0 W0 M W
theorem EvoX.evo {m : Nat} {M0 M M' : Mem} {W0 W W' : World} (h : Evo M0 W0 M W) (k : EvoX m M W M' W') (hm : W0.heap.size ≤ m) : Evo M0 W0 M' W' := by
  have h1 := (h.x m).trans k
  exact ⟨h1.os, h1.tape, h1.output, h1.size, fun b hb hω => h1.old b hb hω (by omega), h1.lab, h1.frz, h1.frz0, h1.nt, h1.nb, h1.ρ, h1.β⟩
theorem InvF.k (M0 : Mem) (W0 : World) : InvK (InvF M0 W0) where
  map _ _ _ h := h.1
  step g M W g' M' W' h h1 h2 h3 := ⟨h1, by rw [h3]; exact h.2.1, EvoX.evo h.2.2 h2 h.2.1⟩
theorem InvF.evo {M0 : Mem} {W0 : World} (g : GT) (M : Mem) (W : World) (M' : Mem) (W' : World) (h : InvF M0 W0 g M W) (he : Evo M W M' W') : InvF M0 W0 g M' W' := ⟨h.1.evo he, h.2.1, h.2.2.trans he⟩
section
variable {P : Program} {n : Nat}
end
end Go.TM
end
section
namespace Go.TM
open Go
def deadL : V → V
  | .sub _ _ _ => .bad
  | .sadr _ _ _ _ _ _ => .bad
  | v => v
def startX (s : S) (args : List V) : S := { s with e := fun x => args.getD x (.tup []) }
theorem startX_St {M : Mem} {W : World} {s : S} {args : List V} {vs : List Value} (hm : MemOK M W s) (ha : All2 (SR1 M W) args vs) {k : Nat} (hk : vs.length ≤ k) :
    St k M W (startX s args) { tmps := vs.toArray ++ Array.replicate (k - vs.toArray.size) Go.undef, defers := [] } where
  size := by simp; omega
  defers := rfl
  slot x hx := by
    by_cases hlt : x < args.length
    · obtain ⟨v, hv, hr⟩ := ha.get x args[x] (List.getElem?_eq_getElem hlt)
      have hlt' : x < vs.length := by rw [← ha.length]; exact hlt
      have e1 : args.getD x (.tup []) = args[x] := by simp [List.getD, List.getElem?_eq_getElem hlt]
      have e2 : (vs.toArray ++ Array.replicate (k - vs.toArray.size) Go.undef).getD x Go.undef = v := by
        rw [List.getElem?_eq_getElem hlt'] at hv
        cases hv
        have hs : x < (vs.toArray ++ Array.replicate (k - vs.toArray.size) Go.undef).size := by simp; omega
        simp only [Array.getD, dif_pos hs]
        simp [Array.getElem_append, hlt']
      show SR M W (args.getD x (.tup [])) ((vs.toArray ++ Array.replicate (k - vs.toArray.size) Go.undef).getD x Go.undef)
      rw [e1, e2]
      exact SR_of_2 (SR2_of_1' hr)
    · have hge : vs.length ≤ x := by rw [← ha.length]; omega
      have e1 : args.getD x (.tup []) = .tup [] := by simp [List.getD, List.getElem?_eq_none (Nat.le_of_not_lt hlt)]
      have e2 : (vs.toArray ++ Array.replicate (k - vs.toArray.size) Go.undef).getD x Go.undef = Go.undef := by
        have hs : x < (vs.toArray ++ Array.replicate (k - vs.toArray.size) Go.undef).size := by simp; omega
        simp only [Array.getD, dif_pos hs]
        simp [Array.getElem_append, Nat.not_lt.2 hge]
      show SR M W (args.getD x (.tup [])) ((vs.toArray ++ Array.replicate (k - vs.toArray.size) Go.undef).getD x Go.undef)
      rw [e1, e2]
      exact ⟨[], rfl, trivial⟩
  mem := hm.slots _
def okEnd : X → Prop
  | .exit _ => False
  | _ => True
theorem open_sound {Γ : Type} {P : Program} {E : Env} {C : Nat → Option (Array Oper → Rule Γ)} {Inv : Γ → Mem → World → Prop} (env : EnvOK P E) (hI : ∀ g M W M' W', Inv g M W → Evo M W M' W' → Inv g M' W')
    {f : FuncId} {fn : Func} {c : Code} (hf : P.funcs[f]? = some fn) (hb : fn.body = some c) {args : List V} (hB : funB E fn args.length = true) (hx : okCX Inv P fn.ntmps C c)
    {M : Mem} {W : World} {s : S} {g : Γ} {vs : List Value} (hm : MemOK M W s) (ha : All2 (SR1 M W) args vs) (hi : Inv g M W) {post : S → Γ → V → Prop}
    (h : codeX E C c (startX s args) g fun x s' g' => okEnd x ∧ EndsC E fn s' ∧ post s' g' (resOf E fn s')) :
    Calls P f vs.toArray W fun e W' => ∃ v M' s' g' r, e = .returned v ∧ MemOK M' W' s' ∧ Inv g' M' W' ∧ SR2 M' W' r v ∧ post s' g' r := by
  simp only [funB, Bool.and_eq_true, decide_eq_true_eq, Bool.not_eq_true'] at hB
  obtain ⟨⟨⟨h1, h2⟩, h3⟩, h4⟩ := hB
  rw [hb] at h2
  refine calls_of_wp hf hb ?_
  refine codeX_sound env hI c (fun x s' g' => okEnd x ∧ EndsC E fn s' ∧ post s' g' (resOf E fn s')) _ (startX s args) g _ W M h2 hx ?_ (startX_St hm ha (by rw [← ha.length]; exact h3)) hi h
  intro x s' g' a' W' M' hx' hst hi'
  have key : (EndsC E fn s' ∧ post s' g' (resOf E fn s')) → a'.defers = [] ∧ ∃ v, (results fn a'.tmps).run P W' = .ok v W' ∧ ∃ v_1 M'' s'' g'' r, Ending.returned v = .returned v_1 ∧ MemOK M'' W' s'' ∧ Inv g'' M'' W' ∧ SR2 M'' W' r v_1 ∧ post s'' g'' r := by
    rintro ⟨hc, hp⟩
    obtain ⟨v, hv1, hv2⟩ := res_sound env.toStaOK hst h4 hc
    exact ⟨hst.defers, v, hv1, v, M', s', g', _, rfl, hst.mem, hi', hv2, hp⟩
  cases x with
  | normal => exact key hx'.2
  | ret => exact key hx'.2
  | exit id => exact hx'.1.elim
end Go.TM
end
section
namespace Go.TM
open Go
@[simp] theorem st_raw (h : Hdr) : st (.raw h) = .raw h := keep rfl
@[simp] theorem leaves_raw (h : Hdr) : leaves (.raw h) = [.raw h] := keep rfl
@[simp] theorem adR_raw (ty : Option Nat) (h : Hdr) (s : S) : adR ty (.raw h) s = .ok (.raw h) s := keep rfl
section
variable {Γ : Type}
def fixG (F : S → Γ → Prop) (g : Γ) : X → S → Prop := fun _ s => F s g
def fixQ (F : X → S → Γ → Prop) (g : Γ) : X → S → Prop := fun x s => F x s g
def fixS (F : S → Γ → Prop) (g : Γ) : S → Prop := fun s => F s g
@[simp] theorem fixG_app (F : S → Γ → Prop) (g : Γ) (x : X) (s : S) : fixG F g x s = F s g := keep rfl
@[simp] theorem fixQ_app (F : X → S → Γ → Prop) (g : Γ) (x : X) (s : S) : fixQ F g x s = F x s g := keep rfl
@[simp] theorem fixS_app (F : S → Γ → Prop) (g : Γ) (s : S) : fixS F g s = F s g := keep rfl
inductive FrX (Γ : Type) where
  | code (c : Code)
  | blk (id : Nat)
  | lp (I : S → Γ → Prop)
variable (E : Env) (C : Nat → Option (Array Oper → Rule Γ))
def kontX : List (FrX Γ) → (X → S → Γ → Prop) → X → S → Γ → Prop
  | [], Q, x, s, g => Q x s g
  | .code c :: k, Q, .normal, s, g => codeX E C c s g (kontX k Q)
  | .blk id :: k, Q, .exit id', s, g => if id' = id then kontX k Q .normal s g else kontX k Q (.exit id') s g
  | .lp I :: k, Q, .normal, s, g => I s g
  | _ :: k, Q, x, s, g => kontX k Q x s g
def aftX (v : V) (c : Operand) (a b : Code) (k : List (FrX Γ)) (Q : X → S → Γ → Prop) (s : S) (g : Γ) : Prop :=
  match v with
  | .bool v => needs true s [c] ∧ (if v = true then kontX E C (.code a :: k) Q .normal s g else kontX E C (.code b :: k) Q .normal s g)
  | .anyB => needs true s [c] ∧ kontX E C (.code a :: k) Q .normal s g ∧ kontX E C (.code b :: k) Q .normal s g
  | _ => False
def regX (r : Option (Array Oper → Rule Γ)) (id : Nat) (ops : Array Oper) (dr : Bool) (k : List (FrX Γ)) (Q : X → S → Γ → Prop) (s : S) (g : Γ) : Prop :=
  match r with
  | some r => r ops s g (kontX E C k Q .normal)
  | none => kont E [.code (.region id ops dr)] (fixQ (kontX E C k Q) g) .normal s
variable {E C}
@[simp] theorem rX_region (id : Nat) (ops : Array Oper) (dr : Bool) (k : List (FrX Γ)) (Q : X → S → Γ → Prop) (s : S) (g : Γ) : kontX E C (.code (.region id ops dr) :: k) Q .normal s g = regX E C (C id) id ops dr k Q s g := by
  cases h : C id with
  | none => simp only [kontX, codeX, h, regX, kont]; rfl
  | some r => simp only [kontX, codeX, h, regX]
@[simp] theorem regX_none (id : Nat) (ops : Array Oper) (dr : Bool) (k : List (FrX Γ)) (Q : X → S → Γ → Prop) (s : S) (g : Γ) : regX E C none id ops dr k Q s g = kont E [.code (.region id ops dr)] (fixQ (kontX E C k Q) g) .normal s := keep rfl
@[simp] theorem regX_some (r : Array Oper → Rule Γ) (id : Nat) (ops : Array Oper) (dr : Bool) (k : List (FrX Γ)) (Q : X → S → Γ → Prop) (s : S) (g : Γ) : regX E C (some r) id ops dr k Q s g = r ops s g (kontX E C k Q .normal) := keep rfl
@[simp] theorem rX_nil (Q : X → S → Γ → Prop) (x : X) (s : S) (g : Γ) : kontX E C [] Q x s g = Q x s g := keep rfl
@[simp] theorem rX_seq (a b : Code) (k : List (FrX Γ)) (Q : X → S → Γ → Prop) (s : S) (g : Γ) : kontX E C (.code (.seq a b) :: k) Q .normal s g = kontX E C (.code a :: .code b :: k) Q .normal s g := by
  have h : (fun x s' g' => match x with | .normal => codeX E C b s' g' (kontX E C k Q) | x => kontX E C k Q x s' g') = kontX E C (.code b :: k) Q := by
    funext x s' g'; cases x <;> rfl
  simp only [kontX, codeX]
  rw [← h]
  try rfl
@[simp] theorem rX_skip (k : List (FrX Γ)) (Q : X → S → Γ → Prop) (s : S) (g : Γ) : kontX E C (.code .skip :: k) Q .normal s g = kontX E C k Q .normal s g := keep rfl
@[simp] theorem rX_exit (id : Nat) (k : List (FrX Γ)) (Q : X → S → Γ → Prop) (s : S) (g : Γ) : kontX E C (.code (.exit id) :: k) Q .normal s g = kontX E C k Q (.exit id) s g := keep rfl
@[simp] theorem rX_ret (k : List (FrX Γ)) (Q : X → S → Γ → Prop) (s : S) (g : Γ) : kontX E C (.code .ret :: k) Q .normal s g = kontX E C k Q .ret s g := keep rfl
@[simp] theorem rX_block (id : Nat) (c : Code) (k : List (FrX Γ)) (Q : X → S → Γ → Prop) (s : S) (g : Γ) : kontX E C (.code (.block id c) :: k) Q .normal s g = kontX E C (.code c :: .blk id :: k) Q .normal s g := by
  have h : (fun x s' g' => match x with | .exit id' => if id' = id then kontX E C k Q .normal s' g' else kontX E C k Q (.exit id') s' g' | x => kontX E C k Q x s' g') = kontX E C (.blk id :: k) Q := by
    funext x s' g'; cases x <;> rfl
  simp only [kontX, codeX]
  rw [← h]
  try rfl
@[simp] theorem rX_blk (id : Nat) (k : List (FrX Γ)) (Q : X → S → Γ → Prop) (s : S) (g : Γ) : kontX E C (.blk id :: k) Q .normal s g = kontX E C k Q .normal s g := keep rfl
@[simp] theorem rX_blk_ret (id : Nat) (k : List (FrX Γ)) (Q : X → S → Γ → Prop) (s : S) (g : Γ) : kontX E C (.blk id :: k) Q .ret s g = kontX E C k Q .ret s g := keep rfl
@[simp] theorem rX_blk_exit (id id' : Nat) (k : List (FrX Γ)) (Q : X → S → Γ → Prop) (s : S) (g : Γ) : kontX E C (.blk id :: k) Q (.exit id') s g = if id' = id then kontX E C k Q .normal s g else kontX E C k Q (.exit id') s g := keep rfl
@[simp] theorem rX_code_ret (c : Code) (k : List (FrX Γ)) (Q : X → S → Γ → Prop) (s : S) (g : Γ) : kontX E C (.code c :: k) Q .ret s g = kontX E C k Q .ret s g := keep rfl
@[simp] theorem rX_code_exit (c : Code) (id : Nat) (k : List (FrX Γ)) (Q : X → S → Γ → Prop) (s : S) (g : Γ) : kontX E C (.code c :: k) Q (.exit id) s g = kontX E C k Q (.exit id) s g := keep rfl
@[simp] theorem rX_lp (I : S → Γ → Prop) (k : List (FrX Γ)) (Q : X → S → Γ → Prop) (s : S) (g : Γ) : kontX E C (.lp I :: k) Q .normal s g = I s g := keep rfl
@[simp] theorem rX_lp_ret (I : S → Γ → Prop) (k : List (FrX Γ)) (Q : X → S → Γ → Prop) (s : S) (g : Γ) : kontX E C (.lp I :: k) Q .ret s g = kontX E C k Q .ret s g := keep rfl
@[simp] theorem rX_lp_exit (I : S → Γ → Prop) (id : Nat) (k : List (FrX Γ)) (Q : X → S → Γ → Prop) (s : S) (g : Γ) : kontX E C (.lp I :: k) Q (.exit id) s g = kontX E C k Q (.exit id) s g := keep rfl
@[simp] theorem rX_cond (c : Operand) (a b : Code) (k : List (FrX Γ)) (Q : X → S → Γ → Prop) (s : S) (g : Γ) : kontX E C (.code (.cond c a b) :: k) Q .normal s g = aftX E C (opnd s c) c a b k Q s g := by
  simp only [kontX, codeX, aftX]
  try rfl
@[simp] theorem aftX_bool (v : Bool) (c : Operand) (a b : Code) (k : List (FrX Γ)) (Q : X → S → Γ → Prop) (s : S) (g : Γ) :
    aftX E C (.bool v) c a b k Q s g = (needs true s [c] ∧ (if v = true then kontX E C (.code a :: k) Q .normal s g else kontX E C (.code b :: k) Q .normal s g)) := keep rfl
theorem lpX_ind {c : Code} {k : List (FrX Γ)} {Q : X → S → Γ → Prop} {s0 : S} {g0 : Γ} (J : Nat → S → Γ → Prop) (n : Nat) (h0 : J n s0 g0)
    (step : ∀ (I : S → Γ → Prop) m s g, (∀ m' s' g', m' < m → J m' s' g' → I s' g') → J m s g → kontX E C (.code c :: .lp I :: k) Q .normal s g) : kontX E C (.code (.loop c) :: k) Q .normal s0 g0 := by
  simp only [kontX, codeX]
  intro I hI
  have hf : ∀ I : S → Γ → Prop, (fun x s'' g'' => match x with | .normal => I s'' g'' | x => kontX E C k Q x s'' g'') = kontX E C (.lp I :: k) Q := by
    intro I
    funext x s' g'; cases x <;> rfl
  have key : ∀ m s g, J m s g → I s g := by
    intro m
    induction m using Nat.strongRecOn with
    | _ m ih =>
      intro s g h
      refine hI s g ?_
      have h1 := step I m s g (fun m' s' g' hm h' => ih m' hm s' g' h') h
      have h2 : codeX E C c s g (kontX E C (.lp I :: k) Q) := h1
      rw [← hf I] at h2
      exact h2
  exact key n s0 g0 h0
section
variable (E)
def opsXK (c : Nat → Option (Rule Γ)) (all : Array Oper) (K : S → Γ → Prop) (i : Nat) (os : List Oper) (s : S) (g : Γ) : Prop := opsX E c all i os s g K
def opsXI (r : Option (Rule Γ)) (o : Oper) (c : Nat → Option (Rule Γ)) (all : Array Oper) (K : S → Γ → Prop) (i : Nat) (os : List Oper) (s : S) (g : Γ) : Prop :=
  match r with
  | some r => r s g (opsXK E c all K i os)
  | none => kont E [.ops false all [o]] (fixG (opsXK E c all K i os) g) .normal s
def memXI (r : Option (Rule Γ)) (all : Array Oper) (q : Bool) (o : Option Oper) (K : S → Γ → Prop) (s : S) (g : Γ) : Prop :=
  match r, o with
  | some r, _ => r s g K
  | none, some o => kont E [.ops q all [o]] (fixG K g) .normal s
  | none, none => False
def treeXK (c : Nat → Option (Rule Γ)) (all : Array Oper) (K : S → Γ → Prop) (t : TX) (s : S) (g : Γ) : Prop := treeX E c all t s g K
def preXK (all : Array Oper) (KK : S → Prop) (pl : List (Nat × Bool)) (s : S) : Prop := preW E all pl s KK
def preXI (all : Array Oper) (KK : S → Prop) (pl : List (Nat × Bool)) (b : Bool) (o : Option Oper) (s : S) : Prop :=
  match o with
  | some o => (b = false → pureOp E s o) ∧ kont E [.ops true all [o]] (fun _ => preXK E all KK pl) .normal s
  | none => False
end
@[simp] theorem opsXK_nil (c : Nat → Option (Rule Γ)) (all : Array Oper) (K : S → Γ → Prop) (i : Nat) (s : S) (g : Γ) : opsXK E c all K i [] s g = K s g := keep rfl
@[simp] theorem opsXK_cons (c : Nat → Option (Rule Γ)) (all : Array Oper) (K : S → Γ → Prop) (i : Nat) (o : Oper) (os : List Oper) (s : S) (g : Γ) : opsXK E c all K i (o :: os) s g = opsXI E (c i) o c all K (i + 1) os s g := by
  unfold opsXK
  cases h : c i <;> simp only [opsX, h, opsXI, kont] <;> rfl
@[simp] theorem opsXI_none (o : Oper) (c : Nat → Option (Rule Γ)) (all : Array Oper) (K : S → Γ → Prop) (i : Nat) (os : List Oper) (s : S) (g : Γ) : opsXI E none o c all K i os s g = kont E [.ops false all [o]] (fixG (opsXK E c all K i os) g) .normal s := keep rfl
@[simp] theorem opsXI_some (r : Rule Γ) (o : Oper) (c : Nat → Option (Rule Γ)) (all : Array Oper) (K : S → Γ → Prop) (i : Nat) (os : List Oper) (s : S) (g : Γ) : opsXI E (some r) o c all K i os s g = r s g (opsXK E c all K i os) := keep rfl
@[simp] theorem memXI_some (r : Rule Γ) (all : Array Oper) (q : Bool) (o : Option Oper) (K : S → Γ → Prop) (s : S) (g : Γ) : memXI E (some r) all q o K s g = r s g K := keep rfl
@[simp] theorem memXI_none (all : Array Oper) (q : Bool) (o : Oper) (K : S → Γ → Prop) (s : S) (g : Γ) : memXI E none all q (some o) K s g = kont E [.ops q all [o]] (fixG K g) .normal s := keep rfl
theorem memXI_eq (c : Nat → Option (Rule Γ)) (all : Array Oper) (q : Bool) (i : Nat) (K : S → Γ → Prop) (s : S) (g : Γ) : memX E c all q i s g K = memXI E (c i) all q all[i]? K s g := by
  unfold memX memXI
  cases h : c i with
  | some r => rfl
  | none =>
    unfold memW
    cases h2 : all[i]? with
    | none => rfl
    | some o => simp only [kont]; rfl
@[simp] theorem treeXK_done (c : Nat → Option (Rule Γ)) (all : Array Oper) (K : S → Γ → Prop) (s : S) (g : Γ) : treeXK E c all K .done s g = K s g := keep rfl
@[simp] theorem treeXK_one (c : Nat → Option (Rule Γ)) (all : Array Oper) (K : S → Γ → Prop) (q : Bool) (i : Nat) (t : TX) (s : S) (g : Γ) : treeXK E c all K (.one q i t) s g = memXI E (c i) all q all[i]? (treeXK E c all K t) s g := memXI_eq c all q i _ s g
@[simp] theorem treeXK_two (c : Nat → Option (Rule Γ)) (all : Array Oper) (K : S → Γ → Prop) (q : Bool) (i : Nat) (t : TX) (q' : Bool) (j : Nat) (t' : TX) (s : S) (g : Γ) : treeXK E c all K (.two q i t q' j t') s g = (memXI E (c i) all q all[i]? (treeXK E c all K t) s g ∧ memXI E (c j) all q' all[j]? (treeXK E c all K t') s g) := by
  rw [← memXI_eq, ← memXI_eq]; rfl
@[simp] theorem treeXK_three (c : Nat → Option (Rule Γ)) (all : Array Oper) (K : S → Γ → Prop) (q : Bool) (i : Nat) (t : TX) (q' : Bool) (j : Nat) (t' : TX) (q'' : Bool) (l : Nat) (t'' : TX) (s : S) (g : Γ) :
    treeXK E c all K (.three q i t q' j t' q'' l t'') s g = (memXI E (c i) all q all[i]? (treeXK E c all K t) s g ∧ memXI E (c j) all q' all[j]? (treeXK E c all K t') s g ∧ memXI E (c l) all q'' all[l]? (treeXK E c all K t'') s g) := by
  rw [← memXI_eq, ← memXI_eq, ← memXI_eq]; rfl
@[simp] theorem preXK_nil (all : Array Oper) (KK : S → Prop) (s : S) : preXK E all KK [] s = KK s := keep rfl
@[simp] theorem preXK_cons (all : Array Oper) (KK : S → Prop) (i : Nat) (b : Bool) (pl : List (Nat × Bool)) (s : S) : preXK E all KK ((i, b) :: pl) s = preXI E all KK pl b all[i]? s := by
  unfold preXK
  cases h : all[i]? with
  | none => simp only [preW, h, preXI]
  | some o => simp only [preW, h, preXI, kont]; rfl
@[simp] theorem preXI_read (all : Array Oper) (KK : S → Prop) (pl : List (Nat × Bool)) (o : Oper) (s : S) : preXI E all KK pl false (some o) s = (pureOp E s o ∧ kont E [.ops true all [o]] (fun _ => preXK E all KK pl) .normal s) := by
  simp [preXI]
@[simp] theorem preXI_lone (all : Array Oper) (KK : S → Prop) (pl : List (Nat × Bool)) (o : Oper) (s : S) : preXI E all KK pl true (some o) s = kont E [.ops true all [o]] (fun _ => preXK E all KK pl) .normal s := by
  simp [preXI]
def seqR (E : Env) (c : Nat → Option (Rule Γ)) (all : Array Oper) : Rule Γ := fun s g K => opsXK E c all K 0 all.toList s g
@[simp] theorem seqR_eq (c : Nat → Option (Rule Γ)) (all : Array Oper) (s : S) (g : Γ) (K : S → Γ → Prop) : seqR E c all s g K = opsXK E c all K 0 all.toList s g := keep rfl
def cutR2 (E : Env) (c : Nat → Option (Rule Γ)) (all : Array Oper) (p : Pl) (t : TX) : Rule Γ := fun s g K => preXK E all (fixS (treeXK E c all K t) g) (cutL p) s
@[simp] theorem cutR2_eq (c : Nat → Option (Rule Γ)) (all : Array Oper) (p : Pl) (t : TX) (s : S) (g : Γ) (K : S → Γ → Prop) : cutR2 E c all p t s g K = preXK E all (fixS (treeXK E c all K t) g) (cutL p) s := keep rfl
@[simp] theorem startX1_0 (s : S) (a : V) : (startX s [a]).e 0 = a := keep rfl
@[simp] theorem startX2_0 (s : S) (a b : V) : (startX s [a, b]).e 0 = a := keep rfl
@[simp] theorem startX2_1 (s : S) (a b : V) : (startX s [a, b]).e 1 = b := keep rfl
@[simp] theorem startX_B (s : S) (args : List V) : (startX s args).B = s.B := keep rfl
@[simp] theorem startX_R (s : S) (args : List V) : (startX s args).R = s.R := keep rfl
@[simp] theorem startX_nt (s : S) (args : List V) : (startX s args).nt = s.nt := keep rfl
@[simp] theorem startX_nb (s : S) (args : List V) : (startX s args).nb = s.nb := keep rfl
@[simp] theorem ex_e (s : S) (f : Nat → V) (x : Nat) : ({ s with e := f } : S).e x = f x := keep rfl
end
end Go.TM
end
section
namespace Go.TM
open Go
inductive Rch (nx : Int → List Int) (from_ : List Int) : Int → Prop
  | base {n : Int} : n ∈ from_ → Rch nx from_ n
  | step {n k : Int} : Rch nx from_ n → k ∈ nx n → Rch nx from_ k
section
variable {nx : Int → List Int}
theorem Rch.mono {a b : List Int} (h : ∀ x ∈ a, Rch nx b x) {x : Int} (hx : Rch nx a x) : Rch nx b x := by
  induction hx with
  | base h1 => exact h _ h1
  | step _ h2 ih => exact .step ih h2
theorem nodup_le : ∀ {xs ys : List Int}, xs.Nodup → (∀ x ∈ xs, x ∈ ys) → xs.length ≤ ys.length
  | [], _, _, _ => Nat.zero_le _
  | x :: xs, ys, h, hs => by
    rw [List.nodup_cons] at h
    have hx : x ∈ ys := hs x (by simp)
    have := nodup_le (xs := xs) (ys := ys.erase x) h.2 (fun y hy => by
      have hne : y ≠ x := fun e => h.1 (e ▸ hy)
      exact (List.mem_erase_of_ne hne).2 (hs y (by simp [hy])))
    rw [List.length_erase_of_mem hx] at this
    have : 0 < ys.length := List.length_pos_of_mem hx
    simp only [List.length_cons]
    omega
def Within (L : Nat) (l : List Int) : Prop := ∀ x ∈ l, 0 ≤ x ∧ x < L
theorem nodup_within {L : Nat} {l : List Int} (h : l.Nodup) (hb : Within L l) : l.length ≤ L := by
  have := nodup_le (ys := (List.range L).map (fun i : Nat => (i : Int))) h (fun x hx => by
    have := hb x hx
    rw [List.mem_map]
    exact ⟨x.toNat, by rw [List.mem_range]; omega, by omega⟩)
  simpa using this
end
def sortI (l : List Int) : List Int := l.mergeSort fun x y => decide (x ≤ y)
theorem sortI_perm (l : List Int) : (sortI l).Perm l := List.mergeSort_perm _ _
theorem mem_sortI {l : List Int} {x : Int} : x ∈ sortI l ↔ x ∈ l := (sortI_perm l).mem_iff
theorem sortI_sorted (l : List Int) : (sortI l).Pairwise (· ≤ ·) := by
  have := List.pairwise_mergeSort (le := fun x y : Int => decide (x ≤ y)) (fun a b c h1 h2 => by simp at *; omega) (fun a b => by simp; omega) l
  simpa [sortI] using this
theorem mem_compact {l : List Int} {x : Int} : x ∈ Lib.compact l ↔ x ∈ l := by
  unfold Lib.compact Lib.compactUpTo
  simp only [List.mem_map, List.mem_filter, List.mem_range]
  constructor
  · rintro ⟨j, ⟨hj, _⟩, rfl⟩
    rw [getElem!_pos l.toArray j (by simpa using hj)]
    simp
  · intro h
    obtain ⟨j, hj, rfl⟩ := List.mem_iff_getElem.1 h
    clear h
    induction j with
    | zero => exact ⟨0, ⟨hj, by simp [Lib.keeps]⟩, by rw [getElem!_pos l.toArray 0 (by simpa using hj)]; simp⟩
    | succ j ih =>
      by_cases e : l[j + 1] = l[j]
      · rw [e]
        exact ih (by omega)
      · refine ⟨j + 1, ⟨hj, ?_⟩, by rw [getElem!_pos l.toArray (j + 1) (by simpa using hj)]; simp⟩
        simp only [Lib.keeps, decide_eq_true_eq]
        right
        rw [getElem!_pos l.toArray (j + 1) (by simpa using hj), getElem!_pos l.toArray (j + 1 - 1) (by simp; omega)]
        simpa using e
end Go.TM
end
section
namespace Go.TM
open Go
def fldsW (g : List Int → Int → Int × List Int × List Ty) : List Int → List Fld → List Int × List Fld × List Ty
  | ord, [] => (ord, [], [])
  | ord, x :: xs =>
    ((fldsW g (g ord x.type).2.1 xs).1, ⟨if x.mark = 0 then ⟨#[]⟩ else x.name, x.mark, (g ord x.type).1⟩ :: (fldsW g (g ord x.type).2.1 xs).2.1, (g ord x.type).2.2 ++ (fldsW g (g ord x.type).2.1 xs).2.2)
@[simp] theorem fldsW_len (g : List Int → Int → Int × List Int × List Ty) : ∀ (xs : List Fld) (ord : List Int), (fldsW g ord xs).2.1.length = xs.length
  | [], ord => rfl
  | y :: xs, ord => by simp [fldsW, fldsW_len g xs]
structure OrdOK (L : Nat) (ord : List Int) : Prop where
  nd : ord.Nodup
  in_ : ∀ x ∈ ord, 0 ≤ x ∧ x < L
theorem OrdOK.len {L : Nat} {ord : List Int} (h : OrdOK L ord) : ord.length ≤ L := nodup_within h.nd h.in_
theorem OrdOK.add {L : Nat} {ord : List Int} (h : OrdOK L ord) {n : Int} (hn : n ∉ ord) (h0 : 0 ≤ n) (h1 : n < L) : OrdOK L (ord ++ [n]) where
  nd := by
    rw [List.nodup_append]
    refine ⟨h.nd, by simp, fun a ha b hb e => ?_⟩
    simp only [List.mem_singleton] at hb
    subst hb e
    exact hn ha
  in_ x hx := by
    rcases List.mem_append.1 hx with hx | hx
    · exact h.in_ x hx
    · simp only [List.mem_singleton] at hx
      subst hx
      exact ⟨h0, h1⟩
structure TyRef (l : List Ty) : Prop where
  base : ∀ t ∈ l, t.base < l.length
  flds : ∀ t ∈ l, ∀ x ∈ t.fields, 0 ≤ x.type ∧ x.type < l.length
structure TkOK (L : Nat) (ord : List Int) (r : List Int) (ts : List Ty) : Prop where
  ok : OrdOK L r
  ext : ∃ e, r = ord ++ e ∧ ts.length = e.length
theorem TkOK.refl {L : Nat} {ord : List Int} (h : OrdOK L ord) : TkOK L ord ord [] := ⟨h, [], by simp, rfl⟩
theorem TkOK.trans {L : Nat} {o r q : List Int} {ts us : List Ty} (h : TkOK L o r ts) (k : TkOK L r q us) : TkOK L o q (ts ++ us) := by
  obtain ⟨h1, e, rfl, h2⟩ := h
  obtain ⟨k1, e', rfl, k2⟩ := k
  exact ⟨k1, e ++ e', by simp, by simp [h2, k2]⟩
theorem TkOK.le {L : Nat} {o r : List Int} {ts : List Ty} (h : TkOK L o r ts) : o.length ≤ r.length := by
  obtain ⟨h1, e, rfl, h2⟩ := h
  simp
theorem TkOK.len {L : Nat} {o r : List Int} {ts : List Ty} (h : TkOK L o r ts) : r.length = o.length + ts.length := by
  obtain ⟨h1, e, rfl, h2⟩ := h
  simp [h2]
theorem TkOK.sub {L : Nat} {o r : List Int} {ts : List Ty} (h : TkOK L o r ts) {n : Int} (hn : n ∈ o) : n ∈ r := by
  obtain ⟨h1, e, rfl, h2⟩ := h
  simp [hn]
def numG (ord : List Int) (n : Int) : Int := if n < 0 then n else if n ∈ ord then (ord.idxOf n : Nat) else -1
def renF (ord : List Int) (x : Fld) : Fld := ⟨if x.mark = 0 then ⟨#[]⟩ else x.name, x.mark, numG ord x.type⟩
def renT (ord : List Int) (t : Ty) : Ty := ⟨t.kind, t.long, numG ord t.base, t.fields.map (renF ord), t.owner, t.name⟩
def renTs (l : List Ty) (ord e : List Int) : List Ty := e.filterMap fun n => (l[n.toNat]?).map (renT ord)
structure TkV (l : List Ty) (ord : List Int) (r : List Int) (ts : List Ty) : Prop where
  v : ∃ e, r = ord ++ e ∧ ∀ d, OrdOK l.length (r ++ d) → ts = renTs l (r ++ d) e
theorem renL_append (l : List Ty) (ord e d : List Int) : renTs l ord (e ++ d) = renTs l ord e ++ renTs l ord d := List.filterMap_append
theorem TkV.trans {l : List Ty} {o r q : List Int} {ts us : List Ty} (h : TkV l o r ts) (k : TkV l r q us) : TkV l o q (ts ++ us) := by
  obtain ⟨e, rfl, h⟩ := h
  obtain ⟨e', rfl, k⟩ := k
  refine ⟨e ++ e', by simp, fun d hd => ?_⟩
  rw [renL_append, k d hd]
  congr 1
  have := h (e' ++ d) (by simpa using hd)
  simpa using this
end Go.TM
end
section
namespace Go.TM
open Go
theorem EvoX.refl (m : Nat) (M : Mem) (W : World) : EvoX m M W M W := (Evo.refl M W).x m
theorem All2.set {α β : Type} {R : α → β → Prop} {a : α} : ∀ {zs : List α} {bs : List β} {i : Nat} {x : α}, All2 R zs bs → zs[i]? = some x → (∀ b, R x b → R a b) → All2 R (zs.set i a) bs
  | [], [], _, _, _, h, _ => by simp at h
  | y :: zs, b :: bs, 0, x, h, hx, hR => by
    simp at hx
    subst hx
    exact ⟨hR _ h.1, h.2⟩
  | y :: zs, b :: bs, i + 1, x, h, hx, hR => ⟨h.1, All2.set h.2 (by simpa using hx) hR⟩
theorem MemOK.setLeaf {M : Mem} {W : World} {s : S} {b off : Nat} {ls : List V} {l l' : V} (h : MemOK M W s) (hB : s.B b = some (.agg ls)) (hl : ls[off]? = some l) (hR : ∀ v, SRL M W l v → SRL M W l' v) :
    MemOK M W (s.setB b (some (.agg (ls.set off l')))) where
  nt := h.nt
  nb := h.nb
  box c d hc := by
    simp only [S.setB] at hc
    split at hc
    · rename_i e
      subst e
      cases hc
      obtain ⟨h1, cs, ty, h2, h3, h4⟩ := h.box c _ hB
      exact ⟨h1, cs, ty, h2, h3, All2.set h4 hl hR⟩
    · exact h.box c d hc
  row := h.row
  frz := h.frz
  lt := h.lt
  tok := h.tok
  bx := h.bx
def rPlain (E : Env) (id : Nat) (dr : Bool) {Γ : Type} (ops : Array Oper) : Rule Γ := fun s g K => kont E [.code (.region id ops dr)] (fixG K g) .normal s
theorem codeX_run {Γ : Type} {E : Env} {C : Nat → Option (Array Oper → Rule Γ)} {c : Code} {Q : X → S → Γ → Prop} {s : S} {g : Γ} (h : kontX E C [.code c] Q .normal s g) : codeX E C c s g Q := by
  have e : kontX E C [] Q = Q := by
    funext x s g
    cases x <;> rfl
  have h2 : codeX E C c s g (kontX E C [] Q) := h
  rwa [e] at h2
@[simp] theorem rPlain_eq {Γ : Type} (E : Env) (id : Nat) (dr : Bool) (ops : Array Oper) (s : S) (g : Γ) (K : S → Γ → Prop) : rPlain E id dr ops s g K = kont E [.code (.region id ops dr)] (fixG K g) .normal s := keep rfl
@[simp] theorem okEnd_ret : okEnd .ret = True := keep rfl
@[simp] theorem okEnd_normal : okEnd .normal = True := keep rfl
attribute [simp] deadL
structure Ent where
  ty : Ty
  u : Nat
  h : Hdr
@[simp] def Ent.v (e : Ent) : V := .agg [.int .i64 e.ty.kind, .int .i64 e.ty.long, .int .i64 e.ty.base, .raw e.h, .str e.ty.owner, .str e.ty.name]
structure TkPre (l : List Ty) (f : Nat) (s : S) (g : GT) (b t : Nat) (xs : List V) (n : Int) : Prop where
  B : s.B b = some (.agg [.lst (l.map Ty.v), .own t, .raw (.mp (some g.mb))])
  R : s.R t = some ⟨6, xs, true⟩
  len : xs.length = g.ord.length
  ord : OrdOK l.length g.ord
  n : n < l.length
  f : l.length - g.ord.length < f
  b : b < s.nb
  t : t < s.nt
structure TkPost (l : List Ty) (s : S) (g : GT) (b t : Nat) (xs : List V) (ts : List Ty) (s' : S) (g' : GT) (t' : Nat) (es : List Ent) : Prop where
  B : s'.B b = some (.agg [.lst (l.map Ty.v), .own t', .raw (.mp (some g.mb))])
  R : s'.R t' = some ⟨6, xs ++ es.map Ent.v, true⟩
  tys : es.map Ent.ty = ts
  mb : g'.mb = g.mb
  hd : ∀ x ∈ g.hd, x ∈ g'.hd
  ent : ∀ e ∈ es, s'.R e.u = some ⟨3, e.ty.fields.map Fld.v, true⟩ ∧ (e.u, e.h) ∈ g'.hd ∧ s.nt ≤ e.u ∧ e.u < s'.nt ∧ e.u ≠ t'
  nd : (es.map Ent.u).Nodup
  lt : t' < s'.nt
  t0 : t' = t ∨ s.nt ≤ t'
  oB : ∀ x, x ≠ b → x < s.nb → s'.B x = s.B x
  oR : ∀ x, x < s.nt → x ≠ t → s'.R x = s.R x
  nt : s.nt ≤ s'.nt
  nb : s.nb ≤ s'.nb
structure TkM (l : List Ty) (ty : Ty) (s : S) (g : GT) (b t : Nat) (xs : List V) (B : Nat → Option V) (R : Nat → Option Rw) (nt nb : Nat) (g2 : GT) (bo u t2 : Nat) (h : Hdr) (bs : Int) (fs : List Fld) (es : List Ent) : Prop where
  Bo : B bo = some (.agg [.int .i64 ty.kind, .int .i64 ty.long, .int .i64 ty.base, .own u, .str ty.owner, .str ty.name])
  fB : B b = some (.agg [.lst (l.map Ty.v), .own t2, .raw (.mp (some g.mb))])
  Ru : R u = some ⟨3, fs.map Fld.v, true⟩
  fR : R t2 = some ⟨6, xs ++ .agg [.int .i64 ty.kind, .int .i64 ty.long, .int .i64 bs, .raw h, .str ty.owner, .str ty.name] :: es.map Ent.v, true⟩
  hu : (u, h) ∈ g2.hd
  hd : ∀ x ∈ g.hd, x ∈ g2.hd
  mb : g2.mb = g.mb
  ent : ∀ e ∈ es, R e.u = some ⟨3, e.ty.fields.map Fld.v, true⟩ ∧ (e.u, e.h) ∈ g2.hd ∧ s.nt ≤ e.u ∧ e.u < nt ∧ e.u ≠ t2 ∧ e.u ≠ u
  nd : (es.map Ent.u).Nodup
  oB : ∀ x, x ≠ b → x < s.nb → B x = s.B x
  oR : ∀ x, x < s.nt → x ≠ t → R x = s.R x
  u0 : s.nt ≤ u
  u1 : u < nt
  t0 : s.nt ≤ t2
  t1 : t2 < nt
  ut : u ≠ t2
  b0 : s.nb ≤ bo
  b1 : bo < nb
  bb : b < s.nb
section
variable {l : List Ty} {ty : Ty} {s : S} {g : GT} {b t : Nat} {xs : List V} {B : Nat → Option V} {R : Nat → Option Rw} {nt nb : Nat} {g2 : GT} {bo u t2 : Nat} {h : Hdr} {bs : Int} {fs : List Fld} {es : List Ent}
theorem TkM.call (J : TkM l ty s g b t xs B R nt nb g2 bo u t2 h bs fs es) {S3 : S} {ts : List Ty} {s3 : S} {g3 : GT} {t3 : Nat} {es3 : List Ent}
    (H : TkPost l S3 g2 b t2 (xs ++ .agg [.int .i64 ty.kind, .int .i64 ty.long, .int .i64 bs, .raw h, .str ty.owner, .str ty.name] :: es.map Ent.v) ts s3 g3 t3 es3) (hB : S3.B = B) (hR : S3.R = R) (hnt : S3.nt = nt) (hnb : S3.nb = nb) : TkM l ty s g b t xs s3.B s3.R s3.nt s3.nb g3 bo u t3 h bs fs (es ++ es3) := by
  subst hB hR hnt hnb
  have f1 := J.u0
  have f2 := J.u1
  have f3 := J.t0
  have f4 := J.t1
  have f5 := J.b0
  have f6 := J.b1
  have f7 := J.bb
  have f8 := H.nt
  have f9 := H.nb
  have f10 := H.lt
  have hne : u ≠ t3 := by
    rcases H.t0 with e | e
    · rw [e]; exact J.ut
    · omega
  have h3 : s.nt ≤ t3 := by
    rcases H.t0 with e | e <;> omega
  exact {
    Bo := by rw [H.oB bo (by omega) f6]; exact J.Bo
    fB := by rw [H.B, J.mb]
    Ru := by rw [H.oR u f2 J.ut]; exact J.Ru
    fR := by rw [H.R]; simp
    hu := H.hd _ J.hu
    hd := fun x hx => H.hd _ (J.hd x hx)
    mb := H.mb.trans J.mb
    ent := fun e he => by
      rcases List.mem_append.1 he with he | he
      · obtain ⟨e1, e2, e3, e4, e5, e6⟩ := J.ent e he
        refine ⟨by rw [H.oR e.u e4 e5]; exact e1, H.hd _ e2, e3, by omega, ?_, e6⟩
        rcases H.t0 with e | e
        · rw [e]; exact e5
        · omega
      · obtain ⟨e1, e2, e3, e4, e5⟩ := H.ent e he
        exact ⟨e1, e2, by omega, e4, e5, by omega⟩
    nd := by
      rw [List.map_append, List.nodup_append]
      refine ⟨J.nd, H.nd, fun a ha c hc e => ?_⟩
      obtain ⟨x, hx, rfl⟩ := List.mem_map.1 ha
      obtain ⟨y, hy, rfl⟩ := List.mem_map.1 hc
      have h1 := (J.ent x hx).2.2.2.1
      have h2 := (H.ent y hy).2.2.1
      omega
    oB := fun x hx hlt => by rw [H.oB x hx (by omega)]; exact J.oB x hx hlt
    oR := fun x hlt hx => by rw [H.oR x (by omega) (by omega)]; exact J.oR x hlt hx
    u0 := f1
    u1 := by omega
    t0 := h3
    t1 := f10
    ut := hne
    b0 := f5
    b1 := by omega
    bb := f7 }
theorem TkM.base (J : TkM l ty s g b t xs B R nt nb g2 bo u t2 h bs fs es) (bs' : Int) :
    TkM l ty s g b t xs B (fun x => if x = t2 then some ⟨6, xs ++ .agg [.int .i64 ty.kind, .int .i64 ty.long, .int .i64 bs', .raw h, .str ty.owner, .str ty.name] :: es.map Ent.v, true⟩ else R x) nt nb g2 bo u t2 h bs' fs es :=
  { J with
    Ru := by rw [if_neg J.ut]; exact J.Ru
    fR := if_pos rfl
    ent := fun e he => by
      obtain ⟨e1, e2⟩ := J.ent e he
      exact ⟨by rw [if_neg e2.2.2.2.1]; exact e1, e2⟩
    oR := fun x hlt hx => by
      have := J.t0
      rw [if_neg (by omega)]
      exact J.oR x hlt hx }
theorem TkM.fld (J : TkM l ty s g b t xs B R nt nb g2 bo u t2 h bs fs es) (fs' : List Fld) :
    TkM l ty s g b t xs B (fun x => if x = u then some ⟨3, fs'.map Fld.v, true⟩ else R x) nt nb g2 bo u t2 h bs fs' es :=
  { J with
    Ru := if_pos rfl
    fR := by rw [if_neg (fun e => J.ut e.symm)]; exact J.fR
    ent := fun e he => by
      obtain ⟨e1, e2⟩ := J.ent e he
      exact ⟨by rw [if_neg e2.2.2.2.2]; exact e1, e2⟩
    oR := fun x hlt hx => by
      have := J.u0
      rw [if_neg (by omega)]
      exact J.oR x hlt hx }
theorem TkM.box (J : TkM l ty s g b t xs B R nt nb g2 bo u t2 h bs fs es) {B' : Nat → Option V} {nb' : Nat} (hB : ∀ x, x < nb → B' x = B x) (hn : nb ≤ nb') : TkM l ty s g b t xs B' R nt nb' g2 bo u t2 h bs fs es :=
  have f5 := J.b0
  have f6 := J.b1
  have f7 := J.bb
  { J with
    Bo := by rw [hB bo f6]; exact J.Bo
    fB := by rw [hB b (by omega)]; exact J.fB
    oB := fun x hx hlt => by rw [hB x (by omega)]; exact J.oB x hx hlt
    b1 := by omega }
theorem TkM.pre (J : TkM l ty s g b t xs B R nt nb g2 bo u t2 h bs fs es) {S3 : S} (hB : S3.B = B) (hR : S3.R = R) (hnt : S3.nt = nt) (hnb : S3.nb = nb) {f : Nat} {n : Int} (hl : xs.length + (es.length + 1) = g2.ord.length) (ho : OrdOK l.length g2.ord) (hn : n < l.length) (hf : l.length - g2.ord.length < f) :
    TkPre l f S3 g2 b t2 (xs ++ .agg [.int .i64 ty.kind, .int .i64 ty.long, .int .i64 bs, .raw h, .str ty.owner, .str ty.name] :: es.map Ent.v) n := by
  subst hB hR hnt hnb
  have f5 := J.b0
  have f6 := J.b1
  have f7 := J.bb
  exact { B := by rw [J.mb]; exact J.fB, R := J.fR, len := by simp; omega, ord := ho, n := hn, f := hf, b := by omega, t := J.t1 }
theorem TkM.post (J : TkM l ty s g b t xs B R nt nb g2 bo u t2 h bs fs es) {s' : S} (hB : s'.B = B) (hR : s'.R = R) (hnt : s'.nt = nt) (hnb : s'.nb = nb) (hst : s.nt ≤ nt) :
    TkPost l s g b t xs (⟨ty.kind, ty.long, bs, fs, ty.owner, ty.name⟩ :: es.map Ent.ty) s' g2 t2 (⟨⟨ty.kind, ty.long, bs, fs, ty.owner, ty.name⟩, u, h⟩ :: es) := by
  subst hB hR hnt hnb
  have f5 := J.b0
  have f6 := J.b1
  have f7 := J.bb
  exact {
    B := J.fB
    R := by rw [J.fR]; simp
    tys := by simp
    mb := J.mb
    hd := J.hd
    ent := fun e he => by
      rcases List.mem_cons.1 he with rfl | he
      · exact ⟨J.Ru, J.hu, J.u0, J.u1, J.ut⟩
      · obtain ⟨e1, e2, e3, e4, e5, e6⟩ := J.ent e he
        exact ⟨e1, e2, e3, e4, e5⟩
    nd := by
      rw [List.map_cons, List.nodup_cons]
      refine ⟨fun hm => ?_, J.nd⟩
      obtain ⟨x, hx, e⟩ := List.mem_map.1 hm
      exact (J.ent x hx).2.2.2.2.2 e
    lt := J.t1
    t0 := .inr J.t0
    oB := J.oB
    oR := J.oR
    nt := hst
    nb := by omega }
end
end Go.TM
end
section
namespace Go.TM
open Go
def InvO (M0 : Mem) (W0 : World) : Option GT → Mem → World → Prop
  | none, M, W => Evo M0 W0 M W
  | some g, M, W => InvF M0 W0 g M W
theorem InvO.evo {M0 : Mem} {W0 : World} (g : Option GT) (M : Mem) (W : World) (M' : Mem) (W' : World) (h : InvO M0 W0 g M W) (he : Evo M W M' W') : InvO M0 W0 g M' W' := by
  cases g with
  | none => exact Evo.trans h he
  | some g => exact InvF.evo g M W M' W' h he
def someK {Γ : Type} (K : S → Option Γ → Prop) : S → Γ → Prop := fun s g => K s (some g)
@[simp] theorem someK_app {Γ : Type} (K : S → Option Γ → Prop) (s : S) (g : Γ) : someK K s g = K s (some g) := keep rfl
def liftR (r : Rule GT) : Rule (Option GT) := fun s g K => match g with
  | some g => r s g (someK K)
  | none => False
@[simp] theorem liftR_some (r : Rule GT) (s : S) (g : GT) (K : S → Option GT → Prop) : liftR r s (some g) K = r s g (someK K) := keep rfl
theorem MemOK.congr {M : Mem} {W : World} {s s2 : S} (h : MemOK M W s) (hB : s.B = s2.B) (hR : s.R = s2.R) (hnt : s.nt = s2.nt) (hnb : s.nb = s2.nb) : MemOK M W s2 := by
  cases s
  cases s2
  simp only at hB hR hnt hnb
  subst hB hR hnt hnb
  exact h.slots _
@[simp] theorem opnd_nilp (s : S) : opnd s (.const (.pointer none)) = .nilp := keep rfl
end Go.TM
end
section
set_option maxHeartbeats 4000000
namespace Go.TM
open Go
section
variable {P : Program} {E : Env} {M : Mem} {W : World} {s : S} {n : Nat} {a : Act}
end
end Go.TM
end
section
set_option maxHeartbeats 4000000
namespace Go.TM
open Go
structure DG where
  t : Nat
  b : Nat
  o : Nat
  n : Nat
  c : Nat
def DG.ok (D : DG) (M : Mem) : Prop := D.t < M.nt ∧ M.ρ D.t = .slice (some ⟨D.b, D.o, none⟩) D.n D.c
def InvD (M0 : Mem) (W0 : World) : Option DG → Mem → World → Prop := fun g M W => Evo M0 W0 M W ∧ ∀ D, g = some D → D.ok M
theorem DG.ok_evo {D : DG} {M M' : Mem} {W W' : World} (h : D.ok M) (he : Evo M W M' W') : D.ok M' := ⟨Nat.lt_of_lt_of_le h.1 he.nt, (he.ρ _ h.1).trans h.2⟩
theorem InvD.evo {M0 : Mem} {W0 : World} (g : Option DG) (M : Mem) (W : World) (M' : Mem) (W' : World) (h : InvD M0 W0 g M W) (he : Evo M W M' W') : InvD M0 W0 g M' W' := ⟨h.1.trans he, fun D e => DG.ok_evo (h.2 D e) he⟩
def cutH (z : Nat) (D : DG) (l h : Nat) : Hdr := .sl (if D.c = l then some ⟨D.b, D.o, none⟩ else some ⟨D.b, D.o + l * z, none⟩) (h - l) (D.c - l)
def loIs (s : S) (lo : Option Operand) (l : Nat) : Prop := match lo with
  | none => l = 0
  | some y => needs true s [y] ∧ opnd s y = .int .i64 l
def hiIs (s : S) (hi : Option Operand) (h m : Nat) : Prop := match hi with
  | none => h = m
  | some y => needs true s [y] ∧ opnd s y = .int .i64 h
def rCut (z : Nat) (x : Operand) (lo hi : Option Operand) (d : Option Tmp) : Rule (Option DG) := fun s g K =>
  ∃ t xs l h, needs true s [x] ∧ opnd s x = .own t ∧ s.R t = some ⟨z, xs, true⟩ ∧ xs ≠ [] ∧ loIs s lo l ∧ hiIs s hi h xs.length ∧ l ≤ h ∧ h ≤ xs.length ∧ (∀ D, g = some D → D.t = t) ∧
    ∀ D : DG, D.t = t → D.n = xs.length → D.n ≤ D.c → (∀ D', g = some D' → D' = D) → K (s.put d (.raw (cutH z D l h))) (some D)
section
variable {P : Program} {E : Env} {n : Nat} {M0 : Mem} {W0 : World}
theorem own_hdr {M : Mem} {W : World} {s : S} {t z : Nat} {xs : List V} (h : MemOK M W s) (hR : s.R t = some ⟨z, xs, true⟩) (hne : xs ≠ []) : ∃ b o c, M.ρ t = .slice (some ⟨b, o, none⟩) xs.length c ∧ xs.length ≤ c ∧ t < M.nt := by
  rcases (dst_own h hR).go with ⟨rfl, _⟩ | ⟨b, o, c, cs, ty, hv, hb, hn, _⟩
  · exact absurd rfl hne
  · exact ⟨b, o, c, hv, hn, (h.row t _ hR).1⟩
theorem rCut_ok (sta : StaOK P E) {o : Oper} {ty e : TypeId} {tt : TI} {x : Operand} {lo hi : Option Operand} (ho : o.op = .slice ty x lo hi none) (he : E.el ty = some e) (ht : E.ti e = some tt) (hok : okO n o = true) :
    RuleOK (InvD M0 W0) P n o (rCut tt.sz x lo hi o.dst) := by
  rintro s g a W M K Q h hiv ⟨t, xs, l, hh, hn, hx, hR, hne, hlo, hhi, h1, h2, hg, hK⟩
  simp only [okO, Bool.and_eq_true, List.all_eq_true] at hok
  obtain ⟨b, off, c, hρ, hc, htn⟩ := own_hdr h.mem hR hne
  have hox : okOp n x = true := hok.1 x (by rw [ho]; simp [Op.operands])
  have hv := opnd_sound h hox hn
  rw [hx] at hv
  have hv2 : a.eval x = M.ρ t := hv.2
  have hlo' : LoOk M W (.int .i64 l) (lo.map a.eval) := by
    cases lo with
    | none => exact .inl ⟨rfl, by simp only [loIs] at hlo; rw [hlo]; rfl⟩
    | some y =>
      refine .inr ⟨_, rfl, ?_⟩
      have h3 := opnd_sound h (hok.1 y (by rw [ho]; simp [Op.operands])) hlo.1
      rw [hlo.2] at h3
      exact h3
  have hhi' : (hi.map a.eval = none ∧ (hh : Int) = (xs.length : Nat)) ∨ ∃ v, hi.map a.eval = some v ∧ SR2 M W (.int .i64 hh) v := by
    cases hi with
    | none => exact .inl ⟨rfl, by simp only [hiIs] at hhi; rw [hhi]⟩
    | some y =>
      refine .inr ⟨_, rfl, ?_⟩
      have h3 := opnd_sound h (hok.1 y (by rw [ho]; simp [Op.operands])) hhi.1
      rw [hhi.2] at h3
      exact h3
  have hrun : (execOp a.eval o).run P W = .ok (.value (cutH tt.sz ⟨t, b, off, xs.length, c⟩ l hh).val) W := by
    have hcr := cut_run (P := P) (W := W) (k' := .i64) sta he ht hlo' hhi' (by omega) (by omega) (by omega) (some ⟨b, off, none⟩) c hc W
    simp only [execOp, ho, hv2, hρ]
    rw [Sem.run_bind, Option.map_none, hcr]
    simp only [Int.toNat_natCast, Option.map_some, cutH, Hdr.val, add_eq]
    rfl
  have hD : ∀ D', g = some D' → D' = ⟨t, b, off, xs.length, c⟩ := fun D' e => by
    have h4 := hg D' e
    obtain ⟨h5, h6⟩ := hiv.2 D' e
    obtain ⟨t', b', o', n', c'⟩ := D'
    simp only at h4 h6
    subst h4
    rw [hρ] at h6
    cases h6
    rfl
  refine wp_value hrun ⟨M, _, _, h.putO hok.2 (x := .raw (cutH tt.sz ⟨t, b, off, xs.length, c⟩ l hh)) rfl, ⟨hiv.1, fun D e => ?_⟩, hK _ rfl rfl hc hD⟩
  cases e
  exact ⟨htn, hρ⟩
end
end Go.TM
end
section
namespace Go.TM
open Go
theorem RuleOK.imp {Γ : Type} {P : Program} {n : Nat} {Inv : Γ → Mem → World → Prop} {o : Oper} {r r' : Rule Γ} (h : RuleOK Inv P n o r) (hr : ∀ s g K, r' s g K → r s g K) : RuleOK Inv P n o r' := fun s g a W M K Q h1 h2 h3 => h s g a W M K Q h1 h2 (hr s g K h3)
section
variable {P : Program} {E : Env} {n : Nat} {M0 : Mem} {W0 : World}
end
end Go.TM
end
section
set_option maxHeartbeats 4000000
namespace Go.TM
open Go
section
variable {P : Program} {E : Env} {n : Nat} {M0 : Mem} {W0 : World}
end
end Go.TM
end
section
set_option maxHeartbeats 4000000
namespace Go.TM
open Go
section
variable {P : Program} {E : Env} {n : Nat} {M0 : Mem} {W0 : World}
end
end Go.TM
end
section
namespace Go.TM
open Go Go.Proofs Go.Sort Go.Shelf
theorem leafAt_ints {zs : List Int} {j i : Nat} {l : V} (h : leafAt (zs.map (V.int .i64)) j i = some l) : i = 0 ∧ ∃ z, zs[j]? = some z ∧ l = .int .i64 z := by
  unfold leafAt at h
  rw [List.getElem?_map] at h
  cases hz : zs[j]? with
  | none => rw [hz] at h; cases h
  | some z =>
    rw [hz] at h
    simp only [Option.map_some, Option.bind_some, leaves] at h
    cases i with
    | zero => exact ⟨rfl, z, rfl, by simpa using h.symm⟩
    | succ i => simp at h
theorem own_ints {W : World} {F B : Nat → Prop} {v : Value} {zs : List Int} (h : OwnN W F B 1 v (zs.map (V.int .i64))) (hne : zs ≠ []) :
    ∃ (b o c : Nat) (cs : Array Value) (ty : TypeId), v = .slice (some ⟨b, o, none⟩) zs.length c ∧ B b ∧ W.heap[b]? = some (.cells cs ty (0, 0)) ∧ zs.length ≤ c ∧ c ≤ maxLen ∧ cs.size = o + c ∧ ∀ j z, zs[j]? = some z → cs[o + j]? = some (.int .i64 z) := by
  generalize hx : zs.map (V.int .i64) = xs at h
  cases h with
  | nil => cases zs <;> simp at hx hne
  | row _ _ _ b o c cs ty u Bs hB hBs hd hb hn hm hcs hs hc hl hN =>
    subst hx
    refine ⟨b, o, c, cs, ty, by simp, hB, hb, by simpa using hn, hm, by simpa using hcs, fun j z hz => ?_⟩
    have e : leafAt (zs.map (V.int .i64)) j 0 = some (.int .i64 z) := by simp [leafAt, hz, leaves]
    have h1 := hc j 0 _ e
    have h2 := hl j 0 _ e (by intro z ys; simp)
    generalize u j 0 = q at h1 h2
    cases h2
    simpa using h1
theorem ints_own {W : World} {F : Nat → Prop} {zs : List Int} {b o c : Nat} {cs : Array Value} {ty : TypeId} (hb : W.heap[b]? = some (.cells cs ty (0, 0))) (hn : zs.length ≤ c) (hm : c ≤ maxLen) (hcs : cs.size = o + c) (hc : ∀ j z, zs[j]? = some z → cs[o + j]? = some (.int .i64 z)) :
    OwnN W F (fun x => x = b) 1 (.slice (some ⟨b, o, none⟩) zs.length c) (zs.map (V.int .i64)) := by
  have key := OwnN.row (W := W) (F := F) (fun x => x = b) 1 (zs.map (V.int .i64)) b o c cs ty (fun j _ => .int .i64 (zs.getD j 0)) (fun _ _ _ => False) rfl (fun _ _ _ h => h.elim) (fun _ _ _ _ _ h => h.elim) hb (by simpa using hn) hm (by simpa using hcs)
    (fun e he => by
      obtain ⟨z, _, rfl⟩ := List.mem_map.1 he
      rfl)
    (fun j i l hl => by
      obtain ⟨rfl, z, hz, rfl⟩ := leafAt_ints hl
      have := hc j z hz
      simpa [hz] using this)
    (fun j i l hl _ => by
      obtain ⟨rfl, z, hz, rfl⟩ := leafAt_ints hl
      simp only [List.getD_eq_getElem?_getD, hz, Option.getD_some]
      exact .int _ _)
    (fun j i z ys hl => by
      obtain ⟨rfl, w, hz, e⟩ := leafAt_ints hl
      cases e)
  simpa using key
theorem putRow_block {W : World} {n b o : Nat} {os : Array Go.Obj} {cs : Array Value} {ty : TypeId} {ds : Array Int} (hb : W.heap[b]? = some (.cells cs ty (0, 0))) :
    (grow (putRow (Value.int .i64) (Sort.ahead W n) b o ds) os).heap[b]? = some (.cells (putCells (Value.int .i64) o ds cs) ty (0, 0)) ∧
    (∀ x, x < W.heap.size → x ≠ b → (grow (putRow (Value.int .i64) (Sort.ahead W n) b o ds) os).heap[x]? = W.heap[x]?) ∧
    W.heap.size ≤ (grow (putRow (Value.int .i64) (Sort.ahead W n) b o ds) os).heap.size := by
  have hlt : b < W.heap.size := by
    rw [Array.getElem?_eq_some_iff] at hb
    exact hb.1
  refine ⟨?_, fun x hx hne => ?_, ?_⟩
  · simp only [grow, putRow, mapBlock, heap_ahead]
    rw [Array.getElem?_append_left (by simpa using hlt), Array.getElem?_modify, if_pos rfl, hb]
    rfl
  · simp only [grow, putRow, mapBlock, heap_ahead]
    rw [Array.getElem?_append_left (by simpa using hx), Array.getElem?_modify, if_neg (fun e => hne e.symm)]
  · simp only [grow, putRow, mapBlock, heap_ahead]
    simp
theorem putCells_get {o : Nat} {ds : Array Int} {cs : Array Value} {c : Nat} (hcs : cs.size = o + c) (hn : ds.size ≤ c) {j : Nat} {z : Int} (hz : ds.toList[j]? = some z) : (putCells (Value.int .i64) o ds cs)[o + j]? = some (.int .i64 z) := by
  have hj : j < ds.size := by
    rw [List.getElem?_eq_some_iff] at hz
    simpa using hz.1
  have hlt : o + j < cs.size := by omega
  unfold putCells
  rw [Array.getElem?_mapIdx, Array.getElem?_eq_getElem hlt]
  simp only [Option.map_some]
  rw [if_pos ⟨by omega, by omega⟩]
  have e : o + j - o = j := by omega
  rw [e, getElem!_pos ds j hj]
  rw [List.getElem?_eq_some_iff] at hz
  simp [← hz.2]
theorem putCells_size {o : Nat} {ds : Array Int} {cs : Array Value} : (putCells (Value.int .i64) o ds cs).size = cs.size := by simp [putCells]
theorem start_ints (zs : List Int) : (start [.inl 1 (zs.map (V.int .i64))] []).R = fun x => if x = 0 then some ⟨1, zs.map (V.int .i64), true⟩ else none := by
  funext x
  by_cases h : x = 0 <;> simp [start, adCs, adC, adL, S.newR, S.setR, S.zero, h]
theorem sort_gen {P : Program} {f : FuncId} {zs : List Int} (hne : zs ≠ []) (hlen : zs.length < 4611686018427387904)
    (has : ∃ fn, P.funcs[f]? = some fn ∧ (fn.name == "runtime.NumGoroutine") = false ∧ fn.body.isNone = false)
    (hcall : ∀ (blk off cap : Nat) (w : World), Holds (Value.int .i64) w blk off zs.toArray → blk < w.heap.size → Calls P f #[.slice (some ⟨blk, off, none⟩) zs.length cap] w fun e w' =>
      e = .returned (.tuple #[]) ∧ ∃ n os, w' = grow (putRow (Value.int .i64) (Sort.ahead w n) blk off (sortI zs).toArray) os) :
    GenOK P f [.inl 1 (zs.map (V.int .i64))] [] ⟨false, .tup [], [.inl 1 ((sortI zs).map (V.int .i64))], []⟩ := by
  refine ⟨has, fun M W vs hM hv => ?_⟩
  have hR := start_ints zs
  have hB : (start [.inl 1 (zs.map (V.int .i64))] []).B = fun _ => none := by
    funext x
    simp [start, adCs]
  have hnt : M.nt = 1 := by rw [hM.nt]; simp [start, adCs, adC, adL, S.newR, S.setR, S.zero]
  have hnb : M.nb = 0 := by rw [hM.nb]; simp [start, adCs]
  have hv' : ∃ v, vs = [v] ∧ v = M.ρ 0 := by
    simp only [adCs, adC, adL, S.zero] at hv
    cases vs with
    | nil => exact hv.elim
    | cons v vs =>
      cases vs with
      | cons _ _ => exact hv.2.elim
      | nil => exact ⟨v, rfl, hv.1.2⟩
  obtain ⟨v, rfl, rfl⟩ := hv'
  obtain ⟨_, hrow⟩ := hM.row 0 ⟨1, zs.map (V.int .i64), true⟩ (by rw [hR]; simp)
  rcases hrow with ⟨_, B, hown, hω, _⟩ | ⟨h, _⟩
  · obtain ⟨b, o, c, cs, ty, hρ, hBb, hb, hn, hm, hcs, hc⟩ := own_ints hown hne
    have hlt : b < W.heap.size := by
      rw [Array.getElem?_eq_some_iff] at hb
      exact hb.1
    have hH : Holds (Value.int .i64) W b o zs.toArray := by
      intro j hj
      have hj' : j < zs.length := by simpa using hj
      have h1 := hc j zs[j] (List.getElem?_eq_getElem hj')
      refine ⟨?_, ?_⟩
      · rw [getElem!_pos zs.toArray j hj]
        simp only [World.cell?, hb]
        simpa using h1
      · simp [World.frozen?, hb]
    rw [hρ]
    refine (hcall b o c W hH hlt).mono ?_
    rintro e W' ⟨rfl, n, os, rfl⟩
    obtain ⟨k1, k2, k3⟩ := putRow_block (n := n) (o := o) (os := os) (ds := (sortI zs).toArray) hb
    have hsl : (sortI zs).length = zs.length := (sortI_perm zs).length_eq
    generalize hW' : grow (putRow (Value.int .i64) (Sort.ahead W n) b o (sortI zs).toArray) os = W' at k1 k2 k3
    have hos : W'.os = W.os ∧ W'.tape = W.tape ∧ W'.output = W.output := by subst hW'; exact ⟨rfl, rfl, rfl⟩
    have hωb := hω b hBb
    have hown' : OwnN W' M.F (fun x => x = b) 1 (M.ρ 0) ((sortI zs).map (V.int .i64)) := by
      rw [hρ, ← hsl]
      exact ints_own k1 (by omega) hm (by rw [putCells_size]; exact hcs) fun j z hz => putCells_get (c := c) hcs (by simp; omega) (by simpa using hz)
    refine ⟨_, M, { start [.inl 1 (zs.map (V.int .i64))] [] with R := fun x => if x = 0 then some ⟨1, (sortI zs).map (V.int .i64), true⟩ else none }, .tup [], rfl, ?_⟩
    refine ⟨⟨[], rfl, trivial⟩, ⟨hM.nt, hM.nb, fun x y hx => ?_, fun t r hr => ?_, fun x hx => ⟨(hM.frz x hx).1, Nat.lt_of_lt_of_le (hM.frz x hx).2 k3⟩, fun x l hx => Nat.lt_of_lt_of_le (hM.lt x l hx) k3, hM.tok, hM.bx⟩, ⟨hos.1, hos.2.1, hos.2.2, k3, fun x hx hω0 => k2 x hx (fun e => by subst e; rw [hωb] at hω0; cases hω0), fun x l hx => .inl (by simp [hx]), fun x hx => .inl hx, fun _ h => h, Nat.le_refl _, Nat.le_refl _, fun _ _ => rfl, fun _ _ => rfl⟩, ?_, ?_, ?_, ?_, ?_, ?_, ?_⟩
    · simp only [hB] at hx
      cases hx
    · simp only at hr
      split at hr
      · rename_i h0
        subst h0
        cases hr
        refine ⟨by omega, .inl ⟨rfl, _, hown', ?_, ?_⟩⟩
        · rintro x rfl
          exact hωb
        · intro j i z ys hl
          obtain ⟨_, _, _, e⟩ := leafAt_ints hl
          cases e
      · cases hr
    · simp [resToks, liveOuts, isBad]
    · simp [resBoxes]
    · intro _
      refine ⟨by simp [noL, noLs], ?_⟩
      have : ∀ l : List Int, noLs (l.map (V.int .i64)) = true := by
        intro l
        induction l with
        | nil => rfl
        | cons x xs ih => simp [noLs, noL, ih]
      simp [noLs, noL, this]
    · simp
    · simp [outsOk, S.outR]
    · simp [boxOuts]
    · simp [closeR]
  · cases h
end Go.TM
end
section
namespace Go.TM
open Go Go.Proofs Go.Sort Go.Shelf
theorem noLs_ints (l : List Int) : noLs (l.map (V.int .i64)) = true := by
  induction l with
  | nil => rfl
  | cons x xs ih => simp [noLs, noL, ih]
theorem ints_nt (zs : List Int) : (start [.inl 1 (zs.map (V.int .i64))] []).nt = 1 ∧ (start [.inl 1 (zs.map (V.int .i64))] []).nb = 0 ∧ (start [.inl 1 (zs.map (V.int .i64))] []).B = fun _ => none := by
  refine ⟨by simp [start, adCs, adC, adL, S.newR, S.setR, S.zero], by simp [start, adCs], ?_⟩
  funext x
  simp [start, adCs]
theorem ints_arg {M : Mem} {W : World} {zs : List Int} {vs : List Value} (hv : All2 (SR1 M W) (adCs [.inl 1 (zs.map (V.int .i64))] S.zero).1 vs) : vs = [M.ρ 0] := by
  simp only [adCs, adC, adL, S.zero] at hv
  cases vs with
  | nil => exact hv.elim
  | cons v vs =>
    cases vs with
    | cons _ _ => exact hv.2.elim
    | nil => rw [hv.1.2]
theorem compact_len (zs : List Int) : (Lib.compact zs).length ≤ zs.length := by
  unfold Lib.compact Lib.compactUpTo
  rw [List.length_map]
  exact Nat.le_trans (List.length_filter_le _ _) (by simp)
theorem compact_gen {P : Program} {f : FuncId} {zs : List Int} (hlen : zs.length ≤ 9223372036854775807)
    (has : ∃ fn, P.funcs[f]? = some fn ∧ (fn.name == "runtime.NumGoroutine") = false ∧ fn.body.isNone = false)
    (hcall : ∀ (blk off cap : Nat) (w : World), Holds (Value.int .i64) w blk off zs.toArray → zs.length ≤ cap → Calls P f #[.slice (some ⟨blk, off, none⟩) zs.length cap] w fun e w' =>
      e = .returned (.slice (some ⟨blk, off, none⟩) (Lib.compact zs).length cap) ∧ ∃ q, w' = putRow (Value.int .i64) (Sort.ahead w q) blk off (Lib.compact zs ++ List.replicate (zs.length - (Lib.compact zs).length) 0).toArray)
    (hnil : ∀ (a : Option Addr) (cap : Nat) (w : World), Calls P f #[.slice a 0 cap] w fun e w' => e = .returned (.slice a 0 cap) ∧ w' = w) :
    GenOK P f [.inl 1 (zs.map (V.int .i64))] [] ⟨true, .inl 1 ((Lib.compact zs).map (V.int .i64)), [.bad], []⟩ := by
  refine ⟨has, fun M W vs hM hv => ?_⟩
  have hR := start_ints zs
  obtain ⟨n1, n2, hB⟩ := ints_nt zs
  have hnt : M.nt = 1 := by rw [hM.nt, n1]
  have hnb : M.nb = 0 := by rw [hM.nb, n2]
  obtain rfl := ints_arg hv
  obtain ⟨_, hrow⟩ := hM.row 0 ⟨1, zs.map (V.int .i64), true⟩ (by rw [hR]; simp)
  rcases hrow with ⟨_, B, hown, hω, _⟩ | ⟨h, _⟩
  · by_cases hne : zs = []
    · subst hne
      have hv0 : ∃ a cap, M.ρ 0 = .slice a 0 cap := by
        generalize M.ρ 0 = q at hown
        generalize hx : ([] : List Int).map (V.int .i64) = xs at hown
        cases hown with
        | nil => exact ⟨_, _, rfl⟩
        | row => subst hx; exact ⟨_, _, rfl⟩
      obtain ⟨a, cap, hv0⟩ := hv0
      rw [hv0]
      refine (hnil a cap W).mono ?_
      rintro e W' ⟨rfl, rfl⟩
      refine ⟨_, M, start [.inl 1 (([] : List Int).map (V.int .i64))] [], .own 0, rfl, ?_⟩
      refine ⟨⟨by omega, hv0.symm⟩, hM, .refl _ _, ?_, ?_, ?_, ?_, ?_, ?_, ?_⟩
      · simp [resToks, resToks1, toks1, tokL, leaves, liveOuts, isBad, S.wrT, hR]
      · simp [resBoxes, boxesL]
      · intro h
        cases h
      · simp
      · simp [outsOk, isBad]
      · simp [boxOuts]
      · simp [closeR, closeB, onL1, closeL, hR, Lib.compact, Lib.compactUpTo]
    · obtain ⟨b, o, c, cs, ty, hρ, hBb, hb, hn, hm, hcs, hc⟩ := own_ints hown hne
      have hlt : b < W.heap.size := by
        rw [Array.getElem?_eq_some_iff] at hb
        exact hb.1
      have hH : Holds (Value.int .i64) W b o zs.toArray := by
        intro j hj
        have hj' : j < zs.length := by simpa using hj
        have h1 := hc j zs[j] (List.getElem?_eq_getElem hj')
        refine ⟨?_, ?_⟩
        · rw [getElem!_pos zs.toArray j hj]
          simp only [World.cell?, hb]
          simpa using h1
        · simp [World.frozen?, hb]
      rw [hρ]
      refine (hcall b o c W hH hn).mono ?_
      rintro e W' ⟨rfl, n, rfl⟩
      have hcl := compact_len zs
      obtain ⟨k1, k2, k3⟩ := putRow_block (n := n) (o := o) (os := #[]) (ds := (Lib.compact zs ++ List.replicate (zs.length - (Lib.compact zs).length) 0).toArray) hb
      rw [grow_empty] at k1 k2 k3
      generalize hW' : putRow (Value.int .i64) (Sort.ahead W n) b o (Lib.compact zs ++ List.replicate (zs.length - (Lib.compact zs).length) 0).toArray = W' at k1 k2 k3
      have hos : W'.os = W.os ∧ W'.tape = W.tape ∧ W'.output = W.output := by subst hW'; exact ⟨rfl, rfl, rfl⟩
      have hωb := hω b hBb
      have hown' : OwnN W' M.F (fun x => x = b) 1 (.slice (some ⟨b, o, none⟩) (Lib.compact zs).length c) ((Lib.compact zs).map (V.int .i64)) := by
        refine ints_own k1 (by omega) hm (by rw [putCells_size]; exact hcs) fun j z hz => putCells_get (c := c) hcs (by simp; omega) ?_
        have hj : j < (Lib.compact zs).length := by
          rw [List.getElem?_eq_some_iff] at hz
          exact hz.1
        simpa [List.getElem?_append_left hj] using hz
      refine ⟨_, ⟨M.F, fun x => if x = b then some (.tok 1) else M.ω x, M.β, fun t => if t = 1 then .slice (some ⟨b, o, none⟩) (Lib.compact zs).length c else M.ρ t, M.σ, 2, M.nb⟩,
        ⟨(start [.inl 1 (zs.map (V.int .i64))] []).e, (start [.inl 1 (zs.map (V.int .i64))] []).B, fun x => if x = 1 then some ⟨1, (Lib.compact zs).map (V.int .i64), true⟩ else none, 2, (start [.inl 1 (zs.map (V.int .i64))] []).nb⟩, .own 1, rfl, ?_⟩
      refine ⟨⟨by simp, by simp⟩, ⟨rfl, hM.nb, fun x y hx => ?_, fun t r hr => ?_, fun x hx => ⟨?_, Nat.lt_of_lt_of_le (hM.frz x hx).2 k3⟩, fun x l hx => ?_, fun x t hx => ?_, fun x k hx => ?_⟩, ⟨hos.1, hos.2.1, hos.2.2, k3, fun x hx hω0 => k2 x hx (fun e => by subst e; rw [hωb] at hω0; cases hω0), fun x l hx => .inl ?_, fun x hx => .inl hx, fun _ h => h, ?_, Nat.le_refl _, fun t ht => ?_, fun _ _ => rfl⟩, ?_, ?_, ?_, ?_, ?_, ?_, ?_⟩
      · simp only [hB] at hx
        cases hx
      · simp only at hr
        split at hr
        · rename_i h0
          subst h0
          cases hr
          refine ⟨by simp, .inl ⟨rfl, fun x => x = b, by simpa using hown', ?_, ?_⟩⟩
          · rintro x rfl
            simp
          · intro j i z ys hl
            obtain ⟨_, _, _, e⟩ := leafAt_ints hl
            cases e
        · cases hr
      · have h1 := (hM.frz x hx).1
        have hxb : x ≠ b := fun e => by subst e; rw [hωb] at h1; cases h1
        simp [hxb, h1]
      · by_cases e : x = b
        · subst e
          exact Nat.lt_of_lt_of_le hlt k3
        · simp only [e, if_false] at hx
          exact Nat.lt_of_lt_of_le (hM.lt x l hx) k3
      · by_cases e : x = b
        · simp only [e, if_true, Option.some.injEq, Root.tok.injEq] at hx
          simp [← hx]
        · simp only [e, if_false] at hx
          have := hM.tok x t hx
          simp only
          omega
      · by_cases e : x = b
        · simp [e] at hx
        · simp only [e, if_false] at hx
          exact hM.bx x k hx
      · by_cases e : x = b
        · subst e
          rw [hωb]
          simp
        · simp only [e, if_false] at hx
          simp [hx]
      · simp only
        omega
      · have : t ≠ 1 := by omega
        simp [this]
      · simp [resToks, resToks1, toks1, tokL, liveOuts, isBad, S.wrT]
      · simp [resBoxes, boxesL]
      · intro h
        cases h
      · simp
      · simp [outsOk, isBad]
      · simp [boxOuts]
      · simp [closeR, closeB, onL1, closeL]
  · cases h
theorem sort_all {P : Program} {f : FuncId} {zs : List Int} (hlen : zs.length < 4611686018427387904)
    (has : ∃ fn, P.funcs[f]? = some fn ∧ (fn.name == "runtime.NumGoroutine") = false ∧ fn.body.isNone = false)
    (hcall : ∀ (blk off cap : Nat) (w : World), Holds (Value.int .i64) w blk off zs.toArray → blk < w.heap.size → Calls P f #[.slice (some ⟨blk, off, none⟩) zs.length cap] w fun e w' =>
      e = .returned (.tuple #[]) ∧ ∃ n os, w' = grow (putRow (Value.int .i64) (Sort.ahead w n) blk off (sortI zs).toArray) os)
    (hnil : ∀ (a : Option Addr) (cap : Nat) (w : World), Calls P f #[.slice a 0 cap] w fun e w' => e = .returned (.tuple #[]) ∧ w' = w) :
    GenOK P f [.inl 1 (zs.map (V.int .i64))] [] ⟨false, .tup [], [.inl 1 ((sortI zs).map (V.int .i64))], []⟩ := by
  by_cases hne : zs = []
  · subst hne
    refine ⟨has, fun M W vs hM hv => ?_⟩
    have hR := start_ints []
    obtain ⟨n1, n2, hB⟩ := ints_nt []
    obtain rfl := ints_arg hv
    obtain ⟨_, hrow⟩ := hM.row 0 ⟨1, ([] : List Int).map (V.int .i64), true⟩ (by rw [hR]; simp)
    rcases hrow with ⟨_, B, hown, hω, _⟩ | ⟨h, _⟩
    · have hv0 : ∃ a cap, M.ρ 0 = .slice a 0 cap := by
        generalize M.ρ 0 = q at hown
        generalize hx : ([] : List Int).map (V.int .i64) = xs at hown
        cases hown with
        | nil => exact ⟨_, _, rfl⟩
        | row => subst hx; exact ⟨_, _, rfl⟩
      obtain ⟨a, cap, hv0⟩ := hv0
      rw [hv0]
      refine (hnil a cap W).mono ?_
      rintro e W' ⟨rfl, rfl⟩
      have hs : sortI [] = [] := by simp [sortI]
      refine ⟨_, M, start [.inl 1 (([] : List Int).map (V.int .i64))] [], .tup [], rfl, ?_⟩
      refine ⟨⟨[], rfl, trivial⟩, hM, .refl _ _, ?_, ?_, ?_, ?_, ?_, ?_, ?_⟩
      · simp [resToks, liveOuts, isBad]
      · simp [resBoxes]
      · intro _
        simp [noL, noLs, hs]
      · simp
      · simp [outsOk, S.outR, hR, hs]
      · simp [boxOuts]
      · simp [closeR]
    · cases h
  · exact sort_gen hne hlen has hcall
end Go.TM
end
