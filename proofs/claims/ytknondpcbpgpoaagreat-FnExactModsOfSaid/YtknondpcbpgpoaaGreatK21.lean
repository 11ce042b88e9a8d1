/- A part of the proof: ZMark, ZseSz, ZmSz, JC, ZseTo, JH, JD, JI, D7, ZsL, ZHeld, ZsH, ZmTo, ZEq, ZseEq, ZmEq, ZseMark, ZmMark, HH0, ZsM, ZmM, JJ, B1. -/
import Derived.Test.YtknondpcbpgpoaaGreatK20
set_option linter.unusedVariables false
set_option linter.unusedSimpArgs false
section
set_option maxHeartbeats 2000000
namespace Go.TM.Tryz
open Go Go.TM Go.Proofs
theorem f88_ok (k : Int) (h : k ≤ 4611686018427387904) : FunOK Tryz.prog 88 [.int .i64 k] false (.str (mtext k)) := by
  refine fun_ok (mkE_ok zmix (cl := []) (gl := []) [] trivial trivial) Tryz.func88 (by kernel_rfl) ?_
  refine FunW_run _ _ rfl rfl ?_
  by_cases h0 : k ≤ 0
  · simp [h0, mtext]
  · simp [h0]
    refine lp_ind (fun m t => ∃ (n : Nat) (out : ByteArray), m = n ∧ t.e 0 = .int .i64 n ∧ t.e 3 = .str out ∧ mdig n ++ out = mdig k.toNat ∧ out.size + n ≤ k) k.toNat ⟨k.toNat, ⟨#[]⟩, rfl, ?_⟩ ?_
    · have e : ((k.toNat : Nat) : Int) = k := by omega
      simp [e, ba_append_nil, ba_nil_size]
    rintro c' L hL m t ih ⟨n, out, rfl, h1, h3, hout, hsz⟩
    by_cases hn : m = 0
    · subst hn
      have hb : 1 + out.size ≤ 9223372036854775807 := by omega
      rw [mdig_zero, ba_nil_append] at hout
      subst hout
      simp [h1, h3, hL, ba_one_size, hb, mtext, h0]
    · have hn' : 0 < m := by omega
      have ht : Int.tdiv (m : Int) 10 = ((m / 10 : Nat) : Int) := by
        rw [Int.tdiv_eq_ediv_of_nonneg (by omega)]
        omega
      have hb : 1 + out.size ≤ 9223372036854775807 := by omega
      have hw : IntKind.i64.wrap ((m : Int) / 10) = (m : Int) / 10 := wrap64 (by omega) (by omega)
      simp [h1, h3, hL, hn', ht, ba_one_size, hb]
      refine ih (m / 10) _ (by omega) ⟨m / 10, _, rfl, by simp [hw], by simp; rfl, ?_, ?_⟩
      · rw [← ByteArray.append_assoc, ← mdig_succ hn, hout]
      · rw [ByteArray.size_append, ba_one_size]
        omega
noncomputable def c88 := ctr (fun k : Int => k ≤ 4611686018427387904) (fun k => [.int .i64 k]) (fun k => (false, .str (mtext k)))
theorem c88_eq (k : Int) (h : k ≤ 4611686018427387904) : c88 [.int .i64 k] = some (false, .str (mtext k)) := ctr_eq (by simp) k h rfl
theorem c88_ok : COK Tryz.prog (88, c88) := ctr_ok fun k h => f88_ok k h
theorem f50_ok (xs : List ByteArray) (k : Int) (h0 : 0 ≤ k) (h1 : k + cnt cStr xs ≤ 4611686018427387904) (h2 : xs.length ≤ 4611686018427387904) : GenOK Tryz.prog 50 [.inl 1 (xs.map V.str), .int .i64 k] [] ⟨false, .int .i64 (k + cnt cStr xs), [.inl 1 ((mkL mkStr cStr k xs).map V.str)], []⟩ := by
  refine fun_okG (mkE_ok zmix (cl := [(88, c88)]) (gl := []) [] c88_ok trivial) Tryz.func50 (by kernel_rfl) ?_
  refine FunG_run _ _ rfl rfl ?_
  have hlen := h2
  simp
  refine lp_list xs (fun i t => t.e 0 = .own 0 ∧ t.e 1 = .int .i64 (k + pre cStr xs i) ∧ t.e 5 = .int .i64 i ∧ t.nb = 0 ∧ 1 ≤ t.nt ∧ t.R 0 = some ⟨1, (mpart mkStr cStr k xs i).map V.str, true⟩) ?_ ?_ ?_
  · simp [pre_zero, mpart_zero]
  · rintro c' L hL i t x hx hi ih ⟨g0, g1, g5, gnb, gnt, gR⟩
    have hw := wrI (i := i) (by omega)
    have hp := pre_succ cStr hx
    have hp2 := pre_le cStr xs (i + 1)
    have hc : cStr x = 1 := rfl
    have hcnt : (xs.map cStr).sum = cnt cStr xs := rfl
    have e0 := c88_eq (k + (pre cStr xs i : Nat)) (by omega)
    have w0 : IntKind.i64.wrap (k + (pre cStr xs i : Nat) + 1) = k + (pre cStr xs i : Nat) + 1 := wrap64 (by omega) (by omega)
    have hx' := mpart_get (f := mkStr) (c := cStr) (k := k) hx
    simp [-getElem?_pos, gcz, gcs, g0, g1, g5, gnb, gR, hL, hx', hi, e0, w0]
    refine ih _ ?_
    simp [-getElem?_pos, gcz, gcs, g0, g1, g5, gnb, gR, hL, hx', hi, e0, w0, hp, hc, hw]
    first
      | exact ⟨by omega, by omega, mpart_setv hx rfl⟩
      | exact ⟨by omega, mpart_setv hx rfl⟩
      | exact mpart_setv hx rfl
  · rintro c' t ⟨g0, g1, g5, gnb, gnt, gR⟩
    simp only [pre_all] at g1
    simp [g0, g1, g5, gnb, gR, mpart_all, cnt]
noncomputable def c50 := ctrG (fun a : List ByteArray × Int => 0 ≤ a.2 ∧ a.2 + cnt cStr a.1 ≤ 4611686018427387904 ∧ (a.1.length ≤ 4611686018427387904)) (fun a => ([.inl 1 (a.1.map V.str), .int .i64 a.2], [])) (fun a => ⟨false, .int .i64 (a.2 + cnt cStr a.1), [.inl 1 ((mkL mkStr cStr a.2 a.1).map V.str)], []⟩)
theorem c50_eq (xs : List ByteArray) (k : Int) (h0 : 0 ≤ k) (h1 : k + cnt cStr xs ≤ 4611686018427387904) (h2 : xs.length ≤ 4611686018427387904) : c50 [.inl 1 (xs.map V.str), .int .i64 k] [] = some ⟨false, .int .i64 (k + cnt cStr xs), [.inl 1 ((mkL mkStr cStr k xs).map V.str)], []⟩ := ctrG_eq (injG str_inj _) (xs, k) ⟨h0, h1, h2⟩ rfl
theorem c50_ok : GOK Tryz.prog (50, [true], c50) := ctrG_ok fun a h => f50_ok a.1 a.2 h.1 h.2.1 h.2.2
theorem f136_ok (xs : List Fld) (k : Int) (h0 : 0 ≤ k) (h1 : k + cnt cFld xs ≤ 4611686018427387904) (h2 : xs.length ≤ 4611686018427387904) : GenOK Tryz.prog 136 [.inl 3 (xs.map Fld.v), .int .i64 k] [] ⟨false, .int .i64 (k + cnt cFld xs), [.inl 3 ((mkL mkFld cFld k xs).map Fld.v)], []⟩ := by
  refine fun_okG (mkE_ok zmix (cl := [(88, c88)]) (gl := []) [] c88_ok trivial) Tryz.func136 (by kernel_rfl) ?_
  refine FunG_run _ _ rfl rfl ?_
  have hlen := h2
  simp
  refine lp_list xs (fun i t => t.e 0 = .own 0 ∧ t.e 1 = .int .i64 (k + pre cFld xs i) ∧ t.e 5 = .int .i64 i ∧ t.nb = 0 ∧ 1 ≤ t.nt ∧ t.R 0 = some ⟨3, (mpart mkFld cFld k xs i).map Fld.v, true⟩) ?_ ?_ ?_
  · simp [pre_zero, mpart_zero]
  · rintro c' L hL i t x hx hi ih ⟨g0, g1, g5, gnb, gnt, gR⟩
    have hw := wrI (i := i) (by omega)
    have hp := pre_succ cFld hx
    have hp2 := pre_le cFld xs (i + 1)
    have hc : cFld x = 3 := rfl
    have hcnt : (xs.map cFld).sum = cnt cFld xs := rfl
    have e0 := c88_eq (k + (pre cFld xs i : Nat)) (by omega)
    have w0 : IntKind.i64.wrap (k + (pre cFld xs i : Nat) + 1) = k + (pre cFld xs i : Nat) + 1 := wrap64 (by omega) (by omega)
    have w1 : IntKind.i64.wrap (k + (pre cFld xs i : Nat) + 1 + 1) = k + (pre cFld xs i : Nat) + 1 + 1 := wrap64 (by omega) (by omega)
    have w2 : IntKind.i64.wrap (k + (pre cFld xs i : Nat) + 1 + 1 + 1) = k + (pre cFld xs i : Nat) + 1 + 1 + 1 := wrap64 (by omega) (by omega)
    have hx' := mpart_get (f := mkFld) (c := cFld) (k := k) hx
    simp [-getElem?_pos, gcz, gcs, g0, g1, g5, gnb, gR, hL, hx', hi, e0, w0, w1, w2]
    refine ih _ ?_
    simp [-getElem?_pos, gcz, gcs, g0, g1, g5, gnb, gR, hL, hx', hi, e0, w0, w1, w2, hp, hc, hw]
    first
      | exact ⟨by omega, by omega, mpart_setv hx rfl⟩
      | exact ⟨by omega, mpart_setv hx rfl⟩
      | exact mpart_setv hx rfl
  · rintro c' t ⟨g0, g1, g5, gnb, gnt, gR⟩
    simp only [pre_all] at g1
    simp [g0, g1, g5, gnb, gR, mpart_all, cnt]
noncomputable def c136 := ctrG (fun a : List Fld × Int => 0 ≤ a.2 ∧ a.2 + cnt cFld a.1 ≤ 4611686018427387904 ∧ (a.1.length ≤ 4611686018427387904)) (fun a => ([.inl 3 (a.1.map Fld.v), .int .i64 a.2], [])) (fun a => ⟨false, .int .i64 (a.2 + cnt cFld a.1), [.inl 3 ((mkL mkFld cFld a.2 a.1).map Fld.v)], []⟩)
theorem c136_eq (xs : List Fld) (k : Int) (h0 : 0 ≤ k) (h1 : k + cnt cFld xs ≤ 4611686018427387904) (h2 : xs.length ≤ 4611686018427387904) : c136 [.inl 3 (xs.map Fld.v), .int .i64 k] [] = some ⟨false, .int .i64 (k + cnt cFld xs), [.inl 3 ((mkL mkFld cFld k xs).map Fld.v)], []⟩ := ctrG_eq (injG Fld.v_inj _) (xs, k) ⟨h0, h1, h2⟩ rfl
theorem c136_ok : GOK Tryz.prog (136, [true], c136) := ctrG_ok fun a h => f136_ok a.1 a.2 h.1 h.2.1 h.2.2
theorem f137_ok (xs : List Par) (k : Int) (h0 : 0 ≤ k) (h1 : k + cnt cPar xs ≤ 4611686018427387904) (h2 : xs.length ≤ 4611686018427387904) : GenOK Tryz.prog 137 [.inl 3 (xs.map Par.v), .int .i64 k] [] ⟨false, .int .i64 (k + cnt cPar xs), [.inl 3 ((mkL mkPar cPar k xs).map Par.v)], []⟩ := by
  refine fun_okG (mkE_ok zmix (cl := [(88, c88)]) (gl := []) [] c88_ok trivial) Tryz.func137 (by kernel_rfl) ?_
  refine FunG_run _ _ rfl rfl ?_
  have hlen := h2
  simp
  refine lp_list xs (fun i t => t.e 0 = .own 0 ∧ t.e 1 = .int .i64 (k + pre cPar xs i) ∧ t.e 5 = .int .i64 i ∧ t.nb = 0 ∧ 1 ≤ t.nt ∧ t.R 0 = some ⟨3, (mpart mkPar cPar k xs i).map Par.v, true⟩) ?_ ?_ ?_
  · simp [pre_zero, mpart_zero]
  · rintro c' L hL i t x hx hi ih ⟨g0, g1, g5, gnb, gnt, gR⟩
    have hw := wrI (i := i) (by omega)
    have hp := pre_succ cPar hx
    have hp2 := pre_le cPar xs (i + 1)
    have hc : cPar x = 3 := rfl
    have hcnt : (xs.map cPar).sum = cnt cPar xs := rfl
    have e0 := c88_eq (k + (pre cPar xs i : Nat)) (by omega)
    have w0 : IntKind.i64.wrap (k + (pre cPar xs i : Nat) + 1) = k + (pre cPar xs i : Nat) + 1 := wrap64 (by omega) (by omega)
    have w1 : IntKind.i64.wrap (k + (pre cPar xs i : Nat) + 1 + 1) = k + (pre cPar xs i : Nat) + 1 + 1 := wrap64 (by omega) (by omega)
    have w2 : IntKind.i64.wrap (k + (pre cPar xs i : Nat) + 1 + 1 + 1) = k + (pre cPar xs i : Nat) + 1 + 1 + 1 := wrap64 (by omega) (by omega)
    have hx' := mpart_get (f := mkPar) (c := cPar) (k := k) hx
    simp [-getElem?_pos, gcz, gcs, g0, g1, g5, gnb, gR, hL, hx', hi, e0, w0, w1, w2]
    refine ih _ ?_
    simp [-getElem?_pos, gcz, gcs, g0, g1, g5, gnb, gR, hL, hx', hi, e0, w0, w1, w2, hp, hc, hw]
    first
      | exact ⟨by omega, by omega, mpart_setv hx rfl⟩
      | exact ⟨by omega, mpart_setv hx rfl⟩
      | exact mpart_setv hx rfl
  · rintro c' t ⟨g0, g1, g5, gnb, gnt, gR⟩
    simp only [pre_all] at g1
    simp [g0, g1, g5, gnb, gR, mpart_all, cnt]
noncomputable def c137 := ctrG (fun a : List Par × Int => 0 ≤ a.2 ∧ a.2 + cnt cPar a.1 ≤ 4611686018427387904 ∧ (a.1.length ≤ 4611686018427387904)) (fun a => ([.inl 3 (a.1.map Par.v), .int .i64 a.2], [])) (fun a => ⟨false, .int .i64 (a.2 + cnt cPar a.1), [.inl 3 ((mkL mkPar cPar a.2 a.1).map Par.v)], []⟩)
theorem c137_eq (xs : List Par) (k : Int) (h0 : 0 ≤ k) (h1 : k + cnt cPar xs ≤ 4611686018427387904) (h2 : xs.length ≤ 4611686018427387904) : c137 [.inl 3 (xs.map Par.v), .int .i64 k] [] = some ⟨false, .int .i64 (k + cnt cPar xs), [.inl 3 ((mkL mkPar cPar k xs).map Par.v)], []⟩ := ctrG_eq (injG Par.v_inj _) (xs, k) ⟨h0, h1, h2⟩ rfl
theorem c137_ok : GOK Tryz.prog (137, [true], c137) := ctrG_ok fun a h => f137_ok a.1 a.2 h.1 h.2.1 h.2.2
theorem f45_ok (xs : List Use) (k : Int) (h0 : 0 ≤ k) (h1 : k + cnt cUse xs ≤ 4611686018427387904) (h2 : xs.length ≤ 4611686018427387904) : GenOK Tryz.prog 45 [.inl 2 (xs.map Use.v), .int .i64 k] [] ⟨false, .int .i64 (k + cnt cUse xs), [.inl 2 ((mkL mkUse cUse k xs).map Use.v)], []⟩ := by
  refine fun_okG (mkE_ok zmix (cl := [(88, c88)]) (gl := []) [] c88_ok trivial) Tryz.func45 (by kernel_rfl) ?_
  refine FunG_run _ _ rfl rfl ?_
  have hlen := h2
  simp
  refine lp_list xs (fun i t => t.e 0 = .own 0 ∧ t.e 1 = .int .i64 (k + pre cUse xs i) ∧ t.e 5 = .int .i64 i ∧ t.nb = 0 ∧ 1 ≤ t.nt ∧ t.R 0 = some ⟨2, (mpart mkUse cUse k xs i).map Use.v, true⟩) ?_ ?_ ?_
  · simp [pre_zero, mpart_zero]
  · rintro c' L hL i t x hx hi ih ⟨g0, g1, g5, gnb, gnt, gR⟩
    have hw := wrI (i := i) (by omega)
    have hp := pre_succ cUse hx
    have hp2 := pre_le cUse xs (i + 1)
    have hc : cUse x = 2 := rfl
    have hcnt : (xs.map cUse).sum = cnt cUse xs := rfl
    have e0 := c88_eq (k + (pre cUse xs i : Nat)) (by omega)
    have w0 : IntKind.i64.wrap (k + (pre cUse xs i : Nat) + 1) = k + (pre cUse xs i : Nat) + 1 := wrap64 (by omega) (by omega)
    have e1 := c88_eq (k + (pre cUse xs i : Nat) + 1) (by omega)
    have w1 : IntKind.i64.wrap (k + (pre cUse xs i : Nat) + 1 + 1) = k + (pre cUse xs i : Nat) + 1 + 1 := wrap64 (by omega) (by omega)
    have hx' := mpart_get (f := mkUse) (c := cUse) (k := k) hx
    simp [-getElem?_pos, gcz, gcs, g0, g1, g5, gnb, gR, hL, hx', hi, e0, w0, e1, w1]
    refine ih _ ?_
    simp [-getElem?_pos, gcz, gcs, g0, g1, g5, gnb, gR, hL, hx', hi, e0, w0, e1, w1, hp, hc, hw]
    first
      | exact ⟨by omega, by omega, mpart_setv hx rfl⟩
      | exact ⟨by omega, mpart_setv hx rfl⟩
      | exact mpart_setv hx rfl
  · rintro c' t ⟨g0, g1, g5, gnb, gnt, gR⟩
    simp only [pre_all] at g1
    simp [g0, g1, g5, gnb, gR, mpart_all, cnt]
noncomputable def c45 := ctrG (fun a : List Use × Int => 0 ≤ a.2 ∧ a.2 + cnt cUse a.1 ≤ 4611686018427387904 ∧ (a.1.length ≤ 4611686018427387904)) (fun a => ([.inl 2 (a.1.map Use.v), .int .i64 a.2], [])) (fun a => ⟨false, .int .i64 (a.2 + cnt cUse a.1), [.inl 2 ((mkL mkUse cUse a.2 a.1).map Use.v)], []⟩)
theorem c45_eq (xs : List Use) (k : Int) (h0 : 0 ≤ k) (h1 : k + cnt cUse xs ≤ 4611686018427387904) (h2 : xs.length ≤ 4611686018427387904) : c45 [.inl 2 (xs.map Use.v), .int .i64 k] [] = some ⟨false, .int .i64 (k + cnt cUse xs), [.inl 2 ((mkL mkUse cUse k xs).map Use.v)], []⟩ := ctrG_eq (injG Use.v_inj _) (xs, k) ⟨h0, h1, h2⟩ rfl
theorem c45_ok : GOK Tryz.prog (45, [true], c45) := ctrG_ok fun a h => f45_ok a.1 a.2 h.1 h.2.1 h.2.2
theorem f70_ok (xs : List Ty) (k : Int) (h0 : 0 ≤ k) (h1 : k + cnt cTy xs ≤ 4611686018427387904) (h2 : xs.length ≤ 4611686018427387904 ∧ ∀ x ∈ xs, x.fields.length ≤ 4611686018427387904) : GenOK Tryz.prog 70 [.inl 6 (xs.map Ty.o), .int .i64 k] [] ⟨false, .int .i64 (k + cnt cTy xs), [.inl 6 ((mkL mkTy cTy k xs).map Ty.o)], []⟩ := by
  refine fun_okG (mkE_ok zmix (cl := [(88, c88)]) (gl := [(136, [true], c136)]) [] c88_ok c136_ok) Tryz.func70 (by kernel_rfl) ?_
  refine FunG_run _ _ rfl rfl ?_
  have hlen := h2.1
  simp
  refine lp_list xs (fun i t => t.e 0 = .own 0 ∧ t.e 1 = .int .i64 (k + pre cTy xs i) ∧ t.e 5 = .int .i64 i ∧ t.nb = 0 ∧ 1 ≤ t.nt ∧ t.R 0 = some ⟨6, (mpart mkTy cTy k xs i).map Ty.o, true⟩) ?_ ?_ ?_
  · simp [pre_zero, mpart_zero]
  · rintro c' L hL i t x hx hi ih ⟨g0, g1, g5, gnb, gnt, gR⟩
    have hw := wrI (i := i) (by omega)
    have hp := pre_succ cTy hx
    have hp2 := pre_le cTy xs (i + 1)
    have hc : cTy x = 5+cnt cFld x.fields := rfl
    have hcnt : (xs.map cTy).sum = cnt cTy xs := rfl
    have hlen3 : x.fields.length ≤ 4611686018427387904 := h2.2 x (List.mem_of_getElem? hx)
    have w0 : IntKind.i64.wrap (k + (pre cTy xs i : Nat) + 1) = k + (pre cTy xs i : Nat) + 1 := wrap64 (by omega) (by omega)
    have w1 : IntKind.i64.wrap (k + (pre cTy xs i : Nat) + 1 + 1) = k + (pre cTy xs i : Nat) + 1 + 1 := wrap64 (by omega) (by omega)
    have w2 : IntKind.i64.wrap (k + (pre cTy xs i : Nat) + 1 + 1 + 1) = k + (pre cTy xs i : Nat) + 1 + 1 + 1 := wrap64 (by omega) (by omega)
    have e3 := c136_eq x.fields (k + (pre cTy xs i : Nat) + 1 + 1 + 1) (by omega) (by omega) hlen3
    have e4 := c88_eq (k + (pre cTy xs i : Nat) + 1 + 1 + 1 + (cnt cFld x.fields : Nat)) (by omega)
    have w4 : IntKind.i64.wrap (k + (pre cTy xs i : Nat) + 1 + 1 + 1 + (cnt cFld x.fields : Nat) + 1) = k + (pre cTy xs i : Nat) + 1 + 1 + 1 + (cnt cFld x.fields : Nat) + 1 := wrap64 (by omega) (by omega)
    have e5 := c88_eq (k + (pre cTy xs i : Nat) + 1 + 1 + 1 + (cnt cFld x.fields : Nat) + 1) (by omega)
    have w5 : IntKind.i64.wrap (k + (pre cTy xs i : Nat) + 1 + 1 + 1 + (cnt cFld x.fields : Nat) + 1 + 1) = k + (pre cTy xs i : Nat) + 1 + 1 + 1 + (cnt cFld x.fields : Nat) + 1 + 1 := wrap64 (by omega) (by omega)
    have hx' := mpart_get (f := mkTy) (c := cTy) (k := k) hx
    simp [-getElem?_pos, gcz, gcs, g0, g1, g5, gnb, gR, hL, hx', hi, w0, w1, w2, e3, e4, w4, e5, w5]
    refine ih _ ?_
    simp [-getElem?_pos, gcz, gcs, g0, g1, g5, gnb, gR, hL, hx', hi, w0, w1, w2, e3, e4, w4, e5, w5, hp, hc, hw]
    first
      | exact ⟨by omega, by omega, mpart_setv hx rfl⟩
      | exact ⟨by omega, mpart_setv hx rfl⟩
      | exact mpart_setv hx rfl
  · rintro c' t ⟨g0, g1, g5, gnb, gnt, gR⟩
    simp only [pre_all] at g1
    simp [g0, g1, g5, gnb, gR, mpart_all, cnt]
noncomputable def c70 := ctrG (fun a : List Ty × Int => 0 ≤ a.2 ∧ a.2 + cnt cTy a.1 ≤ 4611686018427387904 ∧ (a.1.length ≤ 4611686018427387904 ∧ ∀ x ∈ a.1, x.fields.length ≤ 4611686018427387904)) (fun a => ([.inl 6 (a.1.map Ty.o), .int .i64 a.2], [])) (fun a => ⟨false, .int .i64 (a.2 + cnt cTy a.1), [.inl 6 ((mkL mkTy cTy a.2 a.1).map Ty.o)], []⟩)
theorem c70_eq (xs : List Ty) (k : Int) (h0 : 0 ≤ k) (h1 : k + cnt cTy xs ≤ 4611686018427387904) (h2 : xs.length ≤ 4611686018427387904 ∧ ∀ x ∈ xs, x.fields.length ≤ 4611686018427387904) : c70 [.inl 6 (xs.map Ty.o), .int .i64 k] [] = some ⟨false, .int .i64 (k + cnt cTy xs), [.inl 6 ((mkL mkTy cTy k xs).map Ty.o)], []⟩ := ctrG_eq (injG Ty.o_inj _) (xs, k) ⟨h0, h1, h2⟩ rfl
theorem c70_ok : GOK Tryz.prog (70, [true], c70) := ctrG_ok fun a h => f70_ok a.1 a.2 h.1 h.2.1 h.2.2
theorem f71_ok (xs : List Obj) (k : Int) (h0 : 0 ≤ k) (h1 : k + cnt cObj xs ≤ 4611686018427387904) (h2 : xs.length ≤ 4611686018427387904 ∧ ∀ x ∈ xs, x.params.length ≤ 4611686018427387904) : GenOK Tryz.prog 71 [.inl 6 (xs.map Obj.o), .int .i64 k] [] ⟨false, .int .i64 (k + cnt cObj xs), [.inl 6 ((mkL mkObj cObj k xs).map Obj.o)], []⟩ := by
  refine fun_okG (mkE_ok zmix (cl := [(88, c88)]) (gl := [(137, [true], c137)]) [] c88_ok c137_ok) Tryz.func71 (by kernel_rfl) ?_
  refine FunG_run _ _ rfl rfl ?_
  have hlen := h2.1
  simp
  refine lp_list xs (fun i t => t.e 0 = .own 0 ∧ t.e 1 = .int .i64 (k + pre cObj xs i) ∧ t.e 5 = .int .i64 i ∧ t.nb = 0 ∧ 1 ≤ t.nt ∧ t.R 0 = some ⟨6, (mpart mkObj cObj k xs i).map Obj.o, true⟩) ?_ ?_ ?_
  · simp [pre_zero, mpart_zero]
  · rintro c' L hL i t x hx hi ih ⟨g0, g1, g5, gnb, gnt, gR⟩
    have hw := wrI (i := i) (by omega)
    have hp := pre_succ cObj hx
    have hp2 := pre_le cObj xs (i + 1)
    have hc : cObj x = 5+cnt cPar x.params := rfl
    have hcnt : (xs.map cObj).sum = cnt cObj xs := rfl
    have hlen5 : x.params.length ≤ 4611686018427387904 := h2.2 x (List.mem_of_getElem? hx)
    have e0 := c88_eq (k + (pre cObj xs i : Nat)) (by omega)
    have w0 : IntKind.i64.wrap (k + (pre cObj xs i : Nat) + 1) = k + (pre cObj xs i : Nat) + 1 := wrap64 (by omega) (by omega)
    have w1 : IntKind.i64.wrap (k + (pre cObj xs i : Nat) + 1 + 1) = k + (pre cObj xs i : Nat) + 1 + 1 := wrap64 (by omega) (by omega)
    have w2 : IntKind.i64.wrap (k + (pre cObj xs i : Nat) + 1 + 1 + 1) = k + (pre cObj xs i : Nat) + 1 + 1 + 1 := wrap64 (by omega) (by omega)
    have w3 : IntKind.i64.wrap (k + (pre cObj xs i : Nat) + 1 + 1 + 1 + 1) = k + (pre cObj xs i : Nat) + 1 + 1 + 1 + 1 := wrap64 (by omega) (by omega)
    have w4 : IntKind.i64.wrap (k + (pre cObj xs i : Nat) + 1 + 1 + 1 + 1 + 1) = k + (pre cObj xs i : Nat) + 1 + 1 + 1 + 1 + 1 := wrap64 (by omega) (by omega)
    have e5 := c137_eq x.params (k + (pre cObj xs i : Nat) + 1 + 1 + 1 + 1 + 1) (by omega) (by omega) hlen5
    have hx' := mpart_get (f := mkObj) (c := cObj) (k := k) hx
    simp [-getElem?_pos, gcz, gcs, g0, g1, g5, gnb, gR, hL, hx', hi, e0, w0, w1, w2, w3, w4, e5]
    refine ih _ ?_
    simp [-getElem?_pos, gcz, gcs, g0, g1, g5, gnb, gR, hL, hx', hi, e0, w0, w1, w2, w3, w4, e5, hp, hc, hw]
    first
      | exact ⟨by omega, by omega, mpart_setv hx rfl⟩
      | exact ⟨by omega, mpart_setv hx rfl⟩
      | exact mpart_setv hx rfl
  · rintro c' t ⟨g0, g1, g5, gnb, gnt, gR⟩
    simp only [pre_all] at g1
    simp [g0, g1, g5, gnb, gR, mpart_all, cnt]
noncomputable def c71 := ctrG (fun a : List Obj × Int => 0 ≤ a.2 ∧ a.2 + cnt cObj a.1 ≤ 4611686018427387904 ∧ (a.1.length ≤ 4611686018427387904 ∧ ∀ x ∈ a.1, x.params.length ≤ 4611686018427387904)) (fun a => ([.inl 6 (a.1.map Obj.o), .int .i64 a.2], [])) (fun a => ⟨false, .int .i64 (a.2 + cnt cObj a.1), [.inl 6 ((mkL mkObj cObj a.2 a.1).map Obj.o)], []⟩)
theorem c71_eq (xs : List Obj) (k : Int) (h0 : 0 ≤ k) (h1 : k + cnt cObj xs ≤ 4611686018427387904) (h2 : xs.length ≤ 4611686018427387904 ∧ ∀ x ∈ xs, x.params.length ≤ 4611686018427387904) : c71 [.inl 6 (xs.map Obj.o), .int .i64 k] [] = some ⟨false, .int .i64 (k + cnt cObj xs), [.inl 6 ((mkL mkObj cObj k xs).map Obj.o)], []⟩ := ctrG_eq (injG Obj.o_inj _) (xs, k) ⟨h0, h1, h2⟩ rfl
theorem c71_ok : GOK Tryz.prog (71, [true], c71) := ctrG_ok fun a h => f71_ok a.1 a.2 h.1 h.2.1 h.2.2
end Go.TM.Tryz
end
section
set_option maxHeartbeats 2000000
namespace Go.TM.Tryz
open Go Go.TM Go.Proofs
theorem f98_ok (x : Knw) (left : Int) (h : x.lim) (h0 : 0 ≤ left) (h1 : left ≤ 1048576) : FunOK Tryz.prog 98 [x.v, .int .i64 left] false (.int .i64 (szR x.sz left)) := by
  refine fun_ok (mkE_ok zmix (cl := []) (gl := []) [] trivial trivial) Tryz.func98 (by kernel_rfl) ?_
  refine FunW_run _ _ rfl rfl ?_
  simp only [Knw.lim, lim] at h
  obtain ⟨l0, l1⟩ := h
  have w0 : IntKind.i64.wrap (left - (x.mod.size : Int)) = left - (x.mod.size : Nat) := wrap64 (by omega) (by omega)
  by_cases a0 : left < (x.mod.size : Nat)
  · have b0 : left - ((x.mod.size : Nat) : Int) < 0 := by omega
    have r : szR x.sz left = -1 := szR_lt (by simp only [Knw.sz]; omega)
    simp [w0, b0, r]
  have b0 : ¬ left - ((x.mod.size : Nat) : Int) < 0 := by omega
  have w1 : IntKind.i64.wrap (left - ((x.mod.size : Nat) : Int) - (x.name.size : Int)) = left - ((x.mod.size : Nat) : Int) - (x.name.size : Nat) := wrap64 (by omega) (by omega)
  by_cases a1 : left - ((x.mod.size : Nat) : Int) < (x.name.size : Nat)
  · have b1 : left - ((x.mod.size : Nat) : Int) - ((x.name.size : Nat) : Int) < 0 := by omega
    have r : szR x.sz left = -1 := szR_lt (by simp only [Knw.sz]; omega)
    simp [w0, b0, w1, b1, r]
  have b1 : ¬ left - ((x.mod.size : Nat) : Int) - ((x.name.size : Nat) : Int) < 0 := by omega
  have r : szR x.sz left = left - ((x.mod.size : Nat) : Int) - ((x.name.size : Nat) : Int) := (szR_ge (by simp only [Knw.sz]; omega)).trans (by simp only [Knw.sz] <;> omega)
  simp [w0, b0, w1, b1, r]
noncomputable def c98 := ctr (fun a : Knw × Int => a.1.lim ∧ 0 ≤ a.2 ∧ a.2 ≤ 1048576) (fun a => [a.1.v, .int .i64 a.2]) (fun a => (false, .int .i64 (szR a.1.sz a.2)))
theorem c98_eq (x : Knw) (left : Int) (h : x.lim) (h0 : 0 ≤ left) (h1 : left ≤ 1048576) : c98 [x.v, .int .i64 left] = some (false, .int .i64 (szR x.sz left)) := ctr_eq (inj1 Knw.v_inj _) (x, left) ⟨h, h0, h1⟩ rfl
theorem c98_ok : COK Tryz.prog (98, c98) := ctr_ok fun a h => f98_ok a.1 a.2 h.1 h.2.1 h.2.2
theorem f40_ok (xs : List Knw) (left : Int) (hlim : limL Knw.lim xs) (hl0 : 0 ≤ left) (hl1 : left ≤ 1048576) : FunOK Tryz.prog 40 [.lst (xs.map Knw.v), .int .i64 left] false (.int .i64 (szR (szL Knw.sz xs) left)) := by
  refine fun_ok (mkE_ok zmix (cl := [(98, c98)]) (gl := []) [] c98_ok trivial) Tryz.func40 (by kernel_rfl) ?_
  refine FunW_run _ _ rfl rfl ?_
  have hlen := hlim.1
  simp only [lim] at hlen
  have hl := szL_len Knw.sz xs
  have w0 : IntKind.i64.wrap (left - (xs.length : Int)) = left - xs.length := wrap64 (by omega) (by omega)
  by_cases a0 : left < xs.length
  · have b0 : left - (xs.length : Int) < 0 := by omega
    have r : szR (szL Knw.sz xs) left = -1 := szR_lt (by omega)
    simp [w0, b0, r]
  have b0 : ¬ left - (xs.length : Int) < 0 := by omega
  simp [w0, b0]
  refine lp_list xs (fun i t => t.e 0 = .lst (xs.map Knw.v) ∧ t.e 5 = .int .i64 i ∧ t.e 1 = .int .i64 (left - xs.length - pre Knw.sz xs i) ∧ 0 ≤ left - xs.length - pre Knw.sz xs i) ?_ ?_ ?_
  · simp [pre_zero]
    omega
  · rintro c' L hL i t x hx hi ih ⟨h0, h5, h1', hge⟩
    have hw := wrI (i := i) (by omega)
    have hp := pre_succ Knw.sz hx
    have hp2 := pre_le Knw.sz xs (i + 1)
    have w := c98_eq x (left - xs.length - pre Knw.sz xs i) (hlim.2 x (List.mem_of_getElem? hx)) (by omega) (by omega)
    simp only [Knw.v] at w
    by_cases a : left - xs.length - pre Knw.sz xs i < (Knw.sz x : Nat)
    · rw [szR_lt a] at w
      have r : szR (szL Knw.sz xs) left = -1 := szR_lt (by simp only [szL]; omega)
      simp [-getElem?_pos, gcz, gcs, h0, h1', h5, hL, hx, hi, w, r]
    rw [szR_ge (Int.not_lt.1 a)] at w
    have b : ¬ left - xs.length - pre Knw.sz xs i - (Knw.sz x : Nat) < 0 := by omega
    simp [-getElem?_pos, gcz, gcs, h0, h1', h5, hL, hx, hi, w, b]
    refine ih _ ?_
    simp [-getElem?_pos, gcz, gcs, h0, h1', h5, hL, hx, hi, hw, hp]
    omega
  · rintro c' t ⟨h0, h5, h1', hge⟩
    rw [pre_all] at h1' hge
    have r : szR (szL Knw.sz xs) left = left - xs.length - ((xs.map Knw.sz).sum : Nat) := by rw [szR_ge (by simp only [szL]; omega)]; simp only [szL]; omega
    simp [h0, h5, h1', r]
noncomputable def c40 := ctr (fun a : List Knw × Int => limL Knw.lim a.1 ∧ 0 ≤ a.2 ∧ a.2 ≤ 1048576) (fun a => [.lst (a.1.map Knw.v), .int .i64 a.2]) (fun a => (false, .int .i64 (szR (szL Knw.sz a.1) a.2)))
theorem c40_eq (xs : List Knw) (left : Int) (h : limL Knw.lim xs) (h0 : 0 ≤ left) (h1 : left ≤ 1048576) : c40 [.lst (xs.map Knw.v), .int .i64 left] = some (false, .int .i64 (szR (szL Knw.sz xs) left)) := ctr_eq (injl1 Knw.v_inj _) (xs, left) ⟨h, h0, h1⟩ rfl
theorem c40_ok : COK Tryz.prog (40, c40) := ctr_ok fun a h => f40_ok a.1 a.2 h.1 h.2.1 h.2.2
end Go.TM.Tryz
end
section
set_option maxHeartbeats 4000000
namespace Go.TM.Tryz
open Go Go.TM Go.Proofs
theorem f80_ok (x : Mdl) (left : Int) (h : x.lim) (h0 : 0 ≤ left) (h1 : left ≤ 1048576) : FunOK Tryz.prog 80 [x.v, .int .i64 left] false (.int .i64 (szR x.sz left)) := by
  refine fun_ok (mkE_ok zmix (cl := [(12, c12), (40, c40)]) (gl := []) [] ⟨c12_ok, c40_ok⟩ trivial) Tryz.func80 (by kernel_rfl) ?_
  refine FunW_run _ _ rfl rfl ?_
  obtain ⟨l0, l1⟩ := h
  have w0 := c12_eq x.scope left l0 h0 h1
  simp only [Scp.v] at w0
  by_cases a0 : left < (x.scope.sz : Nat)
  · rw [szR_lt a0] at w0
    have r : szR x.sz left = -1 := szR_lt (by simp only [Mdl.sz]; omega)
    simp [w0, r]
  rw [szR_ge (Int.not_lt.1 a0)] at w0
  have b0 : ¬ left - ((x.scope.sz : Nat) : Int) < 0 := by omega
  have w1 := c40_eq x.seen (left - ((x.scope.sz : Nat) : Int)) l1 (by omega) (by omega)
  by_cases a1 : left - ((x.scope.sz : Nat) : Int) < (szL Knw.sz x.seen : Nat)
  · rw [szR_lt a1] at w1
    have r : szR x.sz left = -1 := szR_lt (by simp only [Mdl.sz]; omega)
    simp [w0, b0, w1, r]
  rw [szR_ge (Int.not_lt.1 a1)] at w1
  have b1 : ¬ left - ((x.scope.sz : Nat) : Int) - ((szL Knw.sz x.seen : Nat) : Int) < 0 := by omega
  have r : szR x.sz left = left - ((x.scope.sz : Nat) : Int) - ((szL Knw.sz x.seen : Nat) : Int) := (szR_ge (by simp only [Mdl.sz]; omega)).trans (by simp only [Mdl.sz] <;> omega)
  simp [w0, b0, w1, b1, r]
noncomputable def c80 := ctr (fun a : Mdl × Int => a.1.lim ∧ 0 ≤ a.2 ∧ a.2 ≤ 1048576) (fun a => [a.1.v, .int .i64 a.2]) (fun a => (false, .int .i64 (szR a.1.sz a.2)))
theorem c80_eq (x : Mdl) (left : Int) (h : x.lim) (h0 : 0 ≤ left) (h1 : left ≤ 1048576) : c80 [x.v, .int .i64 left] = some (false, .int .i64 (szR x.sz left)) := ctr_eq (inj1 Mdl.v_inj _) (x, left) ⟨h, h0, h1⟩ rfl
theorem c80_ok : COK Tryz.prog (80, c80) := ctr_ok fun a h => f80_ok a.1 a.2 h.1 h.2.1 h.2.2
theorem f21_ok (xs : List Mdl) (left : Int) (hlim : limL Mdl.lim xs) (hl0 : 0 ≤ left) (hl1 : left ≤ 1048576) : FunOK Tryz.prog 21 [.lst (xs.map Mdl.v), .int .i64 left] false (.int .i64 (szR (szL Mdl.sz xs) left)) := by
  refine fun_ok (mkE_ok zmix (cl := [(80, c80)]) (gl := []) [] c80_ok trivial) Tryz.func21 (by kernel_rfl) ?_
  refine FunW_run _ _ rfl rfl ?_
  have hlen := hlim.1
  simp only [lim] at hlen
  have hl := szL_len Mdl.sz xs
  have w0 : IntKind.i64.wrap (left - (xs.length : Int)) = left - xs.length := wrap64 (by omega) (by omega)
  by_cases a0 : left < xs.length
  · have b0 : left - (xs.length : Int) < 0 := by omega
    have r : szR (szL Mdl.sz xs) left = -1 := szR_lt (by omega)
    simp [w0, b0, r]
  have b0 : ¬ left - (xs.length : Int) < 0 := by omega
  simp [w0, b0]
  refine lp_list xs (fun i t => t.e 0 = .lst (xs.map Mdl.v) ∧ t.e 5 = .int .i64 i ∧ t.e 1 = .int .i64 (left - xs.length - pre Mdl.sz xs i) ∧ 0 ≤ left - xs.length - pre Mdl.sz xs i) ?_ ?_ ?_
  · simp [pre_zero]
    omega
  · rintro c' L hL i t x hx hi ih ⟨h0, h5, h1', hge⟩
    have hw := wrI (i := i) (by omega)
    have hp := pre_succ Mdl.sz hx
    have hp2 := pre_le Mdl.sz xs (i + 1)
    have w := c80_eq x (left - xs.length - pre Mdl.sz xs i) (hlim.2 x (List.mem_of_getElem? hx)) (by omega) (by omega)
    simp only [Mdl.v] at w
    by_cases a : left - xs.length - pre Mdl.sz xs i < (Mdl.sz x : Nat)
    · rw [szR_lt a] at w
      have r : szR (szL Mdl.sz xs) left = -1 := szR_lt (by simp only [szL]; omega)
      simp [-getElem?_pos, gcz, gcs, h0, h1', h5, hL, hx, hi, w, r]
    rw [szR_ge (Int.not_lt.1 a)] at w
    have b : ¬ left - xs.length - pre Mdl.sz xs i - (Mdl.sz x : Nat) < 0 := by omega
    simp [-getElem?_pos, gcz, gcs, h0, h1', h5, hL, hx, hi, w, b]
    refine ih _ ?_
    simp [-getElem?_pos, gcz, gcs, h0, h1', h5, hL, hx, hi, hw, hp]
    omega
  · rintro c' t ⟨h0, h5, h1', hge⟩
    rw [pre_all] at h1' hge
    have r : szR (szL Mdl.sz xs) left = left - xs.length - ((xs.map Mdl.sz).sum : Nat) := by rw [szR_ge (by simp only [szL]; omega)]; simp only [szL]; omega
    simp [h0, h5, h1', r]
noncomputable def c21 := ctr (fun a : List Mdl × Int => limL Mdl.lim a.1 ∧ 0 ≤ a.2 ∧ a.2 ≤ 1048576) (fun a => [.lst (a.1.map Mdl.v), .int .i64 a.2]) (fun a => (false, .int .i64 (szR (szL Mdl.sz a.1) a.2)))
theorem c21_eq (xs : List Mdl) (left : Int) (h : limL Mdl.lim xs) (h0 : 0 ≤ left) (h1 : left ≤ 1048576) : c21 [.lst (xs.map Mdl.v), .int .i64 left] = some (false, .int .i64 (szR (szL Mdl.sz xs) left)) := ctr_eq (injl1 Mdl.v_inj _) (xs, left) ⟨h, h0, h1⟩ rfl
theorem c21_ok : COK Tryz.prog (21, c21) := ctr_ok fun a h => f21_ok a.1 a.2 h.1 h.2.1 h.2.2
end Go.TM.Tryz
end
section
set_option maxHeartbeats 8000000
set_option maxRecDepth 20000
namespace Go.TM.Tryz
open Go Go.TM Go.Proofs
def mdsL (xs : List Mdl) : List Scp := xs.map Mdl.scope
@[simp] theorem mdsL_len (xs : List Mdl) : (mdsL xs).length = xs.length := List.length_map _
theorem mdsL_succ {xs : List Mdl} {i : Nat} {x : Mdl} (h : xs[i]? = some x) : mdsL (xs.take (i + 1)) = mdsL (xs.take i) ++ [x.scope] := by
  simp [mdsL, List.take_add_one, h]
@[simp] theorem mdsL_nil : mdsL [] = [] := rfl
theorem mdsL_lim {xs : List Mdl} (h : limL Mdl.lim xs) : limL Scp.lim (mdsL xs) := by
  refine ⟨by simpa using h.1, fun s hs => ?_⟩
  obtain ⟨x, hx, rfl⟩ := List.mem_map.1 hs
  exact (h.2 x hx).1
theorem scLen_of {s : Scp} (h : s.sz ≤ 1048576) : ScLen s := by
  simp only [Scp.sz] at h
  have h1 := szL_len ByteArray.size s.imports
  have h2 := szL_len Ty.sz s.types
  have h3 := szL_len Obj.sz s.objects
  have h4 := szL_len Use.sz s.uses
  refine ⟨by omega, ⟨by omega, fun t ht => ?_⟩, by omega, fun o ho => ?_, by omega⟩
  · have h5 := szL_mem (f := Ty.sz) ht
    have h6 := szL_len Fld.sz t.fields
    simp only [Ty.sz] at h5
    omega
  · have h5 := szL_mem (f := Obj.sz) ho
    have h6 := szL_len Par.sz o.params
    simp only [Obj.sz] at h5
    omega
noncomputable def c153 := ctr (fun s : Scp => ScLen s) (fun s => [s.v]) (fun s => (false, s.o))
theorem c153_eq (s : Scp) (h : ScLen s) : c153 [s.v] = some (false, s.o) := ctr_eq (inj0 Scp.v_inj _) s h rfl
theorem c153_ok : COK Tryz.prog (153, c153) := ctr_ok fun s h => f153_ok s h
structure MdsLen (xs : List Mdl) : Prop where
  len : xs.length ≤ 1048576
  sc : ∀ x ∈ xs, ScLen x.scope
  sn : ∀ x ∈ xs, x.seen.length ≤ 1048576
theorem mdsLen_of {xs : List Mdl} (h : szL Mdl.sz xs ≤ 1048576) : MdsLen xs := by
  have h1 := szL_len Mdl.sz xs
  refine ⟨by omega, fun x hx => scLen_of ?_, fun x hx => ?_⟩
  · have h2 := szL_mem (f := Mdl.sz) hx
    simp only [Mdl.sz] at h h2
    omega
  · have h2 := szL_mem (f := Mdl.sz) hx
    have h3 := szL_len Knw.sz x.seen
    simp only [Mdl.sz] at h h2
    omega
theorem f82_ok (xs : List Mdl) (h : MdsLen xs) : FunOK Tryz.prog 82 [.lst (xs.map Mdl.v)] false (.inl 5 ((mdsL xs).map Scp.o)) := by
  refine fun_ok (mkE_ok zmix (cl := [(153, c153)]) (gl := []) [] c153_ok trivial) Tryz.func82 (by kernel_rfl) ?_
  refine FunW_run _ _ rfl rfl ?_
  have hlen := h.len
  simp
  refine lp_list xs (fun i t => t.e 6 = .lst (xs.map Mdl.v) ∧ t.e 7 = .int .i64 xs.length ∧ t.e 8 = .int .i64 i ∧ ∃ p, t.e 3 = .own p ∧ p < t.nt ∧ t.R p = some ⟨5, (mdsL (xs.take i)).map Scp.o, true⟩) ?_ ?_ ?_
  · simp
  · rintro c' L hL i t x hx hi ih ⟨h6, h7, h8, p, h3, hp, hR⟩
    have hw := wrI (i := i) (by omega)
    have e153 := c153_eq x.scope (h.sc x (List.mem_of_getElem? hx))
    simp only [Scp.v, Scp.o] at e153
    have n1 : ¬ p = t.nt := by omega
    have n2 : ¬ p = t.nt + 1 := by omega
    have n3 : ¬ p = t.nt + 1 + 1 := by omega
    have n4 : ¬ p = t.nt + 1 + 1 + 1 := by omega
    have n5 : ¬ p = t.nt + 1 + 1 + 1 + 1 := by omega
    have n6 : ¬ p = t.nt + 1 + 1 + 1 + 1 + 1 := by omega
    have n7 : ¬ p = t.nt + 1 + 1 + 1 + 1 + 1 + 1 := by omega
    have n8 : ¬ p = t.nt + 1 + 1 + 1 + 1 + 1 + 1 + 1 := by omega
    have n9 : ¬ p = t.nt + 1 + 1 + 1 + 1 + 1 + 1 + 1 + 1 := by omega
    have n10 : ¬ p = t.nt + 1 + 1 + 1 + 1 + 1 + 1 + 1 + 1 + 1 := by omega
    have hmin : min i xs.length = i := by omega
    have hr := roomSc (n := i + 1) (by omega)
    simp [-getElem?_pos, gcz, gcs, h6, h7, h8, h3, hR, hL, hi, hx, e153, n1, n2, n3, n4, n5, n6, n7, n8, n9, n10, hr, hmin]
    refine ih _ ?_
    simp [h6, h7, h8, h3, hR, hw, n1, n2, n3, n4, n5, n6, n7, n8, n9, n10, mdsL_succ hx]
  · rintro c' t ⟨h6, h7, h8, p, h3, hp, hR⟩
    rw [List.take_length] at hR
    simp [h6, h7, h8, h3, hR]
theorem f85_ok (xs : List Mdl) (h : MdsLen xs) : FunOK Tryz.prog 85 [.lst (xs.map Mdl.v)] true (.inl 5 ((mdsL xs).map Scp.v)) := by
  refine fun_ok (mkE_ok zmix (cl := []) (gl := []) [] trivial trivial) Tryz.func85 (by kernel_rfl) ?_
  refine FunW_run _ _ rfl rfl ?_
  have hlen := h.len
  simp
  refine lp_list xs (fun i t => t.e 7 = .lst (xs.map Mdl.v) ∧ t.e 8 = .int .i64 xs.length ∧ t.e 9 = .int .i64 i ∧ ∃ p, t.e 3 = .own p ∧ p < t.nt ∧ t.R p = some ⟨5, (mdsL (xs.take i)).map Scp.v, true⟩) ?_ ?_ ?_
  · simp
  · rintro c' L hL i t x hx hi ih ⟨h7, h8, h9, p, h3, hp, hR⟩
    have hw := wrI (i := i) (by omega)
    have n1 : ¬ p = t.nt := by omega
    have n2 : ¬ p = t.nt + 1 := by omega
    have n3 : ¬ p = t.nt + 1 + 1 := by omega
    have n4 : ¬ p = t.nt + 1 + 1 + 1 := by omega
    have n5 : ¬ p = t.nt + 1 + 1 + 1 + 1 := by omega
    have n6 : ¬ p = t.nt + 1 + 1 + 1 + 1 + 1 := by omega
    have hmin : min i xs.length = i := by omega
    have hr := roomSc (n := i + 1) (by omega)
    simp [-getElem?_pos, gcz, gcs, h7, h8, h9, h3, hR, hL, hi, hx, n1, n2, n3, n4, n5, n6, hr, hmin]
    refine ih _ ?_
    simp [h7, h8, h9, h3, hR, hw, n1, n2, n3, n4, n5, n6, mdsL_succ hx]
  · rintro c' t ⟨h7, h8, h9, p, h3, hp, hR⟩
    rw [List.take_length] at hR
    simp [h7, h8, h9, h3, hR]
noncomputable def c82 := ctr (fun xs : List Mdl => MdsLen xs) (fun xs => [.lst (xs.map Mdl.v)]) (fun xs => (false, .inl 5 ((mdsL xs).map Scp.o)))
theorem c82_eq (xs : List Mdl) (h : MdsLen xs) : c82 [.lst (xs.map Mdl.v)] = some (false, .inl 5 ((mdsL xs).map Scp.o)) := ctr_eq (injl Mdl.v_inj _) xs h rfl
theorem c82_ok : COK Tryz.prog (82, c82) := ctr_ok fun xs h => f82_ok xs h
noncomputable def c85 := ctr (fun xs : List Mdl => MdsLen xs) (fun xs => [.lst (xs.map Mdl.v)]) (fun xs => (true, .inl 5 ((mdsL xs).map Scp.v)))
theorem c85_eq (xs : List Mdl) (h : MdsLen xs) : c85 [.lst (xs.map Mdl.v)] = some (true, .inl 5 ((mdsL xs).map Scp.v)) := ctr_eq (injl Mdl.v_inj _) xs h rfl
theorem c85_ok : COK Tryz.prog (85, c85) := ctr_ok fun xs h => f85_ok xs h
end Go.TM.Tryz
end
section
set_option maxHeartbeats 2000000
namespace Go.TM.Tryz
open Go Go.TM Go.Proofs
theorem f101_ok (x : Knw) (h : True) : FunOK Tryz.prog 101 [x.v] false x.v := by
  refine fun_ok (mkE_ok zmix (cl := []) (gl := []) [] trivial trivial) Tryz.func101 (by kernel_rfl) ?_
  refine FunW_run _ _ rfl rfl ?_
  simp
noncomputable def c101 := ctr (fun x : Knw => True) (fun x => [x.v]) (fun x => (false, x.v))
theorem c101_eq (a0 : ByteArray) (a1 : ByteArray) (a2 : Int) : c101 [.agg [.str a0, .str a1, .int .i64 a2]] = some (false, .agg [.str a0, .str a1, .int .i64 a2]) := ctr_eq (inj0 Knw.v_inj _) (Knw.mk a0 a1 a2) trivial rfl
theorem c101_ok : COK Tryz.prog (101, c101) := ctr_ok fun n h => f101_ok n h
theorem f42_ok (xs : List Knw) (h : szL Knw.sz xs ≤ 1048576) : FunOK Tryz.prog 42 [.lst (xs.map Knw.v)] false (.inl 3 (xs.map Knw.v)) := by
  refine fun_ok (mkE_ok zmix (cl := [(101, c101)]) (gl := []) [] c101_ok trivial) Tryz.func42 (by kernel_rfl) ?_
  refine FunW_run _ _ rfl rfl ?_
  have hl := szL_len Knw.sz xs
  have hb2 : xs.length * 40 ≤ 140737488355328 := by omega
  have hb3 : xs.length ≤ 4294967296 := by omega
  simp [room, hb2, hb3]
  refine lp_list xs (fun i t => t.e 0 = .lst (xs.map Knw.v) ∧ t.e 4 = .int .i64 i ∧ t.e 3 = .own 1 ∧ t.nt = 2 ∧ t.nb = 0 ∧ t.R 1 = some ⟨3, fill Knw.v (.agg [.str ⟨#[]⟩, .str ⟨#[]⟩, .int .i64 0]) xs i, true⟩) ?_ ?_ ?_
  · simp [fill_zero]
  · rintro c' L hL i t x hx hi ih ⟨h0, h4, h3, hnt, hnb, hR⟩
    have hw := wrI (i := i) (by omega)
    have hn : ¬ 1 = t.nt := by omega
    simp [-getElem?_pos, gcz, gcs, h0, h4, h3, hnt, hnb, hR, hL, hx, hi, fill_get hi, hn, c101_eq]
    refine ih _ ?_
    simp [-getElem?_pos, gcz, gcs, h0, h4, h3, hnt, hnb, hR, hL, hx, hi, hw, hn]
    exact fill_set hx rfl
  · rintro c' t ⟨h0, h4, h3, hnt, hnb, hR⟩
    simp [h0, h4, h3, hnb, hR, fill_all]
noncomputable def c42 := ctr (fun xs : List Knw => szL Knw.sz xs ≤ 1048576) (fun xs => [.lst (xs.map Knw.v)]) (fun xs => (false, .inl 3 (xs.map Knw.v)))
theorem c42_eq (xs : List Knw) (h : szL Knw.sz xs ≤ 1048576) : c42 [.lst (xs.map Knw.v)] = some (false, .inl 3 (xs.map Knw.v)) := ctr_eq (injl Knw.v_inj _) xs h rfl
theorem c42_ok : COK Tryz.prog (42, c42) := ctr_ok fun n h => f42_ok n h
end Go.TM.Tryz
end
section
set_option maxHeartbeats 16000000
set_option maxRecDepth 20000
namespace Go.TM.Tryz
open Go Go.TM Go.Proofs
theorem f201_ok (l : List Use) (hl : l.length ≤ 1048576) : FunOK Tryz.prog 201 [.lst (l.map Use.v)] false (.inl 2 (l.map Use.v)) := by
  refine fun_ok (mkE_ok zmix (cl := []) (gl := []) [] trivial trivial) Tryz.func201 (by kernel_rfl) ?_
  refine FunW_run _ _ rfl rfl ?_
  have h1 : l.length * 32 ≤ 140737488355328 := by omega
  have h2 : l.length ≤ 4294967296 := by omega
  have e := noLs_use l
  cases l with
  | nil => simp [room]
  | cons x xs => simp at h1 h2 e; simp [room, h1, h2, e]
noncomputable def c201 := ctr (fun l : List Use => l.length ≤ 1048576) (fun l => [.lst (l.map Use.v)]) (fun l => (false, .inl 2 (l.map Use.v)))
theorem c201_eq (l : List Use) (h : l.length ≤ 1048576) : c201 [.lst (l.map Use.v)] = some (false, .inl 2 (l.map Use.v)) := ctr_eq (injl Use.v_inj _) l h rfl
theorem c201_ok : COK Tryz.prog (201, c201) := ctr_ok fun l h => f201_ok l h
theorem f157_ok (l : List Knw) (hl : l.length ≤ 1048576) : FunOK Tryz.prog 157 [.lst (l.map Knw.v)] false (.inl 3 (l.map Knw.v)) := by
  refine fun_ok (mkE_ok zmix (cl := []) (gl := []) [] trivial trivial) Tryz.func157 (by kernel_rfl) ?_
  refine FunW_run _ _ rfl rfl ?_
  have h1 : l.length * 40 ≤ 140737488355328 := by omega
  have h2 : l.length ≤ 4294967296 := by omega
  have e := noLs_knw l
  cases l with
  | nil => simp [room]
  | cons x xs => simp at h1 h2 e; simp [room, h1, h2, e]
noncomputable def c157 := ctr (fun l : List Knw => l.length ≤ 1048576) (fun l => [.lst (l.map Knw.v)]) (fun l => (false, .inl 3 (l.map Knw.v)))
theorem c157_eq (l : List Knw) (h : l.length ≤ 1048576) : c157 [.lst (l.map Knw.v)] = some (false, .inl 3 (l.map Knw.v)) := ctr_eq (injl Knw.v_inj _) l h rfl
theorem c157_ok : COK Tryz.prog (157, c157) := ctr_ok fun l h => f157_ok l h
theorem vwE_ty : (vwE ∘ Ty.v) = Ty.v := funext fun _ => rfl
theorem vwE_obj : (vwE ∘ Obj.v) = Obj.v := funext fun _ => rfl
theorem f202_ok (l : List Ty) (hl : l.length ≤ 1048576) : FunOK Tryz.prog 202 [.lst (l.map Ty.v)] true (.inl 6 (l.map Ty.v)) := by
  refine fun_ok (mkE_ok zmix (cl := []) (gl := []) [] trivial trivial) Tryz.func202 (by kernel_rfl) ?_
  refine FunW_run _ _ rfl rfl ?_
  have h1 : l.length * 80 ≤ 140737488355328 := by omega
  have h2 : l.length ≤ 4294967296 := by omega
  cases l with
  | nil => simp [room]
  | cons x xs => simp at h1 h2; simp [room, h1, h2, vwE_ty]
noncomputable def c202 := ctr (fun l : List Ty => l.length ≤ 1048576) (fun l => [.lst (l.map Ty.v)]) (fun l => (true, .inl 6 (l.map Ty.v)))
theorem c202_eq (l : List Ty) (h : l.length ≤ 1048576) : c202 [.lst (l.map Ty.v)] = some (true, .inl 6 (l.map Ty.v)) := ctr_eq (injl Ty.v_inj _) l h rfl
theorem c202_ok : COK Tryz.prog (202, c202) := ctr_ok fun l h => f202_ok l h
theorem f203_ok (l : List Obj) (hl : l.length ≤ 1048576) : FunOK Tryz.prog 203 [.lst (l.map Obj.v)] true (.inl 6 (l.map Obj.v)) := by
  refine fun_ok (mkE_ok zmix (cl := []) (gl := []) [] trivial trivial) Tryz.func203 (by kernel_rfl) ?_
  refine FunW_run _ _ rfl rfl ?_
  have h1 : l.length * 72 ≤ 140737488355328 := by omega
  have h2 : l.length ≤ 4294967296 := by omega
  cases l with
  | nil => simp [room]
  | cons x xs => simp at h1 h2; simp [room, h1, h2, vwE_obj]
noncomputable def c203 := ctr (fun l : List Obj => l.length ≤ 1048576) (fun l => [.lst (l.map Obj.v)]) (fun l => (true, .inl 6 (l.map Obj.v)))
theorem c203_eq (l : List Obj) (h : l.length ≤ 1048576) : c203 [.lst (l.map Obj.v)] = some (true, .inl 6 (l.map Obj.v)) := ctr_eq (injl Obj.v_inj _) l h rfl
theorem c203_ok : COK Tryz.prog (203, c203) := ctr_ok fun l h => f203_ok l h
def half {α : Type} (f g : α → V) (xs : List α) (i : Nat) : List V := (xs.take i).map g ++ (xs.drop i).map f
section
variable {α : Type} {f g : α → V} {xs : List α} {i : Nat}
@[simp] theorem half_length : (half f g xs i).length = xs.length := by simp [half]; omega
theorem half_zero : half f g xs 0 = xs.map f := by simp [half]
theorem half_all : half f g xs xs.length = xs.map g := by simp [half]
theorem half_get {x : α} (h : xs[i]? = some x) : (half f g xs i)[i]? = some (f x) := by
  have hi : i < xs.length := by
    rw [List.getElem?_eq_some_iff] at h
    exact h.1
  unfold half
  rw [List.getElem?_append_right (by simp; omega)]
  have e : i - ((xs.take i).map g).length = 0 := by simp; omega
  rw [e, List.getElem?_map, List.getElem?_drop, Nat.add_zero, h]
  rfl
theorem half_set {x : α} (h : xs[i]? = some x) {y : V} (hy : g x = y) : (half f g xs i).set i y = half f g xs (i + 1) := by
  have hi : i < xs.length := by
    rw [List.getElem?_eq_some_iff] at h
    exact h.1
  unfold half
  have e : i - ((xs.take i).map g).length = 0 := by simp; omega
  have e2 : xs.drop i = x :: xs.drop (i + 1) := by
    rw [List.getElem?_eq_some_iff] at h
    rw [← h.2]
    exact List.drop_eq_getElem_cons hi
  rw [List.set_append_right _ _ (by simp; omega), e, e2, List.map_cons, List.set_cons_zero, List.take_add_one, h]
  simp [hy]
end
def tree156 : TT := .two false 0 (.two false 1 (.two false 2 (.one false 3 (.one false 4 (.two false 5 (.one false 6 (.one false 7 (.one false 8 (.one false 9 .done)))) false 6 (.one false 5 (.one false 7 (.one false 8 (.one false 9 .done))))))) false 3 (.two false 2 (.one false 4 (.two false 5 (.one false 6 (.one false 7 (.one false 8 (.one false 9 .done)))) false 6 (.one false 5 (.one false 7 (.one false 8 (.one false 9 .done)))))) false 4 (.one false 2 (.two false 5 (.one false 6 (.one false 7 (.one false 8 (.one false 9 .done)))) false 6 (.one false 5 (.one false 7 (.one false 8 (.one false 9 .done)))))))) false 3 (.two false 1 (.two false 2 (.one false 4 (.two false 5 (.one false 6 (.one false 7 (.one false 8 (.one false 9 .done)))) false 6 (.one false 5 (.one false 7 (.one false 8 (.one false 9 .done)))))) false 4 (.one false 2 (.two false 5 (.one false 6 (.one false 7 (.one false 8 (.one false 9 .done)))) false 6 (.one false 5 (.one false 7 (.one false 8 (.one false 9 .done))))))) false 4 (.one false 1 (.one false 2 (.two false 5 (.one false 6 (.one false 7 (.one false 8 (.one false 9 .done)))) false 6 (.one false 5 (.one false 7 (.one false 8 (.one false 9 .done))))))))) false 3 (.two false 0 (.two false 1 (.two false 2 (.one false 4 (.two false 5 (.one false 6 (.one false 7 (.one false 8 (.one false 9 .done)))) false 6 (.one false 5 (.one false 7 (.one false 8 (.one false 9 .done)))))) false 4 (.one false 2 (.two false 5 (.one false 6 (.one false 7 (.one false 8 (.one false 9 .done)))) false 6 (.one false 5 (.one false 7 (.one false 8 (.one false 9 .done))))))) false 4 (.one false 1 (.one false 2 (.two false 5 (.one false 6 (.one false 7 (.one false 8 (.one false 9 .done)))) false 6 (.one false 5 (.one false 7 (.one false 8 (.one false 9 .done)))))))) false 4 (.one false 0 (.one false 1 (.one false 2 (.two false 5 (.one false 6 (.one false 7 (.one false 8 (.one false 9 .done)))) false 6 (.one false 5 (.one false 7 (.one false 8 (.one false 9 .done)))))))))
def cut156 : Pl := ⟨[], [], [], [0, 1, 2, 3, 4, 5, 6, 7, 8, 9], tree156⟩
theorem cut156_run {E : Env} (pl : Option (List (Nat × Bool))) (ops : Array Oper) (k : List Fr) (Q : X → S → Prop) (s : S) : aftE (some cut156) pl ops k E Q s = preK E ops k Q tree156 [] s := rfl
def tree156b : TT := .two false 0 (.two false 1 (.one false 3 (.one false 4 (.one false 5 (.one false 6 (.one false 7 (.one false 8 .done)))))) false 3 (.two false 1 (.one false 4 (.one false 5 (.one false 6 (.one false 7 (.one false 8 .done))))) false 4 (.two false 1 (.one false 5 (.one false 6 (.one false 7 (.one false 8 .done)))) false 5 (.one false 1 (.one false 6 (.one false 7 (.one false 8 .done))))))) false 3 (.two false 0 (.two false 1 (.one false 4 (.one false 5 (.one false 6 (.one false 7 (.one false 8 .done))))) false 4 (.two false 1 (.one false 5 (.one false 6 (.one false 7 (.one false 8 .done)))) false 5 (.one false 1 (.one false 6 (.one false 7 (.one false 8 .done)))))) false 4 (.two false 0 (.two false 1 (.one false 5 (.one false 6 (.one false 7 (.one false 8 .done)))) false 5 (.one false 1 (.one false 6 (.one false 7 (.one false 8 .done))))) false 5 (.one false 0 (.one false 1 (.one false 6 (.one false 7 (.one false 8 .done)))))))
def cut156b : Pl := ⟨[2], [], [], [0, 1, 3, 4, 5, 6, 7, 8], tree156b⟩
theorem cut156b_run {E : Env} (pl : Option (List (Nat × Bool))) (ops : Array Oper) (k : List Fr) (Q : X → S → Prop) (s : S) : aftE (some cut156b) pl ops k E Q s = preK E ops k Q tree156b [(2, false)] s := rfl
structure Cp (s : Scp) (t : S) (nb : Nat) (ty ob : List V) (i1 t1 o1 u1 : Nat) : Prop where
  e1 : t.e 1 = .ptr 0 0
  e2 : t.e 2 = .ptr 1 0
  nb : nb ≤ t.nb
  B1 : t.B 1 = some (.agg [.str ⟨#[]⟩, .own 0, .own 1, .own 2, .own 3])
  B0 : t.B 0 = some (.agg [.str s.name, .own i1, .own t1, .own o1, .own u1])
  R1 : t.R i1 = some ⟨1, s.imports.map V.str, true⟩
  R2 : t.R t1 = some ⟨6, ty, true⟩
  R3 : t.R o1 = some ⟨6, ob, true⟩
  R4 : t.R u1 = some ⟨2, s.uses.map Use.v, true⟩
  l1 : i1 < t.nt
  l2 : t1 < t.nt
  l3 : o1 < t.nt
  l4 : u1 < t.nt
  d1 : i1 ≠ t1
  d2 : i1 ≠ o1
  d3 : i1 ≠ u1
  d4 : t1 ≠ o1
  d5 : t1 ≠ u1
  d6 : o1 ≠ u1
def Cp1 (s : Scp) (t : S) : Prop :=
  t.e 1 = .ptr 0 0 ∧ t.e 2 = .ptr 1 0 ∧ t.nb = 2 ∧ t.B 1 = some (.agg [.str ⟨#[]⟩, .own 0, .own 1, .own 2, .own 3]) ∧
  ∃ i u, t.B 0 = some (.agg [.str s.name, .own i, .lst (s.types.map Ty.v), .lst (s.objects.map Obj.v), .own u]) ∧ t.R i = some ⟨1, s.imports.map V.str, true⟩ ∧ t.R u = some ⟨2, s.uses.map Use.v, true⟩ ∧ i < t.nt ∧ u < t.nt ∧ i ≠ u
def Cp2 (s : Scp) (t : S) : Prop := ∃ i1 t1 o1 u1, t.e 1 = .ptr 0 0 ∧ t.e 2 = .ptr 1 0 ∧ t.nb = 2 ∧ t.B 1 = some (.agg [.str ⟨#[]⟩, .own 0, .own 1, .own 2, .own 3]) ∧ t.B 0 = some (.agg [.str s.name, .own i1, .own t1, .own o1, .own u1]) ∧
  t.R i1 = some ⟨1, s.imports.map V.str, true⟩ ∧ t.R t1 = some ⟨6, s.types.map Ty.v, true⟩ ∧ t.R o1 = some ⟨6, s.objects.map Obj.v, true⟩ ∧ t.R u1 = some ⟨2, s.uses.map Use.v, true⟩ ∧
  i1 < t.nt ∧ t1 < t.nt ∧ o1 < t.nt ∧ u1 < t.nt ∧ i1 ≠ t1 ∧ i1 ≠ o1 ∧ i1 ≠ u1 ∧ t1 ≠ o1 ∧ t1 ≠ u1 ∧ o1 ≠ u1
theorem f156_ok (s : Scp) (h : ScLen s) : FunOK Tryz.prog 156 [s.v] false s.o := by
  refine fun_ok (mkE2_ok zmix (cl := [(127, c127), (201, c201), (202, c202), (203, c203), (184, c184), (133, c133)]) (gl := []) [] [(1, cut156), (2, cut156), (6, cut156b), (11, cut156b)] ⟨c127_ok, c201_ok, c202_ok, c203_ok, c184_ok, c133_ok⟩ trivial) Tryz.func156 (by kernel_rfl) ?_
  refine FunW_run _ _ rfl rfl ?_
  have e127 := c127_eq s.imports h.im
  have e201 := c201_eq s.uses h.us
  have e202 := c202_eq s.types h.ty.len
  have e203 := c203_eq s.objects h.ob
  simp [-aftE_some]
  refine aftE_post (Cp1 s) ?_ ?_
  · simp [-aftE_some, cut156_run, tree156, pureOp, e127, e201, Cp1]
    exact ⟨_, _, ⟨rfl, rfl⟩, by simp⟩
  rintro t ⟨g1, g2, gn, B1, i1, u1, B0, R1, R4, l1, l4, d3⟩
  have n1 : ¬ i1 = t.nt := by omega
  have n2 : ¬ i1 = t.nt + 1 := by omega
  have n3 : ¬ u1 = t.nt := by omega
  have n4 : ¬ u1 = t.nt + 1 := by omega
  simp [-aftE_some]
  refine aftE_post (Cp2 s) ?_ ?_
  · simp [-aftE_some, cut156_run, tree156, pureOp, e202, e203, Cp2, g1, g2, gn, B0, B1]
    exact ⟨_, _, _, _, ⟨rfl, rfl, rfl, rfl⟩, by
      simp [n1, n2, n3, n4, R1, R4, d3]
      omega⟩
  clear g1 g2 gn B0 B1 R1 R4 l1 l4 d3 n1 n2 n3 n4
  clear i1 u1 t
  rintro t ⟨i1, t1, o1, u1, g1, g2, gn, B1, B0, R1, R2, R3, R4, l1, l2, l3, l4, d1, d2, d3, d4, d5, d6⟩
  have hty := h.ty.len
  have hob := h.ob
  have d1' : ¬ t1 = i1 := fun e => d1 e.symm
  have d5' : ¬ u1 = t1 := fun e => d5 e.symm
  have d4' : ¬ o1 = t1 := fun e => d4 e.symm
  have d2' : ¬ o1 = i1 := fun e => d2 e.symm
  have d6' : ¬ u1 = o1 := fun e => d6 e.symm
  simp [g1, B0, R2]
  refine lp_list s.types (fun i t => t.e 24 = .own t1 ∧ t.e 25 = .int .i64 s.types.length ∧ t.e 26 = .int .i64 i ∧ t.e 1 = .ptr 0 0 ∧ t.e 2 = .ptr 1 0 ∧ 1 < t.nb ∧ t.B 1 = some (.agg [.str ⟨#[]⟩, .own 0, .own 1, .own 2, .own 3]) ∧
    t.B 0 = some (.agg [.str s.name, .own i1, .own t1, .own o1, .own u1]) ∧ t.R i1 = some ⟨1, s.imports.map V.str, true⟩ ∧ t.R t1 = some ⟨6, half Ty.v Ty.o s.types i, true⟩ ∧ t.R o1 = some ⟨6, s.objects.map Obj.v, true⟩ ∧ t.R u1 = some ⟨2, s.uses.map Use.v, true⟩ ∧
    i1 < t.nt ∧ t1 < t.nt ∧ o1 < t.nt ∧ u1 < t.nt) ?_ ?_ ?_
  · simp [g1, g2, gn, B1, B0, R1, R2, R3, R4, half_zero, l1, l2, l3, l4]
  · clear g1 g2 gn B1 B0 R1 R2 R3 R4 l1 l2 l3 l4
    clear t
    rintro c' L hL i t x hx hi ih ⟨k24, k25, k26, g1, g2, gn, B1, B0, R1, R2, R3, R4, l1, l2, l3, l4⟩
    have hw := wrI (i := i) (by omega)
    have e184 := c184_eq x.fields (h.ty.fs x (List.mem_of_getElem? hx))
    have hg := half_get (f := Ty.v) (g := Ty.o) hx
    have n0 : ¬ 0 = t.nb := by omega
    have n0' : ¬ t.nb = 0 := by omega
    have n1 : ¬ 1 = t.nb := by omega
    have a1 : ¬ i1 = t.nt := by omega
    have a2 : ¬ i1 = t.nt + 1 := by omega
    have b1 : ¬ t1 = t.nt := by omega
    have b2 : ¬ t1 = t.nt + 1 := by omega
    have b1' : ¬ t.nt = t1 := by omega
    have b2' : ¬ t.nt + 1 = t1 := by omega
    have c1 : ¬ o1 = t.nt := by omega
    have c2 : ¬ o1 = t.nt + 1 := by omega
    have f1 : ¬ u1 = t.nt := by omega
    have f2 : ¬ u1 = t.nt + 1 := by omega
    simp [-getElem?_pos, gcz, gcs, k24, k25, k26, g1, B0, R2, hL, hi, hg, e184, n0, n0', n1, a1, a2, b1, b2, b1', b2', -aftE_some, cut156b_run, tree156b, pureOp]
    repeat' apply And.intro
    all_goals
      refine ih _ ?_
      simp [-getElem?_pos, gcz, gcs, k24, k25, k26, g1, g2, B1, B0, R1, R2, R3, R4, hw, hg, n0, n1, a1, a2, b1, b2, b1', b2', c1, c2, f1, f2, d1, d1', d4', d5', hi]
      exact ⟨by omega, half_set hx rfl, by omega, by omega, by omega, by omega⟩
  · clear g1 g2 gn B1 B0 R1 R2 R3 R4 l1 l2 l3 l4
    clear t
    rintro c' t ⟨k24, k25, k26, g1, g2, gn, B1, B0, R1, R2, R3, R4, l1, l2, l3, l4⟩
    rw [half_all] at R2
    simp [k24, k25, k26, g1, B0, R3]
    refine lp_list s.objects (fun i t => t.e 41 = .own o1 ∧ t.e 42 = .int .i64 s.objects.length ∧ t.e 43 = .int .i64 i ∧ t.e 1 = .ptr 0 0 ∧ t.e 2 = .ptr 1 0 ∧ 1 < t.nb ∧ t.B 1 = some (.agg [.str ⟨#[]⟩, .own 0, .own 1, .own 2, .own 3]) ∧
      t.B 0 = some (.agg [.str s.name, .own i1, .own t1, .own o1, .own u1]) ∧ t.R i1 = some ⟨1, s.imports.map V.str, true⟩ ∧ t.R t1 = some ⟨6, s.types.map Ty.o, true⟩ ∧ t.R o1 = some ⟨6, half Obj.v Obj.o s.objects i, true⟩ ∧ t.R u1 = some ⟨2, s.uses.map Use.v, true⟩ ∧
      i1 < t.nt ∧ t1 < t.nt ∧ o1 < t.nt ∧ u1 < t.nt) ?_ ?_ ?_
    · simp [g1, g2, gn, B1, B0, R1, R2, R3, R4, half_zero, l1, l2, l3, l4]
    · clear k24 k25 k26 g1 g2 gn B1 B0 R1 R2 R3 R4 l1 l2 l3 l4
      clear t
      clear c'
      rintro c' L hL i t x hx hi ih ⟨k24, k25, k26, g1, g2, gn, B1, B0, R1, R2, R3, R4, l1, l2, l3, l4⟩
      have hw := wrI (i := i) (by omega)
      have e133 := c133_eq x.params (h.pa x (List.mem_of_getElem? hx))
      have hg := half_get (f := Obj.v) (g := Obj.o) hx
      have n0 : ¬ 0 = t.nb := by omega
      have n0' : ¬ t.nb = 0 := by omega
      have n1 : ¬ 1 = t.nb := by omega
      have a1 : ¬ i1 = t.nt := by omega
      have a2 : ¬ i1 = t.nt + 1 := by omega
      have b1 : ¬ t1 = t.nt := by omega
      have b2 : ¬ t1 = t.nt + 1 := by omega
      have c1 : ¬ o1 = t.nt := by omega
      have c2 : ¬ o1 = t.nt + 1 := by omega
      have c1' : ¬ t.nt = o1 := by omega
      have c2' : ¬ t.nt + 1 = o1 := by omega
      have f1 : ¬ u1 = t.nt := by omega
      have f2 : ¬ u1 = t.nt + 1 := by omega
      simp [-getElem?_pos, gcz, gcs, k24, k25, k26, g1, B0, R3, hL, hi, hg, e133, n0, n0', n1, a1, a2, c1, c2, c1', c2', -aftE_some, cut156b_run, tree156b, pureOp]
      repeat' apply And.intro
      all_goals
        refine ih _ ?_
        simp [-getElem?_pos, gcz, gcs, k24, k25, k26, g1, g2, B1, B0, R1, R2, R3, R4, hw, hg, n0, n1, a1, a2, b1, b2, c1, c2, c1', c2', f1, f2, d2, d2', d4, d6', hi]
        exact ⟨by omega, half_set hx rfl, by omega, by omega, by omega, by omega⟩
    · clear k24 k25 k26 g1 g2 gn B1 B0 R1 R2 R3 R4 l1 l2 l3 l4
      clear t
      clear c'
      rintro c' t ⟨k24, k25, k26, g1, g2, gn, B1, B0, R1, R2, R3, R4, l1, l2, l3, l4⟩
      rw [half_all] at R3
      simp [k24, k25, k26, g1, g2, B1, B0, R1, R2, R3, R4]
      exact ⟨⟨d1, d2, d3⟩, ⟨d4, d5⟩, d6⟩
end Go.TM.Tryz
end
section
set_option maxHeartbeats 8000000
set_option maxRecDepth 20000
namespace Go.TM.Tryz
open Go Go.TM Go.Proofs
def offSeen (x : Mdl) : Bool := !knwsB x.seen
noncomputable def goodB (xs : List Mdl) : Bool := modsB (mdsL xs) && !xs.any offSeen
theorem f155_ok (x : Mdl) (h : x.lim) : FunOK Tryz.prog 155 [x.v] false (.bool (offSeen x)) := by
  refine fun_ok (mkE_ok zmix (cl := [(102, c102)]) (gl := []) [] c102_ok trivial) Tryz.func155 (by kernel_rfl) ?_
  refine FunW_run _ _ rfl rfl ?_
  have e := c102_eq x.seen h.2
  simp [e, offSeen]
noncomputable def c155 := ctr (fun x : Mdl => x.lim) (fun x => [x.v]) (fun x => (false, .bool (offSeen x)))
theorem c155_eq (x : Mdl) (h : x.lim) : c155 [x.v] = some (false, .bool (offSeen x)) := ctr_eq (inj0 Mdl.v_inj _) x h rfl
theorem c155_ok : COK Tryz.prog (155, c155) := ctr_ok fun x h => f155_ok x h
theorem f200_ok (l : List Mdl) (hl : limL Mdl.lim l) : FunOK Tryz.prog 200 [.lst (l.map Mdl.v), .fn 155 []] false (.int .i64 (fstI offSeen l)) := by
  refine fun_ok (mkE_ok zmix (cl := [(155, c155)]) (gl := []) [] c155_ok trivial) Tryz.func200 (by kernel_rfl) ?_
  refine FunW_run _ _ rfl rfl ?_
  have hll := hl.1
  simp only [lim] at hll
  simp
  refine lp_list l (fun i t => t.e 1 = .fn 155 [] ∧ t.e 0 = .lst (l.map Mdl.v) ∧ t.e 7 = .int .i64 l.length ∧ t.e 8 = .int .i64 i ∧ anyI offSeen l i = false) ?_ ?_ ?_
  · simp
  · rintro c' L hL i t x hx hi ih ⟨h1, h7, h8, h9, hall⟩
    have hw := wrI (i := i) (by omega)
    have e := c155_eq x (hl.2 x (List.mem_of_getElem? hx))
    simp only [Mdl.v] at e
    simp [-getElem?_pos, List.getElem?_cons_zero, h1, h7, h8, h9, hL, hi, hx, e]
    split
    · rename_i hc
      exact (fst_yes hx hc hall).symm
    · rename_i hc
      refine ih _ ?_
      simp [h1, h7, h8, h9, hw, anyI_succ hx, hall, hc]
  · rintro c' t ⟨h1, h7, h8, h9, hall⟩
    simp [h1, h7, h8, h9, fst_no hall]
theorem inj200 {β : Type} (out : List Mdl → β) : ∀ a b : List Mdl, [V.lst (a.map Mdl.v), .fn 155 []] = [V.lst (b.map Mdl.v), .fn 155 []] → out a = out b := by
  intro a b h
  simp only [List.cons.injEq, and_true, V.lst.injEq] at h
  rw [map_inj Mdl.v_inj h]
noncomputable def c200 := ctr (fun l : List Mdl => limL Mdl.lim l) (fun l => [.lst (l.map Mdl.v), .fn 155 []]) (fun l => (false, .int .i64 (fstI offSeen l)))
theorem c200_eq (l : List Mdl) (h : limL Mdl.lim l) : c200 [.lst (l.map Mdl.v), .fn 155 []] = some (false, .int .i64 (fstI offSeen l)) := ctr_eq (inj200 _) l h rfl
theorem c200_ok : COK Tryz.prog (200, c200) := ctr_ok fun l h => f200_ok l h
theorem f154_ok (l : List Mdl) (hl : limL Mdl.lim l) : FunOK Tryz.prog 154 [.lst (l.map Mdl.v), .fn 155 []] false (.bool (l.any offSeen)) := by
  refine fun_ok (mkE_ok zmix (cl := [(200, c200)]) (gl := []) [] c200_ok trivial) Tryz.func154 (by kernel_rfl) ?_
  refine FunW_run _ _ rfl rfl ?_
  have e := c200_eq l hl
  simp [e, fst_ge]
noncomputable def c154 := ctr (fun l : List Mdl => limL Mdl.lim l) (fun l => [.lst (l.map Mdl.v), .fn 155 []]) (fun l => (false, .bool (l.any offSeen)))
theorem c154_eq (l : List Mdl) (h : limL Mdl.lim l) : c154 [.lst (l.map Mdl.v), .fn 155 []] = some (false, .bool (l.any offSeen)) := ctr_eq (inj200 _) l h rfl
theorem c154_ok : COK Tryz.prog (154, c154) := ctr_ok fun l h => f154_ok l h
structure StOK (xs : List Mdl) : Prop where
  lim : limL Mdl.lim xs
  len : MdsLen xs
theorem f84_ok (xs : List Mdl) (h : StOK xs) : FunOK Tryz.prog 84 [.lst (xs.map Mdl.v)] false (.bool (goodB xs)) := by
  refine fun_ok (mkE_ok zmix (cl := [(85, c85), (95, c95), (154, c154)]) (gl := []) [] ⟨c85_ok, c95_ok, c154_ok⟩ trivial) Tryz.func84 (by kernel_rfl) ?_
  refine FunW_run _ _ rfl rfl ?_
  have e85 := c85_eq xs h.len
  have e95 := c95_eq (mdsL xs) (mdsL_lim h.lim)
  have e154 := c154_eq xs h.lim
  cases hm : modsB (mdsL xs) with
  | false =>
    rw [hm] at e95
    simp [e85, e95, e154, goodB, hm]
  | true =>
    rw [hm] at e95
    simp [e85, e95, e154, goodB, hm]
noncomputable def c84 := ctr (fun xs : List Mdl => StOK xs) (fun xs => [.lst (xs.map Mdl.v)]) (fun xs => (false, .bool (goodB xs)))
theorem c84_eq (xs : List Mdl) (h : StOK xs) : c84 [.lst (xs.map Mdl.v)] = some (false, .bool (goodB xs)) := ctr_eq (injl Mdl.v_inj _) xs h rfl
theorem c84_ok : COK Tryz.prog (84, c84) := ctr_ok fun xs h => f84_ok xs h
theorem f81_ok (xs : List Mdl) (h : StOK xs) : FunOK Tryz.prog 81 [.lst (xs.map Mdl.v)] false (.bool (goodB xs)) := by
  refine fun_ok (mkE_ok zmix (cl := [(82, c82), (93, c93), (99, c99)]) (gl := []) [] ⟨c82_ok, c93_ok, c99_ok⟩ trivial) Tryz.func81 (by kernel_rfl) ?_
  refine FunW_run _ _ rfl rfl ?_
  have hlen := h.len.len
  have e82 := c82_eq xs h.len
  have e93 := c93_eq (mdsL xs) (mdsL_lim h.lim)
  simp
  refine lp_list xs (fun i t => t.e 0 = .lst (xs.map Mdl.v) ∧ t.e 5 = .lst (xs.map Mdl.v) ∧ t.e 6 = .int .i64 xs.length ∧ t.e 7 = .int .i64 i ∧ anyI offSeen xs i = false) ?_ ?_ ?_
  · simp
  · rintro c' L hL i t x hx hi ih ⟨h0, h5, h6, h7, hall⟩
    have hw := wrI (i := i) (by omega)
    have hxm := List.mem_of_getElem? hx
    have e99 := c99_eq x.seen (h.lim.2 x hxm).2
    cases hk : knwsB x.seen with
    | false =>
      rw [hk] at e99
      have hb : goodB xs = false := by
        have : xs.any offSeen = true := List.any_eq_true.2 ⟨x, hxm, by simp [offSeen, hk]⟩
        simp [goodB, this]
      simp [-getElem?_pos, gcz, gcs, h0, h5, h6, h7, hL, hi, hx, e99, hb]
    | true =>
      rw [hk] at e99
      have ho : offSeen x = false := by simp [offSeen, hk]
      simp [-getElem?_pos, gcz, gcs, h0, h5, h6, h7, hL, hi, hx, e99]
      refine ih _ ?_
      simp [h0, h5, h6, h7, hw, anyI_succ hx, hall, ho]
  · rintro c' t ⟨h0, h5, h6, h7, hall⟩
    rw [anyI_all] at hall
    simp [h0, h5, h6, h7, e82, e93, goodB, hall]
noncomputable def c81 := ctr (fun xs : List Mdl => StOK xs) (fun xs => [.lst (xs.map Mdl.v)]) (fun xs => (false, .bool (goodB xs)))
theorem c81_eq (xs : List Mdl) (h : StOK xs) : c81 [.lst (xs.map Mdl.v)] = some (false, .bool (goodB xs)) := ctr_eq (injl Mdl.v_inj _) xs h rfl
theorem c81_ok : COK Tryz.prog (81, c81) := ctr_ok fun xs h => f81_ok xs h
end Go.TM.Tryz
end
section
set_option maxHeartbeats 8000000
set_option maxRecDepth 20000
namespace Go.TM.Tryz
open Go Go.TM Go.Proofs
noncomputable def c156 := ctr (fun s : Scp => ScLen s) (fun s => [s.v]) (fun s => (false, s.o))
theorem c156_eq (s : Scp) (h : ScLen s) : c156 [s.v] = some (false, s.o) := ctr_eq (inj0 Scp.v_inj _) s h rfl
theorem c156_ok : COK Tryz.prog (156, c156) := ctr_ok fun s h => f156_ok s h
def tree86 : TT := .two false 1 (.two false 2 (.two false 3 (.one false 4 (.one false 5 (.one false 6 (.one false 7 (.one false 8 (.one false 9 (.one false 10 .done))))))) false 4 (.two false 3 (.one false 5 (.one false 6 (.one false 7 (.one false 8 (.one false 9 (.one false 10 .done)))))) false 5 (.one false 3 (.one false 6 (.one false 7 (.one false 8 (.one false 9 (.one false 10 .done)))))))) false 4 (.two false 2 (.two false 3 (.one false 5 (.one false 6 (.one false 7 (.one false 8 (.one false 9 (.one false 10 .done)))))) false 5 (.one false 3 (.one false 6 (.one false 7 (.one false 8 (.one false 9 (.one false 10 .done))))))) false 5 (.one false 2 (.one false 3 (.one false 6 (.one false 7 (.one false 8 (.one false 9 (.one false 10 .done))))))))) false 4 (.two false 1 (.two false 2 (.two false 3 (.one false 5 (.one false 6 (.one false 7 (.one false 8 (.one false 9 (.one false 10 .done)))))) false 5 (.one false 3 (.one false 6 (.one false 7 (.one false 8 (.one false 9 (.one false 10 .done))))))) false 5 (.one false 2 (.one false 3 (.one false 6 (.one false 7 (.one false 8 (.one false 9 (.one false 10 .done)))))))) false 5 (.one false 1 (.one false 2 (.one false 3 (.one false 6 (.one false 7 (.one false 8 (.one false 9 (.one false 10 .done)))))))))
def cut86 : Pl := ⟨[0], [], [], [1, 2, 3, 4, 5, 6, 7, 8, 9, 10], tree86⟩
theorem cut86_run {E : Env} (pl : Option (List (Nat × Bool))) (ops : Array Oper) (k : List Fr) (Q : X → S → Prop) (s : S) : aftE (some cut86) pl ops k E Q s = preK E ops k Q tree86 [(0, false)] s := rfl
theorem f86_ok (xs : List Mdl) (h : MdsLen xs) : FunOK Tryz.prog 86 [.lst (xs.map Mdl.v)] false (.inl 6 (xs.map Mdl.o)) := by
  refine fun_ok (mkE2_ok zmix (cl := [(156, c156), (157, c157)]) (gl := []) [] [(5, cut86)] ⟨c156_ok, c157_ok⟩ trivial) Tryz.func86 (by kernel_rfl) ?_
  refine FunW_run _ _ rfl rfl ?_
  have hlen := h.len
  simp
  refine lp_list xs (fun i t => t.e 7 = .lst (xs.map Mdl.v) ∧ t.e 8 = .int .i64 xs.length ∧ t.e 9 = .int .i64 i ∧ ∃ p, t.e 3 = .own p ∧ p < t.nt ∧ t.R p = some ⟨6, (xs.take i).map Mdl.o, true⟩) ?_ ?_ ?_
  · simp
  · rintro c' L hL i t x hx hi ih ⟨h7, h8, h9, p, h3, hp, hR⟩
    have hw := wrI (i := i) (by omega)
    have hxm := List.mem_of_getElem? hx
    have e156 := c156_eq x.scope (h.sc x hxm)
    have e157 := c157_eq x.seen (h.sn x hxm)
    simp only [Scp.v, Scp.o] at e156
    have hmin : min i xs.length = i := by omega
    have hr := roomMd (n := i + 1) (by omega)
    have n1 : ¬ p = t.nt := by omega
    have n2 : ¬ p = t.nt + 1 := by omega
    have n3 : ¬ p = t.nt + 1 + 1 := by omega
    have n4 : ¬ p = t.nt + 1 + 1 + 1 := by omega
    have n5 : ¬ p = t.nt + 1 + 1 + 1 + 1 := by omega
    have n6 : ¬ p = t.nt + 1 + 1 + 1 + 1 + 1 := by omega
    have n7 : ¬ p = t.nt + 1 + 1 + 1 + 1 + 1 + 1 := by omega
    have n8 : ¬ p = t.nt + 1 + 1 + 1 + 1 + 1 + 1 + 1 := by omega
    have n9 : ¬ p = t.nt + 1 + 1 + 1 + 1 + 1 + 1 + 1 + 1 := by omega
    have n10 : ¬ p = t.nt + 1 + 1 + 1 + 1 + 1 + 1 + 1 + 1 + 1 := by omega
    have n11 : ¬ p = t.nt + 1 + 1 + 1 + 1 + 1 + 1 + 1 + 1 + 1 + 1 := by omega
    have n12 : ¬ p = t.nt + 1 + 1 + 1 + 1 + 1 + 1 + 1 + 1 + 1 + 1 + 1 := by omega
    have n13 : ¬ p = t.nt + 1 + 1 + 1 + 1 + 1 + 1 + 1 + 1 + 1 + 1 + 1 + 1 := by omega
    have n14 : ¬ p = t.nt + 1 + 1 + 1 + 1 + 1 + 1 + 1 + 1 + 1 + 1 + 1 + 1 + 1 := by omega
    have n15 : ¬ p = t.nt + 1 + 1 + 1 + 1 + 1 + 1 + 1 + 1 + 1 + 1 + 1 + 1 + 1 + 1 := by omega
    simp [-getElem?_pos, gcz, gcs, h7, h8, h9, h3, hR, hL, hi, hx, e156, e157, n1, n2, n3, n4, n5, n6, n7, n8, n9, n10, n11, n12, n13, n14, n15, hr, hmin, -aftE_some, cut86_run, tree86, pureOp]
    repeat' apply And.intro
    all_goals
      refine ih _ ?_
      simp [h7, h8, h9, h3, hR, hw, n1, n2, n3, n4, n5, n6, n7, n8, n9, n10, n11, n12, n13, n14, n15, List.take_add_one, hx]
  · rintro c' t ⟨h7, h8, h9, p, h3, hp, hR⟩
    rw [List.take_length] at hR
    simp [h7, h8, h9, h3, hR]
noncomputable def c86 := ctr (fun xs : List Mdl => MdsLen xs) (fun xs => [.lst (xs.map Mdl.v)]) (fun xs => (false, .inl 6 (xs.map Mdl.o)))
theorem c86_eq (xs : List Mdl) (h : MdsLen xs) : c86 [.lst (xs.map Mdl.v)] = some (false, .inl 6 (xs.map Mdl.o)) := ctr_eq (injl Mdl.v_inj _) xs h rfl
theorem c86_ok : COK Tryz.prog (86, c86) := ctr_ok fun xs h => f86_ok xs h
@[simp] theorem cut_rm (xs : List RM) : (xs = [] ∨ (leaves ((Option.map RM.v xs[0]?).getD .bad)).length = 6) = True := cut_ok (f := RM.v) (n := 6) (fun _ => rfl) xs
@[simp] theorem norms_rm (xs : List RM) : norms (xs.map RM.v) = xs.map RM.v := by rw [norms_map]; simp
@[simp] theorem noLs_rms (xs : List RM) : noLs (xs.map RM.s) = true := noLs_map _ (by simp) _
theorem f85r_ok (xs : List RM) (hlen : xs.length ≤ 1048576) : FunOK Tryz.prog 85 [.lst (xs.map RM.v)] false (.inl 5 (xs.map RM.s)) := by
  refine fun_ok (mkE_ok zmix (cl := []) (gl := []) [] trivial trivial) Tryz.func85 (by kernel_rfl) ?_
  refine FunW_run _ _ rfl rfl ?_
  simp
  refine lp_list xs (fun i t => t.e 7 = .lst (xs.map RM.v) ∧ t.e 8 = .int .i64 xs.length ∧ t.e 9 = .int .i64 i ∧ ∃ p, t.e 3 = .own p ∧ p < t.nt ∧ t.R p = some ⟨5, (xs.take i).map RM.s, true⟩) ?_ ?_ ?_
  · simp
  · rintro c' L hL i t x hx hi ih ⟨h7, h8, h9, p, h3, hp, hR⟩
    have hw := wrI (i := i) (by omega)
    have n1 : ¬ p = t.nt := by omega
    have n2 : ¬ p = t.nt + 1 := by omega
    have n3 : ¬ p = t.nt + 1 + 1 := by omega
    have n4 : ¬ p = t.nt + 1 + 1 + 1 := by omega
    have n5 : ¬ p = t.nt + 1 + 1 + 1 + 1 := by omega
    have n6 : ¬ p = t.nt + 1 + 1 + 1 + 1 + 1 := by omega
    have hmin : min i xs.length = i := by omega
    have hr := roomSc (n := i + 1) (by omega)
    simp [-getElem?_pos, gcz, gcs, h7, h8, h9, h3, hR, hL, hi, hx, n1, n2, n3, n4, n5, n6, hr, hmin]
    refine ih _ ?_
    simp [h7, h8, h9, h3, hR, hw, n1, n2, n3, n4, n5, n6, List.take_add_one, hx]
  · rintro c' t ⟨h7, h8, h9, p, h3, hp, hR⟩
    rw [List.take_length] at hR
    simp [h7, h8, h9, h3, hR]
theorem f85g_ok (xs : List Mdl) (hlen : xs.length ≤ 1048576) : GenOK Tryz.prog 85 [.inl 6 (xs.map Mdl.o)] [] ⟨true, .inl 5 ((mdsL xs).map Scp.o), [.bad], []⟩ := by
  have h := mods_gen (P := Tryz.prog) (f := 85) (xs := xs) fun es he => f85r_ok es (by omega)
  have e : (mdsL xs).map Scp.o = xs.map fun x => x.scope.o := by simp [mdsL, Function.comp_def]
  rw [e]
  exact h
theorem injG0 {α : Type} {f : α → V} (hf : Function.Injective f) {z : Nat} {β : Type} (out : List α → β) : ∀ a b : List α, (([V.inl z (a.map f)], []) : List V × List V) = ([V.inl z (b.map f)], []) → out a = out b := by
  intro a b h
  simp only [Prod.mk.injEq, List.cons.injEq, and_true, V.inl.injEq, true_and] at h
  rw [map_inj hf h]
noncomputable def c85g := ctrG (fun xs : List Mdl => xs.length ≤ 1048576) (fun xs => ([.inl 6 (xs.map Mdl.o)], [])) (fun xs => ⟨true, .inl 5 ((mdsL xs).map Scp.o), [.bad], []⟩)
theorem c85g_eq (xs : List Mdl) (h : xs.length ≤ 1048576) : c85g [.inl 6 (xs.map Mdl.o)] [] = some ⟨true, .inl 5 ((mdsL xs).map Scp.o), [.bad], []⟩ := ctrG_eq (injG0 Mdl.o_inj _) xs h rfl
theorem c85g_ok : GOK Tryz.prog (85, [true], c85g) := ctrG_ok fun xs h => f85g_ok xs h
noncomputable def modsOut (xs : List Mdl) : List Scp := if goodB xs = true then mdsL xs else []
noncomputable def modsO (xs : List Mdl) : V := .tup [.inl 5 ((modsOut xs).map Scp.o), .bool (goodB xs)]
theorem f24_ok (xs : List Mdl) (h : StOK xs) : FunOK Tryz.prog 24 [.lst (xs.map Mdl.v)] false (modsO xs) := by
  refine fun_ok (mkE_ok zmix (cl := [(84, c84), (86, c86)]) (gl := [(85, [true], c85g)]) [] ⟨c84_ok, c86_ok⟩ c85g_ok) Tryz.func24 (by kernel_rfl) ?_
  refine FunW_run _ _ rfl rfl ?_
  have e84 := c84_eq xs h
  have e86 := c86_eq xs h.len
  have e85 := c85g_eq xs h.len.len
  cases hg : goodB xs with
  | false =>
    rw [hg] at e84
    simp [e84, modsO, modsOut, hg]
  | true =>
    rw [hg] at e84
    simp [e84, e86, e85, modsO, modsOut, hg]
theorem f22_ok (xs : List Mdl) (h : StOK xs) : FunOK Tryz.prog 22 [.lst (xs.map Mdl.v)] false (modsO xs) := by
  refine fun_ok (mkE_ok zmix (cl := [(81, c81), (82, c82)]) (gl := []) [] ⟨c81_ok, c82_ok⟩ trivial) Tryz.func22 (by kernel_rfl) ?_
  refine FunW_run _ _ rfl rfl ?_
  have e81 := c81_eq xs h
  have e82 := c82_eq xs h.len
  cases hg : goodB xs with
  | false =>
    rw [hg] at e81
    simp [e81, modsO, modsOut, hg]
  | true =>
    rw [hg] at e81
    simp [e81, e82, modsO, modsOut, hg]
end Go.TM.Tryz
end
section
namespace Go.TM
open Go
theorem cnt_mk {α : Type} {mk : Int → α → α} {c : α → Nat} (h : ∀ k x, c (mk k x) = c x) : ∀ (k : Int) (xs : List α), cnt c (mkL mk c k xs) = cnt c xs
  | k, [] => rfl
  | k, x :: xs => by
    have ih := cnt_mk h (k + c x) xs
    simp only [cnt] at ih ⊢
    simp only [mkL, List.map_cons, List.sum_cons, ih, h]
theorem cStr_mk (k : Int) (x : ByteArray) : cStr (mkStr k x) = cStr x := rfl
theorem cFld_mk (k : Int) (x : Fld) : cFld (mkFld k x) = cFld x := rfl
theorem cPar_mk (k : Int) (x : Par) : cPar (mkPar k x) = cPar x := rfl
theorem cUse_mk (k : Int) (x : Use) : cUse (mkUse k x) = cUse x := rfl
theorem cTy_mk (k : Int) (x : Ty) : cTy (mkTy k x) = cTy x := by
  simp only [cTy, mkTy, cnt_mk cFld_mk]
theorem cObj_mk (k : Int) (x : Obj) : cObj (mkObj k x) = cObj x := by
  simp only [cObj, mkObj, cnt_mk cPar_mk]
noncomputable def ctrH {α : Type} (mk : Int → α → α) (c : α → Nat) (f : α → V) (p : List α → Int → Prop) : List V → Option (Bool × V) :=
  ctr (fun a : List α × Int => ∃ xs, a.1 = mkL mk c a.2 xs ∧ p xs a.2) (fun a => [.lst (a.1.map f), .int .i64 a.2]) (fun a => (false, .int .i64 (a.2 + (cnt c a.1 : Nat))))
theorem ctrH_eq {α : Type} {mk : Int → α → α} {c : α → Nat} {f : α → V} {p : List α → Int → Prop} (hc : ∀ k x, c (mk k x) = c x) (hf : Function.Injective f) (xs : List α) (k : Int) (h : p xs k) :
    ctrH mk c f p [.lst ((mkL mk c k xs).map f), .int .i64 k] = some (false, .int .i64 (k + (cnt c xs : Nat))) := by
  have h1 := ctr_eq (p := fun a : List α × Int => ∃ xs, a.1 = mkL mk c a.2 xs ∧ p xs a.2) (enc := fun a => [.lst (a.1.map f), .int .i64 a.2]) (out := fun a => (false, .int .i64 (a.2 + (cnt c a.1 : Nat)))) (injl1 hf _) (mkL mk c k xs, k) ⟨xs, rfl, h⟩ rfl
  simp only [cnt_mk hc] at h1
  exact h1
theorem ctrH_ok {α : Type} {mk : Int → α → α} {c : α → Nat} {f : α → V} {p : List α → Int → Prop} {P : Program} {n : Nat} (hc : ∀ k x, c (mk k x) = c x) (hf : ∀ xs k, p xs k → FunOK P n [.lst ((mkL mk c k xs).map f), .int .i64 k] false (.int .i64 (k + (cnt c xs : Nat)))) :
    COK P (n, ctrH mk c f p) := ctr_ok fun a h => by
  obtain ⟨zs, k⟩ := a
  obtain ⟨xs, e, h⟩ := h
  simp only at e h
  subst e
  simp only [cnt_mk hc]
  exact hf xs k h
end Go.TM
end
section
set_option maxHeartbeats 8000000
set_option maxRecDepth 20000
namespace Go.TM.Tryz
open Go Go.TM Go.Proofs
theorem nsk1 (n : Nat) : (1 = n + 1 + 1) = (n + 1 = 0) := by simp
theorem nsk2 (n : Nat) : (1 = n + 1 + 1 + 1) = (n + 1 + 1 = 0) := by simp
theorem nsk3 (n : Nat) : (n = n + 1 + 1) = False := eq_false (by omega)
theorem nsk4 (n : Nat) : (n = n + 1 + 1 + 1) = False := eq_false (by omega)
theorem nsk5 (n : Nat) : (n + 1 + 1 = n) = False := eq_false (by omega)
theorem nsk6 (n : Nat) : (n + 1 + 1 + 1 = n) = False := eq_false (by omega)
def mkScs (k : Int) (x : Scp) : Scp :=
  ⟨mtext k, mkL mkStr cStr (k + 1) x.imports, mkL mkTy cTy (k + 1 + (cnt cStr x.imports : Nat)) x.types, mkL mkObj cObj (k + 1 + (cnt cStr x.imports : Nat) + (cnt cTy x.types : Nat)) x.objects,
    mkL mkUse cUse (k + 1 + (cnt cStr x.imports : Nat) + (cnt cTy x.types : Nat) + (cnt cObj x.objects : Nat)) x.uses⟩
def cScs (x : Scp) : Nat := 1 + cnt cStr x.imports + cnt cTy x.types + cnt cObj x.objects + cnt cUse x.uses
def ScpLen (x : Scp) : Prop := x.imports.length ≤ 4611686018427387904 ∧ (x.types.length ≤ 4611686018427387904 ∧ ∀ y ∈ x.types, y.fields.length ≤ 4611686018427387904) ∧ (x.objects.length ≤ 4611686018427387904 ∧ ∀ y ∈ x.objects, y.params.length ≤ 4611686018427387904) ∧ x.uses.length ≤ 4611686018427387904
theorem f28_ok (xs : List Scp) (k : Int) (h0 : 0 ≤ k) (h1 : k + cnt cScs xs ≤ 4611686018427387904) (h2 : xs.length ≤ 4611686018427387904 ∧ ∀ x ∈ xs, ScpLen x) : GenOK Tryz.prog 28 [.inl 5 (xs.map Scp.o), .int .i64 k] [] ⟨false, .int .i64 (k + cnt cScs xs), [.inl 5 ((mkL mkScs cScs k xs).map Scp.o)], []⟩ := by
  refine fun_okG (mkE_ok zmix (cl := [(88, c88)]) (gl := [(45, [true], c45), (50, [true], c50), (70, [true], c70), (71, [true], c71)]) [] c88_ok ⟨c45_ok, c50_ok, c70_ok, c71_ok⟩) Tryz.func28 (by kernel_rfl) ?_
  refine FunG_run _ _ rfl rfl ?_
  have hlen := h2.1
  simp
  refine lp_list xs (fun i t => t.e 0 = .own 0 ∧ t.e 1 = .int .i64 (k + pre cScs xs i) ∧ t.e 5 = .int .i64 i ∧ t.nb = 0 ∧ 1 ≤ t.nt ∧ t.R 0 = some ⟨5, (mpart mkScs cScs k xs i).map Scp.o, true⟩) ?_ ?_ ?_
  · simp [pre_zero, mpart_zero]
  · rintro c' L hL i t x hx hi ih ⟨g0, g1, g5, gnb, gnt, gR⟩
    have hw := wrI (i := i) (by omega)
    have hp := pre_succ cScs hx
    have hp2 := pre_le cScs xs (i + 1)
    have hc : cScs x = 1 + cnt cStr x.imports + cnt cTy x.types + cnt cObj x.objects + cnt cUse x.uses := rfl
    have hcnt : (xs.map cScs).sum = cnt cScs xs := rfl
    obtain ⟨n1, n2, n3, n4⟩ := h2.2 x (List.mem_of_getElem? hx)
    have e0 := c88_eq (k + (pre cScs xs i : Nat)) (by omega)
    have w0 : IntKind.i64.wrap (k + (pre cScs xs i : Nat) + 1) = k + (pre cScs xs i : Nat) + 1 := wrap64 (by omega) (by omega)
    have e1 := c50_eq x.imports (k + (pre cScs xs i : Nat) + 1) (by omega) (by omega) n1
    have e2 := c70_eq x.types (k + (pre cScs xs i : Nat) + 1 + (cnt cStr x.imports : Nat)) (by omega) (by omega) n2
    have e3 := c71_eq x.objects (k + (pre cScs xs i : Nat) + 1 + (cnt cStr x.imports : Nat) + (cnt cTy x.types : Nat)) (by omega) (by omega) n3
    have e4 := c45_eq x.uses (k + (pre cScs xs i : Nat) + 1 + (cnt cStr x.imports : Nat) + (cnt cTy x.types : Nat) + (cnt cObj x.objects : Nat)) (by omega) (by omega) n4
    have hx' := mpart_get (f := mkScs) (c := cScs) (k := k) hx
    simp [-getElem?_pos, gcz, gcs, g0, g1, g5, gnb, gR, hL, hx', hi, e0, w0, e1, e2, e3, e4]
    refine ih _ ?_
    simp [-getElem?_pos, gcz, gcs, g0, g1, g5, gnb, gR, hL, hx', hi, e0, w0, e1, e2, e3, e4, hp, hc, hw]
    first
      | exact ⟨by omega, by omega, mpart_setv hx rfl⟩
      | exact ⟨by omega, mpart_setv hx rfl⟩
      | exact mpart_setv hx rfl
  · rintro c' t ⟨g0, g1, g5, gnb, gnt, gR⟩
    simp only [pre_all] at g1
    simp [g0, g1, g5, gnb, gR, mpart_all, cnt]
theorem Scp.o_inj : Function.Injective Scp.o := by
  rintro ⟨⟩ ⟨⟩ h
  simp only [Scp.o, V.agg.injEq, List.cons.injEq, V.inl.injEq, V.str.injEq, true_and, and_true] at h
  rw [Scp.mk.injEq]
  exact ⟨h.1, map_inj str_inj h.2.1, map_inj Ty.o_inj h.2.2.1, map_inj Obj.o_inj h.2.2.2.1, map_inj Use.v_inj h.2.2.2.2⟩
noncomputable def c28 := ctrG (fun a : List Scp × Int => 0 ≤ a.2 ∧ a.2 + cnt cScs a.1 ≤ 4611686018427387904 ∧ (a.1.length ≤ 4611686018427387904 ∧ ∀ x ∈ a.1, ScpLen x)) (fun a => ([.inl 5 (a.1.map Scp.o), .int .i64 a.2], [])) (fun a => ⟨false, .int .i64 (a.2 + cnt cScs a.1), [.inl 5 ((mkL mkScs cScs a.2 a.1).map Scp.o)], []⟩)
theorem c28_eq (xs : List Scp) (k : Int) (h0 : 0 ≤ k) (h1 : k + cnt cScs xs ≤ 4611686018427387904) (h2 : xs.length ≤ 4611686018427387904 ∧ ∀ x ∈ xs, ScpLen x) : c28 [.inl 5 (xs.map Scp.o), .int .i64 k] [] = some ⟨false, .int .i64 (k + cnt cScs xs), [.inl 5 ((mkL mkScs cScs k xs).map Scp.o)], []⟩ := ctrG_eq (injG Scp.o_inj _) (xs, k) ⟨h0, h1, h2⟩ rfl
theorem c28_ok : GOK Tryz.prog (28, [true], c28) := ctrG_ok fun a h => f28_ok a.1 a.2 h.1 h.2.1 h.2.2
end Go.TM.Tryz
end
section
set_option maxHeartbeats 2000000
set_option maxRecDepth 10000
namespace Go.TM.Tryz
open Go Go.TM Go.Proofs
theorem f51_ok (xs : List ByteArray) (k : Int) (h0 : 0 ≤ k) (h1 : k + cnt cStr xs ≤ 4611686018427387904) (h2 : xs.length ≤ 4611686018427387904) : FunOK Tryz.prog 51 [.lst ((mkL mkStr cStr k xs).map V.str), .int .i64 k] false (.int .i64 (k + cnt cStr xs)) := by
  refine fun_ok (mkE_ok zmix (cl := [(88, c88)]) (gl := []) [] c88_ok trivial) Tryz.func51 (by kernel_rfl) ?_
  refine FunW_run _ _ rfl rfl ?_
  have hlen := h2
  simp
  refine lp_list xs (fun i t => t.e 0 = .lst ((mkL mkStr cStr k xs).map V.str) ∧ t.e 1 = .int .i64 (k + pre cStr xs i) ∧ t.e 5 = .int .i64 i) ?_ ?_ ?_
  · simp [pre_zero]
  · rintro c' L hL i t x hx hi ih ⟨g0, g1, g5⟩
    have hw := wrI (i := i) (by omega)
    have hp := pre_succ cStr hx
    have hp2 := pre_le cStr xs (i + 1)
    have hc : cStr x = 1 := rfl
    have hcnt : (xs.map cStr).sum = cnt cStr xs := rfl
    have e0 := c88_eq (k + (pre cStr xs i : Nat)) (by omega)
    have w0 : IntKind.i64.wrap (k + (pre cStr xs i : Nat) + 1) = k + (pre cStr xs i : Nat) + 1 := wrap64 (by omega) (by omega)
    have hx' := mkL_get mkStr cStr k hx
    simp [-getElem?_pos, gcz, gcs, g0, g1, g5, hL, hx', hi, mkStr, e0, w0]
    refine ih _ ?_
    simp [-getElem?_pos, gcz, gcs, g0, g1, g5, hL, hx', hi, e0, w0, hp, hc, hw] <;> omega
  · rintro c' t ⟨g0, g1, g5⟩
    simp only [pre_all] at g1
    simp [g0, g1, g5, cnt]
noncomputable def c51 := ctrH mkStr cStr V.str (fun xs k => 0 ≤ k ∧ k + cnt cStr xs ≤ 4611686018427387904 ∧ (xs.length ≤ 4611686018427387904))
theorem c51_eq (xs : List ByteArray) (k : Int) (h0 : 0 ≤ k) (h1 : k + cnt cStr xs ≤ 4611686018427387904) (h2 : xs.length ≤ 4611686018427387904) : c51 [.lst ((mkL mkStr cStr k xs).map V.str), .int .i64 k] = some (false, .int .i64 (k + cnt cStr xs)) := ctrH_eq cStr_mk str_inj xs k ⟨h0, h1, h2⟩
theorem c51_ok : COK Tryz.prog (51, c51) := ctrH_ok cStr_mk fun xs k h => f51_ok xs k h.1 h.2.1 h.2.2
theorem f138_ok (xs : List Fld) (k : Int) (h0 : 0 ≤ k) (h1 : k + cnt cFld xs ≤ 4611686018427387904) (h2 : xs.length ≤ 4611686018427387904) : FunOK Tryz.prog 138 [.lst ((mkL mkFld cFld k xs).map Fld.v), .int .i64 k] false (.int .i64 (k + cnt cFld xs)) := by
  refine fun_ok (mkE_ok zmix (cl := [(88, c88)]) (gl := []) [] c88_ok trivial) Tryz.func138 (by kernel_rfl) ?_
  refine FunW_run _ _ rfl rfl ?_
  have hlen := h2
  simp
  refine lp_list xs (fun i t => t.e 0 = .lst ((mkL mkFld cFld k xs).map Fld.v) ∧ t.e 1 = .int .i64 (k + pre cFld xs i) ∧ t.e 5 = .int .i64 i) ?_ ?_ ?_
  · simp [pre_zero]
  · rintro c' L hL i t x hx hi ih ⟨g0, g1, g5⟩
    have hw := wrI (i := i) (by omega)
    have hp := pre_succ cFld hx
    have hp2 := pre_le cFld xs (i + 1)
    have hc : cFld x = 3 := rfl
    have hcnt : (xs.map cFld).sum = cnt cFld xs := rfl
    have e0 := c88_eq (k + (pre cFld xs i : Nat)) (by omega)
    have w0 : IntKind.i64.wrap (k + (pre cFld xs i : Nat) + 1) = k + (pre cFld xs i : Nat) + 1 := wrap64 (by omega) (by omega)
    have w1 : IntKind.i64.wrap (k + (pre cFld xs i : Nat) + 1 + 1) = k + (pre cFld xs i : Nat) + 1 + 1 := wrap64 (by omega) (by omega)
    have w2 : IntKind.i64.wrap (k + (pre cFld xs i : Nat) + 1 + 1 + 1) = k + (pre cFld xs i : Nat) + 1 + 1 + 1 := wrap64 (by omega) (by omega)
    have hx' := mkL_get mkFld cFld k hx
    simp [-getElem?_pos, gcz, gcs, g0, g1, g5, hL, hx', hi, mkFld, e0, w0, w1, w2]
    refine ih _ ?_
    simp [-getElem?_pos, gcz, gcs, g0, g1, g5, hL, hx', hi, e0, w0, w1, w2, hp, hc, hw] <;> omega
  · rintro c' t ⟨g0, g1, g5⟩
    simp only [pre_all] at g1
    simp [g0, g1, g5, cnt]
noncomputable def c138 := ctrH mkFld cFld Fld.v (fun xs k => 0 ≤ k ∧ k + cnt cFld xs ≤ 4611686018427387904 ∧ (xs.length ≤ 4611686018427387904))
theorem c138_eq (xs : List Fld) (k : Int) (h0 : 0 ≤ k) (h1 : k + cnt cFld xs ≤ 4611686018427387904) (h2 : xs.length ≤ 4611686018427387904) : c138 [.lst ((mkL mkFld cFld k xs).map Fld.v), .int .i64 k] = some (false, .int .i64 (k + cnt cFld xs)) := ctrH_eq cFld_mk Fld.v_inj xs k ⟨h0, h1, h2⟩
theorem c138_ok : COK Tryz.prog (138, c138) := ctrH_ok cFld_mk fun xs k h => f138_ok xs k h.1 h.2.1 h.2.2
theorem f139_ok (xs : List Par) (k : Int) (h0 : 0 ≤ k) (h1 : k + cnt cPar xs ≤ 4611686018427387904) (h2 : xs.length ≤ 4611686018427387904) : FunOK Tryz.prog 139 [.lst ((mkL mkPar cPar k xs).map Par.v), .int .i64 k] false (.int .i64 (k + cnt cPar xs)) := by
  refine fun_ok (mkE_ok zmix (cl := [(88, c88)]) (gl := []) [] c88_ok trivial) Tryz.func139 (by kernel_rfl) ?_
  refine FunW_run _ _ rfl rfl ?_
  have hlen := h2
  simp
  refine lp_list xs (fun i t => t.e 0 = .lst ((mkL mkPar cPar k xs).map Par.v) ∧ t.e 1 = .int .i64 (k + pre cPar xs i) ∧ t.e 5 = .int .i64 i) ?_ ?_ ?_
  · simp [pre_zero]
  · rintro c' L hL i t x hx hi ih ⟨g0, g1, g5⟩
    have hw := wrI (i := i) (by omega)
    have hp := pre_succ cPar hx
    have hp2 := pre_le cPar xs (i + 1)
    have hc : cPar x = 3 := rfl
    have hcnt : (xs.map cPar).sum = cnt cPar xs := rfl
    have e0 := c88_eq (k + (pre cPar xs i : Nat)) (by omega)
    have w0 : IntKind.i64.wrap (k + (pre cPar xs i : Nat) + 1) = k + (pre cPar xs i : Nat) + 1 := wrap64 (by omega) (by omega)
    have w1 : IntKind.i64.wrap (k + (pre cPar xs i : Nat) + 1 + 1) = k + (pre cPar xs i : Nat) + 1 + 1 := wrap64 (by omega) (by omega)
    have w2 : IntKind.i64.wrap (k + (pre cPar xs i : Nat) + 1 + 1 + 1) = k + (pre cPar xs i : Nat) + 1 + 1 + 1 := wrap64 (by omega) (by omega)
    have hx' := mkL_get mkPar cPar k hx
    simp [-getElem?_pos, gcz, gcs, g0, g1, g5, hL, hx', hi, mkPar, e0, w0, w1, w2]
    refine ih _ ?_
    simp [-getElem?_pos, gcz, gcs, g0, g1, g5, hL, hx', hi, e0, w0, w1, w2, hp, hc, hw] <;> omega
  · rintro c' t ⟨g0, g1, g5⟩
    simp only [pre_all] at g1
    simp [g0, g1, g5, cnt]
noncomputable def c139 := ctrH mkPar cPar Par.v (fun xs k => 0 ≤ k ∧ k + cnt cPar xs ≤ 4611686018427387904 ∧ (xs.length ≤ 4611686018427387904))
theorem c139_eq (xs : List Par) (k : Int) (h0 : 0 ≤ k) (h1 : k + cnt cPar xs ≤ 4611686018427387904) (h2 : xs.length ≤ 4611686018427387904) : c139 [.lst ((mkL mkPar cPar k xs).map Par.v), .int .i64 k] = some (false, .int .i64 (k + cnt cPar xs)) := ctrH_eq cPar_mk Par.v_inj xs k ⟨h0, h1, h2⟩
theorem c139_ok : COK Tryz.prog (139, c139) := ctrH_ok cPar_mk fun xs k h => f139_ok xs k h.1 h.2.1 h.2.2
theorem f46_ok (xs : List Use) (k : Int) (h0 : 0 ≤ k) (h1 : k + cnt cUse xs ≤ 4611686018427387904) (h2 : xs.length ≤ 4611686018427387904) : FunOK Tryz.prog 46 [.lst ((mkL mkUse cUse k xs).map Use.v), .int .i64 k] false (.int .i64 (k + cnt cUse xs)) := by
  refine fun_ok (mkE_ok zmix (cl := [(88, c88)]) (gl := []) [] c88_ok trivial) Tryz.func46 (by kernel_rfl) ?_
  refine FunW_run _ _ rfl rfl ?_
  have hlen := h2
  simp
  refine lp_list xs (fun i t => t.e 0 = .lst ((mkL mkUse cUse k xs).map Use.v) ∧ t.e 1 = .int .i64 (k + pre cUse xs i) ∧ t.e 5 = .int .i64 i) ?_ ?_ ?_
  · simp [pre_zero]
  · rintro c' L hL i t x hx hi ih ⟨g0, g1, g5⟩
    have hw := wrI (i := i) (by omega)
    have hp := pre_succ cUse hx
    have hp2 := pre_le cUse xs (i + 1)
    have hc : cUse x = 2 := rfl
    have hcnt : (xs.map cUse).sum = cnt cUse xs := rfl
    have e0 := c88_eq (k + (pre cUse xs i : Nat)) (by omega)
    have w0 : IntKind.i64.wrap (k + (pre cUse xs i : Nat) + 1) = k + (pre cUse xs i : Nat) + 1 := wrap64 (by omega) (by omega)
    have e1 := c88_eq (k + (pre cUse xs i : Nat) + 1) (by omega)
    have w1 : IntKind.i64.wrap (k + (pre cUse xs i : Nat) + 1 + 1) = k + (pre cUse xs i : Nat) + 1 + 1 := wrap64 (by omega) (by omega)
    have hx' := mkL_get mkUse cUse k hx
    simp [-getElem?_pos, gcz, gcs, g0, g1, g5, hL, hx', hi, mkUse, e0, w0, e1, w1]
    refine ih _ ?_
    simp [-getElem?_pos, gcz, gcs, g0, g1, g5, hL, hx', hi, e0, w0, e1, w1, hp, hc, hw] <;> omega
  · rintro c' t ⟨g0, g1, g5⟩
    simp only [pre_all] at g1
    simp [g0, g1, g5, cnt]
noncomputable def c46 := ctrH mkUse cUse Use.v (fun xs k => 0 ≤ k ∧ k + cnt cUse xs ≤ 4611686018427387904 ∧ (xs.length ≤ 4611686018427387904))
theorem c46_eq (xs : List Use) (k : Int) (h0 : 0 ≤ k) (h1 : k + cnt cUse xs ≤ 4611686018427387904) (h2 : xs.length ≤ 4611686018427387904) : c46 [.lst ((mkL mkUse cUse k xs).map Use.v), .int .i64 k] = some (false, .int .i64 (k + cnt cUse xs)) := ctrH_eq cUse_mk Use.v_inj xs k ⟨h0, h1, h2⟩
theorem c46_ok : COK Tryz.prog (46, c46) := ctrH_ok cUse_mk fun xs k h => f46_ok xs k h.1 h.2.1 h.2.2
theorem f72_ok (xs : List Ty) (k : Int) (h0 : 0 ≤ k) (h1 : k + cnt cTy xs ≤ 4611686018427387904) (h2 : xs.length ≤ 4611686018427387904 ∧ ∀ x ∈ xs, x.fields.length ≤ 4611686018427387904) : FunOK Tryz.prog 72 [.lst ((mkL mkTy cTy k xs).map Ty.v), .int .i64 k] false (.int .i64 (k + cnt cTy xs)) := by
  refine fun_ok (mkE_ok zmix (cl := [(88, c88), (138, c138)]) (gl := []) [] ⟨c88_ok, c138_ok⟩ trivial) Tryz.func72 (by kernel_rfl) ?_
  refine FunW_run _ _ rfl rfl ?_
  have hlen := h2.1
  simp
  refine lp_list xs (fun i t => t.e 0 = .lst ((mkL mkTy cTy k xs).map Ty.v) ∧ t.e 1 = .int .i64 (k + pre cTy xs i) ∧ t.e 5 = .int .i64 i) ?_ ?_ ?_
  · simp [pre_zero]
  · rintro c' L hL i t x hx hi ih ⟨g0, g1, g5⟩
    have hw := wrI (i := i) (by omega)
    have hp := pre_succ cTy hx
    have hp2 := pre_le cTy xs (i + 1)
    have hc : cTy x = 5+cnt cFld x.fields := rfl
    have hcnt : (xs.map cTy).sum = cnt cTy xs := rfl
    have hlen3 : x.fields.length ≤ 4611686018427387904 := h2.2 x (List.mem_of_getElem? hx)
    have w0 : IntKind.i64.wrap (k + (pre cTy xs i : Nat) + 1) = k + (pre cTy xs i : Nat) + 1 := wrap64 (by omega) (by omega)
    have w1 : IntKind.i64.wrap (k + (pre cTy xs i : Nat) + 1 + 1) = k + (pre cTy xs i : Nat) + 1 + 1 := wrap64 (by omega) (by omega)
    have w2 : IntKind.i64.wrap (k + (pre cTy xs i : Nat) + 1 + 1 + 1) = k + (pre cTy xs i : Nat) + 1 + 1 + 1 := wrap64 (by omega) (by omega)
    have e3 := c138_eq x.fields (k + (pre cTy xs i : Nat) + 1 + 1 + 1) (by omega) (by omega) hlen3
    have n3 : ¬ k + (pre cTy xs i : Nat) + 1 + 1 + 1 + (cnt cFld x.fields : Nat) < 0 := by omega
    have e4 := c88_eq (k + (pre cTy xs i : Nat) + 1 + 1 + 1 + (cnt cFld x.fields : Nat)) (by omega)
    have w4 : IntKind.i64.wrap (k + (pre cTy xs i : Nat) + 1 + 1 + 1 + (cnt cFld x.fields : Nat) + 1) = k + (pre cTy xs i : Nat) + 1 + 1 + 1 + (cnt cFld x.fields : Nat) + 1 := wrap64 (by omega) (by omega)
    have e5 := c88_eq (k + (pre cTy xs i : Nat) + 1 + 1 + 1 + (cnt cFld x.fields : Nat) + 1) (by omega)
    have w5 : IntKind.i64.wrap (k + (pre cTy xs i : Nat) + 1 + 1 + 1 + (cnt cFld x.fields : Nat) + 1 + 1) = k + (pre cTy xs i : Nat) + 1 + 1 + 1 + (cnt cFld x.fields : Nat) + 1 + 1 := wrap64 (by omega) (by omega)
    have hx' := mkL_get mkTy cTy k hx
    simp [-getElem?_pos, gcz, gcs, g0, g1, g5, hL, hx', hi, mkTy, w0, w1, w2, e3, n3, e4, w4, e5, w5]
    refine ih _ ?_
    simp [-getElem?_pos, gcz, gcs, g0, g1, g5, hL, hx', hi, w0, w1, w2, e3, n3, e4, w4, e5, w5, hp, hc, hw] <;> omega
  · rintro c' t ⟨g0, g1, g5⟩
    simp only [pre_all] at g1
    simp [g0, g1, g5, cnt]
noncomputable def c72 := ctrH mkTy cTy Ty.v (fun xs k => 0 ≤ k ∧ k + cnt cTy xs ≤ 4611686018427387904 ∧ (xs.length ≤ 4611686018427387904 ∧ ∀ x ∈ xs, x.fields.length ≤ 4611686018427387904))
theorem c72_eq (xs : List Ty) (k : Int) (h0 : 0 ≤ k) (h1 : k + cnt cTy xs ≤ 4611686018427387904) (h2 : xs.length ≤ 4611686018427387904 ∧ ∀ x ∈ xs, x.fields.length ≤ 4611686018427387904) : c72 [.lst ((mkL mkTy cTy k xs).map Ty.v), .int .i64 k] = some (false, .int .i64 (k + cnt cTy xs)) := ctrH_eq cTy_mk Ty.v_inj xs k ⟨h0, h1, h2⟩
theorem c72_ok : COK Tryz.prog (72, c72) := ctrH_ok cTy_mk fun xs k h => f72_ok xs k h.1 h.2.1 h.2.2
theorem f73_ok (xs : List Obj) (k : Int) (h0 : 0 ≤ k) (h1 : k + cnt cObj xs ≤ 4611686018427387904) (h2 : xs.length ≤ 4611686018427387904 ∧ ∀ x ∈ xs, x.params.length ≤ 4611686018427387904) : FunOK Tryz.prog 73 [.lst ((mkL mkObj cObj k xs).map Obj.v), .int .i64 k] false (.int .i64 (k + cnt cObj xs)) := by
  refine fun_ok (mkE_ok zmix (cl := [(88, c88), (139, c139)]) (gl := []) [] ⟨c88_ok, c139_ok⟩ trivial) Tryz.func73 (by kernel_rfl) ?_
  refine FunW_run _ _ rfl rfl ?_
  have hlen := h2.1
  simp
  refine lp_list xs (fun i t => t.e 0 = .lst ((mkL mkObj cObj k xs).map Obj.v) ∧ t.e 1 = .int .i64 (k + pre cObj xs i) ∧ t.e 5 = .int .i64 i) ?_ ?_ ?_
  · simp [pre_zero]
  · rintro c' L hL i t x hx hi ih ⟨g0, g1, g5⟩
    have hw := wrI (i := i) (by omega)
    have hp := pre_succ cObj hx
    have hp2 := pre_le cObj xs (i + 1)
    have hc : cObj x = 5+cnt cPar x.params := rfl
    have hcnt : (xs.map cObj).sum = cnt cObj xs := rfl
    have hlen5 : x.params.length ≤ 4611686018427387904 := h2.2 x (List.mem_of_getElem? hx)
    have e0 := c88_eq (k + (pre cObj xs i : Nat)) (by omega)
    have w0 : IntKind.i64.wrap (k + (pre cObj xs i : Nat) + 1) = k + (pre cObj xs i : Nat) + 1 := wrap64 (by omega) (by omega)
    have w1 : IntKind.i64.wrap (k + (pre cObj xs i : Nat) + 1 + 1) = k + (pre cObj xs i : Nat) + 1 + 1 := wrap64 (by omega) (by omega)
    have w2 : IntKind.i64.wrap (k + (pre cObj xs i : Nat) + 1 + 1 + 1) = k + (pre cObj xs i : Nat) + 1 + 1 + 1 := wrap64 (by omega) (by omega)
    have w3 : IntKind.i64.wrap (k + (pre cObj xs i : Nat) + 1 + 1 + 1 + 1) = k + (pre cObj xs i : Nat) + 1 + 1 + 1 + 1 := wrap64 (by omega) (by omega)
    have w4 : IntKind.i64.wrap (k + (pre cObj xs i : Nat) + 1 + 1 + 1 + 1 + 1) = k + (pre cObj xs i : Nat) + 1 + 1 + 1 + 1 + 1 := wrap64 (by omega) (by omega)
    have e5 := c139_eq x.params (k + (pre cObj xs i : Nat) + 1 + 1 + 1 + 1 + 1) (by omega) (by omega) hlen5
    have n5 : ¬ k + (pre cObj xs i : Nat) + 1 + 1 + 1 + 1 + 1 + (cnt cPar x.params : Nat) < 0 := by omega
    have hx' := mkL_get mkObj cObj k hx
    simp [-getElem?_pos, gcz, gcs, g0, g1, g5, hL, hx', hi, mkObj, e0, w0, w1, w2, w3, w4, e5, n5]
    refine ih _ ?_
    simp [-getElem?_pos, gcz, gcs, g0, g1, g5, hL, hx', hi, e0, w0, w1, w2, w3, w4, e5, n5, hp, hc, hw] <;> omega
  · rintro c' t ⟨g0, g1, g5⟩
    simp only [pre_all] at g1
    simp [g0, g1, g5, cnt]
noncomputable def c73 := ctrH mkObj cObj Obj.v (fun xs k => 0 ≤ k ∧ k + cnt cObj xs ≤ 4611686018427387904 ∧ (xs.length ≤ 4611686018427387904 ∧ ∀ x ∈ xs, x.params.length ≤ 4611686018427387904))
theorem c73_eq (xs : List Obj) (k : Int) (h0 : 0 ≤ k) (h1 : k + cnt cObj xs ≤ 4611686018427387904) (h2 : xs.length ≤ 4611686018427387904 ∧ ∀ x ∈ xs, x.params.length ≤ 4611686018427387904) : c73 [.lst ((mkL mkObj cObj k xs).map Obj.v), .int .i64 k] = some (false, .int .i64 (k + cnt cObj xs)) := ctrH_eq cObj_mk Obj.v_inj xs k ⟨h0, h1, h2⟩
theorem c73_ok : COK Tryz.prog (73, c73) := ctrH_ok cObj_mk fun xs k h => f73_ok xs k h.1 h.2.1 h.2.2
end Go.TM.Tryz
end
section
set_option maxHeartbeats 8000000
set_option maxRecDepth 20000
namespace Go.TM.Tryz
open Go Go.TM Go.Proofs
theorem cScs_mk (k : Int) (x : Scp) : cScs (mkScs k x) = cScs x := by
  simp only [cScs, mkScs, cnt_mk cStr_mk, cnt_mk cTy_mk, cnt_mk cObj_mk, cnt_mk cUse_mk]
theorem f29_ok (xs : List Scp) (k : Int) (h0 : 0 ≤ k) (h1 : k + cnt cScs xs ≤ 4611686018427387904) (h2 : xs.length ≤ 4611686018427387904 ∧ ∀ x ∈ xs, ScpLen x) : FunOK Tryz.prog 29 [.lst ((mkL mkScs cScs k xs).map Scp.v), .int .i64 k] false (.int .i64 (k + cnt cScs xs)) := by
  refine fun_ok (mkE_ok zmix (cl := [(88, c88), (51, c51), (72, c72), (73, c73), (46, c46)]) (gl := []) [] ⟨c88_ok, c51_ok, c72_ok, c73_ok, c46_ok⟩ trivial) Tryz.func29 (by kernel_rfl) ?_
  refine FunW_run _ _ rfl rfl ?_
  have hlen := h2.1
  simp
  refine lp_list xs (fun i t => t.e 0 = .lst ((mkL mkScs cScs k xs).map Scp.v) ∧ t.e 1 = .int .i64 (k + pre cScs xs i) ∧ t.e 5 = .int .i64 i) ?_ ?_ ?_
  · simp [pre_zero]
  · rintro c' L hL i t x hx hi ih ⟨g0, g1, g5⟩
    have hw := wrI (i := i) (by omega)
    have hp := pre_succ cScs hx
    have hp2 := pre_le cScs xs (i + 1)
    have hc : cScs x = 1 + cnt cStr x.imports + cnt cTy x.types + cnt cObj x.objects + cnt cUse x.uses := rfl
    have hcnt : (xs.map cScs).sum = cnt cScs xs := rfl
    obtain ⟨n1, n2, n3, n4⟩ := h2.2 x (List.mem_of_getElem? hx)
    have e0 := c88_eq (k + (pre cScs xs i : Nat)) (by omega)
    have w0 : IntKind.i64.wrap (k + (pre cScs xs i : Nat) + 1) = k + (pre cScs xs i : Nat) + 1 := wrap64 (by omega) (by omega)
    have e1 := c51_eq x.imports (k + (pre cScs xs i : Nat) + 1) (by omega) (by omega) n1
    have m1 : ¬ k + (pre cScs xs i : Nat) + 1 + (cnt cStr x.imports : Nat) < 0 := by omega
    have e2 := c72_eq x.types (k + (pre cScs xs i : Nat) + 1 + (cnt cStr x.imports : Nat)) (by omega) (by omega) n2
    have m2 : ¬ k + (pre cScs xs i : Nat) + 1 + (cnt cStr x.imports : Nat) + (cnt cTy x.types : Nat) < 0 := by omega
    have e3 := c73_eq x.objects (k + (pre cScs xs i : Nat) + 1 + (cnt cStr x.imports : Nat) + (cnt cTy x.types : Nat)) (by omega) (by omega) n3
    have m3 : ¬ k + (pre cScs xs i : Nat) + 1 + (cnt cStr x.imports : Nat) + (cnt cTy x.types : Nat) + (cnt cObj x.objects : Nat) < 0 := by omega
    have e4 := c46_eq x.uses (k + (pre cScs xs i : Nat) + 1 + (cnt cStr x.imports : Nat) + (cnt cTy x.types : Nat) + (cnt cObj x.objects : Nat)) (by omega) (by omega) n4
    have m4 : ¬ k + (pre cScs xs i : Nat) + 1 + (cnt cStr x.imports : Nat) + (cnt cTy x.types : Nat) + (cnt cObj x.objects : Nat) + (cnt cUse x.uses : Nat) < 0 := by omega
    have hx' := mkL_get mkScs cScs k hx
    simp [-getElem?_pos, gcz, gcs, g0, g1, g5, hL, hx', hi, mkScs, e0, w0, e1, m1, e2, m2, e3, m3, e4, m4]
    refine ih _ ?_
    simp [-getElem?_pos, gcz, gcs, g0, g1, g5, hL, hx', hi, mkScs, e0, w0, e1, m1, e2, m2, e3, m3, e4, m4, hp, hc, hw] <;> omega
  · rintro c' t ⟨g0, g1, g5⟩
    simp only [pre_all] at g1
    simp [g0, g1, g5, cnt]
noncomputable def c29 := ctrH mkScs cScs Scp.v (fun xs k => 0 ≤ k ∧ k + cnt cScs xs ≤ 4611686018427387904 ∧ (xs.length ≤ 4611686018427387904 ∧ ∀ x ∈ xs, ScpLen x))
theorem c29_eq (xs : List Scp) (k : Int) (h0 : 0 ≤ k) (h1 : k + cnt cScs xs ≤ 4611686018427387904) (h2 : xs.length ≤ 4611686018427387904 ∧ ∀ x ∈ xs, ScpLen x) : c29 [.lst ((mkL mkScs cScs k xs).map Scp.v), .int .i64 k] = some (false, .int .i64 (k + cnt cScs xs)) := ctrH_eq cScs_mk Scp.v_inj xs k ⟨h0, h1, h2⟩
theorem c29_ok : COK Tryz.prog (29, c29) := ctrH_ok cScs_mk fun xs k h => f29_ok xs k h.1 h.2.1 h.2.2
end Go.TM.Tryz
end
section
set_option maxHeartbeats 8000000
set_option maxRecDepth 20000
namespace Go.TM.Tryz
open Go Go.TM Go.Proofs
theorem nsk7 (n : Nat) : (1 = n + 1 + 1 + 1 + 1) = (n + 1 + 1 + 1 = 0) := by simp
theorem nsk8 (n : Nat) : (n = n + 1 + 1 + 1 + 1) = False := eq_false (by omega)
theorem nsk9 (n : Nat) : (n + 1 + 1 + 1 + 1 = n) = False := eq_false (by omega)
theorem nsk10 (n : Nat) : (1 = n + 1 + 1 + 1 + 1 + 1) = (n + 1 + 1 + 1 + 1 = 0) := by simp
theorem nsk11 (n : Nat) : (n = n + 1 + 1 + 1 + 1 + 1) = False := eq_false (by omega)
theorem nsk12 (n : Nat) : (n + 1 + 1 + 1 + 1 + 1 = n) = False := eq_false (by omega)
theorem f83_ok (x : Mdl) (h : x.sz ≤ 1048576) : FunOK Tryz.prog 83 [x.v] false x.o := by
  refine fun_ok (mkE_ok zmix (cl := [(14, c14), (42, c42)]) (gl := []) [] ⟨c14_ok, c42_ok⟩ trivial) Tryz.func83 (by kernel_rfl) ?_
  refine FunW_run _ _ rfl rfl ?_
  simp only [Mdl.sz] at h
  have e0 := c14_eq x.scope.name x.scope.imports x.scope.types x.scope.objects x.scope.uses (by show x.scope.sz ≤ 1048576; omega)
  have e1 := c42_eq x.seen (by omega)
  simp [e0, e1]
noncomputable def c83 := ctr (fun x : Mdl => x.sz ≤ 1048576) (fun x => [x.v]) (fun x => (false, x.o))
theorem c83_eq (x : Mdl) (h : x.sz ≤ 1048576) : c83 [x.v] = some (false, x.o) := ctr_eq (inj0 Mdl.v_inj _) x h rfl
theorem c83_ok : COK Tryz.prog (83, c83) := ctr_ok fun n h => f83_ok n h
theorem f23_ok (xs : List Mdl) (h : szL Mdl.sz xs ≤ 1048576) : FunOK Tryz.prog 23 [.lst (xs.map Mdl.v)] false (.inl 6 (xs.map Mdl.o)) := by
  refine fun_ok (mkE_ok zmix (cl := [(83, c83)]) (gl := []) [] c83_ok trivial) Tryz.func23 (by kernel_rfl) ?_
  refine FunW_run _ _ rfl rfl ?_
  have hl := szL_len Mdl.sz xs
  have hb2 : xs.length * 136 ≤ 140737488355328 := by omega
  have hb3 : xs.length ≤ 4294967296 := by omega
  simp [room, hb2, hb3]
  refine lp_list xs (fun i t => t.e 0 = .lst (xs.map Mdl.v) ∧ t.e 4 = .int .i64 i ∧ t.e 3 = .own 1 ∧ 2 ≤ t.nt ∧ t.nb = 0 ∧ t.R 1 = some ⟨6, fill Mdl.o (.agg [.str ⟨#[]⟩, .inl 1 [], .inl 6 [], .inl 6 [], .inl 2 [], .inl 3 []]) xs i, true⟩) ?_ ?_ ?_
  · simp [fill_zero]
  · rintro c' L hL i t x hx hi ih ⟨h0, h4, h3, hnt, hnb, hR⟩
    have hw := wrI (i := i) (by omega)
    have hn : ¬ 1 = t.nt := by omega
    have hn0 : ¬ t.nt = 0 := by omega
    have hc := c83_eq x (Nat.le_trans (szL_get hx) h)
    simp only [Mdl.v, Mdl.o] at hc
    simp [-getElem?_pos, gcz, gcs, h0, h4, h3, hnb, hR, hL, hx, hi, fill_get hi, hn, hn0, nsk1, nsk2, nsk3, nsk4, nsk5, nsk6, nsk7, nsk8, nsk9, nsk10, nsk11, nsk12, hc]
    refine ih _ ?_
    simp [-getElem?_pos, gcz, gcs, h0, h4, h3, hnb, hR, hL, hx, hi, hw, hn, hn0, nsk1, nsk2, nsk3, nsk4, nsk5, nsk6, nsk7, nsk8, nsk9, nsk10, nsk11, nsk12]
    first | exact ⟨by omega, fill_set hx rfl⟩ | exact fill_set hx rfl
  · rintro c' t ⟨h0, h4, h3, hnt, hnb, hR⟩
    simp [h0, h4, h3, hnb, hR, fill_all]
noncomputable def c23 := ctr (fun xs : List Mdl => szL Mdl.sz xs ≤ 1048576) (fun xs => [.lst (xs.map Mdl.v)]) (fun xs => (false, .inl 6 (xs.map Mdl.o)))
theorem c23_eq (xs : List Mdl) (h : szL Mdl.sz xs ≤ 1048576) : c23 [.lst (xs.map Mdl.v)] = some (false, .inl 6 (xs.map Mdl.o)) := ctr_eq (injl Mdl.v_inj _) xs h rfl
theorem c23_ok : COK Tryz.prog (23, c23) := ctr_ok fun n h => f23_ok n h
end Go.TM.Tryz
end
section
set_option maxHeartbeats 2000000
namespace Go.TM.Tryz
open Go Go.TM Go.Proofs
theorem f49_ok (xs : List ByteArray) (hlim : limL strLim xs) : FunOK Tryz.prog 49 [.lst (xs.map V.str), .lst (xs.map V.str)] false (.bool true) := by
  refine fun_ok (mkE_ok zmix (cl := []) (gl := []) [] trivial trivial) Tryz.func49 (by kernel_rfl) ?_
  refine FunW_run _ _ rfl rfl ?_
  have hlen := hlim.1
  simp only [lim] at hlen
  simp
  refine lp_list xs (fun i t => t.e 0 = .lst (xs.map V.str) ∧ t.e 1 = .lst (xs.map V.str) ∧ t.e 5 = .int .i64 i) ?_ ?_ ?_
  · simp
  · rintro c' L hL i t x hx hi ih ⟨g0, g1, g5⟩
    have hw := wrI (i := i) (by omega)
    simp [-getElem?_pos, gcz, gcs, g0, g1, g5, hL, hx, hi]
    refine ih _ ?_
    simp [-getElem?_pos, gcz, gcs, g0, g1, g5, hL, hx, hi, hw]
  · rintro c' t ⟨g0, g1, g5⟩
    simp [g0, g1, g5]
noncomputable def c49 := ctr (fun xs : List ByteArray => limL strLim xs) (fun xs => [.lst (xs.map V.str), .lst (xs.map V.str)]) (fun _ => (false, .bool true))
theorem c49_eq (xs : List ByteArray) (h : limL strLim xs) : c49 [.lst (xs.map V.str), .lst (xs.map V.str)] = some (false, .bool true) := ctr_eq (fun _ _ _ => rfl) xs h rfl
theorem c49_ok : COK Tryz.prog (49, c49) := ctr_ok fun xs h => f49_ok xs h
theorem f228_ok (x : Fld) (h : x.lim) : FunOK Tryz.prog 228 [x.v, x.v] false (.bool true) := by
  refine fun_ok (mkE_ok zmix (cl := []) (gl := []) [] trivial trivial) Tryz.func228 (by kernel_rfl) ?_
  refine FunW_run _ _ rfl rfl ?_
  simp []
noncomputable def c228 := ctr (fun x : Fld => x.lim) (fun x => [x.v, x.v]) (fun _ => (false, .bool true))
theorem c228_eq (x : Fld) (h : x.lim) : c228 [x.v, x.v] = some (false, .bool true) := ctr_eq (fun _ _ _ => rfl) x h rfl
theorem c228_ok : COK Tryz.prog (228, c228) := ctr_ok fun x h => f228_ok x h
theorem f185_ok (xs : List Fld) (hlim : limL Fld.lim xs) : FunOK Tryz.prog 185 [.lst (xs.map Fld.v), .lst (xs.map Fld.v)] false (.bool true) := by
  refine fun_ok (mkE_ok zmix (cl := [(228, c228)]) (gl := []) [] c228_ok trivial) Tryz.func185 (by kernel_rfl) ?_
  refine FunW_run _ _ rfl rfl ?_
  have hlen := hlim.1
  simp only [lim] at hlen
  simp
  refine lp_list xs (fun i t => t.e 0 = .lst (xs.map Fld.v) ∧ t.e 1 = .lst (xs.map Fld.v) ∧ t.e 5 = .int .i64 i) ?_ ?_ ?_
  · simp
  · rintro c' L hL i t x hx hi ih ⟨g0, g1, g5⟩
    have hw := wrI (i := i) (by omega)
    have e := c228_eq x (hlim.2 x (List.mem_of_getElem? hx))
    simp only [Fld.v] at e
    simp [-getElem?_pos, gcz, gcs, g0, g1, g5, hL, hx, hi, e]
    refine ih _ ?_
    simp [-getElem?_pos, gcz, gcs, g0, g1, g5, hL, hx, hi, hw]
  · rintro c' t ⟨g0, g1, g5⟩
    simp [g0, g1, g5]
noncomputable def c185 := ctr (fun xs : List Fld => limL Fld.lim xs) (fun xs => [.lst (xs.map Fld.v), .lst (xs.map Fld.v)]) (fun _ => (false, .bool true))
theorem c185_eq (xs : List Fld) (h : limL Fld.lim xs) : c185 [.lst (xs.map Fld.v), .lst (xs.map Fld.v)] = some (false, .bool true) := ctr_eq (fun _ _ _ => rfl) xs h rfl
theorem c185_ok : COK Tryz.prog (185, c185) := ctr_ok fun xs h => f185_ok xs h
theorem f229_ok (x : Par) (h : x.lim) : FunOK Tryz.prog 229 [x.v, x.v] false (.bool true) := by
  refine fun_ok (mkE_ok zmix (cl := []) (gl := []) [] trivial trivial) Tryz.func229 (by kernel_rfl) ?_
  refine FunW_run _ _ rfl rfl ?_
  simp []
noncomputable def c229 := ctr (fun x : Par => x.lim) (fun x => [x.v, x.v]) (fun _ => (false, .bool true))
theorem c229_eq (x : Par) (h : x.lim) : c229 [x.v, x.v] = some (false, .bool true) := ctr_eq (fun _ _ _ => rfl) x h rfl
theorem c229_ok : COK Tryz.prog (229, c229) := ctr_ok fun x h => f229_ok x h
theorem f186_ok (xs : List Par) (hlim : limL Par.lim xs) : FunOK Tryz.prog 186 [.lst (xs.map Par.v), .lst (xs.map Par.v)] false (.bool true) := by
  refine fun_ok (mkE_ok zmix (cl := [(229, c229)]) (gl := []) [] c229_ok trivial) Tryz.func186 (by kernel_rfl) ?_
  refine FunW_run _ _ rfl rfl ?_
  have hlen := hlim.1
  simp only [lim] at hlen
  simp
  refine lp_list xs (fun i t => t.e 0 = .lst (xs.map Par.v) ∧ t.e 1 = .lst (xs.map Par.v) ∧ t.e 5 = .int .i64 i) ?_ ?_ ?_
  · simp
  · rintro c' L hL i t x hx hi ih ⟨g0, g1, g5⟩
    have hw := wrI (i := i) (by omega)
    have e := c229_eq x (hlim.2 x (List.mem_of_getElem? hx))
    simp only [Par.v] at e
    simp [-getElem?_pos, gcz, gcs, g0, g1, g5, hL, hx, hi, e]
    refine ih _ ?_
    simp [-getElem?_pos, gcz, gcs, g0, g1, g5, hL, hx, hi, hw]
  · rintro c' t ⟨g0, g1, g5⟩
    simp [g0, g1, g5]
noncomputable def c186 := ctr (fun xs : List Par => limL Par.lim xs) (fun xs => [.lst (xs.map Par.v), .lst (xs.map Par.v)]) (fun _ => (false, .bool true))
theorem c186_eq (xs : List Par) (h : limL Par.lim xs) : c186 [.lst (xs.map Par.v), .lst (xs.map Par.v)] = some (false, .bool true) := ctr_eq (fun _ _ _ => rfl) xs h rfl
theorem c186_ok : COK Tryz.prog (186, c186) := ctr_ok fun xs h => f186_ok xs h
theorem f104_ok (x : Use) (h : x.lim) : FunOK Tryz.prog 104 [x.v, x.v] false (.bool true) := by
  refine fun_ok (mkE_ok zmix (cl := []) (gl := []) [] trivial trivial) Tryz.func104 (by kernel_rfl) ?_
  refine FunW_run _ _ rfl rfl ?_
  simp []
noncomputable def c104 := ctr (fun x : Use => x.lim) (fun x => [x.v, x.v]) (fun _ => (false, .bool true))
theorem c104_eq (x : Use) (h : x.lim) : c104 [x.v, x.v] = some (false, .bool true) := ctr_eq (fun _ _ _ => rfl) x h rfl
theorem c104_ok : COK Tryz.prog (104, c104) := ctr_ok fun x h => f104_ok x h
theorem f44_ok (xs : List Use) (hlim : limL Use.lim xs) : FunOK Tryz.prog 44 [.lst (xs.map Use.v), .lst (xs.map Use.v)] false (.bool true) := by
  refine fun_ok (mkE_ok zmix (cl := [(104, c104)]) (gl := []) [] c104_ok trivial) Tryz.func44 (by kernel_rfl) ?_
  refine FunW_run _ _ rfl rfl ?_
  have hlen := hlim.1
  simp only [lim] at hlen
  simp
  refine lp_list xs (fun i t => t.e 0 = .lst (xs.map Use.v) ∧ t.e 1 = .lst (xs.map Use.v) ∧ t.e 5 = .int .i64 i) ?_ ?_ ?_
  · simp
  · rintro c' L hL i t x hx hi ih ⟨g0, g1, g5⟩
    have hw := wrI (i := i) (by omega)
    have e := c104_eq x (hlim.2 x (List.mem_of_getElem? hx))
    simp only [Use.v] at e
    simp [-getElem?_pos, gcz, gcs, g0, g1, g5, hL, hx, hi, e]
    refine ih _ ?_
    simp [-getElem?_pos, gcz, gcs, g0, g1, g5, hL, hx, hi, hw]
  · rintro c' t ⟨g0, g1, g5⟩
    simp [g0, g1, g5]
noncomputable def c44 := ctr (fun xs : List Use => limL Use.lim xs) (fun xs => [.lst (xs.map Use.v), .lst (xs.map Use.v)]) (fun _ => (false, .bool true))
theorem c44_eq (xs : List Use) (h : limL Use.lim xs) : c44 [.lst (xs.map Use.v), .lst (xs.map Use.v)] = some (false, .bool true) := ctr_eq (fun _ _ _ => rfl) xs h rfl
theorem c44_ok : COK Tryz.prog (44, c44) := ctr_ok fun xs h => f44_ok xs h
theorem f134_ok (x : Ty) (h : x.lim) : FunOK Tryz.prog 134 [x.v, x.v] false (.bool true) := by
  refine fun_ok (mkE_ok zmix (cl := [(185, c185)]) (gl := []) [] c185_ok trivial) Tryz.func134 (by kernel_rfl) ?_
  refine FunW_run _ _ rfl rfl ?_
  simp only [Ty.lim] at h
  obtain ⟨l0, l1, l2⟩ := h
  have e0 := c185_eq x.fields l0
  simp [e0]
noncomputable def c134 := ctr (fun x : Ty => x.lim) (fun x => [x.v, x.v]) (fun _ => (false, .bool true))
theorem c134_eq (x : Ty) (h : x.lim) : c134 [x.v, x.v] = some (false, .bool true) := ctr_eq (fun _ _ _ => rfl) x h rfl
theorem c134_ok : COK Tryz.prog (134, c134) := ctr_ok fun x h => f134_ok x h
theorem f68_ok (xs : List Ty) (hlim : limL Ty.lim xs) : FunOK Tryz.prog 68 [.lst (xs.map Ty.v), .lst (xs.map Ty.v)] false (.bool true) := by
  refine fun_ok (mkE_ok zmix (cl := [(134, c134)]) (gl := []) [] c134_ok trivial) Tryz.func68 (by kernel_rfl) ?_
  refine FunW_run _ _ rfl rfl ?_
  have hlen := hlim.1
  simp only [lim] at hlen
  simp
  refine lp_list xs (fun i t => t.e 0 = .lst (xs.map Ty.v) ∧ t.e 1 = .lst (xs.map Ty.v) ∧ t.e 5 = .int .i64 i) ?_ ?_ ?_
  · simp
  · rintro c' L hL i t x hx hi ih ⟨g0, g1, g5⟩
    have hw := wrI (i := i) (by omega)
    have e := c134_eq x (hlim.2 x (List.mem_of_getElem? hx))
    simp only [Ty.v] at e
    simp [-getElem?_pos, gcz, gcs, g0, g1, g5, hL, hx, hi, e]
    refine ih _ ?_
    simp [-getElem?_pos, gcz, gcs, g0, g1, g5, hL, hx, hi, hw]
  · rintro c' t ⟨g0, g1, g5⟩
    simp [g0, g1, g5]
noncomputable def c68 := ctr (fun xs : List Ty => limL Ty.lim xs) (fun xs => [.lst (xs.map Ty.v), .lst (xs.map Ty.v)]) (fun _ => (false, .bool true))
theorem c68_eq (xs : List Ty) (h : limL Ty.lim xs) : c68 [.lst (xs.map Ty.v), .lst (xs.map Ty.v)] = some (false, .bool true) := ctr_eq (fun _ _ _ => rfl) xs h rfl
theorem c68_ok : COK Tryz.prog (68, c68) := ctr_ok fun xs h => f68_ok xs h
theorem f135_ok (x : Obj) (h : x.lim) : FunOK Tryz.prog 135 [x.v, x.v] false (.bool true) := by
  refine fun_ok (mkE_ok zmix (cl := [(186, c186)]) (gl := []) [] c186_ok trivial) Tryz.func135 (by kernel_rfl) ?_
  refine FunW_run _ _ rfl rfl ?_
  simp only [Obj.lim] at h
  obtain ⟨l0, l1⟩ := h
  have e1 := c186_eq x.params l1
  simp [e1]
noncomputable def c135 := ctr (fun x : Obj => x.lim) (fun x => [x.v, x.v]) (fun _ => (false, .bool true))
theorem c135_eq (x : Obj) (h : x.lim) : c135 [x.v, x.v] = some (false, .bool true) := ctr_eq (fun _ _ _ => rfl) x h rfl
theorem c135_ok : COK Tryz.prog (135, c135) := ctr_ok fun x h => f135_ok x h
theorem f69_ok (xs : List Obj) (hlim : limL Obj.lim xs) : FunOK Tryz.prog 69 [.lst (xs.map Obj.v), .lst (xs.map Obj.v)] false (.bool true) := by
  refine fun_ok (mkE_ok zmix (cl := [(135, c135)]) (gl := []) [] c135_ok trivial) Tryz.func69 (by kernel_rfl) ?_
  refine FunW_run _ _ rfl rfl ?_
  have hlen := hlim.1
  simp only [lim] at hlen
  simp
  refine lp_list xs (fun i t => t.e 0 = .lst (xs.map Obj.v) ∧ t.e 1 = .lst (xs.map Obj.v) ∧ t.e 5 = .int .i64 i) ?_ ?_ ?_
  · simp
  · rintro c' L hL i t x hx hi ih ⟨g0, g1, g5⟩
    have hw := wrI (i := i) (by omega)
    have e := c135_eq x (hlim.2 x (List.mem_of_getElem? hx))
    simp only [Obj.v] at e
    simp [-getElem?_pos, gcz, gcs, g0, g1, g5, hL, hx, hi, e]
    refine ih _ ?_
    simp [-getElem?_pos, gcz, gcs, g0, g1, g5, hL, hx, hi, hw]
  · rintro c' t ⟨g0, g1, g5⟩
    simp [g0, g1, g5]
noncomputable def c69 := ctr (fun xs : List Obj => limL Obj.lim xs) (fun xs => [.lst (xs.map Obj.v), .lst (xs.map Obj.v)]) (fun _ => (false, .bool true))
theorem c69_eq (xs : List Obj) (h : limL Obj.lim xs) : c69 [.lst (xs.map Obj.v), .lst (xs.map Obj.v)] = some (false, .bool true) := ctr_eq (fun _ _ _ => rfl) xs h rfl
theorem c69_ok : COK Tryz.prog (69, c69) := ctr_ok fun xs h => f69_ok xs h
theorem f16_ok (x : Scp) (h : x.lim) : FunOK Tryz.prog 16 [x.v, x.v] false (.bool true) := by
  refine fun_ok (mkE_ok zmix (cl := [(44, c44), (49, c49), (68, c68), (69, c69)]) (gl := []) [] ⟨c44_ok, c49_ok, c68_ok, c69_ok⟩ trivial) Tryz.func16 (by kernel_rfl) ?_
  refine FunW_run _ _ rfl rfl ?_
  simp only [Scp.lim] at h
  obtain ⟨l0, l1, l2, l3, l4⟩ := h
  have e1 := c49_eq x.imports l1
  have e2 := c68_eq x.types l2
  have e3 := c69_eq x.objects l3
  have e4 := c44_eq x.uses l4
  simp [e1, e2, e3, e4]
noncomputable def c16 := ctr (fun x : Scp => x.lim) (fun x => [x.v, x.v]) (fun _ => (false, .bool true))
theorem c16_eq (x : Scp) (h : x.lim) : c16 [x.v, x.v] = some (false, .bool true) := ctr_eq (fun _ _ _ => rfl) x h rfl
theorem c16_ok : COK Tryz.prog (16, c16) := ctr_ok fun x h => f16_ok x h
theorem f25_ok (xs : List Scp) (hlim : limL Scp.lim xs) : FunOK Tryz.prog 25 [.lst (xs.map Scp.v), .lst (xs.map Scp.v)] false (.bool true) := by
  refine fun_ok (mkE_ok zmix (cl := [(16, c16)]) (gl := []) [] c16_ok trivial) Tryz.func25 (by kernel_rfl) ?_
  refine FunW_run _ _ rfl rfl ?_
  have hlen := hlim.1
  simp only [lim] at hlen
  simp
  refine lp_list xs (fun i t => t.e 0 = .lst (xs.map Scp.v) ∧ t.e 1 = .lst (xs.map Scp.v) ∧ t.e 5 = .int .i64 i) ?_ ?_ ?_
  · simp
  · rintro c' L hL i t x hx hi ih ⟨g0, g1, g5⟩
    have hw := wrI (i := i) (by omega)
    have e := c16_eq x (hlim.2 x (List.mem_of_getElem? hx))
    simp only [Scp.v] at e
    simp [-getElem?_pos, gcz, gcs, g0, g1, g5, hL, hx, hi, e]
    refine ih _ ?_
    simp [-getElem?_pos, gcz, gcs, g0, g1, g5, hL, hx, hi, hw]
  · rintro c' t ⟨g0, g1, g5⟩
    simp [g0, g1, g5]
noncomputable def c25 := ctr (fun xs : List Scp => limL Scp.lim xs) (fun xs => [.lst (xs.map Scp.v), .lst (xs.map Scp.v)]) (fun _ => (false, .bool true))
theorem c25_eq (xs : List Scp) (h : limL Scp.lim xs) : c25 [.lst (xs.map Scp.v), .lst (xs.map Scp.v)] = some (false, .bool true) := ctr_eq (fun _ _ _ => rfl) xs h rfl
theorem c25_ok : COK Tryz.prog (25, c25) := ctr_ok fun xs h => f25_ok xs h
end Go.TM.Tryz
end
section
set_option maxHeartbeats 2000000
namespace Go.TM.Tryz
open Go Go.TM Go.Proofs
theorem f97_ok (x : Knw) (h : x.lim) : FunOK Tryz.prog 97 [x.v, x.v] false (.bool true) := by
  refine fun_ok (mkE_ok zmix (cl := []) (gl := []) [] trivial trivial) Tryz.func97 (by kernel_rfl) ?_
  refine FunW_run _ _ rfl rfl ?_
  simp []
noncomputable def c97 := ctr (fun x : Knw => x.lim) (fun x => [x.v, x.v]) (fun _ => (false, .bool true))
theorem c97_eq (x : Knw) (h : x.lim) : c97 [x.v, x.v] = some (false, .bool true) := ctr_eq (fun _ _ _ => rfl) x h rfl
theorem c97_ok : COK Tryz.prog (97, c97) := ctr_ok fun x h => f97_ok x h
theorem f37_ok (xs : List Knw) (hlim : limL Knw.lim xs) : FunOK Tryz.prog 37 [.lst (xs.map Knw.v), .lst (xs.map Knw.v)] false (.bool true) := by
  refine fun_ok (mkE_ok zmix (cl := [(97, c97)]) (gl := []) [] c97_ok trivial) Tryz.func37 (by kernel_rfl) ?_
  refine FunW_run _ _ rfl rfl ?_
  have hlen := hlim.1
  simp only [lim] at hlen
  simp
  refine lp_list xs (fun i t => t.e 0 = .lst (xs.map Knw.v) ∧ t.e 1 = .lst (xs.map Knw.v) ∧ t.e 5 = .int .i64 i) ?_ ?_ ?_
  · simp
  · rintro c' L hL i t x hx hi ih ⟨g0, g1, g5⟩
    have hw := wrI (i := i) (by omega)
    have e := c97_eq x (hlim.2 x (List.mem_of_getElem? hx))
    simp only [Knw.v] at e
    simp [-getElem?_pos, gcz, gcs, g0, g1, g5, hL, hx, hi, e]
    refine ih _ ?_
    simp [-getElem?_pos, gcz, gcs, g0, g1, g5, hL, hx, hi, hw]
  · rintro c' t ⟨g0, g1, g5⟩
    simp [g0, g1, g5]
noncomputable def c37 := ctr (fun xs : List Knw => limL Knw.lim xs) (fun xs => [.lst (xs.map Knw.v), .lst (xs.map Knw.v)]) (fun _ => (false, .bool true))
theorem c37_eq (xs : List Knw) (h : limL Knw.lim xs) : c37 [.lst (xs.map Knw.v), .lst (xs.map Knw.v)] = some (false, .bool true) := ctr_eq (fun _ _ _ => rfl) xs h rfl
theorem c37_ok : COK Tryz.prog (37, c37) := ctr_ok fun xs h => f37_ok xs h
end Go.TM.Tryz
end
section
set_option maxHeartbeats 4000000
namespace Go.TM.Tryz
open Go Go.TM Go.Proofs
theorem f87_ok (x : Mdl) (h : x.lim) : FunOK Tryz.prog 87 [x.v, x.v] false (.bool true) := by
  refine fun_ok (mkE_ok zmix (cl := [(16, c16), (37, c37)]) (gl := []) [] ⟨c16_ok, c37_ok⟩ trivial) Tryz.func87 (by kernel_rfl) ?_
  refine FunW_run _ _ rfl rfl ?_
  have e0 := c16_eq x.scope h.1
  simp only [Scp.v] at e0
  have e1 := c37_eq x.seen h.2
  simp [e0, e1]
noncomputable def c87 := ctr (fun x : Mdl => x.lim) (fun x => [x.v, x.v]) (fun _ => (false, .bool true))
theorem c87_eq (x : Mdl) (h : x.lim) : c87 [x.v, x.v] = some (false, .bool true) := ctr_eq (fun _ _ _ => rfl) x h rfl
theorem c87_ok : COK Tryz.prog (87, c87) := ctr_ok fun x h => f87_ok x h
theorem f26_ok (xs : List Mdl) (hlim : limL Mdl.lim xs) : FunOK Tryz.prog 26 [.lst (xs.map Mdl.v), .lst (xs.map Mdl.v)] false (.bool true) := by
  refine fun_ok (mkE_ok zmix (cl := [(87, c87)]) (gl := []) [] c87_ok trivial) Tryz.func26 (by kernel_rfl) ?_
  refine FunW_run _ _ rfl rfl ?_
  have hlen := hlim.1
  simp only [lim] at hlen
  simp
  refine lp_list xs (fun i t => t.e 0 = .lst (xs.map Mdl.v) ∧ t.e 1 = .lst (xs.map Mdl.v) ∧ t.e 5 = .int .i64 i) ?_ ?_ ?_
  · simp
  · rintro c' L hL i t x hx hi ih ⟨g0, g1, g5⟩
    have hw := wrI (i := i) (by omega)
    have e := c87_eq x (hlim.2 x (List.mem_of_getElem? hx))
    simp only [Mdl.v] at e
    simp [-getElem?_pos, gcz, gcs, g0, g1, g5, hL, hx, hi, e]
    refine ih _ ?_
    simp [-getElem?_pos, gcz, gcs, g0, g1, g5, hL, hx, hi, hw]
  · rintro c' t ⟨g0, g1, g5⟩
    simp [g0, g1, g5]
noncomputable def c26 := ctr (fun xs : List Mdl => limL Mdl.lim xs) (fun xs => [.lst (xs.map Mdl.v), .lst (xs.map Mdl.v)]) (fun _ => (false, .bool true))
theorem c26_eq (xs : List Mdl) (h : limL Mdl.lim xs) : c26 [.lst (xs.map Mdl.v), .lst (xs.map Mdl.v)] = some (false, .bool true) := ctr_eq (fun _ _ _ => rfl) xs h rfl
theorem c26_ok : COK Tryz.prog (26, c26) := ctr_ok fun xs h => f26_ok xs h
end Go.TM.Tryz
end
section
set_option maxHeartbeats 2000000
namespace Go.TM.Tryz
open Go Go.TM Go.Proofs
theorem f38_ok (xs : List Knw) (k : Int) (h0 : 0 ≤ k) (h1 : k + cnt cKnw xs ≤ 4611686018427387904) (h2 : xs.length ≤ 4611686018427387904) : GenOK Tryz.prog 38 [.inl 3 (xs.map Knw.v), .int .i64 k] [] ⟨false, .int .i64 (k + cnt cKnw xs), [.inl 3 ((mkL mkKnw cKnw k xs).map Knw.v)], []⟩ := by
  refine fun_okG (mkE_ok zmix (cl := [(88, c88)]) (gl := []) [] c88_ok trivial) Tryz.func38 (by kernel_rfl) ?_
  refine FunG_run _ _ rfl rfl ?_
  have hlen := h2
  simp
  refine lp_list xs (fun i t => t.e 0 = .own 0 ∧ t.e 1 = .int .i64 (k + pre cKnw xs i) ∧ t.e 5 = .int .i64 i ∧ t.nb = 0 ∧ 1 ≤ t.nt ∧ t.R 0 = some ⟨3, (mpart mkKnw cKnw k xs i).map Knw.v, true⟩) ?_ ?_ ?_
  · simp [pre_zero, mpart_zero]
  · rintro c' L hL i t x hx hi ih ⟨g0, g1, g5, gnb, gnt, gR⟩
    have hw := wrI (i := i) (by omega)
    have hp := pre_succ cKnw hx
    have hp2 := pre_le cKnw xs (i + 1)
    have hc : cKnw x = 3 := rfl
    have hcnt : (xs.map cKnw).sum = cnt cKnw xs := rfl
    have e0 := c88_eq (k + (pre cKnw xs i : Nat)) (by omega)
    have w0 : IntKind.i64.wrap (k + (pre cKnw xs i : Nat) + 1) = k + (pre cKnw xs i : Nat) + 1 := wrap64 (by omega) (by omega)
    have e1 := c88_eq (k + (pre cKnw xs i : Nat) + 1) (by omega)
    have w1 : IntKind.i64.wrap (k + (pre cKnw xs i : Nat) + 1 + 1) = k + (pre cKnw xs i : Nat) + 1 + 1 := wrap64 (by omega) (by omega)
    have w2 : IntKind.i64.wrap (k + (pre cKnw xs i : Nat) + 1 + 1 + 1) = k + (pre cKnw xs i : Nat) + 1 + 1 + 1 := wrap64 (by omega) (by omega)
    have hx' := mpart_get (f := mkKnw) (c := cKnw) (k := k) hx
    simp [-getElem?_pos, gcz, gcs, g0, g1, g5, gnb, gR, hL, hx', hi, e0, w0, e1, w1, w2]
    refine ih _ ?_
    simp [-getElem?_pos, gcz, gcs, g0, g1, g5, gnb, gR, hL, hx', hi, e0, w0, e1, w1, w2, hp, hc, hw]
    first
      | exact ⟨by omega, by omega, mpart_setv hx rfl⟩
      | exact ⟨by omega, mpart_setv hx rfl⟩
      | exact mpart_setv hx rfl
  · rintro c' t ⟨g0, g1, g5, gnb, gnt, gR⟩
    simp only [pre_all] at g1
    simp [g0, g1, g5, gnb, gR, mpart_all, cnt]
noncomputable def c38 := ctrG (fun a : List Knw × Int => 0 ≤ a.2 ∧ a.2 + cnt cKnw a.1 ≤ 4611686018427387904 ∧ (a.1.length ≤ 4611686018427387904)) (fun a => ([.inl 3 (a.1.map Knw.v), .int .i64 a.2], [])) (fun a => ⟨false, .int .i64 (a.2 + cnt cKnw a.1), [.inl 3 ((mkL mkKnw cKnw a.2 a.1).map Knw.v)], []⟩)
theorem c38_eq (xs : List Knw) (k : Int) (h0 : 0 ≤ k) (h1 : k + cnt cKnw xs ≤ 4611686018427387904) (h2 : xs.length ≤ 4611686018427387904) : c38 [.inl 3 (xs.map Knw.v), .int .i64 k] [] = some ⟨false, .int .i64 (k + cnt cKnw xs), [.inl 3 ((mkL mkKnw cKnw k xs).map Knw.v)], []⟩ := ctrG_eq (injG Knw.v_inj _) (xs, k) ⟨h0, h1, h2⟩ rfl
theorem c38_ok : GOK Tryz.prog (38, [true], c38) := ctrG_ok fun a h => f38_ok a.1 a.2 h.1 h.2.1 h.2.2
end Go.TM.Tryz
end
section
set_option maxHeartbeats 8000000
set_option maxRecDepth 20000
namespace Go.TM.Tryz
open Go Go.TM Go.Proofs
def mkMds (k : Int) (x : Mdl) : Mdl :=
  ⟨mkScs k x.scope, mkL mkKnw cKnw (k + 1 + (cnt cStr x.scope.imports : Nat) + (cnt cTy x.scope.types : Nat) + (cnt cObj x.scope.objects : Nat) + (cnt cUse x.scope.uses : Nat)) x.seen⟩
def cMds (x : Mdl) : Nat := cScs x.scope + cnt cKnw x.seen
def MdlLen (x : Mdl) : Prop := ScpLen x.scope ∧ x.seen.length ≤ 4611686018427387904
theorem f27_ok (xs : List Mdl) (k : Int) (h0 : 0 ≤ k) (h1 : k + cnt cMds xs ≤ 4611686018427387904) (h2 : xs.length ≤ 4611686018427387904 ∧ ∀ x ∈ xs, MdlLen x) : GenOK Tryz.prog 27 [.inl 6 (xs.map Mdl.o), .int .i64 k] [] ⟨false, .int .i64 (k + cnt cMds xs), [.inl 6 ((mkL mkMds cMds k xs).map Mdl.o)], []⟩ := by
  refine fun_okG (mkE_ok zmix (cl := [(88, c88)]) (gl := [(45, [true], c45), (50, [true], c50), (70, [true], c70), (71, [true], c71), (38, [true], c38)]) [] c88_ok ⟨c45_ok, c50_ok, c70_ok, c71_ok, c38_ok⟩) Tryz.func27 (by kernel_rfl) ?_
  refine FunG_run _ _ rfl rfl ?_
  have hlen := h2.1
  simp
  refine lp_list xs (fun i t => t.e 0 = .own 0 ∧ t.e 1 = .int .i64 (k + pre cMds xs i) ∧ t.e 5 = .int .i64 i ∧ t.nb = 0 ∧ 1 ≤ t.nt ∧ t.R 0 = some ⟨6, (mpart mkMds cMds k xs i).map Mdl.o, true⟩) ?_ ?_ ?_
  · simp [pre_zero, mpart_zero]
  · rintro c' L hL i t x hx hi ih ⟨g0, g1, g5, gnb, gnt, gR⟩
    have hw := wrI (i := i) (by omega)
    have hp := pre_succ cMds hx
    have hp2 := pre_le cMds xs (i + 1)
    have hc : cMds x = 1 + cnt cStr x.scope.imports + cnt cTy x.scope.types + cnt cObj x.scope.objects + cnt cUse x.scope.uses + cnt cKnw x.seen := rfl
    have hcnt : (xs.map cMds).sum = cnt cMds xs := rfl
    obtain ⟨⟨n1, n2, n3, n4⟩, n5⟩ := h2.2 x (List.mem_of_getElem? hx)
    have e0 := c88_eq (k + (pre cMds xs i : Nat)) (by omega)
    have w0 : IntKind.i64.wrap (k + (pre cMds xs i : Nat) + 1) = k + (pre cMds xs i : Nat) + 1 := wrap64 (by omega) (by omega)
    have e1 := c50_eq x.scope.imports (k + (pre cMds xs i : Nat) + 1) (by omega) (by omega) n1
    have e2 := c70_eq x.scope.types (k + (pre cMds xs i : Nat) + 1 + (cnt cStr x.scope.imports : Nat)) (by omega) (by omega) n2
    have e3 := c71_eq x.scope.objects (k + (pre cMds xs i : Nat) + 1 + (cnt cStr x.scope.imports : Nat) + (cnt cTy x.scope.types : Nat)) (by omega) (by omega) n3
    have e4 := c45_eq x.scope.uses (k + (pre cMds xs i : Nat) + 1 + (cnt cStr x.scope.imports : Nat) + (cnt cTy x.scope.types : Nat) + (cnt cObj x.scope.objects : Nat)) (by omega) (by omega) n4
    have e5 := c38_eq x.seen (k + (pre cMds xs i : Nat) + 1 + (cnt cStr x.scope.imports : Nat) + (cnt cTy x.scope.types : Nat) + (cnt cObj x.scope.objects : Nat) + (cnt cUse x.scope.uses : Nat)) (by omega) (by omega) n5
    have hx' := mpart_get (f := mkMds) (c := cMds) (k := k) hx
    simp [-getElem?_pos, gcz, gcs, g0, g1, g5, gnb, gR, hL, hx', hi, e0, w0, e1, e2, e3, e4, e5]
    refine ih _ ?_
    simp [-getElem?_pos, gcz, gcs, g0, g1, g5, gnb, gR, hL, hx', hi, e0, w0, e1, e2, e3, e4, e5, hp, hc, hw]
    first
      | exact ⟨by omega, by omega, mpart_setv hx rfl⟩
      | exact ⟨by omega, mpart_setv hx rfl⟩
      | exact mpart_setv hx rfl
  · rintro c' t ⟨g0, g1, g5, gnb, gnt, gR⟩
    simp only [pre_all] at g1
    simp [g0, g1, g5, gnb, gR, mpart_all, cnt]
noncomputable def c27 := ctrG (fun a : List Mdl × Int => 0 ≤ a.2 ∧ a.2 + cnt cMds a.1 ≤ 4611686018427387904 ∧ (a.1.length ≤ 4611686018427387904 ∧ ∀ x ∈ a.1, MdlLen x)) (fun a => ([.inl 6 (a.1.map Mdl.o), .int .i64 a.2], [])) (fun a => ⟨false, .int .i64 (a.2 + cnt cMds a.1), [.inl 6 ((mkL mkMds cMds a.2 a.1).map Mdl.o)], []⟩)
theorem c27_eq (xs : List Mdl) (k : Int) (h0 : 0 ≤ k) (h1 : k + cnt cMds xs ≤ 4611686018427387904) (h2 : xs.length ≤ 4611686018427387904 ∧ ∀ x ∈ xs, MdlLen x) : c27 [.inl 6 (xs.map Mdl.o), .int .i64 k] [] = some ⟨false, .int .i64 (k + cnt cMds xs), [.inl 6 ((mkL mkMds cMds k xs).map Mdl.o)], []⟩ := ctrG_eq (injG Mdl.o_inj _) (xs, k) ⟨h0, h1, h2⟩ rfl
theorem c27_ok : GOK Tryz.prog (27, [true], c27) := ctrG_ok fun a h => f27_ok a.1 a.2 h.1 h.2.1 h.2.2
end Go.TM.Tryz
end
section
namespace Go.TM
theorem cnt_le {α : Type} {c f : α → Nat} (h : ∀ x, c x ≤ 8 + 8 * f x) (xs : List α) : cnt c xs ≤ 8 * szL f xs := by
  induction xs with
  | nil => simp [cnt, szL]
  | cons x xs ih =>
    have := h x
    simp only [cnt, szL, List.map_cons, List.sum_cons, List.length_cons] at *
    omega
theorem cTy_le (x : Ty) : cTy x ≤ 8 + 8 * x.sz := by
  have := cnt_le (c := cFld) (f := Fld.sz) (fun y => by simp [cFld]; omega) x.fields
  simp only [cTy, Ty.sz]
  omega
theorem cObj_le (x : Obj) : cObj x ≤ 8 + 8 * x.sz := by
  have := cnt_le (c := cPar) (f := Par.sz) (fun y => by simp [cPar]; omega) x.params
  simp only [cObj, Obj.sz]
  omega
theorem Scp.lens {x : Scp} (h : x.sz ≤ 1048576) : x.imports.length ≤ 1048576 ∧ (x.types.length ≤ 1048576 ∧ ∀ y ∈ x.types, y.fields.length ≤ 1048576) ∧ (x.objects.length ≤ 1048576 ∧ ∀ y ∈ x.objects, y.params.length ≤ 1048576) ∧ x.uses.length ≤ 1048576 := by
  have h1 := szL_len ByteArray.size x.imports
  have h2 := szL_len Ty.sz x.types
  have h3 := szL_len Obj.sz x.objects
  have h4 := szL_len Use.sz x.uses
  simp only [Scp.sz] at h
  refine ⟨by omega, ⟨by omega, fun y hy => ?_⟩, ⟨by omega, fun y hy => ?_⟩, by omega⟩
  · have a := szL_mem (f := Ty.sz) hy
    have b := szL_len Fld.sz y.fields
    simp only [Ty.sz] at a
    omega
  · have a := szL_mem (f := Obj.sz) hy
    have b := szL_len Par.sz y.params
    simp only [Obj.sz] at a
    omega
end Go.TM
end
section
namespace Go.TM.Tryz
open Go Go.TM Go.Proofs
theorem cScs_le (x : Scp) : cScs x ≤ 8 + 8 * x.sz := by
  have h1 := cnt_le (c := cStr) (f := ByteArray.size) (fun y => by simp [cStr]; omega) x.imports
  have h2 := cnt_le (c := cTy) (f := Ty.sz) cTy_le x.types
  have h3 := cnt_le (c := cObj) (f := Obj.sz) cObj_le x.objects
  have h4 := cnt_le (c := cUse) (f := Use.sz) (fun y => by simp [cUse]; omega) x.uses
  simp only [cScs, Scp.sz]
  omega
theorem scpLen_of {x : Scp} (h : x.sz ≤ 1048576) : ScpLen x := by
  have hln := Scp.lens h
  exact ⟨by omega, ⟨by omega, fun y hy => by have := hln.2.1.2 y hy; omega⟩, ⟨by omega, fun y hy => by have := hln.2.2.1.2 y hy; omega⟩, by omega⟩
end Go.TM.Tryz
end
section
namespace Go.TM.Tryz
open Go Go.TM Go.Proofs
theorem cMds_le (x : Mdl) : cMds x ≤ 8 + 8 * x.sz := by
  have h1 := cScs_le x.scope
  have h2 := cnt_const (c := cKnw) (m := 3) (fun _ => rfl) x.seen
  have h3 := szL_len Knw.sz x.seen
  simp only [cMds, Mdl.sz]
  omega
theorem mdlLen_of {x : Mdl} (h : x.sz ≤ 1048576) : MdlLen x := by
  have h3 := szL_len Knw.sz x.seen
  simp only [Mdl.sz] at h
  exact ⟨scpLen_of (by omega), by omega⟩
end Go.TM.Tryz
end
section
set_option maxHeartbeats 8000000
set_option maxRecDepth 20000
namespace Go.TM.Tryz
open Go Go.TM Go.Proofs
theorem modsOut_mem {xs : List Mdl} {s : Scp} (h : s ∈ modsOut xs) : ∃ x ∈ xs, x.scope = s := by
  unfold modsOut at h
  split at h
  · exact List.mem_map.1 h
  · cases h
theorem modsOut_len (xs : List Mdl) : (modsOut xs).length ≤ xs.length := by
  unfold modsOut
  split <;> simp
theorem cnt_mods (xs : List Mdl) : cnt cScs (modsOut xs) ≤ cnt cMds xs := by
  unfold modsOut
  split
  · induction xs with
    | nil => simp [mdsL, cnt]
    | cons x xs ih =>
      rename_i hg
      clear hg
      have key : ∀ ys : List Mdl, cnt cScs (mdsL ys) ≤ cnt cMds ys := by
        intro ys
        induction ys with
        | nil => simp [mdsL, cnt]
        | cons y ys ih => simp [mdsL, cnt, cMds] at ih ⊢; omega
      exact key _
  · simp [cnt]
noncomputable def c22 := ctr (fun xs : List Mdl => StOK xs) (fun xs => [.lst (xs.map Mdl.v)]) (fun xs => (false, modsO xs))
theorem c22_eq (xs : List Mdl) (h : StOK xs) : c22 [.lst (xs.map Mdl.v)] = some (false, modsO xs) := ctr_eq (injl Mdl.v_inj _) xs h rfl
theorem c22_ok : COK Tryz.prog (22, c22) := ctr_ok fun xs h => f22_ok xs h
noncomputable def c24 := ctr (fun xs : List Mdl => StOK xs) (fun xs => [.lst (xs.map Mdl.v)]) (fun xs => (false, modsO xs))
theorem c24_eq (xs : List Mdl) (h : StOK xs) : c24 [.lst (xs.map Mdl.v)] = some (false, modsO xs) := ctr_eq (injl Mdl.v_inj _) xs h rfl
theorem c24_ok : COK Tryz.prog (24, c24) := ctr_ok fun xs h => f24_ok xs h
theorem f5_ok (xs : List Mdl) (hl : limL Mdl.lim xs) : FunOK Tryz.prog 5 [.lst (xs.map Mdl.v)] false (.bool true) := by
  refine fun_ok (mkE_ok zmix (cl := [(21, c21), (23, c23), (22, c22), (24, c24), (25, c25), (26, c26), (29, c29)]) (gl := [(27, [true], c27), (28, [true], c28)]) [] ⟨c21_ok, c23_ok, c22_ok, c24_ok, c25_ok, c26_ok, c29_ok⟩ ⟨c27_ok, c28_ok⟩) Tryz.func5 (by kernel_rfl) ?_
  refine FunW_run _ _ rfl rfl ?_
  have e21 := c21_eq xs 1048576 hl (by omega) (by omega)
  by_cases hz : ¬ (szL Mdl.sz xs : Int) ≤ 1048576
  · rw [szR_lt (by omega)] at e21
    simp [e21]
  have hz : szL Mdl.sz xs ≤ 1048576 := by omega
  rw [szR_ge (by omega)] at e21
  have h0' : ¬ (1048576 : Int) < (szL Mdl.sz xs : Nat) := by omega
  have hst : StOK xs := ⟨hl, mdsLen_of hz⟩
  have e23 := c23_eq xs hz
  have e22 := c22_eq xs hst
  have e24 := c24_eq xs hst
  have e26 := c26_eq xs hl
  simp only [modsO] at e22 e24
  have hRl := modsOut_len xs
  have hR : limL Scp.lim (modsOut xs) := ⟨Nat.le_trans hRl hl.1, fun s hs => by obtain ⟨x, hx, rfl⟩ := modsOut_mem hs; exact (hl.2 x hx).1⟩
  have e25 := c25_eq _ hR
  have hsl := szL_len Mdl.sz xs
  have hcl := cnt_le (c := cMds) (f := Mdl.sz) cMds_le xs
  have hml : ∀ x ∈ xs, MdlLen x := fun x hx => mdlLen_of (by have := szL_mem (f := Mdl.sz) hx; omega)
  have e27 := c27_eq xs 1 (by omega) (by omega) ⟨by omega, hml⟩
  have hcs := cnt_mods xs
  have hsc : ∀ s ∈ modsOut xs, ScpLen s := fun s hs => by obtain ⟨x, hx, rfl⟩ := modsOut_mem hs; exact (hml x hx).1
  generalize modsOut xs = names at *
  generalize goodB xs = good at *
  have e28 := c28_eq names 1 (by omega) (by omega) ⟨by omega, hsc⟩
  have e29 := c29_eq names 1 (by omega) (by omega) ⟨by omega, hsc⟩
  simp [e21, h0', e23, e22, e24, e25, e26, e27, e28, e29]
  omega
end Go.TM.Tryz
end
section
namespace Go.TM
open Go Go.RowKit
def mem1 (W : World) : Mem := ⟨Old W, fun _ => none, fun _ => 0, fun _ => undef, fun _ _ _ => undef, 0, 0⟩
theorem mem1_ok {W : World} {args : List V} (h : adCs args S.zero = (args, S.zero)) : MemOK (mem1 W) W (start args []) := by
  have hR : (start args []).R = fun _ => none := by simp only [start, h]; rfl
  have hB : (start args []).B = fun _ => none := by
    funext x
    simp [start, h, adCs]
  refine ⟨by simp only [start, h]; rfl, by simp only [start, h]; rfl, fun b c hb => ?_, fun t r hr => ?_, fun b hb => ⟨rfl, hb⟩, fun b l hl => (by cases hl), fun b t hl => (by cases hl), fun b k hl => (by cases hl)⟩
  · rw [hB] at hb; cases hb
  · rw [hR] at hr; cases hr
theorem close_bool {M : Mem} {W : World} {s : S} {k : Nat} {sv : V} {v : Value} {b : Bool} (hr : SR2 M W sv v) (hc : closeR s k sv = .bool b) : v = .bool b := by
  cases sv with
  | bool c =>
    simp [closeR, closeB, onL1, closeL] at hc
    subst hc
    exact hr
  | tup xs => simp [closeR] at hc
  | agg xs => simp [closeR, closeB, onL1] at hc
  | ptr b' o =>
    cases o with
    | zero =>
      simp only [closeR, closeB] at hc
      split at hc
      · split at hc <;> cases hc
      · cases hc
    | succ o => simp [closeR, closeB, onL1, closeL] at hc
  | own t =>
    simp only [closeR, closeB, onL1, closeL] at hc
    split at hc <;> cases hc
  | fn f caps => cases caps <;> simp [closeR, closeB, onL1, closeL] at hc
  | _ => simp [closeR, closeB, onL1, closeL] at hc
theorem run_true {P : Program} {f : FuncId} {args : List V} (h : FunOK P f args false (.bool true)) (hs : adCs args S.zero = (args, S.zero)) {W : World} {vs : List Value} (hv : All2 (SR1 (mem1 W) W) args vs) :
    Calls P f vs.toArray W fun e W' => e = .returned (.bool true) ∧ Below W.heap.size W W' := by
  refine (h.calls (mem1 W) W vs (mem1_ok hs) (by rw [hs]; exact hv)).mono ?_
  rintro e W' ⟨v, M', s', sv, rfl, hp⟩
  rw [close_bool hp.rel hp.res]
  exact ⟨rfl, hp.evo.os, hp.evo.tape, hp.evo.output, hp.evo.size, fun k hk => hp.evo.old k hk rfl⟩
end Go.TM
end
