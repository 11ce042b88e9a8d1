/- A part of the proof: ZMark, ZHeld. -/
import Derived.Test.YtknondpcbpgpoaaGreatK23
set_option linter.unusedVariables false
set_option linter.unusedSimpArgs false
section
set_option maxHeartbeats 2000000
namespace Go.TM.Tryz
open Go Go.TM Go.Proofs
theorem f88_ok (k : Int) (h : k ≤ 4611686018427387904) : FunOK Tryz.prog 88 [.int .i64 k] false (.str (mtext k)) := by
  refine fun_ok (mkE_ok zmix (cl := []) (gl := []) [] trivial trivial) Tryz.func88 (by kernel_rfl) ?_
  refine FunW_run _ _ rfl rfl ?_
  by_cases h0 : k ≤ 0
  · simp [h0, mtext]
  · simp [h0]
    refine lp_ind (fun m t => ∃ (n : Nat) (out : ByteArray), m = n ∧ t.e 0 = .int .i64 n ∧ t.e 3 = .str out ∧ mdig n ++ out = mdig k.toNat ∧ out.size + n ≤ k) k.toNat ⟨k.toNat, ⟨#[]⟩, rfl, ?_⟩ ?_
    · have e : ((k.toNat : Nat) : Int) = k := by omega
      simp [e, ba_append_nil, ba_nil_size]
    rintro c' L hL m t ih ⟨n, out, rfl, h1, h3, hout, hsz⟩
    by_cases hn : m = 0
    · subst hn
      have hb : 1 + out.size ≤ 9223372036854775807 := by omega
      rw [mdig_zero, ba_nil_append] at hout
      subst hout
      simp [h1, h3, hL, ba_one_size, hb, mtext, h0]
    · have hn' : 0 < m := by omega
      have ht : Int.tdiv (m : Int) 10 = ((m / 10 : Nat) : Int) := by
        rw [Int.tdiv_eq_ediv_of_nonneg (by omega)]
        omega
      have hb : 1 + out.size ≤ 9223372036854775807 := by omega
      have hw : IntKind.i64.wrap ((m : Int) / 10) = (m : Int) / 10 := wrap64 (by omega) (by omega)
      simp [h1, h3, hL, hn', ht, ba_one_size, hb]
      refine ih (m / 10) _ (by omega) ⟨m / 10, _, rfl, by simp [hw], by simp; rfl, ?_, ?_⟩
      · rw [← ByteArray.append_assoc, ← mdig_succ hn, hout]
      · rw [ByteArray.size_append, ba_one_size]
        omega
noncomputable def c88 := ctr (fun k : Int => k ≤ 4611686018427387904) (fun k => [.int .i64 k]) (fun k => (false, .str (mtext k)))
theorem c88_eq (k : Int) (h : k ≤ 4611686018427387904) : c88 [.int .i64 k] = some (false, .str (mtext k)) := ctr_eq (by simp) k h rfl
theorem c88_ok : COK Tryz.prog (88, c88) := ctr_ok fun k h => f88_ok k h
theorem f50_ok (xs : List ByteArray) (k : Int) (h0 : 0 ≤ k) (h1 : k + cnt cStr xs ≤ 4611686018427387904) (h2 : xs.length ≤ 4611686018427387904) : GenOK Tryz.prog 50 [.inl 1 (xs.map V.str), .int .i64 k] [] ⟨false, .int .i64 (k + cnt cStr xs), [.inl 1 ((mkL mkStr cStr k xs).map V.str)], []⟩ := by
  refine fun_okG (mkE_ok zmix (cl := [(88, c88)]) (gl := []) [] c88_ok trivial) Tryz.func50 (by kernel_rfl) ?_
  refine FunG_run _ _ rfl rfl ?_
  have hlen := h2
  simp
  refine lp_list xs (fun i t => t.e 0 = .own 0 ∧ t.e 1 = .int .i64 (k + pre cStr xs i) ∧ t.e 5 = .int .i64 i ∧ t.nb = 0 ∧ 1 ≤ t.nt ∧ t.R 0 = some ⟨1, (mpart mkStr cStr k xs i).map V.str, true⟩) ?_ ?_ ?_
  · simp [pre_zero, mpart_zero]
  · rintro c' L hL i t x hx hi ih ⟨g0, g1, g5, gnb, gnt, gR⟩
    have hw := wrI (i := i) (by omega)
    have hp := pre_succ cStr hx
    have hp2 := pre_le cStr xs (i + 1)
    have hc : cStr x = 1 := rfl
    have hcnt : (xs.map cStr).sum = cnt cStr xs := rfl
    have e0 := c88_eq (k + (pre cStr xs i : Nat)) (by omega)
    have w0 : IntKind.i64.wrap (k + (pre cStr xs i : Nat) + 1) = k + (pre cStr xs i : Nat) + 1 := wrap64 (by omega) (by omega)
    have hx' := mpart_get (f := mkStr) (c := cStr) (k := k) hx
    simp [-getElem?_pos, gcz, gcs, g0, g1, g5, gnb, gR, hL, hx', hi, e0, w0]
    refine ih _ ?_
    simp [-getElem?_pos, gcz, gcs, g0, g1, g5, gnb, gR, hL, hx', hi, e0, w0, hp, hc, hw]
    first
      | exact ⟨by omega, by omega, mpart_setv hx rfl⟩
      | exact ⟨by omega, mpart_setv hx rfl⟩
      | exact mpart_setv hx rfl
  · rintro c' t ⟨g0, g1, g5, gnb, gnt, gR⟩
    simp only [pre_all] at g1
    simp [g0, g1, g5, gnb, gR, mpart_all, cnt]
noncomputable def c50 := ctrG (fun a : List ByteArray × Int => 0 ≤ a.2 ∧ a.2 + cnt cStr a.1 ≤ 4611686018427387904 ∧ (a.1.length ≤ 4611686018427387904)) (fun a => ([.inl 1 (a.1.map V.str), .int .i64 a.2], [])) (fun a => ⟨false, .int .i64 (a.2 + cnt cStr a.1), [.inl 1 ((mkL mkStr cStr a.2 a.1).map V.str)], []⟩)
theorem c50_eq (xs : List ByteArray) (k : Int) (h0 : 0 ≤ k) (h1 : k + cnt cStr xs ≤ 4611686018427387904) (h2 : xs.length ≤ 4611686018427387904) : c50 [.inl 1 (xs.map V.str), .int .i64 k] [] = some ⟨false, .int .i64 (k + cnt cStr xs), [.inl 1 ((mkL mkStr cStr k xs).map V.str)], []⟩ := ctrG_eq (injG str_inj _) (xs, k) ⟨h0, h1, h2⟩ rfl
theorem c50_ok : GOK Tryz.prog (50, [true], c50) := ctrG_ok fun a h => f50_ok a.1 a.2 h.1 h.2.1 h.2.2
theorem f136_ok (xs : List Fld) (k : Int) (h0 : 0 ≤ k) (h1 : k + cnt cFld xs ≤ 4611686018427387904) (h2 : xs.length ≤ 4611686018427387904) : GenOK Tryz.prog 136 [.inl 3 (xs.map Fld.v), .int .i64 k] [] ⟨false, .int .i64 (k + cnt cFld xs), [.inl 3 ((mkL mkFld cFld k xs).map Fld.v)], []⟩ := by
  refine fun_okG (mkE_ok zmix (cl := [(88, c88)]) (gl := []) [] c88_ok trivial) Tryz.func136 (by kernel_rfl) ?_
  refine FunG_run _ _ rfl rfl ?_
  have hlen := h2
  simp
  refine lp_list xs (fun i t => t.e 0 = .own 0 ∧ t.e 1 = .int .i64 (k + pre cFld xs i) ∧ t.e 5 = .int .i64 i ∧ t.nb = 0 ∧ 1 ≤ t.nt ∧ t.R 0 = some ⟨3, (mpart mkFld cFld k xs i).map Fld.v, true⟩) ?_ ?_ ?_
  · simp [pre_zero, mpart_zero]
  · rintro c' L hL i t x hx hi ih ⟨g0, g1, g5, gnb, gnt, gR⟩
    have hw := wrI (i := i) (by omega)
    have hp := pre_succ cFld hx
    have hp2 := pre_le cFld xs (i + 1)
    have hc : cFld x = 3 := rfl
    have hcnt : (xs.map cFld).sum = cnt cFld xs := rfl
    have e0 := c88_eq (k + (pre cFld xs i : Nat)) (by omega)
    have w0 : IntKind.i64.wrap (k + (pre cFld xs i : Nat) + 1) = k + (pre cFld xs i : Nat) + 1 := wrap64 (by omega) (by omega)
    have w1 : IntKind.i64.wrap (k + (pre cFld xs i : Nat) + 1 + 1) = k + (pre cFld xs i : Nat) + 1 + 1 := wrap64 (by omega) (by omega)
    have w2 : IntKind.i64.wrap (k + (pre cFld xs i : Nat) + 1 + 1 + 1) = k + (pre cFld xs i : Nat) + 1 + 1 + 1 := wrap64 (by omega) (by omega)
    have hx' := mpart_get (f := mkFld) (c := cFld) (k := k) hx
    simp [-getElem?_pos, gcz, gcs, g0, g1, g5, gnb, gR, hL, hx', hi, e0, w0, w1, w2]
    refine ih _ ?_
    simp [-getElem?_pos, gcz, gcs, g0, g1, g5, gnb, gR, hL, hx', hi, e0, w0, w1, w2, hp, hc, hw]
    first
      | exact ⟨by omega, by omega, mpart_setv hx rfl⟩
      | exact ⟨by omega, mpart_setv hx rfl⟩
      | exact mpart_setv hx rfl
  · rintro c' t ⟨g0, g1, g5, gnb, gnt, gR⟩
    simp only [pre_all] at g1
    simp [g0, g1, g5, gnb, gR, mpart_all, cnt]
noncomputable def c136 := ctrG (fun a : List Fld × Int => 0 ≤ a.2 ∧ a.2 + cnt cFld a.1 ≤ 4611686018427387904 ∧ (a.1.length ≤ 4611686018427387904)) (fun a => ([.inl 3 (a.1.map Fld.v), .int .i64 a.2], [])) (fun a => ⟨false, .int .i64 (a.2 + cnt cFld a.1), [.inl 3 ((mkL mkFld cFld a.2 a.1).map Fld.v)], []⟩)
theorem c136_eq (xs : List Fld) (k : Int) (h0 : 0 ≤ k) (h1 : k + cnt cFld xs ≤ 4611686018427387904) (h2 : xs.length ≤ 4611686018427387904) : c136 [.inl 3 (xs.map Fld.v), .int .i64 k] [] = some ⟨false, .int .i64 (k + cnt cFld xs), [.inl 3 ((mkL mkFld cFld k xs).map Fld.v)], []⟩ := ctrG_eq (injG Fld.v_inj _) (xs, k) ⟨h0, h1, h2⟩ rfl
theorem c136_ok : GOK Tryz.prog (136, [true], c136) := ctrG_ok fun a h => f136_ok a.1 a.2 h.1 h.2.1 h.2.2
theorem f137_ok (xs : List Par) (k : Int) (h0 : 0 ≤ k) (h1 : k + cnt cPar xs ≤ 4611686018427387904) (h2 : xs.length ≤ 4611686018427387904) : GenOK Tryz.prog 137 [.inl 3 (xs.map Par.v), .int .i64 k] [] ⟨false, .int .i64 (k + cnt cPar xs), [.inl 3 ((mkL mkPar cPar k xs).map Par.v)], []⟩ := by
  refine fun_okG (mkE_ok zmix (cl := [(88, c88)]) (gl := []) [] c88_ok trivial) Tryz.func137 (by kernel_rfl) ?_
  refine FunG_run _ _ rfl rfl ?_
  have hlen := h2
  simp
  refine lp_list xs (fun i t => t.e 0 = .own 0 ∧ t.e 1 = .int .i64 (k + pre cPar xs i) ∧ t.e 5 = .int .i64 i ∧ t.nb = 0 ∧ 1 ≤ t.nt ∧ t.R 0 = some ⟨3, (mpart mkPar cPar k xs i).map Par.v, true⟩) ?_ ?_ ?_
  · simp [pre_zero, mpart_zero]
  · rintro c' L hL i t x hx hi ih ⟨g0, g1, g5, gnb, gnt, gR⟩
    have hw := wrI (i := i) (by omega)
    have hp := pre_succ cPar hx
    have hp2 := pre_le cPar xs (i + 1)
    have hc : cPar x = 3 := rfl
    have hcnt : (xs.map cPar).sum = cnt cPar xs := rfl
    have e0 := c88_eq (k + (pre cPar xs i : Nat)) (by omega)
    have w0 : IntKind.i64.wrap (k + (pre cPar xs i : Nat) + 1) = k + (pre cPar xs i : Nat) + 1 := wrap64 (by omega) (by omega)
    have w1 : IntKind.i64.wrap (k + (pre cPar xs i : Nat) + 1 + 1) = k + (pre cPar xs i : Nat) + 1 + 1 := wrap64 (by omega) (by omega)
    have w2 : IntKind.i64.wrap (k + (pre cPar xs i : Nat) + 1 + 1 + 1) = k + (pre cPar xs i : Nat) + 1 + 1 + 1 := wrap64 (by omega) (by omega)
    have hx' := mpart_get (f := mkPar) (c := cPar) (k := k) hx
    simp [-getElem?_pos, gcz, gcs, g0, g1, g5, gnb, gR, hL, hx', hi, e0, w0, w1, w2]
    refine ih _ ?_
    simp [-getElem?_pos, gcz, gcs, g0, g1, g5, gnb, gR, hL, hx', hi, e0, w0, w1, w2, hp, hc, hw]
    first
      | exact ⟨by omega, by omega, mpart_setv hx rfl⟩
      | exact ⟨by omega, mpart_setv hx rfl⟩
      | exact mpart_setv hx rfl
  · rintro c' t ⟨g0, g1, g5, gnb, gnt, gR⟩
    simp only [pre_all] at g1
    simp [g0, g1, g5, gnb, gR, mpart_all, cnt]
noncomputable def c137 := ctrG (fun a : List Par × Int => 0 ≤ a.2 ∧ a.2 + cnt cPar a.1 ≤ 4611686018427387904 ∧ (a.1.length ≤ 4611686018427387904)) (fun a => ([.inl 3 (a.1.map Par.v), .int .i64 a.2], [])) (fun a => ⟨false, .int .i64 (a.2 + cnt cPar a.1), [.inl 3 ((mkL mkPar cPar a.2 a.1).map Par.v)], []⟩)
theorem c137_eq (xs : List Par) (k : Int) (h0 : 0 ≤ k) (h1 : k + cnt cPar xs ≤ 4611686018427387904) (h2 : xs.length ≤ 4611686018427387904) : c137 [.inl 3 (xs.map Par.v), .int .i64 k] [] = some ⟨false, .int .i64 (k + cnt cPar xs), [.inl 3 ((mkL mkPar cPar k xs).map Par.v)], []⟩ := ctrG_eq (injG Par.v_inj _) (xs, k) ⟨h0, h1, h2⟩ rfl
theorem c137_ok : GOK Tryz.prog (137, [true], c137) := ctrG_ok fun a h => f137_ok a.1 a.2 h.1 h.2.1 h.2.2
theorem f45_ok (xs : List Use) (k : Int) (h0 : 0 ≤ k) (h1 : k + cnt cUse xs ≤ 4611686018427387904) (h2 : xs.length ≤ 4611686018427387904) : GenOK Tryz.prog 45 [.inl 2 (xs.map Use.v), .int .i64 k] [] ⟨false, .int .i64 (k + cnt cUse xs), [.inl 2 ((mkL mkUse cUse k xs).map Use.v)], []⟩ := by
  refine fun_okG (mkE_ok zmix (cl := [(88, c88)]) (gl := []) [] c88_ok trivial) Tryz.func45 (by kernel_rfl) ?_
  refine FunG_run _ _ rfl rfl ?_
  have hlen := h2
  simp
  refine lp_list xs (fun i t => t.e 0 = .own 0 ∧ t.e 1 = .int .i64 (k + pre cUse xs i) ∧ t.e 5 = .int .i64 i ∧ t.nb = 0 ∧ 1 ≤ t.nt ∧ t.R 0 = some ⟨2, (mpart mkUse cUse k xs i).map Use.v, true⟩) ?_ ?_ ?_
  · simp [pre_zero, mpart_zero]
  · rintro c' L hL i t x hx hi ih ⟨g0, g1, g5, gnb, gnt, gR⟩
    have hw := wrI (i := i) (by omega)
    have hp := pre_succ cUse hx
    have hp2 := pre_le cUse xs (i + 1)
    have hc : cUse x = 2 := rfl
    have hcnt : (xs.map cUse).sum = cnt cUse xs := rfl
    have e0 := c88_eq (k + (pre cUse xs i : Nat)) (by omega)
    have w0 : IntKind.i64.wrap (k + (pre cUse xs i : Nat) + 1) = k + (pre cUse xs i : Nat) + 1 := wrap64 (by omega) (by omega)
    have e1 := c88_eq (k + (pre cUse xs i : Nat) + 1) (by omega)
    have w1 : IntKind.i64.wrap (k + (pre cUse xs i : Nat) + 1 + 1) = k + (pre cUse xs i : Nat) + 1 + 1 := wrap64 (by omega) (by omega)
    have hx' := mpart_get (f := mkUse) (c := cUse) (k := k) hx
    simp [-getElem?_pos, gcz, gcs, g0, g1, g5, gnb, gR, hL, hx', hi, e0, w0, e1, w1]
    refine ih _ ?_
    simp [-getElem?_pos, gcz, gcs, g0, g1, g5, gnb, gR, hL, hx', hi, e0, w0, e1, w1, hp, hc, hw]
    first
      | exact ⟨by omega, by omega, mpart_setv hx rfl⟩
      | exact ⟨by omega, mpart_setv hx rfl⟩
      | exact mpart_setv hx rfl
  · rintro c' t ⟨g0, g1, g5, gnb, gnt, gR⟩
    simp only [pre_all] at g1
    simp [g0, g1, g5, gnb, gR, mpart_all, cnt]
noncomputable def c45 := ctrG (fun a : List Use × Int => 0 ≤ a.2 ∧ a.2 + cnt cUse a.1 ≤ 4611686018427387904 ∧ (a.1.length ≤ 4611686018427387904)) (fun a => ([.inl 2 (a.1.map Use.v), .int .i64 a.2], [])) (fun a => ⟨false, .int .i64 (a.2 + cnt cUse a.1), [.inl 2 ((mkL mkUse cUse a.2 a.1).map Use.v)], []⟩)
theorem c45_eq (xs : List Use) (k : Int) (h0 : 0 ≤ k) (h1 : k + cnt cUse xs ≤ 4611686018427387904) (h2 : xs.length ≤ 4611686018427387904) : c45 [.inl 2 (xs.map Use.v), .int .i64 k] [] = some ⟨false, .int .i64 (k + cnt cUse xs), [.inl 2 ((mkL mkUse cUse k xs).map Use.v)], []⟩ := ctrG_eq (injG Use.v_inj _) (xs, k) ⟨h0, h1, h2⟩ rfl
theorem c45_ok : GOK Tryz.prog (45, [true], c45) := ctrG_ok fun a h => f45_ok a.1 a.2 h.1 h.2.1 h.2.2
theorem f70_ok (xs : List Ty) (k : Int) (h0 : 0 ≤ k) (h1 : k + cnt cTy xs ≤ 4611686018427387904) (h2 : xs.length ≤ 4611686018427387904 ∧ ∀ x ∈ xs, x.fields.length ≤ 4611686018427387904) : GenOK Tryz.prog 70 [.inl 6 (xs.map Ty.o), .int .i64 k] [] ⟨false, .int .i64 (k + cnt cTy xs), [.inl 6 ((mkL mkTy cTy k xs).map Ty.o)], []⟩ := by
  refine fun_okG (mkE_ok zmix (cl := [(88, c88)]) (gl := [(136, [true], c136)]) [] c88_ok c136_ok) Tryz.func70 (by kernel_rfl) ?_
  refine FunG_run _ _ rfl rfl ?_
  have hlen := h2.1
  simp
  refine lp_list xs (fun i t => t.e 0 = .own 0 ∧ t.e 1 = .int .i64 (k + pre cTy xs i) ∧ t.e 5 = .int .i64 i ∧ t.nb = 0 ∧ 1 ≤ t.nt ∧ t.R 0 = some ⟨6, (mpart mkTy cTy k xs i).map Ty.o, true⟩) ?_ ?_ ?_
  · simp [pre_zero, mpart_zero]
  · rintro c' L hL i t x hx hi ih ⟨g0, g1, g5, gnb, gnt, gR⟩
    have hw := wrI (i := i) (by omega)
    have hp := pre_succ cTy hx
    have hp2 := pre_le cTy xs (i + 1)
    have hc : cTy x = 5+cnt cFld x.fields := rfl
    have hcnt : (xs.map cTy).sum = cnt cTy xs := rfl
    have hlen3 : x.fields.length ≤ 4611686018427387904 := h2.2 x (List.mem_of_getElem? hx)
    have w0 : IntKind.i64.wrap (k + (pre cTy xs i : Nat) + 1) = k + (pre cTy xs i : Nat) + 1 := wrap64 (by omega) (by omega)
    have w1 : IntKind.i64.wrap (k + (pre cTy xs i : Nat) + 1 + 1) = k + (pre cTy xs i : Nat) + 1 + 1 := wrap64 (by omega) (by omega)
    have w2 : IntKind.i64.wrap (k + (pre cTy xs i : Nat) + 1 + 1 + 1) = k + (pre cTy xs i : Nat) + 1 + 1 + 1 := wrap64 (by omega) (by omega)
    have e3 := c136_eq x.fields (k + (pre cTy xs i : Nat) + 1 + 1 + 1) (by omega) (by omega) hlen3
    have e4 := c88_eq (k + (pre cTy xs i : Nat) + 1 + 1 + 1 + (cnt cFld x.fields : Nat)) (by omega)
    have w4 : IntKind.i64.wrap (k + (pre cTy xs i : Nat) + 1 + 1 + 1 + (cnt cFld x.fields : Nat) + 1) = k + (pre cTy xs i : Nat) + 1 + 1 + 1 + (cnt cFld x.fields : Nat) + 1 := wrap64 (by omega) (by omega)
    have e5 := c88_eq (k + (pre cTy xs i : Nat) + 1 + 1 + 1 + (cnt cFld x.fields : Nat) + 1) (by omega)
    have w5 : IntKind.i64.wrap (k + (pre cTy xs i : Nat) + 1 + 1 + 1 + (cnt cFld x.fields : Nat) + 1 + 1) = k + (pre cTy xs i : Nat) + 1 + 1 + 1 + (cnt cFld x.fields : Nat) + 1 + 1 := wrap64 (by omega) (by omega)
    have hx' := mpart_get (f := mkTy) (c := cTy) (k := k) hx
    simp [-getElem?_pos, gcz, gcs, g0, g1, g5, gnb, gR, hL, hx', hi, w0, w1, w2, e3, e4, w4, e5, w5]
    refine ih _ ?_
    simp [-getElem?_pos, gcz, gcs, g0, g1, g5, gnb, gR, hL, hx', hi, w0, w1, w2, e3, e4, w4, e5, w5, hp, hc, hw]
    first
      | exact ⟨by omega, by omega, mpart_setv hx rfl⟩
      | exact ⟨by omega, mpart_setv hx rfl⟩
      | exact mpart_setv hx rfl
  · rintro c' t ⟨g0, g1, g5, gnb, gnt, gR⟩
    simp only [pre_all] at g1
    simp [g0, g1, g5, gnb, gR, mpart_all, cnt]
noncomputable def c70 := ctrG (fun a : List Ty × Int => 0 ≤ a.2 ∧ a.2 + cnt cTy a.1 ≤ 4611686018427387904 ∧ (a.1.length ≤ 4611686018427387904 ∧ ∀ x ∈ a.1, x.fields.length ≤ 4611686018427387904)) (fun a => ([.inl 6 (a.1.map Ty.o), .int .i64 a.2], [])) (fun a => ⟨false, .int .i64 (a.2 + cnt cTy a.1), [.inl 6 ((mkL mkTy cTy a.2 a.1).map Ty.o)], []⟩)
theorem c70_eq (xs : List Ty) (k : Int) (h0 : 0 ≤ k) (h1 : k + cnt cTy xs ≤ 4611686018427387904) (h2 : xs.length ≤ 4611686018427387904 ∧ ∀ x ∈ xs, x.fields.length ≤ 4611686018427387904) : c70 [.inl 6 (xs.map Ty.o), .int .i64 k] [] = some ⟨false, .int .i64 (k + cnt cTy xs), [.inl 6 ((mkL mkTy cTy k xs).map Ty.o)], []⟩ := ctrG_eq (injG Ty.o_inj _) (xs, k) ⟨h0, h1, h2⟩ rfl
theorem c70_ok : GOK Tryz.prog (70, [true], c70) := ctrG_ok fun a h => f70_ok a.1 a.2 h.1 h.2.1 h.2.2
theorem f71_ok (xs : List Obj) (k : Int) (h0 : 0 ≤ k) (h1 : k + cnt cObj xs ≤ 4611686018427387904) (h2 : xs.length ≤ 4611686018427387904 ∧ ∀ x ∈ xs, x.params.length ≤ 4611686018427387904) : GenOK Tryz.prog 71 [.inl 6 (xs.map Obj.o), .int .i64 k] [] ⟨false, .int .i64 (k + cnt cObj xs), [.inl 6 ((mkL mkObj cObj k xs).map Obj.o)], []⟩ := by
  refine fun_okG (mkE_ok zmix (cl := [(88, c88)]) (gl := [(137, [true], c137)]) [] c88_ok c137_ok) Tryz.func71 (by kernel_rfl) ?_
  refine FunG_run _ _ rfl rfl ?_
  have hlen := h2.1
  simp
  refine lp_list xs (fun i t => t.e 0 = .own 0 ∧ t.e 1 = .int .i64 (k + pre cObj xs i) ∧ t.e 5 = .int .i64 i ∧ t.nb = 0 ∧ 1 ≤ t.nt ∧ t.R 0 = some ⟨6, (mpart mkObj cObj k xs i).map Obj.o, true⟩) ?_ ?_ ?_
  · simp [pre_zero, mpart_zero]
  · rintro c' L hL i t x hx hi ih ⟨g0, g1, g5, gnb, gnt, gR⟩
    have hw := wrI (i := i) (by omega)
    have hp := pre_succ cObj hx
    have hp2 := pre_le cObj xs (i + 1)
    have hc : cObj x = 5+cnt cPar x.params := rfl
    have hcnt : (xs.map cObj).sum = cnt cObj xs := rfl
    have hlen5 : x.params.length ≤ 4611686018427387904 := h2.2 x (List.mem_of_getElem? hx)
    have e0 := c88_eq (k + (pre cObj xs i : Nat)) (by omega)
    have w0 : IntKind.i64.wrap (k + (pre cObj xs i : Nat) + 1) = k + (pre cObj xs i : Nat) + 1 := wrap64 (by omega) (by omega)
    have w1 : IntKind.i64.wrap (k + (pre cObj xs i : Nat) + 1 + 1) = k + (pre cObj xs i : Nat) + 1 + 1 := wrap64 (by omega) (by omega)
    have w2 : IntKind.i64.wrap (k + (pre cObj xs i : Nat) + 1 + 1 + 1) = k + (pre cObj xs i : Nat) + 1 + 1 + 1 := wrap64 (by omega) (by omega)
    have w3 : IntKind.i64.wrap (k + (pre cObj xs i : Nat) + 1 + 1 + 1 + 1) = k + (pre cObj xs i : Nat) + 1 + 1 + 1 + 1 := wrap64 (by omega) (by omega)
    have w4 : IntKind.i64.wrap (k + (pre cObj xs i : Nat) + 1 + 1 + 1 + 1 + 1) = k + (pre cObj xs i : Nat) + 1 + 1 + 1 + 1 + 1 := wrap64 (by omega) (by omega)
    have e5 := c137_eq x.params (k + (pre cObj xs i : Nat) + 1 + 1 + 1 + 1 + 1) (by omega) (by omega) hlen5
    have hx' := mpart_get (f := mkObj) (c := cObj) (k := k) hx
    simp [-getElem?_pos, gcz, gcs, g0, g1, g5, gnb, gR, hL, hx', hi, e0, w0, w1, w2, w3, w4, e5]
    refine ih _ ?_
    simp [-getElem?_pos, gcz, gcs, g0, g1, g5, gnb, gR, hL, hx', hi, e0, w0, w1, w2, w3, w4, e5, hp, hc, hw]
    first
      | exact ⟨by omega, by omega, mpart_setv hx rfl⟩
      | exact ⟨by omega, mpart_setv hx rfl⟩
      | exact mpart_setv hx rfl
  · rintro c' t ⟨g0, g1, g5, gnb, gnt, gR⟩
    simp only [pre_all] at g1
    simp [g0, g1, g5, gnb, gR, mpart_all, cnt]
noncomputable def c71 := ctrG (fun a : List Obj × Int => 0 ≤ a.2 ∧ a.2 + cnt cObj a.1 ≤ 4611686018427387904 ∧ (a.1.length ≤ 4611686018427387904 ∧ ∀ x ∈ a.1, x.params.length ≤ 4611686018427387904)) (fun a => ([.inl 6 (a.1.map Obj.o), .int .i64 a.2], [])) (fun a => ⟨false, .int .i64 (a.2 + cnt cObj a.1), [.inl 6 ((mkL mkObj cObj a.2 a.1).map Obj.o)], []⟩)
theorem c71_eq (xs : List Obj) (k : Int) (h0 : 0 ≤ k) (h1 : k + cnt cObj xs ≤ 4611686018427387904) (h2 : xs.length ≤ 4611686018427387904 ∧ ∀ x ∈ xs, x.params.length ≤ 4611686018427387904) : c71 [.inl 6 (xs.map Obj.o), .int .i64 k] [] = some ⟨false, .int .i64 (k + cnt cObj xs), [.inl 6 ((mkL mkObj cObj k xs).map Obj.o)], []⟩ := ctrG_eq (injG Obj.o_inj _) (xs, k) ⟨h0, h1, h2⟩ rfl
theorem c71_ok : GOK Tryz.prog (71, [true], c71) := ctrG_ok fun a h => f71_ok a.1 a.2 h.1 h.2.1 h.2.2
end Go.TM.Tryz
end
section
set_option maxHeartbeats 2000000
set_option maxRecDepth 10000
namespace Go.TM.Tryz
open Go Go.TM Go.Proofs
theorem f51_ok (xs : List ByteArray) (k : Int) (h0 : 0 ≤ k) (h1 : k + cnt cStr xs ≤ 4611686018427387904) (h2 : xs.length ≤ 4611686018427387904) : FunOK Tryz.prog 51 [.lst ((mkL mkStr cStr k xs).map V.str), .int .i64 k] false (.int .i64 (k + cnt cStr xs)) := by
  refine fun_ok (mkE_ok zmix (cl := [(88, c88)]) (gl := []) [] c88_ok trivial) Tryz.func51 (by kernel_rfl) ?_
  refine FunW_run _ _ rfl rfl ?_
  have hlen := h2
  simp
  refine lp_list xs (fun i t => t.e 0 = .lst ((mkL mkStr cStr k xs).map V.str) ∧ t.e 1 = .int .i64 (k + pre cStr xs i) ∧ t.e 5 = .int .i64 i) ?_ ?_ ?_
  · simp [pre_zero]
  · rintro c' L hL i t x hx hi ih ⟨g0, g1, g5⟩
    have hw := wrI (i := i) (by omega)
    have hp := pre_succ cStr hx
    have hp2 := pre_le cStr xs (i + 1)
    have hc : cStr x = 1 := rfl
    have hcnt : (xs.map cStr).sum = cnt cStr xs := rfl
    have e0 := c88_eq (k + (pre cStr xs i : Nat)) (by omega)
    have w0 : IntKind.i64.wrap (k + (pre cStr xs i : Nat) + 1) = k + (pre cStr xs i : Nat) + 1 := wrap64 (by omega) (by omega)
    have hx' := mkL_get mkStr cStr k hx
    simp [-getElem?_pos, gcz, gcs, g0, g1, g5, hL, hx', hi, mkStr, e0, w0]
    refine ih _ ?_
    simp [-getElem?_pos, gcz, gcs, g0, g1, g5, hL, hx', hi, e0, w0, hp, hc, hw] <;> omega
  · rintro c' t ⟨g0, g1, g5⟩
    simp only [pre_all] at g1
    simp [g0, g1, g5, cnt]
noncomputable def c51 := ctrH mkStr cStr V.str (fun xs k => 0 ≤ k ∧ k + cnt cStr xs ≤ 4611686018427387904 ∧ (xs.length ≤ 4611686018427387904))
theorem c51_eq (xs : List ByteArray) (k : Int) (h0 : 0 ≤ k) (h1 : k + cnt cStr xs ≤ 4611686018427387904) (h2 : xs.length ≤ 4611686018427387904) : c51 [.lst ((mkL mkStr cStr k xs).map V.str), .int .i64 k] = some (false, .int .i64 (k + cnt cStr xs)) := ctrH_eq cStr_mk str_inj xs k ⟨h0, h1, h2⟩
theorem c51_ok : COK Tryz.prog (51, c51) := ctrH_ok cStr_mk fun xs k h => f51_ok xs k h.1 h.2.1 h.2.2
theorem f138_ok (xs : List Fld) (k : Int) (h0 : 0 ≤ k) (h1 : k + cnt cFld xs ≤ 4611686018427387904) (h2 : xs.length ≤ 4611686018427387904) : FunOK Tryz.prog 138 [.lst ((mkL mkFld cFld k xs).map Fld.v), .int .i64 k] false (.int .i64 (k + cnt cFld xs)) := by
  refine fun_ok (mkE_ok zmix (cl := [(88, c88)]) (gl := []) [] c88_ok trivial) Tryz.func138 (by kernel_rfl) ?_
  refine FunW_run _ _ rfl rfl ?_
  have hlen := h2
  simp
  refine lp_list xs (fun i t => t.e 0 = .lst ((mkL mkFld cFld k xs).map Fld.v) ∧ t.e 1 = .int .i64 (k + pre cFld xs i) ∧ t.e 5 = .int .i64 i) ?_ ?_ ?_
  · simp [pre_zero]
  · rintro c' L hL i t x hx hi ih ⟨g0, g1, g5⟩
    have hw := wrI (i := i) (by omega)
    have hp := pre_succ cFld hx
    have hp2 := pre_le cFld xs (i + 1)
    have hc : cFld x = 3 := rfl
    have hcnt : (xs.map cFld).sum = cnt cFld xs := rfl
    have e0 := c88_eq (k + (pre cFld xs i : Nat)) (by omega)
    have w0 : IntKind.i64.wrap (k + (pre cFld xs i : Nat) + 1) = k + (pre cFld xs i : Nat) + 1 := wrap64 (by omega) (by omega)
    have w1 : IntKind.i64.wrap (k + (pre cFld xs i : Nat) + 1 + 1) = k + (pre cFld xs i : Nat) + 1 + 1 := wrap64 (by omega) (by omega)
    have w2 : IntKind.i64.wrap (k + (pre cFld xs i : Nat) + 1 + 1 + 1) = k + (pre cFld xs i : Nat) + 1 + 1 + 1 := wrap64 (by omega) (by omega)
    have hx' := mkL_get mkFld cFld k hx
    simp [-getElem?_pos, gcz, gcs, g0, g1, g5, hL, hx', hi, mkFld, e0, w0, w1, w2]
    refine ih _ ?_
    simp [-getElem?_pos, gcz, gcs, g0, g1, g5, hL, hx', hi, e0, w0, w1, w2, hp, hc, hw] <;> omega
  · rintro c' t ⟨g0, g1, g5⟩
    simp only [pre_all] at g1
    simp [g0, g1, g5, cnt]
noncomputable def c138 := ctrH mkFld cFld Fld.v (fun xs k => 0 ≤ k ∧ k + cnt cFld xs ≤ 4611686018427387904 ∧ (xs.length ≤ 4611686018427387904))
theorem c138_eq (xs : List Fld) (k : Int) (h0 : 0 ≤ k) (h1 : k + cnt cFld xs ≤ 4611686018427387904) (h2 : xs.length ≤ 4611686018427387904) : c138 [.lst ((mkL mkFld cFld k xs).map Fld.v), .int .i64 k] = some (false, .int .i64 (k + cnt cFld xs)) := ctrH_eq cFld_mk Fld.v_inj xs k ⟨h0, h1, h2⟩
theorem c138_ok : COK Tryz.prog (138, c138) := ctrH_ok cFld_mk fun xs k h => f138_ok xs k h.1 h.2.1 h.2.2
theorem f139_ok (xs : List Par) (k : Int) (h0 : 0 ≤ k) (h1 : k + cnt cPar xs ≤ 4611686018427387904) (h2 : xs.length ≤ 4611686018427387904) : FunOK Tryz.prog 139 [.lst ((mkL mkPar cPar k xs).map Par.v), .int .i64 k] false (.int .i64 (k + cnt cPar xs)) := by
  refine fun_ok (mkE_ok zmix (cl := [(88, c88)]) (gl := []) [] c88_ok trivial) Tryz.func139 (by kernel_rfl) ?_
  refine FunW_run _ _ rfl rfl ?_
  have hlen := h2
  simp
  refine lp_list xs (fun i t => t.e 0 = .lst ((mkL mkPar cPar k xs).map Par.v) ∧ t.e 1 = .int .i64 (k + pre cPar xs i) ∧ t.e 5 = .int .i64 i) ?_ ?_ ?_
  · simp [pre_zero]
  · rintro c' L hL i t x hx hi ih ⟨g0, g1, g5⟩
    have hw := wrI (i := i) (by omega)
    have hp := pre_succ cPar hx
    have hp2 := pre_le cPar xs (i + 1)
    have hc : cPar x = 3 := rfl
    have hcnt : (xs.map cPar).sum = cnt cPar xs := rfl
    have e0 := c88_eq (k + (pre cPar xs i : Nat)) (by omega)
    have w0 : IntKind.i64.wrap (k + (pre cPar xs i : Nat) + 1) = k + (pre cPar xs i : Nat) + 1 := wrap64 (by omega) (by omega)
    have w1 : IntKind.i64.wrap (k + (pre cPar xs i : Nat) + 1 + 1) = k + (pre cPar xs i : Nat) + 1 + 1 := wrap64 (by omega) (by omega)
    have w2 : IntKind.i64.wrap (k + (pre cPar xs i : Nat) + 1 + 1 + 1) = k + (pre cPar xs i : Nat) + 1 + 1 + 1 := wrap64 (by omega) (by omega)
    have hx' := mkL_get mkPar cPar k hx
    simp [-getElem?_pos, gcz, gcs, g0, g1, g5, hL, hx', hi, mkPar, e0, w0, w1, w2]
    refine ih _ ?_
    simp [-getElem?_pos, gcz, gcs, g0, g1, g5, hL, hx', hi, e0, w0, w1, w2, hp, hc, hw] <;> omega
  · rintro c' t ⟨g0, g1, g5⟩
    simp only [pre_all] at g1
    simp [g0, g1, g5, cnt]
noncomputable def c139 := ctrH mkPar cPar Par.v (fun xs k => 0 ≤ k ∧ k + cnt cPar xs ≤ 4611686018427387904 ∧ (xs.length ≤ 4611686018427387904))
theorem c139_eq (xs : List Par) (k : Int) (h0 : 0 ≤ k) (h1 : k + cnt cPar xs ≤ 4611686018427387904) (h2 : xs.length ≤ 4611686018427387904) : c139 [.lst ((mkL mkPar cPar k xs).map Par.v), .int .i64 k] = some (false, .int .i64 (k + cnt cPar xs)) := ctrH_eq cPar_mk Par.v_inj xs k ⟨h0, h1, h2⟩
theorem c139_ok : COK Tryz.prog (139, c139) := ctrH_ok cPar_mk fun xs k h => f139_ok xs k h.1 h.2.1 h.2.2
theorem f46_ok (xs : List Use) (k : Int) (h0 : 0 ≤ k) (h1 : k + cnt cUse xs ≤ 4611686018427387904) (h2 : xs.length ≤ 4611686018427387904) : FunOK Tryz.prog 46 [.lst ((mkL mkUse cUse k xs).map Use.v), .int .i64 k] false (.int .i64 (k + cnt cUse xs)) := by
  refine fun_ok (mkE_ok zmix (cl := [(88, c88)]) (gl := []) [] c88_ok trivial) Tryz.func46 (by kernel_rfl) ?_
  refine FunW_run _ _ rfl rfl ?_
  have hlen := h2
  simp
  refine lp_list xs (fun i t => t.e 0 = .lst ((mkL mkUse cUse k xs).map Use.v) ∧ t.e 1 = .int .i64 (k + pre cUse xs i) ∧ t.e 5 = .int .i64 i) ?_ ?_ ?_
  · simp [pre_zero]
  · rintro c' L hL i t x hx hi ih ⟨g0, g1, g5⟩
    have hw := wrI (i := i) (by omega)
    have hp := pre_succ cUse hx
    have hp2 := pre_le cUse xs (i + 1)
    have hc : cUse x = 2 := rfl
    have hcnt : (xs.map cUse).sum = cnt cUse xs := rfl
    have e0 := c88_eq (k + (pre cUse xs i : Nat)) (by omega)
    have w0 : IntKind.i64.wrap (k + (pre cUse xs i : Nat) + 1) = k + (pre cUse xs i : Nat) + 1 := wrap64 (by omega) (by omega)
    have e1 := c88_eq (k + (pre cUse xs i : Nat) + 1) (by omega)
    have w1 : IntKind.i64.wrap (k + (pre cUse xs i : Nat) + 1 + 1) = k + (pre cUse xs i : Nat) + 1 + 1 := wrap64 (by omega) (by omega)
    have hx' := mkL_get mkUse cUse k hx
    simp [-getElem?_pos, gcz, gcs, g0, g1, g5, hL, hx', hi, mkUse, e0, w0, e1, w1]
    refine ih _ ?_
    simp [-getElem?_pos, gcz, gcs, g0, g1, g5, hL, hx', hi, e0, w0, e1, w1, hp, hc, hw] <;> omega
  · rintro c' t ⟨g0, g1, g5⟩
    simp only [pre_all] at g1
    simp [g0, g1, g5, cnt]
noncomputable def c46 := ctrH mkUse cUse Use.v (fun xs k => 0 ≤ k ∧ k + cnt cUse xs ≤ 4611686018427387904 ∧ (xs.length ≤ 4611686018427387904))
theorem c46_eq (xs : List Use) (k : Int) (h0 : 0 ≤ k) (h1 : k + cnt cUse xs ≤ 4611686018427387904) (h2 : xs.length ≤ 4611686018427387904) : c46 [.lst ((mkL mkUse cUse k xs).map Use.v), .int .i64 k] = some (false, .int .i64 (k + cnt cUse xs)) := ctrH_eq cUse_mk Use.v_inj xs k ⟨h0, h1, h2⟩
theorem c46_ok : COK Tryz.prog (46, c46) := ctrH_ok cUse_mk fun xs k h => f46_ok xs k h.1 h.2.1 h.2.2
theorem f72_ok (xs : List Ty) (k : Int) (h0 : 0 ≤ k) (h1 : k + cnt cTy xs ≤ 4611686018427387904) (h2 : xs.length ≤ 4611686018427387904 ∧ ∀ x ∈ xs, x.fields.length ≤ 4611686018427387904) : FunOK Tryz.prog 72 [.lst ((mkL mkTy cTy k xs).map Ty.v), .int .i64 k] false (.int .i64 (k + cnt cTy xs)) := by
  refine fun_ok (mkE_ok zmix (cl := [(88, c88), (138, c138)]) (gl := []) [] ⟨c88_ok, c138_ok⟩ trivial) Tryz.func72 (by kernel_rfl) ?_
  refine FunW_run _ _ rfl rfl ?_
  have hlen := h2.1
  simp
  refine lp_list xs (fun i t => t.e 0 = .lst ((mkL mkTy cTy k xs).map Ty.v) ∧ t.e 1 = .int .i64 (k + pre cTy xs i) ∧ t.e 5 = .int .i64 i) ?_ ?_ ?_
  · simp [pre_zero]
  · rintro c' L hL i t x hx hi ih ⟨g0, g1, g5⟩
    have hw := wrI (i := i) (by omega)
    have hp := pre_succ cTy hx
    have hp2 := pre_le cTy xs (i + 1)
    have hc : cTy x = 5+cnt cFld x.fields := rfl
    have hcnt : (xs.map cTy).sum = cnt cTy xs := rfl
    have hlen3 : x.fields.length ≤ 4611686018427387904 := h2.2 x (List.mem_of_getElem? hx)
    have w0 : IntKind.i64.wrap (k + (pre cTy xs i : Nat) + 1) = k + (pre cTy xs i : Nat) + 1 := wrap64 (by omega) (by omega)
    have w1 : IntKind.i64.wrap (k + (pre cTy xs i : Nat) + 1 + 1) = k + (pre cTy xs i : Nat) + 1 + 1 := wrap64 (by omega) (by omega)
    have w2 : IntKind.i64.wrap (k + (pre cTy xs i : Nat) + 1 + 1 + 1) = k + (pre cTy xs i : Nat) + 1 + 1 + 1 := wrap64 (by omega) (by omega)
    have e3 := c138_eq x.fields (k + (pre cTy xs i : Nat) + 1 + 1 + 1) (by omega) (by omega) hlen3
    have n3 : ¬ k + (pre cTy xs i : Nat) + 1 + 1 + 1 + (cnt cFld x.fields : Nat) < 0 := by omega
    have e4 := c88_eq (k + (pre cTy xs i : Nat) + 1 + 1 + 1 + (cnt cFld x.fields : Nat)) (by omega)
    have w4 : IntKind.i64.wrap (k + (pre cTy xs i : Nat) + 1 + 1 + 1 + (cnt cFld x.fields : Nat) + 1) = k + (pre cTy xs i : Nat) + 1 + 1 + 1 + (cnt cFld x.fields : Nat) + 1 := wrap64 (by omega) (by omega)
    have e5 := c88_eq (k + (pre cTy xs i : Nat) + 1 + 1 + 1 + (cnt cFld x.fields : Nat) + 1) (by omega)
    have w5 : IntKind.i64.wrap (k + (pre cTy xs i : Nat) + 1 + 1 + 1 + (cnt cFld x.fields : Nat) + 1 + 1) = k + (pre cTy xs i : Nat) + 1 + 1 + 1 + (cnt cFld x.fields : Nat) + 1 + 1 := wrap64 (by omega) (by omega)
    have hx' := mkL_get mkTy cTy k hx
    simp [-getElem?_pos, gcz, gcs, g0, g1, g5, hL, hx', hi, mkTy, w0, w1, w2, e3, n3, e4, w4, e5, w5]
    refine ih _ ?_
    simp [-getElem?_pos, gcz, gcs, g0, g1, g5, hL, hx', hi, w0, w1, w2, e3, n3, e4, w4, e5, w5, hp, hc, hw] <;> omega
  · rintro c' t ⟨g0, g1, g5⟩
    simp only [pre_all] at g1
    simp [g0, g1, g5, cnt]
noncomputable def c72 := ctrH mkTy cTy Ty.v (fun xs k => 0 ≤ k ∧ k + cnt cTy xs ≤ 4611686018427387904 ∧ (xs.length ≤ 4611686018427387904 ∧ ∀ x ∈ xs, x.fields.length ≤ 4611686018427387904))
theorem c72_eq (xs : List Ty) (k : Int) (h0 : 0 ≤ k) (h1 : k + cnt cTy xs ≤ 4611686018427387904) (h2 : xs.length ≤ 4611686018427387904 ∧ ∀ x ∈ xs, x.fields.length ≤ 4611686018427387904) : c72 [.lst ((mkL mkTy cTy k xs).map Ty.v), .int .i64 k] = some (false, .int .i64 (k + cnt cTy xs)) := ctrH_eq cTy_mk Ty.v_inj xs k ⟨h0, h1, h2⟩
theorem c72_ok : COK Tryz.prog (72, c72) := ctrH_ok cTy_mk fun xs k h => f72_ok xs k h.1 h.2.1 h.2.2
theorem f73_ok (xs : List Obj) (k : Int) (h0 : 0 ≤ k) (h1 : k + cnt cObj xs ≤ 4611686018427387904) (h2 : xs.length ≤ 4611686018427387904 ∧ ∀ x ∈ xs, x.params.length ≤ 4611686018427387904) : FunOK Tryz.prog 73 [.lst ((mkL mkObj cObj k xs).map Obj.v), .int .i64 k] false (.int .i64 (k + cnt cObj xs)) := by
  refine fun_ok (mkE_ok zmix (cl := [(88, c88), (139, c139)]) (gl := []) [] ⟨c88_ok, c139_ok⟩ trivial) Tryz.func73 (by kernel_rfl) ?_
  refine FunW_run _ _ rfl rfl ?_
  have hlen := h2.1
  simp
  refine lp_list xs (fun i t => t.e 0 = .lst ((mkL mkObj cObj k xs).map Obj.v) ∧ t.e 1 = .int .i64 (k + pre cObj xs i) ∧ t.e 5 = .int .i64 i) ?_ ?_ ?_
  · simp [pre_zero]
  · rintro c' L hL i t x hx hi ih ⟨g0, g1, g5⟩
    have hw := wrI (i := i) (by omega)
    have hp := pre_succ cObj hx
    have hp2 := pre_le cObj xs (i + 1)
    have hc : cObj x = 5+cnt cPar x.params := rfl
    have hcnt : (xs.map cObj).sum = cnt cObj xs := rfl
    have hlen5 : x.params.length ≤ 4611686018427387904 := h2.2 x (List.mem_of_getElem? hx)
    have e0 := c88_eq (k + (pre cObj xs i : Nat)) (by omega)
    have w0 : IntKind.i64.wrap (k + (pre cObj xs i : Nat) + 1) = k + (pre cObj xs i : Nat) + 1 := wrap64 (by omega) (by omega)
    have w1 : IntKind.i64.wrap (k + (pre cObj xs i : Nat) + 1 + 1) = k + (pre cObj xs i : Nat) + 1 + 1 := wrap64 (by omega) (by omega)
    have w2 : IntKind.i64.wrap (k + (pre cObj xs i : Nat) + 1 + 1 + 1) = k + (pre cObj xs i : Nat) + 1 + 1 + 1 := wrap64 (by omega) (by omega)
    have w3 : IntKind.i64.wrap (k + (pre cObj xs i : Nat) + 1 + 1 + 1 + 1) = k + (pre cObj xs i : Nat) + 1 + 1 + 1 + 1 := wrap64 (by omega) (by omega)
    have w4 : IntKind.i64.wrap (k + (pre cObj xs i : Nat) + 1 + 1 + 1 + 1 + 1) = k + (pre cObj xs i : Nat) + 1 + 1 + 1 + 1 + 1 := wrap64 (by omega) (by omega)
    have e5 := c139_eq x.params (k + (pre cObj xs i : Nat) + 1 + 1 + 1 + 1 + 1) (by omega) (by omega) hlen5
    have n5 : ¬ k + (pre cObj xs i : Nat) + 1 + 1 + 1 + 1 + 1 + (cnt cPar x.params : Nat) < 0 := by omega
    have hx' := mkL_get mkObj cObj k hx
    simp [-getElem?_pos, gcz, gcs, g0, g1, g5, hL, hx', hi, mkObj, e0, w0, w1, w2, w3, w4, e5, n5]
    refine ih _ ?_
    simp [-getElem?_pos, gcz, gcs, g0, g1, g5, hL, hx', hi, e0, w0, w1, w2, w3, w4, e5, n5, hp, hc, hw] <;> omega
  · rintro c' t ⟨g0, g1, g5⟩
    simp only [pre_all] at g1
    simp [g0, g1, g5, cnt]
noncomputable def c73 := ctrH mkObj cObj Obj.v (fun xs k => 0 ≤ k ∧ k + cnt cObj xs ≤ 4611686018427387904 ∧ (xs.length ≤ 4611686018427387904 ∧ ∀ x ∈ xs, x.params.length ≤ 4611686018427387904))
theorem c73_eq (xs : List Obj) (k : Int) (h0 : 0 ≤ k) (h1 : k + cnt cObj xs ≤ 4611686018427387904) (h2 : xs.length ≤ 4611686018427387904 ∧ ∀ x ∈ xs, x.params.length ≤ 4611686018427387904) : c73 [.lst ((mkL mkObj cObj k xs).map Obj.v), .int .i64 k] = some (false, .int .i64 (k + cnt cObj xs)) := ctrH_eq cObj_mk Obj.v_inj xs k ⟨h0, h1, h2⟩
theorem c73_ok : COK Tryz.prog (73, c73) := ctrH_ok cObj_mk fun xs k h => f73_ok xs k h.1 h.2.1 h.2.2
theorem f17_ok (x : Scp) (k : Int) (h0 : 0 ≤ k) (h1 : k + (cnt cStr x.imports : Nat) + (cnt cTy x.types : Nat) + (cnt cObj x.objects : Nat) + (cnt cUse x.uses : Nat) ≤ 4611686018427387904) (h2 : x.imports.length ≤ 4611686018427387904 ∧ (x.types.length ≤ 4611686018427387904 ∧ ∀ y ∈ x.types, y.fields.length ≤ 4611686018427387904) ∧ (x.objects.length ≤ 4611686018427387904 ∧ ∀ y ∈ x.objects, y.params.length ≤ 4611686018427387904) ∧ x.uses.length ≤ 4611686018427387904) : GenOK Tryz.prog 17 [x.o, .int .i64 k] [] ⟨false, .int .i64 (k + (cnt cStr x.imports : Nat) + (cnt cTy x.types : Nat) + (cnt cObj x.objects : Nat) + (cnt cUse x.uses : Nat)), [.inl 1 ((mkL mkStr cStr (k) x.imports).map V.str), .inl 6 ((mkL mkTy cTy (k + (cnt cStr x.imports : Nat)) x.types).map Ty.o), .inl 6 ((mkL mkObj cObj (k + (cnt cStr x.imports : Nat) + (cnt cTy x.types : Nat)) x.objects).map Obj.o), .inl 2 ((mkL mkUse cUse (k + (cnt cStr x.imports : Nat) + (cnt cTy x.types : Nat) + (cnt cObj x.objects : Nat)) x.uses).map Use.v)], []⟩ := by
  refine fun_okG (mkE_ok zmix (cl := []) (gl := [(45, [true], c45), (50, [true], c50), (70, [true], c70), (71, [true], c71)]) [] trivial ⟨c45_ok, c50_ok, c70_ok, c71_ok⟩) Tryz.func17 (by kernel_rfl) ?_
  refine FunG_run _ _ rfl rfl ?_
  have e0 := c50_eq x.imports (k) (by omega) (by omega) h2.1
  have e1 := c70_eq x.types (k + (cnt cStr x.imports : Nat)) (by omega) (by omega) h2.2.1
  have e2 := c71_eq x.objects (k + (cnt cStr x.imports : Nat) + (cnt cTy x.types : Nat)) (by omega) (by omega) h2.2.2.1
  have e3 := c45_eq x.uses (k + (cnt cStr x.imports : Nat) + (cnt cTy x.types : Nat) + (cnt cObj x.objects : Nat)) (by omega) (by omega) h2.2.2.2
  simp [e0, e1, e2, e3]
noncomputable def c17 := ctrG (fun a : Scp × Int => match a with | (x, k) => 0 ≤ k ∧ k + (cnt cStr x.imports : Nat) + (cnt cTy x.types : Nat) + (cnt cObj x.objects : Nat) + (cnt cUse x.uses : Nat) ≤ 4611686018427387904 ∧ x.imports.length ≤ 4611686018427387904 ∧ (x.types.length ≤ 4611686018427387904 ∧ ∀ y ∈ x.types, y.fields.length ≤ 4611686018427387904) ∧ (x.objects.length ≤ 4611686018427387904 ∧ ∀ y ∈ x.objects, y.params.length ≤ 4611686018427387904) ∧ x.uses.length ≤ 4611686018427387904) (fun a => ([a.1.o, .int .i64 a.2], [])) (fun a => match a with | (x, k) => ⟨false, .int .i64 (k + (cnt cStr x.imports : Nat) + (cnt cTy x.types : Nat) + (cnt cObj x.objects : Nat) + (cnt cUse x.uses : Nat)), [.inl 1 ((mkL mkStr cStr (k) x.imports).map V.str), .inl 6 ((mkL mkTy cTy (k + (cnt cStr x.imports : Nat)) x.types).map Ty.o), .inl 6 ((mkL mkObj cObj (k + (cnt cStr x.imports : Nat) + (cnt cTy x.types : Nat)) x.objects).map Obj.o), .inl 2 ((mkL mkUse cUse (k + (cnt cStr x.imports : Nat) + (cnt cTy x.types : Nat) + (cnt cObj x.objects : Nat)) x.uses).map Use.v)], []⟩)
theorem c17_eq (x : Scp) (k : Int) (h0 : 0 ≤ k) (h1 : k + (cnt cStr x.imports : Nat) + (cnt cTy x.types : Nat) + (cnt cObj x.objects : Nat) + (cnt cUse x.uses : Nat) ≤ 4611686018427387904) (h2 : x.imports.length ≤ 4611686018427387904 ∧ (x.types.length ≤ 4611686018427387904 ∧ ∀ y ∈ x.types, y.fields.length ≤ 4611686018427387904) ∧ (x.objects.length ≤ 4611686018427387904 ∧ ∀ y ∈ x.objects, y.params.length ≤ 4611686018427387904) ∧ x.uses.length ≤ 4611686018427387904) : c17 [x.o, .int .i64 k] [] = some ⟨false, .int .i64 (k + (cnt cStr x.imports : Nat) + (cnt cTy x.types : Nat) + (cnt cObj x.objects : Nat) + (cnt cUse x.uses : Nat)), [.inl 1 ((mkL mkStr cStr (k) x.imports).map V.str), .inl 6 ((mkL mkTy cTy (k + (cnt cStr x.imports : Nat)) x.types).map Ty.o), .inl 6 ((mkL mkObj cObj (k + (cnt cStr x.imports : Nat) + (cnt cTy x.types : Nat)) x.objects).map Obj.o), .inl 2 ((mkL mkUse cUse (k + (cnt cStr x.imports : Nat) + (cnt cTy x.types : Nat) + (cnt cObj x.objects : Nat)) x.uses).map Use.v)], []⟩ := ctrG_eq (injG1 Scp.o_inj _) (x, k) ⟨h0, h1, h2⟩ rfl
theorem c17_ok : GOK Tryz.prog (17, [true], c17) := ctrG_ok fun a h => f17_ok a.1 a.2 h.1 h.2.1 h.2.2
theorem f18_ok (x : Scp) (k : Int) (h0 : 0 ≤ k) (h1 : k + (cnt cStr x.imports : Nat) + (cnt cTy x.types : Nat) + (cnt cObj x.objects : Nat) + (cnt cUse x.uses : Nat) ≤ 4611686018427387904) (h2 : x.imports.length ≤ 4611686018427387904 ∧ (x.types.length ≤ 4611686018427387904 ∧ ∀ y ∈ x.types, y.fields.length ≤ 4611686018427387904) ∧ (x.objects.length ≤ 4611686018427387904 ∧ ∀ y ∈ x.objects, y.params.length ≤ 4611686018427387904) ∧ x.uses.length ≤ 4611686018427387904) : FunOK Tryz.prog 18 [(mkScp k x).v, .int .i64 k] false (.int .i64 (k + (cnt cStr x.imports : Nat) + (cnt cTy x.types : Nat) + (cnt cObj x.objects : Nat) + (cnt cUse x.uses : Nat))) := by
  refine fun_ok (mkE_ok zmix (cl := [(46, c46), (51, c51), (72, c72), (73, c73)]) (gl := []) [] ⟨c46_ok, c51_ok, c72_ok, c73_ok⟩ trivial) Tryz.func18 (by kernel_rfl) ?_
  refine FunW_run _ _ rfl rfl ?_
  have e0 := c51_eq x.imports (k) (by omega) (by omega) h2.1
  have n0 : ¬ k + (cnt cStr x.imports : Nat) < 0 := by omega
  have e1 := c72_eq x.types (k + (cnt cStr x.imports : Nat)) (by omega) (by omega) h2.2.1
  have n1 : ¬ k + (cnt cStr x.imports : Nat) + (cnt cTy x.types : Nat) < 0 := by omega
  have e2 := c73_eq x.objects (k + (cnt cStr x.imports : Nat) + (cnt cTy x.types : Nat)) (by omega) (by omega) h2.2.2.1
  have n2 : ¬ k + (cnt cStr x.imports : Nat) + (cnt cTy x.types : Nat) + (cnt cObj x.objects : Nat) < 0 := by omega
  have e3 := c46_eq x.uses (k + (cnt cStr x.imports : Nat) + (cnt cTy x.types : Nat) + (cnt cObj x.objects : Nat)) (by omega) (by omega) h2.2.2.2
  have n3 : ¬ k + (cnt cStr x.imports : Nat) + (cnt cTy x.types : Nat) + (cnt cObj x.objects : Nat) + (cnt cUse x.uses : Nat) < 0 := by omega
  simp [mkScp, e0, n0, e1, n1, e2, n2, e3, n3]
noncomputable def c18 := ctr (fun a : Scp × Int => ∃ x : Scp, a.1 = mkScp a.2 x ∧ ∃ k, a.2 = k ∧ 0 ≤ k ∧ k + (cnt cStr x.imports : Nat) + (cnt cTy x.types : Nat) + (cnt cObj x.objects : Nat) + (cnt cUse x.uses : Nat) ≤ 4611686018427387904 ∧ x.imports.length ≤ 4611686018427387904 ∧ (x.types.length ≤ 4611686018427387904 ∧ ∀ y ∈ x.types, y.fields.length ≤ 4611686018427387904) ∧ (x.objects.length ≤ 4611686018427387904 ∧ ∀ y ∈ x.objects, y.params.length ≤ 4611686018427387904) ∧ x.uses.length ≤ 4611686018427387904) (fun a => [a.1.v, .int .i64 a.2]) (fun a => (false, .int .i64 (a.2 + (cScp a.1 : Nat))))
theorem inj18 (out : Scp × Int → Bool × V) : ∀ a b : Scp × Int, [a.1.v, V.int .i64 a.2] = [b.1.v, V.int .i64 b.2] → out a = out b := by
  rintro ⟨a, i⟩ ⟨b, j⟩ h
  simp only [List.cons.injEq, and_true, V.int.injEq, true_and] at h
  rw [Scp.v_inj h.1, h.2]
theorem c18_eq (x : Scp) (k : Int) (h0 : 0 ≤ k) (h1 : k + (cnt cStr x.imports : Nat) + (cnt cTy x.types : Nat) + (cnt cObj x.objects : Nat) + (cnt cUse x.uses : Nat) ≤ 4611686018427387904) (h2 : x.imports.length ≤ 4611686018427387904 ∧ (x.types.length ≤ 4611686018427387904 ∧ ∀ y ∈ x.types, y.fields.length ≤ 4611686018427387904) ∧ (x.objects.length ≤ 4611686018427387904 ∧ ∀ y ∈ x.objects, y.params.length ≤ 4611686018427387904) ∧ x.uses.length ≤ 4611686018427387904) : c18 [(mkScp k x).v, .int .i64 k] = some (false, .int .i64 (k + (cnt cStr x.imports : Nat) + (cnt cTy x.types : Nat) + (cnt cObj x.objects : Nat) + (cnt cUse x.uses : Nat))) := by
  have h := ctr_eq (p := fun a : Scp × Int => ∃ x : Scp, a.1 = mkScp a.2 x ∧ ∃ k, a.2 = k ∧ 0 ≤ k ∧ k + (cnt cStr x.imports : Nat) + (cnt cTy x.types : Nat) + (cnt cObj x.objects : Nat) + (cnt cUse x.uses : Nat) ≤ 4611686018427387904 ∧ x.imports.length ≤ 4611686018427387904 ∧ (x.types.length ≤ 4611686018427387904 ∧ ∀ y ∈ x.types, y.fields.length ≤ 4611686018427387904) ∧ (x.objects.length ≤ 4611686018427387904 ∧ ∀ y ∈ x.objects, y.params.length ≤ 4611686018427387904) ∧ x.uses.length ≤ 4611686018427387904) (enc := fun a => [a.1.v, .int .i64 a.2]) (out := fun a => (false, .int .i64 (a.2 + (cScp a.1 : Nat)))) (inj18 _) (mkScp k x, k) ⟨x, rfl, k, rfl, h0, h1, h2⟩ rfl
  have e : (k + (cnt cStr x.imports : Nat) + (cnt cTy x.types : Nat) + (cnt cObj x.objects : Nat) + (cnt cUse x.uses : Nat) : Int) = k + (cScp x : Nat) := by simp only [cScp]; omega
  rw [e, ← cScp_mk k x]
  exact h
theorem c18_ok : COK Tryz.prog (18, c18) := ctr_ok fun a h => by
  obtain ⟨z, k⟩ := a
  obtain ⟨x, e, k', e2, h0, h1, h2⟩ := h
  simp only at e e2
  subst e
  subst e2
  have e : (k + (cnt cStr x.imports : Nat) + (cnt cTy x.types : Nat) + (cnt cObj x.objects : Nat) + (cnt cUse x.uses : Nat) : Int) = k + (cScp x : Nat) := by simp only [cScp]; omega
  have := f18_ok x k h0 h1 h2
  rw [e] at this
  simp only [cScp_mk]
  exact this
end Go.TM.Tryz
end
