/- A part of the proof: ZMark, ZHeld, ZSz, ZEq, XK, XT. -/
import Derived.Test.YtaillfemdmkdpaaGreatK08
set_option linter.unusedVariables false
set_option linter.unusedSimpArgs false
section
set_option maxHeartbeats 2000000
set_option linter.unusedSimpArgs false
set_option linter.unusedVariables false
namespace Go.TM.Tryz
open Go Go.TM Go.Proofs
theorem f40_ok (k : Int) (h : k ≤ 4611686018427387904) : FunOK Tryz.prog 40 [.int .i64 k] false (.str (mtext k)) := by
  refine fun_ok (mkE_ok zmix (cl := []) (gl := []) [] trivial trivial) Tryz.func40 (by kernel_rfl) ?_
  refine FunW_run _ _ rfl rfl ?_
  by_cases h0 : k ≤ 0
  · simp [h0, mtext]
  · simp [h0]
    refine lp_ind (fun m t => ∃ (n : Nat) (out : ByteArray), m = n ∧ t.e 0 = .int .i64 n ∧ t.e 3 = .str out ∧ mdig n ++ out = mdig k.toNat ∧ out.size + n ≤ k) k.toNat ⟨k.toNat, ⟨#[]⟩, rfl, ?_⟩ ?_
    · have e : ((k.toNat : Nat) : Int) = k := by omega
      simp [e, ba_append_nil, ba_nil_size]
    rintro c' L hL m t ih ⟨n, out, rfl, h1, h3, hout, hsz⟩
    by_cases hn : m = 0
    · subst hn
      have hb : 1 + out.size ≤ 9223372036854775807 := by omega
      rw [mdig_zero, ba_nil_append] at hout
      subst hout
      simp [h1, h3, hL, ba_one_size, hb, mtext, h0]
    · have hn' : 0 < m := by omega
      have ht : Int.tdiv (m : Int) 10 = ((m / 10 : Nat) : Int) := by
        rw [Int.tdiv_eq_ediv_of_nonneg (by omega)]
        omega
      have hb : 1 + out.size ≤ 9223372036854775807 := by omega
      have hw : IntKind.i64.wrap ((m : Int) / 10) = (m : Int) / 10 := wrap64 (by omega) (by omega)
      simp [h1, h3, hL, hn', ht, ba_one_size, hb]
      refine ih (m / 10) _ (by omega) ⟨m / 10, _, rfl, by simp [hw], by simp; rfl, ?_, ?_⟩
      · rw [← ByteArray.append_assoc, ← mdig_succ hn, hout]
      · rw [ByteArray.size_append, ba_one_size]
        omega
noncomputable def c40 := ctr (fun k : Int => k ≤ 4611686018427387904) (fun k => [.int .i64 k]) (fun k => (false, .str (mtext k)))
theorem c40_eq (k : Int) (h : k ≤ 4611686018427387904) : c40 [.int .i64 k] = some (false, .str (mtext k)) := ctr_eq (by simp) k h rfl
theorem c40_ok : COK Tryz.prog (40, c40) := ctr_ok fun k h => f40_ok k h

theorem f36_ok (xs : List ByteArray) (k : Int) (h0 : 0 ≤ k) (h1 : k + cnt cStr xs ≤ 4611686018427387904) (h2 : xs.length ≤ 4611686018427387904) : GenOK Tryz.prog 36 [.inl 1 (xs.map V.str), .int .i64 k] [] ⟨false, .int .i64 (k + cnt cStr xs), [.inl 1 ((mkL mkStr cStr k xs).map V.str)], []⟩ := by
  refine fun_okG (mkE_ok zmix (cl := [(40, c40)]) (gl := []) [] c40_ok trivial) Tryz.func36 (by kernel_rfl) ?_
  refine FunG_run _ _ rfl rfl ?_
  have hlen := h2
  simp
  refine lp_list xs (fun i t => t.e 0 = .own 0 ∧ t.e 1 = .int .i64 (k + pre cStr xs i) ∧ t.e 5 = .int .i64 i ∧ t.nb = 0 ∧ 1 ≤ t.nt ∧ t.R 0 = some ⟨1, (mpart mkStr cStr k xs i).map V.str, true⟩) ?_ ?_ ?_
  · simp [pre_zero, mpart_zero]
  · rintro c' L hL i t x hx hi ih ⟨g0, g1, g5, gnb, gnt, gR⟩
    have hw : IntKind.i64.wrap ((i : Int) + 1) = ((i + 1 : Nat) : Int) := wrap64 (by omega) (by omega)
    have hp := pre_succ cStr hx
    have hp2 := pre_le cStr xs (i + 1)
    have hc : cStr x = 1 := rfl
    have hcnt : (xs.map cStr).sum = cnt cStr xs := rfl
    have e0 := c40_eq (k + (pre cStr xs i : Nat)) (by omega)
    have w0 : IntKind.i64.wrap (k + (pre cStr xs i : Nat) + 1) = k + (pre cStr xs i : Nat) + 1 := wrap64 (by omega) (by omega)
    have hx' := mpart_get (f := mkStr) (c := cStr) (k := k) hx
    simp [-getElem?_pos, List.getElem?_cons_zero, List.getElem?_cons_succ, g0, g1, g5, gnb, gR, hL, hx', hi, e0, w0]
    refine ih _ ?_
    simp [-getElem?_pos, List.getElem?_cons_zero, List.getElem?_cons_succ, g0, g1, g5, gnb, gR, hL, hx', hi, e0, w0, hp, hc, hw]
    first
      | exact ⟨by omega, by omega, mpart_setv hx rfl⟩
      | exact ⟨by omega, mpart_setv hx rfl⟩
      | exact mpart_setv hx rfl
  · rintro c' t ⟨g0, g1, g5, gnb, gnt, gR⟩
    simp only [pre_all] at g1
    simp [g0, g1, g5, gnb, gR, mpart_all, cnt]
noncomputable def c36 := ctrG (fun a : List ByteArray × Int => 0 ≤ a.2 ∧ a.2 + cnt cStr a.1 ≤ 4611686018427387904 ∧ (a.1.length ≤ 4611686018427387904)) (fun a => ([.inl 1 (a.1.map V.str), .int .i64 a.2], [])) (fun a => ⟨false, .int .i64 (a.2 + cnt cStr a.1), [.inl 1 ((mkL mkStr cStr a.2 a.1).map V.str)], []⟩)
theorem c36_eq (xs : List ByteArray) (k : Int) (h0 : 0 ≤ k) (h1 : k + cnt cStr xs ≤ 4611686018427387904) (h2 : xs.length ≤ 4611686018427387904) : c36 [.inl 1 (xs.map V.str), .int .i64 k] [] = some ⟨false, .int .i64 (k + cnt cStr xs), [.inl 1 ((mkL mkStr cStr k xs).map V.str)], []⟩ := ctrG_eq (injG str_inj _) (xs, k) ⟨h0, h1, h2⟩ rfl
theorem c36_ok : GOK Tryz.prog (36, [true], c36) := ctrG_ok fun a h => f36_ok a.1 a.2 h.1 h.2.1 h.2.2

theorem f72_ok (xs : List Fld) (k : Int) (h0 : 0 ≤ k) (h1 : k + cnt cFld xs ≤ 4611686018427387904) (h2 : xs.length ≤ 4611686018427387904) : GenOK Tryz.prog 72 [.inl 3 (xs.map Fld.v), .int .i64 k] [] ⟨false, .int .i64 (k + cnt cFld xs), [.inl 3 ((mkL mkFld cFld k xs).map Fld.v)], []⟩ := by
  refine fun_okG (mkE_ok zmix (cl := [(40, c40)]) (gl := []) [] c40_ok trivial) Tryz.func72 (by kernel_rfl) ?_
  refine FunG_run _ _ rfl rfl ?_
  have hlen := h2
  simp
  refine lp_list xs (fun i t => t.e 0 = .own 0 ∧ t.e 1 = .int .i64 (k + pre cFld xs i) ∧ t.e 5 = .int .i64 i ∧ t.nb = 0 ∧ 1 ≤ t.nt ∧ t.R 0 = some ⟨3, (mpart mkFld cFld k xs i).map Fld.v, true⟩) ?_ ?_ ?_
  · simp [pre_zero, mpart_zero]
  · rintro c' L hL i t x hx hi ih ⟨g0, g1, g5, gnb, gnt, gR⟩
    have hw : IntKind.i64.wrap ((i : Int) + 1) = ((i + 1 : Nat) : Int) := wrap64 (by omega) (by omega)
    have hp := pre_succ cFld hx
    have hp2 := pre_le cFld xs (i + 1)
    have hc : cFld x = 3 := rfl
    have hcnt : (xs.map cFld).sum = cnt cFld xs := rfl
    have e0 := c40_eq (k + (pre cFld xs i : Nat)) (by omega)
    have w0 : IntKind.i64.wrap (k + (pre cFld xs i : Nat) + 1) = k + (pre cFld xs i : Nat) + 1 := wrap64 (by omega) (by omega)
    have w1 : IntKind.i64.wrap (k + (pre cFld xs i : Nat) + 1 + 1) = k + (pre cFld xs i : Nat) + 1 + 1 := wrap64 (by omega) (by omega)
    have w2 : IntKind.i64.wrap (k + (pre cFld xs i : Nat) + 1 + 1 + 1) = k + (pre cFld xs i : Nat) + 1 + 1 + 1 := wrap64 (by omega) (by omega)
    have hx' := mpart_get (f := mkFld) (c := cFld) (k := k) hx
    simp [-getElem?_pos, List.getElem?_cons_zero, List.getElem?_cons_succ, g0, g1, g5, gnb, gR, hL, hx', hi, e0, w0, w1, w2]
    refine ih _ ?_
    simp [-getElem?_pos, List.getElem?_cons_zero, List.getElem?_cons_succ, g0, g1, g5, gnb, gR, hL, hx', hi, e0, w0, w1, w2, hp, hc, hw]
    first
      | exact ⟨by omega, by omega, mpart_setv hx rfl⟩
      | exact ⟨by omega, mpart_setv hx rfl⟩
      | exact mpart_setv hx rfl
  · rintro c' t ⟨g0, g1, g5, gnb, gnt, gR⟩
    simp only [pre_all] at g1
    simp [g0, g1, g5, gnb, gR, mpart_all, cnt]
noncomputable def c72 := ctrG (fun a : List Fld × Int => 0 ≤ a.2 ∧ a.2 + cnt cFld a.1 ≤ 4611686018427387904 ∧ (a.1.length ≤ 4611686018427387904)) (fun a => ([.inl 3 (a.1.map Fld.v), .int .i64 a.2], [])) (fun a => ⟨false, .int .i64 (a.2 + cnt cFld a.1), [.inl 3 ((mkL mkFld cFld a.2 a.1).map Fld.v)], []⟩)
theorem c72_eq (xs : List Fld) (k : Int) (h0 : 0 ≤ k) (h1 : k + cnt cFld xs ≤ 4611686018427387904) (h2 : xs.length ≤ 4611686018427387904) : c72 [.inl 3 (xs.map Fld.v), .int .i64 k] [] = some ⟨false, .int .i64 (k + cnt cFld xs), [.inl 3 ((mkL mkFld cFld k xs).map Fld.v)], []⟩ := ctrG_eq (injG Fld.v_inj _) (xs, k) ⟨h0, h1, h2⟩ rfl
theorem c72_ok : GOK Tryz.prog (72, [true], c72) := ctrG_ok fun a h => f72_ok a.1 a.2 h.1 h.2.1 h.2.2

theorem f73_ok (xs : List Par) (k : Int) (h0 : 0 ≤ k) (h1 : k + cnt cPar xs ≤ 4611686018427387904) (h2 : xs.length ≤ 4611686018427387904) : GenOK Tryz.prog 73 [.inl 3 (xs.map Par.v), .int .i64 k] [] ⟨false, .int .i64 (k + cnt cPar xs), [.inl 3 ((mkL mkPar cPar k xs).map Par.v)], []⟩ := by
  refine fun_okG (mkE_ok zmix (cl := [(40, c40)]) (gl := []) [] c40_ok trivial) Tryz.func73 (by kernel_rfl) ?_
  refine FunG_run _ _ rfl rfl ?_
  have hlen := h2
  simp
  refine lp_list xs (fun i t => t.e 0 = .own 0 ∧ t.e 1 = .int .i64 (k + pre cPar xs i) ∧ t.e 5 = .int .i64 i ∧ t.nb = 0 ∧ 1 ≤ t.nt ∧ t.R 0 = some ⟨3, (mpart mkPar cPar k xs i).map Par.v, true⟩) ?_ ?_ ?_
  · simp [pre_zero, mpart_zero]
  · rintro c' L hL i t x hx hi ih ⟨g0, g1, g5, gnb, gnt, gR⟩
    have hw : IntKind.i64.wrap ((i : Int) + 1) = ((i + 1 : Nat) : Int) := wrap64 (by omega) (by omega)
    have hp := pre_succ cPar hx
    have hp2 := pre_le cPar xs (i + 1)
    have hc : cPar x = 3 := rfl
    have hcnt : (xs.map cPar).sum = cnt cPar xs := rfl
    have e0 := c40_eq (k + (pre cPar xs i : Nat)) (by omega)
    have w0 : IntKind.i64.wrap (k + (pre cPar xs i : Nat) + 1) = k + (pre cPar xs i : Nat) + 1 := wrap64 (by omega) (by omega)
    have w1 : IntKind.i64.wrap (k + (pre cPar xs i : Nat) + 1 + 1) = k + (pre cPar xs i : Nat) + 1 + 1 := wrap64 (by omega) (by omega)
    have w2 : IntKind.i64.wrap (k + (pre cPar xs i : Nat) + 1 + 1 + 1) = k + (pre cPar xs i : Nat) + 1 + 1 + 1 := wrap64 (by omega) (by omega)
    have hx' := mpart_get (f := mkPar) (c := cPar) (k := k) hx
    simp [-getElem?_pos, List.getElem?_cons_zero, List.getElem?_cons_succ, g0, g1, g5, gnb, gR, hL, hx', hi, e0, w0, w1, w2]
    refine ih _ ?_
    simp [-getElem?_pos, List.getElem?_cons_zero, List.getElem?_cons_succ, g0, g1, g5, gnb, gR, hL, hx', hi, e0, w0, w1, w2, hp, hc, hw]
    first
      | exact ⟨by omega, by omega, mpart_setv hx rfl⟩
      | exact ⟨by omega, mpart_setv hx rfl⟩
      | exact mpart_setv hx rfl
  · rintro c' t ⟨g0, g1, g5, gnb, gnt, gR⟩
    simp only [pre_all] at g1
    simp [g0, g1, g5, gnb, gR, mpart_all, cnt]
noncomputable def c73 := ctrG (fun a : List Par × Int => 0 ≤ a.2 ∧ a.2 + cnt cPar a.1 ≤ 4611686018427387904 ∧ (a.1.length ≤ 4611686018427387904)) (fun a => ([.inl 3 (a.1.map Par.v), .int .i64 a.2], [])) (fun a => ⟨false, .int .i64 (a.2 + cnt cPar a.1), [.inl 3 ((mkL mkPar cPar a.2 a.1).map Par.v)], []⟩)
theorem c73_eq (xs : List Par) (k : Int) (h0 : 0 ≤ k) (h1 : k + cnt cPar xs ≤ 4611686018427387904) (h2 : xs.length ≤ 4611686018427387904) : c73 [.inl 3 (xs.map Par.v), .int .i64 k] [] = some ⟨false, .int .i64 (k + cnt cPar xs), [.inl 3 ((mkL mkPar cPar k xs).map Par.v)], []⟩ := ctrG_eq (injG Par.v_inj _) (xs, k) ⟨h0, h1, h2⟩ rfl
theorem c73_ok : GOK Tryz.prog (73, [true], c73) := ctrG_ok fun a h => f73_ok a.1 a.2 h.1 h.2.1 h.2.2

theorem f39_ok (xs : List Use) (k : Int) (h0 : 0 ≤ k) (h1 : k + cnt cUse xs ≤ 4611686018427387904) (h2 : xs.length ≤ 4611686018427387904) : GenOK Tryz.prog 39 [.inl 2 (xs.map Use.v), .int .i64 k] [] ⟨false, .int .i64 (k + cnt cUse xs), [.inl 2 ((mkL mkUse cUse k xs).map Use.v)], []⟩ := by
  refine fun_okG (mkE_ok zmix (cl := [(40, c40)]) (gl := []) [] c40_ok trivial) Tryz.func39 (by kernel_rfl) ?_
  refine FunG_run _ _ rfl rfl ?_
  have hlen := h2
  simp
  refine lp_list xs (fun i t => t.e 0 = .own 0 ∧ t.e 1 = .int .i64 (k + pre cUse xs i) ∧ t.e 5 = .int .i64 i ∧ t.nb = 0 ∧ 1 ≤ t.nt ∧ t.R 0 = some ⟨2, (mpart mkUse cUse k xs i).map Use.v, true⟩) ?_ ?_ ?_
  · simp [pre_zero, mpart_zero]
  · rintro c' L hL i t x hx hi ih ⟨g0, g1, g5, gnb, gnt, gR⟩
    have hw : IntKind.i64.wrap ((i : Int) + 1) = ((i + 1 : Nat) : Int) := wrap64 (by omega) (by omega)
    have hp := pre_succ cUse hx
    have hp2 := pre_le cUse xs (i + 1)
    have hc : cUse x = 2 := rfl
    have hcnt : (xs.map cUse).sum = cnt cUse xs := rfl
    have e0 := c40_eq (k + (pre cUse xs i : Nat)) (by omega)
    have w0 : IntKind.i64.wrap (k + (pre cUse xs i : Nat) + 1) = k + (pre cUse xs i : Nat) + 1 := wrap64 (by omega) (by omega)
    have e1 := c40_eq (k + (pre cUse xs i : Nat) + 1) (by omega)
    have w1 : IntKind.i64.wrap (k + (pre cUse xs i : Nat) + 1 + 1) = k + (pre cUse xs i : Nat) + 1 + 1 := wrap64 (by omega) (by omega)
    have hx' := mpart_get (f := mkUse) (c := cUse) (k := k) hx
    simp [-getElem?_pos, List.getElem?_cons_zero, List.getElem?_cons_succ, g0, g1, g5, gnb, gR, hL, hx', hi, e0, w0, e1, w1]
    refine ih _ ?_
    simp [-getElem?_pos, List.getElem?_cons_zero, List.getElem?_cons_succ, g0, g1, g5, gnb, gR, hL, hx', hi, e0, w0, e1, w1, hp, hc, hw]
    first
      | exact ⟨by omega, by omega, mpart_setv hx rfl⟩
      | exact ⟨by omega, mpart_setv hx rfl⟩
      | exact mpart_setv hx rfl
  · rintro c' t ⟨g0, g1, g5, gnb, gnt, gR⟩
    simp only [pre_all] at g1
    simp [g0, g1, g5, gnb, gR, mpart_all, cnt]
noncomputable def c39 := ctrG (fun a : List Use × Int => 0 ≤ a.2 ∧ a.2 + cnt cUse a.1 ≤ 4611686018427387904 ∧ (a.1.length ≤ 4611686018427387904)) (fun a => ([.inl 2 (a.1.map Use.v), .int .i64 a.2], [])) (fun a => ⟨false, .int .i64 (a.2 + cnt cUse a.1), [.inl 2 ((mkL mkUse cUse a.2 a.1).map Use.v)], []⟩)
theorem c39_eq (xs : List Use) (k : Int) (h0 : 0 ≤ k) (h1 : k + cnt cUse xs ≤ 4611686018427387904) (h2 : xs.length ≤ 4611686018427387904) : c39 [.inl 2 (xs.map Use.v), .int .i64 k] [] = some ⟨false, .int .i64 (k + cnt cUse xs), [.inl 2 ((mkL mkUse cUse k xs).map Use.v)], []⟩ := ctrG_eq (injG Use.v_inj _) (xs, k) ⟨h0, h1, h2⟩ rfl
theorem c39_ok : GOK Tryz.prog (39, [true], c39) := ctrG_ok fun a h => f39_ok a.1 a.2 h.1 h.2.1 h.2.2

theorem f37_ok (xs : List Ty) (k : Int) (h0 : 0 ≤ k) (h1 : k + cnt cTy xs ≤ 4611686018427387904) (h2 : xs.length ≤ 4611686018427387904 ∧ ∀ x ∈ xs, x.fields.length ≤ 4611686018427387904) : GenOK Tryz.prog 37 [.inl 6 (xs.map Ty.o), .int .i64 k] [] ⟨false, .int .i64 (k + cnt cTy xs), [.inl 6 ((mkL mkTy cTy k xs).map Ty.o)], []⟩ := by
  refine fun_okG (mkE_ok zmix (cl := [(40, c40)]) (gl := [(72, [true], c72)]) [] c40_ok c72_ok) Tryz.func37 (by kernel_rfl) ?_
  refine FunG_run _ _ rfl rfl ?_
  have hlen := h2.1
  simp
  refine lp_list xs (fun i t => t.e 0 = .own 0 ∧ t.e 1 = .int .i64 (k + pre cTy xs i) ∧ t.e 5 = .int .i64 i ∧ t.nb = 0 ∧ 1 ≤ t.nt ∧ t.R 0 = some ⟨6, (mpart mkTy cTy k xs i).map Ty.o, true⟩) ?_ ?_ ?_
  · simp [pre_zero, mpart_zero]
  · rintro c' L hL i t x hx hi ih ⟨g0, g1, g5, gnb, gnt, gR⟩
    have hw : IntKind.i64.wrap ((i : Int) + 1) = ((i + 1 : Nat) : Int) := wrap64 (by omega) (by omega)
    have hp := pre_succ cTy hx
    have hp2 := pre_le cTy xs (i + 1)
    have hc : cTy x = 5+cnt cFld x.fields := rfl
    have hcnt : (xs.map cTy).sum = cnt cTy xs := rfl
    have hlen3 : x.fields.length ≤ 4611686018427387904 := h2.2 x (List.mem_of_getElem? hx)
    have w0 : IntKind.i64.wrap (k + (pre cTy xs i : Nat) + 1) = k + (pre cTy xs i : Nat) + 1 := wrap64 (by omega) (by omega)
    have w1 : IntKind.i64.wrap (k + (pre cTy xs i : Nat) + 1 + 1) = k + (pre cTy xs i : Nat) + 1 + 1 := wrap64 (by omega) (by omega)
    have w2 : IntKind.i64.wrap (k + (pre cTy xs i : Nat) + 1 + 1 + 1) = k + (pre cTy xs i : Nat) + 1 + 1 + 1 := wrap64 (by omega) (by omega)
    have e3 := c72_eq x.fields (k + (pre cTy xs i : Nat) + 1 + 1 + 1) (by omega) (by omega) hlen3
    have e4 := c40_eq (k + (pre cTy xs i : Nat) + 1 + 1 + 1 + (cnt cFld x.fields : Nat)) (by omega)
    have w4 : IntKind.i64.wrap (k + (pre cTy xs i : Nat) + 1 + 1 + 1 + (cnt cFld x.fields : Nat) + 1) = k + (pre cTy xs i : Nat) + 1 + 1 + 1 + (cnt cFld x.fields : Nat) + 1 := wrap64 (by omega) (by omega)
    have e5 := c40_eq (k + (pre cTy xs i : Nat) + 1 + 1 + 1 + (cnt cFld x.fields : Nat) + 1) (by omega)
    have w5 : IntKind.i64.wrap (k + (pre cTy xs i : Nat) + 1 + 1 + 1 + (cnt cFld x.fields : Nat) + 1 + 1) = k + (pre cTy xs i : Nat) + 1 + 1 + 1 + (cnt cFld x.fields : Nat) + 1 + 1 := wrap64 (by omega) (by omega)
    have hx' := mpart_get (f := mkTy) (c := cTy) (k := k) hx
    simp [-getElem?_pos, List.getElem?_cons_zero, List.getElem?_cons_succ, g0, g1, g5, gnb, gR, hL, hx', hi, w0, w1, w2, e3, e4, w4, e5, w5]
    refine ih _ ?_
    simp [-getElem?_pos, List.getElem?_cons_zero, List.getElem?_cons_succ, g0, g1, g5, gnb, gR, hL, hx', hi, w0, w1, w2, e3, e4, w4, e5, w5, hp, hc, hw]
    first
      | exact ⟨by omega, by omega, mpart_setv hx rfl⟩
      | exact ⟨by omega, mpart_setv hx rfl⟩
      | exact mpart_setv hx rfl
  · rintro c' t ⟨g0, g1, g5, gnb, gnt, gR⟩
    simp only [pre_all] at g1
    simp [g0, g1, g5, gnb, gR, mpart_all, cnt]
noncomputable def c37 := ctrG (fun a : List Ty × Int => 0 ≤ a.2 ∧ a.2 + cnt cTy a.1 ≤ 4611686018427387904 ∧ (a.1.length ≤ 4611686018427387904 ∧ ∀ x ∈ a.1, x.fields.length ≤ 4611686018427387904)) (fun a => ([.inl 6 (a.1.map Ty.o), .int .i64 a.2], [])) (fun a => ⟨false, .int .i64 (a.2 + cnt cTy a.1), [.inl 6 ((mkL mkTy cTy a.2 a.1).map Ty.o)], []⟩)
theorem c37_eq (xs : List Ty) (k : Int) (h0 : 0 ≤ k) (h1 : k + cnt cTy xs ≤ 4611686018427387904) (h2 : xs.length ≤ 4611686018427387904 ∧ ∀ x ∈ xs, x.fields.length ≤ 4611686018427387904) : c37 [.inl 6 (xs.map Ty.o), .int .i64 k] [] = some ⟨false, .int .i64 (k + cnt cTy xs), [.inl 6 ((mkL mkTy cTy k xs).map Ty.o)], []⟩ := ctrG_eq (injG Ty.o_inj _) (xs, k) ⟨h0, h1, h2⟩ rfl
theorem c37_ok : GOK Tryz.prog (37, [true], c37) := ctrG_ok fun a h => f37_ok a.1 a.2 h.1 h.2.1 h.2.2

theorem f38_ok (xs : List Obj) (k : Int) (h0 : 0 ≤ k) (h1 : k + cnt cObj xs ≤ 4611686018427387904) (h2 : xs.length ≤ 4611686018427387904 ∧ ∀ x ∈ xs, x.params.length ≤ 4611686018427387904) : GenOK Tryz.prog 38 [.inl 6 (xs.map Obj.o), .int .i64 k] [] ⟨false, .int .i64 (k + cnt cObj xs), [.inl 6 ((mkL mkObj cObj k xs).map Obj.o)], []⟩ := by
  refine fun_okG (mkE_ok zmix (cl := [(40, c40)]) (gl := [(73, [true], c73)]) [] c40_ok c73_ok) Tryz.func38 (by kernel_rfl) ?_
  refine FunG_run _ _ rfl rfl ?_
  have hlen := h2.1
  simp
  refine lp_list xs (fun i t => t.e 0 = .own 0 ∧ t.e 1 = .int .i64 (k + pre cObj xs i) ∧ t.e 5 = .int .i64 i ∧ t.nb = 0 ∧ 1 ≤ t.nt ∧ t.R 0 = some ⟨6, (mpart mkObj cObj k xs i).map Obj.o, true⟩) ?_ ?_ ?_
  · simp [pre_zero, mpart_zero]
  · rintro c' L hL i t x hx hi ih ⟨g0, g1, g5, gnb, gnt, gR⟩
    have hw : IntKind.i64.wrap ((i : Int) + 1) = ((i + 1 : Nat) : Int) := wrap64 (by omega) (by omega)
    have hp := pre_succ cObj hx
    have hp2 := pre_le cObj xs (i + 1)
    have hc : cObj x = 5+cnt cPar x.params := rfl
    have hcnt : (xs.map cObj).sum = cnt cObj xs := rfl
    have hlen5 : x.params.length ≤ 4611686018427387904 := h2.2 x (List.mem_of_getElem? hx)
    have e0 := c40_eq (k + (pre cObj xs i : Nat)) (by omega)
    have w0 : IntKind.i64.wrap (k + (pre cObj xs i : Nat) + 1) = k + (pre cObj xs i : Nat) + 1 := wrap64 (by omega) (by omega)
    have w1 : IntKind.i64.wrap (k + (pre cObj xs i : Nat) + 1 + 1) = k + (pre cObj xs i : Nat) + 1 + 1 := wrap64 (by omega) (by omega)
    have w2 : IntKind.i64.wrap (k + (pre cObj xs i : Nat) + 1 + 1 + 1) = k + (pre cObj xs i : Nat) + 1 + 1 + 1 := wrap64 (by omega) (by omega)
    have w3 : IntKind.i64.wrap (k + (pre cObj xs i : Nat) + 1 + 1 + 1 + 1) = k + (pre cObj xs i : Nat) + 1 + 1 + 1 + 1 := wrap64 (by omega) (by omega)
    have w4 : IntKind.i64.wrap (k + (pre cObj xs i : Nat) + 1 + 1 + 1 + 1 + 1) = k + (pre cObj xs i : Nat) + 1 + 1 + 1 + 1 + 1 := wrap64 (by omega) (by omega)
    have e5 := c73_eq x.params (k + (pre cObj xs i : Nat) + 1 + 1 + 1 + 1 + 1) (by omega) (by omega) hlen5
    have hx' := mpart_get (f := mkObj) (c := cObj) (k := k) hx
    simp [-getElem?_pos, List.getElem?_cons_zero, List.getElem?_cons_succ, g0, g1, g5, gnb, gR, hL, hx', hi, e0, w0, w1, w2, w3, w4, e5]
    refine ih _ ?_
    simp [-getElem?_pos, List.getElem?_cons_zero, List.getElem?_cons_succ, g0, g1, g5, gnb, gR, hL, hx', hi, e0, w0, w1, w2, w3, w4, e5, hp, hc, hw]
    first
      | exact ⟨by omega, by omega, mpart_setv hx rfl⟩
      | exact ⟨by omega, mpart_setv hx rfl⟩
      | exact mpart_setv hx rfl
  · rintro c' t ⟨g0, g1, g5, gnb, gnt, gR⟩
    simp only [pre_all] at g1
    simp [g0, g1, g5, gnb, gR, mpart_all, cnt]
noncomputable def c38 := ctrG (fun a : List Obj × Int => 0 ≤ a.2 ∧ a.2 + cnt cObj a.1 ≤ 4611686018427387904 ∧ (a.1.length ≤ 4611686018427387904 ∧ ∀ x ∈ a.1, x.params.length ≤ 4611686018427387904)) (fun a => ([.inl 6 (a.1.map Obj.o), .int .i64 a.2], [])) (fun a => ⟨false, .int .i64 (a.2 + cnt cObj a.1), [.inl 6 ((mkL mkObj cObj a.2 a.1).map Obj.o)], []⟩)
theorem c38_eq (xs : List Obj) (k : Int) (h0 : 0 ≤ k) (h1 : k + cnt cObj xs ≤ 4611686018427387904) (h2 : xs.length ≤ 4611686018427387904 ∧ ∀ x ∈ xs, x.params.length ≤ 4611686018427387904) : c38 [.inl 6 (xs.map Obj.o), .int .i64 k] [] = some ⟨false, .int .i64 (k + cnt cObj xs), [.inl 6 ((mkL mkObj cObj k xs).map Obj.o)], []⟩ := ctrG_eq (injG Obj.o_inj _) (xs, k) ⟨h0, h1, h2⟩ rfl
theorem c38_ok : GOK Tryz.prog (38, [true], c38) := ctrG_ok fun a h => f38_ok a.1 a.2 h.1 h.2.1 h.2.2

theorem f12_ok (xs : List Fgr) (k : Int) (h0 : 0 ≤ k) (h1 : k + cnt cFgr xs ≤ 4611686018427387904) (h2 : xs.length ≤ 4611686018427387904) : GenOK Tryz.prog 12 [.inl 3 (xs.map Fgr.v), .int .i64 k] [] ⟨false, .int .i64 (k + cnt cFgr xs), [.inl 3 ((mkL mkFgr cFgr k xs).map Fgr.v)], []⟩ := by
  refine fun_okG (mkE_ok zmix (cl := [(40, c40)]) (gl := []) [] c40_ok trivial) Tryz.func12 (by kernel_rfl) ?_
  refine FunG_run _ _ rfl rfl ?_
  have hlen := h2
  simp
  refine lp_list xs (fun i t => t.e 0 = .own 0 ∧ t.e 1 = .int .i64 (k + pre cFgr xs i) ∧ t.e 5 = .int .i64 i ∧ t.nb = 0 ∧ 1 ≤ t.nt ∧ t.R 0 = some ⟨3, (mpart mkFgr cFgr k xs i).map Fgr.v, true⟩) ?_ ?_ ?_
  · simp [pre_zero, mpart_zero]
  · rintro c' L hL i t x hx hi ih ⟨g0, g1, g5, gnb, gnt, gR⟩
    have hw : IntKind.i64.wrap ((i : Int) + 1) = ((i + 1 : Nat) : Int) := wrap64 (by omega) (by omega)
    have hp := pre_succ cFgr hx
    have hp2 := pre_le cFgr xs (i + 1)
    have hc : cFgr x = 3 := rfl
    have hcnt : (xs.map cFgr).sum = cnt cFgr xs := rfl
    have e0 := c40_eq (k + (pre cFgr xs i : Nat)) (by omega)
    have w0 : IntKind.i64.wrap (k + (pre cFgr xs i : Nat) + 1) = k + (pre cFgr xs i : Nat) + 1 := wrap64 (by omega) (by omega)
    have w1 : IntKind.i64.wrap (k + (pre cFgr xs i : Nat) + 1 + 1) = k + (pre cFgr xs i : Nat) + 1 + 1 := wrap64 (by omega) (by omega)
    have w2 : IntKind.i64.wrap (k + (pre cFgr xs i : Nat) + 1 + 1 + 1) = k + (pre cFgr xs i : Nat) + 1 + 1 + 1 := wrap64 (by omega) (by omega)
    have hx' := mpart_get (f := mkFgr) (c := cFgr) (k := k) hx
    simp [-getElem?_pos, List.getElem?_cons_zero, List.getElem?_cons_succ, g0, g1, g5, gnb, gR, hL, hx', hi, e0, w0, w1, w2]
    refine ih _ ?_
    simp [-getElem?_pos, List.getElem?_cons_zero, List.getElem?_cons_succ, g0, g1, g5, gnb, gR, hL, hx', hi, e0, w0, w1, w2, hp, hc, hw]
    first
      | exact ⟨by omega, by omega, mpart_setv hx rfl⟩
      | exact ⟨by omega, mpart_setv hx rfl⟩
      | exact mpart_setv hx rfl
  · rintro c' t ⟨g0, g1, g5, gnb, gnt, gR⟩
    simp only [pre_all] at g1
    simp [g0, g1, g5, gnb, gR, mpart_all, cnt]
noncomputable def c12 := ctrG (fun a : List Fgr × Int => 0 ≤ a.2 ∧ a.2 + cnt cFgr a.1 ≤ 4611686018427387904 ∧ (a.1.length ≤ 4611686018427387904)) (fun a => ([.inl 3 (a.1.map Fgr.v), .int .i64 a.2], [])) (fun a => ⟨false, .int .i64 (a.2 + cnt cFgr a.1), [.inl 3 ((mkL mkFgr cFgr a.2 a.1).map Fgr.v)], []⟩)
theorem c12_eq (xs : List Fgr) (k : Int) (h0 : 0 ≤ k) (h1 : k + cnt cFgr xs ≤ 4611686018427387904) (h2 : xs.length ≤ 4611686018427387904) : c12 [.inl 3 (xs.map Fgr.v), .int .i64 k] [] = some ⟨false, .int .i64 (k + cnt cFgr xs), [.inl 3 ((mkL mkFgr cFgr k xs).map Fgr.v)], []⟩ := ctrG_eq (injG Fgr.v_inj _) (xs, k) ⟨h0, h1, h2⟩ rfl
theorem c12_ok : GOK Tryz.prog (12, [true], c12) := ctrG_ok fun a h => f12_ok a.1 a.2 h.1 h.2.1 h.2.2

theorem f17_ok (xs : List Chg) (k : Int) (h0 : 0 ≤ k) (h1 : k + cnt cChg xs ≤ 4611686018427387904) (h2 : xs.length ≤ 4611686018427387904) : GenOK Tryz.prog 17 [.inl 2 (xs.map Chg.v), .int .i64 k] [] ⟨false, .int .i64 (k + cnt cChg xs), [.inl 2 ((mkL mkChg cChg k xs).map Chg.v)], []⟩ := by
  refine fun_okG (mkE_ok zmix (cl := [(40, c40)]) (gl := []) [] c40_ok trivial) Tryz.func17 (by kernel_rfl) ?_
  refine FunG_run _ _ rfl rfl ?_
  have hlen := h2
  simp
  refine lp_list xs (fun i t => t.e 0 = .own 0 ∧ t.e 1 = .int .i64 (k + pre cChg xs i) ∧ t.e 5 = .int .i64 i ∧ t.nb = 0 ∧ 1 ≤ t.nt ∧ t.R 0 = some ⟨2, (mpart mkChg cChg k xs i).map Chg.v, true⟩) ?_ ?_ ?_
  · simp [pre_zero, mpart_zero]
  · rintro c' L hL i t x hx hi ih ⟨g0, g1, g5, gnb, gnt, gR⟩
    have hw : IntKind.i64.wrap ((i : Int) + 1) = ((i + 1 : Nat) : Int) := wrap64 (by omega) (by omega)
    have hp := pre_succ cChg hx
    have hp2 := pre_le cChg xs (i + 1)
    have hc : cChg x = 2 := rfl
    have hcnt : (xs.map cChg).sum = cnt cChg xs := rfl
    have e0 := c40_eq (k + (pre cChg xs i : Nat)) (by omega)
    have w0 : IntKind.i64.wrap (k + (pre cChg xs i : Nat) + 1) = k + (pre cChg xs i : Nat) + 1 := wrap64 (by omega) (by omega)
    have w1 : IntKind.i64.wrap (k + (pre cChg xs i : Nat) + 1 + 1) = k + (pre cChg xs i : Nat) + 1 + 1 := wrap64 (by omega) (by omega)
    have hx' := mpart_get (f := mkChg) (c := cChg) (k := k) hx
    simp [-getElem?_pos, List.getElem?_cons_zero, List.getElem?_cons_succ, g0, g1, g5, gnb, gR, hL, hx', hi, e0, w0, w1]
    refine ih _ ?_
    simp [-getElem?_pos, List.getElem?_cons_zero, List.getElem?_cons_succ, g0, g1, g5, gnb, gR, hL, hx', hi, e0, w0, w1, hp, hc, hw]
    first
      | exact ⟨by omega, by omega, mpart_setv hx rfl⟩
      | exact ⟨by omega, mpart_setv hx rfl⟩
      | exact mpart_setv hx rfl
  · rintro c' t ⟨g0, g1, g5, gnb, gnt, gR⟩
    simp only [pre_all] at g1
    simp [g0, g1, g5, gnb, gR, mpart_all, cnt]
noncomputable def c17 := ctrG (fun a : List Chg × Int => 0 ≤ a.2 ∧ a.2 + cnt cChg a.1 ≤ 4611686018427387904 ∧ (a.1.length ≤ 4611686018427387904)) (fun a => ([.inl 2 (a.1.map Chg.v), .int .i64 a.2], [])) (fun a => ⟨false, .int .i64 (a.2 + cnt cChg a.1), [.inl 2 ((mkL mkChg cChg a.2 a.1).map Chg.v)], []⟩)
theorem c17_eq (xs : List Chg) (k : Int) (h0 : 0 ≤ k) (h1 : k + cnt cChg xs ≤ 4611686018427387904) (h2 : xs.length ≤ 4611686018427387904) : c17 [.inl 2 (xs.map Chg.v), .int .i64 k] [] = some ⟨false, .int .i64 (k + cnt cChg xs), [.inl 2 ((mkL mkChg cChg k xs).map Chg.v)], []⟩ := ctrG_eq (injG Chg.v_inj _) (xs, k) ⟨h0, h1, h2⟩ rfl
theorem c17_ok : GOK Tryz.prog (17, [true], c17) := ctrG_ok fun a h => f17_ok a.1 a.2 h.1 h.2.1 h.2.2

end Go.TM.Tryz
end
section
set_option maxHeartbeats 2000000
set_option linter.unusedSimpArgs false
set_option linter.unusedVariables false
namespace Go.TM.Tryz
open Go Go.TM Go.Proofs
theorem f11_ok (x : Scp) (k : Int) (h0 : 0 ≤ k) (h1 : k + (cnt cStr x.imports : Nat) + (cnt cTy x.types : Nat) + (cnt cObj x.objects : Nat) + (cnt cUse x.uses : Nat) ≤ 4611686018427387904) (h2 : x.imports.length ≤ 4611686018427387904 ∧ (x.types.length ≤ 4611686018427387904 ∧ ∀ y ∈ x.types, y.fields.length ≤ 4611686018427387904) ∧ (x.objects.length ≤ 4611686018427387904 ∧ ∀ y ∈ x.objects, y.params.length ≤ 4611686018427387904) ∧ x.uses.length ≤ 4611686018427387904) : GenOK Tryz.prog 11 [x.o, .int .i64 k] [] ⟨false, .int .i64 (k + (cnt cStr x.imports : Nat) + (cnt cTy x.types : Nat) + (cnt cObj x.objects : Nat) + (cnt cUse x.uses : Nat)), [.inl 1 ((mkL mkStr cStr (k) x.imports).map V.str), .inl 6 ((mkL mkTy cTy (k + (cnt cStr x.imports : Nat)) x.types).map Ty.o), .inl 6 ((mkL mkObj cObj (k + (cnt cStr x.imports : Nat) + (cnt cTy x.types : Nat)) x.objects).map Obj.o), .inl 2 ((mkL mkUse cUse (k + (cnt cStr x.imports : Nat) + (cnt cTy x.types : Nat) + (cnt cObj x.objects : Nat)) x.uses).map Use.v)], []⟩ := by
  refine fun_okG (mkE_ok zmix (cl := []) (gl := [(36, [true], c36), (37, [true], c37), (38, [true], c38), (39, [true], c39)]) [] trivial ⟨c36_ok, c37_ok, c38_ok, c39_ok⟩) Tryz.func11 (by kernel_rfl) ?_
  refine FunG_run _ _ rfl rfl ?_
  have e0 := c36_eq x.imports (k) (by omega) (by omega) h2.1
  have e1 := c37_eq x.types (k + (cnt cStr x.imports : Nat)) (by omega) (by omega) h2.2.1
  have e2 := c38_eq x.objects (k + (cnt cStr x.imports : Nat) + (cnt cTy x.types : Nat)) (by omega) (by omega) h2.2.2.1
  have e3 := c39_eq x.uses (k + (cnt cStr x.imports : Nat) + (cnt cTy x.types : Nat) + (cnt cObj x.objects : Nat)) (by omega) (by omega) h2.2.2.2
  simp [e0, e1, e2, e3]
noncomputable def c11 := ctrG (fun a : Scp × Int => match a with | (x, k) => 0 ≤ k ∧ k + (cnt cStr x.imports : Nat) + (cnt cTy x.types : Nat) + (cnt cObj x.objects : Nat) + (cnt cUse x.uses : Nat) ≤ 4611686018427387904 ∧ x.imports.length ≤ 4611686018427387904 ∧ (x.types.length ≤ 4611686018427387904 ∧ ∀ y ∈ x.types, y.fields.length ≤ 4611686018427387904) ∧ (x.objects.length ≤ 4611686018427387904 ∧ ∀ y ∈ x.objects, y.params.length ≤ 4611686018427387904) ∧ x.uses.length ≤ 4611686018427387904) (fun a => ([a.1.o, .int .i64 a.2], [])) (fun a => match a with | (x, k) => ⟨false, .int .i64 (k + (cnt cStr x.imports : Nat) + (cnt cTy x.types : Nat) + (cnt cObj x.objects : Nat) + (cnt cUse x.uses : Nat)), [.inl 1 ((mkL mkStr cStr (k) x.imports).map V.str), .inl 6 ((mkL mkTy cTy (k + (cnt cStr x.imports : Nat)) x.types).map Ty.o), .inl 6 ((mkL mkObj cObj (k + (cnt cStr x.imports : Nat) + (cnt cTy x.types : Nat)) x.objects).map Obj.o), .inl 2 ((mkL mkUse cUse (k + (cnt cStr x.imports : Nat) + (cnt cTy x.types : Nat) + (cnt cObj x.objects : Nat)) x.uses).map Use.v)], []⟩)
theorem c11_eq (x : Scp) (k : Int) (h0 : 0 ≤ k) (h1 : k + (cnt cStr x.imports : Nat) + (cnt cTy x.types : Nat) + (cnt cObj x.objects : Nat) + (cnt cUse x.uses : Nat) ≤ 4611686018427387904) (h2 : x.imports.length ≤ 4611686018427387904 ∧ (x.types.length ≤ 4611686018427387904 ∧ ∀ y ∈ x.types, y.fields.length ≤ 4611686018427387904) ∧ (x.objects.length ≤ 4611686018427387904 ∧ ∀ y ∈ x.objects, y.params.length ≤ 4611686018427387904) ∧ x.uses.length ≤ 4611686018427387904) : c11 [x.o, .int .i64 k] [] = some ⟨false, .int .i64 (k + (cnt cStr x.imports : Nat) + (cnt cTy x.types : Nat) + (cnt cObj x.objects : Nat) + (cnt cUse x.uses : Nat)), [.inl 1 ((mkL mkStr cStr (k) x.imports).map V.str), .inl 6 ((mkL mkTy cTy (k + (cnt cStr x.imports : Nat)) x.types).map Ty.o), .inl 6 ((mkL mkObj cObj (k + (cnt cStr x.imports : Nat) + (cnt cTy x.types : Nat)) x.objects).map Obj.o), .inl 2 ((mkL mkUse cUse (k + (cnt cStr x.imports : Nat) + (cnt cTy x.types : Nat) + (cnt cObj x.objects : Nat)) x.uses).map Use.v)], []⟩ := ctrG_eq (injG1 Scp.o_inj _) (x, k) ⟨h0, h1, h2⟩ rfl
theorem c11_ok : GOK Tryz.prog (11, [true], c11) := ctrG_ok fun a h => f11_ok a.1 a.2 h.1 h.2.1 h.2.2

theorem f13_ok (xs : List Fgr) (k : Int) (h0 : 0 ≤ k) (h1 : k + cnt cFgr xs ≤ 4611686018427387904) (h2 : xs.length ≤ 4611686018427387904) : FunOK Tryz.prog 13 [.lst ((mkL mkFgr cFgr k xs).map Fgr.v), .int .i64 k] false (.int .i64 (k + cnt cFgr xs)) := by
  refine fun_ok (mkE_ok zmix (cl := [(40, c40)]) (gl := []) [] c40_ok trivial) Tryz.func13 (by kernel_rfl) ?_
  refine FunW_run _ _ rfl rfl ?_
  simp
  refine lp_list xs (fun i t => t.e 0 = .lst ((mkL mkFgr cFgr k xs).map Fgr.v) ∧ t.e 1 = .int .i64 (k + pre cFgr xs i) ∧ t.e 5 = .int .i64 i) ?_ ?_ ?_
  · simp [pre_zero]
  · rintro c' L hL i t x hx hi ih ⟨g0, g1, g5⟩
    have hw : IntKind.i64.wrap ((i : Int) + 1) = ((i + 1 : Nat) : Int) := wrap64 (by omega) (by omega)
    have hp := pre_succ cFgr hx
    have hp2 := pre_le cFgr xs (i + 1)
    have hc : cFgr x = 3 := rfl
    have hcnt : (xs.map cFgr).sum = cnt cFgr xs := rfl
    have e0 := c40_eq (k + (pre cFgr xs i : Nat)) (by omega)
    have w0 : IntKind.i64.wrap (k + (pre cFgr xs i : Nat) + 1) = k + (pre cFgr xs i : Nat) + 1 := wrap64 (by omega) (by omega)
    have w1 : IntKind.i64.wrap (k + (pre cFgr xs i : Nat) + 1 + 1) = k + (pre cFgr xs i : Nat) + 1 + 1 := wrap64 (by omega) (by omega)
    have w2 : IntKind.i64.wrap (k + (pre cFgr xs i : Nat) + 1 + 1 + 1) = k + (pre cFgr xs i : Nat) + 1 + 1 + 1 := wrap64 (by omega) (by omega)
    have hx' := mkL_get mkFgr cFgr k hx
    simp [-getElem?_pos, List.getElem?_cons_zero, List.getElem?_cons_succ, g0, g1, g5, hL, hx', hi, mkFgr, e0, w0, w1, w2]
    refine ih _ ?_
    simp [-getElem?_pos, List.getElem?_cons_zero, List.getElem?_cons_succ, g0, g1, g5, hL, hx', hi, e0, w0, w1, w2, hp, hc, hw] <;> omega
  · rintro c' t ⟨g0, g1, g5⟩
    simp only [pre_all] at g1
    simp [g0, g1, g5, cnt]
noncomputable def c13 := ctr (fun a : List Fgr × Int => 0 ≤ a.2 ∧ a.2 + cnt cFgr a.1 ≤ 4611686018427387904 ∧ a.1.length ≤ 4611686018427387904) (fun a => [.lst ((mkL mkFgr cFgr a.2 a.1).map Fgr.v), .int .i64 a.2]) (fun a => (false, .int .i64 (a.2 + cnt cFgr a.1)))
theorem c13_eq (xs : List Fgr) (k : Int) (h0 : 0 ≤ k) (h1 : k + cnt cFgr xs ≤ 4611686018427387904) (h2 : xs.length ≤ 4611686018427387904) : c13 [.lst ((mkL mkFgr cFgr k xs).map Fgr.v), .int .i64 k] = some (false, .int .i64 (k + cnt cFgr xs)) := ctr_eq (injH (fun _ => rfl)) (xs, k) ⟨h0, h1, h2⟩ rfl
theorem c13_ok : COK Tryz.prog (13, c13) := ctr_ok fun a h => f13_ok a.1 a.2 h.1 h.2.1 h.2.2

theorem f18_ok (xs : List Chg) (k : Int) (h0 : 0 ≤ k) (h1 : k + cnt cChg xs ≤ 4611686018427387904) (h2 : xs.length ≤ 4611686018427387904) : FunOK Tryz.prog 18 [.lst ((mkL mkChg cChg k xs).map Chg.v), .int .i64 k] false (.int .i64 (k + cnt cChg xs)) := by
  refine fun_ok (mkE_ok zmix (cl := [(40, c40)]) (gl := []) [] c40_ok trivial) Tryz.func18 (by kernel_rfl) ?_
  refine FunW_run _ _ rfl rfl ?_
  simp
  refine lp_list xs (fun i t => t.e 0 = .lst ((mkL mkChg cChg k xs).map Chg.v) ∧ t.e 1 = .int .i64 (k + pre cChg xs i) ∧ t.e 5 = .int .i64 i) ?_ ?_ ?_
  · simp [pre_zero]
  · rintro c' L hL i t x hx hi ih ⟨g0, g1, g5⟩
    have hw : IntKind.i64.wrap ((i : Int) + 1) = ((i + 1 : Nat) : Int) := wrap64 (by omega) (by omega)
    have hp := pre_succ cChg hx
    have hp2 := pre_le cChg xs (i + 1)
    have hc : cChg x = 2 := rfl
    have hcnt : (xs.map cChg).sum = cnt cChg xs := rfl
    have e0 := c40_eq (k + (pre cChg xs i : Nat)) (by omega)
    have w0 : IntKind.i64.wrap (k + (pre cChg xs i : Nat) + 1) = k + (pre cChg xs i : Nat) + 1 := wrap64 (by omega) (by omega)
    have w1 : IntKind.i64.wrap (k + (pre cChg xs i : Nat) + 1 + 1) = k + (pre cChg xs i : Nat) + 1 + 1 := wrap64 (by omega) (by omega)
    have hx' := mkL_get mkChg cChg k hx
    simp [-getElem?_pos, List.getElem?_cons_zero, List.getElem?_cons_succ, g0, g1, g5, hL, hx', hi, mkChg, e0, w0, w1]
    refine ih _ ?_
    simp [-getElem?_pos, List.getElem?_cons_zero, List.getElem?_cons_succ, g0, g1, g5, hL, hx', hi, e0, w0, w1, hp, hc, hw] <;> omega
  · rintro c' t ⟨g0, g1, g5⟩
    simp only [pre_all] at g1
    simp [g0, g1, g5, cnt]
noncomputable def c18 := ctr (fun a : List Chg × Int => 0 ≤ a.2 ∧ a.2 + cnt cChg a.1 ≤ 4611686018427387904 ∧ a.1.length ≤ 4611686018427387904) (fun a => [.lst ((mkL mkChg cChg a.2 a.1).map Chg.v), .int .i64 a.2]) (fun a => (false, .int .i64 (a.2 + cnt cChg a.1)))
theorem c18_eq (xs : List Chg) (k : Int) (h0 : 0 ≤ k) (h1 : k + cnt cChg xs ≤ 4611686018427387904) (h2 : xs.length ≤ 4611686018427387904) : c18 [.lst ((mkL mkChg cChg k xs).map Chg.v), .int .i64 k] = some (false, .int .i64 (k + cnt cChg xs)) := ctr_eq (injH (fun _ => rfl)) (xs, k) ⟨h0, h1, h2⟩ rfl
theorem c18_ok : COK Tryz.prog (18, c18) := ctr_ok fun a h => f18_ok a.1 a.2 h.1 h.2.1 h.2.2

end Go.TM.Tryz
end
section
set_option maxHeartbeats 2000000
set_option linter.unusedSimpArgs false
set_option linter.unusedVariables false
namespace Go.TM.Tryz
open Go Go.TM Go.Proofs
theorem f19_ok (xs : List ByteArray) (left : Int) (hlim : limL strLim xs) (hl0 : 0 ≤ left) (hl1 : left ≤ 1048576) : FunOK Tryz.prog 19 [.lst (xs.map V.str), .int .i64 left] false (.int .i64 (szR (szL ByteArray.size xs) left)) := by
  refine fun_ok (mkE_ok zmix (cl := []) (gl := []) [] trivial trivial) Tryz.func19 (by kernel_rfl) ?_
  refine FunW_run _ _ rfl rfl ?_
  have hlen := hlim.1
  simp only [lim] at hlen
  have hl := szL_len ByteArray.size xs
  have w0 : IntKind.i64.wrap (left - (xs.length : Int)) = left - xs.length := wrap64 (by omega) (by omega)
  by_cases a0 : left < xs.length
  · have b0 : left - (xs.length : Int) < 0 := by omega
    have r : szR (szL ByteArray.size xs) left = -1 := szR_lt (by omega)
    simp [w0, b0, r]
  have b0 : ¬ left - (xs.length : Int) < 0 := by omega
  simp [w0, b0]
  refine lp_list xs (fun i t => t.e 0 = .lst (xs.map V.str) ∧ t.e 5 = .int .i64 i ∧ t.e 1 = .int .i64 (left - xs.length - pre ByteArray.size xs i) ∧ 0 ≤ left - xs.length - pre ByteArray.size xs i) ?_ ?_ ?_
  · simp [pre_zero]
    omega
  · rintro c' L hL i t x hx hi ih ⟨h0, h5, h1', hge⟩
    have hw : IntKind.i64.wrap ((i : Int) + 1) = ((i + 1 : Nat) : Int) := wrap64 (by omega) (by omega)
    have hp := pre_succ ByteArray.size hx
    have hp2 := pre_le ByteArray.size xs (i + 1)
    have w : IntKind.i64.wrap (left - xs.length - pre ByteArray.size xs i - (x.size : Int)) = left - xs.length - pre ByteArray.size xs i - x.size := by
      have := hlim.2 x (List.mem_of_getElem? hx)
      simp only [strLim, lim] at this
      exact wrap64 (by omega) (by omega)
    by_cases a : left - xs.length - pre ByteArray.size xs i < (x.size : Int)
    · have b : left - xs.length - pre ByteArray.size xs i - (x.size : Int) < 0 := by omega
      have r : szR (szL ByteArray.size xs) left = -1 := szR_lt (by simp only [szL]; omega)
      simp [-getElem?_pos, List.getElem?_cons_zero, List.getElem?_cons_succ, h0, h1', h5, hL, hx, hi, w, b, r]
    have b : ¬ left - xs.length - pre ByteArray.size xs i - (x.size : Int) < 0 := by omega
    simp [-getElem?_pos, List.getElem?_cons_zero, List.getElem?_cons_succ, h0, h1', h5, hL, hx, hi, w, b]
    refine ih _ ?_
    simp [-getElem?_pos, List.getElem?_cons_zero, List.getElem?_cons_succ, h0, h1', h5, hL, hx, hi, hw, hp]
    omega
  · rintro c' t ⟨h0, h5, h1', hge⟩
    rw [pre_all] at h1' hge
    have r : szR (szL ByteArray.size xs) left = left - xs.length - ((xs.map ByteArray.size).sum : Nat) := by rw [szR_ge (by simp only [szL]; omega)]; simp only [szL]; omega
    simp [h0, h5, h1', r]
noncomputable def c19 := ctr (fun a : List ByteArray × Int => limL strLim a.1 ∧ 0 ≤ a.2 ∧ a.2 ≤ 1048576) (fun a => [.lst (a.1.map V.str), .int .i64 a.2]) (fun a => (false, .int .i64 (szR (szL ByteArray.size a.1) a.2)))
theorem c19_eq (xs : List ByteArray) (left : Int) (h : limL strLim xs) (h0 : 0 ≤ left) (h1 : left ≤ 1048576) : c19 [.lst (xs.map V.str), .int .i64 left] = some (false, .int .i64 (szR (szL ByteArray.size xs) left)) := ctr_eq (injl1 str_inj _) (xs, left) ⟨h, h0, h1⟩ rfl
theorem c19_ok : COK Tryz.prog (19, c19) := ctr_ok fun a h => f19_ok a.1 a.2 h.1 h.2.1 h.2.2

theorem f107_ok (x : Fld) (left : Int) (h : x.lim) (h0 : 0 ≤ left) (h1 : left ≤ 1048576) : FunOK Tryz.prog 107 [x.v, .int .i64 left] false (.int .i64 (szR x.sz left)) := by
  refine fun_ok (mkE_ok zmix (cl := []) (gl := []) [] trivial trivial) Tryz.func107 (by kernel_rfl) ?_
  refine FunW_run _ _ rfl rfl ?_
  simp only [Fld.lim, lim] at h
  have l0 := h
  have w0 : IntKind.i64.wrap (left - (x.name.size : Int)) = left - (x.name.size : Nat) := wrap64 (by omega) (by omega)
  by_cases a0 : left < (x.name.size : Nat)
  · have b0 : left - ((x.name.size : Nat) : Int) < 0 := by omega
    have r : szR x.sz left = -1 := szR_lt (by simp only [Fld.sz]; omega)
    simp [w0, b0, r]
  have b0 : ¬ left - ((x.name.size : Nat) : Int) < 0 := by omega
  have r : szR x.sz left = left - ((x.name.size : Nat) : Int) := (szR_ge (by simp only [Fld.sz]; omega)).trans (by simp only [Fld.sz] <;> omega)
  simp [w0, b0, r]
noncomputable def c107 := ctr (fun a : Fld × Int => a.1.lim ∧ 0 ≤ a.2 ∧ a.2 ≤ 1048576) (fun a => [a.1.v, .int .i64 a.2]) (fun a => (false, .int .i64 (szR a.1.sz a.2)))
theorem c107_eq (x : Fld) (left : Int) (h : x.lim) (h0 : 0 ≤ left) (h1 : left ≤ 1048576) : c107 [x.v, .int .i64 left] = some (false, .int .i64 (szR x.sz left)) := ctr_eq (inj1 Fld.v_inj _) (x, left) ⟨h, h0, h1⟩ rfl
theorem c107_ok : COK Tryz.prog (107, c107) := ctr_ok fun a h => f107_ok a.1 a.2 h.1 h.2.1 h.2.2

theorem f77_ok (xs : List Fld) (left : Int) (hlim : limL Fld.lim xs) (hl0 : 0 ≤ left) (hl1 : left ≤ 1048576) : FunOK Tryz.prog 77 [.lst (xs.map Fld.v), .int .i64 left] false (.int .i64 (szR (szL Fld.sz xs) left)) := by
  refine fun_ok (mkE_ok zmix (cl := [(107, c107)]) (gl := []) [] c107_ok trivial) Tryz.func77 (by kernel_rfl) ?_
  refine FunW_run _ _ rfl rfl ?_
  have hlen := hlim.1
  simp only [lim] at hlen
  have hl := szL_len Fld.sz xs
  have w0 : IntKind.i64.wrap (left - (xs.length : Int)) = left - xs.length := wrap64 (by omega) (by omega)
  by_cases a0 : left < xs.length
  · have b0 : left - (xs.length : Int) < 0 := by omega
    have r : szR (szL Fld.sz xs) left = -1 := szR_lt (by omega)
    simp [w0, b0, r]
  have b0 : ¬ left - (xs.length : Int) < 0 := by omega
  simp [w0, b0]
  refine lp_list xs (fun i t => t.e 0 = .lst (xs.map Fld.v) ∧ t.e 5 = .int .i64 i ∧ t.e 1 = .int .i64 (left - xs.length - pre Fld.sz xs i) ∧ 0 ≤ left - xs.length - pre Fld.sz xs i) ?_ ?_ ?_
  · simp [pre_zero]
    omega
  · rintro c' L hL i t x hx hi ih ⟨h0, h5, h1', hge⟩
    have hw : IntKind.i64.wrap ((i : Int) + 1) = ((i + 1 : Nat) : Int) := wrap64 (by omega) (by omega)
    have hp := pre_succ Fld.sz hx
    have hp2 := pre_le Fld.sz xs (i + 1)
    have w := c107_eq x (left - xs.length - pre Fld.sz xs i) (hlim.2 x (List.mem_of_getElem? hx)) (by omega) (by omega)
    simp only [Fld.v] at w
    by_cases a : left - xs.length - pre Fld.sz xs i < (Fld.sz x : Nat)
    · rw [szR_lt a] at w
      have r : szR (szL Fld.sz xs) left = -1 := szR_lt (by simp only [szL]; omega)
      simp [-getElem?_pos, List.getElem?_cons_zero, List.getElem?_cons_succ, h0, h1', h5, hL, hx, hi, w, r]
    rw [szR_ge (Int.not_lt.1 a)] at w
    have b : ¬ left - xs.length - pre Fld.sz xs i - (Fld.sz x : Nat) < 0 := by omega
    simp [-getElem?_pos, List.getElem?_cons_zero, List.getElem?_cons_succ, h0, h1', h5, hL, hx, hi, w, b]
    refine ih _ ?_
    simp [-getElem?_pos, List.getElem?_cons_zero, List.getElem?_cons_succ, h0, h1', h5, hL, hx, hi, hw, hp]
    omega
  · rintro c' t ⟨h0, h5, h1', hge⟩
    rw [pre_all] at h1' hge
    have r : szR (szL Fld.sz xs) left = left - xs.length - ((xs.map Fld.sz).sum : Nat) := by rw [szR_ge (by simp only [szL]; omega)]; simp only [szL]; omega
    simp [h0, h5, h1', r]
noncomputable def c77 := ctr (fun a : List Fld × Int => limL Fld.lim a.1 ∧ 0 ≤ a.2 ∧ a.2 ≤ 1048576) (fun a => [.lst (a.1.map Fld.v), .int .i64 a.2]) (fun a => (false, .int .i64 (szR (szL Fld.sz a.1) a.2)))
theorem c77_eq (xs : List Fld) (left : Int) (h : limL Fld.lim xs) (h0 : 0 ≤ left) (h1 : left ≤ 1048576) : c77 [.lst (xs.map Fld.v), .int .i64 left] = some (false, .int .i64 (szR (szL Fld.sz xs) left)) := ctr_eq (injl1 Fld.v_inj _) (xs, left) ⟨h, h0, h1⟩ rfl
theorem c77_ok : COK Tryz.prog (77, c77) := ctr_ok fun a h => f77_ok a.1 a.2 h.1 h.2.1 h.2.2

theorem f108_ok (x : Par) (left : Int) (h : x.lim) (h0 : 0 ≤ left) (h1 : left ≤ 1048576) : FunOK Tryz.prog 108 [x.v, .int .i64 left] false (.int .i64 (szR x.sz left)) := by
  refine fun_ok (mkE_ok zmix (cl := []) (gl := []) [] trivial trivial) Tryz.func108 (by kernel_rfl) ?_
  refine FunW_run _ _ rfl rfl ?_
  simp only [Par.lim, lim] at h
  have l0 := h
  have w0 : IntKind.i64.wrap (left - (x.name.size : Int)) = left - (x.name.size : Nat) := wrap64 (by omega) (by omega)
  by_cases a0 : left < (x.name.size : Nat)
  · have b0 : left - ((x.name.size : Nat) : Int) < 0 := by omega
    have r : szR x.sz left = -1 := szR_lt (by simp only [Par.sz]; omega)
    simp [w0, b0, r]
  have b0 : ¬ left - ((x.name.size : Nat) : Int) < 0 := by omega
  have r : szR x.sz left = left - ((x.name.size : Nat) : Int) := (szR_ge (by simp only [Par.sz]; omega)).trans (by simp only [Par.sz] <;> omega)
  simp [w0, b0, r]
noncomputable def c108 := ctr (fun a : Par × Int => a.1.lim ∧ 0 ≤ a.2 ∧ a.2 ≤ 1048576) (fun a => [a.1.v, .int .i64 a.2]) (fun a => (false, .int .i64 (szR a.1.sz a.2)))
theorem c108_eq (x : Par) (left : Int) (h : x.lim) (h0 : 0 ≤ left) (h1 : left ≤ 1048576) : c108 [x.v, .int .i64 left] = some (false, .int .i64 (szR x.sz left)) := ctr_eq (inj1 Par.v_inj _) (x, left) ⟨h, h0, h1⟩ rfl
theorem c108_ok : COK Tryz.prog (108, c108) := ctr_ok fun a h => f108_ok a.1 a.2 h.1 h.2.1 h.2.2

theorem f78_ok (xs : List Par) (left : Int) (hlim : limL Par.lim xs) (hl0 : 0 ≤ left) (hl1 : left ≤ 1048576) : FunOK Tryz.prog 78 [.lst (xs.map Par.v), .int .i64 left] false (.int .i64 (szR (szL Par.sz xs) left)) := by
  refine fun_ok (mkE_ok zmix (cl := [(108, c108)]) (gl := []) [] c108_ok trivial) Tryz.func78 (by kernel_rfl) ?_
  refine FunW_run _ _ rfl rfl ?_
  have hlen := hlim.1
  simp only [lim] at hlen
  have hl := szL_len Par.sz xs
  have w0 : IntKind.i64.wrap (left - (xs.length : Int)) = left - xs.length := wrap64 (by omega) (by omega)
  by_cases a0 : left < xs.length
  · have b0 : left - (xs.length : Int) < 0 := by omega
    have r : szR (szL Par.sz xs) left = -1 := szR_lt (by omega)
    simp [w0, b0, r]
  have b0 : ¬ left - (xs.length : Int) < 0 := by omega
  simp [w0, b0]
  refine lp_list xs (fun i t => t.e 0 = .lst (xs.map Par.v) ∧ t.e 5 = .int .i64 i ∧ t.e 1 = .int .i64 (left - xs.length - pre Par.sz xs i) ∧ 0 ≤ left - xs.length - pre Par.sz xs i) ?_ ?_ ?_
  · simp [pre_zero]
    omega
  · rintro c' L hL i t x hx hi ih ⟨h0, h5, h1', hge⟩
    have hw : IntKind.i64.wrap ((i : Int) + 1) = ((i + 1 : Nat) : Int) := wrap64 (by omega) (by omega)
    have hp := pre_succ Par.sz hx
    have hp2 := pre_le Par.sz xs (i + 1)
    have w := c108_eq x (left - xs.length - pre Par.sz xs i) (hlim.2 x (List.mem_of_getElem? hx)) (by omega) (by omega)
    simp only [Par.v] at w
    by_cases a : left - xs.length - pre Par.sz xs i < (Par.sz x : Nat)
    · rw [szR_lt a] at w
      have r : szR (szL Par.sz xs) left = -1 := szR_lt (by simp only [szL]; omega)
      simp [-getElem?_pos, List.getElem?_cons_zero, List.getElem?_cons_succ, h0, h1', h5, hL, hx, hi, w, r]
    rw [szR_ge (Int.not_lt.1 a)] at w
    have b : ¬ left - xs.length - pre Par.sz xs i - (Par.sz x : Nat) < 0 := by omega
    simp [-getElem?_pos, List.getElem?_cons_zero, List.getElem?_cons_succ, h0, h1', h5, hL, hx, hi, w, b]
    refine ih _ ?_
    simp [-getElem?_pos, List.getElem?_cons_zero, List.getElem?_cons_succ, h0, h1', h5, hL, hx, hi, hw, hp]
    omega
  · rintro c' t ⟨h0, h5, h1', hge⟩
    rw [pre_all] at h1' hge
    have r : szR (szL Par.sz xs) left = left - xs.length - ((xs.map Par.sz).sum : Nat) := by rw [szR_ge (by simp only [szL]; omega)]; simp only [szL]; omega
    simp [h0, h5, h1', r]
noncomputable def c78 := ctr (fun a : List Par × Int => limL Par.lim a.1 ∧ 0 ≤ a.2 ∧ a.2 ≤ 1048576) (fun a => [.lst (a.1.map Par.v), .int .i64 a.2]) (fun a => (false, .int .i64 (szR (szL Par.sz a.1) a.2)))
theorem c78_eq (xs : List Par) (left : Int) (h : limL Par.lim xs) (h0 : 0 ≤ left) (h1 : left ≤ 1048576) : c78 [.lst (xs.map Par.v), .int .i64 left] = some (false, .int .i64 (szR (szL Par.sz xs) left)) := ctr_eq (injl1 Par.v_inj _) (xs, left) ⟨h, h0, h1⟩ rfl
theorem c78_ok : COK Tryz.prog (78, c78) := ctr_ok fun a h => f78_ok a.1 a.2 h.1 h.2.1 h.2.2

theorem f46_ok (x : Use) (left : Int) (h : x.lim) (h0 : 0 ≤ left) (h1 : left ≤ 1048576) : FunOK Tryz.prog 46 [x.v, .int .i64 left] false (.int .i64 (szR x.sz left)) := by
  refine fun_ok (mkE_ok zmix (cl := []) (gl := []) [] trivial trivial) Tryz.func46 (by kernel_rfl) ?_
  refine FunW_run _ _ rfl rfl ?_
  simp only [Use.lim, lim] at h
  obtain ⟨l0, l1⟩ := h
  have w0 : IntKind.i64.wrap (left - (x.mod.size : Int)) = left - (x.mod.size : Nat) := wrap64 (by omega) (by omega)
  by_cases a0 : left < (x.mod.size : Nat)
  · have b0 : left - ((x.mod.size : Nat) : Int) < 0 := by omega
    have r : szR x.sz left = -1 := szR_lt (by simp only [Use.sz]; omega)
    simp [w0, b0, r]
  have b0 : ¬ left - ((x.mod.size : Nat) : Int) < 0 := by omega
  have w1 : IntKind.i64.wrap (left - ((x.mod.size : Nat) : Int) - (x.name.size : Int)) = left - ((x.mod.size : Nat) : Int) - (x.name.size : Nat) := wrap64 (by omega) (by omega)
  by_cases a1 : left - ((x.mod.size : Nat) : Int) < (x.name.size : Nat)
  · have b1 : left - ((x.mod.size : Nat) : Int) - ((x.name.size : Nat) : Int) < 0 := by omega
    have r : szR x.sz left = -1 := szR_lt (by simp only [Use.sz]; omega)
    simp [w0, b0, w1, b1, r]
  have b1 : ¬ left - ((x.mod.size : Nat) : Int) - ((x.name.size : Nat) : Int) < 0 := by omega
  have r : szR x.sz left = left - ((x.mod.size : Nat) : Int) - ((x.name.size : Nat) : Int) := (szR_ge (by simp only [Use.sz]; omega)).trans (by simp only [Use.sz] <;> omega)
  simp [w0, b0, w1, b1, r]
noncomputable def c46 := ctr (fun a : Use × Int => a.1.lim ∧ 0 ≤ a.2 ∧ a.2 ≤ 1048576) (fun a => [a.1.v, .int .i64 a.2]) (fun a => (false, .int .i64 (szR a.1.sz a.2)))
theorem c46_eq (x : Use) (left : Int) (h : x.lim) (h0 : 0 ≤ left) (h1 : left ≤ 1048576) : c46 [x.v, .int .i64 left] = some (false, .int .i64 (szR x.sz left)) := ctr_eq (inj1 Use.v_inj _) (x, left) ⟨h, h0, h1⟩ rfl
theorem c46_ok : COK Tryz.prog (46, c46) := ctr_ok fun a h => f46_ok a.1 a.2 h.1 h.2.1 h.2.2

theorem f22_ok (xs : List Use) (left : Int) (hlim : limL Use.lim xs) (hl0 : 0 ≤ left) (hl1 : left ≤ 1048576) : FunOK Tryz.prog 22 [.lst (xs.map Use.v), .int .i64 left] false (.int .i64 (szR (szL Use.sz xs) left)) := by
  refine fun_ok (mkE_ok zmix (cl := [(46, c46)]) (gl := []) [] c46_ok trivial) Tryz.func22 (by kernel_rfl) ?_
  refine FunW_run _ _ rfl rfl ?_
  have hlen := hlim.1
  simp only [lim] at hlen
  have hl := szL_len Use.sz xs
  have w0 : IntKind.i64.wrap (left - (xs.length : Int)) = left - xs.length := wrap64 (by omega) (by omega)
  by_cases a0 : left < xs.length
  · have b0 : left - (xs.length : Int) < 0 := by omega
    have r : szR (szL Use.sz xs) left = -1 := szR_lt (by omega)
    simp [w0, b0, r]
  have b0 : ¬ left - (xs.length : Int) < 0 := by omega
  simp [w0, b0]
  refine lp_list xs (fun i t => t.e 0 = .lst (xs.map Use.v) ∧ t.e 5 = .int .i64 i ∧ t.e 1 = .int .i64 (left - xs.length - pre Use.sz xs i) ∧ 0 ≤ left - xs.length - pre Use.sz xs i) ?_ ?_ ?_
  · simp [pre_zero]
    omega
  · rintro c' L hL i t x hx hi ih ⟨h0, h5, h1', hge⟩
    have hw : IntKind.i64.wrap ((i : Int) + 1) = ((i + 1 : Nat) : Int) := wrap64 (by omega) (by omega)
    have hp := pre_succ Use.sz hx
    have hp2 := pre_le Use.sz xs (i + 1)
    have w := c46_eq x (left - xs.length - pre Use.sz xs i) (hlim.2 x (List.mem_of_getElem? hx)) (by omega) (by omega)
    simp only [Use.v] at w
    by_cases a : left - xs.length - pre Use.sz xs i < (Use.sz x : Nat)
    · rw [szR_lt a] at w
      have r : szR (szL Use.sz xs) left = -1 := szR_lt (by simp only [szL]; omega)
      simp [-getElem?_pos, List.getElem?_cons_zero, List.getElem?_cons_succ, h0, h1', h5, hL, hx, hi, w, r]
    rw [szR_ge (Int.not_lt.1 a)] at w
    have b : ¬ left - xs.length - pre Use.sz xs i - (Use.sz x : Nat) < 0 := by omega
    simp [-getElem?_pos, List.getElem?_cons_zero, List.getElem?_cons_succ, h0, h1', h5, hL, hx, hi, w, b]
    refine ih _ ?_
    simp [-getElem?_pos, List.getElem?_cons_zero, List.getElem?_cons_succ, h0, h1', h5, hL, hx, hi, hw, hp]
    omega
  · rintro c' t ⟨h0, h5, h1', hge⟩
    rw [pre_all] at h1' hge
    have r : szR (szL Use.sz xs) left = left - xs.length - ((xs.map Use.sz).sum : Nat) := by rw [szR_ge (by simp only [szL]; omega)]; simp only [szL]; omega
    simp [h0, h5, h1', r]
noncomputable def c22 := ctr (fun a : List Use × Int => limL Use.lim a.1 ∧ 0 ≤ a.2 ∧ a.2 ≤ 1048576) (fun a => [.lst (a.1.map Use.v), .int .i64 a.2]) (fun a => (false, .int .i64 (szR (szL Use.sz a.1) a.2)))
theorem c22_eq (xs : List Use) (left : Int) (h : limL Use.lim xs) (h0 : 0 ≤ left) (h1 : left ≤ 1048576) : c22 [.lst (xs.map Use.v), .int .i64 left] = some (false, .int .i64 (szR (szL Use.sz xs) left)) := ctr_eq (injl1 Use.v_inj _) (xs, left) ⟨h, h0, h1⟩ rfl
theorem c22_ok : COK Tryz.prog (22, c22) := ctr_ok fun a h => f22_ok a.1 a.2 h.1 h.2.1 h.2.2

theorem f44_ok (x : Ty) (left : Int) (h : x.lim) (h0 : 0 ≤ left) (h1 : left ≤ 1048576) : FunOK Tryz.prog 44 [x.v, .int .i64 left] false (.int .i64 (szR x.sz left)) := by
  refine fun_ok (mkE_ok zmix (cl := [(77, c77)]) (gl := []) [] c77_ok trivial) Tryz.func44 (by kernel_rfl) ?_
  refine FunW_run _ _ rfl rfl ?_
  simp only [Ty.lim, lim] at h
  obtain ⟨l0, l1, l2⟩ := h
  have w0 := c77_eq x.fields (left) l0 (by omega) (by omega)
  by_cases a0 : left < (szL Fld.sz x.fields : Nat)
  · rw [szR_lt a0] at w0
    have r : szR x.sz left = -1 := szR_lt (by simp only [Ty.sz]; omega)
    simp [w0, r]
  rw [szR_ge (Int.not_lt.1 a0)] at w0
  have b0 : ¬ left - ((szL Fld.sz x.fields : Nat) : Int) < 0 := by omega
  have w1 : IntKind.i64.wrap (left - ((szL Fld.sz x.fields : Nat) : Int) - (x.owner.size : Int)) = left - ((szL Fld.sz x.fields : Nat) : Int) - (x.owner.size : Nat) := wrap64 (by omega) (by omega)
  by_cases a1 : left - ((szL Fld.sz x.fields : Nat) : Int) < (x.owner.size : Nat)
  · have b1 : left - ((szL Fld.sz x.fields : Nat) : Int) - ((x.owner.size : Nat) : Int) < 0 := by omega
    have r : szR x.sz left = -1 := szR_lt (by simp only [Ty.sz]; omega)
    simp [w0, b0, w1, b1, r]
  have b1 : ¬ left - ((szL Fld.sz x.fields : Nat) : Int) - ((x.owner.size : Nat) : Int) < 0 := by omega
  have w2 : IntKind.i64.wrap (left - ((szL Fld.sz x.fields : Nat) : Int) - ((x.owner.size : Nat) : Int) - (x.name.size : Int)) = left - ((szL Fld.sz x.fields : Nat) : Int) - ((x.owner.size : Nat) : Int) - (x.name.size : Nat) := wrap64 (by omega) (by omega)
  by_cases a2 : left - ((szL Fld.sz x.fields : Nat) : Int) - ((x.owner.size : Nat) : Int) < (x.name.size : Nat)
  · have b2 : left - ((szL Fld.sz x.fields : Nat) : Int) - ((x.owner.size : Nat) : Int) - ((x.name.size : Nat) : Int) < 0 := by omega
    have r : szR x.sz left = -1 := szR_lt (by simp only [Ty.sz]; omega)
    simp [w0, b0, w1, b1, w2, b2, r]
  have b2 : ¬ left - ((szL Fld.sz x.fields : Nat) : Int) - ((x.owner.size : Nat) : Int) - ((x.name.size : Nat) : Int) < 0 := by omega
  have r : szR x.sz left = left - ((szL Fld.sz x.fields : Nat) : Int) - ((x.owner.size : Nat) : Int) - ((x.name.size : Nat) : Int) := (szR_ge (by simp only [Ty.sz]; omega)).trans (by simp only [Ty.sz] <;> omega)
  simp [w0, b0, w1, b1, w2, b2, r]
noncomputable def c44 := ctr (fun a : Ty × Int => a.1.lim ∧ 0 ≤ a.2 ∧ a.2 ≤ 1048576) (fun a => [a.1.v, .int .i64 a.2]) (fun a => (false, .int .i64 (szR a.1.sz a.2)))
theorem c44_eq (x : Ty) (left : Int) (h : x.lim) (h0 : 0 ≤ left) (h1 : left ≤ 1048576) : c44 [x.v, .int .i64 left] = some (false, .int .i64 (szR x.sz left)) := ctr_eq (inj1 Ty.v_inj _) (x, left) ⟨h, h0, h1⟩ rfl
theorem c44_ok : COK Tryz.prog (44, c44) := ctr_ok fun a h => f44_ok a.1 a.2 h.1 h.2.1 h.2.2

theorem f20_ok (xs : List Ty) (left : Int) (hlim : limL Ty.lim xs) (hl0 : 0 ≤ left) (hl1 : left ≤ 1048576) : FunOK Tryz.prog 20 [.lst (xs.map Ty.v), .int .i64 left] false (.int .i64 (szR (szL Ty.sz xs) left)) := by
  refine fun_ok (mkE_ok zmix (cl := [(44, c44)]) (gl := []) [] c44_ok trivial) Tryz.func20 (by kernel_rfl) ?_
  refine FunW_run _ _ rfl rfl ?_
  have hlen := hlim.1
  simp only [lim] at hlen
  have hl := szL_len Ty.sz xs
  have w0 : IntKind.i64.wrap (left - (xs.length : Int)) = left - xs.length := wrap64 (by omega) (by omega)
  by_cases a0 : left < xs.length
  · have b0 : left - (xs.length : Int) < 0 := by omega
    have r : szR (szL Ty.sz xs) left = -1 := szR_lt (by omega)
    simp [w0, b0, r]
  have b0 : ¬ left - (xs.length : Int) < 0 := by omega
  simp [w0, b0]
  refine lp_list xs (fun i t => t.e 0 = .lst (xs.map Ty.v) ∧ t.e 5 = .int .i64 i ∧ t.e 1 = .int .i64 (left - xs.length - pre Ty.sz xs i) ∧ 0 ≤ left - xs.length - pre Ty.sz xs i) ?_ ?_ ?_
  · simp [pre_zero]
    omega
  · rintro c' L hL i t x hx hi ih ⟨h0, h5, h1', hge⟩
    have hw : IntKind.i64.wrap ((i : Int) + 1) = ((i + 1 : Nat) : Int) := wrap64 (by omega) (by omega)
    have hp := pre_succ Ty.sz hx
    have hp2 := pre_le Ty.sz xs (i + 1)
    have w := c44_eq x (left - xs.length - pre Ty.sz xs i) (hlim.2 x (List.mem_of_getElem? hx)) (by omega) (by omega)
    simp only [Ty.v] at w
    by_cases a : left - xs.length - pre Ty.sz xs i < (Ty.sz x : Nat)
    · rw [szR_lt a] at w
      have r : szR (szL Ty.sz xs) left = -1 := szR_lt (by simp only [szL]; omega)
      simp [-getElem?_pos, List.getElem?_cons_zero, List.getElem?_cons_succ, h0, h1', h5, hL, hx, hi, w, r]
    rw [szR_ge (Int.not_lt.1 a)] at w
    have b : ¬ left - xs.length - pre Ty.sz xs i - (Ty.sz x : Nat) < 0 := by omega
    simp [-getElem?_pos, List.getElem?_cons_zero, List.getElem?_cons_succ, h0, h1', h5, hL, hx, hi, w, b]
    refine ih _ ?_
    simp [-getElem?_pos, List.getElem?_cons_zero, List.getElem?_cons_succ, h0, h1', h5, hL, hx, hi, hw, hp]
    omega
  · rintro c' t ⟨h0, h5, h1', hge⟩
    rw [pre_all] at h1' hge
    have r : szR (szL Ty.sz xs) left = left - xs.length - ((xs.map Ty.sz).sum : Nat) := by rw [szR_ge (by simp only [szL]; omega)]; simp only [szL]; omega
    simp [h0, h5, h1', r]
noncomputable def c20 := ctr (fun a : List Ty × Int => limL Ty.lim a.1 ∧ 0 ≤ a.2 ∧ a.2 ≤ 1048576) (fun a => [.lst (a.1.map Ty.v), .int .i64 a.2]) (fun a => (false, .int .i64 (szR (szL Ty.sz a.1) a.2)))
theorem c20_eq (xs : List Ty) (left : Int) (h : limL Ty.lim xs) (h0 : 0 ≤ left) (h1 : left ≤ 1048576) : c20 [.lst (xs.map Ty.v), .int .i64 left] = some (false, .int .i64 (szR (szL Ty.sz xs) left)) := ctr_eq (injl1 Ty.v_inj _) (xs, left) ⟨h, h0, h1⟩ rfl
theorem c20_ok : COK Tryz.prog (20, c20) := ctr_ok fun a h => f20_ok a.1 a.2 h.1 h.2.1 h.2.2

theorem f45_ok (x : Obj) (left : Int) (h : x.lim) (h0 : 0 ≤ left) (h1 : left ≤ 1048576) : FunOK Tryz.prog 45 [x.v, .int .i64 left] false (.int .i64 (szR x.sz left)) := by
  refine fun_ok (mkE_ok zmix (cl := [(78, c78)]) (gl := []) [] c78_ok trivial) Tryz.func45 (by kernel_rfl) ?_
  refine FunW_run _ _ rfl rfl ?_
  simp only [Obj.lim, lim] at h
  obtain ⟨l0, l1⟩ := h
  have w0 : IntKind.i64.wrap (left - (x.name.size : Int)) = left - (x.name.size : Nat) := wrap64 (by omega) (by omega)
  by_cases a0 : left < (x.name.size : Nat)
  · have b0 : left - ((x.name.size : Nat) : Int) < 0 := by omega
    have r : szR x.sz left = -1 := szR_lt (by simp only [Obj.sz]; omega)
    simp [w0, b0, r]
  have b0 : ¬ left - ((x.name.size : Nat) : Int) < 0 := by omega
  have w1 := c78_eq x.params (left - ((x.name.size : Nat) : Int)) l1 (by omega) (by omega)
  by_cases a1 : left - ((x.name.size : Nat) : Int) < (szL Par.sz x.params : Nat)
  · rw [szR_lt a1] at w1
    have r : szR x.sz left = -1 := szR_lt (by simp only [Obj.sz]; omega)
    simp [w0, b0, w1, r]
  rw [szR_ge (Int.not_lt.1 a1)] at w1
  have b1 : ¬ left - ((x.name.size : Nat) : Int) - ((szL Par.sz x.params : Nat) : Int) < 0 := by omega
  have r : szR x.sz left = left - ((x.name.size : Nat) : Int) - ((szL Par.sz x.params : Nat) : Int) := (szR_ge (by simp only [Obj.sz]; omega)).trans (by simp only [Obj.sz] <;> omega)
  simp [w0, b0, w1, b1, r]
noncomputable def c45 := ctr (fun a : Obj × Int => a.1.lim ∧ 0 ≤ a.2 ∧ a.2 ≤ 1048576) (fun a => [a.1.v, .int .i64 a.2]) (fun a => (false, .int .i64 (szR a.1.sz a.2)))
theorem c45_eq (x : Obj) (left : Int) (h : x.lim) (h0 : 0 ≤ left) (h1 : left ≤ 1048576) : c45 [x.v, .int .i64 left] = some (false, .int .i64 (szR x.sz left)) := ctr_eq (inj1 Obj.v_inj _) (x, left) ⟨h, h0, h1⟩ rfl
theorem c45_ok : COK Tryz.prog (45, c45) := ctr_ok fun a h => f45_ok a.1 a.2 h.1 h.2.1 h.2.2

theorem f21_ok (xs : List Obj) (left : Int) (hlim : limL Obj.lim xs) (hl0 : 0 ≤ left) (hl1 : left ≤ 1048576) : FunOK Tryz.prog 21 [.lst (xs.map Obj.v), .int .i64 left] false (.int .i64 (szR (szL Obj.sz xs) left)) := by
  refine fun_ok (mkE_ok zmix (cl := [(45, c45)]) (gl := []) [] c45_ok trivial) Tryz.func21 (by kernel_rfl) ?_
  refine FunW_run _ _ rfl rfl ?_
  have hlen := hlim.1
  simp only [lim] at hlen
  have hl := szL_len Obj.sz xs
  have w0 : IntKind.i64.wrap (left - (xs.length : Int)) = left - xs.length := wrap64 (by omega) (by omega)
  by_cases a0 : left < xs.length
  · have b0 : left - (xs.length : Int) < 0 := by omega
    have r : szR (szL Obj.sz xs) left = -1 := szR_lt (by omega)
    simp [w0, b0, r]
  have b0 : ¬ left - (xs.length : Int) < 0 := by omega
  simp [w0, b0]
  refine lp_list xs (fun i t => t.e 0 = .lst (xs.map Obj.v) ∧ t.e 5 = .int .i64 i ∧ t.e 1 = .int .i64 (left - xs.length - pre Obj.sz xs i) ∧ 0 ≤ left - xs.length - pre Obj.sz xs i) ?_ ?_ ?_
  · simp [pre_zero]
    omega
  · rintro c' L hL i t x hx hi ih ⟨h0, h5, h1', hge⟩
    have hw : IntKind.i64.wrap ((i : Int) + 1) = ((i + 1 : Nat) : Int) := wrap64 (by omega) (by omega)
    have hp := pre_succ Obj.sz hx
    have hp2 := pre_le Obj.sz xs (i + 1)
    have w := c45_eq x (left - xs.length - pre Obj.sz xs i) (hlim.2 x (List.mem_of_getElem? hx)) (by omega) (by omega)
    simp only [Obj.v] at w
    by_cases a : left - xs.length - pre Obj.sz xs i < (Obj.sz x : Nat)
    · rw [szR_lt a] at w
      have r : szR (szL Obj.sz xs) left = -1 := szR_lt (by simp only [szL]; omega)
      simp [-getElem?_pos, List.getElem?_cons_zero, List.getElem?_cons_succ, h0, h1', h5, hL, hx, hi, w, r]
    rw [szR_ge (Int.not_lt.1 a)] at w
    have b : ¬ left - xs.length - pre Obj.sz xs i - (Obj.sz x : Nat) < 0 := by omega
    simp [-getElem?_pos, List.getElem?_cons_zero, List.getElem?_cons_succ, h0, h1', h5, hL, hx, hi, w, b]
    refine ih _ ?_
    simp [-getElem?_pos, List.getElem?_cons_zero, List.getElem?_cons_succ, h0, h1', h5, hL, hx, hi, hw, hp]
    omega
  · rintro c' t ⟨h0, h5, h1', hge⟩
    rw [pre_all] at h1' hge
    have r : szR (szL Obj.sz xs) left = left - xs.length - ((xs.map Obj.sz).sum : Nat) := by rw [szR_ge (by simp only [szL]; omega)]; simp only [szL]; omega
    simp [h0, h5, h1', r]
noncomputable def c21 := ctr (fun a : List Obj × Int => limL Obj.lim a.1 ∧ 0 ≤ a.2 ∧ a.2 ≤ 1048576) (fun a => [.lst (a.1.map Obj.v), .int .i64 a.2]) (fun a => (false, .int .i64 (szR (szL Obj.sz a.1) a.2)))
theorem c21_eq (xs : List Obj) (left : Int) (h : limL Obj.lim xs) (h0 : 0 ≤ left) (h1 : left ≤ 1048576) : c21 [.lst (xs.map Obj.v), .int .i64 left] = some (false, .int .i64 (szR (szL Obj.sz xs) left)) := ctr_eq (injl1 Obj.v_inj _) (xs, left) ⟨h, h0, h1⟩ rfl
theorem c21_ok : COK Tryz.prog (21, c21) := ctr_ok fun a h => f21_ok a.1 a.2 h.1 h.2.1 h.2.2

theorem f5_ok (x : Scp) (left : Int) (h : x.lim) (h0 : 0 ≤ left) (h1 : left ≤ 1048576) : FunOK Tryz.prog 5 [x.v, .int .i64 left] false (.int .i64 (szR x.sz left)) := by
  refine fun_ok (mkE_ok zmix (cl := [(19, c19), (20, c20), (21, c21), (22, c22)]) (gl := []) [] ⟨c19_ok, c20_ok, c21_ok, c22_ok⟩ trivial) Tryz.func5 (by kernel_rfl) ?_
  refine FunW_run _ _ rfl rfl ?_
  simp only [Scp.lim, lim] at h
  obtain ⟨l0, l1, l2, l3, l4⟩ := h
  have w0 : IntKind.i64.wrap (left - (x.name.size : Int)) = left - (x.name.size : Nat) := wrap64 (by omega) (by omega)
  by_cases a0 : left < (x.name.size : Nat)
  · have b0 : left - ((x.name.size : Nat) : Int) < 0 := by omega
    have r : szR x.sz left = -1 := szR_lt (by simp only [Scp.sz]; omega)
    simp [w0, b0, r]
  have b0 : ¬ left - ((x.name.size : Nat) : Int) < 0 := by omega
  have w1 := c19_eq x.imports (left - ((x.name.size : Nat) : Int)) l1 (by omega) (by omega)
  by_cases a1 : left - ((x.name.size : Nat) : Int) < (szL ByteArray.size x.imports : Nat)
  · rw [szR_lt a1] at w1
    have r : szR x.sz left = -1 := szR_lt (by simp only [Scp.sz]; omega)
    simp [w0, b0, w1, r]
  rw [szR_ge (Int.not_lt.1 a1)] at w1
  have b1 : ¬ left - ((x.name.size : Nat) : Int) - ((szL ByteArray.size x.imports : Nat) : Int) < 0 := by omega
  have w2 := c20_eq x.types (left - ((x.name.size : Nat) : Int) - ((szL ByteArray.size x.imports : Nat) : Int)) l2 (by omega) (by omega)
  by_cases a2 : left - ((x.name.size : Nat) : Int) - ((szL ByteArray.size x.imports : Nat) : Int) < (szL Ty.sz x.types : Nat)
  · rw [szR_lt a2] at w2
    have r : szR x.sz left = -1 := szR_lt (by simp only [Scp.sz]; omega)
    simp [w0, b0, w1, b1, w2, r]
  rw [szR_ge (Int.not_lt.1 a2)] at w2
  have b2 : ¬ left - ((x.name.size : Nat) : Int) - ((szL ByteArray.size x.imports : Nat) : Int) - ((szL Ty.sz x.types : Nat) : Int) < 0 := by omega
  have w3 := c21_eq x.objects (left - ((x.name.size : Nat) : Int) - ((szL ByteArray.size x.imports : Nat) : Int) - ((szL Ty.sz x.types : Nat) : Int)) l3 (by omega) (by omega)
  by_cases a3 : left - ((x.name.size : Nat) : Int) - ((szL ByteArray.size x.imports : Nat) : Int) - ((szL Ty.sz x.types : Nat) : Int) < (szL Obj.sz x.objects : Nat)
  · rw [szR_lt a3] at w3
    have r : szR x.sz left = -1 := szR_lt (by simp only [Scp.sz]; omega)
    simp [w0, b0, w1, b1, w2, b2, w3, r]
  rw [szR_ge (Int.not_lt.1 a3)] at w3
  have b3 : ¬ left - ((x.name.size : Nat) : Int) - ((szL ByteArray.size x.imports : Nat) : Int) - ((szL Ty.sz x.types : Nat) : Int) - ((szL Obj.sz x.objects : Nat) : Int) < 0 := by omega
  have w4 := c22_eq x.uses (left - ((x.name.size : Nat) : Int) - ((szL ByteArray.size x.imports : Nat) : Int) - ((szL Ty.sz x.types : Nat) : Int) - ((szL Obj.sz x.objects : Nat) : Int)) l4 (by omega) (by omega)
  by_cases a4 : left - ((x.name.size : Nat) : Int) - ((szL ByteArray.size x.imports : Nat) : Int) - ((szL Ty.sz x.types : Nat) : Int) - ((szL Obj.sz x.objects : Nat) : Int) < (szL Use.sz x.uses : Nat)
  · rw [szR_lt a4] at w4
    have r : szR x.sz left = -1 := szR_lt (by simp only [Scp.sz]; omega)
    simp [w0, b0, w1, b1, w2, b2, w3, b3, w4, r]
  rw [szR_ge (Int.not_lt.1 a4)] at w4
  have b4 : ¬ left - ((x.name.size : Nat) : Int) - ((szL ByteArray.size x.imports : Nat) : Int) - ((szL Ty.sz x.types : Nat) : Int) - ((szL Obj.sz x.objects : Nat) : Int) - ((szL Use.sz x.uses : Nat) : Int) < 0 := by omega
  have r : szR x.sz left = left - ((x.name.size : Nat) : Int) - ((szL ByteArray.size x.imports : Nat) : Int) - ((szL Ty.sz x.types : Nat) : Int) - ((szL Obj.sz x.objects : Nat) : Int) - ((szL Use.sz x.uses : Nat) : Int) := (szR_ge (by simp only [Scp.sz]; omega)).trans (by simp only [Scp.sz] <;> omega)
  simp [w0, b0, w1, b1, w2, b2, w3, b3, w4, b4, r]
noncomputable def c5 := ctr (fun a : Scp × Int => a.1.lim ∧ 0 ≤ a.2 ∧ a.2 ≤ 1048576) (fun a => [a.1.v, .int .i64 a.2]) (fun a => (false, .int .i64 (szR a.1.sz a.2)))
theorem c5_eq (x : Scp) (left : Int) (h : x.lim) (h0 : 0 ≤ left) (h1 : left ≤ 1048576) : c5 [x.v, .int .i64 left] = some (false, .int .i64 (szR x.sz left)) := ctr_eq (inj1 Scp.v_inj _) (x, left) ⟨h, h0, h1⟩ rfl
theorem c5_ok : COK Tryz.prog (5, c5) := ctr_ok fun a h => f5_ok a.1 a.2 h.1 h.2.1 h.2.2

end Go.TM.Tryz
end
section
set_option maxHeartbeats 2000000
set_option linter.unusedSimpArgs false
set_option linter.unusedVariables false
namespace Go.TM.Tryz
open Go Go.TM Go.Proofs
theorem f32_ok (xs : List ByteArray) (hlim : limL strLim xs) : FunOK Tryz.prog 32 [.lst (xs.map V.str), .lst (xs.map V.str)] false (.bool true) := by
  refine fun_ok (mkE_ok zmix (cl := []) (gl := []) [] trivial trivial) Tryz.func32 (by kernel_rfl) ?_
  refine FunW_run _ _ rfl rfl ?_
  have hlen := hlim.1
  simp only [lim] at hlen
  simp
  refine lp_list xs (fun i t => t.e 0 = .lst (xs.map V.str) ∧ t.e 1 = .lst (xs.map V.str) ∧ t.e 5 = .int .i64 i) ?_ ?_ ?_
  · simp
  · rintro c' L hL i t x hx hi ih ⟨g0, g1, g5⟩
    have hw : IntKind.i64.wrap ((i : Int) + 1) = ((i + 1 : Nat) : Int) := wrap64 (by omega) (by omega)
    simp [-getElem?_pos, List.getElem?_cons_zero, List.getElem?_cons_succ, g0, g1, g5, hL, hx, hi]
    refine ih _ ?_
    simp [-getElem?_pos, List.getElem?_cons_zero, List.getElem?_cons_succ, g0, g1, g5, hL, hx, hi, hw]
  · rintro c' t ⟨g0, g1, g5⟩
    simp [g0, g1, g5]
noncomputable def c32 := ctr (fun xs : List ByteArray => limL strLim xs) (fun xs => [.lst (xs.map V.str), .lst (xs.map V.str)]) (fun _ => (false, .bool true))
theorem c32_eq (xs : List ByteArray) (h : limL strLim xs) : c32 [.lst (xs.map V.str), .lst (xs.map V.str)] = some (false, .bool true) := ctr_eq (fun _ _ _ => rfl) xs h rfl
theorem c32_ok : COK Tryz.prog (32, c32) := ctr_ok fun xs h => f32_ok xs h

theorem f141_ok (x : Fld) (h : x.lim) : FunOK Tryz.prog 141 [x.v, x.v] false (.bool true) := by
  refine fun_ok (mkE_ok zmix (cl := []) (gl := []) [] trivial trivial) Tryz.func141 (by kernel_rfl) ?_
  refine FunW_run _ _ rfl rfl ?_
  simp []
noncomputable def c141 := ctr (fun x : Fld => x.lim) (fun x => [x.v, x.v]) (fun _ => (false, .bool true))
theorem c141_eq (x : Fld) (h : x.lim) : c141 [x.v, x.v] = some (false, .bool true) := ctr_eq (fun _ _ _ => rfl) x h rfl
theorem c141_ok : COK Tryz.prog (141, c141) := ctr_ok fun x h => f141_ok x h

theorem f104_ok (xs : List Fld) (hlim : limL Fld.lim xs) : FunOK Tryz.prog 104 [.lst (xs.map Fld.v), .lst (xs.map Fld.v)] false (.bool true) := by
  refine fun_ok (mkE_ok zmix (cl := [(141, c141)]) (gl := []) [] c141_ok trivial) Tryz.func104 (by kernel_rfl) ?_
  refine FunW_run _ _ rfl rfl ?_
  have hlen := hlim.1
  simp only [lim] at hlen
  simp
  refine lp_list xs (fun i t => t.e 0 = .lst (xs.map Fld.v) ∧ t.e 1 = .lst (xs.map Fld.v) ∧ t.e 5 = .int .i64 i) ?_ ?_ ?_
  · simp
  · rintro c' L hL i t x hx hi ih ⟨g0, g1, g5⟩
    have hw : IntKind.i64.wrap ((i : Int) + 1) = ((i + 1 : Nat) : Int) := wrap64 (by omega) (by omega)
    have e := c141_eq x (hlim.2 x (List.mem_of_getElem? hx))
    simp only [Fld.v] at e
    simp [-getElem?_pos, List.getElem?_cons_zero, List.getElem?_cons_succ, g0, g1, g5, hL, hx, hi, e]
    refine ih _ ?_
    simp [-getElem?_pos, List.getElem?_cons_zero, List.getElem?_cons_succ, g0, g1, g5, hL, hx, hi, hw]
  · rintro c' t ⟨g0, g1, g5⟩
    simp [g0, g1, g5]
noncomputable def c104 := ctr (fun xs : List Fld => limL Fld.lim xs) (fun xs => [.lst (xs.map Fld.v), .lst (xs.map Fld.v)]) (fun _ => (false, .bool true))
theorem c104_eq (xs : List Fld) (h : limL Fld.lim xs) : c104 [.lst (xs.map Fld.v), .lst (xs.map Fld.v)] = some (false, .bool true) := ctr_eq (fun _ _ _ => rfl) xs h rfl
theorem c104_ok : COK Tryz.prog (104, c104) := ctr_ok fun xs h => f104_ok xs h

theorem f142_ok (x : Par) (h : x.lim) : FunOK Tryz.prog 142 [x.v, x.v] false (.bool true) := by
  refine fun_ok (mkE_ok zmix (cl := []) (gl := []) [] trivial trivial) Tryz.func142 (by kernel_rfl) ?_
  refine FunW_run _ _ rfl rfl ?_
  simp []
noncomputable def c142 := ctr (fun x : Par => x.lim) (fun x => [x.v, x.v]) (fun _ => (false, .bool true))
theorem c142_eq (x : Par) (h : x.lim) : c142 [x.v, x.v] = some (false, .bool true) := ctr_eq (fun _ _ _ => rfl) x h rfl
theorem c142_ok : COK Tryz.prog (142, c142) := ctr_ok fun x h => f142_ok x h

theorem f105_ok (xs : List Par) (hlim : limL Par.lim xs) : FunOK Tryz.prog 105 [.lst (xs.map Par.v), .lst (xs.map Par.v)] false (.bool true) := by
  refine fun_ok (mkE_ok zmix (cl := [(142, c142)]) (gl := []) [] c142_ok trivial) Tryz.func105 (by kernel_rfl) ?_
  refine FunW_run _ _ rfl rfl ?_
  have hlen := hlim.1
  simp only [lim] at hlen
  simp
  refine lp_list xs (fun i t => t.e 0 = .lst (xs.map Par.v) ∧ t.e 1 = .lst (xs.map Par.v) ∧ t.e 5 = .int .i64 i) ?_ ?_ ?_
  · simp
  · rintro c' L hL i t x hx hi ih ⟨g0, g1, g5⟩
    have hw : IntKind.i64.wrap ((i : Int) + 1) = ((i + 1 : Nat) : Int) := wrap64 (by omega) (by omega)
    have e := c142_eq x (hlim.2 x (List.mem_of_getElem? hx))
    simp only [Par.v] at e
    simp [-getElem?_pos, List.getElem?_cons_zero, List.getElem?_cons_succ, g0, g1, g5, hL, hx, hi, e]
    refine ih _ ?_
    simp [-getElem?_pos, List.getElem?_cons_zero, List.getElem?_cons_succ, g0, g1, g5, hL, hx, hi, hw]
  · rintro c' t ⟨g0, g1, g5⟩
    simp [g0, g1, g5]
noncomputable def c105 := ctr (fun xs : List Par => limL Par.lim xs) (fun xs => [.lst (xs.map Par.v), .lst (xs.map Par.v)]) (fun _ => (false, .bool true))
theorem c105_eq (xs : List Par) (h : limL Par.lim xs) : c105 [.lst (xs.map Par.v), .lst (xs.map Par.v)] = some (false, .bool true) := ctr_eq (fun _ _ _ => rfl) xs h rfl
theorem c105_ok : COK Tryz.prog (105, c105) := ctr_ok fun xs h => f105_ok xs h

theorem f71_ok (x : Use) (h : x.lim) : FunOK Tryz.prog 71 [x.v, x.v] false (.bool true) := by
  refine fun_ok (mkE_ok zmix (cl := []) (gl := []) [] trivial trivial) Tryz.func71 (by kernel_rfl) ?_
  refine FunW_run _ _ rfl rfl ?_
  simp []
noncomputable def c71 := ctr (fun x : Use => x.lim) (fun x => [x.v, x.v]) (fun _ => (false, .bool true))
theorem c71_eq (x : Use) (h : x.lim) : c71 [x.v, x.v] = some (false, .bool true) := ctr_eq (fun _ _ _ => rfl) x h rfl
theorem c71_ok : COK Tryz.prog (71, c71) := ctr_ok fun x h => f71_ok x h

theorem f35_ok (xs : List Use) (hlim : limL Use.lim xs) : FunOK Tryz.prog 35 [.lst (xs.map Use.v), .lst (xs.map Use.v)] false (.bool true) := by
  refine fun_ok (mkE_ok zmix (cl := [(71, c71)]) (gl := []) [] c71_ok trivial) Tryz.func35 (by kernel_rfl) ?_
  refine FunW_run _ _ rfl rfl ?_
  have hlen := hlim.1
  simp only [lim] at hlen
  simp
  refine lp_list xs (fun i t => t.e 0 = .lst (xs.map Use.v) ∧ t.e 1 = .lst (xs.map Use.v) ∧ t.e 5 = .int .i64 i) ?_ ?_ ?_
  · simp
  · rintro c' L hL i t x hx hi ih ⟨g0, g1, g5⟩
    have hw : IntKind.i64.wrap ((i : Int) + 1) = ((i + 1 : Nat) : Int) := wrap64 (by omega) (by omega)
    have e := c71_eq x (hlim.2 x (List.mem_of_getElem? hx))
    simp only [Use.v] at e
    simp [-getElem?_pos, List.getElem?_cons_zero, List.getElem?_cons_succ, g0, g1, g5, hL, hx, hi, e]
    refine ih _ ?_
    simp [-getElem?_pos, List.getElem?_cons_zero, List.getElem?_cons_succ, g0, g1, g5, hL, hx, hi, hw]
  · rintro c' t ⟨g0, g1, g5⟩
    simp [g0, g1, g5]
noncomputable def c35 := ctr (fun xs : List Use => limL Use.lim xs) (fun xs => [.lst (xs.map Use.v), .lst (xs.map Use.v)]) (fun _ => (false, .bool true))
theorem c35_eq (xs : List Use) (h : limL Use.lim xs) : c35 [.lst (xs.map Use.v), .lst (xs.map Use.v)] = some (false, .bool true) := ctr_eq (fun _ _ _ => rfl) xs h rfl
theorem c35_ok : COK Tryz.prog (35, c35) := ctr_ok fun xs h => f35_ok xs h

theorem f69_ok (x : Ty) (h : x.lim) : FunOK Tryz.prog 69 [x.v, x.v] false (.bool true) := by
  refine fun_ok (mkE_ok zmix (cl := [(104, c104)]) (gl := []) [] c104_ok trivial) Tryz.func69 (by kernel_rfl) ?_
  refine FunW_run _ _ rfl rfl ?_
  simp only [Ty.lim] at h
  obtain ⟨l0, l1, l2⟩ := h
  have e0 := c104_eq x.fields l0
  simp [e0]
noncomputable def c69 := ctr (fun x : Ty => x.lim) (fun x => [x.v, x.v]) (fun _ => (false, .bool true))
theorem c69_eq (x : Ty) (h : x.lim) : c69 [x.v, x.v] = some (false, .bool true) := ctr_eq (fun _ _ _ => rfl) x h rfl
theorem c69_ok : COK Tryz.prog (69, c69) := ctr_ok fun x h => f69_ok x h

theorem f33_ok (xs : List Ty) (hlim : limL Ty.lim xs) : FunOK Tryz.prog 33 [.lst (xs.map Ty.v), .lst (xs.map Ty.v)] false (.bool true) := by
  refine fun_ok (mkE_ok zmix (cl := [(69, c69)]) (gl := []) [] c69_ok trivial) Tryz.func33 (by kernel_rfl) ?_
  refine FunW_run _ _ rfl rfl ?_
  have hlen := hlim.1
  simp only [lim] at hlen
  simp
  refine lp_list xs (fun i t => t.e 0 = .lst (xs.map Ty.v) ∧ t.e 1 = .lst (xs.map Ty.v) ∧ t.e 5 = .int .i64 i) ?_ ?_ ?_
  · simp
  · rintro c' L hL i t x hx hi ih ⟨g0, g1, g5⟩
    have hw : IntKind.i64.wrap ((i : Int) + 1) = ((i + 1 : Nat) : Int) := wrap64 (by omega) (by omega)
    have e := c69_eq x (hlim.2 x (List.mem_of_getElem? hx))
    simp only [Ty.v] at e
    simp [-getElem?_pos, List.getElem?_cons_zero, List.getElem?_cons_succ, g0, g1, g5, hL, hx, hi, e]
    refine ih _ ?_
    simp [-getElem?_pos, List.getElem?_cons_zero, List.getElem?_cons_succ, g0, g1, g5, hL, hx, hi, hw]
  · rintro c' t ⟨g0, g1, g5⟩
    simp [g0, g1, g5]
noncomputable def c33 := ctr (fun xs : List Ty => limL Ty.lim xs) (fun xs => [.lst (xs.map Ty.v), .lst (xs.map Ty.v)]) (fun _ => (false, .bool true))
theorem c33_eq (xs : List Ty) (h : limL Ty.lim xs) : c33 [.lst (xs.map Ty.v), .lst (xs.map Ty.v)] = some (false, .bool true) := ctr_eq (fun _ _ _ => rfl) xs h rfl
theorem c33_ok : COK Tryz.prog (33, c33) := ctr_ok fun xs h => f33_ok xs h

theorem f70_ok (x : Obj) (h : x.lim) : FunOK Tryz.prog 70 [x.v, x.v] false (.bool true) := by
  refine fun_ok (mkE_ok zmix (cl := [(105, c105)]) (gl := []) [] c105_ok trivial) Tryz.func70 (by kernel_rfl) ?_
  refine FunW_run _ _ rfl rfl ?_
  simp only [Obj.lim] at h
  obtain ⟨l0, l1⟩ := h
  have e1 := c105_eq x.params l1
  simp [e1]
noncomputable def c70 := ctr (fun x : Obj => x.lim) (fun x => [x.v, x.v]) (fun _ => (false, .bool true))
theorem c70_eq (x : Obj) (h : x.lim) : c70 [x.v, x.v] = some (false, .bool true) := ctr_eq (fun _ _ _ => rfl) x h rfl
theorem c70_ok : COK Tryz.prog (70, c70) := ctr_ok fun x h => f70_ok x h

theorem f34_ok (xs : List Obj) (hlim : limL Obj.lim xs) : FunOK Tryz.prog 34 [.lst (xs.map Obj.v), .lst (xs.map Obj.v)] false (.bool true) := by
  refine fun_ok (mkE_ok zmix (cl := [(70, c70)]) (gl := []) [] c70_ok trivial) Tryz.func34 (by kernel_rfl) ?_
  refine FunW_run _ _ rfl rfl ?_
  have hlen := hlim.1
  simp only [lim] at hlen
  simp
  refine lp_list xs (fun i t => t.e 0 = .lst (xs.map Obj.v) ∧ t.e 1 = .lst (xs.map Obj.v) ∧ t.e 5 = .int .i64 i) ?_ ?_ ?_
  · simp
  · rintro c' L hL i t x hx hi ih ⟨g0, g1, g5⟩
    have hw : IntKind.i64.wrap ((i : Int) + 1) = ((i + 1 : Nat) : Int) := wrap64 (by omega) (by omega)
    have e := c70_eq x (hlim.2 x (List.mem_of_getElem? hx))
    simp only [Obj.v] at e
    simp [-getElem?_pos, List.getElem?_cons_zero, List.getElem?_cons_succ, g0, g1, g5, hL, hx, hi, e]
    refine ih _ ?_
    simp [-getElem?_pos, List.getElem?_cons_zero, List.getElem?_cons_succ, g0, g1, g5, hL, hx, hi, hw]
  · rintro c' t ⟨g0, g1, g5⟩
    simp [g0, g1, g5]
noncomputable def c34 := ctr (fun xs : List Obj => limL Obj.lim xs) (fun xs => [.lst (xs.map Obj.v), .lst (xs.map Obj.v)]) (fun _ => (false, .bool true))
theorem c34_eq (xs : List Obj) (h : limL Obj.lim xs) : c34 [.lst (xs.map Obj.v), .lst (xs.map Obj.v)] = some (false, .bool true) := ctr_eq (fun _ _ _ => rfl) xs h rfl
theorem c34_ok : COK Tryz.prog (34, c34) := ctr_ok fun xs h => f34_ok xs h

theorem f10_ok (x : Scp) (h : x.lim) : FunOK Tryz.prog 10 [x.v, x.v] false (.bool true) := by
  refine fun_ok (mkE_ok zmix (cl := [(32, c32), (33, c33), (34, c34), (35, c35)]) (gl := []) [] ⟨c32_ok, c33_ok, c34_ok, c35_ok⟩ trivial) Tryz.func10 (by kernel_rfl) ?_
  refine FunW_run _ _ rfl rfl ?_
  simp only [Scp.lim] at h
  obtain ⟨l0, l1, l2, l3, l4⟩ := h
  have e1 := c32_eq x.imports l1
  have e2 := c33_eq x.types l2
  have e3 := c34_eq x.objects l3
  have e4 := c35_eq x.uses l4
  simp [e1, e2, e3, e4]
noncomputable def c10 := ctr (fun x : Scp => x.lim) (fun x => [x.v, x.v]) (fun _ => (false, .bool true))
theorem c10_eq (x : Scp) (h : x.lim) : c10 [x.v, x.v] = some (false, .bool true) := ctr_eq (fun _ _ _ => rfl) x h rfl
theorem c10_ok : COK Tryz.prog (10, c10) := ctr_ok fun x h => f10_ok x h

theorem f31_ok (x : Fgr) (h : x.lim) : FunOK Tryz.prog 31 [x.v, x.v] false (.bool true) := by
  refine fun_ok (mkE_ok zmix (cl := []) (gl := []) [] trivial trivial) Tryz.func31 (by kernel_rfl) ?_
  refine FunW_run _ _ rfl rfl ?_
  simp []
noncomputable def c31 := ctr (fun x : Fgr => x.lim) (fun x => [x.v, x.v]) (fun _ => (false, .bool true))
theorem c31_eq (x : Fgr) (h : x.lim) : c31 [x.v, x.v] = some (false, .bool true) := ctr_eq (fun _ _ _ => rfl) x h rfl
theorem c31_ok : COK Tryz.prog (31, c31) := ctr_ok fun x h => f31_ok x h

theorem f9_ok (xs : List Fgr) (hlim : limL Fgr.lim xs) : FunOK Tryz.prog 9 [.lst (xs.map Fgr.v), .lst (xs.map Fgr.v)] false (.bool true) := by
  refine fun_ok (mkE_ok zmix (cl := [(31, c31)]) (gl := []) [] c31_ok trivial) Tryz.func9 (by kernel_rfl) ?_
  refine FunW_run _ _ rfl rfl ?_
  have hlen := hlim.1
  simp only [lim] at hlen
  simp
  refine lp_list xs (fun i t => t.e 0 = .lst (xs.map Fgr.v) ∧ t.e 1 = .lst (xs.map Fgr.v) ∧ t.e 5 = .int .i64 i) ?_ ?_ ?_
  · simp
  · rintro c' L hL i t x hx hi ih ⟨g0, g1, g5⟩
    have hw : IntKind.i64.wrap ((i : Int) + 1) = ((i + 1 : Nat) : Int) := wrap64 (by omega) (by omega)
    have e := c31_eq x (hlim.2 x (List.mem_of_getElem? hx))
    simp only [Fgr.v] at e
    simp [-getElem?_pos, List.getElem?_cons_zero, List.getElem?_cons_succ, g0, g1, g5, hL, hx, hi, e]
    refine ih _ ?_
    simp [-getElem?_pos, List.getElem?_cons_zero, List.getElem?_cons_succ, g0, g1, g5, hL, hx, hi, hw]
  · rintro c' t ⟨g0, g1, g5⟩
    simp [g0, g1, g5]
noncomputable def c9 := ctr (fun xs : List Fgr => limL Fgr.lim xs) (fun xs => [.lst (xs.map Fgr.v), .lst (xs.map Fgr.v)]) (fun _ => (false, .bool true))
theorem c9_eq (xs : List Fgr) (h : limL Fgr.lim xs) : c9 [.lst (xs.map Fgr.v), .lst (xs.map Fgr.v)] = some (false, .bool true) := ctr_eq (fun _ _ _ => rfl) xs h rfl
theorem c9_ok : COK Tryz.prog (9, c9) := ctr_ok fun xs h => f9_ok xs h

theorem f43_ok (x : Chg) (h : x.lim) : FunOK Tryz.prog 43 [x.v, x.v] false (.bool true) := by
  refine fun_ok (mkE_ok zmix (cl := []) (gl := []) [] trivial trivial) Tryz.func43 (by kernel_rfl) ?_
  refine FunW_run _ _ rfl rfl ?_
  simp []
noncomputable def c43 := ctr (fun x : Chg => x.lim) (fun x => [x.v, x.v]) (fun _ => (false, .bool true))
theorem c43_eq (x : Chg) (h : x.lim) : c43 [x.v, x.v] = some (false, .bool true) := ctr_eq (fun _ _ _ => rfl) x h rfl
theorem c43_ok : COK Tryz.prog (43, c43) := ctr_ok fun x h => f43_ok x h

theorem f16_ok (xs : List Chg) (hlim : limL Chg.lim xs) : FunOK Tryz.prog 16 [.lst (xs.map Chg.v), .lst (xs.map Chg.v)] false (.bool true) := by
  refine fun_ok (mkE_ok zmix (cl := [(43, c43)]) (gl := []) [] c43_ok trivial) Tryz.func16 (by kernel_rfl) ?_
  refine FunW_run _ _ rfl rfl ?_
  have hlen := hlim.1
  simp only [lim] at hlen
  simp
  refine lp_list xs (fun i t => t.e 0 = .lst (xs.map Chg.v) ∧ t.e 1 = .lst (xs.map Chg.v) ∧ t.e 5 = .int .i64 i) ?_ ?_ ?_
  · simp
  · rintro c' L hL i t x hx hi ih ⟨g0, g1, g5⟩
    have hw : IntKind.i64.wrap ((i : Int) + 1) = ((i + 1 : Nat) : Int) := wrap64 (by omega) (by omega)
    have e := c43_eq x (hlim.2 x (List.mem_of_getElem? hx))
    simp only [Chg.v] at e
    simp [-getElem?_pos, List.getElem?_cons_zero, List.getElem?_cons_succ, g0, g1, g5, hL, hx, hi, e]
    refine ih _ ?_
    simp [-getElem?_pos, List.getElem?_cons_zero, List.getElem?_cons_succ, g0, g1, g5, hL, hx, hi, hw]
  · rintro c' t ⟨g0, g1, g5⟩
    simp [g0, g1, g5]
noncomputable def c16 := ctr (fun xs : List Chg => limL Chg.lim xs) (fun xs => [.lst (xs.map Chg.v), .lst (xs.map Chg.v)]) (fun _ => (false, .bool true))
theorem c16_eq (xs : List Chg) (h : limL Chg.lim xs) : c16 [.lst (xs.map Chg.v), .lst (xs.map Chg.v)] = some (false, .bool true) := ctr_eq (fun _ _ _ => rfl) xs h rfl
theorem c16_ok : COK Tryz.prog (16, c16) := ctr_ok fun xs h => f16_ok xs h

end Go.TM.Tryz
end
section
set_option maxHeartbeats 4000000
set_option maxRecDepth 20000
set_option linter.unusedSimpArgs false
set_option linter.unusedVariables false
namespace Go.TM
theorem cnt_le {α : Type} {c f : α → Nat} (h : ∀ x, c x ≤ 8 + 8 * f x) (xs : List α) : cnt c xs ≤ 8 * szL f xs := by
  induction xs with
  | nil => simp [cnt, szL]
  | cons x xs ih =>
    have := h x
    simp only [cnt, szL, List.map_cons, List.sum_cons, List.length_cons] at *
    omega
theorem cTy_le (x : Ty) : cTy x ≤ 8 + 8 * x.sz := by
  have := cnt_le (c := cFld) (f := Fld.sz) (fun y => by simp [cFld]; omega) x.fields
  simp only [cTy, Ty.sz]
  omega
theorem cObj_le (x : Obj) : cObj x ≤ 8 + 8 * x.sz := by
  have := cnt_le (c := cPar) (f := Par.sz) (fun y => by simp [cPar]; omega) x.params
  simp only [cObj, Obj.sz]
  omega
theorem Scp.cnts {x : Scp} (h : x.sz ≤ 1048576) : cnt cStr x.imports + cnt cTy x.types + cnt cObj x.objects + cnt cUse x.uses ≤ 8388608 := by
  have h1 := cnt_le (c := cStr) (f := ByteArray.size) (fun y => by simp [cStr]; omega) x.imports
  have h2 := cnt_le (c := cTy) (f := Ty.sz) cTy_le x.types
  have h3 := cnt_le (c := cObj) (f := Obj.sz) cObj_le x.objects
  have h4 := cnt_le (c := cUse) (f := Use.sz) (fun y => by simp [cUse]; omega) x.uses
  simp only [Scp.sz] at h
  omega
theorem Scp.lens {x : Scp} (h : x.sz ≤ 1048576) : x.imports.length ≤ 1048576 ∧ (x.types.length ≤ 1048576 ∧ ∀ y ∈ x.types, y.fields.length ≤ 1048576) ∧ (x.objects.length ≤ 1048576 ∧ ∀ y ∈ x.objects, y.params.length ≤ 1048576) ∧ x.uses.length ≤ 1048576 := by
  have h1 := szL_len ByteArray.size x.imports
  have h2 := szL_len Ty.sz x.types
  have h3 := szL_len Obj.sz x.objects
  have h4 := szL_len Use.sz x.uses
  simp only [Scp.sz] at h
  refine ⟨by omega, ⟨by omega, fun y hy => ?_⟩, ⟨by omega, fun y hy => ?_⟩, by omega⟩
  · have a := szL_mem (f := Ty.sz) hy
    have b := szL_len Fld.sz y.fields
    simp only [Ty.sz] at a
    omega
  · have a := szL_mem (f := Obj.sz) hy
    have b := szL_len Par.sz y.params
    simp only [Obj.sz] at a
    omega
end Go.TM
namespace Go.TM.Tryz
open Go Go.TM Go.Proofs
theorem fg_mem {s : Scp} {f : Fgr} (h : f ∈ fgI s) : ∃ o ∈ s.objects, f.name = o.name := by
  have h1 := (sortF_perm _).1.mem_iff.1 h
  simp only [fgrs] at h1
  obtain ⟨o, ho, rfl⟩ := List.mem_map.1 h1
  exact ⟨o, (List.mem_filter.1 ho).1, rfl⟩
theorem fg_len (s : Scp) : (fgI s).length ≤ s.objects.length := by
  rw [fgI, (sortF_perm _).2.1, fgrs, List.length_map]
  exact List.length_filter_le _ _
theorem fg_lim {s : Scp} (h : s.lim) (b : Bool) : limL Fgr.lim (okF b (fgI s)) := by
  unfold okF
  split
  · refine ⟨Nat.le_trans (fg_len s) h.2.2.2.1.1, fun x hx => ?_⟩
    obtain ⟨o, ho, e⟩ := fg_mem hx
    have := (h.2.2.2.1.2 o ho).1
    simp only [Fgr.lim, e]
    exact this
  · exact ⟨Nat.zero_le _, fun _ h => (by cases h)⟩
theorem f3_ok (s : Scp) (hl : s.lim) : FunOK Tryz.prog 3 [s.v] false (.bool true) := by
  refine fun_ok (mkE_ok zmix (cl := [(5, c5), (7, c7), (6, c6), (8, c8), (9, c9), (10, c10), (13, c13)]) (gl := [(11, [true], c11), (12, [true], c12)]) [(10, [(0, false), (1, false), (2, true), (3, true), (4, false)])] ⟨c5_ok, c7_ok, c6_ok, c8_ok, c9_ok, c10_ok, c13_ok⟩ ⟨c11_ok, c12_ok⟩) Tryz.func3 (by kernel_rfl) ?_
  refine FunW_run _ _ rfl rfl ?_
  have e5 := c5_eq s 1048576 hl (by omega) (by omega)
  simp only [Scp.v] at e5
  by_cases hz : ¬ (s.sz : Int) ≤ 1048576
  · rw [szR_lt (by omega)] at e5
    simp [e5]
  have hz : s.sz ≤ 1048576 := by omega
  rw [szR_ge (by omega)] at e5
  have h0 : ¬ (1048576 : Int) < s.sz := by omega
  have e7 := c7_eq s.name s.imports s.types s.objects s.uses hz
  have e6 := c6_eq s hl
  have e8 := c8_eq s hl
  simp only [Scp.v] at e6 e8
  have e9 := c9_eq _ (fg_lim hl (scopeI s))
  have e10 := c10_eq s hl
  simp only [Scp.v] at e10
  have hc := Scp.cnts hz
  have hln := Scp.lens hz
  have e11 := c11_eq s 1 (by omega) (by omega) ⟨by omega, ⟨by omega, fun y hy => by have := hln.2.1.2 y hy; omega⟩, ⟨by omega, fun y hy => by have := hln.2.2.1.2 y hy; omega⟩, by omega⟩
  simp only [Scp.o] at e11
  have hn : (okF (scopeI s) (fgI s)).length ≤ 1048576 := by
    have h1 := fg_len s
    have h2 := hln.2.2.1.1
    unfold okF
    split
    · omega
    · simp
  generalize okF (scopeI s) (fgI s) = names at *
  have hcn : cnt cFgr names ≤ 3145728 := by have := cnt_const (c := cFgr) (m := 3) (fun _ => rfl) names; omega
  have e12 := c12_eq names 1 (by omega) (by omega) (by omega)
  have e13 := c13_eq names 1 (by omega) (by omega) (by omega)
  simp [e5, h0, e7, e6, e8, e9, e10, e11, e12, e13, pureOp, S.see, seeL, S.after, flatC]
  omega
end Go.TM.Tryz
end
section
set_option maxHeartbeats 4000000
set_option maxRecDepth 20000
set_option linter.unusedSimpArgs false
set_option linter.unusedVariables false
namespace Go.TM.Tryz
open Go Go.TM Go.Proofs
theorem injSS {β : Type} (out : Scp × Scp → β) : ∀ a b : Scp × Scp, [a.1.v, a.2.v] = [b.1.v, b.2.v] → out a = out b := by
  rintro ⟨a, c⟩ ⟨b, d⟩ h
  simp only [List.cons.injEq, and_true] at h
  rw [Scp.v_inj h.1, Scp.v_inj h.2]
noncomputable def c41 := ctr (fun a : Scp × Scp => scopeI a.1 = true ∧ scopeI a.2 = true) (fun a => [a.1.v, a.2.v]) (fun a => (false, .inl 2 ((diffS a.1 a.2).map Chg.v)))
theorem c41_eq (a b : Scp) (ha : scopeI a = true) (hb : scopeI b = true) : c41 [a.v, b.v] = some (false, .inl 2 ((diffS a b).map Chg.v)) := ctr_eq (injSS _) (a, b) ⟨ha, hb⟩ rfl
theorem c41_ok : COK Tryz.prog (41, c41) := ctr_ok fun a h => f41_ok a.1 a.2 h.1 h.2
theorem f14_ok (a b : Scp) (hla : a.lim) (hlb : b.lim) : FunOK Tryz.prog 14 [a.v, b.v] false (.tup [.inl 2 ((okC2 (scopeI a && scopeI b) (diffI a b)).map Chg.v), .bool (scopeI a && scopeI b)]) := by
  refine fun_ok (mkE_ok zmix (cl := [(23, c23), (41, c41)]) (gl := []) [] ⟨c23_ok, c41_ok⟩ trivial) Tryz.func14 (by kernel_rfl) ?_
  refine FunW_run _ _ rfl rfl ?_
  have ea := c23_eq a hla
  have eb := c23_eq b hlb
  simp only [Scp.v] at ea eb
  cases hsa : scopeI a with
  | false =>
    rw [hsa] at ea
    cases hsb : scopeI b <;> rw [hsb] at eb <;> simp [ea, eb, okC2]
  | true =>
    rw [hsa] at ea
    cases hsb : scopeI b with
    | false =>
      rw [hsb] at eb
      simp [ea, eb, okC2]
    | true =>
      rw [hsb] at eb
      have ec := c41_eq a b hsa hsb
      rw [← diff_same (scopeI_refs hsa) (scopeI_refs hsb)] at ec
      simp only [Scp.v] at ec
      simp [ea, eb, ec, okC2]
noncomputable def c14 := ctr (fun a : Scp × Scp => a.1.lim ∧ a.2.lim) (fun a => [a.1.v, a.2.v]) (fun a => (false, .tup [.inl 2 ((okC2 (scopeI a.1 && scopeI a.2) (diffI a.1 a.2)).map Chg.v), .bool (scopeI a.1 && scopeI a.2)]))
theorem c14_eq (a b : Scp) (ha : a.lim) (hb : b.lim) : c14 [a.v, b.v] = some (false, .tup [.inl 2 ((okC2 (scopeI a && scopeI b) (diffI a b)).map Chg.v), .bool (scopeI a && scopeI b)]) := ctr_eq (injSS _) (a, b) ⟨ha, hb⟩ rfl
theorem c14_ok : COK Tryz.prog (14, c14) := ctr_ok fun a h => f14_ok a.1 a.2 h.1 h.2
noncomputable def c15 := ctr (fun a : Scp × Scp => a.1.lim ∧ a.2.lim) (fun a => [a.1.v, a.2.v]) (fun a => (false, .tup [.inl 2 ((okC2 (scopeI a.1 && scopeI a.2) (diffI a.1 a.2)).map Chg.v), .bool (scopeI a.1 && scopeI a.2)]))
theorem c15_eq (a b : Scp) (ha : a.lim) (hb : b.lim) : c15 [a.v, b.v] = some (false, .tup [.inl 2 ((okC2 (scopeI a && scopeI b) (diffI a b)).map Chg.v), .bool (scopeI a && scopeI b)]) := ctr_eq (injSS _) (a, b) ⟨ha, hb⟩ rfl
theorem c15_ok : COK Tryz.prog (15, c15) := ctr_ok fun a h => f15_ok a.1 a.2 h.1 h.2
theorem rawD_len (A B : List Fgr) : (rawD A B).length ≤ A.length + B.length := by
  have h1 := List.length_filterMap_le (dA B) A
  have h2 := List.length_filterMap_le (dB A) B
  simp only [rawD, List.length_append]
  omega
theorem diffI_len (a b : Scp) : (diffI a b).length ≤ a.objects.length + b.objects.length := by
  have h1 := rawD_len (fgI a) (fgI b)
  have h2 := fgI_len a
  have h3 := fgI_len b
  rw [diffI, (sortC_perm _).2.1]
  omega
theorem dA_name {B : List Fgr} {x : Fgr} {c : Chg} (h : dA B x = some c) : c.name = x.name := by
  unfold dA at h
  split at h
  · cases h; rfl
  · split at h
    · cases h
    · cases h; rfl
theorem dB_name {A : List Fgr} {x : Fgr} {c : Chg} (h : dB A x = some c) : c.name = x.name := by
  unfold dB at h
  split at h
  · cases h; rfl
  · cases h
theorem diffI_mem {a b : Scp} {c : Chg} (h : c ∈ diffI a b) : (∃ o ∈ a.objects, c.name = o.name) ∨ (∃ o ∈ b.objects, c.name = o.name) := by
  have h1 := (sortC_perm _).1.mem_iff.1 h
  simp only [rawD, List.mem_append, List.mem_filterMap] at h1
  rcases h1 with ⟨x, hx, hd⟩ | ⟨x, hx, hd⟩
  · obtain ⟨o, ho, e⟩ := fg_mem hx
    exact .inl ⟨o, ho, (dA_name hd).trans e⟩
  · obtain ⟨o, ho, e⟩ := fg_mem hx
    exact .inr ⟨o, ho, (dB_name hd).trans e⟩
def tail8 : TT := .one false 3 (.one false 4 (.rig 5 (.rig 6 (.rig 7 (.one false 8 (.one false 9 .done))))))
def tree8 : TT := .two false 0 (.two false 1 (.one false 2 tail8) false 2 (.one false 1 tail8)) false 2 (.one false 0 (.one false 1 tail8))
def cut8 : Pl := ⟨[], [], [], [0, 1, 2, 3, 4, 5, 6, 7, 8, 9], tree8⟩
theorem cut8_run {E : Env} (pl : Option (List (Nat × Bool))) (ops : Array Oper) (k : List Fr) (Q : X → S → Prop) (s : S) : aftE (some cut8) pl ops k E Q s = preK E ops k Q tree8 [] s := rfl
theorem f4_ok (a b : Scp) (hla : a.lim) (hlb : b.lim) : FunOK Tryz.prog 4 [a.v, b.v] false (.bool true) := by
  refine fun_ok (mkE2_ok zmix (cl := [(5, c5), (7, c7), (14, c14), (15, c15), (16, c16), (10, c10), (18, c18)]) (gl := [(11, [true], c11), (17, [true], c17)]) [(14, [(0, false), (1, false), (2, true), (3, true), (4, false)]), (16, [(0, false), (1, false), (2, true), (3, true), (4, false)])] [(8, cut8), (31, cut8)] ⟨c5_ok, c7_ok, c14_ok, c15_ok, c16_ok, c10_ok, c18_ok⟩ ⟨c11_ok, c17_ok⟩) Tryz.func4 (by kernel_rfl) ?_
  refine FunW_run _ _ rfl rfl ?_
  have e5a := c5_eq a 1048576 hla (by omega) (by omega)
  simp only [Scp.v] at e5a
  by_cases hz : ¬ (a.sz : Int) ≤ 1048576
  · rw [szR_lt (by omega)] at e5a
    simp [e5a]
  have hza : a.sz ≤ 1048576 := by omega
  rw [szR_ge (by omega)] at e5a
  have e5b := c5_eq b (1048576 - a.sz) hlb (by omega) (by omega)
  simp only [Scp.v] at e5b
  have h0 : ¬ (1048576 : Int) < a.sz := by omega
  by_cases hz2 : ¬ (b.sz : Int) ≤ 1048576 - a.sz
  · rw [szR_lt (by omega)] at e5b
    simp [e5a, e5b, h0]
  have hzb : b.sz ≤ 1048576 := by omega
  rw [szR_ge (by omega)] at e5b
  have h1 : ¬ (1048576 : Int) - a.sz < b.sz := by omega
  have e7a := c7_eq a.name a.imports a.types a.objects a.uses hza
  have e7b := c7_eq b.name b.imports b.types b.objects b.uses hzb
  have e14 := c14_eq a b hla hlb
  have e15 := c15_eq a b hla hlb
  simp only [Scp.v] at e14 e15
  have hla' := Scp.lens hza
  have hlb' := Scp.lens hzb
  have hd1 : (okC2 (scopeI a && scopeI b) (diffI a b)).length ≤ 2097152 := by
    have h1 := diffI_len a b
    have h2 := hla'.2.2.1.1
    have h3 := hlb'.2.2.1.1
    unfold okC2
    split
    · omega
    · simp
  have hd2 : limL Chg.lim (okC2 (scopeI a && scopeI b) (diffI a b)) := by
    refine ⟨Nat.le_trans hd1 (by simp [lim]), fun c hc => ?_⟩
    unfold okC2 at hc
    split at hc
    · rcases diffI_mem hc with ⟨o, ho, e⟩ | ⟨o, ho, e⟩
      · have := (hla.2.2.2.1.2 o ho).1
        simp only [Chg.lim, e]
        exact this
      · have := (hlb.2.2.2.1.2 o ho).1
        simp only [Chg.lim, e]
        exact this
    · cases hc
  have e16 := c16_eq _ hd2
  have e10a := c10_eq a hla
  have e10b := c10_eq b hlb
  simp only [Scp.v] at e10a e10b
  have hca := Scp.cnts hza
  have hcb := Scp.cnts hzb
  have e11a := c11_eq a 1 (by omega) (by omega) ⟨by omega, ⟨by omega, fun y hy => by have := hla'.2.1.2 y hy; omega⟩, ⟨by omega, fun y hy => by have := hla'.2.2.1.2 y hy; omega⟩, by omega⟩
  have e11b := c11_eq b (1 + (cnt cStr a.imports : Nat) + (cnt cTy a.types : Nat) + (cnt cObj a.objects : Nat) + (cnt cUse a.uses : Nat)) (by omega) (by omega) ⟨by omega, ⟨by omega, fun y hy => by have := hlb'.2.1.2 y hy; omega⟩, ⟨by omega, fun y hy => by have := hlb'.2.2.1.2 y hy; omega⟩, by omega⟩
  simp only [Scp.o] at e11a e11b
  generalize okC2 (scopeI a && scopeI b) (diffI a b) = ds at *
  have hcn : cnt cChg ds ≤ 4194304 := by have := cnt_const (c := cChg) (m := 2) (fun _ => rfl) ds; omega
  have e17 := c17_eq ds 1 (by omega) (by omega) (by omega)
  have e18 := c18_eq ds 1 (by omega) (by omega) (by omega)
  simp (maxSteps := 5000000) [-aftE_some, cut8_run, tree8, tail8, e5a, e5b, h0, h1, e7a, e7b, e14, e15, e16, e10a, e10b, e11a, e11b, e17, e18, pureOp, S.see, seeL, S.after, flatC]
  omega
end Go.TM.Tryz
end
