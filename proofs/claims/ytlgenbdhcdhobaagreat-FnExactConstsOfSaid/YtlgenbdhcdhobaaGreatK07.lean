/- laws.FnExactConstsOf returns true at every input, and what it was given reads behind the call as it read before; no conditions. -/
import Derived.Test.YtlgenbdhcdhobaaGreatK06
import Derived.Test.YtlgenbdhcdhobaaGreatRows
set_option linter.unusedVariables false
set_option linter.unusedSimpArgs false
section
set_option linter.unusedVariables false
namespace Go.TM
open Go
structure Knw where
  mod : ByteArray
  name : ByteArray
  value : Int
@[simp] def Knw.v (x : Knw) : V := .agg [.str x.mod, .str x.name, .int .i64 x.value]
@[simp] theorem cut_knw (xs : List Knw) : (xs = [] ∨ (leaves ((Option.map Knw.v xs[0]?).getD .bad)).length = 3) = True := cut_ok (f := Knw.v) (n := 3) (fun _ => rfl) xs
@[simp] theorem norms_knw (xs : List Knw) : norms (xs.map Knw.v) = xs.map Knw.v := by rw [norms_map]; simp
@[simp] theorem noLs_knw (xs : List Knw) : noLs (xs.map Knw.v) = true := noLs_map _ (by simp) _
theorem Knw.v_inj : Function.Injective Knw.v := by rintro ⟨⟩ ⟨⟩; simp
def Knw.sz (x : Knw) : Nat := x.mod.size + x.name.size
def Knw.lim (x : Knw) : Prop := x.mod.size ≤ TM.lim ∧ x.name.size ≤ TM.lim
def mkKnw (k : Int) (_ : Knw) : Knw := ⟨mtext k, mtext (k + 1), k + 1 + 1⟩
def cKnw (_ : Knw) : Nat := 3
end Go.TM
end
section
set_option maxHeartbeats 2000000
set_option linter.unusedSimpArgs false
set_option linter.unusedVariables false
namespace Go.TM.Tryz
open Go Go.TM Go.Proofs
theorem f42_ok (x : Knw) (h : x.lim) : FunOK Tryz.prog 42 [x.v, x.v] false (.bool true) := by
  refine fun_ok (mkE_ok zmix (cl := []) (gl := []) [] trivial trivial) Tryz.func42 (by kernel_rfl) ?_
  refine FunW_run _ _ rfl rfl ?_
  simp []
noncomputable def c42 := ctr (fun x : Knw => x.lim) (fun x => [x.v, x.v]) (fun _ => (false, .bool true))
theorem c42_eq (x : Knw) (h : x.lim) : c42 [x.v, x.v] = some (false, .bool true) := ctr_eq (fun _ _ _ => rfl) x h rfl
theorem c42_ok : COK Tryz.prog (42, c42) := ctr_ok fun x h => f42_ok x h

theorem f19_ok (xs : List Knw) (hlim : limL Knw.lim xs) : FunOK Tryz.prog 19 [.lst (xs.map Knw.v), .lst (xs.map Knw.v)] false (.bool true) := by
  refine fun_ok (mkE_ok zmix (cl := [(42, c42)]) (gl := []) [] c42_ok trivial) Tryz.func19 (by kernel_rfl) ?_
  refine FunW_run _ _ rfl rfl ?_
  have hlen := hlim.1
  simp only [lim] at hlen
  simp
  refine lp_list xs (fun i t => t.e 0 = .lst (xs.map Knw.v) ∧ t.e 1 = .lst (xs.map Knw.v) ∧ t.e 5 = .int .i64 i) ?_ ?_ ?_
  · simp
  · rintro c' L hL i t x hx hi ih ⟨g0, g1, g5⟩
    have hw : IntKind.i64.wrap ((i : Int) + 1) = ((i + 1 : Nat) : Int) := wrap64 (by omega) (by omega)
    have e := c42_eq x (hlim.2 x (List.mem_of_getElem? hx))
    simp only [Knw.v] at e
    simp [-getElem?_pos, List.getElem?_cons_zero, List.getElem?_cons_succ, g0, g1, g5, hL, hx, hi, e]
    refine ih _ ?_
    simp [-getElem?_pos, List.getElem?_cons_zero, List.getElem?_cons_succ, g0, g1, g5, hL, hx, hi, hw]
  · rintro c' t ⟨g0, g1, g5⟩
    simp [g0, g1, g5]
noncomputable def c19 := ctr (fun xs : List Knw => limL Knw.lim xs) (fun xs => [.lst (xs.map Knw.v), .lst (xs.map Knw.v)]) (fun _ => (false, .bool true))
theorem c19_eq (xs : List Knw) (h : limL Knw.lim xs) : c19 [.lst (xs.map Knw.v), .lst (xs.map Knw.v)] = some (false, .bool true) := ctr_eq (fun _ _ _ => rfl) xs h rfl
theorem c19_ok : COK Tryz.prog (19, c19) := ctr_ok fun xs h => f19_ok xs h

end Go.TM.Tryz
end
section
set_option maxHeartbeats 2000000
set_option linter.unusedSimpArgs false
set_option linter.unusedVariables false
namespace Go.TM.Tryz
open Go Go.TM Go.Proofs
theorem f20_ok (xs : List Knw) (k : Int) (h0 : 0 ≤ k) (h1 : k + cnt cKnw xs ≤ 4611686018427387904) (h2 : xs.length ≤ 4611686018427387904) : GenOK Tryz.prog 20 [.inl 3 (xs.map Knw.v), .int .i64 k] [] ⟨false, .int .i64 (k + cnt cKnw xs), [.inl 3 ((mkL mkKnw cKnw k xs).map Knw.v)], []⟩ := by
  refine fun_okG (mkE_ok zmix (cl := [(38, c38)]) (gl := []) [] c38_ok trivial) Tryz.func20 (by kernel_rfl) ?_
  refine FunG_run _ _ rfl rfl ?_
  have hlen := h2
  simp
  refine lp_list xs (fun i t => t.e 0 = .own 0 ∧ t.e 1 = .int .i64 (k + pre cKnw xs i) ∧ t.e 5 = .int .i64 i ∧ t.nb = 0 ∧ 1 ≤ t.nt ∧ t.R 0 = some ⟨3, (mpart mkKnw cKnw k xs i).map Knw.v, true⟩) ?_ ?_ ?_
  · simp [pre_zero, mpart_zero]
  · rintro c' L hL i t x hx hi ih ⟨g0, g1, g5, gnb, gnt, gR⟩
    have hw : IntKind.i64.wrap ((i : Int) + 1) = ((i + 1 : Nat) : Int) := wrap64 (by omega) (by omega)
    have hp := pre_succ cKnw hx
    have hp2 := pre_le cKnw xs (i + 1)
    have hc : cKnw x = 3 := rfl
    have hcnt : (xs.map cKnw).sum = cnt cKnw xs := rfl
    have e0 := c38_eq (k + (pre cKnw xs i : Nat)) (by omega)
    have w0 : IntKind.i64.wrap (k + (pre cKnw xs i : Nat) + 1) = k + (pre cKnw xs i : Nat) + 1 := wrap64 (by omega) (by omega)
    have e1 := c38_eq (k + (pre cKnw xs i : Nat) + 1) (by omega)
    have w1 : IntKind.i64.wrap (k + (pre cKnw xs i : Nat) + 1 + 1) = k + (pre cKnw xs i : Nat) + 1 + 1 := wrap64 (by omega) (by omega)
    have w2 : IntKind.i64.wrap (k + (pre cKnw xs i : Nat) + 1 + 1 + 1) = k + (pre cKnw xs i : Nat) + 1 + 1 + 1 := wrap64 (by omega) (by omega)
    have hx' := mpart_get (f := mkKnw) (c := cKnw) (k := k) hx
    simp [-getElem?_pos, List.getElem?_cons_zero, List.getElem?_cons_succ, g0, g1, g5, gnb, gR, hL, hx', hi, e0, w0, e1, w1, w2]
    refine ih _ ?_
    simp [-getElem?_pos, List.getElem?_cons_zero, List.getElem?_cons_succ, g0, g1, g5, gnb, gR, hL, hx', hi, e0, w0, e1, w1, w2, hp, hc, hw]
    first
      | exact ⟨by omega, by omega, mpart_setv hx rfl⟩
      | exact ⟨by omega, mpart_setv hx rfl⟩
      | exact mpart_setv hx rfl
  · rintro c' t ⟨g0, g1, g5, gnb, gnt, gR⟩
    simp only [pre_all] at g1
    simp [g0, g1, g5, gnb, gR, mpart_all, cnt]
noncomputable def c20 := ctrG (fun a : List Knw × Int => 0 ≤ a.2 ∧ a.2 + cnt cKnw a.1 ≤ 4611686018427387904 ∧ (a.1.length ≤ 4611686018427387904)) (fun a => ([.inl 3 (a.1.map Knw.v), .int .i64 a.2], [])) (fun a => ⟨false, .int .i64 (a.2 + cnt cKnw a.1), [.inl 3 ((mkL mkKnw cKnw a.2 a.1).map Knw.v)], []⟩)
theorem c20_eq (xs : List Knw) (k : Int) (h0 : 0 ≤ k) (h1 : k + cnt cKnw xs ≤ 4611686018427387904) (h2 : xs.length ≤ 4611686018427387904) : c20 [.inl 3 (xs.map Knw.v), .int .i64 k] [] = some ⟨false, .int .i64 (k + cnt cKnw xs), [.inl 3 ((mkL mkKnw cKnw k xs).map Knw.v)], []⟩ := ctrG_eq (injG Knw.v_inj _) (xs, k) ⟨h0, h1, h2⟩ rfl
theorem c20_ok : GOK Tryz.prog (20, [true], c20) := ctrG_ok fun a h => f20_ok a.1 a.2 h.1 h.2.1 h.2.2

end Go.TM.Tryz
end
section
set_option maxHeartbeats 2000000
set_option linter.unusedSimpArgs false
set_option linter.unusedVariables false
namespace Go.TM.Tryz
open Go Go.TM Go.Proofs
theorem f21_ok (xs : List Knw) (k : Int) (h0 : 0 ≤ k) (h1 : k + cnt cKnw xs ≤ 4611686018427387904) (h2 : xs.length ≤ 4611686018427387904) : FunOK Tryz.prog 21 [.lst ((mkL mkKnw cKnw k xs).map Knw.v), .int .i64 k] false (.int .i64 (k + cnt cKnw xs)) := by
  refine fun_ok (mkE_ok zmix (cl := [(38, c38)]) (gl := []) [] c38_ok trivial) Tryz.func21 (by kernel_rfl) ?_
  refine FunW_run _ _ rfl rfl ?_
  simp
  refine lp_list xs (fun i t => t.e 0 = .lst ((mkL mkKnw cKnw k xs).map Knw.v) ∧ t.e 1 = .int .i64 (k + pre cKnw xs i) ∧ t.e 5 = .int .i64 i) ?_ ?_ ?_
  · simp [pre_zero]
  · rintro c' L hL i t x hx hi ih ⟨g0, g1, g5⟩
    have hw : IntKind.i64.wrap ((i : Int) + 1) = ((i + 1 : Nat) : Int) := wrap64 (by omega) (by omega)
    have hp := pre_succ cKnw hx
    have hp2 := pre_le cKnw xs (i + 1)
    have hc : cKnw x = 3 := rfl
    have hcnt : (xs.map cKnw).sum = cnt cKnw xs := rfl
    have e0 := c38_eq (k + (pre cKnw xs i : Nat)) (by omega)
    have w0 : IntKind.i64.wrap (k + (pre cKnw xs i : Nat) + 1) = k + (pre cKnw xs i : Nat) + 1 := wrap64 (by omega) (by omega)
    have e1 := c38_eq (k + (pre cKnw xs i : Nat) + 1) (by omega)
    have w1 : IntKind.i64.wrap (k + (pre cKnw xs i : Nat) + 1 + 1) = k + (pre cKnw xs i : Nat) + 1 + 1 := wrap64 (by omega) (by omega)
    have w2 : IntKind.i64.wrap (k + (pre cKnw xs i : Nat) + 1 + 1 + 1) = k + (pre cKnw xs i : Nat) + 1 + 1 + 1 := wrap64 (by omega) (by omega)
    have hx' := mkL_get mkKnw cKnw k hx
    simp [-getElem?_pos, List.getElem?_cons_zero, List.getElem?_cons_succ, g0, g1, g5, hL, hx', hi, mkKnw, e0, w0, e1, w1, w2]
    refine ih _ ?_
    simp [-getElem?_pos, List.getElem?_cons_zero, List.getElem?_cons_succ, g0, g1, g5, hL, hx', hi, e0, w0, e1, w1, w2, hp, hc, hw] <;> omega
  · rintro c' t ⟨g0, g1, g5⟩
    simp only [pre_all] at g1
    simp [g0, g1, g5, cnt]
noncomputable def c21 := ctr (fun a : List Knw × Int => 0 ≤ a.2 ∧ a.2 + cnt cKnw a.1 ≤ 4611686018427387904 ∧ a.1.length ≤ 4611686018427387904) (fun a => [.lst ((mkL mkKnw cKnw a.2 a.1).map Knw.v), .int .i64 a.2]) (fun a => (false, .int .i64 (a.2 + cnt cKnw a.1)))
theorem c21_eq (xs : List Knw) (k : Int) (h0 : 0 ≤ k) (h1 : k + cnt cKnw xs ≤ 4611686018427387904) (h2 : xs.length ≤ 4611686018427387904) : c21 [.lst ((mkL mkKnw cKnw k xs).map Knw.v), .int .i64 k] = some (false, .int .i64 (k + cnt cKnw xs)) := ctr_eq (injH (fun _ => rfl)) (xs, k) ⟨h0, h1, h2⟩ rfl
theorem c21_ok : COK Tryz.prog (21, c21) := ctr_ok fun a h => f21_ok a.1 a.2 h.1 h.2.1 h.2.2

end Go.TM.Tryz
end
section
set_option maxHeartbeats 4000000
set_option maxRecDepth 20000
set_option linter.unusedSimpArgs false
set_option linter.unusedVariables false
namespace Go.TM.Tryz
open Go Go.TM Go.Proofs
def constsL (m : ByteArray) (l : List Obj) : List Knw := (l.filter fun o => decide (o.kind = 1)).map fun o => ⟨m, o.name, o.value⟩
def okKnw (b : Bool) (l : List Knw) : List Knw := if b = true then l else []
theorem constsL_succ {m : ByteArray} {l : List Obj} {i : Nat} {o : Obj} (hx : l[i]? = some o) : constsL m (l.take (i + 1)) = constsL m (l.take i) ++ (if decide (o.kind = 1) = true then [⟨m, o.name, o.value⟩] else []) := by
  rw [constsL, filter_succ hx, List.map_append]
  congr 1
  split <;> rfl
theorem f18_ok (s : Scp) (hl : s.lim) : FunOK Tryz.prog 18 [s.v] false (.tup [.inl 3 ((okKnw (scopeI s) (constsL ⟨#[]⟩ s.objects)).map Knw.v), .bool (scopeI s)]) := by
  refine fun_ok (mkE_ok zmix (cl := [(31, c31)]) (gl := []) [] c31_ok trivial) Tryz.func18 (by kernel_rfl) ?_
  refine FunW_run _ _ rfl rfl ?_
  have e31 := c31_eq s hl
  simp only [Scp.v] at e31
  cases hs : scopeI s
  · rw [hs] at e31
    simp [e31, okKnw]
  · rw [hs] at e31
    obtain ⟨_, h16, _⟩ := scopeI_len hs
    have r1 : ∀ k, k ≤ 100 → room ⟨3, true, 40, .agg [.str ⟨#[]⟩, .str ⟨#[]⟩, .int .i64 0]⟩ k := fun k hk => by simp [room]; omega
    simp [e31, okKnw]
    refine lp_list s.objects (fun i t => t.e 11 = .lst (s.objects.map Obj.v) ∧ t.e 12 = .int .i64 s.objects.length ∧ t.e 13 = .int .i64 i ∧ hasR t (t.e 4) 3 ((constsL ⟨#[]⟩ (s.objects.take i)).map Knw.v)) ?_ ?_ ?_
    · simp [constsL]
    · rintro c' L hL i t o hx hi ih ⟨g11, g12, g13, ⟨r, g4, hlt, hR⟩⟩
      have hw : IntKind.i64.wrap ((i : Int) + 1) = ((i + 1 : Nat) : Int) := wrap64 (by omega) (by omega)
      have n1 : ¬ r = t.nt := by omega
      have n2 : ¬ r = t.nt + 1 := by omega
      have hle : (constsL ⟨#[]⟩ (s.objects.take i)).length ≤ s.objects.length := by rw [constsL, List.length_map]; exact filter_take_le _ _ _
      have hsucc := constsL_succ (m := ⟨#[]⟩) hx
      generalize constsL ⟨#[]⟩ (s.objects.take i) = q at hR hle hsucc
      have r3 := r1 (q.length + 1) (by omega)
      have r2 := r1 1 (by omega)
      by_cases hm : o.kind = 1
      · simp [-getElem?_pos, List.getElem?_cons_zero, List.getElem?_cons_succ, g11, g12, g13, g4, hR, hL, hi, hx, hm, n1, n2, r2, r3]
        refine ih _ ?_
        simp [g11, g12, g13, hw, hsucc, hm, n1, n2]
      · simp [-getElem?_pos, List.getElem?_cons_zero, List.getElem?_cons_succ, g11, g12, g13, g4, hR, hL, hi, hx, hm, n1, n2]
        refine ih _ ?_
        simp [g11, g12, g13, g4, hR, hw, hsucc, hm, n1, n2]
        omega
    · rintro c' t ⟨g11, g12, g13, ⟨r, g4, hlt, hR⟩⟩
      rw [List.take_length] at hR
      simp [g11, g12, g13, g4, hR]
noncomputable def c18 := ctr (fun s : Scp => s.lim) (fun s => [s.v]) (fun s => (false, .tup [.inl 3 ((okKnw (scopeI s) (constsL ⟨#[]⟩ s.objects)).map Knw.v), .bool (scopeI s)]))
theorem c18_eq (s : Scp) (h : s.lim) : c18 [s.v] = some (false, .tup [.inl 3 ((okKnw (scopeI s) (constsL ⟨#[]⟩ s.objects)).map Knw.v), .bool (scopeI s)]) := ctr_eq (inj0 Scp.v_inj _) s h rfl
theorem c18_ok : COK Tryz.prog (18, c18) := ctr_ok fun s h => f18_ok s h
theorem f41_ok (s : Scp) (m : ByteArray) (h16 : s.objects.length ≤ 16) : FunOK Tryz.prog 41 [s.v, .str m] false (.inl 3 ((constsL m s.objects).map Knw.v)) := by
  refine fun_ok (mkE_ok zmix (cl := []) (gl := []) [] trivial trivial) Tryz.func41 (by kernel_rfl) ?_
  refine FunW_run _ _ rfl rfl ?_
  have r1 : ∀ k, k ≤ 100 → room ⟨3, true, 40, .agg [.str ⟨#[]⟩, .str ⟨#[]⟩, .int .i64 0]⟩ k := fun k hk => by simp [room]; omega
  simp
  refine lp_list s.objects (fun i t => t.e 1 = .str m ∧ t.e 9 = .lst (s.objects.map Obj.v) ∧ t.e 10 = .int .i64 s.objects.length ∧ t.e 11 = .int .i64 i ∧ hasR t (t.e 5) 3 ((constsL m (s.objects.take i)).map Knw.v)) ?_ ?_ ?_
  · simp [constsL]
  · rintro c' L hL i t o hx hi ih ⟨g1, g11, g12, g13, ⟨r, g4, hlt, hR⟩⟩
    have hw : IntKind.i64.wrap ((i : Int) + 1) = ((i + 1 : Nat) : Int) := wrap64 (by omega) (by omega)
    have n1 : ¬ r = t.nt := by omega
    have n2 : ¬ r = t.nt + 1 := by omega
    have hle : (constsL m (s.objects.take i)).length ≤ s.objects.length := by rw [constsL, List.length_map]; exact filter_take_le _ _ _
    have hsucc := constsL_succ (m := m) hx
    generalize constsL m (s.objects.take i) = q at hR hle hsucc
    have r3 := r1 (q.length + 1) (by omega)
    have r2 := r1 1 (by omega)
    by_cases hm : o.kind = 1
    · simp [-getElem?_pos, List.getElem?_cons_zero, List.getElem?_cons_succ, g1, g11, g12, g13, g4, hR, hL, hi, hx, hm, n1, n2, r2, r3]
      refine ih _ ?_
      simp [g1, g11, g12, g13, hw, hsucc, hm, n1, n2]
    · simp [-getElem?_pos, List.getElem?_cons_zero, List.getElem?_cons_succ, g1, g11, g12, g13, g4, hR, hL, hi, hx, hm, n1, n2]
      refine ih _ ?_
      simp [g1, g11, g12, g13, g4, hR, hw, hsucc, hm, n1, n2]
      omega
  · rintro c' t ⟨g1, g11, g12, g13, ⟨r, g4, hlt, hR⟩⟩
    rw [List.take_length] at hR
    simp [g1, g11, g12, g13, g4, hR]
noncomputable def c41 := ctr (fun a : Scp × ByteArray => a.1.objects.length ≤ 16) (fun a => [a.1.v, .str a.2]) (fun a => (false, .inl 3 ((constsL a.2 a.1.objects).map Knw.v)))
theorem c41_eq (s : Scp) (m : ByteArray) (h : s.objects.length ≤ 16) : c41 [s.v, .str m] = some (false, .inl 3 ((constsL m s.objects).map Knw.v)) := ctr_eq (inj48 _) (s, m) h rfl
theorem c41_ok : COK Tryz.prog (41, c41) := ctr_ok fun a h => f41_ok a.1 a.2 h
theorem f17_ok (s : Scp) (hl : s.lim) : FunOK Tryz.prog 17 [s.v] false (.tup [.inl 3 ((okKnw (scopeI s) (constsL ⟨#[]⟩ s.objects)).map Knw.v), .bool (scopeI s)]) := by
  refine fun_ok (mkE_ok zmix (cl := [(26, c26), (41, c41)]) (gl := []) [] ⟨c26_ok, c41_ok⟩ trivial) Tryz.func17 (by kernel_rfl) ?_
  refine FunW_run _ _ rfl rfl ?_
  have e26 := c26_eq s hl
  simp only [Scp.v] at e26
  cases hs : scopeI s
  · rw [hs] at e26
    simp [e26, okKnw]
  · rw [hs] at e26
    have e41 := c41_eq s ⟨#[]⟩ (scopeI_len hs).2.1
    simp only [Scp.v] at e41
    simp [e26, e41, okKnw]
noncomputable def c17 := ctr (fun s : Scp => s.lim) (fun s => [s.v]) (fun s => (false, .tup [.inl 3 ((okKnw (scopeI s) (constsL ⟨#[]⟩ s.objects)).map Knw.v), .bool (scopeI s)]))
theorem c17_eq (s : Scp) (h : s.lim) : c17 [s.v] = some (false, .tup [.inl 3 ((okKnw (scopeI s) (constsL ⟨#[]⟩ s.objects)).map Knw.v), .bool (scopeI s)]) := ctr_eq (inj0 Scp.v_inj _) s h rfl
theorem c17_ok : COK Tryz.prog (17, c17) := ctr_ok fun s h => f17_ok s h
theorem consts_lim {s : Scp} (h : s.lim) (b : Bool) : limL Knw.lim (okKnw b (constsL ⟨#[]⟩ s.objects)) := by
  unfold okKnw
  split
  · refine ⟨?_, fun x hx => ?_⟩
    · rw [constsL, List.length_map]
      exact Nat.le_trans (List.length_filter_le _ _) h.2.2.2.1.1
    · rw [constsL] at hx
      obtain ⟨o, ho, rfl⟩ := List.mem_map.1 hx
      exact ⟨by simp [lim, ByteArray.size], (h.2.2.2.1.2 o (List.mem_filter.1 ho).1).1⟩
  · exact ⟨Nat.zero_le _, fun _ h => (by cases h)⟩
theorem f5_ok (s : Scp) (hl : s.lim) : FunOK Tryz.prog 5 [s.v] false (.bool true) := by
  refine fun_ok (mkE_ok zmix (cl := [(6, c6), (8, c8), (17, c17), (18, c18), (19, c19), (11, c11), (21, c21)]) (gl := [(12, [true], c12), (20, [true], c20)]) [(10, [(0, false), (1, false), (2, true), (3, true), (4, false)])] ⟨c6_ok, c8_ok, c17_ok, c18_ok, c19_ok, c11_ok, c21_ok⟩ ⟨c12_ok, c20_ok⟩) Tryz.func5 (by kernel_rfl) ?_
  refine FunW_run _ _ rfl rfl ?_
  have e6 := c6_eq s 1048576 hl (by omega) (by omega)
  simp only [Scp.v] at e6
  by_cases hz : ¬ (s.sz : Int) ≤ 1048576
  · rw [szR_lt (by omega)] at e6
    simp [e6]
  have hz : s.sz ≤ 1048576 := by omega
  rw [szR_ge (by omega)] at e6
  have h0 : ¬ (1048576 : Int) < s.sz := by omega
  have e8 := c8_eq s.name s.imports s.types s.objects s.uses hz
  have e7 := c17_eq s hl
  have e9 := c18_eq s hl
  simp only [Scp.v] at e7 e9
  have e10 := c19_eq _ (consts_lim hl (scopeI s))
  have e11 := c11_eq s hl
  simp only [Scp.v] at e11
  have hc := Scp.cnts hz
  have hln := Scp.lens hz
  have e12 := c12_eq s 1 (by omega) (by omega) ⟨by omega, ⟨by omega, fun y hy => by have := hln.2.1.2 y hy; omega⟩, ⟨by omega, fun y hy => by have := hln.2.2.1.2 y hy; omega⟩, by omega⟩
  simp only [Scp.o] at e12
  have hn : (okKnw (scopeI s) (constsL ⟨#[]⟩ s.objects)).length ≤ 1048576 := by
    unfold okKnw
    split
    · rw [constsL, List.length_map]
      exact Nat.le_trans (List.length_filter_le _ _) hln.2.2.1.1
    · simp
  generalize okKnw (scopeI s) (constsL ⟨#[]⟩ s.objects) = names at *
  have hcn : cnt cKnw names ≤ 3145728 := by have := cnt_const (c := cKnw) (m := 3) (fun _ => rfl) names; omega
  have e13 := c20_eq names 1 (by omega) (by omega) (by omega)
  have e14 := c21_eq names 1 (by omega) (by omega) (by omega)
  simp [e6, h0, e8, e7, e9, e10, e11, e12, e13, e14, pureOp, S.see, seeL, S.after, flatC]
  omega
end Go.TM.Tryz
end
section
set_option maxHeartbeats 2000000
set_option linter.unusedSimpArgs false
set_option linter.unusedVariables false
namespace Go.Proofs.YtlgenbdhcdhobaaGreat
open Go Go.ChangeShapes Go.WideShapes Go.ChangeAt Go.RowKit Go.TM Go.TM.Tryz
theorem own : ownKnob Tryz.prog.godebug = none := by kernel_rfl
theorem laidOut : laidOutB Tryz.prog = true := by kernel_rfl
theorem scope_value {P : Program} {W : World} {base : Nat} {t : TypeId} {fs : Array Go.Field} {v : Value} (ht : P.underlying t = some (.struct fs)) (h : Value.okWide P W .any base t v) : ∃ cs, v = .agg cs := by
  simp only [Value.okWide, ht] at h
  obtain ⟨cs, rfl, _⟩ := h
  exact ⟨cs, rfl⟩
theorem scp_ad (s : Scp) : adCs [s.v] S.zero = ([s.v], S.zero) := by rfl
set_option maxRecDepth 100000 in
theorem fnExactConstsOf_lifted (os : Os) (started : os.Started) (H : Type) (enc : TypeId × Value → H) :
    ReturnsInHanded {} Tryz.checked os 5 .any (Rows.fnExactConstsOfSpec.pre6 enc Tryz.prog Tryz.f5 Rows.fnExactConstsOfRow.domain false) (Rows.fnExactConstsOfSpec.post enc Tryz.prog Tryz.f5 false true false false) := by
  refine returnsInHanded_of_change (C := Tryz.checked) own started (by kernel_rfl) Tryz.func5
    (ChangeSpec.witness6 (enc := enc) (C := Tryz.checked) false ⟨#[], #[.agg #[.string ⟨#[]⟩, .slice none 0 0, .slice none 0 0, .slice none 0 0, .slice none 0 0]], []⟩ 8 (by kernel_rfl) (by kernel_rfl) (by kernel_rfl) (by kernel_rfl)) ?_
  intro W base args ds gs before hval0 hW _ _
  have hval : ∀ (j : Nat) t v, Tryz.f5.params[j]? = some t → args[j]? = some v → Value.okWide Tryz.prog W .any base t v := hval0
  have hW' := hW
  obtain ⟨p, q, hA0, hV, rfl, hfz, hnd⟩ := hW
  have hA : DataW.TrodAll enc Tryz.prog W 0 (fun _ => true) true Tryz.f5.params.toList args.toList ds p := hA0
  rw [Tryz.params5] at hA hval
  obtain ⟨v0, d0, rfl, rfl, h0⟩ := trodAll_one hA
  obtain ⟨rfl, rfl⟩ := trodVars_none hV
  obtain ⟨cs, rfl⟩ := scope_value Tryz.underlying27 (hval 0 27 v0 rfl rfl)
  clear hA0 hval0
  simp only [List.append_nil] at hW'
  have hlt : ∀ x ∈ p, x.block < W.heap.size := fun x hx => by simpa using hW'.lt x hx
  obtain ⟨fuel, hf⟩ := h0
  have hf' := hf
  obtain ⟨s, hl, hs⟩ := rd_Scp _ _ _ hf'
  have hsr : SR1 (mem1 W) W s.v (.agg cs) := by
    have := sr1_of_all (W := W) (xs := leaves s.v) rfl hs
    simpa [Value.cells] using this
  refine (run_true (f5_ok s hl) (scp_ad s) (vs := [.agg cs]) ⟨hsr, trivial⟩).mono fun e W' ⟨he, hb⟩ => ?_
  subst he
  have harg : DataW.Trod enc Tryz.prog W' 0 (fun b => decide (b < W.heap.size)) true 27 (.agg cs) d0 p :=
    Below.trod laidOut (by kernel_rfl) (of_decide_eq_true (by kernel_rfl)) ⟨fuel, hf⟩ hb hlt
  exact ⟨_, rfl, _, _, _, [], _, [], hW', trodAll_mk1 (shut_bool Tryz.underlying4 _), trodAll_mk1 harg, rfl, hb.frame _, fun h => by cases h⟩
theorem fnExactConstsOf_holds : Rows.FnExactConstsOfSaid :=
  OpenClaim.holds_of_wide 5 Tryz.f5 rfl rfl rfl rfl rfl rfl rfl ⟨rfl, rfl, rfl, rfl, rfl⟩ rfl rfl rfl rfl rfl (by kernel_rfl) Tryz.func5 (by kernel_rfl)
    (of_decide_eq_true (by kernel_rfl)) (by unfold Func.isWrapper; first | (rw [if_pos (by decide +kernel)]; kernel_rfl) | (rw [if_neg (by decide +kernel)]; exact ⟨rfl, rfl⟩))
    (fun os started H enc _ => fnExactConstsOf_lifted os started H enc)

end Go.Proofs.YtlgenbdhcdhobaaGreat
end
