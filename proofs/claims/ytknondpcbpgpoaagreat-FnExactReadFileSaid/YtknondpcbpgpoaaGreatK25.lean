/- A part of the proof: ZSz, ZEq, HH. -/
import Derived.Test.YtknondpcbpgpoaaGreatK24
set_option linter.unusedVariables false
set_option linter.unusedSimpArgs false
section
set_option maxHeartbeats 2000000
namespace Go.TM.Tryz
open Go Go.TM Go.Proofs
end Go.TM.Tryz
end
section
set_option maxHeartbeats 2000000
namespace Go.TM.Tryz
open Go Go.TM Go.Proofs
theorem f49_ok (xs : List ByteArray) (hlim : limL strLim xs) : FunOK Tryz.prog 49 [.lst (xs.map V.str), .lst (xs.map V.str)] false (.bool true) := by
  refine fun_ok (mkE_ok zmix (cl := []) (gl := []) [] trivial trivial) Tryz.func49 (by kernel_rfl) ?_
  refine FunW_run _ _ rfl rfl ?_
  have hlen := hlim.1
  simp only [lim] at hlen
  simp
  refine lp_list xs (fun i t => t.e 0 = .lst (xs.map V.str) ∧ t.e 1 = .lst (xs.map V.str) ∧ t.e 5 = .int .i64 i) ?_ ?_ ?_
  · simp
  · rintro c' L hL i t x hx hi ih ⟨g0, g1, g5⟩
    have hw := wrI (i := i) (by omega)
    simp [-getElem?_pos, gcz, gcs, g0, g1, g5, hL, hx, hi]
    refine ih _ ?_
    simp [-getElem?_pos, gcz, gcs, g0, g1, g5, hL, hx, hi, hw]
  · rintro c' t ⟨g0, g1, g5⟩
    simp [g0, g1, g5]
noncomputable def c49 := ctr (fun xs : List ByteArray => limL strLim xs) (fun xs => [.lst (xs.map V.str), .lst (xs.map V.str)]) (fun _ => (false, .bool true))
theorem c49_eq (xs : List ByteArray) (h : limL strLim xs) : c49 [.lst (xs.map V.str), .lst (xs.map V.str)] = some (false, .bool true) := ctr_eq (fun _ _ _ => rfl) xs h rfl
theorem c49_ok : COK Tryz.prog (49, c49) := ctr_ok fun xs h => f49_ok xs h
theorem f228_ok (x : Fld) (h : x.lim) : FunOK Tryz.prog 228 [x.v, x.v] false (.bool true) := by
  refine fun_ok (mkE_ok zmix (cl := []) (gl := []) [] trivial trivial) Tryz.func228 (by kernel_rfl) ?_
  refine FunW_run _ _ rfl rfl ?_
  simp []
noncomputable def c228 := ctr (fun x : Fld => x.lim) (fun x => [x.v, x.v]) (fun _ => (false, .bool true))
theorem c228_eq (x : Fld) (h : x.lim) : c228 [x.v, x.v] = some (false, .bool true) := ctr_eq (fun _ _ _ => rfl) x h rfl
theorem c228_ok : COK Tryz.prog (228, c228) := ctr_ok fun x h => f228_ok x h
theorem f185_ok (xs : List Fld) (hlim : limL Fld.lim xs) : FunOK Tryz.prog 185 [.lst (xs.map Fld.v), .lst (xs.map Fld.v)] false (.bool true) := by
  refine fun_ok (mkE_ok zmix (cl := [(228, c228)]) (gl := []) [] c228_ok trivial) Tryz.func185 (by kernel_rfl) ?_
  refine FunW_run _ _ rfl rfl ?_
  have hlen := hlim.1
  simp only [lim] at hlen
  simp
  refine lp_list xs (fun i t => t.e 0 = .lst (xs.map Fld.v) ∧ t.e 1 = .lst (xs.map Fld.v) ∧ t.e 5 = .int .i64 i) ?_ ?_ ?_
  · simp
  · rintro c' L hL i t x hx hi ih ⟨g0, g1, g5⟩
    have hw := wrI (i := i) (by omega)
    have e := c228_eq x (hlim.2 x (List.mem_of_getElem? hx))
    simp only [Fld.v] at e
    simp [-getElem?_pos, gcz, gcs, g0, g1, g5, hL, hx, hi, e]
    refine ih _ ?_
    simp [-getElem?_pos, gcz, gcs, g0, g1, g5, hL, hx, hi, hw]
  · rintro c' t ⟨g0, g1, g5⟩
    simp [g0, g1, g5]
noncomputable def c185 := ctr (fun xs : List Fld => limL Fld.lim xs) (fun xs => [.lst (xs.map Fld.v), .lst (xs.map Fld.v)]) (fun _ => (false, .bool true))
theorem c185_eq (xs : List Fld) (h : limL Fld.lim xs) : c185 [.lst (xs.map Fld.v), .lst (xs.map Fld.v)] = some (false, .bool true) := ctr_eq (fun _ _ _ => rfl) xs h rfl
theorem c185_ok : COK Tryz.prog (185, c185) := ctr_ok fun xs h => f185_ok xs h
theorem f229_ok (x : Par) (h : x.lim) : FunOK Tryz.prog 229 [x.v, x.v] false (.bool true) := by
  refine fun_ok (mkE_ok zmix (cl := []) (gl := []) [] trivial trivial) Tryz.func229 (by kernel_rfl) ?_
  refine FunW_run _ _ rfl rfl ?_
  simp []
noncomputable def c229 := ctr (fun x : Par => x.lim) (fun x => [x.v, x.v]) (fun _ => (false, .bool true))
theorem c229_eq (x : Par) (h : x.lim) : c229 [x.v, x.v] = some (false, .bool true) := ctr_eq (fun _ _ _ => rfl) x h rfl
theorem c229_ok : COK Tryz.prog (229, c229) := ctr_ok fun x h => f229_ok x h
theorem f186_ok (xs : List Par) (hlim : limL Par.lim xs) : FunOK Tryz.prog 186 [.lst (xs.map Par.v), .lst (xs.map Par.v)] false (.bool true) := by
  refine fun_ok (mkE_ok zmix (cl := [(229, c229)]) (gl := []) [] c229_ok trivial) Tryz.func186 (by kernel_rfl) ?_
  refine FunW_run _ _ rfl rfl ?_
  have hlen := hlim.1
  simp only [lim] at hlen
  simp
  refine lp_list xs (fun i t => t.e 0 = .lst (xs.map Par.v) ∧ t.e 1 = .lst (xs.map Par.v) ∧ t.e 5 = .int .i64 i) ?_ ?_ ?_
  · simp
  · rintro c' L hL i t x hx hi ih ⟨g0, g1, g5⟩
    have hw := wrI (i := i) (by omega)
    have e := c229_eq x (hlim.2 x (List.mem_of_getElem? hx))
    simp only [Par.v] at e
    simp [-getElem?_pos, gcz, gcs, g0, g1, g5, hL, hx, hi, e]
    refine ih _ ?_
    simp [-getElem?_pos, gcz, gcs, g0, g1, g5, hL, hx, hi, hw]
  · rintro c' t ⟨g0, g1, g5⟩
    simp [g0, g1, g5]
noncomputable def c186 := ctr (fun xs : List Par => limL Par.lim xs) (fun xs => [.lst (xs.map Par.v), .lst (xs.map Par.v)]) (fun _ => (false, .bool true))
theorem c186_eq (xs : List Par) (h : limL Par.lim xs) : c186 [.lst (xs.map Par.v), .lst (xs.map Par.v)] = some (false, .bool true) := ctr_eq (fun _ _ _ => rfl) xs h rfl
theorem c186_ok : COK Tryz.prog (186, c186) := ctr_ok fun xs h => f186_ok xs h
theorem f104_ok (x : Use) (h : x.lim) : FunOK Tryz.prog 104 [x.v, x.v] false (.bool true) := by
  refine fun_ok (mkE_ok zmix (cl := []) (gl := []) [] trivial trivial) Tryz.func104 (by kernel_rfl) ?_
  refine FunW_run _ _ rfl rfl ?_
  simp []
noncomputable def c104 := ctr (fun x : Use => x.lim) (fun x => [x.v, x.v]) (fun _ => (false, .bool true))
theorem c104_eq (x : Use) (h : x.lim) : c104 [x.v, x.v] = some (false, .bool true) := ctr_eq (fun _ _ _ => rfl) x h rfl
theorem c104_ok : COK Tryz.prog (104, c104) := ctr_ok fun x h => f104_ok x h
theorem f44_ok (xs : List Use) (hlim : limL Use.lim xs) : FunOK Tryz.prog 44 [.lst (xs.map Use.v), .lst (xs.map Use.v)] false (.bool true) := by
  refine fun_ok (mkE_ok zmix (cl := [(104, c104)]) (gl := []) [] c104_ok trivial) Tryz.func44 (by kernel_rfl) ?_
  refine FunW_run _ _ rfl rfl ?_
  have hlen := hlim.1
  simp only [lim] at hlen
  simp
  refine lp_list xs (fun i t => t.e 0 = .lst (xs.map Use.v) ∧ t.e 1 = .lst (xs.map Use.v) ∧ t.e 5 = .int .i64 i) ?_ ?_ ?_
  · simp
  · rintro c' L hL i t x hx hi ih ⟨g0, g1, g5⟩
    have hw := wrI (i := i) (by omega)
    have e := c104_eq x (hlim.2 x (List.mem_of_getElem? hx))
    simp only [Use.v] at e
    simp [-getElem?_pos, gcz, gcs, g0, g1, g5, hL, hx, hi, e]
    refine ih _ ?_
    simp [-getElem?_pos, gcz, gcs, g0, g1, g5, hL, hx, hi, hw]
  · rintro c' t ⟨g0, g1, g5⟩
    simp [g0, g1, g5]
noncomputable def c44 := ctr (fun xs : List Use => limL Use.lim xs) (fun xs => [.lst (xs.map Use.v), .lst (xs.map Use.v)]) (fun _ => (false, .bool true))
theorem c44_eq (xs : List Use) (h : limL Use.lim xs) : c44 [.lst (xs.map Use.v), .lst (xs.map Use.v)] = some (false, .bool true) := ctr_eq (fun _ _ _ => rfl) xs h rfl
theorem c44_ok : COK Tryz.prog (44, c44) := ctr_ok fun xs h => f44_ok xs h
theorem f134_ok (x : Ty) (h : x.lim) : FunOK Tryz.prog 134 [x.v, x.v] false (.bool true) := by
  refine fun_ok (mkE_ok zmix (cl := [(185, c185)]) (gl := []) [] c185_ok trivial) Tryz.func134 (by kernel_rfl) ?_
  refine FunW_run _ _ rfl rfl ?_
  simp only [Ty.lim] at h
  obtain ⟨l0, l1, l2⟩ := h
  have e0 := c185_eq x.fields l0
  simp [e0]
noncomputable def c134 := ctr (fun x : Ty => x.lim) (fun x => [x.v, x.v]) (fun _ => (false, .bool true))
theorem c134_eq (x : Ty) (h : x.lim) : c134 [x.v, x.v] = some (false, .bool true) := ctr_eq (fun _ _ _ => rfl) x h rfl
theorem c134_ok : COK Tryz.prog (134, c134) := ctr_ok fun x h => f134_ok x h
theorem f68_ok (xs : List Ty) (hlim : limL Ty.lim xs) : FunOK Tryz.prog 68 [.lst (xs.map Ty.v), .lst (xs.map Ty.v)] false (.bool true) := by
  refine fun_ok (mkE_ok zmix (cl := [(134, c134)]) (gl := []) [] c134_ok trivial) Tryz.func68 (by kernel_rfl) ?_
  refine FunW_run _ _ rfl rfl ?_
  have hlen := hlim.1
  simp only [lim] at hlen
  simp
  refine lp_list xs (fun i t => t.e 0 = .lst (xs.map Ty.v) ∧ t.e 1 = .lst (xs.map Ty.v) ∧ t.e 5 = .int .i64 i) ?_ ?_ ?_
  · simp
  · rintro c' L hL i t x hx hi ih ⟨g0, g1, g5⟩
    have hw := wrI (i := i) (by omega)
    have e := c134_eq x (hlim.2 x (List.mem_of_getElem? hx))
    simp only [Ty.v] at e
    simp [-getElem?_pos, gcz, gcs, g0, g1, g5, hL, hx, hi, e]
    refine ih _ ?_
    simp [-getElem?_pos, gcz, gcs, g0, g1, g5, hL, hx, hi, hw]
  · rintro c' t ⟨g0, g1, g5⟩
    simp [g0, g1, g5]
noncomputable def c68 := ctr (fun xs : List Ty => limL Ty.lim xs) (fun xs => [.lst (xs.map Ty.v), .lst (xs.map Ty.v)]) (fun _ => (false, .bool true))
theorem c68_eq (xs : List Ty) (h : limL Ty.lim xs) : c68 [.lst (xs.map Ty.v), .lst (xs.map Ty.v)] = some (false, .bool true) := ctr_eq (fun _ _ _ => rfl) xs h rfl
theorem c68_ok : COK Tryz.prog (68, c68) := ctr_ok fun xs h => f68_ok xs h
theorem f135_ok (x : Obj) (h : x.lim) : FunOK Tryz.prog 135 [x.v, x.v] false (.bool true) := by
  refine fun_ok (mkE_ok zmix (cl := [(186, c186)]) (gl := []) [] c186_ok trivial) Tryz.func135 (by kernel_rfl) ?_
  refine FunW_run _ _ rfl rfl ?_
  simp only [Obj.lim] at h
  obtain ⟨l0, l1⟩ := h
  have e1 := c186_eq x.params l1
  simp [e1]
noncomputable def c135 := ctr (fun x : Obj => x.lim) (fun x => [x.v, x.v]) (fun _ => (false, .bool true))
theorem c135_eq (x : Obj) (h : x.lim) : c135 [x.v, x.v] = some (false, .bool true) := ctr_eq (fun _ _ _ => rfl) x h rfl
theorem c135_ok : COK Tryz.prog (135, c135) := ctr_ok fun x h => f135_ok x h
theorem f69_ok (xs : List Obj) (hlim : limL Obj.lim xs) : FunOK Tryz.prog 69 [.lst (xs.map Obj.v), .lst (xs.map Obj.v)] false (.bool true) := by
  refine fun_ok (mkE_ok zmix (cl := [(135, c135)]) (gl := []) [] c135_ok trivial) Tryz.func69 (by kernel_rfl) ?_
  refine FunW_run _ _ rfl rfl ?_
  have hlen := hlim.1
  simp only [lim] at hlen
  simp
  refine lp_list xs (fun i t => t.e 0 = .lst (xs.map Obj.v) ∧ t.e 1 = .lst (xs.map Obj.v) ∧ t.e 5 = .int .i64 i) ?_ ?_ ?_
  · simp
  · rintro c' L hL i t x hx hi ih ⟨g0, g1, g5⟩
    have hw := wrI (i := i) (by omega)
    have e := c135_eq x (hlim.2 x (List.mem_of_getElem? hx))
    simp only [Obj.v] at e
    simp [-getElem?_pos, gcz, gcs, g0, g1, g5, hL, hx, hi, e]
    refine ih _ ?_
    simp [-getElem?_pos, gcz, gcs, g0, g1, g5, hL, hx, hi, hw]
  · rintro c' t ⟨g0, g1, g5⟩
    simp [g0, g1, g5]
noncomputable def c69 := ctr (fun xs : List Obj => limL Obj.lim xs) (fun xs => [.lst (xs.map Obj.v), .lst (xs.map Obj.v)]) (fun _ => (false, .bool true))
theorem c69_eq (xs : List Obj) (h : limL Obj.lim xs) : c69 [.lst (xs.map Obj.v), .lst (xs.map Obj.v)] = some (false, .bool true) := ctr_eq (fun _ _ _ => rfl) xs h rfl
theorem c69_ok : COK Tryz.prog (69, c69) := ctr_ok fun xs h => f69_ok xs h
theorem f16_ok (x : Scp) (h : x.lim) : FunOK Tryz.prog 16 [x.v, x.v] false (.bool true) := by
  refine fun_ok (mkE_ok zmix (cl := [(44, c44), (49, c49), (68, c68), (69, c69)]) (gl := []) [] ⟨c44_ok, c49_ok, c68_ok, c69_ok⟩ trivial) Tryz.func16 (by kernel_rfl) ?_
  refine FunW_run _ _ rfl rfl ?_
  simp only [Scp.lim] at h
  obtain ⟨l0, l1, l2, l3, l4⟩ := h
  have e1 := c49_eq x.imports l1
  have e2 := c68_eq x.types l2
  have e3 := c69_eq x.objects l3
  have e4 := c44_eq x.uses l4
  simp [e1, e2, e3, e4]
noncomputable def c16 := ctr (fun x : Scp => x.lim) (fun x => [x.v, x.v]) (fun _ => (false, .bool true))
theorem c16_eq (x : Scp) (h : x.lim) : c16 [x.v, x.v] = some (false, .bool true) := ctr_eq (fun _ _ _ => rfl) x h rfl
theorem c16_ok : COK Tryz.prog (16, c16) := ctr_ok fun x h => f16_ok x h
end Go.TM.Tryz
end
section
set_option maxHeartbeats 8000000
set_option maxRecDepth 20000
namespace Go.TM
theorem cnt_max {α : Type} {c : α → Nat} {m : Nat} {xs : List α} (h : ∀ x ∈ xs, c x ≤ m) : cnt c xs ≤ m * xs.length := by
  induction xs with
  | nil => simp [cnt]
  | cons x xs ih =>
    have h1 := h x (by simp)
    have h2 := ih fun y hy => h y (by simp [hy])
    simp only [cnt, List.map_cons, List.sum_cons, List.length_cons] at *
    rw [Nat.mul_succ]
    omega
end Go.TM
namespace Go.TM.Tryz
open Go Go.TM Go.Proofs
structure ExLen (x : Scp) : Prop where
  im : x.imports = []
  us : x.uses = []
  ty : x.types.length ≤ 24
  fl : ∀ t ∈ x.types, t.fields.length ≤ 6
  ob : x.objects.length ≤ 16
  pa : ∀ o ∈ x.objects, o.params.length ≤ 4
end Go.TM.Tryz
end
