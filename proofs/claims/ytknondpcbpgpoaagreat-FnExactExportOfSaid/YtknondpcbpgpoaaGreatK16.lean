/- A part of the proof: HH, HI, B1. -/
import Derived.Test.YtknondpcbpgpoaaGreatK15
set_option linter.unusedVariables false
set_option linter.unusedSimpArgs false
section
set_option maxHeartbeats 8000000
set_option maxRecDepth 20000
set_option linter.unusedSimpArgs false
set_option linter.unusedVariables false
namespace Go.TM
theorem cnt_max {α : Type} {c : α → Nat} {m : Nat} {xs : List α} (h : ∀ x ∈ xs, c x ≤ m) : cnt c xs ≤ m * xs.length := by
  induction xs with
  | nil => simp [cnt]
  | cons x xs ih =>
    have h1 := h x (by simp)
    have h2 := ih fun y hy => h y (by simp [hy])
    simp only [cnt, List.map_cons, List.sum_cons, List.length_cons] at *
    rw [Nat.mul_succ]
    omega
theorem cnt_le {α : Type} {c f : α → Nat} (h : ∀ x, c x ≤ 8 + 8 * f x) (xs : List α) : cnt c xs ≤ 8 * szL f xs := by
  induction xs with
  | nil => simp [cnt, szL]
  | cons x xs ih =>
    have := h x
    simp only [cnt, szL, List.map_cons, List.sum_cons, List.length_cons] at *
    omega
theorem cTy_le (x : Ty) : cTy x ≤ 8 + 8 * x.sz := by
  have := cnt_le (c := cFld) (f := Fld.sz) (fun y => by simp [cFld]; omega) x.fields
  simp only [cTy, Ty.sz]
  omega
theorem cObj_le (x : Obj) : cObj x ≤ 8 + 8 * x.sz := by
  have := cnt_le (c := cPar) (f := Par.sz) (fun y => by simp [cPar]; omega) x.params
  simp only [cObj, Obj.sz]
  omega
theorem Scp.cnts {x : Scp} (h : x.sz ≤ 1048576) : cnt cStr x.imports + cnt cTy x.types + cnt cObj x.objects + cnt cUse x.uses ≤ 8388608 := by
  have h1 := cnt_le (c := cStr) (f := ByteArray.size) (fun y => by simp [cStr]; omega) x.imports
  have h2 := cnt_le (c := cTy) (f := Ty.sz) cTy_le x.types
  have h3 := cnt_le (c := cObj) (f := Obj.sz) cObj_le x.objects
  have h4 := cnt_le (c := cUse) (f := Use.sz) (fun y => by simp [cUse]; omega) x.uses
  simp only [Scp.sz] at h
  omega
theorem Scp.lens {x : Scp} (h : x.sz ≤ 1048576) : x.imports.length ≤ 1048576 ∧ (x.types.length ≤ 1048576 ∧ ∀ y ∈ x.types, y.fields.length ≤ 1048576) ∧ (x.objects.length ≤ 1048576 ∧ ∀ y ∈ x.objects, y.params.length ≤ 1048576) ∧ x.uses.length ≤ 1048576 := by
  have h1 := szL_len ByteArray.size x.imports
  have h2 := szL_len Ty.sz x.types
  have h3 := szL_len Obj.sz x.objects
  have h4 := szL_len Use.sz x.uses
  simp only [Scp.sz] at h
  refine ⟨by omega, ⟨by omega, fun y hy => ?_⟩, ⟨by omega, fun y hy => ?_⟩, by omega⟩
  · have a := szL_mem (f := Ty.sz) hy
    have b := szL_len Fld.sz y.fields
    simp only [Ty.sz] at a
    omega
  · have a := szL_mem (f := Obj.sz) hy
    have b := szL_len Par.sz y.params
    simp only [Obj.sz] at a
    omega
end Go.TM
namespace Go.TM.Tryz
open Go Go.TM Go.Proofs
theorem renTs_mem {l : List Ty} {O e : List Int} {t : Ty} (h : t ∈ renTs l O e) : ∃ ty ∈ l, t = renT O ty := by
  simp only [renTs, List.mem_filterMap] at h
  obtain ⟨n, hn, h2⟩ := h
  cases hl : l[n.toNat]? with
  | none => simp [hl] at h2
  | some ty =>
    simp only [hl, Option.map_some, Option.some.injEq] at h2
    exact ⟨ty, List.mem_of_getElem? hl, h2.symm⟩
theorem ordO_len {s : Scp} (hs : ExRef s) : (ordO s).length ≤ 24 := by
  have hl3 := hs.t3
  have hord0 : OrdOK s.types.length [0, 1, 2] := ⟨by decide, by simp; omega⟩
  have hok := objsW_ok (m := s.types.length + 1) (fun o n ho hm hn => tk_ok hs.ty _ o n ho hm hn) s.objects [0, 1, 2] hs.ob hord0 (by omega)
  have := hok.ok.len
  exact Nat.le_trans this hs.t24
structure ExLen (x : Scp) : Prop where
  im : x.imports = []
  us : x.uses = []
  ty : x.types.length ≤ 24
  fl : ∀ t ∈ x.types, t.fields.length ≤ 6
  ob : x.objects.length ≤ 16
  pa : ∀ o ∈ x.objects, o.params.length ≤ 4
theorem exR_len (s : Scp) : ExLen (exR s) := by
  unfold exR
  split
  · rename_i h
    have hs := scopeI_ex h
    refine ⟨rfl, rfl, Nat.le_trans (renTs_len _ _ _) (ordO_len hs), fun t ht => ?_, ?_, fun o ho => ?_⟩
    · obtain ⟨ty, hty, rfl⟩ := renTs_mem ht
      simp only [renT, List.length_map]
      exact hs.f6 ty hty
    · simp only [exS, List.length_map]
      exact Nat.le_trans (List.length_filter_le _ _) hs.o16
    · obtain ⟨x, hx, rfl⟩ := List.mem_map.1 ho
      simp only [renO, List.length_map]
      exact hs.p4 x (List.mem_filter.1 hx).1
  · exact ⟨rfl, rfl, by simp [noS], by simp [noS], by simp [noS], by simp [noS]⟩
theorem lim24 {n : Nat} (h : n ≤ 24) : n ≤ lim := by simp only [lim]; omega
theorem exR_lim {s : Scp} (hl : s.lim) : (exR s).lim := by
  have hn := exR_len s
  unfold exR at hn ⊢
  split at hn
  · rename_i h
    rw [if_pos h]
    refine ⟨hl.1, ⟨by simp [exS, lim], by simp [exS]⟩, ⟨lim24 hn.ty, fun t ht => ?_⟩, ⟨lim24 (by have := hn.ob; omega), fun o ho => ?_⟩, ⟨by simp [exS, lim], by simp [exS]⟩⟩
    · obtain ⟨ty, hty, rfl⟩ := renTs_mem ht
      obtain ⟨h1, h2, h3⟩ := hl.2.2.1.2 ty hty
      refine ⟨⟨by simpa [renT] using h1.1, fun x hx => ?_⟩, h2, h3⟩
      simp only [renT] at hx
      obtain ⟨y, hy, rfl⟩ := List.mem_map.1 hx
      have := h1.2 y hy
      simp only [Fld.lim, renF] at this ⊢
      split
      · simp [lim, ba_nil_size]
      · exact this
    · obtain ⟨x, hx, rfl⟩ := List.mem_map.1 ho
      obtain ⟨h1, h2⟩ := hl.2.2.2.1.2 x (List.mem_filter.1 hx).1
      refine ⟨h1, ⟨by simpa [renO] using h2.1, fun y hy => ?_⟩⟩
      simp only [renO] at hy
      obtain ⟨z, hz, rfl⟩ := List.mem_map.1 hy
      exact h2.2 z hz
  · rename_i h
    rw [if_neg h]
    simp [noS, Scp.lim, limL, lim, ba_nil_size]
noncomputable def c13 := ctr (fun s : Scp => s.lim) (fun s => [s.v]) (fun s => (false, .tup [(exR s).o, .bool (scopeI s)]))
theorem c13_eq (s : Scp) (h : s.lim) : c13 [s.v] = some (false, .tup [(exR s).o, .bool (scopeI s)]) := ctr_eq (inj0 Scp.v_inj _) s h rfl
theorem c13_ok : COK Tryz.prog (13, c13) := ctr_ok fun s h => f13_ok s h
noncomputable def c15 := ctr (fun s : Scp => s.lim) (fun s => [s.v]) (fun s => (false, .tup [(exR s).o, .bool (scopeI s)]))
theorem c15_eq (s : Scp) (h : s.lim) : c15 [s.v] = some (false, .tup [(exR s).o, .bool (scopeI s)]) := ctr_eq (inj0 Scp.v_inj _) s h rfl
theorem c15_ok : COK Tryz.prog (15, c15) := ctr_ok fun s h => f15_ok s h
theorem f3_ok (s : Scp) (hl : s.lim) : FunOK Tryz.prog 3 [s.v] false (.bool true) := by
  refine fun_ok (mkE_ok zmix (cl := [(12, c12), (14, c14), (13, c13), (15, c15), (16, c16), (18, c18)]) (gl := [(17, [true], c17)]) [(10, [(0, false), (1, false), (2, true), (3, true), (4, false)])] ⟨c12_ok, c14_ok, c13_ok, c15_ok, c16_ok, c18_ok⟩ c17_ok) Tryz.func3 (by kernel_rfl) ?_
  refine FunW_run _ _ rfl rfl ?_
  have e12 := c12_eq s 1048576 hl (by omega) (by omega)
  simp only [Scp.v] at e12
  by_cases hz : ¬ (s.sz : Int) ≤ 1048576
  · rw [szR_lt (by omega)] at e12
    simp [e12]
  have hz : s.sz ≤ 1048576 := by omega
  rw [szR_ge (by omega)] at e12
  have h0 : ¬ (1048576 : Int) < s.sz := by omega
  have e14 := c14_eq s.name s.imports s.types s.objects s.uses hz
  have e13 := c13_eq s hl
  have e15 := c15_eq s hl
  simp only [Scp.v, Scp.o] at e13 e15
  have e16 := c16_eq s hl
  have e16x := c16_eq _ (exR_lim hl)
  simp only [Scp.v] at e16 e16x
  have hc := Scp.cnts hz
  have hln := Scp.lens hz
  have e17 := c17_eq s 1 (by omega) (by omega) ⟨by omega, ⟨by omega, fun y hy => by have := hln.2.1.2 y hy; omega⟩, ⟨by omega, fun y hy => by have := hln.2.2.1.2 y hy; omega⟩, by omega⟩
  simp only [Scp.o] at e17
  have hx := exR_len s
  generalize exR s = X at *
  have k1 : cnt cStr X.imports = 0 := by rw [hx.im]; rfl
  have k2 : cnt cUse X.uses = 0 := by rw [hx.us]; rfl
  have k3 : cnt cTy X.types ≤ 23 * X.types.length := cnt_max fun t ht => by
    have := hx.fl t ht
    have h2 := cnt_const (c := cFld) (m := 3) (fun _ => rfl) t.fields
    simp only [cTy, h2]
    omega
  have k4 : cnt cObj X.objects ≤ 17 * X.objects.length := cnt_max fun t ht => by
    have := hx.pa t ht
    have h2 := cnt_const (c := cPar) (m := 3) (fun _ => rfl) t.params
    simp only [cObj, h2]
    omega
  have k5 := hx.ty
  have k6 := hx.ob
  have cond : X.imports.length ≤ 4611686018427387904 ∧ (X.types.length ≤ 4611686018427387904 ∧ ∀ y ∈ X.types, y.fields.length ≤ 4611686018427387904) ∧ (X.objects.length ≤ 4611686018427387904 ∧ ∀ y ∈ X.objects, y.params.length ≤ 4611686018427387904) ∧ X.uses.length ≤ 4611686018427387904 :=
    ⟨by rw [hx.im]; simp, ⟨by omega, fun y hy => by have := hx.fl y hy; omega⟩, ⟨by omega, fun y hy => by have := hx.pa y hy; omega⟩, by rw [hx.us]; simp⟩
  have e17x := c17_eq X 1 (by omega) (by omega) cond
  have e18x := c18_eq X 1 (by omega) (by omega) cond
  simp only [Scp.o] at e17x
  simp only [Scp.v, mkScp] at e18x
  simp [e12, h0, e14, e13, e15, e16, e16x, e17, e17x, e18x, pureOp, S.see, seeL, S.after, flatC]
  omega
end Go.TM.Tryz
end
section
set_option maxHeartbeats 2000000
set_option linter.unusedSimpArgs false
set_option linter.unusedVariables false
namespace Go.TM.Tryz
open Go Go.TM Go.Proofs
section
variable {H : Type} {enc : TypeId × Value → H} {W : World}
theorem rd_Fld : Rd Tryz.prog W enc 235 Fld.v Fld.lim := fun fuel cs x h => by
  obtain ⟨hl, n, hf⟩ := rd_cells Tryz.underlying235 (by kernel_rfl) h
  match cs, hl with
  | [c0, c1, c2], _ =>
    obtain ⟨d0, y0, e0, h0⟩ := hf 0 _ rfl
    simp only [List.getElem?_cons_zero, List.getElem?_cons_succ, Option.some.injEq] at e0
    subst e0
    obtain ⟨a0, p0, q0⟩ := (rd_str Tryz.underlying9) _ _ _ h0
    obtain ⟨d1, y1, e1, h1⟩ := hf 1 _ rfl
    simp only [List.getElem?_cons_zero, List.getElem?_cons_succ, Option.some.injEq] at e1
    subst e1
    obtain ⟨a1, p1, q1⟩ := (rd_int Tryz.underlying3) _ _ _ h1
    obtain ⟨d2, y2, e2, h2⟩ := hf 2 _ rfl
    simp only [List.getElem?_cons_zero, List.getElem?_cons_succ, Option.some.injEq] at e2
    subst e2
    obtain ⟨a2, p2, q2⟩ := (rd_int Tryz.underlying3) _ _ _ h2
    exact ⟨⟨a0, a1, a2⟩, p0, q0.1, q1.1, q2.1, trivial⟩
theorem rd_Par : Rd Tryz.prog W enc 237 Par.v Par.lim := fun fuel cs x h => by
  obtain ⟨hl, n, hf⟩ := rd_cells Tryz.underlying237 (by kernel_rfl) h
  match cs, hl with
  | [c0, c1, c2], _ =>
    obtain ⟨d0, y0, e0, h0⟩ := hf 0 _ rfl
    simp only [List.getElem?_cons_zero, List.getElem?_cons_succ, Option.some.injEq] at e0
    subst e0
    obtain ⟨a0, p0, q0⟩ := (rd_str Tryz.underlying9) _ _ _ h0
    obtain ⟨d1, y1, e1, h1⟩ := hf 1 _ rfl
    simp only [List.getElem?_cons_zero, List.getElem?_cons_succ, Option.some.injEq] at e1
    subst e1
    obtain ⟨a1, p1, q1⟩ := (rd_bool Tryz.underlying4) _ _ _ h1
    obtain ⟨d2, y2, e2, h2⟩ := hf 2 _ rfl
    simp only [List.getElem?_cons_zero, List.getElem?_cons_succ, Option.some.injEq] at e2
    subst e2
    obtain ⟨a2, p2, q2⟩ := (rd_int Tryz.underlying3) _ _ _ h2
    exact ⟨⟨a0, a1, a2⟩, p0, q0.1, q1.1, q2.1, trivial⟩
theorem rd_Ty : Rd Tryz.prog W enc 141 Ty.v Ty.lim := fun fuel cs x h => by
  obtain ⟨hl, n, hf⟩ := rd_cells Tryz.underlying141 (by kernel_rfl) h
  match cs, hl with
  | [c0, c1, c2, c3, c4, c5], _ =>
    obtain ⟨d0, y0, e0, h0⟩ := hf 0 _ rfl
    simp only [List.getElem?_cons_zero, List.getElem?_cons_succ, Option.some.injEq] at e0
    subst e0
    obtain ⟨a0, p0, q0⟩ := (rd_int Tryz.underlying3) _ _ _ h0
    obtain ⟨d1, y1, e1, h1⟩ := hf 1 _ rfl
    simp only [List.getElem?_cons_zero, List.getElem?_cons_succ, Option.some.injEq] at e1
    subst e1
    obtain ⟨a1, p1, q1⟩ := (rd_int Tryz.underlying3) _ _ _ h1
    obtain ⟨d2, y2, e2, h2⟩ := hf 2 _ rfl
    simp only [List.getElem?_cons_zero, List.getElem?_cons_succ, Option.some.injEq] at e2
    subst e2
    obtain ⟨a2, p2, q2⟩ := (rd_int Tryz.underlying3) _ _ _ h2
    obtain ⟨d3, y3, e3, h3⟩ := hf 3 _ rfl
    simp only [List.getElem?_cons_zero, List.getElem?_cons_succ, Option.some.injEq] at e3
    subst e3
    obtain ⟨a3, p3, q3⟩ := (rd_slice Tryz.underlying139 (n := 3) (by kernel_rfl) (by omega) (fun _ => rfl) rd_Fld) _ _ _ h3
    obtain ⟨d4, y4, e4, h4⟩ := hf 4 _ rfl
    simp only [List.getElem?_cons_zero, List.getElem?_cons_succ, Option.some.injEq] at e4
    subst e4
    obtain ⟨a4, p4, q4⟩ := (rd_str Tryz.underlying9) _ _ _ h4
    obtain ⟨d5, y5, e5, h5⟩ := hf 5 _ rfl
    simp only [List.getElem?_cons_zero, List.getElem?_cons_succ, Option.some.injEq] at e5
    subst e5
    obtain ⟨a5, p5, q5⟩ := (rd_str Tryz.underlying9) _ _ _ h5
    exact ⟨⟨a0, a1, a2, a3, a4, a5⟩, ⟨p3, p4, p5⟩, q0.1, q1.1, q2.1, q3.1, q4.1, q5.1, trivial⟩
theorem rd_Obj : Rd Tryz.prog W enc 145 Obj.v Obj.lim := fun fuel cs x h => by
  obtain ⟨hl, n, hf⟩ := rd_cells Tryz.underlying145 (by kernel_rfl) h
  match cs, hl with
  | [c0, c1, c2, c3, c4, c5], _ =>
    obtain ⟨d0, y0, e0, h0⟩ := hf 0 _ rfl
    simp only [List.getElem?_cons_zero, List.getElem?_cons_succ, Option.some.injEq] at e0
    subst e0
    obtain ⟨a0, p0, q0⟩ := (rd_str Tryz.underlying9) _ _ _ h0
    obtain ⟨d1, y1, e1, h1⟩ := hf 1 _ rfl
    simp only [List.getElem?_cons_zero, List.getElem?_cons_succ, Option.some.injEq] at e1
    subst e1
    obtain ⟨a1, p1, q1⟩ := (rd_int Tryz.underlying3) _ _ _ h1
    obtain ⟨d2, y2, e2, h2⟩ := hf 2 _ rfl
    simp only [List.getElem?_cons_zero, List.getElem?_cons_succ, Option.some.injEq] at e2
    subst e2
    obtain ⟨a2, p2, q2⟩ := (rd_int Tryz.underlying3) _ _ _ h2
    obtain ⟨d3, y3, e3, h3⟩ := hf 3 _ rfl
    simp only [List.getElem?_cons_zero, List.getElem?_cons_succ, Option.some.injEq] at e3
    subst e3
    obtain ⟨a3, p3, q3⟩ := (rd_int Tryz.underlying3) _ _ _ h3
    obtain ⟨d4, y4, e4, h4⟩ := hf 4 _ rfl
    simp only [List.getElem?_cons_zero, List.getElem?_cons_succ, Option.some.injEq] at e4
    subst e4
    obtain ⟨a4, p4, q4⟩ := (rd_int Tryz.underlying3) _ _ _ h4
    obtain ⟨d5, y5, e5, h5⟩ := hf 5 _ rfl
    simp only [List.getElem?_cons_zero, List.getElem?_cons_succ, Option.some.injEq] at e5
    subst e5
    obtain ⟨a5, p5, q5⟩ := (rd_slice Tryz.underlying143 (n := 3) (by kernel_rfl) (by omega) (fun _ => rfl) rd_Par) _ _ _ h5
    exact ⟨⟨a0, a1, a2, a3, a4, a5⟩, ⟨p0, p5⟩, q0.1, q1.1, q2.1, q3.1, q4.1, q5.1, trivial⟩
theorem rd_Use : Rd Tryz.prog W enc 147 Use.v Use.lim := fun fuel cs x h => by
  obtain ⟨hl, n, hf⟩ := rd_cells Tryz.underlying147 (by kernel_rfl) h
  match cs, hl with
  | [c0, c1], _ =>
    obtain ⟨d0, y0, e0, h0⟩ := hf 0 _ rfl
    simp only [List.getElem?_cons_zero, List.getElem?_cons_succ, Option.some.injEq] at e0
    subst e0
    obtain ⟨a0, p0, q0⟩ := (rd_str Tryz.underlying9) _ _ _ h0
    obtain ⟨d1, y1, e1, h1⟩ := hf 1 _ rfl
    simp only [List.getElem?_cons_zero, List.getElem?_cons_succ, Option.some.injEq] at e1
    subst e1
    obtain ⟨a1, p1, q1⟩ := (rd_str Tryz.underlying9) _ _ _ h1
    exact ⟨⟨a0, a1⟩, ⟨p0, p1⟩, q0.1, q1.1, trivial⟩
theorem rd_Scp : Rd Tryz.prog W enc 27 Scp.v Scp.lim := fun fuel cs x h => by
  obtain ⟨hl, n, hf⟩ := rd_cells Tryz.underlying27 (by kernel_rfl) h
  match cs, hl with
  | [c0, c1, c2, c3, c4], _ =>
    obtain ⟨d0, y0, e0, h0⟩ := hf 0 _ rfl
    simp only [List.getElem?_cons_zero, List.getElem?_cons_succ, Option.some.injEq] at e0
    subst e0
    obtain ⟨a0, p0, q0⟩ := (rd_str Tryz.underlying9) _ _ _ h0
    obtain ⟨d1, y1, e1, h1⟩ := hf 1 _ rfl
    simp only [List.getElem?_cons_zero, List.getElem?_cons_succ, Option.some.injEq] at e1
    subst e1
    obtain ⟨a1, p1, q1⟩ := (rd_slice Tryz.underlying22 (n := 1) (by kernel_rfl) (by omega) (fun _ => rfl) (rd_str Tryz.underlying9)) _ _ _ h1
    obtain ⟨d2, y2, e2, h2⟩ := hf 2 _ rfl
    simp only [List.getElem?_cons_zero, List.getElem?_cons_succ, Option.some.injEq] at e2
    subst e2
    obtain ⟨a2, p2, q2⟩ := (rd_slice Tryz.underlying23 (n := 6) (by kernel_rfl) (by omega) (fun _ => rfl) rd_Ty) _ _ _ h2
    obtain ⟨d3, y3, e3, h3⟩ := hf 3 _ rfl
    simp only [List.getElem?_cons_zero, List.getElem?_cons_succ, Option.some.injEq] at e3
    subst e3
    obtain ⟨a3, p3, q3⟩ := (rd_slice Tryz.underlying24 (n := 6) (by kernel_rfl) (by omega) (fun _ => rfl) rd_Obj) _ _ _ h3
    obtain ⟨d4, y4, e4, h4⟩ := hf 4 _ rfl
    simp only [List.getElem?_cons_zero, List.getElem?_cons_succ, Option.some.injEq] at e4
    subst e4
    obtain ⟨a4, p4, q4⟩ := (rd_slice Tryz.underlying25 (n := 2) (by kernel_rfl) (by omega) (fun _ => rfl) rd_Use) _ _ _ h4
    exact ⟨⟨a0, a1, a2, a3, a4⟩, ⟨p0, p1, p2, p3, p4⟩, q0.1, q1.1, q2.1, q3.1, q4.1, trivial⟩
end
end Go.TM.Tryz
end
section
set_option linter.unusedVariables false
set_option linter.unusedSimpArgs false
namespace Go.TM
open Go Go.RowKit
theorem srl_of_fr {M : Mem} {W : World} {l : V} {u : Value} (hl : frL l = true) (h : FR W M.F (vw l) u) : SRL M W l u := by
  cases l <;> simp only [frL, Bool.false_eq_true] at hl
  · cases h; rfl
  · cases h; rfl
  · cases h; rfl
  · exact h
  · cases h; rfl
/-- At a call's beginning: all that lies there is read alone. -/
def mem1 (W : World) : Mem := ⟨Old W, fun _ => none, fun _ => 0, fun _ => undef, fun _ _ _ => undef, 0, 0⟩
theorem mem1_ok {W : World} {args : List V} (h : adCs args S.zero = (args, S.zero)) : MemOK (mem1 W) W (start args []) := by
  have hR : (start args []).R = fun _ => none := by simp only [start, h]; rfl
  have hB : (start args []).B = fun _ => none := by
    funext x
    simp [start, h, adCs]
  refine ⟨by simp only [start, h]; rfl, by simp only [start, h]; rfl, fun b c hb => ?_, fun t r hr => ?_, fun b hb => ⟨rfl, hb⟩, fun b l hl => (by cases hl), fun b t hl => (by cases hl), fun b k hl => (by cases hl)⟩
  · rw [hB] at hb; cases hb
  · rw [hR] at hr; cases hr
theorem sr1_of_all {W : World} {xs : List V} {cs : List Value} (hf : xs.all frL = true) (h : All2 (fun l u => FR W (Old W) (vw l) u) xs cs) : SR1 (mem1 W) W (.agg xs) (.agg cs.toArray) :=
  ⟨cs, rfl, h.imp_mem fun l u hl hr => srl_of_fr (M := mem1 W) (List.all_eq_true.1 hf l hl) hr⟩
theorem close_bool {M : Mem} {W : World} {s : S} {k : Nat} {sv : V} {v : Value} {b : Bool} (hr : SR2 M W sv v) (hc : closeR s k sv = .bool b) : v = .bool b := by
  cases sv with
  | bool c =>
    simp [closeR, closeB, onL1, closeL] at hc
    subst hc
    exact hr
  | tup xs => simp [closeR] at hc
  | agg xs => simp [closeR, closeB, onL1] at hc
  | ptr b' o =>
    cases o with
    | zero =>
      simp only [closeR, closeB] at hc
      split at hc
      · split at hc <;> cases hc
      · cases hc
    | succ o => simp [closeR, closeB, onL1, closeL] at hc
  | own t =>
    simp only [closeR, closeB, onL1, closeL] at hc
    split at hc <;> cases hc
  | fn f caps => cases caps <;> simp [closeR, closeB, onL1, closeL] at hc
  | _ => simp [closeR, closeB, onL1, closeL] at hc
theorem run_true {P : Program} {f : FuncId} {args : List V} (h : FunOK P f args false (.bool true)) (hs : adCs args S.zero = (args, S.zero)) {W : World} {vs : List Value} (hv : All2 (SR1 (mem1 W) W) args vs) :
    Calls P f vs.toArray W fun e W' => e = .returned (.bool true) ∧ Below W.heap.size W W' := by
  refine (h.calls (mem1 W) W vs (mem1_ok hs) (by rw [hs]; exact hv)).mono ?_
  rintro e W' ⟨v, M', s', sv, rfl, hp⟩
  rw [close_bool hp.rel hp.res]
  exact ⟨rfl, hp.evo.os, hp.evo.tape, hp.evo.output, hp.evo.size, fun k hk => hp.evo.old k hk rfl⟩
end Go.TM
end
