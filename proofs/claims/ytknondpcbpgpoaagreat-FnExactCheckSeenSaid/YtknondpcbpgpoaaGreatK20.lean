/- A part of the proof: ZSz, ZEq, ZsM, IS. -/
import Derived.Test.YtknondpcbpgpoaaGreatK19
set_option linter.unusedVariables false
set_option linter.unusedSimpArgs false
section
set_option maxHeartbeats 2000000
namespace Go.TM.Tryz
open Go Go.TM Go.Proofs
theorem f56_ok (xs : List ByteArray) (left : Int) (hlim : limL strLim xs) (hl0 : 0 ≤ left) (hl1 : left ≤ 1048576) : FunOK Tryz.prog 56 [.lst (xs.map V.str), .int .i64 left] false (.int .i64 (szR (szL ByteArray.size xs) left)) := by
  refine fun_ok (mkE_ok zmix (cl := []) (gl := []) [] trivial trivial) Tryz.func56 (by kernel_rfl) ?_
  refine FunW_run _ _ rfl rfl ?_
  have hlen := hlim.1
  simp only [lim] at hlen
  have hl := szL_len ByteArray.size xs
  have w0 : IntKind.i64.wrap (left - (xs.length : Int)) = left - xs.length := wrap64 (by omega) (by omega)
  by_cases a0 : left < xs.length
  · have b0 : left - (xs.length : Int) < 0 := by omega
    have r : szR (szL ByteArray.size xs) left = -1 := szR_lt (by omega)
    simp [w0, b0, r]
  have b0 : ¬ left - (xs.length : Int) < 0 := by omega
  simp [w0, b0]
  refine lp_list xs (fun i t => t.e 0 = .lst (xs.map V.str) ∧ t.e 5 = .int .i64 i ∧ t.e 1 = .int .i64 (left - xs.length - pre ByteArray.size xs i) ∧ 0 ≤ left - xs.length - pre ByteArray.size xs i) ?_ ?_ ?_
  · simp [pre_zero]
    omega
  · rintro c' L hL i t x hx hi ih ⟨h0, h5, h1', hge⟩
    have hw := wrI (i := i) (by omega)
    have hp := pre_succ ByteArray.size hx
    have hp2 := pre_le ByteArray.size xs (i + 1)
    have w : IntKind.i64.wrap (left - xs.length - pre ByteArray.size xs i - (x.size : Int)) = left - xs.length - pre ByteArray.size xs i - x.size := by
      have := hlim.2 x (List.mem_of_getElem? hx)
      simp only [strLim, lim] at this
      exact wrap64 (by omega) (by omega)
    by_cases a : left - xs.length - pre ByteArray.size xs i < (x.size : Int)
    · have b : left - xs.length - pre ByteArray.size xs i - (x.size : Int) < 0 := by omega
      have r : szR (szL ByteArray.size xs) left = -1 := szR_lt (by simp only [szL]; omega)
      simp [-getElem?_pos, gcz, gcs, h0, h1', h5, hL, hx, hi, w, b, r]
    have b : ¬ left - xs.length - pre ByteArray.size xs i - (x.size : Int) < 0 := by omega
    simp [-getElem?_pos, gcz, gcs, h0, h1', h5, hL, hx, hi, w, b]
    refine ih _ ?_
    simp [-getElem?_pos, gcz, gcs, h0, h1', h5, hL, hx, hi, hw, hp]
    omega
  · rintro c' t ⟨h0, h5, h1', hge⟩
    rw [pre_all] at h1' hge
    have r : szR (szL ByteArray.size xs) left = left - xs.length - ((xs.map ByteArray.size).sum : Nat) := by rw [szR_ge (by simp only [szL]; omega)]; simp only [szL]; omega
    simp [h0, h5, h1', r]
noncomputable def c56 := ctr (fun a : List ByteArray × Int => limL strLim a.1 ∧ 0 ≤ a.2 ∧ a.2 ≤ 1048576) (fun a => [.lst (a.1.map V.str), .int .i64 a.2]) (fun a => (false, .int .i64 (szR (szL ByteArray.size a.1) a.2)))
theorem c56_eq (xs : List ByteArray) (left : Int) (h : limL strLim xs) (h0 : 0 ≤ left) (h1 : left ≤ 1048576) : c56 [.lst (xs.map V.str), .int .i64 left] = some (false, .int .i64 (szR (szL ByteArray.size xs) left)) := ctr_eq (injl1 str_inj _) (xs, left) ⟨h, h0, h1⟩ rfl
theorem c56_ok : COK Tryz.prog (56, c56) := ctr_ok fun a h => f56_ok a.1 a.2 h.1 h.2.1 h.2.2
theorem f208_ok (x : Fld) (left : Int) (h : x.lim) (h0 : 0 ≤ left) (h1 : left ≤ 1048576) : FunOK Tryz.prog 208 [x.v, .int .i64 left] false (.int .i64 (szR x.sz left)) := by
  refine fun_ok (mkE_ok zmix (cl := []) (gl := []) [] trivial trivial) Tryz.func208 (by kernel_rfl) ?_
  refine FunW_run _ _ rfl rfl ?_
  simp only [Fld.lim, lim] at h
  have l0 := h
  have w0 : IntKind.i64.wrap (left - (x.name.size : Int)) = left - (x.name.size : Nat) := wrap64 (by omega) (by omega)
  by_cases a0 : left < (x.name.size : Nat)
  · have b0 : left - ((x.name.size : Nat) : Int) < 0 := by omega
    have r : szR x.sz left = -1 := szR_lt (by simp only [Fld.sz]; omega)
    simp [w0, b0, r]
  have b0 : ¬ left - ((x.name.size : Nat) : Int) < 0 := by omega
  have r : szR x.sz left = left - ((x.name.size : Nat) : Int) := (szR_ge (by simp only [Fld.sz]; omega)).trans (by simp only [Fld.sz] <;> omega)
  simp [w0, b0, r]
noncomputable def c208 := ctr (fun a : Fld × Int => a.1.lim ∧ 0 ≤ a.2 ∧ a.2 ≤ 1048576) (fun a => [a.1.v, .int .i64 a.2]) (fun a => (false, .int .i64 (szR a.1.sz a.2)))
theorem c208_eq (x : Fld) (left : Int) (h : x.lim) (h0 : 0 ≤ left) (h1 : left ≤ 1048576) : c208 [x.v, .int .i64 left] = some (false, .int .i64 (szR x.sz left)) := ctr_eq (inj1 Fld.v_inj _) (x, left) ⟨h, h0, h1⟩ rfl
theorem c208_ok : COK Tryz.prog (208, c208) := ctr_ok fun a h => f208_ok a.1 a.2 h.1 h.2.1 h.2.2
theorem f165_ok (xs : List Fld) (left : Int) (hlim : limL Fld.lim xs) (hl0 : 0 ≤ left) (hl1 : left ≤ 1048576) : FunOK Tryz.prog 165 [.lst (xs.map Fld.v), .int .i64 left] false (.int .i64 (szR (szL Fld.sz xs) left)) := by
  refine fun_ok (mkE_ok zmix (cl := [(208, c208)]) (gl := []) [] c208_ok trivial) Tryz.func165 (by kernel_rfl) ?_
  refine FunW_run _ _ rfl rfl ?_
  have hlen := hlim.1
  simp only [lim] at hlen
  have hl := szL_len Fld.sz xs
  have w0 : IntKind.i64.wrap (left - (xs.length : Int)) = left - xs.length := wrap64 (by omega) (by omega)
  by_cases a0 : left < xs.length
  · have b0 : left - (xs.length : Int) < 0 := by omega
    have r : szR (szL Fld.sz xs) left = -1 := szR_lt (by omega)
    simp [w0, b0, r]
  have b0 : ¬ left - (xs.length : Int) < 0 := by omega
  simp [w0, b0]
  refine lp_list xs (fun i t => t.e 0 = .lst (xs.map Fld.v) ∧ t.e 5 = .int .i64 i ∧ t.e 1 = .int .i64 (left - xs.length - pre Fld.sz xs i) ∧ 0 ≤ left - xs.length - pre Fld.sz xs i) ?_ ?_ ?_
  · simp [pre_zero]
    omega
  · rintro c' L hL i t x hx hi ih ⟨h0, h5, h1', hge⟩
    have hw := wrI (i := i) (by omega)
    have hp := pre_succ Fld.sz hx
    have hp2 := pre_le Fld.sz xs (i + 1)
    have w := c208_eq x (left - xs.length - pre Fld.sz xs i) (hlim.2 x (List.mem_of_getElem? hx)) (by omega) (by omega)
    simp only [Fld.v] at w
    by_cases a : left - xs.length - pre Fld.sz xs i < (Fld.sz x : Nat)
    · rw [szR_lt a] at w
      have r : szR (szL Fld.sz xs) left = -1 := szR_lt (by simp only [szL]; omega)
      simp [-getElem?_pos, gcz, gcs, h0, h1', h5, hL, hx, hi, w, r]
    rw [szR_ge (Int.not_lt.1 a)] at w
    have b : ¬ left - xs.length - pre Fld.sz xs i - (Fld.sz x : Nat) < 0 := by omega
    simp [-getElem?_pos, gcz, gcs, h0, h1', h5, hL, hx, hi, w, b]
    refine ih _ ?_
    simp [-getElem?_pos, gcz, gcs, h0, h1', h5, hL, hx, hi, hw, hp]
    omega
  · rintro c' t ⟨h0, h5, h1', hge⟩
    rw [pre_all] at h1' hge
    have r : szR (szL Fld.sz xs) left = left - xs.length - ((xs.map Fld.sz).sum : Nat) := by rw [szR_ge (by simp only [szL]; omega)]; simp only [szL]; omega
    simp [h0, h5, h1', r]
noncomputable def c165 := ctr (fun a : List Fld × Int => limL Fld.lim a.1 ∧ 0 ≤ a.2 ∧ a.2 ≤ 1048576) (fun a => [.lst (a.1.map Fld.v), .int .i64 a.2]) (fun a => (false, .int .i64 (szR (szL Fld.sz a.1) a.2)))
theorem c165_eq (xs : List Fld) (left : Int) (h : limL Fld.lim xs) (h0 : 0 ≤ left) (h1 : left ≤ 1048576) : c165 [.lst (xs.map Fld.v), .int .i64 left] = some (false, .int .i64 (szR (szL Fld.sz xs) left)) := ctr_eq (injl1 Fld.v_inj _) (xs, left) ⟨h, h0, h1⟩ rfl
theorem c165_ok : COK Tryz.prog (165, c165) := ctr_ok fun a h => f165_ok a.1 a.2 h.1 h.2.1 h.2.2
theorem f209_ok (x : Par) (left : Int) (h : x.lim) (h0 : 0 ≤ left) (h1 : left ≤ 1048576) : FunOK Tryz.prog 209 [x.v, .int .i64 left] false (.int .i64 (szR x.sz left)) := by
  refine fun_ok (mkE_ok zmix (cl := []) (gl := []) [] trivial trivial) Tryz.func209 (by kernel_rfl) ?_
  refine FunW_run _ _ rfl rfl ?_
  simp only [Par.lim, lim] at h
  have l0 := h
  have w0 : IntKind.i64.wrap (left - (x.name.size : Int)) = left - (x.name.size : Nat) := wrap64 (by omega) (by omega)
  by_cases a0 : left < (x.name.size : Nat)
  · have b0 : left - ((x.name.size : Nat) : Int) < 0 := by omega
    have r : szR x.sz left = -1 := szR_lt (by simp only [Par.sz]; omega)
    simp [w0, b0, r]
  have b0 : ¬ left - ((x.name.size : Nat) : Int) < 0 := by omega
  have r : szR x.sz left = left - ((x.name.size : Nat) : Int) := (szR_ge (by simp only [Par.sz]; omega)).trans (by simp only [Par.sz] <;> omega)
  simp [w0, b0, r]
noncomputable def c209 := ctr (fun a : Par × Int => a.1.lim ∧ 0 ≤ a.2 ∧ a.2 ≤ 1048576) (fun a => [a.1.v, .int .i64 a.2]) (fun a => (false, .int .i64 (szR a.1.sz a.2)))
theorem c209_eq (x : Par) (left : Int) (h : x.lim) (h0 : 0 ≤ left) (h1 : left ≤ 1048576) : c209 [x.v, .int .i64 left] = some (false, .int .i64 (szR x.sz left)) := ctr_eq (inj1 Par.v_inj _) (x, left) ⟨h, h0, h1⟩ rfl
theorem c209_ok : COK Tryz.prog (209, c209) := ctr_ok fun a h => f209_ok a.1 a.2 h.1 h.2.1 h.2.2
theorem f166_ok (xs : List Par) (left : Int) (hlim : limL Par.lim xs) (hl0 : 0 ≤ left) (hl1 : left ≤ 1048576) : FunOK Tryz.prog 166 [.lst (xs.map Par.v), .int .i64 left] false (.int .i64 (szR (szL Par.sz xs) left)) := by
  refine fun_ok (mkE_ok zmix (cl := [(209, c209)]) (gl := []) [] c209_ok trivial) Tryz.func166 (by kernel_rfl) ?_
  refine FunW_run _ _ rfl rfl ?_
  have hlen := hlim.1
  simp only [lim] at hlen
  have hl := szL_len Par.sz xs
  have w0 : IntKind.i64.wrap (left - (xs.length : Int)) = left - xs.length := wrap64 (by omega) (by omega)
  by_cases a0 : left < xs.length
  · have b0 : left - (xs.length : Int) < 0 := by omega
    have r : szR (szL Par.sz xs) left = -1 := szR_lt (by omega)
    simp [w0, b0, r]
  have b0 : ¬ left - (xs.length : Int) < 0 := by omega
  simp [w0, b0]
  refine lp_list xs (fun i t => t.e 0 = .lst (xs.map Par.v) ∧ t.e 5 = .int .i64 i ∧ t.e 1 = .int .i64 (left - xs.length - pre Par.sz xs i) ∧ 0 ≤ left - xs.length - pre Par.sz xs i) ?_ ?_ ?_
  · simp [pre_zero]
    omega
  · rintro c' L hL i t x hx hi ih ⟨h0, h5, h1', hge⟩
    have hw := wrI (i := i) (by omega)
    have hp := pre_succ Par.sz hx
    have hp2 := pre_le Par.sz xs (i + 1)
    have w := c209_eq x (left - xs.length - pre Par.sz xs i) (hlim.2 x (List.mem_of_getElem? hx)) (by omega) (by omega)
    simp only [Par.v] at w
    by_cases a : left - xs.length - pre Par.sz xs i < (Par.sz x : Nat)
    · rw [szR_lt a] at w
      have r : szR (szL Par.sz xs) left = -1 := szR_lt (by simp only [szL]; omega)
      simp [-getElem?_pos, gcz, gcs, h0, h1', h5, hL, hx, hi, w, r]
    rw [szR_ge (Int.not_lt.1 a)] at w
    have b : ¬ left - xs.length - pre Par.sz xs i - (Par.sz x : Nat) < 0 := by omega
    simp [-getElem?_pos, gcz, gcs, h0, h1', h5, hL, hx, hi, w, b]
    refine ih _ ?_
    simp [-getElem?_pos, gcz, gcs, h0, h1', h5, hL, hx, hi, hw, hp]
    omega
  · rintro c' t ⟨h0, h5, h1', hge⟩
    rw [pre_all] at h1' hge
    have r : szR (szL Par.sz xs) left = left - xs.length - ((xs.map Par.sz).sum : Nat) := by rw [szR_ge (by simp only [szL]; omega)]; simp only [szL]; omega
    simp [h0, h5, h1', r]
noncomputable def c166 := ctr (fun a : List Par × Int => limL Par.lim a.1 ∧ 0 ≤ a.2 ∧ a.2 ≤ 1048576) (fun a => [.lst (a.1.map Par.v), .int .i64 a.2]) (fun a => (false, .int .i64 (szR (szL Par.sz a.1) a.2)))
theorem c166_eq (xs : List Par) (left : Int) (h : limL Par.lim xs) (h0 : 0 ≤ left) (h1 : left ≤ 1048576) : c166 [.lst (xs.map Par.v), .int .i64 left] = some (false, .int .i64 (szR (szL Par.sz xs) left)) := ctr_eq (injl1 Par.v_inj _) (xs, left) ⟨h, h0, h1⟩ rfl
theorem c166_ok : COK Tryz.prog (166, c166) := ctr_ok fun a h => f166_ok a.1 a.2 h.1 h.2.1 h.2.2
theorem f110_ok (x : Use) (left : Int) (h : x.lim) (h0 : 0 ≤ left) (h1 : left ≤ 1048576) : FunOK Tryz.prog 110 [x.v, .int .i64 left] false (.int .i64 (szR x.sz left)) := by
  refine fun_ok (mkE_ok zmix (cl := []) (gl := []) [] trivial trivial) Tryz.func110 (by kernel_rfl) ?_
  refine FunW_run _ _ rfl rfl ?_
  simp only [Use.lim, lim] at h
  obtain ⟨l0, l1⟩ := h
  have w0 : IntKind.i64.wrap (left - (x.mod.size : Int)) = left - (x.mod.size : Nat) := wrap64 (by omega) (by omega)
  by_cases a0 : left < (x.mod.size : Nat)
  · have b0 : left - ((x.mod.size : Nat) : Int) < 0 := by omega
    have r : szR x.sz left = -1 := szR_lt (by simp only [Use.sz]; omega)
    simp [w0, b0, r]
  have b0 : ¬ left - ((x.mod.size : Nat) : Int) < 0 := by omega
  have w1 : IntKind.i64.wrap (left - ((x.mod.size : Nat) : Int) - (x.name.size : Int)) = left - ((x.mod.size : Nat) : Int) - (x.name.size : Nat) := wrap64 (by omega) (by omega)
  by_cases a1 : left - ((x.mod.size : Nat) : Int) < (x.name.size : Nat)
  · have b1 : left - ((x.mod.size : Nat) : Int) - ((x.name.size : Nat) : Int) < 0 := by omega
    have r : szR x.sz left = -1 := szR_lt (by simp only [Use.sz]; omega)
    simp [w0, b0, w1, b1, r]
  have b1 : ¬ left - ((x.mod.size : Nat) : Int) - ((x.name.size : Nat) : Int) < 0 := by omega
  have r : szR x.sz left = left - ((x.mod.size : Nat) : Int) - ((x.name.size : Nat) : Int) := (szR_ge (by simp only [Use.sz]; omega)).trans (by simp only [Use.sz] <;> omega)
  simp [w0, b0, w1, b1, r]
noncomputable def c110 := ctr (fun a : Use × Int => a.1.lim ∧ 0 ≤ a.2 ∧ a.2 ≤ 1048576) (fun a => [a.1.v, .int .i64 a.2]) (fun a => (false, .int .i64 (szR a.1.sz a.2)))
theorem c110_eq (x : Use) (left : Int) (h : x.lim) (h0 : 0 ≤ left) (h1 : left ≤ 1048576) : c110 [x.v, .int .i64 left] = some (false, .int .i64 (szR x.sz left)) := ctr_eq (inj1 Use.v_inj _) (x, left) ⟨h, h0, h1⟩ rfl
theorem c110_ok : COK Tryz.prog (110, c110) := ctr_ok fun a h => f110_ok a.1 a.2 h.1 h.2.1 h.2.2
theorem f59_ok (xs : List Use) (left : Int) (hlim : limL Use.lim xs) (hl0 : 0 ≤ left) (hl1 : left ≤ 1048576) : FunOK Tryz.prog 59 [.lst (xs.map Use.v), .int .i64 left] false (.int .i64 (szR (szL Use.sz xs) left)) := by
  refine fun_ok (mkE_ok zmix (cl := [(110, c110)]) (gl := []) [] c110_ok trivial) Tryz.func59 (by kernel_rfl) ?_
  refine FunW_run _ _ rfl rfl ?_
  have hlen := hlim.1
  simp only [lim] at hlen
  have hl := szL_len Use.sz xs
  have w0 : IntKind.i64.wrap (left - (xs.length : Int)) = left - xs.length := wrap64 (by omega) (by omega)
  by_cases a0 : left < xs.length
  · have b0 : left - (xs.length : Int) < 0 := by omega
    have r : szR (szL Use.sz xs) left = -1 := szR_lt (by omega)
    simp [w0, b0, r]
  have b0 : ¬ left - (xs.length : Int) < 0 := by omega
  simp [w0, b0]
  refine lp_list xs (fun i t => t.e 0 = .lst (xs.map Use.v) ∧ t.e 5 = .int .i64 i ∧ t.e 1 = .int .i64 (left - xs.length - pre Use.sz xs i) ∧ 0 ≤ left - xs.length - pre Use.sz xs i) ?_ ?_ ?_
  · simp [pre_zero]
    omega
  · rintro c' L hL i t x hx hi ih ⟨h0, h5, h1', hge⟩
    have hw := wrI (i := i) (by omega)
    have hp := pre_succ Use.sz hx
    have hp2 := pre_le Use.sz xs (i + 1)
    have w := c110_eq x (left - xs.length - pre Use.sz xs i) (hlim.2 x (List.mem_of_getElem? hx)) (by omega) (by omega)
    simp only [Use.v] at w
    by_cases a : left - xs.length - pre Use.sz xs i < (Use.sz x : Nat)
    · rw [szR_lt a] at w
      have r : szR (szL Use.sz xs) left = -1 := szR_lt (by simp only [szL]; omega)
      simp [-getElem?_pos, gcz, gcs, h0, h1', h5, hL, hx, hi, w, r]
    rw [szR_ge (Int.not_lt.1 a)] at w
    have b : ¬ left - xs.length - pre Use.sz xs i - (Use.sz x : Nat) < 0 := by omega
    simp [-getElem?_pos, gcz, gcs, h0, h1', h5, hL, hx, hi, w, b]
    refine ih _ ?_
    simp [-getElem?_pos, gcz, gcs, h0, h1', h5, hL, hx, hi, hw, hp]
    omega
  · rintro c' t ⟨h0, h5, h1', hge⟩
    rw [pre_all] at h1' hge
    have r : szR (szL Use.sz xs) left = left - xs.length - ((xs.map Use.sz).sum : Nat) := by rw [szR_ge (by simp only [szL]; omega)]; simp only [szL]; omega
    simp [h0, h5, h1', r]
noncomputable def c59 := ctr (fun a : List Use × Int => limL Use.lim a.1 ∧ 0 ≤ a.2 ∧ a.2 ≤ 1048576) (fun a => [.lst (a.1.map Use.v), .int .i64 a.2]) (fun a => (false, .int .i64 (szR (szL Use.sz a.1) a.2)))
theorem c59_eq (xs : List Use) (left : Int) (h : limL Use.lim xs) (h0 : 0 ≤ left) (h1 : left ≤ 1048576) : c59 [.lst (xs.map Use.v), .int .i64 left] = some (false, .int .i64 (szR (szL Use.sz xs) left)) := ctr_eq (injl1 Use.v_inj _) (xs, left) ⟨h, h0, h1⟩ rfl
theorem c59_ok : COK Tryz.prog (59, c59) := ctr_ok fun a h => f59_ok a.1 a.2 h.1 h.2.1 h.2.2
theorem f108_ok (x : Ty) (left : Int) (h : x.lim) (h0 : 0 ≤ left) (h1 : left ≤ 1048576) : FunOK Tryz.prog 108 [x.v, .int .i64 left] false (.int .i64 (szR x.sz left)) := by
  refine fun_ok (mkE_ok zmix (cl := [(165, c165)]) (gl := []) [] c165_ok trivial) Tryz.func108 (by kernel_rfl) ?_
  refine FunW_run _ _ rfl rfl ?_
  simp only [Ty.lim, lim] at h
  obtain ⟨l0, l1, l2⟩ := h
  have w0 := c165_eq x.fields (left) l0 (by omega) (by omega)
  by_cases a0 : left < (szL Fld.sz x.fields : Nat)
  · rw [szR_lt a0] at w0
    have r : szR x.sz left = -1 := szR_lt (by simp only [Ty.sz]; omega)
    simp [w0, r]
  rw [szR_ge (Int.not_lt.1 a0)] at w0
  have b0 : ¬ left - ((szL Fld.sz x.fields : Nat) : Int) < 0 := by omega
  have w1 : IntKind.i64.wrap (left - ((szL Fld.sz x.fields : Nat) : Int) - (x.owner.size : Int)) = left - ((szL Fld.sz x.fields : Nat) : Int) - (x.owner.size : Nat) := wrap64 (by omega) (by omega)
  by_cases a1 : left - ((szL Fld.sz x.fields : Nat) : Int) < (x.owner.size : Nat)
  · have b1 : left - ((szL Fld.sz x.fields : Nat) : Int) - ((x.owner.size : Nat) : Int) < 0 := by omega
    have r : szR x.sz left = -1 := szR_lt (by simp only [Ty.sz]; omega)
    simp [w0, b0, w1, b1, r]
  have b1 : ¬ left - ((szL Fld.sz x.fields : Nat) : Int) - ((x.owner.size : Nat) : Int) < 0 := by omega
  have w2 : IntKind.i64.wrap (left - ((szL Fld.sz x.fields : Nat) : Int) - ((x.owner.size : Nat) : Int) - (x.name.size : Int)) = left - ((szL Fld.sz x.fields : Nat) : Int) - ((x.owner.size : Nat) : Int) - (x.name.size : Nat) := wrap64 (by omega) (by omega)
  by_cases a2 : left - ((szL Fld.sz x.fields : Nat) : Int) - ((x.owner.size : Nat) : Int) < (x.name.size : Nat)
  · have b2 : left - ((szL Fld.sz x.fields : Nat) : Int) - ((x.owner.size : Nat) : Int) - ((x.name.size : Nat) : Int) < 0 := by omega
    have r : szR x.sz left = -1 := szR_lt (by simp only [Ty.sz]; omega)
    simp [w0, b0, w1, b1, w2, b2, r]
  have b2 : ¬ left - ((szL Fld.sz x.fields : Nat) : Int) - ((x.owner.size : Nat) : Int) - ((x.name.size : Nat) : Int) < 0 := by omega
  have r : szR x.sz left = left - ((szL Fld.sz x.fields : Nat) : Int) - ((x.owner.size : Nat) : Int) - ((x.name.size : Nat) : Int) := (szR_ge (by simp only [Ty.sz]; omega)).trans (by simp only [Ty.sz] <;> omega)
  simp [w0, b0, w1, b1, w2, b2, r]
noncomputable def c108 := ctr (fun a : Ty × Int => a.1.lim ∧ 0 ≤ a.2 ∧ a.2 ≤ 1048576) (fun a => [a.1.v, .int .i64 a.2]) (fun a => (false, .int .i64 (szR a.1.sz a.2)))
theorem c108_eq (x : Ty) (left : Int) (h : x.lim) (h0 : 0 ≤ left) (h1 : left ≤ 1048576) : c108 [x.v, .int .i64 left] = some (false, .int .i64 (szR x.sz left)) := ctr_eq (inj1 Ty.v_inj _) (x, left) ⟨h, h0, h1⟩ rfl
theorem c108_ok : COK Tryz.prog (108, c108) := ctr_ok fun a h => f108_ok a.1 a.2 h.1 h.2.1 h.2.2
theorem f57_ok (xs : List Ty) (left : Int) (hlim : limL Ty.lim xs) (hl0 : 0 ≤ left) (hl1 : left ≤ 1048576) : FunOK Tryz.prog 57 [.lst (xs.map Ty.v), .int .i64 left] false (.int .i64 (szR (szL Ty.sz xs) left)) := by
  refine fun_ok (mkE_ok zmix (cl := [(108, c108)]) (gl := []) [] c108_ok trivial) Tryz.func57 (by kernel_rfl) ?_
  refine FunW_run _ _ rfl rfl ?_
  have hlen := hlim.1
  simp only [lim] at hlen
  have hl := szL_len Ty.sz xs
  have w0 : IntKind.i64.wrap (left - (xs.length : Int)) = left - xs.length := wrap64 (by omega) (by omega)
  by_cases a0 : left < xs.length
  · have b0 : left - (xs.length : Int) < 0 := by omega
    have r : szR (szL Ty.sz xs) left = -1 := szR_lt (by omega)
    simp [w0, b0, r]
  have b0 : ¬ left - (xs.length : Int) < 0 := by omega
  simp [w0, b0]
  refine lp_list xs (fun i t => t.e 0 = .lst (xs.map Ty.v) ∧ t.e 5 = .int .i64 i ∧ t.e 1 = .int .i64 (left - xs.length - pre Ty.sz xs i) ∧ 0 ≤ left - xs.length - pre Ty.sz xs i) ?_ ?_ ?_
  · simp [pre_zero]
    omega
  · rintro c' L hL i t x hx hi ih ⟨h0, h5, h1', hge⟩
    have hw := wrI (i := i) (by omega)
    have hp := pre_succ Ty.sz hx
    have hp2 := pre_le Ty.sz xs (i + 1)
    have w := c108_eq x (left - xs.length - pre Ty.sz xs i) (hlim.2 x (List.mem_of_getElem? hx)) (by omega) (by omega)
    simp only [Ty.v] at w
    by_cases a : left - xs.length - pre Ty.sz xs i < (Ty.sz x : Nat)
    · rw [szR_lt a] at w
      have r : szR (szL Ty.sz xs) left = -1 := szR_lt (by simp only [szL]; omega)
      simp [-getElem?_pos, gcz, gcs, h0, h1', h5, hL, hx, hi, w, r]
    rw [szR_ge (Int.not_lt.1 a)] at w
    have b : ¬ left - xs.length - pre Ty.sz xs i - (Ty.sz x : Nat) < 0 := by omega
    simp [-getElem?_pos, gcz, gcs, h0, h1', h5, hL, hx, hi, w, b]
    refine ih _ ?_
    simp [-getElem?_pos, gcz, gcs, h0, h1', h5, hL, hx, hi, hw, hp]
    omega
  · rintro c' t ⟨h0, h5, h1', hge⟩
    rw [pre_all] at h1' hge
    have r : szR (szL Ty.sz xs) left = left - xs.length - ((xs.map Ty.sz).sum : Nat) := by rw [szR_ge (by simp only [szL]; omega)]; simp only [szL]; omega
    simp [h0, h5, h1', r]
noncomputable def c57 := ctr (fun a : List Ty × Int => limL Ty.lim a.1 ∧ 0 ≤ a.2 ∧ a.2 ≤ 1048576) (fun a => [.lst (a.1.map Ty.v), .int .i64 a.2]) (fun a => (false, .int .i64 (szR (szL Ty.sz a.1) a.2)))
theorem c57_eq (xs : List Ty) (left : Int) (h : limL Ty.lim xs) (h0 : 0 ≤ left) (h1 : left ≤ 1048576) : c57 [.lst (xs.map Ty.v), .int .i64 left] = some (false, .int .i64 (szR (szL Ty.sz xs) left)) := ctr_eq (injl1 Ty.v_inj _) (xs, left) ⟨h, h0, h1⟩ rfl
theorem c57_ok : COK Tryz.prog (57, c57) := ctr_ok fun a h => f57_ok a.1 a.2 h.1 h.2.1 h.2.2
theorem f109_ok (x : Obj) (left : Int) (h : x.lim) (h0 : 0 ≤ left) (h1 : left ≤ 1048576) : FunOK Tryz.prog 109 [x.v, .int .i64 left] false (.int .i64 (szR x.sz left)) := by
  refine fun_ok (mkE_ok zmix (cl := [(166, c166)]) (gl := []) [] c166_ok trivial) Tryz.func109 (by kernel_rfl) ?_
  refine FunW_run _ _ rfl rfl ?_
  simp only [Obj.lim, lim] at h
  obtain ⟨l0, l1⟩ := h
  have w0 : IntKind.i64.wrap (left - (x.name.size : Int)) = left - (x.name.size : Nat) := wrap64 (by omega) (by omega)
  by_cases a0 : left < (x.name.size : Nat)
  · have b0 : left - ((x.name.size : Nat) : Int) < 0 := by omega
    have r : szR x.sz left = -1 := szR_lt (by simp only [Obj.sz]; omega)
    simp [w0, b0, r]
  have b0 : ¬ left - ((x.name.size : Nat) : Int) < 0 := by omega
  have w1 := c166_eq x.params (left - ((x.name.size : Nat) : Int)) l1 (by omega) (by omega)
  by_cases a1 : left - ((x.name.size : Nat) : Int) < (szL Par.sz x.params : Nat)
  · rw [szR_lt a1] at w1
    have r : szR x.sz left = -1 := szR_lt (by simp only [Obj.sz]; omega)
    simp [w0, b0, w1, r]
  rw [szR_ge (Int.not_lt.1 a1)] at w1
  have b1 : ¬ left - ((x.name.size : Nat) : Int) - ((szL Par.sz x.params : Nat) : Int) < 0 := by omega
  have r : szR x.sz left = left - ((x.name.size : Nat) : Int) - ((szL Par.sz x.params : Nat) : Int) := (szR_ge (by simp only [Obj.sz]; omega)).trans (by simp only [Obj.sz] <;> omega)
  simp [w0, b0, w1, b1, r]
noncomputable def c109 := ctr (fun a : Obj × Int => a.1.lim ∧ 0 ≤ a.2 ∧ a.2 ≤ 1048576) (fun a => [a.1.v, .int .i64 a.2]) (fun a => (false, .int .i64 (szR a.1.sz a.2)))
theorem c109_eq (x : Obj) (left : Int) (h : x.lim) (h0 : 0 ≤ left) (h1 : left ≤ 1048576) : c109 [x.v, .int .i64 left] = some (false, .int .i64 (szR x.sz left)) := ctr_eq (inj1 Obj.v_inj _) (x, left) ⟨h, h0, h1⟩ rfl
theorem c109_ok : COK Tryz.prog (109, c109) := ctr_ok fun a h => f109_ok a.1 a.2 h.1 h.2.1 h.2.2
theorem f58_ok (xs : List Obj) (left : Int) (hlim : limL Obj.lim xs) (hl0 : 0 ≤ left) (hl1 : left ≤ 1048576) : FunOK Tryz.prog 58 [.lst (xs.map Obj.v), .int .i64 left] false (.int .i64 (szR (szL Obj.sz xs) left)) := by
  refine fun_ok (mkE_ok zmix (cl := [(109, c109)]) (gl := []) [] c109_ok trivial) Tryz.func58 (by kernel_rfl) ?_
  refine FunW_run _ _ rfl rfl ?_
  have hlen := hlim.1
  simp only [lim] at hlen
  have hl := szL_len Obj.sz xs
  have w0 : IntKind.i64.wrap (left - (xs.length : Int)) = left - xs.length := wrap64 (by omega) (by omega)
  by_cases a0 : left < xs.length
  · have b0 : left - (xs.length : Int) < 0 := by omega
    have r : szR (szL Obj.sz xs) left = -1 := szR_lt (by omega)
    simp [w0, b0, r]
  have b0 : ¬ left - (xs.length : Int) < 0 := by omega
  simp [w0, b0]
  refine lp_list xs (fun i t => t.e 0 = .lst (xs.map Obj.v) ∧ t.e 5 = .int .i64 i ∧ t.e 1 = .int .i64 (left - xs.length - pre Obj.sz xs i) ∧ 0 ≤ left - xs.length - pre Obj.sz xs i) ?_ ?_ ?_
  · simp [pre_zero]
    omega
  · rintro c' L hL i t x hx hi ih ⟨h0, h5, h1', hge⟩
    have hw := wrI (i := i) (by omega)
    have hp := pre_succ Obj.sz hx
    have hp2 := pre_le Obj.sz xs (i + 1)
    have w := c109_eq x (left - xs.length - pre Obj.sz xs i) (hlim.2 x (List.mem_of_getElem? hx)) (by omega) (by omega)
    simp only [Obj.v] at w
    by_cases a : left - xs.length - pre Obj.sz xs i < (Obj.sz x : Nat)
    · rw [szR_lt a] at w
      have r : szR (szL Obj.sz xs) left = -1 := szR_lt (by simp only [szL]; omega)
      simp [-getElem?_pos, gcz, gcs, h0, h1', h5, hL, hx, hi, w, r]
    rw [szR_ge (Int.not_lt.1 a)] at w
    have b : ¬ left - xs.length - pre Obj.sz xs i - (Obj.sz x : Nat) < 0 := by omega
    simp [-getElem?_pos, gcz, gcs, h0, h1', h5, hL, hx, hi, w, b]
    refine ih _ ?_
    simp [-getElem?_pos, gcz, gcs, h0, h1', h5, hL, hx, hi, hw, hp]
    omega
  · rintro c' t ⟨h0, h5, h1', hge⟩
    rw [pre_all] at h1' hge
    have r : szR (szL Obj.sz xs) left = left - xs.length - ((xs.map Obj.sz).sum : Nat) := by rw [szR_ge (by simp only [szL]; omega)]; simp only [szL]; omega
    simp [h0, h5, h1', r]
noncomputable def c58 := ctr (fun a : List Obj × Int => limL Obj.lim a.1 ∧ 0 ≤ a.2 ∧ a.2 ≤ 1048576) (fun a => [.lst (a.1.map Obj.v), .int .i64 a.2]) (fun a => (false, .int .i64 (szR (szL Obj.sz a.1) a.2)))
theorem c58_eq (xs : List Obj) (left : Int) (h : limL Obj.lim xs) (h0 : 0 ≤ left) (h1 : left ≤ 1048576) : c58 [.lst (xs.map Obj.v), .int .i64 left] = some (false, .int .i64 (szR (szL Obj.sz xs) left)) := ctr_eq (injl1 Obj.v_inj _) (xs, left) ⟨h, h0, h1⟩ rfl
theorem c58_ok : COK Tryz.prog (58, c58) := ctr_ok fun a h => f58_ok a.1 a.2 h.1 h.2.1 h.2.2
theorem f12_ok (x : Scp) (left : Int) (h : x.lim) (h0 : 0 ≤ left) (h1 : left ≤ 1048576) : FunOK Tryz.prog 12 [x.v, .int .i64 left] false (.int .i64 (szR x.sz left)) := by
  refine fun_ok (mkE_ok zmix (cl := [(56, c56), (57, c57), (58, c58), (59, c59)]) (gl := []) [] ⟨c56_ok, c57_ok, c58_ok, c59_ok⟩ trivial) Tryz.func12 (by kernel_rfl) ?_
  refine FunW_run _ _ rfl rfl ?_
  simp only [Scp.lim, lim] at h
  obtain ⟨l0, l1, l2, l3, l4⟩ := h
  have w0 : IntKind.i64.wrap (left - (x.name.size : Int)) = left - (x.name.size : Nat) := wrap64 (by omega) (by omega)
  by_cases a0 : left < (x.name.size : Nat)
  · have b0 : left - ((x.name.size : Nat) : Int) < 0 := by omega
    have r : szR x.sz left = -1 := szR_lt (by simp only [Scp.sz]; omega)
    simp [w0, b0, r]
  have b0 : ¬ left - ((x.name.size : Nat) : Int) < 0 := by omega
  have w1 := c56_eq x.imports (left - ((x.name.size : Nat) : Int)) l1 (by omega) (by omega)
  by_cases a1 : left - ((x.name.size : Nat) : Int) < (szL ByteArray.size x.imports : Nat)
  · rw [szR_lt a1] at w1
    have r : szR x.sz left = -1 := szR_lt (by simp only [Scp.sz]; omega)
    simp [w0, b0, w1, r]
  rw [szR_ge (Int.not_lt.1 a1)] at w1
  have b1 : ¬ left - ((x.name.size : Nat) : Int) - ((szL ByteArray.size x.imports : Nat) : Int) < 0 := by omega
  have w2 := c57_eq x.types (left - ((x.name.size : Nat) : Int) - ((szL ByteArray.size x.imports : Nat) : Int)) l2 (by omega) (by omega)
  by_cases a2 : left - ((x.name.size : Nat) : Int) - ((szL ByteArray.size x.imports : Nat) : Int) < (szL Ty.sz x.types : Nat)
  · rw [szR_lt a2] at w2
    have r : szR x.sz left = -1 := szR_lt (by simp only [Scp.sz]; omega)
    simp [w0, b0, w1, b1, w2, r]
  rw [szR_ge (Int.not_lt.1 a2)] at w2
  have b2 : ¬ left - ((x.name.size : Nat) : Int) - ((szL ByteArray.size x.imports : Nat) : Int) - ((szL Ty.sz x.types : Nat) : Int) < 0 := by omega
  have w3 := c58_eq x.objects (left - ((x.name.size : Nat) : Int) - ((szL ByteArray.size x.imports : Nat) : Int) - ((szL Ty.sz x.types : Nat) : Int)) l3 (by omega) (by omega)
  by_cases a3 : left - ((x.name.size : Nat) : Int) - ((szL ByteArray.size x.imports : Nat) : Int) - ((szL Ty.sz x.types : Nat) : Int) < (szL Obj.sz x.objects : Nat)
  · rw [szR_lt a3] at w3
    have r : szR x.sz left = -1 := szR_lt (by simp only [Scp.sz]; omega)
    simp [w0, b0, w1, b1, w2, b2, w3, r]
  rw [szR_ge (Int.not_lt.1 a3)] at w3
  have b3 : ¬ left - ((x.name.size : Nat) : Int) - ((szL ByteArray.size x.imports : Nat) : Int) - ((szL Ty.sz x.types : Nat) : Int) - ((szL Obj.sz x.objects : Nat) : Int) < 0 := by omega
  have w4 := c59_eq x.uses (left - ((x.name.size : Nat) : Int) - ((szL ByteArray.size x.imports : Nat) : Int) - ((szL Ty.sz x.types : Nat) : Int) - ((szL Obj.sz x.objects : Nat) : Int)) l4 (by omega) (by omega)
  by_cases a4 : left - ((x.name.size : Nat) : Int) - ((szL ByteArray.size x.imports : Nat) : Int) - ((szL Ty.sz x.types : Nat) : Int) - ((szL Obj.sz x.objects : Nat) : Int) < (szL Use.sz x.uses : Nat)
  · rw [szR_lt a4] at w4
    have r : szR x.sz left = -1 := szR_lt (by simp only [Scp.sz]; omega)
    simp [w0, b0, w1, b1, w2, b2, w3, b3, w4, r]
  rw [szR_ge (Int.not_lt.1 a4)] at w4
  have b4 : ¬ left - ((x.name.size : Nat) : Int) - ((szL ByteArray.size x.imports : Nat) : Int) - ((szL Ty.sz x.types : Nat) : Int) - ((szL Obj.sz x.objects : Nat) : Int) - ((szL Use.sz x.uses : Nat) : Int) < 0 := by omega
  have r : szR x.sz left = left - ((x.name.size : Nat) : Int) - ((szL ByteArray.size x.imports : Nat) : Int) - ((szL Ty.sz x.types : Nat) : Int) - ((szL Obj.sz x.objects : Nat) : Int) - ((szL Use.sz x.uses : Nat) : Int) := (szR_ge (by simp only [Scp.sz]; omega)).trans (by simp only [Scp.sz] <;> omega)
  simp [w0, b0, w1, b1, w2, b2, w3, b3, w4, b4, r]
noncomputable def c12 := ctr (fun a : Scp × Int => a.1.lim ∧ 0 ≤ a.2 ∧ a.2 ≤ 1048576) (fun a => [a.1.v, .int .i64 a.2]) (fun a => (false, .int .i64 (szR a.1.sz a.2)))
theorem c12_eq (x : Scp) (left : Int) (h : x.lim) (h0 : 0 ≤ left) (h1 : left ≤ 1048576) : c12 [x.v, .int .i64 left] = some (false, .int .i64 (szR x.sz left)) := ctr_eq (inj1 Scp.v_inj _) (x, left) ⟨h, h0, h1⟩ rfl
theorem c12_ok : COK Tryz.prog (12, c12) := ctr_ok fun a h => f12_ok a.1 a.2 h.1 h.2.1 h.2.2
theorem f33_ok (xs : List Scp) (left : Int) (hlim : limL Scp.lim xs) (hl0 : 0 ≤ left) (hl1 : left ≤ 1048576) : FunOK Tryz.prog 33 [.lst (xs.map Scp.v), .int .i64 left] false (.int .i64 (szR (szL Scp.sz xs) left)) := by
  refine fun_ok (mkE_ok zmix (cl := [(12, c12)]) (gl := []) [] c12_ok trivial) Tryz.func33 (by kernel_rfl) ?_
  refine FunW_run _ _ rfl rfl ?_
  have hlen := hlim.1
  simp only [lim] at hlen
  have hl := szL_len Scp.sz xs
  have w0 : IntKind.i64.wrap (left - (xs.length : Int)) = left - xs.length := wrap64 (by omega) (by omega)
  by_cases a0 : left < xs.length
  · have b0 : left - (xs.length : Int) < 0 := by omega
    have r : szR (szL Scp.sz xs) left = -1 := szR_lt (by omega)
    simp [w0, b0, r]
  have b0 : ¬ left - (xs.length : Int) < 0 := by omega
  simp [w0, b0]
  refine lp_list xs (fun i t => t.e 0 = .lst (xs.map Scp.v) ∧ t.e 5 = .int .i64 i ∧ t.e 1 = .int .i64 (left - xs.length - pre Scp.sz xs i) ∧ 0 ≤ left - xs.length - pre Scp.sz xs i) ?_ ?_ ?_
  · simp [pre_zero]
    omega
  · rintro c' L hL i t x hx hi ih ⟨h0, h5, h1', hge⟩
    have hw := wrI (i := i) (by omega)
    have hp := pre_succ Scp.sz hx
    have hp2 := pre_le Scp.sz xs (i + 1)
    have w := c12_eq x (left - xs.length - pre Scp.sz xs i) (hlim.2 x (List.mem_of_getElem? hx)) (by omega) (by omega)
    simp only [Scp.v] at w
    by_cases a : left - xs.length - pre Scp.sz xs i < (Scp.sz x : Nat)
    · rw [szR_lt a] at w
      have r : szR (szL Scp.sz xs) left = -1 := szR_lt (by simp only [szL]; omega)
      simp [-getElem?_pos, gcz, gcs, h0, h1', h5, hL, hx, hi, w, r]
    rw [szR_ge (Int.not_lt.1 a)] at w
    have b : ¬ left - xs.length - pre Scp.sz xs i - (Scp.sz x : Nat) < 0 := by omega
    simp [-getElem?_pos, gcz, gcs, h0, h1', h5, hL, hx, hi, w, b]
    refine ih _ ?_
    simp [-getElem?_pos, gcz, gcs, h0, h1', h5, hL, hx, hi, hw, hp]
    omega
  · rintro c' t ⟨h0, h5, h1', hge⟩
    rw [pre_all] at h1' hge
    have r : szR (szL Scp.sz xs) left = left - xs.length - ((xs.map Scp.sz).sum : Nat) := by rw [szR_ge (by simp only [szL]; omega)]; simp only [szL]; omega
    simp [h0, h5, h1', r]
noncomputable def c33 := ctr (fun a : List Scp × Int => limL Scp.lim a.1 ∧ 0 ≤ a.2 ∧ a.2 ≤ 1048576) (fun a => [.lst (a.1.map Scp.v), .int .i64 a.2]) (fun a => (false, .int .i64 (szR (szL Scp.sz a.1) a.2)))
theorem c33_eq (xs : List Scp) (left : Int) (h : limL Scp.lim xs) (h0 : 0 ≤ left) (h1 : left ≤ 1048576) : c33 [.lst (xs.map Scp.v), .int .i64 left] = some (false, .int .i64 (szR (szL Scp.sz xs) left)) := ctr_eq (injl1 Scp.v_inj _) (xs, left) ⟨h, h0, h1⟩ rfl
theorem c33_ok : COK Tryz.prog (33, c33) := ctr_ok fun a h => f33_ok a.1 a.2 h.1 h.2.1 h.2.2
end Go.TM.Tryz
end
section
set_option maxHeartbeats 2000000
namespace Go.TM.Tryz
open Go Go.TM Go.Proofs
theorem f49_ok (xs : List ByteArray) (hlim : limL strLim xs) : FunOK Tryz.prog 49 [.lst (xs.map V.str), .lst (xs.map V.str)] false (.bool true) := by
  refine fun_ok (mkE_ok zmix (cl := []) (gl := []) [] trivial trivial) Tryz.func49 (by kernel_rfl) ?_
  refine FunW_run _ _ rfl rfl ?_
  have hlen := hlim.1
  simp only [lim] at hlen
  simp
  refine lp_list xs (fun i t => t.e 0 = .lst (xs.map V.str) ∧ t.e 1 = .lst (xs.map V.str) ∧ t.e 5 = .int .i64 i) ?_ ?_ ?_
  · simp
  · rintro c' L hL i t x hx hi ih ⟨g0, g1, g5⟩
    have hw := wrI (i := i) (by omega)
    simp [-getElem?_pos, gcz, gcs, g0, g1, g5, hL, hx, hi]
    refine ih _ ?_
    simp [-getElem?_pos, gcz, gcs, g0, g1, g5, hL, hx, hi, hw]
  · rintro c' t ⟨g0, g1, g5⟩
    simp [g0, g1, g5]
noncomputable def c49 := ctr (fun xs : List ByteArray => limL strLim xs) (fun xs => [.lst (xs.map V.str), .lst (xs.map V.str)]) (fun _ => (false, .bool true))
theorem c49_eq (xs : List ByteArray) (h : limL strLim xs) : c49 [.lst (xs.map V.str), .lst (xs.map V.str)] = some (false, .bool true) := ctr_eq (fun _ _ _ => rfl) xs h rfl
theorem c49_ok : COK Tryz.prog (49, c49) := ctr_ok fun xs h => f49_ok xs h
theorem f228_ok (x : Fld) (h : x.lim) : FunOK Tryz.prog 228 [x.v, x.v] false (.bool true) := by
  refine fun_ok (mkE_ok zmix (cl := []) (gl := []) [] trivial trivial) Tryz.func228 (by kernel_rfl) ?_
  refine FunW_run _ _ rfl rfl ?_
  simp []
noncomputable def c228 := ctr (fun x : Fld => x.lim) (fun x => [x.v, x.v]) (fun _ => (false, .bool true))
theorem c228_eq (x : Fld) (h : x.lim) : c228 [x.v, x.v] = some (false, .bool true) := ctr_eq (fun _ _ _ => rfl) x h rfl
theorem c228_ok : COK Tryz.prog (228, c228) := ctr_ok fun x h => f228_ok x h
theorem f185_ok (xs : List Fld) (hlim : limL Fld.lim xs) : FunOK Tryz.prog 185 [.lst (xs.map Fld.v), .lst (xs.map Fld.v)] false (.bool true) := by
  refine fun_ok (mkE_ok zmix (cl := [(228, c228)]) (gl := []) [] c228_ok trivial) Tryz.func185 (by kernel_rfl) ?_
  refine FunW_run _ _ rfl rfl ?_
  have hlen := hlim.1
  simp only [lim] at hlen
  simp
  refine lp_list xs (fun i t => t.e 0 = .lst (xs.map Fld.v) ∧ t.e 1 = .lst (xs.map Fld.v) ∧ t.e 5 = .int .i64 i) ?_ ?_ ?_
  · simp
  · rintro c' L hL i t x hx hi ih ⟨g0, g1, g5⟩
    have hw := wrI (i := i) (by omega)
    have e := c228_eq x (hlim.2 x (List.mem_of_getElem? hx))
    simp only [Fld.v] at e
    simp [-getElem?_pos, gcz, gcs, g0, g1, g5, hL, hx, hi, e]
    refine ih _ ?_
    simp [-getElem?_pos, gcz, gcs, g0, g1, g5, hL, hx, hi, hw]
  · rintro c' t ⟨g0, g1, g5⟩
    simp [g0, g1, g5]
noncomputable def c185 := ctr (fun xs : List Fld => limL Fld.lim xs) (fun xs => [.lst (xs.map Fld.v), .lst (xs.map Fld.v)]) (fun _ => (false, .bool true))
theorem c185_eq (xs : List Fld) (h : limL Fld.lim xs) : c185 [.lst (xs.map Fld.v), .lst (xs.map Fld.v)] = some (false, .bool true) := ctr_eq (fun _ _ _ => rfl) xs h rfl
theorem c185_ok : COK Tryz.prog (185, c185) := ctr_ok fun xs h => f185_ok xs h
theorem f229_ok (x : Par) (h : x.lim) : FunOK Tryz.prog 229 [x.v, x.v] false (.bool true) := by
  refine fun_ok (mkE_ok zmix (cl := []) (gl := []) [] trivial trivial) Tryz.func229 (by kernel_rfl) ?_
  refine FunW_run _ _ rfl rfl ?_
  simp []
noncomputable def c229 := ctr (fun x : Par => x.lim) (fun x => [x.v, x.v]) (fun _ => (false, .bool true))
theorem c229_eq (x : Par) (h : x.lim) : c229 [x.v, x.v] = some (false, .bool true) := ctr_eq (fun _ _ _ => rfl) x h rfl
theorem c229_ok : COK Tryz.prog (229, c229) := ctr_ok fun x h => f229_ok x h
theorem f186_ok (xs : List Par) (hlim : limL Par.lim xs) : FunOK Tryz.prog 186 [.lst (xs.map Par.v), .lst (xs.map Par.v)] false (.bool true) := by
  refine fun_ok (mkE_ok zmix (cl := [(229, c229)]) (gl := []) [] c229_ok trivial) Tryz.func186 (by kernel_rfl) ?_
  refine FunW_run _ _ rfl rfl ?_
  have hlen := hlim.1
  simp only [lim] at hlen
  simp
  refine lp_list xs (fun i t => t.e 0 = .lst (xs.map Par.v) ∧ t.e 1 = .lst (xs.map Par.v) ∧ t.e 5 = .int .i64 i) ?_ ?_ ?_
  · simp
  · rintro c' L hL i t x hx hi ih ⟨g0, g1, g5⟩
    have hw := wrI (i := i) (by omega)
    have e := c229_eq x (hlim.2 x (List.mem_of_getElem? hx))
    simp only [Par.v] at e
    simp [-getElem?_pos, gcz, gcs, g0, g1, g5, hL, hx, hi, e]
    refine ih _ ?_
    simp [-getElem?_pos, gcz, gcs, g0, g1, g5, hL, hx, hi, hw]
  · rintro c' t ⟨g0, g1, g5⟩
    simp [g0, g1, g5]
noncomputable def c186 := ctr (fun xs : List Par => limL Par.lim xs) (fun xs => [.lst (xs.map Par.v), .lst (xs.map Par.v)]) (fun _ => (false, .bool true))
theorem c186_eq (xs : List Par) (h : limL Par.lim xs) : c186 [.lst (xs.map Par.v), .lst (xs.map Par.v)] = some (false, .bool true) := ctr_eq (fun _ _ _ => rfl) xs h rfl
theorem c186_ok : COK Tryz.prog (186, c186) := ctr_ok fun xs h => f186_ok xs h
theorem f104_ok (x : Use) (h : x.lim) : FunOK Tryz.prog 104 [x.v, x.v] false (.bool true) := by
  refine fun_ok (mkE_ok zmix (cl := []) (gl := []) [] trivial trivial) Tryz.func104 (by kernel_rfl) ?_
  refine FunW_run _ _ rfl rfl ?_
  simp []
noncomputable def c104 := ctr (fun x : Use => x.lim) (fun x => [x.v, x.v]) (fun _ => (false, .bool true))
theorem c104_eq (x : Use) (h : x.lim) : c104 [x.v, x.v] = some (false, .bool true) := ctr_eq (fun _ _ _ => rfl) x h rfl
theorem c104_ok : COK Tryz.prog (104, c104) := ctr_ok fun x h => f104_ok x h
theorem f44_ok (xs : List Use) (hlim : limL Use.lim xs) : FunOK Tryz.prog 44 [.lst (xs.map Use.v), .lst (xs.map Use.v)] false (.bool true) := by
  refine fun_ok (mkE_ok zmix (cl := [(104, c104)]) (gl := []) [] c104_ok trivial) Tryz.func44 (by kernel_rfl) ?_
  refine FunW_run _ _ rfl rfl ?_
  have hlen := hlim.1
  simp only [lim] at hlen
  simp
  refine lp_list xs (fun i t => t.e 0 = .lst (xs.map Use.v) ∧ t.e 1 = .lst (xs.map Use.v) ∧ t.e 5 = .int .i64 i) ?_ ?_ ?_
  · simp
  · rintro c' L hL i t x hx hi ih ⟨g0, g1, g5⟩
    have hw := wrI (i := i) (by omega)
    have e := c104_eq x (hlim.2 x (List.mem_of_getElem? hx))
    simp only [Use.v] at e
    simp [-getElem?_pos, gcz, gcs, g0, g1, g5, hL, hx, hi, e]
    refine ih _ ?_
    simp [-getElem?_pos, gcz, gcs, g0, g1, g5, hL, hx, hi, hw]
  · rintro c' t ⟨g0, g1, g5⟩
    simp [g0, g1, g5]
noncomputable def c44 := ctr (fun xs : List Use => limL Use.lim xs) (fun xs => [.lst (xs.map Use.v), .lst (xs.map Use.v)]) (fun _ => (false, .bool true))
theorem c44_eq (xs : List Use) (h : limL Use.lim xs) : c44 [.lst (xs.map Use.v), .lst (xs.map Use.v)] = some (false, .bool true) := ctr_eq (fun _ _ _ => rfl) xs h rfl
theorem c44_ok : COK Tryz.prog (44, c44) := ctr_ok fun xs h => f44_ok xs h
theorem f134_ok (x : Ty) (h : x.lim) : FunOK Tryz.prog 134 [x.v, x.v] false (.bool true) := by
  refine fun_ok (mkE_ok zmix (cl := [(185, c185)]) (gl := []) [] c185_ok trivial) Tryz.func134 (by kernel_rfl) ?_
  refine FunW_run _ _ rfl rfl ?_
  simp only [Ty.lim] at h
  obtain ⟨l0, l1, l2⟩ := h
  have e0 := c185_eq x.fields l0
  simp [e0]
noncomputable def c134 := ctr (fun x : Ty => x.lim) (fun x => [x.v, x.v]) (fun _ => (false, .bool true))
theorem c134_eq (x : Ty) (h : x.lim) : c134 [x.v, x.v] = some (false, .bool true) := ctr_eq (fun _ _ _ => rfl) x h rfl
theorem c134_ok : COK Tryz.prog (134, c134) := ctr_ok fun x h => f134_ok x h
theorem f68_ok (xs : List Ty) (hlim : limL Ty.lim xs) : FunOK Tryz.prog 68 [.lst (xs.map Ty.v), .lst (xs.map Ty.v)] false (.bool true) := by
  refine fun_ok (mkE_ok zmix (cl := [(134, c134)]) (gl := []) [] c134_ok trivial) Tryz.func68 (by kernel_rfl) ?_
  refine FunW_run _ _ rfl rfl ?_
  have hlen := hlim.1
  simp only [lim] at hlen
  simp
  refine lp_list xs (fun i t => t.e 0 = .lst (xs.map Ty.v) ∧ t.e 1 = .lst (xs.map Ty.v) ∧ t.e 5 = .int .i64 i) ?_ ?_ ?_
  · simp
  · rintro c' L hL i t x hx hi ih ⟨g0, g1, g5⟩
    have hw := wrI (i := i) (by omega)
    have e := c134_eq x (hlim.2 x (List.mem_of_getElem? hx))
    simp only [Ty.v] at e
    simp [-getElem?_pos, gcz, gcs, g0, g1, g5, hL, hx, hi, e]
    refine ih _ ?_
    simp [-getElem?_pos, gcz, gcs, g0, g1, g5, hL, hx, hi, hw]
  · rintro c' t ⟨g0, g1, g5⟩
    simp [g0, g1, g5]
noncomputable def c68 := ctr (fun xs : List Ty => limL Ty.lim xs) (fun xs => [.lst (xs.map Ty.v), .lst (xs.map Ty.v)]) (fun _ => (false, .bool true))
theorem c68_eq (xs : List Ty) (h : limL Ty.lim xs) : c68 [.lst (xs.map Ty.v), .lst (xs.map Ty.v)] = some (false, .bool true) := ctr_eq (fun _ _ _ => rfl) xs h rfl
theorem c68_ok : COK Tryz.prog (68, c68) := ctr_ok fun xs h => f68_ok xs h
theorem f135_ok (x : Obj) (h : x.lim) : FunOK Tryz.prog 135 [x.v, x.v] false (.bool true) := by
  refine fun_ok (mkE_ok zmix (cl := [(186, c186)]) (gl := []) [] c186_ok trivial) Tryz.func135 (by kernel_rfl) ?_
  refine FunW_run _ _ rfl rfl ?_
  simp only [Obj.lim] at h
  obtain ⟨l0, l1⟩ := h
  have e1 := c186_eq x.params l1
  simp [e1]
noncomputable def c135 := ctr (fun x : Obj => x.lim) (fun x => [x.v, x.v]) (fun _ => (false, .bool true))
theorem c135_eq (x : Obj) (h : x.lim) : c135 [x.v, x.v] = some (false, .bool true) := ctr_eq (fun _ _ _ => rfl) x h rfl
theorem c135_ok : COK Tryz.prog (135, c135) := ctr_ok fun x h => f135_ok x h
theorem f69_ok (xs : List Obj) (hlim : limL Obj.lim xs) : FunOK Tryz.prog 69 [.lst (xs.map Obj.v), .lst (xs.map Obj.v)] false (.bool true) := by
  refine fun_ok (mkE_ok zmix (cl := [(135, c135)]) (gl := []) [] c135_ok trivial) Tryz.func69 (by kernel_rfl) ?_
  refine FunW_run _ _ rfl rfl ?_
  have hlen := hlim.1
  simp only [lim] at hlen
  simp
  refine lp_list xs (fun i t => t.e 0 = .lst (xs.map Obj.v) ∧ t.e 1 = .lst (xs.map Obj.v) ∧ t.e 5 = .int .i64 i) ?_ ?_ ?_
  · simp
  · rintro c' L hL i t x hx hi ih ⟨g0, g1, g5⟩
    have hw := wrI (i := i) (by omega)
    have e := c135_eq x (hlim.2 x (List.mem_of_getElem? hx))
    simp only [Obj.v] at e
    simp [-getElem?_pos, gcz, gcs, g0, g1, g5, hL, hx, hi, e]
    refine ih _ ?_
    simp [-getElem?_pos, gcz, gcs, g0, g1, g5, hL, hx, hi, hw]
  · rintro c' t ⟨g0, g1, g5⟩
    simp [g0, g1, g5]
noncomputable def c69 := ctr (fun xs : List Obj => limL Obj.lim xs) (fun xs => [.lst (xs.map Obj.v), .lst (xs.map Obj.v)]) (fun _ => (false, .bool true))
theorem c69_eq (xs : List Obj) (h : limL Obj.lim xs) : c69 [.lst (xs.map Obj.v), .lst (xs.map Obj.v)] = some (false, .bool true) := ctr_eq (fun _ _ _ => rfl) xs h rfl
theorem c69_ok : COK Tryz.prog (69, c69) := ctr_ok fun xs h => f69_ok xs h
theorem f16_ok (x : Scp) (h : x.lim) : FunOK Tryz.prog 16 [x.v, x.v] false (.bool true) := by
  refine fun_ok (mkE_ok zmix (cl := [(44, c44), (49, c49), (68, c68), (69, c69)]) (gl := []) [] ⟨c44_ok, c49_ok, c68_ok, c69_ok⟩ trivial) Tryz.func16 (by kernel_rfl) ?_
  refine FunW_run _ _ rfl rfl ?_
  simp only [Scp.lim] at h
  obtain ⟨l0, l1, l2, l3, l4⟩ := h
  have e1 := c49_eq x.imports l1
  have e2 := c68_eq x.types l2
  have e3 := c69_eq x.objects l3
  have e4 := c44_eq x.uses l4
  simp [e1, e2, e3, e4]
noncomputable def c16 := ctr (fun x : Scp => x.lim) (fun x => [x.v, x.v]) (fun _ => (false, .bool true))
theorem c16_eq (x : Scp) (h : x.lim) : c16 [x.v, x.v] = some (false, .bool true) := ctr_eq (fun _ _ _ => rfl) x h rfl
theorem c16_ok : COK Tryz.prog (16, c16) := ctr_ok fun x h => f16_ok x h
theorem f25_ok (xs : List Scp) (hlim : limL Scp.lim xs) : FunOK Tryz.prog 25 [.lst (xs.map Scp.v), .lst (xs.map Scp.v)] false (.bool true) := by
  refine fun_ok (mkE_ok zmix (cl := [(16, c16)]) (gl := []) [] c16_ok trivial) Tryz.func25 (by kernel_rfl) ?_
  refine FunW_run _ _ rfl rfl ?_
  have hlen := hlim.1
  simp only [lim] at hlen
  simp
  refine lp_list xs (fun i t => t.e 0 = .lst (xs.map Scp.v) ∧ t.e 1 = .lst (xs.map Scp.v) ∧ t.e 5 = .int .i64 i) ?_ ?_ ?_
  · simp
  · rintro c' L hL i t x hx hi ih ⟨g0, g1, g5⟩
    have hw := wrI (i := i) (by omega)
    have e := c16_eq x (hlim.2 x (List.mem_of_getElem? hx))
    simp only [Scp.v] at e
    simp [-getElem?_pos, gcz, gcs, g0, g1, g5, hL, hx, hi, e]
    refine ih _ ?_
    simp [-getElem?_pos, gcz, gcs, g0, g1, g5, hL, hx, hi, hw]
  · rintro c' t ⟨g0, g1, g5⟩
    simp [g0, g1, g5]
noncomputable def c25 := ctr (fun xs : List Scp => limL Scp.lim xs) (fun xs => [.lst (xs.map Scp.v), .lst (xs.map Scp.v)]) (fun _ => (false, .bool true))
theorem c25_eq (xs : List Scp) (h : limL Scp.lim xs) : c25 [.lst (xs.map Scp.v), .lst (xs.map Scp.v)] = some (false, .bool true) := ctr_eq (fun _ _ _ => rfl) xs h rfl
theorem c25_ok : COK Tryz.prog (25, c25) := ctr_ok fun xs h => f25_ok xs h
end Go.TM.Tryz
end
section
namespace Go.TM.Tryz
open Go Go.TM Go.Proofs
theorem cScs_le (x : Scp) : cScs x ≤ 8 + 8 * x.sz := by
  have h1 := cnt_le (c := cStr) (f := ByteArray.size) (fun y => by simp [cStr]; omega) x.imports
  have h2 := cnt_le (c := cTy) (f := Ty.sz) cTy_le x.types
  have h3 := cnt_le (c := cObj) (f := Obj.sz) cObj_le x.objects
  have h4 := cnt_le (c := cUse) (f := Use.sz) (fun y => by simp [cUse]; omega) x.uses
  simp only [cScs, Scp.sz]
  omega
theorem scpLen_of {x : Scp} (h : x.sz ≤ 1048576) : ScpLen x := by
  have hln := Scp.lens h
  exact ⟨by omega, ⟨by omega, fun y hy => by have := hln.2.1.2 y hy; omega⟩, ⟨by omega, fun y hy => by have := hln.2.2.1.2 y hy; omega⟩, by omega⟩
end Go.TM.Tryz
end
section
set_option maxHeartbeats 8000000
set_option maxRecDepth 20000
namespace Go.TM.Tryz
open Go Go.TM Go.Proofs
theorem ckL_len (xs : List Knw) (l : List Scp) : (ckL xs l).length ≤ xs.length := by
  unfold ckL
  split
  · exact offL_len l xs
  · simp
theorem ckL_lim {xs : List Knw} (l : List Scp) (h : limL Knw.lim xs) : limL Use.lim (ckL xs l) := by
  refine ⟨Nat.le_trans (ckL_len xs l) h.1, fun x hx => ?_⟩
  unfold ckL at hx
  split at hx
  · obtain ⟨u, hu, rfl⟩ := List.mem_map.1 hx
    exact h.2 u (List.mem_filter.1 hu).1
  · cases hx
noncomputable def c41 := ctr (fun a : List Knw × List Scp => limL Knw.lim a.1 ∧ limL Scp.lim a.2) (fun a => [.lst (a.1.map Knw.v), .lst (a.2.map Scp.v)]) (fun a => (false, ckO a.1 a.2))
theorem c41_eq (s : List Knw) (l : List Scp) (h : limL Knw.lim s) (hl : limL Scp.lim l) : c41 [.lst (s.map Knw.v), .lst (l.map Scp.v)] = some (false, ckO s l) := ctr_eq (injKL _) (s, l) ⟨h, hl⟩ rfl
theorem c41_ok : COK Tryz.prog (41, c41) := ctr_ok fun a h => f41_ok a.1 a.2 h.1 h.2
noncomputable def c43 := ctr (fun a : List Knw × List Scp => limL Knw.lim a.1 ∧ limL Scp.lim a.2) (fun a => [.lst (a.1.map Knw.v), .lst (a.2.map Scp.v)]) (fun a => (false, ckO a.1 a.2))
theorem c43_eq (s : List Knw) (l : List Scp) (h : limL Knw.lim s) (hl : limL Scp.lim l) : c43 [.lst (s.map Knw.v), .lst (l.map Scp.v)] = some (false, ckO s l) := ctr_eq (injKL _) (s, l) ⟨h, hl⟩ rfl
theorem c43_ok : COK Tryz.prog (43, c43) := ctr_ok fun a h => f43_ok a.1 a.2 h.1 h.2
theorem f8_ok (s : List Knw) (l : List Scp) (hl : limL Knw.lim s) (hll : limL Scp.lim l) : FunOK Tryz.prog 8 [.lst (s.map Knw.v), .lst (l.map Scp.v)] false (.bool true) := by
  refine fun_ok (mkE_ok zmix (cl := [(40, c40), (33, c33), (42, c42), (35, c35), (41, c41), (43, c43), (37, c37), (44, c44), (25, c25), (46, c46)]) (gl := [(38, [true], c38), (28, [true], c28), (45, [true], c45)]) [] ⟨c40_ok, c33_ok, c42_ok, c35_ok, c41_ok, c43_ok, c37_ok, c44_ok, c25_ok, c46_ok⟩ ⟨c38_ok, c28_ok, c45_ok⟩) Tryz.func8 (by kernel_rfl) ?_
  refine FunW_run _ _ rfl rfl ?_
  have e40 := c40_eq s 1048576 hl (by omega) (by omega)
  by_cases hz : ¬ (szL Knw.sz s : Int) ≤ 1048576
  · rw [szR_lt (by omega)] at e40
    simp [e40]
  have hz : szL Knw.sz s ≤ 1048576 := by omega
  rw [szR_ge (by omega)] at e40
  have h0' : ¬ (1048576 : Int) < (szL Knw.sz s : Nat) := by omega
  have e33 := c33_eq l (1048576 - ((szL Knw.sz s : Nat) : Int)) hll (by omega) (by omega)
  by_cases hz2 : ¬ (szL Scp.sz l : Int) ≤ 1048576 - ((szL Knw.sz s : Nat) : Int)
  · rw [szR_lt (by omega)] at e33
    simp [e40, h0', e33]
  have hz2 : szL Scp.sz l ≤ 1048576 - szL Knw.sz s := by omega
  rw [szR_ge (by omega)] at e33
  have h1 : ¬ (1048576 : Int) - (szL Knw.sz s : Nat) < (szL Scp.sz l : Nat) := by omega
  have e42 := c42_eq s hz
  have e35 := c35_eq l (by omega)
  have e41 := c41_eq s l hl hll
  have e43 := c43_eq s l hl hll
  have e37 := c37_eq s hl
  have e25 := c25_eq l hll
  simp only [ckO] at e41 e43
  have hR := ckL_lim l hl
  have hRl := ckL_len s l
  have e44 := c44_eq _ hR
  have hsl := szL_len Knw.sz s
  have hcs : cnt cKnw s ≤ 3145728 := by have := cnt_const (c := cKnw) (m := 3) (fun _ => rfl) s; omega
  have e38 := c38_eq s 1 (by omega) (by omega) (by omega)
  have hcl := cnt_le (c := cScs) (f := Scp.sz) cScs_le l
  have hll2 := szL_len Scp.sz l
  have e28 := c28_eq l (1 + (cnt cKnw s : Nat)) (by omega) (by omega) ⟨by omega, fun x hx => scpLen_of (by have := szL_mem (f := Scp.sz) hx; omega)⟩
  generalize ckL s l = names at *
  have hcn : cnt cUse names ≤ 3145728 := by have := cnt_const (c := cUse) (m := 2) (fun _ => rfl) names; omega
  have e45 := c45_eq names 1 (by omega) (by omega) (by omega)
  have e46 := c46_eq names 1 (by omega) (by omega) (by omega)
  simp [e40, h0', e33, h1, e42, e35, e41, e43, e37, e44, e25, e38, e28, e45, e46]
  omega
end Go.TM.Tryz
end
