/- A part of the proof: IJ, IK, IL. -/
import Derived.Test.YtknondpcbpgpoaaGreatK17
set_option linter.unusedVariables false
set_option linter.unusedSimpArgs false
section
set_option maxHeartbeats 8000000
set_option maxRecDepth 20000
set_option linter.unusedSimpArgs false
set_option linter.unusedVariables false
namespace Go.TM.Tryz
open Go Go.TM Go.Proofs
/-! ### fingers of a scope in a list -/
theorem f239l_ok (s : Scp) (h : SRef s) : FunOK Tryz.prog 239 [.ladr [s.v] 0 0] false (.inl 3 ((fgI s).map Fgr.v)) := by
  refine fun_ok (mkE2_ok zmix (cl := [(257, c257), (258, c258)]) (gl := [(259, [true], c259)]) [] [(6, cut30)] ⟨c257_ok, c258_ok⟩ c259_ok) Tryz.func239 (by kernel_rfl) ?_
  refine FunW_run _ _ rfl rfl ?_
  have e64 := c257_eq s.types h.ty
  have hcl := roundsT_len s.types 25
  have hol := h.objs
  have hc24 := h.ty.len
  unfold fgI
  generalize roundsT s.types 25 = cur at *
  simp [e64]
  refine lp_list s.objects (fun i t => t.e 16 = .lst (s.objects.map Obj.v) ∧ t.e 17 = .int .i64 s.objects.length ∧ t.e 18 = .int .i64 i ∧ (∃ r q, t.e 3 = .own r ∧ t.e 4 = .own q ∧ r < t.nt ∧ q < t.nt ∧ r ≠ q ∧ t.R r = some ⟨3, (fgrsTo cur s.objects i).map Fgr.v, true⟩ ∧ t.R q = some ⟨1, cur.map (V.int .i64), true⟩)) ?_ ?_ ?_
  · simp [fgrsTo_zero]
  · rintro c' L hL i t o hx hi ih ⟨h16, h17, h18, r, q, h3, h4, hr, hq, nrq, hR, hQ⟩
    have hw : IntKind.i64.wrap ((i : Int) + 1) = ((i + 1 : Nat) : Int) := wrap64 (by omega) (by omega)
    have hor := h.obj o (List.mem_of_getElem? hx)
    have e65 := c258_eq o cur (by rw [hcl]; exact hor) (by omega)
    simp only [Obj.v] at e65
    have nqr : ¬ q = r := fun e => nrq e.symm
    have m3 : ¬ q = t.nt + 1 + 1 := by omega
    have n1 : ¬ r = t.nt := by omega
    have n2 : ¬ q = t.nt := by omega
    have m1 : ¬ r = t.nt + 1 := by omega
    have m2 : ¬ q = t.nt + 1 := by omega
    by_cases hm : 0 < o.mark
    · simp [-getElem?_pos, List.getElem?_cons_zero, List.getElem?_cons_succ, -aftE_some, cut30_run, pureOp, h16, h17, h18, h3, h4, hR, hQ, hL, hi, hx, e65, hm, n1, n2, m1, m2, range1]
      refine ⟨roomF (by have := fgrsTo_len cur s.objects i; omega), ih _ ?_⟩
      simp [h16, h17, h18, h3, h4, hR, hQ, hw, n1, n2, m1, m2, nrq, nqr, m3, fgrsTo_yes hx hm, fgrOf]
      omega
    · simp [-getElem?_pos, List.getElem?_cons_zero, List.getElem?_cons_succ, -aftE_some, cut30_run, pureOp, h16, h17, h18, h3, h4, hR, hQ, hL, hi, hx, hm, n1, n2]
      refine ih _ ?_
      simp [h16, h17, h18, h3, h4, hR, hQ, hw, n1, n2, nrq, fgrsTo_no hx hm]
      omega
  · rintro c' t ⟨h16, h17, h18, r, q, h3, h4, hr, hq, nrq, hR, hQ⟩
    rw [fgrsTo_all] at hR
    have e66 := c259_eq (fgrs cur s.objects) (by have := fgrsTo_len cur s.objects s.objects.length; rw [fgrsTo_all] at this; omega)
    simp [h16, h17, h18, h3, h4, hR, hQ, e66]
noncomputable def c239l := ctr (fun s : Scp => SRef s) (fun s => [.ladr [s.v] 0 0]) (fun s => (false, .inl 3 ((fgI s).map Fgr.v)))
theorem c239l_eq (s : Scp) (h : SRef s) : c239l [.ladr [s.v] 0 0] = some (false, .inl 3 ((fgI s).map Fgr.v)) := ctr_eq (injL1 _) s h rfl
theorem c239l_ok : COK Tryz.prog (239, c239l) := ctr_ok fun s h => f239l_ok s h
def fgOut (r : Option Fgr) : V := .tup [.int .i64 (sumO r), .bool r.isSome]
theorem f206l_ok (s : Scp) (n : ByteArray) (h : SRef s) : FunOK Tryz.prog 206 [.ladr [s.v] 0 0, .str n] false (fgOut (findF (fgI s) n)) := by
  refine fun_ok (mkE_ok zmix (cl := [(239, c239l)]) (gl := []) [] c239l_ok trivial) Tryz.func206 (by kernel_rfl) ?_
  refine FunW_run _ _ rfl rfl ?_
  have e30 := c239l_eq s h
  simp only [Scp.v] at e30
  have hl := fgI_len s
  have hol := h.objs
  unfold findF fgOut
  generalize fgI s = A at *
  simp [e30]
  refine lp_list A (fun i t => t.e 1 = .str n ∧ t.e 10 = .int .i64 A.length ∧ t.e 11 = .int .i64 i ∧ (∃ p, t.e 9 = .own p ∧ p < t.nt ∧ t.R p = some ⟨3, A.map Fgr.v, true⟩) ∧ A.find? (fun y => decide (y.name = n)) = (A.drop i).find? (fun y => decide (y.name = n))) ?_ ?_ ?_
  · simp
  · rintro c' L hL i t x hx hi ih ⟨h1, h10, h11, ⟨p, h9, hp, hR⟩, hf⟩
    have hw : IntKind.i64.wrap ((i : Int) + 1) = ((i + 1 : Nat) : Int) := wrap64 (by omega) (by omega)
    rw [findF_at n hx] at hf
    by_cases he : x.name = n
    · rw [if_pos he] at hf
      simp [-getElem?_pos, List.getElem?_cons_zero, List.getElem?_cons_succ, h1, h10, h11, h9, hR, hL, hi, hx, he, hf, sumO]
    · rw [if_neg he] at hf
      simp [-getElem?_pos, List.getElem?_cons_zero, List.getElem?_cons_succ, h1, h10, h11, h9, hR, hL, hi, hx, he]
      refine ih _ ?_
      simp [h1, h10, h11, h9, hp, hR, hw, hf]
  · rintro c' t ⟨h1, h10, h11, ⟨p, h9, hp, hR⟩, hf⟩
    simp only [List.drop_length, List.find?_nil] at hf
    simp [h1, h10, h11, h9, hR, hf, sumO]
theorem f204_ok (A : List Fgr) (n : ByteArray) (hA : A.length ≤ lim) : FunOK Tryz.prog 204 [.lst (A.map Fgr.v), .str n] false (fgOut (findF A n)) := by
  refine fun_ok (mkE_ok zmix (cl := []) (gl := []) [] trivial trivial) Tryz.func204 (by kernel_rfl) ?_
  refine FunW_run _ _ rfl rfl ?_
  simp only [lim] at hA
  unfold findF fgOut
  simp
  refine lp_list A (fun i t => t.e 1 = .str n ∧ t.e 8 = .lst (A.map Fgr.v) ∧ t.e 9 = .int .i64 A.length ∧ t.e 10 = .int .i64 i ∧ A.find? (fun y => decide (y.name = n)) = (A.drop i).find? (fun y => decide (y.name = n))) ?_ ?_ ?_
  · simp
  · rintro c' L hL i t x hx hi ih ⟨h1, h8, h9, h10, hf⟩
    have hw : IntKind.i64.wrap ((i : Int) + 1) = ((i + 1 : Nat) : Int) := wrap64 (by omega) (by omega)
    rw [findF_at n hx] at hf
    by_cases he : x.name = n
    · rw [if_pos he] at hf
      simp [-getElem?_pos, List.getElem?_cons_zero, List.getElem?_cons_succ, h1, h8, h9, h10, hL, hi, hx, he, hf, sumO]
    · rw [if_neg he] at hf
      simp [-getElem?_pos, List.getElem?_cons_zero, List.getElem?_cons_succ, h1, h8, h9, h10, hL, hi, hx, he]
      refine ih _ ?_
      simp [h1, h8, h9, h10, hw, hf]
  · rintro c' t ⟨h1, h8, h9, h10, hf⟩
    simp only [List.drop_length, List.find?_nil] at hf
    simp [h1, h8, h9, h10, hf, sumO]
noncomputable def c204 := ctr (fun a : List Fgr × ByteArray => a.1.length ≤ lim) (fun a => [.lst (a.1.map Fgr.v), .str a.2]) (fun a => (false, fgOut (findF a.1 a.2)))
theorem inj204 {β : Type} (out : List Fgr × ByteArray → β) : ∀ a b : List Fgr × ByteArray, [V.lst (a.1.map Fgr.v), .str a.2] = [V.lst (b.1.map Fgr.v), .str b.2] → out a = out b := by
  rintro ⟨a, c⟩ ⟨b, d⟩ h
  simp only [List.cons.injEq, and_true, V.lst.injEq, V.str.injEq] at h
  rw [map_inj Fgr.v_inj h.1, h.2]
theorem c204_eq (l : List Fgr) (n : ByteArray) (h : l.length ≤ lim) : c204 [.lst (l.map Fgr.v), .str n] = some (false, fgOut (findF l n)) := ctr_eq (inj204 _) (l, n) h rfl
theorem c204_ok : COK Tryz.prog (204, c204) := ctr_ok fun a h => f204_ok a.1 a.2 h
end Go.TM.Tryz
end
section
set_option maxHeartbeats 8000000
set_option maxRecDepth 20000
set_option linter.unusedSimpArgs false
set_option linter.unusedVariables false
namespace Go.TM.Tryz
open Go Go.TM Go.Proofs
theorem fst_at {α : Type} {p : α → Bool} {xs : List α} (h : ¬ fstI p xs < 0) : ∃ x, xs[(fstI p xs).toNat]? = some x ∧ 0 ≤ fstI p xs ∧ fstI p xs < xs.length := by
  unfold fstI at *
  by_cases ha : xs.any p = true
  · rw [if_pos ha]
    have hlt : xs.findIdx p < xs.length := by
      rw [List.findIdx_lt_length]
      obtain ⟨x, hx, hp⟩ := List.any_eq_true.1 ha
      exact ⟨x, hx, hp⟩
    exact ⟨_, List.getElem?_eq_getElem (by simpa using hlt), by omega, by simpa using hlt⟩
  · rw [if_neg ha] at h
    omega
theorem mods_at {l : List Scp} (h : modsB l = true) {i : Nat} {s : Scp} (hs : l[i]? = some s) : scopeI s = true ∧ exS s = s := by
  simp only [modsB, Bool.and_eq_true] at h
  have := allI_iff.1 h.1 i s hs
  simp only [modAtB, Bool.and_eq_true, decide_eq_true_eq] at this
  exact this.1
/-- The finger of a name of a module. -/
noncomputable def fgIn (l : List Scp) (m n : ByteArray) : Option Fgr := if fstI (nameIs m) l < 0 then none else findF (fgI ((l[(fstI (nameIs m) l).toNat]?).getD noS)) n
theorem injLxn {β : Type} (out : List Scp × Nat × ByteArray → β) : ∀ a b : List Scp × Nat × ByteArray, [V.ladr (a.1.map Scp.v) a.2.1 0, .str a.2.2] = [V.ladr (b.1.map Scp.v) b.2.1 0, .str b.2.2] → out a = out b := by
  rintro ⟨a, i, n⟩ ⟨b, j, m⟩ h
  simp only [List.cons.injEq, and_true, V.ladr.injEq, V.str.injEq] at h
  rw [map_inj Scp.v_inj h.1.1, h.1.2, h.2]
noncomputable def c206x := ctr (fun a : List Scp × Nat × ByteArray => ∃ s, a.1[a.2.1]? = some s ∧ SRef s) (fun a => [.ladr (a.1.map Scp.v) a.2.1 0, .str a.2.2]) (fun a => (false, fgOut (findF (fgI ((a.1[a.2.1]?).getD noS)) a.2.2)))
theorem c206x_eq {l : List Scp} {i : Nat} {s : Scp} (n : ByteArray) (h : l[i]? = some s) (hs : SRef s) : c206x [.ladr (l.map Scp.v) i 0, .str n] = some (false, fgOut (findF (fgI s) n)) := by
  have := ctr_eq (p := fun a : List Scp × Nat × ByteArray => ∃ s, a.1[a.2.1]? = some s ∧ SRef s) (enc := fun a => [.ladr (a.1.map Scp.v) a.2.1 0, .str a.2.2]) (out := fun a => (false, fgOut (findF (fgI ((a.1[a.2.1]?).getD noS)) a.2.2))) (injLxn _) (l, i, n) ⟨s, h, hs⟩ rfl
  simp only [h, Option.getD_some] at this
  exact this
theorem c206x_ok : COK Tryz.prog (206, c206x) := ctr_ok fun a h => by
  obtain ⟨s, h1, h2⟩ := h
  simp only [h1, Option.getD_some]
  exact FunOK.ixs (f206l_ok s a.2.2 h2) (atV h1)
theorem f162_ok (l : List Scp) (m n : ByteArray) (hl : l.length ≤ lim) (hm : modsB l = true) : FunOK Tryz.prog 162 [.lst (l.map Scp.v), .str m, .str n] false (fgOut (fgIn l m n)) := by
  refine fun_ok (mkE_ok zmix (cl := [(91, c91), (206, c206x)]) (gl := []) [] ⟨c91_ok, c206x_ok⟩ trivial) Tryz.func162 (by kernel_rfl) ?_
  refine FunW_run _ _ rfl rfl ?_
  have e91 := c91_eq l m hl
  by_cases h0 : fstI (nameIs m) l < 0
  · simp [e91, h0, fgIn, fgOut, sumO]
  · obtain ⟨s, hs, h1, h2⟩ := fst_at h0
    have e206 := c206x_eq n hs (scopeI_refs (mods_at hm hs).1)
    have e : fgIn l m n = findF (fgI s) n := by simp only [fgIn, h0, if_false, hs, Option.getD_some]
    rw [e]
    simp only [fgOut] at e206 ⊢
    simp [e91, h0, h1, h2, e206]
theorem f161_ok (l : List Scp) (m n : ByteArray) (hl : l.length ≤ lim) (hm : modsB l = true) : FunOK Tryz.prog 161 [.lst (l.map Scp.v), .str m, .str n] false (fgOut (fgIn l m n)) := by
  refine fun_ok (mkE_ok zmix (cl := [(160, c160), (205, c205), (204, c204)]) (gl := []) [] ⟨c160_ok, c205_ok, c204_ok⟩ trivial) Tryz.func161 (by kernel_rfl) ?_
  refine FunW_run _ _ rfl rfl ?_
  have e160 := c160_eq l m hl
  by_cases h0 : fstI (nameIs m) l < 0
  · simp [e160, h0, fgIn, fgOut, sumO]
  · obtain ⟨s, hs, h1, h2⟩ := fst_at h0
    have hsc := (mods_at hm hs).1
    have e205 := c205_eq s hsc
    have e204 := c204_eq (fgS s) n (by rw [← fg_eq (scopeI_refs hsc)]; have := fgI_len s; have := (scopeI_refs hsc).objs; simp only [lim]; omega)
    have e : fgIn l m n = findF (fgS s) n := by simp only [fgIn, h0, if_false, hs, Option.getD_some, fg_eq (scopeI_refs hsc)]
    rw [e]
    simp only [fgOut] at e204 ⊢
    simp only [Scp.v] at e205
    simp [-getElem?_pos, List.getElem?_cons_zero, List.getElem?_cons_succ, e160, h0, h1, h2, hs, e205, e204]
theorem injLmn {β : Type} (out : List Scp × ByteArray × ByteArray → β) : ∀ a b : List Scp × ByteArray × ByteArray, [V.lst (a.1.map Scp.v), .str a.2.1, .str a.2.2] = [V.lst (b.1.map Scp.v), .str b.2.1, .str b.2.2] → out a = out b := by
  rintro ⟨a, i, n⟩ ⟨b, j, m⟩ h
  simp only [List.cons.injEq, and_true, V.lst.injEq, V.str.injEq] at h
  rw [map_inj Scp.v_inj h.1, h.2.1, h.2.2]
noncomputable def c162 := ctr (fun a : List Scp × ByteArray × ByteArray => a.1.length ≤ lim ∧ modsB a.1 = true) (fun a => [.lst (a.1.map Scp.v), .str a.2.1, .str a.2.2]) (fun a => (false, fgOut (fgIn a.1 a.2.1 a.2.2)))
theorem c162_eq (l : List Scp) (m n : ByteArray) (hl : l.length ≤ lim) (hm : modsB l = true) : c162 [.lst (l.map Scp.v), .str m, .str n] = some (false, fgOut (fgIn l m n)) := ctr_eq (injLmn _) (l, m, n) ⟨hl, hm⟩ rfl
theorem c162_ok : COK Tryz.prog (162, c162) := ctr_ok fun a h => f162_ok a.1 a.2.1 a.2.2 h.1 h.2
noncomputable def c161 := ctr (fun a : List Scp × ByteArray × ByteArray => a.1.length ≤ lim ∧ modsB a.1 = true) (fun a => [.lst (a.1.map Scp.v), .str a.2.1, .str a.2.2]) (fun a => (false, fgOut (fgIn a.1 a.2.1 a.2.2)))
theorem c161_eq (l : List Scp) (m n : ByteArray) (hl : l.length ≤ lim) (hm : modsB l = true) : c161 [.lst (l.map Scp.v), .str m, .str n] = some (false, fgOut (fgIn l m n)) := ctr_eq (injLmn _) (l, m, n) ⟨hl, hm⟩ rfl
theorem c161_ok : COK Tryz.prog (161, c161) := ctr_ok fun a h => f161_ok a.1 a.2.1 a.2.2 h.1 h.2
end Go.TM.Tryz
end
section
set_option maxHeartbeats 8000000
set_option maxRecDepth 20000
set_option linter.unusedSimpArgs false
set_option linter.unusedVariables false
namespace Go.TM.Tryz
open Go Go.TM Go.Proofs
noncomputable def sawOf (l : List Scp) (u : Use) : Knw := ⟨u.mod, u.name, sumO (fgIn l u.mod u.name)⟩
noncomputable def sawB (l : List Scp) (i : Nat) (u : Use) : Bool := (fgIn l u.mod u.name).isSome
noncomputable def sawAll (l : List Scp) (us : List Use) : Bool := allI (sawB l) us us.length
noncomputable def sawL (l : List Scp) (us : List Use) : List Knw := if sawAll l us = true then us.map (sawOf l) else []
noncomputable def sawOut (l : List Scp) (us : List Use) : V := .tup [.inl 3 ((sawL l us).map Knw.v), .bool (sawAll l us)]
theorem roomK {n : Nat} (h : n ≤ 1048576) : room ⟨3, true, 40, .agg [.str ⟨#[]⟩, .str ⟨#[]⟩, .int .i64 0]⟩ n := by simp [room]; omega
theorem f94_ok (s : Scp) (l : List Scp) (hl : l.length ≤ lim) (hm : modsB l = true) (hu : s.uses.length ≤ 1000000) : FunOK Tryz.prog 94 [s.v, .lst (l.map Scp.v)] false (sawOut l s.uses) := by
  refine fun_ok (mkE_ok zmix (cl := [(161, c161)]) (gl := []) [] c161_ok trivial) Tryz.func94 (by kernel_rfl) ?_
  refine FunW_run _ _ rfl rfl ?_
  simp
  refine lp_list s.uses (fun i t => t.e 1 = .lst (l.map Scp.v) ∧ t.e 12 = .lst (s.uses.map Use.v) ∧ t.e 13 = .int .i64 s.uses.length ∧ t.e 14 = .int .i64 i ∧ allI (sawB l) s.uses i = true ∧ ∃ p, t.e 6 = .own p ∧ p < t.nt ∧ t.R p = some ⟨3, ((s.uses.take i).map (sawOf l)).map Knw.v, true⟩) ?_ ?_ ?_
  · simp
  · rintro c' L hL i t x hx hi ih ⟨h1, h12, h13, h14, hall, p, h6, hp, hR⟩
    have hw : IntKind.i64.wrap ((i : Int) + 1) = ((i + 1 : Nat) : Int) := wrap64 (by omega) (by omega)
    have e161 := c161_eq l x.mod x.name hl hm
    simp only [fgOut] at e161
    have n1 : ¬ p = t.nt := by omega
    have hmin : min i s.uses.length = i := by omega
    cases hg : (fgIn l x.mod x.name).isSome with
    | false =>
      rw [hg] at e161
      have hno : sawB l i x = false := hg
      have h2 := allI_no hx hno
      have h3 : sawAll l s.uses = false := h2
      simp [-getElem?_pos, List.getElem?_cons_zero, List.getElem?_cons_succ, h1, h12, h13, h14, h6, hR, hL, hi, hx, e161, n1, sawOut, sawL, h3]
    | true =>
      rw [hg] at e161
      have hyes : sawB l i x = true := hg
      have hr := roomK (n := i + 1) (by omega)
      simp [-getElem?_pos, List.getElem?_cons_zero, List.getElem?_cons_succ, h1, h12, h13, h14, h6, hR, hL, hi, hx, e161, n1, hr, hmin]
      refine ih _ ?_
      simp [h1, h12, h13, h14, h6, hR, hw, n1, allI_succ hx, hall, hyes, List.take_add_one, hx, sawOf]
  · rintro c' t ⟨h1, h12, h13, h14, hall, p, h6, hp, hR⟩
    rw [List.take_length] at hR
    have h3 : sawAll l s.uses = true := hall
    have hnl : noLs (s.uses.map (Knw.v ∘ sawOf l)) = true := by rw [← List.map_map]; exact noLs_knw _
    simp [h1, h12, h13, h14, h6, hR, sawOut, sawL, h3, hnl]
theorem f96_ok (s : Scp) (l : List Scp) (hl : l.length ≤ lim) (hm : modsB l = true) (hu : s.uses.length ≤ 1000000) : GenOK Tryz.prog 96 [.ptr 0 0, .lst (l.map Scp.v)] [s.v] ⟨false, sawOut l s.uses, [], [s.v]⟩ := by
  refine fun_okG (mkE_ok zmix (cl := [(162, c162)]) (gl := []) [] c162_ok trivial) Tryz.func96 (by kernel_rfl) ?_
  refine FunG_run _ _ rfl rfl ?_
  simp
  refine lp_list s.uses (fun i t => t.e 1 = .lst (l.map Scp.v) ∧ t.e 15 = .lst (s.uses.map Use.v) ∧ t.e 16 = .int .i64 s.uses.length ∧ t.e 17 = .int .i64 i ∧ t.B 0 = some s.v ∧ 0 < t.nb ∧ allI (sawB l) s.uses i = true ∧ ∃ p, t.e 6 = .own p ∧ p < t.nt ∧ t.R p = some ⟨3, ((s.uses.take i).map (sawOf l)).map Knw.v, true⟩) ?_ ?_ ?_
  · simp
  · rintro c' L hL i t x hx hi ih ⟨h1, h12, h13, h14, hB, hnb, hall, p, h6, hp, hR⟩
    have hw : IntKind.i64.wrap ((i : Int) + 1) = ((i + 1 : Nat) : Int) := wrap64 (by omega) (by omega)
    have e161 := c162_eq l x.mod x.name hl hm
    simp only [fgOut] at e161
    have n1 : ¬ p = t.nt := by omega
    have b1 : ¬ 0 = t.nb := by omega
    have b2 : ¬ t.nb = 0 := by omega
    simp only [Scp.v] at hB
    have hmin : min i s.uses.length = i := by omega
    cases hg : (fgIn l x.mod x.name).isSome with
    | false =>
      rw [hg] at e161
      have hno : sawB l i x = false := hg
      have h2 := allI_no hx hno
      have h3 : sawAll l s.uses = false := h2
      simp [-getElem?_pos, List.getElem?_cons_zero, List.getElem?_cons_succ, h1, h12, h13, h14, h6, hR, hB, b1, b2, hL, hi, hx, e161, n1, sawOut, sawL, h3]
    | true =>
      rw [hg] at e161
      have hyes : sawB l i x = true := hg
      have hr := roomK (n := i + 1) (by omega)
      simp [-getElem?_pos, List.getElem?_cons_zero, List.getElem?_cons_succ, h1, h12, h13, h14, h6, hR, hB, b1, b2, hL, hi, hx, e161, n1, hr, hmin]
      refine ih _ ?_
      simp [h1, h12, h13, h14, h6, hR, hB, hw, n1, b1, allI_succ hx, hall, hyes, List.take_add_one, hx, sawOf]
  · rintro c' t ⟨h1, h12, h13, h14, hB, hnb, hall, p, h6, hp, hR⟩
    rw [List.take_length] at hR
    simp only [Scp.v] at hB
    have h3 : sawAll l s.uses = true := hall
    have hnl : noLs (s.uses.map (Knw.v ∘ sawOf l)) = true := by rw [← List.map_map]; exact noLs_knw _
    simp [h1, h12, h13, h14, h6, hR, hB, sawOut, sawL, h3, hnl]
structure SawOK (s : Scp) (l : List Scp) : Prop where
  len : l.length ≤ lim
  ok : modsB l = true
  us : s.uses.length ≤ 1000000
theorem injSL {β : Type} (out : Scp × List Scp → β) : ∀ a b : Scp × List Scp, [a.1.v, V.lst (a.2.map Scp.v)] = [b.1.v, V.lst (b.2.map Scp.v)] → out a = out b := by
  rintro ⟨a, c⟩ ⟨b, d⟩ h
  simp only [List.cons.injEq, and_true, V.lst.injEq] at h
  rw [Scp.v_inj h.1, map_inj Scp.v_inj h.2]
noncomputable def c94 := ctr (fun a : Scp × List Scp => SawOK a.1 a.2) (fun a => [a.1.v, .lst (a.2.map Scp.v)]) (fun a => (false, sawOut a.2 a.1.uses))
theorem c94_eq (s : Scp) (l : List Scp) (h : SawOK s l) : c94 [s.v, .lst (l.map Scp.v)] = some (false, sawOut l s.uses) := ctr_eq (injSL _) (s, l) h rfl
theorem c94_ok : COK Tryz.prog (94, c94) := ctr_ok fun a h => f94_ok a.1 a.2 h.len h.ok h.us
theorem injSG {β : Type} (out : Scp × List Scp → β) : ∀ a b : Scp × List Scp, (([.ptr 0 0, .lst (a.2.map Scp.v)], [a.1.v]) : List V × List V) = ([.ptr 0 0, .lst (b.2.map Scp.v)], [b.1.v]) → out a = out b := by
  rintro ⟨a, c⟩ ⟨b, d⟩ h
  simp only [Prod.mk.injEq, List.cons.injEq, and_true, V.lst.injEq, true_and] at h
  rw [Scp.v_inj h.2, map_inj Scp.v_inj h.1]
noncomputable def c96 := ctrG (fun a : Scp × List Scp => SawOK a.1 a.2) (fun a => ([.ptr 0 0, .lst (a.2.map Scp.v)], [a.1.v])) (fun a => ⟨false, sawOut a.2 a.1.uses, [], [a.1.v]⟩)
theorem c96_eq (s : Scp) (l : List Scp) (h : SawOK s l) : c96 [.ptr 0 0, .lst (l.map Scp.v)] [s.v] = some ⟨false, sawOut l s.uses, [], [s.v]⟩ := ctrG_eq (injSG _) (s, l) h rfl
theorem c96_ok : GOK Tryz.prog (96, [], c96) := ctrG_ok fun a h => f96_ok a.1 a.2 h.len h.ok h.us
/-- What a client saw. -/
noncomputable def seenB (s : Scp) (l : List Scp) : Bool := scopeI s && modsB l && sawAll l s.uses
noncomputable def seenR (s : Scp) (l : List Scp) : List Knw := if (scopeI s && modsB l) = true then sawL l s.uses else []
noncomputable def seenO (s : Scp) (l : List Scp) : V := .tup [.inl 3 ((seenR s l).map Knw.v), .bool (seenB s l)]
theorem scopeI_uses {s : Scp} (h : scopeI s = true) : s.uses.length ≤ 40 := by
  rw [← good_eq] at h
  simp only [goodS, goodTl, Bool.and_eq_true, decide_eq_true_eq] at h
  exact h.2.2
theorem f34_ok (s : Scp) (l : List Scp) (hs : s.lim) (hl : limL Scp.lim l) : FunOK Tryz.prog 34 [s.v, .lst (l.map Scp.v)] false (seenO s l) := by
  refine fun_ok (mkE_ok zmix (cl := [(60, c60), (93, c93), (94, c94)]) (gl := []) [] ⟨c60_ok, c93_ok, c94_ok⟩ trivial) Tryz.func34 (by kernel_rfl) ?_
  refine FunW_run _ _ rfl rfl ?_
  have e60 := c60_eq s hs
  have e93 := c93_eq l hl
  simp only [Scp.v] at e60
  cases h1 : scopeI s with
  | false =>
    rw [h1] at e60
    cases h2 : modsB l <;> rw [h2] at e93 <;> simp [e60, e93, seenO, seenR, seenB, h1]
  | true =>
    rw [h1] at e60
    cases h2 : modsB l with
    | false =>
      rw [h2] at e93
      simp [e60, e93, seenO, seenR, seenB, h1, h2]
    | true =>
      rw [h2] at e93
      have hu := scopeI_uses h1
      have e94 := c94_eq s l ⟨hl.1, h2, by omega⟩
      simp only [Scp.v, sawOut] at e94
      simp [e60, e93, e94, seenO, seenR, seenB, h1, h2]
theorem f36_ok (s : Scp) (l : List Scp) (hs : s.lim) (hl : limL Scp.lim l) : FunOK Tryz.prog 36 [s.v, .lst (l.map Scp.v)] false (seenO s l) := by
  refine fun_ok (mkE_ok zmix (cl := [(66, c66), (95, c95)]) (gl := [(96, [], c96)]) [] ⟨c66_ok, c95_ok⟩ c96_ok) Tryz.func36 (by kernel_rfl) ?_
  refine FunW_run _ _ rfl rfl ?_
  have e66 := c66_eq s hs
  have e95 := c95_eq l hl
  simp only [Scp.v] at e66
  cases h1 : scopeI s with
  | false =>
    rw [h1] at e66
    cases h2 : modsB l <;> rw [h2] at e95 <;> simp [e66, e95, seenO, seenR, seenB, h1]
  | true =>
    rw [h1] at e66
    cases h2 : modsB l with
    | false =>
      rw [h2] at e95
      simp [e66, e95, seenO, seenR, seenB, h1, h2]
    | true =>
      rw [h2] at e95
      have hu := scopeI_uses h1
      have e96 := c96_eq s l ⟨hl.1, h2, by omega⟩
      simp only [Scp.v, sawOut] at e96
      simp [e66, e95, e96, seenO, seenR, seenB, h1, h2]
end Go.TM.Tryz
end
