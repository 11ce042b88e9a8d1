/- A part of the proof: IJ, IK, IO, IP, IQ, IR. -/
import Derived.Test.YtknondpcbpgpoaaGreatK18
set_option linter.unusedVariables false
set_option linter.unusedSimpArgs false
section
set_option maxHeartbeats 8000000
set_option maxRecDepth 20000
namespace Go.TM.Tryz
open Go Go.TM Go.Proofs
theorem f239l_ok (s : Scp) (h : SRef s) : FunOK Tryz.prog 239 [.ladr [s.v] 0 0] false (.inl 3 ((fgI s).map Fgr.v)) := by
  refine fun_ok (mkE2_ok zmix (cl := [(257, c257), (258, c258)]) (gl := [(259, [true], c259)]) [] [(6, cut30)] ⟨c257_ok, c258_ok⟩ c259_ok) Tryz.func239 (by kernel_rfl) ?_
  refine FunW_run _ _ rfl rfl ?_
  have e64 := c257_eq s.types h.ty
  have hcl := roundsT_len s.types 25
  have hol := h.objs
  have hc24 := h.ty.len
  unfold fgI
  generalize roundsT s.types 25 = cur at *
  simp [e64]
  refine lp_list s.objects (fun i t => t.e 16 = .lst (s.objects.map Obj.v) ∧ t.e 17 = .int .i64 s.objects.length ∧ t.e 18 = .int .i64 i ∧ (∃ r q, t.e 3 = .own r ∧ t.e 4 = .own q ∧ r < t.nt ∧ q < t.nt ∧ r ≠ q ∧ t.R r = some ⟨3, (fgrsTo cur s.objects i).map Fgr.v, true⟩ ∧ t.R q = some ⟨1, cur.map (V.int .i64), true⟩)) ?_ ?_ ?_
  · simp [fgrsTo_zero]
  · rintro c' L hL i t o hx hi ih ⟨h16, h17, h18, r, q, h3, h4, hr, hq, nrq, hR, hQ⟩
    have hw := wrI (i := i) (by omega)
    have hor := h.obj o (List.mem_of_getElem? hx)
    have e65 := c258_eq o cur (by rw [hcl]; exact hor) (by omega)
    simp only [Obj.v] at e65
    have nqr : ¬ q = r := fun e => nrq e.symm
    have m3 : ¬ q = t.nt + 1 + 1 := by omega
    have n1 : ¬ r = t.nt := by omega
    have n2 : ¬ q = t.nt := by omega
    have m1 : ¬ r = t.nt + 1 := by omega
    have m2 : ¬ q = t.nt + 1 := by omega
    by_cases hm : 0 < o.mark
    · simp [-getElem?_pos, gcz, gcs, -aftE_some, cut30_run, pureOp, h16, h17, h18, h3, h4, hR, hQ, hL, hi, hx, e65, hm, n1, n2, m1, m2, range1]
      refine ⟨roomF (by have := fgrsTo_len cur s.objects i; omega), ih _ ?_⟩
      simp [h16, h17, h18, h3, h4, hR, hQ, hw, n1, n2, m1, m2, nrq, nqr, m3, fgrsTo_yes hx hm, fgrOf]
      omega
    · simp [-getElem?_pos, gcz, gcs, -aftE_some, cut30_run, pureOp, h16, h17, h18, h3, h4, hR, hQ, hL, hi, hx, hm, n1, n2]
      refine ih _ ?_
      simp [h16, h17, h18, h3, h4, hR, hQ, hw, n1, n2, nrq, fgrsTo_no hx hm]
      omega
  · rintro c' t ⟨h16, h17, h18, r, q, h3, h4, hr, hq, nrq, hR, hQ⟩
    rw [fgrsTo_all] at hR
    have e66 := c259_eq (fgrs cur s.objects) (by have := fgrsTo_len cur s.objects s.objects.length; rw [fgrsTo_all] at this; omega)
    simp [h16, h17, h18, h3, h4, hR, hQ, e66]
noncomputable def c239l := ctr (fun s : Scp => SRef s) (fun s => [.ladr [s.v] 0 0]) (fun s => (false, .inl 3 ((fgI s).map Fgr.v)))
theorem c239l_eq (s : Scp) (h : SRef s) : c239l [.ladr [s.v] 0 0] = some (false, .inl 3 ((fgI s).map Fgr.v)) := ctr_eq (injL1 _) s h rfl
theorem c239l_ok : COK Tryz.prog (239, c239l) := ctr_ok fun s h => f239l_ok s h
def fgOut (r : Option Fgr) : V := .tup [.int .i64 (sumO r), .bool r.isSome]
theorem f206l_ok (s : Scp) (n : ByteArray) (h : SRef s) : FunOK Tryz.prog 206 [.ladr [s.v] 0 0, .str n] false (fgOut (findF (fgI s) n)) := by
  refine fun_ok (mkE_ok zmix (cl := [(239, c239l)]) (gl := []) [] c239l_ok trivial) Tryz.func206 (by kernel_rfl) ?_
  refine FunW_run _ _ rfl rfl ?_
  have e30 := c239l_eq s h
  simp only [Scp.v] at e30
  have hl := fgI_len s
  have hol := h.objs
  unfold findF fgOut
  generalize fgI s = A at *
  simp [e30]
  refine lp_list A (fun i t => t.e 1 = .str n ∧ t.e 10 = .int .i64 A.length ∧ t.e 11 = .int .i64 i ∧ (∃ p, t.e 9 = .own p ∧ p < t.nt ∧ t.R p = some ⟨3, A.map Fgr.v, true⟩) ∧ A.find? (fun y => decide (y.name = n)) = (A.drop i).find? (fun y => decide (y.name = n))) ?_ ?_ ?_
  · simp
  · rintro c' L hL i t x hx hi ih ⟨h1, h10, h11, ⟨p, h9, hp, hR⟩, hf⟩
    have hw := wrI (i := i) (by omega)
    rw [findF_at n hx] at hf
    by_cases he : x.name = n
    · rw [if_pos he] at hf
      simp [-getElem?_pos, gcz, gcs, h1, h10, h11, h9, hR, hL, hi, hx, he, hf, sumO]
    · rw [if_neg he] at hf
      simp [-getElem?_pos, gcz, gcs, h1, h10, h11, h9, hR, hL, hi, hx, he]
      refine ih _ ?_
      simp [h1, h10, h11, h9, hp, hR, hw, hf]
  · rintro c' t ⟨h1, h10, h11, ⟨p, h9, hp, hR⟩, hf⟩
    simp only [List.drop_length, List.find?_nil] at hf
    simp [h1, h10, h11, h9, hR, hf, sumO]
theorem f204_ok (A : List Fgr) (n : ByteArray) (hA : A.length ≤ lim) : FunOK Tryz.prog 204 [.lst (A.map Fgr.v), .str n] false (fgOut (findF A n)) := by
  refine fun_ok (mkE_ok zmix (cl := []) (gl := []) [] trivial trivial) Tryz.func204 (by kernel_rfl) ?_
  refine FunW_run _ _ rfl rfl ?_
  simp only [lim] at hA
  unfold findF fgOut
  simp
  refine lp_list A (fun i t => t.e 1 = .str n ∧ t.e 8 = .lst (A.map Fgr.v) ∧ t.e 9 = .int .i64 A.length ∧ t.e 10 = .int .i64 i ∧ A.find? (fun y => decide (y.name = n)) = (A.drop i).find? (fun y => decide (y.name = n))) ?_ ?_ ?_
  · simp
  · rintro c' L hL i t x hx hi ih ⟨h1, h8, h9, h10, hf⟩
    have hw := wrI (i := i) (by omega)
    rw [findF_at n hx] at hf
    by_cases he : x.name = n
    · rw [if_pos he] at hf
      simp [-getElem?_pos, gcz, gcs, h1, h8, h9, h10, hL, hi, hx, he, hf, sumO]
    · rw [if_neg he] at hf
      simp [-getElem?_pos, gcz, gcs, h1, h8, h9, h10, hL, hi, hx, he]
      refine ih _ ?_
      simp [h1, h8, h9, h10, hw, hf]
  · rintro c' t ⟨h1, h8, h9, h10, hf⟩
    simp only [List.drop_length, List.find?_nil] at hf
    simp [h1, h8, h9, h10, hf, sumO]
noncomputable def c204 := ctr (fun a : List Fgr × ByteArray => a.1.length ≤ lim) (fun a => [.lst (a.1.map Fgr.v), .str a.2]) (fun a => (false, fgOut (findF a.1 a.2)))
theorem inj204 {β : Type} (out : List Fgr × ByteArray → β) : ∀ a b : List Fgr × ByteArray, [V.lst (a.1.map Fgr.v), .str a.2] = [V.lst (b.1.map Fgr.v), .str b.2] → out a = out b := by
  rintro ⟨a, c⟩ ⟨b, d⟩ h
  simp only [List.cons.injEq, and_true, V.lst.injEq, V.str.injEq] at h
  rw [map_inj Fgr.v_inj h.1, h.2]
theorem c204_eq (l : List Fgr) (n : ByteArray) (h : l.length ≤ lim) : c204 [.lst (l.map Fgr.v), .str n] = some (false, fgOut (findF l n)) := ctr_eq (inj204 _) (l, n) h rfl
theorem c204_ok : COK Tryz.prog (204, c204) := ctr_ok fun a h => f204_ok a.1 a.2 h
end Go.TM.Tryz
end
section
set_option maxHeartbeats 8000000
set_option maxRecDepth 20000
namespace Go.TM.Tryz
open Go Go.TM Go.Proofs
theorem fst_at {α : Type} {p : α → Bool} {xs : List α} (h : ¬ fstI p xs < 0) : ∃ x, xs[(fstI p xs).toNat]? = some x ∧ 0 ≤ fstI p xs ∧ fstI p xs < xs.length := by
  unfold fstI at *
  by_cases ha : xs.any p = true
  · rw [if_pos ha]
    have hlt : xs.findIdx p < xs.length := by
      rw [List.findIdx_lt_length]
      obtain ⟨x, hx, hp⟩ := List.any_eq_true.1 ha
      exact ⟨x, hx, hp⟩
    exact ⟨_, List.getElem?_eq_getElem (by simpa using hlt), by omega, by simpa using hlt⟩
  · rw [if_neg ha] at h
    omega
theorem mods_at {l : List Scp} (h : modsB l = true) {i : Nat} {s : Scp} (hs : l[i]? = some s) : scopeI s = true ∧ exS s = s := by
  simp only [modsB, Bool.and_eq_true] at h
  have := allI_iff.1 h.1 i s hs
  simp only [modAtB, Bool.and_eq_true, decide_eq_true_eq] at this
  exact this.1
noncomputable def fgIn (l : List Scp) (m n : ByteArray) : Option Fgr := if fstI (nameIs m) l < 0 then none else findF (fgI ((l[(fstI (nameIs m) l).toNat]?).getD noS)) n
theorem injLxn {β : Type} (out : List Scp × Nat × ByteArray → β) : ∀ a b : List Scp × Nat × ByteArray, [V.ladr (a.1.map Scp.v) a.2.1 0, .str a.2.2] = [V.ladr (b.1.map Scp.v) b.2.1 0, .str b.2.2] → out a = out b := by
  rintro ⟨a, i, n⟩ ⟨b, j, m⟩ h
  simp only [List.cons.injEq, and_true, V.ladr.injEq, V.str.injEq] at h
  rw [map_inj Scp.v_inj h.1.1, h.1.2, h.2]
noncomputable def c206x := ctr (fun a : List Scp × Nat × ByteArray => ∃ s, a.1[a.2.1]? = some s ∧ SRef s) (fun a => [.ladr (a.1.map Scp.v) a.2.1 0, .str a.2.2]) (fun a => (false, fgOut (findF (fgI ((a.1[a.2.1]?).getD noS)) a.2.2)))
theorem c206x_eq {l : List Scp} {i : Nat} {s : Scp} (n : ByteArray) (h : l[i]? = some s) (hs : SRef s) : c206x [.ladr (l.map Scp.v) i 0, .str n] = some (false, fgOut (findF (fgI s) n)) := by
  have := ctr_eq (p := fun a : List Scp × Nat × ByteArray => ∃ s, a.1[a.2.1]? = some s ∧ SRef s) (enc := fun a => [.ladr (a.1.map Scp.v) a.2.1 0, .str a.2.2]) (out := fun a => (false, fgOut (findF (fgI ((a.1[a.2.1]?).getD noS)) a.2.2))) (injLxn _) (l, i, n) ⟨s, h, hs⟩ rfl
  simp only [h, Option.getD_some] at this
  exact this
theorem c206x_ok : COK Tryz.prog (206, c206x) := ctr_ok fun a h => by
  obtain ⟨s, h1, h2⟩ := h
  simp only [h1, Option.getD_some]
  exact FunOK.ixs (f206l_ok s a.2.2 h2) (atV h1)
theorem f162_ok (l : List Scp) (m n : ByteArray) (hl : l.length ≤ lim) (hm : modsB l = true) : FunOK Tryz.prog 162 [.lst (l.map Scp.v), .str m, .str n] false (fgOut (fgIn l m n)) := by
  refine fun_ok (mkE_ok zmix (cl := [(91, c91), (206, c206x)]) (gl := []) [] ⟨c91_ok, c206x_ok⟩ trivial) Tryz.func162 (by kernel_rfl) ?_
  refine FunW_run _ _ rfl rfl ?_
  have e91 := c91_eq l m hl
  by_cases h0 : fstI (nameIs m) l < 0
  · simp [e91, h0, fgIn, fgOut, sumO]
  · obtain ⟨s, hs, h1, h2⟩ := fst_at h0
    have e206 := c206x_eq n hs (scopeI_refs (mods_at hm hs).1)
    have e : fgIn l m n = findF (fgI s) n := by simp only [fgIn, h0, if_false, hs, Option.getD_some]
    rw [e]
    simp only [fgOut] at e206 ⊢
    simp [e91, h0, h1, h2, e206]
theorem f161_ok (l : List Scp) (m n : ByteArray) (hl : l.length ≤ lim) (hm : modsB l = true) : FunOK Tryz.prog 161 [.lst (l.map Scp.v), .str m, .str n] false (fgOut (fgIn l m n)) := by
  refine fun_ok (mkE_ok zmix (cl := [(160, c160), (205, c205), (204, c204)]) (gl := []) [] ⟨c160_ok, c205_ok, c204_ok⟩ trivial) Tryz.func161 (by kernel_rfl) ?_
  refine FunW_run _ _ rfl rfl ?_
  have e160 := c160_eq l m hl
  by_cases h0 : fstI (nameIs m) l < 0
  · simp [e160, h0, fgIn, fgOut, sumO]
  · obtain ⟨s, hs, h1, h2⟩ := fst_at h0
    have hsc := (mods_at hm hs).1
    have e205 := c205_eq s hsc
    have e204 := c204_eq (fgS s) n (by rw [← fg_eq (scopeI_refs hsc)]; have := fgI_len s; have := (scopeI_refs hsc).objs; simp only [lim]; omega)
    have e : fgIn l m n = findF (fgS s) n := by simp only [fgIn, h0, if_false, hs, Option.getD_some, fg_eq (scopeI_refs hsc)]
    rw [e]
    simp only [fgOut] at e204 ⊢
    simp only [Scp.v] at e205
    simp [-getElem?_pos, gcz, gcs, e160, h0, h1, h2, hs, e205, e204]
theorem injLmn {β : Type} (out : List Scp × ByteArray × ByteArray → β) : ∀ a b : List Scp × ByteArray × ByteArray, [V.lst (a.1.map Scp.v), .str a.2.1, .str a.2.2] = [V.lst (b.1.map Scp.v), .str b.2.1, .str b.2.2] → out a = out b := by
  rintro ⟨a, i, n⟩ ⟨b, j, m⟩ h
  simp only [List.cons.injEq, and_true, V.lst.injEq, V.str.injEq] at h
  rw [map_inj Scp.v_inj h.1, h.2.1, h.2.2]
noncomputable def c162 := ctr (fun a : List Scp × ByteArray × ByteArray => a.1.length ≤ lim ∧ modsB a.1 = true) (fun a => [.lst (a.1.map Scp.v), .str a.2.1, .str a.2.2]) (fun a => (false, fgOut (fgIn a.1 a.2.1 a.2.2)))
theorem c162_eq (l : List Scp) (m n : ByteArray) (hl : l.length ≤ lim) (hm : modsB l = true) : c162 [.lst (l.map Scp.v), .str m, .str n] = some (false, fgOut (fgIn l m n)) := ctr_eq (injLmn _) (l, m, n) ⟨hl, hm⟩ rfl
theorem c162_ok : COK Tryz.prog (162, c162) := ctr_ok fun a h => f162_ok a.1 a.2.1 a.2.2 h.1 h.2
noncomputable def c161 := ctr (fun a : List Scp × ByteArray × ByteArray => a.1.length ≤ lim ∧ modsB a.1 = true) (fun a => [.lst (a.1.map Scp.v), .str a.2.1, .str a.2.2]) (fun a => (false, fgOut (fgIn a.1 a.2.1 a.2.2)))
theorem c161_eq (l : List Scp) (m n : ByteArray) (hl : l.length ≤ lim) (hm : modsB l = true) : c161 [.lst (l.map Scp.v), .str m, .str n] = some (false, fgOut (fgIn l m n)) := ctr_eq (injLmn _) (l, m, n) ⟨hl, hm⟩ rfl
theorem c161_ok : COK Tryz.prog (161, c161) := ctr_ok fun a h => f161_ok a.1 a.2.1 a.2.2 h.1 h.2
end Go.TM.Tryz
end
section
set_option maxHeartbeats 8000000
set_option maxRecDepth 20000
namespace Go.TM.Tryz
open Go Go.TM Go.Proofs
noncomputable def offB (l : List Scp) (x : Knw) : Bool := !(fgIn l x.mod x.name).isSome || decide (sumO (fgIn l x.mod x.name) ≠ x.value)
noncomputable def offL (l : List Scp) (xs : List Knw) : List Use := (xs.filter (offB l)).map fun x => ⟨x.mod, x.name⟩
theorem offL_len (l : List Scp) (xs : List Knw) : (offL l xs).length ≤ xs.length := by
  simp only [offL, List.length_map]
  exact List.length_filter_le _ _
theorem offL_yes {l : List Scp} {xs : List Knw} {i : Nat} {x : Knw} (h : xs[i]? = some x) (hp : offB l x = true) : offL l (xs.take (i + 1)) = offL l (xs.take i) ++ [⟨x.mod, x.name⟩] := by
  simp [offL, List.take_add_one, h, hp]
theorem offL_no {l : List Scp} {xs : List Knw} {i : Nat} {x : Knw} (h : xs[i]? = some x) (hp : offB l x = false) : offL l (xs.take (i + 1)) = offL l (xs.take i) := by
  simp [offL, List.take_add_one, h, hp]
theorem roomU {n : Nat} (h : n ≤ 1048576) : room ⟨2, true, 32, .agg [.str ⟨#[]⟩, .str ⟨#[]⟩]⟩ n := by simp [room]; omega
theorem f100_ok (xs : List Knw) (l : List Scp) (hl : l.length ≤ lim) (hm : modsB l = true) (hx : xs.length ≤ 1000000) : FunOK Tryz.prog 100 [.lst (xs.map Knw.v), .lst (l.map Scp.v)] false (.inl 2 ((offL l xs).map Use.v)) := by
  refine fun_ok (mkE_ok zmix (cl := [(161, c161)]) (gl := []) [] c161_ok trivial) Tryz.func100 (by kernel_rfl) ?_
  refine FunW_run _ _ rfl rfl ?_
  simp
  refine lp_list xs (fun i t => t.e 1 = .lst (l.map Scp.v) ∧ t.e 10 = .lst (xs.map Knw.v) ∧ t.e 11 = .int .i64 xs.length ∧ t.e 12 = .int .i64 i ∧ ∃ p, t.e 5 = .own p ∧ p < t.nt ∧ t.R p = some ⟨2, (offL l (xs.take i)).map Use.v, true⟩) ?_ ?_ ?_
  · simp [offL]
  · rintro c' L hL i t x hx' hi ih ⟨h1, h12, h13, h14, p, h6, hp, hR⟩
    have hw := wrI (i := i) (by omega)
    have e1 := c161_eq l x.mod x.name hl hm
    simp only [fgOut] at e1
    have n1 : ¬ p = t.nt := by omega
    have hln := offL_len l (xs.take i)
    rw [List.length_take] at hln
    have hr := roomU (n := (offL l (xs.take i)).length + 1) (by omega)
    cases ho : offB l x with
    | false =>
      have hno := offL_no hx' ho
      simp only [offB, Bool.or_eq_false_iff, Bool.not_eq_false', decide_eq_false_iff_not, Classical.not_not] at ho
      rw [ho.1, ho.2] at e1
      simp [-getElem?_pos, gcz, gcs, h1, h12, h13, h14, h6, hR, hL, hi, hx', e1, n1]
      refine ih _ ?_
      simp [h1, h12, h13, h14, h6, hR, hw, n1, hno]
      omega
    | true =>
      have hyes := offL_yes hx' ho
      cases hg : (fgIn l x.mod x.name).isSome with
      | false =>
        rw [hg] at e1
        simp [-getElem?_pos, gcz, gcs, h1, h12, h13, h14, h6, hR, hL, hi, hx', e1, n1, hr]
        refine ih _ ?_
        simp [h1, h12, h13, h14, h6, hR, hw, n1, hyes]
      | true =>
        rw [hg] at e1
        have hne : ¬ sumO (fgIn l x.mod x.name) = x.value := by
          simpa [offB, hg] using ho
        simp [-getElem?_pos, gcz, gcs, h1, h12, h13, h14, h6, hR, hL, hi, hx', e1, n1, hr, hne]
        refine ih _ ?_
        simp [h1, h12, h13, h14, h6, hR, hw, n1, hyes]
  · rintro c' t ⟨h1, h12, h13, h14, p, h6, hp, hR⟩
    rw [List.take_length] at hR
    simp [h1, h12, h13, h14, h6, hR]
theorem f103_ok (xs : List Knw) (l : List Scp) (hl : l.length ≤ lim) (hm : modsB l = true) (hx : xs.length ≤ 1000000) : FunOK Tryz.prog 103 [.lst (xs.map Knw.v), .lst (l.map Scp.v)] false (.inl 2 ((offL l xs).map Use.v)) := by
  refine fun_ok (mkE_ok zmix (cl := [(162, c162)]) (gl := []) [] c162_ok trivial) Tryz.func103 (by kernel_rfl) ?_
  refine FunW_run _ _ rfl rfl ?_
  simp
  refine lp_list xs (fun i t => t.e 1 = .lst (l.map Scp.v) ∧ t.e 11 = .lst (xs.map Knw.v) ∧ t.e 12 = .int .i64 xs.length ∧ t.e 13 = .int .i64 i ∧ ∃ p, t.e 5 = .own p ∧ p < t.nt ∧ t.R p = some ⟨2, (offL l (xs.take i)).map Use.v, true⟩) ?_ ?_ ?_
  · simp [offL]
  · rintro c' L hL i t x hx' hi ih ⟨h1, h12, h13, h14, p, h6, hp, hR⟩
    have hw := wrI (i := i) (by omega)
    have e1 := c162_eq l x.mod x.name hl hm
    simp only [fgOut] at e1
    have n1 : ¬ p = t.nt := by omega
    have hln := offL_len l (xs.take i)
    rw [List.length_take] at hln
    have hr := roomU (n := (offL l (xs.take i)).length + 1) (by omega)
    cases ho : offB l x with
    | false =>
      have hno := offL_no hx' ho
      simp only [offB, Bool.or_eq_false_iff, Bool.not_eq_false', decide_eq_false_iff_not, Classical.not_not] at ho
      rw [ho.1, ho.2] at e1
      simp [-getElem?_pos, gcz, gcs, h1, h12, h13, h14, h6, hR, hL, hi, hx', e1, n1]
      refine ih _ ?_
      simp [h1, h12, h13, h14, h6, hR, hw, n1, hno]
      omega
    | true =>
      have hyes := offL_yes hx' ho
      cases hg : (fgIn l x.mod x.name).isSome with
      | false =>
        rw [hg] at e1
        simp [-getElem?_pos, gcz, gcs, h1, h12, h13, h14, h6, hR, hL, hi, hx', e1, n1, hr]
        refine ih _ ?_
        simp [h1, h12, h13, h14, h6, hR, hw, n1, hyes]
      | true =>
        rw [hg] at e1
        have hne : ¬ sumO (fgIn l x.mod x.name) = x.value := by
          simpa [offB, hg] using ho
        simp [-getElem?_pos, gcz, gcs, h1, h12, h13, h14, h6, hR, hL, hi, hx', e1, n1, hr, hne]
        refine ih _ ?_
        simp [h1, h12, h13, h14, h6, hR, hw, n1, hyes]
  · rintro c' t ⟨h1, h12, h13, h14, p, h6, hp, hR⟩
    rw [List.take_length] at hR
    simp [h1, h12, h13, h14, h6, hR]
end Go.TM.Tryz
end
section
set_option maxHeartbeats 8000000
set_option maxRecDepth 20000
namespace Go.TM.Tryz
open Go Go.TM Go.Proofs
def sameK2 (p q : Knw) : Bool := decide (q.mod = p.mod) && decide (q.name = p.name)
theorem f164_ok (q : Knw) (p : Knw) : FunOK Tryz.prog 164 [q.v, .ladr [p.v] 0 0] false (.bool (sameK2 p q)) := by
  refine fun_ok (mkE_ok zmix (cl := []) (gl := []) [] trivial trivial) Tryz.func164 (by kernel_rfl) ?_
  refine FunW_run _ _ rfl rfl ?_
  simp [sameK2]
theorem inj164 {β : Type} (out : Knw × Knw → β) : ∀ a b : Knw × Knw, [a.1.v, V.ladr [a.2.v] 0 0] = [b.1.v, .ladr [b.2.v] 0 0] → out a = out b := by
  rintro ⟨a, c⟩ ⟨b, d⟩ h
  simp only [List.cons.injEq, and_true, V.ladr.injEq] at h
  rw [Knw.v_inj h.1, Knw.v_inj h.2]
noncomputable def c164 := ctr (fun _ : Knw × Knw => True) (fun a => [a.1.v, .ladr [a.2.v] 0 0]) (fun a => (false, .bool (sameK2 a.2 a.1)))
theorem c164_eq (q : Knw) (p : Knw) : c164 [q.v, .ladr [p.v] 0 0] = some (false, .bool (sameK2 p q)) := ctr_eq (inj164 _) (q, p) trivial rfl
theorem c164_ok : COK Tryz.prog (164, c164) := ctr_ok fun a h => f164_ok a.1 a.2
theorem f207_ok (l : List Knw) (p : Knw) (hl : l.length ≤ lim) : FunOK Tryz.prog 207 [.lst (l.map Knw.v), .fn 164 [.ladr [p.v] 0 0]] false (.int .i64 (fstI (sameK2 p) l)) := by
  refine fun_ok (mkE_ok zmix (cl := [(164, c164)]) (gl := []) [] c164_ok trivial) Tryz.func207 (by kernel_rfl) ?_
  refine FunW_run _ _ rfl rfl ?_
  simp only [lim] at hl
  simp
  refine lp_list l (fun i t => t.e 1 = .fn 164 [.ladr [p.v] 0 0] ∧ t.e 0 = .lst (l.map Knw.v) ∧ t.e 7 = .int .i64 l.length ∧ t.e 8 = .int .i64 i ∧ anyI (sameK2 p) l i = false) ?_ ?_ ?_
  · simp
  · rintro c' L hL i t x hx hi ih ⟨h1, h7, h8, h9, hall⟩
    have hw := wrI (i := i) (by omega)
    have e := c164_eq x p
    simp only [Knw.v] at e h1
    simp [-getElem?_pos, List.getElem?_cons_zero, h1, h7, h8, h9, hL, hi, hx, e]
    split
    · rename_i hc
      exact (fst_yes hx hc hall).symm
    · rename_i hc
      refine ih _ ?_
      simp [h1, h7, h8, h9, hw, anyI_succ hx, hall, hc]
  · rintro c' t ⟨h1, h7, h8, h9, hall⟩
    simp [h1, h7, h8, h9, fst_no hall]
theorem inj207 {β : Type} (out : List Knw × Knw → β) : ∀ a b : List Knw × Knw, [V.lst (a.1.map Knw.v), .fn 164 [.ladr [a.2.v] 0 0]] = [V.lst (b.1.map Knw.v), .fn 164 [.ladr [b.2.v] 0 0]] → out a = out b := by
  rintro ⟨a, c⟩ ⟨b, d⟩ h
  simp only [List.cons.injEq, and_true, V.ladr.injEq, V.fn.injEq, true_and, V.lst.injEq] at h
  rw [map_inj Knw.v_inj h.1, Knw.v_inj h.2]
noncomputable def c207 := ctr (fun a : List Knw × Knw => a.1.length ≤ lim) (fun a => [.lst (a.1.map Knw.v), .fn 164 [.ladr [a.2.v] 0 0]]) (fun a => (false, .int .i64 (fstI (sameK2 a.2) a.1)))
theorem c207_eq (l : List Knw) (p : Knw) (h : l.length ≤ lim) : c207 [.lst (l.map Knw.v), .fn 164 [.ladr [p.v] 0 0]] = some (false, .int .i64 (fstI (sameK2 p) l)) := ctr_eq (inj207 _) (l, p) h rfl
theorem c207_ok : COK Tryz.prog (207, c207) := ctr_ok fun a h => f207_ok a.1 a.2 h
theorem f163_ok (l : List Knw) (p : Knw) (hl : l.length ≤ lim) : FunOK Tryz.prog 163 [.lst (l.map Knw.v), .fn 164 [.ladr [p.v] 0 0]] false (.bool (l.any (sameK2 p))) := by
  refine fun_ok (mkE_ok zmix (cl := [(207, c207)]) (gl := []) [] c207_ok trivial) Tryz.func163 (by kernel_rfl) ?_
  refine FunW_run _ _ rfl rfl ?_
  have e := c207_eq l p hl
  simp only [Knw.v] at e
  simp [e, fst_ge]
noncomputable def c163 := ctr (fun a : List Knw × Knw => a.1.length ≤ lim) (fun a => [.lst (a.1.map Knw.v), .fn 164 [.ladr [a.2.v] 0 0]]) (fun a => (false, .bool (a.1.any (sameK2 a.2))))
theorem c163_eq (l : List Knw) (p : Knw) (h : l.length ≤ lim) : c163 [.lst (l.map Knw.v), .fn 164 [.ladr [p.v] 0 0]] = some (false, .bool (l.any (sameK2 p))) := ctr_eq (inj207 _) (l, p) h rfl
theorem c163_ok : COK Tryz.prog (163, c163) := ctr_ok fun a h => f163_ok a.1 a.2 h
def knwAt (l : List Knw) (i : Nat) (x : Knw) : Bool := nameB x.mod && nameB x.name && decide (0 ≤ x.value) && !(l.take i).any (sameK2 x)
def knwsB (l : List Knw) : Bool := allI (knwAt l) l l.length && decide (l.length ≤ 40)
theorem knwAt_iff (l : List Knw) (i : Nat) (x : Knw) : knwAt l i x = true ↔ ¬ (((nameB x.mod = false ∨ nameB x.name = false) ∨ x.value < 0) ∨ ∃ z, z ∈ List.take i l ∧ sameK2 x z = true) := by
  have e : (l.take i).any (sameK2 x) = true ↔ ∃ z, z ∈ List.take i l ∧ sameK2 x z = true := List.any_eq_true
  rw [← e]
  simp only [knwAt]
  cases nameB x.mod <;> cases nameB x.name <;> cases (l.take i).any (sameK2 x) <;> simp
theorem f102_ok (l : List Knw) (hl : limL Knw.lim l) : FunOK Tryz.prog 102 [.lst (l.map Knw.v)] false (.bool (knwsB l)) := by
  refine fun_ok (mkE_ok zmix (cl := [(124, c124), (163, c163)]) (gl := []) [] ⟨c124_ok, c163_ok⟩ trivial) Tryz.func102 (by kernel_rfl) ?_
  refine FunW_run _ _ rfl rfl ?_
  have hll := hl.1
  simp only [lim] at hll
  simp
  refine lp_list l (fun i t => t.e 0 = .lst (l.map Knw.v) ∧ t.e 5 = .lst (l.map Knw.v) ∧ t.e 6 = .int .i64 l.length ∧ t.e 7 = .int .i64 i ∧ allI (knwAt l) l i = true) ?_ ?_ ?_
  · simp
  · rintro c' L hL i t x hx hi ih ⟨h0, h5, h6, h7, hall⟩
    have hw := wrI (i := i) (by omega)
    have hxl := hl.2 x (List.mem_of_getElem? hx)
    have e1 := c124_eq x.mod hxl.1
    have e2 := c124_eq x.name hxl.2
    have e3 := c163_eq (l.take i) x (by simp [lim]; omega)
    rw [List.map_take] at e3
    simp only [Knw.v] at e3
    have hiff := knwAt_iff l i x
    simp [-getElem?_pos, gcz, gcs, h0, h5, h6, h7, hL, hi, hx, e1, e2, e3]
    refine ⟨fun _ _ _ => by omega, ?_⟩
    split
    · rename_i hc
      have hk : knwAt l i x = false := by
        cases hk : knwAt l i x with
        | false => rfl
        | true => exact absurd hc (hiff.1 hk)
      have := allI_no hx hk
      simp [knwsB, this]
    · rename_i hc
      have hk := hiff.2 hc
      refine ih _ ?_
      simp [h0, h5, h6, h7, hw, allI_succ hx, hall, hk]
  · rintro c' t ⟨h0, h5, h6, h7, hall⟩
    simp [h0, h5, h6, h7, knwsB, hall]
    omega
end Go.TM.Tryz
end
section
set_option maxHeartbeats 8000000
set_option maxRecDepth 20000
namespace Go.TM.Tryz
open Go Go.TM Go.Proofs
theorem f99_ok (l : List Knw) (hl : limL Knw.lim l) : FunOK Tryz.prog 99 [.lst (l.map Knw.v)] false (.bool (knwsB l)) := by
  refine fun_ok (mkE_ok zmix (cl := [(111, c111)]) (gl := []) [] c111_ok trivial) Tryz.func99 (by kernel_rfl) ?_
  refine FunW_run _ _ rfl rfl ?_
  have hll := hl.1
  simp only [lim] at hll
  simp
  refine lp_list l (fun i t => t.e 0 = .lst (l.map Knw.v) ∧ t.e 7 = .lst (l.map Knw.v) ∧ t.e 8 = .int .i64 l.length ∧ t.e 9 = .int .i64 i ∧ allI (knwAt l) l i = true) ?_ ?_ ?_
  · simp
  · rintro c' L hL i t x hx hi ih ⟨h0, h7, h8, h9, hall⟩
    have hw := wrI (i := i) (by omega)
    have hxl := hl.2 x (List.mem_of_getElem? hx)
    have e1 := c111_eq x.mod hxl.1
    have e2 := c111_eq x.name hxl.2
    have hiff := knwAt_iff l i x
    simp [-getElem?_pos, gcz, gcs, h0, h7, h8, h9, hL, hi, hx, e1, e2]
    split
    · rename_i hc
      have hk : knwAt l i x = false := by
        cases hk : knwAt l i x with
        | false => rfl
        | true => exact absurd (.inl hc) (hiff.1 hk)
      have := allI_no hx hk
      simp [knwsB, this]
    · rename_i hc
      refine ⟨by omega, ?_⟩
      refine lp_list (l.take i) (fun j u => u.e 0 = .lst (l.map Knw.v) ∧ u.e 7 = .lst (l.map Knw.v) ∧ u.e 8 = .int .i64 l.length ∧ u.e 9 = .int .i64 i ∧ u.e 31 = .lst ((l.take i).map Knw.v) ∧ u.e 32 = .int .i64 (l.take i).length ∧ u.e 33 = .int .i64 j ∧ u.e 4 = .ptr t.nb 0 ∧ t.nb < u.nb ∧ u.B t.nb = some x.v ∧ anyI (sameK2 x) (l.take i) j = false) ?_ ?_ ?_
      · simp [h0, h7, h8, h9]
      · clear h0 h7 h8 h9
        rintro c2 L2 hL2 j u y hy hj ihJ ⟨h0, h7, h8, h9, h31, h32, h33, h4, hnb, hB, hany⟩
        have hw2 : IntKind.i64.wrap ((j : Int) + 1) = ((j + 1 : Nat) : Int) := wrap64 (by omega) (by rw [List.length_take] at hj; omega)
        have b1 : ¬ t.nb = u.nb := by omega
        simp only [Knw.v] at hB
        generalize l.take i = P at *
        by_cases hq : x.mod = y.mod ∧ x.name = y.name
        · have hs : sameK2 x y = true := by simp [sameK2, hq.1, hq.2]
          have hk : knwAt l i x = false := by
            cases hk : knwAt l i x with
            | false => rfl
            | true => exact absurd (.inr ⟨y, List.mem_of_getElem? hy, hs⟩) (hiff.1 hk)
          have := allI_no hx hk
          simp [-getElem?_pos, gcz, gcs, h0, h7, h8, h9, h31, h32, h33, h4, hB, b1, hL2, hj, hy, hq.1, hq.2, knwsB, this]
        · have hs : sameK2 x y = false := by
            simp only [sameK2, Bool.and_eq_false_iff, decide_eq_false_iff_not]
            by_cases h5 : x.mod = y.mod
            · exact .inr fun e => hq ⟨h5, e.symm⟩
            · exact .inl fun e => h5 e.symm
          have hq' : x.mod = y.mod → ¬ x.name = y.name := fun a b => hq ⟨a, b⟩
          simp [-getElem?_pos, gcz, gcs, h0, h7, h8, h9, h31, h32, h33, h4, hB, b1, hL2, hj, hy]
          rw [if_neg (by rintro ⟨a, b⟩; exact hq ⟨a, b⟩)]
          refine ihJ _ ?_
          simp [h0, h7, h8, h9, h31, h32, h33, h4, hB, b1, hw2, anyI_succ hy, hany, hs]
          omega
      · clear h0 h7 h8 h9
        rintro c2 u ⟨h0, h7, h8, h9, h31, h32, h33, h4, hnb, hB, hany⟩
        rw [anyI_all] at hany
        have hk : knwAt l i x = true := hiff.2 fun h => by
          rcases h with h | ⟨z, hz, hs⟩
          · exact hc h
          · have := List.any_eq_true.2 ⟨z, hz, hs⟩
            rw [hany] at this
            cases this
        simp [h0, h7, h8, h9, h31, h32, h33, hL]
        refine ih _ ?_
        simp [h0, h7, h8, h9, hw, allI_succ hx, hall, hk]
  · rintro c' t ⟨h0, h7, h8, h9, hall⟩
    simp [h0, h7, h8, h9, knwsB, hall]
    omega
end Go.TM.Tryz
end
section
set_option maxHeartbeats 8000000
set_option maxRecDepth 20000
namespace Go.TM.Tryz
open Go Go.TM Go.Proofs
theorem knwsB_len {xs : List Knw} (h : knwsB xs = true) : xs.length ≤ 40 := by
  simp only [knwsB, Bool.and_eq_true, decide_eq_true_eq] at h
  exact h.2
structure CkOK (xs : List Knw) (l : List Scp) : Prop where
  len : l.length ≤ lim
  ok : modsB l = true
  xs : xs.length ≤ 1000000
theorem injKL {β : Type} (out : List Knw × List Scp → β) : ∀ a b : List Knw × List Scp, [V.lst (a.1.map Knw.v), V.lst (a.2.map Scp.v)] = [V.lst (b.1.map Knw.v), V.lst (b.2.map Scp.v)] → out a = out b := by
  rintro ⟨a, c⟩ ⟨b, d⟩ h
  simp only [List.cons.injEq, and_true, V.lst.injEq] at h
  rw [map_inj Knw.v_inj h.1, map_inj Scp.v_inj h.2]
noncomputable def c100 := ctr (fun a : List Knw × List Scp => CkOK a.1 a.2) (fun a => [.lst (a.1.map Knw.v), .lst (a.2.map Scp.v)]) (fun a => (false, .inl 2 ((offL a.2 a.1).map Use.v)))
theorem c100_eq (xs : List Knw) (l : List Scp) (h : CkOK xs l) : c100 [.lst (xs.map Knw.v), .lst (l.map Scp.v)] = some (false, .inl 2 ((offL l xs).map Use.v)) := ctr_eq (injKL _) (xs, l) h rfl
theorem c100_ok : COK Tryz.prog (100, c100) := ctr_ok fun a h => f100_ok a.1 a.2 h.len h.ok h.xs
noncomputable def c103 := ctr (fun a : List Knw × List Scp => CkOK a.1 a.2) (fun a => [.lst (a.1.map Knw.v), .lst (a.2.map Scp.v)]) (fun a => (false, .inl 2 ((offL a.2 a.1).map Use.v)))
theorem c103_eq (xs : List Knw) (l : List Scp) (h : CkOK xs l) : c103 [.lst (xs.map Knw.v), .lst (l.map Scp.v)] = some (false, .inl 2 ((offL l xs).map Use.v)) := ctr_eq (injKL _) (xs, l) h rfl
theorem c103_ok : COK Tryz.prog (103, c103) := ctr_ok fun a h => f103_ok a.1 a.2 h.len h.ok h.xs
noncomputable def c99 := ctr (fun xs : List Knw => limL Knw.lim xs) (fun xs => [.lst (xs.map Knw.v)]) (fun xs => (false, .bool (knwsB xs)))
theorem c99_eq (xs : List Knw) (h : limL Knw.lim xs) : c99 [.lst (xs.map Knw.v)] = some (false, .bool (knwsB xs)) := ctr_eq (injl Knw.v_inj _) xs h rfl
theorem c99_ok : COK Tryz.prog (99, c99) := ctr_ok fun xs h => f99_ok xs h
noncomputable def c102 := ctr (fun xs : List Knw => limL Knw.lim xs) (fun xs => [.lst (xs.map Knw.v)]) (fun xs => (false, .bool (knwsB xs)))
theorem c102_eq (xs : List Knw) (h : limL Knw.lim xs) : c102 [.lst (xs.map Knw.v)] = some (false, .bool (knwsB xs)) := ctr_eq (injl Knw.v_inj _) xs h rfl
theorem c102_ok : COK Tryz.prog (102, c102) := ctr_ok fun xs h => f102_ok xs h
end Go.TM.Tryz
end
