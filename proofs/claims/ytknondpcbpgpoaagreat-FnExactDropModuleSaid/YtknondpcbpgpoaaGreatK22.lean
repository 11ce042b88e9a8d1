/- A part of the proof: JK, JD, JE, GDel, GDel2, GDel3, JL, JM, GDel4, GDel5, JN, ZseTo, JH, JI, D7, ZsL, ZmTo, ZEq, ZseEq, ZmEq, ZseMark, ZmMark, HH0, ZsM, ZmM, ZHeld, ZsH, JO, ZseHeld, ZmH, JP, B1. -/
import Derived.Test.YtknondpcbpgpoaaGreatK21
set_option linter.unusedVariables false
set_option linter.unusedSimpArgs false
section
set_option maxHeartbeats 16000000
set_option maxRecDepth 20000
namespace Go.TM.Tryz
open Go Go.TM Go.Proofs
attribute [local simp] nkl2 nkr2 nkl3 nkr3 nkl4 nkr4 nkl5 nkr5 nkl6 nkr6 nkl7 nkr7 nkl8 nkr8 nkl9 nkr9 nkl10 nkr10 nkl11 nkr11 nkl12 nkr12 nkl13 nkr13
def tree90 : TT := .three false 1 (.three false 2 (.three false 3 (.two false 4 (.one false 5 (.one false 6 (.one false 7 (.one false 8 (.one false 9 (.one false 10 (.one false 11 .done))))))) false 5 (.two false 4 (.one false 6 (.one false 7 (.one false 8 (.one false 9 (.one false 10 (.one false 11 .done)))))) false 6 (.one false 4 (.one false 7 (.one false 8 (.one false 9 (.one false 10 (.one false 11 .done)))))))) false 4 (.two false 3 (.one false 5 (.one false 6 (.one false 7 (.one false 8 (.one false 9 (.one false 10 (.one false 11 .done))))))) false 5 (.two false 3 (.one false 6 (.one false 7 (.one false 8 (.one false 9 (.one false 10 (.one false 11 .done)))))) false 6 (.one false 3 (.one false 7 (.one false 8 (.one false 9 (.one false 10 (.one false 11 .done)))))))) false 5 (.three false 3 (.two false 4 (.one false 6 (.one false 7 (.one false 8 (.one false 9 (.one false 10 (.one false 11 .done)))))) false 6 (.one false 4 (.one false 7 (.one false 8 (.one false 9 (.one false 10 (.one false 11 .done))))))) false 4 (.two false 3 (.one false 6 (.one false 7 (.one false 8 (.one false 9 (.one false 10 (.one false 11 .done)))))) false 6 (.one false 3 (.one false 7 (.one false 8 (.one false 9 (.one false 10 (.one false 11 .done))))))) false 6 (.two false 3 (.one false 4 (.one false 7 (.one false 8 (.one false 9 (.one false 10 (.one false 11 .done)))))) false 4 (.one false 3 (.one false 7 (.one false 8 (.one false 9 (.one false 10 (.one false 11 .done))))))))) false 4 (.two false 2 (.two false 3 (.one false 5 (.one false 6 (.one false 7 (.one false 8 (.one false 9 (.one false 10 (.one false 11 .done))))))) false 5 (.two false 3 (.one false 6 (.one false 7 (.one false 8 (.one false 9 (.one false 10 (.one false 11 .done)))))) false 6 (.one false 3 (.one false 7 (.one false 8 (.one false 9 (.one false 10 (.one false 11 .done)))))))) false 5 (.two false 2 (.two false 3 (.one false 6 (.one false 7 (.one false 8 (.one false 9 (.one false 10 (.one false 11 .done)))))) false 6 (.one false 3 (.one false 7 (.one false 8 (.one false 9 (.one false 10 (.one false 11 .done))))))) false 6 (.one false 2 (.one false 3 (.one false 7 (.one false 8 (.one false 9 (.one false 10 (.one false 11 .done))))))))) false 5 (.three false 2 (.three false 3 (.two false 4 (.one false 6 (.one false 7 (.one false 8 (.one false 9 (.one false 10 (.one false 11 .done)))))) false 6 (.one false 4 (.one false 7 (.one false 8 (.one false 9 (.one false 10 (.one false 11 .done))))))) false 4 (.two false 3 (.one false 6 (.one false 7 (.one false 8 (.one false 9 (.one false 10 (.one false 11 .done)))))) false 6 (.one false 3 (.one false 7 (.one false 8 (.one false 9 (.one false 10 (.one false 11 .done))))))) false 6 (.two false 3 (.one false 4 (.one false 7 (.one false 8 (.one false 9 (.one false 10 (.one false 11 .done)))))) false 4 (.one false 3 (.one false 7 (.one false 8 (.one false 9 (.one false 10 (.one false 11 .done)))))))) false 4 (.two false 2 (.two false 3 (.one false 6 (.one false 7 (.one false 8 (.one false 9 (.one false 10 (.one false 11 .done)))))) false 6 (.one false 3 (.one false 7 (.one false 8 (.one false 9 (.one false 10 (.one false 11 .done))))))) false 6 (.one false 2 (.one false 3 (.one false 7 (.one false 8 (.one false 9 (.one false 10 (.one false 11 .done)))))))) false 6 (.two false 2 (.two false 3 (.one false 4 (.one false 7 (.one false 8 (.one false 9 (.one false 10 (.one false 11 .done)))))) false 4 (.one false 3 (.one false 7 (.one false 8 (.one false 9 (.one false 10 (.one false 11 .done))))))) false 4 (.one false 2 (.one false 3 (.one false 7 (.one false 8 (.one false 9 (.one false 10 (.one false 11 .done)))))))))) false 4 (.two false 1 (.two false 2 (.two false 3 (.one false 5 (.one false 6 (.one false 7 (.one false 8 (.one false 9 (.one false 10 (.one false 11 .done))))))) false 5 (.two false 3 (.one false 6 (.one false 7 (.one false 8 (.one false 9 (.one false 10 (.one false 11 .done)))))) false 6 (.one false 3 (.one false 7 (.one false 8 (.one false 9 (.one false 10 (.one false 11 .done)))))))) false 5 (.two false 2 (.two false 3 (.one false 6 (.one false 7 (.one false 8 (.one false 9 (.one false 10 (.one false 11 .done)))))) false 6 (.one false 3 (.one false 7 (.one false 8 (.one false 9 (.one false 10 (.one false 11 .done))))))) false 6 (.one false 2 (.one false 3 (.one false 7 (.one false 8 (.one false 9 (.one false 10 (.one false 11 .done))))))))) false 5 (.two false 1 (.two false 2 (.two false 3 (.one false 6 (.one false 7 (.one false 8 (.one false 9 (.one false 10 (.one false 11 .done)))))) false 6 (.one false 3 (.one false 7 (.one false 8 (.one false 9 (.one false 10 (.one false 11 .done))))))) false 6 (.one false 2 (.one false 3 (.one false 7 (.one false 8 (.one false 9 (.one false 10 (.one false 11 .done)))))))) false 6 (.one false 1 (.one false 2 (.one false 3 (.one false 7 (.one false 8 (.one false 9 (.one false 10 (.one false 11 .done)))))))))) false 5 (.three false 1 (.three false 2 (.three false 3 (.two false 4 (.one false 6 (.one false 7 (.one false 8 (.one false 9 (.one false 10 (.one false 11 .done)))))) false 6 (.one false 4 (.one false 7 (.one false 8 (.one false 9 (.one false 10 (.one false 11 .done))))))) false 4 (.two false 3 (.one false 6 (.one false 7 (.one false 8 (.one false 9 (.one false 10 (.one false 11 .done)))))) false 6 (.one false 3 (.one false 7 (.one false 8 (.one false 9 (.one false 10 (.one false 11 .done))))))) false 6 (.two false 3 (.one false 4 (.one false 7 (.one false 8 (.one false 9 (.one false 10 (.one false 11 .done)))))) false 4 (.one false 3 (.one false 7 (.one false 8 (.one false 9 (.one false 10 (.one false 11 .done)))))))) false 4 (.two false 2 (.two false 3 (.one false 6 (.one false 7 (.one false 8 (.one false 9 (.one false 10 (.one false 11 .done)))))) false 6 (.one false 3 (.one false 7 (.one false 8 (.one false 9 (.one false 10 (.one false 11 .done))))))) false 6 (.one false 2 (.one false 3 (.one false 7 (.one false 8 (.one false 9 (.one false 10 (.one false 11 .done)))))))) false 6 (.two false 2 (.two false 3 (.one false 4 (.one false 7 (.one false 8 (.one false 9 (.one false 10 (.one false 11 .done)))))) false 4 (.one false 3 (.one false 7 (.one false 8 (.one false 9 (.one false 10 (.one false 11 .done))))))) false 4 (.one false 2 (.one false 3 (.one false 7 (.one false 8 (.one false 9 (.one false 10 (.one false 11 .done))))))))) false 4 (.two false 1 (.two false 2 (.two false 3 (.one false 6 (.one false 7 (.one false 8 (.one false 9 (.one false 10 (.one false 11 .done)))))) false 6 (.one false 3 (.one false 7 (.one false 8 (.one false 9 (.one false 10 (.one false 11 .done))))))) false 6 (.one false 2 (.one false 3 (.one false 7 (.one false 8 (.one false 9 (.one false 10 (.one false 11 .done)))))))) false 6 (.one false 1 (.one false 2 (.one false 3 (.one false 7 (.one false 8 (.one false 9 (.one false 10 (.one false 11 .done))))))))) false 6 (.two false 1 (.two false 2 (.two false 3 (.one false 4 (.one false 7 (.one false 8 (.one false 9 (.one false 10 (.one false 11 .done)))))) false 4 (.one false 3 (.one false 7 (.one false 8 (.one false 9 (.one false 10 (.one false 11 .done))))))) false 4 (.one false 2 (.one false 3 (.one false 7 (.one false 8 (.one false 9 (.one false 10 (.one false 11 .done)))))))) false 4 (.one false 1 (.one false 2 (.one false 3 (.one false 7 (.one false 8 (.one false 9 (.one false 10 (.one false 11 .done))))))))))
def cut90 : Pl := ⟨[0], [], [], [1, 2, 3, 4, 5, 6, 7, 8, 9, 10, 11], tree90⟩
theorem cut90_run {E : Env} (pl : Option (List (Nat × Bool))) (ops : Array Oper) (k : List Fr) (Q : X → S → Prop) (s : S) : aftE (some cut90) pl ops k E Q s = preK E ops k Q tree90 [(0, false)] s := rfl
theorem f90_ok (xs : List Mdl) (h : MdsLen xs) : FunOK Tryz.prog 90 [.lst (xs.map Mdl.v)] false (.inl 6 (xs.map Mdl.o)) := by
  refine fun_ok (mkE2_ok zmix (cl := [(153, c153)]) (gl := []) [] [(5, cut90)] c153_ok trivial) Tryz.func90 (by kernel_rfl) ?_
  refine FunW_run _ _ rfl rfl ?_
  have hlen := h.len
  simp
  refine lp_list xs (fun i t => t.e 6 = .lst (xs.map Mdl.v) ∧ t.e 7 = .int .i64 xs.length ∧ t.e 8 = .int .i64 i ∧ ∃ p, t.e 3 = .own p ∧ p < t.nt ∧ t.R p = some ⟨6, (xs.take i).map Mdl.o, true⟩) ?_ ?_ ?_
  · simp
  · rintro c' L hL i t x hx hi ih ⟨h7, h8, h9, p, h3, hp, hR⟩
    have hw := wrI (i := i) (by omega)
    have hxm := List.mem_of_getElem? hx
    have e153 := c153_eq x.scope (h.sc x hxm)
    have hrk := roomKs (h.sn x hxm)
    simp only [Scp.v, Scp.o] at e153
    have hmin : min i xs.length = i := by omega
    have hr := roomMd (n := i + 1) (by omega)
    have n1 : ¬ p = t.nt := by omega
    have n2 : ¬ p = t.nt + 1 := by omega
    have n3 : ¬ p = t.nt + 1 + 1 := by omega
    have n4 : ¬ p = t.nt + 1 + 1 + 1 := by omega
    have n5 : ¬ p = t.nt + 1 + 1 + 1 + 1 := by omega
    have n6 : ¬ p = t.nt + 1 + 1 + 1 + 1 + 1 := by omega
    have n7 : ¬ p = t.nt + 1 + 1 + 1 + 1 + 1 + 1 := by omega
    have n8 : ¬ p = t.nt + 1 + 1 + 1 + 1 + 1 + 1 + 1 := by omega
    have n9 : ¬ p = t.nt + 1 + 1 + 1 + 1 + 1 + 1 + 1 + 1 := by omega
    have n10 : ¬ p = t.nt + 1 + 1 + 1 + 1 + 1 + 1 + 1 + 1 + 1 := by omega
    have n11 : ¬ p = t.nt + 1 + 1 + 1 + 1 + 1 + 1 + 1 + 1 + 1 + 1 := by omega
    have n12 : ¬ p = t.nt + 1 + 1 + 1 + 1 + 1 + 1 + 1 + 1 + 1 + 1 + 1 := by omega
    have n13 : ¬ p = t.nt + 1 + 1 + 1 + 1 + 1 + 1 + 1 + 1 + 1 + 1 + 1 + 1 := by omega
    have n14 : ¬ p = t.nt + 1 + 1 + 1 + 1 + 1 + 1 + 1 + 1 + 1 + 1 + 1 + 1 + 1 := by omega
    have n15 : ¬ p = t.nt + 1 + 1 + 1 + 1 + 1 + 1 + 1 + 1 + 1 + 1 + 1 + 1 + 1 + 1 := by omega
    simp (maxSteps := 10000000) [-getElem?_pos, gcz, gcs, h7, h8, h9, h3, hR, hL, hi, hx, e153, hrk, vwE_knw, n1, n2, n3, n4, n5, n6, n7, n8, n9, n10, n11, n12, n13, n14, n15, hr, hmin, -aftE_some, cut90_run, tree90, pureOp]
    repeat' apply And.intro
    all_goals
      refine ih _ ?_
      simp [h7, h8, h9, h3, hR, hw, n1, n2, n3, n4, n5, n6, n7, n8, n9, n10, n11, n12, n13, n14, n15, List.take_add_one, hx]
  · rintro c' t ⟨h7, h8, h9, p, h3, hp, hR⟩
    rw [List.take_length] at hR
    simp [h7, h8, h9, h3, hR]
noncomputable def c90 := ctr (fun xs : List Mdl => MdsLen xs) (fun xs => [.lst (xs.map Mdl.v)]) (fun xs => (false, .inl 6 (xs.map Mdl.o)))
theorem c90_eq (xs : List Mdl) (h : MdsLen xs) : c90 [.lst (xs.map Mdl.v)] = some (false, .inl 6 (xs.map Mdl.o)) := ctr_eq (injl Mdl.v_inj _) xs h rfl
theorem c90_ok : COK Tryz.prog (90, c90) := ctr_ok fun xs h => f90_ok xs h
end Go.TM.Tryz
end
section
set_option maxHeartbeats 8000000
set_option maxRecDepth 20000
namespace Go.TM.Tryz
open Go Go.TM Go.Proofs
def offSeen (x : Mdl) : Bool := !knwsB x.seen
noncomputable def goodB (xs : List Mdl) : Bool := modsB (mdsL xs) && !xs.any offSeen
theorem f155_ok (x : Mdl) (h : x.lim) : FunOK Tryz.prog 155 [x.v] false (.bool (offSeen x)) := by
  refine fun_ok (mkE_ok zmix (cl := [(102, c102)]) (gl := []) [] c102_ok trivial) Tryz.func155 (by kernel_rfl) ?_
  refine FunW_run _ _ rfl rfl ?_
  have e := c102_eq x.seen h.2
  simp [e, offSeen]
noncomputable def c155 := ctr (fun x : Mdl => x.lim) (fun x => [x.v]) (fun x => (false, .bool (offSeen x)))
theorem c155_eq (x : Mdl) (h : x.lim) : c155 [x.v] = some (false, .bool (offSeen x)) := ctr_eq (inj0 Mdl.v_inj _) x h rfl
theorem c155_ok : COK Tryz.prog (155, c155) := ctr_ok fun x h => f155_ok x h
theorem f200_ok (l : List Mdl) (hl : limL Mdl.lim l) : FunOK Tryz.prog 200 [.lst (l.map Mdl.v), .fn 155 []] false (.int .i64 (fstI offSeen l)) := by
  refine fun_ok (mkE_ok zmix (cl := [(155, c155)]) (gl := []) [] c155_ok trivial) Tryz.func200 (by kernel_rfl) ?_
  refine FunW_run _ _ rfl rfl ?_
  have hll := hl.1
  simp only [lim] at hll
  simp
  refine lp_list l (fun i t => t.e 1 = .fn 155 [] ∧ t.e 0 = .lst (l.map Mdl.v) ∧ t.e 7 = .int .i64 l.length ∧ t.e 8 = .int .i64 i ∧ anyI offSeen l i = false) ?_ ?_ ?_
  · simp
  · rintro c' L hL i t x hx hi ih ⟨h1, h7, h8, h9, hall⟩
    have hw := wrI (i := i) (by omega)
    have e := c155_eq x (hl.2 x (List.mem_of_getElem? hx))
    simp only [Mdl.v] at e
    simp [-getElem?_pos, List.getElem?_cons_zero, h1, h7, h8, h9, hL, hi, hx, e]
    split
    · rename_i hc
      exact (fst_yes hx hc hall).symm
    · rename_i hc
      refine ih _ ?_
      simp [h1, h7, h8, h9, hw, anyI_succ hx, hall, hc]
  · rintro c' t ⟨h1, h7, h8, h9, hall⟩
    simp [h1, h7, h8, h9, fst_no hall]
theorem inj200 {β : Type} (out : List Mdl → β) : ∀ a b : List Mdl, [V.lst (a.map Mdl.v), .fn 155 []] = [V.lst (b.map Mdl.v), .fn 155 []] → out a = out b := by
  intro a b h
  simp only [List.cons.injEq, and_true, V.lst.injEq] at h
  rw [map_inj Mdl.v_inj h]
noncomputable def c200 := ctr (fun l : List Mdl => limL Mdl.lim l) (fun l => [.lst (l.map Mdl.v), .fn 155 []]) (fun l => (false, .int .i64 (fstI offSeen l)))
theorem c200_eq (l : List Mdl) (h : limL Mdl.lim l) : c200 [.lst (l.map Mdl.v), .fn 155 []] = some (false, .int .i64 (fstI offSeen l)) := ctr_eq (inj200 _) l h rfl
theorem c200_ok : COK Tryz.prog (200, c200) := ctr_ok fun l h => f200_ok l h
theorem f154_ok (l : List Mdl) (hl : limL Mdl.lim l) : FunOK Tryz.prog 154 [.lst (l.map Mdl.v), .fn 155 []] false (.bool (l.any offSeen)) := by
  refine fun_ok (mkE_ok zmix (cl := [(200, c200)]) (gl := []) [] c200_ok trivial) Tryz.func154 (by kernel_rfl) ?_
  refine FunW_run _ _ rfl rfl ?_
  have e := c200_eq l hl
  simp [e, fst_ge]
noncomputable def c154 := ctr (fun l : List Mdl => limL Mdl.lim l) (fun l => [.lst (l.map Mdl.v), .fn 155 []]) (fun l => (false, .bool (l.any offSeen)))
theorem c154_eq (l : List Mdl) (h : limL Mdl.lim l) : c154 [.lst (l.map Mdl.v), .fn 155 []] = some (false, .bool (l.any offSeen)) := ctr_eq (inj200 _) l h rfl
theorem c154_ok : COK Tryz.prog (154, c154) := ctr_ok fun l h => f154_ok l h
structure StOK (xs : List Mdl) : Prop where
  lim : limL Mdl.lim xs
  len : MdsLen xs
theorem f84_ok (xs : List Mdl) (h : StOK xs) : FunOK Tryz.prog 84 [.lst (xs.map Mdl.v)] false (.bool (goodB xs)) := by
  refine fun_ok (mkE_ok zmix (cl := [(85, c85), (95, c95), (154, c154)]) (gl := []) [] ⟨c85_ok, c95_ok, c154_ok⟩ trivial) Tryz.func84 (by kernel_rfl) ?_
  refine FunW_run _ _ rfl rfl ?_
  have e85 := c85_eq xs h.len
  have e95 := c95_eq (mdsL xs) (mdsL_lim h.lim)
  have e154 := c154_eq xs h.lim
  cases hm : modsB (mdsL xs) with
  | false =>
    rw [hm] at e95
    simp [e85, e95, e154, goodB, hm]
  | true =>
    rw [hm] at e95
    simp [e85, e95, e154, goodB, hm]
noncomputable def c84 := ctr (fun xs : List Mdl => StOK xs) (fun xs => [.lst (xs.map Mdl.v)]) (fun xs => (false, .bool (goodB xs)))
theorem c84_eq (xs : List Mdl) (h : StOK xs) : c84 [.lst (xs.map Mdl.v)] = some (false, .bool (goodB xs)) := ctr_eq (injl Mdl.v_inj _) xs h rfl
theorem c84_ok : COK Tryz.prog (84, c84) := ctr_ok fun xs h => f84_ok xs h
theorem f81_ok (xs : List Mdl) (h : StOK xs) : FunOK Tryz.prog 81 [.lst (xs.map Mdl.v)] false (.bool (goodB xs)) := by
  refine fun_ok (mkE_ok zmix (cl := [(82, c82), (93, c93), (99, c99)]) (gl := []) [] ⟨c82_ok, c93_ok, c99_ok⟩ trivial) Tryz.func81 (by kernel_rfl) ?_
  refine FunW_run _ _ rfl rfl ?_
  have hlen := h.len.len
  have e82 := c82_eq xs h.len
  have e93 := c93_eq (mdsL xs) (mdsL_lim h.lim)
  simp
  refine lp_list xs (fun i t => t.e 0 = .lst (xs.map Mdl.v) ∧ t.e 5 = .lst (xs.map Mdl.v) ∧ t.e 6 = .int .i64 xs.length ∧ t.e 7 = .int .i64 i ∧ anyI offSeen xs i = false) ?_ ?_ ?_
  · simp
  · rintro c' L hL i t x hx hi ih ⟨h0, h5, h6, h7, hall⟩
    have hw := wrI (i := i) (by omega)
    have hxm := List.mem_of_getElem? hx
    have e99 := c99_eq x.seen (h.lim.2 x hxm).2
    cases hk : knwsB x.seen with
    | false =>
      rw [hk] at e99
      have hb : goodB xs = false := by
        have : xs.any offSeen = true := List.any_eq_true.2 ⟨x, hxm, by simp [offSeen, hk]⟩
        simp [goodB, this]
      simp [-getElem?_pos, gcz, gcs, h0, h5, h6, h7, hL, hi, hx, e99, hb]
    | true =>
      rw [hk] at e99
      have ho : offSeen x = false := by simp [offSeen, hk]
      simp [-getElem?_pos, gcz, gcs, h0, h5, h6, h7, hL, hi, hx, e99]
      refine ih _ ?_
      simp [h0, h5, h6, h7, hw, anyI_succ hx, hall, ho]
  · rintro c' t ⟨h0, h5, h6, h7, hall⟩
    rw [anyI_all] at hall
    simp [h0, h5, h6, h7, e82, e93, goodB, hall]
noncomputable def c81 := ctr (fun xs : List Mdl => StOK xs) (fun xs => [.lst (xs.map Mdl.v)]) (fun xs => (false, .bool (goodB xs)))
theorem c81_eq (xs : List Mdl) (h : StOK xs) : c81 [.lst (xs.map Mdl.v)] = some (false, .bool (goodB xs)) := ctr_eq (injl Mdl.v_inj _) xs h rfl
theorem c81_ok : COK Tryz.prog (81, c81) := ctr_ok fun xs h => f81_ok xs h
end Go.TM.Tryz
end
section
set_option maxHeartbeats 8000000
set_option maxRecDepth 20000
namespace Go.TM.Tryz
open Go Go.TM Go.Proofs
theorem mdsL_get {xs : List Mdl} {i : Nat} {x : Mdl} (h : xs[i]? = some x) : (mdsL xs)[i]? = some x.scope := by simp [mdsL, h]
theorem f89_ok (l : List Mdl) (n : ByteArray) (hl : l.length ≤ lim) : FunOK Tryz.prog 89 [.lst (l.map Mdl.v), .str n] false (.int .i64 (fstI (nameIs n) (mdsL l))) := by
  refine fun_ok (mkE_ok zmix (cl := []) (gl := []) [] trivial trivial) Tryz.func89 (by kernel_rfl) ?_
  refine FunW_run _ _ rfl rfl ?_
  simp only [lim] at hl
  simp
  refine lp_list l (fun i t => t.e 1 = .str n ∧ t.e 7 = .lst (l.map Mdl.v) ∧ t.e 8 = .int .i64 l.length ∧ t.e 9 = .int .i64 i ∧ anyI (nameIs n) (mdsL l) i = false) ?_ ?_ ?_
  · simp
  · rintro c' L hL i t x hx hi ih ⟨h1, h7, h8, h9, hall⟩
    have hw := wrI (i := i) (by omega)
    have hx' := mdsL_get hx
    by_cases hc : x.scope.name = n
    · have hc' : nameIs n x.scope = true := by simp [nameIs, hc]
      have := fst_yes hx' hc' hall
      simp [-getElem?_pos, gcz, gcs, h1, h7, h8, h9, hL, hi, hx, hc]
      omega
    · have hc' : nameIs n x.scope = false := by simp [nameIs, hc]
      simp [-getElem?_pos, gcz, gcs, h1, h7, h8, h9, hL, hi, hx, hc]
      refine ih _ ?_
      simp [h1, h7, h8, h9, hw, anyI_succ hx', hall, hc']
  · rintro c' t ⟨h1, h7, h8, h9, hall⟩
    rw [← mdsL_len l] at hall
    simp [h1, h7, h8, h9, fst_no hall]
theorem injMn {β : Type} (out : List Mdl × ByteArray → β) : ∀ a b : List Mdl × ByteArray, [V.lst (a.1.map Mdl.v), .str a.2] = [V.lst (b.1.map Mdl.v), .str b.2] → out a = out b := by
  rintro ⟨a, c⟩ ⟨b, d⟩ h
  simp only [List.cons.injEq, and_true, V.lst.injEq, V.str.injEq] at h
  rw [map_inj Mdl.v_inj h.1, h.2]
noncomputable def c89 := ctr (fun a : List Mdl × ByteArray => a.1.length ≤ lim) (fun a => [.lst (a.1.map Mdl.v), .str a.2]) (fun a => (false, .int .i64 (fstI (nameIs a.2) (mdsL a.1))))
theorem c89_eq (l : List Mdl) (n : ByteArray) (h : l.length ≤ lim) : c89 [.lst (l.map Mdl.v), .str n] = some (false, .int .i64 (fstI (nameIs n) (mdsL l))) := ctr_eq (injMn _) (l, n) h rfl
theorem c89_ok : COK Tryz.prog (89, c89) := ctr_ok fun a h => f89_ok a.1 a.2 h
noncomputable def kAt (xs : List Mdl) (n : ByteArray) : Int := fstI (nameIs n) (mdsL xs)
theorem kAt_get {xs : List Mdl} {n : ByteArray} (h : ¬ kAt xs n < 0) : ∃ x, xs[(kAt xs n).toNat]? = some x ∧ 0 ≤ kAt xs n ∧ kAt xs n < xs.length := by
  obtain ⟨s, h1, h2, h3⟩ := fst_at h
  rw [mdsL_len] at h3
  have h4 : (fstI (nameIs n) (mdsL xs)).toNat < xs.length := by omega
  exact ⟨_, List.getElem?_eq_getElem h4, h2, h3⟩
noncomputable def whyB (xs : List Mdl) (n : ByteArray) : Bool := goodB xs && decide (¬ kAt xs n < 0)
end Go.TM.Tryz
end
section
set_option maxHeartbeats 4000000
namespace Go.TM
open Go
theorem leafAt_take {xs : List V} {n j i : Nat} {l : V} (h : leafAt (xs.take n) j i = some l) : leafAt xs j i = some l ∧ j < n := by
  unfold leafAt at h ⊢
  rw [List.getElem?_take] at h
  split at h
  · rename_i hj
    exact ⟨h, hj⟩
  · simp at h
theorem leafAt_drop {xs : List V} {n j i : Nat} {l : V} (h : leafAt (xs.drop n) j i = some l) : leafAt xs (n + j) i = some l := by
  unfold leafAt at h ⊢
  rw [List.getElem?_drop] at h
  exact h
section
variable {P : Program} {E : Env} {M : Mem} {W : World} {s : S} {n : Nat} {a : Act}
theorem src_of {F : Nat → Prop} {sz : Nat} {ys : List V} {A : Option Addr} {c : Nat} {u : Nat → Nat → Value} {Bs : Nat → Nat → Nat → Prop} (h0 : 0 < sz) (hs : ∀ y ∈ ys, (leaves y).length = sz) {t e : TypeId} (hu : P.underlying t = some (.slice e)) (hA : ys ≠ [] → ∃ b o, A = some ⟨b, o, none⟩)
    (h1 : ∀ b o, A = some ⟨b, o, none⟩ → ∀ j i l, leafAt ys j i = some l → W.cell? ⟨b, o + j * sz + i, none⟩ = some (u j i)) (h2 : ∀ j i l, leafAt ys j i = some l → LR W F (Bs j i) l (u j i)) : Src P sz t (.slice A ys.length c) ys.length (flatU u ys.length sz) W := by
  have hone : ∀ w ∈ flatU u ys.length sz, w.oneCell' = true := by
    intro w hw
    obtain ⟨p, hp⟩ := List.mem_iff_getElem?.1 hw
    have hlt : p < ys.length * sz := by
      have := (List.getElem?_eq_some_iff.1 hp).1
      rwa [flatU_length] at this
    have hj : p / sz < ys.length := (Nat.div_lt_iff_lt_mul h0).2 hlt
    have hi : p % sz < sz := Nat.mod_lt _ h0
    obtain ⟨l, hl⟩ := leafAt_some hs hj hi
    have h5 := flatU_get (u := u) hj hi
    rw [show p / sz * sz + p % sz = p by rw [Nat.mul_comm]; exact Nat.div_add_mod p sz, hp] at h5
    rw [Option.some.inj h5]
    exact (h2 _ _ l hl).one
  by_cases hn : ys = []
  · subst hn
    have e0 : flatU u ([] : List V).length sz = [] := by simp [flatU]
    rw [e0]
    cases A with
    | none => exact Src.ofNil W hu c
    | some A =>
      refine Src.ofSlice W hu A 0 c [] (by simp) (fun j u h => by simp at h) (fun u hu => by cases hu)
  · obtain ⟨b, o, rfl⟩ := hA hn
    exact Src.ofSlice W hu _ _ c _ (flatU_length _ _ _) (flatU_cells h0 hs (h1 b o rfl)) hone
theorem del_step (sta : StaOK P E) (h : St n M W s a) {o : Oper} {t e : TypeId} {tt : TI} {tk b off c i j : Nat} {xs : List V} {vy : Value} (hu : P.underlying t = some (.slice e)) (hti : TiOK P e tt) (hz : 0 < tt.sz)
    (hR : s.R tk = some ⟨tt.sz, xs, true⟩) (hρ : M.ρ tk = .slice (some ⟨b, off, none⟩) xs.length c) (hne : xs ≠ []) (hij : i ≤ j) (hj : j ≤ xs.length)
    (hvy : vy = .slice (if c = j then some ⟨b, off, none⟩ else some ⟨b, off + j * tt.sz, none⟩) (xs.length - j) (c - j))
    (hr : ∀ w, (execOp a.eval o).run P w = (do pure (Next.value (← Builtin.append_ #[t, t] o.type #[.slice (some ⟨b, off, none⟩) i c, vy])) : Sem Next).run P w)
    {K : Act → World → Prop} {Q : Exit → Act → World → Prop}
    (hK : ∀ M' W', St n M' W' ((s.drops [tk]).newR tt.sz (xs.take i ++ xs.drop j)) a → Evo M W M' W' → SRL M' W' (.own s.nt) (.slice (some ⟨b, off, none⟩) (xs.take i ++ xs.drop j).length c) → K (a.put o.dst (.slice (some ⟨b, off, none⟩) (xs.take i ++ xs.drop j).length c)) W') : o.wp P a W K Q := by
  obtain ⟨ie, hie, his, hib, z, hzz, hzr⟩ := hti.info
  have hxs : ∀ e ∈ xs, (leaves e).length = tt.sz := (h.mem.row _ _ hR).2.sizes
  have hd := dst_own h.mem hR
  rcases hd.go with ⟨rfl, _⟩ | ⟨b', off', c', cs, ty, hv, hb, hn, hmx, hcs, ⟨tb, htb, hωb⟩, u, Bs, f1, f2, f3, f4⟩
  · exact absurd rfl hne
  rw [hρ] at hv
  cases hv
  have hli : (xs.take i).length = i := by rw [List.length_take]; omega
  have hlj : (xs.drop j).length = xs.length - j := List.length_drop
  have hcj : j ≤ c := by omega
  have hys : ∀ e ∈ xs.drop j, (leaves e).length = tt.sz := fun e he => hxs e (List.mem_of_mem_drop he)
  have hxi : ∀ e ∈ xs.take i, (leaves e).length = tt.sz := fun e he => hxs e (List.mem_of_mem_take he)
  have hsrc : Src P tt.sz t vy (xs.drop j).length (flatU (fun j' i' => u (j + j') i') (xs.drop j).length tt.sz) W := by
    rw [hvy, ← hlj]
    refine src_of (F := M.F) (Bs := fun j' i' => Bs (j + j') i') hz hys hu (fun _ => ?_) (fun b1 o1 hA j' i' l hl => ?_) (fun j' i' l hl => f2 _ _ _ (leafAt_drop hl))
    · split
      · exact ⟨_, _, rfl⟩
      · exact ⟨_, _, rfl⟩
    · have h1 := f1 _ _ _ (leafAt_drop hl)
      have h2 := (leafAt_lt hys hl).1
      rw [hlj] at h2
      have hcj' : ¬ c = j := by omega
      rw [if_neg hcj'] at hA
      cases hA
      simp only [World.cell?, hb]
      have e2 : off + j * tt.sz + j' * tt.sz + i' = off + (j + j') * tt.sz + i' := by rw [Nat.add_mul]; omega
      simpa [e2] using h1
  have hsrc' : Src P ie.size t vy (xs.drop j).length (flatU (fun j' i' => u (j + j') i') (xs.drop j).length tt.sz) W := by rw [his]; exact hsrc
  have hfit : i + (xs.drop j).length ≤ c := by rw [hlj]; omega
  have hsize : off + i * ie.size + (flatU (fun j' i' => u (j + j') i') (xs.drop j).length tt.sz).length ≤ cs.size := by
    rw [flatU_length, hcs, his]
    have : (i + (xs.drop j).length) * tt.sz ≤ c * tt.sz := Nat.mul_le_mul_right _ hfit
    rw [Nat.add_mul] at this
    omega
  have hrun := run_append_row W t t o.type e ie hu hie b off i c vy (xs.drop j).length _ hsrc' cs ty hb hfit hsize
  rw [his] at hrun hsize
  have hnl := flatU_length (fun j' i' => u (j + j') i') (xs.drop j).length tt.sz
  have hng : ∀ j' i', j' < (xs.drop j).length → i' < tt.sz → (flatU (fun j' i' => u (j + j') i') (xs.drop j).length tt.sz)[j' * tt.sz + i']? = some (u (j + j') i') := fun j' i' h1 h2 => flatU_get h1 h2
  clear hsrc hsrc'
  generalize hfu : flatU (fun j' i' => u (j + j') i') (xs.drop j).length tt.sz = news at *
  generalize hcur : (cs.toList.take (off + i * tt.sz) ++ news ++ cs.toList.drop (off + i * tt.sz + news.length)).toArray = cur at hrun
  have hW' : (W.setRow b cur).heap[b]? = some (.cells cur ty (0, 0)) := setRow_heap W b cs cur ty (0, 0) hb
  have htk : (cs.toList.take (off + i * tt.sz)).length = off + i * tt.sz := by
    rw [List.length_take]
    have : cs.toList.length = cs.size := Array.length_toList
    omega
  have hbF : ∀ x, M.F x → x ≠ b := fun x hFx e => by
    rw [e] at hFx
    rw [(h.mem.frz _ hFx).1] at hωb
    cases hωb
  have hrow : OwnN (W.setRow b cur) M.F (fun x => ∃ t ∈ [tk], M.ω x = some (.tok t)) tt.sz (.slice (some ⟨b, off, none⟩) (xs.take i ++ xs.drop j).length c) (xs.take i ++ xs.drop j) := by
    refine mkRow (Bs := fun j' i' x => if j' < i then Bs j' i' x else Bs (j + (j' - i)) i' x) hW' (by simp only [List.length_append, hli]; exact hfit) hmx ?_ (fun e he => ?_) (fun j' i' l hl => ?_) (fun j1 i1 j2 i2 x h1 h2 => ?_) (fun j' i' x h1 => ?_) ⟨tb, htb, hωb⟩
    · rw [← hcur, ← hcs]
      simp only [List.size_toArray, List.length_append, htk, List.length_drop, Array.length_toList]
      omega
    · rcases List.mem_append.1 he with he | he
      · exact hxi e he
      · exact hys e he
    · rw [leafAt_append, hli] at hl
      by_cases hj' : j' < i
      · rw [if_pos hj'] at hl
        simp only [if_pos hj']
        have hl' := (leafAt_take hl).1
        have hi := (leafAt_lt hxs hl').2
        have hlt : off + j' * tt.sz + i' < off + i * tt.sz := by
          have : (j' + 1) * tt.sz ≤ i * tt.sz := Nat.mul_le_mul_right _ hj'
          rw [Nat.add_mul] at this
          omega
        refine ⟨u j' i', ?_, (f2 j' i' l hl').mono (fun x hx => setRow_other W b x _ (hbF x hx)) (fun _ h => h) fun x hx => ⟨hx, setRow_other W b x _ (f3 j' i' x hx).2⟩⟩
        rw [← hcur, List.getElem?_toArray, List.append_assoc, List.getElem?_append_left (by rw [htk]; exact hlt), List.getElem?_take_of_lt hlt, Array.getElem?_toList]
        exact f1 j' i' l hl'
      · rw [if_neg hj'] at hl
        simp only [if_neg hj']
        have hll := leafAt_drop hl
        have hij' := leafAt_lt hys hl
        refine ⟨u (j + (j' - i)) i', ?_, (f2 _ i' l hll).mono (fun x hx => setRow_other W b x _ (hbF x hx)) (fun _ h => h) fun x hxB => ⟨hxB, setRow_other W b x _ (f3 _ i' x hxB).2⟩⟩
        have h1 : off + j' * tt.sz + i' = (off + i * tt.sz) + ((j' - i) * tt.sz + i') := by
          have : j' * tt.sz = i * tt.sz + (j' - i) * tt.sz := by rw [← Nat.add_mul]; congr 1; omega
          omega
        have h2 : (j' - i) * tt.sz + i' < news.length := by
          rw [hnl]
          have : (j' - i + 1) * tt.sz ≤ (xs.drop j).length * tt.sz := Nat.mul_le_mul_right _ hij'.1
          rw [Nat.add_mul] at this
          omega
        rw [← hcur, List.getElem?_toArray, List.append_assoc, h1, List.getElem?_append_right (by rw [htk]; omega), htk, Nat.add_sub_cancel_left, List.getElem?_append_left h2]
        exact hng _ _ hij'.1 hij'.2
    · split at h1
      · split at h2
        · exact f4 _ _ _ _ x h1 h2
        · have := f4 _ _ _ _ x h1 h2
          omega
      · split at h2
        · have := f4 _ _ _ _ x h1 h2
          omega
        · have := f4 _ _ _ _ x h1 h2
          omega
    · split at h1
      · exact f3 _ _ x h1
      · exact f3 _ _ x h1
  obtain ⟨M'', k1, k2, k3, k4⟩ := eat_row h.mem (T := [tk]) (W' := W.setRow b cur) rfl rfl rfl (by simp) (fun x hx hne' => setRow_other W b x _ (by
    rintro rfl
    exact hne' tb htb hωb)) hrow (fun x hx => .inl hx)
  refine wp_value (val := .slice (some ⟨b, off, none⟩) (xs.take i ++ xs.drop j).length c) ?_ (hK M'' _ (h.slots_keep k1 k2 (newR_e s [tk] tt.sz (xs.take i ++ xs.drop j))) k4 k3)
  rw [hr, Sem.run_bind, hrun, List.length_append, hli]
  rfl
end
end Go.TM
end
section
set_option maxHeartbeats 4000000
namespace Go.TM
open Go
structure DG where
  t : Nat
  b : Nat
  o : Nat
  n : Nat
  c : Nat
def DG.ok (D : DG) (M : Mem) : Prop := D.t < M.nt ∧ M.ρ D.t = .slice (some ⟨D.b, D.o, none⟩) D.n D.c
def InvD (M0 : Mem) (W0 : World) : Option DG → Mem → World → Prop := fun g M W => Evo M0 W0 M W ∧ ∀ D, g = some D → D.ok M
theorem DG.ok_evo {D : DG} {M M' : Mem} {W W' : World} (h : D.ok M) (he : Evo M W M' W') : D.ok M' := ⟨Nat.lt_of_lt_of_le h.1 he.nt, (he.ρ _ h.1).trans h.2⟩
theorem InvD.evo {M0 : Mem} {W0 : World} (g : Option DG) (M : Mem) (W : World) (M' : Mem) (W' : World) (h : InvD M0 W0 g M W) (he : Evo M W M' W') : InvD M0 W0 g M' W' := ⟨h.1.trans he, fun D e => DG.ok_evo (h.2 D e) he⟩
def cutH (z : Nat) (D : DG) (l h : Nat) : Hdr := .sl (if D.c = l then some ⟨D.b, D.o, none⟩ else some ⟨D.b, D.o + l * z, none⟩) (h - l) (D.c - l)
def loIs (s : S) (lo : Option Operand) (l : Nat) : Prop := match lo with
  | none => l = 0
  | some y => needs true s [y] ∧ opnd s y = .int .i64 l
def hiIs (s : S) (hi : Option Operand) (h m : Nat) : Prop := match hi with
  | none => h = m
  | some y => needs true s [y] ∧ opnd s y = .int .i64 h
def rCut (z : Nat) (x : Operand) (lo hi : Option Operand) (d : Option Tmp) : Rule (Option DG) := fun s g K =>
  ∃ t xs l h, needs true s [x] ∧ opnd s x = .own t ∧ s.R t = some ⟨z, xs, true⟩ ∧ xs ≠ [] ∧ loIs s lo l ∧ hiIs s hi h xs.length ∧ l ≤ h ∧ h ≤ xs.length ∧ (∀ D, g = some D → D.t = t) ∧
    ∀ D : DG, D.t = t → D.n = xs.length → D.n ≤ D.c → (∀ D', g = some D' → D' = D) → K (s.put d (.raw (cutH z D l h))) (some D)
def rApp (z : Nat) (x y : Operand) (d : Option Tmp) : Rule (Option DG) := fun s g K =>
  ∃ D xs i j, g = some D ∧ needs true s [x, y] ∧ opnd s x = .raw (cutH z D 0 i) ∧ opnd s y = .raw (cutH z D j D.n) ∧ s.R D.t = some ⟨z, xs, true⟩ ∧ xs.length = D.n ∧ xs ≠ [] ∧ i ≤ j ∧ j ≤ D.n ∧
    K (((s.drops [D.t]).newR z (xs.take i ++ xs.drop j)).put d (.own s.nt)) (some ⟨s.nt, D.b, D.o, (xs.take i ++ xs.drop j).length, D.c⟩)
section
variable {P : Program} {E : Env} {n : Nat} {M0 : Mem} {W0 : World}
theorem own_hdr {M : Mem} {W : World} {s : S} {t z : Nat} {xs : List V} (h : MemOK M W s) (hR : s.R t = some ⟨z, xs, true⟩) (hne : xs ≠ []) : ∃ b o c, M.ρ t = .slice (some ⟨b, o, none⟩) xs.length c ∧ xs.length ≤ c ∧ t < M.nt := by
  rcases (dst_own h hR).go with ⟨rfl, _⟩ | ⟨b, o, c, cs, ty, hv, hb, hn, _⟩
  · exact absurd rfl hne
  · exact ⟨b, o, c, hv, hn, (h.row t _ hR).1⟩
theorem rCut_ok (sta : StaOK P E) {o : Oper} {ty e : TypeId} {tt : TI} {x : Operand} {lo hi : Option Operand} (ho : o.op = .slice ty x lo hi none) (he : E.el ty = some e) (ht : E.ti e = some tt) (hok : okO n o = true) :
    RuleOK (InvD M0 W0) P n o (rCut tt.sz x lo hi o.dst) := by
  rintro s g a W M K Q h hiv ⟨t, xs, l, hh, hn, hx, hR, hne, hlo, hhi, h1, h2, hg, hK⟩
  simp only [okO, Bool.and_eq_true, List.all_eq_true] at hok
  obtain ⟨b, off, c, hρ, hc, htn⟩ := own_hdr h.mem hR hne
  have hox : okOp n x = true := hok.1 x (by rw [ho]; simp [Op.operands])
  have hv := opnd_sound h hox hn
  rw [hx] at hv
  have hv2 : a.eval x = M.ρ t := hv.2
  have hlo' : LoOk M W (.int .i64 l) (lo.map a.eval) := by
    cases lo with
    | none => exact .inl ⟨rfl, by simp only [loIs] at hlo; rw [hlo]; rfl⟩
    | some y =>
      refine .inr ⟨_, rfl, ?_⟩
      have h3 := opnd_sound h (hok.1 y (by rw [ho]; simp [Op.operands])) hlo.1
      rw [hlo.2] at h3
      exact h3
  have hhi' : (hi.map a.eval = none ∧ (hh : Int) = (xs.length : Nat)) ∨ ∃ v, hi.map a.eval = some v ∧ SR2 M W (.int .i64 hh) v := by
    cases hi with
    | none => exact .inl ⟨rfl, by simp only [hiIs] at hhi; rw [hhi]⟩
    | some y =>
      refine .inr ⟨_, rfl, ?_⟩
      have h3 := opnd_sound h (hok.1 y (by rw [ho]; simp [Op.operands])) hhi.1
      rw [hhi.2] at h3
      exact h3
  have hrun : (execOp a.eval o).run P W = .ok (.value (cutH tt.sz ⟨t, b, off, xs.length, c⟩ l hh).val) W := by
    have hcr := cut_run (P := P) (W := W) (k' := .i64) sta he ht hlo' hhi' (by omega) (by omega) (by omega) (some ⟨b, off, none⟩) c hc W
    simp only [execOp, ho, hv2, hρ]
    rw [Sem.run_bind, Option.map_none, hcr]
    simp only [Int.toNat_natCast, Option.map_some, cutH, Hdr.val, add_eq]
    rfl
  have hD : ∀ D', g = some D' → D' = ⟨t, b, off, xs.length, c⟩ := fun D' e => by
    have h4 := hg D' e
    obtain ⟨h5, h6⟩ := hiv.2 D' e
    obtain ⟨t', b', o', n', c'⟩ := D'
    simp only at h4 h6
    subst h4
    rw [hρ] at h6
    cases h6
    rfl
  refine wp_value hrun ⟨M, _, _, h.putO hok.2 (x := .raw (cutH tt.sz ⟨t, b, off, xs.length, c⟩ l hh)) rfl, ⟨hiv.1, fun D e => ?_⟩, hK _ rfl rfl hc hD⟩
  cases e
  exact ⟨htn, hρ⟩
theorem rApp_ok (sta : StaOK P E) {o : Oper} {c : Call} {ty e : TypeId} {tt : TI} {x y : Operand} (ho : o.op = .call c) (hcal : c.callee = .builtin .append) (hargs : c.args.toList = [x, y]) (htys : c.argTypes.toList = [ty, ty]) (he : E.el ty = some e) (ht : E.ti e = some tt) (hz : 0 < tt.sz) (hok : okO n o = true) :
    RuleOK (InvD M0 W0) P n o (rApp tt.sz x y o.dst) := by
  rintro s g a W M K Q h hiv ⟨D, xs, i, j, rfl, hn, hx, hy, hR, hlen, hne, hij, hj, hK⟩
  simp only [okO, Bool.and_eq_true, List.all_eq_true] at hok
  obtain ⟨hDt, hρ⟩ := hiv.2 D rfl
  have hx' : c.args = #[x, y] := by rw [← Array.toList_inj, hargs]
  have ht' : c.argTypes = #[ty, ty] := by rw [← Array.toList_inj, htys]
  have hmem : ∀ u, u ∈ [x, y] → okOp n u = true := fun u hu => hok.1 u (by
    rw [ho]
    simp only [Op.operands, Call.operands, hcal, hx']
    simpa using hu)
  have vx := opnd_sound h (hmem x (by simp)) (needs_mem hn (by simp))
  have vy := opnd_sound h (hmem y (by simp)) (needs_mem hn (by simp))
  rw [hx] at vx
  rw [hy] at vy
  have ex : a.eval x = .slice (some ⟨D.b, D.o, none⟩) i D.c := by
    have h1 : a.eval x = (cutH tt.sz D 0 i).val := vx
    rw [h1]
    simp only [cutH, Hdr.val, Nat.sub_zero, Nat.zero_mul, Nat.add_zero]
    split <;> rfl
  have ey : a.eval y = .slice (if D.c = j then some ⟨D.b, D.o, none⟩ else some ⟨D.b, D.o + j * tt.sz, none⟩) (xs.length - j) (D.c - j) := by
    have h1 : a.eval y = (cutH tt.sz D j D.n).val := vy
    rw [h1, hlen]
    rfl
  rw [← hlen] at hρ
  refine del_step sta h (sta.el ty e he) (sta.ti e tt ht) hz hR hρ hne hij (by omega) (vy := a.eval y) ey (fun w => ?_) fun M' W' k1 k2 k3 => ?_
  · rw [← ex]
    simp only [execOp, ho, resolve, hcal, pure_bind, invoke, builtin, hx', ht']
    simp
  · refine ⟨M', _, _, k1.putO hok.2 (x := .own s.nt) k3, ⟨hiv.1.trans k2, fun D' e => ?_⟩, hK⟩
    cases e
    exact ⟨k3.1, k3.2.symm⟩
end
end Go.TM
end
section
namespace Go.TM
open Go
def rCutP (z : Nat) (xs : List V) (l h : Nat) (x : Operand) (lo hi : Option Operand) (d : Option Tmp) : Rule (Option DG) := fun s g K =>
  ∃ t, needs true s [x] ∧ opnd s x = .own t ∧ s.R t = some ⟨z, xs, true⟩ ∧ loIs s lo l ∧ hiIs s hi h xs.length ∧ (∀ D, g = some D → D.t = t) ∧
    ∀ D : DG, D.t = t → D.n = xs.length → D.n ≤ D.c → (∀ D', g = some D' → D' = D) → K (s.put d (.raw (cutH z D l h))) (some D)
def rAppP (z : Nat) (xs : List V) (i j : Nat) (x y : Operand) (d : Option Tmp) : Rule (Option DG) := fun s g K =>
  ∃ D, g = some D ∧ needs true s [x, y] ∧ opnd s x = .raw (cutH z D 0 i) ∧ opnd s y = .raw (cutH z D j xs.length) ∧ D.n = xs.length ∧ s.R D.t = some ⟨z, xs, true⟩ ∧
    K (((s.drops [D.t]).newR z (xs.take i ++ xs.drop j)).put d (.own s.nt)) (some ⟨s.nt, D.b, D.o, (xs.take i ++ xs.drop j).length, D.c⟩)
theorem RuleOK.imp {Γ : Type} {P : Program} {n : Nat} {Inv : Γ → Mem → World → Prop} {o : Oper} {r r' : Rule Γ} (h : RuleOK Inv P n o r) (hr : ∀ s g K, r' s g K → r s g K) : RuleOK Inv P n o r' := fun s g a W M K Q h1 h2 h3 => h s g a W M K Q h1 h2 (hr s g K h3)
section
variable {P : Program} {E : Env} {n : Nat} {M0 : Mem} {W0 : World}
theorem rCutP_ok (sta : StaOK P E) {o : Oper} {ty e : TypeId} {tt : TI} {x : Operand} {lo hi : Option Operand} {xs : List V} {l h : Nat} (hne : xs ≠ []) (h1 : l ≤ h) (h2 : h ≤ xs.length) (ho : o.op = .slice ty x lo hi none) (he : E.el ty = some e) (ht : E.ti e = some tt) (hok : okO n o = true) :
    RuleOK (InvD M0 W0) P n o (rCutP tt.sz xs l h x lo hi o.dst) :=
  (rCut_ok sta ho he ht hok).imp fun s g K ⟨t, k1, k2, k3, k4, k5, k6, k7⟩ => ⟨t, xs, l, h, k1, k2, k3, hne, k4, k5, h1, h2, k6, k7⟩
theorem rAppP_ok (sta : StaOK P E) {o : Oper} {c : Call} {ty e : TypeId} {tt : TI} {x y : Operand} {xs : List V} {i j : Nat} (hne : xs ≠ []) (hij : i ≤ j) (hj : j ≤ xs.length) (ho : o.op = .call c) (hcal : c.callee = .builtin .append) (hargs : c.args.toList = [x, y]) (htys : c.argTypes.toList = [ty, ty]) (he : E.el ty = some e) (ht : E.ti e = some tt) (hz : 0 < tt.sz) (hok : okO n o = true) :
    RuleOK (InvD M0 W0) P n o (rAppP tt.sz xs i j x y o.dst) :=
  (rApp_ok sta ho hcal hargs htys he ht hz hok).imp fun s g K ⟨D, k1, k2, k3, k4, k5, k6, k7⟩ => ⟨D, xs, i, j, k1, k2, k3, by rw [k5]; exact k4, k6, k5.symm, hne, hij, by rw [k5]; exact hj, k7⟩
end
theorem fun_of_open {P : Program} {f : FuncId} {args : List V} {xs : List V} {z : Nat} {b : Bool} (has : ∃ fn, P.funcs[f]? = some fn ∧ (fn.name == "runtime.NumGoroutine") = false ∧ fn.body.isNone = false) (hn : noLs xs = true)
    (h : ∀ M W vs, MemOK M W (start args []) → All2 (SR1 M W) (adCs args S.zero).1 vs → Calls P f vs.toArray W fun e W' => ∃ v M' s' t, e = .returned v ∧ MemOK M' W' s' ∧ Evo M W M' W' ∧ SR2 M' W' (.tup [.own t, .bool b]) v ∧ s'.R t = some ⟨z, xs, true⟩) :
    FunOK P f args false (.tup [.inl z xs, .bool b]) := by
  refine ⟨has, fun M W vs hm ha => (h M W vs hm ha).mono ?_⟩
  rintro e W' ⟨v, M', s', t, rfl, h1, h2, h3, h4⟩
  refine ⟨v, M', s', _, rfl, h3, h1, h2, ?_, ?_, ?_, ?_, ?_, ?_, ?_⟩
  · simp [resToks, resToks1, toks1, tokL, liveOuts, S.wrT, h4]
  · simp [resBoxes, boxesL]
  · intro _
    simp [noL, noLs, hn]
  · simp
  · simp [outsOk]
  · simp [boxOuts]
  · simp [closeR, closeB, onL1, closeL, h4]
end Go.TM
end
section
set_option maxHeartbeats 16000000
set_option maxRecDepth 20000
namespace Go.TM.Tryz
open Go Go.TM Go.Proofs
noncomputable def dropL (xs : List Mdl) (n : ByteArray) : List Mdl := if whyB xs n = true then xs.take (kAt xs n).toNat ++ xs.drop ((kAt xs n).toNat + 1) else []
noncomputable def dropO (xs : List Mdl) (n : ByteArray) : V := .tup [.inl 6 ((dropL xs n).map Mdl.o), .bool (whyB xs n)]
noncomputable def ED : Env := mkE Tryz.prog [(81, c81), (89, c89), (90, c90)] [] []
theorem ED_ok : EnvOK Tryz.prog ED := mkE_ok zmix [] ⟨c81_ok, c89_ok, c90_ok⟩ trivial
@[simp] theorem ED_ti : ED.ti = tiOf Tryz.prog := rfl
@[simp] theorem ED_el : ED.el = elOf Tryz.prog := rfl
@[simp] theorem ED_fld : ED.fld = Go.TM.fldOf Tryz.prog := rfl
@[simp] theorem ED_str : ED.str = strOf Tryz.prog := rfl
@[simp] theorem ED_bol : ED.bol = bolOf Tryz.prog := rfl
@[simp] theorem ED_int : ED.int = intOf Tryz.prog := rfl
@[simp] theorem ED_bld : ED.bld = bldOf Tryz.prog := rfl
@[simp] theorem ED_eqs : ED.eqs = eqsOf Tryz.prog := rfl
@[simp] theorem ED_call : ED.call = callL [(81, c81), (89, c89), (90, c90)] := rfl
@[simp] theorem ED_rw : ED.rw = rwL [] := rfl
@[simp] theorem ED_gen : ED.gen = genL [] := rfl
@[simp] theorem ED_plan : ED.plan = planL [] := rfl
@[simp] theorem ED_pln : ED.pln = fun _ => none := rfl
def tx30 : TX := .two false 2 (.one false 5 (.one false 6 (.one false 7 (.one false 8 (.one false 9 .done))))) false 5 (.two false 2 (.one false 6 (.one false 7 (.one false 8 (.one false 9 .done)))) false 6 (.one false 2 (.one false 7 (.one false 8 (.one false 9 .done)))))
def pl30 : Pl := ⟨[0, 1, 3, 4], [], [], [2, 5, 6, 7, 8, 9], .done⟩
noncomputable def r30 (xs : List V) (k : Nat) (i : Nat) : Option (Rule (Option DG)) := if i = 2 then some (rCutP 6 xs 0 k (.tmp 20) none (some (.tmp 21)) (some 22)) else if i = 6 then some (rCutP 6 xs (k + 1) xs.length (.tmp 23) (some (.tmp 25)) none (some 26)) else if i = 7 then some (rAppP 6 xs k (k + 1) (.tmp 22) (.tmp 26) (some 27)) else none
noncomputable def C30 (xs : List V) (k : Nat) (id : Nat) : Option (Array Oper → Rule (Option DG)) := if id = 5 then some (fun ops => cutR2 ED (r30 xs k) ops pl30 tx30) else none
theorem ti114 : tiOf Tryz.prog 114 = some ⟨6, true, 136, .agg [.str ⟨#[]⟩, .inl 1 [], .inl 6 [], .inl 6 [], .inl 2 [], .inl 3 []]⟩ := by kernel_rfl
theorem el48 : elOf Tryz.prog 48 = some 114 := by kernel_rfl
theorem d30_okX (xs : List V) (k : Nat) (hk : k < xs.length) (M : Mem) (W : World) {c : Code} (hc : Tryz.f30.body = some c) : okCX (InvD M W) Tryz.prog Tryz.f30.ntmps (C30 xs k) c := by
  have hne : xs ≠ [] := by rintro rfl; simp at hk
  have e : c = _ := (Option.some.inj hc).symm
  subst e
  simp [okCX, C30]
  refine cutX_ok (cs := [2, 6, 7]) (qs := []) ED_ok InvD.evo (by kernel_rfl) ⟨?_, ?_, ?_, ?_⟩ (by kernel_rfl) (by kernel_rfl)
  · intro i r hr
    simp only [r30] at hr
    split at hr
    · rename_i e; simp [e]
    · split at hr
      · rename_i e; simp [e]
      · split at hr
        · rename_i e; simp [e]
        · cases hr
  · intro i hi
    simp only [List.mem_cons, List.not_mem_nil, or_false] at hi
    rcases hi with rfl | rfl | rfl <;> rfl
  · intro i o r ho hr
    simp only [r30] at hr
    split at hr
    · rename_i e
      subst e
      obtain rfl := Option.some.inj hr
      obtain rfl := Option.some.inj ho
      exact ⟨rfl, rCutP_ok (tt := ⟨6, true, 136, .agg [.str ⟨#[]⟩, .inl 1 [], .inl 6 [], .inl 6 [], .inl 2 [], .inl 3 []]⟩) ED_ok.toStaOK hne (by omega) (by omega) rfl el48 ti114 (by kernel_rfl)⟩
    · split at hr
      · rename_i e
        subst e
        obtain rfl := Option.some.inj hr
        obtain rfl := Option.some.inj ho
        exact ⟨rfl, rCutP_ok (tt := ⟨6, true, 136, .agg [.str ⟨#[]⟩, .inl 1 [], .inl 6 [], .inl 6 [], .inl 2 [], .inl 3 []]⟩) ED_ok.toStaOK hne (by omega) (by omega) rfl el48 ti114 (by kernel_rfl)⟩
      · split at hr
        · rename_i e
          subst e
          obtain rfl := Option.some.inj hr
          obtain rfl := Option.some.inj ho
          exact ⟨rfl, rAppP_ok (tt := ⟨6, true, 136, .agg [.str ⟨#[]⟩, .inl 1 [], .inl 6 [], .inl 6 [], .inl 2 [], .inl 3 []]⟩) ED_ok.toStaOK hne (by omega) (by omega) rfl rfl rfl rfl el48 ti114 (by decide) (by kernel_rfl)⟩
        · cases hr
  · intro i o r ho hr hi
    cases hi
attribute [simp] C30 r30
end Go.TM.Tryz
end
section
set_option maxHeartbeats 16000000
set_option maxRecDepth 20000
namespace Go.TM.Tryz
open Go Go.TM Go.Proofs
theorem d30_walk (xs : List Mdl) (n : ByteArray) (h : StOK xs) (hw : whyB xs n = true) (M : Mem) (W : World) (vs : List Value) (hm : MemOK M W (start [.lst (xs.map Mdl.v), .str n] [])) (ha : All2 (SR1 M W) [.lst (xs.map Mdl.v), .str n] vs) :
    Calls Tryz.prog 30 vs.toArray W fun e W' => ∃ v M' s' gg r, e = .returned v ∧ MemOK M' W' s' ∧ InvD M W gg M' W' ∧ SR2 M' W' r v ∧ ∃ t, r = .tup [.own t, .bool true] ∧ s'.R t = some ⟨6, (dropL xs n).map Mdl.o, true⟩ := by
  have hw' := hw
  simp only [whyB, Bool.and_eq_true, decide_eq_true_eq] at hw'
  obtain ⟨hg, hk⟩ := hw'
  obtain ⟨x, hx, k0, k1⟩ := kAt_get hk
  have e81 := c81_eq xs h
  rw [hg] at e81
  have e89 : c89 [.lst (xs.map Mdl.v), .str n] = some (false, .int .i64 (kAt xs n)) := c89_eq xs n h.lim.1
  have e90 := c90_eq xs h.len
  have hd : dropL xs n = xs.take (kAt xs n).toNat ++ xs.drop ((kAt xs n).toNat + 1) := by simp [dropL, hw]
  rw [hd]
  obtain ⟨k, hkk⟩ : ∃ k : Nat, kAt xs n = k := ⟨(kAt xs n).toNat, by omega⟩
  rw [hkk] at e89 k1 ⊢
  simp only [Int.toNat_natCast]
  have hkl : k < xs.length := by omega
  have hlen := h.len.len
  have hwr : IntKind.i64.wrap ((k : Int) + 1) = ((k + 1 : Nat) : Int) := wrap64 (by omega) (by omega)
  refine open_sound (C := C30 (xs.map Mdl.o) k) (Inv := InvD M W) (g := none) ED_ok InvD.evo Tryz.func30 rfl (by kernel_rfl) (d30_okX _ k (by simpa using hkl) M W rfl) hm ha ⟨Evo.refl M W, fun D e => by cases e⟩
    (post := fun s' g' r => ∃ t, r = .tup [.own t, .bool true] ∧ s'.R t = some ⟨6, (xs.take k ++ xs.drop (k + 1)).map Mdl.o, true⟩) ?_
  refine codeX_run ?_
  have hr : Tryz.f30.results.toList = [.tmp 4, .tmp 5] := rfl
  simp only [EndsC, hr, resOf]
  have hk0 : ¬ (k : Int) < 0 := by omega
  simp [e81, e89, e90, hk0, pureOp, cutL, pl30, tx30]
  refine ⟨?_, ?_⟩
  · refine ⟨1, by simp, by simp, by simp, by simp [loIs], by simp [hiIs], by simp, ?_⟩
    rintro ⟨Dt, Db, Do, Dn, Dc⟩ hDt hDn hDc -
    simp only at hDt hDn hDc
    subst hDt hDn
    simp [hwr]
    refine ⟨1, by simp, by simp, by simp, by simp [loIs], by simp [hiIs], by simp, ?_⟩
    rintro D2 - - - hD2
    obtain rfl := hD2 _ rfl
    simp
    refine ⟨_, rfl, by simp, by simp, by simp, by simp, by simp, ?_⟩
    simp
  · simp [hwr]
    refine ⟨?_, ?_⟩
    · refine ⟨1, by simp, by simp, by simp, by simp [loIs], by simp [hiIs], by simp, ?_⟩
      rintro ⟨Dt, Db, Do, Dn, Dc⟩ hDt hDn hDc -
      simp only at hDt hDn hDc
      subst hDt hDn
      simp [hwr]
      refine ⟨1, by simp, by simp, by simp, by simp [loIs], by simp [hiIs], by simp, ?_⟩
      rintro D2 - - - hD2
      obtain rfl := hD2 _ rfl
      simp
      refine ⟨_, rfl, by simp, by simp, by simp, by simp, by simp, ?_⟩
      simp
    · refine ⟨1, by simp, by simp, by simp, by simp [loIs], by simp [hiIs], by simp, ?_⟩
      rintro ⟨Dt, Db, Do, Dn, Dc⟩ hDt hDn hDc -
      simp only at hDt hDn hDc
      subst hDt hDn
      simp [hwr]
      refine ⟨1, by simp, by simp, by simp, by simp [loIs], by simp [hiIs], by simp, ?_⟩
      rintro D2 - - - hD2
      obtain rfl := hD2 _ rfl
      simp
      refine ⟨_, rfl, by simp, by simp, by simp, by simp, by simp, ?_⟩
      simp
theorem f30_ok (xs : List Mdl) (n : ByteArray) (h : StOK xs) : FunOK Tryz.prog 30 [.lst (xs.map Mdl.v), .str n] false (dropO xs n) := by
  cases hw : whyB xs n with
  | true =>
    simp only [dropO, hw]
    refine fun_of_open ⟨_, Tryz.func30, by kernel_rfl, by kernel_rfl⟩ (by simp) fun M W vs hm ha => (d30_walk xs n h hw M W vs hm ha).mono ?_
    rintro e W' ⟨v, M', s', gg, r, rfl, h1, h2, h3, t, rfl, h4⟩
    exact ⟨v, M', s', t, rfl, h1, h2.1, h3, h4⟩
  | false =>
    simp only [dropO, dropL, hw]
    refine fun_ok (mkE_ok zmix (cl := [(81, c81), (89, c89), (90, c90)]) (gl := []) [] ⟨c81_ok, c89_ok, c90_ok⟩ trivial) Tryz.func30 (by kernel_rfl) ?_
    refine FunW_run _ _ rfl rfl ?_
    have e81 := c81_eq xs h
    have e89 : c89 [.lst (xs.map Mdl.v), .str n] = some (false, .int .i64 (kAt xs n)) := c89_eq xs n h.lim.1
    cases hg : goodB xs with
    | false =>
      rw [hg] at e81
      simp [e81, e89]
    | true =>
      rw [hg] at e81
      have hk : kAt xs n < 0 := by simpa [whyB, hg] using hw
      simp [e81, e89, hk]
end Go.TM.Tryz
end
section
set_option maxHeartbeats 4000000
namespace Go.TM
open Go
def intIs (s : S) (y : Operand) (l : Nat) : Prop := needs true s [y] ∧ opnd s y = .int .i64 l
def rCut3 (z : Nat) (xs : List V) (l h m : Nat) (x lo hi mx : Operand) (d : Option Tmp) : Rule (Option DG) := fun s g K =>
  ∃ t, needs true s [x] ∧ opnd s x = .own t ∧ s.R t = some ⟨z, xs, true⟩ ∧ intIs s lo l ∧ intIs s hi h ∧ intIs s mx m ∧ K (s.put d .bad) g
def rCutT (z l h : Nat) (x lo hi : Operand) (d : Option Tmp) : Rule (Option DG) := fun s g K =>
  ∃ D, g = some D ∧ needs true s [x] ∧ opnd s x = .own D.t ∧ intIs s lo l ∧ intIs s hi h ∧ l ≤ h ∧ h ≤ D.c ∧ K (s.put d (.raw (cutH z D l h))) g
def rClear (z : Nat) (xs : List V) (l h : Nat) (x : Operand) : Rule (Option DG) := fun s g K =>
  ∃ D, g = some D ∧ needs true s [x] ∧ opnd s x = .raw (cutH z D l h) ∧ s.R D.t = some ⟨z, xs, true⟩ ∧ D.n ≤ l ∧ l < h ∧ h ≤ D.c ∧ K s g
section
variable {P : Program} {E : Env} {n : Nat} {M0 : Mem} {W0 : World}
theorem intIs_val {M : Mem} {W : World} {s : S} {a : Act} {y : Operand} {l : Nat} (h : St n M W s a) (hy : okOp n y = true) (hi : intIs s y l) : a.eval y = .int .i64 l := by
  have h3 := opnd_sound h hy hi.1
  rw [hi.2] at h3
  exact h3
theorem cut3_run (sta : StaOK P E) {t e : TypeId} {tt : TI} (he : E.el t = some e) (ht : E.ti e = some tt) {l h m len : Nat} (h2 : l ≤ h) (h3 : h ≤ m) (A : Option Addr) (c : Nat) (hc : m ≤ c) (w : World) :
    ∃ v, (Instr.sliceAt t (.slice A len c) (some (.int .i64 l)) (some (.int .i64 h)) (some (.int .i64 m))).run P w = .ok v w := by
  have hu := sta.el t e he
  have hsz := (sta.ti e tt ht).size
  have b1 : ∀ code w, (Instr.sliceBound (.int .i64 (m : Int)) c code).run P w = .ok m w := fun code w => by
    have := run_bound (P := P) (k := .i64) (i := (m : Int)) (y := c) code ⟨by omega, by omega⟩ w
    simpa using this
  have b2 : ∀ code w, (Instr.sliceBound (.int .i64 (h : Int)) m code).run P w = .ok h w := fun code w => by
    have := run_bound (P := P) (k := .i64) (i := (h : Int)) (y := m) code ⟨by omega, by omega⟩ w
    simpa using this
  have b3 : ∀ code w, (Instr.sliceBound (.int .i64 (l : Int)) h code).run P w = .ok l w := fun code w => by
    have := run_bound (P := P) (k := .i64) (i := (l : Int)) (y := h) code ⟨by omega, by omega⟩ w
    simpa using this
  refine ⟨.slice (if m = l then A else A.map (·.add (l * tt.sz))) (h - l) (m - l), ?_⟩
  unfold Instr.sliceAt
  rw [Sem.run_bind, run_und hu]
  simp only [Result.andThen]
  unfold Instr.slice
  rw [Sem.run_bind, run_und hu]
  simp [Instr.sliceBounds, b1, b2, b3, hsz]
theorem cutT_run (sta : StaOK P E) {t e : TypeId} {tt : TI} (he : E.el t = some e) (ht : E.ti e = some tt) {l h len : Nat} (h2 : l ≤ h) (A : Option Addr) (c : Nat) (hc : h ≤ c) (w : World) :
    (Instr.sliceAt t (.slice A len c) (some (.int .i64 l)) (some (.int .i64 h)) none).run P w = .ok (.slice (if c = l then A else A.map (·.add (l * tt.sz))) (h - l) (c - l)) w := by
  have hu := sta.el t e he
  have hsz := (sta.ti e tt ht).size
  have b2 : ∀ code w, (Instr.sliceBound (.int .i64 (h : Int)) c code).run P w = .ok h w := fun code w => by
    have := run_bound (P := P) (k := .i64) (i := (h : Int)) (y := c) code ⟨by omega, by omega⟩ w
    simpa using this
  have b3 : ∀ code w, (Instr.sliceBound (.int .i64 (l : Int)) h code).run P w = .ok l w := fun code w => by
    have := run_bound (P := P) (k := .i64) (i := (l : Int)) (y := h) code ⟨by omega, by omega⟩ w
    simpa using this
  unfold Instr.sliceAt
  rw [Sem.run_bind, run_und hu]
  simp only [Result.andThen]
  unfold Instr.slice
  rw [Sem.run_bind, run_und hu]
  simp [Instr.sliceBounds, b2, b3, hsz]
theorem rCut3_ok (sta : StaOK P E) {o : Oper} {ty e : TypeId} {tt : TI} {x lo hi mx : Operand} {xs : List V} {l h m : Nat} (hne : xs ≠ []) (h1 : l ≤ h) (h2 : h ≤ m) (h3 : m ≤ xs.length) (ho : o.op = .slice ty x (some lo) (some hi) (some mx)) (he : E.el ty = some e) (ht : E.ti e = some tt) (hok : okO n o = true) :
    RuleOK (InvD M0 W0) P n o (rCut3 tt.sz xs l h m x lo hi mx o.dst) := by
  rintro s g a W M K Q hst hiv ⟨t, hn, hx, hR, i1, i2, i3, hK⟩
  simp only [okO, Bool.and_eq_true, List.all_eq_true] at hok
  have hmem : ∀ u, u ∈ [x, lo, hi, mx] → okOp n u = true := fun u hu => hok.1 u (by
    rw [ho]
    simp only [Op.operands]
    simpa using hu)
  obtain ⟨b, off, c, hρ, hc, htn⟩ := own_hdr hst.mem hR hne
  have hv := opnd_sound hst (hmem x (by simp)) hn
  rw [hx] at hv
  have hv2 : a.eval x = M.ρ t := hv.2
  obtain ⟨v, hrv⟩ := cut3_run (P := P) sta he ht (len := xs.length) h1 h2 (some ⟨b, off, none⟩) c (by omega) W
  have hrun : (execOp a.eval o).run P W = .ok (.value v) W := by
    simp only [execOp, ho, hv2, hρ, Option.map_some, intIs_val hst (hmem lo (by simp)) i1, intIs_val hst (hmem hi (by simp)) i2, intIs_val hst (hmem mx (by simp)) i3]
    rw [Sem.run_bind, hrv]
    rfl
  exact wp_value hrun ⟨M, _, _, hst.putO hok.2 (x := .bad) trivial, hiv, hK⟩
theorem rCutT_ok (sta : StaOK P E) {o : Oper} {ty e : TypeId} {tt : TI} {x lo hi : Operand} {l h : Nat} (ho : o.op = .slice ty x (some lo) (some hi) none) (he : E.el ty = some e) (ht : E.ti e = some tt) (hok : okO n o = true) :
    RuleOK (InvD M0 W0) P n o (rCutT tt.sz l h x lo hi o.dst) := by
  rintro s g a W M K Q hst hiv ⟨D, rfl, hn, hx, i1, i2, h1, h2, hK⟩
  simp only [okO, Bool.and_eq_true, List.all_eq_true] at hok
  have hmem : ∀ u, u ∈ [x, lo, hi] → okOp n u = true := fun u hu => hok.1 u (by
    rw [ho]
    simp only [Op.operands]
    simpa using hu)
  obtain ⟨hDt, hρ⟩ := hiv.2 D rfl
  have hv := opnd_sound hst (hmem x (by simp)) hn
  rw [hx] at hv
  have hv2 : a.eval x = M.ρ D.t := hv.2
  have hrun : (execOp a.eval o).run P W = .ok (.value (cutH tt.sz D l h).val) W := by
    simp only [execOp, ho, hv2, hρ, Option.map_some, Option.map_none, intIs_val hst (hmem lo (by simp)) i1, intIs_val hst (hmem hi (by simp)) i2]
    rw [Sem.run_bind, cutT_run (P := P) sta he ht h1 (some ⟨D.b, D.o, none⟩) D.c h2 W]
    simp only [Option.map_some, cutH, Hdr.val, add_eq]
    rfl
  exact wp_value hrun ⟨M, _, _, hst.putO hok.2 (x := .raw (cutH tt.sz D l h)) rfl, hiv, hK⟩
end
end Go.TM
end
section
set_option maxHeartbeats 4000000
namespace Go.TM
open Go
theorem zL_one {x : V} {v : Value} (h : zL x v) : v.oneCell' = true := by
  cases x <;> first | (cases h; rfl) | (obtain ⟨rfl, rfl⟩ := h; rfl) | (have e : v = _ := h; subst e; rename_i hd; cases hd <;> rfl) | exact h.elim
theorem zR_one {x : V} {v : Value} (h : zR x v) : ∀ u ∈ v.cells.toList, u.oneCell' = true := by
  by_cases ha : ∃ xs, x = .agg xs
  · obtain ⟨xs, rfl⟩ := ha
    obtain ⟨vs, rfl, ha⟩ := h
    intro u hu
    simp only [Value.cells] at hu
    have key : ∀ (xs : List V) (vs : List Value), All2 zL xs vs → ∀ u ∈ vs, u.oneCell' = true := by
      intro xs
      induction xs with
      | nil =>
        intro vs h u hu
        cases vs with
        | nil => cases hu
        | cons _ _ => exact h.elim
      | cons x xs ih =>
        intro vs h u hu
        cases vs with
        | nil => exact h.elim
        | cons v vs =>
          rcases List.mem_cons.1 hu with rfl | hu
          · exact zL_one h.1
          · exact ih vs h.2 u hu
    exact key xs vs ha u hu
  · have e1 : zR x v = zL x v := by cases x <;> first | rfl | exact absurd ⟨_, rfl⟩ ha
    rw [e1] at h
    have h1 := zL_one h
    intro u hu
    have e2 : v.cells = #[v] := by cases v <;> first | rfl | (simp [Value.oneCell'] at h1)
    rw [e2] at hu
    simp at hu
    rw [hu]
    exact h1
section
variable {P : Program} {E : Env} {n : Nat} {M0 : Mem} {W0 : World}
theorem tail_ok {M : Mem} {W : World} {s : S} {t z b o c : Nat} {xs : List V} {cs cur : Array Value} {ty : TypeId} (h : MemOK M W s) (hR : s.R t = some ⟨z, xs, true⟩) (hρ : M.ρ t = .slice (some ⟨b, o, none⟩) xs.length c) (hc : 0 < c)
    (hb : W.heap[b]? = some (.cells cs ty (0, 0))) (hsz : cur.size = cs.size) (hcur : ∀ p, p < o + xs.length * z → cur[p]? = cs[p]?) : MemOK M (W.setRow b cur) s ∧ Evo M W M (W.setRow b cur) := by
  obtain ⟨htn, hrow⟩ := h.row t _ hR
  have hxs : ∀ e ∈ xs, (leaves e).length = z := hrow.sizes
  have hW' : (W.setRow b cur).heap[b]? = some (.cells cur ty (0, 0)) := setRow_heap W b cs cur ty (0, 0) hb
  have hrow' : M.ω b = some (.tok t) ∧ Row M (W.setRow b cur) t ⟨z, xs, true⟩ := by
    rcases hrow with ⟨_, B, h1, h2, h3⟩ | ⟨hw, _⟩
    · have hlt : ∀ j i l, leafAt xs j i = some l → o + j * z + i < o + xs.length * z := fun j i l hl => by
        obtain ⟨h4, h5⟩ := leafAt_lt hxs hl
        have : (j + 1) * z ≤ xs.length * z := Nat.mul_le_mul_right _ h4
        rw [Nat.add_mul] at this
        omega
      have h1' : OwnN W M.F B z (.slice (some ⟨b, o, none⟩) xs.length c) xs := hρ ▸ h1
      generalize hm : xs.length = m at h1'
      cases h1' with
      | nil => omega
      | row _ _ _ _ _ _ cs' ty' u Bs hB hBs hd hb' hn hmx hcs hs hcc hl hN =>
        rw [hb] at hb'
        cases hb'
        have hωb := h2 b hB
        have hbF : ∀ x, M.F x → x ≠ b := fun x hFx e => by
          rw [e] at hFx
          rw [(h.frz _ hFx).1] at hωb
          cases hωb
        refine ⟨hωb, .inl ⟨rfl, B, ?_, h2, fun j i z' ys hl' b' o' n' c' hv => ?_⟩⟩
        · rw [hρ]
          refine .row B z xs b o c cur ty u Bs hB hBs hd hW' hn hmx (by rw [hsz]; exact hcs) hs (fun j i l hl' => ?_) (fun j i l h4 h5 => (hl j i l h4 h5).mono (fun x hx => setRow_other W b x _ (hbF x hx)) fun _ h => h) fun j i z' ys h4 => (hN j i z' ys h4).mono (fun x hx => setRow_other W b x _ (hbF x hx)) (fun _ h => h) fun x hx => ⟨hx, setRow_other W b x _ (hBs j i x hx).2⟩
          rw [hcur _ (hlt j i l hl')]
          exact hcc j i l hl'
        · rw [hρ] at hv
          cases hv
          have h4 := h3 j i z' ys hl' b o _ _ hρ
          simp only [World.cell?, hb] at h4
          simp only [World.cell?, hW']
          have e := hcur _ (hlt j i _ hl')
          rw [e]
          exact h4
    · cases hw
  obtain ⟨hωb, hrow'⟩ := hrow'
  have hother : ∀ x, M.ω x ≠ some (.tok t) → (W.setRow b cur).heap[x]? = W.heap[x]? := fun x hx => setRow_other W b x _ (fun e => by subst e; exact hx hωb)
  have hk : Keep M W M (W.setRow b cur) := ⟨fun _ h => h, fun x hx => hother x (by rw [(h.frz x hx).1]; simp), fun _ _ => rfl, fun _ _ _ _ => rfl, fun _ _ => rfl, Nat.le_refl _, Nat.le_refl _⟩
  refine ⟨⟨h.nt, h.nb, fun k cv hk' => ?_, fun t' r hr => ?_, fun x hx => ⟨(h.frz x hx).1, by simpa using (h.frz x hx).2⟩, fun x l hx => by simpa using h.lt x l hx, h.tok, h.bx⟩, ⟨rfl, rfl, rfl, by simp, fun x _ hx => hother x (by rw [hx]; simp), fun x l hx => .inl (by rw [hx]; simp), fun x hx => .inl hx, fun _ h => h, Nat.le_refl _, Nat.le_refl _, fun _ _ => rfl, fun _ _ => rfl⟩⟩
  · obtain ⟨k1, cs1, ty1, k2, k3, k4⟩ := h.box k cv hk'
    exact ⟨k1, cs1, ty1, by rw [hother _ (by rw [k3]; simp)]; exact k2, k3, hk.leaves k4⟩
  · by_cases ht' : t' = t
    · subst ht'
      rw [hR] at hr
      cases hr
      exact ⟨htn, hrow'⟩
    · obtain ⟨k1, k2⟩ := h.row t' r hr
      exact ⟨k1, hk.row k1 (fun _ x hx => ⟨hx, hother x (by rw [hx]; simp [ht'])⟩) k2⟩
theorem rClear_ok (sta : StaOK P E) {o : Oper} {c : Call} {ty e : TypeId} {tt : TI} {x : Operand} {xs : List V} {l h : Nat} (ho : o.op = .call c) (hd : o.dst = none) (hcal : c.callee = .builtin .clear) (hargs : c.args.toList = [x]) (htys : c.argTypes.toList = [ty]) (he : E.el ty = some e) (ht : E.ti e = some tt) (hlen : xs.length ≤ l) (hok : okO n o = true) :
    RuleOK (InvD M0 W0) P n o (rClear tt.sz xs l h x) := by
  rintro s g a W M K Q hst hiv ⟨D, rfl, hn, hx, hR, h0, h1, h2, hK⟩
  simp only [okO, Bool.and_eq_true, List.all_eq_true] at hok
  obtain ⟨hDt, hρ⟩ := hiv.2 D rfl
  have hx' : c.args = #[x] := by rw [← Array.toList_inj, hargs]
  have ht' : c.argTypes = #[ty] := by rw [← Array.toList_inj, htys]
  have vx := opnd_sound hst (hok.1 x (by
    rw [ho]
    simp only [Op.operands, Call.operands, hcal, hx']
    simp)) hn
  rw [hx] at vx
  have ex : a.eval x = .slice (some ⟨D.b, D.o + l * tt.sz, none⟩) (h - l) (D.c - l) := by
    have h3 : a.eval x = (cutH tt.sz D l h).val := vx
    rw [h3]
    have : ¬ D.c = l := by omega
    simp only [cutH, Hdr.val, if_neg this]
  obtain ⟨ie, hie, his, hib, z, hzz, hzr⟩ := (sta.ti e tt ht).info
  have hzs : z.cells.size = tt.sz := (zcells hzr).trans (sta.ti e tt ht).zs
  have hu := sta.el ty e he
  have hDn : D.n = xs.length := by
    have hl := (hst.mem.row _ _ hR).2.len
    obtain ⟨A, c', hl⟩ := hl
    rw [hρ] at hl
    simp only [Value.slice.injEq] at hl
    exact hl.2.1
  rw [hDn] at hρ
  have hblk : ∃ cs et, W.heap[D.b]? = some (.cells cs et (0, 0)) ∧ cs.size = D.o + D.c * tt.sz := by
    rcases (hst.mem.row _ _ hR).2 with ⟨_, B, k1, _, _⟩ | ⟨hw, _⟩
    · have k1' : OwnN W M.F B tt.sz (.slice (some ⟨D.b, D.o, none⟩) xs.length D.c) xs := hρ ▸ k1
      generalize xs.length = m at k1'
      generalize hcc : D.c = cc at k1'
      cases k1' with
      | nil => omega
      | row _ _ _ _ _ _ cs' ty' u Bs hB hBs hd hb' hn hmx hcs => exact ⟨_, _, hb', hcs⟩
    · cases hw
  obtain ⟨cs, et, hb, hcs⟩ := hblk
  generalize hvs : (Builtin.zeroCells z.cells (h - l)).toList = vs
  have hvl : vs.length = (h - l) * tt.sz := by rw [← hvs, Array.length_toList, size_zeroCells, hzs]
  have hone : ∀ v ∈ vs, v.oneCell' = true := by
    intro v hv
    rw [← hvs] at hv
    simp only [Builtin.zeroCells, Array.toList_map, List.mem_map] at hv
    obtain ⟨i, hi, rfl⟩ := hv
    simp only [Array.toList_range, List.mem_range] at hi
    have hpos : 0 < z.cells.size := by
      rcases Nat.eq_zero_or_pos z.cells.size with h3 | h3
      · rw [h3] at hi; simp at hi
      · exact h3
    have hlt : i % z.cells.size < z.cells.size := Nat.mod_lt _ hpos
    rw [getElem!_pos z.cells _ hlt]
    exact zR_one hzr _ (by simp)
  have hfit : D.o + l * tt.sz + vs.length ≤ cs.size := by
    rw [hvl, hcs]
    have h3 : l * tt.sz + (h - l) * tt.sz = h * tt.sz := by rw [← Nat.add_mul]; congr 1; omega
    have h4 : h * tt.sz ≤ D.c * tt.sz := Nat.mul_le_mul_right _ h2
    omega
  have hst' := run_storeCells_at (P := P) D.b (D.o + l * tt.sz) et vs 0 cs W hb (by simpa using hfit) hone
  simp only [Nat.add_zero] at hst'
  generalize hcur : (cs.toList.take (D.o + l * tt.sz) ++ vs ++ cs.toList.drop (D.o + l * tt.sz + vs.length)).toArray = cur at hst'
  have hrun : (execOp a.eval o).run P W = .ok (.value (.tuple #[])) (W.setRow D.b cur) := by
    obtain ⟨m, hm⟩ : ∃ m, h - l = m + 1 := ⟨h - l - 1, by omega⟩
    rw [hm] at ex hvs
    simp only [execOp, ho, resolve, hcal, pure_bind, invoke, builtin, hx', ht']
    simp [ex, Builtin.clear_, run_underlying hu, zeroValue, typeInfo, hie, hzz, hvs, hst']
  have htk : (cs.toList.take (D.o + l * tt.sz)).length = D.o + l * tt.sz := by
    rw [List.length_take]
    have : cs.toList.length = cs.size := Array.length_toList
    omega
  obtain ⟨k1, k2⟩ := tail_ok (cur := cur) hst.mem hR hρ (by omega) hb (by
    rw [← hcur]
    simp only [List.size_toArray, List.length_append, htk, List.length_drop, Array.length_toList]
    omega) (fun p hp => by
    have h3 : xs.length * tt.sz ≤ l * tt.sz := Nat.mul_le_mul_right _ hlen
    rw [← hcur, List.getElem?_toArray, List.append_assoc, List.getElem?_append_left (by rw [htk]; omega), List.getElem?_take_of_lt (by omega), Array.getElem?_toList])
  have hkp : Keep M W M (W.setRow D.b cur) := ⟨fun _ h => h, fun x hx => k2.old x (hst.mem.frz x hx).2 (hst.mem.frz x hx).1, fun _ _ => rfl, fun _ _ _ _ => rfl, fun _ _ => rfl, Nat.le_refl _, Nat.le_refl _⟩
  refine wp_value hrun ⟨M, s, _, ?_, ⟨hiv.1.trans k2, hiv.2⟩, hK⟩
  rw [hd]
  exact ⟨hst.size, hst.defers, fun y hy => hkp.all (hst.slot y hy), k1⟩
end
end Go.TM
end
section
set_option maxHeartbeats 16000000
set_option maxRecDepth 20000
namespace Go.TM.Tryz
open Go Go.TM Go.Proofs
noncomputable def E9 : Env := mkE Tryz.prog [] [] []
theorem E9_ok : EnvOK Tryz.prog E9 := mkE_ok zmix [] trivial trivial
@[simp] theorem E9_ti : E9.ti = tiOf Tryz.prog := rfl
@[simp] theorem E9_el : E9.el = elOf Tryz.prog := rfl
@[simp] theorem E9_fld : E9.fld = Go.TM.fldOf Tryz.prog := rfl
@[simp] theorem E9_str : E9.str = strOf Tryz.prog := rfl
@[simp] theorem E9_bol : E9.bol = bolOf Tryz.prog := rfl
@[simp] theorem E9_int : E9.int = intOf Tryz.prog := rfl
@[simp] theorem E9_bld : E9.bld = bldOf Tryz.prog := rfl
@[simp] theorem E9_eqs : E9.eqs = eqsOf Tryz.prog := rfl
@[simp] theorem E9_call : E9.call = callL [] := rfl
@[simp] theorem E9_rw : E9.rw = rwL [] := rfl
@[simp] theorem E9_gen : E9.gen = genL [] := rfl
@[simp] theorem E9_plan : E9.plan = planL [] := rfl
@[simp] theorem E9_pln : E9.pln = fun _ => none := rfl
@[simp] theorem startX3_0 (s : S) (a b c : V) : (startX s [a, b, c]).e 0 = a := keep rfl
@[simp] theorem startX3_1 (s : S) (a b c : V) : (startX s [a, b, c]).e 1 = b := keep rfl
@[simp] theorem startX3_2 (s : S) (a b c : V) : (startX s [a, b, c]).e 2 = c := keep rfl
def tx92 : TX := .two false 2 (.one false 5 (.one false 6 (.one false 7 .done))) false 5 (.one false 2 (.one false 6 (.one false 7 .done)))
def pl92 : Pl := ⟨[0, 1, 3, 4], [], [], [2, 5, 6, 7], .done⟩
noncomputable def r92a (xs : List V) (i j : Nat) (x : Nat) : Option (Rule (Option DG)) := if x = 5 then some (rCut3 6 xs i j xs.length (.tmp 8) (.tmp 9) (.tmp 10) (.tmp 12) (some 13)) else none
noncomputable def r92b (xs : List V) (i j : Nat) (x : Nat) : Option (Rule (Option DG)) := if x = 2 then some (rCutP 6 xs 0 i (.tmp 20) none (some (.tmp 21)) (some 22)) else if x = 5 then some (rCutP 6 xs j xs.length (.tmp 23) (some (.tmp 24)) none (some 25)) else if x = 6 then some (rAppP 6 xs i j (.tmp 22) (.tmp 25) (some 26)) else none
noncomputable def r92c (xs ys : List V) (x : Nat) : Option (Rule (Option DG)) := if x = 4 then some (rCutT 6 ys.length xs.length (.tmp 27) (.tmp 29) (.tmp 30) (some 31)) else if x = 5 then some (rClear 6 ys ys.length xs.length (.tmp 31)) else none
noncomputable def C92 (xs : List V) (i j : Nat) (id : Nat) : Option (Array Oper → Rule (Option DG)) :=
  if id = 1 then some (seqR E9 (r92a xs i j)) else if id = 5 then some (fun ops => cutR2 E9 (r92b xs i j) ops pl92 tx92) else if id = 6 then some (seqR E9 (r92c xs (xs.take i ++ xs.drop j))) else none
theorem d92_okX (xs : List V) (i j : Nat) (hne : xs ≠ []) (hij : i ≤ j) (hj : j ≤ xs.length) (M : Mem) (W : World) {c : Code} (hc : Tryz.f92.body = some c) : okCX (InvD M W) Tryz.prog Tryz.f92.ntmps (C92 xs i j) c := by
  have e : c = _ := (Option.some.inj hc).symm
  subst e
  simp [okCX, C92]
  refine ⟨?_, ?_, ?_⟩
  · refine opsX_ok E9_ok InvD.evo (by kernel_rfl) ?_
    intro i o r ho hr
    simp only [r92a] at hr
    split at hr
    · rename_i e
      subst e
      obtain rfl := Option.some.inj hr
      obtain rfl := Option.some.inj ho
      exact ⟨rfl, rCut3_ok (tt := ⟨6, true, 136, .agg [.str ⟨#[]⟩, .inl 1 [], .inl 6 [], .inl 6 [], .inl 2 [], .inl 3 []]⟩) E9_ok.toStaOK hne hij (by omega) (by omega) rfl el48 ti114 (by kernel_rfl)⟩
    · cases hr
  · refine cutX_ok (cs := [2, 5, 6]) (qs := []) E9_ok InvD.evo (by kernel_rfl) ⟨?_, ?_, ?_, ?_⟩ (by kernel_rfl) (by kernel_rfl)
    · intro i r hr
      simp only [r92b] at hr
      split at hr
      · rename_i e; simp [e]
      · split at hr
        · rename_i e; simp [e]
        · split at hr
          · rename_i e; simp [e]
          · cases hr
    · intro i hi
      simp only [List.mem_cons, List.not_mem_nil, or_false] at hi
      rcases hi with rfl | rfl | rfl <;> rfl
    · intro i o r ho hr
      simp only [r92b] at hr
      split at hr
      · rename_i e
        subst e
        obtain rfl := Option.some.inj hr
        obtain rfl := Option.some.inj ho
        exact ⟨rfl, rCutP_ok (tt := ⟨6, true, 136, .agg [.str ⟨#[]⟩, .inl 1 [], .inl 6 [], .inl 6 [], .inl 2 [], .inl 3 []]⟩) E9_ok.toStaOK hne (by omega) (by omega) rfl el48 ti114 (by kernel_rfl)⟩
      · split at hr
        · rename_i e
          subst e
          obtain rfl := Option.some.inj hr
          obtain rfl := Option.some.inj ho
          exact ⟨rfl, rCutP_ok (tt := ⟨6, true, 136, .agg [.str ⟨#[]⟩, .inl 1 [], .inl 6 [], .inl 6 [], .inl 2 [], .inl 3 []]⟩) E9_ok.toStaOK hne (by omega) (by omega) rfl el48 ti114 (by kernel_rfl)⟩
        · split at hr
          · rename_i e
            subst e
            obtain rfl := Option.some.inj hr
            obtain rfl := Option.some.inj ho
            exact ⟨rfl, rAppP_ok (tt := ⟨6, true, 136, .agg [.str ⟨#[]⟩, .inl 1 [], .inl 6 [], .inl 6 [], .inl 2 [], .inl 3 []]⟩) E9_ok.toStaOK hne (by omega) (by omega) rfl rfl rfl rfl el48 ti114 (by decide) (by kernel_rfl)⟩
          · cases hr
    · intro i o r ho hr hi
      cases hi
  · refine opsX_ok E9_ok InvD.evo (by kernel_rfl) ?_
    intro i o r ho hr
    simp only [r92c] at hr
    split at hr
    · rename_i e
      subst e
      obtain rfl := Option.some.inj hr
      obtain rfl := Option.some.inj ho
      exact ⟨rfl, rCutT_ok (tt := ⟨6, true, 136, .agg [.str ⟨#[]⟩, .inl 1 [], .inl 6 [], .inl 6 [], .inl 2 [], .inl 3 []]⟩) E9_ok.toStaOK rfl el48 ti114 (by kernel_rfl)⟩
    · split at hr
      · rename_i e
        subst e
        obtain rfl := Option.some.inj hr
        obtain rfl := Option.some.inj ho
        exact ⟨rfl, rClear_ok (tt := ⟨6, true, 136, .agg [.str ⟨#[]⟩, .inl 1 [], .inl 6 [], .inl 6 [], .inl 2 [], .inl 3 []]⟩) E9_ok.toStaOK rfl rfl rfl rfl rfl el48 ti114 (Nat.le_refl _) (by kernel_rfl)⟩
      · cases hr
attribute [simp] C92 r92a r92b r92c
theorem d92_walk (zs : List Mdl) (i j : Nat) (hij : i < j) (hj : j ≤ zs.length) (hlen : zs.length ≤ 1048576) (M : Mem) (W : World) (vs : List Value) (hm : MemOK M W (start [.inl 6 (zs.map Mdl.o), .int .i64 i, .int .i64 j] [])) (ha : All2 (SR1 M W) [.own 0, .int .i64 i, .int .i64 j] vs) :
    Calls Tryz.prog 92 vs.toArray W fun e W' => ∃ v M' s' gg r, e = .returned v ∧ MemOK M' W' s' ∧ InvD M W gg M' W' ∧ SR2 M' W' r v ∧ ∃ t, r = .own t ∧ s'.R t = some ⟨6, (zs.take i ++ zs.drop j).map Mdl.o, true⟩ := by
  have hne : zs.map Mdl.o ≠ [] := by
    intro e
    have := congrArg List.length e
    simp at this
    rw [this] at hj
    simp at hj
    omega
  have he : (zs.take i ++ zs.drop j).map Mdl.o = (zs.map Mdl.o).take i ++ (zs.map Mdl.o).drop j := by simp
  rw [he]
  refine open_sound (C := C92 (zs.map Mdl.o) i j) (Inv := InvD M W) (g := none) E9_ok InvD.evo Tryz.func92 rfl (by kernel_rfl) (d92_okX _ i j hne (by omega) (by simpa using hj) M W rfl) hm ha ⟨Evo.refl M W, fun D e => by cases e⟩
    (post := fun s' g' r => ∃ t, r = .own t ∧ s'.R t = some ⟨6, (zs.map Mdl.o).take i ++ (zs.map Mdl.o).drop j, true⟩) ?_
  refine codeX_run ?_
  have hr : Tryz.f92.results.toList = [.tmp 6] := rfl
  simp only [EndsC, hr, resOf]
  have hij' : ¬ (i : Int) = (j : Int) := by omega
  have hl2 : min i zs.length + (zs.length - j) < zs.length := by omega
  simp [pureOp, cutL, pl92, tx92, hij']
  refine ⟨0, by simp, by simp, by simp, by simp [intIs], by simp [intIs], by simp [intIs], ?_⟩
  simp [pureOp, cutL, pl92, tx92, hij']
  refine ⟨?_, ?_⟩
  · refine ⟨0, by simp, by simp, by simp, by simp [loIs], by simp [hiIs], by simp, ?_⟩
    rintro ⟨Dt, Db, Do, Dn, Dc⟩ hDt hDn hDc -
    simp only at hDt hDn hDc
    subst hDt hDn
    simp
    refine ⟨0, by simp, by simp, by simp, by simp [loIs], by simp [hiIs], by simp, ?_⟩
    rintro D2 - - - hD2
    obtain rfl := hD2 _ rfl
    simp
    refine ⟨_, rfl, by simp, by simp, by simp, by simp, by simp, ?_⟩
    simp
    refine ⟨_, rfl, by simp, by simp, by simp [intIs], by simp [intIs], by omega, by simpa using hDc, ?_⟩
    simp
    refine ⟨_, rfl, by simp, by simp, by simp, by simp, by omega, by simpa using hDc, ?_⟩
    simp
  · refine ⟨0, by simp, by simp, by simp, by simp [loIs], by simp [hiIs], by simp, ?_⟩
    rintro ⟨Dt, Db, Do, Dn, Dc⟩ hDt hDn hDc -
    simp only at hDt hDn hDc
    subst hDt hDn
    simp
    refine ⟨0, by simp, by simp, by simp, by simp [loIs], by simp [hiIs], by simp, ?_⟩
    rintro D2 - - - hD2
    obtain rfl := hD2 _ rfl
    simp
    refine ⟨_, rfl, by simp, by simp, by simp, by simp, by simp, ?_⟩
    simp
    refine ⟨_, rfl, by simp, by simp, by simp [intIs], by simp [intIs], by omega, by simpa using hDc, ?_⟩
    simp
    refine ⟨_, rfl, by simp, by simp, by simp, by simp, by omega, by simpa using hDc, ?_⟩
    simp
theorem f92_ok (zs : List Mdl) (i j : Nat) (hij : i < j) (hj : j ≤ zs.length) (hlen : zs.length ≤ 1048576) : GenOK Tryz.prog 92 [.inl 6 (zs.map Mdl.o), .int .i64 i, .int .i64 j] [] ⟨true, .inl 6 ((zs.take i ++ zs.drop j).map Mdl.o), [.bad], []⟩ := by
  refine ⟨⟨_, Tryz.func92, by kernel_rfl, by kernel_rfl⟩, fun M W vs hm ha => (d92_walk zs i j hij hj hlen M W vs hm ha).mono ?_⟩
  rintro e W' ⟨v, M', s', gg, r, rfl, h1, h2, h3, t, rfl, h4⟩
  refine ⟨v, M', s', _, rfl, h3, h1, h2.1, ?_, ?_, ?_, ?_, ?_, ?_, ?_⟩
  · simp [resToks, resToks1, toks1, tokL, liveOuts, isBad, S.wrT, h4]
  · simp [resBoxes, boxesL]
  · intro h
    cases h
  · simp
  · simp [outsOk, isBad]
  · simp [boxOuts]
  · simp [closeR, closeB, onL1, closeL, h4]
end Go.TM.Tryz
end
section
set_option maxHeartbeats 2000000
namespace Go.TM.Tryz
open Go Go.TM Go.Proofs
theorem f101_ok (x : Knw) (h : True) : FunOK Tryz.prog 101 [x.v] false x.v := by
  refine fun_ok (mkE_ok zmix (cl := []) (gl := []) [] trivial trivial) Tryz.func101 (by kernel_rfl) ?_
  refine FunW_run _ _ rfl rfl ?_
  simp
noncomputable def c101 := ctr (fun x : Knw => True) (fun x => [x.v]) (fun x => (false, x.v))
theorem c101_eq (a0 : ByteArray) (a1 : ByteArray) (a2 : Int) : c101 [.agg [.str a0, .str a1, .int .i64 a2]] = some (false, .agg [.str a0, .str a1, .int .i64 a2]) := ctr_eq (inj0 Knw.v_inj _) (Knw.mk a0 a1 a2) trivial rfl
theorem c101_ok : COK Tryz.prog (101, c101) := ctr_ok fun n h => f101_ok n h
theorem f42_ok (xs : List Knw) (h : szL Knw.sz xs ≤ 1048576) : FunOK Tryz.prog 42 [.lst (xs.map Knw.v)] false (.inl 3 (xs.map Knw.v)) := by
  refine fun_ok (mkE_ok zmix (cl := [(101, c101)]) (gl := []) [] c101_ok trivial) Tryz.func42 (by kernel_rfl) ?_
  refine FunW_run _ _ rfl rfl ?_
  have hl := szL_len Knw.sz xs
  have hb2 : xs.length * 40 ≤ 140737488355328 := by omega
  have hb3 : xs.length ≤ 4294967296 := by omega
  simp [room, hb2, hb3]
  refine lp_list xs (fun i t => t.e 0 = .lst (xs.map Knw.v) ∧ t.e 4 = .int .i64 i ∧ t.e 3 = .own 1 ∧ t.nt = 2 ∧ t.nb = 0 ∧ t.R 1 = some ⟨3, fill Knw.v (.agg [.str ⟨#[]⟩, .str ⟨#[]⟩, .int .i64 0]) xs i, true⟩) ?_ ?_ ?_
  · simp [fill_zero]
  · rintro c' L hL i t x hx hi ih ⟨h0, h4, h3, hnt, hnb, hR⟩
    have hw := wrI (i := i) (by omega)
    have hn : ¬ 1 = t.nt := by omega
    simp [-getElem?_pos, gcz, gcs, h0, h4, h3, hnt, hnb, hR, hL, hx, hi, fill_get hi, hn, c101_eq]
    refine ih _ ?_
    simp [-getElem?_pos, gcz, gcs, h0, h4, h3, hnt, hnb, hR, hL, hx, hi, hw, hn]
    exact fill_set hx rfl
  · rintro c' t ⟨h0, h4, h3, hnt, hnb, hR⟩
    simp [h0, h4, h3, hnb, hR, fill_all]
noncomputable def c42 := ctr (fun xs : List Knw => szL Knw.sz xs ≤ 1048576) (fun xs => [.lst (xs.map Knw.v)]) (fun xs => (false, .inl 3 (xs.map Knw.v)))
theorem c42_eq (xs : List Knw) (h : szL Knw.sz xs ≤ 1048576) : c42 [.lst (xs.map Knw.v)] = some (false, .inl 3 (xs.map Knw.v)) := ctr_eq (injl Knw.v_inj _) xs h rfl
theorem c42_ok : COK Tryz.prog (42, c42) := ctr_ok fun n h => f42_ok n h
end Go.TM.Tryz
end
section
set_option maxHeartbeats 16000000
set_option maxRecDepth 20000
namespace Go.TM.Tryz
open Go Go.TM Go.Proofs
theorem f201_ok (l : List Use) (hl : l.length ≤ 1048576) : FunOK Tryz.prog 201 [.lst (l.map Use.v)] false (.inl 2 (l.map Use.v)) := by
  refine fun_ok (mkE_ok zmix (cl := []) (gl := []) [] trivial trivial) Tryz.func201 (by kernel_rfl) ?_
  refine FunW_run _ _ rfl rfl ?_
  have h1 : l.length * 32 ≤ 140737488355328 := by omega
  have h2 : l.length ≤ 4294967296 := by omega
  have e := noLs_use l
  cases l with
  | nil => simp [room]
  | cons x xs => simp at h1 h2 e; simp [room, h1, h2, e]
noncomputable def c201 := ctr (fun l : List Use => l.length ≤ 1048576) (fun l => [.lst (l.map Use.v)]) (fun l => (false, .inl 2 (l.map Use.v)))
theorem c201_eq (l : List Use) (h : l.length ≤ 1048576) : c201 [.lst (l.map Use.v)] = some (false, .inl 2 (l.map Use.v)) := ctr_eq (injl Use.v_inj _) l h rfl
theorem c201_ok : COK Tryz.prog (201, c201) := ctr_ok fun l h => f201_ok l h
theorem f157_ok (l : List Knw) (hl : l.length ≤ 1048576) : FunOK Tryz.prog 157 [.lst (l.map Knw.v)] false (.inl 3 (l.map Knw.v)) := by
  refine fun_ok (mkE_ok zmix (cl := []) (gl := []) [] trivial trivial) Tryz.func157 (by kernel_rfl) ?_
  refine FunW_run _ _ rfl rfl ?_
  have h1 : l.length * 40 ≤ 140737488355328 := by omega
  have h2 : l.length ≤ 4294967296 := by omega
  have e := noLs_knw l
  cases l with
  | nil => simp [room]
  | cons x xs => simp at h1 h2 e; simp [room, h1, h2, e]
noncomputable def c157 := ctr (fun l : List Knw => l.length ≤ 1048576) (fun l => [.lst (l.map Knw.v)]) (fun l => (false, .inl 3 (l.map Knw.v)))
theorem c157_eq (l : List Knw) (h : l.length ≤ 1048576) : c157 [.lst (l.map Knw.v)] = some (false, .inl 3 (l.map Knw.v)) := ctr_eq (injl Knw.v_inj _) l h rfl
theorem c157_ok : COK Tryz.prog (157, c157) := ctr_ok fun l h => f157_ok l h
theorem vwE_ty : (vwE ∘ Ty.v) = Ty.v := funext fun _ => rfl
theorem vwE_obj : (vwE ∘ Obj.v) = Obj.v := funext fun _ => rfl
theorem f202_ok (l : List Ty) (hl : l.length ≤ 1048576) : FunOK Tryz.prog 202 [.lst (l.map Ty.v)] true (.inl 6 (l.map Ty.v)) := by
  refine fun_ok (mkE_ok zmix (cl := []) (gl := []) [] trivial trivial) Tryz.func202 (by kernel_rfl) ?_
  refine FunW_run _ _ rfl rfl ?_
  have h1 : l.length * 80 ≤ 140737488355328 := by omega
  have h2 : l.length ≤ 4294967296 := by omega
  cases l with
  | nil => simp [room]
  | cons x xs => simp at h1 h2; simp [room, h1, h2, vwE_ty]
noncomputable def c202 := ctr (fun l : List Ty => l.length ≤ 1048576) (fun l => [.lst (l.map Ty.v)]) (fun l => (true, .inl 6 (l.map Ty.v)))
theorem c202_eq (l : List Ty) (h : l.length ≤ 1048576) : c202 [.lst (l.map Ty.v)] = some (true, .inl 6 (l.map Ty.v)) := ctr_eq (injl Ty.v_inj _) l h rfl
theorem c202_ok : COK Tryz.prog (202, c202) := ctr_ok fun l h => f202_ok l h
theorem f203_ok (l : List Obj) (hl : l.length ≤ 1048576) : FunOK Tryz.prog 203 [.lst (l.map Obj.v)] true (.inl 6 (l.map Obj.v)) := by
  refine fun_ok (mkE_ok zmix (cl := []) (gl := []) [] trivial trivial) Tryz.func203 (by kernel_rfl) ?_
  refine FunW_run _ _ rfl rfl ?_
  have h1 : l.length * 72 ≤ 140737488355328 := by omega
  have h2 : l.length ≤ 4294967296 := by omega
  cases l with
  | nil => simp [room]
  | cons x xs => simp at h1 h2; simp [room, h1, h2, vwE_obj]
noncomputable def c203 := ctr (fun l : List Obj => l.length ≤ 1048576) (fun l => [.lst (l.map Obj.v)]) (fun l => (true, .inl 6 (l.map Obj.v)))
theorem c203_eq (l : List Obj) (h : l.length ≤ 1048576) : c203 [.lst (l.map Obj.v)] = some (true, .inl 6 (l.map Obj.v)) := ctr_eq (injl Obj.v_inj _) l h rfl
theorem c203_ok : COK Tryz.prog (203, c203) := ctr_ok fun l h => f203_ok l h
def half {α : Type} (f g : α → V) (xs : List α) (i : Nat) : List V := (xs.take i).map g ++ (xs.drop i).map f
section
variable {α : Type} {f g : α → V} {xs : List α} {i : Nat}
@[simp] theorem half_length : (half f g xs i).length = xs.length := by simp [half]; omega
theorem half_zero : half f g xs 0 = xs.map f := by simp [half]
theorem half_all : half f g xs xs.length = xs.map g := by simp [half]
theorem half_get {x : α} (h : xs[i]? = some x) : (half f g xs i)[i]? = some (f x) := by
  have hi : i < xs.length := by
    rw [List.getElem?_eq_some_iff] at h
    exact h.1
  unfold half
  rw [List.getElem?_append_right (by simp; omega)]
  have e : i - ((xs.take i).map g).length = 0 := by simp; omega
  rw [e, List.getElem?_map, List.getElem?_drop, Nat.add_zero, h]
  rfl
theorem half_set {x : α} (h : xs[i]? = some x) {y : V} (hy : g x = y) : (half f g xs i).set i y = half f g xs (i + 1) := by
  have hi : i < xs.length := by
    rw [List.getElem?_eq_some_iff] at h
    exact h.1
  unfold half
  have e : i - ((xs.take i).map g).length = 0 := by simp; omega
  have e2 : xs.drop i = x :: xs.drop (i + 1) := by
    rw [List.getElem?_eq_some_iff] at h
    rw [← h.2]
    exact List.drop_eq_getElem_cons hi
  rw [List.set_append_right _ _ (by simp; omega), e, e2, List.map_cons, List.set_cons_zero, List.take_add_one, h]
  simp [hy]
end
def tree156 : TT := .two false 0 (.two false 1 (.two false 2 (.one false 3 (.one false 4 (.two false 5 (.one false 6 (.one false 7 (.one false 8 (.one false 9 .done)))) false 6 (.one false 5 (.one false 7 (.one false 8 (.one false 9 .done))))))) false 3 (.two false 2 (.one false 4 (.two false 5 (.one false 6 (.one false 7 (.one false 8 (.one false 9 .done)))) false 6 (.one false 5 (.one false 7 (.one false 8 (.one false 9 .done)))))) false 4 (.one false 2 (.two false 5 (.one false 6 (.one false 7 (.one false 8 (.one false 9 .done)))) false 6 (.one false 5 (.one false 7 (.one false 8 (.one false 9 .done)))))))) false 3 (.two false 1 (.two false 2 (.one false 4 (.two false 5 (.one false 6 (.one false 7 (.one false 8 (.one false 9 .done)))) false 6 (.one false 5 (.one false 7 (.one false 8 (.one false 9 .done)))))) false 4 (.one false 2 (.two false 5 (.one false 6 (.one false 7 (.one false 8 (.one false 9 .done)))) false 6 (.one false 5 (.one false 7 (.one false 8 (.one false 9 .done))))))) false 4 (.one false 1 (.one false 2 (.two false 5 (.one false 6 (.one false 7 (.one false 8 (.one false 9 .done)))) false 6 (.one false 5 (.one false 7 (.one false 8 (.one false 9 .done))))))))) false 3 (.two false 0 (.two false 1 (.two false 2 (.one false 4 (.two false 5 (.one false 6 (.one false 7 (.one false 8 (.one false 9 .done)))) false 6 (.one false 5 (.one false 7 (.one false 8 (.one false 9 .done)))))) false 4 (.one false 2 (.two false 5 (.one false 6 (.one false 7 (.one false 8 (.one false 9 .done)))) false 6 (.one false 5 (.one false 7 (.one false 8 (.one false 9 .done))))))) false 4 (.one false 1 (.one false 2 (.two false 5 (.one false 6 (.one false 7 (.one false 8 (.one false 9 .done)))) false 6 (.one false 5 (.one false 7 (.one false 8 (.one false 9 .done)))))))) false 4 (.one false 0 (.one false 1 (.one false 2 (.two false 5 (.one false 6 (.one false 7 (.one false 8 (.one false 9 .done)))) false 6 (.one false 5 (.one false 7 (.one false 8 (.one false 9 .done)))))))))
def cut156 : Pl := ⟨[], [], [], [0, 1, 2, 3, 4, 5, 6, 7, 8, 9], tree156⟩
theorem cut156_run {E : Env} (pl : Option (List (Nat × Bool))) (ops : Array Oper) (k : List Fr) (Q : X → S → Prop) (s : S) : aftE (some cut156) pl ops k E Q s = preK E ops k Q tree156 [] s := rfl
def tree156b : TT := .two false 0 (.two false 1 (.one false 3 (.one false 4 (.one false 5 (.one false 6 (.one false 7 (.one false 8 .done)))))) false 3 (.two false 1 (.one false 4 (.one false 5 (.one false 6 (.one false 7 (.one false 8 .done))))) false 4 (.two false 1 (.one false 5 (.one false 6 (.one false 7 (.one false 8 .done)))) false 5 (.one false 1 (.one false 6 (.one false 7 (.one false 8 .done))))))) false 3 (.two false 0 (.two false 1 (.one false 4 (.one false 5 (.one false 6 (.one false 7 (.one false 8 .done))))) false 4 (.two false 1 (.one false 5 (.one false 6 (.one false 7 (.one false 8 .done)))) false 5 (.one false 1 (.one false 6 (.one false 7 (.one false 8 .done)))))) false 4 (.two false 0 (.two false 1 (.one false 5 (.one false 6 (.one false 7 (.one false 8 .done)))) false 5 (.one false 1 (.one false 6 (.one false 7 (.one false 8 .done))))) false 5 (.one false 0 (.one false 1 (.one false 6 (.one false 7 (.one false 8 .done)))))))
def cut156b : Pl := ⟨[2], [], [], [0, 1, 3, 4, 5, 6, 7, 8], tree156b⟩
theorem cut156b_run {E : Env} (pl : Option (List (Nat × Bool))) (ops : Array Oper) (k : List Fr) (Q : X → S → Prop) (s : S) : aftE (some cut156b) pl ops k E Q s = preK E ops k Q tree156b [(2, false)] s := rfl
structure Cp (s : Scp) (t : S) (nb : Nat) (ty ob : List V) (i1 t1 o1 u1 : Nat) : Prop where
  e1 : t.e 1 = .ptr 0 0
  e2 : t.e 2 = .ptr 1 0
  nb : nb ≤ t.nb
  B1 : t.B 1 = some (.agg [.str ⟨#[]⟩, .own 0, .own 1, .own 2, .own 3])
  B0 : t.B 0 = some (.agg [.str s.name, .own i1, .own t1, .own o1, .own u1])
  R1 : t.R i1 = some ⟨1, s.imports.map V.str, true⟩
  R2 : t.R t1 = some ⟨6, ty, true⟩
  R3 : t.R o1 = some ⟨6, ob, true⟩
  R4 : t.R u1 = some ⟨2, s.uses.map Use.v, true⟩
  l1 : i1 < t.nt
  l2 : t1 < t.nt
  l3 : o1 < t.nt
  l4 : u1 < t.nt
  d1 : i1 ≠ t1
  d2 : i1 ≠ o1
  d3 : i1 ≠ u1
  d4 : t1 ≠ o1
  d5 : t1 ≠ u1
  d6 : o1 ≠ u1
def Cp1 (s : Scp) (t : S) : Prop :=
  t.e 1 = .ptr 0 0 ∧ t.e 2 = .ptr 1 0 ∧ t.nb = 2 ∧ t.B 1 = some (.agg [.str ⟨#[]⟩, .own 0, .own 1, .own 2, .own 3]) ∧
  ∃ i u, t.B 0 = some (.agg [.str s.name, .own i, .lst (s.types.map Ty.v), .lst (s.objects.map Obj.v), .own u]) ∧ t.R i = some ⟨1, s.imports.map V.str, true⟩ ∧ t.R u = some ⟨2, s.uses.map Use.v, true⟩ ∧ i < t.nt ∧ u < t.nt ∧ i ≠ u
def Cp2 (s : Scp) (t : S) : Prop := ∃ i1 t1 o1 u1, t.e 1 = .ptr 0 0 ∧ t.e 2 = .ptr 1 0 ∧ t.nb = 2 ∧ t.B 1 = some (.agg [.str ⟨#[]⟩, .own 0, .own 1, .own 2, .own 3]) ∧ t.B 0 = some (.agg [.str s.name, .own i1, .own t1, .own o1, .own u1]) ∧
  t.R i1 = some ⟨1, s.imports.map V.str, true⟩ ∧ t.R t1 = some ⟨6, s.types.map Ty.v, true⟩ ∧ t.R o1 = some ⟨6, s.objects.map Obj.v, true⟩ ∧ t.R u1 = some ⟨2, s.uses.map Use.v, true⟩ ∧
  i1 < t.nt ∧ t1 < t.nt ∧ o1 < t.nt ∧ u1 < t.nt ∧ i1 ≠ t1 ∧ i1 ≠ o1 ∧ i1 ≠ u1 ∧ t1 ≠ o1 ∧ t1 ≠ u1 ∧ o1 ≠ u1
theorem f156_ok (s : Scp) (h : ScLen s) : FunOK Tryz.prog 156 [s.v] false s.o := by
  refine fun_ok (mkE2_ok zmix (cl := [(127, c127), (201, c201), (202, c202), (203, c203), (184, c184), (133, c133)]) (gl := []) [] [(1, cut156), (2, cut156), (6, cut156b), (11, cut156b)] ⟨c127_ok, c201_ok, c202_ok, c203_ok, c184_ok, c133_ok⟩ trivial) Tryz.func156 (by kernel_rfl) ?_
  refine FunW_run _ _ rfl rfl ?_
  have e127 := c127_eq s.imports h.im
  have e201 := c201_eq s.uses h.us
  have e202 := c202_eq s.types h.ty.len
  have e203 := c203_eq s.objects h.ob
  simp [-aftE_some]
  refine aftE_post (Cp1 s) ?_ ?_
  · simp [-aftE_some, cut156_run, tree156, pureOp, e127, e201, Cp1]
    exact ⟨_, _, ⟨rfl, rfl⟩, by simp⟩
  rintro t ⟨g1, g2, gn, B1, i1, u1, B0, R1, R4, l1, l4, d3⟩
  have n1 : ¬ i1 = t.nt := by omega
  have n2 : ¬ i1 = t.nt + 1 := by omega
  have n3 : ¬ u1 = t.nt := by omega
  have n4 : ¬ u1 = t.nt + 1 := by omega
  simp [-aftE_some]
  refine aftE_post (Cp2 s) ?_ ?_
  · simp [-aftE_some, cut156_run, tree156, pureOp, e202, e203, Cp2, g1, g2, gn, B0, B1]
    exact ⟨_, _, _, _, ⟨rfl, rfl, rfl, rfl⟩, by
      simp [n1, n2, n3, n4, R1, R4, d3]
      omega⟩
  clear g1 g2 gn B0 B1 R1 R4 l1 l4 d3 n1 n2 n3 n4
  clear i1 u1 t
  rintro t ⟨i1, t1, o1, u1, g1, g2, gn, B1, B0, R1, R2, R3, R4, l1, l2, l3, l4, d1, d2, d3, d4, d5, d6⟩
  have hty := h.ty.len
  have hob := h.ob
  have d1' : ¬ t1 = i1 := fun e => d1 e.symm
  have d5' : ¬ u1 = t1 := fun e => d5 e.symm
  have d4' : ¬ o1 = t1 := fun e => d4 e.symm
  have d2' : ¬ o1 = i1 := fun e => d2 e.symm
  have d6' : ¬ u1 = o1 := fun e => d6 e.symm
  simp [g1, B0, R2]
  refine lp_list s.types (fun i t => t.e 24 = .own t1 ∧ t.e 25 = .int .i64 s.types.length ∧ t.e 26 = .int .i64 i ∧ t.e 1 = .ptr 0 0 ∧ t.e 2 = .ptr 1 0 ∧ 1 < t.nb ∧ t.B 1 = some (.agg [.str ⟨#[]⟩, .own 0, .own 1, .own 2, .own 3]) ∧
    t.B 0 = some (.agg [.str s.name, .own i1, .own t1, .own o1, .own u1]) ∧ t.R i1 = some ⟨1, s.imports.map V.str, true⟩ ∧ t.R t1 = some ⟨6, half Ty.v Ty.o s.types i, true⟩ ∧ t.R o1 = some ⟨6, s.objects.map Obj.v, true⟩ ∧ t.R u1 = some ⟨2, s.uses.map Use.v, true⟩ ∧
    i1 < t.nt ∧ t1 < t.nt ∧ o1 < t.nt ∧ u1 < t.nt) ?_ ?_ ?_
  · simp [g1, g2, gn, B1, B0, R1, R2, R3, R4, half_zero, l1, l2, l3, l4]
  · clear g1 g2 gn B1 B0 R1 R2 R3 R4 l1 l2 l3 l4
    clear t
    rintro c' L hL i t x hx hi ih ⟨k24, k25, k26, g1, g2, gn, B1, B0, R1, R2, R3, R4, l1, l2, l3, l4⟩
    have hw := wrI (i := i) (by omega)
    have e184 := c184_eq x.fields (h.ty.fs x (List.mem_of_getElem? hx))
    have hg := half_get (f := Ty.v) (g := Ty.o) hx
    have n0 : ¬ 0 = t.nb := by omega
    have n0' : ¬ t.nb = 0 := by omega
    have n1 : ¬ 1 = t.nb := by omega
    have a1 : ¬ i1 = t.nt := by omega
    have a2 : ¬ i1 = t.nt + 1 := by omega
    have b1 : ¬ t1 = t.nt := by omega
    have b2 : ¬ t1 = t.nt + 1 := by omega
    have b1' : ¬ t.nt = t1 := by omega
    have b2' : ¬ t.nt + 1 = t1 := by omega
    have c1 : ¬ o1 = t.nt := by omega
    have c2 : ¬ o1 = t.nt + 1 := by omega
    have f1 : ¬ u1 = t.nt := by omega
    have f2 : ¬ u1 = t.nt + 1 := by omega
    simp [-getElem?_pos, gcz, gcs, k24, k25, k26, g1, B0, R2, hL, hi, hg, e184, n0, n0', n1, a1, a2, b1, b2, b1', b2', -aftE_some, cut156b_run, tree156b, pureOp]
    repeat' apply And.intro
    all_goals
      refine ih _ ?_
      simp [-getElem?_pos, gcz, gcs, k24, k25, k26, g1, g2, B1, B0, R1, R2, R3, R4, hw, hg, n0, n1, a1, a2, b1, b2, b1', b2', c1, c2, f1, f2, d1, d1', d4', d5', hi]
      exact ⟨by omega, half_set hx rfl, by omega, by omega, by omega, by omega⟩
  · clear g1 g2 gn B1 B0 R1 R2 R3 R4 l1 l2 l3 l4
    clear t
    rintro c' t ⟨k24, k25, k26, g1, g2, gn, B1, B0, R1, R2, R3, R4, l1, l2, l3, l4⟩
    rw [half_all] at R2
    simp [k24, k25, k26, g1, B0, R3]
    refine lp_list s.objects (fun i t => t.e 41 = .own o1 ∧ t.e 42 = .int .i64 s.objects.length ∧ t.e 43 = .int .i64 i ∧ t.e 1 = .ptr 0 0 ∧ t.e 2 = .ptr 1 0 ∧ 1 < t.nb ∧ t.B 1 = some (.agg [.str ⟨#[]⟩, .own 0, .own 1, .own 2, .own 3]) ∧
      t.B 0 = some (.agg [.str s.name, .own i1, .own t1, .own o1, .own u1]) ∧ t.R i1 = some ⟨1, s.imports.map V.str, true⟩ ∧ t.R t1 = some ⟨6, s.types.map Ty.o, true⟩ ∧ t.R o1 = some ⟨6, half Obj.v Obj.o s.objects i, true⟩ ∧ t.R u1 = some ⟨2, s.uses.map Use.v, true⟩ ∧
      i1 < t.nt ∧ t1 < t.nt ∧ o1 < t.nt ∧ u1 < t.nt) ?_ ?_ ?_
    · simp [g1, g2, gn, B1, B0, R1, R2, R3, R4, half_zero, l1, l2, l3, l4]
    · clear k24 k25 k26 g1 g2 gn B1 B0 R1 R2 R3 R4 l1 l2 l3 l4
      clear t
      clear c'
      rintro c' L hL i t x hx hi ih ⟨k24, k25, k26, g1, g2, gn, B1, B0, R1, R2, R3, R4, l1, l2, l3, l4⟩
      have hw := wrI (i := i) (by omega)
      have e133 := c133_eq x.params (h.pa x (List.mem_of_getElem? hx))
      have hg := half_get (f := Obj.v) (g := Obj.o) hx
      have n0 : ¬ 0 = t.nb := by omega
      have n0' : ¬ t.nb = 0 := by omega
      have n1 : ¬ 1 = t.nb := by omega
      have a1 : ¬ i1 = t.nt := by omega
      have a2 : ¬ i1 = t.nt + 1 := by omega
      have b1 : ¬ t1 = t.nt := by omega
      have b2 : ¬ t1 = t.nt + 1 := by omega
      have c1 : ¬ o1 = t.nt := by omega
      have c2 : ¬ o1 = t.nt + 1 := by omega
      have c1' : ¬ t.nt = o1 := by omega
      have c2' : ¬ t.nt + 1 = o1 := by omega
      have f1 : ¬ u1 = t.nt := by omega
      have f2 : ¬ u1 = t.nt + 1 := by omega
      simp [-getElem?_pos, gcz, gcs, k24, k25, k26, g1, B0, R3, hL, hi, hg, e133, n0, n0', n1, a1, a2, c1, c2, c1', c2', -aftE_some, cut156b_run, tree156b, pureOp]
      repeat' apply And.intro
      all_goals
        refine ih _ ?_
        simp [-getElem?_pos, gcz, gcs, k24, k25, k26, g1, g2, B1, B0, R1, R2, R3, R4, hw, hg, n0, n1, a1, a2, b1, b2, c1, c2, c1', c2', f1, f2, d2, d2', d4, d6', hi]
        exact ⟨by omega, half_set hx rfl, by omega, by omega, by omega, by omega⟩
    · clear k24 k25 k26 g1 g2 gn B1 B0 R1 R2 R3 R4 l1 l2 l3 l4
      clear t
      clear c'
      rintro c' t ⟨k24, k25, k26, g1, g2, gn, B1, B0, R1, R2, R3, R4, l1, l2, l3, l4⟩
      rw [half_all] at R3
      simp [k24, k25, k26, g1, g2, B1, B0, R1, R2, R3, R4]
      exact ⟨⟨d1, d2, d3⟩, ⟨d4, d5⟩, d6⟩
end Go.TM.Tryz
end
section
set_option maxHeartbeats 8000000
set_option maxRecDepth 20000
namespace Go.TM.Tryz
open Go Go.TM Go.Proofs
noncomputable def c156 := ctr (fun s : Scp => ScLen s) (fun s => [s.v]) (fun s => (false, s.o))
theorem c156_eq (s : Scp) (h : ScLen s) : c156 [s.v] = some (false, s.o) := ctr_eq (inj0 Scp.v_inj _) s h rfl
theorem c156_ok : COK Tryz.prog (156, c156) := ctr_ok fun s h => f156_ok s h
def tree86 : TT := .two false 1 (.two false 2 (.two false 3 (.one false 4 (.one false 5 (.one false 6 (.one false 7 (.one false 8 (.one false 9 (.one false 10 .done))))))) false 4 (.two false 3 (.one false 5 (.one false 6 (.one false 7 (.one false 8 (.one false 9 (.one false 10 .done)))))) false 5 (.one false 3 (.one false 6 (.one false 7 (.one false 8 (.one false 9 (.one false 10 .done)))))))) false 4 (.two false 2 (.two false 3 (.one false 5 (.one false 6 (.one false 7 (.one false 8 (.one false 9 (.one false 10 .done)))))) false 5 (.one false 3 (.one false 6 (.one false 7 (.one false 8 (.one false 9 (.one false 10 .done))))))) false 5 (.one false 2 (.one false 3 (.one false 6 (.one false 7 (.one false 8 (.one false 9 (.one false 10 .done))))))))) false 4 (.two false 1 (.two false 2 (.two false 3 (.one false 5 (.one false 6 (.one false 7 (.one false 8 (.one false 9 (.one false 10 .done)))))) false 5 (.one false 3 (.one false 6 (.one false 7 (.one false 8 (.one false 9 (.one false 10 .done))))))) false 5 (.one false 2 (.one false 3 (.one false 6 (.one false 7 (.one false 8 (.one false 9 (.one false 10 .done)))))))) false 5 (.one false 1 (.one false 2 (.one false 3 (.one false 6 (.one false 7 (.one false 8 (.one false 9 (.one false 10 .done)))))))))
def cut86 : Pl := ⟨[0], [], [], [1, 2, 3, 4, 5, 6, 7, 8, 9, 10], tree86⟩
theorem cut86_run {E : Env} (pl : Option (List (Nat × Bool))) (ops : Array Oper) (k : List Fr) (Q : X → S → Prop) (s : S) : aftE (some cut86) pl ops k E Q s = preK E ops k Q tree86 [(0, false)] s := rfl
theorem f86_ok (xs : List Mdl) (h : MdsLen xs) : FunOK Tryz.prog 86 [.lst (xs.map Mdl.v)] false (.inl 6 (xs.map Mdl.o)) := by
  refine fun_ok (mkE2_ok zmix (cl := [(156, c156), (157, c157)]) (gl := []) [] [(5, cut86)] ⟨c156_ok, c157_ok⟩ trivial) Tryz.func86 (by kernel_rfl) ?_
  refine FunW_run _ _ rfl rfl ?_
  have hlen := h.len
  simp
  refine lp_list xs (fun i t => t.e 7 = .lst (xs.map Mdl.v) ∧ t.e 8 = .int .i64 xs.length ∧ t.e 9 = .int .i64 i ∧ ∃ p, t.e 3 = .own p ∧ p < t.nt ∧ t.R p = some ⟨6, (xs.take i).map Mdl.o, true⟩) ?_ ?_ ?_
  · simp
  · rintro c' L hL i t x hx hi ih ⟨h7, h8, h9, p, h3, hp, hR⟩
    have hw := wrI (i := i) (by omega)
    have hxm := List.mem_of_getElem? hx
    have e156 := c156_eq x.scope (h.sc x hxm)
    have e157 := c157_eq x.seen (h.sn x hxm)
    simp only [Scp.v, Scp.o] at e156
    have hmin : min i xs.length = i := by omega
    have hr := roomMd (n := i + 1) (by omega)
    have n1 : ¬ p = t.nt := by omega
    have n2 : ¬ p = t.nt + 1 := by omega
    have n3 : ¬ p = t.nt + 1 + 1 := by omega
    have n4 : ¬ p = t.nt + 1 + 1 + 1 := by omega
    have n5 : ¬ p = t.nt + 1 + 1 + 1 + 1 := by omega
    have n6 : ¬ p = t.nt + 1 + 1 + 1 + 1 + 1 := by omega
    have n7 : ¬ p = t.nt + 1 + 1 + 1 + 1 + 1 + 1 := by omega
    have n8 : ¬ p = t.nt + 1 + 1 + 1 + 1 + 1 + 1 + 1 := by omega
    have n9 : ¬ p = t.nt + 1 + 1 + 1 + 1 + 1 + 1 + 1 + 1 := by omega
    have n10 : ¬ p = t.nt + 1 + 1 + 1 + 1 + 1 + 1 + 1 + 1 + 1 := by omega
    have n11 : ¬ p = t.nt + 1 + 1 + 1 + 1 + 1 + 1 + 1 + 1 + 1 + 1 := by omega
    have n12 : ¬ p = t.nt + 1 + 1 + 1 + 1 + 1 + 1 + 1 + 1 + 1 + 1 + 1 := by omega
    have n13 : ¬ p = t.nt + 1 + 1 + 1 + 1 + 1 + 1 + 1 + 1 + 1 + 1 + 1 + 1 := by omega
    have n14 : ¬ p = t.nt + 1 + 1 + 1 + 1 + 1 + 1 + 1 + 1 + 1 + 1 + 1 + 1 + 1 := by omega
    have n15 : ¬ p = t.nt + 1 + 1 + 1 + 1 + 1 + 1 + 1 + 1 + 1 + 1 + 1 + 1 + 1 + 1 := by omega
    simp [-getElem?_pos, gcz, gcs, h7, h8, h9, h3, hR, hL, hi, hx, e156, e157, n1, n2, n3, n4, n5, n6, n7, n8, n9, n10, n11, n12, n13, n14, n15, hr, hmin, -aftE_some, cut86_run, tree86, pureOp]
    repeat' apply And.intro
    all_goals
      refine ih _ ?_
      simp [h7, h8, h9, h3, hR, hw, n1, n2, n3, n4, n5, n6, n7, n8, n9, n10, n11, n12, n13, n14, n15, List.take_add_one, hx]
  · rintro c' t ⟨h7, h8, h9, p, h3, hp, hR⟩
    rw [List.take_length] at hR
    simp [h7, h8, h9, h3, hR]
noncomputable def c86 := ctr (fun xs : List Mdl => MdsLen xs) (fun xs => [.lst (xs.map Mdl.v)]) (fun xs => (false, .inl 6 (xs.map Mdl.o)))
theorem c86_eq (xs : List Mdl) (h : MdsLen xs) : c86 [.lst (xs.map Mdl.v)] = some (false, .inl 6 (xs.map Mdl.o)) := ctr_eq (injl Mdl.v_inj _) xs h rfl
theorem c86_ok : COK Tryz.prog (86, c86) := ctr_ok fun xs h => f86_ok xs h
@[simp] theorem cut_rm (xs : List RM) : (xs = [] ∨ (leaves ((Option.map RM.v xs[0]?).getD .bad)).length = 6) = True := cut_ok (f := RM.v) (n := 6) (fun _ => rfl) xs
@[simp] theorem norms_rm (xs : List RM) : norms (xs.map RM.v) = xs.map RM.v := by rw [norms_map]; simp
@[simp] theorem noLs_rms (xs : List RM) : noLs (xs.map RM.s) = true := noLs_map _ (by simp) _
end Go.TM.Tryz
end
section
namespace Go.TM
open Go
theorem cnt_mk {α : Type} {mk : Int → α → α} {c : α → Nat} (h : ∀ k x, c (mk k x) = c x) : ∀ (k : Int) (xs : List α), cnt c (mkL mk c k xs) = cnt c xs
  | k, [] => rfl
  | k, x :: xs => by
    have ih := cnt_mk h (k + c x) xs
    simp only [cnt] at ih ⊢
    simp only [mkL, List.map_cons, List.sum_cons, ih, h]
theorem cStr_mk (k : Int) (x : ByteArray) : cStr (mkStr k x) = cStr x := rfl
theorem cFld_mk (k : Int) (x : Fld) : cFld (mkFld k x) = cFld x := rfl
theorem cPar_mk (k : Int) (x : Par) : cPar (mkPar k x) = cPar x := rfl
theorem cUse_mk (k : Int) (x : Use) : cUse (mkUse k x) = cUse x := rfl
theorem cTy_mk (k : Int) (x : Ty) : cTy (mkTy k x) = cTy x := by
  simp only [cTy, mkTy, cnt_mk cFld_mk]
theorem cObj_mk (k : Int) (x : Obj) : cObj (mkObj k x) = cObj x := by
  simp only [cObj, mkObj, cnt_mk cPar_mk]
noncomputable def ctrH {α : Type} (mk : Int → α → α) (c : α → Nat) (f : α → V) (p : List α → Int → Prop) : List V → Option (Bool × V) :=
  ctr (fun a : List α × Int => ∃ xs, a.1 = mkL mk c a.2 xs ∧ p xs a.2) (fun a => [.lst (a.1.map f), .int .i64 a.2]) (fun a => (false, .int .i64 (a.2 + (cnt c a.1 : Nat))))
theorem ctrH_eq {α : Type} {mk : Int → α → α} {c : α → Nat} {f : α → V} {p : List α → Int → Prop} (hc : ∀ k x, c (mk k x) = c x) (hf : Function.Injective f) (xs : List α) (k : Int) (h : p xs k) :
    ctrH mk c f p [.lst ((mkL mk c k xs).map f), .int .i64 k] = some (false, .int .i64 (k + (cnt c xs : Nat))) := by
  have h1 := ctr_eq (p := fun a : List α × Int => ∃ xs, a.1 = mkL mk c a.2 xs ∧ p xs a.2) (enc := fun a => [.lst (a.1.map f), .int .i64 a.2]) (out := fun a => (false, .int .i64 (a.2 + (cnt c a.1 : Nat)))) (injl1 hf _) (mkL mk c k xs, k) ⟨xs, rfl, h⟩ rfl
  simp only [cnt_mk hc] at h1
  exact h1
theorem ctrH_ok {α : Type} {mk : Int → α → α} {c : α → Nat} {f : α → V} {p : List α → Int → Prop} {P : Program} {n : Nat} (hc : ∀ k x, c (mk k x) = c x) (hf : ∀ xs k, p xs k → FunOK P n [.lst ((mkL mk c k xs).map f), .int .i64 k] false (.int .i64 (k + (cnt c xs : Nat)))) :
    COK P (n, ctrH mk c f p) := ctr_ok fun a h => by
  obtain ⟨zs, k⟩ := a
  obtain ⟨xs, e, h⟩ := h
  simp only at e h
  subst e
  simp only [cnt_mk hc]
  exact hf xs k h
end Go.TM
end
section
set_option maxHeartbeats 8000000
set_option maxRecDepth 20000
namespace Go.TM.Tryz
open Go Go.TM Go.Proofs
theorem nsk1 (n : Nat) : (1 = n + 1 + 1) = (n + 1 = 0) := by simp
theorem nsk2 (n : Nat) : (1 = n + 1 + 1 + 1) = (n + 1 + 1 = 0) := by simp
theorem nsk3 (n : Nat) : (n = n + 1 + 1) = False := eq_false (by omega)
theorem nsk4 (n : Nat) : (n = n + 1 + 1 + 1) = False := eq_false (by omega)
theorem nsk5 (n : Nat) : (n + 1 + 1 = n) = False := eq_false (by omega)
theorem nsk6 (n : Nat) : (n + 1 + 1 + 1 = n) = False := eq_false (by omega)
def mkScs (k : Int) (x : Scp) : Scp :=
  ⟨mtext k, mkL mkStr cStr (k + 1) x.imports, mkL mkTy cTy (k + 1 + (cnt cStr x.imports : Nat)) x.types, mkL mkObj cObj (k + 1 + (cnt cStr x.imports : Nat) + (cnt cTy x.types : Nat)) x.objects,
    mkL mkUse cUse (k + 1 + (cnt cStr x.imports : Nat) + (cnt cTy x.types : Nat) + (cnt cObj x.objects : Nat)) x.uses⟩
def cScs (x : Scp) : Nat := 1 + cnt cStr x.imports + cnt cTy x.types + cnt cObj x.objects + cnt cUse x.uses
def ScpLen (x : Scp) : Prop := x.imports.length ≤ 4611686018427387904 ∧ (x.types.length ≤ 4611686018427387904 ∧ ∀ y ∈ x.types, y.fields.length ≤ 4611686018427387904) ∧ (x.objects.length ≤ 4611686018427387904 ∧ ∀ y ∈ x.objects, y.params.length ≤ 4611686018427387904) ∧ x.uses.length ≤ 4611686018427387904
theorem Scp.o_inj : Function.Injective Scp.o := by
  rintro ⟨⟩ ⟨⟩ h
  simp only [Scp.o, V.agg.injEq, List.cons.injEq, V.inl.injEq, V.str.injEq, true_and, and_true] at h
  rw [Scp.mk.injEq]
  exact ⟨h.1, map_inj str_inj h.2.1, map_inj Ty.o_inj h.2.2.1, map_inj Obj.o_inj h.2.2.2.1, map_inj Use.v_inj h.2.2.2.2⟩
end Go.TM.Tryz
end
section
set_option maxHeartbeats 8000000
set_option maxRecDepth 20000
namespace Go.TM.Tryz
open Go Go.TM Go.Proofs
theorem nsk7 (n : Nat) : (1 = n + 1 + 1 + 1 + 1) = (n + 1 + 1 + 1 = 0) := by simp
theorem nsk8 (n : Nat) : (n = n + 1 + 1 + 1 + 1) = False := eq_false (by omega)
theorem nsk9 (n : Nat) : (n + 1 + 1 + 1 + 1 = n) = False := eq_false (by omega)
theorem nsk10 (n : Nat) : (1 = n + 1 + 1 + 1 + 1 + 1) = (n + 1 + 1 + 1 + 1 = 0) := by simp
theorem nsk11 (n : Nat) : (n = n + 1 + 1 + 1 + 1 + 1) = False := eq_false (by omega)
theorem nsk12 (n : Nat) : (n + 1 + 1 + 1 + 1 + 1 = n) = False := eq_false (by omega)
theorem f83_ok (x : Mdl) (h : x.sz ≤ 1048576) : FunOK Tryz.prog 83 [x.v] false x.o := by
  refine fun_ok (mkE_ok zmix (cl := [(14, c14), (42, c42)]) (gl := []) [] ⟨c14_ok, c42_ok⟩ trivial) Tryz.func83 (by kernel_rfl) ?_
  refine FunW_run _ _ rfl rfl ?_
  simp only [Mdl.sz] at h
  have e0 := c14_eq x.scope.name x.scope.imports x.scope.types x.scope.objects x.scope.uses (by show x.scope.sz ≤ 1048576; omega)
  have e1 := c42_eq x.seen (by omega)
  simp [e0, e1]
noncomputable def c83 := ctr (fun x : Mdl => x.sz ≤ 1048576) (fun x => [x.v]) (fun x => (false, x.o))
theorem c83_eq (x : Mdl) (h : x.sz ≤ 1048576) : c83 [x.v] = some (false, x.o) := ctr_eq (inj0 Mdl.v_inj _) x h rfl
theorem c83_ok : COK Tryz.prog (83, c83) := ctr_ok fun n h => f83_ok n h
theorem f23_ok (xs : List Mdl) (h : szL Mdl.sz xs ≤ 1048576) : FunOK Tryz.prog 23 [.lst (xs.map Mdl.v)] false (.inl 6 (xs.map Mdl.o)) := by
  refine fun_ok (mkE_ok zmix (cl := [(83, c83)]) (gl := []) [] c83_ok trivial) Tryz.func23 (by kernel_rfl) ?_
  refine FunW_run _ _ rfl rfl ?_
  have hl := szL_len Mdl.sz xs
  have hb2 : xs.length * 136 ≤ 140737488355328 := by omega
  have hb3 : xs.length ≤ 4294967296 := by omega
  simp [room, hb2, hb3]
  refine lp_list xs (fun i t => t.e 0 = .lst (xs.map Mdl.v) ∧ t.e 4 = .int .i64 i ∧ t.e 3 = .own 1 ∧ 2 ≤ t.nt ∧ t.nb = 0 ∧ t.R 1 = some ⟨6, fill Mdl.o (.agg [.str ⟨#[]⟩, .inl 1 [], .inl 6 [], .inl 6 [], .inl 2 [], .inl 3 []]) xs i, true⟩) ?_ ?_ ?_
  · simp [fill_zero]
  · rintro c' L hL i t x hx hi ih ⟨h0, h4, h3, hnt, hnb, hR⟩
    have hw := wrI (i := i) (by omega)
    have hn : ¬ 1 = t.nt := by omega
    have hn0 : ¬ t.nt = 0 := by omega
    have hc := c83_eq x (Nat.le_trans (szL_get hx) h)
    simp only [Mdl.v, Mdl.o] at hc
    simp [-getElem?_pos, gcz, gcs, h0, h4, h3, hnb, hR, hL, hx, hi, fill_get hi, hn, hn0, nsk1, nsk2, nsk3, nsk4, nsk5, nsk6, nsk7, nsk8, nsk9, nsk10, nsk11, nsk12, hc]
    refine ih _ ?_
    simp [-getElem?_pos, gcz, gcs, h0, h4, h3, hnb, hR, hL, hx, hi, hw, hn, hn0, nsk1, nsk2, nsk3, nsk4, nsk5, nsk6, nsk7, nsk8, nsk9, nsk10, nsk11, nsk12]
    first | exact ⟨by omega, fill_set hx rfl⟩ | exact fill_set hx rfl
  · rintro c' t ⟨h0, h4, h3, hnt, hnb, hR⟩
    simp [h0, h4, h3, hnb, hR, fill_all]
noncomputable def c23 := ctr (fun xs : List Mdl => szL Mdl.sz xs ≤ 1048576) (fun xs => [.lst (xs.map Mdl.v)]) (fun xs => (false, .inl 6 (xs.map Mdl.o)))
theorem c23_eq (xs : List Mdl) (h : szL Mdl.sz xs ≤ 1048576) : c23 [.lst (xs.map Mdl.v)] = some (false, .inl 6 (xs.map Mdl.o)) := ctr_eq (injl Mdl.v_inj _) xs h rfl
theorem c23_ok : COK Tryz.prog (23, c23) := ctr_ok fun n h => f23_ok n h
end Go.TM.Tryz
end
section
set_option maxHeartbeats 2000000
namespace Go.TM.Tryz
open Go Go.TM Go.Proofs
theorem f49_ok (xs : List ByteArray) (hlim : limL strLim xs) : FunOK Tryz.prog 49 [.lst (xs.map V.str), .lst (xs.map V.str)] false (.bool true) := by
  refine fun_ok (mkE_ok zmix (cl := []) (gl := []) [] trivial trivial) Tryz.func49 (by kernel_rfl) ?_
  refine FunW_run _ _ rfl rfl ?_
  have hlen := hlim.1
  simp only [lim] at hlen
  simp
  refine lp_list xs (fun i t => t.e 0 = .lst (xs.map V.str) ∧ t.e 1 = .lst (xs.map V.str) ∧ t.e 5 = .int .i64 i) ?_ ?_ ?_
  · simp
  · rintro c' L hL i t x hx hi ih ⟨g0, g1, g5⟩
    have hw := wrI (i := i) (by omega)
    simp [-getElem?_pos, gcz, gcs, g0, g1, g5, hL, hx, hi]
    refine ih _ ?_
    simp [-getElem?_pos, gcz, gcs, g0, g1, g5, hL, hx, hi, hw]
  · rintro c' t ⟨g0, g1, g5⟩
    simp [g0, g1, g5]
noncomputable def c49 := ctr (fun xs : List ByteArray => limL strLim xs) (fun xs => [.lst (xs.map V.str), .lst (xs.map V.str)]) (fun _ => (false, .bool true))
theorem c49_eq (xs : List ByteArray) (h : limL strLim xs) : c49 [.lst (xs.map V.str), .lst (xs.map V.str)] = some (false, .bool true) := ctr_eq (fun _ _ _ => rfl) xs h rfl
theorem c49_ok : COK Tryz.prog (49, c49) := ctr_ok fun xs h => f49_ok xs h
theorem f228_ok (x : Fld) (h : x.lim) : FunOK Tryz.prog 228 [x.v, x.v] false (.bool true) := by
  refine fun_ok (mkE_ok zmix (cl := []) (gl := []) [] trivial trivial) Tryz.func228 (by kernel_rfl) ?_
  refine FunW_run _ _ rfl rfl ?_
  simp []
noncomputable def c228 := ctr (fun x : Fld => x.lim) (fun x => [x.v, x.v]) (fun _ => (false, .bool true))
theorem c228_eq (x : Fld) (h : x.lim) : c228 [x.v, x.v] = some (false, .bool true) := ctr_eq (fun _ _ _ => rfl) x h rfl
theorem c228_ok : COK Tryz.prog (228, c228) := ctr_ok fun x h => f228_ok x h
theorem f185_ok (xs : List Fld) (hlim : limL Fld.lim xs) : FunOK Tryz.prog 185 [.lst (xs.map Fld.v), .lst (xs.map Fld.v)] false (.bool true) := by
  refine fun_ok (mkE_ok zmix (cl := [(228, c228)]) (gl := []) [] c228_ok trivial) Tryz.func185 (by kernel_rfl) ?_
  refine FunW_run _ _ rfl rfl ?_
  have hlen := hlim.1
  simp only [lim] at hlen
  simp
  refine lp_list xs (fun i t => t.e 0 = .lst (xs.map Fld.v) ∧ t.e 1 = .lst (xs.map Fld.v) ∧ t.e 5 = .int .i64 i) ?_ ?_ ?_
  · simp
  · rintro c' L hL i t x hx hi ih ⟨g0, g1, g5⟩
    have hw := wrI (i := i) (by omega)
    have e := c228_eq x (hlim.2 x (List.mem_of_getElem? hx))
    simp only [Fld.v] at e
    simp [-getElem?_pos, gcz, gcs, g0, g1, g5, hL, hx, hi, e]
    refine ih _ ?_
    simp [-getElem?_pos, gcz, gcs, g0, g1, g5, hL, hx, hi, hw]
  · rintro c' t ⟨g0, g1, g5⟩
    simp [g0, g1, g5]
noncomputable def c185 := ctr (fun xs : List Fld => limL Fld.lim xs) (fun xs => [.lst (xs.map Fld.v), .lst (xs.map Fld.v)]) (fun _ => (false, .bool true))
theorem c185_eq (xs : List Fld) (h : limL Fld.lim xs) : c185 [.lst (xs.map Fld.v), .lst (xs.map Fld.v)] = some (false, .bool true) := ctr_eq (fun _ _ _ => rfl) xs h rfl
theorem c185_ok : COK Tryz.prog (185, c185) := ctr_ok fun xs h => f185_ok xs h
theorem f229_ok (x : Par) (h : x.lim) : FunOK Tryz.prog 229 [x.v, x.v] false (.bool true) := by
  refine fun_ok (mkE_ok zmix (cl := []) (gl := []) [] trivial trivial) Tryz.func229 (by kernel_rfl) ?_
  refine FunW_run _ _ rfl rfl ?_
  simp []
noncomputable def c229 := ctr (fun x : Par => x.lim) (fun x => [x.v, x.v]) (fun _ => (false, .bool true))
theorem c229_eq (x : Par) (h : x.lim) : c229 [x.v, x.v] = some (false, .bool true) := ctr_eq (fun _ _ _ => rfl) x h rfl
theorem c229_ok : COK Tryz.prog (229, c229) := ctr_ok fun x h => f229_ok x h
theorem f186_ok (xs : List Par) (hlim : limL Par.lim xs) : FunOK Tryz.prog 186 [.lst (xs.map Par.v), .lst (xs.map Par.v)] false (.bool true) := by
  refine fun_ok (mkE_ok zmix (cl := [(229, c229)]) (gl := []) [] c229_ok trivial) Tryz.func186 (by kernel_rfl) ?_
  refine FunW_run _ _ rfl rfl ?_
  have hlen := hlim.1
  simp only [lim] at hlen
  simp
  refine lp_list xs (fun i t => t.e 0 = .lst (xs.map Par.v) ∧ t.e 1 = .lst (xs.map Par.v) ∧ t.e 5 = .int .i64 i) ?_ ?_ ?_
  · simp
  · rintro c' L hL i t x hx hi ih ⟨g0, g1, g5⟩
    have hw := wrI (i := i) (by omega)
    have e := c229_eq x (hlim.2 x (List.mem_of_getElem? hx))
    simp only [Par.v] at e
    simp [-getElem?_pos, gcz, gcs, g0, g1, g5, hL, hx, hi, e]
    refine ih _ ?_
    simp [-getElem?_pos, gcz, gcs, g0, g1, g5, hL, hx, hi, hw]
  · rintro c' t ⟨g0, g1, g5⟩
    simp [g0, g1, g5]
noncomputable def c186 := ctr (fun xs : List Par => limL Par.lim xs) (fun xs => [.lst (xs.map Par.v), .lst (xs.map Par.v)]) (fun _ => (false, .bool true))
theorem c186_eq (xs : List Par) (h : limL Par.lim xs) : c186 [.lst (xs.map Par.v), .lst (xs.map Par.v)] = some (false, .bool true) := ctr_eq (fun _ _ _ => rfl) xs h rfl
theorem c186_ok : COK Tryz.prog (186, c186) := ctr_ok fun xs h => f186_ok xs h
theorem f104_ok (x : Use) (h : x.lim) : FunOK Tryz.prog 104 [x.v, x.v] false (.bool true) := by
  refine fun_ok (mkE_ok zmix (cl := []) (gl := []) [] trivial trivial) Tryz.func104 (by kernel_rfl) ?_
  refine FunW_run _ _ rfl rfl ?_
  simp []
noncomputable def c104 := ctr (fun x : Use => x.lim) (fun x => [x.v, x.v]) (fun _ => (false, .bool true))
theorem c104_eq (x : Use) (h : x.lim) : c104 [x.v, x.v] = some (false, .bool true) := ctr_eq (fun _ _ _ => rfl) x h rfl
theorem c104_ok : COK Tryz.prog (104, c104) := ctr_ok fun x h => f104_ok x h
theorem f44_ok (xs : List Use) (hlim : limL Use.lim xs) : FunOK Tryz.prog 44 [.lst (xs.map Use.v), .lst (xs.map Use.v)] false (.bool true) := by
  refine fun_ok (mkE_ok zmix (cl := [(104, c104)]) (gl := []) [] c104_ok trivial) Tryz.func44 (by kernel_rfl) ?_
  refine FunW_run _ _ rfl rfl ?_
  have hlen := hlim.1
  simp only [lim] at hlen
  simp
  refine lp_list xs (fun i t => t.e 0 = .lst (xs.map Use.v) ∧ t.e 1 = .lst (xs.map Use.v) ∧ t.e 5 = .int .i64 i) ?_ ?_ ?_
  · simp
  · rintro c' L hL i t x hx hi ih ⟨g0, g1, g5⟩
    have hw := wrI (i := i) (by omega)
    have e := c104_eq x (hlim.2 x (List.mem_of_getElem? hx))
    simp only [Use.v] at e
    simp [-getElem?_pos, gcz, gcs, g0, g1, g5, hL, hx, hi, e]
    refine ih _ ?_
    simp [-getElem?_pos, gcz, gcs, g0, g1, g5, hL, hx, hi, hw]
  · rintro c' t ⟨g0, g1, g5⟩
    simp [g0, g1, g5]
noncomputable def c44 := ctr (fun xs : List Use => limL Use.lim xs) (fun xs => [.lst (xs.map Use.v), .lst (xs.map Use.v)]) (fun _ => (false, .bool true))
theorem c44_eq (xs : List Use) (h : limL Use.lim xs) : c44 [.lst (xs.map Use.v), .lst (xs.map Use.v)] = some (false, .bool true) := ctr_eq (fun _ _ _ => rfl) xs h rfl
theorem c44_ok : COK Tryz.prog (44, c44) := ctr_ok fun xs h => f44_ok xs h
theorem f134_ok (x : Ty) (h : x.lim) : FunOK Tryz.prog 134 [x.v, x.v] false (.bool true) := by
  refine fun_ok (mkE_ok zmix (cl := [(185, c185)]) (gl := []) [] c185_ok trivial) Tryz.func134 (by kernel_rfl) ?_
  refine FunW_run _ _ rfl rfl ?_
  simp only [Ty.lim] at h
  obtain ⟨l0, l1, l2⟩ := h
  have e0 := c185_eq x.fields l0
  simp [e0]
noncomputable def c134 := ctr (fun x : Ty => x.lim) (fun x => [x.v, x.v]) (fun _ => (false, .bool true))
theorem c134_eq (x : Ty) (h : x.lim) : c134 [x.v, x.v] = some (false, .bool true) := ctr_eq (fun _ _ _ => rfl) x h rfl
theorem c134_ok : COK Tryz.prog (134, c134) := ctr_ok fun x h => f134_ok x h
theorem f68_ok (xs : List Ty) (hlim : limL Ty.lim xs) : FunOK Tryz.prog 68 [.lst (xs.map Ty.v), .lst (xs.map Ty.v)] false (.bool true) := by
  refine fun_ok (mkE_ok zmix (cl := [(134, c134)]) (gl := []) [] c134_ok trivial) Tryz.func68 (by kernel_rfl) ?_
  refine FunW_run _ _ rfl rfl ?_
  have hlen := hlim.1
  simp only [lim] at hlen
  simp
  refine lp_list xs (fun i t => t.e 0 = .lst (xs.map Ty.v) ∧ t.e 1 = .lst (xs.map Ty.v) ∧ t.e 5 = .int .i64 i) ?_ ?_ ?_
  · simp
  · rintro c' L hL i t x hx hi ih ⟨g0, g1, g5⟩
    have hw := wrI (i := i) (by omega)
    have e := c134_eq x (hlim.2 x (List.mem_of_getElem? hx))
    simp only [Ty.v] at e
    simp [-getElem?_pos, gcz, gcs, g0, g1, g5, hL, hx, hi, e]
    refine ih _ ?_
    simp [-getElem?_pos, gcz, gcs, g0, g1, g5, hL, hx, hi, hw]
  · rintro c' t ⟨g0, g1, g5⟩
    simp [g0, g1, g5]
noncomputable def c68 := ctr (fun xs : List Ty => limL Ty.lim xs) (fun xs => [.lst (xs.map Ty.v), .lst (xs.map Ty.v)]) (fun _ => (false, .bool true))
theorem c68_eq (xs : List Ty) (h : limL Ty.lim xs) : c68 [.lst (xs.map Ty.v), .lst (xs.map Ty.v)] = some (false, .bool true) := ctr_eq (fun _ _ _ => rfl) xs h rfl
theorem c68_ok : COK Tryz.prog (68, c68) := ctr_ok fun xs h => f68_ok xs h
theorem f135_ok (x : Obj) (h : x.lim) : FunOK Tryz.prog 135 [x.v, x.v] false (.bool true) := by
  refine fun_ok (mkE_ok zmix (cl := [(186, c186)]) (gl := []) [] c186_ok trivial) Tryz.func135 (by kernel_rfl) ?_
  refine FunW_run _ _ rfl rfl ?_
  simp only [Obj.lim] at h
  obtain ⟨l0, l1⟩ := h
  have e1 := c186_eq x.params l1
  simp [e1]
noncomputable def c135 := ctr (fun x : Obj => x.lim) (fun x => [x.v, x.v]) (fun _ => (false, .bool true))
theorem c135_eq (x : Obj) (h : x.lim) : c135 [x.v, x.v] = some (false, .bool true) := ctr_eq (fun _ _ _ => rfl) x h rfl
theorem c135_ok : COK Tryz.prog (135, c135) := ctr_ok fun x h => f135_ok x h
theorem f69_ok (xs : List Obj) (hlim : limL Obj.lim xs) : FunOK Tryz.prog 69 [.lst (xs.map Obj.v), .lst (xs.map Obj.v)] false (.bool true) := by
  refine fun_ok (mkE_ok zmix (cl := [(135, c135)]) (gl := []) [] c135_ok trivial) Tryz.func69 (by kernel_rfl) ?_
  refine FunW_run _ _ rfl rfl ?_
  have hlen := hlim.1
  simp only [lim] at hlen
  simp
  refine lp_list xs (fun i t => t.e 0 = .lst (xs.map Obj.v) ∧ t.e 1 = .lst (xs.map Obj.v) ∧ t.e 5 = .int .i64 i) ?_ ?_ ?_
  · simp
  · rintro c' L hL i t x hx hi ih ⟨g0, g1, g5⟩
    have hw := wrI (i := i) (by omega)
    have e := c135_eq x (hlim.2 x (List.mem_of_getElem? hx))
    simp only [Obj.v] at e
    simp [-getElem?_pos, gcz, gcs, g0, g1, g5, hL, hx, hi, e]
    refine ih _ ?_
    simp [-getElem?_pos, gcz, gcs, g0, g1, g5, hL, hx, hi, hw]
  · rintro c' t ⟨g0, g1, g5⟩
    simp [g0, g1, g5]
noncomputable def c69 := ctr (fun xs : List Obj => limL Obj.lim xs) (fun xs => [.lst (xs.map Obj.v), .lst (xs.map Obj.v)]) (fun _ => (false, .bool true))
theorem c69_eq (xs : List Obj) (h : limL Obj.lim xs) : c69 [.lst (xs.map Obj.v), .lst (xs.map Obj.v)] = some (false, .bool true) := ctr_eq (fun _ _ _ => rfl) xs h rfl
theorem c69_ok : COK Tryz.prog (69, c69) := ctr_ok fun xs h => f69_ok xs h
theorem f16_ok (x : Scp) (h : x.lim) : FunOK Tryz.prog 16 [x.v, x.v] false (.bool true) := by
  refine fun_ok (mkE_ok zmix (cl := [(44, c44), (49, c49), (68, c68), (69, c69)]) (gl := []) [] ⟨c44_ok, c49_ok, c68_ok, c69_ok⟩ trivial) Tryz.func16 (by kernel_rfl) ?_
  refine FunW_run _ _ rfl rfl ?_
  simp only [Scp.lim] at h
  obtain ⟨l0, l1, l2, l3, l4⟩ := h
  have e1 := c49_eq x.imports l1
  have e2 := c68_eq x.types l2
  have e3 := c69_eq x.objects l3
  have e4 := c44_eq x.uses l4
  simp [e1, e2, e3, e4]
noncomputable def c16 := ctr (fun x : Scp => x.lim) (fun x => [x.v, x.v]) (fun _ => (false, .bool true))
theorem c16_eq (x : Scp) (h : x.lim) : c16 [x.v, x.v] = some (false, .bool true) := ctr_eq (fun _ _ _ => rfl) x h rfl
theorem c16_ok : COK Tryz.prog (16, c16) := ctr_ok fun x h => f16_ok x h
end Go.TM.Tryz
end
section
set_option maxHeartbeats 2000000
namespace Go.TM.Tryz
open Go Go.TM Go.Proofs
theorem f97_ok (x : Knw) (h : x.lim) : FunOK Tryz.prog 97 [x.v, x.v] false (.bool true) := by
  refine fun_ok (mkE_ok zmix (cl := []) (gl := []) [] trivial trivial) Tryz.func97 (by kernel_rfl) ?_
  refine FunW_run _ _ rfl rfl ?_
  simp []
noncomputable def c97 := ctr (fun x : Knw => x.lim) (fun x => [x.v, x.v]) (fun _ => (false, .bool true))
theorem c97_eq (x : Knw) (h : x.lim) : c97 [x.v, x.v] = some (false, .bool true) := ctr_eq (fun _ _ _ => rfl) x h rfl
theorem c97_ok : COK Tryz.prog (97, c97) := ctr_ok fun x h => f97_ok x h
theorem f37_ok (xs : List Knw) (hlim : limL Knw.lim xs) : FunOK Tryz.prog 37 [.lst (xs.map Knw.v), .lst (xs.map Knw.v)] false (.bool true) := by
  refine fun_ok (mkE_ok zmix (cl := [(97, c97)]) (gl := []) [] c97_ok trivial) Tryz.func37 (by kernel_rfl) ?_
  refine FunW_run _ _ rfl rfl ?_
  have hlen := hlim.1
  simp only [lim] at hlen
  simp
  refine lp_list xs (fun i t => t.e 0 = .lst (xs.map Knw.v) ∧ t.e 1 = .lst (xs.map Knw.v) ∧ t.e 5 = .int .i64 i) ?_ ?_ ?_
  · simp
  · rintro c' L hL i t x hx hi ih ⟨g0, g1, g5⟩
    have hw := wrI (i := i) (by omega)
    have e := c97_eq x (hlim.2 x (List.mem_of_getElem? hx))
    simp only [Knw.v] at e
    simp [-getElem?_pos, gcz, gcs, g0, g1, g5, hL, hx, hi, e]
    refine ih _ ?_
    simp [-getElem?_pos, gcz, gcs, g0, g1, g5, hL, hx, hi, hw]
  · rintro c' t ⟨g0, g1, g5⟩
    simp [g0, g1, g5]
noncomputable def c37 := ctr (fun xs : List Knw => limL Knw.lim xs) (fun xs => [.lst (xs.map Knw.v), .lst (xs.map Knw.v)]) (fun _ => (false, .bool true))
theorem c37_eq (xs : List Knw) (h : limL Knw.lim xs) : c37 [.lst (xs.map Knw.v), .lst (xs.map Knw.v)] = some (false, .bool true) := ctr_eq (fun _ _ _ => rfl) xs h rfl
theorem c37_ok : COK Tryz.prog (37, c37) := ctr_ok fun xs h => f37_ok xs h
end Go.TM.Tryz
end
section
set_option maxHeartbeats 4000000
namespace Go.TM.Tryz
open Go Go.TM Go.Proofs
theorem f87_ok (x : Mdl) (h : x.lim) : FunOK Tryz.prog 87 [x.v, x.v] false (.bool true) := by
  refine fun_ok (mkE_ok zmix (cl := [(16, c16), (37, c37)]) (gl := []) [] ⟨c16_ok, c37_ok⟩ trivial) Tryz.func87 (by kernel_rfl) ?_
  refine FunW_run _ _ rfl rfl ?_
  have e0 := c16_eq x.scope h.1
  simp only [Scp.v] at e0
  have e1 := c37_eq x.seen h.2
  simp [e0, e1]
noncomputable def c87 := ctr (fun x : Mdl => x.lim) (fun x => [x.v, x.v]) (fun _ => (false, .bool true))
theorem c87_eq (x : Mdl) (h : x.lim) : c87 [x.v, x.v] = some (false, .bool true) := ctr_eq (fun _ _ _ => rfl) x h rfl
theorem c87_ok : COK Tryz.prog (87, c87) := ctr_ok fun x h => f87_ok x h
theorem f26_ok (xs : List Mdl) (hlim : limL Mdl.lim xs) : FunOK Tryz.prog 26 [.lst (xs.map Mdl.v), .lst (xs.map Mdl.v)] false (.bool true) := by
  refine fun_ok (mkE_ok zmix (cl := [(87, c87)]) (gl := []) [] c87_ok trivial) Tryz.func26 (by kernel_rfl) ?_
  refine FunW_run _ _ rfl rfl ?_
  have hlen := hlim.1
  simp only [lim] at hlen
  simp
  refine lp_list xs (fun i t => t.e 0 = .lst (xs.map Mdl.v) ∧ t.e 1 = .lst (xs.map Mdl.v) ∧ t.e 5 = .int .i64 i) ?_ ?_ ?_
  · simp
  · rintro c' L hL i t x hx hi ih ⟨g0, g1, g5⟩
    have hw := wrI (i := i) (by omega)
    have e := c87_eq x (hlim.2 x (List.mem_of_getElem? hx))
    simp only [Mdl.v] at e
    simp [-getElem?_pos, gcz, gcs, g0, g1, g5, hL, hx, hi, e]
    refine ih _ ?_
    simp [-getElem?_pos, gcz, gcs, g0, g1, g5, hL, hx, hi, hw]
  · rintro c' t ⟨g0, g1, g5⟩
    simp [g0, g1, g5]
noncomputable def c26 := ctr (fun xs : List Mdl => limL Mdl.lim xs) (fun xs => [.lst (xs.map Mdl.v), .lst (xs.map Mdl.v)]) (fun _ => (false, .bool true))
theorem c26_eq (xs : List Mdl) (h : limL Mdl.lim xs) : c26 [.lst (xs.map Mdl.v), .lst (xs.map Mdl.v)] = some (false, .bool true) := ctr_eq (fun _ _ _ => rfl) xs h rfl
theorem c26_ok : COK Tryz.prog (26, c26) := ctr_ok fun xs h => f26_ok xs h
end Go.TM.Tryz
end
section
set_option maxHeartbeats 2000000
namespace Go.TM.Tryz
open Go Go.TM Go.Proofs
theorem f38_ok (xs : List Knw) (k : Int) (h0 : 0 ≤ k) (h1 : k + cnt cKnw xs ≤ 4611686018427387904) (h2 : xs.length ≤ 4611686018427387904) : GenOK Tryz.prog 38 [.inl 3 (xs.map Knw.v), .int .i64 k] [] ⟨false, .int .i64 (k + cnt cKnw xs), [.inl 3 ((mkL mkKnw cKnw k xs).map Knw.v)], []⟩ := by
  refine fun_okG (mkE_ok zmix (cl := [(88, c88)]) (gl := []) [] c88_ok trivial) Tryz.func38 (by kernel_rfl) ?_
  refine FunG_run _ _ rfl rfl ?_
  have hlen := h2
  simp
  refine lp_list xs (fun i t => t.e 0 = .own 0 ∧ t.e 1 = .int .i64 (k + pre cKnw xs i) ∧ t.e 5 = .int .i64 i ∧ t.nb = 0 ∧ 1 ≤ t.nt ∧ t.R 0 = some ⟨3, (mpart mkKnw cKnw k xs i).map Knw.v, true⟩) ?_ ?_ ?_
  · simp [pre_zero, mpart_zero]
  · rintro c' L hL i t x hx hi ih ⟨g0, g1, g5, gnb, gnt, gR⟩
    have hw := wrI (i := i) (by omega)
    have hp := pre_succ cKnw hx
    have hp2 := pre_le cKnw xs (i + 1)
    have hc : cKnw x = 3 := rfl
    have hcnt : (xs.map cKnw).sum = cnt cKnw xs := rfl
    have e0 := c88_eq (k + (pre cKnw xs i : Nat)) (by omega)
    have w0 : IntKind.i64.wrap (k + (pre cKnw xs i : Nat) + 1) = k + (pre cKnw xs i : Nat) + 1 := wrap64 (by omega) (by omega)
    have e1 := c88_eq (k + (pre cKnw xs i : Nat) + 1) (by omega)
    have w1 : IntKind.i64.wrap (k + (pre cKnw xs i : Nat) + 1 + 1) = k + (pre cKnw xs i : Nat) + 1 + 1 := wrap64 (by omega) (by omega)
    have w2 : IntKind.i64.wrap (k + (pre cKnw xs i : Nat) + 1 + 1 + 1) = k + (pre cKnw xs i : Nat) + 1 + 1 + 1 := wrap64 (by omega) (by omega)
    have hx' := mpart_get (f := mkKnw) (c := cKnw) (k := k) hx
    simp [-getElem?_pos, gcz, gcs, g0, g1, g5, gnb, gR, hL, hx', hi, e0, w0, e1, w1, w2]
    refine ih _ ?_
    simp [-getElem?_pos, gcz, gcs, g0, g1, g5, gnb, gR, hL, hx', hi, e0, w0, e1, w1, w2, hp, hc, hw]
    first
      | exact ⟨by omega, by omega, mpart_setv hx rfl⟩
      | exact ⟨by omega, mpart_setv hx rfl⟩
      | exact mpart_setv hx rfl
  · rintro c' t ⟨g0, g1, g5, gnb, gnt, gR⟩
    simp only [pre_all] at g1
    simp [g0, g1, g5, gnb, gR, mpart_all, cnt]
noncomputable def c38 := ctrG (fun a : List Knw × Int => 0 ≤ a.2 ∧ a.2 + cnt cKnw a.1 ≤ 4611686018427387904 ∧ (a.1.length ≤ 4611686018427387904)) (fun a => ([.inl 3 (a.1.map Knw.v), .int .i64 a.2], [])) (fun a => ⟨false, .int .i64 (a.2 + cnt cKnw a.1), [.inl 3 ((mkL mkKnw cKnw a.2 a.1).map Knw.v)], []⟩)
theorem c38_eq (xs : List Knw) (k : Int) (h0 : 0 ≤ k) (h1 : k + cnt cKnw xs ≤ 4611686018427387904) (h2 : xs.length ≤ 4611686018427387904) : c38 [.inl 3 (xs.map Knw.v), .int .i64 k] [] = some ⟨false, .int .i64 (k + cnt cKnw xs), [.inl 3 ((mkL mkKnw cKnw k xs).map Knw.v)], []⟩ := ctrG_eq (injG Knw.v_inj _) (xs, k) ⟨h0, h1, h2⟩ rfl
theorem c38_ok : GOK Tryz.prog (38, [true], c38) := ctrG_ok fun a h => f38_ok a.1 a.2 h.1 h.2.1 h.2.2
end Go.TM.Tryz
end
section
set_option maxHeartbeats 8000000
set_option maxRecDepth 20000
namespace Go.TM.Tryz
open Go Go.TM Go.Proofs
def mkMds (k : Int) (x : Mdl) : Mdl :=
  ⟨mkScs k x.scope, mkL mkKnw cKnw (k + 1 + (cnt cStr x.scope.imports : Nat) + (cnt cTy x.scope.types : Nat) + (cnt cObj x.scope.objects : Nat) + (cnt cUse x.scope.uses : Nat)) x.seen⟩
def cMds (x : Mdl) : Nat := cScs x.scope + cnt cKnw x.seen
def MdlLen (x : Mdl) : Prop := ScpLen x.scope ∧ x.seen.length ≤ 4611686018427387904
theorem f27_ok (xs : List Mdl) (k : Int) (h0 : 0 ≤ k) (h1 : k + cnt cMds xs ≤ 4611686018427387904) (h2 : xs.length ≤ 4611686018427387904 ∧ ∀ x ∈ xs, MdlLen x) : GenOK Tryz.prog 27 [.inl 6 (xs.map Mdl.o), .int .i64 k] [] ⟨false, .int .i64 (k + cnt cMds xs), [.inl 6 ((mkL mkMds cMds k xs).map Mdl.o)], []⟩ := by
  refine fun_okG (mkE_ok zmix (cl := [(88, c88)]) (gl := [(45, [true], c45), (50, [true], c50), (70, [true], c70), (71, [true], c71), (38, [true], c38)]) [] c88_ok ⟨c45_ok, c50_ok, c70_ok, c71_ok, c38_ok⟩) Tryz.func27 (by kernel_rfl) ?_
  refine FunG_run _ _ rfl rfl ?_
  have hlen := h2.1
  simp
  refine lp_list xs (fun i t => t.e 0 = .own 0 ∧ t.e 1 = .int .i64 (k + pre cMds xs i) ∧ t.e 5 = .int .i64 i ∧ t.nb = 0 ∧ 1 ≤ t.nt ∧ t.R 0 = some ⟨6, (mpart mkMds cMds k xs i).map Mdl.o, true⟩) ?_ ?_ ?_
  · simp [pre_zero, mpart_zero]
  · rintro c' L hL i t x hx hi ih ⟨g0, g1, g5, gnb, gnt, gR⟩
    have hw := wrI (i := i) (by omega)
    have hp := pre_succ cMds hx
    have hp2 := pre_le cMds xs (i + 1)
    have hc : cMds x = 1 + cnt cStr x.scope.imports + cnt cTy x.scope.types + cnt cObj x.scope.objects + cnt cUse x.scope.uses + cnt cKnw x.seen := rfl
    have hcnt : (xs.map cMds).sum = cnt cMds xs := rfl
    obtain ⟨⟨n1, n2, n3, n4⟩, n5⟩ := h2.2 x (List.mem_of_getElem? hx)
    have e0 := c88_eq (k + (pre cMds xs i : Nat)) (by omega)
    have w0 : IntKind.i64.wrap (k + (pre cMds xs i : Nat) + 1) = k + (pre cMds xs i : Nat) + 1 := wrap64 (by omega) (by omega)
    have e1 := c50_eq x.scope.imports (k + (pre cMds xs i : Nat) + 1) (by omega) (by omega) n1
    have e2 := c70_eq x.scope.types (k + (pre cMds xs i : Nat) + 1 + (cnt cStr x.scope.imports : Nat)) (by omega) (by omega) n2
    have e3 := c71_eq x.scope.objects (k + (pre cMds xs i : Nat) + 1 + (cnt cStr x.scope.imports : Nat) + (cnt cTy x.scope.types : Nat)) (by omega) (by omega) n3
    have e4 := c45_eq x.scope.uses (k + (pre cMds xs i : Nat) + 1 + (cnt cStr x.scope.imports : Nat) + (cnt cTy x.scope.types : Nat) + (cnt cObj x.scope.objects : Nat)) (by omega) (by omega) n4
    have e5 := c38_eq x.seen (k + (pre cMds xs i : Nat) + 1 + (cnt cStr x.scope.imports : Nat) + (cnt cTy x.scope.types : Nat) + (cnt cObj x.scope.objects : Nat) + (cnt cUse x.scope.uses : Nat)) (by omega) (by omega) n5
    have hx' := mpart_get (f := mkMds) (c := cMds) (k := k) hx
    simp [-getElem?_pos, gcz, gcs, g0, g1, g5, gnb, gR, hL, hx', hi, e0, w0, e1, e2, e3, e4, e5]
    refine ih _ ?_
    simp [-getElem?_pos, gcz, gcs, g0, g1, g5, gnb, gR, hL, hx', hi, e0, w0, e1, e2, e3, e4, e5, hp, hc, hw]
    first
      | exact ⟨by omega, by omega, mpart_setv hx rfl⟩
      | exact ⟨by omega, mpart_setv hx rfl⟩
      | exact mpart_setv hx rfl
  · rintro c' t ⟨g0, g1, g5, gnb, gnt, gR⟩
    simp only [pre_all] at g1
    simp [g0, g1, g5, gnb, gR, mpart_all, cnt]
noncomputable def c27 := ctrG (fun a : List Mdl × Int => 0 ≤ a.2 ∧ a.2 + cnt cMds a.1 ≤ 4611686018427387904 ∧ (a.1.length ≤ 4611686018427387904 ∧ ∀ x ∈ a.1, MdlLen x)) (fun a => ([.inl 6 (a.1.map Mdl.o), .int .i64 a.2], [])) (fun a => ⟨false, .int .i64 (a.2 + cnt cMds a.1), [.inl 6 ((mkL mkMds cMds a.2 a.1).map Mdl.o)], []⟩)
theorem c27_eq (xs : List Mdl) (k : Int) (h0 : 0 ≤ k) (h1 : k + cnt cMds xs ≤ 4611686018427387904) (h2 : xs.length ≤ 4611686018427387904 ∧ ∀ x ∈ xs, MdlLen x) : c27 [.inl 6 (xs.map Mdl.o), .int .i64 k] [] = some ⟨false, .int .i64 (k + cnt cMds xs), [.inl 6 ((mkL mkMds cMds k xs).map Mdl.o)], []⟩ := ctrG_eq (injG Mdl.o_inj _) (xs, k) ⟨h0, h1, h2⟩ rfl
theorem c27_ok : GOK Tryz.prog (27, [true], c27) := ctrG_ok fun a h => f27_ok a.1 a.2 h.1 h.2.1 h.2.2
end Go.TM.Tryz
end
section
namespace Go.TM
theorem cnt_le {α : Type} {c f : α → Nat} (h : ∀ x, c x ≤ 8 + 8 * f x) (xs : List α) : cnt c xs ≤ 8 * szL f xs := by
  induction xs with
  | nil => simp [cnt, szL]
  | cons x xs ih =>
    have := h x
    simp only [cnt, szL, List.map_cons, List.sum_cons, List.length_cons] at *
    omega
theorem cTy_le (x : Ty) : cTy x ≤ 8 + 8 * x.sz := by
  have := cnt_le (c := cFld) (f := Fld.sz) (fun y => by simp [cFld]; omega) x.fields
  simp only [cTy, Ty.sz]
  omega
theorem cObj_le (x : Obj) : cObj x ≤ 8 + 8 * x.sz := by
  have := cnt_le (c := cPar) (f := Par.sz) (fun y => by simp [cPar]; omega) x.params
  simp only [cObj, Obj.sz]
  omega
theorem Scp.lens {x : Scp} (h : x.sz ≤ 1048576) : x.imports.length ≤ 1048576 ∧ (x.types.length ≤ 1048576 ∧ ∀ y ∈ x.types, y.fields.length ≤ 1048576) ∧ (x.objects.length ≤ 1048576 ∧ ∀ y ∈ x.objects, y.params.length ≤ 1048576) ∧ x.uses.length ≤ 1048576 := by
  have h1 := szL_len ByteArray.size x.imports
  have h2 := szL_len Ty.sz x.types
  have h3 := szL_len Obj.sz x.objects
  have h4 := szL_len Use.sz x.uses
  simp only [Scp.sz] at h
  refine ⟨by omega, ⟨by omega, fun y hy => ?_⟩, ⟨by omega, fun y hy => ?_⟩, by omega⟩
  · have a := szL_mem (f := Ty.sz) hy
    have b := szL_len Fld.sz y.fields
    simp only [Ty.sz] at a
    omega
  · have a := szL_mem (f := Obj.sz) hy
    have b := szL_len Par.sz y.params
    simp only [Obj.sz] at a
    omega
end Go.TM
end
section
namespace Go.TM.Tryz
open Go Go.TM Go.Proofs
theorem cScs_le (x : Scp) : cScs x ≤ 8 + 8 * x.sz := by
  have h1 := cnt_le (c := cStr) (f := ByteArray.size) (fun y => by simp [cStr]; omega) x.imports
  have h2 := cnt_le (c := cTy) (f := Ty.sz) cTy_le x.types
  have h3 := cnt_le (c := cObj) (f := Obj.sz) cObj_le x.objects
  have h4 := cnt_le (c := cUse) (f := Use.sz) (fun y => by simp [cUse]; omega) x.uses
  simp only [cScs, Scp.sz]
  omega
theorem scpLen_of {x : Scp} (h : x.sz ≤ 1048576) : ScpLen x := by
  have hln := Scp.lens h
  exact ⟨by omega, ⟨by omega, fun y hy => by have := hln.2.1.2 y hy; omega⟩, ⟨by omega, fun y hy => by have := hln.2.2.1.2 y hy; omega⟩, by omega⟩
end Go.TM.Tryz
end
section
namespace Go.TM.Tryz
open Go Go.TM Go.Proofs
theorem cMds_le (x : Mdl) : cMds x ≤ 8 + 8 * x.sz := by
  have h1 := cScs_le x.scope
  have h2 := cnt_const (c := cKnw) (m := 3) (fun _ => rfl) x.seen
  have h3 := szL_len Knw.sz x.seen
  simp only [cMds, Mdl.sz]
  omega
theorem mdlLen_of {x : Mdl} (h : x.sz ≤ 1048576) : MdlLen x := by
  have h3 := szL_len Knw.sz x.seen
  simp only [Mdl.sz] at h
  exact ⟨scpLen_of (by omega), by omega⟩
end Go.TM.Tryz
end
section
set_option maxHeartbeats 2000000
set_option maxRecDepth 10000
namespace Go.TM.Tryz
open Go Go.TM Go.Proofs
theorem f51_ok (xs : List ByteArray) (k : Int) (h0 : 0 ≤ k) (h1 : k + cnt cStr xs ≤ 4611686018427387904) (h2 : xs.length ≤ 4611686018427387904) : FunOK Tryz.prog 51 [.lst ((mkL mkStr cStr k xs).map V.str), .int .i64 k] false (.int .i64 (k + cnt cStr xs)) := by
  refine fun_ok (mkE_ok zmix (cl := [(88, c88)]) (gl := []) [] c88_ok trivial) Tryz.func51 (by kernel_rfl) ?_
  refine FunW_run _ _ rfl rfl ?_
  have hlen := h2
  simp
  refine lp_list xs (fun i t => t.e 0 = .lst ((mkL mkStr cStr k xs).map V.str) ∧ t.e 1 = .int .i64 (k + pre cStr xs i) ∧ t.e 5 = .int .i64 i) ?_ ?_ ?_
  · simp [pre_zero]
  · rintro c' L hL i t x hx hi ih ⟨g0, g1, g5⟩
    have hw := wrI (i := i) (by omega)
    have hp := pre_succ cStr hx
    have hp2 := pre_le cStr xs (i + 1)
    have hc : cStr x = 1 := rfl
    have hcnt : (xs.map cStr).sum = cnt cStr xs := rfl
    have e0 := c88_eq (k + (pre cStr xs i : Nat)) (by omega)
    have w0 : IntKind.i64.wrap (k + (pre cStr xs i : Nat) + 1) = k + (pre cStr xs i : Nat) + 1 := wrap64 (by omega) (by omega)
    have hx' := mkL_get mkStr cStr k hx
    simp [-getElem?_pos, gcz, gcs, g0, g1, g5, hL, hx', hi, mkStr, e0, w0]
    refine ih _ ?_
    simp [-getElem?_pos, gcz, gcs, g0, g1, g5, hL, hx', hi, e0, w0, hp, hc, hw] <;> omega
  · rintro c' t ⟨g0, g1, g5⟩
    simp only [pre_all] at g1
    simp [g0, g1, g5, cnt]
noncomputable def c51 := ctrH mkStr cStr V.str (fun xs k => 0 ≤ k ∧ k + cnt cStr xs ≤ 4611686018427387904 ∧ (xs.length ≤ 4611686018427387904))
theorem c51_eq (xs : List ByteArray) (k : Int) (h0 : 0 ≤ k) (h1 : k + cnt cStr xs ≤ 4611686018427387904) (h2 : xs.length ≤ 4611686018427387904) : c51 [.lst ((mkL mkStr cStr k xs).map V.str), .int .i64 k] = some (false, .int .i64 (k + cnt cStr xs)) := ctrH_eq cStr_mk str_inj xs k ⟨h0, h1, h2⟩
theorem c51_ok : COK Tryz.prog (51, c51) := ctrH_ok cStr_mk fun xs k h => f51_ok xs k h.1 h.2.1 h.2.2
theorem f138_ok (xs : List Fld) (k : Int) (h0 : 0 ≤ k) (h1 : k + cnt cFld xs ≤ 4611686018427387904) (h2 : xs.length ≤ 4611686018427387904) : FunOK Tryz.prog 138 [.lst ((mkL mkFld cFld k xs).map Fld.v), .int .i64 k] false (.int .i64 (k + cnt cFld xs)) := by
  refine fun_ok (mkE_ok zmix (cl := [(88, c88)]) (gl := []) [] c88_ok trivial) Tryz.func138 (by kernel_rfl) ?_
  refine FunW_run _ _ rfl rfl ?_
  have hlen := h2
  simp
  refine lp_list xs (fun i t => t.e 0 = .lst ((mkL mkFld cFld k xs).map Fld.v) ∧ t.e 1 = .int .i64 (k + pre cFld xs i) ∧ t.e 5 = .int .i64 i) ?_ ?_ ?_
  · simp [pre_zero]
  · rintro c' L hL i t x hx hi ih ⟨g0, g1, g5⟩
    have hw := wrI (i := i) (by omega)
    have hp := pre_succ cFld hx
    have hp2 := pre_le cFld xs (i + 1)
    have hc : cFld x = 3 := rfl
    have hcnt : (xs.map cFld).sum = cnt cFld xs := rfl
    have e0 := c88_eq (k + (pre cFld xs i : Nat)) (by omega)
    have w0 : IntKind.i64.wrap (k + (pre cFld xs i : Nat) + 1) = k + (pre cFld xs i : Nat) + 1 := wrap64 (by omega) (by omega)
    have w1 : IntKind.i64.wrap (k + (pre cFld xs i : Nat) + 1 + 1) = k + (pre cFld xs i : Nat) + 1 + 1 := wrap64 (by omega) (by omega)
    have w2 : IntKind.i64.wrap (k + (pre cFld xs i : Nat) + 1 + 1 + 1) = k + (pre cFld xs i : Nat) + 1 + 1 + 1 := wrap64 (by omega) (by omega)
    have hx' := mkL_get mkFld cFld k hx
    simp [-getElem?_pos, gcz, gcs, g0, g1, g5, hL, hx', hi, mkFld, e0, w0, w1, w2]
    refine ih _ ?_
    simp [-getElem?_pos, gcz, gcs, g0, g1, g5, hL, hx', hi, e0, w0, w1, w2, hp, hc, hw] <;> omega
  · rintro c' t ⟨g0, g1, g5⟩
    simp only [pre_all] at g1
    simp [g0, g1, g5, cnt]
noncomputable def c138 := ctrH mkFld cFld Fld.v (fun xs k => 0 ≤ k ∧ k + cnt cFld xs ≤ 4611686018427387904 ∧ (xs.length ≤ 4611686018427387904))
theorem c138_eq (xs : List Fld) (k : Int) (h0 : 0 ≤ k) (h1 : k + cnt cFld xs ≤ 4611686018427387904) (h2 : xs.length ≤ 4611686018427387904) : c138 [.lst ((mkL mkFld cFld k xs).map Fld.v), .int .i64 k] = some (false, .int .i64 (k + cnt cFld xs)) := ctrH_eq cFld_mk Fld.v_inj xs k ⟨h0, h1, h2⟩
theorem c138_ok : COK Tryz.prog (138, c138) := ctrH_ok cFld_mk fun xs k h => f138_ok xs k h.1 h.2.1 h.2.2
theorem f139_ok (xs : List Par) (k : Int) (h0 : 0 ≤ k) (h1 : k + cnt cPar xs ≤ 4611686018427387904) (h2 : xs.length ≤ 4611686018427387904) : FunOK Tryz.prog 139 [.lst ((mkL mkPar cPar k xs).map Par.v), .int .i64 k] false (.int .i64 (k + cnt cPar xs)) := by
  refine fun_ok (mkE_ok zmix (cl := [(88, c88)]) (gl := []) [] c88_ok trivial) Tryz.func139 (by kernel_rfl) ?_
  refine FunW_run _ _ rfl rfl ?_
  have hlen := h2
  simp
  refine lp_list xs (fun i t => t.e 0 = .lst ((mkL mkPar cPar k xs).map Par.v) ∧ t.e 1 = .int .i64 (k + pre cPar xs i) ∧ t.e 5 = .int .i64 i) ?_ ?_ ?_
  · simp [pre_zero]
  · rintro c' L hL i t x hx hi ih ⟨g0, g1, g5⟩
    have hw := wrI (i := i) (by omega)
    have hp := pre_succ cPar hx
    have hp2 := pre_le cPar xs (i + 1)
    have hc : cPar x = 3 := rfl
    have hcnt : (xs.map cPar).sum = cnt cPar xs := rfl
    have e0 := c88_eq (k + (pre cPar xs i : Nat)) (by omega)
    have w0 : IntKind.i64.wrap (k + (pre cPar xs i : Nat) + 1) = k + (pre cPar xs i : Nat) + 1 := wrap64 (by omega) (by omega)
    have w1 : IntKind.i64.wrap (k + (pre cPar xs i : Nat) + 1 + 1) = k + (pre cPar xs i : Nat) + 1 + 1 := wrap64 (by omega) (by omega)
    have w2 : IntKind.i64.wrap (k + (pre cPar xs i : Nat) + 1 + 1 + 1) = k + (pre cPar xs i : Nat) + 1 + 1 + 1 := wrap64 (by omega) (by omega)
    have hx' := mkL_get mkPar cPar k hx
    simp [-getElem?_pos, gcz, gcs, g0, g1, g5, hL, hx', hi, mkPar, e0, w0, w1, w2]
    refine ih _ ?_
    simp [-getElem?_pos, gcz, gcs, g0, g1, g5, hL, hx', hi, e0, w0, w1, w2, hp, hc, hw] <;> omega
  · rintro c' t ⟨g0, g1, g5⟩
    simp only [pre_all] at g1
    simp [g0, g1, g5, cnt]
noncomputable def c139 := ctrH mkPar cPar Par.v (fun xs k => 0 ≤ k ∧ k + cnt cPar xs ≤ 4611686018427387904 ∧ (xs.length ≤ 4611686018427387904))
theorem c139_eq (xs : List Par) (k : Int) (h0 : 0 ≤ k) (h1 : k + cnt cPar xs ≤ 4611686018427387904) (h2 : xs.length ≤ 4611686018427387904) : c139 [.lst ((mkL mkPar cPar k xs).map Par.v), .int .i64 k] = some (false, .int .i64 (k + cnt cPar xs)) := ctrH_eq cPar_mk Par.v_inj xs k ⟨h0, h1, h2⟩
theorem c139_ok : COK Tryz.prog (139, c139) := ctrH_ok cPar_mk fun xs k h => f139_ok xs k h.1 h.2.1 h.2.2
theorem f46_ok (xs : List Use) (k : Int) (h0 : 0 ≤ k) (h1 : k + cnt cUse xs ≤ 4611686018427387904) (h2 : xs.length ≤ 4611686018427387904) : FunOK Tryz.prog 46 [.lst ((mkL mkUse cUse k xs).map Use.v), .int .i64 k] false (.int .i64 (k + cnt cUse xs)) := by
  refine fun_ok (mkE_ok zmix (cl := [(88, c88)]) (gl := []) [] c88_ok trivial) Tryz.func46 (by kernel_rfl) ?_
  refine FunW_run _ _ rfl rfl ?_
  have hlen := h2
  simp
  refine lp_list xs (fun i t => t.e 0 = .lst ((mkL mkUse cUse k xs).map Use.v) ∧ t.e 1 = .int .i64 (k + pre cUse xs i) ∧ t.e 5 = .int .i64 i) ?_ ?_ ?_
  · simp [pre_zero]
  · rintro c' L hL i t x hx hi ih ⟨g0, g1, g5⟩
    have hw := wrI (i := i) (by omega)
    have hp := pre_succ cUse hx
    have hp2 := pre_le cUse xs (i + 1)
    have hc : cUse x = 2 := rfl
    have hcnt : (xs.map cUse).sum = cnt cUse xs := rfl
    have e0 := c88_eq (k + (pre cUse xs i : Nat)) (by omega)
    have w0 : IntKind.i64.wrap (k + (pre cUse xs i : Nat) + 1) = k + (pre cUse xs i : Nat) + 1 := wrap64 (by omega) (by omega)
    have e1 := c88_eq (k + (pre cUse xs i : Nat) + 1) (by omega)
    have w1 : IntKind.i64.wrap (k + (pre cUse xs i : Nat) + 1 + 1) = k + (pre cUse xs i : Nat) + 1 + 1 := wrap64 (by omega) (by omega)
    have hx' := mkL_get mkUse cUse k hx
    simp [-getElem?_pos, gcz, gcs, g0, g1, g5, hL, hx', hi, mkUse, e0, w0, e1, w1]
    refine ih _ ?_
    simp [-getElem?_pos, gcz, gcs, g0, g1, g5, hL, hx', hi, e0, w0, e1, w1, hp, hc, hw] <;> omega
  · rintro c' t ⟨g0, g1, g5⟩
    simp only [pre_all] at g1
    simp [g0, g1, g5, cnt]
noncomputable def c46 := ctrH mkUse cUse Use.v (fun xs k => 0 ≤ k ∧ k + cnt cUse xs ≤ 4611686018427387904 ∧ (xs.length ≤ 4611686018427387904))
theorem c46_eq (xs : List Use) (k : Int) (h0 : 0 ≤ k) (h1 : k + cnt cUse xs ≤ 4611686018427387904) (h2 : xs.length ≤ 4611686018427387904) : c46 [.lst ((mkL mkUse cUse k xs).map Use.v), .int .i64 k] = some (false, .int .i64 (k + cnt cUse xs)) := ctrH_eq cUse_mk Use.v_inj xs k ⟨h0, h1, h2⟩
theorem c46_ok : COK Tryz.prog (46, c46) := ctrH_ok cUse_mk fun xs k h => f46_ok xs k h.1 h.2.1 h.2.2
theorem f72_ok (xs : List Ty) (k : Int) (h0 : 0 ≤ k) (h1 : k + cnt cTy xs ≤ 4611686018427387904) (h2 : xs.length ≤ 4611686018427387904 ∧ ∀ x ∈ xs, x.fields.length ≤ 4611686018427387904) : FunOK Tryz.prog 72 [.lst ((mkL mkTy cTy k xs).map Ty.v), .int .i64 k] false (.int .i64 (k + cnt cTy xs)) := by
  refine fun_ok (mkE_ok zmix (cl := [(88, c88), (138, c138)]) (gl := []) [] ⟨c88_ok, c138_ok⟩ trivial) Tryz.func72 (by kernel_rfl) ?_
  refine FunW_run _ _ rfl rfl ?_
  have hlen := h2.1
  simp
  refine lp_list xs (fun i t => t.e 0 = .lst ((mkL mkTy cTy k xs).map Ty.v) ∧ t.e 1 = .int .i64 (k + pre cTy xs i) ∧ t.e 5 = .int .i64 i) ?_ ?_ ?_
  · simp [pre_zero]
  · rintro c' L hL i t x hx hi ih ⟨g0, g1, g5⟩
    have hw := wrI (i := i) (by omega)
    have hp := pre_succ cTy hx
    have hp2 := pre_le cTy xs (i + 1)
    have hc : cTy x = 5+cnt cFld x.fields := rfl
    have hcnt : (xs.map cTy).sum = cnt cTy xs := rfl
    have hlen3 : x.fields.length ≤ 4611686018427387904 := h2.2 x (List.mem_of_getElem? hx)
    have w0 : IntKind.i64.wrap (k + (pre cTy xs i : Nat) + 1) = k + (pre cTy xs i : Nat) + 1 := wrap64 (by omega) (by omega)
    have w1 : IntKind.i64.wrap (k + (pre cTy xs i : Nat) + 1 + 1) = k + (pre cTy xs i : Nat) + 1 + 1 := wrap64 (by omega) (by omega)
    have w2 : IntKind.i64.wrap (k + (pre cTy xs i : Nat) + 1 + 1 + 1) = k + (pre cTy xs i : Nat) + 1 + 1 + 1 := wrap64 (by omega) (by omega)
    have e3 := c138_eq x.fields (k + (pre cTy xs i : Nat) + 1 + 1 + 1) (by omega) (by omega) hlen3
    have n3 : ¬ k + (pre cTy xs i : Nat) + 1 + 1 + 1 + (cnt cFld x.fields : Nat) < 0 := by omega
    have e4 := c88_eq (k + (pre cTy xs i : Nat) + 1 + 1 + 1 + (cnt cFld x.fields : Nat)) (by omega)
    have w4 : IntKind.i64.wrap (k + (pre cTy xs i : Nat) + 1 + 1 + 1 + (cnt cFld x.fields : Nat) + 1) = k + (pre cTy xs i : Nat) + 1 + 1 + 1 + (cnt cFld x.fields : Nat) + 1 := wrap64 (by omega) (by omega)
    have e5 := c88_eq (k + (pre cTy xs i : Nat) + 1 + 1 + 1 + (cnt cFld x.fields : Nat) + 1) (by omega)
    have w5 : IntKind.i64.wrap (k + (pre cTy xs i : Nat) + 1 + 1 + 1 + (cnt cFld x.fields : Nat) + 1 + 1) = k + (pre cTy xs i : Nat) + 1 + 1 + 1 + (cnt cFld x.fields : Nat) + 1 + 1 := wrap64 (by omega) (by omega)
    have hx' := mkL_get mkTy cTy k hx
    simp [-getElem?_pos, gcz, gcs, g0, g1, g5, hL, hx', hi, mkTy, w0, w1, w2, e3, n3, e4, w4, e5, w5]
    refine ih _ ?_
    simp [-getElem?_pos, gcz, gcs, g0, g1, g5, hL, hx', hi, w0, w1, w2, e3, n3, e4, w4, e5, w5, hp, hc, hw] <;> omega
  · rintro c' t ⟨g0, g1, g5⟩
    simp only [pre_all] at g1
    simp [g0, g1, g5, cnt]
noncomputable def c72 := ctrH mkTy cTy Ty.v (fun xs k => 0 ≤ k ∧ k + cnt cTy xs ≤ 4611686018427387904 ∧ (xs.length ≤ 4611686018427387904 ∧ ∀ x ∈ xs, x.fields.length ≤ 4611686018427387904))
theorem c72_eq (xs : List Ty) (k : Int) (h0 : 0 ≤ k) (h1 : k + cnt cTy xs ≤ 4611686018427387904) (h2 : xs.length ≤ 4611686018427387904 ∧ ∀ x ∈ xs, x.fields.length ≤ 4611686018427387904) : c72 [.lst ((mkL mkTy cTy k xs).map Ty.v), .int .i64 k] = some (false, .int .i64 (k + cnt cTy xs)) := ctrH_eq cTy_mk Ty.v_inj xs k ⟨h0, h1, h2⟩
theorem c72_ok : COK Tryz.prog (72, c72) := ctrH_ok cTy_mk fun xs k h => f72_ok xs k h.1 h.2.1 h.2.2
theorem f73_ok (xs : List Obj) (k : Int) (h0 : 0 ≤ k) (h1 : k + cnt cObj xs ≤ 4611686018427387904) (h2 : xs.length ≤ 4611686018427387904 ∧ ∀ x ∈ xs, x.params.length ≤ 4611686018427387904) : FunOK Tryz.prog 73 [.lst ((mkL mkObj cObj k xs).map Obj.v), .int .i64 k] false (.int .i64 (k + cnt cObj xs)) := by
  refine fun_ok (mkE_ok zmix (cl := [(88, c88), (139, c139)]) (gl := []) [] ⟨c88_ok, c139_ok⟩ trivial) Tryz.func73 (by kernel_rfl) ?_
  refine FunW_run _ _ rfl rfl ?_
  have hlen := h2.1
  simp
  refine lp_list xs (fun i t => t.e 0 = .lst ((mkL mkObj cObj k xs).map Obj.v) ∧ t.e 1 = .int .i64 (k + pre cObj xs i) ∧ t.e 5 = .int .i64 i) ?_ ?_ ?_
  · simp [pre_zero]
  · rintro c' L hL i t x hx hi ih ⟨g0, g1, g5⟩
    have hw := wrI (i := i) (by omega)
    have hp := pre_succ cObj hx
    have hp2 := pre_le cObj xs (i + 1)
    have hc : cObj x = 5+cnt cPar x.params := rfl
    have hcnt : (xs.map cObj).sum = cnt cObj xs := rfl
    have hlen5 : x.params.length ≤ 4611686018427387904 := h2.2 x (List.mem_of_getElem? hx)
    have e0 := c88_eq (k + (pre cObj xs i : Nat)) (by omega)
    have w0 : IntKind.i64.wrap (k + (pre cObj xs i : Nat) + 1) = k + (pre cObj xs i : Nat) + 1 := wrap64 (by omega) (by omega)
    have w1 : IntKind.i64.wrap (k + (pre cObj xs i : Nat) + 1 + 1) = k + (pre cObj xs i : Nat) + 1 + 1 := wrap64 (by omega) (by omega)
    have w2 : IntKind.i64.wrap (k + (pre cObj xs i : Nat) + 1 + 1 + 1) = k + (pre cObj xs i : Nat) + 1 + 1 + 1 := wrap64 (by omega) (by omega)
    have w3 : IntKind.i64.wrap (k + (pre cObj xs i : Nat) + 1 + 1 + 1 + 1) = k + (pre cObj xs i : Nat) + 1 + 1 + 1 + 1 := wrap64 (by omega) (by omega)
    have w4 : IntKind.i64.wrap (k + (pre cObj xs i : Nat) + 1 + 1 + 1 + 1 + 1) = k + (pre cObj xs i : Nat) + 1 + 1 + 1 + 1 + 1 := wrap64 (by omega) (by omega)
    have e5 := c139_eq x.params (k + (pre cObj xs i : Nat) + 1 + 1 + 1 + 1 + 1) (by omega) (by omega) hlen5
    have n5 : ¬ k + (pre cObj xs i : Nat) + 1 + 1 + 1 + 1 + 1 + (cnt cPar x.params : Nat) < 0 := by omega
    have hx' := mkL_get mkObj cObj k hx
    simp [-getElem?_pos, gcz, gcs, g0, g1, g5, hL, hx', hi, mkObj, e0, w0, w1, w2, w3, w4, e5, n5]
    refine ih _ ?_
    simp [-getElem?_pos, gcz, gcs, g0, g1, g5, hL, hx', hi, e0, w0, w1, w2, w3, w4, e5, n5, hp, hc, hw] <;> omega
  · rintro c' t ⟨g0, g1, g5⟩
    simp only [pre_all] at g1
    simp [g0, g1, g5, cnt]
noncomputable def c73 := ctrH mkObj cObj Obj.v (fun xs k => 0 ≤ k ∧ k + cnt cObj xs ≤ 4611686018427387904 ∧ (xs.length ≤ 4611686018427387904 ∧ ∀ x ∈ xs, x.params.length ≤ 4611686018427387904))
theorem c73_eq (xs : List Obj) (k : Int) (h0 : 0 ≤ k) (h1 : k + cnt cObj xs ≤ 4611686018427387904) (h2 : xs.length ≤ 4611686018427387904 ∧ ∀ x ∈ xs, x.params.length ≤ 4611686018427387904) : c73 [.lst ((mkL mkObj cObj k xs).map Obj.v), .int .i64 k] = some (false, .int .i64 (k + cnt cObj xs)) := ctrH_eq cObj_mk Obj.v_inj xs k ⟨h0, h1, h2⟩
theorem c73_ok : COK Tryz.prog (73, c73) := ctrH_ok cObj_mk fun xs k h => f73_ok xs k h.1 h.2.1 h.2.2
end Go.TM.Tryz
end
section
set_option maxHeartbeats 8000000
set_option maxRecDepth 20000
namespace Go.TM.Tryz
open Go Go.TM Go.Proofs
theorem cScs_mk (k : Int) (x : Scp) : cScs (mkScs k x) = cScs x := by
  simp only [cScs, mkScs, cnt_mk cStr_mk, cnt_mk cTy_mk, cnt_mk cObj_mk, cnt_mk cUse_mk]
end Go.TM.Tryz
end
section
set_option maxHeartbeats 8000000
set_option maxRecDepth 20000
namespace Go.TM.Tryz
open Go Go.TM Go.Proofs
theorem injD {β : Type} (out : List Mdl × Nat × Nat → β) : ∀ a b : List Mdl × Nat × Nat, (([V.inl 6 (a.1.map Mdl.o), .int .i64 (a.2.1 : Nat), .int .i64 (a.2.2 : Nat)], []) : List V × List V) = ([V.inl 6 (b.1.map Mdl.o), .int .i64 (b.2.1 : Nat), .int .i64 (b.2.2 : Nat)], []) → out a = out b := by
  rintro ⟨a, i, j⟩ ⟨b, k, l⟩ h
  simp only [Prod.mk.injEq, List.cons.injEq, and_true, V.inl.injEq, V.int.injEq, true_and] at h
  have h1 : i = k := by omega
  have h2 : j = l := by omega
  rw [map_inj Mdl.o_inj h.1, h1, h2]
noncomputable def c92 := ctrG (fun a : List Mdl × Nat × Nat => a.2.1 < a.2.2 ∧ a.2.2 ≤ a.1.length ∧ a.1.length ≤ 1048576) (fun a => ([.inl 6 (a.1.map Mdl.o), .int .i64 (a.2.1 : Nat), .int .i64 (a.2.2 : Nat)], [])) (fun a => ⟨true, .inl 6 ((a.1.take a.2.1 ++ a.1.drop a.2.2).map Mdl.o), [.bad], []⟩)
theorem c92_eq (zs : List Mdl) (i j : Nat) (hij : i < j) (hj : j ≤ zs.length) (hlen : zs.length ≤ 1048576) : c92 [.inl 6 (zs.map Mdl.o), .int .i64 i, .int .i64 j] [] = some ⟨true, .inl 6 ((zs.take i ++ zs.drop j).map Mdl.o), [.bad], []⟩ := ctrG_eq (injD _) (zs, i, j) ⟨hij, hj, hlen⟩ rfl
theorem c92_ok : GOK Tryz.prog (92, [true, false, false], c92) := ctrG_ok fun a h => f92_ok a.1 a.2.1 a.2.2 h.1 h.2.1 h.2.2
theorem f31_ok (xs : List Mdl) (n : ByteArray) (h : StOK xs) : FunOK Tryz.prog 31 [.lst (xs.map Mdl.v), .str n] false (dropO xs n) := by
  refine fun_ok (mkE_ok zmix (cl := [(84, c84), (85, c85), (91, c91), (86, c86)]) (gl := [(92, [true, false, false], c92)]) [] ⟨c84_ok, c85_ok, c91_ok, c86_ok⟩ c92_ok) Tryz.func31 (by kernel_rfl) ?_
  refine FunW_run _ _ rfl rfl ?_
  have e84 := c84_eq xs h
  cases hg : goodB xs with
  | false =>
    rw [hg] at e84
    simp [e84, dropO, dropL, whyB, hg]
  | true =>
    rw [hg] at e84
    have e85 := c85_eq xs h.len
    have e91 : c91 [.lst ((mdsL xs).map Scp.v), .str n] = some (false, .int .i64 (kAt xs n)) := c91_eq (mdsL xs) n (mdsL_lim h.lim).1
    have e86 := c86_eq xs h.len
    by_cases hk : kAt xs n < 0
    · simp [e84, e85, e91, dropO, dropL, whyB, hg, hk]
    · obtain ⟨x, hx, k0, k1⟩ := kAt_get hk
      obtain ⟨k, hkk⟩ : ∃ k : Nat, kAt xs n = k := ⟨(kAt xs n).toNat, by omega⟩
      have hd : dropL xs n = xs.take k ++ xs.drop (k + 1) := by simp [dropL, whyB, hg, hk, hkk]
      simp only [dropO, hd, whyB, hg, hk]
      rw [hkk] at e91 hk k1
      have hlen := h.len.len
      have hwr : IntKind.i64.wrap ((k : Int) + 1) = (k : Int) + 1 := wrap64 (by omega) (by omega)
      have e92 : c92 [.inl 6 (xs.map Mdl.o), .int .i64 k, .int .i64 ((k : Int) + 1)] [] = some ⟨true, .inl 6 ((xs.take k ++ xs.drop (k + 1)).map Mdl.o), [.bad], []⟩ := c92_eq xs k (k + 1) (by omega) (by omega) hlen
      simp [e84, e85, e91, e86, hk, hwr, e92]
      have hnl := noLs_mdlo (xs.take k ++ xs.drop (k + 1))
      rw [List.map_append, List.map_take, List.map_drop] at hnl
      exact hnl
end Go.TM.Tryz
end
section
set_option maxHeartbeats 2000000
namespace Go.TM.Tryz
open Go Go.TM Go.Proofs
theorem f39_ok (xs : List Knw) (k : Int) (h0 : 0 ≤ k) (h1 : k + cnt cKnw xs ≤ 4611686018427387904) (h2 : xs.length ≤ 4611686018427387904) : FunOK Tryz.prog 39 [.lst ((mkL mkKnw cKnw k xs).map Knw.v), .int .i64 k] false (.int .i64 (k + cnt cKnw xs)) := by
  refine fun_ok (mkE_ok zmix (cl := [(88, c88)]) (gl := []) [] c88_ok trivial) Tryz.func39 (by kernel_rfl) ?_
  refine FunW_run _ _ rfl rfl ?_
  have hlen := h2
  simp
  refine lp_list xs (fun i t => t.e 0 = .lst ((mkL mkKnw cKnw k xs).map Knw.v) ∧ t.e 1 = .int .i64 (k + pre cKnw xs i) ∧ t.e 5 = .int .i64 i) ?_ ?_ ?_
  · simp [pre_zero]
  · rintro c' L hL i t x hx hi ih ⟨g0, g1, g5⟩
    have hw := wrI (i := i) (by omega)
    have hp := pre_succ cKnw hx
    have hp2 := pre_le cKnw xs (i + 1)
    have hc : cKnw x = 3 := rfl
    have hcnt : (xs.map cKnw).sum = cnt cKnw xs := rfl
    have e0 := c88_eq (k + (pre cKnw xs i : Nat)) (by omega)
    have w0 : IntKind.i64.wrap (k + (pre cKnw xs i : Nat) + 1) = k + (pre cKnw xs i : Nat) + 1 := wrap64 (by omega) (by omega)
    have e1 := c88_eq (k + (pre cKnw xs i : Nat) + 1) (by omega)
    have w1 : IntKind.i64.wrap (k + (pre cKnw xs i : Nat) + 1 + 1) = k + (pre cKnw xs i : Nat) + 1 + 1 := wrap64 (by omega) (by omega)
    have w2 : IntKind.i64.wrap (k + (pre cKnw xs i : Nat) + 1 + 1 + 1) = k + (pre cKnw xs i : Nat) + 1 + 1 + 1 := wrap64 (by omega) (by omega)
    have hx' := mkL_get mkKnw cKnw k hx
    simp [-getElem?_pos, gcz, gcs, g0, g1, g5, hL, hx', hi, mkKnw, e0, w0, e1, w1, w2]
    refine ih _ ?_
    simp [-getElem?_pos, gcz, gcs, g0, g1, g5, hL, hx', hi, e0, w0, e1, w1, w2, hp, hc, hw] <;> omega
  · rintro c' t ⟨g0, g1, g5⟩
    simp only [pre_all] at g1
    simp [g0, g1, g5, cnt]
noncomputable def c39 := ctrH mkKnw cKnw Knw.v (fun xs k => 0 ≤ k ∧ k + cnt cKnw xs ≤ 4611686018427387904 ∧ (xs.length ≤ 4611686018427387904))
theorem c39_eq (xs : List Knw) (k : Int) (h0 : 0 ≤ k) (h1 : k + cnt cKnw xs ≤ 4611686018427387904) (h2 : xs.length ≤ 4611686018427387904) : c39 [.lst ((mkL mkKnw cKnw k xs).map Knw.v), .int .i64 k] = some (false, .int .i64 (k + cnt cKnw xs)) := ctrH_eq (mk := mkKnw) (c := cKnw) (fun _ _ => rfl) Knw.v_inj xs k ⟨h0, h1, h2⟩
theorem c39_ok : COK Tryz.prog (39, c39) := ctrH_ok (mk := mkKnw) (c := cKnw) (fun _ _ => rfl) fun xs k h => f39_ok xs k h.1 h.2.1 h.2.2
end Go.TM.Tryz
end
section
set_option maxHeartbeats 8000000
set_option maxRecDepth 20000
namespace Go.TM.Tryz
open Go Go.TM Go.Proofs
theorem cKnw_mk (k : Int) (x : Knw) : cKnw (mkKnw k x) = cKnw x := rfl
theorem cMds_mk (k : Int) (x : Mdl) : cMds (mkMds k x) = cMds x := by
  simp only [cMds, mkMds, cScs_mk, cnt_mk cKnw_mk]
theorem f32_ok (xs : List Mdl) (k : Int) (h0 : 0 ≤ k) (h1 : k + cnt cMds xs ≤ 4611686018427387904) (h2 : xs.length ≤ 4611686018427387904 ∧ ∀ x ∈ xs, MdlLen x) : FunOK Tryz.prog 32 [.lst ((mkL mkMds cMds k xs).map Mdl.v), .int .i64 k] false (.int .i64 (k + cnt cMds xs)) := by
  refine fun_ok (mkE_ok zmix (cl := [(88, c88), (51, c51), (72, c72), (73, c73), (46, c46), (39, c39)]) (gl := []) [] ⟨c88_ok, c51_ok, c72_ok, c73_ok, c46_ok, c39_ok⟩ trivial) Tryz.func32 (by kernel_rfl) ?_
  refine FunW_run _ _ rfl rfl ?_
  have hlen := h2.1
  simp
  refine lp_list xs (fun i t => t.e 0 = .lst ((mkL mkMds cMds k xs).map Mdl.v) ∧ t.e 1 = .int .i64 (k + pre cMds xs i) ∧ t.e 5 = .int .i64 i) ?_ ?_ ?_
  · simp [pre_zero]
  · rintro c' L hL i t x hx hi ih ⟨g0, g1, g5⟩
    have hw := wrI (i := i) (by omega)
    have hp := pre_succ cMds hx
    have hp2 := pre_le cMds xs (i + 1)
    have hc : cMds x = 1 + cnt cStr x.scope.imports + cnt cTy x.scope.types + cnt cObj x.scope.objects + cnt cUse x.scope.uses + cnt cKnw x.seen := rfl
    have hcnt : (xs.map cMds).sum = cnt cMds xs := rfl
    obtain ⟨⟨n1, n2, n3, n4⟩, n5⟩ := h2.2 x (List.mem_of_getElem? hx)
    have e0 := c88_eq (k + (pre cMds xs i : Nat)) (by omega)
    have w0 : IntKind.i64.wrap (k + (pre cMds xs i : Nat) + 1) = k + (pre cMds xs i : Nat) + 1 := wrap64 (by omega) (by omega)
    have e1 := c51_eq x.scope.imports (k + (pre cMds xs i : Nat) + 1) (by omega) (by omega) n1
    have m1 : ¬ k + (pre cMds xs i : Nat) + 1 + (cnt cStr x.scope.imports : Nat) < 0 := by omega
    have e2 := c72_eq x.scope.types (k + (pre cMds xs i : Nat) + 1 + (cnt cStr x.scope.imports : Nat)) (by omega) (by omega) n2
    have m2 : ¬ k + (pre cMds xs i : Nat) + 1 + (cnt cStr x.scope.imports : Nat) + (cnt cTy x.scope.types : Nat) < 0 := by omega
    have e3 := c73_eq x.scope.objects (k + (pre cMds xs i : Nat) + 1 + (cnt cStr x.scope.imports : Nat) + (cnt cTy x.scope.types : Nat)) (by omega) (by omega) n3
    have m3 : ¬ k + (pre cMds xs i : Nat) + 1 + (cnt cStr x.scope.imports : Nat) + (cnt cTy x.scope.types : Nat) + (cnt cObj x.scope.objects : Nat) < 0 := by omega
    have e4 := c46_eq x.scope.uses (k + (pre cMds xs i : Nat) + 1 + (cnt cStr x.scope.imports : Nat) + (cnt cTy x.scope.types : Nat) + (cnt cObj x.scope.objects : Nat)) (by omega) (by omega) n4
    have m4 : ¬ k + (pre cMds xs i : Nat) + 1 + (cnt cStr x.scope.imports : Nat) + (cnt cTy x.scope.types : Nat) + (cnt cObj x.scope.objects : Nat) + (cnt cUse x.scope.uses : Nat) < 0 := by omega
    have e5 := c39_eq x.seen (k + (pre cMds xs i : Nat) + 1 + (cnt cStr x.scope.imports : Nat) + (cnt cTy x.scope.types : Nat) + (cnt cObj x.scope.objects : Nat) + (cnt cUse x.scope.uses : Nat)) (by omega) (by omega) n5
    have m5 : ¬ k + (pre cMds xs i : Nat) + 1 + (cnt cStr x.scope.imports : Nat) + (cnt cTy x.scope.types : Nat) + (cnt cObj x.scope.objects : Nat) + (cnt cUse x.scope.uses : Nat) + (cnt cKnw x.seen : Nat) < 0 := by omega
    have hx' := mkL_get mkMds cMds k hx
    simp [-getElem?_pos, gcz, gcs, g0, g1, g5, hL, hx', hi, mkMds, mkScs, e0, w0, e1, m1, e2, m2, e3, m3, e4, m4, e5, m5]
    refine ih _ ?_
    simp [-getElem?_pos, gcz, gcs, g0, g1, g5, hL, hx', hi, mkMds, mkScs, e0, w0, e1, m1, e2, m2, e3, m3, e4, m4, e5, m5, hp, hc, hw] <;> omega
  · rintro c' t ⟨g0, g1, g5⟩
    simp only [pre_all] at g1
    simp [g0, g1, g5, cnt]
noncomputable def c32 := ctrH mkMds cMds Mdl.v (fun xs k => 0 ≤ k ∧ k + cnt cMds xs ≤ 4611686018427387904 ∧ (xs.length ≤ 4611686018427387904 ∧ ∀ x ∈ xs, MdlLen x))
theorem c32_eq (xs : List Mdl) (k : Int) (h0 : 0 ≤ k) (h1 : k + cnt cMds xs ≤ 4611686018427387904) (h2 : xs.length ≤ 4611686018427387904 ∧ ∀ x ∈ xs, MdlLen x) : c32 [.lst ((mkL mkMds cMds k xs).map Mdl.v), .int .i64 k] = some (false, .int .i64 (k + cnt cMds xs)) := ctrH_eq cMds_mk Mdl.v_inj xs k ⟨h0, h1, h2⟩
theorem c32_ok : COK Tryz.prog (32, c32) := ctrH_ok cMds_mk fun xs k h => f32_ok xs k h.1 h.2.1 h.2.2
end Go.TM.Tryz
end
section
set_option maxHeartbeats 8000000
set_option maxRecDepth 20000
namespace Go.TM.Tryz
open Go Go.TM Go.Proofs
theorem dropL_mem {xs : List Mdl} {n : ByteArray} {x : Mdl} (h : x ∈ dropL xs n) : x ∈ xs := by
  unfold dropL at h
  split at h
  · rcases List.mem_append.1 h with h | h
    · exact List.mem_of_mem_take h
    · exact List.mem_of_mem_drop h
  · cases h
theorem cnt_take_drop {α : Type} (c : α → Nat) (xs : List α) (k : Nat) : cnt c (xs.take k ++ xs.drop (k + 1)) ≤ cnt c xs := by
  have e : cnt c (xs.take k ++ xs.drop k) = cnt c (xs.take k) + cnt c (xs.drop k) := by simp only [cnt, List.map_append, List.sum_append]
  rw [List.take_append_drop] at e
  have e2 : cnt c (xs.drop (k + 1)) ≤ cnt c (xs.drop k) := by
    cases hd : xs.drop k with
    | nil =>
      have : xs.drop (k + 1) = [] := by rw [← List.drop_drop, hd]; rfl
      simp [this, cnt]
    | cons y ys =>
      have : xs.drop (k + 1) = ys := by rw [← List.drop_drop, hd]; rfl
      simp [this, cnt]
  have e3 : cnt c (xs.take k ++ xs.drop (k + 1)) = cnt c (xs.take k) + cnt c (xs.drop (k + 1)) := by simp only [cnt, List.map_append, List.sum_append]
  omega
theorem dropL_cnt (xs : List Mdl) (n : ByteArray) : cnt cMds (dropL xs n) ≤ cnt cMds xs := by
  unfold dropL
  split
  · exact cnt_take_drop _ _ _
  · simp [cnt]
theorem dropL_len (xs : List Mdl) (n : ByteArray) : (dropL xs n).length ≤ xs.length := by
  unfold dropL
  split
  · simp
    omega
  · simp
noncomputable def c30 := ctr (fun a : List Mdl × ByteArray => StOK a.1) (fun a => [.lst (a.1.map Mdl.v), .str a.2]) (fun a => (false, dropO a.1 a.2))
theorem c30_eq (xs : List Mdl) (n : ByteArray) (h : StOK xs) : c30 [.lst (xs.map Mdl.v), .str n] = some (false, dropO xs n) := ctr_eq (injMn _) (xs, n) h rfl
theorem c30_ok : COK Tryz.prog (30, c30) := ctr_ok fun a h => f30_ok a.1 a.2 h
noncomputable def c31 := ctr (fun a : List Mdl × ByteArray => StOK a.1) (fun a => [.lst (a.1.map Mdl.v), .str a.2]) (fun a => (false, dropO a.1 a.2))
theorem c31_eq (xs : List Mdl) (n : ByteArray) (h : StOK xs) : c31 [.lst (xs.map Mdl.v), .str n] = some (false, dropO xs n) := ctr_eq (injMn _) (xs, n) h rfl
theorem c31_ok : COK Tryz.prog (31, c31) := ctr_ok fun a h => f31_ok a.1 a.2 h
theorem f6_ok (xs : List Mdl) (n : ByteArray) (hl : limL Mdl.lim xs) (hn : strLim n) : FunOK Tryz.prog 6 [.lst (xs.map Mdl.v), .str n] false (.bool true) := by
  refine fun_ok (mkE_ok zmix (cl := [(21, c21), (23, c23), (30, c30), (31, c31), (26, c26), (32, c32)]) (gl := [(27, [true], c27)]) [] ⟨c21_ok, c23_ok, c30_ok, c31_ok, c26_ok, c32_ok⟩ c27_ok) Tryz.func6 (by kernel_rfl) ?_
  refine FunW_run _ _ rfl rfl ?_
  by_cases hn1 : (1048576 : Int) < (n.size : Nat)
  · simp [hn1]
  have e21 := c21_eq xs 1048576 hl (by omega) (by omega)
  by_cases hz : ¬ (szL Mdl.sz xs : Int) ≤ 1048576
  · rw [szR_lt (by omega)] at e21
    simp [hn1, e21]
  have hz : szL Mdl.sz xs ≤ 1048576 := by omega
  rw [szR_ge (by omega)] at e21
  have h0' : ¬ (1048576 : Int) < (szL Mdl.sz xs : Nat) := by omega
  have hst : StOK xs := ⟨hl, mdsLen_of hz⟩
  have e23 := c23_eq xs hz
  have e30 := c30_eq xs n hst
  have e31 := c31_eq xs n hst
  have e26 := c26_eq xs hl
  simp only [dropO] at e30 e31
  have hRl := dropL_len xs n
  have hR : limL Mdl.lim (dropL xs n) := ⟨Nat.le_trans hRl hl.1, fun x hx => hl.2 x (dropL_mem hx)⟩
  have e26' := c26_eq _ hR
  have hsl := szL_len Mdl.sz xs
  have hcl := cnt_le (c := cMds) (f := Mdl.sz) cMds_le xs
  have hml : ∀ x ∈ xs, MdlLen x := fun x hx => mdlLen_of (by have := szL_mem (f := Mdl.sz) hx; omega)
  have e27 := c27_eq xs 1 (by omega) (by omega) ⟨by omega, hml⟩
  have hcs := dropL_cnt xs n
  have hsc : ∀ x ∈ dropL xs n, MdlLen x := fun x hx => hml x (dropL_mem hx)
  generalize dropL xs n = names at *
  generalize whyB xs n = good at *
  have e27' := c27_eq names 1 (by omega) (by omega) ⟨by omega, hsc⟩
  have e32 := c32_eq names 1 (by omega) (by omega) ⟨by omega, hsc⟩
  simp [hn1, e21, h0', e23, e30, e31, e26, e26', e27, e27', e32]
  omega
end Go.TM.Tryz
end
section
namespace Go.TM
open Go Go.RowKit
def mem1 (W : World) : Mem := ⟨Old W, fun _ => none, fun _ => 0, fun _ => undef, fun _ _ _ => undef, 0, 0⟩
theorem mem1_ok {W : World} {args : List V} (h : adCs args S.zero = (args, S.zero)) : MemOK (mem1 W) W (start args []) := by
  have hR : (start args []).R = fun _ => none := by simp only [start, h]; rfl
  have hB : (start args []).B = fun _ => none := by
    funext x
    simp [start, h, adCs]
  refine ⟨by simp only [start, h]; rfl, by simp only [start, h]; rfl, fun b c hb => ?_, fun t r hr => ?_, fun b hb => ⟨rfl, hb⟩, fun b l hl => (by cases hl), fun b t hl => (by cases hl), fun b k hl => (by cases hl)⟩
  · rw [hB] at hb; cases hb
  · rw [hR] at hr; cases hr
theorem close_bool {M : Mem} {W : World} {s : S} {k : Nat} {sv : V} {v : Value} {b : Bool} (hr : SR2 M W sv v) (hc : closeR s k sv = .bool b) : v = .bool b := by
  cases sv with
  | bool c =>
    simp [closeR, closeB, onL1, closeL] at hc
    subst hc
    exact hr
  | tup xs => simp [closeR] at hc
  | agg xs => simp [closeR, closeB, onL1] at hc
  | ptr b' o =>
    cases o with
    | zero =>
      simp only [closeR, closeB] at hc
      split at hc
      · split at hc <;> cases hc
      · cases hc
    | succ o => simp [closeR, closeB, onL1, closeL] at hc
  | own t =>
    simp only [closeR, closeB, onL1, closeL] at hc
    split at hc <;> cases hc
  | fn f caps => cases caps <;> simp [closeR, closeB, onL1, closeL] at hc
  | _ => simp [closeR, closeB, onL1, closeL] at hc
theorem run_true {P : Program} {f : FuncId} {args : List V} (h : FunOK P f args false (.bool true)) (hs : adCs args S.zero = (args, S.zero)) {W : World} {vs : List Value} (hv : All2 (SR1 (mem1 W) W) args vs) :
    Calls P f vs.toArray W fun e W' => e = .returned (.bool true) ∧ Below W.heap.size W W' := by
  refine (h.calls (mem1 W) W vs (mem1_ok hs) (by rw [hs]; exact hv)).mono ?_
  rintro e W' ⟨v, M', s', sv, rfl, hp⟩
  rw [close_bool hp.rel hp.res]
  exact ⟨rfl, hp.evo.os, hp.evo.tape, hp.evo.output, hp.evo.size, fun k hk => hp.evo.old k hk rfl⟩
end Go.TM
end
