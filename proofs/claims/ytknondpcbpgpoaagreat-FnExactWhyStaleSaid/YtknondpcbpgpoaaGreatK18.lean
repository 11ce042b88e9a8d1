/- A part of the proof: XD, XE, XF, XG, S2, ZLayG, XH, XI, XJ, XM. -/
import Derived.Test.YtknondpcbpgpoaaGreatK17
import Derived.Shelf.SlSortCmp.NoneTotal
import Derived.Shelf.SlLaysF0
import Derived.Test.YtknondpcbpgpoaaGreatProg
import Derived.Lib.Small
import Derived.Lib.Walk
set_option linter.unusedVariables false
set_option linter.unusedSimpArgs false
section
set_option maxHeartbeats 4000000
set_option maxRecDepth 10000
namespace Go.TM.Tryz
open Go Go.TM Go.Proofs
def cut5 : Pl := ⟨[0], [(1, false), (2, false), (3, false), (4, false), (5, false), (6, false), (8, false), (9, false), (11, false), (12, false), (13, false), (7, true), (10, true)], [], [14, 15, 16, 17, 18], .seq [14, 15, 16, 17, 18]⟩
def cut20 : Pl := ⟨[0, 6], [(1, false), (2, false), (4, false), (5, false), (7, false), (8, false), (9, false), (10, false), (3, true)], [], [11, 12, 13], .seq [11, 12, 13]⟩
theorem cut5_run {E : Env} (pl : Option (List (Nat × Bool))) (ops : Array Oper) (k : List Fr) (Q : X → S → Prop) (s : S) : aftE (some cut5) pl ops k E Q s = preK E ops k Q (.seq [14, 15, 16, 17, 18]) [(0, false), (1, false), (2, false), (3, false), (4, false), (5, false), (6, false), (8, false), (9, false), (11, false), (12, false), (13, false), (7, true), (10, true)] s := rfl
theorem cut20_run {E : Env} (pl : Option (List (Nat × Bool))) (ops : Array Oper) (k : List Fr) (Q : X → S → Prop) (s : S) : aftE (some cut20) pl ops k E Q s = preK E ops k Q (.seq [11, 12, 13]) [(0, false), (6, false), (1, false), (2, false), (4, false), (5, false), (7, false), (8, false), (9, false), (10, false), (3, true)] s := rfl
theorem range5 : List.range 5 = [0, 1, 2, 3, 4] := rfl
theorem range3 : List.range 3 = [0, 1, 2] := rfl
theorem range2 : List.range 2 = [0, 1] := rfl
theorem range1 : List.range 1 = [0] := rfl
theorem roomI {n : Nat} (h : n ≤ 1048576) : room ⟨1, false, 8, .int .i64 0⟩ n := by simp [room]; omega
theorem f257_ok (ts : List Ty) (ht : TRef ts) : FunOK Tryz.prog 257 [.lst (ts.map Ty.v), .int .i64 25] false (.inl 1 ((roundsT ts 25).map (V.int .i64))) := by
  refine fun_ok (mkE2_ok zmix (cl := [(276, c276), (277, c277)]) (gl := []) [] [(5, cut5), (20, cut20)] ⟨c276_ok, c277_ok⟩ trivial) Tryz.func257 (by kernel_rfl) ?_
  refine FunW_run _ _ rfl rfl ?_
  have hlen := ht.len
  simp
  refine lp_list ts (fun i t => t.e 0 = .lst (ts.map Ty.v) ∧ t.e 1 = .int .i64 25 ∧ t.e 16 = .lst (ts.map Ty.v) ∧ t.e 17 = .int .i64 ts.length ∧ t.e 18 = .int .i64 i ∧ hasR t (t.e 5) 1 (((ts.map firstT).take i).map (V.int .i64))) ?_ ?_ ?_
  · simp
  · rintro c' L hL i t x hx hi ih ⟨h0, h1, h16, h17, h18, r, h5, hlt, hR⟩
    have hw := wrI (i := i) (by omega)
    have hxr := ht.ty x (List.mem_of_getElem? hx)
    have e1 := c277_eq x.owner (by have := hxr.owner; omega)
    have e2 := c277_eq x.name (by have := hxr.name; omega)
    have e3 := c276_eq (firstOf x) (by simp [firstOf, lim])
    simp only [firstOf, List.map_cons, List.map_nil] at e3
    have hne : ¬ r = t.nt := by omega
    have hne1 : ¬ r = t.nt + 1 := by omega
    have hne2 : ¬ r = t.nt + 1 + 1 := by omega
    have hmin : min i ts.length = i := by omega
    have r1 := roomI (n := 1) (by omega)
    have r2 := roomI (n := i + 1) (by omega)
    simp [-getElem?_pos, gcz, gcs, -aftE_some, cut5_run, pureOp, h0, h1, h16, h17, h18, h5, hR, hL, hi, hx, e1, e2, e3, hne, hne1, hne2, hmin, r1, r2, range5]
    refine ih _ ?_
    simp [h0, h1, h16, h17, h18, hw, List.take_add_one, hx, firstT, firstOf]
  · rintro c' t ⟨h0, h1, h16, h17, h18, r, h5, hlt, hR⟩
    have hR' : t.R r = some ⟨1, (ts.map firstT).map (V.int .i64), true⟩ := by
      rw [hR, List.take_of_length_le (by simp)]
    clear hR
    simp [h0, h1, h16, h17, h18, h5, hR']
    clear h16 h17 h18
    refine lp_list (List.replicate 25 ()) (fun k t => t.e 0 = .lst (ts.map Ty.v) ∧ t.e 42 = .int .i64 25 ∧ t.e 43 = .int .i64 k ∧ (∃ r q, t.e 5 = .own r ∧ t.e 8 = .own q ∧ r < t.nt ∧ q < t.nt ∧ t.R r = some ⟨1, (ts.map firstT).map (V.int .i64), true⟩ ∧ t.R q = some ⟨1, (roundsT ts k).map (V.int .i64), true⟩)) ?_ ?_ ?_
    · simp [h0, h1, h5, hR', hlt, roundsT]
    · rintro c2 L hL k t _ hk hk' ih ⟨h0, h42, h43, r, q, h5, h8, hr, hq, hR, hQ⟩
      simp at hk'
      have hw := wrI (i := k) (by omega)
      have hk2 : (k : Int) < 25 := by omega
      simp [-getElem?_pos, h0, h42, h43, h5, h8, hR, hQ, hL, hk2]
      clear hk
      have hcl := roundsT_len ts k
      have hnx : roundsT ts (k + 1) = nextL ts (ts.map firstT) (roundsT ts k) := rfl
      generalize roundsT ts k = cur at *
      generalize hfi : ts.map firstT = fi at *
      have hfl : fi.length = ts.length := by rw [← hfi]; simp
      refine lp_list ts (fun i t => t.e 0 = .lst (ts.map Ty.v) ∧ t.e 42 = .int .i64 25 ∧ t.e 43 = .int .i64 k ∧ t.e 46 = .lst (ts.map Ty.v) ∧ t.e 47 = .int .i64 ts.length ∧ t.e 48 = .int .i64 i ∧
        (∃ r q p, t.e 5 = .own r ∧ t.e 8 = .own q ∧ t.e 9 = .own p ∧ r < t.nt ∧ q < t.nt ∧ p < t.nt ∧ r ≠ p ∧ q ≠ p ∧ t.R r = some ⟨1, fi.map (V.int .i64), true⟩ ∧ t.R q = some ⟨1, cur.map (V.int .i64), true⟩ ∧ t.R p = some ⟨1, ((nextL ts fi cur).take i).map (V.int .i64), true⟩)) ?_ ?_ ?_
      · have n1 : ¬ r = t.nt := by omega
        have n2 : ¬ q = t.nt := by omega
        simp [h0, h42, h43, h5, h8, hR, hQ, n1, n2]
        omega
      · rintro c3 L3 hL3 i t x hx hi ih2 ⟨h0, h42, h43, h46, h47, h48, r, q, p, h5, h8, h9, hr, hq, hp, nrp, nqp, hR, hQ, hP⟩
        have hwi : IntKind.i64.wrap ((i : Int) + 1) = ((i + 1 : Nat) : Int) := wrap64 (by omega) (by omega)
        have hxr := ht.ty x (List.mem_of_getElem? hx)
        have hif : i < fi.length := by omega
        have hfx := List.getElem?_eq_getElem hif
        have n1 : ¬ r = t.nt := by omega
        have n2 : ¬ q = t.nt := by omega
        have n3 : ¬ p = t.nt := by omega
        have m1 : ¬ r = t.nt + 1 := by omega
        have m2 : ¬ q = t.nt + 1 := by omega
        have m3 : ¬ p = t.nt + 1 := by omega
        have hhd : ∃ v, headOf fi cur i x = [fi[i], v] ∧ (0 ≤ x.base → ∃ n : Nat, x.base = n ∧ n < cur.length ∧ cur[n]? = some v) ∧ (¬ 0 ≤ x.base → v = 7) := by
          refine ⟨_, by rw [headOf, List.getD_eq_getElem?_getD, hfx, Option.getD_some], fun hb => ?_, fun hb => by rw [if_neg hb]⟩
          have h1 := hxr.base
          refine ⟨x.base.toNat, by omega, by omega, ?_⟩
          rw [if_pos hb, List.getD_eq_getElem?_getD, List.getElem?_eq_getElem (by omega), Option.getD_some]
        obtain ⟨v, hhd, hb1, hb2⟩ := hhd
        have hnt : (nextL ts fi cur)[i]? = some (nextT fi cur i x) := by simp [nextL, hx]
        have hq : q < t.nt := hq
        rcases Decidable.em (0 ≤ x.base) with hb | hb
        case' inl =>
          obtain ⟨n, hn, hnl, hv⟩ := hb1 hb
          have hn0 : (n : Int) < cur.length := by omega
          simp [-getElem?_pos, gcz, gcs, h0, h42, h43, h46, h47, h48, h5, h8, h9, hR, hQ, hP, hL3, hi, hx, hif, hfx, n1, n2, n3, m1, m2, m3, range2, hn, hnl, hn0, hv]
        case' inr =>
          have hv := hb2 hb
          simp [-getElem?_pos, gcz, gcs, h0, h42, h43, h46, h47, h48, h5, h8, h9, hR, hQ, hP, hL3, hi, hx, hif, hfx, n1, n2, n3, m1, m2, m3, range2, hb]
        all_goals
          refine lp_list x.fields (fun j t => t.e 0 = .lst (ts.map Ty.v) ∧ t.e 42 = .int .i64 25 ∧ t.e 43 = .int .i64 k ∧ t.e 46 = .lst (ts.map Ty.v) ∧ t.e 47 = .int .i64 ts.length ∧ t.e 48 = .int .i64 i ∧
            t.e 69 = .lst (x.fields.map Fld.v) ∧ t.e 70 = .int .i64 x.fields.length ∧ t.e 71 = .int .i64 j ∧
            (∃ r q p l, t.e 5 = .own r ∧ t.e 8 = .own q ∧ t.e 9 = .own p ∧ t.e 12 = .own l ∧ r < t.nt ∧ q < t.nt ∧ p < t.nt ∧ l < t.nt ∧ r ≠ p ∧ q ≠ p ∧ r ≠ l ∧ q ≠ l ∧ p ≠ l ∧ t.R r = some ⟨1, fi.map (V.int .i64), true⟩ ∧ t.R q = some ⟨1, cur.map (V.int .i64), true⟩ ∧ t.R p = some ⟨1, ((nextL ts fi cur).take i).map (V.int .i64), true⟩ ∧
              t.R l = some ⟨1, (accL fi cur i x j).map (V.int .i64), true⟩)) ?_ ?_ ?_
          · simp [h0, h42, h43, h46, h47, h48, h5, h8, h9, hR, hQ, hP, n1, n2, n3, m1, m2, m3, accL_zero, hhd, hv, nrp, nqp]
            omega
          · clear hb hv hb1 hb2 hhd n1 n2 n3 m1 m2 m3 h0 h42 h43 h46 h47 h48 h5 h8 h9 hR hQ hP hr hq hp nrp nqp
            rintro c4 L4 hL4 j t f hf hj ih3 ⟨h0, h42, h43, h46, h47, h48, h69, h70, h71, r, q, p, l, h5, h8, h9, h12, hr, hq, hp, hl, nrp, nqp, nrl, nql, npl, hR, hQ, hP, hLr⟩
            have hflen := hxr.flds
            have hwj : IntKind.i64.wrap ((j : Int) + 1) = ((j + 1 : Nat) : Int) := wrap64 (by omega) (by omega)
            obtain ⟨⟨f1, f2⟩, f3⟩ := hxr.fld f (List.mem_of_getElem? hf)
            obtain ⟨n, hn⟩ : ∃ n : Nat, f.type = n := ⟨f.type.toNat, by omega⟩
            have hnl : n < cur.length := by omega
            have hn0 : (n : Int) < cur.length := by omega
            have hcx := List.getElem?_eq_getElem hnl
            have e1 := c277_eq f.name (by omega)
            have n1 : ¬ r = t.nt := by omega
            have n2 : ¬ q = t.nt := by omega
            have n3 : ¬ p = t.nt := by omega
            have n4 : ¬ l = t.nt := by omega
            have m1 : ¬ r = t.nt + 1 := by omega
            have m2 : ¬ q = t.nt + 1 := by omega
            have m3 : ¬ p = t.nt + 1 := by omega
            have m4 : ¬ l = t.nt + 1 := by omega
            simp [-getElem?_pos, gcz, gcs, -aftE_some, cut20_run, pureOp, h0, h42, h43, h46, h47, h48, h69, h70, h71, h5, h8, h9, h12, hR, hQ, hP, hLr, hL4, hj, hf, n1, n2, n3, n4, m1, m2, m3, m4, range3, hn, hnl, hn0, hcx, e1]
            refine ⟨roomI (by have := accL_len fi cur i x j; omega), ih3 _ ?_⟩
            simp [h0, h42, h43, h46, h47, h48, h69, h70, h71, h5, h8, h9, h12, hR, hQ, hP, hLr, n1, n2, n3, n4, m1, m2, m3, m4, nrp, nqp, nrl, nql, npl, hwj, accL_succ hf, fldOf, hn, hcx]
            omega
          · rintro c4 t ⟨h0, h42, h43, h46, h47, h48, h69, h70, h71, r, q, p, l, h5, h8, h9, h12, hr, hq, hp, hl, nrp, nqp, nrl, nql, npl, hR, hQ, hP, hLr⟩
            rw [accL_all] at hLr
            have e1 := c276_eq (nextOf fi cur i x) (by have := accL_len fi cur i x x.fields.length; rw [accL_all] at this; have := hxr.flds; simp only [lim]; omega)
            have n1 : ¬ r = t.nt := by omega
            have n2 : ¬ q = t.nt := by omega
            have n3 : ¬ p = t.nt := by omega
            have n4 : ¬ l = t.nt := by omega
            have hil : i ≤ ts.length := by omega
            have hnl : (nextL ts fi cur).length = ts.length := by simp [nextL]
            have hmin : min i ts.length = i := by omega
            simp [-getElem?_pos, gcz, gcs, h0, h42, h43, h46, h47, h48, h69, h70, h71, h5, h8, h9, h12, hR, hQ, hP, hLr, hL3, n1, n2, n3, n4, range1, e1, hnl, hmin]
            refine ⟨roomI (by omega), ih2 _ ?_⟩
            simp [h0, h42, h43, h46, h47, h48, h5, h8, h9, h12, hR, hQ, hP, hLr, n1, n2, n3, n4, nrp, nqp, nrl, nql, npl, hwi, List.take_add_one, hnt, nextT]
            omega
      · rintro c3 t ⟨h0, h42, h43, h46, h47, h48, r, q, p, h5, h8, h9, hr, hq, hp, nrp, nqp, hR, hQ, hP⟩
        have hP' : t.R p = some ⟨1, (nextL ts fi cur).map (V.int .i64), true⟩ := by
          rw [hP, List.take_of_length_le (by simp [nextL])]
        clear hP
        simp [-getElem?_pos, h0, h42, h43, h46, h47, h48, h5, h8, h9, hR, hQ, hP', hL]
        refine ih _ ?_
        simp [h0, h42, h43, h46, h47, h48, h5, h8, h9, hR, hQ, hP', hw, hnx]
        omega
    · rintro c2 t ⟨h0, h42, h43, r, q, h5, h8, hr, hq, hR, hQ⟩
      simp at h43
      simp [h0, h42, h43, h5, h8, hR, hQ]
end Go.TM.Tryz
end
section
set_option maxHeartbeats 4000000
set_option maxRecDepth 10000
namespace Go.TM.Tryz
open Go Go.TM Go.Proofs
theorem f237_ok (ts : List Ty) (ht : TRef ts) : FunOK Tryz.prog 237 [.lst (ts.map Ty.v), .int .i64 25] false (.inl 1 ((roundsT ts 25).map (V.int .i64))) := by
  refine fun_ok (mkE2_ok zmix (cl := [(255, c255), (256, c256), (242, c242)]) (gl := []) [] [(5, cut5), (20, cut20)] ⟨c255_ok, c256_ok, c242_ok⟩ trivial) Tryz.func237 (by kernel_rfl) ?_
  refine FunW_run _ _ rfl rfl ?_
  have hlen := ht.len
  simp
  refine lp_list ts (fun i t => t.e 0 = .lst (ts.map Ty.v) ∧ t.e 1 = .int .i64 25 ∧ t.e 15 = .lst (ts.map Ty.v) ∧ t.e 16 = .int .i64 ts.length ∧ t.e 17 = .int .i64 i ∧ hasR t (t.e 5) 1 (((ts.map firstT).take i).map (V.int .i64))) ?_ ?_ ?_
  · simp
  · rintro c' L hL i t x hx hi ih ⟨h0, h1, h16, h17, h18, r, h5, hlt, hR⟩
    have hw := wrI (i := i) (by omega)
    have hxr := ht.ty x (List.mem_of_getElem? hx)
    have e1 := c256_eq x.owner (by have := hxr.owner; omega)
    have e2 := c256_eq x.name (by have := hxr.name; omega)
    have e3 := c255_eq (firstOf x) (by simp [firstOf, lim])
    simp only [firstOf, List.map_cons, List.map_nil] at e3
    have hne : ¬ r = t.nt := by omega
    have hne1 : ¬ r = t.nt + 1 := by omega
    have hne2 : ¬ r = t.nt + 1 + 1 := by omega
    have hmin : min i ts.length = i := by omega
    have r1 := roomI (n := 1) (by omega)
    have r2 := roomI (n := i + 1) (by omega)
    simp [-getElem?_pos, gcz, gcs, -aftE_some, cut5_run, pureOp, h0, h1, h16, h17, h18, h5, hR, hL, hi, hx, e1, e2, e3, hne, hne1, hne2, hmin, r1, r2, range5]
    refine ih _ ?_
    simp [h0, h1, h16, h17, h18, hw, List.take_add_one, hx, firstT, firstOf]
  · rintro c' t ⟨h0, h1, h16, h17, h18, r, h5, hlt, hR⟩
    have hR' : t.R r = some ⟨1, (ts.map firstT).map (V.int .i64), true⟩ := by
      rw [hR, List.take_of_length_le (by simp)]
    clear hR
    have hz : roundsT ts 0 = ts.map firstT := rfl
    have hsu : ∀ k, roundsT ts (k + 1) = nextL ts (ts.map firstT) (roundsT ts k) := fun _ => rfl
    have hfl : (ts.map firstT).length = ts.length := by simp
    generalize ts.map firstT = fi at *
    have e85 := c242_eq fi (by omega)
    simp [h0, h1, h16, h17, h18, h5, hR', e85]
    clear h16 h17 h18
    refine lp_list (List.replicate 25 ()) (fun k t => t.e 0 = .lst (ts.map Ty.v) ∧ t.e 1 = .int .i64 (25 - k) ∧ (∃ r q, t.e 5 = .own r ∧ t.e 8 = .own q ∧ r < t.nt ∧ q < t.nt ∧ t.R r = some ⟨1, fi.map (V.int .i64), true⟩ ∧ t.R q = some ⟨1, (roundsT ts k).map (V.int .i64), true⟩)) ?_ ?_ ?_
    · have n1 : ¬ r = t.nt := by omega
      simp [h0, h1, h5, hR', hz, n1]
      omega
    · rintro c2 L hL k t _ hk hk' ih ⟨h0, h1, r, q, h5, h8, hr, hq, hR, hQ⟩
      simp at hk'
      have hw : IntKind.i64.wrap (25 - (k : Int) - 1) = 25 - ((k + 1 : Nat) : Int) := (wrap64 (by omega) (by omega)).trans (by omega)
      have hk2 : (k : Int) < 25 := by omega
      have hk3 : 0 < 25 - (k : Int) := by omega
      simp [-getElem?_pos, h0, h1, h5, h8, hR, hQ, hL, hk2, hk3]
      clear hk
      have hcl := roundsT_len ts k
      have hnx := hsu k
      generalize roundsT ts k = cur at *
      refine lp_list ts (fun i t => t.e 0 = .lst (ts.map Ty.v) ∧ t.e 1 = .int .i64 (25 - k) ∧ t.e 46 = .lst (ts.map Ty.v) ∧ t.e 47 = .int .i64 ts.length ∧ t.e 48 = .int .i64 i ∧
        (∃ r q p, t.e 5 = .own r ∧ t.e 8 = .own q ∧ t.e 9 = .own p ∧ r < t.nt ∧ q < t.nt ∧ p < t.nt ∧ r ≠ p ∧ q ≠ p ∧ t.R r = some ⟨1, fi.map (V.int .i64), true⟩ ∧ t.R q = some ⟨1, cur.map (V.int .i64), true⟩ ∧ t.R p = some ⟨1, ((nextL ts fi cur).take i).map (V.int .i64), true⟩)) ?_ ?_ ?_
      · have n1 : ¬ r = t.nt := by omega
        have n2 : ¬ q = t.nt := by omega
        simp [h0, h1, h5, h8, hR, hQ, n1, n2]
        omega
      · rintro c3 L3 hL3 i t x hx hi ih2 ⟨h0, h1, h46, h47, h48, r, q, p, h5, h8, h9, hr, hq, hp, nrp, nqp, hR, hQ, hP⟩
        have hwi : IntKind.i64.wrap ((i : Int) + 1) = ((i + 1 : Nat) : Int) := wrap64 (by omega) (by omega)
        have hxr := ht.ty x (List.mem_of_getElem? hx)
        have hif : i < fi.length := by omega
        have hfx := List.getElem?_eq_getElem hif
        have n1 : ¬ r = t.nt := by omega
        have n2 : ¬ q = t.nt := by omega
        have n3 : ¬ p = t.nt := by omega
        have m1 : ¬ r = t.nt + 1 := by omega
        have m2 : ¬ q = t.nt + 1 := by omega
        have m3 : ¬ p = t.nt + 1 := by omega
        have hhd : ∃ v, headOf fi cur i x = [fi[i], v] ∧ (0 ≤ x.base → ∃ n : Nat, x.base = n ∧ n < cur.length ∧ cur[n]? = some v) ∧ (¬ 0 ≤ x.base → v = 7) := by
          refine ⟨_, by rw [headOf, List.getD_eq_getElem?_getD, hfx, Option.getD_some], fun hb => ?_, fun hb => by rw [if_neg hb]⟩
          have h1 := hxr.base
          refine ⟨x.base.toNat, by omega, by omega, ?_⟩
          rw [if_pos hb, List.getD_eq_getElem?_getD, List.getElem?_eq_getElem (by omega), Option.getD_some]
        obtain ⟨v, hhd, hb1, hb2⟩ := hhd
        have hnt : (nextL ts fi cur)[i]? = some (nextT fi cur i x) := by simp [nextL, hx]
        have hq : q < t.nt := hq
        rcases Decidable.em (0 ≤ x.base) with hb | hb
        case' inl =>
          obtain ⟨n, hn, hnl, hv⟩ := hb1 hb
          have hn0 : (n : Int) < cur.length := by omega
          simp [-getElem?_pos, gcz, gcs, h0, h1, h46, h47, h48, h5, h8, h9, hR, hQ, hP, hL3, hi, hx, hif, hfx, n1, n2, n3, m1, m2, m3, range2, hn, hnl, hn0, hv]
        case' inr =>
          have hv := hb2 hb
          simp [-getElem?_pos, gcz, gcs, h0, h1, h46, h47, h48, h5, h8, h9, hR, hQ, hP, hL3, hi, hx, hif, hfx, n1, n2, n3, m1, m2, m3, range2, hb]
        all_goals
          refine lp_list x.fields (fun j t => t.e 0 = .lst (ts.map Ty.v) ∧ t.e 1 = .int .i64 (25 - k) ∧ t.e 46 = .lst (ts.map Ty.v) ∧ t.e 47 = .int .i64 ts.length ∧ t.e 48 = .int .i64 i ∧
            t.e 69 = .lst (x.fields.map Fld.v) ∧ t.e 70 = .int .i64 x.fields.length ∧ t.e 71 = .int .i64 j ∧
            (∃ r q p l, t.e 5 = .own r ∧ t.e 8 = .own q ∧ t.e 9 = .own p ∧ t.e 12 = .own l ∧ r < t.nt ∧ q < t.nt ∧ p < t.nt ∧ l < t.nt ∧ r ≠ p ∧ q ≠ p ∧ r ≠ l ∧ q ≠ l ∧ p ≠ l ∧ t.R r = some ⟨1, fi.map (V.int .i64), true⟩ ∧ t.R q = some ⟨1, cur.map (V.int .i64), true⟩ ∧ t.R p = some ⟨1, ((nextL ts fi cur).take i).map (V.int .i64), true⟩ ∧
              t.R l = some ⟨1, (accL fi cur i x j).map (V.int .i64), true⟩)) ?_ ?_ ?_
          · simp [h0, h1, h46, h47, h48, h5, h8, h9, hR, hQ, hP, n1, n2, n3, m1, m2, m3, accL_zero, hhd, hv, nrp, nqp]
            omega
          · clear hb hv hb1 hb2 hhd n1 n2 n3 m1 m2 m3 h0 h1 h46 h47 h48 h5 h8 h9 hR hQ hP hr hq hp nrp nqp
            rintro c4 L4 hL4 j t f hf hj ih3 ⟨h0, h1, h46, h47, h48, h69, h70, h71, r, q, p, l, h5, h8, h9, h12, hr, hq, hp, hl, nrp, nqp, nrl, nql, npl, hR, hQ, hP, hLr⟩
            have hflen := hxr.flds
            have hwj : IntKind.i64.wrap ((j : Int) + 1) = ((j + 1 : Nat) : Int) := wrap64 (by omega) (by omega)
            obtain ⟨⟨f1, f2⟩, f3⟩ := hxr.fld f (List.mem_of_getElem? hf)
            obtain ⟨n, hn⟩ : ∃ n : Nat, f.type = n := ⟨f.type.toNat, by omega⟩
            have hnl : n < cur.length := by omega
            have hn0 : (n : Int) < cur.length := by omega
            have hcx := List.getElem?_eq_getElem hnl
            have e1 := c256_eq f.name (by omega)
            have n1 : ¬ r = t.nt := by omega
            have n2 : ¬ q = t.nt := by omega
            have n3 : ¬ p = t.nt := by omega
            have n4 : ¬ l = t.nt := by omega
            have m1 : ¬ r = t.nt + 1 := by omega
            have m2 : ¬ q = t.nt + 1 := by omega
            have m3 : ¬ p = t.nt + 1 := by omega
            have m4 : ¬ l = t.nt + 1 := by omega
            simp [-getElem?_pos, gcz, gcs, -aftE_some, cut20_run, pureOp, h0, h1, h46, h47, h48, h69, h70, h71, h5, h8, h9, h12, hR, hQ, hP, hLr, hL4, hj, hf, n1, n2, n3, n4, m1, m2, m3, m4, range3, hn, hnl, hn0, hcx, e1]
            refine ⟨roomI (by have := accL_len fi cur i x j; omega), ih3 _ ?_⟩
            simp [h0, h1, h46, h47, h48, h69, h70, h71, h5, h8, h9, h12, hR, hQ, hP, hLr, n1, n2, n3, n4, m1, m2, m3, m4, nrp, nqp, nrl, nql, npl, hwj, accL_succ hf, fldOf, hn, hcx]
            omega
          · rintro c4 t ⟨h0, h1, h46, h47, h48, h69, h70, h71, r, q, p, l, h5, h8, h9, h12, hr, hq, hp, hl, nrp, nqp, nrl, nql, npl, hR, hQ, hP, hLr⟩
            rw [accL_all] at hLr
            have e1 := c255_eq (nextOf fi cur i x) (by have := accL_len fi cur i x x.fields.length; rw [accL_all] at this; have := hxr.flds; simp only [lim]; omega)
            have n1 : ¬ r = t.nt := by omega
            have n2 : ¬ q = t.nt := by omega
            have n3 : ¬ p = t.nt := by omega
            have n4 : ¬ l = t.nt := by omega
            have hil : i ≤ ts.length := by omega
            have hnl : (nextL ts fi cur).length = ts.length := by simp [nextL]
            have hmin : min i ts.length = i := by omega
            simp [-getElem?_pos, gcz, gcs, h0, h1, h46, h47, h48, h69, h70, h71, h5, h8, h9, h12, hR, hQ, hP, hLr, hL3, n1, n2, n3, n4, range1, e1, hnl, hmin]
            refine ⟨roomI (by omega), ih2 _ ?_⟩
            simp [h0, h1, h46, h47, h48, h5, h8, h9, h12, hR, hQ, hP, hLr, n1, n2, n3, n4, nrp, nqp, nrl, nql, npl, hwi, List.take_add_one, hnt, nextT]
            omega
      · rintro c3 t ⟨h0, h1, h46, h47, h48, r, q, p, h5, h8, h9, hr, hq, hp, nrp, nqp, hR, hQ, hP⟩
        have hP' : t.R p = some ⟨1, (nextL ts fi cur).map (V.int .i64), true⟩ := by
          rw [hP, List.take_of_length_le (by simp [nextL])]
        clear hP
        simp [-getElem?_pos, h0, h1, h46, h47, h48, h5, h8, h9, hR, hQ, hP', hL]
        refine ih _ ?_
        simp [h0, h1, h46, h47, h48, h5, h8, h9, hR, hQ, hP', hw, hnx]
        omega
    · rintro c2 t ⟨h0, h1, r, q, h5, h8, hr, hq, hR, hQ⟩
      simp at h1
      simp [h0, h1, h5, h8, hR, hQ]
end Go.TM.Tryz
end
section
set_option maxHeartbeats 4000000
set_option maxRecDepth 10000
namespace Go.TM.Tryz
open Go Go.TM Go.Proofs
theorem inj257 {β : Type} (out : List Ty → β) : ∀ a b : List Ty, [V.lst (a.map Ty.v), .int .i64 25] = [V.lst (b.map Ty.v), .int .i64 25] → out a = out b := by
  intro a b h
  simp only [List.cons.injEq, and_true, V.lst.injEq] at h
  rw [map_inj Ty.v_inj h]
noncomputable def c257 := ctr (fun ts : List Ty => TRef ts) (fun ts => [.lst (ts.map Ty.v), .int .i64 25]) (fun ts => (false, .inl 1 ((roundsT ts 25).map (V.int .i64))))
theorem c257_eq (ts : List Ty) (h : TRef ts) : c257 [.lst (ts.map Ty.v), .int .i64 25] = some (false, .inl 1 ((roundsT ts 25).map (V.int .i64))) := ctr_eq (inj257 _) ts h rfl
theorem c257_ok : COK Tryz.prog (257, c257) := ctr_ok fun ts h => f257_ok ts h
noncomputable def c237 := ctr (fun ts : List Ty => TRef ts) (fun ts => [.lst (ts.map Ty.v), .int .i64 25]) (fun ts => (false, .inl 1 ((roundsT ts 25).map (V.int .i64))))
theorem c237_eq (ts : List Ty) (h : TRef ts) : c237 [.lst (ts.map Ty.v), .int .i64 25] = some (false, .inl 1 ((roundsT ts 25).map (V.int .i64))) := ctr_eq (inj257 _) ts h rfl
theorem c237_ok : COK Tryz.prog (237, c237) := ctr_ok fun ts h => f237_ok ts h
def cut65a : Pl := ⟨[9], [(0, false), (1, false), (3, false), (4, false), (5, false), (6, false), (7, false), (8, false), (2, true)], [], [10, 11], .seq [10, 11]⟩
def cut65b : Pl := ⟨[0, 4, 5], [(1, false), (2, false), (6, false), (7, false), (8, false), (9, false), (3, true)], [], [10, 11, 12], .seq [10, 11, 12]⟩
def cut53a : Pl := ⟨[], [(0, false), (1, false), (3, false), (4, false), (5, false), (6, false), (7, false), (8, false), (2, true)], [], [9, 10], .seq [9, 10]⟩
theorem cut65a_run {E : Env} (pl : Option (List (Nat × Bool))) (ops : Array Oper) (k : List Fr) (Q : X → S → Prop) (s : S) : aftE (some cut65a) pl ops k E Q s = preK E ops k Q (.seq [10, 11]) [(9, false), (0, false), (1, false), (3, false), (4, false), (5, false), (6, false), (7, false), (8, false), (2, true)] s := rfl
theorem cut65b_run {E : Env} (pl : Option (List (Nat × Bool))) (ops : Array Oper) (k : List Fr) (Q : X → S → Prop) (s : S) : aftE (some cut65b) pl ops k E Q s = preK E ops k Q (.seq [10, 11, 12]) [(0, false), (4, false), (5, false), (1, false), (2, false), (6, false), (7, false), (8, false), (9, false), (3, true)] s := rfl
theorem cut53a_run {E : Env} (pl : Option (List (Nat × Bool))) (ops : Array Oper) (k : List Fr) (Q : X → S → Prop) (s : S) : aftE (some cut53a) pl ops k E Q s = preK E ops k Q (.seq [9, 10]) [(0, false), (1, false), (3, false), (4, false), (5, false), (6, false), (7, false), (8, false), (2, true)] s := rfl
theorem f258_ok (o : Obj) (cur : List Int) (ho : OjRef cur.length o) (hc : cur.length ≤ 24) : FunOK Tryz.prog 258 [o.v, .lst (cur.map (V.int .i64))] false (.int .i64 (objT cur o)) := by
  refine fun_ok (mkE2_ok zmix (cl := [(276, c276), (277, c277)]) (gl := []) [] [(4, cut65a), (11, cut65b)] ⟨c276_ok, c277_ok⟩ trivial) Tryz.func258 (by kernel_rfl) ?_
  refine FunW_run _ _ rfl rfl ?_
  have e1 := c277_eq o.name (by have := ho.name; omega)
  have hhd : ∃ v, headO cur o = [textI o.name, o.kind, o.mark, o.value, v] ∧ (0 ≤ o.type → ∃ n : Nat, o.type = n ∧ n < cur.length ∧ cur[n]? = some v) ∧ (¬ 0 ≤ o.type → v = 5) := by
    refine ⟨_, rfl, fun hb => ?_, fun hb => by rw [if_neg hb]⟩
    have h1 := ho.type
    refine ⟨o.type.toNat, by omega, by omega, ?_⟩
    rw [if_pos hb, List.getD_eq_getElem?_getD, List.getElem?_eq_getElem (by omega), Option.getD_some]
  obtain ⟨v, hhd, hb1, hb2⟩ := hhd
  rcases Decidable.em (0 ≤ o.type) with hb | hb
  case' inl =>
    obtain ⟨n, hn, hnl, hv⟩ := hb1 hb
    have hn0 : (n : Int) < cur.length := by omega
    simp [-getElem?_pos, gcz, gcs, -aftE_some, cut65a_run, pureOp, hn, hnl, hn0, hv, e1, range5]
  case' inr =>
    have hv := hb2 hb
    simp [-getElem?_pos, gcz, gcs, -aftE_some, cut65a_run, pureOp, hb, e1, range5]
  all_goals
    refine lp_list o.params (fun j t => t.e 1 = .lst (cur.map (V.int .i64)) ∧ t.e 30 = .lst (o.params.map Par.v) ∧ t.e 31 = .int .i64 o.params.length ∧ t.e 32 = .int .i64 j ∧ hasR t (t.e 6) 1 ((objTo cur o j).map (V.int .i64))) ?_ ?_ ?_
    · simp [objTo_zero, hhd, hv]
    · clear hb hv hb1 hb2 hhd
      rintro c4 L4 hL4 j t p hp hj ih3 ⟨h1, h30, h31, h32, l, h6, hl, hLr⟩
      have hplen := ho.pars
      have hwj : IntKind.i64.wrap ((j : Int) + 1) = ((j + 1 : Nat) : Int) := wrap64 (by omega) (by omega)
      obtain ⟨⟨f1, f2⟩, f3⟩ := ho.par p (List.mem_of_getElem? hp)
      obtain ⟨n, hn⟩ : ∃ n : Nat, p.type = n := ⟨p.type.toNat, by omega⟩
      have hnl : n < cur.length := by omega
      have hn0 : (n : Int) < cur.length := by omega
      have hcx := List.getElem?_eq_getElem hnl
      have e1 := c277_eq p.name (by omega)
      have n4 : ¬ l = t.nt := by omega
      have m4 : ¬ l = t.nt + 1 := by omega
      rcases hbv : p.byVar with _ | _
      all_goals
        simp [-getElem?_pos, gcz, gcs, -aftE_some, cut65b_run, pureOp, h1, h30, h31, h32, h6, hLr, hL4, hj, hp, hbv, n4, m4, range3, hn, hnl, hn0, hcx, e1]
        refine ⟨roomI (by have := objTo_len cur o j; omega), ih3 _ ?_⟩
        simp [h1, h30, h31, h32, h6, hLr, n4, m4, hwj, objTo_succ hp, parOf, hbv, hn, hcx]
    · rintro c4 t ⟨h1, h30, h31, h32, l, h6, hl, hLr⟩
      rw [objTo_all] at hLr
      have e1 := c276_eq (objOf cur o) (by have := objTo_len cur o o.params.length; rw [objTo_all] at this; have := ho.pars; simp only [lim]; omega)
      simp [h1, h30, h31, h32, h6, hLr, e1, objT]
end Go.TM.Tryz
end
section
set_option maxHeartbeats 4000000
set_option maxRecDepth 10000
namespace Go.TM.Tryz
open Go Go.TM Go.Proofs
theorem f238_ok (s : Scp) (o : Obj) (cur : List Int) (ho : OjRef cur.length o) (hc : cur.length ≤ 24) : FunOK Tryz.prog 238 [s.v, .lst (cur.map (V.int .i64)), o.v] false (.int .i64 (objT cur o)) := by
  refine fun_ok (mkE2_ok zmix (cl := [(255, c255), (256, c256)]) (gl := []) [] [(1, cut53a), (10, cut65b)] ⟨c255_ok, c256_ok⟩ trivial) Tryz.func238 (by kernel_rfl) ?_
  refine FunW_run _ _ rfl rfl ?_
  have e1 := c256_eq o.name (by have := ho.name; omega)
  have hhd : ∃ v, headO cur o = [textI o.name, o.kind, o.mark, o.value, v] ∧ (0 ≤ o.type → ∃ n : Nat, o.type = n ∧ n < cur.length ∧ cur[n]? = some v) ∧ (¬ 0 ≤ o.type → v = 5) := by
    refine ⟨_, rfl, fun hb => ?_, fun hb => by rw [if_neg hb]⟩
    have h1 := ho.type
    refine ⟨o.type.toNat, by omega, by omega, ?_⟩
    rw [if_pos hb, List.getD_eq_getElem?_getD, List.getElem?_eq_getElem (by omega), Option.getD_some]
  obtain ⟨v, hhd, hb1, hb2⟩ := hhd
  rcases Decidable.em (0 ≤ o.type) with hb | hb
  case' inl =>
    obtain ⟨n, hn, hnl, hv⟩ := hb1 hb
    have hn0 : (n : Int) < cur.length := by omega
    simp [-getElem?_pos, gcz, gcs, -aftE_some, cut53a_run, pureOp, hn, hnl, hn0, hv, e1, range5]
  case' inr =>
    have hv := hb2 hb
    simp [-getElem?_pos, gcz, gcs, -aftE_some, cut53a_run, pureOp, hb, e1, range5]
  all_goals
    refine lp_list o.params (fun j t => t.e 1 = .lst (cur.map (V.int .i64)) ∧ t.e 32 = .lst (o.params.map Par.v) ∧ t.e 33 = .int .i64 o.params.length ∧ t.e 34 = .int .i64 j ∧ hasR t (t.e 7) 1 ((objTo cur o j).map (V.int .i64))) ?_ ?_ ?_
    · simp [objTo_zero, hhd, hv]
    · clear hb hv hb1 hb2 hhd
      rintro c4 L4 hL4 j t p hp hj ih3 ⟨h1, h30, h31, h32, l, h6, hl, hLr⟩
      have hplen := ho.pars
      have hwj : IntKind.i64.wrap ((j : Int) + 1) = ((j + 1 : Nat) : Int) := wrap64 (by omega) (by omega)
      obtain ⟨⟨f1, f2⟩, f3⟩ := ho.par p (List.mem_of_getElem? hp)
      obtain ⟨n, hn⟩ : ∃ n : Nat, p.type = n := ⟨p.type.toNat, by omega⟩
      have hnl : n < cur.length := by omega
      have hn0 : (n : Int) < cur.length := by omega
      have hcx := List.getElem?_eq_getElem hnl
      have e1 := c256_eq p.name (by omega)
      have n4 : ¬ l = t.nt := by omega
      have m4 : ¬ l = t.nt + 1 := by omega
      rcases hbv : p.byVar with _ | _
      all_goals
        simp [-getElem?_pos, gcz, gcs, -aftE_some, cut65b_run, pureOp, h1, h30, h31, h32, h6, hLr, hL4, hj, hp, hbv, n4, m4, range3, hn, hnl, hn0, hcx, e1]
        refine ⟨roomI (by have := objTo_len cur o j; omega), ih3 _ ?_⟩
        simp [h1, h30, h31, h32, h6, hLr, n4, m4, hwj, objTo_succ hp, parOf, hbv, hn, hcx]
    · rintro c4 t ⟨h1, h30, h31, h32, l, h6, hl, hLr⟩
      rw [objTo_all] at hLr
      have e1 := c255_eq (objOf cur o) (by have := objTo_len cur o o.params.length; rw [objTo_all] at this; have := ho.pars; simp only [lim]; omega)
      simp [h1, h30, h31, h32, h6, hLr, e1, objT]
noncomputable def c258 := ctr (fun a : Obj × List Int => OjRef a.2.length a.1 ∧ a.2.length ≤ 24) (fun a => [a.1.v, .lst (a.2.map (V.int .i64))]) (fun a => (false, .int .i64 (objT a.2 a.1)))
theorem c258_eq (o : Obj) (cur : List Int) (h : OjRef cur.length o) (h2 : cur.length ≤ 24) : c258 [o.v, .lst (cur.map (V.int .i64))] = some (false, .int .i64 (objT cur o)) := ctr_eq (by
  rintro ⟨a, b⟩ ⟨c, d⟩ h
  simp only [List.cons.injEq, and_true, V.lst.injEq] at h
  rw [map_inj intv_inj h.2, Obj.v_inj h.1]) (o, cur) ⟨h, h2⟩ rfl
theorem c258_ok : COK Tryz.prog (258, c258) := ctr_ok fun a h => f258_ok a.1 a.2 h.1 h.2
noncomputable def c238 := ctr (fun a : Scp × List Int × Obj => OjRef a.2.1.length a.2.2 ∧ a.2.1.length ≤ 24) (fun a => [a.1.v, .lst (a.2.1.map (V.int .i64)), a.2.2.v]) (fun a => (false, .int .i64 (objT a.2.1 a.2.2)))
theorem c238_eq (s : Scp) (o : Obj) (cur : List Int) (h : OjRef cur.length o) (h2 : cur.length ≤ 24) : c238 [s.v, .lst (cur.map (V.int .i64)), o.v] = some (false, .int .i64 (objT cur o)) := ctr_eq (by
  rintro ⟨e, a, b⟩ ⟨f, c, d⟩ h
  simp only [List.cons.injEq, and_true, V.lst.injEq] at h
  rw [map_inj intv_inj h.2.1, Obj.v_inj h.2.2]) (s, cur, o) ⟨h, h2⟩ rfl
theorem c238_ok : COK Tryz.prog (238, c238) := ctr_ok fun a h => f238_ok a.1 a.2.2 a.2.1 h.1 h.2
end Go.TM.Tryz
end
section
namespace Go.TM
open Go Go.Proofs Go.Sort Go.Shelf
section
variable {α : Type} [Inhabited α] {f : α → V} {k : Nat}
def encF (f : α → V) (a : α) : List Value := (leaves (f a)).map valL
theorem leafAt_of {zs : List α} {j i : Nat} {l : V} : leafAt (zs.map f) j i = some l ↔ ∃ a, zs[j]? = some a ∧ (leaves (f a))[i]? = some l := by
  unfold leafAt
  rw [List.getElem?_map]
  cases zs[j]? <;> simp
theorem own_flat (hfl : ∀ a, (leaves (f a)).all flatL = true) {W : World} {F B : Nat → Prop} {v : Value} {zs : List α} (h : OwnN W F B k v (zs.map f)) (hne : zs ≠ []) :
    ∃ (b o c : Nat) (cs : Array Value) (ty : TypeId), v = .slice (some ⟨b, o, none⟩) zs.length c ∧ B b ∧ W.heap[b]? = some (.cells cs ty (0, 0)) ∧ zs.length ≤ c ∧ c ≤ maxLen ∧ cs.size = o + c * k ∧
      ∀ j i a l, zs[j]? = some a → (leaves (f a))[i]? = some l → cs[o + j * k + i]? = some (valL l) := by
  generalize hx : zs.map f = xs at h
  cases h with
  | nil => cases zs <;> simp at hx hne
  | row _ _ _ b o c cs ty u Bs hB hBs hd hb hn hm hcs hs hc hl hN =>
    subst hx
    refine ⟨b, o, c, cs, ty, by simp, hB, hb, by simpa using hn, hm, hcs, fun j i a l ha hl' => ?_⟩
    have e := leafAt_of.2 ⟨a, ha, hl'⟩
    have hfl' : flatL l = true := List.all_eq_true.1 (hfl a) l (List.mem_of_getElem? hl')
    have h1 := hc j i _ e
    have h2 := hl j i _ e (by intro z ys; rintro rfl; simp [flatL] at hfl')
    generalize u j i = q at h1 h2
    rw [h1]
    cases l <;> simp only [flatL, Bool.false_eq_true] at hfl' <;> cases h2 <;> rfl
theorem flat_own (hk : ∀ a, (leaves (f a)).length = k) (hfl : ∀ a, (leaves (f a)).all flatL = true) {W : World} {F : Nat → Prop} {zs : List α} {b o c : Nat} {cs : Array Value} {ty : TypeId} (hb : W.heap[b]? = some (.cells cs ty (0, 0))) (hn : zs.length ≤ c) (hm : c ≤ maxLen) (hcs : cs.size = o + c * k)
    (hc : ∀ j i a l, zs[j]? = some a → (leaves (f a))[i]? = some l → cs[o + j * k + i]? = some (valL l)) : OwnN W F (fun x => x = b) k (.slice (some ⟨b, o, none⟩) zs.length c) (zs.map f) := by
  have hno : ∀ j i z ys, leafAt (zs.map f) j i ≠ some (.inl z ys) := fun j i z ys hl => by
    obtain ⟨a, ha, hl'⟩ := leafAt_of.1 hl
    have := List.all_eq_true.1 (hfl a) _ (List.mem_of_getElem? hl')
    simp [flatL] at this
  have key := OwnN.row (W := W) (F := F) (fun x => x = b) k (zs.map f) b o c cs ty (fun j i => valL ((leafAt (zs.map f) j i).getD .bad)) (fun _ _ _ => False) rfl (fun _ _ _ h => h.elim) (fun _ _ _ _ _ h => h.elim) hb (by simpa using hn) hm hcs
    (fun e he => by
      obtain ⟨a, _, rfl⟩ := List.mem_map.1 he
      exact hk a)
    (fun j i l hl => by
      obtain ⟨a, ha, hl'⟩ := leafAt_of.1 hl
      rw [hl]
      exact hc j i a l ha hl')
    (fun j i l hl _ => by
      obtain ⟨a, ha, hl'⟩ := leafAt_of.1 hl
      rw [hl]
      have := List.all_eq_true.1 (hfl a) _ (List.mem_of_getElem? hl')
      simp only [Option.getD_some]
      cases l <;> simp only [flatL, Bool.false_eq_true] at this
      · exact .int _ _
      · exact .bool _
      · exact .str _
      · exact .raw _)
    (fun j i z ys hl => absurd hl (hno j i z ys))
  simpa using key
theorem putRow_blockV {W : World} {n b o : Nat} {os : Array Go.Obj} {cs : Array Value} {ty : TypeId} {ds : Array Value} (hb : W.heap[b]? = some (.cells cs ty (0, 0))) :
    (grow (putRow id (Sort.ahead W n) b o ds) os).heap[b]? = some (.cells (putCells id o ds cs) ty (0, 0)) ∧
    (∀ x, x < W.heap.size → x ≠ b → (grow (putRow id (Sort.ahead W n) b o ds) os).heap[x]? = W.heap[x]?) ∧
    W.heap.size ≤ (grow (putRow id (Sort.ahead W n) b o ds) os).heap.size := by
  have hlt : b < W.heap.size := by
    rw [Array.getElem?_eq_some_iff] at hb
    exact hb.1
  refine ⟨?_, fun x hx hne => ?_, ?_⟩
  · simp only [grow, putRow, mapBlock, heap_ahead]
    rw [Array.getElem?_append_left (by simpa using hlt), Array.getElem?_modify, if_pos rfl, hb]
    rfl
  · simp only [grow, putRow, mapBlock, heap_ahead]
    rw [Array.getElem?_append_left (by simpa using hx), Array.getElem?_modify, if_neg (fun e => hne e.symm)]
  · simp only [grow, putRow, mapBlock, heap_ahead]
    simp
theorem putCells_getV {o : Nat} {ds : Array Value} {cs : Array Value} {c : Nat} (hcs : cs.size = o + c) (hn : ds.size ≤ c) {t : Nat} (ht : t < ds.size) : (putCells id o ds cs)[o + t]? = some ds[t]! := by
  have hlt : o + t < cs.size := by omega
  unfold putCells
  rw [Array.getElem?_mapIdx, Array.getElem?_eq_getElem hlt]
  simp only [Option.map_some]
  rw [if_pos ⟨by omega, by omega⟩]
  have e : o + t - o = t := by omega
  rw [e]
  rfl
theorem flat_at (hk : ∀ a, (leaves (f a)).length = k) {zs : List α} {j i : Nat} {a : α} {l : V} (ha : zs[j]? = some a) (hl : (leaves (f a))[i]? = some l) : j * k + i < zs.length * k ∧ (flatK (encF f) k zs.toArray)[j * k + i]! = valL l := by
  have hj : j < zs.length := (List.getElem?_eq_some_iff.1 ha).1
  have hi : i < k := by rw [← hk a]; exact (List.getElem?_eq_some_iff.1 hl).1
  have hlt : j * k + i < zs.length * k := by
    have : (j + 1) * k ≤ zs.length * k := Nat.mul_le_mul_right k hj
    rw [Nat.add_mul] at this
    omega
  refine ⟨hlt, ?_⟩
  rw [get_flatK _ _ _ _ (by simpa using hlt)]
  have e1 : (j * k + i) / k = j := by
    rw [Nat.add_comm, Nat.add_mul_div_right _ _ (by omega), Nat.div_eq_of_lt hi, Nat.zero_add]
  have e2 : (j * k + i) % k = i := by
    rw [Nat.add_comm, Nat.add_mul_mod_self_right, Nat.mod_eq_of_lt hi]
  rw [e1, e2, getElem!_pos zs.toArray j (by simpa using hj)]
  have ez : zs.toArray[j]'(by simpa using hj) = a := by
    rw [List.getElem?_eq_some_iff] at ha
    simpa using ha.2
  rw [ez]
  unfold encF
  rw [getElem!_pos _ i (by rw [List.length_map, hk]; exact hi)]
  rw [List.getElem?_eq_some_iff] at hl
  simp [hl.2]
theorem sortf_gen (h0 : 0 < k) (hk : ∀ a, (leaves (f a)).length = k) (hfl : ∀ a, (leaves (f a)).all flatL = true) {P : Program} {fn g : FuncId} {zs ys : List α} (hys : ys.length = zs.length)
    (has : ∃ x, P.funcs[fn]? = some x ∧ (x.name == "runtime.NumGoroutine") = false ∧ x.body.isNone = false)
    (hcall : zs ≠ [] → ∀ (blk off cap : Nat) (w : World), HoldsK (encF f) k w blk off zs.toArray → blk < w.heap.size → Calls P fn #[.slice (some ⟨blk, off, none⟩) zs.length cap, .func (.func g) #[] #[]] w fun e w' =>
      e = .returned (.tuple #[]) ∧ ∃ n os, w' = sortWorldK (encF f) k w blk off n ys.toArray os)
    (hnil : ∀ (a : Option Addr) (cap : Nat) (w : World), Calls P fn #[.slice a 0 cap, .func (.func g) #[] #[]] w fun e w' => e = .returned (.tuple #[]) ∧ w' = w) :
    GenOK P fn [.inl k (zs.map f), .fn g []] [] ⟨false, .tup [], [.inl k (ys.map f)], []⟩ := by
  refine ⟨has, fun M W vs hM hv => ?_⟩
  have hR : (start [.inl k (zs.map f), .fn g []] []).R = fun x => if x = 0 then some ⟨k, zs.map f, true⟩ else none := by
    funext x
    by_cases h : x = 0 <;> simp [start, adCs, adC, adL, S.newR, S.setR, S.zero, h]
  have hB : (start [.inl k (zs.map f), .fn g []] []).B = fun _ => none := by
    funext x
    simp [start, adCs]
  have hnt : M.nt = 1 := by rw [hM.nt]; simp [start, adCs, adC, adL, S.newR, S.setR, S.zero]
  have hv' : vs = [M.ρ 0, .func (.func g) #[] #[]] := by
    simp only [adCs, adC, adL, S.zero] at hv
    cases vs with
    | nil => exact hv.elim
    | cons v vs =>
      cases vs with
      | nil => exact hv.2.elim
      | cons v2 vs =>
        cases vs with
        | cons _ _ => exact hv.2.2.elim
        | nil =>
          obtain ⟨h1, h2, _⟩ := hv
          obtain ⟨cs, rfl, hcs⟩ := h2
          cases cs with
          | nil => rw [h1.2]
          | cons _ _ => exact hcs.elim
  subst hv'
  have hno : ∀ l : List α, noLs (l.map f) = true := by
    intro l
    refine noLs_map f (fun a => ?_) l
    have h1 := hfl a
    have h2 := hk a
    cases hfa : f a with
    | agg xs =>
      rw [hfa] at h1
      have : ∀ ls : List V, ls.all flatL = true → noLs ls = true := by
        intro ls
        induction ls with
        | nil => intro _; rfl
        | cons x xs ih =>
          intro hx
          simp only [List.all_cons, Bool.and_eq_true] at hx
          have hx1 : noL x = true := by
            have := hx.1
            cases x <;> simp [flatL] at this <;> simp [noL]
          simp [noLs, hx1, ih hx.2]
      simp only [leaves] at h1
      simp [noL, this xs h1]
    | _ =>
      rw [hfa] at h1
      simp only [leaves, List.all_cons, List.all_nil, Bool.and_true] at h1
      first | (simp [noL]; done) | (simp [flatL] at h1)
  obtain ⟨_, hrow⟩ := hM.row 0 ⟨k, zs.map f, true⟩ (by rw [hR]; simp)
  rcases hrow with ⟨_, B, hown, hω, _⟩ | ⟨h, _⟩
  · by_cases hne : zs = []
    · subst hne
      have hyn : ys = [] := List.length_eq_zero_iff.1 (by simpa using hys)
      subst hyn
      have hv0 : ∃ a cap, M.ρ 0 = .slice a 0 cap := by
        generalize M.ρ 0 = q at hown
        generalize hx : ([] : List α).map f = xs at hown
        cases hown with
        | nil => exact ⟨_, _, rfl⟩
        | row => subst hx; exact ⟨_, _, rfl⟩
      obtain ⟨a, cap, hv0⟩ := hv0
      rw [hv0]
      refine (hnil a cap W).mono ?_
      rintro e W' ⟨rfl, rfl⟩
      refine ⟨_, M, start [.inl k (([] : List α).map f), .fn g []] [], .tup [], rfl, ?_⟩
      refine ⟨⟨[], rfl, trivial⟩, hM, .refl _ _, ?_, ?_, ?_, ?_, ?_, ?_, ?_⟩
      · simp [resToks, liveOuts, isBad]
      · simp [resBoxes]
      · intro _
        simp [noL, noLs]
      · simp
      · simp [outsOk, S.outR, hR]
      · simp [boxOuts]
      · simp [closeR]
    · obtain ⟨b, o, c, cs, ty, hρ, hBb, hb, hn, hm, hcs, hc⟩ := own_flat hfl hown hne
      have hlt : b < W.heap.size := by
        rw [Array.getElem?_eq_some_iff] at hb
        exact hb.1
      have hnk : zs.length * k ≤ c * k := Nat.mul_le_mul_right k hn
      have hH : HoldsK (encF f) k W b o zs.toArray := by
        intro t ht
        have ht' : t < zs.length * k := by simpa using ht
        have hj : t / k < zs.length := Nat.div_lt_of_lt_mul (by rw [Nat.mul_comm]; exact ht')
        have hi : t % k < (leaves (f zs[t / k])).length := by rw [hk]; exact Nat.mod_lt _ h0
        have h1 := hc (t / k) (t % k) zs[t / k] _ (List.getElem?_eq_getElem hj) (List.getElem?_eq_getElem hi)
        have h2 := (flat_at hk (List.getElem?_eq_getElem hj) (List.getElem?_eq_getElem hi)).2
        have e : t / k * k + t % k = t := by rw [Nat.mul_comm]; exact Nat.div_add_mod t k
        rw [Nat.add_assoc, e] at h1
        rw [e] at h2
        refine ⟨?_, ?_⟩
        · rw [h2]
          simp only [World.cell?, hb]
          simpa using h1
        · simp [World.frozen?, hb]
      rw [hρ]
      refine (hcall hne b o c W hH hlt).mono ?_
      rintro e W' ⟨rfl, n, os, rfl⟩
      have hds : (flatK (encF f) k ys.toArray).size = zs.length * k := by simp [hys]
      obtain ⟨k1, k2, k3⟩ := putRow_blockV (n := n) (o := o) (os := os) (ds := flatK (encF f) k ys.toArray) hb
      generalize hW' : sortWorldK (encF f) k W b o n ys.toArray os = W'
      have hW2 : grow (putRow id (Sort.ahead W n) b o (flatK (encF f) k ys.toArray)) os = W' := hW'
      rw [hW2] at k1 k2 k3
      have hos : W'.os = W.os ∧ W'.tape = W.tape ∧ W'.output = W.output := by subst hW2; exact ⟨rfl, rfl, rfl⟩
      have hωb := hω b hBb
      have hown' : OwnN W' M.F (fun x => x = b) k (M.ρ 0) (ys.map f) := by
        rw [hρ, ← hys]
        refine flat_own hk hfl k1 (by omega) hm (by simpa [putCells] using hcs) fun j i a l ha hl => ?_
        obtain ⟨h1, h2⟩ := flat_at hk ha hl
        rw [Nat.add_assoc, putCells_getV (c := c * k) hcs (by omega) (by rw [hds, ← hys]; exact h1), h2]
      refine ⟨_, M, { start [.inl k (zs.map f), .fn g []] [] with R := fun x => if x = 0 then some ⟨k, ys.map f, true⟩ else none }, .tup [], rfl, ?_⟩
      refine ⟨⟨[], rfl, trivial⟩, ⟨hM.nt, hM.nb, fun x y hx => ?_, fun t r hr => ?_, fun x hx => ⟨(hM.frz x hx).1, Nat.lt_of_lt_of_le (hM.frz x hx).2 k3⟩, fun x l hx => Nat.lt_of_lt_of_le (hM.lt x l hx) k3, hM.tok, hM.bx⟩, ⟨hos.1, hos.2.1, hos.2.2, k3, fun x hx hω0 => k2 x hx (fun e => by subst e; rw [hωb] at hω0; cases hω0), fun x l hx => .inl (by simp [hx]), fun x hx => .inl hx, fun _ h => h, Nat.le_refl _, Nat.le_refl _, fun _ _ => rfl, fun _ _ => rfl⟩, ?_, ?_, ?_, ?_, ?_, ?_, ?_⟩
      · simp only [hB] at hx
        cases hx
      · simp only at hr
        split at hr
        · rename_i h0
          subst h0
          cases hr
          refine ⟨by omega, .inl ⟨rfl, _, hown', ?_, ?_⟩⟩
          · rintro x rfl
            exact hωb
          · intro j i z ys' hl
            obtain ⟨a, ha, hl'⟩ := leafAt_of.1 hl
            have := List.all_eq_true.1 (hfl a) _ (List.mem_of_getElem? hl')
            simp [flatL] at this
        · cases hr
      · simp [resToks, liveOuts, isBad]
      · simp [resBoxes]
      · intro _
        simp [noLs, noL, hno]
      · simp
      · simp [outsOk, S.outR]
      · simp [boxOuts]
      · simp [closeR]
  · cases h
end
end Go.TM
end
section
namespace Go.Proofs
open Go.Shelf
def Tryz.sortFgr_ren : Go.Shelf.Ren := ⟨fun | 6 => 259 | 15 => 250 | 14 => 278 | 28 => 273 | 29 => 274 | 20 => 289 | 21 => 290 | 22 => 291 | 23 => 292 | 24 => 293 | 25 => 294 | 26 => 295 | 27 => 296 | 46 => 298 | 47 => 282 | 48 => 283 | 49 => 299 | 50 => 300 | 57 => 301 | n => n, fun | 22 => 230 | 24 => 255 | 25 => 272 | 3 => 3 | 39 => 265 | 0 => 0 | 53 => 284 | 55 => 286 | 4 => 4 | 46 => 277 | 45 => 276 | 50 => 196 | 5 => 5 | 9 => 9 | 66 => 289 | 70 => 293 | 76 => 301 | 77 => 302 | n => n, fun | n => n⟩
theorem Tryz.sortFgr : Go.Proofs.SlLaysF0.n6 Tryz.prog Tryz.sortFgr_ren := {
  mixed := by kernel_rfl,
  f6 := ⟨ "slices.SortFunc[[]loop.example/g00837/impl.Finger,loop.example/g00837/impl.Finger]", by decide, Tryz.func259.trans (congrArg some (by kernel_rfl))⟩,
  f14 := ⟨ "slices.pdqsortCmpFunc[loop.example/g00837/impl.Finger]", by decide, Tryz.func278.trans (congrArg some (by kernel_rfl))⟩,
  f15 := Tryz.func250.trans (congrArg some (by kernel_rfl)),
  f20 := ⟨ "slices.insertionSortCmpFunc[loop.example/g00837/impl.Finger]", by decide, Tryz.func289.trans (congrArg some (by kernel_rfl))⟩,
  f21 := ⟨ "slices.heapSortCmpFunc[loop.example/g00837/impl.Finger]", by decide, Tryz.func290.trans (congrArg some (by kernel_rfl))⟩,
  f22 := ⟨ "slices.breakPatternsCmpFunc[loop.example/g00837/impl.Finger]", by decide, Tryz.func291.trans (congrArg some (by kernel_rfl))⟩,
  f23 := ⟨ "slices.choosePivotCmpFunc[loop.example/g00837/impl.Finger]", by decide, Tryz.func292.trans (congrArg some (by kernel_rfl))⟩,
  f24 := ⟨ "slices.reverseRangeCmpFunc[loop.example/g00837/impl.Finger]", by decide, Tryz.func293.trans (congrArg some (by kernel_rfl))⟩,
  f25 := ⟨ "slices.partialInsertionSortCmpFunc[loop.example/g00837/impl.Finger]", by decide, Tryz.func294.trans (congrArg some (by kernel_rfl))⟩,
  f26 := ⟨ "slices.partitionEqualCmpFunc[loop.example/g00837/impl.Finger]", by decide, Tryz.func295.trans (congrArg some (by kernel_rfl))⟩,
  f27 := ⟨ "slices.partitionCmpFunc[loop.example/g00837/impl.Finger]", by decide, Tryz.func296.trans (congrArg some (by kernel_rfl))⟩,
  f28 := Tryz.func273.trans (congrArg some (by kernel_rfl)),
  f29 := Tryz.func274.trans (congrArg some (by kernel_rfl)),
  f46 := ⟨ "slices.siftDownCmpFunc[loop.example/g00837/impl.Finger]", by decide, Tryz.func298.trans (congrArg some (by kernel_rfl))⟩,
  f47 := Tryz.func282.trans (congrArg some (by kernel_rfl)),
  f48 := Tryz.func283.trans (congrArg some (by kernel_rfl)),
  f49 := ⟨ "slices.medianAdjacentCmpFunc[loop.example/g00837/impl.Finger]", by decide, Tryz.func299.trans (congrArg some (by kernel_rfl))⟩,
  f50 := ⟨ "slices.medianCmpFunc[loop.example/g00837/impl.Finger]", by decide, Tryz.func300.trans (congrArg some (by kernel_rfl))⟩,
  f57 := ⟨ "slices.order2CmpFunc[loop.example/g00837/impl.Finger]", by decide, Tryz.func301.trans (congrArg some (by kernel_rfl))⟩,
  t0 := Tryz.underlying0,
  a0 := Tryz.isAgg0,
  z0 := Tryz.sizeOf0,
  v0 := Tryz.zeroValue0,
  t3 := Tryz.underlying3,
  a3 := Tryz.isAgg3,
  z3 := Tryz.sizeOf3,
  v3 := Tryz.zeroValue3,
  t4 := Tryz.underlying4,
  a4 := Tryz.isAgg4,
  z4 := Tryz.sizeOf4,
  v4 := Tryz.zeroValue4,
  t5 := Tryz.underlying5,
  a5 := Tryz.isAgg5,
  z5 := Tryz.sizeOf5,
  v5 := Tryz.zeroValue5,
  t9 := Tryz.underlying9,
  a9 := Tryz.isAgg9,
  z9 := Tryz.sizeOf9,
  v9 := Tryz.zeroValue9,
  t22 := Tryz.underlying230,
  a22 := Tryz.isAgg230,
  z22 := Tryz.sizeOf230,
  v22 := Tryz.zeroValue230,
  t25 := Tryz.underlying272,
  a25 := Tryz.isAgg272,
  z25 := Tryz.sizeOf272,
  v25 := Tryz.zeroValue272,
  t39 := Tryz.underlying265,
  a39 := Tryz.isAgg265,
  z39 := Tryz.sizeOf265,
  v39 := Tryz.zeroValue265,
  t45 := Tryz.underlying276,
  a45 := Tryz.isAgg276,
  z45 := Tryz.sizeOf276,
  v45 := Tryz.zeroValue276,
  t46 := Tryz.underlying277,
  a46 := Tryz.isAgg277,
  z46 := Tryz.sizeOf277,
  v46 := Tryz.zeroValue277,
  t50 := Tryz.underlying196,
  a50 := Tryz.isAgg196,
  z50 := Tryz.sizeOf196,
  v50 := Tryz.zeroValue196,
  t53 := Tryz.underlying284,
  a53 := Tryz.isAgg284,
  z53 := Tryz.sizeOf284,
  v53 := Tryz.zeroValue284,
  t55 := Tryz.underlying286,
  a55 := Tryz.isAgg286,
  z55 := Tryz.sizeOf286,
  v55 := Tryz.zeroValue286,
  t66 := Tryz.underlying289,
  a66 := Tryz.isAgg289,
  z66 := Tryz.sizeOf289,
  v66 := Tryz.zeroValue289,
  t70 := Tryz.underlying293,
  a70 := Tryz.isAgg293,
  z70 := Tryz.sizeOf293,
  v70 := Tryz.zeroValue293,
  t76 := Tryz.underlying301,
  a76 := Tryz.isAgg301,
  z76 := Tryz.sizeOf301,
  v76 := Tryz.zeroValue301,
  t77 := Tryz.underlying302,
  a77 := Tryz.isAgg302,
  z77 := Tryz.sizeOf302,
  v77 := Tryz.zeroValue302 }
end Go.Proofs
end
section
set_option maxHeartbeats 2000000
namespace Go.TM
open Go Go.Proofs Go.Sort Go.Shelf Go.RowKit Go.Lib
def cmpS (a b : ByteArray) : Int := if ltS a b = true then -1 else if ltS b a = true then 1 else 0
theorem cmpS_lt {a b : ByteArray} : cmpS a b < 0 ↔ ltS a b = true := by
  unfold cmpS
  split
  · rename_i h; simp [h]
  · rename_i h
    split <;> simp [h]
end Go.TM
namespace Go.Proofs
open Go.Shelf Go.RowKit Go.Lib Go.TM Go.Sort
theorem Tryz.isNaN_str (x : ByteArray) (w : World) : Calls Tryz.prog 279 #[.string x] w fun e w' => e = .returned (.bool false) ∧ w' = w := by
  go_enter Tryz.func279, Tryz.ntmps279
  go_wp2
  go_ret
  exact ⟨by simp, rfl⟩
theorem gtr_str (P : Program) (t : TypeId) (x y : ByteArray) (w : World) : (binOp BinOp.gtr t (.string x) (.string y)).run P w = .ok (.bool (!(Op.bytesLess x.toList y.toList || decide (x = y)))) w := by
  simp only [binOp, Op.stringOp, ba_beq, Sem.run_pure]
theorem Tryz.compare_str (x y : ByteArray) (w : World) : Calls Tryz.prog 261 #[.string x, .string y] w fun e w' => e = .returned (.int .i64 (cmpS x y)) ∧ w' = w := by
  have h1 : Op.bytesLess x.toList y.toList = ltS x y := rfl
  have h2 : ltS x y = false → (!(ltS x y || decide (x = y))) = ltS y x := by
    intro h
    rw [h, Bool.false_or]
    cases hy : ltS y x with
    | true =>
      have : x ≠ y := by
        rintro rfl
        rw [ltS_irrefl] at hy
        cases hy
      simp [this]
    | false => simp [ltS_total h hy]
  go_enter Tryz.func261, Tryz.ntmps261
  go_wp2_with (go_at_call 279; refine (Tryz.isNaN_str _ _).mono ?_; rintro e w' ⟨rfl, hw⟩; rw [hw])
  · have h : ltS x y = true := by first | assumption | (simpa using ‹¬ ltS x y = false›)
    go_ret
    refine ⟨?_, rfl⟩
    simp [cmpS, h]
  · have h' : ltS x y = false := by first | assumption | (simpa using ‹¬ ltS x y = true›)
    rw [gtr_str, h1, h2 h']
    go_wp2
    · have hy : ltS y x = true := by first | assumption | (simpa using ‹¬ ltS y x = false›)
      go_ret
      refine ⟨?_, rfl⟩
      simp [cmpS, h', hy]
    · have hy : ltS y x = false := by first | assumption | (simpa using ‹¬ ltS y x = true›)
      go_ret
      refine ⟨?_, rfl⟩
      simp [cmpS, h', hy]
theorem Tryz.closure67 (x y : Fgr) (W : World) : Calls Tryz.prog 260 #[.agg #[.string x.name, .int .i64 x.mark, .int .i64 x.sum], .agg #[.string y.name, .int .i64 y.mark, .int .i64 y.sum]] W fun e w' => e = .returned (.int .i64 (cmpS x.name y.name)) ∧ ∃ q os', w' = grow (W.drewN q) os' := by
  have hcon := fun W' => Tryz.compare_str x.name y.name W'
  generalize cmpS x.name y.name = r at hcon ⊢
  go_enter Tryz.func260, Tryz.ntmps260
  go_wp2_with (go_at_call 261; refine (hcon _).mono ?_; rintro e w' ⟨rfl, rfl⟩)
  go_ret
  exact ⟨rfl, 0, _, by rw [alloc_eq_grow, alloc_eq_grow, grow_grow]; rfl⟩
end Go.Proofs
namespace Go.TM.Tryz
open Go Go.TM Go.Proofs Go.Sort Go.Shelf Go.RowKit Go.Lib
def cfF (x y : Fgr) : Int := cmpS x.name y.name
def ltF (x y : Fgr) : Bool := ltS x.name y.name
theorem ltOf_F : ltOf cfF = ltF := by
  funext x y
  rw [Bool.eq_iff_iff]
  simp [ltOf, cfF, ltF, cmpS_lt]
theorem swoF : SWO (ltOf cfF) := by
  rw [ltOf_F]
  refine ⟨fun x => ltS_irrefl _, fun x y z h k => ltS_trans h k, fun x y z h k => ?_⟩
  simp only [ltF] at *
  cases hxz : ltS x.name z.name with
  | false => rfl
  | true =>
    exfalso
    cases hzy : ltS z.name y.name with
    | true =>
      rw [ltS_trans hxz hzy] at h
      cases h
    | false =>
      have e := ltS_total k hzy
      rw [e, hxz] at h
      cases h
noncomputable def sortF (zs : List Fgr) : List Fgr := (pdq (ltOf cfF) zs.toArray 0 zs.length (Lib.bitLen zs.length) true true).toList
theorem sortF_perm (zs : List Fgr) : (sortF zs).Perm zs ∧ (sortF zs).length = zs.length ∧ (sortF zs).Pairwise (fun x y => ltF y x = false) := by
  have h := pdq_sorts (ltOf cfF) swoF zs.toArray 0 zs.length (Lib.bitLen zs.length) true true (Nat.zero_le _) (Nat.le_refl _) (Or.inl rfl)
  unfold sortF
  generalize pdq (ltOf cfF) zs.toArray 0 zs.length (Lib.bitLen zs.length) true true = d' at h ⊢
  obtain ⟨⟨hsz, _, hperm⟩, hso⟩ := h
  have hsz' : d'.size = zs.length := by simpa using hsz
  have e1 : d'.extract 0 zs.length = d' := by rw [← hsz']; exact Array.extract_size
  have e2 : zs.toArray.extract 0 zs.length = zs.toArray := by simp
  rw [e1, e2] at hperm
  refine ⟨by simpa using hperm, by simpa using hsz', ?_⟩
  rw [List.pairwise_iff_getElem]
  intro i j hi hj hij
  have hi' : i < d'.size := by simpa using hi
  have hj' : j < d'.size := by simpa using hj
  have := hso i j (Nat.zero_le _) hij (by omega)
  rw [ltOf_F, getElem!_pos d' i hi', getElem!_pos d' j hj'] at this
  simpa using this
theorem f259_ok (zs : List Fgr) (h : zs.length ≤ 1048576) : GenOK Tryz.prog 259 [.inl 3 (zs.map Fgr.v), .fn 260 []] [] ⟨false, .tup [], [.inl 3 ((sortF zs).map Fgr.v)], []⟩ := by
  refine sortf_gen (f := Fgr.v) (k := 3) (by omega) (fun _ => rfl) (fun _ => rfl) (sortF_perm zs).2.1 ⟨_, Tryz.func259, by kernel_rfl, by kernel_rfl⟩ (fun hne blk off cap w hH hb => ?_) (fun a cap w => AnyF.slices_SortFunc_none Tryz.sortFgr a cap _ w)
  have eg : ∀ args w, (callFunc 260 args).run Tryz.prog w = .ok (.enter 260 args) w := enters_of Tryz.func260 (by kernel_rfl) rfl
  refine (AnyQ.slices_SortFunc_eq Tryz.sortFgr 3 Tryz.isAgg255 Tryz.sizeOf255 (encF Fgr.v) (fun _ => rfl) (fun x v hv => ?_) cfF swoF 260 #[] blk off cap zs.toArray w eg (fun _ _ _ _ x y => Tryz.closure67 x y _) hH hb (by simp; omega)).mono ?_
  · simp [encF, valL] at hv
    rcases hv with rfl | rfl | rfl <;> rfl
  · rintro e w' ⟨he, n, os, hw⟩
    exact ⟨he, n, os, hw⟩
def posF (f : Fgr) (out : List Fgr) : Nat → Nat
  | 0 => 0
  | n + 1 => if (out[n]?).any (fun x => ltF f x) = true then posF f out n else n + 1
theorem posF_le (f : Fgr) (out : List Fgr) : ∀ n, posF f out n ≤ n
  | 0 => Nat.le_refl _
  | n + 1 => by
    unfold posF
    split
    · exact Nat.le_succ_of_le (posF_le f out n)
    · exact Nat.le_refl _
theorem posF_gt (f : Fgr) (out : List Fgr) : ∀ n j x, posF f out n ≤ j → j < n → out[j]? = some x → ltF f x = true
  | 0, j, x, _, h, _ => by omega
  | n + 1, j, x, h1, h2, hx => by
    unfold posF at h1
    split at h1
    · rename_i hc
      by_cases hj : j = n
      · subst hj
        rw [hx] at hc
        simpa using hc
      · exact posF_gt f out n j x h1 (by omega) hx
    · omega
theorem posF_at (f : Fgr) (out : List Fgr) : ∀ n, posF f out n = 0 ∨ ∃ m, posF f out n = m + 1 ∧ (out[m]?).any (fun x => ltF f x) = false
  | 0 => .inl rfl
  | n + 1 => by
    unfold posF
    split
    · exact posF_at f out n
    · rename_i hc
      exact .inr ⟨n, rfl, by simpa using hc⟩
def insF (out : List Fgr) (f : Fgr) : List Fgr := out.take (posF f out out.length) ++ f :: out.drop (posF f out out.length)
theorem insF_perm (out : List Fgr) (f : Fgr) : (insF out f).Perm (f :: out) := by
  unfold insF
  refine List.perm_middle.trans ?_
  rw [List.take_append_drop]
theorem insF_sorted {out : List Fgr} {f : Fgr} (h : out.Pairwise (fun x y => ltF y x = false)) : (insF out f).Pairwise (fun x y => ltF y x = false) := by
  have hle := posF_le f out out.length
  have hgt := posF_gt f out out.length
  have hat := posF_at f out out.length
  unfold insF
  generalize posF f out out.length = n at *
  have h0 := h
  rw [← List.take_append_drop n out] at h
  rw [List.pairwise_append] at h ⊢
  obtain ⟨h1, h2, h3⟩ := h
  have swo := swoF
  rw [ltOf_F] at swo
  refine ⟨h1, ?_, ?_⟩
  · rw [List.pairwise_cons]
    refine ⟨fun y hy => ?_, h2⟩
    obtain ⟨j, hj, rfl⟩ := List.mem_iff_getElem.1 hy
    simp only [List.length_drop] at hj
    rw [List.getElem_drop]
    exact ltS_asymm (hgt (n + j) _ (by omega) (by omega) (List.getElem?_eq_getElem (by omega)))
  · intro x hx y hy
    rcases List.mem_cons.1 hy with rfl | hy
    · rcases hat with rfl | ⟨m, rfl, hm⟩
      · simp at hx
      · obtain ⟨j, hj, rfl⟩ := List.mem_take_iff_getElem.1 hx
        have hml : m < out.length := by omega
        rw [List.getElem?_eq_getElem hml] at hm
        simp only [Option.any_some] at hm
        by_cases hjm : j = m
        · subst hjm; exact hm
        · have h5 : ltF out[m] out[j] = false := by
            rw [List.pairwise_iff_getElem] at h0
            exact h0 j m (by omega) hml (by omega)
          exact swo.ntrans _ _ _ hm h5
    · exact h3 x hx y hy
def insL (zs : List Fgr) : List Fgr := zs.foldl insF []
theorem insL_spec : ∀ (zs out : List Fgr), out.Pairwise (fun x y => ltF y x = false) → (zs.foldl insF out).Perm (out ++ zs) ∧ (zs.foldl insF out).Pairwise (fun x y => ltF y x = false)
  | [], out, h => by simp [h]
  | z :: zs, out, h => by
    have h1 := insL_spec zs (insF out z) (insF_sorted h)
    refine ⟨h1.1.trans ?_, h1.2⟩
    refine (List.Perm.append_right zs (insF_perm out z)).trans ?_
    simp only [List.cons_append]
    exact List.perm_middle.symm
theorem sort_same {zs : List Fgr} (h : (zs.map Fgr.name).Nodup) : sortF zs = insL zs := by
  obtain ⟨h1, _, h2⟩ := sortF_perm zs
  obtain ⟨h3, h4⟩ := insL_spec zs [] List.Pairwise.nil
  have hp : (sortF zs).Perm (insL zs) := h1.trans (by simpa [insL] using h3.symm)
  refine List.Perm.eq_of_pairwise ?_ h2 h4 hp
  intro a b ha hb hab hba
  have hn : a.name = b.name := ltS_total hba hab
  have ha' := h1.mem_iff.1 ha
  have hb' : b ∈ zs := h1.mem_iff.1 (hp.mem_iff.2 hb)
  obtain ⟨i, hi, rfl⟩ := List.mem_iff_getElem.1 ha'
  obtain ⟨j, hj, rfl⟩ := List.mem_iff_getElem.1 hb'
  unfold List.Nodup at h
  rw [List.pairwise_iff_getElem] at h
  rcases Nat.lt_trichotomy i j with hlt | rfl | hlt
  · exact (h i j (by simpa using hi) (by simpa using hj) hlt (by simpa using hn)).elim
  · rfl
  · exact (h j i (by simpa using hj) (by simpa using hi) hlt (by simpa using hn.symm)).elim
end Go.TM.Tryz
end
section
set_option maxHeartbeats 4000000
set_option maxRecDepth 10000
namespace Go.TM.Tryz
open Go Go.TM Go.Proofs
noncomputable def fgrOf (cur : List Int) (o : Obj) : Fgr := ⟨o.name, o.mark, objT cur o⟩
noncomputable def fgrsTo (cur : List Int) (os : List Obj) (i : Nat) : List Fgr := ((os.take i).filter (fun o => decide (0 < o.mark))).map (fgrOf cur)
noncomputable def fgrs (cur : List Int) (os : List Obj) : List Fgr := (os.filter (fun o => decide (0 < o.mark))).map (fgrOf cur)
theorem fgrsTo_zero (cur : List Int) (os : List Obj) : fgrsTo cur os 0 = [] := rfl
theorem fgrsTo_all (cur : List Int) (os : List Obj) : fgrsTo cur os os.length = fgrs cur os := by simp [fgrsTo, fgrs]
theorem fgrsTo_yes {cur : List Int} {os : List Obj} {i : Nat} {o : Obj} (h : os[i]? = some o) (hm : 0 < o.mark) : fgrsTo cur os (i + 1) = fgrsTo cur os i ++ [fgrOf cur o] := by
  simp [fgrsTo, List.take_add_one, h, hm]
theorem fgrsTo_no {cur : List Int} {os : List Obj} {i : Nat} {o : Obj} (h : os[i]? = some o) (hm : ¬ 0 < o.mark) : fgrsTo cur os (i + 1) = fgrsTo cur os i := by
  simp [fgrsTo, List.take_add_one, h, hm]
theorem fgrsTo_len (cur : List Int) (os : List Obj) (i : Nat) : (fgrsTo cur os i).length ≤ os.length := by
  simp only [fgrsTo, List.length_map]
  exact Nat.le_trans (List.length_filter_le _ _) (by simp; omega)
theorem fgrs_names {cur : List Int} {os : List Obj} (h : (os.map Obj.name).Nodup) : ((fgrs cur os).map Fgr.name).Nodup := by
  have e : (fgrs cur os).map Fgr.name = (os.filter (fun o => decide (0 < o.mark))).map Obj.name := by
    simp [fgrs, fgrOf, Function.comp_def]
  rw [e]
  exact h.sublist ((List.filter_sublist (l := os)).map Obj.name)
theorem injF {β : Type} (out : List Fgr → β) : ∀ a b : List Fgr, (([.inl 3 (a.map Fgr.v), .fn 260 []], []) : List V × List V) = ([.inl 3 (b.map Fgr.v), .fn 260 []], []) → out a = out b := by
  intro a b h
  simp only [Prod.mk.injEq, List.cons.injEq, and_true, V.inl.injEq, true_and] at h
  rw [map_inj Fgr.v_inj h]
noncomputable def c259 := ctrG (fun zs : List Fgr => zs.length ≤ 1048576) (fun zs => ([.inl 3 (zs.map Fgr.v), .fn 260 []], [])) (fun zs => ⟨false, .tup [], [.inl 3 ((sortF zs).map Fgr.v)], []⟩)
theorem c259_eq (zs : List Fgr) (h : zs.length ≤ 1048576) : c259 [.inl 3 (zs.map Fgr.v), .fn 260 []] [] = some ⟨false, .tup [], [.inl 3 ((sortF zs).map Fgr.v)], []⟩ := ctrG_eq (injF _) zs h rfl
theorem c259_ok : GOK Tryz.prog (259, [true], c259) := ctrG_ok fun zs h => f259_ok zs h
def cut30 : Pl := ⟨[0, 6], [(1, false), (2, false), (3, false), (4, false), (5, false), (7, true)], [], [8, 9, 10, 11], .seq [8, 9, 10, 11]⟩
theorem cut30_run {E : Env} (pl : Option (List (Nat × Bool))) (ops : Array Oper) (k : List Fr) (Q : X → S → Prop) (s : S) : aftE (some cut30) pl ops k E Q s = preK E ops k Q (.seq [8, 9, 10, 11]) [(0, false), (6, false), (1, false), (2, false), (3, false), (4, false), (5, false), (7, true)] s := rfl
theorem roomF {n : Nat} (h : n ≤ 1048576) : room ⟨3, true, 32, .agg [.str ⟨#[]⟩, .int .i64 0, .int .i64 0]⟩ n := by simp [room]; omega
noncomputable def fgI (s : Scp) : List Fgr := sortF (fgrs (roundsT s.types 25) s.objects)
noncomputable def fgS (s : Scp) : List Fgr := insL (fgrs (roundsT s.types 25) s.objects)
theorem fg_eq {s : Scp} (h : SRef s) : fgI s = fgS s := sort_same (fgrs_names h.names)
end Go.TM.Tryz
end
section
set_option maxHeartbeats 4000000
set_option maxRecDepth 10000
namespace Go.TM.Tryz
open Go Go.TM Go.Proofs
def holdF (out : List Fgr) (n : Nat) (g : Fgr) : List Fgr := out.take n ++ g :: out.drop n
theorem holdF_len {out : List Fgr} {n : Nat} (g : Fgr) (h : n ≤ out.length) : (holdF out n g).length = out.length + 1 := by
  simp [holdF]; omega
theorem holdF_at {out : List Fgr} {n : Nat} (g : Fgr) (h : n ≤ out.length) : (holdF out n g)[n]? = some g := by
  have e : (out.take n).length = n := by simp; omega
  rw [holdF, List.getElem?_append_right (by omega), e]
  simp
theorem holdF_lt {out : List Fgr} {n m : Nat} (g : Fgr) (h : n ≤ out.length) (hm : m < n) : (holdF out n g)[m]? = out[m]? := by
  rw [holdF, List.getElem?_append_left (by simp; omega), List.getElem?_take, if_pos hm]
theorem holdF_set {out : List Fgr} {n : Nat} (g f : Fgr) (h : n ≤ out.length) : (holdF out n g).set n f = holdF out n f := by
  have e : (out.take n).length = n := by simp; omega
  unfold holdF
  rw [List.set_append, if_neg (by omega), e]
  simp
theorem holdF_down {out : List Fgr} {n : Nat} {x : Fgr} (hx : out[n]? = some x) : holdF out (n + 1) x = holdF out n x := by
  have hn : n < out.length := (List.getElem?_eq_some_iff.1 hx).1
  have hg : out[n] = x := (List.getElem?_eq_some_iff.1 hx).2
  unfold holdF
  rw [List.take_add_one, hx]
  conv => rhs; rw [List.drop_eq_getElem_cons hn, hg]
  simp
theorem holdF_top (out : List Fgr) (f : Fgr) : holdF out out.length f = out ++ [f] := by simp [holdF]
theorem gtr_ltS (a b : ByteArray) : (!(Op.bytesLess a.toList b.toList || decide (a = b))) = ltS b a := by
  have h1 : Op.bytesLess a.toList b.toList = ltS a b := rfl
  rw [h1]
  cases h : ltS a b with
  | true => rw [ltS_asymm h]; rfl
  | false =>
    rw [Bool.false_or]
    cases hy : ltS b a with
    | true =>
      have : a ≠ b := by
        rintro rfl
        rw [ltS_irrefl] at hy
        cases hy
      simp [this]
    | false => simp [ltS_total h hy]
theorem posF_yes {f x : Fgr} {out : List Fgr} {m : Nat} (hx : out[m]? = some x) (h : ltF f x = true) : posF f out (m + 1) = posF f out m := by
  rw [posF, hx]
  simp [h]
theorem posF_no {f x : Fgr} {out : List Fgr} {m : Nat} (hx : out[m]? = some x) (h : ltF f x = false) : posF f out (m + 1) = m + 1 := by
  rw [posF, hx]
  simp [h]
theorem insF_eq (out : List Fgr) (f : Fgr) : insF out f = holdF out (posF f out out.length) f := rfl
noncomputable def insTo (cur : List Int) (os : List Obj) (i : Nat) : List Fgr := insL (fgrsTo cur os i)
theorem insTo_zero (cur : List Int) (os : List Obj) : insTo cur os 0 = [] := rfl
theorem insTo_yes {cur : List Int} {os : List Obj} {i : Nat} {o : Obj} (h : os[i]? = some o) (hm : 0 < o.mark) : insTo cur os (i + 1) = insF (insTo cur os i) (fgrOf cur o) := by
  simp [insTo, insL, fgrsTo_yes h hm]
theorem insTo_no {cur : List Int} {os : List Obj} {i : Nat} {o : Obj} (h : os[i]? = some o) (hm : ¬ 0 < o.mark) : insTo cur os (i + 1) = insTo cur os i := by
  simp [insTo, fgrsTo_no h hm]
theorem insTo_len (cur : List Int) (os : List Obj) (i : Nat) : (insTo cur os i).length ≤ os.length := by
  have h := (insL_spec (fgrsTo cur os i) [] List.Pairwise.nil).1.length_eq
  have := fgrsTo_len cur os i
  simp only [insTo, insL, h, List.nil_append]
  exact this
def tree24 : TT := .two true 7 (.two true 8 (.one false 9 (.one false 10 .done)) false 9 (.one true 8 (.one false 10 .done))) false 9 (.one true 7 (.one true 8 (.one false 10 .done)))
def cut24 : Pl := ⟨[5], [(0, false), (1, false), (2, false), (3, false), (4, false), (6, false)], [7, 9], [8, 10], tree24⟩
theorem cut24_run {E : Env} (pl : Option (List (Nat × Bool))) (ops : Array Oper) (k : List Fr) (Q : X → S → Prop) (s : S) : aftE (some cut24) pl ops k E Q s = preK E ops k Q tree24 [(5, false), (0, false), (1, false), (2, false), (3, false), (4, false), (6, false)] s := rfl
theorem f205_ok (s : Scp) (h : SRef s) (hmk : ∀ o ∈ s.objects, 0 ≤ o.mark) : FunOK Tryz.prog 205 [s.v] false (.inl 3 ((fgS s).map Fgr.v)) := by
  refine fun_ok (mkE2_ok zmix (cl := [(237, c237), (238, c238)]) (gl := []) [] [(7, cut24)] ⟨c237_ok, c238_ok⟩ trivial) Tryz.func205 (by kernel_rfl) ?_
  refine FunW_run _ _ rfl rfl ?_
  have e52 := c237_eq s.types h.ty
  have hcl := roundsT_len s.types 25
  have hol := h.objs
  have hc24 := h.ty.len
  unfold fgS
  generalize roundsT s.types 25 = cur at *
  simp [e52]
  refine lp_list s.objects (fun i t => t.e 13 = .lst (s.objects.map Obj.v) ∧ t.e 14 = .int .i64 s.objects.length ∧ t.e 15 = .int .i64 i ∧ (∃ b, t.e 1 = .ptr b 0 ∧ b < t.nb ∧ t.B b = some s.v) ∧ (∃ r q, t.e 4 = .own r ∧ t.e 3 = .own q ∧ r < t.nt ∧ q < t.nt ∧ r ≠ q ∧ t.R r = some ⟨3, (insTo cur s.objects i).map Fgr.v, true⟩ ∧ t.R q = some ⟨1, cur.map (V.int .i64), true⟩)) ?_ ?_ ?_
  · simp [insTo_zero]
  · rintro c' L hL i t o hx hi ih ⟨h13, h14, h15, ⟨b, h1, hbn, hB⟩, r, q, h4, h3, hr, hq, nrq, hR, hQ⟩
    have hw := wrI (i := i) (by omega)
    have hor := h.obj o (List.mem_of_getElem? hx)
    have hmo := hmk o (List.mem_of_getElem? hx)
    have e53 := c238_eq s o cur (by rw [hcl]; exact hor) (by omega)
    simp only [Obj.v, Scp.v] at e53
    simp only [Scp.v] at hB
    have nqr : ¬ q = r := fun e => nrq e.symm
    have n1 : ¬ r = t.nt := by omega
    have n2 : ¬ q = t.nt := by omega
    have m1 : ¬ r = t.nt + 1 := by omega
    have m2 : ¬ q = t.nt + 1 := by omega
    have b1 : ¬ b = t.nb := by omega
    have b2 : ¬ t.nb = b := by omega
    have b3 : ¬ b = t.nb + 1 := by omega
    by_cases hm : 0 < o.mark
    · have hm0 : ¬ o.mark = 0 := by omega
      have hlen := insTo_len cur s.objects i
      have hil := insTo_yes (cur := cur) hx hm
      generalize hf : fgrOf cur o = f at hil
      have hfv : V.agg [V.str o.name, .int .i64 o.mark, .int .i64 (objT cur o)] = f.v := by rw [← hf]; rfl
      have rm := roomF (n := (insTo cur s.objects i).length + 1) (by omega)
      generalize insTo cur s.objects i = out at *
      simp [-getElem?_pos, gcz, gcs, -aftE_some, cut24_run, tree24, pureOp, h13, h14, h15, h1, hB, h3, h4, hR, hQ, hL, hi, hx, e53, hm0, n1, n2, m1, m2, b1, b2, b3, range1, rm]
      refine ⟨⟨?_, ?_⟩, ?_⟩
      all_goals
        refine lp_ind (fun m t => t.e 13 = .lst (s.objects.map Obj.v) ∧ t.e 14 = .int .i64 s.objects.length ∧ t.e 15 = .int .i64 i ∧ t.e 8 = .int .i64 m ∧ m ≤ out.length ∧ posF f out m = posF f out out.length ∧ (∃ b, t.e 1 = .ptr b 0 ∧ b < t.nb ∧ t.B b = some s.v) ∧ (∃ d, t.e 7 = .ptr d 0 ∧ d < t.nb ∧ t.B d = some f.v) ∧
          (∃ r q g, t.e 4 = .own r ∧ t.e 3 = .own q ∧ r < t.nt ∧ q < t.nt ∧ r ≠ q ∧ t.R r = some ⟨3, (holdF out m g).map Fgr.v, true⟩ ∧ t.R q = some ⟨1, cur.map (V.int .i64), true⟩)) out.length ?_ ?_
        · simp [h13, h14, h15, h1, hB, h3, h4, hR, hQ, n1, n2, m1, m2, b1, b2, b3, nrq, nqr, hfv]
          exact ⟨by omega, by omega, by omega, ⟨f, by simp [holdF_top]⟩, by omega⟩
        · clear h13 h14 h15 h1 hB h3 h4 hR hQ n1 n2 m1 m2 b1 b2 b3 nrq nqr hr hq hbn
          rintro c2 L2 hL2 m t ih2 ⟨h13, h14, h15, h8, hml, hpos, ⟨b, h1, hbn, hB⟩, ⟨d, h7, hdn, hD⟩, r, q, g, h4, h3, hr, hq, nrq, hR, hQ⟩
          have nqr : ¬ q = r := fun e => nrq e.symm
          have hhl := holdF_len g hml
          have hat := holdF_at g hml
          simp only [Fgr.v] at hD
          have fin : ∀ s', posF f out out.length = m → s'.e 13 = .lst (s.objects.map Obj.v) → s'.e 14 = .int .i64 s.objects.length → s'.e 15 = .int .i64 ((i + 1 : Nat) : Int) → s'.e 1 = .ptr b 0 → b < s'.nb → s'.B b = some s.v → s'.e 4 = .own r → s'.e 3 = .own q → r < s'.nt → q < s'.nt → s'.R r = some ⟨3, ((holdF out m g).set m f).map Fgr.v, true⟩ → s'.R q = some ⟨1, cur.map (V.int .i64), true⟩ → L s' := by
            intro s' hp a1 a2 a3 a4 a5 a6 a7 a8 a9 a10 a11 a12
            refine ih s' ⟨a1, a2, a3, ⟨b, a4, a5, a6⟩, r, q, a7, a8, a9, a10, nrq, ?_, a12⟩
            rw [hil, insF_eq, hp, a11, holdF_set g f hml]
          have hmi : (m : Int) < out.length + 1 := by omega
          cases m with
          | zero =>
            have hw0 : IntKind.i64.wrap (-1) = -1 := wrap64 (by omega) (by omega)
            have hz1 : (-1 : Int) < out.length + 1 := by omega
            have hz2 : (0 : Int) < out.length + 1 := by omega
            simp [hw0, hz1, hz2, -getElem?_pos, gcz, gcs, h13, h14, h15, h8, h1, hB, h7, hD, h4, h3, hR, hQ, hL, hhl, hat]
            apply fin <;> first | exact hpos.symm | simp [h13, h14, h15, h1, hB, h4, h3, hR, hQ, hw, hbn, hr, hq, nqr, List.map_set]
          | succ m =>
            have hmo : m < out.length := by omega
            obtain ⟨x, hxm⟩ : ∃ x, out[m]? = some x := ⟨_, List.getElem?_eq_getElem hmo⟩
            have hlt := (holdF_lt g hml (Nat.lt_succ_self m)).trans hxm
            have hwm : IntKind.i64.wrap (m : Int) = (m : Int) := wrap64 (by omega) (by omega)
            have hm4 : (m : Int) + 1 < out.length + 1 := by omega
            have hm1 : 0 < (m : Int) + 1 := by omega
            have hm2 : (m : Int) < out.length + 1 := by omega
            have hm3 : m < out.length + 1 := by omega
            cases hc : ltF f x with
            | true =>
              have hc' : ltS f.name x.name = true := hc
              simp [-getElem?_pos, -Bool.not_or, gcz, gcs, gtr_ltS, h13, h14, h15, h8, h1, hB, h7, hD, h4, h3, hR, hQ, hL, hL2, hhl, hat, hlt, hwm, hm1, hm2, hm3, hm4, hc']
              refine ⟨by omega, hmo, ih2 m _ (Nat.lt_succ_self m) ?_⟩
              have hps : posF f out m = posF f out out.length := (posF_yes hxm hc).symm.trans hpos
              have hst : ((holdF out (m + 1) g).set (m + 1) x).map Fgr.v = (holdF out m x).map Fgr.v := by rw [holdF_set g x hml, holdF_down hxm]
              rw [List.map_set] at hst
              simp only [Fgr.v] at hst
              simp [h13, h14, h15, h1, hB, h7, hD, h4, h3, hR, hQ, hwm, hbn, hdn, hr, hq, nrq, nqr, hps, hst]
              exact ⟨by omega, x, rfl⟩
            | false =>
              have hc' : ltS f.name x.name = false := hc
              simp [-getElem?_pos, -Bool.not_or, gcz, gcs, gtr_ltS, h13, h14, h15, h8, h1, hB, h7, hD, h4, h3, hR, hQ, hL, hhl, hat, hlt, hwm, hm1, hm2, hm3, hm4, hc']
              refine ⟨by omega, hmo, ?_⟩
              apply fin <;> first | exact (hpos.symm.trans (posF_no hxm hc)) | simp [h13, h14, h15, h1, hB, h4, h3, hR, hQ, hw, hbn, hr, hq, nqr, List.map_set]
    · have hm0 : o.mark = 0 := by omega
      simp [-getElem?_pos, gcz, gcs, h13, h14, h15, h1, hB, h3, h4, hR, hQ, hL, hi, hx, hm0, n1, n2, b1, b2]
      refine ih _ ?_
      simp [h13, h14, h15, h1, hB, h3, h4, hR, hQ, hw, n1, n2, nrq, b1, b2, insTo_no hx hm]
      omega
  · rintro c' t ⟨h13, h14, h15, ⟨b, h1, hbn, hB⟩, r, q, h4, h3, hr, hq, nrq, hR, hQ⟩
    have e : insTo cur s.objects s.objects.length = insL (fgrs cur s.objects) := by rw [insTo, fgrsTo_all]
    rw [e] at hR
    simp [h13, h14, h15, h3, h4, hR, hQ]
theorem scopeI_mark {s : Scp} (h : scopeI s = true) : ∀ o ∈ s.objects, 0 ≤ o.mark := by
  intro o ho
  rw [← good_eq] at h
  simp only [goodS, Bool.and_eq_true, objAtS_iff] at h
  have := (h.1.1.2.1 o ho).2
  unfold objIB at this
  simp only [Bool.and_eq_true, objIHead, inB_iff] at this
  omega
noncomputable def c205 := ctr (fun s : Scp => scopeI s = true) (fun s => [s.v]) (fun s => (false, .inl 3 ((fgS s).map Fgr.v)))
theorem c205_eq (s : Scp) (h : scopeI s = true) : c205 [s.v] = some (false, .inl 3 ((fgS s).map Fgr.v)) := ctr_eq (inj0 Scp.v_inj _) s h rfl
theorem c205_ok : COK Tryz.prog (205, c205) := ctr_ok fun s h => f205_ok s (scopeI_refs h) (scopeI_mark h)
end Go.TM.Tryz
end
section
set_option maxHeartbeats 4000000
set_option maxRecDepth 10000
namespace Go.TM.Tryz
open Go Go.TM Go.Proofs
def findF (l : List Fgr) (n : ByteArray) : Option Fgr := l.find? (fun y => decide (y.name = n))
def sumO : Option Fgr → Int
  | some y => y.sum
  | none => 0
theorem findF_at {l : List Fgr} {i : Nat} {x : Fgr} (n : ByteArray) (h : l[i]? = some x) : (l.drop i).find? (fun y => decide (y.name = n)) = if x.name = n then some x else (l.drop (i + 1)).find? (fun y => decide (y.name = n)) := by
  obtain ⟨hi, hx⟩ := List.getElem?_eq_some_iff.1 h
  rw [List.drop_eq_getElem_cons hi, hx, List.find?_cons]
  by_cases he : x.name = n <;> simp [he]
theorem fgI_len (s : Scp) : (fgI s).length ≤ s.objects.length := by
  rw [fgI, (sortF_perm _).2.1, fgrs, List.length_map]
  exact List.length_filter_le _ _
end Go.TM.Tryz
end
