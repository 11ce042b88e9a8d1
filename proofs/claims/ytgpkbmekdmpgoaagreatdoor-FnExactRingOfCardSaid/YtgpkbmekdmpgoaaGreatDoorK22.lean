/- The row: FnExactRingOf. -/
import Derived.Test.YtgpkbmekdmpgoaaGreatDoorK21
import Derived.ProofKit
import Derived.OpenShut
import Derived.LaidMore
import Derived.Lay
import Derived.SevenTiedAt
import Derived.Stop.Joined
import Derived.Test.YtgpkbmekdmpgoaaGreatDoorRows
import Derived.Test.YtgpkbmekdmpgoaaGreatDoorCards
import Derived.Test.YtgpkbmekdmpgoaaGreatDoorTie
set_option linter.unusedVariables false
set_option linter.unusedSimpArgs false
section
set_option maxHeartbeats 16000000
set_option maxRecDepth 20000
namespace Go.TM.Tryz
open Go Go.TM Go.Proofs
noncomputable def ringR (l : List Src) : List Int × Bool := if goodL l = true then ringG (rowsN l) else ([], false)
theorem ringR_len (l : List Src) : (ringR l).1.length ≤ 21 := by
  unfold ringR
  split
  · exact ringG_len _
  · simp
theorem elem_at (l : List Src) {j : Nat} (hj : j < l.length) : ∃ a : List Int × Bool, (needsS l)[j]? = some (elemV a) ∧ (rowsA l).getD j [] = a.1 := by
  refine ⟨numsN l (impS l[j].text).1, ?_, ?_⟩
  · unfold needsS
    rw [List.getElem?_map, List.getElem?_eq_getElem hj]
    rfl
  · unfold rowsA
    rw [List.getD_eq_getElem?_getD, List.getElem?_map, List.getElem?_eq_getElem hj]
    rfl
theorem f34_ok (l : List Src) (hl : SrcsOk l) : FunOK Tryz.prog 34 [.lst (l.map Src.v)] false (.tup [.inl 1 ((ringR l).1.map (V.int .i64)), .bool (ringR l).2]) := by
  refine fun_ok (mkE_ok zmix (cl := [(59, c59), (60, c60), (70, c70), (71, c71)]) (gl := []) [] ⟨c59_ok, c60_ok, c70_ok, c71_ok⟩ trivial) Tryz.func34 (by kernel_rfl) ?_
  refine FunW_run _ _ rfl rfl ?_
  have hll := hl.1
  have e59 := c59_eq l hl
  have e60 := c60_eq l hl
  have hn := norms_needsS l
  have hr : ringR l = if goodL l = true then ringG (rowsN l) else ([], false) := rfl
  generalize ringR l = R at *
  cases h : goodL l with
  | false =>
    rw [h] at e59 hr
    rw [if_neg (by simp)] at hr
    subst hr
    simp [e59]
  | true =>
  rw [h] at e59 hr
  rw [if_pos rfl] at hr
  have hG := rowsN_gr l
  have hGl := rowsN_len l
  rw [if_pos h] at hGl
  have hE := fun j => @elem_at l j
  rw [← rowsN_good h] at hn hE
  have hEl : (needsS l).length = l.length := by unfold needsS; rw [List.length_map]
  have hG8 := hG.1
  have h70 := fun k hk => c70_eq (rowsN l) k hG hk
  have h71 := fun (j : Nat) (k : Int) (hj : j < l.length) (hk : inG (rowsN l) k) => c71_eq ((rowsN l).getD j []) (farS (rowsN l) k) (by
    obtain ⟨y, h1, h2, _⟩ := row_at (G := rowsN l) (n := (j : Int)) ⟨by omega, by omega⟩
    rw [Int.toNat_natCast] at h2
    rw [h2]
    have := hG.len y (List.mem_of_getElem? h1)
    omega) (by rw [farS_len]; omega) (fun x hx => by
    rw [farS_len]
    exact hG.at (k := (j : Int)) (by rw [Int.toNat_natCast]; exact hx))
  generalize rowsN l = G at *
  generalize needsS l = E at *
  simp [-intsV, -intsO, e59, e60]
  refine lp_list E (fun i t => t.e 4 = .own 1 ∧ t.R 1 = some ⟨1, E, true⟩ ∧ 1 < t.nt ∧ t.e 15 = .int .i64 E.length ∧ t.e 16 = .int .i64 i ∧ ∀ j, j < i → hasRing G j = false) ?_ ?_ ?_
  · simp
  · rintro c' L hL i t x hx hi ih ⟨g4, hR, hnt, g15, g16, hno⟩
    have hw := wrI (i := i) (by omega)
    have hig : inG G (i : Int) := ⟨by omega, by omega⟩
    have e70 := h70 i hig
    have e71 := h71 i i (by omega) hig
    have hD := farS_ok hG hig
    have hh : hasRing G i = decide (0 ≤ nextF (farS G i) (G.getD i [])) := by unfold hasRing; rw [Int.toNat_natCast]
    have hst := ring_start (k := i) hG (by omega)
    have hfin : hasRing G i = true → ringG G = (ringAt G i, true) := fun h => by
      unfold ringG
      rw [ring_hit (k := i) (G := G) (by omega) hno h]
    have hFl := farS_len G i
    have h71' := fun (j : Nat) (hj : j < l.length) => h71 j i hj hig
    have hto := next_to hG hig hD
    have hstep := fun {f : Nat} {at_ : Int} {out : List Int} (h : RW G (farS G i) i (ringAt G i) f at_ out) hk => RW.step hG hig hD h hk
    obtain ⟨a, ha, ha2⟩ := hE i (by omega)
    rw [hx] at ha
    obtain rfl := Option.some.inj ha
    rw [ha2] at e71 hh
    generalize ringAt G i = T at *
    generalize farS G i = F at *
    have n1 : ¬ 1 = t.nt := by omega
    by_cases hpos : 0 ≤ nextF F a.1
    · have hh : hasRing G i = true := by rw [hh]; exact decide_eq_true hpos
      have hst := hst hh
      have hr : R = (T, true) := by rw [hr, hfin hh]
      subst hr
      have hneg : ¬ nextF F a.1 < 0 := by omega
      have ha1 : nextF F a.1 = nextF F (G.getD ((i : Int)).toNat []) := by rw [Int.toNat_natCast, ha2]
      have n2 : ¬ t.nt = t.nt + 1 := by omega
      obtain ⟨y, fl⟩ := a
      simp only at e71 ha2 hpos hneg ha1
      have ha3 : nextF F (G[i]?.getD []) = nextF F y := by rw [← List.getD_eq_getElem?_getD, ha2]
      have n0 : ¬ t.nt = 0 := by omega
      cases fl <;> simp [-intsV, -intsO, -getElem?_pos, gcz, gcs, g4, hR, g15, g16, hL, hi, hx, hn, e70, e71, hneg, n1, elemV]
      all_goals
        refine lp_ind (fun f u => ∃ at_ out, RW G F i T f at_ out ∧ (u.e 4 = .own 1 ∧ u.e 5 = .int .i64 i ∧ u.e 6 = .own t.nt ∧ u.e 7 = .int .i64 (nextF F (G.getD at_.toNat []))) ∧ u.R 1 = some ⟨1, E, true⟩ ∧ u.R t.nt = some ⟨1, F.map (V.int .i64), true⟩ ∧ (∃ ro, u.e 8 = .own ro ∧ ro < u.nt ∧ t.nt < ro ∧ u.R ro = some ⟨1, out.map (V.int .i64), true⟩)) 20 ⟨(i : Int), [(i : Int)], hst, by simp [g4, ha3], by simp [hR, n1, n0], by simp, t.nt + 1, by simp, by simp, by omega, by simp⟩ ?_
        rintro c2 L2 hL2 f u ih2 ⟨at_, out, hrw, ⟨u4, u5, u6, u7⟩, uE, uF, ro, u8, hro, hro2, uR⟩
        by_cases hk : (i : Int) ∈ G.getD at_.toNat []
        · have hb := (hto at_).2 hk
          have hT := hrw.done hk
          rw [hb] at u7
          subst hT
          simp [-intsV, -intsO, u4, u5, u6, u7, u8, uE, uF, uR]
        · have hb : ¬ nextF F (G.getD at_.toNat []) = (i : Int) := fun e => hk ((hto at_).1 e)
          obtain ⟨f', rfl, hrw2⟩ := hstep hrw hk
          have hbin := hrw2.at_in
          have hlen := hrw2.len
          generalize nextF F (G.getD at_.toNat []) = b at *
          obtain ⟨b0, b1⟩ := hbin
          have b2 : b.toNat < E.length := by omega
          have b1' : b < E.length := by omega
          obtain ⟨a2, hb2, hb3⟩ := hE b.toNat (by omega)
          have e71b := h71' b.toNat (by omega)
          rw [hb3] at e71b
          rw [List.length_append, List.length_singleton] at hlen
          have r1 : room ⟨1, false, 8, .int .i64 0⟩ 1 := by simp [room]
          have r2 : room ⟨1, false, 8, .int .i64 0⟩ (out.length + 1) := by simp [room]; omega
          have m1 : ¬ 1 = u.nt := by omega
          have m2 : ¬ 1 = u.nt + 1 := by omega
          have m3 : ¬ t.nt = u.nt := by omega
          have m4 : ¬ t.nt = u.nt + 1 := by omega
          have m5 : ¬ ro = u.nt := by omega
          have m6 : ¬ 1 = ro := by omega
          have m7 : ¬ t.nt = ro := by omega
          have m8 : ¬ u.nt = 0 := by omega
          obtain ⟨y2, fl2⟩ := a2
          simp only at e71b hb3
          have hb5 : nextF F (G[b.toNat]?.getD []) = nextF F y2 := by rw [← List.getD_eq_getElem?_getD, hb3]
          cases fl2 <;> simp [-intsV, -intsO, -getElem?_pos, gcz, gcs, u4, u5, u6, u7, u8, uE, uF, uR, hb, b0, b1', b2, hb2, e71b, elemV, r1, r2, m1, m2, m3, m4, m5, m6, m7, m8, hL2]
          all_goals exact ih2 f' _ (by omega) ⟨b, out ++ [b], hrw2, by simp [u4, u5, u6, hb5], by simp [uE, m1, m2, m6, m8], by simp [uF, m3, m4, m7], u.nt + 1, by simp, by simp, by omega, by simp⟩
    · have hh : hasRing G i = false := by rw [hh]; exact decide_eq_false hpos
      have hneg : nextF F a.1 < 0 := by omega
      have hno2 : ∀ j, j < i + 1 → hasRing G j = false := fun j hj => by
        by_cases e : j = i
        · rw [e, hh]
        · exact hno j (by omega)
      obtain ⟨y, fl⟩ := a
      cases fl <;> simp [-intsV, -intsO, -getElem?_pos, gcz, gcs, g4, hR, g15, g16, hL, hi, hx, hn, e70, e71, hneg, n1, elemV]
      · exact ih _ ⟨by simp [g4], by simp [hR, n1], by simp; omega, by simp [g15], by simp [hw], hno2⟩
      · exact ih _ ⟨by simp [g4], by simp [hR, n1], by simp; omega, by simp [g15], by simp [hw], hno2⟩
  · rintro c' t ⟨g4, hR, hnt, g15, g16, hno⟩
    have hnone := ring_none (G := G) (fun j hj => hno j (by omega))
    have hr : R = ([], false) := by rw [hr]; unfold ringG; rw [hnone]
    subst hr
    simp [-intsV, -intsO, g4, hR, g15, g16]
end Go.TM.Tryz
end
section
set_option maxHeartbeats 16000000
set_option maxRecDepth 20000
namespace Go.TM.Tryz
open Go Go.TM Go.Proofs
theorem f35_ok (l : List Src) (hl : SrcsOk l) : FunOK Tryz.prog 35 [.lst (l.map Src.v)] false (.tup [.inl 1 ((ringR l).1.map (V.int .i64)), .bool (ringR l).2]) := by
  refine fun_ok (mkE_ok zmix (cl := [(62, c62L), (72, c72), (73, c73)]) (gl := []) [] ⟨c62L_ok, c72_ok, c73_ok⟩ trivial) Tryz.func35 (by kernel_rfl) ?_
  refine FunW_run _ _ rfl rfl ?_
  have hll := hl.1
  have e62 := c62L_eq l hl
  have hO := norms_intsO (rowsN l)
  have hr : ringR l = if goodL l = true then ringG (rowsN l) else ([], false) := rfl
  generalize ringR l = R at *
  have hG := rowsN_gr l
  have hG8 := hG.1
  generalize rowsN l = G at *
  cases h : goodL l with
  | false =>
    rw [h] at e62 hr
    rw [if_neg (by simp)] at hr
    subst hr
    simp [e62]
  | true =>
  rw [h] at e62 hr
  rw [if_pos rfl] at hr
  have hat : ∀ {k : Int}, inG G k → ∃ y, G[k.toNat]? = some y ∧ G.getD k.toNat [] = y ∧ k.toNat < G.length := fun hk => row_at hk
  simp [e62]
  refine lp_list G (fun i t => t.e 4 = .own 1 ∧ t.R 1 = some ⟨1, G.map intsO, true⟩ ∧ 1 < t.nt ∧ t.e 21 = .int .i64 G.length ∧ t.e 22 = .int .i64 i ∧ ∀ j, j < i → hasRing G j = false) ?_ ?_ ?_
  · simp
  · rintro c' L hL i t x hx hi ih ⟨g4, hR, hnt, g21, g22, hno⟩
    have hw := wrI (i := i) (by omega)
    have hig : inG G (i : Int) := ⟨by omega, by omega⟩
    have e72 := c72_eq G i hG hig
    have hD := farS_ok hG hig
    have hD1 := @hangF_ok G hG (i : Int)
    have hds := dist_self hG hig hD hD1
    have hst := ring_start (k := i) hG hi
    have hfin : hasRing G i = true → ringG G = (ringAt G i, true) := fun h => by
      unfold ringG
      rw [ring_hit (k := i) (G := G) hi hno h]
    have hh : hasRing G i = decide (0 ≤ gI (hangF G i) i) := by
      unfold hasRing
      rw [Bool.eq_iff_iff, decide_eq_true_eq, decide_eq_true_eq]
      exact hds.symm
    have hFl := hD1.len
    have hto := next_to hG hig hD
    have hstep := fun {f : Nat} {at_ : Int} {out : List Int} (h : RW G (farS G i) i (ringAt G i) f at_ out) hk => RW.step hG hig hD h hk
    have hsame := fun {at_ : Int} (hk : (i : Int) ∉ G.getD at_.toNat []) => next_same hG hig hD hD1 hk
    generalize ringAt G i = T at *
    generalize farS G i = F at *
    generalize hangF G i = F' at *
    have k2 : i < F'.length := by omega
    have k3 := gI_get k2
    have n1 : ¬ 1 = t.nt := by omega
    have n0 : ¬ t.nt = 0 := by omega
    by_cases hpos : 0 ≤ gI F' i
    · have hh : hasRing G i = true := by rw [hh]; exact decide_eq_true hpos
      have hst := hst hh
      have hr : R = (T, true) := by rw [hr, hfin hh]
      subst hr
      have hneg : ¬ gI F' i < 0 := by omega
      simp [-getElem?_pos, gcz, gcs, g4, hR, g21, g22, hL, hi, hx, hO, e72, k2, k3, hneg, n1, n0]
      refine lp_ind (fun f u => ∃ at_ out, RW G F i T f at_ out ∧ (u.e 4 = .own 1 ∧ u.e 6 = .int .i64 i ∧ u.e 7 = .own t.nt ∧ u.e 9 = .int .i64 at_) ∧ u.R 1 = some ⟨1, G.map intsO, true⟩ ∧ u.R t.nt = some ⟨1, F'.map (V.int .i64), true⟩ ∧ (∃ ro, u.e 8 = .own ro ∧ ro < u.nt ∧ t.nt < ro ∧ u.R ro = some ⟨1, out.map (V.int .i64), true⟩)) 20 ⟨(i : Int), [(i : Int)], hst, by simp [g4], by simp [hR, n1, n0], by simp, t.nt + 1, by simp, by simp, by omega, by simp⟩ ?_
      rintro c2 L2 hL2 f u ih2 ⟨at_, out, hrw, ⟨u4, u6, u7, u9⟩, uE, uF, ro, u8, hro, hro2, uR⟩
      obtain ⟨y, hy, hyd, hyn⟩ := hat hrw.at_in
      have hag := hrw.at_in
      obtain ⟨a0, a1⟩ := hag
      have hyl := hG.len y (List.mem_of_getElem? hy)
      have hye := (hG.2 y (List.mem_of_getElem? hy)).2
      have e73 := c73_eq y i (by omega)
      have m6 : ¬ 1 = ro := by omega
      have m7 : ¬ t.nt = ro := by omega
      by_cases hk : (i : Int) ∈ y
      · have hT := hrw.done (by rw [hyd]; exact hk)
        rw [decide_eq_true hk] at e73
        subst hT
        simp [-getElem?_pos, gcz, gcs, u4, u6, u7, u8, u9, uE, uF, uR, a0, a1, hyn, hy, e73]
      · rw [decide_eq_false hk] at e73
        have hk' : (i : Int) ∉ G.getD at_.toNat [] := by rw [hyd]; exact hk
        obtain ⟨f', rfl, hrw2⟩ := hstep hrw hk'
        have hsm := hsame hk'
        rw [hyd] at hrw2 hsm
        simp [-getElem?_pos, gcz, gcs, u4, u6, u7, u8, u9, uE, uF, uR, a0, a1, hyn, hy, e73]
        refine lp_list y (fun j v => (v.e 4 = .own 1 ∧ v.e 6 = .int .i64 i ∧ v.e 7 = .own t.nt) ∧ (v.e 46 = .sub 1 at_.toNat 0 ∧ v.e 47 = .int .i64 y.length ∧ v.e 48 = .int .i64 j) ∧ (v.R 1 = some ⟨1, G.map intsO, true⟩ ∧ v.R t.nt = some ⟨1, F'.map (V.int .i64), true⟩) ∧ (v.e 8 = .own ro ∧ ro < v.nt ∧ v.R ro = some ⟨1, out.map (V.int .i64), true⟩) ∧ (∃ b, v.e 10 = .int .i64 b ∧ b = (y.take j).foldl (nxt F') (-1) ∧ (b = -1 ∨ 0 ≤ b ∧ b < F'.length))) ?_ ?_ ?_
        · simp [u4, u6, u7, u8, uE, uF, uR, hro]
        · rintro c3 L3 hL3 j v x hxj hj ih3 ⟨⟨v4, v6, v7⟩, ⟨v46, v47, v48⟩, ⟨vE, vF⟩, ⟨v8, vro, vR⟩, b, v10, hb, hbr⟩
          have hw3 : IntKind.i64.wrap ((j : Int) + 1) = ((j + 1 : Nat) : Int) := wrap64 (by omega) (by omega)
          have hs : (y.take (j + 1)).foldl (nxt F') (-1) = nxt F' b x := by
            rw [List.take_add_one, hxj, hb]
            simp
          obtain ⟨x0, x1⟩ := hye x (List.mem_of_getElem? hxj)
          have x1' : x < F'.length := by omega
          have x2 : x.toNat < F'.length := by omega
          have x3 := gI_at x0 x1'
          have hv : nxt F' b x = if 0 ≤ gI F' x ∧ (b < 0 ∨ gI F' x < gI F' b) then x else b := rfl
          rw [hv] at hs
          have next : ∀ b', (b' = x ∨ b' = b) → (y.take (j + 1)).foldl (nxt F') (-1) = b' → ∀ s' : S, s'.e 4 = .own 1 → s'.e 6 = .int .i64 i → s'.e 7 = .own t.nt → s'.e 46 = .sub 1 at_.toNat 0 → s'.e 47 = .int .i64 y.length → s'.e 48 = .int .i64 (IntKind.i64.wrap ((j : Int) + 1)) → s'.R 1 = some ⟨1, G.map intsO, true⟩ → s'.R t.nt = some ⟨1, F'.map (V.int .i64), true⟩ → s'.e 8 = .own ro → ro < s'.nt → s'.R ro = some ⟨1, out.map (V.int .i64), true⟩ → s'.e 10 = .int .i64 b' → L3 s' := fun b' hbb hfold s' a4 a6 a7 a46 a47 a48 aE aF a8 aro aR a10 => by
            refine ih3 s' ⟨⟨a4, a6, a7⟩, ⟨a46, a47, by rw [a48, hw3]⟩, ⟨aE, aF⟩, ⟨a8, aro, aR⟩, b', a10, hfold.symm, ?_⟩
            rcases hbb with rfl | rfl
            · exact .inr ⟨x0, x1'⟩
            · exact hbr
          by_cases h1 : 0 ≤ gI F' x
          · by_cases h2 : b < 0
            · rw [if_pos ⟨h1, .inl h2⟩] at hs
              have h2' : ¬ 0 ≤ b := by omega
              have bt : b.toNat = 0 := by omega
              have z4 : 0 < F'.length := by omega
              have z3 : F'[0]? = some (gI F' (0 : Nat)) := gI_get z4
              simp [-getElem?_pos, gcz, gcs, v4, v6, v7, v8, v10, v46, v47, v48, vE, vF, vR, hL3, hj, hxj, hy, x0, x1', x2, x3, h1, h2, h2', bt, z3, z4]
              refine next x (.inl rfl) hs _ ?_ ?_ ?_ ?_ ?_ ?_ ?_ ?_ ?_ ?_ ?_ ?_ <;> simp [v4, v6, v7, v8, v10, v46, v47, v48, vE, vF, vR, vro]
            · have b0 : 0 ≤ b := by omega
              have b1 : b < F'.length := by omega
              have b2 : b.toNat < F'.length := by omega
              have b3 := gI_at b0 b1
              by_cases h3 : gI F' x < gI F' b
              · rw [if_pos ⟨h1, .inr h3⟩] at hs
                simp [-getElem?_pos, gcz, gcs, v4, v6, v7, v8, v10, v46, v47, v48, vE, vF, vR, hL3, hj, hxj, hy, x0, x1', x2, x3, h1, h2, b0, b1, b2, b3, h3]
                refine next x (.inl rfl) hs _ ?_ ?_ ?_ ?_ ?_ ?_ ?_ ?_ ?_ ?_ ?_ ?_ <;> simp [v4, v6, v7, v8, v10, v46, v47, v48, vE, vF, vR, vro]
              · rw [if_neg (by rintro ⟨_, h | h⟩ <;> omega)] at hs
                simp [-getElem?_pos, gcz, gcs, v4, v6, v7, v8, v10, v46, v47, v48, vE, vF, vR, hL3, hj, hxj, hy, x0, x1', x2, x3, h1, h2, b0, b1, b2, b3, h3]
                refine next b (.inr rfl) hs _ ?_ ?_ ?_ ?_ ?_ ?_ ?_ ?_ ?_ ?_ ?_ ?_ <;> simp [v4, v6, v7, v8, v10, v46, v47, v48, vE, vF, vR, vro]
          · rw [if_neg (by rintro ⟨h, _⟩; omega)] at hs
            by_cases h2 : b < 0
            · have h2' : ¬ 0 ≤ b := by omega
              have bt : b.toNat = 0 := by omega
              have z4 : 0 < F'.length := by omega
              have z3 : F'[0]? = some (gI F' (0 : Nat)) := gI_get z4
              simp [-getElem?_pos, gcz, gcs, v4, v6, v7, v8, v10, v46, v47, v48, vE, vF, vR, hL3, hj, hxj, hy, x0, x1', x2, x3, h1, h2, h2', bt, z3, z4]
              refine next b (.inr rfl) hs _ ?_ ?_ ?_ ?_ ?_ ?_ ?_ ?_ ?_ ?_ ?_ ?_ <;> simp [v4, v6, v7, v8, v10, v46, v47, v48, vE, vF, vR, vro]
            · have b0 : 0 ≤ b := by omega
              have b1 : b < F'.length := by omega
              have b2 : b.toNat < F'.length := by omega
              have b3 := gI_at b0 b1
              simp [-getElem?_pos, gcz, gcs, v4, v6, v7, v8, v10, v46, v47, v48, vE, vF, vR, hL3, hj, hxj, hy, x0, x1', x2, x3, h1, h2, b0, b1, b2, b3]
              refine next b (.inr rfl) hs _ ?_ ?_ ?_ ?_ ?_ ?_ ?_ ?_ ?_ ?_ ?_ ?_ <;> simp [v4, v6, v7, v8, v10, v46, v47, v48, vE, vF, vR, vro]
        · rintro c3 v ⟨⟨v4, v6, v7⟩, ⟨v46, v47, v48⟩, ⟨vE, vF⟩, ⟨v8, vro, vR⟩, b, v10, hb, hbr⟩
          rw [List.take_length] at hb
          have hb : b = nextF F y := by rw [← hsm]; exact hb
          have hlen := hrw2.len
          rw [List.length_append, List.length_singleton] at hlen
          rw [← hb] at hrw2
          have r1 : room ⟨1, false, 8, .int .i64 0⟩ 1 := by simp [room]
          have r2 : room ⟨1, false, 8, .int .i64 0⟩ (out.length + 1) := by simp [room]; omega
          have m1 : ¬ 1 = v.nt := by omega
          have m2 : ¬ 1 = v.nt + 1 := by omega
          have m3 : ¬ t.nt = v.nt := by omega
          have m4 : ¬ t.nt = v.nt + 1 := by omega
          have m5 : ¬ ro = v.nt := by omega
          have m8 : ¬ v.nt = 0 := by omega
          simp [-getElem?_pos, gcz, gcs, v4, v6, v7, v8, v10, v46, v47, v48, vE, vF, vR, hy, r1, r2, m1, m2, m3, m4, m5, m6, m7, m8, hL2]
          exact ih2 f' _ (by omega) ⟨b, out ++ [b], hrw2, by simp [v4, v6, v7], by simp [vE, m1, m2, m6, m8], by simp [vF, m3, m4, m7], v.nt + 1, by simp, by simp, by omega, by simp⟩
    · have hh : hasRing G i = false := by rw [hh]; exact decide_eq_false hpos
      have hneg : gI F' i < 0 := by omega
      have hno2 : ∀ j, j < i + 1 → hasRing G j = false := fun j hj => by
        by_cases e : j = i
        · rw [e, hh]
        · exact hno j (by omega)
      simp [-getElem?_pos, gcz, gcs, g4, hR, g21, g22, hL, hi, hx, hO, e72, k2, k3, hneg, n1, n0]
      exact ih _ ⟨by simp [g4], by simp [hR, n1], by simp; omega, by simp [g21], by simp [hw], hno2⟩
  · rintro c' t ⟨g4, hR, hnt, g21, g22, hno⟩
    have hnone := ring_none (G := G) hno
    have hr : R = ([], false) := by rw [hr]; unfold ringG; rw [hnone]
    subst hr
    simp [g4, hR, g21, g22]
end Go.TM.Tryz
end
section
set_option maxHeartbeats 16000000
set_option maxRecDepth 20000
namespace Go.TM.Tryz
open Go Go.TM Go.Proofs
noncomputable def c34 := ctr (fun l : List Src => SrcsOk l) (fun l => [.lst (l.map Src.v)]) (fun l => (false, .tup [.inl 1 ((ringR l).1.map (V.int .i64)), .bool (ringR l).2]))
theorem c34_eq (l : List Src) (h : SrcsOk l) : c34 [.lst (l.map Src.v)] = some (false, .tup [.inl 1 ((ringR l).1.map (V.int .i64)), .bool (ringR l).2]) := ctr_eq (injl Src.v_inj _) l h rfl
theorem c34_ok : COK Tryz.prog (34, c34) := ctr_ok fun l h => f34_ok l h
noncomputable def c35 := ctr (fun l : List Src => SrcsOk l) (fun l => [.lst (l.map Src.v)]) (fun l => (false, .tup [.inl 1 ((ringR l).1.map (V.int .i64)), .bool (ringR l).2]))
theorem c35_eq (l : List Src) (h : SrcsOk l) : c35 [.lst (l.map Src.v)] = some (false, .tup [.inl 1 ((ringR l).1.map (V.int .i64)), .bool (ringR l).2]) := ctr_eq (injl Src.v_inj _) l h rfl
theorem c35_ok : COK Tryz.prog (35, c35) := ctr_ok fun l h => f35_ok l h
theorem f7_ok (l : List Src) (hl : limL Src.lim l) : FunOK Tryz.prog 7 [.lst (l.map Src.v)] false (.bool true) := by
  refine fun_ok (mkE_ok zmix (cl := [(18, c18), (20, c20), (34, c34), (35, c35), (29, c29), (23, c23), (31, c31)]) (gl := [(24, [true], c24), (30, [true], c30)]) [] ⟨c18_ok, c20_ok, c34_ok, c35_ok, c29_ok, c23_ok, c31_ok⟩ ⟨c24_ok, c30_ok⟩) Tryz.func7 (by kernel_rfl) ?_
  refine FunW_run _ _ rfl rfl ?_
  have e18 := c18_eq l 1048576 hl (by omega) (by omega)
  by_cases hz : ¬ (szL Src.sz l : Int) ≤ 1048576
  · rw [szR_lt (by omega)] at e18
    simp [e18]
  have hz : szL Src.sz l ≤ 1048576 := by omega
  rw [szR_ge (by omega)] at e18
  have h0 : ¬ (1048576 : Int) < szL Src.sz l := by omega
  have e20 := c20_eq l hz
  have hlen := szL_len Src.sz l
  have hS := srcsOk_of hz
  have eW := c34_eq l hS
  have eG := c35_eq l hS
  have hX8 := ringR_len l
  generalize (ringR l).1 = X at *
  generalize (ringR l).2 = b at *
  have e29 := c29_eq X (by omega)
  have e23 := c23_eq l hl
  have k1 : cnt cSrc l = 2 * l.length := cnt_const (fun _ => rfl) l
  have e24 := c24_eq l 1 (by omega) (by omega) (by omega)
  have k2 : cnt cNum X = 1 * X.length := cnt_const (fun _ => rfl) X
  have e30 := c30_eq X 1 (by omega) (by omega) (by omega)
  have e31 := c31_eq X 1 (by omega) (by omega) (by omega)
  have hb1 : ¬ (1 : Int) + (cnt cSrc l : Nat) < 0 := by omega
  have hb2 : ¬ (1 : Int) + (cnt cNum X : Nat) < 0 := by omega
  simp [e18, h0, e20, eW, eG, e29, e23, e24, e30, e31, hb1, hb2]
end Go.TM.Tryz
end
section
namespace Go.TM
open Go Go.RowKit
def mem1 (W : World) : Mem := ⟨Old W, fun _ => none, fun _ => 0, fun _ => undef, fun _ _ _ => undef, 0, 0⟩
theorem mem1_ok {W : World} {args : List V} (h : adCs args S.zero = (args, S.zero)) : MemOK (mem1 W) W (start args []) := by
  have hR : (start args []).R = fun _ => none := by simp only [start, h]; rfl
  have hB : (start args []).B = fun _ => none := by
    funext x
    simp [start, h, adCs]
  refine ⟨by simp only [start, h]; rfl, by simp only [start, h]; rfl, fun b c hb => ?_, fun t r hr => ?_, fun b hb => ⟨rfl, hb⟩, fun b l hl => (by cases hl), fun b t hl => (by cases hl), fun b k hl => (by cases hl)⟩
  · rw [hB] at hb; cases hb
  · rw [hR] at hr; cases hr
theorem close_bool {M : Mem} {W : World} {s : S} {k : Nat} {sv : V} {v : Value} {b : Bool} (hr : SR2 M W sv v) (hc : closeR s k sv = .bool b) : v = .bool b := by
  cases sv with
  | bool c =>
    simp [closeR, closeB, onL1, closeL] at hc
    subst hc
    exact hr
  | tup xs => simp [closeR] at hc
  | agg xs => simp [closeR, closeB, onL1] at hc
  | ptr b' o =>
    cases o with
    | zero =>
      simp only [closeR, closeB] at hc
      split at hc
      · split at hc <;> cases hc
      · cases hc
    | succ o => simp [closeR, closeB, onL1, closeL] at hc
  | own t =>
    simp only [closeR, closeB, onL1, closeL] at hc
    split at hc <;> cases hc
  | fn f caps => cases caps <;> simp [closeR, closeB, onL1, closeL] at hc
  | _ => simp [closeR, closeB, onL1, closeL] at hc
theorem run_true {P : Program} {f : FuncId} {args : List V} (h : FunOK P f args false (.bool true)) (hs : adCs args S.zero = (args, S.zero)) {W : World} {vs : List Value} (hv : All2 (SR1 (mem1 W) W) args vs) :
    Calls P f vs.toArray W fun e W' => e = .returned (.bool true) ∧ Below W.heap.size W W' := by
  refine (h.calls (mem1 W) W vs (mem1_ok hs) (by rw [hs]; exact hv)).mono ?_
  rintro e W' ⟨v, M', s', sv, rfl, hp⟩
  rw [close_bool hp.rel hp.res]
  exact ⟨rfl, hp.evo.os, hp.evo.tape, hp.evo.output, hp.evo.size, fun k hk => hp.evo.old k hk rfl⟩
end Go.TM
end
section
set_option maxHeartbeats 2000000
namespace Go.Proofs.YtgpkbmekdmpgoaaGreatDoor
open Go Go.ChangeShapes Go.WideShapes Go.ChangeAt Go.RowKit Go.TM Go.TM.Tryz
theorem own : ownKnob Tryz.prog.godebug = none := by kernel_rfl
theorem laidOut : laidOutB Tryz.prog = true := by kernel_rfl
theorem slice_value {P : Program} {W : World} {base : Nat} {t e : TypeId} {v : Value} (ht : P.underlying t = some (.slice e)) (h : Value.okWide P W .any base t v) : ∃ A n c, v = .slice A n c := by
  simp only [Value.okWide, ht] at h
  simp only [Cell.okWide, ht] at h
  simp only [Cell.ok, ht] at h
  cases v <;> first | exact ⟨_, _, _, rfl⟩ | exact h.elim
theorem src_ad (l : List TM.Src) : adCs [.lst (l.map TM.Src.v)] S.zero = ([.lst (l.map TM.Src.v)], S.zero) := by rfl
theorem laid_met (os : Os) (args : Array Value) : laidMetH Tryz.prog Rows.fnExactRingOfRow.laid ((World.laidAll Tryz.prog os Rows.fnExactRingOfRow.laid).forCall (fun _ _ => 0) ⟨#[], args, []⟩).memory := by
  rw [MakeChecks.laidMetH_plain _ _ _ (by kernel_rfl)]
  exact laidMet_laidAll _ (by kernel_rfl) (by kernel_rfl)
set_option maxRecDepth 100000 in
theorem fnExactRingOf_lifted (os : Os) (started : os.Started) (H : Type) (enc : TypeId × Value → H) :
    ReturnsInHanded {} Tryz.checked os 7 .any (fun w args => (Rows.fnExactRingOfSpec.pre enc Tryz.prog Tryz.f7 Rows.fnExactRingOfRow.domain false w args ∧ laidMetH Tryz.prog Rows.fnExactRingOfRow.laid w) ∧ sizedMet enc Tryz.prog Tryz.f7 (OpenSpec.ofChange Rows.fnExactRingOfSpec) false w args)
      (Rows.fnExactRingOfSpec.post enc Tryz.prog Tryz.f7 false true false false) := by
  refine returnsInHanded_of_change_and (C := Tryz.checked) (X := fun w _ => laidMetH Tryz.prog Rows.fnExactRingOfRow.laid w) (fun _ _ _ hh h => h.of_heap hh) own started (by kernel_rfl) Tryz.func7
    (ChangeSpec.witness_shaped (enc := enc) (C := Tryz.checked) (os := os) (X := fun w _ => laidMetH Tryz.prog Rows.fnExactRingOfRow.laid w) false (World.laidAll Tryz.prog os Rows.fnExactRingOfRow.laid) #[.slice none 0 0] 8 (World.laidAll_os _ _ _)
      (World.shaped_of_ZipB (by kernel_rfl) (by kernel_rfl)) (by kernel_rfl) (by kernel_rfl) (by kernel_rfl) (laid_met os _)) ?_
  intro W base args ds gs before hval0 hW _ _ _ _
  have hval : ∀ (j : Nat) t v, Tryz.f7.params[j]? = some t → args[j]? = some v → Value.okWide Tryz.prog W .any base t v := hval0
  have hW' := hW
  obtain ⟨p, q, hA0, hV, rfl, hfz, hnd⟩ := hW
  have hA : DataW.TrodAll enc Tryz.prog W 0 (fun _ => true) true Tryz.f7.params.toList args.toList ds p := hA0
  rw [Tryz.params7] at hA hval
  obtain ⟨v0, d0, rfl, rfl, h0⟩ := trodAll_one hA
  obtain ⟨rfl, rfl⟩ := trodVars_none hV
  obtain ⟨A0, n0, c0, rfl⟩ := slice_value Tryz.underlying34 (hval 0 34 v0 rfl rfl)
  clear hA0 hval0
  simp only [List.append_nil] at hW'
  have hlt : ∀ x ∈ p, x.block < W.heap.size := fun x hx => by simpa using hW'.lt x hx
  have g0 := h0
  obtain ⟨fuel0, hf0⟩ := g0
  obtain ⟨l, hl, hs⟩ := (rd_slice Tryz.underlying34 (n := 2) (by kernel_rfl) (by omega) (fun _ => rfl) rd_Src) _ _ _ hf0
  have hsr : SR1 (mem1 W) W (.lst (l.map TM.Src.v)) (.slice A0 n0 c0) := hs.1
  refine (run_true (f7_ok l hl) (src_ad l) (vs := [.slice A0 n0 c0]) ⟨hsr, trivial⟩).mono fun e W' ⟨he, hb⟩ => ?_
  subst he
  have harg0 : DataW.Trod enc Tryz.prog W' 0 (fun b => decide (b < W.heap.size)) true 34 (.slice A0 n0 c0) d0 p :=
    Below.trod laidOut (by kernel_rfl) (of_decide_eq_true (by kernel_rfl)) h0 hb hlt
  exact ⟨_, rfl, _, _, _, [], _, [], hW', trodAll_mk1 (shut_bool Tryz.underlying4 _), trodAll_mk1 harg0, rfl, hb.frame _, fun h => by cases h⟩
theorem facts0 : Tryz.pinned.checked.prog.funcNamed Rows.fnExactRingOfRow.func = some 7 := by kernel_rfl
theorem facts1 : (Rows.fnExactRingOfRow.inPlace == Tryz.pinned.checked.prog.inPlace 7) = true := by kernel_rfl
theorem facts2 : (Rows.fnExactRingOfRow.unfollowed == Tryz.pinned.checked.prog.unfollowed 7) = true := by kernel_rfl
theorem facts3 : (Rows.fnExactRingOfRow.recurses == Tryz.pinned.checked.prog.recurses 7) = true := by kernel_rfl
theorem facts4 : (Rows.fnExactRingOfRow.named == Tryz.pinned.checked.prog.varsNamed 7) = true := by kernel_rfl
theorem facts5 : joinedFacts Tryz.pinned.checked.prog 7 Tryz.f7 Rows.fnExactRingOfSpec Rows.fnExactRingOfRow = true := by
  unfold joinedFacts
  rw [facts1, facts2, facts3, facts4]
  kernel_rfl
theorem facts6 : Tryz.f7.isInstance Tryz.pinned.checked.prog Rows.fnExactRingOfRow.origin Rows.fnExactRingOfRow.targs := of_decide_eq_true (by kernel_rfl)
theorem facts7 : Tryz.f7.isWrapper Tryz.pinned.checked.prog Rows.fnExactRingOfRow.wrapper Rows.fnExactRingOfRow.mainSum := by
  unfold Func.isWrapper; first | (rw [if_pos (by decide +kernel)]; kernel_rfl) | (rw [if_neg (by decide +kernel)]; exact ⟨rfl, rfl⟩)
theorem fnExactRingOf_row : Rows.FnExactRingOfSaid :=
  OpenClaim.holds_of_wide 7 Tryz.f7 rfl rfl rfl rfl rfl rfl rfl ⟨rfl, rfl, rfl, rfl, rfl⟩ rfl rfl rfl rfl rfl facts0 Tryz.func7 facts5 facts6 facts7
    (fun os started H enc _ => fnExactRingOf_lifted os started H enc)
theorem fnExactRingOf_holds : Rows.FnExactRingOfCardSaid :=
  Claim7.holds_tied_plain_at .later [] [.data, .data, .data, .data, .sentinel, .sentinel, .pinned] true (true, "4fb26d283fa2b75eae0e6a7d35f92e8852ce8f6188695db1595219b23312b0c8") true
    fnExactRingOf_row (fun _ h => by cases h) (by kernel_rfl) (fun _ h => by cases h) fnExactRingOf_row_tie rfl ⟨rfl, rfl⟩ (by kernel_rfl) rfl
    (fun f fn hf hfn => by
      obtain rfl : f = 7 := Option.some.inj ((show Tryz.prog.funcNamed "loop.example/g00837/laws.FnExactRingOf" = some 7 by kernel_rfl).symm.trans hf) |>.symm
      obtain rfl : fn = Tryz.f7 := (Option.some.inj (Tryz.func7.symm.trans hfn)).symm
      exact ⟨by kernel_rfl, fun j t ht => by
        rw [Tryz.params7] at ht
        have hm : t ∈ [34] := by simpa using Array.mem_of_getElem? ht
        have hall : ([34].all fun u => !Tryz.prog.wantsStandIn u) = true := by kernel_rfl
        exact (show Tryz.prog.wantsStandIn t = false by simpa using List.all_eq_true.1 hall t hm)⟩)
    (by kernel_rfl)
end Go.Proofs.YtgpkbmekdmpgoaaGreatDoor
end
