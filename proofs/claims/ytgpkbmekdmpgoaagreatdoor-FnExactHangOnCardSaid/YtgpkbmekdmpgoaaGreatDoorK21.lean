/- The row: FnExactHangOn. -/
import Derived.Test.YtgpkbmekdmpgoaaGreatDoorK20
import Derived.ProofKit
import Derived.OpenShut
import Derived.LaidMore
import Derived.Lay
import Derived.SevenTiedAt
import Derived.Stop.Joined
import Derived.Test.YtgpkbmekdmpgoaaGreatDoorRows
import Derived.Test.YtgpkbmekdmpgoaaGreatDoorCards
import Derived.Test.YtgpkbmekdmpgoaaGreatDoorTie
set_option linter.unusedVariables false
set_option linter.unusedSimpArgs false
section
set_option maxHeartbeats 16000000
set_option maxRecDepth 20000
namespace Go.TM
open Go
theorem rowF_up {k : Int} : ∀ (row far : List Int) {b : Int}, UpB far b → UpB (rowF k row far) (b + row.length)
  | [], far, b, h => by simpa [rowF] using h
  | x :: row, far, b, h => by
    have := rowF_up (k := k) row (relax k far x) (relax_up h)
    have e : b + 1 + (row.length : Nat) = b + ((x :: row).length : Nat) := by simp only [List.length_cons]; omega
    rw [e] at this
    exact this
theorem UpB.mono {far : List Int} {a b : Int} (h : UpB far a) (hab : a ≤ b) : UpB far b := fun k => by
  have := h k
  omega
theorem rowF_len {k : Int} : ∀ (row far : List Int), (rowF k row far).length = far.length
  | [], far => rfl
  | x :: row, far => by
    have := rowF_len (k := k) row (relax k far x)
    rw [relax_len] at this
    exact this
theorem roundF_up {G : List (List Int)} (hG : Gr G) {far : List Int} {b : Int} (h : UpB far b) : ∀ i, UpB (roundF G far i) (b + 8 * i)
  | 0 => by simpa [roundF] using h
  | i + 1 => by
    have ih := roundF_up hG h i
    have := rowF_up (k := i) (G.getD i []) _ ih
    refine UpB.mono this ?_
    have hl : (G.getD i []).length ≤ 8 := by
      rw [List.getD_eq_getElem?_getD]
      cases hx : G[i]? with
      | none => simp
      | some x => exact hG.len x (List.mem_of_getElem? hx)
    omega
theorem roundF_len {G : List (List Int)} {far : List Int} : ∀ i, (roundF G far i).length = far.length
  | 0 => rfl
  | i + 1 => by
    have ih := roundF_len (G := G) (far := far) i
    have := rowF_len (k := i) (G.getD i []) (roundF G far i)
    rw [ih] at this
    exact this
theorem farN_up {G : List (List Int)} (hG : Gr G) {to : Int} : ∀ i, UpB (farN G to i) (64 * i)
  | 0 => fun k => by
    have : gI (initF G.length to) k = 0 ∨ gI (initF G.length to) k = gI (List.replicate G.length (-1)) k := gI_set_cases _ _ _ _
    rw [gI_rep] at this
    change gI (initF G.length to) k ≤ _
    omega
  | i + 1 => by
    have := roundF_up hG (farN_up hG (to := to) i) G.length
    refine UpB.mono this ?_
    have := hG.1
    omega
theorem farN_len {G : List (List Int)} {to : Int} : ∀ i, (farN G to i).length = G.length
  | 0 => by simp [farN, initF]
  | i + 1 => by
    have := roundF_len (G := G) (far := farN G to i) G.length
    rw [farN_len i] at this
    exact this
end Go.TM
namespace Go.TM.Tryz
open Go Go.TM Go.Proofs
theorem f70_ok (G : List (List Int)) (hG : Gr G) (to : Int) (ht : inG G to) : FunOK Tryz.prog 70 [.lst (G.map intsV), .int .i64 to] false (.inl 1 ((farS G to).map (V.int .i64))) := by
  refine fun_ok (mkE_ok zmix (cl := []) (gl := []) [] trivial trivial) Tryz.func70 (by kernel_rfl) ?_
  refine FunW_run _ _ rfl rfl ?_
  have hn8 := hG.1
  obtain ⟨ht0, ht1⟩ := ht
  have hn1 : 1 ≤ G.length := by omega
  have r0 : room ⟨1, false, 8, .int .i64 0⟩ G.length := by simp [room]; omega
  simp [r0]
  refine lp_list (List.replicate G.length (0 : Int)) (fun i t => t.e 0 = .lst (G.map intsV) ∧ t.e 1 = .int .i64 to ∧ t.e 15 = .int .i64 G.length ∧ t.e 16 = .int .i64 i ∧ (∃ ro, t.e 5 = .own ro ∧ t.R ro = some ⟨1, (halfL G.length i).map (V.int .i64), true⟩)) ?_ ?_ ?_
  · simp [halfL]
  · rintro c' L hL i t x hx hi ih ⟨g0, g1, g15, g16, ro, g5, hR⟩
    simp only [List.length_replicate] at hi
    have hw := wrI (i := i) (by omega)
    have hl := halfL_len (n := G.length) (k := i) (by omega)
    have hset := halfL_set hi
    have hil : i < (halfL G.length i).length := by omega
    have hv := gI_get hil
    simp [-getElem?_pos, gcz, gcs, g0, g1, g15, g16, g5, hR, hL, hi, hl, hil, hv]
    refine ih _ ⟨by simp [g0], by simp [g1], by simp [g15], by simp [hw], ro, by simp [g5], ?_⟩
    rw [← hset]
    simp [List.map_set]
  · rintro c' t ⟨g0, g1, g15, g16, ro, g5, hR⟩
    rw [List.length_replicate, halfL_all] at hR
    simp only [List.length_replicate] at g16
    have t1 : to.toNat < G.length := by omega
    have t3 : (List.replicate G.length (-1 : Int))[to.toNat]? = some (-1) := by rw [List.getElem?_replicate, if_pos t1]
    simp only [List.map_replicate] at hR
    simp [-getElem?_pos, gcz, gcs, g0, g1, g15, g16, g5, hR, ht0, ht1, t1, t3]
    refine lp_list G (fun i t => t.e 0 = .lst (G.map intsV) ∧ t.e 27 = .int .i64 G.length ∧ t.e 28 = .int .i64 i ∧ t.e 5 = .own ro ∧ t.R ro = some ⟨1, (farN G to i).map (V.int .i64), true⟩) ?_ ?_ ?_
    · simp [g0, g5, farN, initF, List.map_set, List.map_replicate]
    · rintro c2 L2 hL2 i u x hx hi ih2 ⟨u0, u27, u28, u5, uR⟩
      have hw2 : IntKind.i64.wrap ((i : Int) + 1) = ((i + 1 : Nat) : Int) := wrap64 (by omega) (by omega)
      have hN : farN G to (i + 1) = roundF G (farN G to i) G.length := rfl
      have hlN := @farN_len G to i
      have huN := farN_up hG (to := to) i
      generalize farN G to i = F0 at *
      simp [-getElem?_pos, gcz, gcs, u0, u27, u28, u5, uR, hi, hL2]
      refine lp_list G (fun k v => v.e 0 = .lst (G.map intsV) ∧ v.e 27 = .int .i64 G.length ∧ v.e 28 = .int .i64 i ∧ v.e 5 = .own ro ∧ (v.e 30 = .lst (G.map intsV) ∧ v.e 31 = .int .i64 G.length ∧ v.e 32 = .int .i64 k) ∧ v.R ro = some ⟨1, (roundF G F0 k).map (V.int .i64), true⟩) ?_ ?_ ?_
      · simp [u0, u27, u28, u5, uR, roundF]
      · rintro c3 L3 hL3 k v y hy hk ih3 ⟨v0, v27, v28, v5, ⟨v30, v31, v32⟩, vR⟩
        have hw3 : IntKind.i64.wrap ((k : Int) + 1) = ((k + 1 : Nat) : Int) := wrap64 (by omega) (by omega)
        have hgd : G.getD k [] = y := by rw [List.getD_eq_getElem?_getD, hy]; rfl
        have hK : roundF G F0 (k + 1) = rowF k y (roundF G F0 k) := by
          change rowF k (G.getD k []) (roundF G F0 k) = _
          rw [hgd]
        have hlK := roundF_len (G := G) (far := F0) k
        have huK := roundF_up hG huN k
        generalize roundF G F0 k = F1 at *
        have hyl := hG.len y (List.mem_of_getElem? hy)
        have hye := (hG.2 y (List.mem_of_getElem? hy)).2
        simp [-getElem?_pos, gcz, gcs, v0, v27, v28, v5, v30, v31, v32, vR, hk, hy, hL3]
        refine lp_list y (fun j w => w.e 0 = .lst (G.map intsV) ∧ w.e 27 = .int .i64 G.length ∧ w.e 28 = .int .i64 i ∧ w.e 5 = .own ro ∧ (w.e 30 = .lst (G.map intsV) ∧ w.e 31 = .int .i64 G.length ∧ w.e 32 = .int .i64 k) ∧ (w.e 37 = .lst (y.map (V.int .i64)) ∧ w.e 38 = .int .i64 y.length ∧ w.e 39 = .int .i64 j ∧ w.e 7 = .int .i64 k) ∧ (∃ F, F = (y.take j).foldl (relax k) F1 ∧ F.length = G.length ∧ UpB F (64 * i + 8 * k + j) ∧ w.R ro = some ⟨1, F.map (V.int .i64), true⟩)) ?_ ?_ ?_
        · refine ⟨by simp [v0], by simp [v27], by simp [v28], by simp [v5], by simp [v30, v31, v32], by simp, F1, rfl, by omega, huK.mono (by omega), by simp [vR]⟩
        · rintro c4 L4 hL4 j w z hz hj ih4 ⟨w0, w27, w28, w5, ⟨w30, w31, w32⟩, ⟨w37, w38, w39, w7⟩, F, hF, hFl, hFu, wR⟩
          have hw4 : IntKind.i64.wrap ((j : Int) + 1) = ((j + 1 : Nat) : Int) := wrap64 (by omega) (by omega)
          have hstep : (y.take (j + 1)).foldl (relax k) F1 = relax k F z := by
            rw [List.take_add_one, hz, hF]
            simp
          have hup := relax_up (k := k) (x := z) hFu
          have hlen2 := relax_len k F z
          obtain ⟨z0, z1⟩ := hye z (List.mem_of_getElem? hz)
          have z2 : z.toNat < F.length := by omega
          have z1' : z < F.length := by omega
          have z3 := gI_at z0 z1'
          have k2 : k < F.length := by omega
          have k3 := gI_get k2
          have hzb := hFu z
          have hwv : 0 ≤ gI F z → IntKind.i64.wrap (gI F z + 1) = gI F z + 1 := fun h => wrap64 (by omega) (by omega)
          have hv : relax k F z = if 0 ≤ gI F z ∧ (gI F k < 0 ∨ gI F z + 1 < gI F k) then F.set k (gI F z + 1) else F := by
            unfold relax
            rw [Int.toNat_natCast]
          have next : ∀ F', relax k F z = F' → ∀ s' : S, s'.e 0 = .lst (G.map intsV) → s'.e 27 = .int .i64 G.length → s'.e 28 = .int .i64 i → s'.e 5 = .own ro → s'.e 30 = .lst (G.map intsV) → s'.e 31 = .int .i64 G.length → s'.e 32 = .int .i64 k → s'.e 37 = .lst (y.map (V.int .i64)) → s'.e 38 = .int .i64 y.length → s'.e 39 = .int .i64 (IntKind.i64.wrap ((j : Int) + 1)) → s'.e 7 = .int .i64 k → s'.R ro = some ⟨1, F'.map (V.int .i64), true⟩ → L4 s' := fun F' hF' s' a0 a27 a28 a5 a30 a31 a32 a37 a38 a39 a7 aR => by
            refine ih4 s' ⟨a0, a27, a28, a5, ⟨a30, a31, a32⟩, ⟨a37, a38, by rw [a39, hw4], a7⟩, F', by rw [hstep, hF'], by rw [← hF', hlen2]; exact hFl, by rw [← hF']; exact hup.mono (by omega), aR⟩
          rw [hv] at next
          by_cases h1 : 0 ≤ gI F z
          · have hwv := hwv h1
            by_cases h2 : gI F k < 0
            · rw [if_pos ⟨h1, .inl h2⟩] at next
              simp [-getElem?_pos, gcz, gcs, w0, w27, w28, w5, w30, w31, w32, w37, w38, w39, w7, wR, hL4, hj, hz, z0, z1', z2, z3, k2, k3, h1, h2, hwv]
              refine next _ rfl _ ?_ ?_ ?_ ?_ ?_ ?_ ?_ ?_ ?_ ?_ ?_ ?_ <;> simp [w0, w27, w28, w5, w30, w31, w32, w37, w38, w39, w7, wR, List.map_set]
            · by_cases h3 : gI F z + 1 < gI F k
              · rw [if_pos ⟨h1, .inr h3⟩] at next
                simp [-getElem?_pos, gcz, gcs, w0, w27, w28, w5, w30, w31, w32, w37, w38, w39, w7, wR, hL4, hj, hz, z0, z1', z2, z3, k2, k3, h1, h2, h3, hwv]
                refine next _ rfl _ ?_ ?_ ?_ ?_ ?_ ?_ ?_ ?_ ?_ ?_ ?_ ?_ <;> simp [w0, w27, w28, w5, w30, w31, w32, w37, w38, w39, w7, wR, List.map_set]
              · rw [if_neg (by rintro ⟨_, h | h⟩ <;> omega)] at next
                simp [-getElem?_pos, gcz, gcs, w0, w27, w28, w5, w30, w31, w32, w37, w38, w39, w7, wR, hL4, hj, hz, z0, z1', z2, z3, k2, k3, h1, h2, h3, hwv]
                refine next _ rfl _ ?_ ?_ ?_ ?_ ?_ ?_ ?_ ?_ ?_ ?_ ?_ ?_ <;> simp [w0, w27, w28, w5, w30, w31, w32, w37, w38, w39, w7, wR]
          · rw [if_neg (by rintro ⟨h, _⟩; omega)] at next
            simp [-getElem?_pos, gcz, gcs, w0, w27, w28, w5, w30, w31, w32, w37, w38, w39, w7, wR, hL4, hj, hz, z0, z1', z2, z3, k2, k3, h1]
            refine next _ rfl _ ?_ ?_ ?_ ?_ ?_ ?_ ?_ ?_ ?_ ?_ ?_ ?_ <;> simp [w0, w27, w28, w5, w30, w31, w32, w37, w38, w39, w7, wR]
        · rintro c4 w ⟨w0, w27, w28, w5, ⟨w30, w31, w32⟩, ⟨w37, w38, w39, w7⟩, F, hF, hFl, hFu, wR⟩
          rw [List.take_length] at hF
          have hF : F = roundF G F0 (k + 1) := by rw [hK]; exact hF
          subst hF
          simp [-getElem?_pos, gcz, gcs, w0, w27, w28, w5, w30, w31, w32, w37, w38, w39, hL3]
          refine ih3 _ ⟨by simp [w0], by simp [w27], by simp [w28], by simp [w5], by simp [w30, w31, hw3], by simp [wR]⟩
      · rintro c3 v ⟨v0, v27, v28, v5, ⟨v30, v31, v32⟩, vR⟩
        rw [← hN] at vR
        simp [-getElem?_pos, gcz, gcs, v0, v27, v28, v5, v30, v31, v32, hL2]
        refine ih2 _ ⟨by simp [v0], by simp [v27], by simp [hw2], by simp [v5], by simp [vR]⟩
    · rintro c2 u ⟨u0, u27, u28, u5, uR⟩
      change u.R ro = some ⟨1, (farS G to).map (V.int .i64), true⟩ at uR
      simp [u0, u27, u28, u5, uR]
end Go.TM.Tryz
end
section
set_option maxHeartbeats 16000000
set_option maxRecDepth 20000
namespace Go.TM
open Go
def hangP (G : List (List Int)) (n : Int) (k : Nat) : Bool := decide ((k : Int) ≠ n ∧ 0 ≤ gI (farS G n) k ∨ (k : Int) = n ∧ 0 ≤ nextF (farS G n) (G.getD n.toNat []))
def hangTo (G : List (List Int)) (n : Int) (i : Nat) : List Int := ((List.range i).filter (hangP G n)).map fun k : Nat => (k : Int)
theorem hangTo_succ (G : List (List Int)) (n : Int) (i : Nat) : hangTo G n (i + 1) = if hangP G n i = true then hangTo G n i ++ [(i : Int)] else hangTo G n i := by
  unfold hangTo
  rw [List.range_succ, List.filter_append]
  cases h : hangP G n i <;> simp [h]
theorem hangTo_len (G : List (List Int)) (n : Int) (i : Nat) : (hangTo G n i).length ≤ i := by
  unfold hangTo
  rw [List.length_map]
  have := List.length_filter_le (hangP G n) (List.range i)
  rwa [List.length_range] at this
theorem farS_len (G : List (List Int)) (n : Int) : (farS G n).length = G.length := farN_len _
end Go.TM
namespace Go.TM.Tryz
open Go Go.TM Go.Proofs
noncomputable def c70 := ctr (fun a : List (List Int) × Int => Gr a.1 ∧ inG a.1 a.2) (fun a => [.lst (a.1.map intsV), .int .i64 a.2]) (fun a => (false, .inl 1 ((farS a.1 a.2).map (V.int .i64))))
theorem c70_eq (G : List (List Int)) (to : Int) (hG : Gr G) (ht : inG G to) : c70 [.lst (G.map intsV), .int .i64 to] = some (false, .inl 1 ((farS G to).map (V.int .i64))) := ctr_eq (inj_gn _) (G, to) ⟨hG, ht⟩ rfl
theorem c70_ok : COK Tryz.prog (70, c70) := ctr_ok fun a h => f70_ok a.1 h.1 a.2 h.2
theorem row_at {G : List (List Int)} {n : Int} (hn : inG G n) : ∃ y, G[n.toNat]? = some y ∧ G.getD n.toNat [] = y ∧ n.toNat < G.length := by
  obtain ⟨h0, h1⟩ := hn
  have h2 : n.toNat < G.length := by omega
  refine ⟨G[n.toNat], List.getElem?_eq_getElem h2, ?_, h2⟩
  rw [List.getD_eq_getElem?_getD, List.getElem?_eq_getElem h2]
  rfl
theorem f67_ok (G : List (List Int)) (hG : Gr G) (n : Int) (hn : inG G n) : FunOK Tryz.prog 67 [.lst (G.map intsV), .int .i64 n] false (.inl 1 ((hangTo G n G.length).map (V.int .i64))) := by
  refine fun_ok (mkE_ok zmix (cl := [(70, c70), (71, c71)]) (gl := []) [] ⟨c70_ok, c71_ok⟩ trivial) Tryz.func67 (by kernel_rfl) ?_
  refine FunW_run _ _ rfl rfl ?_
  have hn8 := hG.1
  have e70 := c70_eq G n hG hn
  have hFl := farS_len G n
  obtain ⟨y, hy, hyd, hn2⟩ := row_at hn
  have hyG := hG.2 y (List.mem_of_getElem? hy)
  have hyl := hG.len y (List.mem_of_getElem? hy)
  have e71 := c71_eq y (farS G n) (by omega) (by omega) (fun x hx => by rw [hFl]; exact hyG.2 x hx)
  have hP : ∀ k : Nat, hangP G n k = decide ((k : Int) ≠ n ∧ 0 ≤ gI (farS G n) k ∨ (k : Int) = n ∧ 0 ≤ nextF (farS G n) y) := fun k => by unfold hangP; rw [hyd]
  obtain ⟨hn0, hn1⟩ := hn
  generalize farS G n = F at *
  simp
  refine lp_list G (fun i t => t.e 0 = .lst (G.map intsV) ∧ t.e 1 = .int .i64 n ∧ t.e 8 = .lst (G.map intsV) ∧ t.e 9 = .int .i64 G.length ∧ t.e 10 = .int .i64 i ∧ (∃ ro, t.e 5 = .own ro ∧ ro < t.nt ∧ t.R ro = some ⟨1, (hangTo G n i).map (V.int .i64), true⟩)) ?_ ?_ ?_
  · simp [hangTo]
  · rintro c' L hL i t x hx hi ih ⟨g0, g1, g8, g9, g10, ro, g5, hro, hR⟩
    have hw := wrI (i := i) (by omega)
    have hs := hangTo_succ G n i
    have hl := hangTo_len G n i
    rw [hP] at hs
    generalize hangTo G n i = out at *
    have k2 : i < F.length := by omega
    have k3 := gI_get k2
    have n0 : ¬ ro = t.nt := by omega
    have n1 : ¬ ro = t.nt + 1 := by omega
    have n2 : ¬ ro = t.nt + 2 := by omega
    have r1 : room ⟨1, false, 8, .int .i64 0⟩ 1 := by simp [room]
    have r2 : room ⟨1, false, 8, .int .i64 0⟩ (out.length + 1) := by simp [room]; omega
    generalize gI F i = a at *
    generalize nextF F y = b at *
    have yes : decide ((i : Int) ≠ n ∧ 0 ≤ a ∨ (i : Int) = n ∧ 0 ≤ b) = true → ∀ s' : S, s'.e 0 = .lst (G.map intsV) → s'.e 1 = .int .i64 n → s'.e 8 = .lst (G.map intsV) → s'.e 9 = .int .i64 G.length → s'.e 10 = .int .i64 (IntKind.i64.wrap ((i : Int) + 1)) → (∃ ro, s'.e 5 = .own ro ∧ ro < s'.nt ∧ s'.R ro = some ⟨1, (out ++ [(i : Int)]).map (V.int .i64), true⟩) → L s' := fun hd s' a0 a1 a8 a9 a10 ar => by
      rw [if_pos hd] at hs
      exact ih s' ⟨a0, a1, a8, a9, by rw [a10, hw], by rw [hs]; exact ar⟩
    have no : decide ((i : Int) ≠ n ∧ 0 ≤ a ∨ (i : Int) = n ∧ 0 ≤ b) = false → ∀ s' : S, s'.e 0 = .lst (G.map intsV) → s'.e 1 = .int .i64 n → s'.e 8 = .lst (G.map intsV) → s'.e 9 = .int .i64 G.length → s'.e 10 = .int .i64 (IntKind.i64.wrap ((i : Int) + 1)) → (∃ ro, s'.e 5 = .own ro ∧ ro < s'.nt ∧ s'.R ro = some ⟨1, out.map (V.int .i64), true⟩) → L s' := fun hd s' a0 a1 a8 a9 a10 ar => by
      rw [if_neg (by rw [hd]; simp)] at hs
      exact ih s' ⟨a0, a1, a8, a9, by rw [a10, hw], by rw [hs]; exact ar⟩
    by_cases h1 : (i : Int) = n
    · subst h1
      simp only [Int.toNat_natCast] at hy hn2
      have h1 : True := trivial
      by_cases h3 : 0 ≤ b
      · have yes := yes (decide_eq_true (.inr ⟨rfl, h3⟩))
        by_cases h2 : 0 ≤ a <;> simp [-getElem?_pos, gcz, gcs, g0, g1, g8, g9, g10, g5, hR, hL, hi, e70, k2, k3, hy, hn0, hn1, hn2, e71, h1, h2, h3, n0, n1, n2, r1, r2]
        · refine yes _ ?_ ?_ ?_ ?_ ?_ ⟨t.nt + 2, ?_, ?_, ?_⟩ <;> simp [g0, g1, g8, g9]
        · refine yes _ ?_ ?_ ?_ ?_ ?_ ⟨t.nt + 2, ?_, ?_, ?_⟩ <;> simp [g0, g1, g8, g9]
      · have no := no (decide_eq_false (by rintro (⟨h, _⟩ | ⟨_, h⟩); exact h rfl; exact h3 h))
        by_cases h2 : 0 ≤ a <;> simp [-getElem?_pos, gcz, gcs, g0, g1, g8, g9, g10, g5, hR, hL, hi, e70, k2, k3, hy, hn0, hn1, hn2, e71, h1, h2, h3, n0, n1, n2]
        · refine no _ ?_ ?_ ?_ ?_ ?_ ⟨ro, ?_, ?_, ?_⟩ <;> first | (simp [g0, g1, g8, g9, g5, hR, n0]; done) | (simp; omega)
        · refine no _ ?_ ?_ ?_ ?_ ?_ ⟨ro, ?_, ?_, ?_⟩ <;> first | (simp [g0, g1, g8, g9, g5, hR, n0]; done) | (simp; omega)
    · by_cases h2 : 0 ≤ a
      · have yes := yes (decide_eq_true (.inl ⟨h1, h2⟩))
        by_cases h3 : 0 ≤ b <;> simp [-getElem?_pos, gcz, gcs, g0, g1, g8, g9, g10, g5, hR, hL, hi, e70, k2, k3, hy, hn0, hn1, hn2, e71, h1, h2, h3, n0, n1, n2, r1, r2]
        · refine yes _ ?_ ?_ ?_ ?_ ?_ ⟨t.nt + 2, ?_, ?_, ?_⟩ <;> simp [g0, g1, g8, g9]
        · refine yes _ ?_ ?_ ?_ ?_ ?_ ⟨t.nt + 2, ?_, ?_, ?_⟩ <;> simp [g0, g1, g8, g9]
      · have no := no (decide_eq_false (by rintro (⟨_, h⟩ | ⟨h, _⟩); exact h2 h; exact h1 h))
        by_cases h3 : 0 ≤ b <;> simp [-getElem?_pos, gcz, gcs, g0, g1, g8, g9, g10, g5, hR, hL, hi, e70, k2, k3, hy, hn0, hn1, hn2, e71, h1, h2, h3, n0, n1, n2]
        · refine no _ ?_ ?_ ?_ ?_ ?_ ⟨ro, ?_, ?_, ?_⟩ <;> first | (simp [g0, g1, g8, g9, g5, hR, n0]; done) | (simp; omega)
        · refine no _ ?_ ?_ ?_ ?_ ?_ ⟨ro, ?_, ?_, ?_⟩ <;> first | (simp [g0, g1, g8, g9, g5, hR, n0]; done) | (simp; omega)
  · rintro c' t ⟨g0, g1, g8, g9, g10, ro, g5, hro, hR⟩
    simp [g0, g1, g8, g9, g10, g5, hR]
theorem f69_ok (G : List (List Int)) (hG : Gr G) (n : Int) (hn : inG G n) : FunOK Tryz.prog 69 [.lst (G.map intsV), .int .i64 n] false (.inl 1 ((hangTo G n G.length).map (V.int .i64))) := by
  refine fun_ok (mkE_ok zmix (cl := [(72, c72)]) (gl := []) [] c72_ok trivial) Tryz.func69 (by kernel_rfl) ?_
  refine FunW_run _ _ rfl rfl ?_
  have hn8 := hG.1
  have e72 := c72_eq G n hG hn
  have hD := @hangF_ok G hG n
  have hFl := hD.len
  have hP : ∀ k : Nat, k < G.length → hangP G n k = decide (0 < gI (hangF G n) k) := fun k hk => by
    unfold hangP
    rw [Bool.eq_iff_iff, decide_eq_true_eq, decide_eq_true_eq]
    exact (hang_iff hG hn hD ⟨by omega, by omega⟩).symm
  generalize hangF G n = F at *
  simp [e72]
  refine lp_list F (fun i t => t.e 11 = .own 2 ∧ t.R 2 = some ⟨1, F.map (V.int .i64), true⟩ ∧ 2 < t.nt ∧ t.e 12 = .int .i64 F.length ∧ t.e 13 = .int .i64 i ∧ (∃ ro, t.e 5 = .own ro ∧ ro < t.nt ∧ ¬ ro = 2 ∧ t.R ro = some ⟨1, (hangTo G n i).map (V.int .i64), true⟩)) ?_ ?_ ?_
  · simp [hangTo]
  · rintro c' L hL i t x hx hi ih ⟨g11, hF, hnt, g12, g13, ro, g5, hro, hne, hR⟩
    have hw := wrI (i := i) (by omega)
    have hs := hangTo_succ G n i
    have hl := hangTo_len G n i
    have k3 := gI_get hi
    rw [hx] at k3
    have k3 := Option.some.inj k3
    rw [hP i (by omega), ← k3] at hs
    generalize hangTo G n i = out at *
    have n0 : ¬ ro = t.nt := by omega
    have n1 : ¬ ro = t.nt + 1 := by omega
    have m0 : ¬ 2 = t.nt := by omega
    have m1 : ¬ 2 = t.nt + 1 := by omega
    have hne' : ¬ 2 = ro := fun e => hne e.symm
    have r1 : room ⟨1, false, 8, .int .i64 0⟩ 1 := by simp [room]
    have r2 : room ⟨1, false, 8, .int .i64 0⟩ (out.length + 1) := by simp [room]; omega
    by_cases hp : 0 < x
    · rw [if_pos (decide_eq_true hp)] at hs
      simp [-getElem?_pos, gcz, gcs, g11, hF, g12, g13, g5, hR, hL, hi, hx, hp, n0, n1, m0, m1, hne, hne', r1, r2]
      refine ih _ ⟨by simp [g11], by simp [hF, m0, m1, hne'], by simp; omega, by simp [g12], by simp [hw], t.nt + 1, by simp, by simp, by omega, ?_⟩
      rw [hs]
      simp
    · rw [if_neg (by simp [hp])] at hs
      simp [-getElem?_pos, gcz, gcs, g11, hF, g12, g13, g5, hR, hL, hi, hx, hp, n0, n1, m0, m1, hne, hne']
      refine ih _ ⟨by simp [g11], by simp [hF], by simp; omega, by simp [g12], by simp [hw], ro, by simp [g5], by simp; omega, hne, by rw [hs]; simp [hR]⟩
  · rintro c' t ⟨g11, hF, hnt, g12, g13, ro, g5, hro, hne, hR⟩
    rw [hFl] at hR
    simp [g11, hF, g12, g13, g5, hR]
end Go.TM.Tryz
end
section
set_option maxHeartbeats 16000000
set_option maxRecDepth 20000
namespace Go.TM.Tryz
open Go Go.TM Go.Proofs
noncomputable def c67 := ctr (fun a : List (List Int) × Int => Gr a.1 ∧ inG a.1 a.2) (fun a => [.lst (a.1.map intsV), .int .i64 a.2]) (fun a => (false, .inl 1 ((hangTo a.1 a.2 a.1.length).map (V.int .i64))))
theorem c67_eq (G : List (List Int)) (n : Int) (hG : Gr G) (hn : inG G n) : c67 [.lst (G.map intsV), .int .i64 n] = some (false, .inl 1 ((hangTo G n G.length).map (V.int .i64))) := ctr_eq (inj_gn _) (G, n) ⟨hG, hn⟩ rfl
theorem c67_ok : COK Tryz.prog (67, c67) := ctr_ok fun a h => f67_ok a.1 h.1 a.2 h.2
noncomputable def c69 := ctr (fun a : List (List Int) × Int => Gr a.1 ∧ inG a.1 a.2) (fun a => [.lst (a.1.map intsV), .int .i64 a.2]) (fun a => (false, .inl 1 ((hangTo a.1 a.2 a.1.length).map (V.int .i64))))
theorem c69_eq (G : List (List Int)) (n : Int) (hG : Gr G) (hn : inG G n) : c69 [.lst (G.map intsV), .int .i64 n] = some (false, .inl 1 ((hangTo G n G.length).map (V.int .i64))) := ctr_eq (inj_gn _) (G, n) ⟨hG, hn⟩ rfl
theorem c69_ok : COK Tryz.prog (69, c69) := ctr_ok fun a h => f69_ok a.1 h.1 a.2 h.2
noncomputable def hangR (l : List Src) (n : Int) : List Int × Bool := if goodL l = true then (if inB n 0 (l.length - 1) = true then (hangTo (rowsN l) n (rowsN l).length, true) else ([], false)) else ([], false)
theorem hangR_len {l : List Src} {n : Int} : (hangR l n).1.length ≤ 8 := by
  unfold hangR
  split
  · split
    · have := hangTo_len (rowsN l) n (rowsN l).length
      have := (rowsN_gr l).1
      simp only
      omega
    · simp
  · simp
theorem inB_inG {l : List Src} {n : Int} (hg : goodL l = true) (h : inB n 0 (l.length - 1) = true) : inG (rowsN l) n := by
  have := rowsN_len l
  rw [if_pos hg] at this
  unfold inB at h
  simp only [Bool.and_eq_true, decide_eq_true_eq] at h
  exact ⟨h.1, by omega⟩
theorem f32_ok (l : List Src) (n : Int) (hl : SrcsOk l) : FunOK Tryz.prog 32 [.lst (l.map Src.v), .int .i64 n] false (.tup [.inl 1 ((hangR l n).1.map (V.int .i64)), .bool (hangR l n).2]) := by
  refine fun_ok (mkE_ok zmix (cl := [(59, c59), (60, c60), (66, c66), (67, c67)]) (gl := []) [] ⟨c59_ok, c60_ok, c66_ok, c67_ok⟩ trivial) Tryz.func32 (by kernel_rfl) ?_
  refine FunW_run _ _ rfl rfl ?_
  have hll := hl.1
  have e59 := c59_eq l hl
  have e60 := c60_eq l hl
  have hn := norms_needsS l
  have e66 := c66_eq n 0 (l.length - 1)
  have w : IntKind.i64.wrap ((l.length : Int) - 1) = (l.length : Int) - 1 := wrap64 (by omega) (by omega)
  have hr : hangR l n = if goodL l = true then (if inB n 0 (l.length - 1) = true then (hangTo (rowsN l) n (rowsN l).length, true) else ([], false)) else ([], false) := rfl
  generalize hangR l n = R at *
  cases h : goodL l with
  | false =>
    rw [h] at e59 hr
    rw [if_neg (by simp)] at hr
    subst hr
    generalize inB n 0 (l.length - 1) = b at e66
    simp [e59, w, e66]
  | true =>
    have e67 := fun hi => c67_eq (rowsN l) n (rowsN_gr l) (inB_inG h hi)
    rw [h] at e59 hr
    rw [if_pos rfl] at hr
    rw [← rowsN_good h] at hn
    generalize needsS l = E at *
    generalize rowsN l = A at *
    cases hb : inB n 0 (l.length - 1) with
    | false =>
      rw [hb] at e66 hr
      rw [if_neg (by simp)] at hr
      subst hr
      simp [e59, w, e66]
    | true =>
      have e67 := e67 hb
      rw [hb] at e66 hr
      rw [if_pos rfl] at hr
      subst hr
      generalize hangTo A n A.length = o at *
      simp [-intsV, -intsO, e59, w, e66, e60, hn, e67]
theorem f33_ok (l : List Src) (n : Int) (hl : SrcsOk l) : FunOK Tryz.prog 33 [.lst (l.map Src.v), .int .i64 n] false (.tup [.inl 1 ((hangR l n).1.map (V.int .i64)), .bool (hangR l n).2]) := by
  refine fun_ok (mkE_ok zmix (cl := [(62, c62L), (68, c68), (69, c69)]) (gl := []) [] ⟨c62L_ok, c68_ok, c69_ok⟩ trivial) Tryz.func33 (by kernel_rfl) ?_
  refine FunW_run _ _ rfl rfl ?_
  have hll := hl.1
  have e62 := c62L_eq l hl
  have hO := norms_intsO (rowsN l)
  have e68 := c68_eq n 0 (l.length - 1)
  have w : IntKind.i64.wrap ((l.length : Int) - 1) = (l.length : Int) - 1 := wrap64 (by omega) (by omega)
  have hr : hangR l n = if goodL l = true then (if inB n 0 (l.length - 1) = true then (hangTo (rowsN l) n (rowsN l).length, true) else ([], false)) else ([], false) := rfl
  generalize hangR l n = R at *
  cases h : goodL l with
  | false =>
    rw [h] at e62 hr
    rw [if_neg (by simp)] at hr
    subst hr
    generalize rowsN l = A at *
    generalize inB n 0 (l.length - 1) = b at e68
    simp [-intsV, -intsO, e62, w, e68]
  | true =>
    have e69 := fun hi => c69_eq (rowsN l) n (rowsN_gr l) (inB_inG h hi)
    rw [h] at e62 hr
    rw [if_pos rfl] at hr
    generalize rowsN l = A at *
    cases hb : inB n 0 (l.length - 1) with
    | false =>
      rw [hb] at e68 hr
      rw [if_neg (by simp)] at hr
      subst hr
      simp [-intsV, -intsO, e62, w, e68]
    | true =>
      have e69 := e69 hb
      rw [hb] at e68 hr
      rw [if_pos rfl] at hr
      subst hr
      generalize hangTo A n A.length = o at *
      simp [-intsV, -intsO, e62, w, e68, hO, e69]
theorem inj_sn {β : Type} (out : List Src × Int → β) : ∀ a b : List Src × Int, [V.lst (a.1.map Src.v), .int .i64 a.2] = [V.lst (b.1.map Src.v), .int .i64 b.2] → out a = out b := by
  rintro ⟨a, c⟩ ⟨b, d⟩ h
  simp only [List.cons.injEq, and_true, V.lst.injEq, V.int.injEq, true_and] at h
  rw [srcs_inj h.1, h.2]
noncomputable def c32 := ctr (fun a : List Src × Int => SrcsOk a.1) (fun a => [V.lst (a.1.map Src.v), .int .i64 a.2]) (fun a => (false, .tup [.inl 1 ((hangR a.1 a.2).1.map (V.int .i64)), .bool (hangR a.1 a.2).2]))
theorem c32_eq (l : List Src) (n : Int) (h : SrcsOk l) : c32 [.lst (l.map Src.v), .int .i64 n] = some (false, .tup [.inl 1 ((hangR l n).1.map (V.int .i64)), .bool (hangR l n).2]) := ctr_eq (inj_sn _) (l, n) h rfl
theorem c32_ok : COK Tryz.prog (32, c32) := ctr_ok fun a h => f32_ok a.1 a.2 h
noncomputable def c33 := ctr (fun a : List Src × Int => SrcsOk a.1) (fun a => [V.lst (a.1.map Src.v), .int .i64 a.2]) (fun a => (false, .tup [.inl 1 ((hangR a.1 a.2).1.map (V.int .i64)), .bool (hangR a.1 a.2).2]))
theorem c33_eq (l : List Src) (n : Int) (h : SrcsOk l) : c33 [.lst (l.map Src.v), .int .i64 n] = some (false, .tup [.inl 1 ((hangR l n).1.map (V.int .i64)), .bool (hangR l n).2]) := ctr_eq (inj_sn _) (l, n) h rfl
theorem c33_ok : COK Tryz.prog (33, c33) := ctr_ok fun a h => f33_ok a.1 a.2 h
theorem f6_ok (l : List Src) (n : Int) (hl : limL Src.lim l) : FunOK Tryz.prog 6 [.lst (l.map Src.v), .int .i64 n] false (.bool true) := by
  refine fun_ok (mkE_ok zmix (cl := [(18, c18), (20, c20), (32, c32), (33, c33), (29, c29), (23, c23), (31, c31)]) (gl := [(24, [true], c24), (30, [true], c30)]) [] ⟨c18_ok, c20_ok, c32_ok, c33_ok, c29_ok, c23_ok, c31_ok⟩ ⟨c24_ok, c30_ok⟩) Tryz.func6 (by kernel_rfl) ?_
  refine FunW_run _ _ rfl rfl ?_
  have e18 := c18_eq l 1048576 hl (by omega) (by omega)
  by_cases hz : ¬ (szL Src.sz l : Int) ≤ 1048576
  · rw [szR_lt (by omega)] at e18
    simp [e18]
  have hz : szL Src.sz l ≤ 1048576 := by omega
  rw [szR_ge (by omega)] at e18
  have h0 : ¬ (1048576 : Int) < szL Src.sz l := by omega
  have e20 := c20_eq l hz
  have hlen := szL_len Src.sz l
  have hS := srcsOk_of hz
  have eW := c32_eq l n hS
  have eG := c33_eq l n hS
  have hX8 := @hangR_len l n
  generalize (hangR l n).1 = X at *
  generalize (hangR l n).2 = b at *
  have e29 := c29_eq X (by omega)
  have e23 := c23_eq l hl
  have k1 : cnt cSrc l = 2 * l.length := cnt_const (fun _ => rfl) l
  have e24 := c24_eq l 1 (by omega) (by omega) (by omega)
  have k2 : cnt cNum X = 1 * X.length := cnt_const (fun _ => rfl) X
  have e30 := c30_eq X 1 (by omega) (by omega) (by omega)
  have e31 := c31_eq X 1 (by omega) (by omega) (by omega)
  have hb1 : ¬ (1 : Int) + (cnt cSrc l : Nat) < 0 := by omega
  have hb2 : ¬ (1 : Int) + (cnt cNum X : Nat) < 0 := by omega
  simp [e18, h0, e20, eW, eG, e29, e23, e24, e30, e31, hb1, hb2]
end Go.TM.Tryz
end
section
namespace Go.TM
open Go Go.RowKit
def mem1 (W : World) : Mem := ⟨Old W, fun _ => none, fun _ => 0, fun _ => undef, fun _ _ _ => undef, 0, 0⟩
theorem mem1_ok {W : World} {args : List V} (h : adCs args S.zero = (args, S.zero)) : MemOK (mem1 W) W (start args []) := by
  have hR : (start args []).R = fun _ => none := by simp only [start, h]; rfl
  have hB : (start args []).B = fun _ => none := by
    funext x
    simp [start, h, adCs]
  refine ⟨by simp only [start, h]; rfl, by simp only [start, h]; rfl, fun b c hb => ?_, fun t r hr => ?_, fun b hb => ⟨rfl, hb⟩, fun b l hl => (by cases hl), fun b t hl => (by cases hl), fun b k hl => (by cases hl)⟩
  · rw [hB] at hb; cases hb
  · rw [hR] at hr; cases hr
theorem close_bool {M : Mem} {W : World} {s : S} {k : Nat} {sv : V} {v : Value} {b : Bool} (hr : SR2 M W sv v) (hc : closeR s k sv = .bool b) : v = .bool b := by
  cases sv with
  | bool c =>
    simp [closeR, closeB, onL1, closeL] at hc
    subst hc
    exact hr
  | tup xs => simp [closeR] at hc
  | agg xs => simp [closeR, closeB, onL1] at hc
  | ptr b' o =>
    cases o with
    | zero =>
      simp only [closeR, closeB] at hc
      split at hc
      · split at hc <;> cases hc
      · cases hc
    | succ o => simp [closeR, closeB, onL1, closeL] at hc
  | own t =>
    simp only [closeR, closeB, onL1, closeL] at hc
    split at hc <;> cases hc
  | fn f caps => cases caps <;> simp [closeR, closeB, onL1, closeL] at hc
  | _ => simp [closeR, closeB, onL1, closeL] at hc
theorem run_true {P : Program} {f : FuncId} {args : List V} (h : FunOK P f args false (.bool true)) (hs : adCs args S.zero = (args, S.zero)) {W : World} {vs : List Value} (hv : All2 (SR1 (mem1 W) W) args vs) :
    Calls P f vs.toArray W fun e W' => e = .returned (.bool true) ∧ Below W.heap.size W W' := by
  refine (h.calls (mem1 W) W vs (mem1_ok hs) (by rw [hs]; exact hv)).mono ?_
  rintro e W' ⟨v, M', s', sv, rfl, hp⟩
  rw [close_bool hp.rel hp.res]
  exact ⟨rfl, hp.evo.os, hp.evo.tape, hp.evo.output, hp.evo.size, fun k hk => hp.evo.old k hk rfl⟩
end Go.TM
end
section
set_option maxHeartbeats 2000000
namespace Go.Proofs.YtgpkbmekdmpgoaaGreatDoor
open Go Go.ChangeShapes Go.WideShapes Go.ChangeAt Go.RowKit Go.TM Go.TM.Tryz
theorem own : ownKnob Tryz.prog.godebug = none := by kernel_rfl
theorem laidOut : laidOutB Tryz.prog = true := by kernel_rfl
theorem slice_value {P : Program} {W : World} {base : Nat} {t e : TypeId} {v : Value} (ht : P.underlying t = some (.slice e)) (h : Value.okWide P W .any base t v) : ∃ A n c, v = .slice A n c := by
  simp only [Value.okWide, ht] at h
  simp only [Cell.okWide, ht] at h
  simp only [Cell.ok, ht] at h
  cases v <;> first | exact ⟨_, _, _, rfl⟩ | exact h.elim
theorem src_ad (l : List TM.Src) (n : Int) : adCs [.lst (l.map TM.Src.v), .int .i64 n] S.zero = ([.lst (l.map TM.Src.v), .int .i64 n], S.zero) := by rfl
theorem laid_met (os : Os) (args : Array Value) : laidMetH Tryz.prog Rows.fnExactHangOnRow.laid ((World.laidAll Tryz.prog os Rows.fnExactHangOnRow.laid).forCall (fun _ _ => 0) ⟨#[], args, []⟩).memory := by
  rw [MakeChecks.laidMetH_plain _ _ _ (by kernel_rfl)]
  exact laidMet_laidAll _ (by kernel_rfl) (by kernel_rfl)
theorem int_value {P : Program} {W : World} {base : Nat} {t : TypeId} {k : IntKind} {v : Value} (ht : P.underlying t = some (.int k)) (h : Value.okWide P W .any base t v) : ∃ k' n, v = .int k' n := by
  simp only [Value.okWide, ht] at h
  simp only [Cell.okWide, ht] at h
  simp only [Cell.ok, ht] at h
  cases v <;> first | exact ⟨_, _, rfl⟩ | exact h.elim
set_option maxRecDepth 100000 in
theorem fnExactHangOn_lifted (os : Os) (started : os.Started) (H : Type) (enc : TypeId × Value → H) :
    ReturnsInHanded {} Tryz.checked os 6 .any (fun w args => (Rows.fnExactHangOnSpec.pre enc Tryz.prog Tryz.f6 Rows.fnExactHangOnRow.domain false w args ∧ laidMetH Tryz.prog Rows.fnExactHangOnRow.laid w) ∧ sizedMet enc Tryz.prog Tryz.f6 (OpenSpec.ofChange Rows.fnExactHangOnSpec) false w args)
      (Rows.fnExactHangOnSpec.post enc Tryz.prog Tryz.f6 false true false false) := by
  refine returnsInHanded_of_change_and (C := Tryz.checked) (X := fun w _ => laidMetH Tryz.prog Rows.fnExactHangOnRow.laid w) (fun _ _ _ hh h => h.of_heap hh) own started (by kernel_rfl) Tryz.func6
    (ChangeSpec.witness_shaped (enc := enc) (C := Tryz.checked) (os := os) (X := fun w _ => laidMetH Tryz.prog Rows.fnExactHangOnRow.laid w) false (World.laidAll Tryz.prog os Rows.fnExactHangOnRow.laid) #[.slice none 0 0, .int .i64 0] 8 (World.laidAll_os _ _ _)
      (World.shaped_of_ZipB (by kernel_rfl) (by kernel_rfl)) (by kernel_rfl) (by kernel_rfl) (by kernel_rfl) (laid_met os _)) ?_
  intro W base args ds gs before hval0 hW _ _ _ _
  have hval : ∀ (j : Nat) t v, Tryz.f6.params[j]? = some t → args[j]? = some v → Value.okWide Tryz.prog W .any base t v := hval0
  have hW' := hW
  obtain ⟨p, q, hA0, hV, rfl, hfz, hnd⟩ := hW
  have hA : DataW.TrodAll enc Tryz.prog W 0 (fun _ => true) true Tryz.f6.params.toList args.toList ds p := hA0
  rw [Tryz.params6] at hA hval
  obtain ⟨v0, v1, d0, d1, p0, p1, rfl, rfl, rfl, h0, h1⟩ := trodAll_two hA
  obtain ⟨rfl, rfl⟩ := trodVars_none hV
  obtain ⟨A0, n0, c0, rfl⟩ := slice_value Tryz.underlying34 (hval 0 34 v0 rfl rfl)
  obtain ⟨k1, n1, rfl⟩ := int_value Tryz.underlying3 (hval 1 3 v1 rfl rfl)
  clear hA0 hval0
  simp only [List.append_nil] at hW'
  have hlt : ∀ x ∈ p0 ++ p1, x.block < W.heap.size := fun x hx => by simpa using hW'.lt x hx
  have g0 := h0
  obtain ⟨fuel0, hf0⟩ := g0
  obtain ⟨l, hl, hs⟩ := (rd_slice Tryz.underlying34 (n := 2) (by kernel_rfl) (by omega) (fun _ => rfl) rd_Src) _ _ _ hf0
  obtain ⟨fuel1, hf1⟩ := h1
  have h1 : DataW.Trod enc Tryz.prog W 0 (fun _ => true) true 3 (.int k1 n1) d1 p1 := ⟨fuel1, hf1⟩
  obtain ⟨m, hm, hs'⟩ := rd_int Tryz.underlying3 _ _ _ hf1
  have hmm : Value.int k1 n1 = .int .i64 m := by
    have h2 := hs'.1
    simp only [vw] at h2
    cases h2
    rfl
  cases hmm
  have hsr : SR1 (mem1 W) W (.lst (l.map TM.Src.v)) (.slice A0 n0 c0) := hs.1
  refine (run_true (f6_ok l n1 hl) (src_ad l n1) (vs := [.slice A0 n0 c0, .int .i64 n1]) ⟨hsr, rfl, trivial⟩).mono fun e W' ⟨he, hb⟩ => ?_
  subst he
  have harg0 : DataW.Trod enc Tryz.prog W' 0 (fun b => decide (b < W.heap.size)) true 34 (.slice A0 n0 c0) d0 p0 :=
    Below.trod laidOut (by kernel_rfl) (of_decide_eq_true (by kernel_rfl)) h0 hb (fun x hx => hlt x (List.mem_append.2 (.inl hx)))
  have harg1 : DataW.Trod enc Tryz.prog W' 0 (fun b => decide (b < W.heap.size)) true 3 (.int .i64 n1) d1 p1 :=
    Below.trod laidOut (by kernel_rfl) (of_decide_eq_true (by kernel_rfl)) h1 hb (fun x hx => hlt x (List.mem_append.2 (.inr hx)))
  exact ⟨_, rfl, _, _, _, [], _, [], hW', trodAll_mk1 (shut_bool Tryz.underlying4 _), trodAll_mk2 harg0 harg1, rfl, hb.frame _, fun h => by cases h⟩
theorem facts0 : Tryz.pinned.checked.prog.funcNamed Rows.fnExactHangOnRow.func = some 6 := by kernel_rfl
theorem facts1 : (Rows.fnExactHangOnRow.inPlace == Tryz.pinned.checked.prog.inPlace 6) = true := by kernel_rfl
theorem facts2 : (Rows.fnExactHangOnRow.unfollowed == Tryz.pinned.checked.prog.unfollowed 6) = true := by kernel_rfl
theorem facts3 : (Rows.fnExactHangOnRow.recurses == Tryz.pinned.checked.prog.recurses 6) = true := by kernel_rfl
theorem facts4 : (Rows.fnExactHangOnRow.named == Tryz.pinned.checked.prog.varsNamed 6) = true := by kernel_rfl
theorem facts5 : joinedFacts Tryz.pinned.checked.prog 6 Tryz.f6 Rows.fnExactHangOnSpec Rows.fnExactHangOnRow = true := by
  unfold joinedFacts
  rw [facts1, facts2, facts3, facts4]
  kernel_rfl
theorem facts6 : Tryz.f6.isInstance Tryz.pinned.checked.prog Rows.fnExactHangOnRow.origin Rows.fnExactHangOnRow.targs := of_decide_eq_true (by kernel_rfl)
theorem facts7 : Tryz.f6.isWrapper Tryz.pinned.checked.prog Rows.fnExactHangOnRow.wrapper Rows.fnExactHangOnRow.mainSum := by
  unfold Func.isWrapper; first | (rw [if_pos (by decide +kernel)]; kernel_rfl) | (rw [if_neg (by decide +kernel)]; exact ⟨rfl, rfl⟩)
theorem fnExactHangOn_row : Rows.FnExactHangOnSaid :=
  OpenClaim.holds_of_wide 6 Tryz.f6 rfl rfl rfl rfl rfl rfl rfl ⟨rfl, rfl, rfl, rfl, rfl⟩ rfl rfl rfl rfl rfl facts0 Tryz.func6 facts5 facts6 facts7
    (fun os started H enc _ => fnExactHangOn_lifted os started H enc)
theorem fnExactHangOn_holds : Rows.FnExactHangOnCardSaid :=
  Claim7.holds_tied_plain_at .later [] [.data, .data, .data, .data, .sentinel, .sentinel, .pinned] true (true, "4fb26d283fa2b75eae0e6a7d35f92e8852ce8f6188695db1595219b23312b0c8") true
    fnExactHangOn_row (fun _ h => by cases h) (by kernel_rfl) (fun _ h => by cases h) fnExactHangOn_row_tie rfl ⟨rfl, rfl⟩ (by kernel_rfl) rfl
    (fun f fn hf hfn => by
      obtain rfl : f = 6 := Option.some.inj ((show Tryz.prog.funcNamed "loop.example/g00837/laws.FnExactHangOn" = some 6 by kernel_rfl).symm.trans hf) |>.symm
      obtain rfl : fn = Tryz.f6 := (Option.some.inj (Tryz.func6.symm.trans hfn)).symm
      exact ⟨by kernel_rfl, fun j t ht => by
        rw [Tryz.params6] at ht
        have hm : t ∈ [34, 3] := by simpa using Array.mem_of_getElem? ht
        have hall : ([34, 3].all fun u => !Tryz.prog.wantsStandIn u) = true := by kernel_rfl
        exact (show Tryz.prog.wantsStandIn t = false by simpa using List.all_eq_true.1 hall t hm)⟩)
    (by kernel_rfl)
end Go.Proofs.YtgpkbmekdmpgoaaGreatDoor
end
