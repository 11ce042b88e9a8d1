/- A part of the proof: UU, UV, UW, UY. -/
import Derived.Test.YtgpkbmekdmpgoaaGreatDoorK20
set_option linter.unusedVariables false
set_option linter.unusedSimpArgs false
section
set_option maxHeartbeats 16000000
set_option maxRecDepth 20000
namespace Go.TM
open Go
theorem rowF_up {k : Int} : ∀ (row far : List Int) {b : Int}, UpB far b → UpB (rowF k row far) (b + row.length)
  | [], far, b, h => by simpa [rowF] using h
  | x :: row, far, b, h => by
    have := rowF_up (k := k) row (relax k far x) (relax_up h)
    have e : b + 1 + (row.length : Nat) = b + ((x :: row).length : Nat) := by simp only [List.length_cons]; omega
    rw [e] at this
    exact this
theorem UpB.mono {far : List Int} {a b : Int} (h : UpB far a) (hab : a ≤ b) : UpB far b := fun k => by
  have := h k
  omega
theorem rowF_len {k : Int} : ∀ (row far : List Int), (rowF k row far).length = far.length
  | [], far => rfl
  | x :: row, far => by
    have := rowF_len (k := k) row (relax k far x)
    rw [relax_len] at this
    exact this
theorem roundF_up {G : List (List Int)} (hG : Gr G) {far : List Int} {b : Int} (h : UpB far b) : ∀ i, UpB (roundF G far i) (b + 8 * i)
  | 0 => by simpa [roundF] using h
  | i + 1 => by
    have ih := roundF_up hG h i
    have := rowF_up (k := i) (G.getD i []) _ ih
    refine UpB.mono this ?_
    have hl : (G.getD i []).length ≤ 8 := by
      rw [List.getD_eq_getElem?_getD]
      cases hx : G[i]? with
      | none => simp
      | some x => exact hG.len x (List.mem_of_getElem? hx)
    omega
theorem roundF_len {G : List (List Int)} {far : List Int} : ∀ i, (roundF G far i).length = far.length
  | 0 => rfl
  | i + 1 => by
    have ih := roundF_len (G := G) (far := far) i
    have := rowF_len (k := i) (G.getD i []) (roundF G far i)
    rw [ih] at this
    exact this
theorem farN_up {G : List (List Int)} (hG : Gr G) {to : Int} : ∀ i, UpB (farN G to i) (64 * i)
  | 0 => fun k => by
    have : gI (initF G.length to) k = 0 ∨ gI (initF G.length to) k = gI (List.replicate G.length (-1)) k := gI_set_cases _ _ _ _
    rw [gI_rep] at this
    change gI (initF G.length to) k ≤ _
    omega
  | i + 1 => by
    have := roundF_up hG (farN_up hG (to := to) i) G.length
    refine UpB.mono this ?_
    have := hG.1
    omega
theorem farN_len {G : List (List Int)} {to : Int} : ∀ i, (farN G to i).length = G.length
  | 0 => by simp [farN, initF]
  | i + 1 => by
    have := roundF_len (G := G) (far := farN G to i) G.length
    rw [farN_len i] at this
    exact this
end Go.TM
namespace Go.TM.Tryz
open Go Go.TM Go.Proofs
theorem f70_ok (G : List (List Int)) (hG : Gr G) (to : Int) (ht : inG G to) : FunOK Tryz.prog 70 [.lst (G.map intsV), .int .i64 to] false (.inl 1 ((farS G to).map (V.int .i64))) := by
  refine fun_ok (mkE_ok zmix (cl := []) (gl := []) [] trivial trivial) Tryz.func70 (by kernel_rfl) ?_
  refine FunW_run _ _ rfl rfl ?_
  have hn8 := hG.1
  obtain ⟨ht0, ht1⟩ := ht
  have hn1 : 1 ≤ G.length := by omega
  have r0 : room ⟨1, false, 8, .int .i64 0⟩ G.length := by simp [room]; omega
  simp [r0]
  refine lp_list (List.replicate G.length (0 : Int)) (fun i t => t.e 0 = .lst (G.map intsV) ∧ t.e 1 = .int .i64 to ∧ t.e 15 = .int .i64 G.length ∧ t.e 16 = .int .i64 i ∧ (∃ ro, t.e 5 = .own ro ∧ t.R ro = some ⟨1, (halfL G.length i).map (V.int .i64), true⟩)) ?_ ?_ ?_
  · simp [halfL]
  · rintro c' L hL i t x hx hi ih ⟨g0, g1, g15, g16, ro, g5, hR⟩
    simp only [List.length_replicate] at hi
    have hw := wrI (i := i) (by omega)
    have hl := halfL_len (n := G.length) (k := i) (by omega)
    have hset := halfL_set hi
    have hil : i < (halfL G.length i).length := by omega
    have hv := gI_get hil
    simp [-getElem?_pos, gcz, gcs, g0, g1, g15, g16, g5, hR, hL, hi, hl, hil, hv]
    refine ih _ ⟨by simp [g0], by simp [g1], by simp [g15], by simp [hw], ro, by simp [g5], ?_⟩
    rw [← hset]
    simp [List.map_set]
  · rintro c' t ⟨g0, g1, g15, g16, ro, g5, hR⟩
    rw [List.length_replicate, halfL_all] at hR
    simp only [List.length_replicate] at g16
    have t1 : to.toNat < G.length := by omega
    have t3 : (List.replicate G.length (-1 : Int))[to.toNat]? = some (-1) := by rw [List.getElem?_replicate, if_pos t1]
    simp only [List.map_replicate] at hR
    simp [-getElem?_pos, gcz, gcs, g0, g1, g15, g16, g5, hR, ht0, ht1, t1, t3]
    refine lp_list G (fun i t => t.e 0 = .lst (G.map intsV) ∧ t.e 27 = .int .i64 G.length ∧ t.e 28 = .int .i64 i ∧ t.e 5 = .own ro ∧ t.R ro = some ⟨1, (farN G to i).map (V.int .i64), true⟩) ?_ ?_ ?_
    · simp [g0, g5, farN, initF, List.map_set, List.map_replicate]
    · rintro c2 L2 hL2 i u x hx hi ih2 ⟨u0, u27, u28, u5, uR⟩
      have hw2 : IntKind.i64.wrap ((i : Int) + 1) = ((i + 1 : Nat) : Int) := wrap64 (by omega) (by omega)
      have hN : farN G to (i + 1) = roundF G (farN G to i) G.length := rfl
      have hlN := @farN_len G to i
      have huN := farN_up hG (to := to) i
      generalize farN G to i = F0 at *
      simp [-getElem?_pos, gcz, gcs, u0, u27, u28, u5, uR, hi, hL2]
      refine lp_list G (fun k v => v.e 0 = .lst (G.map intsV) ∧ v.e 27 = .int .i64 G.length ∧ v.e 28 = .int .i64 i ∧ v.e 5 = .own ro ∧ (v.e 30 = .lst (G.map intsV) ∧ v.e 31 = .int .i64 G.length ∧ v.e 32 = .int .i64 k) ∧ v.R ro = some ⟨1, (roundF G F0 k).map (V.int .i64), true⟩) ?_ ?_ ?_
      · simp [u0, u27, u28, u5, uR, roundF]
      · rintro c3 L3 hL3 k v y hy hk ih3 ⟨v0, v27, v28, v5, ⟨v30, v31, v32⟩, vR⟩
        have hw3 : IntKind.i64.wrap ((k : Int) + 1) = ((k + 1 : Nat) : Int) := wrap64 (by omega) (by omega)
        have hgd : G.getD k [] = y := by rw [List.getD_eq_getElem?_getD, hy]; rfl
        have hK : roundF G F0 (k + 1) = rowF k y (roundF G F0 k) := by
          change rowF k (G.getD k []) (roundF G F0 k) = _
          rw [hgd]
        have hlK := roundF_len (G := G) (far := F0) k
        have huK := roundF_up hG huN k
        generalize roundF G F0 k = F1 at *
        have hyl := hG.len y (List.mem_of_getElem? hy)
        have hye := (hG.2 y (List.mem_of_getElem? hy)).2
        simp [-getElem?_pos, gcz, gcs, v0, v27, v28, v5, v30, v31, v32, vR, hk, hy, hL3]
        refine lp_list y (fun j w => w.e 0 = .lst (G.map intsV) ∧ w.e 27 = .int .i64 G.length ∧ w.e 28 = .int .i64 i ∧ w.e 5 = .own ro ∧ (w.e 30 = .lst (G.map intsV) ∧ w.e 31 = .int .i64 G.length ∧ w.e 32 = .int .i64 k) ∧ (w.e 37 = .lst (y.map (V.int .i64)) ∧ w.e 38 = .int .i64 y.length ∧ w.e 39 = .int .i64 j ∧ w.e 7 = .int .i64 k) ∧ (∃ F, F = (y.take j).foldl (relax k) F1 ∧ F.length = G.length ∧ UpB F (64 * i + 8 * k + j) ∧ w.R ro = some ⟨1, F.map (V.int .i64), true⟩)) ?_ ?_ ?_
        · refine ⟨by simp [v0], by simp [v27], by simp [v28], by simp [v5], by simp [v30, v31, v32], by simp, F1, rfl, by omega, huK.mono (by omega), by simp [vR]⟩
        · rintro c4 L4 hL4 j w z hz hj ih4 ⟨w0, w27, w28, w5, ⟨w30, w31, w32⟩, ⟨w37, w38, w39, w7⟩, F, hF, hFl, hFu, wR⟩
          have hw4 : IntKind.i64.wrap ((j : Int) + 1) = ((j + 1 : Nat) : Int) := wrap64 (by omega) (by omega)
          have hstep : (y.take (j + 1)).foldl (relax k) F1 = relax k F z := by
            rw [List.take_add_one, hz, hF]
            simp
          have hup := relax_up (k := k) (x := z) hFu
          have hlen2 := relax_len k F z
          obtain ⟨z0, z1⟩ := hye z (List.mem_of_getElem? hz)
          have z2 : z.toNat < F.length := by omega
          have z1' : z < F.length := by omega
          have z3 := gI_at z0 z1'
          have k2 : k < F.length := by omega
          have k3 := gI_get k2
          have hzb := hFu z
          have hwv : 0 ≤ gI F z → IntKind.i64.wrap (gI F z + 1) = gI F z + 1 := fun h => wrap64 (by omega) (by omega)
          have hv : relax k F z = if 0 ≤ gI F z ∧ (gI F k < 0 ∨ gI F z + 1 < gI F k) then F.set k (gI F z + 1) else F := by
            unfold relax
            rw [Int.toNat_natCast]
          have next : ∀ F', relax k F z = F' → ∀ s' : S, s'.e 0 = .lst (G.map intsV) → s'.e 27 = .int .i64 G.length → s'.e 28 = .int .i64 i → s'.e 5 = .own ro → s'.e 30 = .lst (G.map intsV) → s'.e 31 = .int .i64 G.length → s'.e 32 = .int .i64 k → s'.e 37 = .lst (y.map (V.int .i64)) → s'.e 38 = .int .i64 y.length → s'.e 39 = .int .i64 (IntKind.i64.wrap ((j : Int) + 1)) → s'.e 7 = .int .i64 k → s'.R ro = some ⟨1, F'.map (V.int .i64), true⟩ → L4 s' := fun F' hF' s' a0 a27 a28 a5 a30 a31 a32 a37 a38 a39 a7 aR => by
            refine ih4 s' ⟨a0, a27, a28, a5, ⟨a30, a31, a32⟩, ⟨a37, a38, by rw [a39, hw4], a7⟩, F', by rw [hstep, hF'], by rw [← hF', hlen2]; exact hFl, by rw [← hF']; exact hup.mono (by omega), aR⟩
          rw [hv] at next
          by_cases h1 : 0 ≤ gI F z
          · have hwv := hwv h1
            by_cases h2 : gI F k < 0
            · rw [if_pos ⟨h1, .inl h2⟩] at next
              simp [-getElem?_pos, gcz, gcs, w0, w27, w28, w5, w30, w31, w32, w37, w38, w39, w7, wR, hL4, hj, hz, z0, z1', z2, z3, k2, k3, h1, h2, hwv]
              refine next _ rfl _ ?_ ?_ ?_ ?_ ?_ ?_ ?_ ?_ ?_ ?_ ?_ ?_ <;> simp [w0, w27, w28, w5, w30, w31, w32, w37, w38, w39, w7, wR, List.map_set]
            · by_cases h3 : gI F z + 1 < gI F k
              · rw [if_pos ⟨h1, .inr h3⟩] at next
                simp [-getElem?_pos, gcz, gcs, w0, w27, w28, w5, w30, w31, w32, w37, w38, w39, w7, wR, hL4, hj, hz, z0, z1', z2, z3, k2, k3, h1, h2, h3, hwv]
                refine next _ rfl _ ?_ ?_ ?_ ?_ ?_ ?_ ?_ ?_ ?_ ?_ ?_ ?_ <;> simp [w0, w27, w28, w5, w30, w31, w32, w37, w38, w39, w7, wR, List.map_set]
              · rw [if_neg (by rintro ⟨_, h | h⟩ <;> omega)] at next
                simp [-getElem?_pos, gcz, gcs, w0, w27, w28, w5, w30, w31, w32, w37, w38, w39, w7, wR, hL4, hj, hz, z0, z1', z2, z3, k2, k3, h1, h2, h3, hwv]
                refine next _ rfl _ ?_ ?_ ?_ ?_ ?_ ?_ ?_ ?_ ?_ ?_ ?_ ?_ <;> simp [w0, w27, w28, w5, w30, w31, w32, w37, w38, w39, w7, wR]
          · rw [if_neg (by rintro ⟨h, _⟩; omega)] at next
            simp [-getElem?_pos, gcz, gcs, w0, w27, w28, w5, w30, w31, w32, w37, w38, w39, w7, wR, hL4, hj, hz, z0, z1', z2, z3, k2, k3, h1]
            refine next _ rfl _ ?_ ?_ ?_ ?_ ?_ ?_ ?_ ?_ ?_ ?_ ?_ ?_ <;> simp [w0, w27, w28, w5, w30, w31, w32, w37, w38, w39, w7, wR]
        · rintro c4 w ⟨w0, w27, w28, w5, ⟨w30, w31, w32⟩, ⟨w37, w38, w39, w7⟩, F, hF, hFl, hFu, wR⟩
          rw [List.take_length] at hF
          have hF : F = roundF G F0 (k + 1) := by rw [hK]; exact hF
          subst hF
          simp [-getElem?_pos, gcz, gcs, w0, w27, w28, w5, w30, w31, w32, w37, w38, w39, hL3]
          refine ih3 _ ⟨by simp [w0], by simp [w27], by simp [w28], by simp [w5], by simp [w30, w31, hw3], by simp [wR]⟩
      · rintro c3 v ⟨v0, v27, v28, v5, ⟨v30, v31, v32⟩, vR⟩
        rw [← hN] at vR
        simp [-getElem?_pos, gcz, gcs, v0, v27, v28, v5, v30, v31, v32, hL2]
        refine ih2 _ ⟨by simp [v0], by simp [v27], by simp [hw2], by simp [v5], by simp [vR]⟩
    · rintro c2 u ⟨u0, u27, u28, u5, uR⟩
      change u.R ro = some ⟨1, (farS G to).map (V.int .i64), true⟩ at uR
      simp [u0, u27, u28, u5, uR]
end Go.TM.Tryz
end
section
set_option maxHeartbeats 16000000
set_option maxRecDepth 20000
namespace Go.TM
open Go
theorem farS_len (G : List (List Int)) (n : Int) : (farS G n).length = G.length := farN_len _
end Go.TM
namespace Go.TM.Tryz
open Go Go.TM Go.Proofs
noncomputable def c70 := ctr (fun a : List (List Int) × Int => Gr a.1 ∧ inG a.1 a.2) (fun a => [.lst (a.1.map intsV), .int .i64 a.2]) (fun a => (false, .inl 1 ((farS a.1 a.2).map (V.int .i64))))
theorem c70_eq (G : List (List Int)) (to : Int) (hG : Gr G) (ht : inG G to) : c70 [.lst (G.map intsV), .int .i64 to] = some (false, .inl 1 ((farS G to).map (V.int .i64))) := ctr_eq (inj_gn _) (G, to) ⟨hG, ht⟩ rfl
theorem c70_ok : COK Tryz.prog (70, c70) := ctr_ok fun a h => f70_ok a.1 h.1 a.2 h.2
theorem row_at {G : List (List Int)} {n : Int} (hn : inG G n) : ∃ y, G[n.toNat]? = some y ∧ G.getD n.toNat [] = y ∧ n.toNat < G.length := by
  obtain ⟨h0, h1⟩ := hn
  have h2 : n.toNat < G.length := by omega
  refine ⟨G[n.toNat], List.getElem?_eq_getElem h2, ?_, h2⟩
  rw [List.getD_eq_getElem?_getD, List.getElem?_eq_getElem h2]
  rfl
end Go.TM.Tryz
end
section
set_option maxHeartbeats 16000000
set_option maxRecDepth 20000
namespace Go.TM.Tryz
open Go Go.TM Go.Proofs
end Go.TM.Tryz
end
section
namespace Go.TM
open Go
structure RW (G : List (List Int)) (F : List Int) (k : Int) (R : List Int) (f : Nat) (at_ : Int) (out : List Int) : Prop where
  at_in : inG G at_
  next : 0 ≤ nextF F (G.getD at_.toNat [])
  fuel : at_ = k ∧ 10 ≤ f ∨ at_ ≠ k ∧ 0 ≤ gI F at_ ∧ gI F at_ < f
  res : ringW G F k f at_ out = R
  len : out.length + f ≤ 21
theorem RW.pos {G : List (List Int)} {F : List Int} {k : Int} {R : List Int} {f : Nat} {at_ : Int} {out : List Int} (h : RW G F k R f at_ out) : ∃ f', f = f' + 1 := by
  rcases h.fuel with ⟨_, h1⟩ | ⟨_, h1, h2⟩
  · exact ⟨f - 1, by omega⟩
  · exact ⟨f - 1, by omega⟩
theorem RW.done {G : List (List Int)} {F : List Int} {k : Int} {R : List Int} {f : Nat} {at_ : Int} {out : List Int} (h : RW G F k R f at_ out) (hk : k ∈ G.getD at_.toNat []) : out = R := by
  obtain ⟨f', rfl⟩ := h.pos
  rw [← h.res]
  unfold ringW
  rw [if_pos hk]
theorem RW.step {G : List (List Int)} (hG : Gr G) {F : List Int} {k : Int} (ht : inG G k) (hF : Dist G k F) {R : List Int} {f : Nat} {at_ : Int} {out : List Int} (h : RW G F k R f at_ out) (hk : k ∉ G.getD at_.toNat []) :
    ∃ f', f = f' + 1 ∧ RW G F k R f' (nextF F (G.getD at_.toNat [])) (out ++ [nextF F (G.getD at_.toNat [])]) := by
  obtain ⟨f', rfl⟩ := h.pos
  refine ⟨f', rfl, ?_⟩
  have hl : ∀ x ∈ G.getD at_.toNat [], 0 ≤ x := fun x hx => (hG.at hx).1
  obtain ⟨n1, n2⟩ := next_ok (far := F) hl
  have hn := h.next
  have hb : nextF F (G.getD at_.toNat []) ≠ k := fun e => hk ((next_to hG ht hF at_).1 e)
  have hres := h.res
  unfold ringW at hres
  rw [if_neg hk] at hres
  have hfuel := h.fuel
  have hlen := h.len
  have hless := fun hne h0 => next_less hG ht hF h.at_in hne h0
  generalize nextF F (G.getD at_.toNat []) = b at *
  rcases n1 with n1 | ⟨n1, n3, n4⟩
  · omega
  · have hbG : inG G b := hG.at n1
    have hb8 := dist_lt hG ht hF hbG
    have hG8 := hG.1
    obtain ⟨m1, m2, m3⟩ := next_less hG ht hF hbG hb n4
    refine ⟨hbG, m1.1, .inr ⟨hb, n4, ?_⟩, hres, by rw [List.length_append]; simp only [List.length_singleton]; omega⟩
    rcases hfuel with ⟨_, h1⟩ | ⟨h0, h1, h2⟩
    · omega
    · have := (hless h0 h1).2.2
      omega
def ringFirst (G : List (List Int)) : Option Nat := (List.range G.length).find? fun k => hasRing G k
theorem ring_start {G : List (List Int)} (hG : Gr G) {k : Nat} (hk : k < G.length) (h : hasRing G k = true) : RW G (farS G k) k (ringAt G k) 20 k [(k : Int)] := by
  have ht : inG G (k : Int) := ⟨by omega, by omega⟩
  refine ⟨ht, of_decide_eq_true h, .inl ⟨rfl, by omega⟩, rfl, by simp⟩
theorem ring_hit {G : List (List Int)} {k : Nat} (hk : k < G.length) (hn : ∀ j, j < k → hasRing G j = false) (h : hasRing G k = true) : ringFirst G = some k := by
  unfold ringFirst
  rw [List.find?_range_eq_some]
  exact ⟨h, List.mem_range.2 hk, fun j hj => by rw [hn j hj]; rfl⟩
theorem ring_none {G : List (List Int)} (hn : ∀ j, j < G.length → hasRing G j = false) : ringFirst G = none := by
  unfold ringFirst
  rw [List.find?_range_eq_none]
  exact fun j hj => by rw [hn j hj]; rfl
def ringG (G : List (List Int)) : List Int × Bool := match ringFirst G with
  | some k => (ringAt G k, true)
  | none => ([], false)
theorem ringW_len {G : List (List Int)} {F : List Int} {k : Int} : ∀ (f : Nat) (at_ : Int) (out : List Int), (ringW G F k f at_ out).length ≤ out.length + f
  | 0, _, out => Nat.le_refl _
  | f + 1, at_, out => by
    unfold ringW
    split
    · omega
    · have := ringW_len (G := G) (F := F) (k := k) f (nextF F (G.getD at_.toNat [])) (out ++ [nextF F (G.getD at_.toNat [])])
      rw [List.length_append, List.length_singleton] at this
      omega
theorem ringG_len (G : List (List Int)) : (ringG G).1.length ≤ 21 := by
  unfold ringG
  split
  · rename_i k _
    exact ringW_len (G := G) (F := farS G k) (k := (k : Int)) 20 (k : Int) [(k : Int)]
  · simp
theorem next_same {G : List (List Int)} (hG : Gr G) {k : Int} (ht : inG G k) {F F' : List Int} (hF : Dist G k F) (hF' : Dist1 G k F') {at_ : Int} (hk : k ∉ G.getD at_.toNat []) : nextF F' (G.getD at_.toNat []) = nextF F (G.getD at_.toNat []) := by
  refine (nextF_agr (fun x hx => dist_agr hF hF' (hG.at hx) fun e => hk (e ▸ hx)) fun x hx => (hG.at hx).1).symm
end Go.TM
end
