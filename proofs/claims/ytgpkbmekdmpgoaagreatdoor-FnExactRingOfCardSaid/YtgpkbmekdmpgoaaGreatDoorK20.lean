/- A part of the proof: UO, US. -/
import Derived.Test.YtgpkbmekdmpgoaaGreatDoorK19
set_option linter.unusedVariables false
set_option linter.unusedSimpArgs false
section
set_option maxHeartbeats 16000000
set_option maxRecDepth 20000
namespace Go.TM.Tryz
open Go Go.TM Go.Proofs
theorem inj112 {β : Type} (out : HArg → β) : ∀ a b : HArg, (([.int .i64 a.at_, .int .i64 a.v, .ptr 0 0, .ptr 1 0, .ptr 2 0], [.lst (a.G.map intsV), .inl 1 (a.far.map (V.int .i64)), .inl 1 (a.q.map (V.int .i64))]) : List V × List V) = ([.int .i64 b.at_, .int .i64 b.v, .ptr 0 0, .ptr 1 0, .ptr 2 0], [.lst (b.G.map intsV), .inl 1 (b.far.map (V.int .i64)), .inl 1 (b.q.map (V.int .i64))]) → out a = out b := by
  rintro ⟨a1, a2, a3, a4, a5⟩ ⟨b1, b2, b3, b4, b5⟩ h
  simp only [Prod.mk.injEq, List.cons.injEq, and_true, V.inl.injEq, V.lst.injEq, V.int.injEq, true_and] at h
  obtain ⟨⟨h1, h2⟩, h3, h4, h5⟩ := h
  rw [h1, h2, rows_inj h3, ints_inj h4, ints_inj h5]
noncomputable def c112 := ctrG (fun a : HArg => a.ok) (fun a => ([.int .i64 a.at_, .int .i64 a.v, .ptr 0 0, .ptr 1 0, .ptr 2 0], [.lst (a.G.map intsV), .inl 1 (a.far.map (V.int .i64)), .inl 1 (a.q.map (V.int .i64))])) hangA
theorem c112_eq (G : List (List Int)) (at_ v : Int) (far q : List Int) (hG : LimG G) (hf : far.length = G.length) (hq : q.length ≤ 1048576) : c112 [.int .i64 at_, .int .i64 v, .ptr 0 0, .ptr 1 0, .ptr 2 0] [.lst (G.map intsV), .inl 1 (far.map (V.int .i64)), .inl 1 (q.map (V.int .i64))] = some ⟨false, .tup [], [], [.lst (G.map intsV), .inl 1 ((stepAll G at_ v (far, q)).1.map (V.int .i64)), .inl 1 ((stepAll G at_ v (far, q)).2.map (V.int .i64))]⟩ := ctrG_eq (inj112 _) ⟨G, at_, v, far, q⟩ ⟨hG, hf, hq⟩ rfl
theorem c112_ok : GOK Tryz.prog (112, [], c112) := ctrG_ok fun a h => f112_ok a.G a.at_ a.v a.far a.q h.1 h.2.1 h.2.2
def pl72 : Pl := ⟨[0, 2, 7], [(1, false), (3, false), (4, false), (5, false), (6, false), (8, false), (9, false), (10, false), (11, false), (12, false)], [], [13], .seq [13]⟩
theorem rg72 : pl72.rg = [0, 2, 7] := rfl
theorem pr72 : pl72.pr = [(1, false), (3, false), (4, false), (5, false), (6, false), (8, false), (9, false), (10, false), (11, false), (12, false)] := rfl
theorem tree72 : pl72.tt = .one false 13 .done := rfl
theorem f72_ok (G : List (List Int)) (hG : Gr G) (to : Int) (ht : inG G to) : FunOK Tryz.prog 72 [.lst (G.map intsV), .int .i64 to] false (.inl 1 ((hangF G to).map (V.int .i64))) := by
  refine fun_ok (mkE2_ok zmix (cl := [(111, c111)]) (gl := [(112, [], c112)]) [] [(7, pl72)] c111_ok c112_ok) Tryz.func72 (by kernel_rfl) ?_
  refine FunW_run _ _ rfl rfl ?_
  have hn8 := hG.1
  have hn1 : 1 ≤ G.length := by
    obtain ⟨h1, h2⟩ := ht
    omega
  have e111 := c111_eq G.length hn1 hn8
  have e112 := c112_eq G to 1 (List.replicate G.length (-1)) [] hG.lim (by simp) (by simp)
  have h0 : hangI G to 0 = stepAll G to 1 (List.replicate G.length (-1), []) := rfl
  have hi := @hi0 G to
  change HI G to 0 (hangI G to 0) at hi
  rw [← h0] at e112
  simp only [List.map_nil, List.map_replicate] at e112
  have i1 : List.idxOf 1 [0, 1, 2] = 1 := by decide
  have i2 : List.idxOf 2 [0, 1, 2] = 2 := by decide
  simp [e111, e112, i1, i2]
  refine lp_ind (fun m t => ∃ i, m = G.length + 1 - i ∧ i ≤ (hangI G to i).2.length ∧ HI G to i (hangI G to i) ∧ t.nb = 3 ∧ (t.e 7 = .fn 112 [.ptr 0 0, .ptr 1 0, .ptr 2 0] ∧ t.e 5 = .ptr 1 0 ∧ t.e 6 = .ptr 2 0 ∧ t.e 8 = .int .i64 i) ∧ t.B 0 = some (.lst (G.map intsV)) ∧ (∃ r1 r2, t.B 1 = some (.own r1) ∧ t.B 2 = some (.own r2) ∧ ¬ r1 = r2 ∧ r1 < t.nt ∧ r2 < t.nt ∧ t.R r1 = some ⟨1, (hangI G to i).1.map (V.int .i64), true⟩ ∧ t.R r2 = some ⟨1, (hangI G to i).2.map (V.int .i64), true⟩)) (G.length + 1) ⟨0, rfl, by simp, hi, by simp, by simp, by simp, ?_⟩ ?_
  · refine ⟨6, 7, by simp, by simp, by simp, by simp, by simp, by simp, by simp⟩
  · rintro c' L hL m t ih ⟨i, rfl, hi, hI, gnb, ⟨g7, g5, g6, g8⟩, gB0, r1, r2, gB1, gB2, hne, h1, h2, hR1, hR2⟩
    have hll := hi_len hI
    have hs : hangI G to (i + 1) = match (hangI G to i).2[i]? with
      | some q => stepAll G q (gI (hangI G to i).1 q + 1) (hangI G to i)
      | none => hangI G to i := rfl
    have hend : (hangI G to i).2.length ≤ i → (hangI G to i).1 = hangF G to := fun h => by
      have := hangI_stuck h (G.length - i)
      rw [show i + (G.length - i) = G.length by omega] at this
      unfold hangF
      rw [this]
    generalize hangI G to i = s at *
    obtain ⟨F, Q⟩ := s
    simp only at hi hll hend hR1 hR2 hs
    have hne' : ¬ r2 = r1 := fun e => hne e.symm
    have hw8 : IntKind.i64.wrap ((i : Int) + 1) = ((i + 1 : Nat) : Int) := wrap64 (by omega) (by omega)
    by_cases hlt : i < Q.length
    · have hq : Q[i]? = some Q[i] := List.getElem?_eq_getElem hlt
      generalize Q[i] = q at hq
      have hqm := List.mem_of_getElem? hq
      have hqG := hI.rng q hqm
      have hb := hI.bnd i q hq
      have hq0 := (hI.mem q hqG).2 hqm
      have hFl := hI.len
      simp only at hb hq0 hFl
      rw [hq] at hs
      have hs : hangI G to (i + 1) = stepAll G q (gI F q + 1) (F, Q) := hs
      have hnew := (step_ok (G := G) (at_ := q) (v := gI F q + 1) (by omega) (s := (F, Q)) hFl G.length (Nat.le_refl _)).new
      change ∃ new, (stepAll G q (gI F q + 1) (F, Q)).2 = Q ++ new ∧ _ at hnew
      obtain ⟨new, hnew, _⟩ := hnew
      have hI2 := hi_step hI (q := q) hq
      have e112' := c112_eq G q (gI F q + 1) F Q hG.lim hFl (by omega)
      simp only at hI2
      rw [← hs] at hI2 hnew e112'
      obtain ⟨hqa, hqb⟩ := hqG
      have hqn : q.toNat < F.length := by omega
      have hqi : q < F.length := by omega
      have hFq : F[q.toNat]? = some (gI F q) := by
        have := gI_get hqn
        rwa [show ((q.toNat : Nat) : Int) = q by omega] at this
      have hwv : IntKind.i64.wrap (gI F q + 1) = gI F q + 1 := wrap64 (by omega) (by omega)
      simp [-getElem?_pos, gcz, gcs, gnb, g7, g5, g6, g8, gB0, gB1, gB2, hR1, hR2, hne, hne', hlt, hq, hqa, hqi, hqn, hFq, hwv, e112', i1, i2, rg72, pr72, tree72, pureOp, hL]
      refine ih (G.length + 1 - (i + 1)) _ (by omega) ⟨i + 1, rfl, by rw [hnew, List.length_append]; have : 1 ≤ new.length ∨ i + 1 ≤ Q.length := .inr hlt; omega, hI2, by simp [gnb], by simp [g7, g5, g6, g8, hw8], by simp [gB0], t.nt, t.nt + 1, by simp, by simp, by omega, by simp; omega, by simp, by simp, by simp⟩
    · have hie : i = Q.length := by omega
      have hend := hend (by omega)
      subst hie
      rw [hend] at hR1
      simp [-getElem?_pos, gcz, gcs, gnb, g7, g5, g6, g8, gB0, gB1, gB2, hR1, hR2, hne, hne']
      exact Nat.le_refl _
noncomputable def c72 := ctr (fun a : List (List Int) × Int => Gr a.1 ∧ inG a.1 a.2) (fun a => [.lst (a.1.map intsV), .int .i64 a.2]) (fun a => (false, .inl 1 ((hangF a.1 a.2).map (V.int .i64))))
theorem inj_gn {β : Type} (out : List (List Int) × Int → β) : ∀ a b : List (List Int) × Int, [V.lst (a.1.map intsV), .int .i64 a.2] = [V.lst (b.1.map intsV), .int .i64 b.2] → out a = out b := by
  rintro ⟨a, c⟩ ⟨b, d⟩ h
  simp only [List.cons.injEq, and_true, V.lst.injEq, V.int.injEq, true_and] at h
  rw [rows_inj h.1, h.2]
theorem c72_eq (G : List (List Int)) (to : Int) (hG : Gr G) (ht : inG G to) : c72 [.lst (G.map intsV), .int .i64 to] = some (false, .inl 1 ((hangF G to).map (V.int .i64))) := ctr_eq (inj_gn _) (G, to) ⟨hG, ht⟩ rfl
theorem c72_ok : COK Tryz.prog (72, c72) := ctr_ok fun a h => f72_ok a.1 h.1 a.2 h.2
end Go.TM.Tryz
end
section
set_option maxHeartbeats 16000000
set_option maxRecDepth 20000
namespace Go.TM
open Go
theorem gI_at {far : List Int} {x : Int} (h0 : 0 ≤ x) (h1 : x < far.length) : far[x.toNat]? = some (gI far x) := by
  have h : x.toNat < far.length := by omega
  have := gI_get h
  rwa [show ((x.toNat : Nat) : Int) = x by omega] at this
def UpB (far : List Int) (b : Int) : Prop := ∀ k, gI far k ≤ b
theorem gI_set_cases (far : List Int) (j : Nat) (v k : Int) : gI (far.set j v) k = v ∨ gI (far.set j v) k = gI far k := by
  unfold gI
  rw [List.getD_eq_getElem?_getD, List.getD_eq_getElem?_getD, List.getElem?_set]
  split
  · split
    · exact .inl rfl
    · rename_i h1 h2
      right
      rw [List.getElem?_eq_none (by omega)]
  · exact .inr rfl
theorem relax_up {far : List Int} {b k x : Int} (h : UpB far b) : UpB (relax k far x) (b + 1) := fun j => by
  unfold relax
  split
  · rcases gI_set_cases far k.toNat (gI far x + 1) j with e | e
    · have := h x
      omega
    · have := h j
      omega
  · have := h j
    omega
theorem relax_len (k : Int) (far : List Int) (x : Int) : (relax k far x).length = far.length := by
  unfold relax
  split <;> simp
theorem halfL_set {n i : Nat} (h : i < n) : (halfL n i).set i (-1) = halfL n (i + 1) := by
  apply List.ext_getElem?
  intro j
  rw [List.getElem?_set, halfL_len (by omega)]
  unfold halfL
  by_cases e : i = j
  · subst e
    rw [if_pos rfl, if_pos h, List.getElem?_append_left (by simp), List.getElem?_replicate, if_pos (by omega)]
  · rw [if_neg e]
    by_cases h1 : j < i
    · rw [List.getElem?_append_left (by simpa using h1), List.getElem?_append_left (by simp; omega), List.getElem?_replicate, List.getElem?_replicate, if_pos h1, if_pos (by omega)]
    · rw [List.getElem?_append_right (by simpa using h1), List.getElem?_append_right (by simp; omega), List.getElem?_replicate, List.getElem?_replicate, List.length_replicate, List.length_replicate]
      by_cases h2 : j < n
      · rw [if_pos (by omega), if_pos (by omega)]
      · rw [if_neg (by omega), if_neg (by omega)]
end Go.TM
namespace Go.TM.Tryz
open Go Go.TM Go.Proofs
theorem f71_ok (l far : List Int) (hl : l.length ≤ 1048576) (hf : far.length ≤ 1048576) (hx : ∀ x ∈ l, 0 ≤ x ∧ x < far.length) : FunOK Tryz.prog 71 [.lst (l.map (V.int .i64)), .lst (far.map (V.int .i64))] false (.int .i64 (nextF far l)) := by
  refine fun_ok (mkE_ok zmix (cl := []) (gl := []) [] trivial trivial) Tryz.func71 (by kernel_rfl) ?_
  refine FunW_run _ _ rfl rfl ?_
  simp
  refine lp_list l (fun i t => t.e 1 = .lst (far.map (V.int .i64)) ∧ t.e 8 = .lst (l.map (V.int .i64)) ∧ t.e 9 = .int .i64 l.length ∧ t.e 10 = .int .i64 i ∧ (∃ b, t.e 5 = .int .i64 b ∧ b = (l.take i).foldl (nxt far) (-1) ∧ (b = -1 ∨ 0 ≤ b ∧ b < far.length))) ?_ ?_ ?_
  · simp
  · rintro c' L hL i t x hxi hi ih ⟨g1, g8, g9, g10, b, g5, hb, hbr⟩
    have hw := wrI (i := i) (by omega)
    have hs : (l.take (i + 1)).foldl (nxt far) (-1) = nxt far b x := by
      rw [List.take_add_one, hxi, hb]
      simp
    obtain ⟨x0, x1⟩ := hx x (List.mem_of_getElem? hxi)
    have x2 : x.toNat < far.length := by omega
    have x3 := gI_at x0 x1
    have hv : nxt far b x = if 0 ≤ gI far x ∧ (b < 0 ∨ gI far x < gI far b) then x else b := rfl
    rw [hv] at hs
    have next : ∀ b', (b' = x ∨ b' = b) → (l.take (i + 1)).foldl (nxt far) (-1) = b' → ∀ s' : S, s'.e 1 = .lst (far.map (V.int .i64)) → s'.e 8 = .lst (l.map (V.int .i64)) → s'.e 9 = .int .i64 l.length → s'.e 10 = .int .i64 (IntKind.i64.wrap ((i : Int) + 1)) → s'.e 5 = .int .i64 b' → L s' := fun b' hbb hfold s' a1 a8 a9 a10 a5 => by
      refine ih s' ⟨a1, a8, a9, by rw [a10, hw], b', a5, hfold.symm, ?_⟩
      rcases hbb with rfl | rfl
      · exact .inr ⟨x0, x1⟩
      · exact hbr
    by_cases h1 : 0 ≤ gI far x
    · by_cases h2 : b < 0
      · rw [if_pos ⟨h1, .inl h2⟩] at hs
        have h2' : ¬ 0 ≤ b := by omega
        have bt : b.toNat = 0 := by omega
        have z3 : far[0]? = some (gI far (0 : Nat)) := gI_get (by omega)
        simp [-getElem?_pos, gcz, gcs, g1, g8, g9, g10, g5, hL, hi, hxi, x0, x1, x2, x3, h1, h2, h2', bt, z3]
        refine next x (.inl rfl) hs _ ?_ ?_ ?_ ?_ ?_ <;> simp [g1, g8, g9, g10, g5]
      · have b0 : 0 ≤ b := by omega
        have b1 : b < far.length := by omega
        have b2 : b.toNat < far.length := by omega
        have b3 := gI_at b0 b1
        by_cases h3 : gI far x < gI far b
        · rw [if_pos ⟨h1, .inr h3⟩] at hs
          simp [-getElem?_pos, gcz, gcs, g1, g8, g9, g10, g5, hL, hi, hxi, x0, x1, x2, x3, h1, h2, b0, b1, b2, b3, h3]
          refine next x (.inl rfl) hs _ ?_ ?_ ?_ ?_ ?_ <;> simp [g1, g8, g9, g10, g5]
        · rw [if_neg (by rintro ⟨_, h | h⟩ <;> omega)] at hs
          simp [-getElem?_pos, gcz, gcs, g1, g8, g9, g10, g5, hL, hi, hxi, x0, x1, x2, x3, h1, h2, b0, b1, b2, b3, h3]
          refine next b (.inr rfl) hs _ ?_ ?_ ?_ ?_ ?_ <;> simp [g1, g8, g9, g10, g5]
    · rw [if_neg (by rintro ⟨h, _⟩; omega)] at hs
      by_cases h2 : b < 0
      · have h2' : ¬ 0 ≤ b := by omega
        have bt : b.toNat = 0 := by omega
        have z3 : far[0]? = some (gI far (0 : Nat)) := gI_get (by omega)
        simp [-getElem?_pos, gcz, gcs, g1, g8, g9, g10, g5, hL, hi, hxi, x0, x1, x2, x3, h1, h2, h2', bt, z3]
        refine next b (.inr rfl) hs _ ?_ ?_ ?_ ?_ ?_ <;> simp [g1, g8, g9, g10, g5]
      · have b0 : 0 ≤ b := by omega
        have b1 : b < far.length := by omega
        have b2 : b.toNat < far.length := by omega
        have b3 := gI_at b0 b1
        simp [-getElem?_pos, gcz, gcs, g1, g8, g9, g10, g5, hL, hi, hxi, x0, x1, x2, x3, h1, h2, b0, b1, b2, b3]
        refine next b (.inr rfl) hs _ ?_ ?_ ?_ ?_ ?_ <;> simp [g1, g8, g9, g10, g5]
  · rintro c' t ⟨g1, g8, g9, g10, b, g5, hb, hbr⟩
    rw [List.take_length] at hb
    have hb : b = nextF far l := hb
    subst hb
    simp [g1, g8, g9, g10, g5]
theorem inj_ii {β : Type} (out : List Int × List Int → β) : ∀ a b : List Int × List Int, [V.lst (a.1.map (V.int .i64)), .lst (a.2.map (V.int .i64))] = [V.lst (b.1.map (V.int .i64)), .lst (b.2.map (V.int .i64))] → out a = out b := by
  rintro ⟨a, c⟩ ⟨b, d⟩ h
  simp only [List.cons.injEq, and_true, V.lst.injEq] at h
  rw [ints_inj h.1, ints_inj h.2]
noncomputable def c71 := ctr (fun a : List Int × List Int => a.1.length ≤ 1048576 ∧ a.2.length ≤ 1048576 ∧ ∀ x ∈ a.1, 0 ≤ x ∧ x < a.2.length) (fun a => [V.lst (a.1.map (V.int .i64)), .lst (a.2.map (V.int .i64))]) (fun a => (false, .int .i64 (nextF a.2 a.1)))
theorem c71_eq (l far : List Int) (hl : l.length ≤ 1048576) (hf : far.length ≤ 1048576) (hx : ∀ x ∈ l, 0 ≤ x ∧ x < far.length) : c71 [.lst (l.map (V.int .i64)), .lst (far.map (V.int .i64))] = some (false, .int .i64 (nextF far l)) := ctr_eq (inj_ii _) (l, far) ⟨hl, hf, hx⟩ rfl
theorem c71_ok : COK Tryz.prog (71, c71) := ctr_ok fun a h => f71_ok a.1 a.2 h.1 h.2.1 h.2.2
end Go.TM.Tryz
end
