/- The row: FnExactOrderOf. -/
import Derived.Test.YtgpkbmekdmpgoaaGreatDoorK16
import Derived.ProofKit
import Derived.OpenShut
import Derived.LaidMore
import Derived.Lay
import Derived.SevenTiedAt
import Derived.Stop.Joined
import Derived.Test.YtgpkbmekdmpgoaaGreatDoorRows
import Derived.Test.YtgpkbmekdmpgoaaGreatDoorCards
import Derived.Test.YtgpkbmekdmpgoaaGreatDoorTie
set_option linter.unusedVariables false
set_option linter.unusedSimpArgs false
section
set_option maxHeartbeats 8000000
set_option maxRecDepth 20000
namespace Go.TM
open Go
def rdyB (G : List (List Int)) (out : List Int) (k : Nat) : Bool := !decide ((k : Int) ∈ out) && (G.getD k []).all fun x => decide (x ∈ out)
def stepO (G : List (List Int)) (out : List Int) : List Int :=
  match (List.range G.length).find? (rdyB G out) with
  | some k => out ++ [(k : Int)]
  | none => out
def ordN (G : List (List Int)) : Nat → List Int
  | 0 => []
  | i + 1 => stepO G (ordN G i)
def ordL (G : List (List Int)) : List Int := ordN G G.length
def okOrd (G : List (List Int)) : Bool := decide ((ordL G).length = G.length)
def LimG (G : List (List Int)) : Prop := G.length ≤ 1048576 ∧ ∀ r ∈ G, r.length ≤ 1048576
theorem Gr.lim {G : List (List Int)} (h : Gr G) : LimG G := ⟨by have := h.1; omega, fun r hr => by have := h.len r hr; omega⟩
theorem stepO_hit {G : List (List Int)} {out : List Int} {j : Nat} (hj : j < G.length) (hn : ∀ k, k < j → rdyB G out k = false) (hr : rdyB G out j = true) : stepO G out = out ++ [(j : Int)] := by
  have h : (List.range G.length).find? (rdyB G out) = some j := by
    rw [List.find?_range_eq_some]
    exact ⟨hr, List.mem_range.2 hj, fun k hk => by rw [hn k hk]; rfl⟩
  unfold stepO
  rw [h]
theorem stepO_none {G : List (List Int)} {out : List Int} (hn : ∀ k, k < G.length → rdyB G out k = false) : stepO G out = out := by
  have h : (List.range G.length).find? (rdyB G out) = none := by
    rw [List.find?_range_eq_none]
    exact fun k hk => by rw [hn k hk]; rfl
  unfold stepO
  rw [h]
theorem stepO_len (G : List (List Int)) (out : List Int) : (stepO G out).length ≤ out.length + 1 := by
  unfold stepO
  split <;> simp
theorem ordN_len (G : List (List Int)) : ∀ i, (ordN G i).length ≤ i
  | 0 => Nat.le_refl _
  | i + 1 => by
    have := ordN_len G i
    have := stepO_len G (ordN G i)
    simp only [ordN]
    omega
theorem ordN_stuck {G : List (List Int)} {i : Nat} (h : stepO G (ordN G i) = ordN G i) : ∀ d, ordN G (i + d) = ordN G i
  | 0 => rfl
  | d + 1 => by
    have := ordN_stuck h d
    change stepO G (ordN G (i + d)) = _
    rw [this, h]
end Go.TM
namespace Go.TM.Tryz
open Go Go.TM Go.Proofs
theorem rows_inj {a b : List (List Int)} (h : a.map intsV = b.map intsV) : a = b := map_inj intsV_inj h
@[simp] theorem norms_intsV (xs : List (List Int)) : norms (xs.map intsV) = xs.map intsV := by
  rw [norms_map, List.map_map]
  refine List.map_congr_left fun x hx => ?_
  simp [norm]
theorem f64_ok (G : List (List Int)) (hG : LimG G) : FunOK Tryz.prog 64 [.lst (G.map intsV)] false (.inl 1 ((ordL G).map (V.int .i64))) := by
  refine fun_ok (mkE_ok zmix (cl := [(108, c108)]) (gl := []) [] c108_ok trivial) Tryz.func64 (by kernel_rfl) ?_
  refine FunW_run _ _ rfl rfl ?_
  have hn8 := hG.1
  simp
  refine lp_list G (fun i t => t.e 0 = .lst (G.map intsV) ∧ t.e 10 = .int .i64 G.length ∧ t.e 11 = .int .i64 i ∧ (∃ ro, t.e 3 = .own ro ∧ ro < t.nt ∧ t.R ro = some ⟨1, (ordN G i).map (V.int .i64), true⟩)) ?_ ?_ ?_
  · simp [ordN]
  · rintro c' L hL i t x hx hi ih ⟨g0, g10, g11, ro, g3, hro, hR⟩
    have hw := wrI (i := i) (by omega)
    have hol := ordN_len G i
    have hs : ordN G (i + 1) = stepO G (ordN G i) := rfl
    generalize ordN G i = out at *
    simp [-getElem?_pos, gcz, gcs, g0, g10, g11, g3, hR, hi]
    refine lp_ind (fun m u => ∃ j, m = G.length - j ∧ j ≤ G.length ∧ (∀ k, k < j → rdyB G out k = false) ∧ (u.e 0 = .lst (G.map intsV) ∧ u.e 10 = .int .i64 G.length ∧ u.e 11 = .int .i64 i) ∧ (u.e 13 = .lst (G.map intsV) ∧ u.e 14 = .int .i64 G.length ∧ u.e 15 = .int .i64 j) ∧ (∃ ro, u.e 3 = .own ro ∧ ro < u.nt ∧ u.R ro = some ⟨1, out.map (V.int .i64), true⟩)) G.length ⟨0, by simp, by simp, by simp, by simp [g0, g10, g11], by simp [g0], ro, by simp [g3], by simp [hro], by simp [hR]⟩ ?_
    rintro c2 L2 hL2 m u ih2 ⟨j, rfl, hj, hn, ⟨u0, u10, u11⟩, ⟨u13, u14, u15⟩, ro, u3, hro, uR⟩
    by_cases hjn : j < G.length
    · have hy := List.getElem?_eq_getElem hjn
      have hgd : G.getD j [] = G[j] := by rw [List.getD_eq_getElem?_getD, hy]; rfl
      have hyl := hG.2 _ (List.mem_of_getElem? hy)
      have hrd : rdyB G out j = (!decide ((j : Int) ∈ out) && G[j].all fun x => decide (x ∈ out)) := by unfold rdyB; rw [hgd]
      generalize G[j] = y at *
      have hw2 : IntKind.i64.wrap ((j : Int) + 1) = ((j + 1 : Nat) : Int) := wrap64 (by omega) (by omega)
      have e1 := c108_eq out j (by omega)
      simp [-getElem?_pos, gcz, gcs, u0, u10, u11, u13, u14, u15, u3, uR, hjn, hy, e1]
      refine lp_list y (fun a v => (v.e 0 = .lst (G.map intsV) ∧ v.e 10 = .int .i64 G.length ∧ v.e 11 = .int .i64 i) ∧ (v.e 13 = .lst (G.map intsV) ∧ v.e 14 = .int .i64 G.length ∧ v.e 15 = .int .i64 j) ∧ (v.e 4 = .int .i64 j ∧ v.e 6 = .bool (!decide ((j : Int) ∈ out) && (y.take a).all fun x => decide (x ∈ out))) ∧ (v.e 24 = .lst (y.map (V.int .i64)) ∧ v.e 25 = .int .i64 y.length ∧ v.e 26 = .int .i64 a) ∧ (∃ ro, v.e 3 = .own ro ∧ ro < v.nt ∧ v.R ro = some ⟨1, out.map (V.int .i64), true⟩)) ?_ ?_ ?_
      · refine ⟨by simp [u0, u10, u11], by simp [u13, u14, u15], by simp, by simp, ro, by simp [u3], by simp [hro], by simp [uR]⟩
      · rintro c3 L3 hL3 a v z hz ha ih3 ⟨⟨v0, v10, v11⟩, ⟨v13, v14, v15⟩, ⟨v4, v6⟩, ⟨v24, v25, v26⟩, ro, v3, hro, vR⟩
        have hw3 : IntKind.i64.wrap ((a : Int) + 1) = ((a + 1 : Nat) : Int) := wrap64 (by omega) (by omega)
        have e2 := c108_eq out z (by omega)
        have hall : (y.take (a + 1)).all (fun x => decide (x ∈ out)) = ((y.take a).all (fun x => decide (x ∈ out)) && decide (z ∈ out)) := by
          rw [List.take_add_one, hz]
          simp
        generalize hb : (!decide ((j : Int) ∈ out) && (y.take a).all fun x => decide (x ∈ out)) = b at v6
        have hb2 : (!decide ((j : Int) ∈ out) && (y.take (a + 1)).all fun x => decide (x ∈ out)) = (b && decide (z ∈ out)) := by
          rw [hall, ← Bool.and_assoc, hb]
        cases b with
        | true =>
          simp [-getElem?_pos, gcz, gcs, v0, v10, v11, v13, v14, v15, v4, v6, v24, v25, v26, v3, vR, ha, hz, e2, hL3]
          refine ih3 _ ⟨by simp [v0, v10, v11], by simp [v13, v14, v15], ⟨by simp [v4], ?_⟩, by simp [v24, v25, v26, hw3], ro, by simp [v3], by simp [hro], by simp [vR]⟩
          rw [hb2]
          simp
        | false =>
          simp [-getElem?_pos, gcz, gcs, v0, v10, v11, v13, v14, v15, v4, v6, v24, v25, v26, v3, vR, ha, hz, e2, hL3]
          refine ih3 _ ⟨by simp [v0, v10, v11], by simp [v13, v14, v15], ⟨by simp [v4], ?_⟩, by simp [v24, v25, v26, hw3], ro, by simp [v3], by simp [hro], by simp [vR]⟩
          rw [hb2]
          simp
      · rintro c3 v ⟨⟨v0, v10, v11⟩, ⟨v13, v14, v15⟩, ⟨v4, v6⟩, ⟨v24, v25, v26⟩, ro, v3, hro, vR⟩
        rw [List.take_length, ← hrd] at v6
        cases hr : rdyB G out j with
        | true =>
          rw [hr] at v6
          have r1 : room ⟨1, false, 8, .int .i64 0⟩ 1 := by simp [room]
          have r2 : room ⟨1, false, 8, .int .i64 0⟩ (out.length + 1) := by simp [room]; omega
          have n1 : ¬ ro = v.nt := by omega
          simp [-getElem?_pos, gcz, gcs, v0, v10, v11, v13, v14, v15, v4, v6, v24, v25, v26, v3, vR, r1, r2, n1, hL]
          refine ih _ ⟨by simp [v0], by simp [v10], by simp [v11, hw], v.nt + 1, by simp, by simp, ?_⟩
          rw [hs, stepO_hit hjn hn hr]
          simp
        | false =>
          rw [hr] at v6
          simp [-getElem?_pos, gcz, gcs, v0, v10, v11, v13, v14, v15, v4, v6, v24, v25, v26, v3, vR, hL2]
          refine ih2 (G.length - (j + 1)) _ (by omega) ⟨j + 1, rfl, by omega, fun k hk => ?_, by simp [v0, v10, v11], by simp [v13, v14, v15, hw2], ro, by simp [v3], by simp [hro], by simp [vR]⟩
          by_cases e : k = j
          · rw [e, hr]
          · exact hn k (by omega)
    · have hje : j = G.length := by omega
      subst hje
      simp [-getElem?_pos, gcz, gcs, u0, u10, u11, u13, u14, u15, u3, uR, hL]
      refine ih _ ⟨by simp [u0], by simp [u10], by simp [u11, hw], ro, by simp [u3], by simp [hro], ?_⟩
      rw [hs, stepO_none hn]
      simp [uR]
  · rintro c' t ⟨g0, g10, g11, ro, g3, hro, hR⟩
    change t.R ro = some ⟨1, (ordL G).map (V.int .i64), true⟩ at hR
    simp [g0, g10, g11, g3, hR]
end Go.TM.Tryz
end
section
set_option maxHeartbeats 8000000
set_option maxRecDepth 20000
namespace Go.TM
open Go
theorem ctr_none {α : Type} {p : α → Prop} {enc : α → List V} {out : α → Bool × V} {args : List V} (h : ∀ a, p a → enc a ≠ args) : ctr p enc out args = none := by
  unfold ctr
  rw [dif_neg]
  rintro ⟨a, h1, h2⟩
  exact h a h1 h2
@[simp] theorem aftQ_nbad {E : Env} (dr : Bool) (g x : Bool) (xc xa xb : Operand) (d : Option Tmp) (all : Array Oper) (os : List Oper) (k : List Fr) (Q : X → S → Prop) (s : S) :
    aftQ dr (some false) (.bool g) (.bool x) .bad xc xa xb d all os k E Q s = kont E (.ops dr all os :: k) Q .normal (s.put d (.cnd false .bad)) := by
  simp [aftQ]
end Go.TM
namespace Go.TM.Tryz
open Go Go.TM Go.Proofs
theorem any_not (out : List Int) (l : List Int) : l.any (notIn out) = !(l.all fun x => decide (x ∈ out)) := by
  induction l with
  | nil => rfl
  | cons x xs ih => simp [List.any_cons, List.all_cons, ih, notIn]
theorem c109_none (x : V) : c109 [.bad, x] = none := ctr_none fun a _ h => by simp at h
theorem f65_ok (G : List (List Int)) (hG : Gr G) : FunOK Tryz.prog 65 [.lst (G.map intsV)] false (.tup [.inl 1 ((if okOrd G = true then ordL G else []).map (V.int .i64)), .bool (okOrd G)]) := by
  refine fun_ok (mkE_ok zmix (cl := [(73, c73), (109, c109)]) (gl := []) [] ⟨c73_ok, c109_ok⟩ trivial) Tryz.func65 (by kernel_rfl) ?_
  refine FunW_run _ _ rfl rfl ?_
  have hn8 := hG.1
  simp
  refine lp_ind (fun m t => ∃ i, m = G.length - i ∧ i ≤ G.length ∧ (ordN G i).length = i ∧ t.e 0 = .lst (G.map intsV) ∧ t.e 4 = .ptr 0 0 ∧ t.nb = 1 ∧ (∃ ro, t.B 0 = some (.own ro) ∧ ro < t.nt ∧ t.R ro = some ⟨1, (ordN G i).map (V.int .i64), true⟩)) G.length ⟨0, by simp, by simp, rfl, by simp, by simp, by simp, 1, by simp [ordN]⟩ ?_
  rintro c' L hL m t ih ⟨i, rfl, hi, hlen, g0, g4, gnb, ro, gB, hro, hR⟩
  have hs : ordN G (i + 1) = stepO G (ordN G i) := rfl
  have hfin : i = G.length → ordN G i = ordL G := fun e => by rw [e]; rfl
  have hstuck : stepO G (ordN G i) = ordN G i → i < G.length → okOrd G = false := fun h hlt => by
    have := ordN_stuck h (G.length - i)
    rw [show i + (G.length - i) = G.length by omega] at this
    unfold okOrd ordL
    rw [this, hlen]
    exact decide_eq_false (by omega)
  generalize ordN G i = out at *
  by_cases hiG : i < G.length
  · simp [-getElem?_pos, gcz, gcs, g0, g4, gnb, gB, hR, hlen, hiG]
    refine lp_ind (fun m u => ∃ j, m = G.length - j ∧ j ≤ G.length ∧ (∀ k, k < j → rdyB G out k = false) ∧ u.e 0 = .lst (G.map intsV) ∧ u.e 4 = .ptr 0 0 ∧ u.nb = 1 ∧ u.e 5 = .int .i64 j ∧ (∃ ro, u.B 0 = some (.own ro) ∧ ro < u.nt ∧ u.R ro = some ⟨1, out.map (V.int .i64), true⟩)) G.length ⟨0, by simp, by simp, by simp, by simp [g0], by simp [g4], by simp [gnb], by simp, ro, by simp [gB], by simp [hro], by simp [hR]⟩ ?_
    rintro c2 L2 hL2 m u ih2 ⟨j, rfl, hj, hn, u0, u4, unb, u5, ro, uB, hro, uR⟩
    by_cases hjn : j < G.length
    · have hy := List.getElem?_eq_getElem hjn
      have hgd : G.getD j [] = G[j] := by rw [List.getD_eq_getElem?_getD, hy]; rfl
      have hyl := hG.len _ (List.mem_of_getElem? hy)
      have hrd : rdyB G out j = (!decide ((j : Int) ∈ out) && G[j].all fun x => decide (x ∈ out)) := by unfold rdyB; rw [hgd]
      have hnj : ¬ j = G.length := by omega
      generalize G[j] = y at *
      have hw2 : IntKind.i64.wrap ((j : Int) + 1) = ((j + 1 : Nat) : Int) := wrap64 (by omega) (by omega)
      have e1 := c73_eq out j (by omega)
      have e2 := c109_eq y out (by omega) (by omega)
      rw [any_not] at e2
      have next : rdyB G out j = false → ∀ s' : S, s'.e 0 = .lst (G.map intsV) → s'.e 4 = .ptr 0 0 → s'.nb = 1 → s'.e 5 = .int .i64 (IntKind.i64.wrap ((j : Int) + 1)) → (∃ ro, s'.B 0 = some (.own ro) ∧ ro < s'.nt ∧ s'.R ro = some ⟨1, out.map (V.int .i64), true⟩) → L2 s' := fun hr s' a0 a4 ab a5 ar => by
        refine ih2 (G.length - (j + 1)) s' (by omega) ⟨j + 1, rfl, by omega, fun k hk => ?_, a0, a4, ab, by rw [a5, hw2], ar⟩
        by_cases e : k = j
        · rw [e, hr]
        · exact hn k (by omega)
      by_cases hm : (j : Int) ∈ out
      · rw [decide_eq_true hm] at e1 hrd
        generalize (!(y.all fun x => decide (x ∈ out))) = b at e2
        simp [-getElem?_pos, gcz, gcs, u0, u4, unb, u5, uB, uR, hjn, hy, e1, e2, hL2]
        refine next (by rw [hrd]; rfl) _ ?_ ?_ ?_ ?_ ⟨ro, ?_, ?_, ?_⟩ <;> simp [u0, u4, unb, uB, hro, uR]
      · rw [decide_eq_false hm] at e1 hrd
        cases hb : (y.all fun x => decide (x ∈ out)) with
        | false =>
          rw [hb] at e2 hrd
          simp [-getElem?_pos, gcz, gcs, u0, u4, unb, u5, uB, uR, hjn, hy, e1, e2, hL2]
          refine next (by rw [hrd]; rfl) _ ?_ ?_ ?_ ?_ ⟨ro, ?_, ?_, ?_⟩ <;> simp [u0, u4, unb, uB, hro, uR]
        | true =>
          rw [hb] at e2 hrd
          have r1 : room ⟨1, false, 8, .int .i64 0⟩ 1 := by simp [room]
          have r2 : room ⟨1, false, 8, .int .i64 0⟩ (out.length + 1) := by simp [room]; omega
          have n1 : ¬ ro = u.nt := by omega
          have hnj' : ¬ (j : Int) = G.length := by omega
          simp [-getElem?_pos, gcz, gcs, u0, u4, unb, u5, uB, uR, hjn, hy, e1, e2, hnj, hnj', r1, r2, n1, hL]
          refine ih (G.length - (i + 1)) _ (by omega) ⟨i + 1, rfl, by omega, ?_, by simp [u0], by simp [u4], by simp [unb], u.nt + 1, by simp, by simp, ?_⟩
          · rw [hs, stepO_hit hjn hn hrd, List.length_append, hlen]
            rfl
          · rw [hs, stepO_hit hjn hn hrd]
            simp
    · have hje : j = G.length := by omega
      subst hje
      have hno := hstuck (stepO_none hn) hiG
      have e1 := c73_eq out G.length (by omega)
      generalize decide ((G.length : Int) ∈ out) = b at e1
      cases b <;> simp [-getElem?_pos, gcz, gcs, u0, u4, unb, u5, uB, uR, hno, e1, c109_none]
  · have hie : i = G.length := by omega
    have hok : okOrd G = true := by
      unfold okOrd
      rw [← hfin hie, hlen, hie]
      simp
    rw [hfin hie] at hR hlen
    subst hie
    simp [-getElem?_pos, gcz, gcs, g0, g4, gnb, gB, hR, hlen, hok]
end Go.TM.Tryz
end
section
set_option maxHeartbeats 8000000
set_option maxRecDepth 20000
namespace Go.TM.Tryz
open Go Go.TM Go.Proofs
noncomputable def c64 := ctr (fun G : List (List Int) => LimG G) (fun G => [.lst (G.map intsV)]) (fun G => (false, .inl 1 ((ordL G).map (V.int .i64))))
theorem inj_rows {β : Type} (out : List (List Int) → β) : ∀ a b : List (List Int), [V.lst (a.map intsV)] = [V.lst (b.map intsV)] → out a = out b := by
  intro a b h
  simp only [List.cons.injEq, and_true, V.lst.injEq] at h
  rw [rows_inj h]
theorem c64_eq (G : List (List Int)) (h : LimG G) : c64 [.lst (G.map intsV)] = some (false, .inl 1 ((ordL G).map (V.int .i64))) := ctr_eq (inj_rows _) G h rfl
theorem c64_none : c64 [.bad] = none := ctr_none fun a _ h => by simp at h
theorem c64_ok : COK Tryz.prog (64, c64) := ctr_ok fun G h => f64_ok G h
noncomputable def c65 := ctr (fun G : List (List Int) => Gr G) (fun G => [.lst (G.map intsV)]) (fun G => (false, .tup [.inl 1 ((if okOrd G = true then ordL G else []).map (V.int .i64)), .bool (okOrd G)]))
theorem c65_eq (G : List (List Int)) (h : Gr G) : c65 [.lst (G.map intsV)] = some (false, .tup [.inl 1 ((if okOrd G = true then ordL G else []).map (V.int .i64)), .bool (okOrd G)]) := ctr_eq (inj_rows _) G h rfl
theorem c65_ok : COK Tryz.prog (65, c65) := ctr_ok fun G h => f65_ok G h
def rowsA (l : List Src) : List (List Int) := l.map fun x => (numsN l (impS x.text).1).1
theorem norms_needsS (l : List Src) : norms (needsS l) = (rowsA l).map intsV := by
  unfold needsS rowsA
  rw [norms_map, List.map_map, List.map_map]
  refine List.map_congr_left fun x hx => ?_
  simp only [Function.comp]
  unfold elemV
  split <;> simp [norm]
theorem rowsN_good {l : List Src} (h : goodL l = true) : rowsN l = rowsA l := by
  unfold rowsN rowsA
  rw [if_pos h]
  exact List.map_congr_left fun x _ => row_eq l x
theorem rowsA_lim {l : List Src} (h : SrcsOk l) : LimG (rowsA l) := by
  refine ⟨by unfold rowsA; rw [List.length_map]; exact h.1, fun r hr => ?_⟩
  obtain ⟨x, _, rfl⟩ := List.mem_map.1 hr
  obtain ⟨h1, h2⟩ := nums_in l (impS x.text).1 ([], false) trivial fun x hx => by cases hx
  have := asc_len (a := 0) (b := l.length) (by omega) h1 h2
  have := h.1
  unfold numsN
  omega
theorem ordL_le (G : List (List Int)) : (ordL G).length ≤ G.length := ordN_len G _
noncomputable def ordR (l : List Src) : List Int × Bool := if goodL l = true then (if okOrd (rowsN l) = true then (ordL (rowsN l), true) else ([], false)) else ([], false)
theorem ordR_len {l : List Src} : (ordR l).1.length ≤ 8 := by
  unfold ordR
  split
  · split
    · have := ordL_le (rowsN l)
      have := (rowsN_gr l).1
      simp only
      omega
    · simp
  · simp
theorem f27_ok (l : List Src) (hl : SrcsOk l) : FunOK Tryz.prog 27 [.lst (l.map Src.v)] false (.tup [.inl 1 ((ordR l).1.map (V.int .i64)), .bool (ordR l).2]) := by
  refine fun_ok (mkE_ok zmix (cl := [(59, c59), (60, c60), (64, c64)]) (gl := []) [] ⟨c59_ok, c60_ok, c64_ok⟩ trivial) Tryz.func27 (by kernel_rfl) ?_
  refine FunW_run _ _ rfl rfl ?_
  have e59 := c59_eq l hl
  have e60 := c60_eq l hl
  have hn := norms_needsS l
  have e64 := c64_eq (rowsA l) (rowsA_lim hl)
  have hA := ordL_le (rowsA l)
  have hlen : (rowsA l).length = l.length := by unfold rowsA; rw [List.length_map]
  have hr : ordR l = if goodL l = true then (if okOrd (rowsN l) = true then (ordL (rowsN l), true) else ([], false)) else ([], false) := rfl
  have hg := @rowsN_good l
  generalize ordR l = R at *
  have hll := hl.1
  cases h : goodL l with
  | false =>
    rw [h] at e59 hr
    rw [if_neg (by simp)] at hr
    subst hr
    generalize needsS l = E at *
    generalize rowsA l = A at *
    generalize ordL A = o at *
    simp [e59, e60, hn, e64, c64_none]
  | true =>
    rw [h] at e59 hr
    rw [if_pos rfl, hg h] at hr
    have hok : okOrd (rowsA l) = decide ((ordL (rowsA l)).length = (rowsA l).length) := rfl
    generalize needsS l = E at *
    generalize rowsA l = A at *
    generalize ordL A = o at *
    by_cases hlt : o.length < l.length
    · have hlt' : (o.length : Int) < l.length := by omega
      rw [if_neg (by rw [hok, decide_eq_true_eq]; omega)] at hr
      subst hr
      simp [e59, e60, hn, e64, hlt, hlt']
    · have hlt' : ¬ (o.length : Int) < l.length := by omega
      rw [if_pos (by rw [hok, decide_eq_true_eq]; omega)] at hr
      subst hr
      simp [e59, e60, hn, e64, hlt, hlt']
theorem f62_low (l : List Src) (h : SrcsOk l) : FunOK Tryz.prog 62 [.lst (l.map Src.v)] false (.tup [.inl 1 ((rowsN l).map intsO), .bool (goodL l)]) := by
  have h1 := f62_ok l h fun x _ => by rw [imp_eq]; exact impS_len x.text
  rw [rowsI_eq, goodL_eq] at h1
  exact GenOK.low h1 (by simp [noL, noLs]) rfl
noncomputable def c62L := ctr (fun l : List Src => SrcsOk l) (fun l => [.lst (l.map Src.v)]) (fun l => (false, .tup [.inl 1 ((rowsN l).map intsO), .bool (goodL l)]))
theorem c62L_eq (l : List Src) (h : SrcsOk l) : c62L [.lst (l.map Src.v)] = some (false, .tup [.inl 1 ((rowsN l).map intsO), .bool (goodL l)]) := ctr_eq (injl Src.v_inj _) l h rfl
theorem c62L_ok : COK Tryz.prog (62, c62L) := ctr_ok fun l h => f62_low l h
theorem f28_ok (l : List Src) (hl : SrcsOk l) : FunOK Tryz.prog 28 [.lst (l.map Src.v)] false (.tup [.inl 1 ((ordR l).1.map (V.int .i64)), .bool (ordR l).2]) := by
  refine fun_ok (mkE_ok zmix (cl := [(62, c62L), (65, c65)]) (gl := []) [] ⟨c62L_ok, c65_ok⟩ trivial) Tryz.func28 (by kernel_rfl) ?_
  refine FunW_run _ _ rfl rfl ?_
  have e62 := c62L_eq l hl
  have hO := norms_intsO (rowsN l)
  have e65 := c65_eq (rowsN l) (rowsN_gr l)
  have hr : ordR l = if goodL l = true then (if okOrd (rowsN l) = true then (ordL (rowsN l), true) else ([], false)) else ([], false) := rfl
  generalize ordR l = R at *
  generalize rowsN l = G at *
  generalize ordL G = o at *
  cases h : goodL l with
  | false =>
    rw [h] at e62 hr
    rw [if_neg (by simp)] at hr
    subst hr
    simp [-intsV, -intsO, e62]
  | true =>
    rw [h] at e62 hr
    rw [if_pos rfl] at hr
    cases hk : okOrd G with
    | false =>
      rw [hk, if_neg (by simp)] at hr
      rw [hk, if_neg (by simp)] at e65
      subst hr
      simp [-intsV, -intsO, e62, hO, e65]
    | true =>
      rw [hk, if_pos rfl] at hr
      rw [hk, if_pos rfl] at e65
      subst hr
      simp [-intsV, -intsO, e62, hO, e65]
noncomputable def c27 := ctr (fun l : List Src => SrcsOk l) (fun l => [.lst (l.map Src.v)]) (fun l => (false, .tup [.inl 1 ((ordR l).1.map (V.int .i64)), .bool (ordR l).2]))
theorem c27_eq (l : List Src) (h : SrcsOk l) : c27 [.lst (l.map Src.v)] = some (false, .tup [.inl 1 ((ordR l).1.map (V.int .i64)), .bool (ordR l).2]) := ctr_eq (injl Src.v_inj _) l h rfl
theorem c27_ok : COK Tryz.prog (27, c27) := ctr_ok fun l h => f27_ok l h
noncomputable def c28 := ctr (fun l : List Src => SrcsOk l) (fun l => [.lst (l.map Src.v)]) (fun l => (false, .tup [.inl 1 ((ordR l).1.map (V.int .i64)), .bool (ordR l).2]))
theorem c28_eq (l : List Src) (h : SrcsOk l) : c28 [.lst (l.map Src.v)] = some (false, .tup [.inl 1 ((ordR l).1.map (V.int .i64)), .bool (ordR l).2]) := ctr_eq (injl Src.v_inj _) l h rfl
theorem c28_ok : COK Tryz.prog (28, c28) := ctr_ok fun l h => f28_ok l h
end Go.TM.Tryz
end
section
set_option maxHeartbeats 16000000
set_option maxRecDepth 20000
namespace Go.TM.Tryz
open Go Go.TM Go.Proofs
theorem f5_ok (l : List Src) (hl : limL Src.lim l) : FunOK Tryz.prog 5 [.lst (l.map Src.v)] false (.bool true) := by
  refine fun_ok (mkE_ok zmix (cl := [(18, c18), (20, c20), (27, c27), (28, c28), (29, c29), (23, c23), (31, c31)]) (gl := [(24, [true], c24), (30, [true], c30)]) [] ⟨c18_ok, c20_ok, c27_ok, c28_ok, c29_ok, c23_ok, c31_ok⟩ ⟨c24_ok, c30_ok⟩) Tryz.func5 (by kernel_rfl) ?_
  refine FunW_run _ _ rfl rfl ?_
  have e18 := c18_eq l 1048576 hl (by omega) (by omega)
  by_cases hz : ¬ (szL Src.sz l : Int) ≤ 1048576
  · rw [szR_lt (by omega)] at e18
    simp [e18]
  have hz : szL Src.sz l ≤ 1048576 := by omega
  rw [szR_ge (by omega)] at e18
  have h0 : ¬ (1048576 : Int) < szL Src.sz l := by omega
  have e20 := c20_eq l hz
  have hlen := szL_len Src.sz l
  have hS := srcsOk_of hz
  have eW := c27_eq l hS
  have eG := c28_eq l hS
  have hX8 := @ordR_len l
  generalize (ordR l).1 = X at *
  generalize (ordR l).2 = b at *
  have e29 := c29_eq X (by omega)
  have e23 := c23_eq l hl
  have k1 : cnt cSrc l = 2 * l.length := cnt_const (fun _ => rfl) l
  have e24 := c24_eq l 1 (by omega) (by omega) (by omega)
  have k2 : cnt cNum X = 1 * X.length := cnt_const (fun _ => rfl) X
  have e30 := c30_eq X 1 (by omega) (by omega) (by omega)
  have e31 := c31_eq X 1 (by omega) (by omega) (by omega)
  have hb1 : ¬ (1 : Int) + (cnt cSrc l : Nat) < 0 := by omega
  have hb2 : ¬ (1 : Int) + (cnt cNum X : Nat) < 0 := by omega
  simp [e18, h0, e20, eW, eG, e29, e23, e24, e30, e31, hb1, hb2]
end Go.TM.Tryz
end
section
namespace Go.TM
open Go Go.RowKit
def mem1 (W : World) : Mem := ⟨Old W, fun _ => none, fun _ => 0, fun _ => undef, fun _ _ _ => undef, 0, 0⟩
theorem mem1_ok {W : World} {args : List V} (h : adCs args S.zero = (args, S.zero)) : MemOK (mem1 W) W (start args []) := by
  have hR : (start args []).R = fun _ => none := by simp only [start, h]; rfl
  have hB : (start args []).B = fun _ => none := by
    funext x
    simp [start, h, adCs]
  refine ⟨by simp only [start, h]; rfl, by simp only [start, h]; rfl, fun b c hb => ?_, fun t r hr => ?_, fun b hb => ⟨rfl, hb⟩, fun b l hl => (by cases hl), fun b t hl => (by cases hl), fun b k hl => (by cases hl)⟩
  · rw [hB] at hb; cases hb
  · rw [hR] at hr; cases hr
theorem close_bool {M : Mem} {W : World} {s : S} {k : Nat} {sv : V} {v : Value} {b : Bool} (hr : SR2 M W sv v) (hc : closeR s k sv = .bool b) : v = .bool b := by
  cases sv with
  | bool c =>
    simp [closeR, closeB, onL1, closeL] at hc
    subst hc
    exact hr
  | tup xs => simp [closeR] at hc
  | agg xs => simp [closeR, closeB, onL1] at hc
  | ptr b' o =>
    cases o with
    | zero =>
      simp only [closeR, closeB] at hc
      split at hc
      · split at hc <;> cases hc
      · cases hc
    | succ o => simp [closeR, closeB, onL1, closeL] at hc
  | own t =>
    simp only [closeR, closeB, onL1, closeL] at hc
    split at hc <;> cases hc
  | fn f caps => cases caps <;> simp [closeR, closeB, onL1, closeL] at hc
  | _ => simp [closeR, closeB, onL1, closeL] at hc
theorem run_true {P : Program} {f : FuncId} {args : List V} (h : FunOK P f args false (.bool true)) (hs : adCs args S.zero = (args, S.zero)) {W : World} {vs : List Value} (hv : All2 (SR1 (mem1 W) W) args vs) :
    Calls P f vs.toArray W fun e W' => e = .returned (.bool true) ∧ Below W.heap.size W W' := by
  refine (h.calls (mem1 W) W vs (mem1_ok hs) (by rw [hs]; exact hv)).mono ?_
  rintro e W' ⟨v, M', s', sv, rfl, hp⟩
  rw [close_bool hp.rel hp.res]
  exact ⟨rfl, hp.evo.os, hp.evo.tape, hp.evo.output, hp.evo.size, fun k hk => hp.evo.old k hk rfl⟩
end Go.TM
end
section
set_option maxHeartbeats 2000000
namespace Go.Proofs.YtgpkbmekdmpgoaaGreatDoor
open Go Go.ChangeShapes Go.WideShapes Go.ChangeAt Go.RowKit Go.TM Go.TM.Tryz
theorem own : ownKnob Tryz.prog.godebug = none := by kernel_rfl
theorem laidOut : laidOutB Tryz.prog = true := by kernel_rfl
theorem slice_value {P : Program} {W : World} {base : Nat} {t e : TypeId} {v : Value} (ht : P.underlying t = some (.slice e)) (h : Value.okWide P W .any base t v) : ∃ A n c, v = .slice A n c := by
  simp only [Value.okWide, ht] at h
  simp only [Cell.okWide, ht] at h
  simp only [Cell.ok, ht] at h
  cases v <;> first | exact ⟨_, _, _, rfl⟩ | exact h.elim
theorem src_ad (l : List TM.Src) : adCs [.lst (l.map TM.Src.v)] S.zero = ([.lst (l.map TM.Src.v)], S.zero) := by rfl
theorem laid_met (os : Os) (args : Array Value) : laidMetH Tryz.prog Rows.fnExactOrderOfRow.laid ((World.laidAll Tryz.prog os Rows.fnExactOrderOfRow.laid).forCall (fun _ _ => 0) ⟨#[], args, []⟩).memory := by
  rw [MakeChecks.laidMetH_plain _ _ _ (by kernel_rfl)]
  exact laidMet_laidAll _ (by kernel_rfl) (by kernel_rfl)
set_option maxRecDepth 100000 in
theorem fnExactOrderOf_lifted (os : Os) (started : os.Started) (H : Type) (enc : TypeId × Value → H) :
    ReturnsInHanded {} Tryz.checked os 5 .any (fun w args => (Rows.fnExactOrderOfSpec.pre enc Tryz.prog Tryz.f5 Rows.fnExactOrderOfRow.domain false w args ∧ laidMetH Tryz.prog Rows.fnExactOrderOfRow.laid w) ∧ sizedMet enc Tryz.prog Tryz.f5 (OpenSpec.ofChange Rows.fnExactOrderOfSpec) false w args)
      (Rows.fnExactOrderOfSpec.post enc Tryz.prog Tryz.f5 false true false false) := by
  refine returnsInHanded_of_change_and (C := Tryz.checked) (X := fun w _ => laidMetH Tryz.prog Rows.fnExactOrderOfRow.laid w) (fun _ _ _ hh h => h.of_heap hh) own started (by kernel_rfl) Tryz.func5
    (ChangeSpec.witness_shaped (enc := enc) (C := Tryz.checked) (os := os) (X := fun w _ => laidMetH Tryz.prog Rows.fnExactOrderOfRow.laid w) false (World.laidAll Tryz.prog os Rows.fnExactOrderOfRow.laid) #[.slice none 0 0] 8 (World.laidAll_os _ _ _)
      (World.shaped_of_ZipB (by kernel_rfl) (by kernel_rfl)) (by kernel_rfl) (by kernel_rfl) (by kernel_rfl) (laid_met os _)) ?_
  intro W base args ds gs before hval0 hW _ _ _ _
  have hval : ∀ (j : Nat) t v, Tryz.f5.params[j]? = some t → args[j]? = some v → Value.okWide Tryz.prog W .any base t v := hval0
  have hW' := hW
  obtain ⟨p, q, hA0, hV, rfl, hfz, hnd⟩ := hW
  have hA : DataW.TrodAll enc Tryz.prog W 0 (fun _ => true) true Tryz.f5.params.toList args.toList ds p := hA0
  rw [Tryz.params5] at hA hval
  obtain ⟨v0, d0, rfl, rfl, h0⟩ := trodAll_one hA
  obtain ⟨rfl, rfl⟩ := trodVars_none hV
  obtain ⟨A0, n0, c0, rfl⟩ := slice_value Tryz.underlying34 (hval 0 34 v0 rfl rfl)
  clear hA0 hval0
  simp only [List.append_nil] at hW'
  have hlt : ∀ x ∈ p, x.block < W.heap.size := fun x hx => by simpa using hW'.lt x hx
  have g0 := h0
  obtain ⟨fuel0, hf0⟩ := g0
  obtain ⟨l, hl, hs⟩ := (rd_slice Tryz.underlying34 (n := 2) (by kernel_rfl) (by omega) (fun _ => rfl) rd_Src) _ _ _ hf0
  have hsr : SR1 (mem1 W) W (.lst (l.map TM.Src.v)) (.slice A0 n0 c0) := hs.1
  refine (run_true (f5_ok l hl) (src_ad l) (vs := [.slice A0 n0 c0]) ⟨hsr, trivial⟩).mono fun e W' ⟨he, hb⟩ => ?_
  subst he
  have harg0 : DataW.Trod enc Tryz.prog W' 0 (fun b => decide (b < W.heap.size)) true 34 (.slice A0 n0 c0) d0 p :=
    Below.trod laidOut (by kernel_rfl) (of_decide_eq_true (by kernel_rfl)) h0 hb hlt
  exact ⟨_, rfl, _, _, _, [], _, [], hW', trodAll_mk1 (shut_bool Tryz.underlying4 _), trodAll_mk1 harg0, rfl, hb.frame _, fun h => by cases h⟩
theorem facts0 : Tryz.pinned.checked.prog.funcNamed Rows.fnExactOrderOfRow.func = some 5 := by kernel_rfl
theorem facts1 : (Rows.fnExactOrderOfRow.inPlace == Tryz.pinned.checked.prog.inPlace 5) = true := by kernel_rfl
theorem facts2 : (Rows.fnExactOrderOfRow.unfollowed == Tryz.pinned.checked.prog.unfollowed 5) = true := by kernel_rfl
theorem facts3 : (Rows.fnExactOrderOfRow.recurses == Tryz.pinned.checked.prog.recurses 5) = true := by kernel_rfl
theorem facts4 : (Rows.fnExactOrderOfRow.named == Tryz.pinned.checked.prog.varsNamed 5) = true := by kernel_rfl
theorem facts5 : joinedFacts Tryz.pinned.checked.prog 5 Tryz.f5 Rows.fnExactOrderOfSpec Rows.fnExactOrderOfRow = true := by
  unfold joinedFacts
  rw [facts1, facts2, facts3, facts4]
  kernel_rfl
theorem facts6 : Tryz.f5.isInstance Tryz.pinned.checked.prog Rows.fnExactOrderOfRow.origin Rows.fnExactOrderOfRow.targs := of_decide_eq_true (by kernel_rfl)
theorem facts7 : Tryz.f5.isWrapper Tryz.pinned.checked.prog Rows.fnExactOrderOfRow.wrapper Rows.fnExactOrderOfRow.mainSum := by
  unfold Func.isWrapper; first | (rw [if_pos (by decide +kernel)]; kernel_rfl) | (rw [if_neg (by decide +kernel)]; exact ⟨rfl, rfl⟩)
theorem fnExactOrderOf_row : Rows.FnExactOrderOfSaid :=
  OpenClaim.holds_of_wide 5 Tryz.f5 rfl rfl rfl rfl rfl rfl rfl ⟨rfl, rfl, rfl, rfl, rfl⟩ rfl rfl rfl rfl rfl facts0 Tryz.func5 facts5 facts6 facts7
    (fun os started H enc _ => fnExactOrderOf_lifted os started H enc)
theorem fnExactOrderOf_holds : Rows.FnExactOrderOfCardSaid :=
  Claim7.holds_tied_plain_at .later [] [.data, .data, .data, .data, .sentinel, .sentinel, .pinned] true (true, "4fb26d283fa2b75eae0e6a7d35f92e8852ce8f6188695db1595219b23312b0c8") true
    fnExactOrderOf_row (fun _ h => by cases h) (by kernel_rfl) (fun _ h => by cases h) fnExactOrderOf_row_tie rfl ⟨rfl, rfl⟩ (by kernel_rfl) rfl
    (fun f fn hf hfn => by
      obtain rfl : f = 5 := Option.some.inj ((show Tryz.prog.funcNamed "loop.example/g00837/laws.FnExactOrderOf" = some 5 by kernel_rfl).symm.trans hf) |>.symm
      obtain rfl : fn = Tryz.f5 := (Option.some.inj (Tryz.func5.symm.trans hfn)).symm
      exact ⟨by kernel_rfl, fun j t ht => by
        rw [Tryz.params5] at ht
        have hm : t ∈ [34] := by simpa using Array.mem_of_getElem? ht
        have hall : ([34].all fun u => !Tryz.prog.wantsStandIn u) = true := by kernel_rfl
        exact (show Tryz.prog.wantsStandIn t = false by simpa using List.all_eq_true.1 hall t hm)⟩)
    (by kernel_rfl)
end Go.Proofs.YtgpkbmekdmpgoaaGreatDoor
end
