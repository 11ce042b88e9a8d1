/- A part of the proof: UE, UF, UG, UN. -/
import Derived.Test.YtgpkbmekdmpgoaaGreatDoorK18
set_option linter.unusedVariables false
set_option linter.unusedSimpArgs false
section
set_option maxHeartbeats 8000000
set_option maxRecDepth 20000
namespace Go.TM
open Go
def LimG (G : List (List Int)) : Prop := G.length ≤ 1048576 ∧ ∀ r ∈ G, r.length ≤ 1048576
theorem Gr.lim {G : List (List Int)} (h : Gr G) : LimG G := ⟨by have := h.1; omega, fun r hr => by have := h.len r hr; omega⟩
end Go.TM
namespace Go.TM.Tryz
open Go Go.TM Go.Proofs
theorem rows_inj {a b : List (List Int)} (h : a.map intsV = b.map intsV) : a = b := map_inj intsV_inj h
@[simp] theorem norms_intsV (xs : List (List Int)) : norms (xs.map intsV) = xs.map intsV := by
  rw [norms_map, List.map_map]
  refine List.map_congr_left fun x hx => ?_
  simp [norm]
end Go.TM.Tryz
end
section
set_option maxHeartbeats 8000000
set_option maxRecDepth 20000
namespace Go.TM
open Go
@[simp] theorem aftQ_nbad {E : Env} (dr : Bool) (g x : Bool) (xc xa xb : Operand) (d : Option Tmp) (all : Array Oper) (os : List Oper) (k : List Fr) (Q : X → S → Prop) (s : S) :
    aftQ dr (some false) (.bool g) (.bool x) .bad xc xa xb d all os k E Q s = kont E (.ops dr all os :: k) Q .normal (s.put d (.cnd false .bad)) := by
  simp [aftQ]
end Go.TM
namespace Go.TM.Tryz
open Go Go.TM Go.Proofs
end Go.TM.Tryz
end
section
set_option maxHeartbeats 8000000
set_option maxRecDepth 20000
namespace Go.TM.Tryz
open Go Go.TM Go.Proofs
def rowsA (l : List Src) : List (List Int) := l.map fun x => (numsN l (impS x.text).1).1
theorem norms_needsS (l : List Src) : norms (needsS l) = (rowsA l).map intsV := by
  unfold needsS rowsA
  rw [norms_map, List.map_map, List.map_map]
  refine List.map_congr_left fun x hx => ?_
  simp only [Function.comp]
  unfold elemV
  split <;> simp [norm]
theorem rowsN_good {l : List Src} (h : goodL l = true) : rowsN l = rowsA l := by
  unfold rowsN rowsA
  rw [if_pos h]
  exact List.map_congr_left fun x _ => row_eq l x
theorem f62_low (l : List Src) (h : SrcsOk l) : FunOK Tryz.prog 62 [.lst (l.map Src.v)] false (.tup [.inl 1 ((rowsN l).map intsO), .bool (goodL l)]) := by
  have h1 := f62_ok l h fun x _ => by rw [imp_eq]; exact impS_len x.text
  rw [rowsI_eq, goodL_eq] at h1
  exact GenOK.low h1 (by simp [noL, noLs]) rfl
noncomputable def c62L := ctr (fun l : List Src => SrcsOk l) (fun l => [.lst (l.map Src.v)]) (fun l => (false, .tup [.inl 1 ((rowsN l).map intsO), .bool (goodL l)]))
theorem c62L_eq (l : List Src) (h : SrcsOk l) : c62L [.lst (l.map Src.v)] = some (false, .tup [.inl 1 ((rowsN l).map intsO), .bool (goodL l)]) := ctr_eq (injl Src.v_inj _) l h rfl
theorem c62L_ok : COK Tryz.prog (62, c62L) := ctr_ok fun l h => f62_low l h
end Go.TM.Tryz
end
section
set_option maxHeartbeats 16000000
set_option maxRecDepth 20000
namespace Go.TM
open Go
theorem gI_get {far : List Int} {k : Nat} (h : k < far.length) : far[k]? = some (gI far k) := by
  unfold gI
  rw [List.getD_eq_getElem?_getD, Int.toNat_natCast, List.getElem?_eq_getElem h]
  rfl
theorem stepH_len {G : List (List Int)} {at_ v : Int} {s : List Int × List Int} : ∀ i, (stepH G at_ v s i).1.length = s.1.length ∧ (stepH G at_ v s i).2.length ≤ s.2.length + i
  | 0 => ⟨rfl, Nat.le_refl _⟩
  | i + 1 => by
    obtain ⟨h1, h2⟩ := stepH_len (G := G) (at_ := at_) (v := v) (s := s) i
    change (stp1 G at_ v (stepH G at_ v s i) i).1.length = s.1.length ∧ (stp1 G at_ v (stepH G at_ v s i) i).2.length ≤ s.2.length + (i + 1)
    unfold stp1
    split
    · simp only [List.length_set, List.length_append, List.length_singleton]
      exact ⟨h1, by omega⟩
    · exact ⟨h1, by omega⟩
end Go.TM
namespace Go.TM.Tryz
open Go Go.TM Go.Proofs
structure HArg where
  G : List (List Int)
  at_ : Int
  v : Int
  far : List Int
  q : List Int
def HArg.ok (a : HArg) : Prop := LimG a.G ∧ a.far.length = a.G.length ∧ a.q.length ≤ 1048576
def hangA (a : HArg) : Ans := ⟨false, .tup [], [], [.lst (a.G.map intsV), .inl 1 ((stepAll a.G a.at_ a.v (a.far, a.q)).1.map (V.int .i64)), .inl 1 ((stepAll a.G a.at_ a.v (a.far, a.q)).2.map (V.int .i64))]⟩
theorem f112_ok (G : List (List Int)) (at_ v : Int) (far q : List Int) (hG : LimG G) (hf : far.length = G.length) (hq : q.length ≤ 1048576) : GenOK Tryz.prog 112 [.int .i64 at_, .int .i64 v, .ptr 0 0, .ptr 1 0, .ptr 2 0] [.lst (G.map intsV), .inl 1 (far.map (V.int .i64)), .inl 1 (q.map (V.int .i64))] (hangA ⟨G, at_, v, far, q⟩) := by
  refine fun_okG (mkE_ok zmix (cl := [(73, c73)]) (gl := []) [] c73_ok trivial) Tryz.func112 (by kernel_rfl) ?_
  refine FunG_run _ _ rfl rfl ?_
  have hn := hG.1
  simp [hangA]
  refine lp_list G (fun i t => t.nb = 3 ∧ t.B 0 = some (.lst (G.map intsV)) ∧ (t.e 0 = .int .i64 at_ ∧ t.e 1 = .int .i64 v ∧ t.e 2 = .ptr 0 0 ∧ t.e 3 = .ptr 1 0 ∧ t.e 4 = .ptr 2 0) ∧ (t.e 9 = .lst (G.map intsV) ∧ t.e 10 = .int .i64 G.length ∧ t.e 11 = .int .i64 i) ∧ (∃ r1 r2, t.B 1 = some (.own r1) ∧ t.B 2 = some (.own r2) ∧ ¬ r1 = r2 ∧ r1 < t.nt ∧ r2 < t.nt ∧ t.R r1 = some ⟨1, (stepH G at_ v (far, q) i).1.map (V.int .i64), true⟩ ∧ t.R r2 = some ⟨1, (stepH G at_ v (far, q) i).2.map (V.int .i64), true⟩)) ?_ ?_ ?_
  · simp [stepH]
  · rintro c' L hL i t x hx hi ih ⟨gnb, gB0, ⟨g0, g1, g2, g3, g4⟩, ⟨g9, g10, g11⟩, r1, r2, gB1, gB2, hne, h1, h2, hR1, hR2⟩
    have hw := wrI (i := i) (by omega)
    obtain ⟨hl1, hl2⟩ := stepH_len (G := G) (at_ := at_) (v := v) (s := (far, q)) i
    have hs : stepH G at_ v (far, q) (i + 1) = stp1 G at_ v (stepH G at_ v (far, q) i) i := rfl
    simp only at hl1 hl2
    generalize stepH G at_ v (far, q) i = s1 at *
    obtain ⟨F, Q⟩ := s1
    simp only at hl1 hl2 hR1 hR2
    have hgd : G.getD i [] = x := by rw [List.getD_eq_getElem?_getD, hx]; rfl
    have hxl := hG.2 x (List.mem_of_getElem? hx)
    have e73 := c73_eq x at_ hxl
    have hFi : F[i]? = some (gI F i) := gI_get (by omega)
    have hiF : i < F.length := by omega
    have hv : stp1 G at_ v (F, Q) i = if gI F i < 0 ∧ at_ ∈ x then (F.set i v, Q ++ [(i : Int)]) else (F, Q) := by unfold stp1; rw [hgd]
    rw [hv] at hs
    have hne' : ¬ r2 = r1 := fun e => hne e.symm
    have k1 : room ⟨1, false, 8, .int .i64 0⟩ 1 := by simp [room]
    have k2 : room ⟨1, false, 8, .int .i64 0⟩ (Q.length + 1) := by simp [room]; omega
    have n1 : ¬ r1 = t.nt := by omega
    have n2 : ¬ r2 = t.nt := by omega
    have n3 : ¬ r1 = t.nt + 1 := by omega
    by_cases hneg : gI F i < 0
    · by_cases hm : at_ ∈ x
      · rw [if_pos ⟨hneg, hm⟩] at hs
        rw [decide_eq_true hm] at e73
        simp [-getElem?_pos, gcz, gcs, gnb, gB0, g0, g1, g2, g3, g4, g9, g10, g11, gB1, gB2, hR1, hR2, hL, hi, hx, hFi, hiF, e73, hneg, hne, hne', k1, k2, n1, n2, n3]
        refine ih _ ⟨by simp [gnb], by simp [gB0], by simp [g0, g1, g2, g3, g4], by simp [g9, g10, g11, hw], r1, t.nt + 1, by simp [gB1], by simp, n3, by simp; omega, by simp, by rw [hs]; simp [hR1, n1, n3, List.map_set, hne], by rw [hs]; simp⟩
      · rw [if_neg (by simp [hm])] at hs
        rw [decide_eq_false hm] at e73
        simp [-getElem?_pos, gcz, gcs, gnb, gB0, g0, g1, g2, g3, g4, g9, g10, g11, gB1, gB2, hR1, hR2, hL, hi, hx, hFi, hiF, e73, hneg, hne, hne']
        refine ih _ ⟨by simp [gnb], by simp [gB0], by simp [g0, g1, g2, g3, g4], by simp [g9, g10, g11, hw], r1, r2, by simp [gB1], by simp [gB2], hne, by simp [h1], by simp [h2], by rw [hs]; simp [hR1], by rw [hs]; simp [hR2]⟩
    · rw [if_neg (by simp [hneg])] at hs
      generalize decide (at_ ∈ x) = b at e73
      simp [-getElem?_pos, gcz, gcs, gnb, gB0, g0, g1, g2, g3, g4, g9, g10, g11, gB1, gB2, hR1, hR2, hL, hi, hx, hFi, hiF, e73, hneg, hne, hne']
      refine ih _ ⟨by simp [gnb], by simp [gB0], by simp [g0, g1, g2, g3, g4], by simp [g9, g10, g11, hw], r1, r2, by simp [gB1], by simp [gB2], hne, by simp [h1], by simp [h2], by rw [hs]; simp [hR1], by rw [hs]; simp [hR2]⟩
  · rintro c' t ⟨gnb, gB0, ⟨g0, g1, g2, g3, g4⟩, ⟨g9, g10, g11⟩, r1, r2, gB1, gB2, hne, h1, h2, hR1, hR2⟩
    change t.R r1 = some ⟨1, (stepAll G at_ v (far, q)).1.map (V.int .i64), true⟩ at hR1
    change t.R r2 = some ⟨1, (stepAll G at_ v (far, q)).2.map (V.int .i64), true⟩ at hR2
    have hne' : ¬ r2 = r1 := fun e => hne e.symm
    simp [gnb, gB0, g0, g1, g2, g3, g4, g9, g10, g11, gB1, gB2, hR1, hR2, hne, hne', S.boxToks, S.cont, List.range_succ, toks1, tokL, S.wrT, onL1, contL]
end Go.TM.Tryz
end
