/- A part of the proof: RU, RV, ZMark, RW, D7, RX, ZSz, ZEq, ZHeld, RY, UA, UP, UQ, UR, UD. -/
import Derived.Test.YtgpkbmekdmpgoaaGreatDoorK17
set_option linter.unusedVariables false
set_option linter.unusedSimpArgs false
section
set_option maxHeartbeats 8000000
set_option maxRecDepth 20000
namespace Go.TM.Tryz
open Go Go.TM Go.Proofs
noncomputable def c60 := ctr (fun l : List Src => SrcsOk l) (fun l => [.lst (l.map Src.v)]) (fun l => (true, .inl 1 (needsS l)))
theorem c60_eq (l : List Src) (h : SrcsOk l) : c60 [.lst (l.map Src.v)] = some (true, .inl 1 (needsS l)) := ctr_eq (injl Src.v_inj _) l h rfl
theorem c60_ok : COK Tryz.prog (60, c60) := ctr_ok fun l h => f60_ok l h fun x _ => impS_len x.text
end Go.TM.Tryz
end
section
set_option maxHeartbeats 4000000
set_option maxRecDepth 20000
namespace Go.TM.Tryz
open Go Go.TM Go.Proofs
theorem f29_ok (xs : List Int) (hlen : xs.length ≤ 1048576) : FunOK Tryz.prog 29 [.lst (xs.map (V.int .i64)), .lst (xs.map (V.int .i64))] false (.bool true) := by
  refine fun_ok (mkE_ok zmix (cl := []) (gl := []) [] trivial trivial) Tryz.func29 (by kernel_rfl) ?_
  refine FunW_run _ _ rfl rfl ?_
  simp
  refine lp_list xs (fun i t => t.e 0 = .lst (xs.map (V.int .i64)) ∧ t.e 1 = .lst (xs.map (V.int .i64)) ∧ t.e 5 = .int .i64 i) ?_ ?_ ?_
  · simp
  · rintro c' L hL i t x hx hi ih ⟨g0, g1, g5⟩
    have hw := wrI (i := i) (by omega)
    simp [-getElem?_pos, gcz, gcs, g0, g1, g5, hL, hx, hi]
    refine ih _ ?_
    simp [-getElem?_pos, gcz, gcs, g0, g1, g5, hL, hx, hi, hw]
  · rintro c' t ⟨g0, g1, g5⟩
    simp [g0, g1, g5]
noncomputable def c29 := ctr (fun xs : List Int => xs.length ≤ 1048576) (fun xs => [.lst (xs.map (V.int .i64)), .lst (xs.map (V.int .i64))]) (fun _ => (false, .bool true))
theorem c29_eq (xs : List Int) (h : xs.length ≤ 1048576) : c29 [.lst (xs.map (V.int .i64)), .lst (xs.map (V.int .i64))] = some (false, .bool true) := ctr_eq (fun _ _ _ => rfl) xs h rfl
theorem c29_ok : COK Tryz.prog (29, c29) := ctr_ok fun xs h => f29_ok xs h
@[simp] def intsV (xs : List Int) : V := .lst (xs.map (V.int .i64))
end Go.TM.Tryz
end
section
set_option maxHeartbeats 2000000
namespace Go.TM.Tryz
open Go Go.TM Go.Proofs
theorem f57_ok (k : Int) (h : k ≤ 4611686018427387904) : FunOK Tryz.prog 57 [.int .i64 k] false (.str (mtext k)) := by
  refine fun_ok (mkE_ok zmix (cl := []) (gl := []) [] trivial trivial) Tryz.func57 (by kernel_rfl) ?_
  refine FunW_run _ _ rfl rfl ?_
  by_cases h0 : k ≤ 0
  · simp [h0, mtext]
  · simp [h0]
    refine lp_ind (fun m t => ∃ (n : Nat) (out : ByteArray), m = n ∧ t.e 0 = .int .i64 n ∧ t.e 3 = .str out ∧ mdig n ++ out = mdig k.toNat ∧ out.size + n ≤ k) k.toNat ⟨k.toNat, ⟨#[]⟩, rfl, ?_⟩ ?_
    · have e : ((k.toNat : Nat) : Int) = k := by omega
      simp [e, ba_append_nil, ba_nil_size]
    rintro c' L hL m t ih ⟨n, out, rfl, h1, h3, hout, hsz⟩
    by_cases hn : m = 0
    · subst hn
      have hb : 1 + out.size ≤ 9223372036854775807 := by omega
      rw [mdig_zero, ba_nil_append] at hout
      subst hout
      simp [h1, h3, hL, ba_one_size, hb, mtext, h0]
    · have hn' : 0 < m := by omega
      have ht : Int.tdiv (m : Int) 10 = ((m / 10 : Nat) : Int) := by
        rw [Int.tdiv_eq_ediv_of_nonneg (by omega)]
        omega
      have hb : 1 + out.size ≤ 9223372036854775807 := by omega
      have hw : IntKind.i64.wrap ((m : Int) / 10) = (m : Int) / 10 := wrap64 (by omega) (by omega)
      simp [h1, h3, hL, hn', ht, ba_one_size, hb]
      refine ih (m / 10) _ (by omega) ⟨m / 10, _, rfl, by simp [hw], by simp; rfl, ?_, ?_⟩
      · rw [← ByteArray.append_assoc, ← mdig_succ hn, hout]
      · rw [ByteArray.size_append, ba_one_size]
        omega
noncomputable def c57 := ctr (fun k : Int => k ≤ 4611686018427387904) (fun k => [.int .i64 k]) (fun k => (false, .str (mtext k)))
theorem c57_eq (k : Int) (h : k ≤ 4611686018427387904) : c57 [.int .i64 k] = some (false, .str (mtext k)) := ctr_eq (by simp) k h rfl
theorem c57_ok : COK Tryz.prog (57, c57) := ctr_ok fun k h => f57_ok k h
theorem f24_ok (xs : List Src) (k : Int) (h0 : 0 ≤ k) (h1 : k + cnt cSrc xs ≤ 4611686018427387904) (h2 : xs.length ≤ 4611686018427387904) : GenOK Tryz.prog 24 [.inl 2 (xs.map Src.v), .int .i64 k] [] ⟨false, .int .i64 (k + cnt cSrc xs), [.inl 2 ((mkL mkSrc cSrc k xs).map Src.v)], []⟩ := by
  refine fun_okG (mkE_ok zmix (cl := [(57, c57)]) (gl := []) [] c57_ok trivial) Tryz.func24 (by kernel_rfl) ?_
  refine FunG_run _ _ rfl rfl ?_
  have hlen := h2
  simp
  refine lp_list xs (fun i t => t.e 0 = .own 0 ∧ t.e 1 = .int .i64 (k + pre cSrc xs i) ∧ t.e 5 = .int .i64 i ∧ t.nb = 0 ∧ 1 ≤ t.nt ∧ t.R 0 = some ⟨2, (mpart mkSrc cSrc k xs i).map Src.v, true⟩) ?_ ?_ ?_
  · simp [pre_zero, mpart_zero]
  · rintro c' L hL i t x hx hi ih ⟨g0, g1, g5, gnb, gnt, gR⟩
    have hw := wrI (i := i) (by omega)
    have hp := pre_succ cSrc hx
    have hp2 := pre_le cSrc xs (i + 1)
    have hc : cSrc x = 2 := rfl
    have hcnt : (xs.map cSrc).sum = cnt cSrc xs := rfl
    have e0 := c57_eq (k + (pre cSrc xs i : Nat)) (by omega)
    have w0 : IntKind.i64.wrap (k + (pre cSrc xs i : Nat) + 1) = k + (pre cSrc xs i : Nat) + 1 := wrap64 (by omega) (by omega)
    have e1 := c57_eq (k + (pre cSrc xs i : Nat) + 1) (by omega)
    have w1 : IntKind.i64.wrap (k + (pre cSrc xs i : Nat) + 1 + 1) = k + (pre cSrc xs i : Nat) + 1 + 1 := wrap64 (by omega) (by omega)
    have hx' := mpart_get (f := mkSrc) (c := cSrc) (k := k) hx
    simp [-getElem?_pos, gcz, gcs, g0, g1, g5, gnb, gR, hL, hx', hi, e0, w0, e1, w1]
    refine ih _ ?_
    simp [-getElem?_pos, gcz, gcs, g0, g1, g5, gnb, gR, hL, hx', hi, e0, w0, e1, w1, hp, hc, hw]
    first
      | exact ⟨by omega, by omega, mpart_setv hx rfl⟩
      | exact ⟨by omega, mpart_setv hx rfl⟩
      | exact mpart_setv hx rfl
  · rintro c' t ⟨g0, g1, g5, gnb, gnt, gR⟩
    simp only [pre_all] at g1
    simp [g0, g1, g5, gnb, gR, mpart_all, cnt]
noncomputable def c24 := ctrG (fun a : List Src × Int => 0 ≤ a.2 ∧ a.2 + cnt cSrc a.1 ≤ 4611686018427387904 ∧ (a.1.length ≤ 4611686018427387904)) (fun a => ([.inl 2 (a.1.map Src.v), .int .i64 a.2], [])) (fun a => ⟨false, .int .i64 (a.2 + cnt cSrc a.1), [.inl 2 ((mkL mkSrc cSrc a.2 a.1).map Src.v)], []⟩)
theorem c24_eq (xs : List Src) (k : Int) (h0 : 0 ≤ k) (h1 : k + cnt cSrc xs ≤ 4611686018427387904) (h2 : xs.length ≤ 4611686018427387904) : c24 [.inl 2 (xs.map Src.v), .int .i64 k] [] = some ⟨false, .int .i64 (k + cnt cSrc xs), [.inl 2 ((mkL mkSrc cSrc k xs).map Src.v)], []⟩ := ctrG_eq (injG Src.v_inj _) (xs, k) ⟨h0, h1, h2⟩ rfl
theorem c24_ok : GOK Tryz.prog (24, [true], c24) := ctrG_ok fun a h => f24_ok a.1 a.2 h.1 h.2.1 h.2.2
end Go.TM.Tryz
end
section
set_option maxHeartbeats 4000000
set_option maxRecDepth 20000
namespace Go.TM.Tryz
open Go Go.TM Go.Proofs
def mkNum (k : Int) (_ : Int) : Int := k
def cNum (_ : Int) : Nat := 1
theorem f30_ok (xs : List Int) (k : Int) (h0 : 0 ≤ k) (h1 : k + cnt cNum xs ≤ 4611686018427387904) (h2 : xs.length ≤ 4611686018427387904) : GenOK Tryz.prog 30 [.inl 1 (xs.map (V.int .i64)), .int .i64 k] [] ⟨false, .int .i64 (k + cnt cNum xs), [.inl 1 ((mkL mkNum cNum k xs).map (V.int .i64))], []⟩ := by
  refine fun_okG (mkE_ok zmix (cl := []) (gl := []) [] trivial trivial) Tryz.func30 (by kernel_rfl) ?_
  refine FunG_run _ _ rfl rfl ?_
  have hlen := h2
  simp
  refine lp_list xs (fun i t => t.e 0 = .own 0 ∧ t.e 1 = .int .i64 (k + pre cNum xs i) ∧ t.e 5 = .int .i64 i ∧ t.nb = 0 ∧ 1 ≤ t.nt ∧ t.R 0 = some ⟨1, (mpart mkNum cNum k xs i).map (V.int .i64), true⟩) ?_ ?_ ?_
  · simp [pre_zero, mpart_zero]
  · rintro c' L hL i t x hx hi ih ⟨g0, g1, g5, gnb, gnt, gR⟩
    have hw := wrI (i := i) (by omega)
    have hp := pre_succ cNum hx
    have hp2 := pre_le cNum xs (i + 1)
    have hc : cNum x = 1 := rfl
    have hcnt : (xs.map cNum).sum = cnt cNum xs := rfl
    have w0 : IntKind.i64.wrap (k + (pre cNum xs i : Nat) + 1) = k + (pre cNum xs i : Nat) + 1 := wrap64 (by omega) (by omega)
    have hx' := mpart_get (f := mkNum) (c := cNum) (k := k) hx
    simp [-getElem?_pos, gcz, gcs, g0, g1, g5, gnb, gR, hL, hx', hi, w0]
    refine ih _ ?_
    simp [-getElem?_pos, gcz, gcs, g0, g1, g5, gnb, gR, hL, hx', hi, w0, hp, hc, hw]
    first
      | exact ⟨by omega, by omega, mpart_setv hx rfl⟩
      | exact ⟨by omega, mpart_setv hx rfl⟩
      | exact mpart_setv hx rfl
  · rintro c' t ⟨g0, g1, g5, gnb, gnt, gR⟩
    simp only [pre_all] at g1
    simp [g0, g1, g5, gnb, gR, mpart_all, cnt]
noncomputable def c30 := ctrG (fun a : List Int × Int => 0 ≤ a.2 ∧ a.2 + cnt cNum a.1 ≤ 4611686018427387904 ∧ (a.1.length ≤ 4611686018427387904)) (fun a => ([.inl 1 (a.1.map (V.int .i64)), .int .i64 a.2], [])) (fun a => ⟨false, .int .i64 (a.2 + cnt cNum a.1), [.inl 1 ((mkL mkNum cNum a.2 a.1).map (V.int .i64))], []⟩)
theorem c30_eq (xs : List Int) (k : Int) (h0 : 0 ≤ k) (h1 : k + cnt cNum xs ≤ 4611686018427387904) (h2 : xs.length ≤ 4611686018427387904) : c30 [.inl 1 (xs.map (V.int .i64)), .int .i64 k] [] = some ⟨false, .int .i64 (k + cnt cNum xs), [.inl 1 ((mkL mkNum cNum k xs).map (V.int .i64))], []⟩ := ctrG_eq (injG intv_inj _) (xs, k) ⟨h0, h1, h2⟩ rfl
theorem c30_ok : GOK Tryz.prog (30, [true], c30) := ctrG_ok fun a h => f30_ok a.1 a.2 h.1 h.2.1 h.2.2
@[simp] def intsO (xs : List Int) : V := .inl 1 (xs.map (V.int .i64))
@[simp] theorem noLs_intsO (xs : List (List Int)) : noLs (xs.map intsO) = true := noLs_map _ (by simp) _
end Go.TM.Tryz
end
section
namespace Go.TM
open Go
theorem cnt_mk {α : Type} {mk : Int → α → α} {c : α → Nat} (h : ∀ k x, c (mk k x) = c x) : ∀ (k : Int) (xs : List α), cnt c (mkL mk c k xs) = cnt c xs
  | k, [] => rfl
  | k, x :: xs => by
    have ih := cnt_mk h (k + c x) xs
    simp only [cnt] at ih ⊢
    simp only [mkL, List.map_cons, List.sum_cons, ih, h]
noncomputable def ctrH {α : Type} (mk : Int → α → α) (c : α → Nat) (f : α → V) (p : List α → Int → Prop) : List V → Option (Bool × V) :=
  ctr (fun a : List α × Int => ∃ xs, a.1 = mkL mk c a.2 xs ∧ p xs a.2) (fun a => [.lst (a.1.map f), .int .i64 a.2]) (fun a => (false, .int .i64 (a.2 + (cnt c a.1 : Nat))))
theorem ctrH_eq {α : Type} {mk : Int → α → α} {c : α → Nat} {f : α → V} {p : List α → Int → Prop} (hc : ∀ k x, c (mk k x) = c x) (hf : Function.Injective f) (xs : List α) (k : Int) (h : p xs k) :
    ctrH mk c f p [.lst ((mkL mk c k xs).map f), .int .i64 k] = some (false, .int .i64 (k + (cnt c xs : Nat))) := by
  have h1 := ctr_eq (p := fun a : List α × Int => ∃ xs, a.1 = mkL mk c a.2 xs ∧ p xs a.2) (enc := fun a => [.lst (a.1.map f), .int .i64 a.2]) (out := fun a => (false, .int .i64 (a.2 + (cnt c a.1 : Nat)))) (injl1 hf _) (mkL mk c k xs, k) ⟨xs, rfl, h⟩ rfl
  simp only [cnt_mk hc] at h1
  exact h1
theorem ctrH_ok {α : Type} {mk : Int → α → α} {c : α → Nat} {f : α → V} {p : List α → Int → Prop} {P : Program} {n : Nat} (hc : ∀ k x, c (mk k x) = c x) (hf : ∀ xs k, p xs k → FunOK P n [.lst ((mkL mk c k xs).map f), .int .i64 k] false (.int .i64 (k + (cnt c xs : Nat)))) :
    COK P (n, ctrH mk c f p) := ctr_ok fun a h => by
  obtain ⟨zs, k⟩ := a
  obtain ⟨xs, e, h⟩ := h
  simp only at e h
  subst e
  simp only [cnt_mk hc]
  exact hf xs k h
end Go.TM
end
section
set_option maxHeartbeats 4000000
set_option maxRecDepth 20000
namespace Go.TM.Tryz
open Go Go.TM Go.Proofs
theorem f31_ok (xs : List Int) (k : Int) (h0 : 0 ≤ k) (h1 : k + cnt cNum xs ≤ 4611686018427387904) (h2 : xs.length ≤ 4611686018427387904) : FunOK Tryz.prog 31 [.lst ((mkL mkNum cNum k xs).map (V.int .i64)), .int .i64 k] false (.int .i64 (k + cnt cNum xs)) := by
  refine fun_ok (mkE_ok zmix (cl := []) (gl := []) [] trivial trivial) Tryz.func31 (by kernel_rfl) ?_
  refine FunW_run _ _ rfl rfl ?_
  have hlen := h2
  simp
  refine lp_list xs (fun i t => t.e 0 = .lst ((mkL mkNum cNum k xs).map (V.int .i64)) ∧ t.e 1 = .int .i64 (k + pre cNum xs i) ∧ t.e 5 = .int .i64 i) ?_ ?_ ?_
  · simp [pre_zero]
  · rintro c' L hL i t x hx hi ih ⟨g0, g1, g5⟩
    have hw := wrI (i := i) (by omega)
    have hp := pre_succ cNum hx
    have hp2 := pre_le cNum xs (i + 1)
    have hc : cNum x = 1 := rfl
    have hcnt : (xs.map cNum).sum = cnt cNum xs := rfl
    have w0 : IntKind.i64.wrap (k + (pre cNum xs i : Nat) + 1) = k + (pre cNum xs i : Nat) + 1 := wrap64 (by omega) (by omega)
    have hx' := mkL_get mkNum cNum k hx
    simp [-getElem?_pos, gcz, gcs, g0, g1, g5, hL, hx', hi, mkNum, w0]
    refine ih _ ?_
    simp [-getElem?_pos, gcz, gcs, g0, g1, g5, hL, hx', hi, w0, hp, hc, hw] <;> omega
  · rintro c' t ⟨g0, g1, g5⟩
    simp only [pre_all] at g1
    simp [g0, g1, g5, cnt]
noncomputable def c31 := ctrH mkNum cNum (V.int .i64) (fun xs k => 0 ≤ k ∧ k + cnt cNum xs ≤ 4611686018427387904 ∧ (xs.length ≤ 4611686018427387904))
theorem c31_eq (xs : List Int) (k : Int) (h0 : 0 ≤ k) (h1 : k + cnt cNum xs ≤ 4611686018427387904) (h2 : xs.length ≤ 4611686018427387904) : c31 [.lst ((mkL mkNum cNum k xs).map (V.int .i64)), .int .i64 k] = some (false, .int .i64 (k + cnt cNum xs)) := ctrH_eq (mk := mkNum) (c := cNum) (fun _ _ => rfl) intv_inj xs k ⟨h0, h1, h2⟩
theorem c31_ok : COK Tryz.prog (31, c31) := ctrH_ok (mk := mkNum) (c := cNum) (fun _ _ => rfl) fun xs k h => f31_ok xs k h.1 h.2.1 h.2.2
end Go.TM.Tryz
end
section
set_option maxHeartbeats 2000000
namespace Go.TM.Tryz
open Go Go.TM Go.Proofs
theorem f58_ok (x : Src) (left : Int) (h : x.lim) (h0 : 0 ≤ left) (h1 : left ≤ 1048576) : FunOK Tryz.prog 58 [x.v, .int .i64 left] false (.int .i64 (szR x.sz left)) := by
  refine fun_ok (mkE_ok zmix (cl := []) (gl := []) [] trivial trivial) Tryz.func58 (by kernel_rfl) ?_
  refine FunW_run _ _ rfl rfl ?_
  simp only [Src.lim, lim] at h
  obtain ⟨l0, l1⟩ := h
  have w0 : IntKind.i64.wrap (left - (x.name.size : Int)) = left - (x.name.size : Nat) := wrap64 (by omega) (by omega)
  by_cases a0 : left < (x.name.size : Nat)
  · have b0 : left - ((x.name.size : Nat) : Int) < 0 := by omega
    have r : szR x.sz left = -1 := szR_lt (by simp only [Src.sz]; omega)
    simp [w0, b0, r]
  have b0 : ¬ left - ((x.name.size : Nat) : Int) < 0 := by omega
  have w1 : IntKind.i64.wrap (left - ((x.name.size : Nat) : Int) - (x.text.size : Int)) = left - ((x.name.size : Nat) : Int) - (x.text.size : Nat) := wrap64 (by omega) (by omega)
  by_cases a1 : left - ((x.name.size : Nat) : Int) < (x.text.size : Nat)
  · have b1 : left - ((x.name.size : Nat) : Int) - ((x.text.size : Nat) : Int) < 0 := by omega
    have r : szR x.sz left = -1 := szR_lt (by simp only [Src.sz]; omega)
    simp [w0, b0, w1, b1, r]
  have b1 : ¬ left - ((x.name.size : Nat) : Int) - ((x.text.size : Nat) : Int) < 0 := by omega
  have r : szR x.sz left = left - ((x.name.size : Nat) : Int) - ((x.text.size : Nat) : Int) := (szR_ge (by simp only [Src.sz]; omega)).trans (by simp only [Src.sz] <;> omega)
  simp [w0, b0, w1, b1, r]
noncomputable def c58 := ctr (fun a : Src × Int => a.1.lim ∧ 0 ≤ a.2 ∧ a.2 ≤ 1048576) (fun a => [a.1.v, .int .i64 a.2]) (fun a => (false, .int .i64 (szR a.1.sz a.2)))
theorem c58_eq (x : Src) (left : Int) (h : x.lim) (h0 : 0 ≤ left) (h1 : left ≤ 1048576) : c58 [x.v, .int .i64 left] = some (false, .int .i64 (szR x.sz left)) := ctr_eq (inj1 Src.v_inj _) (x, left) ⟨h, h0, h1⟩ rfl
theorem c58_ok : COK Tryz.prog (58, c58) := ctr_ok fun a h => f58_ok a.1 a.2 h.1 h.2.1 h.2.2
theorem f18_ok (xs : List Src) (left : Int) (hlim : limL Src.lim xs) (hl0 : 0 ≤ left) (hl1 : left ≤ 1048576) : FunOK Tryz.prog 18 [.lst (xs.map Src.v), .int .i64 left] false (.int .i64 (szR (szL Src.sz xs) left)) := by
  refine fun_ok (mkE_ok zmix (cl := [(58, c58)]) (gl := []) [] c58_ok trivial) Tryz.func18 (by kernel_rfl) ?_
  refine FunW_run _ _ rfl rfl ?_
  have hlen := hlim.1
  simp only [lim] at hlen
  have hl := szL_len Src.sz xs
  have w0 : IntKind.i64.wrap (left - (xs.length : Int)) = left - xs.length := wrap64 (by omega) (by omega)
  by_cases a0 : left < xs.length
  · have b0 : left - (xs.length : Int) < 0 := by omega
    have r : szR (szL Src.sz xs) left = -1 := szR_lt (by omega)
    simp [w0, b0, r]
  have b0 : ¬ left - (xs.length : Int) < 0 := by omega
  simp [w0, b0]
  refine lp_list xs (fun i t => t.e 0 = .lst (xs.map Src.v) ∧ t.e 5 = .int .i64 i ∧ t.e 1 = .int .i64 (left - xs.length - pre Src.sz xs i) ∧ 0 ≤ left - xs.length - pre Src.sz xs i) ?_ ?_ ?_
  · simp [pre_zero]
    omega
  · rintro c' L hL i t x hx hi ih ⟨h0, h5, h1', hge⟩
    have hw := wrI (i := i) (by omega)
    have hp := pre_succ Src.sz hx
    have hp2 := pre_le Src.sz xs (i + 1)
    have w := c58_eq x (left - xs.length - pre Src.sz xs i) (hlim.2 x (List.mem_of_getElem? hx)) (by omega) (by omega)
    simp only [Src.v] at w
    by_cases a : left - xs.length - pre Src.sz xs i < (Src.sz x : Nat)
    · rw [szR_lt a] at w
      have r : szR (szL Src.sz xs) left = -1 := szR_lt (by simp only [szL]; omega)
      simp [-getElem?_pos, gcz, gcs, h0, h1', h5, hL, hx, hi, w, r]
    rw [szR_ge (Int.not_lt.1 a)] at w
    have b : ¬ left - xs.length - pre Src.sz xs i - (Src.sz x : Nat) < 0 := by omega
    simp [-getElem?_pos, gcz, gcs, h0, h1', h5, hL, hx, hi, w, b]
    refine ih _ ?_
    simp [-getElem?_pos, gcz, gcs, h0, h1', h5, hL, hx, hi, hw, hp]
    omega
  · rintro c' t ⟨h0, h5, h1', hge⟩
    rw [pre_all] at h1' hge
    have r : szR (szL Src.sz xs) left = left - xs.length - ((xs.map Src.sz).sum : Nat) := by rw [szR_ge (by simp only [szL]; omega)]; simp only [szL]; omega
    simp [h0, h5, h1', r]
noncomputable def c18 := ctr (fun a : List Src × Int => limL Src.lim a.1 ∧ 0 ≤ a.2 ∧ a.2 ≤ 1048576) (fun a => [.lst (a.1.map Src.v), .int .i64 a.2]) (fun a => (false, .int .i64 (szR (szL Src.sz a.1) a.2)))
theorem c18_eq (xs : List Src) (left : Int) (h : limL Src.lim xs) (h0 : 0 ≤ left) (h1 : left ≤ 1048576) : c18 [.lst (xs.map Src.v), .int .i64 left] = some (false, .int .i64 (szR (szL Src.sz xs) left)) := ctr_eq (injl1 Src.v_inj _) (xs, left) ⟨h, h0, h1⟩ rfl
theorem c18_ok : COK Tryz.prog (18, c18) := ctr_ok fun a h => f18_ok a.1 a.2 h.1 h.2.1 h.2.2
end Go.TM.Tryz
end
section
set_option maxHeartbeats 2000000
namespace Go.TM.Tryz
open Go Go.TM Go.Proofs
theorem f63_ok (x : Src) (h : x.lim) : FunOK Tryz.prog 63 [x.v, x.v] false (.bool true) := by
  refine fun_ok (mkE_ok zmix (cl := []) (gl := []) [] trivial trivial) Tryz.func63 (by kernel_rfl) ?_
  refine FunW_run _ _ rfl rfl ?_
  simp []
noncomputable def c63 := ctr (fun x : Src => x.lim) (fun x => [x.v, x.v]) (fun _ => (false, .bool true))
theorem c63_eq (x : Src) (h : x.lim) : c63 [x.v, x.v] = some (false, .bool true) := ctr_eq (fun _ _ _ => rfl) x h rfl
theorem c63_ok : COK Tryz.prog (63, c63) := ctr_ok fun x h => f63_ok x h
theorem f23_ok (xs : List Src) (hlim : limL Src.lim xs) : FunOK Tryz.prog 23 [.lst (xs.map Src.v), .lst (xs.map Src.v)] false (.bool true) := by
  refine fun_ok (mkE_ok zmix (cl := [(63, c63)]) (gl := []) [] c63_ok trivial) Tryz.func23 (by kernel_rfl) ?_
  refine FunW_run _ _ rfl rfl ?_
  have hlen := hlim.1
  simp only [lim] at hlen
  simp
  refine lp_list xs (fun i t => t.e 0 = .lst (xs.map Src.v) ∧ t.e 1 = .lst (xs.map Src.v) ∧ t.e 5 = .int .i64 i) ?_ ?_ ?_
  · simp
  · rintro c' L hL i t x hx hi ih ⟨g0, g1, g5⟩
    have hw := wrI (i := i) (by omega)
    have e := c63_eq x (hlim.2 x (List.mem_of_getElem? hx))
    simp only [Src.v] at e
    simp [-getElem?_pos, gcz, gcs, g0, g1, g5, hL, hx, hi, e]
    refine ih _ ?_
    simp [-getElem?_pos, gcz, gcs, g0, g1, g5, hL, hx, hi, hw]
  · rintro c' t ⟨g0, g1, g5⟩
    simp [g0, g1, g5]
noncomputable def c23 := ctr (fun xs : List Src => limL Src.lim xs) (fun xs => [.lst (xs.map Src.v), .lst (xs.map Src.v)]) (fun _ => (false, .bool true))
theorem c23_eq (xs : List Src) (h : limL Src.lim xs) : c23 [.lst (xs.map Src.v), .lst (xs.map Src.v)] = some (false, .bool true) := ctr_eq (fun _ _ _ => rfl) xs h rfl
theorem c23_ok : COK Tryz.prog (23, c23) := ctr_ok fun xs h => f23_ok xs h
end Go.TM.Tryz
end
section
set_option maxHeartbeats 2000000
namespace Go.TM.Tryz
open Go Go.TM Go.Proofs
end Go.TM.Tryz
end
section
set_option maxHeartbeats 16000000
set_option maxRecDepth 20000
namespace Go.TM.Tryz
open Go Go.TM Go.Proofs
noncomputable def rowsN (l : List Src) : List (List Int) := if goodL l = true then l.map (rowI l) else []
theorem rowsI_eq (l : List Src) : (if goodLI l = true then needsI l else []) = (rowsN l).map intsO := by
  unfold rowsN
  rw [goodL_eq]
  split
  · unfold needsI
    rw [List.map_map]
    rfl
  · rfl
theorem norms_intsO (xs : List (List Int)) : norms (xs.map intsO) = xs.map intsV := by
  rw [norms_map, List.map_map]
  refine List.map_congr_left fun x hx => ?_
  simp [norm]
end Go.TM.Tryz
end
section
set_option maxHeartbeats 16000000
set_option maxRecDepth 20000
namespace Go.TM
open Go
theorem GenOK.low {P : Program} {f : FuncId} {args cs : List V} {r : V} {outs boxes : List V} (h : GenOK P f args cs ⟨true, r, outs, boxes⟩) (h1 : noL r = true) (h2 : noLs outs = true) : GenOK P f args cs ⟨false, r, outs, boxes⟩ where
  has := h.has
  calls M W vs hM hv := (h.calls M W vs hM hv).mono fun e W' ⟨v, M', s', sv, e1, p⟩ => ⟨v, M', s', sv, e1, ⟨p.rel, p.mem, p.evo, p.nodup, p.bnodup, fun _ => ⟨h1, h2⟩, p.hasB, p.outs, p.boxes, p.res⟩⟩
theorem asc_len : ∀ {l : List Int} {a b : Int}, a ≤ b → Asc l → (∀ x ∈ l, a ≤ x ∧ x < b) → (l.length : Int) ≤ b - a
  | [], a, b, hab, _, _ => by simp; omega
  | x :: xs, a, b, hab, h, hx => by
    have h0 := hx x (by simp)
    have := asc_len (l := xs) (a := x + 1) (b := b) (by omega) h.2 fun y hy => ⟨by have := h.1 y hy; omega, (hx y (by simp [hy])).2⟩
    simp only [List.length_cons]
    omega
def Gr (G : List (List Int)) : Prop := G.length ≤ 8 ∧ ∀ r ∈ G, Asc r ∧ ∀ x ∈ r, 0 ≤ x ∧ x < G.length
theorem Gr.len {G : List (List Int)} (h : Gr G) : ∀ r ∈ G, r.length ≤ 8 := fun r hr => by
  have h1 := asc_len (l := r) (a := 0) (b := G.length) (by omega) (h.2 r hr).1 (h.2 r hr).2
  have := h.1
  omega
end Go.TM
namespace Go.TM.Tryz
open Go Go.TM Go.Proofs
theorem fstI_lt {α : Type} (p : α → Bool) (l : List α) : fstI p l < l.length ∨ fstI p l = -1 := by
  unfold fstI
  split
  · rename_i h
    left
    have h2 : l.findIdx p < l.length := List.findIdx_lt_length.2 (by simpa using h)
    omega
  · exact .inr rfl
theorem nums_in (l : List Src) : ∀ (ns : List ByteArray) (B : List Int × Bool), Asc B.1 → (∀ x ∈ B.1, 0 ≤ x ∧ x < l.length) → Asc (ns.foldl (stepN l) B).1 ∧ ∀ x ∈ (ns.foldl (stepN l) B).1, 0 ≤ x ∧ x < l.length
  | [], B, h, he => ⟨h, he⟩
  | n :: ns, B, h, he => by
    simp only [List.foldl_cons]
    unfold stepN
    by_cases hk : 0 ≤ fstI (namIs n) l
    · rw [if_pos hk]
      refine nums_in l ns _ (asc_put h) fun x hx => ?_
      rcases mem_put.1 hx with hx | hx
      · exact he x hx
      · subst hx
        rcases fstI_lt (namIs n) l with h1 | h1
        · exact ⟨hk, h1⟩
        · omega
    · rw [if_neg hk]
      exact nums_in l ns _ h he
theorem rowsN_len (l : List Src) : (rowsN l).length = if goodL l = true then l.length else 0 := by
  unfold rowsN
  split <;> simp
theorem rowsN_gr (l : List Src) : Gr (rowsN l) := by
  unfold rowsN
  split
  · rename_i h
    refine ⟨?_, fun r hr => ?_⟩
    · unfold goodL at h
      simp at h
      simp
      exact h.2
    · obtain ⟨x, _, rfl⟩ := List.mem_map.1 hr
      rw [row_eq, List.length_map]
      exact nums_in l _ ([], false) trivial fun x hx => by cases hx
  · exact ⟨by simp, fun r hr => by cases hr⟩
theorem intsV_inj : Function.Injective intsV := fun a b h => by
  simp only [intsV, V.lst.injEq] at h
  exact ints_inj h
theorem srcsOk_of {l : List Src} (h : szL Src.sz l ≤ 1048576) : SrcsOk l := by
  have hlen := szL_len Src.sz l
  refine ⟨by omega, fun t ht => ?_⟩
  obtain ⟨i, hi⟩ := List.getElem?_of_mem ht
  have := szL_get (f := Src.sz) hi
  simp only [Src.sz] at this
  exact ⟨by simp only [lim]; omega, by omega⟩
end Go.TM.Tryz
end
section
namespace Go.TM
open Go
def wk (G : List (List Int)) (to : Int) : Nat → Int → Prop
  | 0, k => k = to
  | L + 1, k => ∃ x ∈ G.getD k.toNat [], wk G to L x
def rch (G : List (List Int)) (to : Int) (i : Nat) (k : Int) : Prop := ∃ L, L ≤ i ∧ wk G to L k
theorem Gr.at {G : List (List Int)} (h : Gr G) {k x : Int} (hx : x ∈ G.getD k.toNat []) : 0 ≤ x ∧ x < G.length := by
  rw [List.getD_eq_getElem?_getD] at hx
  cases hk : G[k.toNat]? with
  | none => rw [hk] at hx; cases hx
  | some r => rw [hk] at hx; exact (h.2 r (List.mem_of_getElem? hk)).2 x hx
theorem count_lt {p q : Nat → Bool} : ∀ {l : List Nat}, (∀ x ∈ l, p x = true → q x = true) → (∃ x ∈ l, q x = true ∧ p x = false) → l.countP p < l.countP q
  | [], _, ⟨x, hx, _⟩ => by cases hx
  | y :: l, h, ⟨x, hx, h1, h2⟩ => by
    have hle : l.countP p ≤ l.countP q := List.countP_mono_left fun z hz => h z (by simp [hz])
    rw [List.countP_cons, List.countP_cons]
    rcases List.mem_cons.1 hx with e | e
    · subst e
      rw [h1, h2]
      simp
      omega
    · have := count_lt (l := l) (fun z hz => h z (by simp [hz])) ⟨x, e, h1, h2⟩
      have h3 := h y (by simp)
      cases hp : p y with
      | true => rw [h3 hp]; simp; omega
      | false =>
        cases hq : q y <;> simp <;> omega
noncomputable def rB (G : List (List Int)) (to : Int) (i k : Nat) : Bool := @decide (rch G to i (k : Int)) (Classical.propDecidable _)
theorem rB_iff {G : List (List Int)} {to : Int} {i k : Nat} : rB G to i k = true ↔ rch G to i (k : Int) := by
  unfold rB
  exact @decide_eq_true_iff _ (Classical.propDecidable _)
noncomputable def cR (G : List (List Int)) (to : Int) (i : Nat) : Nat := (List.range G.length).countP (rB G to i)
theorem rch_up {G : List (List Int)} {to : Int} {i : Nat} {k : Int} (h : rch G to i k) : rch G to (i + 1) k := by
  obtain ⟨L, h1, h2⟩ := h
  exact ⟨L, by omega, h2⟩
def stab (G : List (List Int)) (to : Int) (j : Nat) : Prop := ∀ k : Nat, k < G.length → rch G to (j + 1) k → rch G to j k
theorem stab_or {G : List (List Int)} {to : Int} (h0 : 0 ≤ to) (h1 : to < G.length) : ∀ i : Nat, (∃ j, j < i ∧ stab G to j) ∨ i + 1 ≤ cR G to i
  | 0 => by
    right
    unfold cR
    have : 0 < (List.range G.length).countP (rB G to 0) := by
      rw [List.countP_pos_iff]
      refine ⟨to.toNat, List.mem_range.2 (by omega), rB_iff.2 ⟨0, Nat.le_refl _, ?_⟩⟩
      simp only [wk]
      omega
    omega
  | i + 1 => by
    rcases stab_or h0 h1 i with ⟨j, h2, h3⟩ | h
    · exact .inl ⟨j, by omega, h3⟩
    · by_cases hs : stab G to i
      · exact .inl ⟨i, by omega, hs⟩
      · right
        unfold stab at hs
        obtain ⟨k, hs⟩ := Classical.not_forall.1 hs
        obtain ⟨hk, hs⟩ := Classical.not_imp.1 hs
        obtain ⟨h4, h5⟩ := Classical.not_imp.1 hs
        have := count_lt (p := rB G to i) (q := rB G to (i + 1)) (l := List.range G.length) (fun x _ hx => rB_iff.2 (rch_up (rB_iff.1 hx))) ⟨k, List.mem_range.2 hk, rB_iff.2 h4, by
          cases hb : rB G to i k with
          | true => exact absurd (rB_iff.1 hb) h5
          | false => rfl⟩
        unfold cR at h ⊢
        omega
theorem walk_short {G : List (List Int)} (hG : Gr G) {to : Int} (h0 : 0 ≤ to) (h1 : to < G.length) : ∀ (L : Nat) (k : Int), 0 ≤ k → k < G.length → wk G to L k → ∃ L', L' < G.length ∧ L' ≤ L ∧ wk G to L' k := by
  have hj : ∃ j, j < G.length ∧ stab G to j := by
    rcases stab_or h0 h1 G.length with h | h
    · exact h
    · have h2 : cR G to G.length ≤ (List.range G.length).length := by
        unfold cR
        exact List.countP_le_length
      rw [List.length_range] at h2
      omega
  obtain ⟨j, hjn, hst⟩ := hj
  have key : ∀ (L : Nat) (k : Int), 0 ≤ k → k < G.length → wk G to L k → rch G to j k := by
    intro L
    induction L with
    | zero => exact fun k _ _ h => ⟨0, Nat.zero_le _, h⟩
    | succ L ih =>
      intro k hk0 hk1 h
      obtain ⟨x, hx, hw⟩ := h
      obtain ⟨hx0, hx1⟩ := hG.at hx
      obtain ⟨M, hM, hw2⟩ := ih x hx0 hx1 hw
      have := hst k.toNat (by omega) ⟨M + 1, by omega, by
        have e : ((k.toNat : Nat) : Int) = k := by omega
        rw [e]
        exact ⟨x, hx, hw2⟩⟩
      rwa [show ((k.toNat : Nat) : Int) = k by omega] at this
  intro L k hk0 hk1 h
  by_cases hL : L < G.length
  · exact ⟨L, hL, Nat.le_refl _, h⟩
  · obtain ⟨M, hM, hw⟩ := key L k hk0 hk1 h
    exact ⟨M, by omega, by omega, hw⟩
def gI (far : List Int) (k : Int) : Int := far.getD k.toNat (-1)
def inG (G : List (List Int)) (k : Int) : Prop := 0 ≤ k ∧ k < G.length
structure Dist (G : List (List Int)) (to : Int) (far : List Int) : Prop where
  len : far.length = G.length
  sound : ∀ k, inG G k → 0 ≤ gI far k → wk G to (gI far k).toNat k
  least : ∀ k, inG G k → ∀ L, wk G to L k → 0 ≤ gI far k ∧ gI far k ≤ L
structure Dist1 (G : List (List Int)) (to : Int) (far : List Int) : Prop where
  len : far.length = G.length
  sound : ∀ k, inG G k → 0 ≤ gI far k → 1 ≤ gI far k ∧ wk G to (gI far k).toNat k
  least : ∀ k, inG G k → ∀ L, 1 ≤ L → wk G to L k → 0 ≤ gI far k ∧ gI far k ≤ L
theorem gI_set {far : List Int} {k j v : Int} (hk : 0 ≤ k) (hk1 : k < far.length) (hj : 0 ≤ j) : gI (far.set k.toNat v) j = if j = k then v else gI far j := by
  unfold gI
  rw [List.getD_eq_getElem?_getD, List.getD_eq_getElem?_getD, List.getElem?_set]
  by_cases e : j = k
  · subst e
    rw [if_pos rfl, if_pos (by omega), if_pos rfl]
    rfl
  · rw [if_neg (by omega), if_neg e]
def relax (k : Int) (far : List Int) (x : Int) : List Int := if 0 ≤ gI far x ∧ (gI far k < 0 ∨ gI far x + 1 < gI far k) then far.set k.toNat (gI far x + 1) else far
def rowF (k : Int) (row far : List Int) : List Int := row.foldl (relax k) far
def roundF (G : List (List Int)) (far : List Int) : Nat → List Int
  | 0 => far
  | i + 1 => rowF i (G.getD i []) (roundF G far i)
def initF (n : Nat) (to : Int) : List Int := (List.replicate n (-1)).set to.toNat 0
def farN (G : List (List Int)) (to : Int) : Nat → List Int
  | 0 => initF G.length to
  | i + 1 => roundF G (farN G to i) G.length
def farS (G : List (List Int)) (to : Int) : List Int := farN G to G.length
structure Fok (G : List (List Int)) (to : Int) (far : List Int) : Prop where
  len : far.length = G.length
  sound : ∀ k, inG G k → 0 ≤ gI far k → wk G to (gI far k).toNat k
def LeF (G : List (List Int)) (a b : List Int) : Prop := ∀ k, inG G k → 0 ≤ gI a k → 0 ≤ gI b k ∧ gI b k ≤ gI a k
theorem LeF.refl {G : List (List Int)} (a : List Int) : LeF G a a := fun k _ h => ⟨h, Int.le_refl _⟩
theorem LeF.trans {G : List (List Int)} {a b c : List Int} (h1 : LeF G a b) (h2 : LeF G b c) : LeF G a c := fun k hk h => by
  obtain ⟨h3, h4⟩ := h1 k hk h
  obtain ⟨h5, h6⟩ := h2 k hk h3
  exact ⟨h5, by omega⟩
theorem relax_ok {G : List (List Int)} {to : Int} {far : List Int} {k x : Int} (hf : Fok G to far) (hk : inG G k) (hx : x ∈ G.getD k.toNat []) (hx2 : inG G x) :
    Fok G to (relax k far x) ∧ LeF G far (relax k far x) ∧ (0 ≤ gI far x → 0 ≤ gI (relax k far x) k ∧ gI (relax k far x) k ≤ gI far x + 1) := by
  unfold relax
  have hl := hf.len
  split
  · rename_i hc
    have hs : ∀ j, 0 ≤ j → gI (far.set k.toNat (gI far x + 1)) j = if j = k then gI far x + 1 else gI far j := fun j hj => gI_set hk.1 (by rw [hl]; exact hk.2) hj
    refine ⟨⟨by rw [List.length_set]; exact hl, fun j hj => ?_⟩, fun j hj h => ?_, fun _ => ?_⟩
    · rw [hs j hj.1]
      split
      · rename_i e
        subst e
        intro _
        rw [show (gI far x + 1).toNat = (gI far x).toNat + 1 by omega]
        exact ⟨x, hx, hf.sound x hx2 hc.1⟩
      · exact hf.sound j hj
    · rw [hs j hj.1]
      split
      · rename_i e
        subst e
        exact ⟨by omega, by omega⟩
      · exact ⟨h, Int.le_refl _⟩
    · rw [hs k hk.1, if_pos rfl]
      exact ⟨by omega, Int.le_refl _⟩
  · rename_i hc
    exact ⟨hf, LeF.refl _, fun h => ⟨by omega, by omega⟩⟩
theorem row_ok {G : List (List Int)} {to : Int} {k : Int} (hk : inG G k) : ∀ (row far : List Int), (∀ x ∈ row, x ∈ G.getD k.toNat [] ∧ inG G x) → Fok G to far →
    Fok G to (rowF k row far) ∧ LeF G far (rowF k row far) ∧ (∀ x ∈ row, 0 ≤ gI far x → 0 ≤ gI (rowF k row far) k ∧ gI (rowF k row far) k ≤ gI far x + 1)
  | [], far, _, hf => ⟨hf, LeF.refl _, fun x hx => by cases hx⟩
  | y :: row, far, h, hf => by
    obtain ⟨h1, h2⟩ := h y (by simp)
    obtain ⟨a1, a2, a3⟩ := relax_ok hf hk h1 h2
    obtain ⟨b1, b2, b3⟩ := row_ok hk row (relax k far y) (fun x hx => h x (by simp [hx])) a1
    have e : rowF k (y :: row) far = rowF k row (relax k far y) := rfl
    rw [e]
    refine ⟨b1, a2.trans b2, fun x hx h0 => ?_⟩
    rcases List.mem_cons.1 hx with e | hx
    · subst e
      obtain ⟨c1, c2⟩ := a3 h0
      obtain ⟨d1, d2⟩ := b2 k hk c1
      exact ⟨d1, by omega⟩
    · obtain ⟨c1, c2⟩ := a2 x (h x (by simp [hx])).2 h0
      obtain ⟨d1, d2⟩ := b3 x hx c1
      exact ⟨d1, by omega⟩
theorem round_ok {G : List (List Int)} (hG : Gr G) {to : Int} {far : List Int} (hf : Fok G to far) : ∀ i : Nat, i ≤ G.length →
    Fok G to (roundF G far i) ∧ LeF G far (roundF G far i) ∧ (∀ k : Int, 0 ≤ k → k < i → ∀ x ∈ G.getD k.toNat [], 0 ≤ gI far x → 0 ≤ gI (roundF G far i) k ∧ gI (roundF G far i) k ≤ gI far x + 1)
  | 0, _ => ⟨hf, LeF.refl _, fun k h1 h2 => by omega⟩
  | i + 1, hi => by
    obtain ⟨a1, a2, a3⟩ := round_ok hG hf i (by omega)
    have hk : inG G (i : Int) := ⟨by omega, by omega⟩
    obtain ⟨b1, b2, b3⟩ := row_ok (to := to) hk (G.getD i []) (roundF G far i) (fun x hx => ⟨by simpa using hx, hG.at (k := (i : Int)) (by simpa using hx)⟩) a1
    change Fok G to (rowF i (G.getD i []) (roundF G far i)) ∧ LeF G far (rowF i (G.getD i []) (roundF G far i)) ∧ _
    refine ⟨b1, a2.trans b2, fun k hk0 hk1 x hx h0 => ?_⟩
    change 0 ≤ gI (rowF i (G.getD i []) (roundF G far i)) k ∧ gI (rowF i (G.getD i []) (roundF G far i)) k ≤ _
    by_cases e : k = i
    · subst e
      obtain ⟨c1, c2⟩ := a2 x (hG.at hx) h0
      obtain ⟨d1, d2⟩ := b3 x (by simpa using hx) c1
      exact ⟨d1, by omega⟩
    · obtain ⟨c1, c2⟩ := a3 k hk0 (by omega) x hx h0
      obtain ⟨d1, d2⟩ := b2 k ⟨hk0, by omega⟩ c1
      exact ⟨d1, by omega⟩
theorem gI_rep (n : Nat) (k : Int) : gI (List.replicate n (-1)) k = -1 := by
  unfold gI
  rw [List.getD_eq_getElem?_getD, List.getElem?_replicate]
  split <;> rfl
theorem farN_ok {G : List (List Int)} (hG : Gr G) {to : Int} (ht : inG G to) : ∀ i : Nat, Fok G to (farN G to i) ∧ ∀ k, inG G k → ∀ L, L ≤ i → wk G to L k → 0 ≤ gI (farN G to i) k ∧ gI (farN G to i) k ≤ L
  | 0 => by
    have hs : ∀ j, 0 ≤ j → gI (initF G.length to) j = if j = to then 0 else -1 := fun j hj => by
      unfold initF
      rw [gI_set ht.1 (by simpa using ht.2) hj, gI_rep]
    refine ⟨⟨by simp [farN, initF], fun k hk h => ?_⟩, fun k hk L hL h => ?_⟩
    · change 0 ≤ gI (initF G.length to) k at h
      change wk G to (gI (initF G.length to) k).toNat k
      rw [hs k hk.1] at h ⊢
      split at h
      · rename_i e
        rw [if_pos e]
        exact e
      · omega
    · obtain rfl : L = 0 := by omega
      change 0 ≤ gI (initF G.length to) k ∧ gI (initF G.length to) k ≤ _
      have e : k = to := h
      rw [hs k hk.1, if_pos e]
      omega
  | i + 1 => by
    obtain ⟨a1, a2⟩ := farN_ok hG ht i
    obtain ⟨b1, b2, b3⟩ := round_ok hG a1 G.length (Nat.le_refl _)
    change Fok G to (roundF G (farN G to i) G.length) ∧ ∀ k, inG G k → ∀ L, L ≤ i + 1 → wk G to L k → 0 ≤ gI (roundF G (farN G to i) G.length) k ∧ gI (roundF G (farN G to i) G.length) k ≤ L
    refine ⟨b1, fun k hk L hL h => ?_⟩
    cases L with
    | zero =>
      obtain ⟨c1, c2⟩ := a2 k hk 0 (by omega) h
      obtain ⟨d1, d2⟩ := b2 k hk c1
      exact ⟨d1, by omega⟩
    | succ L =>
      obtain ⟨x, hx, hw⟩ := h
      obtain ⟨c1, c2⟩ := a2 x (hG.at hx) L (by omega) hw
      obtain ⟨d1, d2⟩ := b3 k hk.1 hk.2 x hx c1
      exact ⟨d1, by omega⟩
theorem farS_ok {G : List (List Int)} (hG : Gr G) {to : Int} (ht : inG G to) : Dist G to (farS G to) := by
  obtain ⟨a1, a2⟩ := farN_ok hG ht G.length
  refine ⟨a1.len, a1.sound, fun k hk L h => ?_⟩
  obtain ⟨M, h1, h2, h3⟩ := walk_short hG ht.1 ht.2 L k hk.1 hk.2 h
  obtain ⟨c1, c2⟩ := a2 k hk M (by omega) h3
  exact ⟨c1, by change gI (farN G to G.length) k ≤ L; omega⟩
end Go.TM
end
section
namespace Go.TM
open Go
def stp1 (G : List (List Int)) (at_ v : Int) (s : List Int × List Int) (k : Nat) : List Int × List Int :=
  if gI s.1 k < 0 ∧ at_ ∈ G.getD k [] then (s.1.set k v, s.2 ++ [(k : Int)]) else s
def stepH (G : List (List Int)) (at_ v : Int) (s : List Int × List Int) : Nat → List Int × List Int
  | 0 => s
  | i + 1 => stp1 G at_ v (stepH G at_ v s i) i
def stepAll (G : List (List Int)) (at_ v : Int) (s : List Int × List Int) : List Int × List Int := stepH G at_ v s G.length
def hang0 (G : List (List Int)) (to : Int) : List Int × List Int := stepAll G to 1 (List.replicate G.length (-1), [])
def hangI (G : List (List Int)) (to : Int) : Nat → List Int × List Int
  | 0 => hang0 G to
  | i + 1 => match (hangI G to i).2[i]? with
    | some q => stepAll G q (gI (hangI G to i).1 q + 1) (hangI G to i)
    | none => hangI G to i
def hangF (G : List (List Int)) (to : Int) : List Int := (hangI G to G.length).1
def negs (far : List Int) : Nat := far.countP fun x => decide (x < 0)
theorem negs_set : ∀ {far : List Int} {k : Nat} {v : Int}, k < far.length → far.getD k (-1) < 0 → 0 ≤ v → negs (far.set k v) + 1 = negs far
  | [], k, v, h, _, _ => by simp at h
  | x :: far, 0, v, h, h1, h2 => by
    have h1 : x < 0 := h1
    simp only [negs, List.set_cons_zero, List.countP_cons]
    rw [if_neg (by simp; omega), if_pos (by simpa using h1)]
  | x :: far, k + 1, v, h, h1, h2 => by
    have ih := negs_set (far := far) (k := k) (v := v) (by simpa using h) (by simpa using h1) h2
    simp only [negs, List.set_cons_succ, List.countP_cons] at ih ⊢
    omega
structure StpOk (G : List (List Int)) (at_ v : Int) (s : List Int × List Int) (i : Nat) (s' : List Int × List Int) : Prop where
  len : s'.1.length = G.length
  cnt : negs s'.1 + s'.2.length = negs s.1 + s.2.length
  old : ∀ k, inG G k → 0 ≤ gI s.1 k → gI s'.1 k = gI s.1 k
  new : ∃ new, s'.2 = s.2 ++ new ∧ (∀ k ∈ new, inG G k ∧ at_ ∈ G.getD k.toNat [] ∧ gI s'.1 k = v ∧ gI s.1 k < 0) ∧ ∀ k, inG G k → (0 ≤ gI s'.1 k ↔ 0 ≤ gI s.1 k ∨ k ∈ new)
  done : ∀ k : Int, 0 ≤ k → k < i → at_ ∈ G.getD k.toNat [] → 0 ≤ gI s'.1 k
theorem step_ok {G : List (List Int)} {at_ v : Int} (hv : 0 ≤ v) {s : List Int × List Int} (hl : s.1.length = G.length) : ∀ i : Nat, i ≤ G.length → StpOk G at_ v s i (stepH G at_ v s i)
  | 0, _ => ⟨hl, rfl, fun _ _ _ => rfl, ⟨[], by simp [stepH], by simp, fun k _ => by simp [stepH]⟩, fun k h1 h2 => by omega⟩
  | i + 1, hi => by
    have h := step_ok (at_ := at_) hv hl i (by omega)
    change StpOk G at_ v s (i + 1) (stp1 G at_ v (stepH G at_ v s i) i)
    generalize stepH G at_ v s i = s1 at *
    obtain ⟨h1, h2, h3, ⟨new, h4, h5, h6⟩, h7⟩ := h
    have hk : inG G (i : Int) := ⟨by omega, by omega⟩
    unfold stp1
    split
    · rename_i hc
      obtain ⟨c1, c2⟩ := hc
      have hs : ∀ j, 0 ≤ j → gI (s1.1.set i v) j = if j = (i : Int) then v else gI s1.1 j := fun j hj => by
        have := gI_set (far := s1.1) (k := (i : Int)) (j := j) (v := v) (by omega) (by omega) hj
        simpa using this
      have hold : gI s.1 i < 0 := by
        by_cases hh : 0 ≤ gI s.1 i
        · have := (h6 i hk).2 (.inl hh)
          omega
        · omega
      refine ⟨by simpa using h1, ?_, fun k hk2 h0 => ?_, ⟨new ++ [(i : Int)], by simp [h4], fun k hk2 => ?_, fun k hk2 => ?_⟩, fun k a1 a2 a3 => ?_⟩
      · have := negs_set (far := s1.1) (k := i) (v := v) (by omega) (by simpa [gI] using c1) hv
        simp only [List.length_append, List.length_singleton]
        omega
      · simp only
        rw [hs k hk2.1, if_neg (by rintro rfl; omega)]
        exact h3 k hk2 h0
      · rw [List.mem_append, List.mem_singleton] at hk2
        simp only
        rcases hk2 with hk2 | hk2
        · obtain ⟨b1, b2, b3, b4⟩ := h5 k hk2
          refine ⟨b1, b2, ?_, b4⟩
          rw [hs k b1.1]
          split
          · rfl
          · exact b3
        · subst hk2
          refine ⟨hk, by simpa using c2, ?_, hold⟩
          rw [hs _ hk.1, if_pos rfl]
      · simp only
        rw [hs k hk2.1, List.mem_append, List.mem_singleton]
        split
        · rename_i e
          exact ⟨fun _ => .inr (.inr e), fun _ => hv⟩
        · rename_i e
          rw [h6 k hk2]
          simp [e]
      · simp only
        rw [hs k a1]
        split
        · exact hv
        · rename_i e
          exact h7 k a1 (by omega) a3
    · rename_i hc
      refine ⟨h1, h2, h3, ⟨new, h4, h5, h6⟩, fun k a1 a2 a3 => ?_⟩
      by_cases e : k = (i : Int)
      · subst e
        by_cases hh : 0 ≤ gI s1.1 i
        · exact hh
        · exact absurd ⟨by omega, by simpa using a3⟩ hc
      · exact h7 k a1 (by omega) a3
structure HI (G : List (List Int)) (to : Int) (i : Nat) (s : List Int × List Int) : Prop where
  len : s.1.length = G.length
  cnt : negs s.1 + s.2.length = G.length
  rng : ∀ q ∈ s.2, inG G q
  mem : ∀ k, inG G k → (0 ≤ gI s.1 k ↔ k ∈ s.2)
  sound : ∀ k, inG G k → 0 ≤ gI s.1 k → 1 ≤ gI s.1 k ∧ wk G to (gI s.1 k).toNat k
  first : ∀ k, inG G k → to ∈ G.getD k.toNat [] → 0 ≤ gI s.1 k ∧ gI s.1 k ≤ 1
  proc : ∀ (j : Nat) (q : Int), j < i → s.2[j]? = some q → ∀ k, inG G k → q ∈ G.getD k.toNat [] → 0 ≤ gI s.1 k ∧ gI s.1 k ≤ gI s.1 q + 1
  sort : ∀ (a b : Nat) (x y : Int), a ≤ b → s.2[a]? = some x → s.2[b]? = some y → gI s.1 x ≤ gI s.1 y
  top : ∀ (q : Int), s.2[i]? = some q → ∀ y ∈ s.2, gI s.1 y ≤ gI s.1 q + 1
  bnd : ∀ (j : Nat) (q : Int), s.2[j]? = some q → gI s.1 q ≤ j + 1
theorem hi0 {G : List (List Int)} {to : Int} : HI G to 0 (hang0 G to) := by
  have hneg : negs (List.replicate G.length (-1)) = G.length := by
    unfold negs
    rw [List.countP_replicate]
    simp
  have h := step_ok (G := G) (at_ := to) (v := 1) (by omega) (s := (List.replicate G.length (-1), [])) (by simp) G.length (Nat.le_refl _)
  change StpOk G to 1 _ _ (hang0 G to) at h
  generalize hang0 G to = s at *
  obtain ⟨h1, h2, h3, ⟨new, h4, h5, h6⟩, h7⟩ := h
  have h6' : ∀ k, inG G k → (0 ≤ gI s.1 k ↔ k ∈ new) := fun k hk => by
    rw [h6 k hk]
    simp only [gI_rep]
    constructor
    · rintro (h | h)
      · omega
      · exact h
    · exact .inr
  simp only [List.nil_append] at h4
  simp only [hneg, List.length_nil, Nat.add_zero] at h2
  subst h4
  have hone : ∀ q ∈ s.2, gI s.1 q = 1 := fun q hq => (h5 q hq).2.2.1
  refine ⟨h1, h2, fun q hq => (h5 q hq).1, h6', fun k hk h0 => ?_, fun k hk ht => ?_, fun j q hj => by omega, fun a b x y _ hx hy => ?_, fun q hq y hy => ?_, fun j q hq => ?_⟩
  · have hm := (h6' k hk).1 h0
    rw [hone k hm]
    refine ⟨Int.le_refl _, ?_⟩
    exact ⟨to, (h5 k hm).2.1, rfl⟩
  · have h0 := h7 k hk.1 hk.2 ht
    exact ⟨h0, by rw [hone k ((h6' k hk).1 h0)]; omega⟩
  · rw [hone x (List.mem_of_getElem? hx), hone y (List.mem_of_getElem? hy)]
    omega
  · rw [hone y hy, hone q (List.mem_of_getElem? hq)]
    omega
  · rw [hone q (List.mem_of_getElem? hq)]
    omega
theorem hi_step {G : List (List Int)} {to : Int} {i : Nat} {s : List Int × List Int} (h : HI G to i s) {q : Int} (hq : s.2[i]? = some q) : HI G to (i + 1) (stepAll G q (gI s.1 q + 1) s) := by
  have hqm := List.mem_of_getElem? hq
  have hqG := h.rng q hqm
  have hq0 := (h.mem q hqG).2 hqm
  have hst := step_ok (at_ := q) (v := gI s.1 q + 1) (by omega) h.len G.length (Nat.le_refl _)
  unfold stepAll
  generalize stepH G q (gI s.1 q + 1) s G.length = s' at *
  obtain ⟨h1, h2, h3, ⟨new, h4, h5, h6⟩, h7⟩ := hst
  have hoq : ∀ x ∈ s.2, gI s'.1 x = gI s.1 x := fun x hx => h3 x (h.rng x hx) ((h.mem x (h.rng x hx)).2 hx)
  have hin : i < s.2.length := (List.getElem?_eq_some_iff.1 hq).1
  have hmem : ∀ k, inG G k → (0 ≤ gI s'.1 k ↔ k ∈ s'.2) := fun k hk => by
    rw [h6 k hk, h4, List.mem_append, h.mem k hk]
  have hq' := hoq q hqm
  have hall : ∀ y ∈ s'.2, gI s'.1 y ≤ gI s.1 q + 1 := fun y hy => by
    rw [h4, List.mem_append] at hy
    rcases hy with hy | hy
    · rw [hoq y hy]
      exact h.top q hq y hy
    · rw [(h5 y hy).2.2.1]
      omega
  have hget : ∀ (j : Nat) (x : Int), s'.2[j]? = some x → (j < s.2.length ∧ s.2[j]? = some x) ∨ (s.2.length ≤ j ∧ x ∈ new) := fun j x hx => by
    rw [h4] at hx
    by_cases hj : j < s.2.length
    · rw [List.getElem?_append_left hj] at hx
      exact .inl ⟨hj, hx⟩
    · rw [List.getElem?_append_right (by omega)] at hx
      exact .inr ⟨by omega, List.mem_of_getElem? hx⟩
  have hsort : ∀ (a b : Nat) (x y : Int), a ≤ b → s'.2[a]? = some x → s'.2[b]? = some y → gI s'.1 x ≤ gI s'.1 y := fun a b x y hab hx hy => by
    rcases hget b y hy with ⟨b1, b2⟩ | ⟨b1, b2⟩
    · rcases hget a x hx with ⟨a1, a2⟩ | ⟨a1, a2⟩
      · rw [hoq x (List.mem_of_getElem? a2), hoq y (List.mem_of_getElem? b2)]
        exact h.sort a b x y hab a2 b2
      · omega
    · have := hall x (List.mem_of_getElem? hx)
      rw [(h5 y b2).2.2.1]
      exact this
  refine ⟨h1, by rw [h2]; exact h.cnt, fun x hx => ?_, hmem, fun k hk h0 => ?_, fun k hk ht => ?_, fun j x hj hx k hk hxk => ?_, hsort, fun x hx y hy => ?_, fun j x hx => ?_⟩
  · rw [h4, List.mem_append] at hx
    rcases hx with hx | hx
    · exact h.rng x hx
    · exact (h5 x hx).1
  · rcases (h6 k hk).1 h0 with hk0 | hk0
    · rw [h3 k hk hk0]
      exact h.sound k hk hk0
    · obtain ⟨_, c2, c3, _⟩ := h5 k hk0
      rw [c3]
      refine ⟨by omega, ?_⟩
      rw [show (gI s.1 q + 1).toNat = (gI s.1 q).toNat + 1 by omega]
      exact ⟨q, c2, (h.sound q hqG hq0).2⟩
  · obtain ⟨c1, c2⟩ := h.first k hk ht
    rw [h3 k hk c1]
    exact ⟨c1, c2⟩
  · by_cases e : j = i
    · subst e
      have e2 : x = q := by
        rcases hget j x hx with ⟨_, b2⟩ | ⟨b1, _⟩
        · rw [hq] at b2
          exact (Option.some.inj b2).symm
        · omega
      subst e2
      have h0 := h7 k hk.1 hk.2 hxk
      refine ⟨h0, ?_⟩
      rw [hq']
      exact hall k ((hmem k hk).1 h0)
    · rcases hget j x hx with ⟨_, b2⟩ | ⟨b1, _⟩
      · obtain ⟨c1, c2⟩ := h.proc j x (by omega) b2 k hk hxk
        rw [h3 k hk c1, hoq x (List.mem_of_getElem? b2)]
        exact ⟨c1, c2⟩
      · omega
  · have h8 := hall y hy
    have hiq : s'.2[i]? = some q := by
      rw [h4, List.getElem?_append_left hin]
      exact hq
    have h9 := hsort i (i + 1) q x (by omega) hiq hx
    rw [hq'] at h9
    omega
  · rcases hget j x hx with ⟨_, b2⟩ | ⟨b1, b2⟩
    · rw [hoq x (List.mem_of_getElem? b2)]
      exact h.bnd j x b2
    · rw [(h5 x b2).2.2.1]
      have := h.bnd i q hq
      omega
theorem hi_len {G : List (List Int)} {to : Int} {i : Nat} {s : List Int × List Int} (h : HI G to i s) : s.2.length ≤ G.length := by
  have := h.cnt
  omega
theorem hi_end {G : List (List Int)} (hG : Gr G) {to : Int} {i : Nat} {s : List Int × List Int} (h : HI G to i s) (hi : s.2.length ≤ i) : Dist1 G to s.1 := by
  refine ⟨h.len, h.sound, fun k hk L => ?_⟩
  have key : ∀ (L : Nat) (k : Int), inG G k → wk G to (L + 1) k → 0 ≤ gI s.1 k ∧ gI s.1 k ≤ L + 1 := by
    intro L
    induction L with
    | zero =>
      intro k hk h1
      obtain ⟨x, hx, hw⟩ := h1
      have e : x = to := hw
      subst e
      have := h.first k hk hx
      exact ⟨this.1, by omega⟩
    | succ L ih =>
      intro k hk h1
      obtain ⟨x, hx, hw⟩ := h1
      have hxG : inG G x := hG.at hx
      obtain ⟨c1, c2⟩ := ih x hxG hw
      have hm := (h.mem x hxG).1 c1
      obtain ⟨j, hj⟩ := List.getElem?_of_mem hm
      have hjl : j < s.2.length := (List.getElem?_eq_some_iff.1 hj).1
      obtain ⟨d1, d2⟩ := h.proc j x (by omega) hj k hk hx
      exact ⟨d1, by omega⟩
  intro hL hw
  obtain ⟨M, rfl⟩ : ∃ M, L = M + 1 := ⟨L - 1, by omega⟩
  have := key M k hk hw
  exact ⟨this.1, by omega⟩
theorem hangI_stuck {G : List (List Int)} {to : Int} {i : Nat} (h : (hangI G to i).2.length ≤ i) : ∀ d, hangI G to (i + d) = hangI G to i
  | 0 => rfl
  | d + 1 => by
    have ih := hangI_stuck h d
    have e : hangI G to (i + (d + 1)) = match (hangI G to (i + d)).2[i + d]? with
      | some q => stepAll G q (gI (hangI G to (i + d)).1 q + 1) (hangI G to (i + d))
      | none => hangI G to (i + d) := rfl
    rw [e, ih, List.getElem?_eq_none (by omega)]
theorem hangI_ok {G : List (List Int)} {to : Int} : ∀ i, ∃ j, j ≤ i ∧ HI G to j (hangI G to i) ∧ (j = i ∨ (hangI G to i).2.length ≤ j)
  | 0 => ⟨0, Nat.le_refl _, hi0, .inl rfl⟩
  | i + 1 => by
    obtain ⟨j, h1, h2, h3⟩ := hangI_ok (G := G) (to := to) i
    have e : hangI G to (i + 1) = match (hangI G to i).2[i]? with
      | some q => stepAll G q (gI (hangI G to i).1 q + 1) (hangI G to i)
      | none => hangI G to i := rfl
    cases hq : (hangI G to i).2[i]? with
    | none =>
      rw [hq] at e
      have e : hangI G to (i + 1) = hangI G to i := e
      rw [e]
      refine ⟨j, by omega, h2, .inr ?_⟩
      have := List.getElem?_eq_none_iff.1 hq
      rcases h3 with h3 | h3 <;> omega
    | some q =>
      rw [hq] at e
      have e : hangI G to (i + 1) = stepAll G q (gI (hangI G to i).1 q + 1) (hangI G to i) := e
      rw [e]
      have hlt : i < (hangI G to i).2.length := (List.getElem?_eq_some_iff.1 hq).1
      have hj : j = i := by omega
      subst hj
      exact ⟨j + 1, Nat.le_refl _, hi_step h2 hq, .inl rfl⟩
theorem hangF_ok {G : List (List Int)} (hG : Gr G) {to : Int} : Dist1 G to (hangF G to) := by
  obtain ⟨j, h1, h2, h3⟩ := hangI_ok (G := G) (to := to) G.length
  refine hi_end hG h2 ?_
  have := hi_len h2
  omega
end Go.TM
end
section
namespace Go.TM
open Go
def nxt (far : List Int) (b n : Int) : Int := if 0 ≤ gI far n ∧ (b < 0 ∨ gI far n < gI far b) then n else b
def nextF (far l : List Int) : Int := l.foldl (nxt far) (-1)
theorem next_fold {far : List Int} : ∀ (l : List Int) (b : Int), (∀ x ∈ l, 0 ≤ x) → (b = -1 ∨ 0 ≤ b ∧ 0 ≤ gI far b) →
    (l.foldl (nxt far) b = b ∨ l.foldl (nxt far) b ∈ l) ∧ (l.foldl (nxt far) b = -1 ∨ 0 ≤ l.foldl (nxt far) b ∧ 0 ≤ gI far (l.foldl (nxt far) b)) ∧ (∀ x, x ∈ l ∨ x = b ∧ 0 ≤ b → 0 ≤ gI far x → 0 ≤ l.foldl (nxt far) b ∧ gI far (l.foldl (nxt far) b) ≤ gI far x)
  | [], b, _, hb => ⟨.inl rfl, hb, fun x hx h0 => by
    rcases hx with hx | ⟨rfl, hx⟩
    · cases hx
    · exact ⟨hx, Int.le_refl _⟩⟩
  | n :: l, b, hl, hb => by
    have hn := hl n (by simp)
    have hb' : nxt far b n = -1 ∨ 0 ≤ nxt far b n ∧ 0 ≤ gI far (nxt far b n) := by
      unfold nxt
      split
      · rename_i hc
        exact .inr ⟨hn, hc.1⟩
      · exact hb
    obtain ⟨h1, h2, h3⟩ := next_fold (far := far) l (nxt far b n) (fun x hx => hl x (by simp [hx])) hb'
    rw [List.foldl_cons]
    refine ⟨?_, h2, fun x hx h0 => ?_⟩
    · rcases h1 with h1 | h1
      · rw [h1]
        unfold nxt
        split
        · exact .inr (by simp)
        · exact .inl rfl
      · exact .inr (by simp [h1])
    · by_cases hx2 : x ∈ l
      · exact h3 x (.inl hx2) h0
      · have key : 0 ≤ nxt far b n ∧ gI far (nxt far b n) ≤ gI far x := by
          unfold nxt
          split
          · rename_i hc
            refine ⟨hn, ?_⟩
            rcases hx with hx | ⟨rfl, hx⟩
            · rcases List.mem_cons.1 hx with e | e
              · rw [e]; omega
              · exact absurd e hx2
            · rcases hc.2 with hc | hc <;> omega
          · rename_i hc
            rcases hx with hx | ⟨rfl, hx⟩
            · rcases List.mem_cons.1 hx with e | e
              · subst e
                by_cases hb0 : b < 0
                · exact absurd ⟨h0, .inl hb0⟩ hc
                · by_cases hlt : gI far x < gI far b
                  · exact absurd ⟨h0, .inr hlt⟩ hc
                  · exact ⟨by omega, by omega⟩
              · exact absurd e hx2
            · exact ⟨hx, Int.le_refl _⟩
        have hk0 : 0 ≤ gI far (nxt far b n) := by
          rcases hb' with h | h
          · omega
          · exact h.2
        obtain ⟨k1, k2⟩ := h3 (nxt far b n) (.inr ⟨rfl, key.1⟩) hk0
        exact ⟨k1, by omega⟩
theorem next_ok {far l : List Int} (hl : ∀ x ∈ l, 0 ≤ x) :
    (nextF far l = -1 ∨ nextF far l ∈ l ∧ 0 ≤ nextF far l ∧ 0 ≤ gI far (nextF far l)) ∧ (∀ x ∈ l, 0 ≤ gI far x → 0 ≤ nextF far l ∧ gI far (nextF far l) ≤ gI far x) := by
  obtain ⟨h1, h2, h3⟩ := next_fold (far := far) l (-1) hl (.inl rfl)
  change (nextF far l = -1 ∨ nextF far l ∈ l) at h1
  refine ⟨?_, fun x hx h0 => h3 x (.inl hx) h0⟩
  rcases h1 with h1 | h1
  · exact .inl h1
  · rcases h2 with h2 | h2
    · exact .inl h2
    · exact .inr ⟨h1, h2⟩
def Agr (a b : List Int) (x : Int) : Prop := (0 ≤ gI a x ↔ 0 ≤ gI b x) ∧ (0 ≤ gI a x → gI a x = gI b x)
theorem next_agr {a b : List Int} : ∀ (l : List Int) (c : Int), (∀ x ∈ l, Agr a b x) → (c = -1 ∨ Agr a b c) → (c < 0 ∨ 0 ≤ gI a c) → (∀ x ∈ l, 0 ≤ x) → l.foldl (nxt a) c = l.foldl (nxt b) c
  | [], c, _, _, _, _ => rfl
  | n :: l, c, h, hc, hc0, hl => by
    rw [List.foldl_cons, List.foldl_cons]
    have hn := h n (by simp)
    have e : nxt a c n = nxt b c n := by
      unfold nxt
      have : (0 ≤ gI a n ∧ (c < 0 ∨ gI a n < gI a c)) ↔ (0 ≤ gI b n ∧ (c < 0 ∨ gI b n < gI b c)) := by
        rcases hc with hc | hc
        · rw [hn.1]
          constructor <;> rintro ⟨h1, _⟩ <;> exact ⟨h1, .inl (by omega)⟩
        · rcases hc0 with h0 | h0
          · rw [hn.1]
            constructor <;> rintro ⟨h1, _⟩ <;> exact ⟨h1, .inl h0⟩
          · constructor
            · rintro ⟨h1, h2⟩
              have e1 := hn.2 h1
              have e2 := hc.2 h0
              exact ⟨hn.1.1 h1, by rw [← e1, ← e2]; exact h2⟩
            · rintro ⟨h1, h2⟩
              have h1' := hn.1.2 h1
              have e1 := hn.2 h1'
              have e2 := hc.2 h0
              exact ⟨h1', by rw [e1, e2]; exact h2⟩
      by_cases hh : 0 ≤ gI a n ∧ (c < 0 ∨ gI a n < gI a c)
      · rw [if_pos hh, if_pos (this.1 hh)]
      · rw [if_neg hh, if_neg (fun h => hh (this.2 h))]
    rw [← e]
    refine next_agr l _ (fun x hx => h x (by simp [hx])) ?_ ?_ fun x hx => hl x (by simp [hx])
    · unfold nxt
      split
      · exact .inr hn
      · exact hc
    · unfold nxt
      split
      · rename_i hh
        exact .inr hh.1
      · exact hc0
theorem nextF_agr {a b l : List Int} (h : ∀ x ∈ l, Agr a b x) (hl : ∀ x ∈ l, 0 ≤ x) : nextF a l = nextF b l := next_agr l (-1) h (.inl rfl) (.inl (by omega)) hl
theorem dist_agr {G : List (List Int)} {to : Int} {a b : List Int} (ha : Dist G to a) (hb : Dist1 G to b) {x : Int} (hx : inG G x) (hne : x ≠ to) : Agr a b x := by
  have key : 0 ≤ gI a x → 0 ≤ gI b x ∧ gI a x = gI b x := fun h => by
    have hw := ha.sound x hx h
    have h1 : 1 ≤ gI a x := by
      by_cases h0 : gI a x = 0
      · rw [h0] at hw
        exact absurd hw hne
      · omega
    obtain ⟨c1, c2⟩ := hb.least x hx _ (by omega) hw
    obtain ⟨d1, d2⟩ := hb.sound x hx c1
    obtain ⟨e1, e2⟩ := ha.least x hx _ d2
    exact ⟨c1, by omega⟩
  refine ⟨⟨fun h => (key h).1, fun h => ?_⟩, fun h => (key h).2⟩
  obtain ⟨d1, d2⟩ := hb.sound x hx h
  exact (ha.least x hx _ d2).1
theorem dist_self {G : List (List Int)} (hG : Gr G) {to : Int} {a b : List Int} (ht : inG G to) (ha : Dist G to a) (hb : Dist1 G to b) : 0 ≤ gI b to ↔ 0 ≤ nextF a (G.getD to.toNat []) := by
  have hl : ∀ x ∈ G.getD to.toNat [], 0 ≤ x := fun x hx => (hG.at hx).1
  obtain ⟨n1, n2⟩ := next_ok (far := a) hl
  constructor
  · intro h
    obtain ⟨d1, d2⟩ := hb.sound to ht h
    rw [show (gI b to).toNat = ((gI b to).toNat - 1) + 1 by omega] at d2
    obtain ⟨x, hx, hw⟩ := d2
    exact (n2 x hx (ha.least x (hG.at hx) _ hw).1).1
  · intro h
    rcases n1 with n1 | ⟨n1, n3, n4⟩
    · omega
    · have hw := ha.sound _ (hG.at n1) n4
      exact (hb.least to ht ((gI a (nextF a (G.getD to.toNat []))).toNat + 1) (by omega) ⟨_, n1, hw⟩).1
theorem dist_zero {G : List (List Int)} {to : Int} {a : List Int} (ha : Dist G to a) {x : Int} (hx : inG G x) (h : gI a x = 0) : x = to := by
  have := ha.sound x hx (by omega)
  rw [h] at this
  exact this
theorem dist_to {G : List (List Int)} {to : Int} {a : List Int} (ha : Dist G to a) (ht : inG G to) : gI a to = 0 := by
  have := ha.least to ht 0 rfl
  omega
theorem dist_lt {G : List (List Int)} (hG : Gr G) {to : Int} {a : List Int} (ht : inG G to) (ha : Dist G to a) {x : Int} (hx : inG G x) : gI a x < G.length := by
  by_cases h : 0 ≤ gI a x
  · have hw := ha.sound x hx h
    obtain ⟨L, h1, h2, h3⟩ := walk_short hG ht.1 ht.2 _ x hx.1 hx.2 hw
    have := ha.least x hx L h3
    omega
  · omega
theorem next_to {G : List (List Int)} (hG : Gr G) {to : Int} {a : List Int} (ht : inG G to) (ha : Dist G to a) (at_ : Int) : nextF a (G.getD at_.toNat []) = to ↔ to ∈ G.getD at_.toNat [] := by
  have hl : ∀ x ∈ G.getD at_.toNat [], 0 ≤ x := fun x hx => (hG.at hx).1
  obtain ⟨n1, n2⟩ := next_ok (far := a) hl
  constructor
  · intro h
    rcases n1 with n1 | ⟨n1, n3, n4⟩
    · have := ht.1
      omega
    · rw [← h]; exact n1
  · intro h
    have h0 := dist_to ha ht
    obtain ⟨c1, c2⟩ := n2 to h (by omega)
    rcases n1 with n1 | ⟨n1, n3, n4⟩
    · omega
    · exact dist_zero ha (hG.at n1) (by omega)
theorem next_less {G : List (List Int)} (hG : Gr G) {to : Int} {a : List Int} (ht : inG G to) (ha : Dist G to a) {at_ : Int} (hat : inG G at_) (hne : at_ ≠ to) (h0 : 0 ≤ gI a at_) :
    inG G (nextF a (G.getD at_.toNat [])) ∧ 0 ≤ gI a (nextF a (G.getD at_.toNat [])) ∧ gI a (nextF a (G.getD at_.toNat [])) < gI a at_ := by
  have hl : ∀ x ∈ G.getD at_.toNat [], 0 ≤ x := fun x hx => (hG.at hx).1
  obtain ⟨n1, n2⟩ := next_ok (far := a) hl
  have hw := ha.sound at_ hat h0
  have h1 : 1 ≤ gI a at_ := by
    by_cases h : gI a at_ = 0
    · exact absurd (dist_zero ha hat h) hne
    · omega
  rw [show (gI a at_).toNat = ((gI a at_).toNat - 1) + 1 by omega] at hw
  obtain ⟨x, hx, hw⟩ := hw
  obtain ⟨c1, c2⟩ := ha.least x (hG.at hx) _ hw
  obtain ⟨d1, d2⟩ := n2 x hx c1
  rcases n1 with n1 | ⟨n1, n3, n4⟩
  · omega
  · exact ⟨hG.at n1, n4, by omega⟩
def ringW (G : List (List Int)) (far : List Int) (first : Int) : Nat → Int → List Int → List Int
  | 0, _, out => out
  | f + 1, at_, out => if first ∈ G.getD at_.toNat [] then out else ringW G far first f (nextF far (G.getD at_.toNat [])) (out ++ [nextF far (G.getD at_.toNat [])])
def ringAt (G : List (List Int)) (k : Int) : List Int := ringW G (farS G k) k 20 k [k]
def hasRing (G : List (List Int)) (k : Int) : Bool := decide (0 ≤ nextF (farS G k) (G.getD k.toNat []))
end Go.TM
end
section
set_option maxHeartbeats 8000000
set_option maxRecDepth 20000
namespace Go.TM.Tryz
open Go Go.TM Go.Proofs
def isN (n : Int) (x : Int) : Bool := decide (x = n)
theorem any_isN (xs : List Int) (n : Int) : xs.any (isN n) = decide (n ∈ xs) := by
  rw [Bool.eq_iff_iff]
  simp only [List.any_eq_true, isN, decide_eq_true_eq]
  constructor
  · rintro ⟨x, h, rfl⟩
    exact h
  · exact fun h => ⟨n, h, rfl⟩
theorem inj_in {β : Type} (out : List Int × Int → β) : ∀ a b : List Int × Int, [V.lst (a.1.map (V.int .i64)), .int .i64 a.2] = [V.lst (b.1.map (V.int .i64)), .int .i64 b.2] → out a = out b := by
  rintro ⟨a, c⟩ ⟨b, d⟩ h
  simp only [List.cons.injEq, and_true, V.lst.injEq, V.int.injEq, true_and] at h
  rw [ints_inj h.1, h.2]
theorem f113_ok (xs : List Int) (n : Int) (h : xs.length ≤ 1048576) : FunOK Tryz.prog 113 [.lst (xs.map (V.int .i64)), .int .i64 n] false (.int .i64 (fstI (isN n) xs)) := by
  refine fun_ok (mkE_ok zmix (cl := []) (gl := []) [] trivial trivial) Tryz.func113 (by kernel_rfl) ?_
  refine FunW_run _ _ rfl rfl ?_
  simp
  refine lp_list xs (fun i t => t.e 0 = .lst (xs.map (V.int .i64)) ∧ t.e 1 = .int .i64 n ∧ t.e 7 = .int .i64 xs.length ∧ t.e 8 = .int .i64 i ∧ anyI (isN n) xs i = false) ?_ ?_ ?_
  · simp
  · rintro c' L hL i t x hx hi ih ⟨h0, h1, h7, h8, hall⟩
    have hw := wrI (i := i) (by omega)
    by_cases hc : n = x
    · have := fst_yes (p := isN n) hx (by simp [isN, hc]) hall
      simp [-getElem?_pos, gcz, gcs, h0, h1, h7, h8, hL, hi, hx, hc]
      rw [hc] at this
      exact this.symm
    · have hc' : ¬ x = n := fun e => hc e.symm
      simp [-getElem?_pos, gcz, gcs, h0, h1, h7, h8, hL, hi, hx, hc]
      refine ih _ ?_
      simp [h0, h1, h7, h8, hw, anyI_succ hx, hall, isN, hc']
  · rintro c' t ⟨h0, h1, h7, h8, hall⟩
    simp [h0, h1, h7, h8, fst_no hall]
noncomputable def c113 := ctr (fun a : List Int × Int => a.1.length ≤ 1048576) (fun a => [.lst (a.1.map (V.int .i64)), .int .i64 a.2]) (fun a => (false, .int .i64 (fstI (isN a.2) a.1)))
theorem c113_eq (xs : List Int) (n : Int) (h : xs.length ≤ 1048576) : c113 [.lst (xs.map (V.int .i64)), .int .i64 n] = some (false, .int .i64 (fstI (isN n) xs)) := ctr_eq (inj_in _) (xs, n) h rfl
theorem c113_ok : COK Tryz.prog (113, c113) := ctr_ok fun a h => f113_ok a.1 a.2 h
theorem fstI_nn {α : Type} (p : α → Bool) (xs : List α) : (0 ≤ fstI p xs) ↔ xs.any p = true := by
  unfold fstI
  split
  · rename_i h
    exact ⟨fun _ => h, fun _ => by omega⟩
  · rename_i h
    exact ⟨fun h0 => by omega, fun h0 => absurd h0 h⟩
theorem fstI_dec {α : Type} (p : α → Bool) (xs : List α) : decide (0 ≤ fstI p xs) = xs.any p := by
  rw [Bool.eq_iff_iff, decide_eq_true_eq]
  exact fstI_nn p xs
theorem f73_ok (xs : List Int) (n : Int) (h : xs.length ≤ 1048576) : FunOK Tryz.prog 73 [.lst (xs.map (V.int .i64)), .int .i64 n] false (.bool (decide (n ∈ xs))) := by
  refine fun_ok (mkE_ok zmix (cl := [(113, c113)]) (gl := []) [] c113_ok trivial) Tryz.func73 (by kernel_rfl) ?_
  refine FunW_run _ _ rfl rfl ?_
  have e := c113_eq xs n h
  have e2 := fstI_dec (isN n) xs
  rw [any_isN] at e2
  generalize fstI (isN n) xs = k at *
  simp [e, e2]
noncomputable def c73 := ctr (fun a : List Int × Int => a.1.length ≤ 1048576) (fun a => [.lst (a.1.map (V.int .i64)), .int .i64 a.2]) (fun a => (false, .bool (decide (a.2 ∈ a.1))))
theorem c73_eq (xs : List Int) (n : Int) (h : xs.length ≤ 1048576) : c73 [.lst (xs.map (V.int .i64)), .int .i64 n] = some (false, .bool (decide (n ∈ xs))) := ctr_eq (inj_in _) (xs, n) h rfl
theorem c73_ok : COK Tryz.prog (73, c73) := ctr_ok fun a h => f73_ok a.1 a.2 h
end Go.TM.Tryz
end
