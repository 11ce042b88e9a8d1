/- A part of the proof: RU, RV, ZMark, RW, D7, RX, ZSz, ZEq, ZHeld, RY, UA. -/
import Derived.Test.YtgpkbmekdmpgoaaGreatDoorK15
set_option linter.unusedVariables false
set_option linter.unusedSimpArgs false
section
set_option maxHeartbeats 8000000
set_option maxRecDepth 20000
namespace Go.TM.Tryz
open Go Go.TM Go.Proofs
noncomputable def c60 := ctr (fun l : List Src => SrcsOk l) (fun l => [.lst (l.map Src.v)]) (fun l => (true, .inl 1 (needsS l)))
theorem c60_eq (l : List Src) (h : SrcsOk l) : c60 [.lst (l.map Src.v)] = some (true, .inl 1 (needsS l)) := ctr_eq (injl Src.v_inj _) l h rfl
theorem c60_ok : COK Tryz.prog (60, c60) := ctr_ok fun l h => f60_ok l h fun x _ => impS_len x.text
end Go.TM.Tryz
end
section
set_option maxHeartbeats 4000000
set_option maxRecDepth 20000
namespace Go.TM.Tryz
open Go Go.TM Go.Proofs
theorem f29_ok (xs : List Int) (hlen : xs.length ≤ 1048576) : FunOK Tryz.prog 29 [.lst (xs.map (V.int .i64)), .lst (xs.map (V.int .i64))] false (.bool true) := by
  refine fun_ok (mkE_ok zmix (cl := []) (gl := []) [] trivial trivial) Tryz.func29 (by kernel_rfl) ?_
  refine FunW_run _ _ rfl rfl ?_
  simp
  refine lp_list xs (fun i t => t.e 0 = .lst (xs.map (V.int .i64)) ∧ t.e 1 = .lst (xs.map (V.int .i64)) ∧ t.e 5 = .int .i64 i) ?_ ?_ ?_
  · simp
  · rintro c' L hL i t x hx hi ih ⟨g0, g1, g5⟩
    have hw := wrI (i := i) (by omega)
    simp [-getElem?_pos, gcz, gcs, g0, g1, g5, hL, hx, hi]
    refine ih _ ?_
    simp [-getElem?_pos, gcz, gcs, g0, g1, g5, hL, hx, hi, hw]
  · rintro c' t ⟨g0, g1, g5⟩
    simp [g0, g1, g5]
noncomputable def c29 := ctr (fun xs : List Int => xs.length ≤ 1048576) (fun xs => [.lst (xs.map (V.int .i64)), .lst (xs.map (V.int .i64))]) (fun _ => (false, .bool true))
theorem c29_eq (xs : List Int) (h : xs.length ≤ 1048576) : c29 [.lst (xs.map (V.int .i64)), .lst (xs.map (V.int .i64))] = some (false, .bool true) := ctr_eq (fun _ _ _ => rfl) xs h rfl
theorem c29_ok : COK Tryz.prog (29, c29) := ctr_ok fun xs h => f29_ok xs h
@[simp] def intsV (xs : List Int) : V := .lst (xs.map (V.int .i64))
end Go.TM.Tryz
end
section
set_option maxHeartbeats 2000000
namespace Go.TM.Tryz
open Go Go.TM Go.Proofs
theorem f57_ok (k : Int) (h : k ≤ 4611686018427387904) : FunOK Tryz.prog 57 [.int .i64 k] false (.str (mtext k)) := by
  refine fun_ok (mkE_ok zmix (cl := []) (gl := []) [] trivial trivial) Tryz.func57 (by kernel_rfl) ?_
  refine FunW_run _ _ rfl rfl ?_
  by_cases h0 : k ≤ 0
  · simp [h0, mtext]
  · simp [h0]
    refine lp_ind (fun m t => ∃ (n : Nat) (out : ByteArray), m = n ∧ t.e 0 = .int .i64 n ∧ t.e 3 = .str out ∧ mdig n ++ out = mdig k.toNat ∧ out.size + n ≤ k) k.toNat ⟨k.toNat, ⟨#[]⟩, rfl, ?_⟩ ?_
    · have e : ((k.toNat : Nat) : Int) = k := by omega
      simp [e, ba_append_nil, ba_nil_size]
    rintro c' L hL m t ih ⟨n, out, rfl, h1, h3, hout, hsz⟩
    by_cases hn : m = 0
    · subst hn
      have hb : 1 + out.size ≤ 9223372036854775807 := by omega
      rw [mdig_zero, ba_nil_append] at hout
      subst hout
      simp [h1, h3, hL, ba_one_size, hb, mtext, h0]
    · have hn' : 0 < m := by omega
      have ht : Int.tdiv (m : Int) 10 = ((m / 10 : Nat) : Int) := by
        rw [Int.tdiv_eq_ediv_of_nonneg (by omega)]
        omega
      have hb : 1 + out.size ≤ 9223372036854775807 := by omega
      have hw : IntKind.i64.wrap ((m : Int) / 10) = (m : Int) / 10 := wrap64 (by omega) (by omega)
      simp [h1, h3, hL, hn', ht, ba_one_size, hb]
      refine ih (m / 10) _ (by omega) ⟨m / 10, _, rfl, by simp [hw], by simp; rfl, ?_, ?_⟩
      · rw [← ByteArray.append_assoc, ← mdig_succ hn, hout]
      · rw [ByteArray.size_append, ba_one_size]
        omega
noncomputable def c57 := ctr (fun k : Int => k ≤ 4611686018427387904) (fun k => [.int .i64 k]) (fun k => (false, .str (mtext k)))
theorem c57_eq (k : Int) (h : k ≤ 4611686018427387904) : c57 [.int .i64 k] = some (false, .str (mtext k)) := ctr_eq (by simp) k h rfl
theorem c57_ok : COK Tryz.prog (57, c57) := ctr_ok fun k h => f57_ok k h
theorem f24_ok (xs : List Src) (k : Int) (h0 : 0 ≤ k) (h1 : k + cnt cSrc xs ≤ 4611686018427387904) (h2 : xs.length ≤ 4611686018427387904) : GenOK Tryz.prog 24 [.inl 2 (xs.map Src.v), .int .i64 k] [] ⟨false, .int .i64 (k + cnt cSrc xs), [.inl 2 ((mkL mkSrc cSrc k xs).map Src.v)], []⟩ := by
  refine fun_okG (mkE_ok zmix (cl := [(57, c57)]) (gl := []) [] c57_ok trivial) Tryz.func24 (by kernel_rfl) ?_
  refine FunG_run _ _ rfl rfl ?_
  have hlen := h2
  simp
  refine lp_list xs (fun i t => t.e 0 = .own 0 ∧ t.e 1 = .int .i64 (k + pre cSrc xs i) ∧ t.e 5 = .int .i64 i ∧ t.nb = 0 ∧ 1 ≤ t.nt ∧ t.R 0 = some ⟨2, (mpart mkSrc cSrc k xs i).map Src.v, true⟩) ?_ ?_ ?_
  · simp [pre_zero, mpart_zero]
  · rintro c' L hL i t x hx hi ih ⟨g0, g1, g5, gnb, gnt, gR⟩
    have hw := wrI (i := i) (by omega)
    have hp := pre_succ cSrc hx
    have hp2 := pre_le cSrc xs (i + 1)
    have hc : cSrc x = 2 := rfl
    have hcnt : (xs.map cSrc).sum = cnt cSrc xs := rfl
    have e0 := c57_eq (k + (pre cSrc xs i : Nat)) (by omega)
    have w0 : IntKind.i64.wrap (k + (pre cSrc xs i : Nat) + 1) = k + (pre cSrc xs i : Nat) + 1 := wrap64 (by omega) (by omega)
    have e1 := c57_eq (k + (pre cSrc xs i : Nat) + 1) (by omega)
    have w1 : IntKind.i64.wrap (k + (pre cSrc xs i : Nat) + 1 + 1) = k + (pre cSrc xs i : Nat) + 1 + 1 := wrap64 (by omega) (by omega)
    have hx' := mpart_get (f := mkSrc) (c := cSrc) (k := k) hx
    simp [-getElem?_pos, gcz, gcs, g0, g1, g5, gnb, gR, hL, hx', hi, e0, w0, e1, w1]
    refine ih _ ?_
    simp [-getElem?_pos, gcz, gcs, g0, g1, g5, gnb, gR, hL, hx', hi, e0, w0, e1, w1, hp, hc, hw]
    first
      | exact ⟨by omega, by omega, mpart_setv hx rfl⟩
      | exact ⟨by omega, mpart_setv hx rfl⟩
      | exact mpart_setv hx rfl
  · rintro c' t ⟨g0, g1, g5, gnb, gnt, gR⟩
    simp only [pre_all] at g1
    simp [g0, g1, g5, gnb, gR, mpart_all, cnt]
noncomputable def c24 := ctrG (fun a : List Src × Int => 0 ≤ a.2 ∧ a.2 + cnt cSrc a.1 ≤ 4611686018427387904 ∧ (a.1.length ≤ 4611686018427387904)) (fun a => ([.inl 2 (a.1.map Src.v), .int .i64 a.2], [])) (fun a => ⟨false, .int .i64 (a.2 + cnt cSrc a.1), [.inl 2 ((mkL mkSrc cSrc a.2 a.1).map Src.v)], []⟩)
theorem c24_eq (xs : List Src) (k : Int) (h0 : 0 ≤ k) (h1 : k + cnt cSrc xs ≤ 4611686018427387904) (h2 : xs.length ≤ 4611686018427387904) : c24 [.inl 2 (xs.map Src.v), .int .i64 k] [] = some ⟨false, .int .i64 (k + cnt cSrc xs), [.inl 2 ((mkL mkSrc cSrc k xs).map Src.v)], []⟩ := ctrG_eq (injG Src.v_inj _) (xs, k) ⟨h0, h1, h2⟩ rfl
theorem c24_ok : GOK Tryz.prog (24, [true], c24) := ctrG_ok fun a h => f24_ok a.1 a.2 h.1 h.2.1 h.2.2
end Go.TM.Tryz
end
section
set_option maxHeartbeats 4000000
set_option maxRecDepth 20000
namespace Go.TM.Tryz
open Go Go.TM Go.Proofs
def mkNum (k : Int) (_ : Int) : Int := k
def cNum (_ : Int) : Nat := 1
theorem f30_ok (xs : List Int) (k : Int) (h0 : 0 ≤ k) (h1 : k + cnt cNum xs ≤ 4611686018427387904) (h2 : xs.length ≤ 4611686018427387904) : GenOK Tryz.prog 30 [.inl 1 (xs.map (V.int .i64)), .int .i64 k] [] ⟨false, .int .i64 (k + cnt cNum xs), [.inl 1 ((mkL mkNum cNum k xs).map (V.int .i64))], []⟩ := by
  refine fun_okG (mkE_ok zmix (cl := []) (gl := []) [] trivial trivial) Tryz.func30 (by kernel_rfl) ?_
  refine FunG_run _ _ rfl rfl ?_
  have hlen := h2
  simp
  refine lp_list xs (fun i t => t.e 0 = .own 0 ∧ t.e 1 = .int .i64 (k + pre cNum xs i) ∧ t.e 5 = .int .i64 i ∧ t.nb = 0 ∧ 1 ≤ t.nt ∧ t.R 0 = some ⟨1, (mpart mkNum cNum k xs i).map (V.int .i64), true⟩) ?_ ?_ ?_
  · simp [pre_zero, mpart_zero]
  · rintro c' L hL i t x hx hi ih ⟨g0, g1, g5, gnb, gnt, gR⟩
    have hw := wrI (i := i) (by omega)
    have hp := pre_succ cNum hx
    have hp2 := pre_le cNum xs (i + 1)
    have hc : cNum x = 1 := rfl
    have hcnt : (xs.map cNum).sum = cnt cNum xs := rfl
    have w0 : IntKind.i64.wrap (k + (pre cNum xs i : Nat) + 1) = k + (pre cNum xs i : Nat) + 1 := wrap64 (by omega) (by omega)
    have hx' := mpart_get (f := mkNum) (c := cNum) (k := k) hx
    simp [-getElem?_pos, gcz, gcs, g0, g1, g5, gnb, gR, hL, hx', hi, w0]
    refine ih _ ?_
    simp [-getElem?_pos, gcz, gcs, g0, g1, g5, gnb, gR, hL, hx', hi, w0, hp, hc, hw]
    first
      | exact ⟨by omega, by omega, mpart_setv hx rfl⟩
      | exact ⟨by omega, mpart_setv hx rfl⟩
      | exact mpart_setv hx rfl
  · rintro c' t ⟨g0, g1, g5, gnb, gnt, gR⟩
    simp only [pre_all] at g1
    simp [g0, g1, g5, gnb, gR, mpart_all, cnt]
noncomputable def c30 := ctrG (fun a : List Int × Int => 0 ≤ a.2 ∧ a.2 + cnt cNum a.1 ≤ 4611686018427387904 ∧ (a.1.length ≤ 4611686018427387904)) (fun a => ([.inl 1 (a.1.map (V.int .i64)), .int .i64 a.2], [])) (fun a => ⟨false, .int .i64 (a.2 + cnt cNum a.1), [.inl 1 ((mkL mkNum cNum a.2 a.1).map (V.int .i64))], []⟩)
theorem c30_eq (xs : List Int) (k : Int) (h0 : 0 ≤ k) (h1 : k + cnt cNum xs ≤ 4611686018427387904) (h2 : xs.length ≤ 4611686018427387904) : c30 [.inl 1 (xs.map (V.int .i64)), .int .i64 k] [] = some ⟨false, .int .i64 (k + cnt cNum xs), [.inl 1 ((mkL mkNum cNum k xs).map (V.int .i64))], []⟩ := ctrG_eq (injG intv_inj _) (xs, k) ⟨h0, h1, h2⟩ rfl
theorem c30_ok : GOK Tryz.prog (30, [true], c30) := ctrG_ok fun a h => f30_ok a.1 a.2 h.1 h.2.1 h.2.2
@[simp] def intsO (xs : List Int) : V := .inl 1 (xs.map (V.int .i64))
@[simp] theorem noLs_intsO (xs : List (List Int)) : noLs (xs.map intsO) = true := noLs_map _ (by simp) _
end Go.TM.Tryz
end
section
namespace Go.TM
open Go
theorem cnt_mk {α : Type} {mk : Int → α → α} {c : α → Nat} (h : ∀ k x, c (mk k x) = c x) : ∀ (k : Int) (xs : List α), cnt c (mkL mk c k xs) = cnt c xs
  | k, [] => rfl
  | k, x :: xs => by
    have ih := cnt_mk h (k + c x) xs
    simp only [cnt] at ih ⊢
    simp only [mkL, List.map_cons, List.sum_cons, ih, h]
noncomputable def ctrH {α : Type} (mk : Int → α → α) (c : α → Nat) (f : α → V) (p : List α → Int → Prop) : List V → Option (Bool × V) :=
  ctr (fun a : List α × Int => ∃ xs, a.1 = mkL mk c a.2 xs ∧ p xs a.2) (fun a => [.lst (a.1.map f), .int .i64 a.2]) (fun a => (false, .int .i64 (a.2 + (cnt c a.1 : Nat))))
theorem ctrH_eq {α : Type} {mk : Int → α → α} {c : α → Nat} {f : α → V} {p : List α → Int → Prop} (hc : ∀ k x, c (mk k x) = c x) (hf : Function.Injective f) (xs : List α) (k : Int) (h : p xs k) :
    ctrH mk c f p [.lst ((mkL mk c k xs).map f), .int .i64 k] = some (false, .int .i64 (k + (cnt c xs : Nat))) := by
  have h1 := ctr_eq (p := fun a : List α × Int => ∃ xs, a.1 = mkL mk c a.2 xs ∧ p xs a.2) (enc := fun a => [.lst (a.1.map f), .int .i64 a.2]) (out := fun a => (false, .int .i64 (a.2 + (cnt c a.1 : Nat)))) (injl1 hf _) (mkL mk c k xs, k) ⟨xs, rfl, h⟩ rfl
  simp only [cnt_mk hc] at h1
  exact h1
theorem ctrH_ok {α : Type} {mk : Int → α → α} {c : α → Nat} {f : α → V} {p : List α → Int → Prop} {P : Program} {n : Nat} (hc : ∀ k x, c (mk k x) = c x) (hf : ∀ xs k, p xs k → FunOK P n [.lst ((mkL mk c k xs).map f), .int .i64 k] false (.int .i64 (k + (cnt c xs : Nat)))) :
    COK P (n, ctrH mk c f p) := ctr_ok fun a h => by
  obtain ⟨zs, k⟩ := a
  obtain ⟨xs, e, h⟩ := h
  simp only at e h
  subst e
  simp only [cnt_mk hc]
  exact hf xs k h
end Go.TM
end
section
set_option maxHeartbeats 4000000
set_option maxRecDepth 20000
namespace Go.TM.Tryz
open Go Go.TM Go.Proofs
theorem f31_ok (xs : List Int) (k : Int) (h0 : 0 ≤ k) (h1 : k + cnt cNum xs ≤ 4611686018427387904) (h2 : xs.length ≤ 4611686018427387904) : FunOK Tryz.prog 31 [.lst ((mkL mkNum cNum k xs).map (V.int .i64)), .int .i64 k] false (.int .i64 (k + cnt cNum xs)) := by
  refine fun_ok (mkE_ok zmix (cl := []) (gl := []) [] trivial trivial) Tryz.func31 (by kernel_rfl) ?_
  refine FunW_run _ _ rfl rfl ?_
  have hlen := h2
  simp
  refine lp_list xs (fun i t => t.e 0 = .lst ((mkL mkNum cNum k xs).map (V.int .i64)) ∧ t.e 1 = .int .i64 (k + pre cNum xs i) ∧ t.e 5 = .int .i64 i) ?_ ?_ ?_
  · simp [pre_zero]
  · rintro c' L hL i t x hx hi ih ⟨g0, g1, g5⟩
    have hw := wrI (i := i) (by omega)
    have hp := pre_succ cNum hx
    have hp2 := pre_le cNum xs (i + 1)
    have hc : cNum x = 1 := rfl
    have hcnt : (xs.map cNum).sum = cnt cNum xs := rfl
    have w0 : IntKind.i64.wrap (k + (pre cNum xs i : Nat) + 1) = k + (pre cNum xs i : Nat) + 1 := wrap64 (by omega) (by omega)
    have hx' := mkL_get mkNum cNum k hx
    simp [-getElem?_pos, gcz, gcs, g0, g1, g5, hL, hx', hi, mkNum, w0]
    refine ih _ ?_
    simp [-getElem?_pos, gcz, gcs, g0, g1, g5, hL, hx', hi, w0, hp, hc, hw] <;> omega
  · rintro c' t ⟨g0, g1, g5⟩
    simp only [pre_all] at g1
    simp [g0, g1, g5, cnt]
noncomputable def c31 := ctrH mkNum cNum (V.int .i64) (fun xs k => 0 ≤ k ∧ k + cnt cNum xs ≤ 4611686018427387904 ∧ (xs.length ≤ 4611686018427387904))
theorem c31_eq (xs : List Int) (k : Int) (h0 : 0 ≤ k) (h1 : k + cnt cNum xs ≤ 4611686018427387904) (h2 : xs.length ≤ 4611686018427387904) : c31 [.lst ((mkL mkNum cNum k xs).map (V.int .i64)), .int .i64 k] = some (false, .int .i64 (k + cnt cNum xs)) := ctrH_eq (mk := mkNum) (c := cNum) (fun _ _ => rfl) intv_inj xs k ⟨h0, h1, h2⟩
theorem c31_ok : COK Tryz.prog (31, c31) := ctrH_ok (mk := mkNum) (c := cNum) (fun _ _ => rfl) fun xs k h => f31_ok xs k h.1 h.2.1 h.2.2
end Go.TM.Tryz
end
section
set_option maxHeartbeats 2000000
namespace Go.TM.Tryz
open Go Go.TM Go.Proofs
theorem f58_ok (x : Src) (left : Int) (h : x.lim) (h0 : 0 ≤ left) (h1 : left ≤ 1048576) : FunOK Tryz.prog 58 [x.v, .int .i64 left] false (.int .i64 (szR x.sz left)) := by
  refine fun_ok (mkE_ok zmix (cl := []) (gl := []) [] trivial trivial) Tryz.func58 (by kernel_rfl) ?_
  refine FunW_run _ _ rfl rfl ?_
  simp only [Src.lim, lim] at h
  obtain ⟨l0, l1⟩ := h
  have w0 : IntKind.i64.wrap (left - (x.name.size : Int)) = left - (x.name.size : Nat) := wrap64 (by omega) (by omega)
  by_cases a0 : left < (x.name.size : Nat)
  · have b0 : left - ((x.name.size : Nat) : Int) < 0 := by omega
    have r : szR x.sz left = -1 := szR_lt (by simp only [Src.sz]; omega)
    simp [w0, b0, r]
  have b0 : ¬ left - ((x.name.size : Nat) : Int) < 0 := by omega
  have w1 : IntKind.i64.wrap (left - ((x.name.size : Nat) : Int) - (x.text.size : Int)) = left - ((x.name.size : Nat) : Int) - (x.text.size : Nat) := wrap64 (by omega) (by omega)
  by_cases a1 : left - ((x.name.size : Nat) : Int) < (x.text.size : Nat)
  · have b1 : left - ((x.name.size : Nat) : Int) - ((x.text.size : Nat) : Int) < 0 := by omega
    have r : szR x.sz left = -1 := szR_lt (by simp only [Src.sz]; omega)
    simp [w0, b0, w1, b1, r]
  have b1 : ¬ left - ((x.name.size : Nat) : Int) - ((x.text.size : Nat) : Int) < 0 := by omega
  have r : szR x.sz left = left - ((x.name.size : Nat) : Int) - ((x.text.size : Nat) : Int) := (szR_ge (by simp only [Src.sz]; omega)).trans (by simp only [Src.sz] <;> omega)
  simp [w0, b0, w1, b1, r]
noncomputable def c58 := ctr (fun a : Src × Int => a.1.lim ∧ 0 ≤ a.2 ∧ a.2 ≤ 1048576) (fun a => [a.1.v, .int .i64 a.2]) (fun a => (false, .int .i64 (szR a.1.sz a.2)))
theorem c58_eq (x : Src) (left : Int) (h : x.lim) (h0 : 0 ≤ left) (h1 : left ≤ 1048576) : c58 [x.v, .int .i64 left] = some (false, .int .i64 (szR x.sz left)) := ctr_eq (inj1 Src.v_inj _) (x, left) ⟨h, h0, h1⟩ rfl
theorem c58_ok : COK Tryz.prog (58, c58) := ctr_ok fun a h => f58_ok a.1 a.2 h.1 h.2.1 h.2.2
theorem f18_ok (xs : List Src) (left : Int) (hlim : limL Src.lim xs) (hl0 : 0 ≤ left) (hl1 : left ≤ 1048576) : FunOK Tryz.prog 18 [.lst (xs.map Src.v), .int .i64 left] false (.int .i64 (szR (szL Src.sz xs) left)) := by
  refine fun_ok (mkE_ok zmix (cl := [(58, c58)]) (gl := []) [] c58_ok trivial) Tryz.func18 (by kernel_rfl) ?_
  refine FunW_run _ _ rfl rfl ?_
  have hlen := hlim.1
  simp only [lim] at hlen
  have hl := szL_len Src.sz xs
  have w0 : IntKind.i64.wrap (left - (xs.length : Int)) = left - xs.length := wrap64 (by omega) (by omega)
  by_cases a0 : left < xs.length
  · have b0 : left - (xs.length : Int) < 0 := by omega
    have r : szR (szL Src.sz xs) left = -1 := szR_lt (by omega)
    simp [w0, b0, r]
  have b0 : ¬ left - (xs.length : Int) < 0 := by omega
  simp [w0, b0]
  refine lp_list xs (fun i t => t.e 0 = .lst (xs.map Src.v) ∧ t.e 5 = .int .i64 i ∧ t.e 1 = .int .i64 (left - xs.length - pre Src.sz xs i) ∧ 0 ≤ left - xs.length - pre Src.sz xs i) ?_ ?_ ?_
  · simp [pre_zero]
    omega
  · rintro c' L hL i t x hx hi ih ⟨h0, h5, h1', hge⟩
    have hw := wrI (i := i) (by omega)
    have hp := pre_succ Src.sz hx
    have hp2 := pre_le Src.sz xs (i + 1)
    have w := c58_eq x (left - xs.length - pre Src.sz xs i) (hlim.2 x (List.mem_of_getElem? hx)) (by omega) (by omega)
    simp only [Src.v] at w
    by_cases a : left - xs.length - pre Src.sz xs i < (Src.sz x : Nat)
    · rw [szR_lt a] at w
      have r : szR (szL Src.sz xs) left = -1 := szR_lt (by simp only [szL]; omega)
      simp [-getElem?_pos, gcz, gcs, h0, h1', h5, hL, hx, hi, w, r]
    rw [szR_ge (Int.not_lt.1 a)] at w
    have b : ¬ left - xs.length - pre Src.sz xs i - (Src.sz x : Nat) < 0 := by omega
    simp [-getElem?_pos, gcz, gcs, h0, h1', h5, hL, hx, hi, w, b]
    refine ih _ ?_
    simp [-getElem?_pos, gcz, gcs, h0, h1', h5, hL, hx, hi, hw, hp]
    omega
  · rintro c' t ⟨h0, h5, h1', hge⟩
    rw [pre_all] at h1' hge
    have r : szR (szL Src.sz xs) left = left - xs.length - ((xs.map Src.sz).sum : Nat) := by rw [szR_ge (by simp only [szL]; omega)]; simp only [szL]; omega
    simp [h0, h5, h1', r]
noncomputable def c18 := ctr (fun a : List Src × Int => limL Src.lim a.1 ∧ 0 ≤ a.2 ∧ a.2 ≤ 1048576) (fun a => [.lst (a.1.map Src.v), .int .i64 a.2]) (fun a => (false, .int .i64 (szR (szL Src.sz a.1) a.2)))
theorem c18_eq (xs : List Src) (left : Int) (h : limL Src.lim xs) (h0 : 0 ≤ left) (h1 : left ≤ 1048576) : c18 [.lst (xs.map Src.v), .int .i64 left] = some (false, .int .i64 (szR (szL Src.sz xs) left)) := ctr_eq (injl1 Src.v_inj _) (xs, left) ⟨h, h0, h1⟩ rfl
theorem c18_ok : COK Tryz.prog (18, c18) := ctr_ok fun a h => f18_ok a.1 a.2 h.1 h.2.1 h.2.2
end Go.TM.Tryz
end
section
set_option maxHeartbeats 2000000
namespace Go.TM.Tryz
open Go Go.TM Go.Proofs
theorem f63_ok (x : Src) (h : x.lim) : FunOK Tryz.prog 63 [x.v, x.v] false (.bool true) := by
  refine fun_ok (mkE_ok zmix (cl := []) (gl := []) [] trivial trivial) Tryz.func63 (by kernel_rfl) ?_
  refine FunW_run _ _ rfl rfl ?_
  simp []
noncomputable def c63 := ctr (fun x : Src => x.lim) (fun x => [x.v, x.v]) (fun _ => (false, .bool true))
theorem c63_eq (x : Src) (h : x.lim) : c63 [x.v, x.v] = some (false, .bool true) := ctr_eq (fun _ _ _ => rfl) x h rfl
theorem c63_ok : COK Tryz.prog (63, c63) := ctr_ok fun x h => f63_ok x h
theorem f23_ok (xs : List Src) (hlim : limL Src.lim xs) : FunOK Tryz.prog 23 [.lst (xs.map Src.v), .lst (xs.map Src.v)] false (.bool true) := by
  refine fun_ok (mkE_ok zmix (cl := [(63, c63)]) (gl := []) [] c63_ok trivial) Tryz.func23 (by kernel_rfl) ?_
  refine FunW_run _ _ rfl rfl ?_
  have hlen := hlim.1
  simp only [lim] at hlen
  simp
  refine lp_list xs (fun i t => t.e 0 = .lst (xs.map Src.v) ∧ t.e 1 = .lst (xs.map Src.v) ∧ t.e 5 = .int .i64 i) ?_ ?_ ?_
  · simp
  · rintro c' L hL i t x hx hi ih ⟨g0, g1, g5⟩
    have hw := wrI (i := i) (by omega)
    have e := c63_eq x (hlim.2 x (List.mem_of_getElem? hx))
    simp only [Src.v] at e
    simp [-getElem?_pos, gcz, gcs, g0, g1, g5, hL, hx, hi, e]
    refine ih _ ?_
    simp [-getElem?_pos, gcz, gcs, g0, g1, g5, hL, hx, hi, hw]
  · rintro c' t ⟨g0, g1, g5⟩
    simp [g0, g1, g5]
noncomputable def c23 := ctr (fun xs : List Src => limL Src.lim xs) (fun xs => [.lst (xs.map Src.v), .lst (xs.map Src.v)]) (fun _ => (false, .bool true))
theorem c23_eq (xs : List Src) (h : limL Src.lim xs) : c23 [.lst (xs.map Src.v), .lst (xs.map Src.v)] = some (false, .bool true) := ctr_eq (fun _ _ _ => rfl) xs h rfl
theorem c23_ok : COK Tryz.prog (23, c23) := ctr_ok fun xs h => f23_ok xs h
end Go.TM.Tryz
end
section
set_option maxHeartbeats 2000000
namespace Go.TM.Tryz
open Go Go.TM Go.Proofs
end Go.TM.Tryz
end
section
set_option maxHeartbeats 16000000
set_option maxRecDepth 20000
namespace Go.TM.Tryz
open Go Go.TM Go.Proofs
noncomputable def rowsN (l : List Src) : List (List Int) := if goodL l = true then l.map (rowI l) else []
theorem rowsI_eq (l : List Src) : (if goodLI l = true then needsI l else []) = (rowsN l).map intsO := by
  unfold rowsN
  rw [goodL_eq]
  split
  · unfold needsI
    rw [List.map_map]
    rfl
  · rfl
theorem norms_intsO (xs : List (List Int)) : norms (xs.map intsO) = xs.map intsV := by
  rw [norms_map, List.map_map]
  refine List.map_congr_left fun x hx => ?_
  simp [norm]
end Go.TM.Tryz
end
section
set_option maxHeartbeats 16000000
set_option maxRecDepth 20000
namespace Go.TM
open Go
theorem GenOK.low {P : Program} {f : FuncId} {args cs : List V} {r : V} {outs boxes : List V} (h : GenOK P f args cs ⟨true, r, outs, boxes⟩) (h1 : noL r = true) (h2 : noLs outs = true) : GenOK P f args cs ⟨false, r, outs, boxes⟩ where
  has := h.has
  calls M W vs hM hv := (h.calls M W vs hM hv).mono fun e W' ⟨v, M', s', sv, e1, p⟩ => ⟨v, M', s', sv, e1, ⟨p.rel, p.mem, p.evo, p.nodup, p.bnodup, fun _ => ⟨h1, h2⟩, p.hasB, p.outs, p.boxes, p.res⟩⟩
theorem asc_len : ∀ {l : List Int} {a b : Int}, a ≤ b → Asc l → (∀ x ∈ l, a ≤ x ∧ x < b) → (l.length : Int) ≤ b - a
  | [], a, b, hab, _, _ => by simp; omega
  | x :: xs, a, b, hab, h, hx => by
    have h0 := hx x (by simp)
    have := asc_len (l := xs) (a := x + 1) (b := b) (by omega) h.2 fun y hy => ⟨by have := h.1 y hy; omega, (hx y (by simp [hy])).2⟩
    simp only [List.length_cons]
    omega
def Gr (G : List (List Int)) : Prop := G.length ≤ 8 ∧ ∀ r ∈ G, Asc r ∧ ∀ x ∈ r, 0 ≤ x ∧ x < G.length
theorem Gr.len {G : List (List Int)} (h : Gr G) : ∀ r ∈ G, r.length ≤ 8 := fun r hr => by
  have h1 := asc_len (l := r) (a := 0) (b := G.length) (by omega) (h.2 r hr).1 (h.2 r hr).2
  have := h.1
  omega
end Go.TM
namespace Go.TM.Tryz
open Go Go.TM Go.Proofs
theorem fstI_lt {α : Type} (p : α → Bool) (l : List α) : fstI p l < l.length ∨ fstI p l = -1 := by
  unfold fstI
  split
  · rename_i h
    left
    have h2 : l.findIdx p < l.length := List.findIdx_lt_length.2 (by simpa using h)
    omega
  · exact .inr rfl
theorem nums_in (l : List Src) : ∀ (ns : List ByteArray) (B : List Int × Bool), Asc B.1 → (∀ x ∈ B.1, 0 ≤ x ∧ x < l.length) → Asc (ns.foldl (stepN l) B).1 ∧ ∀ x ∈ (ns.foldl (stepN l) B).1, 0 ≤ x ∧ x < l.length
  | [], B, h, he => ⟨h, he⟩
  | n :: ns, B, h, he => by
    simp only [List.foldl_cons]
    unfold stepN
    by_cases hk : 0 ≤ fstI (namIs n) l
    · rw [if_pos hk]
      refine nums_in l ns _ (asc_put h) fun x hx => ?_
      rcases mem_put.1 hx with hx | hx
      · exact he x hx
      · subst hx
        rcases fstI_lt (namIs n) l with h1 | h1
        · exact ⟨hk, h1⟩
        · omega
    · rw [if_neg hk]
      exact nums_in l ns _ h he
theorem rowsN_gr (l : List Src) : Gr (rowsN l) := by
  unfold rowsN
  split
  · rename_i h
    refine ⟨?_, fun r hr => ?_⟩
    · unfold goodL at h
      simp at h
      simp
      exact h.2
    · obtain ⟨x, _, rfl⟩ := List.mem_map.1 hr
      rw [row_eq, List.length_map]
      exact nums_in l _ ([], false) trivial fun x hx => by cases hx
  · exact ⟨by simp, fun r hr => by cases hr⟩
theorem intsV_inj : Function.Injective intsV := fun a b h => by
  simp only [intsV, V.lst.injEq] at h
  exact ints_inj h
theorem srcsOk_of {l : List Src} (h : szL Src.sz l ≤ 1048576) : SrcsOk l := by
  have hlen := szL_len Src.sz l
  refine ⟨by omega, fun t ht => ?_⟩
  obtain ⟨i, hi⟩ := List.getElem?_of_mem ht
  have := szL_get (f := Src.sz) hi
  simp only [Src.sz] at this
  exact ⟨by simp only [lim]; omega, by omega⟩
end Go.TM.Tryz
end
