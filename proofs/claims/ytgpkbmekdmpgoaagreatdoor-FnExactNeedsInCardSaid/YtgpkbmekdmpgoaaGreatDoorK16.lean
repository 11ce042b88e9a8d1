/- The row: FnExactNeedsIn. -/
import Derived.Test.YtgpkbmekdmpgoaaGreatDoorK15
import Derived.ProofKit
import Derived.OpenShut
import Derived.LaidMore
import Derived.Lay
import Derived.SevenTiedAt
import Derived.Stop.Joined
import Derived.Test.YtgpkbmekdmpgoaaGreatDoorRows
import Derived.Test.YtgpkbmekdmpgoaaGreatDoorCards
import Derived.Test.YtgpkbmekdmpgoaaGreatDoorTie
set_option linter.unusedVariables false
set_option linter.unusedSimpArgs false
section
set_option maxHeartbeats 8000000
set_option maxRecDepth 20000
namespace Go.TM.Tryz
open Go Go.TM Go.Proofs
noncomputable def c60 := ctr (fun l : List Src => SrcsOk l) (fun l => [.lst (l.map Src.v)]) (fun l => (true, .inl 1 (needsS l)))
theorem c60_eq (l : List Src) (h : SrcsOk l) : c60 [.lst (l.map Src.v)] = some (true, .inl 1 (needsS l)) := ctr_eq (injl Src.v_inj _) l h rfl
theorem c60_ok : COK Tryz.prog (60, c60) := ctr_ok fun l h => f60_ok l h fun x _ => impS_len x.text
noncomputable def c62 := ctr (fun l : List Src => SrcsOk l) (fun l => [.lst (l.map Src.v)]) (fun l => (true, .tup [.inl 1 (if goodLI l = true then needsI l else []), .bool (goodLI l)]))
theorem c62_eq (l : List Src) (h : SrcsOk l) : c62 [.lst (l.map Src.v)] = some (true, .tup [.inl 1 (if goodLI l = true then needsI l else []), .bool (goodLI l)]) := ctr_eq (injl Src.v_inj _) l h rfl
theorem c62_ok : COK Tryz.prog (62, c62) := ctr_ok fun l h => f62_ok l h fun x _ => by rw [imp_eq]; exact impS_len x.text
theorem f21_ok (l : List Src) (h : SrcsOk l) : FunOK Tryz.prog 21 [.lst (l.map Src.v)] true (.tup [.inl 1 (if goodLI l = true then needsI l else []), .bool (goodLI l)]) := by
  refine fun_ok (mkE_ok zmix (cl := [(62, c62)]) (gl := []) [] c62_ok trivial) Tryz.func21 (by kernel_rfl) ?_
  refine FunW_run _ _ rfl rfl ?_
  have e := c62_eq l h
  generalize (if goodLI l = true then needsI l else []) = xs at *
  simp [e]
theorem f19_ok (l : List Src) (h : SrcsOk l) : FunOK Tryz.prog 19 [.lst (l.map Src.v)] true (.tup [.inl 1 (if goodL l = true then needsS l else []), .bool (goodL l)]) := by
  refine fun_ok (mkE_ok zmix (cl := [(59, c59), (60, c60)]) (gl := []) [] ⟨c59_ok, c60_ok⟩ trivial) Tryz.func19 (by kernel_rfl) ?_
  refine FunW_run _ _ rfl rfl ?_
  have e := c59_eq l h
  have e2 := c60_eq l h
  cases hg : goodL l with
  | true =>
    rw [hg] at e
    simp [e, e2]
  | false =>
    rw [hg] at e
    simp [e, e2]
end Go.TM.Tryz
end
section
set_option maxHeartbeats 4000000
set_option maxRecDepth 20000
namespace Go.TM.Tryz
open Go Go.TM Go.Proofs
theorem f29_ok (xs : List Int) (hlen : xs.length ≤ 1048576) : FunOK Tryz.prog 29 [.lst (xs.map (V.int .i64)), .lst (xs.map (V.int .i64))] false (.bool true) := by
  refine fun_ok (mkE_ok zmix (cl := []) (gl := []) [] trivial trivial) Tryz.func29 (by kernel_rfl) ?_
  refine FunW_run _ _ rfl rfl ?_
  simp
  refine lp_list xs (fun i t => t.e 0 = .lst (xs.map (V.int .i64)) ∧ t.e 1 = .lst (xs.map (V.int .i64)) ∧ t.e 5 = .int .i64 i) ?_ ?_ ?_
  · simp
  · rintro c' L hL i t x hx hi ih ⟨g0, g1, g5⟩
    have hw := wrI (i := i) (by omega)
    simp [-getElem?_pos, gcz, gcs, g0, g1, g5, hL, hx, hi]
    refine ih _ ?_
    simp [-getElem?_pos, gcz, gcs, g0, g1, g5, hL, hx, hi, hw]
  · rintro c' t ⟨g0, g1, g5⟩
    simp [g0, g1, g5]
noncomputable def c29 := ctr (fun xs : List Int => xs.length ≤ 1048576) (fun xs => [.lst (xs.map (V.int .i64)), .lst (xs.map (V.int .i64))]) (fun _ => (false, .bool true))
theorem c29_eq (xs : List Int) (h : xs.length ≤ 1048576) : c29 [.lst (xs.map (V.int .i64)), .lst (xs.map (V.int .i64))] = some (false, .bool true) := ctr_eq (fun _ _ _ => rfl) xs h rfl
theorem c29_ok : COK Tryz.prog (29, c29) := ctr_ok fun xs h => f29_ok xs h
@[simp] def intsV (xs : List Int) : V := .lst (xs.map (V.int .i64))
theorem f22_ok (xs : List (List Int)) (hlen : xs.length ≤ 1048576) (hx : ∀ x ∈ xs, x.length ≤ 1048576) : FunOK Tryz.prog 22 [.lst (xs.map intsV), .lst (xs.map intsV)] false (.bool true) := by
  refine fun_ok (mkE_ok zmix (cl := [(29, c29)]) (gl := []) [] c29_ok trivial) Tryz.func22 (by kernel_rfl) ?_
  refine FunW_run _ _ rfl rfl ?_
  simp
  refine lp_list xs (fun i t => t.e 0 = .lst (xs.map intsV) ∧ t.e 1 = .lst (xs.map intsV) ∧ t.e 5 = .int .i64 i) ?_ ?_ ?_
  · simp
  · rintro c' L hL i t x hx' hi ih ⟨g0, g1, g5⟩
    have hw := wrI (i := i) (by omega)
    have e := c29_eq x (hx x (List.mem_of_getElem? hx'))
    simp [-getElem?_pos, gcz, gcs, g0, g1, g5, hL, hx', hi, e]
    refine ih _ ?_
    simp [-getElem?_pos, gcz, gcs, g0, g1, g5, hL, hx', hi, hw]
  · rintro c' t ⟨g0, g1, g5⟩
    simp [g0, g1, g5]
end Go.TM.Tryz
end
section
set_option maxHeartbeats 2000000
namespace Go.TM.Tryz
open Go Go.TM Go.Proofs
theorem f57_ok (k : Int) (h : k ≤ 4611686018427387904) : FunOK Tryz.prog 57 [.int .i64 k] false (.str (mtext k)) := by
  refine fun_ok (mkE_ok zmix (cl := []) (gl := []) [] trivial trivial) Tryz.func57 (by kernel_rfl) ?_
  refine FunW_run _ _ rfl rfl ?_
  by_cases h0 : k ≤ 0
  · simp [h0, mtext]
  · simp [h0]
    refine lp_ind (fun m t => ∃ (n : Nat) (out : ByteArray), m = n ∧ t.e 0 = .int .i64 n ∧ t.e 3 = .str out ∧ mdig n ++ out = mdig k.toNat ∧ out.size + n ≤ k) k.toNat ⟨k.toNat, ⟨#[]⟩, rfl, ?_⟩ ?_
    · have e : ((k.toNat : Nat) : Int) = k := by omega
      simp [e, ba_append_nil, ba_nil_size]
    rintro c' L hL m t ih ⟨n, out, rfl, h1, h3, hout, hsz⟩
    by_cases hn : m = 0
    · subst hn
      have hb : 1 + out.size ≤ 9223372036854775807 := by omega
      rw [mdig_zero, ba_nil_append] at hout
      subst hout
      simp [h1, h3, hL, ba_one_size, hb, mtext, h0]
    · have hn' : 0 < m := by omega
      have ht : Int.tdiv (m : Int) 10 = ((m / 10 : Nat) : Int) := by
        rw [Int.tdiv_eq_ediv_of_nonneg (by omega)]
        omega
      have hb : 1 + out.size ≤ 9223372036854775807 := by omega
      have hw : IntKind.i64.wrap ((m : Int) / 10) = (m : Int) / 10 := wrap64 (by omega) (by omega)
      simp [h1, h3, hL, hn', ht, ba_one_size, hb]
      refine ih (m / 10) _ (by omega) ⟨m / 10, _, rfl, by simp [hw], by simp; rfl, ?_, ?_⟩
      · rw [← ByteArray.append_assoc, ← mdig_succ hn, hout]
      · rw [ByteArray.size_append, ba_one_size]
        omega
noncomputable def c57 := ctr (fun k : Int => k ≤ 4611686018427387904) (fun k => [.int .i64 k]) (fun k => (false, .str (mtext k)))
theorem c57_eq (k : Int) (h : k ≤ 4611686018427387904) : c57 [.int .i64 k] = some (false, .str (mtext k)) := ctr_eq (by simp) k h rfl
theorem c57_ok : COK Tryz.prog (57, c57) := ctr_ok fun k h => f57_ok k h
theorem f24_ok (xs : List Src) (k : Int) (h0 : 0 ≤ k) (h1 : k + cnt cSrc xs ≤ 4611686018427387904) (h2 : xs.length ≤ 4611686018427387904) : GenOK Tryz.prog 24 [.inl 2 (xs.map Src.v), .int .i64 k] [] ⟨false, .int .i64 (k + cnt cSrc xs), [.inl 2 ((mkL mkSrc cSrc k xs).map Src.v)], []⟩ := by
  refine fun_okG (mkE_ok zmix (cl := [(57, c57)]) (gl := []) [] c57_ok trivial) Tryz.func24 (by kernel_rfl) ?_
  refine FunG_run _ _ rfl rfl ?_
  have hlen := h2
  simp
  refine lp_list xs (fun i t => t.e 0 = .own 0 ∧ t.e 1 = .int .i64 (k + pre cSrc xs i) ∧ t.e 5 = .int .i64 i ∧ t.nb = 0 ∧ 1 ≤ t.nt ∧ t.R 0 = some ⟨2, (mpart mkSrc cSrc k xs i).map Src.v, true⟩) ?_ ?_ ?_
  · simp [pre_zero, mpart_zero]
  · rintro c' L hL i t x hx hi ih ⟨g0, g1, g5, gnb, gnt, gR⟩
    have hw := wrI (i := i) (by omega)
    have hp := pre_succ cSrc hx
    have hp2 := pre_le cSrc xs (i + 1)
    have hc : cSrc x = 2 := rfl
    have hcnt : (xs.map cSrc).sum = cnt cSrc xs := rfl
    have e0 := c57_eq (k + (pre cSrc xs i : Nat)) (by omega)
    have w0 : IntKind.i64.wrap (k + (pre cSrc xs i : Nat) + 1) = k + (pre cSrc xs i : Nat) + 1 := wrap64 (by omega) (by omega)
    have e1 := c57_eq (k + (pre cSrc xs i : Nat) + 1) (by omega)
    have w1 : IntKind.i64.wrap (k + (pre cSrc xs i : Nat) + 1 + 1) = k + (pre cSrc xs i : Nat) + 1 + 1 := wrap64 (by omega) (by omega)
    have hx' := mpart_get (f := mkSrc) (c := cSrc) (k := k) hx
    simp [-getElem?_pos, gcz, gcs, g0, g1, g5, gnb, gR, hL, hx', hi, e0, w0, e1, w1]
    refine ih _ ?_
    simp [-getElem?_pos, gcz, gcs, g0, g1, g5, gnb, gR, hL, hx', hi, e0, w0, e1, w1, hp, hc, hw]
    first
      | exact ⟨by omega, by omega, mpart_setv hx rfl⟩
      | exact ⟨by omega, mpart_setv hx rfl⟩
      | exact mpart_setv hx rfl
  · rintro c' t ⟨g0, g1, g5, gnb, gnt, gR⟩
    simp only [pre_all] at g1
    simp [g0, g1, g5, gnb, gR, mpart_all, cnt]
noncomputable def c24 := ctrG (fun a : List Src × Int => 0 ≤ a.2 ∧ a.2 + cnt cSrc a.1 ≤ 4611686018427387904 ∧ (a.1.length ≤ 4611686018427387904)) (fun a => ([.inl 2 (a.1.map Src.v), .int .i64 a.2], [])) (fun a => ⟨false, .int .i64 (a.2 + cnt cSrc a.1), [.inl 2 ((mkL mkSrc cSrc a.2 a.1).map Src.v)], []⟩)
theorem c24_eq (xs : List Src) (k : Int) (h0 : 0 ≤ k) (h1 : k + cnt cSrc xs ≤ 4611686018427387904) (h2 : xs.length ≤ 4611686018427387904) : c24 [.inl 2 (xs.map Src.v), .int .i64 k] [] = some ⟨false, .int .i64 (k + cnt cSrc xs), [.inl 2 ((mkL mkSrc cSrc k xs).map Src.v)], []⟩ := ctrG_eq (injG Src.v_inj _) (xs, k) ⟨h0, h1, h2⟩ rfl
theorem c24_ok : GOK Tryz.prog (24, [true], c24) := ctrG_ok fun a h => f24_ok a.1 a.2 h.1 h.2.1 h.2.2
end Go.TM.Tryz
end
section
set_option maxHeartbeats 4000000
set_option maxRecDepth 20000
namespace Go.TM.Tryz
open Go Go.TM Go.Proofs
def mkNum (k : Int) (_ : Int) : Int := k
def cNum (_ : Int) : Nat := 1
theorem f30_ok (xs : List Int) (k : Int) (h0 : 0 ≤ k) (h1 : k + cnt cNum xs ≤ 4611686018427387904) (h2 : xs.length ≤ 4611686018427387904) : GenOK Tryz.prog 30 [.inl 1 (xs.map (V.int .i64)), .int .i64 k] [] ⟨false, .int .i64 (k + cnt cNum xs), [.inl 1 ((mkL mkNum cNum k xs).map (V.int .i64))], []⟩ := by
  refine fun_okG (mkE_ok zmix (cl := []) (gl := []) [] trivial trivial) Tryz.func30 (by kernel_rfl) ?_
  refine FunG_run _ _ rfl rfl ?_
  have hlen := h2
  simp
  refine lp_list xs (fun i t => t.e 0 = .own 0 ∧ t.e 1 = .int .i64 (k + pre cNum xs i) ∧ t.e 5 = .int .i64 i ∧ t.nb = 0 ∧ 1 ≤ t.nt ∧ t.R 0 = some ⟨1, (mpart mkNum cNum k xs i).map (V.int .i64), true⟩) ?_ ?_ ?_
  · simp [pre_zero, mpart_zero]
  · rintro c' L hL i t x hx hi ih ⟨g0, g1, g5, gnb, gnt, gR⟩
    have hw := wrI (i := i) (by omega)
    have hp := pre_succ cNum hx
    have hp2 := pre_le cNum xs (i + 1)
    have hc : cNum x = 1 := rfl
    have hcnt : (xs.map cNum).sum = cnt cNum xs := rfl
    have w0 : IntKind.i64.wrap (k + (pre cNum xs i : Nat) + 1) = k + (pre cNum xs i : Nat) + 1 := wrap64 (by omega) (by omega)
    have hx' := mpart_get (f := mkNum) (c := cNum) (k := k) hx
    simp [-getElem?_pos, gcz, gcs, g0, g1, g5, gnb, gR, hL, hx', hi, w0]
    refine ih _ ?_
    simp [-getElem?_pos, gcz, gcs, g0, g1, g5, gnb, gR, hL, hx', hi, w0, hp, hc, hw]
    first
      | exact ⟨by omega, by omega, mpart_setv hx rfl⟩
      | exact ⟨by omega, mpart_setv hx rfl⟩
      | exact mpart_setv hx rfl
  · rintro c' t ⟨g0, g1, g5, gnb, gnt, gR⟩
    simp only [pre_all] at g1
    simp [g0, g1, g5, gnb, gR, mpart_all, cnt]
noncomputable def c30 := ctrG (fun a : List Int × Int => 0 ≤ a.2 ∧ a.2 + cnt cNum a.1 ≤ 4611686018427387904 ∧ (a.1.length ≤ 4611686018427387904)) (fun a => ([.inl 1 (a.1.map (V.int .i64)), .int .i64 a.2], [])) (fun a => ⟨false, .int .i64 (a.2 + cnt cNum a.1), [.inl 1 ((mkL mkNum cNum a.2 a.1).map (V.int .i64))], []⟩)
theorem c30_eq (xs : List Int) (k : Int) (h0 : 0 ≤ k) (h1 : k + cnt cNum xs ≤ 4611686018427387904) (h2 : xs.length ≤ 4611686018427387904) : c30 [.inl 1 (xs.map (V.int .i64)), .int .i64 k] [] = some ⟨false, .int .i64 (k + cnt cNum xs), [.inl 1 ((mkL mkNum cNum k xs).map (V.int .i64))], []⟩ := ctrG_eq (injG intv_inj _) (xs, k) ⟨h0, h1, h2⟩ rfl
theorem c30_ok : GOK Tryz.prog (30, [true], c30) := ctrG_ok fun a h => f30_ok a.1 a.2 h.1 h.2.1 h.2.2
@[simp] def intsO (xs : List Int) : V := .inl 1 (xs.map (V.int .i64))
@[simp] theorem noLs_intsO (xs : List (List Int)) : noLs (xs.map intsO) = true := noLs_map _ (by simp) _
def mkInts (k : Int) (xs : List Int) : List Int := mkL mkNum cNum k xs
def cInts (xs : List Int) : Nat := cnt cNum xs
theorem f25_ok (xs : List (List Int)) (k : Int) (h0 : 0 ≤ k) (h1 : k + cnt cInts xs ≤ 4611686018427387904) (h2 : xs.length ≤ 4611686018427387904 ∧ ∀ x ∈ xs, x.length ≤ 4611686018427387904) : GenOK Tryz.prog 25 [.inl 1 (xs.map intsO), .int .i64 k] [] ⟨false, .int .i64 (k + cnt cInts xs), [.inl 1 ((mkL mkInts cInts k xs).map intsO)], []⟩ := by
  refine fun_okG (mkE_ok zmix (cl := []) (gl := [(30, [true], c30)]) [] trivial c30_ok) Tryz.func25 (by kernel_rfl) ?_
  refine FunG_run _ _ rfl rfl ?_
  have hlen := h2.1
  simp
  refine lp_list xs (fun i t => t.e 0 = .own 0 ∧ t.e 1 = .int .i64 (k + pre cInts xs i) ∧ t.e 5 = .int .i64 i ∧ t.nb = 0 ∧ 1 ≤ t.nt ∧ t.R 0 = some ⟨1, (mpart mkInts cInts k xs i).map intsO, true⟩) ?_ ?_ ?_
  · simp [pre_zero, mpart_zero]
  · rintro c' L hL i t x hx hi ih ⟨g0, g1, g5, gnb, gnt, gR⟩
    have hw := wrI (i := i) (by omega)
    have hp := pre_succ cInts hx
    have hp2 := pre_le cInts xs (i + 1)
    have hc : cInts x = cnt cNum x := rfl
    have hcnt : (xs.map cInts).sum = cnt cInts xs := rfl
    have hlen3 : x.length ≤ 4611686018427387904 := h2.2 x (List.mem_of_getElem? hx)
    have e3 := c30_eq x (k + (pre cInts xs i : Nat)) (by omega) (by omega) hlen3
    have hx' := mpart_get (f := mkInts) (c := cInts) (k := k) hx
    simp [-getElem?_pos, gcz, gcs, g0, g1, g5, gnb, gR, hL, hx', hi, e3]
    refine ih _ ?_
    simp [-getElem?_pos, gcz, gcs, g0, g1, g5, gnb, gR, hL, hx', hi, e3, hp, hc, hw]
    first
      | exact ⟨by omega, by omega, mpart_setv hx rfl⟩
      | exact ⟨by omega, mpart_setv hx rfl⟩
      | exact mpart_setv hx rfl
  · rintro c' t ⟨g0, g1, g5, gnb, gnt, gR⟩
    simp only [pre_all] at g1
    simp [g0, g1, g5, gnb, gR, mpart_all, cnt]
end Go.TM.Tryz
end
section
namespace Go.TM
open Go
theorem cnt_mk {α : Type} {mk : Int → α → α} {c : α → Nat} (h : ∀ k x, c (mk k x) = c x) : ∀ (k : Int) (xs : List α), cnt c (mkL mk c k xs) = cnt c xs
  | k, [] => rfl
  | k, x :: xs => by
    have ih := cnt_mk h (k + c x) xs
    simp only [cnt] at ih ⊢
    simp only [mkL, List.map_cons, List.sum_cons, ih, h]
noncomputable def ctrH {α : Type} (mk : Int → α → α) (c : α → Nat) (f : α → V) (p : List α → Int → Prop) : List V → Option (Bool × V) :=
  ctr (fun a : List α × Int => ∃ xs, a.1 = mkL mk c a.2 xs ∧ p xs a.2) (fun a => [.lst (a.1.map f), .int .i64 a.2]) (fun a => (false, .int .i64 (a.2 + (cnt c a.1 : Nat))))
theorem ctrH_eq {α : Type} {mk : Int → α → α} {c : α → Nat} {f : α → V} {p : List α → Int → Prop} (hc : ∀ k x, c (mk k x) = c x) (hf : Function.Injective f) (xs : List α) (k : Int) (h : p xs k) :
    ctrH mk c f p [.lst ((mkL mk c k xs).map f), .int .i64 k] = some (false, .int .i64 (k + (cnt c xs : Nat))) := by
  have h1 := ctr_eq (p := fun a : List α × Int => ∃ xs, a.1 = mkL mk c a.2 xs ∧ p xs a.2) (enc := fun a => [.lst (a.1.map f), .int .i64 a.2]) (out := fun a => (false, .int .i64 (a.2 + (cnt c a.1 : Nat)))) (injl1 hf _) (mkL mk c k xs, k) ⟨xs, rfl, h⟩ rfl
  simp only [cnt_mk hc] at h1
  exact h1
theorem ctrH_ok {α : Type} {mk : Int → α → α} {c : α → Nat} {f : α → V} {p : List α → Int → Prop} {P : Program} {n : Nat} (hc : ∀ k x, c (mk k x) = c x) (hf : ∀ xs k, p xs k → FunOK P n [.lst ((mkL mk c k xs).map f), .int .i64 k] false (.int .i64 (k + (cnt c xs : Nat)))) :
    COK P (n, ctrH mk c f p) := ctr_ok fun a h => by
  obtain ⟨zs, k⟩ := a
  obtain ⟨xs, e, h⟩ := h
  simp only at e h
  subst e
  simp only [cnt_mk hc]
  exact hf xs k h
end Go.TM
end
section
set_option maxHeartbeats 4000000
set_option maxRecDepth 20000
namespace Go.TM.Tryz
open Go Go.TM Go.Proofs
theorem f31_ok (xs : List Int) (k : Int) (h0 : 0 ≤ k) (h1 : k + cnt cNum xs ≤ 4611686018427387904) (h2 : xs.length ≤ 4611686018427387904) : FunOK Tryz.prog 31 [.lst ((mkL mkNum cNum k xs).map (V.int .i64)), .int .i64 k] false (.int .i64 (k + cnt cNum xs)) := by
  refine fun_ok (mkE_ok zmix (cl := []) (gl := []) [] trivial trivial) Tryz.func31 (by kernel_rfl) ?_
  refine FunW_run _ _ rfl rfl ?_
  have hlen := h2
  simp
  refine lp_list xs (fun i t => t.e 0 = .lst ((mkL mkNum cNum k xs).map (V.int .i64)) ∧ t.e 1 = .int .i64 (k + pre cNum xs i) ∧ t.e 5 = .int .i64 i) ?_ ?_ ?_
  · simp [pre_zero]
  · rintro c' L hL i t x hx hi ih ⟨g0, g1, g5⟩
    have hw := wrI (i := i) (by omega)
    have hp := pre_succ cNum hx
    have hp2 := pre_le cNum xs (i + 1)
    have hc : cNum x = 1 := rfl
    have hcnt : (xs.map cNum).sum = cnt cNum xs := rfl
    have w0 : IntKind.i64.wrap (k + (pre cNum xs i : Nat) + 1) = k + (pre cNum xs i : Nat) + 1 := wrap64 (by omega) (by omega)
    have hx' := mkL_get mkNum cNum k hx
    simp [-getElem?_pos, gcz, gcs, g0, g1, g5, hL, hx', hi, mkNum, w0]
    refine ih _ ?_
    simp [-getElem?_pos, gcz, gcs, g0, g1, g5, hL, hx', hi, w0, hp, hc, hw] <;> omega
  · rintro c' t ⟨g0, g1, g5⟩
    simp only [pre_all] at g1
    simp [g0, g1, g5, cnt]
noncomputable def c31 := ctrH mkNum cNum (V.int .i64) (fun xs k => 0 ≤ k ∧ k + cnt cNum xs ≤ 4611686018427387904 ∧ (xs.length ≤ 4611686018427387904))
theorem c31_eq (xs : List Int) (k : Int) (h0 : 0 ≤ k) (h1 : k + cnt cNum xs ≤ 4611686018427387904) (h2 : xs.length ≤ 4611686018427387904) : c31 [.lst ((mkL mkNum cNum k xs).map (V.int .i64)), .int .i64 k] = some (false, .int .i64 (k + cnt cNum xs)) := ctrH_eq (mk := mkNum) (c := cNum) (fun _ _ => rfl) intv_inj xs k ⟨h0, h1, h2⟩
theorem c31_ok : COK Tryz.prog (31, c31) := ctrH_ok (mk := mkNum) (c := cNum) (fun _ _ => rfl) fun xs k h => f31_ok xs k h.1 h.2.1 h.2.2
theorem f26_ok (xs : List (List Int)) (k : Int) (h0 : 0 ≤ k) (h1 : k + cnt cInts xs ≤ 4611686018427387904) (h2 : xs.length ≤ 4611686018427387904 ∧ ∀ x ∈ xs, x.length ≤ 4611686018427387904) : FunOK Tryz.prog 26 [.lst ((mkL mkInts cInts k xs).map intsV), .int .i64 k] false (.int .i64 (k + cnt cInts xs)) := by
  refine fun_ok (mkE_ok zmix (cl := [(31, c31)]) (gl := []) [] c31_ok trivial) Tryz.func26 (by kernel_rfl) ?_
  refine FunW_run _ _ rfl rfl ?_
  have hlen := h2.1
  simp
  refine lp_list xs (fun i t => t.e 0 = .lst ((mkL mkInts cInts k xs).map intsV) ∧ t.e 1 = .int .i64 (k + pre cInts xs i) ∧ t.e 5 = .int .i64 i) ?_ ?_ ?_
  · simp [pre_zero]
  · rintro c' L hL i t x hx hi ih ⟨g0, g1, g5⟩
    have hw := wrI (i := i) (by omega)
    have hp := pre_succ cInts hx
    have hp2 := pre_le cInts xs (i + 1)
    have hc : cInts x = cnt cNum x := rfl
    have hcnt : (xs.map cInts).sum = cnt cInts xs := rfl
    have hlen3 : x.length ≤ 4611686018427387904 := h2.2 x (List.mem_of_getElem? hx)
    have e3 := c31_eq x (k + (pre cInts xs i : Nat)) (by omega) (by omega) hlen3
    have hx' := mkL_get mkInts cInts k hx
    have hnn : ¬ (k + (pre cInts xs i : Nat) + (cnt cNum x : Nat) < 0) := by omega
    simp [-getElem?_pos, gcz, gcs, g0, g1, g5, hL, hx', hi, mkInts, e3, hnn]
    refine ih _ ?_
    simp [-getElem?_pos, gcz, gcs, g0, g1, g5, hL, hx', hi, e3, hp, hc, hw] <;> omega
  · rintro c' t ⟨g0, g1, g5⟩
    simp only [pre_all] at g1
    simp [g0, g1, g5, cnt]
end Go.TM.Tryz
end
section
set_option maxHeartbeats 2000000
namespace Go.TM.Tryz
open Go Go.TM Go.Proofs
theorem f58_ok (x : Src) (left : Int) (h : x.lim) (h0 : 0 ≤ left) (h1 : left ≤ 1048576) : FunOK Tryz.prog 58 [x.v, .int .i64 left] false (.int .i64 (szR x.sz left)) := by
  refine fun_ok (mkE_ok zmix (cl := []) (gl := []) [] trivial trivial) Tryz.func58 (by kernel_rfl) ?_
  refine FunW_run _ _ rfl rfl ?_
  simp only [Src.lim, lim] at h
  obtain ⟨l0, l1⟩ := h
  have w0 : IntKind.i64.wrap (left - (x.name.size : Int)) = left - (x.name.size : Nat) := wrap64 (by omega) (by omega)
  by_cases a0 : left < (x.name.size : Nat)
  · have b0 : left - ((x.name.size : Nat) : Int) < 0 := by omega
    have r : szR x.sz left = -1 := szR_lt (by simp only [Src.sz]; omega)
    simp [w0, b0, r]
  have b0 : ¬ left - ((x.name.size : Nat) : Int) < 0 := by omega
  have w1 : IntKind.i64.wrap (left - ((x.name.size : Nat) : Int) - (x.text.size : Int)) = left - ((x.name.size : Nat) : Int) - (x.text.size : Nat) := wrap64 (by omega) (by omega)
  by_cases a1 : left - ((x.name.size : Nat) : Int) < (x.text.size : Nat)
  · have b1 : left - ((x.name.size : Nat) : Int) - ((x.text.size : Nat) : Int) < 0 := by omega
    have r : szR x.sz left = -1 := szR_lt (by simp only [Src.sz]; omega)
    simp [w0, b0, w1, b1, r]
  have b1 : ¬ left - ((x.name.size : Nat) : Int) - ((x.text.size : Nat) : Int) < 0 := by omega
  have r : szR x.sz left = left - ((x.name.size : Nat) : Int) - ((x.text.size : Nat) : Int) := (szR_ge (by simp only [Src.sz]; omega)).trans (by simp only [Src.sz] <;> omega)
  simp [w0, b0, w1, b1, r]
noncomputable def c58 := ctr (fun a : Src × Int => a.1.lim ∧ 0 ≤ a.2 ∧ a.2 ≤ 1048576) (fun a => [a.1.v, .int .i64 a.2]) (fun a => (false, .int .i64 (szR a.1.sz a.2)))
theorem c58_eq (x : Src) (left : Int) (h : x.lim) (h0 : 0 ≤ left) (h1 : left ≤ 1048576) : c58 [x.v, .int .i64 left] = some (false, .int .i64 (szR x.sz left)) := ctr_eq (inj1 Src.v_inj _) (x, left) ⟨h, h0, h1⟩ rfl
theorem c58_ok : COK Tryz.prog (58, c58) := ctr_ok fun a h => f58_ok a.1 a.2 h.1 h.2.1 h.2.2
theorem f18_ok (xs : List Src) (left : Int) (hlim : limL Src.lim xs) (hl0 : 0 ≤ left) (hl1 : left ≤ 1048576) : FunOK Tryz.prog 18 [.lst (xs.map Src.v), .int .i64 left] false (.int .i64 (szR (szL Src.sz xs) left)) := by
  refine fun_ok (mkE_ok zmix (cl := [(58, c58)]) (gl := []) [] c58_ok trivial) Tryz.func18 (by kernel_rfl) ?_
  refine FunW_run _ _ rfl rfl ?_
  have hlen := hlim.1
  simp only [lim] at hlen
  have hl := szL_len Src.sz xs
  have w0 : IntKind.i64.wrap (left - (xs.length : Int)) = left - xs.length := wrap64 (by omega) (by omega)
  by_cases a0 : left < xs.length
  · have b0 : left - (xs.length : Int) < 0 := by omega
    have r : szR (szL Src.sz xs) left = -1 := szR_lt (by omega)
    simp [w0, b0, r]
  have b0 : ¬ left - (xs.length : Int) < 0 := by omega
  simp [w0, b0]
  refine lp_list xs (fun i t => t.e 0 = .lst (xs.map Src.v) ∧ t.e 5 = .int .i64 i ∧ t.e 1 = .int .i64 (left - xs.length - pre Src.sz xs i) ∧ 0 ≤ left - xs.length - pre Src.sz xs i) ?_ ?_ ?_
  · simp [pre_zero]
    omega
  · rintro c' L hL i t x hx hi ih ⟨h0, h5, h1', hge⟩
    have hw := wrI (i := i) (by omega)
    have hp := pre_succ Src.sz hx
    have hp2 := pre_le Src.sz xs (i + 1)
    have w := c58_eq x (left - xs.length - pre Src.sz xs i) (hlim.2 x (List.mem_of_getElem? hx)) (by omega) (by omega)
    simp only [Src.v] at w
    by_cases a : left - xs.length - pre Src.sz xs i < (Src.sz x : Nat)
    · rw [szR_lt a] at w
      have r : szR (szL Src.sz xs) left = -1 := szR_lt (by simp only [szL]; omega)
      simp [-getElem?_pos, gcz, gcs, h0, h1', h5, hL, hx, hi, w, r]
    rw [szR_ge (Int.not_lt.1 a)] at w
    have b : ¬ left - xs.length - pre Src.sz xs i - (Src.sz x : Nat) < 0 := by omega
    simp [-getElem?_pos, gcz, gcs, h0, h1', h5, hL, hx, hi, w, b]
    refine ih _ ?_
    simp [-getElem?_pos, gcz, gcs, h0, h1', h5, hL, hx, hi, hw, hp]
    omega
  · rintro c' t ⟨h0, h5, h1', hge⟩
    rw [pre_all] at h1' hge
    have r : szR (szL Src.sz xs) left = left - xs.length - ((xs.map Src.sz).sum : Nat) := by rw [szR_ge (by simp only [szL]; omega)]; simp only [szL]; omega
    simp [h0, h5, h1', r]
noncomputable def c18 := ctr (fun a : List Src × Int => limL Src.lim a.1 ∧ 0 ≤ a.2 ∧ a.2 ≤ 1048576) (fun a => [.lst (a.1.map Src.v), .int .i64 a.2]) (fun a => (false, .int .i64 (szR (szL Src.sz a.1) a.2)))
theorem c18_eq (xs : List Src) (left : Int) (h : limL Src.lim xs) (h0 : 0 ≤ left) (h1 : left ≤ 1048576) : c18 [.lst (xs.map Src.v), .int .i64 left] = some (false, .int .i64 (szR (szL Src.sz xs) left)) := ctr_eq (injl1 Src.v_inj _) (xs, left) ⟨h, h0, h1⟩ rfl
theorem c18_ok : COK Tryz.prog (18, c18) := ctr_ok fun a h => f18_ok a.1 a.2 h.1 h.2.1 h.2.2
end Go.TM.Tryz
end
section
set_option maxHeartbeats 2000000
namespace Go.TM.Tryz
open Go Go.TM Go.Proofs
theorem f63_ok (x : Src) (h : x.lim) : FunOK Tryz.prog 63 [x.v, x.v] false (.bool true) := by
  refine fun_ok (mkE_ok zmix (cl := []) (gl := []) [] trivial trivial) Tryz.func63 (by kernel_rfl) ?_
  refine FunW_run _ _ rfl rfl ?_
  simp []
noncomputable def c63 := ctr (fun x : Src => x.lim) (fun x => [x.v, x.v]) (fun _ => (false, .bool true))
theorem c63_eq (x : Src) (h : x.lim) : c63 [x.v, x.v] = some (false, .bool true) := ctr_eq (fun _ _ _ => rfl) x h rfl
theorem c63_ok : COK Tryz.prog (63, c63) := ctr_ok fun x h => f63_ok x h
theorem f23_ok (xs : List Src) (hlim : limL Src.lim xs) : FunOK Tryz.prog 23 [.lst (xs.map Src.v), .lst (xs.map Src.v)] false (.bool true) := by
  refine fun_ok (mkE_ok zmix (cl := [(63, c63)]) (gl := []) [] c63_ok trivial) Tryz.func23 (by kernel_rfl) ?_
  refine FunW_run _ _ rfl rfl ?_
  have hlen := hlim.1
  simp only [lim] at hlen
  simp
  refine lp_list xs (fun i t => t.e 0 = .lst (xs.map Src.v) ∧ t.e 1 = .lst (xs.map Src.v) ∧ t.e 5 = .int .i64 i) ?_ ?_ ?_
  · simp
  · rintro c' L hL i t x hx hi ih ⟨g0, g1, g5⟩
    have hw := wrI (i := i) (by omega)
    have e := c63_eq x (hlim.2 x (List.mem_of_getElem? hx))
    simp only [Src.v] at e
    simp [-getElem?_pos, gcz, gcs, g0, g1, g5, hL, hx, hi, e]
    refine ih _ ?_
    simp [-getElem?_pos, gcz, gcs, g0, g1, g5, hL, hx, hi, hw]
  · rintro c' t ⟨g0, g1, g5⟩
    simp [g0, g1, g5]
noncomputable def c23 := ctr (fun xs : List Src => limL Src.lim xs) (fun xs => [.lst (xs.map Src.v), .lst (xs.map Src.v)]) (fun _ => (false, .bool true))
theorem c23_eq (xs : List Src) (h : limL Src.lim xs) : c23 [.lst (xs.map Src.v), .lst (xs.map Src.v)] = some (false, .bool true) := ctr_eq (fun _ _ _ => rfl) xs h rfl
theorem c23_ok : COK Tryz.prog (23, c23) := ctr_ok fun xs h => f23_ok xs h
end Go.TM.Tryz
end
section
set_option maxHeartbeats 2000000
namespace Go.TM.Tryz
open Go Go.TM Go.Proofs
end Go.TM.Tryz
end
section
set_option maxHeartbeats 16000000
set_option maxRecDepth 20000
namespace Go.TM.Tryz
open Go Go.TM Go.Proofs
noncomputable def rowsN (l : List Src) : List (List Int) := if goodL l = true then l.map (rowI l) else []
noncomputable def rowsE (l : List Src) : List V := if goodL l = true then needsS l else []
theorem rowsI_eq (l : List Src) : (if goodLI l = true then needsI l else []) = (rowsN l).map intsO := by
  unfold rowsN
  rw [goodL_eq]
  split
  · unfold needsI
    rw [List.map_map]
    rfl
  · rfl
theorem norms_elem (l : List Src) : norms (rowsE l) = (rowsN l).map intsV := by
  unfold rowsE rowsN
  split
  · unfold needsS
    rw [norms_map, List.map_map, List.map_map]
    refine List.map_congr_left fun x hx => ?_
    simp only [Function.comp]
    rw [row_eq]
    unfold elemV
    split <;> simp [norm]
  · rfl
theorem norms_intsO (xs : List (List Int)) : norms (xs.map intsO) = xs.map intsV := by
  rw [norms_map, List.map_map]
  refine List.map_congr_left fun x hx => ?_
  simp [norm]
end Go.TM.Tryz
end
section
set_option maxHeartbeats 16000000
set_option maxRecDepth 20000
namespace Go.TM
open Go
theorem GenOK.low {P : Program} {f : FuncId} {args cs : List V} {r : V} {outs boxes : List V} (h : GenOK P f args cs ⟨true, r, outs, boxes⟩) (h1 : noL r = true) (h2 : noLs outs = true) : GenOK P f args cs ⟨false, r, outs, boxes⟩ where
  has := h.has
  calls M W vs hM hv := (h.calls M W vs hM hv).mono fun e W' ⟨v, M', s', sv, e1, p⟩ => ⟨v, M', s', sv, e1, ⟨p.rel, p.mem, p.evo, p.nodup, p.bnodup, fun _ => ⟨h1, h2⟩, p.hasB, p.outs, p.boxes, p.res⟩⟩
theorem asc_len : ∀ {l : List Int} {a b : Int}, a ≤ b → Asc l → (∀ x ∈ l, a ≤ x ∧ x < b) → (l.length : Int) ≤ b - a
  | [], a, b, hab, _, _ => by simp; omega
  | x :: xs, a, b, hab, h, hx => by
    have h0 := hx x (by simp)
    have := asc_len (l := xs) (a := x + 1) (b := b) (by omega) h.2 fun y hy => ⟨by have := h.1 y hy; omega, (hx y (by simp [hy])).2⟩
    simp only [List.length_cons]
    omega
def Gr (G : List (List Int)) : Prop := G.length ≤ 8 ∧ ∀ r ∈ G, Asc r ∧ ∀ x ∈ r, 0 ≤ x ∧ x < G.length
theorem Gr.len {G : List (List Int)} (h : Gr G) : ∀ r ∈ G, r.length ≤ 8 := fun r hr => by
  have h1 := asc_len (l := r) (a := 0) (b := G.length) (by omega) (h.2 r hr).1 (h.2 r hr).2
  have := h.1
  omega
theorem cnt_le {α : Type} {c : α → Nat} {N : Nat} : ∀ {xs : List α}, (∀ x ∈ xs, c x ≤ N) → cnt c xs ≤ xs.length * N
  | [], _ => by simp [cnt]
  | x :: xs, h => by
    have ih := cnt_le (xs := xs) fun y hy => h y (by simp [hy])
    have h0 := h x (by simp)
    simp only [cnt, List.map_cons, List.sum_cons, List.length_cons, Nat.add_mul] at ih ⊢
    omega
end Go.TM
namespace Go.TM.Tryz
open Go Go.TM Go.Proofs
theorem fstI_lt {α : Type} (p : α → Bool) (l : List α) : fstI p l < l.length ∨ fstI p l = -1 := by
  unfold fstI
  split
  · rename_i h
    left
    have h2 : l.findIdx p < l.length := List.findIdx_lt_length.2 (by simpa using h)
    omega
  · exact .inr rfl
theorem nums_in (l : List Src) : ∀ (ns : List ByteArray) (B : List Int × Bool), Asc B.1 → (∀ x ∈ B.1, 0 ≤ x ∧ x < l.length) → Asc (ns.foldl (stepN l) B).1 ∧ ∀ x ∈ (ns.foldl (stepN l) B).1, 0 ≤ x ∧ x < l.length
  | [], B, h, he => ⟨h, he⟩
  | n :: ns, B, h, he => by
    simp only [List.foldl_cons]
    unfold stepN
    by_cases hk : 0 ≤ fstI (namIs n) l
    · rw [if_pos hk]
      refine nums_in l ns _ (asc_put h) fun x hx => ?_
      rcases mem_put.1 hx with hx | hx
      · exact he x hx
      · subst hx
        rcases fstI_lt (namIs n) l with h1 | h1
        · exact ⟨hk, h1⟩
        · omega
    · rw [if_neg hk]
      exact nums_in l ns _ h he
theorem rowsN_gr (l : List Src) : Gr (rowsN l) := by
  unfold rowsN
  split
  · rename_i h
    refine ⟨?_, fun r hr => ?_⟩
    · unfold goodL at h
      simp at h
      simp
      exact h.2
    · obtain ⟨x, _, rfl⟩ := List.mem_map.1 hr
      rw [row_eq, List.length_map]
      exact nums_in l _ ([], false) trivial fun x hx => by cases hx
  · exact ⟨by simp, fun r hr => by cases hr⟩
theorem intsV_inj : Function.Injective intsV := fun a b h => by
  simp only [intsV, V.lst.injEq] at h
  exact ints_inj h
theorem intsO_inj : Function.Injective intsO := fun a b h => by
  simp only [intsO, V.inl.injEq, true_and] at h
  exact ints_inj h
noncomputable def c19 := ctr (fun l : List Src => SrcsOk l) (fun l => [.lst (l.map Src.v)]) (fun l => (true, .tup [.inl 1 (rowsE l), .bool (goodL l)]))
theorem c19_eq (l : List Src) (h : SrcsOk l) : c19 [.lst (l.map Src.v)] = some (true, .tup [.inl 1 (rowsE l), .bool (goodL l)]) := ctr_eq (injl Src.v_inj _) l h rfl
theorem c19_ok : COK Tryz.prog (19, c19) := ctr_ok fun l h => f19_ok l h
theorem f21_low (l : List Src) (h : SrcsOk l) : FunOK Tryz.prog 21 [.lst (l.map Src.v)] false (.tup [.inl 1 ((rowsN l).map intsO), .bool (goodL l)]) := by
  have h1 := f21_ok l h
  rw [rowsI_eq, goodL_eq] at h1
  exact GenOK.low h1 (by simp [noL, noLs]) rfl
noncomputable def c21 := ctr (fun l : List Src => SrcsOk l) (fun l => [.lst (l.map Src.v)]) (fun l => (false, .tup [.inl 1 ((rowsN l).map intsO), .bool (goodL l)]))
theorem c21_eq (l : List Src) (h : SrcsOk l) : c21 [.lst (l.map Src.v)] = some (false, .tup [.inl 1 ((rowsN l).map intsO), .bool (goodL l)]) := ctr_eq (injl Src.v_inj _) l h rfl
theorem c21_ok : COK Tryz.prog (21, c21) := ctr_ok fun l h => f21_low l h
noncomputable def c22 := ctr (fun xs : List (List Int) => xs.length ≤ 1048576 ∧ ∀ x ∈ xs, x.length ≤ 1048576) (fun xs => [.lst (xs.map intsV), .lst (xs.map intsV)]) (fun _ => (false, .bool true))
theorem c22_eq (xs : List (List Int)) (h : xs.length ≤ 1048576 ∧ ∀ x ∈ xs, x.length ≤ 1048576) : c22 [.lst (xs.map intsV), .lst (xs.map intsV)] = some (false, .bool true) := ctr_eq (fun _ _ _ => rfl) xs h rfl
theorem c22_ok : COK Tryz.prog (22, c22) := ctr_ok fun xs h => f22_ok xs h.1 h.2
noncomputable def c25 := ctrG (fun a : List (List Int) × Int => 0 ≤ a.2 ∧ a.2 + cnt cInts a.1 ≤ 4611686018427387904 ∧ (a.1.length ≤ 4611686018427387904 ∧ ∀ x ∈ a.1, x.length ≤ 4611686018427387904)) (fun a => ([.inl 1 (a.1.map intsO), .int .i64 a.2], [])) (fun a => ⟨false, .int .i64 (a.2 + cnt cInts a.1), [.inl 1 ((mkL mkInts cInts a.2 a.1).map intsO)], []⟩)
theorem c25_eq (xs : List (List Int)) (k : Int) (h0 : 0 ≤ k) (h1 : k + cnt cInts xs ≤ 4611686018427387904) (h2 : xs.length ≤ 4611686018427387904 ∧ ∀ x ∈ xs, x.length ≤ 4611686018427387904) : c25 [.inl 1 (xs.map intsO), .int .i64 k] [] = some ⟨false, .int .i64 (k + cnt cInts xs), [.inl 1 ((mkL mkInts cInts k xs).map intsO)], []⟩ := ctrG_eq (injG intsO_inj _) (xs, k) ⟨h0, h1, h2⟩ rfl
theorem c25_ok : GOK Tryz.prog (25, [true], c25) := ctrG_ok fun a h => f25_ok a.1 a.2 h.1 h.2.1 h.2.2
theorem cInts_mk (k : Int) (x : List Int) : cInts (mkInts k x) = cInts x := by
  simp only [cInts, mkInts, cnt_mk (mk := mkNum) (c := cNum) (fun _ _ => rfl)]
noncomputable def c26 := ctrH mkInts cInts intsV (fun xs k => 0 ≤ k ∧ k + cnt cInts xs ≤ 4611686018427387904 ∧ (xs.length ≤ 4611686018427387904 ∧ ∀ x ∈ xs, x.length ≤ 4611686018427387904))
theorem c26_eq (xs : List (List Int)) (k : Int) (h0 : 0 ≤ k) (h1 : k + cnt cInts xs ≤ 4611686018427387904) (h2 : xs.length ≤ 4611686018427387904 ∧ ∀ x ∈ xs, x.length ≤ 4611686018427387904) : c26 [.lst ((mkL mkInts cInts k xs).map intsV), .int .i64 k] = some (false, .int .i64 (k + cnt cInts xs)) := ctrH_eq (mk := mkInts) (c := cInts) cInts_mk intsV_inj xs k ⟨h0, h1, h2⟩
theorem c26_ok : COK Tryz.prog (26, c26) := ctrH_ok (mk := mkInts) (c := cInts) cInts_mk fun xs k h => f26_ok xs k h.1 h.2.1 h.2.2
theorem srcsOk_of {l : List Src} (h : szL Src.sz l ≤ 1048576) : SrcsOk l := by
  have hlen := szL_len Src.sz l
  refine ⟨by omega, fun t ht => ?_⟩
  obtain ⟨i, hi⟩ := List.getElem?_of_mem ht
  have := szL_get (f := Src.sz) hi
  simp only [Src.sz] at this
  exact ⟨by simp only [lim]; omega, by omega⟩
end Go.TM.Tryz
end
section
set_option maxHeartbeats 16000000
set_option maxRecDepth 20000
namespace Go.TM.Tryz
open Go Go.TM Go.Proofs
theorem f4_ok (l : List Src) (hl : limL Src.lim l) : FunOK Tryz.prog 4 [.lst (l.map Src.v)] false (.bool true) := by
  refine fun_ok (mkE_ok zmix (cl := [(18, c18), (20, c20), (19, c19), (21, c21), (22, c22), (23, c23), (26, c26)]) (gl := [(24, [true], c24), (25, [true], c25)]) [] ⟨c18_ok, c20_ok, c19_ok, c21_ok, c22_ok, c23_ok, c26_ok⟩ ⟨c24_ok, c25_ok⟩) Tryz.func4 (by kernel_rfl) ?_
  refine FunW_run _ _ rfl rfl ?_
  have e18 := c18_eq l 1048576 hl (by omega) (by omega)
  by_cases hz : ¬ (szL Src.sz l : Int) ≤ 1048576
  · rw [szR_lt (by omega)] at e18
    simp [e18]
  have hz : szL Src.sz l ≤ 1048576 := by omega
  rw [szR_ge (by omega)] at e18
  have h0 : ¬ (1048576 : Int) < szL Src.sz l := by omega
  have e20 := c20_eq l hz
  have hlen := szL_len Src.sz l
  have hS := srcsOk_of hz
  have e19 := c19_eq l hS
  have e21 := c21_eq l hS
  have hG := rowsN_gr l
  have hE := norms_elem l
  have hO := norms_intsO (rowsN l)
  generalize rowsE l = E at *
  generalize rowsN l = X at *
  generalize goodL l = b at *
  have hX8 := hG.1
  have hr := hG.len
  have e22 := c22_eq X ⟨by omega, fun x hx => by have := hr x hx; omega⟩
  have e23 := c23_eq l hl
  have k1 : cnt cSrc l = 2 * l.length := cnt_const (fun _ => rfl) l
  have e24 := c24_eq l 1 (by omega) (by omega) (by omega)
  have k2 : cnt cInts X ≤ X.length * 8 := cnt_le fun x hx => by
    have k3 : cnt cNum x = 1 * x.length := cnt_const (fun _ => rfl) x
    have := hr x hx
    simp only [cInts]
    omega
  have h2 : X.length ≤ 4611686018427387904 ∧ ∀ x ∈ X, x.length ≤ 4611686018427387904 := ⟨by omega, fun x hx => by have := hr x hx; omega⟩
  have e25 := c25_eq X 1 (by omega) (by omega) h2
  have e26 := c26_eq X 1 (by omega) (by omega) h2
  have hO2 := norms_intsO (mkL mkInts cInts 1 X)
  have hb1 : ¬ (1 : Int) + (cnt cSrc l : Nat) < 0 := by omega
  have hb2 : ¬ (1 : Int) + (cnt cInts X : Nat) < 0 := by omega
  simp [-intsV, -intsO, e18, h0, e20, e19, e21, hE, hO, e22, e23, e24, e25, e26, hO2, hb1, hb2]
end Go.TM.Tryz
end
section
namespace Go.TM
open Go Go.RowKit
def mem1 (W : World) : Mem := ⟨Old W, fun _ => none, fun _ => 0, fun _ => undef, fun _ _ _ => undef, 0, 0⟩
theorem mem1_ok {W : World} {args : List V} (h : adCs args S.zero = (args, S.zero)) : MemOK (mem1 W) W (start args []) := by
  have hR : (start args []).R = fun _ => none := by simp only [start, h]; rfl
  have hB : (start args []).B = fun _ => none := by
    funext x
    simp [start, h, adCs]
  refine ⟨by simp only [start, h]; rfl, by simp only [start, h]; rfl, fun b c hb => ?_, fun t r hr => ?_, fun b hb => ⟨rfl, hb⟩, fun b l hl => (by cases hl), fun b t hl => (by cases hl), fun b k hl => (by cases hl)⟩
  · rw [hB] at hb; cases hb
  · rw [hR] at hr; cases hr
theorem close_bool {M : Mem} {W : World} {s : S} {k : Nat} {sv : V} {v : Value} {b : Bool} (hr : SR2 M W sv v) (hc : closeR s k sv = .bool b) : v = .bool b := by
  cases sv with
  | bool c =>
    simp [closeR, closeB, onL1, closeL] at hc
    subst hc
    exact hr
  | tup xs => simp [closeR] at hc
  | agg xs => simp [closeR, closeB, onL1] at hc
  | ptr b' o =>
    cases o with
    | zero =>
      simp only [closeR, closeB] at hc
      split at hc
      · split at hc <;> cases hc
      · cases hc
    | succ o => simp [closeR, closeB, onL1, closeL] at hc
  | own t =>
    simp only [closeR, closeB, onL1, closeL] at hc
    split at hc <;> cases hc
  | fn f caps => cases caps <;> simp [closeR, closeB, onL1, closeL] at hc
  | _ => simp [closeR, closeB, onL1, closeL] at hc
theorem run_true {P : Program} {f : FuncId} {args : List V} (h : FunOK P f args false (.bool true)) (hs : adCs args S.zero = (args, S.zero)) {W : World} {vs : List Value} (hv : All2 (SR1 (mem1 W) W) args vs) :
    Calls P f vs.toArray W fun e W' => e = .returned (.bool true) ∧ Below W.heap.size W W' := by
  refine (h.calls (mem1 W) W vs (mem1_ok hs) (by rw [hs]; exact hv)).mono ?_
  rintro e W' ⟨v, M', s', sv, rfl, hp⟩
  rw [close_bool hp.rel hp.res]
  exact ⟨rfl, hp.evo.os, hp.evo.tape, hp.evo.output, hp.evo.size, fun k hk => hp.evo.old k hk rfl⟩
end Go.TM
end
section
set_option maxHeartbeats 2000000
namespace Go.Proofs.YtgpkbmekdmpgoaaGreatDoor
open Go Go.ChangeShapes Go.WideShapes Go.ChangeAt Go.RowKit Go.TM Go.TM.Tryz
theorem own : ownKnob Tryz.prog.godebug = none := by kernel_rfl
theorem laidOut : laidOutB Tryz.prog = true := by kernel_rfl
theorem slice_value {P : Program} {W : World} {base : Nat} {t e : TypeId} {v : Value} (ht : P.underlying t = some (.slice e)) (h : Value.okWide P W .any base t v) : ∃ A n c, v = .slice A n c := by
  simp only [Value.okWide, ht] at h
  simp only [Cell.okWide, ht] at h
  simp only [Cell.ok, ht] at h
  cases v <;> first | exact ⟨_, _, _, rfl⟩ | exact h.elim
theorem src_ad (l : List TM.Src) : adCs [.lst (l.map TM.Src.v)] S.zero = ([.lst (l.map TM.Src.v)], S.zero) := by rfl
theorem laid_met (os : Os) (args : Array Value) : laidMetH Tryz.prog Rows.fnExactNeedsInRow.laid ((World.laidAll Tryz.prog os Rows.fnExactNeedsInRow.laid).forCall (fun _ _ => 0) ⟨#[], args, []⟩).memory := by
  rw [MakeChecks.laidMetH_plain _ _ _ (by kernel_rfl)]
  exact laidMet_laidAll _ (by kernel_rfl) (by kernel_rfl)
set_option maxRecDepth 100000 in
theorem fnExactNeedsIn_lifted (os : Os) (started : os.Started) (H : Type) (enc : TypeId × Value → H) :
    ReturnsInHanded {} Tryz.checked os 4 .any (fun w args => (Rows.fnExactNeedsInSpec.pre enc Tryz.prog Tryz.f4 Rows.fnExactNeedsInRow.domain false w args ∧ laidMetH Tryz.prog Rows.fnExactNeedsInRow.laid w) ∧ sizedMet enc Tryz.prog Tryz.f4 (OpenSpec.ofChange Rows.fnExactNeedsInSpec) false w args)
      (Rows.fnExactNeedsInSpec.post enc Tryz.prog Tryz.f4 false true false false) := by
  refine returnsInHanded_of_change_and (C := Tryz.checked) (X := fun w _ => laidMetH Tryz.prog Rows.fnExactNeedsInRow.laid w) (fun _ _ _ hh h => h.of_heap hh) own started (by kernel_rfl) Tryz.func4
    (ChangeSpec.witness_shaped (enc := enc) (C := Tryz.checked) (os := os) (X := fun w _ => laidMetH Tryz.prog Rows.fnExactNeedsInRow.laid w) false (World.laidAll Tryz.prog os Rows.fnExactNeedsInRow.laid) #[.slice none 0 0] 8 (World.laidAll_os _ _ _)
      (World.shaped_of_ZipB (by kernel_rfl) (by kernel_rfl)) (by kernel_rfl) (by kernel_rfl) (by kernel_rfl) (laid_met os _)) ?_
  intro W base args ds gs before hval0 hW _ _ _ _
  have hval : ∀ (j : Nat) t v, Tryz.f4.params[j]? = some t → args[j]? = some v → Value.okWide Tryz.prog W .any base t v := hval0
  have hW' := hW
  obtain ⟨p, q, hA0, hV, rfl, hfz, hnd⟩ := hW
  have hA : DataW.TrodAll enc Tryz.prog W 0 (fun _ => true) true Tryz.f4.params.toList args.toList ds p := hA0
  rw [Tryz.params4] at hA hval
  obtain ⟨v0, d0, rfl, rfl, h0⟩ := trodAll_one hA
  obtain ⟨rfl, rfl⟩ := trodVars_none hV
  obtain ⟨A0, n0, c0, rfl⟩ := slice_value Tryz.underlying34 (hval 0 34 v0 rfl rfl)
  clear hA0 hval0
  simp only [List.append_nil] at hW'
  have hlt : ∀ x ∈ p, x.block < W.heap.size := fun x hx => by simpa using hW'.lt x hx
  have g0 := h0
  obtain ⟨fuel0, hf0⟩ := g0
  obtain ⟨l, hl, hs⟩ := (rd_slice Tryz.underlying34 (n := 2) (by kernel_rfl) (by omega) (fun _ => rfl) rd_Src) _ _ _ hf0
  have hsr : SR1 (mem1 W) W (.lst (l.map TM.Src.v)) (.slice A0 n0 c0) := hs.1
  refine (run_true (f4_ok l hl) (src_ad l) (vs := [.slice A0 n0 c0]) ⟨hsr, trivial⟩).mono fun e W' ⟨he, hb⟩ => ?_
  subst he
  have harg0 : DataW.Trod enc Tryz.prog W' 0 (fun b => decide (b < W.heap.size)) true 34 (.slice A0 n0 c0) d0 p :=
    Below.trod laidOut (by kernel_rfl) (of_decide_eq_true (by kernel_rfl)) h0 hb hlt
  exact ⟨_, rfl, _, _, _, [], _, [], hW', trodAll_mk1 (shut_bool Tryz.underlying4 _), trodAll_mk1 harg0, rfl, hb.frame _, fun h => by cases h⟩
theorem facts0 : Tryz.pinned.checked.prog.funcNamed Rows.fnExactNeedsInRow.func = some 4 := by kernel_rfl
theorem facts1 : (Rows.fnExactNeedsInRow.inPlace == Tryz.pinned.checked.prog.inPlace 4) = true := by kernel_rfl
theorem facts2 : (Rows.fnExactNeedsInRow.unfollowed == Tryz.pinned.checked.prog.unfollowed 4) = true := by kernel_rfl
theorem facts3 : (Rows.fnExactNeedsInRow.recurses == Tryz.pinned.checked.prog.recurses 4) = true := by kernel_rfl
theorem facts4 : (Rows.fnExactNeedsInRow.named == Tryz.pinned.checked.prog.varsNamed 4) = true := by kernel_rfl
theorem facts5 : joinedFacts Tryz.pinned.checked.prog 4 Tryz.f4 Rows.fnExactNeedsInSpec Rows.fnExactNeedsInRow = true := by
  unfold joinedFacts
  rw [facts1, facts2, facts3, facts4]
  kernel_rfl
theorem facts6 : Tryz.f4.isInstance Tryz.pinned.checked.prog Rows.fnExactNeedsInRow.origin Rows.fnExactNeedsInRow.targs := of_decide_eq_true (by kernel_rfl)
theorem facts7 : Tryz.f4.isWrapper Tryz.pinned.checked.prog Rows.fnExactNeedsInRow.wrapper Rows.fnExactNeedsInRow.mainSum := by
  unfold Func.isWrapper; first | (rw [if_pos (by decide +kernel)]; kernel_rfl) | (rw [if_neg (by decide +kernel)]; exact ⟨rfl, rfl⟩)
theorem fnExactNeedsIn_row : Rows.FnExactNeedsInSaid :=
  OpenClaim.holds_of_wide 4 Tryz.f4 rfl rfl rfl rfl rfl rfl rfl ⟨rfl, rfl, rfl, rfl, rfl⟩ rfl rfl rfl rfl rfl facts0 Tryz.func4 facts5 facts6 facts7
    (fun os started H enc _ => fnExactNeedsIn_lifted os started H enc)
theorem fnExactNeedsIn_holds : Rows.FnExactNeedsInCardSaid :=
  Claim7.holds_tied_plain_at .later [] [.data, .data, .data, .data, .sentinel, .sentinel, .pinned] true (true, "4fb26d283fa2b75eae0e6a7d35f92e8852ce8f6188695db1595219b23312b0c8") true
    fnExactNeedsIn_row (fun _ h => by cases h) (by kernel_rfl) (fun _ h => by cases h) fnExactNeedsIn_row_tie rfl ⟨rfl, rfl⟩ (by kernel_rfl) rfl
    (fun f fn hf hfn => by
      obtain rfl : f = 4 := Option.some.inj ((show Tryz.prog.funcNamed "loop.example/g00837/laws.FnExactNeedsIn" = some 4 by kernel_rfl).symm.trans hf) |>.symm
      obtain rfl : fn = Tryz.f4 := (Option.some.inj (Tryz.func4.symm.trans hfn)).symm
      exact ⟨by kernel_rfl, fun j t ht => by
        rw [Tryz.params4] at ht
        have hm : t ∈ [34] := by simpa using Array.mem_of_getElem? ht
        have hall : ([34].all fun u => !Tryz.prog.wantsStandIn u) = true := by kernel_rfl
        exact (show Tryz.prog.wantsStandIn t = false by simpa using List.all_eq_true.1 hall t hm)⟩)
    (by kernel_rfl)
end Go.Proofs.YtgpkbmekdmpgoaaGreatDoor
end
