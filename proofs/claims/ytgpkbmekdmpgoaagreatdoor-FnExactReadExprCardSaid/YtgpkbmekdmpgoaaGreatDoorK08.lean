/- A part of the proof: QK, QL, QM, QN. -/
import Derived.Test.YtgpkbmekdmpgoaaGreatDoorK07
set_option linter.unusedVariables false
set_option linter.unusedSimpArgs false
section
set_option maxHeartbeats 16000000
set_option maxRecDepth 20000
namespace Go.TM.Tryz
open Go Go.TM Go.Proofs
theorem ba_two_eq {a : ByteArray} {c d : UInt8} : a = ⟨#[c, d]⟩ ↔ a.size = 2 ∧ bA a 0 = c.toNat ∧ bA a 1 = d.toNat := by
  constructor
  · rintro rfl
    exact ⟨rfl, rfl, rfl⟩
  · rintro ⟨h1, h2, h3⟩
    obtain ⟨⟨l⟩⟩ := a
    match l, h1 with
    | [x, y], _ =>
      have e1 : x = c := UInt8.toNat_inj.1 h2
      have e2 : y = d := UInt8.toNat_inj.1 h3
      rw [e1, e2]
theorem open_ext {s : ByteArray} {i : Nat} (h : i + 1 < s.size) : decide (s.extract i (i + 2) = ⟨#[40, 42]⟩) = isOpenC s i := by
  unfold isOpenC
  rw [Bool.eq_iff_iff, decide_eq_true_eq, ba_two_eq, extract_sz s (by omega), bA_extract (by omega) (by omega), bA_extract (by omega) (by omega)]
  simp only [Bool.and_eq_true, decide_eq_true_eq, Nat.add_zero]
  constructor
  · rintro ⟨_, h1, h2⟩
    exact ⟨⟨h, h1⟩, h2⟩
  · rintro ⟨⟨_, h1⟩, h2⟩
    exact ⟨by omega, h1, h2⟩
theorem shut_ext {s : ByteArray} {i : Nat} (h : i + 1 < s.size) : decide (s.extract i (i + 2) = ⟨#[42, 41]⟩) = isShutC s i := by
  unfold isShutC
  rw [Bool.eq_iff_iff, decide_eq_true_eq, ba_two_eq, extract_sz s (by omega), bA_extract (by omega) (by omega), bA_extract (by omega) (by omega)]
  simp only [Bool.and_eq_true, decide_eq_true_eq, Nat.add_zero]
  constructor
  · rintro ⟨_, h1, h2⟩
    exact ⟨⟨h, h1⟩, h2⟩
  · rintro ⟨⟨_, h1⟩, h2⟩
    exact ⟨by omega, h1, h2⟩
theorem f146_ok (s : ByteArray) (hs : s.size ≤ 1000000000) : FunOK Tryz.prog 146 [.str s] false (.int .i64 (remI s (s.size + 1) 0 0)) := by
  refine fun_ok (mkE_ok zmix (cl := []) (gl := []) [] trivial trivial) Tryz.func146 (by kernel_rfl) ?_
  refine FunW_run _ _ rfl rfl ?_
  generalize hE : remI s (s.size + 1) 0 0 = E
  simp
  refine lp_ind (fun f t => ∃ (i : Nat) (dp : Int), s.size < i + f ∧ i ≤ s.size + 2 ∧ -(i : Int) ≤ dp ∧ dp ≤ i ∧ t.e 0 = .str s ∧ t.e 3 = .int .i64 dp ∧ t.e 4 = .int .i64 i ∧ remI s f i dp = E) (s.size + 1) ⟨0, 0, by omega, by omega, by omega, by omega, by simp, by simp, by simp, hE⟩ ?_
  rintro c' L hL f t ih ⟨i, dp, hif, his, hd1, hd2, g0, g3, g4, hr⟩
  have w1 : IntKind.i64.wrap ((i : Int) + 1) = ((i + 1 : Nat) : Int) := (wrap64 (by omega) (by omega)).trans (by omega)
  have w2 : IntKind.i64.wrap ((i : Int) + 2) = ((i + 2 : Nat) : Int) := (wrap64 (by omega) (by omega)).trans (by omega)
  have wz : IntKind.i64.wrap 0 = 0 := by decide
  cases f with
  | zero =>
    have hi : ¬ ((i + 1 : Nat) : Int) < s.size := by omega
    simp only [remI] at hr
    subst hr
    obtain ⟨I1, hI1⟩ : ∃ I1, I1 = i + 1 := ⟨_, rfl⟩
    rw [← hI1] at w1 hi
    simp [g0, g3, g4, hL, w1, hi]
  | succ f =>
    unfold remI at hr
    obtain ⟨I1, hI1⟩ : ∃ I1, I1 = i + 1 := ⟨_, rfl⟩
    obtain ⟨I2, hI2⟩ : ∃ I2, I2 = i + 2 := ⟨_, rfl⟩
    by_cases hc : i + 1 < s.size
    · rw [if_pos hc] at hr
      have ho := open_ext hc
      have hsh := shut_ext hc
      have hi1 : ((I1 : Nat) : Int) < s.size := by omega
      have hi2 : ((I2 : Nat) : Int) ≤ s.size := by omega
      have hi2' : I2 ≤ s.size := by omega
      have hi3 : (i : Int) ≤ I2 := by omega
      have hi3' : i ≤ I2 := by omega
      have w3 : IntKind.i64.wrap ((I1 : Int) + 1) = (I2 : Int) := (wrap64 (by omega) (by omega)).trans (by omega)
      have wd1 : IntKind.i64.wrap (dp + 1) = dp + 1 := wrap64 (by omega) (by omega)
      have wd2 : IntKind.i64.wrap (dp - 1) = dp - 1 := wrap64 (by omega) (by omega)
      rw [← hI1] at w1
      rw [← hI2] at w2 ho hsh
      rw [← hI1, ← hI2] at hr
      generalize hX : s.extract i I2 = X at *
      by_cases hop : X = ⟨#[40, 42]⟩
      · rw [← ho, decide_eq_true hop, if_pos rfl] at hr
        by_cases hz : dp + 1 = 0
        · rw [if_pos hz] at hr
          subst hr
          simp [g0, g3, g4, hL, w1, w2, w3, hi1, hi2, hi2', hi3, hi3', hX, hop, wd1, hz, wz]
        · rw [if_neg hz] at hr
          simp [g0, g3, g4, hL, w1, w2, w3, hi1, hi2, hi2', hi3, hi3', hX, hop, wd1, hz, wz]
          exact ih f _ (by omega) ⟨I2, dp + 1, by omega, by omega, by omega, by omega, by simp [g0], by simp [wd1], by simp [w3], hr⟩
      · have hop' : decide (X = ⟨#[40, 42]⟩) = false := decide_eq_false hop
        rw [← ho, hop', if_neg (by simp)] at hr
        by_cases hst : X = ⟨#[42, 41]⟩
        · rw [← hsh, decide_eq_true hst, if_pos rfl] at hr
          have hne : ¬ (⟨#[42, 41]⟩ : ByteArray) = ⟨#[40, 42]⟩ := by rw [← hst]; exact hop
          by_cases hz : dp - 1 = 0
          · rw [if_pos hz] at hr
            subst hr
            simp [g0, g3, g4, hL, w1, w2, w3, hi1, hi2, hi2', hi3, hi3', hX, hop, hst, hne, wd2, hz, wz]
          · rw [if_neg hz] at hr
            simp [g0, g3, g4, hL, w1, w2, w3, hi1, hi2, hi2', hi3, hi3', hX, hop, hst, hne, wd2, hz, wz]
            exact ih f _ (by omega) ⟨I2, dp - 1, by omega, by omega, by omega, by omega, by simp [g0], by simp [wd2], by simp [w3], hr⟩
        · rw [← hsh, decide_eq_false hst, if_neg (by simp)] at hr
          by_cases hz : dp = 0
          · rw [if_pos hz] at hr
            subst hr
            simp [g0, g3, g4, hL, w1, w2, w3, hi1, hi2, hi2', hi3, hi3', hX, hop, hst, hz]
          · rw [if_neg hz] at hr
            simp [g0, g3, g4, hL, w1, w2, w3, hi1, hi2, hi2', hi3, hi3', hX, hop, hst, hz]
            exact ih f _ (by omega) ⟨I1, dp, by omega, by omega, by omega, by omega, by simp [g0], by simp [g3], by simp [w1], hr⟩
    · rw [if_neg hc] at hr
      subst hr
      have hi1 : ¬ ((I1 : Nat) : Int) < s.size := by omega
      rw [← hI1] at w1
      simp [g0, g3, g4, hL, w1, hi1]
noncomputable def c146 := ctr (fun s : ByteArray => s.size ≤ 1000000000) (fun s => [.str s]) (fun s => (false, .int .i64 (remI s (s.size + 1) 0 0)))
theorem c146_eq (s : ByteArray) (h : s.size ≤ 1000000000) : c146 [.str s] = some (false, .int .i64 (remI s (s.size + 1) 0 0)) := ctr_eq (by simp) s h rfl
theorem c146_ok : COK Tryz.prog (146, c146) := ctr_ok fun n h => f146_ok n h
def hasR (t : S) (v : V) (z : Nat) (xs : List V) : Prop := ∃ r, v = .own r ∧ r < t.nt ∧ t.R r = some ⟨z, xs, true⟩
@[simp] theorem hasR_own {t : S} {r z : Nat} {xs : List V} : hasR t (.own r) z xs ↔ r < t.nt ∧ t.R r = some ⟨z, xs, true⟩ :=
  ⟨fun ⟨_, h, h2⟩ => by cases h; exact h2, fun h => ⟨r, rfl, h⟩⟩
theorem roomTok (n : Nat) (h : n ≤ 1000000002) : room ⟨4, true, 40, .agg [.int .i64 0, .str ⟨#[]⟩, .int .i64 0, .int .i64 0]⟩ n := by simp [room]; omega
theorem pre_open {s : ByteArray} {p : Nat} (hp : p < s.size) : preB (s.extract p s.size) ⟨#[40, 42]⟩ = isOpenC s p := by
  unfold preB
  have hz : (⟨#[40, 42]⟩ : ByteArray).size = 2 := rfl
  rw [hz, extract_sz s (Nat.le_refl _)]
  by_cases h : p + 1 < s.size
  · have e : (s.extract p s.size).extract 0 2 = s.extract p (p + 2) := by
      have h2 : p + 2 ≤ s.size := by omega
      rw [ByteArray.extract_extract]
      simp [Nat.min_eq_left h2]
    rw [e, open_ext h]
    have : 2 ≤ s.size - p := by omega
    simp [this]
  · have h2 : ¬ 2 ≤ s.size - p := by omega
    unfold isOpenC
    simp [h, h2]
theorem rem_fuel (s : ByteArray) : ∀ (f i : Nat) (d : Int), s.size ≤ i + f → remI s (f + 1) i d = remI s f i d
  | 0, i, d, h => by
    unfold remI
    rw [if_neg (by omega)]
  | f + 1, i, d, h => by
    rw [remI]
    conv => rhs; rw [remI]
    rw [rem_fuel s f (i + 2) _ (by omega), rem_fuel s f (i + 2) _ (by omega), rem_fuel s f (i + 1) _ (by omega)]
theorem rem_fix (s : ByteArray) (k : Nat) : remI s (s.size + 1 + k) 0 0 = remI s (s.size + 1) 0 0 := by
  induction k with
  | zero => rfl
  | succ k ih => rw [show s.size + 1 + (k + 1) = (s.size + 1 + k) + 1 by omega, rem_fuel s _ 0 0 (by omega), ih]
theorem f92_ok (s : ByteArray) (hs : s.size ≤ 1000000000) : FunOK Tryz.prog 92 [.str s] false (.tup [.inl 4 ((readT s).1.map Tok.v), .int .i64 (readT s).2.1, .int .i64 (readT s).2.2]) := by
  refine fun_ok (mkE_ok zmix (cl := [(145, c145), (146, c146), (147, c147)]) (gl := []) [] ⟨c145_ok, c146_ok, c147_ok⟩ trivial) Tryz.func92 (by kernel_rfl) ?_
  refine FunW_run _ _ rfl rfl ?_
  unfold readT
  by_cases hbig : 1200 < s.size
  · have hbig' : (1200 : Int) < s.size := by omega
    rw [if_pos hbig]
    simp [hbig']
  · have hbig' : ¬ (1200 : Int) < s.size := by omega
    rw [if_neg hbig]
    generalize hE : rtL s (s.size + 1) 0 [] = E
    simp [hbig']
    refine lp_ind (fun f t => ∃ (p : Nat) (out : List Tok), s.size < p + f ∧ p ≤ s.size ∧ out.length ≤ p ∧ t.e 0 = .str s ∧ t.e 6 = .int .i64 p ∧ hasR t (t.e 5) 4 (out.map Tok.v) ∧ rtL s f p out = E) (s.size + 1) ⟨0, [], by omega, by omega, by simp, by simp, by simp, by simp, hE⟩ ?_
    rintro c' L hL f t ih ⟨p, out, hpf, hps, hol, g0, g6, ⟨r, g5, hlt, hR⟩, hr⟩
    have n1 : ¬ r = t.nt := by omega
    have n2 : ¬ r = t.nt + 1 := by omega
    cases f with
    | zero => omega
    | succ f =>
      unfold rtL at hr
      by_cases hp : p < s.size
      · have hp' : (p : Int) < s.size := by omega
        have hple : (p : Int) ≤ s.size := by omega
        have hgp := bA_get hp
        have w1 : IntKind.i64.wrap ((p : Int) + 1) = ((p + 1 : Nat) : Int) := (wrap64 (by omega) (by omega)).trans (by omega)
        rw [if_pos hp] at hr
        have hX : (s.extract p s.size).size = s.size - p := extract_sz s (Nat.le_refl _)
        have e145 := c145_eq (s.extract p s.size) ⟨#[40, 42]⟩ (by rw [hX]; simp only [lim]; omega) (by decide)
        rw [pre_open hp] at e145
        have e146 := c146_eq (s.extract p s.size) (by rw [hX]; omega)
        have hfx := rem_fix (s.extract p s.size) p
        rw [hX, show s.size - p + 1 + p = s.size + 1 by omega] at hfx
        rw [hX, ← hfx] at e146
        have hrle := remI_le (s.extract p s.size) (s.size + 1) 0 0
        rw [hX] at hrle
        have e147 := c147_eq (s.extract p s.size) (by omega) (by omega)
        have htk := (tok_one (s := s.extract p s.size) (by omega)).2
        rw [hX] at htk
        by_cases hb : bA s p = 32 ∨ bA s p = 10
        · rw [if_pos hb] at hr
          have fin : ∀ t' : S, t'.e 0 = .str s → t'.e 6 = .int .i64 ((p + 1 : Nat) : Int) → t'.e 5 = .own r → t'.R = t.R → t.nt ≤ t'.nt → L t' := fun t' k0 k6 k5 kR kn =>
            ih f t' (by omega) ⟨p + 1, out, by omega, by omega, by omega, k0, k6, ⟨r, k5, by omega, by rw [kR]; exact hR⟩, hr⟩
          by_cases hb1 : bA s p = 32
          · rw [hb1] at hgp
            simp [g0, g5, g6, hL, hp, hp', hgp]
            exact fin _ (by simp [g0]) (by simp [w1]) (by simp [g5]) (by simp) (by simp)
          · have hb2 : bA s p = 10 := hb.resolve_left hb1
            rw [hb2] at hgp
            simp [g0, g5, g6, hL, hp, hp', hgp]
            exact fin _ (by simp [g0]) (by simp [w1]) (by simp [g5]) (by simp) (by simp)
        · rw [if_neg hb] at hr
          have b1 : ¬ (bA s p : Int) = 32 := by omega
          have b2 : ¬ (bA s p : Int) = 10 := by omega
          generalize bA s p = x at *
          generalize hXX : s.extract p s.size = X at *
          cases hop : isOpenC s p with
          | true =>
            rw [hop] at e145
            rw [if_pos hop] at hr
            generalize remI X (s.size + 1) 0 0 = q at *
            by_cases hq : q = 0
            · rw [if_pos hq] at hr
              subst hr
              subst hq
              simp [g0, g5, g6, hL, hp, hp', hple, hps, hgp, b1, b2, hXX, e145, e146]
            · rw [if_neg hq] at hr
              have hq' : ¬ (q : Int) = 0 := by omega
              have wq : IntKind.i64.wrap ((p : Int) + (q : Int)) = ((p + q : Nat) : Int) := (wrap64 (by omega) (by omega)).trans (by omega)
              simp [g0, g5, g6, hL, hp, hp', hple, hps, hgp, b1, b2, hXX, e145, e146, hq, hq']
              exact ih f _ (by omega) ⟨p + q, out, by omega, by omega, by omega, by simp [g0], by simp [wq], ⟨r, by simp [g5], by simp <;> omega, by simp [hR]⟩, hr⟩
          | false =>
            rw [hop] at e145
            rw [if_neg (by simp [hop])] at hr
            generalize tokA X = R at *
            obtain ⟨⟨rk, rt, rv, ra⟩, rn, rc⟩ := R
            simp only at hr e147 htk
            by_cases hc : rc = 0
            · rw [if_pos hc] at hr
              obtain ⟨_, _, k4, k5⟩ := htk hc
              have hc' : (rc : Int) = 0 := by omega
              have wn : IntKind.i64.wrap ((p : Int) + (rn : Int)) = ((p + rn : Nat) : Int) := (wrap64 (by omega) (by omega)).trans (by omega)
              have r1 := roomTok 1 (by omega)
              have r2 := roomTok (out.length + 1) (by omega)
              simp [g0, g5, g6, hL, hp, hp', hple, hps, hgp, b1, b2, hXX, e145, e147, hc, hR, n1, n2, r1, r2]
              exact ih f _ (by omega) ⟨p + rn, out ++ [⟨rk, rt, rv, p⟩], by omega, by omega, by simp; omega, by simp [g0], by simp [wn], ⟨t.nt + 1, by simp, by simp, by simp⟩, hr⟩
            · rw [if_neg hc] at hr
              subst hr
              simp [g0, g5, g6, hL, hp, hp', hple, hps, hgp, b1, b2, hXX, e145, e147, hc]
      · have hp' : ¬ (p : Int) < s.size := by omega
        rw [if_neg hp] at hr
        subst hr
        by_cases h3 : 300 < out.length
        · have h3' : (300 : Int) < out.length := by omega
          simp [g0, g5, g6, hL, hp', hR, h3, h3']
        · have h3' : ¬ (300 : Int) < out.length := by omega
          simp [g0, g5, g6, hL, hp', hR, h3, h3']
noncomputable def c92 := ctr (fun s : ByteArray => s.size ≤ 1000000000) (fun s => [.str s]) (fun s => (false, .tup [.inl 4 ((readT s).1.map Tok.v), .int .i64 (readT s).2.1, .int .i64 (readT s).2.2]))
theorem c92_eq (s : ByteArray) (h : s.size ≤ 1000000000) : c92 [.str s] = some (false, .tup [.inl 4 ((readT s).1.map Tok.v), .int .i64 (readT s).2.1, .int .i64 (readT s).2.2]) := ctr_eq (by simp) s h rfl
theorem c92_ok : COK Tryz.prog (92, c92) := ctr_ok fun n h => f92_ok n h
end Go.TM.Tryz
end
section
set_option maxHeartbeats 16000000
set_option maxRecDepth 20000
namespace Go.TM.Tryz
open Go Go.TM Go.Proofs
theorem f52_ok (l : List Tok) (hl : TokL l) : FunOK Tryz.prog 52 [.lst (l.map Tok.v)] false (.bool (goodI l)) := by
  refine fun_ok (mkE_ok zmix (cl := [(92, c92)]) (gl := []) [] c92_ok trivial) Tryz.func52 (by kernel_rfl) ?_
  refine FunW_run _ _ rfl rfl ?_
  obtain ⟨hlen, htx⟩ := hl
  simp
  refine lp_list l (fun i t => t.e 0 = .lst (l.map Tok.v) ∧ t.e 8 = .lst (l.map Tok.v) ∧ t.e 9 = .int .i64 l.length ∧ t.e 10 = .int .i64 i ∧ (l.take i).all okI = true) ?_ ?_ ?_
  · simp
  · rintro c' L hL i t x hx hi ih ⟨g0, g8, g9, g10, hall⟩
    have wi : IntKind.i64.wrap ((i : Int) + 1) = ((i + 1 : Nat) : Int) := wrap64 (by omega) (by omega)
    have hsz := htx x (List.mem_of_getElem? hx)
    have hno : okI x = false → goodI l = false := fun h => by simp [goodI, all_no hx h]
    have e92 := c92_eq x.text (by omega)
    have hokd := okI.eq_1 x
    generalize readT x.text = R at *
    obtain ⟨T, rc, rp⟩ := R
    by_cases k0 : rc = 0
    · match T with
      | [] =>
        have hok : okI x = false := hokd
        have hnl := hno hok
        simp [-getElem?_pos, gcz, gcs, g0, g8, g9, g10, hL, hi, hx, e92, k0, hnl]
      | y :: z :: r =>
        have hok : okI x = false := hokd
        have hnl := hno hok
        have hn1 : ¬ ((r.length : Int) + 1 + 1 = 1) := by omega
        simp [-getElem?_pos, gcz, gcs, g0, g8, g9, g10, hL, hi, hx, e92, k0, hnl, hn1]
      | [y] =>
        obtain ⟨yk, yt, yv, ya⟩ := y
        simp only [k0, sameT] at hokd
        by_cases k1 : yk = x.kind
        · by_cases k2 : yt = x.text
          · by_cases k3 : yv = x.value
            · have hok : okI x = true := by
                rw [hokd]
                simp [k1, k2, k3]
              simp [-getElem?_pos, gcz, gcs, g0, g8, g9, g10, hL, hi, hx, e92, k0, k1, k2, k3]
              refine ih _ ?_
              simp [g0, g8, g9, g10, wi]
              simpa using all_succ hx hok hall
            · have hok : okI x = false := by
                rw [hokd]
                simp [k3]
              have hnl := hno hok
              simp [-getElem?_pos, gcz, gcs, g0, g8, g9, g10, hL, hi, hx, e92, k0, k1, k2, k3, hnl]
          · have hok : okI x = false := by
              rw [hokd]
              simp [k2]
            have hnl := hno hok
            simp [-getElem?_pos, gcz, gcs, g0, g8, g9, g10, hL, hi, hx, e92, k0, k1, k2, hnl]
        · have hok : okI x = false := by
            rw [hokd]
            simp [k1]
          have hnl := hno hok
          simp [-getElem?_pos, gcz, gcs, g0, g8, g9, g10, hL, hi, hx, e92, k0, k1, hnl]
    · have hok : okI x = false := by
        rw [hokd]
        split
        · rename_i e
          cases e
          simp [k0]
        · rfl
      have hnl := hno hok
      cases T with
      | nil => simp [-getElem?_pos, gcz, gcs, g0, g8, g9, g10, hL, hi, hx, e92, k0, hnl]
      | cons y r => simp [-getElem?_pos, gcz, gcs, g0, g8, g9, g10, hL, hi, hx, e92, k0, hnl]
  · rintro c' t ⟨g0, g8, g9, g10, hall⟩
    rw [List.take_length] at hall
    have hle : (decide ((l.length : Int) ≤ 300)) = decide (l.length ≤ 300) := by
      rw [Bool.eq_iff_iff]
      simp
      omega
    simp [g0, g8, g9, g10, goodI, hall, hle]
noncomputable def c52 := ctr (fun l : List Tok => TokL l) (fun l => [.lst (l.map Tok.v)]) (fun l => (false, .bool (goodI l)))
theorem c52_eq (l : List Tok) (h : TokL l) : c52 [.lst (l.map Tok.v)] = some (false, .bool (goodI l)) := ctr_eq (injl Tok.v_inj _) l h rfl
theorem c52_ok : COK Tryz.prog (52, c52) := ctr_ok fun l h => f52_ok l h
@[simp] def rB (l : List Tok) (s : RS) : V := .agg [.lst (l.map Tok.v), .int .i64 s.at_, .int .i64 s.wr]
theorem f95_ok (t : ByteArray) : FunOK Tryz.prog 95 [.str t] false (.int .i64 (signK t)) := by
  refine fun_ok (mkE_ok zmix (cl := []) (gl := []) [] trivial trivial) Tryz.func95 (by kernel_rfl) ?_
  refine FunW_run _ _ rfl rfl ?_
  unfold signK tPlus tMinus tStar tDiv
  by_cases h1 : t = ⟨#[43]⟩
  · simp [h1]
  · by_cases h2 : t = ⟨#[45]⟩
    · simp [h1, h2]
    · by_cases h3 : t = ⟨#[42]⟩
      · simp [h1, h2, h3]
      · by_cases h4 : t = ⟨#[68, 73, 86]⟩
        · simp [h1, h2, h3, h4]
        · simp [h1, h2, h3, h4]
noncomputable def c95 := ctr (fun _ : ByteArray => True) (fun s => [.str s]) (fun s => (false, .int .i64 (signK s)))
theorem c95_eq (s : ByteArray) : c95 [.str s] = some (false, .int .i64 (signK s)) := ctr_eq (by simp) s trivial rfl
theorem c95_ok : COK Tryz.prog (95, c95) := ctr_ok fun s _ => f95_ok s
theorem c118_bad (ts : List V) : c118 [.lst ts, .bad] = none := by
  unfold c118 ctr
  rw [dif_neg]
  rintro ⟨a, _, h⟩
  simp at h
theorem aftQ_bad2 {E : Env} (dr : Bool) (g x : Bool) (xc xa xb : Operand) (d : Option Tmp) (all : Array Oper) (os : List Oper) (k : List Fr) (Q : X → S → Prop) (s : S) :
    aftQ dr (some false) (.bool g) (.bool x) .bad xc xa xb d all os k E Q s = kont E (.ops dr all os :: k) Q .normal (s.put d (.cnd false .bad)) := by
  simp [aftQ]
theorem f94_ok (l : List Tok) (hl : l.length ≤ 1048576) (s : RS) (hs : s.at_ ≤ l.length) (k : Int) (ts : List ByteArray) (hts : ts.length ≤ lim) :
    FunOK Tryz.prog 94 [.ladr [rB l s] 0 0, .int .i64 k, .lst (ts.map .str)] false (.bool (seesB l s k ts)) := by
  refine fun_ok (mkE_ok zmix (cl := [(118, c118)]) (gl := []) [] c118_ok trivial) Tryz.func94 (by kernel_rfl) ?_
  refine FunW_run _ _ rfl rfl ?_
  obtain ⟨p, wr⟩ := s
  simp only at hs
  unfold seesB
  cases hx : l[p]? with
  | none =>
    have hp : ¬ (p : Int) < l.length := by
      rw [List.getElem?_eq_none_iff] at hx
      omega
    by_cases hw : wr = 0
    · simp [-getElem?_pos, gcz, gcs, hx, hp, hw, c118_bad, aftQ_bad2]
    · simp [-getElem?_pos, gcz, gcs, hx, hp, hw, c118_bad, aftQ_bad2]
  | some t =>
    have hlt : p < l.length := (List.getElem?_eq_some_iff.1 hx).1
    have hp : (p : Int) < l.length := by omega
    have e118 := c118_eq ts t.text hts
    by_cases hw : wr = 0
    · by_cases hk : t.kind = k
      · cases ts with
        | nil =>
          simp only [List.map_nil] at e118
          simp [-getElem?_pos, gcz, gcs, hx, hp, hlt, hw, hk, e118]
        | cons x r =>
          have hn : ¬ ((r.length : Int) + 1 = 0) := by omega
          simp only [List.map_cons] at e118
          simp [-getElem?_pos, gcz, gcs, hx, hp, hlt, hw, hk, e118, hn]
      · cases ts with
        | nil =>
          simp only [List.map_nil] at e118
          simp [-getElem?_pos, gcz, gcs, hx, hp, hlt, hw, hk, e118]
        | cons x r =>
          have hn : ¬ ((r.length : Int) + 1 = 0) := by omega
          simp only [List.map_cons] at e118
          simp [-getElem?_pos, gcz, gcs, hx, hp, hlt, hw, hk, e118, hn]
    · cases ts with
      | nil =>
        simp only [List.map_nil] at e118
        simp [-getElem?_pos, gcz, gcs, hx, hp, hlt, hw, e118]
      | cons x r =>
        have hn : ¬ ((r.length : Int) + 1 = 0) := by omega
        simp only [List.map_cons] at e118
        simp [-getElem?_pos, gcz, gcs, hx, hp, hlt, hw, e118, hn]
end Go.TM.Tryz
end
section
set_option maxHeartbeats 16000000
set_option maxRecDepth 20000
namespace Go.TM.Tryz
open Go Go.TM Go.Proofs
structure ROK (l : List Tok) (s : RS) : Prop where
  a : s.at_ ≤ l.length
  b : l.length ≤ 1048576
theorem strs_inj {a b : List ByteArray} (h : a.map V.str = b.map V.str) : a = b := map_inj str_inj h
theorem inj94 {l : List Tok} {β : Type} (out : RS × Int × List ByteArray → β) : ∀ x y : RS × Int × List ByteArray, ([V.ladr [rB l x.1] 0 0, .int .i64 x.2.1, .lst (x.2.2.map .str)] : List V) = [.ladr [rB l y.1] 0 0, .int .i64 y.2.1, .lst (y.2.2.map .str)] → out x = out y := by
  rintro ⟨⟨a, c⟩, i, ts⟩ ⟨⟨e, f⟩, k, us⟩ h
  simp only [List.cons.injEq, and_true, true_and, rB, V.agg.injEq, V.int.injEq, V.ladr.injEq, V.lst.injEq] at h
  have h1 : a = e := by omega
  have h2 : c = f := by omega
  rw [h1, h2, h.2.1, strs_inj h.2.2]
noncomputable def c94 (l : List Tok) := ctr (fun a : RS × Int × List ByteArray => ROK l a.1 ∧ a.2.2.length ≤ lim) (fun a => [.ladr [rB l a.1] 0 0, .int .i64 a.2.1, .lst (a.2.2.map .str)]) (fun a => (false, .bool (seesB l a.1 a.2.1 a.2.2)))
theorem c94_eq (l : List Tok) (s : RS) (h : ROK l s) (k : Int) (ts : List ByteArray) (ht : ts.length ≤ lim) : c94 l [.ladr [rB l s] 0 0, .int .i64 k, .lst (ts.map .str)] = some (false, .bool (seesB l s k ts)) := ctr_eq (inj94 _) (s, k, ts) ⟨h, ht⟩ rfl
theorem c94_ok (l : List Tok) : COK Tryz.prog (94, c94 l) := ctr_ok fun a h => f94_ok l h.1.b a.1 h.1.a a.2.1 a.2.2 h.2
theorem injR0 {l : List Tok} {β : Type} (out : RS → β) : ∀ x y : RS, (([V.ptr 0 0], [rB l x]) : List V × List V) = ([.ptr 0 0], [rB l y]) → out x = out y := by
  rintro ⟨a, c⟩ ⟨e, f⟩ h
  simp only [Prod.mk.injEq, List.cons.injEq, and_true, true_and, rB, V.agg.injEq, V.int.injEq] at h
  have h1 : a = e := by omega
  have h2 : c = f := by omega
  rw [h1, h2]
theorem f54_ok (l : List Tok) (s : RS) (h : ROK l s) : GenOK Tryz.prog 54 [.ptr 0 0] [rB l s] ⟨false, .tup [], [], [rB l (failI s)]⟩ := by
  refine fun_okG (mkE_ok zmix (cl := []) (gl := []) [] trivial trivial) Tryz.func54 (by kernel_rfl) ?_
  refine FunG_run _ _ rfl rfl ?_
  obtain ⟨p, wr⟩ := s
  obtain ⟨ha, hb⟩ := h
  simp only at ha
  have w : IntKind.i64.wrap ((p : Int) + 1) = ((p + 1 : Nat) : Int) := (wrap64 (by omega) (by omega)).trans (by omega)
  unfold failI
  by_cases h : wr = 0
  · simp [h, w]
  · simp [h]
noncomputable def c54 (l : List Tok) := ctrG (fun s : RS => ROK l s) (fun s => ([.ptr 0 0], [rB l s])) (fun s => ⟨false, .tup [], [], [rB l (failI s)]⟩)
theorem c54_eq (l : List Tok) (s : RS) (h : ROK l s) : c54 l [.ptr 0 0] [rB l s] = some ⟨false, .tup [], [], [rB l (failI s)]⟩ := ctrG_eq (injR0 _) s h rfl
theorem c54_ok (l : List Tok) : GOK Tryz.prog (54, [], c54 l) := ctrG_ok fun s h => f54_ok l s h
theorem injR3 {l : List Tok} {β : Type} (out : RS × Int × List ByteArray → β) : ∀ x y : RS × Int × List ByteArray, (([V.ptr 0 0, .int .i64 x.2.1, .lst (x.2.2.map .str)], [rB l x.1]) : List V × List V) = ([.ptr 0 0, .int .i64 y.2.1, .lst (y.2.2.map .str)], [rB l y.1]) → out x = out y := by
  rintro ⟨⟨a, c⟩, i, ts⟩ ⟨⟨e, f⟩, k, us⟩ h
  simp only [Prod.mk.injEq, List.cons.injEq, and_true, true_and, rB, V.agg.injEq, V.int.injEq, V.lst.injEq] at h
  have h1 : a = e := by omega
  have h2 : c = f := by omega
  rw [h1, h2, h.1.1, strs_inj h.1.2]
theorem f149_ok (l : List Tok) (s : RS) (h : ROK l s) (k : Int) (ts : List ByteArray) (ht : ts.length ≤ lim) : GenOK Tryz.prog 149 [.ptr 0 0, .int .i64 k, .lst (ts.map .str)] [rB l s] ⟨true, .bool (seesB l s k ts), [], [rB l (takeI l s k ts)]⟩ := by
  refine fun_okG (mkE_ok zmix (cl := [(94, c94 l)]) (gl := []) [] (c94_ok l) trivial) Tryz.func149 (by kernel_rfl) ?_
  refine FunG_run _ _ rfl rfl ?_
  have e94 := c94_eq l s h k ts ht
  unfold takeI
  obtain ⟨p, wr⟩ := s
  obtain ⟨ha, hb⟩ := h
  simp only at ha
  have w : IntKind.i64.wrap ((p : Int) + 1) = ((p + 1 : Nat) : Int) := (wrap64 (by omega) (by omega)).trans (by omega)
  simp only [rB] at e94
  cases hs : seesB l ⟨p, wr⟩ k ts with
  | true =>
    rw [hs] at e94
    simp [e94, w]
  | false =>
    rw [hs] at e94
    simp [e94]
noncomputable def c149 (l : List Tok) := ctrG (fun a : RS × Int × List ByteArray => ROK l a.1 ∧ a.2.2.length ≤ lim) (fun a => ([.ptr 0 0, .int .i64 a.2.1, .lst (a.2.2.map .str)], [rB l a.1])) (fun a => ⟨true, .bool (seesB l a.1 a.2.1 a.2.2), [], [rB l (takeI l a.1 a.2.1 a.2.2)]⟩)
theorem c149_eq (l : List Tok) (s : RS) (h : ROK l s) (k : Int) (ts : List ByteArray) (ht : ts.length ≤ lim) : c149 l [.ptr 0 0, .int .i64 k, .lst (ts.map .str)] [rB l s] = some ⟨true, .bool (seesB l s k ts), [], [rB l (takeI l s k ts)]⟩ := ctrG_eq (injR3 _) (s, k, ts) ⟨h, ht⟩ rfl
theorem c149_ok (l : List Tok) : GOK Tryz.prog (149, [], c149 l) := ctrG_ok fun a h => f149_ok l a.1 h.1 a.2.1 a.2.2 h.2
def cut96 : Pl := ⟨[], [(0, false), (1, false), (2, false), (3, false), (4, false), (5, false), (6, false), (7, false), (8, false), (9, false), (10, false)], [], [11], .one false 11 .done⟩
theorem cut96_run {E : Env} (pl : Option (List (Nat × Bool))) (ops : Array Oper) (k : List Fr) (Q : X → S → Prop) (s : S) : aftE (some cut96) pl ops k E Q s = preK E ops k Q (.one false 11 .done) [(0, false), (1, false), (2, false), (3, false), (4, false), (5, false), (6, false), (7, false), (8, false), (9, false), (10, false)] s := rfl
theorem f96_ok (l : List Tok) (s : RS) (h : ROK l s) (k : Int) (ts : List ByteArray) (ht : ts.length ≤ lim) : GenOK Tryz.prog 96 [.ptr 0 0, .int .i64 k, .lst (ts.map .str)] [rB l s] ⟨true, (needI l s k ts).1.v, [], [rB l (needI l s k ts).2]⟩ := by
  refine fun_okG (mkE2_ok zmix (cl := []) (gl := [(149, [], c149 l), (54, [], c54 l)]) [] [(4, cut96)] trivial ⟨c149_ok l, c54_ok l⟩) Tryz.func96 (by kernel_rfl) ?_
  refine FunG_run _ _ rfl rfl ?_
  have e149 := c149_eq l s h k ts ht
  have e54 := c54_eq l s h
  unfold takeI at e149
  unfold needI
  cases hs : seesB l s k ts with
  | true =>
    rw [hs] at e149
    obtain ⟨hw, t, ht', hk, _⟩ := seesB_yes hs
    have hlt := sees_lt hs
    obtain ⟨p, wr⟩ := s
    obtain ⟨ha, hb⟩ := h
    simp only at ha ht' hlt
    have w : IntKind.i64.wrap (((p + 1 : Nat) : Int) - 1) = (p : Int) := (wrap64 (by omega) (by omega)).trans (by omega)
    obtain ⟨p1, hp1⟩ : ∃ p1, p1 = p + 1 := ⟨_, rfl⟩
    simp only [if_true] at e149
    simp only [rB, ← hp1] at e149 w
    have htk : tokI l ⟨p, wr⟩ = t := by simp [tokI, ht']
    rw [if_pos rfl, htk, ← hp1]
    simp [-getElem?_pos, gcz, gcs, e149, w, ht', hlt, pureOp, -aftE_some, cut96_run]
  | false =>
    rw [hs] at e149
    simp only [if_false, Bool.false_eq_true] at e149
    rw [if_neg (by simp)]
    generalize failI s = q at *
    simp only [rB] at e149 e54
    simp [e149, e54, Tok.zero]
noncomputable def c96 (l : List Tok) := ctrG (fun a : RS × Int × List ByteArray => ROK l a.1 ∧ a.2.2.length ≤ lim) (fun a => ([.ptr 0 0, .int .i64 a.2.1, .lst (a.2.2.map .str)], [rB l a.1])) (fun a => ⟨true, (needI l a.1 a.2.1 a.2.2).1.v, [], [rB l (needI l a.1 a.2.1 a.2.2).2]⟩)
theorem c96_eq (l : List Tok) (s : RS) (h : ROK l s) (k : Int) (ts : List ByteArray) (ht : ts.length ≤ lim) : c96 l [.ptr 0 0, .int .i64 k, .lst (ts.map .str)] [rB l s] = some ⟨true, (needI l s k ts).1.v, [], [rB l (needI l s k ts).2]⟩ := ctrG_eq (injR3 _) (s, k, ts) ⟨h, ht⟩ rfl
theorem c96_ok (l : List Tok) : GOK Tryz.prog (96, [], c96 l) := ctrG_ok fun a h => f96_ok l a.1 h.1 a.2.1 a.2.2 h.2
theorem need_ok {l : List Tok} {s : RS} (h : ROK l s) (k : Int) (ts : List ByteArray) : ROK l (needI l s k ts).2 := ⟨(needI_at h.a).2, h.b⟩
theorem f196_ok (l : List Tok) (s : RS) (h : ROK l s) : GenOK Tryz.prog 196 [.ptr 0 0] [rB l s] ⟨true, .tup [.str (nameI l s).1.1, .str (nameI l s).1.2], [], [rB l (nameI l s).2]⟩ := by
  refine fun_okG (mkE_ok zmix (cl := []) (gl := [(149, [], c149 l), (96, [], c96 l)]) [] trivial ⟨c149_ok l, c96_ok l⟩) Tryz.func196 (by kernel_rfl) ?_
  refine FunG_run _ _ rfl rfl ?_
  have e1 := c96_eq l s h 1 [] (by simp [lim])
  have h1 := need_ok h 1 []
  unfold nameI
  generalize needI l s 1 [] = q at *
  obtain ⟨t, u⟩ := q
  simp only at h1 e1
  have e2 := c149_eq l u h1 4 [tDot] (by simp [lim])
  unfold takeI at e2
  cases hs : seesB l u 4 [tDot] with
  | true =>
    have hlt := sees_lt hs
    rw [hs] at e2
    have h2 : ROK l ⟨u.at_ + 1, u.wr⟩ := ⟨by simp only; omega, h1.b⟩
    have e3 := c96_eq l ⟨u.at_ + 1, u.wr⟩ h2 1 [] (by simp [lim])
    simp only [if_true]
    generalize needI l ⟨u.at_ + 1, u.wr⟩ 1 [] = q2 at *
    obtain ⟨t2, u2⟩ := q2
    simp only [if_true, tDot, List.map_cons, List.map_nil] at e1 e2 e3 ⊢
    generalize hv : u.at_ + 1 = v at *
    simp only [rB] at e1 e2 e3
    simp [e1, e2, e3]
  | false =>
    rw [hs] at e2
    simp only [if_false, Bool.false_eq_true, tDot, List.map_cons, List.map_nil] at e1 e2 ⊢
    simp only [rB] at e1 e2
    simp [e1, e2]
noncomputable def c196 (l : List Tok) := ctrG (fun s : RS => ROK l s) (fun s => ([.ptr 0 0], [rB l s])) (fun s => ⟨true, .tup [.str (nameI l s).1.1, .str (nameI l s).1.2], [], [rB l (nameI l s).2]⟩)
theorem c196_eq (l : List Tok) (s : RS) (h : ROK l s) : c196 l [.ptr 0 0] [rB l s] = some ⟨true, .tup [.str (nameI l s).1.1, .str (nameI l s).1.2], [], [rB l (nameI l s).2]⟩ := ctrG_eq (injR0 _) s h rfl
theorem c196_ok (l : List Tok) : GOK Tryz.prog (196, [], c196 l) := ctrG_ok fun s h => f196_ok l s h
end Go.TM.Tryz
end
section
set_option maxHeartbeats 16000000
set_option maxRecDepth 20000
namespace Go.TM.Tryz
open Go Go.TM Go.Proofs
theorem roomStp {n : Nat} (h : n ≤ 4194304) : room ⟨4, true, 48, .agg [.int .i64 0, .int .i64 0, .str ⟨#[]⟩, .str ⟨#[]⟩]⟩ n := by simp [room]; omega
structure FOK (l : List Tok) (n : Nat) (s : RS) : Prop where
  r : ROK l s
  f : l.length < s.at_ + n
noncomputable def cF (l : List Tok) (n : Nat) := ctrG (fun s : RS => FOK l n s) (fun s => ([.ptr 0 0], [rB l s])) (fun s => ⟨false, .inl 4 ((facI l n s).1.map Stp.v), [], [rB l (facI l n s).2]⟩)
theorem cF_eq {l : List Tok} {n : Nat} {s : RS} (h : FOK l n s) : cF l n [.ptr 0 0] [rB l s] = some ⟨false, .inl 4 ((facI l n s).1.map Stp.v), [], [rB l (facI l n s).2]⟩ := ctrG_eq (injR0 _) s h rfl
noncomputable def cT (l : List Tok) (n : Nat) := ctrG (fun s : RS => FOK l n s) (fun s => ([.ptr 0 0], [rB l s])) (fun s => ⟨false, .inl 4 ((termI l (facI l n) s).1.map Stp.v), [], [rB l (termI l (facI l n) s).2]⟩)
theorem cT_eq {l : List Tok} {n : Nat} {s : RS} (h : FOK l n s) : cT l n [.ptr 0 0] [rB l s] = some ⟨false, .inl 4 ((termI l (facI l n) s).1.map Stp.v), [], [rB l (termI l (facI l n) s).2]⟩ := ctrG_eq (injR0 _) s h rfl
noncomputable def cE (l : List Tok) (n : Nat) := ctrG (fun s : RS => FOK l n s) (fun s => ([.ptr 0 0], [rB l s])) (fun s => ⟨false, .inl 4 ((exprI l (facI l n) s).1.map Stp.v), [], [rB l (exprI l (facI l n) s).2]⟩)
theorem cE_eq {l : List Tok} {n : Nat} {s : RS} (h : FOK l n s) : cE l n [.ptr 0 0] [rB l s] = some ⟨false, .inl 4 ((exprI l (facI l n) s).1.map Stp.v), [], [rB l (exprI l (facI l n) s).2]⟩ := ctrG_eq (injR0 _) s h rfl
theorem c94_bad (l : List Tok) (x : V) (k : V) : c94 l [x, k, .bad] = none := by
  unfold c94 ctr
  rw [dif_neg]
  rintro ⟨a, _, h⟩
  simp at h
theorem term_ok {l : List Tok} {n : Nat} (hF : GOK Tryz.prog (148, [], cF l n)) : GOK Tryz.prog (93, [], cT l n) := by
  refine ctrG_ok fun s h => ?_
  refine fun_okG (mkE_ok zmix (cl := [(94, c94 l), (95, c95)]) (gl := [(148, [], cF l n)]) [] ⟨c94_ok l, c95_ok⟩ hF) Tryz.func93 (by kernel_rfl) ?_
  refine FunG_run _ _ rfl rfl ?_
  have e1 := cF_eq h
  obtain ⟨k1, k2, k3⟩ := fac_far n s h.r.a
  generalize hT : termI l (facI l n) s = T
  unfold termI at hT
  have hlen := h.r.b
  have hfu := h.f
  generalize facI l n s = q at *
  obtain ⟨o, s1⟩ := q
  simp only at e1 k1 k2 k3 hT
  simp only [rB] at e1
  simp [e1]
  refine lp_ind (fun f t => ∃ (o : List Stp) (u : RS) (r : Nat), l.length < u.at_ + f ∧ s.at_ ≤ u.at_ ∧ u.at_ ≤ l.length ∧ o.length ≤ u.at_ ∧ t.e 0 = .ptr 0 0 ∧ t.B 0 = some (.agg [.lst (l.map Tok.v), .int .i64 u.at_, .int .i64 u.wr]) ∧ t.nb = 1 ∧ t.e 3 = .own r ∧ r < t.nt ∧ t.R r = some ⟨4, o.map Stp.v, true⟩ ∧ mulI l (facI l n) f o u = T) (l.length + 1) ⟨o, s1, 1, by omega, k1, k2, by omega, by simp, by simp, by simp, by simp, by simp, by simp, hT⟩ ?_
  rintro c' L hL f t ih ⟨o, u, r, c1, c2, c3, c4, g0, gB, gnb, g3, hlt, hR, hr⟩
  cases f with
  | zero => omega
  | succ f =>
    have hu : ROK l u := ⟨c3, hlen⟩
    have e2 := c94_eq l u hu 4 [tStar] (by simp [lim])
    have e3 := c94_eq l u hu 2 [tDiv, tMod] (by simp [lim])
    simp only [rB, tStar, tDiv, tMod, List.map_cons, List.map_nil] at e2 e3
    unfold mulI at hr
    unfold tStar tDiv tMod at hr
    have n1 : ¬ r = t.nt := by omega
    have n2 : ¬ r = t.nt + 1 := by omega
    have n3 : ¬ r = t.nt + 1 + 1 := by omega
    have n4 : ¬ r = t.nt + 1 + 1 + 1 := by omega
    have hrg : List.range 2 = [0, 1] := rfl
    cases hs1 : seesB l u 4 [⟨#[42]⟩] with
    | true =>
      have hat := sees_lt hs1
      rw [hs1] at e2
      rw [if_pos (by simp [hs1])] at hr
      have hat' : (u.at_ : Int) < l.length := by omega
      obtain ⟨tk, htk⟩ : ∃ tk, l[u.at_]? = some tk := ⟨_, List.getElem?_eq_getElem hat⟩
      have htok : tokI l u = tk := by simp [tokI, htk]
      rw [htok] at hr
      have e5 := c95_eq tk.text
      have w1 : IntKind.i64.wrap ((u.at_ : Int) + 1) = ((u.at_ + 1 : Nat) : Int) := (wrap64 (by omega) (by omega)).trans (by omega)
      have e4 := cF_eq (l := l) (n := n) (s := ⟨u.at_ + 1, u.wr⟩) ⟨⟨hat, hlen⟩, by simp only; omega⟩
      obtain ⟨m1, m2, m3⟩ := fac_far (l := l) n ⟨u.at_ + 1, u.wr⟩ hat
      generalize facI l n ⟨u.at_ + 1, u.wr⟩ = q at *
      obtain ⟨o2, u2⟩ := q
      simp only at e4 m1 m2 m3 hr
      obtain ⟨v, hv⟩ : ∃ v, v = u.at_ + 1 := ⟨_, rfl⟩
      rw [← hv] at w1
      simp only [rB, ← hv] at e4
      generalize signK tk.text = sk at *
      have r1 := roomStp (n := o.length + o2.length) (by omega)
      have r2 := roomStp (n := 1) (by omega)
      have r3 := roomStp (n := o.length + o2.length + 1) (by omega)
      have fin : ∀ (t' : S) (r' : Nat), t'.e 0 = .ptr 0 0 → t'.B 0 = some (.agg [.lst (l.map Tok.v), .int .i64 u2.at_, .int .i64 u2.wr]) → t'.nb = 1 → t'.e 3 = .own r' → r' < t'.nt → t'.R r' = some ⟨4, (o ++ o2 ++ [stK sk]).map Stp.v, true⟩ → L t' := fun t' r' j0 jB jn j3 jl jR =>
        ih f t' (by omega) ⟨o ++ o2 ++ [stK sk], u2, r', by omega, by omega, by omega, by simp; omega, j0, jB, jn, j3, jl, jR, hr⟩
      simp [-getElem?_pos, gcz, gcs, g0, gB, gnb, g3, hR, hL, e2, e3, n1, n2, n3, n4, hrg, c94_bad, hat, hat', htk, e5, w1, e4, r1, r2, r3]
      refine fin _ (t.nt + 4) ?_ ?_ ?_ ?_ ?_ ?_ <;> simp [g0, gB, gnb, n1, n2, n3, n4, stK]
    | false =>
      cases hs2 : seesB l u 2 [⟨#[68, 73, 86]⟩, ⟨#[77, 79, 68]⟩] with
      | true =>
        have hat := sees_lt hs2
        rw [hs1] at e2
        rw [hs2] at e3
        rw [if_pos (by simp [hs1, hs2])] at hr
        have hat' : (u.at_ : Int) < l.length := by omega
        obtain ⟨tk, htk⟩ : ∃ tk, l[u.at_]? = some tk := ⟨_, List.getElem?_eq_getElem hat⟩
        have htok : tokI l u = tk := by simp [tokI, htk]
        rw [htok] at hr
        have e5 := c95_eq tk.text
        have w1 : IntKind.i64.wrap ((u.at_ : Int) + 1) = ((u.at_ + 1 : Nat) : Int) := (wrap64 (by omega) (by omega)).trans (by omega)
        have e4 := cF_eq (l := l) (n := n) (s := ⟨u.at_ + 1, u.wr⟩) ⟨⟨hat, hlen⟩, by simp only; omega⟩
        obtain ⟨m1, m2, m3⟩ := fac_far (l := l) n ⟨u.at_ + 1, u.wr⟩ hat
        generalize facI l n ⟨u.at_ + 1, u.wr⟩ = q at *
        obtain ⟨o2, u2⟩ := q
        simp only at e4 m1 m2 m3 hr
        obtain ⟨v, hv⟩ : ∃ v, v = u.at_ + 1 := ⟨_, rfl⟩
        rw [← hv] at w1
        simp only [rB, ← hv] at e4
        generalize signK tk.text = sk at *
        have r1 := roomStp (n := o.length + o2.length) (by omega)
        have r2 := roomStp (n := 1) (by omega)
        have r3 := roomStp (n := o.length + o2.length + 1) (by omega)
        have fin : ∀ (t' : S) (r' : Nat), t'.e 0 = .ptr 0 0 → t'.B 0 = some (.agg [.lst (l.map Tok.v), .int .i64 u2.at_, .int .i64 u2.wr]) → t'.nb = 1 → t'.e 3 = .own r' → r' < t'.nt → t'.R r' = some ⟨4, (o ++ o2 ++ [stK sk]).map Stp.v, true⟩ → L t' := fun t' r' j0 jB jn j3 jl jR =>
          ih f t' (by omega) ⟨o ++ o2 ++ [stK sk], u2, r', by omega, by omega, by omega, by simp; omega, j0, jB, jn, j3, jl, jR, hr⟩
        simp [-getElem?_pos, gcz, gcs, g0, gB, gnb, g3, hR, hL, e2, e3, n1, n2, n3, n4, hrg, c94_bad, hat, hat', htk, e5, w1, e4, r1, r2, r3]
        refine fin _ (t.nt + 5) ?_ ?_ ?_ ?_ ?_ ?_ <;> simp [g0, gB, gnb, n1, n2, n3, n4, stK]
      | false =>
        rw [hs1] at e2
        rw [hs2] at e3
        rw [if_neg (by simp [hs1, hs2])] at hr
        subst hr
        simp [-getElem?_pos, gcz, gcs, g0, gB, gnb, g3, hR, hL, e2, e3, n1, n2, n3, n4, hrg]
theorem expr_ok {l : List Tok} {n : Nat} (hT : GOK Tryz.prog (93, [], cT l n)) : GOK Tryz.prog (53, [], cE l n) := by
  refine ctrG_ok fun s h => ?_
  refine fun_okG (mkE_ok zmix (cl := [(94, c94 l), (95, c95)]) (gl := [(93, [], cT l n), (96, [], c96 l)]) [] ⟨c94_ok l, c95_ok⟩ ⟨hT, c96_ok l⟩) Tryz.func53 (by kernel_rfl) ?_
  refine FunG_run _ _ rfl rfl ?_
  have e1 := cT_eq h
  obtain ⟨k1, k2, k3⟩ := term_far (a := 0) (fun s _ hs => fac_far n s hs) s (Nat.zero_le _) h.r.a
  generalize hT : exprI l (facI l n) s = T
  unfold exprI at hT
  have hlen := h.r.b
  have hfu := h.f
  generalize termI l (facI l n) s = q at *
  obtain ⟨o, s1⟩ := q
  simp only at e1 k1 k2 k3 hT
  simp only [rB] at e1
  simp [e1]
  refine lp_ind (fun f t => ∃ (o : List Stp) (u : RS) (r : Nat), l.length < u.at_ + f ∧ s.at_ ≤ u.at_ ∧ u.at_ ≤ l.length ∧ o.length ≤ u.at_ ∧ t.e 0 = .ptr 0 0 ∧ t.B 0 = some (.agg [.lst (l.map Tok.v), .int .i64 u.at_, .int .i64 u.wr]) ∧ t.nb = 1 ∧ t.e 3 = .own r ∧ r < t.nt ∧ t.R r = some ⟨4, o.map Stp.v, true⟩ ∧ addI l (termI l (facI l n)) f o u = T) (l.length + 1) ⟨o, s1, 1, by omega, k1, k2, by omega, by simp, by simp, by simp, by simp, by simp, by simp, hT⟩ ?_
  rintro c' L hL f t ih ⟨o, u, r, c1, c2, c3, c4, g0, gB, gnb, g3, hlt, hR, hr⟩
  cases f with
  | zero => omega
  | succ f =>
    have hu : ROK l u := ⟨c3, hlen⟩
    have e2 := c94_eq l u hu 4 [tPlus, tMinus] (by simp [lim])
    simp only [rB, tPlus, tMinus, List.map_cons, List.map_nil] at e2
    unfold addI at hr
    unfold tPlus tMinus at hr
    have n1 : ¬ r = t.nt := by omega
    have n2 : ¬ r = t.nt + 1 := by omega
    have n3 : ¬ r = t.nt + 1 + 1 := by omega
    have n4 : ¬ r = t.nt + 1 + 1 + 1 := by omega
    have hrg : List.range 2 = [0, 1] := rfl
    cases hs1 : seesB l u 4 [⟨#[43]⟩, ⟨#[45]⟩] with
    | true =>
      have hat := sees_lt hs1
      obtain ⟨hw, tk, htk, hk4, _⟩ := seesB_yes hs1
      rw [hs1] at e2
      rw [if_pos hs1] at hr
      have htok : tokI l u = tk := by simp [tokI, htk]
      rw [htok] at hr
      have e5 := c95_eq tk.text
      have hsee : seesB l u 4 [] = true := by simp [seesB, hw, htk, hk4]
      have e6 := c96_eq l u hu 4 [] (by simp [lim])
      have hneed : needI l u 4 [] = (tk, ⟨u.at_ + 1, u.wr⟩) := by simp [needI, hsee, htok]
      rw [hneed] at e6
      simp only [List.map_nil] at e6
      have e4 := cT_eq (l := l) (n := n) (s := ⟨u.at_ + 1, u.wr⟩) ⟨⟨hat, hlen⟩, by simp only; omega⟩
      obtain ⟨m1, m2, m3⟩ := term_far (l := l) (a := 0) (fun s _ hs => fac_far n s hs) ⟨u.at_ + 1, u.wr⟩ (Nat.zero_le _) hat
      generalize termI l (facI l n) ⟨u.at_ + 1, u.wr⟩ = q at *
      obtain ⟨o2, u2⟩ := q
      simp only at e4 m1 m2 m3 hr
      obtain ⟨v, hv⟩ : ∃ v, v = u.at_ + 1 := ⟨_, rfl⟩
      simp only [rB, ← hv] at e4 e6
      obtain ⟨tkk, tkt, tkv, tka⟩ := tk
      simp only at e5 e6 hr
      generalize signK tkt = sk at *
      have r1 := roomStp (n := o.length + o2.length) (by omega)
      have r2 := roomStp (n := 1) (by omega)
      have r3 := roomStp (n := o.length + o2.length + 1) (by omega)
      have fin : ∀ (t' : S) (r' : Nat), t'.e 0 = .ptr 0 0 → t'.B 0 = some (.agg [.lst (l.map Tok.v), .int .i64 u2.at_, .int .i64 u2.wr]) → t'.nb = 1 → t'.e 3 = .own r' → r' < t'.nt → t'.R r' = some ⟨4, (o ++ o2 ++ [stK sk]).map Stp.v, true⟩ → L t' := fun t' r' j0 jB jn j3 jl jR =>
        ih f t' (by omega) ⟨o ++ o2 ++ [stK sk], u2, r', by omega, by omega, by omega, by simp; omega, j0, jB, jn, j3, jl, jR, hr⟩
      simp [-getElem?_pos, gcz, gcs, g0, gB, gnb, g3, hR, hL, e2, n1, n2, n3, n4, hrg, e5, e6, e4, r1, r2, r3]
      refine fin _ (t.nt + 4) ?_ ?_ ?_ ?_ ?_ ?_ <;> simp [g0, gB, gnb, n1, n2, n3, n4, stK]
    | false =>
      rw [hs1] at e2
      rw [if_neg (by simp [hs1])] at hr
      subst hr
      simp [-getElem?_pos, gcz, gcs, g0, gB, gnb, g3, hR, hL, e2, n1, n2, n3, n4, hrg]
theorem fac_ok {l : List Tok} : ∀ n, GOK Tryz.prog (148, [], cF l n)
  | 0 => ctrG_ok fun s h => by
    have h1 := h.r.a
    have h2 := h.f
    omega
  | n + 1 => by
    have hF := fac_ok (l := l) n
    have hE := expr_ok (term_ok hF)
    refine ctrG_ok fun s h => ?_
    refine fun_okG (mkE_ok zmix (cl := [(94, c94 l)]) (gl := [(96, [], c96 l), (196, [], c196 l), (149, [], c149 l), (53, [], cE l n), (148, [], cF l n), (54, [], c54 l)]) [] (c94_ok l) ⟨c96_ok l, c196_ok l, c149_ok l, hE, hF, c54_ok l⟩) Tryz.func148 (by kernel_rfl) ?_
    refine FunG_run _ _ rfl rfl ?_
    have hR := h.r
    have hf := h.f
    have hlen := h.r.b
    have hat0 := h.r.a
    have e3 := c94_eq l s hR 3 [] (by simp [lim])
    have e1 := c94_eq l s hR 1 [] (by simp [lim])
    have n3 := c96_eq l s hR 3 [] (by simp [lim])
    have m1 := c196_eq l s hR
    have to := c149_eq l s hR 4 [tOpen] (by simp [lim])
    have tm := c149_eq l s hR 4 [tMinus] (by simp [lim])
    have ef := c54_eq l s hR
    have r1 := roomStp (n := 1) (by omega)
    generalize hT : facI l (n + 1) s = T
    unfold facI at hT
    unfold needI at n3
    unfold takeI at to tm
    simp only [List.map_nil] at e3 e1 n3
    cases b3 : seesB l s 3 [] with
    | true =>
      rw [b3] at e3 n3
      rw [if_pos b3] at hT
      subst hT
      generalize tokI l s = tk at *
      obtain ⟨tkk, tkt, tkv, tka⟩ := tk
      simp only [if_true, rB] at e3 n3
      generalize s.at_ + 1 = v at *
      simp [e3, n3, r1]
    | false =>
      rw [b3] at e3
      rw [if_neg (by simp [b3])] at hT
      cases b1 : seesB l s 1 [] with
      | true =>
        rw [b1] at e1
        rw [if_pos b1] at hT
        subst hT
        generalize nameI l s = q at *
        obtain ⟨⟨q1, q2⟩, u⟩ := q
        simp only [rB] at e3 e1 m1
        simp [e3, e1, m1, r1]
      | false =>
        rw [b1] at e1
        rw [if_neg (by simp [b1])] at hT
        cases bo : seesB l s 4 [tOpen] with
        | true =>
          have hat := sees_lt bo
          rw [bo] at to
          rw [if_pos bo] at hT
          have ee := cE_eq (l := l) (n := n) (s := ⟨s.at_ + 1, s.wr⟩) ⟨⟨hat, hlen⟩, by simp only; omega⟩
          obtain ⟨k1, k2, k3⟩ := expr_far (l := l) (a := 0) (fun s _ hs => fac_far n s hs) ⟨s.at_ + 1, s.wr⟩ (Nat.zero_le _) hat
          generalize exprI l (facI l n) ⟨s.at_ + 1, s.wr⟩ = q at *
          obtain ⟨o, u⟩ := q
          simp only at k1 k2 k3 ee hT
          have en := c96_eq l u ⟨k2, hlen⟩ 4 [tShut] (by simp [lim])
          generalize needI l u 4 [tShut] = q2 at *
          obtain ⟨⟨tkk, tkt, tkv, tka⟩, u2⟩ := q2
          subst hT
          simp only [if_true, tOpen, tShut, List.map_cons, List.map_nil, rB] at e3 e1 to ee en
          generalize s.at_ + 1 = v at *
          simp [e3, e1, to, ee, en]
        | false =>
          rw [bo] at to
          rw [if_neg (by simp [bo])] at hT
          cases bm : seesB l s 4 [tMinus] with
          | true =>
            have hat := sees_lt bm
            rw [bm] at tm
            rw [if_pos bm] at hT
            have ee := cF_eq (l := l) (n := n) (s := ⟨s.at_ + 1, s.wr⟩) ⟨⟨hat, hlen⟩, by simp only; omega⟩
            obtain ⟨k1, k2, k3⟩ := fac_far (l := l) n ⟨s.at_ + 1, s.wr⟩ hat
            generalize facI l n ⟨s.at_ + 1, s.wr⟩ = q at *
            obtain ⟨o, u⟩ := q
            simp only at k1 k2 k3 ee hT
            subst hT
            have r2 := roomStp (n := o.length + 1) (by omega)
            simp only [if_true, if_false, Bool.false_eq_true, tOpen, tMinus, List.map_cons, List.map_nil, rB] at e3 e1 to tm ee
            generalize s.at_ + 1 = v at *
            have hno : noLs (o.map Stp.v ++ [.agg [.int .i64 8, .int .i64 0, .str ⟨#[]⟩, .str ⟨#[]⟩]]) = true := by
              have := noLs_stp (o ++ [stK 8])
              rw [List.map_append] at this
              exact this
            simp [e3, e1, to, tm, ee, r1, r2, stK, hno]
          | false =>
            rw [bm] at tm
            rw [if_neg (by simp [bm])] at hT
            subst hT
            generalize failI s = u at *
            simp only [if_true, if_false, Bool.false_eq_true, tOpen, tMinus, List.map_cons, List.map_nil, rB] at e3 e1 to tm ef
            simp [e3, e1, to, tm, ef]
theorem c53_ok (l : List Tok) (n : Nat) : GOK Tryz.prog (53, [], cE l n) := expr_ok (term_ok (fac_ok n))
end Go.TM.Tryz
end
