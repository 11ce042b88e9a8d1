/- A part of the proof: QK, QL, QM, PD. -/
import Derived.Test.YtgpkbmekdmpgoaaGreatDoorK09
set_option linter.unusedVariables false
set_option linter.unusedSimpArgs false
section
set_option maxHeartbeats 16000000
set_option maxRecDepth 20000
namespace Go.TM.Tryz
open Go Go.TM Go.Proofs
theorem ba_two_eq {a : ByteArray} {c d : UInt8} : a = ⟨#[c, d]⟩ ↔ a.size = 2 ∧ bA a 0 = c.toNat ∧ bA a 1 = d.toNat := by
  constructor
  · rintro rfl
    exact ⟨rfl, rfl, rfl⟩
  · rintro ⟨h1, h2, h3⟩
    obtain ⟨⟨l⟩⟩ := a
    match l, h1 with
    | [x, y], _ =>
      have e1 : x = c := UInt8.toNat_inj.1 h2
      have e2 : y = d := UInt8.toNat_inj.1 h3
      rw [e1, e2]
theorem open_ext {s : ByteArray} {i : Nat} (h : i + 1 < s.size) : decide (s.extract i (i + 2) = ⟨#[40, 42]⟩) = isOpenC s i := by
  unfold isOpenC
  rw [Bool.eq_iff_iff, decide_eq_true_eq, ba_two_eq, extract_sz s (by omega), bA_extract (by omega) (by omega), bA_extract (by omega) (by omega)]
  simp only [Bool.and_eq_true, decide_eq_true_eq, Nat.add_zero]
  constructor
  · rintro ⟨_, h1, h2⟩
    exact ⟨⟨h, h1⟩, h2⟩
  · rintro ⟨⟨_, h1⟩, h2⟩
    exact ⟨by omega, h1, h2⟩
theorem shut_ext {s : ByteArray} {i : Nat} (h : i + 1 < s.size) : decide (s.extract i (i + 2) = ⟨#[42, 41]⟩) = isShutC s i := by
  unfold isShutC
  rw [Bool.eq_iff_iff, decide_eq_true_eq, ba_two_eq, extract_sz s (by omega), bA_extract (by omega) (by omega), bA_extract (by omega) (by omega)]
  simp only [Bool.and_eq_true, decide_eq_true_eq, Nat.add_zero]
  constructor
  · rintro ⟨_, h1, h2⟩
    exact ⟨⟨h, h1⟩, h2⟩
  · rintro ⟨⟨_, h1⟩, h2⟩
    exact ⟨by omega, h1, h2⟩
theorem f146_ok (s : ByteArray) (hs : s.size ≤ 1000000000) : FunOK Tryz.prog 146 [.str s] false (.int .i64 (remI s (s.size + 1) 0 0)) := by
  refine fun_ok (mkE_ok zmix (cl := []) (gl := []) [] trivial trivial) Tryz.func146 (by kernel_rfl) ?_
  refine FunW_run _ _ rfl rfl ?_
  generalize hE : remI s (s.size + 1) 0 0 = E
  simp
  refine lp_ind (fun f t => ∃ (i : Nat) (dp : Int), s.size < i + f ∧ i ≤ s.size + 2 ∧ -(i : Int) ≤ dp ∧ dp ≤ i ∧ t.e 0 = .str s ∧ t.e 3 = .int .i64 dp ∧ t.e 4 = .int .i64 i ∧ remI s f i dp = E) (s.size + 1) ⟨0, 0, by omega, by omega, by omega, by omega, by simp, by simp, by simp, hE⟩ ?_
  rintro c' L hL f t ih ⟨i, dp, hif, his, hd1, hd2, g0, g3, g4, hr⟩
  have w1 : IntKind.i64.wrap ((i : Int) + 1) = ((i + 1 : Nat) : Int) := (wrap64 (by omega) (by omega)).trans (by omega)
  have w2 : IntKind.i64.wrap ((i : Int) + 2) = ((i + 2 : Nat) : Int) := (wrap64 (by omega) (by omega)).trans (by omega)
  have wz : IntKind.i64.wrap 0 = 0 := by decide
  cases f with
  | zero =>
    have hi : ¬ ((i + 1 : Nat) : Int) < s.size := by omega
    simp only [remI] at hr
    subst hr
    obtain ⟨I1, hI1⟩ : ∃ I1, I1 = i + 1 := ⟨_, rfl⟩
    rw [← hI1] at w1 hi
    simp [g0, g3, g4, hL, w1, hi]
  | succ f =>
    unfold remI at hr
    obtain ⟨I1, hI1⟩ : ∃ I1, I1 = i + 1 := ⟨_, rfl⟩
    obtain ⟨I2, hI2⟩ : ∃ I2, I2 = i + 2 := ⟨_, rfl⟩
    by_cases hc : i + 1 < s.size
    · rw [if_pos hc] at hr
      have ho := open_ext hc
      have hsh := shut_ext hc
      have hi1 : ((I1 : Nat) : Int) < s.size := by omega
      have hi2 : ((I2 : Nat) : Int) ≤ s.size := by omega
      have hi2' : I2 ≤ s.size := by omega
      have hi3 : (i : Int) ≤ I2 := by omega
      have hi3' : i ≤ I2 := by omega
      have w3 : IntKind.i64.wrap ((I1 : Int) + 1) = (I2 : Int) := (wrap64 (by omega) (by omega)).trans (by omega)
      have wd1 : IntKind.i64.wrap (dp + 1) = dp + 1 := wrap64 (by omega) (by omega)
      have wd2 : IntKind.i64.wrap (dp - 1) = dp - 1 := wrap64 (by omega) (by omega)
      rw [← hI1] at w1
      rw [← hI2] at w2 ho hsh
      rw [← hI1, ← hI2] at hr
      generalize hX : s.extract i I2 = X at *
      by_cases hop : X = ⟨#[40, 42]⟩
      · rw [← ho, decide_eq_true hop, if_pos rfl] at hr
        by_cases hz : dp + 1 = 0
        · rw [if_pos hz] at hr
          subst hr
          simp [g0, g3, g4, hL, w1, w2, w3, hi1, hi2, hi2', hi3, hi3', hX, hop, wd1, hz, wz]
        · rw [if_neg hz] at hr
          simp [g0, g3, g4, hL, w1, w2, w3, hi1, hi2, hi2', hi3, hi3', hX, hop, wd1, hz, wz]
          exact ih f _ (by omega) ⟨I2, dp + 1, by omega, by omega, by omega, by omega, by simp [g0], by simp [wd1], by simp [w3], hr⟩
      · have hop' : decide (X = ⟨#[40, 42]⟩) = false := decide_eq_false hop
        rw [← ho, hop', if_neg (by simp)] at hr
        by_cases hst : X = ⟨#[42, 41]⟩
        · rw [← hsh, decide_eq_true hst, if_pos rfl] at hr
          have hne : ¬ (⟨#[42, 41]⟩ : ByteArray) = ⟨#[40, 42]⟩ := by rw [← hst]; exact hop
          by_cases hz : dp - 1 = 0
          · rw [if_pos hz] at hr
            subst hr
            simp [g0, g3, g4, hL, w1, w2, w3, hi1, hi2, hi2', hi3, hi3', hX, hop, hst, hne, wd2, hz, wz]
          · rw [if_neg hz] at hr
            simp [g0, g3, g4, hL, w1, w2, w3, hi1, hi2, hi2', hi3, hi3', hX, hop, hst, hne, wd2, hz, wz]
            exact ih f _ (by omega) ⟨I2, dp - 1, by omega, by omega, by omega, by omega, by simp [g0], by simp [wd2], by simp [w3], hr⟩
        · rw [← hsh, decide_eq_false hst, if_neg (by simp)] at hr
          by_cases hz : dp = 0
          · rw [if_pos hz] at hr
            subst hr
            simp [g0, g3, g4, hL, w1, w2, w3, hi1, hi2, hi2', hi3, hi3', hX, hop, hst, hz]
          · rw [if_neg hz] at hr
            simp [g0, g3, g4, hL, w1, w2, w3, hi1, hi2, hi2', hi3, hi3', hX, hop, hst, hz]
            exact ih f _ (by omega) ⟨I1, dp, by omega, by omega, by omega, by omega, by simp [g0], by simp [g3], by simp [w1], hr⟩
    · rw [if_neg hc] at hr
      subst hr
      have hi1 : ¬ ((I1 : Nat) : Int) < s.size := by omega
      rw [← hI1] at w1
      simp [g0, g3, g4, hL, w1, hi1]
noncomputable def c146 := ctr (fun s : ByteArray => s.size ≤ 1000000000) (fun s => [.str s]) (fun s => (false, .int .i64 (remI s (s.size + 1) 0 0)))
theorem c146_eq (s : ByteArray) (h : s.size ≤ 1000000000) : c146 [.str s] = some (false, .int .i64 (remI s (s.size + 1) 0 0)) := ctr_eq (by simp) s h rfl
theorem c146_ok : COK Tryz.prog (146, c146) := ctr_ok fun n h => f146_ok n h
def hasR (t : S) (v : V) (z : Nat) (xs : List V) : Prop := ∃ r, v = .own r ∧ r < t.nt ∧ t.R r = some ⟨z, xs, true⟩
@[simp] theorem hasR_own {t : S} {r z : Nat} {xs : List V} : hasR t (.own r) z xs ↔ r < t.nt ∧ t.R r = some ⟨z, xs, true⟩ :=
  ⟨fun ⟨_, h, h2⟩ => by cases h; exact h2, fun h => ⟨r, rfl, h⟩⟩
theorem roomTok (n : Nat) (h : n ≤ 1000000002) : room ⟨4, true, 40, .agg [.int .i64 0, .str ⟨#[]⟩, .int .i64 0, .int .i64 0]⟩ n := by simp [room]; omega
theorem pre_open {s : ByteArray} {p : Nat} (hp : p < s.size) : preB (s.extract p s.size) ⟨#[40, 42]⟩ = isOpenC s p := by
  unfold preB
  have hz : (⟨#[40, 42]⟩ : ByteArray).size = 2 := rfl
  rw [hz, extract_sz s (Nat.le_refl _)]
  by_cases h : p + 1 < s.size
  · have e : (s.extract p s.size).extract 0 2 = s.extract p (p + 2) := by
      have h2 : p + 2 ≤ s.size := by omega
      rw [ByteArray.extract_extract]
      simp [Nat.min_eq_left h2]
    rw [e, open_ext h]
    have : 2 ≤ s.size - p := by omega
    simp [this]
  · have h2 : ¬ 2 ≤ s.size - p := by omega
    unfold isOpenC
    simp [h, h2]
theorem rem_fuel (s : ByteArray) : ∀ (f i : Nat) (d : Int), s.size ≤ i + f → remI s (f + 1) i d = remI s f i d
  | 0, i, d, h => by
    unfold remI
    rw [if_neg (by omega)]
  | f + 1, i, d, h => by
    rw [remI]
    conv => rhs; rw [remI]
    rw [rem_fuel s f (i + 2) _ (by omega), rem_fuel s f (i + 2) _ (by omega), rem_fuel s f (i + 1) _ (by omega)]
theorem rem_fix (s : ByteArray) (k : Nat) : remI s (s.size + 1 + k) 0 0 = remI s (s.size + 1) 0 0 := by
  induction k with
  | zero => rfl
  | succ k ih => rw [show s.size + 1 + (k + 1) = (s.size + 1 + k) + 1 by omega, rem_fuel s _ 0 0 (by omega), ih]
theorem f92_ok (s : ByteArray) (hs : s.size ≤ 1000000000) : FunOK Tryz.prog 92 [.str s] false (.tup [.inl 4 ((readT s).1.map Tok.v), .int .i64 (readT s).2.1, .int .i64 (readT s).2.2]) := by
  refine fun_ok (mkE_ok zmix (cl := [(145, c145), (146, c146), (147, c147)]) (gl := []) [] ⟨c145_ok, c146_ok, c147_ok⟩ trivial) Tryz.func92 (by kernel_rfl) ?_
  refine FunW_run _ _ rfl rfl ?_
  unfold readT
  by_cases hbig : 1200 < s.size
  · have hbig' : (1200 : Int) < s.size := by omega
    rw [if_pos hbig]
    simp [hbig']
  · have hbig' : ¬ (1200 : Int) < s.size := by omega
    rw [if_neg hbig]
    generalize hE : rtL s (s.size + 1) 0 [] = E
    simp [hbig']
    refine lp_ind (fun f t => ∃ (p : Nat) (out : List Tok), s.size < p + f ∧ p ≤ s.size ∧ out.length ≤ p ∧ t.e 0 = .str s ∧ t.e 6 = .int .i64 p ∧ hasR t (t.e 5) 4 (out.map Tok.v) ∧ rtL s f p out = E) (s.size + 1) ⟨0, [], by omega, by omega, by simp, by simp, by simp, by simp, hE⟩ ?_
    rintro c' L hL f t ih ⟨p, out, hpf, hps, hol, g0, g6, ⟨r, g5, hlt, hR⟩, hr⟩
    have n1 : ¬ r = t.nt := by omega
    have n2 : ¬ r = t.nt + 1 := by omega
    cases f with
    | zero => omega
    | succ f =>
      unfold rtL at hr
      by_cases hp : p < s.size
      · have hp' : (p : Int) < s.size := by omega
        have hple : (p : Int) ≤ s.size := by omega
        have hgp := bA_get hp
        have w1 : IntKind.i64.wrap ((p : Int) + 1) = ((p + 1 : Nat) : Int) := (wrap64 (by omega) (by omega)).trans (by omega)
        rw [if_pos hp] at hr
        have hX : (s.extract p s.size).size = s.size - p := extract_sz s (Nat.le_refl _)
        have e145 := c145_eq (s.extract p s.size) ⟨#[40, 42]⟩ (by rw [hX]; simp only [lim]; omega) (by decide)
        rw [pre_open hp] at e145
        have e146 := c146_eq (s.extract p s.size) (by rw [hX]; omega)
        have hfx := rem_fix (s.extract p s.size) p
        rw [hX, show s.size - p + 1 + p = s.size + 1 by omega] at hfx
        rw [hX, ← hfx] at e146
        have hrle := remI_le (s.extract p s.size) (s.size + 1) 0 0
        rw [hX] at hrle
        have e147 := c147_eq (s.extract p s.size) (by omega) (by omega)
        have htk := (tok_one (s := s.extract p s.size) (by omega)).2
        rw [hX] at htk
        by_cases hb : bA s p = 32 ∨ bA s p = 10
        · rw [if_pos hb] at hr
          have fin : ∀ t' : S, t'.e 0 = .str s → t'.e 6 = .int .i64 ((p + 1 : Nat) : Int) → t'.e 5 = .own r → t'.R = t.R → t.nt ≤ t'.nt → L t' := fun t' k0 k6 k5 kR kn =>
            ih f t' (by omega) ⟨p + 1, out, by omega, by omega, by omega, k0, k6, ⟨r, k5, by omega, by rw [kR]; exact hR⟩, hr⟩
          by_cases hb1 : bA s p = 32
          · rw [hb1] at hgp
            simp [g0, g5, g6, hL, hp, hp', hgp]
            exact fin _ (by simp [g0]) (by simp [w1]) (by simp [g5]) (by simp) (by simp)
          · have hb2 : bA s p = 10 := hb.resolve_left hb1
            rw [hb2] at hgp
            simp [g0, g5, g6, hL, hp, hp', hgp]
            exact fin _ (by simp [g0]) (by simp [w1]) (by simp [g5]) (by simp) (by simp)
        · rw [if_neg hb] at hr
          have b1 : ¬ (bA s p : Int) = 32 := by omega
          have b2 : ¬ (bA s p : Int) = 10 := by omega
          generalize bA s p = x at *
          generalize hXX : s.extract p s.size = X at *
          cases hop : isOpenC s p with
          | true =>
            rw [hop] at e145
            rw [if_pos hop] at hr
            generalize remI X (s.size + 1) 0 0 = q at *
            by_cases hq : q = 0
            · rw [if_pos hq] at hr
              subst hr
              subst hq
              simp [g0, g5, g6, hL, hp, hp', hple, hps, hgp, b1, b2, hXX, e145, e146]
            · rw [if_neg hq] at hr
              have hq' : ¬ (q : Int) = 0 := by omega
              have wq : IntKind.i64.wrap ((p : Int) + (q : Int)) = ((p + q : Nat) : Int) := (wrap64 (by omega) (by omega)).trans (by omega)
              simp [g0, g5, g6, hL, hp, hp', hple, hps, hgp, b1, b2, hXX, e145, e146, hq, hq']
              exact ih f _ (by omega) ⟨p + q, out, by omega, by omega, by omega, by simp [g0], by simp [wq], ⟨r, by simp [g5], by simp <;> omega, by simp [hR]⟩, hr⟩
          | false =>
            rw [hop] at e145
            rw [if_neg (by simp [hop])] at hr
            generalize tokA X = R at *
            obtain ⟨⟨rk, rt, rv, ra⟩, rn, rc⟩ := R
            simp only at hr e147 htk
            by_cases hc : rc = 0
            · rw [if_pos hc] at hr
              obtain ⟨_, _, k4, k5⟩ := htk hc
              have hc' : (rc : Int) = 0 := by omega
              have wn : IntKind.i64.wrap ((p : Int) + (rn : Int)) = ((p + rn : Nat) : Int) := (wrap64 (by omega) (by omega)).trans (by omega)
              have r1 := roomTok 1 (by omega)
              have r2 := roomTok (out.length + 1) (by omega)
              simp [g0, g5, g6, hL, hp, hp', hple, hps, hgp, b1, b2, hXX, e145, e147, hc, hR, n1, n2, r1, r2]
              exact ih f _ (by omega) ⟨p + rn, out ++ [⟨rk, rt, rv, p⟩], by omega, by omega, by simp; omega, by simp [g0], by simp [wn], ⟨t.nt + 1, by simp, by simp, by simp⟩, hr⟩
            · rw [if_neg hc] at hr
              subst hr
              simp [g0, g5, g6, hL, hp, hp', hple, hps, hgp, b1, b2, hXX, e145, e147, hc]
      · have hp' : ¬ (p : Int) < s.size := by omega
        rw [if_neg hp] at hr
        subst hr
        by_cases h3 : 300 < out.length
        · have h3' : (300 : Int) < out.length := by omega
          simp [g0, g5, g6, hL, hp', hR, h3, h3']
        · have h3' : ¬ (300 : Int) < out.length := by omega
          simp [g0, g5, g6, hL, hp', hR, h3, h3']
noncomputable def c92 := ctr (fun s : ByteArray => s.size ≤ 1000000000) (fun s => [.str s]) (fun s => (false, .tup [.inl 4 ((readT s).1.map Tok.v), .int .i64 (readT s).2.1, .int .i64 (readT s).2.2]))
theorem c92_eq (s : ByteArray) (h : s.size ≤ 1000000000) : c92 [.str s] = some (false, .tup [.inl 4 ((readT s).1.map Tok.v), .int .i64 (readT s).2.1, .int .i64 (readT s).2.2]) := ctr_eq (by simp) s h rfl
theorem c92_ok : COK Tryz.prog (92, c92) := ctr_ok fun n h => f92_ok n h
end Go.TM.Tryz
end
section
set_option maxHeartbeats 16000000
set_option maxRecDepth 20000
namespace Go.TM.Tryz
open Go Go.TM Go.Proofs
@[simp] def rB (l : List Tok) (s : RS) : V := .agg [.lst (l.map Tok.v), .int .i64 s.at_, .int .i64 s.wr]
theorem c118_bad (ts : List V) : c118 [.lst ts, .bad] = none := by
  unfold c118 ctr
  rw [dif_neg]
  rintro ⟨a, _, h⟩
  simp at h
theorem aftQ_bad2 {E : Env} (dr : Bool) (g x : Bool) (xc xa xb : Operand) (d : Option Tmp) (all : Array Oper) (os : List Oper) (k : List Fr) (Q : X → S → Prop) (s : S) :
    aftQ dr (some false) (.bool g) (.bool x) .bad xc xa xb d all os k E Q s = kont E (.ops dr all os :: k) Q .normal (s.put d (.cnd false .bad)) := by
  simp [aftQ]
end Go.TM.Tryz
end
section
set_option maxHeartbeats 16000000
set_option maxRecDepth 20000
namespace Go.TM.Tryz
open Go Go.TM Go.Proofs
structure ROK (l : List Tok) (s : RS) : Prop where
  a : s.at_ ≤ l.length
  b : l.length ≤ 1048576
theorem strs_inj {a b : List ByteArray} (h : a.map V.str = b.map V.str) : a = b := map_inj str_inj h
end Go.TM.Tryz
end
section
namespace Go.TM
open Go
def remS (s : ByteArray) : Nat → Nat → Int → Option Nat
  | 0, _, _ => none
  | f + 1, i, d => if i + 1 < s.size then
      (if isOpenC s i = true then remS s f (i + 2) (d + 1)
       else if isShutC s i = true then (if d - 1 = 0 then some (i + 2) else remS s f (i + 2) (d - 1))
       else remS s f (i + 1) d)
    else none
def rtS (s : ByteArray) : Nat → Nat → List Tok → List Tok × Int × Int
  | 0, _, out => (out, 0, 0)
  | f + 1, p, out => if p < s.size then
      (if bA s p = 32 ∨ bA s p = 10 then rtS s f (p + 1) out
       else if isOpenC s p = true then (match remS s (s.size + 1) p 0 with
         | none => ([], 2, p)
         | some q => rtS s f q out)
       else if (oneS s p).2 ≤ 0 then rtS s f (p + (oneS s p).1.text.size) (out ++ [(oneS s p).1])
       else ([], (oneS s p).2, p))
    else (out, 0, 0)
def readTS (s : ByteArray) : List Tok × Int × Int :=
  if 1200 < s.size then ([], 1, 0)
  else if (rtS s (s.size + 1) 0 []).2.1 = 0 ∧ 300 < (rtS s (s.size + 1) 0 []).1.length then ([], 5, 0)
  else rtS s (s.size + 1) 0 []
theorem extr_sz (s : ByteArray) (p : Nat) : (s.extract p s.size).size = s.size - p := extract_sz s (Nat.le_refl _)
theorem bA_ext {s : ByteArray} {p i : Nat} (h : p + i < s.size) : bA (s.extract p s.size) i = bA s (p + i) := bA_extract (Nat.le_refl _) (by omega)
theorem open_sh {s : ByteArray} {p i : Nat} (hp : p ≤ s.size) : isOpenC (s.extract p s.size) i = isOpenC s (p + i) := by
  unfold isOpenC
  rw [extr_sz]
  by_cases h : i + 1 < s.size - p
  · have h' : p + i + 1 < s.size := by omega
    rw [bA_ext (by omega), bA_ext (by omega), ← Nat.add_assoc]
    simp [h, h']
  · have h' : ¬ p + i + 1 < s.size := by omega
    simp [h, h']
theorem shut_sh {s : ByteArray} {p i : Nat} (hp : p ≤ s.size) : isShutC (s.extract p s.size) i = isShutC s (p + i) := by
  unfold isShutC
  rw [extr_sz]
  by_cases h : i + 1 < s.size - p
  · have h' : p + i + 1 < s.size := by omega
    rw [bA_ext (by omega), bA_ext (by omega), ← Nat.add_assoc]
    simp [h, h']
  · have h' : ¬ p + i + 1 < s.size := by omega
    simp [h, h']
theorem rem_sh {s : ByteArray} {p : Nat} (hp : p ≤ s.size) : ∀ (f i : Nat) (d : Int), 1 ≤ d → remI (s.extract p s.size) f i d = (match remS s f (p + i) d with | some q => q - p | none => 0)
  | 0, i, d, hd => rfl
  | f + 1, i, d, hd => by
    unfold remI remS
    rw [extr_sz, open_sh hp, shut_sh hp]
    by_cases h : i + 1 < s.size - p
    · have h' : p + i + 1 < s.size := by omega
      rw [if_pos h, if_pos h']
      split
      · rw [if_neg (by omega), rem_sh hp f (i + 2) (d + 1) (by omega), Nat.add_assoc]
      · split
        · split
          · simp only
            omega
          · rw [rem_sh hp f (i + 2) (d - 1) (by omega), Nat.add_assoc]
        · rw [if_neg (by omega), rem_sh hp f (i + 1) d hd, Nat.add_assoc]
    · have h' : ¬ p + i + 1 < s.size := by omega
      rw [if_neg h, if_neg h']
theorem remS_gt {s : ByteArray} : ∀ (f i : Nat) (d : Int) (q : Nat), remS s f i d = some q → i < q ∧ q ≤ s.size
  | 0, i, d, q, h => by cases h
  | f + 1, i, d, q, h => by
    unfold remS at h
    split at h
    · split at h
      · have := remS_gt f _ _ q h
        omega
      · split at h
        · split at h
          · cases h
            omega
          · have := remS_gt f _ _ q h
            omega
        · have := remS_gt f _ _ q h
          omega
    · cases h
theorem rem_eq {s : ByteArray} {p : Nat} (ho : isOpenC s p = true) (f : Nat) : remI (s.extract p s.size) (f + 1) 0 0 = (match remS s (f + 1) p 0 with | some q => q - p | none => 0) := by
  have h0 : p + 1 < s.size := by
    unfold isOpenC at ho
    simp only [Bool.and_eq_true, decide_eq_true_eq] at ho
    exact ho.1.1
  unfold remI remS
  rw [extr_sz, open_sh (by omega), if_pos (by omega), if_pos h0, Nat.add_zero, if_pos ho, if_pos ho, if_neg (by omega), rem_sh (by omega) f 2 (0 + 1) (by omega)]
theorem ext_ext {s : ByteArray} {p i j : Nat} (hj : p + j ≤ s.size) : (s.extract p s.size).extract i j = s.extract (p + i) (p + j) := by
  rw [ByteArray.extract_extract]
  rw [Nat.min_eq_left hj]
theorem wl_sh {s : ByteArray} {p : Nat} (hp : p ≤ s.size) : ∀ (f i : Nat), p + wl (s.extract p s.size) f i = wl s f (p + i)
  | 0, i => rfl
  | f + 1, i => by
    unfold wl
    rw [extr_sz]
    by_cases h : i < s.size - p
    · have h' : p + i < s.size := by omega
      rw [bA_ext h']
      by_cases ha : alnB (bA s (p + i)) = true
      · rw [if_pos ⟨h, ha⟩, if_pos ⟨h', ha⟩, wl_sh hp f (i + 1), Nat.add_assoc]
      · rw [if_neg (fun hh => ha hh.2), if_neg (fun hh => ha hh.2)]
    · have h' : ¬ p + i < s.size := by omega
      rw [if_neg (fun hh => h hh.1), if_neg (fun hh => h' hh.1)]
theorem wl_big (s : ByteArray) : ∀ (k f i : Nat), s.size ≤ i + f → wl s (f + k) i = wl s f i
  | 0, f, i, h => rfl
  | k + 1, f, i, h => by rw [show f + (k + 1) = (f + k) + 1 by omega, wl_more s _ _ (by omega), wl_big s k f i h]
theorem endS_sh {s : ByteArray} {p : Nat} (hp : p < s.size) : p + endS (s.extract p s.size) 0 = endS s p := by
  unfold endS
  rw [bA_ext (by omega), Nat.add_zero]
  split
  · rw [wl_sh (by omega), extr_sz]
    have := wl_big s p (s.size - p) (p + (0 + 1)) (by omega)
    rw [show s.size - p + p = s.size by omega] at this
    rw [← this, Nat.zero_add]
  · rfl
theorem endS_le {s : ByteArray} {p : Nat} (hp : p < s.size) : endS s p ≤ s.size := by
  unfold endS
  split
  · exact (wl_le s _ _ (by omega)).2
  · omega
theorem one_sh {s : ByteArray} {p : Nat} (hp : p < s.size) : (oneS (s.extract p s.size) 0).2 = (oneS s p).2 ∧ (oneS s p).1 = ⟨(oneS (s.extract p s.size) 0).1.kind, (oneS (s.extract p s.size) 0).1.text, (oneS (s.extract p s.size) 0).1.value, p⟩ := by
  have he := endS_sh hp
  have hle := endS_le hp
  have hx : (s.extract p s.size).extract 0 (endS (s.extract p s.size) 0) = s.extract p (endS s p) := by
    rw [ext_ext (by omega), he, Nat.add_zero]
  unfold oneS
  rw [hx, bA_ext (by omega), Nat.add_zero]
  split
  · split
    · exact ⟨rfl, rfl⟩
    · split <;> exact ⟨rfl, rfl⟩
  · split
    · split <;> exact ⟨rfl, rfl⟩
    · split <;> exact ⟨rfl, rfl⟩
theorem rt_eq (s : ByteArray) : ∀ (f p : Nat) (out : List Tok), p ≤ s.size → rtL s f p out = rtS s f p out
  | 0, p, out, h => rfl
  | f + 1, p, out, h => by
    unfold rtL rtS
    by_cases hp : p < s.size
    · rw [if_pos hp, if_pos hp]
      split
      · exact rt_eq s f (p + 1) out hp
      · split
        · rename_i ho
          have hr := rem_eq ho s.size
          rw [hr]
          cases hq : remS s (s.size + 1) p 0 with
          | none => simp
          | some q =>
            have := remS_gt _ _ _ _ hq
            simp only
            rw [if_neg (by omega), show p + (q - p) = q by omega]
            exact rt_eq s f q out this.2
        · have h1 : 1 ≤ (s.extract p s.size).size := by rw [extr_sz]; omega
          obtain ⟨k1, k2⟩ := tok_one h1
          obtain ⟨o1, o2⟩ := one_sh hp
          rw [k1, o1]
          have hnn := oneS_nonneg s p
          by_cases hc : (oneS s p).2 = 0
          · rw [if_pos hc, if_pos (by omega)]
            obtain ⟨k3, k4, k5, k6⟩ := k2 (by rw [k1, o1]; exact hc)
            have hsz : (oneS s p).1.text.size = (tokA (s.extract p s.size)).2.1 := by
              rw [o2]
              simp only
              rw [← k3, k4, extract_sz _ k6]
              omega
            rw [hsz, k3, ← o2]
            rw [extr_sz] at k6
            exact rt_eq s f _ _ (by omega)
          · rw [if_neg hc, if_neg (by omega)]
    · rw [if_neg hp, if_neg hp]
theorem readT_eq (s : ByteArray) : readT s = readTS s := by
  unfold readT readTS
  rw [rt_eq s _ 0 [] (Nat.zero_le _)]
end Go.TM
end
