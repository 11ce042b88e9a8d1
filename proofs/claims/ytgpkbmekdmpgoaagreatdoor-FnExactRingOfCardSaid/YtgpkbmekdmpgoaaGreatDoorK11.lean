/- A part of the proof: QV, QW. -/
import Derived.Test.YtgpkbmekdmpgoaaGreatDoorK10
set_option linter.unusedVariables false
set_option linter.unusedSimpArgs false
section
set_option maxHeartbeats 16000000
set_option maxRecDepth 20000
namespace Go.TM.Tryz
open Go Go.TM Go.Proofs
def remZ (s : ByteArray) (p : Nat) : Int := match remS s (s.size + 1) p 0 with | some q => q | none => -1
theorem f197_ok (s : ByteArray) (p : Nat) (hs : s.size ≤ 1000000000) (hp : p ≤ s.size) : FunOK Tryz.prog 197 [.str s, .int .i64 p] false (.int .i64 (remZ s p)) := by
  refine fun_ok (mkE_ok zmix (cl := []) (gl := []) [] trivial trivial) Tryz.func197 (by kernel_rfl) ?_
  refine FunW_run _ _ rfl rfl ?_
  unfold remZ
  generalize hE : remS s (s.size + 1) p 0 = E
  simp
  refine lp_ind (fun f t => ∃ (i : Nat) (dp : Int), s.size < i + f ∧ i ≤ s.size + 2 ∧ -(i : Int) ≤ dp ∧ dp ≤ i ∧ t.e 0 = .str s ∧ t.e 5 = .int .i64 dp ∧ t.e 1 = .int .i64 i ∧ remS s f i dp = E) (s.size + 1) ⟨p, 0, by omega, by omega, by omega, by omega, by simp, by simp, by simp, hE⟩ ?_
  rintro c' L hL f t ih ⟨i, dp, hif, his, hd1, hd2, g0, g3, g4, hr⟩
  have w1 : IntKind.i64.wrap ((i : Int) + 1) = ((i + 1 : Nat) : Int) := (wrap64 (by omega) (by omega)).trans (by omega)
  have w2 : IntKind.i64.wrap ((i : Int) + 2) = ((i + 2 : Nat) : Int) := (wrap64 (by omega) (by omega)).trans (by omega)
  have wz : IntKind.i64.wrap 0 = 0 := by decide
  cases f with
  | zero =>
    have hi : ¬ ((i + 1 : Nat) : Int) < s.size := by omega
    simp only [remS] at hr
    subst hr
    obtain ⟨I1, hI1⟩ : ∃ I1, I1 = i + 1 := ⟨_, rfl⟩
    rw [← hI1] at w1 hi
    simp [g0, g3, g4, hL, w1, hi]
  | succ f =>
    unfold remS at hr
    obtain ⟨I1, hI1⟩ : ∃ I1, I1 = i + 1 := ⟨_, rfl⟩
    obtain ⟨I2, hI2⟩ : ∃ I2, I2 = i + 2 := ⟨_, rfl⟩
    by_cases hc : i + 1 < s.size
    · rw [if_pos hc] at hr
      have ho := open_ext hc
      have hsh := shut_ext hc
      have hi1 : ((I1 : Nat) : Int) < s.size := by omega
      have hi2 : ((I2 : Nat) : Int) ≤ s.size := by omega
      have hi2' : I2 ≤ s.size := by omega
      have hi3 : (i : Int) ≤ I2 := by omega
      have hi3' : i ≤ I2 := by omega
      have wd1 : IntKind.i64.wrap (dp + 1) = dp + 1 := wrap64 (by omega) (by omega)
      have wd2 : IntKind.i64.wrap (dp - 1) = dp - 1 := wrap64 (by omega) (by omega)
      rw [← hI1] at w1
      rw [← hI2] at w2 ho hsh
      rw [← hI1, ← hI2] at hr
      generalize hX : s.extract i I2 = X at *
      by_cases hop : X = ⟨#[40, 42]⟩
      · rw [← ho, decide_eq_true hop, if_pos rfl] at hr
        simp [g0, g3, g4, hL, w1, w2, hi1, hi2, hi2', hi3, hi3', hX, hop, wd1, wz]
        exact ih f _ (by omega) ⟨I2, dp + 1, by omega, by omega, by omega, by omega, by simp [g0], by simp [wd1], by simp [w2], hr⟩
      · have hop' : decide (X = ⟨#[40, 42]⟩) = false := decide_eq_false hop
        rw [← ho, hop', if_neg (by simp)] at hr
        by_cases hst : X = ⟨#[42, 41]⟩
        · rw [← hsh, decide_eq_true hst, if_pos rfl] at hr
          have hne : ¬ (⟨#[42, 41]⟩ : ByteArray) = ⟨#[40, 42]⟩ := by rw [← hst]; exact hop
          by_cases hz : dp - 1 = 0
          · rw [if_pos hz] at hr
            subst hr
            simp [g0, g3, g4, hL, w1, w2, hi1, hi2, hi2', hi3, hi3', hX, hop, hst, hne, wd2, hz, wz]
          · rw [if_neg hz] at hr
            simp [g0, g3, g4, hL, w1, w2, hi1, hi2, hi2', hi3, hi3', hX, hop, hst, hne, wd2, hz, wz]
            exact ih f _ (by omega) ⟨I2, dp - 1, by omega, by omega, by omega, by omega, by simp [g0], by simp [wd2], by simp [w2], hr⟩
        · rw [← hsh, decide_eq_false hst, if_neg (by simp)] at hr
          simp [g0, g3, g4, hL, w1, w2, hi1, hi2, hi2', hi3, hi3', hX, hop, hst]
          exact ih f _ (by omega) ⟨I1, dp, by omega, by omega, by omega, by omega, by simp [g0], by simp [g3], by simp [w1], hr⟩
    · rw [if_neg hc] at hr
      subst hr
      have hi1 : ¬ ((I1 : Nat) : Int) < s.size := by omega
      rw [← hI1] at w1
      simp [g0, g3, g4, hL, w1, hi1]
noncomputable def c197 := ctr (fun a : ByteArray × Nat => a.1.size ≤ 1000000000 ∧ a.2 ≤ a.1.size) (fun a => [.str a.1, .int .i64 a.2]) (fun a => (false, .int .i64 (remZ a.1 a.2)))
theorem c197_eq (s : ByteArray) (p : Nat) (h : s.size ≤ 1000000000) (hp : p ≤ s.size) : c197 [.str s, .int .i64 p] = some (false, .int .i64 (remZ s p)) := ctr_eq (by rintro ⟨a, b⟩ ⟨c, d⟩ h; simp only [List.cons.injEq, V.str.injEq, V.int.injEq, and_true, true_and] at h; obtain ⟨h1, h2⟩ := h; simp only at *; subst h1; rw [show b = d by omega]) (s, p) ⟨h, hp⟩ rfl
theorem c197_ok : COK Tryz.prog (197, c197) := ctr_ok fun n h => f197_ok n.1 n.2 h.1 h.2
theorem one_sz {s : ByteArray} {p : Nat} (hp : p < s.size) (h : (oneS s p).2 = 0) : 1 ≤ (oneS s p).1.text.size ∧ p + (oneS s p).1.text.size ≤ s.size := by
  have hX : (s.extract p s.size).size = s.size - p := extract_sz s (Nat.le_refl _)
  obtain ⟨o1, o2⟩ := one_sh hp
  obtain ⟨k1, k2⟩ := tok_one (s := s.extract p s.size) (by omega)
  obtain ⟨k3, k4, k5, k6⟩ := k2 (by rw [k1, o1, h])
  have : (oneS s p).1.text.size = (tokA (s.extract p s.size)).2.1 := by
    rw [o2]
    simp only
    rw [← k3, k4, extract_sz _ k6]
    omega
  omega
theorem f150_ok (s : ByteArray) (hs : s.size ≤ 1000000000) : FunOK Tryz.prog 150 [.str s] false (.tup [.inl 4 ((readTS s).1.map Tok.v), .int .i64 (readTS s).2.1, .int .i64 (readTS s).2.2, .bool (decide ((readTS s).2.1 = 0))]) := by
  refine fun_ok (mkE_ok zmix (cl := [(88, c88), (197, c197)]) (gl := []) [] ⟨c88_ok, c197_ok⟩ trivial) Tryz.func150 (by kernel_rfl) ?_
  refine FunW_run _ _ rfl rfl ?_
  unfold readTS
  by_cases hbig : 1200 < s.size
  · have hbig' : (1200 : Int) < s.size := by omega
    rw [if_pos hbig]
    simp [hbig']
  · have hbig' : ¬ (1200 : Int) < s.size := by omega
    rw [if_neg hbig]
    generalize hE : rtS s (s.size + 1) 0 [] = E
    simp [hbig']
    refine lp_ind (fun f t => ∃ (p : Nat) (out : List Tok), s.size < p + f ∧ p ≤ s.size ∧ out.length ≤ p ∧ t.e 0 = .str s ∧ t.e 7 = .int .i64 p ∧ hasR t (t.e 6) 4 (out.map Tok.v) ∧ rtS s f p out = E) (s.size + 1) ⟨0, [], by omega, by omega, by simp, by simp, by simp, by simp, hE⟩ ?_
    rintro c' L hL f t ih ⟨p, out, hpf, hps, hol, g0, g6, ⟨r, g5, hlt, hR⟩, hr⟩
    have n1 : ¬ r = t.nt := by omega
    have n2 : ¬ r = t.nt + 1 := by omega
    cases f with
    | zero => omega
    | succ f =>
      unfold rtS at hr
      by_cases hp : p < s.size
      · have hp' : (p : Int) < s.size := by omega
        have hple : (p : Int) ≤ s.size := by omega
        have hgp := bA_get hp
        have w1 : IntKind.i64.wrap ((p : Int) + 1) = ((p + 1 : Nat) : Int) := (wrap64 (by omega) (by omega)).trans (by omega)
        have w2 : IntKind.i64.wrap ((p : Int) + 2) = ((p + 2 : Nat) : Int) := (wrap64 (by omega) (by omega)).trans (by omega)
        rw [if_pos hp] at hr
        have e88 := c88_eq s p hp (by omega)
        have e197 := c197_eq s p (by omega) (by omega)
        have hnn := oneS_nonneg s p
        by_cases hb : bA s p = 32 ∨ bA s p = 10
        · rw [if_pos hb] at hr
          have fin : ∀ t' : S, t'.e 0 = .str s → t'.e 7 = .int .i64 ((p + 1 : Nat) : Int) → t'.e 6 = .own r → t'.R = t.R → t.nt ≤ t'.nt → L t' := fun t' k0 k6 k5 kR kn =>
            ih f t' (by omega) ⟨p + 1, out, by omega, by omega, by omega, k0, k6, ⟨r, k5, by omega, by rw [kR]; exact hR⟩, hr⟩
          by_cases hb1 : bA s p = 32
          · rw [hb1] at hgp
            simp [g0, g5, g6, hL, hp, hp', hgp]
            exact fin _ (by simp [g0]) (by simp [w1]) (by simp [g5]) (by simp) (by simp)
          · have hb2 : bA s p = 10 := hb.resolve_left hb1
            rw [hb2] at hgp
            simp [g0, g5, g6, hL, hp, hp', hgp]
            exact fin _ (by simp [g0]) (by simp [w1]) (by simp [g5]) (by simp) (by simp)
        · rw [if_neg hb] at hr
          have b1 : ¬ (bA s p : Int) = 32 := by omega
          have b2 : ¬ (bA s p : Int) = 10 := by omega
          have hsz := one_sz hp
          have r1 := roomTok 1 (by omega)
          have r2 := roomTok (out.length + 1) (by omega)
          have hop := open_ext (s := s) (i := p)
          by_cases h2 : p + 1 < s.size
          · have h2' : ((p + 1 : Nat) : Int) < s.size := by omega
            have h2b : p + 2 ≤ s.size := by omega
            have h2c : ((p + 2 : Nat) : Int) ≤ s.size := by omega
            have h2d : (p : Int) ≤ ((p + 2 : Nat) : Int) := by omega
            have h2e : p ≤ p + 2 := by omega
            have hop := hop h2
            obtain ⟨P1, hP1⟩ : ∃ P1, P1 = p + 1 := ⟨_, rfl⟩
            obtain ⟨P2, hP2⟩ : ∃ P2, P2 = p + 2 := ⟨_, rfl⟩
            rw [← hP1] at w1 h2'
            rw [← hP2] at w2 h2b h2c h2d h2e hop
            generalize hX : s.extract p P2 = X at *
            by_cases hc : X = ⟨#[40, 42]⟩
            · rw [← hop, decide_eq_true hc, if_pos rfl] at hr
              unfold remZ at e197
              cases hq : remS s (s.size + 1) p 0 with
              | none =>
                rw [hq] at e197 hr
                simp only at e197 hr
                subst hr
                simp [g0, g5, g6, hL, hp, hp', hple, hps, hgp, b1, b2, w1, w2, h2', h2b, h2c, h2d, h2e, hX, hc, e197]
              | some q =>
                rw [hq] at e197 hr
                simp only at e197 hr
                have hqq := remS_gt _ _ _ _ hq
                have hq0 : ¬ (q : Int) < 0 := by omega
                simp [g0, g5, g6, hL, hp, hp', hple, hps, hgp, b1, b2, w1, w2, h2', h2b, h2c, h2d, h2e, hX, hc, e197, hq0]
                exact ih f _ (by omega) ⟨q, out, by omega, by omega, by omega, by simp [g0], by simp, ⟨r, by simp [g5], by simp <;> omega, by simp [hR]⟩, hr⟩
            · have hop' : isOpenC s p = false := by rw [← hop]; exact decide_eq_false hc
              rw [hop', if_neg (by simp)] at hr
              generalize hOO : oneS s p = O at *
              obtain ⟨⟨rk, rt, rv, ra⟩, rc⟩ := O
              simp only at hr hnn hsz
              by_cases hrc : rc ≤ 0
              · rw [if_pos hrc] at hr
                have hsz := hsz (by omega)
                have hrc0 : rc = 0 := by omega
                subst hrc0
                have wn : IntKind.i64.wrap ((p : Int) + (rt.size : Int)) = ((p + rt.size : Nat) : Int) := (wrap64 (by omega) (by omega)).trans (by omega)
                simp [g0, g5, g6, hL, hp, hp', hple, hps, hgp, b1, b2, w1, w2, h2', h2b, h2c, h2d, h2e, hX, hc, e88, hR, n1, n2, r1, r2]
                exact ih f _ (by omega) ⟨p + rt.size, out ++ [⟨rk, rt, rv, ra⟩], by omega, by omega, by simp; omega, by simp [g0], by simp [wn], ⟨t.nt + 1, by simp, by simp, by simp⟩, hr⟩
              · rw [if_neg hrc] at hr
                have hrc' : 0 < rc := by omega
                have hrc2 : ¬ rc = 0 := by omega
                subst hr
                simp [g0, g5, g6, hL, hp, hp', hple, hps, hgp, b1, b2, w1, w2, h2', h2b, h2c, h2d, h2e, hX, hc, e88, hrc', hrc2]
          · have h2' : ¬ ((p + 1 : Nat) : Int) < s.size := by omega
            have hop' : isOpenC s p = false := by
              unfold isOpenC
              simp [h2]
            rw [hop', if_neg (by simp)] at hr
            obtain ⟨P1, hP1⟩ : ∃ P1, P1 = p + 1 := ⟨_, rfl⟩
            rw [← hP1] at w1 h2'
            generalize hOO : oneS s p = O at *
            obtain ⟨⟨rk, rt, rv, ra⟩, rc⟩ := O
            simp only at hr hnn hsz
            by_cases hrc : rc ≤ 0
            · rw [if_pos hrc] at hr
              have hsz := hsz (by omega)
              have hrc0 : rc = 0 := by omega
              subst hrc0
              have wn : IntKind.i64.wrap ((p : Int) + (rt.size : Int)) = ((p + rt.size : Nat) : Int) := (wrap64 (by omega) (by omega)).trans (by omega)
              simp [g0, g5, g6, hL, hp, hp', hple, hps, hgp, b1, b2, w1, h2', e88, hR, n1, n2, r1, r2]
              exact ih f _ (by omega) ⟨p + rt.size, out ++ [⟨rk, rt, rv, ra⟩], by omega, by omega, by simp; omega, by simp [g0], by simp [wn], ⟨t.nt + 1, by simp, by simp, by simp⟩, hr⟩
            · rw [if_neg hrc] at hr
              have hrc' : 0 < rc := by omega
              have hrc2 : ¬ rc = 0 := by omega
              subst hr
              simp [g0, g5, g6, hL, hp, hp', hple, hps, hgp, b1, b2, w1, h2', e88, hrc', hrc2]
      · have hp' : ¬ (p : Int) < s.size := by omega
        rw [if_neg hp] at hr
        subst hr
        by_cases h3 : 300 < out.length
        · have h3' : (300 : Int) < out.length := by omega
          simp [g0, g5, g6, hL, hp', hR, h3, h3']
        · have h3' : ¬ (300 : Int) < out.length := by omega
          simp [g0, g5, g6, hL, hp', hR, h3, h3']
noncomputable def c150 := ctr (fun s : ByteArray => s.size ≤ 1000000000) (fun s => [.str s]) (fun s => (false, .tup [.inl 4 ((readTS s).1.map Tok.v), .int .i64 (readTS s).2.1, .int .i64 (readTS s).2.2, .bool (decide ((readTS s).2.1 = 0))]))
theorem c150_eq (s : ByteArray) (h : s.size ≤ 1000000000) : c150 [.str s] = some (false, .tup [.inl 4 ((readTS s).1.map Tok.v), .int .i64 (readTS s).2.1, .int .i64 (readTS s).2.2, .bool (decide ((readTS s).2.1 = 0))]) := ctr_eq (by simp) s h rfl
theorem c150_ok : COK Tryz.prog (150, c150) := ctr_ok fun n h => f150_ok n h
end Go.TM.Tryz
end
section
set_option maxHeartbeats 16000000
set_option maxRecDepth 20000
namespace Go.TM
open Go
structure CS where
  at_ : Nat
  bad : Int
  pl : Int
def placeS (l : List Tok) (z : Int) (a : Nat) : Int := match l[a]? with | some t => t.at_ | none => z
def failC (l : List Tok) (z : Int) (p : CS) (c : Int) (a : Nat) : CS := if 0 < p.bad then p else ⟨p.at_, c, placeS l z a⟩
def isC (l : List Tok) (p : CS) (x : ByteArray) : Bool := decide (p.bad = 0) && (match l[p.at_]? with | some t => decide (t.text = x) | none => false)
def stepC (p : CS) : CS := ⟨p.at_ + 1, p.bad, p.pl⟩
def takeC (l : List Tok) (p : CS) (x : ByteArray) : CS := if isC l p x = true then stepC p else p
def needC (l : List Tok) (z : Int) (p : CS) (x : ByteArray) : CS := if isC l p x = true then stepC p else failC l z p 20 p.at_
def noNm (l : List Tok) (p : CS) : Bool := decide (0 < p.bad) || (match l[p.at_]? with | some t => decide (t.kind ≠ 1) | none => true)
def nameC (l : List Tok) (z : Int) (p : CS) : ByteArray × CS := if noNm l p = true then (⟨#[]⟩, failC l z p 20 p.at_) else ((l.getD p.at_ Tok.zero).text, stepC p)
end Go.TM
namespace Go.TM.Tryz
open Go Go.TM Go.Proofs
@[simp] def cB (l : List Tok) (z : Int) (p : CS) : V := .agg [.inl 4 (l.map Tok.v), .int .i64 z, .int .i64 p.at_, .inl 5 [], .str ⟨#[]⟩, .inl 1 [], .inl 6 [], .inl 6 [], .inl 2 [], .inl 3 [], .int .i64 p.bad, .int .i64 p.pl]
@[simp] def cR (l : List Tok) (z : Int) (p : CS) : V := .agg [.lst (l.map Tok.v), .int .i64 z, .int .i64 p.at_, .lst [], .str ⟨#[]⟩, .lst [], .lst [], .lst [], .lst [], .lst [], .int .i64 p.bad, .int .i64 p.pl]
structure COk (l : List Tok) (p : CS) : Prop where
  a : p.at_ ≤ l.length
  b : l.length ≤ 1048576
theorem CS.ext' {x y : CS} (h1 : x.at_ = y.at_) (h2 : x.bad = y.bad) (h3 : x.pl = y.pl) : x = y := by
  cases x; cases y; simp_all
theorem injC1 {l : List Tok} {z : Int} {α β : Type} (f : α → V) (hf : Function.Injective f) (out : CS × α → β) : ∀ x y : CS × α, ([V.ladr [cR l z x.1] 0 0, f x.2] : List V) = [.ladr [cR l z y.1] 0 0, f y.2] → out x = out y := by
  rintro ⟨x, i⟩ ⟨y, k⟩ h
  simp only [List.cons.injEq, and_true, true_and, cR, V.agg.injEq, V.int.injEq, V.ladr.injEq, V.lst.injEq] at h
  have h1 : x = y := CS.ext' (by omega) h.1.2.1 h.1.2.2
  rw [h1, hf h.2]
theorem injC0 {l : List Tok} {z : Int} {β : Type} (out : CS → β) : ∀ x y : CS, (([V.ptr 0 0], [cB l z x]) : List V × List V) = ([.ptr 0 0], [cB l z y]) → out x = out y := by
  rintro x y h
  simp only [Prod.mk.injEq, List.cons.injEq, and_true, true_and, cB, V.agg.injEq, V.int.injEq, V.inl.injEq] at h
  have h1 : x = y := CS.ext' (by omega) h.2.1 h.2.2
  rw [h1]
theorem injC2 {l : List Tok} {z : Int} {α β : Type} (f : α → V) (hf : Function.Injective f) (out : CS × α → β) : ∀ x y : CS × α, (([V.ptr 0 0, f x.2], [cB l z x.1]) : List V × List V) = ([.ptr 0 0, f y.2], [cB l z y.1]) → out x = out y := by
  rintro ⟨x, i⟩ ⟨y, k⟩ h
  simp only [Prod.mk.injEq, List.cons.injEq, and_true, true_and, cB, V.agg.injEq, V.int.injEq, V.inl.injEq] at h
  have h1 : x = y := CS.ext' (by omega) h.2.2.1 h.2.2.2
  rw [h1, hf h.1]
theorem injC3 {l : List Tok} {z : Int} {β : Type} (out : CS × Int × Nat → β) : ∀ x y : CS × Int × Nat, (([V.ptr 0 0, .int .i64 x.2.1, .int .i64 x.2.2], [cB l z x.1]) : List V × List V) = ([.ptr 0 0, .int .i64 y.2.1, .int .i64 y.2.2], [cB l z y.1]) → out x = out y := by
  rintro ⟨x, i, j⟩ ⟨y, k, m⟩ h
  simp only [Prod.mk.injEq, List.cons.injEq, and_true, true_and, cB, V.agg.injEq, V.int.injEq, V.inl.injEq] at h
  have h1 : x = y := CS.ext' (by omega) h.2.2.1 h.2.2.2
  rw [h1, h.1.1, show j = m by omega]
theorem f198_ok (l : List Tok) (z : Int) (p : CS) (h : COk l p) (c : Int) (a : Nat) : GenOK Tryz.prog 198 [.ptr 0 0, .int .i64 c, .int .i64 a] [cB l z p] ⟨false, .tup [], [], [cB l z (failC l z p c a)]⟩ := by
  refine fun_okG (mkE_ok zmix (cl := []) (gl := []) [] trivial trivial) Tryz.func198 (by kernel_rfl) ?_
  refine FunG_run _ _ rfl rfl ?_
  obtain ⟨i, bad, pl⟩ := p
  have hb := h.b
  unfold failC placeS
  by_cases h : 0 < bad
  · simp [h]
  · cases hx : l[a]? with
    | none =>
      have hp : ¬ (a : Int) < l.length := by
        rw [List.getElem?_eq_none_iff] at hx
        omega
      simp [-getElem?_pos, gcz, gcs, h, hx, hp]
    | some t =>
      have hlt : a < l.length := (List.getElem?_eq_some_iff.1 hx).1
      have hp : (a : Int) < l.length := by omega
      simp [-getElem?_pos, gcz, gcs, h, hx, hp, hlt]
noncomputable def c198 (l : List Tok) (z : Int) := ctrG (fun a : CS × Int × Nat => COk l a.1) (fun a => ([.ptr 0 0, .int .i64 a.2.1, .int .i64 a.2.2], [cB l z a.1])) (fun a => ⟨false, .tup [], [], [cB l z (failC l z a.1 a.2.1 a.2.2)]⟩)
theorem c198_eq (l : List Tok) (z : Int) (p : CS) (h : COk l p) (c : Int) (a : Nat) : c198 l z [.ptr 0 0, .int .i64 c, .int .i64 a] [cB l z p] = some ⟨false, .tup [], [], [cB l z (failC l z p c a)]⟩ := ctrG_eq (injC3 _) (p, c, a) h rfl
theorem c198_ok (l : List Tok) (z : Int) : GOK Tryz.prog (198, [], c198 l z) := ctrG_ok fun a h => f198_ok l z a.1 h a.2.1 a.2.2
theorem f199_ok (l : List Tok) (z : Int) (p : CS) (h : COk l p) (x : ByteArray) : FunOK Tryz.prog 199 [.ladr [cR l z p] 0 0, .str x] false (.bool (isC l p x)) := by
  refine fun_ok (mkE_ok zmix (cl := []) (gl := []) [] trivial trivial) Tryz.func199 (by kernel_rfl) ?_
  refine FunW_run _ _ rfl rfl ?_
  obtain ⟨a, bad, pl⟩ := p
  have ha := h.a
  simp only at ha
  unfold isC
  cases hx : l[a]? with
  | none =>
    have hp : ¬ (a : Int) < l.length := by
      rw [List.getElem?_eq_none_iff] at hx
      omega
    by_cases hw : bad = 0
    · simp [-getElem?_pos, gcz, gcs, hx, hp, hw]
    · simp [-getElem?_pos, gcz, gcs, hx, hp, hw]
  | some t =>
    have hlt : a < l.length := (List.getElem?_eq_some_iff.1 hx).1
    have hp : (a : Int) < l.length := by omega
    by_cases hw : bad = 0
    · simp [-getElem?_pos, gcz, gcs, hx, hp, hlt, hw]
    · simp [-getElem?_pos, gcz, gcs, hx, hp, hlt, hw]
noncomputable def c199 (l : List Tok) (z : Int) := ctr (fun a : CS × ByteArray => COk l a.1) (fun a => [.ladr [cR l z a.1] 0 0, .str a.2]) (fun a => (false, .bool (isC l a.1 a.2)))
theorem c199_eq (l : List Tok) (z : Int) (p : CS) (h : COk l p) (x : ByteArray) : c199 l z [.ladr [cR l z p] 0 0, .str x] = some (false, .bool (isC l p x)) := ctr_eq (injC1 V.str str_inj _) (p, x) h rfl
theorem c199_ok (l : List Tok) (z : Int) : COK Tryz.prog (199, c199 l z) := ctr_ok fun a h => f199_ok l z a.1 h a.2
theorem f153_ok (l : List Tok) (z : Int) (p : CS) (h : COk l p) (x : ByteArray) : GenOK Tryz.prog 153 [.ptr 0 0, .str x] [cB l z p] ⟨false, .bool (isC l p x), [], [cB l z (takeC l p x)]⟩ := by
  refine fun_okG (mkE_ok zmix (cl := [(199, c199 l z)]) (gl := []) [] (c199_ok l z) trivial) Tryz.func153 (by kernel_rfl) ?_
  refine FunG_run _ _ rfl rfl ?_
  have e := c199_eq l z p h x
  unfold takeC stepC
  obtain ⟨a, bad, pl⟩ := p
  have ha := h.a
  have hb := h.b
  simp only at ha
  have w : IntKind.i64.wrap ((a : Int) + 1) = ((a + 1 : Nat) : Int) := (wrap64 (by omega) (by omega)).trans (by omega)
  simp only [cR] at e
  cases hs : isC l ⟨a, bad, pl⟩ x with
  | true =>
    rw [hs] at e
    simp [e, w]
  | false =>
    rw [hs] at e
    simp [e]
noncomputable def c153 (l : List Tok) (z : Int) := ctrG (fun a : CS × ByteArray => COk l a.1) (fun a => ([.ptr 0 0, .str a.2], [cB l z a.1])) (fun a => ⟨false, .bool (isC l a.1 a.2), [], [cB l z (takeC l a.1 a.2)]⟩)
theorem c153_eq (l : List Tok) (z : Int) (p : CS) (h : COk l p) (x : ByteArray) : c153 l z [.ptr 0 0, .str x] [cB l z p] = some ⟨false, .bool (isC l p x), [], [cB l z (takeC l p x)]⟩ := ctrG_eq (injC2 V.str str_inj _) (p, x) h rfl
theorem c153_ok (l : List Tok) (z : Int) : GOK Tryz.prog (153, [], c153 l z) := ctrG_ok fun a h => f153_ok l z a.1 h a.2
theorem isC_lt {l : List Tok} {p : CS} {x : ByteArray} (h : isC l p x = true) : p.at_ < l.length := by
  unfold isC at h
  cases hx : l[p.at_]? with
  | none => rw [hx] at h; simp at h
  | some t => exact (List.getElem?_eq_some_iff.1 hx).1
theorem takeC_ok {l : List Tok} {p : CS} {x : ByteArray} (h : COk l p) : COk l (takeC l p x) := by
  unfold takeC
  split
  · rename_i hi
    exact ⟨isC_lt hi, h.b⟩
  · exact h
theorem failC_ok {l : List Tok} {z : Int} {p : CS} {c : Int} {a : Nat} (h : COk l p) : COk l (failC l z p c a) := by
  unfold failC
  split
  · exact h
  · exact ⟨h.a, h.b⟩
theorem needC_ok {l : List Tok} {z : Int} {p : CS} {x : ByteArray} (h : COk l p) : COk l (needC l z p x) := by
  unfold needC
  split
  · rename_i hi
    exact ⟨isC_lt hi, h.b⟩
  · exact failC_ok h
theorem noNm_lt {l : List Tok} {p : CS} (h : noNm l p = false) : p.at_ < l.length := by
  unfold noNm at h
  cases hx : l[p.at_]? with
  | none => rw [hx] at h; simp at h
  | some t => exact (List.getElem?_eq_some_iff.1 hx).1
theorem nameC_ok {l : List Tok} {z : Int} {p : CS} (h : COk l p) : COk l (nameC l z p).2 := by
  unfold nameC
  split
  · exact failC_ok h
  · rename_i hi
    exact ⟨noNm_lt (by simpa using hi), h.b⟩
theorem f151_ok (l : List Tok) (z : Int) (p : CS) (h : COk l p) (x : ByteArray) : GenOK Tryz.prog 151 [.ptr 0 0, .str x] [cB l z p] ⟨false, .tup [], [], [cB l z (needC l z p x)]⟩ := by
  refine fun_okG (mkE_ok zmix (cl := []) (gl := [(153, [], c153 l z), (198, [], c198 l z)]) [] trivial ⟨c153_ok l z, c198_ok l z⟩) Tryz.func151 (by kernel_rfl) ?_
  refine FunG_run _ _ rfl rfl ?_
  have e := c153_eq l z p h x
  have e2 := c198_eq l z p h 20 p.at_
  unfold takeC at e
  unfold needC
  generalize failC l z p 20 p.at_ = q at *
  cases hs : isC l p x with
  | true =>
    rw [hs] at e
    simp only [cB, if_true] at e
    simp [e]
  | false =>
    rw [hs] at e
    simp only [cB, if_false, Bool.false_eq_true] at e e2
    simp [e, e2]
noncomputable def c151 (l : List Tok) (z : Int) := ctrG (fun a : CS × ByteArray => COk l a.1) (fun a => ([.ptr 0 0, .str a.2], [cB l z a.1])) (fun a => ⟨false, .tup [], [], [cB l z (needC l z a.1 a.2)]⟩)
theorem c151_eq (l : List Tok) (z : Int) (p : CS) (h : COk l p) (x : ByteArray) : c151 l z [.ptr 0 0, .str x] [cB l z p] = some ⟨false, .tup [], [], [cB l z (needC l z p x)]⟩ := ctrG_eq (injC2 V.str str_inj _) (p, x) h rfl
theorem c151_ok (l : List Tok) (z : Int) : GOK Tryz.prog (151, [], c151 l z) := ctrG_ok fun a h => f151_ok l z a.1 h a.2
theorem f152_ok (l : List Tok) (z : Int) (p : CS) (h : COk l p) : GenOK Tryz.prog 152 [.ptr 0 0] [cB l z p] ⟨false, .str (nameC l z p).1, [], [cB l z (nameC l z p).2]⟩ := by
  refine fun_okG (mkE_ok zmix (cl := []) (gl := [(198, [], c198 l z)]) [] trivial (c198_ok l z)) Tryz.func152 (by kernel_rfl) ?_
  refine FunG_run _ _ rfl rfl ?_
  have e2 := c198_eq l z p h 20 p.at_
  unfold nameC noNm stepC
  generalize failC l z p 20 p.at_ = q at *
  obtain ⟨a, bad, pl⟩ := p
  have ha := h.a
  have hb := h.b
  simp only at ha
  have w : IntKind.i64.wrap ((a : Int) + 1) = ((a + 1 : Nat) : Int) := (wrap64 (by omega) (by omega)).trans (by omega)
  obtain ⟨v, hv⟩ : ∃ v, v = a + 1 := ⟨_, rfl⟩
  rw [← hv] at w
  have w2 : IntKind.i64.wrap ((v : Int) - 1) = (a : Int) := (wrap64 (by omega) (by omega)).trans (by omega)
  simp only [cB] at e2
  cases hx : l[a]? with
  | none =>
    have hp : (l.length : Int) ≤ a := by
      rw [List.getElem?_eq_none_iff] at hx
      omega
    have hp2 : ¬ a < l.length := by omega
    by_cases hw : 0 < bad
    · simp [-getElem?_pos, gcz, gcs, hx, hp, hp2, hw, e2]
    · simp [-getElem?_pos, gcz, gcs, hx, hp, hp2, hw, e2]
  | some t =>
    have hlt : a < l.length := (List.getElem?_eq_some_iff.1 hx).1
    have hp : ¬ (l.length : Int) ≤ a := by omega
    have ht : l.getD a Tok.zero = t := by simp [hx]
    by_cases hw : 0 < bad
    · simp [-getElem?_pos, gcz, gcs, hx, hp, hlt, hw, e2]
    · by_cases hk : t.kind = 1
      · rw [ht, ← hv]
        simp [-getElem?_pos, gcz, gcs, hx, hp, hlt, hw, e2, hk, w, w2]
      · simp [-getElem?_pos, gcz, gcs, hx, hp, hlt, hw, e2, hk]
noncomputable def c152 (l : List Tok) (z : Int) := ctrG (fun p : CS => COk l p) (fun p => ([.ptr 0 0], [cB l z p])) (fun p => ⟨false, .str (nameC l z p).1, [], [cB l z (nameC l z p).2]⟩)
theorem c152_eq (l : List Tok) (z : Int) (p : CS) (h : COk l p) : c152 l z [.ptr 0 0] [cB l z p] = some ⟨false, .str (nameC l z p).1, [], [cB l z (nameC l z p).2]⟩ := ctrG_eq (injC0 _) p h rfl
theorem c152_ok (l : List Tok) (z : Int) : GOK Tryz.prog (152, [], c152 l z) := ctrG_ok fun p h => f152_ok l z p h
end Go.TM.Tryz
end
