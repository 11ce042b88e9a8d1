/- A part of the proof: QB, QC, QD, QE, QF, SK. -/
import Derived.Test.YtgpkbmekdmpgoaaGreatDoorK06
import Derived.Below
set_option linter.unusedVariables false
set_option linter.unusedSimpArgs false
section
set_option maxHeartbeats 8000000
set_option maxRecDepth 20000
namespace Go.TM.Tryz
open Go Go.TM Go.Proofs
theorem bA_get {b : ByteArray} {i : Nat} (h : i < b.size) : (b.data[i]'h).toNat = bA b i := by
  unfold bA
  have h' : i < b.data.size := h
  rw [Array.getD, dif_pos h']
  rfl
theorem f138_ok (n : Int) : FunOK Tryz.prog 138 [.int .u8 n] false (.bool (letterB n)) := by
  refine fun_ok (mkE_ok zmix (cl := []) (gl := []) [] trivial trivial) Tryz.func138 (by kernel_rfl) ?_
  refine FunW_run _ _ rfl rfl ?_
  simp [letterB]
noncomputable def c138 := ctr (fun _ : Int => True) (fun n => [.int .u8 n]) (fun n => (false, .bool (letterB n)))
theorem c138_eq (n : Int) : c138 [.int .u8 n] = some (false, .bool (letterB n)) := ctr_eq (by simp) n trivial rfl
theorem c138_ok : COK Tryz.prog (138, c138) := ctr_ok fun n _ => f138_ok n
theorem f139_ok (n : Int) : FunOK Tryz.prog 139 [.int .u8 n] false (.bool (digitB n)) := by
  refine fun_ok (mkE_ok zmix (cl := []) (gl := []) [] trivial trivial) Tryz.func139 (by kernel_rfl) ?_
  refine FunW_run _ _ rfl rfl ?_
  simp [digitB]
noncomputable def c139 := ctr (fun _ : Int => True) (fun n => [.int .u8 n]) (fun n => (false, .bool (digitB n)))
theorem c139_eq (n : Int) : c139 [.int .u8 n] = some (false, .bool (digitB n)) := ctr_eq (by simp) n trivial rfl
theorem c139_ok : COK Tryz.prog (139, c139) := ctr_ok fun n _ => f139_ok n
def hexI (x : Nat) : Int := if 48 ≤ x ∧ x ≤ 57 then (x : Int) - 48 else if 65 ≤ x ∧ x ≤ 70 then (x : Int) - 55 else -1
theorem wrapU8 {n : Int} (h0 : 0 ≤ n) (h1 : n < 256) : IntKind.u8.wrap n = n := by
  have : IntKind.u8.wrap n = n % 256 := by simp [IntKind.wrap, IntKind.bits, IntKind.signed]
  rw [this]
  omega
theorem f188_ok (x : Nat) (h : x < 256) : FunOK Tryz.prog 188 [.int .u8 x] false (.int .i64 (hexI x)) := by
  refine fun_ok (mkE_ok zmix (cl := [(139, c139)]) (gl := []) [] c139_ok trivial) Tryz.func188 (by kernel_rfl) ?_
  refine FunW_run _ _ rfl rfl ?_
  unfold hexI
  by_cases h1 : 48 ≤ x ∧ x ≤ 57
  · have e : digitB x = true := by
      unfold digitB
      simp only [Bool.and_eq_true, decide_eq_true_eq]
      omega
    have w1 : IntKind.u8.wrap ((x : Int) - 48) = (x : Int) - 48 := wrapU8 (by omega) (by omega)
    have w2 : IntKind.i64.wrap ((x : Int) - 48) = (x : Int) - 48 := wrap64 (by omega) (by omega)
    simp [c139_eq, e, h1, w1, w2]
  · have e : digitB x = false := by
      unfold digitB
      rw [Bool.eq_false_iff]
      intro hh
      simp only [Bool.and_eq_true, decide_eq_true_eq] at hh
      omega
    rw [if_neg h1]
    by_cases h2 : 65 ≤ x ∧ x ≤ 70
    · have a1 : (65 : Int) ≤ x := by omega
      have a2 : (x : Int) ≤ 70 := by omega
      have w1 : IntKind.u8.wrap ((x : Int) - 65) = (x : Int) - 65 := wrapU8 (by omega) (by omega)
      have w2 : IntKind.i64.wrap ((x : Int) - 65) = (x : Int) - 65 := wrap64 (by omega) (by omega)
      have w3 : IntKind.i64.wrap ((x : Int) - 65 + 10) = (x : Int) - 55 := (wrap64 (by omega) (by omega)).trans (by omega)
      simp [c139_eq, e, h2, a1, a2, w1, w2, w3]
    · rw [if_neg h2]
      by_cases a1 : (65 : Int) ≤ x
      · have a2 : ¬ (x : Int) ≤ 70 := by omega
        simp [c139_eq, e, a1, a2]
      · simp [c139_eq, e, a1]
noncomputable def c188 := ctr (fun x : Nat => x < 256) (fun x => [.int .u8 x]) (fun x => (false, .int .i64 (hexI x)))
theorem inj_u8 {β : Type} (out : Nat → β) : ∀ a b : Nat, ([V.int .u8 a] : List V) = [.int .u8 b] → out a = out b := by
  intro a b h
  simp at h
  have : a = b := by omega
  rw [this]
theorem c188_eq (x : Nat) (h : x < 256) : c188 [.int .u8 x] = some (false, .int .i64 (hexI x)) := ctr_eq (inj_u8 _) x h rfl
theorem c188_ok : COK Tryz.prog (188, c188) := ctr_ok fun n h => f188_ok n h
theorem f142_ok (x : Nat) (h : x < 256) : FunOK Tryz.prog 142 [.int .u8 x] false (.bool (signB x)) := by
  refine fun_ok (mkE_ok zmix (cl := []) (gl := []) [] trivial trivial) Tryz.func142 (by kernel_rfl) ?_
  refine FunW_run _ _ rfl rfl ?_
  simp
  refine lp_list signs (fun i t => t.e 0 = .int .u8 x ∧ t.e 3 = .int .i64 i ∧ anyI (fun y => decide (y = x)) signs i = false) ?_ ?_ ?_
  · simp
  · rintro c' L hL i t y hx hi ih ⟨h0, h3, hall⟩
    have hi10 : i < 10 := hi
    have hi10' : (i : Int) < 10 := by omega
    have hw := wrI (i := i) (by omega)
    have hy : ((#[59, 44, 46, 58, 61, 42, 45, 43, 40, 41] : Array UInt8).getD i 0).toNat = y := by
      have : ∀ j : Fin 10, ((#[59, 44, 46, 58, 61, 42, 45, 43, 40, 41] : Array UInt8).getD j.val 0).toNat = signs[j.val]?.getD 0 := by decide
      have h2 := this ⟨i, hi10⟩
      simp only [hx, Option.getD_some] at h2
      exact h2
    have hy2 : ∀ h' : i < [59, 44, 46, 58, 61, 42, 45, 43, 40, 41].length, (([59, 44, 46, 58, 61, 42, 45, 43, 40, 41] : List UInt8)[i]'h').toNat = y := by
      intro h'
      rw [← hy]
      simp [Array.getD]
      rw [dif_pos hi10]
    have hsz : (⟨#[59, 44, 46, 58, 61, 42, 45, 43, 40, 41]⟩ : ByteArray).size = 10 := rfl
    simp [h0, h3, hL, hi10', hi10, hy2, hsz]
    split
    · rename_i hc
      exact any_yes hx (by rw [decide_eq_true_eq]; omega)
    · rename_i hc
      refine ih _ ?_
      have hc' : ¬ y = x := by omega
      simp [h0, h3, hw, anyI_succ hx, hall, hc']
  · rintro c' t ⟨h0, h3, hall⟩
    rw [anyI_all] at hall
    have h3' : t.e 3 = .int .i64 10 := h3
    simp [h0, h3', signB, hall]
noncomputable def c142 := ctr (fun x : Nat => x < 256) (fun x => [.int .u8 x]) (fun x => (false, .bool (signB x)))
theorem c142_eq (x : Nat) (h : x < 256) : c142 [.int .u8 x] = some (false, .bool (signB x)) := ctr_eq (inj_u8 _) x h rfl
theorem c142_ok : COK Tryz.prog (142, c142) := ctr_ok fun n h => f142_ok n h
theorem hexI_dig {x base : Nat} (hb : base = 10 ∨ base = 16) : (hexI x < 0 ∨ (base : Int) ≤ hexI x) ↔ digV base x = none := by
  unfold hexI digV
  split
  · split
    · simp
      omega
    · simp
      omega
  · split
    · split
      · simp
        omega
      · simp
        omega
    · simp
theorem hexI_val {x base d : Nat} (h : digV base x = some d) : hexI x = d := by
  unfold digV at h
  unfold hexI
  split
  · rename_i hc
    rw [if_pos hc] at h
    split at h
    · cases h; omega
    · cases h
  · rename_i hc
    rw [if_neg hc] at h
    split
    · rename_i hc2
      rw [if_pos hc2] at h
      split at h
      · cases h; omega
      · cases h
    · rename_i hc2
      rw [if_neg hc2] at h
      cases h
theorem digV_lt {x base d : Nat} (h : digV base x = some d) : d < base := by
  unfold digV at h
  split at h
  · split at h
    · cases h; assumption
    · cases h
  · split at h
    · split at h
      · cases h; assumption
      · cases h
    · cases h
end Go.TM.Tryz
end
section
set_option maxHeartbeats 16000000
set_option maxRecDepth 20000
namespace Go.TM.Tryz
open Go Go.TM Go.Proofs
theorem f141_ok (s : ByteArray) (hs : s.size ≤ 1000000000) : FunOK Tryz.prog 141 [.str s] false (.tup [.int .i64 (((numS s).getD 0 : Nat) : Int), .bool (numS s).isSome]) := by
  refine fun_ok (mkE_ok zmix (cl := [(139, c139), (188, c188)]) (gl := []) [] ⟨c139_ok, c188_ok⟩ trivial) Tryz.func141 (by kernel_rfl) ?_
  refine FunW_run _ _ rfl rfl ?_
  unfold numS
  by_cases h0 : s.size = 0
  · have he : s = ⟨#[]⟩ := ByteArray.size_eq_zero_iff.1 h0
    rw [if_pos h0]
    subst he
    simp [c139_eq 0]
  · have he : ¬ s = ⟨#[]⟩ := fun e => h0 (by rw [e]; rfl)
    have hp : 0 < s.size := by omega
    have hg0 := bA_get hp
    rw [if_neg h0]
    by_cases hd : digitB (bA s 0) = false
    · rw [if_pos hd]
      have e139 := c139_eq (bA s 0)
      rw [hd] at e139
      simp [he, hp, hg0, e139]
    · rw [if_neg hd]
      have hd' : digitB (bA s 0) = true := by simpa using hd
      have e139 := c139_eq (bA s 0)
      rw [hd'] at e139
      have w0 : IntKind.i64.wrap ((s.size : Int) - 1) = ((s.size - 1 : Nat) : Int) := (wrap64 (by omega) (by omega)).trans (by omega)
      obtain ⟨m, hm1⟩ : ∃ m, m = s.size - 1 := ⟨_, rfl⟩
      rw [← hm1] at w0
      have hml : m < s.size := by omega
      have hgl := bA_get hml
      rw [← hm1]
      by_cases hl : bA s m = 72
      · rw [if_pos hl]
        rw [hl] at hgl
        generalize hT : lpN s 16 7 m 0 0 = T
        have hz : (s.extract 0 m).size = m := by rw [extract_sz s (by omega)]; omega
        have HB : ∀ i, i < (s.extract 0 m).size → bA (s.extract 0 m) i = bA s i := fun i hi => by rw [bA_extract (by omega) (by omega)]; simp
        have hmle : m ≤ s.size := by omega
        have hmle' : (m : Int) ≤ s.size := by omega
        simp [he, hp, hg0, e139, w0, hml, hgl, hmle, hmle']
        generalize s.extract 0 m = bd at *
        refine lp_ind (fun d t => ∃ (i n : Nat), d + i = m ∧ t.e 4 = .int .i64 16 ∧ t.e 5 = .int .i64 7 ∧ t.e 6 = .str bd ∧ t.e 7 = .int .i64 n ∧ t.e 8 = .int .i64 i ∧ n < 16 ^ i ∧ i ≤ 7 ∧ lpN s 16 7 d i n = T) (m) ⟨0, 0, rfl, by simp, by simp, by simp, by simp, by simp, by simp, by omega, hT⟩ ?_
        rintro c' L hL d t ih ⟨i, n, hdi, g4, g5, g6, g7, g8, hn, him, hr⟩
        cases d with
        | zero =>
          have hi' : ¬ (i : Int) < m := by omega
          have hi'' : ¬ (i : Int) < (bd).size := by rw [hz]; omega
          simp only [lpN] at hr
          subst hr
          simp [g4, g5, g6, g7, g8, hL, hi', hi'', hz]
        | succ d =>
          have hib : i < (bd).size := by rw [hz]; omega
          have hib' : (i : Int) < (bd).size := by omega
          have hx : bA (bd) i = bA s i := HB i hib
          have hgb := bA_get hib
          rw [hx] at hgb
          have hlt := bA_lt s i
          have w1 : IntKind.i64.wrap ((i : Int) + 1) = ((i + 1 : Nat) : Int) := (wrap64 (by omega) (by omega)).trans (by omega)
          unfold lpN at hr
          have hpow : 16 ^ i ≤ 16 ^ 7 := Nat.pow_le_pow_right (by omega) him
          have e188 := c188_eq (bA s i) hlt
          cases hd : digV 16 (bA s i) with
          | none =>
            have h2 := (hexI_dig (x := bA s i) (base := 16) (by omega)).2 hd
            rw [hd] at hr
            simp only at hr
            subst hr
            generalize bA s i = x at *
            generalize hexI x = z at *
            by_cases hz : z < 0
            · simp [g4, g5, g6, g7, g8, hL, hib, hib', hgb, e188, hz]
            · have hz2 : (16 : Int) ≤ z := by omega
              simp [g4, g5, g6, g7, g8, hL, hib, hib', hgb, e188, hz, hz2]
          | some v =>
            have hv := hexI_val hd
            have hvl := digV_lt hd
            rw [hv] at e188
            rw [hd] at hr
            simp only at hr
            generalize bA s i = x at *
            have hz : ¬ (v : Int) < 0 := by omega
            have hz2 : ¬ (16 : Int) ≤ v := by omega
            obtain ⟨N, hN⟩ : ∃ N, N = n * 16 + v := ⟨_, rfl⟩
            have w2 : IntKind.i64.wrap ((n : Int) * 16) = (n : Int) * 16 := wrap64 (by omega) (by omega)
            have w3 : IntKind.i64.wrap ((n : Int) * 16 + (v : Int)) = (N : Int) := (wrap64 (by omega) (by omega)).trans (by omega)
            rw [← hN] at hr
            by_cases hm : 7 ≤ i
            · have hm' : (7 : Int) ≤ i := by omega
              rw [if_pos hm] at hr
              subst hr
              simp [g4, g5, g6, g7, g8, hL, hib, hib', hgb, e188, hz, hz2, w2, w3, hm, hm']
            · have hm' : ¬ (7 : Int) ≤ i := by omega
              rw [if_neg hm] at hr
              simp [g4, g5, g6, g7, g8, hL, hib, hib', hgb, e188, hz, hz2, w2, w3, hm, hm', w1]
              refine ih d _ (by omega) ⟨i + 1, N, by omega, by simp [g4], by simp [g5], by simp [g6], by simp, by simp, ?_, by omega, hr⟩
              rw [Nat.pow_succ]
              omega
      · rw [if_neg hl]
        have hl' : ¬ (bA s m : Int) = 72 := by omega
        generalize hT : lpN s 10 9 s.size 0 0 = T
        have hz : s.size = s.size := rfl
        have HB : ∀ i, i < s.size → bA s i = bA s i := fun i hi => rfl
        simp [he, hp, hg0, e139, w0, hml, hgl, hl']
        refine lp_ind (fun d t => ∃ (i n : Nat), d + i = s.size ∧ t.e 4 = .int .i64 10 ∧ t.e 5 = .int .i64 9 ∧ t.e 6 = .str s ∧ t.e 7 = .int .i64 n ∧ t.e 8 = .int .i64 i ∧ n < 10 ^ i ∧ i ≤ 9 ∧ lpN s 10 9 d i n = T) (s.size) ⟨0, 0, rfl, by simp, by simp, by simp, by simp, by simp, by simp, by omega, hT⟩ ?_
        rintro c' L hL d t ih ⟨i, n, hdi, g4, g5, g6, g7, g8, hn, him, hr⟩
        cases d with
        | zero =>
          have hi' : ¬ (i : Int) < s.size := by omega
          have hi'' : ¬ (i : Int) < (s).size := by rw [hz]; omega
          simp only [lpN] at hr
          subst hr
          simp [g4, g5, g6, g7, g8, hL, hi', hi'', hz]
        | succ d =>
          have hib : i < (s).size := by rw [hz]; omega
          have hib' : (i : Int) < (s).size := by omega
          have hx : bA (s) i = bA s i := HB i hib
          have hgb := bA_get hib
          rw [hx] at hgb
          have hlt := bA_lt s i
          have w1 : IntKind.i64.wrap ((i : Int) + 1) = ((i + 1 : Nat) : Int) := (wrap64 (by omega) (by omega)).trans (by omega)
          unfold lpN at hr
          have hpow : 10 ^ i ≤ 10 ^ 9 := Nat.pow_le_pow_right (by omega) him
          have e188 := c188_eq (bA s i) hlt
          cases hd : digV 10 (bA s i) with
          | none =>
            have h2 := (hexI_dig (x := bA s i) (base := 10) (by omega)).2 hd
            rw [hd] at hr
            simp only at hr
            subst hr
            generalize bA s i = x at *
            generalize hexI x = z at *
            by_cases hz : z < 0
            · simp [g4, g5, g6, g7, g8, hL, hib, hib', hgb, e188, hz]
            · have hz2 : (10 : Int) ≤ z := by omega
              simp [g4, g5, g6, g7, g8, hL, hib, hib', hgb, e188, hz, hz2]
          | some v =>
            have hv := hexI_val hd
            have hvl := digV_lt hd
            rw [hv] at e188
            rw [hd] at hr
            simp only at hr
            generalize bA s i = x at *
            have hz : ¬ (v : Int) < 0 := by omega
            have hz2 : ¬ (10 : Int) ≤ v := by omega
            obtain ⟨N, hN⟩ : ∃ N, N = n * 10 + v := ⟨_, rfl⟩
            have w2 : IntKind.i64.wrap ((n : Int) * 10) = (n : Int) * 10 := wrap64 (by omega) (by omega)
            have w3 : IntKind.i64.wrap ((n : Int) * 10 + (v : Int)) = (N : Int) := (wrap64 (by omega) (by omega)).trans (by omega)
            rw [← hN] at hr
            by_cases hm : 9 ≤ i
            · have hm' : (9 : Int) ≤ i := by omega
              rw [if_pos hm] at hr
              subst hr
              simp [g4, g5, g6, g7, g8, hL, hib, hib', hgb, e188, hz, hz2, w2, w3, hm, hm']
            · have hm' : ¬ (9 : Int) ≤ i := by omega
              rw [if_neg hm] at hr
              simp [g4, g5, g6, g7, g8, hL, hib, hib', hgb, e188, hz, hz2, w2, w3, hm, hm', w1]
              refine ih d _ (by omega) ⟨i + 1, N, by omega, by simp [g4], by simp [g5], by simp [g6], by simp, by simp, ?_, by omega, hr⟩
              rw [Nat.pow_succ]
              omega
noncomputable def c141 := ctr (fun s : ByteArray => s.size ≤ 1000000000) (fun s => [.str s]) (fun s => (false, .tup [.int .i64 (((numS s).getD 0 : Nat) : Int), .bool (numS s).isSome]))
theorem c141_eq (s : ByteArray) (h : s.size ≤ 1000000000) : c141 [.str s] = some (false, .tup [.int .i64 (((numS s).getD 0 : Nat) : Int), .bool (numS s).isSome]) := ctr_eq (by simp) s h rfl
theorem c141_ok : COK Tryz.prog (141, c141) := ctr_ok fun n h => f141_ok n h
end Go.TM.Tryz
end
section
set_option maxHeartbeats 16000000
set_option maxRecDepth 20000
namespace Go.TM.Tryz
open Go Go.TM Go.Proofs
theorem f187_ok : FunOK Tryz.prog 187 [] false (.inl 1 (words15.map .str)) := by
  refine fun_ok (mkE_ok zmix (cl := []) (gl := []) [] trivial trivial) Tryz.func187 (by kernel_rfl) ?_
  refine FunW_run _ _ rfl rfl ?_
  simp [words15, tW]
  rfl
noncomputable def c187 := ctr (fun _ : Unit => True) (fun _ => []) (fun _ => (false, .inl 1 (words15.map .str)))
theorem c187_eq : c187 [] = some (false, .inl 1 (words15.map .str)) := ctr_eq (by simp) () trivial rfl
theorem c187_ok : COK Tryz.prog (187, c187) := ctr_ok fun _ _ => f187_ok
theorem f140_ok (s : ByteArray) : FunOK Tryz.prog 140 [.str s] false (.bool (hasB words15 s)) := by
  refine fun_ok (mkE_ok zmix (cl := [(187, c187)]) (gl := []) [] c187_ok trivial) Tryz.func140 (by kernel_rfl) ?_
  refine FunW_run _ _ rfl rfl ?_
  have hlen : words15.length = 15 := rfl
  have e := c187_eq
  generalize words15 = W at *
  generalize c187 = cc at *
  simp [e]
  refine lp_list W (fun i t => t.e 0 = .str s ∧ t.e 5 = .own 0 ∧ t.e 6 = .int .i64 W.length ∧ t.e 7 = .int .i64 i ∧ t.R 0 = some ⟨1, W.map .str, true⟩ ∧ anyI (fun x => decide (x = s)) W i = false) ?_ ?_ ?_
  · simp
  · rintro c' L hL i t x hx hi ih ⟨h0, h5, h6, h7, hR, hall⟩
    have hw := wrI (i := i) (by omega)
    simp [-getElem?_pos, List.getElem?_cons_zero, h0, h5, h6, h7, hR, hL, hi, hx]
    split
    · rename_i hc
      exact any_yes hx (by simp [hc])
    · rename_i hc
      refine ih _ ?_
      simp [h0, h5, h6, h7, hR, hw, anyI_succ hx, hall, hc]
  · rintro c' t ⟨h0, h5, h6, h7, hR, hall⟩
    rw [anyI_all] at hall
    simp [h0, h5, h6, h7, hR, hasB, hall]
noncomputable def c140 := ctr (fun _ : ByteArray => True) (fun s => [.str s]) (fun s => (false, .bool (hasB words15 s)))
theorem c140_eq (s : ByteArray) : c140 [.str s] = some (false, .bool (hasB words15 s)) := ctr_eq (by simp) s trivial rfl
theorem c140_ok : COK Tryz.prog (140, c140) := ctr_ok fun s _ => f140_ok s
theorem wl_fuel (s : ByteArray) : ∀ (k j : Nat), j ≤ s.size → wl s (s.size - j + k) j = wl s (s.size - j) j
  | 0, j, h => rfl
  | k + 1, j, h => by
    rw [show s.size - j + (k + 1) = (s.size - j + k) + 1 by omega, wl_more s _ _ (by omega), wl_fuel s k j h]
theorem wl_fix (s : ByteArray) {f j : Nat} (h : j ≤ s.size) (hf : s.size ≤ j + f) : wl s f j = wl s (s.size - j) j := by
  have := wl_fuel s (f - (s.size - j)) j h
  rwa [show s.size - j + (f - (s.size - j)) = f by omega] at this
theorem f88_ok (s : ByteArray) (i : Nat) (hi : i < s.size) (hs : s.size ≤ 1000000000) : FunOK Tryz.prog 88 [.str s, .int .i64 i] false (.tup [(oneS s i).1.v, .int .i64 (oneS s i).2]) := by
  refine fun_ok (mkE_ok zmix (cl := [(138, c138), (139, c139), (140, c140), (98, c98), (141, c141), (142, c142)]) (gl := []) [] ⟨c138_ok, c139_ok, c140_ok, c98_ok, c141_ok, c142_ok⟩ trivial) Tryz.func88 (by kernel_rfl) ?_
  refine FunW_run _ _ rfl rfl ?_
  have hi' : (i : Int) < s.size := by omega
  have hgi := bA_get hi
  have hbl := bA_lt s i
  have w1 : IntKind.i64.wrap ((i : Int) + 1) = ((i + 1 : Nat) : Int) := (wrap64 (by omega) (by omega)).trans (by omega)
  generalize hR : oneS s i = R
  unfold oneS endS at hR
  by_cases ha : alnB (bA s i) = true
  · simp only [ha, if_true] at hR
    have hle := wl_le s s.size (i + 1) hi
    have hfx := wl_fix s (f := s.size) (j := i + 1) hi (by omega)
    generalize wl s s.size (i + 1) = E at *
    have hal : letterB (bA s i) = true ∨ (letterB (bA s i) = false ∧ digitB (bA s i) = true) := by
      unfold alnB at ha
      cases h1 : letterB (bA s i) <;> simp_all
    generalize bA s i = x at *
    rcases hal with hl | ⟨hl, hd⟩
    · simp [hi, hi', hgi, w1, c138_eq, c139_eq, hl]
      refine lp_ind (fun d t => ∃ j : Nat, d = s.size - j ∧ j ≤ s.size ∧ i < j ∧ t.e 0 = .str s ∧ t.e 1 = .int .i64 i ∧ t.e 4 = .ptr 0 0 ∧ t.e 5 = .int .i64 0 ∧ t.e 6 = .int .i64 j ∧ t.e 7 = .ptr 1 0 ∧ t.B 0 = some (.agg [.int .i64 0, .str ⟨#[]⟩, .int .i64 0, .int .i64 0]) ∧ t.B 1 = some (.agg [.int .i64 4, .str ⟨#[]⟩, .int .i64 0, .int .i64 i]) ∧ wl s (s.size - j) j = E) (s.size - (i + 1)) ⟨i + 1, rfl, hi, by omega, by simp, by simp, by simp, by simp, by simp, by simp, by simp, by simp, hfx.symm⟩ ?_
      rintro c' L hL d t ih ⟨j, hd0, hjs, hij, g0, g1, g4, g5, g6, g7, gB0, gB1, hwl⟩
      by_cases hc : j < s.size ∧ alnB (bA s j) = true
      · obtain ⟨hj, haj⟩ := hc
        have hj' : (j : Int) < s.size := by omega
        have hgj := bA_get hj
        have w2 : IntKind.i64.wrap ((j : Int) + 1) = ((j + 1 : Nat) : Int) := (wrap64 (by omega) (by omega)).trans (by omega)
        have hwl2 : wl s (s.size - (j + 1)) (j + 1) = E := by
          rw [show s.size - j = (s.size - (j + 1)) + 1 by omega, wl, if_pos ⟨hj, haj⟩] at hwl
          exact hwl
        have hor : letterB (bA s j) = true ∨ (letterB (bA s j) = false ∧ digitB (bA s j) = true) := by
          unfold alnB at haj
          cases h1 : letterB (bA s j) <;> simp_all
        generalize bA s j = y at *
        rcases hor with hly | ⟨hly, hdy⟩
        · simp [g0, g1, g4, g5, g6, g7, gB0, gB1, hL, hj, hj', hgj, c138_eq, c139_eq, hly]
          exact ih (s.size - (j + 1)) _ (by omega) ⟨j + 1, rfl, by omega, by omega, by simp [g0], by simp [g1], by simp [g4], by simp [g5], by simp [w2], by simp [g7], by simp [gB0], by simp [gB1], hwl2⟩
        · simp [g0, g1, g4, g5, g6, g7, gB0, gB1, hL, hj, hj', hgj, c138_eq, c139_eq, hly, hdy]
          exact ih (s.size - (j + 1)) _ (by omega) ⟨j + 1, rfl, by omega, by omega, by simp [g0], by simp [g1], by simp [g4], by simp [g5], by simp [w2], by simp [g7], by simp [gB0], by simp [gB1], hwl2⟩
      · have hjE : j = E := by
          by_cases hj : j < s.size
          · rw [show s.size - j = (s.size - (j + 1)) + 1 by omega, wl, if_neg hc] at hwl
            exact hwl
          · rw [show s.size - j = 0 by omega] at hwl
            exact hwl
        have hij' : i ≤ j := by omega
        have hij2 : (i : Int) ≤ j := by omega
        have hjs' : (j : Int) ≤ s.size := by omega
        have e98 := c98_eq (s.extract i j) (by rw [extract_sz s hjs]; simp only [lim]; omega)
        have e141 := c141_eq (s.extract i j) (by rw [extract_sz s hjs]; omega)
        have e140 := c140_eq (s.extract i j)
        rw [← hjE] at hR
        generalize hT : s.extract i j = T at *
        by_cases hj : j < s.size
        · have hj' : (j : Int) < s.size := by omega
          have hgj := bA_get hj
          have hno : alnB (bA s j) = false := by
            cases h : alnB (bA s j) with
            | true => exact absurd ⟨hj, h⟩ hc
            | false => rfl
          have hno2 : letterB (bA s j) = false ∧ digitB (bA s j) = false := by
            unfold alnB at hno
            simpa using hno
          generalize bA s j = y at *
          obtain ⟨hn1, hn2⟩ := hno2
          by_cases hw : hasB words15 T = true
          · rw [if_pos hl, if_pos hw] at hR
            subst hR
            rw [hw] at e140
            simp [hT, g0, g1, g4, g5, g6, g7, gB0, gB1, hL, hj, hj', hgj, hn1, hn2, hij', hij2, hjs, hjs', hi, hi', hgi, c138_eq, c139_eq, hl, e140]
          · have hw' : hasB words15 T = false := by simpa using hw
            rw [if_pos hl, if_neg hw] at hR
            rw [hw'] at e140
            by_cases hn : nameB T = false
            · rw [if_pos hn] at hR
              subst hR
              rw [hn] at e98
              simp [hT, g0, g1, g4, g5, g6, g7, gB0, gB1, hL, hj, hj', hgj, hn1, hn2, hij', hij2, hjs, hjs', hi, hi', hgi, c138_eq, c139_eq, hl, e140, e98]
            · have hn' : nameB T = true := by simpa using hn
              rw [if_neg hn] at hR
              subst hR
              rw [hn'] at e98
              simp [hT, g0, g1, g4, g5, g6, g7, gB0, gB1, hL, hj, hj', hgj, hn1, hn2, hij', hij2, hjs, hjs', hi, hi', hgi, c138_eq, c139_eq, hl, e140, e98]
        · have hj' : ¬ (j : Int) < s.size := by omega
          by_cases hw : hasB words15 T = true
          · rw [if_pos hl, if_pos hw] at hR
            subst hR
            rw [hw] at e140
            simp [hT, g0, g1, g4, g5, g6, g7, gB0, gB1, hL, hj, hj', hij', hij2, hjs, hjs', hi, hi', hgi, c138_eq, c139_eq, hl, e140]
          · have hw' : hasB words15 T = false := by simpa using hw
            rw [if_pos hl, if_neg hw] at hR
            rw [hw'] at e140
            by_cases hn : nameB T = false
            · rw [if_pos hn] at hR
              subst hR
              rw [hn] at e98
              simp [hT, g0, g1, g4, g5, g6, g7, gB0, gB1, hL, hj, hj', hij', hij2, hjs, hjs', hi, hi', hgi, c138_eq, c139_eq, hl, e140, e98]
            · have hn' : nameB T = true := by simpa using hn
              rw [if_neg hn] at hR
              subst hR
              rw [hn'] at e98
              simp [hT, g0, g1, g4, g5, g6, g7, gB0, gB1, hL, hj, hj', hij', hij2, hjs, hjs', hi, hi', hgi, c138_eq, c139_eq, hl, e140, e98]
    · simp [hi, hi', hgi, w1, c138_eq, c139_eq, hl, hd]
      refine lp_ind (fun d t => ∃ j : Nat, d = s.size - j ∧ j ≤ s.size ∧ i < j ∧ t.e 0 = .str s ∧ t.e 1 = .int .i64 i ∧ t.e 4 = .ptr 0 0 ∧ t.e 5 = .int .i64 0 ∧ t.e 6 = .int .i64 j ∧ t.e 7 = .ptr 1 0 ∧ t.B 0 = some (.agg [.int .i64 0, .str ⟨#[]⟩, .int .i64 0, .int .i64 0]) ∧ t.B 1 = some (.agg [.int .i64 4, .str ⟨#[]⟩, .int .i64 0, .int .i64 i]) ∧ wl s (s.size - j) j = E) (s.size - (i + 1)) ⟨i + 1, rfl, hi, by omega, by simp, by simp, by simp, by simp, by simp, by simp, by simp, by simp, hfx.symm⟩ ?_
      rintro c' L hL d t ih ⟨j, hd0, hjs, hij, g0, g1, g4, g5, g6, g7, gB0, gB1, hwl⟩
      by_cases hc : j < s.size ∧ alnB (bA s j) = true
      · obtain ⟨hj, haj⟩ := hc
        have hj' : (j : Int) < s.size := by omega
        have hgj := bA_get hj
        have w2 : IntKind.i64.wrap ((j : Int) + 1) = ((j + 1 : Nat) : Int) := (wrap64 (by omega) (by omega)).trans (by omega)
        have hwl2 : wl s (s.size - (j + 1)) (j + 1) = E := by
          rw [show s.size - j = (s.size - (j + 1)) + 1 by omega, wl, if_pos ⟨hj, haj⟩] at hwl
          exact hwl
        have hor : letterB (bA s j) = true ∨ (letterB (bA s j) = false ∧ digitB (bA s j) = true) := by
          unfold alnB at haj
          cases h1 : letterB (bA s j) <;> simp_all
        generalize bA s j = y at *
        rcases hor with hly | ⟨hly, hdy⟩
        · simp [g0, g1, g4, g5, g6, g7, gB0, gB1, hL, hj, hj', hgj, c138_eq, c139_eq, hly]
          exact ih (s.size - (j + 1)) _ (by omega) ⟨j + 1, rfl, by omega, by omega, by simp [g0], by simp [g1], by simp [g4], by simp [g5], by simp [w2], by simp [g7], by simp [gB0], by simp [gB1], hwl2⟩
        · simp [g0, g1, g4, g5, g6, g7, gB0, gB1, hL, hj, hj', hgj, c138_eq, c139_eq, hly, hdy]
          exact ih (s.size - (j + 1)) _ (by omega) ⟨j + 1, rfl, by omega, by omega, by simp [g0], by simp [g1], by simp [g4], by simp [g5], by simp [w2], by simp [g7], by simp [gB0], by simp [gB1], hwl2⟩
      · have hjE : j = E := by
          by_cases hj : j < s.size
          · rw [show s.size - j = (s.size - (j + 1)) + 1 by omega, wl, if_neg hc] at hwl
            exact hwl
          · rw [show s.size - j = 0 by omega] at hwl
            exact hwl
        have hij' : i ≤ j := by omega
        have hij2 : (i : Int) ≤ j := by omega
        have hjs' : (j : Int) ≤ s.size := by omega
        have e98 := c98_eq (s.extract i j) (by rw [extract_sz s hjs]; simp only [lim]; omega)
        have e141 := c141_eq (s.extract i j) (by rw [extract_sz s hjs]; omega)
        have e140 := c140_eq (s.extract i j)
        rw [← hjE] at hR
        generalize hT : s.extract i j = T at *
        by_cases hj : j < s.size
        · have hj' : (j : Int) < s.size := by omega
          have hgj := bA_get hj
          have hno : alnB (bA s j) = false := by
            cases h : alnB (bA s j) with
            | true => exact absurd ⟨hj, h⟩ hc
            | false => rfl
          have hno2 : letterB (bA s j) = false ∧ digitB (bA s j) = false := by
            unfold alnB at hno
            simpa using hno
          generalize bA s j = y at *
          obtain ⟨hn1, hn2⟩ := hno2
          have hl' : ¬ letterB x = true := by simp [hl]
          rw [if_neg hl', if_pos hd] at hR
          cases hn : numS T with
          | none =>
            rw [hn] at hR e141
            simp only at hR
            subst hR
            simp [hT, g0, g1, g4, g5, g6, g7, gB0, gB1, hL, hj, hj', hgj, hn1, hn2, hij', hij2, hjs, hjs', hi, hi', hgi, c138_eq, c139_eq, hl, hd, e141]
          | some v =>
            rw [hn] at hR e141
            simp only at hR
            subst hR
            simp [hT, g0, g1, g4, g5, g6, g7, gB0, gB1, hL, hj, hj', hgj, hn1, hn2, hij', hij2, hjs, hjs', hi, hi', hgi, c138_eq, c139_eq, hl, hd, e141]
        · have hj' : ¬ (j : Int) < s.size := by omega
          have hl' : ¬ letterB x = true := by simp [hl]
          rw [if_neg hl', if_pos hd] at hR
          cases hn : numS T with
          | none =>
            rw [hn] at hR e141
            simp only at hR
            subst hR
            simp [hT, g0, g1, g4, g5, g6, g7, gB0, gB1, hL, hj, hj', hij', hij2, hjs, hjs', hi, hi', hgi, c138_eq, c139_eq, hl, hd, e141]
          | some v =>
            rw [hn] at hR e141
            simp only at hR
            subst hR
            simp [hT, g0, g1, g4, g5, g6, g7, gB0, gB1, hL, hj, hj', hij', hij2, hjs, hjs', hi, hi', hgi, c138_eq, c139_eq, hl, hd, e141]
  · have ha' : alnB (bA s i) = false := by simpa using ha
    have hno2 : letterB (bA s i) = false ∧ digitB (bA s i) = false := by
      unfold alnB at ha'
      simpa using ha'
    simp only [ha', if_false, Bool.false_eq_true] at hR
    have h142 := c142_eq (bA s i) hbl
    have hie : (i : Int) ≤ ((i + 1 : Nat) : Int) := by omega
    have hie2 : ((i + 1 : Nat) : Int) ≤ s.size := by omega
    generalize bA s i = x at *
    obtain ⟨hl, hd⟩ := hno2
    have hl' : ¬ letterB x = true := by simp [hl]
    have hd' : ¬ digitB x = true := by simp [hd]
    rw [if_neg hl', if_neg hd'] at hR
    obtain ⟨K, hK⟩ : ∃ K, K = i + 1 := ⟨_, rfl⟩
    have hK1 : i ≤ K := by omega
    have hK2 : K ≤ s.size := by omega
    rw [← hK] at w1 hie hie2 hR
    cases hg : signB x with
    | false =>
      rw [hg, if_pos rfl] at hR
      rw [hg] at h142
      subst hR
      simp [hi, hi', hgi, w1, c138_eq, c139_eq, hl, hd, h142, hie, hie2, hK1, hK2]
    | true =>
      rw [hg, if_neg (by simp)] at hR
      rw [hg] at h142
      subst hR
      simp [hi, hi', hgi, w1, c138_eq, c139_eq, hl, hd, h142, hie, hie2, hK1, hK2]
noncomputable def c88 := ctr (fun a : ByteArray × Nat => a.2 < a.1.size ∧ a.1.size ≤ 1000000000) (fun a => [.str a.1, .int .i64 a.2]) (fun a => (false, .tup [(oneS a.1 a.2).1.v, .int .i64 (oneS a.1 a.2).2]))
theorem inj_si {β : Type} (out : ByteArray × Nat → β) : ∀ a b : ByteArray × Nat, ([V.str a.1, .int .i64 a.2] : List V) = [.str b.1, .int .i64 b.2] → out a = out b := by
  rintro ⟨a, i⟩ ⟨b, j⟩ h
  simp at h
  have : i = j := by omega
  rw [h.1, this]
theorem c88_eq (s : ByteArray) (i : Nat) (hi : i < s.size) (hs : s.size ≤ 1000000000) : c88 [.str s, .int .i64 i] = some (false, .tup [(oneS s i).1.v, .int .i64 (oneS s i).2]) := ctr_eq (inj_si _) (s, i) ⟨hi, hs⟩ rfl
theorem c88_ok : COK Tryz.prog (88, c88) := ctr_ok fun a h => f88_ok a.1 a.2 h.1 h.2
end Go.TM.Tryz
end
section
set_option maxHeartbeats 16000000
set_option maxRecDepth 20000
namespace Go.TM.Tryz
open Go Go.TM Go.Proofs
end Go.TM.Tryz
end
section
set_option maxHeartbeats 8000000
set_option maxRecDepth 20000
namespace Go.TM.Tryz
open Go Go.TM Go.Proofs
def preB (s p : ByteArray) : Bool := decide (p.size ≤ s.size) && decide (s.extract 0 p.size = p)
theorem f191_ok (s p : ByteArray) (hs : s.size ≤ lim) (hp : p.size ≤ lim) : FunOK Tryz.prog 191 [.str s, .str p] false (.bool (preB s p)) := by
  refine fun_ok (mkE_ok zmix (cl := []) (gl := []) [] trivial trivial) Tryz.func191 (by kernel_rfl) ?_
  refine FunW_run _ _ rfl rfl ?_
  by_cases h : p.size ≤ s.size
  · have hi : (p.size : Int) ≤ s.size := by omega
    by_cases he : s.extract 0 p.size = p
    · simp [h, hi, preB, he]
    · simp [h, hi, preB, he]
  · have hi : ¬ (p.size : Int) ≤ s.size := by omega
    simp [h, hi, preB]
noncomputable def c191 := ctr (fun a : ByteArray × ByteArray => a.1.size ≤ lim ∧ a.2.size ≤ lim) (fun a => [.str a.1, .str a.2]) (fun a => (false, .bool (preB a.1 a.2)))
theorem c191_eq (s p : ByteArray) (hs : s.size ≤ lim) (hp : p.size ≤ lim) : c191 [.str s, .str p] = some (false, .bool (preB s p)) := ctr_eq (by rintro ⟨a, b⟩ ⟨c, d⟩; simp; rintro rfl rfl; simp) (s, p) ⟨hs, hp⟩ rfl
theorem c191_ok : COK Tryz.prog (191, c191) := ctr_ok fun a h => f191_ok a.1 a.2 h.1 h.2
theorem f145_ok (s p : ByteArray) (hs : s.size ≤ lim) (hp : p.size ≤ lim) : FunOK Tryz.prog 145 [.str s, .str p] false (.bool (preB s p)) := by
  refine fun_ok (mkE_ok zmix (cl := [(191, c191)]) (gl := []) [] c191_ok trivial) Tryz.func145 (by kernel_rfl) ?_
  refine FunW_run _ _ rfl rfl ?_
  simp [c191_eq s p hs hp]
noncomputable def c145 := ctr (fun a : ByteArray × ByteArray => a.1.size ≤ lim ∧ a.2.size ≤ lim) (fun a => [.str a.1, .str a.2]) (fun a => (false, .bool (preB a.1 a.2)))
theorem c145_eq (s p : ByteArray) (hs : s.size ≤ lim) (hp : p.size ≤ lim) : c145 [.str s, .str p] = some (false, .bool (preB s p)) := ctr_eq (by rintro ⟨a, b⟩ ⟨c, d⟩; simp; rintro rfl rfl; simp) (s, p) ⟨hs, hp⟩ rfl
theorem c145_ok : COK Tryz.prog (145, c145) := ctr_ok fun a h => f145_ok a.1 a.2 h.1 h.2
def sufB (s p : ByteArray) : Bool := decide (p.size ≤ s.size) && decide (s.extract (s.size - p.size) s.size = p)
theorem f269_ok (s p : ByteArray) (hs : s.size ≤ 1000000000) (hp : p.size ≤ 1000000000) : FunOK Tryz.prog 269 [.str s, .str p] false (.bool (sufB s p)) := by
  refine fun_ok (mkE_ok zmix (cl := []) (gl := []) [] trivial trivial) Tryz.func269 (by kernel_rfl) ?_
  refine FunW_run _ _ rfl rfl ?_
  by_cases h : p.size ≤ s.size
  · have hi : (p.size : Int) ≤ s.size := by omega
    obtain ⟨k, hk⟩ : ∃ k, k = s.size - p.size := ⟨_, rfl⟩
    have w : IntKind.i64.wrap ((s.size : Int) - p.size) = (k : Int) := (wrap64 (by omega) (by omega)).trans (by omega)
    have k1 : (k : Int) ≤ s.size := by omega
    have k2 : k ≤ s.size := by omega
    unfold sufB
    rw [← hk]
    by_cases he : s.extract k s.size = p
    · simp [h, hi, w, k1, k2, he]
    · simp [h, hi, w, k1, k2, he]
  · have hi : ¬ (p.size : Int) ≤ s.size := by omega
    simp [h, hi, sufB]
noncomputable def c269 := ctr (fun a : ByteArray × ByteArray => a.1.size ≤ 1000000000 ∧ a.2.size ≤ 1000000000) (fun a => [.str a.1, .str a.2]) (fun a => (false, .bool (sufB a.1 a.2)))
theorem c269_eq (s p : ByteArray) (hs : s.size ≤ 1000000000) (hp : p.size ≤ 1000000000) : c269 [.str s, .str p] = some (false, .bool (sufB s p)) := ctr_eq (by rintro ⟨a, b⟩ ⟨c, d⟩; simp; rintro rfl rfl; simp) (s, p) ⟨hs, hp⟩ rfl
theorem c269_ok : COK Tryz.prog (269, c269) := ctr_ok fun a h => f269_ok a.1 a.2 h.1 h.2
def cutS (s p : ByteArray) : ByteArray := if sufB s p = true then s.extract 0 (s.size - p.size) else s
theorem f258_ok (s p : ByteArray) (hs : s.size ≤ 1000000000) (hp : p.size ≤ 1000000000) : FunOK Tryz.prog 258 [.str s, .str p] false (.tup [.str (cutS s p), .bool (sufB s p)]) := by
  refine fun_ok (mkE_ok zmix (cl := [(269, c269)]) (gl := []) [] c269_ok trivial) Tryz.func258 (by kernel_rfl) ?_
  refine FunW_run _ _ rfl rfl ?_
  have e := c269_eq s p hs hp
  unfold cutS
  cases h : sufB s p with
  | true =>
    rw [h] at e
    unfold sufB at h
    simp only [Bool.and_eq_true, decide_eq_true_eq] at h
    obtain ⟨k, hk⟩ : ∃ k, k = s.size - p.size := ⟨_, rfl⟩
    have w : IntKind.i64.wrap ((s.size : Int) - p.size) = (k : Int) := (wrap64 (by omega) (by omega)).trans (by omega)
    have k1 : (k : Int) ≤ s.size := by omega
    have k2 : k ≤ s.size := by omega
    rw [← hk]
    simp [e, w, k1, k2]
  | false =>
    rw [h] at e
    simp [e]
noncomputable def c258 := ctr (fun a : ByteArray × ByteArray => a.1.size ≤ 1000000000 ∧ a.2.size ≤ 1000000000) (fun a => [.str a.1, .str a.2]) (fun a => (false, .tup [.str (cutS a.1 a.2), .bool (sufB a.1 a.2)]))
theorem c258_eq (s p : ByteArray) (hs : s.size ≤ 1000000000) (hp : p.size ≤ 1000000000) : c258 [.str s, .str p] = some (false, .tup [.str (cutS s p), .bool (sufB s p)]) := ctr_eq (by rintro ⟨a, b⟩ ⟨c, d⟩; simp; rintro rfl rfl; simp) (s, p) ⟨hs, hp⟩ rfl
theorem c258_ok : COK Tryz.prog (258, c258) := ctr_ok fun a h => f258_ok a.1 a.2 h.1 h.2
theorem f234_ok (s p : ByteArray) (hs : s.size ≤ 1000000000) (hp : p.size ≤ 1000000000) : FunOK Tryz.prog 234 [.str s, .str p] false (.tup [.str (cutS s p), .bool (sufB s p)]) := by
  refine fun_ok (mkE_ok zmix (cl := [(258, c258)]) (gl := []) [] c258_ok trivial) Tryz.func234 (by kernel_rfl) ?_
  refine FunW_run _ _ rfl rfl ?_
  simp [c258_eq s p hs hp]
noncomputable def c234 := ctr (fun a : ByteArray × ByteArray => a.1.size ≤ 1000000000 ∧ a.2.size ≤ 1000000000) (fun a => [.str a.1, .str a.2]) (fun a => (false, .tup [.str (cutS a.1 a.2), .bool (sufB a.1 a.2)]))
theorem c234_eq (s p : ByteArray) (hs : s.size ≤ 1000000000) (hp : p.size ≤ 1000000000) : c234 [.str s, .str p] = some (false, .tup [.str (cutS s p), .bool (sufB s p)]) := ctr_eq (by rintro ⟨a, b⟩ ⟨c, d⟩; simp; rintro rfl rfl; simp) (s, p) ⟨hs, hp⟩ rfl
theorem c234_ok : COK Tryz.prog (234, c234) := ctr_ok fun a h => f234_ok a.1 a.2 h.1 h.2
end Go.TM.Tryz
end
section
namespace Go.TM
open Go
def plL : V → Bool
  | .int _ _ | .bool _ | .str _ => true
  | _ => false
theorem plL_ad {v : V} (h : plL v = true) (s : S) : adC v s = (v, s) := by
  cases v <;> simp_all [plL, adC, adL]
theorem pl_ads : ∀ {vs : List V} (_ : vs.all plL = true) (s : S), adCs vs s = (vs, s)
  | [], _, s => rfl
  | v :: vs, h, s => by
    simp only [List.all_cons, Bool.and_eq_true] at h
    simp only [adCs, plL_ad h.1, pl_ads h.2]
theorem plL_val {M : Mem} {W : World} {v : V} {x : Value} (h : plL v = true) (hr : SR1 M W v x) : x = valL v := by
  cases v <;> simp_all [plL] <;> cases hr <;> rfl
theorem pl_vals {M : Mem} {W : World} : ∀ {vs : List V} {xs : List Value} (_ : vs.all plL = true) (_ : All2 (SR1 M W) vs xs), xs = vs.map valL
  | [], [], _, _ => rfl
  | v :: vs, x :: xs, h, hr => by
    simp only [List.all_cons, Bool.and_eq_true] at h
    rw [plL_val h.1 hr.1, pl_vals h.2 hr.2]
    rfl
  | [], _ :: _, _, hr => hr.elim
  | _ :: _, [], _, hr => hr.elim
def plN : V → Bool
  | .nili => true
  | v => plL v
def valN' : V → Value
  | .nili => .nilIface
  | v => valL v
def plV : V → Bool
  | .tup xs => xs.all plN
  | v => plL v
theorem plN_cases {v : V} (h : plN v = true) : v = .nili ∨ (plL v = true ∧ valN' v = valL v) := by
  cases v <;> simp_all [plN, plL, valN']
theorem plL_SR1 {M : Mem} {W : World} {v : V} (h : plL v = true) : SR1 M W v (valL v) := by
  cases v <;> simp_all [plL] <;> rfl
def valW : V → Value
  | .tup xs => .tuple (xs.map valN').toArray
  | v => valL v
theorem plN_SR1 {M : Mem} {W : World} {v : V} (h : plN v = true) : SR1 M W v (valN' v) := by
  rcases plN_cases h with rfl | ⟨h1, h2⟩
  · rfl
  · rw [h2]
    exact plL_SR1 h1
theorem pl_SR1s {M : Mem} {W : World} : ∀ {xs : List V} (_ : xs.all plN = true), All2 (SR1 M W) xs (xs.map valN')
  | [], _ => trivial
  | x :: xs, h => by
    simp only [List.all_cons, Bool.and_eq_true] at h
    exact ⟨plN_SR1 h.1, pl_SR1s h.2⟩
theorem plV_SR2 {M : Mem} {W : World} {v : V} (h : plV v = true) : SR2 M W v (valW v) := by
  cases v with
  | tup xs => exact ⟨xs.map valN', rfl, pl_SR1s h⟩
  | int k n => exact plL_SR1 (M := M) (W := W) (v := (.int k n)) h
  | bool b => exact plL_SR1 (M := M) (W := W) (v := (.bool b)) h
  | str b => exact plL_SR1 (M := M) (W := W) (v := (.str b)) h
  | _ => simp [plV, plL] at h
theorem plL_close {v : V} (h : plL v = true) (s : S) (k : Nat) : closeB s k v = v := by
  cases v <;> simp_all [plL, closeB, onL1, closeL]
theorem plN_close {v : V} (h : plN v = true) (s : S) (k : Nat) : closeB s k v = v := by
  rcases plN_cases h with rfl | ⟨h1, _⟩
  · rfl
  · exact plL_close h1 s k
theorem pl_closes : ∀ {xs : List V} (_ : xs.all plN = true) (s : S) (k : Nat), xs.map (closeB s k) = xs
  | [], _, _, _ => rfl
  | x :: xs, h, s, k => by
    simp only [List.all_cons, Bool.and_eq_true] at h
    rw [List.map_cons, plN_close h.1, pl_closes h.2]
theorem plV_close {v : V} (h : plV v = true) (s : S) (k : Nat) : closeR s k v = v := by
  cases v with
  | tup xs => simp only [closeR, pl_closes (h : xs.all plN = true)]
  | int kk n => exact plL_close (v := (.int kk n)) h s k
  | bool b => exact plL_close (v := (.bool b)) h s k
  | str b => exact plL_close (v := (.str b)) h s k
  | _ => simp [plV, plL] at h
theorem plL_toks {v : V} (h : plL v = true) (s : S) : resToks1 s v = [] := by
  cases v <;> simp_all [plL, resToks1, toks1, tokL]
theorem plL_bx {v : V} (h : plL v = true) : boxesL v = [] := by
  cases v <;> simp_all [plL, boxesL]
theorem plN_toks {v : V} (h : plN v = true) (s : S) : resToks1 s v = [] := by
  rcases plN_cases h with rfl | ⟨h1, _⟩
  · rfl
  · exact plL_toks h1 s
theorem plN_bx {v : V} (h : plN v = true) : boxesL v = [] := by
  rcases plN_cases h with rfl | ⟨h1, _⟩
  · rfl
  · exact plL_bx h1
theorem plL_noL {v : V} (h : plL v = true) : noL v = true := by
  cases v <;> simp_all [plL, noL]
theorem plN_noL {v : V} (h : plN v = true) : noL v = true := by
  rcases plN_cases h with rfl | ⟨h1, _⟩
  · rfl
  · exact plL_noL h1
theorem pl_noLs : ∀ {xs : List V} (_ : xs.all plN = true), noLs xs = true
  | [], _ => rfl
  | x :: xs, h => by
    simp only [List.all_cons, Bool.and_eq_true] at h
    simp only [noLs, plN_noL h.1, pl_noLs h.2, Bool.and_self]
theorem pl_toks {xs : List V} (h : xs.all plN = true) (s : S) : xs.flatMap (resToks1 s) = [] := by
  rw [List.flatMap_eq_nil_iff]
  exact fun x hx => plN_toks (List.all_eq_true.1 h x hx) s
theorem pl_bxs {xs : List V} (h : xs.all plN = true) : xs.flatMap boxesL = [] := by
  rw [List.flatMap_eq_nil_iff]
  exact fun x hx => plN_bx (List.all_eq_true.1 h x hx)
theorem plV_toks {v : V} (h : plV v = true) (s : S) : resToks s v = [] := by
  cases v with
  | tup xs => exact pl_toks h s
  | int k n => exact plL_toks (v := (.int k n)) h s
  | bool b => exact plL_toks (v := (.bool b)) h s
  | str b => exact plL_toks (v := (.str b)) h s
  | _ => simp [plV, plL] at h
theorem plV_bx {v : V} (h : plV v = true) : resBoxes v = [] := by
  cases v with
  | tup xs => exact pl_bxs h
  | int k n => exact plL_bx (v := (.int k n)) h
  | bool b => exact plL_bx (v := (.bool b)) h
  | str b => exact plL_bx (v := (.str b)) h
  | _ => simp [plV, plL] at h
theorem plV_noL {v : V} (h : plV v = true) : noL v = true := by
  cases v with
  | tup xs => simpa only [noL] using pl_noLs (xs := xs) h
  | int k n => exact plL_noL (v := (.int k n)) h
  | bool b => exact plL_noL (v := (.bool b)) h
  | str b => exact plL_noL (v := (.str b)) h
  | _ => simp [plV, plL] at h
theorem fun_of_calls {P : Program} {f : FuncId} {args : List V} {r : V} (hargs : args.all plL = true) (hr : plV r = true)
    (has : ∃ fn, P.funcs[f]? = some fn ∧ (fn.name == "runtime.NumGoroutine") = false ∧ fn.body.isNone = false)
    (h : ∀ W, Calls P f (args.map valL).toArray W fun e w' => e = .returned (valW r) ∧ RowKit.Below W.heap.size W w') : FunOK P f args false r := by
  refine ⟨has, fun M W vs hM hv => ?_⟩
  rw [pl_ads hargs] at hv
  rw [pl_vals hargs hv]
  refine (h W).mono ?_
  rintro e W' ⟨rfl, hB⟩
  have hC : Cls W W' := ⟨hB.os, hB.tape, hB.output, hB.size, hB.block⟩
  refine ⟨_, M, start args [], r, rfl, plV_SR2 hr, hM.cls hC, hC.evo M, ?_, ?_, fun _ => ⟨plV_noL hr, rfl⟩, rfl, trivial, rfl, plV_close hr _ _⟩
  · have e := plV_toks hr (start args [])
    rw [e]
    exact List.nodup_nil
  · rw [plV_bx hr]; exact List.nodup_nil
end Go.TM
end
