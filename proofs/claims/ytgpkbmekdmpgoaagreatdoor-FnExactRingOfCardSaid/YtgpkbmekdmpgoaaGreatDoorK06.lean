/- A part of the proof: UM, QA. -/
import Derived.Test.YtgpkbmekdmpgoaaGreatDoorK05
set_option linter.unusedVariables false
set_option linter.unusedSimpArgs false
section
set_option maxHeartbeats 16000000
set_option maxRecDepth 20000
namespace Go.TM
open Go
def halfL (n k : Nat) : List Int := List.replicate k (-1) ++ List.replicate (n - k) 0
theorem halfL_len {n k : Nat} (h : k ≤ n) : (halfL n k).length = n := by
  simp only [halfL, List.length_append, List.length_replicate]
  omega
theorem halfL_all (n : Nat) : halfL n n = List.replicate n (-1) := by
  simp [halfL]
theorem halfL_one {n : Nat} (h : 1 ≤ n) : (-1 : Int) :: (List.replicate n 0).drop 1 = halfL n 1 := by
  simp [halfL, List.drop_replicate]
theorem halfL_step {n k : Nat} (h1 : 1 ≤ k) (h2 : k < n) : (halfL n k).take k ++ (halfL n k).take (min k (n - k)) ++ (halfL n k).drop (k + min k (n - k)) = halfL n (k + min k (n - k)) := by
  have e1 : ∀ j, j ≤ k → (halfL n k).take j = List.replicate j (-1) := fun j hj => by
    rw [halfL, List.take_append_of_le_length (by simpa using hj), List.take_replicate, Nat.min_eq_left hj]
  rw [e1 k (Nat.le_refl _), e1 _ (Nat.min_le_left _ _)]
  have e2 : (halfL n k).drop (k + min k (n - k)) = List.replicate (n - (k + min k (n - k))) 0 := by
    rw [halfL, List.drop_append, List.length_replicate, List.drop_replicate, List.drop_replicate]
    rw [show k - (k + min k (n - k)) = 0 by omega, show n - k - (k + min k (n - k) - k) = n - (k + min k (n - k)) by omega]
    rfl
  rw [e2, List.replicate_append_replicate]
  rfl
end Go.TM
namespace Go.TM.Tryz
open Go Go.TM Go.Proofs
noncomputable def E11 : Env := mkE Tryz.prog [(162, c162)] [] []
theorem E11_ok : EnvOK Tryz.prog E11 := mkE_ok zmix [] c162_ok trivial
@[simp] theorem E11_ti : E11.ti = tiOf Tryz.prog := rfl
@[simp] theorem E11_el : E11.el = elOf Tryz.prog := rfl
@[simp] theorem E11_fld : E11.fld = Go.TM.fldOf Tryz.prog := rfl
@[simp] theorem E11_str : E11.str = strOf Tryz.prog := rfl
@[simp] theorem E11_bol : E11.bol = bolOf Tryz.prog := rfl
@[simp] theorem E11_int : E11.int = intOf Tryz.prog := rfl
@[simp] theorem E11_bld : E11.bld = bldOf Tryz.prog := rfl
@[simp] theorem E11_eqs : E11.eqs = eqsOf Tryz.prog := rfl
@[simp] theorem E11_call : E11.call = callL [(162, c162)] := rfl
@[simp] theorem E11_rw : E11.rw = rwL [] := rfl
@[simp] theorem E11_gen : E11.gen = genL [] := rfl
@[simp] theorem E11_plan : E11.plan = planL [] := rfl
@[simp] theorem E11_pln : E11.pln = fun _ => none := rfl
def tx11 : TX := .two false 3 (.one false 6 (.one false 7 (.one false 8 (.one false 9 .done)))) false 6 (.one false 3 (.one false 7 (.one false 8 (.one false 9 .done))))
def pl11 : Pl := ⟨[0, 1, 2, 4, 5], [], [], [3, 6, 7, 8, 9], .done⟩
noncomputable def r11a (x : Nat) : Option (Rule (Option DG)) := if x = 2 then some (rCopy1 (.tmp 31) (.tmp 32) (some 33)) else none
noncomputable def r11b (x : Nat) : Option (Rule (Option DG)) := if x = 3 then some (rCut 1 (.tmp 39) (some (.tmp 40)) none (some 41)) else if x = 6 then some (rCut 1 (.tmp 42) none (some (.tmp 43)) (some 44)) else if x = 7 then some (rCopyX (.tmp 41) (.tmp 44) (some 45)) else none
noncomputable def C11 (id : Nat) : Option (Array Oper → Rule (Option DG)) :=
  if id = 7 then some (seqR E11 r11a) else if id = 9 then some (fun ops => cutR2 E11 r11b ops pl11 tx11) else none
theorem ti3 : tiOf Tryz.prog 3 = some ⟨1, false, 8, .int .i64 0⟩ := by kernel_rfl
theorem el46 : elOf Tryz.prog 46 = some 3 := by kernel_rfl
theorem d111_okX (M : Mem) (W : World) {c : Code} (hc : Tryz.f111.body = some c) : okCX (InvD M W) Tryz.prog Tryz.f111.ntmps C11 c := by
  have e : c = _ := (Option.some.inj hc).symm
  subst e
  simp [okCX, C11]
  refine ⟨?_, ?_⟩
  · refine opsX_ok E11_ok InvD.evo (by kernel_rfl) ?_
    intro i o r ho hr
    simp only [r11a] at hr
    split at hr
    · rename_i e
      subst e
      obtain rfl := Option.some.inj hr
      obtain rfl := Option.some.inj ho
      exact ⟨rfl, rCopy1_ok (tt := ⟨1, false, 8, .int .i64 0⟩) E11_ok.toStaOK rfl rfl rfl rfl el46 ti3 rfl (by kernel_rfl)⟩
    · cases hr
  · refine cutX_ok (cs := [3, 6, 7]) (qs := []) E11_ok InvD.evo (by kernel_rfl) ⟨?_, ?_, ?_, ?_⟩ (by kernel_rfl) (by kernel_rfl)
    · intro i r hr
      simp only [r11b] at hr
      split at hr
      · rename_i e; simp [e]
      · split at hr
        · rename_i e; simp [e]
        · split at hr
          · rename_i e; simp [e]
          · cases hr
    · intro i hi
      simp only [List.mem_cons, List.not_mem_nil, or_false] at hi
      rcases hi with rfl | rfl | rfl <;> rfl
    · intro i o r ho hr
      simp only [r11b] at hr
      split at hr
      · rename_i e
        subst e
        obtain rfl := Option.some.inj hr
        obtain rfl := Option.some.inj ho
        exact ⟨rfl, rCut_ok (tt := ⟨1, false, 8, .int .i64 0⟩) E11_ok.toStaOK rfl el46 ti3 (by kernel_rfl)⟩
      · split at hr
        · rename_i e
          subst e
          obtain rfl := Option.some.inj hr
          obtain rfl := Option.some.inj ho
          exact ⟨rfl, rCut_ok (tt := ⟨1, false, 8, .int .i64 0⟩) E11_ok.toStaOK rfl el46 ti3 (by kernel_rfl)⟩
        · split at hr
          · rename_i e
            subst e
            obtain rfl := Option.some.inj hr
            obtain rfl := Option.some.inj ho
            exact ⟨rfl, rCopyX_ok (tt := ⟨1, false, 8, .int .i64 0⟩) E11_ok.toStaOK rfl rfl rfl rfl el46 ti3 rfl (by kernel_rfl)⟩
          · cases hr
    · intro i o r ho hr hi
      cases hi
attribute [simp] C11 r11a r11b
theorem d111_walk (n : Nat) (h1 : 1 ≤ n) (h8 : n ≤ 8) (M : Mem) (W : World) (vs : List Value) (hm : MemOK M W S.zero) (ha : All2 (SR1 M W) [.lst [.int .i64 (-1)], .int .i64 n] vs) :
    Calls Tryz.prog 111 vs.toArray W fun e W' => ∃ v M' s' gg r, e = .returned v ∧ MemOK M' W' s' ∧ InvD M W gg M' W' ∧ SR2 M' W' r v ∧ ∃ t, r = .own t ∧ s'.R t = some ⟨1, (List.replicate n (-1)).map (V.int .i64), true⟩ := by
  refine open_sound (C := C11) (Inv := InvD M W) (g := none) E11_ok InvD.evo Tryz.func111 rfl (by kernel_rfl) (d111_okX M W rfl) hm ha ⟨Evo.refl M W, fun D e => by cases e⟩
    (post := fun s' g' r => ∃ t, r = .own t ∧ s'.R t = some ⟨1, (List.replicate n (-1)).map (V.int .i64), true⟩) ?_
  refine codeX_run ?_
  have hr : Tryz.f111.results.toList = [.tmp 4] := rfl
  simp only [EndsC, hr, resOf]
  have e := c162_eq n h8
  have w1 : IntKind.u64.wrap (n : Int) = n := by
    rcases upto8 h8 with rfl | rfl | rfl | rfl | rfl | rfl | rfl | rfl | rfl <;> decide
  have w2 : IntKind.i64.wrap (n : Int) = n := wrap64 (by omega) (by omega)
  have h0 : ¬ (n : Int) < 0 := by omega
  have hbig : ¬ (9223372036854775807 : Int) < n := by omega
  have w3 : IntKind.u64.wrap (1 : Int) = 1 := by decide
  simp [pureOp, e, w1, w2, w3, h0, hbig]
  refine ⟨by simp [room]; omega, 1, List.replicate n 0, -1, by simp, by simp, by simp, by simp, by intro e; have := congrArg List.length e; simp at this; omega, ?_⟩
  have hone := halfL_one h1
  simp only [hone]
  simp
  refine lpX_ind (fun m t g => ∃ k, m = n - k ∧ 1 ≤ k ∧ k ≤ n ∧ t.e 8 = .int .i64 k ∧ t.e 7 = .own 1 ∧ t.R 1 = some ⟨1, (halfL n k).map (V.int .i64), true⟩ ∧ ∀ D, g = some D → D.t = 1) (n - 1) ⟨1, rfl, by omega, h1, by simp, by simp, by simp, by simp⟩ ?_
  rintro I m t g ih ⟨k, rfl, hk1, hkn, g8, g7, gR, gD⟩
  have hl := halfL_len hkn
  by_cases hlt : k < n
  · have hst := halfL_step hk1 hlt
    have hw : IntKind.i64.wrap ((k : Int) + ((min k (n - k) : Nat) : Int)) = ((k + min k (n - k) : Nat) : Int) := wrap64 (by omega) (by omega)
    have hne : (halfL n k).map (V.int .i64) ≠ [] := by
      intro e
      have := congrArg List.length e
      simp [hl] at this
      omega
    simp [pureOp, cutL, pl11, tx11, g8, g7, gR, hl, hlt]
    refine ⟨?_, ?_⟩
    · refine ⟨1, (halfL n k).map (V.int .i64), k, n, by simp, by simp [g7], by simp [gR], hne, by simp [loIs, g8], by simp [hiIs, hl], by omega, by simp [hl], gD, ?_⟩
      rintro ⟨Dt, Db, Do, Dn, Dc⟩ hDt hDn hDc -
      simp only [List.length_map, hl] at hDt hDn hDc
      subst hDt hDn
      simp
      refine ⟨1, (halfL Dn k).map (V.int .i64), 0, k, by simp, by simp [g7], by simp [gR], hne, by simp [loIs], by simp [hiIs, g8], by omega, by simp [hl]; omega, by simp, ?_⟩
      rintro D2 - - - hD2
      obtain rfl := hD2 _ rfl
      simp
      refine ⟨halfL Dn k, k, by omega, by rw [hl]; exact hlt, _, rfl, by simp, by simp [hl], by simp, by simp [hl], by simp [gR], ?_⟩
      simp only [hl, hst]
      simp [g8]
      exact ih (Dn - (k + min k (Dn - k))) _ _ (by omega) ⟨k + min k (Dn - k), rfl, by omega, by omega, by simp [hw], by simp [g7], by simp, by simp⟩
    · refine ⟨1, (halfL n k).map (V.int .i64), 0, k, by simp, by simp [g7], by simp [gR], hne, by simp [loIs], by simp [hiIs, g8], by omega, by simp [hl]; omega, gD, ?_⟩
      rintro ⟨Dt, Db, Do, Dn, Dc⟩ hDt hDn hDc -
      simp only [List.length_map, hl] at hDt hDn hDc
      subst hDt hDn
      simp
      refine ⟨1, (halfL Dn k).map (V.int .i64), k, Dn, by simp, by simp [g7], by simp [gR], hne, by simp [loIs, g8], by simp [hiIs, hl], by omega, by simp [hl], by simp, ?_⟩
      rintro D2 - - - hD2
      obtain rfl := hD2 _ rfl
      simp
      refine ⟨halfL Dn k, k, by omega, by rw [hl]; exact hlt, _, rfl, by simp, by simp [hl], by simp, by simp [hl], by simp [gR], ?_⟩
      simp only [hl, hst]
      simp [g8]
      exact ih (Dn - (k + min k (Dn - k))) _ _ (by omega) ⟨k + min k (Dn - k), rfl, by omega, by omega, by simp [hw], by simp [g7], by simp, by simp⟩
  · have hke : k = n := by omega
    subst hke
    rw [halfL_all] at gR
    simp [pureOp, g8, g7, gR, hlt]
theorem f111_ok (n : Nat) (h1 : 1 ≤ n) (h8 : n ≤ 8) : FunOK Tryz.prog 111 [.lst [.int .i64 (-1)], .int .i64 n] false (.inl 1 ((List.replicate n (-1)).map (V.int .i64))) := by
  refine ⟨⟨_, Tryz.func111, by kernel_rfl, by kernel_rfl⟩, fun M W vs hm ha => (d111_walk n h1 h8 M W vs ⟨hm.nt, hm.nb, hm.box, hm.row, hm.frz, hm.lt, hm.tok, hm.bx⟩ ha).mono ?_⟩
  rintro e W' ⟨v, M', s', gg, r, rfl, h1, h2, h3, t, rfl, h4⟩
  refine ⟨v, M', s', _, rfl, h3, h1, h2.1, ?_, ?_, ?_, ?_, ?_, ?_, ?_⟩
  · simp [resToks, resToks1, toks1, tokL, liveOuts, isBad, S.wrT, h4]
  · simp [resBoxes, boxesL]
  · exact fun _ => ⟨Go.TM.noLs_ints _, rfl⟩
  · simp
  · simp [outsOk, isBad]
  · simp [boxOuts]
  · simp [closeR, closeB, onL1, closeL, h4]
noncomputable def c111 := ctr (fun n : Nat => 1 ≤ n ∧ n ≤ 8) (fun n => [.lst [.int .i64 (-1)], .int .i64 (n : Nat)]) (fun n => (false, .inl 1 ((List.replicate n (-1)).map (V.int .i64))))
theorem c111_eq (n : Nat) (h1 : 1 ≤ n) (h8 : n ≤ 8) : c111 [.lst [.int .i64 (-1)], .int .i64 (n : Nat)] = some (false, .inl 1 ((List.replicate n (-1)).map (V.int .i64))) := ctr_eq (fun a b h => by
  simp only [List.cons.injEq, and_true, V.int.injEq, true_and] at h
  rw [show a = b by omega]) n ⟨h1, h8⟩ rfl
theorem c111_ok : COK Tryz.prog (111, c111) := ctr_ok fun n h => f111_ok n h.1 h.2
end Go.TM.Tryz
end
section
set_option maxHeartbeats 2000000
namespace Go.TM.Tryz
open Go Go.TM Go.Proofs
theorem f157_ok (n : Int) : FunOK Tryz.prog 157 [.int .u8 n] false (.bool (letterB n)) := by
  refine fun_ok (mkE_ok zmix (cl := []) (gl := []) [] trivial trivial) Tryz.func157 (by kernel_rfl) ?_
  refine FunW_run _ _ rfl rfl ?_
  simp [letterB]
noncomputable def c157 := ctr (fun _ : Int => True) (fun n => [.int .u8 n]) (fun n => (false, .bool (letterB n)))
theorem c157_eq (n : Int) : c157 [.int .u8 n] = some (false, .bool (letterB n)) := ctr_eq (by simp) n trivial rfl
theorem c157_ok : COK Tryz.prog (157, c157) := ctr_ok fun n _ => f157_ok n
theorem f158_ok (n : Int) : FunOK Tryz.prog 158 [.int .u8 n] false (.bool (digitB n)) := by
  refine fun_ok (mkE_ok zmix (cl := []) (gl := []) [] trivial trivial) Tryz.func158 (by kernel_rfl) ?_
  refine FunW_run _ _ rfl rfl ?_
  simp [digitB]
noncomputable def c158 := ctr (fun _ : Int => True) (fun n => [.int .u8 n]) (fun n => (false, .bool (digitB n)))
theorem c158_eq (n : Int) : c158 [.int .u8 n] = some (false, .bool (digitB n)) := ctr_eq (by simp) n trivial rfl
theorem c158_ok : COK Tryz.prog (158, c158) := ctr_ok fun n _ => f158_ok n
theorem f68_ok (a : Int × Int × Int) : FunOK Tryz.prog 68 [.int .i64 a.1, .int .i64 a.2.1, .int .i64 a.2.2] false (.bool (inB a.1 a.2.1 a.2.2)) := by
  refine fun_ok (mkE_ok zmix (cl := []) (gl := []) [] trivial trivial) Tryz.func68 (by kernel_rfl) ?_
  refine FunW_run _ _ rfl rfl ?_
  simp [inB]
noncomputable def c68 := ctr (fun _ : Int × Int × Int => True) (fun a => [.int .i64 a.1, .int .i64 a.2.1, .int .i64 a.2.2]) (fun a => (false, .bool (inB a.1 a.2.1 a.2.2)))
theorem c68_eq (n l h : Int) : c68 [.int .i64 n, .int .i64 l, .int .i64 h] = some (false, .bool (inB n l h)) := ctr_eq (by rintro ⟨a, b, c⟩ ⟨d, e, f⟩; simp; rintro rfl rfl rfl; simp) (n, l, h) trivial rfl
theorem c68_ok : COK Tryz.prog (68, c68) := ctr_ok fun n _ => f68_ok n
theorem f66_ok (a : Int × Int × Int) : FunOK Tryz.prog 66 [.int .i64 a.1, .int .i64 a.2.1, .int .i64 a.2.2] false (.bool (inB a.1 a.2.1 a.2.2)) := by
  refine fun_ok (mkE_ok zmix (cl := []) (gl := []) [] trivial trivial) Tryz.func66 (by kernel_rfl) ?_
  refine FunW_run _ _ rfl rfl ?_
  simp [inB]
noncomputable def c66 := ctr (fun _ : Int × Int × Int => True) (fun a => [.int .i64 a.1, .int .i64 a.2.1, .int .i64 a.2.2]) (fun a => (false, .bool (inB a.1 a.2.1 a.2.2)))
theorem c66_eq (n l h : Int) : c66 [.int .i64 n, .int .i64 l, .int .i64 h] = some (false, .bool (inB n l h)) := ctr_eq (by rintro ⟨a, b, c⟩ ⟨d, e, f⟩; simp; rintro rfl rfl rfl; simp) (n, l, h) trivial rfl
theorem c66_ok : COK Tryz.prog (66, c66) := ctr_ok fun n _ => f66_ok n
theorem f105_ok (s : ByteArray) (hs : s.size ≤ lim) : FunOK Tryz.prog 105 [.str s] false (.bool (nameB s)) := by
  refine fun_ok (mkE_ok zmix (cl := [(157, c157), (158, c158), (68, c68)]) (gl := []) [] ⟨c157_ok, c158_ok, c68_ok⟩ trivial) Tryz.func105 (by kernel_rfl) ?_
  refine FunW_run _ _ rfl rfl ?_
  have hsz := ba_len s
  simp only [lim] at hs
  simp
  refine lp_list s.data.toList (fun i t => t.e 0 = .str s ∧ t.e 5 = .int .i64 s.size ∧ t.e 6 = .int .i64 i ∧ allI okB s.data.toList i = true) ?_ ?_ ?_
  · simp
  · rintro c' L hL i t x hx hi ih ⟨h0, h5, h6, hall⟩
    have hi' : i < s.size := by omega
    have hw := wrI (i := i) (by omega)
    have hx' : s.data[i]? = some x := by simpa using hx
    simp [-getElem?_pos, h0, h5, h6, hL, hi', hx', c157_eq, c158_eq]
    split
    · rename_i hc
      have hok : okB i x = false := okB_no.2 hc
      have := allI_no hx hok
      rw [← hsz] at this
      simp [nameB, this]
    · rename_i hc
      have hok : okB i x = true := by rw [← Bool.not_eq_false, okB_no]; exact hc
      refine ih _ ?_
      simp [h0, h5, h6, hw, allI_succ hx, hall, hok]
  · rintro c' t ⟨h0, h5, h6, hall⟩
    rw [← hsz] at h6 hall
    simp [h0, h5, h6, c68_eq, nameB, hall]
noncomputable def c105 := ctr (fun s : ByteArray => s.size ≤ lim) (fun s => [.str s]) (fun s => (false, .bool (nameB s)))
theorem c105_eq (s : ByteArray) (h : s.size ≤ lim) : c105 [.str s] = some (false, .bool (nameB s)) := ctr_eq (by simp) s h rfl
theorem c105_ok : COK Tryz.prog (105, c105) := ctr_ok fun s h => f105_ok s h
theorem f98_ok (s : ByteArray) (hs : s.size ≤ lim) : FunOK Tryz.prog 98 [.str s] false (.bool (nameB s)) := by
  refine fun_ok (mkE_ok zmix (cl := [(66, c66)]) (gl := []) [] c66_ok trivial) Tryz.func98 (by kernel_rfl) ?_
  refine FunW_run _ _ rfl rfl ?_
  have hsz := ba_len s
  simp only [lim] at hs
  simp
  refine lp_list s.data.toList (fun i t => t.e 0 = .str s ∧ t.e 3 = .int .i64 i ∧ allI okB s.data.toList i = true) ?_ ?_ ?_
  · simp
  · rintro c' L hL i t x hx hi ih ⟨h0, h3, hall⟩
    have hi' : i < s.size := by omega
    have hw := wrI (i := i) (by omega)
    have hx' : s.data[i]? = some x := by simpa using hx
    simp [-getElem?_pos, h0, h3, hL, hi', hx']
    split
    · rename_i hc
      have hno := allI_no hx (okB_no2.2 hc)
      rw [← hsz] at hno
      simp [nameB, hno]
    · rename_i hc
      have hok : okB i x = true := by rw [← Bool.not_eq_false, okB_no2]; exact hc
      refine ih _ ?_
      simp [h0, h3, hw, allI_succ hx, hall, hok]
  · rintro c' t ⟨h0, h3, hall⟩
    rw [← hsz] at h3 hall
    simp [h0, h3, c66_eq, nameB, hall]
noncomputable def c98 := ctr (fun s : ByteArray => s.size ≤ lim) (fun s => [.str s]) (fun s => (false, .bool (nameB s)))
theorem c98_eq (s : ByteArray) (h : s.size ≤ lim) : c98 [.str s] = some (false, .bool (nameB s)) := ctr_eq (by simp) s h rfl
theorem c98_ok : COK Tryz.prog (98, c98) := ctr_ok fun s h => f98_ok s h
theorem f170_ok (l : List ByteArray) (s : ByteArray) (hl : l.length ≤ lim) : FunOK Tryz.prog 170 [.lst (l.map .str), .str s] false (.int .i64 (fstI (fun x => decide (x = s)) l)) := by
  refine fun_ok (mkE_ok zmix (cl := []) (gl := []) [] trivial trivial) Tryz.func170 (by kernel_rfl) ?_
  refine FunW_run _ _ rfl rfl ?_
  simp only [lim] at hl
  simp
  refine lp_list l (fun i t => t.e 1 = .str s ∧ t.e 0 = .lst (l.map .str) ∧ t.e 7 = .int .i64 l.length ∧ t.e 8 = .int .i64 i ∧ anyI (fun x => decide (x = s)) l i = false) ?_ ?_ ?_
  · simp
  · rintro c' L hL i t x hx hi ih ⟨h1, h7, h8, h9, hall⟩
    have hw := wrI (i := i) (by omega)
    simp [-getElem?_pos, List.getElem?_cons_zero, h1, h7, h8, h9, hL, hi, hx]
    split
    · rename_i hc
      exact (fst_yes hx (by simp [hc]) hall).symm
    · rename_i hc
      refine ih _ ?_
      simp [h1, h7, h8, h9, hw, anyI_succ hx, hall]
      exact fun h => hc h.symm
  · rintro c' t ⟨h1, h7, h8, h9, hall⟩
    simp [h1, h7, h8, h9, fst_no hall]
noncomputable def c170 := ctr (fun a : List ByteArray × ByteArray => a.1.length ≤ lim) (fun a => [.lst (a.1.map .str), .str a.2]) (fun a => (false, .int .i64 (fstI (fun x => decide (x = a.2)) a.1)))
theorem c170_eq (l : List ByteArray) (s : ByteArray) (h : l.length ≤ lim) : c170 [.lst (l.map .str), .str s] = some (false, .int .i64 (fstI (fun x => decide (x = s)) l)) := ctr_eq (injLS str_inj _) (l, s) h rfl
theorem c170_ok : COK Tryz.prog (170, c170) := ctr_ok fun a h => f170_ok a.1 a.2 h
theorem f118_ok (l : List ByteArray) (s : ByteArray) (hl : l.length ≤ lim) : FunOK Tryz.prog 118 [.lst (l.map .str), .str s] false (.bool (hasB l s)) := by
  refine fun_ok (mkE_ok zmix (cl := [(170, c170)]) (gl := []) [] c170_ok trivial) Tryz.func118 (by kernel_rfl) ?_
  refine FunW_run _ _ rfl rfl ?_
  simp [c170_eq l s hl, fst_ge, hasB]
noncomputable def c118 := ctr (fun a : List ByteArray × ByteArray => a.1.length ≤ lim) (fun a => [.lst (a.1.map .str), .str a.2]) (fun a => (false, .bool (hasB a.1 a.2)))
theorem c118_eq (l : List ByteArray) (s : ByteArray) (h : l.length ≤ lim) : c118 [.lst (l.map .str), .str s] = some (false, .bool (hasB l s)) := ctr_eq (injLS str_inj _) (l, s) h rfl
theorem c118_ok : COK Tryz.prog (118, c118) := ctr_ok fun a h => f118_ok a.1 a.2 h
end Go.TM.Tryz
end
