/- A part of the proof: XL, XM, XN, XO, XP, XQ. -/
import Derived.Test.YtaillfemdmkdpaaGreatK07
set_option linter.unusedVariables false
set_option linter.unusedSimpArgs false
section
set_option maxHeartbeats 2000000
set_option linter.unusedSimpArgs false
set_option linter.unusedVariables false
namespace Go.Proofs
open Go.Shelf Go.RowKit Go.Lib Go.TM Go.Sort
theorem Tryz.closure76 (x y : Chg) (W : World) : Calls Tryz.prog 76 #[.agg #[.string x.name, .int .i64 x.kind], .agg #[.string y.name, .int .i64 y.kind]] W fun e w' => e = .returned (.int .i64 (cmpS x.name y.name)) ∧ ∃ q os', w' = grow (W.drewN q) os' := by
  have hcon := fun W' => Tryz.compare_str x.name y.name W'
  generalize cmpS x.name y.name = r at hcon ⊢
  go_enter Tryz.func76, Tryz.ntmps76
  go_wp2_with (go_at_call 68; refine (hcon _).mono ?_; rintro e w' ⟨rfl, rfl⟩)
  go_ret
  exact ⟨rfl, 0, _, by rw [alloc_eq_grow, alloc_eq_grow, grow_grow]; rfl⟩
end Go.Proofs
namespace Go.TM.Tryz
open Go Go.TM Go.Proofs Go.Sort Go.Shelf Go.RowKit Go.Lib
def cfC (x y : Chg) : Int := cmpS x.name y.name
def ltC (x y : Chg) : Bool := ltS x.name y.name
theorem ltOf_C : ltOf cfC = ltC := by
  funext x y
  rw [Bool.eq_iff_iff]
  simp [ltOf, cfC, ltC, cmpS_lt]
theorem swoC : SWO (ltOf cfC) := by
  rw [ltOf_C]
  refine ⟨fun x => ltS_irrefl _, fun x y z h k => ltS_trans h k, fun x y z h k => ?_⟩
  simp only [ltC] at *
  cases hxz : ltS x.name z.name with
  | false => rfl
  | true =>
    exfalso
    cases hzy : ltS z.name y.name with
    | true =>
      rw [ltS_trans hxz hzy] at h
      cases h
    | false =>
      have e := ltS_total k hzy
      rw [e, hxz] at h
      cases h
noncomputable def sortC (zs : List Chg) : List Chg := (pdq (ltOf cfC) zs.toArray 0 zs.length (Lib.bitLen zs.length) true true).toList
theorem sortC_perm (zs : List Chg) : (sortC zs).Perm zs ∧ (sortC zs).length = zs.length ∧ (sortC zs).Pairwise (fun x y => ltC y x = false) := by
  have h := pdq_sorts (ltOf cfC) swoC zs.toArray 0 zs.length (Lib.bitLen zs.length) true true (Nat.zero_le _) (Nat.le_refl _) (Or.inl rfl)
  unfold sortC
  generalize pdq (ltOf cfC) zs.toArray 0 zs.length (Lib.bitLen zs.length) true true = d' at h ⊢
  obtain ⟨⟨hsz, _, hperm⟩, hso⟩ := h
  have hsz' : d'.size = zs.length := by simpa using hsz
  have e1 : d'.extract 0 zs.length = d' := by rw [← hsz']; exact Array.extract_size
  have e2 : zs.toArray.extract 0 zs.length = zs.toArray := by simp
  rw [e1, e2] at hperm
  refine ⟨by simpa using hperm, by simpa using hsz', ?_⟩
  rw [List.pairwise_iff_getElem]
  intro i j hi hj hij
  have hi' : i < d'.size := by simpa using hi
  have hj' : j < d'.size := by simpa using hj
  have := hso i j (Nat.zero_le _) hij (by omega)
  rw [ltOf_C, getElem!_pos d' i hi', getElem!_pos d' j hj'] at this
  simpa using this
theorem f75_ok (zs : List Chg) (h : zs.length ≤ 1048576) : GenOK Tryz.prog 75 [.inl 2 (zs.map Chg.v), .fn 76 []] [] ⟨false, .tup [], [.inl 2 ((sortC zs).map Chg.v)], []⟩ := by
  refine sortf_gen (f := Chg.v) (k := 2) (by omega) (fun _ => rfl) (fun _ => rfl) (sortC_perm zs).2.1 ⟨_, Tryz.func75, by kernel_rfl, by kernel_rfl⟩ (fun hne blk off cap w hH hb => ?_) (fun a cap w => AnyF.slices_SortFunc_none Tryz.sortChg a cap _ w)
  have eg : ∀ args w, (callFunc 76 args).run Tryz.prog w = .ok (.enter 76 args) w := enters_of Tryz.func76 (by kernel_rfl) rfl
  refine (AnyQ.slices_SortFunc_eq Tryz.sortChg 2 Tryz.isAgg77 Tryz.sizeOf77 (encF Chg.v) (fun _ => rfl) (fun x v hv => ?_) cfC swoC 76 #[] blk off cap zs.toArray w eg (fun _ _ _ _ x y => Tryz.closure76 x y _) hH hb (by simp; omega)).mono ?_
  · simp [encF, valL] at hv
    rcases hv with rfl | rfl <;> rfl
  · rintro e w' ⟨he, n, os, hw⟩
    exact ⟨he, n, os, hw⟩
end Go.TM.Tryz
end
section
set_option maxHeartbeats 4000000
set_option maxRecDepth 10000
set_option linter.unusedSimpArgs false
set_option linter.unusedVariables false
namespace Go.TM.Tryz
open Go Go.TM Go.Proofs
def findF (l : List Fgr) (n : ByteArray) : Option Fgr := l.find? (fun y => decide (y.name = n))
def sumO : Option Fgr → Int
  | some y => y.sum
  | none => 0
theorem findF_at {l : List Fgr} {i : Nat} {x : Fgr} (n : ByteArray) (h : l[i]? = some x) : (l.drop i).find? (fun y => decide (y.name = n)) = if x.name = n then some x else (l.drop (i + 1)).find? (fun y => decide (y.name = n)) := by
  obtain ⟨hi, hx⟩ := List.getElem?_eq_some_iff.1 h
  rw [List.drop_eq_getElem_cons hi, hx, List.find?_cons]
  by_cases he : x.name = n <;> simp [he]
theorem fgI_len (s : Scp) : (fgI s).length ≤ s.objects.length := by
  rw [fgI, (sortF_perm _).2.1, fgrs, List.length_map]
  exact List.length_filter_le _ _
theorem f74_ok (s : Scp) (n : ByteArray) (h : SRef s) : GenOK Tryz.prog 74 [.ptr 0 0, .str n] [s.v] ⟨false, .tup [.int .i64 (sumO (findF (fgI s) n)), .bool (findF (fgI s) n).isSome], [], [s.v]⟩ := by
  refine fun_okG (mkE_ok zmix (cl := []) (gl := [(30, [], c30)]) [] trivial c30_ok) Tryz.func74 (by kernel_rfl) ?_
  refine FunG_run _ _ rfl rfl ?_
  have e30 := c30_eq s h
  simp only [Scp.v] at e30
  have hl := fgI_len s
  have hol := h.objs
  unfold findF
  generalize fgI s = A at *
  simp [e30]
  refine lp_list A (fun i t => t.e 1 = .str n ∧ t.e 10 = .int .i64 A.length ∧ t.e 11 = .int .i64 i ∧ t.B 0 = some s.v ∧ 0 < t.nb ∧ (∃ p, t.e 9 = .own p ∧ p < t.nt ∧ t.R p = some ⟨3, A.map Fgr.v, true⟩) ∧ A.find? (fun y => decide (y.name = n)) = (A.drop i).find? (fun y => decide (y.name = n))) ?_ ?_ ?_
  · simp
  · rintro c' L hL i t x hx hi ih ⟨h1, h10, h11, hB, hnb, ⟨p, h9, hp, hR⟩, hf⟩
    have hw : IntKind.i64.wrap ((i : Int) + 1) = ((i + 1 : Nat) : Int) := wrap64 (by omega) (by omega)
    have b1 : ¬ t.nb = 0 := by omega
    have b2 : ¬ 0 = t.nb := by omega
    simp only [Scp.v] at hB
    rw [findF_at n hx] at hf
    by_cases he : x.name = n
    · rw [if_pos he] at hf
      simp [-getElem?_pos, List.getElem?_cons_zero, List.getElem?_cons_succ, h1, h10, h11, h9, hR, hB, hL, hi, hx, b1, b2, he, hf, sumO]
    · rw [if_neg he] at hf
      simp [-getElem?_pos, List.getElem?_cons_zero, List.getElem?_cons_succ, h1, h10, h11, h9, hR, hB, hL, hi, hx, b1, b2, he]
      refine ih _ ?_
      simp [h1, h10, h11, h9, hp, hR, hB, hw, b1, b2, hf]
  · rintro c' t ⟨h1, h10, h11, hB, hnb, ⟨p, h9, hp, hR⟩, hf⟩
    simp only [List.drop_length, List.find?_nil] at hf
    simp only [Scp.v] at hB
    simp [h1, h10, h11, h9, hR, hB, hf, sumO]
end Go.TM.Tryz
end
section
set_option maxHeartbeats 4000000
set_option maxRecDepth 10000
set_option linter.unusedSimpArgs false
set_option linter.unusedVariables false
namespace Go.TM.Tryz
open Go Go.TM Go.Proofs
theorem inj74 {β : Type} (out : Scp × ByteArray → β) : ∀ a b : Scp × ByteArray, (([.ptr 0 0, .str a.2], [a.1.v]) : List V × List V) = ([.ptr 0 0, .str b.2], [b.1.v]) → out a = out b := by
  rintro ⟨a, c⟩ ⟨b, d⟩ h
  simp only [Prod.mk.injEq, List.cons.injEq, and_true, true_and, V.str.injEq] at h
  rw [Scp.v_inj h.2, h.1]
noncomputable def c74 := ctrG (fun a : Scp × ByteArray => SRef a.1) (fun a => ([.ptr 0 0, .str a.2], [a.1.v])) (fun a => ⟨false, .tup [.int .i64 (sumO (findF (fgI a.1) a.2)), .bool (findF (fgI a.1) a.2).isSome], [], [a.1.v]⟩)
theorem c74_eq (s : Scp) (n : ByteArray) (h : SRef s) : c74 [.ptr 0 0, .str n] [s.v] = some ⟨false, .tup [.int .i64 (sumO (findF (fgI s) n)), .bool (findF (fgI s) n).isSome], [], [s.v]⟩ := ctrG_eq (inj74 _) (s, n) h rfl
theorem c74_ok : GOK Tryz.prog (74, [], c74) := ctrG_ok fun a h => f74_ok a.1 a.2 h
theorem injC {β : Type} (out : List Chg → β) : ∀ a b : List Chg, (([.inl 2 (a.map Chg.v), .fn 76 []], []) : List V × List V) = ([.inl 2 (b.map Chg.v), .fn 76 []], []) → out a = out b := by
  intro a b h
  simp only [Prod.mk.injEq, List.cons.injEq, and_true, V.inl.injEq, true_and] at h
  rw [map_inj Chg.v_inj h]
noncomputable def c75 := ctrG (fun zs : List Chg => zs.length ≤ 1048576) (fun zs => ([.inl 2 (zs.map Chg.v), .fn 76 []], [])) (fun zs => ⟨false, .tup [], [.inl 2 ((sortC zs).map Chg.v)], []⟩)
theorem c75_eq (zs : List Chg) (h : zs.length ≤ 1048576) : c75 [.inl 2 (zs.map Chg.v), .fn 76 []] [] = some ⟨false, .tup [], [.inl 2 ((sortC zs).map Chg.v)], []⟩ := ctrG_eq (injC _) zs h rfl
theorem c75_ok : GOK Tryz.prog (75, [true], c75) := ctrG_ok fun zs h => f75_ok zs h
def dA (B : List Fgr) (x : Fgr) : Option Chg := match findF B x.name with
  | none => some ⟨x.name, 2⟩
  | some y => if y.sum = x.sum then none else some ⟨x.name, 3⟩
def dB (A : List Fgr) (y : Fgr) : Option Chg := match findF A y.name with
  | none => some ⟨y.name, 1⟩
  | some _ => none
def rawD (A B : List Fgr) : List Chg := A.filterMap (dA B) ++ B.filterMap (dB A)
noncomputable def diffI (a b : Scp) : List Chg := sortC (rawD (fgI a) (fgI b))
theorem fm_none {α β : Type} {d : α → Option β} {l : List α} {i : Nat} {x : α} (h : l[i]? = some x) (hd : d x = none) : (l.take (i + 1)).filterMap d = (l.take i).filterMap d := by
  simp [List.take_add_one, h, hd]
theorem fm_some {α β : Type} {d : α → Option β} {l : List α} {i : Nat} {x : α} {y : β} (h : l[i]? = some x) (hd : d x = some y) : (l.take (i + 1)).filterMap d = (l.take i).filterMap d ++ [y] := by
  simp [List.take_add_one, h, hd]
theorem fm_len {α β : Type} (d : α → Option β) (l : List α) (i : Nat) : ((l.take i).filterMap d).length ≤ l.length := by
  refine Nat.le_trans (List.length_filterMap_le _ _) ?_
  simp; omega
theorem roomC {n : Nat} (h : n ≤ 1048576) : room ⟨2, true, 24, .agg [.str ⟨#[]⟩, .int .i64 0]⟩ n := by simp [room]; omega
theorem f42_ok (a b : Scp) (ha : SRef a) (hb : SRef b) : GenOK Tryz.prog 42 [.ptr 0 0, .ptr 1 0] [a.v, b.v] ⟨false, .inl 2 ((diffI a b).map Chg.v), [], [a.v, b.v]⟩ := by
  refine fun_okG (mkE_ok zmix (cl := []) (gl := [(30, [], c30), (74, [], c74), (75, [true], c75)]) [] trivial ⟨c30_ok, c74_ok, c75_ok⟩) Tryz.func42 (by kernel_rfl) ?_
  refine FunG_run _ _ rfl rfl ?_
  have ea := c30_eq a ha
  have eb := c30_eq b hb
  have fa := fun n => c74_eq a n ha
  have fb := fun n => c74_eq b n hb
  have la := fgI_len a
  have lb := fgI_len b
  have oa := ha.objs
  have ob := hb.objs
  simp only [Scp.v] at ea eb fa fb
  unfold diffI
  generalize fgI a = A at *
  generalize fgI b = B at *
  simp [ea]
  refine lp_list A (fun i t => t.e 0 = .ptr 0 0 ∧ t.e 1 = .ptr 1 0 ∧ t.e 17 = .int .i64 A.length ∧ t.e 18 = .int .i64 i ∧ t.B 0 = some a.v ∧ t.B 1 = some b.v ∧ 1 < t.nb ∧ (∃ p r, t.e 16 = .own p ∧ t.e 5 = .own r ∧ p < t.nt ∧ r < t.nt ∧ p ≠ r ∧ t.R p = some ⟨3, A.map Fgr.v, true⟩ ∧ t.R r = some ⟨2, ((A.take i).filterMap (dA B)).map Chg.v, true⟩)) ?_ ?_ ?_
  · simp
  · rintro c' L hL i t x hx hi ih ⟨h0, h1, h17, h18, hBa, hBb, hnb, p, r, h16, h5, hp, hr, npr, hP, hR⟩
    have hw : IntKind.i64.wrap ((i : Int) + 1) = ((i + 1 : Nat) : Int) := wrap64 (by omega) (by omega)
    have b1 : ¬ t.nb = 0 := by omega
    have b2 : ¬ 0 = t.nb := by omega
    have b3 : ¬ t.nb = 1 := by omega
    have b4 : ¬ 1 = t.nb := by omega
    have n1 : ¬ p = t.nt := by omega
    have n2 : ¬ r = t.nt := by omega
    have nrp : ¬ r = p := fun e => npr e.symm
    simp only [Scp.v] at hBa hBb
    have hlen := fm_len (dA B) A i
    cases hf : findF B x.name with
    | none =>
      have hd : dA B x = some ⟨x.name, 2⟩ := by rw [dA, hf]
      have hst := fm_some hx hd
      have rm := roomC (n := ((A.take i).filterMap (dA B)).length + 1) (by omega)
      generalize (A.take i).filterMap (dA B) = out at *
      simp [-getElem?_pos, List.getElem?_cons_zero, List.getElem?_cons_succ, h0, h1, h17, h18, hBa, hBb, h16, h5, hP, hR, hL, hi, hx, b1, b2, b3, b4, n1, n2, fb, hf, sumO, range1, rm]
      refine ih _ ?_
      simp [h0, h1, h17, h18, hBa, hBb, h16, h5, hP, hR, hw, b1, b2, b3, b4, n1, n2, npr, nrp, hst]
      omega
    | some y =>
      by_cases he : y.sum = x.sum
      · have hd : dA B x = none := by rw [dA, hf]; simp [he]
        have hst := fm_none hx hd
        generalize (A.take i).filterMap (dA B) = out at *
        simp [-getElem?_pos, List.getElem?_cons_zero, List.getElem?_cons_succ, h0, h1, h17, h18, hBa, hBb, h16, h5, hP, hR, hL, hi, hx, b1, b2, b3, b4, n1, n2, fb, hf, sumO, he]
        refine ih _ ?_
        simp [h0, h1, h17, h18, hBa, hBb, h16, h5, hP, hR, hw, b1, b2, b3, b4, n1, n2, npr, nrp, hst]
        omega
      · have hd : dA B x = some ⟨x.name, 3⟩ := by rw [dA, hf]; simp [he]
        have hst := fm_some hx hd
        have rm := roomC (n := ((A.take i).filterMap (dA B)).length + 1) (by omega)
        generalize (A.take i).filterMap (dA B) = out at *
        simp [-getElem?_pos, List.getElem?_cons_zero, List.getElem?_cons_succ, h0, h1, h17, h18, hBa, hBb, h16, h5, hP, hR, hL, hi, hx, b1, b2, b3, b4, n1, n2, fb, hf, sumO, he, range1, rm]
        refine ih _ ?_
        simp [h0, h1, h17, h18, hBa, hBb, h16, h5, hP, hR, hw, b1, b2, b3, b4, n1, n2, npr, nrp, hst]
        omega
  · rintro c' t ⟨h0, h1, h17, h18, hBa, hBb, hnb, p, r, h16, h5, hp, hr, npr, hP, hR⟩
    rw [List.take_length] at hR
    have hlA := fm_len (dA B) A A.length
    rw [List.take_length] at hlA
    have hraw : rawD A B = A.filterMap (dA B) ++ B.filterMap (dB A) := rfl
    generalize A.filterMap (dA B) = o1 at *
    have n1 : ¬ p = t.nt := by omega
    have n2 : ¬ r = t.nt := by omega
    simp only [Scp.v] at hBa hBb
    simp [h0, h1, h17, h18, hBa, hBb, h16, h5, hP, hR, eb]
    refine lp_list B (fun i t => t.e 0 = .ptr 0 0 ∧ t.e 1 = .ptr 1 0 ∧ t.e 52 = .int .i64 B.length ∧ t.e 53 = .int .i64 i ∧ t.B 0 = some a.v ∧ t.B 1 = some b.v ∧ 1 < t.nb ∧ (∃ p r, t.e 51 = .own p ∧ t.e 5 = .own r ∧ p < t.nt ∧ r < t.nt ∧ p ≠ r ∧ t.R p = some ⟨3, B.map Fgr.v, true⟩ ∧ t.R r = some ⟨2, (o1 ++ (B.take i).filterMap (dB A)).map Chg.v, true⟩)) ?_ ?_ ?_
    · simp [h0, h1, h5, hBa, hBb, hR, n2]
      omega
    · clear h0 h1 h17 h18 hBa hBb hnb h16 h5 hp hr npr hP hR n1 n2
      rintro c' L hL i t x hx hi ih ⟨h0, h1, h52, h53, hBa, hBb, hnb, p, r, h51, h5, hp, hr, npr, hP, hR⟩
      have hw : IntKind.i64.wrap ((i : Int) + 1) = ((i + 1 : Nat) : Int) := wrap64 (by omega) (by omega)
      have b1 : ¬ t.nb = 0 := by omega
      have b2 : ¬ 0 = t.nb := by omega
      have b3 : ¬ t.nb = 1 := by omega
      have b4 : ¬ 1 = t.nb := by omega
      have n1 : ¬ p = t.nt := by omega
      have n2 : ¬ r = t.nt := by omega
      have nrp : ¬ r = p := fun e => npr e.symm
      simp only [Scp.v] at hBa hBb
      have hlen := fm_len (dB A) B i
      cases hf : findF A x.name with
      | none =>
        have hd : dB A x = some ⟨x.name, 1⟩ := by rw [dB, hf]
        have hst := fm_some hx hd
        have rm := roomC (n := o1.length + ((B.take i).filterMap (dB A)).length + 1) (by omega)
        generalize (B.take i).filterMap (dB A) = out at *
        simp [-getElem?_pos, List.getElem?_cons_zero, List.getElem?_cons_succ, h0, h1, h52, h53, hBa, hBb, h51, h5, hP, hR, hL, hi, hx, b1, b2, b3, b4, n1, n2, fa, hf, sumO, range1, rm]
        refine ih _ ?_
        simp [h0, h1, h52, h53, hBa, hBb, h51, h5, hP, hR, hw, b1, b2, b3, b4, n1, n2, npr, nrp, hst]
        omega
      | some y =>
        have hd : dB A x = none := by rw [dB, hf]
        have hst := fm_none hx hd
        generalize (B.take i).filterMap (dB A) = out at *
        simp [-getElem?_pos, List.getElem?_cons_zero, List.getElem?_cons_succ, h0, h1, h52, h53, hBa, hBb, h51, h5, hP, hR, hL, hi, hx, b1, b2, b3, b4, n1, n2, fa, hf, sumO]
        refine ih _ ?_
        simp [h0, h1, h52, h53, hBa, hBb, h51, h5, hP, hR, hw, b1, b2, b3, b4, n1, n2, npr, nrp, hst]
        omega
    · clear h0 h1 h17 h18 hBa hBb hnb h16 h5 hp hr npr hP hR n1 n2
      rintro c' t ⟨h0, h1, h52, h53, hBa, hBb, hnb, p, r, h51, h5, hp, hr, npr, hP, hR⟩
      rw [List.take_length, ← hraw] at hR
      have hlB := fm_len (dB A) B B.length
      rw [List.take_length] at hlB
      have e75 := c75_eq (rawD A B) (by rw [hraw, List.length_append]; omega)
      simp only [Scp.v] at hBa hBb
      simp [h0, h1, h52, h53, hBa, hBb, h51, h5, hP, hR, e75, range2]
end Go.TM.Tryz
end
section
set_option maxHeartbeats 4000000
set_option maxRecDepth 10000
set_option linter.unusedSimpArgs false
set_option linter.unusedVariables false
namespace Go.TM.Tryz
open Go Go.TM Go.Proofs
theorem inj42 {β : Type} (out : Scp × Scp → β) : ∀ a b : Scp × Scp, (([.ptr 0 0, .ptr 1 0], [a.1.v, a.2.v]) : List V × List V) = ([.ptr 0 0, .ptr 1 0], [b.1.v, b.2.v]) → out a = out b := by
  rintro ⟨a, c⟩ ⟨b, d⟩ h
  simp only [Prod.mk.injEq, List.cons.injEq, and_true, true_and] at h
  rw [Scp.v_inj h.1, Scp.v_inj h.2]
noncomputable def c42 := ctrG (fun a : Scp × Scp => SRef a.1 ∧ SRef a.2) (fun a => ([.ptr 0 0, .ptr 1 0], [a.1.v, a.2.v])) (fun a => ⟨false, .inl 2 ((diffI a.1 a.2).map Chg.v), [], [a.1.v, a.2.v]⟩)
theorem c42_eq (a b : Scp) (ha : SRef a) (hb : SRef b) : c42 [.ptr 0 0, .ptr 1 0] [a.v, b.v] = some ⟨false, .inl 2 ((diffI a b).map Chg.v), [], [a.v, b.v]⟩ := ctrG_eq (inj42 _) (a, b) ⟨ha, hb⟩ rfl
theorem c42_ok : GOK Tryz.prog (42, [], c42) := ctrG_ok fun a h => f42_ok a.1 a.2 h.1 h.2
theorem idx01 : List.idxOf 1 [0, 1] = 1 := by decide
def okC2 (b : Bool) (l : List Chg) : List Chg := if b = true then l else []
theorem f15_ok (a b : Scp) (hla : a.lim) (hlb : b.lim) : FunOK Tryz.prog 15 [a.v, b.v] false (.tup [.inl 2 ((okC2 (scopeI a && scopeI b) (diffI a b)).map Chg.v), .bool (scopeI a && scopeI b)]) := by
  refine fun_ok (mkE_ok zmix (cl := [(29, c29)]) (gl := [(42, [], c42)]) [] c29_ok c42_ok) Tryz.func15 (by kernel_rfl) ?_
  refine FunW_run _ _ rfl rfl ?_
  have ea := c29_eq a hla
  have eb := c29_eq b hlb
  simp only [Scp.v] at ea eb
  cases hsa : scopeI a with
  | false =>
    rw [hsa] at ea
    cases hsb : scopeI b <;> rw [hsb] at eb <;> simp [ea, eb, okC2]
  | true =>
    rw [hsa] at ea
    cases hsb : scopeI b with
    | false =>
      rw [hsb] at eb
      simp [ea, eb, okC2]
    | true =>
      rw [hsb] at eb
      have ec := c42_eq a b (scopeI_refs hsa) (scopeI_refs hsb)
      simp only [Scp.v] at ec
      simp [ea, eb, ec, okC2, idx01]
end Go.TM.Tryz
end
section
set_option maxHeartbeats 4000000
set_option maxRecDepth 10000
set_option linter.unusedSimpArgs false
set_option linter.unusedVariables false
namespace Go.TM.Tryz
open Go Go.TM Go.Proofs
def mergeD : Nat → List Fgr → List Fgr → List Chg
  | 0, _, _ => []
  | _ + 1, [], [] => []
  | n + 1, x :: xs, [] => ⟨x.name, 2⟩ :: mergeD n xs []
  | n + 1, [], y :: ys => ⟨y.name, 1⟩ :: mergeD n [] ys
  | n + 1, x :: xs, y :: ys => if ltF x y = true then ⟨x.name, 2⟩ :: mergeD n xs (y :: ys)
    else if ltF y x = true then ⟨y.name, 1⟩ :: mergeD n (x :: xs) ys
    else if x.sum = y.sum then mergeD n xs ys
    else ⟨x.name, 3⟩ :: mergeD n xs ys
theorem mergeD_fuel : ∀ (n m : Nat) (xs ys : List Fgr), xs.length + ys.length ≤ n → n ≤ m → mergeD m xs ys = mergeD n xs ys
  | 0, m, xs, ys, h, _ => by
    have h1 : xs = [] := List.length_eq_zero_iff.1 (by omega)
    have h2 : ys = [] := List.length_eq_zero_iff.1 (by omega)
    subst h1; subst h2
    cases m <;> rfl
  | n + 1, 0, xs, ys, _, h => by omega
  | n + 1, m + 1, [], [], _, _ => rfl
  | n + 1, m + 1, x :: xs, [], h, h' => by
    simp only [List.length_cons, List.length_nil] at h
    rw [mergeD, mergeD, mergeD_fuel n m xs [] (by simp; omega) (by omega)]
  | n + 1, m + 1, [], y :: ys, h, h' => by
    simp only [List.length_cons, List.length_nil] at h
    rw [mergeD, mergeD, mergeD_fuel n m [] ys (by simp; omega) (by omega)]
  | n + 1, m + 1, x :: xs, y :: ys, h, h' => by
    simp only [List.length_cons] at h
    rw [mergeD, mergeD, mergeD_fuel n m xs (y :: ys) (by simp; omega) (by omega), mergeD_fuel n m (x :: xs) ys (by simp; omega) (by omega), mergeD_fuel n m xs ys (by omega) (by omega)]
/-- What is still to come. -/
def restD (A B : List Fgr) (i j : Nat) : List Chg := mergeD (A.length - i + (B.length - j)) (A.drop i) (B.drop j)
theorem restD_end (A B : List Fgr) : restD A B A.length B.length = [] := by
  simp [restD, mergeD]
theorem restD_a {A B : List Fgr} {i : Nat} {x : Fgr} (hx : A[i]? = some x) : restD A B i B.length = ⟨x.name, 2⟩ :: restD A B (i + 1) B.length := by
  obtain ⟨hi, hx⟩ := List.getElem?_eq_some_iff.1 hx
  unfold restD
  have e : A.length - i + (B.length - B.length) = (A.length - (i + 1) + (B.length - B.length)) + 1 := by omega
  rw [e, List.drop_eq_getElem_cons hi, hx, List.drop_length, mergeD]
theorem restD_b {A B : List Fgr} {j : Nat} {y : Fgr} (hy : B[j]? = some y) : restD A B A.length j = ⟨y.name, 1⟩ :: restD A B A.length (j + 1) := by
  obtain ⟨hj, hy⟩ := List.getElem?_eq_some_iff.1 hy
  unfold restD
  have e : A.length - A.length + (B.length - j) = (A.length - A.length + (B.length - (j + 1))) + 1 := by omega
  rw [e, List.drop_eq_getElem_cons hj, hy, List.drop_length, mergeD]
theorem restD_ab {A B : List Fgr} {i j : Nat} {x y : Fgr} (hx : A[i]? = some x) (hy : B[j]? = some y) : restD A B i j =
    if ltF x y = true then ⟨x.name, 2⟩ :: restD A B (i + 1) j else if ltF y x = true then ⟨y.name, 1⟩ :: restD A B i (j + 1) else if x.sum = y.sum then restD A B (i + 1) (j + 1) else ⟨x.name, 3⟩ :: restD A B (i + 1) (j + 1) := by
  obtain ⟨hi, hx⟩ := List.getElem?_eq_some_iff.1 hx
  obtain ⟨hj, hy⟩ := List.getElem?_eq_some_iff.1 hy
  unfold restD
  have e : A.length - i + (B.length - j) = (A.length - (i + 1) + (B.length - (j + 1)) + 1) + 1 := by omega
  have e1 : A.length - (i + 1) + (B.length - j) = A.length - (i + 1) + (B.length - (j + 1)) + 1 := by omega
  have e2 : A.length - i + (B.length - (j + 1)) = A.length - (i + 1) + (B.length - (j + 1)) + 1 := by omega
  rw [e, e1, e2]
  rw [List.drop_eq_getElem_cons hi, List.drop_eq_getElem_cons hj, hx, hy]
  rw [mergeD]
  rw [mergeD_fuel (A.length - (i + 1) + (B.length - (j + 1))) (A.length - (i + 1) + (B.length - (j + 1)) + 1) (A.drop (i + 1)) (B.drop (j + 1)) (by simp) (by omega)]
noncomputable def diffS (a b : Scp) : List Chg := restD (fgS a) (fgS b) 0 0
theorem diffS_len {A B : List Fgr} : ∀ (n i j : Nat), n = A.length - i + (B.length - j) → (restD A B i j).length ≤ n := by
  intro n
  have key : ∀ (n : Nat) (xs ys : List Fgr), (mergeD n xs ys).length ≤ n := by
    intro n
    induction n with
    | zero => intro xs ys; simp [mergeD]
    | succ n ih =>
      intro xs ys
      cases xs with
      | nil =>
        cases ys with
        | nil => simp [mergeD]
        | cons y ys => simp only [mergeD, List.length_cons]; have := ih [] ys; omega
      | cons x xs =>
        cases ys with
        | nil => simp only [mergeD, List.length_cons]; have := ih xs []; omega
        | cons y ys =>
          simp only [mergeD]
          have h1 := ih xs (y :: ys)
          have h2 := ih (x :: xs) ys
          have h3 := ih xs ys
          repeat' split
          all_goals try simp only [List.length_cons]
          all_goals omega
  rintro i j rfl
  exact key _ _ _
theorem aftQ_Fa {E : Env} (dr : Bool) (c b : V) (xc xa xb : Operand) (d : Option Tmp) (all : Array Oper) (os : List Oper) (k : List Fr) (Q : X → S → Prop) (s : S) :
    aftQ dr (some false) c .bad b xc xa xb d all os k E Q s = kont E (.ops dr all os :: k) Q .normal (s.put d (.cnd false .bad)) := by
  cases c <;> simp [aftQ]
theorem lss_ltS (a b : ByteArray) : Op.bytesLess a.toList b.toList = ltS a b := rfl
def tail41 : TT := .one false 3 (.one false 4 (.one false 5 .done))
def tree41 : TT := .two false 0 (.two false 1 (.one false 2 tail41) false 2 (.one false 1 tail41)) false 2 (.one false 0 (.one false 1 tail41))
def cut41 : Pl := ⟨[], [], [], [0, 1, 2, 3, 4, 5], tree41⟩
theorem cut41_run {E : Env} (pl : Option (List (Nat × Bool))) (ops : Array Oper) (k : List Fr) (Q : X → S → Prop) (s : S) : aftE (some cut41) pl ops k E Q s = preK E ops k Q tree41 [] s := rfl
theorem fgS_len (s : Scp) : (fgS s).length ≤ s.objects.length := by
  rw [fgS, insL, (insL_spec _ [] List.Pairwise.nil).1.length_eq, List.nil_append, fgrs, List.length_map]
  exact List.length_filter_le _ _
theorem f41_ok (a b : Scp) (ha : scopeI a = true) (hb : scopeI b = true) : FunOK Tryz.prog 41 [a.v, b.v] false (.inl 2 ((diffS a b).map Chg.v)) := by
  refine fun_ok (mkE2_ok zmix (cl := [(24, c24)]) (gl := []) [] [(1, cut41)] c24_ok trivial) Tryz.func41 (by kernel_rfl) ?_
  refine FunW_run _ _ rfl rfl ?_
  have ea := c24_eq a ha
  have eb := c24_eq b hb
  have la := fgS_len a
  have lb := fgS_len b
  have oa := (scopeI_refs ha).objs
  have ob := (scopeI_refs hb).objs
  simp only [Scp.v] at ea eb
  unfold diffS
  generalize fgS a = A at *
  generalize fgS b = B at *
  simp [-aftE_some, cut41_run, tree41, tail41, ea, eb]
  refine ⟨⟨?_, ?_⟩, ?_⟩
  all_goals
    refine lp_ind (fun m t => ∃ i j out, m = A.length - i + (B.length - j) ∧ t.e 8 = .int .i64 (i : Nat) ∧ t.e 9 = .int .i64 (j : Nat) ∧ i ≤ A.length ∧ j ≤ B.length ∧ out ++ restD A B i j = restD A B 0 0 ∧
      (∃ p q r, t.e 5 = .own p ∧ t.e 6 = .own q ∧ t.e 7 = .own r ∧ p < t.nt ∧ q < t.nt ∧ r < t.nt ∧ p ≠ r ∧ q ≠ r ∧ t.R p = some ⟨3, A.map Fgr.v, true⟩ ∧ t.R q = some ⟨3, B.map Fgr.v, true⟩ ∧ t.R r = some ⟨2, out.map Chg.v, true⟩)) (A.length + B.length) ?_ ?_
    · refine ⟨0, 0, [], by omega, ?_⟩
      simp
    · clear ea eb
      rintro c' L hL m t ih ⟨i, j, out, rfl, h8, h9, hi, hj, heq, p, q, r, h5, h6, h7, hp, hq, hr, npr, nqr, hP, hQ, hR⟩
      have n1 : ¬ p = t.nt := by omega
      have n2 : ¬ q = t.nt := by omega
      have n3 : ¬ r = t.nt := by omega
      have m1 : ¬ p = t.nt + 1 := by omega
      have m2 : ¬ q = t.nt + 1 := by omega
      have hlen : out.length ≤ 32 := by
        have h1 := congrArg List.length heq
        have h2 := diffS_len (A := A) (B := B) _ 0 0 rfl
        simp only [List.length_append] at h1
        omega
      have rm := roomC (n := out.length + 1) (by omega)
      have go : ∀ (s' : S) (i' j' : Nat) (out' : List Chg) (r' : Nat), A.length - i' + (B.length - j') < A.length - i + (B.length - j) → s'.e 8 = .int .i64 (i' : Nat) → s'.e 9 = .int .i64 (j' : Nat) → i' ≤ A.length → j' ≤ B.length → out' ++ restD A B i' j' = out ++ restD A B i j → s'.e 5 = .own p → s'.e 6 = .own q → s'.e 7 = .own r' → t.nt ≤ s'.nt → r' < s'.nt → p ≠ r' → q ≠ r' → s'.R p = some ⟨3, A.map Fgr.v, true⟩ → s'.R q = some ⟨3, B.map Fgr.v, true⟩ → s'.R r' = some ⟨2, out'.map Chg.v, true⟩ → L s' :=
        fun s' i' j' out' r' a1 a2 a3 a4 a5 a6 a7 a8 a9 a10 a11 a12 a13 a14 a15 a16 => ih _ s' a1 ⟨i', j', out', rfl, a2, a3, a4, a5, a6.trans heq, p, q, r', a7, a8, a9, by omega, by omega, a11, a12, a13, a14, a15, a16⟩
      have hwi : i < A.length → IntKind.i64.wrap ((i : Int) + 1) = ((i + 1 : Nat) : Int) := fun _ => wrap64 (by omega) (by omega)
      have hwj : j < B.length → IntKind.i64.wrap ((j : Int) + 1) = ((j + 1 : Nat) : Int) := fun _ => wrap64 (by omega) (by omega)
      rcases Nat.lt_or_ge i A.length with hiA | hiA
      · obtain ⟨x, hx⟩ : ∃ x, A[i]? = some x := ⟨_, List.getElem?_eq_getElem hiA⟩
        have hiA' : (i : Int) < A.length := by omega
        have hiN : ¬ i = A.length := by omega
        have hiNI : ¬ (i : Int) = A.length := by omega
        rcases Nat.lt_or_ge j B.length with hjB | hjB
        · obtain ⟨y, hy⟩ : ∃ y, B[j]? = some y := ⟨_, List.getElem?_eq_getElem hjB⟩
          have hjB' : (j : Int) < B.length := by omega
          have hjN : ¬ j = B.length := by omega
          have hjNI : ¬ (j : Int) = B.length := by omega
          have hjb : ((j : Int) == (B.length : Int)) = false := by simpa using hjNI
          have hab := restD_ab hx hy
          have w1 := hwi hiA
          have w2 := hwj hjB
          cases hxy : ltF x y with
          | true =>
            have hxy' : ltS x.name y.name = true := hxy
            rw [hxy, if_pos rfl] at hab
            simp [-getElem?_pos, List.getElem?_cons_zero, List.getElem?_cons_succ, lss_ltS, h8, h9, h5, h6, h7, hP, hQ, hR, hL, hx, hy, n1, n2, n3, range1, rm, hiA, hiA', hiN, hiNI, hjB, hjB', hjN, hjNI, hjb, aftQ_Fa, aftQ_F3, w1, w2, hxy']
            apply go _ (i + 1) j (out ++ [⟨x.name, 2⟩]) (t.nt + 1) <;> first | omega | (simp [h8, h9, h5, h6, h7, hP, hQ, hR, n1, n2, n3, m1, m2, npr, nqr, hab, w1, w2]; done) | (simp [h8, h9, h5, h6, h7, hP, hQ, hR, n1, n2, n3, m1, m2, npr, nqr, hab, w1, w2]; omega)
          | false =>
            have hxy' : ltS x.name y.name = false := hxy
            rw [hxy, if_neg (by simp)] at hab
            cases hyx : ltF y x with
            | true =>
              have hyx' : ltS y.name x.name = true := hyx
              rw [hyx, if_pos rfl] at hab
              simp [-getElem?_pos, List.getElem?_cons_zero, List.getElem?_cons_succ, lss_ltS, h8, h9, h5, h6, h7, hP, hQ, hR, hL, hx, hy, n1, n2, n3, range1, rm, hiA, hiA', hiN, hiNI, hjB, hjB', hjN, hjNI, hjb, aftQ_Fa, aftQ_F3, w1, w2, hxy', hyx']
              apply go _ i (j + 1) (out ++ [⟨y.name, 1⟩]) (t.nt + 1) <;> first | omega | (simp [h8, h9, h5, h6, h7, hP, hQ, hR, n1, n2, n3, m1, m2, npr, nqr, hab, w1, w2]; done) | (simp [h8, h9, h5, h6, h7, hP, hQ, hR, n1, n2, n3, m1, m2, npr, nqr, hab, w1, w2]; omega)
            | false =>
              have hyx' : ltS y.name x.name = false := hyx
              rw [hyx, if_neg (by simp)] at hab
              by_cases he : x.sum = y.sum
              · rw [if_pos he] at hab
                simp [-getElem?_pos, List.getElem?_cons_zero, List.getElem?_cons_succ, lss_ltS, h8, h9, h5, h6, h7, hP, hQ, hR, hL, hx, hy, n1, n2, n3, range1, rm, hiA, hiA', hiN, hiNI, hjB, hjB', hjN, hjNI, hjb, aftQ_Fa, aftQ_F3, w1, w2, hxy', hyx', he]
                apply go _ (i + 1) (j + 1) out r <;> first | omega | (simp [h8, h9, h5, h6, h7, hP, hQ, hR, n1, n2, n3, m1, m2, npr, nqr, hab, w1, w2]; done) | (simp [h8, h9, h5, h6, h7, hP, hQ, hR, n1, n2, n3, m1, m2, npr, nqr, hab, w1, w2]; omega)
              · rw [if_neg he] at hab
                simp [-getElem?_pos, List.getElem?_cons_zero, List.getElem?_cons_succ, lss_ltS, h8, h9, h5, h6, h7, hP, hQ, hR, hL, hx, hy, n1, n2, n3, range1, rm, hiA, hiA', hiN, hiNI, hjB, hjB', hjN, hjNI, hjb, aftQ_Fa, aftQ_F3, w1, w2, hxy', hyx', he]
                apply go _ (i + 1) (j + 1) (out ++ [⟨x.name, 3⟩]) (t.nt + 1) <;> first | omega | (simp [h8, h9, h5, h6, h7, hP, hQ, hR, n1, n2, n3, m1, m2, npr, nqr, hab, w1, w2]; done) | (simp [h8, h9, h5, h6, h7, hP, hQ, hR, n1, n2, n3, m1, m2, npr, nqr, hab, w1, w2]; omega)
        · have hjE : j = B.length := by omega
          subst hjE
          have hy : B[B.length]? = none := by simp
          have hab := restD_a (B := B) hx
          have w1 := hwi hiA
          simp [-getElem?_pos, List.getElem?_cons_zero, List.getElem?_cons_succ, lss_ltS, h8, h9, h5, h6, h7, hP, hQ, hR, hL, hx, hy, n1, n2, n3, range1, rm, hiA, hiA', hiN, hiNI, w1, aftQ_Fa, aftQ_F3]
          apply go _ (i + 1) B.length (out ++ [⟨x.name, 2⟩]) (t.nt + 1) <;> first | omega | (simp [h8, h9, h5, h6, h7, hP, hQ, hR, n1, n2, n3, m1, m2, npr, nqr, hab, w1]; done) | (simp [h8, h9, h5, h6, h7, hP, hQ, hR, n1, n2, n3, m1, m2, npr, nqr, hab, w1]; omega)
      · have hiE : i = A.length := by omega
        subst hiE
        have hx : A[A.length]? = none := by simp
        rcases Nat.lt_or_ge j B.length with hjB | hjB
        · obtain ⟨y, hy⟩ : ∃ y, B[j]? = some y := ⟨_, List.getElem?_eq_getElem hjB⟩
          have hjB' : (j : Int) < B.length := by omega
          have hjN : ¬ j = B.length := by omega
          have hjNI : ¬ (j : Int) = B.length := by omega
          have hjb : ((j : Int) == (B.length : Int)) = false := by simpa using hjNI
          have hab := restD_b (A := A) hy
          have w2 := hwj hjB
          simp [-getElem?_pos, List.getElem?_cons_zero, List.getElem?_cons_succ, lss_ltS, h8, h9, h5, h6, h7, hP, hQ, hR, hL, hx, hy, n1, n2, n3, range1, rm, hjB, hjB', hjN, hjNI, hjb, aftQ_Fa, aftQ_F3, w2]
          apply go _ A.length (j + 1) (out ++ [⟨y.name, 1⟩]) (t.nt + 1) <;> first | omega | (simp [h8, h9, h5, h6, h7, hP, hQ, hR, n1, n2, n3, m1, m2, npr, nqr, hab, w2]; done) | (simp [h8, h9, h5, h6, h7, hP, hQ, hR, n1, n2, n3, m1, m2, npr, nqr, hab, w2]; omega)
        · have hjE : j = B.length := by omega
          subst hjE
          have hx0 : A[A.length]? = none := by simp
          rw [restD_end, List.append_nil] at heq
          subst heq
          simp [h8, h9, h5, h6, h7, hP, hQ, hR]
end Go.TM.Tryz
end
section
set_option maxHeartbeats 2000000
set_option linter.unusedSimpArgs false
set_option linter.unusedVariables false
namespace Go.TM.Tryz
open Go Go.TM Go.Proofs
/-! ### both differences are the same -/
def AscF (l : List Fgr) : Prop := l.Pairwise (fun x y => ltF x y = true)
theorem ltF_ne {x y : Fgr} (h : ltF x y = true) : ¬ x.name = y.name := by
  intro e
  have : ltS x.name y.name = true := h
  rw [e, ltS_irrefl] at this
  cases this
theorem asc_of {l : List Fgr} (h : l.Pairwise (fun x y => ltF y x = false)) (hn : (l.map Fgr.name).Nodup) : AscF l := by
  unfold List.Nodup at hn
  rw [List.pairwise_map] at hn
  refine (h.and hn).imp ?_
  rintro x y ⟨h1, h2⟩
  cases hxy : ltF x y with
  | true => rfl
  | false => exact absurd (ltS_total hxy h1) h2
theorem findF_cons (y : Fgr) (ys : List Fgr) (n : ByteArray) : findF (y :: ys) n = if y.name = n then some y else findF ys n := by
  unfold findF
  rw [List.find?_cons]
  by_cases h : y.name = n <;> simp [h]
theorem findF_no {ys : List Fgr} {n : ByteArray} (h : ∀ y ∈ ys, ¬ y.name = n) : findF ys n = none := by
  unfold findF
  rw [List.find?_eq_none]
  intro y hy
  simpa using h y hy
theorem fm_same {d d' : Fgr → Option Chg} : ∀ {l : List Fgr}, (∀ x ∈ l, d x = d' x) → l.filterMap d = l.filterMap d'
  | [], _ => rfl
  | x :: l, h => by
    rw [List.filterMap_cons, List.filterMap_cons, h x (by simp), fm_same fun y hy => h y (by simp [hy])]
theorem dA_off {y : Fgr} {ys l : List Fgr} (h : ∀ x ∈ l, ¬ y.name = x.name) : l.filterMap (dA (y :: ys)) = l.filterMap (dA ys) :=
  fm_same fun x hx => by rw [dA, dA, findF_cons, if_neg (h x hx)]
theorem dB_off {y : Fgr} {ys l : List Fgr} (h : ∀ x ∈ l, ¬ y.name = x.name) : l.filterMap (dB (y :: ys)) = l.filterMap (dB ys) :=
  fm_same fun x hx => by rw [dB, dB, findF_cons, if_neg (h x hx)]
theorem merge_perm : ∀ (n : Nat) (xs ys : List Fgr), xs.length + ys.length ≤ n → AscF xs → AscF ys → (mergeD n xs ys).Perm (rawD xs ys)
  | 0, xs, ys, h, _, _ => by
    have h1 : xs = [] := List.length_eq_zero_iff.1 (by omega)
    have h2 : ys = [] := List.length_eq_zero_iff.1 (by omega)
    subst h1; subst h2
    exact List.Perm.refl _
  | n + 1, [], [], _, _, _ => List.Perm.refl _
  | n + 1, x :: xs, [], h, hx, _ => by
    have hx' := List.pairwise_cons.1 hx
    have ih := merge_perm n xs [] (by simp at h ⊢; omega) hx'.2 List.Pairwise.nil
    have hd : dA [] x = some ⟨x.name, 2⟩ := rfl
    simp only [mergeD, rawD, List.filterMap_cons, hd, List.filterMap_nil, List.append_nil] at ih ⊢
    exact ih.cons _
  | n + 1, [], y :: ys, h, _, hy => by
    have hy' := List.pairwise_cons.1 hy
    have ih := merge_perm n [] ys (by simp at h ⊢; omega) List.Pairwise.nil hy'.2
    have hd : dB [] y = some ⟨y.name, 1⟩ := rfl
    simp only [mergeD, rawD, List.filterMap_cons, hd, List.filterMap_nil, List.nil_append] at ih ⊢
    exact ih.cons _
  | n + 1, x :: xs, y :: ys, h, hx, hy => by
    have hx' := List.pairwise_cons.1 hx
    have hy' := List.pairwise_cons.1 hy
    simp only [List.length_cons] at h
    rw [mergeD]
    cases hxy : ltF x y with
    | true =>
      rw [if_pos rfl]
      have ih := merge_perm n xs (y :: ys) (by simp; omega) hx'.2 hy
      have hlt : ∀ z ∈ y :: ys, ltF x z = true := fun z hz => by
        rcases List.mem_cons.1 hz with rfl | hz
        · exact hxy
        · exact ltS_trans hxy (hy'.1 z hz)
      have hd : dA (y :: ys) x = some ⟨x.name, 2⟩ := by rw [dA, findF_no fun z hz e => ltF_ne (hlt z hz) e.symm]
      have e : rawD (x :: xs) (y :: ys) = ⟨x.name, 2⟩ :: rawD xs (y :: ys) := by
        rw [rawD, dB_off fun z hz => ltF_ne (hlt z hz), rawD]
        simp only [List.filterMap_cons (a := x), hd, List.cons_append]
      rw [e]
      exact ih.cons _
    | false =>
      rw [if_neg (by simp)]
      cases hyx : ltF y x with
      | true =>
        rw [if_pos rfl]
        have ih := merge_perm n (x :: xs) ys (by simp; omega) hx hy'.2
        have hlt : ∀ z ∈ x :: xs, ltF y z = true := fun z hz => by
          rcases List.mem_cons.1 hz with rfl | hz
          · exact hyx
          · exact ltS_trans hyx (hx'.1 z hz)
        have hd : dB (x :: xs) y = some ⟨y.name, 1⟩ := by rw [dB, findF_no fun z hz e => ltF_ne (hlt z hz) e.symm]
        have e : rawD (x :: xs) (y :: ys) = (x :: xs).filterMap (dA ys) ++ ⟨y.name, 1⟩ :: ys.filterMap (dB (x :: xs)) := by
          rw [rawD, dA_off fun z hz => ltF_ne (hlt z hz)]
          congr 1
          simp only [List.filterMap_cons (a := y), hd]
        rw [e]
        exact (ih.cons _).trans List.perm_middle.symm
      | false =>
        rw [if_neg (by simp)]
        have hn : x.name = y.name := ltS_total hxy hyx
        have ih := merge_perm n xs ys (by omega) hx'.2 hy'.2
        have h1 : xs.filterMap (dA (y :: ys)) = xs.filterMap (dA ys) := dA_off fun z hz e => ltF_ne (hx'.1 z hz) (hn.trans e)
        have h2 : ys.filterMap (dB (x :: xs)) = ys.filterMap (dB xs) := dB_off fun z hz e => ltF_ne (hy'.1 z hz) (hn.symm.trans e)
        have hd2 : dB (x :: xs) y = none := by rw [dB, findF_cons, if_pos hn]
        by_cases he : x.sum = y.sum
        · rw [if_pos he]
          have hd1 : dA (y :: ys) x = none := by rw [dA, findF_cons, if_pos hn.symm]; simp [he]
          have e : rawD (x :: xs) (y :: ys) = rawD xs ys := by
            simp only [rawD, List.filterMap_cons, hd1, hd2, h1, h2]
          rw [e]
          exact ih
        · rw [if_neg he]
          have hd1 : dA (y :: ys) x = some ⟨x.name, 3⟩ := by rw [dA, findF_cons, if_pos hn.symm]; simp [Ne.symm he]
          have e : rawD (x :: xs) (y :: ys) = ⟨x.name, 3⟩ :: rawD xs ys := by
            simp only [rawD, List.filterMap_cons, hd1, hd2, h1, h2, List.cons_append]
          rw [e]
          exact ih.cons _
theorem merge_mem : ∀ (n : Nat) (xs ys : List Fgr) (c : Chg), c ∈ mergeD n xs ys → (∃ x ∈ xs, c.name = x.name) ∨ (∃ y ∈ ys, c.name = y.name)
  | 0, xs, ys, c, h => by simp [mergeD] at h
  | n + 1, [], [], c, h => by simp [mergeD] at h
  | n + 1, x :: xs, [], c, h => by
    simp only [mergeD, List.mem_cons] at h
    rcases h with rfl | h
    · exact .inl ⟨x, by simp, rfl⟩
    · rcases merge_mem n xs [] c h with ⟨z, hz, e⟩ | ⟨z, hz, e⟩
      · exact .inl ⟨z, by simp [hz], e⟩
      · exact .inr ⟨z, hz, e⟩
  | n + 1, [], y :: ys, c, h => by
    simp only [mergeD, List.mem_cons] at h
    rcases h with rfl | h
    · exact .inr ⟨y, by simp, rfl⟩
    · rcases merge_mem n [] ys c h with ⟨z, hz, e⟩ | ⟨z, hz, e⟩
      · exact .inl ⟨z, hz, e⟩
      · exact .inr ⟨z, by simp [hz], e⟩
  | n + 1, x :: xs, y :: ys, c, h => by
    rw [mergeD] at h
    split at h
    · rcases List.mem_cons.1 h with rfl | h
      · exact .inl ⟨x, by simp, rfl⟩
      · rcases merge_mem n xs (y :: ys) c h with ⟨z, hz, e⟩ | ⟨z, hz, e⟩
        · exact .inl ⟨z, by simp [hz], e⟩
        · exact .inr ⟨z, hz, e⟩
    · split at h
      · rcases List.mem_cons.1 h with rfl | h
        · exact .inr ⟨y, by simp, rfl⟩
        · rcases merge_mem n (x :: xs) ys c h with ⟨z, hz, e⟩ | ⟨z, hz, e⟩
          · exact .inl ⟨z, hz, e⟩
          · exact .inr ⟨z, by simp [hz], e⟩
      · have key : c ∈ mergeD n xs ys → (∃ z ∈ x :: xs, c.name = z.name) ∨ (∃ z ∈ y :: ys, c.name = z.name) := fun h => by
          rcases merge_mem n xs ys c h with ⟨z, hz, e⟩ | ⟨z, hz, e⟩
          · exact .inl ⟨z, by simp [hz], e⟩
          · exact .inr ⟨z, by simp [hz], e⟩
        split at h
        · exact key h
        · rcases List.mem_cons.1 h with rfl | h
          · exact .inl ⟨x, by simp, rfl⟩
          · exact key h
theorem merge_asc : ∀ (n : Nat) (xs ys : List Fgr), AscF xs → AscF ys → (mergeD n xs ys).Pairwise (fun c d => ltC c d = true)
  | 0, _, _, _, _ => List.Pairwise.nil
  | n + 1, [], [], _, _ => List.Pairwise.nil
  | n + 1, x :: xs, [], hx, hy => by
    have hx' := List.pairwise_cons.1 hx
    rw [mergeD, List.pairwise_cons]
    refine ⟨fun c hc => ?_, merge_asc n xs [] hx'.2 hy⟩
    rcases merge_mem n xs [] c hc with ⟨z, hz, e⟩ | ⟨z, hz, _⟩
    · show ltS x.name c.name = true
      rw [e]
      exact hx'.1 z hz
    · cases hz
  | n + 1, [], y :: ys, hx, hy => by
    have hy' := List.pairwise_cons.1 hy
    rw [mergeD, List.pairwise_cons]
    refine ⟨fun c hc => ?_, merge_asc n [] ys hx hy'.2⟩
    rcases merge_mem n [] ys c hc with ⟨z, hz, _⟩ | ⟨z, hz, e⟩
    · cases hz
    · show ltS y.name c.name = true
      rw [e]
      exact hy'.1 z hz
  | n + 1, x :: xs, y :: ys, hx, hy => by
    have hx' := List.pairwise_cons.1 hx
    have hy' := List.pairwise_cons.1 hy
    rw [mergeD]
    cases hxy : ltF x y with
    | true =>
      rw [if_pos rfl, List.pairwise_cons]
      refine ⟨fun c hc => ?_, merge_asc n xs (y :: ys) hx'.2 hy⟩
      show ltS x.name c.name = true
      rcases merge_mem n xs (y :: ys) c hc with ⟨z, hz, e⟩ | ⟨z, hz, e⟩
      · rw [e]
        exact hx'.1 z hz
      · rw [e]
        rcases List.mem_cons.1 hz with rfl | hz
        · exact hxy
        · exact ltS_trans hxy (hy'.1 z hz)
    | false =>
      rw [if_neg (by simp)]
      cases hyx : ltF y x with
      | true =>
        rw [if_pos rfl, List.pairwise_cons]
        refine ⟨fun c hc => ?_, merge_asc n (x :: xs) ys hx hy'.2⟩
        show ltS y.name c.name = true
        rcases merge_mem n (x :: xs) ys c hc with ⟨z, hz, e⟩ | ⟨z, hz, e⟩
        · rw [e]
          rcases List.mem_cons.1 hz with rfl | hz
          · exact hyx
          · exact ltS_trans hyx (hx'.1 z hz)
        · rw [e]
          exact hy'.1 z hz
      | false =>
        rw [if_neg (by simp)]
        have hn : x.name = y.name := ltS_total hxy hyx
        have ih := merge_asc n xs ys hx'.2 hy'.2
        split
        · exact ih
        · rw [List.pairwise_cons]
          refine ⟨fun c hc => ?_, ih⟩
          show ltS x.name c.name = true
          rcases merge_mem n xs ys c hc with ⟨z, hz, e⟩ | ⟨z, hz, e⟩
          · rw [e]
            exact hx'.1 z hz
          · rw [e, hn]
            exact hy'.1 z hz
theorem diff_lists {A B : List Fgr} (ha : AscF A) (hb : AscF B) : sortC (rawD A B) = restD A B 0 0 := by
  have hm := merge_perm (A.length + B.length) A B (Nat.le_refl _) ha hb
  have hs := merge_asc (A.length + B.length) A B ha hb
  have e : restD A B 0 0 = mergeD (A.length + B.length) A B := by simp [restD]
  rw [e]
  obtain ⟨h1, _, h2⟩ := sortC_perm (rawD A B)
  refine List.Perm.eq_of_pairwise ?_ h2 (hs.imp fun h => ltS_asymm h) (h1.trans hm.symm)
  intro c d hc hd hcd hdc
  have hn : c.name = d.name := ltS_total hdc hcd
  have hc' : c ∈ mergeD (A.length + B.length) A B := (h1.trans hm.symm).mem_iff.1 hc
  obtain ⟨i, hi, rfl⟩ := List.mem_iff_getElem.1 hc'
  obtain ⟨j, hj, rfl⟩ := List.mem_iff_getElem.1 hd
  rw [List.pairwise_iff_getElem] at hs
  rcases Nat.lt_trichotomy i j with hlt | rfl | hlt
  · have h3 : ltS _ _ = true := hs i j hi hj hlt
    rw [hn, ltS_irrefl] at h3
    cases h3
  · rfl
  · have h3 : ltS _ _ = true := hs j i hj hi hlt
    rw [hn, ltS_irrefl] at h3
    cases h3
theorem fgI_asc {s : Scp} (h : SRef s) : AscF (fgI s) := by
  obtain ⟨h1, _, h2⟩ := sortF_perm (fgrs (roundsT s.types 25) s.objects)
  exact asc_of h2 ((h1.map Fgr.name).nodup_iff.2 (fgrs_names h.names))
theorem diff_same {a b : Scp} (ha : SRef a) (hb : SRef b) : diffI a b = diffS a b := by
  rw [diffI, diff_lists (fgI_asc ha) (fgI_asc hb), diffS, ← fg_eq ha, ← fg_eq hb]
end Go.TM.Tryz
end
