/- A part of the proof: QO, QP, QQ, QR, ZSz, ZEq, D7, ZMark, ZHeld, QS. -/
import Derived.Test.YtgpkbmekdmpgoaaGreatDoorK08
set_option linter.unusedVariables false
set_option linter.unusedSimpArgs false
section
set_option maxHeartbeats 16000000
set_option maxRecDepth 20000
namespace Go.TM.Tryz
open Go Go.TM Go.Proofs
@[simp] def sB (l : List Tok) (p : SS) : V := .agg [.lst (l.map Tok.v), .int .i64 p.at_, .int .i64 p.bad, .inl 4 (p.out.map Stp.v)]
@[simp] def sR (l : List Tok) (p : SS) : V := .agg [.lst (l.map Tok.v), .int .i64 p.at_, .int .i64 p.bad, .lst (p.out.map Stp.v)]
structure SOK (l : List Tok) (p : SS) : Prop where
  a : p.at_ ≤ l.length
  b : l.length ≤ 1048576
  c : p.out.length ≤ p.at_
theorem stps_inj {a b : List Stp} (h : a.map Stp.v = b.map Stp.v) : a = b := map_inj Stp.v_inj h
theorem SS.ext' {x y : SS} (h1 : x.at_ = y.at_) (h2 : x.bad = y.bad) (h3 : x.out = y.out) : x = y := by
  cases x; cases y; simp_all
theorem injS1 {l : List Tok} {α β : Type} (f : α → V) (hf : Function.Injective f) (out : SS × α → β) : ∀ x y : SS × α, ([V.ladr [sR l x.1] 0 0, f x.2] : List V) = [.ladr [sR l y.1] 0 0, f y.2] → out x = out y := by
  rintro ⟨x, i⟩ ⟨y, k⟩ h
  simp only [List.cons.injEq, and_true, true_and, sR, V.agg.injEq, V.int.injEq, V.ladr.injEq, V.lst.injEq] at h
  have h1 : x = y := SS.ext' (by omega) (by omega) (stps_inj h.1.2.2)
  rw [h1, hf h.2]
theorem injS0 {l : List Tok} {β : Type} (out : SS → β) : ∀ x y : SS, (([V.ptr 0 0], [sB l x]) : List V × List V) = ([.ptr 0 0], [sB l y]) → out x = out y := by
  rintro x y h
  simp only [Prod.mk.injEq, List.cons.injEq, and_true, true_and, sB, V.agg.injEq, V.int.injEq, V.inl.injEq] at h
  have h1 : x = y := SS.ext' (by omega) (by omega) (stps_inj h.2.2)
  rw [h1]
theorem injS2 {l : List Tok} {α β : Type} (f : α → V) (hf : Function.Injective f) (out : SS × α → β) : ∀ x y : SS × α, (([V.ptr 0 0, f x.2], [sB l x.1]) : List V × List V) = ([.ptr 0 0, f y.2], [sB l y.1]) → out x = out y := by
  rintro ⟨x, i⟩ ⟨y, k⟩ h
  simp only [Prod.mk.injEq, List.cons.injEq, and_true, true_and, sB, V.agg.injEq, V.int.injEq, V.inl.injEq] at h
  have h1 : x = y := SS.ext' (by omega) (by omega) (stps_inj h.2.2.2)
  rw [h1, hf h.1]
theorem i64_inj : Function.Injective (V.int .i64) := fun a b h => by simpa using h
theorem f50_ok (l : List Tok) (p : SS) (h : SOK l p) : GenOK Tryz.prog 50 [.ptr 0 0] [sB l p] ⟨false, .tup [], [], [sB l (failS p)]⟩ := by
  refine fun_okG (mkE_ok zmix (cl := []) (gl := []) [] trivial trivial) Tryz.func50 (by kernel_rfl) ?_
  refine FunG_run _ _ rfl rfl ?_
  obtain ⟨a, bad, out⟩ := p
  have ha := h.a
  have hb := h.b
  simp only at ha
  have w : IntKind.i64.wrap ((a : Int) + 1) = ((a + 1 : Nat) : Int) := (wrap64 (by omega) (by omega)).trans (by omega)
  unfold failS
  by_cases h : bad = 0
  · simp [h, w]
  · simp [h]
noncomputable def c50 (l : List Tok) := ctrG (fun p : SS => SOK l p) (fun p => ([.ptr 0 0], [sB l p])) (fun p => ⟨false, .tup [], [], [sB l (failS p)]⟩)
theorem c50_eq (l : List Tok) (p : SS) (h : SOK l p) : c50 l [.ptr 0 0] [sB l p] = some ⟨false, .tup [], [], [sB l (failS p)]⟩ := ctrG_eq (injS0 _) p h rfl
theorem c50_ok (l : List Tok) : GOK Tryz.prog (50, [], c50 l) := ctrG_ok fun p h => f50_ok l p h
theorem f144_ok (l : List Tok) (p : SS) (h : SOK l p) (x : ByteArray) : FunOK Tryz.prog 144 [.ladr [sR l p] 0 0, .str x] false (.bool (isS l p x)) := by
  refine fun_ok (mkE_ok zmix (cl := []) (gl := []) [] trivial trivial) Tryz.func144 (by kernel_rfl) ?_
  refine FunW_run _ _ rfl rfl ?_
  obtain ⟨a, bad, out⟩ := p
  have ha := h.a
  simp only at ha
  unfold isS
  cases hx : l[a]? with
  | none =>
    have hp : ¬ (a : Int) < l.length := by
      rw [List.getElem?_eq_none_iff] at hx
      omega
    by_cases hw : bad = 0
    · simp [-getElem?_pos, gcz, gcs, hx, hp, hw]
    · simp [-getElem?_pos, gcz, gcs, hx, hp, hw]
  | some t =>
    have hlt : a < l.length := (List.getElem?_eq_some_iff.1 hx).1
    have hp : (a : Int) < l.length := by omega
    by_cases hw : bad = 0
    · simp [-getElem?_pos, gcz, gcs, hx, hp, hlt, hw]
    · simp [-getElem?_pos, gcz, gcs, hx, hp, hlt, hw]
noncomputable def c144 (l : List Tok) := ctr (fun a : SS × ByteArray => SOK l a.1) (fun a => [.ladr [sR l a.1] 0 0, .str a.2]) (fun a => (false, .bool (isS l a.1 a.2)))
theorem c144_eq (l : List Tok) (p : SS) (h : SOK l p) (x : ByteArray) : c144 l [.ladr [sR l p] 0 0, .str x] = some (false, .bool (isS l p x)) := ctr_eq (injS1 V.str str_inj _) (p, x) h rfl
theorem c144_ok (l : List Tok) : COK Tryz.prog (144, c144 l) := ctr_ok fun a h => f144_ok l a.1 h a.2
theorem f189_ok (l : List Tok) (p : SS) (h : SOK l p) (k : Int) : FunOK Tryz.prog 189 [.ladr [sR l p] 0 0, .int .i64 k] false (.bool (kindS l p k)) := by
  refine fun_ok (mkE_ok zmix (cl := []) (gl := []) [] trivial trivial) Tryz.func189 (by kernel_rfl) ?_
  refine FunW_run _ _ rfl rfl ?_
  obtain ⟨a, bad, out⟩ := p
  have ha := h.a
  simp only at ha
  unfold kindS
  cases hx : l[a]? with
  | none =>
    have hp : ¬ (a : Int) < l.length := by
      rw [List.getElem?_eq_none_iff] at hx
      omega
    by_cases hw : bad = 0
    · simp [-getElem?_pos, gcz, gcs, hx, hp, hw]
    · simp [-getElem?_pos, gcz, gcs, hx, hp, hw]
  | some t =>
    have hlt : a < l.length := (List.getElem?_eq_some_iff.1 hx).1
    have hp : (a : Int) < l.length := by omega
    have hbe : (t.kind == k) = decide (t.kind = k) := by
      rw [Bool.eq_iff_iff]
      simp
    by_cases hw : bad = 0
    · simp [-getElem?_pos, gcz, gcs, hx, hp, hlt, hw, hbe]
    · simp [-getElem?_pos, gcz, gcs, hx, hp, hlt, hw]
noncomputable def c189 (l : List Tok) := ctr (fun a : SS × Int => SOK l a.1) (fun a => [.ladr [sR l a.1] 0 0, .int .i64 a.2]) (fun a => (false, .bool (kindS l a.1 a.2)))
theorem c189_eq (l : List Tok) (p : SS) (h : SOK l p) (k : Int) : c189 l [.ladr [sR l p] 0 0, .int .i64 k] = some (false, .bool (kindS l p k)) := ctr_eq (injS1 (V.int .i64) i64_inj _) (p, k) h rfl
theorem c189_ok (l : List Tok) : COK Tryz.prog (189, c189 l) := ctr_ok fun a h => f189_ok l a.1 h a.2
def takeS (l : List Tok) (p : SS) (x : ByteArray) : SS := if isS l p x = true then stepS p else p
theorem f90_ok (l : List Tok) (p : SS) (h : SOK l p) (x : ByteArray) : GenOK Tryz.prog 90 [.ptr 0 0, .str x] [sB l p] ⟨false, .bool (isS l p x), [], [sB l (takeS l p x)]⟩ := by
  refine fun_okG (mkE_ok zmix (cl := [(144, c144 l)]) (gl := []) [] (c144_ok l) trivial) Tryz.func90 (by kernel_rfl) ?_
  refine FunG_run _ _ rfl rfl ?_
  have e := c144_eq l p h x
  unfold takeS stepS
  obtain ⟨a, bad, out⟩ := p
  have ha := h.a
  have hb := h.b
  simp only at ha
  have w : IntKind.i64.wrap ((a : Int) + 1) = ((a + 1 : Nat) : Int) := (wrap64 (by omega) (by omega)).trans (by omega)
  simp only [sR] at e
  cases hs : isS l ⟨a, bad, out⟩ x with
  | true =>
    rw [hs] at e
    simp [e, w]
  | false =>
    rw [hs] at e
    simp [e]
noncomputable def c90 (l : List Tok) := ctrG (fun a : SS × ByteArray => SOK l a.1) (fun a => ([.ptr 0 0, .str a.2], [sB l a.1])) (fun a => ⟨false, .bool (isS l a.1 a.2), [], [sB l (takeS l a.1 a.2)]⟩)
theorem c90_eq (l : List Tok) (p : SS) (h : SOK l p) (x : ByteArray) : c90 l [.ptr 0 0, .str x] [sB l p] = some ⟨false, .bool (isS l p x), [], [sB l (takeS l p x)]⟩ := ctrG_eq (injS2 V.str str_inj _) (p, x) h rfl
theorem c90_ok (l : List Tok) : GOK Tryz.prog (90, [], c90 l) := ctrG_ok fun a h => f90_ok l a.1 h a.2
theorem f190_ok (l : List Tok) (p : SS) (h : SOK l p) : GenOK Tryz.prog 190 [.ptr 0 0] [sB l p] ⟨false, .str (wordS l p).1, [], [sB l (wordS l p).2]⟩ := by
  refine fun_okG (mkE_ok zmix (cl := [(189, c189 l)]) (gl := [(50, [], c50 l)]) [] (c189_ok l) (c50_ok l)) Tryz.func190 (by kernel_rfl) ?_
  refine FunG_run _ _ rfl rfl ?_
  have e := c189_eq l p h 1
  have e2 := c50_eq l p h
  unfold wordS stepS
  cases hs : kindS l p 1 with
  | true =>
    rw [hs] at e
    obtain ⟨a, bad, out⟩ := p
    have ha := h.a
    have hb := h.b
    simp only at ha
    have w : IntKind.i64.wrap ((a : Int) + 1) = ((a + 1 : Nat) : Int) := (wrap64 (by omega) (by omega)).trans (by omega)
    obtain ⟨v, hv⟩ : ∃ v, v = a + 1 := ⟨_, rfl⟩
    rw [← hv] at w
    have w2 : IntKind.i64.wrap ((v : Int) - 1) = (a : Int) := (wrap64 (by omega) (by omega)).trans (by omega)
    unfold kindS at hs
    simp only at hs
    cases hx : l[a]? with
    | none => rw [hx] at hs; simp at hs
    | some t =>
      have hlt : a < l.length := (List.getElem?_eq_some_iff.1 hx).1
      have ht : l.getD a Tok.zero = t := by simp [hx]
      simp only [sR] at e
      rw [if_pos rfl, ht, ← hv]
      simp [-getElem?_pos, gcz, gcs, e, w, w2, hx, hlt]
  | false =>
    rw [hs] at e
    rw [if_neg (by simp)]
    generalize failS p = q at *
    simp only [sR, sB] at e e2
    simp [e, e2]
noncomputable def c190 (l : List Tok) := ctrG (fun p : SS => SOK l p) (fun p => ([.ptr 0 0], [sB l p])) (fun p => ⟨false, .str (wordS l p).1, [], [sB l (wordS l p).2]⟩)
theorem c190_eq (l : List Tok) (p : SS) (h : SOK l p) : c190 l [.ptr 0 0] [sB l p] = some ⟨false, .str (wordS l p).1, [], [sB l (wordS l p).2]⟩ := ctrG_eq (injS0 _) p h rfl
theorem c190_ok (l : List Tok) : GOK Tryz.prog (190, [], c190 l) := ctrG_ok fun p h => f190_ok l p h
def tree91 : TT := .two false 2 (.two false 3 (.two false 4 (.one false 5 (.one false 6 (.one false 7 (.one false 8 (.one false 9 (.one false 10 .done)))))) false 5 (.two false 4 (.one false 6 (.one false 7 (.one false 8 (.one false 9 (.one false 10 .done))))) false 6 (.one false 4 (.one false 7 (.one false 8 (.one false 9 (.one false 10 .done))))))) false 5 (.two false 3 (.two false 4 (.one false 6 (.one false 7 (.one false 8 (.one false 9 (.one false 10 .done))))) false 6 (.one false 4 (.one false 7 (.one false 8 (.one false 9 (.one false 10 .done)))))) false 6 (.one false 3 (.one false 4 (.one false 7 (.one false 8 (.one false 9 (.one false 10 .done)))))))) false 5 (.two false 2 (.two false 3 (.two false 4 (.one false 6 (.one false 7 (.one false 8 (.one false 9 (.one false 10 .done))))) false 6 (.one false 4 (.one false 7 (.one false 8 (.one false 9 (.one false 10 .done)))))) false 6 (.one false 3 (.one false 4 (.one false 7 (.one false 8 (.one false 9 (.one false 10 .done))))))) false 6 (.one false 2 (.one false 3 (.one false 4 (.one false 7 (.one false 8 (.one false 9 (.one false 10 .done))))))))
def cut91 : Pl := ⟨[0, 1], [], [], [2, 3, 4, 5, 6, 7, 8, 9, 10], tree91⟩
theorem cut91_run {E : Env} (pl : Option (List (Nat × Bool))) (ops : Array Oper) (k : List Fr) (Q : X → S → Prop) (s : S) : aftE (some cut91) pl ops k E Q s = preK E ops k Q tree91 [(0, false), (1, false)] s := rfl
theorem f91_ok (l : List Tok) (p : SS) (h : SOK l p) (x : Stp) : GenOK Tryz.prog 91 [.ptr 0 0, x.v] [sB l p] ⟨false, .tup [], [], [sB l (putS p x)]⟩ := by
  refine fun_okG (mkE2_ok zmix (cl := []) (gl := []) [] [(2, cut91)] trivial trivial) Tryz.func91 (by kernel_rfl) ?_
  refine FunG_run _ _ rfl rfl ?_
  obtain ⟨a, bad, out⟩ := p
  have ha := h.a
  have hb := h.b
  have hc := h.c
  simp only at ha hc
  have r1 := roomStp (n := 1) (by omega)
  have r2 := roomStp (n := out.length + 1) (by omega)
  unfold putS
  by_cases hbad : bad = 0
  · simp [hbad, r1, r2, -aftE_some, cut91_run, tree91, pureOp]
  · simp [hbad]
noncomputable def c91 (l : List Tok) := ctrG (fun a : SS × Stp => SOK l a.1) (fun a => ([.ptr 0 0, a.2.v], [sB l a.1])) (fun a => ⟨false, .tup [], [], [sB l (putS a.1 a.2)]⟩)
theorem c91_eq (l : List Tok) (p : SS) (h : SOK l p) (x : Stp) : c91 l [.ptr 0 0, x.v] [sB l p] = some ⟨false, .tup [], [], [sB l (putS p x)]⟩ := ctrG_eq (injS2 Stp.v Stp.v_inj _) (p, x) h rfl
theorem c91_ok (l : List Tok) : GOK Tryz.prog (91, [], c91 l) := ctrG_ok fun a h => f91_ok l a.1 h a.2
end Go.TM.Tryz
end
section
set_option maxHeartbeats 16000000
set_option maxRecDepth 20000
namespace Go.TM.Tryz
open Go Go.TM Go.Proofs
def FarS (l : List Tok) (p q : SS) : Prop := p.at_ ≤ q.at_ ∧ q.at_ ≤ l.length ∧ q.out.length + p.at_ ≤ p.out.length + q.at_
theorem isS_lt {l : List Tok} {p : SS} {x : ByteArray} (h : isS l p x = true) : p.at_ < l.length := by
  unfold isS at h
  cases hx : l[p.at_]? with
  | none => rw [hx] at h; simp at h
  | some t => exact (List.getElem?_eq_some_iff.1 hx).1
theorem kindS_lt {l : List Tok} {p : SS} {k : Int} (h : kindS l p k = true) : p.at_ < l.length := by
  unfold kindS at h
  cases hx : l[p.at_]? with
  | none => rw [hx] at h; simp at h
  | some t => exact (List.getElem?_eq_some_iff.1 hx).1
theorem failS_at (p : SS) : (failS p).at_ = p.at_ := by
  unfold failS; split <;> rfl
theorem failS_bad (p : SS) : (failS p).bad ≠ 0 := by
  unfold failS
  split
  · simp
  · assumption
theorem putS_at (p : SS) (x : Stp) : (putS p x).at_ = p.at_ := by
  unfold putS; split <;> rfl
theorem putS_len (p : SS) (x : Stp) : (putS p x).out.length ≤ p.out.length + 1 := by
  unfold putS
  split
  · simp
  · omega
theorem putS_bad {p : SS} (h : p.bad ≠ 0) (x : Stp) : putS p x = p := by simp [putS, h]
theorem FarS.step {l : List Tok} {p q : SS} (h : FarS l (stepS p) q) (x : Stp) : FarS l p (putS q x) := by
  obtain ⟨h1, h2, h3⟩ := h
  have := putS_len q x
  simp only [stepS] at h1 h3
  refine ⟨?_, ?_, ?_⟩
  · rw [putS_at]; omega
  · rw [putS_at]; omega
  · rw [putS_at]; omega
theorem FarS.trans {l : List Tok} {p q r : SS} (h : FarS l p q) (k : FarS l q r) : FarS l p r := by
  obtain ⟨h1, h2, h3⟩ := h
  obtain ⟨k1, k2, k3⟩ := k
  exact ⟨by omega, by omega, by omega⟩
theorem FarS.refl {l : List Tok} {p : SS} (h : p.at_ ≤ l.length) : FarS l p p := ⟨Nat.le_refl _, h, Nat.le_refl _⟩
theorem add_farS {l : List Tok} {tm : SS → SS} (htm : ∀ p, p.at_ ≤ l.length → FarS l p (tm p)) : ∀ (f : Nat) (p : SS), p.at_ ≤ l.length → FarS l p (addS l tm f p)
  | 0, p, h => FarS.refl h
  | f + 1, p, h => by
    unfold addS
    split
    · rename_i hs
      have h1 := (htm (stepS p) (isS_lt hs)).step (stK 3)
      exact h1.trans (add_farS htm f _ h1.2.1)
    · split
      · rename_i hs
        have h1 := (htm (stepS p) (isS_lt hs)).step (stK 4)
        exact h1.trans (add_farS htm f _ h1.2.1)
      · exact FarS.refl h
theorem mul_farS {l : List Tok} {tm : SS → SS} (htm : ∀ p, p.at_ ≤ l.length → FarS l p (tm p)) : ∀ (f : Nat) (p : SS), p.at_ ≤ l.length → FarS l p (mulS l tm f p)
  | 0, p, h => FarS.refl h
  | f + 1, p, h => by
    unfold mulS
    split
    · rename_i hs
      have h1 := (htm (stepS p) (isS_lt hs)).step (stK 5)
      exact h1.trans (mul_farS htm f _ h1.2.1)
    · split
      · rename_i hs
        have h1 := (htm (stepS p) (isS_lt hs)).step (stK 6)
        exact h1.trans (mul_farS htm f _ h1.2.1)
      · split
        · rename_i hs
          have h1 := (htm (stepS p) (isS_lt hs)).step (stK 7)
          exact h1.trans (mul_farS htm f _ h1.2.1)
        · exact FarS.refl h
theorem term_farS {l : List Tok} {fc : SS → SS} (h : ∀ p, p.at_ ≤ l.length → FarS l p (fc p)) (p : SS) (hp : p.at_ ≤ l.length) : FarS l p (termS l fc p) := (h p hp).trans (mul_farS h _ _ (h p hp).2.1)
theorem expr_farS {l : List Tok} {fc : SS → SS} (h : ∀ p, p.at_ ≤ l.length → FarS l p (fc p)) (p : SS) (hp : p.at_ ≤ l.length) : FarS l p (exprS l fc p) := (term_farS h p hp).trans (add_farS (term_farS h) _ _ (term_farS h p hp).2.1)
theorem word_farS {l : List Tok} {p : SS} (h : p.at_ ≤ l.length) : ((wordS l p).2.bad ≠ 0 ∧ (wordS l p).2.at_ = p.at_ ∧ (wordS l p).2.out = p.out) ∨ (p.at_ < l.length ∧ (wordS l p).2 = stepS p) := by
  unfold wordS
  split
  · rename_i hs
    exact .inr ⟨kindS_lt hs, rfl⟩
  · exact .inl ⟨failS_bad p, failS_at p, failS_out p⟩
theorem name_farS {l : List Tok} {p : SS} (h : p.at_ ≤ l.length) : FarS l p (nameS l p) := by
  unfold nameS
  rcases word_farS h with ⟨h1, h2, h3⟩ | ⟨h1, h2⟩
  · rw [isS_wr h1, if_neg (by simp), putS_bad h1]
    exact ⟨by omega, by omega, by rw [h3]; omega⟩
  · rw [h2]
    split
    · rename_i hs
      have hlt := isS_lt hs
      simp only [stepS] at hlt
      rcases word_farS (l := l) (p := stepS (stepS p)) (by simp only [stepS]; omega) with ⟨k1, k2, k3⟩ | ⟨k1, k2⟩
      · rw [putS_bad k1]
        have j1 : (stepS (stepS p)).at_ = p.at_ + 1 + 1 := rfl
        have j2 : (stepS (stepS p)).out = p.out := rfl
        rw [j1] at k2
        rw [j2] at k3
        exact ⟨by omega, by omega, by rw [k3]; omega⟩
      · rw [k2]
        have := putS_len (stepS (stepS (stepS p))) ⟨2, 0, (wordS l p).1, (wordS l (stepS (stepS p))).1⟩
        simp only [stepS] at k1 this
        refine ⟨?_, ?_, ?_⟩
        · rw [putS_at]; simp only [stepS]; omega
        · rw [putS_at]; simp only [stepS]; omega
        · rw [putS_at]; simp only [stepS]; omega
    · have := putS_len (stepS p) ⟨2, 0, ⟨#[]⟩, (wordS l p).1⟩
      simp only [stepS] at this
      refine ⟨?_, ?_, ?_⟩
      · rw [putS_at]; simp only [stepS]; omega
      · rw [putS_at]; simp only [stepS]; omega
      · rw [putS_at]; simp only [stepS]; omega
theorem fac_farS {l : List Tok} : ∀ (n : Nat) (p : SS), p.at_ ≤ l.length → FarS l p (facS l n p)
  | 0, p, h => FarS.refl h
  | n + 1, p, h => by
    unfold facS
    split
    · rename_i hs
      have hlt := kindS_lt hs
      have := putS_len p ⟨1, (l.getD p.at_ Tok.zero).value, ⟨#[]⟩, ⟨#[]⟩⟩
      refine ⟨?_, ?_, ?_⟩
      · simp only [stepS, putS_at]; omega
      · simp only [stepS, putS_at]; omega
      · simp only [stepS, putS_at]; omega
    · split
      · rename_i hs
        exact (fac_farS n (stepS p) (isS_lt hs)).step (stK 8)
      · split
        · rename_i hs
          have h1 := expr_farS (fun p hp => fac_farS n p hp) (stepS p) (isS_lt hs)
          obtain ⟨k1, k2, k3⟩ := h1
          simp only [stepS] at k1 k3
          split
          · rename_i hs2
            have := isS_lt hs2
            simp only [stepS] at this
            refine ⟨?_, ?_, ?_⟩
            · simp only [stepS]; omega
            · simp only [stepS]; omega
            · simp only [stepS]; omega
          · refine ⟨?_, ?_, ?_⟩
            · rw [failS_at]; simp only [stepS]; omega
            · rw [failS_at]; exact k2
            · rw [failS_at, failS_out]; simp only [stepS]; omega
        · exact name_farS h
theorem FarS.ok {l : List Tok} {p q : SS} (h : SOK l p) (k : FarS l p q) : SOK l q := by
  obtain ⟨k1, k2, k3⟩ := k
  have := h.c
  exact ⟨k2, h.b, by omega⟩
theorem SOK.step {l : List Tok} {p : SS} (h : SOK l p) (hlt : p.at_ < l.length) : SOK l (stepS p) := by
  have := h.c
  exact ⟨hlt, h.b, by simp only [stepS]; omega⟩
structure GoodF (l : List Tok) (n : Nat) (p : SS) : Prop where
  r : SOK l p
  f : l.length < p.at_ + n
noncomputable def dF (l : List Tok) (n : Nat) := ctrG (fun p : SS => GoodF l n p) (fun p => ([.ptr 0 0], [sB l p])) (fun p => ⟨false, .tup [], [], [sB l (facS l n p)]⟩)
theorem dF_eq {l : List Tok} {n : Nat} {p : SS} (h : GoodF l n p) : dF l n [.ptr 0 0] [sB l p] = some ⟨false, .tup [], [], [sB l (facS l n p)]⟩ := ctrG_eq (injS0 _) p h rfl
noncomputable def dT (l : List Tok) (n : Nat) := ctrG (fun p : SS => GoodF l n p) (fun p => ([.ptr 0 0], [sB l p])) (fun p => ⟨false, .tup [], [], [sB l (termS l (facS l n) p)]⟩)
theorem dT_eq {l : List Tok} {n : Nat} {p : SS} (h : GoodF l n p) : dT l n [.ptr 0 0] [sB l p] = some ⟨false, .tup [], [], [sB l (termS l (facS l n) p)]⟩ := ctrG_eq (injS0 _) p h rfl
noncomputable def dE (l : List Tok) (n : Nat) := ctrG (fun p : SS => GoodF l n p) (fun p => ([.ptr 0 0], [sB l p])) (fun p => ⟨false, .tup [], [], [sB l (exprS l (facS l n) p)]⟩)
theorem dE_eq {l : List Tok} {n : Nat} {p : SS} (h : GoodF l n p) : dE l n [.ptr 0 0] [sB l p] = some ⟨false, .tup [], [], [sB l (exprS l (facS l n) p)]⟩ := ctrG_eq (injS0 _) p h rfl
theorem termS_ok {l : List Tok} {n : Nat} (hF : GOK Tryz.prog (143, [], dF l n)) : GOK Tryz.prog (89, [], dT l n) := by
  refine ctrG_ok fun s h => ?_
  refine fun_okG (mkE_ok zmix (cl := []) (gl := [(143, [], dF l n), (90, [], c90 l), (91, [], c91 l)]) [] trivial ⟨hF, c90_ok l, c91_ok l⟩) Tryz.func89 (by kernel_rfl) ?_
  refine FunG_run _ _ rfl rfl ?_
  have e1 := dF_eq h
  have k1 := fac_farS (l := l) n s h.r.a
  have k2 := FarS.ok h.r k1
  generalize hT : termS l (facS l n) s = T
  unfold termS at hT
  have hlen := h.r.b
  have hfu := h.f
  generalize facS l n s = q at *
  simp only [sB] at e1
  simp [e1]
  refine lp_ind (fun f t => ∃ (u : SS) (r : Nat), l.length < u.at_ + f ∧ s.at_ ≤ u.at_ ∧ SOK l u ∧ t.e 0 = .ptr 0 0 ∧ t.B 0 = some (.agg [.lst (l.map Tok.v), .int .i64 u.at_, .int .i64 u.bad, .own r]) ∧ t.nb = 1 ∧ r < t.nt ∧ t.R r = some ⟨4, u.out.map Stp.v, true⟩ ∧ mulS l (facS l n) f u = T) (l.length + 1) ⟨q, 1, by omega, k1.1, k2, by simp, by simp, by simp, by simp, by simp, hT⟩ ?_
  rintro c' L hL f t ih ⟨u, r, c1, c2, c3, g0, gB, gnb, hlt, hR, hr⟩
  cases f with
  | zero =>
    have := c3.a
    omega
  | succ f =>
    have e2 := c90_eq l u c3 tStar
    have e3 := c90_eq l u c3 tDiv
    have e6 := c90_eq l u c3 tMod
    unfold mulS at hr
    unfold takeS at e2 e3 e6
    simp only [sB] at e2 e3 e6
    cases hb : isS l u tStar with
    | true =>
      rw [hb] at e2
      rw [if_pos hb] at hr
      simp only [if_true, tStar] at e2
      have hat := isS_lt hb
      have hat' : u.at_ + 1 ≤ l.length := hat
      have s1 : SOK l (stepS u) := c3.step hat
      have e4 := dF_eq (l := l) (n := n) (p := stepS u) ⟨s1, by have : (stepS u).at_ = u.at_ + 1 := rfl
                                                                omega⟩
      have k4 := fac_farS (l := l) n (stepS u) hat
      have k5 := FarS.ok s1 k4
      have k6 := k4.step (stK 5)
      have k7 := FarS.ok c3 k6
      have k8 := k4.1
      have k9 : u.at_ + 1 ≤ (facS l n (stepS u)).at_ := k8
      generalize facS l n (stepS u) = q at *
      have e5 := c91_eq l q k5 (stK 5)
      have k10 := putS_at q (stK 5)
      generalize putS q (stK 5) = z at *
      generalize stepS u = y at *
      simp only [sB, Stp.v, stK] at e4 e5
      have fin : ∀ (t' : S) (r' : Nat), t'.e 0 = .ptr 0 0 → t'.B 0 = some (.agg [.lst (l.map Tok.v), .int .i64 z.at_, .int .i64 z.bad, .own r']) → t'.nb = 1 → r' < t'.nt → t'.R r' = some ⟨4, z.out.map Stp.v, true⟩ → L t' := fun t' r' j0 jB jn jl jR =>
        ih f t' (by omega) ⟨z, r', by omega, by omega, k7, j0, jB, jn, jl, jR, hr⟩
      simp [g0, gB, gnb, hR, hL, e2, e4, e5]
      refine fin _ (t.nt + 2) ?_ ?_ ?_ ?_ ?_ <;> simp [g0, gB, gnb]
    | false =>
      rw [hb] at e2
      rw [if_neg (by simp [hb])] at hr
      simp only [if_false, Bool.false_eq_true, tStar] at e2
      clear hb
      cases hb : isS l u tDiv with
      | true =>
        rw [hb] at e3
        rw [if_pos hb] at hr
        simp only [if_true, tDiv] at e3
        have hat := isS_lt hb
        have hat' : u.at_ + 1 ≤ l.length := hat
        have s1 : SOK l (stepS u) := c3.step hat
        have e4 := dF_eq (l := l) (n := n) (p := stepS u) ⟨s1, by have : (stepS u).at_ = u.at_ + 1 := rfl
                                                                  omega⟩
        have k4 := fac_farS (l := l) n (stepS u) hat
        have k5 := FarS.ok s1 k4
        have k6 := k4.step (stK 6)
        have k7 := FarS.ok c3 k6
        have k8 := k4.1
        have k9 : u.at_ + 1 ≤ (facS l n (stepS u)).at_ := k8
        generalize facS l n (stepS u) = q at *
        have e5 := c91_eq l q k5 (stK 6)
        have k10 := putS_at q (stK 6)
        generalize putS q (stK 6) = z at *
        generalize stepS u = y at *
        simp only [sB, Stp.v, stK] at e4 e5
        have fin : ∀ (t' : S) (r' : Nat), t'.e 0 = .ptr 0 0 → t'.B 0 = some (.agg [.lst (l.map Tok.v), .int .i64 z.at_, .int .i64 z.bad, .own r']) → t'.nb = 1 → r' < t'.nt → t'.R r' = some ⟨4, z.out.map Stp.v, true⟩ → L t' := fun t' r' j0 jB jn jl jR =>
          ih f t' (by omega) ⟨z, r', by omega, by omega, k7, j0, jB, jn, jl, jR, hr⟩
        simp [g0, gB, gnb, hR, hL, e2, e3, e4, e5]
        refine fin _ (t.nt + 3) ?_ ?_ ?_ ?_ ?_ <;> simp [g0, gB, gnb]
      | false =>
        rw [hb] at e3
        rw [if_neg (by simp [hb])] at hr
        simp only [if_false, Bool.false_eq_true, tDiv] at e3
        clear hb
        cases hb : isS l u tMod with
        | true =>
          rw [hb] at e6
          rw [if_pos hb] at hr
          simp only [if_true, tMod] at e6
          have hat := isS_lt hb
          have hat' : u.at_ + 1 ≤ l.length := hat
          have s1 : SOK l (stepS u) := c3.step hat
          have e4 := dF_eq (l := l) (n := n) (p := stepS u) ⟨s1, by have : (stepS u).at_ = u.at_ + 1 := rfl
                                                                    omega⟩
          have k4 := fac_farS (l := l) n (stepS u) hat
          have k5 := FarS.ok s1 k4
          have k6 := k4.step (stK 7)
          have k7 := FarS.ok c3 k6
          have k8 := k4.1
          have k9 : u.at_ + 1 ≤ (facS l n (stepS u)).at_ := k8
          generalize facS l n (stepS u) = q at *
          have e5 := c91_eq l q k5 (stK 7)
          have k10 := putS_at q (stK 7)
          generalize putS q (stK 7) = z at *
          generalize stepS u = y at *
          simp only [sB, Stp.v, stK] at e4 e5
          have fin : ∀ (t' : S) (r' : Nat), t'.e 0 = .ptr 0 0 → t'.B 0 = some (.agg [.lst (l.map Tok.v), .int .i64 z.at_, .int .i64 z.bad, .own r']) → t'.nb = 1 → r' < t'.nt → t'.R r' = some ⟨4, z.out.map Stp.v, true⟩ → L t' := fun t' r' j0 jB jn jl jR =>
            ih f t' (by omega) ⟨z, r', by omega, by omega, k7, j0, jB, jn, jl, jR, hr⟩
          simp [g0, gB, gnb, hR, hL, e2, e3, e6, e4, e5]
          refine fin _ (t.nt + 4) ?_ ?_ ?_ ?_ ?_ <;> simp [g0, gB, gnb]
        | false =>
          rw [hb] at e6
          rw [if_neg (by simp [hb])] at hr
          simp only [if_false, Bool.false_eq_true, tMod] at e6
          subst hr
          simp [g0, gB, gnb, hR, hL, e2, e3, e6]
theorem exprS_ok {l : List Tok} {n : Nat} (hF : GOK Tryz.prog (89, [], dT l n)) : GOK Tryz.prog (49, [], dE l n) := by
  refine ctrG_ok fun s h => ?_
  refine fun_okG (mkE_ok zmix (cl := []) (gl := [(89, [], dT l n), (90, [], c90 l), (91, [], c91 l)]) [] trivial ⟨hF, c90_ok l, c91_ok l⟩) Tryz.func49 (by kernel_rfl) ?_
  refine FunG_run _ _ rfl rfl ?_
  have e1 := dT_eq h
  have hfarT : ∀ p, p.at_ ≤ l.length → FarS l p (termS l (facS l n) p) := term_farS (fun p hp => fac_farS n p hp)
  have k1 := hfarT s h.r.a
  have k2 := FarS.ok h.r k1
  generalize hT : exprS l (facS l n) s = T
  unfold exprS at hT
  have hlen := h.r.b
  have hfu := h.f
  generalize termS l (facS l n) s = q at *
  simp only [sB] at e1
  simp [e1]
  refine lp_ind (fun f t => ∃ (u : SS) (r : Nat), l.length < u.at_ + f ∧ s.at_ ≤ u.at_ ∧ SOK l u ∧ t.e 0 = .ptr 0 0 ∧ t.B 0 = some (.agg [.lst (l.map Tok.v), .int .i64 u.at_, .int .i64 u.bad, .own r]) ∧ t.nb = 1 ∧ r < t.nt ∧ t.R r = some ⟨4, u.out.map Stp.v, true⟩ ∧ addS l (termS l (facS l n)) f u = T) (l.length + 1) ⟨q, 1, by omega, k1.1, k2, by simp, by simp, by simp, by simp, by simp, hT⟩ ?_
  rintro c' L hL f t ih ⟨u, r, c1, c2, c3, g0, gB, gnb, hlt, hR, hr⟩
  cases f with
  | zero =>
    have := c3.a
    omega
  | succ f =>
    have e2 := c90_eq l u c3 tPlus
    have e3 := c90_eq l u c3 tMinus
    unfold addS at hr
    unfold takeS at e2 e3
    simp only [sB] at e2 e3
    cases hb : isS l u tPlus with
    | true =>
      rw [hb] at e2
      rw [if_pos hb] at hr
      simp only [if_true, tPlus] at e2
      have hat := isS_lt hb
      have hat' : u.at_ + 1 ≤ l.length := hat
      have s1 : SOK l (stepS u) := c3.step hat
      have e4 := dT_eq (l := l) (n := n) (p := stepS u) ⟨s1, by have : (stepS u).at_ = u.at_ + 1 := rfl
                                                                omega⟩
      have k4 := hfarT (stepS u) hat
      have k5 := FarS.ok s1 k4
      have k6 := k4.step (stK 3)
      have k7 := FarS.ok c3 k6
      have k8 := k4.1
      have k9 : u.at_ + 1 ≤ (termS l (facS l n) (stepS u)).at_ := k8
      generalize termS l (facS l n) (stepS u) = q at *
      have e5 := c91_eq l q k5 (stK 3)
      have k10 := putS_at q (stK 3)
      generalize putS q (stK 3) = z at *
      generalize stepS u = y at *
      simp only [sB, Stp.v, stK] at e4 e5
      have fin : ∀ (t' : S) (r' : Nat), t'.e 0 = .ptr 0 0 → t'.B 0 = some (.agg [.lst (l.map Tok.v), .int .i64 z.at_, .int .i64 z.bad, .own r']) → t'.nb = 1 → r' < t'.nt → t'.R r' = some ⟨4, z.out.map Stp.v, true⟩ → L t' := fun t' r' j0 jB jn jl jR =>
        ih f t' (by omega) ⟨z, r', by omega, by omega, k7, j0, jB, jn, jl, jR, hr⟩
      simp [g0, gB, gnb, hR, hL, e2, e4, e5]
      refine fin _ (t.nt + 2) ?_ ?_ ?_ ?_ ?_ <;> simp [g0, gB, gnb]
    | false =>
      rw [hb] at e2
      rw [if_neg (by simp [hb])] at hr
      simp only [if_false, Bool.false_eq_true, tPlus] at e2
      clear hb
      cases hb : isS l u tMinus with
      | true =>
        rw [hb] at e3
        rw [if_pos hb] at hr
        simp only [if_true, tMinus] at e3
        have hat := isS_lt hb
        have hat' : u.at_ + 1 ≤ l.length := hat
        have s1 : SOK l (stepS u) := c3.step hat
        have e4 := dT_eq (l := l) (n := n) (p := stepS u) ⟨s1, by have : (stepS u).at_ = u.at_ + 1 := rfl
                                                                  omega⟩
        have k4 := hfarT (stepS u) hat
        have k5 := FarS.ok s1 k4
        have k6 := k4.step (stK 4)
        have k7 := FarS.ok c3 k6
        have k8 := k4.1
        have k9 : u.at_ + 1 ≤ (termS l (facS l n) (stepS u)).at_ := k8
        generalize termS l (facS l n) (stepS u) = q at *
        have e5 := c91_eq l q k5 (stK 4)
        have k10 := putS_at q (stK 4)
        generalize putS q (stK 4) = z at *
        generalize stepS u = y at *
        simp only [sB, Stp.v, stK] at e4 e5
        have fin : ∀ (t' : S) (r' : Nat), t'.e 0 = .ptr 0 0 → t'.B 0 = some (.agg [.lst (l.map Tok.v), .int .i64 z.at_, .int .i64 z.bad, .own r']) → t'.nb = 1 → r' < t'.nt → t'.R r' = some ⟨4, z.out.map Stp.v, true⟩ → L t' := fun t' r' j0 jB jn jl jR =>
          ih f t' (by omega) ⟨z, r', by omega, by omega, k7, j0, jB, jn, jl, jR, hr⟩
        simp [g0, gB, gnb, hR, hL, e2, e3, e4, e5]
        refine fin _ (t.nt + 3) ?_ ?_ ?_ ?_ ?_ <;> simp [g0, gB, gnb]
      | false =>
        rw [hb] at e3
        rw [if_neg (by simp [hb])] at hr
        simp only [if_false, Bool.false_eq_true, tMinus] at e3
        subst hr
        simp [g0, gB, gnb, hR, hL, e2, e3]
end Go.TM.Tryz
end
section
set_option maxHeartbeats 16000000
set_option maxRecDepth 20000
namespace Go.TM.Tryz
open Go Go.TM Go.Proofs
def cut143 : Pl := ⟨[0], [(1, false), (2, false), (3, false), (4, false), (5, false), (6, false), (7, false), (8, false), (9, false), (10, false), (11, false)], [], [12, 13], .one false 12 (.one false 13 .done)⟩
theorem cut143_run {E : Env} (pl : Option (List (Nat × Bool))) (ops : Array Oper) (k : List Fr) (Q : X → S → Prop) (s : S) : aftE (some cut143) pl ops k E Q s = preK E ops k Q (.one false 12 (.one false 13 .done)) [(0, false), (1, false), (2, false), (3, false), (4, false), (5, false), (6, false), (7, false), (8, false), (9, false), (10, false), (11, false)] s := rfl
theorem facS_ok {l : List Tok} : ∀ n, GOK Tryz.prog (143, [], dF l n)
  | 0 => ctrG_ok fun p h => by
    have h1 := h.r.a
    have h2 := h.f
    omega
  | n + 1 => by
    have hF := facS_ok (l := l) n
    have hE := exprS_ok (termS_ok hF)
    refine ctrG_ok fun p h => ?_
    refine fun_okG (mkE2_ok zmix (cl := [(189, c189 l)]) (gl := [(91, [], c91 l), (90, [], c90 l), (143, [], dF l n), (49, [], dE l n), (50, [], c50 l), (190, [], c190 l)]) [] [(6, cut143)] (c189_ok l) ⟨c91_ok l, c90_ok l, hF, hE, c50_ok l, c190_ok l⟩) Tryz.func143 (by kernel_rfl) ?_
    refine FunG_run _ _ rfl rfl ?_
    have hR := h.r
    have hf := h.f
    have hlen := h.r.b
    have hat0 := h.r.a
    have e3 := c189_eq l p hR 3
    have tm := c90_eq l p hR tMinus
    have to := c90_eq l p hR tOpen
    unfold takeS at tm to
    generalize hT : facS l (n + 1) p = T
    unfold facS at hT
    cases b3 : kindS l p 3 with
    | true =>
      have hat := kindS_lt b3
      rw [b3] at e3
      rw [if_pos b3] at hT
      obtain ⟨tk, htk⟩ : ∃ tk, l[p.at_]? = some tk := ⟨_, List.getElem?_eq_getElem hat⟩
      have hg : l.getD p.at_ Tok.zero = tk := by simp [htk]
      rw [hg] at hT
      have e5 := c91_eq l p hR ⟨1, tk.value, ⟨#[]⟩, ⟨#[]⟩⟩
      have k1 := putS_at p ⟨1, tk.value, ⟨#[]⟩, ⟨#[]⟩⟩
      generalize putS p ⟨1, tk.value, ⟨#[]⟩, ⟨#[]⟩⟩ = q at *
      unfold stepS at hT
      subst hT
      have w : IntKind.i64.wrap ((q.at_ : Int) + 1) = ((q.at_ + 1 : Nat) : Int) := (wrap64 (by omega) (by omega)).trans (by omega)
      simp only [sB, sR, Stp.v] at e3 e5
      have hat' : (p.at_ : Int) < l.length := by omega
      simp [-getElem?_pos, gcz, gcs, e3, e5, htk, hat, hat', w, -aftE_some, cut143_run, pureOp]
    | false =>
      rw [b3] at e3
      rw [if_neg (by simp [b3])] at hT
      cases bm : isS l p tMinus with
      | true =>
        have hat := isS_lt bm
        rw [bm] at tm
        rw [if_pos bm] at hT
        have s1 : SOK l (stepS p) := hR.step hat
        have e4 := dF_eq (l := l) (n := n) (p := stepS p) ⟨s1, by have : (stepS p).at_ = p.at_ + 1 := rfl
                                                                  omega⟩
        have k5 := FarS.ok s1 (fac_farS n (stepS p) hat)
        generalize facS l n (stepS p) = q at *
        have e5 := c91_eq l q k5 (stK 8)
        generalize putS q (stK 8) = z at *
        subst hT
        simp only [if_true, tMinus] at tm
        generalize stepS p = y at *
        simp only [sB, sR, Stp.v, stK] at e3 tm e4 e5
        simp [e3, tm, e4, e5]
      | false =>
        rw [bm] at tm
        rw [if_neg (by simp [bm])] at hT
        simp only [if_false, Bool.false_eq_true, tMinus] at tm
        cases bo : isS l p tOpen with
        | true =>
          have hat := isS_lt bo
          rw [bo] at to
          rw [if_pos bo] at hT
          have s1 : SOK l (stepS p) := hR.step hat
          have e4 := dE_eq (l := l) (n := n) (p := stepS p) ⟨s1, by have : (stepS p).at_ = p.at_ + 1 := rfl
                                                                    omega⟩
          have k5 := FarS.ok s1 (expr_farS (fun p hp => fac_farS n p hp) (stepS p) hat)
          generalize exprS l (facS l n) (stepS p) = q at *
          have e5 := c90_eq l q k5 tShut
          have e6 := c50_eq l q k5
          unfold takeS at e5
          simp only [if_true, tOpen] at to
          generalize stepS p = y at *
          cases bs : isS l q tShut with
          | true =>
            rw [bs] at e5
            rw [if_pos bs] at hT
            simp only [if_true, tShut] at e5
            generalize stepS q = z at *
            subst hT
            simp only [sB, sR] at e3 tm to e4 e5
            simp [e3, tm, to, e4, e5]
          | false =>
            rw [bs] at e5
            rw [if_neg (by simp [bs])] at hT
            simp only [if_false, Bool.false_eq_true, tShut] at e5
            generalize failS q = z at *
            subst hT
            simp only [sB, sR] at e3 tm to e4 e5 e6
            simp [e3, tm, to, e4, e5, e6]
        | false =>
          rw [bo] at to
          rw [if_neg (by simp [bo])] at hT
          simp only [if_false, Bool.false_eq_true, tOpen] at to
          unfold nameS at hT
          have e4 := c190_eq l p hR
          have k1 : SOK l (wordS l p).2 := by
            rcases word_farS (l := l) hat0 with ⟨h1, h2, h3⟩ | ⟨h1, h2⟩
            · exact ⟨by rw [h2]; exact hat0, hlen, by rw [h2, h3]; exact hR.c⟩
            · rw [h2]
              exact hR.step h1
          generalize wordS l p = q at *
          obtain ⟨nm, u⟩ := q
          simp only at k1 hT e4
          have e5 := c90_eq l u k1 tDot
          unfold takeS at e5
          cases bd : isS l u tDot with
          | true =>
            have hat2 := isS_lt bd
            rw [bd] at e5
            rw [if_pos bd] at hT
            have s2 : SOK l (stepS u) := k1.step hat2
            have e6 := c190_eq l (stepS u) s2
            have k2 : SOK l (wordS l (stepS u)).2 := by
              rcases word_farS (l := l) s2.a with ⟨h1, h2, h3⟩ | ⟨h1, h2⟩
              · exact ⟨by rw [h2]; exact s2.a, hlen, by rw [h2, h3]; exact s2.c⟩
              · rw [h2]
                exact s2.step h1
            simp only [if_true, tDot] at e5
            generalize wordS l (stepS u) = q2 at *
            obtain ⟨nm2, u2⟩ := q2
            simp only at k2 hT e6
            have e7 := c91_eq l u2 k2 ⟨2, 0, nm, nm2⟩
            generalize putS u2 ⟨2, 0, nm, nm2⟩ = z at *
            subst hT
            generalize stepS u = y at *
            simp only [sB, sR, Stp.v] at e3 tm to e4 e5 e6 e7
            simp [e3, tm, to, e4, e5, e6, e7]
          | false =>
            rw [bd] at e5
            rw [if_neg (by simp [bd])] at hT
            simp only [if_false, Bool.false_eq_true, tDot] at e5
            have e7 := c91_eq l u k1 ⟨2, 0, ⟨#[]⟩, nm⟩
            generalize putS u ⟨2, 0, ⟨#[]⟩, nm⟩ = z at *
            subst hT
            simp only [sB, sR, Stp.v] at e3 tm to e4 e5 e7
            simp [e3, tm, to, e4, e5, e7]
theorem c49_ok (l : List Tok) (n : Nat) : GOK Tryz.prog (49, [], dE l n) := exprS_ok (termS_ok (facS_ok n))
end Go.TM.Tryz
end
section
set_option maxHeartbeats 16000000
set_option maxRecDepth 20000
namespace Go.TM.Tryz
open Go Go.TM Go.Proofs
theorem f10_ok (l : List Tok) (hl : TokL l) : FunOK Tryz.prog 10 [.lst (l.map Tok.v)] false (.tup [.inl 4 ((readES l).1.map Stp.v), .int .i64 (readES l).2.1, .bool (readES l).2.2]) := by
  refine fun_ok (mkE_ok zmix (cl := [(48, c48)]) (gl := [(49, [], dE l (l.length + 1)), (50, [], c50 l)]) [] c48_ok ⟨c49_ok l _, c50_ok l⟩) Tryz.func10 (by kernel_rfl) ?_
  refine FunW_run _ _ rfl rfl ?_
  have hlen := hl.1
  have e48 := c48_eq l hl
  generalize hT : readES l = T
  unfold readES at hT
  cases hg : goodS l with
  | false =>
    rw [hg] at e48
    rw [if_pos hg] at hT
    subst hT
    simp [e48]
  | true =>
    rw [hg] at e48
    rw [if_neg (by simp [hg])] at hT
    have h0 : SOK l ⟨0, 0, []⟩ := ⟨Nat.zero_le _, hlen, by simp⟩
    have e49 := dE_eq (l := l) (n := l.length + 1) (p := ⟨0, 0, []⟩) ⟨h0, by simp only; omega⟩
    have k1 := FarS.ok h0 (expr_farS (fun p hp => fac_farS (l.length + 1) p hp) ⟨0, 0, []⟩ (Nat.zero_le _))
    change SOK l (wholeS l) at k1
    have e49' : dE l (l.length + 1) [.ptr 0 0] [sB l ⟨0, 0, []⟩] = some ⟨false, .tup [], [], [sB l (wholeS l)]⟩ := e49
    generalize wholeS l = p at *
    have e50 := c50_eq l p k1
    have k2 := failS_bad p
    have k3 := failS_out p
    unfold endE at hT
    simp only [sB, List.map_nil, Int.natCast_zero] at e49' e50
    by_cases hat : p.at_ < l.length
    · have hat' : (p.at_ : Int) < l.length := by omega
      rw [if_pos hat] at hT
      generalize failS p = q at *
      rw [if_pos (.inl (by omega))] at hT
      subst hT
      have hb : (0 : Int) < q.bad := by omega
      have hb2 : 0 < q.bad := by omega
      simp [e48, e49', e50, hat, hat', hb, hb2]
    · have hat' : ¬ (p.at_ : Int) < l.length := by omega
      rw [if_neg hat] at hT
      by_cases hbad : 0 < p.bad
      · have hb : (0 : Int) < p.bad := by omega
        rw [if_pos (.inl hbad)] at hT
        subst hT
        simp [e48, e49', hat, hat', hb, hbad]
      · have hb : ¬ (0 : Int) < p.bad := by omega
        have hb0 : p.bad = 0 := by omega
        by_cases h40 : 40 < p.out.length
        · have h40' : (40 : Int) < p.out.length := by omega
          rw [if_pos (.inr h40)] at hT
          subst hT
          simp [e48, e49', hat, hat', hb, hbad, h40, h40', hb0]
        · have h40' : ¬ (40 : Int) < p.out.length := by omega
          rw [if_neg (by rintro (h | h) <;> omega)] at hT
          subst hT
          simp [e48, e49', hat, hat', hb, hbad, h40, h40', hb0]
noncomputable def c10 := ctr (fun l : List Tok => TokL l) (fun l => [.lst (l.map Tok.v)]) (fun l => (false, .tup [.inl 4 ((readES l).1.map Stp.v), .int .i64 (readES l).2.1, .bool (readES l).2.2]))
theorem c10_eq (l : List Tok) (h : TokL l) : c10 [.lst (l.map Tok.v)] = some (false, .tup [.inl 4 ((readES l).1.map Stp.v), .int .i64 (readES l).2.1, .bool (readES l).2.2]) := ctr_eq (injl Tok.v_inj _) l h rfl
theorem c10_ok : COK Tryz.prog (10, c10) := ctr_ok fun l h => f10_ok l h
theorem f12_ok (l : List Tok) (hl : TokL l) : FunOK Tryz.prog 12 [.lst (l.map Tok.v)] false (.tup [.inl 4 ((readEI l).1.map Stp.v), .int .i64 (readEI l).2.1, .bool (readEI l).2.2]) := by
  refine fun_ok (mkE_ok zmix (cl := [(52, c52)]) (gl := [(53, [], cE l (l.length + 1)), (54, [], c54 l)]) [] c52_ok ⟨c53_ok l _, c54_ok l⟩) Tryz.func12 (by kernel_rfl) ?_
  refine FunW_run _ _ rfl rfl ?_
  have hlen := hl.1
  have e52 := c52_eq l hl
  generalize hT : readEI l = T
  unfold readEI at hT
  cases hg : goodI l with
  | false =>
    rw [hg] at e52
    rw [if_pos hg] at hT
    subst hT
    simp [e52]
  | true =>
    rw [hg] at e52
    rw [if_neg (by simp [hg])] at hT
    have h0 : ROK l ⟨0, 0⟩ := ⟨Nat.zero_le _, hlen⟩
    have e53 : cE l (l.length + 1) [.ptr 0 0] [rB l ⟨0, 0⟩] = some ⟨false, .inl 4 ((wholeI l).1.map Stp.v), [], [rB l (wholeI l).2]⟩ := cE_eq (l := l) (n := l.length + 1) (s := ⟨0, 0⟩) ⟨h0, by simp only; omega⟩
    have k1 := expr_far (l := l) (a := 0) (fun s _ hs => fac_far (l.length + 1) s hs) ⟨0, 0⟩ (Nat.zero_le _) (Nat.zero_le _)
    change FarI l ⟨0, 0⟩ (wholeI l) at k1
    generalize wholeI l = w at *
    obtain ⟨o, s⟩ := w
    obtain ⟨_, k2, k3⟩ := k1
    simp only at k2 k3 e53 hT
    have e54 := c54_eq l s ⟨k2, hlen⟩
    have k4 := failI_wr s
    unfold endI at hT
    simp only [rB, Int.natCast_zero] at e53 e54
    by_cases hat : s.at_ < l.length
    · have hat' : (s.at_ : Int) < l.length := by omega
      rw [if_pos hat] at hT
      generalize failI s = q at *
      rw [if_pos (by omega)] at hT
      subst hT
      have hb : (0 : Int) < q.wr := by omega
      have hb2 : 0 < q.wr := by omega
      simp [e52, e53, e54, hat, hat', hb, hb2]
    · have hat' : ¬ (s.at_ : Int) < l.length := by omega
      rw [if_neg hat] at hT
      by_cases hbad : 0 < s.wr
      · have hb : (0 : Int) < s.wr := by omega
        rw [if_pos hbad] at hT
        subst hT
        simp [e52, e53, hat, hat', hb, hbad]
      · have hb : ¬ (0 : Int) < s.wr := by omega
        have hb0 : s.wr = 0 := by omega
        rw [if_neg hbad] at hT
        by_cases h40 : 40 < o.length
        · have h40' : (40 : Int) < o.length := by omega
          rw [if_pos h40] at hT
          subst hT
          simp [e52, e53, hat, hat', hb, hbad, h40, h40', hb0]
        · have h40' : ¬ (40 : Int) < o.length := by omega
          rw [if_neg h40] at hT
          subst hT
          simp [e52, e53, hat, hat', hb, hbad, h40, h40', hb0]
noncomputable def c12 := ctr (fun l : List Tok => TokL l) (fun l => [.lst (l.map Tok.v)]) (fun l => (false, .tup [.inl 4 ((readEI l).1.map Stp.v), .int .i64 (readEI l).2.1, .bool (readEI l).2.2]))
theorem c12_eq (l : List Tok) (h : TokL l) : c12 [.lst (l.map Tok.v)] = some (false, .tup [.inl 4 ((readEI l).1.map Stp.v), .int .i64 (readEI l).2.1, .bool (readEI l).2.2]) := ctr_eq (injl Tok.v_inj _) l h rfl
theorem c12_ok : COK Tryz.prog (12, c12) := ctr_ok fun l h => f12_ok l h
end Go.TM.Tryz
end
section
set_option maxHeartbeats 2000000
namespace Go.TM.Tryz
open Go Go.TM Go.Proofs
theorem f47_ok (x : Tok) (left : Int) (h : x.lim) (h0 : 0 ≤ left) (h1 : left ≤ 1048576) : FunOK Tryz.prog 47 [x.v, .int .i64 left] false (.int .i64 (szR x.sz left)) := by
  refine fun_ok (mkE_ok zmix (cl := []) (gl := []) [] trivial trivial) Tryz.func47 (by kernel_rfl) ?_
  refine FunW_run _ _ rfl rfl ?_
  simp only [Tok.lim, lim] at h
  have l0 := h
  have w0 : IntKind.i64.wrap (left - (x.text.size : Int)) = left - (x.text.size : Nat) := wrap64 (by omega) (by omega)
  by_cases a0 : left < (x.text.size : Nat)
  · have b0 : left - ((x.text.size : Nat) : Int) < 0 := by omega
    have r : szR x.sz left = -1 := szR_lt (by simp only [Tok.sz]; omega)
    simp [w0, b0, r]
  have b0 : ¬ left - ((x.text.size : Nat) : Int) < 0 := by omega
  have r : szR x.sz left = left - ((x.text.size : Nat) : Int) := (szR_ge (by simp only [Tok.sz]; omega)).trans (by simp only [Tok.sz] <;> omega)
  simp [w0, b0, r]
noncomputable def c47 := ctr (fun a : Tok × Int => a.1.lim ∧ 0 ≤ a.2 ∧ a.2 ≤ 1048576) (fun a => [a.1.v, .int .i64 a.2]) (fun a => (false, .int .i64 (szR a.1.sz a.2)))
theorem c47_eq (x : Tok) (left : Int) (h : x.lim) (h0 : 0 ≤ left) (h1 : left ≤ 1048576) : c47 [x.v, .int .i64 left] = some (false, .int .i64 (szR x.sz left)) := ctr_eq (inj1 Tok.v_inj _) (x, left) ⟨h, h0, h1⟩ rfl
theorem c47_ok : COK Tryz.prog (47, c47) := ctr_ok fun a h => f47_ok a.1 a.2 h.1 h.2.1 h.2.2
theorem f9_ok (xs : List Tok) (left : Int) (hlim : limL Tok.lim xs) (hl0 : 0 ≤ left) (hl1 : left ≤ 1048576) : FunOK Tryz.prog 9 [.lst (xs.map Tok.v), .int .i64 left] false (.int .i64 (szR (szL Tok.sz xs) left)) := by
  refine fun_ok (mkE_ok zmix (cl := [(47, c47)]) (gl := []) [] c47_ok trivial) Tryz.func9 (by kernel_rfl) ?_
  refine FunW_run _ _ rfl rfl ?_
  have hlen := hlim.1
  simp only [lim] at hlen
  have hl := szL_len Tok.sz xs
  have w0 : IntKind.i64.wrap (left - (xs.length : Int)) = left - xs.length := wrap64 (by omega) (by omega)
  by_cases a0 : left < xs.length
  · have b0 : left - (xs.length : Int) < 0 := by omega
    have r : szR (szL Tok.sz xs) left = -1 := szR_lt (by omega)
    simp [w0, b0, r]
  have b0 : ¬ left - (xs.length : Int) < 0 := by omega
  simp [w0, b0]
  refine lp_list xs (fun i t => t.e 0 = .lst (xs.map Tok.v) ∧ t.e 5 = .int .i64 i ∧ t.e 1 = .int .i64 (left - xs.length - pre Tok.sz xs i) ∧ 0 ≤ left - xs.length - pre Tok.sz xs i) ?_ ?_ ?_
  · simp [pre_zero]
    omega
  · rintro c' L hL i t x hx hi ih ⟨h0, h5, h1', hge⟩
    have hw := wrI (i := i) (by omega)
    have hp := pre_succ Tok.sz hx
    have hp2 := pre_le Tok.sz xs (i + 1)
    have w := c47_eq x (left - xs.length - pre Tok.sz xs i) (hlim.2 x (List.mem_of_getElem? hx)) (by omega) (by omega)
    simp only [Tok.v] at w
    by_cases a : left - xs.length - pre Tok.sz xs i < (Tok.sz x : Nat)
    · rw [szR_lt a] at w
      have r : szR (szL Tok.sz xs) left = -1 := szR_lt (by simp only [szL]; omega)
      simp [-getElem?_pos, gcz, gcs, h0, h1', h5, hL, hx, hi, w, r]
    rw [szR_ge (Int.not_lt.1 a)] at w
    have b : ¬ left - xs.length - pre Tok.sz xs i - (Tok.sz x : Nat) < 0 := by omega
    simp [-getElem?_pos, gcz, gcs, h0, h1', h5, hL, hx, hi, w, b]
    refine ih _ ?_
    simp [-getElem?_pos, gcz, gcs, h0, h1', h5, hL, hx, hi, hw, hp]
    omega
  · rintro c' t ⟨h0, h5, h1', hge⟩
    rw [pre_all] at h1' hge
    have r : szR (szL Tok.sz xs) left = left - xs.length - ((xs.map Tok.sz).sum : Nat) := by rw [szR_ge (by simp only [szL]; omega)]; simp only [szL]; omega
    simp [h0, h5, h1', r]
noncomputable def c9 := ctr (fun a : List Tok × Int => limL Tok.lim a.1 ∧ 0 ≤ a.2 ∧ a.2 ≤ 1048576) (fun a => [.lst (a.1.map Tok.v), .int .i64 a.2]) (fun a => (false, .int .i64 (szR (szL Tok.sz a.1) a.2)))
theorem c9_eq (xs : List Tok) (left : Int) (h : limL Tok.lim xs) (h0 : 0 ≤ left) (h1 : left ≤ 1048576) : c9 [.lst (xs.map Tok.v), .int .i64 left] = some (false, .int .i64 (szR (szL Tok.sz xs) left)) := ctr_eq (injl1 Tok.v_inj _) (xs, left) ⟨h, h0, h1⟩ rfl
theorem c9_ok : COK Tryz.prog (9, c9) := ctr_ok fun a h => f9_ok a.1 a.2 h.1 h.2.1 h.2.2
end Go.TM.Tryz
end
section
set_option maxHeartbeats 2000000
namespace Go.TM.Tryz
open Go Go.TM Go.Proofs
theorem f56_ok (x : Tok) (h : x.lim) : FunOK Tryz.prog 56 [x.v, x.v] false (.bool true) := by
  refine fun_ok (mkE_ok zmix (cl := []) (gl := []) [] trivial trivial) Tryz.func56 (by kernel_rfl) ?_
  refine FunW_run _ _ rfl rfl ?_
  simp []
noncomputable def c56 := ctr (fun x : Tok => x.lim) (fun x => [x.v, x.v]) (fun _ => (false, .bool true))
theorem c56_eq (x : Tok) (h : x.lim) : c56 [x.v, x.v] = some (false, .bool true) := ctr_eq (fun _ _ _ => rfl) x h rfl
theorem c56_ok : COK Tryz.prog (56, c56) := ctr_ok fun x h => f56_ok x h
theorem f14_ok (xs : List Tok) (hlim : limL Tok.lim xs) : FunOK Tryz.prog 14 [.lst (xs.map Tok.v), .lst (xs.map Tok.v)] false (.bool true) := by
  refine fun_ok (mkE_ok zmix (cl := [(56, c56)]) (gl := []) [] c56_ok trivial) Tryz.func14 (by kernel_rfl) ?_
  refine FunW_run _ _ rfl rfl ?_
  have hlen := hlim.1
  simp only [lim] at hlen
  simp
  refine lp_list xs (fun i t => t.e 0 = .lst (xs.map Tok.v) ∧ t.e 1 = .lst (xs.map Tok.v) ∧ t.e 5 = .int .i64 i) ?_ ?_ ?_
  · simp
  · rintro c' L hL i t x hx hi ih ⟨g0, g1, g5⟩
    have hw := wrI (i := i) (by omega)
    have e := c56_eq x (hlim.2 x (List.mem_of_getElem? hx))
    simp only [Tok.v] at e
    simp [-getElem?_pos, gcz, gcs, g0, g1, g5, hL, hx, hi, e]
    refine ih _ ?_
    simp [-getElem?_pos, gcz, gcs, g0, g1, g5, hL, hx, hi, hw]
  · rintro c' t ⟨g0, g1, g5⟩
    simp [g0, g1, g5]
noncomputable def c14 := ctr (fun xs : List Tok => limL Tok.lim xs) (fun xs => [.lst (xs.map Tok.v), .lst (xs.map Tok.v)]) (fun _ => (false, .bool true))
theorem c14_eq (xs : List Tok) (h : limL Tok.lim xs) : c14 [.lst (xs.map Tok.v), .lst (xs.map Tok.v)] = some (false, .bool true) := ctr_eq (fun _ _ _ => rfl) xs h rfl
theorem c14_ok : COK Tryz.prog (14, c14) := ctr_ok fun xs h => f14_ok xs h
theorem f55_ok (x : Stp) (h : x.lim) : FunOK Tryz.prog 55 [x.v, x.v] false (.bool true) := by
  refine fun_ok (mkE_ok zmix (cl := []) (gl := []) [] trivial trivial) Tryz.func55 (by kernel_rfl) ?_
  refine FunW_run _ _ rfl rfl ?_
  simp []
noncomputable def c55 := ctr (fun x : Stp => x.lim) (fun x => [x.v, x.v]) (fun _ => (false, .bool true))
theorem c55_eq (x : Stp) (h : x.lim) : c55 [x.v, x.v] = some (false, .bool true) := ctr_eq (fun _ _ _ => rfl) x h rfl
theorem c55_ok : COK Tryz.prog (55, c55) := ctr_ok fun x h => f55_ok x h
theorem f13_ok (xs : List Stp) (hlim : limL Stp.lim xs) : FunOK Tryz.prog 13 [.lst (xs.map Stp.v), .lst (xs.map Stp.v)] false (.bool true) := by
  refine fun_ok (mkE_ok zmix (cl := [(55, c55)]) (gl := []) [] c55_ok trivial) Tryz.func13 (by kernel_rfl) ?_
  refine FunW_run _ _ rfl rfl ?_
  have hlen := hlim.1
  simp only [lim] at hlen
  simp
  refine lp_list xs (fun i t => t.e 0 = .lst (xs.map Stp.v) ∧ t.e 1 = .lst (xs.map Stp.v) ∧ t.e 5 = .int .i64 i) ?_ ?_ ?_
  · simp
  · rintro c' L hL i t x hx hi ih ⟨g0, g1, g5⟩
    have hw := wrI (i := i) (by omega)
    have e := c55_eq x (hlim.2 x (List.mem_of_getElem? hx))
    simp only [Stp.v] at e
    simp [-getElem?_pos, gcz, gcs, g0, g1, g5, hL, hx, hi, e]
    refine ih _ ?_
    simp [-getElem?_pos, gcz, gcs, g0, g1, g5, hL, hx, hi, hw]
  · rintro c' t ⟨g0, g1, g5⟩
    simp [g0, g1, g5]
noncomputable def c13 := ctr (fun xs : List Stp => limL Stp.lim xs) (fun xs => [.lst (xs.map Stp.v), .lst (xs.map Stp.v)]) (fun _ => (false, .bool true))
theorem c13_eq (xs : List Stp) (h : limL Stp.lim xs) : c13 [.lst (xs.map Stp.v), .lst (xs.map Stp.v)] = some (false, .bool true) := ctr_eq (fun _ _ _ => rfl) xs h rfl
theorem c13_ok : COK Tryz.prog (13, c13) := ctr_ok fun xs h => f13_ok xs h
end Go.TM.Tryz
end
section
namespace Go.TM
open Go
theorem cnt_mk {α : Type} {mk : Int → α → α} {c : α → Nat} (h : ∀ k x, c (mk k x) = c x) : ∀ (k : Int) (xs : List α), cnt c (mkL mk c k xs) = cnt c xs
  | k, [] => rfl
  | k, x :: xs => by
    have ih := cnt_mk h (k + c x) xs
    simp only [cnt] at ih ⊢
    simp only [mkL, List.map_cons, List.sum_cons, ih, h]
noncomputable def ctrH {α : Type} (mk : Int → α → α) (c : α → Nat) (f : α → V) (p : List α → Int → Prop) : List V → Option (Bool × V) :=
  ctr (fun a : List α × Int => ∃ xs, a.1 = mkL mk c a.2 xs ∧ p xs a.2) (fun a => [.lst (a.1.map f), .int .i64 a.2]) (fun a => (false, .int .i64 (a.2 + (cnt c a.1 : Nat))))
theorem ctrH_eq {α : Type} {mk : Int → α → α} {c : α → Nat} {f : α → V} {p : List α → Int → Prop} (hc : ∀ k x, c (mk k x) = c x) (hf : Function.Injective f) (xs : List α) (k : Int) (h : p xs k) :
    ctrH mk c f p [.lst ((mkL mk c k xs).map f), .int .i64 k] = some (false, .int .i64 (k + (cnt c xs : Nat))) := by
  have h1 := ctr_eq (p := fun a : List α × Int => ∃ xs, a.1 = mkL mk c a.2 xs ∧ p xs a.2) (enc := fun a => [.lst (a.1.map f), .int .i64 a.2]) (out := fun a => (false, .int .i64 (a.2 + (cnt c a.1 : Nat)))) (injl1 hf _) (mkL mk c k xs, k) ⟨xs, rfl, h⟩ rfl
  simp only [cnt_mk hc] at h1
  exact h1
theorem ctrH_ok {α : Type} {mk : Int → α → α} {c : α → Nat} {f : α → V} {p : List α → Int → Prop} {P : Program} {n : Nat} (hc : ∀ k x, c (mk k x) = c x) (hf : ∀ xs k, p xs k → FunOK P n [.lst ((mkL mk c k xs).map f), .int .i64 k] false (.int .i64 (k + (cnt c xs : Nat)))) :
    COK P (n, ctrH mk c f p) := ctr_ok fun a h => by
  obtain ⟨zs, k⟩ := a
  obtain ⟨xs, e, h⟩ := h
  simp only at e h
  subst e
  simp only [cnt_mk hc]
  exact hf xs k h
end Go.TM
end
section
set_option maxHeartbeats 2000000
namespace Go.TM.Tryz
open Go Go.TM Go.Proofs
theorem f57_ok (k : Int) (h : k ≤ 4611686018427387904) : FunOK Tryz.prog 57 [.int .i64 k] false (.str (mtext k)) := by
  refine fun_ok (mkE_ok zmix (cl := []) (gl := []) [] trivial trivial) Tryz.func57 (by kernel_rfl) ?_
  refine FunW_run _ _ rfl rfl ?_
  by_cases h0 : k ≤ 0
  · simp [h0, mtext]
  · simp [h0]
    refine lp_ind (fun m t => ∃ (n : Nat) (out : ByteArray), m = n ∧ t.e 0 = .int .i64 n ∧ t.e 3 = .str out ∧ mdig n ++ out = mdig k.toNat ∧ out.size + n ≤ k) k.toNat ⟨k.toNat, ⟨#[]⟩, rfl, ?_⟩ ?_
    · have e : ((k.toNat : Nat) : Int) = k := by omega
      simp [e, ba_append_nil, ba_nil_size]
    rintro c' L hL m t ih ⟨n, out, rfl, h1, h3, hout, hsz⟩
    by_cases hn : m = 0
    · subst hn
      have hb : 1 + out.size ≤ 9223372036854775807 := by omega
      rw [mdig_zero, ba_nil_append] at hout
      subst hout
      simp [h1, h3, hL, ba_one_size, hb, mtext, h0]
    · have hn' : 0 < m := by omega
      have ht : Int.tdiv (m : Int) 10 = ((m / 10 : Nat) : Int) := by
        rw [Int.tdiv_eq_ediv_of_nonneg (by omega)]
        omega
      have hb : 1 + out.size ≤ 9223372036854775807 := by omega
      have hw : IntKind.i64.wrap ((m : Int) / 10) = (m : Int) / 10 := wrap64 (by omega) (by omega)
      simp [h1, h3, hL, hn', ht, ba_one_size, hb]
      refine ih (m / 10) _ (by omega) ⟨m / 10, _, rfl, by simp [hw], by simp; rfl, ?_, ?_⟩
      · rw [← ByteArray.append_assoc, ← mdig_succ hn, hout]
      · rw [ByteArray.size_append, ba_one_size]
        omega
noncomputable def c57 := ctr (fun k : Int => k ≤ 4611686018427387904) (fun k => [.int .i64 k]) (fun k => (false, .str (mtext k)))
theorem c57_eq (k : Int) (h : k ≤ 4611686018427387904) : c57 [.int .i64 k] = some (false, .str (mtext k)) := ctr_eq (by simp) k h rfl
theorem c57_ok : COK Tryz.prog (57, c57) := ctr_ok fun k h => f57_ok k h
theorem f15_ok (xs : List Tok) (k : Int) (h0 : 0 ≤ k) (h1 : k + cnt cTok xs ≤ 4611686018427387904) (h2 : xs.length ≤ 4611686018427387904) : GenOK Tryz.prog 15 [.inl 4 (xs.map Tok.v), .int .i64 k] [] ⟨false, .int .i64 (k + cnt cTok xs), [.inl 4 ((mkL mkTok cTok k xs).map Tok.v)], []⟩ := by
  refine fun_okG (mkE_ok zmix (cl := [(57, c57)]) (gl := []) [] c57_ok trivial) Tryz.func15 (by kernel_rfl) ?_
  refine FunG_run _ _ rfl rfl ?_
  have hlen := h2
  simp
  refine lp_list xs (fun i t => t.e 0 = .own 0 ∧ t.e 1 = .int .i64 (k + pre cTok xs i) ∧ t.e 5 = .int .i64 i ∧ t.nb = 0 ∧ 1 ≤ t.nt ∧ t.R 0 = some ⟨4, (mpart mkTok cTok k xs i).map Tok.v, true⟩) ?_ ?_ ?_
  · simp [pre_zero, mpart_zero]
  · rintro c' L hL i t x hx hi ih ⟨g0, g1, g5, gnb, gnt, gR⟩
    have hw := wrI (i := i) (by omega)
    have hp := pre_succ cTok hx
    have hp2 := pre_le cTok xs (i + 1)
    have hc : cTok x = 4 := rfl
    have hcnt : (xs.map cTok).sum = cnt cTok xs := rfl
    have w0 : IntKind.i64.wrap (k + (pre cTok xs i : Nat) + 1) = k + (pre cTok xs i : Nat) + 1 := wrap64 (by omega) (by omega)
    have e1 := c57_eq (k + (pre cTok xs i : Nat) + 1) (by omega)
    have w1 : IntKind.i64.wrap (k + (pre cTok xs i : Nat) + 1 + 1) = k + (pre cTok xs i : Nat) + 1 + 1 := wrap64 (by omega) (by omega)
    have w2 : IntKind.i64.wrap (k + (pre cTok xs i : Nat) + 1 + 1 + 1) = k + (pre cTok xs i : Nat) + 1 + 1 + 1 := wrap64 (by omega) (by omega)
    have w3 : IntKind.i64.wrap (k + (pre cTok xs i : Nat) + 1 + 1 + 1 + 1) = k + (pre cTok xs i : Nat) + 1 + 1 + 1 + 1 := wrap64 (by omega) (by omega)
    have hx' := mpart_get (f := mkTok) (c := cTok) (k := k) hx
    simp [-getElem?_pos, gcz, gcs, g0, g1, g5, gnb, gR, hL, hx', hi, w0, e1, w1, w2, w3]
    refine ih _ ?_
    simp [-getElem?_pos, gcz, gcs, g0, g1, g5, gnb, gR, hL, hx', hi, w0, e1, w1, w2, w3, hp, hc, hw]
    first
      | exact ⟨by omega, by omega, mpart_setv hx rfl⟩
      | exact ⟨by omega, mpart_setv hx rfl⟩
      | exact mpart_setv hx rfl
  · rintro c' t ⟨g0, g1, g5, gnb, gnt, gR⟩
    simp only [pre_all] at g1
    simp [g0, g1, g5, gnb, gR, mpart_all, cnt]
noncomputable def c15 := ctrG (fun a : List Tok × Int => 0 ≤ a.2 ∧ a.2 + cnt cTok a.1 ≤ 4611686018427387904 ∧ (a.1.length ≤ 4611686018427387904)) (fun a => ([.inl 4 (a.1.map Tok.v), .int .i64 a.2], [])) (fun a => ⟨false, .int .i64 (a.2 + cnt cTok a.1), [.inl 4 ((mkL mkTok cTok a.2 a.1).map Tok.v)], []⟩)
theorem c15_eq (xs : List Tok) (k : Int) (h0 : 0 ≤ k) (h1 : k + cnt cTok xs ≤ 4611686018427387904) (h2 : xs.length ≤ 4611686018427387904) : c15 [.inl 4 (xs.map Tok.v), .int .i64 k] [] = some ⟨false, .int .i64 (k + cnt cTok xs), [.inl 4 ((mkL mkTok cTok k xs).map Tok.v)], []⟩ := ctrG_eq (injG Tok.v_inj _) (xs, k) ⟨h0, h1, h2⟩ rfl
theorem c15_ok : GOK Tryz.prog (15, [true], c15) := ctrG_ok fun a h => f15_ok a.1 a.2 h.1 h.2.1 h.2.2
theorem f16_ok (xs : List Stp) (k : Int) (h0 : 0 ≤ k) (h1 : k + cnt cStp xs ≤ 4611686018427387904) (h2 : xs.length ≤ 4611686018427387904) : GenOK Tryz.prog 16 [.inl 4 (xs.map Stp.v), .int .i64 k] [] ⟨false, .int .i64 (k + cnt cStp xs), [.inl 4 ((mkL mkStp cStp k xs).map Stp.v)], []⟩ := by
  refine fun_okG (mkE_ok zmix (cl := [(57, c57)]) (gl := []) [] c57_ok trivial) Tryz.func16 (by kernel_rfl) ?_
  refine FunG_run _ _ rfl rfl ?_
  have hlen := h2
  simp
  refine lp_list xs (fun i t => t.e 0 = .own 0 ∧ t.e 1 = .int .i64 (k + pre cStp xs i) ∧ t.e 5 = .int .i64 i ∧ t.nb = 0 ∧ 1 ≤ t.nt ∧ t.R 0 = some ⟨4, (mpart mkStp cStp k xs i).map Stp.v, true⟩) ?_ ?_ ?_
  · simp [pre_zero, mpart_zero]
  · rintro c' L hL i t x hx hi ih ⟨g0, g1, g5, gnb, gnt, gR⟩
    have hw := wrI (i := i) (by omega)
    have hp := pre_succ cStp hx
    have hp2 := pre_le cStp xs (i + 1)
    have hc : cStp x = 4 := rfl
    have hcnt : (xs.map cStp).sum = cnt cStp xs := rfl
    have w0 : IntKind.i64.wrap (k + (pre cStp xs i : Nat) + 1) = k + (pre cStp xs i : Nat) + 1 := wrap64 (by omega) (by omega)
    have w1 : IntKind.i64.wrap (k + (pre cStp xs i : Nat) + 1 + 1) = k + (pre cStp xs i : Nat) + 1 + 1 := wrap64 (by omega) (by omega)
    have e2 := c57_eq (k + (pre cStp xs i : Nat) + 1 + 1) (by omega)
    have w2 : IntKind.i64.wrap (k + (pre cStp xs i : Nat) + 1 + 1 + 1) = k + (pre cStp xs i : Nat) + 1 + 1 + 1 := wrap64 (by omega) (by omega)
    have e3 := c57_eq (k + (pre cStp xs i : Nat) + 1 + 1 + 1) (by omega)
    have w3 : IntKind.i64.wrap (k + (pre cStp xs i : Nat) + 1 + 1 + 1 + 1) = k + (pre cStp xs i : Nat) + 1 + 1 + 1 + 1 := wrap64 (by omega) (by omega)
    have hx' := mpart_get (f := mkStp) (c := cStp) (k := k) hx
    simp [-getElem?_pos, gcz, gcs, g0, g1, g5, gnb, gR, hL, hx', hi, w0, w1, e2, w2, e3, w3]
    refine ih _ ?_
    simp [-getElem?_pos, gcz, gcs, g0, g1, g5, gnb, gR, hL, hx', hi, w0, w1, e2, w2, e3, w3, hp, hc, hw]
    first
      | exact ⟨by omega, by omega, mpart_setv hx rfl⟩
      | exact ⟨by omega, mpart_setv hx rfl⟩
      | exact mpart_setv hx rfl
  · rintro c' t ⟨g0, g1, g5, gnb, gnt, gR⟩
    simp only [pre_all] at g1
    simp [g0, g1, g5, gnb, gR, mpart_all, cnt]
noncomputable def c16 := ctrG (fun a : List Stp × Int => 0 ≤ a.2 ∧ a.2 + cnt cStp a.1 ≤ 4611686018427387904 ∧ (a.1.length ≤ 4611686018427387904)) (fun a => ([.inl 4 (a.1.map Stp.v), .int .i64 a.2], [])) (fun a => ⟨false, .int .i64 (a.2 + cnt cStp a.1), [.inl 4 ((mkL mkStp cStp a.2 a.1).map Stp.v)], []⟩)
theorem c16_eq (xs : List Stp) (k : Int) (h0 : 0 ≤ k) (h1 : k + cnt cStp xs ≤ 4611686018427387904) (h2 : xs.length ≤ 4611686018427387904) : c16 [.inl 4 (xs.map Stp.v), .int .i64 k] [] = some ⟨false, .int .i64 (k + cnt cStp xs), [.inl 4 ((mkL mkStp cStp k xs).map Stp.v)], []⟩ := ctrG_eq (injG Stp.v_inj _) (xs, k) ⟨h0, h1, h2⟩ rfl
theorem c16_ok : GOK Tryz.prog (16, [true], c16) := ctrG_ok fun a h => f16_ok a.1 a.2 h.1 h.2.1 h.2.2
end Go.TM.Tryz
end
section
set_option maxHeartbeats 2000000
namespace Go.TM.Tryz
open Go Go.TM Go.Proofs
theorem f17_ok (xs : List Stp) (k : Int) (h0 : 0 ≤ k) (h1 : k + cnt cStp xs ≤ 4611686018427387904) (h2 : xs.length ≤ 4611686018427387904) : FunOK Tryz.prog 17 [.lst ((mkL mkStp cStp k xs).map Stp.v), .int .i64 k] false (.int .i64 (k + cnt cStp xs)) := by
  refine fun_ok (mkE_ok zmix (cl := [(57, c57)]) (gl := []) [] c57_ok trivial) Tryz.func17 (by kernel_rfl) ?_
  refine FunW_run _ _ rfl rfl ?_
  have hlen := h2
  simp
  refine lp_list xs (fun i t => t.e 0 = .lst ((mkL mkStp cStp k xs).map Stp.v) ∧ t.e 1 = .int .i64 (k + pre cStp xs i) ∧ t.e 5 = .int .i64 i) ?_ ?_ ?_
  · simp [pre_zero]
  · rintro c' L hL i t x hx hi ih ⟨g0, g1, g5⟩
    have hw := wrI (i := i) (by omega)
    have hp := pre_succ cStp hx
    have hp2 := pre_le cStp xs (i + 1)
    have hc : cStp x = 4 := rfl
    have hcnt : (xs.map cStp).sum = cnt cStp xs := rfl
    have w0 : IntKind.i64.wrap (k + (pre cStp xs i : Nat) + 1) = k + (pre cStp xs i : Nat) + 1 := wrap64 (by omega) (by omega)
    have w1 : IntKind.i64.wrap (k + (pre cStp xs i : Nat) + 1 + 1) = k + (pre cStp xs i : Nat) + 1 + 1 := wrap64 (by omega) (by omega)
    have e2 := c57_eq (k + (pre cStp xs i : Nat) + 1 + 1) (by omega)
    have w2 : IntKind.i64.wrap (k + (pre cStp xs i : Nat) + 1 + 1 + 1) = k + (pre cStp xs i : Nat) + 1 + 1 + 1 := wrap64 (by omega) (by omega)
    have e3 := c57_eq (k + (pre cStp xs i : Nat) + 1 + 1 + 1) (by omega)
    have w3 : IntKind.i64.wrap (k + (pre cStp xs i : Nat) + 1 + 1 + 1 + 1) = k + (pre cStp xs i : Nat) + 1 + 1 + 1 + 1 := wrap64 (by omega) (by omega)
    have hx' := mkL_get mkStp cStp k hx
    simp [-getElem?_pos, gcz, gcs, g0, g1, g5, hL, hx', hi, mkStp, w0, w1, e2, w2, e3, w3]
    refine ih _ ?_
    simp [-getElem?_pos, gcz, gcs, g0, g1, g5, hL, hx', hi, w0, w1, e2, w2, e3, w3, hp, hc, hw] <;> omega
  · rintro c' t ⟨g0, g1, g5⟩
    simp only [pre_all] at g1
    simp [g0, g1, g5, cnt]
noncomputable def c17 := ctrH mkStp cStp Stp.v (fun xs k => 0 ≤ k ∧ k + cnt cStp xs ≤ 4611686018427387904 ∧ (xs.length ≤ 4611686018427387904))
theorem c17_eq (xs : List Stp) (k : Int) (h0 : 0 ≤ k) (h1 : k + cnt cStp xs ≤ 4611686018427387904) (h2 : xs.length ≤ 4611686018427387904) : c17 [.lst ((mkL mkStp cStp k xs).map Stp.v), .int .i64 k] = some (false, .int .i64 (k + cnt cStp xs)) := ctrH_eq (mk := mkStp) (c := cStp) (fun _ _ => rfl) Stp.v_inj xs k ⟨h0, h1, h2⟩
theorem c17_ok : COK Tryz.prog (17, c17) := ctrH_ok (mk := mkStp) (c := cStp) (fun _ _ => rfl) fun xs k h => f17_ok xs k h.1 h.2.1 h.2.2
end Go.TM.Tryz
end
section
set_option maxHeartbeats 16000000
set_option maxRecDepth 20000
namespace Go.TM.Tryz
open Go Go.TM Go.Proofs
def SmL (o : List Stp) : Prop := ∀ x ∈ o, x.mod.size ≤ 1048576 ∧ x.name.size ≤ 1048576
theorem SmL.app {a b : List Stp} (ha : SmL a) (hb : SmL b) : SmL (a ++ b) := fun x hx => by
  rw [List.mem_append] at hx
  rcases hx with hx | hx
  · exact ha x hx
  · exact hb x hx
theorem SmL.one (k v : Int) : SmL [⟨k, v, ⟨#[]⟩, ⟨#[]⟩⟩] := fun x hx => by
  rw [List.mem_singleton] at hx
  subst hx
  exact ⟨Nat.zero_le _, Nat.zero_le _⟩
theorem need_sm {l : List Tok} (hl : TokL l) (s : RS) (k : Int) (ts : List ByteArray) : (needI l s k ts).1.text.size ≤ 1048576 := by
  unfold needI
  split
  · unfold tokI
    rw [List.getD_eq_getElem?_getD]
    cases h : l[s.at_]? with
    | none => exact Nat.zero_le _
    | some t => exact hl.2 t (List.mem_of_getElem? h)
  · exact Nat.zero_le _
theorem name_sm {l : List Tok} (hl : TokL l) (s : RS) : SmL [⟨2, 0, (nameI l s).1.1, (nameI l s).1.2⟩] := fun x hx => by
  rw [List.mem_singleton] at hx
  subst hx
  unfold nameI
  split
  · exact ⟨need_sm hl _ _ _, need_sm hl _ _ _⟩
  · exact ⟨Nat.zero_le _, need_sm hl _ _ _⟩
theorem add_sm {l : List Tok} {tm : RS → List Stp × RS} (h : ∀ s, SmL (tm s).1) : ∀ (f : Nat) (o : List Stp) (s : RS), SmL o → SmL (addI l tm f o s).1
  | 0, o, s, ho => ho
  | f + 1, o, s, ho => by
    unfold addI
    split
    · exact add_sm h f _ _ ((ho.app (h _)).app (SmL.one _ _))
    · exact ho
theorem mul_sm {l : List Tok} {tm : RS → List Stp × RS} (h : ∀ s, SmL (tm s).1) : ∀ (f : Nat) (o : List Stp) (s : RS), SmL o → SmL (mulI l tm f o s).1
  | 0, o, s, ho => ho
  | f + 1, o, s, ho => by
    unfold mulI
    split
    · exact mul_sm h f _ _ ((ho.app (h _)).app (SmL.one _ _))
    · exact ho
theorem expr_sm {l : List Tok} {fc : RS → List Stp × RS} (h : ∀ s, SmL (fc s).1) (s : RS) : SmL (exprI l fc s).1 :=
  add_sm (tm := termI l fc) (fun s => mul_sm h _ _ _ (h s)) _ _ _ (mul_sm h _ _ _ (h s))
theorem fac_sm {l : List Tok} (hl : TokL l) : ∀ (n : Nat) (s : RS), SmL (facI l n s).1
  | 0, s => fun x hx => by cases hx
  | n + 1, s => by
    unfold facI
    split
    · exact SmL.one _ _
    · split
      · exact name_sm hl s
      · split
        · exact expr_sm (fun s => fac_sm hl n s) _
        · split
          · exact (fac_sm hl n _).app (SmL.one _ _)
          · exact fun x hx => by cases hx
theorem readE_sm {l : List Tok} (hl : TokL l) : SmL (readEI l).1 ∧ (readEI l).1.length ≤ 40 := by
  unfold readEI
  split
  · exact ⟨(fun x hx => by cases hx), Nat.zero_le _⟩
  · split
    · exact ⟨(fun x hx => by cases hx), Nat.zero_le _⟩
    · split
      · exact ⟨(fun x hx => by cases hx), Nat.zero_le _⟩
      · exact ⟨expr_sm (fun s => fac_sm hl _ s) _, by simp only; omega⟩
theorem f3_ok (l : List Tok) (hl : limL Tok.lim l) : FunOK Tryz.prog 3 [.lst (l.map Tok.v)] false (.bool true) := by
  refine fun_ok (mkE_ok zmix (cl := [(9, c9), (11, c11), (10, c10), (12, c12), (13, c13), (14, c14), (17, c17)]) (gl := [(15, [true], c15), (16, [true], c16)]) [] ⟨c9_ok, c11_ok, c10_ok, c12_ok, c13_ok, c14_ok, c17_ok⟩ ⟨c15_ok, c16_ok⟩) Tryz.func3 (by kernel_rfl) ?_
  refine FunW_run _ _ rfl rfl ?_
  have e9 := c9_eq l 1048576 hl (by omega) (by omega)
  by_cases hz : ¬ (szL Tok.sz l : Int) ≤ 1048576
  · rw [szR_lt (by omega)] at e9
    simp [e9]
  have hz : szL Tok.sz l ≤ 1048576 := by omega
  rw [szR_ge (by omega)] at e9
  have h0 : ¬ (1048576 : Int) < szL Tok.sz l := by omega
  have e11 := c11_eq l hz
  have hlen := szL_len Tok.sz l
  have hT : TokL l := ⟨by omega, fun t ht => by
    obtain ⟨i, hi⟩ := List.getElem?_of_mem ht
    have := szL_get (f := Tok.sz) hi
    simp only [Tok.sz] at this
    omega⟩
  have e10 := c10_eq l hT
  have e12 := c12_eq l hT
  rw [← readE_eq] at e10
  obtain ⟨hsm, h40⟩ := readE_sm hT
  generalize readEI l = R at *
  obtain ⟨o, w, ok⟩ := R
  simp only at e10 e12 hsm h40
  have e13 := c13_eq o ⟨by simp only [lim]; omega, fun x hx => by
    have := hsm x hx
    exact ⟨by simp only [lim]; omega, by simp only [lim]; omega⟩⟩
  have e14 := c14_eq l hl
  have k1 : cnt cTok l = 4 * l.length := cnt_const (fun _ => rfl) l
  have k2 : cnt cStp o = 4 * o.length := cnt_const (fun _ => rfl) o
  have e15 := c15_eq l 1 (by omega) (by omega) (by omega)
  have e16 := c16_eq o 1 (by omega) (by omega) (by omega)
  have e17 := c17_eq o 1 (by omega) (by omega) (by omega)
  have hb1 : ¬ (1 : Int) + (cnt cTok l : Nat) < 0 := by omega
  have hb2 : ¬ (1 : Int) + (cnt cStp o : Nat) < 0 := by omega
  simp [e9, h0, e11, e10, e12, e13, e14, e15, e16, e17, hb1, hb2]
end Go.TM.Tryz
end
