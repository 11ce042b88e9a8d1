/- A part of the proof: RH, RI, RK, RL. -/
import Derived.Test.YtgpkbmekdmpgoaaGreatDoorK14
set_option linter.unusedVariables false
set_option linter.unusedSimpArgs false
section
set_option maxHeartbeats 16000000
set_option maxRecDepth 20000
namespace Go.TM
open Go
theorem fun_okR {P : Program} {E : Env} (env : EnvOK P E) {f : FuncId} {fn : Func} (hf : P.funcs[f]? = some fn) {args cs : List V} (hB : funB E fn args.length = true) {c : Code} (hb : fn.body = some c) {rs : List ResultVar} (hr : fn.results.toList = rs) {C : Nat → Option (Array Oper → Rule Unit)} {ans : Ans}
    (hx : ∀ Inv : Unit → Mem → World → Prop, (∀ g M W M' W', Inv g M W → Evo M W M' W' → Inv g M' W') → okCX Inv P fn.ntmps C c)
    (h : kontX E C [.code c] (fun x s _ => EndsQ E rs cs.length ans x s) .normal (start args cs) ()) : GenOK P f args cs ans where
  has := by
    simp only [funB, Bool.and_eq_true, decide_eq_true_eq, Bool.not_eq_true'] at hB
    exact ⟨fn, hf, hB.1.1.1, by simp [hb]⟩
  calls M W vs hm ha := by
    simp only [funB, Bool.and_eq_true, decide_eq_true_eq, Bool.not_eq_true'] at hB
    obtain ⟨⟨⟨h1, h2⟩, h3⟩, h4⟩ := hB
    rw [hb] at h2
    rw [← EndsG_eq hr] at h
    refine calls_of_wp hf hb ?_
    refine codeX_sound (Inv := fun _ M' W' => Evo M W M' W') env (fun g M1 W1 M2 W2 k1 k2 => k1.trans k2) c (fun x s _ => EndsG E fn cs.length ans x s) _ (start args cs) () _ W M h2 (hx _ (fun g M1 W1 M2 W2 k1 k2 => k1.trans k2)) ?_ (start_St hm ha (by rw [← ha.length, adCs_length]; exact h3)) (Evo.refl _ _) h
    intro x s' g' a' W' M' hx' hst hev
    have key : ((EndsC E fn s' ∧ (resToks s' (resOf E fn s') ++ liveOuts s' 0 ans.outs ++ (List.range cs.length).flatMap s'.boxToks).Nodup ∧ (resBoxes (resOf E fn s')).Nodup ∧
      (ans.sh = false → noL ans.r = true ∧ noLs ans.outs = true) ∧ ((List.range cs.length).all fun i => (s'.B i).isSome) = true) ∧ outsOk s' 0 ans.outs ∧ boxOuts s' cs.length = ans.boxes ∧ closeR s' cs.length (resOf E fn s') = ans.r) →
        a'.defers = [] ∧ ∃ v, (results fn a'.tmps).run P W' = .ok v W' ∧ ∃ v_1 M'' s'' sv, Ending.returned v = .returned v_1 ∧ Post cs.length ans M W M'' W' s'' sv v_1 := by
      rintro ⟨⟨hc, hnd, hbn, hsh, hB⟩, houts, hboxes, hr⟩
      obtain ⟨v, hv1, hv2⟩ := res_sound env.toStaOK hst h4 hc
      exact ⟨hst.defers, v, hv1, v, M', s', _, rfl, ⟨hv2, hst.mem, hev, hnd, hbn, hsh, hB, houts, hboxes, hr⟩⟩
    cases x with
    | normal => exact key hx'
    | ret => exact key hx'
    | exit id => exact hx'.elim
end Go.TM
namespace Go.TM.Tryz
open Go Go.TM Go.Proofs
def impI (s : ByteArray) : List ByteArray × Bool :=
  if (readT s).2.1 = 0 then (if (beginK (readT s).1 ⟨0, ⟨#[]⟩, []⟩).1 = true then ((beginK (readT s).1 ⟨0, ⟨#[]⟩, []⟩).2.imps, true) else ([], false)) else ([], false)
@[simp] theorem rGuard_eq {Γ : Type} (l : List Tok) (z : Int) (p : KS) (s : S) (g : Γ) (K : S → Γ → Prop) : rGuard l z p s g K = ((s.e 26 = .fn 155 [.ptr 1 0] ∧ s.B 1 = some (.ptr 0 0) ∧ argsG s [0] [] [.ptr 0 0, .bool true] = [.ptr 0 0, .bool true] ∧ s.cont 0 = kB l z p ∧ (ansR (gAns l z p) [0] [] [.ptr 0 0, .bool true] s).c) ∧
    K ((ansR (gAns l z p) [0] [] [.ptr 0 0, .bool true] s).s.put (some 27) (gRes l z p)) g) := rfl
noncomputable def C104 (E : Env) (l : List Tok) (z : Int) (id : Nat) : Option (Array Oper → Rule Unit) := if id = 6 then some (fun ops => seqR E (fun i => if i = 1 then some (rGuard l z ⟨0, ⟨#[]⟩, []⟩) else none) ops) else none
theorem f104_ok (s : ByteArray) (hs : s.size ≤ 1000000000) : FunOK Tryz.prog 104 [.str s] false (.tup [.inl 1 ((impI s).1.map V.str), .bool (impI s).2]) := by
  have hL := rtS_len' s
  rw [← readT_eq] at hL
  have e92 := c92_eq s hs
  have env := mkE_ok zmix (P := Tryz.prog) (cl := [(92, c92)]) (gl := []) [] c92_ok trivial
  generalize hl : (readT s).1 = l at *
  have hk : KOk l ⟨0, ⟨#[]⟩, []⟩ := ⟨Nat.zero_le _, hL⟩
  refine fun_okR (C := C104 (mkE Tryz.prog [(92, c92)] [] []) l s.size) env Tryz.func104 (by kernel_rfl) rfl rfl ?_ ?_
  · intro Inv hI
    repeat' (first | exact trivial | apply And.intro)
    all_goals intro r hr
    all_goals simp [C104] at hr
    all_goals subst hr
    refine opsX_ok env hI (by kernel_rfl) ?_
    intro i o r ho hr
    split at hr
    · rename_i hi
      subst hi
      cases hr
      cases ho
      exact ⟨rfl, rGuard_ok hI hk (by simp) rfl rfl rfl rfl (by decide)⟩
    · cases hr
  · unfold impI
    rw [hl]
    by_cases hc : (readT s).2.1 = 0
    · rw [hc] at e92
      rw [if_pos hc]
      have gA : gAns l s.size ⟨0, ⟨#[]⟩, []⟩ = ⟨true, .tup [], [], [kB l s.size (beginK l ⟨0, ⟨#[]⟩, []⟩).2]⟩ := rfl
      cases hb : (beginK l ⟨0, ⟨#[]⟩, []⟩).1 with
      | true =>
        have gR : gRes l s.size ⟨0, ⟨#[]⟩, []⟩ = .agg [.int .i64 0, .int .i64 0] := by
          unfold gRes
          rw [if_pos hb]
        rw [if_pos rfl]
        generalize beginK l ⟨0, ⟨#[]⟩, []⟩ = r at *
        simp [C104, e92, gA, gR]
      | false =>
        have gR : gRes l s.size ⟨0, ⟨#[]⟩, []⟩ = .agg [.int .i64 20, .int .i64 (placeS l s.size (beginK l ⟨0, ⟨#[]⟩, []⟩).2.at_)] := by
          unfold gRes
          rw [hb, if_neg (by simp)]
        rw [if_neg (by simp)]
        generalize beginK l ⟨0, ⟨#[]⟩, []⟩ = r at *
        simp [C104, e92, gA, gR]
    · rw [if_neg hc]
      have hc' : ¬ ((readT s).2.1 : Int) = 0 := by omega
      simp [C104, e92, hc, hc']
noncomputable def c104 := ctr (fun s : ByteArray => s.size ≤ 1000000000) (fun s => [.str s]) (fun s => (false, .tup [.inl 1 ((impI s).1.map V.str), .bool (impI s).2]))
theorem c104_eq (s : ByteArray) (h : s.size ≤ 1000000000) : c104 [.str s] = some (false, .tup [.inl 1 ((impI s).1.map V.str), .bool (impI s).2]) := ctr_eq (by simp) s h rfl
theorem c104_ok : COK Tryz.prog (104, c104) := ctr_ok fun n h => f104_ok n h
end Go.TM.Tryz
end
section
namespace Go.TM
open Go
structure TokH (t : Tok) : Prop where
  word : t.text ∈ [tModule, tImp] → t.kind = 2
  sign : t.text ∈ [tSem, tCom] → t.kind = 4
theorem one_text (s : ByteArray) (p : Nat) : (oneS s p).1.text = s.extract p (endS s p) := by
  unfold oneS
  split
  · split
    · rfl
    · split <;> rfl
  · split
    · split <;> rfl
    · split <;> rfl
theorem one_H {s : ByteArray} {p : Nat} (hp : p < s.size) (h : (oneS s p).2 = 0) : TokH (oneS s p).1 := by
  have hz := Go.TM.Tryz.one_sz hp h
  have hx := one_text s p
  have hle := endS_le hp
  have hb : bA (oneS s p).1.text 0 = bA s p := by
    rw [hx, extract_sz s hle] at hz
    rw [hx, bA_extract hle (by omega), Nat.add_zero]
  constructor
  · intro hm
    have h1 : letterB (bA s p) = true ∧ hasB words15 (s.extract p (endS s p)) = true := by
      rw [← hb, ← hx]
      have : ∀ x ∈ [tModule, tImp], letterB (bA x 0) = true ∧ hasB words15 x = true := by decide
      exact this _ hm
    unfold oneS
    rw [if_pos h1.1, if_pos h1.2]
  · intro hm
    have h1 : letterB (bA s p) = false ∧ digitB (bA s p) = false ∧ signB (bA s p) = true := by
      rw [← hb]
      have : ∀ x ∈ [tSem, tCom], letterB (bA x 0) = false ∧ digitB (bA x 0) = false ∧ signB (bA x 0) = true := by decide
      exact this _ hm
    unfold oneS
    rw [if_neg (by simp [h1.1]), if_neg (by simp [h1.2.1]), if_neg (by simp [h1.2.2])]
theorem rtS_H (s : ByteArray) : ∀ (f p : Nat) (out : List Tok), (∀ t ∈ out, TokH t) → ∀ t ∈ (rtS s f p out).1, TokH t
  | 0, p, out, h => h
  | f + 1, p, out, h => by
    unfold rtS
    split
    · rename_i hp
      split
      · exact rtS_H s f _ _ h
      · split
        · split
          · simp
          · exact rtS_H s f _ _ h
        · split
          · rename_i hc
            refine rtS_H s f _ _ fun t ht => ?_
            rcases List.mem_append.1 ht with ht | ht
            · exact h t ht
            · rw [List.mem_singleton] at ht
              rw [ht]
              have := oneS_nonneg s p
              exact one_H hp (by omega)
          · simp
    · exact h
theorem readTS_H (s : ByteArray) : ∀ t ∈ (readTS s).1, TokH t := by
  unfold readTS
  split
  · simp
  · split
    · simp
    · exact rtS_H s _ _ _ (by simp)
end Go.TM
namespace Go.TM.Tryz
open Go Go.TM
def Rk (p : CS) (u : KS) : Prop := p.bad = 0 ∧ p.at_ = u.at_
section
variable {l : List Tok} {z : Int} (hl : ∀ t ∈ l, TokH t)
include hl
theorem is_word {p : CS} {u : KS} (h : Rk p u) {x : ByteArray} (hx : x ∈ [tModule, tImp]) : isC l p x = seesK l u 2 [x] := by
  obtain ⟨h1, h2⟩ := h
  simp only [isC, seesK, seesB, h1, h2]
  cases ht : l[u.at_]? with
  | none => rfl
  | some t =>
    have hg := hl t (List.mem_of_getElem? ht)
    by_cases e : t.text = x
    · have := hg.word (by rw [e]; exact hx)
      simp [e, this, hasB]
    · have e' : ¬ x = t.text := fun h => e h.symm
      simp [e, e', hasB]
theorem is_sign {p : CS} {u : KS} (h : Rk p u) {x : ByteArray} (hx : x ∈ [tSem, tCom]) : isC l p x = seesK l u 4 [x] := by
  obtain ⟨h1, h2⟩ := h
  simp only [isC, seesK, seesB, h1, h2]
  cases ht : l[u.at_]? with
  | none => rfl
  | some t =>
    have hg := hl t (List.mem_of_getElem? ht)
    by_cases e : t.text = x
    · have := hg.sign (by rw [e]; exact hx)
      simp [e, this, hasB]
    · have e' : ¬ x = t.text := fun h => e h.symm
      simp [e, e', hasB]
omit hl
theorem name_is {p : CS} {u : KS} (h : Rk p u) : noNm l p = !(seesK l u 1 []) := by
  obtain ⟨h1, h2⟩ := h
  simp only [noNm, seesK, seesB, h1, h2]
  cases ht : l[u.at_]? with
  | none => rfl
  | some t => by_cases e : t.kind = 1 <;> simp [e]
theorem is_bad {p : CS} (h : 0 < p.bad) (x : ByteArray) : isC l p x = false := by
  have : ¬ p.bad = 0 := by omega
  simp [isC, this]
theorem fail_bad {p : CS} {c : Int} {a : Nat} (hc : 0 < c) : 0 < (failC l z p c a).bad := by
  unfold failC
  split
  · assumption
  · exact hc
theorem need_bad {p : CS} (h : 0 < p.bad) (x : ByteArray) : 0 < (needC l z p x).bad := by
  unfold needC
  rw [is_bad h, if_neg (by simp)]
  exact fail_bad (by decide)
theorem name_bad {p : CS} (h : 0 < p.bad) : 0 < (nameC l z p).2.bad := by
  unfold nameC
  have : noNm l p = true := by simp [noNm, h]
  rw [if_pos this]
  exact fail_bad (by decide)
theorem need_no {p : CS} {x : ByteArray} (h : isC l p x = false) : 0 < (needC l z p x).bad := by
  unfold needC
  rw [h, if_neg (by simp)]
  exact fail_bad (by decide)
theorem need_yes {p : CS} {x : ByteArray} (h : isC l p x = true) : needC l z p x = stepC p := by
  unfold needC
  rw [if_pos h]
theorem name_no {p : CS} {u : KS} (h : Rk p u) (hs : seesK l u 1 [] = false) : 0 < (nameC l z p).2.bad := by
  unfold nameC
  rw [name_is h, hs, if_pos (by rfl)]
  exact fail_bad (by decide)
theorem name_yes {p : CS} {u : KS} (h : Rk p u) (hs : seesK l u 1 [] = true) : nameC l z p = (textK l u, stepC p) := by
  unfold nameC textK
  rw [name_is h, hs, if_neg (by simp), h.2]
theorem Rk.step {p : CS} {u v : KS} (h : Rk p u) (hv : v.at_ = u.at_ + 1) : Rk (stepC p) v := ⟨h.1, by rw [hv, ← h.2]; rfl⟩
theorem imp_bad : ∀ (f : Nat) (p : CS) (out : List ByteArray), 0 < p.bad → impC l z f p out = (p, out)
  | 0, p, out, h => rfl
  | f + 1, p, out, h => by
    unfold impC
    rw [is_bad h, if_neg (by simp)]
include hl
theorem imp_rel : ∀ (f : Nat) (p : CS) (u : KS), l.length < u.at_ + f → u.at_ ≤ l.length → Rk p u →
    (((impK l f u).1 = true ∧ Rk (impC l z f (nameC l z p).2 (u.imps ++ [(nameC l z p).1])).1 (impK l f u).2 ∧ (impC l z f (nameC l z p).2 (u.imps ++ [(nameC l z p).1])).2 = (impK l f u).2.imps) ∨
     ((impK l f u).1 = false ∧ 0 < (impC l z f (nameC l z p).2 (u.imps ++ [(nameC l z p).1])).1.bad))
  | 0, p, u, hf, hu, h => by omega
  | f + 1, p, u, hf, hu, h => by
    unfold impK
    cases s1 : seesK l u 1 [] with
    | false =>
      right
      rw [if_neg (by simp)]
      have := name_no (z := z) h s1
      rw [imp_bad _ _ _ this]
      exact ⟨rfl, this⟩
    | true =>
      have hlt := seesK_lt s1
      rw [if_pos rfl, name_yes h s1]
      have h2 : Rk (stepC p) (nextK u (textK l u)) := h.step rfl
      unfold impC
      rw [is_sign hl h2 (x := tCom) (by simp)]
      cases s2 : seesK l (nextK u (textK l u)) 4 [tCom] with
      | false =>
        left
        rw [if_neg (by simp), if_neg (by simp)]
        exact ⟨rfl, h2, rfl⟩
      | true =>
        have hlt2 := seesK_lt s2
        rw [if_pos rfl, if_pos rfl]
        have e1 : (nextK u (textK l u)).at_ = u.at_ + 1 := rfl
        have e2 : (stepK (nextK u (textK l u))).at_ = u.at_ + 1 + 1 := rfl
        exact imp_rel f (stepC (stepC p)) (stepK (nextK u (textK l u))) (by omega) (by omega) (h2.step rfl)
theorem begin_rel : (((beginK l ⟨0, ⟨#[]⟩, []⟩).1 = true ∧ (endC l z).1.bad = 0 ∧ (endC l z).2 = (beginK l ⟨0, ⟨#[]⟩, []⟩).2.imps) ∨ ((beginK l ⟨0, ⟨#[]⟩, []⟩).1 = false ∧ 0 < (endC l z).1.bad)) := by
  have hbadH : 0 < (headC l z).bad → 0 < (endC l z).1.bad := fun h => by
    unfold endC
    rw [is_bad h, if_neg (by simp)]
    exact h
  have h0 : Rk ⟨0, 0, 0⟩ ⟨0, ⟨#[]⟩, []⟩ := ⟨rfl, rfl⟩
  generalize hp : (⟨0, ⟨#[]⟩, []⟩ : KS) = p at *
  have hpi : p.imps = [] := by rw [← hp]
  generalize hq : (⟨0, 0, 0⟩ : CS) = q at *
  unfold beginK
  cases s0 : seesK l p 2 [tModule] with
  | false =>
    right
    rw [if_neg (by simp)]
    refine ⟨rfl, hbadH ?_⟩
    unfold headC
    rw [hq]
    exact need_bad (name_bad (need_no (by rw [is_word hl h0 (by simp), s0]))) _
  | true =>
    rw [if_pos rfl]
    have h1 : Rk (stepC q) (stepK p) := h0.step rfl
    have n0 : needC l z q tModule = stepC q := need_yes (by rw [is_word hl h0 (by simp), s0])
    cases s1 : seesK l (stepK p) 1 [] with
    | false =>
      right
      rw [if_neg (by simp)]
      refine ⟨rfl, hbadH ?_⟩
      unfold headC
      rw [hq, n0]
      exact need_bad (name_no h1 s1) _
    | true =>
      rw [if_pos rfl]
      have n1 := name_yes (z := z) h1 s1
      have h2 : Rk (stepC (stepC q)) (namedK (stepK p) (textK l (stepK p))) := h1.step rfl
      cases s2 : seesK l (namedK (stepK p) (textK l (stepK p))) 4 [tSem] with
      | false =>
        right
        rw [if_neg (by simp)]
        refine ⟨rfl, hbadH ?_⟩
        unfold headC
        rw [hq, n0, n1]
        exact need_no (by rw [is_sign hl h2 (by simp), s2])
      | true =>
        rw [if_pos rfl]
        have hH : headC l z = stepC (stepC (stepC q)) := by
          unfold headC
          rw [hq, n0, n1]
          exact need_yes (by rw [is_sign hl h2 (by simp), s2])
        have h3 : Rk (headC l z) (stepK (namedK (stepK p) (textK l (stepK p)))) := by rw [hH]; exact h2.step rfl
        have hi3 : (stepK (namedK (stepK p) (textK l (stepK p)))).imps = [] := hpi
        generalize stepK (namedK (stepK p) (textK l (stepK p))) = u at *
        unfold tailK
        unfold endC
        rw [is_word hl h3 (x := tImp) (by simp)]
        cases s3 : seesK l u 2 [tImp] with
        | false =>
          left
          rw [if_neg (by simp), if_neg (by simp)]
          exact ⟨rfl, h3.1, hi3.symm⟩
        | true =>
          rw [if_pos rfl, if_pos rfl]
          have hlt := seesK_lt s3
          have h4 : Rk (stepC (headC l z)) (stepK u) := h3.step rfl
          have hi4 : (stepK u).imps = [] := hi3
          have e4 : (stepK u).at_ = u.at_ + 1 := rfl
          have key := imp_rel (z := z) hl (l.length + 1) _ _ (by omega) (by omega) h4
          rw [hi4, List.nil_append] at key
          change (((impK l (l.length + 1) (stepK u)).1 = true ∧ Rk (firstC l z).1 (impK l (l.length + 1) (stepK u)).2 ∧ (firstC l z).2 = (impK l (l.length + 1) (stepK u)).2.imps) ∨ ((impK l (l.length + 1) (stepK u)).1 = false ∧ 0 < (firstC l z).1.bad)) at key
          generalize impK l (l.length + 1) (stepK u) = r at *
          unfold endK
          rcases key with ⟨k1, k2, k3⟩ | ⟨k1, k2⟩
          · rw [if_pos k1]
            cases s5 : seesK l r.2 4 [tSem] with
            | true =>
              left
              rw [if_pos rfl, need_yes (by rw [is_sign hl k2 (by simp), s5])]
              exact ⟨rfl, k2.1, k3⟩
            | false =>
              right
              rw [if_neg (by simp)]
              exact ⟨rfl, need_no (by rw [is_sign hl k2 (by simp), s5])⟩
          · right
            rw [if_neg (by simp [k1])]
            exact ⟨k1, need_bad k2 _⟩
end
theorem imp_eq (s : ByteArray) : impI s = impS s := by
  unfold impI impS
  rw [readT_eq]
  split
  · rcases begin_rel (z := s.size) (readTS_H s) with ⟨k1, k2, k3⟩ | ⟨k1, k2⟩
    · rw [if_pos k1, if_neg (by omega), k3]
    · rw [if_neg (by simp [k1]), if_pos k2]
  · rfl
end Go.TM.Tryz
end
section
set_option maxHeartbeats 8000000
set_option maxRecDepth 20000
namespace Go.TM.Tryz
open Go Go.TM Go.Proofs
def namIs (n : ByteArray) (m : Src) : Bool := decide (m.name = n)
theorem f103_ok (m : Src) (n : ByteArray) : FunOK Tryz.prog 103 [m.v, .ladr [.str n] 0 0] false (.bool (namIs n m)) := by
  refine fun_ok (mkE_ok zmix (cl := []) (gl := []) [] trivial trivial) Tryz.func103 (by kernel_rfl) ?_
  refine FunW_run _ _ rfl rfl ?_
  simp [namIs]
theorem inj103 {β : Type} (out : Src × ByteArray → β) : ∀ a b : Src × ByteArray, [a.1.v, V.ladr [.str a.2] 0 0] = [b.1.v, .ladr [.str b.2] 0 0] → out a = out b := by
  rintro ⟨a, c⟩ ⟨b, d⟩ h
  simp only [List.cons.injEq, and_true, V.ladr.injEq, V.str.injEq] at h
  rw [Src.v_inj h.1, h.2]
noncomputable def c103 := ctr (fun _ : Src × ByteArray => True) (fun a => [a.1.v, .ladr [.str a.2] 0 0]) (fun a => (false, .bool (namIs a.2 a.1)))
theorem c103_eq (m : Src) (n : ByteArray) : c103 [m.v, .ladr [.str n] 0 0] = some (false, .bool (namIs n m)) := ctr_eq (inj103 _) (m, n) trivial rfl
theorem c103_ok : COK Tryz.prog (103, c103) := ctr_ok fun a h => f103_ok a.1 a.2
theorem f102_ok (l : List Src) (n : ByteArray) (hl : l.length ≤ lim) : FunOK Tryz.prog 102 [.lst (l.map Src.v), .fn 103 [.ladr [.str n] 0 0]] false (.int .i64 (fstI (namIs n) l)) := by
  refine fun_ok (mkE_ok zmix (cl := [(103, c103)]) (gl := []) [] c103_ok trivial) Tryz.func102 (by kernel_rfl) ?_
  refine FunW_run _ _ rfl rfl ?_
  simp only [lim] at hl
  simp
  refine lp_list l (fun i t => t.e 1 = .fn 103 [.ladr [.str n] 0 0] ∧ t.e 0 = .lst (l.map Src.v) ∧ t.e 7 = .int .i64 l.length ∧ t.e 8 = .int .i64 i ∧ anyI (namIs n) l i = false) ?_ ?_ ?_
  · simp
  · rintro c' L hL i t x hx hi ih ⟨h1, h7, h8, h9, hall⟩
    have hw := wrI (i := i) (by omega)
    have e := c103_eq x n
    simp only [Src.v] at e h1
    simp [-getElem?_pos, List.getElem?_cons_zero, h1, h7, h8, h9, hL, hi, hx, e]
    split
    · rename_i hc
      exact (fst_yes hx hc hall).symm
    · rename_i hc
      refine ih _ ?_
      simp [h1, h7, h8, h9, hw, anyI_succ hx, hall, hc]
  · rintro c' t ⟨h1, h7, h8, h9, hall⟩
    simp [h1, h7, h8, h9, fst_no hall]
theorem inj102 {β : Type} (out : List Src × ByteArray → β) : ∀ a b : List Src × ByteArray, [V.lst (a.1.map Src.v), .fn 103 [.ladr [.str a.2] 0 0]] = [V.lst (b.1.map Src.v), .fn 103 [.ladr [.str b.2] 0 0]] → out a = out b := by
  rintro ⟨a, c⟩ ⟨b, d⟩ h
  simp only [List.cons.injEq, and_true, V.ladr.injEq, V.fn.injEq, true_and, V.lst.injEq, V.str.injEq] at h
  rw [map_inj Src.v_inj h.1, h.2]
noncomputable def c102 := ctr (fun a : List Src × ByteArray => a.1.length ≤ lim) (fun a => [.lst (a.1.map Src.v), .fn 103 [.ladr [.str a.2] 0 0]]) (fun a => (false, .int .i64 (fstI (namIs a.2) a.1)))
theorem c102_eq (l : List Src) (n : ByteArray) (h : l.length ≤ lim) : c102 [.lst (l.map Src.v), .fn 103 [.ladr [.str n] 0 0]] = some (false, .int .i64 (fstI (namIs n) l)) := ctr_eq (inj102 _) (l, n) h rfl
theorem c102_ok : COK Tryz.prog (102, c102) := ctr_ok fun a h => f102_ok a.1 a.2 h
theorem f101_ok (l : List Src) (n : ByteArray) (hl : l.length ≤ lim) : FunOK Tryz.prog 101 [.str n, .ladr [.lst (l.map Src.v)] 0 0] false (.int .i64 (fstI (namIs n) l)) := by
  refine fun_ok (mkE_ok zmix (cl := [(102, c102)]) (gl := []) [] c102_ok trivial) Tryz.func101 (by kernel_rfl) ?_
  refine FunW_run _ _ rfl rfl ?_
  have e := c102_eq l n hl
  simp [e]
theorem inj101 {β : Type} (out : List Src × ByteArray → β) : ∀ a b : List Src × ByteArray, [V.str a.2, .ladr [.lst (a.1.map Src.v)] 0 0] = [V.str b.2, .ladr [.lst (b.1.map Src.v)] 0 0] → out a = out b := by
  rintro ⟨a, c⟩ ⟨b, d⟩ h
  simp only [List.cons.injEq, and_true, V.ladr.injEq, V.lst.injEq, V.str.injEq] at h
  rw [map_inj Src.v_inj h.2, h.1]
noncomputable def c101 := ctr (fun a : List Src × ByteArray => a.1.length ≤ lim) (fun a => [.str a.2, .ladr [.lst (a.1.map Src.v)] 0 0]) (fun a => (false, .int .i64 (fstI (namIs a.2) a.1)))
theorem c101_eq (l : List Src) (n : ByteArray) (h : l.length ≤ lim) : c101 [.str n, .ladr [.lst (l.map Src.v)] 0 0] = some (false, .int .i64 (fstI (namIs n) l)) := ctr_eq (inj101 _) (l, n) h rfl
theorem c101_ok : COK Tryz.prog (101, c101) := ctr_ok fun a h => f101_ok a.1 a.2 h
theorem f99_ok (l : List Src) (n : ByteArray) (hl : l.length ≤ lim) : FunOK Tryz.prog 99 [.lst (l.map Src.v), .str n] false (.int .i64 (fstI (namIs n) l)) := by
  refine fun_ok (mkE_ok zmix (cl := []) (gl := []) [] trivial trivial) Tryz.func99 (by kernel_rfl) ?_
  refine FunW_run _ _ rfl rfl ?_
  simp only [lim] at hl
  simp
  refine lp_list l (fun i t => t.e 1 = .str n ∧ t.e 7 = .lst (l.map Src.v) ∧ t.e 8 = .int .i64 l.length ∧ t.e 9 = .int .i64 i ∧ anyI (namIs n) l i = false) ?_ ?_ ?_
  · simp
  · rintro c' L hL i t x hx hi ih ⟨h1, h7, h8, h9, hall⟩
    have hw := wrI (i := i) (by omega)
    by_cases hc : x.name = n
    · have hc' : namIs n x = true := by simp [namIs, hc]
      have := fst_yes hx hc' hall
      simp [-getElem?_pos, gcz, gcs, h1, h7, h8, h9, hL, hi, hx, hc]
      omega
    · have hc' : namIs n x = false := by simp [namIs, hc]
      simp [-getElem?_pos, gcz, gcs, h1, h7, h8, h9, hL, hi, hx, hc]
      refine ih _ ?_
      simp [h1, h7, h8, h9, hw, anyI_succ hx, hall, hc']
  · rintro c' t ⟨h1, h7, h8, h9, hall⟩
    simp [h1, h7, h8, h9, fst_no hall]
theorem injsn {β : Type} (out : List Src × ByteArray → β) : ∀ a b : List Src × ByteArray, [V.lst (a.1.map Src.v), .str a.2] = [V.lst (b.1.map Src.v), .str b.2] → out a = out b := by
  rintro ⟨a, c⟩ ⟨b, d⟩ h
  simp only [List.cons.injEq, and_true, V.lst.injEq, V.str.injEq] at h
  rw [map_inj Src.v_inj h.1, h.2]
noncomputable def c99 := ctr (fun a : List Src × ByteArray => a.1.length ≤ lim) (fun a => [.lst (a.1.map Src.v), .str a.2]) (fun a => (false, .int .i64 (fstI (namIs a.2) a.1)))
theorem c99_eq (l : List Src) (n : ByteArray) (h : l.length ≤ lim) : c99 [.lst (l.map Src.v), .str n] = some (false, .int .i64 (fstI (namIs n) l)) := ctr_eq (injsn _) (l, n) h rfl
theorem c99_ok : COK Tryz.prog (99, c99) := ctr_ok fun a h => f99_ok a.1 a.2 h
end Go.TM.Tryz
end
section
set_option maxHeartbeats 4000000
set_option maxRecDepth 10000
namespace Go.TM
open Go
def putN (l : List Int) (n : Int) : List Int := if n ∈ l then l else l.takeWhile (fun x => decide (x < n)) ++ n :: l.dropWhile (fun x => decide (x < n))
def Asc : List Int → Prop
  | [] => True
  | x :: xs => (∀ y ∈ xs, x < y) ∧ Asc xs
theorem tw_get {α : Type} {p : α → Bool} : ∀ {l : List α} {i : Nat} {x : α}, (l.takeWhile p)[i]? = some x → l[i]? = some x ∧ p x = true
  | [], i, x, h => by simp at h
  | y :: ys, i, x, h => by
    rw [List.takeWhile_cons] at h
    split at h
    · rename_i hy
      cases i with
      | zero => simp at h; subst h; exact ⟨rfl, hy⟩
      | succ i => simp only [List.getElem?_cons_succ] at h ⊢; exact tw_get h
    · simp at h
theorem tw_end {α : Type} {p : α → Bool} : ∀ {l : List α} {y : α}, l[(l.takeWhile p).length]? = some y → p y = false
  | [], y, h => by simp at h
  | z :: zs, y, h => by
    rw [List.takeWhile_cons] at h
    split at h
    · simp only [List.length_cons, List.getElem?_cons_succ] at h
      exact tw_end h
    · rename_i hz
      simp at h
      subst h
      simpa using hz
theorem asc_at {n : Int} : ∀ {l : List Int}, Asc l → n ∈ l → l[(l.takeWhile (fun x => decide (x < n))).length]? = some n
  | [], _, h => by simp at h
  | x :: xs, ha, h => by
    rw [List.takeWhile_cons]
    by_cases hx : x < n
    · rw [if_pos (by simpa using hx), List.length_cons, List.getElem?_cons_succ]
      refine asc_at ha.2 ?_
      rcases List.mem_cons.1 h with h | h
      · omega
      · exact h
    · rw [if_neg (by simpa using hx), List.length_nil, List.getElem?_cons_zero]
      rcases List.mem_cons.1 h with h | h
      · rw [h]
      · have := ha.1 n h
        omega
theorem asc_app : ∀ {a b : List Int}, Asc a → Asc b → (∀ x ∈ a, ∀ y ∈ b, x < y) → Asc (a ++ b)
  | [], b, _, hb, _ => hb
  | x :: a, b, ha, hb, h => by
    refine ⟨fun y hy => ?_, asc_app ha.2 hb fun x' hx' y hy => h x' (by simp [hx']) y hy⟩
    rcases List.mem_append.1 hy with hy | hy
    · exact ha.1 y hy
    · exact h x (by simp) y hy
theorem asc_tw {p : Int → Bool} : ∀ {l : List Int}, Asc l → Asc (l.takeWhile p)
  | [], _ => trivial
  | x :: xs, h => by
    rw [List.takeWhile_cons]
    split
    · exact ⟨fun y hy => h.1 y (List.takeWhile_subset _ hy), asc_tw h.2⟩
    · trivial
theorem asc_dw {p : Int → Bool} : ∀ {l : List Int}, Asc l → Asc (l.dropWhile p)
  | [], _ => trivial
  | x :: xs, h => by
    rw [List.dropWhile_cons]
    split
    · exact asc_dw h.2
    · exact h
theorem dw_ge {n : Int} : ∀ {l : List Int}, Asc l → ∀ y ∈ l.dropWhile (fun x => decide (x < n)), n ≤ y
  | [], _, y, hy => by simp at hy
  | x :: xs, h, y, hy => by
    rw [List.dropWhile_cons] at hy
    split at hy
    · exact dw_ge h.2 y hy
    · rename_i hx
      have hx' : ¬ x < n := by simpa using hx
      rcases List.mem_cons.1 hy with e | e
      · omega
      · have := h.1 y e
        omega
theorem tw_lt {n : Int} : ∀ {l : List Int}, ∀ y ∈ l.takeWhile (fun x => decide (x < n)), y < n
  | [], y, hy => by simp at hy
  | x :: xs, y, hy => by
    rw [List.takeWhile_cons] at hy
    split at hy
    · rename_i hx
      rcases List.mem_cons.1 hy with e | e
      · rw [e]; simpa using hx
      · exact tw_lt y e
    · simp at hy
theorem asc_put {l : List Int} {n : Int} (h : Asc l) : Asc (putN l n) := by
  unfold putN
  split
  · exact h
  · rename_i hn
    refine asc_app (asc_tw h) ⟨fun y hy => ?_, asc_dw h⟩ fun x hx y hy => ?_
    · have h1 := dw_ge h y hy
      have h2 : y ∈ l := List.dropWhile_subset _ hy
      have : ¬ y = n := fun e => hn (e ▸ h2)
      omega
    · have h1 := tw_lt x hx
      rcases List.mem_cons.1 hy with e | e
      · omega
      · have := dw_ge h y e
        omega
theorem mem_put {l : List Int} {n x : Int} : x ∈ putN l n ↔ x ∈ l ∨ x = n := by
  unfold putN
  split
  · rename_i h
    constructor
    · exact .inl
    · rintro (h' | h')
      · exact h'
      · rw [h']; exact h
  · have e : l.takeWhile (fun x => decide (x < n)) ++ l.dropWhile (fun x => decide (x < n)) = l := List.takeWhile_append_dropWhile
    conv => rhs; rw [← e]
    simp only [List.mem_append, List.mem_cons]
    constructor
    · rintro (h | h | h)
      · exact .inl (.inl h)
      · exact .inr h
      · exact .inl (.inr h)
    · rintro ((h | h) | h)
      · exact .inl h
      · exact .inr (.inr h)
      · exact .inr (.inl h)
end Go.TM
end
