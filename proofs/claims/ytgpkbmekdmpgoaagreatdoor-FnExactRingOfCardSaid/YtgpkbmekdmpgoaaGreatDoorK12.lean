/- A part of the proof: QX, KP, KP2, QY, QZ, RA. -/
import Derived.Test.YtgpkbmekdmpgoaaGreatDoorK11
set_option linter.unusedVariables false
set_option linter.unusedSimpArgs false
section
set_option maxHeartbeats 16000000
set_option maxRecDepth 20000
namespace Go.TM
open Go
def tModule : ByteArray := ⟨#[77, 79, 68, 85, 76, 69]⟩
def tImp : ByteArray := ⟨#[73, 77, 80, 79, 82, 84]⟩
def tSem : ByteArray := ⟨#[59]⟩
def tCom : ByteArray := ⟨#[44]⟩
def impC (l : List Tok) (z : Int) : Nat → CS → List ByteArray → CS × List ByteArray
  | 0, p, out => (p, out)
  | f + 1, p, out => if isC l p tCom = true then impC l z f (nameC l z (stepC p)).2 (out ++ [(nameC l z (stepC p)).1]) else (p, out)
def headC (l : List Tok) (z : Int) : CS := needC l z (nameC l z (needC l z ⟨0, 0, 0⟩ tModule)).2 tSem
def firstC (l : List Tok) (z : Int) : CS × List ByteArray := impC l z (l.length + 1) (nameC l z (stepC (headC l z))).2 [(nameC l z (stepC (headC l z))).1]
def endC (l : List Tok) (z : Int) : CS × List ByteArray :=
  if isC l (headC l z) tImp = true then (needC l z (firstC l z).1 tSem, (firstC l z).2) else (headC l z, [])
def impS (s : ByteArray) : List ByteArray × Bool :=
  if (readTS s).2.1 = 0 then (if 0 < (endC (readTS s).1 s.size).1.bad then ([], false) else ((endC (readTS s).1 s.size).2, true)) else ([], false)
end Go.TM
namespace Go.TM.Tryz
open Go Go.TM Go.Proofs
theorem roomStr (n : Nat) (h : n ≤ 1000000002) : room ⟨1, false, 16, .str ⟨#[]⟩⟩ n := by simp [room]; omega
theorem rtS_bad (s : ByteArray) : ∀ (f p : Nat) (out : List Tok), (rtS s f p out).2.1 = 0 ∨ (rtS s f p out).1 = []
  | 0, p, out => .inl rfl
  | f + 1, p, out => by
    unfold rtS
    split
    · split
      · exact rtS_bad s f _ _
      · split
        · split
          · exact .inr rfl
          · exact rtS_bad s f _ _
        · split
          · exact rtS_bad s f _ _
          · exact .inr rfl
    · exact .inl rfl
theorem rtS_len' (s : ByteArray) : (readTS s).1.length ≤ 1048576 := by
  unfold readTS
  split
  · simp
  · split
    · simp
    · rename_i h
      rcases rtS_bad s (s.size + 1) 0 [] with h1 | h1
      · have : ¬ 300 < (rtS s (s.size + 1) 0 []).1.length := fun h2 => h ⟨h1, h2⟩
        omega
      · rw [h1]; simp
theorem nameC_le {l : List Tok} {z : Int} {p : CS} : p.at_ ≤ (nameC l z p).2.at_ := by
  unfold nameC failC stepC
  split
  · split <;> exact Nat.le_refl _
  · exact Nat.le_succ _
theorem f97_ok (s : ByteArray) (hs : s.size ≤ 1000000000) : FunOK Tryz.prog 97 [.str s] false (.tup [.inl 1 ((impS s).1.map V.str), .bool (impS s).2]) := by
  have hL := rtS_len' s
  generalize hl : (readTS s).1 = l at *
  refine fun_ok (mkE_ok zmix (cl := [(150, c150)]) (gl := [(151, [], c151 l s.size), (152, [], c152 l s.size), (153, [], c153 l s.size)]) [] c150_ok ⟨c151_ok l _, c152_ok l _, c153_ok l _⟩) Tryz.func97 (by kernel_rfl) ?_
  refine FunW_run _ _ rfl rfl ?_
  have e150 := c150_eq s hs
  rw [hl] at e150
  unfold impS
  rw [hl]
  by_cases hc : (readTS s).2.1 = 0
  · rw [if_pos hc]
    rw [hc] at e150
    generalize hz : s.size = z at *
    have h0 : COk l ⟨0, 0, 0⟩ := ⟨Nat.zero_le _, hL⟩
    have e1 := c151_eq l z _ h0 tModule
    have h1 : COk l (needC l z ⟨0, 0, 0⟩ tModule) := needC_ok h0
    have e2 := c152_eq l z _ h1
    have h2 : COk l (nameC l z (needC l z ⟨0, 0, 0⟩ tModule)).2 := nameC_ok h1
    have e3 := c151_eq l z _ h2 tSem
    have h3 : COk l (headC l z) := needC_ok h2
    change c151 l z _ _ = some ⟨_, _, _, [cB l z (headC l z)]⟩ at e3
    have e4 := c153_eq l z _ h3 tImp
    have h4 : COk l (takeC l (headC l z) tImp) := takeC_ok h3
    generalize hE : endC l z = E
    unfold endC at hE
    generalize nameC l z (needC l z ⟨0, 0, 0⟩ tModule) = n2 at *
    generalize needC l z ⟨0, 0, 0⟩ tModule = p1 at *
    obtain ⟨m2, p2⟩ := n2
    simp only at e2 e3 h2
    unfold takeC at e4 h4
    cases hi : isC l (headC l z) tImp with
    | true =>
      have r1 := roomStr 1 (by omega)
      rw [hi] at e4 hE h4
      simp only [if_true] at hE h4
      simp only [cB, tModule, tSem, tImp, Int.natCast_zero, if_true] at e1 e2 e3 e4
      have e5 := c152_eq l z _ h4
      have h5 : COk l (nameC l z (stepC (headC l z))).2 := nameC_ok h4
      have hl5 := nameC_le (l := l) (z := z) (p := stepC (headC l z))
      have hst : (stepC (headC l z)).at_ = (headC l z).at_ + 1 := rfl
      generalize hW : firstC l z = W at *
      unfold firstC at hW
      generalize nameC l z (stepC (headC l z)) = n5 at *
      generalize stepC (headC l z) = p4 at *
      generalize headC l z = p3 at *
      obtain ⟨m5, p5⟩ := n5
      simp only [cB] at e5
      simp only at h5 hl5 hW
      have hle : 1 ≤ p5.at_ := by omega
      simp [e150, hz, e1, e2, e3, e4, e5, r1]
      clear e150 e1 e2 e3 e4 e5
      refine lp_ind (fun f t => ∃ (u : CS) (out : List ByteArray) (k : Nat), l.length < u.at_ + f ∧ COk l u ∧ out.length ≤ u.at_ ∧ t.nt = k + 9 ∧ t.nb = 1 ∧ t.e 8 = .ptr 0 0 ∧ t.e 9 = .own (k + 8) ∧ t.B 0 = some (.agg [.own k, .int .i64 z, .int .i64 u.at_, .own (k + 1), .str ⟨#[]⟩, .own (k + 2), .own (k + 3), .own (k + 4), .own (k + 5), .own (k + 6), .int .i64 u.bad, .int .i64 u.pl]) ∧ t.R k = some ⟨4, l.map Tok.v, true⟩ ∧ t.R (k + 1) = some ⟨5, [], true⟩ ∧ t.R (k + 2) = some ⟨1, [], true⟩ ∧ t.R (k + 3) = some ⟨6, [], true⟩ ∧ t.R (k + 4) = some ⟨6, [], true⟩ ∧ t.R (k + 5) = some ⟨2, [], true⟩ ∧ t.R (k + 6) = some ⟨3, [], true⟩ ∧ t.R (k + 8) = some ⟨1, out.map V.str, true⟩ ∧ impC l z f u out = W) (l.length + 1) ⟨p5, [m5], 37, by omega, h5, by simpa using hle, by simp, by simp, by simp, by simp, by simp, by simp, by simp, by simp, by simp, by simp, by simp, by simp, by simp, hW⟩ ?_
      rintro c' L hL f t ih ⟨u, out, k, huf, hu, hol, hn, hnb, g8, g9, gB, q0, q1, q2, q3, q4, q5, q6, q8, hr⟩
      cases f with
      | zero => have := hu.a; omega
      | succ f =>
        have d1 := c153_eq l z _ hu tCom
        unfold takeC at d1
        unfold impC at hr
        cases hc : isC l u tCom with
        | false =>
          rw [hc] at d1 hr
          rw [if_neg (by simp)] at hr
          subst hr
          simp only at hE
          have d2 := c151_eq l z _ hu tSem
          generalize needC l z u tSem = y at *
          simp only [cB, tCom, tSem, if_false, Bool.false_eq_true] at d1 d2
          subst hE
          by_cases hb : 0 < y.bad
          · rw [if_pos hb]
            simp [hL, hn, hnb, g8, g9, gB, q0, q1, q2, q3, q4, q5, q6, q8, d1, d2, hb]
          · rw [if_neg hb]
            simp [hL, hn, hnb, g8, g9, gB, q0, q1, q2, q3, q4, q5, q6, q8, d1, d2, hb]
        | true =>
          have hat := isC_lt hc
          rw [hc] at d1 hr
          rw [if_pos rfl] at hr
          have hu2 : COk l (stepC u) := ⟨hat, hu.b⟩
          have d2 := c152_eq l z _ hu2
          have hu3 : COk l (nameC l z (stepC u)).2 := nameC_ok hu2
          have hl3 := nameC_le (l := l) (z := z) (p := stepC u)
          have hst : (stepC u).at_ = u.at_ + 1 := rfl
          generalize nameC l z (stepC u) = n7 at *
          generalize stepC u = y at *
          obtain ⟨m7, p7⟩ := n7
          simp only [cB, tCom, if_true] at d1 d2
          simp only at hr hl3 hu3
          have hb := hu.b
          have s1 := roomStr 1 (by omega)
          have s2 := roomStr (out.length + 1) (by omega)
          simp [hL, hn, hnb, g8, g9, gB, q0, q1, q2, q3, q4, q5, q6, q8, d1, d2, s1, s2]
          exact ih f _ (by omega) ⟨p7, out ++ [m7], k + 16, by omega, hu3, by simp; omega, by simp [hn], by simp [hnb], by simp [g8], by simp [hn], by simp [hn], by simp [hn], by simp [hn], by simp [hn], by simp [hn], by simp [hn], by simp [hn], by simp [hn], by simp [hn], hr⟩
    | false =>
      rw [hi] at e4 hE
      simp only [if_false, Bool.false_eq_true] at hE
      simp only [cB, tModule, tSem, tImp, Int.natCast_zero, if_false, Bool.false_eq_true] at e1 e2 e3 e4
      generalize headC l z = p3 at *
      subst hE
      by_cases hb : 0 < p3.bad
      · rw [if_pos hb]
        simp [e150, hz, e1, e2, e3, e4, hb]
      · rw [if_neg hb]
        simp [e150, hz, e1, e2, e3, e4, hb]
  · rw [if_neg hc]
    simp [e150, hc]
noncomputable def c97 := ctr (fun s : ByteArray => s.size ≤ 1000000000) (fun s => [.str s]) (fun s => (false, .tup [.inl 1 ((impS s).1.map V.str), .bool (impS s).2]))
theorem c97_eq (s : ByteArray) (h : s.size ≤ 1000000000) : c97 [.str s] = some (false, .tup [.inl 1 ((impS s).1.map V.str), .bool (impS s).2]) := ctr_eq (by simp) s h rfl
theorem c97_ok : COK Tryz.prog (97, c97) := ctr_ok fun n h => f97_ok n h
end Go.TM.Tryz
end
section
namespace Go.TM
open Go
structure PanOK (P : Program) (f : FuncId) (args cs : List V) (a : Ans) (c : List PanicEntry) : Prop where
  has : ∃ fn, P.funcs[f]? = some fn ∧ (fn.name == "runtime.NumGoroutine") = false ∧ fn.body.isNone = false
  calls : ∀ (M : Mem) (W : World) (vs : List Value), MemOK M W (start args cs) → All2 (SR1 M W) (adCs args S.zero).1 vs →
    Calls P f vs.toArray W fun e W' => ∃ M' s', e = .panicked c ∧ Post cs.length a M W M' W' s' (.tup []) (.tuple #[])
theorem call_pan {P : Program} {n : Nat} {M : Mem} {W : World} {s : S} {a : Act} (h : St n M W s a) {o : Oper} {f : FuncId} {args : List V} {vs : List Value} {bs : List Nat} {w : List Bool} {ans : Ans} {c : List PanicEntry} (ha : All2 (SR2 M W) args vs) (hexec : (execOp a.eval o).run P W = .ok (.enter f vs.toArray) W)
    (hok : PanOK P f (argsG s bs w args) (bs.map s.cont) ans c) (hc : (ansR ans bs w args s).c) {K : Act → World → Prop} {Q : Exit → Act → World → Prop}
    (hQ : ∀ M' W', MemOK M' W' (ansR ans bs w args s).s → Evo M W M' W' → Q (.panic c) a W') : o.wp P a W K Q := by
  have hc' := hc
  obtain ⟨c1, c2, c3, c4, c5, c6, c7⟩ := hc'
  have hUt : (given s w args ++ bs.flatMap (boxU s)).map tokU = (given s w args).flatMap tokG ++ bs.flatMap s.boxToks := by
    rw [List.map_append, given_tok]
    congr 1
    have : ∀ l : List Nat, (l.flatMap (boxU s)).map tokU = l.flatMap s.boxToks := by
      intro l
      induction l with
      | nil => rfl
      | cons b l ih => rw [List.flatMap_cons, List.flatMap_cons, List.map_append, ih, boxU_toks]
    exact this bs
  obtain ⟨e1, e2, e3⟩ := enter_ok h.mem ha c1 (fun k hk => List.all_eq_true.1 c2 k hk) (by rw [hUt]; exact c3) (by rw [hUt]; exact c4)
  have hcalls := hok.calls _ W vs e1 e2
  unfold Oper.wp
  rw [hexec]
  refine Calls.mono hcalls ?_
  rintro e W' ⟨M', s', rfl, post⟩
  rw [List.length_map] at post
  obtain ⟨M'', k1, k2, k3⟩ := call_end h hc post e3
  exact hQ M'' W' k1.mem k3
def RgOKP {Γ : Type} (Inv : Γ → Mem → World → Prop) (PK : S → Prop) (c0 : List PanicEntry) (P : Program) (n : Nat) (id : Nat) (ops : Array Oper) (dr : Bool) (r : Rule Γ) : Prop :=
  ∀ s g a W M (K : S → Γ → Prop) (Q : Exit → Act → World → Prop), (∀ s' g' a' W' M', K s' g' → St n M' W' s' a' → Inv g' M' W' → Q .normal a' W') →
    (∀ s' g' a' W' M', PK s' → a'.defers = [] → MemOK M' W' s' → Inv g' M' W' → Q (.panic c0) a' W') → St n M W s a → Inv g M W → r s g K → (Code.region id ops dr).wp P Q a W
section
variable {Γ : Type} {P : Program} {E : Env} {C : Nat → Option (Array Oper → Rule Γ)} {n : Nat} (Inv : Γ → Mem → World → Prop)
def okCXP (PK : S → Prop) (c0 : List PanicEntry) (P : Program) (n : Nat) (C : Nat → Option (Array Oper → Rule Γ)) : Code → Prop
  | .region id ops dr => ∀ r, C id = some r → RgOKP Inv PK c0 P n id ops dr (r ops)
  | .seq a b => okCXP PK c0 P n C a ∧ okCXP PK c0 P n C b
  | .cond _ a b => okCXP PK c0 P n C a ∧ okCXP PK c0 P n C b
  | .block _ c => okCXP PK c0 P n C c
  | .loop c => okCXP PK c0 P n C c
  | _ => True
variable {Inv}
theorem codeX_soundP (env : EnvOK P E) (hI : ∀ g M W M' W', Inv g M W → Evo M W M' W' → Inv g M' W') {PK : S → Prop} {c0 : List PanicEntry} : ∀ (c : Code) (K : X → S → Γ → Prop) (Q : Exit → Act → World → Prop) (s : S) (g : Γ) (a : Act) (W : World) (M : Mem),
    okC E n c = true → okCXP Inv PK c0 P n C c → (∀ x s' g' a' W' M', K x s' g' → St n M' W' s' a' → Inv g' M' W' → Q (toExit x) a' W') →
    (∀ s' g' a' W' M', PK s' → a'.defers = [] → MemOK M' W' s' → Inv g' M' W' → Q (.panic c0) a' W') → St n M W s a → Inv g M W → codeX E C c s g K → c.wp P Q a W := by
  intro c
  induction c with
  | skip => intro K Q s g a W M hok hx hK hP h hi hw; exact wp_skip (hK .normal s g a W M hw h hi)
  | region id ops dr =>
    intro K Q s g a W M hok hx hK hP h hi hw
    simp only [codeX] at hw
    split at hw
    · rename_i r hr
      exact hx r hr s g a W M _ Q (fun s' g' a' W' M' h1 h2 h3 => hK .normal s' g' a' W' M' h1 h2 h3) hP h hi hw
    · exact code_sound env (M0 := M) (W0 := W) _ _ Q s a W M hok (fun x s' a' W' M' h1 h2 h3 => hK x s' g a' W' M' h1 h2 (hI _ _ _ _ _ hi h3)) h (Evo.refl _ _) hw
  | seq x y ihx ihy =>
    intro K Q s g a W M hok hx hK hP h hi hw
    simp only [okC, Bool.and_eq_true] at hok
    refine wp_seq (ihx _ _ s g a W M hok.1 hx.1 (fun e s' g' a' W' M' h1 h2 h3 => ?_) (fun s' g' a' W' M' h1 h2 h3 h4 => ?_) h hi hw)
    · cases e with
      | normal => exact ihy K Q s' g' a' W' M' hok.2 hx.2 hK hP h2 h3 h1
      | exit id => exact hK (.exit id) s' g' a' W' M' h1 h2 h3
      | ret => exact hK .ret s' g' a' W' M' h1 h2 h3
    · exact hP s' g' a' W' M' h1 h2 h3 h4
  | cond c x y ihx ihy =>
    intro K Q s g a W M hok hx hK hP h hi hw
    simp only [okC, Bool.and_eq_true] at hok
    simp only [codeX] at hw
    split at hw
    · rename_i v hv
      have hc : a.eval c = .bool v := by
        have := opnd_sound h hok.1.1 hw.1
        rw [hv] at this
        exact this
      refine wp_cond hc ?_
      cases v with
      | true => exact ihx K Q s g a W M hok.1.2 hx.1 hK hP h hi (by simpa using hw.2)
      | false => exact ihy K Q s g a W M hok.2 hx.2 hK hP h hi (by simpa using hw.2)
    · rename_i hv
      have hc : ∃ b, a.eval c = .bool b := by
        have := opnd_sound h hok.1.1 hw.1
        rw [hv] at this
        exact this
      obtain ⟨b, hc⟩ := hc
      refine wp_cond hc ?_
      cases b with
      | true => exact ihx K Q s g a W M hok.1.2 hx.1 hK hP h hi hw.2.1
      | false => exact ihy K Q s g a W M hok.2 hx.2 hK hP h hi hw.2.2
    · exact hw.elim
  | block id x ih =>
    intro K Q s g a W M hok hx hK hP h hi hw
    refine wp_block (ih _ _ s g a W M hok hx (fun e s' g' a' W' M' h1 h2 h3 => ?_) (fun s' g' a' W' M' h1 h2 h3 h4 => ?_) h hi hw)
    · cases e with
      | normal => exact hK .normal s' g' a' W' M' h1 h2 h3
      | exit id' =>
        simp only [toExit, Exit.inBlock]
        by_cases e : id' = id
        · subst e
          simp only [if_true] at h1 ⊢
          exact hK .normal s' g' a' W' M' h1 h2 h3
        · simp only [e, if_false] at h1 ⊢
          exact hK (.exit id') s' g' a' W' M' h1 h2 h3
      | ret => exact hK .ret s' g' a' W' M' h1 h2 h3
    · exact hP s' g' a' W' M' h1 h2 h3 h4
  | loop x ih =>
    intro K Q s g a W M hok hx hK hP h hi hw
    refine wp_loop_go ?_
    refine hw (fun s g => ∀ a W M, St n M W s a → Inv g M W → LoopGo P x Q a W) (fun s' g' hs' a W M h hi => ?_) a W M h hi
    refine loopGo_step (ih _ _ s' g' a W M hok hx (fun e s'' g'' a' W' M' h1 h2 h3 => ?_) (fun s'' g'' a' W' M' h1 h2 h3 h4 => ?_) h hi hs')
    · cases e with
      | normal => exact h1 a' W' M' h2 h3
      | exit id => exact hK (.exit id) s'' g'' a' W' M' h1 h2 h3
      | ret => exact hK .ret s'' g'' a' W' M' h1 h2 h3
    · exact hP s'' g'' a' W' M' h1 h2 h3 h4
  | exit id => intro K Q s g a W M hok hx hK hP h hi hw; exact wp_exit (hK (.exit id) s g a W M hw h hi)
  | ret => intro K Q s g a W M hok hx hK hP h hi hw; exact wp_ret (hK .ret s g a W M hw h hi)
  | _ => intro K Q s g a W M hok hx hK hP h hi hw; exact hw.elim
end
theorem opsX_rest {Γ : Type} {P : Program} {E : Env} {n : Nat} {Inv : Γ → Mem → World → Prop} (env : EnvOK P E) (hI : ∀ g M W M' W', Inv g M W → Evo M W M' W' → Inv g M' W') {all : Array Oper} (hall : all.toList.all (okO n) = true) {K : S → Γ → Prop} {Q : Exit → Act → World → Prop} {R : List Nat}
    (hK : ∀ s' g' a' W' M', K s' g' → St n M' W' s' a' → Inv g' M' W' → wpOps P all Q R a' W') :
    ∀ (os : List Oper) (k : Nat) (s : S) (g : Γ) (a : Act) (W : World) (M : Mem), (∀ j, j < os.length → os[j]? = all[k + j]?) → St n M W s a → Inv g M W → opsX E (fun _ => none) all k os s g K → wpOps P all Q (List.range' k os.length ++ R) a W
  | [], _, s, g, a, W, M, _, h, hi, hw => by simpa using hK s g a W M hw h hi
  | o :: os, k, s, g, a, W, M, hl, h, hi, hw => by
    have h0 : all[k]? = some o := by simpa using (hl 0 (by simp)).symm
    have hok : okO n o = true := okO_at hall h0
    have hl' : ∀ j, j < os.length → os[j]? = all[(k + 1) + j]? := fun j hj => by
      have := hl (j + 1) (by simpa using hj)
      simpa [Nat.add_assoc, Nat.add_comm 1 j] using this
    have ihh := opsX_rest env hI hall hK os (k + 1)
    simp only [List.length_cons, List.range'_succ, List.cons_append, wpOps, h0]
    simp only [opsX] at hw
    rcases up env hall h hok hw with ⟨h1, s', h2, h3⟩ | ⟨h1, h2⟩
    · rw [h1]
      exact ihh s' g _ W M hl' h3 hi h2
    · rw [h1, if_pos rfl]
      left
      rcases h2 with ⟨val, M', s', h2, h3, h4, -, h5⟩ | ⟨-, h2⟩
      · exact wp_of_quietAt h2 fun w hw => ihh s' g _ w M' hl' (h3.cls hw) (hI _ _ _ _ _ hi (h4.trans (hw.evo M'))) h5
      · exact Oper.wp_mono (fun a' W' ⟨val, M', s', _, h3, h4, h5⟩ => ihh s' g a' W' M' hl' h3 (hI _ _ _ _ _ hi h4) h5) (h2 Q)
def panR (pc : List V → List V → Option Ans) (w : List Bool) (args : List V) (s : S) : R :=
  match pc (argsG s (args.flatMap boxes2) w args) ((args.flatMap boxes2).map s.cont) with
  | some a => ansR a (args.flatMap boxes2) w args s
  | none => .no s
def panW (pc : List V → List V → Option Ans) (w : List Bool) (us : List Operand) (PK : S → Prop) (s : S) : Prop :=
  needs true s us ∧ (panR pc w (us.map (opnd s)) s).c ∧ PK (panR pc w (us.map (opnd s)) s).s
def onlyN {Γ : Type} (K : S → Γ → Prop) (g : Γ) : X → S → Prop
  | .normal, s => K s g
  | _, _ => False
@[simp] theorem onlyN_normal {Γ : Type} (K : S → Γ → Prop) (g : Γ) (s : S) : onlyN K g .normal s = K s g := rfl
def rPan {Γ : Type} (E : Env) (id j : Nat) (pc : List V → List V → Option Ans) (w : List Bool) (us : List Operand) (PK : S → Prop) (ops : Array Oper) : Rule Γ := fun s g K =>
  kont E [.code (.region id ops false)] (onlyN K g) .normal s ∨ opsXK E (fun _ => none : Nat → Option (Rule Γ)) ops (fun s' _ => panW pc w us PK s') 0 (ops.toList.take j) s g
theorem rPan_ok {Γ : Type} {P : Program} {E : Env} {n : Nat} {Inv : Γ → Mem → World → Prop} (env : EnvOK P E) (hI : ∀ g M W M' W', Inv g M W → Evo M W M' W' → Inv g M' W') {id j f : Nat} {pc : List V → List V → Option Ans} {w : List Bool} {us : List Operand} {PK : S → Prop} {c0 : List PanicEntry} {all : Array Oper}
    (hall : all.toList.all (okO n) = true) (hok : okC E n (.region id all false) = true) (hop : ∃ o c, all[j]? = some o ∧ o.guard = none ∧ o.op = .call c ∧ c.callee = .value (.func f) ∧ c.args.toList = us)
    (hC : ∀ args cs a, pc args cs = some a → PanOK P f args cs a c0) : RgOKP Inv PK c0 P n id all false (rPan E id j pc w us PK all) := by
  intro s g a W M K Q hK hP h hi hw
  rcases hw with hw | hw
  · exact code_sound env (M0 := M) (W0 := W) (.region id all false) (onlyN K g) Q s a W M hok (fun x s' a' W' M' h1 h2 h3 => by
      cases x with
      | normal => exact hK s' g a' W' M' h1 h2 (hI _ _ _ _ _ hi h3)
      | exit id' => exact h1.elim
      | ret => exact h1.elim) h (Evo.refl _ _) hw
  · refine wp_region ?_
    obtain ⟨o, c, h1, h2, h3, h4, rfl⟩ := hop
    have hj : j < all.size := by
      rw [Array.getElem?_eq_some_iff] at h1
      exact h1.1
    have hlen : (all.toList.take j).length = j := by simp; omega
    have key := opsX_rest (R := List.range' j (all.size - j)) (Q := Q) (K := fun s' _ => panW pc w c.args.toList PK s') env hI hall (fun s' g' a' W' M' hp hst hi' => ?_) (all.toList.take j) 0 s g a W M (fun i hi => by
      rw [hlen] at hi
      simp [List.getElem?_take, hi]) h hi hw
    · rw [hlen] at key
      have e : List.range' 0 j ++ List.range' j (all.size - j) = List.range all.size := by
        rw [List.range_eq_range']
        have := List.range'_append_1 (s := 0) (m := j) (n := all.size - j)
        rw [Nat.zero_add] at this
        rw [this]
        congr 1
        omega
      rwa [e] at key
    · obtain ⟨hn, hc, hpk⟩ := hp
      have hok1 : okO n o = true := okO_at hall h1
      simp only [okO, Bool.and_eq_true] at hok1
      have hargs : c.args.toList.all (okOp n) = true := by
        refine List.all_eq_true.2 fun u hu => List.all_eq_true.1 hok1.1 u ?_
        rw [h3]
        simp only [Op.operands, Call.operands, h4]
        simp
        first | exact .inr (by simpa using hu) | exact (by simpa using hu)
      have ha := opnds_sound hst hargs hn
      have e1 : all.size - j = (all.size - j - 1) + 1 := by omega
      rw [e1, List.range'_succ]
      simp only [wpOps, h1]
      have hwant : Region.wanted o (yielded all a'.tmps) = true := by simp [Region.wanted, h2]
      rw [hwant, if_pos rfl]
      left
      unfold panR at hc hpk
      split at hc
      · rename_i ans hpc
        rw [hpc] at hpk
        simp only at hpk
        have hokc := hC _ _ _ hpc
        have hrun := run_callv (P := P) h3 h4 (show a'.eval (.func f) = .func (.func f) #[] ([] : List Value).toArray from rfl) hokc.has W'
        rw [List.append_nil] at hrun
        exact call_pan hst ha hrun hokc hc fun M2 W2 hm hev => hP _ g' a' W2 M2 hpk hst.defers hm (hI _ _ _ _ _ hi' hev)
      · exact hc.elim
theorem fun_pan {P : Program} {E : Env} (env : EnvOK P E) {f : FuncId} {fn : Func} (hf : P.funcs[f]? = some fn) {args cs : List V} (hB : funB E fn args.length = true) {c : Code} (hb : fn.body = some c) {C : Nat → Option (Array Oper → Rule Unit)} {ans : Ans} {c0 : List PanicEntry}
    (hx : ∀ Inv : Unit → Mem → World → Prop, (∀ g M W M' W', Inv g M W → Evo M W M' W' → Inv g M' W') → okCXP Inv (EndsQ E [] cs.length ans .ret) c0 P fn.ntmps C c)
    (h : kontX E C [.code c] (fun _ _ _ => False) .normal (start args cs) ()) : PanOK P f args cs ans c0 where
  has := by
    simp only [funB, Bool.and_eq_true, decide_eq_true_eq, Bool.not_eq_true'] at hB
    exact ⟨fn, hf, hB.1.1.1, by simp [hb]⟩
  calls M W vs hm ha := by
    simp only [funB, Bool.and_eq_true, decide_eq_true_eq, Bool.not_eq_true'] at hB
    obtain ⟨⟨⟨h1, h2⟩, h3⟩, h4⟩ := hB
    rw [hb] at h2
    refine calls_of_wp hf hb ?_
    refine codeX_soundP (Inv := fun _ M' W' => Evo M W M' W') env (fun g M1 W1 M2 W2 k1 k2 => k1.trans k2) c (fun _ _ _ => False) _ (start args cs) () _ W M h2 (hx _ (fun g M1 W1 M2 W2 k1 k2 => k1.trans k2)) (fun x s' g' a' W' M' hx' => hx'.elim) ?_ (start_St hm ha (by rw [← ha.length, adCs_length]; exact h3)) (Evo.refl _ _) h
    intro s' g' a' W' M' hpk hd hm' hev
    obtain ⟨⟨hc, hnd, hbn, hsh, hB⟩, houts, hboxes, hr⟩ := hpk
    exact ⟨hd, M', s', rfl, ⟨[], rfl, trivial⟩, hm', hev, hnd, hbn, hsh, hB, houts, hboxes, hr⟩
end Go.TM
end
section
namespace Go.TM
open Go
def fault (ty : TypeId) (a b : Int) : List PanicEntry := [{ v := .iface ty (.agg #[.int .i64 a, .int .i64 b]), recovered := false }]
theorem run_pan_iface {P : Program} (t : TypeId) (v : Value) (w : World) : (Instr.panic (.iface t v)).run P w = .halt (.panic (.iface t v)) w := rfl
def stopW (x : Tmp) (a b : Int) (PK : S → Prop) (s : S) : Prop := needs true s [.tmp x] ∧ opnd s (.tmp x) = .agg [.int .i64 a, .int .i64 b] ∧ PK s
def rStop {Γ : Type} (E : Env) (j : Nat) (x : Tmp) (a b : Int) (PK : S → Prop) (ops : Array Oper) : Rule Γ := fun s g K =>
  opsXK E (fun _ => none : Nat → Option (Rule Γ)) ops (fun s' _ => stopW x a b PK s') 0 (ops.toList.take j) s g
theorem rStop_ok {Γ : Type} {P : Program} {E : Env} {n : Nat} {Inv : Γ → Mem → World → Prop} (env : EnvOK P E) (hI : ∀ g M W M' W', Inv g M W → Evo M W M' W' → Inv g M' W') {id j : Nat} {x d : Tmp} {ty : TypeId} {va vb : Int} {PK : S → Prop} {all : Array Oper}
    (hall : all.toList.all (okO n) = true) (hop : ∃ o o2, all[j]? = some o ∧ o.guard = none ∧ o.op = .makeInterface ty (.tmp x) ∧ o.dst = some d ∧ all[j + 1]? = some o2 ∧ o2.guard = none ∧ o2.op = .panic (.tmp d))
    (hmi : ∀ v w, (Instr.makeInterface ty v).run P w = .ok (.iface ty v) w) (hd : d < n) : RgOKP Inv PK (fault ty va vb) P n id all false (rStop E j x va vb PK all) := by
  intro s g a W M K Q hK hP h hi hw
  refine wp_region ?_
  obtain ⟨o, o2, h1, h2, h3, h3d, h4, h5, h6⟩ := hop
  have hj : j + 1 < all.size := by
    rw [Array.getElem?_eq_some_iff] at h4
    exact h4.1
  have hlen : (all.toList.take j).length = j := by simp; omega
  have key := opsX_rest (R := List.range' j (all.size - j)) (Q := Q) (K := fun s' _ => stopW x va vb PK s') env hI hall (fun s' g' a' W' M' hp hst hi' => ?_) (all.toList.take j) 0 s g a W M (fun i hi => by
    rw [hlen] at hi
    simp [hi]) h hi hw
  · rw [hlen] at key
    have e : List.range' 0 j ++ List.range' j (all.size - j) = List.range all.size := by
      rw [List.range_eq_range']
      have := List.range'_append_1 (s := 0) (m := j) (n := all.size - j)
      rw [Nat.zero_add] at this
      rw [this]
      congr 1
      omega
    rwa [e] at key
  · obtain ⟨hn, hv, hpk⟩ := hp
    have hok1 : okO n o = true := okO_at hall h1
    simp only [okO, Bool.and_eq_true] at hok1
    have hx : okOp n (.tmp x) = true := List.all_eq_true.1 hok1.1 _ (by rw [h3]; simp [Op.operands])
    have hrel := opnd_sound hst hx (needs_cons.1 hn).1
    rw [hv] at hrel
    have hval : a'.eval (.tmp x) = .agg #[.int .i64 va, .int .i64 vb] := by
      obtain ⟨vs, e, hvs⟩ := hrel
      rw [e]
      match vs, hvs with
      | [p, q], hvs =>
        obtain ⟨r1, r2, -⟩ := hvs
        have r1' : p = .int .i64 va := r1
        have r2' : q = .int .i64 vb := r2
        rw [r1', r2']
    have e1 : all.size - j = (all.size - j - 2) + 1 + 1 := by omega
    rw [e1, List.range'_succ, List.range'_succ]
    simp only [wpOps, h1, h4]
    have hwant : Region.wanted o (yielded all a'.tmps) = true := by simp [Region.wanted, h2]
    rw [hwant, if_pos rfl]
    left
    have hex : (execOp a'.eval o).run P W' = .ok (.value (.iface ty (.agg #[.int .i64 va, .int .i64 vb]))) W' := by
      simp only [execOp, h3, hval]
      rw [Sem.run_bind, hmi]
      rfl
    unfold Oper.wp
    rw [hex]
    rw [Oper.upon_value]
    have hwant2 : ∀ a : Act, Region.wanted o2 (yielded all a.tmps) = true := fun a => by simp [Region.wanted, h5]
    rw [hwant2, if_pos rfl]
    left
    have hev : (a'.put o.dst (.iface ty (.agg #[.int .i64 va, .int .i64 vb]))).eval (.tmp d) = .iface ty (.agg #[.int .i64 va, .int .i64 vb]) := by
      rw [h3d]
      have hs : d < a'.tmps.size := by rw [hst.size]; exact hd
      simp [Act.eval, Act.put, hs]
    have hex2 : (execOp (a'.put o.dst (.iface ty (.agg #[.int .i64 va, .int .i64 vb]))).eval o2).run P W' = .halt (.panic (.iface ty (.agg #[.int .i64 va, .int .i64 vb]))) W' := by
      simp only [execOp, h6, hev]
      rw [Sem.run_bind, run_pan_iface]
      rfl
    rw [hex2, Oper.upon_panic]
    refine hP s' g' _ W' M' hpk ?_ hst.mem hi'
    rw [h3d]
    exact hst.defers
end Go.TM
end
section
set_option maxHeartbeats 16000000
set_option maxRecDepth 20000
namespace Go.TM
open Go
structure KS where
  at_ : Nat
  name : ByteArray
  imps : List ByteArray
def seesK (l : List Tok) (p : KS) (k : Int) (ts : List ByteArray) : Bool := seesB l ⟨p.at_, 0⟩ k ts
def stepK (p : KS) : KS := ⟨p.at_ + 1, p.name, p.imps⟩
def takeK (l : List Tok) (p : KS) (k : Int) (ts : List ByteArray) : KS := if seesK l p k ts = true then stepK p else p
end Go.TM
namespace Go.TM.Tryz
open Go Go.TM Go.Proofs
@[simp] def kB (l : List Tok) (z : Int) (p : KS) : V := .agg [.inl 4 (l.map Tok.v), .int .i64 p.at_, .int .i64 0, .inl 5 [], .str p.name, .inl 1 (p.imps.map V.str), .inl 6 [], .inl 6 [], .inl 2 [], .int .i64 z, .inl 3 []]
@[simp] def kR (l : List Tok) (z : Int) (p : KS) : V := .agg [.lst (l.map Tok.v), .int .i64 p.at_, .int .i64 0, .lst [], .str p.name, .lst (p.imps.map V.str), .lst [], .lst [], .lst [], .int .i64 z, .lst []]
structure KOk (l : List Tok) (p : KS) : Prop where
  a : p.at_ ≤ l.length
  b : l.length ≤ 1048576
theorem KS.ext' {x y : KS} (h1 : x.at_ = y.at_) (h2 : x.name = y.name) (h3 : x.imps = y.imps) : x = y := by
  cases x; cases y; simp_all
theorem f94k_ok (l : List Tok) (z : Int) (p : KS) (h : KOk l p) (k : Int) (ts : List ByteArray) (hts : ts.length ≤ lim) :
    FunOK Tryz.prog 94 [.ladr [kR l z p] 0 0, .int .i64 k, .lst (ts.map .str)] false (.bool (seesK l p k ts)) := by
  refine fun_ok (mkE_ok zmix (cl := [(118, c118)]) (gl := []) [] c118_ok trivial) Tryz.func94 (by kernel_rfl) ?_
  refine FunW_run _ _ rfl rfl ?_
  obtain ⟨p, nm, im⟩ := p
  have hs := h.a
  simp only at hs
  unfold seesK seesB
  cases hx : l[p]? with
  | none =>
    have hp : ¬ (p : Int) < l.length := by
      rw [List.getElem?_eq_none_iff] at hx
      omega
    simp [-getElem?_pos, gcz, gcs, hx, hp, c118_bad, aftQ_bad2]
  | some t =>
    have hlt : p < l.length := (List.getElem?_eq_some_iff.1 hx).1
    have hp : (p : Int) < l.length := by omega
    have e118 := c118_eq ts t.text hts
    by_cases hk : t.kind = k
    · cases ts with
      | nil =>
        simp only [List.map_nil] at e118
        simp [-getElem?_pos, gcz, gcs, hx, hp, hlt, hk, e118]
      | cons x r =>
        have hn : ¬ ((r.length : Int) + 1 = 0) := by omega
        simp only [List.map_cons] at e118
        simp [-getElem?_pos, gcz, gcs, hx, hp, hlt, hk, e118, hn]
    · cases ts with
      | nil =>
        simp only [List.map_nil] at e118
        simp [-getElem?_pos, gcz, gcs, hx, hp, hlt, hk, e118]
      | cons x r =>
        have hn : ¬ ((r.length : Int) + 1 = 0) := by omega
        simp only [List.map_cons] at e118
        simp [-getElem?_pos, gcz, gcs, hx, hp, hlt, hk, e118, hn]
theorem injK1 {l : List Tok} {z : Int} {β : Type} (out : KS × Int × List ByteArray → β) : ∀ x y : KS × Int × List ByteArray, ([V.ladr [kR l z x.1] 0 0, .int .i64 x.2.1, .lst (x.2.2.map .str)] : List V) = [.ladr [kR l z y.1] 0 0, .int .i64 y.2.1, .lst (y.2.2.map .str)] → out x = out y := by
  rintro ⟨x, i, ts⟩ ⟨y, k, us⟩ h
  simp only [List.cons.injEq, and_true, true_and, kR, V.agg.injEq, V.int.injEq, V.ladr.injEq, V.lst.injEq, V.str.injEq] at h
  have h1 : x = y := KS.ext' (by omega) h.1.2.1 (strs_inj h.1.2.2)
  rw [h1, h.2.1, strs_inj h.2.2]
noncomputable def k94 (l : List Tok) (z : Int) := ctr (fun a : KS × Int × List ByteArray => KOk l a.1 ∧ a.2.2.length ≤ lim) (fun a => [.ladr [kR l z a.1] 0 0, .int .i64 a.2.1, .lst (a.2.2.map .str)]) (fun a => (false, .bool (seesK l a.1 a.2.1 a.2.2)))
theorem k94_eq (l : List Tok) (z : Int) (p : KS) (h : KOk l p) (k : Int) (ts : List ByteArray) (ht : ts.length ≤ lim) : k94 l z [.ladr [kR l z p] 0 0, .int .i64 k, .lst (ts.map .str)] = some (false, .bool (seesK l p k ts)) := ctr_eq (injK1 _) (p, k, ts) ⟨h, ht⟩ rfl
theorem k94_ok (l : List Tok) (z : Int) : COK Tryz.prog (94, k94 l z) := ctr_ok fun a h => f94k_ok l z a.1 h.1 a.2.1 a.2.2 h.2
theorem injK3 {l : List Tok} {z : Int} {β : Type} (out : KS × Int × List ByteArray → β) : ∀ x y : KS × Int × List ByteArray, (([V.ptr 0 0, .int .i64 x.2.1, .lst (x.2.2.map .str)], [kB l z x.1]) : List V × List V) = ([.ptr 0 0, .int .i64 y.2.1, .lst (y.2.2.map .str)], [kB l z y.1]) → out x = out y := by
  rintro ⟨x, i, ts⟩ ⟨y, k, us⟩ h
  simp only [Prod.mk.injEq, List.cons.injEq, and_true, true_and, kB, V.agg.injEq, V.int.injEq, V.lst.injEq, V.inl.injEq, V.str.injEq] at h
  have h1 : x = y := KS.ext' (by omega) h.2.2.1 (strs_inj h.2.2.2)
  rw [h1, h.1.1, strs_inj h.1.2]
theorem f149k_ok (l : List Tok) (z : Int) (p : KS) (h : KOk l p) (k : Int) (ts : List ByteArray) (ht : ts.length ≤ lim) : GenOK Tryz.prog 149 [.ptr 0 0, .int .i64 k, .lst (ts.map .str)] [kB l z p] ⟨true, .bool (seesK l p k ts), [], [kB l z (takeK l p k ts)]⟩ := by
  refine fun_okG (mkE_ok zmix (cl := [(94, k94 l z)]) (gl := []) [] (k94_ok l z) trivial) Tryz.func149 (by kernel_rfl) ?_
  refine FunG_run _ _ rfl rfl ?_
  have e94 := k94_eq l z p h k ts ht
  unfold takeK stepK
  obtain ⟨p, nm, im⟩ := p
  obtain ⟨ha, hb⟩ := h
  simp only at ha
  have w : IntKind.i64.wrap ((p : Int) + 1) = ((p + 1 : Nat) : Int) := (wrap64 (by omega) (by omega)).trans (by omega)
  simp only [kR] at e94
  cases hs : seesK l ⟨p, nm, im⟩ k ts with
  | true =>
    rw [hs] at e94
    simp [e94, w]
  | false =>
    rw [hs] at e94
    simp [e94]
noncomputable def k149 (l : List Tok) (z : Int) := ctrG (fun a : KS × Int × List ByteArray => KOk l a.1 ∧ a.2.2.length ≤ lim) (fun a => ([.ptr 0 0, .int .i64 a.2.1, .lst (a.2.2.map .str)], [kB l z a.1])) (fun a => ⟨true, .bool (seesK l a.1 a.2.1 a.2.2), [], [kB l z (takeK l a.1 a.2.1 a.2.2)]⟩)
theorem k149_eq (l : List Tok) (z : Int) (p : KS) (h : KOk l p) (k : Int) (ts : List ByteArray) (ht : ts.length ≤ lim) : k149 l z [.ptr 0 0, .int .i64 k, .lst (ts.map .str)] [kB l z p] = some ⟨true, .bool (seesK l p k ts), [], [kB l z (takeK l p k ts)]⟩ := ctrG_eq (injK3 _) (p, k, ts) ⟨h, ht⟩ rfl
theorem k149_ok (l : List Tok) (z : Int) : GOK Tryz.prog (149, [], k149 l z) := ctrG_ok fun a h => f149k_ok l z a.1 h.1 a.2.1 a.2.2 h.2
theorem f238_ok (l : List Tok) (z : Int) (p : KS) (h : KOk l p) (a : Nat) : FunOK Tryz.prog 238 [.ladr [kR l z p] 0 0, .int .i64 a] false (.int .i64 (placeS l z a)) := by
  refine fun_ok (mkE_ok zmix (cl := []) (gl := []) [] trivial trivial) Tryz.func238 (by kernel_rfl) ?_
  refine FunW_run _ _ rfl rfl ?_
  unfold placeS
  cases hx : l[a]? with
  | none =>
    have hp : (l.length : Int) ≤ a := by
      rw [List.getElem?_eq_none_iff] at hx
      omega
    simp [-getElem?_pos, gcz, gcs, hx, hp]
  | some t =>
    have hlt : a < l.length := (List.getElem?_eq_some_iff.1 hx).1
    have hp : ¬ (l.length : Int) ≤ a := by omega
    simp [-getElem?_pos, gcz, gcs, hx, hp, hlt]
theorem injK2 {l : List Tok} {z : Int} {β : Type} (out : KS × Nat → β) : ∀ x y : KS × Nat, ([V.ladr [kR l z x.1] 0 0, .int .i64 x.2] : List V) = [.ladr [kR l z y.1] 0 0, .int .i64 y.2] → out x = out y := by
  rintro ⟨x, i⟩ ⟨y, k⟩ h
  simp only [List.cons.injEq, and_true, true_and, kR, V.agg.injEq, V.int.injEq, V.ladr.injEq, V.lst.injEq, V.str.injEq] at h
  have h1 : x = y := KS.ext' (by omega) h.1.2.1 (strs_inj h.1.2.2)
  rw [h1, show i = k by omega]
noncomputable def k238 (l : List Tok) (z : Int) := ctr (fun a : KS × Nat => KOk l a.1) (fun a => [.ladr [kR l z a.1] 0 0, .int .i64 a.2]) (fun a => (false, .int .i64 (placeS l z a.2)))
theorem k238_eq (l : List Tok) (z : Int) (p : KS) (h : KOk l p) (a : Nat) : k238 l z [.ladr [kR l z p] 0 0, .int .i64 a] = some (false, .int .i64 (placeS l z a)) := ctr_eq (injK2 _) (p, a) h rfl
theorem k238_ok (l : List Tok) (z : Int) : COK Tryz.prog (238, k238 l z) := ctr_ok fun a h => f238_ok l z a.1 h a.2
end Go.TM.Tryz
end
section
set_option maxHeartbeats 16000000
set_option maxRecDepth 20000
namespace Go.TM.Tryz
open Go Go.TM Go.Proofs
theorem und193 : (match Tryz.prog.underlying 193 with | some (.interface _) => false | some _ => true | none => false) = true := by kernel_rfl
theorem mi193 (v : Value) (w : World) : (Instr.makeInterface 193 v).run Tryz.prog w = .ok (.iface 193 v) w := by
  have h := und193
  cases hu : Tryz.prog.underlying 193 with
  | none => rw [hu] at h; cases h
  | some d =>
    rw [hu] at h
    unfold Instr.makeInterface
    rw [Sem.run_bind, run_underlying hu]
    cases d <;> first | rfl | cases h
@[simp] theorem rStop_eq {Γ : Type} (E : Env) (j : Nat) (x : Tmp) (a b : Int) (PK : S → Prop) (ops : Array Oper) (s : S) (g : Γ) (K : S → Γ → Prop) : rStop E j x a b PK ops s g K = opsXK E (fun _ => none : Nat → Option (Rule Γ)) ops (fun s' _ => stopW x a b PK s') 0 (ops.toList.take j) s g := rfl
theorem f202_pan (l : List Tok) (z : Int) (p : KS) (h : KOk l p) (a : Nat) : PanOK Tryz.prog 202 [.ptr 0 0, .bool true, .int .i64 20, .int .i64 a] [kB l z p] ⟨false, .tup [], [], [kB l z p]⟩ (fault 193 20 (placeS l z a)) := by
  have e := k238_eq l z p h a
  have env := mkE_ok zmix (P := Tryz.prog) (cl := [(238, k238 l z)]) (gl := []) [] (k238_ok l z) trivial
  refine fun_pan (C := fun id => if id = 1 then some (rStop (mkE Tryz.prog [(238, k238 l z)] [] []) 5 13 20 (placeS l z a) (EndsQ (mkE Tryz.prog [(238, k238 l z)] [] []) [] 1 ⟨false, .tup [], [], [kB l z p]⟩ .ret)) else none) env Tryz.func202 (by kernel_rfl) rfl ?_ ?_
  · intro Inv hI
    refine ⟨fun r hr => by simp at hr, ?_, trivial⟩
    intro r hr
    simp only [if_true, Option.some.injEq] at hr
    subst hr
    exact rStop_ok env hI (by kernel_rfl) ⟨_, _, rfl, rfl, rfl, rfl, rfl, rfl, rfl⟩ mi193 (by decide)
  · obtain ⟨i, nm, im⟩ := p
    simp only [kR] at e
    simp [e, stopW]
noncomputable def p202 (l : List Tok) (z : Int) (p : KS) (a : Nat) : List V → List V → Option Ans := ctrG (fun _ : Unit => True) (fun _ => ([.ptr 0 0, .bool true, .int .i64 20, .int .i64 a], [kB l z p])) (fun _ => ⟨false, .tup [], [], [kB l z p]⟩)
theorem p202_eq (l : List Tok) (z : Int) (p : KS) (a : Nat) : p202 l z p a [.ptr 0 0, .bool true, .int .i64 20, .int .i64 a] [kB l z p] = some ⟨false, .tup [], [], [kB l z p]⟩ := ctrG_eq (fun _ _ _ => rfl) () trivial rfl
end Go.TM.Tryz
end
section
set_option maxHeartbeats 16000000
set_option maxRecDepth 20000
namespace Go.TM
open Go
theorem ctrP_ok {α : Type} {p : α → Prop} {enc : α → List V × List V} {out : α → Ans} {P : Program} {f : FuncId} {c0 : List PanicEntry} (hf : ∀ a, p a → PanOK P f (enc a).1 (enc a).2 (out a) c0) : ∀ args cs a, ctrG p enc out args cs = some a → PanOK P f args cs a c0 := by
  intro args cs ans h
  unfold ctrG at h
  split at h
  · rename_i hh
    have h1 := hf hh.choose hh.choose_spec.1
    rw [hh.choose_spec.2] at h1
    cases h
    exact h1
  · cases h
end Go.TM
namespace Go.TM.Tryz
open Go Go.TM Go.Proofs
theorem seesK_lt {l : List Tok} {p : KS} {k : Int} {ts : List ByteArray} (h : seesK l p k ts = true) : p.at_ < l.length := by
  unfold seesK seesB at h
  cases hx : l[p.at_]? with
  | none => simp only at h; rw [hx] at h; simp at h
  | some t => exact (List.getElem?_eq_some_iff.1 hx).1
def textK (l : List Tok) (p : KS) : ByteArray := (l.getD p.at_ Tok.zero).text
theorem f201_ok (l : List Tok) (z : Int) (p : KS) (h : KOk l p) (k : Int) (ts : List ByteArray) (ht : ts.length ≤ lim) (hs : seesK l p k ts = true) : GenOK Tryz.prog 201 [.ptr 0 0, .int .i64 k, .lst (ts.map .str)] [kB l z p] ⟨true, .str (textK l p), [], [kB l z (stepK p)]⟩ := by
  refine fun_okG (mkE_ok zmix (cl := []) (gl := [(149, [], k149 l z)]) [] trivial (k149_ok l z)) Tryz.func201 (by kernel_rfl) ?_
  refine FunG_run _ _ rfl rfl ?_
  have e := k149_eq l z p h k ts ht
  have hlt := seesK_lt hs
  unfold takeK at e
  rw [hs, if_pos rfl] at e
  unfold textK stepK at *
  obtain ⟨a, nm, im⟩ := p
  obtain ⟨ha, hb⟩ := h
  simp only at ha hlt
  obtain ⟨v, hv⟩ : ∃ v, v = a + 1 := ⟨_, rfl⟩
  have w2 : IntKind.i64.wrap ((v : Int) - 1) = (a : Int) := (wrap64 (by omega) (by omega)).trans (by omega)
  rw [← hv] at e
  simp only [← hv]
  have hx : l[a]? = some (l.getD a Tok.zero) := by simp [List.getElem?_eq_getElem hlt]
  generalize l.getD a Tok.zero = t at *
  simp only [kB] at e
  simp [-getElem?_pos, gcz, gcs, e, w2, hx, hlt]
@[simp] theorem rPan_eq {Γ : Type} (E : Env) (id j : Nat) (pc : List V → List V → Option Ans) (w : List Bool) (us : List Operand) (PK : S → Prop) (ops : Array Oper) (s : S) (g : Γ) (K : S → Γ → Prop) :
    rPan E id j pc w us PK ops s g K = (kont E [.code (.region id ops false)] (onlyN K g) .normal s ∨ opsXK E (fun _ => none : Nat → Option (Rule Γ)) ops (fun s' _ => panW pc w us PK s') 0 (ops.toList.take j) s g) := rfl
theorem f201_pan (l : List Tok) (z : Int) (p : KS) (h : KOk l p) (k : Int) (ts : List ByteArray) (ht : ts.length ≤ lim) (hs : seesK l p k ts = false) : PanOK Tryz.prog 201 [.ptr 0 0, .int .i64 k, .lst (ts.map .str)] [kB l z p] ⟨true, .tup [], [], [kB l z p]⟩ (fault 193 20 (placeS l z p.at_)) := by
  have e := k149_eq l z p h k ts ht
  have e2 := p202_eq l z p p.at_
  unfold takeK at e
  rw [hs, if_neg (by simp)] at e
  have env := mkE_ok zmix (P := Tryz.prog) (cl := []) (gl := [(149, [], k149 l z)]) [] trivial (k149_ok l z)
  refine fun_pan (C := fun id => if id = 2 then some (rPan (mkE Tryz.prog [] [(149, [], k149 l z)] []) 2 6 (p202 l z p p.at_) [] [.tmp 14, .const (.bool true), .const (.int .i64 20), .tmp 19] (EndsQ (mkE Tryz.prog [] [(149, [], k149 l z)] []) [] 1 ⟨true, .tup [], [], [kB l z p]⟩ .ret)) else none) env Tryz.func201 (by kernel_rfl) rfl ?_ ?_
  · intro Inv hI
    refine ⟨fun r hr => by simp at hr, ⟨fun r hr => by simp at hr, fun r hr => ?_, trivial⟩, fun r hr => by simp at hr, trivial⟩
    simp only [if_true, Option.some.injEq] at hr
    subst hr
    exact rPan_ok env hI (by kernel_rfl) (by kernel_rfl) ⟨_, _, rfl, rfl, rfl, rfl, rfl⟩ (ctrP_ok fun _ _ => f202_pan l z p h p.at_)
  · obtain ⟨i, nm, im⟩ := p
    simp only [kB] at e e2
    simp [e, e2, panW, panR]
noncomputable def k201 (l : List Tok) (z : Int) := ctrG (fun a : KS × Int × List ByteArray => (KOk l a.1 ∧ a.2.2.length ≤ lim) ∧ seesK l a.1 a.2.1 a.2.2 = true) (fun a => ([.ptr 0 0, .int .i64 a.2.1, .lst (a.2.2.map .str)], [kB l z a.1])) (fun a => ⟨true, .str (textK l a.1), [], [kB l z (stepK a.1)]⟩)
theorem k201_eq (l : List Tok) (z : Int) (p : KS) (h : KOk l p) (k : Int) (ts : List ByteArray) (ht : ts.length ≤ lim) (hs : seesK l p k ts = true) : k201 l z [.ptr 0 0, .int .i64 k, .lst (ts.map .str)] [kB l z p] = some ⟨true, .str (textK l p), [], [kB l z (stepK p)]⟩ := ctrG_eq (injK3 _) (p, k, ts) ⟨⟨h, ht⟩, hs⟩ rfl
theorem k201_ok (l : List Tok) (z : Int) : GOK Tryz.prog (201, [], k201 l z) := ctrG_ok fun a h => f201_ok l z a.1 h.1.1 a.2.1 a.2.2 h.1.2 h.2
noncomputable def p201 (l : List Tok) (z : Int) (y : Int) := ctrG (fun a : KS × Int × List ByteArray => ((KOk l a.1 ∧ a.2.2.length ≤ lim) ∧ seesK l a.1 a.2.1 a.2.2 = false) ∧ placeS l z a.1.at_ = y) (fun a => ([.ptr 0 0, .int .i64 a.2.1, .lst (a.2.2.map .str)], [kB l z a.1])) (fun a => ⟨true, .tup [], [], [kB l z a.1]⟩)
theorem p201_eq (l : List Tok) (z : Int) (p : KS) (h : KOk l p) (k : Int) (ts : List ByteArray) (ht : ts.length ≤ lim) (hs : seesK l p k ts = false) : p201 l z (placeS l z p.at_) [.ptr 0 0, .int .i64 k, .lst (ts.map .str)] [kB l z p] = some ⟨true, .tup [], [], [kB l z p]⟩ := ctrG_eq (injK3 _) (p, k, ts) ⟨⟨⟨h, ht⟩, hs⟩, rfl⟩ rfl
theorem p201_ok (l : List Tok) (z y : Int) : ∀ args cs a, p201 l z y args cs = some a → PanOK Tryz.prog 201 args cs a (fault 193 20 y) := ctrP_ok fun a h => by
  have := f201_pan l z a.1 h.1.1.1 a.2.1 a.2.2 h.1.1.2 h.1.2
  rw [h.2] at this
  exact this
end Go.TM.Tryz
end
