/- A part of the proof: RB, RC. -/
import Derived.Test.YtgpkbmekdmpgoaaGreatDoorK12
set_option linter.unusedVariables false
set_option linter.unusedSimpArgs false
section
set_option maxHeartbeats 16000000
set_option maxRecDepth 20000
namespace Go.TM
open Go
def nextK (p : KS) (x : ByteArray) : KS := ⟨p.at_ + 1, p.name, p.imps ++ [x]⟩
end Go.TM
namespace Go.TM.Tryz
open Go Go.TM Go.Proofs
def impK (l : List Tok) : Nat → KS → Bool × KS
  | 0, p => (true, p)
  | f + 1, p => if seesK l p 1 [] = true then (if seesK l (nextK p (textK l p)) 4 [tCom] = true then impK l f (stepK (nextK p (textK l p))) else (true, nextK p (textK l p))) else (false, p)
def endK (l : List Tok) (r : Bool × KS) : Bool × KS := if r.1 = true then (if seesK l r.2 4 [tSem] = true then (true, stepK r.2) else (false, r.2)) else r
def tailK (l : List Tok) (p : KS) : Bool × KS := if seesK l p 2 [tImp] = true then endK l (impK l (l.length + 1) (stepK p)) else (true, p)
def namedK (p : KS) (x : ByteArray) : KS := ⟨p.at_ + 1, x, p.imps⟩
def beginK (l : List Tok) (p : KS) : Bool × KS :=
  if seesK l p 2 [tModule] = true then (if seesK l (stepK p) 1 [] = true then
    (if seesK l (namedK (stepK p) (textK l (stepK p))) 4 [tSem] = true then tailK l (stepK (namedK (stepK p) (textK l (stepK p)))) else (false, namedK (stepK p) (textK l (stepK p)))) else (false, stepK p)) else (false, p)
theorem stepK_ok {l : List Tok} {p : KS} {k : Int} {ts : List ByteArray} (h : KOk l p) (hs : seesK l p k ts = true) : KOk l (stepK p) := ⟨seesK_lt hs, h.b⟩
theorem nextK_ok {l : List Tok} {p : KS} {k : Int} {ts : List ByteArray} {x : ByteArray} (h : KOk l p) (hs : seesK l p k ts = true) : KOk l (nextK p x) := ⟨seesK_lt hs, h.b⟩
theorem namedK_ok {l : List Tok} {p : KS} {k : Int} {ts : List ByteArray} {x : ByteArray} (h : KOk l p) (hs : seesK l p k ts = true) : KOk l (namedK p x) := ⟨seesK_lt hs, h.b⟩
def headT (l : List Tok) (z : Int) (u : KS) (k : Nat) (t : S) : Prop := t.nt = k + 7 ∧ t.nb = 1 ∧ t.e 0 = .ptr 0 0 ∧ t.e 1 = .bool true ∧
  t.B 0 = some (.agg [.own k, .int .i64 u.at_, .int .i64 0, .own (k + 1), .str u.name, .own (k + 2), .own (k + 3), .own (k + 4), .own (k + 5), .int .i64 z, .own (k + 6)]) ∧
  t.R k = some ⟨4, l.map Tok.v, true⟩ ∧ t.R (k + 1) = some ⟨5, [], true⟩ ∧ t.R (k + 2) = some ⟨1, u.imps.map V.str, true⟩ ∧ t.R (k + 3) = some ⟨6, [], true⟩ ∧ t.R (k + 4) = some ⟨6, [], true⟩ ∧ t.R (k + 5) = some ⟨2, [], true⟩ ∧ t.R (k + 6) = some ⟨3, [], true⟩
theorem f156_ok (l : List Tok) (z : Int) (p : KS) (h : KOk l p) (him : p.imps.length ≤ p.at_) (hb : (beginK l p).1 = true) : GenOK Tryz.prog 156 [.ptr 0 0, .bool true] [kB l z p] ⟨true, .tup [], [], [kB l z (beginK l p).2]⟩ := by
  refine fun_okG (mkE_ok zmix (cl := []) (gl := [(149, [], k149 l z), (201, [], k201 l z)]) [] trivial ⟨k149_ok l z, k201_ok l z⟩) Tryz.func156 (by kernel_rfl) ?_
  refine FunG_run _ _ rfl rfl ?_
  generalize hE : beginK l p = E at *
  unfold beginK at hE
  cases s0 : seesK l p 2 [tModule] with
  | false => rw [if_neg (by simp [s0])] at hE; rw [← hE] at hb; cases hb
  | true =>
  rw [if_pos s0] at hE
  have e0 := k201_eq l z p h 2 [tModule] (by simp [lim]) s0
  have h1 := stepK_ok h s0
  have a1 : (stepK p).at_ = p.at_ + 1 := rfl
  have i1 : (stepK p).imps = p.imps := rfl
  generalize stepK p = p1 at *
  cases s1 : seesK l p1 1 [] with
  | false => rw [if_neg (by simp [s1])] at hE; rw [← hE] at hb; cases hb
  | true =>
  rw [if_pos s1] at hE
  have e1 := k201_eq l z p1 h1 1 [] (by simp [lim]) s1
  have h2 := namedK_ok (x := textK l p1) h1 s1
  have a2 : (namedK p1 (textK l p1)).at_ = p1.at_ + 1 := rfl
  have a2' : (stepK p1).at_ = p1.at_ + 1 := rfl
  have i2 : (namedK p1 (textK l p1)).imps = p1.imps := rfl
  have i2' : (stepK p1).imps = p1.imps := rfl
  have n2 : (namedK p1 (textK l p1)).name = textK l p1 := rfl
  generalize namedK p1 (textK l p1) = p2 at *
  generalize stepK p1 = p2' at *
  generalize textK l p1 = x1 at *
  cases s2 : seesK l p2 4 [tSem] with
  | false => rw [if_neg (by simp [s2])] at hE; rw [← hE] at hb; cases hb
  | true =>
  rw [if_pos s2] at hE
  have e2 := k201_eq l z p2 h2 4 [tSem] (by simp [lim]) s2
  have h3 := stepK_ok h2 s2
  have a3 : (stepK p2).at_ = p2.at_ + 1 := rfl
  have i3 : (stepK p2).imps = p2.imps := rfl
  generalize stepK p2 = p3 at *
  unfold tailK at hE
  have e3 := k149_eq l z p3 h3 2 [tImp] (by simp [lim])
  unfold takeK at e3
  have eqA : p2'.at_ = p2.at_ := a2'.trans a2.symm
  have eqI : p2'.imps = p2.imps := i2'.trans i2.symm
  cases s3 : seesK l p3 2 [tImp] with
  | false =>
    rw [s3] at e3
    rw [if_neg (by simp [s3])] at hE
    subst hE
    simp only [kB, tModule, tSem, tImp, List.map_nil, List.map_cons, if_false, Bool.false_eq_true] at e0 e1 e2 e3
    rw [eqA, eqI] at e1
    rw [n2] at e2
    simp [e0, e1, e2, e3]
  | true =>
    rw [s3] at e3
    rw [if_pos s3] at hE
    have h4 := stepK_ok h3 s3
    have a4 : (stepK p3).at_ = p3.at_ + 1 := rfl
    have i4 : (stepK p3).imps = p3.imps := rfl
    generalize stepK p3 = p4 at *
    generalize hr : impK l (l.length + 1) p4 = r at *
    simp only [kB, tModule, tSem, tImp, List.map_nil, List.map_cons, if_true] at e0 e1 e2 e3
    rw [eqA, eqI] at e1
    rw [n2] at e2
    have h4a := h4.a
    have him4 : p4.imps.length ≤ p4.at_ := by rw [i4, i3, i2, i1]; omega
    simp [e0, e1, e2, e3]
    clear e0 e1 e2 e3
    refine lp_ind (fun f t => ∃ (u : KS) (k : Nat) (m : Bool), l.length < u.at_ + f ∧ KOk l u ∧ u.imps.length ≤ u.at_ ∧ headT l z u k t ∧ t.e 4 = .bool m ∧ (if m = true then impK l f u else (true, u)) = r) (l.length + 1) ⟨p4, 31, true, by omega, h4, him4, by simp [headT], by simp, by simpa using hr⟩ ?_
    rintro c' L hL f t ih ⟨u, k, m, huf, hu, hui, ⟨hn, hnb, g0, g1, gB, q0, q1, q2, q3, q4, q5, q6⟩, g4, hr⟩
    have hua := hu.a
    cases m with
    | false =>
      simp only [if_false, Bool.false_eq_true] at hr
      subst hr
      unfold endK at hE
      simp only [if_true] at hE
      cases s5 : seesK l u 4 [tSem] with
      | false => rw [if_neg (by simp [s5])] at hE; rw [← hE] at hb; cases hb
      | true =>
        rw [if_pos s5] at hE
        subst hE
        have e5 := k201_eq l z u hu 4 [tSem] (by simp [lim]) s5
        generalize stepK u = y at *
        simp only [kB, tSem, List.map_nil, List.map_cons] at e5
        simp [hL, hn, hnb, g0, g1, gB, q0, q1, q2, q3, q4, q5, q6, g4, e5]
    | true =>
      simp only [if_true] at hr
      cases f with
      | zero => omega
      | succ f =>
        unfold impK at hr
        cases s6 : seesK l u 1 [] with
        | false =>
          rw [if_neg (by simp [s6])] at hr
          unfold endK at hE
          rw [← hr] at hE
          simp only [Bool.false_eq_true, if_false] at hE
          rw [← hE] at hb
          cases hb
        | true =>
          rw [if_pos s6] at hr
          have e6 := k201_eq l z u hu 1 [] (by simp [lim]) s6
          have hlt := seesK_lt s6
          have h7 := nextK_ok (x := textK l u) hu s6
          have a7 : (nextK u (textK l u)).at_ = u.at_ + 1 := rfl
          have i7 : (nextK u (textK l u)).imps = u.imps ++ [textK l u] := rfl
          have n7 : (nextK u (textK l u)).name = u.name := rfl
          have a7' : (stepK u).at_ = u.at_ + 1 := rfl
          have i7' : (stepK u).imps = u.imps := rfl
          have n7' : (stepK u).name = u.name := rfl
          generalize nextK u (textK l u) = v at *
          generalize stepK u = v' at *
          generalize textK l u = x at *
          have hub := hu.b
          have s1 := roomStr 1 (by omega)
          have s2 := roomStr (u.imps.length + 1) (by omega)
          have e7 := k149_eq l z v h7 4 [tCom] (by simp [lim])
          unfold takeK at e7
          cases s7 : seesK l v 4 [tCom] with
          | false =>
            rw [s7] at e7
            rw [if_neg (by simp [s7])] at hr
            simp only [kB, tCom, List.map_nil, List.map_cons, if_false, Bool.false_eq_true] at e6 e7
            rw [i7, List.map_append, List.map_cons, List.map_nil, n7, ← n7', a7, ← a7'] at e7
            rw [i7'] at e6
            simp [hL, hn, hnb, g0, g1, gB, q0, q1, q2, q3, q4, q5, q6, g4, e6, e7, s1, s2, Nat.add_assoc]
            exact ih f _ (by omega) ⟨v, k + 17, false, by omega, h7, by rw [i7, a7]; simp; omega, by simp [headT, hn, hnb, g0, g1, a7, a7', n7, n7', i7, Nat.add_assoc], by simp, by simpa using hr⟩
          | true =>
            rw [s7] at e7
            rw [if_pos s7] at hr
            have h8 := stepK_ok h7 s7
            have a8 : (stepK v).at_ = v.at_ + 1 := rfl
            have i8 : (stepK v).imps = v.imps := rfl
            have n8 : (stepK v).name = v.name := rfl
            generalize stepK v = y at *
            simp only [kB, tCom, List.map_nil, List.map_cons, if_true] at e6 e7
            rw [i7, List.map_append, List.map_cons, List.map_nil, n7, ← n7', a7, ← a7', i8, i7, List.map_append, List.map_cons, List.map_nil] at e7
            rw [i7'] at e6
            simp [hL, hn, hnb, g0, g1, gB, q0, q1, q2, q3, q4, q5, q6, g4, e6, e7, s1, s2, Nat.add_assoc]
            exact ih f _ (by omega) ⟨y, k + 17, true, by omega, h8, by rw [i8, i7, a8, a7]; simp; omega, by simp [headT, hn, hnb, g0, g1, i8, i7, Nat.add_assoc], by simp, by simpa using hr⟩
end Go.TM.Tryz
end
section
set_option maxHeartbeats 16000000
set_option maxRecDepth 20000
namespace Go.TM
open Go
theorem ctrG_none {α : Type} {p : α → Prop} {enc : α → List V × List V} {out : α → Ans} {args cs : List V} (h : ∀ a, p a → enc a = (args, cs) → False) : ctrG p enc out args cs = none := by
  unfold ctrG
  rw [dif_neg]
  rintro ⟨a, h1, h2⟩
  exact h a h1 h2
end Go.TM
namespace Go.TM.Tryz
open Go Go.TM Go.Proofs
theorem k201_none (l : List Tok) (z : Int) (p : KS) (k : Int) (ts : List ByteArray) (hs : seesK l p k ts = false) : k201 l z [.ptr 0 0, .int .i64 k, .lst (ts.map .str)] [kB l z p] = none := ctrG_none fun a h1 h2 => by
  have := injK3 (l := l) (z := z) (fun a => seesK l a.1 a.2.1 a.2.2) a (p, k, ts) h2
  simp only at this
  rw [h1.2, hs] at this
  cases this
theorem p201_none (l : List Tok) (z y : Int) (p : KS) (k : Int) (ts : List ByteArray) (hs : seesK l p k ts = true) : p201 l z y [.ptr 0 0, .int .i64 k, .lst (ts.map .str)] [kB l z p] = none := ctrG_none fun a h1 h2 => by
  have := injK3 (l := l) (z := z) (fun a => seesK l a.1 a.2.1 a.2.2) a (p, k, ts) h2
  simp only at this
  rw [h1.1.2, hs] at this
  cases this
noncomputable def E156 (l : List Tok) (z : Int) : Env := mkE Tryz.prog [] [(149, [], k149 l z), (201, [], k201 l z)] []
noncomputable def PK156 (l : List Tok) (z : Int) (u : KS) : S → Prop := EndsQ (E156 l z) [] 1 ⟨true, .tup [], [], [kB l z u]⟩ .ret
noncomputable def C156 (l : List Tok) (z : Int) (u : KS) (id : Nat) : Option (Array Oper → Rule Unit) :=
  if id = 0 then some (rPan (E156 l z) 0 2 (p201 l z (placeS l z u.at_)) [] [.tmp 6, .const (.int .i64 2), .tmp 7] (PK156 l z u))
  else if id = 1 then some (rPan (E156 l z) 1 2 (p201 l z (placeS l z u.at_)) [] [.tmp 10, .const (.int .i64 1), .const (.slice none 0 0)] (PK156 l z u))
  else if id = 2 then some (rPan (E156 l z) 2 2 (p201 l z (placeS l z u.at_)) [] [.tmp 15, .const (.int .i64 4), .tmp 16] (PK156 l z u))
  else if id = 7 then some (rPan (E156 l z) 7 1 (p201 l z (placeS l z u.at_)) [] [.tmp 30, .const (.int .i64 1), .const (.slice none 0 0)] (PK156 l z u))
  else if id = 13 then some (rPan (E156 l z) 13 2 (p201 l z (placeS l z u.at_)) [] [.tmp 100, .const (.int .i64 4), .tmp 101] (PK156 l z u))
  else none
theorem f156_pan (l : List Tok) (z : Int) (p : KS) (h : KOk l p) (him : p.imps.length ≤ p.at_) (hb : (beginK l p).1 = false) : PanOK Tryz.prog 156 [.ptr 0 0, .bool true] [kB l z p] ⟨true, .tup [], [], [kB l z (beginK l p).2]⟩ (fault 193 20 (placeS l z (beginK l p).2.at_)) := by
  have env := mkE_ok zmix (P := Tryz.prog) (cl := []) (gl := [(149, [], k149 l z), (201, [], k201 l z)]) [] trivial ⟨k149_ok l z, k201_ok l z⟩
  generalize hE : beginK l p = E at *
  refine fun_pan (C := C156 l z E.2) (E := E156 l z) env Tryz.func156 (by kernel_rfl) rfl ?_ ?_
  · intro Inv hI
    have hC := p201_ok l z (placeS l z E.2.at_)
    have go : ∀ (id j : Nat) (us : List Operand) (n : Nat) (all : Array Oper), all.toList.all (okO n) = true → okC (E156 l z) n (.region id all false) = true → (∃ o c, all[j]? = some o ∧ o.guard = none ∧ o.op = .call c ∧ c.callee = .value (.func 201) ∧ c.args.toList = us) →
        RgOKP Inv (PK156 l z E.2) (fault 193 20 (placeS l z E.2.at_)) Tryz.prog n id all false (rPan (E156 l z) id j (p201 l z (placeS l z E.2.at_)) [] us (PK156 l z E.2) all) :=
      fun id j us n all h1 h2 h3 => rPan_ok env hI h1 h2 h3 hC
    repeat' (first | exact trivial | apply And.intro)
    all_goals intro r hr
    all_goals simp [C156] at hr
    all_goals (subst hr; exact go _ _ _ _ _ (by kernel_rfl) (by kernel_rfl) ⟨_, _, rfl, rfl, rfl, rfl, rfl⟩)
  · unfold beginK at hE
    cases s0 : seesK l p 2 [tModule] with
    | false =>
      rw [if_neg (by simp [s0])] at hE
      have e0 := k201_none l z p 2 [tModule] s0
      have q0 := p201_eq l z p h 2 [tModule] (by simp [lim]) s0
      subst hE
      simp only [kB, tModule, List.map_nil, List.map_cons] at e0 q0
      simp [E156, PK156, C156, panW, panR, e0, q0]
    | true =>
    rw [if_pos s0] at hE
    have e0 := k201_eq l z p h 2 [tModule] (by simp [lim]) s0
    have o0 := p201_none l z (placeS l z E.2.at_) p 2 [tModule] s0
    have h1 := stepK_ok h s0
    have a1 : (stepK p).at_ = p.at_ + 1 := rfl
    have i1 : (stepK p).imps = p.imps := rfl
    generalize stepK p = p1 at *
    cases s1 : seesK l p1 1 [] with
    | false =>
      rw [if_neg (by simp [s1])] at hE
      have e1 := k201_none l z p1 1 [] s1
      have o1 := p201_eq l z p1 h1 1 [] (by simp [lim]) s1
      subst hE
      simp only [kB, tModule, List.map_nil, List.map_cons] at e0 o0 e1 o1
      simp [E156, PK156, C156, panW, panR, e0, o0, e1, o1]
    | true =>
    rw [if_pos s1] at hE
    have e1 := k201_eq l z p1 h1 1 [] (by simp [lim]) s1
    have o1 := p201_none l z (placeS l z E.2.at_) p1 1 [] s1
    have h2 := namedK_ok (x := textK l p1) h1 s1
    have a2 : (namedK p1 (textK l p1)).at_ = p1.at_ + 1 := rfl
    have a2' : (stepK p1).at_ = p1.at_ + 1 := rfl
    have i2 : (namedK p1 (textK l p1)).imps = p1.imps := rfl
    have i2' : (stepK p1).imps = p1.imps := rfl
    have n2 : (namedK p1 (textK l p1)).name = textK l p1 := rfl
    generalize namedK p1 (textK l p1) = p2 at *
    generalize stepK p1 = p2' at *
    generalize textK l p1 = x1 at *
    have eqA : p2'.at_ = p2.at_ := a2'.trans a2.symm
    have eqI : p2'.imps = p2.imps := i2'.trans i2.symm
    cases s2 : seesK l p2 4 [tSem] with
    | false =>
      rw [if_neg (by simp [s2])] at hE
      have e2 := k201_none l z p2 4 [tSem] s2
      have o2 := p201_eq l z p2 h2 4 [tSem] (by simp [lim]) s2
      subst hE
      simp only [kB, tModule, tSem, List.map_nil, List.map_cons] at e0 o0 e1 o1 e2 o2
      rw [eqA, eqI] at e1
      rw [n2] at e2 o2
      simp [E156, PK156, C156, panW, panR, e0, o0, e1, o1, e2, o2, n2]
    | true =>
    rw [if_pos s2] at hE
    have e2 := k201_eq l z p2 h2 4 [tSem] (by simp [lim]) s2
    have o2 := p201_none l z (placeS l z E.2.at_) p2 4 [tSem] s2
    have h3 := stepK_ok h2 s2
    have a3 : (stepK p2).at_ = p2.at_ + 1 := rfl
    have i3 : (stepK p2).imps = p2.imps := rfl
    generalize stepK p2 = p3 at *
    unfold tailK at hE
    have e3 := k149_eq l z p3 h3 2 [tImp] (by simp [lim])
    unfold takeK at e3
    cases s3 : seesK l p3 2 [tImp] with
    | false =>
      rw [if_neg (by simp [s3])] at hE
      rw [← hE] at hb
      cases hb
    | true =>
    rw [s3] at e3
    rw [if_pos s3] at hE
    have h4 := stepK_ok h3 s3
    have a4 : (stepK p3).at_ = p3.at_ + 1 := rfl
    have i4 : (stepK p3).imps = p3.imps := rfl
    generalize stepK p3 = p4 at *
    generalize hr : impK l (l.length + 1) p4 = r at *
    simp only [kB, tModule, tSem, tImp, List.map_nil, List.map_cons, if_true] at e0 o0 e1 o1 e2 o2 e3
    rw [eqA, eqI] at e1
    rw [n2] at e2 o2
    have h4a := h4.a
    have him4 : p4.imps.length ≤ p4.at_ := by rw [i4, i3, i2, i1]; omega
    simp [E156, PK156, C156, panW, panR, e0, o0, e1, o1, e2, o2, e3]
    clear e0 o0 e1 o1 e2 o2 e3
    refine lpX_ind (fun f t _ => ∃ (u : KS) (k : Nat) (m : Bool), l.length < u.at_ + f ∧ KOk l u ∧ u.imps.length ≤ u.at_ ∧ headT l z u k t ∧ t.e 4 = .bool m ∧ (if m = true then impK l f u else (true, u)) = r) (l.length + 1) ⟨p4, 31, true, by omega, h4, him4, by simp [headT], by simp, by simpa using hr⟩ ?_
    rintro L f t g ih ⟨u, k, m, huf, hu, hui, ⟨hn, hnb, g0, g1, gB, q0, q1, q2, q3, q4, q5, q6⟩, g4, hr⟩
    have hua := hu.a
    cases m with
    | false =>
      simp only [if_false, Bool.false_eq_true] at hr
      subst hr
      unfold endK at hE
      simp only [if_true] at hE
      cases s5 : seesK l u 4 [tSem] with
      | true => rw [if_pos s5] at hE; rw [← hE] at hb; cases hb
      | false =>
        rw [if_neg (by simp [s5])] at hE
        subst hE
        have e5 := k201_none l z u 4 [tSem] s5
        have o5 := p201_eq l z u hu 4 [tSem] (by simp [lim]) s5
        simp only [kB, tSem, List.map_nil, List.map_cons] at e5 o5
        simp [E156, PK156, C156, panW, panR, hn, hnb, g0, g1, gB, q0, q1, q2, q3, q4, q5, q6, g4, e5, o5, Nat.add_assoc]
    | true =>
      simp only [if_true] at hr
      cases f with
      | zero => omega
      | succ f =>
        unfold impK at hr
        cases s6 : seesK l u 1 [] with
        | false =>
          rw [if_neg (by simp [s6])] at hr
          unfold endK at hE
          rw [← hr] at hE
          simp only [Bool.false_eq_true, if_false] at hE
          subst hE
          have e6 := k201_none l z u 1 [] s6
          have o6 := p201_eq l z u hu 1 [] (by simp [lim]) s6
          simp only [kB, List.map_nil, List.map_cons] at e6 o6
          simp [E156, PK156, C156, panW, panR, hn, hnb, g0, g1, gB, q0, q1, q2, q3, q4, q5, q6, g4, e6, o6, Nat.add_assoc]
        | true =>
          rw [if_pos s6] at hr
          have e6 := k201_eq l z u hu 1 [] (by simp [lim]) s6
          have o6 := p201_none l z (placeS l z E.2.at_) u 1 [] s6
          have hlt := seesK_lt s6
          have h7 := nextK_ok (x := textK l u) hu s6
          have a7 : (nextK u (textK l u)).at_ = u.at_ + 1 := rfl
          have i7 : (nextK u (textK l u)).imps = u.imps ++ [textK l u] := rfl
          have n7 : (nextK u (textK l u)).name = u.name := rfl
          have a7' : (stepK u).at_ = u.at_ + 1 := rfl
          have i7' : (stepK u).imps = u.imps := rfl
          have n7' : (stepK u).name = u.name := rfl
          generalize nextK u (textK l u) = v at *
          generalize stepK u = v' at *
          generalize textK l u = x at *
          have hub := hu.b
          have s1 := roomStr 1 (by omega)
          have s2 := roomStr (u.imps.length + 1) (by omega)
          have e7 := k149_eq l z v h7 4 [tCom] (by simp [lim])
          unfold takeK at e7
          cases s7 : seesK l v 4 [tCom] with
          | false =>
            rw [s7] at e7
            rw [if_neg (by simp [s7])] at hr
            simp only [kB, tCom, List.map_nil, List.map_cons, if_false, Bool.false_eq_true] at e6 o6 e7
            rw [i7, List.map_append, List.map_cons, List.map_nil, n7, ← n7', a7, ← a7'] at e7
            rw [i7'] at e6
            simp [E156, PK156, C156, panW, panR, hn, hnb, g0, g1, gB, q0, q1, q2, q3, q4, q5, q6, g4, e6, o6, e7, s1, s2, Nat.add_assoc]
            exact ih f _ _ (by omega) ⟨v, k + 17, false, by omega, h7, by rw [i7, a7]; simp; omega, by simp [headT, hn, hnb, g0, g1, a7, a7', n7, n7', i7, Nat.add_assoc], by simp, by simpa using hr⟩
          | true =>
            rw [s7] at e7
            rw [if_pos s7] at hr
            have h8 := stepK_ok h7 s7
            have a8 : (stepK v).at_ = v.at_ + 1 := rfl
            have i8 : (stepK v).imps = v.imps := rfl
            have n8 : (stepK v).name = v.name := rfl
            generalize stepK v = y at *
            simp only [kB, tCom, List.map_nil, List.map_cons, if_true] at e6 o6 e7
            rw [i7, List.map_append, List.map_cons, List.map_nil, n7, ← n7', a7, ← a7', i8, i7, List.map_append, List.map_cons, List.map_nil] at e7
            rw [i7'] at e6
            simp [E156, PK156, C156, panW, panR, hn, hnb, g0, g1, gB, q0, q1, q2, q3, q4, q5, q6, g4, e6, o6, e7, s1, s2, Nat.add_assoc]
            exact ih f _ _ (by omega) ⟨y, k + 17, true, by omega, h8, by rw [i8, i7, a8, a7]; simp; omega, by simp [headT, hn, hnb, g0, g1, i8, i7, Nat.add_assoc], by simp, by simpa using hr⟩
end Go.TM.Tryz
end
