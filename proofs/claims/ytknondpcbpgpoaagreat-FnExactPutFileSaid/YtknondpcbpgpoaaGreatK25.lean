/- A part of the proof: WG, RH, WH. -/
import Derived.Test.YtknondpcbpgpoaaGreatK24
set_option linter.unusedVariables false
set_option linter.unusedSimpArgs false
section
set_option maxHeartbeats 16000000
set_option maxRecDepth 20000
namespace Go.TM.Tryz
open Go Go.TM Go.Proofs
theorem injOB2 {b:ByteArray} {β:Type} (out:ORd × Int × Int→β):∀ x y:ORd × Int × Int,(([V.ptr 0 0,.int .i64 x.2.1,.int .i64 x.2.2],[oBox b x.1]):List V × List V)=([.ptr 0 0,.int .i64 y.2.1,.int .i64 y.2.2],[oBox b y.1])→out x=out y:=by
  rintro ⟨⟨a,c⟩,i,j⟩ ⟨⟨e,f⟩,k,l⟩ h
  simp only [Prod.mk.injEq,List.cons.injEq,and_true,true_and,oBox,V.agg.injEq,V.int.injEq,V.bool.injEq] at h
  have h1:a=e:=by omega
  rw [h1,h.2.2,h.1.1,h.1.2]
theorem injOB1 {b:ByteArray} {β:Type} (out:ORd × Bool→β):∀ x y:ORd × Bool,(([V.ptr 0 0,.bool x.2],[oBox b x.1]):List V × List V)=([.ptr 0 0,.bool y.2],[oBox b y.1])→out x=out y:=by
  rintro ⟨⟨a,c⟩,i⟩ ⟨⟨e,f⟩,k⟩ h
  simp only [Prod.mk.injEq,List.cons.injEq,and_true,true_and,oBox,V.agg.injEq,V.int.injEq,V.bool.injEq] at h
  have h1:a=e:=by omega
  rw [h1,h.2.2,h.1]
theorem injOB0 {b:ByteArray} {β:Type} (out:ORd→β):∀ x y:ORd,(([V.ptr 0 0],[oBox b x]):List V × List V)=([.ptr 0 0],[oBox b y])→out x=out y:=by
  rintro ⟨a,c⟩ ⟨e,f⟩ h
  simp only [Prod.mk.injEq,List.cons.injEq,and_true,true_and,oBox,V.agg.injEq,V.int.injEq,V.bool.injEq] at h
  have h1:a=e:=by omega
  rw [h1,h.2]
noncomputable def c148 (b:ByteArray):=ctrG (fun a:ORd × Int × Int=>OOK b a.1) (fun a=>([.ptr 0 0,.int .i64 a.2.1,.int .i64 a.2.2],[oBox b a.1])) (fun a=>⟨false,.int .i64 (numO b a.2.1 a.2.2 a.1).1,[],[oBox b (numO b a.2.1 a.2.2 a.1).2]⟩)
theorem c148_eq (b:ByteArray) (lo hi:Int) (s:ORd) (h:OOK b s):c148 b [.ptr 0 0,.int .i64 lo,.int .i64 hi] [oBox b s]=some ⟨false,.int .i64 (numO b lo hi s).1,[],[oBox b (numO b lo hi s).2]⟩:=ctrG_eq (injOB2 _) (s,lo,hi) h rfl
theorem c148_ok (b:ByteArray):GOK Tryz.prog (148,[],c148 b):=ctrG_ok fun a h=>f148_ok b a.2.1 a.2.2 a.1 h
noncomputable def c196 (b:ByteArray):=ctrG (fun a:ORd × Int × Int=>OOK b a.1) (fun a=>([.ptr 0 0,.int .i64 a.2.1,.int .i64 a.2.2],[oBox b a.1])) (fun a=>⟨false,.int .i64 (sinO b a.2.1 a.2.2 a.1).1,[],[oBox b (sinO b a.2.1 a.2.2 a.1).2]⟩)
theorem c196_eq (b:ByteArray) (lo hi:Int) (s:ORd) (h:OOK b s):c196 b [.ptr 0 0,.int .i64 lo,.int .i64 hi] [oBox b s]=some ⟨false,.int .i64 (sinO b lo hi s).1,[],[oBox b (sinO b lo hi s).2]⟩:=ctrG_eq (injOB2 _) (s,lo,hi) h rfl
theorem c196_ok (b:ByteArray):GOK Tryz.prog (196,[],c196 b):=ctrG_ok fun a h=>f196_ok b a.2.1 a.2.2 a.1 h
noncomputable def c147 (b:ByteArray):=ctrG (fun a:ORd × Bool=>OOK b a.1) (fun a=>([.ptr 0 0,.bool a.2],[oBox b a.1])) (fun a=>⟨false,.str (nameO b a.2 a.1).1,[],[oBox b (nameO b a.2 a.1).2]⟩)
theorem c147_eq (b:ByteArray) (mb:Bool) (s:ORd) (h:OOK b s):c147 b [.ptr 0 0,.bool mb] [oBox b s]=some ⟨false,.str (nameO b mb s).1,[],[oBox b (nameO b mb s).2]⟩:=ctrG_eq (injOB1 _) (s,mb) h rfl
theorem c147_ok (b:ByteArray):GOK Tryz.prog (147,[],c147 b):=ctrG_ok fun a h=>f147_ok b a.2 a.1 h
theorem rnL_sz {b:ByteArray} {p:Nat}:∀ (f k n:Nat),(rnL b p f k n).2.1≤b.size
  | 0,k,n=>by simp [rnL]
  | f + 1,k,n=>by
    unfold rnL
    split
    · split
      · simp
        omega
      · exact rnL_sz f _ _
    · simp
theorem rnmF_sz {b:ByteArray} {p:Nat}:(rnmF b p).2.1≤b.size:=by
  unfold rnmF
  split
  · simp
  · split
    · simp
    · rename_i h
      simp only [not_or,Nat.not_lt] at h
      exact h.1
theorem failF_at (s:ORd) (p:Int):(failF s p).at_=s.at_:=by
  unfold failF
  split <;> rfl
theorem numO_sz {b:ByteArray} {lo hi:Int} {s:ORd} (h:s.at_≤b.size):(numO b lo hi s).2.at_≤b.size:=by
  unfold numO
  split
  · exact h
  · split
    · rw [failF_at];exact h
    · exact rnL_sz _ _ _
theorem sinO_sz {b:ByteArray} {lo hi:Int} {s:ORd} (h:s.at_≤b.size):(sinO b lo hi s).2.at_≤b.size:=by
  unfold sinO
  split
  · rw [failF_at];exact h
  · rename_i h'
    simp only [not_or,Nat.not_le] at h'
    simp
    omega
theorem nameO_sz {b:ByteArray} {mb:Bool} {s:ORd} (h:s.at_≤b.size):(nameO b mb s).2.at_≤b.size:=by
  unfold nameO
  split
  · exact h
  · split
    · rename_i h'
      simp
      omega
    · split
      · rw [failF_at];exact h
      · exact rnmF_sz
theorem numO_in {b:ByteArray} {lo hi:Int} {s:ORd} (h:lo≤0) (h2:0≤hi):lo≤(numO b lo hi s).1∧(numO b lo hi s).1≤hi:=by
  unfold numO
  split
  · exact ⟨h,h2⟩
  · split
    · exact ⟨h,h2⟩
    · rename_i h'
      simp only [not_or,Bool.not_eq_false] at h'
      have:=h'.2
      simp only [inB,Bool.and_eq_true,decide_eq_true_eq] at this
      exact this
def manyO {α:Type} (g:ORd→α × ORd):Nat→ORd→List α × ORd
  | 0,s=>([],s)
  | k + 1,s=>((g s).1 :: (manyO g k (g s).2).1,(manyO g k (g s).2).2)
theorem manyO_sz {α:Type} {b:ByteArray} {g:ORd→α × ORd} (hg:∀ s,s.at_≤b.size→(g s).2.at_≤b.size):∀ (k:Nat) (s:ORd),s.at_≤b.size→(manyO g k s).2.at_≤b.size
  | 0,s,h=>h
  | k + 1,s,h=>manyO_sz hg k _ (hg s h)
def fldO (b:ByteArray) (s:ORd):Fld × ORd :=
  (⟨(nameO b true (sinO b 0 2 s).2).1,(sinO b 0 2 s).1,(numO b (-1000000000) 1000000000 (nameO b true (sinO b 0 2 s).2).2).1⟩,(numO b (-1000000000) 1000000000 (nameO b true (sinO b 0 2 s).2).2).2)
theorem fldO_sz {b:ByteArray} {s:ORd} (h:s.at_≤b.size):(fldO b s).2.at_≤b.size:=numO_sz (nameO_sz (sinO_sz h))
def headTO (b:ByteArray) (s:ORd):(Int × Int × Int × ByteArray × ByteArray × Int) × ORd :=
  let k:=sinO b 4 6 s
  let l:=numO b (-1000000000) 1000000000 k.2
  let e:=numO b (-1000000000) 1000000000 l.2
  let o:=nameO b true e.2
  let n:=nameO b true o.2
  let c:=numO b 0 6 n.2
  ((k.1,l.1,e.1,o.1,n.1,c.1),c.2)
theorem headTO_sz {b:ByteArray} {s:ORd} (h:s.at_≤b.size):(headTO b s).2.at_≤b.size:=numO_sz (nameO_sz (nameO_sz (numO_sz (numO_sz (sinO_sz h)))))
def tyO (b:ByteArray) (s:ORd):Ty × ORd :=
  (⟨(headTO b s).1.1,(headTO b s).1.2.1,(headTO b s).1.2.2.1,(manyO (fldO b) (headTO b s).1.2.2.2.2.2.toNat (headTO b s).2).1,(headTO b s).1.2.2.2.1,(headTO b s).1.2.2.2.2.1⟩,(manyO (fldO b) (headTO b s).1.2.2.2.2.2.toNat (headTO b s).2).2)
theorem tyO_sz {b:ByteArray} {s:ORd} (h:s.at_≤b.size):(tyO b s).2.at_≤b.size:=manyO_sz (fun _=>fldO_sz) _ _ (headTO_sz h)
theorem f149_ok (b:ByteArray) (s:ORd) (h:OOK b s):GenOK Tryz.prog 149 [.ptr 0 0] [oBox b s] ⟨false,(tyO b s).1.o,[],[oBox b (tyO b s).2]⟩:=by
  refine fun_okG (mkE_ok zmix (cl:=[]) (gl:=[(148,[],c148 b),(196,[],c196 b),(147,[],c147 b)]) [] trivial ⟨c148_ok b,c196_ok b,c147_ok b⟩) Tryz.func149 (by kernel_rfl) ?_
  refine FunG_run _ _ rfl rfl ?_
  obtain ⟨hs,hb⟩:=h
  have e1:=c196_eq b 4 6 s ⟨hs,hb⟩
  have s1:=sinO_sz (b:=b) (lo:=4) (hi:=6) hs
  have hH:=headTO.eq_1 b s
  simp only [oBox] at e1
  generalize sinO b 4 6 s=q1 at *
  have e2:=c148_eq b (-1000000000) 1000000000 q1.2 ⟨s1,hb⟩
  have s2:=numO_sz (b:=b) (lo:=-1000000000) (hi:=1000000000) s1
  simp only [oBox] at e2
  generalize numO b (-1000000000) 1000000000 q1.2=q2 at *
  have e3:=c148_eq b (-1000000000) 1000000000 q2.2 ⟨s2,hb⟩
  have s3:=numO_sz (b:=b) (lo:=-1000000000) (hi:=1000000000) s2
  simp only [oBox] at e3
  generalize numO b (-1000000000) 1000000000 q2.2=q3 at *
  have e4:=c147_eq b true q3.2 ⟨s3,hb⟩
  have s4:=nameO_sz (b:=b) (mb:=true) s3
  simp only [oBox] at e4
  generalize nameO b true q3.2=q4 at *
  have e5:=c147_eq b true q4.2 ⟨s4,hb⟩
  have s5:=nameO_sz (b:=b) (mb:=true) s4
  simp only [oBox] at e5
  generalize nameO b true q4.2=q5 at *
  have e6:=c148_eq b 0 6 q5.2 ⟨s5,hb⟩
  have s6:=numO_sz (b:=b) (lo:=0) (hi:=6) s5
  have r6:=numO_in (b:=b) (s:=q5.2) (lo:=0) (hi:=6) (by omega) (by omega)
  simp only [oBox] at e6
  generalize numO b 0 6 q5.2=q6 at *
  have hty:tyO b s=(⟨q1.1,q2.1,q3.1,(manyO (fldO b) q6.1.toNat q6.2).1,q4.1,q5.1⟩,(manyO (fldO b) q6.1.toNat q6.2).2):=by
    simp only [tyO,hH]
  rw [hty]
  simp [e1,e2,e3,e4,e5,e6]
  clear e1 e2 e3 e4 e5 e6
  refine lp_ind (fun j t'=>∃ (w:ORd) (fa:List Fld) (fp i:Nat),j + i=q6.1.toNat∧fa.length=i∧w.at_≤b.size∧t'.e 0=.ptr 0 0∧t'.e 2=.ptr 1 0∧t'.e 3=.ptr 2 0∧t'.e 21=.int .i64 q6.1∧t'.e 22=.int .i64 i∧2 < t'.nb∧t'.B 0=some (.agg [.str b,.int .i64 w.at_,.int .i64 w.bad])∧(∃ z,t'.B 1=some (.agg [.int .i64 0,.int .i64 0,.int .i64 0,.own z,.str ⟨#[]⟩,.str ⟨#[]⟩])) ∧
      t'.B 2=some (.agg [.int .i64 q1.1,.int .i64 q2.1,.int .i64 q3.1,.own fp,.str q4.1,.str q5.1])∧fp < t'.nt∧t'.R fp=some ⟨3,fa.map Fld.v,true⟩∧(fa ++ (manyO (fldO b) j w).1,(manyO (fldO b) j w).2)=manyO (fldO b) q6.1.toNat q6.2) q6.1.toNat ⟨q6.2,[],1,0,by omega,rfl,s6,by simp <;> omega,by simp <;> omega,by simp <;> omega,by simp <;> omega,by simp <;> omega,by simp <;> omega,by simp <;> omega,by simp <;> omega,by simp <;> omega,by simp <;> omega,by simp <;> omega,by simp <;> omega⟩ ?_
  rintro c2 L2 hL2 j t' ih2 ⟨w,fa,fp,i,hj,hfl,hw,g0,g2,g3,g21,g22,gnb,gB,⟨z,gZ⟩,gT,gfp,gF,hfa⟩
  by_cases hj0:j=0
  · subst hj0
    have hii:¬ (i:Int) < q6.1:=by omega
    simp only [manyO,List.append_nil] at hfa
    rw [← hfa] at hL2 ⊢
    simp [g0,g2,g3,g21,g22,gB,gZ,gT,gF,hL2,hii]
  · have hii:(i:Int) < q6.1:=by omega
    obtain ⟨j',rfl⟩:∃ j',j=j' + 1:=⟨j - 1,by omega⟩
    have e1:=c196_eq b 0 2 w ⟨hw,hb⟩
    have s1:=sinO_sz (b:=b) (lo:=0) (hi:=2) hw
    have hff:=fldO.eq_1 b w
    simp only [oBox] at e1
    simp only [manyO] at hfa
    generalize sinO b 0 2 w=v1 at *
    have e2:=c147_eq b true v1.2 ⟨s1,hb⟩
    have s2:=nameO_sz (b:=b) (mb:=true) s1
    simp only [oBox] at e2
    generalize nameO b true v1.2=v2 at *
    have e3:=c148_eq b (-1000000000) 1000000000 v2.2 ⟨s2,hb⟩
    have s3:=numO_sz (b:=b) (lo:=-1000000000) (hi:=1000000000) s2
    simp only [oBox] at e3
    generalize numO b (-1000000000) 1000000000 v2.2=v3 at *
    have hrf:=roomFd (n:=fa.length + 1) (by omega)
    have hwi:IntKind.i64.wrap ((i:Int) + 1)=((i + 1:Nat):Int):=(wrap64 (by omega) (by omega)).trans (by omega)
    have n0:¬ 0=t'.nb:=by omega
    have n1:¬ 1=t'.nb:=by omega
    have n2:¬ 2=t'.nb:=by omega
    have m0:¬ t'.nb=0:=by omega
    have m1:¬ t'.nb=1:=by omega
    have m2:¬ t'.nb=2:=by omega
    have y1:¬ fp=t'.nt:=by omega
    have y2:¬ fp=t'.nt + 1:=by omega
    simp [g0,g2,g3,g21,g22,gB,gZ,gT,gF,hL2,hii,e1,e2,e3,hrf,hwi,n0,n1,n2,m0,m1,m2,y1,y2]
    refine ih2 j' _ (by omega) ⟨v3.2,fa ++ [⟨v2.1,v1.1,v3.1⟩],t'.nt + 1,i + 1,by omega,by simp [hfl],s3,by simp [g0,g2,g3,g21,g22,gB,gZ,gT,gF,hwi,n0,n1,n2,m0,m1,m2,y1,y2] <;> omega,by simp [g0,g2,g3,g21,g22,gB,gZ,gT,gF,hwi,n0,n1,n2,m0,m1,m2,y1,y2] <;> omega,by simp [g0,g2,g3,g21,g22,gB,gZ,gT,gF,hwi,n0,n1,n2,m0,m1,m2,y1,y2] <;> omega,by simp [g0,g2,g3,g21,g22,gB,gZ,gT,gF,hwi,n0,n1,n2,m0,m1,m2,y1,y2] <;> omega,by simp [g0,g2,g3,g21,g22,gB,gZ,gT,gF,hwi,n0,n1,n2,m0,m1,m2,y1,y2] <;> omega,by simp [g0,g2,g3,g21,g22,gB,gZ,gT,gF,hwi,n0,n1,n2,m0,m1,m2,y1,y2] <;> omega,by simp [g0,g2,g3,g21,g22,gB,gZ,gT,gF,hwi,n0,n1,n2,m0,m1,m2,y1,y2] <;> omega,by simp [g0,g2,g3,g21,g22,gB,gZ,gT,gF,hwi,n0,n1,n2,m0,m1,m2,y1,y2] <;> omega,by simp [g0,g2,g3,g21,g22,gB,gZ,gT,gF,hwi,n0,n1,n2,m0,m1,m2,y1,y2] <;> omega,by simp [g0,g2,g3,g21,g22,gB,gZ,gT,gF,hwi,n0,n1,n2,m0,m1,m2,y1,y2] <;> omega,by simp [g0,g2,g3,g21,g22,gB,gZ,gT,gF,hwi,n0,n1,n2,m0,m1,m2,y1,y2] <;> omega,?_⟩
    rw [← hfa]
    simp [hff]
end Go.TM.Tryz
end
section
set_option maxHeartbeats 16000000
set_option maxRecDepth 20000
namespace Go.TM.Tryz
open Go Go.TM Go.Proofs
theorem roomPr {n:Nat} (h:n≤1048576):room ⟨3,true,32,.agg [.str ⟨#[]⟩,.bool false,.int .i64 0]⟩ n:=by simp [room];omega
def parF (b:ByteArray) (s:SRd):Par × SRd :=
  (⟨(name7F b false s).1,decide ((smallF b 0 1 (name7F b false s).2).1=1),(num7F b (-1000000000) 1000000000 (smallF b 0 1 (name7F b false s).2).2).1⟩,(num7F b (-1000000000) 1000000000 (smallF b 0 1 (name7F b false s).2).2).2)
theorem parF_sz {b:ByteArray} {s:SRd} (h:s.at_≤b.size):(parF b s).2.at_≤b.size:=num7F_sz (smallF_sz (name7F_sz h))
def hdOb (b:ByteArray) (s:SRd):(Int × Int × ByteArray × Int × Int × Int) × SRd :=
  let k:=smallF b 1 4 s
  let l:=smallF b 0 2 k.2
  let e:=name7F b false l.2
  let o:=num7F b (-1000000000) 1000000000 e.2
  let n:=num7F b (-1000000000) 1000000000 o.2
  let c:=num7F b 0 4 n.2
  ((k.1,l.1,e.1,o.1,n.1,c.1),c.2)
theorem hdOb_sz {b:ByteArray} {s:SRd} (h:s.at_≤b.size):(hdOb b s).2.at_≤b.size:=num7F_sz (num7F_sz (num7F_sz (name7F_sz (smallF_sz (smallF_sz h)))))
def obF (b:ByteArray) (s:SRd):Obj × SRd :=
  (⟨(hdOb b s).1.2.2.1,(hdOb b s).1.1,(hdOb b s).1.2.1,(hdOb b s).1.2.2.2.1,(hdOb b s).1.2.2.2.2.1,(manyF (parF b) (hdOb b s).1.2.2.2.2.2.toNat (hdOb b s).2).1⟩,(manyF (parF b) (hdOb b s).1.2.2.2.2.2.toNat (hdOb b s).2).2)
theorem obF_sz {b:ByteArray} {s:SRd} (h:s.at_≤b.size):(obF b s).2.at_≤b.size:=manyF_sz (fun _=>parF_sz) _ _ (hdOb_sz h)
def obsF (b:ByteArray) (s:SRd):List Obj × SRd:=manyF (obF b) (num7F b 0 16 s).1.toNat (num7F b 0 16 s).2
theorem f76_ok (b:ByteArray) (s:SRd) (h:SOK b s):GenOK Tryz.prog 76 [.ptr 0 0] [sBox b s] ⟨false,.inl 6 ((obsF b s).1.map Obj.o),[],[sBox b (obsF b s).2]⟩:=by
  refine fun_okG (mkE_ok zmix (cl:=[]) (gl:=[(142,[],c142 b),(143,[],c143 b),(74,[],c74 b)]) [] trivial ⟨c142_ok b,c143_ok b,c74_ok b⟩) Tryz.func76 (by kernel_rfl) ?_
  refine FunG_run _ _ rfl rfl ?_
  obtain ⟨hs,hb⟩:=h
  have hc:=num7F_in (b:=b) (s:=s) (lo:=0) (hi:=16) (by omega)
  have hcs:=num7F_sz (b:=b) (lo:=0) (hi:=16) hs
  have e142:=c142_eq b 0 16 s ⟨hs,hb⟩
  simp only [sBox] at e142
  have hT:=obsF.eq_1 b s
  generalize num7F b 0 16 s=q at *
  obtain ⟨c,u0⟩:=q
  simp only at hc hcs hT e142
  simp [e142]
  refine lp_ind (fun d t=>∃ (u:SRd) (acc:List Obj),d≤16∧acc.length + d≤16∧u.at_≤b.size∧t.e 0=.ptr 0 0∧t.e 4=.int .i64 d∧0 < t.nb∧t.B 0=some (.agg [.str b,.int .i64 u.at_,.bool u.bad,.int .i64 u.place])∧(acc ++ (manyF (obF b) d u).1,(manyF (obF b) d u).2)=obsF b s ∧
    ∃ p,t.e 3=.own p∧p < t.nt∧t.R p=some ⟨6,acc.map Obj.o,true⟩) c.toNat ⟨u0,[],by omega,by simp;omega,hcs,by simp,by simp;omega,by simp,by simp,by rw [hT];simp,?_⟩ ?_
  · simp
  rintro c' L hL d t ih ⟨u,acc,hd,hal,hu,h0,h4,hnb,hB,hacc,p,h3,hp,hR⟩
  by_cases hk:d=0
  · subst hk
    simp only [manyF,List.append_nil] at hacc
    rw [← hacc] at hL ⊢
    simp [h0,h4,h3,hB,hR,hL]
  have hki:(0:Int) < d:=by omega
  cases hbad:u.bad with
  | true =>
    obtain ⟨d',rfl⟩:∃ d',d=d' + 1:=⟨d - 1,by omega⟩
    simp only [manyF,hbad,if_true,List.append_nil] at hacc
    rw [hbad] at hB
    rw [← hacc] at hL ⊢
    simp [h0,h4,h3,hB,hR,hL,hki,hbad]
  | false =>
    rw [hbad] at hB
    have e1:=c143_eq b 1 4 u ⟨hu,hb⟩
    have s1:=smallF_sz (b:=b) (lo:=1) (hi:=4) hu
    have hH:=hdOb.eq_1 b u
    simp only [sBox,hbad] at e1
    generalize smallF b 1 4 u=q1 at *
    have e2:=c143_eq b 0 2 q1.2 ⟨s1,hb⟩
    have s2:=smallF_sz (b:=b) (lo:=0) (hi:=2) s1
    simp only [sBox] at e2
    generalize smallF b 0 2 q1.2=q2 at *
    have e3:=c74_eq b false q2.2 ⟨s2,hb⟩
    have s3:=name7F_sz (b:=b) (mb:=false) s2
    simp only [sBox] at e3
    generalize name7F b false q2.2=q3 at *
    have e4:=c142_eq b (-1000000000) 1000000000 q3.2 ⟨s3,hb⟩
    have s4:=num7F_sz (b:=b) (lo:=-1000000000) (hi:=1000000000) s3
    simp only [sBox] at e4
    generalize num7F b (-1000000000) 1000000000 q3.2=q4 at *
    have e5:=c142_eq b (-1000000000) 1000000000 q4.2 ⟨s4,hb⟩
    have s5:=num7F_sz (b:=b) (lo:=-1000000000) (hi:=1000000000) s4
    simp only [sBox] at e5
    generalize num7F b (-1000000000) 1000000000 q4.2=q5 at *
    have e6:=c142_eq b 0 4 q5.2 ⟨s5,hb⟩
    have s6:=num7F_sz (b:=b) (lo:=0) (hi:=4) s5
    have r6:=num7F_in (b:=b) (s:=q5.2) (lo:=0) (hi:=4) (by omega)
    simp only [sBox] at e6
    generalize num7F b 0 4 q5.2=q6 at *
    have n1:¬ 0=t.nb:=by omega
    have n1':¬ t.nb=0:=by omega
    have m1:¬ p=t.nt:=by omega
    have m2:¬ p=t.nt + 1:=by omega
    have m3:¬ p=t.nt + 1 + 1:=by omega
    have hd0:0 < d:=by omega
    simp [h0,h4,h3,hB,hR,hL,hki,hd0,e1,e2,e3,e4,e5,e6,n1,n1',m1,m2,m3]
    obtain ⟨d',rfl⟩:∃ d',d=d' + 1:=⟨d - 1,by omega⟩
    simp only [manyF,hbad] at hacc
    have hty:obF b u=(⟨q3.1,q1.1,q2.1,q4.1,q5.1,(manyF (parF b) q6.1.toNat q6.2).1⟩,(manyF (parF b) q6.1.toNat q6.2).2):=by
      simp only [obF,hH]
    clear e1 e2 e3 e4 e5 e6
    refine lp_ind (fun j t'=>∃ (w:SRd) (fa:List Par) (fp:Nat),j≤4∧fa.length + j≤4∧w.at_≤b.size∧t'.e 0=.ptr 0 0∧t'.e 4=.int .i64 (d' + 1:Nat)∧t'.e 5=.ptr t.nb 0∧t'.e 6=.int .i64 j∧t.nb < t'.nb∧t'.B 0=some (.agg [.str b,.int .i64 w.at_,.bool w.bad,.int .i64 w.place]) ∧
      t'.B t.nb=some (.agg [.str q3.1,.int .i64 q1.1,.int .i64 q2.1,.int .i64 q4.1,.int .i64 q5.1,.own fp])∧fp < t'.nt∧t'.R fp=some ⟨3,fa.map Par.v,true⟩∧fp ≠ p∧(fa ++ (manyF (parF b) j w).1,(manyF (parF b) j w).2)=manyF (parF b) q6.1.toNat q6.2 ∧
      t'.e 3=.own p∧p < t'.nt∧t'.R p=some ⟨6,acc.map Obj.o,true⟩) q6.1.toNat ⟨q6.2,[],t.nt,by omega,by simp <;> omega,s6,by simp [h0,h3,h4,hR,n1,n1',m1,m2,m3] <;> omega,by simp [h0,h3,h4,hR,n1,n1',m1,m2,m3] <;> omega,by simp [h0,h3,h4,hR,n1,n1',m1,m2,m3] <;> omega,by simp [h0,h3,h4,hR,n1,n1',m1,m2,m3] <;> omega,by simp [h0,h3,h4,hR,n1,n1',m1,m2,m3] <;> omega,by simp [h0,h3,h4,hR,n1,n1',m1,m2,m3] <;> omega,by simp [h0,h3,h4,hR,n1,n1',m1,m2,m3] <;> omega,by simp [h0,h3,h4,hR,n1,n1',m1,m2,m3] <;> omega,by simp [h0,h3,h4,hR,n1,n1',m1,m2,m3] <;> omega,by simp [h0,h3,h4,hR,n1,n1',m1,m2,m3] <;> omega,by simp [h0,h3,h4,hR,n1,n1',m1,m2,m3] <;> omega,by simp [h0,h3,h4,hR,n1,n1',m1,m2,m3] <;> omega,by simp [h0,h3,h4,hR,n1,n1',m1,m2,m3] <;> omega⟩ ?_
    rintro c2 L2 hL2 j t' ih2 ⟨w,fa,fp,hj,hfl,hw,g0,g4,g5,g6,gnb,gB,gT,gfp,gF,gne,hfa,g3,gp,gR⟩
    have x1:¬ 0=t.nb:=by omega
    have x2:¬ 0=t'.nb:=by omega
    have x2':¬ t'.nb=0:=by omega
    have x3:¬ t.nb=t'.nb:=by omega
    have x3':¬ t'.nb=t.nb:=by omega
    have y1:¬ p=t'.nt:=by omega
    have y2:¬ p=t'.nt + 1:=by omega
    have y3:¬ p=t'.nt + 1 + 1:=by omega
    have z1:¬ fp=t'.nt:=by omega
    have z2:¬ fp=t'.nt + 1:=by omega
    have z3:¬ fp=t'.nt + 1 + 1:=by omega
    have gne':¬ p=fp:=fun e=>gne e.symm
    have hwr:IntKind.i64.wrap (((d' + 1:Nat):Int) - 1)=(d':Int):=by rw [wrap64 (by omega) (by omega)];omega
    have hrt:=roomOb (n:=acc.length + 1) (by omega)
    have hwd:IntKind.i64.wrap (d':Int)=(d':Int):=wrap64 (by omega) (by omega)
    have fin:∀ t2:S,manyF (parF b) q6.1.toNat q6.2=(fa,w)→t2.e 0=.ptr 0 0→t2.e 4=.int .i64 d'→0 < t2.nb→t2.B 0=some (.agg [.str b,.int .i64 w.at_,.bool w.bad,.int .i64 w.place]) →
        (∃ r,t2.e 3=.own r∧r < t2.nt∧t2.R r=some ⟨6,(acc ++ [(⟨q3.1,q1.1,q2.1,q4.1,q5.1,fa⟩:Obj)]).map Obj.o,true⟩)→L t2:=by
      intro t2 hm k0 k4 knb kB kr
      rw [hm] at hty
      refine ih d' t2 (by omega) ⟨w,acc ++ [⟨q3.1,q1.1,q2.1,q4.1,q5.1,fa⟩],by omega,by simp;omega,hw,k0,k4,knb,kB,?_,kr⟩
      rw [← hacc,hty]
      simp
    by_cases hj0:j=0
    · subst hj0
      simp only [manyF,List.append_nil] at hfa
      simp [g0,g4,g5,g6,gB,gT,gF,g3,gR,hL2,x1,x2,x3,x3',y1,y2,z1,z2,gne,gne',hrt,hwr,hL]
      refine fin _ hfa.symm ?_ ?_ ?_ ?_ ?_
      · simp [g0]
      · simp [hwd]
      · simp
        omega
      · simp [gB]
      · simp
    have hji:(0:Int) < j:=by omega
    have hj0':0 < j:=by omega
    cases hwb:w.bad with
    | true =>
      obtain ⟨j',rfl⟩:∃ j',j=j' + 1:=⟨j - 1,by omega⟩
      simp only [manyF,hwb,if_true,List.append_nil] at hfa
      rw [hwb] at gB
      simp [g0,g4,g5,g6,gB,gT,gF,g3,gR,hL2,hji,hj0',x1,x2,x3,x3',y1,y2,z1,z2,gne,gne',hrt,hwr,hL]
      refine fin _ hfa.symm ?_ ?_ ?_ ?_ ?_
      · simp [g0]
      · simp [hwd]
      · simp
        omega
      · simp [gB,hwb]
      · simp
    | false =>
      rw [hwb] at gB
      obtain ⟨j',rfl⟩:∃ j',j=j' + 1:=⟨j - 1,by omega⟩
      have e1:=c74_eq b false w ⟨hw,hb⟩
      have s1:=name7F_sz (b:=b) (mb:=false) hw
      have hff:=parF.eq_1 b w
      simp only [manyF,hwb] at hfa
      simp only [sBox,hwb] at e1
      generalize name7F b false w=v1 at *
      have e2:=c143_eq b 0 1 v1.2 ⟨s1,hb⟩
      have s2:=smallF_sz (b:=b) (lo:=0) (hi:=1) s1
      simp only [sBox] at e2
      generalize smallF b 0 1 v1.2=v2 at *
      have e3:=c142_eq b (-1000000000) 1000000000 v2.2 ⟨s2,hb⟩
      have s3:=num7F_sz (b:=b) (lo:=-1000000000) (hi:=1000000000) s2
      simp only [sBox] at e3
      generalize num7F b (-1000000000) 1000000000 v2.2=v3 at *
      have hrf:=roomPr (n:=fa.length + 1) (by omega)
      have hw2:IntKind.i64.wrap (((j' + 1:Nat):Int) - 1)=(j':Int):=by rw [wrap64 (by omega) (by omega)];omega
      simp [g0,g4,g5,g6,gB,gT,gF,g3,gR,hL2,hji,hj0',e1,e2,e3,x1,x2,x2',x3,x3',y1,y2,y3,z1,z2,z3,gne,gne',n1',hrf,hw2]
      have hwj:IntKind.i64.wrap (j':Int)=(j':Int):=wrap64 (by omega) (by omega)
      refine ih2 j' _ (by omega) ⟨v3.2,fa ++ [⟨v1.1,decide (v2.1=1),v3.1⟩],t'.nt + 1,by omega,by simp <;> omega,s3,by simp [g0,g3,g4,g5,gR,hw2,hwj,n1,n1',x1,x2,x2',x3,x3',y1,y2,z1,z2,gne,gne'] <;> omega,by simp [g0,g3,g4,g5,gR,hw2,hwj,n1,n1',x1,x2,x2',x3,x3',y1,y2,z1,z2,gne,gne'] <;> omega,by simp [g0,g3,g4,g5,gR,hw2,hwj,n1,n1',x1,x2,x2',x3,x3',y1,y2,z1,z2,gne,gne'] <;> omega,by simp [g0,g3,g4,g5,gR,hw2,hwj,n1,n1',x1,x2,x2',x3,x3',y1,y2,z1,z2,gne,gne'] <;> omega,by simp [g0,g3,g4,g5,gR,hw2,hwj,n1,n1',x1,x2,x2',x3,x3',y1,y2,z1,z2,gne,gne'] <;> omega,by simp [g0,g3,g4,g5,gR,hw2,hwj,n1,n1',x1,x2,x2',x3,x3',y1,y2,z1,z2,gne,gne'] <;> omega,by simp [g0,g3,g4,g5,gR,hw2,hwj,n1,n1',x1,x2,x2',x3,x3',y1,y2,z1,z2,gne,gne'] <;> omega,by simp [g0,g3,g4,g5,gR,hw2,hwj,n1,n1',x1,x2,x2',x3,x3',y1,y2,z1,z2,gne,gne'] <;> omega,by simp [g0,g3,g4,g5,gR,hw2,hwj,n1,n1',x1,x2,x2',x3,x3',y1,y2,z1,z2,gne,gne'] <;> rfl,by omega,?_,by simp [g0,g3,g4,g5,gR,hw2,hwj,n1,n1',x1,x2,x2',x3,x3',y1,y2,z1,z2,gne,gne'] <;> omega,by simp [g0,g3,g4,g5,gR,hw2,hwj,n1,n1',x1,x2,x2',x3,x3',y1,y2,z1,z2,gne,gne'] <;> omega,by simp [g0,g3,g4,g5,gR,hw2,hwj,n1,n1',x1,x2,x2',x3,x3',y1,y2,z1,z2,gne,gne'] <;> omega⟩
      rw [← hfa]
      simp [hff]
end Go.TM.Tryz
end
section
set_option maxHeartbeats 16000000
set_option maxRecDepth 20000
namespace Go.TM.Tryz
open Go Go.TM Go.Proofs
noncomputable def c149 (b:ByteArray):=ctrG (fun s:ORd=>OOK b s) (fun s=>([.ptr 0 0],[oBox b s])) (fun s=>⟨false,(tyO b s).1.o,[],[oBox b (tyO b s).2]⟩)
theorem c149_eq (b:ByteArray) (s:ORd) (h:OOK b s):c149 b [.ptr 0 0] [oBox b s]=some ⟨false,(tyO b s).1.o,[],[oBox b (tyO b s).2]⟩:=ctrG_eq (injOB0 _) s h rfl
theorem c149_ok (b:ByteArray):GOK Tryz.prog (149,[],c149 b):=ctrG_ok fun s h=>f149_ok b s h
def parO (b:ByteArray) (s:ORd):Par × ORd :=
  (⟨(nameO b false s).1,decide ((sinO b 0 1 (nameO b false s).2).1=1),(numO b (-1000000000) 1000000000 (sinO b 0 1 (nameO b false s).2).2).1⟩,(numO b (-1000000000) 1000000000 (sinO b 0 1 (nameO b false s).2).2).2)
theorem parO_sz {b:ByteArray} {s:ORd} (h:s.at_≤b.size):(parO b s).2.at_≤b.size:=numO_sz (sinO_sz (nameO_sz h))
def headBO (b:ByteArray) (s:ORd):(Int × Int × ByteArray × Int × Int × Int) × ORd :=
  let k:=sinO b 1 4 s
  let l:=sinO b 0 2 k.2
  let e:=nameO b false l.2
  let o:=numO b (-1000000000) 1000000000 e.2
  let n:=numO b (-1000000000) 1000000000 o.2
  let c:=numO b 0 4 n.2
  ((k.1,l.1,e.1,o.1,n.1,c.1),c.2)
theorem headBO_sz {b:ByteArray} {s:ORd} (h:s.at_≤b.size):(headBO b s).2.at_≤b.size:=numO_sz (numO_sz (numO_sz (nameO_sz (sinO_sz (sinO_sz h)))))
def obO (b:ByteArray) (s:ORd):Obj × ORd :=
  (⟨(headBO b s).1.2.2.1,(headBO b s).1.1,(headBO b s).1.2.1,(headBO b s).1.2.2.2.1,(headBO b s).1.2.2.2.2.1,(manyO (parO b) (headBO b s).1.2.2.2.2.2.toNat (headBO b s).2).1⟩,(manyO (parO b) (headBO b s).1.2.2.2.2.2.toNat (headBO b s).2).2)
theorem obO_sz {b:ByteArray} {s:ORd} (h:s.at_≤b.size):(obO b s).2.at_≤b.size:=manyO_sz (fun _=>parO_sz) _ _ (headBO_sz h)
theorem f150_ok (b:ByteArray) (s:ORd) (h:OOK b s):GenOK Tryz.prog 150 [.ptr 0 0] [oBox b s] ⟨false,(obO b s).1.o,[],[oBox b (obO b s).2]⟩:=by
  refine fun_okG (mkE_ok zmix (cl:=[]) (gl:=[(148,[],c148 b),(196,[],c196 b),(147,[],c147 b)]) [] trivial ⟨c148_ok b,c196_ok b,c147_ok b⟩) Tryz.func150 (by kernel_rfl) ?_
  refine FunG_run _ _ rfl rfl ?_
  obtain ⟨hs,hb⟩:=h
  have e1:=c196_eq b 1 4 s ⟨hs,hb⟩
  have s1:=sinO_sz (b:=b) (lo:=1) (hi:=4) hs
  have hH:=headBO.eq_1 b s
  simp only [oBox] at e1
  generalize sinO b 1 4 s=q1 at *
  have e2:=c196_eq b 0 2 q1.2 ⟨s1,hb⟩
  have s2:=sinO_sz (b:=b) (lo:=0) (hi:=2) s1
  simp only [oBox] at e2
  generalize sinO b 0 2 q1.2=q2 at *
  have e3:=c147_eq b false q2.2 ⟨s2,hb⟩
  have s3:=nameO_sz (b:=b) (mb:=false) s2
  simp only [oBox] at e3
  generalize nameO b false q2.2=q3 at *
  have e4:=c148_eq b (-1000000000) 1000000000 q3.2 ⟨s3,hb⟩
  have s4:=numO_sz (b:=b) (lo:=-1000000000) (hi:=1000000000) s3
  simp only [oBox] at e4
  generalize numO b (-1000000000) 1000000000 q3.2=q4 at *
  have e5:=c148_eq b (-1000000000) 1000000000 q4.2 ⟨s4,hb⟩
  have s5:=numO_sz (b:=b) (lo:=-1000000000) (hi:=1000000000) s4
  simp only [oBox] at e5
  generalize numO b (-1000000000) 1000000000 q4.2=q5 at *
  have e6:=c148_eq b 0 4 q5.2 ⟨s5,hb⟩
  have s6:=numO_sz (b:=b) (lo:=0) (hi:=4) s5
  have r6:=numO_in (b:=b) (s:=q5.2) (lo:=0) (hi:=4) (by omega) (by omega)
  simp only [oBox] at e6
  generalize numO b 0 4 q5.2=q6 at *
  have hty:obO b s=(⟨q3.1,q1.1,q2.1,q4.1,q5.1,(manyO (parO b) q6.1.toNat q6.2).1⟩,(manyO (parO b) q6.1.toNat q6.2).2):=by
    simp only [obO,hH]
  rw [hty]
  simp [e1,e2,e3,e4,e5,e6]
  clear e1 e2 e3 e4 e5 e6
  refine lp_ind (fun j t'=>∃ (w:ORd) (fa:List Par) (fp i:Nat),j + i=q6.1.toNat∧fa.length=i∧w.at_≤b.size∧t'.e 0=.ptr 0 0∧t'.e 2=.ptr 1 0∧t'.e 3=.ptr 2 0∧t'.e 21=.int .i64 q6.1∧t'.e 22=.int .i64 i∧2 < t'.nb∧t'.B 0=some (.agg [.str b,.int .i64 w.at_,.int .i64 w.bad])∧(∃ z,t'.B 1=some (.agg [.str ⟨#[]⟩,.int .i64 0,.int .i64 0,.int .i64 0,.int .i64 0,.own z])) ∧
      t'.B 2=some (.agg [.str q3.1,.int .i64 q1.1,.int .i64 q2.1,.int .i64 q4.1,.int .i64 q5.1,.own fp])∧fp < t'.nt∧t'.R fp=some ⟨3,fa.map Par.v,true⟩∧(fa ++ (manyO (parO b) j w).1,(manyO (parO b) j w).2)=manyO (parO b) q6.1.toNat q6.2) q6.1.toNat ⟨q6.2,[],1,0,by omega,rfl,s6,by simp <;> omega,by simp <;> omega,by simp <;> omega,by simp <;> omega,by simp <;> omega,by simp <;> omega,by simp <;> omega,by simp <;> omega,by simp <;> omega,by simp <;> omega,by simp <;> omega,by simp <;> omega⟩ ?_
  rintro c2 L2 hL2 j t' ih2 ⟨w,fa,fp,i,hj,hfl,hw,g0,g2,g3,g21,g22,gnb,gB,⟨z,gZ⟩,gT,gfp,gF,hfa⟩
  by_cases hj0:j=0
  · subst hj0
    have hii:¬ (i:Int) < q6.1:=by omega
    simp only [manyO,List.append_nil] at hfa
    rw [← hfa] at hL2 ⊢
    simp [g0,g2,g3,g21,g22,gB,gZ,gT,gF,hL2,hii]
  · have hii:(i:Int) < q6.1:=by omega
    obtain ⟨j',rfl⟩:∃ j',j=j' + 1:=⟨j - 1,by omega⟩
    have e1:=c147_eq b false w ⟨hw,hb⟩
    have s1:=nameO_sz (b:=b) (mb:=false) hw
    have hff:=parO.eq_1 b w
    simp only [oBox] at e1
    simp only [manyO] at hfa
    generalize nameO b false w=v1 at *
    have e2:=c196_eq b 0 1 v1.2 ⟨s1,hb⟩
    have s2:=sinO_sz (b:=b) (lo:=0) (hi:=1) s1
    simp only [oBox] at e2
    generalize sinO b 0 1 v1.2=v2 at *
    have e3:=c148_eq b (-1000000000) 1000000000 v2.2 ⟨s2,hb⟩
    have s3:=numO_sz (b:=b) (lo:=-1000000000) (hi:=1000000000) s2
    simp only [oBox] at e3
    generalize numO b (-1000000000) 1000000000 v2.2=v3 at *
    have hrf:=roomPr (n:=fa.length + 1) (by omega)
    have hwi:IntKind.i64.wrap ((i:Int) + 1)=((i + 1:Nat):Int):=(wrap64 (by omega) (by omega)).trans (by omega)
    have n0:¬ 0=t'.nb:=by omega
    have n1:¬ 1=t'.nb:=by omega
    have n2:¬ 2=t'.nb:=by omega
    have m0:¬ t'.nb=0:=by omega
    have m1:¬ t'.nb=1:=by omega
    have m2:¬ t'.nb=2:=by omega
    have y1:¬ fp=t'.nt:=by omega
    have y2:¬ fp=t'.nt + 1:=by omega
    simp [g0,g2,g3,g21,g22,gB,gZ,gT,gF,hL2,hii,e1,e2,e3,hrf,hwi,n0,n1,n2,m0,m1,m2,y1,y2]
    refine ih2 j' _ (by omega) ⟨v3.2,fa ++ [⟨v1.1,decide (v2.1=1),v3.1⟩],t'.nt + 1,i + 1,by omega,by simp [hfl],s3,by simp [g0,g2,g3,g21,g22,gB,gZ,gT,gF,hwi,n0,n1,n2,m0,m1,m2,y1,y2] <;> omega,by simp [g0,g2,g3,g21,g22,gB,gZ,gT,gF,hwi,n0,n1,n2,m0,m1,m2,y1,y2] <;> omega,by simp [g0,g2,g3,g21,g22,gB,gZ,gT,gF,hwi,n0,n1,n2,m0,m1,m2,y1,y2] <;> omega,by simp [g0,g2,g3,g21,g22,gB,gZ,gT,gF,hwi,n0,n1,n2,m0,m1,m2,y1,y2] <;> omega,by simp [g0,g2,g3,g21,g22,gB,gZ,gT,gF,hwi,n0,n1,n2,m0,m1,m2,y1,y2] <;> omega,by simp [g0,g2,g3,g21,g22,gB,gZ,gT,gF,hwi,n0,n1,n2,m0,m1,m2,y1,y2] <;> omega,by simp [g0,g2,g3,g21,g22,gB,gZ,gT,gF,hwi,n0,n1,n2,m0,m1,m2,y1,y2] <;> omega,by simp [g0,g2,g3,g21,g22,gB,gZ,gT,gF,hwi,n0,n1,n2,m0,m1,m2,y1,y2] <;> omega,by simp [g0,g2,g3,g21,g22,gB,gZ,gT,gF,hwi,n0,n1,n2,m0,m1,m2,y1,y2] <;> omega,by simp [g0,g2,g3,g21,g22,gB,gZ,gT,gF,hwi,n0,n1,n2,m0,m1,m2,y1,y2] <;> omega,by simp [g0,g2,g3,g21,g22,gB,gZ,gT,gF,hwi,n0,n1,n2,m0,m1,m2,y1,y2] <;> rfl,?_⟩
    rw [← hfa]
    simp [hff]
noncomputable def c150 (b:ByteArray):=ctrG (fun s:ORd=>OOK b s) (fun s=>([.ptr 0 0],[oBox b s])) (fun s=>⟨false,(obO b s).1.o,[],[oBox b (obO b s).2]⟩)
theorem c150_eq (b:ByteArray) (s:ORd) (h:OOK b s):c150 b [.ptr 0 0] [oBox b s]=some ⟨false,(obO b s).1.o,[],[oBox b (obO b s).2]⟩:=ctrG_eq (injOB0 _) s h rfl
theorem c150_ok (b:ByteArray):GOK Tryz.prog (150,[],c150 b):=ctrG_ok fun s h=>f150_ok b s h
end Go.TM.Tryz
end
