/- A part of the proof: RG. -/
import Derived.Test.YtknondpcbpgpoaaGreatK23
set_option linter.unusedVariables false
set_option linter.unusedSimpArgs false
section
set_option maxHeartbeats 16000000
set_option maxRecDepth 20000
namespace Go.TM.Tryz
open Go Go.TM Go.Proofs
noncomputable def c74 (b:ByteArray):=ctrG (fun a:SRd × Bool=>SOK b a.1) (fun a=>([.ptr 0 0,.bool a.2],[sBox b a.1])) (fun a=>⟨false,.str (name7F b a.2 a.1).1,[],[sBox b (name7F b a.2 a.1).2]⟩)
theorem c74_eq (b:ByteArray) (mb:Bool) (s:SRd) (h:SOK b s):c74 b [.ptr 0 0,.bool mb] [sBox b s]=some ⟨false,.str (name7F b mb s).1,[],[sBox b (name7F b mb s).2]⟩:=ctrG_eq (injSB1 _) (s,mb) h rfl
theorem c74_ok (b:ByteArray):GOK Tryz.prog (74,[],c74 b):=ctrG_ok fun a h=>f74_ok b a.2 a.1 h
theorem num7F_in {b:ByteArray} {lo hi:Int} {s:SRd} (h:lo≤hi):lo≤(num7F b lo hi s).1∧(num7F b lo hi s).1≤hi:=by
  unfold num7F
  split
  · exact ⟨Int.le_refl _,h⟩
  · split
    · exact ⟨Int.le_refl _,h⟩
    · rename_i h'
      simp only [not_or,Bool.not_eq_false] at h'
      have:=h'.2
      simp only [inB,Bool.and_eq_true,decide_eq_true_eq] at this
      exact this
def fldF (b:ByteArray) (s:SRd):Fld × SRd :=
  (⟨(name7F b true (smallF b 0 2 s).2).1,(smallF b 0 2 s).1,(num7F b (-1000000000) 1000000000 (name7F b true (smallF b 0 2 s).2).2).1⟩,(num7F b (-1000000000) 1000000000 (name7F b true (smallF b 0 2 s).2).2).2)
def manyF {α:Type} (g:SRd→α × SRd):Nat→SRd→List α × SRd
  | 0,s=>([],s)
  | k + 1,s=>if s.bad=true then ([],s) else ((g s).1 :: (manyF g k (g s).2).1,(manyF g k (g s).2).2)
theorem fldF_sz {b:ByteArray} {s:SRd} (h:s.at_≤b.size):(fldF b s).2.at_≤b.size:=num7F_sz (name7F_sz (smallF_sz h))
theorem manyF_sz {α:Type} {b:ByteArray} {g:SRd→α × SRd} (hg:∀ s,s.at_≤b.size→(g s).2.at_≤b.size):∀ (k:Nat) (s:SRd),s.at_≤b.size→(manyF g k s).2.at_≤b.size
  | 0,s,h=>h
  | k + 1,s,h=>by
    unfold manyF
    split
    · exact h
    · exact manyF_sz hg k _ (hg s h)
theorem manyF_len {α:Type} {g:SRd→α × SRd}:∀ (k:Nat) (s:SRd),(manyF g k s).1.length≤k
  | 0,s=>by simp [manyF]
  | k + 1,s=>by
    unfold manyF
    split
    · simp
    · have:=manyF_len (g:=g) k (g s).2
      simp
      omega
def headF (b:ByteArray) (s:SRd):(Int × Int × Int × ByteArray × ByteArray × Int) × SRd :=
  let k:=smallF b 4 6 s
  let l:=num7F b (-1000000000) 1000000000 k.2
  let e:=num7F b (-1000000000) 1000000000 l.2
  let o:=name7F b true e.2
  let n:=name7F b true o.2
  let c:=num7F b 0 6 n.2
  ((k.1,l.1,e.1,o.1,n.1,c.1),c.2)
def tyF (b:ByteArray) (s:SRd):Ty × SRd :=
  (⟨(headF b s).1.1,(headF b s).1.2.1,(headF b s).1.2.2.1,(manyF (fldF b) (headF b s).1.2.2.2.2.2.toNat (headF b s).2).1,(headF b s).1.2.2.2.1,(headF b s).1.2.2.2.2.1⟩,(manyF (fldF b) (headF b s).1.2.2.2.2.2.toNat (headF b s).2).2)
theorem headF_sz {b:ByteArray} {s:SRd} (h:s.at_≤b.size):(headF b s).2.at_≤b.size:=num7F_sz (name7F_sz (name7F_sz (num7F_sz (num7F_sz (smallF_sz h)))))
theorem tyF_sz {b:ByteArray} {s:SRd} (h:s.at_≤b.size):(tyF b s).2.at_≤b.size:=manyF_sz (fun _=>fldF_sz) _ _ (headF_sz h)
def tysF (b:ByteArray) (s:SRd):List Ty × SRd:=manyF (tyF b) (num7F b 0 21 s).1.toNat (num7F b 0 21 s).2
theorem f75_ok (b:ByteArray) (s:SRd) (h:SOK b s):GenOK Tryz.prog 75 [.ptr 0 0] [sBox b s] ⟨false,.inl 6 ((baseTys ++ (tysF b s).1).map Ty.o),[],[sBox b (tysF b s).2]⟩:=by
  refine fun_okG (mkE_ok zmix (cl:=[(141,c141)]) (gl:=[(142,[],c142 b),(143,[],c143 b),(74,[],c74 b)]) [] c141_ok ⟨c142_ok b,c143_ok b,c74_ok b⟩) Tryz.func75 (by kernel_rfl) ?_
  refine FunG_run _ _ rfl rfl ?_
  obtain ⟨hs,hb⟩:=h
  have hc:=num7F_in (b:=b) (s:=s) (lo:=0) (hi:=21) (by omega)
  have hcs:=num7F_sz (b:=b) (lo:=0) (hi:=21) hs
  have e142:=c142_eq b 0 21 s ⟨hs,hb⟩
  simp only [sBox] at e142
  have hT:=tysF.eq_1 b s
  generalize num7F b 0 21 s=q at *
  obtain ⟨c,u0⟩:=q
  simp only at hc hcs hT e142
  simp [c141_eq,e142]
  refine lp_ind (fun d t=>∃ (u:SRd) (acc:List Ty),d≤21∧acc.length + d≤21∧u.at_≤b.size∧t.e 0=.ptr 0 0∧t.e 4=.int .i64 d∧0 < t.nb∧t.B 0=some (.agg [.str b,.int .i64 u.at_,.bool u.bad,.int .i64 u.place])∧(acc ++ (manyF (tyF b) d u).1,(manyF (tyF b) d u).2)=tysF b s ∧
    ∃ p,t.e 3=.own p∧p < t.nt∧t.R p=some ⟨6,(baseTys ++ acc).map Ty.o,true⟩) c.toNat ⟨u0,[],by omega,by simp;omega,hcs,by simp,by simp;omega,by simp,by simp,by rw [hT];simp,?_⟩ ?_
  · simp
  rintro c' L hL d t ih ⟨u,acc,hd,hal,hu,h0,h4,hnb,hB,hacc,p,h3,hp,hR⟩
  by_cases hk:d=0
  · subst hk
    simp only [manyF,List.append_nil] at hacc
    rw [← hacc] at hL ⊢
    simp [h0,h4,h3,hB,hR,hL]
    rw [← List.map_append]
    exact noLs_tyo _
  have hki:(0:Int) < d:=by omega
  cases hbad:u.bad with
  | true =>
    obtain ⟨d',rfl⟩:∃ d',d=d' + 1:=⟨d - 1,by omega⟩
    simp only [manyF,hbad,if_true,List.append_nil] at hacc
    rw [hbad] at hB
    rw [← hacc] at hL ⊢
    simp [h0,h4,h3,hB,hR,hL,hki,hbad]
    rw [← List.map_append]
    exact noLs_tyo _
  | false =>
    rw [hbad] at hB
    have e1:=c143_eq b 4 6 u ⟨hu,hb⟩
    have s1:=smallF_sz (b:=b) (lo:=4) (hi:=6) hu
    have hH:=headF.eq_1 b u
    simp only [sBox,hbad] at e1
    generalize smallF b 4 6 u=q1 at *
    have e2:=c142_eq b (-1000000000) 1000000000 q1.2 ⟨s1,hb⟩
    have s2:=num7F_sz (b:=b) (lo:=-1000000000) (hi:=1000000000) s1
    simp only [sBox] at e2
    generalize num7F b (-1000000000) 1000000000 q1.2=q2 at *
    have e3:=c142_eq b (-1000000000) 1000000000 q2.2 ⟨s2,hb⟩
    have s3:=num7F_sz (b:=b) (lo:=-1000000000) (hi:=1000000000) s2
    simp only [sBox] at e3
    generalize num7F b (-1000000000) 1000000000 q2.2=q3 at *
    have e4:=c74_eq b true q3.2 ⟨s3,hb⟩
    have s4:=name7F_sz (b:=b) (mb:=true) s3
    simp only [sBox] at e4
    generalize name7F b true q3.2=q4 at *
    have e5:=c74_eq b true q4.2 ⟨s4,hb⟩
    have s5:=name7F_sz (b:=b) (mb:=true) s4
    simp only [sBox] at e5
    generalize name7F b true q4.2=q5 at *
    have e6:=c142_eq b 0 6 q5.2 ⟨s5,hb⟩
    have s6:=num7F_sz (b:=b) (lo:=0) (hi:=6) s5
    have r6:=num7F_in (b:=b) (s:=q5.2) (lo:=0) (hi:=6) (by omega)
    simp only [sBox] at e6
    generalize num7F b 0 6 q5.2=q6 at *
    have n1:¬ 0=t.nb:=by omega
    have n1':¬ t.nb=0:=by omega
    have m1:¬ p=t.nt:=by omega
    have m2:¬ p=t.nt + 1:=by omega
    have m3:¬ p=t.nt + 1 + 1:=by omega
    have hd0:0 < d:=by omega
    simp [h0,h4,h3,hB,hR,hL,hki,hd0,e1,e2,e3,e4,e5,e6,n1,n1',m1,m2,m3]
    obtain ⟨d',rfl⟩:∃ d',d=d' + 1:=⟨d - 1,by omega⟩
    simp only [manyF,hbad] at hacc
    have hty:tyF b u=(⟨q1.1,q2.1,q3.1,(manyF (fldF b) q6.1.toNat q6.2).1,q4.1,q5.1⟩,(manyF (fldF b) q6.1.toNat q6.2).2):=by
      simp only [tyF,hH]
    clear e1 e2 e3 e4 e5 e6
    refine lp_ind (fun j t'=>∃ (w:SRd) (fa:List Fld) (fp:Nat),j≤6∧fa.length + j≤6∧w.at_≤b.size∧t'.e 0=.ptr 0 0∧t'.e 4=.int .i64 (d' + 1:Nat)∧t'.e 5=.ptr t.nb 0∧t'.e 6=.int .i64 j∧t.nb < t'.nb∧t'.B 0=some (.agg [.str b,.int .i64 w.at_,.bool w.bad,.int .i64 w.place]) ∧
      t'.B t.nb=some (.agg [.int .i64 q1.1,.int .i64 q2.1,.int .i64 q3.1,.own fp,.str q4.1,.str q5.1])∧fp < t'.nt∧t'.R fp=some ⟨3,fa.map Fld.v,true⟩∧fp ≠ p∧(fa ++ (manyF (fldF b) j w).1,(manyF (fldF b) j w).2)=manyF (fldF b) q6.1.toNat q6.2 ∧
      t'.e 3=.own p∧p < t'.nt∧t'.R p=some ⟨6,(baseTys ++ acc).map Ty.o,true⟩) q6.1.toNat ⟨q6.2,[],t.nt,by omega,by simp <;> omega,s6,by simp [h0,h3,h4,hR,n1,n1',m1,m2,m3] <;> omega,by simp [h0,h3,h4,hR,n1,n1',m1,m2,m3] <;> omega,by simp [h0,h3,h4,hR,n1,n1',m1,m2,m3] <;> omega,by simp [h0,h3,h4,hR,n1,n1',m1,m2,m3] <;> omega,by simp [h0,h3,h4,hR,n1,n1',m1,m2,m3] <;> omega,by simp [h0,h3,h4,hR,n1,n1',m1,m2,m3] <;> omega,by simp [h0,h3,h4,hR,n1,n1',m1,m2,m3] <;> omega,by simp [h0,h3,h4,hR,n1,n1',m1,m2,m3] <;> omega,by simp [h0,h3,h4,hR,n1,n1',m1,m2,m3] <;> omega,by simp [h0,h3,h4,hR,n1,n1',m1,m2,m3] <;> omega,by simp [h0,h3,h4,hR,n1,n1',m1,m2,m3] <;> omega,by simp [h0,h3,h4,hR,n1,n1',m1,m2,m3] <;> omega,by simp [h0,h3,h4,hR,n1,n1',m1,m2,m3] <;> omega⟩ ?_
    rintro c2 L2 hL2 j t' ih2 ⟨w,fa,fp,hj,hfl,hw,g0,g4,g5,g6,gnb,gB,gT,gfp,gF,gne,hfa,g3,gp,gR⟩
    have x1:¬ 0=t.nb:=by omega
    have x2:¬ 0=t'.nb:=by omega
    have x2':¬ t'.nb=0:=by omega
    have x3:¬ t.nb=t'.nb:=by omega
    have x3':¬ t'.nb=t.nb:=by omega
    have y1:¬ p=t'.nt:=by omega
    have y2:¬ p=t'.nt + 1:=by omega
    have y3:¬ p=t'.nt + 1 + 1:=by omega
    have z1:¬ fp=t'.nt:=by omega
    have z2:¬ fp=t'.nt + 1:=by omega
    have z3:¬ fp=t'.nt + 1 + 1:=by omega
    have gne':¬ p=fp:=fun e=>gne e.symm
    have hwr:IntKind.i64.wrap (((d' + 1:Nat):Int) - 1)=(d':Int):=by rw [wrap64 (by omega) (by omega)];omega
    have hrt:=roomTy (n:=3 + acc.length + 1) (by omega)
    have hwd:IntKind.i64.wrap (d':Int)=(d':Int):=wrap64 (by omega) (by omega)
    have fin:∀ t2:S,manyF (fldF b) q6.1.toNat q6.2=(fa,w)→t2.e 0=.ptr 0 0→t2.e 4=.int .i64 d'→0 < t2.nb→t2.B 0=some (.agg [.str b,.int .i64 w.at_,.bool w.bad,.int .i64 w.place]) →
        (∃ r,t2.e 3=.own r∧r < t2.nt∧t2.R r=some ⟨6,(baseTys ++ (acc ++ [(⟨q1.1,q2.1,q3.1,fa,q4.1,q5.1⟩:Ty)])).map Ty.o,true⟩)→L t2:=by
      intro t2 hm k0 k4 knb kB kr
      rw [hm] at hty
      refine ih d' t2 (by omega) ⟨w,acc ++ [⟨q1.1,q2.1,q3.1,fa,q4.1,q5.1⟩],by omega,by simp;omega,hw,k0,k4,knb,kB,?_,kr⟩
      rw [← hacc,hty]
      simp
    by_cases hj0:j=0
    · subst hj0
      simp only [manyF,List.append_nil] at hfa
      simp [g0,g4,g5,g6,gB,gT,gF,g3,gR,hL2,x1,x2,x3,x3',y1,y2,z1,z2,gne,gne',hrt,hwr,hL]
      refine fin _ hfa.symm ?_ ?_ ?_ ?_ ?_
      · simp [g0]
      · simp [hwd]
      · simp
        omega
      · simp [gB]
      · simp
    have hji:(0:Int) < j:=by omega
    have hj0':0 < j:=by omega
    cases hwb:w.bad with
    | true =>
      obtain ⟨j',rfl⟩:∃ j',j=j' + 1:=⟨j - 1,by omega⟩
      simp only [manyF,hwb,if_true,List.append_nil] at hfa
      rw [hwb] at gB
      simp [g0,g4,g5,g6,gB,gT,gF,g3,gR,hL2,hji,hj0',x1,x2,x3,x3',y1,y2,z1,z2,gne,gne',hrt,hwr,hL]
      refine fin _ hfa.symm ?_ ?_ ?_ ?_ ?_
      · simp [g0]
      · simp [hwd]
      · simp
        omega
      · simp [gB,hwb]
      · simp
    | false =>
      rw [hwb] at gB
      obtain ⟨j',rfl⟩:∃ j',j=j' + 1:=⟨j - 1,by omega⟩
      have e1:=c143_eq b 0 2 w ⟨hw,hb⟩
      have s1:=smallF_sz (b:=b) (lo:=0) (hi:=2) hw
      have hff:=fldF.eq_1 b w
      simp only [sBox,hwb] at e1
      simp only [manyF,hwb] at hfa
      generalize smallF b 0 2 w=v1 at *
      have e2:=c74_eq b true v1.2 ⟨s1,hb⟩
      have s2:=name7F_sz (b:=b) (mb:=true) s1
      simp only [sBox] at e2
      generalize name7F b true v1.2=v2 at *
      have e3:=c142_eq b (-1000000000) 1000000000 v2.2 ⟨s2,hb⟩
      have s3:=num7F_sz (b:=b) (lo:=-1000000000) (hi:=1000000000) s2
      simp only [sBox] at e3
      generalize num7F b (-1000000000) 1000000000 v2.2=v3 at *
      have hrf:=roomFd (n:=fa.length + 1) (by omega)
      have hw2:IntKind.i64.wrap (((j' + 1:Nat):Int) - 1)=(j':Int):=by rw [wrap64 (by omega) (by omega)];omega
      simp [g0,g4,g5,g6,gB,gT,gF,g3,gR,hL2,hji,hj0',e1,e2,e3,x1,x2,x2',x3,x3',y1,y2,y3,z1,z2,z3,gne,gne',n1',hrf,hw2]
      have hwj:IntKind.i64.wrap (j':Int)=(j':Int):=wrap64 (by omega) (by omega)
      refine ih2 j' _ (by omega) ⟨v3.2,fa ++ [⟨v2.1,v1.1,v3.1⟩],t'.nt + 1,by omega,by simp <;> omega,s3,by simp [g0,g3,g4,g5,gR,hw2,hwj,n1,n1',x1,x2,x2',x3,x3',y1,y2,z1,z2,gne,gne'] <;> omega,by simp [g0,g3,g4,g5,gR,hw2,hwj,n1,n1',x1,x2,x2',x3,x3',y1,y2,z1,z2,gne,gne'] <;> omega,by simp [g0,g3,g4,g5,gR,hw2,hwj,n1,n1',x1,x2,x2',x3,x3',y1,y2,z1,z2,gne,gne'] <;> omega,by simp [g0,g3,g4,g5,gR,hw2,hwj,n1,n1',x1,x2,x2',x3,x3',y1,y2,z1,z2,gne,gne'] <;> omega,by simp [g0,g3,g4,g5,gR,hw2,hwj,n1,n1',x1,x2,x2',x3,x3',y1,y2,z1,z2,gne,gne'] <;> omega,by simp [g0,g3,g4,g5,gR,hw2,hwj,n1,n1',x1,x2,x2',x3,x3',y1,y2,z1,z2,gne,gne'] <;> omega,by simp [g0,g3,g4,g5,gR,hw2,hwj,n1,n1',x1,x2,x2',x3,x3',y1,y2,z1,z2,gne,gne'] <;> omega,by simp [g0,g3,g4,g5,gR,hw2,hwj,n1,n1',x1,x2,x2',x3,x3',y1,y2,z1,z2,gne,gne'] <;> omega,by simp [g0,g3,g4,g5,gR,hw2,hwj,n1,n1',x1,x2,x2',x3,x3',y1,y2,z1,z2,gne,gne'] <;> omega,by omega,?_,by simp [g0,g3,g4,g5,gR,hw2,hwj,n1,n1',x1,x2,x2',x3,x3',y1,y2,z1,z2,gne,gne'] <;> omega,by simp [g0,g3,g4,g5,gR,hw2,hwj,n1,n1',x1,x2,x2',x3,x3',y1,y2,z1,z2,gne,gne'] <;> omega,by simp [g0,g3,g4,g5,gR,hw2,hwj,n1,n1',x1,x2,x2',x3,x3',y1,y2,z1,z2,gne,gne'] <;> omega⟩
      rw [← hfa]
      simp [hff]
end Go.TM.Tryz
end
