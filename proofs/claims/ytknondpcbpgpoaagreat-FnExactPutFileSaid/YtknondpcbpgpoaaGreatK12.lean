/- A part of the proof: HE. -/
import Derived.Test.YtknondpcbpgpoaaGreatK11
set_option linter.unusedVariables false
set_option linter.unusedSimpArgs false
section
set_option maxHeartbeats 8000000
set_option maxRecDepth 20000
namespace Go.TM.Tryz
open Go Go.TM Go.Proofs
def renP (O:List Int) (p:Par):Par:=⟨p.name,p.byVar,numI O p.type⟩
def renO (O:List Int) (o:Obj):Obj:=⟨o.name,o.kind,o.mark,numI O o.type,o.value,o.params.map (renP O)⟩
def shownO (os:List Obj):List Obj:=os.filter fun o=>decide (o.mark ≠ 0)
def ordO (s:Scp):List Int:=(objsW (tk s.types (s.types.length + 1)) [0,1,2] s.objects).1
def exS (s:Scp):Scp:=⟨s.name,[],renTs s.types (ordO s) (ordO s),(shownO s.objects).map (renO (ordO s)),[]⟩
def tree61:TT:=.two false 0 (.two false 1 (.one false 2 (.one false 3 (.one false 4 (.one false 5 (.one false 6 (.one false 7 .done)))))) false 2 (.two false 1 (.one false 3 (.one false 4 (.one false 5 (.one false 6 (.one false 7 .done))))) false 3 (.two false 1 (.one false 4 (.one false 5 (.one false 6 (.one false 7 .done)))) false 4 (.one false 1 (.one false 5 (.one false 6 (.one false 7 .done))))))) false 2 (.two false 0 (.two false 1 (.one false 3 (.one false 4 (.one false 5 (.one false 6 (.one false 7 .done))))) false 3 (.two false 1 (.one false 4 (.one false 5 (.one false 6 (.one false 7 .done)))) false 4 (.one false 1 (.one false 5 (.one false 6 (.one false 7 .done)))))) false 3 (.two false 0 (.two false 1 (.one false 4 (.one false 5 (.one false 6 (.one false 7 .done)))) false 4 (.one false 1 (.one false 5 (.one false 6 (.one false 7 .done))))) false 4 (.one false 0 (.one false 1 (.one false 5 (.one false 6 (.one false 7 .done)))))))
def cut61a:Pl:=⟨[],[],[],[0,1,2,3,4,5,6,7],tree61⟩
def cut61b:Pl:=⟨[2,3],[(0,false),(1,false),(4,false),(5,false),(6,true),(7,false),(8,false)],[],[9],.seq [9]⟩
def cut61c:Pl:=⟨[2,6,7],[(0,false),(1,false),(3,false),(4,false),(5,false),(8,false),(9,false),(10,true),(11,false),(12,false)],[],[13],.seq [13]⟩
theorem cut61a_run {E:Env} (pl:Option (List (Nat × Bool))) (ops:Array Oper) (k:List Fr) (Q:X→S→Prop) (s:S):aftE (some cut61a) pl ops k E Q s=preK E ops k Q tree61 [] s:=rfl
theorem cut61b_run {E:Env} (pl:Option (List (Nat × Bool))) (ops:Array Oper) (k:List Fr) (Q:X→S→Prop) (s:S):aftE (some cut61b) pl ops k E Q s=preK E ops k Q (.seq [9]) [(2,false),(3,false),(0,false),(1,false),(4,false),(5,false),(6,true),(7,false),(8,false)] s:=rfl
theorem cut61c_run {E:Env} (pl:Option (List (Nat × Bool))) (ops:Array Oper) (k:List Fr) (Q:X→S→Prop) (s:S):aftE (some cut61c) pl ops k E Q s=preK E ops k Q (.seq [13]) [(2,false),(6,false),(7,false),(0,false),(1,false),(3,false),(4,false),(5,false),(8,false),(9,false),(10,true),(11,false),(12,false)] s:=rfl
theorem f61_ok (s:Scp) (h:BOK s.types) (hs:ExRef s):FunOK Tryz.prog 61 [s.v] false (exS s).o:=by
  refine fun_ok (mkE2_ok zmix (cl:=[(116,c116),(118,c118),(119,c119 s.types)]) (gl:=[(117,[],cVis s.types (s.types.length + 1)),(120,[],c120 s.types)]) [] [(13,cut61a),(18,cut61b),(22,cut61c)] ⟨c116_ok,c118_ok,c119_ok _⟩
    ⟨ctrG_ok fun a ha=>f117_ok h.ty h.l24 h.f6 _ a.1 a.2 ha,c120_ok _⟩) Tryz.func61 (by kernel_rfl) ?_
  refine FunW_run _ _ rfl rfl ?_
  have e116:=c116_eq h
  simp only [bxV] at e116
  have hl3:=hs.t3
  have hL0:0 < s.types.length:=by omega
  have hg:∀ o (n:Int),OrdOK s.types.length o→s.types.length - o.length < s.types.length + 1→n < s.types.length→TkOK s.types.length o (tk s.types (s.types.length + 1) o n).2.1 (tk s.types (s.types.length + 1) o n).2.2:=fun o n ho hm hn=>tk_ok hs.ty _ o n ho hm hn
  have hord0:OrdOK s.types.length [0,1,2]:=⟨by decide,by simp;omega⟩
  have ho16:=hs.o16
  simp [e116]
  refine lp_list s.objects (fun i t=>t.e 2=.ptr 1 0∧t.e 3=.ptr 2 0∧t.e 4=.ptr 3 0∧t.e 20=.lst (s.objects.map Obj.v)∧t.e 21=.int .i64 s.objects.length∧t.e 22=.int .i64 i∧3 < t.nb∧t.B 1=some (.agg [.str ⟨#[]⟩,.own 0,.own 1,.own 2,.own 3]) ∧
    t.R 4=some ⟨1,[],true⟩∧t.R 5=some ⟨6,[],true⟩∧t.R 7=some ⟨2,[],true⟩∧∃ ob p q,5 < ob∧ob ≠ 7∧ob < t.nt∧7 < p∧p < t.nt∧7 < q∧q < t.nt∧p ≠ q∧ob ≠ p∧ob ≠ q ∧
      t.B 2=some (.agg [.str s.name,.own 4,.own 5,.own ob,.own 7])∧t.R ob=some ⟨6,(shownO (s.objects.take i)).map Obj.o,true⟩∧t.B 3=some (.agg [.lst (s.types.map Ty.v),.own p,.own q]) ∧
      t.R p=some ⟨1,(toOf s.types.length (objsW (tk s.types (s.types.length + 1)) [0,1,2] (s.objects.take i)).1).map (V.int .i64),true⟩∧t.R q=some ⟨1,(objsW (tk s.types (s.types.length + 1)) [0,1,2] (s.objects.take i)).1.map (V.int .i64),true⟩) ?_ ?_ ?_
  · simp [objsW,shownO]
    exact ⟨6,by omega,by omega,by omega,12,by omega,by omega,13,by omega,by omega,by omega,by omega,by omega,rfl,by simp,⟨rfl,rfl⟩,by simp,by simp⟩
  · rintro c' L hL i t x hx hi ih ⟨h2,h3,h4,h20,h21,h22,hnb,hB1,hR4,hR5,hR7,ob,p,q,o5,o7,on,p7,pn,q7,qn,npq,nop,noq,hB2,hRo,hB3,hRp,hRq⟩
    have hxm:=List.mem_of_getElem? hx
    obtain ⟨hxt,hxp⟩:=hs.ob x hxm
    have hx4:=hs.p4 x hxm
    have hw:=wrI (i:=i) (by omega)
    have hsn:=congrArg Prod.fst (objsW_snoc (tk s.types (s.types.length + 1)) x (s.objects.take i) [0,1,2])
    rw [show s.objects.take i ++ [x]=s.objects.take (i + 1) by rw [List.take_add_one,hx];rfl] at hsn
    simp only at hsn
    have hTk:=objsW_ok (m:=s.types.length + 1) hg (s.objects.take i) [0,1,2] (fun o hm=>hs.ob o (List.mem_of_mem_take hm)) hord0 (by omega)
    have hsh:shownO (s.objects.take (i + 1))=shownO (s.objects.take i) ++ shownO [x]:=by
      rw [List.take_add_one,hx];simp [shownO]
    have hsl:(shownO (s.objects.take i)).length≤16:=by
      have:=List.length_filter_le (fun o:Obj=>decide (o.mark ≠ 0)) (s.objects.take i)
      rw [List.length_take] at this
      unfold shownO
      omega
    generalize (objsW (tk s.types (s.types.length + 1)) [0,1,2] (s.objects.take i)).1=O1 at *
    have b2:¬ 2=t.nb:=by omega
    have b3:¬ 3=t.nb:=by omega
    have b1:¬ 1=t.nb:=by omega
    have n4:¬ 4=t.nt:=by omega
    have n5:¬ 5=t.nt:=by omega
    have n7:¬ 7=t.nt:=by omega
    have nb:¬ ob=t.nt:=by omega
    have np:¬ p=t.nt:=by omega
    have nq:¬ q=t.nt:=by omega
    have y1:¬ t.nb=3:=by omega
    have nqp:¬ q=p:=fun e=>npq e.symm
    have npq':¬ p=q:=npq
    by_cases hm0:x.mark=0
    · simp [-getElem?_pos,gcz,gcs,-aftE_some,cut61a_run,tree61,pureOp,h2,h3,h4,h20,h21,h22,hL,hi,hx,hm0]
      refine ih _ ⟨by simp [h2],by simp [h3],by simp [h4],by simp [h20],by simp [h21],by simp [hw],by simp;omega,by simp [b1,hB1],by simp [n4,hR4],by simp [n5,hR5],by simp [n7,hR7],ob,p,q,o5,o7,by simp;omega,p7,by simp;omega,q7,by simp;omega,npq,nop,noq,by simp [b2,hB2],?_,by simp [b3,hB3],?_,?_⟩
      · rw [hsh];simp [nb,hRo,shownO,hm0]
      · rw [hsn];simp [np,hRp,objW,hm0]
      · rw [hsn];simp [nq,hRq,objW,hm0]
    · have e1:=cVis_eq (l:=s.types) (f:=s.types.length + 1) (ord:=O1) (n:=x.type) ⟨hTk.ok,hxt,by omega,hL0⟩
      simp only [bxV] at e1
      have hok2:=tk_ok hs.ty (s.types.length + 1) O1 x.type hTk.ok (by omega) hxt
      simp [-getElem?_pos,gcz,gcs,-aftE_some,cut61a_run,tree61,pureOp,h2,h3,h4,h20,h21,h22,hL,hi,hx,hm0,b2,b3,b1,hB1,hB2,hB3,hRp,hRq,e1,npq',nqp,np,nq,y1]
      have q1:¬ 4=p:=by omega
      have q2:¬ 5=p:=by omega
      have q3:¬ 7=p:=by omega
      have q4:¬ 4=q:=by omega
      have q5:¬ 5=q:=by omega
      have q6:¬ 7=q:=by omega
      have nop':¬ ob=p:=nop
      have noq':¬ ob=q:=noq
      have m4:¬ 4=t.nt + 1:=by omega
      have m5:¬ 5=t.nt + 1:=by omega
      have m7:¬ 7=t.nt + 1:=by omega
      have mb:¬ ob=t.nt + 1:=by omega
      have m4':¬ 4=t.nt + 1 + 1:=by omega
      have m5':¬ 5=t.nt + 1 + 1:=by omega
      have m7':¬ 7=t.nt + 1 + 1:=by omega
      have mb':¬ ob=t.nt + 1 + 1:=by omega
      refine lp_list x.params (fun j u=>u.e 2=.ptr 1 0∧u.e 3=.ptr 2 0∧u.e 4=.ptr 3 0∧u.e 20=.lst (s.objects.map Obj.v)∧u.e 21=.int .i64 s.objects.length∧u.e 22=.int .i64 i∧u.e 6=.ptr t.nb 0∧t.nb < u.nb∧u.e 34=.lst (x.params.map Par.v)∧u.e 35=.int .i64 x.params.length∧u.e 36=.int .i64 j ∧
        u.B 1=some (.agg [.str ⟨#[]⟩,.own 0,.own 1,.own 2,.own 3])∧u.B t.nb=some (.agg [.str x.name,.int .i64 x.kind,.int .i64 x.mark,.int .i64 x.type,.int .i64 x.value,.lst (x.params.map Par.v)]) ∧
        u.R 4=some ⟨1,[],true⟩∧u.R 5=some ⟨6,[],true⟩∧u.R 7=some ⟨2,[],true⟩∧u.B 2=some (.agg [.str s.name,.own 4,.own 5,.own ob,.own 7])∧u.R ob=some ⟨6,(shownO (s.objects.take i)).map Obj.o,true⟩∧ob < u.nt ∧
        ∃ p q,7 < p∧p < u.nt∧7 < q∧q < u.nt∧p ≠ q∧ob ≠ p∧ob ≠ q∧u.B 3=some (.agg [.lst (s.types.map Ty.v),.own p,.own q]) ∧
        u.R p=some ⟨1,(toOf s.types.length (parsW (tk s.types (s.types.length + 1)) (tk s.types (s.types.length + 1) O1 x.type).2.1 (x.params.take j)).1).map (V.int .i64),true⟩ ∧
        u.R q=some ⟨1,(parsW (tk s.types (s.types.length + 1)) (tk s.types (s.types.length + 1) O1 x.type).2.1 (x.params.take j)).1.map (V.int .i64),true⟩) ?_ ?_ ?_
      · refine ⟨by simp [h2],by simp [h3],by simp [h4],by simp [h20],by simp [h21],by simp [h22],by simp,by simp,by simp,by simp,by simp,by simp [b1,hB1],by simp [y1],by simp [n4,m4,m4',q1,q4,hR4],by simp [n5,m5,m5',q2,q5,hR5],by simp [n7,m7,m7',q3,q6,hR7],by simp [b2,hB2],by simp [nb,mb,mb',nop',noq',hRo],by simp;omega,t.nt + 1,t.nt + 1 + 1,by omega,by simp,by omega,by simp,by omega,by omega,by omega,by simp,by simp [parsW],by simp [parsW]⟩
      · clear h2 h3 h4 h20 h21 h22 hB1 hR4 hR5 hR7 hB2 hRo hB3 hRp hRq np nq npq' nqp q1 q2 q3 q4 q5 q6 nop noq nop' noq' npq p7 pn q7 qn
        rintro c2 L2 hL2 j u y hy hj ihJ ⟨h2,h3,h4,h20,h21,h22,h6,k1,h34,h35,h36,hB1,hBo,hR4,hR5,hR7,hB2,hRo,on2,p,q,p7,pn,q7,qn,npq,nop,noq,hB3,hRp,hRq⟩
        have hym:=List.mem_of_getElem? hy
        have hyt:=hxp y hym
        have hw2:IntKind.i64.wrap ((j:Int) + 1)=((j + 1:Nat):Int):=wrap64 (by omega) (by omega)
        have hsn2:=congrArg Prod.fst (parsW_snoc (tk s.types (s.types.length + 1)) y (x.params.take j) (tk s.types (s.types.length + 1) O1 x.type).2.1)
        rw [show x.params.take j ++ [y]=x.params.take (j + 1) by rw [List.take_add_one,hy];rfl] at hsn2
        simp only at hsn2
        have hTk2:=parsW_ok (m:=s.types.length + 1) hg (x.params.take j) (tk s.types (s.types.length + 1) O1 x.type).2.1 (fun z hz=>hxp z (List.mem_of_mem_take hz)) hok2.ok (by omega)
        generalize (parsW (tk s.types (s.types.length + 1)) (tk s.types (s.types.length + 1) O1 x.type).2.1 (x.params.take j)).1=O2 at *
        have e2:=cVis_eq (l:=s.types) (f:=s.types.length + 1) (ord:=O2) (n:=y.type) ⟨hTk2.ok,hyt,by omega,hL0⟩
        simp only [bxV] at e2
        have z1:¬ 1=u.nb:=by omega
        have z2:¬ 2=u.nb:=by omega
        have z3:¬ 3=u.nb:=by omega
        have z4:¬ t.nb=u.nb:=by omega
        have npq':¬ p=q:=npq
        have nqp:¬ q=p:=fun e=>npq e.symm
        have y2:¬ u.nb=3:=by omega
        simp [-getElem?_pos,gcz,gcs,h2,h3,h4,h20,h21,h22,h6,h34,h35,h36,hL2,hj,hy,z1,z2,z3,z4,hB1,hB2,hB3,hBo,hRp,hRq,e2,npq',nqp,y2]
        have q1:¬ 4=p:=by omega
        have q2:¬ 5=p:=by omega
        have q3:¬ 7=p:=by omega
        have q4:¬ 4=q:=by omega
        have q5:¬ 5=q:=by omega
        have q6:¬ 7=q:=by omega
        have nop':¬ ob=p:=nop
        have noq':¬ ob=q:=noq
        have m4:¬ 4=u.nt:=by omega
        have m5:¬ 5=u.nt:=by omega
        have m7:¬ 7=u.nt:=by omega
        have mb:¬ ob=u.nt:=by omega
        have m4':¬ 4=u.nt + 1:=by omega
        have m5':¬ 5=u.nt + 1:=by omega
        have m7':¬ 7=u.nt + 1:=by omega
        have mb':¬ ob=u.nt + 1:=by omega
        refine ihJ _ ⟨by simp [h2],by simp [h3],by simp [h4],by simp [h20],by simp [h21],by simp [h22],by simp [h6],by simp;omega,by simp [h34],by simp [h35],by simp [hw2],by simp [z1,hB1],by simp [y1,z4,hBo],by simp [m4,m4',q1,q4,hR4],by simp [m5,m5',q2,q5,hR5],by simp [m7,m7',q3,q6,hR7],by simp [z2,hB2],by simp [mb,mb',nop',noq',hRo],by simp;omega,u.nt,u.nt + 1,by omega,by simp;omega,by omega,by simp,by omega,by omega,by omega,by simp,by simp [hsn2],by simp [hsn2]⟩
      · clear h2 h3 h4 h20 h21 h22 hB1 hR4 hR5 hR7 hB2 hRo hB3 hRp hRq np nq npq' nqp q1 q2 q3 q4 q5 q6 nop noq nop' noq' npq p7 pn q7 qn
        rintro c2 u ⟨h2,h3,h4,h20,h21,h22,h6,k1,h34,h35,h36,hB1,hBo,hR4,hR5,hR7,hB2,hRo,on2,p,q,p7,pn,q7,qn,npq,nop,noq,hB3,hRp,hRq⟩
        rw [List.take_length] at hRp hRq
        have e118:=c118_eq x (by omega)
        simp only [Obj.v,Obj.o] at e118
        have hr:room ⟨6,true,72,.agg [.str ⟨#[]⟩,.int .i64 0,.int .i64 0,.int .i64 0,.int .i64 0,.inl 3 []]⟩ ((shownO (s.objects.take i)).length + 1):=by simp [room];omega
        have mb:¬ ob=u.nt:=by omega
        have mb1:¬ ob=u.nt + 1:=by omega
        have mb2:¬ u.nt + 1=ob:=by omega
        have mb3:¬ u.nt=ob:=by omega
        simp [-getElem?_pos,gcz,gcs,-aftE_some,cut61a_run,tree61,pureOp,h2,h3,h4,h20,h21,h22,h6,h34,h35,h36,hL,hB1,hB2,hB3,hBo,hRo,e118,hr,mb,mb1,mb2,mb3]
        have r4:¬ 4=ob:=by omega
        have r5:¬ 5=ob:=by omega
        have r7:¬ 7=ob:=by omega
        have rp:¬ p=ob:=fun e=>nop e.symm
        have rq:¬ q=ob:=fun e=>noq e.symm
        have s4:¬ 4=u.nt:=by omega
        have s5:¬ 5=u.nt:=by omega
        have s7:¬ 7=u.nt:=by omega
        have sp:¬ p=u.nt:=by omega
        have sq:¬ q=u.nt:=by omega
        have t4:¬ 4=u.nt + 1:=by omega
        have t5:¬ 5=u.nt + 1:=by omega
        have t7:¬ 7=u.nt + 1:=by omega
        have tp:¬ p=u.nt + 1:=by omega
        have tq:¬ q=u.nt + 1:=by omega
        have u4:¬ 4=u.nt + 1 + 1:=by omega
        have u5:¬ 5=u.nt + 1 + 1:=by omega
        have u7:¬ 7=u.nt + 1 + 1:=by omega
        have up:¬ p=u.nt + 1 + 1:=by omega
        have uq:¬ q=u.nt + 1 + 1:=by omega
        repeat' (with_reducible apply And.intro)
        all_goals
          refine ih _ ⟨by simp [h2],by simp [h3],by simp [h4],by simp [h20],by simp [h21],by simp [hw],by simp;omega,by simp [hB1],by simp [r4,s4,t4,u4,hR4],by simp [r5,s5,t5,u5,hR5],by simp [r7,s7,t7,u7,hR7],u.nt + 1 + 1,p,q,by omega,by omega,by simp,p7,by simp;omega,q7,by simp;omega,npq,by omega,by omega,by simp,?_,by simp [hB3],?_,?_⟩
          · rw [hsh];simp [shownO,hm0]
          · rw [hsn];simp [rp,sp,tp,up,hRp,objW,hm0]
          · rw [hsn];simp [rq,sq,tq,uq,hRq,objW,hm0]
  · rintro c' t ⟨h2,h3,h4,h20,h21,h22,hnb,hB1,hR4,hR5,hR7,ob,p,q,o5,o7,on,p7,pn,q7,qn,npq,nop,noq,hB2,hRo,hB3,hRp,hRq⟩
    rw [List.take_length] at hRo hRp hRq
    have hTk:=objsW_ok (m:=s.types.length + 1) hg s.objects [0,1,2] hs.ob hord0 (by omega)
    have hOd:(objsW (tk s.types (s.types.length + 1)) [0,1,2] s.objects).1=ordO s:=rfl
    have hOk:=hTk.ok
    rw [hOd] at hRp hRq hOk
    unfold exS
    have hOS:∀ o ∈ shownO s.objects,o ∈ s.objects:=fun o ho=>(List.mem_filter.1 ho).1
    have hol:(shownO s.objects).length≤16:=Nat.le_trans (List.length_filter_le _ _) ho16
    generalize shownO s.objects=OS at *
    generalize ordO s=O at *
    simp [h2,h3,h4,h20,h21,h22,hB1,hB2,hB3,hRo]
    refine lp_list OS (fun i t=>t.e 2=.ptr 1 0∧t.e 3=.ptr 2 0∧t.e 4=.ptr 3 0∧t.e 54=.own ob∧t.e 55=.int .i64 OS.length∧t.e 56=.int .i64 i∧3 < t.nb∧ob < t.nt∧p < t.nt∧q < t.nt∧t.B 1=some (.agg [.str ⟨#[]⟩,.own 0,.own 1,.own 2,.own 3]) ∧
      t.R 4=some ⟨1,[],true⟩∧t.R 5=some ⟨6,[],true⟩∧t.R 7=some ⟨2,[],true⟩ ∧
      t.B 2=some (.agg [.str s.name,.own 4,.own 5,.own ob,.own 7])∧t.R ob=some ⟨6,((OS.take i).map (renO O) ++ OS.drop i).map Obj.o,true⟩∧t.B 3=some (.agg [.lst (s.types.map Ty.v),.own p,.own q]) ∧
      t.R p=some ⟨1,(toOf s.types.length O).map (V.int .i64),true⟩∧t.R q=some ⟨1,O.map (V.int .i64),true⟩) ?_ ?_ ?_
    · simp [h2,h3,h4,hB1,hB2,hB3,hRo,hRp,hRq,hR4,hR5,hR7,hnb,on,pn,qn]
    · clear h2 h3 h4 h20 h21 h22 hnb hB1 hR4 hR5 hR7 on pn qn hB2 hRo hB3 hRp hRq
      rintro c2 L hL i t x hx hi ih ⟨h2,h3,h4,h54,h55,h56,hnb,on,pn,qn,hB1,hR4,hR5,hR7,hB2,hRo,hB3,hRp,hRq⟩
      have hxm:=hOS x (List.mem_of_getElem? hx)
      obtain ⟨hxt,hxp⟩:=hs.ob x hxm
      have hx4:=hs.p4 x hxm
      have hw:=wrI (i:=i) (by omega)
      have e119:=c119_eq (l:=s.types) (ord:=O) hxt
      have hdr:OS.drop i=x :: OS.drop (i + 1):=by
        rw [List.getElem?_eq_some_iff] at hx
        rw [← hx.2]
        exact List.drop_eq_getElem_cons hi
      have htl:((OS.take i).map (renO O)).length=i:=by rw [List.length_map,List.length_take];omega
      have hL0':((OS.take i).map (renO O) ++ OS.drop i).length=OS.length:=by rw [List.length_append,htl,List.length_drop];omega
      have hg0:((OS.take i).map (renO O) ++ OS.drop i)[i]?=some x:=by
        rw [hdr]
        have:=get_mid ((OS.take i).map (renO O)) (OS.drop (i + 1)) x
        rwa [htl] at this
      have hset:∀ y,((OS.take i).map (renO O) ++ OS.drop i).set i y=(OS.take i).map (renO O) ++ y :: OS.drop (i + 1):=fun y=>by
        rw [hdr]
        have:=set_mid ((OS.take i).map (renO O)) (OS.drop (i + 1)) x y
        rwa [htl] at this
      generalize hls:(OS.take i).map (renO O) ++ OS.drop i=ls at *
      have b1:¬ 1=t.nb:=by omega
      have b2:¬ 2=t.nb:=by omega
      have b3:¬ 3=t.nb:=by omega
      have nb:¬ ob=t.nt:=by omega
      have np:¬ p=t.nt:=by omega
      have nq:¬ q=t.nt:=by omega
      have npo:¬ p=ob:=fun e=>nop e.symm
      have nqo:¬ q=ob:=fun e=>noq e.symm
      simp [-getElem?_pos,gcz,gcs,-aftE_some,cut61b_run,pureOp,h2,h3,h4,h54,h55,h56,hL,hi,hx,hB1,hB2,hB3,hRo,hRp,hRq,hL0',hg0,b1,b2,b3,nb,np,nq,npo,nqo,e119]
      refine lp_list x.params (fun j u=>u.e 2=.ptr 1 0∧u.e 3=.ptr 2 0∧u.e 4=.ptr 3 0∧u.e 54=.own ob∧u.e 55=.int .i64 OS.length∧u.e 56=.int .i64 i∧u.e 9=.int .i64 i∧u.e 71=.sub ob i 5∧u.e 72=.int .i64 x.params.length∧u.e 73=.int .i64 j ∧
        3 < u.nb∧ob < u.nt∧p < u.nt∧q < u.nt∧u.B 1=some (.agg [.str ⟨#[]⟩,.own 0,.own 1,.own 2,.own 3]) ∧
        u.R 4=some ⟨1,[],true⟩∧u.R 5=some ⟨6,[],true⟩∧u.R 7=some ⟨2,[],true⟩ ∧
        u.B 2=some (.agg [.str s.name,.own 4,.own 5,.own ob,.own 7])∧u.R ob=some ⟨6,(ls.set i ⟨x.name,x.kind,x.mark,numI O x.type,x.value,(x.params.take j).map (renP O) ++ x.params.drop j⟩).map Obj.o,true⟩∧u.B 3=some (.agg [.lst (s.types.map Ty.v),.own p,.own q]) ∧
        u.R p=some ⟨1,(toOf s.types.length O).map (V.int .i64),true⟩∧u.R q=some ⟨1,O.map (V.int .i64),true⟩) ?_ ?_ ?_
      · have r4:¬ 4=ob:=by omega
        have r5:¬ 5=ob:=by omega
        have r7:¬ 7=ob:=by omega
        have s4:¬ 4=t.nt:=by omega
        have s5:¬ 5=t.nt:=by omega
        have s7:¬ 7=t.nt:=by omega
        simp [h2,h3,h4,h54,h55,h56,hB1,hB2,hB3,hRp,hRq,hR4,hR5,hR7,b1,b2,b3,nb,np,nq,npo,nqo,r4,r5,r7,s4,s5,s7,List.map_set]
        omega
      · clear h2 h3 h4 h54 h55 h56 hnb hB1 hR4 hR5 hR7 on pn qn hB2 hRo hB3 hRp hRq b1 b2 b3 nb np nq
        rintro c3 L3 hL3 j u y hy hj ihJ ⟨h2,h3,h4,h54,h55,h56,h9,h71,h72,h73,hnb,on,pn,qn,hB1,hR4,hR5,hR7,hB2,hRo,hB3,hRp,hRq⟩
        have hyt:=hxp y (List.mem_of_getElem? hy)
        have hw2:IntKind.i64.wrap ((j:Int) + 1)=((j + 1:Nat):Int):=wrap64 (by omega) (by omega)
        have e2:=c119_eq (l:=s.types) (ord:=O) hyt
        have hdr2:x.params.drop j=y :: x.params.drop (j + 1):=by
          rw [List.getElem?_eq_some_iff] at hy
          rw [← hy.2]
          exact List.drop_eq_getElem_cons hj
        have htl2:((x.params.take j).map (renP O)).length=j:=by rw [List.length_map,List.length_take];omega
        have hpl:((x.params.take j).map (renP O) ++ x.params.drop j).length=x.params.length:=by rw [List.length_append,htl2,List.length_drop];omega
        have hpg:((x.params.take j).map (renP O) ++ x.params.drop j)[j]?=some y:=by
          rw [hdr2]
          have:=get_mid ((x.params.take j).map (renP O)) (x.params.drop (j + 1)) y
          rwa [htl2] at this
        have hps:((x.params.take j).map (renP O) ++ x.params.drop j).set j (renP O y)=(x.params.take (j + 1)).map (renP O) ++ x.params.drop (j + 1):=by
          rw [hdr2]
          have:=set_mid ((x.params.take j).map (renP O)) (x.params.drop (j + 1)) y (renP O y)
          rw [htl2] at this
          rw [this,List.take_add_one,hy]
          simp
        generalize (x.params.take j).map (renP O) ++ x.params.drop j=pj at *
        have hlj:(ls.set i ⟨x.name,x.kind,x.mark,numI O x.type,x.value,pj⟩).length=OS.length:=by rw [List.length_set];exact hL0'
        have hgj:(ls.set i ⟨x.name,x.kind,x.mark,numI O x.type,x.value,pj⟩)[i]?=some ⟨x.name,x.kind,x.mark,numI O x.type,x.value,pj⟩:=by
          rw [List.getElem?_set_self (by rw [hL0'];exact hi)]
        have hsj:∀ z,(ls.set i ⟨x.name,x.kind,x.mark,numI O x.type,x.value,pj⟩).set i z=ls.set i z:=fun z=>List.set_set ..
        generalize ls.set i ⟨x.name,x.kind,x.mark,numI O x.type,x.value,pj⟩=lj at *
        have b1:¬ 1=u.nb:=by omega
        have b2:¬ 2=u.nb:=by omega
        have b3:¬ 3=u.nb:=by omega
        simp [-getElem?_pos,gcz,gcs,-aftE_some,cut61c_run,pureOp,h2,h3,h4,h54,h55,h56,h9,h71,h72,h73,hL3,hi,hj,hy,hB1,hB2,hB3,hRo,hRp,hRq,hlj,hgj,hpl,hpg,b1,b2,b3,npo,nqo,e2]
        have r4:¬ 4=ob:=by omega
        have r5:¬ 5=ob:=by omega
        have r7:¬ 7=ob:=by omega
        refine ihJ _ ⟨by simp [h2],by simp [h3],by simp [h4],by simp [h54],by simp [h55],by simp [h56],by simp [h9],by simp [h71],by simp [h72],by simp [hw2],by simp;omega,by simp [on],by simp [pn],by simp [qn],by simp [b1,hB1],by simp [r4,hR4],by simp [r5,hR5],by simp [r7,hR7],by simp [b2,hB2],?_,by simp [b3,hB3],by simp [npo,hRp],by simp [nqo,hRq]⟩
        rw [← hps,← hsj]
        simp [List.map_set,renP]
      · clear h2 h3 h4 h54 h55 h56 hnb hB1 hR4 hR5 hR7 on pn qn hB2 hRo hB3 hRp hRq b1 b2 b3 nb np nq
        rintro c3 u ⟨h2,h3,h4,h54,h55,h56,h9,h71,h72,h73,hnb,on,pn,qn,hB1,hR4,hR5,hR7,hB2,hRo,hB3,hRp,hRq⟩
        rw [List.take_length,List.drop_length,List.append_nil] at hRo
        simp [h2,h3,h4,h54,h55,h56,h72,h73,hL]
        refine ih _ ⟨by simp [h2],by simp [h3],by simp [h4],by simp [h54],by simp [h55],by simp [hw],by simpa using hnb,by simp [on],by simp [pn],by simp [qn],by simp [hB1],by simp [hR4],by simp [hR5],by simp [hR7],by simp [hB2],?_,by simp [hB3],by simp [hRp],by simp [hRq]⟩
        have e:(OS.take (i + 1)).map (renO O) ++ OS.drop (i + 1)=ls.set i ⟨x.name,x.kind,x.mark,numI O x.type,x.value,x.params.map (renP O)⟩:=by
          rw [hset,List.take_add_one,hx]
          simp [renO]
        rw [e]
        simpa using hRo
    · clear h2 h3 h4 h20 h21 h22 hnb hB1 hR4 hR5 hR7 on pn qn hB2 hRo hB3 hRp hRq
      rintro c2 t ⟨h2,h3,h4,h54,h55,h56,hnb,on,pn,qn,hB1,hR4,hR5,hR7,hB2,hRo,hB3,hRp,hRq⟩
      rw [List.take_length,List.drop_length,List.append_nil] at hRo
      have e120:=c120_eq (l:=s.types) (ord:=O) ⟨hOk,hs.ty,hs.t24,hs.f6⟩
      simp only [bxV] at e120
      have npq':¬ p=q:=npq
      have nqp:¬ q=p:=fun e=>npq e.symm
      have a1:¬ t.nt=2:=by omega
      have a2:¬ t.nt=3:=by omega
      have a3:¬ t.nt=5:=by omega
      have a4:¬ t.nt=6:=by omega
      have a5:¬ 4=t.nt:=by omega
      have a6:¬ 7=t.nt:=by omega
      have a7:¬ 4=p:=by omega
      have a8:¬ 4=q:=by omega
      have a9:¬ 7=p:=by omega
      have a10:¬ 7=q:=by omega
      have a11:¬ ob=t.nt:=by omega
      have a12:¬ ob=t.nt + 1:=by omega
      have a13:¬ ob=t.nt + 1 + 1:=by omega
      have a14:¬ ob=p:=nop
      have a15:¬ ob=q:=noq
      have hnl:noLs (OS.map (Obj.o ∘ renO O))=true:=by rw [← List.map_map];exact noL_obj _
      simp [-getElem?_pos,gcz,gcs,h2,h3,h4,h54,h55,h56,hB1,hB2,hB3,hR4,hR5,hR7,hRo,hRp,hRq,e120,npq',nqp,a1,a2,a3,a4,a5,a6,a7,a8,a9,a10,a11,a12,a13,a14,a15,hnl]
      omega
end Go.TM.Tryz
end
