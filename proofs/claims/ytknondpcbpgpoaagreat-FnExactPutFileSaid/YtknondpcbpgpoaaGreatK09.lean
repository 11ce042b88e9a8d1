/- A part of the proof: GE, GF, G8, GG. -/
import Derived.Test.YtknondpcbpgpoaaGreatK08
set_option linter.unusedVariables false
set_option linter.unusedSimpArgs false
section
set_option maxHeartbeats 8000000
set_option maxRecDepth 20000
namespace Go.TM.Tryz
open Go Go.TM Go.Proofs
noncomputable def EX:Env:=mkE2 Tryz.prog [(133,c133)] [] [] []
theorem EX_ok:EnvOK Tryz.prog EX:=mkE2_ok zmix [] [] c133_ok trivial
@[simp] theorem EX_ti:EX.ti=tiOf Tryz.prog:=rfl
@[simp] theorem EX_el:EX.el=elOf Tryz.prog:=rfl
@[simp] theorem EX_fld:EX.fld=Go.TM.fldOf Tryz.prog:=rfl
@[simp] theorem EX_str:EX.str=strOf Tryz.prog:=rfl
@[simp] theorem EX_bol:EX.bol=bolOf Tryz.prog:=rfl
@[simp] theorem EX_int:EX.int=intOf Tryz.prog:=rfl
@[simp] theorem EX_bld:EX.bld=bldOf Tryz.prog:=rfl
@[simp] theorem EX_eqs:EX.eqs=eqsOf Tryz.prog:=rfl
@[simp] theorem EX_call:EX.call=callL [(133,c133)]:=rfl
@[simp] theorem EX_rw:EX.rw=rwL []:=rfl
@[simp] theorem EX_gen:EX.gen=genL []:=rfl
@[simp] theorem EX_plan:EX.plan=planL []:=rfl
@[simp] theorem EX_pln:EX.pln=plnL []:=rfl
def txA:TX:=.two true 9 (.one false 10 (.one true 11 (.one false 12 .done))) false 10 (.two true 9 (.one true 11 (.one false 12 .done)) true 11 (.one true 9 (.one false 12 .done)))
def txB:TX:=.two true 4 (.one false 10 (.one true 11 (.one false 12 .done))) false 10 (.one true 4 (.one true 11 (.one false 12 .done)))
def txC:TX:=.two true 4 (.two true 9 (.one true 11 (.one false 12 .done)) true 11 (.one true 9 (.one false 12 .done))) true 9 (.one true 4 (.one true 11 (.one false 12 .done)))
def tx1:TX:=.three true 4 txA true 9 txB false 10 txC
def pl1:Pl:=⟨[0,5],[(1,false),(2,false),(3,false),(6,false),(7,false),(8,false)],[4,9,10,11],[12],.done⟩
def cX1 (l:List Ty) (i:Nat):Option (Rule (Option GT)):=if i=4 then some (rNew (baseTys.map Ty.o) [0,1,2] l (.tmp 12) (some 13)) else none
def cX6 (l:List Ty) (f:Nat) (i:Nat):Option (Rule (Option GT)):=if i=3 then some (liftR (rOpen (preT l f) (postT l f) [.tmp 31,.tmp 33] (some 34))) else none
def cX11 (l:List Ty) (f:Nat) (i:Nat):Option (Rule (Option GT)):=if i=6 then some (liftR (rOpen (preT l f) (postT l f) [.tmp 51,.tmp 53] (some 54))) else none
noncomputable def CX (l:List Ty) (f:Nat) (id:Nat):Option (Array Oper→Rule (Option GT)) :=
  if id=1 then some (fun ops=>cutR2 EX (cX1 l) ops pl1 tx1) else if id=6 then some (seqR EX (cX6 l f)) else if id=11 then some (fun ops=>cutR2 EX (cX11 l f) ops pl18 tx18) else none
theorem has131:∃ fn,Tryz.prog.funcs[131]?=some fn∧(fn.name == "runtime.NumGoroutine")=false∧fn.body.isNone=false:=⟨_,Tryz.func131,by kernel_rfl,by kernel_rfl⟩
theorem exp_okX (l:List Ty) (f:Nat) (ht:OpenC Tryz.prog 132 (preT l f) (postT l f)) (M:Mem) (W:World) {c:Code} (hc:Tryz.f67.body=some c):okCX (InvO M W) Tryz.prog Tryz.f67.ntmps (CX l f) c:=by
  have e:c=_:=(Option.some.inj hc).symm
  subst e
  simp [okCX,CX]
  refine ⟨?_,?_,?_⟩
  · refine cutX_ok (cs:=[4]) (qs:=[4]) EX_ok InvO.evo (by kernel_rfl) ⟨?_,?_,?_,?_⟩ (by kernel_rfl) (by kernel_rfl)
    · intro i r hr
      simp only [cX1] at hr
      split at hr
      · rename_i e;simp [e]
      · cases hr
    · intro i hi
      simp only [List.mem_singleton] at hi
      subst hi
      rfl
    · intro i o r ho hr
      simp only [cX1] at hr
      split at hr
      · rename_i e
        subst e
        obtain rfl:=Option.some.inj hr
        obtain rfl:=Option.some.inj ho
        exact ⟨rfl,(rNew_ok new_ok has131 rfl rfl rfl rfl (by kernel_rfl)).ok⟩
      · cases hr
    · intro i o r ho hr hi
      simp only [cX1] at hr
      split at hr
      · rename_i e
        subst e
        obtain rfl:=Option.some.inj hr
        obtain rfl:=Option.some.inj ho
        exact rNew_ok new_ok has131 rfl rfl rfl rfl (by kernel_rfl)
      · cases hr
  · refine opsX_ok EX_ok InvO.evo (by kernel_rfl) ?_
    intro i o r ho hr
    simp only [cX6] at hr
    split at hr
    · rename_i e
      subst e
      obtain rfl:=Option.some.inj hr
      obtain rfl:=Option.some.inj ho
      exact ⟨rfl,liftR_ok (rOpen_ok' (InvF.k M W) ht has132 rfl rfl rfl rfl (by kernel_rfl))⟩
    · cases hr
  · refine cutX_ok (cs:=[6]) (qs:=[]) EX_ok InvO.evo (by kernel_rfl) ⟨?_,?_,?_,?_⟩ (by kernel_rfl) (by kernel_rfl)
    · intro i r hr
      simp only [cX11] at hr
      split at hr
      · rename_i e;simp [e]
      · cases hr
    · intro i hi
      simp only [List.mem_singleton] at hi
      subst hi
      rfl
    · intro i o r ho hr
      simp only [cX11] at hr
      split at hr
      · rename_i e
        subst e
        obtain rfl:=Option.some.inj hr
        obtain rfl:=Option.some.inj ho
        exact ⟨rfl,liftR_ok (rOpen_ok' (InvF.k M W) ht has132 rfl rfl rfl rfl (by kernel_rfl))⟩
      · cases hr
    · intro i o r ho hr hi
      cases hi
attribute [simp] CX cX1 cX6 cX11
end Go.TM.Tryz
end
section
set_option maxHeartbeats 8000000
set_option maxRecDepth 20000
namespace Go.TM.Tryz
open Go Go.TM Go.Proofs
structure ExRef (s:Scp):Prop where
  ty:Go.TM.TyRef s.types
  t3:3≤s.types.length
  t24:s.types.length≤24
  f6:∀ t ∈ s.types,t.fields.length≤6
  ob:∀ o ∈ s.objects,o.type < s.types.length∧∀ x ∈ o.params,x.type < s.types.length
  o16:s.objects.length≤16
  p4:∀ o ∈ s.objects,o.params.length≤4
structure ExPost (s:Scp) (s':S) (gg:GT) (r:V):Prop where
  ex:∃ (t i1 ob u1:Nat) (es:List Ent),r=.agg [.str s.name,.own i1,.own t,.own ob,.own u1]∧s'.R t=some ⟨6,baseTys.map Ty.o ++ es.map Ent.v,true⟩∧s'.R i1=some ⟨1,[],true⟩ ∧
    s'.R ob=some ⟨6,(objsW (tk s.types (s.types.length + 1)) [0,1,2] s.objects).2.1.map Obj.o,true⟩∧s'.R u1=some ⟨2,[],true⟩∧es.map Ent.ty=(objsW (tk s.types (s.types.length + 1)) [0,1,2] s.objects).2.2 ∧
    (∀ e ∈ es,s'.R e.u=some ⟨3,e.ty.fields.map Fld.v,true⟩∧(e.u,e.h) ∈ gg.hd∧e.u ≠ t∧e.u ≠ i1∧e.u ≠ ob∧e.u ≠ u1)∧(es.map Ent.u).Nodup∧[i1,t,ob,u1].Nodup
theorem objW_le (g:List Int→Int→Int × List Int × List Ty) (o:Obj) (ord:List Int):(objW g ord o).2.1.length≤1:=by
  unfold objW;split <;> simp
theorem objsW_le (g:List Int→Int→Int × List Int × List Ty):∀ (os:List Obj) (ord:List Int),(objsW g ord os).2.1.length≤os.length
  | [],ord=>by simp [objsW]
  | o :: os,ord=>by
    have h1:=objW_le g o ord
    have h2:=objsW_le g os (objW g ord o).1
    simp [objsW]
    omega
theorem nkl2 (n:Nat):(n + 1 + 1=n)=False:=eq_false (by omega)
theorem nkr2 (n:Nat):(n=n + 1 + 1)=False:=eq_false (by omega)
theorem nkl3 (n:Nat):(n + 1 + 1 + 1=n)=False:=eq_false (by omega)
theorem nkr3 (n:Nat):(n=n + 1 + 1 + 1)=False:=eq_false (by omega)
theorem nkl4 (n:Nat):(n + 1 + 1 + 1 + 1=n)=False:=eq_false (by omega)
theorem nkr4 (n:Nat):(n=n + 1 + 1 + 1 + 1)=False:=eq_false (by omega)
theorem nkl5 (n:Nat):(n + 1 + 1 + 1 + 1 + 1=n)=False:=eq_false (by omega)
theorem nkr5 (n:Nat):(n=n + 1 + 1 + 1 + 1 + 1)=False:=eq_false (by omega)
theorem nkl6 (n:Nat):(n + 1 + 1 + 1 + 1 + 1 + 1=n)=False:=eq_false (by omega)
theorem nkr6 (n:Nat):(n=n + 1 + 1 + 1 + 1 + 1 + 1)=False:=eq_false (by omega)
theorem nkl7 (n:Nat):(n + 1 + 1 + 1 + 1 + 1 + 1 + 1=n)=False:=eq_false (by omega)
theorem nkr7 (n:Nat):(n=n + 1 + 1 + 1 + 1 + 1 + 1 + 1)=False:=eq_false (by omega)
theorem nkl8 (n:Nat):(n + 1 + 1 + 1 + 1 + 1 + 1 + 1 + 1=n)=False:=eq_false (by omega)
theorem nkr8 (n:Nat):(n=n + 1 + 1 + 1 + 1 + 1 + 1 + 1 + 1)=False:=eq_false (by omega)
theorem nkl9 (n:Nat):(n + 1 + 1 + 1 + 1 + 1 + 1 + 1 + 1 + 1=n)=False:=eq_false (by omega)
theorem nkr9 (n:Nat):(n=n + 1 + 1 + 1 + 1 + 1 + 1 + 1 + 1 + 1)=False:=eq_false (by omega)
theorem nkl10 (n:Nat):(n + 1 + 1 + 1 + 1 + 1 + 1 + 1 + 1 + 1 + 1=n)=False:=eq_false (by omega)
theorem nkr10 (n:Nat):(n=n + 1 + 1 + 1 + 1 + 1 + 1 + 1 + 1 + 1 + 1)=False:=eq_false (by omega)
theorem nkl11 (n:Nat):(n + 1 + 1 + 1 + 1 + 1 + 1 + 1 + 1 + 1 + 1 + 1=n)=False:=eq_false (by omega)
theorem nkr11 (n:Nat):(n=n + 1 + 1 + 1 + 1 + 1 + 1 + 1 + 1 + 1 + 1 + 1)=False:=eq_false (by omega)
theorem nkl12 (n:Nat):(n + 1 + 1 + 1 + 1 + 1 + 1 + 1 + 1 + 1 + 1 + 1 + 1=n)=False:=eq_false (by omega)
theorem nkr12 (n:Nat):(n=n + 1 + 1 + 1 + 1 + 1 + 1 + 1 + 1 + 1 + 1 + 1 + 1)=False:=eq_false (by omega)
theorem nkl13 (n:Nat):(n + 1 + 1 + 1 + 1 + 1 + 1 + 1 + 1 + 1 + 1 + 1 + 1 + 1=n)=False:=eq_false (by omega)
theorem nkr13 (n:Nat):(n=n + 1 + 1 + 1 + 1 + 1 + 1 + 1 + 1 + 1 + 1 + 1 + 1 + 1)=False:=eq_false (by omega)
attribute [local simp] nkl2 nkr2 nkl3 nkr3 nkl4 nkr4 nkl5 nkr5 nkl6 nkr6 nkl7 nkr7 nkl8 nkr8 nkl9 nkr9 nkl10 nkr10 nkl11 nkr11 nkl12 nkr12 nkl13 nkr13
theorem exp_walk (s:Scp) (hs:ExRef s) (M:Mem) (W:World) (s0:S) (vs:List Value) (hm:MemOK M W s0) (ha:All2 (SR1 M W) [.ladr [s.v] 0 0] vs) :
    Calls Tryz.prog 67 vs.toArray W fun e W'=>∃ v M' s' gg r,e=.returned v∧MemOK M' W' s'∧InvF M W gg M' W'∧SR2 M' W' r v∧ExPost s s' gg r:=by
  have ht:=take_ok s.types hs.ty hs.t24 hs.f6 (s.types.length + 1)
  refine Calls.mono (open_sound (C:=CX s.types (s.types.length + 1)) (Inv:=InvO M W) (g:=none) EX_ok InvO.evo Tryz.func67 rfl (by kernel_rfl) (exp_okX _ _ ht M W rfl) hm ha (Evo.refl M W)
    (post:=fun s' g' r=>∃ gg,g'=some gg∧ExPost s s' gg r) ?_) ?_
  · refine codeX_run ?_
    have hr:Tryz.f67.results.toList=[.cell 2 33]:=rfl
    simp only [EndsC,hr,resOf]
    simp [pureOp,cutL,pl1]
    generalize hK:kontX EX (CX s.types (s.types.length + 1)) _ _ X.normal=K
    have key:∀ (st:S) (mb bt bo t i1 y1 ob u1:Nat),st.e 0=.ladr [s.v] 0 0→st.e 2=.ptr s0.nb 0→st.e 3=.ptr bt 0→st.e 4=.ptr bo 0 →
        ExM s.types (baseTys.map Ty.o) s.name st.B st.R st.nt st.nb ⟨mb,[0,1,2],[]⟩ bt bo t i1 y1 ob u1 [] [] →
        st.B s0.nb=some (.agg [.str ⟨#[]⟩,.own s0.nt,.own (s0.nt + 1),.own (s0.nt + 1 + 1),.own (s0.nt + 1 + 1 + 1)])→s0.nb < st.nb→¬ s0.nb=bt→¬ s0.nb=bo→K st (some ⟨mb,[0,1,2],[]⟩):=by
      subst hK
      intro st mb bt bo t i1 y1 ob u1 e0 e2 e3 e4 J Bbr nbr d1 d2
      have hord0:OrdOK s.types.length [0,1,2]:=⟨by decide,by have:=hs.t3;simp;omega⟩
      have hg:∀ o (n:Int),OrdOK s.types.length o→s.types.length - o.length < s.types.length + 1→n < s.types.length→TkOK s.types.length o (tk s.types (s.types.length + 1) o n).2.1 (tk s.types (s.types.length + 1) o n).2.2:=fun o n ho hm hn=>tk_ok hs.ty _ o n ho hm hn
      have ho16:=hs.o16
      simp [e0]
      refine lpX_list s.objects (fun i st g=>st.e 2=.ptr s0.nb 0∧st.e 3=.ptr bt 0∧st.e 4=.ptr bo 0∧st.e 22=.lst (s.objects.map Obj.v)∧st.e 23=.int .i64 s.objects.length∧st.e 24=.int .i64 i ∧
        st.B s0.nb=some (.agg [.str ⟨#[]⟩,.own s0.nt,.own (s0.nt + 1),.own (s0.nt + 1 + 1),.own (s0.nt + 1 + 1 + 1)])∧s0.nb < st.nb∧∃ gg,g=some gg∧gg.ord=(objsW (tk s.types (s.types.length + 1)) [0,1,2] (s.objects.take i)).1 ∧
        ∃ t i1 y1 ob u1 es,ExM s.types (baseTys.map Ty.o) s.name st.B st.R st.nt st.nb gg bt bo t i1 y1 ob u1 es (objsW (tk s.types (s.types.length + 1)) [0,1,2] (s.objects.take i)).2.1∧es.map Ent.ty=(objsW (tk s.types (s.types.length + 1)) [0,1,2] (s.objects.take i)).2.2) ?_ ?_ ?_
      · exact ⟨by simp [e2],by simp [e3],by simp [e4],by simp,by simp,by simp,by simpa using Bbr,by simpa using nbr,_,rfl,rfl,t,i1,y1,ob,u1,[],J,rfl⟩
      · rintro I i st g x hx hi ihI ⟨e2,e3,e4,e22,e23,e24,Bbr,nbr,gg,rfl,ho,t,i1,y1,ob,u1,es,J,jt⟩
        have hxm:=List.mem_of_getElem? hx
        obtain ⟨hxt,hxp⟩:=hs.ob x hxm
        have hx4:=hs.p4 x hxm
        have hw:=wrI (i:=i) (by omega)
        have hsn:=objsW_snoc (tk s.types (s.types.length + 1)) x (s.objects.take i) [0,1,2]
        rw [show s.objects.take i ++ [x]=s.objects.take (i + 1) by rw [List.take_add_one,hx];rfl] at hsn
        have hTk:=objsW_ok (m:=s.types.length + 1) hg (s.objects.take i) [0,1,2] (fun o hm=>hs.ob o (List.mem_of_mem_take hm)) hord0 (by omega)
        generalize hP:objsW (tk s.types (s.types.length + 1)) [0,1,2] (s.objects.take i)=P at *
        obtain ⟨l1,l2,l3,l4,l5⟩:=J.lt
        obtain ⟨b1,b2,b3⟩:=J.bb
        by_cases hm0:x.mark=0
        · simp [-getElem?_pos,List.getElem?_cons_zero,e22,e24,e23,hi,hx,hm0]
          have z1:¬ s0.nb=st.nb:=by omega
          refine ihI _ _ ⟨by simp [e2],by simp [e3],by simp [e4],by simp [e22],by simp [e23],by simp [e24,hw],by simp [z1,Bbr],by simp;omega,gg,rfl,?_,t,i1,y1,ob,u1,es,?_,?_⟩
          · rw [hsn];simp [objW,hm0,ho]
          · rw [hsn]
            simp only [objW,hm0,if_true,List.append_nil]
            exact J.to st.nb st.nt ⟨by omega,by omega⟩ (.inl (Nat.le_refl _)) (fun y hy hne=>by simp [hne]) (fun y hy hne=>by simp [hne]) (by simp) (by simp)
          · rw [hsn];simp [objW,hm0,jt]
        · simp [-getElem?_pos,List.getElem?_cons_zero,e22,e24,e23,e3,hi,hx,hm0]
          have z1:¬ s0.nb=st.nb:=by omega
          have z2:¬ st.nb=bt:=by omega
          have z3:¬ st.nb=bo:=by omega
          have hJ:∀ S3:S,(∀ y,y < st.nb→S3.B y=st.B y)→(∀ y,y < st.nt→S3.R y=st.R y)→S3.nt=st.nt + 1→S3.nb=st.nb + 1 →
              ExM s.types (baseTys.map Ty.o) s.name S3.B S3.R S3.nt S3.nb gg bt bo t i1 y1 ob u1 es P.2.1:=fun S3 h1 h2 h3 h4=>J.mono h1 h2 (by omega) (by omega)
          have hlen5:(baseTys.map Ty.o).length + es.length=gg.ord.length:=by
            have h1:=congrArg List.length jt
            have h2:=hTk.len
            rw [List.length_map] at h1
            rw [ho,h2,← h1]
            simp [baseTys]
          have hpre:∀ S3:S,(∀ y,y < st.nb→S3.B y=st.B y)→(∀ y,y < st.nt→S3.R y=st.R y)→S3.nt=st.nt + 1→S3.nb=st.nb + 1→TkPre s.types (s.types.length + 1) S3 gg bt t _ x.type:=fun S3 h1 h2 h3 h4 =>
            (hJ S3 h1 h2 h3 h4).tpre rfl rfl rfl rfl hlen5 (by rw [ho];exact hTk.ok) hxt (by omega)
          have k1:∀ y,y < st.nb→¬ y=st.nb:=fun y hy=>by omega
          have k2:∀ y,y < st.nt→¬ y=st.nt:=fun y hy=>by omega
          refine ⟨⟨by simp,by simp,bt,_,_,x.type,by simp,hpre _ (fun y hy=>by simp [k1 y hy]) (fun y hy=>by simp [k2 y hy]) (by simp) (by simp)⟩,?_⟩
          intro s3 g3 r hpost
          obtain ⟨rfl,ho3,t3,es3,H3⟩:=hpost bt _ _ x.type (by simp) (hpre _ (fun y hy=>by simp [k1 y hy]) (fun y hy=>by simp [k2 y hy]) (by simp) (by simp))
          have J3:=(hJ _ (fun y hy=>by simp [k1 y hy]) (fun y hy=>by simp [k2 y hy]) (by simp) (by simp)).call H3 rfl rfl rfl rfl
          have w1:=H3.oB st.nb z2 (by simp)
          have w2:=H3.oB s0.nb d1 (by simp;omega)
          simp [z1,Bbr] at w1 w2
          have w3:st.nt + 1≤s3.nt:=by simpa using H3.nt
          have w4:st.nb + 1≤s3.nb:=by simpa using H3.nb
          have e133:=c133_eq x.params (by omega)
          clear hpost
          simp [-getElem?_pos,List.getElem?_cons_zero,w1,w2,e133,e2,e3,e4,e22,e23,e24]
          rw [ho] at ho3 H3 ⊢
          have hok2:=tk_ok hs.ty (s.types.length + 1) P.1 x.type hTk.ok (by omega) hxt
          have hj3:=J3.bb
          refine lpX_list x.params (fun j s4 g4=>s4.e 2=.ptr s0.nb 0∧s4.e 3=.ptr bt 0∧s4.e 4=.ptr bo 0∧s4.e 22=.lst (s.objects.map Obj.v)∧s4.e 23=.int .i64 s.objects.length∧s4.e 24=.int .i64 i ∧
            s4.e 6=.ptr st.nb 0∧s4.e 41=.own s3.nt∧s4.e 42=.int .i64 x.params.length∧s4.e 43=.int .i64 j ∧
            s4.B st.nb=some (.agg [.str x.name,.int .i64 x.kind,.int .i64 x.mark,.int .i64 (tk s.types (s.types.length + 1) P.1 x.type).1,.int .i64 x.value,.own s3.nt])∧st.nb < s4.nb ∧
            s4.B s0.nb=some (.agg [.str ⟨#[]⟩,.own s0.nt,.own (s0.nt + 1),.own (s0.nt + 1 + 1),.own (s0.nt + 1 + 1 + 1)]) ∧
            s4.R s3.nt=some ⟨3,((parsW (tk s.types (s.types.length + 1)) (tk s.types (s.types.length + 1) P.1 x.type).2.1 (x.params.take j)).2.1 ++ x.params.drop j).map Par.v,true⟩ ∧
            ∃ g5,g4=some g5∧g5.ord=(parsW (tk s.types (s.types.length + 1)) (tk s.types (s.types.length + 1) P.1 x.type).2.1 (x.params.take j)).1 ∧
            ∃ t5 es5,ExM s.types (baseTys.map Ty.o) s.name s4.B s4.R s4.nt s4.nb g5 bt bo t5 i1 y1 ob u1 es5 P.2.1 ∧
              es5.map Ent.ty=P.2.2 ++ ((tk s.types (s.types.length + 1) P.1 x.type).2.2 ++ (parsW (tk s.types (s.types.length + 1)) (tk s.types (s.types.length + 1) P.1 x.type).2.1 (x.params.take j)).2.2)∧Off s3.nt s4.nt t5 i1 y1 ob u1 es5) ?_ ?_ ?_
          · refine ⟨by simp [e2],by simp [e3],by simp [e4],by simp [e22],by simp [e23],by simp [e24],by simp,by simp,by simp,by simp,by simp,by simp;omega,by simp [z1,w2],by simp [parsW],g3,rfl,ho3,t3,es ++ es3,?_,?_,?_⟩
            · exact J3.to st.nb s3.nt ⟨z2,z3⟩ (.inl (Nat.le_refl _)) (fun y hy hne=>by simp [hne]) (fun y hy hne=>by simp [hne]) (by simp) (by simp)
            · simp [parsW,jt,H3.tys]
            · have m1:=H3.lt
              refine ⟨by simp,by omega,fun e he=>?_⟩
              have:=(J3.ent e he).2.2.1
              omega
          · rintro I2 j s4 g4 y hy hj ihJ ⟨e2,e3,e4,e22,e23,e24,e6,e41,e42,e43,B6,nb6,Bbr4,Rp,g5,rfl,ho5,t5,es5,J5,jt5,O5⟩
            have hym:=List.mem_of_getElem? hy
            have hyt:=hxp y hym
            have hpl:(parsW (tk s.types (s.types.length + 1)) (tk s.types (s.types.length + 1) P.1 x.type).2.1 (x.params.take j)).2.1.length=j:=by rw [parsW_len,List.length_take];omega
            have hdr:x.params.drop j=y :: x.params.drop (j + 1):=by
              rw [List.getElem?_eq_some_iff] at hy
              rw [← hy.2]
              exact List.drop_eq_getElem_cons hj
            have hsn2:=parsW_snoc (tk s.types (s.types.length + 1)) y (x.params.take j) (tk s.types (s.types.length + 1) P.1 x.type).2.1
            rw [show x.params.take j ++ [y]=x.params.take (j + 1) by rw [List.take_add_one,hy];rfl] at hsn2
            have hTk2:=parsW_ok (m:=s.types.length + 1) hg (x.params.take j) (tk s.types (s.types.length + 1) P.1 x.type).2.1 (fun z hz=>hxp z (List.mem_of_mem_take hz)) hok2.ok (by omega)
            generalize hQ:parsW (tk s.types (s.types.length + 1)) (tk s.types (s.types.length + 1) P.1 x.type).2.1 (x.params.take j)=Q at *
            have hg2:(Q.2.1 ++ x.params.drop j)[j]?=some y:=by
              rw [hdr,← hpl];exact get_mid _ _ _
            have hL:(Q.2.1 ++ x.params.drop j).length=x.params.length:=by rw [List.length_append,hpl,List.length_drop];omega
            have hset:∀ z,(Q.2.1 ++ x.params.drop j).set j z=Q.2.1 ++ z :: x.params.drop (j + 1):=fun z=>by
              rw [hdr,← hpl];exact set_mid _ _ _ _
            generalize hps:Q.2.1 ++ x.params.drop j=ps at *
            have hw2:IntKind.i64.wrap ((j:Int) + 1)=((j + 1:Nat):Int):=wrap64 (by omega) (by omega)
            obtain ⟨c1,c2,c3⟩:=J5.bb
            obtain ⟨m1,m2⟩:=O5.ne
            have m3:=O5.lt
            have y1':¬ st.nb=s4.nb:=by omega
            have y2':¬ s0.nb=s4.nb:=by omega
            have hlen6:(baseTys.map Ty.o).length + es5.length=g5.ord.length:=by
              have h1:=congrArg List.length jt5
              have h2:=hTk2.len
              have h3:=hok2.len
              have h4:=hTk.len
              simp only [List.length_map,List.length_append] at h1 h2 h3 h4
              rw [ho5,h2,h3,h4]
              simp [baseTys]
              omega
            have hJ5:∀ S3:S,(∀ y,y < s4.nb→S3.B y=s4.B y)→S3.R=s4.R→S3.nt=s4.nt→S3.nb=s4.nb + 1 →
                ExM s.types (baseTys.map Ty.o) s.name S3.B S3.R S3.nt S3.nb g5 bt bo t5 i1 y1 ob u1 es5 P.2.1:=fun S3 h1 h2 h3 h4=>J5.mono h1 (fun z _=>by rw [h2]) (by omega) (by omega)
            have hpre5:∀ S3:S,(∀ y,y < s4.nb→S3.B y=s4.B y)→S3.R=s4.R→S3.nt=s4.nt→S3.nb=s4.nb + 1→TkPre s.types (s.types.length + 1) S3 g5 bt t5 _ y.type:=fun S3 h1 h2 h3 h4 =>
              (hJ5 S3 h1 h2 h3 h4).tpre rfl rfl rfl rfl hlen6 (by rw [ho5];exact hTk2.ok) hyt (by omega)
            have k5:∀ y,y < s4.nb→¬ y=s4.nb:=fun y hy=>by omega
            simp [-getElem?_pos,gcz,gcs,cutL,pl18,tx18,pureOp,e3,e6,e41,e42,e43,hj,B6,Rp,hL,hg2,y1',y2']
            repeat' (with_reducible apply And.intro)
            all_goals
              refine ⟨⟨by simp,by simp,bt,_,_,y.type,by simp,hpre5 _ (fun y hy=>by simp [k5 y hy]) (by simp) (by simp) (by simp)⟩,?_⟩
              intro s6 g6 r hpost
              obtain ⟨rfl,ho6,t6,es6,H6⟩:=hpost bt _ _ y.type (by simp) (hpre5 _ (fun y hy=>by simp [k5 y hy]) (by simp) (by simp) (by simp))
              have J6:=(hJ5 _ (fun y hy=>by simp [k5 y hy]) (by simp) (by simp) (by simp)).call H6 rfl rfl rfl rfl
              have O6:=O5.call H6 (by simp)
              have w5:=H6.oB st.nb z2 (by simp;omega)
              have w6:=H6.oB s0.nb d1 (by simp;omega)
              have w7:=H6.oR s3.nt (by simp;omega) m1
              have w8:s4.nb + 1≤s6.nb:=by simpa using H6.nb
              have w9:s4.nt≤s6.nt:=by simpa using H6.nt
              simp [y1',y2',B6,Bbr4,Rp] at w5 w6 w7
              clear hpost
              rw [ho5] at ho6 H6 ⊢
              simp [-getElem?_pos,gcz,gcs,e2,e3,e4,e22,e23,e24,e6,e41,e42,e43,w5,w7,hL,hj,hg2,hw2]
              refine ihJ _ _ ⟨by simp [e2],by simp [e3],by simp [e4],by simp [e22],by simp [e23],by simp [e24],by simp [e6],by simp [e41],by simp [e42],by simp,by simp [w5],by simp;omega,by simp [w6],?_,g6,rfl,?_,t6,es5 ++ es6,?_,?_,?_⟩
              · rw [hsn2]
                simp only [List.append_assoc,List.cons_append,List.nil_append]
                rw [← hset]
                simp [Par.v,List.map_set]
              · rw [hsn2];exact ho6
              · exact J6.to s6.nb s3.nt ⟨by omega,by omega⟩ (.inr O6) (fun y hy hne=>by simp) (fun y hy hne=>by simp [hne]) (by simp) (by simp)
              · rw [hsn2,List.map_append,jt5,H6.tys];simp
              · simpa using O6
          · rintro I2 s4 g4 ⟨e2,e3,e4,e22,e23,e24,e6,e41,e42,e43,B6,nb6,Bbr4,Rp,g5,rfl,ho5,t5,es5,J5,jt5,O5⟩
            rw [List.take_length] at Rp ho5 jt5
            rw [List.drop_length,List.append_nil] at Rp
            have q2:=J5.Bo
            have q3:=J5.Ro
            obtain ⟨c1,c2,c3⟩:=J5.bb
            obtain ⟨m1,m2⟩:=O5.ne
            have m3:=O5.lt
            obtain ⟨j1,j2,j3,j4,j5⟩:=J5.lt
            have n1:¬ ob=s3.nt:=fun e=>m2.2.2.1 e.symm
            have n2:¬ ob=s4.nt:=by omega
            have hP16:P.2.1.length≤16:=by
              have:=objsW_le (tk s.types (s.types.length + 1)) (s.objects.take i) [0,1,2]
              rw [hP,List.length_take] at this
              omega
            have hroom:room ⟨6,true,72,.agg [.str ⟨#[]⟩,.int .i64 0,.int .i64 0,.int .i64 0,.int .i64 0,.inl 3 []]⟩ (P.2.1.length + 1):=by simp [room];omega
            simp [-getElem?_pos,List.getElem?_cons_zero,e2,e3,e4,e22,e23,e24,e6,e41,e42,e43,B6,q2,q3,Rp,hw,n1,n2,hroom]
            have J6:=J5.to (B':=s4.B) (R':=fun y=>if y=s3.nt then none else s4.R y) (nt':=s4.nt) (nb':=s4.nb) s4.nb s3.nt ⟨by omega,by omega⟩ (.inr O5) (fun y hy hne=>rfl) (fun y hy hne=>by simp [hne]) (Nat.le_refl _) (Nat.le_refl _)
            have d3:¬ s0.nb=bo:=d2
            refine ihI _ _ ⟨by simp [e2],by simp [e3],by simp [e4],by simp [e22],by simp [e23],by simp,by simp [d3,Bbr4],by simp;omega,g5,rfl,?_,t5,i1,y1,s4.nt + 1,u1,es5,?_,?_⟩
            · rw [hsn];simp [objW,hm0,ho5]
            · rw [hsn]
              simp only [objW,hm0,if_false]
              refine J6.add (fun y hy hne=>by simp [hne]) (by simp) (fun y hy hne=>?_) ?_ (by omega) (by simp)
              · have h1:¬ y=s4.nt:=by omega
                have h2:¬ y=s4.nt + 1:=by omega
                simp [h1,h2,hne]
              · simp [Obj.o]
            · rw [hsn];simp [objW,hm0,jt5]
      · rintro I st g ⟨e2,e3,e4,e22,e23,e24,Bbr,nbr,gg,rfl,ho,t,i1,y1,ob,u1,es,J,jt⟩
        have q1:=J.Bt
        have q2:=J.Bo
        obtain ⟨b1,b2,b3⟩:=J.bb
        obtain ⟨n1,n2,n3,n4,n5,n6,n7,n8⟩:=J.ne
        simp [e2,e3,e4,e22,e23,e24,q1,q2,Bbr,d1,d2,J.Rt,J.Ri,J.Ro,J.Ru]
        rw [List.take_length] at ho J jt
        refine ⟨t,i1,ob,u1,es,rfl,J.Rt,J.Ri,J.Ro,J.Ru,jt,fun e he=>?_,J.nd,?_⟩
        · obtain ⟨m1,m2,m3,m4⟩:=J.ent e he
          exact ⟨m1,m2,m4⟩
        · simp
          omega
    clear hK
    simp [tx1,txA,txB,txC,rNew,newT]
    repeat' (with_reducible apply And.intro)
    all_goals (intro mb;repeat' (with_reducible apply And.intro))
    all_goals
      first
            | (refine key _ mb (s0.nb + 1) (s0.nb + 1 + 1) (s0.nt + 1 + 1 + 1 + 1) (s0.nt + 1 + 1 + 1 + 1 + 1) (s0.nt + 1 + 1 + 1 + 1 + 1 + 1) (s0.nt + 1 + 1 + 1 + 1 + 1 + 1 + 1) (s0.nt + 1 + 1 + 1 + 1 + 1 + 1 + 1 + 1)  ?_ ?_ ?_ ?_ ⟨?_,?_,?_,?_,?_,?_,?_,fun e he=>absurd he List.not_mem_nil,List.nodup_nil,?_,?_,?_⟩ ?_ ?_ ?_ ?_ <;> first | (simp;done) | omega | (simp;omega))
            | (refine key _ mb (s0.nb + 1) (s0.nb + 1 + 1) (s0.nt + 1 + 1 + 1 + 1) (s0.nt + 1 + 1 + 1 + 1 + 1 + 1 + 1 + 1 + 1) (s0.nt + 1 + 1 + 1 + 1 + 1 + 1 + 1 + 1 + 1 + 1) (s0.nt + 1 + 1 + 1 + 1 + 1 + 1 + 1 + 1 + 1 + 1 + 1) (s0.nt + 1 + 1 + 1 + 1 + 1 + 1 + 1 + 1 + 1 + 1 + 1 + 1)  ?_ ?_ ?_ ?_ ⟨?_,?_,?_,?_,?_,?_,?_,fun e he=>absurd he List.not_mem_nil,List.nodup_nil,?_,?_,?_⟩ ?_ ?_ ?_ ?_ <;> first | (simp;done) | omega | (simp;omega))
            | (refine key _ mb (s0.nb + 1) (s0.nb + 1 + 1) (s0.nt + 1 + 1 + 1 + 1 + 1 + 1 + 1 + 1) (s0.nt + 1 + 1 + 1 + 1) (s0.nt + 1 + 1 + 1 + 1 + 1) (s0.nt + 1 + 1 + 1 + 1 + 1 + 1) (s0.nt + 1 + 1 + 1 + 1 + 1 + 1 + 1)  ?_ ?_ ?_ ?_ ⟨?_,?_,?_,?_,?_,?_,?_,fun e he=>absurd he List.not_mem_nil,List.nodup_nil,?_,?_,?_⟩ ?_ ?_ ?_ ?_ <;> first | (simp;done) | omega | (simp;omega))
            | (refine key _ mb (s0.nb + 1 + 1) (s0.nb + 1) (s0.nt + 1 + 1 + 1 + 1 + 1 + 1 + 1 + 1 + 1 + 1 + 1 + 1) (s0.nt + 1 + 1 + 1 + 1) (s0.nt + 1 + 1 + 1 + 1 + 1) (s0.nt + 1 + 1 + 1 + 1 + 1 + 1) (s0.nt + 1 + 1 + 1 + 1 + 1 + 1 + 1)  ?_ ?_ ?_ ?_ ⟨?_,?_,?_,?_,?_,?_,?_,fun e he=>absurd he List.not_mem_nil,List.nodup_nil,?_,?_,?_⟩ ?_ ?_ ?_ ?_ <;> first | (simp;done) | omega | (simp;omega))
            | (refine key _ mb (s0.nb + 1 + 1) (s0.nb + 1) (s0.nt + 1 + 1 + 1 + 1 + 1 + 1 + 1 + 1) (s0.nt + 1 + 1 + 1 + 1 + 1 + 1 + 1 + 1 + 1) (s0.nt + 1 + 1 + 1 + 1 + 1 + 1 + 1 + 1 + 1 + 1) (s0.nt + 1 + 1 + 1 + 1 + 1 + 1 + 1 + 1 + 1 + 1 + 1) (s0.nt + 1 + 1 + 1 + 1 + 1 + 1 + 1 + 1 + 1 + 1 + 1 + 1)  ?_ ?_ ?_ ?_ ⟨?_,?_,?_,?_,?_,?_,?_,fun e he=>absurd he List.not_mem_nil,List.nodup_nil,?_,?_,?_⟩ ?_ ?_ ?_ ?_ <;> first | (simp;done) | omega | (simp;omega))
            | (refine key _ mb (s0.nb + 1 + 1) (s0.nb + 1) (s0.nt + 1 + 1 + 1 + 1 + 1 + 1 + 1 + 1 + 1 + 1 + 1 + 1) (s0.nt + 1 + 1 + 1 + 1 + 1 + 1 + 1 + 1) (s0.nt + 1 + 1 + 1 + 1 + 1 + 1 + 1 + 1 + 1) (s0.nt + 1 + 1 + 1 + 1 + 1 + 1 + 1 + 1 + 1 + 1) (s0.nt + 1 + 1 + 1 + 1 + 1 + 1 + 1 + 1 + 1 + 1 + 1)  ?_ ?_ ?_ ?_ ⟨?_,?_,?_,?_,?_,?_,?_,fun e he=>absurd he List.not_mem_nil,List.nodup_nil,?_,?_,?_⟩ ?_ ?_ ?_ ?_ <;> first | (simp;done) | omega | (simp;omega))
  · rintro e W' ⟨v,M',s',g',r,rfl,h1,h2,h3,gg,rfl,h4⟩
    exact ⟨v,M',s',gg,r,rfl,h1,h2,h3,h4⟩
end Go.TM.Tryz
end
section
namespace Go.TM
open Go
open Classical in
noncomputable def Mem.rej (M:Mem) (W:World) (t:Nat) (U:Nat→Prop) (z:Nat):Mem :=
  { M with ω:=fun b=>if ∃ u,U u∧M.ω b=some (.tok u) then some (.tok t) else M.ω b,σ:=fun x j i=>if x=t then cellOf W (M.ρ t) z j i else M.σ x j i }
open Classical in
noncomputable def S.rej (s:S) (t:Nat) (U:Nat→Prop) (z:Nat) (ys:List V):S :=
  { s with e:=fun _=>.bad,B:=fun _=>none,R:=fun x=>if x=t then some ⟨z,ys,true⟩ else if U x then none else s.R x }
structure RejOK (M:Mem) (s:S) (t:Nat) (U:Nat→Prop) (z:Nat) (xs ys:List V) (D:Nat→Nat→Prop) (us:Nat→Nat→Nat):Prop where
  rt:s.R t=some ⟨z,xs,true⟩
  ut:¬ U t
  len:ys.length=xs.length
  lv:∀ e ∈ ys,(leaves e).length=z
  at_:∀ j i l,leafAt ys j i=some l→(¬ D j i∧leafAt xs j i=some l) ∨ (D j i∧∃ h z zs,leafAt xs j i=some (.raw h)∧l=.inl z zs∧s.R (us j i)=some ⟨z,zs,true⟩∧M.ρ (us j i)=h.val)
  dU:∀ j i,D j i→U (us j i)
  inj:∀ j i j' i',D j i→D j' i'→us j i=us j' i'→j=j'∧i=i'
theorem FR.rawv {W:World} {F:Nat→Prop} {x:V} {v:Value} (h:FR W F x v) {hd:Hdr} (e:x=.raw hd):v=hd.val:=by
  cases h <;> first | (cases e;rfl) | cases e
section
variable {M:Mem} {W:World} {s:S} {t:Nat} {U:Nat→Prop} {z:Nat} {xs ys:List V} {D:Nat→Nat→Prop} {us:Nat→Nat→Nat}
theorem rej_row (h:MemOK M W s) (r:RejOK M s t U z xs ys D us):OwnN W M.F (fun x=>M.ω x=some (.tok t) ∨ ∃ u,U u∧M.ω x=some (.tok u)) z (M.ρ t) ys:=by
  obtain ⟨ht,hrow⟩:=h.row t _ r.rt
  rcases hrow with ⟨-,B,h1,h2,h3⟩ | ⟨hw,-⟩
  · simp only at h1
    have hlen:=r.len
    generalize hv:M.ρ t=v at h1
    cases h1 with
    | nil _ _ A =>
      have e:ys=[]:=List.eq_nil_of_length_eq_zero (by simpa using hlen)
      rw [e]
      exact .nil _ _ _
    | row _ _ _ b o c cs ty u Bs hB hBs hd hb hn hm hcs hs hc hl hN =>
      rw [← hlen]
      refine .row _ _ _ b o c cs ty u (fun j i x=>(¬ D j i∧Bs j i x) ∨ (D j i∧M.ω x=some (.tok (us j i)))) (.inl (h2 _ hB)) ?_ ?_ hb (by omega) hm hcs r.lv ?_ ?_ ?_
      · rintro j i x (⟨-,k⟩ | ⟨k1,k2⟩)
        · exact ⟨.inl (h2 _ (hBs j i x k).1),(hBs j i x k).2⟩
        · refine ⟨.inr ⟨_,r.dU j i k1,k2⟩,?_⟩
          rintro rfl
          rw [h2 _ hB] at k2
          simp only [Option.some.injEq,Root.tok.injEq] at k2
          exact r.ut (by rw [k2];exact r.dU j i k1)
      · rintro j i j' i' x (⟨-,k⟩ | ⟨k1,k2⟩) (⟨-,k'⟩ | ⟨k1',k2'⟩)
        · exact hd j i j' i' x k k'
        · rw [h2 _ (hBs j i x k).1] at k2'
          simp only [Option.some.injEq,Root.tok.injEq] at k2'
          exact absurd (by rw [k2'];exact r.dU j' i' k1') r.ut
        · rw [h2 _ (hBs j' i' x k').1] at k2
          simp only [Option.some.injEq,Root.tok.injEq] at k2
          exact absurd (by rw [k2];exact r.dU j i k1) r.ut
        · rw [k2] at k2'
          simp only [Option.some.injEq,Root.tok.injEq] at k2'
          exact r.inj j i j' i' k1 k1' k2'
      · intro j i l hj
        rcases r.at_ j i l hj with ⟨-,k⟩ | ⟨-,hd,z',zs,k,-⟩
        · exact hc j i l k
        · exact hc j i _ k
      · intro j i l hj hne
        rcases r.at_ j i l hj with ⟨-,k⟩ | ⟨-,hd,z',zs,k,k2,-⟩
        · exact hl j i l k hne
        · exact absurd k2 (hne _ _)
      · intro j i z' zs hj
        rcases r.at_ j i _ hj with ⟨k0,k⟩ | ⟨k0,hd',z2,zs2,k,k2,k3,k4⟩
        · exact (hN j i z' zs k).mono (fun _ _=>rfl) (fun _ h=>h) fun x hx=>⟨.inl ⟨k0,hx⟩,rfl⟩
        · cases k2
          have hu2:=(hl j i _ k (by intro z ys e;cases e)).rawv rfl
          · obtain ⟨-,hrow2⟩:=h.row _ _ k3
            rcases hrow2 with ⟨-,B2,g1,g2,-⟩ | ⟨hw2,-⟩
            · rw [k4] at g1
              rw [hu2]
              exact g1.mono (fun _ _=>rfl) (fun _ h=>h) fun x hx=>⟨.inr ⟨k0,g2 x hx⟩,rfl⟩
            · cases hw2
  · cases hw
open Classical in
theorem rej_ok (h:MemOK M W s) (r:RejOK M s t U z xs ys D us) (hU:∀ u,U u→u < M.nt):MemOK (M.rej W t U z) W (s.rej t U z ys) where
  nt:=h.nt
  nb:=h.nb
  box b c hb:=by cases hb
  row x q hq:=by
    have hq':(if x=t then some ⟨z,ys,true⟩ else if U x then none else s.R x)=some q:=by
      simp only [S.rej] at hq
      exact hq
    by_cases e:x=t
    · subst e
      rw [if_pos rfl] at hq'
      cases hq'
      refine ⟨(h.row x _ r.rt).1,row_of (v:=M.ρ x) (B:=fun y=>M.ω y=some (.tok x) ∨ ∃ u,U u∧M.ω y=some (.tok u)) (rej_row h r) ?_ rfl (fun j i=>if_pos rfl)⟩
      rintro b (hb | hb)
      · simp only [Mem.rej]
        rw [if_neg,hb]
        rintro ⟨u,hu,h2⟩
        rw [hb] at h2
        cases h2
        exact r.ut hu
      · simp only [Mem.rej]
        rw [if_pos hb]
    · rw [if_neg e] at hq'
      by_cases eU:U x
      · rw [if_pos eU] at hq';cases hq'
      · rw [if_neg eU] at hq'
        obtain ⟨h3,h4⟩:=h.row x q hq'
        refine ⟨h3,?_⟩
        rcases h4 with ⟨hw,B',h5,h6,h7⟩ | ⟨hw,h5,h6⟩
        · refine .inl ⟨hw,B',h5,fun b hb=>?_,fun j i z' ys hl b o m c hv=>?_⟩
          · simp only [Mem.rej]
            rw [if_neg,h6 b hb]
            rintro ⟨u,hu,h2⟩
            rw [h6 b hb] at h2
            cases h2
            exact eU hu
          · simp only [Mem.rej]
            rw [if_neg e]
            exact h7 j i z' ys hl b o m c hv
        · exact .inr ⟨hw,h5,h6⟩
  frz b hf:=by
    have:=h.frz b hf
    refine ⟨?_,this.2⟩
    simp only [Mem.rej]
    rw [if_neg,this.1]
    rintro ⟨u,hu,h2⟩
    rw [this.1] at h2
    cases h2
  lt b l hl:=by
    simp only [Mem.rej] at hl
    split at hl
    · rename_i hx
      obtain ⟨u,hu,h2⟩:=hx
      exact h.lt b _ h2
    · exact h.lt b l hl
  tok b x hl:=by
    simp only [Mem.rej] at hl
    split at hl
    · cases hl
      exact (h.row t _ r.rt).1
    · exact h.tok b x hl
  bx b k hl:=by
    simp only [Mem.rej] at hl
    split at hl
    · cases hl
    · exact h.bx b k hl
theorem rej_evo {M0:Mem} {W0:World} (he:Evo M0 W0 M W):Evo M0 W0 (M.rej W t U z) W where
  os:=he.os
  tape:=he.tape
  output:=he.output
  size:=he.size
  old:=he.old
  lab b l hl:=by
    simp only [Mem.rej] at hl
    split at hl
    · rename_i hx
      obtain ⟨u,hu,h2⟩:=hx
      exact he.lab b _ h2
    · exact he.lab b l hl
  frz:=he.frz
  frz0:=he.frz0
  nt:=he.nt
  nb:=he.nb
  ρ:=he.ρ
  β:=he.β
end
theorem ent_leaf {es:List Ent} {pre:List V} {j i:Nat} {l:V} (h:leafAt (pre ++ es.map fun e=>e.ty.o) j i=some l) :
    (j < pre.length∧leafAt (pre ++ es.map Ent.v) j i=some l) ∨ ∃ e,pre.length≤j∧es[j - pre.length]?=some e∧((i ≠ 3∧leafAt (pre ++ es.map Ent.v) j i=some l) ∨ (i=3∧leafAt (pre ++ es.map Ent.v) j i=some (.raw e.h)∧l=.inl 3 (e.ty.fields.map Fld.v))):=by
  unfold leafAt at *
  by_cases hj:j < pre.length
  · left
    refine ⟨hj,?_⟩
    rw [List.getElem?_append_left hj] at h ⊢
    exact h
  · right
    rw [List.getElem?_append_right (by omega)] at h ⊢
    rw [List.getElem?_map] at h ⊢
    cases he:es[j - pre.length]? with
    | none=>simp [he] at h
    | some e =>
      refine ⟨e,by omega,rfl,?_⟩
      simp only [he,Option.map_some,Option.bind_some,Ty.o,Ent.v,leaves] at h ⊢
      match i,h with
      | 0,h=>exact .inl ⟨by decide,h⟩
      | 1,h=>exact .inl ⟨by decide,h⟩
      | 2,h=>exact .inl ⟨by decide,h⟩
      | 3,h=>exact .inr ⟨rfl,rfl,by simpa using h.symm⟩
      | 4,h=>exact .inl ⟨by decide,h⟩
      | 5,h=>exact .inl ⟨by decide,h⟩
      | i + 6,h=>simp at h
theorem ents_rej {M:Mem} {s:S} {t:Nat} {pre:List V} {es:List Ent} (ht:s.R t=some ⟨6,pre ++ es.map Ent.v,true⟩) (hpre:∀ x ∈ pre,(leaves x).length=6)
    (hes:∀ e ∈ es,s.R e.u=some ⟨3,e.ty.fields.map Fld.v,true⟩∧M.ρ e.u=e.h.val∧e.u ≠ t) (hnd:(es.map Ent.u).Nodup) :
    RejOK M s t (fun u=>u ∈ es.map Ent.u) 6 (pre ++ es.map Ent.v) (pre ++ es.map fun e=>e.ty.o) (fun j i=>pre.length≤j∧j - pre.length < es.length∧i=3) (fun j _=>((es.map Ent.u)[j - pre.length]?).getD 0) where
  rt:=ht
  ut hm:=by
    obtain ⟨e,he,h⟩:=List.mem_map.1 hm
    exact (hes e he).2.2 h
  len:=by simp
  lv x hx:=by
    rcases List.mem_append.1 hx with hx | hx
    · exact hpre x hx
    · obtain ⟨e,-,rfl⟩:=List.mem_map.1 hx
      rfl
  at_ j i l hl:=by
    rcases ent_leaf hl with ⟨h1,h2⟩ | ⟨e,h1,h2,h3⟩
    · exact .inl ⟨fun h=>by omega,h2⟩
    · have hlt:j - pre.length < es.length:=(List.getElem?_eq_some_iff.1 h2).1
      rcases h3 with ⟨h3,h4⟩ | ⟨h3,h4,h5⟩
      · exact .inl ⟨fun h=>h3 h.2.2,h4⟩
      · have hm:=List.mem_of_getElem? h2
        obtain ⟨k1,k2,k3⟩:=hes e hm
        refine .inr ⟨⟨h1,hlt,h3⟩,e.h,3,e.ty.fields.map Fld.v,h4,h5,?_,?_⟩
        · rw [List.getElem?_map,h2];exact k1
        · rw [List.getElem?_map,h2];exact k2
  dU j i h:=by
    obtain ⟨h1,h2,h3⟩:=h
    rw [List.getElem?_eq_getElem (by simpa using h2),Option.getD_some]
    exact List.getElem_mem _
  inj j i j' i' h h' e:=by
    obtain ⟨h1,h2,h3⟩:=h
    obtain ⟨h1',h2',h3'⟩:=h'
    rw [List.getElem?_eq_getElem (by simpa using h2),List.getElem?_eq_getElem (by simpa using h2'),Option.getD_some,Option.getD_some] at e
    have hp:=List.pairwise_iff_getElem.1 hnd
    have hj:j - pre.length=j' - pre.length:=by
      rcases Nat.lt_trichotomy (j - pre.length) (j' - pre.length) with h | h | h
      · exact absurd e (hp _ _ (by simpa using h2) (by simpa using h2') h)
      · exact h
      · exact absurd e.symm (hp _ _ (by simpa using h2') (by simpa using h2) h)
    omega
end Go.TM
end
section
set_option maxHeartbeats 4000000
set_option maxRecDepth 10000
namespace Go.TM.Tryz
open Go Go.TM Go.Proofs
noncomputable def exI (s:Scp):Scp :=
  ⟨s.name,[],baseTys ++ (objsW (tk s.types (s.types.length + 1)) [0,1,2] s.objects).2.2,(objsW (tk s.types (s.types.length + 1)) [0,1,2] s.objects).2.1,[]⟩
theorem noL_fld (fs:List Fld):noLs (fs.map Fld.v)=true:=by
  induction fs with
  | nil=>rfl
  | cons x xs ih=>simp [noLs,noL,ih]
theorem noL_par (fs:List Par):noLs (fs.map Par.v)=true:=by
  induction fs with
  | nil=>rfl
  | cons x xs ih=>simp [noLs,noL,ih]
theorem noL_str (fs:List ByteArray):noLs (fs.map V.str)=true:=by
  induction fs with
  | nil=>rfl
  | cons x xs ih=>simp [noLs,noL,ih]
theorem noL_use (fs:List Use):noLs (fs.map Use.v)=true:=by
  induction fs with
  | nil=>rfl
  | cons x xs ih=>simp [noLs,noL,ih]
theorem noL_ty (fs:List Ty):noLs (fs.map Ty.o)=true:=by
  induction fs with
  | nil=>rfl
  | cons x xs ih=>simp [noLs,noL,ih,noL_fld]
theorem noL_obj (fs:List Obj):noLs (fs.map Obj.o)=true:=by
  induction fs with
  | nil=>rfl
  | cons x xs ih=>simp [noLs,noL,ih,noL_par]
theorem f67_ok (s:Scp) (hs:ExRef s):FunOK Tryz.prog 67 [.ladr [s.v] 0 0] false (exI s).o:=by
  refine ⟨⟨_,Tryz.func67,by kernel_rfl,by kernel_rfl⟩,?_⟩
  intro M W vs hm ha
  have ha':All2 (SR1 M W) [.ladr [s.v] 0 0] vs:=ha
  refine Calls.mono (exp_walk s hs M W _ vs hm ha') ?_
  rintro e W' ⟨v,M',s',gg,r,rfl,h1,⟨hat,-,hev⟩,hr,⟨t,i1,ob,u1,es,rfl,rt,ri,ro,ru,ety,hes,hnd,hnd4⟩⟩
  simp only [List.nodup_cons,List.mem_cons,List.not_mem_nil,or_false,not_or,List.nodup_nil,not_false_eq_true,and_true] at hnd4
  obtain ⟨⟨n1,n2,n3⟩,⟨n4,n5⟩,n6⟩:=hnd4
  have hrej:=ents_rej (M:=M') (t:=t) (pre:=baseTys.map Ty.o) (es:=es) rt (fun x hx=>by
    obtain ⟨y,-,rfl⟩:=List.mem_map.1 hx
    rfl) (fun e he=>by
    obtain ⟨k1,k2,k3,-⟩:=hes e he
    exact ⟨k1,(hat.hd _ k2).2,k3⟩) hnd
  have hmem:=rej_ok h1 hrej (fun u hu=>by
    obtain ⟨e,he,rfl⟩:=List.mem_map.1 hu
    exact (h1.row _ _ (hes e he).1).1)
  have hty:(baseTys.map Ty.o ++ es.map fun e=>e.ty.o)=(exI s).types.map Ty.o:=by
    show _=(baseTys ++ (objsW (tk s.types (s.types.length + 1)) [0,1,2] s.objects).2.2).map Ty.o
    rw [List.map_append,← ety,List.map_map]
    rfl
  rw [hty] at hmem
  have g1:¬ i1 ∈ es.map Ent.u:=fun h=>by
    obtain ⟨e,he,h2⟩:=List.mem_map.1 h
    exact (hes e he).2.2.2.1 h2
  have g2:¬ ob ∈ es.map Ent.u:=fun h=>by
    obtain ⟨e,he,h2⟩:=List.mem_map.1 h
    exact (hes e he).2.2.2.2.1 h2
  have g3:¬ u1 ∈ es.map Ent.u:=fun h=>by
    obtain ⟨e,he,h2⟩:=List.mem_map.1 h
    exact (hes e he).2.2.2.2.2 h2
  have Rt:(s'.rej t (fun u=>u ∈ es.map Ent.u) 6 ((exI s).types.map Ty.o)).R t=some ⟨6,(exI s).types.map Ty.o,true⟩:=if_pos rfl
  have Ri:(s'.rej t (fun u=>u ∈ es.map Ent.u) 6 ((exI s).types.map Ty.o)).R i1=some ⟨1,[],true⟩:=by
    simp only [S.rej]
    rw [if_neg n1,if_neg g1,ri]
  have Ro:(s'.rej t (fun u=>u ∈ es.map Ent.u) 6 ((exI s).types.map Ty.o)).R ob=some ⟨6,(exI s).objects.map Obj.o,true⟩:=by
    simp only [S.rej]
    rw [if_neg (fun e=>n4 e.symm),if_neg g2,ro]
    rfl
  have Ru:(s'.rej t (fun u=>u ∈ es.map Ent.u) 6 ((exI s).types.map Ty.o)).R u1=some ⟨2,[],true⟩:=by
    simp only [S.rej]
    rw [if_neg (fun e=>n5 e.symm),if_neg g3,ru]
  refine ⟨v,_,_,.agg [.str s.name,.own i1,.own t,.own ob,.own u1],rfl,?_,hmem,rej_evo hev,?_,?_,?_,?_,?_,?_,?_⟩
  · obtain ⟨vs2,rfl,hv⟩:=hr
    exact ⟨vs2,rfl,hv.imp_mem fun a b hm hab=>by
      simp only [List.mem_cons,List.not_mem_nil,or_false] at hm
      rcases hm with rfl | rfl | rfl | rfl | rfl <;> exact hab⟩
  · simp only [resToks,resToks1,toks1,leaves,List.flatMap_cons,List.flatMap_nil,liveOuts,List.range_zero]
    simp
    exact List.Nodup.sublist List.filter_sublist (by simp [n1,n2,n3,n4,n5,n6])
  · simp [resBoxes]
  · intro _
    refine ⟨?_,rfl⟩
    show noL (exI s).o=true
    generalize exI s=x
    simp only [Scp.o,noL,noLs,noL_ty,noL_obj,noL_str,noL_use,Bool.and_self,Bool.and_true]
  · rfl
  · trivial
  · rfl
  · simp only [closeR,closeB,onL1,closeL,List.map_cons,List.map_nil,Rt,Ri,Ro,Ru,Scp.o]
    rfl
end Go.TM.Tryz
end
