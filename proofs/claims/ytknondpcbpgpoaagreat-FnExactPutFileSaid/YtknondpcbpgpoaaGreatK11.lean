/- A part of the proof: JA, T3, JB, HC, HD. -/
import Derived.Test.YtknondpcbpgpoaaGreatK10
set_option linter.unusedVariables false
set_option linter.unusedSimpArgs false
section
set_option maxHeartbeats 8000000
set_option maxRecDepth 20000
namespace Go.TM.Tryz
open Go Go.TM Go.Proofs
theorem roomTy {n:Nat} (h:n≤1048576):room ⟨6,true,80,.agg [.int .i64 0,.int .i64 0,.int .i64 0,.inl 3 [],.str ⟨#[]⟩,.str ⟨#[]⟩]⟩ n:=by simp [room];omega
theorem roomOb {n:Nat} (h:n≤1048576):room ⟨6,true,72,.agg [.str ⟨#[]⟩,.int .i64 0,.int .i64 0,.int .i64 0,.int .i64 0,.inl 3 []]⟩ n:=by simp [room];omega
theorem roomFd {n:Nat} (h:n≤1048576):room ⟨3,true,32,.agg [.str ⟨#[]⟩,.int .i64 0,.int .i64 0]⟩ n:=by simp [room];omega
theorem roomUs {n:Nat} (h:n≤1048576):room ⟨2,true,32,.agg [.str ⟨#[]⟩,.str ⟨#[]⟩]⟩ n:=by simp [room];omega
theorem roomKs {n:Nat} (h:n≤1048576):room ⟨3,true,40,.agg [.str ⟨#[]⟩,.str ⟨#[]⟩,.int .i64 0]⟩ n:=by simp [room];omega
theorem roomSt {n:Nat} (h:n≤1048576):room ⟨1,false,16,.str ⟨#[]⟩⟩ n:=by simp [room];omega
theorem roomSc {n:Nat} (h:n≤1048576):room ⟨5,true,112,.agg [.str ⟨#[]⟩,.inl 1 [],.inl 6 [],.inl 6 [],.inl 2 []]⟩ n:=by simp [room];omega
theorem roomMd {n:Nat} (h:n≤1048576):room ⟨6,true,136,.agg [.str ⟨#[]⟩,.inl 1 [],.inl 6 [],.inl 6 [],.inl 2 [],.inl 3 []]⟩ n:=by simp [room];omega
theorem vwE_fld:(vwE ∘ Fld.v)=Fld.v:=funext fun _=>rfl
theorem vwE_use:(vwE ∘ Use.v)=Use.v:=funext fun _=>rfl
theorem vwE_knw:(vwE ∘ Knw.v)=Knw.v:=funext fun _=>rfl
theorem vwE_str:(vwE ∘ V.str)=V.str:=funext fun _=>rfl
structure TysLen (ts:List Ty):Prop where
  len:ts.length≤1048576
  fs:∀ t ∈ ts,t.fields.length≤1048576
theorem f199_ok (ts:List Ty) (h:TysLen ts):FunOK Tryz.prog 199 [.lst (ts.map Ty.v)] false (.inl 6 (ts.map Ty.o)):=by
  refine fun_ok (mkE_ok zmix (cl:=[]) (gl:=[]) [] trivial trivial) Tryz.func199 (by kernel_rfl) ?_
  refine FunW_run _ _ rfl rfl ?_
  have hlen:=h.len
  simp
  refine lp_list ts (fun i t=>t.e 6=.lst (ts.map Ty.v)∧t.e 7=.int .i64 ts.length∧t.e 8=.int .i64 i∧∃ p,t.e 3=.own p∧p < t.nt∧t.R p=some ⟨6,(ts.take i).map Ty.o,true⟩) ?_ ?_ ?_
  · simp
  · rintro c' L hL i t x hx hi ih ⟨h6,h7,h8,p,h3,hp,hR⟩
    have hw:=wrI (i:=i) (by omega)
    have hfs:=h.fs x (List.mem_of_getElem? hx)
    have n1:¬ p=t.nt:=by omega
    have n2:¬ t.nt=p:=by omega
    have n3:¬ p=t.nt + 1:=by omega
    have n4:¬ p=t.nt + 1 + 1:=by omega
    have n5:¬ p=t.nt + 1 + 1 + 1:=by omega
    have n6:¬ p=t.nt + 1 + 1 + 1 + 1:=by omega
    have hmin:min i ts.length=i:=by omega
    have hr1:=roomFd (n:=x.fields.length) (by omega)
    have hr:=roomTy (n:=i + 1) (by omega)
    simp [-getElem?_pos,gcz,gcs,h6,h7,h8,h3,hR,hL,hi,hx,n1,n2,n3,n4,n5,n6,hr1,hr,hmin,vwE_fld]
    refine ih _ ?_
    simp [h6,h7,h8,h3,hR,hw,n1,n2,n3,n4,n5,n6,vwE_fld,List.take_add_one,hx]
  · rintro c' t ⟨h6,h7,h8,p,h3,hp,hR⟩
    rw [List.take_length] at hR
    simp [h6,h7,h8,h3,hR]
noncomputable def c199:=ctr (fun ts:List Ty=>TysLen ts) (fun ts=>[.lst (ts.map Ty.v)]) (fun ts=>(false,.inl 6 (ts.map Ty.o)))
theorem c199_eq (ts:List Ty) (h:TysLen ts):c199 [.lst (ts.map Ty.v)]=some (false,.inl 6 (ts.map Ty.o)):=ctr_eq (injl Ty.v_inj _) ts h rfl
theorem c199_ok:COK Tryz.prog (199,c199):=ctr_ok fun ts h=>f199_ok ts h
end Go.TM.Tryz
end
section
namespace Go.TM
open Go
@[simp] theorem killS_int (k:IntKind) (n:Int):killS (.int k n)=.int k n:=rfl
@[simp] theorem killS_bool (b:Bool):killS (.bool b)=.bool b:=rfl
@[simp] theorem killS_str (b:ByteArray):killS (.str b)=.str b:=rfl
@[simp] theorem killS_lst (xs:List V):killS (.lst xs)=.lst xs:=rfl
@[simp] theorem killS_inl (z:Nat) (xs:List V):killS (.inl z xs)=.inl z xs:=rfl
@[simp] theorem killS_own (t:Nat):killS (.own t)=.own t:=rfl
@[simp] theorem killS_ladr (xs:List V) (i o:Nat):killS (.ladr xs i o)=.ladr xs i o:=rfl
@[simp] theorem killS_oadr (t z i o:Nat):killS (.oadr t z i o)=.oadr t z i o:=rfl
@[simp] theorem killS_sub (t i o:Nat):killS (.sub t i o)=.bad:=rfl
@[simp] theorem killS_sadr (t i o z j p:Nat):killS (.sadr t i o z j p)=.bad:=rfl
@[simp] theorem killS_ptr (b o:Nat):killS (.ptr b o)=.ptr b o:=rfl
@[simp] theorem killS_fn (f:Nat) (c:List V):killS (.fn f c)=.fn f c:=rfl
@[simp] theorem killS_nilp:killS .nilp=.nilp:=rfl
@[simp] theorem killS_nili:killS .nili=.nili:=rfl
@[simp] theorem killS_bad:killS .bad=.bad:=rfl
@[simp] theorem killS_raw (h:Hdr):killS (.raw h)=.raw h:=rfl
attribute [simp] nsL newBx
@[simp] theorem bareK_e (s:S) (x:Nat):s.bareK.e x=onC killS (s.e x):=rfl
@[simp] theorem bareK_B (s:S):s.bareK.B=fun _=>none:=rfl
@[simp] theorem bareK_R (s:S):s.bareK.R=fun _=>none:=rfl
@[simp] theorem bareK_nt (s:S):s.bareK.nt=s.nt:=rfl
@[simp] theorem bareK_nb (s:S):s.bareK.nb=s.nb:=rfl
@[simp] theorem joinS_e (s s1:S) (x:Nat):(joinS s s1).e x=onC killS (s1.e x):=rfl
@[simp] theorem joinS_B (s s1:S) (b:Nat):(joinS s s1).B b=if b < s.nb then s.B b else newBx (s1.B b):=rfl
@[simp] theorem joinS_R (s s1:S) (t:Nat):(joinS s s1).R t=if t < s.nt then s.R t else s1.R t:=rfl
@[simp] theorem joinS_nt (s s1:S):(joinS s s1).nt=s1.nt:=rfl
@[simp] theorem joinS_nb (s s1:S):(joinS s s1).nb=s1.nb:=rfl
def postQ (P:S→Prop):X→S→Prop:=fun _ s=>P s
@[simp] theorem postQ_app (P:S→Prop) (x:X) (s:S):postQ P x s=P s:=rfl
theorem aftE_post {E:Env} {p:Pl} {pl:Option (List (Nat × Bool))} {ops:Array Oper} {k:List Fr} {Q:X→S→Prop} {s:S} (P:S→Prop) (h1:aftE (some p) pl ops [] E (postQ P) s) (h:∀ s',P s'→kont E k Q .normal s'):aftE (some p) pl ops k E Q s :=
  preW_mono ops _ _ _ _ (fun u hu=>treeW_mono ops _ _ _ _ (fun s' hs=>h s' hs) hu) h1
end Go.TM
end
section
set_option maxHeartbeats 16000000
set_option maxRecDepth 20000
namespace Go.TM.Tryz
open Go Go.TM Go.Proofs
structure ScLen (s:Scp):Prop where
  im:s.imports.length≤1048576
  ty:TysLen s.types
  ob:s.objects.length≤1048576
  pa:∀ o ∈ s.objects,o.params.length≤1048576
  us:s.uses.length≤1048576
def tree153:TT:=.three false 2 (.three false 5 (.three false 8 (.two false 9 (.two false 12 (.two false 13 (.one false 14 (.one false 15 .done)) false 14 (.one false 13 (.one false 15 .done))) false 14 (.one false 12 (.one false 13 (.one false 15 .done)))) false 14 (.one false 9 (.one false 12 (.one false 13 (.one false 15 .done))))) false 9 (.two false 8 (.two false 12 (.two false 13 (.one false 14 (.one false 15 .done)) false 14 (.one false 13 (.one false 15 .done))) false 14 (.one false 12 (.one false 13 (.one false 15 .done)))) false 14 (.one false 8 (.one false 12 (.one false 13 (.one false 15 .done))))) false 14 (.two false 8 (.one false 9 (.one false 12 (.one false 13 (.one false 15 .done)))) false 9 (.one false 8 (.one false 12 (.one false 13 (.one false 15 .done)))))) false 9 (.two false 5 (.two false 8 (.two false 12 (.two false 13 (.one false 14 (.one false 15 .done)) false 14 (.one false 13 (.one false 15 .done))) false 14 (.one false 12 (.one false 13 (.one false 15 .done)))) false 14 (.one false 8 (.one false 12 (.one false 13 (.one false 15 .done))))) false 14 (.one false 5 (.one false 8 (.one false 12 (.one false 13 (.one false 15 .done)))))) false 14 (.two false 5 (.two false 8 (.one false 9 (.one false 12 (.one false 13 (.one false 15 .done)))) false 9 (.one false 8 (.one false 12 (.one false 13 (.one false 15 .done))))) false 9 (.one false 5 (.one false 8 (.one false 12 (.one false 13 (.one false 15 .done))))))) false 9 (.two false 2 (.two false 5 (.two false 8 (.two false 12 (.two false 13 (.one false 14 (.one false 15 .done)) false 14 (.one false 13 (.one false 15 .done))) false 14 (.one false 12 (.one false 13 (.one false 15 .done)))) false 14 (.one false 8 (.one false 12 (.one false 13 (.one false 15 .done))))) false 14 (.one false 5 (.one false 8 (.one false 12 (.one false 13 (.one false 15 .done)))))) false 14 (.one false 2 (.one false 5 (.one false 8 (.one false 12 (.one false 13 (.one false 15 .done))))))) false 14 (.two false 2 (.two false 5 (.two false 8 (.one false 9 (.one false 12 (.one false 13 (.one false 15 .done)))) false 9 (.one false 8 (.one false 12 (.one false 13 (.one false 15 .done))))) false 9 (.one false 5 (.one false 8 (.one false 12 (.one false 13 (.one false 15 .done)))))) false 9 (.one false 2 (.one false 5 (.one false 8 (.one false 12 (.one false 13 (.one false 15 .done)))))))
def tree153b:TT:=.two false 0 (.two false 1 (.one false 2 (.one false 3 (.one false 4 (.one false 5 (.one false 6 (.one false 7 .done)))))) false 2 (.two false 1 (.one false 3 (.one false 4 (.one false 5 (.one false 6 (.one false 7 .done))))) false 3 (.two false 1 (.one false 4 (.one false 5 (.one false 6 (.one false 7 .done)))) false 4 (.one false 1 (.one false 5 (.one false 6 (.one false 7 .done))))))) false 2 (.two false 0 (.two false 1 (.one false 3 (.one false 4 (.one false 5 (.one false 6 (.one false 7 .done))))) false 3 (.two false 1 (.one false 4 (.one false 5 (.one false 6 (.one false 7 .done)))) false 4 (.one false 1 (.one false 5 (.one false 6 (.one false 7 .done)))))) false 3 (.two false 0 (.two false 1 (.one false 4 (.one false 5 (.one false 6 (.one false 7 .done)))) false 4 (.one false 1 (.one false 5 (.one false 6 (.one false 7 .done))))) false 4 (.one false 0 (.one false 1 (.one false 5 (.one false 6 (.one false 7 .done)))))))
def cut153b:Pl:=⟨[],[],[],[0,1,2,3,4,5,6,7],tree153b⟩
def cut153:Pl:=⟨[],[(0,false),(1,false),(3,false),(4,false),(6,false),(7,false),(10,false),(11,false)],[2,5,8,9,12,13,14,15],[],.bare tree153⟩
def Own153 (s:Scp) (t:S):Prop :=
  t.e 1=.ptr 0 0∧t.e 2=.ptr 1 0∧t.e 3=.ptr 2 0∧t.nb=3∧t.B 0=some s.v∧t.B 1=some (.agg [.str ⟨#[]⟩,.own 0,.own 1,.own 2,.own 3]) ∧
  ∃ i t1 o u,t.B 2=some (.agg [.str s.name,.own i,.own t1,.own o,.own u])∧t.R i=some ⟨1,s.imports.map V.str,true⟩∧t.R t1=some ⟨6,s.types.map Ty.o,true⟩∧t.R o=some ⟨6,[],true⟩∧t.R u=some ⟨2,s.uses.map Use.v,true⟩ ∧
    i < t.nt∧t1 < t.nt∧o < t.nt∧u < t.nt∧i ≠ t1∧i ≠ o∧i ≠ u∧t1 ≠ o∧t1 ≠ u∧o ≠ u
theorem cut153_run {E:Env} (pl:Option (List (Nat × Bool))) (ops:Array Oper) (k:List Fr) (Q:X→S→Prop) (s:S):aftE (some cut153) pl ops k E Q s=preK E ops k Q (.bare tree153) [(0,false),(1,false),(3,false),(4,false),(6,false),(7,false),(10,false),(11,false)] s:=rfl
theorem cut153b_run {E:Env} (pl:Option (List (Nat × Bool))) (ops:Array Oper) (k:List Fr) (Q:X→S→Prop) (s:S):aftE (some cut153b) pl ops k E Q s=preK E ops k Q tree153b [] s:=rfl
theorem f153_ok (s:Scp) (h:ScLen s):FunOK Tryz.prog 153 [s.v] false s.o:=by
  refine fun_ok (mkE2_ok zmix (cl:=[(199,c199),(118,c118)]) (gl:=[]) [] [(1,cut153),(5,cut153b)] ⟨c199_ok,c118_ok⟩ trivial) Tryz.func153 (by kernel_rfl) ?_
  refine FunW_run _ _ rfl rfl ?_
  have e199:=c199_eq s.types h.ty
  have r1:=roomSt h.im
  have r2:=roomUs h.us
  simp [-aftE_some]
  refine aftE_post (Own153 s) ?_ ?_
  · simp [-aftE_some,cut153_run,tree153,pureOp,e199,r1,r2,Own153,vwE_str,vwE_use]
    repeat' apply And.intro
    all_goals exact ⟨_,_,_,_,⟨rfl,rfl,rfl,rfl⟩,by simp⟩
  · rintro t ⟨g1,g2,g3,gn,B0,B1,i1,t1,o1,u1,B2,R1,R2,R3,R4,l1,l2,l3,l4,d1,d2,d3,d4,d5,d6⟩
    have hob:=h.ob
    simp only [Scp.v] at B0
    simp [g1,B0]
    refine lp_list s.objects (fun j t=>t.e 2=.ptr 1 0∧t.e 3=.ptr 2 0∧t.e 21=.lst (s.objects.map Obj.v)∧t.e 22=.int .i64 s.objects.length∧t.e 23=.int .i64 j∧2 < t.nb∧t.B 1=some (.agg [.str ⟨#[]⟩,.own 0,.own 1,.own 2,.own 3]) ∧
      ∃ o,t.B 2=some (.agg [.str s.name,.own i1,.own t1,.own o,.own u1])∧t.R i1=some ⟨1,s.imports.map V.str,true⟩∧t.R t1=some ⟨6,s.types.map Ty.o,true⟩∧t.R o=some ⟨6,(s.objects.take j).map Obj.o,true⟩∧t.R u1=some ⟨2,s.uses.map Use.v,true⟩ ∧
        i1 < t.nt∧t1 < t.nt∧o < t.nt∧u1 < t.nt∧i1 ≠ o∧t1 ≠ o∧o ≠ u1) ?_ ?_ ?_
    · simp [g2,g3,gn,B1,B2,R1,R2,R3,R4]
      exact ⟨l1,l2,l3,l4,d2,d4,d6⟩
    · rintro c' L hL j t x hx hi ih ⟨k2,k3,k21,k22,k23,knb,K1,o,K2,S1,S2,S3,S4,m1,m2,m3,m4,e1,e2,e3⟩
      have hw:=wrI (i:=j) (by omega)
      have e118:=c118_eq x (h.pa x (List.mem_of_getElem? hx))
      simp only [Obj.v,Obj.o] at e118
      have n1:¬ 2=t.nb:=by omega
      have n2:¬ t.nb=2:=by omega
      have n3:¬ 1=t.nb:=by omega
      have a1:¬ o=t.nt:=by omega
      have a2:¬ o=t.nt + 1:=by omega
      have a3:¬ o=t.nt + 1 + 1:=by omega
      have b1:¬ i1=t.nt:=by omega
      have b2:¬ i1=t.nt + 1:=by omega
      have b3:¬ i1=t.nt + 1 + 1:=by omega
      have c1:¬ t1=t.nt:=by omega
      have c2:¬ t1=t.nt + 1:=by omega
      have c3:¬ t1=t.nt + 1 + 1:=by omega
      have f1:¬ u1=t.nt:=by omega
      have f2:¬ u1=t.nt + 1:=by omega
      have f3:¬ u1=t.nt + 1 + 1:=by omega
      have a4:¬ o=t.nt + 1 + 1 + 1:=by omega
      have b4:¬ i1=t.nt + 1 + 1 + 1:=by omega
      have c4:¬ t1=t.nt + 1 + 1 + 1:=by omega
      have f4:¬ u1=t.nt + 1 + 1 + 1:=by omega
      have e3':¬ u1=o:=fun e=>e3 e.symm
      have hmin:min j s.objects.length=j:=by omega
      have hr:=roomOb (n:=j + 1) (by omega)
      simp [-getElem?_pos,gcz,gcs,k2,k3,k21,k22,k23,K2,S3,hL,hi,hx,e118,n1,n2,n3,a1,a2,a3,a4,hr,hmin,-aftE_some,cut153b_run,tree153b,pureOp]
      repeat' apply And.intro
      all_goals
        refine ih _ ?_
        simp [k2,k3,k21,k22,k23,K1,K2,S1,S2,S3,S4,hw,n1,n2,n3,a1,a2,a3,a4,b1,b2,b3,b4,c1,c2,c3,c4,f1,f2,f3,f4,e1,e2,e3,e3',List.take_add_one,hx]
        omega
    · rintro c' t ⟨k2,k3,k21,k22,k23,knb,K1,o,K2,S1,S2,S3,S4,m1,m2,m3,m4,e1,e2,e3⟩
      rw [List.take_length] at S3
      simp [k2,k3,k21,k22,k23,K1,K2,S1,S2,S3,S4]
      exact ⟨⟨d1,e1,d3⟩,⟨e2,d5⟩,e3⟩
end Go.TM.Tryz
end
section
set_option maxHeartbeats 8000000
set_option maxRecDepth 20000
namespace Go.TM.Tryz
open Go Go.TM Go.Proofs
theorem renTs_snoc {l:List Ty} {o:List Int} {n:Int} {ty:Ty} (e:List Int) (h:l[n.toNat]?=some ty):renTs l o (e ++ [n])=renTs l o e ++ [renT o ty]:=by
  simp [renTs,List.filterMap_append,h]
theorem renTs_len (l:List Ty) (o e:List Int):(renTs l o e).length≤e.length:=List.length_filterMap_le _ _
structure TOK (l:List Ty) (ord:List Int):Prop where
  oo:OrdOK l.length ord
  ty:Go.TM.TyRef l
  l24:l.length≤24
  f6:∀ t ∈ l,t.fields.length≤6
theorem f120_ok (l:List Ty) (ord:List Int) (h:TOK l ord):GenOK Tryz.prog 120 [.ptr 0 0] [bxV l ord] ⟨false,.inl 6 ((renTs l ord ord).map Ty.o),[],[bxV l ord]⟩:=by
  refine fun_okG (mkE2_ok zmix (cl:=[(119,c119 l)]) (gl:=[]) [] [] (c119_ok l) trivial) Tryz.func120 (by kernel_rfl) ?_
  refine FunG_run _ _ rfl rfl ?_
  have hol:=h.oo.len
  have hl24:=h.l24
  simp [bxV]
  refine lp_list ord (fun i t=>t.e 0=.ptr 0 0∧t.e 13=.own 1∧t.e 14=.int .i64 ord.length∧t.e 15=.int .i64 i∧0 < t.nb∧t.B 0=some (.agg [.lst (l.map Ty.v),.own 0,.own 1]) ∧
    t.R 0=some ⟨1,(toOf l.length ord).map (V.int .i64),true⟩∧t.R 1=some ⟨1,ord.map (V.int .i64),true⟩∧∃ p,t.e 3=.own p∧1 < p∧p < t.nt∧t.R p=some ⟨6,(renTs l ord (ord.take i)).map Ty.o,true⟩) ?_ ?_ ?_
  · simp [renTs]
  · rintro c' L hL i t n hx hi ih ⟨h1,h2,h3,h4,h5,hB,hR0,hR1,p,h6,hp1,hp,hRp⟩
    have hnm:=List.mem_of_getElem? hx
    obtain ⟨n0,nl⟩:=h.oo.in_ n hnm
    have hlt:n.toNat < l.length:=by omega
    obtain ⟨ty,hty⟩:∃ ty,l[n.toNat]?=some ty:=⟨_,List.getElem?_eq_getElem hlt⟩
    have hmt:ty ∈ l:=List.mem_of_getElem? hty
    have hba:=h.ty.base ty hmt
    have hl6:=h.f6 ty hmt
    have hw:=wrI (i:=i) (by omega)
    have hsn:=renTs_snoc (o:=ord) (ord.take i) hty
    rw [show ord.take i ++ [n]=ord.take (i + 1) by rw [List.take_add_one,hx];rfl] at hsn
    have e1:=c119_eq (l:=l) (ord:=ord) hba
    have b1:¬ 0=t.nb:=by omega
    have d1:¬ 0=t.nt:=by omega
    have d2:¬ 1=t.nt:=by omega
    have d3:¬ p=t.nt:=by omega
    simp [-getElem?_pos,gcz,gcs,h1,h2,h3,h4,h6,hB,hR0,hR1,hRp,hL,hi,hx,b1,d1,d2,d3,e1,hty,n0,nl,hlt]
    refine lp_list ty.fields (fun j u=>u.e 0=.ptr 0 0∧u.e 13=.own 1∧u.e 14=.int .i64 ord.length∧u.e 15=.int .i64 i∧u.e 3=.own p∧u.e 6=.ptr t.nb 0∧t.nb < u.nb∧u.e 32=.lst (ty.fields.map Fld.v)∧u.e 33=.int .i64 ty.fields.length∧u.e 34=.int .i64 j ∧
      u.B 0=some (.agg [.lst (l.map Ty.v),.own 0,.own 1])∧u.B t.nb=some (.agg [.int .i64 ty.kind,.int .i64 ty.long,.int .i64 (numI ord ty.base),.lst (ty.fields.map Fld.v),.str ty.owner,.str ty.name]) ∧
      u.R 0=some ⟨1,(toOf l.length ord).map (V.int .i64),true⟩∧u.R 1=some ⟨1,ord.map (V.int .i64),true⟩∧u.R p=some ⟨6,(renTs l ord (ord.take i)).map Ty.o,true⟩∧p < u.nt ∧
      ∃ q,u.e 7=.own q∧p < q∧q < u.nt∧u.R q=some ⟨3,((ty.fields.take j).map (renF ord)).map Fld.v,true⟩) ?_ ?_ ?_
    · simp [h1,h2,h3,h4,h6,hB,hR0,hR1,hRp,b1,d1,d2,d3]
      omega
    · clear h1 h2 h3 h4 hB hR0 hR1 hRp h6
      rintro c2 L2 hL2 j u x hy hj ihJ ⟨h1,h2,h3,h4,h6,k1,k2,k3,k4,k5,hB,hD,hR0,hR1,hRp,hpu,q,k6,hpq,hqu,hRq⟩
      have hxm:=List.mem_of_getElem? hy
      have hxr:=h.ty.flds ty hmt x hxm
      have e2:=c119_eq (l:=l) (ord:=ord) hxr.2
      have hw2:IntKind.i64.wrap ((j:Int) + 1)=((j + 1:Nat):Int):=wrap64 (by omega) (by omega)
      have b2:¬ 0=u.nb:=by omega
      have b3:¬ t.nb=u.nb:=by omega
      have m1:¬ 0=u.nt:=by omega
      have m2:¬ 1=u.nt:=by omega
      have m3:¬ p=u.nt:=by omega
      have m4:¬ q=u.nt:=by omega
      have m5:¬ 0=q:=by omega
      have m6:¬ 1=q:=by omega
      have m7:¬ p=q:=by omega
      have hmin:min j ty.fields.length=j:=by omega
      have hr:room ⟨3,true,32,.agg [.str ⟨#[]⟩,.int .i64 0,.int .i64 0]⟩ (j + 1):=by simp [room];omega
      by_cases hm0:x.mark=0
      · simp [-getElem?_pos,gcz,gcs,h1,h2,h3,h4,h6,k1,k3,k4,k5,k6,hB,hD,hR0,hR1,hRp,hRq,hL2,hj,hy,b2,b3,m1,m2,m3,m4,m5,m6,m7,e2,hm0,hr,hmin]
        refine ihJ _ ?_
        have nl1:¬ u.nb=t.nb:=by omega
        have m8:¬ p=u.nt + 1:=by omega
        have m9:¬ 1=u.nt + 1:=by omega
        simp [h1,h2,h3,h4,h6,k1,k3,k4,k5,k6,hB,hD,hR0,hR1,hRp,hRq,b2,b3,m1,m2,m3,m4,m5,m6,m7,m8,m9,nl1,hw2,List.take_add_one,hy,renF,hm0]
        omega
      · simp [-getElem?_pos,gcz,gcs,h1,h2,h3,h4,h6,k1,k3,k4,k5,k6,hB,hD,hR0,hR1,hRp,hRq,hL2,hj,hy,b2,b3,m1,m2,m3,m4,m5,m6,m7,e2,hm0,hr,hmin]
        refine ihJ _ ?_
        have nl1:¬ u.nb=t.nb:=by omega
        have m8:¬ p=u.nt + 1:=by omega
        have m9:¬ 1=u.nt + 1:=by omega
        simp [h1,h2,h3,h4,h6,k1,k3,k4,k5,k6,hB,hD,hR0,hR1,hRp,hRq,b2,b3,m1,m2,m3,m4,m5,m6,m7,m8,m9,nl1,hw2,List.take_add_one,hy,renF,hm0]
        omega
    · clear h1 h2 h3 h4 hB hR0 hR1 hRp h6
      rintro c2 u ⟨h1,h2,h3,h4,h6,k1,k2,k3,k4,k5,hB,hD,hR0,hR1,hRp,hpu,q,k6,hpq,hqu,hRq⟩
      rw [List.take_length] at hRq
      have b2:¬ 0=t.nb:=by omega
      have m1:¬ 0=u.nt:=by omega
      have m2:¬ 1=u.nt:=by omega
      have m3:¬ p=u.nt:=by omega
      have m4:¬ q=u.nt:=by omega
      have m5:¬ 0=q:=by omega
      have m6:¬ 1=q:=by omega
      have m7:¬ p=q:=by omega
      have hln:=renTs_len l ord (ord.take i)
      rw [List.length_take] at hln
      have hr:room ⟨6,true,80,.agg [.int .i64 0,.int .i64 0,.int .i64 0,.inl 3 [],.str ⟨#[]⟩,.str ⟨#[]⟩]⟩ ((renTs l ord (ord.take i)).length + 1):=by simp [room];omega
      simp [-getElem?_pos,gcz,gcs,h1,h2,h3,h4,h6,k1,k3,k4,k5,k6,hB,hD,hR0,hR1,hRp,hRq,hL,b2,m1,m2,m3,m4,m5,m6,m7,hr]
      refine ih _ ?_
      have m8:¬ 1=u.nt + 1:=by omega
      have m9:¬ 0=p:=by omega
      have m10:¬ 1=p:=by omega
      have m11:¬ u.nt=0:=by omega
      simp [m9,m10,m11,h1,h2,h3,h4,h6,k1,k3,k4,k5,k6,hB,hD,hR0,hR1,hRp,hRq,b2,m1,m2,m3,m4,m5,m6,m7,m8,hw,hsn,renT]
      omega
  · rintro c' t ⟨h1,h2,h3,h4,h5,hB,hR0,hR1,p,h6,hp1,hp,hRp⟩
    rw [List.take_length] at hRp
    have d1:¬ p=0:=by omega
    have d2:¬ p=1:=by omega
    have d3:¬ 0=p:=by omega
    have d4:¬ 1=p:=by omega
    simp [h1,h2,h3,h4,h6,hB,hR0,hR1,hRp,d1,d2,d3,d4]
end Go.TM.Tryz
end
section
set_option maxHeartbeats 8000000
set_option maxRecDepth 20000
namespace Go.TM.Tryz
open Go Go.TM Go.Proofs
theorem injTab {β:Type} {l:List Ty} (out:List Int→β):∀ a b:List Int,(([.ptr 0 0],[bxV l a]):List V × List V)=([.ptr 0 0],[bxV l b])→out a=out b:=by
  intro a b h
  simp only [Prod.mk.injEq,List.cons.injEq,and_true,true_and] at h
  rw [bxV_inj h]
noncomputable def c120 (l:List Ty):=ctrG (fun ord:List Int=>TOK l ord) (fun ord=>([.ptr 0 0],[bxV l ord])) (fun ord=>⟨false,.inl 6 ((renTs l ord ord).map Ty.o),[],[bxV l ord]⟩)
theorem c120_eq {l:List Ty} {ord:List Int} (h:TOK l ord):c120 l [.ptr 0 0] [bxV l ord]=some ⟨false,.inl 6 ((renTs l ord ord).map Ty.o),[],[bxV l ord]⟩:=ctrG_eq (injTab _) ord h rfl
theorem c120_ok (l:List Ty):GOK Tryz.prog (120,[],c120 l):=ctrG_ok fun ord h=>f120_ok l ord h
def fillI (L i:Nat):List Int:=(List.range L).map fun j=>if j < i then -1 else 0
theorem fillI_len (L i:Nat):(fillI L i).length=L:=by simp [fillI]
theorem fillI_set {L i:Nat} (h:i < L):(fillI L i).set i (-1)=fillI L (i + 1):=by
  apply List.ext_getElem?
  intro j
  rw [List.getElem?_set]
  simp only [fillI_len]
  by_cases e:i=j
  · subst e
    simp [fillI,h]
  · rw [if_neg e]
    by_cases hj:j < L
    · simp only [fillI,List.getElem?_map,List.getElem?_range hj,Option.map_some,Option.some.injEq]
      by_cases h1:j < i
      · rw [if_pos h1,if_pos (by omega)]
      · rw [if_neg h1,if_neg (by omega)]
    · rw [List.getElem?_eq_none (by rw [fillI_len];omega),List.getElem?_eq_none (by rw [fillI_len];omega)]
theorem fillI_zero (L:Nat):fillI L 0=List.replicate L 0:=by
  apply List.ext_getElem?
  intro j
  by_cases hj:j < L <;> simp [fillI,hj]
theorem fillI_all (L:Nat):fillI L L=toOf L []:=by
  apply List.ext_getElem?
  intro j
  by_cases hj:j < L <;> simp [fillI,toOf,hj]
def visO (l:List Ty) (i:Nat):List Int:=([0,1,2]:List Int).take i
theorem base_at {l:List Ty} (hb:l.take 3=baseTys) {i:Nat} (hi:i < 3):∃ ty,l[i]?=some ty∧ty ∈ baseTys:=by
  have h:(l.take 3)[i]?=baseTys[i]?:=by rw [hb]
  rw [List.getElem?_take,if_pos hi] at h
  have h2:i < baseTys.length:=by simpa [baseTys] using hi
  rw [List.getElem?_eq_getElem h2] at h
  exact ⟨_,h,List.getElem_mem h2⟩
theorem base_len {l:List Ty} (hb:l.take 3=baseTys):3≤l.length:=by
  have:=congrArg List.length hb
  rw [List.length_take] at this
  simp [baseTys] at this
  omega
theorem base_no {ty:Ty} (h:ty ∈ baseTys):ty.base=-1∧ty.fields=[]:=by
  simp only [baseTys,List.mem_cons,List.not_mem_nil,or_false] at h
  rcases h with rfl | rfl | rfl <;> exact ⟨rfl,rfl⟩
theorem vis_step {l:List Ty} (hb:l.take 3=baseTys) {i:Nat} (hi:i < 3):(tk l (l.length + 1) (visO l i) (i:Int)).2.1=visO l (i + 1):=by
  obtain ⟨ty,h1,h2⟩:=base_at hb hi
  obtain ⟨h3,h4⟩:=base_no h2
  have hn:¬ (i:Int) < 0:=by omega
  have hm:¬ (i:Int) ∈ visO l i:=by
    have:i=0 ∨ i=1 ∨ i=2:=by omega
    rcases this with rfl | rfl | rfl <;> simp [visO]
  have e:((i:Int)).toNat=i:=by omega
  have hl:=base_len hb
  obtain ⟨f,hf⟩:∃ f,l.length=f + 1:=⟨l.length - 1,by omega⟩
  rw [hf]
  simp only [tk,hn,hm,if_false,e,h1,h3,h4,fldsW]
  have:i=0 ∨ i=1 ∨ i=2:=by omega
  rcases this with rfl | rfl | rfl <;> simp [visO]
theorem vis_ord {l:List Ty} (hb:l.take 3=baseTys) (i:Nat):OrdOK l.length (visO l i):=by
  have hl:=base_len hb
  have h:OrdOK l.length [0,1,2]:=⟨by decide,by simp;omega⟩
  exact ⟨h.nd.sublist (List.take_sublist _ _),fun x hx=>h.in_ x (List.mem_of_mem_take hx)⟩
theorem f116_ok (l:List Ty) (hl:Go.TM.TyRef l) (h24:l.length≤24) (hf6:∀ t ∈ l,t.fields.length≤6) (hb:l.take 3=baseTys):FunOK Tryz.prog 116 [.lst (l.map Ty.v)] true (.bx (bxV l [0,1,2])):=by
  refine fun_ok (mkE2_ok zmix (cl:=[]) (gl:=[(117,[],cVis l (l.length + 1))]) [] [] trivial (ctrG_ok fun a ha=>f117_ok hl h24 hf6 _ a.1 a.2 ha)) Tryz.func116 (by kernel_rfl) ?_
  refine FunW_run _ _ rfl rfl ?_
  have hr:room ⟨1,false,8,.int .i64 0⟩ l.length:=by simp [room];omega
  have hl3:=base_len hb
  simp [hr]
  refine lp_list l (fun i t=>t.e 3=.ptr 0 0∧t.e 16=.int .i64 l.length∧t.e 17=.int .i64 i∧0 < t.nb∧1 < t.nt∧t.B 0=some (.agg [.lst (l.map Ty.v),.own 0,.own 1]) ∧
    t.R 0=some ⟨1,(fillI l.length i).map (V.int .i64),true⟩∧t.R 1=some ⟨1,[],true⟩) ?_ ?_ ?_
  · simp [fillI_zero]
  · rintro c' L hL i t x hx hi ih ⟨h1,h2,h3,h4,h5,hB,hR0,hR1⟩
    have hw:=wrI (i:=i) (by omega)
    have hfl:=fillI_len l.length i
    have hset:=fillI_set hi
    have hfa:(fillI l.length i)[i]?=some 0:=by simp [fillI,hi]
    simp [-getElem?_pos,gcz,gcs,h1,h2,h3,hB,hR0,hR1,hL,hi,hfl,hfa]
    refine ih _ ?_
    simp [h1,h2,h3,h4,h5,hB,hR0,hR1,hw,← hset,List.map_set]
  · rintro c' t ⟨h1,h2,h3,h4,h5,hB,hR0,hR1⟩
    simp [h1,h2,h3,hB,hR0,hR1]
    refine lp_list ([0,1,2]:List Int) (fun i t=>t.e 3=.ptr 0 0∧t.e 5=.int .i64 i∧0 < t.nb∧∃ p q,p < t.nt∧q < t.nt∧p ≠ q∧t.B 0=some (.agg [.lst (l.map Ty.v),.own p,.own q]) ∧
      t.R p=some ⟨1,(toOf l.length (visO l i)).map (V.int .i64),true⟩∧t.R q=some ⟨1,(visO l i).map (V.int .i64),true⟩) ?_ ?_ ?_
    · simp [h1,h4,hB]
      exact ⟨0,by omega,1,by omega,by omega,⟨rfl,rfl⟩,by simp [hR0,visO,fillI_all],by simp [hR1,visO]⟩
    · clear h1 h2 h3 h4 h5 hB hR0 hR1
      rintro c2 L hL i u x hx hi ih ⟨h1,h2,h3,p,q,hp,hq,npq,hB,hRp,hRq⟩
      have hi3:i < 3:=by simpa using hi
      have hw:=wrI (i:=i) (by omega)
      have e1:=cVis_eq (l:=l) (f:=l.length + 1) (ord:=visO l i) (n:=(i:Int)) ⟨vis_ord hb i,by omega,by omega,by omega⟩
      rw [vis_step hb hi3] at e1
      simp only [bxV] at e1
      have nqp:¬ q=p:=fun e=>npq e.symm
      have hi3':(i:Int) < 3:=by omega
      simp [-getElem?_pos,gcz,gcs,h1,h2,hB,hRp,hRq,hL,hi3,hi3',e1,npq,nqp]
      refine ih _ ?_
      simp [h1,h2,h3,hw]
      exact ⟨u.nt,by omega,u.nt + 1,by omega,by omega,⟨rfl,rfl⟩,by simp,by simp⟩
    · rintro c2 u ⟨h1,h2,h3,p,q,hp,hq,npq,hB,hRp,hRq⟩
      have nqp:¬ q=p:=fun e=>npq e.symm
      have e3:¬ (3:Int) < 3:=by decide
      have hv:visO l ([0,1,2]:List Int).length=[0,1,2]:=rfl
      rw [hv] at hRp hRq
      simp only [List.length_cons,List.length_nil] at h2
      simp [h1,h2,hB,hRp,hRq,npq,nqp,bxV,closeB,contL]
structure BOK (l:List Ty):Prop where
  ty:Go.TM.TyRef l
  l24:l.length≤24
  f6:∀ t ∈ l,t.fields.length≤6
  hb:l.take 3=baseTys
noncomputable def c116:=ctr (fun l:List Ty=>BOK l) (fun l=>[.lst (l.map Ty.v)]) (fun l=>(true,.bx (bxV l [0,1,2])))
theorem c116_eq {l:List Ty} (h:BOK l):c116 [.lst (l.map Ty.v)]=some (true,.bx (bxV l [0,1,2])):=ctr_eq (injl Ty.v_inj _) l h rfl
theorem c116_ok:COK Tryz.prog (116,c116):=ctr_ok fun l h=>f116_ok l h.ty h.l24 h.f6 h.hb
end Go.TM.Tryz
end
