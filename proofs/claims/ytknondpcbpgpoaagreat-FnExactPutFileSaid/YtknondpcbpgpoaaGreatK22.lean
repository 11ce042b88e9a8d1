/- A part of the proof: VA, ZseTo, JH, JI, VB. -/
import Derived.Test.YtknondpcbpgpoaaGreatK21
set_option linter.unusedVariables false
set_option linter.unusedSimpArgs false
section
set_option maxHeartbeats 16000000
set_option maxRecDepth 20000
namespace Go.TM.Tryz
open Go Go.TM Go.Proofs
def putP (m x:Mdl):Bool:=decide (x.scope.name=m.scope.name)
def putL (xs:List Mdl) (m:Mdl):List Mdl:=if fstI (putP m) xs < 0 then xs ++ [m] else xs.set (fstI (putP m) xs).toNat m
def putB (xs:List Mdl) (m:Mdl):Bool:=decide (0≤fstI (putP m) xs) || decide (xs.length < 8)
theorem f106_ok (xs:List Mdl) (m:Mdl) (h:StOK xs) (h8:xs.length≤8):GenOK Tryz.prog 106 [.lst (xs.map Mdl.v),m.o] [] ⟨true,.tup [.inl 6 ((putL xs m).map Mdl.o),.bool (putB xs m)],[.bad,.bad,.bad,.bad,.bad],[]⟩:=by
  refine fun_okG (mkE_ok zmix (cl:=[(90,c90)]) (gl:=[]) [] c90_ok trivial) Tryz.func106 (by kernel_rfl) ?_
  refine FunG_run _ _ rfl rfl ?_
  have hlen:=h.len.len
  have e90:=c90_eq xs h.len
  simp [e90]
  refine lp_list xs (fun i t=>t.e 0=.lst (xs.map Mdl.v)∧t.e 3=.ptr 0 0∧t.e 11=.int .i64 xs.length∧t.e 12=.int .i64 i∧0 < t.nb∧t.B 0=some (.agg [.str m.scope.name,.own 0,.own 1,.own 2,.own 3,.own 4])∧t.R 0=some ⟨1,m.scope.imports.map V.str,true⟩∧t.R 1=some ⟨6,m.scope.types.map Ty.o,true⟩∧t.R 2=some ⟨6,m.scope.objects.map Obj.o,true⟩∧t.R 3=some ⟨2,m.scope.uses.map Use.v,true⟩∧t.R 4=some ⟨3,m.seen.map Knw.v,true⟩∧anyI (putP m) xs i=false∧∃ p,t.e 6=.own p∧4 < p∧p < t.nt∧t.R p=some ⟨6,xs.map Mdl.o,true⟩) ?_ ?_ ?_
  · simp
  · rintro c' L hL i t x hx hi ih ⟨h0,h3,h11,h12,hnb,hB,R0,R1,R2,R3,R4,hall,p,h6,hp,hpt,R5⟩
    have hw:=wrI (i:=i) (by omega)
    by_cases hc:x.scope.name=m.scope.name
    · have hy:=fst_yes hx (show putP m x=true by simp [putP,hc]) hall
      have e1:putL xs m=xs.set i m:=by
        unfold putL
        rw [hy,if_neg (by omega)]
        simp
      have e2:putB xs m=true:=by simp [putB,hy]
      rw [e1,e2] at hL ⊢
      simp [-getElem?_pos,gcz,gcs,h0,h3,h6,h11,h12,hB,R0,R1,R2,R3,R4,R5,hL,hi,hx,hc]
      omega
    · have hc':putP m x=false:=by simp [putP,hc]
      simp [-getElem?_pos,gcz,gcs,h0,h3,h6,h11,h12,hB,R0,R1,R2,R3,R4,R5,hL,hi,hx,hc]
      refine ih _ ?_
      simp [h0,h3,h6,h11,h12,hB,R0,R1,R2,R3,R4,R5,hL,hi,hx,hw,hnb,anyI_succ hx,hall,hc',hp,hpt]
  · rintro c' t ⟨h0,h3,h11,h12,hnb,hB,R0,R1,R2,R3,R4,hall,p,h6,hp,hpt,R5⟩
    have hno:=fst_no hall
    have e1:putL xs m=xs ++ [m]:=by simp [putL,hno]
    have e2:putB xs m=decide (xs.length < 8):=by simp [putB,hno]
    rw [e1,e2]
    have hr:=roomMd (n:=xs.length + 1) (by omega)
    have n0:¬ p=0:=by omega
    have n1:¬ p=1:=by omega
    have n2:¬ p=2:=by omega
    have n3:¬ p=3:=by omega
    have n4:¬ p=4:=by omega
    have n5:¬ p=t.nt:=by omega
    simp [h0,h3,h6,h11,h12,hB,R0,R1,R2,R3,R4,R5,hr,n0,n1,n2,n3,n4,n5]
    omega
theorem injPut {β:Type} (out:List Mdl × Mdl→β):∀ a b:List Mdl × Mdl,(([V.lst (a.1.map Mdl.v),a.2.o],[]):List V × List V)=([V.lst (b.1.map Mdl.v),b.2.o],[])→out a=out b:=by
  rintro ⟨a,c⟩ ⟨b,d⟩ h
  simp only [Prod.mk.injEq,List.cons.injEq,and_true,V.lst.injEq] at h
  rw [map_inj Mdl.v_inj h.1,Mdl.o_inj h.2]
def putV (xs:List Mdl) (m:Mdl):Ans:=⟨true,.tup [.inl 6 ((putL xs m).map Mdl.o),.bool (putB xs m)],[.bad,.bad,.bad,.bad,.bad],[]⟩
noncomputable def c106:=ctrG (fun a:List Mdl × Mdl=>StOK a.1∧a.1.length≤8) (fun a=>([.lst (a.1.map Mdl.v),a.2.o],[])) (fun a=>putV a.1 a.2)
theorem c106_eq (xs:List Mdl) (m:Mdl) (h:StOK xs) (h8:xs.length≤8):c106 [.lst (xs.map Mdl.v),m.o] []=some (putV xs m):=ctrG_eq (injPut _) (xs,m) ⟨h,h8⟩ rfl
theorem c106_ok:GOK Tryz.prog (106,[false,true],c106):=ctrG_ok fun a h=>f106_ok a.1 a.2 h.1 h.2
end Go.TM.Tryz
end
section
set_option maxHeartbeats 2000000
namespace Go.TM.Tryz
open Go Go.TM Go.Proofs
theorem f101_ok (x:Knw) (h:True):FunOK Tryz.prog 101 [x.v] false x.v:=by
  refine fun_ok (mkE_ok zmix (cl:=[]) (gl:=[]) [] trivial trivial) Tryz.func101 (by kernel_rfl) ?_
  refine FunW_run _ _ rfl rfl ?_
  simp
noncomputable def c101:=ctr (fun x:Knw=>True) (fun x=>[x.v]) (fun x=>(false,x.v))
theorem c101_eq (a0:ByteArray) (a1:ByteArray) (a2:Int):c101 [.agg [.str a0,.str a1,.int .i64 a2]]=some (false,.agg [.str a0,.str a1,.int .i64 a2]):=ctr_eq (inj0 Knw.v_inj _) (Knw.mk a0 a1 a2) trivial rfl
theorem c101_ok:COK Tryz.prog (101,c101):=ctr_ok fun n h=>f101_ok n h
theorem f42_ok (xs:List Knw) (h:szL Knw.sz xs≤1048576):FunOK Tryz.prog 42 [.lst (xs.map Knw.v)] false (.inl 3 (xs.map Knw.v)):=by
  refine fun_ok (mkE_ok zmix (cl:=[(101,c101)]) (gl:=[]) [] c101_ok trivial) Tryz.func42 (by kernel_rfl) ?_
  refine FunW_run _ _ rfl rfl ?_
  have hl:=szL_len Knw.sz xs
  have hb2:xs.length * 40≤140737488355328:=by omega
  have hb3:xs.length≤4294967296:=by omega
  simp [room,hb2,hb3]
  refine lp_list xs (fun i t=>t.e 0=.lst (xs.map Knw.v)∧t.e 4=.int .i64 i∧t.e 3=.own 1∧t.nt=2∧t.nb=0∧t.R 1=some ⟨3,fill Knw.v (.agg [.str ⟨#[]⟩,.str ⟨#[]⟩,.int .i64 0]) xs i,true⟩) ?_ ?_ ?_
  · simp [fill_zero]
  · rintro c' L hL i t x hx hi ih ⟨h0,h4,h3,hnt,hnb,hR⟩
    have hw:=wrI (i:=i) (by omega)
    have hn:¬ 1=t.nt:=by omega
    simp [-getElem?_pos,gcz,gcs,h0,h4,h3,hnt,hnb,hR,hL,hx,hi,fill_get hi,hn,c101_eq]
    refine ih _ ?_
    simp [-getElem?_pos,gcz,gcs,h0,h4,h3,hnt,hnb,hR,hL,hx,hi,hw,hn]
    exact fill_set hx rfl
  · rintro c' t ⟨h0,h4,h3,hnt,hnb,hR⟩
    simp [h0,h4,h3,hnb,hR,fill_all]
noncomputable def c42:=ctr (fun xs:List Knw=>szL Knw.sz xs≤1048576) (fun xs=>[.lst (xs.map Knw.v)]) (fun xs=>(false,.inl 3 (xs.map Knw.v)))
theorem c42_eq (xs:List Knw) (h:szL Knw.sz xs≤1048576):c42 [.lst (xs.map Knw.v)]=some (false,.inl 3 (xs.map Knw.v)):=ctr_eq (injl Knw.v_inj _) xs h rfl
theorem c42_ok:COK Tryz.prog (42,c42):=ctr_ok fun n h=>f42_ok n h
end Go.TM.Tryz
end
section
set_option maxHeartbeats 16000000
set_option maxRecDepth 20000
namespace Go.TM.Tryz
open Go Go.TM Go.Proofs
theorem f201_ok (l:List Use) (hl:l.length≤1048576):FunOK Tryz.prog 201 [.lst (l.map Use.v)] false (.inl 2 (l.map Use.v)):=by
  refine fun_ok (mkE_ok zmix (cl:=[]) (gl:=[]) [] trivial trivial) Tryz.func201 (by kernel_rfl) ?_
  refine FunW_run _ _ rfl rfl ?_
  have h1:l.length * 32≤140737488355328:=by omega
  have h2:l.length≤4294967296:=by omega
  have e:=noLs_use l
  cases l with
  | nil=>simp [room]
  | cons x xs=>simp at h1 h2 e;simp [room,h1,h2,e]
noncomputable def c201:=ctr (fun l:List Use=>l.length≤1048576) (fun l=>[.lst (l.map Use.v)]) (fun l=>(false,.inl 2 (l.map Use.v)))
theorem c201_eq (l:List Use) (h:l.length≤1048576):c201 [.lst (l.map Use.v)]=some (false,.inl 2 (l.map Use.v)):=ctr_eq (injl Use.v_inj _) l h rfl
theorem c201_ok:COK Tryz.prog (201,c201):=ctr_ok fun l h=>f201_ok l h
theorem f157_ok (l:List Knw) (hl:l.length≤1048576):FunOK Tryz.prog 157 [.lst (l.map Knw.v)] false (.inl 3 (l.map Knw.v)):=by
  refine fun_ok (mkE_ok zmix (cl:=[]) (gl:=[]) [] trivial trivial) Tryz.func157 (by kernel_rfl) ?_
  refine FunW_run _ _ rfl rfl ?_
  have h1:l.length * 40≤140737488355328:=by omega
  have h2:l.length≤4294967296:=by omega
  have e:=noLs_knw l
  cases l with
  | nil=>simp [room]
  | cons x xs=>simp at h1 h2 e;simp [room,h1,h2,e]
noncomputable def c157:=ctr (fun l:List Knw=>l.length≤1048576) (fun l=>[.lst (l.map Knw.v)]) (fun l=>(false,.inl 3 (l.map Knw.v)))
theorem c157_eq (l:List Knw) (h:l.length≤1048576):c157 [.lst (l.map Knw.v)]=some (false,.inl 3 (l.map Knw.v)):=ctr_eq (injl Knw.v_inj _) l h rfl
theorem c157_ok:COK Tryz.prog (157,c157):=ctr_ok fun l h=>f157_ok l h
theorem vwE_ty:(vwE ∘ Ty.v)=Ty.v:=funext fun _=>rfl
theorem vwE_obj:(vwE ∘ Obj.v)=Obj.v:=funext fun _=>rfl
theorem f202_ok (l:List Ty) (hl:l.length≤1048576):FunOK Tryz.prog 202 [.lst (l.map Ty.v)] true (.inl 6 (l.map Ty.v)):=by
  refine fun_ok (mkE_ok zmix (cl:=[]) (gl:=[]) [] trivial trivial) Tryz.func202 (by kernel_rfl) ?_
  refine FunW_run _ _ rfl rfl ?_
  have h1:l.length * 80≤140737488355328:=by omega
  have h2:l.length≤4294967296:=by omega
  cases l with
  | nil=>simp [room]
  | cons x xs=>simp at h1 h2;simp [room,h1,h2,vwE_ty]
noncomputable def c202:=ctr (fun l:List Ty=>l.length≤1048576) (fun l=>[.lst (l.map Ty.v)]) (fun l=>(true,.inl 6 (l.map Ty.v)))
theorem c202_eq (l:List Ty) (h:l.length≤1048576):c202 [.lst (l.map Ty.v)]=some (true,.inl 6 (l.map Ty.v)):=ctr_eq (injl Ty.v_inj _) l h rfl
theorem c202_ok:COK Tryz.prog (202,c202):=ctr_ok fun l h=>f202_ok l h
theorem f203_ok (l:List Obj) (hl:l.length≤1048576):FunOK Tryz.prog 203 [.lst (l.map Obj.v)] true (.inl 6 (l.map Obj.v)):=by
  refine fun_ok (mkE_ok zmix (cl:=[]) (gl:=[]) [] trivial trivial) Tryz.func203 (by kernel_rfl) ?_
  refine FunW_run _ _ rfl rfl ?_
  have h1:l.length * 72≤140737488355328:=by omega
  have h2:l.length≤4294967296:=by omega
  cases l with
  | nil=>simp [room]
  | cons x xs=>simp at h1 h2;simp [room,h1,h2,vwE_obj]
noncomputable def c203:=ctr (fun l:List Obj=>l.length≤1048576) (fun l=>[.lst (l.map Obj.v)]) (fun l=>(true,.inl 6 (l.map Obj.v)))
theorem c203_eq (l:List Obj) (h:l.length≤1048576):c203 [.lst (l.map Obj.v)]=some (true,.inl 6 (l.map Obj.v)):=ctr_eq (injl Obj.v_inj _) l h rfl
theorem c203_ok:COK Tryz.prog (203,c203):=ctr_ok fun l h=>f203_ok l h
def half {α:Type} (f g:α→V) (xs:List α) (i:Nat):List V:=(xs.take i).map g ++ (xs.drop i).map f
section
variable {α:Type} {f g:α→V} {xs:List α} {i:Nat}
@[simp] theorem half_length:(half f g xs i).length=xs.length:=by simp [half];omega
theorem half_zero:half f g xs 0=xs.map f:=by simp [half]
theorem half_all:half f g xs xs.length=xs.map g:=by simp [half]
theorem half_get {x:α} (h:xs[i]?=some x):(half f g xs i)[i]?=some (f x):=by
  have hi:i < xs.length:=by
    rw [List.getElem?_eq_some_iff] at h
    exact h.1
  unfold half
  rw [List.getElem?_append_right (by simp;omega)]
  have e:i - ((xs.take i).map g).length=0:=by simp;omega
  rw [e,List.getElem?_map,List.getElem?_drop,Nat.add_zero,h]
  rfl
theorem half_set {x:α} (h:xs[i]?=some x) {y:V} (hy:g x=y):(half f g xs i).set i y=half f g xs (i + 1):=by
  have hi:i < xs.length:=by
    rw [List.getElem?_eq_some_iff] at h
    exact h.1
  unfold half
  have e:i - ((xs.take i).map g).length=0:=by simp;omega
  have e2:xs.drop i=x :: xs.drop (i + 1):=by
    rw [List.getElem?_eq_some_iff] at h
    rw [← h.2]
    exact List.drop_eq_getElem_cons hi
  rw [List.set_append_right _ _ (by simp;omega),e,e2,List.map_cons,List.set_cons_zero,List.take_add_one,h]
  simp [hy]
end
def tree156:TT:=.two false 0 (.two false 1 (.two false 2 (.one false 3 (.one false 4 (.two false 5 (.one false 6 (.one false 7 (.one false 8 (.one false 9 .done)))) false 6 (.one false 5 (.one false 7 (.one false 8 (.one false 9 .done))))))) false 3 (.two false 2 (.one false 4 (.two false 5 (.one false 6 (.one false 7 (.one false 8 (.one false 9 .done)))) false 6 (.one false 5 (.one false 7 (.one false 8 (.one false 9 .done)))))) false 4 (.one false 2 (.two false 5 (.one false 6 (.one false 7 (.one false 8 (.one false 9 .done)))) false 6 (.one false 5 (.one false 7 (.one false 8 (.one false 9 .done)))))))) false 3 (.two false 1 (.two false 2 (.one false 4 (.two false 5 (.one false 6 (.one false 7 (.one false 8 (.one false 9 .done)))) false 6 (.one false 5 (.one false 7 (.one false 8 (.one false 9 .done)))))) false 4 (.one false 2 (.two false 5 (.one false 6 (.one false 7 (.one false 8 (.one false 9 .done)))) false 6 (.one false 5 (.one false 7 (.one false 8 (.one false 9 .done))))))) false 4 (.one false 1 (.one false 2 (.two false 5 (.one false 6 (.one false 7 (.one false 8 (.one false 9 .done)))) false 6 (.one false 5 (.one false 7 (.one false 8 (.one false 9 .done))))))))) false 3 (.two false 0 (.two false 1 (.two false 2 (.one false 4 (.two false 5 (.one false 6 (.one false 7 (.one false 8 (.one false 9 .done)))) false 6 (.one false 5 (.one false 7 (.one false 8 (.one false 9 .done)))))) false 4 (.one false 2 (.two false 5 (.one false 6 (.one false 7 (.one false 8 (.one false 9 .done)))) false 6 (.one false 5 (.one false 7 (.one false 8 (.one false 9 .done))))))) false 4 (.one false 1 (.one false 2 (.two false 5 (.one false 6 (.one false 7 (.one false 8 (.one false 9 .done)))) false 6 (.one false 5 (.one false 7 (.one false 8 (.one false 9 .done)))))))) false 4 (.one false 0 (.one false 1 (.one false 2 (.two false 5 (.one false 6 (.one false 7 (.one false 8 (.one false 9 .done)))) false 6 (.one false 5 (.one false 7 (.one false 8 (.one false 9 .done)))))))))
def cut156:Pl:=⟨[],[],[],[0,1,2,3,4,5,6,7,8,9],tree156⟩
theorem cut156_run {E:Env} (pl:Option (List (Nat × Bool))) (ops:Array Oper) (k:List Fr) (Q:X→S→Prop) (s:S):aftE (some cut156) pl ops k E Q s=preK E ops k Q tree156 [] s:=rfl
def tree156b:TT:=.two false 0 (.two false 1 (.one false 3 (.one false 4 (.one false 5 (.one false 6 (.one false 7 (.one false 8 .done)))))) false 3 (.two false 1 (.one false 4 (.one false 5 (.one false 6 (.one false 7 (.one false 8 .done))))) false 4 (.two false 1 (.one false 5 (.one false 6 (.one false 7 (.one false 8 .done)))) false 5 (.one false 1 (.one false 6 (.one false 7 (.one false 8 .done))))))) false 3 (.two false 0 (.two false 1 (.one false 4 (.one false 5 (.one false 6 (.one false 7 (.one false 8 .done))))) false 4 (.two false 1 (.one false 5 (.one false 6 (.one false 7 (.one false 8 .done)))) false 5 (.one false 1 (.one false 6 (.one false 7 (.one false 8 .done)))))) false 4 (.two false 0 (.two false 1 (.one false 5 (.one false 6 (.one false 7 (.one false 8 .done)))) false 5 (.one false 1 (.one false 6 (.one false 7 (.one false 8 .done))))) false 5 (.one false 0 (.one false 1 (.one false 6 (.one false 7 (.one false 8 .done)))))))
def cut156b:Pl:=⟨[2],[],[],[0,1,3,4,5,6,7,8],tree156b⟩
theorem cut156b_run {E:Env} (pl:Option (List (Nat × Bool))) (ops:Array Oper) (k:List Fr) (Q:X→S→Prop) (s:S):aftE (some cut156b) pl ops k E Q s=preK E ops k Q tree156b [(2,false)] s:=rfl
structure Cp (s:Scp) (t:S) (nb:Nat) (ty ob:List V) (i1 t1 o1 u1:Nat):Prop where
  e1:t.e 1=.ptr 0 0
  e2:t.e 2=.ptr 1 0
  nb:nb≤t.nb
  B1:t.B 1=some (.agg [.str ⟨#[]⟩,.own 0,.own 1,.own 2,.own 3])
  B0:t.B 0=some (.agg [.str s.name,.own i1,.own t1,.own o1,.own u1])
  R1:t.R i1=some ⟨1,s.imports.map V.str,true⟩
  R2:t.R t1=some ⟨6,ty,true⟩
  R3:t.R o1=some ⟨6,ob,true⟩
  R4:t.R u1=some ⟨2,s.uses.map Use.v,true⟩
  l1:i1 < t.nt
  l2:t1 < t.nt
  l3:o1 < t.nt
  l4:u1 < t.nt
  d1:i1 ≠ t1
  d2:i1 ≠ o1
  d3:i1 ≠ u1
  d4:t1 ≠ o1
  d5:t1 ≠ u1
  d6:o1 ≠ u1
def Cp1 (s:Scp) (t:S):Prop :=
  t.e 1=.ptr 0 0∧t.e 2=.ptr 1 0∧t.nb=2∧t.B 1=some (.agg [.str ⟨#[]⟩,.own 0,.own 1,.own 2,.own 3]) ∧
  ∃ i u,t.B 0=some (.agg [.str s.name,.own i,.lst (s.types.map Ty.v),.lst (s.objects.map Obj.v),.own u])∧t.R i=some ⟨1,s.imports.map V.str,true⟩∧t.R u=some ⟨2,s.uses.map Use.v,true⟩∧i < t.nt∧u < t.nt∧i ≠ u
def Cp2 (s:Scp) (t:S):Prop:=∃ i1 t1 o1 u1,t.e 1=.ptr 0 0∧t.e 2=.ptr 1 0∧t.nb=2∧t.B 1=some (.agg [.str ⟨#[]⟩,.own 0,.own 1,.own 2,.own 3])∧t.B 0=some (.agg [.str s.name,.own i1,.own t1,.own o1,.own u1]) ∧
  t.R i1=some ⟨1,s.imports.map V.str,true⟩∧t.R t1=some ⟨6,s.types.map Ty.v,true⟩∧t.R o1=some ⟨6,s.objects.map Obj.v,true⟩∧t.R u1=some ⟨2,s.uses.map Use.v,true⟩ ∧
  i1 < t.nt∧t1 < t.nt∧o1 < t.nt∧u1 < t.nt∧i1 ≠ t1∧i1 ≠ o1∧i1 ≠ u1∧t1 ≠ o1∧t1 ≠ u1∧o1 ≠ u1
theorem f156_ok (s:Scp) (h:ScLen s):FunOK Tryz.prog 156 [s.v] false s.o:=by
  refine fun_ok (mkE2_ok zmix (cl:=[(127,c127),(201,c201),(202,c202),(203,c203),(184,c184),(133,c133)]) (gl:=[]) [] [(1,cut156),(2,cut156),(6,cut156b),(11,cut156b)] ⟨c127_ok,c201_ok,c202_ok,c203_ok,c184_ok,c133_ok⟩ trivial) Tryz.func156 (by kernel_rfl) ?_
  refine FunW_run _ _ rfl rfl ?_
  have e127:=c127_eq s.imports h.im
  have e201:=c201_eq s.uses h.us
  have e202:=c202_eq s.types h.ty.len
  have e203:=c203_eq s.objects h.ob
  simp [-aftE_some]
  refine aftE_post (Cp1 s) ?_ ?_
  · simp [-aftE_some,cut156_run,tree156,pureOp,e127,e201,Cp1]
    exact ⟨_,_,⟨rfl,rfl⟩,by simp⟩
  rintro t ⟨g1,g2,gn,B1,i1,u1,B0,R1,R4,l1,l4,d3⟩
  have n1:¬ i1=t.nt:=by omega
  have n2:¬ i1=t.nt + 1:=by omega
  have n3:¬ u1=t.nt:=by omega
  have n4:¬ u1=t.nt + 1:=by omega
  simp [-aftE_some]
  refine aftE_post (Cp2 s) ?_ ?_
  · simp [-aftE_some,cut156_run,tree156,pureOp,e202,e203,Cp2,g1,g2,gn,B0,B1]
    exact ⟨_,_,_,_,⟨rfl,rfl,rfl,rfl⟩,by
      simp [n1,n2,n3,n4,R1,R4,d3]
      omega⟩
  clear g1 g2 gn B0 B1 R1 R4 l1 l4 d3 n1 n2 n3 n4
  clear i1 u1 t
  rintro t ⟨i1,t1,o1,u1,g1,g2,gn,B1,B0,R1,R2,R3,R4,l1,l2,l3,l4,d1,d2,d3,d4,d5,d6⟩
  have hty:=h.ty.len
  have hob:=h.ob
  have d1':¬ t1=i1:=fun e=>d1 e.symm
  have d5':¬ u1=t1:=fun e=>d5 e.symm
  have d4':¬ o1=t1:=fun e=>d4 e.symm
  have d2':¬ o1=i1:=fun e=>d2 e.symm
  have d6':¬ u1=o1:=fun e=>d6 e.symm
  simp [g1,B0,R2]
  refine lp_list s.types (fun i t=>t.e 24=.own t1∧t.e 25=.int .i64 s.types.length∧t.e 26=.int .i64 i∧t.e 1=.ptr 0 0∧t.e 2=.ptr 1 0∧1 < t.nb∧t.B 1=some (.agg [.str ⟨#[]⟩,.own 0,.own 1,.own 2,.own 3]) ∧
    t.B 0=some (.agg [.str s.name,.own i1,.own t1,.own o1,.own u1])∧t.R i1=some ⟨1,s.imports.map V.str,true⟩∧t.R t1=some ⟨6,half Ty.v Ty.o s.types i,true⟩∧t.R o1=some ⟨6,s.objects.map Obj.v,true⟩∧t.R u1=some ⟨2,s.uses.map Use.v,true⟩ ∧
    i1 < t.nt∧t1 < t.nt∧o1 < t.nt∧u1 < t.nt) ?_ ?_ ?_
  · simp [g1,g2,gn,B1,B0,R1,R2,R3,R4,half_zero,l1,l2,l3,l4]
  · clear g1 g2 gn B1 B0 R1 R2 R3 R4 l1 l2 l3 l4
    clear t
    rintro c' L hL i t x hx hi ih ⟨k24,k25,k26,g1,g2,gn,B1,B0,R1,R2,R3,R4,l1,l2,l3,l4⟩
    have hw:=wrI (i:=i) (by omega)
    have e184:=c184_eq x.fields (h.ty.fs x (List.mem_of_getElem? hx))
    have hg:=half_get (f:=Ty.v) (g:=Ty.o) hx
    have n0:¬ 0=t.nb:=by omega
    have n0':¬ t.nb=0:=by omega
    have n1:¬ 1=t.nb:=by omega
    have a1:¬ i1=t.nt:=by omega
    have a2:¬ i1=t.nt + 1:=by omega
    have b1:¬ t1=t.nt:=by omega
    have b2:¬ t1=t.nt + 1:=by omega
    have b1':¬ t.nt=t1:=by omega
    have b2':¬ t.nt + 1=t1:=by omega
    have c1:¬ o1=t.nt:=by omega
    have c2:¬ o1=t.nt + 1:=by omega
    have f1:¬ u1=t.nt:=by omega
    have f2:¬ u1=t.nt + 1:=by omega
    simp [-getElem?_pos,gcz,gcs,k24,k25,k26,g1,B0,R2,hL,hi,hg,e184,n0,n0',n1,a1,a2,b1,b2,b1',b2',-aftE_some,cut156b_run,tree156b,pureOp]
    repeat' apply And.intro
    all_goals
      refine ih _ ?_
      simp [-getElem?_pos,gcz,gcs,k24,k25,k26,g1,g2,B1,B0,R1,R2,R3,R4,hw,hg,n0,n1,a1,a2,b1,b2,b1',b2',c1,c2,f1,f2,d1,d1',d4',d5',hi]
      exact ⟨by omega,half_set hx rfl,by omega,by omega,by omega,by omega⟩
  · clear g1 g2 gn B1 B0 R1 R2 R3 R4 l1 l2 l3 l4
    clear t
    rintro c' t ⟨k24,k25,k26,g1,g2,gn,B1,B0,R1,R2,R3,R4,l1,l2,l3,l4⟩
    rw [half_all] at R2
    simp [k24,k25,k26,g1,B0,R3]
    refine lp_list s.objects (fun i t=>t.e 41=.own o1∧t.e 42=.int .i64 s.objects.length∧t.e 43=.int .i64 i∧t.e 1=.ptr 0 0∧t.e 2=.ptr 1 0∧1 < t.nb∧t.B 1=some (.agg [.str ⟨#[]⟩,.own 0,.own 1,.own 2,.own 3]) ∧
      t.B 0=some (.agg [.str s.name,.own i1,.own t1,.own o1,.own u1])∧t.R i1=some ⟨1,s.imports.map V.str,true⟩∧t.R t1=some ⟨6,s.types.map Ty.o,true⟩∧t.R o1=some ⟨6,half Obj.v Obj.o s.objects i,true⟩∧t.R u1=some ⟨2,s.uses.map Use.v,true⟩ ∧
      i1 < t.nt∧t1 < t.nt∧o1 < t.nt∧u1 < t.nt) ?_ ?_ ?_
    · simp [g1,g2,gn,B1,B0,R1,R2,R3,R4,half_zero,l1,l2,l3,l4]
    · clear k24 k25 k26 g1 g2 gn B1 B0 R1 R2 R3 R4 l1 l2 l3 l4
      clear t
      clear c'
      rintro c' L hL i t x hx hi ih ⟨k24,k25,k26,g1,g2,gn,B1,B0,R1,R2,R3,R4,l1,l2,l3,l4⟩
      have hw:=wrI (i:=i) (by omega)
      have e133:=c133_eq x.params (h.pa x (List.mem_of_getElem? hx))
      have hg:=half_get (f:=Obj.v) (g:=Obj.o) hx
      have n0:¬ 0=t.nb:=by omega
      have n0':¬ t.nb=0:=by omega
      have n1:¬ 1=t.nb:=by omega
      have a1:¬ i1=t.nt:=by omega
      have a2:¬ i1=t.nt + 1:=by omega
      have b1:¬ t1=t.nt:=by omega
      have b2:¬ t1=t.nt + 1:=by omega
      have c1:¬ o1=t.nt:=by omega
      have c2:¬ o1=t.nt + 1:=by omega
      have c1':¬ t.nt=o1:=by omega
      have c2':¬ t.nt + 1=o1:=by omega
      have f1:¬ u1=t.nt:=by omega
      have f2:¬ u1=t.nt + 1:=by omega
      simp [-getElem?_pos,gcz,gcs,k24,k25,k26,g1,B0,R3,hL,hi,hg,e133,n0,n0',n1,a1,a2,c1,c2,c1',c2',-aftE_some,cut156b_run,tree156b,pureOp]
      repeat' apply And.intro
      all_goals
        refine ih _ ?_
        simp [-getElem?_pos,gcz,gcs,k24,k25,k26,g1,g2,B1,B0,R1,R2,R3,R4,hw,hg,n0,n1,a1,a2,b1,b2,c1,c2,c1',c2',f1,f2,d2,d2',d4,d6',hi]
        exact ⟨by omega,half_set hx rfl,by omega,by omega,by omega,by omega⟩
    · clear k24 k25 k26 g1 g2 gn B1 B0 R1 R2 R3 R4 l1 l2 l3 l4
      clear t
      clear c'
      rintro c' t ⟨k24,k25,k26,g1,g2,gn,B1,B0,R1,R2,R3,R4,l1,l2,l3,l4⟩
      rw [half_all] at R3
      simp [k24,k25,k26,g1,g2,B1,B0,R1,R2,R3,R4]
      exact ⟨⟨d1,d2,d3⟩,⟨d4,d5⟩,d6⟩
end Go.TM.Tryz
end
section
set_option maxHeartbeats 8000000
set_option maxRecDepth 20000
namespace Go.TM.Tryz
open Go Go.TM Go.Proofs
noncomputable def c156:=ctr (fun s:Scp=>ScLen s) (fun s=>[s.v]) (fun s=>(false,s.o))
theorem c156_eq (s:Scp) (h:ScLen s):c156 [s.v]=some (false,s.o):=ctr_eq (inj0 Scp.v_inj _) s h rfl
theorem c156_ok:COK Tryz.prog (156,c156):=ctr_ok fun s h=>f156_ok s h
def tree86:TT:=.two false 1 (.two false 2 (.two false 3 (.one false 4 (.one false 5 (.one false 6 (.one false 7 (.one false 8 (.one false 9 (.one false 10 .done))))))) false 4 (.two false 3 (.one false 5 (.one false 6 (.one false 7 (.one false 8 (.one false 9 (.one false 10 .done)))))) false 5 (.one false 3 (.one false 6 (.one false 7 (.one false 8 (.one false 9 (.one false 10 .done)))))))) false 4 (.two false 2 (.two false 3 (.one false 5 (.one false 6 (.one false 7 (.one false 8 (.one false 9 (.one false 10 .done)))))) false 5 (.one false 3 (.one false 6 (.one false 7 (.one false 8 (.one false 9 (.one false 10 .done))))))) false 5 (.one false 2 (.one false 3 (.one false 6 (.one false 7 (.one false 8 (.one false 9 (.one false 10 .done))))))))) false 4 (.two false 1 (.two false 2 (.two false 3 (.one false 5 (.one false 6 (.one false 7 (.one false 8 (.one false 9 (.one false 10 .done)))))) false 5 (.one false 3 (.one false 6 (.one false 7 (.one false 8 (.one false 9 (.one false 10 .done))))))) false 5 (.one false 2 (.one false 3 (.one false 6 (.one false 7 (.one false 8 (.one false 9 (.one false 10 .done)))))))) false 5 (.one false 1 (.one false 2 (.one false 3 (.one false 6 (.one false 7 (.one false 8 (.one false 9 (.one false 10 .done)))))))))
def cut86:Pl:=⟨[0],[],[],[1,2,3,4,5,6,7,8,9,10],tree86⟩
theorem cut86_run {E:Env} (pl:Option (List (Nat × Bool))) (ops:Array Oper) (k:List Fr) (Q:X→S→Prop) (s:S):aftE (some cut86) pl ops k E Q s=preK E ops k Q tree86 [(0,false)] s:=rfl
theorem f86_ok (xs:List Mdl) (h:MdsLen xs):FunOK Tryz.prog 86 [.lst (xs.map Mdl.v)] false (.inl 6 (xs.map Mdl.o)):=by
  refine fun_ok (mkE2_ok zmix (cl:=[(156,c156),(157,c157)]) (gl:=[]) [] [(5,cut86)] ⟨c156_ok,c157_ok⟩ trivial) Tryz.func86 (by kernel_rfl) ?_
  refine FunW_run _ _ rfl rfl ?_
  have hlen:=h.len
  simp
  refine lp_list xs (fun i t=>t.e 7=.lst (xs.map Mdl.v)∧t.e 8=.int .i64 xs.length∧t.e 9=.int .i64 i∧∃ p,t.e 3=.own p∧p < t.nt∧t.R p=some ⟨6,(xs.take i).map Mdl.o,true⟩) ?_ ?_ ?_
  · simp
  · rintro c' L hL i t x hx hi ih ⟨h7,h8,h9,p,h3,hp,hR⟩
    have hw:=wrI (i:=i) (by omega)
    have hxm:=List.mem_of_getElem? hx
    have e156:=c156_eq x.scope (h.sc x hxm)
    have e157:=c157_eq x.seen (h.sn x hxm)
    simp only [Scp.v,Scp.o] at e156
    have hmin:min i xs.length=i:=by omega
    have hr:=roomMd (n:=i + 1) (by omega)
    have n1:¬ p=t.nt:=by omega
    have n2:¬ p=t.nt + 1:=by omega
    have n3:¬ p=t.nt + 1 + 1:=by omega
    have n4:¬ p=t.nt + 1 + 1 + 1:=by omega
    have n5:¬ p=t.nt + 1 + 1 + 1 + 1:=by omega
    have n6:¬ p=t.nt + 1 + 1 + 1 + 1 + 1:=by omega
    have n7:¬ p=t.nt + 1 + 1 + 1 + 1 + 1 + 1:=by omega
    have n8:¬ p=t.nt + 1 + 1 + 1 + 1 + 1 + 1 + 1:=by omega
    have n9:¬ p=t.nt + 1 + 1 + 1 + 1 + 1 + 1 + 1 + 1:=by omega
    have n10:¬ p=t.nt + 1 + 1 + 1 + 1 + 1 + 1 + 1 + 1 + 1:=by omega
    have n11:¬ p=t.nt + 1 + 1 + 1 + 1 + 1 + 1 + 1 + 1 + 1 + 1:=by omega
    have n12:¬ p=t.nt + 1 + 1 + 1 + 1 + 1 + 1 + 1 + 1 + 1 + 1 + 1:=by omega
    have n13:¬ p=t.nt + 1 + 1 + 1 + 1 + 1 + 1 + 1 + 1 + 1 + 1 + 1 + 1:=by omega
    have n14:¬ p=t.nt + 1 + 1 + 1 + 1 + 1 + 1 + 1 + 1 + 1 + 1 + 1 + 1 + 1:=by omega
    have n15:¬ p=t.nt + 1 + 1 + 1 + 1 + 1 + 1 + 1 + 1 + 1 + 1 + 1 + 1 + 1 + 1:=by omega
    simp [-getElem?_pos,gcz,gcs,h7,h8,h9,h3,hR,hL,hi,hx,e156,e157,n1,n2,n3,n4,n5,n6,n7,n8,n9,n10,n11,n12,n13,n14,n15,hr,hmin,-aftE_some,cut86_run,tree86,pureOp]
    repeat' apply And.intro
    all_goals
      refine ih _ ?_
      simp [h7,h8,h9,h3,hR,hw,n1,n2,n3,n4,n5,n6,n7,n8,n9,n10,n11,n12,n13,n14,n15,List.take_add_one,hx]
  · rintro c' t ⟨h7,h8,h9,p,h3,hp,hR⟩
    rw [List.take_length] at hR
    simp [h7,h8,h9,h3,hR]
noncomputable def c86:=ctr (fun xs:List Mdl=>MdsLen xs) (fun xs=>[.lst (xs.map Mdl.v)]) (fun xs=>(false,.inl 6 (xs.map Mdl.o)))
theorem c86_eq (xs:List Mdl) (h:MdsLen xs):c86 [.lst (xs.map Mdl.v)]=some (false,.inl 6 (xs.map Mdl.o)):=ctr_eq (injl Mdl.v_inj _) xs h rfl
theorem c86_ok:COK Tryz.prog (86,c86):=ctr_ok fun xs h=>f86_ok xs h
@[simp] theorem cut_rm (xs:List RM):(xs=[] ∨ (leaves ((Option.map RM.v xs[0]?).getD .bad)).length=6)=True:=cut_ok (f:=RM.v) (n:=6) (fun _=>rfl) xs
@[simp] theorem norms_rm (xs:List RM):norms (xs.map RM.v)=xs.map RM.v:=by rw [norms_map];simp
@[simp] theorem noLs_rms (xs:List RM):noLs (xs.map RM.s)=true:=noLs_map _ (by simp) _
end Go.TM.Tryz
end
section
set_option maxHeartbeats 16000000
set_option maxRecDepth 20000
namespace Go.TM.Tryz
open Go Go.TM Go.Proofs
theorem kAt_put (xs:List Mdl) (m:Mdl):fstI (nameIs m.scope.name) (mdsL xs)=fstI (putP m) xs:=by
  have e:(nameIs m.scope.name ∘ fun x:Mdl=>x.scope)=putP m:=by
    funext x
    simp [nameIs,putP]
  unfold fstI mdsL
  rw [List.any_map,List.findIdx_map,e]
def putI (xs:List Mdl) (m:Mdl):List Mdl:=if putB xs m=true then putL xs m else []
theorem f107_ok (xs:List Mdl) (m:Mdl) (h:StOK xs) (h8:xs.length≤8):GenOK Tryz.prog 107 [.lst (xs.map Mdl.v),m.o] [] ⟨true,.tup [.inl 6 ((putI xs m).map Mdl.o),.bool (putB xs m)],[.bad,.bad,.bad,.bad,.bad],[]⟩:=by
  refine fun_okG (mkE_ok zmix (cl:=[(85,c85),(86,c86),(91,c91)]) (gl:=[]) [(2,[(0,false),(2,false),(3,false),(4,false),(1,true),(5,true),(6,false)])] ⟨c85_ok,c86_ok,c91_ok⟩ trivial) Tryz.func107 (by kernel_rfl) ?_
  refine FunG_run _ _ rfl rfl ?_
  have hlen:=h.len.len
  have e86:=c86_eq xs h.len
  have e85:=c85_eq xs h.len
  have e91:=c91_eq (mdsL xs) m.scope.name (by rw [mdsL_len];simp [lim];omega)
  rw [kAt_put] at e91
  by_cases hk:0≤fstI (putP m) xs
  · have hk':¬ fstI (putP m) xs < 0:=by omega
    obtain ⟨x,hx,k0,k1⟩:=fst_at hk'
    have e1:putB xs m=true:=by simp [putB,hk]
    have e2:putI xs m=xs.set (fstI (putP m) xs).toNat m:=by
      unfold putI putL
      rw [if_pos e1,if_neg hk']
    rw [e1,e2]
    obtain ⟨k,hkk⟩:∃ k:Nat,fstI (putP m) xs=k:=⟨(fstI (putP m) xs).toNat,by omega⟩
    rw [hkk] at e91 hx k1 ⊢
    simp only [Int.toNat_natCast] at hx ⊢
    have hkl:k < xs.length:=by omega
    simp [e86,e85,e91,pureOp,S.see,seeL,S.after,flatC,hkl]
  · have hn:fstI (putP m) xs < 0:=by omega
    by_cases hl:xs.length=8
    · have hli:(xs.length:Int)=8:=by omega
      have e1:putB xs m=false:=by simp [putB,hk,hl]
      have e2:putI xs m=[]:=by simp [putI,e1]
      rw [e1,e2]
      simp [e86,e85,e91,pureOp,S.see,seeL,S.after,flatC,hk,hli]
    · have hli:¬ (xs.length:Int)=8:=by omega
      have hl8:xs.length < 8:=by omega
      have e1:putB xs m=true:=by simp [putB,hl8]
      have e2:putI xs m=xs ++ [m]:=by
        unfold putI putL
        rw [if_pos e1,if_pos hn]
      rw [e1,e2]
      have hr:=roomMd (n:=xs.length + 1) (by omega)
      simp [e86,e85,e91,pureOp,S.see,seeL,S.after,flatC,hk,hli,hr]
def putW (xs:List Mdl) (m:Mdl):Ans:=⟨true,.tup [.inl 6 ((putI xs m).map Mdl.o),.bool (putB xs m)],[.bad,.bad,.bad,.bad,.bad],[]⟩
noncomputable def c107:=ctrG (fun a:List Mdl × Mdl=>StOK a.1∧a.1.length≤8) (fun a=>([.lst (a.1.map Mdl.v),a.2.o],[])) (fun a=>putW a.1 a.2)
theorem c107_eq (xs:List Mdl) (m:Mdl) (h:StOK xs) (h8:xs.length≤8):c107 [.lst (xs.map Mdl.v),m.o] []=some (putW xs m):=ctrG_eq (injPut _) (xs,m) ⟨h,h8⟩ rfl
theorem c107_ok:GOK Tryz.prog (107,[false,true],c107):=ctrG_ok fun a h=>f107_ok a.1 a.2 h.1 h.2
end Go.TM.Tryz
end
