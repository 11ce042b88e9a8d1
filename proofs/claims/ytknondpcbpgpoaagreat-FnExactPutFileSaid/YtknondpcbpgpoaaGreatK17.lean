/- A part of the proof: G9, GL, HG, IE, IF, IG, IH. -/
import Derived.Test.YtknondpcbpgpoaaGreatK16
set_option linter.unusedVariables false
set_option linter.unusedSimpArgs false
section
namespace Go.TM
open Go
structure BoxV (x:V):Prop where
  fr:(leaves x).all frL=true
  ad:∀ s,adC x s=(x,s)
  tk:toks1 x=[]
  ct:∀ s,onL1 (contL s) x=x
theorem leaf1 {x l:V} {j i:Nat} (h:leafAt [x] j i=some l):j=0∧(leaves x)[i]?=some l:=by
  unfold leafAt at h
  cases j with
  | zero=>exact ⟨rfl,by simpa using h⟩
  | succ j=>simp at h
end Go.TM
end
section
namespace Go.TM
open Go
theorem LadR.ix {F:Nat→Prop} {W:World} {xs:List V} {i off:Nat} {v:Value} {x:V} (h:LadR F W xs i off v) (hx:xs[i]?=some x):LadR F W [x] 0 off v:=by
  obtain ⟨b,o,c,sz,hf,hs,hc,hi,rfl⟩:=h
  have hF:F b:=by
    cases hf with
    | nil=>simp at hi
    | lst _ _ _ _ _ _ hF=>exact hF
  have hlv:(leaves x).length=sz:=hs x (List.mem_of_getElem? hx)
  have hleaf:∀ j k l,leafAt [x] j k=some l→∃ u,W.cell? ⟨b,o + i * sz + j * sz + k,none⟩=some u∧FR W F (vw l) u:=by
    intro j k l hl
    obtain ⟨rfl,hl⟩:=leaf1 hl
    have h2:leafAt xs i k=some l:=by
      unfold leafAt
      rw [hx]
      exact hl
    obtain ⟨u,hu,hr⟩:=hc i k l h2
    exact ⟨u,by simpa using hu,hr⟩
  refine ⟨b,o + i * sz,1,sz,?_,fun e he=>by rw [List.mem_singleton.1 he];exact hlv,hleaf,by simp,by simp⟩
  refine .lst [x] b (o + i * sz) 1 sz (fun j k=>(W.cell? ⟨b,o + i * sz + j * sz + k,none⟩).getD undef) hF (Nat.le_refl _) (show 1≤maxLen by decide) (fun e he=>by rw [List.mem_singleton.1 he];exact hlv) (fun j k l hl=>?_) (fun j k l hl=>?_)
  · obtain ⟨u,hu,-⟩:=hleaf j k l hl
    simp only [hu,Option.getD_some]
  · obtain ⟨u,hu,hr⟩:=hleaf j k l hl
    simp only [hu,Option.getD_some]
    exact hr
theorem FunOK.ixs {P:Program} {f:FuncId} {xs ys:List V} {i off:Nat} {x r:V} {sh:Bool} (hf:FunOK P f (.ladr [x] 0 off :: ys) sh r) (hx:xs[i]?=some x):FunOK P f (.ladr xs i off :: ys) sh r:=by
  refine ⟨hf.has,?_⟩
  intro M W vs hM ha
  have h1:MemOK M W (start (.ladr [x] 0 off :: ys) []):=hM.slots _
  have ha':All2 (SR1 M W) (.ladr xs i off :: (adCs ys S.zero).1) vs:=ha
  cases vs with
  | nil=>exact ha'.elim
  | cons v vs =>
    exact hf.calls M W _ h1 (show All2 (SR1 M W) (.ladr [x] 0 off :: (adCs ys S.zero).1) (v :: vs) from ⟨LadR.ix ha'.1 hx,ha'.2⟩)
theorem FunOK.ix {P:Program} {f:FuncId} {xs:List V} {i off:Nat} {x r:V} {sh:Bool} (hf:FunOK P f [.ladr [x] 0 off] sh r) (hx:xs[i]?=some x):FunOK P f [.ladr xs i off] sh r:=FunOK.ixs hf hx
end Go.TM
end
section
set_option maxHeartbeats 4000000
set_option maxRecDepth 10000
namespace Go.TM.Tryz
open Go Go.TM Go.Proofs
theorem tyEq_eq {x y:Ty} (h:tyEq x y=true) (hy:y ∈ baseTys):x=y:=by
  obtain ⟨h1,h2⟩:=tyEq_base h hy
  obtain ⟨h3,h4⟩:=base_no hy
  simp only [tyEq,Bool.and_eq_true,beq_iff_eq,decide_eq_true_eq] at h
  obtain ⟨⟨⟨⟨⟨a1,a2⟩,a3⟩,-⟩,a4⟩,a5⟩:=h
  cases x
  cases y
  simp only at *
  subst a1 a2 a3 a4 a5 h2 h4
  rfl
theorem tysEq_eq {xs:List Ty} (h:tysEq xs baseTys=true):xs=baseTys:=by
  simp only [tysEq,Bool.and_eq_true,decide_eq_true_eq] at h
  apply List.ext_getElem? 
  intro i
  by_cases hi:i < xs.length
  · have:=allI_iff.1 h.2 i _ (List.getElem?_eq_getElem hi)
    have hiy:i < baseTys.length:=by omega
    simp only [tyAtEq,List.getElem?_eq_getElem hiy,Option.any_some] at this
    rw [List.getElem?_eq_getElem hi,List.getElem?_eq_getElem hiy,tyEq_eq this (List.getElem_mem hiy)]
  · rw [List.getElem?_eq_none (by omega),List.getElem?_eq_none (by omega)]
theorem scopeI_types {s:Scp} (h:scopeI s=true):typesB s.types=true:=by
  rw [← good_eq] at h
  simp only [goodS,goodTl,Bool.and_eq_true,decide_eq_true_eq,objAtS_iff] at h
  obtain ⟨⟨⟨_,b1,_,b3⟩,_⟩,⟨⟨⟨_,d2⟩,_⟩,d4⟩,_⟩:=h
  simp only [tableI,Bool.and_eq_true] at d2
  exact d2.1
theorem scopeI_base {s:Scp} (h:scopeI s=true):s.types.take 3=baseTys:=by
  have h1:=scopeI_types h
  simp only [typesB,Bool.and_eq_true,inB_iff] at h1
  exact tysEq_eq h1.1.2
theorem scopeI_ty {s:Scp} (h:scopeI s=true):Go.TM.TyRef s.types:=by
  have hr:=scopeI_refs h
  exact ⟨fun t ht=>(hr.ty.ty t ht).base,fun t ht x hx=>((hr.ty.ty t ht).fld x hx).1⟩
theorem scopeI_bok {s:Scp} (h:scopeI s=true):BOK s.types:=by
  have hr:=scopeI_refs h
  exact ⟨scopeI_ty h,hr.ty.len,fun t ht=>(hr.ty.ty t ht).flds,scopeI_base h⟩
theorem scopeI_ex {s:Scp} (h:scopeI s=true):ExRef s:=by
  have hr:=scopeI_refs h
  have hb:=scopeI_bok h
  exact ⟨hb.ty,base_len hb.hb,hb.l24,hb.f6,fun o ho=>⟨(hr.obj o ho).type,fun x hx=>((hr.obj o ho).par x hx).1.2⟩,hr.objs,fun o ho=>(hr.obj o ho).pars⟩
noncomputable def c61:=ctr (fun s:Scp=>scopeI s=true) (fun s=>[s.v]) (fun s=>(false,(exS s).o))
theorem c61_eq (s:Scp) (h:scopeI s=true):c61 [s.v]=some (false,(exS s).o):=ctr_eq (inj0 Scp.v_inj _) s h rfl
theorem c61_ok:COK Tryz.prog (61,c61):=ctr_ok fun s h=>f61_ok s (scopeI_bok h) (scopeI_ex h)
def noS:Scp:=⟨⟨#[]⟩,[],[],[],[]⟩
end Go.TM.Tryz
end
section
set_option maxHeartbeats 8000000
set_option maxRecDepth 20000
namespace Go.TM.Tryz
open Go Go.TM Go.Proofs
def nameIs (n:ByteArray) (m:Scp):Bool:=decide (m.name=n)
theorem f159_ok (m:Scp) (n:ByteArray):FunOK Tryz.prog 159 [m.v,.ladr [.str n] 0 0] false (.bool (nameIs n m)):=by
  refine fun_ok (mkE_ok zmix (cl:=[]) (gl:=[]) [] trivial trivial) Tryz.func159 (by kernel_rfl) ?_
  refine FunW_run _ _ rfl rfl ?_
  simp [nameIs]
theorem inj159 {β:Type} (out:Scp × ByteArray→β):∀ a b:Scp × ByteArray,[a.1.v,V.ladr [.str a.2] 0 0]=[b.1.v,.ladr [.str b.2] 0 0]→out a=out b:=by
  rintro ⟨a,c⟩ ⟨b,d⟩ h
  simp only [List.cons.injEq,and_true,V.ladr.injEq,V.str.injEq] at h
  rw [Scp.v_inj h.1,h.2]
noncomputable def c159:=ctr (fun _:Scp × ByteArray=>True) (fun a=>[a.1.v,.ladr [.str a.2] 0 0]) (fun a=>(false,.bool (nameIs a.2 a.1)))
theorem c159_eq (m:Scp) (n:ByteArray):c159 [m.v,.ladr [.str n] 0 0]=some (false,.bool (nameIs n m)):=ctr_eq (inj159 _) (m,n) trivial rfl
theorem c159_ok:COK Tryz.prog (159,c159):=ctr_ok fun a h=>f159_ok a.1 a.2
theorem f158_ok (l:List Scp) (n:ByteArray) (hl:l.length≤lim):FunOK Tryz.prog 158 [.lst (l.map Scp.v),.fn 159 [.ladr [.str n] 0 0]] false (.int .i64 (fstI (nameIs n) l)):=by
  refine fun_ok (mkE_ok zmix (cl:=[(159,c159)]) (gl:=[]) [] c159_ok trivial) Tryz.func158 (by kernel_rfl) ?_
  refine FunW_run _ _ rfl rfl ?_
  simp only [lim] at hl
  simp
  refine lp_list l (fun i t=>t.e 1=.fn 159 [.ladr [.str n] 0 0]∧t.e 0=.lst (l.map Scp.v)∧t.e 7=.int .i64 l.length∧t.e 8=.int .i64 i∧anyI (nameIs n) l i=false) ?_ ?_ ?_
  · simp
  · rintro c' L hL i t x hx hi ih ⟨h1,h7,h8,h9,hall⟩
    have hw:=wrI (i:=i) (by omega)
    have e:=c159_eq x n
    simp only [Scp.v] at e h1
    simp [-getElem?_pos,List.getElem?_cons_zero,h1,h7,h8,h9,hL,hi,hx,e]
    split
    · rename_i hc
      exact (fst_yes hx hc hall).symm
    · rename_i hc
      refine ih _ ?_
      simp [h1,h7,h8,h9,hw,anyI_succ hx,hall,hc]
  · rintro c' t ⟨h1,h7,h8,h9,hall⟩
    simp [h1,h7,h8,h9,fst_no hall]
theorem inj158 {β:Type} (out:List Scp × ByteArray→β):∀ a b:List Scp × ByteArray,[V.lst (a.1.map Scp.v),.fn 159 [.ladr [.str a.2] 0 0]]=[V.lst (b.1.map Scp.v),.fn 159 [.ladr [.str b.2] 0 0]]→out a=out b:=by
  rintro ⟨a,c⟩ ⟨b,d⟩ h
  simp only [List.cons.injEq,and_true,V.ladr.injEq,V.fn.injEq,true_and,V.lst.injEq,V.str.injEq] at h
  rw [map_inj Scp.v_inj h.1,h.2]
noncomputable def c158:=ctr (fun a:List Scp × ByteArray=>a.1.length≤lim) (fun a=>[.lst (a.1.map Scp.v),.fn 159 [.ladr [.str a.2] 0 0]]) (fun a=>(false,.int .i64 (fstI (nameIs a.2) a.1)))
theorem c158_eq (l:List Scp) (n:ByteArray) (h:l.length≤lim):c158 [.lst (l.map Scp.v),.fn 159 [.ladr [.str n] 0 0]]=some (false,.int .i64 (fstI (nameIs n) l)):=ctr_eq (inj158 _) (l,n) h rfl
theorem c158_ok:COK Tryz.prog (158,c158):=ctr_ok fun a h=>f158_ok a.1 a.2 h
theorem injmn {β:Type} (out:List Scp × ByteArray→β):∀ a b:List Scp × ByteArray,[V.lst (a.1.map Scp.v),.str a.2]=[V.lst (b.1.map Scp.v),.str b.2]→out a=out b:=by
  rintro ⟨a,c⟩ ⟨b,d⟩ h
  simp only [List.cons.injEq,and_true,V.lst.injEq,V.str.injEq] at h
  rw [map_inj Scp.v_inj h.1,h.2]
theorem f91_ok (l:List Scp) (n:ByteArray) (hl:l.length≤lim):FunOK Tryz.prog 91 [.lst (l.map Scp.v),.str n] false (.int .i64 (fstI (nameIs n) l)):=by
  refine fun_ok (mkE_ok zmix (cl:=[(158,c158)]) (gl:=[]) [] c158_ok trivial) Tryz.func91 (by kernel_rfl) ?_
  refine FunW_run _ _ rfl rfl ?_
  have e:=c158_eq l n hl
  simp [e]
noncomputable def c91:=ctr (fun a:List Scp × ByteArray=>a.1.length≤lim) (fun a=>[.lst (a.1.map Scp.v),.str a.2]) (fun a=>(false,.int .i64 (fstI (nameIs a.2) a.1)))
theorem c91_eq (l:List Scp) (n:ByteArray) (h:l.length≤lim):c91 [.lst (l.map Scp.v),.str n]=some (false,.int .i64 (fstI (nameIs n) l)):=ctr_eq (injmn _) (l,n) h rfl
theorem c91_ok:COK Tryz.prog (91,c91):=ctr_ok fun a h=>f91_ok a.1 a.2 h
theorem f160_ok (l:List Scp) (n:ByteArray) (hl:l.length≤lim):FunOK Tryz.prog 160 [.lst (l.map Scp.v),.str n] false (.int .i64 (fstI (nameIs n) l)):=by
  refine fun_ok (mkE_ok zmix (cl:=[]) (gl:=[]) [] trivial trivial) Tryz.func160 (by kernel_rfl) ?_
  refine FunW_run _ _ rfl rfl ?_
  simp only [lim] at hl
  simp
  refine lp_list l (fun i t=>t.e 1=.str n∧t.e 7=.lst (l.map Scp.v)∧t.e 8=.int .i64 l.length∧t.e 9=.int .i64 i∧anyI (nameIs n) l i=false) ?_ ?_ ?_
  · simp
  · rintro c' L hL i t x hx hi ih ⟨h1,h7,h8,h9,hall⟩
    have hw:=wrI (i:=i) (by omega)
    by_cases hc:x.name=n
    · have hc':nameIs n x=true:=by simp [nameIs,hc]
      have:=fst_yes hx hc' hall
      simp [-getElem?_pos,gcz,gcs,h1,h7,h8,h9,hL,hi,hx,hc]
      omega
    · have hc':nameIs n x=false:=by simp [nameIs,hc]
      simp [-getElem?_pos,gcz,gcs,h1,h7,h8,h9,hL,hi,hx,hc]
      refine ih _ ?_
      simp [h1,h7,h8,h9,hw,anyI_succ hx,hall,hc']
  · rintro c' t ⟨h1,h7,h8,h9,hall⟩
    simp [h1,h7,h8,h9,fst_no hall]
noncomputable def c160:=ctr (fun a:List Scp × ByteArray=>a.1.length≤lim) (fun a=>[.lst (a.1.map Scp.v),.str a.2]) (fun a=>(false,.int .i64 (fstI (nameIs a.2) a.1)))
theorem c160_eq (l:List Scp) (n:ByteArray) (h:l.length≤lim):c160 [.lst (l.map Scp.v),.str n]=some (false,.int .i64 (fstI (nameIs n) l)):=ctr_eq (injmn _) (l,n) h rfl
theorem c160_ok:COK Tryz.prog (160,c160):=ctr_ok fun a h=>f160_ok a.1 a.2 h
noncomputable def c67l:=ctr (fun s:Scp=>scopeI s=true) (fun s=>[.ladr [s.v] 0 0]) (fun s=>(false,(exS s).o))
theorem injL1 {β:Type} (out:Scp→β):∀ a b:Scp,[V.ladr [a.v] 0 0]=[V.ladr [b.v] 0 0]→out a=out b:=by
  intro a b h
  simp only [List.cons.injEq,and_true,V.ladr.injEq] at h
  rw [Scp.v_inj h]
theorem c67l_eq (s:Scp) (h:scopeI s=true):c67l [.ladr [s.v] 0 0]=some (false,(exS s).o):=ctr_eq (injL1 _) s h rfl
theorem c67l_ok:COK Tryz.prog (67,c67l):=ctr_ok fun s h=>by
  have h1:=f67_ok s (scopeI_ex h)
  rw [exI_eq s (scopeI_bok h) (scopeI_ex h)] at h1
  exact h1
end Go.TM.Tryz
end
section
set_option maxHeartbeats 8000000
set_option maxRecDepth 20000
namespace Go.TM.Tryz
open Go Go.TM Go.Proofs
theorem exS_lim {s:Scp} (h:scopeI s=true) (hl:s.lim):(exS s).lim:=by
  have hs:=scopeI_ex h
  have hOl:(ordO s).length≤24:=by
    have hl3:=hs.t3
    have hord0:OrdOK s.types.length [0,1,2]:=⟨by decide,by simp;omega⟩
    have hok:=objsW_ok (m:=s.types.length + 1) (fun o n ho hm hn=>tk_ok hs.ty _ o n ho hm hn) s.objects [0,1,2] hs.ob hord0 (by omega)
    exact Nat.le_trans hok.ok.len hs.t24
  have ho16:=hs.o16
  have htl:=renTs_len s.types (ordO s) (ordO s)
  refine ⟨hl.1,⟨by simp [exS,lim],by simp [exS]⟩,⟨?_,fun t ht=>?_⟩,⟨?_,fun o ho=>?_⟩,⟨by simp [exS,lim],by simp [exS]⟩⟩
  · simp only [exS,lim]
    omega
  · have ht':t ∈ renTs s.types (ordO s) (ordO s):=ht
    simp only [renTs,List.mem_filterMap] at ht'
    obtain ⟨n,hn,h2⟩:=ht'
    cases hln:s.types[n.toNat]? with
    | none=>simp [hln] at h2
    | some ty =>
      simp only [hln,Option.map_some,Option.some.injEq] at h2
      subst h2
      obtain ⟨h1,h2,h3⟩:=hl.2.2.1.2 ty (List.mem_of_getElem? hln)
      refine ⟨⟨by simpa [renT] using h1.1,fun x hx=>?_⟩,h2,h3⟩
      simp only [renT] at hx
      obtain ⟨y,hy,rfl⟩:=List.mem_map.1 hx
      have:=h1.2 y hy
      simp only [Fld.lim,renF] at this ⊢
      split
      · simp [lim,ba_nil_size]
      · exact this
  · simp only [exS,List.length_map,lim,shownO]
    have:=List.length_filter_le (fun o:Obj=>decide (o.mark ≠ 0)) s.objects
    omega
  · obtain ⟨x,hx,rfl⟩:=List.mem_map.1 ho
    obtain ⟨h1,h2⟩:=hl.2.2.2.1.2 x (List.mem_filter.1 hx).1
    refine ⟨h1,⟨by simpa [renO] using h2.1,fun y hy=>?_⟩⟩
    simp only [renO] at hy
    obtain ⟨z,hz,rfl⟩:=List.mem_map.1 hy
    exact h2.2 z hz
theorem f152_ok (s:Scp) (h:scopeI s=true) (hl:s.lim):FunOK Tryz.prog 152 [.ladr [s.v] 0 0] false (.bool (decide (exS s=s))):=by
  refine fun_ok (mkE_ok zmix (cl:=[(67,c67l),(198,c198)]) (gl:=[]) [(1,[(0,false),(2,false),(3,false),(4,false),(1,true),(5,true),(6,false)])] ⟨c67l_ok,c198_ok⟩ trivial) Tryz.func152 (by kernel_rfl) ?_
  refine FunW_run _ _ rfl rfl ?_
  have e1:=c67l_eq s h
  have e2:=c198_eq (exS s) s (exS_lim h hl) hl
  generalize exS s=X at *
  simp only [Scp.v,Scp.o] at e1 e2
  simp [e1,e2,pureOp,S.see,seeL,S.after,flatC]
  trace_state
end Go.TM.Tryz
end
section
set_option maxHeartbeats 8000000
set_option maxRecDepth 20000
namespace Go.TM.Tryz
open Go Go.TM Go.Proofs
noncomputable def modAtB (l:List Scp) (i:Nat) (m:Scp):Bool:=scopeI m && decide (exS m=m) && decide (fstI (nameIs m.name) (l.take i) < 0)
noncomputable def modsB (l:List Scp):Bool:=allI (modAtB l) l l.length && decide (l.length≤8)
theorem injLx {β:Type} (out:List Scp × Nat→β):∀ a b:List Scp × Nat,[V.ladr (a.1.map Scp.v) a.2 0]=[V.ladr (b.1.map Scp.v) b.2 0]→out a=out b:=by
  rintro ⟨a,i⟩ ⟨b,j⟩ h
  simp only [List.cons.injEq,and_true,V.ladr.injEq] at h
  rw [map_inj Scp.v_inj h.1,h.2]
theorem atV {l:List Scp} {i:Nat} {s:Scp} (h:l[i]?=some s):(l.map Scp.v)[i]?=some s.v:=by rw [List.getElem?_map,h];rfl
noncomputable def c66x:=ctr (fun a:List Scp × Nat=>∃ s,a.1[a.2]?=some s∧s.lim) (fun a=>[.ladr (a.1.map Scp.v) a.2 0]) (fun a=>(false,.bool (scopeI ((a.1[a.2]?).getD noS))))
theorem c66x_eq {l:List Scp} {i:Nat} {s:Scp} (h:l[i]?=some s) (hl:s.lim):c66x [.ladr (l.map Scp.v) i 0]=some (false,.bool (scopeI s)):=by
  have:=ctr_eq (p:=fun a:List Scp × Nat=>∃ s,a.1[a.2]?=some s∧s.lim) (enc:=fun a=>[.ladr (a.1.map Scp.v) a.2 0]) (out:=fun a=>(false,.bool (scopeI ((a.1[a.2]?).getD noS)))) (injLx _) (l,i) ⟨s,h,hl⟩ rfl
  simp only [h,Option.getD_some] at this
  exact this
theorem c66x_ok:COK Tryz.prog (66,c66x):=ctr_ok fun a h=>by
  obtain ⟨s,h1,h2⟩:=h
  simp only [h1,Option.getD_some]
  exact FunOK.ix (f66_ok s h2) (atV h1)
noncomputable def c152x:=ctr (fun a:List Scp × Nat=>∃ s,a.1[a.2]?=some s∧s.lim∧scopeI s=true) (fun a=>[.ladr (a.1.map Scp.v) a.2 0]) (fun a=>(false,.bool (decide (exS ((a.1[a.2]?).getD noS)=(a.1[a.2]?).getD noS))))
theorem c152x_eq {l:List Scp} {i:Nat} {s:Scp} (h:l[i]?=some s) (hl:s.lim) (hs:scopeI s=true):c152x [.ladr (l.map Scp.v) i 0]=some (false,.bool (decide (exS s=s))):=by
  have:=ctr_eq (p:=fun a:List Scp × Nat=>∃ s,a.1[a.2]?=some s∧s.lim∧scopeI s=true) (enc:=fun a=>[.ladr (a.1.map Scp.v) a.2 0]) (out:=fun a=>(false,.bool (decide (exS ((a.1[a.2]?).getD noS)=(a.1[a.2]?).getD noS)))) (injLx _) (l,i) ⟨s,h,hl,hs⟩ rfl
  simp only [h,Option.getD_some] at this
  exact this
theorem c152x_no {l:List Scp} {i:Nat} {s:Scp} (h:l[i]?=some s) (hs:scopeI s=false):c152x [.ladr (l.map Scp.v) i 0]=none:=by
  refine ctr_none fun a ha e=>?_
  obtain ⟨b,j⟩:=a
  obtain ⟨s',h1,h2,h3⟩:=ha
  simp only [List.cons.injEq,and_true,V.ladr.injEq] at e
  obtain ⟨e1,e2⟩:=e
  have e3:=map_inj Scp.v_inj e1
  simp only at h1
  rw [e3,e2,h] at h1
  cases h1
  rw [hs] at h3
  cases h3
theorem c152x_ok:COK Tryz.prog (152,c152x):=ctr_ok fun a h=>by
  obtain ⟨s,h1,h2,h3⟩:=h
  simp only [h1,Option.getD_some]
  exact FunOK.ix (f152_ok s h3 h2) (atV h1)
theorem f95_ok (l:List Scp) (hl:limL Scp.lim l):FunOK Tryz.prog 95 [.lst (l.map Scp.v)] false (.bool (modsB l)):=by
  refine fun_ok (mkE_ok zmix (cl:=[(66,c66x),(152,c152x),(91,c91)]) (gl:=[]) [(4,[(0,false),(1,false),(2,false),(3,true),(4,false),(5,false),(6,false),(7,false),(8,false),(9,true),(10,false),(11,false),(12,false),(13,false),(14,false),(15,false),(16,false),(17,false),(18,false),(19,false),(20,false),(21,true),(22,false),(23,false)])] ⟨c66x_ok,c152x_ok,c91_ok⟩ trivial) Tryz.func95 (by kernel_rfl) ?_
  refine FunW_run _ _ rfl rfl ?_
  have hll:=hl.1
  simp only [lim] at hll
  simp
  refine lp_list l (fun i t=>t.e 0=.lst (l.map Scp.v)∧t.e 5=.int .i64 l.length∧t.e 6=.int .i64 i∧allI (modAtB l) l i=true) ?_ ?_ ?_
  · simp
  · rintro c' L hL i t x hx hi ih ⟨h0,h5,h6,hall⟩
    have hw:=wrI (i:=i) (by omega)
    have hxl:=hl.2 x (List.mem_of_getElem? hx)
    have e66:=c66x_eq hx hxl
    have e91:=c91_eq (l.take i) x.name (by simp [lim];omega)
    rw [List.map_take] at e91
    cases hs:scopeI x with
    | false =>
      have e152:=c152x_no hx hs
      rw [hs] at e66
      have hno:modAtB l i x=false:=by simp [modAtB,hs]
      have:=allI_no hx hno
      simp [-getElem?_pos,gcz,gcs,h0,h5,h6,hL,hi,hx,e66,e152,e91,pureOp,S.see,seeL,S.after,flatC,modsB,this]
    | true =>
      have e152:=c152x_eq hx hxl hs
      rw [hs] at e66
      simp [-getElem?_pos,gcz,gcs,h0,h5,h6,hL,hi,hx,e66,e152,e91,pureOp,S.see,seeL,S.after,flatC]
      refine ⟨fun _=>by omega,?_⟩
      split
      · rename_i hc
        have hno:modAtB l i x=false:=by
          simp only [modAtB,hs,Bool.true_and,Bool.and_eq_false_iff,decide_eq_false_iff_not]
          rcases hc with hc | hc
          · exact .inl hc
          · exact .inr (by omega)
        have:=allI_no hx hno
        simp [modsB,this]
      · rename_i hc
        have hyes:modAtB l i x=true:=by
          simp only [modAtB,hs,Bool.true_and,Bool.and_eq_true,decide_eq_true_eq]
          simp only [not_or,Classical.not_not] at hc
          exact ⟨hc.1,by omega⟩
        refine ih _ ?_
        simp [h0,h5,h6,hw,allI_succ hx,hall,hyes]
  · rintro c' t ⟨h0,h5,h6,hall⟩
    simp [h0,h5,h6,modsB,hall]
    omega
end Go.TM.Tryz
end
section
set_option maxHeartbeats 8000000
set_option maxRecDepth 20000
namespace Go.TM.Tryz
open Go Go.TM Go.Proofs
theorem c61_no {s:Scp} (hs:scopeI s=false):c61 [s.v]=none:=by
  refine ctr_none fun a ha e=>?_
  simp only [List.cons.injEq,and_true] at e
  rw [Scp.v_inj e,hs] at ha
  cases ha
theorem c144_no (v:V):c144 [.bad,v]=none:=by
  refine ctr_none fun a ha e=>?_
  simp only [List.cons.injEq,and_true,Scp.v] at e
  cases e.1
theorem f93_ok (l:List Scp) (hl:limL Scp.lim l):FunOK Tryz.prog 93 [.lst (l.map Scp.v)] false (.bool (modsB l)):=by
  refine fun_ok (mkE_ok zmix (cl:=[(60,c60),(61,c61),(144,c144),(160,c160)]) (gl:=[]) [(4,[(0,false),(1,true),(2,false),(3,false),(4,false),(6,false),(5,true),(7,true),(8,false),(9,false),(10,false),(11,false),(12,false),(13,false),(14,false),(15,false),(16,true),(17,false),(18,false)])] ⟨c60_ok,c61_ok,c144_ok,c160_ok⟩ trivial) Tryz.func93 (by kernel_rfl) ?_
  refine FunW_run _ _ rfl rfl ?_
  have hll:=hl.1
  simp only [lim] at hll
  simp
  refine lp_list l (fun i t=>t.e 0=.lst (l.map Scp.v)∧t.e 5=.lst (l.map Scp.v)∧t.e 6=.int .i64 l.length∧t.e 7=.int .i64 i∧allI (modAtB l) l i=true) ?_ ?_ ?_
  · simp
  · rintro c' L hL i t x hx hi ih ⟨h0,h5,h6,h7,hall⟩
    have hw:=wrI (i:=i) (by omega)
    have hxl:=hl.2 x (List.mem_of_getElem? hx)
    have e60:=c60_eq x hxl
    have e160:=c160_eq (l.take i) x.name (by simp [lim];omega)
    rw [List.map_take] at e160
    simp only [Scp.v] at e60
    cases hs:scopeI x with
    | false =>
      have e61:=c61_no hs
      simp only [Scp.v] at e61
      rw [hs] at e60
      have hno:modAtB l i x=false:=by simp [modAtB,hs]
      have:=allI_no hx hno
      simp [-getElem?_pos,gcz,gcs,h0,h5,h6,h7,hL,hi,hx,e60,e61,c144_no,e160,pureOp,S.see,seeL,S.after,flatC,modsB,this]
    | true =>
      have e61:=c61_eq x hs
      have e144:=c144_eq (exS x) x (exS_lim hs hxl) hxl
      generalize hX:exS x=X at *
      simp only [Scp.v,Scp.o] at e61 e144
      rw [hs] at e60
      simp [-getElem?_pos,gcz,gcs,h0,h5,h6,h7,hL,hi,hx,e60,e61,e144,e160,pureOp,S.see,seeL,S.after,flatC]
      subst hX
      refine ⟨fun _=>by omega,?_⟩
      split
      · rename_i hc
        have hno:modAtB l i x=false:=by
          simp only [modAtB,hs,Bool.true_and,Bool.and_eq_false_iff,decide_eq_false_iff_not]
          rcases hc with hc | hc
          · exact .inl hc
          · exact .inr (by omega)
        have:=allI_no hx hno
        simp [modsB,this]
      · rename_i hc
        have hyes:modAtB l i x=true:=by
          simp only [modAtB,hs,Bool.true_and,Bool.and_eq_true,decide_eq_true_eq]
          simp only [not_or,Classical.not_not] at hc
          exact ⟨hc.1,by omega⟩
        refine ih _ ?_
        simp [h0,h5,h6,h7,hw,allI_succ hx,hall,hyes]
  · rintro c' t ⟨h0,h5,h6,h7,hall⟩
    simp [h0,h5,h6,h7,modsB,hall]
    omega
noncomputable def c95:=ctr (fun l:List Scp=>limL Scp.lim l) (fun l=>[.lst (l.map Scp.v)]) (fun l=>(false,.bool (modsB l)))
theorem c95_eq (l:List Scp) (h:limL Scp.lim l):c95 [.lst (l.map Scp.v)]=some (false,.bool (modsB l)):=ctr_eq (injl Scp.v_inj _) l h rfl
theorem c95_ok:COK Tryz.prog (95,c95):=ctr_ok fun l h=>f95_ok l h
noncomputable def c93:=ctr (fun l:List Scp=>limL Scp.lim l) (fun l=>[.lst (l.map Scp.v)]) (fun l=>(false,.bool (modsB l)))
theorem c93_eq (l:List Scp) (h:limL Scp.lim l):c93 [.lst (l.map Scp.v)]=some (false,.bool (modsB l)):=ctr_eq (injl Scp.v_inj _) l h rfl
theorem c93_ok:COK Tryz.prog (93,c93):=ctr_ok fun l h=>f93_ok l h
end Go.TM.Tryz
end
