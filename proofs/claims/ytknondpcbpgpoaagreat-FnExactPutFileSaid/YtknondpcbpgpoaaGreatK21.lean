/- A part of the proof: ZMark, ZseSz, ZmSz, JC, JK, JD, JE. -/
import Derived.Test.YtknondpcbpgpoaaGreatK20
set_option linter.unusedVariables false
set_option linter.unusedSimpArgs false
section
set_option maxHeartbeats 2000000
namespace Go.TM.Tryz
open Go Go.TM Go.Proofs
theorem f88_ok (k:Int) (h:k≤4611686018427387904):FunOK Tryz.prog 88 [.int .i64 k] false (.str (mtext k)):=by
  refine fun_ok (mkE_ok zmix (cl:=[]) (gl:=[]) [] trivial trivial) Tryz.func88 (by kernel_rfl) ?_
  refine FunW_run _ _ rfl rfl ?_
  by_cases h0:k≤0
  · simp [h0,mtext]
  · simp [h0]
    refine lp_ind (fun m t=>∃ (n:Nat) (out:ByteArray),m=n∧t.e 0=.int .i64 n∧t.e 3=.str out∧mdig n ++ out=mdig k.toNat∧out.size + n≤k) k.toNat ⟨k.toNat,⟨#[]⟩,rfl,?_⟩ ?_
    · have e:((k.toNat:Nat):Int)=k:=by omega
      simp [e,ba_append_nil,ba_nil_size]
    rintro c' L hL m t ih ⟨n,out,rfl,h1,h3,hout,hsz⟩
    by_cases hn:m=0
    · subst hn
      have hb:1 + out.size≤9223372036854775807:=by omega
      rw [mdig_zero,ba_nil_append] at hout
      subst hout
      simp [h1,h3,hL,ba_one_size,hb,mtext,h0]
    · have hn':0 < m:=by omega
      have ht:Int.tdiv (m:Int) 10=((m / 10:Nat):Int):=by
        rw [Int.tdiv_eq_ediv_of_nonneg (by omega)]
        omega
      have hb:1 + out.size≤9223372036854775807:=by omega
      have hw:IntKind.i64.wrap ((m:Int) / 10)=(m:Int) / 10:=wrap64 (by omega) (by omega)
      simp [h1,h3,hL,hn',ht,ba_one_size,hb]
      refine ih (m / 10) _ (by omega) ⟨m / 10,_,rfl,by simp [hw],by simp;rfl,?_,?_⟩
      · rw [← ByteArray.append_assoc,← mdig_succ hn,hout]
      · rw [ByteArray.size_append,ba_one_size]
        omega
noncomputable def c88:=ctr (fun k:Int=>k≤4611686018427387904) (fun k=>[.int .i64 k]) (fun k=>(false,.str (mtext k)))
theorem c88_eq (k:Int) (h:k≤4611686018427387904):c88 [.int .i64 k]=some (false,.str (mtext k)):=ctr_eq (by simp) k h rfl
theorem c88_ok:COK Tryz.prog (88,c88):=ctr_ok fun k h=>f88_ok k h
theorem f50_ok (xs:List ByteArray) (k:Int) (h0:0≤k) (h1:k + cnt cStr xs≤4611686018427387904) (h2:xs.length≤4611686018427387904):GenOK Tryz.prog 50 [.inl 1 (xs.map V.str),.int .i64 k] [] ⟨false,.int .i64 (k + cnt cStr xs),[.inl 1 ((mkL mkStr cStr k xs).map V.str)],[]⟩:=by
  refine fun_okG (mkE_ok zmix (cl:=[(88,c88)]) (gl:=[]) [] c88_ok trivial) Tryz.func50 (by kernel_rfl) ?_
  refine FunG_run _ _ rfl rfl ?_
  have hlen:=h2
  simp
  refine lp_list xs (fun i t=>t.e 0=.own 0∧t.e 1=.int .i64 (k + pre cStr xs i)∧t.e 5=.int .i64 i∧t.nb=0∧1≤t.nt∧t.R 0=some ⟨1,(mpart mkStr cStr k xs i).map V.str,true⟩) ?_ ?_ ?_
  · simp [pre_zero,mpart_zero]
  · rintro c' L hL i t x hx hi ih ⟨g0,g1,g5,gnb,gnt,gR⟩
    have hw:=wrI (i:=i) (by omega)
    have hp:=pre_succ cStr hx
    have hp2:=pre_le cStr xs (i + 1)
    have hc:cStr x=1:=rfl
    have hcnt:(xs.map cStr).sum=cnt cStr xs:=rfl
    have e0:=c88_eq (k + (pre cStr xs i:Nat)) (by omega)
    have w0:IntKind.i64.wrap (k + (pre cStr xs i:Nat) + 1)=k + (pre cStr xs i:Nat) + 1:=wrap64 (by omega) (by omega)
    have hx':=mpart_get (f:=mkStr) (c:=cStr) (k:=k) hx
    simp [-getElem?_pos,gcz,gcs,g0,g1,g5,gnb,gR,hL,hx',hi,e0,w0]
    refine ih _ ?_
    simp [-getElem?_pos,gcz,gcs,g0,g1,g5,gnb,gR,hL,hx',hi,e0,w0,hp,hc,hw]
    first
      | exact ⟨by omega,by omega,mpart_setv hx rfl⟩
      | exact ⟨by omega,mpart_setv hx rfl⟩
      | exact mpart_setv hx rfl
  · rintro c' t ⟨g0,g1,g5,gnb,gnt,gR⟩
    simp only [pre_all] at g1
    simp [g0,g1,g5,gnb,gR,mpart_all,cnt]
noncomputable def c50:=ctrG (fun a:List ByteArray × Int=>0≤a.2∧a.2 + cnt cStr a.1≤4611686018427387904∧(a.1.length≤4611686018427387904)) (fun a=>([.inl 1 (a.1.map V.str),.int .i64 a.2],[])) (fun a=>⟨false,.int .i64 (a.2 + cnt cStr a.1),[.inl 1 ((mkL mkStr cStr a.2 a.1).map V.str)],[]⟩)
theorem c50_eq (xs:List ByteArray) (k:Int) (h0:0≤k) (h1:k + cnt cStr xs≤4611686018427387904) (h2:xs.length≤4611686018427387904):c50 [.inl 1 (xs.map V.str),.int .i64 k] []=some ⟨false,.int .i64 (k + cnt cStr xs),[.inl 1 ((mkL mkStr cStr k xs).map V.str)],[]⟩:=ctrG_eq (injG str_inj _) (xs,k) ⟨h0,h1,h2⟩ rfl
theorem c50_ok:GOK Tryz.prog (50,[true],c50):=ctrG_ok fun a h=>f50_ok a.1 a.2 h.1 h.2.1 h.2.2
theorem f136_ok (xs:List Fld) (k:Int) (h0:0≤k) (h1:k + cnt cFld xs≤4611686018427387904) (h2:xs.length≤4611686018427387904):GenOK Tryz.prog 136 [.inl 3 (xs.map Fld.v),.int .i64 k] [] ⟨false,.int .i64 (k + cnt cFld xs),[.inl 3 ((mkL mkFld cFld k xs).map Fld.v)],[]⟩:=by
  refine fun_okG (mkE_ok zmix (cl:=[(88,c88)]) (gl:=[]) [] c88_ok trivial) Tryz.func136 (by kernel_rfl) ?_
  refine FunG_run _ _ rfl rfl ?_
  have hlen:=h2
  simp
  refine lp_list xs (fun i t=>t.e 0=.own 0∧t.e 1=.int .i64 (k + pre cFld xs i)∧t.e 5=.int .i64 i∧t.nb=0∧1≤t.nt∧t.R 0=some ⟨3,(mpart mkFld cFld k xs i).map Fld.v,true⟩) ?_ ?_ ?_
  · simp [pre_zero,mpart_zero]
  · rintro c' L hL i t x hx hi ih ⟨g0,g1,g5,gnb,gnt,gR⟩
    have hw:=wrI (i:=i) (by omega)
    have hp:=pre_succ cFld hx
    have hp2:=pre_le cFld xs (i + 1)
    have hc:cFld x=3:=rfl
    have hcnt:(xs.map cFld).sum=cnt cFld xs:=rfl
    have e0:=c88_eq (k + (pre cFld xs i:Nat)) (by omega)
    have w0:IntKind.i64.wrap (k + (pre cFld xs i:Nat) + 1)=k + (pre cFld xs i:Nat) + 1:=wrap64 (by omega) (by omega)
    have w1:IntKind.i64.wrap (k + (pre cFld xs i:Nat) + 1 + 1)=k + (pre cFld xs i:Nat) + 1 + 1:=wrap64 (by omega) (by omega)
    have w2:IntKind.i64.wrap (k + (pre cFld xs i:Nat) + 1 + 1 + 1)=k + (pre cFld xs i:Nat) + 1 + 1 + 1:=wrap64 (by omega) (by omega)
    have hx':=mpart_get (f:=mkFld) (c:=cFld) (k:=k) hx
    simp [-getElem?_pos,gcz,gcs,g0,g1,g5,gnb,gR,hL,hx',hi,e0,w0,w1,w2]
    refine ih _ ?_
    simp [-getElem?_pos,gcz,gcs,g0,g1,g5,gnb,gR,hL,hx',hi,e0,w0,w1,w2,hp,hc,hw]
    first
      | exact ⟨by omega,by omega,mpart_setv hx rfl⟩
      | exact ⟨by omega,mpart_setv hx rfl⟩
      | exact mpart_setv hx rfl
  · rintro c' t ⟨g0,g1,g5,gnb,gnt,gR⟩
    simp only [pre_all] at g1
    simp [g0,g1,g5,gnb,gR,mpart_all,cnt]
noncomputable def c136:=ctrG (fun a:List Fld × Int=>0≤a.2∧a.2 + cnt cFld a.1≤4611686018427387904∧(a.1.length≤4611686018427387904)) (fun a=>([.inl 3 (a.1.map Fld.v),.int .i64 a.2],[])) (fun a=>⟨false,.int .i64 (a.2 + cnt cFld a.1),[.inl 3 ((mkL mkFld cFld a.2 a.1).map Fld.v)],[]⟩)
theorem c136_eq (xs:List Fld) (k:Int) (h0:0≤k) (h1:k + cnt cFld xs≤4611686018427387904) (h2:xs.length≤4611686018427387904):c136 [.inl 3 (xs.map Fld.v),.int .i64 k] []=some ⟨false,.int .i64 (k + cnt cFld xs),[.inl 3 ((mkL mkFld cFld k xs).map Fld.v)],[]⟩:=ctrG_eq (injG Fld.v_inj _) (xs,k) ⟨h0,h1,h2⟩ rfl
theorem c136_ok:GOK Tryz.prog (136,[true],c136):=ctrG_ok fun a h=>f136_ok a.1 a.2 h.1 h.2.1 h.2.2
theorem f137_ok (xs:List Par) (k:Int) (h0:0≤k) (h1:k + cnt cPar xs≤4611686018427387904) (h2:xs.length≤4611686018427387904):GenOK Tryz.prog 137 [.inl 3 (xs.map Par.v),.int .i64 k] [] ⟨false,.int .i64 (k + cnt cPar xs),[.inl 3 ((mkL mkPar cPar k xs).map Par.v)],[]⟩:=by
  refine fun_okG (mkE_ok zmix (cl:=[(88,c88)]) (gl:=[]) [] c88_ok trivial) Tryz.func137 (by kernel_rfl) ?_
  refine FunG_run _ _ rfl rfl ?_
  have hlen:=h2
  simp
  refine lp_list xs (fun i t=>t.e 0=.own 0∧t.e 1=.int .i64 (k + pre cPar xs i)∧t.e 5=.int .i64 i∧t.nb=0∧1≤t.nt∧t.R 0=some ⟨3,(mpart mkPar cPar k xs i).map Par.v,true⟩) ?_ ?_ ?_
  · simp [pre_zero,mpart_zero]
  · rintro c' L hL i t x hx hi ih ⟨g0,g1,g5,gnb,gnt,gR⟩
    have hw:=wrI (i:=i) (by omega)
    have hp:=pre_succ cPar hx
    have hp2:=pre_le cPar xs (i + 1)
    have hc:cPar x=3:=rfl
    have hcnt:(xs.map cPar).sum=cnt cPar xs:=rfl
    have e0:=c88_eq (k + (pre cPar xs i:Nat)) (by omega)
    have w0:IntKind.i64.wrap (k + (pre cPar xs i:Nat) + 1)=k + (pre cPar xs i:Nat) + 1:=wrap64 (by omega) (by omega)
    have w1:IntKind.i64.wrap (k + (pre cPar xs i:Nat) + 1 + 1)=k + (pre cPar xs i:Nat) + 1 + 1:=wrap64 (by omega) (by omega)
    have w2:IntKind.i64.wrap (k + (pre cPar xs i:Nat) + 1 + 1 + 1)=k + (pre cPar xs i:Nat) + 1 + 1 + 1:=wrap64 (by omega) (by omega)
    have hx':=mpart_get (f:=mkPar) (c:=cPar) (k:=k) hx
    simp [-getElem?_pos,gcz,gcs,g0,g1,g5,gnb,gR,hL,hx',hi,e0,w0,w1,w2]
    refine ih _ ?_
    simp [-getElem?_pos,gcz,gcs,g0,g1,g5,gnb,gR,hL,hx',hi,e0,w0,w1,w2,hp,hc,hw]
    first
      | exact ⟨by omega,by omega,mpart_setv hx rfl⟩
      | exact ⟨by omega,mpart_setv hx rfl⟩
      | exact mpart_setv hx rfl
  · rintro c' t ⟨g0,g1,g5,gnb,gnt,gR⟩
    simp only [pre_all] at g1
    simp [g0,g1,g5,gnb,gR,mpart_all,cnt]
noncomputable def c137:=ctrG (fun a:List Par × Int=>0≤a.2∧a.2 + cnt cPar a.1≤4611686018427387904∧(a.1.length≤4611686018427387904)) (fun a=>([.inl 3 (a.1.map Par.v),.int .i64 a.2],[])) (fun a=>⟨false,.int .i64 (a.2 + cnt cPar a.1),[.inl 3 ((mkL mkPar cPar a.2 a.1).map Par.v)],[]⟩)
theorem c137_eq (xs:List Par) (k:Int) (h0:0≤k) (h1:k + cnt cPar xs≤4611686018427387904) (h2:xs.length≤4611686018427387904):c137 [.inl 3 (xs.map Par.v),.int .i64 k] []=some ⟨false,.int .i64 (k + cnt cPar xs),[.inl 3 ((mkL mkPar cPar k xs).map Par.v)],[]⟩:=ctrG_eq (injG Par.v_inj _) (xs,k) ⟨h0,h1,h2⟩ rfl
theorem c137_ok:GOK Tryz.prog (137,[true],c137):=ctrG_ok fun a h=>f137_ok a.1 a.2 h.1 h.2.1 h.2.2
theorem f45_ok (xs:List Use) (k:Int) (h0:0≤k) (h1:k + cnt cUse xs≤4611686018427387904) (h2:xs.length≤4611686018427387904):GenOK Tryz.prog 45 [.inl 2 (xs.map Use.v),.int .i64 k] [] ⟨false,.int .i64 (k + cnt cUse xs),[.inl 2 ((mkL mkUse cUse k xs).map Use.v)],[]⟩:=by
  refine fun_okG (mkE_ok zmix (cl:=[(88,c88)]) (gl:=[]) [] c88_ok trivial) Tryz.func45 (by kernel_rfl) ?_
  refine FunG_run _ _ rfl rfl ?_
  have hlen:=h2
  simp
  refine lp_list xs (fun i t=>t.e 0=.own 0∧t.e 1=.int .i64 (k + pre cUse xs i)∧t.e 5=.int .i64 i∧t.nb=0∧1≤t.nt∧t.R 0=some ⟨2,(mpart mkUse cUse k xs i).map Use.v,true⟩) ?_ ?_ ?_
  · simp [pre_zero,mpart_zero]
  · rintro c' L hL i t x hx hi ih ⟨g0,g1,g5,gnb,gnt,gR⟩
    have hw:=wrI (i:=i) (by omega)
    have hp:=pre_succ cUse hx
    have hp2:=pre_le cUse xs (i + 1)
    have hc:cUse x=2:=rfl
    have hcnt:(xs.map cUse).sum=cnt cUse xs:=rfl
    have e0:=c88_eq (k + (pre cUse xs i:Nat)) (by omega)
    have w0:IntKind.i64.wrap (k + (pre cUse xs i:Nat) + 1)=k + (pre cUse xs i:Nat) + 1:=wrap64 (by omega) (by omega)
    have e1:=c88_eq (k + (pre cUse xs i:Nat) + 1) (by omega)
    have w1:IntKind.i64.wrap (k + (pre cUse xs i:Nat) + 1 + 1)=k + (pre cUse xs i:Nat) + 1 + 1:=wrap64 (by omega) (by omega)
    have hx':=mpart_get (f:=mkUse) (c:=cUse) (k:=k) hx
    simp [-getElem?_pos,gcz,gcs,g0,g1,g5,gnb,gR,hL,hx',hi,e0,w0,e1,w1]
    refine ih _ ?_
    simp [-getElem?_pos,gcz,gcs,g0,g1,g5,gnb,gR,hL,hx',hi,e0,w0,e1,w1,hp,hc,hw]
    first
      | exact ⟨by omega,by omega,mpart_setv hx rfl⟩
      | exact ⟨by omega,mpart_setv hx rfl⟩
      | exact mpart_setv hx rfl
  · rintro c' t ⟨g0,g1,g5,gnb,gnt,gR⟩
    simp only [pre_all] at g1
    simp [g0,g1,g5,gnb,gR,mpart_all,cnt]
noncomputable def c45:=ctrG (fun a:List Use × Int=>0≤a.2∧a.2 + cnt cUse a.1≤4611686018427387904∧(a.1.length≤4611686018427387904)) (fun a=>([.inl 2 (a.1.map Use.v),.int .i64 a.2],[])) (fun a=>⟨false,.int .i64 (a.2 + cnt cUse a.1),[.inl 2 ((mkL mkUse cUse a.2 a.1).map Use.v)],[]⟩)
theorem c45_eq (xs:List Use) (k:Int) (h0:0≤k) (h1:k + cnt cUse xs≤4611686018427387904) (h2:xs.length≤4611686018427387904):c45 [.inl 2 (xs.map Use.v),.int .i64 k] []=some ⟨false,.int .i64 (k + cnt cUse xs),[.inl 2 ((mkL mkUse cUse k xs).map Use.v)],[]⟩:=ctrG_eq (injG Use.v_inj _) (xs,k) ⟨h0,h1,h2⟩ rfl
theorem c45_ok:GOK Tryz.prog (45,[true],c45):=ctrG_ok fun a h=>f45_ok a.1 a.2 h.1 h.2.1 h.2.2
theorem f70_ok (xs:List Ty) (k:Int) (h0:0≤k) (h1:k + cnt cTy xs≤4611686018427387904) (h2:xs.length≤4611686018427387904∧∀ x ∈ xs,x.fields.length≤4611686018427387904):GenOK Tryz.prog 70 [.inl 6 (xs.map Ty.o),.int .i64 k] [] ⟨false,.int .i64 (k + cnt cTy xs),[.inl 6 ((mkL mkTy cTy k xs).map Ty.o)],[]⟩:=by
  refine fun_okG (mkE_ok zmix (cl:=[(88,c88)]) (gl:=[(136,[true],c136)]) [] c88_ok c136_ok) Tryz.func70 (by kernel_rfl) ?_
  refine FunG_run _ _ rfl rfl ?_
  have hlen:=h2.1
  simp
  refine lp_list xs (fun i t=>t.e 0=.own 0∧t.e 1=.int .i64 (k + pre cTy xs i)∧t.e 5=.int .i64 i∧t.nb=0∧1≤t.nt∧t.R 0=some ⟨6,(mpart mkTy cTy k xs i).map Ty.o,true⟩) ?_ ?_ ?_
  · simp [pre_zero,mpart_zero]
  · rintro c' L hL i t x hx hi ih ⟨g0,g1,g5,gnb,gnt,gR⟩
    have hw:=wrI (i:=i) (by omega)
    have hp:=pre_succ cTy hx
    have hp2:=pre_le cTy xs (i + 1)
    have hc:cTy x=5+cnt cFld x.fields:=rfl
    have hcnt:(xs.map cTy).sum=cnt cTy xs:=rfl
    have hlen3:x.fields.length≤4611686018427387904:=h2.2 x (List.mem_of_getElem? hx)
    have w0:IntKind.i64.wrap (k + (pre cTy xs i:Nat) + 1)=k + (pre cTy xs i:Nat) + 1:=wrap64 (by omega) (by omega)
    have w1:IntKind.i64.wrap (k + (pre cTy xs i:Nat) + 1 + 1)=k + (pre cTy xs i:Nat) + 1 + 1:=wrap64 (by omega) (by omega)
    have w2:IntKind.i64.wrap (k + (pre cTy xs i:Nat) + 1 + 1 + 1)=k + (pre cTy xs i:Nat) + 1 + 1 + 1:=wrap64 (by omega) (by omega)
    have e3:=c136_eq x.fields (k + (pre cTy xs i:Nat) + 1 + 1 + 1) (by omega) (by omega) hlen3
    have e4:=c88_eq (k + (pre cTy xs i:Nat) + 1 + 1 + 1 + (cnt cFld x.fields:Nat)) (by omega)
    have w4:IntKind.i64.wrap (k + (pre cTy xs i:Nat) + 1 + 1 + 1 + (cnt cFld x.fields:Nat) + 1)=k + (pre cTy xs i:Nat) + 1 + 1 + 1 + (cnt cFld x.fields:Nat) + 1:=wrap64 (by omega) (by omega)
    have e5:=c88_eq (k + (pre cTy xs i:Nat) + 1 + 1 + 1 + (cnt cFld x.fields:Nat) + 1) (by omega)
    have w5:IntKind.i64.wrap (k + (pre cTy xs i:Nat) + 1 + 1 + 1 + (cnt cFld x.fields:Nat) + 1 + 1)=k + (pre cTy xs i:Nat) + 1 + 1 + 1 + (cnt cFld x.fields:Nat) + 1 + 1:=wrap64 (by omega) (by omega)
    have hx':=mpart_get (f:=mkTy) (c:=cTy) (k:=k) hx
    simp [-getElem?_pos,gcz,gcs,g0,g1,g5,gnb,gR,hL,hx',hi,w0,w1,w2,e3,e4,w4,e5,w5]
    refine ih _ ?_
    simp [-getElem?_pos,gcz,gcs,g0,g1,g5,gnb,gR,hL,hx',hi,w0,w1,w2,e3,e4,w4,e5,w5,hp,hc,hw]
    first
      | exact ⟨by omega,by omega,mpart_setv hx rfl⟩
      | exact ⟨by omega,mpart_setv hx rfl⟩
      | exact mpart_setv hx rfl
  · rintro c' t ⟨g0,g1,g5,gnb,gnt,gR⟩
    simp only [pre_all] at g1
    simp [g0,g1,g5,gnb,gR,mpart_all,cnt]
noncomputable def c70:=ctrG (fun a:List Ty × Int=>0≤a.2∧a.2 + cnt cTy a.1≤4611686018427387904∧(a.1.length≤4611686018427387904∧∀ x ∈ a.1,x.fields.length≤4611686018427387904)) (fun a=>([.inl 6 (a.1.map Ty.o),.int .i64 a.2],[])) (fun a=>⟨false,.int .i64 (a.2 + cnt cTy a.1),[.inl 6 ((mkL mkTy cTy a.2 a.1).map Ty.o)],[]⟩)
theorem c70_eq (xs:List Ty) (k:Int) (h0:0≤k) (h1:k + cnt cTy xs≤4611686018427387904) (h2:xs.length≤4611686018427387904∧∀ x ∈ xs,x.fields.length≤4611686018427387904):c70 [.inl 6 (xs.map Ty.o),.int .i64 k] []=some ⟨false,.int .i64 (k + cnt cTy xs),[.inl 6 ((mkL mkTy cTy k xs).map Ty.o)],[]⟩:=ctrG_eq (injG Ty.o_inj _) (xs,k) ⟨h0,h1,h2⟩ rfl
theorem c70_ok:GOK Tryz.prog (70,[true],c70):=ctrG_ok fun a h=>f70_ok a.1 a.2 h.1 h.2.1 h.2.2
theorem f71_ok (xs:List Obj) (k:Int) (h0:0≤k) (h1:k + cnt cObj xs≤4611686018427387904) (h2:xs.length≤4611686018427387904∧∀ x ∈ xs,x.params.length≤4611686018427387904):GenOK Tryz.prog 71 [.inl 6 (xs.map Obj.o),.int .i64 k] [] ⟨false,.int .i64 (k + cnt cObj xs),[.inl 6 ((mkL mkObj cObj k xs).map Obj.o)],[]⟩:=by
  refine fun_okG (mkE_ok zmix (cl:=[(88,c88)]) (gl:=[(137,[true],c137)]) [] c88_ok c137_ok) Tryz.func71 (by kernel_rfl) ?_
  refine FunG_run _ _ rfl rfl ?_
  have hlen:=h2.1
  simp
  refine lp_list xs (fun i t=>t.e 0=.own 0∧t.e 1=.int .i64 (k + pre cObj xs i)∧t.e 5=.int .i64 i∧t.nb=0∧1≤t.nt∧t.R 0=some ⟨6,(mpart mkObj cObj k xs i).map Obj.o,true⟩) ?_ ?_ ?_
  · simp [pre_zero,mpart_zero]
  · rintro c' L hL i t x hx hi ih ⟨g0,g1,g5,gnb,gnt,gR⟩
    have hw:=wrI (i:=i) (by omega)
    have hp:=pre_succ cObj hx
    have hp2:=pre_le cObj xs (i + 1)
    have hc:cObj x=5+cnt cPar x.params:=rfl
    have hcnt:(xs.map cObj).sum=cnt cObj xs:=rfl
    have hlen5:x.params.length≤4611686018427387904:=h2.2 x (List.mem_of_getElem? hx)
    have e0:=c88_eq (k + (pre cObj xs i:Nat)) (by omega)
    have w0:IntKind.i64.wrap (k + (pre cObj xs i:Nat) + 1)=k + (pre cObj xs i:Nat) + 1:=wrap64 (by omega) (by omega)
    have w1:IntKind.i64.wrap (k + (pre cObj xs i:Nat) + 1 + 1)=k + (pre cObj xs i:Nat) + 1 + 1:=wrap64 (by omega) (by omega)
    have w2:IntKind.i64.wrap (k + (pre cObj xs i:Nat) + 1 + 1 + 1)=k + (pre cObj xs i:Nat) + 1 + 1 + 1:=wrap64 (by omega) (by omega)
    have w3:IntKind.i64.wrap (k + (pre cObj xs i:Nat) + 1 + 1 + 1 + 1)=k + (pre cObj xs i:Nat) + 1 + 1 + 1 + 1:=wrap64 (by omega) (by omega)
    have w4:IntKind.i64.wrap (k + (pre cObj xs i:Nat) + 1 + 1 + 1 + 1 + 1)=k + (pre cObj xs i:Nat) + 1 + 1 + 1 + 1 + 1:=wrap64 (by omega) (by omega)
    have e5:=c137_eq x.params (k + (pre cObj xs i:Nat) + 1 + 1 + 1 + 1 + 1) (by omega) (by omega) hlen5
    have hx':=mpart_get (f:=mkObj) (c:=cObj) (k:=k) hx
    simp [-getElem?_pos,gcz,gcs,g0,g1,g5,gnb,gR,hL,hx',hi,e0,w0,w1,w2,w3,w4,e5]
    refine ih _ ?_
    simp [-getElem?_pos,gcz,gcs,g0,g1,g5,gnb,gR,hL,hx',hi,e0,w0,w1,w2,w3,w4,e5,hp,hc,hw]
    first
      | exact ⟨by omega,by omega,mpart_setv hx rfl⟩
      | exact ⟨by omega,mpart_setv hx rfl⟩
      | exact mpart_setv hx rfl
  · rintro c' t ⟨g0,g1,g5,gnb,gnt,gR⟩
    simp only [pre_all] at g1
    simp [g0,g1,g5,gnb,gR,mpart_all,cnt]
noncomputable def c71:=ctrG (fun a:List Obj × Int=>0≤a.2∧a.2 + cnt cObj a.1≤4611686018427387904∧(a.1.length≤4611686018427387904∧∀ x ∈ a.1,x.params.length≤4611686018427387904)) (fun a=>([.inl 6 (a.1.map Obj.o),.int .i64 a.2],[])) (fun a=>⟨false,.int .i64 (a.2 + cnt cObj a.1),[.inl 6 ((mkL mkObj cObj a.2 a.1).map Obj.o)],[]⟩)
theorem c71_eq (xs:List Obj) (k:Int) (h0:0≤k) (h1:k + cnt cObj xs≤4611686018427387904) (h2:xs.length≤4611686018427387904∧∀ x ∈ xs,x.params.length≤4611686018427387904):c71 [.inl 6 (xs.map Obj.o),.int .i64 k] []=some ⟨false,.int .i64 (k + cnt cObj xs),[.inl 6 ((mkL mkObj cObj k xs).map Obj.o)],[]⟩:=ctrG_eq (injG Obj.o_inj _) (xs,k) ⟨h0,h1,h2⟩ rfl
theorem c71_ok:GOK Tryz.prog (71,[true],c71):=ctrG_ok fun a h=>f71_ok a.1 a.2 h.1 h.2.1 h.2.2
end Go.TM.Tryz
end
section
set_option maxHeartbeats 2000000
namespace Go.TM.Tryz
open Go Go.TM Go.Proofs
theorem f98_ok (x:Knw) (left:Int) (h:x.lim) (h0:0≤left) (h1:left≤1048576):FunOK Tryz.prog 98 [x.v,.int .i64 left] false (.int .i64 (szR x.sz left)):=by
  refine fun_ok (mkE_ok zmix (cl:=[]) (gl:=[]) [] trivial trivial) Tryz.func98 (by kernel_rfl) ?_
  refine FunW_run _ _ rfl rfl ?_
  simp only [Knw.lim,lim] at h
  obtain ⟨l0,l1⟩:=h
  have w0:IntKind.i64.wrap (left - (x.mod.size:Int))=left - (x.mod.size:Nat):=wrap64 (by omega) (by omega)
  by_cases a0:left < (x.mod.size:Nat)
  · have b0:left - ((x.mod.size:Nat):Int) < 0:=by omega
    have r:szR x.sz left=-1:=szR_lt (by simp only [Knw.sz];omega)
    simp [w0,b0,r]
  have b0:¬ left - ((x.mod.size:Nat):Int) < 0:=by omega
  have w1:IntKind.i64.wrap (left - ((x.mod.size:Nat):Int) - (x.name.size:Int))=left - ((x.mod.size:Nat):Int) - (x.name.size:Nat):=wrap64 (by omega) (by omega)
  by_cases a1:left - ((x.mod.size:Nat):Int) < (x.name.size:Nat)
  · have b1:left - ((x.mod.size:Nat):Int) - ((x.name.size:Nat):Int) < 0:=by omega
    have r:szR x.sz left=-1:=szR_lt (by simp only [Knw.sz];omega)
    simp [w0,b0,w1,b1,r]
  have b1:¬ left - ((x.mod.size:Nat):Int) - ((x.name.size:Nat):Int) < 0:=by omega
  have r:szR x.sz left=left - ((x.mod.size:Nat):Int) - ((x.name.size:Nat):Int):=(szR_ge (by simp only [Knw.sz];omega)).trans (by simp only [Knw.sz] <;> omega)
  simp [w0,b0,w1,b1,r]
noncomputable def c98:=ctr (fun a:Knw × Int=>a.1.lim∧0≤a.2∧a.2≤1048576) (fun a=>[a.1.v,.int .i64 a.2]) (fun a=>(false,.int .i64 (szR a.1.sz a.2)))
theorem c98_eq (x:Knw) (left:Int) (h:x.lim) (h0:0≤left) (h1:left≤1048576):c98 [x.v,.int .i64 left]=some (false,.int .i64 (szR x.sz left)):=ctr_eq (inj1 Knw.v_inj _) (x,left) ⟨h,h0,h1⟩ rfl
theorem c98_ok:COK Tryz.prog (98,c98):=ctr_ok fun a h=>f98_ok a.1 a.2 h.1 h.2.1 h.2.2
theorem f40_ok (xs:List Knw) (left:Int) (hlim:limL Knw.lim xs) (hl0:0≤left) (hl1:left≤1048576):FunOK Tryz.prog 40 [.lst (xs.map Knw.v),.int .i64 left] false (.int .i64 (szR (szL Knw.sz xs) left)):=by
  refine fun_ok (mkE_ok zmix (cl:=[(98,c98)]) (gl:=[]) [] c98_ok trivial) Tryz.func40 (by kernel_rfl) ?_
  refine FunW_run _ _ rfl rfl ?_
  have hlen:=hlim.1
  simp only [lim] at hlen
  have hl:=szL_len Knw.sz xs
  have w0:IntKind.i64.wrap (left - (xs.length:Int))=left - xs.length:=wrap64 (by omega) (by omega)
  by_cases a0:left < xs.length
  · have b0:left - (xs.length:Int) < 0:=by omega
    have r:szR (szL Knw.sz xs) left=-1:=szR_lt (by omega)
    simp [w0,b0,r]
  have b0:¬ left - (xs.length:Int) < 0:=by omega
  simp [w0,b0]
  refine lp_list xs (fun i t=>t.e 0=.lst (xs.map Knw.v)∧t.e 5=.int .i64 i∧t.e 1=.int .i64 (left - xs.length - pre Knw.sz xs i)∧0≤left - xs.length - pre Knw.sz xs i) ?_ ?_ ?_
  · simp [pre_zero]
    omega
  · rintro c' L hL i t x hx hi ih ⟨h0,h5,h1',hge⟩
    have hw:=wrI (i:=i) (by omega)
    have hp:=pre_succ Knw.sz hx
    have hp2:=pre_le Knw.sz xs (i + 1)
    have w:=c98_eq x (left - xs.length - pre Knw.sz xs i) (hlim.2 x (List.mem_of_getElem? hx)) (by omega) (by omega)
    simp only [Knw.v] at w
    by_cases a:left - xs.length - pre Knw.sz xs i < (Knw.sz x:Nat)
    · rw [szR_lt a] at w
      have r:szR (szL Knw.sz xs) left=-1:=szR_lt (by simp only [szL];omega)
      simp [-getElem?_pos,gcz,gcs,h0,h1',h5,hL,hx,hi,w,r]
    rw [szR_ge (Int.not_lt.1 a)] at w
    have b:¬ left - xs.length - pre Knw.sz xs i - (Knw.sz x:Nat) < 0:=by omega
    simp [-getElem?_pos,gcz,gcs,h0,h1',h5,hL,hx,hi,w,b]
    refine ih _ ?_
    simp [-getElem?_pos,gcz,gcs,h0,h1',h5,hL,hx,hi,hw,hp]
    omega
  · rintro c' t ⟨h0,h5,h1',hge⟩
    rw [pre_all] at h1' hge
    have r:szR (szL Knw.sz xs) left=left - xs.length - ((xs.map Knw.sz).sum:Nat):=by rw [szR_ge (by simp only [szL];omega)];simp only [szL];omega
    simp [h0,h5,h1',r]
noncomputable def c40:=ctr (fun a:List Knw × Int=>limL Knw.lim a.1∧0≤a.2∧a.2≤1048576) (fun a=>[.lst (a.1.map Knw.v),.int .i64 a.2]) (fun a=>(false,.int .i64 (szR (szL Knw.sz a.1) a.2)))
theorem c40_eq (xs:List Knw) (left:Int) (h:limL Knw.lim xs) (h0:0≤left) (h1:left≤1048576):c40 [.lst (xs.map Knw.v),.int .i64 left]=some (false,.int .i64 (szR (szL Knw.sz xs) left)):=ctr_eq (injl1 Knw.v_inj _) (xs,left) ⟨h,h0,h1⟩ rfl
theorem c40_ok:COK Tryz.prog (40,c40):=ctr_ok fun a h=>f40_ok a.1 a.2 h.1 h.2.1 h.2.2
end Go.TM.Tryz
end
section
set_option maxHeartbeats 4000000
namespace Go.TM.Tryz
open Go Go.TM Go.Proofs
theorem f80_ok (x:Mdl) (left:Int) (h:x.lim) (h0:0≤left) (h1:left≤1048576):FunOK Tryz.prog 80 [x.v,.int .i64 left] false (.int .i64 (szR x.sz left)):=by
  refine fun_ok (mkE_ok zmix (cl:=[(12,c12),(40,c40)]) (gl:=[]) [] ⟨c12_ok,c40_ok⟩ trivial) Tryz.func80 (by kernel_rfl) ?_
  refine FunW_run _ _ rfl rfl ?_
  obtain ⟨l0,l1⟩:=h
  have w0:=c12_eq x.scope left l0 h0 h1
  simp only [Scp.v] at w0
  by_cases a0:left < (x.scope.sz:Nat)
  · rw [szR_lt a0] at w0
    have r:szR x.sz left=-1:=szR_lt (by simp only [Mdl.sz];omega)
    simp [w0,r]
  rw [szR_ge (Int.not_lt.1 a0)] at w0
  have b0:¬ left - ((x.scope.sz:Nat):Int) < 0:=by omega
  have w1:=c40_eq x.seen (left - ((x.scope.sz:Nat):Int)) l1 (by omega) (by omega)
  by_cases a1:left - ((x.scope.sz:Nat):Int) < (szL Knw.sz x.seen:Nat)
  · rw [szR_lt a1] at w1
    have r:szR x.sz left=-1:=szR_lt (by simp only [Mdl.sz];omega)
    simp [w0,b0,w1,r]
  rw [szR_ge (Int.not_lt.1 a1)] at w1
  have b1:¬ left - ((x.scope.sz:Nat):Int) - ((szL Knw.sz x.seen:Nat):Int) < 0:=by omega
  have r:szR x.sz left=left - ((x.scope.sz:Nat):Int) - ((szL Knw.sz x.seen:Nat):Int):=(szR_ge (by simp only [Mdl.sz];omega)).trans (by simp only [Mdl.sz] <;> omega)
  simp [w0,b0,w1,b1,r]
noncomputable def c80:=ctr (fun a:Mdl × Int=>a.1.lim∧0≤a.2∧a.2≤1048576) (fun a=>[a.1.v,.int .i64 a.2]) (fun a=>(false,.int .i64 (szR a.1.sz a.2)))
theorem c80_eq (x:Mdl) (left:Int) (h:x.lim) (h0:0≤left) (h1:left≤1048576):c80 [x.v,.int .i64 left]=some (false,.int .i64 (szR x.sz left)):=ctr_eq (inj1 Mdl.v_inj _) (x,left) ⟨h,h0,h1⟩ rfl
theorem c80_ok:COK Tryz.prog (80,c80):=ctr_ok fun a h=>f80_ok a.1 a.2 h.1 h.2.1 h.2.2
theorem f21_ok (xs:List Mdl) (left:Int) (hlim:limL Mdl.lim xs) (hl0:0≤left) (hl1:left≤1048576):FunOK Tryz.prog 21 [.lst (xs.map Mdl.v),.int .i64 left] false (.int .i64 (szR (szL Mdl.sz xs) left)):=by
  refine fun_ok (mkE_ok zmix (cl:=[(80,c80)]) (gl:=[]) [] c80_ok trivial) Tryz.func21 (by kernel_rfl) ?_
  refine FunW_run _ _ rfl rfl ?_
  have hlen:=hlim.1
  simp only [lim] at hlen
  have hl:=szL_len Mdl.sz xs
  have w0:IntKind.i64.wrap (left - (xs.length:Int))=left - xs.length:=wrap64 (by omega) (by omega)
  by_cases a0:left < xs.length
  · have b0:left - (xs.length:Int) < 0:=by omega
    have r:szR (szL Mdl.sz xs) left=-1:=szR_lt (by omega)
    simp [w0,b0,r]
  have b0:¬ left - (xs.length:Int) < 0:=by omega
  simp [w0,b0]
  refine lp_list xs (fun i t=>t.e 0=.lst (xs.map Mdl.v)∧t.e 5=.int .i64 i∧t.e 1=.int .i64 (left - xs.length - pre Mdl.sz xs i)∧0≤left - xs.length - pre Mdl.sz xs i) ?_ ?_ ?_
  · simp [pre_zero]
    omega
  · rintro c' L hL i t x hx hi ih ⟨h0,h5,h1',hge⟩
    have hw:=wrI (i:=i) (by omega)
    have hp:=pre_succ Mdl.sz hx
    have hp2:=pre_le Mdl.sz xs (i + 1)
    have w:=c80_eq x (left - xs.length - pre Mdl.sz xs i) (hlim.2 x (List.mem_of_getElem? hx)) (by omega) (by omega)
    simp only [Mdl.v] at w
    by_cases a:left - xs.length - pre Mdl.sz xs i < (Mdl.sz x:Nat)
    · rw [szR_lt a] at w
      have r:szR (szL Mdl.sz xs) left=-1:=szR_lt (by simp only [szL];omega)
      simp [-getElem?_pos,gcz,gcs,h0,h1',h5,hL,hx,hi,w,r]
    rw [szR_ge (Int.not_lt.1 a)] at w
    have b:¬ left - xs.length - pre Mdl.sz xs i - (Mdl.sz x:Nat) < 0:=by omega
    simp [-getElem?_pos,gcz,gcs,h0,h1',h5,hL,hx,hi,w,b]
    refine ih _ ?_
    simp [-getElem?_pos,gcz,gcs,h0,h1',h5,hL,hx,hi,hw,hp]
    omega
  · rintro c' t ⟨h0,h5,h1',hge⟩
    rw [pre_all] at h1' hge
    have r:szR (szL Mdl.sz xs) left=left - xs.length - ((xs.map Mdl.sz).sum:Nat):=by rw [szR_ge (by simp only [szL];omega)];simp only [szL];omega
    simp [h0,h5,h1',r]
noncomputable def c21:=ctr (fun a:List Mdl × Int=>limL Mdl.lim a.1∧0≤a.2∧a.2≤1048576) (fun a=>[.lst (a.1.map Mdl.v),.int .i64 a.2]) (fun a=>(false,.int .i64 (szR (szL Mdl.sz a.1) a.2)))
theorem c21_eq (xs:List Mdl) (left:Int) (h:limL Mdl.lim xs) (h0:0≤left) (h1:left≤1048576):c21 [.lst (xs.map Mdl.v),.int .i64 left]=some (false,.int .i64 (szR (szL Mdl.sz xs) left)):=ctr_eq (injl1 Mdl.v_inj _) (xs,left) ⟨h,h0,h1⟩ rfl
theorem c21_ok:COK Tryz.prog (21,c21):=ctr_ok fun a h=>f21_ok a.1 a.2 h.1 h.2.1 h.2.2
end Go.TM.Tryz
end
section
set_option maxHeartbeats 8000000
set_option maxRecDepth 20000
namespace Go.TM.Tryz
open Go Go.TM Go.Proofs
def mdsL (xs:List Mdl):List Scp:=xs.map Mdl.scope
@[simp] theorem mdsL_len (xs:List Mdl):(mdsL xs).length=xs.length:=List.length_map _
theorem mdsL_succ {xs:List Mdl} {i:Nat} {x:Mdl} (h:xs[i]?=some x):mdsL (xs.take (i + 1))=mdsL (xs.take i) ++ [x.scope]:=by
  simp [mdsL,List.take_add_one,h]
@[simp] theorem mdsL_nil:mdsL []=[]:=rfl
theorem mdsL_lim {xs:List Mdl} (h:limL Mdl.lim xs):limL Scp.lim (mdsL xs):=by
  refine ⟨by simpa using h.1,fun s hs=>?_⟩
  obtain ⟨x,hx,rfl⟩:=List.mem_map.1 hs
  exact (h.2 x hx).1
theorem scLen_of {s:Scp} (h:s.sz≤1048576):ScLen s:=by
  simp only [Scp.sz] at h
  have h1:=szL_len ByteArray.size s.imports
  have h2:=szL_len Ty.sz s.types
  have h3:=szL_len Obj.sz s.objects
  have h4:=szL_len Use.sz s.uses
  refine ⟨by omega,⟨by omega,fun t ht=>?_⟩,by omega,fun o ho=>?_,by omega⟩
  · have h5:=szL_mem (f:=Ty.sz) ht
    have h6:=szL_len Fld.sz t.fields
    simp only [Ty.sz] at h5
    omega
  · have h5:=szL_mem (f:=Obj.sz) ho
    have h6:=szL_len Par.sz o.params
    simp only [Obj.sz] at h5
    omega
noncomputable def c153:=ctr (fun s:Scp=>ScLen s) (fun s=>[s.v]) (fun s=>(false,s.o))
theorem c153_eq (s:Scp) (h:ScLen s):c153 [s.v]=some (false,s.o):=ctr_eq (inj0 Scp.v_inj _) s h rfl
theorem c153_ok:COK Tryz.prog (153,c153):=ctr_ok fun s h=>f153_ok s h
structure MdsLen (xs:List Mdl):Prop where
  len:xs.length≤1048576
  sc:∀ x ∈ xs,ScLen x.scope
  sn:∀ x ∈ xs,x.seen.length≤1048576
theorem mdsLen_of {xs:List Mdl} (h:szL Mdl.sz xs≤1048576):MdsLen xs:=by
  have h1:=szL_len Mdl.sz xs
  refine ⟨by omega,fun x hx=>scLen_of ?_,fun x hx=>?_⟩
  · have h2:=szL_mem (f:=Mdl.sz) hx
    simp only [Mdl.sz] at h h2
    omega
  · have h2:=szL_mem (f:=Mdl.sz) hx
    have h3:=szL_len Knw.sz x.seen
    simp only [Mdl.sz] at h h2
    omega
theorem f82_ok (xs:List Mdl) (h:MdsLen xs):FunOK Tryz.prog 82 [.lst (xs.map Mdl.v)] false (.inl 5 ((mdsL xs).map Scp.o)):=by
  refine fun_ok (mkE_ok zmix (cl:=[(153,c153)]) (gl:=[]) [] c153_ok trivial) Tryz.func82 (by kernel_rfl) ?_
  refine FunW_run _ _ rfl rfl ?_
  have hlen:=h.len
  simp
  refine lp_list xs (fun i t=>t.e 6=.lst (xs.map Mdl.v)∧t.e 7=.int .i64 xs.length∧t.e 8=.int .i64 i∧∃ p,t.e 3=.own p∧p < t.nt∧t.R p=some ⟨5,(mdsL (xs.take i)).map Scp.o,true⟩) ?_ ?_ ?_
  · simp
  · rintro c' L hL i t x hx hi ih ⟨h6,h7,h8,p,h3,hp,hR⟩
    have hw:=wrI (i:=i) (by omega)
    have e153:=c153_eq x.scope (h.sc x (List.mem_of_getElem? hx))
    simp only [Scp.v,Scp.o] at e153
    have n1:¬ p=t.nt:=by omega
    have n2:¬ p=t.nt + 1:=by omega
    have n3:¬ p=t.nt + 1 + 1:=by omega
    have n4:¬ p=t.nt + 1 + 1 + 1:=by omega
    have n5:¬ p=t.nt + 1 + 1 + 1 + 1:=by omega
    have n6:¬ p=t.nt + 1 + 1 + 1 + 1 + 1:=by omega
    have n7:¬ p=t.nt + 1 + 1 + 1 + 1 + 1 + 1:=by omega
    have n8:¬ p=t.nt + 1 + 1 + 1 + 1 + 1 + 1 + 1:=by omega
    have n9:¬ p=t.nt + 1 + 1 + 1 + 1 + 1 + 1 + 1 + 1:=by omega
    have n10:¬ p=t.nt + 1 + 1 + 1 + 1 + 1 + 1 + 1 + 1 + 1:=by omega
    have hmin:min i xs.length=i:=by omega
    have hr:=roomSc (n:=i + 1) (by omega)
    simp [-getElem?_pos,gcz,gcs,h6,h7,h8,h3,hR,hL,hi,hx,e153,n1,n2,n3,n4,n5,n6,n7,n8,n9,n10,hr,hmin]
    refine ih _ ?_
    simp [h6,h7,h8,h3,hR,hw,n1,n2,n3,n4,n5,n6,n7,n8,n9,n10,mdsL_succ hx]
  · rintro c' t ⟨h6,h7,h8,p,h3,hp,hR⟩
    rw [List.take_length] at hR
    simp [h6,h7,h8,h3,hR]
theorem f85_ok (xs:List Mdl) (h:MdsLen xs):FunOK Tryz.prog 85 [.lst (xs.map Mdl.v)] true (.inl 5 ((mdsL xs).map Scp.v)):=by
  refine fun_ok (mkE_ok zmix (cl:=[]) (gl:=[]) [] trivial trivial) Tryz.func85 (by kernel_rfl) ?_
  refine FunW_run _ _ rfl rfl ?_
  have hlen:=h.len
  simp
  refine lp_list xs (fun i t=>t.e 7=.lst (xs.map Mdl.v)∧t.e 8=.int .i64 xs.length∧t.e 9=.int .i64 i∧∃ p,t.e 3=.own p∧p < t.nt∧t.R p=some ⟨5,(mdsL (xs.take i)).map Scp.v,true⟩) ?_ ?_ ?_
  · simp
  · rintro c' L hL i t x hx hi ih ⟨h7,h8,h9,p,h3,hp,hR⟩
    have hw:=wrI (i:=i) (by omega)
    have n1:¬ p=t.nt:=by omega
    have n2:¬ p=t.nt + 1:=by omega
    have n3:¬ p=t.nt + 1 + 1:=by omega
    have n4:¬ p=t.nt + 1 + 1 + 1:=by omega
    have n5:¬ p=t.nt + 1 + 1 + 1 + 1:=by omega
    have n6:¬ p=t.nt + 1 + 1 + 1 + 1 + 1:=by omega
    have hmin:min i xs.length=i:=by omega
    have hr:=roomSc (n:=i + 1) (by omega)
    simp [-getElem?_pos,gcz,gcs,h7,h8,h9,h3,hR,hL,hi,hx,n1,n2,n3,n4,n5,n6,hr,hmin]
    refine ih _ ?_
    simp [h7,h8,h9,h3,hR,hw,n1,n2,n3,n4,n5,n6,mdsL_succ hx]
  · rintro c' t ⟨h7,h8,h9,p,h3,hp,hR⟩
    rw [List.take_length] at hR
    simp [h7,h8,h9,h3,hR]
noncomputable def c82:=ctr (fun xs:List Mdl=>MdsLen xs) (fun xs=>[.lst (xs.map Mdl.v)]) (fun xs=>(false,.inl 5 ((mdsL xs).map Scp.o)))
theorem c82_eq (xs:List Mdl) (h:MdsLen xs):c82 [.lst (xs.map Mdl.v)]=some (false,.inl 5 ((mdsL xs).map Scp.o)):=ctr_eq (injl Mdl.v_inj _) xs h rfl
theorem c82_ok:COK Tryz.prog (82,c82):=ctr_ok fun xs h=>f82_ok xs h
noncomputable def c85:=ctr (fun xs:List Mdl=>MdsLen xs) (fun xs=>[.lst (xs.map Mdl.v)]) (fun xs=>(true,.inl 5 ((mdsL xs).map Scp.v)))
theorem c85_eq (xs:List Mdl) (h:MdsLen xs):c85 [.lst (xs.map Mdl.v)]=some (true,.inl 5 ((mdsL xs).map Scp.v)):=ctr_eq (injl Mdl.v_inj _) xs h rfl
theorem c85_ok:COK Tryz.prog (85,c85):=ctr_ok fun xs h=>f85_ok xs h
end Go.TM.Tryz
end
section
set_option maxHeartbeats 16000000
set_option maxRecDepth 20000
namespace Go.TM.Tryz
open Go Go.TM Go.Proofs
attribute [local simp] nkl2 nkr2 nkl3 nkr3 nkl4 nkr4 nkl5 nkr5 nkl6 nkr6 nkl7 nkr7 nkl8 nkr8 nkl9 nkr9 nkl10 nkr10 nkl11 nkr11 nkl12 nkr12 nkl13 nkr13
def tree90:TT:=.three false 1 (.three false 2 (.three false 3 (.two false 4 (.one false 5 (.one false 6 (.one false 7 (.one false 8 (.one false 9 (.one false 10 (.one false 11 .done))))))) false 5 (.two false 4 (.one false 6 (.one false 7 (.one false 8 (.one false 9 (.one false 10 (.one false 11 .done)))))) false 6 (.one false 4 (.one false 7 (.one false 8 (.one false 9 (.one false 10 (.one false 11 .done)))))))) false 4 (.two false 3 (.one false 5 (.one false 6 (.one false 7 (.one false 8 (.one false 9 (.one false 10 (.one false 11 .done))))))) false 5 (.two false 3 (.one false 6 (.one false 7 (.one false 8 (.one false 9 (.one false 10 (.one false 11 .done)))))) false 6 (.one false 3 (.one false 7 (.one false 8 (.one false 9 (.one false 10 (.one false 11 .done)))))))) false 5 (.three false 3 (.two false 4 (.one false 6 (.one false 7 (.one false 8 (.one false 9 (.one false 10 (.one false 11 .done)))))) false 6 (.one false 4 (.one false 7 (.one false 8 (.one false 9 (.one false 10 (.one false 11 .done))))))) false 4 (.two false 3 (.one false 6 (.one false 7 (.one false 8 (.one false 9 (.one false 10 (.one false 11 .done)))))) false 6 (.one false 3 (.one false 7 (.one false 8 (.one false 9 (.one false 10 (.one false 11 .done))))))) false 6 (.two false 3 (.one false 4 (.one false 7 (.one false 8 (.one false 9 (.one false 10 (.one false 11 .done)))))) false 4 (.one false 3 (.one false 7 (.one false 8 (.one false 9 (.one false 10 (.one false 11 .done))))))))) false 4 (.two false 2 (.two false 3 (.one false 5 (.one false 6 (.one false 7 (.one false 8 (.one false 9 (.one false 10 (.one false 11 .done))))))) false 5 (.two false 3 (.one false 6 (.one false 7 (.one false 8 (.one false 9 (.one false 10 (.one false 11 .done)))))) false 6 (.one false 3 (.one false 7 (.one false 8 (.one false 9 (.one false 10 (.one false 11 .done)))))))) false 5 (.two false 2 (.two false 3 (.one false 6 (.one false 7 (.one false 8 (.one false 9 (.one false 10 (.one false 11 .done)))))) false 6 (.one false 3 (.one false 7 (.one false 8 (.one false 9 (.one false 10 (.one false 11 .done))))))) false 6 (.one false 2 (.one false 3 (.one false 7 (.one false 8 (.one false 9 (.one false 10 (.one false 11 .done))))))))) false 5 (.three false 2 (.three false 3 (.two false 4 (.one false 6 (.one false 7 (.one false 8 (.one false 9 (.one false 10 (.one false 11 .done)))))) false 6 (.one false 4 (.one false 7 (.one false 8 (.one false 9 (.one false 10 (.one false 11 .done))))))) false 4 (.two false 3 (.one false 6 (.one false 7 (.one false 8 (.one false 9 (.one false 10 (.one false 11 .done)))))) false 6 (.one false 3 (.one false 7 (.one false 8 (.one false 9 (.one false 10 (.one false 11 .done))))))) false 6 (.two false 3 (.one false 4 (.one false 7 (.one false 8 (.one false 9 (.one false 10 (.one false 11 .done)))))) false 4 (.one false 3 (.one false 7 (.one false 8 (.one false 9 (.one false 10 (.one false 11 .done)))))))) false 4 (.two false 2 (.two false 3 (.one false 6 (.one false 7 (.one false 8 (.one false 9 (.one false 10 (.one false 11 .done)))))) false 6 (.one false 3 (.one false 7 (.one false 8 (.one false 9 (.one false 10 (.one false 11 .done))))))) false 6 (.one false 2 (.one false 3 (.one false 7 (.one false 8 (.one false 9 (.one false 10 (.one false 11 .done)))))))) false 6 (.two false 2 (.two false 3 (.one false 4 (.one false 7 (.one false 8 (.one false 9 (.one false 10 (.one false 11 .done)))))) false 4 (.one false 3 (.one false 7 (.one false 8 (.one false 9 (.one false 10 (.one false 11 .done))))))) false 4 (.one false 2 (.one false 3 (.one false 7 (.one false 8 (.one false 9 (.one false 10 (.one false 11 .done)))))))))) false 4 (.two false 1 (.two false 2 (.two false 3 (.one false 5 (.one false 6 (.one false 7 (.one false 8 (.one false 9 (.one false 10 (.one false 11 .done))))))) false 5 (.two false 3 (.one false 6 (.one false 7 (.one false 8 (.one false 9 (.one false 10 (.one false 11 .done)))))) false 6 (.one false 3 (.one false 7 (.one false 8 (.one false 9 (.one false 10 (.one false 11 .done)))))))) false 5 (.two false 2 (.two false 3 (.one false 6 (.one false 7 (.one false 8 (.one false 9 (.one false 10 (.one false 11 .done)))))) false 6 (.one false 3 (.one false 7 (.one false 8 (.one false 9 (.one false 10 (.one false 11 .done))))))) false 6 (.one false 2 (.one false 3 (.one false 7 (.one false 8 (.one false 9 (.one false 10 (.one false 11 .done))))))))) false 5 (.two false 1 (.two false 2 (.two false 3 (.one false 6 (.one false 7 (.one false 8 (.one false 9 (.one false 10 (.one false 11 .done)))))) false 6 (.one false 3 (.one false 7 (.one false 8 (.one false 9 (.one false 10 (.one false 11 .done))))))) false 6 (.one false 2 (.one false 3 (.one false 7 (.one false 8 (.one false 9 (.one false 10 (.one false 11 .done)))))))) false 6 (.one false 1 (.one false 2 (.one false 3 (.one false 7 (.one false 8 (.one false 9 (.one false 10 (.one false 11 .done)))))))))) false 5 (.three false 1 (.three false 2 (.three false 3 (.two false 4 (.one false 6 (.one false 7 (.one false 8 (.one false 9 (.one false 10 (.one false 11 .done)))))) false 6 (.one false 4 (.one false 7 (.one false 8 (.one false 9 (.one false 10 (.one false 11 .done))))))) false 4 (.two false 3 (.one false 6 (.one false 7 (.one false 8 (.one false 9 (.one false 10 (.one false 11 .done)))))) false 6 (.one false 3 (.one false 7 (.one false 8 (.one false 9 (.one false 10 (.one false 11 .done))))))) false 6 (.two false 3 (.one false 4 (.one false 7 (.one false 8 (.one false 9 (.one false 10 (.one false 11 .done)))))) false 4 (.one false 3 (.one false 7 (.one false 8 (.one false 9 (.one false 10 (.one false 11 .done)))))))) false 4 (.two false 2 (.two false 3 (.one false 6 (.one false 7 (.one false 8 (.one false 9 (.one false 10 (.one false 11 .done)))))) false 6 (.one false 3 (.one false 7 (.one false 8 (.one false 9 (.one false 10 (.one false 11 .done))))))) false 6 (.one false 2 (.one false 3 (.one false 7 (.one false 8 (.one false 9 (.one false 10 (.one false 11 .done)))))))) false 6 (.two false 2 (.two false 3 (.one false 4 (.one false 7 (.one false 8 (.one false 9 (.one false 10 (.one false 11 .done)))))) false 4 (.one false 3 (.one false 7 (.one false 8 (.one false 9 (.one false 10 (.one false 11 .done))))))) false 4 (.one false 2 (.one false 3 (.one false 7 (.one false 8 (.one false 9 (.one false 10 (.one false 11 .done))))))))) false 4 (.two false 1 (.two false 2 (.two false 3 (.one false 6 (.one false 7 (.one false 8 (.one false 9 (.one false 10 (.one false 11 .done)))))) false 6 (.one false 3 (.one false 7 (.one false 8 (.one false 9 (.one false 10 (.one false 11 .done))))))) false 6 (.one false 2 (.one false 3 (.one false 7 (.one false 8 (.one false 9 (.one false 10 (.one false 11 .done)))))))) false 6 (.one false 1 (.one false 2 (.one false 3 (.one false 7 (.one false 8 (.one false 9 (.one false 10 (.one false 11 .done))))))))) false 6 (.two false 1 (.two false 2 (.two false 3 (.one false 4 (.one false 7 (.one false 8 (.one false 9 (.one false 10 (.one false 11 .done)))))) false 4 (.one false 3 (.one false 7 (.one false 8 (.one false 9 (.one false 10 (.one false 11 .done))))))) false 4 (.one false 2 (.one false 3 (.one false 7 (.one false 8 (.one false 9 (.one false 10 (.one false 11 .done)))))))) false 4 (.one false 1 (.one false 2 (.one false 3 (.one false 7 (.one false 8 (.one false 9 (.one false 10 (.one false 11 .done))))))))))
def cut90:Pl:=⟨[0],[],[],[1,2,3,4,5,6,7,8,9,10,11],tree90⟩
theorem cut90_run {E:Env} (pl:Option (List (Nat × Bool))) (ops:Array Oper) (k:List Fr) (Q:X→S→Prop) (s:S):aftE (some cut90) pl ops k E Q s=preK E ops k Q tree90 [(0,false)] s:=rfl
theorem f90_ok (xs:List Mdl) (h:MdsLen xs):FunOK Tryz.prog 90 [.lst (xs.map Mdl.v)] false (.inl 6 (xs.map Mdl.o)):=by
  refine fun_ok (mkE2_ok zmix (cl:=[(153,c153)]) (gl:=[]) [] [(5,cut90)] c153_ok trivial) Tryz.func90 (by kernel_rfl) ?_
  refine FunW_run _ _ rfl rfl ?_
  have hlen:=h.len
  simp
  refine lp_list xs (fun i t=>t.e 6=.lst (xs.map Mdl.v)∧t.e 7=.int .i64 xs.length∧t.e 8=.int .i64 i∧∃ p,t.e 3=.own p∧p < t.nt∧t.R p=some ⟨6,(xs.take i).map Mdl.o,true⟩) ?_ ?_ ?_
  · simp
  · rintro c' L hL i t x hx hi ih ⟨h7,h8,h9,p,h3,hp,hR⟩
    have hw:=wrI (i:=i) (by omega)
    have hxm:=List.mem_of_getElem? hx
    have e153:=c153_eq x.scope (h.sc x hxm)
    have hrk:=roomKs (h.sn x hxm)
    simp only [Scp.v,Scp.o] at e153
    have hmin:min i xs.length=i:=by omega
    have hr:=roomMd (n:=i + 1) (by omega)
    have n1:¬ p=t.nt:=by omega
    have n2:¬ p=t.nt + 1:=by omega
    have n3:¬ p=t.nt + 1 + 1:=by omega
    have n4:¬ p=t.nt + 1 + 1 + 1:=by omega
    have n5:¬ p=t.nt + 1 + 1 + 1 + 1:=by omega
    have n6:¬ p=t.nt + 1 + 1 + 1 + 1 + 1:=by omega
    have n7:¬ p=t.nt + 1 + 1 + 1 + 1 + 1 + 1:=by omega
    have n8:¬ p=t.nt + 1 + 1 + 1 + 1 + 1 + 1 + 1:=by omega
    have n9:¬ p=t.nt + 1 + 1 + 1 + 1 + 1 + 1 + 1 + 1:=by omega
    have n10:¬ p=t.nt + 1 + 1 + 1 + 1 + 1 + 1 + 1 + 1 + 1:=by omega
    have n11:¬ p=t.nt + 1 + 1 + 1 + 1 + 1 + 1 + 1 + 1 + 1 + 1:=by omega
    have n12:¬ p=t.nt + 1 + 1 + 1 + 1 + 1 + 1 + 1 + 1 + 1 + 1 + 1:=by omega
    have n13:¬ p=t.nt + 1 + 1 + 1 + 1 + 1 + 1 + 1 + 1 + 1 + 1 + 1 + 1:=by omega
    have n14:¬ p=t.nt + 1 + 1 + 1 + 1 + 1 + 1 + 1 + 1 + 1 + 1 + 1 + 1 + 1:=by omega
    have n15:¬ p=t.nt + 1 + 1 + 1 + 1 + 1 + 1 + 1 + 1 + 1 + 1 + 1 + 1 + 1 + 1:=by omega
    simp (maxSteps:=10000000) [-getElem?_pos,gcz,gcs,h7,h8,h9,h3,hR,hL,hi,hx,e153,hrk,vwE_knw,n1,n2,n3,n4,n5,n6,n7,n8,n9,n10,n11,n12,n13,n14,n15,hr,hmin,-aftE_some,cut90_run,tree90,pureOp]
    repeat' apply And.intro
    all_goals
      refine ih _ ?_
      simp [h7,h8,h9,h3,hR,hw,n1,n2,n3,n4,n5,n6,n7,n8,n9,n10,n11,n12,n13,n14,n15,List.take_add_one,hx]
  · rintro c' t ⟨h7,h8,h9,p,h3,hp,hR⟩
    rw [List.take_length] at hR
    simp [h7,h8,h9,h3,hR]
noncomputable def c90:=ctr (fun xs:List Mdl=>MdsLen xs) (fun xs=>[.lst (xs.map Mdl.v)]) (fun xs=>(false,.inl 6 (xs.map Mdl.o)))
theorem c90_eq (xs:List Mdl) (h:MdsLen xs):c90 [.lst (xs.map Mdl.v)]=some (false,.inl 6 (xs.map Mdl.o)):=ctr_eq (injl Mdl.v_inj _) xs h rfl
theorem c90_ok:COK Tryz.prog (90,c90):=ctr_ok fun xs h=>f90_ok xs h
end Go.TM.Tryz
end
section
set_option maxHeartbeats 8000000
set_option maxRecDepth 20000
namespace Go.TM.Tryz
open Go Go.TM Go.Proofs
def offSeen (x:Mdl):Bool:=!knwsB x.seen
noncomputable def goodB (xs:List Mdl):Bool:=modsB (mdsL xs) && !xs.any offSeen
theorem good_mods {xs:List Mdl} (h:goodB xs=true):modsB (mdsL xs)=true:=by
  simp only [goodB,Bool.and_eq_true] at h
  exact h.1
theorem f155_ok (x:Mdl) (h:x.lim):FunOK Tryz.prog 155 [x.v] false (.bool (offSeen x)):=by
  refine fun_ok (mkE_ok zmix (cl:=[(102,c102)]) (gl:=[]) [] c102_ok trivial) Tryz.func155 (by kernel_rfl) ?_
  refine FunW_run _ _ rfl rfl ?_
  have e:=c102_eq x.seen h.2
  simp [e,offSeen]
noncomputable def c155:=ctr (fun x:Mdl=>x.lim) (fun x=>[x.v]) (fun x=>(false,.bool (offSeen x)))
theorem c155_eq (x:Mdl) (h:x.lim):c155 [x.v]=some (false,.bool (offSeen x)):=ctr_eq (inj0 Mdl.v_inj _) x h rfl
theorem c155_ok:COK Tryz.prog (155,c155):=ctr_ok fun x h=>f155_ok x h
theorem f200_ok (l:List Mdl) (hl:limL Mdl.lim l):FunOK Tryz.prog 200 [.lst (l.map Mdl.v),.fn 155 []] false (.int .i64 (fstI offSeen l)):=by
  refine fun_ok (mkE_ok zmix (cl:=[(155,c155)]) (gl:=[]) [] c155_ok trivial) Tryz.func200 (by kernel_rfl) ?_
  refine FunW_run _ _ rfl rfl ?_
  have hll:=hl.1
  simp only [lim] at hll
  simp
  refine lp_list l (fun i t=>t.e 1=.fn 155 []∧t.e 0=.lst (l.map Mdl.v)∧t.e 7=.int .i64 l.length∧t.e 8=.int .i64 i∧anyI offSeen l i=false) ?_ ?_ ?_
  · simp
  · rintro c' L hL i t x hx hi ih ⟨h1,h7,h8,h9,hall⟩
    have hw:=wrI (i:=i) (by omega)
    have e:=c155_eq x (hl.2 x (List.mem_of_getElem? hx))
    simp only [Mdl.v] at e
    simp [-getElem?_pos,List.getElem?_cons_zero,h1,h7,h8,h9,hL,hi,hx,e]
    split
    · rename_i hc
      exact (fst_yes hx hc hall).symm
    · rename_i hc
      refine ih _ ?_
      simp [h1,h7,h8,h9,hw,anyI_succ hx,hall,hc]
  · rintro c' t ⟨h1,h7,h8,h9,hall⟩
    simp [h1,h7,h8,h9,fst_no hall]
theorem inj200 {β:Type} (out:List Mdl→β):∀ a b:List Mdl,[V.lst (a.map Mdl.v),.fn 155 []]=[V.lst (b.map Mdl.v),.fn 155 []]→out a=out b:=by
  intro a b h
  simp only [List.cons.injEq,and_true,V.lst.injEq] at h
  rw [map_inj Mdl.v_inj h]
noncomputable def c200:=ctr (fun l:List Mdl=>limL Mdl.lim l) (fun l=>[.lst (l.map Mdl.v),.fn 155 []]) (fun l=>(false,.int .i64 (fstI offSeen l)))
theorem c200_eq (l:List Mdl) (h:limL Mdl.lim l):c200 [.lst (l.map Mdl.v),.fn 155 []]=some (false,.int .i64 (fstI offSeen l)):=ctr_eq (inj200 _) l h rfl
theorem c200_ok:COK Tryz.prog (200,c200):=ctr_ok fun l h=>f200_ok l h
theorem f154_ok (l:List Mdl) (hl:limL Mdl.lim l):FunOK Tryz.prog 154 [.lst (l.map Mdl.v),.fn 155 []] false (.bool (l.any offSeen)):=by
  refine fun_ok (mkE_ok zmix (cl:=[(200,c200)]) (gl:=[]) [] c200_ok trivial) Tryz.func154 (by kernel_rfl) ?_
  refine FunW_run _ _ rfl rfl ?_
  have e:=c200_eq l hl
  simp [e,fst_ge]
noncomputable def c154:=ctr (fun l:List Mdl=>limL Mdl.lim l) (fun l=>[.lst (l.map Mdl.v),.fn 155 []]) (fun l=>(false,.bool (l.any offSeen)))
theorem c154_eq (l:List Mdl) (h:limL Mdl.lim l):c154 [.lst (l.map Mdl.v),.fn 155 []]=some (false,.bool (l.any offSeen)):=ctr_eq (inj200 _) l h rfl
theorem c154_ok:COK Tryz.prog (154,c154):=ctr_ok fun l h=>f154_ok l h
structure StOK (xs:List Mdl):Prop where
  lim:limL Mdl.lim xs
  len:MdsLen xs
theorem f84_ok (xs:List Mdl) (h:StOK xs):FunOK Tryz.prog 84 [.lst (xs.map Mdl.v)] false (.bool (goodB xs)):=by
  refine fun_ok (mkE_ok zmix (cl:=[(85,c85),(95,c95),(154,c154)]) (gl:=[]) [] ⟨c85_ok,c95_ok,c154_ok⟩ trivial) Tryz.func84 (by kernel_rfl) ?_
  refine FunW_run _ _ rfl rfl ?_
  have e85:=c85_eq xs h.len
  have e95:=c95_eq (mdsL xs) (mdsL_lim h.lim)
  have e154:=c154_eq xs h.lim
  cases hm:modsB (mdsL xs) with
  | false =>
    rw [hm] at e95
    simp [e85,e95,e154,goodB,hm]
  | true =>
    rw [hm] at e95
    simp [e85,e95,e154,goodB,hm]
noncomputable def c84:=ctr (fun xs:List Mdl=>StOK xs) (fun xs=>[.lst (xs.map Mdl.v)]) (fun xs=>(false,.bool (goodB xs)))
theorem c84_eq (xs:List Mdl) (h:StOK xs):c84 [.lst (xs.map Mdl.v)]=some (false,.bool (goodB xs)):=ctr_eq (injl Mdl.v_inj _) xs h rfl
theorem c84_ok:COK Tryz.prog (84,c84):=ctr_ok fun xs h=>f84_ok xs h
theorem f81_ok (xs:List Mdl) (h:StOK xs):FunOK Tryz.prog 81 [.lst (xs.map Mdl.v)] false (.bool (goodB xs)):=by
  refine fun_ok (mkE_ok zmix (cl:=[(82,c82),(93,c93),(99,c99)]) (gl:=[]) [] ⟨c82_ok,c93_ok,c99_ok⟩ trivial) Tryz.func81 (by kernel_rfl) ?_
  refine FunW_run _ _ rfl rfl ?_
  have hlen:=h.len.len
  have e82:=c82_eq xs h.len
  have e93:=c93_eq (mdsL xs) (mdsL_lim h.lim)
  simp
  refine lp_list xs (fun i t=>t.e 0=.lst (xs.map Mdl.v)∧t.e 5=.lst (xs.map Mdl.v)∧t.e 6=.int .i64 xs.length∧t.e 7=.int .i64 i∧anyI offSeen xs i=false) ?_ ?_ ?_
  · simp
  · rintro c' L hL i t x hx hi ih ⟨h0,h5,h6,h7,hall⟩
    have hw:=wrI (i:=i) (by omega)
    have hxm:=List.mem_of_getElem? hx
    have e99:=c99_eq x.seen (h.lim.2 x hxm).2
    cases hk:knwsB x.seen with
    | false =>
      rw [hk] at e99
      have hb:goodB xs=false:=by
        have:xs.any offSeen=true:=List.any_eq_true.2 ⟨x,hxm,by simp [offSeen,hk]⟩
        simp [goodB,this]
      simp [-getElem?_pos,gcz,gcs,h0,h5,h6,h7,hL,hi,hx,e99,hb]
    | true =>
      rw [hk] at e99
      have ho:offSeen x=false:=by simp [offSeen,hk]
      simp [-getElem?_pos,gcz,gcs,h0,h5,h6,h7,hL,hi,hx,e99]
      refine ih _ ?_
      simp [h0,h5,h6,h7,hw,anyI_succ hx,hall,ho]
  · rintro c' t ⟨h0,h5,h6,h7,hall⟩
    rw [anyI_all] at hall
    simp [h0,h5,h6,h7,e82,e93,goodB,hall]
noncomputable def c81:=ctr (fun xs:List Mdl=>StOK xs) (fun xs=>[.lst (xs.map Mdl.v)]) (fun xs=>(false,.bool (goodB xs)))
theorem c81_eq (xs:List Mdl) (h:StOK xs):c81 [.lst (xs.map Mdl.v)]=some (false,.bool (goodB xs)):=ctr_eq (injl Mdl.v_inj _) xs h rfl
theorem c81_ok:COK Tryz.prog (81,c81):=ctr_ok fun xs h=>f81_ok xs h
end Go.TM.Tryz
end
section
set_option maxHeartbeats 8000000
set_option maxRecDepth 20000
namespace Go.TM.Tryz
open Go Go.TM Go.Proofs
theorem injMn {β:Type} (out:List Mdl × ByteArray→β):∀ a b:List Mdl × ByteArray,[V.lst (a.1.map Mdl.v),.str a.2]=[V.lst (b.1.map Mdl.v),.str b.2]→out a=out b:=by
  rintro ⟨a,c⟩ ⟨b,d⟩ h
  simp only [List.cons.injEq,and_true,V.lst.injEq,V.str.injEq] at h
  rw [map_inj Mdl.v_inj h.1,h.2]
noncomputable def c89:=ctr (fun a:List Mdl × ByteArray=>a.1.length≤lim) (fun a=>[.lst (a.1.map Mdl.v),.str a.2]) (fun a=>(false,.int .i64 (fstI (nameIs a.2) (mdsL a.1))))
end Go.TM.Tryz
end
