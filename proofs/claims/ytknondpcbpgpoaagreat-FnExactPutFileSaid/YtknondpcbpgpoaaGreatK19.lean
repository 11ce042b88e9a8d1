/- A part of the proof: IJ, IK, IO, IP, IQ, IR. -/
import Derived.Test.YtknondpcbpgpoaaGreatK18
set_option linter.unusedVariables false
set_option linter.unusedSimpArgs false
section
set_option maxHeartbeats 8000000
set_option maxRecDepth 20000
namespace Go.TM.Tryz
open Go Go.TM Go.Proofs
end Go.TM.Tryz
end
section
set_option maxHeartbeats 8000000
set_option maxRecDepth 20000
namespace Go.TM.Tryz
open Go Go.TM Go.Proofs
theorem fst_at {α:Type} {p:α→Bool} {xs:List α} (h:¬ fstI p xs < 0):∃ x,xs[(fstI p xs).toNat]?=some x∧0≤fstI p xs∧fstI p xs < xs.length:=by
  unfold fstI at *
  by_cases ha:xs.any p=true
  · rw [if_pos ha]
    have hlt:xs.findIdx p < xs.length:=by
      rw [List.findIdx_lt_length]
      obtain ⟨x,hx,hp⟩:=List.any_eq_true.1 ha
      exact ⟨x,hx,hp⟩
    exact ⟨_,List.getElem?_eq_getElem (by simpa using hlt),by omega,by simpa using hlt⟩
  · rw [if_neg ha] at h
    omega
end Go.TM.Tryz
end
section
set_option maxHeartbeats 8000000
set_option maxRecDepth 20000
namespace Go.TM.Tryz
open Go Go.TM Go.Proofs
end Go.TM.Tryz
end
section
set_option maxHeartbeats 8000000
set_option maxRecDepth 20000
namespace Go.TM.Tryz
open Go Go.TM Go.Proofs
def sameK2 (p q:Knw):Bool:=decide (q.mod=p.mod) && decide (q.name=p.name)
theorem f164_ok (q:Knw) (p:Knw):FunOK Tryz.prog 164 [q.v,.ladr [p.v] 0 0] false (.bool (sameK2 p q)):=by
  refine fun_ok (mkE_ok zmix (cl:=[]) (gl:=[]) [] trivial trivial) Tryz.func164 (by kernel_rfl) ?_
  refine FunW_run _ _ rfl rfl ?_
  simp [sameK2]
theorem inj164 {β:Type} (out:Knw × Knw→β):∀ a b:Knw × Knw,[a.1.v,V.ladr [a.2.v] 0 0]=[b.1.v,.ladr [b.2.v] 0 0]→out a=out b:=by
  rintro ⟨a,c⟩ ⟨b,d⟩ h
  simp only [List.cons.injEq,and_true,V.ladr.injEq] at h
  rw [Knw.v_inj h.1,Knw.v_inj h.2]
noncomputable def c164:=ctr (fun _:Knw × Knw=>True) (fun a=>[a.1.v,.ladr [a.2.v] 0 0]) (fun a=>(false,.bool (sameK2 a.2 a.1)))
theorem c164_eq (q:Knw) (p:Knw):c164 [q.v,.ladr [p.v] 0 0]=some (false,.bool (sameK2 p q)):=ctr_eq (inj164 _) (q,p) trivial rfl
theorem c164_ok:COK Tryz.prog (164,c164):=ctr_ok fun a h=>f164_ok a.1 a.2
theorem f207_ok (l:List Knw) (p:Knw) (hl:l.length≤lim):FunOK Tryz.prog 207 [.lst (l.map Knw.v),.fn 164 [.ladr [p.v] 0 0]] false (.int .i64 (fstI (sameK2 p) l)):=by
  refine fun_ok (mkE_ok zmix (cl:=[(164,c164)]) (gl:=[]) [] c164_ok trivial) Tryz.func207 (by kernel_rfl) ?_
  refine FunW_run _ _ rfl rfl ?_
  simp only [lim] at hl
  simp
  refine lp_list l (fun i t=>t.e 1=.fn 164 [.ladr [p.v] 0 0]∧t.e 0=.lst (l.map Knw.v)∧t.e 7=.int .i64 l.length∧t.e 8=.int .i64 i∧anyI (sameK2 p) l i=false) ?_ ?_ ?_
  · simp
  · rintro c' L hL i t x hx hi ih ⟨h1,h7,h8,h9,hall⟩
    have hw:=wrI (i:=i) (by omega)
    have e:=c164_eq x p
    simp only [Knw.v] at e h1
    simp [-getElem?_pos,List.getElem?_cons_zero,h1,h7,h8,h9,hL,hi,hx,e]
    split
    · rename_i hc
      exact (fst_yes hx hc hall).symm
    · rename_i hc
      refine ih _ ?_
      simp [h1,h7,h8,h9,hw,anyI_succ hx,hall,hc]
  · rintro c' t ⟨h1,h7,h8,h9,hall⟩
    simp [h1,h7,h8,h9,fst_no hall]
theorem inj207 {β:Type} (out:List Knw × Knw→β):∀ a b:List Knw × Knw,[V.lst (a.1.map Knw.v),.fn 164 [.ladr [a.2.v] 0 0]]=[V.lst (b.1.map Knw.v),.fn 164 [.ladr [b.2.v] 0 0]]→out a=out b:=by
  rintro ⟨a,c⟩ ⟨b,d⟩ h
  simp only [List.cons.injEq,and_true,V.ladr.injEq,V.fn.injEq,true_and,V.lst.injEq] at h
  rw [map_inj Knw.v_inj h.1,Knw.v_inj h.2]
noncomputable def c207:=ctr (fun a:List Knw × Knw=>a.1.length≤lim) (fun a=>[.lst (a.1.map Knw.v),.fn 164 [.ladr [a.2.v] 0 0]]) (fun a=>(false,.int .i64 (fstI (sameK2 a.2) a.1)))
theorem c207_eq (l:List Knw) (p:Knw) (h:l.length≤lim):c207 [.lst (l.map Knw.v),.fn 164 [.ladr [p.v] 0 0]]=some (false,.int .i64 (fstI (sameK2 p) l)):=ctr_eq (inj207 _) (l,p) h rfl
theorem c207_ok:COK Tryz.prog (207,c207):=ctr_ok fun a h=>f207_ok a.1 a.2 h
theorem f163_ok (l:List Knw) (p:Knw) (hl:l.length≤lim):FunOK Tryz.prog 163 [.lst (l.map Knw.v),.fn 164 [.ladr [p.v] 0 0]] false (.bool (l.any (sameK2 p))):=by
  refine fun_ok (mkE_ok zmix (cl:=[(207,c207)]) (gl:=[]) [] c207_ok trivial) Tryz.func163 (by kernel_rfl) ?_
  refine FunW_run _ _ rfl rfl ?_
  have e:=c207_eq l p hl
  simp only [Knw.v] at e
  simp [e,fst_ge]
noncomputable def c163:=ctr (fun a:List Knw × Knw=>a.1.length≤lim) (fun a=>[.lst (a.1.map Knw.v),.fn 164 [.ladr [a.2.v] 0 0]]) (fun a=>(false,.bool (a.1.any (sameK2 a.2))))
theorem c163_eq (l:List Knw) (p:Knw) (h:l.length≤lim):c163 [.lst (l.map Knw.v),.fn 164 [.ladr [p.v] 0 0]]=some (false,.bool (l.any (sameK2 p))):=ctr_eq (inj207 _) (l,p) h rfl
theorem c163_ok:COK Tryz.prog (163,c163):=ctr_ok fun a h=>f163_ok a.1 a.2 h
def knwAt (l:List Knw) (i:Nat) (x:Knw):Bool:=nameB x.mod && nameB x.name && decide (0≤x.value) && !(l.take i).any (sameK2 x)
def knwsB (l:List Knw):Bool:=allI (knwAt l) l l.length && decide (l.length≤40)
theorem knwAt_iff (l:List Knw) (i:Nat) (x:Knw):knwAt l i x=true ↔ ¬ (((nameB x.mod=false ∨ nameB x.name=false) ∨ x.value < 0) ∨ ∃ z,z ∈ List.take i l∧sameK2 x z=true):=by
  have e:(l.take i).any (sameK2 x)=true ↔ ∃ z,z ∈ List.take i l∧sameK2 x z=true:=List.any_eq_true
  rw [← e]
  simp only [knwAt]
  cases nameB x.mod <;> cases nameB x.name <;> cases (l.take i).any (sameK2 x) <;> simp
theorem f102_ok (l:List Knw) (hl:limL Knw.lim l):FunOK Tryz.prog 102 [.lst (l.map Knw.v)] false (.bool (knwsB l)):=by
  refine fun_ok (mkE_ok zmix (cl:=[(124,c124),(163,c163)]) (gl:=[]) [] ⟨c124_ok,c163_ok⟩ trivial) Tryz.func102 (by kernel_rfl) ?_
  refine FunW_run _ _ rfl rfl ?_
  have hll:=hl.1
  simp only [lim] at hll
  simp
  refine lp_list l (fun i t=>t.e 0=.lst (l.map Knw.v)∧t.e 5=.lst (l.map Knw.v)∧t.e 6=.int .i64 l.length∧t.e 7=.int .i64 i∧allI (knwAt l) l i=true) ?_ ?_ ?_
  · simp
  · rintro c' L hL i t x hx hi ih ⟨h0,h5,h6,h7,hall⟩
    have hw:=wrI (i:=i) (by omega)
    have hxl:=hl.2 x (List.mem_of_getElem? hx)
    have e1:=c124_eq x.mod hxl.1
    have e2:=c124_eq x.name hxl.2
    have e3:=c163_eq (l.take i) x (by simp [lim];omega)
    rw [List.map_take] at e3
    simp only [Knw.v] at e3
    have hiff:=knwAt_iff l i x
    simp [-getElem?_pos,gcz,gcs,h0,h5,h6,h7,hL,hi,hx,e1,e2,e3]
    refine ⟨fun _ _ _=>by omega,?_⟩
    split
    · rename_i hc
      have hk:knwAt l i x=false:=by
        cases hk:knwAt l i x with
        | false=>rfl
        | true=>exact absurd hc (hiff.1 hk)
      have:=allI_no hx hk
      simp [knwsB,this]
    · rename_i hc
      have hk:=hiff.2 hc
      refine ih _ ?_
      simp [h0,h5,h6,h7,hw,allI_succ hx,hall,hk]
  · rintro c' t ⟨h0,h5,h6,h7,hall⟩
    simp [h0,h5,h6,h7,knwsB,hall]
    omega
end Go.TM.Tryz
end
section
set_option maxHeartbeats 8000000
set_option maxRecDepth 20000
namespace Go.TM.Tryz
open Go Go.TM Go.Proofs
theorem f99_ok (l:List Knw) (hl:limL Knw.lim l):FunOK Tryz.prog 99 [.lst (l.map Knw.v)] false (.bool (knwsB l)):=by
  refine fun_ok (mkE_ok zmix (cl:=[(111,c111)]) (gl:=[]) [] c111_ok trivial) Tryz.func99 (by kernel_rfl) ?_
  refine FunW_run _ _ rfl rfl ?_
  have hll:=hl.1
  simp only [lim] at hll
  simp
  refine lp_list l (fun i t=>t.e 0=.lst (l.map Knw.v)∧t.e 7=.lst (l.map Knw.v)∧t.e 8=.int .i64 l.length∧t.e 9=.int .i64 i∧allI (knwAt l) l i=true) ?_ ?_ ?_
  · simp
  · rintro c' L hL i t x hx hi ih ⟨h0,h7,h8,h9,hall⟩
    have hw:=wrI (i:=i) (by omega)
    have hxl:=hl.2 x (List.mem_of_getElem? hx)
    have e1:=c111_eq x.mod hxl.1
    have e2:=c111_eq x.name hxl.2
    have hiff:=knwAt_iff l i x
    simp [-getElem?_pos,gcz,gcs,h0,h7,h8,h9,hL,hi,hx,e1,e2]
    split
    · rename_i hc
      have hk:knwAt l i x=false:=by
        cases hk:knwAt l i x with
        | false=>rfl
        | true=>exact absurd (.inl hc) (hiff.1 hk)
      have:=allI_no hx hk
      simp [knwsB,this]
    · rename_i hc
      refine ⟨by omega,?_⟩
      refine lp_list (l.take i) (fun j u=>u.e 0=.lst (l.map Knw.v)∧u.e 7=.lst (l.map Knw.v)∧u.e 8=.int .i64 l.length∧u.e 9=.int .i64 i∧u.e 31=.lst ((l.take i).map Knw.v)∧u.e 32=.int .i64 (l.take i).length∧u.e 33=.int .i64 j∧u.e 4=.ptr t.nb 0∧t.nb < u.nb∧u.B t.nb=some x.v∧anyI (sameK2 x) (l.take i) j=false) ?_ ?_ ?_
      · simp [h0,h7,h8,h9]
      · clear h0 h7 h8 h9
        rintro c2 L2 hL2 j u y hy hj ihJ ⟨h0,h7,h8,h9,h31,h32,h33,h4,hnb,hB,hany⟩
        have hw2:IntKind.i64.wrap ((j:Int) + 1)=((j + 1:Nat):Int):=wrap64 (by omega) (by rw [List.length_take] at hj;omega)
        have b1:¬ t.nb=u.nb:=by omega
        simp only [Knw.v] at hB
        generalize l.take i=P at *
        by_cases hq:x.mod=y.mod∧x.name=y.name
        · have hs:sameK2 x y=true:=by simp [sameK2,hq.1,hq.2]
          have hk:knwAt l i x=false:=by
            cases hk:knwAt l i x with
            | false=>rfl
            | true=>exact absurd (.inr ⟨y,List.mem_of_getElem? hy,hs⟩) (hiff.1 hk)
          have:=allI_no hx hk
          simp [-getElem?_pos,gcz,gcs,h0,h7,h8,h9,h31,h32,h33,h4,hB,b1,hL2,hj,hy,hq.1,hq.2,knwsB,this]
        · have hs:sameK2 x y=false:=by
            simp only [sameK2,Bool.and_eq_false_iff,decide_eq_false_iff_not]
            by_cases h5:x.mod=y.mod
            · exact .inr fun e=>hq ⟨h5,e.symm⟩
            · exact .inl fun e=>h5 e.symm
          have hq':x.mod=y.mod→¬ x.name=y.name:=fun a b=>hq ⟨a,b⟩
          simp [-getElem?_pos,gcz,gcs,h0,h7,h8,h9,h31,h32,h33,h4,hB,b1,hL2,hj,hy]
          rw [if_neg (by rintro ⟨a,b⟩;exact hq ⟨a,b⟩)]
          refine ihJ _ ?_
          simp [h0,h7,h8,h9,h31,h32,h33,h4,hB,b1,hw2,anyI_succ hy,hany,hs]
          omega
      · clear h0 h7 h8 h9
        rintro c2 u ⟨h0,h7,h8,h9,h31,h32,h33,h4,hnb,hB,hany⟩
        rw [anyI_all] at hany
        have hk:knwAt l i x=true:=hiff.2 fun h=>by
          rcases h with h | ⟨z,hz,hs⟩
          · exact hc h
          · have:=List.any_eq_true.2 ⟨z,hz,hs⟩
            rw [hany] at this
            cases this
        simp [h0,h7,h8,h9,h31,h32,h33,hL]
        refine ih _ ?_
        simp [h0,h7,h8,h9,hw,allI_succ hx,hall,hk]
  · rintro c' t ⟨h0,h7,h8,h9,hall⟩
    simp [h0,h7,h8,h9,knwsB,hall]
    omega
end Go.TM.Tryz
end
section
set_option maxHeartbeats 8000000
set_option maxRecDepth 20000
namespace Go.TM.Tryz
open Go Go.TM Go.Proofs
structure CkOK (xs:List Knw) (l:List Scp):Prop where
  len:l.length≤lim
  ok:modsB l=true
  xs:xs.length≤1000000
noncomputable def c99:=ctr (fun xs:List Knw=>limL Knw.lim xs) (fun xs=>[.lst (xs.map Knw.v)]) (fun xs=>(false,.bool (knwsB xs)))
theorem c99_eq (xs:List Knw) (h:limL Knw.lim xs):c99 [.lst (xs.map Knw.v)]=some (false,.bool (knwsB xs)):=ctr_eq (injl Knw.v_inj _) xs h rfl
theorem c99_ok:COK Tryz.prog (99,c99):=ctr_ok fun xs h=>f99_ok xs h
noncomputable def c102:=ctr (fun xs:List Knw=>limL Knw.lim xs) (fun xs=>[.lst (xs.map Knw.v)]) (fun xs=>(false,.bool (knwsB xs)))
theorem c102_eq (xs:List Knw) (h:limL Knw.lim xs):c102 [.lst (xs.map Knw.v)]=some (false,.bool (knwsB xs)):=ctr_eq (injl Knw.v_inj _) xs h rfl
theorem c102_ok:COK Tryz.prog (102,c102):=ctr_ok fun xs h=>f102_ok xs h
end Go.TM.Tryz
end
