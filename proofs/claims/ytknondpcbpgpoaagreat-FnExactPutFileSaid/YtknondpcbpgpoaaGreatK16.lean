/- A part of the proof: IA, IB, IC, ID. -/
import Derived.Test.YtknondpcbpgpoaaGreatK15
set_option linter.unusedVariables false
set_option linter.unusedSimpArgs false
section
set_option maxHeartbeats 4000000
set_option maxRecDepth 10000
namespace Go.TM.Tryz
open Go Go.TM Go.Proofs
theorem take_more {α:Type} {xs ys:List α} {i:Nat} {x y:α} (h:xs.take i=ys.take i) (hx:xs[i]?=some x) (hy:ys[i]?=some y) (e:x=y):xs.take (i + 1)=ys.take (i + 1):=by
  rw [List.take_add_one,List.take_add_one,h,hx,hy,e]
theorem take_end {α:Type} {xs ys:List α} (h:xs.take xs.length=ys.take xs.length) (hl:xs.length=ys.length):xs=ys:=by
  rw [List.take_length,hl,List.take_length] at h
  exact h
theorem at_ne {α:Type} {xs ys:List α} {i:Nat} {x y:α} (hx:xs[i]?=some x) (hy:ys[i]?=some y) (e:¬ x=y):¬ xs=ys:=by
  rintro rfl
  rw [hx] at hy
  exact e (Option.some.inj hy)
theorem len_ne {α:Type} {xs ys:List α} (h:¬ xs.length=ys.length):¬ xs=ys:=fun e=>h (by rw [e])
theorem f233_ok (xs ys:List ByteArray) (hx:xs.length≤lim) (hy:ys.length≤lim):FunOK Tryz.prog 233 [.lst (xs.map V.str),.lst (ys.map V.str)] false (.bool (decide (xs=ys))):=by
  refine fun_ok (mkE_ok zmix (cl:=[]) (gl:=[]) [] trivial trivial) Tryz.func233 (by kernel_rfl) ?_
  refine FunW_run _ _ rfl rfl ?_
  simp only [lim] at hx hy
  by_cases hl:xs.length=ys.length
  · simp [hl]
    refine lp_list xs (fun i t=>t.e 0=.lst (xs.map V.str)∧t.e 1=.lst (ys.map V.str)∧t.e 12=.int .i64 xs.length∧t.e 13=.int .i64 i∧xs.take i=ys.take i) ?_ ?_ ?_
    · simp [hl]
    · rintro c' L hL i t x hx' hi ih ⟨h0,h1,h12,h13,hall⟩
      have hw:=wrI (i:=i) (by omega)
      have hiy:i < ys.length:=by omega
      obtain ⟨y,hy'⟩:∃ y,ys[i]?=some y:=⟨_,List.getElem?_eq_getElem hiy⟩
      by_cases hq:x=y
      · have hmore:=take_more hall hx' hy' hq
        subst hq
        simp [-getElem?_pos,List.getElem?_cons_zero,h0,h1,h12,h13,hL,hi,hx',hy',hiy]
        refine ih _ ?_
        simp [h0,h1,h12,h13,hw,hmore]
      · have hne:=at_ne hx' hy' hq
        simp [-getElem?_pos,List.getElem?_cons_zero,h0,h1,h12,h13,hL,hi,hx',hy',hiy,hq,hne]
    · rintro c' t ⟨h0,h1,h12,h13,hall⟩
      have:=take_end hall hl
      simp [h0,h1,h12,h13,this]
  · have hl':¬ (xs.length:Int)=ys.length:=by omega
    have:=len_ne hl
    simp [hl,hl',this]
theorem inj233 {β:Type} (out:List ByteArray × List ByteArray→β):∀ a b:List ByteArray × List ByteArray,[V.lst (a.1.map V.str),.lst (a.2.map V.str)]=[V.lst (b.1.map V.str),.lst (b.2.map V.str)]→out a=out b:=by
  rintro ⟨a,c⟩ ⟨b,d⟩ h
  simp only [List.cons.injEq,and_true,V.lst.injEq] at h
  rw [map_inj str_inj h.1,map_inj str_inj h.2]
noncomputable def c233:=ctr (fun a:List ByteArray × List ByteArray=>a.1.length≤lim∧a.2.length≤lim) (fun a=>[.lst (a.1.map V.str),.lst (a.2.map V.str)]) (fun a=>(false,.bool (decide (a.1=a.2))))
theorem c233_eq (xs ys:List ByteArray) (h:xs.length≤lim) (h2:ys.length≤lim):c233 [.lst (xs.map V.str),.lst (ys.map V.str)]=some (false,.bool (decide (xs=ys))):=ctr_eq (inj233 _) (xs,ys) ⟨h,h2⟩ rfl
theorem c233_ok:COK Tryz.prog (233,c233):=ctr_ok fun a h=>f233_ok a.1 a.2 h.1 h.2
theorem f189_ok (xs ys:List ByteArray) (hx:xs.length≤lim) (hy:ys.length≤lim):FunOK Tryz.prog 189 [.lst (xs.map V.str),.lst (ys.map V.str)] false (.bool (decide (xs=ys))):=by
  refine fun_ok (mkE_ok zmix (cl:=[]) (gl:=[]) [] trivial trivial) Tryz.func189 (by kernel_rfl) ?_
  refine FunW_run _ _ rfl rfl ?_
  simp only [lim] at hx hy
  by_cases hl:xs.length=ys.length
  · simp [hl]
    refine lp_list xs (fun i t=>t.e 0=.lst (xs.map V.str)∧t.e 1=.lst (ys.map V.str)∧t.e 12=.int .i64 xs.length∧t.e 13=.int .i64 i∧xs.take i=ys.take i) ?_ ?_ ?_
    · simp [hl]
    · rintro c' L hL i t x hx' hi ih ⟨h0,h1,h12,h13,hall⟩
      have hw:=wrI (i:=i) (by omega)
      have hiy:i < ys.length:=by omega
      obtain ⟨y,hy'⟩:∃ y,ys[i]?=some y:=⟨_,List.getElem?_eq_getElem hiy⟩
      by_cases hq:x=y
      · have hmore:=take_more hall hx' hy' hq
        subst hq
        simp [-getElem?_pos,List.getElem?_cons_zero,h0,h1,h12,h13,hL,hi,hx',hy',hiy]
        refine ih _ ?_
        simp [h0,h1,h12,h13,hw,hmore]
      · have hne:=at_ne hx' hy' hq
        simp [-getElem?_pos,List.getElem?_cons_zero,h0,h1,h12,h13,hL,hi,hx',hy',hiy,hq,hne]
    · rintro c' t ⟨h0,h1,h12,h13,hall⟩
      have:=take_end hall hl
      simp [h0,h1,h12,h13,this]
  · have hl':¬ (xs.length:Int)=ys.length:=by omega
    have:=len_ne hl
    simp [hl,hl',this]
theorem inj189 {β:Type} (out:List ByteArray × List ByteArray→β):∀ a b:List ByteArray × List ByteArray,[V.lst (a.1.map V.str),.lst (a.2.map V.str)]=[V.lst (b.1.map V.str),.lst (b.2.map V.str)]→out a=out b:=by
  rintro ⟨a,c⟩ ⟨b,d⟩ h
  simp only [List.cons.injEq,and_true,V.lst.injEq] at h
  rw [map_inj str_inj h.1,map_inj str_inj h.2]
noncomputable def c189:=ctr (fun a:List ByteArray × List ByteArray=>a.1.length≤lim∧a.2.length≤lim) (fun a=>[.lst (a.1.map V.str),.lst (a.2.map V.str)]) (fun a=>(false,.bool (decide (a.1=a.2))))
theorem c189_eq (xs ys:List ByteArray) (h:xs.length≤lim) (h2:ys.length≤lim):c189 [.lst (xs.map V.str),.lst (ys.map V.str)]=some (false,.bool (decide (xs=ys))):=ctr_eq (inj189 _) (xs,ys) ⟨h,h2⟩ rfl
theorem c189_ok:COK Tryz.prog (189,c189):=ctr_ok fun a h=>f189_ok a.1 a.2 h.1 h.2
theorem f236_ok (xs ys:List Use) (hx:xs.length≤lim) (hy:ys.length≤lim):FunOK Tryz.prog 236 [.lst (xs.map Use.v),.lst (ys.map Use.v)] false (.bool (decide (xs=ys))):=by
  refine fun_ok (mkE_ok zmix (cl:=[]) (gl:=[]) [] trivial trivial) Tryz.func236 (by kernel_rfl) ?_
  refine FunW_run _ _ rfl rfl ?_
  simp only [lim] at hx hy
  by_cases hl:xs.length=ys.length
  · simp [hl]
    refine lp_list xs (fun i t=>t.e 0=.lst (xs.map Use.v)∧t.e 1=.lst (ys.map Use.v)∧t.e 12=.int .i64 xs.length∧t.e 13=.int .i64 i∧xs.take i=ys.take i) ?_ ?_ ?_
    · simp [hl]
    · rintro c' L hL i t x hx' hi ih ⟨h0,h1,h12,h13,hall⟩
      have hw:=wrI (i:=i) (by omega)
      have hiy:i < ys.length:=by omega
      obtain ⟨y,hy'⟩:∃ y,ys[i]?=some y:=⟨_,List.getElem?_eq_getElem hiy⟩
      by_cases hq:x=y
      · have hmore:=take_more hall hx' hy' hq
        subst hq
        simp [-getElem?_pos,List.getElem?_cons_zero,h0,h1,h12,h13,hL,hi,hx',hy',hiy]
        refine ih _ ?_
        simp [h0,h1,h12,h13,hw,hmore]
      · have hne:=at_ne hx' hy' hq
        simp [-getElem?_pos,List.getElem?_cons_zero,h0,h1,h12,h13,hL,hi,hx',hy',hiy,hq,hne]
        intro e1 e2
        exact absurd (by cases x;cases y;simp_all) hq
    · rintro c' t ⟨h0,h1,h12,h13,hall⟩
      have:=take_end hall hl
      simp [h0,h1,h12,h13,this]
  · have hl':¬ (xs.length:Int)=ys.length:=by omega
    have:=len_ne hl
    simp [hl,hl',this]
theorem inj236 {β:Type} (out:List Use × List Use→β):∀ a b:List Use × List Use,[V.lst (a.1.map Use.v),.lst (a.2.map Use.v)]=[V.lst (b.1.map Use.v),.lst (b.2.map Use.v)]→out a=out b:=by
  rintro ⟨a,c⟩ ⟨b,d⟩ h
  simp only [List.cons.injEq,and_true,V.lst.injEq] at h
  rw [map_inj Use.v_inj h.1,map_inj Use.v_inj h.2]
noncomputable def c236:=ctr (fun a:List Use × List Use=>a.1.length≤lim∧a.2.length≤lim) (fun a=>[.lst (a.1.map Use.v),.lst (a.2.map Use.v)]) (fun a=>(false,.bool (decide (a.1=a.2))))
theorem c236_eq (xs ys:List Use) (h:xs.length≤lim) (h2:ys.length≤lim):c236 [.lst (xs.map Use.v),.lst (ys.map Use.v)]=some (false,.bool (decide (xs=ys))):=ctr_eq (inj236 _) (xs,ys) ⟨h,h2⟩ rfl
theorem c236_ok:COK Tryz.prog (236,c236):=ctr_ok fun a h=>f236_ok a.1 a.2 h.1 h.2
theorem f254_ok (xs ys:List Par) (hx:xs.length≤lim) (hy:ys.length≤lim):FunOK Tryz.prog 254 [.lst (xs.map Par.v),.lst (ys.map Par.v)] false (.bool (decide (xs=ys))):=by
  refine fun_ok (mkE_ok zmix (cl:=[]) (gl:=[]) [] trivial trivial) Tryz.func254 (by kernel_rfl) ?_
  refine FunW_run _ _ rfl rfl ?_
  simp only [lim] at hx hy
  by_cases hl:xs.length=ys.length
  · simp [hl]
    refine lp_list xs (fun i t=>t.e 0=.lst (xs.map Par.v)∧t.e 1=.lst (ys.map Par.v)∧t.e 12=.int .i64 xs.length∧t.e 13=.int .i64 i∧xs.take i=ys.take i) ?_ ?_ ?_
    · simp [hl]
    · rintro c' L hL i t x hx' hi ih ⟨h0,h1,h12,h13,hall⟩
      have hw:=wrI (i:=i) (by omega)
      have hiy:i < ys.length:=by omega
      obtain ⟨y,hy'⟩:∃ y,ys[i]?=some y:=⟨_,List.getElem?_eq_getElem hiy⟩
      by_cases hq:x=y
      · have hmore:=take_more hall hx' hy' hq
        subst hq
        simp [-getElem?_pos,List.getElem?_cons_zero,h0,h1,h12,h13,hL,hi,hx',hy',hiy]
        refine ih _ ?_
        simp [h0,h1,h12,h13,hw,hmore]
      · have hne:=at_ne hx' hy' hq
        simp [-getElem?_pos,List.getElem?_cons_zero,h0,h1,h12,h13,hL,hi,hx',hy',hiy,hq,hne]
        intro e1 e2 e3
        exact absurd (by cases x;cases y;simp_all) hq
    · rintro c' t ⟨h0,h1,h12,h13,hall⟩
      have:=take_end hall hl
      simp [h0,h1,h12,h13,this]
  · have hl':¬ (xs.length:Int)=ys.length:=by omega
    have:=len_ne hl
    simp [hl,hl',this]
theorem inj254 {β:Type} (out:List Par × List Par→β):∀ a b:List Par × List Par,[V.lst (a.1.map Par.v),.lst (a.2.map Par.v)]=[V.lst (b.1.map Par.v),.lst (b.2.map Par.v)]→out a=out b:=by
  rintro ⟨a,c⟩ ⟨b,d⟩ h
  simp only [List.cons.injEq,and_true,V.lst.injEq] at h
  rw [map_inj Par.v_inj h.1,map_inj Par.v_inj h.2]
noncomputable def c254:=ctr (fun a:List Par × List Par=>a.1.length≤lim∧a.2.length≤lim) (fun a=>[.lst (a.1.map Par.v),.lst (a.2.map Par.v)]) (fun a=>(false,.bool (decide (a.1=a.2))))
theorem c254_eq (xs ys:List Par) (h:xs.length≤lim) (h2:ys.length≤lim):c254 [.lst (xs.map Par.v),.lst (ys.map Par.v)]=some (false,.bool (decide (xs=ys))):=ctr_eq (inj254 _) (xs,ys) ⟨h,h2⟩ rfl
theorem c254_ok:COK Tryz.prog (254,c254):=ctr_ok fun a h=>f254_ok a.1 a.2 h.1 h.2
end Go.TM.Tryz
end
section
set_option maxHeartbeats 4000000
set_option maxRecDepth 10000
namespace Go.TM.Tryz
open Go Go.TM Go.Proofs
theorem fldsEq_dec (xs ys:List Fld):fldsEq xs ys=decide (xs=ys):=by
  rw [Bool.eq_iff_iff,decide_eq_true_eq]
  simp only [fldsEq,Bool.and_eq_true,decide_eq_true_eq,allI_iff]
  constructor
  · rintro ⟨h1,h2⟩
    apply List.ext_getElem?
    intro i
    by_cases hi:i < xs.length
    · have:=h2 i _ (List.getElem?_eq_getElem hi)
      have hiy:i < ys.length:=by omega
      simp only [fldEq,List.getElem?_eq_getElem hiy,Option.any_some,Bool.and_eq_true,decide_eq_true_eq,beq_iff_eq] at this
      rw [List.getElem?_eq_getElem hi,List.getElem?_eq_getElem hiy]
      congr 1
      generalize xs[i]=a at *
      generalize ys[i]=b at *
      cases a;cases b;simp_all
    · rw [List.getElem?_eq_none (by omega),List.getElem?_eq_none (by omega)]
  · rintro rfl
    refine ⟨rfl,fun i x hx=>?_⟩
    simp [fldEq,hx]
theorem tyEq_dec (x y:Ty):tyEq x y=decide (x=y):=by
  rw [Bool.eq_iff_iff,decide_eq_true_eq]
  simp only [tyEq,Bool.and_eq_true,beq_iff_eq,decide_eq_true_eq,fldsEq_dec]
  cases x;cases y
  simp [and_assoc]
theorem tysEq_dec (xs ys:List Ty):tysEq xs ys=decide (xs=ys):=by
  rw [Bool.eq_iff_iff,decide_eq_true_eq]
  simp only [tysEq,Bool.and_eq_true,decide_eq_true_eq,allI_iff]
  constructor
  · rintro ⟨h1,h2⟩
    apply List.ext_getElem?
    intro i
    by_cases hi:i < xs.length
    · have:=h2 i _ (List.getElem?_eq_getElem hi)
      have hiy:i < ys.length:=by omega
      simp only [tyAtEq,List.getElem?_eq_getElem hiy,Option.any_some,tyEq_dec,decide_eq_true_eq] at this
      rw [List.getElem?_eq_getElem hi,List.getElem?_eq_getElem hiy,this]
    · rw [List.getElem?_eq_none (by omega),List.getElem?_eq_none (by omega)]
  · rintro rfl
    refine ⟨rfl,fun i x hx=>?_⟩
    simp [tyAtEq,hx,tyEq_dec]
def objEqB (x y:Obj):Bool:=decide (x.name=y.name) && x.kind == y.kind && x.mark == y.mark && x.type == y.type && x.value == y.value && decide (x.params=y.params)
theorem objEqB_dec (x y:Obj):objEqB x y=decide (x=y):=by
  rw [Bool.eq_iff_iff,decide_eq_true_eq]
  simp only [objEqB,Bool.and_eq_true,beq_iff_eq,decide_eq_true_eq]
  cases x;cases y
  simp [and_assoc]
theorem f235_ok (x y:Obj) (hx:x.lim) (hy:y.lim):FunOK Tryz.prog 235 [x.v,y.v] false (.bool (decide (x=y))):=by
  refine fun_ok (mkE_ok zmix (cl:=[(254,c254)]) (gl:=[]) [] c254_ok trivial) Tryz.func235 (by kernel_rfl) ?_
  refine FunW_run _ _ rfl rfl ?_
  rw [← objEqB_dec]
  simp [c254_eq _ _ hx.2.1 hy.2.1,objEqB]
noncomputable def c235:=ctr (fun a:Obj × Obj=>a.1.lim∧a.2.lim) (fun a=>[a.1.v,a.2.v]) (fun a=>(false,.bool (decide (a.1=a.2))))
theorem inj235 {β:Type} (out:Obj × Obj→β):∀ a b:Obj × Obj,[a.1.v,a.2.v]=[b.1.v,b.2.v]→out a=out b:=by
  rintro ⟨a,c⟩ ⟨b,d⟩ h
  simp only [List.cons.injEq,and_true] at h
  rw [Obj.v_inj h.1,Obj.v_inj h.2]
theorem c235_eq (x y:Obj) (hx:x.lim) (hy:y.lim):c235 [x.v,y.v]=some (false,.bool (decide (x=y))):=ctr_eq (inj235 _) (x,y) ⟨hx,hy⟩ rfl
theorem c235_ok:COK Tryz.prog (235,c235):=ctr_ok fun a h=>f235_ok a.1 a.2 h.1 h.2
theorem f234_ok (xs ys:List Obj) (hx:limL Obj.lim xs) (hy:limL Obj.lim ys):FunOK Tryz.prog 234 [.lst (xs.map Obj.v),.lst (ys.map Obj.v),.fn 235 []] false (.bool (decide (xs=ys))):=by
  refine fun_ok (mkE_ok zmix (cl:=[(235,c235)]) (gl:=[]) [] c235_ok trivial) Tryz.func234 (by kernel_rfl) ?_
  refine FunW_run _ _ rfl rfl ?_
  have h1:=hx.1
  have h2:=hy.1
  simp only [lim] at h1 h2
  by_cases hl:xs.length=ys.length
  · simp [hl]
    refine lp_list xs (fun i t=>t.e 0=.lst (xs.map Obj.v)∧t.e 1=.lst (ys.map Obj.v)∧t.e 2=.fn 235 []∧t.e 15=.lst (xs.map Obj.v)∧t.e 16=.int .i64 xs.length∧t.e 17=.int .i64 i∧xs.take i=ys.take i) ?_ ?_ ?_
    · simp [hl]
    · rintro c' L hL i t x hx' hi ih ⟨h0,h1,h2,h15,h16,h17,hall⟩
      have hw:=wrI (i:=i) (by omega)
      have hiy:i < ys.length:=by omega
      obtain ⟨y,hy'⟩:∃ y,ys[i]?=some y:=⟨_,List.getElem?_eq_getElem hiy⟩
      have e:=c235_eq x y (hx.2 x (List.mem_of_getElem? hx')) (hy.2 _ (List.mem_of_getElem? hy'))
      simp only [Obj.v] at e
      by_cases hq:x=y
      · have hmore:=take_more hall hx' hy' hq
        rw [decide_eq_true hq] at e
        simp [-getElem?_pos,gcz,gcs,h0,h1,h2,h15,h16,h17,hL,hi,hx',hy',hiy,e]
        refine ih _ ?_
        simp [h0,h1,h2,h15,h16,h17,hw,hmore]
      · have hne:=at_ne hx' hy' hq
        rw [decide_eq_false hq] at e
        simp [-getElem?_pos,gcz,gcs,h0,h1,h2,h15,h16,h17,hL,hi,hx',hy',hiy,e,hne]
    · rintro c' t ⟨h0,h1,h2,h15,h16,h17,hall⟩
      have:=take_end hall hl
      simp [h0,h1,h2,h15,h16,h17,this]
  · have hl':¬ (xs.length:Int)=ys.length:=by omega
    have:=len_ne hl
    simp [hl,hl',this]
noncomputable def c234:=ctr (fun a:List Obj × List Obj=>limL Obj.lim a.1∧limL Obj.lim a.2) (fun a=>[.lst (a.1.map Obj.v),.lst (a.2.map Obj.v),.fn 235 []]) (fun a=>(false,.bool (decide (a.1=a.2))))
theorem inj234 {β:Type} (out:List Obj × List Obj→β):∀ a b:List Obj × List Obj,[V.lst (a.1.map Obj.v),.lst (a.2.map Obj.v),.fn 235 []]=[V.lst (b.1.map Obj.v),.lst (b.2.map Obj.v),.fn 235 []]→out a=out b:=by
  rintro ⟨a,c⟩ ⟨b,d⟩ h
  simp only [List.cons.injEq,and_true,V.lst.injEq] at h
  rw [map_inj Obj.v_inj h.1,map_inj Obj.v_inj h.2]
theorem c234_eq (xs ys:List Obj) (h:limL Obj.lim xs) (h2:limL Obj.lim ys):c234 [.lst (xs.map Obj.v),.lst (ys.map Obj.v),.fn 235 []]=some (false,.bool (decide (xs=ys))):=ctr_eq (inj234 _) (xs,ys) ⟨h,h2⟩ rfl
theorem c234_ok:COK Tryz.prog (234,c234):=ctr_ok fun a h=>f234_ok a.1 a.2 h.1 h.2
def scpEqB (x y:Scp):Bool:=decide (x.name=y.name) && decide (x.imports=y.imports) && decide (x.types=y.types) && decide (x.objects=y.objects) && decide (x.uses=y.uses)
theorem scpEqB_dec (x y:Scp):scpEqB x y=decide (x=y):=by
  rw [Bool.eq_iff_iff,decide_eq_true_eq]
  simp only [scpEqB,Bool.and_eq_true,decide_eq_true_eq]
  cases x;cases y
  simp [and_assoc]
theorem f198_ok (x y:Scp) (hx:x.lim) (hy:y.lim):FunOK Tryz.prog 198 [x.v,y.v] false (.bool (decide (x=y))):=by
  refine fun_ok (mkE_ok zmix (cl:=[(233,c233),(217,c217),(234,c234),(236,c236)]) (gl:=[]) [] ⟨c233_ok,c217_ok,c234_ok,c236_ok⟩ trivial) Tryz.func198 (by kernel_rfl) ?_
  refine FunW_run _ _ rfl rfl ?_
  rw [← scpEqB_dec]
  have e1:=c233_eq _ _ hx.2.1.1 hy.2.1.1
  have e2:=c217_eq _ _ hx.2.2.1 hy.2.2.1
  have e3:=c234_eq _ _ hx.2.2.2.1 hy.2.2.2.1
  have e4:=c236_eq _ _ hx.2.2.2.2.1 hy.2.2.2.2.1
  rw [tysEq_dec] at e2
  simp [e1,e2,e3,e4,scpEqB]
noncomputable def c198:=ctr (fun a:Scp × Scp=>a.1.lim∧a.2.lim) (fun a=>[a.1.v,a.2.v]) (fun a=>(false,.bool (decide (a.1=a.2))))
theorem inj198 {β:Type} (out:Scp × Scp→β):∀ a b:Scp × Scp,[a.1.v,a.2.v]=[b.1.v,b.2.v]→out a=out b:=by
  rintro ⟨a,c⟩ ⟨b,d⟩ h
  simp only [List.cons.injEq,and_true] at h
  rw [Scp.v_inj h.1,Scp.v_inj h.2]
theorem c198_eq (x y:Scp) (hx:x.lim) (hy:y.lim):c198 [x.v,y.v]=some (false,.bool (decide (x=y))):=ctr_eq (inj198 _) (x,y) ⟨hx,hy⟩ rfl
theorem c198_ok:COK Tryz.prog (198,c198):=ctr_ok fun a h=>f198_ok a.1 a.2 h.1 h.2
end Go.TM.Tryz
end
section
set_option maxHeartbeats 4000000
set_option maxRecDepth 10000
namespace Go.TM.Tryz
open Go Go.TM Go.Proofs
theorem f190_ok (x y:Ty) (hx:x.lim) (hy:y.lim):FunOK Tryz.prog 190 [x.v,y.v] false (.bool (decide (x=y))):=by
  refine fun_ok (mkE_ok zmix (cl:=[]) (gl:=[]) [] trivial trivial) Tryz.func190 (by kernel_rfl) ?_
  refine FunW_run _ _ rfl rfl ?_
  have h1:=hx.1.1
  have h2:=hy.1.1
  simp only [lim] at h1 h2
  obtain ⟨k,l,b,fs,o,n⟩:=x
  obtain ⟨k',l',b',fs',o',n'⟩:=y
  simp only at h1 h2
  by_cases e1:¬ k=k'
  · simp [e1]
  have e1:k=k':=Classical.not_not.1 e1
  by_cases e2:¬ l=l'
  · simp [e1,e2]
  have e2:l=l':=Classical.not_not.1 e2
  by_cases e3:¬ b=b'
  · simp [e1,e2,e3]
  have e3:b=b':=Classical.not_not.1 e3
  by_cases e4:¬ o=o'
  · simp [e1,e2,e3,e4]
  have e4:o=o':=Classical.not_not.1 e4
  by_cases e5:¬ n=n'
  · simp [e1,e2,e3,e4,e5]
  have e5:n=n':=Classical.not_not.1 e5
  by_cases l1:¬ fs.length=fs'.length
  · have l1a:¬ (fs.length:Int)=fs'.length:=by omega
    have l1b:=len_ne l1
    simp [e1,e2,e3,e4,e5,l1,l1a,l1b]
  have l1:fs.length=fs'.length:=Classical.not_not.1 l1
  subst e1 e2 e3 e4 e5
  simp [l1]
  refine lp_list fs (fun i t=>t.e 2=.ptr 0 0∧t.e 3=.ptr 1 0∧1 < t.nb∧t.e 50=.int .i64 fs.length∧t.e 51=.int .i64 i∧t.B 0=some (Ty.v ⟨k,l,b,fs,o,n⟩)∧t.B 1=some (Ty.v ⟨k,l,b,fs',o,n⟩)∧fs.take i=fs'.take i) ?_ ?_ ?_
  · simp [l1]
  · rintro c' L hL i t x hx' hi ih ⟨g2,g3,gb,gN,gI,gB0,gB1,hall⟩
    have hw:=wrI (i:=i) (by omega)
    have hiy:i < fs'.length:=by omega
    obtain ⟨y,hy'⟩:∃ y,fs'[i]?=some y:=⟨_,List.getElem?_eq_getElem hiy⟩
    simp only [Ty.v] at gB0 gB1
    by_cases hq:x=y
    · have hmore:=take_more hall hx' hy' hq
      subst hq
      simp [-getElem?_pos,gcz,gcs,g2,g3,gN,gI,gB0,gB1,hL,hi,hx',hy',hiy]
      refine ih _ ?_
      simp [g2,g3,gb,gN,gI,gB0,gB1,hw,hmore]
    · have hne:=at_ne hx' hy' hq
      simp [-getElem?_pos,gcz,gcs,g2,g3,gN,gI,gB0,gB1,hL,hi,hx',hy',hiy,hne]
      intro a1 a2 a3
      exact absurd (by cases x;cases y;simp_all) hq
  · rintro c' t ⟨g2,g3,gb,gN,gI,gB0,gB1,hall⟩
    have:=take_end hall l1
    simp [g2,g3,gN,gI,gB0,gB1,this]
noncomputable def c190:=ctr (fun a:Ty × Ty=>a.1.lim∧a.2.lim) (fun a=>[a.1.v,a.2.v]) (fun a=>(false,.bool (decide (a.1=a.2))))
theorem c190_eq (x y:Ty) (hx:x.lim) (hy:y.lim):c190 [x.v,y.v]=some (false,.bool (decide (x=y))):=ctr_eq (inj218 _) (x,y) ⟨hx,hy⟩ rfl
theorem c190_ok:COK Tryz.prog (190,c190):=ctr_ok fun a h=>f190_ok a.1 a.2 h.1 h.2
theorem f191_ok (x y:Obj) (hx:x.lim) (hy:y.lim):FunOK Tryz.prog 191 [x.v,y.v] false (.bool (decide (x=y))):=by
  refine fun_ok (mkE_ok zmix (cl:=[]) (gl:=[]) [] trivial trivial) Tryz.func191 (by kernel_rfl) ?_
  refine FunW_run _ _ rfl rfl ?_
  have h1:=hx.2.1
  have h2:=hy.2.1
  simp only [lim] at h1 h2
  obtain ⟨na,ki,ma,ty,va,ps⟩:=x
  obtain ⟨na',ki',ma',ty',va',ps'⟩:=y
  simp only at h1 h2
  by_cases e1:¬ na=na'
  · simp [e1]
  have e1:na=na':=Classical.not_not.1 e1
  by_cases e2:¬ ki=ki'
  · simp [e1,e2]
  have e2:ki=ki':=Classical.not_not.1 e2
  by_cases e3:¬ ma=ma'
  · simp [e1,e2,e3]
  have e3:ma=ma':=Classical.not_not.1 e3
  by_cases e4:¬ ty=ty'
  · simp [e1,e2,e3,e4]
  have e4:ty=ty':=Classical.not_not.1 e4
  by_cases e5:¬ va=va'
  · simp [e1,e2,e3,e4,e5]
  have e5:va=va':=Classical.not_not.1 e5
  by_cases l1:¬ ps.length=ps'.length
  · have l1a:¬ (ps.length:Int)=ps'.length:=by omega
    have l1b:=len_ne l1
    simp [e1,e2,e3,e4,e5,l1,l1a,l1b]
  have l1:ps.length=ps'.length:=Classical.not_not.1 l1
  subst e1 e2 e3 e4 e5
  simp [l1]
  refine lp_list ps (fun i t=>t.e 2=.ptr 0 0∧t.e 3=.ptr 1 0∧1 < t.nb∧t.e 50=.int .i64 ps.length∧t.e 51=.int .i64 i∧t.B 0=some (Obj.v ⟨na,ki,ma,ty,va,ps⟩)∧t.B 1=some (Obj.v ⟨na,ki,ma,ty,va,ps'⟩)∧ps.take i=ps'.take i) ?_ ?_ ?_
  · simp [l1]
  · rintro c' L hL i t x hx' hi ih ⟨g2,g3,gb,gN,gI,gB0,gB1,hall⟩
    have hw:=wrI (i:=i) (by omega)
    have hiy:i < ps'.length:=by omega
    obtain ⟨y,hy'⟩:∃ y,ps'[i]?=some y:=⟨_,List.getElem?_eq_getElem hiy⟩
    simp only [Obj.v] at gB0 gB1
    by_cases hq:x=y
    · have hmore:=take_more hall hx' hy' hq
      subst hq
      simp [-getElem?_pos,gcz,gcs,g2,g3,gN,gI,gB0,gB1,hL,hi,hx',hy',hiy]
      refine ih _ ?_
      simp [g2,g3,gb,gN,gI,gB0,gB1,hw,hmore]
    · have hne:=at_ne hx' hy' hq
      simp [-getElem?_pos,gcz,gcs,g2,g3,gN,gI,gB0,gB1,hL,hi,hx',hy',hiy,hne]
      intro a1 a2 a3
      exact absurd (by cases x;cases y;simp_all) hq
  · rintro c' t ⟨g2,g3,gb,gN,gI,gB0,gB1,hall⟩
    have:=take_end hall l1
    simp [g2,g3,gN,gI,gB0,gB1,this]
noncomputable def c191:=ctr (fun a:Obj × Obj=>a.1.lim∧a.2.lim) (fun a=>[a.1.v,a.2.v]) (fun a=>(false,.bool (decide (a.1=a.2))))
theorem c191_eq (x y:Obj) (hx:x.lim) (hy:y.lim):c191 [x.v,y.v]=some (false,.bool (decide (x=y))):=ctr_eq (inj235 _) (x,y) ⟨hx,hy⟩ rfl
theorem c191_ok:COK Tryz.prog (191,c191):=ctr_ok fun a h=>f191_ok a.1 a.2 h.1 h.2
end Go.TM.Tryz
end
section
set_option maxHeartbeats 8000000
set_option maxRecDepth 20000
namespace Go.TM.Tryz
open Go Go.TM Go.Proofs
theorem f144_ok (x y:Scp) (hx:x.lim) (hy:y.lim):FunOK Tryz.prog 144 [x.v,y.v] false (.bool (decide (x=y))):=by
  refine fun_ok (mkE_ok zmix (cl:=[(189,c189),(190,c190),(191,c191)]) (gl:=[]) [] ⟨c189_ok,c190_ok,c191_ok⟩ trivial) Tryz.func144 (by kernel_rfl) ?_
  refine FunW_run _ _ rfl rfl ?_
  obtain ⟨na,im,ts,os,us⟩:=x
  obtain ⟨na',im',ts',os',us'⟩:=y
  obtain ⟨x1,x2,x3,x4,x5⟩:=hx
  obtain ⟨y1,y2,y3,y4,y5⟩:=hy
  simp only at x1 x2 x3 x4 x5 y1 y2 y3 y4 y5
  have e189:=c189_eq im im' x2.1 y2.1
  have t1:=x3.1
  have t2:=y3.1
  have o1:=x4.1
  have o2:=y4.1
  have u1:=x5.1
  have u2:=y5.1
  simp only [lim] at t1 t2 o1 o2 u1 u2
  by_cases e1:¬ na=na'
  · simp [e1,e189]
  have e1:na=na':=Classical.not_not.1 e1
  by_cases e2:¬ im=im'
  · rw [decide_eq_false e2] at e189
    simp [e1,e2,e189]
  have e2:im=im':=Classical.not_not.1 e2
  rw [decide_eq_true e2] at e189
  subst e1 e2
  by_cases l1:¬ ts.length=ts'.length
  · have l1a:¬ (ts.length:Int)=ts'.length:=by omega
    have l1b:=len_ne l1
    simp [e189,l1,l1a,l1b]
  have l1:ts.length=ts'.length:=Classical.not_not.1 l1
  by_cases l2:¬ os.length=os'.length
  · have l2a:¬ (os.length:Int)=os'.length:=by omega
    have l2b:=len_ne l2
    simp [e189,l1,l2,l2a,l2b]
  have l2:os.length=os'.length:=Classical.not_not.1 l2
  by_cases l3:¬ us.length=us'.length
  · have l3a:¬ (us.length:Int)=us'.length:=by omega
    have l3b:=len_ne l3
    simp [e189,l1,l2,l3,l3a,l3b]
  have l3:us.length=us'.length:=Classical.not_not.1 l3
  simp [e189,l1,l2,l3]
  refine lp_list ts (fun i t=>t.e 2=.ptr 0 0∧t.e 3=.ptr 1 0∧1 < t.nb∧t.e 50=.int .i64 ts.length∧t.e 51=.int .i64 i∧t.B 0=some (Scp.v ⟨na,im,ts,os,us⟩)∧t.B 1=some (Scp.v ⟨na,im,ts',os',us'⟩)∧ts.take i=ts'.take i) ?_ ?_ ?_
  · simp [l1]
  · rintro c' L hL i t x hx' hi ih ⟨g2,g3,gb,gN,gI,gB0,gB1,hall⟩
    have hw:=wrI (i:=i) (by omega)
    have hiy:i < ts'.length:=by omega
    obtain ⟨y,hy'⟩:∃ y,ts'[i]?=some y:=⟨_,List.getElem?_eq_getElem hiy⟩
    have e:=c190_eq x y (x3.2 x (List.mem_of_getElem? hx')) (y3.2 y (List.mem_of_getElem? hy'))
    simp only [Ty.v] at e
    simp only [Scp.v] at gB0 gB1
    by_cases hq:x=y
    · have hmore:=take_more hall hx' hy' hq
      rw [decide_eq_true hq] at e
      simp [-getElem?_pos,gcz,gcs,g2,g3,gN,gI,gB0,gB1,hL,hi,hx',hy',hiy,e]
      refine ih _ ?_
      simp [g2,g3,gb,gN,gI,gB0,gB1,hw,hmore]
    · have hne:=at_ne hx' hy' hq
      rw [decide_eq_false hq] at e
      simp [-getElem?_pos,gcz,gcs,g2,g3,gN,gI,gB0,gB1,hL,hi,hx',hy',hiy,e,hne]
  · rintro c' t ⟨g2,g3,gb,gN,gI,gB0,gB1,hall⟩
    have ht:=take_end hall l1
    subst ht
    simp [g2,g3,gN,gI,gB0,gB1]
    refine lp_list os (fun i t=>t.e 2=.ptr 0 0∧t.e 3=.ptr 1 0∧1 < t.nb∧t.e 69=.int .i64 os.length∧t.e 70=.int .i64 i∧t.B 0=some (Scp.v ⟨na,im,ts,os,us⟩)∧t.B 1=some (Scp.v ⟨na,im,ts,os',us'⟩)∧os.take i=os'.take i) ?_ ?_ ?_
    · simp [g2,g3,gb,gB0,gB1]
    · clear g2 g3 gb gN gI gB0 gB1
      rintro c' L hL i t x hx' hi ih ⟨g2,g3,gb,gN,gI,gB0,gB1,hall⟩
      have hw:=wrI (i:=i) (by omega)
      have hiy:i < os'.length:=by omega
      obtain ⟨y,hy'⟩:∃ y,os'[i]?=some y:=⟨_,List.getElem?_eq_getElem hiy⟩
      have e:=c191_eq x y (x4.2 x (List.mem_of_getElem? hx')) (y4.2 y (List.mem_of_getElem? hy'))
      simp only [Obj.v] at e
      simp only [Scp.v] at gB0 gB1
      by_cases hq:x=y
      · have hmore:=take_more hall hx' hy' hq
        rw [decide_eq_true hq] at e
        simp [-getElem?_pos,gcz,gcs,g2,g3,gN,gI,gB0,gB1,hL,hi,hx',hy',hiy,e]
        refine ih _ ?_
        simp [g2,g3,gb,gN,gI,gB0,gB1,hw,hmore]
      · have hne:=at_ne hx' hy' hq
        rw [decide_eq_false hq] at e
        simp [-getElem?_pos,gcz,gcs,g2,g3,gN,gI,gB0,gB1,hL,hi,hx',hy',hiy,e,hne]
    · clear g2 g3 gb gN gI gB0 gB1
      rintro c' t ⟨g2,g3,gb,gN,gI,gB0,gB1,hall⟩
      have ht:=take_end hall l2
      subst ht
      simp [g2,g3,gN,gI,gB0,gB1]
      refine lp_list us (fun i t=>t.e 2=.ptr 0 0∧t.e 3=.ptr 1 0∧1 < t.nb∧t.e 88=.int .i64 us.length∧t.e 89=.int .i64 i∧t.B 0=some (Scp.v ⟨na,im,ts,os,us⟩)∧t.B 1=some (Scp.v ⟨na,im,ts,os,us'⟩)∧us.take i=us'.take i) ?_ ?_ ?_
      · simp [g2,g3,gb,gB0,gB1]
      · clear g2 g3 gb gN gI gB0 gB1
        rintro c' L hL i t x hx' hi ih ⟨g2,g3,gb,gN,gI,gB0,gB1,hall⟩
        have hw:=wrI (i:=i) (by omega)
        have hiy:i < us'.length:=by omega
        obtain ⟨y,hy'⟩:∃ y,us'[i]?=some y:=⟨_,List.getElem?_eq_getElem hiy⟩
        simp only [Scp.v] at gB0 gB1
        by_cases hq:x=y
        · have hmore:=take_more hall hx' hy' hq
          subst hq
          simp [-getElem?_pos,gcz,gcs,g2,g3,gN,gI,gB0,gB1,hL,hi,hx',hy',hiy]
          refine ih _ ?_
          simp [g2,g3,gb,gN,gI,gB0,gB1,hw,hmore]
        · have hne:=at_ne hx' hy' hq
          simp [-getElem?_pos,gcz,gcs,g2,g3,gN,gI,gB0,gB1,hL,hi,hx',hy',hiy,hne]
          intro a1 a2
          exact absurd (by cases x;cases y;simp_all) hq
      · rintro c' t ⟨g2,g3,gb,gN,gI,gB0,gB1,hall⟩
        have:=take_end hall l3
        simp [g2,g3,gN,gI,gB0,gB1,this]
noncomputable def c144:=ctr (fun a:Scp × Scp=>a.1.lim∧a.2.lim) (fun a=>[a.1.v,a.2.v]) (fun a=>(false,.bool (decide (a.1=a.2))))
theorem c144_eq (x y:Scp) (hx:x.lim) (hy:y.lim):c144 [x.v,y.v]=some (false,.bool (decide (x=y))):=ctr_eq (inj198 _) (x,y) ⟨hx,hy⟩ rfl
theorem c144_ok:COK Tryz.prog (144,c144):=ctr_ok fun a h=>f144_ok a.1 a.2 h.1 h.2
end Go.TM.Tryz
end
