/- A part of the proof: HA, HB. -/
import Derived.Test.YtknondpcbpgpoaaGreatK09
set_option linter.unusedVariables false
set_option linter.unusedSimpArgs false
section
set_option maxHeartbeats 8000000
set_option maxRecDepth 20000
namespace Go.TM.Tryz
open Go Go.TM Go.Proofs
theorem idx_mem {a:Int}:∀ {l r:List Int},a ∈ l→(l ++ r).idxOf a=l.idxOf a
  | x :: l,r,h=>by
    rw [List.cons_append,List.idxOf_cons,List.idxOf_cons]
    by_cases e:x=a
    · simp [e]
    · have h2:a ∈ l:=by
        rcases List.mem_cons.1 h with h | h
        · exact absurd h.symm e
        · exact h
      simp [e,idx_mem h2]
theorem idx_not {a:Int}:∀ {l r:List Int},a ∉ l→(l ++ r).idxOf a=l.length + r.idxOf a
  | [],r,_=>by simp
  | x :: l,r,h=>by
    rw [List.cons_append,List.idxOf_cons]
    have e:¬ x=a:=fun e=>h (by simp [e])
    have h2:a ∉ l:=fun h2=>h (by simp [h2])
    have e2:(x == a)=false:=by simpa using e
    rw [e2,cond_false,idx_not h2,List.length_cons]
    omega
def toOf (L:Nat) (ord:List Int):List Int:=(List.range L).map fun i=>if ((i:Nat):Int) ∈ ord then (ord.idxOf ((i:Nat):Int):Int) else -1
theorem toOf_len (L:Nat) (ord:List Int):(toOf L ord).length=L:=by simp [toOf]
theorem toOf_get {L:Nat} {ord:List Int} {n:Int} (h0:0≤n) (hn:n < L):(toOf L ord)[n.toNat]?=some (if n ∈ ord then (ord.idxOf n:Int) else -1):=by
  have h:n.toNat < L:=by omega
  have e:((n.toNat:Nat):Int)=n:=by omega
  simp only [toOf,List.getElem?_map,List.getElem?_range h,Option.map_some,e]
theorem toOf_add {L:Nat} {ord:List Int} {n:Int} (h0:0≤n) (hn:n < L) (hm:n ∉ ord):(toOf L ord).set n.toNat (ord.length:Int)=toOf L (ord ++ [n]):=by
  apply List.ext_getElem?
  intro i
  rw [List.getElem?_set]
  simp only [toOf_len]
  by_cases h:n.toNat=i
  · have hi:i < L:=by omega
    have e:((i:Nat):Int)=n:=by omega
    rw [if_pos h,if_pos (by omega)]
    simp only [toOf,List.getElem?_map,List.getElem?_range hi,Option.map_some,e]
    rw [if_pos (by simp),idx_not hm]
    simp
  · rw [if_neg h]
    by_cases hi:i < L
    · have e:¬ ((i:Nat):Int)=n:=by omega
      simp only [toOf,List.getElem?_map,List.getElem?_range hi,Option.map_some,List.mem_append,List.mem_singleton,e,or_false,Option.some.injEq]
      by_cases h2:((i:Nat):Int) ∈ ord
      · rw [if_pos h2,if_pos h2,idx_mem h2]
      · rw [if_neg h2,if_neg h2]
    · rw [List.getElem?_eq_none (by rw [toOf_len];omega),List.getElem?_eq_none (by rw [toOf_len];omega)]
structure VOK (l:List Ty) (f:Nat) (ord:List Int) (n:Int):Prop where
  oo:OrdOK l.length ord
  nn:n < l.length
  ff:l.length - ord.length < f
  pos:0 < l.length
def bxV (l:List Ty) (ord:List Int):V:=.agg [.lst (l.map Ty.v),.inl 1 ((toOf l.length ord).map (V.int .i64)),.inl 1 (ord.map (V.int .i64))]
theorem intV_inj:Function.Injective (V.int .i64):=fun a b h=>by cases h;rfl
theorem bxV_inj {l:List Ty} {a b:List Int} (h:bxV l a=bxV l b):a=b:=by
  simp only [bxV,V.agg.injEq,List.cons.injEq,V.inl.injEq,true_and,and_true] at h
  exact map_inj intV_inj h.2
theorem injVis {β:Type} {l:List Ty} (out:List Int × Int→β):∀ a b:List Int × Int,(([.ptr 0 0,.int .i64 a.2],[bxV l a.1]):List V × List V)=([.ptr 0 0,.int .i64 b.2],[bxV l b.1])→out a=out b:=by
  rintro ⟨a,m⟩ ⟨b,n⟩ h
  simp only [Prod.mk.injEq,List.cons.injEq,and_true,true_and,V.int.injEq] at h
  rw [bxV_inj h.2,h.1]
noncomputable def cVis (l:List Ty) (f:Nat):=ctrG (fun a:List Int × Int=>VOK l f a.1 a.2) (fun a=>([.ptr 0 0,.int .i64 a.2],[bxV l a.1])) (fun a=>⟨false,.tup [],[],[bxV l (tk l f a.1 a.2).2.1]⟩)
theorem cVis_eq {l:List Ty} {f:Nat} {ord:List Int} {n:Int} (h:VOK l f ord n):cVis l f [.ptr 0 0,.int .i64 n] [bxV l ord]=some ⟨false,.tup [],[],[bxV l (tk l f ord n).2.1]⟩:=ctrG_eq (injVis _) (ord,n) h rfl
def cut117:Pl:=⟨[0,4,5],[(1,false),(2,false),(3,false),(6,false),(7,false),(8,false),(9,false),(10,false)],[],[11],.seq [11]⟩
theorem cut117_run {E:Env} (pl:Option (List (Nat × Bool))) (ops:Array Oper) (k:List Fr) (Q:X→S→Prop) (s:S):aftE (some cut117) pl ops k E Q s=preK E ops k Q (.seq [11]) [(0,false),(4,false),(5,false),(1,false),(2,false),(3,false),(6,false),(7,false),(8,false),(9,false),(10,false)] s:=rfl
theorem f117_ok {l:List Ty} (hl:Go.TM.TyRef l) (h24:l.length≤24) (hf6:∀ t ∈ l,t.fields.length≤6):∀ (f:Nat) (ord:List Int) (n:Int),VOK l f ord n→GenOK Tryz.prog 117 [.ptr 0 0,.int .i64 n] [bxV l ord] ⟨false,.tup [],[],[bxV l (tk l f ord n).2.1]⟩
  | 0,ord,n,h=>by
    have:=h.ff
    omega
  | f + 1,ord,n,h=>by
    refine fun_okG (mkE2_ok zmix (cl:=[]) (gl:=[(117,[],cVis l f)]) [] [(1,cut117)] trivial (ctrG_ok fun a ha=>f117_ok hl h24 hf6 f a.1 a.2 ha)) Tryz.func117 (by kernel_rfl) ?_
    refine FunG_run _ _ rfl rfl ?_
    have hn:=h.nn
    have hol:=h.oo.len
    have hfu:=h.ff
    by_cases h0:n < 0
    · have hlt0:n.toNat < l.length:=by have:=h.pos;omega
      obtain ⟨v,hv⟩:∃ v,(toOf l.length ord)[n.toNat]?=some v:=⟨_,List.getElem?_eq_getElem (by rw [toOf_len];exact hlt0)⟩
      have htl:=toOf_len l.length ord
      simp [-getElem?_pos,gcz,gcs,h0,bxV,tk,hv,htl,hlt0]
    · have h0':0≤n:=by omega
      have hto:=toOf_get (ord:=ord) h0' hn
      have htl:=toOf_len l.length ord
      have hlt:n.toNat < l.length:=by omega
      by_cases hm:n ∈ ord
      · rw [if_pos hm] at hto
        have e0:¬ ((ord.idxOf n:Nat):Int) < 0:=by omega
        generalize htk:tk l (f + 1) ord n=q
        simp only [tk,h0,hm,if_true,if_false] at htk
        subst htk
        simp [-getElem?_pos,gcz,gcs,h0,h0',bxV,hto,htl,hn,hlt]
      · rw [if_neg hm] at hto
        obtain ⟨ty,hty⟩:∃ ty,l[n.toNat]?=some ty:=⟨_,List.getElem?_eq_getElem hlt⟩
        have hmt:ty ∈ l:=List.mem_of_getElem? hty
        have hadd:=h.oo.add hm h0' hn
        have hal:=hadd.len
        rw [List.length_append,List.length_singleton] at hal
        have hfa:l.length - (ord ++ [n]).length < f:=by rw [List.length_append,List.length_singleton];omega
        have hba:=hl.base ty hmt
        have e1:=cVis_eq (l:=l) ⟨hadd,hba,hfa,h.pos⟩
        have hok2:=tk_ok hl f (ord ++ [n]) ty.base hadd hfa hba
        have hset:=toOf_add h0' hn hm
        have hl6:=hf6 ty hmt
        have e2:(tk l (f + 1) ord n).2.1=(fldsW (tk l f) (tk l f (ord ++ [n]) ty.base).2.1 ty.fields).1:=by
          simp [tk,h0,hm,hty]
        rw [e2]
        simp only [bxV,List.map_append,List.map_cons,List.map_nil] at e1
        rw [← hset,List.map_set] at e1
        have hr:room ⟨1,false,8,.int .i64 0⟩ (ord.length + 1):=by simp [room];omega
        simp [-getElem?_pos,gcz,gcs,-aftE_some,cut117_run,pureOp,h0,h0',bxV,hto,htl,hn,hlt,e1,hty,hr]
        generalize hO1:(tk l f (ord ++ [n]) ty.base).2.1=O1 at *
        refine lp_list ty.fields (fun i t=>t.e 0=.ptr 0 0∧t.e 56=.lst (ty.fields.map Fld.v)∧t.e 57=.int .i64 ty.fields.length∧t.e 58=.int .i64 i∧0 < t.nb∧∃ p q,p < t.nt∧q < t.nt∧p ≠ q ∧
          t.B 0=some (.agg [.lst (l.map Ty.v),.own p,.own q])∧t.R p=some ⟨1,(toOf l.length (fldsW (tk l f) O1 (ty.fields.take i)).1).map (V.int .i64),true⟩∧t.R q=some ⟨1,(fldsW (tk l f) O1 (ty.fields.take i)).1.map (V.int .i64),true⟩) ?_ ?_ ?_
        · simp [fldsW];exact ⟨4,by omega,5,by omega,by omega,⟨rfl,rfl⟩,by simp,by simp⟩
        · rintro c' L hL i t x hx hi ih ⟨h1,h2,h3,h4,h5,p,q,hp,hq,npq,hB,hRp,hRq⟩
          have hxm:=List.mem_of_getElem? hx
          have hxr:=hl.flds ty hmt x hxm
          have hw:=wrI (i:=i) (by omega)
          have hsn:=fldsW_snoc (tk l f) x (ty.fields.take i) O1
          rw [show ty.fields.take i ++ [x]=ty.fields.take (i + 1) by rw [List.take_add_one,hx];rfl] at hsn
          have hle:=hok2.le
          rw [List.length_append,List.length_singleton] at hle
          have hTk:=fldsW_ok (m:=f) (fun o (y:Int) ho hm (h0:0≤y) hlt=>tk_ok hl f o y ho hm hlt) (ty.fields.take i) O1 (fun y hy=>hl.flds ty hmt y (List.mem_of_mem_take hy)) hok2.ok (by omega)
          have hle2:=hTk.le
          generalize (fldsW (tk l f) O1 (ty.fields.take i)).1=O2 at *
          have e3:=cVis_eq (l:=l) (f:=f) (ord:=O2) (n:=x.type) ⟨hTk.ok,hxr.2,by omega,h.pos⟩
          simp only [bxV] at e3
          have b1:¬ 0=t.nb:=by omega
          have nqp:¬ q=p:=fun e=>npq e.symm
          simp [-getElem?_pos,gcz,gcs,h1,h2,h3,h4,hB,hRp,hRq,hL,hi,hx,b1,e3,npq,nqp]
          refine ih _ ?_
          simp [h1,h2,h3,h4,hw,b1,hsn]
          exact ⟨t.nt,by omega,t.nt + 1,by omega,by omega,⟨rfl,rfl⟩,by simp,by simp⟩
        · rintro c' t ⟨h1,h2,h3,h4,h5,p,q,hp,hq,npq,hB,hRp,hRq⟩
          rw [List.take_length] at hRp hRq
          have nqp:¬ q=p:=fun e=>npq e.symm
          simp [h1,h2,h3,h4,hB,hRp,hRq,npq,nqp]
end Go.TM.Tryz
end
section
set_option maxHeartbeats 8000000
set_option maxRecDepth 20000
namespace Go.TM.Tryz
open Go Go.TM Go.Proofs
def bxL (l:List Ty) (ord:List Int):V:=.agg [.lst (l.map Ty.v),.lst ((toOf l.length ord).map (V.int .i64)),.lst (ord.map (V.int .i64))]
theorem f119_ok (l:List Ty) (ord:List Int) (n:Int) (hn:n < l.length):FunOK Tryz.prog 119 [.ladr [bxL l ord] 0 0,.int .i64 n] false (.int .i64 (numI ord n)):=by
  refine fun_ok (mkE_ok zmix (cl:=[]) (gl:=[]) [] trivial trivial) Tryz.func119 (by kernel_rfl) ?_
  refine FunW_run _ _ rfl rfl ?_
  by_cases h0:n < 0
  · simp [-getElem?_pos,gcz,gcs,h0,numI]
  · have h0':0≤n:=by omega
    have hto:=toOf_get (ord:=ord) h0' hn
    have htl:=toOf_len l.length ord
    simp [-getElem?_pos,gcz,gcs,h0,h0',hn,hto,htl,bxL,numI]
structure NOK (l:List Ty) (ord:List Int) (n:Int):Prop where
  nn:n < l.length
theorem inj119 {β:Type} {l:List Ty} (out:List Int × Int→β):∀ a b:List Int × Int,[V.ladr [bxL l a.1] 0 0,.int .i64 a.2]=[V.ladr [bxL l b.1] 0 0,.int .i64 b.2]→out a=out b:=by
  rintro ⟨a,m⟩ ⟨b,n⟩ h
  simp only [List.cons.injEq,and_true,V.ladr.injEq,bxL,V.agg.injEq,V.lst.injEq,true_and,V.int.injEq] at h
  rw [map_inj intV_inj h.1.2,h.2]
noncomputable def c119 (l:List Ty):=ctr (fun a:List Int × Int=>a.2 < l.length) (fun a=>[V.ladr [bxL l a.1] 0 0,.int .i64 a.2]) (fun a=>(false,.int .i64 (numI a.1 a.2)))
theorem c119_eq {l:List Ty} {ord:List Int} {n:Int} (h:n < l.length):c119 l [.ladr [.agg [.lst (l.map Ty.v),.lst ((toOf l.length ord).map (V.int .i64)),.lst (ord.map (V.int .i64))]] 0 0,.int .i64 n]=some (false,.int .i64 (numI ord n)) :=
  ctr_eq (inj119 _) (ord,n) h rfl
theorem c119_ok (l:List Ty):COK Tryz.prog (119,c119 l):=ctr_ok fun a h=>f119_ok l a.1 a.2 h
theorem f118_ok (o:Obj) (h:o.params.length≤1048576):FunOK Tryz.prog 118 [o.v] false o.o:=by
  refine fun_ok (mkE_ok zmix (cl:=[]) (gl:=[]) [] trivial trivial) Tryz.func118 (by kernel_rfl) ?_
  refine FunW_run _ _ rfl rfl ?_
  have hr:room ⟨3,true,32,.agg [.str ⟨#[]⟩,.bool false,.int .i64 0]⟩ o.params.length:=by simp [room];omega
  have e:=noLs_par o.params
  simp [hr,e]
noncomputable def c118:=ctr (fun o:Obj=>o.params.length≤1048576) (fun o=>[o.v]) (fun o=>(false,o.o))
theorem c118_eq (o:Obj) (h:o.params.length≤1048576):c118 [o.v]=some (false,o.o):=ctr_eq (inj0 Obj.v_inj _) o h rfl
theorem c118_ok:COK Tryz.prog (118,c118):=ctr_ok fun o h=>f118_ok o h
end Go.TM.Tryz
end
