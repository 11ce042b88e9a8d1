/- A part of the proof: HF, D5, D6, XA, T2, XB, ZO, ZP, ZQ, ZR, ZS. -/
import Derived.Test.YtknondpcbpgpoaaGreatK12
import Derived.Sort.Walk0
import Derived.Laws.Strings
set_option linter.unusedVariables false
set_option linter.unusedSimpArgs false
section
set_option maxHeartbeats 4000000
set_option maxRecDepth 10000
namespace Go.TM.Tryz
open Go Go.TM Go.Proofs
theorem numI_ext' {ord e:List Int} {n:Int} (h:0≤n→n ∈ ord):numI (ord ++ e) n=numI ord n:=by
  by_cases h0:n < 0
  · rw [numI_neg (e:=[]) h0,numI_neg (e:=[]) h0]
  · exact numI_ext (h (by omega))
section
variable {l:List Ty} {g:List Int→Int→Int × List Int × List Ty} {m:Nat}
theorem parsW_v (hok:∀ ord (n:Int),OrdOK l.length ord→l.length - ord.length < m→n < l.length→TkOK l.length ord (g ord n).2.1 (g ord n).2.2)
    (hg:∀ ord (n:Int),OrdOK l.length ord→l.length - ord.length < m→n < l.length→TkV l ord (g ord n).2.1 (g ord n).2.2∧(0≤n→n ∈ (g ord n).2.1)∧(g ord n).1=numI (g ord n).2.1 n) :
    ∀ (xs:List Par) (ord:List Int),(∀ x ∈ xs,x.type < l.length)→OrdOK l.length ord→l.length - ord.length < m →
      TkV l ord (parsW g ord xs).1 (parsW g ord xs).2.2∧∀ d,(parsW g ord xs).2.1=xs.map (renP ((parsW g ord xs).1 ++ d))
  | [],ord,_,h,_=>⟨⟨[],by simp [parsW],fun d _=>rfl⟩,fun d=>rfl⟩
  | x :: xs,ord,hx,h,hm=>by
    have h1:=hok ord x.type h hm (hx x (by simp))
    have h2:=h1.le
    obtain ⟨g1,g2,g3⟩:=hg ord x.type h hm (hx x (by simp))
    obtain ⟨i1,i2⟩:=parsW_v hok hg xs (g ord x.type).2.1 (fun y hy=>hx y (by simp [hy])) h1.ok (by omega)
    have i3:=parsW_ok hok xs (g ord x.type).2.1 (fun y hy=>hx y (by simp [hy])) h1.ok (by omega)
    refine ⟨g1.trans i1,fun d=>?_⟩
    simp only [parsW,List.map_cons,List.cons.injEq]
    refine ⟨?_,i2 d⟩
    obtain ⟨-,e,he,-⟩:=i3
    simp only [renP,Par.mk.injEq,true_and]
    rw [g3,he,List.append_assoc,numI_ext' g2]
theorem objW_v (hok:∀ ord (n:Int),OrdOK l.length ord→l.length - ord.length < m→n < l.length→TkOK l.length ord (g ord n).2.1 (g ord n).2.2)
    (hg:∀ ord (n:Int),OrdOK l.length ord→l.length - ord.length < m→n < l.length→TkV l ord (g ord n).2.1 (g ord n).2.2∧(0≤n→n ∈ (g ord n).2.1)∧(g ord n).1=numI (g ord n).2.1 n)
    {o:Obj} {ord:List Int} (ht:o.type < l.length) (hp:∀ x ∈ o.params,x.type < l.length) (h:OrdOK l.length ord) (hm:l.length - ord.length < m) :
    TkV l ord (objW g ord o).1 (objW g ord o).2.2∧∀ d,(objW g ord o).2.1=(shownO [o]).map (renO ((objW g ord o).1 ++ d)):=by
  unfold objW
  split
  · rename_i h0
    exact ⟨⟨[],by simp,fun d _=>rfl⟩,fun d=>by simp [shownO,h0]⟩
  · rename_i h0
    have h1:=hok ord o.type h hm ht
    have h2:=h1.le
    obtain ⟨g1,g2,g3⟩:=hg ord o.type h hm ht
    obtain ⟨i1,i2⟩:=parsW_v hok hg o.params (g ord o.type).2.1 hp h1.ok (by omega)
    have i3:=parsW_ok hok o.params (g ord o.type).2.1 hp h1.ok (by omega)
    refine ⟨g1.trans i1,fun d=>?_⟩
    obtain ⟨-,e,he,-⟩:=i3
    have e1:shownO [o]=[o]:=by simp [shownO,h0]
    rw [e1]
    simp only [List.map_cons,List.map_nil,renO,List.cons.injEq,and_true,Obj.mk.injEq,true_and]
    refine ⟨?_,i2 d⟩
    rw [g3,he,List.append_assoc,numI_ext' g2]
theorem shownO_cons (o:Obj) (os:List Obj):shownO (o :: os)=shownO [o] ++ shownO os:=by
  simp only [shownO,← List.filter_append]
  rfl
theorem objsW_v (hok:∀ ord (n:Int),OrdOK l.length ord→l.length - ord.length < m→n < l.length→TkOK l.length ord (g ord n).2.1 (g ord n).2.2)
    (hg:∀ ord (n:Int),OrdOK l.length ord→l.length - ord.length < m→n < l.length→TkV l ord (g ord n).2.1 (g ord n).2.2∧(0≤n→n ∈ (g ord n).2.1)∧(g ord n).1=numI (g ord n).2.1 n) :
    ∀ (os:List Obj) (ord:List Int),(∀ o ∈ os,o.type < l.length∧∀ x ∈ o.params,x.type < l.length)→OrdOK l.length ord→l.length - ord.length < m →
      TkV l ord (objsW g ord os).1 (objsW g ord os).2.2∧∀ d,(objsW g ord os).2.1=(shownO os).map (renO ((objsW g ord os).1 ++ d))
  | [],ord,_,h,_=>⟨⟨[],by simp [objsW],fun d _=>rfl⟩,fun d=>rfl⟩
  | o :: os,ord,ho,h,hm=>by
    have h1:=objW_ok hok (ho o (by simp)).1 (ho o (by simp)).2 h hm
    have h2:=h1.le
    obtain ⟨g1,g2⟩:=objW_v hok hg (ho o (by simp)).1 (ho o (by simp)).2 h hm
    obtain ⟨i1,i2⟩:=objsW_v hok hg os (objW g ord o).1 (fun y hy=>ho y (by simp [hy])) h1.ok (by omega)
    have i3:=objsW_ok hok os (objW g ord o).1 (fun y hy=>ho y (by simp [hy])) h1.ok (by omega)
    refine ⟨g1.trans i1,fun d=>?_⟩
    obtain ⟨-,e,he,-⟩:=i3
    rw [shownO_cons,List.map_append]
    simp only [objsW]
    rw [i2 d,he,List.append_assoc,← g2 (e ++ d)]
end
theorem renT_base (O:List Int) {ty:Ty} (h:ty ∈ baseTys):renT O ty=ty:=by
  obtain ⟨h1,h2⟩:=base_no h
  cases ty
  simp only at h1 h2
  subst h1 h2
  simp [renT,numI]
theorem exI_eq (s:Scp) (h:BOK s.types) (hs:ExRef s):exI s=exS s:=by
  have hl3:=hs.t3
  have hord0:OrdOK s.types.length [0,1,2]:=⟨by decide,by simp;omega⟩
  obtain ⟨⟨e,h1,h2⟩,h3⟩:=objsW_v (l:=s.types) (g:=tk s.types (s.types.length + 1)) (m:=s.types.length + 1) (fun o n ho hm hn=>tk_ok hs.ty _ o n ho hm hn) (fun o n ho hm hn=>tk_v hs.ty _ o n ho hm hn) s.objects [0,1,2] hs.ob hord0 (by omega)
  have hok:=objsW_ok (m:=s.types.length + 1) (fun o n ho hm hn=>tk_ok hs.ty _ o n ho hm hn) s.objects [0,1,2] hs.ob hord0 (by omega)
  have h4:=h2 [] (by rw [List.append_nil];exact hok.ok)
  have h5:=h3 []
  rw [List.append_nil] at h4 h5
  have e1:exI s=⟨s.name,[],baseTys ++ (objsW (tk s.types (s.types.length + 1)) [0,1,2] s.objects).2.2,(objsW (tk s.types (s.types.length + 1)) [0,1,2] s.objects).2.1,[]⟩:=rfl
  have e2:exS s=⟨s.name,[],renTs s.types (ordO s) (ordO s),(shownO s.objects).map (renO (ordO s)),[]⟩:=rfl
  have e3:ordO s=(objsW (tk s.types (s.types.length + 1)) [0,1,2] s.objects).1:=rfl
  rw [e1,e2,h5,h4,e3]
  have hb:=h.hb
  have hbt:baseTys=renTs s.types (objsW (tk s.types (s.types.length + 1)) [0,1,2] s.objects).1 [0,1,2]:=by
    generalize (objsW (tk s.types (s.types.length + 1)) [0,1,2] s.objects).1=O
    obtain ⟨t0,a0,b0⟩:=base_at hb (i:=0) (by omega)
    obtain ⟨t1,a1,b1⟩:=base_at hb (i:=1) (by omega)
    obtain ⟨t2,a2,b2⟩:=base_at hb (i:=2) (by omega)
    have et:renTs s.types O [0,1,2]=[t0,t1,t2]:=by
      simp only [renTs,List.filterMap_cons,List.filterMap_nil]
      simp only [show (0:Int).toNat=0 from rfl,show (1:Int).toNat=1 from rfl,show (2:Int).toNat=2 from rfl,a0,a1,a2,Option.map_some,renT_base O b0,renT_base O b1,renT_base O b2]
    rw [et,← hb]
    apply List.ext_getElem?
    intro i
    rw [List.getElem?_take]
    match i with
    | 0=>simpa using a0
    | 1=>simpa using a1
    | 2=>simpa using a2
    | i + 3=>simp;omega
  have hr:renTs s.types (objsW (tk s.types (s.types.length + 1)) [0,1,2] s.objects).1 (objsW (tk s.types (s.types.length + 1)) [0,1,2] s.objects).1=renTs s.types (objsW (tk s.types (s.types.length + 1)) [0,1,2] s.objects).1 [0,1,2] ++ renTs s.types (objsW (tk s.types (s.types.length + 1)) [0,1,2] s.objects).1 e:=by
    rw [← renL_append,← h1]
  rw [hr,← hbt]
end Go.TM.Tryz
end
section
namespace Go.TM
open Go
theorem toList_inj {a b:ByteArray} (h:a.toList=b.toList):a=b:=by
  have:=congrArg List.toArray h
  cases a
  cases b
  simp [ByteArray.toList_eq] at this h ⊢
  exact h
end Go.TM
end
section
namespace Go.TM
open Go
structure Fgr where
  name:ByteArray
  mark:Int
  sum:Int
structure Chg where
  name:ByteArray
  kind:Int
instance:Inhabited Fgr:=⟨⟨⟨#[]⟩,0,0⟩⟩
instance:Inhabited Chg:=⟨⟨⟨#[]⟩,0⟩⟩
@[simp] def Fgr.v (x:Fgr):V:=.agg [.str x.name,.int .i64 x.mark,.int .i64 x.sum]
@[simp] def Chg.v (x:Chg):V:=.agg [.str x.name,.int .i64 x.kind]
@[simp] theorem cut_fgr (xs:List Fgr):(xs=[] ∨ (leaves ((Option.map Fgr.v xs[0]?).getD .bad)).length=3)=True:=cut_ok (f:=Fgr.v) (n:=3) (fun _=>rfl) xs
@[simp] theorem cut_chg (xs:List Chg):(xs=[] ∨ (leaves ((Option.map Chg.v xs[0]?).getD .bad)).length=2)=True:=cut_ok (f:=Chg.v) (n:=2) (fun _=>rfl) xs
@[simp] theorem norms_fgr (xs:List Fgr):norms (xs.map Fgr.v)=xs.map Fgr.v:=by rw [norms_map];simp
@[simp] theorem norms_chg (xs:List Chg):norms (xs.map Chg.v)=xs.map Chg.v:=by rw [norms_map];simp
@[simp] theorem noLs_fgr (xs:List Fgr):noLs (xs.map Fgr.v)=true:=noLs_map _ (by simp) _
@[simp] theorem noLs_chg (xs:List Chg):noLs (xs.map Chg.v)=true:=noLs_map _ (by simp) _
theorem Fgr.v_inj:Function.Injective Fgr.v:=by rintro ⟨⟩ ⟨⟩;simp
theorem Chg.v_inj:Function.Injective Chg.v:=by rintro ⟨⟩ ⟨⟩;simp
def Fgr.lim (x:Fgr):Prop:=x.name.size≤TM.lim
def Chg.lim (x:Chg):Prop:=x.name.size≤TM.lim
end Go.TM
end
section
set_option maxHeartbeats 2000000
namespace Go.TM.Tryz
open Go Go.TM Go.Proofs
def wU (a:Int):Int:=IntKind.u64.wrap a
def bU (a:Int):Nat:=(a % 2 ^ IntKind.u64.bits).toNat
def xorU (a b:Int):Int:=wU (bU a ^^^ bU b:Nat)
def andU (a:Int):Int:=wU (bU a &&& (4611686018427387903 % 2 ^ IntKind.u64.bits):Nat)
def shrU (a:Int) (n:Nat):Int:=a.fdiv (2 ^ min n IntKind.u64.bits)
def mix1 (a b:Int):Int:=wU (wU (wU (wU a * 31) + wU (wU b * 131)) + 17)
def mix2 (x:Int):Int:=wU (xorU x (shrU x 29) * 1000003)
def mix3 (x:Int):Int:=IntKind.i64.wrap (andU (xorU x (shrU x 32)))
theorem mix_ex:∃ f:Int→Int→Int,∀ a b,f a b=mix3 (mix2 (mix1 a b)):=⟨fun a b=>mix3 (mix2 (mix1 a b)),fun _ _=>rfl⟩
noncomputable def mixI:Int→Int→Int:=Classical.choose mix_ex
end Go.TM.Tryz
end
section
namespace Go.TM
open Go
variable {E:Env}
def planF (E:Env) (all:Array Oper) (pl:List (Nat × Bool)) (d:Option Tmp) (s:S) (K:S→Prop) (u:S):Prop :=
  match d with
  | some d=>planW E all pl u (s.put (some d) (u.e d)) K
  | none=>planW E all pl u s K
def planM (E:Env) (all:Array Oper) (pl:List (Nat × Bool)) (d:Option Tmp) (u:S) (K:S→Prop) (s:S):Prop :=
  match d with
  | some d=>planW E all pl (u.put (some d) (flatC (s.e d))) s K
  | none=>planW E all pl u s K
def planI (E:Env) (all:Array Oper) (pl:List (Nat × Bool)) (b:Bool) (o:Option Oper) (u s:S) (K:S→Prop):Prop :=
  match o,b with
  | some o,false=>pureOp E u o∧kont E [.ops true all [o]] (fun _=>planF E all pl o.dst s K) .normal u
  | some o,true=>kont E [.ops false all [o]] (fun _=>planM E all pl o.dst u K) .normal s
  | none,_=>False
theorem planW_nil (all:Array Oper) (u s:S) (K:S→Prop):planW E all [] u s K=K u:=by rfl
theorem planW_cons (all:Array Oper) (i:Nat) (b:Bool) (pl:List (Nat × Bool)) (u s:S) (K:S→Prop):planW E all ((i,b) :: pl) u s K=planI E all pl b all[i]? u s K:=by
  cases b <;> cases h:all[i]? with
  | none=>simp only [planW,h,planI]
  | some o =>
    simp only [planW,h,planI,kont]
    cases hd:o.dst <;> simp only [planF,planM] <;> rfl
theorem planI_pure (all:Array Oper) (pl:List (Nat × Bool)) (o:Oper) (u s:S) (K:S→Prop):planI E all pl false (some o) u s K=(pureOp E u o∧kont E [.ops true all [o]] (fun _=>planF E all pl o.dst s K) .normal u):=by rfl
theorem planI_mem (all:Array Oper) (pl:List (Nat × Bool)) (o:Oper) (u s:S) (K:S→Prop):planI E all pl true (some o) u s K=kont E [.ops false all [o]] (fun _=>planM E all pl o.dst u K) .normal s:=by rfl
theorem planF_some (all:Array Oper) (pl:List (Nat × Bool)) (d:Tmp) (s:S) (K:S→Prop) (u:S):planF E all pl (some d) s K u=planW E all pl u (s.put (some d) (u.e d)) K:=by rfl
theorem planM_some (all:Array Oper) (pl:List (Nat × Bool)) (d:Tmp) (u:S) (K:S→Prop) (s:S):planM E all pl (some d) u K s=planW E all pl (u.put (some d) (flatC (s.e d))) s K:=by rfl
theorem planF_none (all:Array Oper) (pl:List (Nat × Bool)) (s:S) (K:S→Prop) (u:S):planF E all pl none s K u=planW E all pl u s K:=by rfl
theorem planM_none (all:Array Oper) (pl:List (Nat × Bool)) (u:S) (K:S→Prop) (s:S):planM E all pl none u K s=planW E all pl u s K:=by rfl
theorem aftD_some (pl:List (Nat × Bool)) (ops:Array Oper) (k:List Fr) (Q:X→S→Prop) (s:S):aftD (some pl) ops k E Q s=planW E ops pl s.see { s.see with B:=fun _=>none } fun u=>kont E k Q .normal (s.after u ops):=by rfl
attribute [simp] planW_nil planW_cons planI_pure planI_mem planF_some planM_some planF_none planM_none aftD_some
@[simp] theorem vwE_str:vwE ∘ V.str=V.str:=by funext x;rfl
@[simp] theorem vwE_int:vwE ∘ V.int .i64=V.int .i64:=by funext x;rfl
theorem ctr_none {α:Type} {p:α→Prop} {enc:α→List V} {out:α→Bool × V} {args:List V} (h:∀ a,p a→enc a ≠ args):ctr p enc out args=none:=by
  unfold ctr
  rw [dif_neg]
  rintro ⟨a,h1,h2⟩
  exact h a h1 h2
end Go.TM
end
section
set_option maxHeartbeats 2000000
namespace Go.TM.Tryz
open Go Go.TM Go.Proofs
noncomputable def mixT:Int→List Int→Int
  | a,[]=>a
  | a,x :: xs=>mixT (mixI a x) xs
noncomputable def mixL (l:List Int):Int:=mixT l.length l
noncomputable def mixTo (l:List Int) (i:Nat):Int:=(l.take i).foldl mixI l.length
@[simp] theorem mixTo_zero (l:List Int):mixTo l 0=l.length:=by simp [mixTo]
def byI (b:UInt8):Int:=b.toNat
def bysI (s:ByteArray):List Int:=s.data.toList.map byI
noncomputable def textI (s:ByteArray):Int:=mixL (bysI s)
@[simp] theorem bysI_len (s:ByteArray):(bysI s).length=s.size:=by simp [bysI]
end Go.TM.Tryz
end
section
set_option maxHeartbeats 2000000
namespace Go.TM.Tryz
open Go Go.TM Go.Proofs
def tyAt (l:List Ty) (i:Nat) (x:Ty):Bool:=!(!decide (x.name=⟨#[]⟩) && ((l.take (3 + i)).drop 3).any (sameTyB x)) && typeB l x
def typesB (l:List Ty):Bool:=inB l.length 3 24 && tysEq (l.take 3) baseTys && allI (tyAt l) (l.drop 3) (l.drop 3).length
@[simp] theorem baseTys_length:baseTys.length=3:=rfl
theorem baseTys_lim:limL Ty.lim baseTys:=by
  refine ⟨by simp [lim],?_⟩
  intro x hx
  simp only [baseTys,List.mem_cons,List.not_mem_nil,or_false] at hx
  rcases hx with rfl | rfl | rfl <;> refine ⟨⟨by simp [lim],by simp⟩,?_,?_⟩ <;> simp [lim,ByteArray.size]
theorem limL_take {α:Type} {p:α→Prop} {l:List α} (h:limL p l) (n:Nat):limL p (l.take n):=⟨Nat.le_trans (by simp;omega) h.1,fun x hx=>h.2 x (List.mem_of_mem_take hx)⟩
theorem f176_ok (l:List Ty) (hl:limL Ty.lim l):FunOK Tryz.prog 176 [.lst (l.map Ty.v)] false (.bool (typesB l)):=by
  refine fun_ok (mkE_ok zmix (cl:=[(146,c146),(175,c175),(217,c217),(219,c219),(221,c221)]) (gl:=[]) [] ⟨c146_ok,c175_ok,c217_ok,c219_ok,c221_ok⟩ trivial) Tryz.func176 (by kernel_rfl) ?_
  refine FunW_run _ _ rfl rfl ?_
  have hlen:=hl.1
  simp only [lim] at hlen
  have e95:=c217_eq (l.take 3) baseTys (limL_take hl 3) baseTys_lim
  rw [List.map_take] at e95
  have e67:=c175_eq l.length 3 24
  cases h67:inB l.length 3 24
  · rw [h67] at e67
    simp [c146_eq,e67,e95,typesB,h67]
  · rw [h67] at e67
    have h3:3≤l.length:=by simp [inB] at h67;omega
    have h3':(3:Int)≤l.length:=by omega
    cases h95:tysEq (l.take 3) baseTys
    · rw [h95] at e95
      simp [c146_eq,e67,e95,typesB,h67,h95,h3']
    · rw [h95] at e95
      simp [c146_eq,e67,e95,h3']
      obtain ⟨q,hq⟩:∃ q,q=l.drop 3:=⟨_,rfl⟩
      have hql:q.length=l.length - 3:=by rw [hq];simp
      refine lp_list q (fun i t=>t.e 0=.lst (l.map Ty.v)∧hasR t (t.e 3) 6 (baseTys.map Ty.o)∧t.e 26=.lst (q.map Ty.v)∧t.e 27=.int .i64 q.length∧t.e 28=.int .i64 i∧allI (tyAt l) q i=true) ?_ ?_ ?_
      · subst hq
        simp
      · rintro c' L hL i t x hx hi ih ⟨h0,⟨r,h3,hlt,hR⟩,h26,h27,h28,hall⟩
        have hw:=wrI (i:=i) (by omega)
        have hw3:IntKind.i64.wrap (3 + (i:Int))=((3 + i:Nat):Int):=wrap64 (by omega) (by omega)
        have hxl:x ∈ l:=List.mem_of_mem_drop (i:=3) (hq ▸ List.mem_of_getElem? hx)
        have e99:=c221_eq l x hl.1 (hl.2 x hxl)
        have e97:=c219_eq ((l.take (3 + i)).drop 3) x (by simp [lim];omega)
        rw [List.map_drop,List.map_take] at e97
        simp only [Ty.v] at e97 e99
        have h3i:(3 + (i:Int))≤l.length:=by omega
        have hne:¬ r=t.nt:=by omega
        have a1:(3:Int)≤3 + i:=by omega
        have a2:(3 + (i:Int)).toNat=3 + i:=by omega
        have no:tyAt l i x=false→typesB l=false:=fun hn=>by
          have:=allI_no hx hn
          simp [typesB,← hq,this]
        have go:∀ s',tyAt l i x=true→s'.e 0=.lst (l.map Ty.v)→s'.e 3=.own r→r < s'.nt→s'.R r=some ⟨6,baseTys.map Ty.o,true⟩→s'.e 26=.lst (q.map Ty.v)→s'.e 27=.int .i64 q.length→s'.e 28=.int .i64 ((i + 1:Nat):Int)→L s':=fun s' hy g0 g3 gl gR g26 g27 g28 =>
          ih s' ⟨g0,⟨r,g3,gl,gR⟩,g26,g27,g28,by rw [allI_succ hx,hall,hy];rfl⟩
        cases hn:decide (x.name=⟨#[]⟩) <;> cases hy:typeB l x <;> cases ha:((l.take (3 + i)).drop 3).any (sameTyB x)
        all_goals
          rw [hy] at e99
          rw [ha] at e97
          simp only [decide_eq_true_eq,decide_eq_false_iff_not] at hn
          try rw [hn] at e97 e99
          simp [-getElem?_pos,gcz,gcs,h0,h3,hR,h26,h27,h28,hL,hi,hx,hw3,h3i,a1,a2,e97,e99,hn,hne]
          first
          | (apply no;simp [tyAt,hn,hy,ha];done)
          | (apply go <;> simp [tyAt,hn,hy,ha,h0,h3,hR,h26,h27,h28,hw,hne] <;> omega)
          | skip
      · rintro c' t ⟨h0,⟨r,h3,hlt,hR⟩,h26,h27,h28,hall⟩
        simp [h0,h3,hR,h26,h27,h28,typesB,h67,h95,← hq,hall]
noncomputable def c176:=ctr (fun l:List Ty=>limL Ty.lim l) (fun l=>[.lst (l.map Ty.v)]) (fun l=>(false,.bool (typesB l)))
theorem c176_eq (l:List Ty) (h:limL Ty.lim l):c176 [.lst (l.map Ty.v)]=some (false,.bool (typesB l)):=ctr_eq (injl Ty.v_inj _) l h rfl
theorem c176_ok:COK Tryz.prog (176,c176):=ctr_ok fun l h=>f176_ok l h
end Go.TM.Tryz
end
section
set_option maxHeartbeats 2000000
namespace Go.TM.Tryz
open Go Go.TM Go.Proofs
def nxL (p:Bool) (l:List Ty) (n:Int):List Int:=((l[n.toNat]?).map (partsL p)).getD []
structure RPre (p:Bool) (l:List Ty) (from_:List Int):Prop where
  len:l.length≤24
  fld:∀ x ∈ l,x.fields.length≤6
  nxt:∀ x ∈ l,Within l.length (partsL p x)
  src:Within l.length from_
  nod:from_.Nodup
theorem nxL_at {p:Bool} {l:List Ty} {n:Int} (h0:0≤n) (h1:n < l.length):∃ x,l[n.toNat]?=some x∧x ∈ l∧nxL p l n=partsL p x:=by
  have h:n.toNat < l.length:=by omega
  exact ⟨l[n.toNat],List.getElem?_eq_getElem h,List.getElem_mem h,by simp [nxL,h]⟩
theorem take_succ_at {α:Type} {l:List α} {i:Nat} {x:α} (h:l[i]?=some x):l.take (i + 1)=l.take i ++ [x]:=by
  rw [List.take_add_one,h]
  rfl
theorem f225_ok (p:Bool) (l:List Ty) (fr:List Int) (h:RPre p l fr):FunOK Tryz.prog 225 [.lst (l.map Ty.v),.lst (fr.map (V.int .i64)),.bool p] false (.inl 1 ((sortI (reachL (nxL p l) (l.length + 1) 0 fr)).map (V.int .i64))):=by
  refine fun_ok (mkE_ok zmix (cl:=[(252,c252),(222,c222),(224,c224)]) (gl:=[(223,[true],c223)]) [] ⟨c252_ok,c222_ok,c224_ok⟩ c223_ok) Tryz.func225 (by kernel_rfl) ?_
  refine FunW_run _ _ rfl rfl ?_
  have hfl:=nodup_within h.nod h.src
  have hlen:=h.len
  simp [c252_eq fr (by omega)]
  refine lp_ind (fun m t=>∃ (i:Nat) (out:List Int),t.e 0=.lst (l.map Ty.v)∧t.e 2=.bool p∧t.e 8=.int .i64 i∧hasR t (t.e 7) 1 (out.map (V.int .i64))∧Within l.length out∧out.Nodup∧i≤out.length∧m + i=l.length∧reachL (nxL p l) (m + 1) i out=reachL (nxL p l) (l.length + 1) 0 fr) l.length ⟨0,fr,?_⟩ ?_
  · simp [h.src,h.nod]
  · rintro c' L hL m t ih ⟨i,out,h0,h2,h8,⟨r,h7,hlt,hR⟩,hwi,hnd,hio,hmi,heq⟩
    have hle:=nodup_within hnd hwi
    by_cases hi:i < out.length
    · have hn:=List.getElem?_eq_getElem hi
      obtain ⟨x,hx,hxl,hnx⟩:=nxL_at (p:=p) (hwi out[i] (List.getElem_mem hi)).1 (hwi out[i] (List.getElem_mem hi)).2
      have e100:=c222_eq x p (by have:=h.fld x hxl;omega)
      simp only [Ty.v] at e100
      have hi2:(out[i]).toNat < l.length:=by have:=hwi out[i] (List.getElem_mem hi);omega
      have hb:=hwi out[i] (List.getElem_mem hi)
      simp [-getElem?_pos,-List.getElem_map,gcz,gcs,h0,h2,h8,h7,hR,hL,hi,hn,hx,hi2,hb,e100]
      have hk6:=h.fld x hxl
      have hkl:(partsL p x).length≤7:=by have:=baseL_len p x;simp [partsL];omega
      refine lp_list (partsL p x) (fun j s=>s.e 0=.lst (l.map Ty.v)∧s.e 2=.bool p∧s.e 8=.int .i64 i∧s.e 28=.int .i64 (partsL p x).length∧s.e 29=.int .i64 j ∧
        ∃ q r,s.e 27=.own q∧q < s.nt∧s.R q=some ⟨1,(partsL p x).map (V.int .i64),true⟩∧s.e 7=.own r∧r < s.nt∧s.R r=some ⟨1,(addL out ((partsL p x).take j)).map (V.int .i64),true⟩∧q ≠ r) ?_ ?_ ?_
      · have hne:¬ t.nt=r:=by omega
        have hne2:¬ r=t.nt:=by omega
        simp [h0,h2,h8,h7,hR,hne,hne2,addL]
        omega
      · rintro c2 L2 hL2 j s k hk hj ih2 ⟨g0,g2,g8,g28,g29,q,r2,g27,gq,gR,g7,gr,gR2,gne⟩
        have hw:=wrI (i:=j) (by omega)
        have hwi':Within l.length (addL out ((partsL p x).take j)):=fun y hy=>by
          rcases mem_addL.1 hy with h1 | h1
          · exact hwi y h1
          · exact h.nxt x hxl y (List.mem_of_mem_take h1)
        have hnd':=addL_nodup (ks:=(partsL p x).take j) hnd
        have hle':=nodup_within hnd' hwi'
        have e102:=c224_eq (addL out ((partsL p x).take j)) k (by simp [lim];omega)
        have hsucc:addL out ((partsL p x).take (j + 1))=if k ∈ addL out ((partsL p x).take j) then addL out ((partsL p x).take j) else addL out ((partsL p x).take j) ++ [k]:=by
          rw [take_succ_at hk,addL_append]
          rfl
        have n1:¬ q=s.nt:=by omega
        have n2:¬ r2=s.nt:=by omega
        have n3:¬ s.nt=q:=by omega
        have n4:¬ s.nt=r2:=by omega
        have hroom:room ⟨1,false,8,.int .i64 0⟩ ((addL out ((partsL p x).take j)).length + 1):=by simp [room];omega
        have hr1:room ⟨1,false,8,.int .i64 0⟩ 1:=by simp [room]
        generalize hO:addL out ((partsL p x).take j)=O at *
        cases hm:hasI O k
        · rw [hm] at e102
          have hkm:k ∉ O:=fun hc=>by rw [hasI_iff.2 hc] at hm;cases hm
          rw [if_neg hkm] at hsucc
          simp [-getElem?_pos,-List.getElem_map,gcz,gcs,g0,g2,g8,g28,g29,g27,gR,g7,gR2,hL2,hj,hk,e102,n1,n2,n3,n4,hroom,hr1,gne]
          refine ih2 _ ?_
          have n5:¬ q=s.nt + 1:=by omega
          have n6:¬ s.nt + 1=q:=by omega
          simp [g0,g2,g8,g28,g29,g27,gR,hw,hsucc,n1,n2,n3,n4,n5,n6,gne]
          omega
        · rw [hm] at e102
          rw [if_pos (hasI_iff.1 hm)] at hsucc
          simp [-getElem?_pos,-List.getElem_map,gcz,gcs,g0,g2,g8,g28,g29,g27,gR,g7,gR2,hL2,hj,hk,e102,n1,n2,n3,n4,gne]
          refine ih2 _ ?_
          simp [g0,g2,g8,g28,g29,g27,gR,g7,gR2,hw,hsucc,gq,gr,gne]
      · rintro c2 s ⟨g0,g2,g8,g28,g29,q,r2,g27,gq,gR,g7,gr,gR2,gne⟩
        rw [List.take_length] at gR2
        have hw:=wrI (i:=i) (by omega)
        simp [g0,g2,g8,g28,g29,g27,g7,hL]
        obtain ⟨ex,hex,_⟩:=addL_ext (partsL p x) out
        refine ih (m - 1) _ (by omega) ⟨i + 1,addL out (partsL p x),?_⟩
        have hm1:m - 1 + 1=m:=by omega
        simp [g0,g2,g8,g7,hw,gr,gR2]
        refine ⟨?_,addL_nodup hnd,?_,by omega,?_⟩
        · intro y hy
          rcases mem_addL.1 hy with h1 | h1
          · exact hwi y h1
          · exact h.nxt x hxl y h1
        · rw [hex];simp;omega
        · rw [hm1,← heq]
          conv=>rhs;rw [reachL]
          rw [hn]
          simp [hnx]
    · have hn:out[i]?=none:=by simp;omega
      have e101:=c223_eq out (by omega)
      have hreach:reachL (nxL p l) (l.length + 1) 0 fr=out:=by
        rw [← heq,reachL,hn]
      simp [h0,h2,h8,h7,hR,hi,e101,hreach,hlt]
noncomputable def c225:=ctr (fun a:Bool × List Ty × List Int=>RPre a.1 a.2.1 a.2.2) (fun a=>[.lst (a.2.1.map Ty.v),.lst (a.2.2.map (V.int .i64)),.bool a.1]) (fun a=>(false,.inl 1 ((sortI (reachL (nxL a.1 a.2.1) (a.2.1.length + 1) 0 a.2.2)).map (V.int .i64))))
theorem inj225 {β:Type} (out:Bool × List Ty × List Int→β):∀ a b:Bool × List Ty × List Int,[V.lst (a.2.1.map Ty.v),.lst (a.2.2.map (V.int .i64)),.bool a.1]=[V.lst (b.2.1.map Ty.v),.lst (b.2.2.map (V.int .i64)),.bool b.1]→out a=out b:=by
  rintro ⟨a,c,e⟩ ⟨b,d,f⟩ h
  simp only [List.cons.injEq,and_true,V.lst.injEq,V.bool.injEq] at h
  rw [map_inj Ty.v_inj h.1,map_inj int_inj h.2.1,h.2.2]
theorem c225_eq (p:Bool) (l:List Ty) (fr:List Int) (h:RPre p l fr):c225 [.lst (l.map Ty.v),.lst (fr.map (V.int .i64)),.bool p]=some (false,.inl 1 ((sortI (reachL (nxL p l) (l.length + 1) 0 fr)).map (V.int .i64))):=ctr_eq (inj225 _) (p,l,fr) h rfl
theorem c225_ok:COK Tryz.prog (225,c225):=ctr_ok fun a h=>f225_ok a.1 a.2.1 a.2.2 h
end Go.TM.Tryz
end
section
set_option maxHeartbeats 2000000
namespace Go.TM.Tryz
open Go Go.TM Go.Proofs
structure TPre (l:List Ty):Prop where
  len:l.length≤24
  fld:∀ x ∈ l,x.fields.length≤6
  nxt:∀ x ∈ l,Within l.length (partsL false x)
def srcL (x:Ty):List Int:=Lib.compact (sortI (partsL false x))
theorem TPre.pre {l:List Ty} (h:TPre l) {x:Ty} (hx:x ∈ l):RPre false l (srcL x) :=
  ⟨h.len,h.fld,h.nxt,fun y hy=>h.nxt x hx y (mem_sortI.1 (mem_compact.1 hy)),compact_nodup (sortI_sorted _)⟩
def roundI (l:List Ty) (x:Ty) (n:Int):Bool:=hasI (sortI (reachL (nxL false l) (l.length + 1) 0 (srcL x))) n
theorem parts_len {l:List Ty} (h:TPre l) {x:Ty} (hx:x ∈ l):(partsL false x).length≤7:=by
  have:=baseL_len false x
  have:=h.fld x hx
  simp [partsL]
  omega
theorem reach_len {l:List Ty} (h:TPre l) {x:Ty} (hx:x ∈ l):(reachL (nxL false l) (l.length + 1) 0 (srcL x)).length≤24:=by
  have hp:=h.pre hx
  have key:=reachL_spec (nx:=nxL false l) (L:=l.length) (fun n h0 h1=>by
    obtain ⟨y,_,hy,e⟩:=nxL_at (p:=false) h0 h1
    rw [e]
    exact h.nxt y hy) (l.length + 1) 0 (srcL x) hp.src hp.nod (Nat.zero_le _) (by omega) (by omega)
  exact Nat.le_trans (nodup_within key.2.2 key.2.1) h.len
theorem f177_ok (l:List Ty) (n:Nat) (x:Ty) (h:TPre l) (hx:l[n]?=some x):FunOK Tryz.prog 177 [.lst (l.map Ty.v),.int .i64 n] false (.bool (roundI l x n)):=by
  refine fun_ok (mkE_ok zmix (cl:=[(222,c222),(224,c224),(225,c225)]) (gl:=[(223,[true],c223),(226,[true],c226)]) [] ⟨c222_ok,c224_ok,c225_ok⟩ ⟨c223_ok,c226_ok⟩) Tryz.func177 (by kernel_rfl) ?_
  refine FunW_run _ _ rfl rfl ?_
  have hxl:x ∈ l:=List.mem_of_getElem? hx
  have hn:n < l.length:=by
    rw [List.getElem?_eq_some_iff] at hx
    exact hx.1
  have e100:=c222_eq x false (by have:=h.fld x hxl;omega)
  have e101:=c223_eq (partsL false x) (by have:=parts_len h hxl;omega)
  have e104:=c226_eq (sortI (partsL false x)) (by rw [(sortI_perm _).length_eq];have:=parts_len h hxl;omega)
  have e103:=c225_eq false l (srcL x) (h.pre hxl)
  have e102:=c224_eq (sortI (reachL (nxL false l) (l.length + 1) 0 (srcL x))) n (by rw [(sortI_perm _).length_eq];have:=reach_len h hxl;simp [lim];omega)
  simp only [Ty.v] at e100
  simp only [srcL] at e103 e102
  simp [-getElem?_pos,gcz,gcs,hx,hn,e100,e101,e104,e103,e102,roundI,srcL]
end Go.TM.Tryz
end
section
set_option maxHeartbeats 2000000
namespace Go.TM.Tryz
open Go Go.TM Go.Proofs
theorem inB_iff {n a b:Int}:inB n a b=true ↔ a≤n∧n≤b:=by simp [inB]
theorem mem_partsL {p:Bool} {x:Ty} {k:Int}:k ∈ partsL p x ↔ (0≤x.base∧(p=true ∨ x.kind ≠ 6)∧k=x.base) ∨ ∃ f ∈ x.fields,k=f.type:=by
  unfold partsL baseL
  rw [List.mem_append]
  constructor
  · rintro (h | h)
    · split at h
      · rename_i hc
        simp at hc
        simp only [List.mem_singleton] at h
        exact .inl ⟨hc.1,hc.2,h⟩
      · cases h
    · obtain ⟨f,hf,rfl⟩:=List.mem_map.1 h
      exact .inr ⟨f,hf,rfl⟩
  · rintro (⟨h1,h2,rfl⟩ | ⟨f,hf,rfl⟩)
    · left
      rw [if_pos (by simpa using ⟨h1,h2⟩)]
      simp
    · exact .inr (List.mem_map.2 ⟨f,hf,rfl⟩)
theorem fldsB_fields {n:Nat} {l:List Fld} (h:fldsB n l=true):l.length≤6∧∀ f ∈ l,0≤f.type∧f.type < n:=by
  simp only [fldsB,Bool.and_eq_true,decide_eq_true_eq] at h
  refine ⟨h.2,fun f hf=>?_⟩
  obtain ⟨i,hi,rfl⟩:=List.mem_iff_getElem.1 hf
  have:=allI_iff.1 h.1 i _ (List.getElem?_eq_getElem hi)
  simp only [fldAt,Bool.and_eq_true,inB_iff] at this
  omega
theorem typeB_parts {l:List Ty} {x:Ty} (h:typeB l x=true):x.fields.length≤6∧Within l.length (partsL false x):=by
  simp only [typeB,Bool.and_eq_true,Bool.not_eq_true',Bool.and_eq_false_iff,Bool.not_eq_false',decide_eq_true_eq,decide_eq_false_iff_not] at h
  obtain ⟨⟨_,h1⟩,h2⟩:=h
  unfold typeKB at h2
  have nof:¬x.kind=5→x.fields=[]:=fun hk=>by
    rcases h1 with h1 | h1
    · exact absurd h1 hk
    · exact List.length_eq_zero_iff.1 (by omega)
  split at h2
  · rename_i hk
    have hf:=nof (by omega)
    simp only [Bool.and_eq_true,inB_iff] at h2
    refine ⟨by simp [hf],fun k hkm=>?_⟩
    rcases mem_partsL.1 hkm with ⟨h3,_,rfl⟩ | ⟨f,hff,_⟩
    · omega
    · rw [hf] at hff;cases hff
  · split at h2
    · rename_i _ hk
      simp only [Bool.and_eq_true,Bool.or_eq_true,decide_eq_true_eq] at h2
      obtain ⟨h3,h4⟩:=fldsB_fields h2.2
      refine ⟨h3,fun k hkm=>?_⟩
      rcases mem_partsL.1 hkm with ⟨h5,_,rfl⟩ | ⟨f,hff,rfl⟩
      · rcases h2.1.2 with h6 | h6
        · omega
        · simp only [kindAt,Bool.and_eq_true,inB_iff] at h6
          omega
      · exact h4 f hff
    · rename_i hk4 hk5
      have hf:=nof hk5
      simp only [Bool.and_eq_true,decide_eq_true_eq] at h2
      refine ⟨by simp [hf],fun k hkm=>?_⟩
      rcases mem_partsL.1 hkm with ⟨h3,h6,rfl⟩ | ⟨f,hff,_⟩
      · simp at h6
        omega
      · rw [hf] at hff;cases hff
theorem tyEq_base {x y:Ty} (h:tyEq x y=true) (hy:y ∈ baseTys):x.base=-1∧x.fields=[]:=by
  simp only [tyEq,Bool.and_eq_true,beq_iff_eq,decide_eq_true_eq] at h
  obtain ⟨⟨⟨⟨⟨_,_⟩,h1⟩,h2⟩,_⟩,_⟩:=h
  simp only [fldsEq,Bool.and_eq_true,decide_eq_true_eq] at h2
  have hy':y.base=-1∧y.fields=[]:=by
    simp only [baseTys,List.mem_cons,List.not_mem_nil,or_false] at hy
    rcases hy with rfl | rfl | rfl <;> simp
  refine ⟨by omega,?_⟩
  rw [hy'.2] at h2
  exact List.length_eq_zero_iff.1 h2.1
theorem tysEq_get {xs ys:List Ty} (h:tysEq xs ys=true) {x:Ty} (hx:x ∈ xs):∃ y ∈ ys,tyEq x y=true:=by
  simp only [tysEq,Bool.and_eq_true,decide_eq_true_eq] at h
  obtain ⟨i,hi,rfl⟩:=List.mem_iff_getElem.1 hx
  have:=allI_iff.1 h.2 i _ (List.getElem?_eq_getElem hi)
  have hiy:i < ys.length:=by omega
  simp only [tyAtEq,List.getElem?_eq_getElem hiy,Option.any_some] at this
  exact ⟨_,List.getElem_mem hiy,this⟩
theorem mem_take_drop {α:Type} {l:List α} {n:Nat} {x:α} (h:x ∈ l):x ∈ l.take n ∨ x ∈ l.drop n:=by
  rw [← List.take_append_drop n l] at h
  exact List.mem_append.1 h
theorem typesB_pre {l:List Ty} (h:typesB l=true):TPre l:=by
  simp only [typesB,Bool.and_eq_true,inB_iff] at h
  obtain ⟨⟨h1,h2⟩,h3⟩:=h
  have key:∀ x ∈ l,x.fields.length≤6∧Within l.length (partsL false x):=fun x hx=>by
    rcases mem_take_drop (n:=3) hx with hx | hx
    · obtain ⟨y,hy,he⟩:=tysEq_get h2 hx
      obtain ⟨h4,h5⟩:=tyEq_base he hy
      refine ⟨by simp [h5],fun k hk=>?_⟩
      rcases mem_partsL.1 hk with ⟨h6,_⟩ | ⟨f,hf,_⟩
      · omega
      · rw [h5] at hf;cases hf
    · obtain ⟨i,hi,rfl⟩:=List.mem_iff_getElem.1 hx
      have:=allI_iff.1 h3 i _ (List.getElem?_eq_getElem hi)
      simp only [tyAt,Bool.and_eq_true] at this
      exact typeB_parts this.2
  exact ⟨by omega,fun x hx=>(key x hx).1,fun x hx=>(key x hx).2⟩
noncomputable def c177:=ctr (fun a:List Ty × Nat × Ty=>TPre a.1∧a.1[a.2.1]?=some a.2.2) (fun a=>[.lst (a.1.map Ty.v),.int .i64 a.2.1]) (fun a=>(false,.bool (roundI a.1 (a.1.getD a.2.1 a.2.2) a.2.1)))
theorem c177_eq (l:List Ty) (n:Nat) (x:Ty) (h:TPre l) (hx:l[n]?=some x):c177 [.lst (l.map Ty.v),.int .i64 n]=some (false,.bool (roundI l x n)):=by
  have hi:l.getD n x=x:=by simp [List.getD_eq_getElem?_getD,hx]
  unfold c177 ctr
  have hh:∃ a:List Ty × Nat × Ty,(TPre a.1∧a.1[a.2.1]?=some a.2.2)∧[V.lst (a.1.map Ty.v),.int .i64 a.2.1]=[.lst (l.map Ty.v),.int .i64 n]:=⟨(l,n,x),⟨h,hx⟩,rfl⟩
  rw [dif_pos hh]
  have h1:=hh.choose_spec
  generalize hh.choose=a at h1
  obtain ⟨a1,a2,a3⟩:=a
  obtain ⟨⟨h2,h3⟩,h4⟩:=h1
  simp only [List.cons.injEq,and_true,V.lst.injEq,V.int.injEq,true_and,Int.natCast_inj] at h4 h3
  have h5:=map_inj Ty.v_inj h4.1
  obtain rfl:=h4.2
  subst h5
  rw [hx] at h3
  cases h3
  simp only [hi]
theorem c177_ok:COK Tryz.prog (177,c177):=ctr_ok fun a h=>by
  have hi:a.1.getD a.2.1 a.2.2=a.2.2:=by simp [List.getD_eq_getElem?_getD,h.2]
  simp only [hi]
  exact f177_ok a.1 a.2.1 a.2.2 h.1 h.2
def tabAt (l:List Ty) (i:Nat) (x:Ty):Bool:=!roundI l x i
def tableI (l:List Ty):Bool:=typesB l && allI (tabAt l) l l.length
theorem f126_ok (l:List Ty) (hl:limL Ty.lim l):FunOK Tryz.prog 126 [.lst (l.map Ty.v)] false (.bool (tableI l)):=by
  refine fun_ok (mkE_ok zmix (cl:=[(176,c176),(177,c177)]) (gl:=[]) [] ⟨c176_ok,c177_ok⟩ trivial) Tryz.func126 (by kernel_rfl) ?_
  refine FunW_run _ _ rfl rfl ?_
  have e75:=c176_eq l hl
  have hlen:=hl.1
  simp only [lim] at hlen
  cases ht:typesB l
  · rw [ht] at e75
    simp [e75,tableI,ht]
  · rw [ht] at e75
    have hp:=typesB_pre ht
    simp [e75]
    refine lp_list l (fun i t=>t.e 0=.lst (l.map Ty.v)∧t.e 8=.int .i64 l.length∧t.e 9=.int .i64 i∧allI (tabAt l) l i=true) ?_ ?_ ?_
    · simp
    · rintro c' L hL i t x hx hi ih ⟨h0,h8,h9,hall⟩
      have hw:=wrI (i:=i) (by omega)
      have e76:=c177_eq l i x hp hx
      cases hr:roundI l x i
      · rw [hr] at e76
        simp [-getElem?_pos,h0,h8,h9,hL,hi,e76]
        refine ih _ ?_
        simp [h0,h8,h9,hw,allI_succ hx,hall,tabAt,hr]
      · rw [hr] at e76
        have:=allI_no (p:=tabAt l) hx (by simp [tabAt,hr])
        simp [-getElem?_pos,h0,h8,h9,hL,hi,e76,tableI,this]
    · rintro c' t ⟨h0,h8,h9,hall⟩
      simp [h0,h8,h9,tableI,ht,hall]
noncomputable def c126:=ctr (fun l:List Ty=>limL Ty.lim l) (fun l=>[.lst (l.map Ty.v)]) (fun l=>(false,.bool (tableI l)))
theorem c126_eq (l:List Ty) (h:limL Ty.lim l):c126 [.lst (l.map Ty.v)]=some (false,.bool (tableI l)):=ctr_eq (injl Ty.v_inj _) l h rfl
theorem c126_ok:COK Tryz.prog (126,c126):=ctr_ok fun l h=>f126_ok l h
end Go.TM.Tryz
end
section
set_option maxHeartbeats 4000000
set_option maxRecDepth 10000
namespace Go.TM.Tryz
open Go Go.TM Go.Proofs
def scopeHd (s:Scp):Bool:=nameB s.name && (decide (s.imports.length≤4) && (unlikeB (s.name :: s.imports) && (tableI s.types && (decide (s.objects.length≤16) && decide (s.uses.length≤40)))))
def objAtI (s:Scp) (_:Nat) (o:Obj):Bool:=objIB s.types.length o
def useAtI (s:Scp) (i:Nat) (u:Use):Bool:=hasB s.imports u.mod && nameB u.name && !(s.uses.take i).any (sameUseB u)
def scopeI (s:Scp):Bool:=scopeHd s && allI (objAtI s) s.objects s.objects.length && allI (useAtI s) s.uses s.uses.length && unlikeB (s.imports ++ s.objects.map Obj.name)
def pl66:List (Nat × Bool):=[(0,false),(1,false),(2,false),(3,false),(4,true),(5,false),(6,false),(7,false),(8,false),(9,false),(10,false),(11,true),(12,false),(13,false),(14,false),(15,false),(16,false),(17,false),(18,false),(20,false),(21,false),(22,false),(23,false),(19,true),(24,true),(25,true),(26,false),(27,false),(28,false),(29,false),(30,false),(31,false),(32,false),(33,true),(34,false),(35,false),(36,false),(37,false),(38,false),(39,false),(40,false),(41,true),(42,false),(43,false),(44,false),(45,false),(46,false),(47,false),(48,false),(49,true),(50,false),(51,false)]
theorem f66_ok (s:Scp) (hl:s.lim):FunOK Tryz.prog 66 [.ladr [s.v] 0 0] false (.bool (scopeI s)):=by
  refine fun_ok (mkE_ok zmix (cl:=[(124,c124),(125,c125),(126,c126),(127,c127),(128,c128),(129,c129),(130,c130)]) (gl:=[]) [(1,pl66)] ⟨c124_ok,c125_ok,c126_ok,c127_ok,c128_ok,c129_ok,c130_ok⟩ trivial) Tryz.func66 (by kernel_rfl) ?_
  refine FunW_run _ _ rfl rfl ?_
  obtain ⟨l1,l2,l3,l4,l5⟩:=hl
  have e40:=c124_eq s.name l1
  have e54:=c126_eq s.types l3
  have e53b:c125 [.bad]=none:=ctr_none fun a _=>by simp
  have r1:room ⟨1,false,16,.str ⟨#[]⟩⟩ 1:=by simp [room]
  cases h1:nameB s.name
  · rw [h1] at e40
    simp [e40,e53b,e54,scopeI,scopeHd,h1,pl66,pureOp,S.see,seeL,S.after,flatC]
  rw [h1] at e40
  by_cases h2:¬ s.imports.length≤4
  · have h2':(4:Int) < s.imports.length:=by omega
    simp [e40,e53b,e54,scopeI,scopeHd,h1,h2,h2',pl66,pureOp,S.see,seeL,S.after,flatC]
  have h2':¬ (4:Int) < s.imports.length:=by omega
  have h2:s.imports.length≤4:=by omega
  have e53:=c125_eq (s.name :: s.imports) ⟨by simp [lim];omega,fun x hx=>by
    rcases List.mem_cons.1 hx with rfl | hx
    · exact l1
    · exact l2.2 x hx⟩
  simp only [List.map_cons] at e53
  have r2:room ⟨1,false,16,.str ⟨#[]⟩⟩ (1 + s.imports.length):=by simp [room];omega
  cases h3:unlikeB (s.name :: s.imports)
  · rw [h3] at e53
    simp [e40,e53,e54,scopeI,scopeHd,h1,h2,h2',h3,r1,r2,pl66,pureOp,S.see,seeL,S.after,flatC]
  rw [h3] at e53
  cases h4:tableI s.types
  · rw [h4] at e54
    simp [e40,e53,e54,scopeI,scopeHd,h1,h2,h2',h3,h4,r1,r2,pl66,pureOp,S.see,seeL,S.after,flatC]
  rw [h4] at e54
  by_cases h5:¬ s.objects.length≤16
  · have h5':(16:Int) < s.objects.length:=by omega
    simp [e40,e53,e54,scopeI,scopeHd,h1,h2,h2',h3,h4,h5,h5',r1,r2,pl66,pureOp,S.see,seeL,S.after,flatC]
  have h5':¬ (16:Int) < s.objects.length:=by omega
  have h5:s.objects.length≤16:=by omega
  by_cases h6:¬ s.uses.length≤40
  · have h6':(40:Int) < s.uses.length:=by omega
    simp [e40,e53,e54,scopeI,scopeHd,h1,h2,h2',h3,h4,h5,h5',h6,h6',r1,r2,pl66,pureOp,S.see,seeL,S.after,flatC]
  have h6':¬ (40:Int) < s.uses.length:=by omega
  have h6:s.uses.length≤40:=by omega
  have hd:scopeHd s=true:=by simp [scopeHd,h1,h2,h3,h4,h5,h6]
  have e55:=c127_eq s.imports (by omega)
  simp [e40,e53,e54,e55,h1,h2,h2',h3,h4,h5,h5',h6,h6',r1,r2,pl66,pureOp,S.see,seeL,S.after,flatC]
  have hall:limL strLim (s.imports ++ s.objects.map Obj.name):=by
    refine ⟨by simp [lim];omega,fun x hx=>?_⟩
    rcases List.mem_append.1 hx with hx | hx
    · exact l2.2 x hx
    · obtain ⟨o,ho,rfl⟩:=List.mem_map.1 hx
      exact (l4.2 o ho).1
  refine lp_list s.objects (fun i t=>t.e 0=.ladr [s.v] 0 0∧t.e 68=.lst (s.objects.map Obj.v)∧t.e 69=.int .i64 s.objects.length∧t.e 70=.int .i64 i∧hasR t (t.e 3) 1 ((s.imports ++ (s.objects.take i).map Obj.name).map .str)∧allI (objAtI s) s.objects i=true) ?_ ?_ ?_
  · simp
  · rintro c' L hL i t o hx hi ih ⟨g0,g68,g69,g70,⟨r,g3,hlt,hR⟩,hal⟩
    have hw:=wrI (i:=i) (by omega)
    have e56:=c128_eq s o l3.1 (l4.2 o (List.mem_of_getElem? hx))
    simp only [Scp.v,Obj.v] at e56 g0
    have n1:¬ r=t.nt:=by omega
    have n2:¬ r=t.nt + 1:=by omega
    have n3:¬ t.nt + 1=r:=by omega
    have hmin:min i s.objects.length=i:=by omega
    have r3:room ⟨1,false,16,.str ⟨#[]⟩⟩ (s.imports.length + i + 1):=by simp [room];omega
    cases ho:objIB s.types.length o
    · rw [ho] at e56
      have:=allI_no (p:=objAtI s) hx (by simp [objAtI,ho])
      simp [-getElem?_pos,gcz,gcs,g0,g68,g69,g70,g3,hR,hL,hi,hx,e56,scopeI,this]
    · rw [ho] at e56
      simp [-getElem?_pos,gcz,gcs,g0,g68,g69,g70,g3,hR,hL,hi,hx,e56,n1,n2,n3,r1,r3,hmin]
      refine ih _ ?_
      simp [g0,g68,g69,g70,hw,allI_succ hx,hal,objAtI,ho,n1,n2,n3,take_succ_at hx]
  · rintro c' t ⟨g0,g68,g69,g70,⟨r,g3,hlt,hR⟩,hal⟩
    rw [List.take_length] at hR
    simp only [Scp.v] at g0
    simp [g0,g68,g69,g70,g3,hR]
    refine lp_list s.uses (fun i t=>t.e 0=.ladr [s.v] 0 0∧t.e 87=.lst (s.uses.map Use.v)∧t.e 88=.int .i64 s.uses.length∧t.e 89=.int .i64 i∧hasR t (t.e 3) 1 ((s.imports ++ s.objects.map Obj.name).map .str)∧allI (useAtI s) s.uses i=true) ?_ ?_ ?_
    · simp [g0,g3,hR,hlt]
    · rintro c2 L2 hL2 i t2 u hx hi ih ⟨k0,k87,k88,k89,⟨r2,k3,hlt2,hR2⟩,hal2⟩
      have hw:=wrI (i:=i) (by omega)
      have hul:=l5.2 u (List.mem_of_getElem? hx)
      have e57:=c129_eq s.imports u.mod l2.1
      have e40:=c124_eq u.name hul.2
      have e58:=c130_eq (s.uses.take i) u (by simp [lim];omega)
      rw [List.map_take] at e58
      simp only [Use.v] at e58
      simp only [Scp.v] at k0
      have hii:(i:Int)≤s.uses.length:=by omega
      have n1:¬ r2=t2.nt:=by omega
      have no:useAtI s i u=false→scopeI s=false:=fun hn=>by
        have:=allI_no hx hn
        simp [scopeI,this]
      have go:∀ s',useAtI s i u=true→s'.e 0=.ladr [s.v] 0 0→s'.e 87=.lst (s.uses.map Use.v)→s'.e 88=.int .i64 s.uses.length→s'.e 89=.int .i64 ((i + 1:Nat):Int)→s'.e 3=.own r2→r2 < s'.nt→s'.R r2=some ⟨1,(s.imports ++ s.objects.map Obj.name).map .str,true⟩→L2 s':=fun s' hy a0 a1 a2 a3 a4 a5 a6 =>
        ih s' ⟨a0,a1,a2,a3,⟨r2,a4,a5,a6⟩,by rw [allI_succ hx,hal2,hy];rfl⟩
      cases b1:hasB s.imports u.mod <;> cases b2:nameB u.name <;> cases b3:(s.uses.take i).any (sameUseB u)
      all_goals
        rw [b1] at e57
        rw [b2] at e40
        rw [b3] at e58
        simp [-getElem?_pos,gcz,gcs,k0,k87,k88,k89,k3,hR2,hL2,hi,hx,hii,e57,e40,e58,n1]
        first
        | (apply no;simp [useAtI,b1,b2,b3];done)
        | (apply go <;> simp [useAtI,b1,b2,b3,k0,k87,k88,k89,k3,hR2,hw,hlt2,n1];done)
        | skip
    · rintro c2 t2 ⟨k0,k87,k88,k89,⟨r2,k3,hlt2,hR2⟩,hal2⟩
      have hsc:scopeI s=unlikeB (s.imports ++ s.objects.map Obj.name):=by simp [scopeI,hd,hal,hal2]
      have e53:=c125_eq _ hall
      generalize s.imports ++ s.objects.map Obj.name=nm at hsc e53 hR2
      simp [k0,k87,k88,k89,k3,hR2,hsc,e53]
noncomputable def c66:=ctr (fun s:Scp=>s.lim) (fun s=>[.ladr [s.v] 0 0]) (fun s=>(false,.bool (scopeI s)))
theorem inj66 {β:Type} (out:Scp→β):∀ a b:Scp,[V.ladr [a.v] 0 0]=[V.ladr [b.v] 0 0]→out a=out b:=by
  intro a b h
  simp only [List.cons.injEq,and_true,V.ladr.injEq] at h
  rw [Scp.v_inj h]
theorem c66_eq (s:Scp) (h:s.lim):c66 [.ladr [s.v] 0 0]=some (false,.bool (scopeI s)):=ctr_eq (inj66 _) s h rfl
theorem c66_ok:COK Tryz.prog (66,c66):=ctr_ok fun s h=>f66_ok s h
end Go.TM.Tryz
end
