/- A part of the proof: YA, YB, YC, YD, YE, YF, YG, YH. -/
import Derived.Test.YtknondpcbpgpoaaGreatK13
set_option linter.unusedVariables false
set_option linter.unusedSimpArgs false
section
set_option maxHeartbeats 4000000
set_option maxRecDepth 10000
namespace Go.TM.Tryz
open Go Go.TM Go.Proofs
theorem f141_ok:FunOK Tryz.prog 141 [] false (.inl 6 (baseTys.map Ty.o)):=by
  refine fun_ok (mkE_ok zmix (cl:=[]) (gl:=[]) [] trivial trivial) Tryz.func141 (by kernel_rfl) ?_
  refine FunW_run _ _ rfl rfl ?_
  simp [baseTys]
  rfl
noncomputable def c141:=ctr (fun _:Unit=>True) (fun _=>[]) (fun _=>(false,.inl 6 (baseTys.map Ty.o)))
theorem c141_eq:c141 []=some (false,.inl 6 (baseTys.map Ty.o)):=ctr_eq (by simp) () trivial rfl
theorem c141_ok:COK Tryz.prog (141,c141):=ctr_ok fun _ _=>f141_ok
def baseAt (l:List Ty) (k:Nat) (x:Ty):Bool:=(l[k]?).any fun y=>decide (y.kind=x.kind) && decide (y.long=0) && decide (y.base=-1) && decide (y.fields=[]) && decide (y.owner=⟨#[]⟩) && decide (y.name=x.name)
theorem baseAt_no {l:List Ty} {k:Nat} {x y:Ty} (hy:l[k]?=some y):baseAt l k x=false ↔ (((((¬y.kind=x.kind ∨ ¬y.long=0) ∨ ¬y.base=-1) ∨ 0 < y.fields.length) ∨ ¬y.owner=⟨#[]⟩) ∨ ¬y.name=x.name):=by
  have e:0 < y.fields.length ↔ ¬ y.fields=[]:=by cases y.fields <;> simp
  rw [e]
  simp only [baseAt,hy,Option.any_some]
  grind
def baseB (l:List Ty):Bool:=decide (3≤l.length) && allI (baseAt l) baseTys baseTys.length
theorem f210_ok (l:List Ty) (hl:l.length≤lim):FunOK Tryz.prog 210 [.lst (l.map Ty.v)] false (.bool (baseB l)):=by
  refine fun_ok (mkE_ok zmix (cl:=[(141,c141)]) (gl:=[]) [] c141_ok trivial) Tryz.func210 (by kernel_rfl) ?_
  refine FunW_run _ _ rfl rfl ?_
  simp only [lim] at hl
  by_cases h3:¬ 3≤l.length
  · have h3':(l.length:Int) < 3:=by omega
    simp [c141_eq,baseB,h3,h3']
  have h3':¬ (l.length:Int) < 3:=by omega
  have h3:3≤l.length:=by omega
  simp [c141_eq,h3,h3']
  refine lp_list baseTys (fun i t=>t.e 0=.lst (l.map Ty.v)∧t.e 10=.int .i64 3∧t.e 11=.int .i64 i∧hasR t (t.e 9) 6 (baseTys.map Ty.o)∧allI (baseAt l) baseTys i=true) ?_ ?_ ?_
  · simp
  · rintro c' L hL i t x hx hi ih ⟨h0,h10,h11,⟨r,h9,hlt,hR⟩,hall⟩
    have hi3:i < 3:=by simpa using hi
    have hw:=wrI (i:=i) (by omega)
    have hil:i < l.length:=by omega
    have hy:=List.getElem?_eq_getElem hil
    have hi3':(i:Int) < 3:=by omega
    have n1:¬ r=t.nt:=by omega
    have n2:¬ r=t.nt + 1:=by omega
    generalize l[i]=y at hy
    simp [-getElem?_pos,gcz,gcs,h0,h10,h11,h9,hR,hL,hi,hi3,hil,hx,hy,n1,n2]
    rw [if_pos hi3']
    refine ⟨hi3',?_⟩
    split
    · rename_i hc
      have hno:baseAt l i x=false:=(baseAt_no hy).2 hc
      have:=allI_no hx hno
      rw [baseTys_length] at this
      simp [baseB,this]
    · rename_i hc
      have hyes:baseAt l i x=true:=by rw [← Bool.not_eq_false,baseAt_no hy];exact hc
      refine ih _ ?_
      simp [h0,h10,h11,h9,hR,hw,allI_succ hx,hall,hyes,n1,n2]
      omega
  · rintro c' t ⟨h0,h10,h11,⟨r,h9,hlt,hR⟩,hall⟩
    rw [baseTys_length] at h11
    simp [h0,h10,h11,h9,hR,baseB,h3]
    exact hall
noncomputable def c210:=ctr (fun l:List Ty=>l.length≤lim) (fun l=>[.lst (l.map Ty.v)]) (fun l=>(false,.bool (baseB l)))
theorem c210_eq (l:List Ty) (h:l.length≤lim):c210 [.lst (l.map Ty.v)]=some (false,.bool (baseB l)):=ctr_eq (injl Ty.v_inj _) l h rfl
theorem c210_ok:COK Tryz.prog (210,c210):=ctr_ok fun l h=>f210_ok l h
end Go.TM.Tryz
end
section
set_option maxHeartbeats 4000000
set_option maxRecDepth 10000
namespace Go.TM.Tryz
open Go Go.TM Go.Proofs
def kind2B (l:List Ty) (n a b:Int):Bool:=inB n 0 (l.length - 1) && (l[n.toNat]?).any fun x=>decide (x.kind=a) || decide (x.kind=b)
theorem f240_ok (l:List Ty) (n a b:Int) (hl:l.length≤lim):FunOK Tryz.prog 240 [.lst (l.map Ty.v),.int .i64 n,.int .i64 a,.int .i64 b] false (.bool (kind2B l n a b)):=by
  refine fun_ok (mkE_ok zmix (cl:=[(167,c167)]) (gl:=[]) [] c167_ok trivial) Tryz.func240 (by kernel_rfl) ?_
  refine FunW_run _ _ rfl rfl ?_
  simp only [lim] at hl
  have hw:IntKind.i64.wrap ((l.length:Int) - 1)=(l.length:Int) - 1:=wrap64 (by omega) (by omega)
  cases hb:inB n 0 (l.length - 1) with
  | true =>
    obtain ⟨h1,h2,h3,h4⟩:=inB_nat hb
    have hx:=List.getElem?_eq_getElem h3
    generalize l[n.toNat]=x at hx
    by_cases ka:x.kind=a <;> by_cases kb:x.kind=b <;> simp [-getElem?_pos,gcz,gcs,c167_eq,hw,hx,h1,h2,h3,kind2B,hb,ka,kb]
  | false =>
    cases hx:l[n.toNat]? <;> simp [-getElem?_pos,gcz,gcs,c167_eq,hw,hx,kind2B,hb]
noncomputable def c240:=ctr (fun a:List Ty × Int × Int × Int=>a.1.length≤lim) (fun a=>[.lst (a.1.map Ty.v),.int .i64 a.2.1,.int .i64 a.2.2.1,.int .i64 a.2.2.2]) (fun a=>(false,.bool (kind2B a.1 a.2.1 a.2.2.1 a.2.2.2)))
theorem inj240 {β:Type} (out:List Ty × Int × Int × Int→β):∀ a b:List Ty × Int × Int × Int,[V.lst (a.1.map Ty.v),.int .i64 a.2.1,.int .i64 a.2.2.1,.int .i64 a.2.2.2]=[V.lst (b.1.map Ty.v),.int .i64 b.2.1,.int .i64 b.2.2.1,.int .i64 b.2.2.2]→out a=out b:=by
  rintro ⟨a,c,e,g⟩ ⟨b,d,f,h⟩ h
  simp only [List.cons.injEq,and_true,V.lst.injEq,V.int.injEq,true_and] at h
  obtain ⟨h1,h2,h3,h4⟩:=h
  rw [map_inj Ty.v_inj h1,h2,h3,h4]
theorem c240_eq (l:List Ty) (n a b:Int) (h:l.length≤lim):c240 [.lst (l.map Ty.v),.int .i64 n,.int .i64 a,.int .i64 b]=some (false,.bool (kind2B l n a b)):=ctr_eq (inj240 _) (l,n,a,b) h rfl
theorem c240_ok:COK Tryz.prog (240,c240):=ctr_ok fun a h=>f240_ok a.1 _ _ _ h
theorem f214_ok (x:Ty) (hl:x.fields.length≤1048576):FunOK Tryz.prog 214 [x.v] false (.inl 1 ((partsL false x).map (V.int .i64))):=by
  refine fun_ok (mkE_ok zmix (cl:=[]) (gl:=[]) [] trivial trivial) Tryz.func214 (by kernel_rfl) ?_
  refine FunW_run _ _ rfl rfl ?_
  have hr:room ⟨1,false,8,.int .i64 0⟩ 1:=by simp [room]
  simp
  split
  all_goals rename_i hc
  all_goals try refine ⟨hr,?_⟩
  all_goals
    refine lp_list x.fields (fun i t=>t.e 20=.lst (x.fields.map Fld.v)∧t.e 21=.int .i64 x.fields.length∧t.e 22=.int .i64 i∧hasR t (t.e 3) 1 ((baseL false x ++ (x.fields.take i).map Fld.type).map (V.int .i64))) ?_ ?_ ?_
    · simp [baseL,hc]
    · rintro c' L hL i t y hx hi ih ⟨h26,h27,h28,r,h5,hlt,hR⟩
      have hw:=wrI (i:=i) (by omega)
      have hr2:room ⟨1,false,8,.int .i64 0⟩ ((baseL false x).length + i + 1):=by have:=baseL_len false x;simp [room];omega
      have hne:¬ r=t.nt:=by omega
      have hmin:min i x.fields.length=i:=by omega
      simp [-getElem?_pos,gcz,gcs,h26,h27,h28,h5,hR,hL,hi,hx,hr,hr2,hmin,hne]
      refine ih _ ?_
      simp [h26,h27,h28,hw,List.take_add_one,hx]
    · rintro c' t ⟨h26,h27,h28,r,h5,hlt,hR⟩
      rw [List.take_length] at hR
      have hR':t.R r=some ⟨1,(partsL false x).map (V.int .i64),true⟩:=hR
      simp [h26,h27,h28,h5,hR']
noncomputable def c214:=ctr (fun x:Ty=>x.fields.length≤1048576) (fun x=>[x.v]) (fun x=>(false,.inl 1 ((partsL false x).map (V.int .i64))))
theorem c214_eq (x:Ty) (h:x.fields.length≤1048576):c214 [x.v]=some (false,.inl 1 ((partsL false x).map (V.int .i64))):=ctr_eq (inj0 Ty.v_inj _) x h rfl
theorem c214_ok:COK Tryz.prog (214,c214):=ctr_ok fun x h=>f214_ok x h
theorem f242_ok (l:List Int) (hl:l.length≤1048576):FunOK Tryz.prog 242 [.lst (l.map (V.int .i64))] false (.inl 1 (l.map (V.int .i64))):=by
  refine fun_ok (mkE_ok zmix (cl:=[]) (gl:=[]) [] trivial trivial) Tryz.func242 (by kernel_rfl) ?_
  refine FunW_run _ _ rfl rfl ?_
  have h1:l.length * 8≤140737488355328:=by omega
  have h2:l.length≤4294967296:=by omega
  simp [room,h1,h2]
noncomputable def c242:=ctr (fun l:List Int=>l.length≤1048576) (fun l=>[.lst (l.map (V.int .i64))]) (fun l=>(false,.inl 1 (l.map (V.int .i64))))
theorem c242_eq (l:List Int) (h:l.length≤1048576):c242 [.lst (l.map (V.int .i64))]=some (false,.inl 1 (l.map (V.int .i64))):=ctr_eq (injl int_inj _) l h rfl
theorem c242_ok:COK Tryz.prog (242,c242):=ctr_ok fun l h=>f242_ok l h
theorem f212_ok (l:List Int) (s:Int) (hl:l.length≤lim):FunOK Tryz.prog 212 [.lst (l.map (V.int .i64)),.int .i64 s] false (.bool (hasI l s)):=by
  refine fun_ok (mkE_ok zmix (cl:=[]) (gl:=[]) [] trivial trivial) Tryz.func212 (by kernel_rfl) ?_
  refine FunW_run _ _ rfl rfl ?_
  simp only [lim] at hl
  simp
  refine lp_list l (fun i t=>t.e 1=.int .i64 s∧t.e 7=.lst (l.map (V.int .i64))∧t.e 8=.int .i64 l.length∧t.e 9=.int .i64 i∧anyI (fun x=>decide (x=s)) l i=false) ?_ ?_ ?_
  · simp
  · rintro c' L hL i t x hx hi ih ⟨h1,h7,h8,h9,hall⟩
    have hw:=wrI (i:=i) (by omega)
    simp [-getElem?_pos,List.getElem?_cons_zero,h1,h7,h8,h9,hL,hi,hx]
    split
    · rename_i hc
      exact any_yes hx (by simp [hc])
    · rename_i hc
      refine ih _ ?_
      simp [h1,h7,h8,h9,hw,anyI_succ hx,hall,hc]
  · rintro c' t ⟨h1,h7,h8,h9,hall⟩
    rw [anyI_all] at hall
    simp [h1,h7,h8,h9,hasI,hall]
noncomputable def c212:=ctr (fun a:List Int × Int=>a.1.length≤lim) (fun a=>[.lst (a.1.map (V.int .i64)),.int .i64 a.2]) (fun a=>(false,.bool (hasI a.1 a.2)))
theorem c212_eq (l:List Int) (s:Int) (h:l.length≤lim):c212 [.lst (l.map (V.int .i64)),.int .i64 s]=some (false,.bool (hasI l s)):=ctr_eq (injl1 int_inj _) (l,s) h rfl
theorem c212_ok:COK Tryz.prog (212,c212):=ctr_ok fun a h=>f212_ok a.1 a.2 h
end Go.TM.Tryz
end
section
set_option maxHeartbeats 4000000
set_option maxRecDepth 10000
namespace Go.TM.Tryz
open Go Go.TM Go.Proofs
theorem tw_get {α:Type} {p:α→Bool}:∀ {l:List α} {i:Nat} {x:α},(l.takeWhile p)[i]?=some x→l[i]?=some x∧p x=true
  | [],i,x,h=>by simp at h
  | y :: ys,i,x,h=>by
    rw [List.takeWhile_cons] at h
    split at h
    · rename_i hy
      cases i with
      | zero=>simp at h;subst h;exact ⟨rfl,hy⟩
      | succ i=>simp only [List.getElem?_cons_succ] at h ⊢;exact tw_get h
    · simp at h
theorem tw_end {α:Type} {p:α→Bool}:∀ {l:List α} {y:α},l[(l.takeWhile p).length]?=some y→p y=false
  | [],y,h=>by simp at h
  | z :: zs,y,h=>by
    rw [List.takeWhile_cons] at h
    split at h
    · simp only [List.length_cons,List.getElem?_cons_succ] at h
      exact tw_end h
    · rename_i hz
      simp at h
      subst h
      simpa using hz
theorem f243_ok (l:List Int) (n:Int) (hl:l.length≤1048576) (hn:n ∉ l):FunOK Tryz.prog 243 [.lst (l.map (V.int .i64)),.int .i64 n] false (.inl 1 ((putI l n).map (V.int .i64))):=by
  refine fun_ok (mkE_ok zmix (cl:=[]) (gl:=[]) [] trivial trivial) Tryz.func243 (by kernel_rfl) ?_
  refine FunW_run _ _ rfl rfl ?_
  have htd:l.takeWhile (fun x=>decide (x < n)) ++ l.dropWhile (fun x=>decide (x < n))=l:=List.takeWhile_append_dropWhile
  have hput:putI l n=l.takeWhile (fun x=>decide (x < n)) ++ n :: l.dropWhile (fun x=>decide (x < n)):=if_neg hn
  have hget:=fun i x=>@tw_get _ (fun x:Int=>decide (x < n)) l i x
  have hend:=fun y=>@tw_end _ (fun x:Int=>decide (x < n)) l y
  generalize l.takeWhile (fun x=>decide (x < n))=tw at *
  generalize l.dropWhile (fun x=>decide (x < n))=dw at *
  have hlen:tw.length + dw.length=l.length:=by rw [← htd,List.length_append]
  simp
  refine lp_list tw (fun i t=>t.e 0=.lst (l.map (V.int .i64))∧t.e 1=.int .i64 n∧t.e 5=.int .i64 i) ?_ ?_ ?_
  · simp
  · rintro c' L hL i t x hx hi ih ⟨g0,g1,g5⟩
    have hw:=wrI (i:=i) (by omega)
    obtain ⟨hx',hp⟩:=hget i x hx
    have hp':x < n:=by simpa using hp
    have hil:i < l.length:=by omega
    simp [-getElem?_pos,gcz,gcs,g0,g1,g5,hL,hil,hx',hp']
    refine ih _ ?_
    simp [g0,g1,g5,hw]
  · rintro c' t ⟨g0,g1,g5⟩
    have ht:l.take tw.length=tw:=by rw [← htd];simp
    have hd:l.drop tw.length=dw:=by rw [← htd];simp
    have r1:room ⟨1,false,8,.int .i64 0⟩ 1:=by simp [room]
    have r2:∀ k,k≤1048577→room ⟨1,false,8,.int .i64 0⟩ k:=fun k hk=>by simp [room];omega
    have hle:(tw.length:Int)≤l.length:=by omega
    by_cases hlt:tw.length < l.length
    · have hy:=List.getElem?_eq_getElem hlt
      have hp:=hend _ hy
      generalize l[tw.length]=y at hy hp
      have hp':¬ y < n:=by simpa using hp
      have hne:¬ y=n:=fun e=>hn (e ▸ List.mem_of_getElem? hy)
      simp [-getElem?_pos,gcz,gcs,g0,g1,g5,hlt,hy,hp',hne,hle,r1]
      have hmin:min tw.length l.length=tw.length:=by omega
      have hlv:∀ xs:List Int,∀ y ∈ xs.map (V.int .i64),(leaves y).length=1:=fun xs y hy=>by
        obtain ⟨z,_,rfl⟩:=List.mem_map.1 hy
        rfl
      rw [← List.map_take,ht,← List.map_drop,hd,hmin]
      refine ⟨⟨r2 _ (by omega),hlv _⟩,r2 _ (by omega),⟨r2 _ (by omega),hlv _⟩,?_⟩
      rw [hput]
      simp
    · simp [-getElem?_pos,gcz,gcs,g0,g1,g5,hlt,hle,r1]
      have hmin:min tw.length l.length=tw.length:=by omega
      have hlv:∀ xs:List Int,∀ y ∈ xs.map (V.int .i64),(leaves y).length=1:=fun xs y hy=>by
        obtain ⟨z,_,rfl⟩:=List.mem_map.1 hy
        rfl
      rw [← List.map_take,ht,← List.map_drop,hd,hmin]
      refine ⟨⟨r2 _ (by omega),hlv _⟩,r2 _ (by omega),⟨r2 _ (by omega),hlv _⟩,?_⟩
      rw [hput]
      simp
noncomputable def c243:=ctr (fun a:List Int × Int=>a.1.length≤1048576∧a.2 ∉ a.1) (fun a=>[.lst (a.1.map (V.int .i64)),.int .i64 a.2]) (fun a=>(false,.inl 1 ((putI a.1 a.2).map (V.int .i64))))
theorem c243_eq (l:List Int) (s:Int) (h:l.length≤1048576) (hn:s ∉ l):c243 [.lst (l.map (V.int .i64)),.int .i64 s]=some (false,.inl 1 ((putI l s).map (V.int .i64))):=ctr_eq (injl1 int_inj _) (l,s) ⟨h,hn⟩ rfl
theorem c243_ok:COK Tryz.prog (243,c243):=ctr_ok fun a h=>f243_ok a.1 a.2 h.1 h.2
end Go.TM.Tryz
end
section
set_option maxHeartbeats 4000000
set_option maxRecDepth 10000
namespace Go.TM.Tryz
open Go Go.TM Go.Proofs
theorem f213_ok (l:List Ty) (fr:List Int) (h:TPre l) (hfr:fr.length≤7) (hw:Within l.length fr):FunOK Tryz.prog 213 [.lst (l.map Ty.v),.lst (fr.map (V.int .i64)),.bool false] false (.inl 1 ((fromL (nxL false l) 200 fr []).map (V.int .i64))):=by
  refine fun_ok (mkE_ok zmix (cl:=[(242,c242),(212,c212),(243,c243),(214,c214)]) (gl:=[]) [] ⟨c242_ok,c212_ok,c243_ok,c214_ok⟩ trivial) Tryz.func213 (by kernel_rfl) ?_
  refine FunW_run _ _ rfl rfl ?_
  have hlen:=h.len
  simp [c242_eq fr (by omega)]
  refine lp_ind (fun m t=>∃ q out:List Int,t.e 0=.lst (l.map Ty.v)∧t.e 2=.bool false∧Within l.length q∧Within l.length out∧out.Nodup∧q.length + 8 * (l.length - out.length) < m∧m≤200∧fromL (nxL false l) m q out=fromL (nxL false l) 200 fr [] ∧
    ∃ a b,t.e 8=.own a∧a < t.nt∧t.R a=some ⟨1,q.map (V.int .i64),true⟩∧t.e 7=.own b∧b < t.nt∧t.R b=some ⟨1,out.map (V.int .i64),true⟩∧a ≠ b) 200 ⟨fr,[],?_⟩ ?_
  · simp [hw]
    exact ⟨fun _ h=>(by cases h),by omega⟩
  · rintro c' L hL m t ih ⟨q,out,g0,g2,hq,ho,hnd,hm,hm2,heq,a,b,g8,ha,hRa,g7,hb,hRb,hab⟩
    have hle:=nodup_within hnd ho
    obtain ⟨m,rfl⟩:∃ k,m=k + 1:=⟨m - 1,by omega⟩
    cases q with
    | nil =>
      have hres:fromL (nxL false l) 200 fr []=out:=by rw [← heq];rfl
      simp [g0,g2,g8,g7,hRa,hRb,hL,hres]
    | cons n q =>
      have hn:=hq n (by simp)
      have hq':Within l.length q:=fun y hy=>hq y (by simp [hy])
      simp only [List.length_cons] at hm
      obtain ⟨x,hx,hxl,hnx⟩:=nxL_at (p:=false) hn.1 hn.2
      have hn2:n.toNat < l.length:=by omega
      have e89:=c212_eq out n (by simp [lim];omega)
      have hba:¬ b=a:=fun e=>hab e.symm
      have n1:¬ a=t.nt:=by omega
      have n2:¬ b=t.nt:=by omega
      have n3:¬ t.nt=a:=by omega
      have n4:¬ t.nt=b:=by omega
      cases hh:hasI out n
      · rw [hh] at e89
        have hno:n ∉ out:=fun hc=>by rw [hasI_iff.2 hc] at hh;cases hh
        have e112:=c243_eq out n (by omega) hno
        have e91:=c214_eq x (by have:=h.fld x hxl;omega)
        simp only [Ty.v] at e91
        have hk7:=parts_len h hxl
        have hr:room ⟨1,false,8,.int .i64 0⟩ (q.length + (partsL false x).length):=by simp [room];omega
        have n5:¬ b=t.nt + 1:=by omega
        have n6:¬ t.nt=t.nt + 1:=by omega
        have n7:¬ t.nt=t.nt + 1 + 1:=by omega
        have n8:¬ t.nt + 1=t.nt + 1 + 1 + 1:=by omega
        have n9:¬ t.nt + 1=t.nt + 1 + 1:=by omega
        simp [-getElem?_pos,gcz,gcs,g0,g2,g8,hRa,g7,hRb,hL,e89,e112,e91,hn,hn2,hx,hab,hba,n1,n2,n3,n4,n5,n6,n7,n8,n9,hr]
        refine ⟨by omega,?_⟩
        have hol:=putI_length hno
        have hbo:Within l.length (putI out n):=fun y hy=>by
          rcases mem_putI.1 hy with rfl | h1
          · exact hn
          · exact ho y h1
        have hle2:=nodup_within (putI_nodup (n:=n) hnd) hbo
        have hfrom:fromL (nxL false l) m (q ++ partsL false x) (putI out n)=fromL (nxL false l) 200 fr []:=by
          rw [← heq]
          show _=if n ∈ out then _ else _
          rw [if_neg hno,hnx]
        refine ih m _ (by omega) ⟨q ++ partsL false x,putI out n,?_⟩
        simp [g0,g2,hbo,putI_nodup hnd,hfrom,n1,n2,n3,n4,n5,n6,n7,n8,n9]
        refine ⟨?_,by omega,by omega⟩
        intro y hy
        rcases List.mem_append.1 hy with h1 | h1
        · exact hq' y h1
        · exact h.nxt x hxl y h1
      · rw [hh] at e89
        simp [-getElem?_pos,gcz,gcs,g0,g2,g8,hRa,g7,hRb,hL,e89,hab,hba,n1,n2,n3,n4]
        refine ⟨by omega,?_⟩
        have hfrom:fromL (nxL false l) m q out=fromL (nxL false l) 200 fr []:=by
          rw [← heq]
          show _=if n ∈ out then _ else _
          rw [if_pos (hasI_iff.1 hh)]
        refine ih m _ (by omega) ⟨q,out,?_⟩
        simp [g0,g2,g7,hRb,hq',ho,hnd,hfrom,n1,n2,n3,n4,hba]
        omega
noncomputable def c213:=ctr (fun a:List Ty × List Int=>TPre a.1∧a.2.length≤7∧Within a.1.length a.2) (fun a=>[.lst (a.1.map Ty.v),.lst (a.2.map (V.int .i64)),.bool false]) (fun a=>(false,.inl 1 ((fromL (nxL false a.1) 200 a.2 []).map (V.int .i64))))
theorem inj213 {β:Type} (out:List Ty × List Int→β):∀ a b:List Ty × List Int,[V.lst (a.1.map Ty.v),.lst (a.2.map (V.int .i64)),.bool false]=[V.lst (b.1.map Ty.v),.lst (b.2.map (V.int .i64)),.bool false]→out a=out b:=by
  rintro ⟨a,c⟩ ⟨b,d⟩ h
  simp only [List.cons.injEq,and_true,V.lst.injEq] at h
  rw [map_inj Ty.v_inj h.1,map_inj int_inj h.2]
theorem c213_eq (l:List Ty) (fr:List Int) (h:TPre l) (h1:fr.length≤7) (h2:Within l.length fr):c213 [.lst (l.map Ty.v),.lst (fr.map (V.int .i64)),.bool false]=some (false,.inl 1 ((fromL (nxL false l) 200 fr []).map (V.int .i64))):=ctr_eq (inj213 _) (l,fr) ⟨h,h1,h2⟩ rfl
theorem c213_ok:COK Tryz.prog (213,c213):=ctr_ok fun a h=>f213_ok a.1 a.2 h.1 h.2.1 h.2.2
theorem nxL_pre {l:List Ty} (h:TPre l) (n:Int) (h0:0≤n) (h1:n < l.length):(nxL false l n).length≤7∧Within l.length (nxL false l n):=by
  obtain ⟨y,_,hy,e⟩:=nxL_at (p:=false) h0 h1
  rw [e]
  exact ⟨parts_len h hy,h.nxt y hy⟩
theorem from_mem {l:List Ty} (h:TPre l) {fr:List Int} (h1:fr.length≤7) (h2:Within l.length fr) (n:Int):n ∈ fromL (nxL false l) 200 fr [] ↔ Rch (nxL false l) fr n:=by
  have hlen:=h.len
  rw [fromL_mem (nxL_pre h) 200 fr [] h2 (fun _ h=>(by cases h)) (by simp) (by simp;omega) (fun _ h=>(by cases h)) n]
  simp
theorem from_len {l:List Ty} (h:TPre l) {fr:List Int} (h1:fr.length≤7) (h2:Within l.length fr):(fromL (nxL false l) 200 fr []).length≤lim:=by
  have key:∀ (f:Nat) (q out:List Int),out.length + f≤10000→(fromL (nxL false l) f q out).length≤10000:=by
    intro f
    induction f with
    | zero=>intro q out h;simp only [fromL];omega
    | succ f ih =>
      intro q out h
      cases q with
      | nil=>simp only [fromL];omega
      | cons n q =>
        simp only [fromL]
        split
        · exact ih _ _ (by omega)
        · rename_i hn
          exact ih _ _ (by rw [putI_length hn];omega)
  have:=key 200 fr [] (by simp)
  simp only [lim]
  omega
theorem round_eq {l:List Ty} (h:TPre l) {x:Ty} (hx:x ∈ l) (n:Int):hasI (fromL (nxL false l) 200 (partsL false x) []) n=roundI l x n:=by
  have hp:=h.pre hx
  have key:=(reachL_spec (nx:=nxL false l) (L:=l.length) (fun n h0 h1=>(nxL_pre h n h0 h1).2) (l.length + 1) 0 (srcL x) hp.src hp.nod (Nat.zero_le _) (by omega) (by omega)).1
  rw [Bool.eq_iff_iff,roundI,hasI_iff,hasI_iff,mem_sortI,key,from_mem h (parts_len h hx) (h.nxt x hx)]
  constructor
  · exact fun h=>h.mono fun y hy=>.base (mem_compact.2 (mem_sortI.2 hy))
  · exact fun h=>h.mono fun y hy=>.base (mem_sortI.1 (mem_compact.1 hy))
theorem f170_ok (l:List Ty) (n:Nat) (x:Ty) (h:TPre l) (hx:l[n]?=some x):FunOK Tryz.prog 170 [.lst (l.map Ty.v),.int .i64 n] false (.bool (roundI l x n)):=by
  refine fun_ok (mkE_ok zmix (cl:=[(214,c214),(213,c213),(212,c212)]) (gl:=[]) [] ⟨c214_ok,c213_ok,c212_ok⟩ trivial) Tryz.func170 (by kernel_rfl) ?_
  refine FunW_run _ _ rfl rfl ?_
  have hxl:x ∈ l:=List.mem_of_getElem? hx
  have hn:n < l.length:=by
    rw [List.getElem?_eq_some_iff] at hx
    exact hx.1
  have e91:=c214_eq x (by have:=h.fld x hxl;omega)
  have e90:=c213_eq l (partsL false x) h (parts_len h hxl) (h.nxt x hxl)
  have e89:=c212_eq (fromL (nxL false l) 200 (partsL false x) []) n (from_len h (parts_len h hxl) (h.nxt x hxl))
  rw [round_eq h hxl] at e89
  simp only [Ty.v] at e91
  simp [-getElem?_pos,gcz,gcs,hx,hn,e91,e90,e89]
noncomputable def c170:=ctr (fun a:List Ty × Nat × Ty=>TPre a.1∧a.1[a.2.1]?=some a.2.2) (fun a=>[.lst (a.1.map Ty.v),.int .i64 a.2.1]) (fun a=>(false,.bool (roundI a.1 (a.1.getD a.2.1 a.2.2) a.2.1)))
theorem c170_eq (l:List Ty) (n:Nat) (x:Ty) (h:TPre l) (hx:l[n]?=some x):c170 [.lst (l.map Ty.v),.int .i64 n]=some (false,.bool (roundI l x n)):=c177_eq l n x h hx
theorem c170_ok:COK Tryz.prog (170,c170):=ctr_ok fun a h=>by
  have hi:a.1.getD a.2.1 a.2.2=a.2.2:=by simp [List.getD_eq_getElem?_getD,h.2]
  simp only [hi]
  exact f170_ok a.1 a.2.1 a.2.2 h.1 h.2
end Go.TM.Tryz
end
section
set_option maxHeartbeats 4000000
set_option maxRecDepth 10000
namespace Go.TM.Tryz
open Go Go.TM Go.Proofs
theorem nameB_nil:nameB ⟨#[]⟩=false:=by simp [nameB,inB,ByteArray.size]
theorem fldAt_head {n:Int} {l:List Fld} {i:Nat} {x:Fld} (h:((nameB x.name=false∧(¬x.name=⟨#[]⟩ ∨ ¬x.mark=0)) ∨ inB x.mark 0 2=false) ∨ inB x.type 0 (n - 1)=false):fldAt n l i x=false:=by
  unfold fldAt
  rcases h with (⟨h1,h2⟩ | h) | h
  · by_cases e:x.name=⟨#[]⟩
    · rw [if_pos e]
      rcases h2 with h2 | h2
      · exact absurd e h2
      · simp [h2]
    · rw [if_neg e,h1]
      simp
  · simp [h]
  · simp [h]
theorem fldAt_tail {n:Int} {l:List Fld} {i:Nat} {x:Fld} (h:¬(((nameB x.name=false∧(¬x.name=⟨#[]⟩ ∨ ¬x.mark=0)) ∨ inB x.mark 0 2=false) ∨ inB x.type 0 (n - 1)=false)):fldAt n l i x=!((l.take i).any fun y=>!decide (x.name=⟨#[]⟩) && sameFldB x y):=by
  simp only [not_or,Bool.not_eq_false] at h
  obtain ⟨⟨h1,h2⟩,h3⟩:=h
  unfold fldAt
  rw [h2,h3]
  by_cases e:x.name=⟨#[]⟩
  · rw [if_pos e]
    have hm:x.mark=0:=by
      rw [e,nameB_nil] at h1
      simpa using h1
    simp [e,hm]
  · rw [if_neg e]
    have hn:nameB x.name=true:=by
      simp only [not_and,not_or] at h1
      rw [← Bool.not_eq_false]
      exact fun hc=>(h1 hc).1 e
    simp [hn,e]
theorem f241_ok (ts:List Ty) (l:List Fld) (ht:ts.length≤lim) (hl:limL Fld.lim l):FunOK Tryz.prog 241 [.lst (ts.map Ty.v),.lst (l.map Fld.v)] false (.bool (fldsB ts.length l)):=by
  refine fun_ok (mkE_ok zmix (cl:=[(111,c111),(167,c167)]) (gl:=[]) [] ⟨c111_ok,c167_ok⟩ trivial) Tryz.func241 (by kernel_rfl) ?_
  refine FunW_run _ _ rfl rfl ?_
  have hlen:=hl.1
  simp only [lim] at hlen ht
  have hwn:IntKind.i64.wrap ((ts.length:Int) - 1)=(ts.length:Int) - 1:=wrap64 (by omega) (by omega)
  simp
  refine lp_list l (fun i t=>t.e 0=.lst (ts.map Ty.v)∧t.e 1=.lst (l.map Fld.v)∧t.e 9=.lst (l.map Fld.v)∧t.e 10=.int .i64 l.length∧t.e 11=.int .i64 i∧allI (fldAt ts.length l) l i=true) ?_ ?_ ?_
  · simp
  · rintro c' L hL i t x hx hi ih ⟨h0,h1,h9,h10,h11,hall⟩
    have hw:=wrI (i:=i) (by omega)
    have e1:=c111_eq x.name (hl.2 x (List.mem_of_getElem? hx))
    have hle:i≤l.length:=Nat.le_of_lt hi
    have hle':(i:Int)≤l.length:=by omega
    have bad:fldAt ts.length l i x=false→fldsB ts.length l=false:=fun hn=>by
      have:=allI_no hx hn
      simp [fldsB,this]
    simp [-getElem?_pos,gcz,gcs,h0,h1,h9,h10,h11,hL,hi,hx,e1,hwn,c167_eq,hle,hle']
    split
    · rename_i hc
      exact bad (fldAt_head hc)
    · rename_i hc
      have htail:=fldAt_tail (l:=l) (i:=i) hc
      refine lp_list (l.take i) (fun j s=>s.e 0=.lst (ts.map Ty.v)∧s.e 1=.lst (l.map Fld.v)∧s.e 9=.lst (l.map Fld.v)∧s.e 10=.int .i64 l.length∧s.e 11=.int .i64 i∧s.e 47=.lst ((l.take i).map Fld.v)∧s.e 48=.int .i64 i∧s.e 49=.int .i64 j ∧
        (∃ b,s.e 6=.ptr b 0∧b < s.nb∧s.B b=some x.v)∧anyI (fun y=>!decide (x.name=⟨#[]⟩) && sameFldB x y) (l.take i) j=false) ?_ ?_ ?_
      · simp [h0,h1,h9,h10,h11,hle]
      · rintro c2 L2 hL2 j s y hy hj ih2 ⟨g0,g1,g9,g10,g11,g47,g48,g49,⟨b,g6,gb,gB⟩,hany⟩
        have hji:j < i:=by simp at hj;omega
        have hjl:j < (l.take i).length:=hj
        have hw2:IntKind.i64.wrap ((j:Int) + 1)=((j + 1:Nat):Int):=wrap64 (by omega) (by omega)
        have n1:¬ b=s.nb:=by omega
        generalize l.take i=ys at *
        simp only [Fld.v] at gB
        simp [-getElem?_pos,gcz,gcs,g0,g1,g9,g10,g11,g47,g48,g49,g6,gB,hL2,hjl,hji,hy,n1]
        split
        · rename_i hf
          have hany2:=any_yes (p:=fun y=>!decide (x.name=⟨#[]⟩) && sameFldB x y) hy (by simp [hf.1,sameFldB,hf.2.symm])
          exact bad (by rw [htail,hany2];rfl)
        · rename_i hf
          have hno:(!decide (x.name=⟨#[]⟩) && sameFldB x y)=false:=by
            simp only [sameFldB]
            by_cases e:x.name=⟨#[]⟩
            · simp [e]
            · have:¬ y.name=x.name:=fun h=>hf ⟨e,h.symm⟩
              simp [this]
          refine ih2 _ ?_
          simp [g0,g1,g9,g10,g11,g47,g48,g49,g6,gB,hw2,anyI_succ hy,hany,hno,n1]
          omega
      · rintro c2 s ⟨g0,g1,g9,g10,g11,g47,g48,g49,⟨b,g6,gb,gB⟩,hany⟩
        rw [anyI_all] at hany
        have hlt:(l.take i).length=i:=by simp;omega
        rw [hlt] at g49
        simp [g0,g1,g9,g10,g11,g47,g48,g49,hL]
        have hyes:fldAt ts.length l i x=true:=by rw [htail,hany];rfl
        refine ih _ ?_
        simp [g0,g1,g9,g10,g11,hw,allI_succ hx,hall,hyes]
  · rintro c' t ⟨h0,h1,h9,h10,h11,hall⟩
    simp [h0,h1,h9,h10,h11,fldsB,hall]
    omega
noncomputable def c241:=ctr (fun a:List Ty × List Fld=>a.1.length≤lim∧limL Fld.lim a.2) (fun a=>[.lst (a.1.map Ty.v),.lst (a.2.map Fld.v)]) (fun a=>(false,.bool (fldsB a.1.length a.2)))
theorem c241_eq (ts:List Ty) (l:List Fld) (h:ts.length≤lim) (h2:limL Fld.lim l):c241 [.lst (ts.map Ty.v),.lst (l.map Fld.v)]=some (false,.bool (fldsB ts.length l)):=ctr_eq (inj248 _) (ts,l) ⟨h,h2⟩ rfl
theorem c241_ok:COK Tryz.prog (241,c241):=ctr_ok fun a h=>f241_ok a.1 a.2 h.1 h.2
theorem kind2_eq (l:List Ty) (n a b:Int):kind2B l n a b=(kindAt l n a || kindAt l n b):=by
  unfold kind2B kindAt
  cases inB n 0 (l.length - 1) <;> cases l[n.toNat]? <;> simp
theorem f211_ok (ts:List Ty) (x:Ty) (ht:ts.length≤lim) (hl:x.lim):FunOK Tryz.prog 211 [.lst (ts.map Ty.v),x.v] false (.bool (typeB ts x)):=by
  refine fun_ok (mkE_ok zmix (cl:=[(111,c111),(167,c167),(240,c240),(241,c241)]) (gl:=[]) [] ⟨c111_ok,c167_ok,c240_ok,c241_ok⟩ trivial) Tryz.func211 (by kernel_rfl) ?_
  refine FunW_run _ _ rfl rfl ?_
  have e1:=c111_eq x.name hl.2.2
  have e2:=c111_eq x.owner hl.2.1
  have e3:=c241_eq ts x.fields ht hl.1
  have e4:=c240_eq ts x.base 5 5 ht
  have e5:=c240_eq ts x.base 5 4 ht
  rw [kind2_eq] at e4 e5
  simp only [lim] at ht
  have hwn:IntKind.i64.wrap ((ts.length:Int) - 1)=(ts.length:Int) - 1:=wrap64 (by omega) (by omega)
  have hf:0 < x.fields.length ↔ ¬ x.fields=[]:=by cases x.fields <;> simp
  simp [e1,e2,e3,e4,e5,hwn,c167_eq]
  clear e1 e2 e3 e4 e5 hwn hf hl ht
  unfold typeB typeKB namedB
  generalize nameB x.name=a
  generalize nameB x.owner=b
  generalize kindAt ts x.base 5=k5
  generalize kindAt ts x.base 4=k4
  generalize fldsB ts.length x.fields=fb
  generalize inB x.long 1 1000=ib
  generalize inB x.base 0 (ts.length - 1)=ic
  grind
noncomputable def c211:=ctr (fun a:List Ty × Ty=>a.1.length≤lim∧a.2.lim) (fun a=>[.lst (a.1.map Ty.v),a.2.v]) (fun a=>(false,.bool (typeB a.1 a.2)))
theorem c211_eq (ts:List Ty) (x:Ty) (h:ts.length≤lim) (h2:x.lim):c211 [.lst (ts.map Ty.v),x.v]=some (false,.bool (typeB ts x)):=ctr_eq (inj221 _) (ts,x) ⟨h,h2⟩ rfl
theorem c211_ok:COK Tryz.prog (211,c211):=ctr_ok fun a h=>f211_ok a.1 a.2 h.1 h.2
end Go.TM.Tryz
end
section
set_option maxHeartbeats 4000000
set_option maxRecDepth 10000
namespace Go.TM.Tryz
open Go Go.TM Go.Proofs
theorem fldsEq_nil (xs:List Fld):fldsEq xs []=decide (xs=[]):=by
  cases xs with
  | nil=>simp [fldsEq,allI]
  | cons x xs=>simp [fldsEq]
theorem baseAt_eq {l:List Ty} {k:Nat} {x y:Ty} (hx:x ∈ baseTys) (hy:l[k]?=some y):baseAt l k x=tyEq y x:=by
  have hf:x.long=0∧x.base=-1∧x.fields=[]∧x.owner=⟨#[]⟩:=by
    simp only [baseTys,List.mem_cons,List.not_mem_nil,or_false] at hx
    rcases hx with rfl | rfl | rfl <;> simp
  obtain ⟨h1,h2,h3,h4⟩:=hf
  simp only [baseAt,hy,Option.any_some,tyEq,h1,h2,h3,h4,fldsEq_nil]
  rfl
theorem base_eq {l:List Ty} (h:3≤l.length):allI (baseAt l) baseTys baseTys.length=tysEq (l.take 3) baseTys:=by
  have h3:(l.take 3).length=3:=by simp;omega
  rw [Bool.eq_iff_iff,allI_iff,tysEq,Bool.and_eq_true,allI_iff]
  constructor
  · intro hh
    refine ⟨by simp [h3],fun i y hy=>?_⟩
    have hi:i < 3:=by
      rw [List.getElem?_eq_some_iff] at hy
      have:=hy.1
      omega
    have hib:i < baseTys.length:=hi
    have hx:=List.getElem?_eq_getElem hib
    have hyl:l[i]?=some y:=by
      rw [List.getElem?_take,if_pos hi] at hy
      exact hy
    simp only [tyAtEq,hx,Option.any_some]
    rw [← baseAt_eq (List.getElem_mem hib) hyl]
    exact hh i _ hx
  · rintro ⟨_,hh⟩ i x hx
    have hi:i < 3:=by
      rw [List.getElem?_eq_some_iff] at hx
      exact hx.1
    have hil:i < l.length:=by omega
    have hy:=List.getElem?_eq_getElem hil
    rw [baseAt_eq (List.mem_of_getElem? hx) hy]
    have:=hh i l[i] (by rw [List.getElem?_take,if_pos hi];exact hy)
    simpa only [tyAtEq,hx,Option.any_some] using this
theorem f169_ok (l:List Ty) (hl:limL Ty.lim l):FunOK Tryz.prog 169 [.lst (l.map Ty.v)] false (.bool (typesB l)):=by
  refine fun_ok (mkE_ok zmix (cl:=[(210,c210),(211,c211)]) (gl:=[]) [] ⟨c210_ok,c211_ok⟩ trivial) Tryz.func169 (by kernel_rfl) ?_
  refine FunW_run _ _ rfl rfl ?_
  have hlen:=hl.1
  have e87:=c210_eq l hlen
  simp only [lim] at hlen
  cases hb:baseB l
  · have:typesB l=false:=by
      simp only [baseB,Bool.and_eq_false_iff,decide_eq_false_iff_not] at hb
      simp only [typesB,Bool.and_eq_false_iff,inB,decide_eq_false_iff_not]
      by_cases h3:3≤l.length
      · rw [base_eq h3] at hb
        rcases hb with hb | hb
        · exact absurd h3 hb
        · exact .inl (.inr hb)
      · left;left;left;omega
    rw [hb] at e87
    simp [e87,this]
  have hbe:=hb
  rw [hb] at e87
  have h3:3≤l.length:=by
    simp only [baseB,Bool.and_eq_true,decide_eq_true_eq] at hb
    exact hb.1
  have hte:tysEq (l.take 3) baseTys=true:=by
    simp only [baseB,Bool.and_eq_true,decide_eq_true_eq] at hb
    rw [← base_eq h3]
    exact hb.2
  by_cases h24:(24:Int) < l.length
  · have:typesB l=false:=by
      simp only [typesB,Bool.and_eq_false_iff,inB,decide_eq_false_iff_not]
      left;left;right;omega
    simp [e87,h24,this]
  have htb:typesB l=allI (tyAt l) (l.drop 3) (l.drop 3).length:=by
    have:inB l.length 3 24=true:=by simp [inB];omega
    rw [typesB,this,hte]
    rfl
  have h3':(3:Int)≤l.length:=by omega
  simp [e87,h24,h3']
  obtain ⟨q,hq⟩:∃ q,q=l.drop 3:=⟨_,rfl⟩
  have hql:q.length=l.length - 3:=by rw [hq];simp
  rw [← hq] at htb
  refine lp_list q (fun i t=>t.e 0=.lst (l.map Ty.v)∧t.e 16=.lst (q.map Ty.v)∧t.e 17=.int .i64 q.length∧t.e 18=.int .i64 i∧allI (tyAt l) q i=true) ?_ ?_ ?_
  · subst hq
    simp
  · rintro c' L hL i t x hx hi ih ⟨h0,h16,h17,h18,hall⟩
    have hw:=wrI (i:=i) (by omega)
    have hw3:IntKind.i64.wrap (3 + (i:Int))=((3 + i:Nat):Int):=wrap64 (by omega) (by omega)
    have hxl:x ∈ l:=List.mem_of_mem_drop (i:=3) (hq ▸ List.mem_of_getElem? hx)
    have e88:=c211_eq l x hl.1 (hl.2 x hxl)
    simp only [Ty.v] at e88
    have h3i:(3 + (i:Int))≤l.length:=by omega
    have a1:(3:Int)≤3 + i:=by omega
    have a2:(3 + (i:Int)).toNat=3 + i:=by omega
    have no:tyAt l i x=false→typesB l=false:=fun hn=>by
      have:=allI_no hx hn
      rw [htb,this]
    cases hy:typeB l x
    · rw [hy] at e88
      have:=no (by simp [tyAt,hy])
      simp [-getElem?_pos,gcz,gcs,h0,h16,h17,h18,hL,hi,hx,e88,this]
    rw [hy] at e88
    obtain ⟨p,hp⟩:∃ p,p=(l.take (3 + i)).drop 3:=⟨_,rfl⟩
    have hpl:p.length=i:=by rw [hp];simp;omega
    have htail:tyAt l i x=!(p.any fun y=>!decide (x.name=⟨#[]⟩) && sameTyB x y):=by
      rw [hp,tyAt,hy]
      by_cases e:x.name=⟨#[]⟩ <;> simp [e]
    have hpm:List.drop 3 (List.take (3 + i) (l.map Ty.v))=p.map Ty.v:=by rw [hp,List.map_drop,List.map_take]
    simp [-getElem?_pos,gcz,gcs,h0,h16,h17,h18,hL,hi,hx,e88,hw3,h3i,a1,a2,hpm]
    refine lp_list p (fun j s=>s.e 0=.lst (l.map Ty.v)∧s.e 16=.lst (q.map Ty.v)∧s.e 17=.int .i64 q.length∧s.e 18=.int .i64 i∧s.e 30=.lst (p.map Ty.v)∧s.e 31=.int .i64 p.length∧s.e 32=.int .i64 j ∧
      (∃ b,s.e 4=.ptr b 0∧b < s.nb∧s.B b=some x.v)∧anyI (fun y=>!decide (x.name=⟨#[]⟩) && sameTyB x y) p j=false) ?_ ?_ ?_
    · simp [h0,h16,h17,h18]
    · rintro c2 L2 hL2 j s y hyp hj ih2 ⟨g0,g16,g17,g18,g30,g31,g32,⟨b,g4,gb,gB⟩,hany⟩
      have hw2:IntKind.i64.wrap ((j:Int) + 1)=((j + 1:Nat):Int):=wrap64 (by omega) (by omega)
      have n1:¬ b=s.nb:=by omega
      have n2:¬ s.nb=b:=by omega
      simp only [Ty.v] at gB
      simp [-getElem?_pos,gcz,gcs,g0,g16,g17,g18,g30,g31,g32,g4,gB,hL2,hj,hyp,n1,n2]
      split
      · rename_i hf
        have hany2:=any_yes (p:=fun y=>!decide (x.name=⟨#[]⟩) && sameTyB x y) hyp (by simp [hf.1.1,sameTyB,hf.1.2.symm,hf.2.symm])
        exact no (by rw [htail,hany2];rfl)
      · rename_i hf
        have hno:(!decide (x.name=⟨#[]⟩) && sameTyB x y)=false:=by
          simp only [sameTyB]
          by_cases e:x.name=⟨#[]⟩
          · simp [e]
          · by_cases e1:y.name=x.name
            · have:¬ y.owner=x.owner:=fun h=>hf ⟨⟨e,e1.symm⟩,h.symm⟩
              simp [this]
            · simp [e1]
        refine ih2 _ ?_
        simp [g0,g16,g17,g18,g30,g31,g32,g4,gB,hw2,anyI_succ hyp,hany,hno,n1,n2]
        omega
    · rintro c2 s ⟨g0,g16,g17,g18,g30,g31,g32,⟨b,g4,gb,gB⟩,hany⟩
      rw [anyI_all] at hany
      have hyes:tyAt l i x=true:=by rw [htail,hany];rfl
      simp [g0,g16,g17,g18,g30,g31,g32,hL]
      refine ih _ ?_
      simp [g0,g16,g17,g18,hw,allI_succ hx,hall,hyes]
  · rintro c' t ⟨h0,h16,h17,h18,hall⟩
    simp [h0,h16,h17,h18,htb,hall]
noncomputable def c169:=ctr (fun l:List Ty=>limL Ty.lim l) (fun l=>[.lst (l.map Ty.v)]) (fun l=>(false,.bool (typesB l)))
theorem c169_eq (l:List Ty) (h:limL Ty.lim l):c169 [.lst (l.map Ty.v)]=some (false,.bool (typesB l)):=ctr_eq (injl Ty.v_inj _) l h rfl
theorem c169_ok:COK Tryz.prog (169,c169):=ctr_ok fun l h=>f169_ok l h
theorem f115_ok (l:List Ty) (hl:limL Ty.lim l):FunOK Tryz.prog 115 [.lst (l.map Ty.v)] false (.bool (tableI l)):=by
  refine fun_ok (mkE_ok zmix (cl:=[(169,c169),(170,c170)]) (gl:=[]) [] ⟨c169_ok,c170_ok⟩ trivial) Tryz.func115 (by kernel_rfl) ?_
  refine FunW_run _ _ rfl rfl ?_
  have e75:=c169_eq l hl
  have hlen:=hl.1
  simp only [lim] at hlen
  cases ht:typesB l
  · rw [ht] at e75
    simp [e75,tableI,ht]
  · rw [ht] at e75
    have hp:=typesB_pre ht
    simp [e75]
    refine lp_list l (fun i t=>t.e 0=.lst (l.map Ty.v)∧t.e 8=.int .i64 l.length∧t.e 9=.int .i64 i∧allI (tabAt l) l i=true) ?_ ?_ ?_
    · simp
    · rintro c' L hL i t x hx hi ih ⟨h0,h8,h9,hall⟩
      have hw:=wrI (i:=i) (by omega)
      have e76:=c170_eq l i x hp hx
      cases hr:roundI l x i
      · rw [hr] at e76
        simp [-getElem?_pos,h0,h8,h9,hL,hi,e76]
        refine ih _ ?_
        simp [h0,h8,h9,hw,allI_succ hx,hall,tabAt,hr]
      · rw [hr] at e76
        have:=allI_no (p:=tabAt l) hx (by simp [tabAt,hr])
        simp [-getElem?_pos,h0,h8,h9,hL,hi,e76,tableI,this]
    · rintro c' t ⟨h0,h8,h9,hall⟩
      simp [h0,h8,h9,tableI,ht,hall]
noncomputable def c115:=ctr (fun l:List Ty=>limL Ty.lim l) (fun l=>[.lst (l.map Ty.v)]) (fun l=>(false,.bool (tableI l)))
theorem c115_eq (l:List Ty) (h:limL Ty.lim l):c115 [.lst (l.map Ty.v)]=some (false,.bool (tableI l)):=ctr_eq (injl Ty.v_inj _) l h rfl
theorem c115_ok:COK Tryz.prog (115,c115):=ctr_ok fun l h=>f115_ok l h
end Go.TM.Tryz
end
section
set_option maxHeartbeats 4000000
set_option maxRecDepth 10000
namespace Go.TM.Tryz
open Go Go.TM Go.Proofs
def impAt (s:Scp) (i:Nat) (m:ByteArray):Bool:=nameB m && !decide (m=s.name) && !hasB (s.imports.take i) m
def objAtS (s:Scp) (i:Nat) (o:Obj):Bool:=objB s.types.length o && !hasB s.imports o.name && !decide (fstI (fun x=>decide (x.name=o.name)) s.objects < i)
def goodTl (s:Scp):Bool:=nameB s.name && tableI s.types && decide (s.imports.length≤4) && decide (s.objects.length≤16) && decide (s.uses.length≤40)
def goodS (s:Scp):Bool:=allI (impAt s) s.imports s.imports.length && allI (objAtS s) s.objects s.objects.length && allI (useAtI s) s.uses s.uses.length && goodTl s
theorem f60_ok (s:Scp) (hl:s.lim):FunOK Tryz.prog 60 [s.v] false (.bool (goodS s)):=by
  refine fun_ok (mkE_ok zmix (cl:=[(111,c111),(112,c112),(113,c113),(114,c114),(115,c115)]) (gl:=[]) [] ⟨c111_ok,c112_ok,c113_ok,c114_ok,c115_ok⟩ trivial) Tryz.func60 (by kernel_rfl) ?_
  refine FunW_run _ _ rfl rfl ?_
  obtain ⟨l1,l2,l3,l4,l5⟩:=hl
  have li:=l2.1
  have lo:=l4.1
  have lu:=l5.1
  simp only [lim] at li lo lu
  simp
  refine lp_list s.imports (fun i t=>t.e 12=.lst (s.imports.map .str)∧t.e 13=.int .i64 s.imports.length∧t.e 14=.int .i64 i∧(∃ b,t.e 1=.ptr b 0∧b < t.nb∧t.B b=some s.v)∧allI (impAt s) s.imports i=true) ?_ ?_ ?_
  · simp
  · rintro c' L hL i t m hx hi ih ⟨g12,g13,g14,⟨b,g1,gb,gB⟩,hal⟩
    have hw:=wrI (i:=i) (by omega)
    have e39:=c111_eq m (l2.2 m (List.mem_of_getElem? hx))
    have e46:=c112_eq (s.imports.take i) m (by simp [lim];omega)
    rw [List.map_take] at e46
    have hii:(i:Int)≤s.imports.length:=by omega
    have hii2:i≤s.imports.length:=by omega
    simp only [Scp.v] at gB
    have no:impAt s i m=false→goodS s=false:=fun hn=>by
      have:=allI_no hx hn
      simp [goodS,this]
    have go:∀ s',impAt s i m=true→s'.e 12=.lst (s.imports.map .str)→s'.e 13=.int .i64 s.imports.length→s'.e 14=.int .i64 ((i + 1:Nat):Int)→s'.e 1=.ptr b 0→b < s'.nb→s'.B b=some s.v→L s':=fun s' hy a0 a1 a2 a3 a4 a5 =>
      ih s' ⟨a0,a1,a2,⟨b,a3,a4,a5⟩,by rw [allI_succ hx,hal,hy];rfl⟩
    cases b1:nameB m <;> by_cases b2:m=s.name <;> cases b3:hasB (s.imports.take i) m
    all_goals
      rw [b1] at e39
      rw [b3] at e46
      first | rw [b2] at e39 e46 | skip
      simp [-getElem?_pos,gcz,gcs,g12,g13,g14,g1,gB,hL,hi,hx,hii,hii2,e39,e46,b2]
      first
      | (apply no;simp [impAt,b1,b2,b3];done)
      | (apply go <;> simp [impAt,b1,b2,b3,g12,g13,g14,g1,gB,hw,gb];done)
      | skip
  · rintro c' t ⟨g12,g13,g14,⟨b,g1,gb,gB⟩,hal⟩
    simp only [Scp.v] at gB
    simp [g12,g13,g14,g1,gB]
    clear g12 g13 g14
    refine lp_list s.objects (fun i t=>t.e 38=.lst (s.objects.map Obj.v)∧t.e 39=.int .i64 s.objects.length∧t.e 40=.int .i64 i∧(∃ b,t.e 1=.ptr b 0∧b < t.nb∧t.B b=some s.v)∧allI (objAtS s) s.objects i=true) ?_ ?_ ?_
    · simp [g1,gB,gb]
    · rintro c2 L2 hL2 i t2 o hx hi ih ⟨g38,g39,g40,⟨b2,k1,kb,kB⟩,hal2⟩
      have hw:=wrI (i:=i) (by omega)
      have hol:=l4.2 o (List.mem_of_getElem? hx)
      have e47:=c113_eq s.types o l3.1 hol
      have e46:=c112_eq s.imports o.name l2.1
      have e48:=c114_eq s o.name l4.1
      simp only [Obj.v] at e47
      simp only [Scp.v] at e48 kB
      have n1:¬ b2=t2.nb:=by omega
      have n2:¬ t2.nb=b2:=by omega
      have no:objAtS s i o=false→goodS s=false:=fun hn=>by
        have:=allI_no hx hn
        simp [goodS,this]
      have go:∀ s',objAtS s i o=true→s'.e 38=.lst (s.objects.map Obj.v)→s'.e 39=.int .i64 s.objects.length→s'.e 40=.int .i64 ((i + 1:Nat):Int)→s'.e 1=.ptr b2 0→b2 < s'.nb→s'.B b2=some s.v→L2 s':=fun s' hy a0 a1 a2 a3 a4 a5 =>
        ih s' ⟨a0,a1,a2,⟨b2,a3,a4,a5⟩,by rw [allI_succ hx,hal2,hy];rfl⟩
      generalize hf:fstI (fun x=>decide (x.name=o.name)) s.objects=k at *
      cases q1:objB s.types.length o <;> cases q2:hasB s.imports o.name <;> by_cases q3:k < i
      all_goals
        rw [q1] at e47
        rw [q2] at e46
        simp [-getElem?_pos,gcz,gcs,g38,g39,g40,k1,kB,hL2,hi,hx,e47,e46,e48,q3,n1,n2]
        first
        | (apply no;simp [objAtS,q1,q2,q3,hf];done)
        | (apply go <;> simp [objAtS,q1,q2,q3,hf,g38,g39,g40,k1,kB,hw,n1,n2] <;> omega)
        | skip
    · rintro c2 t2 ⟨g38,g39,g40,⟨b2,k1,kb,kB⟩,hal2⟩
      simp only [Scp.v] at kB
      simp [g38,g39,g40,k1,kB]
      clear g38 g39 g40
      refine lp_list s.uses (fun i t=>t.e 67=.lst (s.uses.map Use.v)∧t.e 68=.int .i64 s.uses.length∧t.e 69=.int .i64 i∧(∃ b,t.e 1=.ptr b 0∧b < t.nb∧t.B b=some s.v)∧allI (useAtI s) s.uses i=true) ?_ ?_ ?_
      · simp [k1,kB,kb]
      · rintro c3 L3 hL3 i t3 u hx hi ih ⟨g67,g68,g69,⟨b3,m1,mb,mB⟩,hal3⟩
        have hw:=wrI (i:=i) (by omega)
        have hul:=l5.2 u (List.mem_of_getElem? hx)
        have e46:=c112_eq s.imports u.mod l2.1
        have e39:=c111_eq u.name hul.2
        have hii:(i:Int)≤s.uses.length:=by omega
        have hii2:i≤s.uses.length:=by omega
        simp only [Scp.v] at mB
        have n1:¬ b3=t3.nb:=by omega
        have n2:¬ t3.nb=b3:=by omega
        have no:useAtI s i u=false→goodS s=false:=fun hn=>by
          have:=allI_no hx hn
          simp [goodS,this]
        cases q1:hasB s.imports u.mod
        · rw [q1] at e46
          have:=no (by simp [useAtI,q1])
          simp [-getElem?_pos,gcz,gcs,g67,g68,g69,m1,mB,hL3,hi,hx,hii,hii2,e46,e39,n1,n2,this]
        rw [q1] at e46
        cases q2:nameB u.name
        · rw [q2] at e39
          have:=no (by simp [useAtI,q2])
          simp [-getElem?_pos,gcz,gcs,g67,g68,g69,m1,mB,hL3,hi,hx,hii,hii2,e46,e39,n1,n2,this]
        rw [q2] at e39
        simp [-getElem?_pos,gcz,gcs,g67,g68,g69,m1,mB,hL3,hi,hx,hii,hii2,e46,e39,n1,n2]
        obtain ⟨p,hp⟩:∃ p,p=s.uses.take i:=⟨_,rfl⟩
        have hpl:p.length=i:=by rw [hp];simp;omega
        have htail:useAtI s i u=!p.any (sameUseB u):=by simp [useAtI,q1,q2,hp]
        refine lp_list p (fun j t=>t.e 67=.lst (s.uses.map Use.v)∧t.e 68=.int .i64 s.uses.length∧t.e 69=.int .i64 i∧t.e 89=.lst (p.map Use.v)∧t.e 90=.int .i64 p.length∧t.e 91=.int .i64 j ∧
          (∃ b,t.e 1=.ptr b 0∧b < t.nb∧t.B b=some s.v)∧(∃ d,t.e 8=.ptr d 0∧d < t.nb∧t.B d=some u.v)∧anyI (sameUseB u) p j=false) ?_ ?_ ?_
        · subst hp
          simp [g67,g68,g69,m1,mB,n1,n2,hii2]
          omega
        · rintro c4 L4 hL4 j t4 v hv hj ih2 ⟨h67,h68,h69,h89,h90,h91,⟨b4,r1,rb,rB⟩,⟨d,r8,rd,rD⟩,hany⟩
          have hw2:IntKind.i64.wrap ((j:Int) + 1)=((j + 1:Nat):Int):=wrap64 (by omega) (by omega)
          have n3:¬ b4=t4.nb:=by omega
          have n4:¬ d=t4.nb:=by omega
          simp only [Scp.v] at rB
          simp only [Use.v] at rD
          simp [-getElem?_pos,gcz,gcs,h67,h68,h69,h89,h90,h91,r1,rB,r8,rD,hL4,hj,hv,n3,n4]
          split
          · rename_i hf
            have hany2:=any_yes (p:=sameUseB u) hv (by simp [sameUseB,hf.1,hf.2])
            exact no (by rw [htail,hany2];rfl)
          · rename_i hf
            have hno:sameUseB u v=false:=by
              simp only [sameUseB,Bool.and_eq_false_iff,decide_eq_false_iff_not]
              by_cases e:u.mod=v.mod
              · exact .inr fun h=>hf ⟨e,h⟩
              · exact .inl e
            refine ih2 _ ?_
            simp [h67,h68,h69,h89,h90,h91,r1,rB,r8,rD,hw2,anyI_succ hv,hany,hno,n3,n4]
            omega
        · rintro c4 t4 ⟨h67,h68,h69,h89,h90,h91,⟨b4,r1,rb,rB⟩,⟨d,r8,rd,rD⟩,hany⟩
          rw [anyI_all] at hany
          have hyes:useAtI s i u=true:=by rw [htail,hany];rfl
          simp [h67,h68,h69,h89,h90,h91,hL3]
          refine ih _ ?_
          simp [h67,h68,h69,r1,rB,rb,hw,allI_succ hx,hal3,hyes]
      · rintro c3 t3 ⟨g67,g68,g69,⟨b3,m1,mb,mB⟩,hal3⟩
        simp only [Scp.v] at mB
        have e39:=c111_eq s.name l1
        have e49:=c115_eq s.types l3
        have hg:goodS s=goodTl s:=by simp [goodS,hal,hal2,hal3]
        simp [g67,g68,g69,m1,mB,e39,e49,hg]
        have z1:((s.imports.length:Int)≤4) ↔ s.imports.length≤4:=by omega
        have z2:((s.objects.length:Int)≤16) ↔ s.objects.length≤16:=by omega
        have z3:((s.uses.length:Int)≤40) ↔ s.uses.length≤40:=by omega
        simp only [goodTl,z1,z2,z3]
theorem hasB_iff {l:List ByteArray} {s:ByteArray}:hasB l s=true ↔ s ∈ l:=by
  simp only [hasB,List.any_eq_true,decide_eq_true_eq]
  exact ⟨fun ⟨x,h,e⟩=>e ▸ h,fun h=>⟨s,h,rfl⟩⟩
theorem unlikeB_iff {l:List ByteArray}:unlikeB l=true ↔ (∀ x ∈ l,nameB x=true)∧l.Nodup:=by
  rw [unlikeB,allI_iff]
  constructor
  · intro h
    refine ⟨fun x hx=>?_,?_⟩
    · obtain ⟨i,hi,rfl⟩:=List.mem_iff_getElem.1 hx
      have:=h i _ (List.getElem?_eq_getElem hi)
      simp only [Bool.and_eq_true] at this
      exact this.1
    · unfold List.Nodup
      rw [List.pairwise_iff_getElem]
      intro i j hi hj hij e
      have:=h j _ (List.getElem?_eq_getElem hj)
      simp only [Bool.and_eq_true,Bool.not_eq_true'] at this
      have h2:=this.2
      rw [← Bool.not_eq_true,hasB_iff] at h2
      apply h2
      rw [← e]
      exact List.mem_take_iff_getElem.2 ⟨i,by omega,rfl⟩
  · rintro ⟨h1,h2⟩ i x hx
    have hm:=List.mem_of_getElem? hx
    simp only [Bool.and_eq_true,Bool.not_eq_true']
    refine ⟨h1 x hm,?_⟩
    rw [← Bool.not_eq_true,hasB_iff]
    intro hc
    obtain ⟨j,hj,e⟩:=List.mem_take_iff_getElem.1 hc
    rw [List.getElem?_eq_some_iff] at hx
    obtain ⟨hi,hx⟩:=hx
    unfold List.Nodup at h2
    rw [List.pairwise_iff_getElem] at h2
    exact h2 j i (by omega) hi (by omega) (by rw [e,hx])
end Go.TM.Tryz
end
section
set_option maxHeartbeats 2000000
namespace Go.TM.Tryz
open Go Go.TM Go.Proofs
theorem objB_eq (n:Nat) (o:Obj):objB n o=(nameB o.name && objIB n o):=by
  have hp:∀ p:List Par,allI (parIAt n p) p p.length=allI (parAt n p) p p.length:=fun p=>rfl
  unfold objB objIB objIHead objKind objIKind parsB
  rw [hp]
  by_cases hk:o.kind=4
  · have h1:inB o.type (-1) (n - 1)=(decide (o.type=-1) || inB o.type 0 (n - 1)):=by
      rw [Bool.eq_iff_iff,Bool.or_eq_true,inB_iff,inB_iff,decide_eq_true_eq]
      omega
    rw [h1]
    simp only [hk]
    generalize allI (parAt n o.params) o.params o.params.length=a
    generalize nameB o.name=b
    generalize inB o.mark 0 2=c
    generalize inB o.type 0 (n - 1)=d
    cases a <;> cases b <;> cases c <;> cases d <;> by_cases h2:o.mark=2 <;> by_cases h3:o.value=0 <;> by_cases h4:o.params.length≤4 <;> by_cases h5:o.type=-1 <;> simp [h2,h3,h4,h5]
  · by_cases hl:o.params=[]
    · simp only [hl,hk]
      generalize nameB o.name=b
      generalize inB o.mark 0 2=c
      generalize inB o.type 0 (n - 1)=d
      generalize inB o.value (-1000000000) 1000000000=e
      by_cases k1:o.kind=1
      · cases b <;> cases c <;> cases d <;> cases e <;> by_cases h2:o.mark=2 <;> by_cases h3:o.value=0 <;> by_cases h5:o.type=0 <;> simp [h2,h3,h5,k1,allI]
      · by_cases k2:o.kind=2 ∨ o.kind=3
        · cases b <;> cases c <;> cases d <;> by_cases h2:o.mark=2 <;> by_cases h3:o.value=0 <;> by_cases h6:o.kind=3 <;> simp [h2,h3,h6,k1,k2,allI]
        · simp [k1,k2]
    · have:0 < o.params.length:=List.length_pos_iff.2 hl
      simp [hk,this]
theorem nodup_takes {α β:Type} (f:α→β) (l:List α):(∀ i x,l[i]?=some x→f x ∉ (l.take i).map f) ↔ (l.map f).Nodup:=by
  unfold List.Nodup
  rw [List.pairwise_iff_getElem]
  constructor
  · intro h i j hi hj hij e
    simp only [List.length_map] at hi hj
    refine h j _ (List.getElem?_eq_getElem hj) ?_
    simp only [List.getElem_map] at e
    rw [← e,List.mem_map]
    exact ⟨l[i],List.mem_take_iff_getElem.2 ⟨i,by omega,rfl⟩,rfl⟩
  · intro h i x hx hc
    obtain ⟨y,hy,e⟩:=List.mem_map.1 hc
    obtain ⟨j,hj,e2⟩:=List.mem_take_iff_getElem.1 hy
    rw [List.getElem?_eq_some_iff] at hx
    obtain ⟨hi,hx⟩:=hx
    refine h j i (by simp;omega) (by simpa using hi) (by omega) ?_
    simp only [List.getElem_map,e2,hx,e]
theorem fst_lt {α:Type} {p:α→Bool} {l:List α} {i:Nat} {x:α} (hx:l[i]?=some x) (hp:p x=true):fstI p l < i ↔ ∃ y ∈ l.take i,p y=true:=by
  rw [fstI,if_pos (any_yes hx hp)]
  have hi:i < l.length:=by
    rw [List.getElem?_eq_some_iff] at hx
    exact hx.1
  constructor
  · intro h
    have h1:l.findIdx p < i:=by omega
    have h2:l.findIdx p < l.length:=by omega
    exact ⟨_,List.mem_take_iff_getElem.2 ⟨l.findIdx p,by omega,rfl⟩,List.findIdx_getElem (w:=h2)⟩
  · rintro ⟨y,hy,hpy⟩
    obtain ⟨j,hj,e⟩:=List.mem_take_iff_getElem.1 hy
    by_cases hlt:j < l.findIdx p
    · have:=List.not_of_lt_findIdx hlt
      rw [e,hpy] at this
      cases this
    · omega
theorem impAt_iff (s:Scp):allI (impAt s) s.imports s.imports.length=true ↔ (∀ m ∈ s.imports,nameB m=true)∧s.name ∉ s.imports∧s.imports.Nodup:=by
  have h0:=nodup_takes (fun x:ByteArray=>x) s.imports
  rw [List.map_id'] at h0
  rw [allI_iff,← h0]
  simp only [impAt,Bool.and_eq_true,Bool.not_eq_true',decide_eq_false_iff_not,← Bool.not_eq_true,hasB_iff,List.map_id']
  constructor
  · intro h
    refine ⟨fun m hm=>?_,fun hc=>?_,fun i x hx=>(h i x hx).2⟩
    · obtain ⟨i,hi,rfl⟩:=List.mem_iff_getElem.1 hm
      exact (h i _ (List.getElem?_eq_getElem hi)).1.1
    · obtain ⟨i,hi,e⟩:=List.mem_iff_getElem.1 hc
      exact (h i _ (List.getElem?_eq_getElem hi)).1.2 (by simpa using e)
  · rintro ⟨h1,h2,h3⟩ i x hx
    have hm:=List.mem_of_getElem? hx
    exact ⟨⟨h1 x hm,fun e=>h2 ((by simpa using e:x=s.name) ▸ hm)⟩,h3 i x hx⟩
theorem objAtS_iff (s:Scp):allI (objAtS s) s.objects s.objects.length=true ↔ (∀ o ∈ s.objects,nameB o.name=true∧objIB s.types.length o=true)∧(∀ o ∈ s.objects,o.name ∉ s.imports)∧(s.objects.map Obj.name).Nodup:=by
  rw [allI_iff,← nodup_takes]
  have key:∀ i o,s.objects[i]?=some o→(objAtS s i o=true ↔ (nameB o.name=true∧objIB s.types.length o=true)∧o.name ∉ s.imports∧o.name ∉ (s.objects.take i).map Obj.name):=by
    intro i o ho
    rw [objAtS,objB_eq]
    simp only [Bool.and_eq_true,Bool.not_eq_true',decide_eq_false_iff_not,← Bool.not_eq_true (hasB _ _),hasB_iff]
    rw [fst_lt ho (by simp)]
    constructor
    · rintro ⟨⟨h1,h2⟩,h3⟩
      refine ⟨h1,h2,fun hc=>h3 ?_⟩
      obtain ⟨y,hy,e⟩:=List.mem_map.1 hc
      exact ⟨y,hy,by simp [e]⟩
    · rintro ⟨h1,h2,h3⟩
      refine ⟨⟨h1,h2⟩,?_⟩
      rintro ⟨y,hy,e⟩
      exact h3 (List.mem_map.2 ⟨y,hy,by simpa using e⟩)
  constructor
  · intro h
    refine ⟨fun o ho=>?_,fun o ho=>?_,fun i x hx=>((key i x hx).1 (h i x hx)).2.2⟩ <;>
    · obtain ⟨i,hi,rfl⟩:=List.mem_iff_getElem.1 ho
      have:=(key i _ (List.getElem?_eq_getElem hi)).1 (h i _ (List.getElem?_eq_getElem hi))
      first | exact this.1 | exact this.2.1
  · rintro ⟨h1,h2,h3⟩ i x hx
    have hm:=List.mem_of_getElem? hx
    exact (key i x hx).2 ⟨h1 x hm,h2 x hm,h3 i x hx⟩
theorem objAtI_iff (s:Scp):allI (objAtI s) s.objects s.objects.length=true ↔ ∀ o ∈ s.objects,objIB s.types.length o=true:=by
  rw [allI_iff]
  constructor
  · intro h o ho
    obtain ⟨i,hi,rfl⟩:=List.mem_iff_getElem.1 ho
    exact h i _ (List.getElem?_eq_getElem hi)
  · exact fun h i o ho=>h o (List.mem_of_getElem? ho)
theorem good_eq (s:Scp):goodS s=scopeI s:=by
  rw [Bool.eq_iff_iff]
  simp only [goodS,scopeI,goodTl,scopeHd,Bool.and_eq_true,decide_eq_true_eq,impAt_iff,objAtS_iff,objAtI_iff,unlikeB_iff,List.nodup_cons,List.nodup_append,List.mem_cons,List.mem_append,List.mem_map]
  constructor
  · rintro ⟨⟨⟨⟨a1,a2,a3⟩,b1,b2,b3⟩,hu⟩,⟨⟨⟨d1,d2⟩,d3⟩,d4⟩,d5⟩
    refine ⟨⟨⟨⟨d1,d3,⟨?_,a2,a3⟩,d2,d4,d5⟩,fun o ho=>(b1 o ho).2⟩,hu⟩,?_,a3,b3,?_⟩
    · rintro x (rfl | hx)
      · exact d1
      · exact a1 x hx
    · rintro x (hx | ⟨o,ho,rfl⟩)
      · exact a1 x hx
      · exact (b1 o ho).1
    · rintro x hx y ⟨o,ho,rfl⟩ e
      exact b2 o ho (e ▸ hx)
  · rintro ⟨⟨⟨⟨d1,d3,⟨a1,a2,a3⟩,d2,d4,d5⟩,b1⟩,hu⟩,c1,c2,c3,c4⟩
    refine ⟨⟨⟨⟨fun m hm=>a1 m (.inr hm),a2,a3⟩,fun o ho=>⟨c1 _ (.inr ⟨o,ho,rfl⟩),b1 o ho⟩,fun o ho hc=>?_,c3⟩,hu⟩,⟨⟨⟨d1,d2⟩,d3⟩,d4⟩,d5⟩
    exact c4 _ hc _ ⟨o,ho,rfl⟩ rfl
noncomputable def c60:=ctr (fun s:Scp=>s.lim) (fun s=>[s.v]) (fun s=>(false,.bool (scopeI s)))
theorem c60_eq (s:Scp) (h:s.lim):c60 [s.v]=some (false,.bool (scopeI s)):=ctr_eq (inj0 Scp.v_inj _) s h rfl
theorem c60_ok:COK Tryz.prog (60,c60):=ctr_ok fun s h=>by
  have:=f60_ok s h
  rw [good_eq] at this
  exact this
end Go.TM.Tryz
end
