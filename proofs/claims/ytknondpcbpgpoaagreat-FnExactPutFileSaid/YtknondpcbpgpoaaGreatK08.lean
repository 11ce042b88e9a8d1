/- A part of the proof: GC, G6, GD, G7. -/
import Derived.Test.YtknondpcbpgpoaaGreatK07
set_option linter.unusedVariables false
set_option linter.unusedSimpArgs false
section
set_option maxHeartbeats 8000000
set_option maxRecDepth 20000
namespace Go.TM.Tryz
open Go Go.TM Go.Proofs
@[simp] theorem ET_ti:ET.ti=tiOf Tryz.prog:=rfl
@[simp] theorem ET_el:ET.el=elOf Tryz.prog:=rfl
@[simp] theorem ET_fld:ET.fld=Go.TM.fldOf Tryz.prog:=rfl
@[simp] theorem ET_str:ET.str=strOf Tryz.prog:=rfl
@[simp] theorem ET_bol:ET.bol=bolOf Tryz.prog:=rfl
@[simp] theorem ET_int:ET.int=intOf Tryz.prog:=rfl
@[simp] theorem ET_bld:ET.bld=bldOf Tryz.prog:=rfl
@[simp] theorem ET_eqs:ET.eqs=eqsOf Tryz.prog:=rfl
@[simp] theorem ET_call:ET.call=callL [(184,c184)]:=rfl
@[simp] theorem ET_rw:ET.rw=rwL []:=rfl
@[simp] theorem ET_gen:ET.gen=genL []:=rfl
@[simp] theorem ET_plan:ET.plan=planL []:=rfl
@[simp] theorem ET_pln:ET.pln=plnL [(10,pl10)]:=rfl
attribute [simp] CT cT3 cT7 cT11 cT18
structure Cnd5 (l:List Ty) (ty:Ty) (s:S) (g:GT) (b t:Nat) (xs:List V) (x:Fld) (i:Nat) (s4 S5:S) (g4:GT) (t4:Nat) (h:Hdr) (bs:Int) (fs:List Fld) (es4:List Ent) (m:Nat):Prop where
  e0:S5.e 0=.ptr b 0
  e7:S5.e 7=.int .i64 (xs.length:Nat)
  e8:S5.e 8=.ptr s.nb 0
  e10:S5.e 10=.int .i64 i
  e11:S5.e 11=.ptr s4.nb 0
  e71:S5.e 71=.own (s.nt + 1)
  e72:S5.e 72=.int .i64 m
  e73:S5.e 73=.int .i64 i
  Bf:S5.B s4.nb=some x.v
  nb:s4.nb < S5.nb
  nt:s.nt≤S5.nt
  J:TkM l ty s g b t xs S5.B S5.R S5.nt S5.nb g4 s.nb (s.nt + 1) t4 h bs fs es4
theorem ite_key {c:Prop} [Decidable c] {P Q:S→Prop} {SA SB:S} (key:∀ S,Q S→P S) (hA:c→Q SA) (hB:¬ c→Q SB):if c then P SA else P SB:=by
  split
  · exact key _ (hA ‹_›)
  · exact key _ (hB ‹_›)
theorem take_ok (l:List Ty) (hl:Go.TM.TyRef l) (h24:l.length≤24) (hf6:∀ t ∈ l,t.fields.length≤6):∀ f,OpenC Tryz.prog 132 (preT l f) (postT l f)
  | 0=>by
    rintro M W s g args vs hm hat ha ⟨b,t,xs,n,rfl,hp⟩
    have:=hp.f
    omega
  | f + 1=>by
    have ih:=take_ok l hl h24 hf6 f
    rintro M W s g args vs hm hat ha ⟨b,t,xs,n,rfl,hp⟩
    refine Calls.mono (open_sound (C:=CT l f) (Inv:=InvT M W) (g:=g) ET_ok InvT.evo Tryz.func132 rfl (by kernel_rfl) (take_okX l f ih M W rfl) hm ha ⟨hat,EvoX.refl _ _ _⟩ (post:=fun s' g' r=>g'.mb=g.mb∧postT l (f + 1) s g [.ptr b 0,.int .i64 n] s' g' r) ?_) ?_
    · refine codeX_run ?_
      have hr:Tryz.f132.results.toList=[.tmp 4]:=rfl
      have hB:=hp.B
      have hR:=hp.R
      simp only [EndsC,hr,resOf]
      by_cases h0:n < 0
      · simp [h0]
        exact postT_mk hp (by simp [tk,h0]) (by simp [tk,h0]) ⟨t,[],by simp only [tk,h0,if_true];exact post_refl hp rfl rfl rfl rfl⟩
      · by_cases hmem:n ∈ g.ord
        · simp [h0,hB,hmem,rLook]
          exact postT_mk hp (by simp [tk,h0,hmem]) (by simp [tk,h0,hmem]) ⟨t,[],by simp only [tk,h0,hmem,if_true,if_false];exact post_refl hp rfl rfl rfl rfl⟩
        · have hlen:=hp.len
          have hn:=hp.n
          have hlt:n.toNat < l.length:=by omega
          obtain ⟨ty,hty⟩:∃ ty,l[n.toNat]?=some ty:=⟨_,List.getElem?_eq_getElem hlt⟩
          have hmt:ty ∈ l:=List.mem_of_getElem? hty
          have e184:=c184_eq ty.fields (by have:=hf6 ty hmt;omega)
          have h0':0≤n:=by omega
          have hl6:=hf6 ty hmt
          simp [-getElem?_pos,List.getElem?_cons_zero,h0,hB,hmem,rLook,hR,rUpd,hlen,hty,hn,h0',e184]
          generalize hK:kontX ET (CT l f) _ _ X.normal=K
          have hbt:=hp.b
          have htt:=hp.t
          have hadd:=hp.ord.add hmem h0' hn
          have hal:=hadd.len
          have hpf:=hp.f
          rw [List.length_append,List.length_singleton] at hal
          have key:∀ h s2,s2.e 0=.ptr b 0→s2.e 7=.int .i64 (xs.length:Nat)→s2.e 8=.ptr s.nb 0 →
              TkM l ty s g b t xs s2.B s2.R s2.nt s2.nb { g with ord:=g.ord ++ [n],hd:=(s.nt + 1,h) :: g.hd } s.nb (s.nt + 1) (s.nt + 3) h ty.base ty.fields []→K s2 { g with ord:=g.ord ++ [n],hd:=(s.nt + 1,h) :: g.hd }:=by
            subst hK
            intro h s2 e0 e7 e8 H
            have hfa:l.length - (g.ord ++ [n]).length < f:=by rw [List.length_append,List.length_singleton];omega
            have hba:=hl.base ty hmt
            simp [e0,e8,H.Bo]
            have hpre:∀ S3:S,S3.B=s2.B→S3.R=s2.R→S3.nt=s2.nt→S3.nb=s2.nb→TkPre l f S3 { g with ord:=g.ord ++ [n],hd:=(s.nt + 1,h) :: g.hd } b (s.nt + 3) _ ty.base:=fun S3 h1 h2 h3 h4 =>
              H.pre h1 h2 h3 h4 (by simp [hlen]) hadd hba hfa
            refine ⟨⟨by simp,by simp,b,_,_,ty.base,by simp,hpre _ rfl rfl rfl rfl⟩,?_⟩
            intro s3 g3 r hpost
            obtain ⟨rfl,ho3,t3,es,H3⟩:=hpost b _ _ ty.base (by simp) (hpre _ rfl rfl rfl rfl)
            have J3:=H.call H3 rfl rfl rfl rfl
            have q1:=J3.Bo
            have q2:=J3.Ru
            have q3:=J3.fR
            have q4:=J3.fB
            have q5:¬ s.nt + 1=t3:=J3.ut
            have q6:(xs.length:Int) < xs.length + (es.length + 1):=by omega
            simp only [List.nil_append] at q3 J3
            simp [-getElem?_pos,List.getElem?_cons_zero,get_mid,q1,q2,q3,q4,q5,q6,e0,e7,e8]
            have hok2:=tk_ok hl f (g.ord ++ [n]) ty.base hadd hfa hba
            refine lpX_list ty.fields (fun i s4 g4=>s4.e 0=.ptr b 0∧s4.e 7=.int .i64 (xs.length:Nat)∧s4.e 8=.ptr s.nb 0∧s4.e 71=.own (s.nt + 1)∧s4.e 72=.int .i64 ty.fields.length∧s4.e 73=.int .i64 i∧g4.ord=(fldsW (tk l f) (tk l f (g.ord ++ [n]) ty.base).2.1 (ty.fields.take i)).1 ∧
              s.nt≤s4.nt∧∃ t4 es4,es4.map Ent.ty=(tk l f (g.ord ++ [n]) ty.base).2.2 ++ (fldsW (tk l f) (tk l f (g.ord ++ [n]) ty.base).2.1 (ty.fields.take i)).2.2 ∧
                TkM l ty s g b t xs s4.B s4.R s4.nt s4.nb g4 s.nb (s.nt + 1) t4 h (tk l f (g.ord ++ [n]) ty.base).1 ((fldsW (tk l f) (tk l f (g.ord ++ [n]) ty.base).2.1 (ty.fields.take i)).2.1 ++ ty.fields.drop i) es4) ?_ ?_ ?_
            · refine ⟨by simp [e0],by simp [e7],by simp [e8],by simp,by simp,by simp,ho3,?_,t3,es,by simp [fldsW,H3.tys],?_⟩
              · have:=J3.u0
                have:=J3.u1
                show s.nt≤s3.nt
                omega
              · exact J3.base (tk l f (g.ord ++ [n]) ty.base).1
            · rintro I i s4 g4 x hx hi ihI ⟨j0,j7,j8,j1,j2,j3,jo,jn,t4,es4,jt,J⟩
              have p1:=J.Bo
              have p2:=J.Ru
              have p3:=J.fR
              have p4:=J.fB
              have hxm:=List.mem_of_getElem? hx
              have hxr:=hl.flds ty hmt x hxm
              have hfl:(fldsW (tk l f) (tk l f (g.ord ++ [n]) ty.base).2.1 (ty.fields.take i)).2.1.length=i:=by rw [fldsW_len,List.length_take];omega
              have hL:((fldsW (tk l f) (tk l f (g.ord ++ [n]) ty.base).2.1 (ty.fields.take i)).2.1 ++ ty.fields.drop i).length=ty.fields.length:=by rw [List.length_append,hfl,List.length_drop];omega
              have hd:ty.fields.drop i=x :: ty.fields.drop (i + 1):=by
                rw [List.getElem?_eq_some_iff] at hx
                rw [← hx.2]
                exact List.drop_eq_getElem_cons hi
              have hsn:=fldsW_snoc (tk l f) x (ty.fields.take i) (tk l f (g.ord ++ [n]) ty.base).2.1
              rw [show ty.fields.take i ++ [x]=ty.fields.take (i + 1) by rw [List.take_add_one,hx];rfl] at hsn
              have hTk:=fldsW_ok (m:=f) (fun o (y:Int) ho hm (h0:0≤y) hlt=>tk_ok hl f o y ho hm hlt) (ty.fields.take i) (tk l f (g.ord ++ [n]) ty.base).2.1 (fun y hy=>hl.flds ty hmt y (List.mem_of_mem_take hy)) hok2.ok (by have:=hok2.le;simp at this ⊢;omega)
              generalize hP:fldsW (tk l f) (tk l f (g.ord ++ [n]) ty.base).2.1 (ty.fields.take i)=Pf at *
              have hg:(Pf.2.1 ++ ty.fields.drop i)[i]?=some x:=by
                rw [hd,← hfl];exact get_mid _ _ _
              generalize hfs:Pf.2.1 ++ ty.fields.drop i=fs at *
              have hsub:s.nb < s4.nb:=J.b1
              have k3:¬ s.nb=s4.nb:=by omega
              have k4:¬ b=s4.nb:=by have:=J.bb;omega
              have hw:=wrI (i:=i) (by omega)
              simp [-getElem?_pos,List.getElem?_cons_zero,j0,j1,j2,j3,j7,j8,p1,p2,p3,p4,hL,hi,hg,k3,k4]
              refine ite_key (Q:=fun S5=>Cnd5 l ty s g b t xs x i s4 S5 g4 t4 h (tk l f (g.ord ++ [n]) ty.base).1 (Pf.2.1 ++ ⟨if x.mark=0 then ⟨#[]⟩ else x.name,x.mark,x.type⟩ :: ty.fields.drop (i + 1)) es4 ty.fields.length) ?_ (fun hm0=>?_) (fun hm0=>?_)
              · rintro S5 ⟨e0,e7,e8,e10,e11,e71,e72,e73,Bf,hnb5,hnt5,J5⟩
                have r1:=J5.Bo
                have r2:=J5.Ru
                have hg1:(Pf.2.1 ++ (⟨if x.mark=0 then ⟨#[]⟩ else x.name,x.mark,x.type⟩:Fld) :: ty.fields.drop (i + 1))[i]?=some ⟨if x.mark=0 then ⟨#[]⟩ else x.name,x.mark,x.type⟩:=by
                  rw [← hfl];exact get_mid _ _ _
                have hL1:(Pf.2.1 ++ (⟨if x.mark=0 then ⟨#[]⟩ else x.name,x.mark,x.type⟩:Fld) :: ty.fields.drop (i + 1)).length=ty.fields.length:=by
                  rw [List.length_append,hfl,List.length_cons,List.length_drop];omega
                have hs1:∀ y,(Pf.2.1 ++ (⟨if x.mark=0 then ⟨#[]⟩ else x.name,x.mark,x.type⟩:Fld) :: ty.fields.drop (i + 1)).set i y=Pf.2.1 ++ y :: ty.fields.drop (i + 1):=fun y=>by
                  rw [← hfl];exact set_mid _ _ _ _
                have hlen5:xs.length + (es4.length + 1)=g4.ord.length:=by
                  have h1:=congrArg List.length jt
                  rw [List.length_map,List.length_append] at h1
                  have h2:=hTk.len
                  have h3:=hok2.len
                  rw [List.length_append,List.length_singleton] at h3
                  rw [jo]
                  omega
                have hf5:l.length - g4.ord.length < f:=by omega
                have ho5:OrdOK l.length g4.ord:=by rw [jo];exact hTk.ok
                have hpre2:∀ S3:S,S3.B=S5.B→S3.R=S5.R→S3.nt=S5.nt→S3.nb=S5.nb→TkPre l f S3 g4 b t4 _ x.type:=fun S3 h1 h2 h3 h4=>J5.pre h1 h2 h3 h4 hlen5 ho5 hxr.2 hf5
                generalize hfs1:Pf.2.1 ++ (⟨if x.mark=0 then ⟨#[]⟩ else x.name,x.mark,x.type⟩:Fld) :: ty.fields.drop (i + 1)=fs1 at *
                simp [-getElem?_pos,gcz,gcs,cutL,pl18,tx18,pureOp,e0,e8,e10,e11,r1,r2,Bf,hL1,hi,hg1]
                repeat' (with_reducible apply And.intro)
                all_goals
                  refine ⟨⟨by simp,by simp,b,_,_,x.type,by simp,hpre2 _ rfl rfl rfl rfl⟩,?_⟩
                  intro s6 g6 r hpost
                  obtain ⟨rfl,ho6,t6,es6,H6⟩:=hpost b _ _ x.type (by simp) (hpre2 _ rfl rfl rfl rfl)
                  have J6:=J5.call H6 rfl rfl rfl rfl
                  rw [jo] at ho6
                  rw [jo] at H6 ⊢
                  have v1:=J6.Bo
                  have v2:=J6.Ru
                  simp [-getElem?_pos,gcz,gcs,e0,e7,e8,e10,e71,e72,e73,v1,v2,hL1,hi,hg1,hw]
                  refine ihI _ _ ⟨by simp [e0],by simp [e7],by simp [e8],by simp [e71],by simp [e72],by simp,?_,?_,t6,es4 ++ es6,?_,?_⟩
                  · rw [hsn];exact ho6
                  · have h6:S5.nt≤s6.nt:=H6.nt
                    show s.nt≤s6.nt
                    omega
                  · rw [hsn,List.map_append,jt,H6.tys,List.append_assoc]
                  · rw [hsn]
                    simp only [List.append_assoc,List.cons_append,List.nil_append]
                    rw [← hs1]
                    have J7:=J6.fld (fs1.set i ⟨if x.mark=0 then ⟨#[]⟩ else x.name,x.mark,(tk l f Pf.1 x.type).1⟩)
                    simp only [List.map_set,Fld.v] at J7 ⊢
                    exact J7
              · refine { e0:=by simp [j0],e7:=by simp [j7],e8:=by simp [j8],e10:=by simp,e11:=by simp,e71:=by simp [j1],e72:=by simp [j2],e73:=by simp [j3],Bf:=by simp,nb:=by simp,nt:=by simpa using jn,J:=?_ }
                have hset:∀ y,fs.set i y=Pf.2.1 ++ y :: ty.fields.drop (i + 1):=fun y=>by
                  rw [← hfs,hd,← hfl]
                  exact set_mid _ _ _ _
                have JB:=J.box (B':=fun y=>if y=s4.nb then some (.agg [.str x.name,.int .i64 x.mark,.int .i64 x.type]) else (if y=s4.nb then some (.agg [.str ⟨#[]⟩,.int .i64 0,.int .i64 0]) else s4.B y)) (nb':=s4.nb + 1)
                  (fun y hy => by have : ¬ y = s4.nb := by omega
                                  simp [this]) (by omega)
                rw [if_pos hm0,← hset]
                have JF:=JB.fld (fs.set i ⟨⟨#[]⟩,x.mark,x.type⟩)
                simp only [List.map_set,Fld.v] at JF ⊢
                exact JF
              · refine { e0:=by simp [j0],e7:=by simp [j7],e8:=by simp [j8],e10:=by simp,e11:=by simp,e71:=by simp [j1],e72:=by simp [j2],e73:=by simp [j3],Bf:=by simp,nb:=by simp,nt:=by simpa using jn,J:=?_ }
                have hset:∀ y,fs.set i y=Pf.2.1 ++ y :: ty.fields.drop (i + 1):=fun y=>by
                  rw [← hfs,hd,← hfl]
                  exact set_mid _ _ _ _
                have JB:=J.box (B':=fun y=>if y=s4.nb then some (.agg [.str x.name,.int .i64 x.mark,.int .i64 x.type]) else (if y=s4.nb then some (.agg [.str ⟨#[]⟩,.int .i64 0,.int .i64 0]) else s4.B y)) (nb':=s4.nb + 1)
                  (fun y hy => by have : ¬ y = s4.nb := by omega
                                  simp [this]) (by omega)
                rw [if_neg hm0]
                have e:Pf.2.1 ++ (⟨x.name,x.mark,x.type⟩:Fld) :: ty.fields.drop (i + 1)=fs:=by rw [← hfs,hd]
                rw [e]
                exact JB
            · rintro I s4 g4 ⟨j0,j7,j8,j1,j2,j3,jo,jn,t4,es4,jt,J⟩
              simp [j1,j2,j3,j7]
              refine ⟨J.mb,postT_mk hp ?_ ?_ ?_⟩
              · simp [tk,h0,hmem,hty,hlen]
              · simp [tk,h0,hmem,hty,jo]
              · have:=J.post (s':=((s4.put (some 74) (.bool false)).put (some 96) (.int .i64 (xs.length:Nat))).put (some 4) (.int .i64 (xs.length:Nat))) rfl rfl rfl rfl jn
                rw [jt] at this
                simp only [List.take_length,List.drop_length,List.append_nil] at this
                simp only [tk,h0,hmem,hty,if_false]
                exact ⟨t4,_,this⟩
          clear hK
          refine ⟨s.nb,_,s.nt + 1,3,_,by simp,by simp;rfl,rfl,by simp;rfl,fun h=>?_⟩
          have a1:¬ b=s.nb:=by omega
          have a2:¬ t=s.nt:=by omega
          have a3:¬ t=s.nt + 1:=by omega
          have a4:¬ t=s.nt + 1 + 1:=by omega
          have k1:xs.length≤24:=by have:=hp.ord.len;omega
          have k2:room ⟨6,true,80,.agg [.int .i64 0,.int .i64 0,.int .i64 0,.inl 3 [],.str ⟨#[]⟩,.str ⟨#[]⟩]⟩ (g.ord.length + 1):=by simp [room];omega
          simp [-getElem?_pos,List.getElem?_cons_zero,pureOp,hB,hR,a1,a2,a3,a4,pl10,tt10,hlen,k2]
          have b1:¬ s.nb=b:=fun e=>a1 e.symm
          have a5:¬ s.nt + 1=t:=by omega
          repeat' apply And.intro
          all_goals first
            | exact b1
            | (refine key h _ (by simp) (by simp [hlen]) (by simp) {
                Bo:=by simp,fB:=by simp [a1,b1],Ru:=by simp [a5],fR:=by simp,hu:=by simp,hd:=fun x hx=>by simp [hx],mb:=rfl,
                ent:=fun e he=>absurd he (by simp),nd:=List.nodup_nil,oB:=fun x hx hlt=>?_,oR:=fun x hlt hx=>?_,u0:=by omega,u1:=by simp,t0:=by omega,t1:=by simp,ut:=by omega,b0:=by omega,b1:=by simp,bb:=hbt }
               · have c1:¬ x=s.nb:=by omega
                 simp [c1,hx]
               · have c1:¬ x=s.nt:=by omega
                 have c2:¬ x=s.nt + 1:=by omega
                 have c3:¬ x=s.nt + 1 + 1:=by omega
                 have c4:¬ x=s.nt + 1 + 1 + 1:=by omega
                 simp [c1,c2,c3,c4,hx])
    · rintro e W' ⟨v,M',s',g',r,rfl,h1,h2,h3,h4,h5⟩
      refine ⟨v,M',s',g',r,rfl,h1,h2.1,h4,?_,h3,h5⟩
      rw [← h4]
      exact h2.2
end Go.TM.Tryz
end
section
namespace Go.TM
open Go
def InvO (M0:Mem) (W0:World):Option GT→Mem→World→Prop
  | none,M,W=>Evo M0 W0 M W
  | some g,M,W=>InvF M0 W0 g M W
theorem InvO.evo {M0:Mem} {W0:World} (g:Option GT) (M:Mem) (W:World) (M':Mem) (W':World) (h:InvO M0 W0 g M W) (he:Evo M W M' W'):InvO M0 W0 g M' W':=by
  cases g with
  | none=>exact Evo.trans h he
  | some g=>exact InvF.evo g M W M' W' h he
def someK {Γ:Type} (K:S→Option Γ→Prop):S→Γ→Prop:=fun s g=>K s (some g)
@[simp] theorem someK_app {Γ:Type} (K:S→Option Γ→Prop) (s:S) (g:Γ):someK K s g=K s (some g):=keep rfl
def liftR (r:Rule GT):Rule (Option GT):=fun s g K=>match g with
  | some g=>r s g (someK K)
  | none=>False
@[simp] theorem liftR_some (r:Rule GT) (s:S) (g:GT) (K:S→Option GT→Prop):liftR r s (some g) K=r s g (someK K):=keep rfl
theorem liftR_ok {P:Program} {n:Nat} {o:Oper} {r:Rule GT} {M0:Mem} {W0:World} (h:RuleOK (InvF M0 W0) P n o r):RuleOK (InvO M0 W0) P n o (liftR r):=by
  intro s g a W M K Q hs hi hr
  cases g with
  | none=>exact hr.elim
  | some g =>
    refine Oper.wp_mono ?_ (h s g a W M (someK K) Q hs hi hr)
    rintro a' w' ⟨M',s',g',h1,h2,h3⟩
    exact ⟨M',s',some g',h1,h2,h3⟩
def rMake (d:Option Tmp):Rule (Option GT):=fun s g K=>g=none∧∀ mb,K (s.put d (.raw (.mp (some mb)))) (some ⟨mb,[],[]⟩)
theorem rMake_ok {P:Program} {n:Nat} {M0:Mem} {W0:World} {o:Oper} {mt:TypeId} (ho:o.op=.makeMap mt none) (hok:okO n o=true):RuleOK (InvO M0 W0) P n o (rMake o.dst):=by
  rintro s g a W M K Q h hi ⟨rfl,hK⟩
  simp only [okO,Bool.and_eq_true] at hok
  have hrun:(execOp a.eval o).run P W=.ok (.value (.map (some W.heap.size))) (W.alloc (.map #[] 0)):=by
    simp only [execOp,ho]
    rfl
  have hcl:Cls W (W.alloc (.map #[] 0)):=⟨rfl,rfl,rfl,by simp,fun y hy=>heap_alloc_old W _ hy⟩
  have hev:Evo M0 W0 M W:=hi
  unfold Oper.wp
  rw [hrun]
  refine ⟨M,_,some ⟨W.heap.size,[],[]⟩,(h.cls hcl).putO hok.2 (x:=.raw (.mp (some W.heap.size))) rfl,⟨⟨⟨#[],0,(MapKept.heap_alloc W _).1,rfl⟩,?_,fun hf=>?_,fun x hx=>absurd hx (by simp)⟩,hev.size,hev.trans (hcl.evo M)⟩,hK _⟩
  · cases e:M.ω W.heap.size with
    | none=>rfl
    | some l =>
      have:=h.mem.lt _ _ e
      omega
  · have hf':M.F W.heap.size:=hf
    have:=(h.mem.frz _ hf').2
    omega
def newT (bt:List V) (s:S) (l:List Ty) (mb:Nat):S:=(s.newR 6 bt).newB (.agg [.lst (l.map Ty.v),.own s.nt,.raw (.mp (some mb))])
def NewC (P:Program) (f:FuncId) (bt:List V) (ord:List Int):Prop :=
  ∀ M W s l vs,MemOK M W s→All2 (SR1 M W) [.lst (l.map Ty.v)] vs →
    Calls P f vs.toArray W fun e W'=>∃ v M' mb,e=.returned v∧MemOK M' W' (newT bt s l mb)∧InvF M W ⟨mb,ord,[]⟩ M' W'∧SR2 M' W' (.ptr s.nb 0) v
def rNew (bt:List V) (ord:List Int) (l:List Ty) (x:Operand) (d:Option Tmp):Rule (Option GT):=fun s g K =>
  g=none∧needs true s [x]∧opnd s x=.lst (l.map Ty.v)∧∀ mb,K ((newT bt s l mb).put d (.ptr s.nb 0)) (some ⟨mb,ord,[]⟩)
theorem rNew_ok {P:Program} {n:Nat} {M0:Mem} {W0:World} {o:Oper} {c:Call} {f:FuncId} {bt:List V} {ord:List Int} {l:List Ty} {x:Operand} {d:Option Tmp} (hC:NewC P f bt ord)
    (has:∃ fn,P.funcs[f]?=some fn∧(fn.name == "runtime.NumGoroutine")=false∧fn.body.isNone=false) (ho:o.op=.call c) (hg:c.callee=.value (.func f)) (hus:c.args.toList=[x]) (hd:o.dst=d) (hok:okO n o=true) :
    RuleQ (InvO M0 W0) P n o (rNew bt ord l x d):=by
  subst hd
  rintro s g a W M K Q h hi ⟨rfl,h1,h2,hK⟩
  have hev:Evo M0 W0 M W:=hi
  simp only [okO,Bool.and_eq_true] at hok
  have hx:okOp n x=true:=by
    refine List.all_eq_true.1 hok.1 x ?_
    rw [ho]
    have:x ∈ c.args.toList:=by rw [hus];simp
    simp only [Op.operands,Call.operands,hg]
    simp
    first | exact .inr (by simpa using this) | exact (by simpa using this)
  have ha:=opnd_sound h hx h1
  rw [h2] at ha
  have ha':SR2 M.bare W (.lst (l.map Ty.v)) (a.eval x):=(bare_keep M W).two ha
  have hrun:=run_callv (P:=P) (a:=a) (cs:=[]) ho hg rfl has W
  rw [hus] at hrun
  unfold Oper.wp
  rw [hrun]
  refine Calls.mono (hC M.bare W s.bare l [a.eval x] (bare_ok h.mem) ⟨ha',trivial⟩) ?_
  rintro e W' ⟨v,M',mb,rfl,hm,⟨hat,hmb,he⟩,hr⟩
  obtain ⟨j1,j2,j3,j4⟩:=join_ok (s2:=newT bt s l mb) h.mem hm he rfl rfl (fun t r hr=>by
      simp only [newT,newB_R,newR_R] at hr
      split at hr
      · rename_i e
        subst e
        right
        refine ⟨Nat.le_refl _,?_⟩
        rw [← hr]
        simp [newT,S.newB,S.newR,S.setB,S.setR,S.bare]
      · left
        refine ⟨?_,hr⟩
        have:=(h.mem.row t r hr).1
        rw [h.mem.nt] at this
        exact this) (fun b c hb=>by
      simp only [newT,newB_B,newR_nb,newR_B] at hb
      by_cases e:b=s.nb
      · rw [if_pos e] at hb
        subst e
        right
        cases hb
        exact ⟨by simp [newT,S.newB,S.newR,S.setB,S.setR,S.bare],rfl⟩
      · rw [if_neg e] at hb
        left
        refine ⟨?_,hb⟩
        have:=(h.mem.box b c hb).1
        rw [h.mem.nb] at this
        exact this)
  refine ⟨j4,M.join W M',_,some ⟨mb,ord,[]⟩,?_,⟨?_,Nat.le_trans hev.size hmb,hev.trans j3⟩,hK mb⟩
  · have hst:St n (M.join W M') W' (newT bt s l mb) a:=⟨h.size,h.defers,fun z hz=>j2.all (h.slot z hz),j1⟩
    refine hst.putO hok.2 (x:=.ptr s.nb 0) ?_
    obtain ⟨k1,k2⟩:=hr
    exact ⟨k1,k2⟩
  · refine ⟨hat.es,?_,fun hf=>hat.fz hf,fun y hy=>absurd hy (by simp)⟩
    have hmb':W.heap.size≤mb:=hmb
    simp only [Mem.join]
    rw [if_neg (by omega)]
    exact hat.om
theorem MemOK.congr {M:Mem} {W:World} {s s2:S} (h:MemOK M W s) (hB:s.B=s2.B) (hR:s.R=s2.R) (hnt:s.nt=s2.nt) (hnb:s.nb=s2.nb):MemOK M W s2:=by
  cases s
  cases s2
  simp only at hB hR hnt hnb
  subst hB hR hnt hnb
  exact h.slots _
@[simp] theorem opnd_nilp (s:S):opnd s (.const (.pointer none))=.nilp:=keep rfl
end Go.TM
end
section
set_option maxHeartbeats 8000000
set_option maxRecDepth 20000
namespace Go.TM.Tryz
open Go Go.TM Go.Proofs
noncomputable def EN:Env:=mkE2 Tryz.prog [(146,c146)] [] [] []
theorem EN_ok:EnvOK Tryz.prog EN:=mkE2_ok zmix [] [] c146_ok trivial
@[simp] theorem EN_ti:EN.ti=tiOf Tryz.prog:=rfl
@[simp] theorem EN_el:EN.el=elOf Tryz.prog:=rfl
@[simp] theorem EN_fld:EN.fld=Go.TM.fldOf Tryz.prog:=rfl
@[simp] theorem EN_str:EN.str=strOf Tryz.prog:=rfl
@[simp] theorem EN_bol:EN.bol=bolOf Tryz.prog:=rfl
@[simp] theorem EN_int:EN.int=intOf Tryz.prog:=rfl
@[simp] theorem EN_bld:EN.bld=bldOf Tryz.prog:=rfl
@[simp] theorem EN_eqs:EN.eqs=eqsOf Tryz.prog:=rfl
@[simp] theorem EN_call:EN.call=callL [(146,c146)]:=rfl
@[simp] theorem EN_rw:EN.rw=rwL []:=rfl
@[simp] theorem EN_gen:EN.gen=genL []:=rfl
@[simp] theorem EN_plan:EN.plan=planL []:=rfl
@[simp] theorem EN_pln:EN.pln=plnL []:=rfl
def cN (i:Nat):Option (Rule (Option GT)) :=
  if i=2 then some (rMake (some 5)) else
  if i=3 then some (liftR (rUpd (.tmp 5) (.const (.int .i64 0)) (.const (.int .i64 0)) none)) else
  if i=4 then some (liftR (rUpd (.tmp 5) (.const (.int .i64 1)) (.const (.int .i64 1)) none)) else
  if i=5 then some (liftR (rUpd (.tmp 5) (.const (.int .i64 2)) (.const (.int .i64 2)) none)) else none
noncomputable def CN (id:Nat):Option (Array Oper→Rule (Option GT)):=if id=1 then some (seqR EN cN) else none
theorem new_okX (M:Mem) (W:World) {c:Code} (hc:Tryz.f131.body=some c):okCX (InvO M W) Tryz.prog Tryz.f131.ntmps CN c:=by
  have e:c=_:=(Option.some.inj hc).symm
  subst e
  simp [okCX,CN]
  refine opsX_ok EN_ok InvO.evo (by kernel_rfl) ?_
  intro i o r ho hr
  simp only [cN] at hr
  split at hr
  · rename_i e
    subst e
    obtain rfl:=Option.some.inj hr
    obtain rfl:=Option.some.inj ho
    exact ⟨rfl,rMake_ok rfl (by kernel_rfl)⟩
  · split at hr
    · rename_i e
      subst e
      obtain rfl:=Option.some.inj hr
      obtain rfl:=Option.some.inj ho
      exact ⟨rfl,liftR_ok (rUpd_ok (InvF.k M W) (.inr rfl) (by kernel_rfl) und174 und3)⟩
    · split at hr
      · rename_i e
        subst e
        obtain rfl:=Option.some.inj hr
        obtain rfl:=Option.some.inj ho
        exact ⟨rfl,liftR_ok (rUpd_ok (InvF.k M W) (.inr rfl) (by kernel_rfl) und174 und3)⟩
      · split at hr
        · rename_i e
          subst e
          obtain rfl:=Option.some.inj hr
          obtain rfl:=Option.some.inj ho
          exact ⟨rfl,liftR_ok (rUpd_ok (InvF.k M W) (.inr rfl) (by kernel_rfl) und174 und3)⟩
        · cases hr
attribute [simp] CN cN
theorem new_ok:NewC Tryz.prog 131 (baseTys.map Ty.o) [0,1,2]:=by
  rintro M W s l vs hm ha
  refine Calls.mono (open_sound (C:=CN) (Inv:=InvO M W) (g:=none) EN_ok InvO.evo Tryz.func131 rfl (by kernel_rfl) (new_okX M W rfl) hm ha (Evo.refl M W)
    (post:=fun s' g' r=>r=.ptr s.nb 0∧∃ mb,g'=some ⟨mb,[0,1,2],[]⟩∧s'.B=(newT (baseTys.map Ty.o) s l mb).B∧s'.R=(newT (baseTys.map Ty.o) s l mb).R∧s'.nt=s.nt + 1∧s'.nb=s.nb + 1) ?_) ?_
  · refine codeX_run ?_
    have hr:Tryz.f131.results.toList=[.tmp 2]:=rfl
    simp only [EndsC,hr,resOf]
    simp [c146_eq,rMake,rUpd]
    intro mb
    exact ⟨rfl,rfl⟩
  · rintro e W' ⟨v,M',s',g',r,rfl,h1,h2,h3,rfl,mb,rfl,h4,h5,h6,h7⟩
    exact ⟨v,M',mb,rfl,h1.congr h4 h5 h6 h7,h2,h3⟩
end Go.TM.Tryz
end
section
namespace Go.TM
open Go
def parsW (g:List Int→Int→Int × List Int × List Ty):List Int→List Par→List Int × List Par × List Ty
  | ord,[]=>(ord,[],[])
  | ord,x :: xs=>((parsW g (g ord x.type).2.1 xs).1,⟨x.name,x.byVar,(g ord x.type).1⟩ :: (parsW g (g ord x.type).2.1 xs).2.1,(g ord x.type).2.2 ++ (parsW g (g ord x.type).2.1 xs).2.2)
theorem parsW_snoc (g:List Int→Int→Int × List Int × List Ty) (x:Par):∀ (xs:List Par) (ord:List Int),parsW g ord (xs ++ [x]) =
    ((g (parsW g ord xs).1 x.type).2.1,(parsW g ord xs).2.1 ++ [⟨x.name,x.byVar,(g (parsW g ord xs).1 x.type).1⟩],(parsW g ord xs).2.2 ++ (g (parsW g ord xs).1 x.type).2.2)
  | [],ord=>by simp [parsW]
  | y :: xs,ord=>by simp [parsW,parsW_snoc g x xs]
@[simp] theorem parsW_len (g:List Int→Int→Int × List Int × List Ty):∀ (xs:List Par) (ord:List Int),(parsW g ord xs).2.1.length=xs.length
  | [],ord=>rfl
  | y :: xs,ord=>by simp [parsW,parsW_len g xs]
def objW (g:List Int→Int→Int × List Int × List Ty) (ord:List Int) (o:Obj):List Int × List Obj × List Ty :=
  if o.mark=0 then (ord,[],[]) else
    ((parsW g (g ord o.type).2.1 o.params).1,[⟨o.name,o.kind,o.mark,(g ord o.type).1,o.value,(parsW g (g ord o.type).2.1 o.params).2.1⟩],(g ord o.type).2.2 ++ (parsW g (g ord o.type).2.1 o.params).2.2)
def objsW (g:List Int→Int→Int × List Int × List Ty):List Int→List Obj→List Int × List Obj × List Ty
  | ord,[]=>(ord,[],[])
  | ord,o :: os=>((objsW g (objW g ord o).1 os).1,(objW g ord o).2.1 ++ (objsW g (objW g ord o).1 os).2.1,(objW g ord o).2.2 ++ (objsW g (objW g ord o).1 os).2.2)
theorem objsW_snoc (g:List Int→Int→Int × List Int × List Ty) (x:Obj):∀ (xs:List Obj) (ord:List Int),objsW g ord (xs ++ [x]) =
    ((objW g (objsW g ord xs).1 x).1,(objsW g ord xs).2.1 ++ (objW g (objsW g ord xs).1 x).2.1,(objsW g ord xs).2.2 ++ (objW g (objsW g ord xs).1 x).2.2)
  | [],ord=>by simp [objsW]
  | y :: xs,ord=>by simp [objsW,objsW_snoc g x xs]
section
variable {L:Nat} {g:List Int→Int→Int × List Int × List Ty}
theorem parsW_ok {m:Nat} (hg:∀ ord (n:Int),OrdOK L ord→L - ord.length < m→n < L→TkOK L ord (g ord n).2.1 (g ord n).2.2) :
    ∀ (xs:List Par) (ord:List Int),(∀ x ∈ xs,x.type < L)→OrdOK L ord→L - ord.length < m→TkOK L ord (parsW g ord xs).1 (parsW g ord xs).2.2
  | [],ord,_,h,_=>.refl h
  | x :: xs,ord,hx,h,hm=>by
    have h1:=hg ord x.type h hm (hx x (by simp))
    have h2:=h1.le
    exact h1.trans (parsW_ok hg xs _ (fun y hy=>hx y (by simp [hy])) h1.ok (by omega))
theorem objW_ok {m:Nat} (hg:∀ ord (n:Int),OrdOK L ord→L - ord.length < m→n < L→TkOK L ord (g ord n).2.1 (g ord n).2.2) {o:Obj} {ord:List Int} (ht:o.type < L) (hp:∀ x ∈ o.params,x.type < L) (h:OrdOK L ord) (hm:L - ord.length < m) :
    TkOK L ord (objW g ord o).1 (objW g ord o).2.2:=by
  unfold objW
  split
  · exact .refl h
  · have h1:=hg ord o.type h hm ht
    have h2:=h1.le
    exact h1.trans (parsW_ok hg o.params _ hp h1.ok (by omega))
theorem objsW_ok {m:Nat} (hg:∀ ord (n:Int),OrdOK L ord→L - ord.length < m→n < L→TkOK L ord (g ord n).2.1 (g ord n).2.2) :
    ∀ (os:List Obj) (ord:List Int),(∀ o ∈ os,o.type < L∧∀ x ∈ o.params,x.type < L)→OrdOK L ord→L - ord.length < m→TkOK L ord (objsW g ord os).1 (objsW g ord os).2.2
  | [],ord,_,h,_=>.refl h
  | o :: os,ord,ho,h,hm=>by
    have h1:=objW_ok hg (ho o (by simp)).1 (ho o (by simp)).2 h hm
    have h2:=h1.le
    exact h1.trans (objsW_ok hg os _ (fun y hy=>ho y (by simp [hy])) h1.ok (by omega))
end
structure ExM (l:List Ty) (pre:List V) (nm:ByteArray) (B:Nat→Option V) (R:Nat→Option Rw) (nt nb:Nat) (g:GT) (bt bo t i1 y1 ob u1:Nat) (es:List Ent) (os:List Obj):Prop where
  Bt:B bt=some (.agg [.lst (l.map Ty.v),.own t,.raw (.mp (some g.mb))])
  Bo:B bo=some (.agg [.str nm,.own i1,.own y1,.own ob,.own u1])
  Rt:R t=some ⟨6,pre ++ es.map Ent.v,true⟩
  Ri:R i1=some ⟨1,[],true⟩
  Ry:R y1=some ⟨6,[],true⟩
  Ro:R ob=some ⟨6,os.map Obj.o,true⟩
  Ru:R u1=some ⟨2,[],true⟩
  ent:∀ e ∈ es,R e.u=some ⟨3,e.ty.fields.map Fld.v,true⟩∧(e.u,e.h) ∈ g.hd∧e.u < nt∧e.u ≠ t∧e.u ≠ i1∧e.u ≠ ob∧e.u ≠ u1
  nd:(es.map Ent.u).Nodup
  lt:t < nt∧i1 < nt∧y1 < nt∧ob < nt∧u1 < nt
  ne:t ≠ i1∧t ≠ y1∧t ≠ ob∧t ≠ u1∧i1 ≠ ob∧i1 ≠ u1∧ob ≠ u1∧y1 ≠ ob
  bb:bt < nb∧bo < nb∧bt ≠ bo
section
variable {l:List Ty} {pre:List V} {nm:ByteArray} {B:Nat→Option V} {R:Nat→Option Rw} {nt nb:Nat} {g:GT} {bt bo t i1 y1 ob u1:Nat} {es:List Ent} {os:List Obj}
theorem ExM.tpre (J:ExM l pre nm B R nt nb g bt bo t i1 y1 ob u1 es os) {S3:S} (hB:S3.B=B) (hR:S3.R=R) (hnt:S3.nt=nt) (hnb:S3.nb=nb) {f:Nat} {n:Int} (hl:pre.length + es.length=g.ord.length) (ho:OrdOK l.length g.ord) (hn:n < l.length) (hf:l.length - g.ord.length < f) :
    TkPre l f S3 g bt t (pre ++ es.map Ent.v) n:=by
  subst hB hR hnt hnb
  exact { B:=J.Bt,R:=J.Rt,len:=by simp;omega,ord:=ho,n:=hn,f:=hf,b:=J.bb.1,t:=J.lt.1 }
theorem ExM.call (J:ExM l pre nm B R nt nb g bt bo t i1 y1 ob u1 es os) {S3:S} {ts:List Ty} {s3:S} {g3:GT} {t3:Nat} {es3:List Ent}
    (H:TkPost l S3 g bt t (pre ++ es.map Ent.v) ts s3 g3 t3 es3) (hB:S3.B=B) (hR:S3.R=R) (hnt:S3.nt=nt) (hnb:S3.nb=nb):ExM l pre nm s3.B s3.R s3.nt s3.nb g3 bt bo t3 i1 y1 ob u1 (es ++ es3) os:=by
  subst hB hR hnt hnb
  obtain ⟨l1,l2,l3,l4,l5⟩:=J.lt
  obtain ⟨n1,n2,n3,n4,n5,n6,n7,n8⟩:=J.ne
  obtain ⟨b1,b2,b3⟩:=J.bb
  have f8:=H.nt
  have f9:=H.nb
  have f10:=H.lt
  have h3:t3=t ∨ S3.nt≤t3:=H.t0
  exact {
    Bt:=by rw [H.B,H.mb]
    Bo:=by rw [H.oB bo (fun e=>b3 e.symm) b2];exact J.Bo
    Rt:=by rw [H.R];simp
    Ri:=by rw [H.oR i1 l2 (fun e=>n1 e.symm)];exact J.Ri
    Ry:=by rw [H.oR y1 l3 (fun e=>n2 e.symm)];exact J.Ry
    Ro:=by rw [H.oR ob l4 (fun e=>n3 e.symm)];exact J.Ro
    Ru:=by rw [H.oR u1 l5 (fun e=>n4 e.symm)];exact J.Ru
    ent:=fun e he=>by
      rcases List.mem_append.1 he with he | he
      · obtain ⟨e1,e2,e3,e4,e5⟩:=J.ent e he
        exact ⟨by rw [H.oR e.u e3 e4];exact e1,H.hd _ e2,by omega,by omega,e5⟩
      · obtain ⟨e1,e2,e3,e4,e5⟩:=H.ent e he
        exact ⟨e1,e2,e4,e5,by omega,by omega,by omega⟩
    nd:=by
      rw [List.map_append,List.nodup_append]
      refine ⟨J.nd,H.nd,fun a ha c hc e=>?_⟩
      obtain ⟨x,hx,rfl⟩:=List.mem_map.1 ha
      obtain ⟨y,hy,rfl⟩:=List.mem_map.1 hc
      have h1:=(J.ent x hx).2.2.1
      have h2:=(H.ent y hy).2.2.1
      omega
    lt:=by omega
    ne:=by omega
    bb:=by omega }
theorem ExM.mono (J:ExM l pre nm B R nt nb g bt bo t i1 y1 ob u1 es os) {B':Nat→Option V} {R':Nat→Option Rw} {nt' nb':Nat} (hB:∀ x,x < nb→B' x=B x) (hR:∀ x,x < nt→R' x=R x) (hnt:nt≤nt') (hnb:nb≤nb') :
    ExM l pre nm B' R' nt' nb' g bt bo t i1 y1 ob u1 es os:=by
  obtain ⟨l1,l2,l3,l4,l5⟩:=J.lt
  obtain ⟨b1,b2,b3⟩:=J.bb
  exact { J with
    Bt:=by rw [hB bt b1];exact J.Bt
    Bo:=by rw [hB bo b2];exact J.Bo
    Rt:=by rw [hR t l1];exact J.Rt
    Ri:=by rw [hR i1 l2];exact J.Ri
    Ry:=by rw [hR y1 l3];exact J.Ry
    Ro:=by rw [hR ob l4];exact J.Ro
    Ru:=by rw [hR u1 l5];exact J.Ru
    ent:=fun e he=>by
      obtain ⟨e1,e2,e3,e4⟩:=J.ent e he
      exact ⟨by rw [hR e.u e3];exact e1,e2,by omega,e4⟩
    lt:=by omega
    bb:=by omega }
theorem ExM.add (J:ExM l pre nm B R nt nb g bt bo t i1 y1 ob u1 es os) {B':Nat→Option V} {R':Nat→Option Rw} {nt':Nat} {ob':Nat} {os':List Obj} (hB:∀ x,x < nb→x ≠ bo→B' x=B x) (hBo:B' bo=some (.agg [.str nm,.own i1,.own y1,.own ob',.own u1]))
    (hR:∀ x,x < nt→x ≠ ob→R' x=R x) (hRo:R' ob'=some ⟨6,os'.map Obj.o,true⟩) (hob:nt≤ob') (hnt:ob' < nt'):ExM l pre nm B' R' nt' nb g bt bo t i1 y1 ob' u1 es os':=by
  obtain ⟨l1,l2,l3,l4,l5⟩:=J.lt
  obtain ⟨n1,n2,n3,n4,n5,n6,n7,n8⟩:=J.ne
  obtain ⟨b1,b2,b3⟩:=J.bb
  exact { J with
    Bt:=by rw [hB bt b1 b3];exact J.Bt
    Bo:=hBo
    Rt:=by rw [hR t l1 n3];exact J.Rt
    Ri:=by rw [hR i1 l2 n5];exact J.Ri
    Ry:=by rw [hR y1 l3 n8];exact J.Ry
    Ro:=hRo
    Ru:=by rw [hR u1 l5 (fun e=>n7 e.symm)];exact J.Ru
    ent:=fun e he=>by
      obtain ⟨e1,e2,e3,e4,e5,e6,e7⟩:=J.ent e he
      exact ⟨by rw [hR e.u e3 e6];exact e1,e2,by omega,e4,e5,by omega,e7⟩
    lt:=by omega
    ne:=by omega
    bb:=by omega }
structure Off (pu nt t i1 y1 ob u1:Nat) (es:List Ent):Prop where
  lt:pu < nt
  ne:pu ≠ t∧pu ≠ i1∧pu ≠ y1∧pu ≠ ob∧pu ≠ u1
  es:∀ e ∈ es,e.u ≠ pu
theorem ExM.to (J:ExM l pre nm B R nt nb g bt bo t i1 y1 ob u1 es os) {B':Nat→Option V} {R':Nat→Option Rw} {nt' nb':Nat} (p q:Nat) (hp:p ≠ bt∧p ≠ bo) (hq:nt≤q ∨ Off q nt t i1 y1 ob u1 es) (hB:∀ x,x < nb→x ≠ p→B' x=B x) (hR:∀ x,x < nt→x ≠ q→R' x=R x) (hnt:nt≤nt') (hnb:nb≤nb') :
    ExM l pre nm B' R' nt' nb' g bt bo t i1 y1 ob u1 es os:=by
  obtain ⟨l1,l2,l3,l4,l5⟩:=J.lt
  obtain ⟨b1,b2,b3⟩:=J.bb
  have hd:q ≠ t∧q ≠ i1∧q ≠ y1∧q ≠ ob∧q ≠ u1:=by
    rcases hq with h | h
    · omega
    · exact h.ne
  have he:∀ e ∈ es,e.u ≠ q:=fun e he=>by
    rcases hq with h | h
    · have:=(J.ent e he).2.2.1
      omega
    · exact h.es e he
  obtain ⟨d1,d2,d3,d4,d5⟩:=hd
  exact { J with
    Bt:=by rw [hB bt b1 (fun e=>hp.1 e.symm)];exact J.Bt
    Bo:=by rw [hB bo b2 (fun e=>hp.2 e.symm)];exact J.Bo
    Rt:=by rw [hR t l1 (fun e=>d1 e.symm)];exact J.Rt
    Ri:=by rw [hR i1 l2 (fun e=>d2 e.symm)];exact J.Ri
    Ry:=by rw [hR y1 l3 (fun e=>d3 e.symm)];exact J.Ry
    Ro:=by rw [hR ob l4 (fun e=>d4 e.symm)];exact J.Ro
    Ru:=by rw [hR u1 l5 (fun e=>d5 e.symm)];exact J.Ru
    ent:=fun e hm=>by
      obtain ⟨e1,e2,e3,e4⟩:=J.ent e hm
      exact ⟨by rw [hR e.u e3 (he e hm)];exact e1,e2,by omega,e4⟩
    lt:=by omega
    bb:=by omega }
theorem Off.call {pu:Nat} (h:Off pu nt t i1 y1 ob u1 es) {S3:S} {g:GT} {b:Nat} {xs:List V} {ts:List Ty} {s3:S} {g3:GT} {t3:Nat} {es3:List Ent} (H:TkPost l S3 g b t xs ts s3 g3 t3 es3) (hnt:S3.nt=nt):Off pu s3.nt t3 i1 y1 ob u1 (es ++ es3):=by
  subst hnt
  have h1:=h.lt
  have h2:=H.nt
  have h3:=H.t0
  obtain ⟨n1,n2⟩:=h.ne
  refine ⟨by omega,⟨by omega,n2⟩,fun e he=>?_⟩
  rcases List.mem_append.1 he with he | he
  · exact h.es e he
  · have:=(H.ent e he).2.2.1
    omega
end
end Go.TM
end
