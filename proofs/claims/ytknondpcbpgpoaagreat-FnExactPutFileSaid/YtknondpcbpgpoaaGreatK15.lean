/- A part of the proof: XC. -/
import Derived.Test.YtknondpcbpgpoaaGreatK14
set_option linter.unusedVariables false
set_option linter.unusedSimpArgs false
section
set_option maxHeartbeats 2000000
namespace Go.TM.Tryz
open Go Go.TM Go.Proofs
structure TyRef (n:Nat) (x:Ty):Prop where
  base:x.base < n
  owner:x.owner.size≤10
  name:x.name.size≤10
  flds:x.fields.length≤6
  fld:∀ f ∈ x.fields,(0≤f.type∧f.type < n)∧f.name.size≤10
structure TRef (l:List Ty):Prop where
  len:l.length≤24
  ty:∀ x ∈ l,TyRef l.length x
theorem nameB_size {s:ByteArray} (h:nameB s=true):s.size≤10:=by
  simp only [nameB,Bool.and_eq_true,inB_iff] at h
  omega
theorem nil_size {s:ByteArray} (h:s=⟨#[]⟩):s.size≤10:=by
  subst h
  decide
theorem fldsB_refs {n:Nat} {l:List Fld} (h:fldsB n l=true):l.length≤6∧∀ f ∈ l,(0≤f.type∧f.type < n)∧f.name.size≤10:=by
  refine ⟨(fldsB_fields h).1,fun f hf=>⟨(fldsB_fields h).2 f hf,?_⟩⟩
  simp only [fldsB,Bool.and_eq_true,decide_eq_true_eq] at h
  obtain ⟨i,hi,rfl⟩:=List.mem_iff_getElem.1 hf
  have:=allI_iff.1 h.1 i _ (List.getElem?_eq_getElem hi)
  simp only [fldAt,Bool.and_eq_true] at this
  have h2:=this.2
  split at h2
  · rename_i hn
    exact nil_size hn
  · simp only [Bool.and_eq_true] at h2
    exact nameB_size h2.1
theorem namedB_size {x:Ty} (h:namedB x=true):x.owner.size≤10∧x.name.size≤10:=by
  simp only [namedB,Bool.or_eq_true,Bool.and_eq_true,decide_eq_true_eq] at h
  rcases h with h | h
  · exact ⟨nameB_size h.2,nameB_size h.1⟩
  · exact ⟨nil_size h.2,nil_size h.1⟩
theorem kindAt_lt {l:List Ty} {n k:Int} (h:kindAt l n k=true):n < l.length:=by
  simp only [kindAt,Bool.and_eq_true,inB_iff] at h
  omega
theorem typeB_refs {l:List Ty} {x:Ty} (h:typeB l x=true) (hl:0 < l.length):TyRef l.length x:=by
  simp only [typeB,Bool.and_eq_true,Bool.not_eq_true',Bool.and_eq_false_iff,Bool.not_eq_false',decide_eq_true_eq,decide_eq_false_iff_not] at h
  obtain ⟨⟨h0,h1⟩,h2⟩:=h
  obtain ⟨n1,n2⟩:=namedB_size h0
  unfold typeKB at h2
  have nof:¬x.kind=5→x.fields=[]:=fun hk=>by
    rcases h1 with h1 | h1
    · exact absurd h1 hk
    · exact List.length_eq_zero_iff.1 (by omega)
  split at h2
  · rename_i hk
    have hf:=nof (by omega)
    simp only [Bool.and_eq_true,inB_iff] at h2
    exact ⟨by omega,n1,n2,by simp [hf],by simp [hf]⟩
  · split at h2
    · simp only [Bool.and_eq_true,Bool.or_eq_true,decide_eq_true_eq] at h2
      obtain ⟨h3,h4⟩:=fldsB_refs h2.2
      refine ⟨?_,n1,n2,h3,h4⟩
      rcases h2.1.2 with h6 | h6
      · omega
      · exact kindAt_lt h6
    · rename_i hk4 hk5
      have hf:=nof hk5
      simp only [Bool.and_eq_true,Bool.or_eq_true,decide_eq_true_eq] at h2
      refine ⟨?_,n1,n2,by simp [hf],by simp [hf]⟩
      rcases h2.2 with h6 | h6 <;> exact kindAt_lt h6
theorem tyEq_refs {x y:Ty} (h:tyEq x y=true) (hy:y ∈ baseTys):x.base=-1∧x.fields=[]∧x.owner.size≤10∧x.name.size≤10:=by
  obtain ⟨h1,h2⟩:=tyEq_base h hy
  refine ⟨h1,h2,?_⟩
  simp only [tyEq,Bool.and_eq_true,beq_iff_eq,decide_eq_true_eq] at h
  obtain ⟨⟨_,h3⟩,h4⟩:=h
  rw [h3,h4]
  simp only [baseTys,List.mem_cons,List.not_mem_nil,or_false] at hy
  rcases hy with rfl | rfl | rfl <;> decide
theorem typesB_refs {l:List Ty} (h:typesB l=true):TRef l:=by
  simp only [typesB,Bool.and_eq_true,inB_iff] at h
  obtain ⟨⟨h1,h2⟩,h3⟩:=h
  refine ⟨by omega,fun x hx=>?_⟩
  rcases mem_take_drop (n:=3) hx with hx | hx
  · obtain ⟨y,hy,he⟩:=tysEq_get h2 hx
    obtain ⟨h4,h5,h6,h7⟩:=tyEq_refs he hy
    exact ⟨by omega,h6,h7,by simp [h5],by simp [h5]⟩
  · obtain ⟨i,hi,rfl⟩:=List.mem_iff_getElem.1 hx
    have:=allI_iff.1 h3 i _ (List.getElem?_eq_getElem hi)
    simp only [tyAt,Bool.and_eq_true] at this
    exact typeB_refs this.2 (by omega)
structure OjRef (n:Nat) (o:Obj):Prop where
  type:o.type < n
  name:o.name.size≤10
  pars:o.params.length≤4
  par:∀ p ∈ o.params,(0≤p.type∧p.type < n)∧p.name.size≤10
theorem parsB_refs {n:Nat} {l:List Par} (h:parsB n l=true):l.length≤4∧∀ p ∈ l,(0≤p.type∧p.type < n)∧p.name.size≤10:=by
  simp only [parsB,Bool.and_eq_true,decide_eq_true_eq] at h
  refine ⟨h.2,fun f hf=>?_⟩
  obtain ⟨i,hi,rfl⟩:=List.mem_iff_getElem.1 hf
  have:=allI_iff.1 h.1 i _ (List.getElem?_eq_getElem hi)
  simp only [parAt,Bool.and_eq_true,inB_iff] at this
  exact ⟨by omega,nameB_size this.1.1⟩
theorem objIB_eq' (n:Nat) (o:Obj) (h:objB n o=true) (hn:0 < n):OjRef n o:=by
  simp only [objB,Bool.and_eq_true,Bool.not_eq_true',Bool.and_eq_false_iff,Bool.not_eq_false',decide_eq_true_eq,decide_eq_false_iff_not] at h
  obtain ⟨⟨⟨⟨⟨h0,_⟩,_⟩,_⟩,h1⟩,h2⟩:=h
  have hs:=nameB_size h0
  have nop:¬o.kind=4→o.params=[]:=fun hk=>by
    rcases h1 with h1 | h1
    · exact absurd h1 hk
    · exact List.length_eq_zero_iff.1 (by omega)
  unfold objKind at h2
  split at h2
  · rename_i hk
    have hp:=nop (by omega)
    simp only [Bool.and_eq_true,decide_eq_true_eq] at h2
    exact ⟨by omega,hs,by simp [hp],by simp [hp]⟩
  · split at h2
    · rename_i _ hk
      have hp:=nop (by omega)
      rw [inB_iff] at h2
      exact ⟨by omega,hs,by simp [hp],by simp [hp]⟩
    · simp only [Bool.and_eq_true,inB_iff,decide_eq_true_eq] at h2
      obtain ⟨h3,h4⟩:=parsB_refs h2.2
      exact ⟨by omega,hs,h3,h4⟩
structure SRef (s:Scp):Prop where
  ty:TRef s.types
  objs:s.objects.length≤16
  obj:∀ o ∈ s.objects,OjRef s.types.length o
  names:(s.objects.map Obj.name).Nodup
theorem scopeI_refs {s:Scp} (h:scopeI s=true):SRef s:=by
  rw [← good_eq] at h
  simp only [goodS,goodTl,Bool.and_eq_true,decide_eq_true_eq,objAtS_iff] at h
  obtain ⟨⟨⟨_,b1,_,b3⟩,_⟩,⟨⟨⟨_,d2⟩,_⟩,d4⟩,_⟩:=h
  simp only [tableI,Bool.and_eq_true] at d2
  have ht:=typesB_refs d2.1
  have hlen:0 < s.types.length:=by
    have h2:=d2.1
    simp only [typesB,Bool.and_eq_true,inB_iff] at h2
    omega
  refine ⟨ht,d4,fun o ho=>?_,b3⟩
  refine objIB_eq' _ o ?_ hlen
  rw [objB_eq]
  simp [b1 o ho]
noncomputable def fldOf (cur:List Int) (f:Fld):List Int:=[textI f.name,f.mark,cur.getD f.type.toNat 0]
end Go.TM.Tryz
end
