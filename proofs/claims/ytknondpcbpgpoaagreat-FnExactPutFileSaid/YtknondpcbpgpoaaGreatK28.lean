/- A part of the proof: WK, WL, WM, WN, WO, WJ, D7, ZHeld, ZEq, HH0, HH. -/
import Derived.Test.YtknondpcbpgpoaaGreatK27
set_option linter.unusedVariables false
set_option linter.unusedSimpArgs false
section
set_option maxHeartbeats 16000000
set_option maxRecDepth 20000
namespace Go.TM.Tryz
open Go Go.TM Go.Proofs
noncomputable def c75 (b:ByteArray):=ctrG (fun s:SRd=>SOK b s) (fun s=>([.ptr 0 0],[sBox b s])) (fun s=>⟨false,.inl 6 ((baseTys ++ (tysF b s).1).map Ty.o),[],[sBox b (tysF b s).2]⟩)
theorem c75_eq (b:ByteArray) (s:SRd) (h:SOK b s):c75 b [.ptr 0 0] [sBox b s]=some ⟨false,.inl 6 ((baseTys ++ (tysF b s).1).map Ty.o),[],[sBox b (tysF b s).2]⟩:=ctrG_eq (injSB _) s h rfl
theorem c75_ok (b:ByteArray):GOK Tryz.prog (75,[],c75 b):=ctrG_ok fun s h=>f75_ok b s h
noncomputable def c76 (b:ByteArray):=ctrG (fun s:SRd=>SOK b s) (fun s=>([.ptr 0 0],[sBox b s])) (fun s=>⟨false,.inl 6 ((obsF b s).1.map Obj.o),[],[sBox b (obsF b s).2]⟩)
theorem c76_eq (b:ByteArray) (s:SRd) (h:SOK b s):c76 b [.ptr 0 0] [sBox b s]=some ⟨false,.inl 6 ((obsF b s).1.map Obj.o),[],[sBox b (obsF b s).2]⟩:=ctrG_eq (injSB _) s h rfl
theorem c76_ok (b:ByteArray):GOK Tryz.prog (76,[],c76 b):=ctrG_ok fun s h=>f76_ok b s h
theorem tysF_sz {b:ByteArray} {s:SRd} (h:s.at_≤b.size):(tysF b s).2.at_≤b.size:=manyF_sz (fun _=>tyF_sz) _ _ (num7F_sz h)
theorem obsF_sz {b:ByteArray} {s:SRd} (h:s.at_≤b.size):(obsF b s).2.at_≤b.size:=manyF_sz (fun _=>obF_sz) _ _ (num7F_sz h)
def numbF (b:ByteArray):(ByteArray × List Ty × List Obj) × SRd :=
  let n:=name7F b false ⟨3,false,0⟩
  let ts:=tysF b n.2
  let os:=obsF b ts.2
  ((n.1,ts.1,os.1),os.2)
noncomputable def readF (b:ByteArray):Scp × Int × Int :=
  if 3000 < b.size then (noS,1,0) else if preB b os1=false then (noS,2,0) else
  if (numbF b).2.bad=true then (noS,3,(numbF b).2.place) else if ¬ b.size=(numbF b).2.at_ + 2 then (noS,4,(numbF b).2.at_)
  else if ¬ sumB (b.extract 0 (numbF b).2.at_)=b.extract (numbF b).2.at_ b.size then (noS,5,(numbF b).2.at_)
  else if isB ⟨(numbF b).1.1,[],baseTys ++ (numbF b).1.2.1,(numbF b).1.2.2,[]⟩=false then (noS,6,0)
  else (⟨(numbF b).1.1,[],baseTys ++ (numbF b).1.2.1,(numbF b).1.2.2,[]⟩,0,0)
theorem nameF_lim {b:ByteArray} {s:SRd} (h:b.size≤lim):(nameF b s).1.size≤lim:=by
  have h0:(⟨#[]⟩:ByteArray).size≤lim:=by simp [lim,ba_nil_size]
  unfold nameF
  split
  · exact h0
  · exact ext_lim h _ _
theorem name7F_lim {b:ByteArray} {mb:Bool} {s:SRd} (h:b.size≤lim):(name7F b mb s).1.size≤lim:=by
  have h0:(⟨#[]⟩:ByteArray).size≤lim:=by simp [lim,ba_nil_size]
  unfold name7F
  split
  · exact h0
  · split
    · exact h0
    · exact nameF_lim h
theorem manyF_all {α:Type} {g:SRd→α × SRd} {p:α→Prop} (h:∀ s,p (g s).1):∀ (k:Nat) (s:SRd),∀ x ∈ (manyF g k s).1,p x
  | 0,s=>by simp [manyF]
  | k + 1,s=>by
    intro x hx
    unfold manyF at hx
    split at hx
    · cases hx
    · simp only [List.mem_cons] at hx
      rcases hx with rfl | hx
      · exact h s
      · exact manyF_all h k _ x hx
theorem manyF_lim {α:Type} {g:SRd→α × SRd} {p:α→Prop} (h:∀ s,p (g s).1) (k:Nat) (hk:k≤lim) (s:SRd):limL p (manyF g k s).1:=⟨Nat.le_trans (manyF_len k s) hk,manyF_all h k s⟩
theorem num7F_toNat {b:ByteArray} {hi:Int} {s:SRd} (h:0≤hi) (h2:hi≤1000):(num7F b 0 hi s).1.toNat≤1000:=by
  have:=num7F_in (b:=b) (s:=s) (lo:=0) (hi:=hi) h
  omega
theorem klim {k:Nat} (h:k≤1000):k≤lim:=by simp [lim];omega
theorem tyF_lim {b:ByteArray} (h:b.size≤lim) (s:SRd):(tyF b s).1.lim :=
  ⟨manyF_lim (fun _=>name7F_lim h) _ (klim (num7F_toNat (by omega) (by omega))) _,name7F_lim h,name7F_lim h⟩
theorem obF_lim {b:ByteArray} (h:b.size≤lim) (s:SRd):(obF b s).1.lim :=
  ⟨name7F_lim h,manyF_lim (fun _=>name7F_lim h) _ (klim (num7F_toNat (by omega) (by omega))) _⟩
def numbFS (b:ByteArray):Scp:=⟨(numbF b).1.1,[],baseTys ++ (numbF b).1.2.1,(numbF b).1.2.2,[]⟩
theorem numbFS_lim {b:ByteArray} (h:b.size≤lim):(numbFS b).lim:=by
  refine ⟨name7F_lim h,⟨by simp [numbFS,lim],by simp [numbFS]⟩,⟨?_,?_⟩,?_,⟨by simp [numbFS,lim],by simp [numbFS]⟩⟩
  · have h2:(numbF b).1.2.1.length≤(num7F b 0 21 (name7F b false ⟨3,false,0⟩).2).1.toNat:=manyF_len _ _
    have h3:baseTys.length=3:=rfl
    have:=num7F_toNat (b:=b) (s:=(name7F b false ⟨3,false,0⟩).2) (hi:=21) (by omega) (by omega)
    simp only [numbFS,List.length_append,lim,h3]
    omega
  · intro t ht
    simp only [numbFS,List.mem_append] at ht
    rcases ht with ht | ht
    · exact baseTys_lim.2 t ht
    · exact manyF_all (tyF_lim h) _ _ t ht
  · exact manyF_lim (obF_lim h) _ (klim (num7F_toNat (by omega) (by omega))) _
def tree19:TT:=.two false 0 (.two false 2 (.two false 3 (.two false 4 (.one false 5 (.one false 6 (.one false 7 (.one false 8 .done)))) false 5 (.two false 4 (.one false 6 (.one false 7 (.one false 8 .done))) false 6 (.one false 4 (.one false 7 (.one false 8 .done))))) false 5 (.two false 3 (.two false 4 (.one false 6 (.one false 7 (.one false 8 .done))) false 6 (.one false 4 (.one false 7 (.one false 8 .done)))) false 6 (.one false 3 (.one false 4 (.one false 7 (.one false 8 .done)))))) false 5 (.two false 2 (.two false 3 (.two false 4 (.one false 6 (.one false 7 (.one false 8 .done))) false 6 (.one false 4 (.one false 7 (.one false 8 .done)))) false 6 (.one false 3 (.one false 4 (.one false 7 (.one false 8 .done))))) false 6 (.one false 2 (.one false 3 (.one false 4 (.one false 7 (.one false 8 .done))))))) false 2 (.two false 0 (.two false 3 (.two false 4 (.one false 5 (.one false 6 (.one false 7 (.one false 8 .done)))) false 5 (.two false 4 (.one false 6 (.one false 7 (.one false 8 .done))) false 6 (.one false 4 (.one false 7 (.one false 8 .done))))) false 5 (.two false 3 (.two false 4 (.one false 6 (.one false 7 (.one false 8 .done))) false 6 (.one false 4 (.one false 7 (.one false 8 .done)))) false 6 (.one false 3 (.one false 4 (.one false 7 (.one false 8 .done)))))) false 3 (.two false 0 (.two false 4 (.one false 5 (.one false 6 (.one false 7 (.one false 8 .done)))) false 5 (.two false 4 (.one false 6 (.one false 7 (.one false 8 .done))) false 6 (.one false 4 (.one false 7 (.one false 8 .done))))) false 4 (.one false 0 (.one false 5 (.one false 6 (.one false 7 (.one false 8 .done)))))))
def cutR19:Pl:=⟨[1],[],[],[0,2,3,4,5,6,7,8],tree19⟩
theorem cutR19_run {E:Env} (pl:Option (List (Nat × Bool))) (ops:Array Oper) (k:List Fr) (Q:X→S→Prop) (s:S):aftE (some cutR19) pl ops k E Q s=preK E ops k Q tree19 [(1,false)] s:=rfl
theorem f19_ok (b:ByteArray) (hbl:b.size≤1048576):FunOK Tryz.prog 19 [.str b] false (.tup [(readF b).1.o,.int .i64 (readF b).2.1,.int .i64 (readF b).2.2,.bool (decide ((readF b).2.1=0))]):=by
  refine fun_ok (mkE2_ok zmix (cl:=[(77,c77),(78,c78)]) (gl:=[(74,[],c74 b),(75,[],c75 b),(76,[],c76 b)]) [(14,[(0,false),(1,false),(2,false),(3,false),(4,false),(5,false),(6,true),(7,false),(8,false)])] [(11,cutR19)] ⟨c77_ok,c78_ok⟩ ⟨c74_ok b,c75_ok b,c76_ok b⟩) Tryz.func19 (by kernel_rfl) ?_
  refine FunW_run _ _ rfl rfl ?_
  by_cases h3:3000 < b.size
  · have h3i:(3000:Int) < b.size:=by omega
    simp [readF,h3,h3i,noS]
  · have h3i:¬ (3000:Int) < b.size:=by omega
    by_cases hz:b.size < 3
    · have hzi:(b.size:Int) < 3:=by omega
      have hpre:preB b os1=false:=by
        have:os1.size=3:=rfl
        simp only [preB,this,Bool.and_eq_false_iff,decide_eq_false_iff_not]
        exact .inl (by omega)
      simp [readF,h3,h3i,noS,hz,hzi,hpre]
    · have hzi:¬ (b.size:Int) < 3:=by omega
      have hz3:3≤b.size:=by omega
      have hz3i:(3:Int)≤b.size:=by omega
      by_cases he:b.extract 0 3=⟨#[79,83,49]⟩
      · have hpre:preB b os1=true:=by
          have:os1.size=3:=rfl
          simp only [preB,this,Bool.and_eq_true,decide_eq_true_eq]
          exact ⟨hz3,he⟩
        have hR:readF b=((if (numbF b).2.bad=true then (noS,3,(numbF b).2.place) else if ¬ b.size=(numbF b).2.at_ + 2 then (noS,4,(numbF b).2.at_)
          else if ¬ sumB (b.extract 0 (numbF b).2.at_)=b.extract (numbF b).2.at_ b.size then (noS,5,(numbF b).2.at_)
          else if isB ⟨(numbF b).1.1,[],baseTys ++ (numbF b).1.2.1,(numbF b).1.2.2,[]⟩=false then (noS,6,0)
          else (⟨(numbF b).1.1,[],baseTys ++ (numbF b).1.2.1,(numbF b).1.2.2,[]⟩,0,0)):Scp × Int × Int):=by
          unfold readF
          rw [if_neg h3,if_neg (by rw [hpre];simp)]
        have hN:=numbF.eq_1 b
        have hb:b.size≤1000000:=by omega
        have e1:c74 b [.ptr 0 0,.bool false] [.agg [.str b,.int .i64 3,.bool false,.int .i64 0]]=some ⟨false,.str (name7F b false ⟨3,false,0⟩).1,[],[.agg [.str b,.int .i64 (name7F b false ⟨3,false,0⟩).2.at_,.bool (name7F b false ⟨3,false,0⟩).2.bad,.int .i64 (name7F b false ⟨3,false,0⟩).2.place]]⟩:=c74_eq b false ⟨3,false,0⟩ ⟨hz3,hb⟩
        have s1:=name7F_sz (b:=b) (mb:=false) (s:=⟨3,false,0⟩) hz3
        generalize name7F b false ⟨3,false,0⟩=q1 at *
        have e2:=c75_eq b q1.2 ⟨s1,hb⟩
        have s2:=tysF_sz (b:=b) s1
        simp only [sBox] at e2
        generalize tysF b q1.2=q2 at *
        have e3:=c76_eq b q2.2 ⟨s2,hb⟩
        have s3:=obsF_sz (b:=b) s2
        simp only [sBox] at e3
        generalize obsF b q2.2=q3 at *
        have hN2:numbF b=((q1.1,q2.1,q3.1),q3.2):=hN
        have hSl:=numbFS_lim (b:=b) (by simp [lim];omega)
        simp only [numbFS,hN2] at hSl
        simp only [hN2] at hR
        have e78:=c78_eq _ hSl
        have e77:=c77_eq (b.extract 0 q3.2.at_) (by simp;omega)
        have w2:IntKind.i64.wrap ((q3.2.at_:Int) + 2)=(q3.2.at_:Int) + 2:=wrap64 (by omega) (by omega)
        have hnm:norms (List.map Ty.o baseTys ++ List.map Ty.o q2.1)=List.map Ty.v baseTys ++ List.map Ty.v q2.1:=by
          rw [norms_map,List.map_append,List.map_map,List.map_map]
          congr 1 <;> exact List.map_congr_left (fun t _=>by simp)
        have hnl:noLs (List.map Ty.o baseTys ++ List.map Ty.o q2.1)=true:=by
          rw [← List.map_append]
          exact noLs_tyo _
        have w1s:(q3.2.at_:Int)≤b.size:=by omega
        simp only [Scp.v,List.map_append,List.map_nil] at e78
        by_cases hb0:q3.2.bad=true
        · rw [if_pos hb0] at hR
          rw [hR]
          simp [h3,h3i,hz,hzi,hz3,hz3i,he,e1,e2,e3,noS,hb0,-aftE_some,cutR19_run,tree19,pureOp,S.see,seeL,S.after,flatC]
        · rw [if_neg hb0] at hR
          by_cases hs2:b.size=q3.2.at_ + 2
          · have w2s:IntKind.i64.wrap ((q3.2.at_:Int) + 2)=(b.size:Int):=w2.trans (by omega)
            clear w2
            rw [if_neg (Decidable.not_not.2 hs2)] at hR
            by_cases hsm:sumB (b.extract 0 q3.2.at_)=b.extract q3.2.at_ b.size
            · rw [if_neg (Decidable.not_not.2 hsm)] at hR
              cases hisb:isB ⟨q1.1,[],baseTys ++ q2.1,q3.1,[]⟩ with
              | false =>
                rw [if_pos hisb] at hR
                rw [hR]
                rw [hisb] at e78
                simp [h3,h3i,hz,hzi,hz3,hz3i,he,e1,e2,e3,noS,hb0,w2s,w1s,s3,e77,hsm,e78,hnm,hnl,-aftE_some,cutR19_run,tree19,pureOp,S.see,seeL,S.after,flatC]
              | true =>
                rw [if_neg (by rw [hisb];simp)] at hR
                rw [hR]
                rw [hisb] at e78
                simp [h3,h3i,hz,hzi,hz3,hz3i,he,e1,e2,e3,noS,hb0,w2s,w1s,s3,e77,hsm,e78,hnm,hnl,-aftE_some,cutR19_run,tree19,pureOp,S.see,seeL,S.after,flatC]
            · rw [if_pos hsm] at hR
              rw [hR]
              have hsm':¬ b.extract q3.2.at_ b.size=sumB (b.extract 0 q3.2.at_):=fun e=>hsm e.symm
              simp [h3,h3i,hz,hzi,hz3,hz3i,he,e1,e2,e3,noS,hb0,w2s,w1s,s3,e77,hsm,hsm',-aftE_some,cutR19_run,tree19,pureOp,S.see,seeL,S.after,flatC]
          · have hs2i:¬ (b.size:Int)=(q3.2.at_:Int) + 2:=by omega
            rw [if_pos hs2] at hR
            rw [hR]
            simp [h3,h3i,hz,hzi,hz3,hz3i,he,e1,e2,e3,noS,hb0,w2,hs2i,-aftE_some,cutR19_run,tree19,pureOp,S.see,seeL,S.after,flatC]
      · have hpre:preB b os1=false:=by
          have:os1.size=3:=rfl
          simp only [preB,this,Bool.and_eq_false_iff,decide_eq_false_iff_not]
          exact .inr he
        simp [readF,h3,h3i,noS,hz,hzi,hz3,hz3i,he,hpre]
end Go.TM.Tryz
end
section
set_option maxHeartbeats 8000000
set_option maxRecDepth 20000
namespace Go.TM.Tryz
open Go Go.TM Go.Proofs
def seg (b:ByteArray):Nat→Nat→List UInt8
  | _,0=>[]
  | p,m + 1=>b.data.getD p 0 :: seg b (p + 1) m
theorem seg_eq (b:ByteArray):∀ (m p:Nat),p + m≤b.size→seg b p m=(b.data.toList.drop p).take m
  | 0,p,h=>by simp [seg]
  | m + 1,p,h=>by
    have hp:p < b.data.size:=by show p < b.size;omega
    have hp':p < b.data.toList.length:=by simpa using hp
    rw [List.drop_eq_getElem_cons hp',List.take_succ_cons,← seg_eq b m (p + 1) (by omega)]
    have hp2:p < b.size:=hp
    simp [seg,Array.getD,hp2]
theorem ext_seg {b:ByteArray} {p m:Nat} (h:p + m≤b.size):b.extract p (p + m)=⟨(seg b p m).toArray⟩:=by
  apply ByteArray.ext
  apply Array.toList_inj.1
  rw [seg_eq b m p h,ByteArray.data_extract,Array.toList_extract]
  simp
def val:List UInt8→Nat
  | []=>0
  | x :: t=>x.toNat % 128 + 128 * val t
inductive Vld:List UInt8→Prop
  | one (c:UInt8):c.toNat < 128→Vld [c]
  | more (x:UInt8) (t:List UInt8):128≤x.toNat→Vld t→Vld (x :: t)
theorem Vld.ne {l:List UInt8} (h:Vld l):l ≠ []:=by cases h <;> simp
theorem val_pos {l:List UInt8} (h:Vld l):(l.getLast h.ne).toNat ≠ 0→0 < val l:=by
  induction h with
  | one c hc=>intro h;simp only [List.getLast_singleton] at h;simp only [val];omega
  | more x t hx ht ih =>
    intro h
    rw [List.getLast_cons ht.ne] at h
    have:=ih h
    simp only [val]
    omega
theorem digs_val {l:List UInt8} (h:Vld l):digs (val l)=l ↔ (l.length=1 ∨ (l.getLast h.ne).toNat ≠ 0):=by
  induction h with
  | one c hc =>
    have:val [c]=c.toNat:=by simp only [val];omega
    rw [this,digs_lt hc]
    simp
  | more x t hx ht ih =>
    have hxl:=UInt8.toNat_lt x
    have htl:t.length ≠ 0:=by
      have:=ht.ne
      simpa using this
    rw [List.getLast_cons ht.ne]
    have hv:val (x :: t)=x.toNat % 128 + 128 * val t:=rfl
    by_cases h0:val t=0
    · have hl:(t.getLast ht.ne).toNat=0:=by
        by_cases hz:(t.getLast ht.ne).toNat=0
        · exact hz
        · have:=val_pos ht hz
          omega
      rw [hv,h0,digs_lt (by omega)]
      constructor
      · intro e
        have:=congrArg List.length e
        simp only [List.length_cons,List.length_nil] at this
        omega
      · rintro (e | e)
        · simp only [List.length_cons] at e
          omega
        · exact absurd hl e
    · rw [hv,digs_ge (by omega)]
      have e1:(x.toNat % 128 + 128 * val t) % 128 + 128=x.toNat:=by omega
      have e2:(x.toNat % 128 + 128 * val t) / 128=val t:=by omega
      have e3:UInt8.ofNat x.toNat=x:=UInt8.ofNat_toNat
      rw [e1,e2,e3]
      constructor
      · intro e
        have e4:digs (val t)=t:=by simpa using e
        rcases ih.1 e4 with h1 | h1
        · right
          intro h2
          apply h0
          match t,h1,ht,h2 with
          | [c],_,_,h2=>simp only [List.getLast_singleton] at h2;simp [val,h2]
        · exact .inr h1
      · rintro (e | e)
        · simp only [List.length_cons] at e
          omega
        · rw [ih.2 (.inr e)]
theorem digs_end (n:Nat):∃ x ∈ digs n,x.toNat < 128:=by
  induction n using Nat.strongRecOn with
  | ind n ih =>
    by_cases h:n < 128
    · rw [digs_lt h]
      exact ⟨UInt8.ofNat n,by simp,by simp;omega⟩
    · rw [digs_ge h]
      obtain ⟨x,hx,hx2⟩:=ih (n / 128) (by omega)
      exact ⟨x,List.mem_cons_of_mem _ hx,hx2⟩
theorem segLast {b:ByteArray}:∀ (m p:Nat),∃ h:seg b p (m + 1) ≠ [],((seg b p (m + 1)).getLast h).toNat=byteAt b (p + m)
  | 0,p=>⟨by simp [seg],by simp [seg,byteAt]⟩
  | m + 1,p=>by
    obtain ⟨h,e⟩:=segLast (b:=b) m (p + 1)
    refine ⟨by simp [seg],?_⟩
    have:seg b p (m + 1 + 1)=b.data.getD p 0 :: seg b (p + 1) (m + 1):=rfl
    simp only [this,List.getLast_cons h]
    rw [e]
    congr 1
    omega
theorem seg_len (b:ByteArray):∀ (m p:Nat),(seg b p m).length=m
  | 0,p=>rfl
  | m + 1,p=>by simp [seg,seg_len b m]
end Go.TM.Tryz
end
section
set_option maxHeartbeats 8000000
set_option maxRecDepth 20000
namespace Go.TM.Tryz
open Go Go.TM Go.Proofs
theorem getD_at (b:ByteArray) (a:Nat):(b.data.getD a 0).toNat=byteAt b a:=rfl
theorem joint (b:ByteArray) (p pl:Nat):∀ (f n k:Nat),p + k≤b.size →
    ((numL b f n (128 ^ k) ⟨p + k,false,pl⟩).2.bad=true∧(rnL b p f k n).2.2=false) ∨
    (∃ m,p + k + m < b.size∧numL b f n (128 ^ k) ⟨p + k,false,pl⟩=(n + 128 ^ k * val (seg b (p + k) (m + 1)),⟨p + k + m + 1,false,pl⟩)∧Vld (seg b (p + k) (m + 1)) ∧
      rnL b p f k n=(openI (n + 128 ^ k * val (seg b (p + k) (m + 1))),p + k + m + 1,decide (n + 128 ^ k * val (seg b (p + k) (m + 1))≤2000000000) && (decide (k + m=0) || decide (0 < byteAt b (p + k + m))))) ∨
    (numL b f n (128 ^ k) ⟨p + k,false,pl⟩=(n + 128 ^ k * val (seg b (p + k) f),⟨p + k + f,false,pl⟩)∧p + k + f≤b.size∧(∀ x ∈ seg b (p + k) f,128≤x.toNat)∧(rnL b p f k n).2.2=false)
  | 0,n,k,h=>by
    refine .inr (.inr ⟨by simp [numL,seg,val],by omega,by simp [seg],by simp [rnL]⟩)
  | f + 1,n,k,h=>by
    by_cases hp:p + k < b.size
    · have hb1:byte1 b ⟨p + k,false,pl⟩=(byteAt b (p + k),⟨p + k + 1,false,pl⟩):=by
        have:¬ b.size≤p + k:=by omega
        simp [byte1,this]
      have hN:numL b (f + 1) n (128 ^ k) ⟨p + k,false,pl⟩=if byteAt b (p + k) < 128 then (n + byteAt b (p + k) % 128 * 128 ^ k,⟨p + k + 1,false,pl⟩) else numL b f (n + byteAt b (p + k) % 128 * 128 ^ k) (128 ^ k * 128) ⟨p + k + 1,false,pl⟩:=by
        conv=>lhs;unfold numL
        rw [hb1]
      have hR:rnL b p (f + 1) k n=if byteAt b (p + k) < 128 then (openI (n + byteAt b (p + k) % 128 * 128 ^ k),p + k + 1,decide (n + byteAt b (p + k) % 128 * 128 ^ k≤2000000000) && (decide (k=0) || decide (0 < byteAt b (p + k)))) else rnL b p f (k + 1) (n + byteAt b (p + k) % 128 * 128 ^ k):=by
        conv=>lhs;unfold rnL
        rw [if_pos hp]
      have hs:∀ m,val (seg b (p + k) (m + 1))=byteAt b (p + k) % 128 + 128 * val (seg b (p + (k + 1)) m):=fun m=>rfl
      by_cases hx:byteAt b (p + k) < 128
      · rw [if_pos hx] at hN hR
        have hv1:val (seg b (p + k) 1)=byteAt b (p + k) % 128:=by
          have:=hs 0
          simp only [seg,val] at this
          exact this
        refine .inr (.inl ⟨0,by omega,?_,.one _ hx,?_⟩)
        · rw [hN]
          simp [hv1,Nat.mul_comm]
        · rw [hR]
          simp [hv1,Nat.mul_comm]
      · rw [if_neg hx] at hN hR
        have e1:128 ^ k * 128=128 ^ (k + 1):=(Nat.pow_succ _ _).symm
        have e2:p + k + 1=p + (k + 1):=by omega
        rw [e1,e2] at hN
        have ha:∀ m,n + byteAt b (p + k) % 128 * 128 ^ k + 128 ^ (k + 1) * val (seg b (p + (k + 1)) m)=n + 128 ^ k * val (seg b (p + k) (m + 1)):=by
          intro m
          rw [hs,Nat.pow_succ,Nat.mul_add,Nat.mul_comm (byteAt b (p + k) % 128),Nat.mul_assoc,Nat.add_assoc]
        rcases joint b p pl f (n + byteAt b (p + k) % 128 * 128 ^ k) (k + 1) (by omega) with ⟨h1,h2⟩ | ⟨m,h1,h2,h3,h4⟩ | ⟨h1,h2,h3,h4⟩
        · exact .inl ⟨by rw [hN];exact h1,by rw [hR];exact h2⟩
        · refine .inr (.inl ⟨m + 1,by omega,?_,.more _ _ (by rw [getD_at];omega) h3,?_⟩)
          · rw [hN,h2,ha]
            congr 2
            omega
          · rw [hR,h4,ha]
            have e3:p + (k + 1) + m=p + k + (m + 1):=by omega
            have e4:(k + 1 + m=0)=(k + (m + 1)=0):=by simp <;> omega
            rw [e3]
            simp only [e4]
        · refine .inr (.inr ⟨?_,by omega,?_,by rw [hR];exact h4⟩)
          · rw [hN,h1,ha]
            congr 2
            omega
          · intro x hx2
            have:seg b (p + k) (f + 1)=b.data.getD (p + k) 0 :: seg b (p + (k + 1)) f:=rfl
            rw [this] at hx2
            rcases List.mem_cons.1 hx2 with rfl | hx2
            · rw [getD_at]
              omega
            · exact h3 x hx2
    · have hb1:byte1 b ⟨p + k,false,pl⟩=(0,⟨p + k,true,pl⟩):=by
        have:b.size≤p + k:=by omega
        simp [byte1,this]
      refine .inl ⟨?_,?_⟩
      · unfold numL
        rw [hb1]
        simp
      · unfold rnL
        rw [if_neg hp]
end Go.TM.Tryz
end
section
set_option maxHeartbeats 8000000
set_option maxRecDepth 20000
namespace Go.TM.Tryz
open Go Go.TM Go.Proofs
theorem num_same (b:ByteArray) (p pl:Nat) (h:p≤b.size) :
    ((numF b ⟨p,false,pl⟩).2.bad=true∧(rnL b p 5 0 0).2.2=false) ∨
    ∃ q,numF b ⟨p,false,pl⟩=((rnL b p 5 0 0).1,⟨q,false,pl⟩)∧(rnL b p 5 0 0).2.1=q∧(rnL b p 5 0 0).2.2=true:=by
  have J:=joint b p pl 5 0 0 (by omega)
  simp only [Nat.pow_zero,Nat.add_zero,Nat.zero_add,Nat.one_mul] at J
  have hF:=numF.eq_1 b ⟨p,false,pl⟩
  rcases J with ⟨h1,h2⟩ | ⟨m,h1,h2,h3,h4⟩ | ⟨h1,h2,h3,h4⟩
  · refine .inl ⟨?_,h2⟩
    rw [hF,if_pos (.inl h1)]
  · rw [h2] at hF
    rw [h4]
    simp only at hF ⊢
    have he:b.extract p (p + m + 1)=⟨(seg b p (m + 1)).toArray⟩:=by rw [Nat.add_assoc];exact ext_seg (by omega)
    rw [he] at hF
    obtain ⟨hne,hlast⟩:=segLast (b:=b) m p
    have hd:=digs_val h3
    rw [seg_len,hlast] at hd
    have hcan:(⟨(digs (val (seg b p (m + 1)))).toArray⟩:ByteArray)=⟨(seg b p (m + 1)).toArray⟩ ↔ (m=0 ∨ 0 < byteAt b (p + m)):=by
      rw [ByteArray.mk.injEq]
      constructor
      · intro e
        have:digs (val (seg b p (m + 1)))=seg b p (m + 1):=by
          have:=congrArg Array.toList e
          simpa using this
        rcases hd.1 this with h | h
        · exact .inl (by omega)
        · exact .inr (by omega)
      · intro e
        rw [hd.2 (by rcases e with e | e;exact .inl (by omega);exact .inr (by omega))]
    by_cases h2e:val (seg b p (m + 1))≤2000000000
    · by_cases hc:m=0 ∨ 0 < byteAt b (p + m)
      · right
        refine ⟨p + m + 1,?_,rfl,?_⟩
        · rw [hF,if_neg]
          simp only [not_or,Bool.false_eq_true,not_false_eq_true,true_and]
          exact ⟨by omega,fun h=>h (hcan.2 hc)⟩
        · simp only [Bool.and_eq_true,Bool.or_eq_true,decide_eq_true_eq]
          exact ⟨h2e,hc⟩
      · left
        refine ⟨?_,?_⟩
        · rw [hF,if_pos (.inr (.inr fun e=>hc (hcan.1 e)))]
        · simp only [Bool.and_eq_false_iff,Bool.or_eq_false_iff,decide_eq_false_iff_not]
          right
          exact ⟨fun e=>hc (.inl e),fun e=>hc (.inr e)⟩
    · left
      refine ⟨?_,?_⟩
      · rw [hF,if_pos (.inr (.inl (by omega)))]
      · simp only [Bool.and_eq_false_iff,decide_eq_false_iff_not]
        exact .inl h2e
  · left
    refine ⟨?_,h4⟩
    rw [h1] at hF
    simp only at hF
    rw [ext_seg h2] at hF
    rw [hF,if_pos]
    refine .inr (.inr ?_)
    rw [Ne,ByteArray.mk.injEq]
    intro e
    have e2:digs (val (seg b p 5))=seg b p 5:=by
      have:=congrArg Array.toList e
      simpa using this
    obtain ⟨x,hx,hx2⟩:=digs_end (val (seg b p 5))
    rw [e2] at hx
    have:=h3 x hx
    omega
def Rel (s:SRd) (o:ORd):Prop:=(s.bad=false∧o.bad < 0∧o.at_=s.at_) ∨ (s.bad=true∧0≤o.bad∧o.bad=s.place)
def Same {α:Type} (x:α × SRd) (y:α × ORd):Prop:=Rel x.2 y.2∧(x.2.bad=false→x.1=y.1)
theorem num7_same {b:ByteArray} {lo hi:Int} {s:SRd} {o:ORd} (h:s.at_≤b.size) (hr:Rel s o):Same (num7F b lo hi s) (numO b lo hi o):=by
  obtain ⟨p,bad,pl⟩:=s
  obtain ⟨q,ob⟩:=o
  rcases hr with ⟨h1,h2,h3⟩ | ⟨h1,h2,h3⟩
  · simp only at h1 h2 h3 h
    subst h1 h3
    have hob:¬ 0≤ob:=by omega
    rcases num_same b q pl h with ⟨k1,k2⟩ | ⟨r,k1,k2,k3⟩
    · have e1:num7F b lo hi ⟨q,false,pl⟩=(lo,⟨(numF b ⟨q,false,pl⟩).2.at_,true,q⟩):=by
        simp [num7F,k1]
      have e2:numO b lo hi ⟨q,ob⟩=(0,⟨q,q⟩):=by
        simp [numO,hob,k2,failF,h2]
      rw [e1,e2]
      exact ⟨.inr ⟨rfl,by simp,rfl⟩,fun h=>by cases h⟩
    · cases hi':inB (rnL b q 5 0 0).1 lo hi with
      | false =>
        have e1:num7F b lo hi ⟨q,false,pl⟩=(lo,⟨(numF b ⟨q,false,pl⟩).2.at_,true,q⟩):=by
          simp [num7F,k1,hi']
        have e2:numO b lo hi ⟨q,ob⟩=(0,⟨q,q⟩):=by
          simp [numO,hob,hi',failF,h2]
        rw [e1,e2]
        exact ⟨.inr ⟨rfl,by simp,rfl⟩,fun h=>by cases h⟩
      | true =>
        have e1:num7F b lo hi ⟨q,false,pl⟩=((rnL b q 5 0 0).1,⟨r,false,pl⟩):=by
          simp [num7F,k1,hi']
        have e2:numO b lo hi ⟨q,ob⟩=((rnL b q 5 0 0).1,⟨r,ob⟩):=by
          simp [numO,hob,k3,k2,hi']
        rw [e1,e2]
        exact ⟨.inl ⟨rfl,h2,rfl⟩,fun _=>rfl⟩
  · simp only at h1 h2 h3
    subst h1
    have e1:num7F b lo hi ⟨p,true,pl⟩=(lo,⟨p,true,pl⟩):=by simp [num7F]
    have e2:numO b lo hi ⟨q,ob⟩=(0,⟨q,ob⟩):=by simp [numO,h2]
    rw [e1,e2]
    exact ⟨.inr ⟨rfl,h2,h3⟩,fun h=>by cases h⟩
theorem small_same {b:ByteArray} {lo hi:Int} {s:SRd} {o:ORd} (h:s.at_≤b.size) (hr:Rel s o):Same (smallF b lo hi s) (sinO b lo hi o):=by
  obtain ⟨p,bad,pl⟩:=s
  obtain ⟨q,ob⟩:=o
  rcases hr with ⟨h1,h2,h3⟩ | ⟨h1,h2,h3⟩
  · simp only at h1 h2 h3 h
    subst h1 h3
    have hob:¬ 0≤ob:=by omega
    by_cases hq:b.size≤q
    · have e1:smallF b lo hi ⟨q,false,pl⟩=(lo,⟨q,true,q⟩):=by
        simp [smallF,byte1,hq]
      have e2:sinO b lo hi ⟨q,ob⟩=(0,⟨q,q⟩):=by
        simp [sinO,hob,hq,failF,h2]
      rw [e1,e2]
      exact ⟨.inr ⟨rfl,by simp,rfl⟩,fun h=>by cases h⟩
    · cases hi':inB (byteAt b q) lo hi with
      | false =>
        have e1:smallF b lo hi ⟨q,false,pl⟩=(lo,⟨q + 1,true,q⟩):=by
          simp [smallF,byte1,hq,hi']
        have e2:sinO b lo hi ⟨q,ob⟩=(0,⟨q,q⟩):=by
          simp [sinO,hob,hq,hi',failF,h2]
        rw [e1,e2]
        exact ⟨.inr ⟨rfl,by simp,rfl⟩,fun h=>by cases h⟩
      | true =>
        have e1:smallF b lo hi ⟨q,false,pl⟩=(((byteAt b q:Nat):Int),⟨q + 1,false,pl⟩):=by
          simp [smallF,byte1,hq,hi']
        have e2:sinO b lo hi ⟨q,ob⟩=(((byteAt b q:Nat):Int),⟨q + 1,ob⟩):=by
          simp [sinO,hob,hq,hi']
        rw [e1,e2]
        exact ⟨.inl ⟨rfl,h2,rfl⟩,fun _=>rfl⟩
  · simp only at h1 h2 h3
    subst h1
    have hn:¬ ob < 0:=by omega
    have e1:smallF b lo hi ⟨p,true,pl⟩=(lo,⟨p,true,pl⟩):=by simp [smallF]
    have e2:sinO b lo hi ⟨q,ob⟩=(0,⟨q,ob⟩):=by simp [sinO,h2,failF,hn]
    rw [e1,e2]
    exact ⟨.inr ⟨rfl,h2,h3⟩,fun h=>by cases h⟩
theorem name7_same {b:ByteArray} {mb:Bool} {s:SRd} {o:ORd} (h:s.at_≤b.size) (hr:Rel s o):Same (name7F b mb s) (nameO b mb o):=by
  obtain ⟨p,bad,pl⟩:=s
  obtain ⟨q,ob⟩:=o
  rcases hr with ⟨h1,h2,h3⟩ | ⟨h1,h2,h3⟩
  · simp only at h1 h2 h3 h
    subst h1 h3
    have hob:¬ 0≤ob:=by omega
    by_cases hz:mb=true∧q < b.size∧byteAt b q=0
    · have e1:name7F b mb ⟨q,false,pl⟩=(⟨#[]⟩,⟨q + 1,false,pl⟩):=by
        unfold name7F
        rw [if_neg (by simp),if_pos hz]
      have e2:nameO b mb ⟨q,ob⟩=(⟨#[]⟩,⟨q + 1,ob⟩):=by
        unfold nameO
        rw [if_neg hob,if_pos hz]
      rw [e1,e2]
      exact ⟨.inl ⟨rfl,h2,rfl⟩,fun _=>rfl⟩
    · have e1:name7F b mb ⟨q,false,pl⟩=((nameF b ⟨q,false,pl⟩).1,if (nameF b ⟨q,false,pl⟩).2.bad=true then ⟨(nameF b ⟨q,false,pl⟩).2.at_,(nameF b ⟨q,false,pl⟩).2.bad,q⟩ else (nameF b ⟨q,false,pl⟩).2):=by
        unfold name7F
        rw [if_neg (by simp),if_neg hz]
      have e2:nameO b mb ⟨q,ob⟩=if (rnmF b q).2.2=false then (⟨#[]⟩,failF ⟨q,ob⟩ q) else ((rnmF b q).1,⟨(rnmF b q).2.1,ob⟩):=by
        unfold nameO
        rw [if_neg hob,if_neg hz]
      rw [e1,e2]
      by_cases hq:b.size≤q
      · simp [nameF,byte1,rnmF,hq,failF,h2,Same,Rel]
      · by_cases hc:b.size < q + 1 + byteAt b q ∨ nameB (b.extract (q + 1) (q + 1 + byteAt b q))=false
        · simp [nameF,byte1,rnmF,hq,hc,failF,h2,Same,Rel]
        · simp [nameF,byte1,rnmF,hq,hc,failF,h2,Same,Rel]
  · simp only at h1 h2 h3
    subst h1
    have e1:name7F b mb ⟨p,true,pl⟩=(⟨#[]⟩,⟨p,true,pl⟩):=by simp [name7F]
    have e2:nameO b mb ⟨q,ob⟩=(⟨#[]⟩,⟨q,ob⟩):=by simp [nameO,h2]
    rw [e1,e2]
    exact ⟨.inr ⟨rfl,h2,h3⟩,fun h=>by cases h⟩
end Go.TM.Tryz
end
section
set_option maxHeartbeats 8000000
set_option maxRecDepth 20000
namespace Go.TM.Tryz
open Go Go.TM Go.Proofs
theorem num7F_good {b:ByteArray} {lo hi:Int} {s:SRd} (h:(num7F b lo hi s).2.bad=false):s.bad=false:=by
  cases hb:s.bad with
  | false=>rfl
  | true =>
    unfold num7F at h
    rw [if_pos hb] at h
    simp only [hb] at h
    cases h
theorem smallF_good {b:ByteArray} {lo hi:Int} {s:SRd} (h:(smallF b lo hi s).2.bad=false):s.bad=false:=by
  cases hb:s.bad with
  | false=>rfl
  | true =>
    unfold smallF at h
    rw [if_pos hb] at h
    simp only [hb] at h
    cases h
theorem name7F_good {b:ByteArray} {mb:Bool} {s:SRd} (h:(name7F b mb s).2.bad=false):s.bad=false:=by
  cases hb:s.bad with
  | false=>rfl
  | true =>
    unfold name7F at h
    rw [if_pos hb] at h
    simp only [hb] at h
    cases h
theorem manyF_good {α:Type} {g:SRd→α × SRd} {k:Nat} {s:SRd} (h:(manyF g k s).2.bad=false):s.bad=false:=by
  cases hb:s.bad with
  | false=>rfl
  | true =>
    cases k with
    | zero=>simp only [manyF,hb] at h;cases h
    | succ k =>
      unfold manyF at h
      rw [if_pos hb] at h
      simp only [hb] at h
      cases h
theorem manyF_bad {α:Type} {g:SRd→α × SRd} {k:Nat} {s:SRd} (h:s.bad=true):manyF g k s=([],s):=by
  cases k with
  | zero=>rfl
  | succ k =>
    unfold manyF
    rw [if_pos h]
theorem failF_bad {s:ORd} {p:Int} (h:0≤s.bad):failF s p=s:=by
  unfold failF
  rw [if_neg (by omega)]
theorem numO_bad {b:ByteArray} {lo hi:Int} {s:ORd} (h:0≤s.bad):(numO b lo hi s).2=s:=by
  unfold numO
  rw [if_pos h]
theorem sinO_bad {b:ByteArray} {lo hi:Int} {s:ORd} (h:0≤s.bad):(sinO b lo hi s).2=s:=by
  unfold sinO
  rw [if_pos (.inl h)]
  exact failF_bad h
theorem nameO_bad {b:ByteArray} {mb:Bool} {s:ORd} (h:0≤s.bad):(nameO b mb s).2=s:=by
  unfold nameO
  rw [if_pos h]
theorem manyO_bad {α:Type} {g:ORd→α × ORd} (hg:∀ s,0≤s.bad→(g s).2=s):∀ (k:Nat) (s:ORd),0≤s.bad→(manyO g k s).2=s
  | 0,s,h=>rfl
  | k + 1,s,h=>by
    simp only [manyO]
    rw [hg s h]
    exact manyO_bad hg k s h
theorem fldO_bad {b:ByteArray} {s:ORd} (h:0≤s.bad):(fldO b s).2=s:=by
  unfold fldO
  rw [sinO_bad h,nameO_bad h,numO_bad h]
theorem parO_bad {b:ByteArray} {s:ORd} (h:0≤s.bad):(parO b s).2=s:=by
  unfold parO
  rw [nameO_bad h,sinO_bad h,numO_bad h]
theorem headTO_bad {b:ByteArray} {s:ORd} (h:0≤s.bad):(headTO b s).2=s:=by
  simp only [headTO]
  rw [sinO_bad h,numO_bad h,numO_bad h,nameO_bad h,nameO_bad h,numO_bad h]
theorem headBO_bad {b:ByteArray} {s:ORd} (h:0≤s.bad):(headBO b s).2=s:=by
  simp only [headBO]
  rw [sinO_bad h,sinO_bad h,nameO_bad h,numO_bad h,numO_bad h,numO_bad h]
theorem tyO_bad {b:ByteArray} {s:ORd} (h:0≤s.bad):(tyO b s).2=s:=by
  simp only [tyO]
  rw [headTO_bad h]
  exact manyO_bad (fun _=>fldO_bad) _ _ h
theorem obO_bad {b:ByteArray} {s:ORd} (h:0≤s.bad):(obO b s).2=s:=by
  simp only [obO]
  rw [headBO_bad h]
  exact manyO_bad (fun _=>parO_bad) _ _ h
theorem many_same {α:Type} {b:ByteArray} {g:SRd→α × SRd} {go:ORd→α × ORd} (hg:∀ s o,s.at_≤b.size→Rel s o→Same (g s) (go o)) (hz:∀ s,s.at_≤b.size→(g s).2.at_≤b.size) (hb:∀ o,0≤o.bad→(go o).2=o) :
    ∀ (k k':Nat) (s:SRd) (o:ORd),s.at_≤b.size→Rel s o→(s.bad=false→k=k')→Same (manyF g k s) (manyO go k' o):=by
  intro k
  induction k with
  | zero =>
    intro k' s o h hr hk
    cases hs:s.bad with
    | false =>
      have:=hk hs
      subst this
      exact ⟨hr,fun _=>rfl⟩
    | true =>
      rcases hr with ⟨h1,_⟩ | ⟨h1,h2,h3⟩
      · rw [hs] at h1;cases h1
      · refine ⟨.inr ⟨hs,?_,?_⟩,fun h=>?_⟩
        · rw [manyO_bad hb k' o h2];exact h2
        · rw [manyO_bad hb k' o h2];exact h3
        · simp only [manyF,hs] at h;cases h
  | succ k ih =>
    intro k' s o h hr hk
    cases hs:s.bad with
    | false =>
      have:=hk hs
      subst this
      have A:=hg s o h hr
      have B:=ih k (g s).2 (go o).2 (hz s h) A.1 (fun _=>rfl)
      have e1:manyF g (k + 1) s=((g s).1 :: (manyF g k (g s).2).1,(manyF g k (g s).2).2):=by
        conv=>lhs;unfold manyF
        rw [if_neg (by rw [hs];simp)]
      rw [e1]
      refine ⟨B.1,fun hb=>?_⟩
      simp only [manyO]
      rw [A.2 (manyF_good hb),B.2 hb]
    | true =>
      rw [manyF_bad hs]
      rcases hr with ⟨h1,_⟩ | ⟨h1,h2,h3⟩
      · rw [hs] at h1;cases h1
      · refine ⟨.inr ⟨hs,?_,?_⟩,fun h=>?_⟩
        · rw [manyO_bad hb k' o h2];exact h2
        · rw [manyO_bad hb k' o h2];exact h3
        · simp only [hs] at h;cases h
theorem fld_same {b:ByteArray} (s:SRd) (o:ORd) (h:s.at_≤b.size) (hr:Rel s o):Same (fldF b s) (fldO b o):=by
  have A:=small_same (b:=b) (lo:=0) (hi:=2) h hr
  have B:=name7_same (b:=b) (mb:=true) (smallF_sz h) A.1
  have C:=num7_same (b:=b) (lo:=-1000000000) (hi:=1000000000) (name7F_sz (smallF_sz h)) B.1
  refine ⟨C.1,fun hb=>?_⟩
  have g1:=num7F_good hb
  have g2:=name7F_good g1
  simp only [fldF,fldO]
  rw [A.2 g2,B.2 g1,C.2 hb]
theorem par_same {b:ByteArray} (s:SRd) (o:ORd) (h:s.at_≤b.size) (hr:Rel s o):Same (parF b s) (parO b o):=by
  have A:=name7_same (b:=b) (mb:=false) h hr
  have B:=small_same (b:=b) (lo:=0) (hi:=1) (name7F_sz h) A.1
  have C:=num7_same (b:=b) (lo:=-1000000000) (hi:=1000000000) (smallF_sz (name7F_sz h)) B.1
  refine ⟨C.1,fun hb=>?_⟩
  have g1:=num7F_good hb
  have g2:=smallF_good g1
  simp only [parF,parO]
  rw [A.2 g2,B.2 g1,C.2 hb]
theorem ty_same {b:ByteArray} (s:SRd) (o:ORd) (h:s.at_≤b.size) (hr:Rel s o):Same (tyF b s) (tyO b o):=by
  have A:=small_same (b:=b) (lo:=4) (hi:=6) h hr
  have sA:=smallF_sz (b:=b) (lo:=4) (hi:=6) h
  have B:=num7_same (b:=b) (lo:=-1000000000) (hi:=1000000000) sA A.1
  have sB:=num7F_sz (b:=b) (lo:=-1000000000) (hi:=1000000000) sA
  have C:=num7_same (b:=b) (lo:=-1000000000) (hi:=1000000000) sB B.1
  have sC:=num7F_sz (b:=b) (lo:=-1000000000) (hi:=1000000000) sB
  have D:=name7_same (b:=b) (mb:=true) sC C.1
  have sD:=name7F_sz (b:=b) (mb:=true) sC
  have E:=name7_same (b:=b) (mb:=true) sD D.1
  have sE:=name7F_sz (b:=b) (mb:=true) sD
  have F:=num7_same (b:=b) (lo:=0) (hi:=6) sE E.1
  have sF:=num7F_sz (b:=b) (lo:=0) (hi:=6) sE
  have G:=many_same (b:=b) fld_same (fun _=>fldF_sz) (fun _=>fldO_bad) _ _ _ _ sF F.1 (fun hb=>congrArg Int.toNat (F.2 hb))
  refine ⟨G.1,fun hb=>?_⟩
  have g6:=manyF_good hb
  have g5:=num7F_good g6
  have g4:=name7F_good g5
  have g3:=name7F_good g4
  have g2:=num7F_good g3
  have g1:=num7F_good g2
  have e6:=G.2 hb
  simp only [tyF,tyO,headF,headTO]
  rw [A.2 g1,B.2 g2,C.2 g3,D.2 g4,E.2 g5,e6]
theorem ob_same {b:ByteArray} (s:SRd) (o:ORd) (h:s.at_≤b.size) (hr:Rel s o):Same (obF b s) (obO b o):=by
  have A:=small_same (b:=b) (lo:=1) (hi:=4) h hr
  have sA:=smallF_sz (b:=b) (lo:=1) (hi:=4) h
  have B:=small_same (b:=b) (lo:=0) (hi:=2) sA A.1
  have sB:=smallF_sz (b:=b) (lo:=0) (hi:=2) sA
  have C:=name7_same (b:=b) (mb:=false) sB B.1
  have sC:=name7F_sz (b:=b) (mb:=false) sB
  have D:=num7_same (b:=b) (lo:=-1000000000) (hi:=1000000000) sC C.1
  have sD:=num7F_sz (b:=b) (lo:=-1000000000) (hi:=1000000000) sC
  have E:=num7_same (b:=b) (lo:=-1000000000) (hi:=1000000000) sD D.1
  have sE:=num7F_sz (b:=b) (lo:=-1000000000) (hi:=1000000000) sD
  have F:=num7_same (b:=b) (lo:=0) (hi:=4) sE E.1
  have sF:=num7F_sz (b:=b) (lo:=0) (hi:=4) sE
  have G:=many_same (b:=b) par_same (fun _=>parF_sz) (fun _=>parO_bad) _ _ _ _ sF F.1 (fun hb=>congrArg Int.toNat (F.2 hb))
  refine ⟨G.1,fun hb=>?_⟩
  have g6:=manyF_good hb
  have g5:=num7F_good g6
  have g4:=num7F_good g5
  have g3:=num7F_good g4
  have g2:=name7F_good g3
  have g1:=smallF_good g2
  have e6:=G.2 hb
  simp only [obF,obO,hdOb,headBO]
  rw [A.2 g1,B.2 g2,C.2 g3,D.2 g4,E.2 g5,e6]
theorem numb_same {b:ByteArray} (h:3≤b.size):Same (numbF b) (numbO b):=by
  have A:=name7_same (b:=b) (mb:=false) (s:=⟨3,false,0⟩) (o:=⟨3,-1⟩) h (.inl ⟨rfl,by decide,rfl⟩)
  have sA:=name7F_sz (b:=b) (mb:=false) (s:=⟨3,false,0⟩) h
  have B:=num7_same (b:=b) (lo:=0) (hi:=21) sA A.1
  have sB:=num7F_sz (b:=b) (lo:=0) (hi:=21) sA
  have C:=many_same (b:=b) ty_same (fun _=>tyF_sz) (fun _=>tyO_bad) _ _ _ _ sB B.1 (fun hb=>congrArg Int.toNat (B.2 hb))
  have sC:=tysF_sz (b:=b) sA
  have D:=num7_same (b:=b) (lo:=0) (hi:=16) sC C.1
  have sD:=num7F_sz (b:=b) (lo:=0) (hi:=16) sC
  have E:=many_same (b:=b) ob_same (fun _=>obF_sz) (fun _=>obO_bad) _ _ _ _ sD D.1 (fun hb=>congrArg Int.toNat (D.2 hb))
  refine ⟨E.1,fun hb=>?_⟩
  have g4:=manyF_good hb
  have g3:=num7F_good g4
  have g2:=manyF_good g3
  have g1:=num7F_good g2
  have e3:=C.2 g3
  have e5:=E.2 hb
  simp only [numbF,numbO,tysF,obsF]
  simp only [tysF] at e5
  rw [A.2 g1,e3,e5]
theorem read_same (b:ByteArray):readI b=readF b:=by
  unfold readI readF
  split
  · rfl
  · split
    · rfl
    · rename_i h1 h2
      have h3:3≤b.size:=by
        simp only [Bool.not_eq_false] at h2
        simp only [preB,Bool.and_eq_true,decide_eq_true_eq] at h2
        exact h2.1
      obtain ⟨hr,hv⟩:=numb_same h3
      rcases hr with ⟨k1,k2,k3⟩ | ⟨k1,k2,k3⟩
      · rw [if_neg (show ¬ 0≤(numbO b).2.bad by omega),if_neg (show ¬ (numbF b).2.bad=true by rw [k1];simp),hv k1,k3]
      · rw [if_pos k2,if_pos k1,k3]
end Go.TM.Tryz
end
section
set_option maxHeartbeats 8000000
set_option maxRecDepth 20000
namespace Go.TM.Tryz
open Go Go.TM Go.Proofs
noncomputable def c79:=ctr (fun b:ByteArray=>b.size≤1048576) (fun b=>[.str b]) (fun b=>(false,.tup [(readI b).1.o,.int .i64 (readI b).2.1,.int .i64 (readI b).2.2]))
theorem c79_eq (b:ByteArray) (h:b.size≤1048576):c79 [.str b]=some (false,.tup [(readI b).1.o,.int .i64 (readI b).2.1,.int .i64 (readI b).2.2]):=ctr_eq (by simp) b h rfl
theorem c79_ok:COK Tryz.prog (79,c79):=ctr_ok fun b h=>f79_ok b h
end Go.TM.Tryz
end
section
namespace Go.TM
open Go
theorem cnt_mk {α:Type} {mk:Int→α→α} {c:α→Nat} (h:∀ k x,c (mk k x)=c x):∀ (k:Int) (xs:List α),cnt c (mkL mk c k xs)=cnt c xs
  | k,[]=>rfl
  | k,x :: xs=>by
    have ih:=cnt_mk h (k + c x) xs
    simp only [cnt] at ih ⊢
    simp only [mkL,List.map_cons,List.sum_cons,ih,h]
theorem cStr_mk (k:Int) (x:ByteArray):cStr (mkStr k x)=cStr x:=rfl
theorem cFld_mk (k:Int) (x:Fld):cFld (mkFld k x)=cFld x:=rfl
theorem cPar_mk (k:Int) (x:Par):cPar (mkPar k x)=cPar x:=rfl
theorem cUse_mk (k:Int) (x:Use):cUse (mkUse k x)=cUse x:=rfl
theorem cTy_mk (k:Int) (x:Ty):cTy (mkTy k x)=cTy x:=by
  simp only [cTy,mkTy,cnt_mk cFld_mk]
theorem cObj_mk (k:Int) (x:Obj):cObj (mkObj k x)=cObj x:=by
  simp only [cObj,mkObj,cnt_mk cPar_mk]
noncomputable def ctrH {α:Type} (mk:Int→α→α) (c:α→Nat) (f:α→V) (p:List α→Int→Prop):List V→Option (Bool × V) :=
  ctr (fun a:List α × Int=>∃ xs,a.1=mkL mk c a.2 xs∧p xs a.2) (fun a=>[.lst (a.1.map f),.int .i64 a.2]) (fun a=>(false,.int .i64 (a.2 + (cnt c a.1:Nat))))
theorem ctrH_eq {α:Type} {mk:Int→α→α} {c:α→Nat} {f:α→V} {p:List α→Int→Prop} (hc:∀ k x,c (mk k x)=c x) (hf:Function.Injective f) (xs:List α) (k:Int) (h:p xs k) :
    ctrH mk c f p [.lst ((mkL mk c k xs).map f),.int .i64 k]=some (false,.int .i64 (k + (cnt c xs:Nat))):=by
  have h1:=ctr_eq (p:=fun a:List α × Int=>∃ xs,a.1=mkL mk c a.2 xs∧p xs a.2) (enc:=fun a=>[.lst (a.1.map f),.int .i64 a.2]) (out:=fun a=>(false,.int .i64 (a.2 + (cnt c a.1:Nat)))) (injl1 hf _) (mkL mk c k xs,k) ⟨xs,rfl,h⟩ rfl
  simp only [cnt_mk hc] at h1
  exact h1
theorem ctrH_ok {α:Type} {mk:Int→α→α} {c:α→Nat} {f:α→V} {p:List α→Int→Prop} {P:Program} {n:Nat} (hc:∀ k x,c (mk k x)=c x) (hf:∀ xs k,p xs k→FunOK P n [.lst ((mkL mk c k xs).map f),.int .i64 k] false (.int .i64 (k + (cnt c xs:Nat)))) :
    COK P (n,ctrH mk c f p):=ctr_ok fun a h=>by
  obtain ⟨zs,k⟩:=a
  obtain ⟨xs,e,h⟩:=h
  simp only at e h
  subst e
  simp only [cnt_mk hc]
  exact hf xs k h
end Go.TM
end
section
set_option maxHeartbeats 2000000
set_option maxRecDepth 10000
namespace Go.TM.Tryz
open Go Go.TM Go.Proofs
theorem f51_ok (xs:List ByteArray) (k:Int) (h0:0≤k) (h1:k + cnt cStr xs≤4611686018427387904) (h2:xs.length≤4611686018427387904):FunOK Tryz.prog 51 [.lst ((mkL mkStr cStr k xs).map V.str),.int .i64 k] false (.int .i64 (k + cnt cStr xs)):=by
  refine fun_ok (mkE_ok zmix (cl:=[(88,c88)]) (gl:=[]) [] c88_ok trivial) Tryz.func51 (by kernel_rfl) ?_
  refine FunW_run _ _ rfl rfl ?_
  have hlen:=h2
  simp
  refine lp_list xs (fun i t=>t.e 0=.lst ((mkL mkStr cStr k xs).map V.str)∧t.e 1=.int .i64 (k + pre cStr xs i)∧t.e 5=.int .i64 i) ?_ ?_ ?_
  · simp [pre_zero]
  · rintro c' L hL i t x hx hi ih ⟨g0,g1,g5⟩
    have hw:=wrI (i:=i) (by omega)
    have hp:=pre_succ cStr hx
    have hp2:=pre_le cStr xs (i + 1)
    have hc:cStr x=1:=rfl
    have hcnt:(xs.map cStr).sum=cnt cStr xs:=rfl
    have e0:=c88_eq (k + (pre cStr xs i:Nat)) (by omega)
    have w0:IntKind.i64.wrap (k + (pre cStr xs i:Nat) + 1)=k + (pre cStr xs i:Nat) + 1:=wrap64 (by omega) (by omega)
    have hx':=mkL_get mkStr cStr k hx
    simp [-getElem?_pos,gcz,gcs,g0,g1,g5,hL,hx',hi,mkStr,e0,w0]
    refine ih _ ?_
    simp [-getElem?_pos,gcz,gcs,g0,g1,g5,hL,hx',hi,e0,w0,hp,hc,hw] <;> omega
  · rintro c' t ⟨g0,g1,g5⟩
    simp only [pre_all] at g1
    simp [g0,g1,g5,cnt]
noncomputable def c51:=ctrH mkStr cStr V.str (fun xs k=>0≤k∧k + cnt cStr xs≤4611686018427387904∧(xs.length≤4611686018427387904))
theorem c51_eq (xs:List ByteArray) (k:Int) (h0:0≤k) (h1:k + cnt cStr xs≤4611686018427387904) (h2:xs.length≤4611686018427387904):c51 [.lst ((mkL mkStr cStr k xs).map V.str),.int .i64 k]=some (false,.int .i64 (k + cnt cStr xs)):=ctrH_eq cStr_mk str_inj xs k ⟨h0,h1,h2⟩
theorem c51_ok:COK Tryz.prog (51,c51):=ctrH_ok cStr_mk fun xs k h=>f51_ok xs k h.1 h.2.1 h.2.2
theorem f138_ok (xs:List Fld) (k:Int) (h0:0≤k) (h1:k + cnt cFld xs≤4611686018427387904) (h2:xs.length≤4611686018427387904):FunOK Tryz.prog 138 [.lst ((mkL mkFld cFld k xs).map Fld.v),.int .i64 k] false (.int .i64 (k + cnt cFld xs)):=by
  refine fun_ok (mkE_ok zmix (cl:=[(88,c88)]) (gl:=[]) [] c88_ok trivial) Tryz.func138 (by kernel_rfl) ?_
  refine FunW_run _ _ rfl rfl ?_
  have hlen:=h2
  simp
  refine lp_list xs (fun i t=>t.e 0=.lst ((mkL mkFld cFld k xs).map Fld.v)∧t.e 1=.int .i64 (k + pre cFld xs i)∧t.e 5=.int .i64 i) ?_ ?_ ?_
  · simp [pre_zero]
  · rintro c' L hL i t x hx hi ih ⟨g0,g1,g5⟩
    have hw:=wrI (i:=i) (by omega)
    have hp:=pre_succ cFld hx
    have hp2:=pre_le cFld xs (i + 1)
    have hc:cFld x=3:=rfl
    have hcnt:(xs.map cFld).sum=cnt cFld xs:=rfl
    have e0:=c88_eq (k + (pre cFld xs i:Nat)) (by omega)
    have w0:IntKind.i64.wrap (k + (pre cFld xs i:Nat) + 1)=k + (pre cFld xs i:Nat) + 1:=wrap64 (by omega) (by omega)
    have w1:IntKind.i64.wrap (k + (pre cFld xs i:Nat) + 1 + 1)=k + (pre cFld xs i:Nat) + 1 + 1:=wrap64 (by omega) (by omega)
    have w2:IntKind.i64.wrap (k + (pre cFld xs i:Nat) + 1 + 1 + 1)=k + (pre cFld xs i:Nat) + 1 + 1 + 1:=wrap64 (by omega) (by omega)
    have hx':=mkL_get mkFld cFld k hx
    simp [-getElem?_pos,gcz,gcs,g0,g1,g5,hL,hx',hi,mkFld,e0,w0,w1,w2]
    refine ih _ ?_
    simp [-getElem?_pos,gcz,gcs,g0,g1,g5,hL,hx',hi,e0,w0,w1,w2,hp,hc,hw] <;> omega
  · rintro c' t ⟨g0,g1,g5⟩
    simp only [pre_all] at g1
    simp [g0,g1,g5,cnt]
noncomputable def c138:=ctrH mkFld cFld Fld.v (fun xs k=>0≤k∧k + cnt cFld xs≤4611686018427387904∧(xs.length≤4611686018427387904))
theorem c138_eq (xs:List Fld) (k:Int) (h0:0≤k) (h1:k + cnt cFld xs≤4611686018427387904) (h2:xs.length≤4611686018427387904):c138 [.lst ((mkL mkFld cFld k xs).map Fld.v),.int .i64 k]=some (false,.int .i64 (k + cnt cFld xs)):=ctrH_eq cFld_mk Fld.v_inj xs k ⟨h0,h1,h2⟩
theorem c138_ok:COK Tryz.prog (138,c138):=ctrH_ok cFld_mk fun xs k h=>f138_ok xs k h.1 h.2.1 h.2.2
theorem f139_ok (xs:List Par) (k:Int) (h0:0≤k) (h1:k + cnt cPar xs≤4611686018427387904) (h2:xs.length≤4611686018427387904):FunOK Tryz.prog 139 [.lst ((mkL mkPar cPar k xs).map Par.v),.int .i64 k] false (.int .i64 (k + cnt cPar xs)):=by
  refine fun_ok (mkE_ok zmix (cl:=[(88,c88)]) (gl:=[]) [] c88_ok trivial) Tryz.func139 (by kernel_rfl) ?_
  refine FunW_run _ _ rfl rfl ?_
  have hlen:=h2
  simp
  refine lp_list xs (fun i t=>t.e 0=.lst ((mkL mkPar cPar k xs).map Par.v)∧t.e 1=.int .i64 (k + pre cPar xs i)∧t.e 5=.int .i64 i) ?_ ?_ ?_
  · simp [pre_zero]
  · rintro c' L hL i t x hx hi ih ⟨g0,g1,g5⟩
    have hw:=wrI (i:=i) (by omega)
    have hp:=pre_succ cPar hx
    have hp2:=pre_le cPar xs (i + 1)
    have hc:cPar x=3:=rfl
    have hcnt:(xs.map cPar).sum=cnt cPar xs:=rfl
    have e0:=c88_eq (k + (pre cPar xs i:Nat)) (by omega)
    have w0:IntKind.i64.wrap (k + (pre cPar xs i:Nat) + 1)=k + (pre cPar xs i:Nat) + 1:=wrap64 (by omega) (by omega)
    have w1:IntKind.i64.wrap (k + (pre cPar xs i:Nat) + 1 + 1)=k + (pre cPar xs i:Nat) + 1 + 1:=wrap64 (by omega) (by omega)
    have w2:IntKind.i64.wrap (k + (pre cPar xs i:Nat) + 1 + 1 + 1)=k + (pre cPar xs i:Nat) + 1 + 1 + 1:=wrap64 (by omega) (by omega)
    have hx':=mkL_get mkPar cPar k hx
    simp [-getElem?_pos,gcz,gcs,g0,g1,g5,hL,hx',hi,mkPar,e0,w0,w1,w2]
    refine ih _ ?_
    simp [-getElem?_pos,gcz,gcs,g0,g1,g5,hL,hx',hi,e0,w0,w1,w2,hp,hc,hw] <;> omega
  · rintro c' t ⟨g0,g1,g5⟩
    simp only [pre_all] at g1
    simp [g0,g1,g5,cnt]
noncomputable def c139:=ctrH mkPar cPar Par.v (fun xs k=>0≤k∧k + cnt cPar xs≤4611686018427387904∧(xs.length≤4611686018427387904))
theorem c139_eq (xs:List Par) (k:Int) (h0:0≤k) (h1:k + cnt cPar xs≤4611686018427387904) (h2:xs.length≤4611686018427387904):c139 [.lst ((mkL mkPar cPar k xs).map Par.v),.int .i64 k]=some (false,.int .i64 (k + cnt cPar xs)):=ctrH_eq cPar_mk Par.v_inj xs k ⟨h0,h1,h2⟩
theorem c139_ok:COK Tryz.prog (139,c139):=ctrH_ok cPar_mk fun xs k h=>f139_ok xs k h.1 h.2.1 h.2.2
theorem f46_ok (xs:List Use) (k:Int) (h0:0≤k) (h1:k + cnt cUse xs≤4611686018427387904) (h2:xs.length≤4611686018427387904):FunOK Tryz.prog 46 [.lst ((mkL mkUse cUse k xs).map Use.v),.int .i64 k] false (.int .i64 (k + cnt cUse xs)):=by
  refine fun_ok (mkE_ok zmix (cl:=[(88,c88)]) (gl:=[]) [] c88_ok trivial) Tryz.func46 (by kernel_rfl) ?_
  refine FunW_run _ _ rfl rfl ?_
  have hlen:=h2
  simp
  refine lp_list xs (fun i t=>t.e 0=.lst ((mkL mkUse cUse k xs).map Use.v)∧t.e 1=.int .i64 (k + pre cUse xs i)∧t.e 5=.int .i64 i) ?_ ?_ ?_
  · simp [pre_zero]
  · rintro c' L hL i t x hx hi ih ⟨g0,g1,g5⟩
    have hw:=wrI (i:=i) (by omega)
    have hp:=pre_succ cUse hx
    have hp2:=pre_le cUse xs (i + 1)
    have hc:cUse x=2:=rfl
    have hcnt:(xs.map cUse).sum=cnt cUse xs:=rfl
    have e0:=c88_eq (k + (pre cUse xs i:Nat)) (by omega)
    have w0:IntKind.i64.wrap (k + (pre cUse xs i:Nat) + 1)=k + (pre cUse xs i:Nat) + 1:=wrap64 (by omega) (by omega)
    have e1:=c88_eq (k + (pre cUse xs i:Nat) + 1) (by omega)
    have w1:IntKind.i64.wrap (k + (pre cUse xs i:Nat) + 1 + 1)=k + (pre cUse xs i:Nat) + 1 + 1:=wrap64 (by omega) (by omega)
    have hx':=mkL_get mkUse cUse k hx
    simp [-getElem?_pos,gcz,gcs,g0,g1,g5,hL,hx',hi,mkUse,e0,w0,e1,w1]
    refine ih _ ?_
    simp [-getElem?_pos,gcz,gcs,g0,g1,g5,hL,hx',hi,e0,w0,e1,w1,hp,hc,hw] <;> omega
  · rintro c' t ⟨g0,g1,g5⟩
    simp only [pre_all] at g1
    simp [g0,g1,g5,cnt]
noncomputable def c46:=ctrH mkUse cUse Use.v (fun xs k=>0≤k∧k + cnt cUse xs≤4611686018427387904∧(xs.length≤4611686018427387904))
theorem c46_eq (xs:List Use) (k:Int) (h0:0≤k) (h1:k + cnt cUse xs≤4611686018427387904) (h2:xs.length≤4611686018427387904):c46 [.lst ((mkL mkUse cUse k xs).map Use.v),.int .i64 k]=some (false,.int .i64 (k + cnt cUse xs)):=ctrH_eq cUse_mk Use.v_inj xs k ⟨h0,h1,h2⟩
theorem c46_ok:COK Tryz.prog (46,c46):=ctrH_ok cUse_mk fun xs k h=>f46_ok xs k h.1 h.2.1 h.2.2
theorem f72_ok (xs:List Ty) (k:Int) (h0:0≤k) (h1:k + cnt cTy xs≤4611686018427387904) (h2:xs.length≤4611686018427387904∧∀ x ∈ xs,x.fields.length≤4611686018427387904):FunOK Tryz.prog 72 [.lst ((mkL mkTy cTy k xs).map Ty.v),.int .i64 k] false (.int .i64 (k + cnt cTy xs)):=by
  refine fun_ok (mkE_ok zmix (cl:=[(88,c88),(138,c138)]) (gl:=[]) [] ⟨c88_ok,c138_ok⟩ trivial) Tryz.func72 (by kernel_rfl) ?_
  refine FunW_run _ _ rfl rfl ?_
  have hlen:=h2.1
  simp
  refine lp_list xs (fun i t=>t.e 0=.lst ((mkL mkTy cTy k xs).map Ty.v)∧t.e 1=.int .i64 (k + pre cTy xs i)∧t.e 5=.int .i64 i) ?_ ?_ ?_
  · simp [pre_zero]
  · rintro c' L hL i t x hx hi ih ⟨g0,g1,g5⟩
    have hw:=wrI (i:=i) (by omega)
    have hp:=pre_succ cTy hx
    have hp2:=pre_le cTy xs (i + 1)
    have hc:cTy x=5+cnt cFld x.fields:=rfl
    have hcnt:(xs.map cTy).sum=cnt cTy xs:=rfl
    have hlen3:x.fields.length≤4611686018427387904:=h2.2 x (List.mem_of_getElem? hx)
    have w0:IntKind.i64.wrap (k + (pre cTy xs i:Nat) + 1)=k + (pre cTy xs i:Nat) + 1:=wrap64 (by omega) (by omega)
    have w1:IntKind.i64.wrap (k + (pre cTy xs i:Nat) + 1 + 1)=k + (pre cTy xs i:Nat) + 1 + 1:=wrap64 (by omega) (by omega)
    have w2:IntKind.i64.wrap (k + (pre cTy xs i:Nat) + 1 + 1 + 1)=k + (pre cTy xs i:Nat) + 1 + 1 + 1:=wrap64 (by omega) (by omega)
    have e3:=c138_eq x.fields (k + (pre cTy xs i:Nat) + 1 + 1 + 1) (by omega) (by omega) hlen3
    have n3:¬ k + (pre cTy xs i:Nat) + 1 + 1 + 1 + (cnt cFld x.fields:Nat) < 0:=by omega
    have e4:=c88_eq (k + (pre cTy xs i:Nat) + 1 + 1 + 1 + (cnt cFld x.fields:Nat)) (by omega)
    have w4:IntKind.i64.wrap (k + (pre cTy xs i:Nat) + 1 + 1 + 1 + (cnt cFld x.fields:Nat) + 1)=k + (pre cTy xs i:Nat) + 1 + 1 + 1 + (cnt cFld x.fields:Nat) + 1:=wrap64 (by omega) (by omega)
    have e5:=c88_eq (k + (pre cTy xs i:Nat) + 1 + 1 + 1 + (cnt cFld x.fields:Nat) + 1) (by omega)
    have w5:IntKind.i64.wrap (k + (pre cTy xs i:Nat) + 1 + 1 + 1 + (cnt cFld x.fields:Nat) + 1 + 1)=k + (pre cTy xs i:Nat) + 1 + 1 + 1 + (cnt cFld x.fields:Nat) + 1 + 1:=wrap64 (by omega) (by omega)
    have hx':=mkL_get mkTy cTy k hx
    simp [-getElem?_pos,gcz,gcs,g0,g1,g5,hL,hx',hi,mkTy,w0,w1,w2,e3,n3,e4,w4,e5,w5]
    refine ih _ ?_
    simp [-getElem?_pos,gcz,gcs,g0,g1,g5,hL,hx',hi,w0,w1,w2,e3,n3,e4,w4,e5,w5,hp,hc,hw] <;> omega
  · rintro c' t ⟨g0,g1,g5⟩
    simp only [pre_all] at g1
    simp [g0,g1,g5,cnt]
noncomputable def c72:=ctrH mkTy cTy Ty.v (fun xs k=>0≤k∧k + cnt cTy xs≤4611686018427387904∧(xs.length≤4611686018427387904∧∀ x ∈ xs,x.fields.length≤4611686018427387904))
theorem c72_eq (xs:List Ty) (k:Int) (h0:0≤k) (h1:k + cnt cTy xs≤4611686018427387904) (h2:xs.length≤4611686018427387904∧∀ x ∈ xs,x.fields.length≤4611686018427387904):c72 [.lst ((mkL mkTy cTy k xs).map Ty.v),.int .i64 k]=some (false,.int .i64 (k + cnt cTy xs)):=ctrH_eq cTy_mk Ty.v_inj xs k ⟨h0,h1,h2⟩
theorem c72_ok:COK Tryz.prog (72,c72):=ctrH_ok cTy_mk fun xs k h=>f72_ok xs k h.1 h.2.1 h.2.2
theorem f73_ok (xs:List Obj) (k:Int) (h0:0≤k) (h1:k + cnt cObj xs≤4611686018427387904) (h2:xs.length≤4611686018427387904∧∀ x ∈ xs,x.params.length≤4611686018427387904):FunOK Tryz.prog 73 [.lst ((mkL mkObj cObj k xs).map Obj.v),.int .i64 k] false (.int .i64 (k + cnt cObj xs)):=by
  refine fun_ok (mkE_ok zmix (cl:=[(88,c88),(139,c139)]) (gl:=[]) [] ⟨c88_ok,c139_ok⟩ trivial) Tryz.func73 (by kernel_rfl) ?_
  refine FunW_run _ _ rfl rfl ?_
  have hlen:=h2.1
  simp
  refine lp_list xs (fun i t=>t.e 0=.lst ((mkL mkObj cObj k xs).map Obj.v)∧t.e 1=.int .i64 (k + pre cObj xs i)∧t.e 5=.int .i64 i) ?_ ?_ ?_
  · simp [pre_zero]
  · rintro c' L hL i t x hx hi ih ⟨g0,g1,g5⟩
    have hw:=wrI (i:=i) (by omega)
    have hp:=pre_succ cObj hx
    have hp2:=pre_le cObj xs (i + 1)
    have hc:cObj x=5+cnt cPar x.params:=rfl
    have hcnt:(xs.map cObj).sum=cnt cObj xs:=rfl
    have hlen5:x.params.length≤4611686018427387904:=h2.2 x (List.mem_of_getElem? hx)
    have e0:=c88_eq (k + (pre cObj xs i:Nat)) (by omega)
    have w0:IntKind.i64.wrap (k + (pre cObj xs i:Nat) + 1)=k + (pre cObj xs i:Nat) + 1:=wrap64 (by omega) (by omega)
    have w1:IntKind.i64.wrap (k + (pre cObj xs i:Nat) + 1 + 1)=k + (pre cObj xs i:Nat) + 1 + 1:=wrap64 (by omega) (by omega)
    have w2:IntKind.i64.wrap (k + (pre cObj xs i:Nat) + 1 + 1 + 1)=k + (pre cObj xs i:Nat) + 1 + 1 + 1:=wrap64 (by omega) (by omega)
    have w3:IntKind.i64.wrap (k + (pre cObj xs i:Nat) + 1 + 1 + 1 + 1)=k + (pre cObj xs i:Nat) + 1 + 1 + 1 + 1:=wrap64 (by omega) (by omega)
    have w4:IntKind.i64.wrap (k + (pre cObj xs i:Nat) + 1 + 1 + 1 + 1 + 1)=k + (pre cObj xs i:Nat) + 1 + 1 + 1 + 1 + 1:=wrap64 (by omega) (by omega)
    have e5:=c139_eq x.params (k + (pre cObj xs i:Nat) + 1 + 1 + 1 + 1 + 1) (by omega) (by omega) hlen5
    have n5:¬ k + (pre cObj xs i:Nat) + 1 + 1 + 1 + 1 + 1 + (cnt cPar x.params:Nat) < 0:=by omega
    have hx':=mkL_get mkObj cObj k hx
    simp [-getElem?_pos,gcz,gcs,g0,g1,g5,hL,hx',hi,mkObj,e0,w0,w1,w2,w3,w4,e5,n5]
    refine ih _ ?_
    simp [-getElem?_pos,gcz,gcs,g0,g1,g5,hL,hx',hi,e0,w0,w1,w2,w3,w4,e5,n5,hp,hc,hw] <;> omega
  · rintro c' t ⟨g0,g1,g5⟩
    simp only [pre_all] at g1
    simp [g0,g1,g5,cnt]
noncomputable def c73:=ctrH mkObj cObj Obj.v (fun xs k=>0≤k∧k + cnt cObj xs≤4611686018427387904∧(xs.length≤4611686018427387904∧∀ x ∈ xs,x.params.length≤4611686018427387904))
theorem c73_eq (xs:List Obj) (k:Int) (h0:0≤k) (h1:k + cnt cObj xs≤4611686018427387904) (h2:xs.length≤4611686018427387904∧∀ x ∈ xs,x.params.length≤4611686018427387904):c73 [.lst ((mkL mkObj cObj k xs).map Obj.v),.int .i64 k]=some (false,.int .i64 (k + cnt cObj xs)):=ctrH_eq cObj_mk Obj.v_inj xs k ⟨h0,h1,h2⟩
theorem c73_ok:COK Tryz.prog (73,c73):=ctrH_ok cObj_mk fun xs k h=>f73_ok xs k h.1 h.2.1 h.2.2
end Go.TM.Tryz
end
section
set_option maxHeartbeats 2000000
namespace Go.TM.Tryz
open Go Go.TM Go.Proofs
theorem f49_ok (xs:List ByteArray) (hlim:limL strLim xs):FunOK Tryz.prog 49 [.lst (xs.map V.str),.lst (xs.map V.str)] false (.bool true):=by
  refine fun_ok (mkE_ok zmix (cl:=[]) (gl:=[]) [] trivial trivial) Tryz.func49 (by kernel_rfl) ?_
  refine FunW_run _ _ rfl rfl ?_
  have hlen:=hlim.1
  simp only [lim] at hlen
  simp
  refine lp_list xs (fun i t=>t.e 0=.lst (xs.map V.str)∧t.e 1=.lst (xs.map V.str)∧t.e 5=.int .i64 i) ?_ ?_ ?_
  · simp
  · rintro c' L hL i t x hx hi ih ⟨g0,g1,g5⟩
    have hw:=wrI (i:=i) (by omega)
    simp [-getElem?_pos,gcz,gcs,g0,g1,g5,hL,hx,hi]
    refine ih _ ?_
    simp [-getElem?_pos,gcz,gcs,g0,g1,g5,hL,hx,hi,hw]
  · rintro c' t ⟨g0,g1,g5⟩
    simp [g0,g1,g5]
noncomputable def c49:=ctr (fun xs:List ByteArray=>limL strLim xs) (fun xs=>[.lst (xs.map V.str),.lst (xs.map V.str)]) (fun _=>(false,.bool true))
theorem c49_eq (xs:List ByteArray) (h:limL strLim xs):c49 [.lst (xs.map V.str),.lst (xs.map V.str)]=some (false,.bool true):=ctr_eq (fun _ _ _=>rfl) xs h rfl
theorem c49_ok:COK Tryz.prog (49,c49):=ctr_ok fun xs h=>f49_ok xs h
theorem f228_ok (x:Fld) (h:x.lim):FunOK Tryz.prog 228 [x.v,x.v] false (.bool true):=by
  refine fun_ok (mkE_ok zmix (cl:=[]) (gl:=[]) [] trivial trivial) Tryz.func228 (by kernel_rfl) ?_
  refine FunW_run _ _ rfl rfl ?_
  simp []
noncomputable def c228:=ctr (fun x:Fld=>x.lim) (fun x=>[x.v,x.v]) (fun _=>(false,.bool true))
theorem c228_eq (x:Fld) (h:x.lim):c228 [x.v,x.v]=some (false,.bool true):=ctr_eq (fun _ _ _=>rfl) x h rfl
theorem c228_ok:COK Tryz.prog (228,c228):=ctr_ok fun x h=>f228_ok x h
theorem f185_ok (xs:List Fld) (hlim:limL Fld.lim xs):FunOK Tryz.prog 185 [.lst (xs.map Fld.v),.lst (xs.map Fld.v)] false (.bool true):=by
  refine fun_ok (mkE_ok zmix (cl:=[(228,c228)]) (gl:=[]) [] c228_ok trivial) Tryz.func185 (by kernel_rfl) ?_
  refine FunW_run _ _ rfl rfl ?_
  have hlen:=hlim.1
  simp only [lim] at hlen
  simp
  refine lp_list xs (fun i t=>t.e 0=.lst (xs.map Fld.v)∧t.e 1=.lst (xs.map Fld.v)∧t.e 5=.int .i64 i) ?_ ?_ ?_
  · simp
  · rintro c' L hL i t x hx hi ih ⟨g0,g1,g5⟩
    have hw:=wrI (i:=i) (by omega)
    have e:=c228_eq x (hlim.2 x (List.mem_of_getElem? hx))
    simp only [Fld.v] at e
    simp [-getElem?_pos,gcz,gcs,g0,g1,g5,hL,hx,hi,e]
    refine ih _ ?_
    simp [-getElem?_pos,gcz,gcs,g0,g1,g5,hL,hx,hi,hw]
  · rintro c' t ⟨g0,g1,g5⟩
    simp [g0,g1,g5]
noncomputable def c185:=ctr (fun xs:List Fld=>limL Fld.lim xs) (fun xs=>[.lst (xs.map Fld.v),.lst (xs.map Fld.v)]) (fun _=>(false,.bool true))
theorem c185_eq (xs:List Fld) (h:limL Fld.lim xs):c185 [.lst (xs.map Fld.v),.lst (xs.map Fld.v)]=some (false,.bool true):=ctr_eq (fun _ _ _=>rfl) xs h rfl
theorem c185_ok:COK Tryz.prog (185,c185):=ctr_ok fun xs h=>f185_ok xs h
theorem f229_ok (x:Par) (h:x.lim):FunOK Tryz.prog 229 [x.v,x.v] false (.bool true):=by
  refine fun_ok (mkE_ok zmix (cl:=[]) (gl:=[]) [] trivial trivial) Tryz.func229 (by kernel_rfl) ?_
  refine FunW_run _ _ rfl rfl ?_
  simp []
noncomputable def c229:=ctr (fun x:Par=>x.lim) (fun x=>[x.v,x.v]) (fun _=>(false,.bool true))
theorem c229_eq (x:Par) (h:x.lim):c229 [x.v,x.v]=some (false,.bool true):=ctr_eq (fun _ _ _=>rfl) x h rfl
theorem c229_ok:COK Tryz.prog (229,c229):=ctr_ok fun x h=>f229_ok x h
theorem f186_ok (xs:List Par) (hlim:limL Par.lim xs):FunOK Tryz.prog 186 [.lst (xs.map Par.v),.lst (xs.map Par.v)] false (.bool true):=by
  refine fun_ok (mkE_ok zmix (cl:=[(229,c229)]) (gl:=[]) [] c229_ok trivial) Tryz.func186 (by kernel_rfl) ?_
  refine FunW_run _ _ rfl rfl ?_
  have hlen:=hlim.1
  simp only [lim] at hlen
  simp
  refine lp_list xs (fun i t=>t.e 0=.lst (xs.map Par.v)∧t.e 1=.lst (xs.map Par.v)∧t.e 5=.int .i64 i) ?_ ?_ ?_
  · simp
  · rintro c' L hL i t x hx hi ih ⟨g0,g1,g5⟩
    have hw:=wrI (i:=i) (by omega)
    have e:=c229_eq x (hlim.2 x (List.mem_of_getElem? hx))
    simp only [Par.v] at e
    simp [-getElem?_pos,gcz,gcs,g0,g1,g5,hL,hx,hi,e]
    refine ih _ ?_
    simp [-getElem?_pos,gcz,gcs,g0,g1,g5,hL,hx,hi,hw]
  · rintro c' t ⟨g0,g1,g5⟩
    simp [g0,g1,g5]
noncomputable def c186:=ctr (fun xs:List Par=>limL Par.lim xs) (fun xs=>[.lst (xs.map Par.v),.lst (xs.map Par.v)]) (fun _=>(false,.bool true))
theorem c186_eq (xs:List Par) (h:limL Par.lim xs):c186 [.lst (xs.map Par.v),.lst (xs.map Par.v)]=some (false,.bool true):=ctr_eq (fun _ _ _=>rfl) xs h rfl
theorem c186_ok:COK Tryz.prog (186,c186):=ctr_ok fun xs h=>f186_ok xs h
theorem f104_ok (x:Use) (h:x.lim):FunOK Tryz.prog 104 [x.v,x.v] false (.bool true):=by
  refine fun_ok (mkE_ok zmix (cl:=[]) (gl:=[]) [] trivial trivial) Tryz.func104 (by kernel_rfl) ?_
  refine FunW_run _ _ rfl rfl ?_
  simp []
noncomputable def c104:=ctr (fun x:Use=>x.lim) (fun x=>[x.v,x.v]) (fun _=>(false,.bool true))
theorem c104_eq (x:Use) (h:x.lim):c104 [x.v,x.v]=some (false,.bool true):=ctr_eq (fun _ _ _=>rfl) x h rfl
theorem c104_ok:COK Tryz.prog (104,c104):=ctr_ok fun x h=>f104_ok x h
theorem f44_ok (xs:List Use) (hlim:limL Use.lim xs):FunOK Tryz.prog 44 [.lst (xs.map Use.v),.lst (xs.map Use.v)] false (.bool true):=by
  refine fun_ok (mkE_ok zmix (cl:=[(104,c104)]) (gl:=[]) [] c104_ok trivial) Tryz.func44 (by kernel_rfl) ?_
  refine FunW_run _ _ rfl rfl ?_
  have hlen:=hlim.1
  simp only [lim] at hlen
  simp
  refine lp_list xs (fun i t=>t.e 0=.lst (xs.map Use.v)∧t.e 1=.lst (xs.map Use.v)∧t.e 5=.int .i64 i) ?_ ?_ ?_
  · simp
  · rintro c' L hL i t x hx hi ih ⟨g0,g1,g5⟩
    have hw:=wrI (i:=i) (by omega)
    have e:=c104_eq x (hlim.2 x (List.mem_of_getElem? hx))
    simp only [Use.v] at e
    simp [-getElem?_pos,gcz,gcs,g0,g1,g5,hL,hx,hi,e]
    refine ih _ ?_
    simp [-getElem?_pos,gcz,gcs,g0,g1,g5,hL,hx,hi,hw]
  · rintro c' t ⟨g0,g1,g5⟩
    simp [g0,g1,g5]
noncomputable def c44:=ctr (fun xs:List Use=>limL Use.lim xs) (fun xs=>[.lst (xs.map Use.v),.lst (xs.map Use.v)]) (fun _=>(false,.bool true))
theorem c44_eq (xs:List Use) (h:limL Use.lim xs):c44 [.lst (xs.map Use.v),.lst (xs.map Use.v)]=some (false,.bool true):=ctr_eq (fun _ _ _=>rfl) xs h rfl
theorem c44_ok:COK Tryz.prog (44,c44):=ctr_ok fun xs h=>f44_ok xs h
theorem f134_ok (x:Ty) (h:x.lim):FunOK Tryz.prog 134 [x.v,x.v] false (.bool true):=by
  refine fun_ok (mkE_ok zmix (cl:=[(185,c185)]) (gl:=[]) [] c185_ok trivial) Tryz.func134 (by kernel_rfl) ?_
  refine FunW_run _ _ rfl rfl ?_
  simp only [Ty.lim] at h
  obtain ⟨l0,l1,l2⟩:=h
  have e0:=c185_eq x.fields l0
  simp [e0]
noncomputable def c134:=ctr (fun x:Ty=>x.lim) (fun x=>[x.v,x.v]) (fun _=>(false,.bool true))
theorem c134_eq (x:Ty) (h:x.lim):c134 [x.v,x.v]=some (false,.bool true):=ctr_eq (fun _ _ _=>rfl) x h rfl
theorem c134_ok:COK Tryz.prog (134,c134):=ctr_ok fun x h=>f134_ok x h
theorem f68_ok (xs:List Ty) (hlim:limL Ty.lim xs):FunOK Tryz.prog 68 [.lst (xs.map Ty.v),.lst (xs.map Ty.v)] false (.bool true):=by
  refine fun_ok (mkE_ok zmix (cl:=[(134,c134)]) (gl:=[]) [] c134_ok trivial) Tryz.func68 (by kernel_rfl) ?_
  refine FunW_run _ _ rfl rfl ?_
  have hlen:=hlim.1
  simp only [lim] at hlen
  simp
  refine lp_list xs (fun i t=>t.e 0=.lst (xs.map Ty.v)∧t.e 1=.lst (xs.map Ty.v)∧t.e 5=.int .i64 i) ?_ ?_ ?_
  · simp
  · rintro c' L hL i t x hx hi ih ⟨g0,g1,g5⟩
    have hw:=wrI (i:=i) (by omega)
    have e:=c134_eq x (hlim.2 x (List.mem_of_getElem? hx))
    simp only [Ty.v] at e
    simp [-getElem?_pos,gcz,gcs,g0,g1,g5,hL,hx,hi,e]
    refine ih _ ?_
    simp [-getElem?_pos,gcz,gcs,g0,g1,g5,hL,hx,hi,hw]
  · rintro c' t ⟨g0,g1,g5⟩
    simp [g0,g1,g5]
noncomputable def c68:=ctr (fun xs:List Ty=>limL Ty.lim xs) (fun xs=>[.lst (xs.map Ty.v),.lst (xs.map Ty.v)]) (fun _=>(false,.bool true))
theorem c68_eq (xs:List Ty) (h:limL Ty.lim xs):c68 [.lst (xs.map Ty.v),.lst (xs.map Ty.v)]=some (false,.bool true):=ctr_eq (fun _ _ _=>rfl) xs h rfl
theorem c68_ok:COK Tryz.prog (68,c68):=ctr_ok fun xs h=>f68_ok xs h
theorem f135_ok (x:Obj) (h:x.lim):FunOK Tryz.prog 135 [x.v,x.v] false (.bool true):=by
  refine fun_ok (mkE_ok zmix (cl:=[(186,c186)]) (gl:=[]) [] c186_ok trivial) Tryz.func135 (by kernel_rfl) ?_
  refine FunW_run _ _ rfl rfl ?_
  simp only [Obj.lim] at h
  obtain ⟨l0,l1⟩:=h
  have e1:=c186_eq x.params l1
  simp [e1]
noncomputable def c135:=ctr (fun x:Obj=>x.lim) (fun x=>[x.v,x.v]) (fun _=>(false,.bool true))
theorem c135_eq (x:Obj) (h:x.lim):c135 [x.v,x.v]=some (false,.bool true):=ctr_eq (fun _ _ _=>rfl) x h rfl
theorem c135_ok:COK Tryz.prog (135,c135):=ctr_ok fun x h=>f135_ok x h
theorem f69_ok (xs:List Obj) (hlim:limL Obj.lim xs):FunOK Tryz.prog 69 [.lst (xs.map Obj.v),.lst (xs.map Obj.v)] false (.bool true):=by
  refine fun_ok (mkE_ok zmix (cl:=[(135,c135)]) (gl:=[]) [] c135_ok trivial) Tryz.func69 (by kernel_rfl) ?_
  refine FunW_run _ _ rfl rfl ?_
  have hlen:=hlim.1
  simp only [lim] at hlen
  simp
  refine lp_list xs (fun i t=>t.e 0=.lst (xs.map Obj.v)∧t.e 1=.lst (xs.map Obj.v)∧t.e 5=.int .i64 i) ?_ ?_ ?_
  · simp
  · rintro c' L hL i t x hx hi ih ⟨g0,g1,g5⟩
    have hw:=wrI (i:=i) (by omega)
    have e:=c135_eq x (hlim.2 x (List.mem_of_getElem? hx))
    simp only [Obj.v] at e
    simp [-getElem?_pos,gcz,gcs,g0,g1,g5,hL,hx,hi,e]
    refine ih _ ?_
    simp [-getElem?_pos,gcz,gcs,g0,g1,g5,hL,hx,hi,hw]
  · rintro c' t ⟨g0,g1,g5⟩
    simp [g0,g1,g5]
noncomputable def c69:=ctr (fun xs:List Obj=>limL Obj.lim xs) (fun xs=>[.lst (xs.map Obj.v),.lst (xs.map Obj.v)]) (fun _=>(false,.bool true))
theorem c69_eq (xs:List Obj) (h:limL Obj.lim xs):c69 [.lst (xs.map Obj.v),.lst (xs.map Obj.v)]=some (false,.bool true):=ctr_eq (fun _ _ _=>rfl) xs h rfl
theorem c69_ok:COK Tryz.prog (69,c69):=ctr_ok fun xs h=>f69_ok xs h
theorem f16_ok (x:Scp) (h:x.lim):FunOK Tryz.prog 16 [x.v,x.v] false (.bool true):=by
  refine fun_ok (mkE_ok zmix (cl:=[(44,c44),(49,c49),(68,c68),(69,c69)]) (gl:=[]) [] ⟨c44_ok,c49_ok,c68_ok,c69_ok⟩ trivial) Tryz.func16 (by kernel_rfl) ?_
  refine FunW_run _ _ rfl rfl ?_
  simp only [Scp.lim] at h
  obtain ⟨l0,l1,l2,l3,l4⟩:=h
  have e1:=c49_eq x.imports l1
  have e2:=c68_eq x.types l2
  have e3:=c69_eq x.objects l3
  have e4:=c44_eq x.uses l4
  simp [e1,e2,e3,e4]
noncomputable def c16:=ctr (fun x:Scp=>x.lim) (fun x=>[x.v,x.v]) (fun _=>(false,.bool true))
theorem c16_eq (x:Scp) (h:x.lim):c16 [x.v,x.v]=some (false,.bool true):=ctr_eq (fun _ _ _=>rfl) x h rfl
theorem c16_ok:COK Tryz.prog (16,c16):=ctr_ok fun x h=>f16_ok x h
end Go.TM.Tryz
end
section
namespace Go.TM
theorem cnt_max {α:Type} {c:α→Nat} {m:Nat} {xs:List α} (h:∀ x ∈ xs,c x≤m):cnt c xs≤m * xs.length:=by
  induction xs with
  | nil=>simp [cnt]
  | cons x xs ih =>
    have h1:=h x (by simp)
    have h2:=ih fun y hy=>h y (by simp [hy])
    simp only [cnt,List.map_cons,List.sum_cons,List.length_cons] at *
    rw [Nat.mul_succ]
    omega
theorem cnt_le {α:Type} {c f:α→Nat} (h:∀ x,c x≤8 + 8 * f x) (xs:List α):cnt c xs≤8 * szL f xs:=by
  induction xs with
  | nil=>simp [cnt,szL]
  | cons x xs ih =>
    have:=h x
    simp only [cnt,szL,List.map_cons,List.sum_cons,List.length_cons] at *
    omega
theorem cTy_le (x:Ty):cTy x≤8 + 8 * x.sz:=by
  have:=cnt_le (c:=cFld) (f:=Fld.sz) (fun y=>by simp [cFld];omega) x.fields
  simp only [cTy,Ty.sz]
  omega
theorem cObj_le (x:Obj):cObj x≤8 + 8 * x.sz:=by
  have:=cnt_le (c:=cPar) (f:=Par.sz) (fun y=>by simp [cPar];omega) x.params
  simp only [cObj,Obj.sz]
  omega
theorem Scp.lens {x:Scp} (h:x.sz≤1048576):x.imports.length≤1048576∧(x.types.length≤1048576∧∀ y ∈ x.types,y.fields.length≤1048576)∧(x.objects.length≤1048576∧∀ y ∈ x.objects,y.params.length≤1048576)∧x.uses.length≤1048576:=by
  have h1:=szL_len ByteArray.size x.imports
  have h2:=szL_len Ty.sz x.types
  have h3:=szL_len Obj.sz x.objects
  have h4:=szL_len Use.sz x.uses
  simp only [Scp.sz] at h
  refine ⟨by omega,⟨by omega,fun y hy=>?_⟩,⟨by omega,fun y hy=>?_⟩,by omega⟩
  · have a:=szL_mem (f:=Ty.sz) hy
    have b:=szL_len Fld.sz y.fields
    simp only [Ty.sz] at a
    omega
  · have a:=szL_mem (f:=Obj.sz) hy
    have b:=szL_len Par.sz y.params
    simp only [Obj.sz] at a
    omega
end Go.TM
end
section
set_option maxHeartbeats 8000000
set_option maxRecDepth 20000
namespace Go.TM.Tryz
open Go Go.TM Go.Proofs
structure ExLen (x:Scp):Prop where
  im:x.imports=[]
  us:x.uses=[]
  ty:x.types.length≤24
  fl:∀ t ∈ x.types,t.fields.length≤6
  ob:x.objects.length≤16
  pa:∀ o ∈ x.objects,o.params.length≤4
end Go.TM.Tryz
end
