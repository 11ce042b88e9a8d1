/- A part of the proof: WI. -/
import Derived.Test.YtknondpcbpgpoaaGreatK26
set_option linter.unusedVariables false
set_option linter.unusedSimpArgs false
section
set_option maxHeartbeats 16000000
set_option maxRecDepth 20000
namespace Go.TM.Tryz
open Go Go.TM Go.Proofs
def os1:ByteArray:=⟨#[79,83,49]⟩
def numbO (b:ByteArray):(ByteArray × List Ty × List Obj) × ORd :=
  let n:=nameO b false ⟨3,-1⟩
  let c:=numO b 0 21 n.2
  let ts:=manyO (tyO b) c.1.toNat c.2
  let d:=numO b 0 16 ts.2
  let os:=manyO (obO b) d.1.toNat d.2
  ((n.1,ts.1,os.1),os.2)
noncomputable def readI (b:ByteArray):Scp × Int × Int :=
  if 3000 < b.size then (noS,1,0) else if preB b os1=false then (noS,2,0) else
  if 0≤(numbO b).2.bad then (noS,3,(numbO b).2.bad) else if ¬ b.size=(numbO b).2.at_ + 2 then (noS,4,(numbO b).2.at_)
  else if ¬ sumB (b.extract 0 (numbO b).2.at_)=b.extract (numbO b).2.at_ b.size then (noS,5,(numbO b).2.at_)
  else if isB ⟨(numbO b).1.1,[],baseTys ++ (numbO b).1.2.1,(numbO b).1.2.2,[]⟩=false then (noS,6,0)
  else (⟨(numbO b).1.1,[],baseTys ++ (numbO b).1.2.1,(numbO b).1.2.2,[]⟩,0,0)
theorem ext_lim {b:ByteArray} (h:b.size≤lim) (x y:Nat):(b.extract x y).size≤lim:=by
  rw [ByteArray.size_extract]
  omega
theorem nameO_lim {b:ByteArray} {mb:Bool} {s:ORd} (h:b.size≤lim):(nameO b mb s).1.size≤lim:=by
  have h0:(⟨#[]⟩:ByteArray).size≤lim:=by simp [lim,ba_nil_size]
  unfold nameO
  split
  · exact h0
  · split
    · exact h0
    · split
      · exact h0
      · unfold rnmF
        split
        · exact h0
        · split
          · exact h0
          · exact ext_lim h _ _
theorem manyO_len {α:Type} {g:ORd→α × ORd}:∀ (k:Nat) (s:ORd),(manyO g k s).1.length=k
  | 0,s=>rfl
  | k + 1,s=>by simp [manyO,manyO_len (g:=g) k]
theorem manyO_all {α:Type} {g:ORd→α × ORd} {p:α→Prop} (h:∀ s,p (g s).1):∀ (k:Nat) (s:ORd),∀ x ∈ (manyO g k s).1,p x
  | 0,s=>by simp [manyO]
  | k + 1,s=>by
    intro x hx
    simp only [manyO,List.mem_cons] at hx
    rcases hx with rfl | hx
    · exact h s
    · exact manyO_all h k _ x hx
theorem manyO_lim {α:Type} {g:ORd→α × ORd} {p:α→Prop} (h:∀ s,p (g s).1) (k:Nat) (hk:k≤lim) (s:ORd):limL p (manyO g k s).1:=⟨by rw [manyO_len];exact hk,manyO_all h k s⟩
theorem numO_toNat {b:ByteArray} {hi:Int} {s:ORd} (h:0≤hi) (h2:hi≤1000):(numO b 0 hi s).1.toNat≤lim:=by
  have:=numO_in (b:=b) (s:=s) (lo:=0) (hi:=hi) (by omega) h
  simp only [lim]
  omega
theorem tyO_lim {b:ByteArray} (h:b.size≤lim) (s:ORd):(tyO b s).1.lim :=
  ⟨manyO_lim (fun _=>nameO_lim h) _ (numO_toNat (by omega) (by omega)) _,nameO_lim h,nameO_lim h⟩
theorem obO_lim {b:ByteArray} (h:b.size≤lim) (s:ORd):(obO b s).1.lim :=
  ⟨nameO_lim h,manyO_lim (fun _=>nameO_lim h) _ (numO_toNat (by omega) (by omega)) _⟩
def numbS (b:ByteArray):Scp:=⟨(numbO b).1.1,[],baseTys ++ (numbO b).1.2.1,(numbO b).1.2.2,[]⟩
theorem numbS_lim {b:ByteArray} (h:b.size≤lim):(numbS b).lim:=by
  refine ⟨nameO_lim h,⟨by simp [numbS,lim],by simp [numbS]⟩,⟨?_,?_⟩,?_,⟨by simp [numbS,lim],by simp [numbS]⟩⟩
  · have h1:=numO_in (b:=b) (s:=(nameO b false ⟨3,-1⟩).2) (lo:=0) (hi:=21) (by omega) (by omega)
    have h2:(numbO b).1.2.1.length=(numO b 0 21 (nameO b false ⟨3,-1⟩).2).1.toNat:=manyO_len _ _
    have h3:baseTys.length=3:=rfl
    simp only [numbS,List.length_append,lim,h2,h3]
    omega
  · intro t ht
    simp only [numbS,List.mem_append] at ht
    rcases ht with ht | ht
    · exact baseTys_lim.2 t ht
    · exact manyO_all (tyO_lim h) _ _ t ht
  · exact manyO_lim (obO_lim h) _ (numO_toNat (by omega) (by omega)) _
theorem nkA (n:Nat):(n=n + 1)=False:=by simp
theorem nkB (n:Nat):(n=n + 1 + 1)=False:=by simp;omega
theorem nkC (n:Nat):(n=n + 1 + 1 + 1)=False:=by simp;omega
theorem nkD (n:Nat):(n + 1=n)=False:=by simp
theorem nkE (n:Nat):(n + 1 + 1=n)=False:=by simp;omega
theorem nkF (n:Nat):(n + 1 + 1 + 1=n)=False:=by simp;omega
def treeAp:TT:=.two false 0 (.two false 1 (.one false 3 (.one false 4 (.one false 5 (.one false 6 (.one false 7 .done))))) false 3 (.two false 1 (.one false 4 (.one false 5 (.one false 6 (.one false 7 .done)))) false 4 (.one false 1 (.one false 5 (.one false 6 (.one false 7 .done)))))) false 3 (.two false 0 (.two false 1 (.one false 4 (.one false 5 (.one false 6 (.one false 7 .done)))) false 4 (.one false 1 (.one false 5 (.one false 6 (.one false 7 .done))))) false 4 (.one false 0 (.one false 1 (.one false 5 (.one false 6 (.one false 7 .done))))))
def treeRt:TT:=.two false 0 (.two false 2 (.two false 3 (.two false 4 (.one false 5 (.one false 6 (.one false 7 .done))) false 5 (.two false 4 (.one false 6 (.one false 7 .done)) false 6 (.one false 4 (.one false 7 .done)))) false 5 (.two false 3 (.two false 4 (.one false 6 (.one false 7 .done)) false 6 (.one false 4 (.one false 7 .done))) false 6 (.one false 3 (.one false 4 (.one false 7 .done))))) false 5 (.two false 2 (.two false 3 (.two false 4 (.one false 6 (.one false 7 .done)) false 6 (.one false 4 (.one false 7 .done))) false 6 (.one false 3 (.one false 4 (.one false 7 .done)))) false 6 (.one false 2 (.one false 3 (.one false 4 (.one false 7 .done)))))) false 2 (.two false 0 (.two false 3 (.two false 4 (.one false 5 (.one false 6 (.one false 7 .done))) false 5 (.two false 4 (.one false 6 (.one false 7 .done)) false 6 (.one false 4 (.one false 7 .done)))) false 5 (.two false 3 (.two false 4 (.one false 6 (.one false 7 .done)) false 6 (.one false 4 (.one false 7 .done))) false 6 (.one false 3 (.one false 4 (.one false 7 .done))))) false 3 (.two false 0 (.two false 4 (.one false 5 (.one false 6 (.one false 7 .done))) false 5 (.two false 4 (.one false 6 (.one false 7 .done)) false 6 (.one false 4 (.one false 7 .done)))) false 4 (.one false 0 (.one false 5 (.one false 6 (.one false 7 .done))))))
def cutRt:Pl:=⟨[1],[],[],[0,2,3,4,5,6,7],treeRt⟩
theorem cutRt_run {E:Env} (pl:Option (List (Nat × Bool))) (ops:Array Oper) (k:List Fr) (Q:X→S→Prop) (s:S):aftE (some cutRt) pl ops k E Q s=preK E ops k Q treeRt [(1,false)] s:=rfl
def cutAp:Pl:=⟨[2],[],[],[0,1,3,4,5,6,7],treeAp⟩
theorem cutAp_run {E:Env} (pl:Option (List (Nat × Bool))) (ops:Array Oper) (k:List Fr) (Q:X→S→Prop) (s:S):aftE (some cutAp) pl ops k E Q s=preK E ops k Q treeAp [(2,false)] s:=rfl
theorem f79_ok (b:ByteArray) (hbl:b.size≤1048576):FunOK Tryz.prog 79 [.str b] false (.tup [(readI b).1.o,.int .i64 (readI b).2.1,.int .i64 (readI b).2.2]):=by
  refine fun_ok (mkE2_ok zmix (cl:=[(66,c66),(151,c151),(145,c145),(146,c146),(152,c152x)]) (gl:=[(148,[],c148 b),(149,[],c149 b),(147,[],c147 b),(150,[],c150 b)]) [(19,[(0,false),(1,false),(2,false),(3,false),(4,false),(5,false),(7,false),(8,false),(9,false),(10,false),(11,false),(12,false),(6,true),(13,false),(14,false)])] [(9,cutAp),(13,cutAp),(16,cutRt),(18,cutRt),(20,cutRt)] ⟨c66_ok,c151_ok,c145_ok,c146_ok,c152x_ok⟩ ⟨c148_ok b,c149_ok b,c147_ok b,c150_ok b⟩) Tryz.func79 (by kernel_rfl) ?_
  refine FunW_run _ _ rfl rfl ?_
  have e145:=c145_eq b os1 (by simp [lim];omega) (by simp [lim,os1,ByteArray.size])
  simp only [os1] at e145
  by_cases h3:3000 < b.size
  · have h3i:(3000:Int) < b.size:=by omega
    simp [readI,h3,h3i,noS]
  · have h3i:¬ (3000:Int) < b.size:=by omega
    cases hpre:preB b os1 with
    | false =>
      simp only [os1] at hpre
      rw [hpre] at e145
      simp [readI,h3,h3i,noS,e145,os1,hpre]
    | true =>
      have hsz:3≤b.size:=by
        have h:=hpre
        simp only [preB,os1,ByteArray.size,Bool.and_eq_true,decide_eq_true_eq] at h
        exact of_decide_eq_true h.1
      have hR:readI b=if 0≤(numbO b).2.bad then (noS,3,(numbO b).2.bad) else if ¬ b.size=(numbO b).2.at_ + 2 then (noS,4,(numbO b).2.at_)
        else if ¬ sumB (b.extract 0 (numbO b).2.at_)=b.extract (numbO b).2.at_ b.size then (noS,5,(numbO b).2.at_)
        else if isB ⟨(numbO b).1.1,[],baseTys ++ (numbO b).1.2.1,(numbO b).1.2.2,[]⟩=false then (noS,6,0)
        else (⟨(numbO b).1.1,[],baseTys ++ (numbO b).1.2.1,(numbO b).1.2.2,[]⟩,0,0):=by
        unfold readI
        rw [if_neg h3,if_neg (by rw [hpre];simp)]
      simp only [os1] at hpre
      rw [hpre] at e145
      have hN:=numbO.eq_1 b
      have hb:b.size≤1000000:=by omega
      have e1:c147 b [.ptr 0 0,.bool false] [.agg [.str b,.int .i64 3,.int .i64 (-1)]]=some ⟨false,.str (nameO b false ⟨3,-1⟩).1,[],[.agg [.str b,.int .i64 (nameO b false ⟨3,-1⟩).2.at_,.int .i64 (nameO b false ⟨3,-1⟩).2.bad]]⟩:=c147_eq b false ⟨3,-1⟩ ⟨hsz,hb⟩
      have s1:=nameO_sz (b:=b) (mb:=false) (s:=⟨3,-1⟩) hsz
      generalize nameO b false ⟨3,-1⟩=q1 at *
      have e2:=c148_eq b 0 21 q1.2 ⟨s1,hb⟩
      have s2:=numO_sz (b:=b) (lo:=0) (hi:=21) s1
      have r2:=numO_in (b:=b) (s:=q1.2) (lo:=0) (hi:=21) (by omega) (by omega)
      simp only [oBox] at e2
      generalize numO b 0 21 q1.2=q2 at *
      have w24:IntKind.i64.wrap 21=21:=wrap64 (by omega) (by omega)
      have hb3:(baseTys.map Ty.o).length=3:=rfl
      simp [h3,h3i,e145,c146_eq,e1,e2,hb3,w24]
      refine lp_ind (fun d t=>∃ (w:ORd) (acc:List Ty) (i pi pt po pu:Nat),d + i=q2.1.toNat∧acc.length=i∧w.at_≤b.size∧t.e 30=.int .i64 q2.1∧t.e 31=.int .i64 i∧(acc ++ (manyO (tyO b) d w).1,(manyO (tyO b) d w).2)=manyO (tyO b) q2.1.toNat q2.2 ∧
        t.e 0=.str b∧t.e 2=.ptr 0 0∧t.e 5=.ptr 1 0∧t.e 6=.ptr 2 0∧2 < t.nb∧(∃ z0 z1 z2 z3,t.B 0=some (.agg [.str ⟨#[]⟩,.own z0,.own z1,.own z2,.own z3]))∧t.B 1=some (.agg [.str b,.int .i64 w.at_,.int .i64 w.bad]) ∧
        t.B 2=some (.agg [.str q1.1,.own pi,.own pt,.own po,.own pu])∧pi < t.nt∧pt < t.nt∧po < t.nt∧pu < t.nt∧pt ≠ pi∧pt ≠ po∧pt ≠ pu∧po ≠ pi∧po ≠ pu∧pi ≠ pu ∧
        t.R pi=some ⟨1,[],true⟩∧t.R pt=some ⟨6,(baseTys ++ acc).map Ty.o,true⟩∧t.R po=some ⟨6,[],true⟩∧t.R pu=some ⟨2,[],true⟩) q2.1.toNat ⟨q2.2,[],0,5,4,6,7,by omega,rfl,s2,by simp,by simp,by simp,by simp,by simp,by simp,by simp,by simp,by simp,by simp,by simp,by simp,by simp,by simp,by simp,by omega,by omega,by omega,by omega,by omega,by omega,by simp,by simp,by simp,by simp⟩ ?_
      rintro c1 L1 hL1 d t ih ⟨w,acc,i,pi,pt,po,pu,hd,hal,hw,g30,g31,hacc,g0,g2,g5,g6,gnb,⟨z0,z1,z2,z3,gZ⟩,gB,gT,li,lt,lo,lu,d1,d2,d3,d4,d5,d6,Ri,Rt,Ro,Ru⟩
      by_cases hd0:d=0
      · subst hd0
        have hii:¬ (i:Int) < q2.1:=by omega
        simp only [manyO,List.append_nil] at hacc
        rw [← hacc] at hN
        simp only at hN
        have e4:=c148_eq b 0 16 w ⟨hw,hb⟩
        have s4:=numO_sz (b:=b) (lo:=0) (hi:=16) hw
        have r4:=numO_in (b:=b) (s:=w) (lo:=0) (hi:=16) (by omega) (by omega)
        simp only [oBox] at e4
        generalize numO b 0 16 w=q3 at *
        simp [g0,g2,g5,g6,g30,g31,gB,gZ,gT,Rt,hL1,hii,e4]
        clear e1 e2 e4 ih hL1
        refine lp_ind (fun d s=>∃ (w:ORd) (ob:List Obj) (i po:Nat),d + i=q3.1.toNat∧ob.length=i∧w.at_≤b.size∧s.e 42=.int .i64 q3.1∧s.e 43=.int .i64 i∧(ob ++ (manyO (obO b) d w).1,(manyO (obO b) d w).2)=manyO (obO b) q3.1.toNat q3.2 ∧
          s.e 0=.str b∧s.e 2=.ptr 0 0∧s.e 5=.ptr 1 0∧s.e 6=.ptr 2 0∧2 < s.nb∧s.B 0=some (.agg [.str ⟨#[]⟩,.own z0,.own z1,.own z2,.own z3])∧s.B 1=some (.agg [.str b,.int .i64 w.at_,.int .i64 w.bad]) ∧
          s.B 2=some (.agg [.str q1.1,.own pi,.own pt,.own po,.own pu])∧pi < s.nt∧pt < s.nt∧po < s.nt∧pu < s.nt∧pt ≠ po∧po ≠ pi∧po ≠ pu ∧
          s.R pi=some ⟨1,[],true⟩∧s.R pt=some ⟨6,(baseTys ++ acc).map Ty.o,true⟩∧s.R po=some ⟨6,ob.map Obj.o,true⟩∧s.R pu=some ⟨2,[],true⟩) q3.1.toNat ⟨q3.2,[],0,po,by omega,rfl,s4,by simp,by simp,by simp,by simp [g0],by simp [g2],by simp [g5],by simp [g6],by simp [gnb],by simp [gZ],by simp,by simp [gT],by simp [li],by simp [lt],by simp [lo],by simp [lu],by omega,by omega,by omega,by simp [Ri],by simp [Rt],by simp [Ro],by simp [Ru]⟩ ?_
        clear g0 g2 g5 g6 g30 g31 gB gZ gT Rt Ri Ro Ru lo d2 d4 d5 gnb
        rintro c3 L3 hL3 d s ih ⟨w,ob,i,po,hd,hol,hw,h42,h43,hob,g0,g2,g5,g6,gnb,gZ,gB,gT,li,lt,lo,lu,d2,d4,d5,Ri,Rt,Ro,Ru⟩
        by_cases hd0:d=0
        · subst hd0
          have hii:¬ (i:Int) < q3.1:=by omega
          simp only [manyO,List.append_nil] at hob
          rw [← hob] at hN
          simp only at hN
          have hSl:=numbS_lim (b:=b) (by simp [lim];omega)
          simp only [numbS,hN] at hSl
          simp only [hN] at hR
          have e66:=c66_eq _ hSl
          have e151:=c151_eq (b.extract 0 w.at_) (by simp;omega)
          have w2:IntKind.i64.wrap ((w.at_:Int) + 2)=(w.at_:Int) + 2:=wrap64 (by omega) (by omega)
          have hnm:norms (List.map Ty.o baseTys ++ List.map Ty.o acc)=List.map Ty.v baseTys ++ List.map Ty.v acc:=by
            rw [norms_map,List.map_append,List.map_map,List.map_map]
            congr 1 <;> exact List.map_congr_left (fun t _=>by simp)
          have w1s:(w.at_:Int)≤b.size:=by omega
          by_cases hb0:0≤w.bad
          · rw [if_pos hb0] at hR
            rw [hR] at hL3 ⊢
            simp [g0,g2,g5,g6,h42,h43,gB,gZ,gT,Ri,Rt,Ro,Ru,hL3,hii,hb0,noS,-aftE_some,cutRt_run,treeRt,pureOp,S.see,seeL,S.after,flatC,nkA,nkB,nkC,nkD,nkE,nkF]
          · rw [if_neg hb0] at hR
            by_cases hs2:b.size=w.at_ + 2
            · have w2s:IntKind.i64.wrap ((w.at_:Int) + 2)=(b.size:Int):=w2.trans (by omega)
              clear w2
              rw [if_neg (Decidable.not_not.2 hs2)] at hR
              by_cases hsm:sumB (b.extract 0 w.at_)=b.extract w.at_ b.size
              · rw [if_neg (Decidable.not_not.2 hsm)] at hR
                cases hsc:scopeI ⟨q1.1,[],baseTys ++ acc,ob,[]⟩ with
                | false =>
                  have e152n:=c152x_no (l:=[⟨q1.1,[],baseTys ++ acc,ob,[]⟩]) (i:=0) rfl hsc
                  rw [hsc] at e66
                  simp only [List.map_cons,List.map_nil,Scp.v,List.map_append] at e66 e152n
                  have hisb:isB ⟨q1.1,[],baseTys ++ acc,ob,[]⟩=false:=by simp [isB,hsc]
                  rw [if_pos hisb] at hR
                  rw [hR] at hL3 ⊢
                  simp [g0,g2,g5,g6,h42,h43,gB,gZ,gT,Ri,Rt,Ro,Ru,hL3,hii,hb0,noS,w2s,w1s,hw,hnm,e151,hsm,e66,e152n,hisb,pureOp,S.see,seeL,S.after,flatC,nkA,nkB,nkC,nkD,nkE,nkF]
                | true =>
                  have e152:=c152x_eq (l:=[⟨q1.1,[],baseTys ++ acc,ob,[]⟩]) (i:=0) rfl hSl hsc
                  rw [hsc] at e66
                  simp only [List.map_cons,List.map_nil,Scp.v,List.map_append] at e66 e152
                  by_cases hex:exS ⟨q1.1,[],baseTys ++ acc,ob,[]⟩=⟨q1.1,[],baseTys ++ acc,ob,[]⟩
                  · have hisb:isB ⟨q1.1,[],baseTys ++ acc,ob,[]⟩=true:=by simp [isB,hsc,hex]
                    rw [if_neg (by rw [hisb];simp)] at hR
                    rw [hR] at hL3 ⊢
                    rw [decide_eq_true hex] at e152
                    simp [g0,g2,g5,g6,h42,h43,gB,gZ,gT,Ri,Rt,Ro,Ru,hL3,hii,hb0,noS,w2s,w1s,hw,hnm,e151,hsm,e66,e152,hisb,pureOp,S.see,seeL,S.after,flatC,nkA,nkB,nkC,nkD,nkE,nkF]
                    refine ⟨by omega,?_⟩
                    rw [← List.map_append]
                    exact noLs_tyo _
                  · have hisb:isB ⟨q1.1,[],baseTys ++ acc,ob,[]⟩=false:=by simp [isB,hsc,hex]
                    rw [if_pos hisb] at hR
                    rw [hR] at hL3 ⊢
                    rw [decide_eq_false hex] at e152
                    simp [g0,g2,g5,g6,h42,h43,gB,gZ,gT,Ri,Rt,Ro,Ru,hL3,hii,hb0,noS,w2s,w1s,hw,hnm,e151,hsm,e66,e152,hisb,pureOp,S.see,seeL,S.after,flatC,nkA,nkB,nkC,nkD,nkE,nkF]
              · rw [if_pos hsm] at hR
                rw [hR] at hL3 ⊢
                simp [g0,g2,g5,g6,h42,h43,gB,gZ,gT,Ri,Rt,Ro,Ru,hL3,hii,hb0,noS,w2s,w1s,hw,hnm,e151,hsm,-aftE_some,cutRt_run,treeRt,pureOp,S.see,seeL,S.after,flatC,nkA,nkB,nkC,nkD,nkE,nkF]
            · have hs2i:¬ (b.size:Int)=(w.at_:Int) + 2:=by omega
              rw [if_pos hs2] at hR
              rw [hR] at hL3 ⊢
              simp [g0,g2,g5,g6,h42,h43,gB,gZ,gT,Ri,Rt,Ro,Ru,hL3,hii,hb0,noS,w2,hs2i,w1s,-aftE_some,cutRt_run,treeRt,pureOp,S.see,seeL,S.after,flatC,nkA,nkB,nkC,nkD,nkE,nkF]
        · have hii:(i:Int) < q3.1:=by omega
          obtain ⟨d',rfl⟩:∃ d',d=d' + 1:=⟨d - 1,by omega⟩
          have e3:=c150_eq b w ⟨hw,hb⟩
          have s3:=obO_sz (b:=b) hw
          simp only [oBox,Obj.o] at e3
          simp only [manyO] at hob
          generalize obO b w=v at *
          have hrt:=roomOb (n:=ob.length + 1) (by omega)
          have hwi:IntKind.i64.wrap ((i:Int) + 1)=((i + 1:Nat):Int):=(wrap64 (by omega) (by omega)).trans (by omega)
          have y1:¬ po=s.nt:=by omega
          have y2:¬ po=s.nt + 1:=by omega
          have ni:¬ pi=s.nt:=by omega
          have ni1:¬ pi=s.nt + 1:=by omega
          have ni2:¬ pi=s.nt + 1 + 1:=by omega
          have nt:¬ pt=s.nt:=by omega
          have nt1:¬ pt=s.nt + 1:=by omega
          have nt2:¬ pt=s.nt + 1 + 1:=by omega
          have nu:¬ pu=s.nt:=by omega
          have nu1:¬ pu=s.nt + 1:=by omega
          have nu2:¬ pu=s.nt + 1 + 1:=by omega
          have no2:¬ po=s.nt + 1 + 1:=by omega
          have d2':¬ po=pt:=by omega
          have d4':¬ pi=po:=by omega
          have d5':¬ pu=po:=by omega
          simp [g0,g2,g5,g6,h42,h43,gB,gZ,gT,Ro,hL3,hii,e3,hrt,hwi,y1,y2,-aftE_some,cutAp_run,treeAp,pureOp]
          repeat' apply And.intro
          all_goals
            refine ih d' _ (by omega) ⟨v.2,ob ++ [v.1],i + 1,s.nt + 1 + 1,by omega,by simp [hol],s3,?_⟩
            simp [g0,g2,g5,g6,h42,h43,gB,gZ,gT,Ri,Rt,Ro,Ru,hwi,y1,y2,ni,ni1,ni2,nt,nt1,nt2,nu,nu1,nu2,no2,d2,d4,d5,d2',d4',d5',← hob]
            omega
      · have hii:(i:Int) < q2.1:=by omega
        obtain ⟨d',rfl⟩:∃ d',d=d' + 1:=⟨d - 1,by omega⟩
        have e3:=c149_eq b w ⟨hw,hb⟩
        have s3:=tyO_sz (b:=b) hw
        simp only [oBox,Ty.o] at e3
        simp only [manyO] at hacc
        generalize tyO b w=v at *
        have hrt:=roomTy (n:=3 + acc.length + 1) (by omega)
        have hwi:IntKind.i64.wrap ((i:Int) + 1)=((i + 1:Nat):Int):=(wrap64 (by omega) (by omega)).trans (by omega)
        have y1:¬ pt=t.nt:=by omega
        have y2:¬ pt=t.nt + 1:=by omega
        simp [g0,g2,g5,g6,g30,g31,gB,gZ,gT,Rt,hL1,hii,e3,hrt,hwi,y1,y2,-aftE_some,cutAp_run,treeAp,pureOp]
        have ni:¬ pi=t.nt:=by omega
        have ni1:¬ pi=t.nt + 1:=by omega
        have ni2:¬ pi=t.nt + 1 + 1:=by omega
        have no:¬ po=t.nt:=by omega
        have no1:¬ po=t.nt + 1:=by omega
        have no2:¬ po=t.nt + 1 + 1:=by omega
        have nu:¬ pu=t.nt:=by omega
        have nu1:¬ pu=t.nt + 1:=by omega
        have nu2:¬ pu=t.nt + 1 + 1:=by omega
        have nt2:¬ pt=t.nt + 1 + 1:=by omega
        have d1':¬ pi=pt:=by omega
        have d2':¬ po=pt:=by omega
        have d3':¬ pu=pt:=by omega
        have d4':¬ pi=po:=by omega
        have d5':¬ pu=po:=by omega
        repeat' apply And.intro
        all_goals
          refine ih d' _ (by omega) ⟨v.2,acc ++ [v.1],i + 1,pi,t.nt + 1 + 1,po,pu,by omega,by simp [hal],s3,?_⟩
          simp [g0,g2,g5,g6,g30,g31,gB,gZ,gT,Ri,Rt,Ro,Ru,hwi,y1,y2,ni,ni1,ni2,no,no1,no2,nu,nu1,nu2,nt2,d1,d2,d3,d4,d5,d6,d1',d2',d3',d4',d5',pureOp,← hacc]
          omega
end Go.TM.Tryz
end
