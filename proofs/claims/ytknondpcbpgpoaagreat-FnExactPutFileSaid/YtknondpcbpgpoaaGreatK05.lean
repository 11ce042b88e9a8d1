/- A part of the proof: S0, S1, ZLay, ZL, ZM, ZN. -/
import Derived.Test.YtknondpcbpgpoaaGreatK04
import Derived.Shelf.Sort.Plain
import Derived.Shelf.Slices.CompactI
import Derived.Shelf.Lays
import Derived.Shelf.Lays2
import Derived.Test.YtknondpcbpgpoaaGreatProg
import Derived.Shelf.Slices.In.SortNone
set_option linter.unusedVariables false
set_option linter.unusedSimpArgs false
section
namespace Go.TM
open Go Go.Proofs Go.Sort Go.Shelf
theorem leafAt_ints {zs:List Int} {j i:Nat} {l:V} (h:leafAt (zs.map (V.int .i64)) j i=some l):i=0∧∃ z,zs[j]?=some z∧l=.int .i64 z:=by
  unfold leafAt at h
  rw [List.getElem?_map] at h
  cases hz:zs[j]? with
  | none=>rw [hz] at h;cases h
  | some z =>
    rw [hz] at h
    simp only [Option.map_some,Option.bind_some,leaves] at h
    cases i with
    | zero=>exact ⟨rfl,z,rfl,by simpa using h.symm⟩
    | succ i=>simp at h
theorem own_ints {W:World} {F B:Nat→Prop} {v:Value} {zs:List Int} (h:OwnN W F B 1 v (zs.map (V.int .i64))) (hne:zs ≠ []) :
    ∃ (b o c:Nat) (cs:Array Value) (ty:TypeId),v=.slice (some ⟨b,o,none⟩) zs.length c∧B b∧W.heap[b]?=some (.cells cs ty (0,0))∧zs.length≤c∧c≤maxLen∧cs.size=o + c∧∀ j z,zs[j]?=some z→cs[o + j]?=some (.int .i64 z):=by
  generalize hx:zs.map (V.int .i64)=xs at h
  cases h with
  | nil=>cases zs <;> simp at hx hne
  | row _ _ _ b o c cs ty u Bs hB hBs hd hb hn hm hcs hs hc hl hN =>
    subst hx
    refine ⟨b,o,c,cs,ty,by simp,hB,hb,by simpa using hn,hm,by simpa using hcs,fun j z hz=>?_⟩
    have e:leafAt (zs.map (V.int .i64)) j 0=some (.int .i64 z):=by simp [leafAt,hz,leaves]
    have h1:=hc j 0 _ e
    have h2:=hl j 0 _ e (by intro z ys;simp)
    generalize u j 0=q at h1 h2
    cases h2
    simpa using h1
theorem ints_own {W:World} {F:Nat→Prop} {zs:List Int} {b o c:Nat} {cs:Array Value} {ty:TypeId} (hb:W.heap[b]?=some (.cells cs ty (0,0))) (hn:zs.length≤c) (hm:c≤maxLen) (hcs:cs.size=o + c) (hc:∀ j z,zs[j]?=some z→cs[o + j]?=some (.int .i64 z)) :
    OwnN W F (fun x=>x=b) 1 (.slice (some ⟨b,o,none⟩) zs.length c) (zs.map (V.int .i64)):=by
  have key:=OwnN.row (W:=W) (F:=F) (fun x=>x=b) 1 (zs.map (V.int .i64)) b o c cs ty (fun j _=>.int .i64 (zs.getD j 0)) (fun _ _ _=>False) rfl (fun _ _ _ h=>h.elim) (fun _ _ _ _ _ h=>h.elim) hb (by simpa using hn) hm (by simpa using hcs)
    (fun e he=>by
      obtain ⟨z,_,rfl⟩:=List.mem_map.1 he
      rfl)
    (fun j i l hl=>by
      obtain ⟨rfl,z,hz,rfl⟩:=leafAt_ints hl
      have:=hc j z hz
      simpa [hz] using this)
    (fun j i l hl _=>by
      obtain ⟨rfl,z,hz,rfl⟩:=leafAt_ints hl
      simp only [List.getD_eq_getElem?_getD,hz,Option.getD_some]
      exact .int _ _)
    (fun j i z ys hl=>by
      obtain ⟨rfl,w,hz,e⟩:=leafAt_ints hl
      cases e)
  simpa using key
theorem putRow_block {W:World} {n b o:Nat} {os:Array Go.Obj} {cs:Array Value} {ty:TypeId} {ds:Array Int} (hb:W.heap[b]?=some (.cells cs ty (0,0))) :
    (grow (putRow (Value.int .i64) (Sort.ahead W n) b o ds) os).heap[b]?=some (.cells (putCells (Value.int .i64) o ds cs) ty (0,0)) ∧
    (∀ x,x < W.heap.size→x ≠ b→(grow (putRow (Value.int .i64) (Sort.ahead W n) b o ds) os).heap[x]?=W.heap[x]?) ∧
    W.heap.size≤(grow (putRow (Value.int .i64) (Sort.ahead W n) b o ds) os).heap.size:=by
  have hlt:b < W.heap.size:=by
    rw [Array.getElem?_eq_some_iff] at hb
    exact hb.1
  refine ⟨?_,fun x hx hne=>?_,?_⟩
  · simp only [grow,putRow,mapBlock,heap_ahead]
    rw [Array.getElem?_append_left (by simpa using hlt),Array.getElem?_modify,if_pos rfl,hb]
    rfl
  · simp only [grow,putRow,mapBlock,heap_ahead]
    rw [Array.getElem?_append_left (by simpa using hx),Array.getElem?_modify,if_neg (fun e=>hne e.symm)]
  · simp only [grow,putRow,mapBlock,heap_ahead]
    simp
theorem putCells_get {o:Nat} {ds:Array Int} {cs:Array Value} {c:Nat} (hcs:cs.size=o + c) (hn:ds.size≤c) {j:Nat} {z:Int} (hz:ds.toList[j]?=some z):(putCells (Value.int .i64) o ds cs)[o + j]?=some (.int .i64 z):=by
  have hj:j < ds.size:=by
    rw [List.getElem?_eq_some_iff] at hz
    simpa using hz.1
  have hlt:o + j < cs.size:=by omega
  unfold putCells
  rw [Array.getElem?_mapIdx,Array.getElem?_eq_getElem hlt]
  simp only [Option.map_some]
  rw [if_pos ⟨by omega,by omega⟩]
  have e:o + j - o=j:=by omega
  rw [e,getElem!_pos ds j hj]
  rw [List.getElem?_eq_some_iff] at hz
  simp [← hz.2]
theorem putCells_size {o:Nat} {ds:Array Int} {cs:Array Value}:(putCells (Value.int .i64) o ds cs).size=cs.size:=by simp [putCells]
theorem start_ints (zs:List Int):(start [.inl 1 (zs.map (V.int .i64))] []).R=fun x=>if x=0 then some ⟨1,zs.map (V.int .i64),true⟩ else none:=by
  funext x
  by_cases h:x=0 <;> simp [start,adCs,adC,adL,S.newR,S.setR,S.zero,h]
theorem sort_gen {P:Program} {f:FuncId} {zs:List Int} (hne:zs ≠ []) (hlen:zs.length < 4611686018427387904)
    (has:∃ fn,P.funcs[f]?=some fn∧(fn.name == "runtime.NumGoroutine")=false∧fn.body.isNone=false)
    (hcall:∀ (blk off cap:Nat) (w:World),Holds (Value.int .i64) w blk off zs.toArray→blk < w.heap.size→Calls P f #[.slice (some ⟨blk,off,none⟩) zs.length cap] w fun e w' =>
      e=.returned (.tuple #[])∧∃ n os,w'=grow (putRow (Value.int .i64) (Sort.ahead w n) blk off (sortI zs).toArray) os) :
    GenOK P f [.inl 1 (zs.map (V.int .i64))] [] ⟨false,.tup [],[.inl 1 ((sortI zs).map (V.int .i64))],[]⟩:=by
  refine ⟨has,fun M W vs hM hv=>?_⟩
  have hR:=start_ints zs
  have hB:(start [.inl 1 (zs.map (V.int .i64))] []).B=fun _=>none:=by
    funext x
    simp [start,adCs]
  have hnt:M.nt=1:=by rw [hM.nt];simp [start,adCs,adC,adL,S.newR,S.setR,S.zero]
  have hnb:M.nb=0:=by rw [hM.nb];simp [start,adCs]
  have hv':∃ v,vs=[v]∧v=M.ρ 0:=by
    simp only [adCs,adC,adL,S.zero] at hv
    cases vs with
    | nil=>exact hv.elim
    | cons v vs =>
      cases vs with
      | cons _ _=>exact hv.2.elim
      | nil=>exact ⟨v,rfl,hv.1.2⟩
  obtain ⟨v,rfl,rfl⟩:=hv'
  obtain ⟨_,hrow⟩:=hM.row 0 ⟨1,zs.map (V.int .i64),true⟩ (by rw [hR];simp)
  rcases hrow with ⟨_,B,hown,hω,_⟩ | ⟨h,_⟩
  · obtain ⟨b,o,c,cs,ty,hρ,hBb,hb,hn,hm,hcs,hc⟩:=own_ints hown hne
    have hlt:b < W.heap.size:=by
      rw [Array.getElem?_eq_some_iff] at hb
      exact hb.1
    have hH:Holds (Value.int .i64) W b o zs.toArray:=by
      intro j hj
      have hj':j < zs.length:=by simpa using hj
      have h1:=hc j zs[j] (List.getElem?_eq_getElem hj')
      refine ⟨?_,?_⟩
      · rw [getElem!_pos zs.toArray j hj]
        simp only [World.cell?,hb]
        simpa using h1
      · simp [World.frozen?,hb]
    rw [hρ]
    refine (hcall b o c W hH hlt).mono ?_
    rintro e W' ⟨rfl,n,os,rfl⟩
    obtain ⟨k1,k2,k3⟩:=putRow_block (n:=n) (o:=o) (os:=os) (ds:=(sortI zs).toArray) hb
    have hsl:(sortI zs).length=zs.length:=(sortI_perm zs).length_eq
    generalize hW':grow (putRow (Value.int .i64) (Sort.ahead W n) b o (sortI zs).toArray) os=W' at k1 k2 k3
    have hos:W'.os=W.os∧W'.tape=W.tape∧W'.output=W.output:=by subst hW';exact ⟨rfl,rfl,rfl⟩
    have hωb:=hω b hBb
    have hown':OwnN W' M.F (fun x=>x=b) 1 (M.ρ 0) ((sortI zs).map (V.int .i64)):=by
      rw [hρ,← hsl]
      exact ints_own k1 (by omega) hm (by rw [putCells_size];exact hcs) fun j z hz=>putCells_get (c:=c) hcs (by simp;omega) (by simpa using hz)
    refine ⟨_,M,{ start [.inl 1 (zs.map (V.int .i64))] [] with R:=fun x=>if x=0 then some ⟨1,(sortI zs).map (V.int .i64),true⟩ else none },.tup [],rfl,?_⟩
    refine ⟨⟨[],rfl,trivial⟩,⟨hM.nt,hM.nb,fun x y hx=>?_,fun t r hr=>?_,fun x hx=>⟨(hM.frz x hx).1,Nat.lt_of_lt_of_le (hM.frz x hx).2 k3⟩,fun x l hx=>Nat.lt_of_lt_of_le (hM.lt x l hx) k3,hM.tok,hM.bx⟩,⟨hos.1,hos.2.1,hos.2.2,k3,fun x hx hω0=>k2 x hx (fun e=>by subst e;rw [hωb] at hω0;cases hω0),fun x l hx=>.inl (by simp [hx]),fun x hx=>.inl hx,fun _ h=>h,Nat.le_refl _,Nat.le_refl _,fun _ _=>rfl,fun _ _=>rfl⟩,?_,?_,?_,?_,?_,?_,?_⟩
    · simp only [hB] at hx
      cases hx
    · simp only at hr
      split at hr
      · rename_i h0
        subst h0
        cases hr
        refine ⟨by omega,.inl ⟨rfl,_,hown',?_,?_⟩⟩
        · rintro x rfl
          exact hωb
        · intro j i z ys hl
          obtain ⟨_,_,_,e⟩:=leafAt_ints hl
          cases e
      · cases hr
    · simp [resToks,liveOuts,isBad]
    · simp [resBoxes]
    · intro _
      refine ⟨by simp [noL,noLs],?_⟩
      have:∀ l:List Int,noLs (l.map (V.int .i64))=true:=by
        intro l
        induction l with
        | nil=>rfl
        | cons x xs ih=>simp [noLs,noL,ih]
      simp [noLs,noL,this]
    · simp
    · simp [outsOk,S.outR]
    · simp [boxOuts]
    · simp [closeR]
  · cases h
end Go.TM
end
section
namespace Go.TM
open Go Go.Proofs Go.Sort Go.Shelf
theorem noLs_ints (l:List Int):noLs (l.map (V.int .i64))=true:=by
  induction l with
  | nil=>rfl
  | cons x xs ih=>simp [noLs,noL,ih]
theorem ints_nt (zs:List Int):(start [.inl 1 (zs.map (V.int .i64))] []).nt=1∧(start [.inl 1 (zs.map (V.int .i64))] []).nb=0∧(start [.inl 1 (zs.map (V.int .i64))] []).B=fun _=>none:=by
  refine ⟨by simp [start,adCs,adC,adL,S.newR,S.setR,S.zero],by simp [start,adCs],?_⟩
  funext x
  simp [start,adCs]
theorem ints_arg {M:Mem} {W:World} {zs:List Int} {vs:List Value} (hv:All2 (SR1 M W) (adCs [.inl 1 (zs.map (V.int .i64))] S.zero).1 vs):vs=[M.ρ 0]:=by
  simp only [adCs,adC,adL,S.zero] at hv
  cases vs with
  | nil=>exact hv.elim
  | cons v vs =>
    cases vs with
    | cons _ _=>exact hv.2.elim
    | nil=>rw [hv.1.2]
theorem compact_len (zs:List Int):(Lib.compact zs).length≤zs.length:=by
  unfold Lib.compact Lib.compactUpTo
  rw [List.length_map]
  exact Nat.le_trans (List.length_filter_le _ _) (by simp)
theorem compact_gen {P:Program} {f:FuncId} {zs:List Int} (hlen:zs.length≤9223372036854775807)
    (has:∃ fn,P.funcs[f]?=some fn∧(fn.name == "runtime.NumGoroutine")=false∧fn.body.isNone=false)
    (hcall:∀ (blk off cap:Nat) (w:World),Holds (Value.int .i64) w blk off zs.toArray→zs.length≤cap→Calls P f #[.slice (some ⟨blk,off,none⟩) zs.length cap] w fun e w' =>
      e=.returned (.slice (some ⟨blk,off,none⟩) (Lib.compact zs).length cap)∧∃ q,w'=putRow (Value.int .i64) (Sort.ahead w q) blk off (Lib.compact zs ++ List.replicate (zs.length - (Lib.compact zs).length) 0).toArray)
    (hnil:∀ (a:Option Addr) (cap:Nat) (w:World),Calls P f #[.slice a 0 cap] w fun e w'=>e=.returned (.slice a 0 cap)∧w'=w) :
    GenOK P f [.inl 1 (zs.map (V.int .i64))] [] ⟨true,.inl 1 ((Lib.compact zs).map (V.int .i64)),[.bad],[]⟩:=by
  refine ⟨has,fun M W vs hM hv=>?_⟩
  have hR:=start_ints zs
  obtain ⟨n1,n2,hB⟩:=ints_nt zs
  have hnt:M.nt=1:=by rw [hM.nt,n1]
  have hnb:M.nb=0:=by rw [hM.nb,n2]
  obtain rfl:=ints_arg hv
  obtain ⟨_,hrow⟩:=hM.row 0 ⟨1,zs.map (V.int .i64),true⟩ (by rw [hR];simp)
  rcases hrow with ⟨_,B,hown,hω,_⟩ | ⟨h,_⟩
  · by_cases hne:zs=[]
    · subst hne
      have hv0:∃ a cap,M.ρ 0=.slice a 0 cap:=by
        generalize M.ρ 0=q at hown
        generalize hx:([]:List Int).map (V.int .i64)=xs at hown
        cases hown with
        | nil=>exact ⟨_,_,rfl⟩
        | row=>subst hx;exact ⟨_,_,rfl⟩
      obtain ⟨a,cap,hv0⟩:=hv0
      rw [hv0]
      refine (hnil a cap W).mono ?_
      rintro e W' ⟨rfl,rfl⟩
      refine ⟨_,M,start [.inl 1 (([]:List Int).map (V.int .i64))] [],.own 0,rfl,?_⟩
      refine ⟨⟨by omega,hv0.symm⟩,hM,.refl _ _,?_,?_,?_,?_,?_,?_,?_⟩
      · simp [resToks,resToks1,toks1,tokL,leaves,liveOuts,isBad,S.wrT,hR]
      · simp [resBoxes,boxesL]
      · intro h
        cases h
      · simp
      · simp [outsOk,isBad]
      · simp [boxOuts]
      · simp [closeR,closeB,onL1,closeL,hR,Lib.compact,Lib.compactUpTo]
    · obtain ⟨b,o,c,cs,ty,hρ,hBb,hb,hn,hm,hcs,hc⟩:=own_ints hown hne
      have hlt:b < W.heap.size:=by
        rw [Array.getElem?_eq_some_iff] at hb
        exact hb.1
      have hH:Holds (Value.int .i64) W b o zs.toArray:=by
        intro j hj
        have hj':j < zs.length:=by simpa using hj
        have h1:=hc j zs[j] (List.getElem?_eq_getElem hj')
        refine ⟨?_,?_⟩
        · rw [getElem!_pos zs.toArray j hj]
          simp only [World.cell?,hb]
          simpa using h1
        · simp [World.frozen?,hb]
      rw [hρ]
      refine (hcall b o c W hH hn).mono ?_
      rintro e W' ⟨rfl,n,rfl⟩
      have hcl:=compact_len zs
      obtain ⟨k1,k2,k3⟩:=putRow_block (n:=n) (o:=o) (os:=#[]) (ds:=(Lib.compact zs ++ List.replicate (zs.length - (Lib.compact zs).length) 0).toArray) hb
      rw [grow_empty] at k1 k2 k3
      generalize hW':putRow (Value.int .i64) (Sort.ahead W n) b o (Lib.compact zs ++ List.replicate (zs.length - (Lib.compact zs).length) 0).toArray=W' at k1 k2 k3
      have hos:W'.os=W.os∧W'.tape=W.tape∧W'.output=W.output:=by subst hW';exact ⟨rfl,rfl,rfl⟩
      have hωb:=hω b hBb
      have hown':OwnN W' M.F (fun x=>x=b) 1 (.slice (some ⟨b,o,none⟩) (Lib.compact zs).length c) ((Lib.compact zs).map (V.int .i64)):=by
        refine ints_own k1 (by omega) hm (by rw [putCells_size];exact hcs) fun j z hz=>putCells_get (c:=c) hcs (by simp;omega) ?_
        have hj:j < (Lib.compact zs).length:=by
          rw [List.getElem?_eq_some_iff] at hz
          exact hz.1
        simpa [List.getElem?_append_left hj] using hz
      refine ⟨_,⟨M.F,fun x=>if x=b then some (.tok 1) else M.ω x,M.β,fun t=>if t=1 then .slice (some ⟨b,o,none⟩) (Lib.compact zs).length c else M.ρ t,M.σ,2,M.nb⟩,
        ⟨(start [.inl 1 (zs.map (V.int .i64))] []).e,(start [.inl 1 (zs.map (V.int .i64))] []).B,fun x=>if x=1 then some ⟨1,(Lib.compact zs).map (V.int .i64),true⟩ else none,2,(start [.inl 1 (zs.map (V.int .i64))] []).nb⟩,.own 1,rfl,?_⟩
      refine ⟨⟨by simp,by simp⟩,⟨rfl,hM.nb,fun x y hx=>?_,fun t r hr=>?_,fun x hx=>⟨?_,Nat.lt_of_lt_of_le (hM.frz x hx).2 k3⟩,fun x l hx=>?_,fun x t hx=>?_,fun x k hx=>?_⟩,⟨hos.1,hos.2.1,hos.2.2,k3,fun x hx hω0=>k2 x hx (fun e=>by subst e;rw [hωb] at hω0;cases hω0),fun x l hx=>.inl ?_,fun x hx=>.inl hx,fun _ h=>h,?_,Nat.le_refl _,fun t ht=>?_,fun _ _=>rfl⟩,?_,?_,?_,?_,?_,?_,?_⟩
      · simp only [hB] at hx
        cases hx
      · simp only at hr
        split at hr
        · rename_i h0
          subst h0
          cases hr
          refine ⟨by simp,.inl ⟨rfl,fun x=>x=b,by simpa using hown',?_,?_⟩⟩
          · rintro x rfl
            simp
          · intro j i z ys hl
            obtain ⟨_,_,_,e⟩:=leafAt_ints hl
            cases e
        · cases hr
      · have h1:=(hM.frz x hx).1
        have hxb:x ≠ b:=fun e=>by subst e;rw [hωb] at h1;cases h1
        simp [hxb,h1]
      · by_cases e:x=b
        · subst e
          exact Nat.lt_of_lt_of_le hlt k3
        · simp only [e,if_false] at hx
          exact Nat.lt_of_lt_of_le (hM.lt x l hx) k3
      · by_cases e:x=b
        · simp only [e,if_true,Option.some.injEq,Root.tok.injEq] at hx
          simp [← hx]
        · simp only [e,if_false] at hx
          have:=hM.tok x t hx
          simp only
          omega
      · by_cases e:x=b
        · simp [e] at hx
        · simp only [e,if_false] at hx
          exact hM.bx x k hx
      · by_cases e:x=b
        · subst e
          rw [hωb]
          simp
        · simp only [e,if_false] at hx
          simp [hx]
      · simp only
        omega
      · have:t ≠ 1:=by omega
        simp [this]
      · simp [resToks,resToks1,toks1,tokL,liveOuts,isBad,S.wrT]
      · simp [resBoxes,boxesL]
      · intro h
        cases h
      · simp
      · simp [outsOk,isBad]
      · simp [boxOuts]
      · simp [closeR,closeB,onL1,closeL]
  · cases h
theorem sort_all {P:Program} {f:FuncId} {zs:List Int} (hlen:zs.length < 4611686018427387904)
    (has:∃ fn,P.funcs[f]?=some fn∧(fn.name == "runtime.NumGoroutine")=false∧fn.body.isNone=false)
    (hcall:∀ (blk off cap:Nat) (w:World),Holds (Value.int .i64) w blk off zs.toArray→blk < w.heap.size→Calls P f #[.slice (some ⟨blk,off,none⟩) zs.length cap] w fun e w' =>
      e=.returned (.tuple #[])∧∃ n os,w'=grow (putRow (Value.int .i64) (Sort.ahead w n) blk off (sortI zs).toArray) os)
    (hnil:∀ (a:Option Addr) (cap:Nat) (w:World),Calls P f #[.slice a 0 cap] w fun e w'=>e=.returned (.tuple #[])∧w'=w) :
    GenOK P f [.inl 1 (zs.map (V.int .i64))] [] ⟨false,.tup [],[.inl 1 ((sortI zs).map (V.int .i64))],[]⟩:=by
  by_cases hne:zs=[]
  · subst hne
    refine ⟨has,fun M W vs hM hv=>?_⟩
    have hR:=start_ints []
    obtain ⟨n1,n2,hB⟩:=ints_nt []
    obtain rfl:=ints_arg hv
    obtain ⟨_,hrow⟩:=hM.row 0 ⟨1,([]:List Int).map (V.int .i64),true⟩ (by rw [hR];simp)
    rcases hrow with ⟨_,B,hown,hω,_⟩ | ⟨h,_⟩
    · have hv0:∃ a cap,M.ρ 0=.slice a 0 cap:=by
        generalize M.ρ 0=q at hown
        generalize hx:([]:List Int).map (V.int .i64)=xs at hown
        cases hown with
        | nil=>exact ⟨_,_,rfl⟩
        | row=>subst hx;exact ⟨_,_,rfl⟩
      obtain ⟨a,cap,hv0⟩:=hv0
      rw [hv0]
      refine (hnil a cap W).mono ?_
      rintro e W' ⟨rfl,rfl⟩
      have hs:sortI []=[]:=by simp [sortI]
      refine ⟨_,M,start [.inl 1 (([]:List Int).map (V.int .i64))] [],.tup [],rfl,?_⟩
      refine ⟨⟨[],rfl,trivial⟩,hM,.refl _ _,?_,?_,?_,?_,?_,?_,?_⟩
      · simp [resToks,liveOuts,isBad]
      · simp [resBoxes]
      · intro _
        simp [noL,noLs,hs]
      · simp
      · simp [outsOk,S.outR,hR,hs]
      · simp [boxOuts]
      · simp [closeR]
    · cases h
  · exact sort_gen hne hlen has hcall
end Go.TM
end
section
namespace Go.Proofs
open Go.Shelf
def Tryz.lays189_ren:Go.Shelf.Ren:=⟨fun | 189=>223 | 125=>250 | 257=>249 | 128=>273 | 129=>274 | 294=>264 | 295=>265 | 296=>266 | 297=>267 | 298=>268 | 299=>269 | 216=>270 | 300=>271 | 301=>272 | 328=>281 | 329=>282 | 330=>283 | 331=>284 | 332=>285 | 215=>286 | 343=>297 | n=>n,fun | 28=>205 | 3=>3 | 46=>265 | 0=>0 | 51=>284 | 53=>286 | 4=>4 | 183=>277 | 182=>276 | 131=>196 | 5=>5 | 9=>9 | 218=>289 | 222=>293 | 228=>301 | 229=>302 | n=>n,fun | n=>n⟩
theorem Tryz.lays189:Go.Proofs.Lays.n189 Tryz.prog Tryz.lays189_ren:={
  mixed:=by kernel_rfl,
  f125:=Tryz.func250.trans (congrArg some (by kernel_rfl)),
  f128:=Tryz.func273.trans (congrArg some (by kernel_rfl)),
  f129:=Tryz.func274.trans (congrArg some (by kernel_rfl)),
  f189:=Tryz.func223.trans (congrArg some (by kernel_rfl)),
  f215:=Tryz.func286.trans (congrArg some (by kernel_rfl)),
  f216:=Tryz.func270.trans (congrArg some (by kernel_rfl)),
  f257:=Tryz.func249.trans (congrArg some (by kernel_rfl)),
  f294:=Tryz.func264.trans (congrArg some (by kernel_rfl)),
  f295:=Tryz.func265.trans (congrArg some (by kernel_rfl)),
  f296:=Tryz.func266.trans (congrArg some (by kernel_rfl)),
  f297:=Tryz.func267.trans (congrArg some (by kernel_rfl)),
  f298:=Tryz.func268.trans (congrArg some (by kernel_rfl)),
  f299:=Tryz.func269.trans (congrArg some (by kernel_rfl)),
  f300:=Tryz.func271.trans (congrArg some (by kernel_rfl)),
  f301:=Tryz.func272.trans (congrArg some (by kernel_rfl)),
  f328:=Tryz.func281.trans (congrArg some (by kernel_rfl)),
  f329:=Tryz.func282.trans (congrArg some (by kernel_rfl)),
  f330:=Tryz.func283.trans (congrArg some (by kernel_rfl)),
  f331:=Tryz.func284.trans (congrArg some (by kernel_rfl)),
  f332:=Tryz.func285.trans (congrArg some (by kernel_rfl)),
  f343:=Tryz.func297.trans (congrArg some (by kernel_rfl)),
  t0:=Tryz.underlying0,
  a0:=Tryz.isAgg0,
  z0:=Tryz.sizeOf0,
  v0:=Tryz.zeroValue0,
  t3:=Tryz.underlying3,
  a3:=Tryz.isAgg3,
  z3:=Tryz.sizeOf3,
  v3:=Tryz.zeroValue3,
  t4:=Tryz.underlying4,
  a4:=Tryz.isAgg4,
  z4:=Tryz.sizeOf4,
  v4:=Tryz.zeroValue4,
  t5:=Tryz.underlying5,
  a5:=Tryz.isAgg5,
  z5:=Tryz.sizeOf5,
  v5:=Tryz.zeroValue5,
  t9:=Tryz.underlying9,
  a9:=Tryz.isAgg9,
  z9:=Tryz.sizeOf9,
  v9:=Tryz.zeroValue9,
  t28:=Tryz.underlying205,
  a28:=Tryz.isAgg205,
  z28:=Tryz.sizeOf205,
  v28:=Tryz.zeroValue205,
  t46:=Tryz.underlying265,
  a46:=Tryz.isAgg265,
  z46:=Tryz.sizeOf265,
  v46:=Tryz.zeroValue265,
  t51:=Tryz.underlying284,
  a51:=Tryz.isAgg284,
  z51:=Tryz.sizeOf284,
  v51:=Tryz.zeroValue284,
  t53:=Tryz.underlying286,
  a53:=Tryz.isAgg286,
  z53:=Tryz.sizeOf286,
  v53:=Tryz.zeroValue286,
  t131:=Tryz.underlying196,
  a131:=Tryz.isAgg196,
  z131:=Tryz.sizeOf196,
  v131:=Tryz.zeroValue196,
  t182:=Tryz.underlying276,
  a182:=Tryz.isAgg276,
  z182:=Tryz.sizeOf276,
  v182:=Tryz.zeroValue276,
  t183:=Tryz.underlying277,
  a183:=Tryz.isAgg277,
  z183:=Tryz.sizeOf277,
  v183:=Tryz.zeroValue277,
  t218:=Tryz.underlying289,
  a218:=Tryz.isAgg289,
  z218:=Tryz.sizeOf289,
  v218:=Tryz.zeroValue289,
  t222:=Tryz.underlying293,
  a222:=Tryz.isAgg293,
  z222:=Tryz.sizeOf293,
  v222:=Tryz.zeroValue293,
  t228:=Tryz.underlying301,
  a228:=Tryz.isAgg301,
  z228:=Tryz.sizeOf301,
  v228:=Tryz.zeroValue301,
  t229:=Tryz.underlying302,
  a229:=Tryz.isAgg302,
  z229:=Tryz.sizeOf302,
  v229:=Tryz.zeroValue302 }
def Tryz.lays2_20_ren:Go.Shelf.Ren:=⟨fun | 20=>226 | n=>n,fun | 22=>205 | 3=>3 | 4=>4 | 0=>0 | n=>n,fun | n=>n⟩
theorem Tryz.lays2_20:Go.Proofs.Lays2.n20 Tryz.prog Tryz.lays2_20_ren:={
  mixed:=by kernel_rfl,
  f20:=Tryz.func226.trans (congrArg some (by kernel_rfl)),
  t0:=Tryz.underlying0,
  a0:=Tryz.isAgg0,
  z0:=Tryz.sizeOf0,
  v0:=Tryz.zeroValue0,
  t3:=Tryz.underlying3,
  a3:=Tryz.isAgg3,
  z3:=Tryz.sizeOf3,
  v3:=Tryz.zeroValue3,
  t4:=Tryz.underlying4,
  a4:=Tryz.isAgg4,
  z4:=Tryz.sizeOf4,
  v4:=Tryz.zeroValue4,
  t22:=Tryz.underlying205,
  a22:=Tryz.isAgg205,
  z22:=Tryz.sizeOf205,
  v22:=Tryz.zeroValue205,
  i3:=by kernel_rfl }
end Go.Proofs
end
section
set_option maxHeartbeats 2000000
namespace Go.TM.Tryz
open Go Go.TM Go.Proofs
theorem f223_ok (zs:List Int) (h:zs.length≤1048576):GenOK Tryz.prog 223 [.inl 1 (zs.map (V.int .i64))] [] ⟨false,.tup [],[.inl 1 ((sortI zs).map (V.int .i64))],[]⟩ :=
  sort_all (by omega) ⟨_,Tryz.func223,by kernel_rfl,by kernel_rfl⟩ (fun blk off cap w hH hb=>Any.slices_Sort_int Tryz.lays189 blk off cap zs w hH hb (by omega)) (fun a cap w=>Any.slices_Sort_int_none Tryz.lays189 a cap w)
theorem inj_ints {β:Type} (out:List Int→β):∀ a b:List Int,(([.inl 1 (a.map (V.int .i64))],[]):List V × List V)=([.inl 1 (b.map (V.int .i64))],[])→out a=out b:=by
  intro a b h
  simp only [Prod.mk.injEq,List.cons.injEq,and_true,V.inl.injEq,true_and] at h
  rw [map_inj (f:=V.int .i64) (by intro x y;simp) h]
noncomputable def c223:=ctrG (fun zs:List Int=>zs.length≤1048576) (fun zs=>([.inl 1 (zs.map (V.int .i64))],[])) (fun zs=>⟨false,.tup [],[.inl 1 ((sortI zs).map (V.int .i64))],[]⟩)
theorem c223_eq (zs:List Int) (h:zs.length≤1048576):c223 [.inl 1 (zs.map (V.int .i64))] []=some ⟨false,.tup [],[.inl 1 ((sortI zs).map (V.int .i64))],[]⟩:=ctrG_eq (inj_ints _) zs h rfl
theorem c223_ok:GOK Tryz.prog (223,[true],c223):=ctrG_ok fun zs h=>f223_ok zs h
theorem f226_ok (zs:List Int) (h:zs.length≤1048576):GenOK Tryz.prog 226 [.inl 1 (zs.map (V.int .i64))] [] ⟨true,.inl 1 ((Lib.compact zs).map (V.int .i64)),[.bad],[]⟩ :=
  compact_gen (by omega) ⟨_,Tryz.func226,by kernel_rfl,by kernel_rfl⟩ (fun blk off cap w hH hc=>Any.slices_Compact_int Tryz.lays2_20 blk off cap zs w hH (by omega) hc) (fun a cap w=>Any.slices_Compact_int_empty Tryz.lays2_20 a cap w)
noncomputable def c226:=ctrG (fun zs:List Int=>zs.length≤1048576) (fun zs=>([.inl 1 (zs.map (V.int .i64))],[])) (fun zs=>⟨true,.inl 1 ((Lib.compact zs).map (V.int .i64)),[.bad],[]⟩)
theorem c226_eq (zs:List Int) (h:zs.length≤1048576):c226 [.inl 1 (zs.map (V.int .i64))] []=some ⟨true,.inl 1 ((Lib.compact zs).map (V.int .i64)),[.bad],[]⟩:=ctrG_eq (inj_ints _) zs h rfl
theorem c226_ok:GOK Tryz.prog (226,[true],c226):=ctrG_ok fun zs h=>f226_ok zs h
end Go.TM.Tryz
end
section
set_option maxHeartbeats 2000000
namespace Go.TM
@[simp] theorem norms_ints (xs:List Int):norms (xs.map (V.int .i64))=xs.map (V.int .i64):=by rw [norms_map];simp
attribute [simp] noLs_ints
theorem int_inj:Function.Injective (V.int .i64):=by intro x y;simp
@[simp] theorem cut_ints (xs:List Int):(xs=[] ∨ (leaves ((Option.map (V.int .i64) xs[0]?).getD .bad)).length=1)=True:=cut_ok (f:=V.int .i64) (n:=1) (fun _=>rfl) xs
@[simp] theorem take_map_len {α:Type} (l:List α) (f:α→V):List.take l.length (l.map f)=l.map f:=List.take_of_length_le (by simp)
def hasR (t:S) (v:V) (z:Nat) (xs:List V):Prop:=∃ r,v=.own r∧r < t.nt∧t.R r=some ⟨z,xs,true⟩
@[simp] theorem hasR_own {t:S} {r z:Nat} {xs:List V}:hasR t (.own r) z xs ↔ r < t.nt∧t.R r=some ⟨z,xs,true⟩ :=
  ⟨fun ⟨_,h,h2⟩=>by cases h;exact h2,fun h=>⟨r,rfl,h⟩⟩
def hasI (l:List Int) (n:Int):Bool:=l.any fun x=>decide (x=n)
theorem hasI_iff {l:List Int} {n:Int}:hasI l n=true ↔ n ∈ l:=by
  simp only [hasI,List.any_eq_true,decide_eq_true_eq]
  constructor
  · rintro ⟨x,h,rfl⟩;exact h
  · exact fun h=>⟨n,h,rfl⟩
end Go.TM
namespace Go.TM.Tryz
open Go Go.TM Go.Proofs
theorem f251_ok (l:List Int) (s:Int) (hl:l.length≤lim):FunOK Tryz.prog 251 [.lst (l.map (V.int .i64)),.int .i64 s] false (.int .i64 (fstI (fun x=>decide (x=s)) l)):=by
  refine fun_ok (mkE_ok zmix (cl:=[]) (gl:=[]) [] trivial trivial) Tryz.func251 (by kernel_rfl) ?_
  refine FunW_run _ _ rfl rfl ?_
  simp only [lim] at hl
  simp
  refine lp_list l (fun i t=>t.e 1=.int .i64 s∧t.e 0=.lst (l.map (V.int .i64))∧t.e 7=.int .i64 l.length∧t.e 8=.int .i64 i∧anyI (fun x=>decide (x=s)) l i=false) ?_ ?_ ?_
  · simp
  · rintro c' L hL i t x hx hi ih ⟨h1,h7,h8,h9,hall⟩
    have hw:=wrI (i:=i) (by omega)
    simp [-getElem?_pos,List.getElem?_cons_zero,h1,h7,h8,h9,hL,hi,hx]
    split
    · rename_i hc
      exact (fst_yes hx (by simp [hc]) hall).symm
    · rename_i hc
      refine ih _ ?_
      simp [h1,h7,h8,h9,hw,anyI_succ hx,hall]
      exact fun h=>hc h.symm
  · rintro c' t ⟨h1,h7,h8,h9,hall⟩
    simp [h1,h7,h8,h9,fst_no hall]
noncomputable def c251:=ctr (fun a:List Int × Int=>a.1.length≤lim) (fun a=>[.lst (a.1.map (V.int .i64)),.int .i64 a.2]) (fun a=>(false,.int .i64 (fstI (fun x=>decide (x=a.2)) a.1)))
theorem c251_eq (l:List Int) (s:Int) (h:l.length≤lim):c251 [.lst (l.map (V.int .i64)),.int .i64 s]=some (false,.int .i64 (fstI (fun x=>decide (x=s)) l)):=ctr_eq (injl1 int_inj _) (l,s) h rfl
theorem c251_ok:COK Tryz.prog (251,c251):=ctr_ok fun a h=>f251_ok a.1 a.2 h
theorem f224_ok (l:List Int) (s:Int) (hl:l.length≤lim):FunOK Tryz.prog 224 [.lst (l.map (V.int .i64)),.int .i64 s] false (.bool (hasI l s)):=by
  refine fun_ok (mkE_ok zmix (cl:=[(251,c251)]) (gl:=[]) [] c251_ok trivial) Tryz.func224 (by kernel_rfl) ?_
  refine FunW_run _ _ rfl rfl ?_
  simp [c251_eq l s hl,fst_ge,hasI]
noncomputable def c224:=ctr (fun a:List Int × Int=>a.1.length≤lim) (fun a=>[.lst (a.1.map (V.int .i64)),.int .i64 a.2]) (fun a=>(false,.bool (hasI a.1 a.2)))
theorem c224_eq (l:List Int) (s:Int) (h:l.length≤lim):c224 [.lst (l.map (V.int .i64)),.int .i64 s]=some (false,.bool (hasI l s)):=ctr_eq (injl1 int_inj _) (l,s) h rfl
theorem c224_ok:COK Tryz.prog (224,c224):=ctr_ok fun a h=>f224_ok a.1 a.2 h
theorem f252_ok (l:List Int) (hl:l.length≤1048576):FunOK Tryz.prog 252 [.lst (l.map (V.int .i64))] false (.inl 1 (l.map (V.int .i64))):=by
  refine fun_ok (mkE_ok zmix (cl:=[]) (gl:=[]) [] trivial trivial) Tryz.func252 (by kernel_rfl) ?_
  refine FunW_run _ _ rfl rfl ?_
  have h1:l.length * 8≤140737488355328:=by omega
  have h2:l.length≤4294967296:=by omega
  cases l with
  | nil=>simp [room]
  | cons x xs=>simp at h1 h2;simp [room,h1,h2]
noncomputable def c252:=ctr (fun l:List Int=>l.length≤1048576) (fun l=>[.lst (l.map (V.int .i64))]) (fun l=>(false,.inl 1 (l.map (V.int .i64))))
theorem c252_eq (l:List Int) (h:l.length≤1048576):c252 [.lst (l.map (V.int .i64))]=some (false,.inl 1 (l.map (V.int .i64))):=ctr_eq (injl int_inj _) l h rfl
theorem c252_ok:COK Tryz.prog (252,c252):=ctr_ok fun l h=>f252_ok l h
end Go.TM.Tryz
end
section
set_option maxHeartbeats 2000000
namespace Go.TM.Tryz
open Go Go.TM Go.Proofs
def baseL (p:Bool) (x:Ty):List Int:=if (decide (0≤x.base) && (p || !decide (x.kind=6)))=true then [x.base] else []
def partsL (p:Bool) (x:Ty):List Int:=baseL p x ++ x.fields.map Fld.type
theorem baseL_len (p:Bool) (x:Ty):(baseL p x).length≤1:=by unfold baseL;split <;> simp
theorem f222_ok (x:Ty) (p:Bool) (hl:x.fields.length≤1048576):FunOK Tryz.prog 222 [x.v,.bool p] false (.inl 1 ((partsL p x).map (V.int .i64))):=by
  refine fun_ok (mkE_ok zmix (cl:=[]) (gl:=[]) [] trivial trivial) Tryz.func222 (by kernel_rfl) ?_
  refine FunW_run _ _ rfl rfl ?_
  have hr:room ⟨1,false,8,.int .i64 0⟩ 1:=by simp [room]
  simp
  split
  all_goals rename_i hc
  all_goals try refine ⟨hr,?_⟩
  all_goals
    refine lp_list x.fields (fun i t=>t.e 26=.lst (x.fields.map Fld.v)∧t.e 27=.int .i64 x.fields.length∧t.e 28=.int .i64 i∧hasR t (t.e 5) 1 ((baseL p x ++ (x.fields.take i).map Fld.type).map (V.int .i64))) ?_ ?_ ?_
    · simp [baseL,hc]
    · rintro c' L hL i t y hx hi ih ⟨h26,h27,h28,r,h5,hlt,hR⟩
      have hw:=wrI (i:=i) (by omega)
      have hr2:room ⟨1,false,8,.int .i64 0⟩ ((baseL p x).length + i + 1):=by have:=baseL_len p x;simp [room];omega
      have hne:¬ r=t.nt:=by omega
      have hmin:min i x.fields.length=i:=by omega
      simp [-getElem?_pos,gcz,gcs,h26,h27,h28,h5,hR,hL,hi,hx,hr,hr2,hmin,hne]
      refine ih _ ?_
      simp [h26,h27,h28,hw,List.take_add_one,hx]
    · rintro c' t ⟨h26,h27,h28,r,h5,hlt,hR⟩
      rw [List.take_length] at hR
      have hR':t.R r=some ⟨1,(partsL p x).map (V.int .i64),true⟩:=hR
      simp [h26,h27,h28,h5,hR']
noncomputable def c222:=ctr (fun a:Ty × Bool=>a.1.fields.length≤1048576) (fun a=>[a.1.v,.bool a.2]) (fun a=>(false,.inl 1 ((partsL a.2 a.1).map (V.int .i64))))
theorem inj222 {β:Type} (out:Ty × Bool→β):∀ a b:Ty × Bool,[a.1.v,.bool a.2]=[b.1.v,.bool b.2]→out a=out b:=by
  rintro ⟨a,c⟩ ⟨b,d⟩ h
  simp only [List.cons.injEq,and_true,V.bool.injEq] at h
  rw [Ty.v_inj h.1,h.2]
theorem c222_eq (x:Ty) (p:Bool) (h:x.fields.length≤1048576):c222 [x.v,.bool p]=some (false,.inl 1 ((partsL p x).map (V.int .i64))):=ctr_eq (inj222 _) (x,p) h rfl
theorem c222_ok:COK Tryz.prog (222,c222):=ctr_ok fun a h=>f222_ok a.1 a.2 h
noncomputable def c146:=ctr (fun _:Unit=>True) (fun _=>[]) (fun _=>(false,.inl 6 (baseTys.map Ty.o)))
theorem c146_eq:c146 []=some (false,.inl 6 (baseTys.map Ty.o)):=ctr_eq (by simp) () trivial rfl
theorem c146_ok:COK Tryz.prog (146,c146):=ctr_ok fun _ _=>f146_ok
end Go.TM.Tryz
end
