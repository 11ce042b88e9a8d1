/- The row: FnExactPutFile. -/
import Derived.Test.YtknondpcbpgpoaaGreatK28
import Derived.Test.YtknondpcbpgpoaaGreatRows
set_option linter.unusedVariables false
set_option linter.unusedSimpArgs false
section
set_option maxHeartbeats 16000000
set_option maxRecDepth 20000
namespace Go.TM.Tryz
open Go Go.TM Go.Proofs
theorem noS_len:ExLen noS:=⟨rfl,rfl,by simp [noS],by simp [noS],by simp [noS],by simp [noS]⟩
theorem noS_lim:noS.lim:=by simp [noS,Scp.lim,limL,lim,ba_nil_size]
theorem readI_len (b:ByteArray) (hb:b.size≤lim):ExLen (readI b).1∧(readI b).1.lim:=by
  have h0:ExLen noS∧noS.lim:=⟨noS_len,noS_lim⟩
  unfold readI
  split
  · exact h0
  · split
    · exact h0
    · split
      · exact h0
      · split
        · exact h0
        · split
          · exact h0
          · split
            · exact h0
            · rename_i h
              simp only [Bool.not_eq_false] at h
              have hs:=scopeI_ex (s:=⟨(numbO b).1.1,[],baseTys ++ (numbO b).1.2.1,(numbO b).1.2.2,[]⟩) (by simp only [isB,Bool.and_eq_true] at h;exact h.1)
              exact ⟨⟨rfl,rfl,hs.t24,hs.f6,hs.o16,hs.p4⟩,numbS_lim hb⟩
noncomputable def c19:=ctr (fun b:ByteArray=>b.size≤1048576) (fun b=>[.str b]) (fun b=>(false,.tup [(readF b).1.o,.int .i64 (readF b).2.1,.int .i64 (readF b).2.2,.bool (decide ((readF b).2.1=0))]))
theorem c19_eq (b:ByteArray) (h:b.size≤1048576):c19 [.str b]=some (false,.tup [(readF b).1.o,.int .i64 (readF b).2.1,.int .i64 (readF b).2.2,.bool (decide ((readF b).2.1=0))]):=ctr_eq (by simp) b h rfl
theorem c19_ok:COK Tryz.prog (19,c19):=ctr_ok fun b h=>f19_ok b h
end Go.TM.Tryz
end
section
set_option maxHeartbeats 16000000
set_option maxRecDepth 20000
namespace Go.TM.Tryz
open Go Go.TM Go.Proofs
theorem good_len {xs:List Mdl} (h:goodB xs=true):xs.length≤8:=by
  have:=good_mods h
  simp only [modsB,Bool.and_eq_true,decide_eq_true_eq,mdsL_len] at this
  exact this.2
noncomputable def putR (xs:List Mdl) (b:ByteArray):List Mdl × Int × Int × Bool :=
  if goodB xs=false then ([],0,0,false) else if ¬ (readI b).2.1=0 then ([],(readI b).2.1,(readI b).2.2,false)
  else if putB xs ⟨(readI b).1,[]⟩=false then ([],40,0,false) else (putL xs ⟨(readI b).1,[]⟩,0,0,true)
noncomputable def putO (xs:List Mdl) (b:ByteArray):V:=.tup [.inl 6 ((putR xs b).1.map Mdl.o),.int .i64 (putR xs b).2.1,.int .i64 (putR xs b).2.2.1,.bool (putR xs b).2.2.2]
theorem f54_ok (xs:List Mdl) (b:ByteArray) (h:StOK xs) (hb:b.size≤1048576):FunOK Tryz.prog 54 [.lst (xs.map Mdl.v),.str b] false (putO xs b):=by
  refine fun_ok (mkE_ok zmix (cl:=[(81,c81),(19,c19)]) (gl:=[(106,[false,true],c106)]) [] ⟨c81_ok,c19_ok⟩ c106_ok) Tryz.func54 (by kernel_rfl) ?_
  refine FunW_run _ _ rfl rfl ?_
  have e81:=c81_eq xs h
  have e19:=c19_eq b hb
  rw [← read_same] at e19
  have hP:=putR.eq_1 xs b
  have hlen:=h.len.len
  cases hg:goodB xs with
  | false =>
    rw [hg] at e81
    simp [e81,putO,hP,hg]
  | true =>
    rw [hg] at e81
    have h8:=good_len hg
    rw [hg] at hP
    generalize readI b=q at *
    obtain ⟨X,n,a⟩:=q
    have e106:=c106_eq xs ⟨X,[]⟩ h h8
    simp only [putV,Mdl.o,List.map_nil] at e106
    simp only [Scp.o] at e19
    simp only at hP
    by_cases hn:n=0
    · subst hn
      cases hp:putB xs ⟨X,[]⟩ with
      | false =>
        rw [hp] at e106
        simp [e81,e19,e106,putO,hP,hp]
      | true =>
        rw [hp] at e106
        simp [e81,e19,e106,putO,hP,hp]
    · simp [e81,e19,putO,hP,hn]
theorem f55_ok (xs:List Mdl) (b:ByteArray) (h:StOK xs) (hb:b.size≤1048576):FunOK Tryz.prog 55 [.lst (xs.map Mdl.v),.str b] false (putO xs b):=by
  refine fun_ok (mkE_ok zmix (cl:=[(84,c84),(79,c79)]) (gl:=[(107,[false,true],c107)]) [] ⟨c84_ok,c79_ok⟩ c107_ok) Tryz.func55 (by kernel_rfl) ?_
  refine FunW_run _ _ rfl rfl ?_
  have e84:=c84_eq xs h
  have e79:=c79_eq b hb
  have hP:=putR.eq_1 xs b
  have hlen:=h.len.len
  cases hg:goodB xs with
  | false =>
    rw [hg] at e84
    simp [e84,putO,hP,hg]
  | true =>
    rw [hg] at e84
    have h8:=good_len hg
    rw [hg] at hP
    generalize readI b=q at *
    obtain ⟨X,n,a⟩:=q
    have e107:=c107_eq xs ⟨X,[]⟩ h h8
    simp only [putW,Mdl.o,List.map_nil] at e107
    simp only [Scp.o] at e79
    simp only at hP
    by_cases hn:n=0
    · subst hn
      cases hp:putB xs ⟨X,[]⟩ with
      | false =>
        have hi:putI xs ⟨X,[]⟩=[]:=by simp [putI,hp]
        rw [hp,hi] at e107
        simp [e84,e79,e107,putO,hP,hp]
      | true =>
        have hi:putI xs ⟨X,[]⟩=putL xs ⟨X,[]⟩:=by simp [putI,hp]
        rw [hp,hi] at e107
        simp [e84,e79,e107,putO,hP,hp]
    · simp [e84,e79,putO,hP,hn]
end Go.TM.Tryz
end
section
set_option maxHeartbeats 4000000
namespace Go.TM
open Go
section
variable {P:Program} {E:Env} {M:Mem} {W:World} {s:S} {n:Nat} {a:Act}
end
end Go.TM
end
section
set_option maxHeartbeats 4000000
namespace Go.TM
open Go
structure DG where
  t:Nat
  b:Nat
  o:Nat
  n:Nat
  c:Nat
def DG.ok (D:DG) (M:Mem):Prop:=D.t < M.nt∧M.ρ D.t=.slice (some ⟨D.b,D.o,none⟩) D.n D.c
def InvD (M0:Mem) (W0:World):Option DG→Mem→World→Prop:=fun g M W=>Evo M0 W0 M W∧∀ D,g=some D→D.ok M
theorem DG.ok_evo {D:DG} {M M':Mem} {W W':World} (h:D.ok M) (he:Evo M W M' W'):D.ok M':=⟨Nat.lt_of_lt_of_le h.1 he.nt,(he.ρ _ h.1).trans h.2⟩
theorem InvD.evo {M0:Mem} {W0:World} (g:Option DG) (M:Mem) (W:World) (M':Mem) (W':World) (h:InvD M0 W0 g M W) (he:Evo M W M' W'):InvD M0 W0 g M' W':=⟨h.1.trans he,fun D e=>DG.ok_evo (h.2 D e) he⟩
def cutH (z:Nat) (D:DG) (l h:Nat):Hdr:=.sl (if D.c=l then some ⟨D.b,D.o,none⟩ else some ⟨D.b,D.o + l * z,none⟩) (h - l) (D.c - l)
def loIs (s:S) (lo:Option Operand) (l:Nat):Prop:=match lo with
  | none=>l=0
  | some y=>needs true s [y]∧opnd s y=.int .i64 l
def hiIs (s:S) (hi:Option Operand) (h m:Nat):Prop:=match hi with
  | none=>h=m
  | some y=>needs true s [y]∧opnd s y=.int .i64 h
section
variable {P:Program} {E:Env} {n:Nat} {M0:Mem} {W0:World}
end
end Go.TM
end
section
namespace Go.TM
open Go
def rCutP (z:Nat) (xs:List V) (l h:Nat) (x:Operand) (lo hi:Option Operand) (d:Option Tmp):Rule (Option DG):=fun s g K =>
  ∃ t,needs true s [x]∧opnd s x=.own t∧s.R t=some ⟨z,xs,true⟩∧loIs s lo l∧hiIs s hi h xs.length∧(∀ D,g=some D→D.t=t) ∧
    ∀ D:DG,D.t=t→D.n=xs.length→D.n≤D.c→(∀ D',g=some D'→D'=D)→K (s.put d (.raw (cutH z D l h))) (some D)
def rAppP (z:Nat) (xs:List V) (i j:Nat) (x y:Operand) (d:Option Tmp):Rule (Option DG):=fun s g K =>
  ∃ D,g=some D∧needs true s [x,y]∧opnd s x=.raw (cutH z D 0 i)∧opnd s y=.raw (cutH z D j xs.length)∧D.n=xs.length∧s.R D.t=some ⟨z,xs,true⟩ ∧
    K (((s.drops [D.t]).newR z (xs.take i ++ xs.drop j)).put d (.own s.nt)) (some ⟨s.nt,D.b,D.o,(xs.take i ++ xs.drop j).length,D.c⟩)
theorem RuleOK.imp {Γ:Type} {P:Program} {n:Nat} {Inv:Γ→Mem→World→Prop} {o:Oper} {r r':Rule Γ} (h:RuleOK Inv P n o r) (hr:∀ s g K,r' s g K→r s g K):RuleOK Inv P n o r':=fun s g a W M K Q h1 h2 h3=>h s g a W M K Q h1 h2 (hr s g K h3)
section
variable {P:Program} {E:Env} {n:Nat} {M0:Mem} {W0:World}
end
end Go.TM
end
section
set_option maxHeartbeats 16000000
set_option maxRecDepth 20000
namespace Go.TM.Tryz
open Go Go.TM Go.Proofs
noncomputable def ED:Env:=mkE Tryz.prog [(81,c81),(89,c89),(90,c90)] [] []
@[simp] theorem ED_ti:ED.ti=tiOf Tryz.prog:=rfl
@[simp] theorem ED_el:ED.el=elOf Tryz.prog:=rfl
@[simp] theorem ED_fld:ED.fld=Go.TM.fldOf Tryz.prog:=rfl
@[simp] theorem ED_str:ED.str=strOf Tryz.prog:=rfl
@[simp] theorem ED_bol:ED.bol=bolOf Tryz.prog:=rfl
@[simp] theorem ED_int:ED.int=intOf Tryz.prog:=rfl
@[simp] theorem ED_bld:ED.bld=bldOf Tryz.prog:=rfl
@[simp] theorem ED_eqs:ED.eqs=eqsOf Tryz.prog:=rfl
@[simp] theorem ED_call:ED.call=callL [(81,c81),(89,c89),(90,c90)]:=rfl
@[simp] theorem ED_rw:ED.rw=rwL []:=rfl
@[simp] theorem ED_gen:ED.gen=genL []:=rfl
@[simp] theorem ED_plan:ED.plan=planL []:=rfl
@[simp] theorem ED_pln:ED.pln=fun _=>none:=rfl
def tx30:TX:=.two false 2 (.one false 5 (.one false 6 (.one false 7 (.one false 8 (.one false 9 .done))))) false 5 (.two false 2 (.one false 6 (.one false 7 (.one false 8 (.one false 9 .done)))) false 6 (.one false 2 (.one false 7 (.one false 8 (.one false 9 .done)))))
def pl30:Pl:=⟨[0,1,3,4],[],[],[2,5,6,7,8,9],.done⟩
noncomputable def r30 (xs:List V) (k:Nat) (i:Nat):Option (Rule (Option DG)):=if i=2 then some (rCutP 6 xs 0 k (.tmp 20) none (some (.tmp 21)) (some 22)) else if i=6 then some (rCutP 6 xs (k + 1) xs.length (.tmp 23) (some (.tmp 25)) none (some 26)) else if i=7 then some (rAppP 6 xs k (k + 1) (.tmp 22) (.tmp 26) (some 27)) else none
noncomputable def C30 (xs:List V) (k:Nat) (id:Nat):Option (Array Oper→Rule (Option DG)):=if id=5 then some (fun ops=>cutR2 ED (r30 xs k) ops pl30 tx30) else none
attribute [simp] C30 r30
end Go.TM.Tryz
end
section
set_option maxHeartbeats 16000000
set_option maxRecDepth 20000
namespace Go.TM.Tryz
open Go Go.TM Go.Proofs
end Go.TM.Tryz
end
section
set_option maxHeartbeats 4000000
namespace Go.TM
open Go
def intIs (s:S) (y:Operand) (l:Nat):Prop:=needs true s [y]∧opnd s y=.int .i64 l
def rCut3 (z:Nat) (xs:List V) (l h m:Nat) (x lo hi mx:Operand) (d:Option Tmp):Rule (Option DG):=fun s g K =>
  ∃ t,needs true s [x]∧opnd s x=.own t∧s.R t=some ⟨z,xs,true⟩∧intIs s lo l∧intIs s hi h∧intIs s mx m∧K (s.put d .bad) g
def rCutT (z l h:Nat) (x lo hi:Operand) (d:Option Tmp):Rule (Option DG):=fun s g K =>
  ∃ D,g=some D∧needs true s [x]∧opnd s x=.own D.t∧intIs s lo l∧intIs s hi h∧l≤h∧h≤D.c∧K (s.put d (.raw (cutH z D l h))) g
def rClear (z:Nat) (xs:List V) (l h:Nat) (x:Operand):Rule (Option DG):=fun s g K =>
  ∃ D,g=some D∧needs true s [x]∧opnd s x=.raw (cutH z D l h)∧s.R D.t=some ⟨z,xs,true⟩∧D.n≤l∧l < h∧h≤D.c∧K s g
section
variable {P:Program} {E:Env} {n:Nat} {M0:Mem} {W0:World}
end
end Go.TM
end
section
set_option maxHeartbeats 4000000
namespace Go.TM
open Go
section
variable {P:Program} {E:Env} {n:Nat} {M0:Mem} {W0:World}
end
end Go.TM
end
section
set_option maxHeartbeats 16000000
set_option maxRecDepth 20000
namespace Go.TM.Tryz
open Go Go.TM Go.Proofs
noncomputable def E9:Env:=mkE Tryz.prog [] [] []
@[simp] theorem E9_ti:E9.ti=tiOf Tryz.prog:=rfl
@[simp] theorem E9_el:E9.el=elOf Tryz.prog:=rfl
@[simp] theorem E9_fld:E9.fld=Go.TM.fldOf Tryz.prog:=rfl
@[simp] theorem E9_str:E9.str=strOf Tryz.prog:=rfl
@[simp] theorem E9_bol:E9.bol=bolOf Tryz.prog:=rfl
@[simp] theorem E9_int:E9.int=intOf Tryz.prog:=rfl
@[simp] theorem E9_bld:E9.bld=bldOf Tryz.prog:=rfl
@[simp] theorem E9_eqs:E9.eqs=eqsOf Tryz.prog:=rfl
@[simp] theorem E9_call:E9.call=callL []:=rfl
@[simp] theorem E9_rw:E9.rw=rwL []:=rfl
@[simp] theorem E9_gen:E9.gen=genL []:=rfl
@[simp] theorem E9_plan:E9.plan=planL []:=rfl
@[simp] theorem E9_pln:E9.pln=fun _=>none:=rfl
@[simp] theorem startX3_0 (s:S) (a b c:V):(startX s [a,b,c]).e 0=a:=keep rfl
@[simp] theorem startX3_1 (s:S) (a b c:V):(startX s [a,b,c]).e 1=b:=keep rfl
@[simp] theorem startX3_2 (s:S) (a b c:V):(startX s [a,b,c]).e 2=c:=keep rfl
def tx92:TX:=.two false 2 (.one false 5 (.one false 6 (.one false 7 .done))) false 5 (.one false 2 (.one false 6 (.one false 7 .done)))
def pl92:Pl:=⟨[0,1,3,4],[],[],[2,5,6,7],.done⟩
noncomputable def r92a (xs:List V) (i j:Nat) (x:Nat):Option (Rule (Option DG)):=if x=5 then some (rCut3 6 xs i j xs.length (.tmp 8) (.tmp 9) (.tmp 10) (.tmp 12) (some 13)) else none
noncomputable def r92b (xs:List V) (i j:Nat) (x:Nat):Option (Rule (Option DG)):=if x=2 then some (rCutP 6 xs 0 i (.tmp 20) none (some (.tmp 21)) (some 22)) else if x=5 then some (rCutP 6 xs j xs.length (.tmp 23) (some (.tmp 24)) none (some 25)) else if x=6 then some (rAppP 6 xs i j (.tmp 22) (.tmp 25) (some 26)) else none
noncomputable def r92c (xs ys:List V) (x:Nat):Option (Rule (Option DG)):=if x=4 then some (rCutT 6 ys.length xs.length (.tmp 27) (.tmp 29) (.tmp 30) (some 31)) else if x=5 then some (rClear 6 ys ys.length xs.length (.tmp 31)) else none
noncomputable def C92 (xs:List V) (i j:Nat) (id:Nat):Option (Array Oper→Rule (Option DG)) :=
  if id=1 then some (seqR E9 (r92a xs i j)) else if id=5 then some (fun ops=>cutR2 E9 (r92b xs i j) ops pl92 tx92) else if id=6 then some (seqR E9 (r92c xs (xs.take i ++ xs.drop j))) else none
attribute [simp] C92 r92a r92b r92c
end Go.TM.Tryz
end
section
set_option maxHeartbeats 8000000
set_option maxRecDepth 20000
namespace Go.TM.Tryz
open Go Go.TM Go.Proofs
theorem nsk1 (n:Nat):(1=n + 1 + 1)=(n + 1=0):=by simp
theorem nsk2 (n:Nat):(1=n + 1 + 1 + 1)=(n + 1 + 1=0):=by simp
theorem nsk3 (n:Nat):(n=n + 1 + 1)=False:=eq_false (by omega)
theorem nsk4 (n:Nat):(n=n + 1 + 1 + 1)=False:=eq_false (by omega)
theorem nsk5 (n:Nat):(n + 1 + 1=n)=False:=eq_false (by omega)
theorem nsk6 (n:Nat):(n + 1 + 1 + 1=n)=False:=eq_false (by omega)
def mkScs (k:Int) (x:Scp):Scp :=
  ⟨mtext k,mkL mkStr cStr (k + 1) x.imports,mkL mkTy cTy (k + 1 + (cnt cStr x.imports:Nat)) x.types,mkL mkObj cObj (k + 1 + (cnt cStr x.imports:Nat) + (cnt cTy x.types:Nat)) x.objects,
    mkL mkUse cUse (k + 1 + (cnt cStr x.imports:Nat) + (cnt cTy x.types:Nat) + (cnt cObj x.objects:Nat)) x.uses⟩
def cScs (x:Scp):Nat:=1 + cnt cStr x.imports + cnt cTy x.types + cnt cObj x.objects + cnt cUse x.uses
def ScpLen (x:Scp):Prop:=x.imports.length≤4611686018427387904∧(x.types.length≤4611686018427387904∧∀ y ∈ x.types,y.fields.length≤4611686018427387904)∧(x.objects.length≤4611686018427387904∧∀ y ∈ x.objects,y.params.length≤4611686018427387904)∧x.uses.length≤4611686018427387904
theorem Scp.o_inj:Function.Injective Scp.o:=by
  rintro ⟨⟩ ⟨⟩ h
  simp only [Scp.o,V.agg.injEq,List.cons.injEq,V.inl.injEq,V.str.injEq,true_and,and_true] at h
  rw [Scp.mk.injEq]
  exact ⟨h.1,map_inj str_inj h.2.1,map_inj Ty.o_inj h.2.2.1,map_inj Obj.o_inj h.2.2.2.1,map_inj Use.v_inj h.2.2.2.2⟩
end Go.TM.Tryz
end
section
set_option maxHeartbeats 8000000
set_option maxRecDepth 20000
namespace Go.TM.Tryz
open Go Go.TM Go.Proofs
theorem nsk7 (n:Nat):(1=n + 1 + 1 + 1 + 1)=(n + 1 + 1 + 1=0):=by simp
theorem nsk8 (n:Nat):(n=n + 1 + 1 + 1 + 1)=False:=eq_false (by omega)
theorem nsk9 (n:Nat):(n + 1 + 1 + 1 + 1=n)=False:=eq_false (by omega)
theorem nsk10 (n:Nat):(1=n + 1 + 1 + 1 + 1 + 1)=(n + 1 + 1 + 1 + 1=0):=by simp
theorem nsk11 (n:Nat):(n=n + 1 + 1 + 1 + 1 + 1)=False:=eq_false (by omega)
theorem nsk12 (n:Nat):(n + 1 + 1 + 1 + 1 + 1=n)=False:=eq_false (by omega)
theorem f83_ok (x:Mdl) (h:x.sz≤1048576):FunOK Tryz.prog 83 [x.v] false x.o:=by
  refine fun_ok (mkE_ok zmix (cl:=[(14,c14),(42,c42)]) (gl:=[]) [] ⟨c14_ok,c42_ok⟩ trivial) Tryz.func83 (by kernel_rfl) ?_
  refine FunW_run _ _ rfl rfl ?_
  simp only [Mdl.sz] at h
  have e0:=c14_eq x.scope.name x.scope.imports x.scope.types x.scope.objects x.scope.uses (by show x.scope.sz≤1048576;omega)
  have e1:=c42_eq x.seen (by omega)
  simp [e0,e1]
noncomputable def c83:=ctr (fun x:Mdl=>x.sz≤1048576) (fun x=>[x.v]) (fun x=>(false,x.o))
theorem c83_eq (x:Mdl) (h:x.sz≤1048576):c83 [x.v]=some (false,x.o):=ctr_eq (inj0 Mdl.v_inj _) x h rfl
theorem c83_ok:COK Tryz.prog (83,c83):=ctr_ok fun n h=>f83_ok n h
theorem f23_ok (xs:List Mdl) (h:szL Mdl.sz xs≤1048576):FunOK Tryz.prog 23 [.lst (xs.map Mdl.v)] false (.inl 6 (xs.map Mdl.o)):=by
  refine fun_ok (mkE_ok zmix (cl:=[(83,c83)]) (gl:=[]) [] c83_ok trivial) Tryz.func23 (by kernel_rfl) ?_
  refine FunW_run _ _ rfl rfl ?_
  have hl:=szL_len Mdl.sz xs
  have hb2:xs.length * 136≤140737488355328:=by omega
  have hb3:xs.length≤4294967296:=by omega
  simp [room,hb2,hb3]
  refine lp_list xs (fun i t=>t.e 0=.lst (xs.map Mdl.v)∧t.e 4=.int .i64 i∧t.e 3=.own 1∧2≤t.nt∧t.nb=0∧t.R 1=some ⟨6,fill Mdl.o (.agg [.str ⟨#[]⟩,.inl 1 [],.inl 6 [],.inl 6 [],.inl 2 [],.inl 3 []]) xs i,true⟩) ?_ ?_ ?_
  · simp [fill_zero]
  · rintro c' L hL i t x hx hi ih ⟨h0,h4,h3,hnt,hnb,hR⟩
    have hw:=wrI (i:=i) (by omega)
    have hn:¬ 1=t.nt:=by omega
    have hn0:¬ t.nt=0:=by omega
    have hc:=c83_eq x (Nat.le_trans (szL_get hx) h)
    simp only [Mdl.v,Mdl.o] at hc
    simp [-getElem?_pos,gcz,gcs,h0,h4,h3,hnb,hR,hL,hx,hi,fill_get hi,hn,hn0,nsk1,nsk2,nsk3,nsk4,nsk5,nsk6,nsk7,nsk8,nsk9,nsk10,nsk11,nsk12,hc]
    refine ih _ ?_
    simp [-getElem?_pos,gcz,gcs,h0,h4,h3,hnb,hR,hL,hx,hi,hw,hn,hn0,nsk1,nsk2,nsk3,nsk4,nsk5,nsk6,nsk7,nsk8,nsk9,nsk10,nsk11,nsk12]
    first | exact ⟨by omega,fill_set hx rfl⟩ | exact fill_set hx rfl
  · rintro c' t ⟨h0,h4,h3,hnt,hnb,hR⟩
    simp [h0,h4,h3,hnb,hR,fill_all]
noncomputable def c23:=ctr (fun xs:List Mdl=>szL Mdl.sz xs≤1048576) (fun xs=>[.lst (xs.map Mdl.v)]) (fun xs=>(false,.inl 6 (xs.map Mdl.o)))
theorem c23_eq (xs:List Mdl) (h:szL Mdl.sz xs≤1048576):c23 [.lst (xs.map Mdl.v)]=some (false,.inl 6 (xs.map Mdl.o)):=ctr_eq (injl Mdl.v_inj _) xs h rfl
theorem c23_ok:COK Tryz.prog (23,c23):=ctr_ok fun n h=>f23_ok n h
end Go.TM.Tryz
end
section
set_option maxHeartbeats 2000000
namespace Go.TM.Tryz
open Go Go.TM Go.Proofs
theorem f97_ok (x:Knw) (h:x.lim):FunOK Tryz.prog 97 [x.v,x.v] false (.bool true):=by
  refine fun_ok (mkE_ok zmix (cl:=[]) (gl:=[]) [] trivial trivial) Tryz.func97 (by kernel_rfl) ?_
  refine FunW_run _ _ rfl rfl ?_
  simp []
noncomputable def c97:=ctr (fun x:Knw=>x.lim) (fun x=>[x.v,x.v]) (fun _=>(false,.bool true))
theorem c97_eq (x:Knw) (h:x.lim):c97 [x.v,x.v]=some (false,.bool true):=ctr_eq (fun _ _ _=>rfl) x h rfl
theorem c97_ok:COK Tryz.prog (97,c97):=ctr_ok fun x h=>f97_ok x h
theorem f37_ok (xs:List Knw) (hlim:limL Knw.lim xs):FunOK Tryz.prog 37 [.lst (xs.map Knw.v),.lst (xs.map Knw.v)] false (.bool true):=by
  refine fun_ok (mkE_ok zmix (cl:=[(97,c97)]) (gl:=[]) [] c97_ok trivial) Tryz.func37 (by kernel_rfl) ?_
  refine FunW_run _ _ rfl rfl ?_
  have hlen:=hlim.1
  simp only [lim] at hlen
  simp
  refine lp_list xs (fun i t=>t.e 0=.lst (xs.map Knw.v)∧t.e 1=.lst (xs.map Knw.v)∧t.e 5=.int .i64 i) ?_ ?_ ?_
  · simp
  · rintro c' L hL i t x hx hi ih ⟨g0,g1,g5⟩
    have hw:=wrI (i:=i) (by omega)
    have e:=c97_eq x (hlim.2 x (List.mem_of_getElem? hx))
    simp only [Knw.v] at e
    simp [-getElem?_pos,gcz,gcs,g0,g1,g5,hL,hx,hi,e]
    refine ih _ ?_
    simp [-getElem?_pos,gcz,gcs,g0,g1,g5,hL,hx,hi,hw]
  · rintro c' t ⟨g0,g1,g5⟩
    simp [g0,g1,g5]
noncomputable def c37:=ctr (fun xs:List Knw=>limL Knw.lim xs) (fun xs=>[.lst (xs.map Knw.v),.lst (xs.map Knw.v)]) (fun _=>(false,.bool true))
theorem c37_eq (xs:List Knw) (h:limL Knw.lim xs):c37 [.lst (xs.map Knw.v),.lst (xs.map Knw.v)]=some (false,.bool true):=ctr_eq (fun _ _ _=>rfl) xs h rfl
theorem c37_ok:COK Tryz.prog (37,c37):=ctr_ok fun xs h=>f37_ok xs h
end Go.TM.Tryz
end
section
set_option maxHeartbeats 4000000
namespace Go.TM.Tryz
open Go Go.TM Go.Proofs
theorem f87_ok (x:Mdl) (h:x.lim):FunOK Tryz.prog 87 [x.v,x.v] false (.bool true):=by
  refine fun_ok (mkE_ok zmix (cl:=[(16,c16),(37,c37)]) (gl:=[]) [] ⟨c16_ok,c37_ok⟩ trivial) Tryz.func87 (by kernel_rfl) ?_
  refine FunW_run _ _ rfl rfl ?_
  have e0:=c16_eq x.scope h.1
  simp only [Scp.v] at e0
  have e1:=c37_eq x.seen h.2
  simp [e0,e1]
noncomputable def c87:=ctr (fun x:Mdl=>x.lim) (fun x=>[x.v,x.v]) (fun _=>(false,.bool true))
theorem c87_eq (x:Mdl) (h:x.lim):c87 [x.v,x.v]=some (false,.bool true):=ctr_eq (fun _ _ _=>rfl) x h rfl
theorem c87_ok:COK Tryz.prog (87,c87):=ctr_ok fun x h=>f87_ok x h
theorem f26_ok (xs:List Mdl) (hlim:limL Mdl.lim xs):FunOK Tryz.prog 26 [.lst (xs.map Mdl.v),.lst (xs.map Mdl.v)] false (.bool true):=by
  refine fun_ok (mkE_ok zmix (cl:=[(87,c87)]) (gl:=[]) [] c87_ok trivial) Tryz.func26 (by kernel_rfl) ?_
  refine FunW_run _ _ rfl rfl ?_
  have hlen:=hlim.1
  simp only [lim] at hlen
  simp
  refine lp_list xs (fun i t=>t.e 0=.lst (xs.map Mdl.v)∧t.e 1=.lst (xs.map Mdl.v)∧t.e 5=.int .i64 i) ?_ ?_ ?_
  · simp
  · rintro c' L hL i t x hx hi ih ⟨g0,g1,g5⟩
    have hw:=wrI (i:=i) (by omega)
    have e:=c87_eq x (hlim.2 x (List.mem_of_getElem? hx))
    simp only [Mdl.v] at e
    simp [-getElem?_pos,gcz,gcs,g0,g1,g5,hL,hx,hi,e]
    refine ih _ ?_
    simp [-getElem?_pos,gcz,gcs,g0,g1,g5,hL,hx,hi,hw]
  · rintro c' t ⟨g0,g1,g5⟩
    simp [g0,g1,g5]
noncomputable def c26:=ctr (fun xs:List Mdl=>limL Mdl.lim xs) (fun xs=>[.lst (xs.map Mdl.v),.lst (xs.map Mdl.v)]) (fun _=>(false,.bool true))
theorem c26_eq (xs:List Mdl) (h:limL Mdl.lim xs):c26 [.lst (xs.map Mdl.v),.lst (xs.map Mdl.v)]=some (false,.bool true):=ctr_eq (fun _ _ _=>rfl) xs h rfl
theorem c26_ok:COK Tryz.prog (26,c26):=ctr_ok fun xs h=>f26_ok xs h
end Go.TM.Tryz
end
section
set_option maxHeartbeats 2000000
namespace Go.TM.Tryz
open Go Go.TM Go.Proofs
theorem f38_ok (xs:List Knw) (k:Int) (h0:0≤k) (h1:k + cnt cKnw xs≤4611686018427387904) (h2:xs.length≤4611686018427387904):GenOK Tryz.prog 38 [.inl 3 (xs.map Knw.v),.int .i64 k] [] ⟨false,.int .i64 (k + cnt cKnw xs),[.inl 3 ((mkL mkKnw cKnw k xs).map Knw.v)],[]⟩:=by
  refine fun_okG (mkE_ok zmix (cl:=[(88,c88)]) (gl:=[]) [] c88_ok trivial) Tryz.func38 (by kernel_rfl) ?_
  refine FunG_run _ _ rfl rfl ?_
  have hlen:=h2
  simp
  refine lp_list xs (fun i t=>t.e 0=.own 0∧t.e 1=.int .i64 (k + pre cKnw xs i)∧t.e 5=.int .i64 i∧t.nb=0∧1≤t.nt∧t.R 0=some ⟨3,(mpart mkKnw cKnw k xs i).map Knw.v,true⟩) ?_ ?_ ?_
  · simp [pre_zero,mpart_zero]
  · rintro c' L hL i t x hx hi ih ⟨g0,g1,g5,gnb,gnt,gR⟩
    have hw:=wrI (i:=i) (by omega)
    have hp:=pre_succ cKnw hx
    have hp2:=pre_le cKnw xs (i + 1)
    have hc:cKnw x=3:=rfl
    have hcnt:(xs.map cKnw).sum=cnt cKnw xs:=rfl
    have e0:=c88_eq (k + (pre cKnw xs i:Nat)) (by omega)
    have w0:IntKind.i64.wrap (k + (pre cKnw xs i:Nat) + 1)=k + (pre cKnw xs i:Nat) + 1:=wrap64 (by omega) (by omega)
    have e1:=c88_eq (k + (pre cKnw xs i:Nat) + 1) (by omega)
    have w1:IntKind.i64.wrap (k + (pre cKnw xs i:Nat) + 1 + 1)=k + (pre cKnw xs i:Nat) + 1 + 1:=wrap64 (by omega) (by omega)
    have w2:IntKind.i64.wrap (k + (pre cKnw xs i:Nat) + 1 + 1 + 1)=k + (pre cKnw xs i:Nat) + 1 + 1 + 1:=wrap64 (by omega) (by omega)
    have hx':=mpart_get (f:=mkKnw) (c:=cKnw) (k:=k) hx
    simp [-getElem?_pos,gcz,gcs,g0,g1,g5,gnb,gR,hL,hx',hi,e0,w0,e1,w1,w2]
    refine ih _ ?_
    simp [-getElem?_pos,gcz,gcs,g0,g1,g5,gnb,gR,hL,hx',hi,e0,w0,e1,w1,w2,hp,hc,hw]
    first
      | exact ⟨by omega,by omega,mpart_setv hx rfl⟩
      | exact ⟨by omega,mpart_setv hx rfl⟩
      | exact mpart_setv hx rfl
  · rintro c' t ⟨g0,g1,g5,gnb,gnt,gR⟩
    simp only [pre_all] at g1
    simp [g0,g1,g5,gnb,gR,mpart_all,cnt]
noncomputable def c38:=ctrG (fun a:List Knw × Int=>0≤a.2∧a.2 + cnt cKnw a.1≤4611686018427387904∧(a.1.length≤4611686018427387904)) (fun a=>([.inl 3 (a.1.map Knw.v),.int .i64 a.2],[])) (fun a=>⟨false,.int .i64 (a.2 + cnt cKnw a.1),[.inl 3 ((mkL mkKnw cKnw a.2 a.1).map Knw.v)],[]⟩)
theorem c38_eq (xs:List Knw) (k:Int) (h0:0≤k) (h1:k + cnt cKnw xs≤4611686018427387904) (h2:xs.length≤4611686018427387904):c38 [.inl 3 (xs.map Knw.v),.int .i64 k] []=some ⟨false,.int .i64 (k + cnt cKnw xs),[.inl 3 ((mkL mkKnw cKnw k xs).map Knw.v)],[]⟩:=ctrG_eq (injG Knw.v_inj _) (xs,k) ⟨h0,h1,h2⟩ rfl
theorem c38_ok:GOK Tryz.prog (38,[true],c38):=ctrG_ok fun a h=>f38_ok a.1 a.2 h.1 h.2.1 h.2.2
end Go.TM.Tryz
end
section
set_option maxHeartbeats 8000000
set_option maxRecDepth 20000
namespace Go.TM.Tryz
open Go Go.TM Go.Proofs
def mkMds (k:Int) (x:Mdl):Mdl :=
  ⟨mkScs k x.scope,mkL mkKnw cKnw (k + 1 + (cnt cStr x.scope.imports:Nat) + (cnt cTy x.scope.types:Nat) + (cnt cObj x.scope.objects:Nat) + (cnt cUse x.scope.uses:Nat)) x.seen⟩
def cMds (x:Mdl):Nat:=cScs x.scope + cnt cKnw x.seen
def MdlLen (x:Mdl):Prop:=ScpLen x.scope∧x.seen.length≤4611686018427387904
theorem f27_ok (xs:List Mdl) (k:Int) (h0:0≤k) (h1:k + cnt cMds xs≤4611686018427387904) (h2:xs.length≤4611686018427387904∧∀ x ∈ xs,MdlLen x):GenOK Tryz.prog 27 [.inl 6 (xs.map Mdl.o),.int .i64 k] [] ⟨false,.int .i64 (k + cnt cMds xs),[.inl 6 ((mkL mkMds cMds k xs).map Mdl.o)],[]⟩:=by
  refine fun_okG (mkE_ok zmix (cl:=[(88,c88)]) (gl:=[(45,[true],c45),(50,[true],c50),(70,[true],c70),(71,[true],c71),(38,[true],c38)]) [] c88_ok ⟨c45_ok,c50_ok,c70_ok,c71_ok,c38_ok⟩) Tryz.func27 (by kernel_rfl) ?_
  refine FunG_run _ _ rfl rfl ?_
  have hlen:=h2.1
  simp
  refine lp_list xs (fun i t=>t.e 0=.own 0∧t.e 1=.int .i64 (k + pre cMds xs i)∧t.e 5=.int .i64 i∧t.nb=0∧1≤t.nt∧t.R 0=some ⟨6,(mpart mkMds cMds k xs i).map Mdl.o,true⟩) ?_ ?_ ?_
  · simp [pre_zero,mpart_zero]
  · rintro c' L hL i t x hx hi ih ⟨g0,g1,g5,gnb,gnt,gR⟩
    have hw:=wrI (i:=i) (by omega)
    have hp:=pre_succ cMds hx
    have hp2:=pre_le cMds xs (i + 1)
    have hc:cMds x=1 + cnt cStr x.scope.imports + cnt cTy x.scope.types + cnt cObj x.scope.objects + cnt cUse x.scope.uses + cnt cKnw x.seen:=rfl
    have hcnt:(xs.map cMds).sum=cnt cMds xs:=rfl
    obtain ⟨⟨n1,n2,n3,n4⟩,n5⟩:=h2.2 x (List.mem_of_getElem? hx)
    have e0:=c88_eq (k + (pre cMds xs i:Nat)) (by omega)
    have w0:IntKind.i64.wrap (k + (pre cMds xs i:Nat) + 1)=k + (pre cMds xs i:Nat) + 1:=wrap64 (by omega) (by omega)
    have e1:=c50_eq x.scope.imports (k + (pre cMds xs i:Nat) + 1) (by omega) (by omega) n1
    have e2:=c70_eq x.scope.types (k + (pre cMds xs i:Nat) + 1 + (cnt cStr x.scope.imports:Nat)) (by omega) (by omega) n2
    have e3:=c71_eq x.scope.objects (k + (pre cMds xs i:Nat) + 1 + (cnt cStr x.scope.imports:Nat) + (cnt cTy x.scope.types:Nat)) (by omega) (by omega) n3
    have e4:=c45_eq x.scope.uses (k + (pre cMds xs i:Nat) + 1 + (cnt cStr x.scope.imports:Nat) + (cnt cTy x.scope.types:Nat) + (cnt cObj x.scope.objects:Nat)) (by omega) (by omega) n4
    have e5:=c38_eq x.seen (k + (pre cMds xs i:Nat) + 1 + (cnt cStr x.scope.imports:Nat) + (cnt cTy x.scope.types:Nat) + (cnt cObj x.scope.objects:Nat) + (cnt cUse x.scope.uses:Nat)) (by omega) (by omega) n5
    have hx':=mpart_get (f:=mkMds) (c:=cMds) (k:=k) hx
    simp [-getElem?_pos,gcz,gcs,g0,g1,g5,gnb,gR,hL,hx',hi,e0,w0,e1,e2,e3,e4,e5]
    refine ih _ ?_
    simp [-getElem?_pos,gcz,gcs,g0,g1,g5,gnb,gR,hL,hx',hi,e0,w0,e1,e2,e3,e4,e5,hp,hc,hw]
    first
      | exact ⟨by omega,by omega,mpart_setv hx rfl⟩
      | exact ⟨by omega,mpart_setv hx rfl⟩
      | exact mpart_setv hx rfl
  · rintro c' t ⟨g0,g1,g5,gnb,gnt,gR⟩
    simp only [pre_all] at g1
    simp [g0,g1,g5,gnb,gR,mpart_all,cnt]
noncomputable def c27:=ctrG (fun a:List Mdl × Int=>0≤a.2∧a.2 + cnt cMds a.1≤4611686018427387904∧(a.1.length≤4611686018427387904∧∀ x ∈ a.1,MdlLen x)) (fun a=>([.inl 6 (a.1.map Mdl.o),.int .i64 a.2],[])) (fun a=>⟨false,.int .i64 (a.2 + cnt cMds a.1),[.inl 6 ((mkL mkMds cMds a.2 a.1).map Mdl.o)],[]⟩)
theorem c27_eq (xs:List Mdl) (k:Int) (h0:0≤k) (h1:k + cnt cMds xs≤4611686018427387904) (h2:xs.length≤4611686018427387904∧∀ x ∈ xs,MdlLen x):c27 [.inl 6 (xs.map Mdl.o),.int .i64 k] []=some ⟨false,.int .i64 (k + cnt cMds xs),[.inl 6 ((mkL mkMds cMds k xs).map Mdl.o)],[]⟩:=ctrG_eq (injG Mdl.o_inj _) (xs,k) ⟨h0,h1,h2⟩ rfl
theorem c27_ok:GOK Tryz.prog (27,[true],c27):=ctrG_ok fun a h=>f27_ok a.1 a.2 h.1 h.2.1 h.2.2
end Go.TM.Tryz
end
section
namespace Go.TM.Tryz
open Go Go.TM Go.Proofs
theorem cScs_le (x:Scp):cScs x≤8 + 8 * x.sz:=by
  have h1:=cnt_le (c:=cStr) (f:=ByteArray.size) (fun y=>by simp [cStr];omega) x.imports
  have h2:=cnt_le (c:=cTy) (f:=Ty.sz) cTy_le x.types
  have h3:=cnt_le (c:=cObj) (f:=Obj.sz) cObj_le x.objects
  have h4:=cnt_le (c:=cUse) (f:=Use.sz) (fun y=>by simp [cUse];omega) x.uses
  simp only [cScs,Scp.sz]
  omega
theorem scpLen_of {x:Scp} (h:x.sz≤1048576):ScpLen x:=by
  have hln:=Scp.lens h
  exact ⟨by omega,⟨by omega,fun y hy=>by have:=hln.2.1.2 y hy;omega⟩,⟨by omega,fun y hy=>by have:=hln.2.2.1.2 y hy;omega⟩,by omega⟩
end Go.TM.Tryz
end
section
namespace Go.TM.Tryz
open Go Go.TM Go.Proofs
theorem cMds_le (x:Mdl):cMds x≤8 + 8 * x.sz:=by
  have h1:=cScs_le x.scope
  have h2:=cnt_const (c:=cKnw) (m:=3) (fun _=>rfl) x.seen
  have h3:=szL_len Knw.sz x.seen
  simp only [cMds,Mdl.sz]
  omega
theorem mdlLen_of {x:Mdl} (h:x.sz≤1048576):MdlLen x:=by
  have h3:=szL_len Knw.sz x.seen
  simp only [Mdl.sz] at h
  exact ⟨scpLen_of (by omega),by omega⟩
end Go.TM.Tryz
end
section
set_option maxHeartbeats 8000000
set_option maxRecDepth 20000
namespace Go.TM.Tryz
open Go Go.TM Go.Proofs
theorem cScs_mk (k:Int) (x:Scp):cScs (mkScs k x)=cScs x:=by
  simp only [cScs,mkScs,cnt_mk cStr_mk,cnt_mk cTy_mk,cnt_mk cObj_mk,cnt_mk cUse_mk]
end Go.TM.Tryz
end
section
set_option maxHeartbeats 8000000
set_option maxRecDepth 20000
namespace Go.TM.Tryz
open Go Go.TM Go.Proofs
end Go.TM.Tryz
end
section
set_option maxHeartbeats 2000000
namespace Go.TM.Tryz
open Go Go.TM Go.Proofs
theorem f39_ok (xs:List Knw) (k:Int) (h0:0≤k) (h1:k + cnt cKnw xs≤4611686018427387904) (h2:xs.length≤4611686018427387904):FunOK Tryz.prog 39 [.lst ((mkL mkKnw cKnw k xs).map Knw.v),.int .i64 k] false (.int .i64 (k + cnt cKnw xs)):=by
  refine fun_ok (mkE_ok zmix (cl:=[(88,c88)]) (gl:=[]) [] c88_ok trivial) Tryz.func39 (by kernel_rfl) ?_
  refine FunW_run _ _ rfl rfl ?_
  have hlen:=h2
  simp
  refine lp_list xs (fun i t=>t.e 0=.lst ((mkL mkKnw cKnw k xs).map Knw.v)∧t.e 1=.int .i64 (k + pre cKnw xs i)∧t.e 5=.int .i64 i) ?_ ?_ ?_
  · simp [pre_zero]
  · rintro c' L hL i t x hx hi ih ⟨g0,g1,g5⟩
    have hw:=wrI (i:=i) (by omega)
    have hp:=pre_succ cKnw hx
    have hp2:=pre_le cKnw xs (i + 1)
    have hc:cKnw x=3:=rfl
    have hcnt:(xs.map cKnw).sum=cnt cKnw xs:=rfl
    have e0:=c88_eq (k + (pre cKnw xs i:Nat)) (by omega)
    have w0:IntKind.i64.wrap (k + (pre cKnw xs i:Nat) + 1)=k + (pre cKnw xs i:Nat) + 1:=wrap64 (by omega) (by omega)
    have e1:=c88_eq (k + (pre cKnw xs i:Nat) + 1) (by omega)
    have w1:IntKind.i64.wrap (k + (pre cKnw xs i:Nat) + 1 + 1)=k + (pre cKnw xs i:Nat) + 1 + 1:=wrap64 (by omega) (by omega)
    have w2:IntKind.i64.wrap (k + (pre cKnw xs i:Nat) + 1 + 1 + 1)=k + (pre cKnw xs i:Nat) + 1 + 1 + 1:=wrap64 (by omega) (by omega)
    have hx':=mkL_get mkKnw cKnw k hx
    simp [-getElem?_pos,gcz,gcs,g0,g1,g5,hL,hx',hi,mkKnw,e0,w0,e1,w1,w2]
    refine ih _ ?_
    simp [-getElem?_pos,gcz,gcs,g0,g1,g5,hL,hx',hi,e0,w0,e1,w1,w2,hp,hc,hw] <;> omega
  · rintro c' t ⟨g0,g1,g5⟩
    simp only [pre_all] at g1
    simp [g0,g1,g5,cnt]
noncomputable def c39:=ctrH mkKnw cKnw Knw.v (fun xs k=>0≤k∧k + cnt cKnw xs≤4611686018427387904∧(xs.length≤4611686018427387904))
theorem c39_eq (xs:List Knw) (k:Int) (h0:0≤k) (h1:k + cnt cKnw xs≤4611686018427387904) (h2:xs.length≤4611686018427387904):c39 [.lst ((mkL mkKnw cKnw k xs).map Knw.v),.int .i64 k]=some (false,.int .i64 (k + cnt cKnw xs)):=ctrH_eq (mk:=mkKnw) (c:=cKnw) (fun _ _=>rfl) Knw.v_inj xs k ⟨h0,h1,h2⟩
theorem c39_ok:COK Tryz.prog (39,c39):=ctrH_ok (mk:=mkKnw) (c:=cKnw) (fun _ _=>rfl) fun xs k h=>f39_ok xs k h.1 h.2.1 h.2.2
end Go.TM.Tryz
end
section
set_option maxHeartbeats 8000000
set_option maxRecDepth 20000
namespace Go.TM.Tryz
open Go Go.TM Go.Proofs
theorem cKnw_mk (k:Int) (x:Knw):cKnw (mkKnw k x)=cKnw x:=rfl
theorem cMds_mk (k:Int) (x:Mdl):cMds (mkMds k x)=cMds x:=by
  simp only [cMds,mkMds,cScs_mk,cnt_mk cKnw_mk]
theorem f32_ok (xs:List Mdl) (k:Int) (h0:0≤k) (h1:k + cnt cMds xs≤4611686018427387904) (h2:xs.length≤4611686018427387904∧∀ x ∈ xs,MdlLen x):FunOK Tryz.prog 32 [.lst ((mkL mkMds cMds k xs).map Mdl.v),.int .i64 k] false (.int .i64 (k + cnt cMds xs)):=by
  refine fun_ok (mkE_ok zmix (cl:=[(88,c88),(51,c51),(72,c72),(73,c73),(46,c46),(39,c39)]) (gl:=[]) [] ⟨c88_ok,c51_ok,c72_ok,c73_ok,c46_ok,c39_ok⟩ trivial) Tryz.func32 (by kernel_rfl) ?_
  refine FunW_run _ _ rfl rfl ?_
  have hlen:=h2.1
  simp
  refine lp_list xs (fun i t=>t.e 0=.lst ((mkL mkMds cMds k xs).map Mdl.v)∧t.e 1=.int .i64 (k + pre cMds xs i)∧t.e 5=.int .i64 i) ?_ ?_ ?_
  · simp [pre_zero]
  · rintro c' L hL i t x hx hi ih ⟨g0,g1,g5⟩
    have hw:=wrI (i:=i) (by omega)
    have hp:=pre_succ cMds hx
    have hp2:=pre_le cMds xs (i + 1)
    have hc:cMds x=1 + cnt cStr x.scope.imports + cnt cTy x.scope.types + cnt cObj x.scope.objects + cnt cUse x.scope.uses + cnt cKnw x.seen:=rfl
    have hcnt:(xs.map cMds).sum=cnt cMds xs:=rfl
    obtain ⟨⟨n1,n2,n3,n4⟩,n5⟩:=h2.2 x (List.mem_of_getElem? hx)
    have e0:=c88_eq (k + (pre cMds xs i:Nat)) (by omega)
    have w0:IntKind.i64.wrap (k + (pre cMds xs i:Nat) + 1)=k + (pre cMds xs i:Nat) + 1:=wrap64 (by omega) (by omega)
    have e1:=c51_eq x.scope.imports (k + (pre cMds xs i:Nat) + 1) (by omega) (by omega) n1
    have m1:¬ k + (pre cMds xs i:Nat) + 1 + (cnt cStr x.scope.imports:Nat) < 0:=by omega
    have e2:=c72_eq x.scope.types (k + (pre cMds xs i:Nat) + 1 + (cnt cStr x.scope.imports:Nat)) (by omega) (by omega) n2
    have m2:¬ k + (pre cMds xs i:Nat) + 1 + (cnt cStr x.scope.imports:Nat) + (cnt cTy x.scope.types:Nat) < 0:=by omega
    have e3:=c73_eq x.scope.objects (k + (pre cMds xs i:Nat) + 1 + (cnt cStr x.scope.imports:Nat) + (cnt cTy x.scope.types:Nat)) (by omega) (by omega) n3
    have m3:¬ k + (pre cMds xs i:Nat) + 1 + (cnt cStr x.scope.imports:Nat) + (cnt cTy x.scope.types:Nat) + (cnt cObj x.scope.objects:Nat) < 0:=by omega
    have e4:=c46_eq x.scope.uses (k + (pre cMds xs i:Nat) + 1 + (cnt cStr x.scope.imports:Nat) + (cnt cTy x.scope.types:Nat) + (cnt cObj x.scope.objects:Nat)) (by omega) (by omega) n4
    have m4:¬ k + (pre cMds xs i:Nat) + 1 + (cnt cStr x.scope.imports:Nat) + (cnt cTy x.scope.types:Nat) + (cnt cObj x.scope.objects:Nat) + (cnt cUse x.scope.uses:Nat) < 0:=by omega
    have e5:=c39_eq x.seen (k + (pre cMds xs i:Nat) + 1 + (cnt cStr x.scope.imports:Nat) + (cnt cTy x.scope.types:Nat) + (cnt cObj x.scope.objects:Nat) + (cnt cUse x.scope.uses:Nat)) (by omega) (by omega) n5
    have m5:¬ k + (pre cMds xs i:Nat) + 1 + (cnt cStr x.scope.imports:Nat) + (cnt cTy x.scope.types:Nat) + (cnt cObj x.scope.objects:Nat) + (cnt cUse x.scope.uses:Nat) + (cnt cKnw x.seen:Nat) < 0:=by omega
    have hx':=mkL_get mkMds cMds k hx
    simp [-getElem?_pos,gcz,gcs,g0,g1,g5,hL,hx',hi,mkMds,mkScs,e0,w0,e1,m1,e2,m2,e3,m3,e4,m4,e5,m5]
    refine ih _ ?_
    simp [-getElem?_pos,gcz,gcs,g0,g1,g5,hL,hx',hi,mkMds,mkScs,e0,w0,e1,m1,e2,m2,e3,m3,e4,m4,e5,m5,hp,hc,hw] <;> omega
  · rintro c' t ⟨g0,g1,g5⟩
    simp only [pre_all] at g1
    simp [g0,g1,g5,cnt]
noncomputable def c32:=ctrH mkMds cMds Mdl.v (fun xs k=>0≤k∧k + cnt cMds xs≤4611686018427387904∧(xs.length≤4611686018427387904∧∀ x ∈ xs,MdlLen x))
theorem c32_eq (xs:List Mdl) (k:Int) (h0:0≤k) (h1:k + cnt cMds xs≤4611686018427387904) (h2:xs.length≤4611686018427387904∧∀ x ∈ xs,MdlLen x):c32 [.lst ((mkL mkMds cMds k xs).map Mdl.v),.int .i64 k]=some (false,.int .i64 (k + cnt cMds xs)):=ctrH_eq cMds_mk Mdl.v_inj xs k ⟨h0,h1,h2⟩
theorem c32_ok:COK Tryz.prog (32,c32):=ctrH_ok cMds_mk fun xs k h=>f32_ok xs k h.1 h.2.1 h.2.2
end Go.TM.Tryz
end
section
set_option maxHeartbeats 8000000
set_option maxRecDepth 20000
namespace Go.TM.Tryz
open Go Go.TM Go.Proofs
end Go.TM.Tryz
end
section
set_option maxHeartbeats 8000000
set_option maxRecDepth 20000
namespace Go.TM.Tryz
open Go Go.TM Go.Proofs
theorem cnt_cons {α:Type} (c:α→Nat) (x:α) (xs:List α):cnt c (x :: xs)=c x + cnt c xs:=by simp [cnt]
theorem cnt_set {α:Type} (c:α→Nat) (m:α):∀ (xs:List α) (k:Nat),cnt c (xs.set k m)≤cnt c xs + c m
  | [],k=>by simp [cnt]
  | x :: xs,0=>by
    simp only [List.set_cons_zero,cnt_cons]
    omega
  | x :: xs,k + 1=>by
    have:=cnt_set c m xs k
    simp only [List.set_cons_succ,cnt_cons]
    omega
theorem putL_mem {xs:List Mdl} {m x:Mdl} (h:x ∈ putL xs m):x ∈ xs ∨ x=m:=by
  unfold putL at h
  split at h
  · simpa using h
  · exact List.mem_or_eq_of_mem_set h
theorem putL_cnt (xs:List Mdl) (m:Mdl):cnt cMds (putL xs m)≤cnt cMds xs + cMds m:=by
  unfold putL
  split
  · simp [cnt]
  · exact cnt_set _ _ _ _
theorem putL_len (xs:List Mdl) (m:Mdl):(putL xs m).length≤xs.length + 1:=by
  unfold putL
  split
  · simp
  · simp
theorem putR_mem {xs:List Mdl} {b:ByteArray} {x:Mdl} (h:x ∈ (putR xs b).1):x ∈ xs ∨ x=⟨(readI b).1,[]⟩:=by
  unfold putR at h
  split at h
  · cases h
  · split at h
    · cases h
    · split at h
      · cases h
      · exact putL_mem h
theorem putR_cnt (xs:List Mdl) (b:ByteArray):cnt cMds (putR xs b).1≤cnt cMds xs + cMds ⟨(readI b).1,[]⟩:=by
  unfold putR
  split
  · simp [cnt]
  · split
    · simp [cnt]
    · split
      · simp [cnt]
      · exact putL_cnt _ _
theorem putR_len (xs:List Mdl) (b:ByteArray):(putR xs b).1.length≤xs.length + 1:=by
  unfold putR
  split
  · simp
  · split
    · simp
    · split
      · simp
      · exact putL_len _ _
theorem read_cnt {X:Scp} (hx:ExLen X):cMds ⟨X,[]⟩≤1000∧MdlLen ⟨X,[]⟩:=by
  have k1:cnt cStr X.imports=0:=by rw [hx.im];rfl
  have k2:cnt cUse X.uses=0:=by rw [hx.us];rfl
  have k3:cnt cTy X.types≤23 * X.types.length:=cnt_max fun t ht=>by
    have:=hx.fl t ht
    have h2:=cnt_const (c:=cFld) (m:=3) (fun _=>rfl) t.fields
    simp only [cTy,h2]
    omega
  have k4:cnt cObj X.objects≤17 * X.objects.length:=cnt_max fun t ht=>by
    have:=hx.pa t ht
    have h2:=cnt_const (c:=cPar) (m:=3) (fun _=>rfl) t.params
    simp only [cObj,h2]
    omega
  have k5:=hx.ty
  have k6:=hx.ob
  refine ⟨?_,⟨by rw [hx.im];simp,⟨Nat.le_trans k5 (by omega),fun y hy=>Nat.le_trans (hx.fl y hy) (by omega)⟩,⟨Nat.le_trans k6 (by omega),fun y hy=>Nat.le_trans (hx.pa y hy) (by omega)⟩,by rw [hx.us];simp⟩,by simp⟩
  have:cnt cKnw ([]:List Knw)=0:=rfl
  simp only [cMds,cScs,this]
  omega
noncomputable def c54:=ctr (fun a:List Mdl × ByteArray=>StOK a.1∧a.2.size≤1048576) (fun a=>[.lst (a.1.map Mdl.v),.str a.2]) (fun a=>(false,putO a.1 a.2))
theorem c54_eq (xs:List Mdl) (n:ByteArray) (h:StOK xs) (hn:n.size≤1048576):c54 [.lst (xs.map Mdl.v),.str n]=some (false,putO xs n):=ctr_eq (injMn _) (xs,n) ⟨h,hn⟩ rfl
theorem c54_ok:COK Tryz.prog (54,c54):=ctr_ok fun a h=>f54_ok a.1 a.2 h.1 h.2
noncomputable def c55:=ctr (fun a:List Mdl × ByteArray=>StOK a.1∧a.2.size≤1048576) (fun a=>[.lst (a.1.map Mdl.v),.str a.2]) (fun a=>(false,putO a.1 a.2))
theorem c55_eq (xs:List Mdl) (n:ByteArray) (h:StOK xs) (hn:n.size≤1048576):c55 [.lst (xs.map Mdl.v),.str n]=some (false,putO xs n):=ctr_eq (injMn _) (xs,n) ⟨h,hn⟩ rfl
theorem c55_ok:COK Tryz.prog (55,c55):=ctr_ok fun a h=>f55_ok a.1 a.2 h.1 h.2
theorem f11_ok (xs:List Mdl) (n:ByteArray) (hl:limL Mdl.lim xs) (hn:strLim n):FunOK Tryz.prog 11 [.lst (xs.map Mdl.v),.str n] false (.bool true):=by
  refine fun_ok (mkE_ok zmix (cl:=[(21,c21),(23,c23),(54,c54),(55,c55),(26,c26),(32,c32)]) (gl:=[(27,[true],c27)]) [] ⟨c21_ok,c23_ok,c54_ok,c55_ok,c26_ok,c32_ok⟩ c27_ok) Tryz.func11 (by kernel_rfl) ?_
  refine FunW_run _ _ rfl rfl ?_
  by_cases hn1:(1048576:Int) < (n.size:Nat)
  · simp [hn1]
  have e21:=c21_eq xs 1048576 hl (by omega) (by omega)
  by_cases hz:¬ (szL Mdl.sz xs:Int)≤1048576
  · rw [szR_lt (by omega)] at e21
    simp [hn1,e21]
  have hz:szL Mdl.sz xs≤1048576:=by omega
  rw [szR_ge (by omega)] at e21
  have h0':¬ (1048576:Int) < (szL Mdl.sz xs:Nat):=by omega
  have hst:StOK xs:=⟨hl,mdsLen_of hz⟩
  have e23:=c23_eq xs hz
  have e54:=c54_eq xs n hst (by omega)
  have e55:=c55_eq xs n hst (by omega)
  have e26:=c26_eq xs hl
  simp only [putO] at e54 e55
  obtain ⟨hx,hxl⟩:=readI_len n hn
  obtain ⟨hrc,hrl⟩:=read_cnt hx
  have hRl:=putR_len xs n
  have hsl:=szL_len Mdl.sz xs
  have hR:limL Mdl.lim (putR xs n).1:=⟨Nat.le_trans hRl (by simp only [lim];omega),fun x hx2=>by
    rcases putR_mem hx2 with h | h
    · exact hl.2 x h
    · rw [h]
      exact ⟨hxl,by simp [limL,lim]⟩⟩
  have e26':=c26_eq _ hR
  have hcl:=cnt_le (c:=cMds) (f:=Mdl.sz) cMds_le xs
  have hml:∀ x ∈ xs,MdlLen x:=fun x hx=>mdlLen_of (by have:=szL_mem (f:=Mdl.sz) hx;omega)
  have e27:=c27_eq xs 1 (by omega) (by omega) ⟨by omega,hml⟩
  have hcs:=putR_cnt xs n
  have hsc:∀ x ∈ (putR xs n).1,MdlLen x:=fun x hx2=>by
    rcases putR_mem hx2 with h | h
    · exact hml x h
    · rw [h]
      exact hrl
  generalize putR xs n=Q at *
  obtain ⟨Z,cd,pl,ok⟩:=Q
  simp only at *
  have e27':=c27_eq Z 1 (by omega) (by omega) ⟨by omega,hsc⟩
  have e32:=c32_eq Z 1 (by omega) (by omega) ⟨by omega,hsc⟩
  simp [hn1,e21,h0',e23,e54,e55,e26,e26',e27,e27',e32]
  omega
end Go.TM.Tryz
end
section
namespace Go.TM
open Go Go.RowKit
def mem1 (W:World):Mem:=⟨Old W,fun _=>none,fun _=>0,fun _=>undef,fun _ _ _=>undef,0,0⟩
theorem mem1_ok {W:World} {args:List V} (h:adCs args S.zero=(args,S.zero)):MemOK (mem1 W) W (start args []):=by
  have hR:(start args []).R=fun _=>none:=by simp only [start,h];rfl
  have hB:(start args []).B=fun _=>none:=by
    funext x
    simp [start,h,adCs]
  refine ⟨by simp only [start,h];rfl,by simp only [start,h];rfl,fun b c hb=>?_,fun t r hr=>?_,fun b hb=>⟨rfl,hb⟩,fun b l hl=>(by cases hl),fun b t hl=>(by cases hl),fun b k hl=>(by cases hl)⟩
  · rw [hB] at hb;cases hb
  · rw [hR] at hr;cases hr
theorem close_bool {M:Mem} {W:World} {s:S} {k:Nat} {sv:V} {v:Value} {b:Bool} (hr:SR2 M W sv v) (hc:closeR s k sv=.bool b):v=.bool b:=by
  cases sv with
  | bool c =>
    simp [closeR,closeB,onL1,closeL] at hc
    subst hc
    exact hr
  | tup xs=>simp [closeR] at hc
  | agg xs=>simp [closeR,closeB,onL1] at hc
  | ptr b' o =>
    cases o with
    | zero =>
      simp only [closeR,closeB] at hc
      split at hc
      · split at hc <;> cases hc
      · cases hc
    | succ o=>simp [closeR,closeB,onL1,closeL] at hc
  | own t =>
    simp only [closeR,closeB,onL1,closeL] at hc
    split at hc <;> cases hc
  | fn f caps=>cases caps <;> simp [closeR,closeB,onL1,closeL] at hc
  | _=>simp [closeR,closeB,onL1,closeL] at hc
theorem run_true {P:Program} {f:FuncId} {args:List V} (h:FunOK P f args false (.bool true)) (hs:adCs args S.zero=(args,S.zero)) {W:World} {vs:List Value} (hv:All2 (SR1 (mem1 W) W) args vs) :
    Calls P f vs.toArray W fun e W'=>e=.returned (.bool true)∧Below W.heap.size W W':=by
  refine (h.calls (mem1 W) W vs (mem1_ok hs) (by rw [hs];exact hv)).mono ?_
  rintro e W' ⟨v,M',s',sv,rfl,hp⟩
  rw [close_bool hp.rel hp.res]
  exact ⟨rfl,hp.evo.os,hp.evo.tape,hp.evo.output,hp.evo.size,fun k hk=>hp.evo.old k hk rfl⟩
end Go.TM
end
section
set_option maxHeartbeats 2000000
namespace Go.Proofs.YtknondpcbpgpoaaGreat
open Go Go.ChangeShapes Go.WideShapes Go.ChangeAt Go.RowKit Go.TM Go.TM.Tryz
theorem own:ownKnob Tryz.prog.godebug=none:=by kernel_rfl
theorem laidOut:laidOutB Tryz.prog=true:=by kernel_rfl
theorem slice_value {P:Program} {W:World} {base:Nat} {t e:TypeId} {v:Value} (ht:P.underlying t=some (.slice e)) (h:Value.okWide P W .any base t v):∃ A n c,v=.slice A n c:=by
  simp only [Value.okWide,ht] at h
  simp only [Cell.okWide,ht] at h
  simp only [Cell.ok,ht] at h
  cases v <;> first | exact ⟨_,_,_,rfl⟩ | exact h.elim
theorem str_value {P:Program} {W:World} {base:Nat} {t:TypeId} {v:Value} (ht:P.underlying t=some .string) (h:Value.okWide P W .any base t v):∃ n,v=.string n:=by
  simp only [Value.okWide,ht] at h
  simp only [Cell.okWide,ht] at h
  simp only [Cell.ok,ht] at h
  cases v <;> first | exact ⟨_,rfl⟩ | exact h.elim
theorem mds_ad2 (l:List Mdl) (n:ByteArray):adCs [.lst (l.map Mdl.v),.str n] S.zero=([.lst (l.map Mdl.v),.str n],S.zero):=by rfl
set_option maxRecDepth 100000 in
theorem fnExactPutFile_lifted (os:Os) (started:os.Started) (H:Type) (enc:TypeId × Value→H) :
    ReturnsInHanded {} Tryz.checked os 11 .any (Rows.fnExactPutFileSpec.pre6 enc Tryz.prog Tryz.f11 Rows.fnExactPutFileRow.domain false) (Rows.fnExactPutFileSpec.post enc Tryz.prog Tryz.f11 false true false false):=by
  refine returnsInHanded_of_change (C:=Tryz.checked) own started (by kernel_rfl) Tryz.func11
    (ChangeSpec.witness6 (enc:=enc) (C:=Tryz.checked) false ⟨#[],#[.slice none 0 0,.string ⟨#[]⟩],[]⟩ 6 (by kernel_rfl) (by kernel_rfl) (by kernel_rfl) (by kernel_rfl)) ?_
  intro W base args ds gs before hval0 hW _ _
  have hval:∀ (j:Nat) t v,Tryz.f11.params[j]?=some t→args[j]?=some v→Value.okWide Tryz.prog W .any base t v:=hval0
  have hW':=hW
  obtain ⟨p,q,hA0,hV,rfl,hfz,hnd⟩:=hW
  have hA:DataW.TrodAll enc Tryz.prog W 0 (fun _=>true) true Tryz.f11.params.toList args.toList ds p:=hA0
  rw [Tryz.params11] at hA hval
  obtain ⟨v0,v1,d0,d1,p0,p1,rfl,rfl,rfl,h0,h1⟩:=trodAll_two hA
  obtain ⟨rfl,rfl⟩:=trodVars_none hV
  obtain ⟨A0,n0,c0,rfl⟩:=slice_value Tryz.underlying43 (hval 0 43 v0 rfl rfl)
  obtain ⟨n,rfl⟩:=str_value Tryz.underlying9 (hval 1 9 v1 rfl rfl)
  clear hA0 hval0
  simp only [List.append_nil] at hW'
  have hlt:∀ x ∈ p0 ++ p1,x.block < W.heap.size:=fun x hx=>by simpa using hW'.lt x hx
  have g0:=h0
  have g1:=h1
  obtain ⟨fuel0,hf0⟩:=g0
  obtain ⟨l,hl,hs⟩:=(rd_slice Tryz.underlying43 (n:=6) (by kernel_rfl) (by omega) (fun _=>rfl) rd_Mdl) _ _ _ hf0
  have hsr:SR1 (mem1 W) W (.lst (l.map Mdl.v)) (.slice A0 n0 c0):=hs.1
  obtain ⟨fuel1,hf1⟩:=g1
  obtain ⟨n',hn,hs'⟩:=(rd_str Tryz.underlying9) _ _ _ hf1
  have hnn:n'=n:=by
    obtain ⟨h2,_⟩:=hs'
    cases h2
    rfl
  subst hnn
  refine (run_true (f11_ok l n' hl hn) (mds_ad2 l n') (vs:=[.slice A0 n0 c0,.string n']) ⟨hsr,rfl,trivial⟩).mono fun e W' ⟨he,hb⟩=>?_
  subst he
  have harg0:DataW.Trod enc Tryz.prog W' 0 (fun b=>decide (b < W.heap.size)) true 43 (.slice A0 n0 c0) d0 p0 :=
    Below.trod laidOut (by kernel_rfl) (of_decide_eq_true (by kernel_rfl)) h0 hb (fun x hx=>hlt x (List.mem_append.2 (.inl hx)))
  have harg1:DataW.Trod enc Tryz.prog W' 0 (fun b=>decide (b < W.heap.size)) true 9 (.string n') d1 p1 :=
    Below.trod laidOut (by kernel_rfl) (of_decide_eq_true (by kernel_rfl)) h1 hb (fun x hx=>hlt x (List.mem_append.2 (.inr hx)))
  exact ⟨_,rfl,_,_,_,[],_,[],hW',trodAll_mk1 (shut_bool Tryz.underlying4 _),trodAll_mk2 harg0 harg1,rfl,hb.frame _,fun h=>by cases h⟩
theorem facts0:Tryz.pinned.checked.prog.funcNamed Rows.fnExactPutFileRow.func=some 11:=by kernel_rfl
theorem facts1:(Rows.fnExactPutFileRow.inPlace == Tryz.pinned.checked.prog.inPlace 11)=true:=by kernel_rfl
theorem facts2:(Rows.fnExactPutFileRow.unfollowed == Tryz.pinned.checked.prog.unfollowed 11)=true:=by kernel_rfl
theorem facts3:(Rows.fnExactPutFileRow.recurses == Tryz.pinned.checked.prog.recurses 11)=true:=by kernel_rfl
theorem facts4:(Rows.fnExactPutFileRow.named == Tryz.pinned.checked.prog.varsNamed 11)=true:=by kernel_rfl
theorem facts5:joinedFacts Tryz.pinned.checked.prog 11 Tryz.f11 Rows.fnExactPutFileSpec Rows.fnExactPutFileRow=true:=by
  unfold joinedFacts
  rw [facts1,facts2,facts3,facts4]
  kernel_rfl
theorem facts6:Tryz.f11.isInstance Tryz.pinned.checked.prog Rows.fnExactPutFileRow.origin Rows.fnExactPutFileRow.targs:=of_decide_eq_true (by kernel_rfl)
theorem facts7:Tryz.f11.isWrapper Tryz.pinned.checked.prog Rows.fnExactPutFileRow.wrapper Rows.fnExactPutFileRow.mainSum:=by
  unfold Func.isWrapper;first | (rw [if_pos (by decide +kernel)];kernel_rfl) | (rw [if_neg (by decide +kernel)];exact ⟨rfl,rfl⟩)
theorem fnExactPutFile_holds:Rows.FnExactPutFileSaid :=
  OpenClaim.holds_of_wide 11 Tryz.f11 rfl rfl rfl rfl rfl rfl rfl ⟨rfl,rfl,rfl,rfl,rfl⟩ rfl rfl rfl rfl rfl facts0 Tryz.func11 facts5 facts6 facts7
    (fun os started H enc _=>fnExactPutFile_lifted os started H enc)
end Go.Proofs.YtknondpcbpgpoaaGreat
end
