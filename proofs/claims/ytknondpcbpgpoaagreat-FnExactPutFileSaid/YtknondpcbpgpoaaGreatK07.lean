/- A part of the proof: GA, GB. -/
import Derived.Test.YtknondpcbpgpoaaGreatK06
set_option linter.unusedVariables false
set_option linter.unusedSimpArgs false
section
set_option maxHeartbeats 4000000
set_option maxRecDepth 10000
namespace Go.TM.Tryz
open Go Go.TM Go.Proofs
theorem f184_ok (l:List Fld) (hl:l.length≤1048576):FunOK Tryz.prog 184 [.lst (l.map Fld.v)] false (.inl 3 (l.map Fld.v)):=by
  refine fun_ok (mkE_ok zmix (cl:=[]) (gl:=[]) [] trivial trivial) Tryz.func184 (by kernel_rfl) ?_
  refine FunW_run _ _ rfl rfl ?_
  have h1:l.length * 32≤140737488355328:=by omega
  have h2:l.length≤4294967296:=by omega
  have e:=noLs_fld l
  cases l with
  | nil=>simp [room]
  | cons x xs=>simp at h1 h2 e;simp [room,h1,h2,e]
noncomputable def c184:=ctr (fun l:List Fld=>l.length≤1048576) (fun l=>[.lst (l.map Fld.v)]) (fun l=>(false,.inl 3 (l.map Fld.v)))
theorem c184_eq (l:List Fld) (h:l.length≤1048576):c184 [.lst (l.map Fld.v)]=some (false,.inl 3 (l.map Fld.v)):=ctr_eq (injl Fld.v_inj _) l h rfl
theorem c184_ok:COK Tryz.prog (184,c184):=ctr_ok fun l h=>f184_ok l h
theorem f133_ok (l:List Par) (hl:l.length≤1048576):FunOK Tryz.prog 133 [.lst (l.map Par.v)] false (.inl 3 (l.map Par.v)):=by
  refine fun_ok (mkE_ok zmix (cl:=[]) (gl:=[]) [] trivial trivial) Tryz.func133 (by kernel_rfl) ?_
  refine FunW_run _ _ rfl rfl ?_
  have h1:l.length * 32≤140737488355328:=by omega
  have h2:l.length≤4294967296:=by omega
  have e:=noLs_par l
  cases l with
  | nil=>simp [room]
  | cons x xs=>simp at h1 h2 e;simp [room,h1,h2,e]
noncomputable def c133:=ctr (fun l:List Par=>l.length≤1048576) (fun l=>[.lst (l.map Par.v)]) (fun l=>(false,.inl 3 (l.map Par.v)))
theorem c133_eq (l:List Par) (h:l.length≤1048576):c133 [.lst (l.map Par.v)]=some (false,.inl 3 (l.map Par.v)):=ctr_eq (injl Par.v_inj _) l h rfl
theorem c133_ok:COK Tryz.prog (133,c133):=ctr_ok fun l h=>f133_ok l h
end Go.TM.Tryz
end
section
set_option maxHeartbeats 8000000
set_option maxRecDepth 20000
namespace Go.TM.Tryz
open Go Go.TM Go.Proofs
def tt10:TT:=.two false 2 (.two false 3 (.two false 4 (.one false 5 (.one false 6 (.one false 7 (.one false 8 (.one false 9 (.one false 10 .done)))))) false 5 (.two false 4 (.one false 6 (.one false 7 (.one false 8 (.one false 9 (.one false 10 .done))))) false 6 (.one false 4 (.one false 7 (.one false 8 (.one false 9 (.one false 10 .done))))))) false 5 (.two false 3 (.two false 4 (.one false 6 (.one false 7 (.one false 8 (.one false 9 (.one false 10 .done))))) false 6 (.one false 4 (.one false 7 (.one false 8 (.one false 9 (.one false 10 .done)))))) false 6 (.one false 3 (.one false 4 (.one false 7 (.one false 8 (.one false 9 (.one false 10 .done)))))))) false 5 (.two false 2 (.two false 3 (.two false 4 (.one false 6 (.one false 7 (.one false 8 (.one false 9 (.one false 10 .done))))) false 6 (.one false 4 (.one false 7 (.one false 8 (.one false 9 (.one false 10 .done)))))) false 6 (.one false 3 (.one false 4 (.one false 7 (.one false 8 (.one false 9 (.one false 10 .done))))))) false 6 (.one false 2 (.one false 3 (.one false 4 (.one false 7 (.one false 8 (.one false 9 (.one false 10 .done))))))))
def pl10:Pl:=⟨[0,1],[],[],[2,3,4,5,6,7,8,9,10],tt10⟩
def tx18:TX:=.two false 0 (.two false 1 (.one false 4 (.one false 5 (.one false 6 (.one false 7 (.one false 8 (.one false 9 .done)))))) false 4 (.two false 1 (.one false 5 (.one false 6 (.one false 7 (.one false 8 (.one false 9 .done))))) false 5 (.two false 1 (.one false 6 (.one false 7 (.one false 8 (.one false 9 .done)))) false 6 (.one false 1 (.one false 7 (.one false 8 (.one false 9 .done))))))) false 4 (.two false 0 (.two false 1 (.one false 5 (.one false 6 (.one false 7 (.one false 8 (.one false 9 .done))))) false 5 (.two false 1 (.one false 6 (.one false 7 (.one false 8 (.one false 9 .done)))) false 6 (.one false 1 (.one false 7 (.one false 8 (.one false 9 .done)))))) false 5 (.two false 0 (.two false 1 (.one false 6 (.one false 7 (.one false 8 (.one false 9 .done)))) false 6 (.one false 1 (.one false 7 (.one false 8 (.one false 9 .done))))) false 6 (.one false 0 (.one false 1 (.one false 7 (.one false 8 (.one false 9 .done)))))))
def pl18:Pl:=⟨[2,3],[],[],[0,1,4,5,6,7,8,9],.done⟩
noncomputable def ET:Env:=mkE2 Tryz.prog [(184,c184)] [] [] [(10,pl10)]
theorem ET_ok:EnvOK Tryz.prog ET:=mkE2_ok zmix [] [(10,pl10)] c184_ok trivial
def cT3 (i:Nat):Option (Rule GT):=if i=5 then some (rLook (.tmp 19) (.tmp 20) (some 21)) else none
def cT7 (i:Nat):Option (Rule GT):=if i=6 then some (rUpd (.tmp 34) (.tmp 35) (.tmp 36) none) else none
def cT11 (l:List Ty) (f:Nat) (i:Nat):Option (Rule GT):=if i=3 then some (rOpen (preT l f) (postT l f) [.tmp 58,.tmp 60] (some 61)) else none
def cT18 (l:List Ty) (f:Nat) (i:Nat):Option (Rule GT):=if i=6 then some (rOpen (preT l f) (postT l f) [.tmp 89,.tmp 91] (some 92)) else none
noncomputable def CT (l:List Ty) (f:Nat) (id:Nat):Option (Array Oper→Rule GT) :=
  if id=3 then some (seqR ET cT3) else if id=7 then some (seqR ET cT7) else if id=10 then some (fun ops=>rRaw 8 3 (rPlain ET 10 true ops)) else
  if id=11 then some (seqR ET (cT11 l f)) else if id=18 then some (fun ops=>cutR2 ET (cT18 l f) ops pl18 tx18) else none
theorem has132:∃ fn,Tryz.prog.funcs[132]?=some fn∧(fn.name == "runtime.NumGoroutine")=false∧fn.body.isNone=false:=⟨_,Tryz.func132,by kernel_rfl,by kernel_rfl⟩
theorem und174:Tryz.prog.underlying 174=some (.map 3 3):=by kernel_rfl
theorem und3:Tryz.prog.underlying 3=some (.int .i64):=by kernel_rfl
theorem zero3 (w:World):(zeroValue 3).run Tryz.prog w=.ok (.int .i64 0) w:=by kernel_rfl
theorem rg_seq {M:Mem} {W:World} {n id:Nat} {all:Array Oper} (hall:all.toList.all (okO n)=true) {c:Nat→Option (Rule GT)} (hc:∀ i o r,all[i]?=some o→c i=some r→o.guard=none∧RuleOK (InvT M W) Tryz.prog n o r) :
    RgOK (InvT M W) Tryz.prog n id all false (seqR ET c all):=opsX_ok ET_ok InvT.evo hall hc
theorem take_okX (l:List Ty) (f:Nat) (ih:OpenC Tryz.prog 132 (preT l f) (postT l f)) (M:Mem) (W:World) {c:Code} (hc:Tryz.f132.body=some c):okCX (InvT M W) Tryz.prog Tryz.f132.ntmps (CT l f) c:=by
  have e:c=_:=(Option.some.inj hc).symm
  subst e
  simp [okCX,CT]
  refine ⟨?_,?_,?_,?_,?_⟩
  · refine rg_seq (by kernel_rfl) ?_
    intro i o r ho hr
    simp only [cT3] at hr
    split at hr
    · rename_i e
      subst e
      obtain rfl:=Option.some.inj hr
      obtain rfl:=Option.some.inj ho
      exact ⟨rfl,rLook_ok (InvT.k M W) rfl (by kernel_rfl) und174 und3 zero3⟩
    · cases hr
  · refine rg_seq (by kernel_rfl) ?_
    intro i o r ho hr
    simp only [cT7] at hr
    split at hr
    · rename_i e
      subst e
      obtain rfl:=Option.some.inj hr
      obtain rfl:=Option.some.inj ho
      exact ⟨rfl,rUpd_ok (InvT.k M W) (.inl rfl) (by kernel_rfl) und174 und3⟩
    · cases hr
  · exact rRaw_ok (InvT.k M W) (rPlain_ok ET_ok InvT.evo (by kernel_rfl))
  · refine rg_seq (by kernel_rfl) ?_
    intro i o r ho hr
    simp only [cT11] at hr
    split at hr
    · rename_i e
      subst e
      obtain rfl:=Option.some.inj hr
      obtain rfl:=Option.some.inj ho
      exact ⟨rfl,rOpen_ok' (InvT.k M W) ih has132 rfl rfl rfl rfl (by kernel_rfl)⟩
    · cases hr
  · refine cutX_ok (cs:=[6]) (qs:=[]) ET_ok InvT.evo (by kernel_rfl) ⟨?_,?_,?_,?_⟩ (by kernel_rfl) (by kernel_rfl)
    · intro i r hr
      simp only [cT18] at hr
      split at hr
      · rename_i e;simp [e]
      · cases hr
    · intro i hi
      simp only [List.mem_singleton] at hi
      subst hi
      rfl
    · intro i o r ho hr
      simp only [cT18] at hr
      split at hr
      · rename_i e
        subst e
        obtain rfl:=Option.some.inj hr
        obtain rfl:=Option.some.inj ho
        exact ⟨rfl,rOpen_ok' (InvT.k M W) ih has132 rfl rfl rfl rfl (by kernel_rfl)⟩
      · cases hr
    · intro i o r ho hr hi
      cases hi
end Go.TM.Tryz
end
