/- A part of the proof: WA. -/
import Derived.Test.YtknondpcbpgpoaaGreatK25
set_option linter.unusedVariables false
set_option linter.unusedSimpArgs false
section
set_option maxHeartbeats 8000000
set_option maxRecDepth 20000
namespace Go.TM.Tryz
open Go Go.TM Go.Proofs
def isB (s:Scp):Bool:=scopeI s && decide (exS s=s)
theorem f78_ok (s:Scp) (hl:s.lim):FunOK Tryz.prog 78 [s.v] false (.bool (isB s)):=by
  refine fun_ok (mkE_ok zmix (cl:=[(60,c60),(61,c61),(144,c144)]) (gl:=[]) [(1,[(0,false),(1,true),(2,false),(3,false),(5,false),(4,true),(6,true),(7,false),(8,false)])] ⟨c60_ok,c61_ok,c144_ok⟩ trivial) Tryz.func78 (by kernel_rfl) ?_
  refine FunW_run _ _ rfl rfl ?_
  have e60:=c60_eq s hl
  simp only [Scp.v] at e60
  cases hs:scopeI s with
  | false =>
    have e61:=c61_no hs
    simp only [Scp.v] at e61
    rw [hs] at e60
    simp [e60,e61,c144_no,pureOp,S.see,seeL,S.after,flatC,isB,hs]
  | true =>
    have e61:=c61_eq s hs
    have e144:=c144_eq (exS s) s (exS_lim hs hl) hl
    simp only [Scp.v,Scp.o] at e61 e144
    rw [hs] at e60
    simp [e60,e61,e144,pureOp,S.see,seeL,S.after,flatC,isB,hs]
noncomputable def c78:=ctr (fun s:Scp=>s.lim) (fun s=>[s.v]) (fun s=>(false,.bool (isB s)))
theorem c78_eq (s:Scp) (h:s.lim):c78 [s.v]=some (false,.bool (isB s)):=ctr_eq (inj0 Scp.v_inj _) s h rfl
theorem c78_ok:COK Tryz.prog (78,c78):=ctr_ok fun s h=>f78_ok s h
end Go.TM.Tryz
end
