/- A part of the proof: ZSz. -/
import Derived.Test.YtknondpcbpgpoaaGreatK19
set_option linter.unusedVariables false
set_option linter.unusedSimpArgs false
section
set_option maxHeartbeats 2000000
namespace Go.TM.Tryz
open Go Go.TM Go.Proofs
theorem f56_ok (xs:List ByteArray) (left:Int) (hlim:limL strLim xs) (hl0:0≤left) (hl1:left≤1048576):FunOK Tryz.prog 56 [.lst (xs.map V.str),.int .i64 left] false (.int .i64 (szR (szL ByteArray.size xs) left)):=by
  refine fun_ok (mkE_ok zmix (cl:=[]) (gl:=[]) [] trivial trivial) Tryz.func56 (by kernel_rfl) ?_
  refine FunW_run _ _ rfl rfl ?_
  have hlen:=hlim.1
  simp only [lim] at hlen
  have hl:=szL_len ByteArray.size xs
  have w0:IntKind.i64.wrap (left - (xs.length:Int))=left - xs.length:=wrap64 (by omega) (by omega)
  by_cases a0:left < xs.length
  · have b0:left - (xs.length:Int) < 0:=by omega
    have r:szR (szL ByteArray.size xs) left=-1:=szR_lt (by omega)
    simp [w0,b0,r]
  have b0:¬ left - (xs.length:Int) < 0:=by omega
  simp [w0,b0]
  refine lp_list xs (fun i t=>t.e 0=.lst (xs.map V.str)∧t.e 5=.int .i64 i∧t.e 1=.int .i64 (left - xs.length - pre ByteArray.size xs i)∧0≤left - xs.length - pre ByteArray.size xs i) ?_ ?_ ?_
  · simp [pre_zero]
    omega
  · rintro c' L hL i t x hx hi ih ⟨h0,h5,h1',hge⟩
    have hw:=wrI (i:=i) (by omega)
    have hp:=pre_succ ByteArray.size hx
    have hp2:=pre_le ByteArray.size xs (i + 1)
    have w:IntKind.i64.wrap (left - xs.length - pre ByteArray.size xs i - (x.size:Int))=left - xs.length - pre ByteArray.size xs i - x.size:=by
      have:=hlim.2 x (List.mem_of_getElem? hx)
      simp only [strLim,lim] at this
      exact wrap64 (by omega) (by omega)
    by_cases a:left - xs.length - pre ByteArray.size xs i < (x.size:Int)
    · have b:left - xs.length - pre ByteArray.size xs i - (x.size:Int) < 0:=by omega
      have r:szR (szL ByteArray.size xs) left=-1:=szR_lt (by simp only [szL];omega)
      simp [-getElem?_pos,gcz,gcs,h0,h1',h5,hL,hx,hi,w,b,r]
    have b:¬ left - xs.length - pre ByteArray.size xs i - (x.size:Int) < 0:=by omega
    simp [-getElem?_pos,gcz,gcs,h0,h1',h5,hL,hx,hi,w,b]
    refine ih _ ?_
    simp [-getElem?_pos,gcz,gcs,h0,h1',h5,hL,hx,hi,hw,hp]
    omega
  · rintro c' t ⟨h0,h5,h1',hge⟩
    rw [pre_all] at h1' hge
    have r:szR (szL ByteArray.size xs) left=left - xs.length - ((xs.map ByteArray.size).sum:Nat):=by rw [szR_ge (by simp only [szL];omega)];simp only [szL];omega
    simp [h0,h5,h1',r]
noncomputable def c56:=ctr (fun a:List ByteArray × Int=>limL strLim a.1∧0≤a.2∧a.2≤1048576) (fun a=>[.lst (a.1.map V.str),.int .i64 a.2]) (fun a=>(false,.int .i64 (szR (szL ByteArray.size a.1) a.2)))
theorem c56_eq (xs:List ByteArray) (left:Int) (h:limL strLim xs) (h0:0≤left) (h1:left≤1048576):c56 [.lst (xs.map V.str),.int .i64 left]=some (false,.int .i64 (szR (szL ByteArray.size xs) left)):=ctr_eq (injl1 str_inj _) (xs,left) ⟨h,h0,h1⟩ rfl
theorem c56_ok:COK Tryz.prog (56,c56):=ctr_ok fun a h=>f56_ok a.1 a.2 h.1 h.2.1 h.2.2
theorem f208_ok (x:Fld) (left:Int) (h:x.lim) (h0:0≤left) (h1:left≤1048576):FunOK Tryz.prog 208 [x.v,.int .i64 left] false (.int .i64 (szR x.sz left)):=by
  refine fun_ok (mkE_ok zmix (cl:=[]) (gl:=[]) [] trivial trivial) Tryz.func208 (by kernel_rfl) ?_
  refine FunW_run _ _ rfl rfl ?_
  simp only [Fld.lim,lim] at h
  have l0:=h
  have w0:IntKind.i64.wrap (left - (x.name.size:Int))=left - (x.name.size:Nat):=wrap64 (by omega) (by omega)
  by_cases a0:left < (x.name.size:Nat)
  · have b0:left - ((x.name.size:Nat):Int) < 0:=by omega
    have r:szR x.sz left=-1:=szR_lt (by simp only [Fld.sz];omega)
    simp [w0,b0,r]
  have b0:¬ left - ((x.name.size:Nat):Int) < 0:=by omega
  have r:szR x.sz left=left - ((x.name.size:Nat):Int):=(szR_ge (by simp only [Fld.sz];omega)).trans (by simp only [Fld.sz] <;> omega)
  simp [w0,b0,r]
noncomputable def c208:=ctr (fun a:Fld × Int=>a.1.lim∧0≤a.2∧a.2≤1048576) (fun a=>[a.1.v,.int .i64 a.2]) (fun a=>(false,.int .i64 (szR a.1.sz a.2)))
theorem c208_eq (x:Fld) (left:Int) (h:x.lim) (h0:0≤left) (h1:left≤1048576):c208 [x.v,.int .i64 left]=some (false,.int .i64 (szR x.sz left)):=ctr_eq (inj1 Fld.v_inj _) (x,left) ⟨h,h0,h1⟩ rfl
theorem c208_ok:COK Tryz.prog (208,c208):=ctr_ok fun a h=>f208_ok a.1 a.2 h.1 h.2.1 h.2.2
theorem f165_ok (xs:List Fld) (left:Int) (hlim:limL Fld.lim xs) (hl0:0≤left) (hl1:left≤1048576):FunOK Tryz.prog 165 [.lst (xs.map Fld.v),.int .i64 left] false (.int .i64 (szR (szL Fld.sz xs) left)):=by
  refine fun_ok (mkE_ok zmix (cl:=[(208,c208)]) (gl:=[]) [] c208_ok trivial) Tryz.func165 (by kernel_rfl) ?_
  refine FunW_run _ _ rfl rfl ?_
  have hlen:=hlim.1
  simp only [lim] at hlen
  have hl:=szL_len Fld.sz xs
  have w0:IntKind.i64.wrap (left - (xs.length:Int))=left - xs.length:=wrap64 (by omega) (by omega)
  by_cases a0:left < xs.length
  · have b0:left - (xs.length:Int) < 0:=by omega
    have r:szR (szL Fld.sz xs) left=-1:=szR_lt (by omega)
    simp [w0,b0,r]
  have b0:¬ left - (xs.length:Int) < 0:=by omega
  simp [w0,b0]
  refine lp_list xs (fun i t=>t.e 0=.lst (xs.map Fld.v)∧t.e 5=.int .i64 i∧t.e 1=.int .i64 (left - xs.length - pre Fld.sz xs i)∧0≤left - xs.length - pre Fld.sz xs i) ?_ ?_ ?_
  · simp [pre_zero]
    omega
  · rintro c' L hL i t x hx hi ih ⟨h0,h5,h1',hge⟩
    have hw:=wrI (i:=i) (by omega)
    have hp:=pre_succ Fld.sz hx
    have hp2:=pre_le Fld.sz xs (i + 1)
    have w:=c208_eq x (left - xs.length - pre Fld.sz xs i) (hlim.2 x (List.mem_of_getElem? hx)) (by omega) (by omega)
    simp only [Fld.v] at w
    by_cases a:left - xs.length - pre Fld.sz xs i < (Fld.sz x:Nat)
    · rw [szR_lt a] at w
      have r:szR (szL Fld.sz xs) left=-1:=szR_lt (by simp only [szL];omega)
      simp [-getElem?_pos,gcz,gcs,h0,h1',h5,hL,hx,hi,w,r]
    rw [szR_ge (Int.not_lt.1 a)] at w
    have b:¬ left - xs.length - pre Fld.sz xs i - (Fld.sz x:Nat) < 0:=by omega
    simp [-getElem?_pos,gcz,gcs,h0,h1',h5,hL,hx,hi,w,b]
    refine ih _ ?_
    simp [-getElem?_pos,gcz,gcs,h0,h1',h5,hL,hx,hi,hw,hp]
    omega
  · rintro c' t ⟨h0,h5,h1',hge⟩
    rw [pre_all] at h1' hge
    have r:szR (szL Fld.sz xs) left=left - xs.length - ((xs.map Fld.sz).sum:Nat):=by rw [szR_ge (by simp only [szL];omega)];simp only [szL];omega
    simp [h0,h5,h1',r]
noncomputable def c165:=ctr (fun a:List Fld × Int=>limL Fld.lim a.1∧0≤a.2∧a.2≤1048576) (fun a=>[.lst (a.1.map Fld.v),.int .i64 a.2]) (fun a=>(false,.int .i64 (szR (szL Fld.sz a.1) a.2)))
theorem c165_eq (xs:List Fld) (left:Int) (h:limL Fld.lim xs) (h0:0≤left) (h1:left≤1048576):c165 [.lst (xs.map Fld.v),.int .i64 left]=some (false,.int .i64 (szR (szL Fld.sz xs) left)):=ctr_eq (injl1 Fld.v_inj _) (xs,left) ⟨h,h0,h1⟩ rfl
theorem c165_ok:COK Tryz.prog (165,c165):=ctr_ok fun a h=>f165_ok a.1 a.2 h.1 h.2.1 h.2.2
theorem f209_ok (x:Par) (left:Int) (h:x.lim) (h0:0≤left) (h1:left≤1048576):FunOK Tryz.prog 209 [x.v,.int .i64 left] false (.int .i64 (szR x.sz left)):=by
  refine fun_ok (mkE_ok zmix (cl:=[]) (gl:=[]) [] trivial trivial) Tryz.func209 (by kernel_rfl) ?_
  refine FunW_run _ _ rfl rfl ?_
  simp only [Par.lim,lim] at h
  have l0:=h
  have w0:IntKind.i64.wrap (left - (x.name.size:Int))=left - (x.name.size:Nat):=wrap64 (by omega) (by omega)
  by_cases a0:left < (x.name.size:Nat)
  · have b0:left - ((x.name.size:Nat):Int) < 0:=by omega
    have r:szR x.sz left=-1:=szR_lt (by simp only [Par.sz];omega)
    simp [w0,b0,r]
  have b0:¬ left - ((x.name.size:Nat):Int) < 0:=by omega
  have r:szR x.sz left=left - ((x.name.size:Nat):Int):=(szR_ge (by simp only [Par.sz];omega)).trans (by simp only [Par.sz] <;> omega)
  simp [w0,b0,r]
noncomputable def c209:=ctr (fun a:Par × Int=>a.1.lim∧0≤a.2∧a.2≤1048576) (fun a=>[a.1.v,.int .i64 a.2]) (fun a=>(false,.int .i64 (szR a.1.sz a.2)))
theorem c209_eq (x:Par) (left:Int) (h:x.lim) (h0:0≤left) (h1:left≤1048576):c209 [x.v,.int .i64 left]=some (false,.int .i64 (szR x.sz left)):=ctr_eq (inj1 Par.v_inj _) (x,left) ⟨h,h0,h1⟩ rfl
theorem c209_ok:COK Tryz.prog (209,c209):=ctr_ok fun a h=>f209_ok a.1 a.2 h.1 h.2.1 h.2.2
theorem f166_ok (xs:List Par) (left:Int) (hlim:limL Par.lim xs) (hl0:0≤left) (hl1:left≤1048576):FunOK Tryz.prog 166 [.lst (xs.map Par.v),.int .i64 left] false (.int .i64 (szR (szL Par.sz xs) left)):=by
  refine fun_ok (mkE_ok zmix (cl:=[(209,c209)]) (gl:=[]) [] c209_ok trivial) Tryz.func166 (by kernel_rfl) ?_
  refine FunW_run _ _ rfl rfl ?_
  have hlen:=hlim.1
  simp only [lim] at hlen
  have hl:=szL_len Par.sz xs
  have w0:IntKind.i64.wrap (left - (xs.length:Int))=left - xs.length:=wrap64 (by omega) (by omega)
  by_cases a0:left < xs.length
  · have b0:left - (xs.length:Int) < 0:=by omega
    have r:szR (szL Par.sz xs) left=-1:=szR_lt (by omega)
    simp [w0,b0,r]
  have b0:¬ left - (xs.length:Int) < 0:=by omega
  simp [w0,b0]
  refine lp_list xs (fun i t=>t.e 0=.lst (xs.map Par.v)∧t.e 5=.int .i64 i∧t.e 1=.int .i64 (left - xs.length - pre Par.sz xs i)∧0≤left - xs.length - pre Par.sz xs i) ?_ ?_ ?_
  · simp [pre_zero]
    omega
  · rintro c' L hL i t x hx hi ih ⟨h0,h5,h1',hge⟩
    have hw:=wrI (i:=i) (by omega)
    have hp:=pre_succ Par.sz hx
    have hp2:=pre_le Par.sz xs (i + 1)
    have w:=c209_eq x (left - xs.length - pre Par.sz xs i) (hlim.2 x (List.mem_of_getElem? hx)) (by omega) (by omega)
    simp only [Par.v] at w
    by_cases a:left - xs.length - pre Par.sz xs i < (Par.sz x:Nat)
    · rw [szR_lt a] at w
      have r:szR (szL Par.sz xs) left=-1:=szR_lt (by simp only [szL];omega)
      simp [-getElem?_pos,gcz,gcs,h0,h1',h5,hL,hx,hi,w,r]
    rw [szR_ge (Int.not_lt.1 a)] at w
    have b:¬ left - xs.length - pre Par.sz xs i - (Par.sz x:Nat) < 0:=by omega
    simp [-getElem?_pos,gcz,gcs,h0,h1',h5,hL,hx,hi,w,b]
    refine ih _ ?_
    simp [-getElem?_pos,gcz,gcs,h0,h1',h5,hL,hx,hi,hw,hp]
    omega
  · rintro c' t ⟨h0,h5,h1',hge⟩
    rw [pre_all] at h1' hge
    have r:szR (szL Par.sz xs) left=left - xs.length - ((xs.map Par.sz).sum:Nat):=by rw [szR_ge (by simp only [szL];omega)];simp only [szL];omega
    simp [h0,h5,h1',r]
noncomputable def c166:=ctr (fun a:List Par × Int=>limL Par.lim a.1∧0≤a.2∧a.2≤1048576) (fun a=>[.lst (a.1.map Par.v),.int .i64 a.2]) (fun a=>(false,.int .i64 (szR (szL Par.sz a.1) a.2)))
theorem c166_eq (xs:List Par) (left:Int) (h:limL Par.lim xs) (h0:0≤left) (h1:left≤1048576):c166 [.lst (xs.map Par.v),.int .i64 left]=some (false,.int .i64 (szR (szL Par.sz xs) left)):=ctr_eq (injl1 Par.v_inj _) (xs,left) ⟨h,h0,h1⟩ rfl
theorem c166_ok:COK Tryz.prog (166,c166):=ctr_ok fun a h=>f166_ok a.1 a.2 h.1 h.2.1 h.2.2
theorem f110_ok (x:Use) (left:Int) (h:x.lim) (h0:0≤left) (h1:left≤1048576):FunOK Tryz.prog 110 [x.v,.int .i64 left] false (.int .i64 (szR x.sz left)):=by
  refine fun_ok (mkE_ok zmix (cl:=[]) (gl:=[]) [] trivial trivial) Tryz.func110 (by kernel_rfl) ?_
  refine FunW_run _ _ rfl rfl ?_
  simp only [Use.lim,lim] at h
  obtain ⟨l0,l1⟩:=h
  have w0:IntKind.i64.wrap (left - (x.mod.size:Int))=left - (x.mod.size:Nat):=wrap64 (by omega) (by omega)
  by_cases a0:left < (x.mod.size:Nat)
  · have b0:left - ((x.mod.size:Nat):Int) < 0:=by omega
    have r:szR x.sz left=-1:=szR_lt (by simp only [Use.sz];omega)
    simp [w0,b0,r]
  have b0:¬ left - ((x.mod.size:Nat):Int) < 0:=by omega
  have w1:IntKind.i64.wrap (left - ((x.mod.size:Nat):Int) - (x.name.size:Int))=left - ((x.mod.size:Nat):Int) - (x.name.size:Nat):=wrap64 (by omega) (by omega)
  by_cases a1:left - ((x.mod.size:Nat):Int) < (x.name.size:Nat)
  · have b1:left - ((x.mod.size:Nat):Int) - ((x.name.size:Nat):Int) < 0:=by omega
    have r:szR x.sz left=-1:=szR_lt (by simp only [Use.sz];omega)
    simp [w0,b0,w1,b1,r]
  have b1:¬ left - ((x.mod.size:Nat):Int) - ((x.name.size:Nat):Int) < 0:=by omega
  have r:szR x.sz left=left - ((x.mod.size:Nat):Int) - ((x.name.size:Nat):Int):=(szR_ge (by simp only [Use.sz];omega)).trans (by simp only [Use.sz] <;> omega)
  simp [w0,b0,w1,b1,r]
noncomputable def c110:=ctr (fun a:Use × Int=>a.1.lim∧0≤a.2∧a.2≤1048576) (fun a=>[a.1.v,.int .i64 a.2]) (fun a=>(false,.int .i64 (szR a.1.sz a.2)))
theorem c110_eq (x:Use) (left:Int) (h:x.lim) (h0:0≤left) (h1:left≤1048576):c110 [x.v,.int .i64 left]=some (false,.int .i64 (szR x.sz left)):=ctr_eq (inj1 Use.v_inj _) (x,left) ⟨h,h0,h1⟩ rfl
theorem c110_ok:COK Tryz.prog (110,c110):=ctr_ok fun a h=>f110_ok a.1 a.2 h.1 h.2.1 h.2.2
theorem f59_ok (xs:List Use) (left:Int) (hlim:limL Use.lim xs) (hl0:0≤left) (hl1:left≤1048576):FunOK Tryz.prog 59 [.lst (xs.map Use.v),.int .i64 left] false (.int .i64 (szR (szL Use.sz xs) left)):=by
  refine fun_ok (mkE_ok zmix (cl:=[(110,c110)]) (gl:=[]) [] c110_ok trivial) Tryz.func59 (by kernel_rfl) ?_
  refine FunW_run _ _ rfl rfl ?_
  have hlen:=hlim.1
  simp only [lim] at hlen
  have hl:=szL_len Use.sz xs
  have w0:IntKind.i64.wrap (left - (xs.length:Int))=left - xs.length:=wrap64 (by omega) (by omega)
  by_cases a0:left < xs.length
  · have b0:left - (xs.length:Int) < 0:=by omega
    have r:szR (szL Use.sz xs) left=-1:=szR_lt (by omega)
    simp [w0,b0,r]
  have b0:¬ left - (xs.length:Int) < 0:=by omega
  simp [w0,b0]
  refine lp_list xs (fun i t=>t.e 0=.lst (xs.map Use.v)∧t.e 5=.int .i64 i∧t.e 1=.int .i64 (left - xs.length - pre Use.sz xs i)∧0≤left - xs.length - pre Use.sz xs i) ?_ ?_ ?_
  · simp [pre_zero]
    omega
  · rintro c' L hL i t x hx hi ih ⟨h0,h5,h1',hge⟩
    have hw:=wrI (i:=i) (by omega)
    have hp:=pre_succ Use.sz hx
    have hp2:=pre_le Use.sz xs (i + 1)
    have w:=c110_eq x (left - xs.length - pre Use.sz xs i) (hlim.2 x (List.mem_of_getElem? hx)) (by omega) (by omega)
    simp only [Use.v] at w
    by_cases a:left - xs.length - pre Use.sz xs i < (Use.sz x:Nat)
    · rw [szR_lt a] at w
      have r:szR (szL Use.sz xs) left=-1:=szR_lt (by simp only [szL];omega)
      simp [-getElem?_pos,gcz,gcs,h0,h1',h5,hL,hx,hi,w,r]
    rw [szR_ge (Int.not_lt.1 a)] at w
    have b:¬ left - xs.length - pre Use.sz xs i - (Use.sz x:Nat) < 0:=by omega
    simp [-getElem?_pos,gcz,gcs,h0,h1',h5,hL,hx,hi,w,b]
    refine ih _ ?_
    simp [-getElem?_pos,gcz,gcs,h0,h1',h5,hL,hx,hi,hw,hp]
    omega
  · rintro c' t ⟨h0,h5,h1',hge⟩
    rw [pre_all] at h1' hge
    have r:szR (szL Use.sz xs) left=left - xs.length - ((xs.map Use.sz).sum:Nat):=by rw [szR_ge (by simp only [szL];omega)];simp only [szL];omega
    simp [h0,h5,h1',r]
noncomputable def c59:=ctr (fun a:List Use × Int=>limL Use.lim a.1∧0≤a.2∧a.2≤1048576) (fun a=>[.lst (a.1.map Use.v),.int .i64 a.2]) (fun a=>(false,.int .i64 (szR (szL Use.sz a.1) a.2)))
theorem c59_eq (xs:List Use) (left:Int) (h:limL Use.lim xs) (h0:0≤left) (h1:left≤1048576):c59 [.lst (xs.map Use.v),.int .i64 left]=some (false,.int .i64 (szR (szL Use.sz xs) left)):=ctr_eq (injl1 Use.v_inj _) (xs,left) ⟨h,h0,h1⟩ rfl
theorem c59_ok:COK Tryz.prog (59,c59):=ctr_ok fun a h=>f59_ok a.1 a.2 h.1 h.2.1 h.2.2
theorem f108_ok (x:Ty) (left:Int) (h:x.lim) (h0:0≤left) (h1:left≤1048576):FunOK Tryz.prog 108 [x.v,.int .i64 left] false (.int .i64 (szR x.sz left)):=by
  refine fun_ok (mkE_ok zmix (cl:=[(165,c165)]) (gl:=[]) [] c165_ok trivial) Tryz.func108 (by kernel_rfl) ?_
  refine FunW_run _ _ rfl rfl ?_
  simp only [Ty.lim,lim] at h
  obtain ⟨l0,l1,l2⟩:=h
  have w0:=c165_eq x.fields (left) l0 (by omega) (by omega)
  by_cases a0:left < (szL Fld.sz x.fields:Nat)
  · rw [szR_lt a0] at w0
    have r:szR x.sz left=-1:=szR_lt (by simp only [Ty.sz];omega)
    simp [w0,r]
  rw [szR_ge (Int.not_lt.1 a0)] at w0
  have b0:¬ left - ((szL Fld.sz x.fields:Nat):Int) < 0:=by omega
  have w1:IntKind.i64.wrap (left - ((szL Fld.sz x.fields:Nat):Int) - (x.owner.size:Int))=left - ((szL Fld.sz x.fields:Nat):Int) - (x.owner.size:Nat):=wrap64 (by omega) (by omega)
  by_cases a1:left - ((szL Fld.sz x.fields:Nat):Int) < (x.owner.size:Nat)
  · have b1:left - ((szL Fld.sz x.fields:Nat):Int) - ((x.owner.size:Nat):Int) < 0:=by omega
    have r:szR x.sz left=-1:=szR_lt (by simp only [Ty.sz];omega)
    simp [w0,b0,w1,b1,r]
  have b1:¬ left - ((szL Fld.sz x.fields:Nat):Int) - ((x.owner.size:Nat):Int) < 0:=by omega
  have w2:IntKind.i64.wrap (left - ((szL Fld.sz x.fields:Nat):Int) - ((x.owner.size:Nat):Int) - (x.name.size:Int))=left - ((szL Fld.sz x.fields:Nat):Int) - ((x.owner.size:Nat):Int) - (x.name.size:Nat):=wrap64 (by omega) (by omega)
  by_cases a2:left - ((szL Fld.sz x.fields:Nat):Int) - ((x.owner.size:Nat):Int) < (x.name.size:Nat)
  · have b2:left - ((szL Fld.sz x.fields:Nat):Int) - ((x.owner.size:Nat):Int) - ((x.name.size:Nat):Int) < 0:=by omega
    have r:szR x.sz left=-1:=szR_lt (by simp only [Ty.sz];omega)
    simp [w0,b0,w1,b1,w2,b2,r]
  have b2:¬ left - ((szL Fld.sz x.fields:Nat):Int) - ((x.owner.size:Nat):Int) - ((x.name.size:Nat):Int) < 0:=by omega
  have r:szR x.sz left=left - ((szL Fld.sz x.fields:Nat):Int) - ((x.owner.size:Nat):Int) - ((x.name.size:Nat):Int):=(szR_ge (by simp only [Ty.sz];omega)).trans (by simp only [Ty.sz] <;> omega)
  simp [w0,b0,w1,b1,w2,b2,r]
noncomputable def c108:=ctr (fun a:Ty × Int=>a.1.lim∧0≤a.2∧a.2≤1048576) (fun a=>[a.1.v,.int .i64 a.2]) (fun a=>(false,.int .i64 (szR a.1.sz a.2)))
theorem c108_eq (x:Ty) (left:Int) (h:x.lim) (h0:0≤left) (h1:left≤1048576):c108 [x.v,.int .i64 left]=some (false,.int .i64 (szR x.sz left)):=ctr_eq (inj1 Ty.v_inj _) (x,left) ⟨h,h0,h1⟩ rfl
theorem c108_ok:COK Tryz.prog (108,c108):=ctr_ok fun a h=>f108_ok a.1 a.2 h.1 h.2.1 h.2.2
theorem f57_ok (xs:List Ty) (left:Int) (hlim:limL Ty.lim xs) (hl0:0≤left) (hl1:left≤1048576):FunOK Tryz.prog 57 [.lst (xs.map Ty.v),.int .i64 left] false (.int .i64 (szR (szL Ty.sz xs) left)):=by
  refine fun_ok (mkE_ok zmix (cl:=[(108,c108)]) (gl:=[]) [] c108_ok trivial) Tryz.func57 (by kernel_rfl) ?_
  refine FunW_run _ _ rfl rfl ?_
  have hlen:=hlim.1
  simp only [lim] at hlen
  have hl:=szL_len Ty.sz xs
  have w0:IntKind.i64.wrap (left - (xs.length:Int))=left - xs.length:=wrap64 (by omega) (by omega)
  by_cases a0:left < xs.length
  · have b0:left - (xs.length:Int) < 0:=by omega
    have r:szR (szL Ty.sz xs) left=-1:=szR_lt (by omega)
    simp [w0,b0,r]
  have b0:¬ left - (xs.length:Int) < 0:=by omega
  simp [w0,b0]
  refine lp_list xs (fun i t=>t.e 0=.lst (xs.map Ty.v)∧t.e 5=.int .i64 i∧t.e 1=.int .i64 (left - xs.length - pre Ty.sz xs i)∧0≤left - xs.length - pre Ty.sz xs i) ?_ ?_ ?_
  · simp [pre_zero]
    omega
  · rintro c' L hL i t x hx hi ih ⟨h0,h5,h1',hge⟩
    have hw:=wrI (i:=i) (by omega)
    have hp:=pre_succ Ty.sz hx
    have hp2:=pre_le Ty.sz xs (i + 1)
    have w:=c108_eq x (left - xs.length - pre Ty.sz xs i) (hlim.2 x (List.mem_of_getElem? hx)) (by omega) (by omega)
    simp only [Ty.v] at w
    by_cases a:left - xs.length - pre Ty.sz xs i < (Ty.sz x:Nat)
    · rw [szR_lt a] at w
      have r:szR (szL Ty.sz xs) left=-1:=szR_lt (by simp only [szL];omega)
      simp [-getElem?_pos,gcz,gcs,h0,h1',h5,hL,hx,hi,w,r]
    rw [szR_ge (Int.not_lt.1 a)] at w
    have b:¬ left - xs.length - pre Ty.sz xs i - (Ty.sz x:Nat) < 0:=by omega
    simp [-getElem?_pos,gcz,gcs,h0,h1',h5,hL,hx,hi,w,b]
    refine ih _ ?_
    simp [-getElem?_pos,gcz,gcs,h0,h1',h5,hL,hx,hi,hw,hp]
    omega
  · rintro c' t ⟨h0,h5,h1',hge⟩
    rw [pre_all] at h1' hge
    have r:szR (szL Ty.sz xs) left=left - xs.length - ((xs.map Ty.sz).sum:Nat):=by rw [szR_ge (by simp only [szL];omega)];simp only [szL];omega
    simp [h0,h5,h1',r]
noncomputable def c57:=ctr (fun a:List Ty × Int=>limL Ty.lim a.1∧0≤a.2∧a.2≤1048576) (fun a=>[.lst (a.1.map Ty.v),.int .i64 a.2]) (fun a=>(false,.int .i64 (szR (szL Ty.sz a.1) a.2)))
theorem c57_eq (xs:List Ty) (left:Int) (h:limL Ty.lim xs) (h0:0≤left) (h1:left≤1048576):c57 [.lst (xs.map Ty.v),.int .i64 left]=some (false,.int .i64 (szR (szL Ty.sz xs) left)):=ctr_eq (injl1 Ty.v_inj _) (xs,left) ⟨h,h0,h1⟩ rfl
theorem c57_ok:COK Tryz.prog (57,c57):=ctr_ok fun a h=>f57_ok a.1 a.2 h.1 h.2.1 h.2.2
theorem f109_ok (x:Obj) (left:Int) (h:x.lim) (h0:0≤left) (h1:left≤1048576):FunOK Tryz.prog 109 [x.v,.int .i64 left] false (.int .i64 (szR x.sz left)):=by
  refine fun_ok (mkE_ok zmix (cl:=[(166,c166)]) (gl:=[]) [] c166_ok trivial) Tryz.func109 (by kernel_rfl) ?_
  refine FunW_run _ _ rfl rfl ?_
  simp only [Obj.lim,lim] at h
  obtain ⟨l0,l1⟩:=h
  have w0:IntKind.i64.wrap (left - (x.name.size:Int))=left - (x.name.size:Nat):=wrap64 (by omega) (by omega)
  by_cases a0:left < (x.name.size:Nat)
  · have b0:left - ((x.name.size:Nat):Int) < 0:=by omega
    have r:szR x.sz left=-1:=szR_lt (by simp only [Obj.sz];omega)
    simp [w0,b0,r]
  have b0:¬ left - ((x.name.size:Nat):Int) < 0:=by omega
  have w1:=c166_eq x.params (left - ((x.name.size:Nat):Int)) l1 (by omega) (by omega)
  by_cases a1:left - ((x.name.size:Nat):Int) < (szL Par.sz x.params:Nat)
  · rw [szR_lt a1] at w1
    have r:szR x.sz left=-1:=szR_lt (by simp only [Obj.sz];omega)
    simp [w0,b0,w1,r]
  rw [szR_ge (Int.not_lt.1 a1)] at w1
  have b1:¬ left - ((x.name.size:Nat):Int) - ((szL Par.sz x.params:Nat):Int) < 0:=by omega
  have r:szR x.sz left=left - ((x.name.size:Nat):Int) - ((szL Par.sz x.params:Nat):Int):=(szR_ge (by simp only [Obj.sz];omega)).trans (by simp only [Obj.sz] <;> omega)
  simp [w0,b0,w1,b1,r]
noncomputable def c109:=ctr (fun a:Obj × Int=>a.1.lim∧0≤a.2∧a.2≤1048576) (fun a=>[a.1.v,.int .i64 a.2]) (fun a=>(false,.int .i64 (szR a.1.sz a.2)))
theorem c109_eq (x:Obj) (left:Int) (h:x.lim) (h0:0≤left) (h1:left≤1048576):c109 [x.v,.int .i64 left]=some (false,.int .i64 (szR x.sz left)):=ctr_eq (inj1 Obj.v_inj _) (x,left) ⟨h,h0,h1⟩ rfl
theorem c109_ok:COK Tryz.prog (109,c109):=ctr_ok fun a h=>f109_ok a.1 a.2 h.1 h.2.1 h.2.2
theorem f58_ok (xs:List Obj) (left:Int) (hlim:limL Obj.lim xs) (hl0:0≤left) (hl1:left≤1048576):FunOK Tryz.prog 58 [.lst (xs.map Obj.v),.int .i64 left] false (.int .i64 (szR (szL Obj.sz xs) left)):=by
  refine fun_ok (mkE_ok zmix (cl:=[(109,c109)]) (gl:=[]) [] c109_ok trivial) Tryz.func58 (by kernel_rfl) ?_
  refine FunW_run _ _ rfl rfl ?_
  have hlen:=hlim.1
  simp only [lim] at hlen
  have hl:=szL_len Obj.sz xs
  have w0:IntKind.i64.wrap (left - (xs.length:Int))=left - xs.length:=wrap64 (by omega) (by omega)
  by_cases a0:left < xs.length
  · have b0:left - (xs.length:Int) < 0:=by omega
    have r:szR (szL Obj.sz xs) left=-1:=szR_lt (by omega)
    simp [w0,b0,r]
  have b0:¬ left - (xs.length:Int) < 0:=by omega
  simp [w0,b0]
  refine lp_list xs (fun i t=>t.e 0=.lst (xs.map Obj.v)∧t.e 5=.int .i64 i∧t.e 1=.int .i64 (left - xs.length - pre Obj.sz xs i)∧0≤left - xs.length - pre Obj.sz xs i) ?_ ?_ ?_
  · simp [pre_zero]
    omega
  · rintro c' L hL i t x hx hi ih ⟨h0,h5,h1',hge⟩
    have hw:=wrI (i:=i) (by omega)
    have hp:=pre_succ Obj.sz hx
    have hp2:=pre_le Obj.sz xs (i + 1)
    have w:=c109_eq x (left - xs.length - pre Obj.sz xs i) (hlim.2 x (List.mem_of_getElem? hx)) (by omega) (by omega)
    simp only [Obj.v] at w
    by_cases a:left - xs.length - pre Obj.sz xs i < (Obj.sz x:Nat)
    · rw [szR_lt a] at w
      have r:szR (szL Obj.sz xs) left=-1:=szR_lt (by simp only [szL];omega)
      simp [-getElem?_pos,gcz,gcs,h0,h1',h5,hL,hx,hi,w,r]
    rw [szR_ge (Int.not_lt.1 a)] at w
    have b:¬ left - xs.length - pre Obj.sz xs i - (Obj.sz x:Nat) < 0:=by omega
    simp [-getElem?_pos,gcz,gcs,h0,h1',h5,hL,hx,hi,w,b]
    refine ih _ ?_
    simp [-getElem?_pos,gcz,gcs,h0,h1',h5,hL,hx,hi,hw,hp]
    omega
  · rintro c' t ⟨h0,h5,h1',hge⟩
    rw [pre_all] at h1' hge
    have r:szR (szL Obj.sz xs) left=left - xs.length - ((xs.map Obj.sz).sum:Nat):=by rw [szR_ge (by simp only [szL];omega)];simp only [szL];omega
    simp [h0,h5,h1',r]
noncomputable def c58:=ctr (fun a:List Obj × Int=>limL Obj.lim a.1∧0≤a.2∧a.2≤1048576) (fun a=>[.lst (a.1.map Obj.v),.int .i64 a.2]) (fun a=>(false,.int .i64 (szR (szL Obj.sz a.1) a.2)))
theorem c58_eq (xs:List Obj) (left:Int) (h:limL Obj.lim xs) (h0:0≤left) (h1:left≤1048576):c58 [.lst (xs.map Obj.v),.int .i64 left]=some (false,.int .i64 (szR (szL Obj.sz xs) left)):=ctr_eq (injl1 Obj.v_inj _) (xs,left) ⟨h,h0,h1⟩ rfl
theorem c58_ok:COK Tryz.prog (58,c58):=ctr_ok fun a h=>f58_ok a.1 a.2 h.1 h.2.1 h.2.2
theorem f12_ok (x:Scp) (left:Int) (h:x.lim) (h0:0≤left) (h1:left≤1048576):FunOK Tryz.prog 12 [x.v,.int .i64 left] false (.int .i64 (szR x.sz left)):=by
  refine fun_ok (mkE_ok zmix (cl:=[(56,c56),(57,c57),(58,c58),(59,c59)]) (gl:=[]) [] ⟨c56_ok,c57_ok,c58_ok,c59_ok⟩ trivial) Tryz.func12 (by kernel_rfl) ?_
  refine FunW_run _ _ rfl rfl ?_
  simp only [Scp.lim,lim] at h
  obtain ⟨l0,l1,l2,l3,l4⟩:=h
  have w0:IntKind.i64.wrap (left - (x.name.size:Int))=left - (x.name.size:Nat):=wrap64 (by omega) (by omega)
  by_cases a0:left < (x.name.size:Nat)
  · have b0:left - ((x.name.size:Nat):Int) < 0:=by omega
    have r:szR x.sz left=-1:=szR_lt (by simp only [Scp.sz];omega)
    simp [w0,b0,r]
  have b0:¬ left - ((x.name.size:Nat):Int) < 0:=by omega
  have w1:=c56_eq x.imports (left - ((x.name.size:Nat):Int)) l1 (by omega) (by omega)
  by_cases a1:left - ((x.name.size:Nat):Int) < (szL ByteArray.size x.imports:Nat)
  · rw [szR_lt a1] at w1
    have r:szR x.sz left=-1:=szR_lt (by simp only [Scp.sz];omega)
    simp [w0,b0,w1,r]
  rw [szR_ge (Int.not_lt.1 a1)] at w1
  have b1:¬ left - ((x.name.size:Nat):Int) - ((szL ByteArray.size x.imports:Nat):Int) < 0:=by omega
  have w2:=c57_eq x.types (left - ((x.name.size:Nat):Int) - ((szL ByteArray.size x.imports:Nat):Int)) l2 (by omega) (by omega)
  by_cases a2:left - ((x.name.size:Nat):Int) - ((szL ByteArray.size x.imports:Nat):Int) < (szL Ty.sz x.types:Nat)
  · rw [szR_lt a2] at w2
    have r:szR x.sz left=-1:=szR_lt (by simp only [Scp.sz];omega)
    simp [w0,b0,w1,b1,w2,r]
  rw [szR_ge (Int.not_lt.1 a2)] at w2
  have b2:¬ left - ((x.name.size:Nat):Int) - ((szL ByteArray.size x.imports:Nat):Int) - ((szL Ty.sz x.types:Nat):Int) < 0:=by omega
  have w3:=c58_eq x.objects (left - ((x.name.size:Nat):Int) - ((szL ByteArray.size x.imports:Nat):Int) - ((szL Ty.sz x.types:Nat):Int)) l3 (by omega) (by omega)
  by_cases a3:left - ((x.name.size:Nat):Int) - ((szL ByteArray.size x.imports:Nat):Int) - ((szL Ty.sz x.types:Nat):Int) < (szL Obj.sz x.objects:Nat)
  · rw [szR_lt a3] at w3
    have r:szR x.sz left=-1:=szR_lt (by simp only [Scp.sz];omega)
    simp [w0,b0,w1,b1,w2,b2,w3,r]
  rw [szR_ge (Int.not_lt.1 a3)] at w3
  have b3:¬ left - ((x.name.size:Nat):Int) - ((szL ByteArray.size x.imports:Nat):Int) - ((szL Ty.sz x.types:Nat):Int) - ((szL Obj.sz x.objects:Nat):Int) < 0:=by omega
  have w4:=c59_eq x.uses (left - ((x.name.size:Nat):Int) - ((szL ByteArray.size x.imports:Nat):Int) - ((szL Ty.sz x.types:Nat):Int) - ((szL Obj.sz x.objects:Nat):Int)) l4 (by omega) (by omega)
  by_cases a4:left - ((x.name.size:Nat):Int) - ((szL ByteArray.size x.imports:Nat):Int) - ((szL Ty.sz x.types:Nat):Int) - ((szL Obj.sz x.objects:Nat):Int) < (szL Use.sz x.uses:Nat)
  · rw [szR_lt a4] at w4
    have r:szR x.sz left=-1:=szR_lt (by simp only [Scp.sz];omega)
    simp [w0,b0,w1,b1,w2,b2,w3,b3,w4,r]
  rw [szR_ge (Int.not_lt.1 a4)] at w4
  have b4:¬ left - ((x.name.size:Nat):Int) - ((szL ByteArray.size x.imports:Nat):Int) - ((szL Ty.sz x.types:Nat):Int) - ((szL Obj.sz x.objects:Nat):Int) - ((szL Use.sz x.uses:Nat):Int) < 0:=by omega
  have r:szR x.sz left=left - ((x.name.size:Nat):Int) - ((szL ByteArray.size x.imports:Nat):Int) - ((szL Ty.sz x.types:Nat):Int) - ((szL Obj.sz x.objects:Nat):Int) - ((szL Use.sz x.uses:Nat):Int):=(szR_ge (by simp only [Scp.sz];omega)).trans (by simp only [Scp.sz] <;> omega)
  simp [w0,b0,w1,b1,w2,b2,w3,b3,w4,b4,r]
noncomputable def c12:=ctr (fun a:Scp × Int=>a.1.lim∧0≤a.2∧a.2≤1048576) (fun a=>[a.1.v,.int .i64 a.2]) (fun a=>(false,.int .i64 (szR a.1.sz a.2)))
theorem c12_eq (x:Scp) (left:Int) (h:x.lim) (h0:0≤left) (h1:left≤1048576):c12 [x.v,.int .i64 left]=some (false,.int .i64 (szR x.sz left)):=ctr_eq (inj1 Scp.v_inj _) (x,left) ⟨h,h0,h1⟩ rfl
theorem c12_ok:COK Tryz.prog (12,c12):=ctr_ok fun a h=>f12_ok a.1 a.2 h.1 h.2.1 h.2.2
end Go.TM.Tryz
end
