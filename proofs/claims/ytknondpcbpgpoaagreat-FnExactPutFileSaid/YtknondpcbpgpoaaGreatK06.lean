/- A part of the proof: G0, G0b, G0c, G1, G2, G3, G4, G5. -/
import Derived.Test.YtknondpcbpgpoaaGreatK05
import Derived.MapKept
set_option linter.unusedVariables false
set_option linter.unusedSimpArgs false
section
namespace Go.TM
open Go
abbrev Rule (Γ:Type):=S→Γ→(S→Γ→Prop)→Prop
section
variable {Γ:Type} (E:Env)
def opsX (c:Nat→Option (Rule Γ)) (all:Array Oper):Nat→List Oper→S→Γ→(S→Γ→Prop)→Prop
  | _,[],s,g,K=>K s g
  | i,o :: os,s,g,K=>match c i with
    | some r=>r s g fun s' g'=>opsX c all (i + 1) os s' g' K
    | none=>opsW E false all [o] s fun s'=>opsX c all (i + 1) os s' g K
end
section
variable {Γ:Type} {P:Program} {E:Env} {n:Nat} (Inv:Γ→Mem→World→Prop)
def RuleOK (P:Program) (n:Nat) (o:Oper) (r:Rule Γ):Prop :=
  ∀ s g a W M (K:S→Γ→Prop) (Q:Exit→Act→World→Prop),St n M W s a→Inv g M W→r s g K→o.wp P a W (fun a' W'=>∃ M' s' g',St n M' W' s' a'∧Inv g' M' W'∧K s' g') Q
variable {Inv}
theorem opsX_sound (env:EnvOK P E) (hI:∀ g M W M' W',Inv g M W→Evo M W M' W'→Inv g M' W') {all:Array Oper} (hall:all.toList.all (okO n)=true) {c:Nat→Option (Rule Γ)}
    (hc:∀ i o r,all[i]?=some o→c i=some r→o.guard=none∧RuleOK Inv P n o r) {K:S→Γ→Prop} {Q:Exit→Act→World→Prop}
    (hK:∀ s' g' a' W' M',K s' g'→St n M' W' s' a'→Inv g' M' W'→Q .normal a' W') :
    ∀ (os:List Oper) (k:Nat) (s:S) (g:Γ) (a:Act) (W:World) (M:Mem),(∀ j,os[j]?=all[k + j]?)→St n M W s a→Inv g M W→opsX E c all k os s g K→wpOps P all Q (List.range' k os.length) a W
  | [],_,s,g,a,W,M,_,h,hi,hw=>hK s g a W M hw h hi
  | o :: os,k,s,g,a,W,M,hl,h,hi,hw=>by
    have h0:all[k]?=some o:=by simpa using (hl 0).symm
    have hok:okO n o=true:=okO_at hall h0
    have hl':∀ j,os[j]?=all[(k + 1) + j]?:=fun j=>by
      have:=hl (j + 1)
      simpa [Nat.add_assoc,Nat.add_comm 1 j] using this
    have ihh:=opsX_sound env hI hall hc hK os (k + 1)
    simp only [List.length_cons,List.range'_succ,wpOps,h0]
    simp only [opsX] at hw
    split at hw
    · rename_i r hr
      obtain ⟨h1,h2⟩:=hc k o r h0 hr
      have hwant:Region.wanted o (yielded all a.tmps)=true:=by simp [Region.wanted,h1]
      rw [hwant,if_pos rfl]
      left
      exact Oper.wp_mono (fun a' W' ⟨M',s',g',h3,h4,h5⟩=>ihh s' g' a' W' M' hl' h3 h4 h5) (h2 s g a W M _ Q h hi hw)
    · rcases up env hall h hok hw with ⟨h1,s',h2,h3⟩ | ⟨h1,h2⟩
      · rw [h1]
        exact ihh s' g _ W M hl' h3 hi h2
      · rw [h1,if_pos rfl]
        left
        rcases h2 with ⟨val,M',s',h2,h3,h4,-,h5⟩ | ⟨-,h2⟩
        · exact wp_of_quietAt h2 fun w hw=>ihh s' g _ w M' hl' (h3.cls hw) (hI _ _ _ _ _ hi (h4.trans (hw.evo M'))) h5
        · exact Oper.wp_mono (fun a' W' ⟨val,M',s',_,h3,h4,h5⟩=>ihh s' g a' W' M' hl' h3 (hI _ _ _ _ _ hi h4) h5) (h2 Q)
end
end Go.TM
end
section
namespace Go.TM
open Go
inductive TX where
  | done
  | one (q:Bool) (i:Nat) (k:TX)
  | two (q:Bool) (i:Nat) (a:TX) (q':Bool) (j:Nat) (b:TX)
  | three (q:Bool) (i:Nat) (a:TX) (q':Bool) (j:Nat) (b:TX) (q'':Bool) (l:Nat) (d:TX)
def TX.depth:TX→Nat
  | .done=>0
  | .one _ _ k=>k.depth + 1
  | .two _ _ a _ _ b=>max a.depth b.depth + 1
  | .three _ _ a _ _ b _ _ d=>max (max a.depth b.depth) d.depth + 1
section
variable {Γ:Type} (E:Env)
def memX (c:Nat→Option (Rule Γ)) (all:Array Oper) (q:Bool) (i:Nat) (s:S) (g:Γ) (K:S→Γ→Prop):Prop :=
  match c i with
  | some r=>r s g K
  | none=>memW E all q i s fun s'=>K s' g
def treeX (c:Nat→Option (Rule Γ)) (all:Array Oper):TX→S→Γ→(S→Γ→Prop)→Prop
  | .done,s,g,K=>K s g
  | .one q i k,s,g,K=>memX E c all q i s g fun s' g'=>treeX c all k s' g' K
  | .two q i a q' j b,s,g,K=>memX E c all q i s g (fun s' g'=>treeX c all a s' g' K)∧memX E c all q' j s g (fun s' g'=>treeX c all b s' g' K)
  | .three q i a q' j b q'' l d,s,g,K=>memX E c all q i s g (fun s' g'=>treeX c all a s' g' K)∧memX E c all q' j s g (fun s' g'=>treeX c all b s' g' K)∧memX E c all q'' l s g (fun s' g'=>treeX c all d s' g' K)
def cutX (c:Nat→Option (Rule Γ)) (all:Array Oper) (p:Pl) (t:TX):Rule Γ:=fun s g K=>preW E all (cutL p) s fun u=>treeX E c all t u g K
end
def okEX (all:Array Oper) (kp cs:List Nat) (c q:Bool) (i:Nat):Bool:=if cs.contains i then !kp.contains i || (c && q) else okEa all kp c q i
def okCX2 (all:Array Oper) (cs:List Nat) (q:Bool) (i:Nat):Bool:=if cs.contains i then q else okCls all q i
def okTX (all:Array Oper) (kp cs:List Nat):Bool→Array Bool→TX→Bool
  | _,listed,.done=>(Region.ready .any all listed).isEmpty
  | c,listed,.one q i k=>Region.ready .any all listed == [i] && okEX all kp cs c q i && okTX all kp cs (c && okCX2 all cs q i) (listed.setIfInBounds i true) k
  | c,listed,.two q i a q' j b=>Region.ready .any all listed == [i,j] && okEX all kp cs c q i && okEX all kp cs c q' j && okTX all kp cs (c && okCX2 all cs q i) (listed.setIfInBounds i true) a && okTX all kp cs (c && okCX2 all cs q' j) (listed.setIfInBounds j true) b
  | c,listed,.three q i a q' j b q'' l d=>Region.ready .any all listed == [i,j,l] && okEX all kp cs c q i && okEX all kp cs c q' j && okEX all kp cs c q'' l && okTX all kp cs (c && okCX2 all cs q i) (listed.setIfInBounds i true) a && okTX all kp cs (c && okCX2 all cs q' j) (listed.setIfInBounds j true) b && okTX all kp cs (c && okCX2 all cs q'' l) (listed.setIfInBounds l true) d
def okCutX (all:Array Oper) (cs:List Nat) (p:Pl) (t:TX):Bool :=
  let pre:=p.pr.map (·.1)
  Region.noSelect all && decide (p.rg.length + pre.length + t.depth≤all.size) &&
    (List.range all.size).all (fun j=>p.rg.contains j || (pre ++ p.ea).contains j || p.la.contains j) &&
    pre.all (fun i=>!p.la.contains i) && p.rg.all (fun i=>!(pre ++ p.ea).contains i) && p.la.all (fun i=>!p.rg.contains i) &&
    (match p.la with
      | []=>true
      | t0 :: tl=>pre.isEmpty || pre.all (fun i=>pathB all t0 all.size i) && tl.all (fun j=>(t0 :: tl).any fun k=>decide (k < j) && edgeB all j k)) &&
    (match okRig all (Array.replicate all.size false) p.rg with
      | some l1=>match okPre all l1 p.pr with
        | some l2=>okTX all (pre ++ p.ea) cs true l2 t
        | none=>false
      | none=>false)
section
variable {Γ:Type} {P:Program} {E:Env} {n:Nat} {Inv:Γ→Mem→World→Prop}
def RuleQ (Inv:Γ→Mem→World→Prop) (P:Program) (n:Nat) (o:Oper) (r:Rule Γ):Prop :=
  ∀ s g a W M (K:S→Γ→Prop) (Q:Exit→Act→World→Prop),St n M W s a→Inv g M W→r s g K→o.wp P a W (fun a' W'=>Cls W W'∧∃ M' s' g',St n M' W' s' a'∧Inv g' M' W'∧K s' g') Q
theorem RuleQ.ok {o:Oper} {r:Rule Γ} (h:RuleQ Inv P n o r):RuleOK Inv P n o r:=fun s g a W M K Q h1 h2 h3=>Oper.wp_mono (fun a' W' h4=>h4.2) (h s g a W M K Q h1 h2 h3)
theorem memX_one (env:EnvOK P E) (hI:∀ g M W M' W',Inv g M W→Evo M W M' W'→Inv g M' W') {all:Array Oper} (hall:all.toList.all (okO n)=true) {c:Nat→Option (Rule Γ)} {cs:List Nat} (hcs:∀ i r,c i=some r→i ∈ cs) (hcs':∀ i ∈ cs,(c i).isSome=true)
    (hc:∀ i o r,all[i]?=some o→c i=some r→o.guard=none∧RuleOK Inv P n o r) {Q:Exit→Act→World→Prop} {W:World} {kp:List Nat} {i:Nat} {q b:Bool} (hq:∀ o r,all[i]?=some o→c i=some r→q=true→RuleQ Inv P n o r)
    (hea:okEX all kp cs b q i=true) (hi:i < all.size) {s:S} {g:Γ} {a:Act} {w:World} {M:Mem} (hb:b=true→Cls W w) (h:St n M w s a) (hv:Inv g M w) {K:S→Γ→Prop} (hw:memX E c all q i s g K)
    {R:Act→World→Prop} (go:∀ s' g' a' w' M',((b && okCX2 all cs q i)=true→Cls W w')→St n M' w' s' a'→Inv g' M' w'→K s' g'→R a' w'):wpOp P all Q i (fun a' w'=>(i ∈ kp→Cls W w')∧R a' w') a w:=by
  unfold memX at hw
  split at hw
  · rename_i r hr
    have hm:=hcs i r hr
    have ho:all[i]?=some all[i]:=Array.getElem?_eq_getElem hi
    obtain ⟨h1,h2⟩:=hc i _ r ho hr
    unfold wpOp
    simp only [ho]
    have hwant:Region.wanted all[i] (yielded all a.tmps)=true:=by simp [Region.wanted,h1]
    rw [hwant,if_pos rfl]
    left
    have e1:cs.contains i=true:=by simpa using hm
    cases q with
    | true =>
      refine Oper.wp_mono ?_ (hq _ r ho hr rfl s g a w M K Q h hv hw)
      rintro a' w' ⟨h3,M',s',g',h4,h5,h6⟩
      refine ⟨fun hk=>?_,go s' g' a' w' M' (fun hb'=>?_) h4 h5 h6⟩
      · have e2:kp.contains i=true:=by simpa using hk
        simp only [okEX,e1,if_true,e2,Bool.not_true,Bool.false_or,Bool.and_true] at hea
        exact Cls_trans (hb hea) h3
      · simp only [Bool.and_eq_true] at hb'
        exact Cls_trans (hb hb'.1) h3
    | false =>
      refine Oper.wp_mono ?_ (h2 s g a w M K Q h hv hw)
      rintro a' w' ⟨M',s',g',h4,h5,h6⟩
      refine ⟨fun hk=>?_,go s' g' a' w' M' (fun hb'=>?_) h4 h5 h6⟩
      · have e2:kp.contains i=true:=by simpa using hk
        simp only [okEX,e1,if_true,e2,Bool.not_true,Bool.false_or,Bool.and_false,Bool.false_eq_true] at hea
      · simp only [okCX2,e1,if_true,Bool.and_false,Bool.false_eq_true] at hb'
  · rename_i hr
    have e1:cs.contains i=false:=by
      rw [← Bool.not_eq_true]
      intro hm
      have:=hcs' i (by simpa using hm)
      rw [hr] at this
      cases this
    simp only [okEX,e1,Bool.false_eq_true,if_false] at hea
    refine tree_one (M0:=M) (W0:=w) env hall hea hb h (Evo.refl _ _) hw fun s' a' w' M' h1 h2 h3 h4=>?_
    exact go s' g a' w' M' (fun hb'=>h1 (by simpa only [okCX2,e1,Bool.false_eq_true,if_false] using hb')) h2 (hI _ _ _ _ _ hv h3) h4
theorem ready_lt {all:Array Oper} {listed:Array Bool} {i:Nat} (h:i ∈ Region.ready .any all listed):i < all.size:=by
  obtain ⟨_,o,ho,_⟩:=mem_ready.1 h
  rw [Array.getElem?_eq_some_iff] at ho
  exact ho.1
structure RgC (Inv:Γ→Mem→World→Prop) (P:Program) (n:Nat) (all:Array Oper) (c:Nat→Option (Rule Γ)) (cs qs:List Nat):Prop where
  c1:∀ i r,c i=some r→i ∈ cs
  c2:∀ i ∈ cs,(c i).isSome=true
  ok:∀ i o r,all[i]?=some o→c i=some r→o.guard=none∧RuleOK Inv P n o r
  q:∀ i o r,all[i]?=some o→c i=some r→i ∈ qs→RuleQ Inv P n o r
def qsTX (cs qs:List Nat):TX→Bool
  | .done=>true
  | .one q i k=>(!q || !cs.contains i || qs.contains i) && qsTX cs qs k
  | .two q i a q' j b=>(!q || !cs.contains i || qs.contains i) && (!q' || !cs.contains j || qs.contains j) && qsTX cs qs a && qsTX cs qs b
  | .three q i a q' j b q'' l d=>(!q || !cs.contains i || qs.contains i) && (!q' || !cs.contains j || qs.contains j) && (!q'' || !cs.contains l || qs.contains l) && qsTX cs qs a && qsTX cs qs b && qsTX cs qs d
theorem qs_use {all:Array Oper} {c:Nat→Option (Rule Γ)} {cs qs:List Nat} (hr:RgC Inv P n all c cs qs) {q:Bool} {i:Nat} (h:(!q || !cs.contains i || qs.contains i)=true):∀ o r,all[i]?=some o→c i=some r→q=true→RuleQ Inv P n o r:=fun o r h1 h2 h3=>by
  subst h3
  have e:=hr.c1 i r h2
  refine hr.q i o r h1 h2 ?_
  have e1:cs.contains i=true:=by simpa using e
  simp only [Bool.not_true,e1,Bool.false_or] at h
  simpa using h
theorem tree_runX (env:EnvOK P E) (hI:∀ g M W M' W',Inv g M W→Evo M W M' W'→Inv g M' W') {all:Array Oper} (hall:all.toList.all (okO n)=true) {c:Nat→Option (Rule Γ)} {cs qs:List Nat} (hr:RgC Inv P n all c cs qs)
    {K:S→Γ→Prop} {Q:Exit→Act→World→Prop} {W:World} {kp:List Nat}
    (hK:∀ s g a w M,K s g→St n M w s a→Inv g M w→Q .normal a w) :
    ∀ (t:TX) (b:Bool) (listed:Array Bool) (k:Nat) (s:S) (g:Γ) (a:Act) (w:World) (M:Mem),t.depth≤k→okTX all kp cs b listed t=true→qsTX cs qs t=true→(b=true→Cls W w)→St n M w s a→Inv g M w→treeX E c all t s g K→anyK P all Q (Cls W) kp k listed a w
  | .done,b,listed,k,s,g,a,w,M,_,hok,_,_,h,hi,hw=>anyK_done (by simpa [okTX] using hok) (hK s g a w M hw h hi) k
  | .one q i t,b,listed,0,s,g,a,w,M,hf,_,_,_,_,_,_=>by simp [TX.depth] at hf
  | .one q i t,b,listed,k + 1,s,g,a,w,M,hf,hok,hqs,hb,h,hi,hw=>by
    simp only [okTX,Bool.and_eq_true,beq_iff_eq] at hok
    simp only [qsTX] at hqs
    rw [Bool.and_eq_true] at hqs
    obtain ⟨⟨h1,h2⟩,h3⟩:=hok
    simp only [treeX] at hw
    simp only [TX.depth] at hf
    exact anyK_one h1 (memX_one env hI hall hr.c1 hr.c2 hr.ok (qs_use hr hqs.1) h2 (ready_lt (by rw [h1];simp)) hb h hi hw fun s' g' a' w' M' c1 c2 c3 c4 =>
      tree_runX env hI hall hr hK t (b && okCX2 all cs q i) _ k s' g' a' w' M' (by omega) (by simpa only [Bool.and_eq_true] using h3) hqs.2 c1 c2 c3 c4)
  | .two q i t q' j t',b,listed,0,s,g,a,w,M,hf,_,_,_,_,_,_=>by simp [TX.depth] at hf
  | .two q i t q' j t',b,listed,k + 1,s,g,a,w,M,hf,hok,hqs,hb,h,hi,hw=>by
    simp only [okTX,Bool.and_eq_true,beq_iff_eq] at hok
    simp only [qsTX] at hqs
    rw [Bool.and_eq_true,Bool.and_eq_true,Bool.and_eq_true] at hqs
    obtain ⟨⟨⟨q1,q2⟩,q3⟩,q4⟩:=hqs
    obtain ⟨⟨⟨⟨h1,h2⟩,h3⟩,h4⟩,h5⟩:=hok
    simp only [treeX] at hw
    simp only [TX.depth] at hf
    refine anyK_two h1 (memX_one env hI hall hr.c1 hr.c2 hr.ok (qs_use hr q1) h2 (ready_lt (by rw [h1];simp)) hb h hi hw.1 fun s' g' a' w' M' c1 c2 c3 c4=>?_) (memX_one env hI hall hr.c1 hr.c2 hr.ok (qs_use hr q2) h3 (ready_lt (by rw [h1];simp)) hb h hi hw.2 fun s' g' a' w' M' c1 c2 c3 c4=>?_)
    · exact tree_runX env hI hall hr hK t (b && okCX2 all cs q i) _ k s' g' a' w' M' (by omega) (by simpa only [Bool.and_eq_true] using h4) q3 c1 c2 c3 c4
    · exact tree_runX env hI hall hr hK t' (b && okCX2 all cs q' j) _ k s' g' a' w' M' (by omega) (by simpa only [Bool.and_eq_true] using h5) q4 c1 c2 c3 c4
  | .three q i t q' j t' q'' l t'',b,listed,0,s,g,a,w,M,hf,_,_,_,_,_,_=>by simp [TX.depth] at hf
  | .three q i t q' j t' q'' l t'',b,listed,k + 1,s,g,a,w,M,hf,hok,hqs,hb,h,hi,hw=>by
    simp only [okTX,Bool.and_eq_true,beq_iff_eq] at hok
    simp only [qsTX] at hqs
    rw [Bool.and_eq_true,Bool.and_eq_true,Bool.and_eq_true,Bool.and_eq_true,Bool.and_eq_true] at hqs
    obtain ⟨⟨⟨⟨⟨q1,q2⟩,q3⟩,q4⟩,q5⟩,q6⟩:=hqs
    obtain ⟨⟨⟨⟨⟨⟨h1,h2⟩,h3⟩,h4⟩,h5⟩,h6⟩,h7⟩:=hok
    simp only [treeX] at hw
    simp only [TX.depth] at hf
    refine anyK_three h1 (memX_one env hI hall hr.c1 hr.c2 hr.ok (qs_use hr q1) h2 (ready_lt (by rw [h1];simp)) hb h hi hw.1 fun s' g' a' w' M' c1 c2 c3 c4=>?_) (memX_one env hI hall hr.c1 hr.c2 hr.ok (qs_use hr q2) h3 (ready_lt (by rw [h1];simp)) hb h hi hw.2.1 fun s' g' a' w' M' c1 c2 c3 c4=>?_)
      (memX_one env hI hall hr.c1 hr.c2 hr.ok (qs_use hr q3) h4 (ready_lt (by rw [h1];simp)) hb h hi hw.2.2 fun s' g' a' w' M' c1 c2 c3 c4=>?_)
    · exact tree_runX env hI hall hr hK t (b && okCX2 all cs q i) _ k s' g' a' w' M' (by omega) (by simpa only [Bool.and_eq_true] using h5) q4 c1 c2 c3 c4
    · exact tree_runX env hI hall hr hK t' (b && okCX2 all cs q' j) _ k s' g' a' w' M' (by omega) (by simpa only [Bool.and_eq_true] using h6) q5 c1 c2 c3 c4
    · exact tree_runX env hI hall hr hK t'' (b && okCX2 all cs q'' l) _ k s' g' a' w' M' (by omega) (by simpa only [Bool.and_eq_true] using h7) q6 c1 c2 c3 c4
theorem pre_runX (env:EnvOK P E) {all:Array Oper} (hall:all.toList.all (okO n)=true) (hns:Region.noSelect all=true) {KK:S→Prop} {Q:Exit→Act→World→Prop} (hQ:∀ c a w,¬ Q (.panic c) a w) {M0:Mem} {W0 W:World} {pr kp tl:List Nat} (hcut:TwoCut all pr tl) (hsub:∀ i ∈ pr,i ∈ kp) {dep:Nat} {l2:Array Bool}
    (hgo:∀ (k:Nat) (u:S) (a:Act) (w:World) (M:Mem),dep≤k→Cls W w→St n M w u a→Evo M0 W0 M w→KK u→anyK P all Q (Cls W) kp k l2 a w) :
    ∀ (pl:List (Nat × Bool)) (listed:Array Bool) (k:Nat) (u:S) (a:Act) (w:World) (M:Mem),pl.length + dep≤k→(∀ y ∈ pl,y.1 ∈ pr)→ClosedL all listed→(∀ j,j < all.size→j ∉ kp→j ∉ tl→listed.getD j false=true) →
      okPre all listed pl=some l2→St n M W u a→Evo M0 W0 M W→Cls W w→preW E all pl u KK→anyK P all Q (Cls W) kp k listed a w
  | [],listed,k,u,a,w,M,hf,_,_,_,hok,h,he,hw,hp=>by
    simp only [okPre,Option.some.injEq] at hok
    subst hok
    exact hgo k u a w M (by simpa using hf) hw (h.cls hw) (he.trans (hw.evo M)) hp
  | (i,b) :: pl,listed,0,u,a,w,M,hf,_,_,_,_,_,_,_,_=>by simp at hf
  | (i,false) :: pl,listed,k + 1,u,a,w,M,hf,hin,hcl,hrest,hok,h,he,hw,hp=>by
    simp only [okPre,Bool.false_eq_true,if_false] at hok
    split at hok
    · rename_i hc
      simp only [Bool.and_eq_true] at hc
      obtain ⟨h1,h2⟩:=hc
      simp only [preW] at hp
      split at hp
      · rename_i o ho
        obtain ⟨hpu,hp⟩:=hp
        have hoo:=okO_at hall ho
        have hrd:i ∈ Region.ready .any all listed:=by simpa using h2
        have ih:=pre_runX (W:=W) env hall hns hQ hcut hsub hgo pl (listed.setIfInBounds i true) k
        have hf':pl.length + dep≤k:=by simp only [List.length_cons] at hf;omega
        have hin':∀ y ∈ pl,y.1 ∈ pr:=fun y hy=>hin y (by simp [hy])
        have hcl':=closed_add hcl hrd
        have hrest':∀ j,j < all.size→j ∉ kp→j ∉ tl→(listed.setIfInBounds i true).getD j false=true:=fun j a b c=>getD_set_true (hrest j a b c)
        rcases up env hall h hoo hp with ⟨h4,s',h5,h6⟩ | ⟨h4,h5⟩
        · exact anyK_pre hcut hsub ho hns hQ (hin (i,false) (by simp)) hcl hrest h1 h2 (.inr ⟨h4,rfl⟩) hw (ih s' _ w M hf' hin' hcl' hrest' hok h6 he hw h5)
        · rcases h5 with ⟨val,M',s',h5,h6,h7,h8,h9⟩ | ⟨h5,-⟩
          · obtain ⟨rfl,h10⟩:=h8 (hpu trivial)
            exact anyK_pre hcut hsub ho hns hQ (hin (i,false) (by simp)) hcl hrest h1 h2 (.inl ⟨h4,h10⟩) hw (ih s' _ w M' hf' hin' hcl' hrest' hok h6 he hw h9)
          · cases h5
      · exact hp.elim
    · cases hok
  | (i,true) :: pl,listed,k + 1,u,a,w,M,hf,hin,hcl,hrest,hok,h,he,hw,hp=>by
    simp only [okPre,if_true] at hok
    split at hok
    · rename_i hc
      have h1:Region.ready .any all listed=[i]:=by simpa using hc
      simp only [preW] at hp
      split at hp
      · rename_i o ho
        obtain ⟨-,hp⟩:=hp
        have hoo:=okO_at hall ho
        have hrd:i ∈ Region.ready .any all listed:=by rw [h1];simp
        have ih:=pre_runX (W:=W) env hall hns hQ hcut hsub hgo pl (listed.setIfInBounds i true) k
        have hf':pl.length + dep≤k:=by simp only [List.length_cons] at hf;omega
        have hin':∀ y ∈ pl,y.1 ∈ pr:=fun y hy=>hin y (by simp [hy])
        have hcl':=closed_add hcl hrd
        have hrest':∀ j,j < all.size→j ∉ kp→j ∉ tl→(listed.setIfInBounds i true).getD j false=true:=fun j a b c=>getD_set_true (hrest j a b c)
        refine anyK_one h1 ?_
        unfold wpOp
        simp only [ho]
        rcases up env hall h hoo hp with ⟨h4,s',h5,h6⟩ | ⟨h4,h5⟩
        · rw [h4,if_neg (by simp)]
          exact ⟨fun _=>hw,ih s' _ w M hf' hin' hcl' hrest' hok h6 he hw h5⟩
        · rw [h4,if_pos rfl]
          left
          rcases h5 with ⟨val,M',s',h5,h6,h7,-,h9⟩ | ⟨h5,-⟩
          · exact Go.Oper.wp_of_quiet (C:=Cls W) (K:=fun a'=>a'=a.put o.dst val) hw (fun a' w' hw' e=>by
              subst e
              exact ⟨fun _=>hw',ih s' _ w' M' hf' hin' hcl' hrest' hok h6 (he.trans h7) hw' h9⟩) ⟨val,h5,rfl⟩
          · cases h5
      · exact hp.elim
    · cases hok
theorem cutX_run (env:EnvOK P E) (hI:∀ g M W M' W',Inv g M W→Evo M W M' W'→Inv g M' W') {all:Array Oper} (hall:all.toList.all (okO n)=true) {c:Nat→Option (Rule Γ)} {cs qs:List Nat} (hr:RgC Inv P n all c cs qs) {p:Pl} {t:TX} (hok:okCutX all cs p t=true) (hqs:qsTX cs qs t=true)
    {K:S→Γ→Prop} {Q:Exit→Act→World→Prop} (hQ:∀ c a w,¬ Q (.panic c) a w) {W:World}
    (hK:∀ s g a w M,K s g→St n M w s a→Inv g M w→Q .normal a w) {u:S} {g:Γ} {a:Act} {w:World} {M:Mem} (h:St n M W u a) (hi:Inv g M W) (hw:Cls W w) (hp:cutX E c all p t u g K) :
    wpAny P .any all Q all.size (Array.replicate all.size false) a w:=by
  obtain ⟨rg,pl,ea,tl,tt⟩:=p
  simp only [okCutX,Bool.and_eq_true,decide_eq_true_eq] at hok
  obtain ⟨⟨⟨⟨⟨⟨⟨hns,hlen⟩,hcov⟩,hpre⟩,hrg⟩,hla⟩,hcut⟩,hsim⟩:=hok
  simp only [List.length_map] at hlen
  simp only [List.all_eq_true,List.mem_range,Bool.or_eq_true,List.contains_iff_mem] at hcov
  simp only [List.all_eq_true,Bool.not_eq_true',← Bool.not_eq_true,List.contains_iff_mem] at hpre hrg
  have hc:TwoCut all (pl.map (·.1)) tl:=by
    cases tl with
    | nil=>intro _ _ j hj;cases hj
    | cons t0 tl =>
      simp only [Bool.or_eq_true,Bool.and_eq_true,List.isEmpty_iff] at hcut
      rcases hcut with hcut | hcut
      · rw [hcut]
        intro _ _ _ _ _ _ hp
        cases hp
      · exact two_ok hcut.1 hcut.2
  cases h1:okRig all (Array.replicate all.size false) rg with
  | none=>rw [h1] at hsim;cases hsim
  | some l1 =>
    rw [h1] at hsim
    dsimp only at hsim
    cases h2:okPre all l1 pl with
    | none=>rw [h2] at hsim;cases hsim
    | some l2 =>
      rw [h2] at hsim
      dsimp only at hsim
      obtain ⟨a1,-,a3⟩:=okRig_spec h1 (closed_new all)
      refine anyK_any (C:=Cls W) (pre:=pl.map (·.1) ++ ea) _ _ _ _ ?_
      refine rig_run (M:=M) (m:=pl.length + t.depth) env hall hns hQ hw (fun k u a hk hs hp=>?_) rg _ _ u a (by omega) (fun i hi=>hrg i hi) h1 h hp
      refine pre_runX (M0:=M) (W0:=W) (dep:=t.depth) (KK:=fun u=>treeX E c all t u g K) env hall hns hQ hc (fun i hi=>List.mem_append_left _ hi) (fun k u a w M' h3 h4 h5 h6 h7=>?_) pl l1 k u a w M hk (fun y hy=>List.mem_map_of_mem hy) a1 (fun j hj hjp hjt=>?_) h2 hs (Evo.refl _ _) hw hp
      · exact tree_runX env hI hall hr hK t true l2 k u g a w M' h3 hsim hqs (fun _=>h4) h5 (hI _ _ _ _ _ hi h6) h7
      · rcases hcov j hj with (h3 | h3) | h3
        · exact a3 j h3
        · exact absurd h3 hjp
        · exact absurd h3 hjt
def RgOK (Inv:Γ→Mem→World→Prop) (P:Program) (n:Nat) (id:Nat) (ops:Array Oper) (dr:Bool) (r:Rule Γ):Prop :=
  ∀ s g a W M (K:S→Γ→Prop) (Q:Exit→Act→World→Prop),(∀ s' g' a' W' M',K s' g'→St n M' W' s' a'→Inv g' M' W'→Q .normal a' W')→St n M W s a→Inv g M W→r s g K→(Code.region id ops dr).wp P Q a W
theorem cutX_ok (env:EnvOK P E) (hI:∀ g M W M' W',Inv g M W→Evo M W M' W'→Inv g M' W') {id:Nat} {all:Array Oper} (hall:all.toList.all (okO n)=true) {c:Nat→Option (Rule Γ)} {cs qs:List Nat} (hr:RgC Inv P n all c cs qs) {p:Pl} {t:TX} (hok:okCutX all cs p t=true) (hqs:qsTX cs qs t=true) :
    RgOK Inv P n id all true (cutX E c all p t):=by
  intro s g a W M K Q hK h hi hw
  have hd:Cls W { heap:=W.heap,tape:=W.tape,drawn:=W.drawn + 1,os:=W.os,output:=W.output }:=⟨rfl,rfl,rfl,Nat.le_refl _,fun _ _=>rfl⟩
  have key:(Code.region id all true).wp P (fun e a' w'=>e=.normal∧Q .normal a' w') a W:=by
    refine wp_region_any env.mixed ?_
    exact cutX_run env hI hall hr hok hqs (fun c a' w' hc=>by cases hc.1) (fun s' g' a' w' M' h1 h2 h3=>⟨rfl,hK s' g' a' w' M' h1 h2 h3⟩) h hi hd hw
  refine Code.wp_mono (fun e a' w' hq=>?_) key
  obtain ⟨rfl,hq⟩:=hq
  exact hq
theorem opsX_ok (env:EnvOK P E) (hI:∀ g M W M' W',Inv g M W→Evo M W M' W'→Inv g M' W') {id:Nat} {all:Array Oper} (hall:all.toList.all (okO n)=true) {c:Nat→Option (Rule Γ)} (hc:∀ i o r,all[i]?=some o→c i=some r→o.guard=none∧RuleOK Inv P n o r) :
    RgOK Inv P n id all false (fun s g K=>opsX E c all 0 all.toList s g K):=by
  intro s g a W M K Q hK h hi hw
  refine wp_region ?_
  have:=opsX_sound (Q:=Q) env hI hall hc (fun s' g' a' W' M' h1 h2 h3=>hK s' g' a' W' M' h1 h2 h3) all.toList 0 s g a W M (by simp) h hi hw
  rwa [List.range_eq_range',← Array.length_toList]
end
end Go.TM
end
section
namespace Go.TM
open Go
section
variable {Γ:Type} (E:Env) (C:Nat→Option (Array Oper→Rule Γ))
def codeX:Code→S→Γ→(X→S→Γ→Prop)→Prop
  | .skip,s,g,K=>K .normal s g
  | .region id ops dr,s,g,K=>match C id with
    | some r=>r ops s g (K .normal)
    | none=>codeW E (.region id ops dr) s fun x s'=>K x s' g
  | .seq a b,s,g,K=>codeX a s g fun x s' g'=>match x with
    | .normal=>codeX b s' g' K
    | x=>K x s' g'
  | .cond c a b,s,g,K=>match opnd s c with
    | .bool v=>needs true s [c]∧(if v=true then codeX a s g K else codeX b s g K)
    | .anyB=>needs true s [c]∧codeX a s g K∧codeX b s g K
    | _=>False
  | .block id c,s,g,K=>codeX c s g fun x s' g'=>match x with
    | .exit id'=>if id'=id then K .normal s' g' else K (.exit id') s' g'
    | x=>K x s' g'
  | .loop c,s,g,K=>∀ I:S→Γ→Prop,(∀ s' g',codeX c s' g' (fun x s'' g''=>match x with | .normal=>I s'' g'' | x=>K x s'' g'')→I s' g')→I s g
  | .exit id,s,g,K=>K (.exit id) s g
  | .ret,s,g,K=>K .ret s g
  | _,_,_,_=>False
end
section
variable {Γ:Type} {P:Program} {E:Env} {C:Nat→Option (Array Oper→Rule Γ)} {n:Nat} (Inv:Γ→Mem→World→Prop)
def okCX (P:Program) (n:Nat) (C:Nat→Option (Array Oper→Rule Γ)):Code→Prop
  | .region id ops dr=>∀ r,C id=some r→RgOK Inv P n id ops dr (r ops)
  | .seq a b=>okCX P n C a∧okCX P n C b
  | .cond _ a b=>okCX P n C a∧okCX P n C b
  | .block _ c=>okCX P n C c
  | .loop c=>okCX P n C c
  | _=>True
variable {Inv}
theorem codeX_sound (env:EnvOK P E) (hI:∀ g M W M' W',Inv g M W→Evo M W M' W'→Inv g M' W'):∀ (c:Code) (K:X→S→Γ→Prop) (Q:Exit→Act→World→Prop) (s:S) (g:Γ) (a:Act) (W:World) (M:Mem),
    okC E n c=true→okCX Inv P n C c→(∀ x s' g' a' W' M',K x s' g'→St n M' W' s' a'→Inv g' M' W'→Q (toExit x) a' W')→St n M W s a→Inv g M W→codeX E C c s g K→c.wp P Q a W:=by
  intro c
  induction c with
  | skip=>intro K Q s g a W M hok hx hK h hi hw;exact wp_skip (hK .normal s g a W M hw h hi)
  | region id ops dr =>
    intro K Q s g a W M hok hx hK h hi hw
    simp only [codeX] at hw
    split at hw
    · rename_i r hr
      exact hx r hr s g a W M _ Q (fun s' g' a' W' M' h1 h2 h3=>hK .normal s' g' a' W' M' h1 h2 h3) h hi hw
    · exact code_sound env (M0:=M) (W0:=W) _ _ Q s a W M hok (fun x s' a' W' M' h1 h2 h3=>hK x s' g a' W' M' h1 h2 (hI _ _ _ _ _ hi h3)) h (Evo.refl _ _) hw
  | seq x y ihx ihy =>
    intro K Q s g a W M hok hx hK h hi hw
    simp only [okC,Bool.and_eq_true] at hok
    refine wp_seq (ihx _ _ s g a W M hok.1 hx.1 (fun e s' g' a' W' M' h1 h2 h3=>?_) h hi hw)
    cases e with
    | normal=>exact ihy K Q s' g' a' W' M' hok.2 hx.2 hK h2 h3 h1
    | exit id=>exact hK (.exit id) s' g' a' W' M' h1 h2 h3
    | ret=>exact hK .ret s' g' a' W' M' h1 h2 h3
  | cond c x y ihx ihy =>
    intro K Q s g a W M hok hx hK h hi hw
    simp only [okC,Bool.and_eq_true] at hok
    simp only [codeX] at hw
    split at hw
    · rename_i v hv
      have hc:a.eval c=.bool v:=by
        have:=opnd_sound h hok.1.1 hw.1
        rw [hv] at this
        exact this
      refine wp_cond hc ?_
      cases v with
      | true=>exact ihx K Q s g a W M hok.1.2 hx.1 hK h hi (by simpa using hw.2)
      | false=>exact ihy K Q s g a W M hok.2 hx.2 hK h hi (by simpa using hw.2)
    · rename_i hv
      have hc:∃ b,a.eval c=.bool b:=by
        have:=opnd_sound h hok.1.1 hw.1
        rw [hv] at this
        exact this
      obtain ⟨b,hc⟩:=hc
      refine wp_cond hc ?_
      cases b with
      | true=>exact ihx K Q s g a W M hok.1.2 hx.1 hK h hi hw.2.1
      | false=>exact ihy K Q s g a W M hok.2 hx.2 hK h hi hw.2.2
    · exact hw.elim
  | block id x ih =>
    intro K Q s g a W M hok hx hK h hi hw
    refine wp_block (ih _ _ s g a W M hok hx (fun e s' g' a' W' M' h1 h2 h3=>?_) h hi hw)
    cases e with
    | normal=>exact hK .normal s' g' a' W' M' h1 h2 h3
    | exit id' =>
      simp only [toExit,Exit.inBlock]
      by_cases e:id'=id
      · subst e
        simp only [if_true] at h1 ⊢
        exact hK .normal s' g' a' W' M' h1 h2 h3
      · simp only [e,if_false] at h1 ⊢
        exact hK (.exit id') s' g' a' W' M' h1 h2 h3
    | ret=>exact hK .ret s' g' a' W' M' h1 h2 h3
  | loop x ih =>
    intro K Q s g a W M hok hx hK h hi hw
    refine wp_loop_go ?_
    refine hw (fun s g=>∀ a W M,St n M W s a→Inv g M W→LoopGo P x Q a W) (fun s' g' hs' a W M h hi=>?_) a W M h hi
    refine loopGo_step (ih _ _ s' g' a W M hok hx (fun e s'' g'' a' W' M' h1 h2 h3=>?_) h hi hs')
    cases e with
    | normal=>exact h1 a' W' M' h2 h3
    | exit id=>exact hK (.exit id) s'' g'' a' W' M' h1 h2 h3
    | ret=>exact hK .ret s'' g'' a' W' M' h1 h2 h3
  | exit id=>intro K Q s g a W M hok hx hK h hi hw;exact wp_exit (hK (.exit id) s g a W M hw h hi)
  | ret=>intro K Q s g a W M hok hx hK h hi hw;exact wp_ret (hK .ret s g a W M hw h hi)
  | _=>intro K Q s g a W M hok hx hK h hi hw;exact hw.elim
end
end Go.TM
end
section
namespace Go.TM
open Go
def entsOf (L:List (Int × Nat)):List (Value × Value):=L.map fun y=>(.int .i64 y.1,.int .i64 (y.2:Nat))
theorem findNow_ents (n:Int):∀ (es:List MapEntry) (L:List (Int × Nat)) (i:Nat),es.map (fun e=>(e.key,e.val))=entsOf L →
    ∃ j:Nat,Instr.findNow (.int .i64) (.int .i64 n) es i=some ((L.find? fun y=>y.1 == n).map fun y=>(j,Value.int .i64 (y.2:Nat)))
  | [],[],i,_=>⟨0,rfl⟩
  | [],y :: L,i,h=>by simp [entsOf] at h
  | e :: es,[],i,h=>by simp [entsOf] at h
  | e :: es,y :: L,i,h=>by
    simp only [entsOf,List.map_cons,List.cons.injEq,Prod.mk.injEq] at h
    obtain ⟨⟨h1,h2⟩,h3⟩:=h
    by_cases hn:n=y.1
    · refine ⟨i,?_⟩
      simp [Instr.findNow,Instr.sameNow,h1,h2,hn]
    · obtain ⟨j,hj⟩:=findNow_ents n es L (i + 1) h3
      refine ⟨j,?_⟩
      have e1:(n == y.1)=false:=by simpa using hn
      have e2:(y.1 == n)=false:=by simpa using fun e=>hn e.symm
      simp only [Instr.findNow,Instr.sameNow,h1,if_true,e1,List.find?_cons,e2]
      exact hj
theorem find_zip (n:Int):∀ (l:List Int) (k:Nat),(l.zipIdx k).find? (fun y=>y.1 == n)=if n ∈ l then some (n,k + l.idxOf n) else none
  | [],k=>rfl
  | x :: l,k=>by
    rw [List.zipIdx_cons,List.find?_cons]
    by_cases h:x=n
    · subst h
      simp
    · have e:(x == n)=false:=by simpa using h
      simp only [e,find_zip n l (k + 1),List.mem_cons,List.idxOf_cons]
      have e2:¬ n=x:=fun e=>h e.symm
      simp only [e2,false_or,cond_false]
      split <;> simp;omega
structure GT where
  mb:Nat
  ord:List Int
  hd:List (Nat × Hdr)
structure EvoX (m:Nat) (M:Mem) (W:World) (M':Mem) (W':World):Prop where
  os:W'.os=W.os
  tape:W'.tape=W.tape
  output:W'.output=W.output
  size:W.heap.size≤W'.heap.size
  old:∀ b,b < W.heap.size→M.ω b=none→b ≠ m→W'.heap[b]?=W.heap[b]?
  lab:∀ b l,M'.ω b=some l→M.ω b ≠ none ∨ W.heap.size≤b
  frz:∀ b,M'.F b→M.F b ∨ M.ω b ≠ none ∨ W.heap.size≤b
  frz0:∀ b,M.F b→M'.F b
  nt:M.nt≤M'.nt
  nb:M.nb≤M'.nb
  ρ:∀ t,t < M.nt→M'.ρ t=M.ρ t
  β:∀ b,b < M.nb→M'.β b=M.β b
theorem Evo.x {M M':Mem} {W W':World} (h:Evo M W M' W') (m:Nat):EvoX m M W M' W' :=
  ⟨h.os,h.tape,h.output,h.size,fun b h1 h2 _=>h.old b h1 h2,h.lab,h.frz,h.frz0,h.nt,h.nb,h.ρ,h.β⟩
theorem EvoX.trans {m:Nat} {M M' M'':Mem} {W W' W'':World} (h:EvoX m M W M' W') (k:EvoX m M' W' M'' W''):EvoX m M W M'' W'' where
  os:=k.os.trans h.os
  tape:=k.tape.trans h.tape
  output:=k.output.trans h.output
  size:=Nat.le_trans h.size k.size
  old b hb hω hm:=by
    have:M'.ω b=none:=by
      cases e:M'.ω b with
      | none=>rfl
      | some l =>
        rcases h.lab b l e with h1 | h1
        · exact absurd hω h1
        · omega
    exact (k.old b (Nat.lt_of_lt_of_le hb h.size) this hm).trans (h.old b hb hω hm)
  lab b l hl:=by
    rcases k.lab b l hl with h1 | h1
    · cases e:M'.ω b with
      | none=>exact absurd e h1
      | some l'=>exact h.lab b l' e
    · exact .inr (Nat.le_trans h.size h1)
  frz b hb:=by
    rcases k.frz b hb with h1 | h1 | h1
    · exact h.frz b h1
    · cases e:M'.ω b with
      | none=>exact absurd e h1
      | some l'=>exact .inr (h.lab b l' e)
    · exact .inr (.inr (Nat.le_trans h.size h1))
  frz0 b hb:=k.frz0 b (h.frz0 b hb)
  nt:=Nat.le_trans h.nt k.nt
  nb:=Nat.le_trans h.nb k.nb
  ρ t ht:=(k.ρ t (Nat.lt_of_lt_of_le ht h.nt)).trans (h.ρ t ht)
  β t ht:=(k.β t (Nat.lt_of_lt_of_le ht h.nb)).trans (h.β t ht)
structure MapAt (g:GT) (M:Mem) (W:World):Prop where
  es:∃ es clock,W.heap[g.mb]?=some (.map es clock)∧es.toList.map (fun e=>(e.key,e.val))=entsOf g.ord.zipIdx
  om:M.ω g.mb=none
  fz:¬ M.F g.mb
  hd:∀ h ∈ g.hd,h.1 < M.nt∧M.ρ h.1=h.2.val
theorem MapAt.lt {g:GT} {M:Mem} {W:World} (h:MapAt g M W):g.mb < W.heap.size:=by
  obtain ⟨es,clock,hb,-⟩:=h.es
  exact (Array.getElem?_eq_some_iff.1 hb).1
theorem MapAt.evo {g:GT} {M M':Mem} {W W':World} (h:MapAt g M W) (he:Evo M W M' W'):MapAt g M' W' where
  es:=by
    obtain ⟨es,clock,hb,h2⟩:=h.es
    exact ⟨es,clock,(he.old _ h.lt h.om).trans hb,h2⟩
  om:=by
    cases e:M'.ω g.mb with
    | none=>rfl
    | some l =>
      rcases he.lab _ l e with h1 | h1
      · exact absurd h.om h1
      · have:=h.lt
        omega
  fz hf:=by
    rcases he.frz _ hf with h1 | h1 | h1
    · exact h.fz h1
    · exact h1 h.om
    · have:=h.lt
      omega
  hd x hx:=⟨Nat.lt_of_lt_of_le (h.hd x hx).1 he.nt,(he.ρ _ (h.hd x hx).1).trans (h.hd x hx).2⟩
def InvT (M0:Mem) (W0:World) (g:GT) (M:Mem) (W:World):Prop:=MapAt g M W∧EvoX g.mb M0 W0 M W
theorem InvT.evo {M0:Mem} {W0:World} (g:GT) (M:Mem) (W:World) (M':Mem) (W':World) (h:InvT M0 W0 g M W) (he:Evo M W M' W'):InvT M0 W0 g M' W':=⟨h.1.evo he,h.2.trans (he.x _)⟩
structure InvK (Inv:GT→Mem→World→Prop):Prop where
  map:∀ g M W,Inv g M W→MapAt g M W
  step:∀ g M W g' M' W',Inv g M W→MapAt g' M' W'→EvoX g.mb M W M' W'→g'.mb=g.mb→Inv g' M' W'
theorem InvT.k (M0:Mem) (W0:World):InvK (InvT M0 W0) where
  map _ _ _ h:=h.1
  step g M W g' M' W' h h1 h2 h3:=⟨h1,by rw [h3];exact h.2.trans h2⟩
def InvF (M0:Mem) (W0:World) (g:GT) (M:Mem) (W:World):Prop:=MapAt g M W∧W0.heap.size≤g.mb∧Evo M0 W0 M W
theorem EvoX.evo {m:Nat} {M0 M M':Mem} {W0 W W':World} (h:Evo M0 W0 M W) (k:EvoX m M W M' W') (hm:W0.heap.size≤m):Evo M0 W0 M' W':=by
  have h1:=(h.x m).trans k
  exact ⟨h1.os,h1.tape,h1.output,h1.size,fun b hb hω=>h1.old b hb hω (by omega),h1.lab,h1.frz,h1.frz0,h1.nt,h1.nb,h1.ρ,h1.β⟩
theorem InvF.k (M0:Mem) (W0:World):InvK (InvF M0 W0) where
  map _ _ _ h:=h.1
  step g M W g' M' W' h h1 h2 h3:=⟨h1,by rw [h3];exact h.2.1,EvoX.evo h.2.2 h2 h.2.1⟩
theorem InvF.evo {M0:Mem} {W0:World} (g:GT) (M:Mem) (W:World) (M':Mem) (W':World) (h:InvF M0 W0 g M W) (he:Evo M W M' W'):InvF M0 W0 g M' W':=⟨h.1.evo he,h.2.1,h.2.2.trans he⟩
theorem keep_aside {M:Mem} {W W':World} {s:S} (h:MemOK M W s) (hb:∀ b,M.F b ∨ M.ω b ≠ none→W'.heap[b]?=W.heap[b]?):Keep M W M W' :=
  ⟨fun _ h=>h,fun b hf=>hb b (.inl hf),fun _ _=>rfl,fun _ _ _ _=>rfl,fun _ _=>rfl,Nat.le_refl _,Nat.le_refl _⟩
theorem MemOK.aside {M:Mem} {W W':World} {s:S} (h:MemOK M W s) (hs:W.heap.size≤W'.heap.size) (hb:∀ b,M.F b ∨ M.ω b ≠ none→W'.heap[b]?=W.heap[b]?):MemOK M W' s where
  nt:=h.nt
  nb:=h.nb
  box b c hc:=by
    obtain ⟨h1,cs,ty,h2,h3,h4⟩:=h.box b c hc
    exact ⟨h1,cs,ty,(hb _ (.inr (by rw [h3];simp))).trans h2,h3,(keep_aside h hb).leaves h4⟩
  row t r hr:=by
    obtain ⟨h1,h2⟩:=h.row t r hr
    exact ⟨h1,(keep_aside h hb).row h1 (fun _ b hl=>⟨hl,hb b (.inr (by rw [hl];simp))⟩) h2⟩
  frz b hf:=⟨(h.frz b hf).1,Nat.lt_of_lt_of_le (h.frz b hf).2 hs⟩
  lt b l hl:=Nat.lt_of_lt_of_le (h.lt b l hl) hs
  tok:=h.tok
  bx:=h.bx
section
variable {P:Program} {n:Nat}
def rLook (x ix:Operand) (d:Option Tmp):Rule GT:=fun s g K =>
  opnd s x=.raw (.mp (some g.mb))∧needs true s [x,ix]∧∃ m,opnd s ix=.int .i64 m ∧
    K (s.put d (if m ∈ g.ord then .tup [.int .i64 (g.ord.idxOf m:Nat),.bool true] else .tup [.int .i64 0,.bool false])) g
theorem rLook_ok {Inv:GT→Mem→World→Prop} (hk0:InvK Inv) {o:Oper} {mt kt et:TypeId} {x ix:Operand} (ho:o.op=.lookup mt x ix true) (hok:okO n o=true)
    (hm:P.underlying mt=some (.map kt et)) (hk:P.underlying kt=some (.int .i64)) (hz:∀ w,(zeroValue et).run P w=.ok (.int .i64 0) w):RuleOK Inv P n o (rLook x ix o.dst):=by
  intro s g a W M K Q h hi ⟨h1,h2,m,h3,hK⟩
  simp only [okO,Bool.and_eq_true] at hok
  have hg:=hk0.map g M W hi
  obtain ⟨es,clock,hb,he⟩:=hg.es
  have hall:∀ u ∈ [x,ix],okOp n u=true:=fun u hu=>List.all_eq_true.1 hok.1 u (by rw [ho];simpa [Op.operands] using hu)
  have ex:a.eval x=.map (some g.mb):=by
    have:=opnd_sound h (hall x (by simp)) (needs_mem h2 (by simp))
    rw [h1] at this
    exact this
  have ek:a.eval ix=.int .i64 m:=by
    have:=opnd_sound h (hall ix (by simp)) (needs_mem h2 (by simp))
    rw [h3] at this
    exact this
  obtain ⟨j,hj⟩:=findNow_ents m es.toList g.ord.zipIdx 0 he
  rw [find_zip] at hj
  have hc:∀ e,(Instr.checkKey e 10000 kt (.int .i64 m)).run P W=.ok () W:=fun e=>MapKept.run_checkKey hk (by simp [MapKept.IsKey]) e 9999
  have hf:=MapKept.run_findKey (P:=P) (w:=W) hk hj
  have hrun:(execOp a.eval o).run P W=.ok (.value (if m ∈ g.ord then .tuple #[.int .i64 (g.ord.idxOf m:Nat),.bool true] else .tuple #[.int .i64 0,.bool false])) W:=by
    simp only [execOp,ho,ex,ek]
    by_cases hmem:m ∈ g.ord
    · simp only [hmem,if_true,Option.map_some,Nat.zero_add] at hf ⊢
      simp [Instr.lookup,run_underlying hm,MapKept.run_getObj_map hb,hc,hf,Result.andThen]
    · simp only [hmem,if_false,Option.map_none] at hf ⊢
      simp [Instr.lookup,run_underlying hm,MapKept.run_getObj_map hb,hc,hf,hz,Result.andThen]
  unfold Oper.wp
  rw [hrun]
  refine ⟨M,_,g,h.putO hok.2 (x:=if m ∈ g.ord then .tup [.int .i64 (g.ord.idxOf m:Nat),.bool true] else .tup [.int .i64 0,.bool false]) ?_,hi,hK⟩
  by_cases hmem:m ∈ g.ord
  · simp only [hmem,if_true]
    exact ⟨[_,_],rfl,rfl,rfl,trivial⟩
  · simp only [hmem,if_false]
    exact ⟨[_,_],rfl,rfl,rfl,trivial⟩
def rUpd (x ix y:Operand) (d:Option Tmp):Rule GT:=fun s g K =>
  opnd s x=.raw (.mp (some g.mb))∧needs true s [x,ix,y]∧∃ m,opnd s ix=.int .i64 m∧m ∉ g.ord∧opnd s y=.int .i64 (g.ord.length:Nat) ∧
    K (s.put d (.tup [])) { g with ord:=g.ord ++ [m] }
theorem rUpd_ok {Inv:GT→Mem→World→Prop} (hk0:InvK Inv) {o:Oper} {mt kt et:TypeId} {x ix y:Operand} (ho:o.op=.mapUpdate mt x ix y ∨ o.op=.insert mt x ix y) (hok:okO n o=true)
    (hm:P.underlying mt=some (.map kt et)) (hk:P.underlying kt=some (.int .i64)):RuleOK Inv P n o (rUpd x ix y o.dst):=by
  intro s g a W M K Q h hi ⟨h1,h2,m,h3,hmem,h4,hK⟩
  simp only [okO,Bool.and_eq_true] at hok
  have hg:=hk0.map g M W hi
  obtain ⟨es,clock,hb,he⟩:=hg.es
  have hall:∀ u ∈ [x,ix,y],okOp n u=true:=fun u hu=>List.all_eq_true.1 hok.1 u (by rcases ho with ho | ho <;> (rw [ho];simpa [Op.operands] using hu))
  have ex:a.eval x=.map (some g.mb):=by
    have:=opnd_sound h (hall x (by simp)) (needs_mem h2 (by simp))
    rw [h1] at this
    exact this
  have ek:a.eval ix=.int .i64 m:=by
    have:=opnd_sound h (hall ix (by simp)) (needs_mem h2 (by simp))
    rw [h3] at this
    exact this
  have ey:a.eval y=.int .i64 (g.ord.length:Nat):=by
    have:=opnd_sound h (hall y (by simp)) (needs_mem h2 (by simp))
    rw [h4] at this
    exact this
  obtain ⟨j,hj⟩:=findNow_ents m es.toList g.ord.zipIdx 0 he
  rw [find_zip,if_neg hmem] at hj
  have hc:∀ e,(Instr.checkKey e 10000 kt (.int .i64 m)).run P W=.ok () W:=fun e=>MapKept.run_checkKey hk (by simp [MapKept.IsKey]) e 9999
  have hf:=MapKept.run_findKey (P:=P) (w:=W) hk hj
  let W':World:={ W with heap:=W.heap.setIfInBounds g.mb (.map (es.push { key:=.int .i64 m,val:=.int .i64 (g.ord.length:Nat),born:=clock }) (clock + 1)) }
  have hrun:(execOp a.eval o).run P W=.ok .skip W':=by
    rcases ho with ho | ho
    all_goals
      simp only [execOp,ho,ex,ek,ey]
      simp [Instr.mapUpdate,run_underlying hm,MapKept.run_getObj_map hb,hc,hf,MapKept.run_setObj_map _ hb,Result.andThen,W']
  have hset:=MapKept.heap_set (o':=.map (es.push { key:=.int .i64 m,val:=.int .i64 (g.ord.length:Nat),born:=clock }) (clock + 1)) hb
  have hoth:∀ b,M.F b ∨ M.ω b ≠ none→W'.heap[b]?=W.heap[b]?:=fun b hb'=>hset.2 b (fun e=>by
    subst e
    rcases hb' with h5 | h5
    · exact hg.fz h5
    · exact h5 hg.om)
  have hsz:W'.heap.size=W.heap.size:=by simp [W']
  unfold Oper.wp
  rw [hrun]
  refine ⟨M,_,{ g with ord:=g.ord ++ [m] },?_,hk0.step g M W _ M W' hi ⟨⟨_,_,hset.1,?_⟩,hg.om,hg.fz,hg.hd⟩ ?_ rfl,hK⟩
  · have hst:St n M W' s a:=⟨h.size,h.defers,fun z hz=>(keep_aside h.mem hoth).all (h.slot z hz),h.mem.aside (Nat.le_of_eq hsz.symm) hoth⟩
    exact hst.undef' hok.2
  · simp only [Array.toList_push,List.map_append,he,List.zipIdx_append,entsOf]
    simp
  · exact ⟨rfl,rfl,rfl,Nat.le_of_eq hsz.symm,fun b _ _ hne=>hset.2 b hne,fun b l hl=>.inl (by rw [hl];simp),fun b hb=>.inl hb,fun b hb=>hb,Nat.le_refl _,Nat.le_refl _,fun _ _=>rfl,fun _ _=>rfl⟩
end
end Go.TM
end
section
namespace Go.TM
open Go
def deadL:V→V
  | .sub _ _ _=>.bad
  | .sadr _ _ _ _ _ _=>.bad
  | v=>v
theorem EvoX.leafy {m:Nat} {M M':Mem} {W W':World} {s:S} (he:EvoX m M W M' W') (hm:MemOK M W s) (hF:¬ M.F m):Leafy deadL M W M' W':=by
  intro x v h
  have hFW:∀ b,M.F b→W'.heap[b]?=W.heap[b]?:=fun b hb=>he.old b (hm.frz b hb).2 (hm.frz b hb).1 (fun e=>hF (e ▸ hb))
  have hk:Keep M W { M' with σ:=M.σ } W':=⟨he.frz0,hFW,he.ρ,fun _ _ _ _=>rfl,he.β,he.nt,he.nb⟩
  have h':=hk.leaf h
  cases x with
  | sub=>trivial
  | sadr=>trivial
  | _=>exact h'
def startX (s:S) (args:List V):S:={ s with e:=fun x=>args.getD x (.tup []) }
theorem startX_St {M:Mem} {W:World} {s:S} {args:List V} {vs:List Value} (hm:MemOK M W s) (ha:All2 (SR1 M W) args vs) {k:Nat} (hk:vs.length≤k) :
    St k M W (startX s args) { tmps:=vs.toArray ++ Array.replicate (k - vs.toArray.size) Go.undef,defers:=[] } where
  size:=by simp;omega
  defers:=rfl
  slot x hx:=by
    by_cases hlt:x < args.length
    · obtain ⟨v,hv,hr⟩:=ha.get x args[x] (List.getElem?_eq_getElem hlt)
      have hlt':x < vs.length:=by rw [← ha.length];exact hlt
      have e1:args.getD x (.tup [])=args[x]:=by simp [List.getD,List.getElem?_eq_getElem hlt]
      have e2:(vs.toArray ++ Array.replicate (k - vs.toArray.size) Go.undef).getD x Go.undef=v:=by
        rw [List.getElem?_eq_getElem hlt'] at hv
        cases hv
        have hs:x < (vs.toArray ++ Array.replicate (k - vs.toArray.size) Go.undef).size:=by simp;omega
        simp only [Array.getD,dif_pos hs]
        simp [Array.getElem_append,hlt']
      show SR M W (args.getD x (.tup [])) ((vs.toArray ++ Array.replicate (k - vs.toArray.size) Go.undef).getD x Go.undef)
      rw [e1,e2]
      exact SR_of_2 (SR2_of_1' hr)
    · have hge:vs.length≤x:=by rw [← ha.length];omega
      have e1:args.getD x (.tup [])=.tup []:=by simp [List.getD,List.getElem?_eq_none (Nat.le_of_not_lt hlt)]
      have e2:(vs.toArray ++ Array.replicate (k - vs.toArray.size) Go.undef).getD x Go.undef=Go.undef:=by
        have hs:x < (vs.toArray ++ Array.replicate (k - vs.toArray.size) Go.undef).size:=by simp;omega
        simp only [Array.getD,dif_pos hs]
        simp [Array.getElem_append,Nat.not_lt.2 hge]
      show SR M W (args.getD x (.tup [])) ((vs.toArray ++ Array.replicate (k - vs.toArray.size) Go.undef).getD x Go.undef)
      rw [e1,e2]
      exact ⟨[],rfl,trivial⟩
  mem:=hm.slots _
def okEnd:X→Prop
  | .exit _=>False
  | _=>True
theorem open_sound {Γ:Type} {P:Program} {E:Env} {C:Nat→Option (Array Oper→Rule Γ)} {Inv:Γ→Mem→World→Prop} (env:EnvOK P E) (hI:∀ g M W M' W',Inv g M W→Evo M W M' W'→Inv g M' W')
    {f:FuncId} {fn:Func} {c:Code} (hf:P.funcs[f]?=some fn) (hb:fn.body=some c) {args:List V} (hB:funB E fn args.length=true) (hx:okCX Inv P fn.ntmps C c)
    {M:Mem} {W:World} {s:S} {g:Γ} {vs:List Value} (hm:MemOK M W s) (ha:All2 (SR1 M W) args vs) (hi:Inv g M W) {post:S→Γ→V→Prop}
    (h:codeX E C c (startX s args) g fun x s' g'=>okEnd x∧EndsC E fn s'∧post s' g' (resOf E fn s')) :
    Calls P f vs.toArray W fun e W'=>∃ v M' s' g' r,e=.returned v∧MemOK M' W' s'∧Inv g' M' W'∧SR2 M' W' r v∧post s' g' r:=by
  simp only [funB,Bool.and_eq_true,decide_eq_true_eq,Bool.not_eq_true'] at hB
  obtain ⟨⟨⟨h1,h2⟩,h3⟩,h4⟩:=hB
  rw [hb] at h2
  refine calls_of_wp hf hb ?_
  refine codeX_sound env hI c (fun x s' g'=>okEnd x∧EndsC E fn s'∧post s' g' (resOf E fn s')) _ (startX s args) g _ W M h2 hx ?_ (startX_St hm ha (by rw [← ha.length];exact h3)) hi h
  intro x s' g' a' W' M' hx' hst hi'
  have key:(EndsC E fn s'∧post s' g' (resOf E fn s'))→a'.defers=[]∧∃ v,(results fn a'.tmps).run P W'=.ok v W'∧∃ v_1 M'' s'' g'' r,Ending.returned v=.returned v_1∧MemOK M'' W' s''∧Inv g'' M'' W'∧SR2 M'' W' r v_1∧post s'' g'' r:=by
    rintro ⟨hc,hp⟩
    obtain ⟨v,hv1,hv2⟩:=res_sound env.toStaOK hst h4 hc
    exact ⟨hst.defers,v,hv1,v,M',s',g',_,rfl,hst.mem,hi',hv2,hp⟩
  cases x with
  | normal=>exact key hx'.2
  | ret=>exact key hx'.2
  | exit id=>exact hx'.1.elim
def OpenC (P:Program) (f:FuncId) (pre:S→GT→List V→Prop) (post:S→GT→List V→S→GT→V→Prop):Prop :=
  ∀ M W s g args vs,MemOK M W s→MapAt g M W→All2 (SR1 M W) args vs→pre s g args →
    Calls P f vs.toArray W fun e W'=>∃ v M' s' g' r,e=.returned v∧MemOK M' W' s'∧MapAt g' M' W'∧g'.mb=g.mb∧EvoX g.mb M W M' W'∧SR2 M' W' r v∧post s g args s' g' r
def rOpen (pre:S→GT→List V→Prop) (post:S→GT→List V→S→GT→V→Prop) (us:List Operand) (d:Option Tmp):Rule GT:=fun s g K =>
  (needs true s us∧(us.map (opnd s)).all (fun v=>!isTup v)=true∧pre s g (us.map (opnd s))) ∧
    ∀ s' g' r,post s g (us.map (opnd s)) s' g' r→K (({ s' with e:=fun x=>onC deadL (s.e x) }:S).put d r) g'
theorem SR1s_of_2 {M:Mem} {W:World}:∀ {xs:List V} {vs:List Value},xs.all (fun v=>!isTup v)=true→All2 (SR2 M W) xs vs→All2 (SR1 M W) xs vs
  | [],[],_,_=>trivial
  | x :: xs,v :: vs,h,ha=>by
    simp only [List.all_cons,Bool.and_eq_true,Bool.not_eq_true'] at h
    exact ⟨SR1_of_2 ha.1 h.1,SR1s_of_2 (by simpa using h.2) ha.2⟩
theorem rOpen_ok {P:Program} {n:Nat} {Inv:GT→Mem→World→Prop} (hk0:InvK Inv) {o:Oper} {c:Call} {f:FuncId} {pre:S→GT→List V→Prop} {post:S→GT→List V→S→GT→V→Prop} (hC:OpenC P f pre post)
    (has:∃ fn,P.funcs[f]?=some fn∧(fn.name == "runtime.NumGoroutine")=false∧fn.body.isNone=false) (ho:o.op=.call c) (hg:c.callee=.value (.func f)) (hok:okO n o=true) :
    RuleOK Inv P n o (rOpen pre post c.args.toList o.dst):=by
  intro s g a W M K Q h hi ⟨⟨h1,h2,h3⟩,hK⟩
  simp only [okO,Bool.and_eq_true] at hok
  have hall:c.args.toList.all (okOp n)=true:=by
    refine List.all_eq_true.2 fun u hu=>List.all_eq_true.1 hok.1 u ?_
    rw [ho]
    simp only [Op.operands,Call.operands,hg]
    simp
    first | exact .inr (by simpa using hu) | exact (by simpa using hu)
  have ha:=opnds_sound h hall h1
  have he:a.eval (.func f)=.func (.func f) #[] ([]:List Value).toArray:=rfl
  have hrun:=run_callv (P:=P) ho hg he has W
  unfold Oper.wp
  rw [hrun,List.append_nil]
  refine Calls.mono (hC M W s g _ _ h.mem (hk0.map g M W hi) (SR1s_of_2 h2 ha) h3) ?_
  rintro e W' ⟨v,M',s',g',r,rfl,hm,hat,hmb,hev,hr,hp⟩
  have hl:=hev.leafy h.mem (hk0.map g M W hi).fz
  have hst:St n M' W' ({ s' with e:=fun x=>onC deadL (s.e x) }:S) a:=⟨h.size,h.defers,fun x hx=>hl.all (h.slot x hx),hm.slots _⟩
  exact ⟨M',_,g',hst.putO hok.2 (SR_of_2 hr),hk0.step g M W g' M' W' hi hat hev hmb,hK s' g' r hp⟩
end Go.TM
end
section
namespace Go.TM
open Go
@[simp] theorem st_raw (h:Hdr):st (.raw h)=.raw h:=keep rfl
@[simp] theorem leaves_raw (h:Hdr):leaves (.raw h)=[.raw h]:=keep rfl
@[simp] theorem adR_raw (ty:Option Nat) (h:Hdr) (s:S):adR ty (.raw h) s=.ok (.raw h) s:=keep rfl
section
variable {Γ:Type}
def fixG (F:S→Γ→Prop) (g:Γ):X→S→Prop:=fun _ s=>F s g
def fixQ (F:X→S→Γ→Prop) (g:Γ):X→S→Prop:=fun x s=>F x s g
def fixS (F:S→Γ→Prop) (g:Γ):S→Prop:=fun s=>F s g
@[simp] theorem fixG_app (F:S→Γ→Prop) (g:Γ) (x:X) (s:S):fixG F g x s=F s g:=keep rfl
@[simp] theorem fixQ_app (F:X→S→Γ→Prop) (g:Γ) (x:X) (s:S):fixQ F g x s=F x s g:=keep rfl
@[simp] theorem fixS_app (F:S→Γ→Prop) (g:Γ) (s:S):fixS F g s=F s g:=keep rfl
inductive FrX (Γ:Type) where
  | code (c:Code)
  | blk (id:Nat)
  | lp (I:S→Γ→Prop)
variable (E:Env) (C:Nat→Option (Array Oper→Rule Γ))
def kontX:List (FrX Γ)→(X→S→Γ→Prop)→X→S→Γ→Prop
  | [],Q,x,s,g=>Q x s g
  | .code c :: k,Q,.normal,s,g=>codeX E C c s g (kontX k Q)
  | .blk id :: k,Q,.exit id',s,g=>if id'=id then kontX k Q .normal s g else kontX k Q (.exit id') s g
  | .lp I :: k,Q,.normal,s,g=>I s g
  | _ :: k,Q,x,s,g=>kontX k Q x s g
def aftX (v:V) (c:Operand) (a b:Code) (k:List (FrX Γ)) (Q:X→S→Γ→Prop) (s:S) (g:Γ):Prop :=
  match v with
  | .bool v=>needs true s [c]∧(if v=true then kontX E C (.code a :: k) Q .normal s g else kontX E C (.code b :: k) Q .normal s g)
  | .anyB=>needs true s [c]∧kontX E C (.code a :: k) Q .normal s g∧kontX E C (.code b :: k) Q .normal s g
  | _=>False
def regX (r:Option (Array Oper→Rule Γ)) (id:Nat) (ops:Array Oper) (dr:Bool) (k:List (FrX Γ)) (Q:X→S→Γ→Prop) (s:S) (g:Γ):Prop :=
  match r with
  | some r=>r ops s g (kontX E C k Q .normal)
  | none=>kont E [.code (.region id ops dr)] (fixQ (kontX E C k Q) g) .normal s
variable {E C}
@[simp] theorem rX_region (id:Nat) (ops:Array Oper) (dr:Bool) (k:List (FrX Γ)) (Q:X→S→Γ→Prop) (s:S) (g:Γ):kontX E C (.code (.region id ops dr) :: k) Q .normal s g=regX E C (C id) id ops dr k Q s g:=by
  cases h:C id with
  | none=>simp only [kontX,codeX,h,regX,kont];rfl
  | some r=>simp only [kontX,codeX,h,regX]
@[simp] theorem regX_none (id:Nat) (ops:Array Oper) (dr:Bool) (k:List (FrX Γ)) (Q:X→S→Γ→Prop) (s:S) (g:Γ):regX E C none id ops dr k Q s g=kont E [.code (.region id ops dr)] (fixQ (kontX E C k Q) g) .normal s:=keep rfl
@[simp] theorem regX_some (r:Array Oper→Rule Γ) (id:Nat) (ops:Array Oper) (dr:Bool) (k:List (FrX Γ)) (Q:X→S→Γ→Prop) (s:S) (g:Γ):regX E C (some r) id ops dr k Q s g=r ops s g (kontX E C k Q .normal):=keep rfl
@[simp] theorem rX_nil (Q:X→S→Γ→Prop) (x:X) (s:S) (g:Γ):kontX E C [] Q x s g=Q x s g:=keep rfl
@[simp] theorem rX_seq (a b:Code) (k:List (FrX Γ)) (Q:X→S→Γ→Prop) (s:S) (g:Γ):kontX E C (.code (.seq a b) :: k) Q .normal s g=kontX E C (.code a :: .code b :: k) Q .normal s g:=by
  have h:(fun x s' g'=>match x with | .normal=>codeX E C b s' g' (kontX E C k Q) | x=>kontX E C k Q x s' g')=kontX E C (.code b :: k) Q:=by
    funext x s' g';cases x <;> rfl
  simp only [kontX,codeX]
  rw [← h]
  try rfl
@[simp] theorem rX_skip (k:List (FrX Γ)) (Q:X→S→Γ→Prop) (s:S) (g:Γ):kontX E C (.code .skip :: k) Q .normal s g=kontX E C k Q .normal s g:=keep rfl
@[simp] theorem rX_exit (id:Nat) (k:List (FrX Γ)) (Q:X→S→Γ→Prop) (s:S) (g:Γ):kontX E C (.code (.exit id) :: k) Q .normal s g=kontX E C k Q (.exit id) s g:=keep rfl
@[simp] theorem rX_ret (k:List (FrX Γ)) (Q:X→S→Γ→Prop) (s:S) (g:Γ):kontX E C (.code .ret :: k) Q .normal s g=kontX E C k Q .ret s g:=keep rfl
@[simp] theorem rX_block (id:Nat) (c:Code) (k:List (FrX Γ)) (Q:X→S→Γ→Prop) (s:S) (g:Γ):kontX E C (.code (.block id c) :: k) Q .normal s g=kontX E C (.code c :: .blk id :: k) Q .normal s g:=by
  have h:(fun x s' g'=>match x with | .exit id'=>if id'=id then kontX E C k Q .normal s' g' else kontX E C k Q (.exit id') s' g' | x=>kontX E C k Q x s' g')=kontX E C (.blk id :: k) Q:=by
    funext x s' g';cases x <;> rfl
  simp only [kontX,codeX]
  rw [← h]
  try rfl
@[simp] theorem rX_blk (id:Nat) (k:List (FrX Γ)) (Q:X→S→Γ→Prop) (s:S) (g:Γ):kontX E C (.blk id :: k) Q .normal s g=kontX E C k Q .normal s g:=keep rfl
@[simp] theorem rX_blk_ret (id:Nat) (k:List (FrX Γ)) (Q:X→S→Γ→Prop) (s:S) (g:Γ):kontX E C (.blk id :: k) Q .ret s g=kontX E C k Q .ret s g:=keep rfl
@[simp] theorem rX_blk_exit (id id':Nat) (k:List (FrX Γ)) (Q:X→S→Γ→Prop) (s:S) (g:Γ):kontX E C (.blk id :: k) Q (.exit id') s g=if id'=id then kontX E C k Q .normal s g else kontX E C k Q (.exit id') s g:=keep rfl
@[simp] theorem rX_code_ret (c:Code) (k:List (FrX Γ)) (Q:X→S→Γ→Prop) (s:S) (g:Γ):kontX E C (.code c :: k) Q .ret s g=kontX E C k Q .ret s g:=keep rfl
@[simp] theorem rX_code_exit (c:Code) (id:Nat) (k:List (FrX Γ)) (Q:X→S→Γ→Prop) (s:S) (g:Γ):kontX E C (.code c :: k) Q (.exit id) s g=kontX E C k Q (.exit id) s g:=keep rfl
@[simp] theorem rX_lp (I:S→Γ→Prop) (k:List (FrX Γ)) (Q:X→S→Γ→Prop) (s:S) (g:Γ):kontX E C (.lp I :: k) Q .normal s g=I s g:=keep rfl
@[simp] theorem rX_lp_ret (I:S→Γ→Prop) (k:List (FrX Γ)) (Q:X→S→Γ→Prop) (s:S) (g:Γ):kontX E C (.lp I :: k) Q .ret s g=kontX E C k Q .ret s g:=keep rfl
@[simp] theorem rX_lp_exit (I:S→Γ→Prop) (id:Nat) (k:List (FrX Γ)) (Q:X→S→Γ→Prop) (s:S) (g:Γ):kontX E C (.lp I :: k) Q (.exit id) s g=kontX E C k Q (.exit id) s g:=keep rfl
@[simp] theorem rX_cond (c:Operand) (a b:Code) (k:List (FrX Γ)) (Q:X→S→Γ→Prop) (s:S) (g:Γ):kontX E C (.code (.cond c a b) :: k) Q .normal s g=aftX E C (opnd s c) c a b k Q s g:=by
  simp only [kontX,codeX,aftX]
  try rfl
@[simp] theorem aftX_bool (v:Bool) (c:Operand) (a b:Code) (k:List (FrX Γ)) (Q:X→S→Γ→Prop) (s:S) (g:Γ) :
    aftX E C (.bool v) c a b k Q s g=(needs true s [c]∧(if v=true then kontX E C (.code a :: k) Q .normal s g else kontX E C (.code b :: k) Q .normal s g)):=keep rfl
theorem lpX_ind {c:Code} {k:List (FrX Γ)} {Q:X→S→Γ→Prop} {s0:S} {g0:Γ} (J:Nat→S→Γ→Prop) (n:Nat) (h0:J n s0 g0)
    (step:∀ (I:S→Γ→Prop) m s g,(∀ m' s' g',m' < m→J m' s' g'→I s' g')→J m s g→kontX E C (.code c :: .lp I :: k) Q .normal s g):kontX E C (.code (.loop c) :: k) Q .normal s0 g0:=by
  simp only [kontX,codeX]
  intro I hI
  have hf:∀ I:S→Γ→Prop,(fun x s'' g''=>match x with | .normal=>I s'' g'' | x=>kontX E C k Q x s'' g'')=kontX E C (.lp I :: k) Q:=by
    intro I
    funext x s' g';cases x <;> rfl
  have key:∀ m s g,J m s g→I s g:=by
    intro m
    induction m using Nat.strongRecOn with
    | _ m ih =>
      intro s g h
      refine hI s g ?_
      have h1:=step I m s g (fun m' s' g' hm h'=>ih m' hm s' g' h') h
      have h2:codeX E C c s g (kontX E C (.lp I :: k) Q):=h1
      rw [← hf I] at h2
      exact h2
  exact key n s0 g0 h0
theorem lpX_list {α:Type} {c:Code} {k:List (FrX Γ)} {Q:X→S→Γ→Prop} {s0:S} {g0:Γ} (xs:List α) (J:Nat→S→Γ→Prop) (h0:J 0 s0 g0)
    (more:∀ (I:S→Γ→Prop) i s g x,xs[i]?=some x→i < xs.length→(∀ s' g',J (i + 1) s' g'→I s' g')→J i s g→kontX E C (.code c :: .lp I :: k) Q .normal s g)
    (done:∀ (I:S→Γ→Prop) s g,J xs.length s g→kontX E C (.code c :: .lp I :: k) Q .normal s g):kontX E C (.code (.loop c) :: k) Q .normal s0 g0:=by
  refine lpX_ind (fun m s g=>∃ i,m=xs.length - i∧i≤xs.length∧J i s g) xs.length ⟨0,by simp,by simp,h0⟩ ?_
  rintro I m s g ih ⟨i,rfl,hi,h⟩
  by_cases hlt:i < xs.length
  · exact more I i s g _ (List.getElem?_eq_getElem hlt) hlt (fun s' g' h'=>ih (xs.length - (i + 1)) s' g' (by omega) ⟨i + 1,rfl,hlt,h'⟩) h
  · have:i=xs.length:=by omega
    subst this
    exact done I s g h
section
variable (E)
def opsXK (c:Nat→Option (Rule Γ)) (all:Array Oper) (K:S→Γ→Prop) (i:Nat) (os:List Oper) (s:S) (g:Γ):Prop:=opsX E c all i os s g K
def opsXI (r:Option (Rule Γ)) (o:Oper) (c:Nat→Option (Rule Γ)) (all:Array Oper) (K:S→Γ→Prop) (i:Nat) (os:List Oper) (s:S) (g:Γ):Prop :=
  match r with
  | some r=>r s g (opsXK E c all K i os)
  | none=>kont E [.ops false all [o]] (fixG (opsXK E c all K i os) g) .normal s
def memXI (r:Option (Rule Γ)) (all:Array Oper) (q:Bool) (o:Option Oper) (K:S→Γ→Prop) (s:S) (g:Γ):Prop :=
  match r,o with
  | some r,_=>r s g K
  | none,some o=>kont E [.ops q all [o]] (fixG K g) .normal s
  | none,none=>False
def treeXK (c:Nat→Option (Rule Γ)) (all:Array Oper) (K:S→Γ→Prop) (t:TX) (s:S) (g:Γ):Prop:=treeX E c all t s g K
def preXK (all:Array Oper) (KK:S→Prop) (pl:List (Nat × Bool)) (s:S):Prop:=preW E all pl s KK
def preXI (all:Array Oper) (KK:S→Prop) (pl:List (Nat × Bool)) (b:Bool) (o:Option Oper) (s:S):Prop :=
  match o with
  | some o=>(b=false→pureOp E s o)∧kont E [.ops true all [o]] (fun _=>preXK E all KK pl) .normal s
  | none=>False
end
@[simp] theorem opsXK_nil (c:Nat→Option (Rule Γ)) (all:Array Oper) (K:S→Γ→Prop) (i:Nat) (s:S) (g:Γ):opsXK E c all K i [] s g=K s g:=keep rfl
@[simp] theorem opsXK_cons (c:Nat→Option (Rule Γ)) (all:Array Oper) (K:S→Γ→Prop) (i:Nat) (o:Oper) (os:List Oper) (s:S) (g:Γ):opsXK E c all K i (o :: os) s g=opsXI E (c i) o c all K (i + 1) os s g:=by
  unfold opsXK
  cases h:c i <;> simp only [opsX,h,opsXI,kont] <;> rfl
@[simp] theorem opsXI_none (o:Oper) (c:Nat→Option (Rule Γ)) (all:Array Oper) (K:S→Γ→Prop) (i:Nat) (os:List Oper) (s:S) (g:Γ):opsXI E none o c all K i os s g=kont E [.ops false all [o]] (fixG (opsXK E c all K i os) g) .normal s:=keep rfl
@[simp] theorem opsXI_some (r:Rule Γ) (o:Oper) (c:Nat→Option (Rule Γ)) (all:Array Oper) (K:S→Γ→Prop) (i:Nat) (os:List Oper) (s:S) (g:Γ):opsXI E (some r) o c all K i os s g=r s g (opsXK E c all K i os):=keep rfl
@[simp] theorem memXI_some (r:Rule Γ) (all:Array Oper) (q:Bool) (o:Option Oper) (K:S→Γ→Prop) (s:S) (g:Γ):memXI E (some r) all q o K s g=r s g K:=keep rfl
@[simp] theorem memXI_none (all:Array Oper) (q:Bool) (o:Oper) (K:S→Γ→Prop) (s:S) (g:Γ):memXI E none all q (some o) K s g=kont E [.ops q all [o]] (fixG K g) .normal s:=keep rfl
theorem memXI_eq (c:Nat→Option (Rule Γ)) (all:Array Oper) (q:Bool) (i:Nat) (K:S→Γ→Prop) (s:S) (g:Γ):memX E c all q i s g K=memXI E (c i) all q all[i]? K s g:=by
  unfold memX memXI
  cases h:c i with
  | some r=>rfl
  | none =>
    unfold memW
    cases h2:all[i]? with
    | none=>rfl
    | some o=>simp only [kont];rfl
@[simp] theorem treeXK_done (c:Nat→Option (Rule Γ)) (all:Array Oper) (K:S→Γ→Prop) (s:S) (g:Γ):treeXK E c all K .done s g=K s g:=keep rfl
@[simp] theorem treeXK_one (c:Nat→Option (Rule Γ)) (all:Array Oper) (K:S→Γ→Prop) (q:Bool) (i:Nat) (t:TX) (s:S) (g:Γ):treeXK E c all K (.one q i t) s g=memXI E (c i) all q all[i]? (treeXK E c all K t) s g:=memXI_eq c all q i _ s g
@[simp] theorem treeXK_two (c:Nat→Option (Rule Γ)) (all:Array Oper) (K:S→Γ→Prop) (q:Bool) (i:Nat) (t:TX) (q':Bool) (j:Nat) (t':TX) (s:S) (g:Γ):treeXK E c all K (.two q i t q' j t') s g=(memXI E (c i) all q all[i]? (treeXK E c all K t) s g∧memXI E (c j) all q' all[j]? (treeXK E c all K t') s g):=by
  rw [← memXI_eq,← memXI_eq];rfl
@[simp] theorem treeXK_three (c:Nat→Option (Rule Γ)) (all:Array Oper) (K:S→Γ→Prop) (q:Bool) (i:Nat) (t:TX) (q':Bool) (j:Nat) (t':TX) (q'':Bool) (l:Nat) (t'':TX) (s:S) (g:Γ) :
    treeXK E c all K (.three q i t q' j t' q'' l t'') s g=(memXI E (c i) all q all[i]? (treeXK E c all K t) s g∧memXI E (c j) all q' all[j]? (treeXK E c all K t') s g∧memXI E (c l) all q'' all[l]? (treeXK E c all K t'') s g):=by
  rw [← memXI_eq,← memXI_eq,← memXI_eq];rfl
@[simp] theorem preXK_nil (all:Array Oper) (KK:S→Prop) (s:S):preXK E all KK [] s=KK s:=keep rfl
@[simp] theorem preXK_cons (all:Array Oper) (KK:S→Prop) (i:Nat) (b:Bool) (pl:List (Nat × Bool)) (s:S):preXK E all KK ((i,b) :: pl) s=preXI E all KK pl b all[i]? s:=by
  unfold preXK
  cases h:all[i]? with
  | none=>simp only [preW,h,preXI]
  | some o=>simp only [preW,h,preXI,kont];rfl
@[simp] theorem preXI_read (all:Array Oper) (KK:S→Prop) (pl:List (Nat × Bool)) (o:Oper) (s:S):preXI E all KK pl false (some o) s=(pureOp E s o∧kont E [.ops true all [o]] (fun _=>preXK E all KK pl) .normal s):=by
  simp [preXI]
@[simp] theorem preXI_lone (all:Array Oper) (KK:S→Prop) (pl:List (Nat × Bool)) (o:Oper) (s:S):preXI E all KK pl true (some o) s=kont E [.ops true all [o]] (fun _=>preXK E all KK pl) .normal s:=by
  simp [preXI]
def seqR (E:Env) (c:Nat→Option (Rule Γ)) (all:Array Oper):Rule Γ:=fun s g K=>opsXK E c all K 0 all.toList s g
@[simp] theorem seqR_eq (c:Nat→Option (Rule Γ)) (all:Array Oper) (s:S) (g:Γ) (K:S→Γ→Prop):seqR E c all s g K=opsXK E c all K 0 all.toList s g:=keep rfl
def cutR2 (E:Env) (c:Nat→Option (Rule Γ)) (all:Array Oper) (p:Pl) (t:TX):Rule Γ:=fun s g K=>preXK E all (fixS (treeXK E c all K t) g) (cutL p) s
@[simp] theorem cutR2_eq (c:Nat→Option (Rule Γ)) (all:Array Oper) (p:Pl) (t:TX) (s:S) (g:Γ) (K:S→Γ→Prop):cutR2 E c all p t s g K=preXK E all (fixS (treeXK E c all K t) g) (cutL p) s:=keep rfl
@[simp] theorem startX1_0 (s:S) (a:V):(startX s [a]).e 0=a:=keep rfl
@[simp] theorem startX2_0 (s:S) (a b:V):(startX s [a,b]).e 0=a:=keep rfl
@[simp] theorem startX2_1 (s:S) (a b:V):(startX s [a,b]).e 1=b:=keep rfl
@[simp] theorem startX_B (s:S) (args:List V):(startX s args).B=s.B:=keep rfl
@[simp] theorem startX_R (s:S) (args:List V):(startX s args).R=s.R:=keep rfl
@[simp] theorem startX_nt (s:S) (args:List V):(startX s args).nt=s.nt:=keep rfl
@[simp] theorem startX_nb (s:S) (args:List V):(startX s args).nb=s.nb:=keep rfl
@[simp] theorem ex_e (s:S) (f:Nat→V) (x:Nat):({ s with e:=f }:S).e x=f x:=keep rfl
end
end Go.TM
end
section
namespace Go.TM
open Go
def fldsW (g:List Int→Int→Int × List Int × List Ty):List Int→List Fld→List Int × List Fld × List Ty
  | ord,[]=>(ord,[],[])
  | ord,x :: xs =>
    ((fldsW g (g ord x.type).2.1 xs).1,⟨if x.mark=0 then ⟨#[]⟩ else x.name,x.mark,(g ord x.type).1⟩ :: (fldsW g (g ord x.type).2.1 xs).2.1,(g ord x.type).2.2 ++ (fldsW g (g ord x.type).2.1 xs).2.2)
theorem fldsW_snoc (g:List Int→Int→Int × List Int × List Ty) (x:Fld):∀ (xs:List Fld) (ord:List Int),fldsW g ord (xs ++ [x]) =
    ((g (fldsW g ord xs).1 x.type).2.1,(fldsW g ord xs).2.1 ++ [⟨if x.mark=0 then ⟨#[]⟩ else x.name,x.mark,(g (fldsW g ord xs).1 x.type).1⟩],(fldsW g ord xs).2.2 ++ (g (fldsW g ord xs).1 x.type).2.2)
  | [],ord=>by simp [fldsW]
  | y :: xs,ord=>by simp [fldsW,fldsW_snoc g x xs]
@[simp] theorem fldsW_len (g:List Int→Int→Int × List Int × List Ty):∀ (xs:List Fld) (ord:List Int),(fldsW g ord xs).2.1.length=xs.length
  | [],ord=>rfl
  | y :: xs,ord=>by simp [fldsW,fldsW_len g xs]
def tk (l:List Ty):Nat→List Int→Int→Int × List Int × List Ty
  | 0,ord,n=>(n,ord,[])
  | f + 1,ord,n =>
    if n < 0 then (n,ord,[]) else if n ∈ ord then ((ord.idxOf n:Nat),ord,[]) else
    match l[n.toNat]? with
    | none=>(n,ord,[])
    | some ty=>((ord.length:Nat),(fldsW (tk l f) (tk l f (ord ++ [n]) ty.base).2.1 ty.fields).1,
        ⟨ty.kind,ty.long,(tk l f (ord ++ [n]) ty.base).1,(fldsW (tk l f) (tk l f (ord ++ [n]) ty.base).2.1 ty.fields).2.1,ty.owner,ty.name⟩ ::
          ((tk l f (ord ++ [n]) ty.base).2.2 ++ (fldsW (tk l f) (tk l f (ord ++ [n]) ty.base).2.1 ty.fields).2.2))
structure OrdOK (L:Nat) (ord:List Int):Prop where
  nd:ord.Nodup
  in_:∀ x ∈ ord,0≤x∧x < L
theorem OrdOK.len {L:Nat} {ord:List Int} (h:OrdOK L ord):ord.length≤L:=nodup_within h.nd h.in_
theorem OrdOK.add {L:Nat} {ord:List Int} (h:OrdOK L ord) {n:Int} (hn:n ∉ ord) (h0:0≤n) (h1:n < L):OrdOK L (ord ++ [n]) where
  nd:=by
    rw [List.nodup_append]
    refine ⟨h.nd,by simp,fun a ha b hb e=>?_⟩
    simp only [List.mem_singleton] at hb
    subst hb e
    exact hn ha
  in_ x hx:=by
    rcases List.mem_append.1 hx with hx | hx
    · exact h.in_ x hx
    · simp only [List.mem_singleton] at hx
      subst hx
      exact ⟨h0,h1⟩
structure TyRef (l:List Ty):Prop where
  base:∀ t ∈ l,t.base < l.length
  flds:∀ t ∈ l,∀ x ∈ t.fields,0≤x.type∧x.type < l.length
structure TkOK (L:Nat) (ord:List Int) (r:List Int) (ts:List Ty):Prop where
  ok:OrdOK L r
  ext:∃ e,r=ord ++ e∧ts.length=e.length
theorem TkOK.refl {L:Nat} {ord:List Int} (h:OrdOK L ord):TkOK L ord ord []:=⟨h,[],by simp,rfl⟩
theorem TkOK.trans {L:Nat} {o r q:List Int} {ts us:List Ty} (h:TkOK L o r ts) (k:TkOK L r q us):TkOK L o q (ts ++ us):=by
  obtain ⟨h1,e,rfl,h2⟩:=h
  obtain ⟨k1,e',rfl,k2⟩:=k
  exact ⟨k1,e ++ e',by simp,by simp [h2,k2]⟩
theorem TkOK.le {L:Nat} {o r:List Int} {ts:List Ty} (h:TkOK L o r ts):o.length≤r.length:=by
  obtain ⟨h1,e,rfl,h2⟩:=h
  simp
theorem TkOK.len {L:Nat} {o r:List Int} {ts:List Ty} (h:TkOK L o r ts):r.length=o.length + ts.length:=by
  obtain ⟨h1,e,rfl,h2⟩:=h
  simp [h2]
theorem TkOK.sub {L:Nat} {o r:List Int} {ts:List Ty} (h:TkOK L o r ts) {n:Int} (hn:n ∈ o):n ∈ r:=by
  obtain ⟨h1,e,rfl,h2⟩:=h
  simp [hn]
theorem fldsW_ok {L:Nat} {g:List Int→Int→Int × List Int × List Ty} {m:Nat} (hg:∀ ord (n:Int),OrdOK L ord→L - ord.length < m→0≤n→n < L→TkOK L ord (g ord n).2.1 (g ord n).2.2) :
    ∀ (xs:List Fld) (ord:List Int),(∀ x ∈ xs,0≤x.type∧x.type < L)→OrdOK L ord→L - ord.length < m→TkOK L ord (fldsW g ord xs).1 (fldsW g ord xs).2.2
  | [],ord,_,h,_=>.refl h
  | x :: xs,ord,hx,h,hm=>by
    have h1:=hg ord x.type h hm (hx x (by simp)).1 (hx x (by simp)).2
    have h2:=h1.le
    exact h1.trans (fldsW_ok hg xs _ (fun y hy=>hx y (by simp [hy])) h1.ok (by omega))
theorem tk_ok {l:List Ty} (hl:TyRef l):∀ (f:Nat) (ord:List Int) (n:Int),OrdOK l.length ord→l.length - ord.length < f→n < l.length→TkOK l.length ord (tk l f ord n).2.1 (tk l f ord n).2.2
  | 0,ord,n,h,hf,hn=>.refl h
  | f + 1,ord,n,h,hf,hn=>by
    simp only [tk]
    split
    · exact .refl h
    · rename_i h0
      split
      · exact .refl h
      · rename_i hm
        cases hty:l[n.toNat]? with
        | none=>exact .refl h
        | some ty =>
          have hlt:n.toNat < l.length:=by
            rw [List.getElem?_eq_some_iff] at hty
            exact hty.1
          have hmem:ty ∈ l:=List.mem_of_getElem? hty
          have ha:=h.add hm (by omega) hn
          have hal:=ha.len
          rw [List.length_append,List.length_singleton] at hal
          have h1:=tk_ok hl f (ord ++ [n]) ty.base ha (by rw [List.length_append,List.length_singleton];omega) (hl.base ty hmem)
          have h1l:=h1.le
          rw [List.length_append,List.length_singleton] at h1l
          have h2:=fldsW_ok (m:=f) (fun o x ho hx h0 hlt=>tk_ok hl f o x ho hx hlt) ty.fields _ (hl.flds ty hmem) h1.ok (by omega)
          obtain ⟨k1,e,k2,k3⟩:=h1.trans h2
          exact ⟨k1,n :: e,by simp only [];rw [k2];simp,by simp only [List.length_cons,k3]⟩
def numI (ord:List Int) (n:Int):Int:=if n < 0 then n else if n ∈ ord then (ord.idxOf n:Nat) else -1
theorem numI_ext {ord e:List Int} {n:Int} (h:n ∈ ord):numI (ord ++ e) n=numI ord n:=by
  have h2:n ∈ ord ++ e:=by simp [h]
  simp only [numI,h,h2,if_true,List.idxOf_append]
theorem numI_neg {ord e:List Int} {n:Int} (h:n < 0):numI ord n=n:=if_pos h
def renF (ord:List Int) (x:Fld):Fld:=⟨if x.mark=0 then ⟨#[]⟩ else x.name,x.mark,numI ord x.type⟩
def renT (ord:List Int) (t:Ty):Ty:=⟨t.kind,t.long,numI ord t.base,t.fields.map (renF ord),t.owner,t.name⟩
def renTs (l:List Ty) (ord e:List Int):List Ty:=e.filterMap fun n=>(l[n.toNat]?).map (renT ord)
structure TkV (l:List Ty) (ord:List Int) (r:List Int) (ts:List Ty):Prop where
  v:∃ e,r=ord ++ e∧∀ d,OrdOK l.length (r ++ d)→ts=renTs l (r ++ d) e
theorem renL_append (l:List Ty) (ord e d:List Int):renTs l ord (e ++ d)=renTs l ord e ++ renTs l ord d:=List.filterMap_append
theorem TkV.trans {l:List Ty} {o r q:List Int} {ts us:List Ty} (h:TkV l o r ts) (k:TkV l r q us):TkV l o q (ts ++ us):=by
  obtain ⟨e,rfl,h⟩:=h
  obtain ⟨e',rfl,k⟩:=k
  refine ⟨e ++ e',by simp,fun d hd=>?_⟩
  rw [renL_append,k d hd]
  congr 1
  have:=h (e' ++ d) (by simpa using hd)
  simpa using this
theorem fldsW_v {l:List Ty} {g:List Int→Int→Int × List Int × List Ty} {m:Nat} (hok:∀ ord (n:Int),OrdOK l.length ord→l.length - ord.length < m→0≤n→n < l.length→TkOK l.length ord (g ord n).2.1 (g ord n).2.2)
    (hg:∀ ord (n:Int),OrdOK l.length ord→l.length - ord.length < m→0≤n→n < l.length→TkV l ord (g ord n).2.1 (g ord n).2.2∧n ∈ (g ord n).2.1∧(g ord n).1=numI (g ord n).2.1 n) :
    ∀ (xs:List Fld) (ord:List Int),(∀ x ∈ xs,0≤x.type∧x.type < l.length)→OrdOK l.length ord→l.length - ord.length < m →
      TkV l ord (fldsW g ord xs).1 (fldsW g ord xs).2.2∧∀ d,OrdOK l.length ((fldsW g ord xs).1 ++ d)→(fldsW g ord xs).2.1=xs.map (renF ((fldsW g ord xs).1 ++ d))
  | [],ord,_,h,_=>⟨⟨[],by simp [fldsW],fun d _=>rfl⟩,fun d _=>rfl⟩
  | x :: xs,ord,hx,h,hm=>by
    have h1:=hok ord x.type h hm (hx x (by simp)).1 (hx x (by simp)).2
    have h2:=h1.le
    obtain ⟨g1,g2,g3⟩:=hg ord x.type h hm (hx x (by simp)).1 (hx x (by simp)).2
    obtain ⟨i1,i2⟩:=fldsW_v hok hg xs (g ord x.type).2.1 (fun y hy=>hx y (by simp [hy])) h1.ok (by omega)
    have i3:=fldsW_ok hok xs (g ord x.type).2.1 (fun y hy=>hx y (by simp [hy])) h1.ok (by omega)
    refine ⟨g1.trans i1,fun d hd=>?_⟩
    simp only [fldsW,List.map_cons,List.cons.injEq]
    refine ⟨?_,i2 d hd⟩
    obtain ⟨-,e,he,-⟩:=i3
    simp only [renF,Fld.mk.injEq,true_and]
    rw [g3,he,List.append_assoc,numI_ext g2]
theorem tk_v {l:List Ty} (hl:TyRef l):∀ (f:Nat) (ord:List Int) (n:Int),OrdOK l.length ord→l.length - ord.length < f→n < l.length →
    TkV l ord (tk l f ord n).2.1 (tk l f ord n).2.2∧(0≤n→n ∈ (tk l f ord n).2.1)∧(tk l f ord n).1=numI (tk l f ord n).2.1 n
  | 0,ord,n,h,hf,hn=>by omega
  | f + 1,ord,n,h,hf,hn=>by
    have h00:TkV l ord ord []:=⟨[],by simp,fun d _=>rfl⟩
    have hok:=fun o (x:Int) ho hx (h0:0≤x) hlt=>tk_ok hl f o x ho hx hlt
    simp only [tk]
    split
    · rename_i h0
      exact ⟨h00,fun h=>by omega,(numI_neg (ord:=ord) (e:=[]) h0).symm⟩
    · rename_i h0
      split
      · rename_i hm
        exact ⟨h00,fun _=>hm,by simp [numI,h0,hm]⟩
      · rename_i hm
        cases hty:l[n.toNat]? with
        | none =>
          rw [List.getElem?_eq_none_iff] at hty
          omega
        | some ty =>
          have hmem:ty ∈ l:=List.mem_of_getElem? hty
          have ha:=h.add hm (by omega) hn
          have hal:=ha.len
          rw [List.length_append,List.length_singleton] at hal
          have hfa:l.length - (ord ++ [n]).length < f:=by rw [List.length_append,List.length_singleton];omega
          have h1:=tk_ok hl f (ord ++ [n]) ty.base ha hfa (hl.base ty hmem)
          have h1l:=h1.le
          rw [List.length_append,List.length_singleton] at h1l
          obtain ⟨b1,b2,b3⟩:=tk_v hl f (ord ++ [n]) ty.base ha hfa (hl.base ty hmem)
          have hff:l.length - (tk l f (ord ++ [n]) ty.base).2.1.length < f:=by omega
          have h2:=fldsW_ok (m:=f) hok ty.fields _ (hl.flds ty hmem) h1.ok hff
          obtain ⟨f1,f2⟩:=fldsW_v (l:=l) (m:=f) hok (fun o x ho hx h0 hlt=>by
            obtain ⟨t1,t2,t3⟩:=tk_v hl f o x ho hx hlt
            exact ⟨t1,t2 h0,t3⟩) ty.fields (tk l f (ord ++ [n]) ty.base).2.1 (hl.flds ty hmem) h1.ok hff
          have h12:=h1.trans h2
          obtain ⟨k1,e,k2,k3⟩:=h12
          obtain ⟨e',v2,v3⟩:=(b1.trans f1).v
          refine ⟨⟨n :: e',by simp only [];rw [v2];simp,fun d hd=>?_⟩,fun _=>?_,?_⟩
          · simp only [] at hd ⊢
            rw [v3 d hd]
            simp only [renTs,List.filterMap_cons,hty,Option.map_some,List.cons.injEq,and_true,renT,Ty.mk.injEq,true_and]
            obtain ⟨-,e2,q2,-⟩:=h2
            refine ⟨?_,f2 d hd⟩
            rw [b3]
            by_cases hb:ty.base < 0
            · rw [numI_neg (e:=[]) hb,numI_neg (e:=[]) hb]
            · rw [q2,List.append_assoc,numI_ext (b2 (by omega))]
          · simp only []
            rw [v2]
            simp
          · simp only []
            rw [v2,numI,if_neg h0,if_pos (by simp),List.idxOf_append,if_pos (by simp),List.idxOf_append,if_neg hm]
            simp
end Go.TM
end
section
namespace Go.TM
open Go
theorem EvoX.refl (m:Nat) (M:Mem) (W:World):EvoX m M W M W:=(Evo.refl M W).x m
theorem All2.set {α β:Type} {R:α→β→Prop} {a:α}:∀ {zs:List α} {bs:List β} {i:Nat} {x:α},All2 R zs bs→zs[i]?=some x→(∀ b,R x b→R a b)→All2 R (zs.set i a) bs
  | [],[],_,_,_,h,_=>by simp at h
  | y :: zs,b :: bs,0,x,h,hx,hR=>by
    simp at hx
    subst hx
    exact ⟨hR _ h.1,h.2⟩
  | y :: zs,b :: bs,i + 1,x,h,hx,hR=>⟨h.1,All2.set h.2 (by simpa using hx) hR⟩
theorem MemOK.setLeaf {M:Mem} {W:World} {s:S} {b off:Nat} {ls:List V} {l l':V} (h:MemOK M W s) (hB:s.B b=some (.agg ls)) (hl:ls[off]?=some l) (hR:∀ v,SRL M W l v→SRL M W l' v) :
    MemOK M W (s.setB b (some (.agg (ls.set off l')))) where
  nt:=h.nt
  nb:=h.nb
  box c d hc:=by
    simp only [S.setB] at hc
    split at hc
    · rename_i e
      subst e
      cases hc
      obtain ⟨h1,cs,ty,h2,h3,h4⟩:=h.box c _ hB
      exact ⟨h1,cs,ty,h2,h3,All2.set h4 hl hR⟩
    · exact h.box c d hc
  row:=h.row
  frz:=h.frz
  lt:=h.lt
  tok:=h.tok
  bx:=h.bx
theorem St.mem_of {n:Nat} {M:Mem} {W:World} {s s':S} {a:Act} (h:St n M W s a) (he:s'.e=s.e) (hm:MemOK M W s'):St n M W s' a:=⟨h.size,h.defers,fun x hx=>by rw [he];exact h.slot x hx,hm⟩
def rRaw (x off:Nat) (inner:Rule GT):Rule GT:=fun s g K =>
  ∃ b ls u z fs,s.e x=.ptr b 0∧s.B b=some (.agg ls)∧ls[off]?=some (.own u)∧s.R u=some ⟨z,fs,true⟩ ∧
    ∀ h:Hdr,inner (s.setB b (some (.agg (ls.set off (.raw h))))) { g with hd:=(u,h) :: g.hd } fun s' g' =>
      (s'.B b=some (.agg (ls.set off (.raw h)))∧(u,h) ∈ g'.hd)∧K (s'.setB b (some (.agg ls))) g'
theorem rRaw_ok {P:Program} {n:Nat} {Inv:GT→Mem→World→Prop} (hk0:InvK Inv) {id:Nat} {ops:Array Oper} {dr:Bool} {x off:Nat} {inner:Rule GT} (hin:RgOK Inv P n id ops dr inner):RgOK Inv P n id ops dr (rRaw x off inner):=by
  rintro s g a W M K Q hK h hi ⟨b,ls,u,z,fs,he,hB,hl,hR,hc⟩
  have hmap:=hk0.map g M W hi
  obtain ⟨hu,hrow⟩:=h.mem.row u _ hR
  obtain ⟨A,c,hρ⟩:=hrow.len
  have hv:M.ρ u=(Hdr.sl A fs.length c).val:=hρ
  have hm:=h.mem.setLeaf (l':=.raw (.sl A fs.length c)) hB hl (fun v hv'=>by
    obtain ⟨-,rfl⟩:=hv'
    exact hv)
  refine hin _ { g with hd:=(u,.sl A fs.length c) :: g.hd } a W M _ Q (fun s' g' a' W' M' hk hst hi'=>?_) (h.mem_of (s':=s.setB b (some (.agg (ls.set off (.raw (.sl A fs.length c)))))) rfl hm) (hk0.step g M W _ M W hi ⟨hmap.es,hmap.om,hmap.fz,fun y hy=>?_⟩ (EvoX.refl _ _ _) rfl) (hc (.sl A fs.length c))
  · obtain ⟨⟨hB',hm'⟩,hk⟩:=hk
    refine hK _ g' a' W' M' hk ?_ hi'
    have hlt:off < ls.length:=(List.getElem?_eq_some_iff.1 hl).1
    have:=hst.mem.setLeaf (l:=.raw (.sl A fs.length c)) (l':=.own u) (off:=off) hB' (by simp [hlt]) (fun v hv'=>by
      have e:v=(Hdr.sl A fs.length c).val:=hv'
      obtain ⟨h1,h2⟩:=(hk0.map _ _ _ hi').hd _ hm'
      exact ⟨h1,e.trans h2.symm⟩)
    have e2:(ls.set off (.raw (.sl A fs.length c))).set off (.own u)=ls:=by
      rw [List.set_set]
      apply List.ext_getElem?
      intro k
      rw [List.getElem?_set]
      split
      · rename_i e
        subst e
        simp [hlt,← hl]
      · rfl
    rw [e2] at this
    exact hst.mem_of (s':=s'.setB b (some (.agg ls))) rfl this
  · rcases List.mem_cons.1 hy with rfl | hy
    · exact ⟨hu,hv⟩
    · exact hmap.hd y hy
def rPlain (E:Env) (id:Nat) (dr:Bool) {Γ:Type} (ops:Array Oper):Rule Γ:=fun s g K=>kont E [.code (.region id ops dr)] (fixG K g) .normal s
theorem rPlain_ok {Γ:Type} {Inv:Γ→Mem→World→Prop} {P:Program} {E:Env} {n:Nat} (env:EnvOK P E) (hI:∀ g M W M' W',Inv g M W→Evo M W M' W'→Inv g M' W') {id:Nat} {ops:Array Oper} {dr:Bool} (hok:okC E n (.region id ops dr)=true):RgOK Inv P n id ops dr (rPlain E id dr ops):=by
  intro s g a W M K Q hK h hi hw
  refine code_sound env (M0:=M) (W0:=W) (.region id ops dr) (fun x s'=>x=.normal∧K s' g) Q s a W M hok (fun x s' a' W' M' h1 h2 h3=>?_) h (Evo.refl _ _) ?_
  · obtain ⟨rfl,h1⟩:=h1
    exact hK s' g a' W' M' h1 h2 (hI _ _ _ _ _ hi h3)
  · have hw':codeW E (.region id ops dr) s (fun _ s'=>K s' g):=hw
    simp only [codeW] at hw' ⊢
    simpa only [true_and] using hw'
theorem codeX_run {Γ:Type} {E:Env} {C:Nat→Option (Array Oper→Rule Γ)} {c:Code} {Q:X→S→Γ→Prop} {s:S} {g:Γ} (h:kontX E C [.code c] Q .normal s g):codeX E C c s g Q:=by
  have e:kontX E C [] Q=Q:=by
    funext x s g
    cases x <;> rfl
  have h2:codeX E C c s g (kontX E C [] Q):=h
  rwa [e] at h2
@[simp] theorem rPlain_eq {Γ:Type} (E:Env) (id:Nat) (dr:Bool) (ops:Array Oper) (s:S) (g:Γ) (K:S→Γ→Prop):rPlain E id dr ops s g K=kont E [.code (.region id ops dr)] (fixG K g) .normal s:=keep rfl
@[simp] theorem okEnd_ret:okEnd .ret=True:=keep rfl
@[simp] theorem okEnd_normal:okEnd .normal=True:=keep rfl
attribute [simp] deadL
structure Ent where
  ty:Ty
  u:Nat
  h:Hdr
@[simp] def Ent.v (e:Ent):V:=.agg [.int .i64 e.ty.kind,.int .i64 e.ty.long,.int .i64 e.ty.base,.raw e.h,.str e.ty.owner,.str e.ty.name]
structure TkPre (l:List Ty) (f:Nat) (s:S) (g:GT) (b t:Nat) (xs:List V) (n:Int):Prop where
  B:s.B b=some (.agg [.lst (l.map Ty.v),.own t,.raw (.mp (some g.mb))])
  R:s.R t=some ⟨6,xs,true⟩
  len:xs.length=g.ord.length
  ord:OrdOK l.length g.ord
  n:n < l.length
  f:l.length - g.ord.length < f
  b:b < s.nb
  t:t < s.nt
structure TkPost (l:List Ty) (s:S) (g:GT) (b t:Nat) (xs:List V) (ts:List Ty) (s':S) (g':GT) (t':Nat) (es:List Ent):Prop where
  B:s'.B b=some (.agg [.lst (l.map Ty.v),.own t',.raw (.mp (some g.mb))])
  R:s'.R t'=some ⟨6,xs ++ es.map Ent.v,true⟩
  tys:es.map Ent.ty=ts
  mb:g'.mb=g.mb
  hd:∀ x ∈ g.hd,x ∈ g'.hd
  ent:∀ e ∈ es,s'.R e.u=some ⟨3,e.ty.fields.map Fld.v,true⟩∧(e.u,e.h) ∈ g'.hd∧s.nt≤e.u∧e.u < s'.nt∧e.u ≠ t'
  nd:(es.map Ent.u).Nodup
  lt:t' < s'.nt
  t0:t'=t ∨ s.nt≤t'
  oB:∀ x,x ≠ b→x < s.nb→s'.B x=s.B x
  oR:∀ x,x < s.nt→x ≠ t→s'.R x=s.R x
  nt:s.nt≤s'.nt
  nb:s.nb≤s'.nb
theorem rOpen_ok' {P:Program} {n:Nat} {Inv:GT→Mem→World→Prop} (hk0:InvK Inv) {o:Oper} {c:Call} {f:FuncId} {pre:S→GT→List V→Prop} {post:S→GT→List V→S→GT→V→Prop} {us:List Operand} {d:Option Tmp} (hC:OpenC P f pre post)
    (has:∃ fn,P.funcs[f]?=some fn∧(fn.name == "runtime.NumGoroutine")=false∧fn.body.isNone=false) (ho:o.op=.call c) (hg:c.callee=.value (.func f)) (hus:c.args.toList=us) (hd:o.dst=d) (hok:okO n o=true) :
    RuleOK Inv P n o (rOpen pre post us d):=by
  subst hus hd
  exact rOpen_ok hk0 hC has ho hg hok
def preT (l:List Ty) (f:Nat):S→GT→List V→Prop:=fun s g args=>∃ b t xs n,args=[.ptr b 0,.int .i64 n]∧TkPre l f s g b t xs n
def postT (l:List Ty) (f:Nat):S→GT→List V→S→GT→V→Prop:=fun s g args s' g' r=>∀ b t xs n,args=[.ptr b 0,.int .i64 n]→TkPre l f s g b t xs n →
  r=.int .i64 (tk l f g.ord n).1∧g'.ord=(tk l f g.ord n).2.1∧∃ t' es,TkPost l s g b t xs (tk l f g.ord n).2.2 s' g' t' es
structure TkM (l:List Ty) (ty:Ty) (s:S) (g:GT) (b t:Nat) (xs:List V) (B:Nat→Option V) (R:Nat→Option Rw) (nt nb:Nat) (g2:GT) (bo u t2:Nat) (h:Hdr) (bs:Int) (fs:List Fld) (es:List Ent):Prop where
  Bo:B bo=some (.agg [.int .i64 ty.kind,.int .i64 ty.long,.int .i64 ty.base,.own u,.str ty.owner,.str ty.name])
  fB:B b=some (.agg [.lst (l.map Ty.v),.own t2,.raw (.mp (some g.mb))])
  Ru:R u=some ⟨3,fs.map Fld.v,true⟩
  fR:R t2=some ⟨6,xs ++ .agg [.int .i64 ty.kind,.int .i64 ty.long,.int .i64 bs,.raw h,.str ty.owner,.str ty.name] :: es.map Ent.v,true⟩
  hu:(u,h) ∈ g2.hd
  hd:∀ x ∈ g.hd,x ∈ g2.hd
  mb:g2.mb=g.mb
  ent:∀ e ∈ es,R e.u=some ⟨3,e.ty.fields.map Fld.v,true⟩∧(e.u,e.h) ∈ g2.hd∧s.nt≤e.u∧e.u < nt∧e.u ≠ t2∧e.u ≠ u
  nd:(es.map Ent.u).Nodup
  oB:∀ x,x ≠ b→x < s.nb→B x=s.B x
  oR:∀ x,x < s.nt→x ≠ t→R x=s.R x
  u0:s.nt≤u
  u1:u < nt
  t0:s.nt≤t2
  t1:t2 < nt
  ut:u ≠ t2
  b0:s.nb≤bo
  b1:bo < nb
  bb:b < s.nb
section
variable {l:List Ty} {ty:Ty} {s:S} {g:GT} {b t:Nat} {xs:List V} {B:Nat→Option V} {R:Nat→Option Rw} {nt nb:Nat} {g2:GT} {bo u t2:Nat} {h:Hdr} {bs:Int} {fs:List Fld} {es:List Ent}
theorem TkM.call (J:TkM l ty s g b t xs B R nt nb g2 bo u t2 h bs fs es) {S3:S} {ts:List Ty} {s3:S} {g3:GT} {t3:Nat} {es3:List Ent}
    (H:TkPost l S3 g2 b t2 (xs ++ .agg [.int .i64 ty.kind,.int .i64 ty.long,.int .i64 bs,.raw h,.str ty.owner,.str ty.name] :: es.map Ent.v) ts s3 g3 t3 es3) (hB:S3.B=B) (hR:S3.R=R) (hnt:S3.nt=nt) (hnb:S3.nb=nb):TkM l ty s g b t xs s3.B s3.R s3.nt s3.nb g3 bo u t3 h bs fs (es ++ es3):=by
  subst hB hR hnt hnb
  have f1:=J.u0
  have f2:=J.u1
  have f3:=J.t0
  have f4:=J.t1
  have f5:=J.b0
  have f6:=J.b1
  have f7:=J.bb
  have f8:=H.nt
  have f9:=H.nb
  have f10:=H.lt
  have hne:u ≠ t3:=by
    rcases H.t0 with e | e
    · rw [e];exact J.ut
    · omega
  have h3:s.nt≤t3:=by
    rcases H.t0 with e | e <;> omega
  exact {
    Bo:=by rw [H.oB bo (by omega) f6];exact J.Bo
    fB:=by rw [H.B,J.mb]
    Ru:=by rw [H.oR u f2 J.ut];exact J.Ru
    fR:=by rw [H.R];simp
    hu:=H.hd _ J.hu
    hd:=fun x hx=>H.hd _ (J.hd x hx)
    mb:=H.mb.trans J.mb
    ent:=fun e he=>by
      rcases List.mem_append.1 he with he | he
      · obtain ⟨e1,e2,e3,e4,e5,e6⟩:=J.ent e he
        refine ⟨by rw [H.oR e.u e4 e5];exact e1,H.hd _ e2,e3,by omega,?_,e6⟩
        rcases H.t0 with e | e
        · rw [e];exact e5
        · omega
      · obtain ⟨e1,e2,e3,e4,e5⟩:=H.ent e he
        exact ⟨e1,e2,by omega,e4,e5,by omega⟩
    nd:=by
      rw [List.map_append,List.nodup_append]
      refine ⟨J.nd,H.nd,fun a ha c hc e=>?_⟩
      obtain ⟨x,hx,rfl⟩:=List.mem_map.1 ha
      obtain ⟨y,hy,rfl⟩:=List.mem_map.1 hc
      have h1:=(J.ent x hx).2.2.2.1
      have h2:=(H.ent y hy).2.2.1
      omega
    oB:=fun x hx hlt=>by rw [H.oB x hx (by omega)];exact J.oB x hx hlt
    oR:=fun x hlt hx=>by rw [H.oR x (by omega) (by omega)];exact J.oR x hlt hx
    u0:=f1
    u1:=by omega
    t0:=h3
    t1:=f10
    ut:=hne
    b0:=f5
    b1:=by omega
    bb:=f7 }
theorem TkM.base (J:TkM l ty s g b t xs B R nt nb g2 bo u t2 h bs fs es) (bs':Int) :
    TkM l ty s g b t xs B (fun x=>if x=t2 then some ⟨6,xs ++ .agg [.int .i64 ty.kind,.int .i64 ty.long,.int .i64 bs',.raw h,.str ty.owner,.str ty.name] :: es.map Ent.v,true⟩ else R x) nt nb g2 bo u t2 h bs' fs es :=
  { J with
    Ru:=by rw [if_neg J.ut];exact J.Ru
    fR:=if_pos rfl
    ent:=fun e he=>by
      obtain ⟨e1,e2⟩:=J.ent e he
      exact ⟨by rw [if_neg e2.2.2.2.1];exact e1,e2⟩
    oR:=fun x hlt hx=>by
      have:=J.t0
      rw [if_neg (by omega)]
      exact J.oR x hlt hx }
theorem TkM.fld (J:TkM l ty s g b t xs B R nt nb g2 bo u t2 h bs fs es) (fs':List Fld) :
    TkM l ty s g b t xs B (fun x=>if x=u then some ⟨3,fs'.map Fld.v,true⟩ else R x) nt nb g2 bo u t2 h bs fs' es :=
  { J with
    Ru:=if_pos rfl
    fR:=by rw [if_neg (fun e=>J.ut e.symm)];exact J.fR
    ent:=fun e he=>by
      obtain ⟨e1,e2⟩:=J.ent e he
      exact ⟨by rw [if_neg e2.2.2.2.2];exact e1,e2⟩
    oR:=fun x hlt hx=>by
      have:=J.u0
      rw [if_neg (by omega)]
      exact J.oR x hlt hx }
theorem TkM.box (J:TkM l ty s g b t xs B R nt nb g2 bo u t2 h bs fs es) {B':Nat→Option V} {nb':Nat} (hB:∀ x,x < nb→B' x=B x) (hn:nb≤nb'):TkM l ty s g b t xs B' R nt nb' g2 bo u t2 h bs fs es :=
  have f5:=J.b0
  have f6:=J.b1
  have f7:=J.bb
  { J with
    Bo:=by rw [hB bo f6];exact J.Bo
    fB:=by rw [hB b (by omega)];exact J.fB
    oB:=fun x hx hlt=>by rw [hB x (by omega)];exact J.oB x hx hlt
    b1:=by omega }
theorem TkM.pre (J:TkM l ty s g b t xs B R nt nb g2 bo u t2 h bs fs es) {S3:S} (hB:S3.B=B) (hR:S3.R=R) (hnt:S3.nt=nt) (hnb:S3.nb=nb) {f:Nat} {n:Int} (hl:xs.length + (es.length + 1)=g2.ord.length) (ho:OrdOK l.length g2.ord) (hn:n < l.length) (hf:l.length - g2.ord.length < f) :
    TkPre l f S3 g2 b t2 (xs ++ .agg [.int .i64 ty.kind,.int .i64 ty.long,.int .i64 bs,.raw h,.str ty.owner,.str ty.name] :: es.map Ent.v) n:=by
  subst hB hR hnt hnb
  have f5:=J.b0
  have f6:=J.b1
  have f7:=J.bb
  exact { B:=by rw [J.mb];exact J.fB,R:=J.fR,len:=by simp;omega,ord:=ho,n:=hn,f:=hf,b:=by omega,t:=J.t1 }
theorem TkM.post (J:TkM l ty s g b t xs B R nt nb g2 bo u t2 h bs fs es) {s':S} (hB:s'.B=B) (hR:s'.R=R) (hnt:s'.nt=nt) (hnb:s'.nb=nb) (hst:s.nt≤nt) :
    TkPost l s g b t xs (⟨ty.kind,ty.long,bs,fs,ty.owner,ty.name⟩ :: es.map Ent.ty) s' g2 t2 (⟨⟨ty.kind,ty.long,bs,fs,ty.owner,ty.name⟩,u,h⟩ :: es):=by
  subst hB hR hnt hnb
  have f5:=J.b0
  have f6:=J.b1
  have f7:=J.bb
  exact {
    B:=J.fB
    R:=by rw [J.fR];simp
    tys:=by simp
    mb:=J.mb
    hd:=J.hd
    ent:=fun e he=>by
      rcases List.mem_cons.1 he with rfl | he
      · exact ⟨J.Ru,J.hu,J.u0,J.u1,J.ut⟩
      · obtain ⟨e1,e2,e3,e4,e5,e6⟩:=J.ent e he
        exact ⟨e1,e2,e3,e4,e5⟩
    nd:=by
      rw [List.map_cons,List.nodup_cons]
      refine ⟨fun hm=>?_,J.nd⟩
      obtain ⟨x,hx,e⟩:=List.mem_map.1 hm
      exact (J.ent x hx).2.2.2.2.2 e
    lt:=J.t1
    t0:=.inr J.t0
    oB:=J.oB
    oR:=J.oR
    nt:=hst
    nb:=by omega }
theorem post_refl {f:Nat} {n:Int} (hp:TkPre l f s g b t xs n) {s':S} (hB:s'.B=s.B) (hR:s'.R=s.R) (hnt:s'.nt=s.nt) (hnb:s'.nb=s.nb):TkPost l s g b t xs [] s' g t [] where
  B:=by rw [hB];exact hp.B
  R:=by rw [hR,hp.R];simp
  tys:=rfl
  mb:=rfl
  hd _ h:=h
  ent e he:=absurd he (by simp)
  nd:=List.nodup_nil
  lt:=by rw [hnt];exact hp.t
  t0:=.inl rfl
  oB x _ _:=by rw [hB]
  oR x _ _:=by rw [hR]
  nt:=by omega
  nb:=by omega
theorem postT_mk {f:Nat} {n:Int} (hp:TkPre l f s g b t xs n) {s':S} {g':GT} {r:V} (h1:r=.int .i64 (tk l f g.ord n).1) (h2:g'.ord=(tk l f g.ord n).2.1) (h3:∃ t' es,TkPost l s g b t xs (tk l f g.ord n).2.2 s' g' t' es) :
    postT l f s g [.ptr b 0,.int .i64 n] s' g' r:=by
  intro b' t' xs' n' e hp'
  simp only [List.cons.injEq,V.ptr.injEq,V.int.injEq,and_true,true_and] at e
  obtain ⟨rfl,rfl⟩:=e
  have e1:=hp.B.symm.trans hp'.B
  simp only [Option.some.injEq,V.agg.injEq,List.cons.injEq,V.own.injEq,and_true,true_and] at e1
  subst e1
  have e2:=hp.R.symm.trans hp'.R
  simp only [Option.some.injEq,Rw.mk.injEq,and_true,true_and] at e2
  subst e2
  exact ⟨h1,h2,h3⟩
end
theorem set_mid {α:Type} (xs r:List α) (e y:α):(xs ++ e :: r).set xs.length y=xs ++ y :: r:=by simp
theorem get_mid {α:Type} (xs r:List α) (e:α):(xs ++ e :: r)[xs.length]?=some e:=by simp
end Go.TM
end
