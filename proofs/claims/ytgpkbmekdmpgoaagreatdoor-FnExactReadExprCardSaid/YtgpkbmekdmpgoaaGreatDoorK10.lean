/- The row: FnExactReadExpr. -/
import Derived.Test.YtgpkbmekdmpgoaaGreatDoorK09
import Derived.ProofKit
import Derived.OpenShut
import Derived.LaidMore
import Derived.Lay
import Derived.SevenTiedAt
import Derived.Stop.Joined
import Derived.Test.YtgpkbmekdmpgoaaGreatDoorRows
import Derived.Test.YtgpkbmekdmpgoaaGreatDoorCards
import Derived.Test.YtgpkbmekdmpgoaaGreatDoorTie
set_option linter.unusedVariables false
set_option linter.unusedSimpArgs false
section
set_option maxHeartbeats 2000000
namespace Go.TM.Tryz
open Go Go.TM Go.Proofs
section
variable {H : Type} {enc : TypeId × Value → H} {W : World}
theorem rd_Tok : Rd Tryz.prog W enc 77 Tok.v Tok.lim := fun fuel cs x h => by
  obtain ⟨hl, n, hf⟩ := rd_cells Tryz.underlying77 (by kernel_rfl) h
  match cs, hl with
  | [c0, c1, c2, c3], _ =>
    obtain ⟨d0, y0, e0, h0⟩ := hf 0 _ rfl
    simp only [gcz, gcs, Option.some.injEq] at e0
    subst e0
    obtain ⟨a0, p0, q0⟩ := (rd_int Tryz.underlying3) _ _ _ h0
    obtain ⟨d1, y1, e1, h1⟩ := hf 1 _ rfl
    simp only [gcz, gcs, Option.some.injEq] at e1
    subst e1
    obtain ⟨a1, p1, q1⟩ := (rd_str Tryz.underlying9) _ _ _ h1
    obtain ⟨d2, y2, e2, h2⟩ := hf 2 _ rfl
    simp only [gcz, gcs, Option.some.injEq] at e2
    subst e2
    obtain ⟨a2, p2, q2⟩ := (rd_int Tryz.underlying3) _ _ _ h2
    obtain ⟨d3, y3, e3, h3⟩ := hf 3 _ rfl
    simp only [gcz, gcs, Option.some.injEq] at e3
    subst e3
    obtain ⟨a3, p3, q3⟩ := (rd_int Tryz.underlying3) _ _ _ h3
    exact ⟨⟨a0, a1, a2, a3⟩, p1, q0.1, q1.1, q2.1, q3.1, trivial⟩
end
end Go.TM.Tryz
end
section
namespace Go.TM
open Go Go.RowKit
def mem1 (W : World) : Mem := ⟨Old W, fun _ => none, fun _ => 0, fun _ => undef, fun _ _ _ => undef, 0, 0⟩
theorem mem1_ok {W : World} {args : List V} (h : adCs args S.zero = (args, S.zero)) : MemOK (mem1 W) W (start args []) := by
  have hR : (start args []).R = fun _ => none := by simp only [start, h]; rfl
  have hB : (start args []).B = fun _ => none := by
    funext x
    simp [start, h, adCs]
  refine ⟨by simp only [start, h]; rfl, by simp only [start, h]; rfl, fun b c hb => ?_, fun t r hr => ?_, fun b hb => ⟨rfl, hb⟩, fun b l hl => (by cases hl), fun b t hl => (by cases hl), fun b k hl => (by cases hl)⟩
  · rw [hB] at hb; cases hb
  · rw [hR] at hr; cases hr
theorem close_bool {M : Mem} {W : World} {s : S} {k : Nat} {sv : V} {v : Value} {b : Bool} (hr : SR2 M W sv v) (hc : closeR s k sv = .bool b) : v = .bool b := by
  cases sv with
  | bool c =>
    simp [closeR, closeB, onL1, closeL] at hc
    subst hc
    exact hr
  | tup xs => simp [closeR] at hc
  | agg xs => simp [closeR, closeB, onL1] at hc
  | ptr b' o =>
    cases o with
    | zero =>
      simp only [closeR, closeB] at hc
      split at hc
      · split at hc <;> cases hc
      · cases hc
    | succ o => simp [closeR, closeB, onL1, closeL] at hc
  | own t =>
    simp only [closeR, closeB, onL1, closeL] at hc
    split at hc <;> cases hc
  | fn f caps => cases caps <;> simp [closeR, closeB, onL1, closeL] at hc
  | _ => simp [closeR, closeB, onL1, closeL] at hc
theorem run_true {P : Program} {f : FuncId} {args : List V} (h : FunOK P f args false (.bool true)) (hs : adCs args S.zero = (args, S.zero)) {W : World} {vs : List Value} (hv : All2 (SR1 (mem1 W) W) args vs) :
    Calls P f vs.toArray W fun e W' => e = .returned (.bool true) ∧ Below W.heap.size W W' := by
  refine (h.calls (mem1 W) W vs (mem1_ok hs) (by rw [hs]; exact hv)).mono ?_
  rintro e W' ⟨v, M', s', sv, rfl, hp⟩
  rw [close_bool hp.rel hp.res]
  exact ⟨rfl, hp.evo.os, hp.evo.tape, hp.evo.output, hp.evo.size, fun k hk => hp.evo.old k hk rfl⟩
end Go.TM
end
section
set_option maxHeartbeats 2000000
namespace Go.Proofs.YtgpkbmekdmpgoaaGreatDoor
open Go Go.ChangeShapes Go.WideShapes Go.ChangeAt Go.RowKit Go.TM Go.TM.Tryz
theorem own : ownKnob Tryz.prog.godebug = none := by kernel_rfl
theorem laidOut : laidOutB Tryz.prog = true := by kernel_rfl
theorem slice_value {P : Program} {W : World} {base : Nat} {t e : TypeId} {v : Value} (ht : P.underlying t = some (.slice e)) (h : Value.okWide P W .any base t v) : ∃ A n c, v = .slice A n c := by
  simp only [Value.okWide, ht] at h
  simp only [Cell.okWide, ht] at h
  simp only [Cell.ok, ht] at h
  cases v <;> first | exact ⟨_, _, _, rfl⟩ | exact h.elim
theorem tok_ad (l : List TM.Tok) : adCs [.lst (l.map TM.Tok.v)] S.zero = ([.lst (l.map TM.Tok.v)], S.zero) := by rfl
theorem laid_met (os : Os) (args : Array Value) : laidMetH Tryz.prog Rows.fnExactReadExprRow.laid ((World.laidAll Tryz.prog os Rows.fnExactReadExprRow.laid).forCall (fun _ _ => 0) ⟨#[], args, []⟩).memory := by
  rw [MakeChecks.laidMetH_plain _ _ _ (by kernel_rfl)]
  exact laidMet_laidAll _ (by kernel_rfl) (by kernel_rfl)
set_option maxRecDepth 100000 in
theorem fnExactReadExpr_lifted (os : Os) (started : os.Started) (H : Type) (enc : TypeId × Value → H) :
    ReturnsInHanded {} Tryz.checked os 3 .any (fun w args => (Rows.fnExactReadExprSpec.pre enc Tryz.prog Tryz.f3 Rows.fnExactReadExprRow.domain false w args ∧ laidMetH Tryz.prog Rows.fnExactReadExprRow.laid w) ∧ sizedMet enc Tryz.prog Tryz.f3 (OpenSpec.ofChange Rows.fnExactReadExprSpec) false w args)
      (Rows.fnExactReadExprSpec.post enc Tryz.prog Tryz.f3 false true false false) := by
  refine returnsInHanded_of_change_and (C := Tryz.checked) (X := fun w _ => laidMetH Tryz.prog Rows.fnExactReadExprRow.laid w) (fun _ _ _ hh h => h.of_heap hh) own started (by kernel_rfl) Tryz.func3
    (ChangeSpec.witness_shaped (enc := enc) (C := Tryz.checked) (os := os) (X := fun w _ => laidMetH Tryz.prog Rows.fnExactReadExprRow.laid w) false (World.laidAll Tryz.prog os Rows.fnExactReadExprRow.laid) #[.slice none 0 0] 8 (World.laidAll_os _ _ _)
      (World.shaped_of_ZipB (by kernel_rfl) (by kernel_rfl)) (by kernel_rfl) (by kernel_rfl) (by kernel_rfl) (laid_met os _)) ?_
  intro W base args ds gs before hval0 hW _ _ _ _
  have hval : ∀ (j : Nat) t v, Tryz.f3.params[j]? = some t → args[j]? = some v → Value.okWide Tryz.prog W .any base t v := hval0
  have hW' := hW
  obtain ⟨p, q, hA0, hV, rfl, hfz, hnd⟩ := hW
  have hA : DataW.TrodAll enc Tryz.prog W 0 (fun _ => true) true Tryz.f3.params.toList args.toList ds p := hA0
  rw [Tryz.params3] at hA hval
  obtain ⟨v0, d0, rfl, rfl, h0⟩ := trodAll_one hA
  obtain ⟨rfl, rfl⟩ := trodVars_none hV
  obtain ⟨A0, n0, c0, rfl⟩ := slice_value Tryz.underlying22 (hval 0 22 v0 rfl rfl)
  clear hA0 hval0
  simp only [List.append_nil] at hW'
  have hlt : ∀ x ∈ p, x.block < W.heap.size := fun x hx => by simpa using hW'.lt x hx
  have g0 := h0
  obtain ⟨fuel0, hf0⟩ := g0
  obtain ⟨l, hl, hs⟩ := (rd_slice Tryz.underlying22 (n := 4) (by kernel_rfl) (by omega) (fun _ => rfl) rd_Tok) _ _ _ hf0
  have hsr : SR1 (mem1 W) W (.lst (l.map TM.Tok.v)) (.slice A0 n0 c0) := hs.1
  refine (run_true (f3_ok l hl) (tok_ad l) (vs := [.slice A0 n0 c0]) ⟨hsr, trivial⟩).mono fun e W' ⟨he, hb⟩ => ?_
  subst he
  have harg0 : DataW.Trod enc Tryz.prog W' 0 (fun b => decide (b < W.heap.size)) true 22 (.slice A0 n0 c0) d0 p :=
    Below.trod laidOut (by kernel_rfl) (of_decide_eq_true (by kernel_rfl)) h0 hb hlt
  exact ⟨_, rfl, _, _, _, [], _, [], hW', trodAll_mk1 (shut_bool Tryz.underlying4 _), trodAll_mk1 harg0, rfl, hb.frame _, fun h => by cases h⟩
theorem facts0 : Tryz.pinned.checked.prog.funcNamed Rows.fnExactReadExprRow.func = some 3 := by kernel_rfl
theorem facts1 : (Rows.fnExactReadExprRow.inPlace == Tryz.pinned.checked.prog.inPlace 3) = true := by kernel_rfl
theorem facts2 : (Rows.fnExactReadExprRow.unfollowed == Tryz.pinned.checked.prog.unfollowed 3) = true := by kernel_rfl
theorem facts3 : (Rows.fnExactReadExprRow.recurses == Tryz.pinned.checked.prog.recurses 3) = true := by kernel_rfl
theorem facts4 : (Rows.fnExactReadExprRow.named == Tryz.pinned.checked.prog.varsNamed 3) = true := by kernel_rfl
theorem facts5 : joinedFacts Tryz.pinned.checked.prog 3 Tryz.f3 Rows.fnExactReadExprSpec Rows.fnExactReadExprRow = true := by
  unfold joinedFacts
  rw [facts1, facts2, facts3, facts4]
  kernel_rfl
theorem facts6 : Tryz.f3.isInstance Tryz.pinned.checked.prog Rows.fnExactReadExprRow.origin Rows.fnExactReadExprRow.targs := of_decide_eq_true (by kernel_rfl)
theorem facts7 : Tryz.f3.isWrapper Tryz.pinned.checked.prog Rows.fnExactReadExprRow.wrapper Rows.fnExactReadExprRow.mainSum := by
  unfold Func.isWrapper; first | (rw [if_pos (by decide +kernel)]; kernel_rfl) | (rw [if_neg (by decide +kernel)]; exact ⟨rfl, rfl⟩)
theorem fnExactReadExpr_row : Rows.FnExactReadExprSaid :=
  OpenClaim.holds_of_wide 3 Tryz.f3 rfl rfl rfl rfl rfl rfl rfl ⟨rfl, rfl, rfl, rfl, rfl⟩ rfl rfl rfl rfl rfl facts0 Tryz.func3 facts5 facts6 facts7
    (fun os started H enc _ => fnExactReadExpr_lifted os started H enc)
theorem fnExactReadExpr_holds : Rows.FnExactReadExprCardSaid :=
  Claim7.holds_tied_plain_at .later [] [.data, .data, .data, .data, .sentinel, .sentinel, .pinned] true (true, "4fb26d283fa2b75eae0e6a7d35f92e8852ce8f6188695db1595219b23312b0c8") true
    fnExactReadExpr_row (fun _ h => by cases h) (by kernel_rfl) (fun _ h => by cases h) fnExactReadExpr_row_tie rfl ⟨rfl, rfl⟩ (by kernel_rfl) rfl
    (fun f fn hf hfn => by
      obtain rfl : f = 3 := Option.some.inj ((show Tryz.prog.funcNamed "loop.example/g00837/laws.FnExactReadExpr" = some 3 by kernel_rfl).symm.trans hf) |>.symm
      obtain rfl : fn = Tryz.f3 := (Option.some.inj (Tryz.func3.symm.trans hfn)).symm
      exact ⟨by kernel_rfl, fun j t ht => by
        rw [Tryz.params3] at ht
        have hm : t ∈ [22] := by simpa using Array.mem_of_getElem? ht
        have hall : ([22].all fun u => !Tryz.prog.wantsStandIn u) = true := by kernel_rfl
        exact (show Tryz.prog.wantsStandIn t = false by simpa using List.all_eq_true.1 hall t hm)⟩)
    (by kernel_rfl)
end Go.Proofs.YtgpkbmekdmpgoaaGreatDoor
end
