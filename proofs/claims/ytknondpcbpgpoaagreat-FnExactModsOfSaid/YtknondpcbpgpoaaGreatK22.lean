/- The row: FnExactModsOf. -/
import Derived.Test.YtknondpcbpgpoaaGreatK21
import Derived.Test.YtknondpcbpgpoaaGreatRows
set_option linter.unusedVariables false
set_option linter.unusedSimpArgs false
section
set_option maxHeartbeats 2000000
namespace Go.Proofs.YtknondpcbpgpoaaGreat
open Go Go.ChangeShapes Go.WideShapes Go.ChangeAt Go.RowKit Go.TM Go.TM.Tryz
theorem own : ownKnob Tryz.prog.godebug = none := by kernel_rfl
theorem laidOut : laidOutB Tryz.prog = true := by kernel_rfl
theorem slice_value {P : Program} {W : World} {base : Nat} {t e : TypeId} {v : Value} (ht : P.underlying t = some (.slice e)) (h : Value.okWide P W .any base t v) : ∃ A n c, v = .slice A n c := by
  simp only [Value.okWide, ht] at h
  simp only [Cell.okWide, ht] at h
  simp only [Cell.ok, ht] at h
  cases v <;> first | exact ⟨_, _, _, rfl⟩ | exact h.elim
theorem mds_ad (l : List Mdl) : adCs [.lst (l.map Mdl.v)] S.zero = ([.lst (l.map Mdl.v)], S.zero) := by rfl
set_option maxRecDepth 100000 in
theorem fnExactModsOf_lifted (os : Os) (started : os.Started) (H : Type) (enc : TypeId × Value → H) :
    ReturnsInHanded {} Tryz.checked os 5 .any (Rows.fnExactModsOfSpec.pre6 enc Tryz.prog Tryz.f5 Rows.fnExactModsOfRow.domain false) (Rows.fnExactModsOfSpec.post enc Tryz.prog Tryz.f5 false true false false) := by
  refine returnsInHanded_of_change (C := Tryz.checked) own started (by kernel_rfl) Tryz.func5
    (ChangeSpec.witness6 (enc := enc) (C := Tryz.checked) false ⟨#[], #[.slice none 0 0], []⟩ 5 (by kernel_rfl) (by kernel_rfl) (by kernel_rfl) (by kernel_rfl)) ?_
  intro W base args ds gs before hval0 hW _ _
  have hval : ∀ (j : Nat) t v, Tryz.f5.params[j]? = some t → args[j]? = some v → Value.okWide Tryz.prog W .any base t v := hval0
  have hW' := hW
  obtain ⟨p, q, hA0, hV, rfl, hfz, hnd⟩ := hW
  have hA : DataW.TrodAll enc Tryz.prog W 0 (fun _ => true) true Tryz.f5.params.toList args.toList ds p := hA0
  rw [Tryz.params5] at hA hval
  obtain ⟨v0, d0, rfl, rfl, h0⟩ := trodAll_one hA
  obtain ⟨rfl, rfl⟩ := trodVars_none hV
  obtain ⟨A0, n0, c0, rfl⟩ := slice_value Tryz.underlying43 (hval 0 43 v0 rfl rfl)
  clear hA0 hval0
  simp only [List.append_nil] at hW'
  have hlt : ∀ x ∈ p, x.block < W.heap.size := fun x hx => by simpa using hW'.lt x hx
  have g0 := h0
  obtain ⟨fuel0, hf0⟩ := g0
  obtain ⟨l, hl, hs⟩ := (rd_slice Tryz.underlying43 (n := 6) (by kernel_rfl) (by omega) (fun _ => rfl) rd_Mdl) _ _ _ hf0
  have hsr : SR1 (mem1 W) W (.lst (l.map Mdl.v)) (.slice A0 n0 c0) := hs.1
  refine (run_true (f5_ok l hl) (mds_ad l) (vs := [.slice A0 n0 c0]) ⟨hsr, trivial⟩).mono fun e W' ⟨he, hb⟩ => ?_
  subst he
  have harg0 : DataW.Trod enc Tryz.prog W' 0 (fun b => decide (b < W.heap.size)) true 43 (.slice A0 n0 c0) d0 p :=
    Below.trod laidOut (by kernel_rfl) (of_decide_eq_true (by kernel_rfl)) h0 hb hlt
  exact ⟨_, rfl, _, _, _, [], _, [], hW', trodAll_mk1 (shut_bool Tryz.underlying4 _), trodAll_mk1 harg0, rfl, hb.frame _, fun h => by cases h⟩
theorem facts0 : Tryz.pinned.checked.prog.funcNamed Rows.fnExactModsOfRow.func = some 5 := by kernel_rfl
theorem facts1 : (Rows.fnExactModsOfRow.inPlace == Tryz.pinned.checked.prog.inPlace 5) = true := by kernel_rfl
theorem facts2 : (Rows.fnExactModsOfRow.unfollowed == Tryz.pinned.checked.prog.unfollowed 5) = true := by kernel_rfl
theorem facts3 : (Rows.fnExactModsOfRow.recurses == Tryz.pinned.checked.prog.recurses 5) = true := by kernel_rfl
theorem facts4 : (Rows.fnExactModsOfRow.named == Tryz.pinned.checked.prog.varsNamed 5) = true := by kernel_rfl
theorem facts5 : joinedFacts Tryz.pinned.checked.prog 5 Tryz.f5 Rows.fnExactModsOfSpec Rows.fnExactModsOfRow = true := by
  unfold joinedFacts
  rw [facts1, facts2, facts3, facts4]
  kernel_rfl
theorem facts6 : Tryz.f5.isInstance Tryz.pinned.checked.prog Rows.fnExactModsOfRow.origin Rows.fnExactModsOfRow.targs := of_decide_eq_true (by kernel_rfl)
theorem facts7 : Tryz.f5.isWrapper Tryz.pinned.checked.prog Rows.fnExactModsOfRow.wrapper Rows.fnExactModsOfRow.mainSum := by
  unfold Func.isWrapper; first | (rw [if_pos (by decide +kernel)]; kernel_rfl) | (rw [if_neg (by decide +kernel)]; exact ⟨rfl, rfl⟩)
theorem fnExactModsOf_holds : Rows.FnExactModsOfSaid :=
  OpenClaim.holds_of_wide 5 Tryz.f5 rfl rfl rfl rfl rfl rfl rfl ⟨rfl, rfl, rfl, rfl, rfl⟩ rfl rfl rfl rfl rfl facts0 Tryz.func5 facts5 facts6 facts7
    (fun os started H enc _ => fnExactModsOf_lifted os started H enc)
end Go.Proofs.YtknondpcbpgpoaaGreat
end
