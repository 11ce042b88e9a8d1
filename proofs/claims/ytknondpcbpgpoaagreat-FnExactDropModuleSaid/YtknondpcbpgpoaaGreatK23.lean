/- The row: FnExactDropModule. -/
import Derived.Test.YtknondpcbpgpoaaGreatK22
import Derived.Test.YtknondpcbpgpoaaGreatRows
set_option linter.unusedVariables false
set_option linter.unusedSimpArgs false
section
set_option maxHeartbeats 2000000
namespace Go.Proofs.YtknondpcbpgpoaaGreat
open Go Go.ChangeShapes Go.WideShapes Go.ChangeAt Go.RowKit Go.TM Go.TM.Tryz
theorem own : ownKnob Tryz.prog.godebug = none := by kernel_rfl
theorem laidOut : laidOutB Tryz.prog = true := by kernel_rfl
theorem slice_value {P : Program} {W : World} {base : Nat} {t e : TypeId} {v : Value} (ht : P.underlying t = some (.slice e)) (h : Value.okWide P W .any base t v) : ∃ A n c, v = .slice A n c := by
  simp only [Value.okWide, ht] at h
  simp only [Cell.okWide, ht] at h
  simp only [Cell.ok, ht] at h
  cases v <;> first | exact ⟨_, _, _, rfl⟩ | exact h.elim
theorem str_value {P : Program} {W : World} {base : Nat} {t : TypeId} {v : Value} (ht : P.underlying t = some .string) (h : Value.okWide P W .any base t v) : ∃ n, v = .string n := by
  simp only [Value.okWide, ht] at h
  simp only [Cell.okWide, ht] at h
  simp only [Cell.ok, ht] at h
  cases v <;> first | exact ⟨_, rfl⟩ | exact h.elim
theorem mds_ad2 (l : List Mdl) (n : ByteArray) : adCs [.lst (l.map Mdl.v), .str n] S.zero = ([.lst (l.map Mdl.v), .str n], S.zero) := by rfl
set_option maxRecDepth 100000 in
theorem fnExactDropModule_lifted (os : Os) (started : os.Started) (H : Type) (enc : TypeId × Value → H) :
    ReturnsInHanded {} Tryz.checked os 6 .any (Rows.fnExactDropModuleSpec.pre6 enc Tryz.prog Tryz.f6 Rows.fnExactDropModuleRow.domain false) (Rows.fnExactDropModuleSpec.post enc Tryz.prog Tryz.f6 false true false false) := by
  refine returnsInHanded_of_change (C := Tryz.checked) own started (by kernel_rfl) Tryz.func6
    (ChangeSpec.witness6 (enc := enc) (C := Tryz.checked) false ⟨#[], #[.slice none 0 0, .string ⟨#[]⟩], []⟩ 6 (by kernel_rfl) (by kernel_rfl) (by kernel_rfl) (by kernel_rfl)) ?_
  intro W base args ds gs before hval0 hW _ _
  have hval : ∀ (j : Nat) t v, Tryz.f6.params[j]? = some t → args[j]? = some v → Value.okWide Tryz.prog W .any base t v := hval0
  have hW' := hW
  obtain ⟨p, q, hA0, hV, rfl, hfz, hnd⟩ := hW
  have hA : DataW.TrodAll enc Tryz.prog W 0 (fun _ => true) true Tryz.f6.params.toList args.toList ds p := hA0
  rw [Tryz.params6] at hA hval
  obtain ⟨v0, v1, d0, d1, p0, p1, rfl, rfl, rfl, h0, h1⟩ := trodAll_two hA
  obtain ⟨rfl, rfl⟩ := trodVars_none hV
  obtain ⟨A0, n0, c0, rfl⟩ := slice_value Tryz.underlying43 (hval 0 43 v0 rfl rfl)
  obtain ⟨n, rfl⟩ := str_value Tryz.underlying9 (hval 1 9 v1 rfl rfl)
  clear hA0 hval0
  simp only [List.append_nil] at hW'
  have hlt : ∀ x ∈ p0 ++ p1, x.block < W.heap.size := fun x hx => by simpa using hW'.lt x hx
  have g0 := h0
  have g1 := h1
  obtain ⟨fuel0, hf0⟩ := g0
  obtain ⟨l, hl, hs⟩ := (rd_slice Tryz.underlying43 (n := 6) (by kernel_rfl) (by omega) (fun _ => rfl) rd_Mdl) _ _ _ hf0
  have hsr : SR1 (mem1 W) W (.lst (l.map Mdl.v)) (.slice A0 n0 c0) := hs.1
  obtain ⟨fuel1, hf1⟩ := g1
  obtain ⟨n', hn, hs'⟩ := (rd_str Tryz.underlying9) _ _ _ hf1
  have hnn : n' = n := by
    obtain ⟨h2, _⟩ := hs'
    cases h2
    rfl
  subst hnn
  refine (run_true (f6_ok l n' hl hn) (mds_ad2 l n') (vs := [.slice A0 n0 c0, .string n']) ⟨hsr, rfl, trivial⟩).mono fun e W' ⟨he, hb⟩ => ?_
  subst he
  have harg0 : DataW.Trod enc Tryz.prog W' 0 (fun b => decide (b < W.heap.size)) true 43 (.slice A0 n0 c0) d0 p0 :=
    Below.trod laidOut (by kernel_rfl) (of_decide_eq_true (by kernel_rfl)) h0 hb (fun x hx => hlt x (List.mem_append.2 (.inl hx)))
  have harg1 : DataW.Trod enc Tryz.prog W' 0 (fun b => decide (b < W.heap.size)) true 9 (.string n') d1 p1 :=
    Below.trod laidOut (by kernel_rfl) (of_decide_eq_true (by kernel_rfl)) h1 hb (fun x hx => hlt x (List.mem_append.2 (.inr hx)))
  exact ⟨_, rfl, _, _, _, [], _, [], hW', trodAll_mk1 (shut_bool Tryz.underlying4 _), trodAll_mk2 harg0 harg1, rfl, hb.frame _, fun h => by cases h⟩
theorem facts0 : Tryz.pinned.checked.prog.funcNamed Rows.fnExactDropModuleRow.func = some 6 := by kernel_rfl
theorem facts1 : (Rows.fnExactDropModuleRow.inPlace == Tryz.pinned.checked.prog.inPlace 6) = true := by kernel_rfl
theorem facts2 : (Rows.fnExactDropModuleRow.unfollowed == Tryz.pinned.checked.prog.unfollowed 6) = true := by kernel_rfl
theorem facts3 : (Rows.fnExactDropModuleRow.recurses == Tryz.pinned.checked.prog.recurses 6) = true := by kernel_rfl
theorem facts4 : (Rows.fnExactDropModuleRow.named == Tryz.pinned.checked.prog.varsNamed 6) = true := by kernel_rfl
theorem facts5 : joinedFacts Tryz.pinned.checked.prog 6 Tryz.f6 Rows.fnExactDropModuleSpec Rows.fnExactDropModuleRow = true := by
  unfold joinedFacts
  rw [facts1, facts2, facts3, facts4]
  kernel_rfl
theorem facts6 : Tryz.f6.isInstance Tryz.pinned.checked.prog Rows.fnExactDropModuleRow.origin Rows.fnExactDropModuleRow.targs := of_decide_eq_true (by kernel_rfl)
theorem facts7 : Tryz.f6.isWrapper Tryz.pinned.checked.prog Rows.fnExactDropModuleRow.wrapper Rows.fnExactDropModuleRow.mainSum := by
  unfold Func.isWrapper; first | (rw [if_pos (by decide +kernel)]; kernel_rfl) | (rw [if_neg (by decide +kernel)]; exact ⟨rfl, rfl⟩)
theorem fnExactDropModule_holds : Rows.FnExactDropModuleSaid :=
  OpenClaim.holds_of_wide 6 Tryz.f6 rfl rfl rfl rfl rfl rfl rfl ⟨rfl, rfl, rfl, rfl, rfl⟩ rfl rfl rfl rfl rfl facts0 Tryz.func6 facts5 facts6 facts7
    (fun os started H enc _ => fnExactDropModule_lifted os started H enc)
end Go.Proofs.YtknondpcbpgpoaaGreat
end
