/- The row: FnExactCheckSeen. -/
import Derived.Test.YtknondpcbpgpoaaGreatK21
import Derived.Test.YtknondpcbpgpoaaGreatRows
set_option linter.unusedVariables false
set_option linter.unusedSimpArgs false
section
set_option maxHeartbeats 2000000
namespace Go.Proofs.YtknondpcbpgpoaaGreat
open Go Go.ChangeShapes Go.WideShapes Go.ChangeAt Go.RowKit Go.TM Go.TM.Tryz
theorem own : ownKnob Tryz.prog.godebug = none := by kernel_rfl
theorem laidOut : laidOutB Tryz.prog = true := by kernel_rfl
theorem scope_value {P : Program} {W : World} {base : Nat} {t : TypeId} {fs : Array Go.Field} {v : Value} (ht : P.underlying t = some (.struct fs)) (h : Value.okWide P W .any base t v) : ∃ cs, v = .agg cs := by
  simp only [Value.okWide, ht] at h
  obtain ⟨cs, rfl, _⟩ := h
  exact ⟨cs, rfl⟩
theorem slice_value {P : Program} {W : World} {base : Nat} {t e : TypeId} {v : Value} (ht : P.underlying t = some (.slice e)) (h : Value.okWide P W .any base t v) : ∃ A n c, v = .slice A n c := by
  simp only [Value.okWide, ht] at h
  simp only [Cell.okWide, ht] at h
  simp only [Cell.ok, ht] at h
  cases v <;> first | exact ⟨_, _, _, rfl⟩ | exact h.elim
theorem scp_ad2 (s : List Knw) (l : List Scp) : adCs [.lst (s.map Knw.v), .lst (l.map Scp.v)] S.zero = ([.lst (s.map Knw.v), .lst (l.map Scp.v)], S.zero) := by rfl
set_option maxRecDepth 100000 in
theorem fnExactCheckSeen_lifted (os : Os) (started : os.Started) (H : Type) (enc : TypeId × Value → H) :
    ReturnsInHanded {} Tryz.checked os 8 .any (Rows.fnExactCheckSeenSpec.pre6 enc Tryz.prog Tryz.f8 Rows.fnExactCheckSeenRow.domain false) (Rows.fnExactCheckSeenSpec.post enc Tryz.prog Tryz.f8 false true false false) := by
  refine returnsInHanded_of_change (C := Tryz.checked) own started (by kernel_rfl) Tryz.func8
    (ChangeSpec.witness6 (enc := enc) (C := Tryz.checked) false ⟨#[], #[.slice none 0 0, .slice none 0 0], []⟩ 8 (by kernel_rfl) (by kernel_rfl) (by kernel_rfl) (by kernel_rfl)) ?_
  intro W base args ds gs before hval0 hW _ _
  have hval : ∀ (j : Nat) t v, Tryz.f8.params[j]? = some t → args[j]? = some v → Value.okWide Tryz.prog W .any base t v := hval0
  have hW' := hW
  obtain ⟨p, q, hA0, hV, rfl, hfz, hnd⟩ := hW
  have hA : DataW.TrodAll enc Tryz.prog W 0 (fun _ => true) true Tryz.f8.params.toList args.toList ds p := hA0
  rw [Tryz.params8] at hA hval
  obtain ⟨v0, v1, d0, d1, p0, p1, rfl, rfl, rfl, h0, h1⟩ := trodAll_two hA
  obtain ⟨rfl, rfl⟩ := trodVars_none hV
  obtain ⟨A0, n0, c0, rfl⟩ := slice_value Tryz.underlying67 (hval 0 67 v0 rfl rfl)
  obtain ⟨A, n, c, rfl⟩ := slice_value Tryz.underlying58 (hval 1 58 v1 rfl rfl)
  clear hA0 hval0
  simp only [List.append_nil] at hW'
  have hlt : ∀ x ∈ p0 ++ p1, x.block < W.heap.size := fun x hx => by simpa using hW'.lt x hx
  have g0 := h0
  have g1 := h1
  obtain ⟨fuel0, hf0⟩ := g0
  obtain ⟨fuel1, hf1⟩ := g1
  obtain ⟨s, hl, hs⟩ := (rd_slice Tryz.underlying67 (n := 3) (by kernel_rfl) (by omega) (fun _ => rfl) rd_Knw) _ _ _ hf0
  obtain ⟨l, hll, hs'⟩ := (rd_slice Tryz.underlying58 (n := 5) (by kernel_rfl) (by omega) (fun _ => rfl) rd_Scp) _ _ _ hf1
  have hsr : SR1 (mem1 W) W (.lst (s.map Knw.v)) (.slice A0 n0 c0) := hs.1
  have hsr' : SR1 (mem1 W) W (.lst (l.map Scp.v)) (.slice A n c) := hs'.1
  refine (run_true (f8_ok s l hl hll) (scp_ad2 s l) (vs := [.slice A0 n0 c0, .slice A n c]) ⟨hsr, hsr', trivial⟩).mono fun e W' ⟨he, hb⟩ => ?_
  subst he
  have harg0 : DataW.Trod enc Tryz.prog W' 0 (fun b => decide (b < W.heap.size)) true 67 (.slice A0 n0 c0) d0 p0 :=
    Below.trod laidOut (by kernel_rfl) (of_decide_eq_true (by kernel_rfl)) h0 hb (fun x hx => hlt x (List.mem_append.2 (.inl hx)))
  have harg1 : DataW.Trod enc Tryz.prog W' 0 (fun b => decide (b < W.heap.size)) true 58 (.slice A n c) d1 p1 :=
    Below.trod laidOut (by kernel_rfl) (of_decide_eq_true (by kernel_rfl)) h1 hb (fun x hx => hlt x (List.mem_append.2 (.inr hx)))
  exact ⟨_, rfl, _, _, _, [], _, [], hW', trodAll_mk1 (shut_bool Tryz.underlying4 _), trodAll_mk2 harg0 harg1, rfl, hb.frame _, fun h => by cases h⟩
theorem facts0 : Tryz.pinned.checked.prog.funcNamed Rows.fnExactCheckSeenRow.func = some 8 := by kernel_rfl
theorem facts1 : (Rows.fnExactCheckSeenRow.inPlace == Tryz.pinned.checked.prog.inPlace 8) = true := by kernel_rfl
theorem facts2 : (Rows.fnExactCheckSeenRow.unfollowed == Tryz.pinned.checked.prog.unfollowed 8) = true := by kernel_rfl
theorem facts3 : (Rows.fnExactCheckSeenRow.recurses == Tryz.pinned.checked.prog.recurses 8) = true := by kernel_rfl
theorem facts4 : (Rows.fnExactCheckSeenRow.named == Tryz.pinned.checked.prog.varsNamed 8) = true := by kernel_rfl
theorem facts5 : joinedFacts Tryz.pinned.checked.prog 8 Tryz.f8 Rows.fnExactCheckSeenSpec Rows.fnExactCheckSeenRow = true := by
  unfold joinedFacts
  rw [facts1, facts2, facts3, facts4]
  kernel_rfl
theorem facts6 : Tryz.f8.isInstance Tryz.pinned.checked.prog Rows.fnExactCheckSeenRow.origin Rows.fnExactCheckSeenRow.targs := of_decide_eq_true (by kernel_rfl)
theorem facts7 : Tryz.f8.isWrapper Tryz.pinned.checked.prog Rows.fnExactCheckSeenRow.wrapper Rows.fnExactCheckSeenRow.mainSum := by
  unfold Func.isWrapper; first | (rw [if_pos (by decide +kernel)]; kernel_rfl) | (rw [if_neg (by decide +kernel)]; exact ⟨rfl, rfl⟩)
theorem fnExactCheckSeen_holds : Rows.FnExactCheckSeenSaid :=
  OpenClaim.holds_of_wide 8 Tryz.f8 rfl rfl rfl rfl rfl rfl rfl ⟨rfl, rfl, rfl, rfl, rfl⟩ rfl rfl rfl rfl rfl facts0 Tryz.func8 facts5 facts6 facts7
    (fun os started H enc _ => fnExactCheckSeen_lifted os started H enc)
end Go.Proofs.YtknondpcbpgpoaaGreat
end
