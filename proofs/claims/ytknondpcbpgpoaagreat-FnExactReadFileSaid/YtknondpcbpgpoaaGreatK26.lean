/- The row: FnExactReadFile. -/
import Derived.Test.YtknondpcbpgpoaaGreatK25
import Derived.ProofKit
import Derived.Carry
import Derived.Test.YtknondpcbpgpoaaGreatRows
set_option linter.unusedVariables false
set_option linter.unusedSimpArgs false
section
set_option maxHeartbeats 16000000
set_option maxRecDepth 20000
namespace Go.TM.Tryz
open Go Go.TM Go.Proofs
theorem noS_len : ExLen noS := ⟨rfl, rfl, by simp [noS], by simp [noS], by simp [noS], by simp [noS]⟩
theorem noS_lim : noS.lim := by simp [noS, Scp.lim, limL, lim, ba_nil_size]
theorem readI_len (b : ByteArray) (hb : b.size ≤ lim) : ExLen (readI b).1 ∧ (readI b).1.lim := by
  have h0 : ExLen noS ∧ noS.lim := ⟨noS_len, noS_lim⟩
  unfold readI
  split
  · exact h0
  · split
    · exact h0
    · split
      · exact h0
      · split
        · exact h0
        · split
          · exact h0
          · split
            · exact h0
            · rename_i h
              simp only [Bool.not_eq_false] at h
              have hs := scopeI_ex (s := ⟨(numbO b).1.1, [], baseTys ++ (numbO b).1.2.1, (numbO b).1.2.2, []⟩) (by simp only [isB, Bool.and_eq_true] at h; exact h.1)
              exact ⟨⟨rfl, rfl, hs.t24, hs.f6, hs.o16, hs.p4⟩, numbS_lim hb⟩
noncomputable def c19 := ctr (fun b : ByteArray => b.size ≤ 1048576) (fun b => [.str b]) (fun b => (false, .tup [(readF b).1.o, .int .i64 (readF b).2.1, .int .i64 (readF b).2.2, .bool (decide ((readF b).2.1 = 0))]))
theorem c19_eq (b : ByteArray) (h : b.size ≤ 1048576) : c19 [.str b] = some (false, .tup [(readF b).1.o, .int .i64 (readF b).2.1, .int .i64 (readF b).2.2, .bool (decide ((readF b).2.1 = 0))]) := ctr_eq (by simp) b h rfl
theorem c19_ok : COK Tryz.prog (19, c19) := ctr_ok fun b h => f19_ok b h
noncomputable def c20 := ctr (fun b : ByteArray => b.size ≤ 1048576) (fun b => [.str b]) (fun b => (false, .tup [(readI b).1.o, .int .i64 (readI b).2.1, .int .i64 (readI b).2.2, .bool (decide ((readI b).2.1 = 0))]))
theorem c20_eq (b : ByteArray) (h : b.size ≤ 1048576) : c20 [.str b] = some (false, .tup [(readI b).1.o, .int .i64 (readI b).2.1, .int .i64 (readI b).2.2, .bool (decide ((readI b).2.1 = 0))]) := ctr_eq (by simp) b h rfl
theorem c20_ok : COK Tryz.prog (20, c20) := ctr_ok fun b h => f20_ok b h
theorem f4_ok (b : ByteArray) (hl : b.size ≤ lim) : FunOK Tryz.prog 4 [.str b] false (.bool true) := by
  refine fun_ok (mkE_ok zmix (cl := [(19, c19), (20, c20), (16, c16), (18, c18)]) (gl := [(17, [true], c17)]) [] ⟨c19_ok, c20_ok, c16_ok, c18_ok⟩ c17_ok) Tryz.func4 (by kernel_rfl) ?_
  refine FunW_run _ _ rfl rfl ?_
  by_cases hz : 1048576 < b.size
  · have hzi : (1048576 : Int) < b.size := by omega
    simp [hz, hzi]
  have hzi : ¬ (1048576 : Int) < b.size := by omega
  have e19 := c19_eq b (by omega)
  have e20 := c20_eq b (by omega)
  rw [← read_same] at e19
  obtain ⟨hx, hxl⟩ := readI_len b hl
  generalize readI b = q at *
  obtain ⟨X, n, m⟩ := q
  simp only at *
  have e16 := c16_eq X hxl
  simp only [Scp.v] at e16
  simp only [Scp.o] at e19 e20
  have k1 : cnt cStr X.imports = 0 := by rw [hx.im]; rfl
  have k2 : cnt cUse X.uses = 0 := by rw [hx.us]; rfl
  have k3 : cnt cTy X.types ≤ 23 * X.types.length := cnt_max fun t ht => by
    have := hx.fl t ht
    have h2 := cnt_const (c := cFld) (m := 3) (fun _ => rfl) t.fields
    simp only [cTy, h2]
    omega
  have k4 : cnt cObj X.objects ≤ 17 * X.objects.length := cnt_max fun t ht => by
    have := hx.pa t ht
    have h2 := cnt_const (c := cPar) (m := 3) (fun _ => rfl) t.params
    simp only [cObj, h2]
    omega
  have k5 := hx.ty
  have k6 := hx.ob
  have cond : X.imports.length ≤ 4611686018427387904 ∧ (X.types.length ≤ 4611686018427387904 ∧ ∀ y ∈ X.types, y.fields.length ≤ 4611686018427387904) ∧ (X.objects.length ≤ 4611686018427387904 ∧ ∀ y ∈ X.objects, y.params.length ≤ 4611686018427387904) ∧ X.uses.length ≤ 4611686018427387904 :=
    ⟨by rw [hx.im]; simp, ⟨by omega, fun y hy => by have := hx.fl y hy; omega⟩, ⟨by omega, fun y hy => by have := hx.pa y hy; omega⟩, by rw [hx.us]; simp⟩
  have e17x := c17_eq X 1 (by omega) (by omega) cond
  have e18x := c18_eq X 1 (by omega) (by omega) cond
  simp only [Scp.o] at e17x
  simp only [Scp.v, mkScp] at e18x
  simp [hz, hzi, e19, e20, e16, e17x, e18x, pureOp, S.see, seeL, S.after, flatC]
  omega
end Go.TM.Tryz
end
section
namespace Go.TM
open Go
section
variable {H : Type} {enc : TypeId × Value → H} {P : Program} {W : World}
abbrev Old (W : World) : Nat → Prop := fun b => b < W.heap.size
def Rd (P : Program) (W : World) (enc : TypeId × Value → H) (t : TypeId) {α : Type} (f : α → V) (p : α → Prop) : Prop :=
  ∀ (fuel : Nat) (cs : List Value) (x : DataW H × List MemPlace), DataW.trod enc P W 0 (fun _ => true) true fuel t cs = some x →
    ∃ a, p a ∧ All2 (fun l u => FR W (Old W) (vw l) u) (leaves (f a)) cs
theorem rd_str {t : TypeId} (ht : P.underlying t = some .string) : Rd P W enc t V.str strLim := fun fuel cs x h => by
  obtain ⟨s, rfl, _, hs⟩ := DataW.trod_string ht h
  exact ⟨s, hs, .str s, trivial⟩
end
end Go.TM
end
section
namespace Go.TM
open Go Go.RowKit
def mem1 (W : World) : Mem := ⟨Old W, fun _ => none, fun _ => 0, fun _ => undef, fun _ _ _ => undef, 0, 0⟩
theorem mem1_ok {W : World} {args : List V} (h : adCs args S.zero = (args, S.zero)) : MemOK (mem1 W) W (start args []) := by
  have hR : (start args []).R = fun _ => none := by simp only [start, h]; rfl
  have hB : (start args []).B = fun _ => none := by
    funext x
    simp [start, h, adCs]
  refine ⟨by simp only [start, h]; rfl, by simp only [start, h]; rfl, fun b c hb => ?_, fun t r hr => ?_, fun b hb => ⟨rfl, hb⟩, fun b l hl => (by cases hl), fun b t hl => (by cases hl), fun b k hl => (by cases hl)⟩
  · rw [hB] at hb; cases hb
  · rw [hR] at hr; cases hr
theorem close_bool {M : Mem} {W : World} {s : S} {k : Nat} {sv : V} {v : Value} {b : Bool} (hr : SR2 M W sv v) (hc : closeR s k sv = .bool b) : v = .bool b := by
  cases sv with
  | bool c =>
    simp [closeR, closeB, onL1, closeL] at hc
    subst hc
    exact hr
  | tup xs => simp [closeR] at hc
  | agg xs => simp [closeR, closeB, onL1] at hc
  | ptr b' o =>
    cases o with
    | zero =>
      simp only [closeR, closeB] at hc
      split at hc
      · split at hc <;> cases hc
      · cases hc
    | succ o => simp [closeR, closeB, onL1, closeL] at hc
  | own t =>
    simp only [closeR, closeB, onL1, closeL] at hc
    split at hc <;> cases hc
  | fn f caps => cases caps <;> simp [closeR, closeB, onL1, closeL] at hc
  | _ => simp [closeR, closeB, onL1, closeL] at hc
theorem run_true {P : Program} {f : FuncId} {args : List V} (h : FunOK P f args false (.bool true)) (hs : adCs args S.zero = (args, S.zero)) {W : World} {vs : List Value} (hv : All2 (SR1 (mem1 W) W) args vs) :
    Calls P f vs.toArray W fun e W' => e = .returned (.bool true) ∧ Below W.heap.size W W' := by
  refine (h.calls (mem1 W) W vs (mem1_ok hs) (by rw [hs]; exact hv)).mono ?_
  rintro e W' ⟨v, M', s', sv, rfl, hp⟩
  rw [close_bool hp.rel hp.res]
  exact ⟨rfl, hp.evo.os, hp.evo.tape, hp.evo.output, hp.evo.size, fun k hk => hp.evo.old k hk rfl⟩
end Go.TM
end
section
set_option maxHeartbeats 2000000
namespace Go.Proofs.YtknondpcbpgpoaaGreat
open Go Go.ChangeShapes Go.WideShapes Go.ChangeAt Go.RowKit Go.TM Go.TM.Tryz
theorem own : ownKnob Tryz.prog.godebug = none := by kernel_rfl
theorem laidOut : laidOutB Tryz.prog = true := by kernel_rfl
theorem str_value {P : Program} {W : World} {base : Nat} {t : TypeId} {v : Value} (ht : P.underlying t = some .string) (h : Value.okWide P W .any base t v) : ∃ n, v = .string n := by
  simp only [Value.okWide, ht] at h
  simp only [Cell.okWide, ht] at h
  simp only [Cell.ok, ht] at h
  cases v <;> first | exact ⟨_, rfl⟩ | exact h.elim
theorem str_ad (n : ByteArray) : adCs [.str n] S.zero = ([.str n], S.zero) := by rfl
set_option maxRecDepth 100000 in
theorem fnExactReadFile_lifted (os : Os) (started : os.Started) (H : Type) (enc : TypeId × Value → H) :
    ReturnsInHanded {} Tryz.checked os 4 .any (Rows.fnExactReadFileSpec.pre6 enc Tryz.prog Tryz.f4 Rows.fnExactReadFileRow.domain false) (Rows.fnExactReadFileSpec.post enc Tryz.prog Tryz.f4 false true false false) := by
  refine returnsInHanded_of_change (C := Tryz.checked) own started (by kernel_rfl) Tryz.func4
    (ChangeSpec.witness6 (enc := enc) (C := Tryz.checked) false ⟨#[], #[.string ⟨#[]⟩], []⟩ 8 (by kernel_rfl) (by kernel_rfl) (by kernel_rfl) (by kernel_rfl)) ?_
  intro W base args ds gs before hval0 hW _ _
  have hval : ∀ (j : Nat) t v, Tryz.f4.params[j]? = some t → args[j]? = some v → Value.okWide Tryz.prog W .any base t v := hval0
  have hW' := hW
  obtain ⟨p, q, hA0, hV, rfl, hfz, hnd⟩ := hW
  have hA : DataW.TrodAll enc Tryz.prog W 0 (fun _ => true) true Tryz.f4.params.toList args.toList ds p := hA0
  rw [Tryz.params4] at hA hval
  obtain ⟨v0, d0, rfl, rfl, h0⟩ := trodAll_one hA
  obtain ⟨rfl, rfl⟩ := trodVars_none hV
  obtain ⟨n, rfl⟩ := str_value Tryz.underlying9 (hval 0 9 v0 rfl rfl)
  clear hA0 hval0
  simp only [List.append_nil] at hW'
  have hlt : ∀ x ∈ p, x.block < W.heap.size := fun x hx => by simpa using hW'.lt x hx
  have g0 := h0
  obtain ⟨fuel0, hf0⟩ := g0
  obtain ⟨n', hn, hs'⟩ := (rd_str Tryz.underlying9) _ _ _ hf0
  have hnn : n' = n := by
    obtain ⟨h2, _⟩ := hs'
    cases h2
    rfl
  subst hnn
  refine (run_true (f4_ok n' hn) (str_ad n') (vs := [.string n']) ⟨rfl, trivial⟩).mono fun e W' ⟨he, hb⟩ => ?_
  subst he
  have harg : DataW.Trod enc Tryz.prog W' 0 (fun b => decide (b < W.heap.size)) true 9 (.string n') d0 p :=
    Below.trod laidOut (by kernel_rfl) (of_decide_eq_true (by kernel_rfl)) h0 hb hlt
  exact ⟨_, rfl, _, _, _, [], _, [], hW', trodAll_mk1 (shut_bool Tryz.underlying4 _), trodAll_mk1 harg, rfl, hb.frame _, fun h => by cases h⟩
theorem facts0 : Tryz.pinned.checked.prog.funcNamed Rows.fnExactReadFileRow.func = some 4 := by kernel_rfl
theorem facts1 : (Rows.fnExactReadFileRow.inPlace == Tryz.pinned.checked.prog.inPlace 4) = true := by kernel_rfl
theorem facts2 : (Rows.fnExactReadFileRow.unfollowed == Tryz.pinned.checked.prog.unfollowed 4) = true := by kernel_rfl
theorem facts3 : (Rows.fnExactReadFileRow.recurses == Tryz.pinned.checked.prog.recurses 4) = true := by kernel_rfl
theorem facts4 : (Rows.fnExactReadFileRow.named == Tryz.pinned.checked.prog.varsNamed 4) = true := by kernel_rfl
theorem facts5 : joinedFacts Tryz.pinned.checked.prog 4 Tryz.f4 Rows.fnExactReadFileSpec Rows.fnExactReadFileRow = true := by
  unfold joinedFacts
  rw [facts1, facts2, facts3, facts4]
  kernel_rfl
theorem facts6 : Tryz.f4.isInstance Tryz.pinned.checked.prog Rows.fnExactReadFileRow.origin Rows.fnExactReadFileRow.targs := of_decide_eq_true (by kernel_rfl)
theorem facts7 : Tryz.f4.isWrapper Tryz.pinned.checked.prog Rows.fnExactReadFileRow.wrapper Rows.fnExactReadFileRow.mainSum := by
  unfold Func.isWrapper; first | (rw [if_pos (by decide +kernel)]; kernel_rfl) | (rw [if_neg (by decide +kernel)]; exact ⟨rfl, rfl⟩)
theorem fnExactReadFile_holds : Rows.FnExactReadFileSaid :=
  OpenClaim.holds_of_wide 4 Tryz.f4 rfl rfl rfl rfl rfl rfl rfl ⟨rfl, rfl, rfl, rfl, rfl⟩ rfl rfl rfl rfl rfl facts0 Tryz.func4 facts5 facts6 facts7
    (fun os started H enc _ => fnExactReadFile_lifted os started H enc)
end Go.Proofs.YtknondpcbpgpoaaGreat
end
