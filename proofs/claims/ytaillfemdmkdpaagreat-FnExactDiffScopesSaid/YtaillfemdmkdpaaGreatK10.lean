/- The program's DiffScopes returns what the reference's returns, for all arguments that the statement's guards let in. -/
import Derived.Test.YtaillfemdmkdpaaGreatK09
import Derived.ProofKit
import Derived.Carry
import Derived.Test.YtaillfemdmkdpaaGreatRows
set_option linter.unusedVariables false
set_option linter.unusedSimpArgs false
section
set_option linter.unusedVariables false
set_option linter.unusedSimpArgs false
namespace Go.TM
open Go
/-! ### what a call is given, as data: from the statement's reader to the trees -/
section
variable {H : Type} {enc : TypeId × Value → H} {P : Program} {W : World}
/-- Old blocks. -/
abbrev Old (W : World) : Nat → Prop := fun b => b < W.heap.size
/-- A type is read as data of a kind. -/
def Rd (P : Program) (W : World) (enc : TypeId × Value → H) (t : TypeId) {α : Type} (f : α → V) (p : α → Prop) : Prop :=
  ∀ (fuel : Nat) (cs : List Value) (x : DataW H × List MemPlace), DataW.trod enc P W 0 (fun _ => true) true fuel t cs = some x →
    ∃ a, p a ∧ All2 (fun l u => FR W (Old W) (vw l) u) (leaves (f a)) cs
theorem rd_str {t : TypeId} (ht : P.underlying t = some .string) : Rd P W enc t V.str strLim := fun fuel cs x h => by
  obtain ⟨s, rfl, _, hs⟩ := DataW.trod_string ht h
  exact ⟨s, hs, .str s, trivial⟩
theorem rd_int {t : TypeId} {k : IntKind} (ht : P.underlying t = some (.int k)) : Rd P W enc t (V.int k) (fun _ => True) := fun fuel cs x h => by
  obtain ⟨n, rfl, _, _⟩ := DataW.trod_int ht h
  exact ⟨n, trivial, .int k n, trivial⟩
theorem rd_bool {t : TypeId} (ht : P.underlying t = some .bool) : Rd P W enc t V.bool (fun _ => True) := fun fuel cs x h => by
  obtain ⟨b, rfl, _⟩ := DataW.trod_bool ht h
  exact ⟨b, trivial, .bool b, trivial⟩
theorem list_of {α : Type} {Q : Nat → α → Prop} : ∀ (n : Nat), (∀ i, i < n → ∃ a, Q i a) → ∃ xs : List α, xs.length = n ∧ ∀ i a, xs[i]? = some a → Q i a
  | 0, _ => ⟨[], rfl, fun i a h => by simp at h⟩
  | n + 1, h => by
    obtain ⟨xs, hl, hx⟩ := list_of n fun i hi => h i (by omega)
    obtain ⟨a, ha⟩ := h n (by omega)
    refine ⟨xs ++ [a], by simp [hl], fun i b hb => ?_⟩
    by_cases hi : i < n
    · rw [List.getElem?_append_left (by omega)] at hb
      exact hx i b hb
    · rw [List.getElem?_append_right (by omega), hl] at hb
      by_cases e : i = n
      · subst e
        simp at hb
        subst hb
        exact ha
      · rw [List.getElem?_eq_none (by simp; omega)] at hb
        cases hb
theorem cells_spec {a : Addr} {n : Nat} {cs : List Value} (h : W.cells? 0 a n = some cs) : cs.length = n ∧ ∀ i, i < n → W.cell? (a.add i) = cs[i]? := by
  unfold World.cells? at h
  rw [if_pos (Nat.zero_le _)] at h
  exact ⟨by simpa using mapM_some_length h, fun i hi => mapM_some_get h i i (by simp [hi])⟩
theorem cell_spot {a : Addr} {u : Value} (h : W.cell? a = some u) : a.spot = none ∧ a.block < W.heap.size := by
  unfold World.cell? at h
  split at h
  · rename_i hb
    split at h
    · cases h
    · rename_i hs
      refine ⟨by simpa using hs, ?_⟩
      rw [Array.getElem?_eq_some_iff] at hb
      exact hb.1
  · cases h
theorem rd_slice {α : Type} {f : α → V} {p : α → Prop} {t e : TypeId} {n : Nat} (ht : P.underlying t = some (.slice e)) (hc : P.cellsOf e = n) (hn : 0 < n) (hlv : ∀ a, (leaves (f a)).length = n) (hrd : Rd P W enc e f p) :
    Rd P W enc t (fun xs : List α => V.lst (xs.map f)) (limL p) := fun fuel cs x h => by
  rcases DataW.trod_slice ht h with ⟨rfl, _⟩ | ⟨a, len, cap, elems, rest, m, _, rfl, _, _, hlc, hcm, hel, hcells, _, _⟩
  · exact ⟨[], ⟨Nat.zero_le _, fun _ h => by cases h⟩, .nil _ _, trivial⟩
  · rw [hc] at hcells
    have key : ∀ i, i < len → ∃ b : α, p b ∧ ∃ cs' : List Value, W.cells? 0 (a.add (i * n)) n = some cs' ∧ All2 (fun l u => FR W (Old W) (vw l) u) (leaves (f b)) cs' := fun i hi => by
      have h1 := hcells i hi
      rw [List.getElem?_eq_getElem (by omega)] at h1
      obtain ⟨cs', h2, h3⟩ := Option.bind_eq_some_iff.1 h1
      obtain ⟨b, hb, hr⟩ := hrd _ _ _ h3
      exact ⟨b, hb, cs', h2, hr⟩
    obtain ⟨xs, hxl, hxs⟩ := list_of len key
    have hpx : ∀ b ∈ xs, p b := fun b hb => by
      obtain ⟨i, hi, rfl⟩ := List.mem_iff_getElem.1 hb
      exact (hxs i _ (List.getElem?_eq_getElem hi)).1
    refine ⟨xs, ⟨by rw [hxl]; simp only [maxLen] at hcm; simp only [lim]; omega, hpx⟩, ?_, trivial⟩
    show FR W (Old W) (.lst (xs.map f)) _
    by_cases h0 : len = 0
    · have : xs = [] := List.length_eq_zero_iff.1 (by omega)
      subst this
      subst h0
      exact .nil _ _
    · have hsp : a.spot = none ∧ a.block < W.heap.size := by
        obtain ⟨cs', h2, _⟩ := (hxs 0 _ (List.getElem?_eq_getElem (by omega))).2
        obtain ⟨h3, h4⟩ := cells_spec h2
        have h5 := h4 0 hn
        rw [List.getElem?_eq_getElem (by omega)] at h5
        have := cell_spot h5
        simpa [Addr.add] using this
      obtain ⟨b, o, sp⟩ := a
      simp only at hsp
      obtain ⟨rfl, hlt⟩ := hsp
      have hadd : ∀ j i, ((⟨b, o, none⟩ : Addr).add (j * n)).add i = ⟨b, o + j * n + i, none⟩ := fun j i => by
        unfold Addr.add
        split <;> split <;> simp_all
      have hleaf : ∀ j i l, leafAt (xs.map f) j i = some l → ∃ u, W.cell? ⟨b, o + j * n + i, none⟩ = some u ∧ FR W (Old W) (vw l) u := fun j i l hl => by
        unfold leafAt at hl
        rw [List.getElem?_map] at hl
        cases hj : xs[j]? with
        | none => rw [hj] at hl; cases hl
        | some y =>
          rw [hj] at hl
          simp only [Option.map_some, Option.bind_some] at hl
          obtain ⟨_, cs', h2, h3⟩ := hxs j y hj
          obtain ⟨u, hu, hr⟩ := h3.get i l hl
          obtain ⟨h4, h5⟩ := cells_spec h2
          have hi : i < n := by
            have := (List.getElem?_eq_some_iff.1 hu).1
            omega
          refine ⟨u, ?_, hr⟩
          rw [← hadd, h5 i hi, hu]
      have hfin := FR.lst (W := W) (F := Old W) (xs.map f) b o cap n (fun j i => (W.cell? ⟨b, o + j * n + i, none⟩).getD undef) hlt (by simp; omega) (by simp only [List.length_map]; omega)
        (fun e he => by
          obtain ⟨y, _, rfl⟩ := List.mem_map.1 he
          exact hlv y)
        (fun j i l hl => by
          obtain ⟨u, h1, _⟩ := hleaf j i l hl
          rw [h1]
          rfl)
        (fun j i l hl => by
          obtain ⟨u, h1, h2⟩ := hleaf j i l hl
          rw [h1]
          exact h2)
      rw [List.length_map, hxl] at hfin
      exact hfin
/-- A struct all of whose fields are of one cell. -/
def oneB (P : Program) (t : TypeId) (fs : Array Go.Field) : Bool := decide (P.cellsOf t = fs.size) && fs.toList.zipIdx.all fun y => decide (y.1.offset = y.2) && decide (P.cellsOf y.1.type = 1)
theorem rd_cells {t : TypeId} {fs : Array Go.Field} (ht : P.underlying t = some (.struct fs)) (hB : oneB P t fs = true) {fuel : Nat} {cs : List Value} {x : DataW H × List MemPlace} (h : DataW.trod enc P W 0 (fun _ => true) true fuel t cs = some x) :
    cs.length = fs.size ∧ ∃ n, ∀ (i : Nat) (f : Go.Field), fs[i]? = some f → ∃ c y, cs[i]? = some c ∧ DataW.trod enc P W 0 (fun _ => true) true n f.type [c] = some y := by
  obtain ⟨xs, n, _, _, hl, hxl, hf⟩ := DataW.trod_struct ht h
  simp only [oneB, Bool.and_eq_true, decide_eq_true_eq, List.all_eq_true] at hB
  refine ⟨by rw [hl, hB.1], n, fun i f hfi => ?_⟩
  have h1 := hf i f hfi
  have hi : i < fs.size := by
    rw [Array.getElem?_eq_some_iff] at hfi
    exact hfi.1
  have h2 := hB.2 (f, i) (by
    rw [List.mem_zipIdx_iff_getElem?]
    simpa using hfi)
  simp only at h2
  have hic : i < cs.length := by rw [hl, hB.1]; exact hi
  rw [h2.1, h2.2, List.getElem?_eq_getElem (by omega)] at h1
  refine ⟨cs[i], xs[i], List.getElem?_eq_getElem hic, ?_⟩
  have e : (cs.drop i).take 1 = [cs[i]] := by
    rw [List.drop_eq_getElem_cons hic]
    rfl
  rw [e] at h1
  exact h1
end
end Go.TM
end
section
set_option maxHeartbeats 2000000
set_option linter.unusedSimpArgs false
set_option linter.unusedVariables false
namespace Go.TM.Tryz
open Go Go.TM Go.Proofs
section
variable {H : Type} {enc : TypeId × Value → H} {W : World}
theorem rd_Fld : Rd Tryz.prog W enc 151 Fld.v Fld.lim := fun fuel cs x h => by
  obtain ⟨hl, n, hf⟩ := rd_cells Tryz.underlying151 (by kernel_rfl) h
  match cs, hl with
  | [c0, c1, c2], _ =>
    obtain ⟨d0, y0, e0, h0⟩ := hf 0 _ rfl
    simp only [List.getElem?_cons_zero, List.getElem?_cons_succ, Option.some.injEq] at e0
    subst e0
    obtain ⟨a0, p0, q0⟩ := (rd_str Tryz.underlying9) _ _ _ h0
    obtain ⟨d1, y1, e1, h1⟩ := hf 1 _ rfl
    simp only [List.getElem?_cons_zero, List.getElem?_cons_succ, Option.some.injEq] at e1
    subst e1
    obtain ⟨a1, p1, q1⟩ := (rd_int Tryz.underlying3) _ _ _ h1
    obtain ⟨d2, y2, e2, h2⟩ := hf 2 _ rfl
    simp only [List.getElem?_cons_zero, List.getElem?_cons_succ, Option.some.injEq] at e2
    subst e2
    obtain ⟨a2, p2, q2⟩ := (rd_int Tryz.underlying3) _ _ _ h2
    exact ⟨⟨a0, a1, a2⟩, p0, q0.1, q1.1, q2.1, trivial⟩
theorem rd_Ty : Rd Tryz.prog W enc 81 Ty.v Ty.lim := fun fuel cs x h => by
  obtain ⟨hl, n, hf⟩ := rd_cells Tryz.underlying81 (by kernel_rfl) h
  match cs, hl with
  | [c0, c1, c2, c3, c4, c5], _ =>
    obtain ⟨d0, y0, e0, h0⟩ := hf 0 _ rfl
    simp only [List.getElem?_cons_zero, List.getElem?_cons_succ, Option.some.injEq] at e0
    subst e0
    obtain ⟨a0, p0, q0⟩ := (rd_int Tryz.underlying3) _ _ _ h0
    obtain ⟨d1, y1, e1, h1⟩ := hf 1 _ rfl
    simp only [List.getElem?_cons_zero, List.getElem?_cons_succ, Option.some.injEq] at e1
    subst e1
    obtain ⟨a1, p1, q1⟩ := (rd_int Tryz.underlying3) _ _ _ h1
    obtain ⟨d2, y2, e2, h2⟩ := hf 2 _ rfl
    simp only [List.getElem?_cons_zero, List.getElem?_cons_succ, Option.some.injEq] at e2
    subst e2
    obtain ⟨a2, p2, q2⟩ := (rd_int Tryz.underlying3) _ _ _ h2
    obtain ⟨d3, y3, e3, h3⟩ := hf 3 _ rfl
    simp only [List.getElem?_cons_zero, List.getElem?_cons_succ, Option.some.injEq] at e3
    subst e3
    obtain ⟨a3, p3, q3⟩ := (rd_slice Tryz.underlying79 (n := 3) (by kernel_rfl) (by omega) (fun _ => rfl) rd_Fld) _ _ _ h3
    obtain ⟨d4, y4, e4, h4⟩ := hf 4 _ rfl
    simp only [List.getElem?_cons_zero, List.getElem?_cons_succ, Option.some.injEq] at e4
    subst e4
    obtain ⟨a4, p4, q4⟩ := (rd_str Tryz.underlying9) _ _ _ h4
    obtain ⟨d5, y5, e5, h5⟩ := hf 5 _ rfl
    simp only [List.getElem?_cons_zero, List.getElem?_cons_succ, Option.some.injEq] at e5
    subst e5
    obtain ⟨a5, p5, q5⟩ := (rd_str Tryz.underlying9) _ _ _ h5
    exact ⟨⟨a0, a1, a2, a3, a4, a5⟩, ⟨p3, p4, p5⟩, q0.1, q1.1, q2.1, q3.1, q4.1, q5.1, trivial⟩
theorem rd_Par : Rd Tryz.prog W enc 153 Par.v Par.lim := fun fuel cs x h => by
  obtain ⟨hl, n, hf⟩ := rd_cells Tryz.underlying153 (by kernel_rfl) h
  match cs, hl with
  | [c0, c1, c2], _ =>
    obtain ⟨d0, y0, e0, h0⟩ := hf 0 _ rfl
    simp only [List.getElem?_cons_zero, List.getElem?_cons_succ, Option.some.injEq] at e0
    subst e0
    obtain ⟨a0, p0, q0⟩ := (rd_str Tryz.underlying9) _ _ _ h0
    obtain ⟨d1, y1, e1, h1⟩ := hf 1 _ rfl
    simp only [List.getElem?_cons_zero, List.getElem?_cons_succ, Option.some.injEq] at e1
    subst e1
    obtain ⟨a1, p1, q1⟩ := (rd_bool Tryz.underlying4) _ _ _ h1
    obtain ⟨d2, y2, e2, h2⟩ := hf 2 _ rfl
    simp only [List.getElem?_cons_zero, List.getElem?_cons_succ, Option.some.injEq] at e2
    subst e2
    obtain ⟨a2, p2, q2⟩ := (rd_int Tryz.underlying3) _ _ _ h2
    exact ⟨⟨a0, a1, a2⟩, p0, q0.1, q1.1, q2.1, trivial⟩
theorem rd_Obj : Rd Tryz.prog W enc 85 Obj.v Obj.lim := fun fuel cs x h => by
  obtain ⟨hl, n, hf⟩ := rd_cells Tryz.underlying85 (by kernel_rfl) h
  match cs, hl with
  | [c0, c1, c2, c3, c4, c5], _ =>
    obtain ⟨d0, y0, e0, h0⟩ := hf 0 _ rfl
    simp only [List.getElem?_cons_zero, List.getElem?_cons_succ, Option.some.injEq] at e0
    subst e0
    obtain ⟨a0, p0, q0⟩ := (rd_str Tryz.underlying9) _ _ _ h0
    obtain ⟨d1, y1, e1, h1⟩ := hf 1 _ rfl
    simp only [List.getElem?_cons_zero, List.getElem?_cons_succ, Option.some.injEq] at e1
    subst e1
    obtain ⟨a1, p1, q1⟩ := (rd_int Tryz.underlying3) _ _ _ h1
    obtain ⟨d2, y2, e2, h2⟩ := hf 2 _ rfl
    simp only [List.getElem?_cons_zero, List.getElem?_cons_succ, Option.some.injEq] at e2
    subst e2
    obtain ⟨a2, p2, q2⟩ := (rd_int Tryz.underlying3) _ _ _ h2
    obtain ⟨d3, y3, e3, h3⟩ := hf 3 _ rfl
    simp only [List.getElem?_cons_zero, List.getElem?_cons_succ, Option.some.injEq] at e3
    subst e3
    obtain ⟨a3, p3, q3⟩ := (rd_int Tryz.underlying3) _ _ _ h3
    obtain ⟨d4, y4, e4, h4⟩ := hf 4 _ rfl
    simp only [List.getElem?_cons_zero, List.getElem?_cons_succ, Option.some.injEq] at e4
    subst e4
    obtain ⟨a4, p4, q4⟩ := (rd_int Tryz.underlying3) _ _ _ h4
    obtain ⟨d5, y5, e5, h5⟩ := hf 5 _ rfl
    simp only [List.getElem?_cons_zero, List.getElem?_cons_succ, Option.some.injEq] at e5
    subst e5
    obtain ⟨a5, p5, q5⟩ := (rd_slice Tryz.underlying83 (n := 3) (by kernel_rfl) (by omega) (fun _ => rfl) rd_Par) _ _ _ h5
    exact ⟨⟨a0, a1, a2, a3, a4, a5⟩, ⟨p0, p5⟩, q0.1, q1.1, q2.1, q3.1, q4.1, q5.1, trivial⟩
theorem rd_Use : Rd Tryz.prog W enc 88 Use.v Use.lim := fun fuel cs x h => by
  obtain ⟨hl, n, hf⟩ := rd_cells Tryz.underlying88 (by kernel_rfl) h
  match cs, hl with
  | [c0, c1], _ =>
    obtain ⟨d0, y0, e0, h0⟩ := hf 0 _ rfl
    simp only [List.getElem?_cons_zero, List.getElem?_cons_succ, Option.some.injEq] at e0
    subst e0
    obtain ⟨a0, p0, q0⟩ := (rd_str Tryz.underlying9) _ _ _ h0
    obtain ⟨d1, y1, e1, h1⟩ := hf 1 _ rfl
    simp only [List.getElem?_cons_zero, List.getElem?_cons_succ, Option.some.injEq] at e1
    subst e1
    obtain ⟨a1, p1, q1⟩ := (rd_str Tryz.underlying9) _ _ _ h1
    exact ⟨⟨a0, a1⟩, ⟨p0, p1⟩, q0.1, q1.1, trivial⟩
theorem rd_Scp : Rd Tryz.prog W enc 27 Scp.v Scp.lim := fun fuel cs x h => by
  obtain ⟨hl, n, hf⟩ := rd_cells Tryz.underlying27 (by kernel_rfl) h
  match cs, hl with
  | [c0, c1, c2, c3, c4], _ =>
    obtain ⟨d0, y0, e0, h0⟩ := hf 0 _ rfl
    simp only [List.getElem?_cons_zero, List.getElem?_cons_succ, Option.some.injEq] at e0
    subst e0
    obtain ⟨a0, p0, q0⟩ := (rd_str Tryz.underlying9) _ _ _ h0
    obtain ⟨d1, y1, e1, h1⟩ := hf 1 _ rfl
    simp only [List.getElem?_cons_zero, List.getElem?_cons_succ, Option.some.injEq] at e1
    subst e1
    obtain ⟨a1, p1, q1⟩ := (rd_slice Tryz.underlying22 (n := 1) (by kernel_rfl) (by omega) (fun _ => rfl) (rd_str Tryz.underlying9)) _ _ _ h1
    obtain ⟨d2, y2, e2, h2⟩ := hf 2 _ rfl
    simp only [List.getElem?_cons_zero, List.getElem?_cons_succ, Option.some.injEq] at e2
    subst e2
    obtain ⟨a2, p2, q2⟩ := (rd_slice Tryz.underlying23 (n := 6) (by kernel_rfl) (by omega) (fun _ => rfl) rd_Ty) _ _ _ h2
    obtain ⟨d3, y3, e3, h3⟩ := hf 3 _ rfl
    simp only [List.getElem?_cons_zero, List.getElem?_cons_succ, Option.some.injEq] at e3
    subst e3
    obtain ⟨a3, p3, q3⟩ := (rd_slice Tryz.underlying24 (n := 6) (by kernel_rfl) (by omega) (fun _ => rfl) rd_Obj) _ _ _ h3
    obtain ⟨d4, y4, e4, h4⟩ := hf 4 _ rfl
    simp only [List.getElem?_cons_zero, List.getElem?_cons_succ, Option.some.injEq] at e4
    subst e4
    obtain ⟨a4, p4, q4⟩ := (rd_slice Tryz.underlying25 (n := 2) (by kernel_rfl) (by omega) (fun _ => rfl) rd_Use) _ _ _ h4
    exact ⟨⟨a0, a1, a2, a3, a4⟩, ⟨p0, p1, p2, p3, p4⟩, q0.1, q1.1, q2.1, q3.1, q4.1, trivial⟩
end
end Go.TM.Tryz
end
section
set_option linter.unusedVariables false
set_option linter.unusedSimpArgs false
namespace Go.TM
open Go Go.RowKit
theorem srl_of_fr {M : Mem} {W : World} {l : V} {u : Value} (hl : frL l = true) (h : FR W M.F (vw l) u) : SRL M W l u := by
  cases l <;> simp only [frL, Bool.false_eq_true] at hl
  · cases h; rfl
  · cases h; rfl
  · cases h; rfl
  · exact h
/-- At a call's beginning: all that lies there is read alone. -/
def mem1 (W : World) : Mem := ⟨Old W, fun _ => none, fun _ => 0, fun _ => undef, fun _ _ _ => undef, 0, 0⟩
theorem mem1_ok {W : World} {args : List V} (h : adCs args S.zero = (args, S.zero)) : MemOK (mem1 W) W (start args []) := by
  have hR : (start args []).R = fun _ => none := by simp only [start, h]; rfl
  have hB : (start args []).B = fun _ => none := by
    funext x
    simp [start, h, adCs]
  refine ⟨by simp only [start, h]; rfl, by simp only [start, h]; rfl, fun b c hb => ?_, fun t r hr => ?_, fun b hb => ⟨rfl, hb⟩, fun b l hl => (by cases hl), fun b t hl => (by cases hl), fun b k hl => (by cases hl)⟩
  · rw [hB] at hb; cases hb
  · rw [hR] at hr; cases hr
theorem sr1_of_all {W : World} {xs : List V} {cs : List Value} (hf : xs.all frL = true) (h : All2 (fun l u => FR W (Old W) (vw l) u) xs cs) : SR1 (mem1 W) W (.agg xs) (.agg cs.toArray) :=
  ⟨cs, rfl, h.imp_mem fun l u hl hr => srl_of_fr (M := mem1 W) (List.all_eq_true.1 hf l hl) hr⟩
theorem close_bool {M : Mem} {W : World} {s : S} {k : Nat} {sv : V} {v : Value} {b : Bool} (hr : SR2 M W sv v) (hc : closeR s k sv = .bool b) : v = .bool b := by
  cases sv with
  | bool c =>
    simp [closeR, closeB, onL1, closeL] at hc
    subst hc
    exact hr
  | tup xs => simp [closeR] at hc
  | agg xs => simp [closeR, closeB, onL1] at hc
  | ptr b' o =>
    cases o with
    | zero =>
      simp only [closeR, closeB] at hc
      split at hc
      · split at hc <;> cases hc
      · cases hc
    | succ o => simp [closeR, closeB, onL1, closeL] at hc
  | own t =>
    simp only [closeR, closeB, onL1, closeL] at hc
    split at hc <;> cases hc
  | fn f caps => cases caps <;> simp [closeR, closeB, onL1, closeL] at hc
  | _ => simp [closeR, closeB, onL1, closeL] at hc
theorem run_true {P : Program} {f : FuncId} {args : List V} (h : FunOK P f args false (.bool true)) (hs : adCs args S.zero = (args, S.zero)) {W : World} {vs : List Value} (hv : All2 (SR1 (mem1 W) W) args vs) :
    Calls P f vs.toArray W fun e W' => e = .returned (.bool true) ∧ Below W.heap.size W W' := by
  refine (h.calls (mem1 W) W vs (mem1_ok hs) (by rw [hs]; exact hv)).mono ?_
  rintro e W' ⟨v, M', s', sv, rfl, hp⟩
  rw [close_bool hp.rel hp.res]
  exact ⟨rfl, hp.evo.os, hp.evo.tape, hp.evo.output, hp.evo.size, fun k hk => hp.evo.old k hk rfl⟩
end Go.TM
end
section
set_option maxHeartbeats 2000000
set_option linter.unusedSimpArgs false
set_option linter.unusedVariables false
namespace Go.Proofs.YtaillfemdmkdpaaGreat
open Go Go.ChangeShapes Go.WideShapes Go.ChangeAt Go.RowKit Go.TM Go.TM.Tryz
theorem own : ownKnob Tryz.prog.godebug = none := by kernel_rfl
theorem laidOut : laidOutB Tryz.prog = true := by kernel_rfl
theorem scope_value {P : Program} {W : World} {base : Nat} {t : TypeId} {fs : Array Go.Field} {v : Value} (ht : P.underlying t = some (.struct fs)) (h : Value.okWide P W .any base t v) : ∃ cs, v = .agg cs := by
  simp only [Value.okWide, ht] at h
  obtain ⟨cs, rfl, _⟩ := h
  exact ⟨cs, rfl⟩
theorem scp_ad2 (s m : Scp) : adCs [s.v, m.v] S.zero = ([s.v, m.v], S.zero) := by rfl
set_option maxRecDepth 100000 in
theorem fnExactDiffScopes_lifted (os : Os) (started : os.Started) (H : Type) (enc : TypeId × Value → H) :
    ReturnsInHanded {} Tryz.checked os 4 .any (Rows.fnExactDiffScopesSpec.pre6 enc Tryz.prog Tryz.f4 Rows.fnExactDiffScopesRow.domain false) (Rows.fnExactDiffScopesSpec.post enc Tryz.prog Tryz.f4 false true false false) := by
  refine returnsInHanded_of_change (C := Tryz.checked) own started (by kernel_rfl) Tryz.func4
    (ChangeSpec.witness6 (enc := enc) (C := Tryz.checked) false ⟨#[], #[.agg #[.string ⟨#[]⟩, .slice none 0 0, .slice none 0 0, .slice none 0 0, .slice none 0 0], .agg #[.string ⟨#[]⟩, .slice none 0 0, .slice none 0 0, .slice none 0 0, .slice none 0 0]], []⟩ 8 (by kernel_rfl) (by kernel_rfl) (by kernel_rfl) (by kernel_rfl)) ?_
  intro W base args ds gs before hval0 hW _ _
  have hval : ∀ (j : Nat) t v, Tryz.f4.params[j]? = some t → args[j]? = some v → Value.okWide Tryz.prog W .any base t v := hval0
  have hW' := hW
  obtain ⟨p, q, hA0, hV, rfl, hfz, hnd⟩ := hW
  have hA : DataW.TrodAll enc Tryz.prog W 0 (fun _ => true) true Tryz.f4.params.toList args.toList ds p := hA0
  rw [Tryz.params4] at hA hval
  obtain ⟨v0, v1, d0, d1, p0, p1, rfl, rfl, rfl, h0, h1⟩ := trodAll_two hA
  obtain ⟨rfl, rfl⟩ := trodVars_none hV
  obtain ⟨cs, rfl⟩ := scope_value Tryz.underlying27 (hval 0 27 v0 rfl rfl)
  obtain ⟨cs1, rfl⟩ := scope_value Tryz.underlying27 (hval 1 27 v1 rfl rfl)
  clear hA0 hval0
  simp only [List.append_nil] at hW'
  have hlt : ∀ x ∈ p0 ++ p1, x.block < W.heap.size := fun x hx => by simpa using hW'.lt x hx
  have g0 := h0
  have g1 := h1
  obtain ⟨fuel0, hf0⟩ := g0
  obtain ⟨fuel1, hf1⟩ := g1
  obtain ⟨s, hl, hs⟩ := rd_Scp _ _ _ hf0
  obtain ⟨m, hm, hs'⟩ := rd_Scp _ _ _ hf1
  have hsr : SR1 (mem1 W) W s.v (.agg cs) := by
    have := sr1_of_all (W := W) (xs := leaves s.v) rfl hs
    simpa [Value.cells] using this
  have hsr' : SR1 (mem1 W) W m.v (.agg cs1) := by
    have := sr1_of_all (W := W) (xs := leaves m.v) rfl hs'
    simpa [Value.cells] using this
  refine (run_true (f4_ok s m hl hm) (scp_ad2 s m) (vs := [.agg cs, .agg cs1]) ⟨hsr, hsr', trivial⟩).mono fun e W' ⟨he, hb⟩ => ?_
  subst he
  have harg0 : DataW.Trod enc Tryz.prog W' 0 (fun b => decide (b < W.heap.size)) true 27 (.agg cs) d0 p0 :=
    Below.trod laidOut (by kernel_rfl) (of_decide_eq_true (by kernel_rfl)) h0 hb (fun x hx => hlt x (List.mem_append.2 (.inl hx)))
  have harg1 : DataW.Trod enc Tryz.prog W' 0 (fun b => decide (b < W.heap.size)) true 27 (.agg cs1) d1 p1 :=
    Below.trod laidOut (by kernel_rfl) (of_decide_eq_true (by kernel_rfl)) h1 hb (fun x hx => hlt x (List.mem_append.2 (.inr hx)))
  exact ⟨_, rfl, _, _, _, [], _, [], hW', trodAll_mk1 (shut_bool Tryz.underlying4 _), trodAll_mk2 harg0 harg1, rfl, hb.frame _, fun h => by cases h⟩
theorem fnExactDiffScopes_holds : Rows.FnExactDiffScopesSaid :=
  OpenClaim.holds_of_wide 4 Tryz.f4 rfl rfl rfl rfl rfl rfl rfl ⟨rfl, rfl, rfl, rfl, rfl⟩ rfl rfl rfl rfl rfl (by kernel_rfl) Tryz.func4 (by kernel_rfl)
    (of_decide_eq_true (by kernel_rfl)) (by unfold Func.isWrapper; first | (rw [if_pos (by decide +kernel)]; kernel_rfl) | (rw [if_neg (by decide +kernel)]; exact ⟨rfl, rfl⟩))
    (fun os started H enc _ => fnExactDiffScopes_lifted os started H enc)

end Go.Proofs.YtaillfemdmkdpaaGreat
end
