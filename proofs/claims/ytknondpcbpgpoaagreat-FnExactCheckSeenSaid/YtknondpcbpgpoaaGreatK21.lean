/- A part of the proof: HI8, B1. -/
import Derived.Test.YtknondpcbpgpoaaGreatK20
set_option linter.unusedVariables false
set_option linter.unusedSimpArgs false
section
set_option maxHeartbeats 2000000
namespace Go.TM.Tryz
open Go Go.TM Go.Proofs
section
variable {H : Type} {enc : TypeId × Value → H} {W : World}
theorem rd_Fld : Rd Tryz.prog W enc 235 Fld.v Fld.lim := fun fuel cs x h => by
  obtain ⟨hl, n, hf⟩ := rd_cells Tryz.underlying235 (by kernel_rfl) h
  match cs, hl with
  | [c0, c1, c2], _ =>
    obtain ⟨d0, y0, e0, h0⟩ := hf 0 _ rfl
    simp only [gcz, gcs, Option.some.injEq] at e0
    subst e0
    obtain ⟨a0, p0, q0⟩ := (rd_str Tryz.underlying9) _ _ _ h0
    obtain ⟨d1, y1, e1, h1⟩ := hf 1 _ rfl
    simp only [gcz, gcs, Option.some.injEq] at e1
    subst e1
    obtain ⟨a1, p1, q1⟩ := (rd_int Tryz.underlying3) _ _ _ h1
    obtain ⟨d2, y2, e2, h2⟩ := hf 2 _ rfl
    simp only [gcz, gcs, Option.some.injEq] at e2
    subst e2
    obtain ⟨a2, p2, q2⟩ := (rd_int Tryz.underlying3) _ _ _ h2
    exact ⟨⟨a0, a1, a2⟩, p0, q0.1, q1.1, q2.1, trivial⟩
theorem rd_Par : Rd Tryz.prog W enc 237 Par.v Par.lim := fun fuel cs x h => by
  obtain ⟨hl, n, hf⟩ := rd_cells Tryz.underlying237 (by kernel_rfl) h
  match cs, hl with
  | [c0, c1, c2], _ =>
    obtain ⟨d0, y0, e0, h0⟩ := hf 0 _ rfl
    simp only [gcz, gcs, Option.some.injEq] at e0
    subst e0
    obtain ⟨a0, p0, q0⟩ := (rd_str Tryz.underlying9) _ _ _ h0
    obtain ⟨d1, y1, e1, h1⟩ := hf 1 _ rfl
    simp only [gcz, gcs, Option.some.injEq] at e1
    subst e1
    obtain ⟨a1, p1, q1⟩ := (rd_bool Tryz.underlying4) _ _ _ h1
    obtain ⟨d2, y2, e2, h2⟩ := hf 2 _ rfl
    simp only [gcz, gcs, Option.some.injEq] at e2
    subst e2
    obtain ⟨a2, p2, q2⟩ := (rd_int Tryz.underlying3) _ _ _ h2
    exact ⟨⟨a0, a1, a2⟩, p0, q0.1, q1.1, q2.1, trivial⟩
theorem rd_Ty : Rd Tryz.prog W enc 141 Ty.v Ty.lim := fun fuel cs x h => by
  obtain ⟨hl, n, hf⟩ := rd_cells Tryz.underlying141 (by kernel_rfl) h
  match cs, hl with
  | [c0, c1, c2, c3, c4, c5], _ =>
    obtain ⟨d0, y0, e0, h0⟩ := hf 0 _ rfl
    simp only [gcz, gcs, Option.some.injEq] at e0
    subst e0
    obtain ⟨a0, p0, q0⟩ := (rd_int Tryz.underlying3) _ _ _ h0
    obtain ⟨d1, y1, e1, h1⟩ := hf 1 _ rfl
    simp only [gcz, gcs, Option.some.injEq] at e1
    subst e1
    obtain ⟨a1, p1, q1⟩ := (rd_int Tryz.underlying3) _ _ _ h1
    obtain ⟨d2, y2, e2, h2⟩ := hf 2 _ rfl
    simp only [gcz, gcs, Option.some.injEq] at e2
    subst e2
    obtain ⟨a2, p2, q2⟩ := (rd_int Tryz.underlying3) _ _ _ h2
    obtain ⟨d3, y3, e3, h3⟩ := hf 3 _ rfl
    simp only [gcz, gcs, Option.some.injEq] at e3
    subst e3
    obtain ⟨a3, p3, q3⟩ := (rd_slice Tryz.underlying139 (n := 3) (by kernel_rfl) (by omega) (fun _ => rfl) rd_Fld) _ _ _ h3
    obtain ⟨d4, y4, e4, h4⟩ := hf 4 _ rfl
    simp only [gcz, gcs, Option.some.injEq] at e4
    subst e4
    obtain ⟨a4, p4, q4⟩ := (rd_str Tryz.underlying9) _ _ _ h4
    obtain ⟨d5, y5, e5, h5⟩ := hf 5 _ rfl
    simp only [gcz, gcs, Option.some.injEq] at e5
    subst e5
    obtain ⟨a5, p5, q5⟩ := (rd_str Tryz.underlying9) _ _ _ h5
    exact ⟨⟨a0, a1, a2, a3, a4, a5⟩, ⟨p3, p4, p5⟩, q0.1, q1.1, q2.1, q3.1, q4.1, q5.1, trivial⟩
theorem rd_Obj : Rd Tryz.prog W enc 145 Obj.v Obj.lim := fun fuel cs x h => by
  obtain ⟨hl, n, hf⟩ := rd_cells Tryz.underlying145 (by kernel_rfl) h
  match cs, hl with
  | [c0, c1, c2, c3, c4, c5], _ =>
    obtain ⟨d0, y0, e0, h0⟩ := hf 0 _ rfl
    simp only [gcz, gcs, Option.some.injEq] at e0
    subst e0
    obtain ⟨a0, p0, q0⟩ := (rd_str Tryz.underlying9) _ _ _ h0
    obtain ⟨d1, y1, e1, h1⟩ := hf 1 _ rfl
    simp only [gcz, gcs, Option.some.injEq] at e1
    subst e1
    obtain ⟨a1, p1, q1⟩ := (rd_int Tryz.underlying3) _ _ _ h1
    obtain ⟨d2, y2, e2, h2⟩ := hf 2 _ rfl
    simp only [gcz, gcs, Option.some.injEq] at e2
    subst e2
    obtain ⟨a2, p2, q2⟩ := (rd_int Tryz.underlying3) _ _ _ h2
    obtain ⟨d3, y3, e3, h3⟩ := hf 3 _ rfl
    simp only [gcz, gcs, Option.some.injEq] at e3
    subst e3
    obtain ⟨a3, p3, q3⟩ := (rd_int Tryz.underlying3) _ _ _ h3
    obtain ⟨d4, y4, e4, h4⟩ := hf 4 _ rfl
    simp only [gcz, gcs, Option.some.injEq] at e4
    subst e4
    obtain ⟨a4, p4, q4⟩ := (rd_int Tryz.underlying3) _ _ _ h4
    obtain ⟨d5, y5, e5, h5⟩ := hf 5 _ rfl
    simp only [gcz, gcs, Option.some.injEq] at e5
    subst e5
    obtain ⟨a5, p5, q5⟩ := (rd_slice Tryz.underlying143 (n := 3) (by kernel_rfl) (by omega) (fun _ => rfl) rd_Par) _ _ _ h5
    exact ⟨⟨a0, a1, a2, a3, a4, a5⟩, ⟨p0, p5⟩, q0.1, q1.1, q2.1, q3.1, q4.1, q5.1, trivial⟩
theorem rd_Use : Rd Tryz.prog W enc 147 Use.v Use.lim := fun fuel cs x h => by
  obtain ⟨hl, n, hf⟩ := rd_cells Tryz.underlying147 (by kernel_rfl) h
  match cs, hl with
  | [c0, c1], _ =>
    obtain ⟨d0, y0, e0, h0⟩ := hf 0 _ rfl
    simp only [gcz, gcs, Option.some.injEq] at e0
    subst e0
    obtain ⟨a0, p0, q0⟩ := (rd_str Tryz.underlying9) _ _ _ h0
    obtain ⟨d1, y1, e1, h1⟩ := hf 1 _ rfl
    simp only [gcz, gcs, Option.some.injEq] at e1
    subst e1
    obtain ⟨a1, p1, q1⟩ := (rd_str Tryz.underlying9) _ _ _ h1
    exact ⟨⟨a0, a1⟩, ⟨p0, p1⟩, q0.1, q1.1, trivial⟩
theorem rd_Scp : Rd Tryz.prog W enc 27 Scp.v Scp.lim := fun fuel cs x h => by
  obtain ⟨hl, n, hf⟩ := rd_cells Tryz.underlying27 (by kernel_rfl) h
  match cs, hl with
  | [c0, c1, c2, c3, c4], _ =>
    obtain ⟨d0, y0, e0, h0⟩ := hf 0 _ rfl
    simp only [gcz, gcs, Option.some.injEq] at e0
    subst e0
    obtain ⟨a0, p0, q0⟩ := (rd_str Tryz.underlying9) _ _ _ h0
    obtain ⟨d1, y1, e1, h1⟩ := hf 1 _ rfl
    simp only [gcz, gcs, Option.some.injEq] at e1
    subst e1
    obtain ⟨a1, p1, q1⟩ := (rd_slice Tryz.underlying22 (n := 1) (by kernel_rfl) (by omega) (fun _ => rfl) (rd_str Tryz.underlying9)) _ _ _ h1
    obtain ⟨d2, y2, e2, h2⟩ := hf 2 _ rfl
    simp only [gcz, gcs, Option.some.injEq] at e2
    subst e2
    obtain ⟨a2, p2, q2⟩ := (rd_slice Tryz.underlying23 (n := 6) (by kernel_rfl) (by omega) (fun _ => rfl) rd_Ty) _ _ _ h2
    obtain ⟨d3, y3, e3, h3⟩ := hf 3 _ rfl
    simp only [gcz, gcs, Option.some.injEq] at e3
    subst e3
    obtain ⟨a3, p3, q3⟩ := (rd_slice Tryz.underlying24 (n := 6) (by kernel_rfl) (by omega) (fun _ => rfl) rd_Obj) _ _ _ h3
    obtain ⟨d4, y4, e4, h4⟩ := hf 4 _ rfl
    simp only [gcz, gcs, Option.some.injEq] at e4
    subst e4
    obtain ⟨a4, p4, q4⟩ := (rd_slice Tryz.underlying25 (n := 2) (by kernel_rfl) (by omega) (fun _ => rfl) rd_Use) _ _ _ h4
    exact ⟨⟨a0, a1, a2, a3, a4⟩, ⟨p0, p1, p2, p3, p4⟩, q0.1, q1.1, q2.1, q3.1, q4.1, trivial⟩
theorem rd_Knw : Rd Tryz.prog W enc 129 Knw.v Knw.lim := fun fuel cs x h => by
  obtain ⟨hl, n, hf⟩ := rd_cells Tryz.underlying129 (by kernel_rfl) h
  match cs, hl with
  | [c0, c1, c2], _ =>
    obtain ⟨d0, y0, e0, h0⟩ := hf 0 _ rfl
    simp only [gcz, gcs, Option.some.injEq] at e0
    subst e0
    obtain ⟨a0, p0, q0⟩ := (rd_str Tryz.underlying9) _ _ _ h0
    obtain ⟨d1, y1, e1, h1⟩ := hf 1 _ rfl
    simp only [gcz, gcs, Option.some.injEq] at e1
    subst e1
    obtain ⟨a1, p1, q1⟩ := (rd_str Tryz.underlying9) _ _ _ h1
    obtain ⟨d2, y2, e2, h2⟩ := hf 2 _ rfl
    simp only [gcz, gcs, Option.some.injEq] at e2
    subst e2
    obtain ⟨a2, p2, q2⟩ := (rd_int Tryz.underlying3) _ _ _ h2
    exact ⟨⟨a0, a1, a2⟩, ⟨p0, p1⟩, q0.1, q1.1, q2.1, trivial⟩
end
end Go.TM.Tryz
end
section
namespace Go.TM
open Go Go.RowKit
def mem1 (W : World) : Mem := ⟨Old W, fun _ => none, fun _ => 0, fun _ => undef, fun _ _ _ => undef, 0, 0⟩
theorem mem1_ok {W : World} {args : List V} (h : adCs args S.zero = (args, S.zero)) : MemOK (mem1 W) W (start args []) := by
  have hR : (start args []).R = fun _ => none := by simp only [start, h]; rfl
  have hB : (start args []).B = fun _ => none := by
    funext x
    simp [start, h, adCs]
  refine ⟨by simp only [start, h]; rfl, by simp only [start, h]; rfl, fun b c hb => ?_, fun t r hr => ?_, fun b hb => ⟨rfl, hb⟩, fun b l hl => (by cases hl), fun b t hl => (by cases hl), fun b k hl => (by cases hl)⟩
  · rw [hB] at hb; cases hb
  · rw [hR] at hr; cases hr
theorem close_bool {M : Mem} {W : World} {s : S} {k : Nat} {sv : V} {v : Value} {b : Bool} (hr : SR2 M W sv v) (hc : closeR s k sv = .bool b) : v = .bool b := by
  cases sv with
  | bool c =>
    simp [closeR, closeB, onL1, closeL] at hc
    subst hc
    exact hr
  | tup xs => simp [closeR] at hc
  | agg xs => simp [closeR, closeB, onL1] at hc
  | ptr b' o =>
    cases o with
    | zero =>
      simp only [closeR, closeB] at hc
      split at hc
      · split at hc <;> cases hc
      · cases hc
    | succ o => simp [closeR, closeB, onL1, closeL] at hc
  | own t =>
    simp only [closeR, closeB, onL1, closeL] at hc
    split at hc <;> cases hc
  | fn f caps => cases caps <;> simp [closeR, closeB, onL1, closeL] at hc
  | _ => simp [closeR, closeB, onL1, closeL] at hc
theorem run_true {P : Program} {f : FuncId} {args : List V} (h : FunOK P f args false (.bool true)) (hs : adCs args S.zero = (args, S.zero)) {W : World} {vs : List Value} (hv : All2 (SR1 (mem1 W) W) args vs) :
    Calls P f vs.toArray W fun e W' => e = .returned (.bool true) ∧ Below W.heap.size W W' := by
  refine (h.calls (mem1 W) W vs (mem1_ok hs) (by rw [hs]; exact hv)).mono ?_
  rintro e W' ⟨v, M', s', sv, rfl, hp⟩
  rw [close_bool hp.rel hp.res]
  exact ⟨rfl, hp.evo.os, hp.evo.tape, hp.evo.output, hp.evo.size, fun k hk => hp.evo.old k hk rfl⟩
end Go.TM
end
