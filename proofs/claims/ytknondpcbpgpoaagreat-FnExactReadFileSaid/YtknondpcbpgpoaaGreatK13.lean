/- A part of the proof: YA. -/
import Derived.Test.YtknondpcbpgpoaaGreatK12
set_option linter.unusedVariables false
set_option linter.unusedSimpArgs false
section
set_option maxHeartbeats 4000000
set_option maxRecDepth 10000
namespace Go.TM.Tryz
open Go Go.TM Go.Proofs
theorem f141_ok : FunOK Tryz.prog 141 [] false (.inl 6 (baseTys.map Ty.o)) := by
  refine fun_ok (mkE_ok zmix (cl := []) (gl := []) [] trivial trivial) Tryz.func141 (by kernel_rfl) ?_
  refine FunW_run _ _ rfl rfl ?_
  simp [baseTys]
  rfl
noncomputable def c141 := ctr (fun _ : Unit => True) (fun _ => []) (fun _ => (false, .inl 6 (baseTys.map Ty.o)))
theorem c141_eq : c141 [] = some (false, .inl 6 (baseTys.map Ty.o)) := ctr_eq (by simp) () trivial rfl
theorem c141_ok : COK Tryz.prog (141, c141) := ctr_ok fun _ _ => f141_ok
def baseAt (l : List Ty) (k : Nat) (x : Ty) : Bool := (l[k]?).any fun y => decide (y.kind = x.kind) && decide (y.long = 0) && decide (y.base = -1) && decide (y.fields = []) && decide (y.owner = ⟨#[]⟩) && decide (y.name = x.name)
theorem baseAt_no {l : List Ty} {k : Nat} {x y : Ty} (hy : l[k]? = some y) : baseAt l k x = false ↔ (((((¬y.kind = x.kind ∨ ¬y.long = 0) ∨ ¬y.base = -1) ∨ 0 < y.fields.length) ∨ ¬y.owner = ⟨#[]⟩) ∨ ¬y.name = x.name) := by
  have e : 0 < y.fields.length ↔ ¬ y.fields = [] := by cases y.fields <;> simp
  rw [e]
  simp only [baseAt, hy, Option.any_some]
  grind
def baseB (l : List Ty) : Bool := decide (3 ≤ l.length) && allI (baseAt l) baseTys baseTys.length
theorem f210_ok (l : List Ty) (hl : l.length ≤ lim) : FunOK Tryz.prog 210 [.lst (l.map Ty.v)] false (.bool (baseB l)) := by
  refine fun_ok (mkE_ok zmix (cl := [(141, c141)]) (gl := []) [] c141_ok trivial) Tryz.func210 (by kernel_rfl) ?_
  refine FunW_run _ _ rfl rfl ?_
  simp only [lim] at hl
  by_cases h3 : ¬ 3 ≤ l.length
  · have h3' : (l.length : Int) < 3 := by omega
    simp [c141_eq, baseB, h3, h3']
  have h3' : ¬ (l.length : Int) < 3 := by omega
  have h3 : 3 ≤ l.length := by omega
  simp [c141_eq, h3, h3']
  refine lp_list baseTys (fun i t => t.e 0 = .lst (l.map Ty.v) ∧ t.e 10 = .int .i64 3 ∧ t.e 11 = .int .i64 i ∧ hasR t (t.e 9) 6 (baseTys.map Ty.o) ∧ allI (baseAt l) baseTys i = true) ?_ ?_ ?_
  · simp
  · rintro c' L hL i t x hx hi ih ⟨h0, h10, h11, ⟨r, h9, hlt, hR⟩, hall⟩
    have hi3 : i < 3 := by simpa using hi
    have hw := wrI (i := i) (by omega)
    have hil : i < l.length := by omega
    have hy := List.getElem?_eq_getElem hil
    have hi3' : (i : Int) < 3 := by omega
    have n1 : ¬ r = t.nt := by omega
    have n2 : ¬ r = t.nt + 1 := by omega
    generalize l[i] = y at hy
    simp [-getElem?_pos, gcz, gcs, h0, h10, h11, h9, hR, hL, hi, hi3, hil, hx, hy, n1, n2]
    rw [if_pos hi3']
    refine ⟨hi3', ?_⟩
    split
    · rename_i hc
      have hno : baseAt l i x = false := (baseAt_no hy).2 hc
      have := allI_no hx hno
      rw [baseTys_length] at this
      simp [baseB, this]
    · rename_i hc
      have hyes : baseAt l i x = true := by rw [← Bool.not_eq_false, baseAt_no hy]; exact hc
      refine ih _ ?_
      simp [h0, h10, h11, h9, hR, hw, allI_succ hx, hall, hyes, n1, n2]
      omega
  · rintro c' t ⟨h0, h10, h11, ⟨r, h9, hlt, hR⟩, hall⟩
    rw [baseTys_length] at h11
    simp [h0, h10, h11, h9, hR, baseB, h3]
    exact hall
noncomputable def c210 := ctr (fun l : List Ty => l.length ≤ lim) (fun l => [.lst (l.map Ty.v)]) (fun l => (false, .bool (baseB l)))
theorem c210_eq (l : List Ty) (h : l.length ≤ lim) : c210 [.lst (l.map Ty.v)] = some (false, .bool (baseB l)) := ctr_eq (injl Ty.v_inj _) l h rfl
theorem c210_ok : COK Tryz.prog (210, c210) := ctr_ok fun l h => f210_ok l h
end Go.TM.Tryz
end
