/- A part of the proof: JA. -/
import Derived.Test.YtknondpcbpgpoaaGreatK10
set_option linter.unusedVariables false
set_option linter.unusedSimpArgs false
section
set_option maxHeartbeats 8000000
set_option maxRecDepth 20000
namespace Go.TM.Tryz
open Go Go.TM Go.Proofs
theorem roomTy {n : Nat} (h : n ≤ 1048576) : room ⟨6, true, 80, .agg [.int .i64 0, .int .i64 0, .int .i64 0, .inl 3 [], .str ⟨#[]⟩, .str ⟨#[]⟩]⟩ n := by simp [room]; omega
theorem roomOb {n : Nat} (h : n ≤ 1048576) : room ⟨6, true, 72, .agg [.str ⟨#[]⟩, .int .i64 0, .int .i64 0, .int .i64 0, .int .i64 0, .inl 3 []]⟩ n := by simp [room]; omega
theorem roomFd {n : Nat} (h : n ≤ 1048576) : room ⟨3, true, 32, .agg [.str ⟨#[]⟩, .int .i64 0, .int .i64 0]⟩ n := by simp [room]; omega
theorem vwE_str : (vwE ∘ V.str) = V.str := funext fun _ => rfl
structure TysLen (ts : List Ty) : Prop where
  len : ts.length ≤ 1048576
  fs : ∀ t ∈ ts, t.fields.length ≤ 1048576
end Go.TM.Tryz
end
