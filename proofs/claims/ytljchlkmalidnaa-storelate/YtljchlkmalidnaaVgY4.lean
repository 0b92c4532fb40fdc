/- A part of the proof of StoreLate: contracts of functions, with plain laws that they need. -/
import Derived.Test.YtljchlkmalidnaaVgY3
set_option linter.all false
set_option linter.unusedVariables false
set_option linter.unusedSimpArgs false
set_option maxHeartbeats 8000000
namespace Go.Proofs.Try
open Go.Vg

theorem chk2E_zero {ks : List St} {ls : List Ln} {plan : List Int} (h : chk2E ks ls plan = 0) : SV ks ls ∧ plan.length = ls.length ∧ ∀ i, i < ls.length → plB ks ls plan i = true := by
  unfold chk2E at h
  split at h
  · rename_i h1
    split at h
    · rename_i h2
      simp only [planB, Bool.and_eq_true, decide_eq_true_eq, List.all_eq_true, List.mem_range] at h2
      exact ⟨checkB_ok h1, h2.1, fun i hi => h2.2 i (by omega)⟩
    · cases h
  · cases h
end Go.Proofs.Try
