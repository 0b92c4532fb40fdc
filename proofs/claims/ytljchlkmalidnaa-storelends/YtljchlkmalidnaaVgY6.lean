/- A part of the proof of StoreLends: contracts of functions, with plain laws that they need. -/
import Derived.Test.YtljchlkmalidnaaVgY4
import Derived.Test.YtljchlkmalidnaaVgYL
set_option linter.all false
set_option linter.unusedVariables false
set_option linter.unusedSimpArgs false
set_option maxHeartbeats 8000000
namespace Go.Proofs.Try
open Go.Vg

structure PV (ks : List St) (ls : List Ln) (plan : List Int) : Prop where
  sv : SV ks ls
  len : plan.length = ls.length
  pl : ∀ i, i < ls.length → -1 ≤ plan.getD i 0 ∧ plan.getD i 0 ≤ (ks.getD (ls.getD i ln0).kind.toNat st0).items - 1
theorem chk2E_pv {ks : List St} {ls : List Ln} {plan : List Int} (h : chk2E ks ls plan = 0) : PV ks ls plan := by
  obtain ⟨h1, h2, h3⟩ := chk2E_zero h
  exact ⟨h1, h2, fun i hi => wi_iff.1 (h3 i hi)⟩
end Go.Proofs.Try
