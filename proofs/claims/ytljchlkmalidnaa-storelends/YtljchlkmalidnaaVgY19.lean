/- A part of the proof of StoreLends: contracts of functions, with plain laws that they need. -/
import Derived.Test.YtljchlkmalidnaaVgY4
set_option linter.all false
set_option linter.unusedVariables false
set_option linter.unusedSimpArgs false
set_option maxHeartbeats 8000000
namespace Go.Proofs.Try
open Go.Vg

/-! the loans that are disturbed -/
end Go.Proofs.Try
