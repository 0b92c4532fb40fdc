/- A part of the proof of StoreLends: contracts of functions, with plain laws that they need. -/
import Derived.Test.YtljchlkmalidnaaVgEd
import Derived.Test.YtljchlkmalidnaaVgT
set_option linter.all false
set_option linter.unusedVariables false
namespace Go.Proofs.Try
open Go.Vg
theorem named : Named Try.prog 130 := namedB_ok (by kernel_rfl)
theorem works_run : xF Try.prog 130 (xC Try.prog 130 100000) 16 [] [] = some (.bool true, []) := by kernel_rfl
theorem works_pure : Pure Try.prog 16 [] (.bool true) := xF_spec named mixed works_run
end Go.Proofs.Try
