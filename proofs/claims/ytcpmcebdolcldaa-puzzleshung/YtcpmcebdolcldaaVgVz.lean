/- The abstract machine, part Vz: what a function hands back as new memory, taken as frozen. -/
import Derived.Test.YtcpmcebdolcldaaVgVw
import Derived.Test.YtcpmcebdolcldaaVgEd
set_option linter.all false
set_option linter.unusedVariables false
namespace Go.Vg
open Go.RowKit
variable {P : Program} {X : Nat → Prop} {w : World} {ρ : Rho}
end Go.Vg
