/- The abstract machine, part Ap: append to a nil slice as memory in an entry that stands already. -/
import Derived.Test.YtlcekedcjdamoaaVgVe
import Derived.Test.YtlcekedcjdamoaaVgFr
set_option linter.all false
set_option linter.unusedVariables false
namespace Go.Vg
open Go.RowKit
variable {P : Program} {gds : List (Option Nat)} {l : List Oper} {Q : S → Prop} {s : S}
end Go.Vg
