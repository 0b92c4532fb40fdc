/- The abstract machine, part Nm: nil slices in structs that are built; appending to an empty slice. -/
import Derived.Test.YtlcekedcjdamoaaVgNl
set_option linter.all false
set_option linter.unusedVariables false
set_option linter.unusedSimpArgs false
namespace Go.Vg
open Go.RowKit
variable {P : Program} {gds : List (Option Nat)} {l : List Oper} {Q : S → Prop} {s : S}

end Go.Vg
