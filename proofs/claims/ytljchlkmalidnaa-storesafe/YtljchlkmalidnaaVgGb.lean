/- A part of the proof of StoreSafe: contracts of functions, with plain laws that they need. -/
import Derived.WalkKit
set_option linter.all false
namespace Go.Vg
/-- the block of a package variable of the library's that holds some int, if a seat has one that matters -/
def GB : Option Nat := none
/-- the block of a package variable that holds a list of texts, and these, if a seat has one that matters -/
def GR : Option (Nat × List ByteArray) := none
/-- the block of a package variable whose cells are known, if a seat has one that matters -/
def GV : Option (Nat × List Value) := none
end Go.Vg
