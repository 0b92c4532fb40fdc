/- A part of the proof of PuzzlesThrough: contracts of functions, with plain laws that they need. -/
import Derived.WalkKit
set_option linter.all false
namespace Go.Vg
/-- the block of a package variable of the library's that holds some int, if a seat has one that matters -/
def GB : Option Nat := none
end Go.Vg
