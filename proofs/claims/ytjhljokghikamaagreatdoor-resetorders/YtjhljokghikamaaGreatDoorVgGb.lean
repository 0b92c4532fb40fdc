/- A part of the proof of ResetOrders: contracts of functions, with plain laws that they need. -/
import Derived.WalkKit
set_option linter.all false
namespace Go.Vg
def GB : Option Nat := none
def rsvd : List ByteArray := [⟨#[97, 116]⟩, ⟨#[115, 116, 97, 116, 101, 115]⟩, ⟨#[115, 116, 97, 114, 116]⟩, ⟨#[103, 111, 110, 101]⟩, ⟨#[105, 102]⟩, ⟨#[108, 111, 99, 107]⟩, ⟨#[119, 105, 116, 104]⟩, ⟨#[115, 101, 116, 115]⟩, ⟨#[115, 112, 101, 110, 100, 115]⟩, ⟨#[98, 114, 105, 110, 103, 115]⟩]
def GR : Option (Nat × List ByteArray) := some (1, rsvd)
def pow10V : List Value := (List.range 20).map fun i => .int .u64 ((10 ^ i : Nat) : Int)
def GV : Option (Nat × List Value) := some (0, pow10V)
end Go.Vg
