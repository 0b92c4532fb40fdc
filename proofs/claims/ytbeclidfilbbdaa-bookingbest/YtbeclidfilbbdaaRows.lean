/-
  No cell of these rows narrows 'for every input' (looked for: loops, veiled, ifaces, maps, wideKeys, modest, calm, conditions, laid).
  DERIVED. THE GIVEN ROWS OF THIS SEAT. 14 by the template 'for every input the law returns true; each argument reads behind the call as it read before'; 0 by the template 'total and deterministic' (their statements: YtbeclidfilbbdaaTotals.lean).
  GIVEN WITH THE SEED: the statements are not yours to turn. If you find one false, say at which input.
  Laid BY PROGRAM, IN A SANDBOX (cutbox-rows.mjs): the forced cells as the released guide's own fill.sh prints them over the translation 664e6fa3507e9c56… (all of the seat's roots in one cut). By AI agents, Wed Nov 11 2026. No macro, syntax, notation, axiom, sorry.
-/
import Derived.Test.YtbeclidfilbbdaaChecked
import GoSem.Claim
import GoSem.ClaimJoined
import GoSem.ClaimMapViews
import Derived.JoinedTies
import Derived.KernelRfl
namespace Go.Proofs.Ytbeclidfilbbdaa
/- THE CELL 'sum', in the pinned program and in every row, IS THE sha256 OF THE DUMP (.gsa) THAT YtbeclidfilbbdaaProg.lean LOADS. Nothing in Lean hashes anything: it is a label: what it is worth is what the hold of that sum in a sandbox is worth. -/
noncomputable def Try.pinned : Pinned := { name := "ytbeclidfilbbdaa", sum := "664e6fa3507e9c56b366c22f3937fcebcfdd3eb1f057073ec7429f6fdd4f317c", checked := Try.checked }
namespace Rows
def none {H : Type} : Left H := { results := [], args := [] }

/-- 'padlocklaw11.BookingAdds': WHATEVER THE INPUT: true; the input reads as it did. -/
def bookingAddsSpec : ChangeSpec := { name := "bookingAdds", fn := fun _ => fun
  | [d1, d2, d3] => { results := [.lit (.bool true)], args := [d1, d2, d3] }
  | _ => none }
def bookingAddsRow : OpenClaim := { program := "ytbeclidfilbbdaa", sum := "664e6fa3507e9c56b366c22f3937fcebcfdd3eb1f057073ec7429f6fdd4f317c", func := "padlock/padlocklaw11.BookingAdds", spec := "bookingAdds", unfollowed := true, recurses := true, plainKeys := false, apart := false }
def BookingAddsSaid : Prop := bookingAddsRow.holds Try.pinned (OpenSpec.ofChange bookingAddsSpec)

/-- ITS FALSE NEIGHBOUR: 'it returns false'. Refute it at one input. -/
def bookingAddsWrong : ChangeSpec := { name := "bookingAdds", fn := fun _ => fun
  | [d1, d2, d3] => { results := [.lit (.bool false)], args := [d1, d2, d3] }
  | _ => none }
def BookingAddsWrongFalsely : Prop := bookingAddsRow.holds Try.pinned (OpenSpec.ofChange bookingAddsWrong)

/-- 'padlocklaw11.BookingSoonest': WHATEVER THE INPUT: true; the input reads as it did. -/
def bookingSoonestSpec : ChangeSpec := { name := "bookingSoonest", fn := fun _ => fun
  | [d1, d2, d3] => { results := [.lit (.bool true)], args := [d1, d2, d3] }
  | _ => none }
def bookingSoonestRow : OpenClaim := { program := "ytbeclidfilbbdaa", sum := "664e6fa3507e9c56b366c22f3937fcebcfdd3eb1f057073ec7429f6fdd4f317c", func := "padlock/padlocklaw11.BookingSoonest", spec := "bookingSoonest", unfollowed := true, recurses := true, plainKeys := false, apart := false }
def BookingSoonestSaid : Prop := bookingSoonestRow.holds Try.pinned (OpenSpec.ofChange bookingSoonestSpec)

/-- ITS FALSE NEIGHBOUR: 'it returns false'. Refute it at one input. -/
def bookingSoonestWrong : ChangeSpec := { name := "bookingSoonest", fn := fun _ => fun
  | [d1, d2, d3] => { results := [.lit (.bool false)], args := [d1, d2, d3] }
  | _ => none }
def BookingSoonestWrongFalsely : Prop := bookingSoonestRow.holds Try.pinned (OpenSpec.ofChange bookingSoonestWrong)

/-- 'padlocklaw11.BookingFirst': WHATEVER THE INPUT: true; the input reads as it did. -/
def bookingFirstSpec : ChangeSpec := { name := "bookingFirst", fn := fun _ => fun
  | [d1, d2, d3] => { results := [.lit (.bool true)], args := [d1, d2, d3] }
  | _ => none }
def bookingFirstRow : OpenClaim := { program := "ytbeclidfilbbdaa", sum := "664e6fa3507e9c56b366c22f3937fcebcfdd3eb1f057073ec7429f6fdd4f317c", func := "padlock/padlocklaw11.BookingFirst", spec := "bookingFirst", unfollowed := true, recurses := true, plainKeys := false, apart := false }
def BookingFirstSaid : Prop := bookingFirstRow.holds Try.pinned (OpenSpec.ofChange bookingFirstSpec)

/-- ITS FALSE NEIGHBOUR: 'it returns false'. Refute it at one input. -/
def bookingFirstWrong : ChangeSpec := { name := "bookingFirst", fn := fun _ => fun
  | [d1, d2, d3] => { results := [.lit (.bool false)], args := [d1, d2, d3] }
  | _ => none }
def BookingFirstWrongFalsely : Prop := bookingFirstRow.holds Try.pinned (OpenSpec.ofChange bookingFirstWrong)

/-- 'padlocklaw11.BookingDuels': WHATEVER THE INPUT: true; the input reads as it did. -/
def bookingDuelsSpec : ChangeSpec := { name := "bookingDuels", fn := fun _ => fun
  | [d1, d2, d3] => { results := [.lit (.bool true)], args := [d1, d2, d3] }
  | _ => none }
def bookingDuelsRow : OpenClaim := { program := "ytbeclidfilbbdaa", sum := "664e6fa3507e9c56b366c22f3937fcebcfdd3eb1f057073ec7429f6fdd4f317c", func := "padlock/padlocklaw11.BookingDuels", spec := "bookingDuels", unfollowed := true, recurses := true, plainKeys := false, apart := false }
def BookingDuelsSaid : Prop := bookingDuelsRow.holds Try.pinned (OpenSpec.ofChange bookingDuelsSpec)

/-- ITS FALSE NEIGHBOUR: 'it returns false'. Refute it at one input. -/
def bookingDuelsWrong : ChangeSpec := { name := "bookingDuels", fn := fun _ => fun
  | [d1, d2, d3] => { results := [.lit (.bool false)], args := [d1, d2, d3] }
  | _ => none }
def BookingDuelsWrongFalsely : Prop := bookingDuelsRow.holds Try.pinned (OpenSpec.ofChange bookingDuelsWrong)

/-- 'padlocklaw11.BookingAlone': WHATEVER THE INPUT: true; the input reads as it did. -/
def bookingAloneSpec : ChangeSpec := { name := "bookingAlone", fn := fun _ => fun
  | [d1, d2, d3] => { results := [.lit (.bool true)], args := [d1, d2, d3] }
  | _ => none }
def bookingAloneRow : OpenClaim := { program := "ytbeclidfilbbdaa", sum := "664e6fa3507e9c56b366c22f3937fcebcfdd3eb1f057073ec7429f6fdd4f317c", func := "padlock/padlocklaw11.BookingAlone", spec := "bookingAlone", unfollowed := true, recurses := true, plainKeys := false, apart := false }
def BookingAloneSaid : Prop := bookingAloneRow.holds Try.pinned (OpenSpec.ofChange bookingAloneSpec)

/-- ITS FALSE NEIGHBOUR: 'it returns false'. Refute it at one input. -/
def bookingAloneWrong : ChangeSpec := { name := "bookingAlone", fn := fun _ => fun
  | [d1, d2, d3] => { results := [.lit (.bool false)], args := [d1, d2, d3] }
  | _ => none }
def BookingAloneWrongFalsely : Prop := bookingAloneRow.holds Try.pinned (OpenSpec.ofChange bookingAloneWrong)

/-- 'padlocklaw11.BookingStaffs': WHATEVER THE INPUT: true; the input reads as it did. -/
def bookingStaffsSpec : ChangeSpec := { name := "bookingStaffs", fn := fun _ => fun
  | [d1, d2, d3] => { results := [.lit (.bool true)], args := [d1, d2, d3] }
  | _ => none }
def bookingStaffsRow : OpenClaim := { program := "ytbeclidfilbbdaa", sum := "664e6fa3507e9c56b366c22f3937fcebcfdd3eb1f057073ec7429f6fdd4f317c", func := "padlock/padlocklaw11.BookingStaffs", spec := "bookingStaffs", unfollowed := true, recurses := true, plainKeys := false, apart := false }
def BookingStaffsSaid : Prop := bookingStaffsRow.holds Try.pinned (OpenSpec.ofChange bookingStaffsSpec)

/-- ITS FALSE NEIGHBOUR: 'it returns false'. Refute it at one input. -/
def bookingStaffsWrong : ChangeSpec := { name := "bookingStaffs", fn := fun _ => fun
  | [d1, d2, d3] => { results := [.lit (.bool false)], args := [d1, d2, d3] }
  | _ => none }
def BookingStaffsWrongFalsely : Prop := bookingStaffsRow.holds Try.pinned (OpenSpec.ofChange bookingStaffsWrong)

/-- 'padlocklaw11.BookingRanks': WHATEVER THE INPUT: true; the input reads as it did. -/
def bookingRanksSpec : ChangeSpec := { name := "bookingRanks", fn := fun _ => fun
  | [d1, d2, d3] => { results := [.lit (.bool true)], args := [d1, d2, d3] }
  | _ => none }
def bookingRanksRow : OpenClaim := { program := "ytbeclidfilbbdaa", sum := "664e6fa3507e9c56b366c22f3937fcebcfdd3eb1f057073ec7429f6fdd4f317c", func := "padlock/padlocklaw11.BookingRanks", spec := "bookingRanks", unfollowed := true, recurses := true, plainKeys := false, apart := false }
def BookingRanksSaid : Prop := bookingRanksRow.holds Try.pinned (OpenSpec.ofChange bookingRanksSpec)

/-- ITS FALSE NEIGHBOUR: 'it returns false'. Refute it at one input. -/
def bookingRanksWrong : ChangeSpec := { name := "bookingRanks", fn := fun _ => fun
  | [d1, d2, d3] => { results := [.lit (.bool false)], args := [d1, d2, d3] }
  | _ => none }
def BookingRanksWrongFalsely : Prop := bookingRanksRow.holds Try.pinned (OpenSpec.ofChange bookingRanksWrong)

/-- 'padlocklaw11.BookingPlaces': WHATEVER THE INPUT: true; the input reads as it did. -/
def bookingPlacesSpec : ChangeSpec := { name := "bookingPlaces", fn := fun _ => fun
  | [d1, d2, d3] => { results := [.lit (.bool true)], args := [d1, d2, d3] }
  | _ => none }
def bookingPlacesRow : OpenClaim := { program := "ytbeclidfilbbdaa", sum := "664e6fa3507e9c56b366c22f3937fcebcfdd3eb1f057073ec7429f6fdd4f317c", func := "padlock/padlocklaw11.BookingPlaces", spec := "bookingPlaces", unfollowed := true, recurses := true, plainKeys := false, apart := false }
def BookingPlacesSaid : Prop := bookingPlacesRow.holds Try.pinned (OpenSpec.ofChange bookingPlacesSpec)

/-- ITS FALSE NEIGHBOUR: 'it returns false'. Refute it at one input. -/
def bookingPlacesWrong : ChangeSpec := { name := "bookingPlaces", fn := fun _ => fun
  | [d1, d2, d3] => { results := [.lit (.bool false)], args := [d1, d2, d3] }
  | _ => none }
def BookingPlacesWrongFalsely : Prop := bookingPlacesRow.holds Try.pinned (OpenSpec.ofChange bookingPlacesWrong)

/-- 'padlocklaw11.BookingCancels': WHATEVER THE INPUT: true; the input reads as it did. -/
def bookingCancelsSpec : ChangeSpec := { name := "bookingCancels", fn := fun _ => fun
  | [d1, d2, d3] => { results := [.lit (.bool true)], args := [d1, d2, d3] }
  | _ => none }
def bookingCancelsRow : OpenClaim := { program := "ytbeclidfilbbdaa", sum := "664e6fa3507e9c56b366c22f3937fcebcfdd3eb1f057073ec7429f6fdd4f317c", func := "padlock/padlocklaw11.BookingCancels", spec := "bookingCancels", unfollowed := true, recurses := true, plainKeys := false, apart := false }
def BookingCancelsSaid : Prop := bookingCancelsRow.holds Try.pinned (OpenSpec.ofChange bookingCancelsSpec)

/-- ITS FALSE NEIGHBOUR: 'it returns false'. Refute it at one input. -/
def bookingCancelsWrong : ChangeSpec := { name := "bookingCancels", fn := fun _ => fun
  | [d1, d2, d3] => { results := [.lit (.bool false)], args := [d1, d2, d3] }
  | _ => none }
def BookingCancelsWrongFalsely : Prop := bookingCancelsRow.holds Try.pinned (OpenSpec.ofChange bookingCancelsWrong)

/-- 'padlocklaw11.BookingChecks': WHATEVER THE INPUT: true; the input reads as it did. -/
def bookingChecksSpec : ChangeSpec := { name := "bookingChecks", fn := fun _ => fun
  | [d1, d2] => { results := [.lit (.bool true)], args := [d1, d2] }
  | _ => none }
def bookingChecksRow : OpenClaim := { program := "ytbeclidfilbbdaa", sum := "664e6fa3507e9c56b366c22f3937fcebcfdd3eb1f057073ec7429f6fdd4f317c", func := "padlock/padlocklaw11.BookingChecks", spec := "bookingChecks", unfollowed := true, recurses := true, plainKeys := false, apart := false }
def BookingChecksSaid : Prop := bookingChecksRow.holds Try.pinned (OpenSpec.ofChange bookingChecksSpec)

/-- ITS FALSE NEIGHBOUR: 'it returns false'. Refute it at one input. -/
def bookingChecksWrong : ChangeSpec := { name := "bookingChecks", fn := fun _ => fun
  | [d1, d2] => { results := [.lit (.bool false)], args := [d1, d2] }
  | _ => none }
def BookingChecksWrongFalsely : Prop := bookingChecksRow.holds Try.pinned (OpenSpec.ofChange bookingChecksWrong)

/-- 'padlocklaw11.BookingKeeps': WHATEVER THE INPUT: true; the input reads as it did. -/
def bookingKeepsSpec : ChangeSpec := { name := "bookingKeeps", fn := fun _ => fun
  | [d1, d2, d3] => { results := [.lit (.bool true)], args := [d1, d2, d3] }
  | _ => none }
def bookingKeepsRow : OpenClaim := { program := "ytbeclidfilbbdaa", sum := "664e6fa3507e9c56b366c22f3937fcebcfdd3eb1f057073ec7429f6fdd4f317c", func := "padlock/padlocklaw11.BookingKeeps", spec := "bookingKeeps", unfollowed := true, recurses := true, plainKeys := false, apart := false }
def BookingKeepsSaid : Prop := bookingKeepsRow.holds Try.pinned (OpenSpec.ofChange bookingKeepsSpec)

/-- ITS FALSE NEIGHBOUR: 'it returns false'. Refute it at one input. -/
def bookingKeepsWrong : ChangeSpec := { name := "bookingKeeps", fn := fun _ => fun
  | [d1, d2, d3] => { results := [.lit (.bool false)], args := [d1, d2, d3] }
  | _ => none }
def BookingKeepsWrongFalsely : Prop := bookingKeepsRow.holds Try.pinned (OpenSpec.ofChange bookingKeepsWrong)

/-- 'padlocklaw11.BookingLed': WHATEVER THE INPUT: true; the input reads as it did. -/
def bookingLedSpec : ChangeSpec := { name := "bookingLed", fn := fun _ => fun
  | [d1, d2, d3] => { results := [.lit (.bool true)], args := [d1, d2, d3] }
  | _ => none }
def bookingLedRow : OpenClaim := { program := "ytbeclidfilbbdaa", sum := "664e6fa3507e9c56b366c22f3937fcebcfdd3eb1f057073ec7429f6fdd4f317c", func := "padlock/padlocklaw11.BookingLed", spec := "bookingLed", unfollowed := true, recurses := true, plainKeys := false, apart := false }
def BookingLedSaid : Prop := bookingLedRow.holds Try.pinned (OpenSpec.ofChange bookingLedSpec)

/-- ITS FALSE NEIGHBOUR: 'it returns false'. Refute it at one input. -/
def bookingLedWrong : ChangeSpec := { name := "bookingLed", fn := fun _ => fun
  | [d1, d2, d3] => { results := [.lit (.bool false)], args := [d1, d2, d3] }
  | _ => none }
def BookingLedWrongFalsely : Prop := bookingLedRow.holds Try.pinned (OpenSpec.ofChange bookingLedWrong)

/-- 'padlocklaw11.BookingChooses': WHATEVER THE INPUT: true; the input reads as it did. -/
def bookingChoosesSpec : ChangeSpec := { name := "bookingChooses", fn := fun _ => fun
  | [d1, d2, d3] => { results := [.lit (.bool true)], args := [d1, d2, d3] }
  | _ => none }
def bookingChoosesRow : OpenClaim := { program := "ytbeclidfilbbdaa", sum := "664e6fa3507e9c56b366c22f3937fcebcfdd3eb1f057073ec7429f6fdd4f317c", func := "padlock/padlocklaw11.BookingChooses", spec := "bookingChooses", unfollowed := true, recurses := true, plainKeys := false, apart := false }
def BookingChoosesSaid : Prop := bookingChoosesRow.holds Try.pinned (OpenSpec.ofChange bookingChoosesSpec)

/-- ITS FALSE NEIGHBOUR: 'it returns false'. Refute it at one input. -/
def bookingChoosesWrong : ChangeSpec := { name := "bookingChooses", fn := fun _ => fun
  | [d1, d2, d3] => { results := [.lit (.bool false)], args := [d1, d2, d3] }
  | _ => none }
def BookingChoosesWrongFalsely : Prop := bookingChoosesRow.holds Try.pinned (OpenSpec.ofChange bookingChoosesWrong)

/-- 'padlocklaw11.BookingBest': WHATEVER THE INPUT: true; the input reads as it did. -/
def bookingBestSpec : ChangeSpec := { name := "bookingBest", fn := fun _ => fun
  | [d1, d2, d3] => { results := [.lit (.bool true)], args := [d1, d2, d3] }
  | _ => none }
def bookingBestRow : OpenClaim := { program := "ytbeclidfilbbdaa", sum := "664e6fa3507e9c56b366c22f3937fcebcfdd3eb1f057073ec7429f6fdd4f317c", func := "padlock/padlocklaw11.BookingBest", spec := "bookingBest", unfollowed := true, recurses := true, plainKeys := false, apart := false }
def BookingBestSaid : Prop := bookingBestRow.holds Try.pinned (OpenSpec.ofChange bookingBestSpec)

/-- ITS FALSE NEIGHBOUR: 'it returns false'. Refute it at one input. -/
def bookingBestWrong : ChangeSpec := { name := "bookingBest", fn := fun _ => fun
  | [d1, d2, d3] => { results := [.lit (.bool false)], args := [d1, d2, d3] }
  | _ => none }
def BookingBestWrongFalsely : Prop := bookingBestRow.holds Try.pinned (OpenSpec.ofChange bookingBestWrong)

/- THE SECOND FORM. 'bulk': how many values and letters a reading holds, each counted each time it is reached (what is shared counts as often as it is met; a slice's spare places count too). A statement '..UptoSaid' is the law's where the arguments, and the package variables that the reading takes, are together of bulk at most 1048576: NARROWER than '..Said'. Prove '..Said' where nothing that the law and all that it calls make is longer than what came in: it says more and counts as full. Else prove '..UptoSaid'. A law counts once. -/
mutual
def uptoBulk {H : Type} : DataW H → Nat
  | .lit (.string bytes) => bytes.length + 1
  | .lit _ => 1
  | .nil => 1
  | .ptr d => uptoBulk d + 1
  | .slice elems spare => uptoBulkAll elems + uptoBulkAll spare + 1
  | .agg parts => uptoBulkAll parts + 1
  | .iface _ d => uptoBulk d + 1
  | .map entries => uptoBulkEntries entries + 1
  | .held _ => 1
def uptoBulkAll {H : Type} : List (DataW H) → Nat
  | [] => 0
  | d :: r => uptoBulk d + uptoBulkAll r
def uptoBulkEntries {H : Type} : List (Lit × DataW H) → Nat
  | [] => 0
  | x :: r => uptoBulkEntry x + uptoBulkEntries r
def uptoBulkEntry {H : Type} : Lit × DataW H → Nat
  | (.string bytes, d) => bytes.length + uptoBulk d + 1
  | (_, d) => uptoBulk d + 1
 end
def uptoSmall : (H : Type) → List (DataW H) → Bool := fun _ ds => decide (uptoBulkAll ds ≤ 1048576)
def OpenSpec.upto (s : _root_.Go.ChangeSpec) : _root_.Go.OpenSpec := { _root_.Go.OpenSpec.ofChange s with cond := some uptoSmall }

/-- 'padlocklaw11.BookingAdds', WHERE WHAT IT READS IS OF BULK AT MOST 1048576: true; the input reads as it did. -/
def bookingAddsUptoRow : OpenClaim := { program := "ytbeclidfilbbdaa", sum := "664e6fa3507e9c56b366c22f3937fcebcfdd3eb1f057073ec7429f6fdd4f317c", func := "padlock/padlocklaw11.BookingAdds", spec := "bookingAdds", unfollowed := true, recurses := true, plainKeys := false, apart := false, narrowed := true }
def BookingAddsUptoSaid : Prop := bookingAddsUptoRow.holds Try.pinned (OpenSpec.upto bookingAddsSpec)

/-- 'padlocklaw11.BookingSoonest', WHERE WHAT IT READS IS OF BULK AT MOST 1048576: true; the input reads as it did. -/
def bookingSoonestUptoRow : OpenClaim := { program := "ytbeclidfilbbdaa", sum := "664e6fa3507e9c56b366c22f3937fcebcfdd3eb1f057073ec7429f6fdd4f317c", func := "padlock/padlocklaw11.BookingSoonest", spec := "bookingSoonest", unfollowed := true, recurses := true, plainKeys := false, apart := false, narrowed := true }
def BookingSoonestUptoSaid : Prop := bookingSoonestUptoRow.holds Try.pinned (OpenSpec.upto bookingSoonestSpec)

/-- 'padlocklaw11.BookingFirst', WHERE WHAT IT READS IS OF BULK AT MOST 1048576: true; the input reads as it did. -/
def bookingFirstUptoRow : OpenClaim := { program := "ytbeclidfilbbdaa", sum := "664e6fa3507e9c56b366c22f3937fcebcfdd3eb1f057073ec7429f6fdd4f317c", func := "padlock/padlocklaw11.BookingFirst", spec := "bookingFirst", unfollowed := true, recurses := true, plainKeys := false, apart := false, narrowed := true }
def BookingFirstUptoSaid : Prop := bookingFirstUptoRow.holds Try.pinned (OpenSpec.upto bookingFirstSpec)

/-- 'padlocklaw11.BookingDuels', WHERE WHAT IT READS IS OF BULK AT MOST 1048576: true; the input reads as it did. -/
def bookingDuelsUptoRow : OpenClaim := { program := "ytbeclidfilbbdaa", sum := "664e6fa3507e9c56b366c22f3937fcebcfdd3eb1f057073ec7429f6fdd4f317c", func := "padlock/padlocklaw11.BookingDuels", spec := "bookingDuels", unfollowed := true, recurses := true, plainKeys := false, apart := false, narrowed := true }
def BookingDuelsUptoSaid : Prop := bookingDuelsUptoRow.holds Try.pinned (OpenSpec.upto bookingDuelsSpec)

/-- 'padlocklaw11.BookingAlone', WHERE WHAT IT READS IS OF BULK AT MOST 1048576: true; the input reads as it did. -/
def bookingAloneUptoRow : OpenClaim := { program := "ytbeclidfilbbdaa", sum := "664e6fa3507e9c56b366c22f3937fcebcfdd3eb1f057073ec7429f6fdd4f317c", func := "padlock/padlocklaw11.BookingAlone", spec := "bookingAlone", unfollowed := true, recurses := true, plainKeys := false, apart := false, narrowed := true }
def BookingAloneUptoSaid : Prop := bookingAloneUptoRow.holds Try.pinned (OpenSpec.upto bookingAloneSpec)

/-- 'padlocklaw11.BookingStaffs', WHERE WHAT IT READS IS OF BULK AT MOST 1048576: true; the input reads as it did. -/
def bookingStaffsUptoRow : OpenClaim := { program := "ytbeclidfilbbdaa", sum := "664e6fa3507e9c56b366c22f3937fcebcfdd3eb1f057073ec7429f6fdd4f317c", func := "padlock/padlocklaw11.BookingStaffs", spec := "bookingStaffs", unfollowed := true, recurses := true, plainKeys := false, apart := false, narrowed := true }
def BookingStaffsUptoSaid : Prop := bookingStaffsUptoRow.holds Try.pinned (OpenSpec.upto bookingStaffsSpec)

/-- 'padlocklaw11.BookingRanks', WHERE WHAT IT READS IS OF BULK AT MOST 1048576: true; the input reads as it did. -/
def bookingRanksUptoRow : OpenClaim := { program := "ytbeclidfilbbdaa", sum := "664e6fa3507e9c56b366c22f3937fcebcfdd3eb1f057073ec7429f6fdd4f317c", func := "padlock/padlocklaw11.BookingRanks", spec := "bookingRanks", unfollowed := true, recurses := true, plainKeys := false, apart := false, narrowed := true }
def BookingRanksUptoSaid : Prop := bookingRanksUptoRow.holds Try.pinned (OpenSpec.upto bookingRanksSpec)

/-- 'padlocklaw11.BookingPlaces', WHERE WHAT IT READS IS OF BULK AT MOST 1048576: true; the input reads as it did. -/
def bookingPlacesUptoRow : OpenClaim := { program := "ytbeclidfilbbdaa", sum := "664e6fa3507e9c56b366c22f3937fcebcfdd3eb1f057073ec7429f6fdd4f317c", func := "padlock/padlocklaw11.BookingPlaces", spec := "bookingPlaces", unfollowed := true, recurses := true, plainKeys := false, apart := false, narrowed := true }
def BookingPlacesUptoSaid : Prop := bookingPlacesUptoRow.holds Try.pinned (OpenSpec.upto bookingPlacesSpec)

/-- 'padlocklaw11.BookingCancels', WHERE WHAT IT READS IS OF BULK AT MOST 1048576: true; the input reads as it did. -/
def bookingCancelsUptoRow : OpenClaim := { program := "ytbeclidfilbbdaa", sum := "664e6fa3507e9c56b366c22f3937fcebcfdd3eb1f057073ec7429f6fdd4f317c", func := "padlock/padlocklaw11.BookingCancels", spec := "bookingCancels", unfollowed := true, recurses := true, plainKeys := false, apart := false, narrowed := true }
def BookingCancelsUptoSaid : Prop := bookingCancelsUptoRow.holds Try.pinned (OpenSpec.upto bookingCancelsSpec)

/-- 'padlocklaw11.BookingChecks', WHERE WHAT IT READS IS OF BULK AT MOST 1048576: true; the input reads as it did. -/
def bookingChecksUptoRow : OpenClaim := { program := "ytbeclidfilbbdaa", sum := "664e6fa3507e9c56b366c22f3937fcebcfdd3eb1f057073ec7429f6fdd4f317c", func := "padlock/padlocklaw11.BookingChecks", spec := "bookingChecks", unfollowed := true, recurses := true, plainKeys := false, apart := false, narrowed := true }
def BookingChecksUptoSaid : Prop := bookingChecksUptoRow.holds Try.pinned (OpenSpec.upto bookingChecksSpec)

/-- 'padlocklaw11.BookingKeeps', WHERE WHAT IT READS IS OF BULK AT MOST 1048576: true; the input reads as it did. -/
def bookingKeepsUptoRow : OpenClaim := { program := "ytbeclidfilbbdaa", sum := "664e6fa3507e9c56b366c22f3937fcebcfdd3eb1f057073ec7429f6fdd4f317c", func := "padlock/padlocklaw11.BookingKeeps", spec := "bookingKeeps", unfollowed := true, recurses := true, plainKeys := false, apart := false, narrowed := true }
def BookingKeepsUptoSaid : Prop := bookingKeepsUptoRow.holds Try.pinned (OpenSpec.upto bookingKeepsSpec)

/-- 'padlocklaw11.BookingLed', WHERE WHAT IT READS IS OF BULK AT MOST 1048576: true; the input reads as it did. -/
def bookingLedUptoRow : OpenClaim := { program := "ytbeclidfilbbdaa", sum := "664e6fa3507e9c56b366c22f3937fcebcfdd3eb1f057073ec7429f6fdd4f317c", func := "padlock/padlocklaw11.BookingLed", spec := "bookingLed", unfollowed := true, recurses := true, plainKeys := false, apart := false, narrowed := true }
def BookingLedUptoSaid : Prop := bookingLedUptoRow.holds Try.pinned (OpenSpec.upto bookingLedSpec)

/-- 'padlocklaw11.BookingChooses', WHERE WHAT IT READS IS OF BULK AT MOST 1048576: true; the input reads as it did. -/
def bookingChoosesUptoRow : OpenClaim := { program := "ytbeclidfilbbdaa", sum := "664e6fa3507e9c56b366c22f3937fcebcfdd3eb1f057073ec7429f6fdd4f317c", func := "padlock/padlocklaw11.BookingChooses", spec := "bookingChooses", unfollowed := true, recurses := true, plainKeys := false, apart := false, narrowed := true }
def BookingChoosesUptoSaid : Prop := bookingChoosesUptoRow.holds Try.pinned (OpenSpec.upto bookingChoosesSpec)

/-- 'padlocklaw11.BookingBest', WHERE WHAT IT READS IS OF BULK AT MOST 1048576: true; the input reads as it did. -/
def bookingBestUptoRow : OpenClaim := { program := "ytbeclidfilbbdaa", sum := "664e6fa3507e9c56b366c22f3937fcebcfdd3eb1f057073ec7429f6fdd4f317c", func := "padlock/padlocklaw11.BookingBest", spec := "bookingBest", unfollowed := true, recurses := true, plainKeys := false, apart := false, narrowed := true }
def BookingBestUptoSaid : Prop := bookingBestUptoRow.holds Try.pinned (OpenSpec.upto bookingBestSpec)

end Rows
end Go.Proofs.Ytbeclidfilbbdaa
