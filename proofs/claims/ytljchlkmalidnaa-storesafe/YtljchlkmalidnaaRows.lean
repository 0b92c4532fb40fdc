/-
  No cell of these rows narrows 'for every input' (looked for: loops, veiled, ifaces, maps, wideKeys, modest, calm, conditions, laid).
  DERIVED. THE GIVEN ROWS OF THIS SEAT. 12 by the template 'for every input the law returns true; each argument reads behind the call as it read before'; 0 by the template 'total and deterministic' (their statements: YtljchlkmalidnaaTotals.lean).
  GIVEN WITH THE SEED: the statements are not yours to turn. If you find one false, say at which input.
  Laid BY PROGRAM, IN A SANDBOX (cutbox-rows.mjs): the forced cells as the released guide's own fill.sh prints them over the translation 91d367d6289a1675… (all of the seat's roots in one cut). By AI agents, Wed Nov 11 2026. No macro, syntax, notation, axiom, sorry.
-/
import Derived.Test.YtljchlkmalidnaaChecked
import GoSem.Claim
import GoSem.ClaimJoined
import GoSem.ClaimMapViews
import Derived.JoinedTies
import Derived.KernelRfl
namespace Go.Proofs.Ytljchlkmalidnaa
/- THE CELL 'sum', in the pinned program and in every row, IS THE sha256 OF THE DUMP (.gsa) THAT YtljchlkmalidnaaProg.lean LOADS. Nothing in Lean hashes anything: it is a label: what it is worth is what the hold of that sum in a sandbox is worth. -/
noncomputable def Try.pinned : Pinned := { name := "ytljchlkmalidnaa", sum := "91d367d6289a1675ae0adc23a340c512dd80510288ecb7f48b60950d4b685d7b", checked := Try.checked }
namespace Rows
def none {H : Type} : Left H := { results := [], args := [] }

/-- 'padlocklaw10.StoreNeeds': WHATEVER THE INPUT: true; the input reads as it did. -/
def storeNeedsSpec : ChangeSpec := { name := "storeNeeds", fn := fun _ => fun
  | [d1, d2] => { results := [.lit (.bool true)], args := [d1, d2] }
  | _ => none }
def storeNeedsRow : OpenClaim := { program := "ytljchlkmalidnaa", sum := "91d367d6289a1675ae0adc23a340c512dd80510288ecb7f48b60950d4b685d7b", func := "padlock/padlocklaw10.StoreNeeds", spec := "storeNeeds", unfollowed := true, recurses := true, plainKeys := false, apart := false }
def StoreNeedsSaid : Prop := storeNeedsRow.holds Try.pinned (OpenSpec.ofChange storeNeedsSpec)

/-- ITS FALSE NEIGHBOUR: 'it returns false'. Refute it at one input. -/
def storeNeedsWrong : ChangeSpec := { name := "storeNeeds", fn := fun _ => fun
  | [d1, d2] => { results := [.lit (.bool false)], args := [d1, d2] }
  | _ => none }
def StoreNeedsWrongFalsely : Prop := storeNeedsRow.holds Try.pinned (OpenSpec.ofChange storeNeedsWrong)

/-- 'padlocklaw10.StoreEnough': WHATEVER THE INPUT: true; the input reads as it did. -/
def storeEnoughSpec : ChangeSpec := { name := "storeEnough", fn := fun _ => fun
  | [d1, d2] => { results := [.lit (.bool true)], args := [d1, d2] }
  | _ => none }
def storeEnoughRow : OpenClaim := { program := "ytljchlkmalidnaa", sum := "91d367d6289a1675ae0adc23a340c512dd80510288ecb7f48b60950d4b685d7b", func := "padlock/padlocklaw10.StoreEnough", spec := "storeEnough", unfollowed := true, recurses := true, plainKeys := false, apart := false }
def StoreEnoughSaid : Prop := storeEnoughRow.holds Try.pinned (OpenSpec.ofChange storeEnoughSpec)

/-- ITS FALSE NEIGHBOUR: 'it returns false'. Refute it at one input. -/
def storeEnoughWrong : ChangeSpec := { name := "storeEnough", fn := fun _ => fun
  | [d1, d2] => { results := [.lit (.bool false)], args := [d1, d2] }
  | _ => none }
def StoreEnoughWrongFalsely : Prop := storeEnoughRow.holds Try.pinned (OpenSpec.ofChange storeEnoughWrong)

/-- 'padlocklaw10.StoreFrees': WHATEVER THE INPUT: true; the input reads as it did. -/
def storeFreesSpec : ChangeSpec := { name := "storeFrees", fn := fun _ => fun
  | [d1, d2, d3] => { results := [.lit (.bool true)], args := [d1, d2, d3] }
  | _ => none }
def storeFreesRow : OpenClaim := { program := "ytljchlkmalidnaa", sum := "91d367d6289a1675ae0adc23a340c512dd80510288ecb7f48b60950d4b685d7b", func := "padlock/padlocklaw10.StoreFrees", spec := "storeFrees", unfollowed := true, recurses := true, plainKeys := false, apart := false }
def StoreFreesSaid : Prop := storeFreesRow.holds Try.pinned (OpenSpec.ofChange storeFreesSpec)

/-- ITS FALSE NEIGHBOUR: 'it returns false'. Refute it at one input. -/
def storeFreesWrong : ChangeSpec := { name := "storeFrees", fn := fun _ => fun
  | [d1, d2, d3] => { results := [.lit (.bool false)], args := [d1, d2, d3] }
  | _ => none }
def StoreFreesWrongFalsely : Prop := storeFreesRow.holds Try.pinned (OpenSpec.ofChange storeFreesWrong)

/-- 'padlocklaw10.StoreChecks': WHATEVER THE INPUT: true; the input reads as it did. -/
def storeChecksSpec : ChangeSpec := { name := "storeChecks", fn := fun _ => fun
  | [d1, d2] => { results := [.lit (.bool true)], args := [d1, d2] }
  | _ => none }
def storeChecksRow : OpenClaim := { program := "ytljchlkmalidnaa", sum := "91d367d6289a1675ae0adc23a340c512dd80510288ecb7f48b60950d4b685d7b", func := "padlock/padlocklaw10.StoreChecks", spec := "storeChecks", unfollowed := true, recurses := true, plainKeys := false, apart := false }
def StoreChecksSaid : Prop := storeChecksRow.holds Try.pinned (OpenSpec.ofChange storeChecksSpec)

/-- ITS FALSE NEIGHBOUR: 'it returns false'. Refute it at one input. -/
def storeChecksWrong : ChangeSpec := { name := "storeChecks", fn := fun _ => fun
  | [d1, d2] => { results := [.lit (.bool false)], args := [d1, d2] }
  | _ => none }
def StoreChecksWrongFalsely : Prop := storeChecksRow.holds Try.pinned (OpenSpec.ofChange storeChecksWrong)

/-- 'padlocklaw10.StoreWears': WHATEVER THE INPUT: true; the input reads as it did. -/
def storeWearsSpec : ChangeSpec := { name := "storeWears", fn := fun _ => fun
  | [d1, d2, d3] => { results := [.lit (.bool true)], args := [d1, d2, d3] }
  | _ => none }
def storeWearsRow : OpenClaim := { program := "ytljchlkmalidnaa", sum := "91d367d6289a1675ae0adc23a340c512dd80510288ecb7f48b60950d4b685d7b", func := "padlock/padlocklaw10.StoreWears", spec := "storeWears", unfollowed := true, recurses := true, plainKeys := false, apart := false }
def StoreWearsSaid : Prop := storeWearsRow.holds Try.pinned (OpenSpec.ofChange storeWearsSpec)

/-- ITS FALSE NEIGHBOUR: 'it returns false'. Refute it at one input. -/
def storeWearsWrong : ChangeSpec := { name := "storeWears", fn := fun _ => fun
  | [d1, d2, d3] => { results := [.lit (.bool false)], args := [d1, d2, d3] }
  | _ => none }
def StoreWearsWrongFalsely : Prop := storeWearsRow.holds Try.pinned (OpenSpec.ofChange storeWearsWrong)

/-- 'padlocklaw10.StoreWorn': WHATEVER THE INPUT: true; the input reads as it did. -/
def storeWornSpec : ChangeSpec := { name := "storeWorn", fn := fun _ => fun
  | [d1, d2] => { results := [.lit (.bool true)], args := [d1, d2] }
  | _ => none }
def storeWornRow : OpenClaim := { program := "ytljchlkmalidnaa", sum := "91d367d6289a1675ae0adc23a340c512dd80510288ecb7f48b60950d4b685d7b", func := "padlock/padlocklaw10.StoreWorn", spec := "storeWorn", unfollowed := true, recurses := true, plainKeys := false, apart := false }
def StoreWornSaid : Prop := storeWornRow.holds Try.pinned (OpenSpec.ofChange storeWornSpec)

/-- ITS FALSE NEIGHBOUR: 'it returns false'. Refute it at one input. -/
def storeWornWrong : ChangeSpec := { name := "storeWorn", fn := fun _ => fun
  | [d1, d2] => { results := [.lit (.bool false)], args := [d1, d2] }
  | _ => none }
def StoreWornWrongFalsely : Prop := storeWornRow.holds Try.pinned (OpenSpec.ofChange storeWornWrong)

/-- 'padlocklaw10.StoreLate': WHATEVER THE INPUT: true; the input reads as it did. -/
def storeLateSpec : ChangeSpec := { name := "storeLate", fn := fun _ => fun
  | [d1, d2, d3] => { results := [.lit (.bool true)], args := [d1, d2, d3] }
  | _ => none }
def storeLateRow : OpenClaim := { program := "ytljchlkmalidnaa", sum := "91d367d6289a1675ae0adc23a340c512dd80510288ecb7f48b60950d4b685d7b", func := "padlock/padlocklaw10.StoreLate", spec := "storeLate", unfollowed := true, recurses := true, plainKeys := false, apart := false }
def StoreLateSaid : Prop := storeLateRow.holds Try.pinned (OpenSpec.ofChange storeLateSpec)

/-- ITS FALSE NEIGHBOUR: 'it returns false'. Refute it at one input. -/
def storeLateWrong : ChangeSpec := { name := "storeLate", fn := fun _ => fun
  | [d1, d2, d3] => { results := [.lit (.bool false)], args := [d1, d2, d3] }
  | _ => none }
def StoreLateWrongFalsely : Prop := storeLateRow.holds Try.pinned (OpenSpec.ofChange storeLateWrong)

/-- 'padlocklaw10.StoreLends': WHATEVER THE INPUT: true; the input reads as it did. -/
def storeLendsSpec : ChangeSpec := { name := "storeLends", fn := fun _ => fun
  | [d1, d2, d3] => { results := [.lit (.bool true)], args := [d1, d2, d3] }
  | _ => none }
def storeLendsRow : OpenClaim := { program := "ytljchlkmalidnaa", sum := "91d367d6289a1675ae0adc23a340c512dd80510288ecb7f48b60950d4b685d7b", func := "padlock/padlocklaw10.StoreLends", spec := "storeLends", unfollowed := true, recurses := true, plainKeys := false, apart := false }
def StoreLendsSaid : Prop := storeLendsRow.holds Try.pinned (OpenSpec.ofChange storeLendsSpec)

/-- ITS FALSE NEIGHBOUR: 'it returns false'. Refute it at one input. -/
def storeLendsWrong : ChangeSpec := { name := "storeLends", fn := fun _ => fun
  | [d1, d2, d3] => { results := [.lit (.bool false)], args := [d1, d2, d3] }
  | _ => none }
def StoreLendsWrongFalsely : Prop := storeLendsRow.holds Try.pinned (OpenSpec.ofChange storeLendsWrong)

/-- 'padlocklaw10.StoreRepairs': WHATEVER THE INPUT: true; the input reads as it did. -/
def storeRepairsSpec : ChangeSpec := { name := "storeRepairs", fn := fun _ => fun
  | [d1, d2, d3] => { results := [.lit (.bool true)], args := [d1, d2, d3] }
  | _ => none }
def storeRepairsRow : OpenClaim := { program := "ytljchlkmalidnaa", sum := "91d367d6289a1675ae0adc23a340c512dd80510288ecb7f48b60950d4b685d7b", func := "padlock/padlocklaw10.StoreRepairs", spec := "storeRepairs", unfollowed := true, recurses := true, plainKeys := false, apart := false }
def StoreRepairsSaid : Prop := storeRepairsRow.holds Try.pinned (OpenSpec.ofChange storeRepairsSpec)

/-- ITS FALSE NEIGHBOUR: 'it returns false'. Refute it at one input. -/
def storeRepairsWrong : ChangeSpec := { name := "storeRepairs", fn := fun _ => fun
  | [d1, d2, d3] => { results := [.lit (.bool false)], args := [d1, d2, d3] }
  | _ => none }
def StoreRepairsWrongFalsely : Prop := storeRepairsRow.holds Try.pinned (OpenSpec.ofChange storeRepairsWrong)

/-- 'padlocklaw10.StoreNearest': WHATEVER THE INPUT: true; the input reads as it did. -/
def storeNearestSpec : ChangeSpec := { name := "storeNearest", fn := fun _ => fun
  | [d1, d2, d3] => { results := [.lit (.bool true)], args := [d1, d2, d3] }
  | _ => none }
def storeNearestRow : OpenClaim := { program := "ytljchlkmalidnaa", sum := "91d367d6289a1675ae0adc23a340c512dd80510288ecb7f48b60950d4b685d7b", func := "padlock/padlocklaw10.StoreNearest", spec := "storeNearest", unfollowed := true, recurses := true, plainKeys := false, apart := false }
def StoreNearestSaid : Prop := storeNearestRow.holds Try.pinned (OpenSpec.ofChange storeNearestSpec)

/-- ITS FALSE NEIGHBOUR: 'it returns false'. Refute it at one input. -/
def storeNearestWrong : ChangeSpec := { name := "storeNearest", fn := fun _ => fun
  | [d1, d2, d3] => { results := [.lit (.bool false)], args := [d1, d2, d3] }
  | _ => none }
def StoreNearestWrongFalsely : Prop := storeNearestRow.holds Try.pinned (OpenSpec.ofChange storeNearestWrong)

/-- 'padlocklaw10.StorePlans': WHATEVER THE INPUT: true; the input reads as it did. -/
def storePlansSpec : ChangeSpec := { name := "storePlans", fn := fun _ => fun
  | [d] => { results := [.lit (.bool true)], args := [d] }
  | _ => none }
def storePlansRow : OpenClaim := { program := "ytljchlkmalidnaa", sum := "91d367d6289a1675ae0adc23a340c512dd80510288ecb7f48b60950d4b685d7b", func := "padlock/padlocklaw10.StorePlans", spec := "storePlans", unfollowed := true, recurses := true, plainKeys := false, apart := false }
def StorePlansSaid : Prop := storePlansRow.holds Try.pinned (OpenSpec.ofChange storePlansSpec)

/-- ITS FALSE NEIGHBOUR: 'it returns false'. Refute it at one input. -/
def storePlansWrong : ChangeSpec := { name := "storePlans", fn := fun _ => fun
  | [d] => { results := [.lit (.bool false)], args := [d] }
  | _ => none }
def StorePlansWrongFalsely : Prop := storePlansRow.holds Try.pinned (OpenSpec.ofChange storePlansWrong)

/-- 'padlocklaw10.StoreSafe': WHATEVER THE INPUT: true; the input reads as it did. -/
def storeSafeSpec : ChangeSpec := { name := "storeSafe", fn := fun _ => fun
  | [d1, d2] => { results := [.lit (.bool true)], args := [d1, d2] }
  | _ => none }
def storeSafeRow : OpenClaim := { program := "ytljchlkmalidnaa", sum := "91d367d6289a1675ae0adc23a340c512dd80510288ecb7f48b60950d4b685d7b", func := "padlock/padlocklaw10.StoreSafe", spec := "storeSafe", unfollowed := true, recurses := true, plainKeys := false, apart := false }
def StoreSafeSaid : Prop := storeSafeRow.holds Try.pinned (OpenSpec.ofChange storeSafeSpec)

/-- ITS FALSE NEIGHBOUR: 'it returns false'. Refute it at one input. -/
def storeSafeWrong : ChangeSpec := { name := "storeSafe", fn := fun _ => fun
  | [d1, d2] => { results := [.lit (.bool false)], args := [d1, d2] }
  | _ => none }
def StoreSafeWrongFalsely : Prop := storeSafeRow.holds Try.pinned (OpenSpec.ofChange storeSafeWrong)

/- THE SECOND FORM. 'bulk': how many values and letters a reading holds, each counted each time it is reached (what is shared counts as often as it is met; a slice's spare places count too). A statement '..UptoSaid' is the law's where the arguments, and the package variables that the reading takes, are together of bulk at most 1048576: NARROWER than '..Said'. Prove '..Said' where nothing that the law and all that it calls make is longer than what came in: it says more and counts as full. Else prove '..UptoSaid'. A law counts once. -/
mutual
def uptoBulk {H : Type} : DataW H → Nat
  | .lit (.string bytes) => bytes.length + 1
  | .lit _ => 1
  | .nil => 1
  | .ptr d => uptoBulk d + 1
  | .slice elems spare => uptoBulkAll elems + uptoBulkAll spare + 1
  | .agg parts => uptoBulkAll parts + 1
  | .iface _ d => uptoBulk d + 1
  | .map entries => uptoBulkEntries entries + 1
  | .held _ => 1
def uptoBulkAll {H : Type} : List (DataW H) → Nat
  | [] => 0
  | d :: r => uptoBulk d + uptoBulkAll r
def uptoBulkEntries {H : Type} : List (Lit × DataW H) → Nat
  | [] => 0
  | x :: r => uptoBulkEntry x + uptoBulkEntries r
def uptoBulkEntry {H : Type} : Lit × DataW H → Nat
  | (.string bytes, d) => bytes.length + uptoBulk d + 1
  | (_, d) => uptoBulk d + 1
 end
def uptoSmall : (H : Type) → List (DataW H) → Bool := fun _ ds => decide (uptoBulkAll ds ≤ 1048576)
def OpenSpec.upto (s : _root_.Go.ChangeSpec) : _root_.Go.OpenSpec := { _root_.Go.OpenSpec.ofChange s with cond := some uptoSmall }

/-- 'padlocklaw10.StoreNeeds', WHERE WHAT IT READS IS OF BULK AT MOST 1048576: true; the input reads as it did. -/
def storeNeedsUptoRow : OpenClaim := { program := "ytljchlkmalidnaa", sum := "91d367d6289a1675ae0adc23a340c512dd80510288ecb7f48b60950d4b685d7b", func := "padlock/padlocklaw10.StoreNeeds", spec := "storeNeeds", unfollowed := true, recurses := true, plainKeys := false, apart := false, narrowed := true }
def StoreNeedsUptoSaid : Prop := storeNeedsUptoRow.holds Try.pinned (OpenSpec.upto storeNeedsSpec)

/-- 'padlocklaw10.StoreEnough', WHERE WHAT IT READS IS OF BULK AT MOST 1048576: true; the input reads as it did. -/
def storeEnoughUptoRow : OpenClaim := { program := "ytljchlkmalidnaa", sum := "91d367d6289a1675ae0adc23a340c512dd80510288ecb7f48b60950d4b685d7b", func := "padlock/padlocklaw10.StoreEnough", spec := "storeEnough", unfollowed := true, recurses := true, plainKeys := false, apart := false, narrowed := true }
def StoreEnoughUptoSaid : Prop := storeEnoughUptoRow.holds Try.pinned (OpenSpec.upto storeEnoughSpec)

/-- 'padlocklaw10.StoreFrees', WHERE WHAT IT READS IS OF BULK AT MOST 1048576: true; the input reads as it did. -/
def storeFreesUptoRow : OpenClaim := { program := "ytljchlkmalidnaa", sum := "91d367d6289a1675ae0adc23a340c512dd80510288ecb7f48b60950d4b685d7b", func := "padlock/padlocklaw10.StoreFrees", spec := "storeFrees", unfollowed := true, recurses := true, plainKeys := false, apart := false, narrowed := true }
def StoreFreesUptoSaid : Prop := storeFreesUptoRow.holds Try.pinned (OpenSpec.upto storeFreesSpec)

/-- 'padlocklaw10.StoreChecks', WHERE WHAT IT READS IS OF BULK AT MOST 1048576: true; the input reads as it did. -/
def storeChecksUptoRow : OpenClaim := { program := "ytljchlkmalidnaa", sum := "91d367d6289a1675ae0adc23a340c512dd80510288ecb7f48b60950d4b685d7b", func := "padlock/padlocklaw10.StoreChecks", spec := "storeChecks", unfollowed := true, recurses := true, plainKeys := false, apart := false, narrowed := true }
def StoreChecksUptoSaid : Prop := storeChecksUptoRow.holds Try.pinned (OpenSpec.upto storeChecksSpec)

/-- 'padlocklaw10.StoreWears', WHERE WHAT IT READS IS OF BULK AT MOST 1048576: true; the input reads as it did. -/
def storeWearsUptoRow : OpenClaim := { program := "ytljchlkmalidnaa", sum := "91d367d6289a1675ae0adc23a340c512dd80510288ecb7f48b60950d4b685d7b", func := "padlock/padlocklaw10.StoreWears", spec := "storeWears", unfollowed := true, recurses := true, plainKeys := false, apart := false, narrowed := true }
def StoreWearsUptoSaid : Prop := storeWearsUptoRow.holds Try.pinned (OpenSpec.upto storeWearsSpec)

/-- 'padlocklaw10.StoreWorn', WHERE WHAT IT READS IS OF BULK AT MOST 1048576: true; the input reads as it did. -/
def storeWornUptoRow : OpenClaim := { program := "ytljchlkmalidnaa", sum := "91d367d6289a1675ae0adc23a340c512dd80510288ecb7f48b60950d4b685d7b", func := "padlock/padlocklaw10.StoreWorn", spec := "storeWorn", unfollowed := true, recurses := true, plainKeys := false, apart := false, narrowed := true }
def StoreWornUptoSaid : Prop := storeWornUptoRow.holds Try.pinned (OpenSpec.upto storeWornSpec)

/-- 'padlocklaw10.StoreLate', WHERE WHAT IT READS IS OF BULK AT MOST 1048576: true; the input reads as it did. -/
def storeLateUptoRow : OpenClaim := { program := "ytljchlkmalidnaa", sum := "91d367d6289a1675ae0adc23a340c512dd80510288ecb7f48b60950d4b685d7b", func := "padlock/padlocklaw10.StoreLate", spec := "storeLate", unfollowed := true, recurses := true, plainKeys := false, apart := false, narrowed := true }
def StoreLateUptoSaid : Prop := storeLateUptoRow.holds Try.pinned (OpenSpec.upto storeLateSpec)

/-- 'padlocklaw10.StoreLends', WHERE WHAT IT READS IS OF BULK AT MOST 1048576: true; the input reads as it did. -/
def storeLendsUptoRow : OpenClaim := { program := "ytljchlkmalidnaa", sum := "91d367d6289a1675ae0adc23a340c512dd80510288ecb7f48b60950d4b685d7b", func := "padlock/padlocklaw10.StoreLends", spec := "storeLends", unfollowed := true, recurses := true, plainKeys := false, apart := false, narrowed := true }
def StoreLendsUptoSaid : Prop := storeLendsUptoRow.holds Try.pinned (OpenSpec.upto storeLendsSpec)

/-- 'padlocklaw10.StoreRepairs', WHERE WHAT IT READS IS OF BULK AT MOST 1048576: true; the input reads as it did. -/
def storeRepairsUptoRow : OpenClaim := { program := "ytljchlkmalidnaa", sum := "91d367d6289a1675ae0adc23a340c512dd80510288ecb7f48b60950d4b685d7b", func := "padlock/padlocklaw10.StoreRepairs", spec := "storeRepairs", unfollowed := true, recurses := true, plainKeys := false, apart := false, narrowed := true }
def StoreRepairsUptoSaid : Prop := storeRepairsUptoRow.holds Try.pinned (OpenSpec.upto storeRepairsSpec)

/-- 'padlocklaw10.StoreNearest', WHERE WHAT IT READS IS OF BULK AT MOST 1048576: true; the input reads as it did. -/
def storeNearestUptoRow : OpenClaim := { program := "ytljchlkmalidnaa", sum := "91d367d6289a1675ae0adc23a340c512dd80510288ecb7f48b60950d4b685d7b", func := "padlock/padlocklaw10.StoreNearest", spec := "storeNearest", unfollowed := true, recurses := true, plainKeys := false, apart := false, narrowed := true }
def StoreNearestUptoSaid : Prop := storeNearestUptoRow.holds Try.pinned (OpenSpec.upto storeNearestSpec)

/-- 'padlocklaw10.StorePlans', WHERE WHAT IT READS IS OF BULK AT MOST 1048576: true; the input reads as it did. -/
def storePlansUptoRow : OpenClaim := { program := "ytljchlkmalidnaa", sum := "91d367d6289a1675ae0adc23a340c512dd80510288ecb7f48b60950d4b685d7b", func := "padlock/padlocklaw10.StorePlans", spec := "storePlans", unfollowed := true, recurses := true, plainKeys := false, apart := false, narrowed := true }
def StorePlansUptoSaid : Prop := storePlansUptoRow.holds Try.pinned (OpenSpec.upto storePlansSpec)

/-- 'padlocklaw10.StoreSafe', WHERE WHAT IT READS IS OF BULK AT MOST 1048576: true; the input reads as it did. -/
def storeSafeUptoRow : OpenClaim := { program := "ytljchlkmalidnaa", sum := "91d367d6289a1675ae0adc23a340c512dd80510288ecb7f48b60950d4b685d7b", func := "padlock/padlocklaw10.StoreSafe", spec := "storeSafe", unfollowed := true, recurses := true, plainKeys := false, apart := false, narrowed := true }
def StoreSafeUptoSaid : Prop := storeSafeUptoRow.holds Try.pinned (OpenSpec.upto storeSafeSpec)

end Rows
end Go.Proofs.Ytljchlkmalidnaa
