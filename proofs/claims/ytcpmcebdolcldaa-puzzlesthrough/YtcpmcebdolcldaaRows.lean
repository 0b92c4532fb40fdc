/-
  No cell of these rows narrows 'for every input' (looked for: loops, veiled, ifaces, maps, wideKeys, modest, calm, conditions, laid).
  DERIVED. THE GIVEN ROWS OF THIS SEAT. 4 by the template 'for every input the law returns true; each argument reads behind the call as it read before'; 0 by the template 'total and deterministic' (their statements: YtcpmcebdolcldaaTotals.lean).
  GIVEN WITH THE SEED: the statements are not yours to turn. If you find one false, say at which input.
  Laid BY PROGRAM, IN A SANDBOX (cutbox-rows.mjs): the forced cells as the released guide's own fill.sh prints them over the translation 4447ac95ed9f0bba… (all of the seat's roots in one cut). By AI agents, Wed Nov 11 2026. No macro, syntax, notation, axiom, sorry.
-/
import Derived.Test.YtcpmcebdolcldaaChecked
import GoSem.Claim
import GoSem.ClaimJoined
import GoSem.ClaimMapViews
import Derived.JoinedTies
import Derived.KernelRfl
namespace Go.Proofs.Ytcpmcebdolcldaa
/- THE CELL 'sum', in the pinned program and in every row, IS THE sha256 OF THE DUMP (.gsa) THAT YtcpmcebdolcldaaProg.lean LOADS. Nothing in Lean hashes anything: it is a label: what it is worth is what the hold of that sum in a sandbox is worth. -/
noncomputable def Try.pinned : Pinned := { name := "ytcpmcebdolcldaa", sum := "4447ac95ed9f0bba93fd4da657be2458ca8281aab9f31a7ca762df0a0a05c0f9", checked := Try.checked }
namespace Rows
def none {H : Type} : Left H := { results := [], args := [] }

/-- 'padlocklaw03.PuzzlesHangs': WHATEVER THE INPUT: true; the input reads as it did. -/
def puzzlesHangsSpec : ChangeSpec := { name := "puzzlesHangs", fn := fun _ => fun
  | [d1, d2, d3] => { results := [.lit (.bool true)], args := [d1, d2, d3] }
  | _ => none }
def puzzlesHangsRow : OpenClaim := { program := "ytcpmcebdolcldaa", sum := "4447ac95ed9f0bba93fd4da657be2458ca8281aab9f31a7ca762df0a0a05c0f9", func := "padlock/padlocklaw03.PuzzlesHangs", spec := "puzzlesHangs", unfollowed := true, recurses := true, apart := false }
def PuzzlesHangsSaid : Prop := puzzlesHangsRow.holds Try.pinned (OpenSpec.ofChange puzzlesHangsSpec)

/-- ITS FALSE NEIGHBOUR: 'it returns false'. Refute it at one input. -/
def puzzlesHangsWrong : ChangeSpec := { name := "puzzlesHangs", fn := fun _ => fun
  | [d1, d2, d3] => { results := [.lit (.bool false)], args := [d1, d2, d3] }
  | _ => none }
def PuzzlesHangsWrongFalsely : Prop := puzzlesHangsRow.holds Try.pinned (OpenSpec.ofChange puzzlesHangsWrong)

/-- 'padlocklaw03.PuzzlesHung': WHATEVER THE INPUT: true; the input reads as it did. -/
def puzzlesHungSpec : ChangeSpec := { name := "puzzlesHung", fn := fun _ => fun
  | [d1, d2, d3] => { results := [.lit (.bool true)], args := [d1, d2, d3] }
  | _ => none }
def puzzlesHungRow : OpenClaim := { program := "ytcpmcebdolcldaa", sum := "4447ac95ed9f0bba93fd4da657be2458ca8281aab9f31a7ca762df0a0a05c0f9", func := "padlock/padlocklaw03.PuzzlesHung", spec := "puzzlesHung", unfollowed := true, recurses := true, apart := false }
def PuzzlesHungSaid : Prop := puzzlesHungRow.holds Try.pinned (OpenSpec.ofChange puzzlesHungSpec)

/-- ITS FALSE NEIGHBOUR: 'it returns false'. Refute it at one input. -/
def puzzlesHungWrong : ChangeSpec := { name := "puzzlesHung", fn := fun _ => fun
  | [d1, d2, d3] => { results := [.lit (.bool false)], args := [d1, d2, d3] }
  | _ => none }
def PuzzlesHungWrongFalsely : Prop := puzzlesHungRow.holds Try.pinned (OpenSpec.ofChange puzzlesHungWrong)

/-- 'padlocklaw03.PuzzlesRolls': WHATEVER THE INPUT: true; the input reads as it did. -/
def puzzlesRollsSpec : ChangeSpec := { name := "puzzlesRolls", fn := fun _ => fun
  | [d1, d2] => { results := [.lit (.bool true)], args := [d1, d2] }
  | _ => none }
def puzzlesRollsRow : OpenClaim := { program := "ytcpmcebdolcldaa", sum := "4447ac95ed9f0bba93fd4da657be2458ca8281aab9f31a7ca762df0a0a05c0f9", func := "padlock/padlocklaw03.PuzzlesRolls", spec := "puzzlesRolls", unfollowed := true, recurses := true, apart := false }
def PuzzlesRollsSaid : Prop := puzzlesRollsRow.holds Try.pinned (OpenSpec.ofChange puzzlesRollsSpec)

/-- ITS FALSE NEIGHBOUR: 'it returns false'. Refute it at one input. -/
def puzzlesRollsWrong : ChangeSpec := { name := "puzzlesRolls", fn := fun _ => fun
  | [d1, d2] => { results := [.lit (.bool false)], args := [d1, d2] }
  | _ => none }
def PuzzlesRollsWrongFalsely : Prop := puzzlesRollsRow.holds Try.pinned (OpenSpec.ofChange puzzlesRollsWrong)

/-- 'padlocklaw03.PuzzlesThrough': WHATEVER THE INPUT: true; the input reads as it did. -/
def puzzlesThroughSpec : ChangeSpec := { name := "puzzlesThrough", fn := fun _ => fun
  | [d1, d2] => { results := [.lit (.bool true)], args := [d1, d2] }
  | _ => none }
def puzzlesThroughRow : OpenClaim := { program := "ytcpmcebdolcldaa", sum := "4447ac95ed9f0bba93fd4da657be2458ca8281aab9f31a7ca762df0a0a05c0f9", func := "padlock/padlocklaw03.PuzzlesThrough", spec := "puzzlesThrough", unfollowed := true, recurses := true, apart := false }
def PuzzlesThroughSaid : Prop := puzzlesThroughRow.holds Try.pinned (OpenSpec.ofChange puzzlesThroughSpec)

/-- ITS FALSE NEIGHBOUR: 'it returns false'. Refute it at one input. -/
def puzzlesThroughWrong : ChangeSpec := { name := "puzzlesThrough", fn := fun _ => fun
  | [d1, d2] => { results := [.lit (.bool false)], args := [d1, d2] }
  | _ => none }
def PuzzlesThroughWrongFalsely : Prop := puzzlesThroughRow.holds Try.pinned (OpenSpec.ofChange puzzlesThroughWrong)

/- THE SECOND FORM. 'bulk': how many values and letters a reading holds, each counted each time it is reached (what is shared counts as often as it is met; a slice's spare places count too). A statement '..UptoSaid' is the law's where the arguments, and the package variables that the reading takes, are together of bulk at most 1048576: NARROWER than '..Said'. Prove '..Said' where nothing that the law and all that it calls make is longer than what came in: it says more and counts as full. Else prove '..UptoSaid'. A law counts once. -/
mutual
def uptoBulk {H : Type} : DataW H → Nat
  | .lit (.string bytes) => bytes.length + 1
  | .lit _ => 1
  | .nil => 1
  | .ptr d => uptoBulk d + 1
  | .slice elems spare => uptoBulkAll elems + uptoBulkAll spare + 1
  | .agg parts => uptoBulkAll parts + 1
  | .iface _ d => uptoBulk d + 1
  | .map entries => uptoBulkEntries entries + 1
  | .held _ => 1
def uptoBulkAll {H : Type} : List (DataW H) → Nat
  | [] => 0
  | d :: r => uptoBulk d + uptoBulkAll r
def uptoBulkEntries {H : Type} : List (Lit × DataW H) → Nat
  | [] => 0
  | x :: r => uptoBulkEntry x + uptoBulkEntries r
def uptoBulkEntry {H : Type} : Lit × DataW H → Nat
  | (.string bytes, d) => bytes.length + uptoBulk d + 1
  | (_, d) => uptoBulk d + 1
 end
def uptoSmall : (H : Type) → List (DataW H) → Bool := fun _ ds => decide (uptoBulkAll ds ≤ 1048576)
def OpenSpec.upto (s : _root_.Go.ChangeSpec) : _root_.Go.OpenSpec := { _root_.Go.OpenSpec.ofChange s with cond := some uptoSmall }

/-- 'padlocklaw03.PuzzlesHangs', WHERE WHAT IT READS IS OF BULK AT MOST 1048576: true; the input reads as it did. -/
def puzzlesHangsUptoRow : OpenClaim := { program := "ytcpmcebdolcldaa", sum := "4447ac95ed9f0bba93fd4da657be2458ca8281aab9f31a7ca762df0a0a05c0f9", func := "padlock/padlocklaw03.PuzzlesHangs", spec := "puzzlesHangs", unfollowed := true, recurses := true, apart := false, narrowed := true }
def PuzzlesHangsUptoSaid : Prop := puzzlesHangsUptoRow.holds Try.pinned (OpenSpec.upto puzzlesHangsSpec)

/-- 'padlocklaw03.PuzzlesHung', WHERE WHAT IT READS IS OF BULK AT MOST 1048576: true; the input reads as it did. -/
def puzzlesHungUptoRow : OpenClaim := { program := "ytcpmcebdolcldaa", sum := "4447ac95ed9f0bba93fd4da657be2458ca8281aab9f31a7ca762df0a0a05c0f9", func := "padlock/padlocklaw03.PuzzlesHung", spec := "puzzlesHung", unfollowed := true, recurses := true, apart := false, narrowed := true }
def PuzzlesHungUptoSaid : Prop := puzzlesHungUptoRow.holds Try.pinned (OpenSpec.upto puzzlesHungSpec)

/-- 'padlocklaw03.PuzzlesRolls', WHERE WHAT IT READS IS OF BULK AT MOST 1048576: true; the input reads as it did. -/
def puzzlesRollsUptoRow : OpenClaim := { program := "ytcpmcebdolcldaa", sum := "4447ac95ed9f0bba93fd4da657be2458ca8281aab9f31a7ca762df0a0a05c0f9", func := "padlock/padlocklaw03.PuzzlesRolls", spec := "puzzlesRolls", unfollowed := true, recurses := true, apart := false, narrowed := true }
def PuzzlesRollsUptoSaid : Prop := puzzlesRollsUptoRow.holds Try.pinned (OpenSpec.upto puzzlesRollsSpec)

/-- 'padlocklaw03.PuzzlesThrough', WHERE WHAT IT READS IS OF BULK AT MOST 1048576: true; the input reads as it did. -/
def puzzlesThroughUptoRow : OpenClaim := { program := "ytcpmcebdolcldaa", sum := "4447ac95ed9f0bba93fd4da657be2458ca8281aab9f31a7ca762df0a0a05c0f9", func := "padlock/padlocklaw03.PuzzlesThrough", spec := "puzzlesThrough", unfollowed := true, recurses := true, apart := false, narrowed := true }
def PuzzlesThroughUptoSaid : Prop := puzzlesThroughUptoRow.holds Try.pinned (OpenSpec.upto puzzlesThroughSpec)

end Rows
end Go.Proofs.Ytcpmcebdolcldaa
