/-
  No cell of these rows narrows 'for every input' (looked for: loops, veiled, ifaces, maps, wideKeys, modest, calm, conditions, laid).
  DERIVED. THE GIVEN ROWS OF THIS SEAT. 12 by the template 'for every input the law returns true; each argument reads behind the call as it read before'; 0 by the template 'total and deterministic' (their statements: YtmdkhbmhgcdpaaaTotals.lean).
  GIVEN WITH THE SEED: the statements are not yours to turn. If you find one false, say at which input.
  Laid BY PROGRAM, IN A SANDBOX (cutbox-rows.mjs): the forced cells as the released guide's own fill.sh prints them over the translation 8d375de2d637b55a… (all of the seat's roots in one cut). By AI agents, Wed Nov 11 2026. No macro, syntax, notation, axiom, sorry.
-/
import Derived.Test.YtmdkhbmhgcdpaaaChecked
import GoSem.Claim
import GoSem.ClaimJoined
import GoSem.ClaimMapViews
import Derived.JoinedTies
import Derived.KernelRfl
namespace Go.Proofs.Ytmdkhbmhgcdpaaa
/- THE CELL 'sum', in the pinned program and in every row, IS THE sha256 OF THE DUMP (.gsa) THAT YtmdkhbmhgcdpaaaProg.lean LOADS. Nothing in Lean hashes anything: it is a label: what it is worth is what the hold of that sum in a sandbox is worth. -/
noncomputable def Try.pinned : Pinned := { name := "ytmdkhbmhgcdpaaa", sum := "8d375de2d637b55a7b20bfd0f61c1f0ee665e5f295986125148ee68183159d34", checked := Try.checked }
namespace Rows
def none {H : Type} : Left H := { results := [], args := [] }

/-- 'padlocklaw03.PuzzlesNext': WHATEVER THE INPUT: true; the input reads as it did. -/
def puzzlesNextSpec : ChangeSpec := { name := "puzzlesNext", fn := fun _ => fun
  | [d] => { results := [.lit (.bool true)], args := [d] }
  | _ => none }
def puzzlesNextRow : OpenClaim := { program := "ytmdkhbmhgcdpaaa", sum := "8d375de2d637b55a7b20bfd0f61c1f0ee665e5f295986125148ee68183159d34", func := "padlock/padlocklaw03.PuzzlesNext", spec := "puzzlesNext", unfollowed := true, recurses := true, apart := false }
def PuzzlesNextSaid : Prop := puzzlesNextRow.holds Try.pinned (OpenSpec.ofChange puzzlesNextSpec)

/-- ITS FALSE NEIGHBOUR: 'it returns false'. Refute it at one input. -/
def puzzlesNextWrong : ChangeSpec := { name := "puzzlesNext", fn := fun _ => fun
  | [d] => { results := [.lit (.bool false)], args := [d] }
  | _ => none }
def PuzzlesNextWrongFalsely : Prop := puzzlesNextRow.holds Try.pinned (OpenSpec.ofChange puzzlesNextWrong)

/-- 'padlocklaw03.PuzzlesPowers': WHATEVER THE INPUT: true; the input reads as it did. -/
def puzzlesPowersSpec : ChangeSpec := { name := "puzzlesPowers", fn := fun _ => fun
  | [d1, d2] => { results := [.lit (.bool true)], args := [d1, d2] }
  | _ => none }
def puzzlesPowersRow : OpenClaim := { program := "ytmdkhbmhgcdpaaa", sum := "8d375de2d637b55a7b20bfd0f61c1f0ee665e5f295986125148ee68183159d34", func := "padlock/padlocklaw03.PuzzlesPowers", spec := "puzzlesPowers", unfollowed := true, recurses := true, apart := false }
def PuzzlesPowersSaid : Prop := puzzlesPowersRow.holds Try.pinned (OpenSpec.ofChange puzzlesPowersSpec)

/-- ITS FALSE NEIGHBOUR: 'it returns false'. Refute it at one input. -/
def puzzlesPowersWrong : ChangeSpec := { name := "puzzlesPowers", fn := fun _ => fun
  | [d1, d2] => { results := [.lit (.bool false)], args := [d1, d2] }
  | _ => none }
def PuzzlesPowersWrongFalsely : Prop := puzzlesPowersRow.holds Try.pinned (OpenSpec.ofChange puzzlesPowersWrong)

/-- 'padlocklaw03.PuzzlesWeighs': WHATEVER THE INPUT: true; the input reads as it did. -/
def puzzlesWeighsSpec : ChangeSpec := { name := "puzzlesWeighs", fn := fun _ => fun
  | [d1, d2, d3] => { results := [.lit (.bool true)], args := [d1, d2, d3] }
  | _ => none }
def puzzlesWeighsRow : OpenClaim := { program := "ytmdkhbmhgcdpaaa", sum := "8d375de2d637b55a7b20bfd0f61c1f0ee665e5f295986125148ee68183159d34", func := "padlock/padlocklaw03.PuzzlesWeighs", spec := "puzzlesWeighs", unfollowed := true, recurses := true, apart := false }
def PuzzlesWeighsSaid : Prop := puzzlesWeighsRow.holds Try.pinned (OpenSpec.ofChange puzzlesWeighsSpec)

/-- ITS FALSE NEIGHBOUR: 'it returns false'. Refute it at one input. -/
def puzzlesWeighsWrong : ChangeSpec := { name := "puzzlesWeighs", fn := fun _ => fun
  | [d1, d2, d3] => { results := [.lit (.bool false)], args := [d1, d2, d3] }
  | _ => none }
def PuzzlesWeighsWrongFalsely : Prop := puzzlesWeighsRow.holds Try.pinned (OpenSpec.ofChange puzzlesWeighsWrong)

/-- 'padlocklaw03.PuzzlesLightest': WHATEVER THE INPUT: true; the input reads as it did. -/
def puzzlesLightestSpec : ChangeSpec := { name := "puzzlesLightest", fn := fun _ => fun
  | [d1, d2, d3] => { results := [.lit (.bool true)], args := [d1, d2, d3] }
  | _ => none }
def puzzlesLightestRow : OpenClaim := { program := "ytmdkhbmhgcdpaaa", sum := "8d375de2d637b55a7b20bfd0f61c1f0ee665e5f295986125148ee68183159d34", func := "padlock/padlocklaw03.PuzzlesLightest", spec := "puzzlesLightest", unfollowed := true, recurses := true, apart := false }
def PuzzlesLightestSaid : Prop := puzzlesLightestRow.holds Try.pinned (OpenSpec.ofChange puzzlesLightestSpec)

/-- ITS FALSE NEIGHBOUR: 'it returns false'. Refute it at one input. -/
def puzzlesLightestWrong : ChangeSpec := { name := "puzzlesLightest", fn := fun _ => fun
  | [d1, d2, d3] => { results := [.lit (.bool false)], args := [d1, d2, d3] }
  | _ => none }
def PuzzlesLightestWrongFalsely : Prop := puzzlesLightestRow.holds Try.pinned (OpenSpec.ofChange puzzlesLightestWrong)

/-- 'padlocklaw03.PuzzlesMelodies': WHATEVER THE INPUT: true; the input reads as it did. -/
def puzzlesMelodiesSpec : ChangeSpec := { name := "puzzlesMelodies", fn := fun _ => fun
  | [d1, d2, d3] => { results := [.lit (.bool true)], args := [d1, d2, d3] }
  | _ => none }
def puzzlesMelodiesRow : OpenClaim := { program := "ytmdkhbmhgcdpaaa", sum := "8d375de2d637b55a7b20bfd0f61c1f0ee665e5f295986125148ee68183159d34", func := "padlock/padlocklaw03.PuzzlesMelodies", spec := "puzzlesMelodies", unfollowed := true, recurses := true, apart := false }
def PuzzlesMelodiesSaid : Prop := puzzlesMelodiesRow.holds Try.pinned (OpenSpec.ofChange puzzlesMelodiesSpec)

/-- ITS FALSE NEIGHBOUR: 'it returns false'. Refute it at one input. -/
def puzzlesMelodiesWrong : ChangeSpec := { name := "puzzlesMelodies", fn := fun _ => fun
  | [d1, d2, d3] => { results := [.lit (.bool false)], args := [d1, d2, d3] }
  | _ => none }
def PuzzlesMelodiesWrongFalsely : Prop := puzzlesMelodiesRow.holds Try.pinned (OpenSpec.ofChange puzzlesMelodiesWrong)

/-- 'padlocklaw03.PuzzlesHeard': WHATEVER THE INPUT: true; the input reads as it did. -/
def puzzlesHeardSpec : ChangeSpec := { name := "puzzlesHeard", fn := fun _ => fun
  | [d1, d2, d3] => { results := [.lit (.bool true)], args := [d1, d2, d3] }
  | _ => none }
def puzzlesHeardRow : OpenClaim := { program := "ytmdkhbmhgcdpaaa", sum := "8d375de2d637b55a7b20bfd0f61c1f0ee665e5f295986125148ee68183159d34", func := "padlock/padlocklaw03.PuzzlesHeard", spec := "puzzlesHeard", unfollowed := true, recurses := true, apart := false }
def PuzzlesHeardSaid : Prop := puzzlesHeardRow.holds Try.pinned (OpenSpec.ofChange puzzlesHeardSpec)

/-- ITS FALSE NEIGHBOUR: 'it returns false'. Refute it at one input. -/
def puzzlesHeardWrong : ChangeSpec := { name := "puzzlesHeard", fn := fun _ => fun
  | [d1, d2, d3] => { results := [.lit (.bool false)], args := [d1, d2, d3] }
  | _ => none }
def PuzzlesHeardWrongFalsely : Prop := puzzlesHeardRow.holds Try.pinned (OpenSpec.ofChange puzzlesHeardWrong)

/-- 'padlocklaw03.PuzzlesFlows': WHATEVER THE INPUT: true; the input reads as it did. -/
def puzzlesFlowsSpec : ChangeSpec := { name := "puzzlesFlows", fn := fun _ => fun
  | [d1, d2] => { results := [.lit (.bool true)], args := [d1, d2] }
  | _ => none }
def puzzlesFlowsRow : OpenClaim := { program := "ytmdkhbmhgcdpaaa", sum := "8d375de2d637b55a7b20bfd0f61c1f0ee665e5f295986125148ee68183159d34", func := "padlock/padlocklaw03.PuzzlesFlows", spec := "puzzlesFlows", unfollowed := true, recurses := true, apart := false }
def PuzzlesFlowsSaid : Prop := puzzlesFlowsRow.holds Try.pinned (OpenSpec.ofChange puzzlesFlowsSpec)

/-- ITS FALSE NEIGHBOUR: 'it returns false'. Refute it at one input. -/
def puzzlesFlowsWrong : ChangeSpec := { name := "puzzlesFlows", fn := fun _ => fun
  | [d1, d2] => { results := [.lit (.bool false)], args := [d1, d2] }
  | _ => none }
def PuzzlesFlowsWrongFalsely : Prop := puzzlesFlowsRow.holds Try.pinned (OpenSpec.ofChange puzzlesFlowsWrong)

/-- 'padlocklaw03.PuzzlesPlumbs': WHATEVER THE INPUT: true; the input reads as it did. -/
def puzzlesPlumbsSpec : ChangeSpec := { name := "puzzlesPlumbs", fn := fun _ => fun
  | [d] => { results := [.lit (.bool true)], args := [d] }
  | _ => none }
def puzzlesPlumbsRow : OpenClaim := { program := "ytmdkhbmhgcdpaaa", sum := "8d375de2d637b55a7b20bfd0f61c1f0ee665e5f295986125148ee68183159d34", func := "padlock/padlocklaw03.PuzzlesPlumbs", spec := "puzzlesPlumbs", unfollowed := true, recurses := true, apart := false }
def PuzzlesPlumbsSaid : Prop := puzzlesPlumbsRow.holds Try.pinned (OpenSpec.ofChange puzzlesPlumbsSpec)

/-- ITS FALSE NEIGHBOUR: 'it returns false'. Refute it at one input. -/
def puzzlesPlumbsWrong : ChangeSpec := { name := "puzzlesPlumbs", fn := fun _ => fun
  | [d] => { results := [.lit (.bool false)], args := [d] }
  | _ => none }
def PuzzlesPlumbsWrongFalsely : Prop := puzzlesPlumbsRow.holds Try.pinned (OpenSpec.ofChange puzzlesPlumbsWrong)

/-- 'padlocklaw03.PuzzlesDry': WHATEVER THE INPUT: true; the input reads as it did. -/
def puzzlesDrySpec : ChangeSpec := { name := "puzzlesDry", fn := fun _ => fun
  | [d1, d2] => { results := [.lit (.bool true)], args := [d1, d2] }
  | _ => none }
def puzzlesDryRow : OpenClaim := { program := "ytmdkhbmhgcdpaaa", sum := "8d375de2d637b55a7b20bfd0f61c1f0ee665e5f295986125148ee68183159d34", func := "padlock/padlocklaw03.PuzzlesDry", spec := "puzzlesDry", unfollowed := true, recurses := true, apart := false }
def PuzzlesDrySaid : Prop := puzzlesDryRow.holds Try.pinned (OpenSpec.ofChange puzzlesDrySpec)

/-- ITS FALSE NEIGHBOUR: 'it returns false'. Refute it at one input. -/
def puzzlesDryWrong : ChangeSpec := { name := "puzzlesDry", fn := fun _ => fun
  | [d1, d2] => { results := [.lit (.bool false)], args := [d1, d2] }
  | _ => none }
def PuzzlesDryWrongFalsely : Prop := puzzlesDryRow.holds Try.pinned (OpenSpec.ofChange puzzlesDryWrong)

/-- 'padlocklaw03.PuzzlesSheets': WHATEVER THE INPUT: true; the input reads as it did. -/
def puzzlesSheetsSpec : ChangeSpec := { name := "puzzlesSheets", fn := fun _ => fun
  | [d1, d2, d3] => { results := [.lit (.bool true)], args := [d1, d2, d3] }
  | _ => none }
def puzzlesSheetsRow : OpenClaim := { program := "ytmdkhbmhgcdpaaa", sum := "8d375de2d637b55a7b20bfd0f61c1f0ee665e5f295986125148ee68183159d34", func := "padlock/padlocklaw03.PuzzlesSheets", spec := "puzzlesSheets", inPlace := ["internal/abi.NoEscape"], unfollowed := true, recurses := true, apart := false }
def PuzzlesSheetsSaid : Prop := puzzlesSheetsRow.holds Try.pinned (OpenSpec.ofChange puzzlesSheetsSpec)

/-- ITS FALSE NEIGHBOUR: 'it returns false'. Refute it at one input. -/
def puzzlesSheetsWrong : ChangeSpec := { name := "puzzlesSheets", fn := fun _ => fun
  | [d1, d2, d3] => { results := [.lit (.bool false)], args := [d1, d2, d3] }
  | _ => none }
def PuzzlesSheetsWrongFalsely : Prop := puzzlesSheetsRow.holds Try.pinned (OpenSpec.ofChange puzzlesSheetsWrong)

/-- 'padlocklaw03.PuzzlesCiphers': WHATEVER THE INPUT: true; the input reads as it did. -/
def puzzlesCiphersSpec : ChangeSpec := { name := "puzzlesCiphers", fn := fun _ => fun
  | [d1, d2, d3] => { results := [.lit (.bool true)], args := [d1, d2, d3] }
  | _ => none }
def puzzlesCiphersRow : OpenClaim := { program := "ytmdkhbmhgcdpaaa", sum := "8d375de2d637b55a7b20bfd0f61c1f0ee665e5f295986125148ee68183159d34", func := "padlock/padlocklaw03.PuzzlesCiphers", spec := "puzzlesCiphers", inPlace := ["internal/bytealg.IndexByteString", "internal/bytealg.IndexString"], unfollowed := true, recurses := true, named := ["internal/bytealg.MaxLen"], apart := false }
def PuzzlesCiphersSaid : Prop := puzzlesCiphersRow.holds Try.pinned (OpenSpec.ofChange puzzlesCiphersSpec)

/-- ITS FALSE NEIGHBOUR: 'it returns false'. Refute it at one input. -/
def puzzlesCiphersWrong : ChangeSpec := { name := "puzzlesCiphers", fn := fun _ => fun
  | [d1, d2, d3] => { results := [.lit (.bool false)], args := [d1, d2, d3] }
  | _ => none }
def PuzzlesCiphersWrongFalsely : Prop := puzzlesCiphersRow.holds Try.pinned (OpenSpec.ofChange puzzlesCiphersWrong)

/-- 'padlocklaw03.PuzzlesBack': WHATEVER THE INPUT: true; the input reads as it did. -/
def puzzlesBackSpec : ChangeSpec := { name := "puzzlesBack", fn := fun _ => fun
  | [d1, d2, d3] => { results := [.lit (.bool true)], args := [d1, d2, d3] }
  | _ => none }
def puzzlesBackRow : OpenClaim := { program := "ytmdkhbmhgcdpaaa", sum := "8d375de2d637b55a7b20bfd0f61c1f0ee665e5f295986125148ee68183159d34", func := "padlock/padlocklaw03.PuzzlesBack", spec := "puzzlesBack", inPlace := ["internal/bytealg.IndexByteString", "internal/bytealg.IndexString"], unfollowed := true, recurses := true, named := ["internal/bytealg.MaxLen"], apart := false }
def PuzzlesBackSaid : Prop := puzzlesBackRow.holds Try.pinned (OpenSpec.ofChange puzzlesBackSpec)

/-- ITS FALSE NEIGHBOUR: 'it returns false'. Refute it at one input. -/
def puzzlesBackWrong : ChangeSpec := { name := "puzzlesBack", fn := fun _ => fun
  | [d1, d2, d3] => { results := [.lit (.bool false)], args := [d1, d2, d3] }
  | _ => none }
def PuzzlesBackWrongFalsely : Prop := puzzlesBackRow.holds Try.pinned (OpenSpec.ofChange puzzlesBackWrong)

/- THE SECOND FORM. 'bulk': how many values and letters a reading holds, each counted each time it is reached (what is shared counts as often as it is met; a slice's spare places count too). A statement '..UptoSaid' is the law's where the arguments, and the package variables that the reading takes, are together of bulk at most 1048576: NARROWER than '..Said'. Prove '..Said' where nothing that the law and all that it calls make is longer than what came in: it says more and counts as full. Else prove '..UptoSaid'. A law counts once. -/
mutual
def uptoBulk {H : Type} : DataW H → Nat
  | .lit (.string bytes) => bytes.length + 1
  | .lit _ => 1
  | .nil => 1
  | .ptr d => uptoBulk d + 1
  | .slice elems spare => uptoBulkAll elems + uptoBulkAll spare + 1
  | .agg parts => uptoBulkAll parts + 1
  | .iface _ d => uptoBulk d + 1
  | .map entries => uptoBulkEntries entries + 1
  | .held _ => 1
def uptoBulkAll {H : Type} : List (DataW H) → Nat
  | [] => 0
  | d :: r => uptoBulk d + uptoBulkAll r
def uptoBulkEntries {H : Type} : List (Lit × DataW H) → Nat
  | [] => 0
  | x :: r => uptoBulkEntry x + uptoBulkEntries r
def uptoBulkEntry {H : Type} : Lit × DataW H → Nat
  | (.string bytes, d) => bytes.length + uptoBulk d + 1
  | (_, d) => uptoBulk d + 1
 end
def uptoSmall : (H : Type) → List (DataW H) → Bool := fun _ ds => decide (uptoBulkAll ds ≤ 1048576)
def OpenSpec.upto (s : _root_.Go.ChangeSpec) : _root_.Go.OpenSpec := { _root_.Go.OpenSpec.ofChange s with cond := some uptoSmall }

/-- 'padlocklaw03.PuzzlesNext', WHERE WHAT IT READS IS OF BULK AT MOST 1048576: true; the input reads as it did. -/
def puzzlesNextUptoRow : OpenClaim := { program := "ytmdkhbmhgcdpaaa", sum := "8d375de2d637b55a7b20bfd0f61c1f0ee665e5f295986125148ee68183159d34", func := "padlock/padlocklaw03.PuzzlesNext", spec := "puzzlesNext", unfollowed := true, recurses := true, apart := false, narrowed := true }
def PuzzlesNextUptoSaid : Prop := puzzlesNextUptoRow.holds Try.pinned (OpenSpec.upto puzzlesNextSpec)

/-- 'padlocklaw03.PuzzlesPowers', WHERE WHAT IT READS IS OF BULK AT MOST 1048576: true; the input reads as it did. -/
def puzzlesPowersUptoRow : OpenClaim := { program := "ytmdkhbmhgcdpaaa", sum := "8d375de2d637b55a7b20bfd0f61c1f0ee665e5f295986125148ee68183159d34", func := "padlock/padlocklaw03.PuzzlesPowers", spec := "puzzlesPowers", unfollowed := true, recurses := true, apart := false, narrowed := true }
def PuzzlesPowersUptoSaid : Prop := puzzlesPowersUptoRow.holds Try.pinned (OpenSpec.upto puzzlesPowersSpec)

/-- 'padlocklaw03.PuzzlesWeighs', WHERE WHAT IT READS IS OF BULK AT MOST 1048576: true; the input reads as it did. -/
def puzzlesWeighsUptoRow : OpenClaim := { program := "ytmdkhbmhgcdpaaa", sum := "8d375de2d637b55a7b20bfd0f61c1f0ee665e5f295986125148ee68183159d34", func := "padlock/padlocklaw03.PuzzlesWeighs", spec := "puzzlesWeighs", unfollowed := true, recurses := true, apart := false, narrowed := true }
def PuzzlesWeighsUptoSaid : Prop := puzzlesWeighsUptoRow.holds Try.pinned (OpenSpec.upto puzzlesWeighsSpec)

/-- 'padlocklaw03.PuzzlesLightest', WHERE WHAT IT READS IS OF BULK AT MOST 1048576: true; the input reads as it did. -/
def puzzlesLightestUptoRow : OpenClaim := { program := "ytmdkhbmhgcdpaaa", sum := "8d375de2d637b55a7b20bfd0f61c1f0ee665e5f295986125148ee68183159d34", func := "padlock/padlocklaw03.PuzzlesLightest", spec := "puzzlesLightest", unfollowed := true, recurses := true, apart := false, narrowed := true }
def PuzzlesLightestUptoSaid : Prop := puzzlesLightestUptoRow.holds Try.pinned (OpenSpec.upto puzzlesLightestSpec)

/-- 'padlocklaw03.PuzzlesMelodies', WHERE WHAT IT READS IS OF BULK AT MOST 1048576: true; the input reads as it did. -/
def puzzlesMelodiesUptoRow : OpenClaim := { program := "ytmdkhbmhgcdpaaa", sum := "8d375de2d637b55a7b20bfd0f61c1f0ee665e5f295986125148ee68183159d34", func := "padlock/padlocklaw03.PuzzlesMelodies", spec := "puzzlesMelodies", unfollowed := true, recurses := true, apart := false, narrowed := true }
def PuzzlesMelodiesUptoSaid : Prop := puzzlesMelodiesUptoRow.holds Try.pinned (OpenSpec.upto puzzlesMelodiesSpec)

/-- 'padlocklaw03.PuzzlesHeard', WHERE WHAT IT READS IS OF BULK AT MOST 1048576: true; the input reads as it did. -/
def puzzlesHeardUptoRow : OpenClaim := { program := "ytmdkhbmhgcdpaaa", sum := "8d375de2d637b55a7b20bfd0f61c1f0ee665e5f295986125148ee68183159d34", func := "padlock/padlocklaw03.PuzzlesHeard", spec := "puzzlesHeard", unfollowed := true, recurses := true, apart := false, narrowed := true }
def PuzzlesHeardUptoSaid : Prop := puzzlesHeardUptoRow.holds Try.pinned (OpenSpec.upto puzzlesHeardSpec)

/-- 'padlocklaw03.PuzzlesFlows', WHERE WHAT IT READS IS OF BULK AT MOST 1048576: true; the input reads as it did. -/
def puzzlesFlowsUptoRow : OpenClaim := { program := "ytmdkhbmhgcdpaaa", sum := "8d375de2d637b55a7b20bfd0f61c1f0ee665e5f295986125148ee68183159d34", func := "padlock/padlocklaw03.PuzzlesFlows", spec := "puzzlesFlows", unfollowed := true, recurses := true, apart := false, narrowed := true }
def PuzzlesFlowsUptoSaid : Prop := puzzlesFlowsUptoRow.holds Try.pinned (OpenSpec.upto puzzlesFlowsSpec)

/-- 'padlocklaw03.PuzzlesPlumbs', WHERE WHAT IT READS IS OF BULK AT MOST 1048576: true; the input reads as it did. -/
def puzzlesPlumbsUptoRow : OpenClaim := { program := "ytmdkhbmhgcdpaaa", sum := "8d375de2d637b55a7b20bfd0f61c1f0ee665e5f295986125148ee68183159d34", func := "padlock/padlocklaw03.PuzzlesPlumbs", spec := "puzzlesPlumbs", unfollowed := true, recurses := true, apart := false, narrowed := true }
def PuzzlesPlumbsUptoSaid : Prop := puzzlesPlumbsUptoRow.holds Try.pinned (OpenSpec.upto puzzlesPlumbsSpec)

/-- 'padlocklaw03.PuzzlesDry', WHERE WHAT IT READS IS OF BULK AT MOST 1048576: true; the input reads as it did. -/
def puzzlesDryUptoRow : OpenClaim := { program := "ytmdkhbmhgcdpaaa", sum := "8d375de2d637b55a7b20bfd0f61c1f0ee665e5f295986125148ee68183159d34", func := "padlock/padlocklaw03.PuzzlesDry", spec := "puzzlesDry", unfollowed := true, recurses := true, apart := false, narrowed := true }
def PuzzlesDryUptoSaid : Prop := puzzlesDryUptoRow.holds Try.pinned (OpenSpec.upto puzzlesDrySpec)

/-- 'padlocklaw03.PuzzlesSheets', WHERE WHAT IT READS IS OF BULK AT MOST 1048576: true; the input reads as it did. -/
def puzzlesSheetsUptoRow : OpenClaim := { program := "ytmdkhbmhgcdpaaa", sum := "8d375de2d637b55a7b20bfd0f61c1f0ee665e5f295986125148ee68183159d34", func := "padlock/padlocklaw03.PuzzlesSheets", spec := "puzzlesSheets", inPlace := ["internal/abi.NoEscape"], unfollowed := true, recurses := true, apart := false, narrowed := true }
def PuzzlesSheetsUptoSaid : Prop := puzzlesSheetsUptoRow.holds Try.pinned (OpenSpec.upto puzzlesSheetsSpec)

/-- 'padlocklaw03.PuzzlesCiphers', WHERE WHAT IT READS IS OF BULK AT MOST 1048576: true; the input reads as it did. -/
def puzzlesCiphersUptoRow : OpenClaim := { program := "ytmdkhbmhgcdpaaa", sum := "8d375de2d637b55a7b20bfd0f61c1f0ee665e5f295986125148ee68183159d34", func := "padlock/padlocklaw03.PuzzlesCiphers", spec := "puzzlesCiphers", inPlace := ["internal/bytealg.IndexByteString", "internal/bytealg.IndexString"], unfollowed := true, recurses := true, named := ["internal/bytealg.MaxLen"], apart := false, narrowed := true }
def PuzzlesCiphersUptoSaid : Prop := puzzlesCiphersUptoRow.holds Try.pinned (OpenSpec.upto puzzlesCiphersSpec)

/-- 'padlocklaw03.PuzzlesBack', WHERE WHAT IT READS IS OF BULK AT MOST 1048576: true; the input reads as it did. -/
def puzzlesBackUptoRow : OpenClaim := { program := "ytmdkhbmhgcdpaaa", sum := "8d375de2d637b55a7b20bfd0f61c1f0ee665e5f295986125148ee68183159d34", func := "padlock/padlocklaw03.PuzzlesBack", spec := "puzzlesBack", inPlace := ["internal/bytealg.IndexByteString", "internal/bytealg.IndexString"], unfollowed := true, recurses := true, named := ["internal/bytealg.MaxLen"], apart := false, narrowed := true }
def PuzzlesBackUptoSaid : Prop := puzzlesBackUptoRow.holds Try.pinned (OpenSpec.upto puzzlesBackSpec)

end Rows
end Go.Proofs.Ytmdkhbmhgcdpaaa
