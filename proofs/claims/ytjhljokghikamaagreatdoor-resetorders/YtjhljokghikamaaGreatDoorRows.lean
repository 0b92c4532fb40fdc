/-
  NARROWER THAN 'FOR EVERY INPUT', by the rows' own cells (each row's printed sentence says how): ResetLeast: laid · ResetFirst: laid · ResetWrong: laid · ResetPhotos: laid · ResetChecks: laid · ResetFewest: laid · ResetCompares: laid · ResetDiffers: laid · ResetBack: laid · ResetOrders: laid.
  DERIVED. THE GIVEN ROWS OF THIS SEAT. 10 by the template 'for every input the law returns true; each argument reads behind the call as it read before'; 0 by the template 'total and deterministic' (their statements: YtjhljokghikamaaGreatDoorTotals.lean).
  GIVEN WITH THE SEED: the statements are not yours to turn. If you find one false, say at which input.
  Laid BY PROGRAM, IN A SANDBOX (cutbox-rows.mjs): the forced cells as the released guide's own fill.sh prints them over the translation b8b40129f367e8a2… (all of the seat's roots in one cut). By AI agents, Wed Nov 11 2026. No macro, syntax, notation, axiom, sorry.
-/
import Derived.Test.YtjhljokghikamaaGreatDoorChecked
import GoSem.Claim
import GoSem.ClaimJoined
import GoSem.ClaimMapViews
import Derived.JoinedTies
import Derived.KernelRfl
namespace Go.Proofs.YtjhljokghikamaaGreatDoor
/- THE CELL 'sum', in the pinned program and in every row, IS THE sha256 OF THE DUMP (.gsa) THAT YtjhljokghikamaaGreatDoorProg.lean LOADS. Nothing in Lean hashes anything: it is a label: what it is worth is what the hold of that sum in a sandbox is worth. -/
noncomputable def Tryz.pinned : Pinned := { name := "ytjhljokghikamaagreatdoor", sum := "b8b40129f367e8a21dcb1216aad99dd42b7c0f58b9a73b4bd5fcd9c1d2527545", checked := Tryz.checked }
namespace Rows
def none {H : Type} : Left H := { results := [], args := [] }

/- WHAT THE LISTED PACKAGE-LEVEL VARIABLES READ AS WHEN THE CALL BEGINS. Each datum BY PROGRAM (the guide's laid-datum.mjs) off the statement by which the dump's own 'gosem.cut.vars' lays the variable. In a bare row this is a premise. The card (YtjhljokghikamaaGreatDoorCards.lean) ties it to the program's text. -/
def laid_math_bits_deBruijn32tab {H : Type} : DataW H := .agg [.lit (.int .u8 0), .lit (.int .u8 1), .lit (.int .u8 28), .lit (.int .u8 2), .lit (.int .u8 29), .lit (.int .u8 14), .lit (.int .u8 24), .lit (.int .u8 3), .lit (.int .u8 30), .lit (.int .u8 22), .lit (.int .u8 20), .lit (.int .u8 15), .lit (.int .u8 25), .lit (.int .u8 17), .lit (.int .u8 4), .lit (.int .u8 8), .lit (.int .u8 31), .lit (.int .u8 27), .lit (.int .u8 13), .lit (.int .u8 23), .lit (.int .u8 21), .lit (.int .u8 19), .lit (.int .u8 16), .lit (.int .u8 7), .lit (.int .u8 26), .lit (.int .u8 12), .lit (.int .u8 18), .lit (.int .u8 6), .lit (.int .u8 11), .lit (.int .u8 5), .lit (.int .u8 10), .lit (.int .u8 9)]
def laid_math_bits_deBruijn64tab {H : Type} : DataW H := .agg [.lit (.int .u8 0), .lit (.int .u8 1), .lit (.int .u8 56), .lit (.int .u8 2), .lit (.int .u8 57), .lit (.int .u8 49), .lit (.int .u8 28), .lit (.int .u8 3), .lit (.int .u8 61), .lit (.int .u8 58), .lit (.int .u8 42), .lit (.int .u8 50), .lit (.int .u8 38), .lit (.int .u8 29), .lit (.int .u8 17), .lit (.int .u8 4), .lit (.int .u8 62), .lit (.int .u8 47), .lit (.int .u8 59), .lit (.int .u8 36), .lit (.int .u8 45), .lit (.int .u8 43), .lit (.int .u8 51), .lit (.int .u8 22), .lit (.int .u8 53), .lit (.int .u8 39), .lit (.int .u8 33), .lit (.int .u8 30), .lit (.int .u8 24), .lit (.int .u8 18), .lit (.int .u8 12), .lit (.int .u8 5), .lit (.int .u8 63), .lit (.int .u8 55), .lit (.int .u8 48), .lit (.int .u8 27), .lit (.int .u8 60), .lit (.int .u8 41), .lit (.int .u8 37), .lit (.int .u8 16), .lit (.int .u8 46), .lit (.int .u8 35), .lit (.int .u8 44), .lit (.int .u8 21), .lit (.int .u8 52), .lit (.int .u8 32), .lit (.int .u8 23), .lit (.int .u8 11), .lit (.int .u8 54), .lit (.int .u8 26), .lit (.int .u8 40), .lit (.int .u8 15), .lit (.int .u8 34), .lit (.int .u8 20), .lit (.int .u8 31), .lit (.int .u8 10), .lit (.int .u8 25), .lit (.int .u8 14), .lit (.int .u8 19), .lit (.int .u8 9), .lit (.int .u8 13), .lit (.int .u8 8), .lit (.int .u8 7), .lit (.int .u8 6)]
def laid_internal_strconv_uint64pow10 {H : Type} : DataW H := .agg [.lit (.int .u64 1), .lit (.int .u64 10), .lit (.int .u64 100), .lit (.int .u64 1000), .lit (.int .u64 10000), .lit (.int .u64 100000), .lit (.int .u64 1000000), .lit (.int .u64 10000000), .lit (.int .u64 100000000), .lit (.int .u64 1000000000), .lit (.int .u64 10000000000), .lit (.int .u64 100000000000), .lit (.int .u64 1000000000000), .lit (.int .u64 10000000000000), .lit (.int .u64 100000000000000), .lit (.int .u64 1000000000000000), .lit (.int .u64 10000000000000000), .lit (.int .u64 100000000000000000), .lit (.int .u64 1000000000000000000), .lit (.int .u64 10000000000000000000)]
def laid_padlock_room_reserved {H : Type} : DataW H := .slice [.lit (.string [97, 116]), .lit (.string [115, 116, 97, 116, 101, 115]), .lit (.string [115, 116, 97, 114, 116]), .lit (.string [103, 111, 110, 101]), .lit (.string [105, 102]), .lit (.string [108, 111, 99, 107]), .lit (.string [119, 105, 116, 104]), .lit (.string [115, 101, 116, 115]), .lit (.string [115, 112, 101, 110, 100, 115]), .lit (.string [98, 114, 105, 110, 103, 115])] []

/-- 'padlocklaw09.ResetLeast': WHATEVER THE INPUT: true; the input reads as it did. -/
def resetLeastSpec : ChangeSpec := { name := "resetLeast", fn := fun _ => fun
  | [d1, d2] => { results := [.lit (.bool true)], args := [d1, d2] }
  | _ => none }
def resetLeastRow : OpenClaim := { program := "ytjhljokghikamaagreatdoor", sum := "b8b40129f367e8a21dcb1216aad99dd42b7c0f58b9a73b4bd5fcd9c1d2527545", func := "padlock/padlocklaw09.ResetLeast", spec := "resetLeast", unfollowed := true, recurses := true, named := ["padlock/room.reserved", "internal/strconv.uint64pow10", "math/bits.deBruijn32tab", "math/bits.deBruijn64tab"], apart := false, laid := [("math/bits.deBruijn32tab", laid_math_bits_deBruijn32tab), ("math/bits.deBruijn64tab", laid_math_bits_deBruijn64tab), ("internal/strconv.uint64pow10", laid_internal_strconv_uint64pow10), ("padlock/room.reserved", laid_padlock_room_reserved)] }
def ResetLeastSaid : Prop := resetLeastRow.holds Tryz.pinned (OpenSpec.ofChange resetLeastSpec)

/-- ITS FALSE NEIGHBOUR: 'it returns false'. Refute it at one input. -/
def resetLeastWrong : ChangeSpec := { name := "resetLeast", fn := fun _ => fun
  | [d1, d2] => { results := [.lit (.bool false)], args := [d1, d2] }
  | _ => none }
def ResetLeastWrongFalsely : Prop := resetLeastRow.holds Tryz.pinned (OpenSpec.ofChange resetLeastWrong)

/-- 'padlocklaw09.ResetFirst': WHATEVER THE INPUT: true; the input reads as it did. -/
def resetFirstSpec : ChangeSpec := { name := "resetFirst", fn := fun _ => fun
  | [d1, d2] => { results := [.lit (.bool true)], args := [d1, d2] }
  | _ => none }
def resetFirstRow : OpenClaim := { program := "ytjhljokghikamaagreatdoor", sum := "b8b40129f367e8a21dcb1216aad99dd42b7c0f58b9a73b4bd5fcd9c1d2527545", func := "padlock/padlocklaw09.ResetFirst", spec := "resetFirst", unfollowed := true, recurses := true, named := ["padlock/room.reserved", "internal/strconv.uint64pow10", "math/bits.deBruijn32tab", "math/bits.deBruijn64tab"], apart := false, laid := [("math/bits.deBruijn32tab", laid_math_bits_deBruijn32tab), ("math/bits.deBruijn64tab", laid_math_bits_deBruijn64tab), ("internal/strconv.uint64pow10", laid_internal_strconv_uint64pow10), ("padlock/room.reserved", laid_padlock_room_reserved)] }
def ResetFirstSaid : Prop := resetFirstRow.holds Tryz.pinned (OpenSpec.ofChange resetFirstSpec)

/-- ITS FALSE NEIGHBOUR: 'it returns false'. Refute it at one input. -/
def resetFirstWrong : ChangeSpec := { name := "resetFirst", fn := fun _ => fun
  | [d1, d2] => { results := [.lit (.bool false)], args := [d1, d2] }
  | _ => none }
def ResetFirstWrongFalsely : Prop := resetFirstRow.holds Tryz.pinned (OpenSpec.ofChange resetFirstWrong)

/-- 'padlocklaw09.ResetWrong': WHATEVER THE INPUT: true; the input reads as it did. -/
def resetWrongSpec : ChangeSpec := { name := "resetWrong", fn := fun _ => fun
  | [d1, d2] => { results := [.lit (.bool true)], args := [d1, d2] }
  | _ => none }
def resetWrongRow : OpenClaim := { program := "ytjhljokghikamaagreatdoor", sum := "b8b40129f367e8a21dcb1216aad99dd42b7c0f58b9a73b4bd5fcd9c1d2527545", func := "padlock/padlocklaw09.ResetWrong", spec := "resetWrong", unfollowed := true, recurses := true, named := ["padlock/room.reserved", "internal/strconv.uint64pow10", "math/bits.deBruijn32tab", "math/bits.deBruijn64tab"], apart := false, laid := [("math/bits.deBruijn32tab", laid_math_bits_deBruijn32tab), ("math/bits.deBruijn64tab", laid_math_bits_deBruijn64tab), ("internal/strconv.uint64pow10", laid_internal_strconv_uint64pow10), ("padlock/room.reserved", laid_padlock_room_reserved)] }
def ResetWrongSaid : Prop := resetWrongRow.holds Tryz.pinned (OpenSpec.ofChange resetWrongSpec)

/-- ITS FALSE NEIGHBOUR: 'it returns false'. Refute it at one input. -/
def resetWrongWrong : ChangeSpec := { name := "resetWrong", fn := fun _ => fun
  | [d1, d2] => { results := [.lit (.bool false)], args := [d1, d2] }
  | _ => none }
def ResetWrongWrongFalsely : Prop := resetWrongRow.holds Tryz.pinned (OpenSpec.ofChange resetWrongWrong)

/-- 'padlocklaw09.ResetPhotos': WHATEVER THE INPUT: true; the input reads as it did. -/
def resetPhotosSpec : ChangeSpec := { name := "resetPhotos", fn := fun _ => fun
  | [d1, d2, d3] => { results := [.lit (.bool true)], args := [d1, d2, d3] }
  | _ => none }
def resetPhotosRow : OpenClaim := { program := "ytjhljokghikamaagreatdoor", sum := "b8b40129f367e8a21dcb1216aad99dd42b7c0f58b9a73b4bd5fcd9c1d2527545", func := "padlock/padlocklaw09.ResetPhotos", spec := "resetPhotos", unfollowed := true, recurses := true, named := ["padlock/room.reserved", "internal/strconv.uint64pow10", "math/bits.deBruijn32tab", "math/bits.deBruijn64tab"], apart := false, laid := [("math/bits.deBruijn32tab", laid_math_bits_deBruijn32tab), ("math/bits.deBruijn64tab", laid_math_bits_deBruijn64tab), ("internal/strconv.uint64pow10", laid_internal_strconv_uint64pow10), ("padlock/room.reserved", laid_padlock_room_reserved)] }
def ResetPhotosSaid : Prop := resetPhotosRow.holds Tryz.pinned (OpenSpec.ofChange resetPhotosSpec)

/-- ITS FALSE NEIGHBOUR: 'it returns false'. Refute it at one input. -/
def resetPhotosWrong : ChangeSpec := { name := "resetPhotos", fn := fun _ => fun
  | [d1, d2, d3] => { results := [.lit (.bool false)], args := [d1, d2, d3] }
  | _ => none }
def ResetPhotosWrongFalsely : Prop := resetPhotosRow.holds Tryz.pinned (OpenSpec.ofChange resetPhotosWrong)

/-- 'padlocklaw09.ResetChecks': WHATEVER THE INPUT: true; the input reads as it did. -/
def resetChecksSpec : ChangeSpec := { name := "resetChecks", fn := fun _ => fun
  | [d1, d2, d3] => { results := [.lit (.bool true)], args := [d1, d2, d3] }
  | _ => none }
def resetChecksRow : OpenClaim := { program := "ytjhljokghikamaagreatdoor", sum := "b8b40129f367e8a21dcb1216aad99dd42b7c0f58b9a73b4bd5fcd9c1d2527545", func := "padlock/padlocklaw09.ResetChecks", spec := "resetChecks", unfollowed := true, recurses := true, named := ["padlock/room.reserved", "internal/strconv.uint64pow10", "math/bits.deBruijn32tab", "math/bits.deBruijn64tab"], apart := false, laid := [("math/bits.deBruijn32tab", laid_math_bits_deBruijn32tab), ("math/bits.deBruijn64tab", laid_math_bits_deBruijn64tab), ("internal/strconv.uint64pow10", laid_internal_strconv_uint64pow10), ("padlock/room.reserved", laid_padlock_room_reserved)] }
def ResetChecksSaid : Prop := resetChecksRow.holds Tryz.pinned (OpenSpec.ofChange resetChecksSpec)

/-- ITS FALSE NEIGHBOUR: 'it returns false'. Refute it at one input. -/
def resetChecksWrong : ChangeSpec := { name := "resetChecks", fn := fun _ => fun
  | [d1, d2, d3] => { results := [.lit (.bool false)], args := [d1, d2, d3] }
  | _ => none }
def ResetChecksWrongFalsely : Prop := resetChecksRow.holds Tryz.pinned (OpenSpec.ofChange resetChecksWrong)

/-- 'padlocklaw09.ResetFewest': WHATEVER THE INPUT: true; the input reads as it did. -/
def resetFewestSpec : ChangeSpec := { name := "resetFewest", fn := fun _ => fun
  | [d1, d2, d3] => { results := [.lit (.bool true)], args := [d1, d2, d3] }
  | _ => none }
def resetFewestRow : OpenClaim := { program := "ytjhljokghikamaagreatdoor", sum := "b8b40129f367e8a21dcb1216aad99dd42b7c0f58b9a73b4bd5fcd9c1d2527545", func := "padlock/padlocklaw09.ResetFewest", spec := "resetFewest", unfollowed := true, recurses := true, named := ["padlock/room.reserved", "internal/strconv.uint64pow10", "math/bits.deBruijn32tab", "math/bits.deBruijn64tab"], apart := false, laid := [("math/bits.deBruijn32tab", laid_math_bits_deBruijn32tab), ("math/bits.deBruijn64tab", laid_math_bits_deBruijn64tab), ("internal/strconv.uint64pow10", laid_internal_strconv_uint64pow10), ("padlock/room.reserved", laid_padlock_room_reserved)] }
def ResetFewestSaid : Prop := resetFewestRow.holds Tryz.pinned (OpenSpec.ofChange resetFewestSpec)

/-- ITS FALSE NEIGHBOUR: 'it returns false'. Refute it at one input. -/
def resetFewestWrong : ChangeSpec := { name := "resetFewest", fn := fun _ => fun
  | [d1, d2, d3] => { results := [.lit (.bool false)], args := [d1, d2, d3] }
  | _ => none }
def ResetFewestWrongFalsely : Prop := resetFewestRow.holds Tryz.pinned (OpenSpec.ofChange resetFewestWrong)

/-- 'padlocklaw09.ResetCompares': WHATEVER THE INPUT: true; the input reads as it did. -/
def resetComparesSpec : ChangeSpec := { name := "resetCompares", fn := fun _ => fun
  | [d1, d2, d3] => { results := [.lit (.bool true)], args := [d1, d2, d3] }
  | _ => none }
def resetComparesRow : OpenClaim := { program := "ytjhljokghikamaagreatdoor", sum := "b8b40129f367e8a21dcb1216aad99dd42b7c0f58b9a73b4bd5fcd9c1d2527545", func := "padlock/padlocklaw09.ResetCompares", spec := "resetCompares", unfollowed := true, recurses := true, named := ["padlock/room.reserved", "internal/strconv.uint64pow10", "math/bits.deBruijn32tab", "math/bits.deBruijn64tab"], apart := false, laid := [("math/bits.deBruijn32tab", laid_math_bits_deBruijn32tab), ("math/bits.deBruijn64tab", laid_math_bits_deBruijn64tab), ("internal/strconv.uint64pow10", laid_internal_strconv_uint64pow10), ("padlock/room.reserved", laid_padlock_room_reserved)] }
def ResetComparesSaid : Prop := resetComparesRow.holds Tryz.pinned (OpenSpec.ofChange resetComparesSpec)

/-- ITS FALSE NEIGHBOUR: 'it returns false'. Refute it at one input. -/
def resetComparesWrong : ChangeSpec := { name := "resetCompares", fn := fun _ => fun
  | [d1, d2, d3] => { results := [.lit (.bool false)], args := [d1, d2, d3] }
  | _ => none }
def ResetComparesWrongFalsely : Prop := resetComparesRow.holds Tryz.pinned (OpenSpec.ofChange resetComparesWrong)

/-- 'padlocklaw09.ResetDiffers': WHATEVER THE INPUT: true; the input reads as it did. -/
def resetDiffersSpec : ChangeSpec := { name := "resetDiffers", fn := fun _ => fun
  | [d1, d2, d3] => { results := [.lit (.bool true)], args := [d1, d2, d3] }
  | _ => none }
def resetDiffersRow : OpenClaim := { program := "ytjhljokghikamaagreatdoor", sum := "b8b40129f367e8a21dcb1216aad99dd42b7c0f58b9a73b4bd5fcd9c1d2527545", func := "padlock/padlocklaw09.ResetDiffers", spec := "resetDiffers", unfollowed := true, recurses := true, named := ["padlock/room.reserved", "internal/strconv.uint64pow10", "math/bits.deBruijn32tab", "math/bits.deBruijn64tab"], apart := false, laid := [("math/bits.deBruijn32tab", laid_math_bits_deBruijn32tab), ("math/bits.deBruijn64tab", laid_math_bits_deBruijn64tab), ("internal/strconv.uint64pow10", laid_internal_strconv_uint64pow10), ("padlock/room.reserved", laid_padlock_room_reserved)] }
def ResetDiffersSaid : Prop := resetDiffersRow.holds Tryz.pinned (OpenSpec.ofChange resetDiffersSpec)

/-- ITS FALSE NEIGHBOUR: 'it returns false'. Refute it at one input. -/
def resetDiffersWrong : ChangeSpec := { name := "resetDiffers", fn := fun _ => fun
  | [d1, d2, d3] => { results := [.lit (.bool false)], args := [d1, d2, d3] }
  | _ => none }
def ResetDiffersWrongFalsely : Prop := resetDiffersRow.holds Tryz.pinned (OpenSpec.ofChange resetDiffersWrong)

/-- 'padlocklaw09.ResetBack': WHATEVER THE INPUT: true; the input reads as it did. -/
def resetBackSpec : ChangeSpec := { name := "resetBack", fn := fun _ => fun
  | [d1, d2, d3] => { results := [.lit (.bool true)], args := [d1, d2, d3] }
  | _ => none }
def resetBackRow : OpenClaim := { program := "ytjhljokghikamaagreatdoor", sum := "b8b40129f367e8a21dcb1216aad99dd42b7c0f58b9a73b4bd5fcd9c1d2527545", func := "padlock/padlocklaw09.ResetBack", spec := "resetBack", unfollowed := true, recurses := true, named := ["padlock/room.reserved", "internal/strconv.uint64pow10", "math/bits.deBruijn32tab", "math/bits.deBruijn64tab"], apart := false, laid := [("math/bits.deBruijn32tab", laid_math_bits_deBruijn32tab), ("math/bits.deBruijn64tab", laid_math_bits_deBruijn64tab), ("internal/strconv.uint64pow10", laid_internal_strconv_uint64pow10), ("padlock/room.reserved", laid_padlock_room_reserved)] }
def ResetBackSaid : Prop := resetBackRow.holds Tryz.pinned (OpenSpec.ofChange resetBackSpec)

/-- ITS FALSE NEIGHBOUR: 'it returns false'. Refute it at one input. -/
def resetBackWrong : ChangeSpec := { name := "resetBack", fn := fun _ => fun
  | [d1, d2, d3] => { results := [.lit (.bool false)], args := [d1, d2, d3] }
  | _ => none }
def ResetBackWrongFalsely : Prop := resetBackRow.holds Tryz.pinned (OpenSpec.ofChange resetBackWrong)

/-- 'padlocklaw09.ResetOrders': WHATEVER THE INPUT: true; the input reads as it did. -/
def resetOrdersSpec : ChangeSpec := { name := "resetOrders", fn := fun _ => fun
  | [d1, d2] => { results := [.lit (.bool true)], args := [d1, d2] }
  | _ => none }
def resetOrdersRow : OpenClaim := { program := "ytjhljokghikamaagreatdoor", sum := "b8b40129f367e8a21dcb1216aad99dd42b7c0f58b9a73b4bd5fcd9c1d2527545", func := "padlock/padlocklaw09.ResetOrders", spec := "resetOrders", unfollowed := true, recurses := true, named := ["padlock/room.reserved", "internal/strconv.uint64pow10", "math/bits.deBruijn32tab", "math/bits.deBruijn64tab"], apart := false, laid := [("math/bits.deBruijn32tab", laid_math_bits_deBruijn32tab), ("math/bits.deBruijn64tab", laid_math_bits_deBruijn64tab), ("internal/strconv.uint64pow10", laid_internal_strconv_uint64pow10), ("padlock/room.reserved", laid_padlock_room_reserved)] }
def ResetOrdersSaid : Prop := resetOrdersRow.holds Tryz.pinned (OpenSpec.ofChange resetOrdersSpec)

/-- ITS FALSE NEIGHBOUR: 'it returns false'. Refute it at one input. -/
def resetOrdersWrong : ChangeSpec := { name := "resetOrders", fn := fun _ => fun
  | [d1, d2] => { results := [.lit (.bool false)], args := [d1, d2] }
  | _ => none }
def ResetOrdersWrongFalsely : Prop := resetOrdersRow.holds Tryz.pinned (OpenSpec.ofChange resetOrdersWrong)

/- THE SECOND FORM. 'bulk': how many values and letters a reading holds, each counted each time it is reached (what is shared counts as often as it is met; a slice's spare places count too). A statement '..UptoSaid' is the law's where the arguments, and the package variables that the reading takes, are together of bulk at most 1048576: NARROWER than '..Said'. Prove '..Said' where nothing that the law and all that it calls make is longer than what came in: it says more and counts as full. Else prove '..UptoSaid'. A law counts once. -/
mutual
def uptoBulk {H : Type} : DataW H → Nat
  | .lit (.string bytes) => bytes.length + 1
  | .lit _ => 1
  | .nil => 1
  | .ptr d => uptoBulk d + 1
  | .slice elems spare => uptoBulkAll elems + uptoBulkAll spare + 1
  | .agg parts => uptoBulkAll parts + 1
  | .iface _ d => uptoBulk d + 1
  | .map entries => uptoBulkEntries entries + 1
  | .held _ => 1
def uptoBulkAll {H : Type} : List (DataW H) → Nat
  | [] => 0
  | d :: r => uptoBulk d + uptoBulkAll r
def uptoBulkEntries {H : Type} : List (Lit × DataW H) → Nat
  | [] => 0
  | x :: r => uptoBulkEntry x + uptoBulkEntries r
def uptoBulkEntry {H : Type} : Lit × DataW H → Nat
  | (.string bytes, d) => bytes.length + uptoBulk d + 1
  | (_, d) => uptoBulk d + 1
 end
def uptoSmall : (H : Type) → List (DataW H) → Bool := fun _ ds => decide (uptoBulkAll ds ≤ 1048576)
def OpenSpec.upto (s : _root_.Go.ChangeSpec) : _root_.Go.OpenSpec := { _root_.Go.OpenSpec.ofChange s with cond := some uptoSmall }

/-- 'padlocklaw09.ResetLeast', WHERE WHAT IT READS IS OF BULK AT MOST 1048576: true; the input reads as it did. -/
def resetLeastUptoRow : OpenClaim := { program := "ytjhljokghikamaagreatdoor", sum := "b8b40129f367e8a21dcb1216aad99dd42b7c0f58b9a73b4bd5fcd9c1d2527545", func := "padlock/padlocklaw09.ResetLeast", spec := "resetLeast", unfollowed := true, recurses := true, named := ["padlock/room.reserved", "internal/strconv.uint64pow10", "math/bits.deBruijn32tab", "math/bits.deBruijn64tab"], apart := false, laid := [("math/bits.deBruijn32tab", laid_math_bits_deBruijn32tab), ("math/bits.deBruijn64tab", laid_math_bits_deBruijn64tab), ("internal/strconv.uint64pow10", laid_internal_strconv_uint64pow10), ("padlock/room.reserved", laid_padlock_room_reserved)], narrowed := true }
def ResetLeastUptoSaid : Prop := resetLeastUptoRow.holds Tryz.pinned (OpenSpec.upto resetLeastSpec)

/-- 'padlocklaw09.ResetFirst', WHERE WHAT IT READS IS OF BULK AT MOST 1048576: true; the input reads as it did. -/
def resetFirstUptoRow : OpenClaim := { program := "ytjhljokghikamaagreatdoor", sum := "b8b40129f367e8a21dcb1216aad99dd42b7c0f58b9a73b4bd5fcd9c1d2527545", func := "padlock/padlocklaw09.ResetFirst", spec := "resetFirst", unfollowed := true, recurses := true, named := ["padlock/room.reserved", "internal/strconv.uint64pow10", "math/bits.deBruijn32tab", "math/bits.deBruijn64tab"], apart := false, laid := [("math/bits.deBruijn32tab", laid_math_bits_deBruijn32tab), ("math/bits.deBruijn64tab", laid_math_bits_deBruijn64tab), ("internal/strconv.uint64pow10", laid_internal_strconv_uint64pow10), ("padlock/room.reserved", laid_padlock_room_reserved)], narrowed := true }
def ResetFirstUptoSaid : Prop := resetFirstUptoRow.holds Tryz.pinned (OpenSpec.upto resetFirstSpec)

/-- 'padlocklaw09.ResetWrong', WHERE WHAT IT READS IS OF BULK AT MOST 1048576: true; the input reads as it did. -/
def resetWrongUptoRow : OpenClaim := { program := "ytjhljokghikamaagreatdoor", sum := "b8b40129f367e8a21dcb1216aad99dd42b7c0f58b9a73b4bd5fcd9c1d2527545", func := "padlock/padlocklaw09.ResetWrong", spec := "resetWrong", unfollowed := true, recurses := true, named := ["padlock/room.reserved", "internal/strconv.uint64pow10", "math/bits.deBruijn32tab", "math/bits.deBruijn64tab"], apart := false, laid := [("math/bits.deBruijn32tab", laid_math_bits_deBruijn32tab), ("math/bits.deBruijn64tab", laid_math_bits_deBruijn64tab), ("internal/strconv.uint64pow10", laid_internal_strconv_uint64pow10), ("padlock/room.reserved", laid_padlock_room_reserved)], narrowed := true }
def ResetWrongUptoSaid : Prop := resetWrongUptoRow.holds Tryz.pinned (OpenSpec.upto resetWrongSpec)

/-- 'padlocklaw09.ResetPhotos', WHERE WHAT IT READS IS OF BULK AT MOST 1048576: true; the input reads as it did. -/
def resetPhotosUptoRow : OpenClaim := { program := "ytjhljokghikamaagreatdoor", sum := "b8b40129f367e8a21dcb1216aad99dd42b7c0f58b9a73b4bd5fcd9c1d2527545", func := "padlock/padlocklaw09.ResetPhotos", spec := "resetPhotos", unfollowed := true, recurses := true, named := ["padlock/room.reserved", "internal/strconv.uint64pow10", "math/bits.deBruijn32tab", "math/bits.deBruijn64tab"], apart := false, laid := [("math/bits.deBruijn32tab", laid_math_bits_deBruijn32tab), ("math/bits.deBruijn64tab", laid_math_bits_deBruijn64tab), ("internal/strconv.uint64pow10", laid_internal_strconv_uint64pow10), ("padlock/room.reserved", laid_padlock_room_reserved)], narrowed := true }
def ResetPhotosUptoSaid : Prop := resetPhotosUptoRow.holds Tryz.pinned (OpenSpec.upto resetPhotosSpec)

/-- 'padlocklaw09.ResetChecks', WHERE WHAT IT READS IS OF BULK AT MOST 1048576: true; the input reads as it did. -/
def resetChecksUptoRow : OpenClaim := { program := "ytjhljokghikamaagreatdoor", sum := "b8b40129f367e8a21dcb1216aad99dd42b7c0f58b9a73b4bd5fcd9c1d2527545", func := "padlock/padlocklaw09.ResetChecks", spec := "resetChecks", unfollowed := true, recurses := true, named := ["padlock/room.reserved", "internal/strconv.uint64pow10", "math/bits.deBruijn32tab", "math/bits.deBruijn64tab"], apart := false, laid := [("math/bits.deBruijn32tab", laid_math_bits_deBruijn32tab), ("math/bits.deBruijn64tab", laid_math_bits_deBruijn64tab), ("internal/strconv.uint64pow10", laid_internal_strconv_uint64pow10), ("padlock/room.reserved", laid_padlock_room_reserved)], narrowed := true }
def ResetChecksUptoSaid : Prop := resetChecksUptoRow.holds Tryz.pinned (OpenSpec.upto resetChecksSpec)

/-- 'padlocklaw09.ResetFewest', WHERE WHAT IT READS IS OF BULK AT MOST 1048576: true; the input reads as it did. -/
def resetFewestUptoRow : OpenClaim := { program := "ytjhljokghikamaagreatdoor", sum := "b8b40129f367e8a21dcb1216aad99dd42b7c0f58b9a73b4bd5fcd9c1d2527545", func := "padlock/padlocklaw09.ResetFewest", spec := "resetFewest", unfollowed := true, recurses := true, named := ["padlock/room.reserved", "internal/strconv.uint64pow10", "math/bits.deBruijn32tab", "math/bits.deBruijn64tab"], apart := false, laid := [("math/bits.deBruijn32tab", laid_math_bits_deBruijn32tab), ("math/bits.deBruijn64tab", laid_math_bits_deBruijn64tab), ("internal/strconv.uint64pow10", laid_internal_strconv_uint64pow10), ("padlock/room.reserved", laid_padlock_room_reserved)], narrowed := true }
def ResetFewestUptoSaid : Prop := resetFewestUptoRow.holds Tryz.pinned (OpenSpec.upto resetFewestSpec)

/-- 'padlocklaw09.ResetCompares', WHERE WHAT IT READS IS OF BULK AT MOST 1048576: true; the input reads as it did. -/
def resetComparesUptoRow : OpenClaim := { program := "ytjhljokghikamaagreatdoor", sum := "b8b40129f367e8a21dcb1216aad99dd42b7c0f58b9a73b4bd5fcd9c1d2527545", func := "padlock/padlocklaw09.ResetCompares", spec := "resetCompares", unfollowed := true, recurses := true, named := ["padlock/room.reserved", "internal/strconv.uint64pow10", "math/bits.deBruijn32tab", "math/bits.deBruijn64tab"], apart := false, laid := [("math/bits.deBruijn32tab", laid_math_bits_deBruijn32tab), ("math/bits.deBruijn64tab", laid_math_bits_deBruijn64tab), ("internal/strconv.uint64pow10", laid_internal_strconv_uint64pow10), ("padlock/room.reserved", laid_padlock_room_reserved)], narrowed := true }
def ResetComparesUptoSaid : Prop := resetComparesUptoRow.holds Tryz.pinned (OpenSpec.upto resetComparesSpec)

/-- 'padlocklaw09.ResetDiffers', WHERE WHAT IT READS IS OF BULK AT MOST 1048576: true; the input reads as it did. -/
def resetDiffersUptoRow : OpenClaim := { program := "ytjhljokghikamaagreatdoor", sum := "b8b40129f367e8a21dcb1216aad99dd42b7c0f58b9a73b4bd5fcd9c1d2527545", func := "padlock/padlocklaw09.ResetDiffers", spec := "resetDiffers", unfollowed := true, recurses := true, named := ["padlock/room.reserved", "internal/strconv.uint64pow10", "math/bits.deBruijn32tab", "math/bits.deBruijn64tab"], apart := false, laid := [("math/bits.deBruijn32tab", laid_math_bits_deBruijn32tab), ("math/bits.deBruijn64tab", laid_math_bits_deBruijn64tab), ("internal/strconv.uint64pow10", laid_internal_strconv_uint64pow10), ("padlock/room.reserved", laid_padlock_room_reserved)], narrowed := true }
def ResetDiffersUptoSaid : Prop := resetDiffersUptoRow.holds Tryz.pinned (OpenSpec.upto resetDiffersSpec)

/-- 'padlocklaw09.ResetBack', WHERE WHAT IT READS IS OF BULK AT MOST 1048576: true; the input reads as it did. -/
def resetBackUptoRow : OpenClaim := { program := "ytjhljokghikamaagreatdoor", sum := "b8b40129f367e8a21dcb1216aad99dd42b7c0f58b9a73b4bd5fcd9c1d2527545", func := "padlock/padlocklaw09.ResetBack", spec := "resetBack", unfollowed := true, recurses := true, named := ["padlock/room.reserved", "internal/strconv.uint64pow10", "math/bits.deBruijn32tab", "math/bits.deBruijn64tab"], apart := false, laid := [("math/bits.deBruijn32tab", laid_math_bits_deBruijn32tab), ("math/bits.deBruijn64tab", laid_math_bits_deBruijn64tab), ("internal/strconv.uint64pow10", laid_internal_strconv_uint64pow10), ("padlock/room.reserved", laid_padlock_room_reserved)], narrowed := true }
def ResetBackUptoSaid : Prop := resetBackUptoRow.holds Tryz.pinned (OpenSpec.upto resetBackSpec)

/-- 'padlocklaw09.ResetOrders', WHERE WHAT IT READS IS OF BULK AT MOST 1048576: true; the input reads as it did. -/
def resetOrdersUptoRow : OpenClaim := { program := "ytjhljokghikamaagreatdoor", sum := "b8b40129f367e8a21dcb1216aad99dd42b7c0f58b9a73b4bd5fcd9c1d2527545", func := "padlock/padlocklaw09.ResetOrders", spec := "resetOrders", unfollowed := true, recurses := true, named := ["padlock/room.reserved", "internal/strconv.uint64pow10", "math/bits.deBruijn32tab", "math/bits.deBruijn64tab"], apart := false, laid := [("math/bits.deBruijn32tab", laid_math_bits_deBruijn32tab), ("math/bits.deBruijn64tab", laid_math_bits_deBruijn64tab), ("internal/strconv.uint64pow10", laid_internal_strconv_uint64pow10), ("padlock/room.reserved", laid_padlock_room_reserved)], narrowed := true }
def ResetOrdersUptoSaid : Prop := resetOrdersUptoRow.holds Tryz.pinned (OpenSpec.upto resetOrdersSpec)

end Rows
end Go.Proofs.YtjhljokghikamaaGreatDoor
