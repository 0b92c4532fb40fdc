/- A part of the proof of StoreLends: contracts of functions, with plain laws that they need. -/
import Derived.Test.YtljchlkmalidnaaVgY6
set_option linter.all false
set_option linter.unusedVariables false
set_option linter.unusedSimpArgs false
set_option maxHeartbeats 8000000
namespace Go.Proofs.Try
open Go.Vg

/-! what is wrong with the last loan of the beginning of a plan -/
def mateB (ls : List Ln) (p : List Int) (i k : Nat) : Bool := decide ((ls.getD k ln0).kind = (ls.getD i ln0).kind) && decide (p.getD k 0 = p.getD i 0)
def sumU (ls : List Ln) (p : List Int) (i : Nat) : Nat → Int
  | 0 => 0
  | k + 1 => if mateB ls p i k = true then sumU ls p i k + (ls.getD k ln0).uses else sumU ls p i k
def clashB (ls : List Ln) (p : List Int) (i : Nat) : Nat → Bool
  | 0 => false
  | k + 1 => clashB ls p i k || (mateB ls p i k && ovB (ls.getD k ln0) (ls.getD i ln0))
def wrongB (ks : List St) (ls : List Ln) (p : List Int) (i : Nat) : Bool :=
  decide (p.getD i 0 < 0) || (clashB ls p i i || decide ((ks.getD (ls.getD i ln0).kind.toNat st0).life < (ls.getD i ln0).uses + sumU ls p i i))
/-- the first wrong loan from i on -/
def cpFrom (ks : List St) (ls : List Ln) (p : List Int) (n : Nat) : Nat → Int × Int
  | 0 => (0, 0)
  | k + 1 => if wrongB ks ls p (n - (k + 1)) = true then (((n - (k + 1) : Nat) : Int), 101) else cpFrom ks ls p n k
def cpAns (ks : List St) (ls : List Ln) (p : List Int) : Int × Int := if chk2E ks ls p = 0 then cpFrom ks ls p p.length p.length else (0, chk2E ks ls p)
end Go.Proofs.Try
