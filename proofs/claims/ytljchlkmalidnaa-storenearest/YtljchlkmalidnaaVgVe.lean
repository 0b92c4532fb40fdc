/- The abstract machine, part Ve: append to a nil literal as new memory in a region that draws; the last operation of such a region is a store. -/
import Derived.Test.YtljchlkmalidnaaVgVw
set_option linter.all false
set_option linter.unusedVariables false
set_option linter.unusedSimpArgs false
namespace Go.Vg
open Go.RowKit
variable {P : Program} {X : Nat → Prop} {w : World} {ρ : Rho}

/-- what append of a frozen slice to nil makes -/
def apnA (P : Program) (E : Operand → AV) (op : Op) : Option (Nat × List AV × Prop) :=
  match op with
  | .call c =>
    match c.callee with
    | .builtin .append =>
      match c.args.toList, c.argTypes.toList with
      | [d, x], [t, u] =>
        match E d, E x with
        | .emp, .lst sz' new =>
          match uk P t, uk P u with
          | .slice e, .slice _ =>
            match tsz P e, tby P e with
            | some sz, some by_ => if elB P e = true then some (sz, new, new.length * by_ ≤ 140737488355328 ∧ new.length ≤ 9223372036854775807 ∧ (new ≠ [] → sz' = sz)) else none
            | _, _ => none
          | _, _ => none
        | _, _ => none
      | _, _ => none
    | _ => none
  | _ => none
/-! what makes memory, in any order; and behind all of it one operation that writes -/
attribute [push_cast] apnA
end Go.Vg
