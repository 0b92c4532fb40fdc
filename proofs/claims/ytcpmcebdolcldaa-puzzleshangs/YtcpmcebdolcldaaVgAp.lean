/- The abstract machine, part Ap: append to a nil slice as memory in an entry that stands already. -/
import Derived.Test.YtcpmcebdolcldaaVgVe
import Derived.Test.YtcpmcebdolcldaaVgFr
set_option linter.all false
set_option linter.unusedVariables false
namespace Go.Vg
open Go.RowKit
variable {P : Program} {gds : List (Option Nat)} {l : List Oper} {Q : S → Prop} {s : S}
/-- append to a nil slice makes memory in an entry that stands already -/
theorem Run.apnAt (id : Nat) {dst : Option Nat} {op : Op} {type : TypeId} {pos : String} {after : Array Edge} {sz : Nat} {row : List AV} {p : Prop} {ver : Nat} {k0 : Kind} (h : apnA P (evo s.t) op = some (sz, row, p)) (hp : p) (hid : s.m[id]? = some ⟨ver, k0⟩)
    (k : Run P gds l Q (putA ⟨s.t, s.m.set id ⟨ver + 1, .row sz row⟩, s.n, s.d⟩ dst (alcV id (ver + 1) (some row.length)))) : Run P gds (⟨dst, op, type, pos, after, none⟩ :: l) Q s :=
  (apnA_step h hp hid).run (by rw [putA_eq] at k; exact k)
end Go.Vg
