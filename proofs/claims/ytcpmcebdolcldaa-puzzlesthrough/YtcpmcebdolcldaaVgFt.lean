/- The abstract machine: a call that hands back new memory, laid into an entry that stands already (regions in order). -/
import Derived.Test.YtcpmcebdolcldaaVgFs
import Derived.Test.YtcpmcebdolcldaaVgZ
set_option linter.all false
set_option linter.unusedVariables false
namespace Go.Vg
open Go.RowKit
variable {P : Program} {gds : List (Option Nat)} {l : List Oper} {Q : S → Prop} {s : S}
theorem Run.freshAt (id : Nat) {fo : Operand} {args : List Operand} {tys : Array TypeId} {dst : Option Nat} {type : TypeId} {pos : String} {after : Array Edge} {f : FuncId} {caps vargs : List AV} {sz len ver : Nat} {row : List AV} {k0 : Kind}
    (hf : fnOf (evo s.t fo) = some (f, caps)) (he : Enters P f) (hc : Spec P f vargs [] fun x m' => x = .osl 0 0 0 len ∧ m' = [⟨0, .row sz row⟩]) (hv : VwL s.m (args.map (evo s.t) ++ caps) vargs) (hpl : plainL row) (hid : s.m[id]? = some ⟨ver, k0⟩)
    (k : Run P gds l Q (putA ⟨s.t, s.m.set id ⟨ver + 1, .row sz row⟩, s.n, s.d⟩ dst (.osl id (ver + 1) 0 len))) : Run P gds (⟨dst, callOp fo args tys, type, pos, after, none⟩ :: l) Q s :=
  (Spec.freshAt (gds := gds) (dst := dst) (tys := tys) (type := type) (pos := pos) (after := after) he hf hv hc hpl hid).run (by rw [putA_eq] at k; exact k)
end Go.Vg
