/- The abstract machine, part Fv: a region that draws its order and makes memory several times; one with two effects, one behind the other. -/
import Derived.Test.YtmdkhbmhgcdpaaaVgFr
set_option linter.all false
set_option linter.unusedVariables false
namespace Go.Vg
open Go.RowKit
variable {P : Program}

def isSlc : Op → Bool
  | .slice .. => true
  | _ => false
/-- a region whose operations compute, or make memory -/
inductive AbsV (P : Program) (gds : List (Option Nat)) (m : Mem) (n : Nat) : Nat → List Oper → List (Nat × AV) → Nat → List (Nat × AV) → List (Nat × Nat × List AV) → Prop where
  | nil {k j : Nat} {t : List (Nat × AV)} : AbsV P gds m n k [] t j t []
  | cons {k j : Nat} {o : Oper} {l : List Oper} {t t' : List (Nat × AV)} {x : AV} {p : Prop} {es : List (Nat × Nat × List AV)} : dstB n o.dst = true → isSlc o.op = false → stepA P gds t m o = some (x, p) → p → AbsV P gds m n (k + 1) l (upd t o.dst x) j t' es → AbsV P gds m n k (o :: l) t j t' es
  | alcS {k j : Nat} {dst : Option Nat} {op : Op} {type : TypeId} {pos : String} {after : Array Edge} {l : List Oper} {t t' : List (Nat × AV)} {sz : Nat} {row : List AV} {q : Option Nat} {es : List (Nat × Nat × List AV)} : dstB n dst = true → (∀ (m' : Mem) (id ver : Nat) (k0 : Kind), m'[id]? = some ⟨ver, k0⟩ → StepAt P gds t m' ⟨dst, op, type, pos, after, none⟩ (m'.set id ⟨ver + 1, .row sz row⟩) (alcV id (ver + 1) q)) → AbsV P gds m n (k + 1) l (upd t dst (alcV (m.length + j) 1 q)) (j + 1) t' es → AbsV P gds m n k (⟨dst, op, type, pos, after, none⟩ :: l) t j t' ((k, sz, row) :: es)
end Go.Vg
