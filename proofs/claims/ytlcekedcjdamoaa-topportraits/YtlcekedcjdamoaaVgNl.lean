/- The abstract machine, part Nl: slices that are compared with nil; empty ones that are not nil. -/
import Derived.Test.YtlcekedcjdamoaaVgAp
import Derived.Test.YtlcekedcjdamoaaVgEb
set_option linter.all false
set_option linter.unusedVariables false
namespace Go.Vg
open Go.RowKit
variable {P : Program} {gds : List (Option Nat)} {l : List Oper} {Q : S → Prop} {s : S}

/-- nil itself -/
abbrev AV.nil : AV := .val (.slice none 0 0)
theorem unE_yield {t : List (Nat × AV)} {m : Mem} {o : Oper} {x : AV} (h : Yield P gds (t.map unE) m o x) : Yield P gds t m o x :=
  ⟨h.1, fun X w ρ a hi hr hn => h.2 X w ρ a hi (fun n hn' => look_unE t n (hr n hn')) hn⟩
/-- in a region that draws: an operation whose guard holds -/
theorem Abn.gtrue {s1 : S} {dst : Option Nat} {op : Op} {type : TypeId} {pos : String} {after : Array Edge} {g : Nat × Bool} {x : AV} {p : Prop} {t' : List (Nat × AV)} (hg : gval gds s.t g = some true) (ht : s.t.map unE = t') (h : stepA P gds t' s.m ⟨dst, op, type, pos, after, none⟩ = some (x, p)) (hp : p) (k : Abn P gds l (putA s dst x) s1) : Abn P gds (⟨dst, op, type, pos, after, some g⟩ :: l) s s1 :=
  Abn.yield (guardT_yield hg (unE_yield (by rw [ht]; exact stepA_yield h hp))) (by rw [putA_eq] at k; exact k)
end Go.Vg
