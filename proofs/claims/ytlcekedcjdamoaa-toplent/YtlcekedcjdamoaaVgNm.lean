/- The abstract machine, part Nm: nil slices in structs that are built; appending to an empty slice. -/
import Derived.Test.YtlcekedcjdamoaaVgNl
set_option linter.all false
set_option linter.unusedVariables false
set_option linter.unusedSimpArgs false
namespace Go.Vg
open Go.RowKit
variable {P : Program} {gds : List (Option Nat)} {l : List Oper} {Q : S → Prop} {s : S}

/-- an empty slice literal to which we append -/
theorem Run.lit0e {dst : Option Nat} {ty type : TypeId} {pos : String} {after : Array Edge} {sz : Nat} {p : Prop} (h : bldA P (evo s.t) (.buildSlice ty 0 #[]) = some (sz, [], p)) (hp : p)
    (k : Run P gds l Q (putA s dst .emp)) : Run P gds (⟨dst, .buildSlice ty 0 #[], type, pos, after, none⟩ :: l) Q s := by
  refine Run.yieldN (x := .emp) ⟨fun c e => (by cases e), fun X w ρ a hi hr hn => ⟨fun _ => ?_, fun hw => (by simp [Region.wanted] at hw)⟩⟩ k
  obtain ⟨e, arr, vs, h1, _⟩ := bldA_run (P := P) (o := ⟨dst, .buildSlice ty 0 #[], type, pos, after, none⟩) (X := X) (w := w) (ρ := ρ) (a := a) (fun y hy => by simp [Op.operands] at hy) h hp
  obtain ⟨q1, q2⟩ := push_keep hi arr e
  exact .inl ⟨_, _, h1, ⟨_, rfl⟩, q2, q1⟩
end Go.Vg
