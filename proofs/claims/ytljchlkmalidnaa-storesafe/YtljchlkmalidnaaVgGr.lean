/- The abstract machine, part Gr: reading a package variable that holds a list of texts. -/
import Derived.Test.YtljchlkmalidnaaVgK
set_option linter.all false
set_option linter.unusedVariables false
namespace Go.Vg
open Go.RowKit
variable {P : Program} {X : Nat → Prop} {w : World} {ρ ρ' : Rho}

theorem strs_row {b : Nat} : ∀ (ss : List ByteArray) (o : Nat), (∀ i, i < ss.length → w.cell? ⟨b, o + i, none⟩ = some (.string (ss.getD i .empty))) → Rrow X w ρ (ss.map AV.str) 1 b o
  | [], _, _ => trivial
  | s :: ss, o, h => by
    refine ⟨⟨rfl, .string s, by simpa using h 0 (by simp), rfl, rfl⟩, strs_row ss (o + 1) fun i hi => ?_⟩
    have := h (i + 1) (by simp; omega)
    rw [Nat.add_assoc, Nat.add_comm 1 i]
    simpa using this
theorem Gd.ref {m : Mem} (hi : Inv X w ρ m) {g : Nat} {ss : List ByteArray} (hg : GR = some (g, ss)) : R X w ρ (.ref [.strs ss] 0) (.pointer (some ⟨g, 0, none⟩)) := by
  obtain ⟨b, o, c, h1, h2, h3, h4, h5, h6, h7⟩ := hi.gd.2.1 g ss hg
  refine ⟨g, 0, rfl, by simp, h6, ⟨_, h1, rfl, _, c, by rw [List.length_map], by simpa using h2, h3, fun _ => ⟨b, o, rfl, h7, by omega, strs_row ss o h5⟩⟩, trivial⟩
theorem Run.loadG {gds : List (Option Nat)} {l : List Oper} {Q : S → Prop} {s : S} {g : Nat} {ss : List ByteArray} (hg : GR = some (g, ss)) {dst : Option Nat} {ty type : TypeId} {pos : String} {after : Array Edge} (hz : agg? P ty = some false) (k : Run P gds l Q (s.put dst (.strs ss))) :
    Run P gds (⟨dst, .load ty (.global g), type, pos, after, none⟩ :: l) Q s := by
  refine Run.yield (x := .strs ss) ⟨fun c e => (by cases e), fun X w ρ a hi hr hn => ⟨fun _ => ?_, fun hw => (by simp [Region.wanted] at hw)⟩⟩ k
  have hR := Gd.ref hi hg
  have key : ∀ x ∈ Op.operands (.load ty (.global g)), R X w ρ (.ref [.strs ss] 0) (a.eval x) := by
    intro x hx
    have : x = .global g := by simpa [Op.operands] using hx
    subst this
    exact hR
  obtain ⟨v, q1, q2⟩ := ev_run (P := P) (o := ⟨dst, .load ty (.global g), type, pos, after, none⟩) hi (E := fun _ => .ref [.strs ss] 0) (B := fun _ => .ref [.strs ss] 0) (fun x hx => key x (needs_sub _ x hx)) key (z := .strs ss) (p := True) (by simp [ev, loadA, hz]) trivial
  exact .inl ⟨v, w, q1, q2, hi, Tr.refl w ρ⟩
end Go.Vg
