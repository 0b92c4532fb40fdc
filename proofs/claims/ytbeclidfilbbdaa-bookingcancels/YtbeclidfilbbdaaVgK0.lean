/- A part of the proof of BookingCancels: contracts of functions, with plain laws that they need. -/
import Derived.Test.YtbeclidfilbbdaaVgVz
import Derived.Test.YtbeclidfilbbdaaVgK7
import Derived.Test.YtbeclidfilbbdaaVgKL
set_option linter.all false
set_option linter.unusedVariables false
set_option linter.unusedSimpArgs false
set_option maxHeartbeats 8000000
namespace Go.Proofs.Try
open Go.Vg

/-! the chapter's examples -/
abbrev exC : List Ch := [⟨2, 6, 60, 20⟩, ⟨3, 8, 45, 15⟩]
abbrev exM : List Ma := [⟨1, 600, 900⟩, ⟨3, 600, 1200⟩]
abbrev exL : List Bk := [⟨0, 600, 4, 0, true, -1⟩, ⟨1, 630, 5, 1, false, -1⟩]
abbrev exb (n : Int) : Bk := ⟨0, n, 2, 1, false, -1⟩
theorem named : Named Try.prog 125 := namedB_ok (by kernel_rfl)
theorem example_pure : Pure Try.prog 49 [] (.tup [houA exC exM 30, .lst 6 (exL.map bkA)]) := xFz_pure named mixed (by kernel_rfl)
theorem exStaff_pure : Pure Try.prog 30 [houA exC exM 30, .lst 6 (exL.map bkA)] (.tup [.ints [0, 1], .int 0]) := xFz_pure named mixed (by kernel_rfl)
theorem exAdd_pure : Pure Try.prog 19 [houA exC exM 30, .lst 6 (exL.map bkA), bkA (exb 710)] (.tup [.lst 6 ((exL ++ [exb 710]).map bkA), .int 0]) := xFz_pure named mixed (by kernel_rfl)
theorem exBegin : bgE exC exM 30 exL 1 = 0 := by kernel_rfl
theorem exLow : (List.range 110).all (fun k => bkB exC 30 (exb (600 + (k : Int))) && !fitB exC 30 (exL ++ [exb (600 + (k : Int))])) = true := by kernel_rfl
theorem exLow_pure (k : Nat) (h : k < 110) : Pure Try.prog 19 [houA exC exM 30, .lst 6 (exL.map bkA), bkA (exb (600 + (k : Int)))] (.tup [.emp, .int 111]) := by
  have := List.all_eq_true.1 exLow k (List.mem_range.2 h)
  simp only [Bool.and_eq_true, Bool.not_eq_true'] at this
  exact add_nofit exBegin _ rfl this.1 this.2
end Go.Proofs.Try
