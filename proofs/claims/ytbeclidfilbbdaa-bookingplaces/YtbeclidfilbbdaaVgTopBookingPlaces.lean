/- The statement BookingPlaces, for every input: the law's function returns true, and its arguments read as before. No condition beyond the given row's. -/
import Derived.Test.YtbeclidfilbbdaaRows
import Derived.Test.YtbeclidfilbbdaaVgK13
import Derived.Test.YtbeclidfilbbdaaVgP
import Derived.ProofKit
set_option linter.all false
namespace Go.Proofs.Ytbeclidfilbbdaa.bookingPlaces
open Go.ChangeShapes Go.WideShapes Go.RowKit Go.Vg

theorem own : ownKnob Try.prog.godebug = none := by kernel_rfl

set_option maxRecDepth 100000 in
theorem lifted (os : Os) (started : os.Started) (H : Type) (enc : TypeId × Value → H) :
    ReturnsInHanded {} Try.checked os 10 .any (Rows.bookingPlacesSpec.pre6 enc Try.prog Try.f10 Rows.bookingPlacesRow.domain false) (Rows.bookingPlacesSpec.post enc Try.prog Try.f10 false true false false) := by
  refine returnsInHanded_of_change (C := Try.checked) own started (by kernel_rfl) Try.func10
    (ChangeSpec.witness6 (enc := enc) (C := Try.checked) false ⟨#[], #[.slice none 0 0, .slice none 0 0, .int .i64 0], []⟩ 16 (by kernel_rfl) (by kernel_rfl) (by kernel_rfl) (by kernel_rfl)) ?_
  intro W base args ds gs before hval hW hcnd _
  refine law_contract (tb := 4) (by kernel_rfl) (by rw [Try.params10]; decide +kernel) rfl ?_ (by kernel_rfl) Try.underlying4 (Q := _) (by
    rw [Try.params10]
    exact .cons (.inr ⟨(by kernel_rfl), (by kernel_rfl)⟩) (Opens.ints Try.underlying54 (by kernel_rfl) Try.underlying3 (by kernel_rfl) (by kernel_rfl)) (.cons (.inr ⟨(by kernel_rfl), (by kernel_rfl)⟩) (Opens.ints Try.underlying54 (by kernel_rfl) Try.underlying3 (by kernel_rfl) (by kernel_rfl)) (.cons (.inr ⟨(by kernel_rfl), (by kernel_rfl)⟩) (Opens.int Try.underlying3 (by kernel_rfl)) (.nil)))) ?_ H enc W base args ds gs before hval hW
  · intro H ds hds
    rw [Try.params10] at hds
    match ds, hds with
    | [_, _, _], _ => rfl
  · rintro xs ⟨_, _, rfl, ⟨l1, hl1, rfl⟩, ⟨_, _, rfl, ⟨l2, hl2, rfl⟩, ⟨_, _, rfl, ⟨n3, hn3, rfl⟩, rfl⟩⟩⟩
    exact Go.Proofs.Try.lawPlaces_pure l1 l2 n3 (by have h := hl1.1; unfold maxLen at h; omega) (by have h := hl2.1; unfold maxLen at h; omega)

theorem over : Rows.bookingPlacesRow.holds Try.pinned (OpenSpec.ofChange Rows.bookingPlacesSpec) :=
  OpenClaim.holds_of_wide 10 Try.f10 rfl rfl rfl rfl rfl rfl rfl ⟨rfl, rfl, rfl, rfl, rfl⟩ rfl rfl rfl rfl rfl (by kernel_rfl) Try.func10 (by kernel_rfl)
    (of_decide_eq_true (by kernel_rfl)) (by unfold Func.isWrapper; first | (rw [if_pos (by decide +kernel)]; kernel_rfl) | (rw [if_neg (by decide +kernel)]; exact ⟨rfl, rfl⟩))
    (fun os started H enc _ => lifted os started H enc)

theorem proved : Rows.BookingPlacesSaid := over
end Go.Proofs.Ytbeclidfilbbdaa.bookingPlaces
