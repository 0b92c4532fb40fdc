/- The statement BookingRanks, for every input: the law's function returns true, and its arguments read as before. No condition beyond the given row's. -/
import Derived.Test.YtbeclidfilbbdaaRows
import Derived.Test.YtbeclidfilbbdaaVgK11
import Derived.Test.YtbeclidfilbbdaaVgP
import Derived.ProofKit
set_option linter.all false
namespace Go.Proofs.Ytbeclidfilbbdaa.bookingRanks
open Go.ChangeShapes Go.WideShapes Go.RowKit Go.Vg

theorem own : ownKnob Try.prog.godebug = none := by kernel_rfl

set_option maxRecDepth 100000 in
theorem lifted (os : Os) (started : os.Started) (H : Type) (enc : TypeId × Value → H) :
    ReturnsInHanded {} Try.checked os 9 .any (Rows.bookingRanksSpec.pre6 enc Try.prog Try.f9 Rows.bookingRanksRow.domain false) (Rows.bookingRanksSpec.post enc Try.prog Try.f9 false true false false) := by
  refine returnsInHanded_of_change (C := Try.checked) own started (by kernel_rfl) Try.func9
    (ChangeSpec.witness6 (enc := enc) (C := Try.checked) false ⟨#[], #[.slice none 0 0, .slice none 0 0, .int .i64 0], []⟩ 16 (by kernel_rfl) (by kernel_rfl) (by kernel_rfl) (by kernel_rfl)) ?_
  intro W base args ds gs before hval hW hcnd _
  refine law_contract (tb := 4) (by kernel_rfl) (by rw [Try.params9]; decide +kernel) rfl ?_ (by kernel_rfl) Try.underlying4 (Q := _) (by
    rw [Try.params9]
    exact .cons (.inr ⟨(by kernel_rfl), (by kernel_rfl)⟩) (Opens.ints Try.underlying54 (by kernel_rfl) Try.underlying3 (by kernel_rfl) (by kernel_rfl)) (.cons (.inr ⟨(by kernel_rfl), (by kernel_rfl)⟩) (Opens.ints Try.underlying54 (by kernel_rfl) Try.underlying3 (by kernel_rfl) (by kernel_rfl)) (.cons (.inr ⟨(by kernel_rfl), (by kernel_rfl)⟩) (Opens.int Try.underlying3 (by kernel_rfl)) (.nil)))) ?_ H enc W base args ds gs before hval hW
  · intro H ds hds
    rw [Try.params9] at hds
    match ds, hds with
    | [_, _, _], _ => rfl
  · rintro xs ⟨_, _, rfl, ⟨l1, hl1, rfl⟩, ⟨_, _, rfl, ⟨l2, hl2, rfl⟩, ⟨_, _, rfl, ⟨n3, hn3, rfl⟩, rfl⟩⟩⟩
    exact Go.Proofs.Try.lawRanks_pure l1 l2 n3 (by have h := hl1.1; unfold maxLen at h; omega) (by have h := hl2.1; unfold maxLen at h; omega)

theorem over : Rows.bookingRanksRow.holds Try.pinned (OpenSpec.ofChange Rows.bookingRanksSpec) :=
  OpenClaim.holds_of_wide 9 Try.f9 rfl rfl rfl rfl rfl rfl rfl ⟨rfl, rfl, rfl, rfl, rfl⟩ rfl rfl rfl rfl rfl (by kernel_rfl) Try.func9 (by kernel_rfl)
    (of_decide_eq_true (by kernel_rfl)) (by unfold Func.isWrapper; first | (rw [if_pos (by decide +kernel)]; kernel_rfl) | (rw [if_neg (by decide +kernel)]; exact ⟨rfl, rfl⟩))
    (fun os started H enc _ => lifted os started H enc)

theorem proved : Rows.BookingRanksSaid := over
end Go.Proofs.Ytbeclidfilbbdaa.bookingRanks
