/- The statement PuzzlesNext, for every input: the law's function returns true, and its arguments read as before. No condition beyond the given row's. -/
import Derived.Test.YtmdkhbmhgcdpaaaRows
import Derived.Test.YtmdkhbmhgcdpaaaVgX11
import Derived.Test.YtmdkhbmhgcdpaaaVgP
import Derived.ProofKit
set_option linter.all false
namespace Go.Proofs.Ytmdkhbmhgcdpaaa.puzzlesNext
open Go.ChangeShapes Go.WideShapes Go.RowKit Go.Vg

theorem own : ownKnob Try.prog.godebug = none := by kernel_rfl

set_option maxRecDepth 100000 in
theorem lifted (os : Os) (started : os.Started) (H : Type) (enc : TypeId × Value → H) :
    ReturnsInHanded {} Try.checked os 3 .any (Rows.puzzlesNextSpec.pre6 enc Try.prog Try.f3 Rows.puzzlesNextRow.domain false) (Rows.puzzlesNextSpec.post enc Try.prog Try.f3 false true false false) := by
  refine returnsInHanded_of_change (C := Try.checked) own started (by kernel_rfl) Try.func3
    (ChangeSpec.witness6 (enc := enc) (C := Try.checked) false ⟨#[], #[.slice none 0 0], []⟩ 16 (by kernel_rfl) (by kernel_rfl) (by kernel_rfl) (by kernel_rfl)) ?_
  intro W base args ds gs before hval hW hcnd _
  refine law_contract (tb := 4) (by kernel_rfl) (by rw [Try.params3]; decide +kernel) rfl ?_ (by kernel_rfl) Try.underlying4 (Q := _) (by
    rw [Try.params3]
    exact .cons (.inr ⟨(by kernel_rfl), (by kernel_rfl)⟩) (Opens.ints Try.underlying22 (by kernel_rfl) Try.underlying3 (by kernel_rfl) (by kernel_rfl)) (.nil)) ?_ H enc W base args ds gs before hval hW
  · intro H ds hds
    rw [Try.params3] at hds
    match ds, hds with
    | [_], _ => rfl
  · rintro xs ⟨_, _, rfl, ⟨l1, hl1, rfl⟩, rfl⟩
    exact Go.Proofs.Try.lawNext_pure l1

theorem over : Rows.puzzlesNextRow.holds Try.pinned (OpenSpec.ofChange Rows.puzzlesNextSpec) :=
  OpenClaim.holds_of_wide 3 Try.f3 rfl rfl rfl rfl rfl rfl rfl ⟨rfl, rfl, rfl, rfl, rfl⟩ rfl rfl rfl rfl rfl (by kernel_rfl) Try.func3 (by kernel_rfl)
    (of_decide_eq_true (by kernel_rfl)) (by unfold Func.isWrapper; first | (rw [if_pos (by decide +kernel)]; kernel_rfl) | (rw [if_neg (by decide +kernel)]; exact ⟨rfl, rfl⟩))
    (fun os started H enc _ => lifted os started H enc)

theorem proved : Rows.PuzzlesNextSaid := over
end Go.Proofs.Ytmdkhbmhgcdpaaa.puzzlesNext
