/- The statement PuzzlesPowers, for every input: the law's function returns true, and its arguments read as before. No condition beyond the given row's. -/
import Derived.Test.YtmdkhbmhgcdpaaaRows
import Derived.Test.YtmdkhbmhgcdpaaaVgX13
import Derived.Test.YtmdkhbmhgcdpaaaVgP
import Derived.ProofKit
set_option linter.all false
namespace Go.Proofs.Ytmdkhbmhgcdpaaa.puzzlesPowers
open Go.ChangeShapes Go.WideShapes Go.RowKit Go.Vg

theorem own : ownKnob Try.prog.godebug = none := by kernel_rfl

set_option maxRecDepth 100000 in
theorem lifted (os : Os) (started : os.Started) (H : Type) (enc : TypeId × Value → H) :
    ReturnsInHanded {} Try.checked os 4 .any (Rows.puzzlesPowersSpec.pre6 enc Try.prog Try.f4 Rows.puzzlesPowersRow.domain false) (Rows.puzzlesPowersSpec.post enc Try.prog Try.f4 false true false false) := by
  refine returnsInHanded_of_change (C := Try.checked) own started (by kernel_rfl) Try.func4
    (ChangeSpec.witness6 (enc := enc) (C := Try.checked) false ⟨#[], #[.slice none 0 0, .int .i64 0], []⟩ 16 (by kernel_rfl) (by kernel_rfl) (by kernel_rfl) (by kernel_rfl)) ?_
  intro W base args ds gs before hval hW hcnd _
  refine law_contract (tb := 4) (by kernel_rfl) (by rw [Try.params4]; decide +kernel) rfl ?_ (by kernel_rfl) Try.underlying4 (Q := _) (by
    rw [Try.params4]
    exact .cons (.inr ⟨(by kernel_rfl), (by kernel_rfl)⟩) (Opens.ints Try.underlying22 (by kernel_rfl) Try.underlying3 (by kernel_rfl) (by kernel_rfl)) (.cons (.inr ⟨(by kernel_rfl), (by kernel_rfl)⟩) (Opens.int Try.underlying3 (by kernel_rfl)) (.nil))) ?_ H enc W base args ds gs before hval hW
  · intro H ds hds
    rw [Try.params4] at hds
    match ds, hds with
    | [_, _], _ => rfl
  · rintro xs ⟨_, _, rfl, ⟨l1, hl1, rfl⟩, ⟨_, _, rfl, ⟨n2, hn2, rfl⟩, rfl⟩⟩
    exact Go.Proofs.Try.lawPowers_pure l1 n2

theorem over : Rows.puzzlesPowersRow.holds Try.pinned (OpenSpec.ofChange Rows.puzzlesPowersSpec) :=
  OpenClaim.holds_of_wide 4 Try.f4 rfl rfl rfl rfl rfl rfl rfl ⟨rfl, rfl, rfl, rfl, rfl⟩ rfl rfl rfl rfl rfl (by kernel_rfl) Try.func4 (by kernel_rfl)
    (of_decide_eq_true (by kernel_rfl)) (by unfold Func.isWrapper; first | (rw [if_pos (by decide +kernel)]; kernel_rfl) | (rw [if_neg (by decide +kernel)]; exact ⟨rfl, rfl⟩))
    (fun os started H enc _ => lifted os started H enc)

theorem proved : Rows.PuzzlesPowersSaid := over
end Go.Proofs.Ytmdkhbmhgcdpaaa.puzzlesPowers
