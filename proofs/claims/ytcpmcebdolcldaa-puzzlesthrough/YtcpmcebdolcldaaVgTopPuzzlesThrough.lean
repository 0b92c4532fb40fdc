/- The statement PuzzlesThrough, for every input: the law's function returns true, and its arguments read as before. No condition beyond the given row's. -/
import Derived.Test.YtcpmcebdolcldaaRows
import Derived.Test.YtcpmcebdolcldaaVgM17
import Derived.Test.YtcpmcebdolcldaaVgP
import Derived.ProofKit
set_option linter.all false
namespace Go.Proofs.Ytcpmcebdolcldaa.puzzlesThrough
open Go.ChangeShapes Go.WideShapes Go.RowKit Go.Vg

theorem own : ownKnob Try.prog.godebug = none := by kernel_rfl

set_option maxRecDepth 100000 in
theorem lifted (os : Os) (started : os.Started) (H : Type) (enc : TypeId × Value → H) :
    ReturnsInHanded {} Try.checked os 6 .any (Rows.puzzlesThroughSpec.pre6 enc Try.prog Try.f6 Rows.puzzlesThroughRow.domain false) (Rows.puzzlesThroughSpec.post enc Try.prog Try.f6 false true false false) := by
  refine returnsInHanded_of_change (C := Try.checked) own started (by kernel_rfl) Try.func6
    (ChangeSpec.witness6 (enc := enc) (C := Try.checked) false ⟨#[], #[.agg #[.int .i64 0, .int .i64 0, .slice none 0 0, .int .i64 0, .int .i64 0], .slice none 0 0], []⟩ 16 (by kernel_rfl) (by kernel_rfl) (by kernel_rfl) (by kernel_rfl)) ?_
  intro W base args ds gs before hval hW hcnd _
  refine law_contract (tb := 4) (by kernel_rfl) (by rw [Try.params6]; decide +kernel) rfl ?_ (by kernel_rfl) Try.underlying4 (Q := _) (by
    rw [Try.params6]
    exact .cons (.inl (by kernel_rfl)) (Opens.struct Try.underlying41 (by kernel_rfl) (.cons (Opens.int Try.underlying3 (by kernel_rfl)) (.cons (Opens.int Try.underlying3 (by kernel_rfl)) (.cons (Opens.bools Try.underlying39 (by kernel_rfl) Try.underlying4 (by kernel_rfl) (by kernel_rfl)) (.cons (Opens.int Try.underlying3 (by kernel_rfl)) (.cons (Opens.int Try.underlying3 (by kernel_rfl)) (.nil))))))) (.cons (.inr ⟨(by kernel_rfl), (by kernel_rfl)⟩) (Opens.ints Try.underlying28 (by kernel_rfl) Try.underlying3 (by kernel_rfl) (by kernel_rfl)) (.nil))) ?_ H enc W base args ds gs before hval hW (gd_none rfl W)
  · intro H ds hds
    rw [Try.params6] at hds
    match ds, hds with
    | [_, _], _ => rfl
  · rintro xs ⟨_, _, rfl, ⟨_, _, rfl, ⟨n1, hn1, rfl⟩, ⟨_, _, rfl, ⟨n2, hn2, rfl⟩, ⟨_, _, rfl, ⟨l3, hl3, rfl⟩, ⟨_, _, rfl, ⟨n4, hn4, rfl⟩, ⟨_, _, rfl, ⟨n5, hn5, rfl⟩, rfl⟩⟩⟩⟩⟩, ⟨_, _, rfl, ⟨l6, hl6, rfl⟩, rfl⟩⟩
    exact Go.Proofs.Try.lawThrough_pure n1 n2 n4 n5 l3 l6 (by have h := hl6.1; unfold maxLen at h; omega)

theorem over : Rows.puzzlesThroughRow.holds Try.pinned (OpenSpec.ofChange Rows.puzzlesThroughSpec) :=
  OpenClaim.holds_of_wide 6 Try.f6 rfl rfl rfl rfl rfl rfl rfl ⟨rfl, rfl, rfl, rfl, rfl⟩ rfl rfl rfl rfl rfl (by kernel_rfl) Try.func6 (by kernel_rfl)
    (of_decide_eq_true (by kernel_rfl)) (by unfold Func.isWrapper; first | (rw [if_pos (by decide +kernel)]; kernel_rfl) | (rw [if_neg (by decide +kernel)]; exact ⟨rfl, rfl⟩))
    (fun os started H enc _ => lifted os started H enc)

theorem proved : Rows.PuzzlesThroughSaid := over
end Go.Proofs.Ytcpmcebdolcldaa.puzzlesThrough
