/- The statement PuzzlesSheets, for every input: the law's function returns true, and its arguments read as before. No condition beyond the given row's. -/
import Derived.Test.YtgoclpdoejhohaaRows
import Derived.Test.YtgoclpdoejhohaaVgS15
import Derived.Test.YtgoclpdoejhohaaVgP
import Derived.ProofKit
set_option linter.all false
namespace Go.Proofs.Ytgoclpdoejhohaa.puzzlesSheets
open Go.ChangeShapes Go.WideShapes Go.RowKit Go.Vg

theorem own : ownKnob Try.prog.godebug = none := by kernel_rfl

set_option maxRecDepth 100000 in
theorem lifted (os : Os) (started : os.Started) (H : Type) (enc : TypeId × Value → H) :
    ReturnsInHanded {} Try.checked os 3 .any (Rows.puzzlesSheetsSpec.pre6 enc Try.prog Try.f3 Rows.puzzlesSheetsRow.domain false) (Rows.puzzlesSheetsSpec.post enc Try.prog Try.f3 false true false false) := by
  refine returnsInHanded_of_change (C := Try.checked) own started (by kernel_rfl) Try.func3
    (ChangeSpec.witness6 (enc := enc) (C := Try.checked) false ⟨#[], #[.slice none 0 0, .slice none 0 0, .agg #[.int .i64 0, .int .i64 0, .int .i64 0, .string .empty]], []⟩ 16 (by kernel_rfl) (by kernel_rfl) (by kernel_rfl) (by kernel_rfl)) ?_
  intro W base args ds gs before hval hW hcnd _
  refine law_contract (tb := 4) (by kernel_rfl) (by rw [Try.params3]; decide +kernel) rfl ?_ (by kernel_rfl) Try.underlying4 (Q := _) (by
    rw [Try.params3]
    exact .cons (.inr ⟨(by kernel_rfl), (by kernel_rfl)⟩) (Opens.strs Try.underlying23 (by kernel_rfl) Try.underlying9 (by kernel_rfl) (by kernel_rfl)) (.cons (.inr ⟨(by kernel_rfl), (by kernel_rfl)⟩) (Opens.strs Try.underlying23 (by kernel_rfl) Try.underlying9 (by kernel_rfl) (by kernel_rfl)) (.cons (.inl (by kernel_rfl)) (Opens.struct Try.underlying27 (by kernel_rfl) (.cons (Opens.struct Try.underlying25 (by kernel_rfl) (.cons (Opens.int Try.underlying3 (by kernel_rfl)) (.cons (Opens.int Try.underlying3 (by kernel_rfl)) (.cons (Opens.int Try.underlying3 (by kernel_rfl)) (.nil))))) (.cons (Opens.str Try.underlying9 (by kernel_rfl)) (.nil)))) (.nil)))) ?_ H enc W base args ds gs before hval hW (gd_none rfl W)
  · intro H ds hds
    rw [Try.params3] at hds
    match ds, hds with
    | [_, _, _], _ => rfl
  · rintro xs ⟨_, _, rfl, ⟨l1, hl1, rfl⟩, ⟨_, _, rfl, ⟨l2, hl2, rfl⟩, ⟨_, _, rfl, ⟨_, _, rfl, ⟨_, _, rfl, ⟨n3, hn3, rfl⟩, ⟨_, _, rfl, ⟨n4, hn4, rfl⟩, ⟨_, _, rfl, ⟨n5, hn5, rfl⟩, rfl⟩⟩⟩, ⟨_, _, rfl, ⟨s6, hs6, rfl⟩, rfl⟩⟩, rfl⟩⟩⟩
    exact Go.Proofs.Try.lawSheets_pure l1 l2 n3 n4 n5 s6

theorem over : Rows.puzzlesSheetsRow.holds Try.pinned (OpenSpec.ofChange Rows.puzzlesSheetsSpec) :=
  OpenClaim.holds_of_wide 3 Try.f3 rfl rfl rfl rfl rfl rfl rfl ⟨rfl, rfl, rfl, rfl, rfl⟩ rfl rfl rfl rfl rfl (by kernel_rfl) Try.func3 (by kernel_rfl)
    (of_decide_eq_true (by kernel_rfl)) (by unfold Func.isWrapper; first | (rw [if_pos (by decide +kernel)]; kernel_rfl) | (rw [if_neg (by decide +kernel)]; exact ⟨rfl, rfl⟩))
    (fun os started H enc _ => lifted os started H enc)

theorem proved : Rows.PuzzlesSheetsSaid := over
end Go.Proofs.Ytgoclpdoejhohaa.puzzlesSheets
