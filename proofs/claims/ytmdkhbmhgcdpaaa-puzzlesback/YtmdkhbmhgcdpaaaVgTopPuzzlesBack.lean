/- The statement PuzzlesBack, for every input: the law's function returns true, and its arguments read as before. No condition beyond the given row's. -/
import Derived.Test.YtmdkhbmhgcdpaaaRows
import Derived.Test.YtmdkhbmhgcdpaaaVgX47
import Derived.Test.YtmdkhbmhgcdpaaaVgP
import Derived.ProofKit
import Derived.HandedShaped
set_option linter.all false
namespace Go.Proofs.Ytmdkhbmhgcdpaaa.puzzlesBack
open Go.ChangeShapes Go.WideShapes Go.RowKit Go.Vg

theorem own : ownKnob Try.prog.godebug = none := by kernel_rfl

set_option maxRecDepth 100000 in
theorem lifted (os : Os) (started : os.Started) (H : Type) (enc : TypeId × Value → H) :
    ReturnsInHanded {} Try.checked os 14 .any (Rows.puzzlesBackSpec.pre6 enc Try.prog Try.f14 Rows.puzzlesBackRow.domain false) (Rows.puzzlesBackSpec.post enc Try.prog Try.f14 false true false false) := by
  refine returnsInHanded_of_change_shaped (C := Try.checked) own started (by kernel_rfl) Try.func14
    (ChangeSpec.witness6 (enc := enc) (C := Try.checked) false ⟨#[], #[.string .empty, .agg #[.int .i64 0, .string .empty, .bool false], .string .empty], []⟩ 16 (by kernel_rfl) (by kernel_rfl) (by kernel_rfl) (by kernel_rfl)) ?_
  intro W base args ds gs before hval hW hcnd _ hsh _
  refine law_contract (tb := 4) (by kernel_rfl) (by rw [Try.params14]; decide +kernel) rfl ?_ (by kernel_rfl) Try.underlying4 (Q := _) (by
    rw [Try.params14]
    exact .cons (.inr ⟨(by kernel_rfl), (by kernel_rfl)⟩) (Opens.str Try.underlying9 (by kernel_rfl)) (.cons (.inl (by kernel_rfl)) (Opens.struct Try.underlying64 (by kernel_rfl) (.cons (Opens.int Try.underlying3 (by kernel_rfl)) (.cons (Opens.str Try.underlying9 (by kernel_rfl)) (.cons (Opens.bool Try.underlying4 (by kernel_rfl)) (.nil))))) (.cons (.inr ⟨(by kernel_rfl), (by kernel_rfl)⟩) (Opens.str Try.underlying9 (by kernel_rfl)) (.nil)))) ?_ H enc W base args ds gs before hval hW (Go.Proofs.Try.gd_shaped hsh)
  · intro H ds hds
    rw [Try.params14] at hds
    match ds, hds with
    | [_, _, _], _ => rfl
  · rintro xs ⟨_, _, rfl, ⟨s1, hs1, rfl⟩, ⟨_, _, rfl, ⟨_, _, rfl, ⟨n2, hn2, rfl⟩, ⟨_, _, rfl, ⟨s3, hs3, rfl⟩, ⟨_, _, rfl, ⟨b4, rfl⟩, rfl⟩⟩⟩, ⟨_, _, rfl, ⟨s5, hs5, rfl⟩, rfl⟩⟩⟩
    exact Go.Proofs.Try.lawBack_pure s1 s3 s5 n2 b4

theorem over : Rows.puzzlesBackRow.holds Try.pinned (OpenSpec.ofChange Rows.puzzlesBackSpec) :=
  OpenClaim.holds_of_wide 14 Try.f14 rfl rfl rfl rfl rfl rfl rfl ⟨rfl, rfl, rfl, rfl, rfl⟩ rfl rfl rfl rfl rfl (by kernel_rfl) Try.func14 (by kernel_rfl)
    (of_decide_eq_true (by kernel_rfl)) (by unfold Func.isWrapper; first | (rw [if_pos (by decide +kernel)]; kernel_rfl) | (rw [if_neg (by decide +kernel)]; exact ⟨rfl, rfl⟩))
    (fun os started H enc _ => lifted os started H enc)

theorem proved : Rows.PuzzlesBackSaid := over
end Go.Proofs.Ytmdkhbmhgcdpaaa.puzzlesBack
