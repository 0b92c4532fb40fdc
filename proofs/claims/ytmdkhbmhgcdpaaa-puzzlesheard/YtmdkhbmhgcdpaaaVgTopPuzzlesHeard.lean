/- The statement PuzzlesHeard, for every input: the law's function returns true, and its arguments read as before. No condition beyond the given row's. -/
import Derived.Test.YtmdkhbmhgcdpaaaRows
import Derived.Test.YtmdkhbmhgcdpaaaVgX23
import Derived.Test.YtmdkhbmhgcdpaaaVgW
import Derived.ProofKit
set_option linter.all false
namespace Go.Proofs.Ytmdkhbmhgcdpaaa.puzzlesHeard
open Go.ChangeShapes Go.WideShapes Go.RowKit Go.Vg

theorem own : ownKnob Try.prog.godebug = none := by kernel_rfl

set_option maxRecDepth 100000 in
theorem lifted (os : Os) (started : os.Started) (H : Type) (enc : TypeId × Value → H) :
    ReturnsInHanded {} Try.checked os 8 .any (Rows.puzzlesHeardSpec.pre6 enc Try.prog Try.f8 Rows.puzzlesHeardRow.domain false) (Rows.puzzlesHeardSpec.post enc Try.prog Try.f8 false true false false) := by
  refine returnsInHanded_of_change_sized (C := Try.checked) own started (by kernel_rfl) Try.func8
    (ChangeSpec.witness6 (enc := enc) (C := Try.checked) false ⟨#[], #[.slice none 0 0, .slice none 0 0, .slice none 0 0], []⟩ 16 (by kernel_rfl) (by kernel_rfl) (by kernel_rfl) (by kernel_rfl)) ?_
  intro W base args ds gs before hval hW hcnd hz _
  refine law_contract2 (tb := 4) (by kernel_rfl) (by rw [Try.params8]; decide +kernel) rfl ?_ (by kernel_rfl) Try.underlying4 (Q := _) (by
    rw [Try.params8]
    exact .cons (.inr ⟨(by kernel_rfl), (by kernel_rfl)⟩) (Opens.ints Try.underlying22 (by kernel_rfl) Try.underlying3 (by kernel_rfl) (by kernel_rfl)) (.cons (.inr ⟨(by kernel_rfl), (by kernel_rfl)⟩) (Opens.ints Try.underlying22 (by kernel_rfl) Try.underlying3 (by kernel_rfl) (by kernel_rfl)) (.cons (.inr ⟨(by kernel_rfl), (by kernel_rfl)⟩) (Opens.ints Try.underlying22 (by kernel_rfl) Try.underlying3 (by kernel_rfl) (by kernel_rfl)) (.nil)))) ?_ H enc W base args ds gs before hval hW _ hz
  · intro H ds hds
    rw [Try.params8] at hds
    match ds, hds with
    | [_, _, _], _ => rfl
  · rintro xs ⟨_, _, rfl, ⟨l1, hl1, rfl⟩, ⟨_, _, rfl, ⟨l2, hl2, rfl⟩, ⟨_, _, rfl, ⟨l3, hl3, rfl⟩, rfl⟩⟩⟩
    intro hsz
    exact Go.Proofs.Try.lawHeard_pure l1 l2 l3 (by
      have h := hsz 2 22 3 1 _ (by rw [Try.params8]; rfl) Try.underlying22 rfl
      have hb : Try.prog.bytesOf 3 = 8 := by kernel_rfl
      rw [hb, List.length_map] at h
      exact h)

theorem over : Rows.puzzlesHeardRow.holds Try.pinned (OpenSpec.ofChange Rows.puzzlesHeardSpec) :=
  OpenClaim.holds_of_wide 8 Try.f8 rfl rfl rfl rfl rfl rfl rfl ⟨rfl, rfl, rfl, rfl, rfl⟩ rfl rfl rfl rfl rfl (by kernel_rfl) Try.func8 (by kernel_rfl)
    (of_decide_eq_true (by kernel_rfl)) (by unfold Func.isWrapper; first | (rw [if_pos (by decide +kernel)]; kernel_rfl) | (rw [if_neg (by decide +kernel)]; exact ⟨rfl, rfl⟩))
    (fun os started H enc _ => lifted os started H enc)

theorem proved : Rows.PuzzlesHeardSaid := over
end Go.Proofs.Ytmdkhbmhgcdpaaa.puzzlesHeard
