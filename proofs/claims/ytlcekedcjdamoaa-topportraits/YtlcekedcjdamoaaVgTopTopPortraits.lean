/- The statement TopPortraits, for every input: the law's function returns true, and its arguments read as before. No condition beyond the given row's. -/
import Derived.Test.YtlcekedcjdamoaaRows
import Derived.Test.YtlcekedcjdamoaaVgP9J
import Derived.Test.YtlcekedcjdamoaaVgP
import Derived.ProofKit
set_option linter.all false
namespace Go.Proofs.Ytlcekedcjdamoaa.topPortraits
open Go.ChangeShapes Go.WideShapes Go.RowKit Go.Vg

theorem own : ownKnob Try.prog.godebug = none := by kernel_rfl

set_option maxRecDepth 100000 in
theorem lifted (os : Os) (started : os.Started) (H : Type) (enc : TypeId × Value → H) :
    ReturnsInHanded {} Try.checked os 3 .any (Rows.topPortraitsSpec.pre6 enc Try.prog Try.f3 Rows.topPortraitsRow.domain false) (Rows.topPortraitsSpec.post enc Try.prog Try.f3 false true false false) := by
  refine returnsInHanded_of_change (C := Try.checked) own started (by kernel_rfl) Try.func3
    (ChangeSpec.witness6 (enc := enc) (C := Try.checked) false ⟨#[], #[.int .i64 0, .slice none 0 0], []⟩ 16 (by kernel_rfl) (by kernel_rfl) (by kernel_rfl) (by kernel_rfl)) ?_
  intro W base args ds gs before hval hW hcnd _
  refine law_contract (tb := 4) (by kernel_rfl) (by rw [Try.params3]; decide +kernel) rfl ?_ (by kernel_rfl) Try.underlying4 (Q := _) (by
    rw [Try.params3]
    exact .cons (.inr ⟨(by kernel_rfl), (by kernel_rfl)⟩) (Opens.int Try.underlying3 (by kernel_rfl)) (.cons (.inr ⟨(by kernel_rfl), (by kernel_rfl)⟩) (Opens.sliceT (f := fun x : Go.Proofs.Try.Pt => [AV.int x.kind, AV.int x.a, AV.int x.b, AV.int x.n, AV.bool x.no]) (g := Go.Proofs.Try.ptA) (W := fun x : Go.Proofs.Try.Pt => i64 x.kind ∧ i64 x.a ∧ i64 x.b ∧ i64 x.n ∧ True) Try.underlying22 (by kernel_rfl) ((Opens.struct Try.underlying28 (by kernel_rfl) (.cons (Opens.int Try.underlying3 (by kernel_rfl)) (.cons (Opens.int Try.underlying3 (by kernel_rfl)) (.cons (Opens.int Try.underlying3 (by kernel_rfl)) (.cons (Opens.int Try.underlying3 (by kernel_rfl)) (.cons (Opens.bool Try.underlying4 (by kernel_rfl)) (.nil))))))).mono (by rintro xs ⟨_, _, rfl, ⟨a0, h0, rfl⟩, ⟨_, _, rfl, ⟨a1, h1, rfl⟩, ⟨_, _, rfl, ⟨a2, h2, rfl⟩, ⟨_, _, rfl, ⟨a3, h3, rfl⟩, ⟨_, _, rfl, ⟨a4, rfl⟩, rfl⟩⟩⟩⟩⟩; exact ⟨⟨a0, a1, a2, a3, a4⟩, ⟨h0, h1, h2, h3, trivial⟩, rfl⟩)) 5 (by kernel_rfl) (by decide) (.inl (by kernel_rfl)) (fun _ => by unfold elemAV; rw [Go.Proofs.Try.agg_28]; rfl)) (.nil))) ?_ H enc W base args ds gs before hval hW
  · intro H ds hds
    rw [Try.params3] at hds
    match ds, hds with
    | [_, _], _ => rfl
  · rintro xs ⟨_, _, rfl, ⟨n1, hn1, rfl⟩, ⟨_, _, rfl, ⟨l2, hl2, rfl⟩, rfl⟩⟩
    exact Go.Proofs.Try.lawPortraits_pure n1 l2

theorem over : Rows.topPortraitsRow.holds Try.pinned (OpenSpec.ofChange Rows.topPortraitsSpec) :=
  OpenClaim.holds_of_wide 3 Try.f3 rfl rfl rfl rfl rfl rfl rfl ⟨rfl, rfl, rfl, rfl, rfl⟩ rfl rfl rfl rfl rfl (by kernel_rfl) Try.func3 (by kernel_rfl)
    (of_decide_eq_true (by kernel_rfl)) (by unfold Func.isWrapper; first | (rw [if_pos (by decide +kernel)]; kernel_rfl) | (rw [if_neg (by decide +kernel)]; exact ⟨rfl, rfl⟩))
    (fun os started H enc _ => lifted os started H enc)

theorem proved : Rows.TopPortraitsSaid := over
end Go.Proofs.Ytlcekedcjdamoaa.topPortraits
