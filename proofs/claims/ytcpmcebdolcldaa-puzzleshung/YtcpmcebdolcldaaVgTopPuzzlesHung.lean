/- The statement PuzzlesHung, for every input: the law's function returns true, and its arguments read as before. No condition beyond the given row's. -/
import Derived.Test.YtcpmcebdolcldaaRows
import Derived.Test.YtcpmcebdolcldaaVgP12
import Derived.Test.YtcpmcebdolcldaaVgP
import Derived.ProofKit
set_option linter.all false
namespace Go.Proofs.Ytcpmcebdolcldaa.puzzlesHung
open Go.ChangeShapes Go.WideShapes Go.RowKit Go.Vg

theorem own : ownKnob Try.prog.godebug = none := by kernel_rfl

set_option maxRecDepth 100000 in
theorem lifted (os : Os) (started : os.Started) (H : Type) (enc : TypeId × Value → H) :
    ReturnsInHanded {} Try.checked os 4 .any (Rows.puzzlesHungSpec.pre6 enc Try.prog Try.f4 Rows.puzzlesHungRow.domain false) (Rows.puzzlesHungSpec.post enc Try.prog Try.f4 false true false false) := by
  refine returnsInHanded_of_change (C := Try.checked) own started (by kernel_rfl) Try.func4
    (ChangeSpec.witness6 (enc := enc) (C := Try.checked) false ⟨#[], #[.int .i64 0, .slice none 0 0, .agg #[.int .i64 0, .int .i64 0, .int .i64 0, .int .i64 0, .bool false]], []⟩ 16 (by kernel_rfl) (by kernel_rfl) (by kernel_rfl) (by kernel_rfl)) ?_
  intro W base args ds gs before hval hW hcnd _
  refine law_contract (tb := 4) (by kernel_rfl) (by rw [Try.params4]; decide +kernel) rfl ?_ (by kernel_rfl) Try.underlying4 (Q := _) (by
    rw [Try.params4]
    exact .cons (.inr ⟨(by kernel_rfl), (by kernel_rfl)⟩) (Opens.int Try.underlying3 (by kernel_rfl)) (.cons (.inr ⟨(by kernel_rfl), (by kernel_rfl)⟩) (Opens.sliceT (f := fun x : Go.Proofs.Try.Pt => [AV.int x.kind, AV.int x.a, AV.int x.b, AV.int x.n, AV.bool x.no]) (g := Go.Proofs.Try.ptA) (W := fun x : Go.Proofs.Try.Pt => i64 x.kind ∧ i64 x.a ∧ i64 x.b ∧ i64 x.n ∧ True) Try.underlying22 (by kernel_rfl) ((Opens.struct Try.underlying34 (by kernel_rfl) (.cons (Opens.int Try.underlying3 (by kernel_rfl)) (.cons (Opens.int Try.underlying3 (by kernel_rfl)) (.cons (Opens.int Try.underlying3 (by kernel_rfl)) (.cons (Opens.int Try.underlying3 (by kernel_rfl)) (.cons (Opens.bool Try.underlying4 (by kernel_rfl)) (.nil))))))).mono (by rintro xs ⟨_, _, rfl, ⟨a0, h0, rfl⟩, ⟨_, _, rfl, ⟨a1, h1, rfl⟩, ⟨_, _, rfl, ⟨a2, h2, rfl⟩, ⟨_, _, rfl, ⟨a3, h3, rfl⟩, ⟨_, _, rfl, ⟨a4, rfl⟩, rfl⟩⟩⟩⟩⟩; exact ⟨⟨a0, a1, a2, a3, a4⟩, ⟨h0, h1, h2, h3, trivial⟩, rfl⟩)) 5 (by kernel_rfl) (by decide) (.inl (by kernel_rfl)) (fun _ => by unfold elemAV; rw [Go.Proofs.Try.agg_34]; rfl)) (.cons (.inl (by kernel_rfl)) (Opens.struct Try.underlying34 (by kernel_rfl) (.cons (Opens.int Try.underlying3 (by kernel_rfl)) (.cons (Opens.int Try.underlying3 (by kernel_rfl)) (.cons (Opens.int Try.underlying3 (by kernel_rfl)) (.cons (Opens.int Try.underlying3 (by kernel_rfl)) (.cons (Opens.bool Try.underlying4 (by kernel_rfl)) (.nil))))))) (.nil)))) ?_ H enc W base args ds gs before hval hW
  · intro H ds hds
    rw [Try.params4] at hds
    match ds, hds with
    | [_, _, _], _ => rfl
  · rintro xs ⟨_, _, rfl, ⟨n1, hn1, rfl⟩, ⟨_, _, rfl, ⟨l2, hl2, rfl⟩, ⟨_, _, rfl, ⟨_, _, rfl, ⟨n3, hn3, rfl⟩, ⟨_, _, rfl, ⟨n4, hn4, rfl⟩, ⟨_, _, rfl, ⟨n5, hn5, rfl⟩, ⟨_, _, rfl, ⟨n6, hn6, rfl⟩, ⟨_, _, rfl, ⟨b7, rfl⟩, rfl⟩⟩⟩⟩⟩, rfl⟩⟩⟩
    exact Go.Proofs.Try.lawHung_pure n1 l2 ⟨n3, n4, n5, n6, b7⟩ (by have h := hl2.1; unfold maxLen at h; omega)

theorem over : Rows.puzzlesHungRow.holds Try.pinned (OpenSpec.ofChange Rows.puzzlesHungSpec) :=
  OpenClaim.holds_of_wide 4 Try.f4 rfl rfl rfl rfl rfl rfl rfl ⟨rfl, rfl, rfl, rfl, rfl⟩ rfl rfl rfl rfl rfl (by kernel_rfl) Try.func4 (by kernel_rfl)
    (of_decide_eq_true (by kernel_rfl)) (by unfold Func.isWrapper; first | (rw [if_pos (by decide +kernel)]; kernel_rfl) | (rw [if_neg (by decide +kernel)]; exact ⟨rfl, rfl⟩))
    (fun os started H enc _ => lifted os started H enc)

theorem proved : Rows.PuzzlesHungSaid := over
end Go.Proofs.Ytcpmcebdolcldaa.puzzlesHung
