/- The statement TopLent, for every input: the law's function returns true, and its arguments read as before. No condition beyond the given row's. -/
import Derived.Test.YtlcekedcjdamoaaRows
import Derived.Test.YtlcekedcjdamoaaVgC11
import Derived.Test.YtlcekedcjdamoaaVgP
import Derived.ProofKit
set_option linter.all false
namespace Go.Proofs.Ytlcekedcjdamoaa.topLent
open Go.ChangeShapes Go.WideShapes Go.RowKit Go.Vg

theorem own : ownKnob Try.prog.godebug = none := by kernel_rfl

set_option maxRecDepth 100000 in
theorem lifted (os : Os) (started : os.Started) (H : Type) (enc : TypeId × Value → H) :
    ReturnsInHanded {} Try.checked os 4 .any (Rows.topLentSpec.pre6 enc Try.prog Try.f4 Rows.topLentRow.domain false) (Rows.topLentSpec.post enc Try.prog Try.f4 false true false false) := by
  refine returnsInHanded_of_change (C := Try.checked) own started (by kernel_rfl) Try.func4
    (ChangeSpec.witness6 (enc := enc) (C := Try.checked) false ⟨#[], #[.agg #[.slice none 0 0, .slice none 0 0, .int .i64 0], .slice none 0 0], []⟩ 16 (by kernel_rfl) (by kernel_rfl) (by kernel_rfl) (by kernel_rfl)) ?_
  intro W base args ds gs before hval hW hcnd _
  refine law_contract (tb := 4) (by kernel_rfl) (by rw [Try.params4]; decide +kernel) rfl ?_ (by kernel_rfl) Try.underlying4 (Q := _) (by
    rw [Try.params4]
    exact .cons (.inl (by kernel_rfl)) (Opens.struct Try.underlying45 (by kernel_rfl) (.cons (Opens.sliceT (f := fun x : Go.Proofs.Try.Ch => [AV.int x.least, AV.int x.most, AV.int x.len, AV.int x.reset]) (g := Go.Proofs.Try.chA) (W := fun x : Go.Proofs.Try.Ch => i64 x.least ∧ i64 x.most ∧ i64 x.len ∧ i64 x.reset) Try.underlying42 (by kernel_rfl) ((Opens.struct Try.underlying57 (by kernel_rfl) (.cons (Opens.int Try.underlying3 (by kernel_rfl)) (.cons (Opens.int Try.underlying3 (by kernel_rfl)) (.cons (Opens.int Try.underlying3 (by kernel_rfl)) (.cons (Opens.int Try.underlying3 (by kernel_rfl)) (.nil)))))).mono (by rintro xs ⟨_, _, rfl, ⟨a0, h0, rfl⟩, ⟨_, _, rfl, ⟨a1, h1, rfl⟩, ⟨_, _, rfl, ⟨a2, h2, rfl⟩, ⟨_, _, rfl, ⟨a3, h3, rfl⟩, rfl⟩⟩⟩⟩; exact ⟨⟨a0, a1, a2, a3⟩, ⟨h0, h1, h2, h3⟩, rfl⟩)) 4 (by kernel_rfl) (by decide) (.inl (by kernel_rfl)) (fun _ => by unfold elemAV; rw [Go.Proofs.Try.agg_57]; rfl)) (.cons (Opens.sliceT (f := fun x : Go.Proofs.Try.Ma => [AV.int x.tong, AV.int x.fr, AV.int x.to]) (g := Go.Proofs.Try.maA) (W := fun x : Go.Proofs.Try.Ma => i64 x.tong ∧ i64 x.fr ∧ i64 x.to) Try.underlying43 (by kernel_rfl) ((Opens.struct Try.underlying120 (by kernel_rfl) (.cons (Opens.int Try.underlying3 (by kernel_rfl)) (.cons (Opens.int Try.underlying3 (by kernel_rfl)) (.cons (Opens.int Try.underlying3 (by kernel_rfl)) (.nil))))).mono (by rintro xs ⟨_, _, rfl, ⟨a0, h0, rfl⟩, ⟨_, _, rfl, ⟨a1, h1, rfl⟩, ⟨_, _, rfl, ⟨a2, h2, rfl⟩, rfl⟩⟩⟩; exact ⟨⟨a0, a1, a2⟩, ⟨h0, h1, h2⟩, rfl⟩)) 3 (by kernel_rfl) (by decide) (.inl (by kernel_rfl)) (fun _ => by unfold elemAV; rw [Go.Proofs.Try.agg_120]; rfl)) (.cons (Opens.int Try.underlying3 (by kernel_rfl)) (.nil))))) (.cons (.inr ⟨(by kernel_rfl), (by kernel_rfl)⟩) (Opens.sliceT (f := fun x : Go.Proofs.Try.Bk => [AV.int x.ch, AV.int x.st, AV.int x.size, AV.int x.tongue, AV.bool x.bday, AV.int x.rival]) (g := Go.Proofs.Try.bkA) (W := fun x : Go.Proofs.Try.Bk => i64 x.ch ∧ i64 x.st ∧ i64 x.size ∧ i64 x.tongue ∧ True ∧ i64 x.rival) Try.underlying46 (by kernel_rfl) ((Opens.struct Try.underlying59 (by kernel_rfl) (.cons (Opens.int Try.underlying3 (by kernel_rfl)) (.cons (Opens.int Try.underlying3 (by kernel_rfl)) (.cons (Opens.int Try.underlying3 (by kernel_rfl)) (.cons (Opens.int Try.underlying3 (by kernel_rfl)) (.cons (Opens.bool Try.underlying4 (by kernel_rfl)) (.cons (Opens.int Try.underlying3 (by kernel_rfl)) (.nil)))))))).mono (by rintro xs ⟨_, _, rfl, ⟨a0, h0, rfl⟩, ⟨_, _, rfl, ⟨a1, h1, rfl⟩, ⟨_, _, rfl, ⟨a2, h2, rfl⟩, ⟨_, _, rfl, ⟨a3, h3, rfl⟩, ⟨_, _, rfl, ⟨a4, rfl⟩, ⟨_, _, rfl, ⟨a5, h5, rfl⟩, rfl⟩⟩⟩⟩⟩⟩; exact ⟨⟨a0, a1, a2, a3, a4, a5⟩, ⟨h0, h1, h2, h3, trivial, h5⟩, rfl⟩)) 6 (by kernel_rfl) (by decide) (.inl (by kernel_rfl)) (fun _ => by unfold elemAV; rw [Go.Proofs.Try.agg_59]; rfl)) (.nil))) ?_ H enc W base args ds gs before hval hW
  · intro H ds hds
    rw [Try.params4] at hds
    match ds, hds with
    | [_, _], _ => rfl
  · rintro xs ⟨_, _, rfl, ⟨_, _, rfl, ⟨l1, hl1, rfl⟩, ⟨_, _, rfl, ⟨l2, hl2, rfl⟩, ⟨_, _, rfl, ⟨n3, hn3, rfl⟩, rfl⟩⟩⟩, ⟨_, _, rfl, ⟨l4, hl4, rfl⟩, rfl⟩⟩
    exact Go.Proofs.Try.lawLent_pure l1 l2 n3 l4

theorem over : Rows.topLentRow.holds Try.pinned (OpenSpec.ofChange Rows.topLentSpec) :=
  OpenClaim.holds_of_wide 4 Try.f4 rfl rfl rfl rfl rfl rfl rfl ⟨rfl, rfl, rfl, rfl, rfl⟩ rfl rfl rfl rfl rfl (by kernel_rfl) Try.func4 (by kernel_rfl)
    (of_decide_eq_true (by kernel_rfl)) (by unfold Func.isWrapper; first | (rw [if_pos (by decide +kernel)]; kernel_rfl) | (rw [if_neg (by decide +kernel)]; exact ⟨rfl, rfl⟩))
    (fun os started H enc _ => lifted os started H enc)

theorem proved : Rows.TopLentSaid := over
end Go.Proofs.Ytlcekedcjdamoaa.topLent
