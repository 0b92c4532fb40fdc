/- The statement StoreSafe, for every input: the law's function returns true, and its arguments read as before. No condition beyond the given row's. -/
import Derived.Test.YtljchlkmalidnaaRows
import Derived.Test.YtljchlkmalidnaaVgY54J
import Derived.Test.YtljchlkmalidnaaVgP
import Derived.ProofKit
set_option linter.all false
namespace Go.Proofs.Ytljchlkmalidnaa.storeSafe
open Go.ChangeShapes Go.WideShapes Go.RowKit Go.Vg

theorem own : ownKnob Try.prog.godebug = none := by kernel_rfl

set_option maxRecDepth 100000 in
theorem lifted (os : Os) (started : os.Started) (H : Type) (enc : TypeId × Value → H) :
    ReturnsInHanded {} Try.checked os 14 .any (Rows.storeSafeSpec.pre6 enc Try.prog Try.f14 Rows.storeSafeRow.domain false) (Rows.storeSafeSpec.post enc Try.prog Try.f14 false true false false) := by
  refine returnsInHanded_of_change (C := Try.checked) own started (by kernel_rfl) Try.func14
    (ChangeSpec.witness6 (enc := enc) (C := Try.checked) false ⟨#[], #[.agg #[.slice none 0 0, .slice none 0 0], .slice none 0 0], []⟩ 16 (by kernel_rfl) (by kernel_rfl) (by kernel_rfl) (by kernel_rfl)) ?_
  intro W base args ds gs before hval hW hcnd _
  refine law_contract (tb := 4) (by kernel_rfl) (by rw [Try.params14]; decide +kernel) rfl ?_ (by kernel_rfl) Try.underlying4 (Q := _) (by
    rw [Try.params14]
    exact .cons (.inl (by kernel_rfl)) (Opens.struct Try.underlying25 (by kernel_rfl) (.cons (Opens.sliceT (f := fun x : Go.Proofs.Try.St => [AV.int x.items, AV.int x.life]) (g := Go.Proofs.Try.stA) (W := fun x : Go.Proofs.Try.St => i64 x.items ∧ i64 x.life) Try.underlying22 (by kernel_rfl) ((Opens.struct Try.underlying37 (by kernel_rfl) (.cons (Opens.int Try.underlying3 (by kernel_rfl)) (.cons (Opens.int Try.underlying3 (by kernel_rfl)) (.nil)))).mono (by rintro xs ⟨_, _, rfl, ⟨a0, h0, rfl⟩, ⟨_, _, rfl, ⟨a1, h1, rfl⟩, rfl⟩⟩; exact ⟨⟨a0, a1⟩, ⟨h0, h1⟩, rfl⟩)) 2 (by kernel_rfl) (by decide) (.inl (by kernel_rfl)) (fun _ => by unfold elemAV; rw [Go.Proofs.Try.agg_37]; rfl)) (.cons (Opens.sliceT (f := fun x : Go.Proofs.Try.Ln => [AV.int x.kind, AV.int x.room, AV.int x.fr, AV.int x.to, AV.int x.uses]) (g := Go.Proofs.Try.lnA) (W := fun x : Go.Proofs.Try.Ln => i64 x.kind ∧ i64 x.room ∧ i64 x.fr ∧ i64 x.to ∧ i64 x.uses) Try.underlying23 (by kernel_rfl) ((Opens.struct Try.underlying39 (by kernel_rfl) (.cons (Opens.int Try.underlying3 (by kernel_rfl)) (.cons (Opens.int Try.underlying3 (by kernel_rfl)) (.cons (Opens.int Try.underlying3 (by kernel_rfl)) (.cons (Opens.int Try.underlying3 (by kernel_rfl)) (.cons (Opens.int Try.underlying3 (by kernel_rfl)) (.nil))))))).mono (by rintro xs ⟨_, _, rfl, ⟨a0, h0, rfl⟩, ⟨_, _, rfl, ⟨a1, h1, rfl⟩, ⟨_, _, rfl, ⟨a2, h2, rfl⟩, ⟨_, _, rfl, ⟨a3, h3, rfl⟩, ⟨_, _, rfl, ⟨a4, h4, rfl⟩, rfl⟩⟩⟩⟩⟩; exact ⟨⟨a0, a1, a2, a3, a4⟩, ⟨h0, h1, h2, h3, h4⟩, rfl⟩)) 5 (by kernel_rfl) (by decide) (.inl (by kernel_rfl)) (fun _ => by unfold elemAV; rw [Go.Proofs.Try.agg_39]; rfl)) (.nil)))) (.cons (.inr ⟨(by kernel_rfl), (by kernel_rfl)⟩) (Opens.ints Try.underlying31 (by kernel_rfl) Try.underlying3 (by kernel_rfl) (by kernel_rfl)) (.nil))) ?_ H enc W base args ds gs before hval hW (gd_none rfl rfl rfl W)
  · intro H ds hds
    rw [Try.params14] at hds
    match ds, hds with
    | [_, _], _ => rfl
  · rintro xs ⟨_, _, rfl, ⟨_, _, rfl, ⟨l1, hl1, rfl⟩, ⟨_, _, rfl, ⟨l2, hl2, rfl⟩, rfl⟩⟩, ⟨_, _, rfl, ⟨l3, hl3, rfl⟩, rfl⟩⟩
    exact Go.Proofs.Try.lawSafe_pure l1 l2 l3 (by have h := hl1.1; unfold maxLen at h; omega) (by have h := hl2.1; unfold maxLen at h; omega) (by have h := hl3.1; unfold maxLen at h; omega)

theorem over : Rows.storeSafeRow.holds Try.pinned (OpenSpec.ofChange Rows.storeSafeSpec) :=
  OpenClaim.holds_of_wide 14 Try.f14 rfl rfl rfl rfl rfl rfl rfl ⟨rfl, rfl, rfl, rfl, rfl⟩ rfl rfl rfl rfl rfl (by kernel_rfl) Try.func14 (by kernel_rfl)
    (of_decide_eq_true (by kernel_rfl)) (by unfold Func.isWrapper; first | (rw [if_pos (by decide +kernel)]; kernel_rfl) | (rw [if_neg (by decide +kernel)]; exact ⟨rfl, rfl⟩))
    (fun os started H enc _ => lifted os started H enc)

theorem proved : Rows.StoreSafeSaid := over
end Go.Proofs.Ytljchlkmalidnaa.storeSafe
