/- The statement BookingBest, for every input: the law's function returns true, and its arguments read as before. No condition beyond the given row's. -/
import Derived.Test.YtbeclidfilbbdaaRows
import Derived.Test.YtbeclidfilbbdaaVgK49J
import Derived.Test.YtbeclidfilbbdaaVgP
import Derived.ProofKit
set_option linter.all false
namespace Go.Proofs.Ytbeclidfilbbdaa.bookingBest
open Go.ChangeShapes Go.WideShapes Go.RowKit Go.Vg

theorem own : ownKnob Try.prog.godebug = none := by kernel_rfl

set_option maxRecDepth 100000 in
theorem lifted (os : Os) (started : os.Started) (H : Type) (enc : TypeId × Value → H) :
    ReturnsInHanded {} Try.checked os 16 .any (Rows.bookingBestSpec.pre6 enc Try.prog Try.f16 Rows.bookingBestRow.domain false) (Rows.bookingBestSpec.post enc Try.prog Try.f16 false true false false) := by
  refine returnsInHanded_of_change (C := Try.checked) own started (by kernel_rfl) Try.func16
    (ChangeSpec.witness6 (enc := enc) (C := Try.checked) false ⟨#[], #[.agg #[.slice none 0 0, .slice none 0 0, .int .i64 0], .slice none 0 0, .agg #[.slice none 0 0, .slice none 0 0]], []⟩ 16 (by kernel_rfl) (by kernel_rfl) (by kernel_rfl) (by kernel_rfl)) ?_
  intro W base args ds gs before hval hW hcnd _
  refine law_contract (tb := 4) (by kernel_rfl) (by rw [Try.params16]; decide +kernel) rfl ?_ (by kernel_rfl) Try.underlying4 (Q := _) (by
    rw [Try.params16]
    exact .cons (.inl (by kernel_rfl)) (Opens.struct Try.underlying25 (by kernel_rfl) (.cons (Opens.sliceT (f := fun x : Go.Proofs.Try.Ch => [AV.int x.least, AV.int x.most, AV.int x.len, AV.int x.reset]) (g := Go.Proofs.Try.chA) (W := fun x : Go.Proofs.Try.Ch => i64 x.least ∧ i64 x.most ∧ i64 x.len ∧ i64 x.reset) Try.underlying22 (by kernel_rfl) ((Opens.struct Try.underlying83 (by kernel_rfl) (.cons (Opens.int Try.underlying3 (by kernel_rfl)) (.cons (Opens.int Try.underlying3 (by kernel_rfl)) (.cons (Opens.int Try.underlying3 (by kernel_rfl)) (.cons (Opens.int Try.underlying3 (by kernel_rfl)) (.nil)))))).mono (by rintro xs ⟨_, _, rfl, ⟨a0, h0, rfl⟩, ⟨_, _, rfl, ⟨a1, h1, rfl⟩, ⟨_, _, rfl, ⟨a2, h2, rfl⟩, ⟨_, _, rfl, ⟨a3, h3, rfl⟩, rfl⟩⟩⟩⟩; exact ⟨⟨a0, a1, a2, a3⟩, ⟨h0, h1, h2, h3⟩, rfl⟩)) 4 (by kernel_rfl) (by decide) (.inl (by kernel_rfl)) (fun _ => by unfold elemAV; rw [Go.Proofs.Try.agg_83]; rfl)) (.cons (Opens.sliceT (f := fun x : Go.Proofs.Try.Ma => [AV.int x.tong, AV.int x.fr, AV.int x.to]) (g := Go.Proofs.Try.maA) (W := fun x : Go.Proofs.Try.Ma => i64 x.tong ∧ i64 x.fr ∧ i64 x.to) Try.underlying23 (by kernel_rfl) ((Opens.struct Try.underlying100 (by kernel_rfl) (.cons (Opens.int Try.underlying3 (by kernel_rfl)) (.cons (Opens.int Try.underlying3 (by kernel_rfl)) (.cons (Opens.int Try.underlying3 (by kernel_rfl)) (.nil))))).mono (by rintro xs ⟨_, _, rfl, ⟨a0, h0, rfl⟩, ⟨_, _, rfl, ⟨a1, h1, rfl⟩, ⟨_, _, rfl, ⟨a2, h2, rfl⟩, rfl⟩⟩⟩; exact ⟨⟨a0, a1, a2⟩, ⟨h0, h1, h2⟩, rfl⟩)) 3 (by kernel_rfl) (by decide) (.inl (by kernel_rfl)) (fun _ => by unfold elemAV; rw [Go.Proofs.Try.agg_100]; rfl)) (.cons (Opens.int Try.underlying3 (by kernel_rfl)) (.nil))))) (.cons (.inr ⟨(by kernel_rfl), (by kernel_rfl)⟩) (Opens.sliceT (f := fun x : Go.Proofs.Try.Bk => [AV.int x.ch, AV.int x.st, AV.int x.size, AV.int x.tongue, AV.bool x.bday, AV.int x.rival]) (g := Go.Proofs.Try.bkA) (W := fun x : Go.Proofs.Try.Bk => i64 x.ch ∧ i64 x.st ∧ i64 x.size ∧ i64 x.tongue ∧ True ∧ i64 x.rival) Try.underlying26 (by kernel_rfl) ((Opens.struct Try.underlying28 (by kernel_rfl) (.cons (Opens.int Try.underlying3 (by kernel_rfl)) (.cons (Opens.int Try.underlying3 (by kernel_rfl)) (.cons (Opens.int Try.underlying3 (by kernel_rfl)) (.cons (Opens.int Try.underlying3 (by kernel_rfl)) (.cons (Opens.bool Try.underlying4 (by kernel_rfl)) (.cons (Opens.int Try.underlying3 (by kernel_rfl)) (.nil)))))))).mono (by rintro xs ⟨_, _, rfl, ⟨a0, h0, rfl⟩, ⟨_, _, rfl, ⟨a1, h1, rfl⟩, ⟨_, _, rfl, ⟨a2, h2, rfl⟩, ⟨_, _, rfl, ⟨a3, h3, rfl⟩, ⟨_, _, rfl, ⟨a4, rfl⟩, ⟨_, _, rfl, ⟨a5, h5, rfl⟩, rfl⟩⟩⟩⟩⟩⟩; exact ⟨⟨a0, a1, a2, a3, a4, a5⟩, ⟨h0, h1, h2, h3, trivial, h5⟩, rfl⟩)) 6 (by kernel_rfl) (by decide) (.inl (by kernel_rfl)) (fun _ => by unfold elemAV; rw [Go.Proofs.Try.agg_28]; rfl)) (.cons (.inl (by kernel_rfl)) (Opens.struct Try.underlying70 (by kernel_rfl) (.cons (Opens.ints Try.underlying54 (by kernel_rfl) Try.underlying3 (by kernel_rfl) (by kernel_rfl)) (.cons (Opens.ints Try.underlying54 (by kernel_rfl) Try.underlying3 (by kernel_rfl) (by kernel_rfl)) (.nil)))) (.nil)))) ?_ H enc W base args ds gs before hval hW
  · intro H ds hds
    rw [Try.params16] at hds
    match ds, hds with
    | [_, _, _], _ => rfl
  · rintro xs ⟨_, _, rfl, ⟨_, _, rfl, ⟨l1, hl1, rfl⟩, ⟨_, _, rfl, ⟨l2, hl2, rfl⟩, ⟨_, _, rfl, ⟨n3, hn3, rfl⟩, rfl⟩⟩⟩, ⟨_, _, rfl, ⟨l4, hl4, rfl⟩, ⟨_, _, rfl, ⟨_, _, rfl, ⟨l5, hl5, rfl⟩, ⟨_, _, rfl, ⟨l6, hl6, rfl⟩, rfl⟩⟩, rfl⟩⟩⟩
    exact Go.Proofs.Try.lawBest_pure l1 l2 n3 l4 l5 l6 (by have h := hl1.1; unfold maxLen at h; omega) (by have h := hl2.1; unfold maxLen at h; omega) (by have h := hl4.1; unfold maxLen at h; omega) (by have h := hl5.1; unfold maxLen at h; omega) (by have h := hl6.1; unfold maxLen at h; omega)

theorem over : Rows.bookingBestRow.holds Try.pinned (OpenSpec.ofChange Rows.bookingBestSpec) :=
  OpenClaim.holds_of_wide 16 Try.f16 rfl rfl rfl rfl rfl rfl rfl ⟨rfl, rfl, rfl, rfl, rfl⟩ rfl rfl rfl rfl rfl (by kernel_rfl) Try.func16 (by kernel_rfl)
    (of_decide_eq_true (by kernel_rfl)) (by unfold Func.isWrapper; first | (rw [if_pos (by decide +kernel)]; kernel_rfl) | (rw [if_neg (by decide +kernel)]; exact ⟨rfl, rfl⟩))
    (fun os started H enc _ => lifted os started H enc)

theorem proved : Rows.BookingBestSaid := over
end Go.Proofs.Ytbeclidfilbbdaa.bookingBest
