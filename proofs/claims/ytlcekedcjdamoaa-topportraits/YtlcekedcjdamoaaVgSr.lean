/- A part of the proof of TopPortraits: contracts of functions, with plain laws that they need. -/
import Derived.Test.YtlcekedcjdamoaaVgAp
import Derived.Test.YtlcekedcjdamoaaVgVw
set_option linter.all false
set_option linter.unusedVariables false
set_option autoImplicit true
namespace Go.Vg
open Go.RowKit
variable {P : Program} {X : Nat → Prop} {w : World} {ρ : Rho}
/-! a row of which we say a nil slice to be a list without elements -/
mutual
inductive Sb : AV → AV → Prop
  | refl (x : AV) : Sb x x
  | emp (sz : Nat) : Sb .emp (.lst sz [])
  | agg {xs ys : List AV} : SbL xs ys → Sb (.agg xs) (.agg ys)
inductive SbL : List AV → List AV → Prop
  | nil : SbL [] []
  | cons {x y : AV} {xs ys : List AV} : Sb x y → SbL xs ys → SbL (x :: xs) (y :: ys)
end
theorem SbL.len : ∀ {xs ys : List AV}, SbL xs ys → ys.length = xs.length
  | _, _, .nil => rfl
  | _, _, .cons _ h => by simp [SbL.len h]
mutual
theorem Sb.rel : ∀ {x y : AV}, Sb x y → (∀ v, R X w ρ x v → R X w ρ y v) ∧ (∀ sz b o, Re X w ρ x sz b o → Re X w ρ y sz b o)
  | _, _, .refl x => ⟨fun _ h => h, fun _ _ _ h => h⟩
  | _, _, .emp sz => by
    have key : ∀ v, R X w ρ .emp v → R X w ρ (.lst sz []) v := fun v h => emp_lst sz h
    exact ⟨key, fun _ _ _ h => OneAt.mono (fun _ => rfl) h key⟩
  | _, _, .agg hys => ⟨fun _ ⟨vs, h1, h2⟩ => ⟨vs, h1, (SbL.rel hys).1 vs h2⟩, fun _ b o h => ⟨by rw [SbL.len hys]; exact h.1, (SbL.rel hys).2.1 b o h.2⟩⟩
theorem SbL.rel : ∀ {xs ys : List AV}, SbL xs ys → (∀ vs, Rvals X w ρ xs vs → Rvals X w ρ ys vs) ∧ (∀ b o, Rcells X w ρ xs b o → Rcells X w ρ ys b o) ∧ (∀ sz b o, Rrow X w ρ xs sz b o → Rrow X w ρ ys sz b o)
  | _, _, .nil => ⟨fun _ h => h, fun _ _ h => h, fun _ _ _ h => h⟩
  | _, _, .cons h1 h2 =>
    ⟨fun _ ⟨v, vs', e1, e2, e3⟩ => ⟨v, vs', e1, (Sb.rel h1).1 v e2, (SbL.rel h2).1 vs' e3⟩,
     fun b o ⟨⟨v, e1, e2, e3⟩, e4⟩ => ⟨⟨v, e1, e2, (Sb.rel h1).1 v e3⟩, (SbL.rel h2).2.1 b (o + 1) e4⟩,
     fun sz b o ⟨e1, e2⟩ => ⟨(Sb.rel h1).2 sz b o e1, (SbL.rel h2).2.2 sz b (o + sz) e2⟩⟩
end
theorem Wp.subRow {r : Option Nat} {c : Code} {Q : Exit → S → Prop} {s : S} (e : Nat) {ver sz : Nat} {l l' : List AV} (hm : s.m[e]? = some ⟨ver, .row sz l⟩) (hl : SbL l l')
    (k : Wp P r c Q { s with m := s.m.set e ⟨ver, .row sz l'⟩ }) : Wp P r c Q s := by
  intro X a w ρ hr
  have hinv : Inv X w ρ (s.m.set e ⟨ver, .row sz l'⟩) := by
    have hi := hr.inv
    refine ⟨by simp [hi.len], fun i r' e' hr' he => ?_, hi.apart, hi.new, hi.out⟩
    rcases getElem?_set_cases he with ⟨rfl, _, rfl⟩ | ⟨hne, he'⟩
    · obtain ⟨q1, q2, q3, q4⟩ := hi.at_ i r' _ hr' hm
      refine ⟨q1, q2, fun hb => ?_, fun b hb => ?_⟩
      · have := q3 hb; subst this
        cases hl; rfl
      · obtain ⟨z1, z2, z3⟩ := q4 b hb
        exact ⟨z1, by rw [hl.len]; exact z2, hl.rel.2.2 _ _ _ z3⟩
    · exact hi.at_ i r' e' hr' he'
  exact k X a w ρ ⟨hr.tmps, hr.size, hinv, hr.defers⟩
end Go.Vg
