/- The abstract machine, part Fz: an own slice in a row of memory that nobody writes any more. -/
import Derived.Test.YtljchlkmalidnaaVgFr
set_option linter.all false
set_option linter.unusedVariables false
namespace Go.Vg
open Go.RowKit
variable {P : Program} {X : Nat → Prop} {w : World} {ρ ρ' : Rho}

/-- y is x, or x is the one and y the other -/
def Fz1 (x0 y0 x y : AV) : Prop := y = x ∨ (x = x0 ∧ y = y0)
def FzL (x0 y0 : AV) : List AV → List AV → Prop
  | [], [] => True
  | x :: l, y :: l' => Fz1 x0 y0 x y ∧ FzL x0 y0 l l'
  | _, _ => False
def FzE (x0 y0 x y : AV) : Prop := Fz1 x0 y0 x y ∨ ∃ xs ys, x = .agg xs ∧ y = .agg ys ∧ FzL x0 y0 xs ys
def FzR (x0 y0 : AV) : List AV → List AV → Prop
  | [], [] => True
  | x :: l, y :: l' => FzE x0 y0 x y ∧ FzR x0 y0 l l'
  | _, _ => False
theorem FzL.len {x0 y0 : AV} : ∀ {l l' : List AV}, FzL x0 y0 l l' → l'.length = l.length
  | [], [], _ => rfl
  | x :: l, y :: l', h => by simp [FzL.len h.2]
theorem FzR.len {x0 y0 : AV} : ∀ {l l' : List AV}, FzR x0 y0 l l' → l'.length = l.length
  | [], [], _ => rfl
  | x :: l, y :: l', h => by simp [FzR.len h.2]
section
variable {id ver off len sz' : Nat} {l0 : List AV}
theorem Fz1.rel (t : Kp X w ρ w ρ') (h0 : ∀ v, R X w ρ (.osl id ver off len) v → R X w ρ' (.lst sz' l0) v) {x y : AV} (h : Fz1 (.osl id ver off len) (.lst sz' l0) x y) {v : Value} (hx : R X w ρ x v) : R X w ρ' y v := by
  rcases h with rfl | ⟨rfl, rfl⟩
  · exact R.mono t hx
  · exact h0 v hx
theorem FzL.rel (t : Kp X w ρ w ρ') (h0 : ∀ v, R X w ρ (.osl id ver off len) v → R X w ρ' (.lst sz' l0) v) {bl : Nat} : ∀ {l l' : List AV} {o : Nat}, FzL (.osl id ver off len) (.lst sz' l0) l l' → Rcells X w ρ l bl o → Rcells X w ρ' l' bl o
  | [], [], _, _, h => h
  | x :: l, y :: l', o, ⟨h1, h2⟩, ⟨⟨v, q1, q2, q3⟩, q4⟩ => ⟨⟨v, q1, q2, h1.rel t h0 q3⟩, FzL.rel t h0 h2 q4⟩
theorem FzE.rel (t : Kp X w ρ w ρ') (h0 : ∀ v, R X w ρ (.osl id ver off len) v → R X w ρ' (.lst sz' l0) v) {x y : AV} (h : FzE (.osl id ver off len) (.lst sz' l0) x y) {sz bl o : Nat} (hx : Re X w ρ x sz bl o) : Re X w ρ' y sz bl o := by
  rcases h with h | ⟨xs, ys, rfl, rfl, h⟩
  · rcases h with rfl | ⟨rfl, rfl⟩
    · exact (Rp.mono t y).2 sz bl o (fun _ => rfl) hx
    · exact OneAt.mono (fun _ => rfl) hx h0
  · exact ⟨by rw [h.len]; exact hx.1, h.rel t h0 hx.2⟩
theorem FzR.rel (t : Kp X w ρ w ρ') (h0 : ∀ v, R X w ρ (.osl id ver off len) v → R X w ρ' (.lst sz' l0) v) {sz bl : Nat} : ∀ {l l' : List AV} {o : Nat}, FzR (.osl id ver off len) (.lst sz' l0) l l' → Rrow X w ρ l sz bl o → Rrow X w ρ' l' sz bl o
  | [], [], _, _, h => h
  | x :: l, y :: l', o, ⟨h1, h2⟩, ⟨q1, q2⟩ => ⟨h1.rel t h0 q1, FzR.rel t h0 h2 q2⟩
end
end Go.Vg
