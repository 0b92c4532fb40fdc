/- A part of the proof of ResetChecks: contracts of functions, with plain laws that they need. -/
import Derived.Test.YtjhljokghikamaaGreatDoorVgR44J
set_option linter.all false
set_option maxHeartbeats 8000000
namespace Go.Proofs.Tryz
open Go.Vg

/-! what the arguments read as: a room, a state, and more -/
theorem elemAV_agg {e : TypeId} {xs : List AV} (h : agg? Tryz.prog e = some true) : elemAV Tryz.prog e xs = .agg xs := by unfold elemAV; rw [h]
theorem elemAV_one {e : TypeId} {x : AV} (h : agg? Tryz.prog e = some false) : elemAV Tryz.prog e [x] = x := by unfold elemAV; rw [h]; rfl
theorem OpensAll.imp {P : Program} {ts : List TypeId} {Q Q' : List AV → Prop} (h : OpensAll P ts Q) (hq : ∀ xs, Q xs ↔ Q' xs) : OpensAll P ts Q' := by
  have e : Q = Q' := funext fun xs => propext (hq xs)
  rw [← e]; exact h
theorem oRSx {ts : List TypeId} {T : List AV → Prop} (h : OpensAll Tryz.prog ts T) : OpensAll Tryz.prog (31 :: 34 :: ts) fun xs => ∃ (r : Rm) (s : St) (zs : List AV), xs = rmA r :: stA s :: zs ∧ T zs := by
  refine OpensAll.imp (OpensAll.cons (P := Tryz.prog) (.inl (by kernel_rfl)) oRm (OpensAll.cons (.inl (by kernel_rfl)) oSt h)) fun xs => ?_
  have h1 : ∀ a, elemAV Tryz.prog 31 a = .agg a := fun a => elemAV_agg agg_31
  have h2 : ∀ a, elemAV Tryz.prog 34 a = .agg a := fun a => elemAV_agg agg_34
  constructor
  · rintro ⟨_, _, rfl, ⟨r, rfl⟩, _, _, rfl, ⟨s, rfl⟩, ht⟩
    exact ⟨r, s, _, by rw [h1, h2]; rfl, ht⟩
  · rintro ⟨r, s, zs, rfl, ht⟩
    exact ⟨_, _, by rw [h1]; rfl, ⟨r, rfl⟩, _, _, by rw [h2]; rfl, ⟨s, rfl⟩, ht⟩
theorem oTk : Opens Tryz.prog 45 fun xs => ∃ x : Tk, True ∧ xs = [.int x.kd, .int x.nu, .int x.ar] :=
  (Opens.struct Tryz.underlying45 (by kernel_rfl) (.cons oInt (.cons oInt (.cons oInt .nil)))).mono (by
    rintro xs ⟨_, _, rfl, ⟨a, rfl⟩, _, _, rfl, ⟨b, rfl⟩, _, _, rfl, ⟨c, rfl⟩, rfl⟩
    exact ⟨⟨a, b, c⟩, trivial, rfl⟩)
theorem oTks : Opens Tryz.prog 38 fun xs => ∃ l : List Tk, l.length ≤ maxLen ∧ xs = [.lst 3 (l.map tkA)] :=
  (Opens.sliceT (f := fun x : Tk => [AV.int x.kd, AV.int x.nu, AV.int x.ar]) (g := tkA) (W := fun _ => True) Tryz.underlying38 (by kernel_rfl) oTk 3 (by kernel_rfl) (by decide) (.inl (by kernel_rfl)) (fun _ => by unfold elemAV; rw [Go.Proofs.Tryz.agg_45]; rfl)).mono fun xs ⟨n, h, e⟩ => ⟨n, h.1, e⟩
theorem oL1 : OpensAll Tryz.prog [38] fun xs => ∃ l : List Tk, l.length ≤ maxLen ∧ xs = [.lst 3 (l.map tkA)] := by
  refine OpensAll.imp (OpensAll.cons (P := Tryz.prog) (.inr ⟨by kernel_rfl, by kernel_rfl⟩) oTks OpensAll.nil) fun xs => ?_
  constructor
  · rintro ⟨_, _, rfl, ⟨p, hp, rfl⟩, rfl⟩
    exact ⟨p, hp, by rw [elemAV_one agg_38]⟩
  · rintro ⟨p, hp, rfl⟩
    exact ⟨_, _, by rw [elemAV_one agg_38], ⟨p, hp, rfl⟩, rfl⟩
/-- a room, a state and tasks -/
theorem oRSL : OpensAll Tryz.prog [31, 34, 38] fun xs => ∃ (r : Rm) (s : St) (l : List Tk), l.length ≤ maxLen ∧ xs = [rmA r, stA s, .lst 3 (l.map tkA)] := by
  refine OpensAll.imp (oRSx oL1) fun xs => ?_
  constructor
  · rintro ⟨r, s, _, rfl, l, hl, rfl⟩; exact ⟨r, s, l, hl, rfl⟩
  · rintro ⟨r, s, l, hl, rfl⟩; exact ⟨r, s, _, rfl, l, hl, rfl⟩
end Go.Proofs.Tryz
