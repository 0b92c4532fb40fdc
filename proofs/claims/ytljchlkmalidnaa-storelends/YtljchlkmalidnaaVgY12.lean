/- A part of the proof of StoreLends: contracts of functions, with plain laws that they need. -/
import Derived.Test.YtljchlkmalidnaaVgY11
set_option linter.all false
set_option linter.unusedVariables false
set_option linter.unusedSimpArgs false
set_option maxHeartbeats 8000000
namespace Go.Proofs.Try
open Go.Vg

/-! a bench, read as frozen -/
theorem VwL.selfs {m : Mem} : ∀ {xs : List AV}, okL 0 xs → VwL m xs xs
  | [], _ => .nil
  | x :: xs, h => .cons (.self h.1) (VwL.selfs h.2)
theorem Vw.oints {m : Mem} {id ver : Nat} {l : List Int} (n : Nat) (hn : n = l.length) (hm : m[id]? = some ⟨ver, .row 1 (l.map AV.int)⟩) : Vw m (.osl id ver 0 n) (.ints l) := by
  subst hn
  refine .osl hm (by simp) (by omega) ?_
  have e : ((l.map AV.int).drop 0).take l.length = l.map AV.int := by simp [List.take_of_length_le]
  rw [e]
  exact VwL.selfs (by simp only [push_cast])
theorem VwL.lent {m : Mem} {N : Nat} : ∀ {T : List (Nat × List Int)} {k : Nat}, (∀ j, j < T.length → m[N + (k + j)]? = some (lentE (T.getD j (0, [])))) → VwL m (lentR N k T) ((T.map (·.2)).map AV.ints)
  | [], _, _ => .nil
  | t :: T, k, h => by
    refine .cons (Vw.oints _ rfl (by have := h 0 (by simp); simpa [lentE] using this)) (VwL.lent (k := k + 1) fun j hj => ?_)
    have := h (j + 1) (by simpa using hj)
    rw [show k + 1 + j = k + (j + 1) by omega, this]
    simp
theorem blk_vw {F G : Mem} {N : Nat} (hF : F.length = N) {ks : List St} {ls : List Ln} {e0 e4 : Ent} {life : Int} {L I W : List Int} {vi : Nat} {T : List (Nat × List Int)} :
    Vw (F ++ blk N ks ls e0 e4 life L vi I W T G) (.optr (N + 3) 1 0 0) (.ref (benF ks ls life L I W (T.map (·.2))) 0) := by
  refine .optr (sz := 7) (l := [benR N ks ls life L vi I W T]) (x := benR N ks ls life L vi I W T) (by rw [getF hF]; rfl) rfl (by simp [AV.cells]) ?_
  refine .cons (.self (by simp only [push_cast])) (.cons (.self (by simp only [push_cast])) (.cons (.self trivial) (.cons (Vw.oints _ rfl (by rw [getF hF]; rfl)) (.cons (Vw.oints _ rfl (by rw [getF hF]; rfl)) (.cons (Vw.oints _ rfl (by rw [getF hF]; rfl)) (.cons ?_ .nil))))))
  refine .osl (sz := 1) (l := lentR N 7 T) (by rw [getF hF]; rfl) (by rw [lentR_len]; omega) (by omega) ?_
  have e : ((lentR N 7 T).drop 0).take T.length = lentR N 7 T := by simp [List.take_of_length_le, lentR_len]
  rw [e]
  refine VwL.lent fun j hj => ?_
  rw [getF hF, get7, lentE_get hj]
end Go.Proofs.Try
