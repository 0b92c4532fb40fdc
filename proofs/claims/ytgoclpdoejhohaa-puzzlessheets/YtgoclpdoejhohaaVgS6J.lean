/- A part of the proof of PuzzlesSheets: contracts of functions, with plain laws that they need. -/
import Derived.Test.YtgoclpdoejhohaaVgDm
import Derived.Test.YtgoclpdoejhohaaVgEx
import Derived.Test.YtgoclpdoejhohaaVgT
import Derived.Shelf.Strings.Builder1
import Derived.Test.YtgoclpdoejhohaaVgX8J
set_option linter.all false
set_option maxHeartbeats 8000000
namespace Go.Proofs.Try
open Go.Vg

/-! valid sheets -/
abbrev w0 (U : List ByteArray) : Nat := (U.getD 0 .empty).size
def rowB (w : Nat) (r : ByteArray) : Bool := decide ((r.size : Int) = (w : Int)) && r.data.toList.all cellB
def in8 (n : Nat) : Bool := decide (1 ≤ (n : Int)) && decide ((n : Int) ≤ 8)
def sheetB (U : List ByteArray) : Bool := in8 U.length && (in8 (w0 U) && U.all (rowB (w0 U)))
theorem allU {U : List ByteArray} {p : ByteArray → Bool} (h : ∀ j, j < U.length → p (U.getD j .empty) = true) : U.all p = true := by
  rw [List.all_eq_true]
  intro x hx
  obtain ⟨i, hi, rfl⟩ := List.getElem_of_mem hx
  simpa [hi] using h i hi
theorem notU {U : List ByteArray} {p : ByteArray → Bool} {k : Nat} (hk : k < U.length) (h : p (U.getD k .empty) = false) : U.all p = false := by
  rw [← Bool.not_eq_true, List.all_eq_true]
  intro h'
  have := h' (U.getD k .empty) (by simp [hk])
  rw [h] at this; cases this
theorem laid_pure (U : List ByteArray) : Pure Try.prog 9 [.strs U] (.bool (sheetB U)) := by
  have h1 := within_pure (U.length : Int) 1 8
  have h2 := within_pure (w0 U : Int) 1 8
  unfold sheetB
  have ein : ∀ n : Nat, (decide (1 ≤ (n : Int)) && decide ((n : Int) ≤ 8)) = in8 n := fun _ => rfl
  rw [ein] at h1 h2
  cases hl : in8 U.length with
  | false =>
    rw [hl] at h1
    rw [Bool.false_and]
    (refine Spec.of_body Try.func9 rfl (by rw [Try.ntmps9]; simp) 0 (by simp) ?_; rw [Try.results9, Try.ntmps9]; simp only [entry, zipArgs, Nat.reduceAdd])
    repeat (first | apply Wp.seq | apply Wp.block | (apply Run.next; (simp only [push_cast, seval] <;> (try simp (disch := omega) only [wI, wU, wC]) <;> exact rfl); (focus ((try simp only [push_cast, seval]) <;> exact sT))) | ((first | apply Run.nil | apply Wp.skip); dsimp only [sQ, tQ, bQ]) | (apply Wp.run; (dsimp only [List.map] <;> exact rfl); exact rfl) | (apply Wp.exit; dsimp only [sQ, tQ, bQ]; simp only [reduceIte]) | (apply Run.gtrue; (simp only [push_cast, seval] <;> (try simp (disch := omega) only [wI, wU, wC]) <;> exact rfl); (simp only [push_cast, seval] <;> (try simp (disch := omega) only [wI, wU, wC]) <;> exact rfl)) | (apply Run.gfalse (.bool false); (simp only [push_cast, seval] <;> (try simp (disch := omega) only [wI, wU, wC]) <;> exact rfl); dsimp only [S.put, optG]) | (apply Wp.condT; (simp only [push_cast, seval] <;> (try simp (disch := omega) only [wI, wU, wC]) <;> exact rfl)) | (apply Wp.condF; (simp only [push_cast, seval] <;> (try simp (disch := omega) only [wI, wU, wC]) <;> exact rfl)))
    (apply Run.pureP; (simp only [push_cast, seval] <;> (try simp (disch := omega) only [wI, wU, wC]) <;> exact rfl); (exact (Enters.of Try.func10 rfl rfl)); (exact h1); (focus (simp only [push_cast, seval] <;> first | trivial | assumption | (refine ⟨?_, ?_⟩ <;> assumption) | (simp; done))); (try dsimp only [putA, optG]))
    repeat (first | apply Wp.seq | apply Wp.block | (apply Run.next; (simp only [push_cast, seval] <;> (try simp (disch := omega) only [wI, wU, wC]) <;> exact rfl); (focus ((try simp only [push_cast, seval]) <;> exact sT))) | ((first | apply Run.nil | apply Wp.skip); dsimp only [sQ, tQ, bQ]) | (apply Wp.run; (dsimp only [List.map] <;> exact rfl); exact rfl) | (apply Wp.exit; dsimp only [sQ, tQ, bQ]; simp only [reduceIte]) | (apply Run.gtrue; (simp only [push_cast, seval] <;> (try simp (disch := omega) only [wI, wU, wC]) <;> exact rfl); (simp only [push_cast, seval] <;> (try simp (disch := omega) only [wI, wU, wC]) <;> exact rfl)) | (apply Run.gfalse (.bool false); (simp only [push_cast, seval] <;> (try simp (disch := omega) only [wI, wU, wC]) <;> exact rfl); dsimp only [S.put, optG]) | (apply Wp.condT; (simp only [push_cast, seval] <;> (try simp (disch := omega) only [wI, wU, wC]) <;> exact rfl)) | (apply Wp.condF; (simp only [push_cast, seval] <;> (try simp (disch := omega) only [wI, wU, wC]) <;> exact rfl)))
    (apply Wp.ret; (try dsimp only [sQ, tQ, bQ]); apply leave0; exact rfl; (simp only [push_cast, seval] <;> (try simp (disch := omega) only [wI, wU, wC]) <;> exact rfl); all_goals (try simp only [push_cast, seval]); (try rfl))
  | true =>
    have hlen : 1 ≤ U.length ∧ U.length ≤ 8 := by
      simp only [in8, Bool.and_eq_true, decide_eq_true_eq] at hl; omega
    rw [hl] at h1
    rw [Bool.true_and]
    cases hw : in8 (w0 U) with
    | false =>
      rw [hw] at h2
      rw [Bool.false_and]
      (refine Spec.of_body Try.func9 rfl (by rw [Try.ntmps9]; simp) 0 (by simp) ?_; rw [Try.results9, Try.ntmps9]; simp only [entry, zipArgs, Nat.reduceAdd])
      repeat (first | apply Wp.seq | apply Wp.block | (apply Run.next; (simp only [push_cast, seval, List.length_map] <;> (try simp (disch := omega) only [wI, wU, wC]) <;> exact rfl); (focus ((try simp only [push_cast, seval, List.length_map]) <;> exact sT))) | ((first | apply Run.nil | apply Wp.skip); dsimp only [sQ, tQ, bQ]) | (apply Wp.run; (dsimp only [List.map] <;> exact rfl); exact rfl) | (apply Wp.exit; dsimp only [sQ, tQ, bQ]; simp only [reduceIte]) | (apply Run.gtrue; (simp only [push_cast, seval, List.length_map] <;> (try simp (disch := omega) only [wI, wU, wC]) <;> exact rfl); (simp only [push_cast, seval, List.length_map] <;> (try simp (disch := omega) only [wI, wU, wC]) <;> exact rfl)) | (apply Run.gfalse (.bool false); (simp only [push_cast, seval, List.length_map] <;> (try simp (disch := omega) only [wI, wU, wC]) <;> exact rfl); dsimp only [S.put, optG]) | (apply Wp.condT; (simp only [push_cast, seval, List.length_map] <;> (try simp (disch := omega) only [wI, wU, wC]) <;> exact rfl)) | (apply Wp.condF; (simp only [push_cast, seval, List.length_map] <;> (try simp (disch := omega) only [wI, wU, wC]) <;> exact rfl)))
      (apply Run.pureP; (simp only [push_cast, seval, List.length_map] <;> (try simp (disch := omega) only [wI, wU, wC]) <;> exact rfl); (exact (Enters.of Try.func10 rfl rfl)); (exact h1); (focus (simp only [push_cast, seval, List.length_map] <;> first | trivial | assumption | (refine ⟨?_, ?_⟩ <;> assumption) | (simp; done))); (try dsimp only [putA, optG]))
      repeat (first | apply Wp.seq | apply Wp.block | (apply Run.next; (simp only [push_cast, seval, List.length_map] <;> (try simp (disch := omega) only [wI, wU, wC]) <;> exact rfl); (focus ((try simp only [push_cast, seval, List.length_map]) <;> exact sT))) | ((first | apply Run.nil | apply Wp.skip); dsimp only [sQ, tQ, bQ]) | (apply Wp.run; (dsimp only [List.map] <;> exact rfl); exact rfl) | (apply Wp.exit; dsimp only [sQ, tQ, bQ]; simp only [reduceIte]) | (apply Run.gtrue; (simp only [push_cast, seval, List.length_map] <;> (try simp (disch := omega) only [wI, wU, wC]) <;> exact rfl); (simp only [push_cast, seval, List.length_map] <;> (try simp (disch := omega) only [wI, wU, wC]) <;> exact rfl)) | (apply Run.gfalse (.bool false); (simp only [push_cast, seval, List.length_map] <;> (try simp (disch := omega) only [wI, wU, wC]) <;> exact rfl); dsimp only [S.put, optG]) | (apply Wp.condT; (simp only [push_cast, seval, List.length_map] <;> (try simp (disch := omega) only [wI, wU, wC]) <;> exact rfl)) | (apply Wp.condF; (simp only [push_cast, seval, List.length_map] <;> (try simp (disch := omega) only [wI, wU, wC]) <;> exact rfl)))
      (apply Run.pureP; (simp only [push_cast, seval, List.length_map] <;> (try simp (disch := omega) only [wI, wU, wC]) <;> exact rfl); (exact (Enters.of Try.func10 rfl rfl)); (exact h2); (focus (simp only [push_cast, seval, List.length_map] <;> first | trivial | assumption | (refine ⟨?_, ?_⟩ <;> assumption) | (simp; done))); (try dsimp only [putA, optG]))
      repeat (first | apply Wp.seq | apply Wp.block | (apply Run.next; (simp only [push_cast, seval, List.length_map] <;> (try simp (disch := omega) only [wI, wU, wC]) <;> exact rfl); (focus ((try simp only [push_cast, seval, List.length_map]) <;> exact sT))) | ((first | apply Run.nil | apply Wp.skip); dsimp only [sQ, tQ, bQ]) | (apply Wp.run; (dsimp only [List.map] <;> exact rfl); exact rfl) | (apply Wp.exit; dsimp only [sQ, tQ, bQ]; simp only [reduceIte]) | (apply Run.gtrue; (simp only [push_cast, seval, List.length_map] <;> (try simp (disch := omega) only [wI, wU, wC]) <;> exact rfl); (simp only [push_cast, seval, List.length_map] <;> (try simp (disch := omega) only [wI, wU, wC]) <;> exact rfl)) | (apply Run.gfalse (.bool false); (simp only [push_cast, seval, List.length_map] <;> (try simp (disch := omega) only [wI, wU, wC]) <;> exact rfl); dsimp only [S.put, optG]) | (apply Wp.condT; (simp only [push_cast, seval, List.length_map] <;> (try simp (disch := omega) only [wI, wU, wC]) <;> exact rfl)) | (apply Wp.condF; (simp only [push_cast, seval, List.length_map] <;> (try simp (disch := omega) only [wI, wU, wC]) <;> exact rfl)))
      (apply Wp.ret; (try dsimp only [sQ, tQ, bQ]); apply leave0; exact rfl; (simp only [push_cast, seval, List.length_map] <;> (try simp (disch := omega) only [wI, wU, wC]) <;> exact rfl); all_goals (try simp only [push_cast, seval, List.length_map]); (try rfl))
    | true =>
      rw [hw] at h2
      rw [Bool.true_and]
      have hwl : 1 ≤ w0 U ∧ w0 U ≤ 8 := by
        simp only [in8, Bool.and_eq_true, decide_eq_true_eq] at hw; omega
      (refine Spec.of_body Try.func9 rfl (by rw [Try.ntmps9]; simp) 0 (by simp) ?_; rw [Try.results9, Try.ntmps9]; simp only [entry, zipArgs, Nat.reduceAdd])
      repeat (first | apply Wp.seq | apply Wp.block | (apply Run.next; (simp only [push_cast, seval, List.length_map] <;> (try simp (disch := omega) only [wI, wU, wC]) <;> exact rfl); (focus ((try simp only [push_cast, seval, List.length_map]) <;> exact sT))) | ((first | apply Run.nil | apply Wp.skip); dsimp only [sQ, tQ, bQ]) | (apply Wp.run; (dsimp only [List.map] <;> exact rfl); exact rfl) | (apply Wp.exit; dsimp only [sQ, tQ, bQ]; simp only [reduceIte]) | (apply Run.gtrue; (simp only [push_cast, seval, List.length_map] <;> (try simp (disch := omega) only [wI, wU, wC]) <;> exact rfl); (simp only [push_cast, seval, List.length_map] <;> (try simp (disch := omega) only [wI, wU, wC]) <;> exact rfl)) | (apply Run.gfalse (.bool false); (simp only [push_cast, seval, List.length_map] <;> (try simp (disch := omega) only [wI, wU, wC]) <;> exact rfl); dsimp only [S.put, optG]) | (apply Wp.condT; (simp only [push_cast, seval, List.length_map] <;> (try simp (disch := omega) only [wI, wU, wC]) <;> exact rfl)) | (apply Wp.condF; (simp only [push_cast, seval, List.length_map] <;> (try simp (disch := omega) only [wI, wU, wC]) <;> exact rfl)))
      (apply Run.pureP; (simp only [push_cast, seval, List.length_map] <;> (try simp (disch := omega) only [wI, wU, wC]) <;> exact rfl); (exact (Enters.of Try.func10 rfl rfl)); (exact h1); (focus (simp only [push_cast, seval, List.length_map] <;> first | trivial | assumption | (refine ⟨?_, ?_⟩ <;> assumption) | (simp; done))); (try dsimp only [putA, optG]))
      repeat (first | apply Wp.seq | apply Wp.block | (apply Run.next; (simp only [push_cast, seval, List.length_map] <;> (try simp (disch := omega) only [wI, wU, wC]) <;> exact rfl); (focus ((try simp only [push_cast, seval, List.length_map]) <;> exact sT))) | ((first | apply Run.nil | apply Wp.skip); dsimp only [sQ, tQ, bQ]) | (apply Wp.run; (dsimp only [List.map] <;> exact rfl); exact rfl) | (apply Wp.exit; dsimp only [sQ, tQ, bQ]; simp only [reduceIte]) | (apply Run.gtrue; (simp only [push_cast, seval, List.length_map] <;> (try simp (disch := omega) only [wI, wU, wC]) <;> exact rfl); (simp only [push_cast, seval, List.length_map] <;> (try simp (disch := omega) only [wI, wU, wC]) <;> exact rfl)) | (apply Run.gfalse (.bool false); (simp only [push_cast, seval, List.length_map] <;> (try simp (disch := omega) only [wI, wU, wC]) <;> exact rfl); dsimp only [S.put, optG]) | (apply Wp.condT; (simp only [push_cast, seval, List.length_map] <;> (try simp (disch := omega) only [wI, wU, wC]) <;> exact rfl)) | (apply Wp.condF; (simp only [push_cast, seval, List.length_map] <;> (try simp (disch := omega) only [wI, wU, wC]) <;> exact rfl)))
      (apply Run.pureP; (simp only [push_cast, seval, List.length_map] <;> (try simp (disch := omega) only [wI, wU, wC]) <;> exact rfl); (exact (Enters.of Try.func10 rfl rfl)); (exact h2); (focus (simp only [push_cast, seval, List.length_map] <;> first | trivial | assumption | (refine ⟨?_, ?_⟩ <;> assumption) | (simp; done))); (try dsimp only [putA, optG]))
      repeat (first | apply Wp.seq | apply Wp.block | (apply Run.next; (simp only [push_cast, seval, List.length_map] <;> (try simp (disch := omega) only [wI, wU, wC]) <;> exact rfl); (focus ((try simp only [push_cast, seval, List.length_map]) <;> exact sT))) | ((first | apply Run.nil | apply Wp.skip); dsimp only [sQ, tQ, bQ]) | (apply Wp.run; (dsimp only [List.map] <;> exact rfl); exact rfl) | (apply Wp.exit; dsimp only [sQ, tQ, bQ]; simp only [reduceIte]) | (apply Run.gtrue; (simp only [push_cast, seval, List.length_map] <;> (try simp (disch := omega) only [wI, wU, wC]) <;> exact rfl); (simp only [push_cast, seval, List.length_map] <;> (try simp (disch := omega) only [wI, wU, wC]) <;> exact rfl)) | (apply Run.gfalse (.bool false); (simp only [push_cast, seval, List.length_map] <;> (try simp (disch := omega) only [wI, wU, wC]) <;> exact rfl); dsimp only [S.put, optG]) | (apply Wp.condT; (simp only [push_cast, seval, List.length_map] <;> (try simp (disch := omega) only [wI, wU, wC]) <;> exact rfl)) | (apply Wp.condF; (simp only [push_cast, seval, List.length_map] <;> (try simp (disch := omega) only [wI, wU, wC]) <;> exact rfl)))
      refine Wp.loop (fun k : Nat => { t := [(0, .strs U), (17, .strs U), (18, .int U.length), (19, .int k)], m := [], n := 35 }) (fun k => k ≤ U.length ∧ ∀ j, j < k → rowB (w0 U) (U.getD j .empty) = true) (fun k => U.length - k) 0 ?_ ?_ ?_
      · (refine Le.of ?_ ?_ rfl rfl <;> (try simp only [push_cast, seval, List.length_map]) <;> (try (with_reducible rfl)))
      · simp
      · rintro k ⟨hk1, hk2⟩
        by_cases hkb : k < U.length
        · have e1 : decide ((k : Int) < (U.length : Int)) = true := decide_eq_true (by omega)
          have hr := rowOk_pure (U.getD k .empty)
          have hrow : ∀ v, rowB (w0 U) (U.getD k .empty) = v → (decide (((U.getD k .empty).size : Int) = (w0 U : Int)) && (U.getD k .empty).data.toList.all cellB) = v := fun v h => h
          generalize hx : U.getD k .empty = x at hr hrow
          cases hs : decide ((x.size : Int) = (w0 U : Int)) with
          | false =>
            have hbad : U.all (rowB (w0 U)) = false := notU hkb (by rw [hx]; unfold rowB; rw [hs]; rfl)
            rw [hbad]
            repeat (first | apply Wp.seq | apply Wp.block | (apply Run.next; (simp only [push_cast, seval, List.length_map, e1, hx, hs] <;> (try simp (disch := omega) only [wI, wU, wC]) <;> exact rfl); (focus ((try simp only [push_cast, seval, List.length_map, e1, hx, hs]) <;> exact sT))) | ((first | apply Run.nil | apply Wp.skip); dsimp only [sQ, tQ, bQ]) | (apply Wp.run; (dsimp only [List.map] <;> exact rfl); exact rfl) | (apply Wp.exit; dsimp only [sQ, tQ, bQ]; simp only [reduceIte]) | (apply Run.gtrue; (simp only [push_cast, seval, List.length_map, e1, hx, hs] <;> (try simp (disch := omega) only [wI, wU, wC]) <;> exact rfl); (simp only [push_cast, seval, List.length_map, e1, hx, hs] <;> (try simp (disch := omega) only [wI, wU, wC]) <;> exact rfl)) | (apply Run.gfalse (.bool false); (simp only [push_cast, seval, List.length_map, e1, hx, hs] <;> (try simp (disch := omega) only [wI, wU, wC]) <;> exact rfl); dsimp only [S.put, optG]) | (apply Wp.condT; (simp only [push_cast, seval, List.length_map, e1, hx, hs] <;> (try simp (disch := omega) only [wI, wU, wC]) <;> exact rfl)) | (apply Wp.condF; (simp only [push_cast, seval, List.length_map, e1, hx, hs] <;> (try simp (disch := omega) only [wI, wU, wC]) <;> exact rfl)))
            (apply Wp.ret; (try dsimp only [sQ, tQ, bQ]); apply leave0; exact rfl; (simp only [push_cast, seval, List.length_map, e1, hx, hs] <;> (try simp (disch := omega) only [wI, wU, wC]) <;> exact rfl); all_goals (try simp only [push_cast, seval, List.length_map, e1, hx, hs]); (try rfl))
          | true =>
            cases ha : x.data.toList.all cellB with
            | false =>
              have hbad : U.all (rowB (w0 U)) = false := notU hkb (by rw [hx]; unfold rowB; rw [ha, Bool.and_false])
              rw [hbad]
              rw [ha] at hr
              repeat (first | apply Wp.seq | apply Wp.block | (apply Run.next; (simp only [push_cast, seval, List.length_map, e1, hx, hs] <;> (try simp (disch := omega) only [wI, wU, wC]) <;> exact rfl); (focus ((try simp only [push_cast, seval, List.length_map, e1, hx, hs]) <;> exact sT))) | ((first | apply Run.nil | apply Wp.skip); dsimp only [sQ, tQ, bQ]) | (apply Wp.run; (dsimp only [List.map] <;> exact rfl); exact rfl) | (apply Wp.exit; dsimp only [sQ, tQ, bQ]; simp only [reduceIte]) | (apply Run.gtrue; (simp only [push_cast, seval, List.length_map, e1, hx, hs] <;> (try simp (disch := omega) only [wI, wU, wC]) <;> exact rfl); (simp only [push_cast, seval, List.length_map, e1, hx, hs] <;> (try simp (disch := omega) only [wI, wU, wC]) <;> exact rfl)) | (apply Run.gfalse (.bool false); (simp only [push_cast, seval, List.length_map, e1, hx, hs] <;> (try simp (disch := omega) only [wI, wU, wC]) <;> exact rfl); dsimp only [S.put, optG]) | (apply Wp.condT; (simp only [push_cast, seval, List.length_map, e1, hx, hs] <;> (try simp (disch := omega) only [wI, wU, wC]) <;> exact rfl)) | (apply Wp.condF; (simp only [push_cast, seval, List.length_map, e1, hx, hs] <;> (try simp (disch := omega) only [wI, wU, wC]) <;> exact rfl)))
              (apply Run.pureP; (simp only [push_cast, seval, List.length_map, e1, hx, hs] <;> (try simp (disch := omega) only [wI, wU, wC]) <;> exact rfl); (exact (Enters.of Try.func16 rfl rfl)); (exact hr); (focus (simp only [push_cast, seval, List.length_map, e1, hx, hs] <;> first | trivial | assumption | (refine ⟨?_, ?_⟩ <;> assumption) | (simp; done))); (try dsimp only [putA, optG]))
              repeat (first | apply Wp.seq | apply Wp.block | (apply Run.next; (simp only [push_cast, seval, List.length_map, e1, hx, hs] <;> (try simp (disch := omega) only [wI, wU, wC]) <;> exact rfl); (focus ((try simp only [push_cast, seval, List.length_map, e1, hx, hs]) <;> exact sT))) | ((first | apply Run.nil | apply Wp.skip); dsimp only [sQ, tQ, bQ]) | (apply Wp.run; (dsimp only [List.map] <;> exact rfl); exact rfl) | (apply Wp.exit; dsimp only [sQ, tQ, bQ]; simp only [reduceIte]) | (apply Run.gtrue; (simp only [push_cast, seval, List.length_map, e1, hx, hs] <;> (try simp (disch := omega) only [wI, wU, wC]) <;> exact rfl); (simp only [push_cast, seval, List.length_map, e1, hx, hs] <;> (try simp (disch := omega) only [wI, wU, wC]) <;> exact rfl)) | (apply Run.gfalse (.bool false); (simp only [push_cast, seval, List.length_map, e1, hx, hs] <;> (try simp (disch := omega) only [wI, wU, wC]) <;> exact rfl); dsimp only [S.put, optG]) | (apply Wp.condT; (simp only [push_cast, seval, List.length_map, e1, hx, hs] <;> (try simp (disch := omega) only [wI, wU, wC]) <;> exact rfl)) | (apply Wp.condF; (simp only [push_cast, seval, List.length_map, e1, hx, hs] <;> (try simp (disch := omega) only [wI, wU, wC]) <;> exact rfl)))
              (apply Wp.ret; (try dsimp only [sQ, tQ, bQ]); apply leave0; exact rfl; (simp only [push_cast, seval, List.length_map, e1, hx, hs] <;> (try simp (disch := omega) only [wI, wU, wC]) <;> exact rfl); all_goals (try simp only [push_cast, seval, List.length_map, e1, hx, hs]); (try rfl))
            | true =>
              rw [ha] at hr
              repeat (first | apply Wp.seq | apply Wp.block | (apply Run.next; (simp only [push_cast, seval, List.length_map, e1, hx, hs] <;> (try simp (disch := omega) only [wI, wU, wC]) <;> exact rfl); (focus ((try simp only [push_cast, seval, List.length_map, e1, hx, hs]) <;> exact sT))) | ((first | apply Run.nil | apply Wp.skip); dsimp only [sQ, tQ, bQ]) | (apply Wp.run; (dsimp only [List.map] <;> exact rfl); exact rfl) | (apply Wp.exit; dsimp only [sQ, tQ, bQ]; simp only [reduceIte]) | (apply Run.gtrue; (simp only [push_cast, seval, List.length_map, e1, hx, hs] <;> (try simp (disch := omega) only [wI, wU, wC]) <;> exact rfl); (simp only [push_cast, seval, List.length_map, e1, hx, hs] <;> (try simp (disch := omega) only [wI, wU, wC]) <;> exact rfl)) | (apply Run.gfalse (.bool false); (simp only [push_cast, seval, List.length_map, e1, hx, hs] <;> (try simp (disch := omega) only [wI, wU, wC]) <;> exact rfl); dsimp only [S.put, optG]) | (apply Wp.condT; (simp only [push_cast, seval, List.length_map, e1, hx, hs] <;> (try simp (disch := omega) only [wI, wU, wC]) <;> exact rfl)) | (apply Wp.condF; (simp only [push_cast, seval, List.length_map, e1, hx, hs] <;> (try simp (disch := omega) only [wI, wU, wC]) <;> exact rfl)))
              (apply Run.pureP; (simp only [push_cast, seval, List.length_map, e1, hx, hs] <;> (try simp (disch := omega) only [wI, wU, wC]) <;> exact rfl); (exact (Enters.of Try.func16 rfl rfl)); (exact hr); (focus (simp only [push_cast, seval, List.length_map, e1, hx, hs] <;> first | trivial | assumption | (refine ⟨?_, ?_⟩ <;> assumption) | (simp; done))); (try dsimp only [putA, optG]))
              repeat (first | apply Wp.seq | apply Wp.block | (apply Run.next; (simp only [push_cast, seval, List.length_map, e1, hx, hs] <;> (try simp (disch := omega) only [wI, wU, wC]) <;> exact rfl); (focus ((try simp only [push_cast, seval, List.length_map, e1, hx, hs]) <;> exact sT))) | ((first | apply Run.nil | apply Wp.skip); dsimp only [sQ, tQ, bQ]) | (apply Wp.run; (dsimp only [List.map] <;> exact rfl); exact rfl) | (apply Wp.exit; dsimp only [sQ, tQ, bQ]; simp only [reduceIte]) | (apply Run.gtrue; (simp only [push_cast, seval, List.length_map, e1, hx, hs] <;> (try simp (disch := omega) only [wI, wU, wC]) <;> exact rfl); (simp only [push_cast, seval, List.length_map, e1, hx, hs] <;> (try simp (disch := omega) only [wI, wU, wC]) <;> exact rfl)) | (apply Run.gfalse (.bool false); (simp only [push_cast, seval, List.length_map, e1, hx, hs] <;> (try simp (disch := omega) only [wI, wU, wC]) <;> exact rfl); dsimp only [S.put, optG]) | (apply Wp.condT; (simp only [push_cast, seval, List.length_map, e1, hx, hs] <;> (try simp (disch := omega) only [wI, wU, wC]) <;> exact rfl)) | (apply Wp.condF; (simp only [push_cast, seval, List.length_map, e1, hx, hs] <;> (try simp (disch := omega) only [wI, wU, wC]) <;> exact rfl)))
              refine ⟨k + 1, ?_, ⟨by omega, fun j hj => ?_⟩, by omega⟩
              · (refine Le.of ?_ ?_ rfl rfl <;> (try simp only [push_cast, seval, List.length_map, e1, hx, hs]) <;> (try (with_reducible rfl)))
              · by_cases hjk : j = k
                · subst hjk; rw [hx]; unfold rowB; rw [hs, ha]; rfl
                · exact hk2 j (by omega)
        · have e1 : decide ((k : Int) < (U.length : Int)) = false := decide_eq_false (by omega)
          rw [allU fun j hj => hk2 j (by omega)]
          repeat (first | apply Wp.seq | apply Wp.block | (apply Run.next; (simp only [push_cast, seval, List.length_map, e1] <;> (try simp (disch := omega) only [wI, wU, wC]) <;> exact rfl); (focus ((try simp only [push_cast, seval, List.length_map, e1]) <;> exact sT))) | ((first | apply Run.nil | apply Wp.skip); dsimp only [sQ, tQ, bQ]) | (apply Wp.run; (dsimp only [List.map] <;> exact rfl); exact rfl) | (apply Wp.exit; dsimp only [sQ, tQ, bQ]; simp only [reduceIte]) | (apply Run.gtrue; (simp only [push_cast, seval, List.length_map, e1] <;> (try simp (disch := omega) only [wI, wU, wC]) <;> exact rfl); (simp only [push_cast, seval, List.length_map, e1] <;> (try simp (disch := omega) only [wI, wU, wC]) <;> exact rfl)) | (apply Run.gfalse (.bool false); (simp only [push_cast, seval, List.length_map, e1] <;> (try simp (disch := omega) only [wI, wU, wC]) <;> exact rfl); dsimp only [S.put, optG]) | (apply Wp.condT; (simp only [push_cast, seval, List.length_map, e1] <;> (try simp (disch := omega) only [wI, wU, wC]) <;> exact rfl)) | (apply Wp.condF; (simp only [push_cast, seval, List.length_map, e1] <;> (try simp (disch := omega) only [wI, wU, wC]) <;> exact rfl)))
          (apply Wp.ret; (try dsimp only [sQ, tQ, bQ]); apply leave0; exact rfl; (simp only [push_cast, seval, List.length_map, e1] <;> (try simp (disch := omega) only [wI, wU, wC]) <;> exact rfl); all_goals (try simp only [push_cast, seval, List.length_map, e1]); (try rfl))
end Go.Proofs.Try
set_option maxHeartbeats 8000000
namespace Go.Proofs.Try
open Go.Vg

def ckS (U : List ByteArray) : Int := if sheetB U = true then 0 else 30
theorem ckS_no {U : List ByteArray} (h : sheetB U = false) : ckS U = 30 := by unfold ckS; rw [if_neg (by rw [h]; simp)]
theorem CheckSheet_pure (U : List ByteArray) : Pure Try.prog 26 [.strs U] (.int (ckS U)) := by
  have h1 := refWithin_pure (U.length : Int) 1 8
  have ein : ∀ n : Nat, (decide (1 ≤ (n : Int)) && decide ((n : Int) ≤ 8)) = in8 n := fun _ => rfl
  rw [ein] at h1
  cases hl : in8 U.length with
  | false =>
    rw [hl] at h1
    rw [ckS_no (by unfold sheetB; rw [hl]; rfl)]
    (refine Spec.of_body Try.func26 rfl (by rw [Try.ntmps26]; simp) 0 (by simp) ?_; rw [Try.results26, Try.ntmps26]; simp only [entry, zipArgs, Nat.reduceAdd])
    repeat (first | apply Wp.seq | apply Wp.block | (apply Run.next; (simp only [push_cast, seval] <;> (try simp (disch := omega) only [wI, wU, wC]) <;> exact rfl); (focus ((try simp only [push_cast, seval]) <;> exact sT))) | ((first | apply Run.nil | apply Wp.skip); dsimp only [sQ, tQ, bQ]) | (apply Wp.run; (dsimp only [List.map] <;> exact rfl); exact rfl) | (apply Wp.exit; dsimp only [sQ, tQ, bQ]; simp only [reduceIte]) | (apply Run.gtrue; (simp only [push_cast, seval] <;> (try simp (disch := omega) only [wI, wU, wC]) <;> exact rfl); (simp only [push_cast, seval] <;> (try simp (disch := omega) only [wI, wU, wC]) <;> exact rfl)) | (apply Run.gfalse (.bool false); (simp only [push_cast, seval] <;> (try simp (disch := omega) only [wI, wU, wC]) <;> exact rfl); dsimp only [S.put, optG]) | (apply Wp.condT; (simp only [push_cast, seval] <;> (try simp (disch := omega) only [wI, wU, wC]) <;> exact rfl)) | (apply Wp.condF; (simp only [push_cast, seval] <;> (try simp (disch := omega) only [wI, wU, wC]) <;> exact rfl)))
    (apply Run.pureP; (simp only [push_cast, seval] <;> (try simp (disch := omega) only [wI, wU, wC]) <;> exact rfl); (exact (Enters.of Try.func14 rfl rfl)); (exact h1); (focus (simp only [push_cast, seval] <;> first | trivial | assumption | (refine ⟨?_, ?_⟩ <;> assumption) | (simp; done))); (try dsimp only [putA, optG]))
    repeat (first | apply Wp.seq | apply Wp.block | (apply Run.next; (simp only [push_cast, seval] <;> (try simp (disch := omega) only [wI, wU, wC]) <;> exact rfl); (focus ((try simp only [push_cast, seval]) <;> exact sT))) | ((first | apply Run.nil | apply Wp.skip); dsimp only [sQ, tQ, bQ]) | (apply Wp.run; (dsimp only [List.map] <;> exact rfl); exact rfl) | (apply Wp.exit; dsimp only [sQ, tQ, bQ]; simp only [reduceIte]) | (apply Run.gtrue; (simp only [push_cast, seval] <;> (try simp (disch := omega) only [wI, wU, wC]) <;> exact rfl); (simp only [push_cast, seval] <;> (try simp (disch := omega) only [wI, wU, wC]) <;> exact rfl)) | (apply Run.gfalse (.bool false); (simp only [push_cast, seval] <;> (try simp (disch := omega) only [wI, wU, wC]) <;> exact rfl); dsimp only [S.put, optG]) | (apply Wp.condT; (simp only [push_cast, seval] <;> (try simp (disch := omega) only [wI, wU, wC]) <;> exact rfl)) | (apply Wp.condF; (simp only [push_cast, seval] <;> (try simp (disch := omega) only [wI, wU, wC]) <;> exact rfl)))
    (apply Wp.ret; (try dsimp only [sQ, tQ, bQ]); apply leave0; exact rfl; (simp only [push_cast, seval] <;> (try simp (disch := omega) only [wI, wU, wC]) <;> exact rfl); all_goals (try simp only [push_cast, seval]); (try rfl))
  | true =>
    have hlen : 1 ≤ U.length ∧ U.length ≤ 8 := by
      simp only [in8, Bool.and_eq_true, decide_eq_true_eq] at hl; omega
    rw [hl] at h1
    (refine Spec.of_body Try.func26 rfl (by rw [Try.ntmps26]; simp) 0 (by simp) ?_; rw [Try.results26, Try.ntmps26]; simp only [entry, zipArgs, Nat.reduceAdd])
    repeat (first | apply Wp.seq | apply Wp.block | (apply Run.next; (simp only [push_cast, seval, List.length_map] <;> (try simp (disch := omega) only [wI, wU, wC]) <;> exact rfl); (focus ((try simp only [push_cast, seval, List.length_map]) <;> exact sT))) | ((first | apply Run.nil | apply Wp.skip); dsimp only [sQ, tQ, bQ]) | (apply Wp.run; (dsimp only [List.map] <;> exact rfl); exact rfl) | (apply Wp.exit; dsimp only [sQ, tQ, bQ]; simp only [reduceIte]) | (apply Run.gtrue; (simp only [push_cast, seval, List.length_map] <;> (try simp (disch := omega) only [wI, wU, wC]) <;> exact rfl); (simp only [push_cast, seval, List.length_map] <;> (try simp (disch := omega) only [wI, wU, wC]) <;> exact rfl)) | (apply Run.gfalse (.bool false); (simp only [push_cast, seval, List.length_map] <;> (try simp (disch := omega) only [wI, wU, wC]) <;> exact rfl); dsimp only [S.put, optG]) | (apply Wp.condT; (simp only [push_cast, seval, List.length_map] <;> (try simp (disch := omega) only [wI, wU, wC]) <;> exact rfl)) | (apply Wp.condF; (simp only [push_cast, seval, List.length_map] <;> (try simp (disch := omega) only [wI, wU, wC]) <;> exact rfl)))
    (apply Run.pureP; (simp only [push_cast, seval, List.length_map] <;> (try simp (disch := omega) only [wI, wU, wC]) <;> exact rfl); (exact (Enters.of Try.func14 rfl rfl)); (exact h1); (focus (simp only [push_cast, seval, List.length_map] <;> first | trivial | assumption | (refine ⟨?_, ?_⟩ <;> assumption) | (simp; done))); (try dsimp only [putA, optG]))
    repeat (first | apply Wp.seq | apply Wp.block | (apply Run.next; (simp only [push_cast, seval, List.length_map] <;> (try simp (disch := omega) only [wI, wU, wC]) <;> exact rfl); (focus ((try simp only [push_cast, seval, List.length_map]) <;> exact sT))) | ((first | apply Run.nil | apply Wp.skip); dsimp only [sQ, tQ, bQ]) | (apply Wp.run; (dsimp only [List.map] <;> exact rfl); exact rfl) | (apply Wp.exit; dsimp only [sQ, tQ, bQ]; simp only [reduceIte]) | (apply Run.gtrue; (simp only [push_cast, seval, List.length_map] <;> (try simp (disch := omega) only [wI, wU, wC]) <;> exact rfl); (simp only [push_cast, seval, List.length_map] <;> (try simp (disch := omega) only [wI, wU, wC]) <;> exact rfl)) | (apply Run.gfalse (.bool false); (simp only [push_cast, seval, List.length_map] <;> (try simp (disch := omega) only [wI, wU, wC]) <;> exact rfl); dsimp only [S.put, optG]) | (apply Wp.condT; (simp only [push_cast, seval, List.length_map] <;> (try simp (disch := omega) only [wI, wU, wC]) <;> exact rfl)) | (apply Wp.condF; (simp only [push_cast, seval, List.length_map] <;> (try simp (disch := omega) only [wI, wU, wC]) <;> exact rfl)))
    refine Wp.loop (fun k : Nat => { t := [(0, .strs U), (3, .int k)], m := [], n := 60 }) (fun k => k ≤ U.length ∧ (0 < k → in8 (w0 U) = true) ∧ ∀ j, j < k → rowB (w0 U) (U.getD j .empty) = true) (fun k => U.length - k) 0 ?_ ?_ ?_
    · (refine Le.of ?_ ?_ rfl rfl <;> (try simp only [push_cast, seval, List.length_map]) <;> (try (with_reducible rfl)))
    · simp
    · rintro k ⟨hk1, hk0, hk2⟩
      by_cases hkb : k < U.length
      · have e1 : decide ((k : Int) < (U.length : Int)) = true := decide_eq_true (by omega)
        have h2 := refWithin_pure ((U.getD k .empty).size : Int) 1 8
        rw [ein] at h2
        generalize hx : U.getD k .empty = x at h2
        cases hs : decide ((x.size : Int) = (w0 U : Int)) with
        | false =>
          have hbad : U.all (rowB (w0 U)) = false := notU hkb (by rw [hx]; unfold rowB; rw [hs]; rfl)
          rw [ckS_no (by unfold sheetB; rw [hbad]; simp)]
          repeat (first | apply Wp.seq | apply Wp.block | (apply Run.next; (simp only [push_cast, seval, List.length_map, e1, hx, hs] <;> (try simp (disch := omega) only [wI, wU, wC]) <;> exact rfl); (focus ((try simp only [push_cast, seval, List.length_map, e1, hx, hs]) <;> exact sT))) | ((first | apply Run.nil | apply Wp.skip); dsimp only [sQ, tQ, bQ]) | (apply Wp.run; (dsimp only [List.map] <;> exact rfl); exact rfl) | (apply Wp.exit; dsimp only [sQ, tQ, bQ]; simp only [reduceIte]) | (apply Run.gtrue; (simp only [push_cast, seval, List.length_map, e1, hx, hs] <;> (try simp (disch := omega) only [wI, wU, wC]) <;> exact rfl); (simp only [push_cast, seval, List.length_map, e1, hx, hs] <;> (try simp (disch := omega) only [wI, wU, wC]) <;> exact rfl)) | (apply Run.gfalse (.bool false); (simp only [push_cast, seval, List.length_map, e1, hx, hs] <;> (try simp (disch := omega) only [wI, wU, wC]) <;> exact rfl); dsimp only [S.put, optG]) | (apply Wp.condT; (simp only [push_cast, seval, List.length_map, e1, hx, hs] <;> (try simp (disch := omega) only [wI, wU, wC]) <;> exact rfl)) | (apply Wp.condF; (simp only [push_cast, seval, List.length_map, e1, hx, hs] <;> (try simp (disch := omega) only [wI, wU, wC]) <;> exact rfl)))
          (apply Wp.runD 19 mixed; (dsimp only [List.map] <;> exact rfl); exact rfl; kernel_rfl; (dsimp only [List.take] <;> exact rfl); (dsimp only [List.drop] <;> exact rfl); (((repeat (apply Abn.next; (simp only [push_cast, seval, List.length_map, e1, hx, hs] <;> (try simp (disch := omega) only [wI, wU, wC]) <;> exact rfl); (focus ((try simp only [push_cast, seval, List.length_map, e1, hx, hs]) <;> exact sT)))); (apply Abn.pureP; (simp only [push_cast, seval, List.length_map, e1, hx, hs] <;> (try simp (disch := omega) only [wI, wU, wC]) <;> exact rfl); (exact (Enters.of Try.func14 rfl rfl)); (exact h2); (focus (simp only [push_cast, seval, List.length_map, e1, hx, hs] <;> first | trivial | assumption | (refine ⟨?_, ?_⟩ <;> assumption) | (simp; done))); (try dsimp only [putA, optG])); (repeat (apply Abn.next; (simp only [push_cast, seval, List.length_map, e1, hx, hs] <;> (try simp (disch := omega) only [wI, wU, wC]) <;> exact rfl); (focus ((try simp only [push_cast, seval, List.length_map, e1, hx, hs]) <;> exact sT))))); exact Abn.nil))
          repeat (first | apply Wp.seq | apply Wp.block | (apply Run.next; (simp only [push_cast, seval, List.length_map, e1, hx, hs] <;> (try simp (disch := omega) only [wI, wU, wC]) <;> exact rfl); (focus ((try simp only [push_cast, seval, List.length_map, e1, hx, hs]) <;> exact sT))) | ((first | apply Run.nil | apply Wp.skip); dsimp only [sQ, tQ, bQ]) | (apply Wp.run; (dsimp only [List.map] <;> exact rfl); exact rfl) | (apply Wp.exit; dsimp only [sQ, tQ, bQ]; simp only [reduceIte]) | (apply Run.gtrue; (simp only [push_cast, seval, List.length_map, e1, hx, hs] <;> (try simp (disch := omega) only [wI, wU, wC]) <;> exact rfl); (simp only [push_cast, seval, List.length_map, e1, hx, hs] <;> (try simp (disch := omega) only [wI, wU, wC]) <;> exact rfl)) | (apply Run.gfalse (.bool false); (simp only [push_cast, seval, List.length_map, e1, hx, hs] <;> (try simp (disch := omega) only [wI, wU, wC]) <;> exact rfl); dsimp only [S.put, optG]) | (apply Wp.condT; (simp only [push_cast, seval, List.length_map, e1, hx, hs] <;> (try simp (disch := omega) only [wI, wU, wC]) <;> exact rfl)) | (apply Wp.condF; (simp only [push_cast, seval, List.length_map, e1, hx, hs] <;> (try simp (disch := omega) only [wI, wU, wC]) <;> exact rfl)))
          (apply Wp.ret; (try dsimp only [sQ, tQ, bQ]); apply leave0; exact rfl; (simp only [push_cast, seval, List.length_map, e1, hx, hs] <;> (try simp (disch := omega) only [wI, wU, wC]) <;> exact rfl); all_goals (try simp only [push_cast, seval, List.length_map, e1, hx, hs]); (try rfl))
        | true =>
          have hxw : x.size = w0 U := Int.ofNat.inj (of_decide_eq_true hs)
          cases hw : in8 x.size with
          | false =>
            rw [ckS_no (by unfold sheetB; rw [← hxw, hw]; simp)]
            rw [hw] at h2
            repeat (first | apply Wp.seq | apply Wp.block | (apply Run.next; (simp only [push_cast, seval, List.length_map, e1, hx, hs] <;> (try simp (disch := omega) only [wI, wU, wC]) <;> exact rfl); (focus ((try simp only [push_cast, seval, List.length_map, e1, hx, hs]) <;> exact sT))) | ((first | apply Run.nil | apply Wp.skip); dsimp only [sQ, tQ, bQ]) | (apply Wp.run; (dsimp only [List.map] <;> exact rfl); exact rfl) | (apply Wp.exit; dsimp only [sQ, tQ, bQ]; simp only [reduceIte]) | (apply Run.gtrue; (simp only [push_cast, seval, List.length_map, e1, hx, hs] <;> (try simp (disch := omega) only [wI, wU, wC]) <;> exact rfl); (simp only [push_cast, seval, List.length_map, e1, hx, hs] <;> (try simp (disch := omega) only [wI, wU, wC]) <;> exact rfl)) | (apply Run.gfalse (.bool false); (simp only [push_cast, seval, List.length_map, e1, hx, hs] <;> (try simp (disch := omega) only [wI, wU, wC]) <;> exact rfl); dsimp only [S.put, optG]) | (apply Wp.condT; (simp only [push_cast, seval, List.length_map, e1, hx, hs] <;> (try simp (disch := omega) only [wI, wU, wC]) <;> exact rfl)) | (apply Wp.condF; (simp only [push_cast, seval, List.length_map, e1, hx, hs] <;> (try simp (disch := omega) only [wI, wU, wC]) <;> exact rfl)))
            (apply Wp.runD 19 mixed; (dsimp only [List.map] <;> exact rfl); exact rfl; kernel_rfl; (dsimp only [List.take] <;> exact rfl); (dsimp only [List.drop] <;> exact rfl); (((repeat (apply Abn.next; (simp only [push_cast, seval, List.length_map, e1, hx, hs] <;> (try simp (disch := omega) only [wI, wU, wC]) <;> exact rfl); (focus ((try simp only [push_cast, seval, List.length_map, e1, hx, hs]) <;> exact sT)))); (apply Abn.pureP; (simp only [push_cast, seval, List.length_map, e1, hx, hs] <;> (try simp (disch := omega) only [wI, wU, wC]) <;> exact rfl); (exact (Enters.of Try.func14 rfl rfl)); (exact h2); (focus (simp only [push_cast, seval, List.length_map, e1, hx, hs] <;> first | trivial | assumption | (refine ⟨?_, ?_⟩ <;> assumption) | (simp; done))); (try dsimp only [putA, optG])); (repeat (apply Abn.next; (simp only [push_cast, seval, List.length_map, e1, hx, hs] <;> (try simp (disch := omega) only [wI, wU, wC]) <;> exact rfl); (focus ((try simp only [push_cast, seval, List.length_map, e1, hx, hs]) <;> exact sT))))); exact Abn.nil))
            repeat (first | apply Wp.seq | apply Wp.block | (apply Run.next; (simp only [push_cast, seval, List.length_map, e1, hx, hs] <;> (try simp (disch := omega) only [wI, wU, wC]) <;> exact rfl); (focus ((try simp only [push_cast, seval, List.length_map, e1, hx, hs]) <;> exact sT))) | ((first | apply Run.nil | apply Wp.skip); dsimp only [sQ, tQ, bQ]) | (apply Wp.run; (dsimp only [List.map] <;> exact rfl); exact rfl) | (apply Wp.exit; dsimp only [sQ, tQ, bQ]; simp only [reduceIte]) | (apply Run.gtrue; (simp only [push_cast, seval, List.length_map, e1, hx, hs] <;> (try simp (disch := omega) only [wI, wU, wC]) <;> exact rfl); (simp only [push_cast, seval, List.length_map, e1, hx, hs] <;> (try simp (disch := omega) only [wI, wU, wC]) <;> exact rfl)) | (apply Run.gfalse (.bool false); (simp only [push_cast, seval, List.length_map, e1, hx, hs] <;> (try simp (disch := omega) only [wI, wU, wC]) <;> exact rfl); dsimp only [S.put, optG]) | (apply Wp.condT; (simp only [push_cast, seval, List.length_map, e1, hx, hs] <;> (try simp (disch := omega) only [wI, wU, wC]) <;> exact rfl)) | (apply Wp.condF; (simp only [push_cast, seval, List.length_map, e1, hx, hs] <;> (try simp (disch := omega) only [wI, wU, wC]) <;> exact rfl)))
            (apply Wp.ret; (try dsimp only [sQ, tQ, bQ]); apply leave0; exact rfl; (simp only [push_cast, seval, List.length_map, e1, hx, hs] <;> (try simp (disch := omega) only [wI, wU, wC]) <;> exact rfl); all_goals (try simp only [push_cast, seval, List.length_map, e1, hx, hs]); (try rfl))
          | true =>
            rw [hw] at h2
            have hw0 : in8 (w0 U) = true := by rw [← hxw]; exact hw
            have hx8 : x.size ≤ 8 := by
              have hw' := hw
              simp only [in8, Bool.and_eq_true, decide_eq_true_eq] at hw'; omega
            repeat (first | apply Wp.seq | apply Wp.block | (apply Run.next; (simp only [push_cast, seval, List.length_map, e1, hx, hs] <;> (try simp (disch := omega) only [wI, wU, wC]) <;> exact rfl); (focus ((try simp only [push_cast, seval, List.length_map, e1, hx, hs]) <;> exact sT))) | ((first | apply Run.nil | apply Wp.skip); dsimp only [sQ, tQ, bQ]) | (apply Wp.run; (dsimp only [List.map] <;> exact rfl); exact rfl) | (apply Wp.exit; dsimp only [sQ, tQ, bQ]; simp only [reduceIte]) | (apply Run.gtrue; (simp only [push_cast, seval, List.length_map, e1, hx, hs] <;> (try simp (disch := omega) only [wI, wU, wC]) <;> exact rfl); (simp only [push_cast, seval, List.length_map, e1, hx, hs] <;> (try simp (disch := omega) only [wI, wU, wC]) <;> exact rfl)) | (apply Run.gfalse (.bool false); (simp only [push_cast, seval, List.length_map, e1, hx, hs] <;> (try simp (disch := omega) only [wI, wU, wC]) <;> exact rfl); dsimp only [S.put, optG]) | (apply Wp.condT; (simp only [push_cast, seval, List.length_map, e1, hx, hs] <;> (try simp (disch := omega) only [wI, wU, wC]) <;> exact rfl)) | (apply Wp.condF; (simp only [push_cast, seval, List.length_map, e1, hx, hs] <;> (try simp (disch := omega) only [wI, wU, wC]) <;> exact rfl)))
            (apply Wp.runD 19 mixed; (dsimp only [List.map] <;> exact rfl); exact rfl; kernel_rfl; (dsimp only [List.take] <;> exact rfl); (dsimp only [List.drop] <;> exact rfl); (((repeat (apply Abn.next; (simp only [push_cast, seval, List.length_map, e1, hx, hs] <;> (try simp (disch := omega) only [wI, wU, wC]) <;> exact rfl); (focus ((try simp only [push_cast, seval, List.length_map, e1, hx, hs]) <;> exact sT)))); (apply Abn.pureP; (simp only [push_cast, seval, List.length_map, e1, hx, hs] <;> (try simp (disch := omega) only [wI, wU, wC]) <;> exact rfl); (exact (Enters.of Try.func14 rfl rfl)); (exact h2); (focus (simp only [push_cast, seval, List.length_map, e1, hx, hs] <;> first | trivial | assumption | (refine ⟨?_, ?_⟩ <;> assumption) | (simp; done))); (try dsimp only [putA, optG])); (repeat (apply Abn.next; (simp only [push_cast, seval, List.length_map, e1, hx, hs] <;> (try simp (disch := omega) only [wI, wU, wC]) <;> exact rfl); (focus ((try simp only [push_cast, seval, List.length_map, e1, hx, hs]) <;> exact sT))))); exact Abn.nil))
            repeat (first | apply Wp.seq | apply Wp.block | (apply Run.next; (simp only [push_cast, seval, List.length_map, e1, hx, hs] <;> (try simp (disch := omega) only [wI, wU, wC]) <;> exact rfl); (focus ((try simp only [push_cast, seval, List.length_map, e1, hx, hs]) <;> exact sT))) | ((first | apply Run.nil | apply Wp.skip); dsimp only [sQ, tQ, bQ]) | (apply Wp.run; (dsimp only [List.map] <;> exact rfl); exact rfl) | (apply Wp.exit; dsimp only [sQ, tQ, bQ]; simp only [reduceIte]) | (apply Run.gtrue; (simp only [push_cast, seval, List.length_map, e1, hx, hs] <;> (try simp (disch := omega) only [wI, wU, wC]) <;> exact rfl); (simp only [push_cast, seval, List.length_map, e1, hx, hs] <;> (try simp (disch := omega) only [wI, wU, wC]) <;> exact rfl)) | (apply Run.gfalse (.bool false); (simp only [push_cast, seval, List.length_map, e1, hx, hs] <;> (try simp (disch := omega) only [wI, wU, wC]) <;> exact rfl); dsimp only [S.put, optG]) | (apply Wp.condT; (simp only [push_cast, seval, List.length_map, e1, hx, hs] <;> (try simp (disch := omega) only [wI, wU, wC]) <;> exact rfl)) | (apply Wp.condF; (simp only [push_cast, seval, List.length_map, e1, hx, hs] <;> (try simp (disch := omega) only [wI, wU, wC]) <;> exact rfl)))
            have hat := byteAtN x
            have hbl := bszL x
            refine Wp.loop (fun c : Nat => { t := [(0, .strs U), (3, .int k), (4, .int c)], m := [], n := 60 }) (fun c => c ≤ x.size ∧ ∀ j, j < c → cellB (x.data.toList.getD j 0) = true) (fun c => x.size - c) 0 ?_ ?_ ?_
            · (refine Le.of ?_ ?_ rfl rfl <;> (try simp only [push_cast, seval, List.length_map, e1, hx, hs]) <;> (try (with_reducible rfl)))
            · simp
            · rintro c ⟨hc1, hc2⟩
              by_cases hcb : c < x.size
              · have e2 : decide ((c : Int) < (x.size : Int)) = true := decide_eq_true (by omega)
                have hac := hat c
                generalize hy : x.data.toList.getD c 0 = y at hac
                have hlt := rletter_pure y
                have hcell : ∀ v, cellB (x.data.toList.getD c 0) = v → (decide ((y.toNat : Int) = 46) || letter y) = v := by
                  intro v h; rw [hy] at h; exact h
                cases hly : letter y with
                | true =>
                  rw [hly] at hlt
                  repeat (first | apply Wp.seq | apply Wp.block | (apply Run.next; (simp only [push_cast, seval, List.length_map, e1, e2, hx, hac] <;> (try simp (disch := omega) only [wI, wU, wC]) <;> exact rfl); (focus ((try simp only [push_cast, seval, List.length_map, e1, e2, hx, hac]) <;> exact sT))) | ((first | apply Run.nil | apply Wp.skip); dsimp only [sQ, tQ, bQ]) | (apply Wp.run; (dsimp only [List.map] <;> exact rfl); exact rfl) | (apply Wp.exit; dsimp only [sQ, tQ, bQ]; simp only [reduceIte]) | (apply Run.gtrue; (simp only [push_cast, seval, List.length_map, e1, e2, hx, hac] <;> (try simp (disch := omega) only [wI, wU, wC]) <;> exact rfl); (simp only [push_cast, seval, List.length_map, e1, e2, hx, hac] <;> (try simp (disch := omega) only [wI, wU, wC]) <;> exact rfl)) | (apply Run.gfalse (.bool false); (simp only [push_cast, seval, List.length_map, e1, e2, hx, hac] <;> (try simp (disch := omega) only [wI, wU, wC]) <;> exact rfl); dsimp only [S.put, optG]) | (apply Wp.condT; (simp only [push_cast, seval, List.length_map, e1, e2, hx, hac] <;> (try simp (disch := omega) only [wI, wU, wC]) <;> exact rfl)) | (apply Wp.condF; (simp only [push_cast, seval, List.length_map, e1, e2, hx, hac] <;> (try simp (disch := omega) only [wI, wU, wC]) <;> exact rfl)))
                  (apply Run.pureP; (simp only [push_cast, seval, List.length_map, e1, e2, hx, hac] <;> (try simp (disch := omega) only [wI, wU, wC]) <;> exact rfl); (exact (Enters.of Try.func29 rfl rfl)); (exact hlt); (focus (simp only [push_cast, seval, List.length_map, e1, e2, hx, hac] <;> first | trivial | assumption | (refine ⟨?_, ?_⟩ <;> assumption) | (simp; done))); (try dsimp only [putA, optG]))
                  repeat (first | apply Wp.seq | apply Wp.block | (apply Run.next; (simp only [push_cast, seval, List.length_map, e1, e2, hx, hac] <;> (try simp (disch := omega) only [wI, wU, wC]) <;> exact rfl); (focus ((try simp only [push_cast, seval, List.length_map, e1, e2, hx, hac]) <;> exact sT))) | ((first | apply Run.nil | apply Wp.skip); dsimp only [sQ, tQ, bQ]) | (apply Wp.run; (dsimp only [List.map] <;> exact rfl); exact rfl) | (apply Wp.exit; dsimp only [sQ, tQ, bQ]; simp only [reduceIte]) | (apply Run.gtrue; (simp only [push_cast, seval, List.length_map, e1, e2, hx, hac] <;> (try simp (disch := omega) only [wI, wU, wC]) <;> exact rfl); (simp only [push_cast, seval, List.length_map, e1, e2, hx, hac] <;> (try simp (disch := omega) only [wI, wU, wC]) <;> exact rfl)) | (apply Run.gfalse (.bool false); (simp only [push_cast, seval, List.length_map, e1, e2, hx, hac] <;> (try simp (disch := omega) only [wI, wU, wC]) <;> exact rfl); dsimp only [S.put, optG]) | (apply Wp.condT; (simp only [push_cast, seval, List.length_map, e1, e2, hx, hac] <;> (try simp (disch := omega) only [wI, wU, wC]) <;> exact rfl)) | (apply Wp.condF; (simp only [push_cast, seval, List.length_map, e1, e2, hx, hac] <;> (try simp (disch := omega) only [wI, wU, wC]) <;> exact rfl)))
                  refine ⟨c + 1, ?_, ⟨by omega, fun j hj => ?_⟩, by omega⟩
                  · (refine Le.of ?_ ?_ rfl rfl <;> (try simp only [push_cast, seval, List.length_map, e1, e2, hx, hac]) <;> (try (with_reducible rfl)))
                  · by_cases hjk : j = c
                    · subst hjk; rw [hy]; unfold cellB; rw [hly]; simp
                    · exact hc2 j (by omega)
                | false =>
                  rw [hly] at hlt
                  cases h46 : decide ((y.toNat : Int) = 46) with
                  | true =>
                    repeat (first | apply Wp.seq | apply Wp.block | (apply Run.next; (simp only [push_cast, seval, List.length_map, e1, e2, hx, hac, h46] <;> (try simp (disch := omega) only [wI, wU, wC]) <;> exact rfl); (focus ((try simp only [push_cast, seval, List.length_map, e1, e2, hx, hac, h46]) <;> exact sT))) | ((first | apply Run.nil | apply Wp.skip); dsimp only [sQ, tQ, bQ]) | (apply Wp.run; (dsimp only [List.map] <;> exact rfl); exact rfl) | (apply Wp.exit; dsimp only [sQ, tQ, bQ]; simp only [reduceIte]) | (apply Run.gtrue; (simp only [push_cast, seval, List.length_map, e1, e2, hx, hac, h46] <;> (try simp (disch := omega) only [wI, wU, wC]) <;> exact rfl); (simp only [push_cast, seval, List.length_map, e1, e2, hx, hac, h46] <;> (try simp (disch := omega) only [wI, wU, wC]) <;> exact rfl)) | (apply Run.gfalse (.bool false); (simp only [push_cast, seval, List.length_map, e1, e2, hx, hac, h46] <;> (try simp (disch := omega) only [wI, wU, wC]) <;> exact rfl); dsimp only [S.put, optG]) | (apply Wp.condT; (simp only [push_cast, seval, List.length_map, e1, e2, hx, hac, h46] <;> (try simp (disch := omega) only [wI, wU, wC]) <;> exact rfl)) | (apply Wp.condF; (simp only [push_cast, seval, List.length_map, e1, e2, hx, hac, h46] <;> (try simp (disch := omega) only [wI, wU, wC]) <;> exact rfl)))
                    (apply Run.pureP; (simp only [push_cast, seval, List.length_map, e1, e2, hx, hac, h46] <;> (try simp (disch := omega) only [wI, wU, wC]) <;> exact rfl); (exact (Enters.of Try.func29 rfl rfl)); (exact hlt); (focus (simp only [push_cast, seval, List.length_map, e1, e2, hx, hac, h46] <;> first | trivial | assumption | (refine ⟨?_, ?_⟩ <;> assumption) | (simp; done))); (try dsimp only [putA, optG]))
                    repeat (first | apply Wp.seq | apply Wp.block | (apply Run.next; (simp only [push_cast, seval, List.length_map, e1, e2, hx, hac, h46] <;> (try simp (disch := omega) only [wI, wU, wC]) <;> exact rfl); (focus ((try simp only [push_cast, seval, List.length_map, e1, e2, hx, hac, h46]) <;> exact sT))) | ((first | apply Run.nil | apply Wp.skip); dsimp only [sQ, tQ, bQ]) | (apply Wp.run; (dsimp only [List.map] <;> exact rfl); exact rfl) | (apply Wp.exit; dsimp only [sQ, tQ, bQ]; simp only [reduceIte]) | (apply Run.gtrue; (simp only [push_cast, seval, List.length_map, e1, e2, hx, hac, h46] <;> (try simp (disch := omega) only [wI, wU, wC]) <;> exact rfl); (simp only [push_cast, seval, List.length_map, e1, e2, hx, hac, h46] <;> (try simp (disch := omega) only [wI, wU, wC]) <;> exact rfl)) | (apply Run.gfalse (.bool false); (simp only [push_cast, seval, List.length_map, e1, e2, hx, hac, h46] <;> (try simp (disch := omega) only [wI, wU, wC]) <;> exact rfl); dsimp only [S.put, optG]) | (apply Wp.condT; (simp only [push_cast, seval, List.length_map, e1, e2, hx, hac, h46] <;> (try simp (disch := omega) only [wI, wU, wC]) <;> exact rfl)) | (apply Wp.condF; (simp only [push_cast, seval, List.length_map, e1, e2, hx, hac, h46] <;> (try simp (disch := omega) only [wI, wU, wC]) <;> exact rfl)))
                    refine ⟨c + 1, ?_, ⟨by omega, fun j hj => ?_⟩, by omega⟩
                    · (refine Le.of ?_ ?_ rfl rfl <;> (try simp only [push_cast, seval, List.length_map, e1, e2, hx, hac, h46]) <;> (try (with_reducible rfl)))
                    · by_cases hjk : j = c
                      · subst hjk; rw [hy]; unfold cellB; rw [h46]; simp
                      · exact hc2 j (by omega)
                  | false =>
                    have hbad : U.all (rowB (w0 U)) = false := notU hkb (by
                      rw [hx]; unfold rowB
                      have : x.data.toList.all cellB = false := by
                        rw [← Bool.not_eq_true, List.all_eq_true]
                        intro h
                        have := h y (by rw [← hy]; simp [hbl, hcb])
                        unfold cellB at this
                        rw [hly, h46] at this; cases this
                      rw [this, Bool.and_false])
                    rw [ckS_no (by unfold sheetB; rw [hbad]; simp)]
                    repeat (first | apply Wp.seq | apply Wp.block | (apply Run.next; (simp only [push_cast, seval, List.length_map, e1, e2, hx, hac, h46] <;> (try simp (disch := omega) only [wI, wU, wC]) <;> exact rfl); (focus ((try simp only [push_cast, seval, List.length_map, e1, e2, hx, hac, h46]) <;> exact sT))) | ((first | apply Run.nil | apply Wp.skip); dsimp only [sQ, tQ, bQ]) | (apply Wp.run; (dsimp only [List.map] <;> exact rfl); exact rfl) | (apply Wp.exit; dsimp only [sQ, tQ, bQ]; simp only [reduceIte]) | (apply Run.gtrue; (simp only [push_cast, seval, List.length_map, e1, e2, hx, hac, h46] <;> (try simp (disch := omega) only [wI, wU, wC]) <;> exact rfl); (simp only [push_cast, seval, List.length_map, e1, e2, hx, hac, h46] <;> (try simp (disch := omega) only [wI, wU, wC]) <;> exact rfl)) | (apply Run.gfalse (.bool false); (simp only [push_cast, seval, List.length_map, e1, e2, hx, hac, h46] <;> (try simp (disch := omega) only [wI, wU, wC]) <;> exact rfl); dsimp only [S.put, optG]) | (apply Wp.condT; (simp only [push_cast, seval, List.length_map, e1, e2, hx, hac, h46] <;> (try simp (disch := omega) only [wI, wU, wC]) <;> exact rfl)) | (apply Wp.condF; (simp only [push_cast, seval, List.length_map, e1, e2, hx, hac, h46] <;> (try simp (disch := omega) only [wI, wU, wC]) <;> exact rfl)))
                    (apply Run.pureP; (simp only [push_cast, seval, List.length_map, e1, e2, hx, hac, h46] <;> (try simp (disch := omega) only [wI, wU, wC]) <;> exact rfl); (exact (Enters.of Try.func29 rfl rfl)); (exact hlt); (focus (simp only [push_cast, seval, List.length_map, e1, e2, hx, hac, h46] <;> first | trivial | assumption | (refine ⟨?_, ?_⟩ <;> assumption) | (simp; done))); (try dsimp only [putA, optG]))
                    repeat (first | apply Wp.seq | apply Wp.block | (apply Run.next; (simp only [push_cast, seval, List.length_map, e1, e2, hx, hac, h46] <;> (try simp (disch := omega) only [wI, wU, wC]) <;> exact rfl); (focus ((try simp only [push_cast, seval, List.length_map, e1, e2, hx, hac, h46]) <;> exact sT))) | ((first | apply Run.nil | apply Wp.skip); dsimp only [sQ, tQ, bQ]) | (apply Wp.run; (dsimp only [List.map] <;> exact rfl); exact rfl) | (apply Wp.exit; dsimp only [sQ, tQ, bQ]; simp only [reduceIte]) | (apply Run.gtrue; (simp only [push_cast, seval, List.length_map, e1, e2, hx, hac, h46] <;> (try simp (disch := omega) only [wI, wU, wC]) <;> exact rfl); (simp only [push_cast, seval, List.length_map, e1, e2, hx, hac, h46] <;> (try simp (disch := omega) only [wI, wU, wC]) <;> exact rfl)) | (apply Run.gfalse (.bool false); (simp only [push_cast, seval, List.length_map, e1, e2, hx, hac, h46] <;> (try simp (disch := omega) only [wI, wU, wC]) <;> exact rfl); dsimp only [S.put, optG]) | (apply Wp.condT; (simp only [push_cast, seval, List.length_map, e1, e2, hx, hac, h46] <;> (try simp (disch := omega) only [wI, wU, wC]) <;> exact rfl)) | (apply Wp.condF; (simp only [push_cast, seval, List.length_map, e1, e2, hx, hac, h46] <;> (try simp (disch := omega) only [wI, wU, wC]) <;> exact rfl)))
                    (apply Wp.ret; (try dsimp only [sQ, tQ, bQ]); apply leave0; exact rfl; (simp only [push_cast, seval, List.length_map, e1, e2, hx, hac, h46] <;> (try simp (disch := omega) only [wI, wU, wC]) <;> exact rfl); all_goals (try simp only [push_cast, seval, List.length_map, e1, e2, hx, hac, h46]); (try rfl))
              · have e2 : decide ((c : Int) < (x.size : Int)) = false := decide_eq_false (by omega)
                have hall : x.data.toList.all cellB = true := all_getD fun j hj => hc2 j (by omega)
                repeat (first | apply Wp.seq | apply Wp.block | (apply Run.next; (simp only [push_cast, seval, List.length_map, e1, e2, hx] <;> (try simp (disch := omega) only [wI, wU, wC]) <;> exact rfl); (focus ((try simp only [push_cast, seval, List.length_map, e1, e2, hx]) <;> exact sT))) | ((first | apply Run.nil | apply Wp.skip); dsimp only [sQ, tQ, bQ]) | (apply Wp.run; (dsimp only [List.map] <;> exact rfl); exact rfl) | (apply Wp.exit; dsimp only [sQ, tQ, bQ]; simp only [reduceIte]) | (apply Run.gtrue; (simp only [push_cast, seval, List.length_map, e1, e2, hx] <;> (try simp (disch := omega) only [wI, wU, wC]) <;> exact rfl); (simp only [push_cast, seval, List.length_map, e1, e2, hx] <;> (try simp (disch := omega) only [wI, wU, wC]) <;> exact rfl)) | (apply Run.gfalse (.bool false); (simp only [push_cast, seval, List.length_map, e1, e2, hx] <;> (try simp (disch := omega) only [wI, wU, wC]) <;> exact rfl); dsimp only [S.put, optG]) | (apply Wp.condT; (simp only [push_cast, seval, List.length_map, e1, e2, hx] <;> (try simp (disch := omega) only [wI, wU, wC]) <;> exact rfl)) | (apply Wp.condF; (simp only [push_cast, seval, List.length_map, e1, e2, hx] <;> (try simp (disch := omega) only [wI, wU, wC]) <;> exact rfl)))
                refine ⟨k + 1, ?_, ⟨by omega, fun _ => hw0, fun j hj => ?_⟩, by omega⟩
                · (refine Le.of ?_ ?_ rfl rfl <;> (try simp only [push_cast, seval, List.length_map, e1, e2, hx]) <;> (try (with_reducible rfl)))
                · by_cases hjk : j = k
                  · subst hjk; rw [hx]; unfold rowB; rw [hs, hall]; rfl
                  · exact hk2 j (by omega)
      · have e1 : decide ((k : Int) < (U.length : Int)) = false := decide_eq_false (by omega)
        have hok : ckS U = 0 := by
          unfold ckS sheetB
          rw [hl, hk0 (by omega), allU fun j hj => hk2 j (by omega)]; rfl
        rw [hok]
        repeat (first | apply Wp.seq | apply Wp.block | (apply Run.next; (simp only [push_cast, seval, List.length_map, e1] <;> (try simp (disch := omega) only [wI, wU, wC]) <;> exact rfl); (focus ((try simp only [push_cast, seval, List.length_map, e1]) <;> exact sT))) | ((first | apply Run.nil | apply Wp.skip); dsimp only [sQ, tQ, bQ]) | (apply Wp.run; (dsimp only [List.map] <;> exact rfl); exact rfl) | (apply Wp.exit; dsimp only [sQ, tQ, bQ]; simp only [reduceIte]) | (apply Run.gtrue; (simp only [push_cast, seval, List.length_map, e1] <;> (try simp (disch := omega) only [wI, wU, wC]) <;> exact rfl); (simp only [push_cast, seval, List.length_map, e1] <;> (try simp (disch := omega) only [wI, wU, wC]) <;> exact rfl)) | (apply Run.gfalse (.bool false); (simp only [push_cast, seval, List.length_map, e1] <;> (try simp (disch := omega) only [wI, wU, wC]) <;> exact rfl); dsimp only [S.put, optG]) | (apply Wp.condT; (simp only [push_cast, seval, List.length_map, e1] <;> (try simp (disch := omega) only [wI, wU, wC]) <;> exact rfl)) | (apply Wp.condF; (simp only [push_cast, seval, List.length_map, e1] <;> (try simp (disch := omega) only [wI, wU, wC]) <;> exact rfl)))
        (apply Wp.ret; (try dsimp only [sQ, tQ, bQ]); apply leave0; exact rfl; (simp only [push_cast, seval, List.length_map, e1] <;> (try simp (disch := omega) only [wI, wU, wC]) <;> exact rfl); all_goals (try simp only [push_cast, seval, List.length_map, e1]); (try rfl))
end Go.Proofs.Try
set_option maxHeartbeats 8000000
namespace Go.Proofs.Try
open Go.Vg

/-! a sheet, turned -/
def bt (b : ByteArray) (k : Nat) : UInt8 := b.data.toList.getD k 0
theorem byteAtB (b : ByteArray) (k : Nat) : byteAt b (k : Int) = bt b k := byteAtN b k
def colU (U : List ByteArray) (k n : Nat) : List UInt8 := (List.range n).map fun i => bt (U.getD (U.length - 1 - i) .empty) k
def rowT (U : List ByteArray) (k : Nat) : ByteArray := ⟨(colU U k U.length).toArray⟩
def rowsT (U : List ByteArray) (k : Nat) : List ByteArray := (List.range k).map (rowT U)
def turnU (U : List ByteArray) : List ByteArray := rowsT U (w0 U)
theorem colU_snoc (U : List ByteArray) (k n : Nat) : colU U k (n + 1) = colU U k n ++ [bt (U.getD (U.length - 1 - n) .empty) k] := by
  unfold colU; rw [List.range_succ, List.map_append]; rfl
theorem colU_len (U : List ByteArray) (k n : Nat) : (colU U k n).length = n := by simp [colU]
theorem rowsT_snoc (U : List ByteArray) (k : Nat) : rowsT U (k + 1) = rowsT U k ++ [rowT U k] := by
  unfold rowsT; rw [List.range_succ, List.map_append]; rfl
theorem rowsT_len (U : List ByteArray) (k : Nat) : (rowsT U k).length = k := by simp [rowsT]
theorem rowT_size (U : List ByteArray) (k : Nat) : (rowT U k).size = U.length := by
  show (colU U k U.length).toArray.size = _
  rw [List.size_toArray, colU_len]
def posU (h n : Nat) : Int := (h : Int) - 1 - n
theorem map_snocB (l : List UInt8) (c : UInt8) : (l ++ [c]).map AV.byte = l.map AV.byte ++ [AV.byte c] := by simp
structure Sh (U : List ByteArray) : Prop where
  len : 1 ≤ U.length ∧ U.length ≤ 8
  wid : 1 ≤ w0 U ∧ w0 U ≤ 8
  row : ∀ j, j < U.length → (U.getD j .empty).size = w0 U
theorem turned_pure (U : List ByteArray) (hU : Sh U) : Pure Try.prog 11 [.strs U] (.strs (turnU U)) := by
  obtain ⟨hl, hw, hrow⟩ := hU
  unfold turnU
  have hwn : (U.getD 0 .empty).size = w0 U := rfl
  generalize hW : w0 U = W at hw hrow hwn
  (refine Spec.of_body Try.func11 rfl (by rw [Try.ntmps11]; simp) 0 (by simp) ?_; rw [Try.results11, Try.ntmps11]; simp only [entry, zipArgs, Nat.reduceAdd])
  repeat (first | apply Wp.seq | apply Wp.block | (apply Run.next; (simp only [push_cast, seval, List.length_map, hwn] <;> (try simp (disch := omega) only [wI, wU, wC]) <;> exact rfl); (focus ((try simp only [push_cast, seval, List.length_map, hwn]) <;> exact sT))) | ((first | apply Run.nil | apply Wp.skip); dsimp only [sQ, tQ, bQ]) | (apply Wp.run; (dsimp only [List.map] <;> exact rfl); exact rfl) | (apply Wp.exit; dsimp only [sQ, tQ, bQ]; simp only [reduceIte]))
  apply Wp.adopt 2 1; (simp only [push_cast, seval, List.length_map, hwn] <;> (try simp (disch := omega) only [wI, wU, wC]) <;> exact rfl)
  (refine Wp.vacs 1 ?_; (try simp only [List.replicate_succ, List.replicate_zero, List.cons_append, List.nil_append]))
  refine Wp.loop (fun (kv : Nat × Nat × Kind) => { t := [(0, .strs U), (2, .osl 0 kv.1 0 kv.1), (9, .int W), (10, .int kv.1)], m := [⟨kv.1, .row 1 ((rowsT U kv.1).map AV.str)⟩, ⟨kv.2.1, kv.2.2⟩], n := 36 }) (fun kv => kv.1 ≤ W) (fun kv => W - kv.1) (0, 0, .row 1 []) ?_ ?_ ?_
  · (refine Le.of ?_ ?_ rfl rfl <;> (try simp only [push_cast, seval, List.length_map, hwn]) <;> (try (with_reducible rfl)))
    all_goals rfl
  · simp
  · rintro ⟨k, v, kd⟩ hk
    simp only at hk
    have hrl := rowsT_len U k
    have hrs := rowsT_snoc U k
    by_cases hkb : k < W
    · have e1 : decide ((k : Int) < (W : Int)) = true := decide_eq_true (by omega)
      generalize rowsT U k = R at hrl hrs
      repeat (first | apply Wp.seq | apply Wp.block | (apply Run.next; (simp only [push_cast, seval, List.length_map, e1] <;> (try simp (disch := omega) only [wI, wU, wC]) <;> exact rfl); (focus ((try simp only [push_cast, seval, List.length_map, e1]) <;> exact sT))) | ((first | apply Run.nil | apply Wp.skip); dsimp only [sQ, tQ, bQ]) | (apply Wp.run; (dsimp only [List.map] <;> exact rfl); exact rfl) | (apply Wp.exit; dsimp only [sQ, tQ, bQ]; simp only [reduceIte]) | (apply Run.gtrue; (simp only [push_cast, seval, List.length_map, e1] <;> (try simp (disch := omega) only [wI, wU, wC]) <;> exact rfl); (simp only [push_cast, seval, List.length_map, e1] <;> (try simp (disch := omega) only [wI, wU, wC]) <;> exact rfl)) | (apply Run.gfalse (.bool false); (simp only [push_cast, seval, List.length_map, e1] <;> (try simp (disch := omega) only [wI, wU, wC]) <;> exact rfl); dsimp only [S.put, optG]) | (apply Wp.condT; (simp only [push_cast, seval, List.length_map, e1] <;> (try simp (disch := omega) only [wI, wU, wC]) <;> exact rfl)) | (apply Wp.condF; (simp only [push_cast, seval, List.length_map, e1] <;> (try simp (disch := omega) only [wI, wU, wC]) <;> exact rfl)))
      apply Wp.adoptAt 4 1 1; (simp only [push_cast, seval, List.length_map, e1] <;> (try simp (disch := omega) only [wI, wU, wC]) <;> exact rfl); (simp only [push_cast, seval, List.length_map, e1] <;> (try simp (disch := omega) only [wI, wU, wC]) <;> exact rfl)
      repeat (first | apply Wp.seq | apply Wp.block | (apply Run.next; (simp only [push_cast, seval, List.length_map, e1] <;> (try simp (disch := omega) only [wI, wU, wC]) <;> exact rfl); (focus ((try simp only [push_cast, seval, List.length_map, e1]) <;> exact sT))) | ((first | apply Run.nil | apply Wp.skip); dsimp only [sQ, tQ, bQ]) | (apply Wp.run; (dsimp only [List.map] <;> exact rfl); exact rfl) | (apply Wp.exit; dsimp only [sQ, tQ, bQ]; simp only [reduceIte]) | (apply Run.gtrue; (simp only [push_cast, seval, List.length_map, e1] <;> (try simp (disch := omega) only [wI, wU, wC]) <;> exact rfl); (simp only [push_cast, seval, List.length_map, e1] <;> (try simp (disch := omega) only [wI, wU, wC]) <;> exact rfl)) | (apply Run.gfalse (.bool false); (simp only [push_cast, seval, List.length_map, e1] <;> (try simp (disch := omega) only [wI, wU, wC]) <;> exact rfl); dsimp only [S.put, optG]) | (apply Wp.condT; (simp only [push_cast, seval, List.length_map, e1] <;> (try simp (disch := omega) only [wI, wU, wC]) <;> exact rfl)) | (apply Wp.condF; (simp only [push_cast, seval, List.length_map, e1] <;> (try simp (disch := omega) only [wI, wU, wC]) <;> exact rfl)))
      refine Wp.loop (fun n : Nat => { t := [(0, .strs U), (2, .osl 0 k 0 k), (3, .int k), (4, .osl 1 (v + 1 + n) 0 n), (5, .int (posU U.length n)), (9, .int W), (10, .int k)], m := [⟨k, .row 1 (R.map AV.str)⟩, ⟨v + 1 + n, .row 1 ((colU U k n).map AV.byte)⟩], n := 36 }) (fun n => n ≤ U.length) (fun n => U.length - n) 0 ?_ ?_ ?_
      · have hp0 : posU U.length 0 = (U.length : Int) - 1 := by unfold posU; omega
        rw [hp0]
        (refine Le.of ?_ ?_ rfl rfl <;> (try simp only [push_cast, seval, List.length_map, e1]) <;> (try (with_reducible rfl)))
        all_goals rfl
      · omega
      · intro n hn
        have hcl := colU_len U k n
        have hcs := colU_snoc U k n
        by_cases hnb : n < U.length
        · obtain ⟨j, hj, hj0⟩ : ∃ j : Nat, posU U.length n = (j : Int) ∧ U.length - 1 - n = j := ⟨U.length - 1 - n, by unfold posU; omega, rfl⟩
          have hj1 : posU U.length (n + 1) = (j : Int) - 1 := by unfold posU at hj ⊢; omega
          have hjl : j < U.length := by omega
          have e2 : decide (0 ≤ (j : Int)) = true := decide_eq_true (by omega)
          have hat := byteAtB (U.getD j .empty) k
          have hrj := hrow j hjl
          rw [hj0] at hcs
          generalize hx : U.getD j .empty = x at hat hcs hrj
          generalize bt x k = c at hat hcs
          generalize colU U k n = G at hcl hcs
          repeat (first | apply Wp.seq | apply Wp.block | (apply Run.next; (simp only [push_cast, seval, List.length_map, e2, hj, hx, hat, hrl, hcl] <;> (try simp (disch := omega) only [wI, wU, wC]) <;> exact rfl); (focus ((try simp only [push_cast, seval, List.length_map, e2, hj, hx, hat, hrl, hcl]) <;> exact sT))) | ((first | apply Run.nil | apply Wp.skip); dsimp only [sQ, tQ, bQ]) | (apply Wp.run; (dsimp only [List.map] <;> exact rfl); exact rfl) | (apply Wp.exit; dsimp only [sQ, tQ, bQ]; simp only [reduceIte]) | (apply Run.gtrue; (simp only [push_cast, seval, List.length_map, e2, hj, hx, hat, hrl, hcl] <;> (try simp (disch := omega) only [wI, wU, wC]) <;> exact rfl); (simp only [push_cast, seval, List.length_map, e2, hj, hx, hat, hrl, hcl] <;> (try simp (disch := omega) only [wI, wU, wC]) <;> exact rfl)) | (apply Run.gfalse (.bool false); (simp only [push_cast, seval, List.length_map, e2, hj, hx, hat, hrl, hcl] <;> (try simp (disch := omega) only [wI, wU, wC]) <;> exact rfl); dsimp only [S.put, optG]) | (apply Wp.condT; (simp only [push_cast, seval, List.length_map, e2, hj, hx, hat, hrl, hcl] <;> (try simp (disch := omega) only [wI, wU, wC]) <;> exact rfl)) | (apply Wp.condF; (simp only [push_cast, seval, List.length_map, e2, hj, hx, hat, hrl, hcl] <;> (try simp (disch := omega) only [wI, wU, wC]) <;> exact rfl)))
          refine ⟨n + 1, ?_, by omega, by omega⟩
          rw [hcs, map_snocB, hj1]
          (refine Le.of ?_ ?_ rfl rfl <;> (try simp only [push_cast, seval, List.length_map, e2, hj, hx, hat, hrl, hcl]) <;> (try (with_reducible rfl)))
          rw [List.take_of_length_le (by simp [hcl])]
          all_goals trivial
        · obtain rfl : n = U.length := by omega
          have hj : posU U.length U.length = -1 := by unfold posU; omega
          have e2 : decide (0 ≤ (-1 : Int)) = false := rfl
          have hrt : (⟨(colU U k U.length).toArray⟩ : ByteArray) = rowT U k := rfl
          generalize rowT U k = T at hrt hrs
          generalize colU U k U.length = G at hcl hrt
          repeat (first | apply Wp.seq | apply Wp.block | (apply Run.next; (simp only [push_cast, seval, List.length_map, e2, hj, hrl, hcl] <;> (try simp (disch := omega) only [wI, wU, wC]) <;> exact rfl); (focus ((try simp only [push_cast, seval, List.length_map, e2, hj, hrl, hcl]) <;> exact sT))) | ((first | apply Run.nil | apply Wp.skip); dsimp only [sQ, tQ, bQ]) | (apply Wp.run; (dsimp only [List.map] <;> exact rfl); exact rfl) | (apply Wp.exit; dsimp only [sQ, tQ, bQ]; simp only [reduceIte]) | (apply Run.gtrue; (simp only [push_cast, seval, List.length_map, e2, hj, hrl, hcl] <;> (try simp (disch := omega) only [wI, wU, wC]) <;> exact rfl); (simp only [push_cast, seval, List.length_map, e2, hj, hrl, hcl] <;> (try simp (disch := omega) only [wI, wU, wC]) <;> exact rfl)) | (apply Run.gfalse (.bool false); (simp only [push_cast, seval, List.length_map, e2, hj, hrl, hcl] <;> (try simp (disch := omega) only [wI, wU, wC]) <;> exact rfl); dsimp only [S.put, optG]) | (apply Wp.condT; (simp only [push_cast, seval, List.length_map, e2, hj, hrl, hcl] <;> (try simp (disch := omega) only [wI, wU, wC]) <;> exact rfl)) | (apply Wp.condF; (simp only [push_cast, seval, List.length_map, e2, hj, hrl, hcl] <;> (try simp (disch := omega) only [wI, wU, wC]) <;> exact rfl)))
          apply Run.strOf; (simp only [push_cast, seval, List.length_map, e2, hj, hrl, hcl] <;> (try simp (disch := omega) only [wI, wU, wC]) <;> exact rfl); (simp only [push_cast, seval, List.length_map, e2, hj, hrl, hcl] <;> (try simp (disch := omega) only [wI, wU, wC]) <;> exact rfl); (simp only [push_cast, seval, List.length_map, e2, hj, hrl, hcl] <;> (try simp (disch := omega) only [wI, wU, wC]) <;> exact rfl); (simp only [push_cast, seval, List.length_map, e2, hj, hrl, hcl] <;> (try simp (disch := omega) only [wI, wU, wC]) <;> exact rfl); (focus (simp only [push_cast, seval, List.length_map, e2, hj, hrl, hcl] <;> first | omega | (simp; done))); dsimp only [S.put, optG]
          rw [List.take_of_length_le (by rw [hcl]; exact Nat.le_refl _), hrt]
          repeat (first | apply Wp.seq | apply Wp.block | (apply Run.next; (simp only [push_cast, seval, List.length_map, e2, hj, hrl, hcl] <;> (try simp (disch := omega) only [wI, wU, wC]) <;> exact rfl); (focus ((try simp only [push_cast, seval, List.length_map, e2, hj, hrl, hcl]) <;> exact sT))) | ((first | apply Run.nil | apply Wp.skip); dsimp only [sQ, tQ, bQ]) | (apply Wp.run; (dsimp only [List.map] <;> exact rfl); exact rfl) | (apply Wp.exit; dsimp only [sQ, tQ, bQ]; simp only [reduceIte]) | (apply Run.gtrue; (simp only [push_cast, seval, List.length_map, e2, hj, hrl, hcl] <;> (try simp (disch := omega) only [wI, wU, wC]) <;> exact rfl); (simp only [push_cast, seval, List.length_map, e2, hj, hrl, hcl] <;> (try simp (disch := omega) only [wI, wU, wC]) <;> exact rfl)) | (apply Run.gfalse (.bool false); (simp only [push_cast, seval, List.length_map, e2, hj, hrl, hcl] <;> (try simp (disch := omega) only [wI, wU, wC]) <;> exact rfl); dsimp only [S.put, optG]) | (apply Wp.condT; (simp only [push_cast, seval, List.length_map, e2, hj, hrl, hcl] <;> (try simp (disch := omega) only [wI, wU, wC]) <;> exact rfl)) | (apply Wp.condF; (simp only [push_cast, seval, List.length_map, e2, hj, hrl, hcl] <;> (try simp (disch := omega) only [wI, wU, wC]) <;> exact rfl)))
          refine ⟨(k + 1, v + 1 + U.length, .row 1 (G.map AV.byte)), ?_, by simp only; omega, by simp only; omega⟩
          rw [hrs]
          (refine Le.of ?_ ?_ rfl rfl <;> (try simp only [push_cast, seval, List.length_map, e2, hj, hrl, hcl]) <;> (try (with_reducible rfl)))
          rw [List.take_of_length_le (by rw [hrl]; exact Nat.le_refl _)]
          all_goals trivial
    · obtain rfl : k = W := by omega
      have e1 : decide ((k : Int) < (k : Int)) = false := decide_eq_false (by omega)
      repeat (first | apply Wp.seq | apply Wp.block | (apply Run.next; (simp only [push_cast, seval, List.length_map, e1, hrl] <;> (try simp (disch := omega) only [wI, wU, wC]) <;> exact rfl); (focus ((try simp only [push_cast, seval, List.length_map, e1, hrl]) <;> exact sT))) | ((first | apply Run.nil | apply Wp.skip); dsimp only [sQ, tQ, bQ]) | (apply Wp.run; (dsimp only [List.map] <;> exact rfl); exact rfl) | (apply Wp.exit; dsimp only [sQ, tQ, bQ]; simp only [reduceIte]) | (apply Run.gtrue; (simp only [push_cast, seval, List.length_map, e1, hrl] <;> (try simp (disch := omega) only [wI, wU, wC]) <;> exact rfl); (simp only [push_cast, seval, List.length_map, e1, hrl] <;> (try simp (disch := omega) only [wI, wU, wC]) <;> exact rfl)) | (apply Run.gfalse (.bool false); (simp only [push_cast, seval, List.length_map, e1, hrl] <;> (try simp (disch := omega) only [wI, wU, wC]) <;> exact rfl); dsimp only [S.put, optG]) | (apply Wp.condT; (simp only [push_cast, seval, List.length_map, e1, hrl] <;> (try simp (disch := omega) only [wI, wU, wC]) <;> exact rfl)) | (apply Wp.condF; (simp only [push_cast, seval, List.length_map, e1, hrl] <;> (try simp (disch := omega) only [wI, wU, wC]) <;> exact rfl)))
      (apply Wp.freeze 2; (simp only [push_cast, seval, List.length_map, e1, hrl] <;> (try simp (disch := omega) only [wI, wU, wC]) <;> exact rfl); (simp only [push_cast, seval, List.length_map, e1, hrl] <;> (try simp (disch := omega) only [wI, wU, wC]) <;> exact rfl); (focus (try simp only [push_cast, seval, List.length_map, e1, hrl]); (try (exact sT))); (focus (exact sT)))
      repeat (first | apply Wp.seq | apply Wp.block | (apply Run.next; (simp only [push_cast, seval, List.length_map, e1, hrl] <;> (try simp (disch := omega) only [wI, wU, wC]) <;> exact rfl); (focus ((try simp only [push_cast, seval, List.length_map, e1, hrl]) <;> exact sT))) | ((first | apply Run.nil | apply Wp.skip); dsimp only [sQ, tQ, bQ]) | (apply Wp.run; (dsimp only [List.map] <;> exact rfl); exact rfl) | (apply Wp.exit; dsimp only [sQ, tQ, bQ]; simp only [reduceIte]) | (apply Run.gtrue; (simp only [push_cast, seval, List.length_map, e1, hrl] <;> (try simp (disch := omega) only [wI, wU, wC]) <;> exact rfl); (simp only [push_cast, seval, List.length_map, e1, hrl] <;> (try simp (disch := omega) only [wI, wU, wC]) <;> exact rfl)) | (apply Run.gfalse (.bool false); (simp only [push_cast, seval, List.length_map, e1, hrl] <;> (try simp (disch := omega) only [wI, wU, wC]) <;> exact rfl); dsimp only [S.put, optG]) | (apply Wp.condT; (simp only [push_cast, seval, List.length_map, e1, hrl] <;> (try simp (disch := omega) only [wI, wU, wC]) <;> exact rfl)) | (apply Wp.condF; (simp only [push_cast, seval, List.length_map, e1, hrl] <;> (try simp (disch := omega) only [wI, wU, wC]) <;> exact rfl)))
      (apply Wp.ret; (try dsimp only [sQ, tQ, bQ]); apply leave0; exact rfl; (simp only [push_cast, seval, List.length_map, e1, hrl] <;> (try simp (disch := omega) only [wI, wU, wC]) <;> exact rfl); all_goals (try simp only [push_cast, seval, List.length_map, e1, hrl]); (try rfl))
      rw [List.take_of_length_le (by rw [hrl]; exact Nat.le_refl _)]

theorem strCat (l : List UInt8) (x : ByteArray) (k : Nat) (h : k < x.size) : (⟨l.toArray⟩ : ByteArray) ++ x.extract k (k + 1) = ⟨(l ++ [bt x k]).toArray⟩ := by
  apply ByteArray.ext
  rw [ByteArray.data_append, ByteArray.data_extract]
  apply Array.ext'
  have hx : k < x.data.toList.length := by rw [bszL]; exact h
  simp [bt, hx, List.drop_eq_getElem_cons hx]
  rw [Array.getElem?_eq_getElem (by exact h)]
  rfl
theorem quarter_pure (U : List ByteArray) (hU : Sh U) : Pure Try.prog 27 [.strs U] (.strs (turnU U)) := by
  obtain ⟨hl, hw, hrow⟩ := hU
  unfold turnU
  have hwn : (U.getD 0 .empty).size = w0 U := rfl
  generalize hW : w0 U = W at hw hrow hwn
  (refine Spec.of_body Try.func27 rfl (by rw [Try.ntmps27]; simp) 0 (by simp) ?_; rw [Try.results27, Try.ntmps27]; simp only [entry, zipArgs, Nat.reduceAdd])
  repeat (first | apply Wp.seq | apply Wp.block | (apply Run.next; (simp only [push_cast, seval, List.length_map, hwn] <;> (try simp (disch := omega) only [wI, wU, wC]) <;> exact rfl); (focus ((try simp only [push_cast, seval, List.length_map, hwn]) <;> exact sT))) | ((first | apply Run.nil | apply Wp.skip); dsimp only [sQ, tQ, bQ]) | (apply Wp.run; (dsimp only [List.map] <;> exact rfl); exact rfl) | (apply Wp.exit; dsimp only [sQ, tQ, bQ]; simp only [reduceIte]) | (apply Run.gtrue; (simp only [push_cast, seval, List.length_map, hwn] <;> (try simp (disch := omega) only [wI, wU, wC]) <;> exact rfl); (simp only [push_cast, seval, List.length_map, hwn] <;> (try simp (disch := omega) only [wI, wU, wC]) <;> exact rfl)) | (apply Run.gfalse (.bool false); (simp only [push_cast, seval, List.length_map, hwn] <;> (try simp (disch := omega) only [wI, wU, wC]) <;> exact rfl); dsimp only [S.put, optG]) | (apply Wp.condT; (simp only [push_cast, seval, List.length_map, hwn] <;> (try simp (disch := omega) only [wI, wU, wC]) <;> exact rfl)) | (apply Wp.condF; (simp only [push_cast, seval, List.length_map, hwn] <;> (try simp (disch := omega) only [wI, wU, wC]) <;> exact rfl)))
  apply Wp.adopt 3 1; (simp only [push_cast, seval, List.length_map, hwn] <;> (try simp (disch := omega) only [wI, wU, wC]) <;> exact rfl)
  refine Wp.loop (fun (k : Nat) => { t := [(0, .strs U), (3, .osl 0 k 0 k), (4, .int k)], m := [⟨k, .row 1 ((rowsT U k).map AV.str)⟩], n := 37 }) (fun k => k ≤ W) (fun k => W - k) 0 ?_ ?_ ?_
  · (refine Le.of ?_ ?_ rfl rfl <;> (try simp only [push_cast, seval, List.length_map, hwn]) <;> (try (with_reducible rfl)))
    all_goals rfl
  · simp
  · intro k hk
    have hrl := rowsT_len U k
    have hrs := rowsT_snoc U k
    by_cases hkb : k < W
    · have e1 : decide ((k : Int) < (W : Int)) = true := decide_eq_true (by omega)
      generalize rowsT U k = R at hrl hrs
      repeat (first | apply Wp.seq | apply Wp.block | (apply Run.next; (simp only [push_cast, seval, List.length_map, hwn, e1] <;> (try simp (disch := omega) only [wI, wU, wC]) <;> exact rfl); (focus ((try simp only [push_cast, seval, List.length_map, hwn, e1]) <;> exact sT))) | ((first | apply Run.nil | apply Wp.skip); dsimp only [sQ, tQ, bQ]) | (apply Wp.run; (dsimp only [List.map] <;> exact rfl); exact rfl) | (apply Wp.exit; dsimp only [sQ, tQ, bQ]; simp only [reduceIte]) | (apply Run.gtrue; (simp only [push_cast, seval, List.length_map, hwn, e1] <;> (try simp (disch := omega) only [wI, wU, wC]) <;> exact rfl); (simp only [push_cast, seval, List.length_map, hwn, e1] <;> (try simp (disch := omega) only [wI, wU, wC]) <;> exact rfl)) | (apply Run.gfalse (.bool false); (simp only [push_cast, seval, List.length_map, hwn, e1] <;> (try simp (disch := omega) only [wI, wU, wC]) <;> exact rfl); dsimp only [S.put, optG]) | (apply Wp.condT; (simp only [push_cast, seval, List.length_map, hwn, e1] <;> (try simp (disch := omega) only [wI, wU, wC]) <;> exact rfl)) | (apply Wp.condF; (simp only [push_cast, seval, List.length_map, hwn, e1] <;> (try simp (disch := omega) only [wI, wU, wC]) <;> exact rfl)))
      refine Wp.loop (fun n : Nat => { t := [(0, .strs U), (3, .osl 0 k 0 k), (4, .int k), (5, .str ⟨(colU U k n).toArray⟩), (6, .int (posU U.length n))], m := [⟨k, .row 1 (R.map AV.str)⟩], n := 37 }) (fun n => n ≤ U.length) (fun n => U.length - n) 0 ?_ ?_ ?_
      · have hp0 : posU U.length 0 = (U.length : Int) - 1 := by unfold posU; omega
        rw [hp0]
        (refine Le.of ?_ ?_ rfl rfl <;> (try simp only [push_cast, seval, List.length_map, hwn, e1]) <;> (try (with_reducible rfl)))
        all_goals rfl
      · omega
      · intro n hn
        have hcs := colU_snoc U k n
        by_cases hnb : n < U.length
        · obtain ⟨j, hj, hj0⟩ : ∃ j : Nat, posU U.length n = (j : Int) ∧ U.length - 1 - n = j := ⟨U.length - 1 - n, by unfold posU; omega, rfl⟩
          have hj1 : posU U.length (n + 1) = (j : Int) - 1 := by unfold posU at hj ⊢; omega
          have hjl : j < U.length := by omega
          have e2 : decide (0 ≤ (j : Int)) = true := decide_eq_true (by omega)
          have hrj := hrow j hjl
          rw [hj0] at hcs
          have hcat := fun l h => strCat l (U.getD j .empty) k h
          generalize hx : U.getD j .empty = x at hcs hrj hcat
          have hcat := hcat (colU U k n) (by omega)
          have hAs : (⟨(colU U k n).toArray⟩ : ByteArray).size = n := by
            show (colU U k n).toArray.size = _
            rw [List.size_toArray, colU_len]
          have hEs : (x.extract k (k + 1)).size ≤ 1 := by rw [ByteArray.size_extract]; omega
          generalize colU U k n = G at hcs hcat hAs
          generalize (⟨G.toArray⟩ : ByteArray) = A at hcat hAs
          generalize hE : x.extract k (k + 1) = E at hcat hEs
          repeat (first | apply Wp.seq | apply Wp.block | (apply Run.next; (simp only [push_cast, seval, List.length_map, e2, hj, hx, hE] <;> (try simp (disch := omega) only [wI, wU, wC]) <;> exact rfl); (focus ((try simp only [push_cast, seval, List.length_map, e2, hj, hx, hE]) <;> exact sT))) | ((first | apply Run.nil | apply Wp.skip); dsimp only [sQ, tQ, bQ]) | (apply Wp.run; (dsimp only [List.map] <;> exact rfl); exact rfl) | (apply Wp.exit; dsimp only [sQ, tQ, bQ]; simp only [reduceIte]) | (apply Run.gtrue; (simp only [push_cast, seval, List.length_map, e2, hj, hx, hE] <;> (try simp (disch := omega) only [wI, wU, wC]) <;> exact rfl); (simp only [push_cast, seval, List.length_map, e2, hj, hx, hE] <;> (try simp (disch := omega) only [wI, wU, wC]) <;> exact rfl)) | (apply Run.gfalse (.bool false); (simp only [push_cast, seval, List.length_map, e2, hj, hx, hE] <;> (try simp (disch := omega) only [wI, wU, wC]) <;> exact rfl); dsimp only [S.put, optG]) | (apply Wp.condT; (simp only [push_cast, seval, List.length_map, e2, hj, hx, hE] <;> (try simp (disch := omega) only [wI, wU, wC]) <;> exact rfl)) | (apply Wp.condF; (simp only [push_cast, seval, List.length_map, e2, hj, hx, hE] <;> (try simp (disch := omega) only [wI, wU, wC]) <;> exact rfl)))
          refine ⟨n + 1, ?_, by omega, by omega⟩
          rw [hcs, hj1, ← hcat]
          (refine Le.of ?_ ?_ rfl rfl <;> (try simp only [push_cast, seval, List.length_map, e2, hj, hx, hE]) <;> (try (with_reducible rfl)))
          all_goals (first | rfl | trivial)
        · obtain rfl : n = U.length := by omega
          have hj : posU U.length U.length = -1 := by unfold posU; omega
          have e2 : decide (0 ≤ (-1 : Int)) = false := rfl
          have hrt : (⟨(colU U k U.length).toArray⟩ : ByteArray) = rowT U k := rfl
          rw [hrt]
          generalize rowT U k = T at hrs
          repeat (first | apply Wp.seq | apply Wp.block | (apply Run.next; (simp only [push_cast, seval, List.length_map, e2, hj, hrl] <;> (try simp (disch := omega) only [wI, wU, wC]) <;> exact rfl); (focus ((try simp only [push_cast, seval, List.length_map, e2, hj, hrl]) <;> exact sT))) | ((first | apply Run.nil | apply Wp.skip); dsimp only [sQ, tQ, bQ]) | (apply Wp.run; (dsimp only [List.map] <;> exact rfl); exact rfl) | (apply Wp.exit; dsimp only [sQ, tQ, bQ]; simp only [reduceIte]) | (apply Run.gtrue; (simp only [push_cast, seval, List.length_map, e2, hj, hrl] <;> (try simp (disch := omega) only [wI, wU, wC]) <;> exact rfl); (simp only [push_cast, seval, List.length_map, e2, hj, hrl] <;> (try simp (disch := omega) only [wI, wU, wC]) <;> exact rfl)) | (apply Run.gfalse (.bool false); (simp only [push_cast, seval, List.length_map, e2, hj, hrl] <;> (try simp (disch := omega) only [wI, wU, wC]) <;> exact rfl); dsimp only [S.put, optG]) | (apply Wp.condT; (simp only [push_cast, seval, List.length_map, e2, hj, hrl] <;> (try simp (disch := omega) only [wI, wU, wC]) <;> exact rfl)) | (apply Wp.condF; (simp only [push_cast, seval, List.length_map, e2, hj, hrl] <;> (try simp (disch := omega) only [wI, wU, wC]) <;> exact rfl)))
          refine ⟨k + 1, ?_, by omega, by omega⟩
          rw [hrs]
          (refine Le.of ?_ ?_ rfl rfl <;> (try simp only [push_cast, seval, List.length_map, e2, hj, hrl]) <;> (try (with_reducible rfl)))
          rw [List.take_of_length_le (by rw [hrl]; exact Nat.le_refl _)]
          all_goals trivial
    · obtain rfl : k = W := by omega
      have e1 : decide ((k : Int) < (k : Int)) = false := decide_eq_false (by omega)
      repeat (first | apply Wp.seq | apply Wp.block | (apply Run.next; (simp only [push_cast, seval, List.length_map, hwn, e1, hrl] <;> (try simp (disch := omega) only [wI, wU, wC]) <;> exact rfl); (focus ((try simp only [push_cast, seval, List.length_map, hwn, e1, hrl]) <;> exact sT))) | ((first | apply Run.nil | apply Wp.skip); dsimp only [sQ, tQ, bQ]) | (apply Wp.run; (dsimp only [List.map] <;> exact rfl); exact rfl) | (apply Wp.exit; dsimp only [sQ, tQ, bQ]; simp only [reduceIte]) | (apply Run.gtrue; (simp only [push_cast, seval, List.length_map, hwn, e1, hrl] <;> (try simp (disch := omega) only [wI, wU, wC]) <;> exact rfl); (simp only [push_cast, seval, List.length_map, hwn, e1, hrl] <;> (try simp (disch := omega) only [wI, wU, wC]) <;> exact rfl)) | (apply Run.gfalse (.bool false); (simp only [push_cast, seval, List.length_map, hwn, e1, hrl] <;> (try simp (disch := omega) only [wI, wU, wC]) <;> exact rfl); dsimp only [S.put, optG]) | (apply Wp.condT; (simp only [push_cast, seval, List.length_map, hwn, e1, hrl] <;> (try simp (disch := omega) only [wI, wU, wC]) <;> exact rfl)) | (apply Wp.condF; (simp only [push_cast, seval, List.length_map, hwn, e1, hrl] <;> (try simp (disch := omega) only [wI, wU, wC]) <;> exact rfl)))
      (apply Wp.freeze 2; (simp only [push_cast, seval, List.length_map, hwn, e1, hrl] <;> (try simp (disch := omega) only [wI, wU, wC]) <;> exact rfl); (simp only [push_cast, seval, List.length_map, hwn, e1, hrl] <;> (try simp (disch := omega) only [wI, wU, wC]) <;> exact rfl); (focus (try simp only [push_cast, seval, List.length_map, hwn, e1, hrl]); (try (exact sT))); (focus (exact sT)))
      (apply Wp.ret; (try dsimp only [sQ, tQ, bQ]); apply leave0; exact rfl; (simp only [push_cast, seval, List.length_map, hwn, e1, hrl] <;> (try simp (disch := omega) only [wI, wU, wC]) <;> exact rfl); all_goals (try simp only [push_cast, seval, List.length_map, hwn, e1, hrl]); (try rfl))
      rw [List.take_of_length_le (by rw [hrl]; exact Nat.le_refl _)]
end Go.Proofs.Try
namespace Go.Proofs.Try
open Go.Vg Go.RowKit

set_option maxHeartbeats 1000000 in
set_option maxRecDepth 100000 in
theorem copyCheck_used (b : Nat) (w : World) (h0 : w.cell? ⟨b, 0, none⟩ = some (.pointer (some ⟨b, 0, none⟩))) :
    Calls Try.prog 38 #[.pointer (some ⟨b, 0, none⟩)] w fun e w' => e = .returned (.tuple #[]) ∧ w' = w := by
  obtain ⟨j, hj, _⟩ := tsz_some tsz_55
  go_enter Try.func38, Try.ntmps38
  go_wp2
  rw [Lib.run_neq_ptr_same w _ Try.underlying53 hj]
  go_wp2
  go_end0
  exact ⟨rfl, rfl⟩
set_option maxHeartbeats 1000000 in
set_option maxRecDepth 100000 in
theorem copyCheck_fresh (b : Nat) (w : World) (h0 : w.cell? ⟨b, 0, none⟩ = some (.pointer none)) (hsh : w.shape? b = some (55, 2)) (hfz : w.frozen? ⟨b, 0, none⟩ = false) :
    Calls Try.prog 38 #[.pointer (some ⟨b, 0, none⟩)] w fun e w' => e = .returned (.tuple #[]) ∧ w' = w.setCell ⟨b, 0, none⟩ (.pointer (some ⟨b, 0, none⟩)) := by
  obtain ⟨j, hj, hjs⟩ := tsz_some tsz_55
  go_enter Try.func38, Try.ntmps38
  go_wp2
  rw [Lib.run_to_unsafe w ⟨b, 0, none⟩ Try.underlying53 Try.underlying76 hj (by rw [hjs]; decide) hsh (Nat.zero_lt_succ 1)]
  simp only [Result.andThen]
  rw [Oper.upon_value]
  go_wp2
  rw [run_callFunc_extern Try.func46 (by kernel_rfl) (by kernel_rfl) (by kernel_rfl) (e := Extern.AbiNoEscape.same) (by kernel_rfl)]
  rw [Lib.run_noEscape]
  simp only [Result.andThen]
  rw [Oper.upon_value]
  go_wp2
  rw [Lib.run_from_unsafe w ⟨b, 0, none⟩ Try.underlying76 Try.underlying53 hj hsh (by kernel_rfl)]
  simp only [Result.andThen]
  rw [Oper.upon_value]
  go_wp2
  go_end0
  exact ⟨rfl, rfl⟩
end Go.Proofs.Try
