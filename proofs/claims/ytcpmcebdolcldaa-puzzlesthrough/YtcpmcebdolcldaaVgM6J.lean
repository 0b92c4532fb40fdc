/- A part of the proof of PuzzlesThrough: contracts of functions, with plain laws that they need. -/
import Derived.Test.YtcpmcebdolcldaaVgFt
import Derived.Test.YtcpmcebdolcldaaVgEa
import Derived.Shelf.Sort.Plain
import Derived.Shelf.Slices.In.SortNone
import Derived.Test.YtcpmcebdolcldaaVgT
import Derived.Test.YtcpmcebdolcldaaVgM5
set_option linter.all false
set_option maxHeartbeats 8000000
namespace Go.Proofs.Try
open Go.Vg

/-- a valid maze -/
theorem maze_is {w h : Int} {W : List Bool} {fr to : Int} (hm : mazeB w h W fr to = true) : MZ w h W ∧ ∃ a b : Nat, fr = (a : Int) ∧ to = (b : Int) ∧ a < W.length ∧ b < W.length ∧ W.getD a false = false ∧ W.getD b false = false := by
  unfold mazeB at hm
  simp only [Bool.and_eq_true, Bool.not_eq_true'] at hm
  obtain ⟨h1, ⟨h2, h3⟩, h4, h5⟩ := hm
  have h2 := inM_iff.1 h2
  have h3 := inM_iff.1 h3
  exact ⟨mz_of h1, fr.toNat, to.toNat, by omega, by omega, by omega, by omega, h4, h5⟩
/-! Roll -/
def mvB (l : List Int) : Bool := decide ((l.length : Int) ≤ 200) && l.all fun n => inM n 0 3
def mvW (l : List Int) : List Nat := l.map fun n => n.toNat
def rollV (w h : Int) (W : List Bool) (fr to : Int) (l : List Int) : Int × Int := if mazeB w h W fr to = true then (if mvB l = true then (((endW (rlC w h W) fr.toNat (mvW l) : Nat) : Int), 0) else (0, 1)) else (0, 30)
theorem roll1_pure (n : Int) : Pure Try.prog 35 [.int n] (.bool (!inM n 0 3)) := by
  (refine Spec.of_body Try.func35 rfl (by rw [Try.ntmps35]; simp) 0 (by simp) ?_; rw [Try.results35, Try.ntmps35]; simp only [entry, zipArgs, Nat.reduceAdd])
  repeat (first | apply Wp.seq | apply Wp.block | (apply Run.next; (simp only [push_cast, seval] <;> (try simp (disch := omega) only [wI, wU, wC]) <;> exact rfl); (focus ((try simp only [push_cast, seval]) <;> exact sT))) | ((first | apply Run.nil | apply Wp.skip); dsimp only [sQ, tQ, bQ]) | (apply Wp.run; (dsimp only [List.map] <;> exact rfl); exact rfl) | (apply Wp.exit; dsimp only [sQ, tQ, bQ]; simp only [reduceIte]))
  (apply Run.pureP; (simp only [push_cast, seval] <;> (try simp (disch := omega) only [wI, wU, wC]) <;> exact rfl); (exact (Enters.of Try.func24 rfl rfl)); (exact within_pure _ _ _); (focus (simp only [push_cast, seval] <;> first | trivial | assumption | (refine ⟨?_, ?_⟩ <;> assumption) | (simp; done))); (try dsimp only [putA, optG]))
  repeat (first | apply Wp.seq | apply Wp.block | (apply Run.next; (simp only [push_cast, seval] <;> (try simp (disch := omega) only [wI, wU, wC]) <;> exact rfl); (focus ((try simp only [push_cast, seval]) <;> exact sT))) | ((first | apply Run.nil | apply Wp.skip); dsimp only [sQ, tQ, bQ]) | (apply Wp.run; (dsimp only [List.map] <;> exact rfl); exact rfl) | (apply Wp.exit; dsimp only [sQ, tQ, bQ]; simp only [reduceIte]))
  (apply Wp.ret; (try dsimp only [sQ, tQ, bQ]); apply leave0; exact rfl; (simp only [push_cast, seval] <;> (try simp (disch := omega) only [wI, wU, wC]) <;> exact rfl); all_goals (try simp only [push_cast, seval]); (try rfl))
theorem mvW_snoc {l : List Int} {k : Nat} (hk : k < l.length) : mvW (l.take (k + 1)) = mvW (l.take k) ++ [(l.getD k 0).toNat] := by
  unfold mvW
  rw [List.take_add_one, List.map_append]
  simp [hk]
theorem endW_lt {w h : Int} {W : List Bool} (hz : MZ w h W) : ∀ (v : List Nat) (c : Nat), c < W.length → endW (rlC w h W) c v < W.length
  | [], c, h => h
  | s :: v, c, h => endW_lt hz v _ (rl_lt hz h)
theorem Roll_pure (w h fr to : Int) (W : List Bool) (l : List Int) (hl : l.length ≤ 9223372036854775807) : Pure Try.prog 17 [meA w h W fr to, .ints l] (.tup [.int (rollV w h W fr to l).1, .int (rollV w h W fr to l).2]) := by
  have hnm := newMaze_pure w h fr to W
  cases hm : mazeB w h W fr to with
  | false =>
    rw [hm] at hnm
    rw [show rollV w h W fr to l = (0, 30) from by unfold rollV; rw [hm]; rfl]
    (refine Spec.of_body Try.func17 rfl (by rw [Try.ntmps17]; simp) 0 (by simp) ?_; rw [Try.results17, Try.ntmps17]; simp only [entry, zipArgs, Nat.reduceAdd])
    repeat (first | apply Wp.seq | apply Wp.block | (apply Run.next; (simp only [push_cast, seval] <;> (try simp (disch := omega) only [wI, wU, wC]) <;> exact rfl); (focus ((try simp only [push_cast, seval]) <;> exact sT))) | ((first | apply Run.nil | apply Wp.skip); dsimp only [sQ, tQ, bQ]) | (apply Wp.run; (dsimp only [List.map] <;> exact rfl); exact rfl) | (apply Wp.exit; dsimp only [sQ, tQ, bQ]; simp only [reduceIte]) | (apply Run.gtrue; (simp only [push_cast, seval] <;> (try simp (disch := omega) only [wI, wU, wC]) <;> exact rfl); (simp only [push_cast, seval] <;> (try simp (disch := omega) only [wI, wU, wC]) <;> exact rfl)) | (apply Run.gfalse (.bool false); (simp only [push_cast, seval] <;> (try simp (disch := omega) only [wI, wU, wC]) <;> exact rfl); dsimp only [S.put, optG]) | (apply Wp.condT; (simp only [push_cast, seval] <;> (try simp (disch := omega) only [wI, wU, wC]) <;> exact rfl)) | (apply Wp.condF; (simp only [push_cast, seval] <;> (try simp (disch := omega) only [wI, wU, wC]) <;> exact rfl)))
    (apply Run.pureFP; (simp only [push_cast, seval] <;> (try simp (disch := omega) only [wI, wU, wC]) <;> exact rfl); (exact (Enters.of Try.func33 rfl rfl)); (exact hnm); (focus (simp only [push_cast, seval] <;> first | trivial | assumption | (refine ⟨?_, ?_⟩ <;> assumption) | (simp; done))); (try dsimp only [putA, optG]))
    repeat (first | apply Wp.seq | apply Wp.block | (apply Run.next; (simp only [push_cast, seval] <;> (try simp (disch := omega) only [wI, wU, wC]) <;> exact rfl); (focus ((try simp only [push_cast, seval]) <;> exact sT))) | ((first | apply Run.nil | apply Wp.skip); dsimp only [sQ, tQ, bQ]) | (apply Wp.run; (dsimp only [List.map] <;> exact rfl); exact rfl) | (apply Wp.exit; dsimp only [sQ, tQ, bQ]; simp only [reduceIte]) | (apply Run.gtrue; (simp only [push_cast, seval] <;> (try simp (disch := omega) only [wI, wU, wC]) <;> exact rfl); (simp only [push_cast, seval] <;> (try simp (disch := omega) only [wI, wU, wC]) <;> exact rfl)) | (apply Run.gfalse (.bool false); (simp only [push_cast, seval] <;> (try simp (disch := omega) only [wI, wU, wC]) <;> exact rfl); dsimp only [S.put, optG]) | (apply Wp.condT; (simp only [push_cast, seval] <;> (try simp (disch := omega) only [wI, wU, wC]) <;> exact rfl)) | (apply Wp.condF; (simp only [push_cast, seval] <;> (try simp (disch := omega) only [wI, wU, wC]) <;> exact rfl)))
    (apply Wp.ret; (try dsimp only [sQ, tQ, bQ]); apply leave0; exact rfl; (simp only [push_cast, seval] <;> (try simp (disch := omega) only [wI, wU, wC]) <;> exact rfl); all_goals (try simp only [push_cast, seval]); (try rfl))
  | true =>
    rw [hm] at hnm
    cases hlen : decide ((l.length : Int) ≤ 200) with
    | false =>
      have hlen' : decide (200 < (l.length : Int)) = true := decide_eq_true (by have := of_decide_eq_false hlen; omega)
      rw [show rollV w h W fr to l = (0, 1) from by unfold rollV mvB; rw [hm, hlen]; rfl]
      (refine Spec.of_body Try.func17 rfl (by rw [Try.ntmps17]; simp) 0 (by simp) ?_; rw [Try.results17, Try.ntmps17]; simp only [entry, zipArgs, Nat.reduceAdd])
      repeat (first | apply Wp.seq | apply Wp.block | (apply Run.next; (simp only [push_cast, seval, List.length_map, hlen'] <;> (try simp (disch := omega) only [wI, wU, wC]) <;> exact rfl); (focus ((try simp only [push_cast, seval, List.length_map, hlen']) <;> exact sT))) | ((first | apply Run.nil | apply Wp.skip); dsimp only [sQ, tQ, bQ]) | (apply Wp.run; (dsimp only [List.map] <;> exact rfl); exact rfl) | (apply Wp.exit; dsimp only [sQ, tQ, bQ]; simp only [reduceIte]) | (apply Run.gtrue; (simp only [push_cast, seval, List.length_map, hlen'] <;> (try simp (disch := omega) only [wI, wU, wC]) <;> exact rfl); (simp only [push_cast, seval, List.length_map, hlen'] <;> (try simp (disch := omega) only [wI, wU, wC]) <;> exact rfl)) | (apply Run.gfalse (.bool false); (simp only [push_cast, seval, List.length_map, hlen'] <;> (try simp (disch := omega) only [wI, wU, wC]) <;> exact rfl); dsimp only [S.put, optG]) | (apply Wp.condT; (simp only [push_cast, seval, List.length_map, hlen'] <;> (try simp (disch := omega) only [wI, wU, wC]) <;> exact rfl)) | (apply Wp.condF; (simp only [push_cast, seval, List.length_map, hlen'] <;> (try simp (disch := omega) only [wI, wU, wC]) <;> exact rfl)))
      (apply Run.pureFP; (simp only [push_cast, seval, List.length_map, hlen'] <;> (try simp (disch := omega) only [wI, wU, wC]) <;> exact rfl); (exact (Enters.of Try.func33 rfl rfl)); (exact hnm); (focus (simp only [push_cast, seval, List.length_map, hlen'] <;> first | trivial | assumption | (refine ⟨?_, ?_⟩ <;> assumption) | (simp; done))); (try dsimp only [putA, optG]))
      repeat (first | apply Wp.seq | apply Wp.block | (apply Run.next; (simp only [push_cast, seval, List.length_map, hlen'] <;> (try simp (disch := omega) only [wI, wU, wC]) <;> exact rfl); (focus ((try simp only [push_cast, seval, List.length_map, hlen']) <;> exact sT))) | ((first | apply Run.nil | apply Wp.skip); dsimp only [sQ, tQ, bQ]) | (apply Wp.run; (dsimp only [List.map] <;> exact rfl); exact rfl) | (apply Wp.exit; dsimp only [sQ, tQ, bQ]; simp only [reduceIte]) | (apply Run.gtrue; (simp only [push_cast, seval, List.length_map, hlen'] <;> (try simp (disch := omega) only [wI, wU, wC]) <;> exact rfl); (simp only [push_cast, seval, List.length_map, hlen'] <;> (try simp (disch := omega) only [wI, wU, wC]) <;> exact rfl)) | (apply Run.gfalse (.bool false); (simp only [push_cast, seval, List.length_map, hlen'] <;> (try simp (disch := omega) only [wI, wU, wC]) <;> exact rfl); dsimp only [S.put, optG]) | (apply Wp.condT; (simp only [push_cast, seval, List.length_map, hlen'] <;> (try simp (disch := omega) only [wI, wU, wC]) <;> exact rfl)) | (apply Wp.condF; (simp only [push_cast, seval, List.length_map, hlen'] <;> (try simp (disch := omega) only [wI, wU, wC]) <;> exact rfl)))
      (apply Wp.ret; (try dsimp only [sQ, tQ, bQ]); apply leave0; exact rfl; (simp only [push_cast, seval, List.length_map, hlen'] <;> (try simp (disch := omega) only [wI, wU, wC]) <;> exact rfl); all_goals (try simp only [push_cast, seval, List.length_map, hlen']); (try rfl))
    | true =>
      have hlen' : decide (200 < (l.length : Int)) = false := decide_eq_false (by have := of_decide_eq_true hlen; omega)
      have hl2 := of_decide_eq_true hlen
      have hcf := containsFunc_pure l 35 [] _ (Enters.of Try.func35 rfl rfl) trivial (fun _ => ⟨rfl, rfl⟩) (fun x _ => roll1_pure x) hl
      cases hall : l.any (fun n => !inM n 0 3) with
      | true =>
        rw [hall] at hcf
        have hbad : (l.all fun n => inM n 0 3) = false := by
          rw [← Bool.not_eq_true, List.all_eq_true]
          intro h'
          obtain ⟨x, hx, hx2⟩ := List.any_eq_true.1 hall
          rw [h' x hx] at hx2; cases hx2
        rw [show rollV w h W fr to l = (0, 1) from by unfold rollV mvB; rw [hm, hlen, hbad]; rfl]
        (refine Spec.of_body Try.func17 rfl (by rw [Try.ntmps17]; simp) 0 (by simp) ?_; rw [Try.results17, Try.ntmps17]; simp only [entry, zipArgs, Nat.reduceAdd])
        repeat (first | apply Wp.seq | apply Wp.block | (apply Run.next; (simp only [push_cast, seval, List.length_map, hlen'] <;> (try simp (disch := omega) only [wI, wU, wC]) <;> exact rfl); (focus ((try simp only [push_cast, seval, List.length_map, hlen']) <;> exact sT))) | ((first | apply Run.nil | apply Wp.skip); dsimp only [sQ, tQ, bQ]) | (apply Wp.run; (dsimp only [List.map] <;> exact rfl); exact rfl) | (apply Wp.exit; dsimp only [sQ, tQ, bQ]; simp only [reduceIte]) | (apply Run.gtrue; (simp only [push_cast, seval, List.length_map, hlen'] <;> (try simp (disch := omega) only [wI, wU, wC]) <;> exact rfl); (simp only [push_cast, seval, List.length_map, hlen'] <;> (try simp (disch := omega) only [wI, wU, wC]) <;> exact rfl)) | (apply Run.gfalse (.bool false); (simp only [push_cast, seval, List.length_map, hlen'] <;> (try simp (disch := omega) only [wI, wU, wC]) <;> exact rfl); dsimp only [S.put, optG]) | (apply Wp.condT; (simp only [push_cast, seval, List.length_map, hlen'] <;> (try simp (disch := omega) only [wI, wU, wC]) <;> exact rfl)) | (apply Wp.condF; (simp only [push_cast, seval, List.length_map, hlen'] <;> (try simp (disch := omega) only [wI, wU, wC]) <;> exact rfl)))
        (apply Run.pureFP; (simp only [push_cast, seval, List.length_map, hlen'] <;> (try simp (disch := omega) only [wI, wU, wC]) <;> exact rfl); (exact (Enters.of Try.func33 rfl rfl)); (exact hnm); (focus (simp only [push_cast, seval, List.length_map, hlen'] <;> first | trivial | assumption | (refine ⟨?_, ?_⟩ <;> assumption) | (simp; done))); (try dsimp only [putA, optG]))
        repeat (first | apply Wp.seq | apply Wp.block | (apply Run.next; (simp only [push_cast, seval, List.length_map, hlen'] <;> (try simp (disch := omega) only [wI, wU, wC]) <;> exact rfl); (focus ((try simp only [push_cast, seval, List.length_map, hlen']) <;> exact sT))) | ((first | apply Run.nil | apply Wp.skip); dsimp only [sQ, tQ, bQ]) | (apply Wp.run; (dsimp only [List.map] <;> exact rfl); exact rfl) | (apply Wp.exit; dsimp only [sQ, tQ, bQ]; simp only [reduceIte]) | (apply Run.gtrue; (simp only [push_cast, seval, List.length_map, hlen'] <;> (try simp (disch := omega) only [wI, wU, wC]) <;> exact rfl); (simp only [push_cast, seval, List.length_map, hlen'] <;> (try simp (disch := omega) only [wI, wU, wC]) <;> exact rfl)) | (apply Run.gfalse (.bool false); (simp only [push_cast, seval, List.length_map, hlen'] <;> (try simp (disch := omega) only [wI, wU, wC]) <;> exact rfl); dsimp only [S.put, optG]) | (apply Wp.condT; (simp only [push_cast, seval, List.length_map, hlen'] <;> (try simp (disch := omega) only [wI, wU, wC]) <;> exact rfl)) | (apply Wp.condF; (simp only [push_cast, seval, List.length_map, hlen'] <;> (try simp (disch := omega) only [wI, wU, wC]) <;> exact rfl)))
        (apply Run.pureP; (simp only [push_cast, seval, List.length_map, hlen'] <;> (try simp (disch := omega) only [wI, wU, wC]) <;> exact rfl); (exact (Enters.of Try.func34 rfl rfl)); (exact hcf); (focus (simp only [push_cast, seval, List.length_map, hlen'] <;> first | trivial | assumption | (refine ⟨?_, ?_⟩ <;> assumption) | (simp; done))); (try dsimp only [putA, optG]))
        repeat (first | apply Wp.seq | apply Wp.block | (apply Run.next; (simp only [push_cast, seval, List.length_map, hlen'] <;> (try simp (disch := omega) only [wI, wU, wC]) <;> exact rfl); (focus ((try simp only [push_cast, seval, List.length_map, hlen']) <;> exact sT))) | ((first | apply Run.nil | apply Wp.skip); dsimp only [sQ, tQ, bQ]) | (apply Wp.run; (dsimp only [List.map] <;> exact rfl); exact rfl) | (apply Wp.exit; dsimp only [sQ, tQ, bQ]; simp only [reduceIte]) | (apply Run.gtrue; (simp only [push_cast, seval, List.length_map, hlen'] <;> (try simp (disch := omega) only [wI, wU, wC]) <;> exact rfl); (simp only [push_cast, seval, List.length_map, hlen'] <;> (try simp (disch := omega) only [wI, wU, wC]) <;> exact rfl)) | (apply Run.gfalse (.bool false); (simp only [push_cast, seval, List.length_map, hlen'] <;> (try simp (disch := omega) only [wI, wU, wC]) <;> exact rfl); dsimp only [S.put, optG]) | (apply Wp.condT; (simp only [push_cast, seval, List.length_map, hlen'] <;> (try simp (disch := omega) only [wI, wU, wC]) <;> exact rfl)) | (apply Wp.condF; (simp only [push_cast, seval, List.length_map, hlen'] <;> (try simp (disch := omega) only [wI, wU, wC]) <;> exact rfl)))
        (apply Wp.ret; (try dsimp only [sQ, tQ, bQ]); apply leave0; exact rfl; (simp only [push_cast, seval, List.length_map, hlen'] <;> (try simp (disch := omega) only [wI, wU, wC]) <;> exact rfl); all_goals (try simp only [push_cast, seval, List.length_map, hlen']); (try rfl))
      | false =>
        rw [hall] at hcf
        have hgood : (l.all fun n => inM n 0 3) = true := by
          rw [List.all_eq_true]
          intro x hx
          cases hx2 : inM x 0 3 with
          | true => rfl
          | false =>
            have : l.any (fun n => !inM n 0 3) = true := List.any_eq_true.2 ⟨x, hx, by rw [hx2]; rfl⟩
            rw [hall] at this; cases this
        have hv : rollV w h W fr to l = (((endW (rlC w h W) fr.toNat (mvW l) : Nat) : Int), 0) := by unfold rollV mvB; rw [hm, hlen, hgood]; rfl
        rw [hv]
        obtain ⟨hz, a, b, rfl, rfl, hal, hbl, _, _⟩ := maze_is hm
        rw [Int.toNat_natCast]
        (refine Spec.of_body Try.func17 rfl (by rw [Try.ntmps17]; simp) 0 (by simp) ?_; rw [Try.results17, Try.ntmps17]; simp only [entry, zipArgs, Nat.reduceAdd])
        repeat (first | apply Wp.seq | apply Wp.block | (apply Run.next; (simp only [push_cast, seval, List.length_map, hlen'] <;> (try simp (disch := omega) only [wI, wU, wC]) <;> exact rfl); (focus ((try simp only [push_cast, seval, List.length_map, hlen']) <;> exact sT))) | ((first | apply Run.nil | apply Wp.skip); dsimp only [sQ, tQ, bQ]) | (apply Wp.run; (dsimp only [List.map] <;> exact rfl); exact rfl) | (apply Wp.exit; dsimp only [sQ, tQ, bQ]; simp only [reduceIte]) | (apply Run.gtrue; (simp only [push_cast, seval, List.length_map, hlen'] <;> (try simp (disch := omega) only [wI, wU, wC]) <;> exact rfl); (simp only [push_cast, seval, List.length_map, hlen'] <;> (try simp (disch := omega) only [wI, wU, wC]) <;> exact rfl)) | (apply Run.gfalse (.bool false); (simp only [push_cast, seval, List.length_map, hlen'] <;> (try simp (disch := omega) only [wI, wU, wC]) <;> exact rfl); dsimp only [S.put, optG]) | (apply Wp.condT; (simp only [push_cast, seval, List.length_map, hlen'] <;> (try simp (disch := omega) only [wI, wU, wC]) <;> exact rfl)) | (apply Wp.condF; (simp only [push_cast, seval, List.length_map, hlen'] <;> (try simp (disch := omega) only [wI, wU, wC]) <;> exact rfl)))
        (apply Run.pureFP; (simp only [push_cast, seval, List.length_map, hlen'] <;> (try simp (disch := omega) only [wI, wU, wC]) <;> exact rfl); (exact (Enters.of Try.func33 rfl rfl)); (exact hnm); (focus (simp only [push_cast, seval, List.length_map, hlen'] <;> first | trivial | assumption | (refine ⟨?_, ?_⟩ <;> assumption) | (simp; done))); (try dsimp only [putA, optG]))
        repeat (first | apply Wp.seq | apply Wp.block | (apply Run.next; (simp only [push_cast, seval, List.length_map, hlen'] <;> (try simp (disch := omega) only [wI, wU, wC]) <;> exact rfl); (focus ((try simp only [push_cast, seval, List.length_map, hlen']) <;> exact sT))) | ((first | apply Run.nil | apply Wp.skip); dsimp only [sQ, tQ, bQ]) | (apply Wp.run; (dsimp only [List.map] <;> exact rfl); exact rfl) | (apply Wp.exit; dsimp only [sQ, tQ, bQ]; simp only [reduceIte]) | (apply Run.gtrue; (simp only [push_cast, seval, List.length_map, hlen'] <;> (try simp (disch := omega) only [wI, wU, wC]) <;> exact rfl); (simp only [push_cast, seval, List.length_map, hlen'] <;> (try simp (disch := omega) only [wI, wU, wC]) <;> exact rfl)) | (apply Run.gfalse (.bool false); (simp only [push_cast, seval, List.length_map, hlen'] <;> (try simp (disch := omega) only [wI, wU, wC]) <;> exact rfl); dsimp only [S.put, optG]) | (apply Wp.condT; (simp only [push_cast, seval, List.length_map, hlen'] <;> (try simp (disch := omega) only [wI, wU, wC]) <;> exact rfl)) | (apply Wp.condF; (simp only [push_cast, seval, List.length_map, hlen'] <;> (try simp (disch := omega) only [wI, wU, wC]) <;> exact rfl)))
        (apply Run.pureP; (simp only [push_cast, seval, List.length_map, hlen'] <;> (try simp (disch := omega) only [wI, wU, wC]) <;> exact rfl); (exact (Enters.of Try.func34 rfl rfl)); (exact hcf); (focus (simp only [push_cast, seval, List.length_map, hlen'] <;> first | trivial | assumption | (refine ⟨?_, ?_⟩ <;> assumption) | (simp; done))); (try dsimp only [putA, optG]))
        repeat (first | apply Wp.seq | apply Wp.block | (apply Run.next; (simp only [push_cast, seval, List.length_map, hlen'] <;> (try simp (disch := omega) only [wI, wU, wC]) <;> exact rfl); (focus ((try simp only [push_cast, seval, List.length_map, hlen']) <;> exact sT))) | ((first | apply Run.nil | apply Wp.skip); dsimp only [sQ, tQ, bQ]) | (apply Wp.run; (dsimp only [List.map] <;> exact rfl); exact rfl) | (apply Wp.exit; dsimp only [sQ, tQ, bQ]; simp only [reduceIte]) | (apply Run.gtrue; (simp only [push_cast, seval, List.length_map, hlen'] <;> (try simp (disch := omega) only [wI, wU, wC]) <;> exact rfl); (simp only [push_cast, seval, List.length_map, hlen'] <;> (try simp (disch := omega) only [wI, wU, wC]) <;> exact rfl)) | (apply Run.gfalse (.bool false); (simp only [push_cast, seval, List.length_map, hlen'] <;> (try simp (disch := omega) only [wI, wU, wC]) <;> exact rfl); dsimp only [S.put, optG]) | (apply Wp.condT; (simp only [push_cast, seval, List.length_map, hlen'] <;> (try simp (disch := omega) only [wI, wU, wC]) <;> exact rfl)) | (apply Wp.condF; (simp only [push_cast, seval, List.length_map, hlen'] <;> (try simp (disch := omega) only [wI, wU, wC]) <;> exact rfl)))
        refine Wp.loop (fun k : Nat => { t := [(6, .optr 1 0 0 0), (8, .int (endW (rlC w h W) a (mvW (l.take k)) : Nat)), (27, .ints l), (28, .int l.length), (29, .int k)], m := [⟨0, .row 5 [meA w h W a b]⟩, ⟨0, .row 7 [mzA w h W a b]⟩], n := 39 }) (fun k => k ≤ l.length) (fun k => l.length - k) 0 ?_ ?_ ?_
        · (refine Le.of ?_ ?_ rfl rfl <;> (try simp only [push_cast, seval, List.length_map, hlen']) <;> (try (with_reducible rfl)))
          all_goals rfl
        · omega
        · intro k hk
          by_cases hkb : k < l.length
          · have e1 : decide ((k : Int) < (l.length : Int)) = true := decide_eq_true (by omega)
            have hs := mvW_snoc hkb
            have hc := endW_lt hz (mvW (l.take k)) a hal
            have hx : inM (l.getD k 0) 0 3 = true := List.all_eq_true.1 hgood _ (mem_getD hkb)
            have hx := inM_iff.1 hx
            have he := endW_app (rlC w h W) (mvW (l.take k)) [(l.getD k 0).toNat] a
            rw [← hs] at he
            generalize endW (rlC w h W) a (mvW (l.take k)) = c at hc he
            obtain ⟨sd, hsd⟩ : ∃ sd : Nat, l.getD k 0 = (sd : Int) := ⟨(l.getD k 0).toNat, by omega⟩
            rw [hsd] at hx
            have hr := roll_pure hz a b c sd hc (by omega)
            rw [hsd, Int.toNat_natCast] at he
            repeat (first | apply Wp.seq | apply Wp.block | (apply Run.next; (simp only [push_cast, seval, List.length_map, hlen', e1, hsd] <;> (try simp (disch := omega) only [wI, wU, wC]) <;> exact rfl); (focus ((try simp only [push_cast, seval, List.length_map, hlen', e1, hsd]) <;> exact sT))) | ((first | apply Run.nil | apply Wp.skip); dsimp only [sQ, tQ, bQ]) | (apply Wp.run; (dsimp only [List.map] <;> exact rfl); exact rfl) | (apply Wp.exit; dsimp only [sQ, tQ, bQ]; simp only [reduceIte]) | (apply Run.gtrue; (simp only [push_cast, seval, List.length_map, hlen', e1, hsd] <;> (try simp (disch := omega) only [wI, wU, wC]) <;> exact rfl); (simp only [push_cast, seval, List.length_map, hlen', e1, hsd] <;> (try simp (disch := omega) only [wI, wU, wC]) <;> exact rfl)) | (apply Run.gfalse (.bool false); (simp only [push_cast, seval, List.length_map, hlen', e1, hsd] <;> (try simp (disch := omega) only [wI, wU, wC]) <;> exact rfl); dsimp only [S.put, optG]) | (apply Wp.condT; (simp only [push_cast, seval, List.length_map, hlen', e1, hsd] <;> (try simp (disch := omega) only [wI, wU, wC]) <;> exact rfl)) | (apply Wp.condF; (simp only [push_cast, seval, List.length_map, hlen', e1, hsd] <;> (try simp (disch := omega) only [wI, wU, wC]) <;> exact rfl)))
            (apply Run.pureP; (simp only [push_cast, seval, List.length_map, hlen', e1, hsd] <;> (try simp (disch := omega) only [wI, wU, wC]) <;> exact rfl); (exact (Enters.of Try.func36 rfl rfl)); (exact hr); (focus (simp only [push_cast, seval, List.length_map, hlen', e1, hsd] <;> first | trivial | assumption | (refine ⟨?_, ?_⟩ <;> assumption) | (simp; done))); (try dsimp only [putA, optG]))
            repeat (first | apply Wp.seq | apply Wp.block | (apply Run.next; (simp only [push_cast, seval, List.length_map, hlen', e1, hsd] <;> (try simp (disch := omega) only [wI, wU, wC]) <;> exact rfl); (focus ((try simp only [push_cast, seval, List.length_map, hlen', e1, hsd]) <;> exact sT))) | ((first | apply Run.nil | apply Wp.skip); dsimp only [sQ, tQ, bQ]) | (apply Wp.run; (dsimp only [List.map] <;> exact rfl); exact rfl) | (apply Wp.exit; dsimp only [sQ, tQ, bQ]; simp only [reduceIte]) | (apply Run.gtrue; (simp only [push_cast, seval, List.length_map, hlen', e1, hsd] <;> (try simp (disch := omega) only [wI, wU, wC]) <;> exact rfl); (simp only [push_cast, seval, List.length_map, hlen', e1, hsd] <;> (try simp (disch := omega) only [wI, wU, wC]) <;> exact rfl)) | (apply Run.gfalse (.bool false); (simp only [push_cast, seval, List.length_map, hlen', e1, hsd] <;> (try simp (disch := omega) only [wI, wU, wC]) <;> exact rfl); dsimp only [S.put, optG]) | (apply Wp.condT; (simp only [push_cast, seval, List.length_map, hlen', e1, hsd] <;> (try simp (disch := omega) only [wI, wU, wC]) <;> exact rfl)) | (apply Wp.condF; (simp only [push_cast, seval, List.length_map, hlen', e1, hsd] <;> (try simp (disch := omega) only [wI, wU, wC]) <;> exact rfl)))
            refine ⟨k + 1, ?_, by omega, by omega⟩
            rw [he]
            (refine Le.of ?_ ?_ rfl rfl <;> (try simp only [push_cast, seval, List.length_map, hlen', e1, hsd]) <;> (try (with_reducible rfl)))
            all_goals rfl
          · have e1 : decide ((k : Int) < (l.length : Int)) = false := decide_eq_false (by omega)
            repeat (first | apply Wp.seq | apply Wp.block | (apply Run.next; (simp only [push_cast, seval, List.length_map, hlen', e1] <;> (try simp (disch := omega) only [wI, wU, wC]) <;> exact rfl); (focus ((try simp only [push_cast, seval, List.length_map, hlen', e1]) <;> exact sT))) | ((first | apply Run.nil | apply Wp.skip); dsimp only [sQ, tQ, bQ]) | (apply Wp.run; (dsimp only [List.map] <;> exact rfl); exact rfl) | (apply Wp.exit; dsimp only [sQ, tQ, bQ]; simp only [reduceIte]) | (apply Run.gtrue; (simp only [push_cast, seval, List.length_map, hlen', e1] <;> (try simp (disch := omega) only [wI, wU, wC]) <;> exact rfl); (simp only [push_cast, seval, List.length_map, hlen', e1] <;> (try simp (disch := omega) only [wI, wU, wC]) <;> exact rfl)) | (apply Run.gfalse (.bool false); (simp only [push_cast, seval, List.length_map, hlen', e1] <;> (try simp (disch := omega) only [wI, wU, wC]) <;> exact rfl); dsimp only [S.put, optG]) | (apply Wp.condT; (simp only [push_cast, seval, List.length_map, hlen', e1] <;> (try simp (disch := omega) only [wI, wU, wC]) <;> exact rfl)) | (apply Wp.condF; (simp only [push_cast, seval, List.length_map, hlen', e1] <;> (try simp (disch := omega) only [wI, wU, wC]) <;> exact rfl)))
            (apply Wp.ret; (try dsimp only [sQ, tQ, bQ]); apply leave0; exact rfl; (simp only [push_cast, seval, List.length_map, hlen', e1] <;> (try simp (disch := omega) only [wI, wU, wC]) <;> exact rfl); all_goals (try simp only [push_cast, seval, List.length_map, hlen', e1]); (try rfl))
            rw [List.take_of_length_le (by omega)]
end Go.Proofs.Try
set_option maxHeartbeats 8000000
set_option maxRecDepth 20000
namespace Go.Proofs.Try
open Go.Vg

/-! what is reached -/
theorem keyedInt : Maps.Keyed Try.prog 3 := kdB_ok (by kernel_rfl)
theorem goodInt {a : Int} (h : -1000 ≤ a ∧ a ≤ 1000) : goodK Try.prog 3 (.int .i64 a) = true := by
  have := Maps.keyOf_int_mk (P := Try.prog) (k := 3) Try.underlying3 (a := a) (by simp [Lit.wf, IntKind.min, IntKind.max, IntKind.signed, IntKind.bits]; omega)
  simp [goodK, this]
theorem updL_app (l : List (Value × AV)) (k : Value) (x : AV) : findL l k = none → updL l k x = l ++ [(k, x)] := by
  induction l with
  | nil => intro _; rfl
  | cons e l ih =>
    obtain ⟨a, y⟩ := e
    simp only [findL, updL, List.cons_append]
    split
    · intro h; cases h
    · intro h; rw [ih h]
def natI (w : List Nat) : List Int := w.map fun x : Nat => (x : Int)
def mpQ (Q : QL) : List (Value × AV) := Q.map fun p => (.int .i64 (p.1 : Int), AV.ints (natI p.2))
def cqL (Q : QL) : List Int := Q.map fun p => (p.1 : Int)
theorem cqL_len (Q : QL) : (cqL Q).length = Q.length := by simp [cqL]
theorem cqL_getD (Q : QL) (i : Nat) (h : i < Q.length) : (cqL Q).getD i 0 = (qc Q i : Int) := by simp [cqL, qc, h]
theorem findL_mpQ (Q : QL) (c : Nat) : findL (mpQ Q) (.int .i64 (c : Int)) = (wayQ Q c).map fun w => AV.ints (natI w) := by
  unfold wayQ
  induction Q with
  | nil => rfl
  | cons p Q ih =>
    have e : mpQ (p :: Q) = (.int .i64 (p.1 : Int), AV.ints (natI p.2)) :: mpQ Q := rfl
    rw [e, List.find?_cons]
    simp only [findL, eqKey_int]
    by_cases h : p.1 = c
    · have h1 : decide ((p.1 : Int) = (c : Int)) = true := decide_eq_true (by omega)
      have h2 : (p.1 == c) = true := by simpa using h
      rw [h1, h2]; rfl
    · have h1 : decide ((p.1 : Int) = (c : Int)) = false := decide_eq_false (by omega)
      have h2 : (p.1 == c) = false := by simpa using h
      rw [h1, h2]; exact ih
theorem mpQ_app (Q : QL) (c : Nat) (w : List Nat) : mpQ (Q ++ [(c, w)]) = mpQ Q ++ [(.int .i64 (c : Int), AV.ints (natI w))] := by simp [mpQ]
theorem cqL_app (Q : QL) (c : Nat) (w : List Nat) : cqL (Q ++ [(c, w)]) = cqL Q ++ [(c : Int)] := by simp [cqL]
theorem natI_app (w : List Nat) (s : Nat) : natI (w ++ [s]) = natI w ++ [(s : Int)] := by simp [natI]
theorem natI_len (w : List Nat) : (natI w).length = w.length := by simp [natI]
theorem mpQ_good (Q : QL) (n : Nat) (hn : n ≤ 64) (hq : QB n Q) : goodL Try.prog 3 (mpQ Q) = true := by
  induction Q with
  | nil => rfl
  | cons p Q ih =>
    have e : mpQ (p :: Q) = (.int .i64 (p.1 : Int), AV.ints (natI p.2)) :: mpQ Q := rfl
    have h1 := hq p (by simp)
    rw [e]
    simp only [goodL, goodInt (a := (p.1 : Int)) (by omega)]
    exact ih fun q h => hq q (by simp [h])
theorem wayQ_self {R : Nat → Nat → Nat} {b i s : Nat} {Q : QL} (h : BI R b Q i s) {j : Nat} (hj : j < Q.length) : wayQ Q (qc Q j) = some (qw Q j) := by
  cases hw : wayQ Q (qc Q j) with
  | none =>
    have := wayQ_none.1 hw
    rw [← Bool.not_eq_true, knB_iff] at this
    exact absurd ⟨j, hj, rfl⟩ this
  | some w => rw [LW.unique R (wayQ_some R h hw) (h.lw j hj)]
theorem mpQ_ok (Q : QL) : Kind.ok 3 (Kind.mp (mpQ Q)) = True := by
  refine eq_true ?_
  show okL 3 ((mpQ Q).map (·.2))
  unfold mpQ
  rw [List.map_map]
  exact okL_map fun p => ok_ints 3 _
theorem mz_ok (w h : Int) (W : List Bool) (fr to : Int) (k n : Nat) : Kind.ok k (Kind.row n [mzA w h W fr to]) = True := by
  refine eq_true ?_
  exact ⟨⟨trivial, trivial, trivial, trivial, okL_map fun _ => trivial, trivial, trivial, trivial⟩, trivial⟩
def bsN (R : Nat → Nat → Nat) (Q : QL) (i : Nat) : Nat → QL
  | 0 => Q
  | s + 1 => bstep R (bsN R Q i s) i s
theorem bsN_4 (R : Nat → Nat → Nat) (Q : QL) (i : Nat) : bsN R Q i 4 = bcell R Q i := rfl
theorem bsN_is {R : Nat → Nat → Nat} {b i n : Nat} {Q : QL} (hR : ∀ c s, c < n → s < 4 → R c s < n) (h : BI R b Q i 0) (hi : i < Q.length) (hq : QB n Q) : ∀ s, s ≤ 4 → BI R b (bsN R Q i s) i s ∧ QB n (bsN R Q i s) ∧ i < (bsN R Q i s).length
  | 0, _ => ⟨h, hq, hi⟩
  | s + 1, hs => by
    obtain ⟨h1, h2, h3⟩ := bsN_is hR h hi hq s (by omega)
    have := bstep_len R (bsN R Q i s) i s
    exact ⟨h1.step R h3 (by omega), bstep_QB R hR h2 h3 (by omega), by unfold bsN; omega⟩
theorem reached_spec {w h : Int} {W : List Bool} (hz : MZ w h W) (fr to : Int) (b : Nat) (hb : b < W.length) : Go.Vg.Spec Try.prog 39 [mzA w h W fr to, .int b] []
    (fun x m' => x = .tup [.ints (cqL (bfs (rlC w h W) W.length b)), .omap 2 0] ∧ m' = [⟨0, .row 7 [mzA w h W fr to]⟩, ⟨(bfs (rlC w h W) W.length b).length, .row 1 []⟩, ⟨0, .mp (mpQ (bfs (rlC w h W) W.length b))⟩]) := by
  have hR : ∀ c s, c < W.length → s < 4 → rlC w h W c s < W.length := fun c s hc _ => rl_lt hz hc
  have hki : Maps.Keyed Try.prog 3 = True := eq_true keyedInt
  have hn := hz.n2
  generalize hRR : rlC w h W = R at hR
  have e0 : findL [] (.int .i64 (b : Int)) = none := rfl
  have e1 : updL [] (.int .i64 (b : Int)) (.lst 1 []) = [(.int .i64 (b : Int), .lst 1 [])] := rfl
  have e2 : goodK Try.prog 3 (.int .i64 (b : Int)) = true := goodInt (by omega)
  have e3 : goodL Try.prog 3 [] = true := rfl
  (refine Spec.of_body Try.func39 rfl (by rw [Try.ntmps39]; simp) 3 (by simp) ?_; rw [Try.results39, Try.ntmps39]; simp only [entry, zipArgs, Nat.reduceAdd])
  repeat (first | apply Wp.seq | apply Wp.block | (apply Run.calm; exact rfl; (simp only [push_cast, seval, e0, e1, e2, e3, hki] <;> (try simp (disch := omega) only [wI, wU, wC]) <;> exact rfl); (focus ((try simp only [push_cast, seval, e0, e1, e2, e3, hki]) <;> exact sT))) | ((first | apply Run.nil | apply Wp.skip); dsimp only [sQ, tQ, bQ]) | (apply Wp.run; (dsimp only [List.map] <;> exact rfl); exact rfl) | (apply Wp.exit; dsimp only [sQ, tQ, bQ]; simp only [reduceIte]))
  (apply Run.next; (simp only [push_cast, seval, e0, e1, e2, e3, hki] <;> (try simp (disch := omega) only [wI, wU, wC]) <;> exact rfl); (focus ((try simp only [push_cast, seval, e0, e1, e2, e3, hki]) <;> exact sT)))
  (apply Run.next; (simp only [push_cast, seval, e0, e1, e2, e3, hki] <;> (try simp (disch := omega) only [wI, wU, wC]) <;> exact rfl); (focus ((try simp only [push_cast, seval, e0, e1, e2, e3, hki]) <;> exact sT)))
  (apply Run.next; (simp only [push_cast, seval, e0, e1, e2, e3, hki] <;> (try simp (disch := omega) only [wI, wU, wC]) <;> exact rfl); (focus ((try simp only [push_cast, seval, e0, e1, e2, e3, hki]) <;> exact sT)))
  (apply Run.nil; dsimp only [sQ, tQ, bQ])
  (repeat (first | apply Wp.seq | apply Wp.block | (apply Wp.run; (dsimp only [List.map] <;> exact rfl); exact rfl)))
  (apply Run.next; (simp only [push_cast, seval, e0, e1, e2, e3, hki] <;> (try simp (disch := omega) only [wI, wU, wC]) <;> exact rfl); (focus ((try simp only [push_cast, seval, e0, e1, e2, e3, hki]) <;> exact sT)))
  (apply Run.build; (simp only [push_cast, seval, e0, e1, e2, e3, hki] <;> (try simp (disch := omega) only [wI, wU, wC]) <;> exact rfl); (focus ((try simp only [push_cast, seval, e0, e1, e2, e3, hki]) <;> exact sT)); dsimp only [S.put, optG])
  (apply Run.next; (simp only [push_cast, seval, e0, e1, e2, e3, hki] <;> (try simp (disch := omega) only [wI, wU, wC]) <;> exact rfl); (focus ((try simp only [push_cast, seval, e0, e1, e2, e3, hki]) <;> exact sT)))
  (apply Run.nil; dsimp only [sQ, tQ, bQ])
  (repeat (first | apply Wp.seq | apply Wp.block | (apply Wp.run; (dsimp only [List.map] <;> exact rfl); exact rfl)))
  (apply Run.next; (simp only [push_cast, seval, e0, e1, e2, e3, hki] <;> (try simp (disch := omega) only [wI, wU, wC]) <;> exact rfl); (focus ((try simp only [push_cast, seval, e0, e1, e2, e3, hki]) <;> exact sT)))
  (apply Run.next; (simp only [push_cast, seval, e0, e1, e2, e3, hki] <;> (try simp (disch := omega) only [wI, wU, wC]) <;> exact rfl); (focus ((try simp only [push_cast, seval, e0, e1, e2, e3, hki]) <;> exact sT)))
  (apply Run.buildF; (simp only [push_cast, seval, e0, e1, e2, e3, hki] <;> (try simp (disch := omega) only [wI, wU, wC]) <;> exact rfl); (focus ((try simp only [push_cast, seval, e0, e1, e2, e3, hki]) <;> exact sT)); dsimp only [S.put, optG])
  repeat (first | apply Wp.seq | apply Wp.block | (apply Run.next; (simp only [push_cast, seval, e0, e1, e2, e3, hki] <;> (try simp (disch := omega) only [wI, wU, wC]) <;> exact rfl); (focus ((try simp only [push_cast, seval, e0, e1, e2, e3, hki]) <;> exact sT))) | ((first | apply Run.nil | apply Wp.skip); dsimp only [sQ, tQ, bQ]) | (apply Wp.run; (dsimp only [List.map] <;> exact rfl); exact rfl) | (apply Wp.exit; dsimp only [sQ, tQ, bQ]; simp only [reduceIte]) | (apply Run.gtrue; (simp only [push_cast, seval, e0, e1, e2, e3, hki] <;> (try simp (disch := omega) only [wI, wU, wC]) <;> exact rfl); (simp only [push_cast, seval, e0, e1, e2, e3, hki] <;> (try simp (disch := omega) only [wI, wU, wC]) <;> exact rfl)) | (apply Run.gfalse (.bool false); (simp only [push_cast, seval, e0, e1, e2, e3, hki] <;> (try simp (disch := omega) only [wI, wU, wC]) <;> exact rfl); dsimp only [S.put, optG]) | (apply Wp.condT; (simp only [push_cast, seval, e0, e1, e2, e3, hki] <;> (try simp (disch := omega) only [wI, wU, wC]) <;> exact rfl)) | (apply Wp.condF; (simp only [push_cast, seval, e0, e1, e2, e3, hki] <;> (try simp (disch := omega) only [wI, wU, wC]) <;> exact rfl)))
  (refine Wp.vacs 1 ?_; (try simp only [List.replicate_succ, List.replicate_zero, List.cons_append, List.nil_append]))
  refine Wp.loop (fun (q : Nat × QL × Nat × Kind) => { t := [(2, .optr 0 0 0 0), (4, .osl 1 (q.2.1.length - 1) 0 q.2.1.length), (5, .omap 2 0), (6, .int q.1)], m := [⟨0, .row 7 [mzA w h W fr to]⟩, ⟨q.2.1.length - 1, .row 1 ((cqL q.2.1).map AV.int)⟩, ⟨0, .mp (mpQ q.2.1)⟩, ⟨q.2.2.1, q.2.2.2⟩], n := 60 }) (fun q => BI R b q.2.1 q.1 0 ∧ QB W.length q.2.1 ∧ q.1 ≤ q.2.1.length ∧ brun R (W.length + 1 - q.1) q.1 q.2.1 = bfs R W.length b) (fun q => W.length + 1 - q.1) (0, [(b, [])], 0, .row 1 []) ?_ ?_ ?_
  · (refine Le.of ?_ ?_ rfl rfl <;> (try simp only [push_cast, seval, e0, e1, e2, e3, hki]) <;> (try (with_reducible rfl)))
    all_goals rfl
  · exact ⟨BI.start R b, QB_one hb, Nat.zero_le _, rfl⟩
  · rintro ⟨i, Q, v, kd⟩ ⟨hBI, hQB, hiQ, hrun⟩
    simp only at hBI hQB hiQ hrun
    have hQn := hBI.len R hQB
    have hcl := cqL_len Q
    by_cases hib : i < Q.length
    · have e4 : decide ((i : Int) < (Q.length : Int)) = true := decide_eq_true (by omega)
      have hnext : brun R (W.length + 1 - (i + 1)) (i + 1) (bcell R Q i) = bfs R W.length b := by
        rw [← hrun, show W.length + 1 - i = (W.length + 1 - (i + 1)) + 1 by omega, brun, if_pos hib]
      repeat (first | apply Wp.seq | apply Wp.block | (apply Run.next; (simp only [push_cast, seval, List.length_map, hcl, e4, hki] <;> (try simp (disch := omega) only [wI, wU, wC]) <;> exact rfl); (focus ((try simp only [push_cast, seval, List.length_map, hcl, e4, hki]) <;> exact sT))) | ((first | apply Run.nil | apply Wp.skip); dsimp only [sQ, tQ, bQ]) | (apply Wp.run; (dsimp only [List.map] <;> exact rfl); exact rfl) | (apply Wp.exit; dsimp only [sQ, tQ, bQ]; simp only [reduceIte]) | (apply Run.gtrue; (simp only [push_cast, seval, List.length_map, hcl, e4, hki] <;> (try simp (disch := omega) only [wI, wU, wC]) <;> exact rfl); (simp only [push_cast, seval, List.length_map, hcl, e4, hki] <;> (try simp (disch := omega) only [wI, wU, wC]) <;> exact rfl)) | (apply Run.gfalse (.bool false); (simp only [push_cast, seval, List.length_map, hcl, e4, hki] <;> (try simp (disch := omega) only [wI, wU, wC]) <;> exact rfl); dsimp only [S.put, optG]) | (apply Wp.condT; (simp only [push_cast, seval, List.length_map, hcl, e4, hki] <;> (try simp (disch := omega) only [wI, wU, wC]) <;> exact rfl)) | (apply Wp.condF; (simp only [push_cast, seval, List.length_map, hcl, e4, hki] <;> (try simp (disch := omega) only [wI, wU, wC]) <;> exact rfl)))
      refine Wp.loop (fun (q : Nat × Nat × Kind) => { t := [(2, .optr 0 0 0 0), (4, .osl 1 ((bsN R Q i q.1).length - 1) 0 (bsN R Q i q.1).length), (5, .omap 2 0), (6, .int i), (7, .int q.1)], m := [⟨0, .row 7 [mzA w h W fr to]⟩, ⟨(bsN R Q i q.1).length - 1, .row 1 ((cqL (bsN R Q i q.1)).map AV.int)⟩, ⟨0, .mp (mpQ (bsN R Q i q.1))⟩, ⟨q.2.1, q.2.2⟩], n := 60 }) (fun q => q.1 ≤ 4) (fun q => 4 - q.1) (0, v, kd) ?_ ?_ ?_
      · (refine Le.of ?_ ?_ rfl rfl <;> (try simp only [push_cast, seval, List.length_map, hcl, e4, hki]) <;> (try (with_reducible rfl)))
        all_goals rfl
      · simp
      · rintro ⟨s, v, kd⟩ hs
        simp only at hs
        by_cases hsb : s < 4
        · obtain ⟨hBs, hQs, his⟩ := bsN_is hR hBI hib hQB s (by omega)
          have e5 : decide ((s : Int) ≤ 3) = true := decide_eq_true (by omega)
          have hbs : bsN R Q i (s + 1) = bstep R (bsN R Q i s) i s := rfl
          generalize bsN R Q i s = Qs at hBs hQs his hbs
          have hcl := cqL_len Qs
          have hqn := hBs.len R hQs
          have hci := cqL_getD Qs i his
          have hcn := qc_lt hQs his
          have hfl := findL_mpQ Qs
          have hws := wayQ_self hBs his
          have hsh := hBs.short R i i (Nat.le_refl _) his
          have hgl := mpQ_good Qs W.length hn hQs
          have hst : bstep R Qs i s = if knB Qs (R (qc Qs i) s) = true then Qs else Qs ++ [(R (qc Qs i) s, qw Qs i ++ [s])] := rfl
          have hro := roll_pure hz fr to (qc Qs i) s hcn hsb
          have hto := hR (qc Qs i) s hcn hsb
          rw [hRR] at hro
          have hfk := hfl (qc Qs i)
          rw [hws, Option.map_some] at hfk
          generalize qc Qs i = c at hci hcn hws hst hro hto hfk
          generalize R c s = t at hst hro hto
          have hft := hfl t
          have hgt := goodInt (a := (t : Int)) (by omega)
          have hgc := goodInt (a := (c : Int)) (by omega)
          cases hkn : knB Qs t with
          | true =>
            obtain ⟨wd, hwd⟩ : ∃ wd, wayQ Qs t = some wd := by
              cases hq : wayQ Qs t with
              | none => rw [wayQ_none.1 hq] at hkn; cases hkn
              | some wd => exact ⟨wd, rfl⟩
            rw [hwd, Option.map_some] at hft
            rw [hkn, if_pos rfl] at hst
            repeat (first | apply Wp.seq | apply Wp.block | (apply Run.next; (simp only [push_cast, seval, List.length_map, hcl, e4, e5, hki, hci, hft, hgt, hgl] <;> (try simp (disch := omega) only [wI, wU, wC]) <;> exact rfl); (focus ((try simp only [push_cast, seval, List.length_map, hcl, e4, e5, hki, hci, hft, hgt, hgl]) <;> exact sT))) | ((first | apply Run.nil | apply Wp.skip); dsimp only [sQ, tQ, bQ]) | (apply Wp.run; (dsimp only [List.map] <;> exact rfl); exact rfl) | (apply Wp.exit; dsimp only [sQ, tQ, bQ]; simp only [reduceIte]) | (apply Run.gtrue; (simp only [push_cast, seval, List.length_map, hcl, e4, e5, hki, hci, hft, hgt, hgl] <;> (try simp (disch := omega) only [wI, wU, wC]) <;> exact rfl); (simp only [push_cast, seval, List.length_map, hcl, e4, e5, hki, hci, hft, hgt, hgl] <;> (try simp (disch := omega) only [wI, wU, wC]) <;> exact rfl)) | (apply Run.gfalse (.bool false); (simp only [push_cast, seval, List.length_map, hcl, e4, e5, hki, hci, hft, hgt, hgl] <;> (try simp (disch := omega) only [wI, wU, wC]) <;> exact rfl); dsimp only [S.put, optG]) | (apply Wp.condT; (simp only [push_cast, seval, List.length_map, hcl, e4, e5, hki, hci, hft, hgt, hgl] <;> (try simp (disch := omega) only [wI, wU, wC]) <;> exact rfl)) | (apply Wp.condF; (simp only [push_cast, seval, List.length_map, hcl, e4, e5, hki, hci, hft, hgt, hgl] <;> (try simp (disch := omega) only [wI, wU, wC]) <;> exact rfl)))
            (apply Wp.runD 8 mixed; (dsimp only [List.map] <;> exact rfl); exact rfl; kernel_rfl; (dsimp only [List.take] <;> exact rfl); (dsimp only [List.drop] <;> exact rfl); (((repeat (apply Abn.next; (simp only [push_cast, seval, List.length_map, hcl, e4, e5, hki, hci, hft, hgt, hgl] <;> (try simp (disch := omega) only [wI, wU, wC]) <;> exact rfl); (focus ((try simp only [push_cast, seval, List.length_map, hcl, e4, e5, hki, hci, hft, hgt, hgl]) <;> exact sT)))); (apply Abn.pureP; (simp only [push_cast, seval, List.length_map, hcl, e4, e5, hki, hci, hft, hgt, hgl] <;> (try simp (disch := omega) only [wI, wU, wC]) <;> exact rfl); (exact (Enters.of Try.func36 rfl rfl)); (exact hro); (focus (simp only [push_cast, seval, List.length_map, hcl, e4, e5, hki, hci, hft, hgt, hgl] <;> first | trivial | assumption | (refine ⟨?_, ?_⟩ <;> assumption) | (simp; done))); (try dsimp only [putA, optG])); (repeat (apply Abn.next; (simp only [push_cast, seval, List.length_map, hcl, e4, e5, hki, hci, hft, hgt, hgl] <;> (try simp (disch := omega) only [wI, wU, wC]) <;> exact rfl); (focus ((try simp only [push_cast, seval, List.length_map, hcl, e4, e5, hki, hci, hft, hgt, hgl]) <;> exact sT))))); exact Abn.nil))
            repeat (first | apply Wp.seq | apply Wp.block | (apply Run.next; (simp only [push_cast, seval, List.length_map, hcl, e4, e5, hki, hci, hft, hgt, hgl] <;> (try simp (disch := omega) only [wI, wU, wC]) <;> exact rfl); (focus ((try simp only [push_cast, seval, List.length_map, hcl, e4, e5, hki, hci, hft, hgt, hgl]) <;> exact sT))) | ((first | apply Run.nil | apply Wp.skip); dsimp only [sQ, tQ, bQ]) | (apply Wp.run; (dsimp only [List.map] <;> exact rfl); exact rfl) | (apply Wp.exit; dsimp only [sQ, tQ, bQ]; simp only [reduceIte]) | (apply Run.gtrue; (simp only [push_cast, seval, List.length_map, hcl, e4, e5, hki, hci, hft, hgt, hgl] <;> (try simp (disch := omega) only [wI, wU, wC]) <;> exact rfl); (simp only [push_cast, seval, List.length_map, hcl, e4, e5, hki, hci, hft, hgt, hgl] <;> (try simp (disch := omega) only [wI, wU, wC]) <;> exact rfl)) | (apply Run.gfalse (.bool false); (simp only [push_cast, seval, List.length_map, hcl, e4, e5, hki, hci, hft, hgt, hgl] <;> (try simp (disch := omega) only [wI, wU, wC]) <;> exact rfl); dsimp only [S.put, optG]) | (apply Wp.condT; (simp only [push_cast, seval, List.length_map, hcl, e4, e5, hki, hci, hft, hgt, hgl] <;> (try simp (disch := omega) only [wI, wU, wC]) <;> exact rfl)) | (apply Wp.condF; (simp only [push_cast, seval, List.length_map, hcl, e4, e5, hki, hci, hft, hgt, hgl] <;> (try simp (disch := omega) only [wI, wU, wC]) <;> exact rfl)))
            refine ⟨(s + 1, v, kd), ?_, by simp only; omega, by simp only; omega⟩
            simp only
            rw [hbs, hst]
            (refine Le.of ?_ ?_ rfl rfl <;> (try simp only [push_cast, seval, List.length_map, hcl, e4, e5, hki, hci, hft, hgt, hgl]) <;> (try (with_reducible rfl)))
          | false =>
            rw [wayQ_none.2 hkn, Option.map_none] at hft
            rw [hkn, if_neg (by simp)] at hst
            have hup := fun x => updL_app (mpQ Qs) (.int .i64 (t : Int)) x hft
            have hmp := mpQ_app Qs t (qw Qs i ++ [s])
            have hcq := cqL_app Qs t (qw Qs i ++ [s])
            have hni := natI_app (qw Qs i) s
            have hnl := natI_len (qw Qs i)
            generalize qw Qs i = wd at hst hfk hsh hmp hcq hni hnl
            have hci2 : (cqL Qs ++ [(t : Int)]).getD i 0 = (c : Int) := by
              rw [List.getD_eq_getElem?_getD, List.getElem?_append_left (by omega), ← List.getD_eq_getElem?_getD]; exact hci
            have hti : (cqL Qs).take Qs.length = cqL Qs := List.take_of_length_le (by omega)
            have htn2 : (natI wd ++ [(s : Int)]).take (wd.length + 1) = natI wd ++ [(s : Int)] := List.take_of_length_le (by simp [hnl])
            have htn : (natI wd).take wd.length = natI wd := List.take_of_length_le (by omega)
            repeat (first | apply Wp.seq | apply Wp.block | (apply Run.next; (simp only [push_cast, seval, List.length_map, hcl, e4, e5, hki, hci, hft, hgt, hgl, hci2, hfk, hgc, hnl, hti, htn, htn2, hup] <;> (try simp (disch := omega) only [wI, wU, wC]) <;> exact rfl); (focus ((try simp only [push_cast, seval, List.length_map, hcl, e4, e5, hki, hci, hft, hgt, hgl, hci2, hfk, hgc, hnl, hti, htn, htn2, hup]) <;> exact sT))) | ((first | apply Run.nil | apply Wp.skip); dsimp only [sQ, tQ, bQ]) | (apply Wp.run; (dsimp only [List.map] <;> exact rfl); exact rfl) | (apply Wp.exit; dsimp only [sQ, tQ, bQ]; simp only [reduceIte]) | (apply Run.gtrue; (simp only [push_cast, seval, List.length_map, hcl, e4, e5, hki, hci, hft, hgt, hgl, hci2, hfk, hgc, hnl, hti, htn, htn2, hup] <;> (try simp (disch := omega) only [wI, wU, wC]) <;> exact rfl); (simp only [push_cast, seval, List.length_map, hcl, e4, e5, hki, hci, hft, hgt, hgl, hci2, hfk, hgc, hnl, hti, htn, htn2, hup] <;> (try simp (disch := omega) only [wI, wU, wC]) <;> exact rfl)) | (apply Run.gfalse (.bool false); (simp only [push_cast, seval, List.length_map, hcl, e4, e5, hki, hci, hft, hgt, hgl, hci2, hfk, hgc, hnl, hti, htn, htn2, hup] <;> (try simp (disch := omega) only [wI, wU, wC]) <;> exact rfl); dsimp only [S.put, optG]) | (apply Wp.condT; (simp only [push_cast, seval, List.length_map, hcl, e4, e5, hki, hci, hft, hgt, hgl, hci2, hfk, hgc, hnl, hti, htn, htn2, hup] <;> (try simp (disch := omega) only [wI, wU, wC]) <;> exact rfl)) | (apply Wp.condF; (simp only [push_cast, seval, List.length_map, hcl, e4, e5, hki, hci, hft, hgt, hgl, hci2, hfk, hgc, hnl, hti, htn, htn2, hup] <;> (try simp (disch := omega) only [wI, wU, wC]) <;> exact rfl)))
            (apply Wp.runD 8 mixed; (dsimp only [List.map] <;> exact rfl); exact rfl; kernel_rfl; (dsimp only [List.take] <;> exact rfl); (dsimp only [List.drop] <;> exact rfl); (((repeat (apply Abn.next; (simp only [push_cast, seval, List.length_map, hcl, e4, e5, hki, hci, hft, hgt, hgl, hci2, hfk, hgc, hnl, hti, htn, htn2, hup] <;> (try simp (disch := omega) only [wI, wU, wC]) <;> exact rfl); (focus ((try simp only [push_cast, seval, List.length_map, hcl, e4, e5, hki, hci, hft, hgt, hgl, hci2, hfk, hgc, hnl, hti, htn, htn2, hup]) <;> exact sT)))); (apply Abn.pureP; (simp only [push_cast, seval, List.length_map, hcl, e4, e5, hki, hci, hft, hgt, hgl, hci2, hfk, hgc, hnl, hti, htn, htn2, hup] <;> (try simp (disch := omega) only [wI, wU, wC]) <;> exact rfl); (exact (Enters.of Try.func36 rfl rfl)); (exact hro); (focus (simp only [push_cast, seval, List.length_map, hcl, e4, e5, hki, hci, hft, hgt, hgl, hci2, hfk, hgc, hnl, hti, htn, htn2, hup] <;> first | trivial | assumption | (refine ⟨?_, ?_⟩ <;> assumption) | (simp; done))); (try dsimp only [putA, optG])); (repeat (apply Abn.next; (simp only [push_cast, seval, List.length_map, hcl, e4, e5, hki, hci, hft, hgt, hgl, hci2, hfk, hgc, hnl, hti, htn, htn2, hup] <;> (try simp (disch := omega) only [wI, wU, wC]) <;> exact rfl); (focus ((try simp only [push_cast, seval, List.length_map, hcl, e4, e5, hki, hci, hft, hgt, hgl, hci2, hfk, hgc, hnl, hti, htn, htn2, hup]) <;> exact sT))))); exact Abn.nil))
            repeat (first | apply Wp.seq | apply Wp.block | (apply Run.next; (simp only [push_cast, seval, List.length_map, hcl, e4, e5, hki, hci, hft, hgt, hgl, hci2, hfk, hgc, hnl, hti, htn, htn2, hup] <;> (try simp (disch := omega) only [wI, wU, wC]) <;> exact rfl); (focus ((try simp only [push_cast, seval, List.length_map, hcl, e4, e5, hki, hci, hft, hgt, hgl, hci2, hfk, hgc, hnl, hti, htn, htn2, hup]) <;> exact sT))) | ((first | apply Run.nil | apply Wp.skip); dsimp only [sQ, tQ, bQ]) | (apply Wp.run; (dsimp only [List.map] <;> exact rfl); exact rfl) | (apply Wp.exit; dsimp only [sQ, tQ, bQ]; simp only [reduceIte]) | (apply Run.gtrue; (simp only [push_cast, seval, List.length_map, hcl, e4, e5, hki, hci, hft, hgt, hgl, hci2, hfk, hgc, hnl, hti, htn, htn2, hup] <;> (try simp (disch := omega) only [wI, wU, wC]) <;> exact rfl); (simp only [push_cast, seval, List.length_map, hcl, e4, e5, hki, hci, hft, hgt, hgl, hci2, hfk, hgc, hnl, hti, htn, htn2, hup] <;> (try simp (disch := omega) only [wI, wU, wC]) <;> exact rfl)) | (apply Run.gfalse (.bool false); (simp only [push_cast, seval, List.length_map, hcl, e4, e5, hki, hci, hft, hgt, hgl, hci2, hfk, hgc, hnl, hti, htn, htn2, hup] <;> (try simp (disch := omega) only [wI, wU, wC]) <;> exact rfl); dsimp only [S.put, optG]) | (apply Wp.condT; (simp only [push_cast, seval, List.length_map, hcl, e4, e5, hki, hci, hft, hgt, hgl, hci2, hfk, hgc, hnl, hti, htn, htn2, hup] <;> (try simp (disch := omega) only [wI, wU, wC]) <;> exact rfl)) | (apply Wp.condF; (simp only [push_cast, seval, List.length_map, hcl, e4, e5, hki, hci, hft, hgt, hgl, hci2, hfk, hgc, hnl, hti, htn, htn2, hup] <;> (try simp (disch := omega) only [wI, wU, wC]) <;> exact rfl)))
            (apply Run.freshAt 3; (simp only [push_cast, seval, List.length_map, hcl, e4, e5, hki, hci, hft, hgt, hgl, hci2, hfk, hgc, hnl, hti, htn, htn2, hup] <;> (try simp (disch := omega) only [wI, wU, wC]) <;> exact rfl); (exact (Enters.of Try.func26 rfl rfl)); (exact clone_spec (natI wd) (by omega)); (exact VwL.cons (Vw.self (ok_ints 0 (natI wd))) VwL.nil); (simp only [push_cast, seval, List.length_map, hcl, e4, e5, hki, hci, hft, hgt, hgl, hci2, hfk, hgc, hnl, hti, htn, htn2, hup] <;> first | trivial | (simp; done)); exact rfl; (try dsimp only [putA]))
            (apply Run.next; (simp only [push_cast, seval, List.length_map, hcl, e4, e5, hki, hci, hft, hgt, hgl, hci2, hfk, hgc, hnl, hti, htn, htn2, hup] <;> (try simp (disch := omega) only [wI, wU, wC]) <;> exact rfl); (focus ((try simp only [push_cast, seval, List.length_map, hcl, e4, e5, hki, hci, hft, hgt, hgl, hci2, hfk, hgc, hnl, hti, htn, htn2, hup]) <;> exact sT)))
            (apply Run.next; (simp only [push_cast, seval, List.length_map, hcl, e4, e5, hki, hci, hft, hgt, hgl, hci2, hfk, hgc, hnl, hti, htn, htn2, hup] <;> (try simp (disch := omega) only [wI, wU, wC]) <;> exact rfl); (focus ((try simp only [push_cast, seval, List.length_map, hcl, e4, e5, hki, hci, hft, hgt, hgl, hci2, hfk, hgc, hnl, hti, htn, htn2, hup]) <;> exact sT)))
            (apply Run.next; (simp only [push_cast, seval, List.length_map, hcl, e4, e5, hki, hci, hft, hgt, hgl, hci2, hfk, hgc, hnl, hti, htn, htn2, hup] <;> (try simp (disch := omega) only [wI, wU, wC]) <;> exact rfl); (focus ((try simp only [push_cast, seval, List.length_map, hcl, e4, e5, hki, hci, hft, hgt, hgl, hci2, hfk, hgc, hnl, hti, htn, htn2, hup]) <;> exact sT)))
            (apply Run.freeze 57; (simp only [push_cast, seval, List.length_map, hcl, e4, e5, hki, hci, hft, hgt, hgl, hci2, hfk, hgc, hnl, hti, htn, htn2, hup] <;> (try simp (disch := omega) only [wI, wU, wC]) <;> exact rfl); (simp only [push_cast, seval, List.length_map, hcl, e4, e5, hki, hci, hft, hgt, hgl, hci2, hfk, hgc, hnl, hti, htn, htn2, hup] <;> (try simp (disch := omega) only [wI, wU, wC]) <;> exact rfl); (focus (try simp only [push_cast, seval, List.length_map, hcl, e4, e5, hki, hci, hft, hgt, hgl, hci2, hfk, hgc, hnl, hti, htn, htn2, hup]); (try (exact sT))); (focus (exact sT)); (simp only [push_cast, seval, List.length_map, hcl, e4, e5, hki, hci, hft, hgt, hgl, hci2, hfk, hgc, hnl, hti, htn, htn2, hup] <;> (try simp (disch := omega) only [wI, wU, wC]) <;> exact rfl); (simp only [push_cast, seval, List.length_map, hcl, e4, e5, hki, hci, hft, hgt, hgl, hci2, hfk, hgc, hnl, hti, htn, htn2, hup] <;> (try simp (disch := omega) only [wI, wU, wC]) <;> exact rfl))
            have hlen2 : (Qs ++ [(t, wd ++ [s])]).length - 1 = Qs.length - 1 + 1 := by
              have := hBs.pos
              simp; omega
            have hlen3 : (Qs ++ [(t, wd ++ [s])]).length = Qs.length + 1 := by simp
            repeat (first | apply Wp.seq | apply Wp.block | (apply Run.next; (simp only [push_cast, seval, List.length_map, hcl, e4, e5, hki, hci, hft, hgt, hgl, hci2, hfk, hgc, hnl, hti, htn, htn2, hup] <;> (try simp (disch := omega) only [wI, wU, wC]) <;> exact rfl); (focus ((try simp only [push_cast, seval, List.length_map, hcl, e4, e5, hki, hci, hft, hgt, hgl, hci2, hfk, hgc, hnl, hti, htn, htn2, hup]) <;> exact sT))) | ((first | apply Run.nil | apply Wp.skip); dsimp only [sQ, tQ, bQ]) | (apply Wp.run; (dsimp only [List.map] <;> exact rfl); exact rfl) | (apply Wp.exit; dsimp only [sQ, tQ, bQ]; simp only [reduceIte]) | (apply Run.gtrue; (simp only [push_cast, seval, List.length_map, hcl, e4, e5, hki, hci, hft, hgt, hgl, hci2, hfk, hgc, hnl, hti, htn, htn2, hup] <;> (try simp (disch := omega) only [wI, wU, wC]) <;> exact rfl); (simp only [push_cast, seval, List.length_map, hcl, e4, e5, hki, hci, hft, hgt, hgl, hci2, hfk, hgc, hnl, hti, htn, htn2, hup] <;> (try simp (disch := omega) only [wI, wU, wC]) <;> exact rfl)) | (apply Run.gfalse (.bool false); (simp only [push_cast, seval, List.length_map, hcl, e4, e5, hki, hci, hft, hgt, hgl, hci2, hfk, hgc, hnl, hti, htn, htn2, hup] <;> (try simp (disch := omega) only [wI, wU, wC]) <;> exact rfl); dsimp only [S.put, optG]) | (apply Wp.condT; (simp only [push_cast, seval, List.length_map, hcl, e4, e5, hki, hci, hft, hgt, hgl, hci2, hfk, hgc, hnl, hti, htn, htn2, hup] <;> (try simp (disch := omega) only [wI, wU, wC]) <;> exact rfl)) | (apply Wp.condF; (simp only [push_cast, seval, List.length_map, hcl, e4, e5, hki, hci, hft, hgt, hgl, hci2, hfk, hgc, hnl, hti, htn, htn2, hup] <;> (try simp (disch := omega) only [wI, wU, wC]) <;> exact rfl)))
            refine ⟨(s + 1, v + 3, .row 1 []), ?_, by simp only; omega, by simp only; omega⟩
            simp only
            rw [hbs, hst, hlen2, hlen3, hmp, hcq, hni]
            (refine Le.of ?_ ?_ rfl rfl <;> (try simp only [push_cast, seval, List.length_map, hcl, e4, e5, hki, hci, hft, hgt, hgl, hci2, hfk, hgc, hnl, hti, htn, htn2, hup]) <;> (try (with_reducible rfl)))
        · obtain rfl : s = 4 := by omega
          have e5 : decide (((4 : Nat) : Int) ≤ 3) = false := rfl
          have hbc := hBI.cell R hib
          have hqc := bcell_QB R hR hQB hib
          have hbl : i + 1 ≤ (bcell R Q i).length := by
            have := (bsN_is hR hBI hib hQB 4 (by omega)).2.2
            rw [bsN_4] at this; omega
          rw [bsN_4]
          repeat (first | apply Wp.seq | apply Wp.block | (apply Run.next; (simp only [push_cast, seval, List.length_map, hcl, e4, e5] <;> (try simp (disch := omega) only [wI, wU, wC]) <;> exact rfl); (focus ((try simp only [push_cast, seval, List.length_map, hcl, e4, e5]) <;> exact sT))) | ((first | apply Run.nil | apply Wp.skip); dsimp only [sQ, tQ, bQ]) | (apply Wp.run; (dsimp only [List.map] <;> exact rfl); exact rfl) | (apply Wp.exit; dsimp only [sQ, tQ, bQ]; simp only [reduceIte]) | (apply Run.gtrue; (simp only [push_cast, seval, List.length_map, hcl, e4, e5] <;> (try simp (disch := omega) only [wI, wU, wC]) <;> exact rfl); (simp only [push_cast, seval, List.length_map, hcl, e4, e5] <;> (try simp (disch := omega) only [wI, wU, wC]) <;> exact rfl)) | (apply Run.gfalse (.bool false); (simp only [push_cast, seval, List.length_map, hcl, e4, e5] <;> (try simp (disch := omega) only [wI, wU, wC]) <;> exact rfl); dsimp only [S.put, optG]) | (apply Wp.condT; (simp only [push_cast, seval, List.length_map, hcl, e4, e5] <;> (try simp (disch := omega) only [wI, wU, wC]) <;> exact rfl)) | (apply Wp.condF; (simp only [push_cast, seval, List.length_map, hcl, e4, e5] <;> (try simp (disch := omega) only [wI, wU, wC]) <;> exact rfl)))
          refine ⟨(i + 1, bcell R Q i, v, kd), ?_, ⟨hbc, hqc, hbl, hnext⟩, by simp only; omega⟩
          simp only
          (refine Le.of ?_ ?_ rfl rfl <;> (try simp only [push_cast, seval, List.length_map, hcl, e4, e5]) <;> (try (with_reducible rfl)))
    · obtain rfl : i = Q.length := by omega
      have e4 : decide ((Q.length : Int) < (Q.length : Int)) = false := decide_eq_false (by omega)
      have hfin : Q = bfs R W.length b := by
        rw [← hrun, show W.length + 1 - Q.length = (W.length - Q.length) + 1 by omega, brun, if_neg (by omega)]
      rw [← hfin]
      repeat (first | apply Wp.seq | apply Wp.block | (apply Run.next; (simp only [push_cast, seval, List.length_map, hcl, e4] <;> (try simp (disch := omega) only [wI, wU, wC]) <;> exact rfl); (focus ((try simp only [push_cast, seval, List.length_map, hcl, e4]) <;> exact sT))) | ((first | apply Run.nil | apply Wp.skip); dsimp only [sQ, tQ, bQ]) | (apply Wp.run; (dsimp only [List.map] <;> exact rfl); exact rfl) | (apply Wp.exit; dsimp only [sQ, tQ, bQ]; simp only [reduceIte]) | (apply Run.gtrue; (simp only [push_cast, seval, List.length_map, hcl, e4] <;> (try simp (disch := omega) only [wI, wU, wC]) <;> exact rfl); (simp only [push_cast, seval, List.length_map, hcl, e4] <;> (try simp (disch := omega) only [wI, wU, wC]) <;> exact rfl)) | (apply Run.gfalse (.bool false); (simp only [push_cast, seval, List.length_map, hcl, e4] <;> (try simp (disch := omega) only [wI, wU, wC]) <;> exact rfl); dsimp only [S.put, optG]) | (apply Wp.condT; (simp only [push_cast, seval, List.length_map, hcl, e4] <;> (try simp (disch := omega) only [wI, wU, wC]) <;> exact rfl)) | (apply Wp.condF; (simp only [push_cast, seval, List.length_map, hcl, e4] <;> (try simp (disch := omega) only [wI, wU, wC]) <;> exact rfl)))
      (apply Wp.freeze 4; (simp only [push_cast, seval, List.length_map, hcl, e4] <;> (try simp (disch := omega) only [wI, wU, wC]) <;> exact rfl); (simp only [push_cast, seval, List.length_map, hcl, e4] <;> (try simp (disch := omega) only [wI, wU, wC]) <;> exact rfl); (focus (try simp only [push_cast, seval, List.length_map, hcl, e4]); (try (exact sT))); (focus (exact sT)))
      have hok : Kind.ok 3 (Kind.row 7 [mzA w h W fr to]) ∧ Kind.ok 3 (Kind.row 1 []) ∧ Kind.ok 3 (Kind.mp (mpQ Q)) := ⟨of_eq_true (mz_ok ..), trivial, of_eq_true (mpQ_ok Q)⟩
      (apply Wp.ret; (try dsimp only [sQ, tQ, bQ]); apply leaveK; exact rfl; (simp only [push_cast, seval, List.length_map, hcl, e4] <;> (try simp (disch := omega) only [wI, wU, wC]) <;> exact rfl); (first | (focus (first | (simp only [push_cast, seval, List.length_map, hcl, e4]; done) | trivial | (simp only [push_cast, seval, List.length_map, hcl, e4]; trivial) | (simp; done))) | (simpa [Ent.row] using hok)); (first | (focus (first | (simp only [push_cast, seval, List.length_map, hcl, e4]; done) | trivial | (simp only [push_cast, seval, List.length_map, hcl, e4]; trivial) | (simp; done))) | (simpa [Ent.row] using hok)); (first | (focus (first | (simp only [push_cast, seval, List.length_map, hcl, e4]; done) | trivial | (simp only [push_cast, seval, List.length_map, hcl, e4]; trivial) | (simp; done))) | (simpa [Ent.row] using hok)); (try simp only [push_cast, seval, List.length_map, hcl, e4]))
      have hp := hBI.pos
      exact ⟨by rw [List.take_of_length_le (by omega)], by rw [show Q.length - 1 + 1 = Q.length by omega]⟩
end Go.Proofs.Try
set_option maxHeartbeats 8000000
set_option maxRecDepth 20000
namespace Go.Proofs.Try
open Go.Vg

/-! Escape -/
theorem ints_shift (k : Nat) (l : List Int) : (AV.ints l).shift k = AV.ints l := by
  show AV.lst 1 (shiftL k (l.map AV.int)) = _
  rw [shiftL_int]
theorem mpQ_shift (Q : QL) (k : Nat) : ((mpQ Q).map fun kx => (kx.1, kx.2.shift k)) = mpQ Q := by
  unfold mpQ
  rw [List.map_map]
  refine List.map_congr_left fun p _ => ?_
  simp only [Function.comp, ints_shift]
def escW (w h : Int) (W : List Bool) (fr to : Int) : Option (List Nat) := wayQ (bfs (rlC w h W) W.length fr.toNat) to.toNat
def escA (w h : Int) (W : List Bool) (fr to : Int) : AV := if mazeB w h W fr to = true then (match escW w h W fr to with
  | some wd => .ints (natI wd)
  | none => .emp) else .emp
def escE (w h : Int) (W : List Bool) (fr to : Int) : Int := if mazeB w h W fr to = true then (match escW w h W fr to with
  | some _ => 0
  | none => 3) else 30
theorem Escape_pure (w h fr to : Int) (W : List Bool) : Pure Try.prog 19 [meA w h W fr to] (.tup [escA w h W fr to, .int (escE w h W fr to)]) := by
  have hnm := newMaze_pure w h fr to W
  cases hm : mazeB w h W fr to with
  | false =>
    rw [hm] at hnm
    rw [show escA w h W fr to = .emp from by unfold escA; rw [hm]; rfl, show escE w h W fr to = 30 from by unfold escE; rw [hm]; rfl]
    (refine Spec.of_body Try.func19 rfl (by rw [Try.ntmps19]; simp) 0 (by simp) ?_; rw [Try.results19, Try.ntmps19]; simp only [entry, zipArgs, Nat.reduceAdd])
    repeat (first | apply Wp.seq | apply Wp.block | (apply Run.next; (simp only [push_cast, seval] <;> (try simp (disch := omega) only [wI, wU, wC]) <;> exact rfl); (focus ((try simp only [push_cast, seval]) <;> exact sT))) | ((first | apply Run.nil | apply Wp.skip); dsimp only [sQ, tQ, bQ]) | (apply Wp.run; (dsimp only [List.map] <;> exact rfl); exact rfl) | (apply Wp.exit; dsimp only [sQ, tQ, bQ]; simp only [reduceIte]) | (apply Run.gtrue; (simp only [push_cast, seval] <;> (try simp (disch := omega) only [wI, wU, wC]) <;> exact rfl); (simp only [push_cast, seval] <;> (try simp (disch := omega) only [wI, wU, wC]) <;> exact rfl)) | (apply Run.gfalse (.bool false); (simp only [push_cast, seval] <;> (try simp (disch := omega) only [wI, wU, wC]) <;> exact rfl); dsimp only [S.put, optG]) | (apply Wp.condT; (simp only [push_cast, seval] <;> (try simp (disch := omega) only [wI, wU, wC]) <;> exact rfl)) | (apply Wp.condF; (simp only [push_cast, seval] <;> (try simp (disch := omega) only [wI, wU, wC]) <;> exact rfl)))
    (apply Run.pureFP; (simp only [push_cast, seval] <;> (try simp (disch := omega) only [wI, wU, wC]) <;> exact rfl); (exact (Enters.of Try.func33 rfl rfl)); (exact hnm); (focus (simp only [push_cast, seval] <;> first | trivial | assumption | (refine ⟨?_, ?_⟩ <;> assumption) | (simp; done))); (try dsimp only [putA, optG]))
    repeat (first | apply Wp.seq | apply Wp.block | (apply Run.next; (simp only [push_cast, seval] <;> (try simp (disch := omega) only [wI, wU, wC]) <;> exact rfl); (focus ((try simp only [push_cast, seval]) <;> exact sT))) | ((first | apply Run.nil | apply Wp.skip); dsimp only [sQ, tQ, bQ]) | (apply Wp.run; (dsimp only [List.map] <;> exact rfl); exact rfl) | (apply Wp.exit; dsimp only [sQ, tQ, bQ]; simp only [reduceIte]) | (apply Run.gtrue; (simp only [push_cast, seval] <;> (try simp (disch := omega) only [wI, wU, wC]) <;> exact rfl); (simp only [push_cast, seval] <;> (try simp (disch := omega) only [wI, wU, wC]) <;> exact rfl)) | (apply Run.gfalse (.bool false); (simp only [push_cast, seval] <;> (try simp (disch := omega) only [wI, wU, wC]) <;> exact rfl); dsimp only [S.put, optG]) | (apply Wp.condT; (simp only [push_cast, seval] <;> (try simp (disch := omega) only [wI, wU, wC]) <;> exact rfl)) | (apply Wp.condF; (simp only [push_cast, seval] <;> (try simp (disch := omega) only [wI, wU, wC]) <;> exact rfl)))
    (apply Wp.ret; (try dsimp only [sQ, tQ, bQ]); apply leave0; exact rfl; (simp only [push_cast, seval] <;> (try simp (disch := omega) only [wI, wU, wC]) <;> exact rfl); all_goals (try simp only [push_cast, seval]); (try rfl))
  | true =>
    rw [hm] at hnm
    obtain ⟨hz, a, b, rfl, rfl, hal, hbl, _, _⟩ := maze_is hm
    have hn := hz.n2
    have hre := reached_spec hz a b a hal
    have hfl := findL_mpQ (bfs (rlC w h W) W.length a) b
    have hgl := mpQ_good (bfs (rlC w h W) W.length a) W.length hn (bfs_is (rlC w h W) (fun c s hc _ => rl_lt hz hc) hal).2
    have hgb := goodInt (a := (b : Int)) (by omega)
    have hki : Maps.Keyed Try.prog 3 = True := eq_true keyedInt
    have hwE : escW w h W a b = wayQ (bfs (rlC w h W) W.length a) b := by unfold escW; rw [Int.toNat_natCast, Int.toNat_natCast]
    have hA : escA w h W a b = (match wayQ (bfs (rlC w h W) W.length a) b with
      | some wd => .ints (natI wd)
      | none => .emp) := by unfold escA; rw [if_pos hm, hwE]
    have hE : escE w h W a b = (match wayQ (bfs (rlC w h W) W.length a) b with
      | some _ => 0
      | none => 3) := by unfold escE; rw [if_pos hm, hwE]
    rw [hA, hE]
    generalize bfs (rlC w h W) W.length a = Q at hre hfl hgl
    cases hq : wayQ Q b with
    | none =>
      rw [hq, Option.map_none] at hfl
      (refine Spec.of_body Try.func19 rfl (by rw [Try.ntmps19]; simp) 0 (by simp) ?_; rw [Try.results19, Try.ntmps19]; simp only [entry, zipArgs, Nat.reduceAdd])
      repeat (first | apply Wp.seq | apply Wp.block | (apply Run.next; (simp only [push_cast, seval, hfl, hgl, hgb, hki, mpQ_shift, Kind.shift] <;> (try simp (disch := omega) only [wI, wU, wC]) <;> exact rfl); (focus ((try simp only [push_cast, seval, hfl, hgl, hgb, hki, mpQ_shift, Kind.shift]) <;> exact sT))) | ((first | apply Run.nil | apply Wp.skip); dsimp only [sQ, tQ, bQ]) | (apply Wp.run; (dsimp only [List.map] <;> exact rfl); exact rfl) | (apply Wp.exit; dsimp only [sQ, tQ, bQ]; simp only [reduceIte]) | (apply Run.gtrue; (simp only [push_cast, seval, hfl, hgl, hgb, hki, mpQ_shift, Kind.shift] <;> (try simp (disch := omega) only [wI, wU, wC]) <;> exact rfl); (simp only [push_cast, seval, hfl, hgl, hgb, hki, mpQ_shift, Kind.shift] <;> (try simp (disch := omega) only [wI, wU, wC]) <;> exact rfl)) | (apply Run.gfalse (.bool false); (simp only [push_cast, seval, hfl, hgl, hgb, hki, mpQ_shift, Kind.shift] <;> (try simp (disch := omega) only [wI, wU, wC]) <;> exact rfl); dsimp only [S.put, optG]) | (apply Wp.condT; (simp only [push_cast, seval, hfl, hgl, hgb, hki, mpQ_shift, Kind.shift] <;> (try simp (disch := omega) only [wI, wU, wC]) <;> exact rfl)) | (apply Wp.condF; (simp only [push_cast, seval, hfl, hgl, hgb, hki, mpQ_shift, Kind.shift] <;> (try simp (disch := omega) only [wI, wU, wC]) <;> exact rfl)))
      (apply Run.pureFP; (simp only [push_cast, seval, hfl, hgl, hgb, hki, mpQ_shift, Kind.shift] <;> (try simp (disch := omega) only [wI, wU, wC]) <;> exact rfl); (exact (Enters.of Try.func33 rfl rfl)); (exact hnm); (focus (simp only [push_cast, seval, hfl, hgl, hgb, hki, mpQ_shift, Kind.shift] <;> first | trivial | assumption | (refine ⟨?_, ?_⟩ <;> assumption) | (simp; done))); (try dsimp only [putA, optG]))
      repeat (first | apply Wp.seq | apply Wp.block | (apply Run.next; (simp only [push_cast, seval, hfl, hgl, hgb, hki, mpQ_shift, Kind.shift] <;> (try simp (disch := omega) only [wI, wU, wC]) <;> exact rfl); (focus ((try simp only [push_cast, seval, hfl, hgl, hgb, hki, mpQ_shift, Kind.shift]) <;> exact sT))) | ((first | apply Run.nil | apply Wp.skip); dsimp only [sQ, tQ, bQ]) | (apply Wp.run; (dsimp only [List.map] <;> exact rfl); exact rfl) | (apply Wp.exit; dsimp only [sQ, tQ, bQ]; simp only [reduceIte]) | (apply Run.gtrue; (simp only [push_cast, seval, hfl, hgl, hgb, hki, mpQ_shift, Kind.shift] <;> (try simp (disch := omega) only [wI, wU, wC]) <;> exact rfl); (simp only [push_cast, seval, hfl, hgl, hgb, hki, mpQ_shift, Kind.shift] <;> (try simp (disch := omega) only [wI, wU, wC]) <;> exact rfl)) | (apply Run.gfalse (.bool false); (simp only [push_cast, seval, hfl, hgl, hgb, hki, mpQ_shift, Kind.shift] <;> (try simp (disch := omega) only [wI, wU, wC]) <;> exact rfl); dsimp only [S.put, optG]) | (apply Wp.condT; (simp only [push_cast, seval, hfl, hgl, hgb, hki, mpQ_shift, Kind.shift] <;> (try simp (disch := omega) only [wI, wU, wC]) <;> exact rfl)) | (apply Wp.condF; (simp only [push_cast, seval, hfl, hgl, hgb, hki, mpQ_shift, Kind.shift] <;> (try simp (disch := omega) only [wI, wU, wC]) <;> exact rfl)))
      (apply Run.freshE (he := (Enters.of Try.func39 rfl rfl)); (simp only [push_cast, seval, hfl, hgl, hgb, hki, mpQ_shift, Kind.shift] <;> first | exact rfl | assumption); (simp only [push_cast, seval, hfl, hgl, hgb, hki, mpQ_shift, Kind.shift] <;> (try simp (disch := omega) only [wI, wU, wC]) <;> exact rfl); (exact hre); (focus (first | (simp only [push_cast, seval, hfl, hgl, hgb, hki, mpQ_shift, Kind.shift]; done) | trivial | (simp only [push_cast, seval, hfl, hgl, hgb, hki, mpQ_shift, Kind.shift]; trivial) | (simp; done))); (simp only [push_cast, seval, hfl, hgl, hgb, hki, mpQ_shift, Kind.shift] <;> (try simp (disch := omega) only [wI, wU, wC]) <;> exact rfl); (simp only [push_cast, seval, hfl, hgl, hgb, hki, mpQ_shift, Kind.shift] <;> (try simp (disch := omega) only [wI, wU, wC]) <;> exact rfl); dsimp only [S.put, optG])
      repeat (first | apply Wp.seq | apply Wp.block | (apply Run.next; (simp only [push_cast, seval, hfl, hgl, hgb, hki, mpQ_shift, Kind.shift] <;> (try simp (disch := omega) only [wI, wU, wC]) <;> exact rfl); (focus ((try simp only [push_cast, seval, hfl, hgl, hgb, hki, mpQ_shift, Kind.shift]) <;> exact sT))) | ((first | apply Run.nil | apply Wp.skip); dsimp only [sQ, tQ, bQ]) | (apply Wp.run; (dsimp only [List.map] <;> exact rfl); exact rfl) | (apply Wp.exit; dsimp only [sQ, tQ, bQ]; simp only [reduceIte]) | (apply Run.gtrue; (simp only [push_cast, seval, hfl, hgl, hgb, hki, mpQ_shift, Kind.shift] <;> (try simp (disch := omega) only [wI, wU, wC]) <;> exact rfl); (simp only [push_cast, seval, hfl, hgl, hgb, hki, mpQ_shift, Kind.shift] <;> (try simp (disch := omega) only [wI, wU, wC]) <;> exact rfl)) | (apply Run.gfalse (.bool false); (simp only [push_cast, seval, hfl, hgl, hgb, hki, mpQ_shift, Kind.shift] <;> (try simp (disch := omega) only [wI, wU, wC]) <;> exact rfl); dsimp only [S.put, optG]) | (apply Wp.condT; (simp only [push_cast, seval, hfl, hgl, hgb, hki, mpQ_shift, Kind.shift] <;> (try simp (disch := omega) only [wI, wU, wC]) <;> exact rfl)) | (apply Wp.condF; (simp only [push_cast, seval, hfl, hgl, hgb, hki, mpQ_shift, Kind.shift] <;> (try simp (disch := omega) only [wI, wU, wC]) <;> exact rfl)))
      (apply Wp.ret; (try dsimp only [sQ, tQ, bQ]); apply leave0; exact rfl; (simp only [push_cast, seval, hfl, hgl, hgb, hki, mpQ_shift, Kind.shift] <;> (try simp (disch := omega) only [wI, wU, wC]) <;> exact rfl); all_goals (try simp only [push_cast, seval, hfl, hgl, hgb, hki, mpQ_shift, Kind.shift]); (try rfl))
    | some wd =>
      rw [hq, Option.map_some] at hfl
      (refine Spec.of_body Try.func19 rfl (by rw [Try.ntmps19]; simp) 0 (by simp) ?_; rw [Try.results19, Try.ntmps19]; simp only [entry, zipArgs, Nat.reduceAdd])
      repeat (first | apply Wp.seq | apply Wp.block | (apply Run.next; (simp only [push_cast, seval, hfl, hgl, hgb, hki, mpQ_shift, Kind.shift] <;> (try simp (disch := omega) only [wI, wU, wC]) <;> exact rfl); (focus ((try simp only [push_cast, seval, hfl, hgl, hgb, hki, mpQ_shift, Kind.shift]) <;> exact sT))) | ((first | apply Run.nil | apply Wp.skip); dsimp only [sQ, tQ, bQ]) | (apply Wp.run; (dsimp only [List.map] <;> exact rfl); exact rfl) | (apply Wp.exit; dsimp only [sQ, tQ, bQ]; simp only [reduceIte]) | (apply Run.gtrue; (simp only [push_cast, seval, hfl, hgl, hgb, hki, mpQ_shift, Kind.shift] <;> (try simp (disch := omega) only [wI, wU, wC]) <;> exact rfl); (simp only [push_cast, seval, hfl, hgl, hgb, hki, mpQ_shift, Kind.shift] <;> (try simp (disch := omega) only [wI, wU, wC]) <;> exact rfl)) | (apply Run.gfalse (.bool false); (simp only [push_cast, seval, hfl, hgl, hgb, hki, mpQ_shift, Kind.shift] <;> (try simp (disch := omega) only [wI, wU, wC]) <;> exact rfl); dsimp only [S.put, optG]) | (apply Wp.condT; (simp only [push_cast, seval, hfl, hgl, hgb, hki, mpQ_shift, Kind.shift] <;> (try simp (disch := omega) only [wI, wU, wC]) <;> exact rfl)) | (apply Wp.condF; (simp only [push_cast, seval, hfl, hgl, hgb, hki, mpQ_shift, Kind.shift] <;> (try simp (disch := omega) only [wI, wU, wC]) <;> exact rfl)))
      (apply Run.pureFP; (simp only [push_cast, seval, hfl, hgl, hgb, hki, mpQ_shift, Kind.shift] <;> (try simp (disch := omega) only [wI, wU, wC]) <;> exact rfl); (exact (Enters.of Try.func33 rfl rfl)); (exact hnm); (focus (simp only [push_cast, seval, hfl, hgl, hgb, hki, mpQ_shift, Kind.shift] <;> first | trivial | assumption | (refine ⟨?_, ?_⟩ <;> assumption) | (simp; done))); (try dsimp only [putA, optG]))
      repeat (first | apply Wp.seq | apply Wp.block | (apply Run.next; (simp only [push_cast, seval, hfl, hgl, hgb, hki, mpQ_shift, Kind.shift] <;> (try simp (disch := omega) only [wI, wU, wC]) <;> exact rfl); (focus ((try simp only [push_cast, seval, hfl, hgl, hgb, hki, mpQ_shift, Kind.shift]) <;> exact sT))) | ((first | apply Run.nil | apply Wp.skip); dsimp only [sQ, tQ, bQ]) | (apply Wp.run; (dsimp only [List.map] <;> exact rfl); exact rfl) | (apply Wp.exit; dsimp only [sQ, tQ, bQ]; simp only [reduceIte]) | (apply Run.gtrue; (simp only [push_cast, seval, hfl, hgl, hgb, hki, mpQ_shift, Kind.shift] <;> (try simp (disch := omega) only [wI, wU, wC]) <;> exact rfl); (simp only [push_cast, seval, hfl, hgl, hgb, hki, mpQ_shift, Kind.shift] <;> (try simp (disch := omega) only [wI, wU, wC]) <;> exact rfl)) | (apply Run.gfalse (.bool false); (simp only [push_cast, seval, hfl, hgl, hgb, hki, mpQ_shift, Kind.shift] <;> (try simp (disch := omega) only [wI, wU, wC]) <;> exact rfl); dsimp only [S.put, optG]) | (apply Wp.condT; (simp only [push_cast, seval, hfl, hgl, hgb, hki, mpQ_shift, Kind.shift] <;> (try simp (disch := omega) only [wI, wU, wC]) <;> exact rfl)) | (apply Wp.condF; (simp only [push_cast, seval, hfl, hgl, hgb, hki, mpQ_shift, Kind.shift] <;> (try simp (disch := omega) only [wI, wU, wC]) <;> exact rfl)))
      (apply Run.freshE (he := (Enters.of Try.func39 rfl rfl)); (simp only [push_cast, seval, hfl, hgl, hgb, hki, mpQ_shift, Kind.shift] <;> first | exact rfl | assumption); (simp only [push_cast, seval, hfl, hgl, hgb, hki, mpQ_shift, Kind.shift] <;> (try simp (disch := omega) only [wI, wU, wC]) <;> exact rfl); (exact hre); (focus (first | (simp only [push_cast, seval, hfl, hgl, hgb, hki, mpQ_shift, Kind.shift]; done) | trivial | (simp only [push_cast, seval, hfl, hgl, hgb, hki, mpQ_shift, Kind.shift]; trivial) | (simp; done))); (simp only [push_cast, seval, hfl, hgl, hgb, hki, mpQ_shift, Kind.shift] <;> (try simp (disch := omega) only [wI, wU, wC]) <;> exact rfl); (simp only [push_cast, seval, hfl, hgl, hgb, hki, mpQ_shift, Kind.shift] <;> (try simp (disch := omega) only [wI, wU, wC]) <;> exact rfl); dsimp only [S.put, optG])
      repeat (first | apply Wp.seq | apply Wp.block | (apply Run.next; (simp only [push_cast, seval, hfl, hgl, hgb, hki, mpQ_shift, Kind.shift] <;> (try simp (disch := omega) only [wI, wU, wC]) <;> exact rfl); (focus ((try simp only [push_cast, seval, hfl, hgl, hgb, hki, mpQ_shift, Kind.shift]) <;> exact sT))) | ((first | apply Run.nil | apply Wp.skip); dsimp only [sQ, tQ, bQ]) | (apply Wp.run; (dsimp only [List.map] <;> exact rfl); exact rfl) | (apply Wp.exit; dsimp only [sQ, tQ, bQ]; simp only [reduceIte]) | (apply Run.gtrue; (simp only [push_cast, seval, hfl, hgl, hgb, hki, mpQ_shift, Kind.shift] <;> (try simp (disch := omega) only [wI, wU, wC]) <;> exact rfl); (simp only [push_cast, seval, hfl, hgl, hgb, hki, mpQ_shift, Kind.shift] <;> (try simp (disch := omega) only [wI, wU, wC]) <;> exact rfl)) | (apply Run.gfalse (.bool false); (simp only [push_cast, seval, hfl, hgl, hgb, hki, mpQ_shift, Kind.shift] <;> (try simp (disch := omega) only [wI, wU, wC]) <;> exact rfl); dsimp only [S.put, optG]) | (apply Wp.condT; (simp only [push_cast, seval, hfl, hgl, hgb, hki, mpQ_shift, Kind.shift] <;> (try simp (disch := omega) only [wI, wU, wC]) <;> exact rfl)) | (apply Wp.condF; (simp only [push_cast, seval, hfl, hgl, hgb, hki, mpQ_shift, Kind.shift] <;> (try simp (disch := omega) only [wI, wU, wC]) <;> exact rfl)))
      (apply Wp.ret; (try dsimp only [sQ, tQ, bQ]); apply leave0; exact rfl; (simp only [push_cast, seval, hfl, hgl, hgb, hki, mpQ_shift, Kind.shift] <;> (try simp (disch := omega) only [wI, wU, wC]) <;> exact rfl); all_goals (try simp only [push_cast, seval, hfl, hgl, hgb, hki, mpQ_shift, Kind.shift]); (try rfl))
end Go.Proofs.Try
namespace Go.Proofs
open Go.Shelf
def Try.lays189_ren : Go.Shelf.Ren := ⟨fun | 189 => 42 | 125 => 62 | 257 => 61 | 128 => 79 | 129 => 80 | 294 => 70 | 295 => 71 | 296 => 72 | 297 => 73 | 298 => 74 | 299 => 75 | 216 => 76 | 300 => 77 | 301 => 78 | 328 => 85 | 329 => 86 | 330 => 87 | 331 => 88 | 332 => 89 | 215 => 90 | 343 => 91 | n => n, fun | 28 => 28 | 3 => 3 | 46 => 90 | 0 => 0 | 51 => 105 | 53 => 107 | 4 => 4 | 183 => 98 | 182 => 97 | 131 => 85 | 5 => 5 | 9 => 9 | 218 => 115 | 222 => 119 | 228 => 121 | 229 => 122 | n => n, fun | n => n⟩
theorem Try.lays189 : Go.Proofs.Lays.n189 Try.prog Try.lays189_ren := {
  mixed := by kernel_rfl
  f125 := Try.func62.trans (congrArg some (by kernel_rfl))
  f128 := Try.func79.trans (congrArg some (by kernel_rfl))
  f129 := Try.func80.trans (congrArg some (by kernel_rfl))
  f189 := Try.func42.trans (congrArg some (by kernel_rfl))
  f215 := Try.func90.trans (congrArg some (by kernel_rfl))
  f216 := Try.func76.trans (congrArg some (by kernel_rfl))
  f257 := Try.func61.trans (congrArg some (by kernel_rfl))
  f294 := Try.func70.trans (congrArg some (by kernel_rfl))
  f295 := Try.func71.trans (congrArg some (by kernel_rfl))
  f296 := Try.func72.trans (congrArg some (by kernel_rfl))
  f297 := Try.func73.trans (congrArg some (by kernel_rfl))
  f298 := Try.func74.trans (congrArg some (by kernel_rfl))
  f299 := Try.func75.trans (congrArg some (by kernel_rfl))
  f300 := Try.func77.trans (congrArg some (by kernel_rfl))
  f301 := Try.func78.trans (congrArg some (by kernel_rfl))
  f328 := Try.func85.trans (congrArg some (by kernel_rfl))
  f329 := Try.func86.trans (congrArg some (by kernel_rfl))
  f330 := Try.func87.trans (congrArg some (by kernel_rfl))
  f331 := Try.func88.trans (congrArg some (by kernel_rfl))
  f332 := Try.func89.trans (congrArg some (by kernel_rfl))
  f343 := Try.func91.trans (congrArg some (by kernel_rfl))
  t0 := Try.underlying0
  a0 := Try.isAgg0
  z0 := Try.sizeOf0
  v0 := Try.zeroValue0
  t3 := Try.underlying3
  a3 := Try.isAgg3
  z3 := Try.sizeOf3
  v3 := Try.zeroValue3
  t4 := Try.underlying4
  a4 := Try.isAgg4
  z4 := Try.sizeOf4
  v4 := Try.zeroValue4
  t5 := Try.underlying5
  a5 := Try.isAgg5
  z5 := Try.sizeOf5
  v5 := Try.zeroValue5
  t9 := Try.underlying9
  a9 := Try.isAgg9
  z9 := Try.sizeOf9
  v9 := Try.zeroValue9
  t28 := Try.underlying28
  a28 := Try.isAgg28
  z28 := Try.sizeOf28
  v28 := Try.zeroValue28
  t46 := Try.underlying90
  a46 := Try.isAgg90
  z46 := Try.sizeOf90
  v46 := Try.zeroValue90
  t51 := Try.underlying105
  a51 := Try.isAgg105
  z51 := Try.sizeOf105
  v51 := Try.zeroValue105
  t53 := Try.underlying107
  a53 := Try.isAgg107
  z53 := Try.sizeOf107
  v53 := Try.zeroValue107
  t131 := Try.underlying85
  a131 := Try.isAgg85
  z131 := Try.sizeOf85
  v131 := Try.zeroValue85
  t182 := Try.underlying97
  a182 := Try.isAgg97
  z182 := Try.sizeOf97
  v182 := Try.zeroValue97
  t183 := Try.underlying98
  a183 := Try.isAgg98
  z183 := Try.sizeOf98
  v183 := Try.zeroValue98
  t218 := Try.underlying115
  a218 := Try.isAgg115
  z218 := Try.sizeOf115
  v218 := Try.zeroValue115
  t222 := Try.underlying119
  a222 := Try.isAgg119
  z222 := Try.sizeOf119
  v222 := Try.zeroValue119
  t228 := Try.underlying121
  a228 := Try.isAgg121
  z228 := Try.sizeOf121
  v228 := Try.zeroValue121
  t229 := Try.underlying122
  a229 := Try.isAgg122
  z229 := Try.sizeOf122
  v229 := Try.zeroValue122 }
open Go.Sort Go.RowKit in
theorem Try.slices_Sort_int (blk off cap : Nat) (zs : List Int) (w : World) (hH : Holds (Value.int .i64) w blk off zs.toArray) (hblk : blk < w.heap.size) (hsz : zs.length < 4611686018427387904) :
    Calls Try.prog 42 #[.slice (some ⟨blk, off, none⟩) zs.length cap] w fun e w' =>
      e = .returned (.tuple #[]) ∧ ∃ n os, w' = grow (putRow (Value.int .i64) (Sort.ahead w n) blk off (zs.mergeSort fun x y => decide (x ≤ y)).toArray) os := Any.slices_Sort_int Try.lays189 blk off cap zs w hH hblk hsz
theorem Try.slices_Sort_int_none (p : Option Addr) (cap : Nat) (w : World) :
    Calls Try.prog 42 #[.slice p 0 cap] w fun e w' => e = .returned (.tuple #[]) ∧ w' = w := Any.slices_Sort_int_none Try.lays189 p cap w
end Go.Proofs
set_option maxHeartbeats 4000000
namespace Go.Proofs.Try
open Go.Vg Go.RowKit Go.Sort

/-! slices.Sort, of our own ints -/
theorem Inv_more {X : Nat → Prop} {w w' : World} {ρ : Rho} {m : Mem} (hi : Inv X w ρ m) (hb : ∀ b, b < w.heap.size → w'.heap[b]? = w.heap[b]?) (hs : w.heap.size ≤ w'.heap.size) (h1 : w'.os = w.os) (h2 : w'.tape = w.tape) (h3 : w'.output = w.output) : Inv X w' ρ m ∧ Tr w ρ w' ρ := by
  have ht : Tr w ρ w' ρ := ⟨h1, h2, h3, hs, fun _ r h => ⟨r, h, Nat.le_refl _, fun _ => rfl⟩, fun b hb' hlt => ⟨hb', hb b hlt⟩⟩
  refine ⟨⟨hi.len, fun i r e hr he => ?_, hi.apart, fun i r b hr hb' => ⟨Nat.lt_of_lt_of_le (hi.new i r b hr hb').1 hs, (hi.new i r b hr hb').2⟩, fun b hx => Nat.lt_of_lt_of_le (hi.out b hx) hs, hi.gd.tr ht⟩, ht⟩
  obtain ⟨q1, q2⟩ := hi.at_ i r e hr he
  exact ⟨q1, q2.mono ht.kp fun b hb' => hb b (hi.new i r b hr hb').1⟩
def srtI (l : List Int) : List Int := l.mergeSort fun x y => decide (x ≤ y)
theorem srtI_len (l : List Int) : (srtI l).length = l.length := List.length_mergeSort l
theorem sort_spec {m : Mem} {id ver : Nat} {l : List Int} (hm : m[id]? = some ⟨ver, .row 1 (l.map AV.int)⟩) (hlen : l.length ≤ 1000) :
    Go.Vg.Spec Try.prog 42 [.osl id ver 0 l.length] m (fun x m' => x = .any ∧ m' = m.set id ⟨ver, .row 1 ((srtI l).map AV.int)⟩) := by
  rintro X w ρ _ hi ⟨v, _, rfl, ⟨A, c, r, rfl, hr, hle, hat⟩, rfl⟩
  obtain ⟨r', hr', hver, hsz, hnone, hblk⟩ := hi.row hm
  rw [hr] at hr'; cases hr'
  obtain ⟨h1, h2, h3⟩ := hat hver.symm
  have hidl : id < m.length := (List.getElem?_eq_some_iff.1 hm).1
  by_cases h0 : l.length = 0
  · have hl : l = [] := List.eq_nil_of_length_eq_zero h0
    subst hl
    refine (Go.Proofs.Try.slices_Sort_int_none A c w).mono ?_
    rintro e w' ⟨rfl, rfl⟩
    refine ⟨_, .any, _, ρ, rfl, ⟨rfl, rfl⟩, trivial, ?_, Tr.refl _ _⟩
    have : m.set id ⟨ver, .row 1 ((srtI []).map AV.int)⟩ = m := by
      apply List.ext_getElem?
      intro k
      by_cases hk : k = id
      · subst hk
        rw [List.getElem?_set_self hidl, hm, show srtI [] = [] from by simp [srtI]]
      · rw [List.getElem?_set_ne (Ne.symm hk)]
    rw [this]; exact hi
  · obtain ⟨b, hb, rfl, hfit⟩ := h3 (by omega)
    obtain ⟨⟨arr, e0, fr, ha1, ha2, ha3, ha4⟩, hfitl, hrow⟩ := hblk b hb
    have hrowat : RowAt w b arr := ⟨e0, fr, ha1, ha3, ha4⟩
    rw [List.length_map] at hfitl
    rw [Nat.mul_one] at hfitl
    have hcell : ∀ j (hj : j < l.length), w.cell? ⟨b, r.base + j, none⟩ = some (.int .i64 l[j]) := by
      intro j hj
      obtain ⟨_, u, q1, _, q3⟩ := hrow.nth (i := j) (x := AV.int l[j]) (by simp [hj])
      have q3 : u = .int .i64 l[j] := q3
      rw [q3, Nat.mul_one] at q1
      exact q1
    have hH : Holds (Value.int .i64) w b (r.base + 0 * r.sz) l.toArray := by
      intro j hj
      have hj : j < l.length := by simpa using hj
      rw [Nat.zero_mul, Nat.add_zero]
      refine ⟨?_, hrowat.frozen (by omega)⟩
      rw [hcell j hj]
      simp [hj]
    have hblt : b < w.heap.size := (Array.getElem?_eq_some_iff.1 ha1).1
    refine (Go.Proofs.Try.slices_Sort_int b (r.base + 0 * r.sz) c l w hH hblt (by omega)).mono ?_
    rintro e w' ⟨rfl, nd, os, rfl⟩
    rw [Nat.zero_mul, Nat.add_zero]
    have hsl := srtI_len l
    have hSS : (l.mergeSort fun x y => decide (x ≤ y)) = srtI l := rfl
    rw [hSS]
    generalize srtI l = L at hsl
    have hput : (putRow (Value.int .i64) (Sort.ahead w nd) b r.base L.toArray).heap[b]? = some (.cells (putCells (Value.int .i64) r.base L.toArray arr) e0 fr) := by
      show (w.heap.modify b _)[b]? = _
      rw [Array.getElem?_modify, if_pos rfl, ha1]; rfl
    have hoth : ∀ k, k ≠ b → (putRow (Value.int .i64) (Sort.ahead w nd) b r.base L.toArray).heap[k]? = w.heap[k]? := by
      intro k hk
      show (w.heap.modify b _)[k]? = _
      rw [Array.getElem?_modify, if_neg (Ne.symm hk)]
    have hszp : (putRow (Value.int .i64) (Sort.ahead w nd) b r.base L.toArray).heap.size = w.heap.size := Array.size_modify
    have hturn : Turns w b (putRow (Value.int .i64) (Sort.ahead w nd) b r.base L.toArray) := ⟨rfl, rfl, rfl, hszp, hoth⟩
    have hsc : (putCells (Value.int .i64) r.base L.toArray arr).size = arr.size := by simp [putCells]
    have hra : RowAt (putRow (Value.int .i64) (Sort.ahead w nd) b r.base L.toArray) b (putCells (Value.int .i64) r.base L.toArray arr) := ⟨e0, fr, hput, ha3, by rw [hsc]; exact ha4⟩
    have hinv := hi.write hr hb hver hturn (l' := L.map AV.int) hsz hra (by rw [hsc]; exact ha2) (by rw [List.length_map, Nat.mul_one]; omega) (by
      refine Rrow_of_cells fun i x hx => ?_
      have hil : i < L.length := by
        have := (List.getElem?_eq_some_iff.1 hx).1
        simpa using this
      have hxe : x = AV.int L[i] := by simpa [hil] using hx.symm
      subst hxe
      refine ⟨rfl, .int .i64 L[i], ?_, rfl, rfl⟩
      rw [Nat.mul_one, hra.cell]
      have hai : r.base + i < arr.size := by omega
      simp only [putCells, Array.getElem?_mapIdx]
      rw [Array.getElem?_eq_getElem hai]
      simp [hil])
    have htr := Tr.turn hr hb hturn
    obtain ⟨g1, g2⟩ := Inv_more (w' := Sort.grow (putRow (Value.int .i64) (Sort.ahead w nd) b r.base L.toArray) os) hinv (fun k hk => by
      show (_ ++ os)[k]? = _
      rw [Array.getElem?_append_left hk]) (by show _ ≤ (_ ++ os).size; rw [Array.size_append]; omega) rfl rfl rfl
    exact ⟨_, .any, _, ρ, rfl, ⟨rfl, rfl⟩, trivial, g1, htr.trans g2⟩
end Go.Proofs.Try
