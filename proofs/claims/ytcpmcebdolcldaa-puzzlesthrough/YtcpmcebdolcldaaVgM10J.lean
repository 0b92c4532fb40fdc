/- A part of the proof of PuzzlesThrough: contracts of functions, with plain laws that they need. -/
import Derived.Test.YtcpmcebdolcldaaVgM6J
set_option linter.all false
set_option maxHeartbeats 8000000
set_option maxRecDepth 20000
namespace Go.Proofs.Try
open Go.Vg

/-! Traps -/
theorem has_spec {m : Mem} {id ver : Nat} {Q : QL} {c n : Nat} (hm : m[id]? = some ⟨ver, .mp (mpQ Q)⟩) (hn : n ≤ 64) (hq : QB n Q) (hc : c < 64) : Go.Vg.Spec Try.prog 41 [.omap id ver, .int c] m (fun x m' => x = .bool (knB Q c) ∧ m' = m) := by
  have hfl := findL_mpQ Q c
  have hgl := mpQ_good Q n hn hq
  have hgb := goodInt (a := (c : Int)) (by omega)
  have hki : Maps.Keyed Try.prog 3 = True := eq_true keyedInt
  cases hw : wayQ Q c with
  | none =>
    rw [hw, Option.map_none] at hfl
    rw [wayQ_none.1 hw]
    (refine Spec.of_bodyA Try.func41 rfl (by rw [Try.ntmps41]; simp) ?_; rw [Try.results41, Try.ntmps41]; simp only [entry, zipArgs, Nat.reduceAdd])
    repeat (first | apply Wp.seq | apply Wp.block | (apply Run.next; (simp only [push_cast, seval, hm, hfl, hgl, hgb, hki] <;> (try simp (disch := omega) only [wI, wU, wC]) <;> exact rfl); (focus ((try simp only [push_cast, seval, hm, hfl, hgl, hgb, hki]) <;> exact sT))) | ((first | apply Run.nil | apply Wp.skip); dsimp only [sQ, tQ, bQ]) | (apply Wp.run; (dsimp only [List.map] <;> exact rfl); exact rfl) | (apply Wp.exit; dsimp only [sQ, tQ, bQ]; simp only [reduceIte]) | (apply Run.gtrue; (simp only [push_cast, seval, hm, hfl, hgl, hgb, hki] <;> (try simp (disch := omega) only [wI, wU, wC]) <;> exact rfl); (simp only [push_cast, seval, hm, hfl, hgl, hgb, hki] <;> (try simp (disch := omega) only [wI, wU, wC]) <;> exact rfl)) | (apply Run.gfalse (.bool false); (simp only [push_cast, seval, hm, hfl, hgl, hgb, hki] <;> (try simp (disch := omega) only [wI, wU, wC]) <;> exact rfl); dsimp only [S.put, optG]) | (apply Wp.condT; (simp only [push_cast, seval, hm, hfl, hgl, hgb, hki] <;> (try simp (disch := omega) only [wI, wU, wC]) <;> exact rfl)) | (apply Wp.condF; (simp only [push_cast, seval, hm, hfl, hgl, hgb, hki] <;> (try simp (disch := omega) only [wI, wU, wC]) <;> exact rfl)))
    (apply Wp.ret; (try dsimp only [sQ, tQ, bQ]); apply leaveA; exact rfl; (simp only [push_cast, seval, hm, hfl, hgl, hgb, hki] <;> (try simp (disch := omega) only [wI, wU, wC]) <;> exact rfl); (focus (first | (simp only [push_cast, seval, hm, hfl, hgl, hgb, hki]; done) | trivial | (simp only [push_cast, seval, hm, hfl, hgl, hgb, hki]; trivial) | (simp; done))); (try simp only [push_cast, seval, hm, hfl, hgl, hgb, hki]))
  | some wd =>
    rw [hw, Option.map_some] at hfl
    have hk : knB Q c = true := by
      cases h : knB Q c with
      | true => rfl
      | false => rw [wayQ_none.2 h] at hw; cases hw
    rw [hk]
    (refine Spec.of_bodyA Try.func41 rfl (by rw [Try.ntmps41]; simp) ?_; rw [Try.results41, Try.ntmps41]; simp only [entry, zipArgs, Nat.reduceAdd])
    repeat (first | apply Wp.seq | apply Wp.block | (apply Run.next; (simp only [push_cast, seval, hm, hfl, hgl, hgb, hki] <;> (try simp (disch := omega) only [wI, wU, wC]) <;> exact rfl); (focus ((try simp only [push_cast, seval, hm, hfl, hgl, hgb, hki]) <;> exact sT))) | ((first | apply Run.nil | apply Wp.skip); dsimp only [sQ, tQ, bQ]) | (apply Wp.run; (dsimp only [List.map] <;> exact rfl); exact rfl) | (apply Wp.exit; dsimp only [sQ, tQ, bQ]; simp only [reduceIte]) | (apply Run.gtrue; (simp only [push_cast, seval, hm, hfl, hgl, hgb, hki] <;> (try simp (disch := omega) only [wI, wU, wC]) <;> exact rfl); (simp only [push_cast, seval, hm, hfl, hgl, hgb, hki] <;> (try simp (disch := omega) only [wI, wU, wC]) <;> exact rfl)) | (apply Run.gfalse (.bool false); (simp only [push_cast, seval, hm, hfl, hgl, hgb, hki] <;> (try simp (disch := omega) only [wI, wU, wC]) <;> exact rfl); dsimp only [S.put, optG]) | (apply Wp.condT; (simp only [push_cast, seval, hm, hfl, hgl, hgb, hki] <;> (try simp (disch := omega) only [wI, wU, wC]) <;> exact rfl)) | (apply Wp.condF; (simp only [push_cast, seval, hm, hfl, hgl, hgb, hki] <;> (try simp (disch := omega) only [wI, wU, wC]) <;> exact rfl)))
    (apply Wp.ret; (try dsimp only [sQ, tQ, bQ]); apply leaveA; exact rfl; (simp only [push_cast, seval, hm, hfl, hgl, hgb, hki] <;> (try simp (disch := omega) only [wI, wU, wC]) <;> exact rfl); (focus (first | (simp only [push_cast, seval, hm, hfl, hgl, hgb, hki]; done) | trivial | (simp only [push_cast, seval, hm, hfl, hgl, hgb, hki]; trivial) | (simp; done))); (try simp only [push_cast, seval, hm, hfl, hgl, hgb, hki]))
def outT (R : Nat → Nat → Nat) (n : Nat) (Q : QL) (b k : Nat) : List Int := (List.range k).flatMap fun j : Nat => if knB (bfs R n (qc Q j)) b = true then [] else [(qc Q j : Int)]
theorem outT_snoc (R : Nat → Nat → Nat) (n : Nat) (Q : QL) (b k : Nat) : outT R n Q b (k + 1) = outT R n Q b k ++ (if knB (bfs R n (qc Q k)) b = true then [] else [(qc Q k : Int)]) := by
  unfold outT; rw [List.range_succ, List.flatMap_append]; simp
theorem outT_len (R : Nat → Nat → Nat) (n : Nat) (Q : QL) (b : Nat) : ∀ k, (outT R n Q b k).length ≤ k
  | 0 => by simp [outT]
  | k + 1 => by
    have := outT_len R n Q b k
    rw [outT_snoc, List.length_append]
    split
    · simp; omega
    · simp; omega
def trpL (w h : Int) (W : List Bool) (fr to : Int) : List Int := srtI (outT (rlC w h W) W.length (bfs (rlC w h W) W.length fr.toNat) to.toNat (bfs (rlC w h W) W.length fr.toNat).length)
def trpA (w h : Int) (W : List Bool) (fr to : Int) : AV := if mazeB w h W fr to = true then .ints (trpL w h W fr to) else .emp
def trpE (w h : Int) (W : List Bool) (fr to : Int) : Int := if mazeB w h W fr to = true then 0 else 30
theorem Traps_pure (w h fr to : Int) (W : List Bool) : Pure Try.prog 21 [meA w h W fr to] (.tup [trpA w h W fr to, .int (trpE w h W fr to)]) := by
  have hnm := newMaze_pure w h fr to W
  cases hm : mazeB w h W fr to with
  | false =>
    rw [hm] at hnm
    rw [show trpA w h W fr to = .emp from by unfold trpA; rw [hm]; rfl, show trpE w h W fr to = 30 from by unfold trpE; rw [hm]; rfl]
    (refine Spec.of_body Try.func21 rfl (by rw [Try.ntmps21]; simp) 0 (by simp) ?_; rw [Try.results21, Try.ntmps21]; simp only [entry, zipArgs, Nat.reduceAdd])
    repeat (first | apply Wp.seq | apply Wp.block | (apply Run.next; (simp only [push_cast, seval] <;> (try simp (disch := omega) only [wI, wU, wC]) <;> exact rfl); (focus ((try simp only [push_cast, seval]) <;> exact sT))) | ((first | apply Run.nil | apply Wp.skip); dsimp only [sQ, tQ, bQ]) | (apply Wp.run; (dsimp only [List.map] <;> exact rfl); exact rfl) | (apply Wp.exit; dsimp only [sQ, tQ, bQ]; simp only [reduceIte]) | (apply Run.gtrue; (simp only [push_cast, seval] <;> (try simp (disch := omega) only [wI, wU, wC]) <;> exact rfl); (simp only [push_cast, seval] <;> (try simp (disch := omega) only [wI, wU, wC]) <;> exact rfl)) | (apply Run.gfalse (.bool false); (simp only [push_cast, seval] <;> (try simp (disch := omega) only [wI, wU, wC]) <;> exact rfl); dsimp only [S.put, optG]) | (apply Wp.condT; (simp only [push_cast, seval] <;> (try simp (disch := omega) only [wI, wU, wC]) <;> exact rfl)) | (apply Wp.condF; (simp only [push_cast, seval] <;> (try simp (disch := omega) only [wI, wU, wC]) <;> exact rfl)))
    (apply Run.pureFP; (simp only [push_cast, seval] <;> (try simp (disch := omega) only [wI, wU, wC]) <;> exact rfl); (exact (Enters.of Try.func33 rfl rfl)); (exact hnm); (focus (simp only [push_cast, seval] <;> first | trivial | assumption | (refine ⟨?_, ?_⟩ <;> assumption) | (simp; done))); (try dsimp only [putA, optG]))
    repeat (first | apply Wp.seq | apply Wp.block | (apply Run.next; (simp only [push_cast, seval] <;> (try simp (disch := omega) only [wI, wU, wC]) <;> exact rfl); (focus ((try simp only [push_cast, seval]) <;> exact sT))) | ((first | apply Run.nil | apply Wp.skip); dsimp only [sQ, tQ, bQ]) | (apply Wp.run; (dsimp only [List.map] <;> exact rfl); exact rfl) | (apply Wp.exit; dsimp only [sQ, tQ, bQ]; simp only [reduceIte]) | (apply Run.gtrue; (simp only [push_cast, seval] <;> (try simp (disch := omega) only [wI, wU, wC]) <;> exact rfl); (simp only [push_cast, seval] <;> (try simp (disch := omega) only [wI, wU, wC]) <;> exact rfl)) | (apply Run.gfalse (.bool false); (simp only [push_cast, seval] <;> (try simp (disch := omega) only [wI, wU, wC]) <;> exact rfl); dsimp only [S.put, optG]) | (apply Wp.condT; (simp only [push_cast, seval] <;> (try simp (disch := omega) only [wI, wU, wC]) <;> exact rfl)) | (apply Wp.condF; (simp only [push_cast, seval] <;> (try simp (disch := omega) only [wI, wU, wC]) <;> exact rfl)))
    (apply Wp.ret; (try dsimp only [sQ, tQ, bQ]); apply leave0; exact rfl; (simp only [push_cast, seval] <;> (try simp (disch := omega) only [wI, wU, wC]) <;> exact rfl); all_goals (try simp only [push_cast, seval]); (try rfl))
  | true =>
    rw [hm] at hnm
    obtain ⟨hz, a, b, rfl, rfl, hal, hbl, _, _⟩ := maze_is hm
    have hn := hz.n2
    have hre := reached_spec hz a b a hal
    have hR : ∀ c s, c < W.length → s < 4 → rlC w h W c s < W.length := fun c s hc _ => rl_lt hz hc
    obtain ⟨hBI, hQB⟩ := bfs_is (rlC w h W) hR hal
    have hQn := hBI.len _ hQB
    have hA : trpA w h W a b = .ints (srtI (outT (rlC w h W) W.length (bfs (rlC w h W) W.length a) b (bfs (rlC w h W) W.length a).length)) := by unfold trpA trpL; rw [if_pos hm, Int.toNat_natCast, Int.toNat_natCast]
    have hE : trpE w h W a b = 0 := by unfold trpE; rw [if_pos hm]
    rw [hA, hE]
    have hrall := fun c hc => reached_spec hz a b c hc
    have hball := fun c (hc : c < W.length) => bfs_is (rlC w h W) hR hc
    generalize rlC w h W = R at hre hBI hQB hQn hrall hball
    generalize bfs R W.length a = Q at hre hBI hQB hQn
    have hcl := cqL_len Q
    (refine Spec.of_body Try.func21 rfl (by rw [Try.ntmps21]; simp) 0 (by simp) ?_; rw [Try.results21, Try.ntmps21]; simp only [entry, zipArgs, Nat.reduceAdd])
    repeat (first | apply Wp.seq | apply Wp.block | (apply Run.next; (simp only [push_cast, seval, mpQ_shift, Kind.shift, List.length_map, hcl] <;> (try simp (disch := omega) only [wI, wU, wC]) <;> exact rfl); (focus ((try simp only [push_cast, seval, mpQ_shift, Kind.shift, List.length_map, hcl]) <;> exact sT))) | ((first | apply Run.nil | apply Wp.skip); dsimp only [sQ, tQ, bQ]) | (apply Wp.run; (dsimp only [List.map] <;> exact rfl); exact rfl) | (apply Wp.exit; dsimp only [sQ, tQ, bQ]; simp only [reduceIte]) | (apply Run.gtrue; (simp only [push_cast, seval, mpQ_shift, Kind.shift, List.length_map, hcl] <;> (try simp (disch := omega) only [wI, wU, wC]) <;> exact rfl); (simp only [push_cast, seval, mpQ_shift, Kind.shift, List.length_map, hcl] <;> (try simp (disch := omega) only [wI, wU, wC]) <;> exact rfl)) | (apply Run.gfalse (.bool false); (simp only [push_cast, seval, mpQ_shift, Kind.shift, List.length_map, hcl] <;> (try simp (disch := omega) only [wI, wU, wC]) <;> exact rfl); dsimp only [S.put, optG]) | (apply Wp.condT; (simp only [push_cast, seval, mpQ_shift, Kind.shift, List.length_map, hcl] <;> (try simp (disch := omega) only [wI, wU, wC]) <;> exact rfl)) | (apply Wp.condF; (simp only [push_cast, seval, mpQ_shift, Kind.shift, List.length_map, hcl] <;> (try simp (disch := omega) only [wI, wU, wC]) <;> exact rfl)))
    (apply Run.pureFP; (simp only [push_cast, seval, mpQ_shift, Kind.shift, List.length_map, hcl] <;> (try simp (disch := omega) only [wI, wU, wC]) <;> exact rfl); (exact (Enters.of Try.func33 rfl rfl)); (exact hnm); (focus (simp only [push_cast, seval, mpQ_shift, Kind.shift, List.length_map, hcl] <;> first | trivial | assumption | (refine ⟨?_, ?_⟩ <;> assumption) | (simp; done))); (try dsimp only [putA, optG]))
    repeat (first | apply Wp.seq | apply Wp.block | (apply Run.next; (simp only [push_cast, seval, mpQ_shift, Kind.shift, List.length_map, hcl] <;> (try simp (disch := omega) only [wI, wU, wC]) <;> exact rfl); (focus ((try simp only [push_cast, seval, mpQ_shift, Kind.shift, List.length_map, hcl]) <;> exact sT))) | ((first | apply Run.nil | apply Wp.skip); dsimp only [sQ, tQ, bQ]) | (apply Wp.run; (dsimp only [List.map] <;> exact rfl); exact rfl) | (apply Wp.exit; dsimp only [sQ, tQ, bQ]; simp only [reduceIte]) | (apply Run.gtrue; (simp only [push_cast, seval, mpQ_shift, Kind.shift, List.length_map, hcl] <;> (try simp (disch := omega) only [wI, wU, wC]) <;> exact rfl); (simp only [push_cast, seval, mpQ_shift, Kind.shift, List.length_map, hcl] <;> (try simp (disch := omega) only [wI, wU, wC]) <;> exact rfl)) | (apply Run.gfalse (.bool false); (simp only [push_cast, seval, mpQ_shift, Kind.shift, List.length_map, hcl] <;> (try simp (disch := omega) only [wI, wU, wC]) <;> exact rfl); dsimp only [S.put, optG]) | (apply Wp.condT; (simp only [push_cast, seval, mpQ_shift, Kind.shift, List.length_map, hcl] <;> (try simp (disch := omega) only [wI, wU, wC]) <;> exact rfl)) | (apply Wp.condF; (simp only [push_cast, seval, mpQ_shift, Kind.shift, List.length_map, hcl] <;> (try simp (disch := omega) only [wI, wU, wC]) <;> exact rfl)))
    (apply Run.freshE (he := (Enters.of Try.func39 rfl rfl)); (simp only [push_cast, seval, mpQ_shift, Kind.shift, List.length_map, hcl] <;> first | exact rfl | assumption); (simp only [push_cast, seval, mpQ_shift, Kind.shift, List.length_map, hcl] <;> (try simp (disch := omega) only [wI, wU, wC]) <;> exact rfl); (exact hre); (focus (first | (simp only [push_cast, seval, mpQ_shift, Kind.shift, List.length_map, hcl]; done) | trivial | (simp only [push_cast, seval, mpQ_shift, Kind.shift, List.length_map, hcl]; trivial) | (simp; done))); (simp only [push_cast, seval, mpQ_shift, Kind.shift, List.length_map, hcl] <;> (try simp (disch := omega) only [wI, wU, wC]) <;> exact rfl); (simp only [push_cast, seval, mpQ_shift, Kind.shift, List.length_map, hcl] <;> (try simp (disch := omega) only [wI, wU, wC]) <;> exact rfl); dsimp only [S.put, optG])
    repeat (first | apply Wp.seq | apply Wp.block | (apply Run.next; (simp only [push_cast, seval, mpQ_shift, Kind.shift, List.length_map, hcl] <;> (try simp (disch := omega) only [wI, wU, wC]) <;> exact rfl); (focus ((try simp only [push_cast, seval, mpQ_shift, Kind.shift, List.length_map, hcl]) <;> exact sT))) | ((first | apply Run.nil | apply Wp.skip); dsimp only [sQ, tQ, bQ]) | (apply Wp.run; (dsimp only [List.map] <;> exact rfl); exact rfl) | (apply Wp.exit; dsimp only [sQ, tQ, bQ]; simp only [reduceIte]) | (apply Run.gtrue; (simp only [push_cast, seval, mpQ_shift, Kind.shift, List.length_map, hcl] <;> (try simp (disch := omega) only [wI, wU, wC]) <;> exact rfl); (simp only [push_cast, seval, mpQ_shift, Kind.shift, List.length_map, hcl] <;> (try simp (disch := omega) only [wI, wU, wC]) <;> exact rfl)) | (apply Run.gfalse (.bool false); (simp only [push_cast, seval, mpQ_shift, Kind.shift, List.length_map, hcl] <;> (try simp (disch := omega) only [wI, wU, wC]) <;> exact rfl); dsimp only [S.put, optG]) | (apply Wp.condT; (simp only [push_cast, seval, mpQ_shift, Kind.shift, List.length_map, hcl] <;> (try simp (disch := omega) only [wI, wU, wC]) <;> exact rfl)) | (apply Wp.condF; (simp only [push_cast, seval, mpQ_shift, Kind.shift, List.length_map, hcl] <;> (try simp (disch := omega) only [wI, wU, wC]) <;> exact rfl)))
    apply Wp.adopt 2 1; (simp only [push_cast, seval, mpQ_shift, Kind.shift, List.length_map, hcl] <;> (try simp (disch := omega) only [wI, wU, wC]) <;> exact rfl)
    refine Wp.loop (fun (q : Nat × Mem) => { t := [(1, .optr 0 0 0 0), (4, .optr 1 0 0 0), (2, .osl 5 (outT R W.length Q b q.1).length 0 (outT R W.length Q b q.1).length), (26, .ints (cqL Q)), (27, .int Q.length), (28, .int q.1)], m := ⟨0, .row 5 [meA w h W a b]⟩ :: ⟨0, .row 7 [mzA w h W a b]⟩ :: ⟨0, .row 7 [mzA w h W a b]⟩ :: ⟨Q.length, .row 1 []⟩ :: ⟨0, .mp (mpQ Q)⟩ :: ⟨(outT R W.length Q b q.1).length, .row 1 ((outT R W.length Q b q.1).map AV.int)⟩ :: q.2, n := 51 }) (fun q => q.1 ≤ Q.length) (fun q => Q.length - q.1) (0, []) ?_ ?_ ?_
    · (refine Le.of ?_ ?_ rfl rfl <;> (try simp only [push_cast, seval, mpQ_shift, Kind.shift, List.length_map, hcl]) <;> (try (with_reducible rfl)))
      all_goals rfl
    · simp
    · rintro ⟨k, J⟩ hk
      simp only at hk
      have hol := outT_len R W.length Q b k
      have hos := outT_snoc R W.length Q b k
      by_cases hkb : k < Q.length
      · have e1 : decide ((k : Int) < (Q.length : Int)) = true := decide_eq_true (by omega)
        have hci := cqL_getD Q k hkb
        have hcn := qc_lt hQB hkb
        have hrc := hrall (qc Q k) hcn
        obtain ⟨hB2, hq2⟩ := hball (qc Q k) hcn
        generalize outT R W.length Q b k = O at hol hos
        generalize qc Q k = c at hci hcn hrc hos hB2 hq2
        generalize bfs R W.length c = Qc at hrc hos hB2 hq2
        repeat (first | apply Wp.seq | apply Wp.block | (apply Run.next; (simp only [push_cast, seval, mpQ_shift, Kind.shift, List.length_map, hcl, e1, hci] <;> (try simp (disch := omega) only [wI, wU, wC]) <;> exact rfl); (focus ((try simp only [push_cast, seval, mpQ_shift, Kind.shift, List.length_map, hcl, e1, hci]) <;> exact sT))) | ((first | apply Run.nil | apply Wp.skip); dsimp only [sQ, tQ, bQ]) | (apply Wp.run; (dsimp only [List.map] <;> exact rfl); exact rfl) | (apply Wp.exit; dsimp only [sQ, tQ, bQ]; simp only [reduceIte]) | (apply Run.gtrue; (simp only [push_cast, seval, mpQ_shift, Kind.shift, List.length_map, hcl, e1, hci] <;> (try simp (disch := omega) only [wI, wU, wC]) <;> exact rfl); (simp only [push_cast, seval, mpQ_shift, Kind.shift, List.length_map, hcl, e1, hci] <;> (try simp (disch := omega) only [wI, wU, wC]) <;> exact rfl)) | (apply Run.gfalse (.bool false); (simp only [push_cast, seval, mpQ_shift, Kind.shift, List.length_map, hcl, e1, hci] <;> (try simp (disch := omega) only [wI, wU, wC]) <;> exact rfl); dsimp only [S.put, optG]) | (apply Wp.condT; (simp only [push_cast, seval, mpQ_shift, Kind.shift, List.length_map, hcl, e1, hci] <;> (try simp (disch := omega) only [wI, wU, wC]) <;> exact rfl)) | (apply Wp.condF; (simp only [push_cast, seval, mpQ_shift, Kind.shift, List.length_map, hcl, e1, hci] <;> (try simp (disch := omega) only [wI, wU, wC]) <;> exact rfl)))
        (apply Run.freshE (he := (Enters.of Try.func39 rfl rfl)); (simp only [push_cast, seval, mpQ_shift, Kind.shift, List.length_map, hcl, e1, hci] <;> first | exact rfl | assumption); (simp only [push_cast, seval, mpQ_shift, Kind.shift, List.length_map, hcl, e1, hci] <;> (try simp (disch := omega) only [wI, wU, wC]) <;> exact rfl); (exact hrc); (focus (first | (simp only [push_cast, seval, mpQ_shift, Kind.shift, List.length_map, hcl, e1, hci]; done) | trivial | (simp only [push_cast, seval, mpQ_shift, Kind.shift, List.length_map, hcl, e1, hci]; trivial) | (simp; done))); (simp only [push_cast, seval, mpQ_shift, Kind.shift, List.length_map, hcl, e1, hci] <;> (try simp (disch := omega) only [wI, wU, wC]) <;> exact rfl); (simp only [push_cast, seval, mpQ_shift, Kind.shift, List.length_map, hcl, e1, hci] <;> (try simp (disch := omega) only [wI, wU, wC]) <;> exact rfl); dsimp only [S.put, optG])
        repeat (first | apply Wp.seq | apply Wp.block | (apply Run.next; (simp only [push_cast, seval, mpQ_shift, Kind.shift, List.length_map, hcl, e1, hci] <;> (try simp (disch := omega) only [wI, wU, wC]) <;> exact rfl); (focus ((try simp only [push_cast, seval, mpQ_shift, Kind.shift, List.length_map, hcl, e1, hci]) <;> exact sT))) | ((first | apply Run.nil | apply Wp.skip); dsimp only [sQ, tQ, bQ]) | (apply Wp.run; (dsimp only [List.map] <;> exact rfl); exact rfl) | (apply Wp.exit; dsimp only [sQ, tQ, bQ]; simp only [reduceIte]) | (apply Run.gtrue; (simp only [push_cast, seval, mpQ_shift, Kind.shift, List.length_map, hcl, e1, hci] <;> (try simp (disch := omega) only [wI, wU, wC]) <;> exact rfl); (simp only [push_cast, seval, mpQ_shift, Kind.shift, List.length_map, hcl, e1, hci] <;> (try simp (disch := omega) only [wI, wU, wC]) <;> exact rfl)) | (apply Run.gfalse (.bool false); (simp only [push_cast, seval, mpQ_shift, Kind.shift, List.length_map, hcl, e1, hci] <;> (try simp (disch := omega) only [wI, wU, wC]) <;> exact rfl); dsimp only [S.put, optG]) | (apply Wp.condT; (simp only [push_cast, seval, mpQ_shift, Kind.shift, List.length_map, hcl, e1, hci] <;> (try simp (disch := omega) only [wI, wU, wC]) <;> exact rfl)) | (apply Wp.condF; (simp only [push_cast, seval, mpQ_shift, Kind.shift, List.length_map, hcl, e1, hci] <;> (try simp (disch := omega) only [wI, wU, wC]) <;> exact rfl)))
        (apply Run.spec (he := Enters.of Try.func41 rfl rfl); exact rfl; (simp only [push_cast, seval, mpQ_shift, Kind.shift, List.length_map, hcl, e1, hci] <;> first | exact rfl | assumption); (simp only [push_cast, seval, mpQ_shift, Kind.shift, List.length_map, hcl, e1, hci] <;> (try simp (disch := omega) only [wI, wU, wC]) <;> exact rfl))
        · refine has_spec (Q := Qc) (ver := 0) (n := W.length) ?_ hn hq2 (by omega)
          rw [show J.length + 1 + 1 + 1 + 1 + 1 + 1 + 2 = (J.length + 2) + 6 by omega]
          show (J ++ _)[J.length + 2]? = _
          rw [List.getElem?_append_right (by omega)]
          simp
        · rintro _ _ ⟨rfl, rfl⟩
          dsimp only [S.put, optG]
          cases hkn : knB Qc b with
          | true =>
            rw [hkn, if_pos rfl, List.append_nil] at hos
            repeat (first | apply Wp.seq | apply Wp.block | (apply Run.next; (simp only [push_cast, seval, mpQ_shift, Kind.shift, List.length_map, hcl, e1, hci] <;> (try simp (disch := omega) only [wI, wU, wC]) <;> exact rfl); (focus ((try simp only [push_cast, seval, mpQ_shift, Kind.shift, List.length_map, hcl, e1, hci]) <;> exact sT))) | ((first | apply Run.nil | apply Wp.skip); dsimp only [sQ, tQ, bQ]) | (apply Wp.run; (dsimp only [List.map] <;> exact rfl); exact rfl) | (apply Wp.exit; dsimp only [sQ, tQ, bQ]; simp only [reduceIte]) | (apply Run.gtrue; (simp only [push_cast, seval, mpQ_shift, Kind.shift, List.length_map, hcl, e1, hci] <;> (try simp (disch := omega) only [wI, wU, wC]) <;> exact rfl); (simp only [push_cast, seval, mpQ_shift, Kind.shift, List.length_map, hcl, e1, hci] <;> (try simp (disch := omega) only [wI, wU, wC]) <;> exact rfl)) | (apply Run.gfalse (.bool false); (simp only [push_cast, seval, mpQ_shift, Kind.shift, List.length_map, hcl, e1, hci] <;> (try simp (disch := omega) only [wI, wU, wC]) <;> exact rfl); dsimp only [S.put, optG]) | (apply Wp.condT; (simp only [push_cast, seval, mpQ_shift, Kind.shift, List.length_map, hcl, e1, hci] <;> (try simp (disch := omega) only [wI, wU, wC]) <;> exact rfl)) | (apply Wp.condF; (simp only [push_cast, seval, mpQ_shift, Kind.shift, List.length_map, hcl, e1, hci] <;> (try simp (disch := omega) only [wI, wU, wC]) <;> exact rfl)))
            refine ⟨(k + 1, J ++ [⟨0, .row 7 [mzA w h W a b]⟩, ⟨Qc.length, .row 1 []⟩, ⟨0, .mp (mpQ Qc)⟩]), ?_, by simp only; omega, by simp only; omega⟩
            simp only
            rw [hos]
            (refine Le.of ?_ ?_ rfl rfl <;> (try simp only [push_cast, seval, mpQ_shift, Kind.shift, List.length_map, hcl, e1, hci]) <;> (try (with_reducible rfl)))
            all_goals rfl
          | false =>
            rw [hkn, if_neg (by simp)] at hos
            have hto : O.take O.length = O := List.take_length
            repeat (first | apply Wp.seq | apply Wp.block | (apply Run.next; (simp only [push_cast, seval, mpQ_shift, Kind.shift, List.length_map, hcl, e1, hci, hto] <;> (try simp (disch := omega) only [wI, wU, wC]) <;> exact rfl); (focus ((try simp only [push_cast, seval, mpQ_shift, Kind.shift, List.length_map, hcl, e1, hci, hto]) <;> exact sT))) | ((first | apply Run.nil | apply Wp.skip); dsimp only [sQ, tQ, bQ]) | (apply Wp.run; (dsimp only [List.map] <;> exact rfl); exact rfl) | (apply Wp.exit; dsimp only [sQ, tQ, bQ]; simp only [reduceIte]) | (apply Run.gtrue; (simp only [push_cast, seval, mpQ_shift, Kind.shift, List.length_map, hcl, e1, hci, hto] <;> (try simp (disch := omega) only [wI, wU, wC]) <;> exact rfl); (simp only [push_cast, seval, mpQ_shift, Kind.shift, List.length_map, hcl, e1, hci, hto] <;> (try simp (disch := omega) only [wI, wU, wC]) <;> exact rfl)) | (apply Run.gfalse (.bool false); (simp only [push_cast, seval, mpQ_shift, Kind.shift, List.length_map, hcl, e1, hci, hto] <;> (try simp (disch := omega) only [wI, wU, wC]) <;> exact rfl); dsimp only [S.put, optG]) | (apply Wp.condT; (simp only [push_cast, seval, mpQ_shift, Kind.shift, List.length_map, hcl, e1, hci, hto] <;> (try simp (disch := omega) only [wI, wU, wC]) <;> exact rfl)) | (apply Wp.condF; (simp only [push_cast, seval, mpQ_shift, Kind.shift, List.length_map, hcl, e1, hci, hto] <;> (try simp (disch := omega) only [wI, wU, wC]) <;> exact rfl)))
            refine ⟨(k + 1, J ++ [⟨0, .row 7 [mzA w h W a b]⟩, ⟨Qc.length, .row 1 []⟩, ⟨0, .mp (mpQ Qc)⟩]), ?_, by simp only; omega, by simp only; omega⟩
            simp only
            rw [hos, List.length_append, List.map_append]
            (refine Le.of ?_ ?_ rfl rfl <;> (try simp only [push_cast, seval, mpQ_shift, Kind.shift, List.length_map, hcl, e1, hci, hto]) <;> (try (with_reducible rfl)))
      · obtain rfl : k = Q.length := by omega
        have e1 : decide ((Q.length : Int) < (Q.length : Int)) = false := decide_eq_false (by omega)
        repeat (first | apply Wp.seq | apply Wp.block | (apply Run.next; (simp only [push_cast, seval, List.length_map, hcl, e1] <;> (try simp (disch := omega) only [wI, wU, wC]) <;> exact rfl); (focus ((try simp only [push_cast, seval, List.length_map, hcl, e1]) <;> exact sT))) | ((first | apply Run.nil | apply Wp.skip); dsimp only [sQ, tQ, bQ]) | (apply Wp.run; (dsimp only [List.map] <;> exact rfl); exact rfl) | (apply Wp.exit; dsimp only [sQ, tQ, bQ]; simp only [reduceIte]) | (apply Run.gtrue; (simp only [push_cast, seval, List.length_map, hcl, e1] <;> (try simp (disch := omega) only [wI, wU, wC]) <;> exact rfl); (simp only [push_cast, seval, List.length_map, hcl, e1] <;> (try simp (disch := omega) only [wI, wU, wC]) <;> exact rfl)) | (apply Run.gfalse (.bool false); (simp only [push_cast, seval, List.length_map, hcl, e1] <;> (try simp (disch := omega) only [wI, wU, wC]) <;> exact rfl); dsimp only [S.put, optG]) | (apply Wp.condT; (simp only [push_cast, seval, List.length_map, hcl, e1] <;> (try simp (disch := omega) only [wI, wU, wC]) <;> exact rfl)) | (apply Wp.condF; (simp only [push_cast, seval, List.length_map, hcl, e1] <;> (try simp (disch := omega) only [wI, wU, wC]) <;> exact rfl)))
        have hol := outT_len R W.length Q b Q.length
        generalize outT R W.length Q b Q.length = O at hol
        (apply Run.spec (he := Enters.of Try.func42 rfl rfl); exact rfl; (simp only [push_cast, seval, List.length_map, hcl, e1] <;> first | exact rfl | assumption); (simp only [push_cast, seval, List.length_map, hcl, e1] <;> (try simp (disch := omega) only [wI, wU, wC]) <;> exact rfl))
        · exact sort_spec (id := 5) rfl (by omega)
        · rintro _ _ ⟨rfl, rfl⟩
          dsimp only [S.put, optG]
          have hsl := srtI_len O
          generalize srtI O = L at hsl
          have htl : L.take O.length = L := List.take_of_length_le (by omega)
          repeat (first | apply Wp.seq | apply Wp.block | (apply Run.next; (simp only [push_cast, seval, List.length_map, hcl, e1, htl] <;> (try simp (disch := omega) only [wI, wU, wC]) <;> exact rfl); (focus ((try simp only [push_cast, seval, List.length_map, hcl, e1, htl]) <;> exact sT))) | ((first | apply Run.nil | apply Wp.skip); dsimp only [sQ, tQ, bQ]) | (apply Wp.run; (dsimp only [List.map] <;> exact rfl); exact rfl) | (apply Wp.exit; dsimp only [sQ, tQ, bQ]; simp only [reduceIte]) | (apply Run.gtrue; (simp only [push_cast, seval, List.length_map, hcl, e1, htl] <;> (try simp (disch := omega) only [wI, wU, wC]) <;> exact rfl); (simp only [push_cast, seval, List.length_map, hcl, e1, htl] <;> (try simp (disch := omega) only [wI, wU, wC]) <;> exact rfl)) | (apply Run.gfalse (.bool false); (simp only [push_cast, seval, List.length_map, hcl, e1, htl] <;> (try simp (disch := omega) only [wI, wU, wC]) <;> exact rfl); dsimp only [S.put, optG]) | (apply Wp.condT; (simp only [push_cast, seval, List.length_map, hcl, e1, htl] <;> (try simp (disch := omega) only [wI, wU, wC]) <;> exact rfl)) | (apply Wp.condF; (simp only [push_cast, seval, List.length_map, hcl, e1, htl] <;> (try simp (disch := omega) only [wI, wU, wC]) <;> exact rfl)))
          (apply Wp.freeze 2; (simp only [push_cast, seval, List.length_map, hcl, e1, htl] <;> (try simp (disch := omega) only [wI, wU, wC]) <;> exact rfl); (simp only [push_cast, seval, List.length_map, hcl, e1, htl] <;> (try simp (disch := omega) only [wI, wU, wC]) <;> exact rfl); (focus (try simp only [push_cast, seval, List.length_map, hcl, e1, htl]); (try (exact sT))); (focus (exact sT)))
          (apply Wp.ret; (try dsimp only [sQ, tQ, bQ]); apply leave0; exact rfl; (simp only [push_cast, seval, List.length_map, hcl, e1, htl] <;> (try simp (disch := omega) only [wI, wU, wC]) <;> exact rfl); all_goals (try simp only [push_cast, seval, List.length_map, hcl, e1, htl]); (try rfl))
end Go.Proofs.Try
set_option maxHeartbeats 8000000
set_option maxRecDepth 20000
namespace Go.Proofs.Try
open Go.Vg

/-! the document's far -/
def wlB (W : List Bool) (c : Nat) : Bool := W.getD c false
end Go.Proofs.Try
set_option maxHeartbeats 8000000
set_option maxRecDepth 20000
namespace Go.Proofs.Try
open Go.Vg

/-! the document's Escape -/
section
variable {w h : Int} {W : List Bool} {b : Nat}
theorem rlF_free (hz : MZ w h W) {s : Nat} : ∀ (f c : Nat), W.getD c false = false → W.getD (rlF w h W f c s) false = false
  | 0, c, h2 => h2
  | f + 1, c, h2 => by
    cases hn : nxC w h W c s with
    | none => simp only [rlF, hn]; exact h2
    | some k =>
      obtain ⟨_, _, h3, h4⟩ := nxC_some hz hn
      have := rlF_free hz (s := s) f k h4
      simp only [rlF, hn]; exact this
def GC (W : List Bool) (c : Nat) : Prop := c < W.length ∧ W.getD c false = false
def dF (w h : Int) (W : List Bool) (b : Nat) : Nat → Int := farF (rlC w h W) (wlB W) b W.length
theorem gc_step (hz : MZ w h W) : ∀ c t, GC W c → t < 4 → GC W (rlC w h W c t) := fun c t hc ht => ⟨rl_lt hz hc.1, rl_free hz hc.1 hc.2⟩
theorem dF_word : ∀ c, GC W c → 0 ≤ dF w h W b c → ∃ v, okS v ∧ endW (rlC w h W) c v = b ∧ (v.length : Int) = dF w h W b c := fun c _ h0 => far_word _ _ _ _ _ h0
theorem dF_least (hz : MZ w h W) : ∀ c v, GC W c → okS v → endW (rlC w h W) c v = b → 0 ≤ dF w h W b c ∧ dF w h W b c ≤ v.length := by
  intro c v hc hv he
  have hw : ∀ c s, wlB W c = false → s < 4 → wlB W (rlC w h W c s) = false := fun c s h1 _ => rlF_free hz 70 c h1
  obtain ⟨u, u1, u2, u3⟩ := bfs_short (rlC w h W) (n := W.length) (fun c s hc _ => rl_lt hz hc) hc.1 ⟨v, hv, he⟩
  have h1 := far_least (rlC w h W) (wlB W) b hw W.length c u hc.2 u1 u2 (by omega)
  refine ⟨h1.1, ?_⟩
  by_cases hl : v.length ≤ W.length
  · exact (far_least (rlC w h W) (wlB W) b hw W.length c v hc.2 hv he hl).2
  · have := (far_range (rlC w h W) (wlB W) b W.length c).2
    unfold dF; omega
theorem esc_some (hz : MZ w h W) {a : Nat} (ha : GC W a) {wd : List Nat} (hw : wayQ (bfs (rlC w h W) W.length a) b = some wd) : dF w h W b a = (wd.length : Int) ∧ grS (rlC w h W) (dF w h W b) wd.length a = wd := by
  have hR : ∀ c s, c < W.length → s < 4 → rlC w h W c s < W.length := fun c s hc _ => rl_lt hz hc
  have hL := wayQ_some (rlC w h W) (bfs_is (rlC w h W) hR ha.1).1 hw
  exact gr_least (rlC w h W) b (G := GC W) (gc_step hz) dF_word (dF_least hz) ha hL
end
end Go.Proofs.Try
set_option maxHeartbeats 8000000
set_option maxRecDepth 20000
namespace Go.Proofs.Try
open Go.Vg

/-! the document's Traps -/
structure LI (R : Nat → Nat → Nat) (n a s c t : Nat) (L : List Bool) : Prop where
  len : L.length = n
  snd : ∀ x, x < n → L.getD x false = true → ∃ v, okS v ∧ endW R a v = x
  old : ∀ v, okS v → v.length ≤ s → L.getD (endW R a v) false = true
  cls : ∀ v u, okS v → v.length ≤ s → u < 4 → (endW R a v < c ∨ (endW R a v = c ∧ u < t)) → L.getD (R (endW R a v) u) false = true
theorem getD_setB (L : List Bool) (k x : Nat) (hk : k < L.length) : (L.set k true).getD x false = if x = k then true else L.getD x false := by
  rw [List.getD_eq_getElem?_getD, List.getD_eq_getElem?_getD, List.getElem?_set]
  by_cases h : k = x
  · subst h; rw [if_pos rfl, if_pos rfl, if_pos hk]; rfl
  · rw [if_neg h, if_neg (Ne.symm h)]
section
variable {R : Nat → Nat → Nat} {n a s c t : Nat} {L : List Bool}
theorem LI.step (hR : ∀ c s, c < n → s < 4 → R c s < n) (h : LI R n a s c t L) (hc : c < n) (ht : t < 4) (hl : L.getD c false = true) : LI R n a s c (t + 1) (L.set (R c t) true) := by
  have hk : R c t < L.length := by rw [h.len]; exact hR c t hc ht
  have mono : ∀ x, L.getD x false = true → (L.set (R c t) true).getD x false = true := fun x hx => by rw [getD_setB L _ x hk]; split <;> first | rfl | exact hx
  refine ⟨by simp [h.len], fun x hx h1 => ?_, fun v hv h1 => mono _ (h.old v hv h1), fun v u hv h1 hu h2 => ?_⟩
  · rw [getD_setB L _ x hk] at h1
    split at h1
    · rename_i he
      obtain ⟨v, v1, v2⟩ := h.snd c hc hl
      exact ⟨v ++ [t], okS_snoc.2 ⟨v1, ht⟩, by rw [endW_app, v2, he]; rfl⟩
    · exact h.snd x hx h1
  · by_cases h3 : endW R a v < c ∨ (endW R a v = c ∧ u < t)
    · exact mono _ (h.cls v u hv h1 hu h3)
    · have e1 : endW R a v = c := by omega
      have e2 : u = t := by omega
      rw [e1, e2, getD_setB L _ _ hk, if_pos rfl]
theorem LI.next (h : LI R n a s c 4 L) : LI R n a s (c + 1) 0 L := ⟨h.len, h.snd, h.old, fun v u hv h1 hu h2 => h.cls v u hv h1 hu (by omega)⟩
theorem LI.skip (h : LI R n a s c t L) (hl : L.getD c false = false) : LI R n a s (c + 1) 0 L := ⟨h.len, h.snd, h.old, fun v u hv h1 hu h2 => by
  refine h.cls v u hv h1 hu ?_
  rcases h2 with h2 | h2
  · by_cases h3 : endW R a v = c
    · have := h.old v hv h1
      rw [h3, hl] at this; cases this
    · exact .inl (by omega)
  · omega⟩
theorem endW_ltR (hR : ∀ c s, c < n → s < 4 → R c s < n) : ∀ (v : List Nat) (c : Nat), okS v → c < n → endW R c v < n
  | [], c, _, h => h
  | s :: v, c, hv, h => endW_ltR hR v _ (fun x hx => hv x (by simp [hx])) (hR c s h (hv s (by simp)))
theorem LI.pass (hR : ∀ c s, c < n → s < 4 → R c s < n) (ha : a < n) (h : LI R n a s n 0 L) : LI R n a (s + 1) 0 0 L := by
  refine ⟨h.len, h.snd, fun v hv h1 => ?_, fun v u hv h1 hu h2 => by omega⟩
  by_cases h2 : v.length ≤ s
  · exact h.old v hv h2
  · obtain ⟨u, t, rfl⟩ := snoc_cases (u := v) (by intro e; subst e; simp at h2)
    obtain ⟨hu, ht⟩ := okS_snoc.1 hv
    rw [endW_app]
    exact h.cls u t hu (by simp at h1; omega) ht (.inl (endW_ltR hR u a hu ha))
theorem LI.start (ha : a < n) : LI R n a 0 0 0 ((List.replicate n false).set a true) := by
  have hk : a < (List.replicate n false).length := by simpa using ha
  refine ⟨by simp, fun x hx h1 => ?_, fun v hv h1 => ?_, fun v u hv h1 hu h2 => by omega⟩
  · rw [getD_setB _ _ x hk] at h1
    split at h1
    · rename_i e; exact ⟨[], fun x hx => (by cases hx), e.symm⟩
    · simp [hx] at h1
  · have : v = [] := List.eq_nil_of_length_eq_zero (by omega)
    subst this
    rw [getD_setB _ _ _ hk]; exact if_pos rfl
theorem LI.done (hR : ∀ c s, c < n → s < 4 → R c s < n) (ha : a < n) (h : LI R n a n 0 0 L) {x : Nat} (hx : x < n) : L.getD x false = knB (bfs R n a) x := by
  cases hk : knB (bfs R n a) x with
  | true =>
    obtain ⟨v, v1, v2, v3⟩ := bfs_short R hR ha ((bfs_iff R hR ha).1 hk)
    rw [← v2]; exact h.old v v1 (by omega)
  | false =>
    cases hl : L.getD x false with
    | false => rfl
    | true =>
      obtain ⟨v, v1, v2⟩ := h.snd x hx hl
      rw [(bfs_iff R hR ha).2 ⟨v, v1, v2⟩] at hk; cases hk
end
theorem outT_mem {R : Nat → Nat → Nat} {n : Nat} {Q : QL} {b k : Nat} {y : Int} : y ∈ outT R n Q b k ↔ ∃ j : Nat, j < k ∧ y = (qc Q j : Int) ∧ knB (bfs R n (qc Q j)) b = false := by
  unfold outT
  rw [List.mem_flatMap]
  constructor
  · rintro ⟨j, hj, h⟩
    split at h
    · cases h
    · rename_i h2
      exact ⟨j, List.mem_range.1 hj, by simpa using h, by simpa using h2⟩
  · rintro ⟨j, hj, rfl, h1⟩
    exact ⟨j, List.mem_range.2 hj, by rw [if_neg (by rw [h1]; simp)]; simp⟩
end Go.Proofs.Try
set_option maxHeartbeats 8000000
set_option maxRecDepth 20000
namespace Go.Proofs.Try
open Go.Vg

end Go.Proofs.Try
set_option maxHeartbeats 8000000
set_option maxRecDepth 20000
namespace Go.Proofs.Try
open Go.Vg

theorem trpA_yes {w h : Int} {W : List Bool} {fr to : Int} (hm : mazeB w h W fr to = true) : trpA w h W fr to = .ints (trpL w h W fr to) := by unfold trpA; rw [if_pos hm]
theorem escA_yes {w h : Int} {W : List Bool} {fr to : Int} (hm : mazeB w h W fr to = true) {wd : List Nat} (hw : escW w h W fr to = some wd) : escA w h W fr to = .ints (natI wd) ∧ escE w h W fr to = 0 := by
  unfold escA escE; rw [if_pos hm, if_pos hm, hw]; exact ⟨rfl, rfl⟩
theorem escA_none {w h : Int} {W : List Bool} {fr to : Int} (hm : mazeB w h W fr to = true) (hw : escW w h W fr to = none) : escA w h W fr to = .emp ∧ escE w h W fr to = 3 := by
  unfold escA escE; rw [if_pos hm, if_pos hm, hw]; exact ⟨rfl, rfl⟩
end Go.Proofs.Try
set_option maxHeartbeats 8000000
set_option maxRecDepth 20000
namespace Go.Proofs.Try
open Go.Vg

/-! the law's own functions -/
theorem hasL_pure (T : List Int) (c : Int) (hT : T.length ≤ 1000) : Pure Try.prog 15 [.ints T, .int c] (.bool (T.any fun x => x == c)) := by
  (refine Spec.of_body Try.func15 rfl (by rw [Try.ntmps15]; simp) 0 (by simp) ?_; rw [Try.results15, Try.ntmps15]; simp only [entry, zipArgs, Nat.reduceAdd])
  repeat (first | apply Wp.seq | apply Wp.block | (apply Run.next; (simp only [push_cast, seval, List.length_map] <;> (try simp (disch := omega) only [wI, wU, wC]) <;> exact rfl); (focus ((try simp only [push_cast, seval, List.length_map]) <;> exact sT))) | ((first | apply Run.nil | apply Wp.skip); dsimp only [sQ, tQ, bQ]) | (apply Wp.run; (dsimp only [List.map] <;> exact rfl); exact rfl) | (apply Wp.exit; dsimp only [sQ, tQ, bQ]; simp only [reduceIte]) | (apply Run.gtrue; (simp only [push_cast, seval, List.length_map] <;> (try simp (disch := omega) only [wI, wU, wC]) <;> exact rfl); (simp only [push_cast, seval, List.length_map] <;> (try simp (disch := omega) only [wI, wU, wC]) <;> exact rfl)) | (apply Run.gfalse (.bool false); (simp only [push_cast, seval, List.length_map] <;> (try simp (disch := omega) only [wI, wU, wC]) <;> exact rfl); dsimp only [S.put, optG]) | (apply Wp.condT; (simp only [push_cast, seval, List.length_map] <;> (try simp (disch := omega) only [wI, wU, wC]) <;> exact rfl)) | (apply Wp.condF; (simp only [push_cast, seval, List.length_map] <;> (try simp (disch := omega) only [wI, wU, wC]) <;> exact rfl)))
  refine Wp.loop (fun k : Nat => { t := [(0, .ints T), (1, .int c), (5, .int k)], m := [], n := 18 }) (fun k => k ≤ T.length ∧ ∀ j, j < k → T.getD j 0 ≠ c) (fun k => T.length - k) 0 ?_ ?_ ?_
  · (refine Le.of ?_ ?_ rfl rfl <;> (try simp only [push_cast, seval, List.length_map]) <;> (try (with_reducible rfl)))
  · exact ⟨Nat.zero_le _, fun j hj => absurd hj (Nat.not_lt_zero j)⟩
  · rintro k ⟨hk, hne⟩
    by_cases hkb : k < T.length
    · have e1 : decide ((k : Int) < (T.length : Int)) = true := decide_eq_true (by omega)
      cases hx : decide (T.getD k 0 = c) with
      | true =>
        have : (T.any fun x => x == c) = true := List.any_eq_true.2 ⟨_, mem_getD hkb, by simpa using of_decide_eq_true hx⟩
        rw [this]
        repeat (first | apply Wp.seq | apply Wp.block | (apply Run.next; (simp only [push_cast, seval, List.length_map, e1, hx] <;> (try simp (disch := omega) only [wI, wU, wC]) <;> exact rfl); (focus ((try simp only [push_cast, seval, List.length_map, e1, hx]) <;> exact sT))) | ((first | apply Run.nil | apply Wp.skip); dsimp only [sQ, tQ, bQ]) | (apply Wp.run; (dsimp only [List.map] <;> exact rfl); exact rfl) | (apply Wp.exit; dsimp only [sQ, tQ, bQ]; simp only [reduceIte]) | (apply Run.gtrue; (simp only [push_cast, seval, List.length_map, e1, hx] <;> (try simp (disch := omega) only [wI, wU, wC]) <;> exact rfl); (simp only [push_cast, seval, List.length_map, e1, hx] <;> (try simp (disch := omega) only [wI, wU, wC]) <;> exact rfl)) | (apply Run.gfalse (.bool false); (simp only [push_cast, seval, List.length_map, e1, hx] <;> (try simp (disch := omega) only [wI, wU, wC]) <;> exact rfl); dsimp only [S.put, optG]) | (apply Wp.condT; (simp only [push_cast, seval, List.length_map, e1, hx] <;> (try simp (disch := omega) only [wI, wU, wC]) <;> exact rfl)) | (apply Wp.condF; (simp only [push_cast, seval, List.length_map, e1, hx] <;> (try simp (disch := omega) only [wI, wU, wC]) <;> exact rfl)))
        (apply Wp.ret; (try dsimp only [sQ, tQ, bQ]); apply leave0; exact rfl; (simp only [push_cast, seval, List.length_map, e1, hx] <;> (try simp (disch := omega) only [wI, wU, wC]) <;> exact rfl); all_goals (try simp only [push_cast, seval, List.length_map, e1, hx]); (try rfl))
      | false =>
        have hx' := of_decide_eq_false hx
        repeat (first | apply Wp.seq | apply Wp.block | (apply Run.next; (simp only [push_cast, seval, List.length_map, e1, hx] <;> (try simp (disch := omega) only [wI, wU, wC]) <;> exact rfl); (focus ((try simp only [push_cast, seval, List.length_map, e1, hx]) <;> exact sT))) | ((first | apply Run.nil | apply Wp.skip); dsimp only [sQ, tQ, bQ]) | (apply Wp.run; (dsimp only [List.map] <;> exact rfl); exact rfl) | (apply Wp.exit; dsimp only [sQ, tQ, bQ]; simp only [reduceIte]) | (apply Run.gtrue; (simp only [push_cast, seval, List.length_map, e1, hx] <;> (try simp (disch := omega) only [wI, wU, wC]) <;> exact rfl); (simp only [push_cast, seval, List.length_map, e1, hx] <;> (try simp (disch := omega) only [wI, wU, wC]) <;> exact rfl)) | (apply Run.gfalse (.bool false); (simp only [push_cast, seval, List.length_map, e1, hx] <;> (try simp (disch := omega) only [wI, wU, wC]) <;> exact rfl); dsimp only [S.put, optG]) | (apply Wp.condT; (simp only [push_cast, seval, List.length_map, e1, hx] <;> (try simp (disch := omega) only [wI, wU, wC]) <;> exact rfl)) | (apply Wp.condF; (simp only [push_cast, seval, List.length_map, e1, hx] <;> (try simp (disch := omega) only [wI, wU, wC]) <;> exact rfl)))
        refine ⟨k + 1, ?_, ⟨by omega, fun j hj => ?_⟩, by omega⟩
        · (refine Le.of ?_ ?_ rfl rfl <;> (try simp only [push_cast, seval, List.length_map, e1, hx]) <;> (try (with_reducible rfl)))
        · by_cases hjk : j = k
          · subst hjk; exact hx'
          · exact hne j (by omega)
    · have e1 : decide ((k : Int) < (T.length : Int)) = false := decide_eq_false (by omega)
      have : (T.any fun x => x == c) = false := by
        rw [← Bool.not_eq_true, List.any_eq_true]
        rintro ⟨x, hx, hxc⟩
        obtain ⟨i, hi, rfl⟩ := List.getElem_of_mem hx
        have := hne i (by omega)
        simp [hi] at this hxc
        exact this hxc
      rw [this]
      repeat (first | apply Wp.seq | apply Wp.block | (apply Run.next; (simp only [push_cast, seval, List.length_map, e1] <;> (try simp (disch := omega) only [wI, wU, wC]) <;> exact rfl); (focus ((try simp only [push_cast, seval, List.length_map, e1]) <;> exact sT))) | ((first | apply Run.nil | apply Wp.skip); dsimp only [sQ, tQ, bQ]) | (apply Wp.run; (dsimp only [List.map] <;> exact rfl); exact rfl) | (apply Wp.exit; dsimp only [sQ, tQ, bQ]; simp only [reduceIte]) | (apply Run.gtrue; (simp only [push_cast, seval, List.length_map, e1] <;> (try simp (disch := omega) only [wI, wU, wC]) <;> exact rfl); (simp only [push_cast, seval, List.length_map, e1] <;> (try simp (disch := omega) only [wI, wU, wC]) <;> exact rfl)) | (apply Run.gfalse (.bool false); (simp only [push_cast, seval, List.length_map, e1] <;> (try simp (disch := omega) only [wI, wU, wC]) <;> exact rfl); dsimp only [S.put, optG]) | (apply Wp.condT; (simp only [push_cast, seval, List.length_map, e1] <;> (try simp (disch := omega) only [wI, wU, wC]) <;> exact rfl)) | (apply Wp.condF; (simp only [push_cast, seval, List.length_map, e1] <;> (try simp (disch := omega) only [wI, wU, wC]) <;> exact rfl)))
      (apply Wp.ret; (try dsimp only [sQ, tQ, bQ]); apply leave0; exact rfl; (simp only [push_cast, seval, List.length_map, e1] <;> (try simp (disch := omega) only [wI, wU, wC]) <;> exact rfl); all_goals (try simp only [push_cast, seval, List.length_map, e1]); (try rfl))
theorem natI_getD (u : List Nat) (k : Nat) : (natI u).getD k 0 = ((u.getD k 0 : Nat) : Int) := by
  unfold natI
  simp only [List.getD_eq_getElem?_getD, List.getElem?_map]
  cases u[k]? <;> rfl
/-- where two words differ first -/
theorem lx_at : ∀ {u v : List Nat}, lx u v → ∃ k, k < u.length ∧ k < v.length ∧ (∀ j, j < k → u.getD j 0 = v.getD j 0) ∧ u.getD k 0 < v.getD k 0
  | [], _, h => h.elim
  | _ :: _, [], h => h.elim
  | x :: u, y :: v, h => by
    rcases h with h | ⟨rfl, h⟩
    · exact ⟨0, by simp, by simp, fun j hj => absurd hj (Nat.not_lt_zero j), by simpa using h⟩
    · obtain ⟨k, h1, h2, h3, h4⟩ := lx_at h
      refine ⟨k + 1, by simpa using h1, by simpa using h2, fun j hj => ?_, by simpa using h4⟩
      cases j with
      | zero => rfl
      | succ j => simpa using h3 j (by omega)
theorem earlier_no {u v : List Nat} (hl : u.length = v.length) (h : u = v ∨ lx v u) (hlen : u.length ≤ 1000) : Pure Try.prog 14 [.ints (natI u), .ints (natI v)] (.bool false) := by
  have h1 := natI_len u
  have h2 := natI_len v
  (refine Spec.of_body Try.func14 rfl (by rw [Try.ntmps14]; simp) 0 (by simp) ?_; rw [Try.results14, Try.ntmps14]; simp only [entry, zipArgs, Nat.reduceAdd])
  repeat (first | apply Wp.seq | apply Wp.block | (apply Run.next; (simp only [push_cast, seval, List.length_map, h1, h2] <;> (try simp (disch := omega) only [wI, wU, wC]) <;> exact rfl); (focus ((try simp only [push_cast, seval, List.length_map, h1, h2]) <;> exact sT))) | ((first | apply Run.nil | apply Wp.skip); dsimp only [sQ, tQ, bQ]) | (apply Wp.run; (dsimp only [List.map] <;> exact rfl); exact rfl) | (apply Wp.exit; dsimp only [sQ, tQ, bQ]; simp only [reduceIte]) | (apply Run.gtrue; (simp only [push_cast, seval, List.length_map, h1, h2] <;> (try simp (disch := omega) only [wI, wU, wC]) <;> exact rfl); (simp only [push_cast, seval, List.length_map, h1, h2] <;> (try simp (disch := omega) only [wI, wU, wC]) <;> exact rfl)) | (apply Run.gfalse (.bool false); (simp only [push_cast, seval, List.length_map, h1, h2] <;> (try simp (disch := omega) only [wI, wU, wC]) <;> exact rfl); dsimp only [S.put, optG]) | (apply Wp.condT; (simp only [push_cast, seval, List.length_map, h1, h2] <;> (try simp (disch := omega) only [wI, wU, wC]) <;> exact rfl)) | (apply Wp.condF; (simp only [push_cast, seval, List.length_map, h1, h2] <;> (try simp (disch := omega) only [wI, wU, wC]) <;> exact rfl)))
  refine Wp.loop (fun k : Nat => { t := [(0, .ints (natI u)), (1, .ints (natI v)), (5, .int k)], m := [], n := 36 }) (fun k => k ≤ u.length ∧ (lx v u → ∃ d, k ≤ d ∧ d < u.length ∧ (∀ j, j < d → v.getD j 0 = u.getD j 0) ∧ v.getD d 0 < u.getD d 0)) (fun k => u.length - k) 0 ?_ ?_ ?_
  · (refine Le.of ?_ ?_ rfl rfl <;> (try simp only [push_cast, seval, List.length_map, h1, h2]) <;> (try (with_reducible rfl)))
  · refine ⟨Nat.zero_le _, fun hx => ?_⟩
    obtain ⟨k, q1, q2, q3, q4⟩ := lx_at hx
    exact ⟨k, Nat.zero_le _, q2, q3, q4⟩
  · rintro k ⟨hk, hd⟩
    by_cases hkb : k < u.length
    · have e1 : decide ((k : Int) < (u.length : Int)) = true := decide_eq_true (by omega)
      have e2 : decide ((k : Int) < (v.length : Int)) = true := decide_eq_true (by omega)
      have g1 := natI_getD u k
      have g2 := natI_getD v k
      have hcase : (u.getD k 0 = v.getD k 0 ∧ (lx v u → ∃ d, k + 1 ≤ d ∧ d < u.length ∧ (∀ j, j < d → v.getD j 0 = u.getD j 0) ∧ v.getD d 0 < u.getD d 0)) ∨ v.getD k 0 < u.getD k 0 := by
        rcases h with h | h
        · subst h; exact .inl ⟨rfl, fun hx => absurd hx (lx_irrefl _)⟩
        · obtain ⟨d, d1, d2, d3, d4⟩ := hd h
          by_cases hdk : d = k
          · subst hdk; exact .inr d4
          · exact .inl ⟨(d3 k (by omega)).symm, fun _ => ⟨d, by omega, d2, d3, d4⟩⟩
      generalize u.getD k 0 = x at g1 hcase
      generalize v.getD k 0 = y at g2 hcase
      rcases hcase with ⟨rfl, hd2⟩ | hlt
      · have e3 : decide ((x : Int) = (x : Int)) = true := decide_eq_true rfl
        repeat (first | apply Wp.seq | apply Wp.block | (apply Run.next; (simp only [push_cast, seval, List.length_map, h1, h2, e1, e2, g1, g2, e3] <;> (try simp (disch := omega) only [wI, wU, wC]) <;> exact rfl); (focus ((try simp only [push_cast, seval, List.length_map, h1, h2, e1, e2, g1, g2, e3]) <;> exact sT))) | ((first | apply Run.nil | apply Wp.skip); dsimp only [sQ, tQ, bQ]) | (apply Wp.run; (dsimp only [List.map] <;> exact rfl); exact rfl) | (apply Wp.exit; dsimp only [sQ, tQ, bQ]; simp only [reduceIte]) | (apply Run.gtrue; (simp only [push_cast, seval, List.length_map, h1, h2, e1, e2, g1, g2, e3] <;> (try simp (disch := omega) only [wI, wU, wC]) <;> exact rfl); (simp only [push_cast, seval, List.length_map, h1, h2, e1, e2, g1, g2, e3] <;> (try simp (disch := omega) only [wI, wU, wC]) <;> exact rfl)) | (apply Run.gfalse (.bool false); (simp only [push_cast, seval, List.length_map, h1, h2, e1, e2, g1, g2, e3] <;> (try simp (disch := omega) only [wI, wU, wC]) <;> exact rfl); dsimp only [S.put, optG]) | (apply Wp.condT; (simp only [push_cast, seval, List.length_map, h1, h2, e1, e2, g1, g2, e3] <;> (try simp (disch := omega) only [wI, wU, wC]) <;> exact rfl)) | (apply Wp.condF; (simp only [push_cast, seval, List.length_map, h1, h2, e1, e2, g1, g2, e3] <;> (try simp (disch := omega) only [wI, wU, wC]) <;> exact rfl)))
        (apply Wp.runD 9 mixed; (dsimp only [List.map] <;> exact rfl); exact rfl; kernel_rfl; (dsimp only [List.take] <;> exact rfl); (dsimp only [List.drop] <;> exact rfl); (((repeat (apply Abn.next; (simp only [push_cast, seval, List.length_map, h1, h2, e1, e2, g1, g2, e3] <;> (try simp (disch := omega) only [wI, wU, wC]) <;> exact rfl); (focus ((try simp only [push_cast, seval, List.length_map, h1, h2, e1, e2, g1, g2, e3]) <;> exact sT))))); exact Abn.nil))
        repeat (first | apply Wp.seq | apply Wp.block | (apply Run.next; (simp only [push_cast, seval, List.length_map, h1, h2, e1, e2, g1, g2, e3] <;> (try simp (disch := omega) only [wI, wU, wC]) <;> exact rfl); (focus ((try simp only [push_cast, seval, List.length_map, h1, h2, e1, e2, g1, g2, e3]) <;> exact sT))) | ((first | apply Run.nil | apply Wp.skip); dsimp only [sQ, tQ, bQ]) | (apply Wp.run; (dsimp only [List.map] <;> exact rfl); exact rfl) | (apply Wp.exit; dsimp only [sQ, tQ, bQ]; simp only [reduceIte]) | (apply Run.gtrue; (simp only [push_cast, seval, List.length_map, h1, h2, e1, e2, g1, g2, e3] <;> (try simp (disch := omega) only [wI, wU, wC]) <;> exact rfl); (simp only [push_cast, seval, List.length_map, h1, h2, e1, e2, g1, g2, e3] <;> (try simp (disch := omega) only [wI, wU, wC]) <;> exact rfl)) | (apply Run.gfalse (.bool false); (simp only [push_cast, seval, List.length_map, h1, h2, e1, e2, g1, g2, e3] <;> (try simp (disch := omega) only [wI, wU, wC]) <;> exact rfl); dsimp only [S.put, optG]) | (apply Wp.condT; (simp only [push_cast, seval, List.length_map, h1, h2, e1, e2, g1, g2, e3] <;> (try simp (disch := omega) only [wI, wU, wC]) <;> exact rfl)) | (apply Wp.condF; (simp only [push_cast, seval, List.length_map, h1, h2, e1, e2, g1, g2, e3] <;> (try simp (disch := omega) only [wI, wU, wC]) <;> exact rfl)))
        refine ⟨k + 1, ?_, ⟨by omega, hd2⟩, by omega⟩
        (refine Le.of ?_ ?_ rfl rfl <;> (try simp only [push_cast, seval, List.length_map, h1, h2, e1, e2, g1, g2, e3]) <;> (try (with_reducible rfl)))
      · have e3 : decide ((x : Int) = (y : Int)) = false := decide_eq_false (by omega)
        have e4 : decide ((x : Int) < (y : Int)) = false := decide_eq_false (by omega)
        repeat (first | apply Wp.seq | apply Wp.block | (apply Run.next; (simp only [push_cast, seval, List.length_map, h1, h2, e1, e2, g1, g2, e3, e4] <;> (try simp (disch := omega) only [wI, wU, wC]) <;> exact rfl); (focus ((try simp only [push_cast, seval, List.length_map, h1, h2, e1, e2, g1, g2, e3, e4]) <;> exact sT))) | ((first | apply Run.nil | apply Wp.skip); dsimp only [sQ, tQ, bQ]) | (apply Wp.run; (dsimp only [List.map] <;> exact rfl); exact rfl) | (apply Wp.exit; dsimp only [sQ, tQ, bQ]; simp only [reduceIte]) | (apply Run.gtrue; (simp only [push_cast, seval, List.length_map, h1, h2, e1, e2, g1, g2, e3, e4] <;> (try simp (disch := omega) only [wI, wU, wC]) <;> exact rfl); (simp only [push_cast, seval, List.length_map, h1, h2, e1, e2, g1, g2, e3, e4] <;> (try simp (disch := omega) only [wI, wU, wC]) <;> exact rfl)) | (apply Run.gfalse (.bool false); (simp only [push_cast, seval, List.length_map, h1, h2, e1, e2, g1, g2, e3, e4] <;> (try simp (disch := omega) only [wI, wU, wC]) <;> exact rfl); dsimp only [S.put, optG]) | (apply Wp.condT; (simp only [push_cast, seval, List.length_map, h1, h2, e1, e2, g1, g2, e3, e4] <;> (try simp (disch := omega) only [wI, wU, wC]) <;> exact rfl)) | (apply Wp.condF; (simp only [push_cast, seval, List.length_map, h1, h2, e1, e2, g1, g2, e3, e4] <;> (try simp (disch := omega) only [wI, wU, wC]) <;> exact rfl)))
        (apply Wp.runD 9 mixed; (dsimp only [List.map] <;> exact rfl); exact rfl; kernel_rfl; (dsimp only [List.take] <;> exact rfl); (dsimp only [List.drop] <;> exact rfl); (((repeat (apply Abn.next; (simp only [push_cast, seval, List.length_map, h1, h2, e1, e2, g1, g2, e3, e4] <;> (try simp (disch := omega) only [wI, wU, wC]) <;> exact rfl); (focus ((try simp only [push_cast, seval, List.length_map, h1, h2, e1, e2, g1, g2, e3, e4]) <;> exact sT))))); exact Abn.nil))
        repeat (first | apply Wp.seq | apply Wp.block | (apply Run.next; (simp only [push_cast, seval, List.length_map, h1, h2, e1, e2, g1, g2, e3, e4] <;> (try simp (disch := omega) only [wI, wU, wC]) <;> exact rfl); (focus ((try simp only [push_cast, seval, List.length_map, h1, h2, e1, e2, g1, g2, e3, e4]) <;> exact sT))) | ((first | apply Run.nil | apply Wp.skip); dsimp only [sQ, tQ, bQ]) | (apply Wp.run; (dsimp only [List.map] <;> exact rfl); exact rfl) | (apply Wp.exit; dsimp only [sQ, tQ, bQ]; simp only [reduceIte]) | (apply Run.gtrue; (simp only [push_cast, seval, List.length_map, h1, h2, e1, e2, g1, g2, e3, e4] <;> (try simp (disch := omega) only [wI, wU, wC]) <;> exact rfl); (simp only [push_cast, seval, List.length_map, h1, h2, e1, e2, g1, g2, e3, e4] <;> (try simp (disch := omega) only [wI, wU, wC]) <;> exact rfl)) | (apply Run.gfalse (.bool false); (simp only [push_cast, seval, List.length_map, h1, h2, e1, e2, g1, g2, e3, e4] <;> (try simp (disch := omega) only [wI, wU, wC]) <;> exact rfl); dsimp only [S.put, optG]) | (apply Wp.condT; (simp only [push_cast, seval, List.length_map, h1, h2, e1, e2, g1, g2, e3, e4] <;> (try simp (disch := omega) only [wI, wU, wC]) <;> exact rfl)) | (apply Wp.condF; (simp only [push_cast, seval, List.length_map, h1, h2, e1, e2, g1, g2, e3, e4] <;> (try simp (disch := omega) only [wI, wU, wC]) <;> exact rfl)))
        (apply Wp.runD 10 mixed; (dsimp only [List.map] <;> exact rfl); exact rfl; kernel_rfl; (dsimp only [List.take] <;> exact rfl); (dsimp only [List.drop] <;> exact rfl); (((repeat (apply Abn.next; (simp only [push_cast, seval, List.length_map, h1, h2, e1, e2, g1, g2, e3, e4] <;> (try simp (disch := omega) only [wI, wU, wC]) <;> exact rfl); (focus ((try simp only [push_cast, seval, List.length_map, h1, h2, e1, e2, g1, g2, e3, e4]) <;> exact sT))))); exact Abn.nil))
        repeat (first | apply Wp.seq | apply Wp.block | (apply Run.next; (simp only [push_cast, seval, List.length_map, h1, h2, e1, e2, g1, g2, e3, e4] <;> (try simp (disch := omega) only [wI, wU, wC]) <;> exact rfl); (focus ((try simp only [push_cast, seval, List.length_map, h1, h2, e1, e2, g1, g2, e3, e4]) <;> exact sT))) | ((first | apply Run.nil | apply Wp.skip); dsimp only [sQ, tQ, bQ]) | (apply Wp.run; (dsimp only [List.map] <;> exact rfl); exact rfl) | (apply Wp.exit; dsimp only [sQ, tQ, bQ]; simp only [reduceIte]) | (apply Run.gtrue; (simp only [push_cast, seval, List.length_map, h1, h2, e1, e2, g1, g2, e3, e4] <;> (try simp (disch := omega) only [wI, wU, wC]) <;> exact rfl); (simp only [push_cast, seval, List.length_map, h1, h2, e1, e2, g1, g2, e3, e4] <;> (try simp (disch := omega) only [wI, wU, wC]) <;> exact rfl)) | (apply Run.gfalse (.bool false); (simp only [push_cast, seval, List.length_map, h1, h2, e1, e2, g1, g2, e3, e4] <;> (try simp (disch := omega) only [wI, wU, wC]) <;> exact rfl); dsimp only [S.put, optG]) | (apply Wp.condT; (simp only [push_cast, seval, List.length_map, h1, h2, e1, e2, g1, g2, e3, e4] <;> (try simp (disch := omega) only [wI, wU, wC]) <;> exact rfl)) | (apply Wp.condF; (simp only [push_cast, seval, List.length_map, h1, h2, e1, e2, g1, g2, e3, e4] <;> (try simp (disch := omega) only [wI, wU, wC]) <;> exact rfl)))
        (apply Wp.ret; (try dsimp only [sQ, tQ, bQ]); apply leave0; exact rfl; (simp only [push_cast, seval, List.length_map, h1, h2, e1, e2, g1, g2, e3, e4] <;> (try simp (disch := omega) only [wI, wU, wC]) <;> exact rfl); all_goals (try simp only [push_cast, seval, List.length_map, h1, h2, e1, e2, g1, g2, e3, e4]); (try rfl))
    · have e1 : decide ((k : Int) < (u.length : Int)) = false := decide_eq_false (by omega)
      repeat (first | apply Wp.seq | apply Wp.block | (apply Run.next; (simp only [push_cast, seval, List.length_map, h1, h2, e1] <;> (try simp (disch := omega) only [wI, wU, wC]) <;> exact rfl); (focus ((try simp only [push_cast, seval, List.length_map, h1, h2, e1]) <;> exact sT))) | ((first | apply Run.nil | apply Wp.skip); dsimp only [sQ, tQ, bQ]) | (apply Wp.run; (dsimp only [List.map] <;> exact rfl); exact rfl) | (apply Wp.exit; dsimp only [sQ, tQ, bQ]; simp only [reduceIte]) | (apply Run.gtrue; (simp only [push_cast, seval, List.length_map, h1, h2, e1] <;> (try simp (disch := omega) only [wI, wU, wC]) <;> exact rfl); (simp only [push_cast, seval, List.length_map, h1, h2, e1] <;> (try simp (disch := omega) only [wI, wU, wC]) <;> exact rfl)) | (apply Run.gfalse (.bool false); (simp only [push_cast, seval, List.length_map, h1, h2, e1] <;> (try simp (disch := omega) only [wI, wU, wC]) <;> exact rfl); dsimp only [S.put, optG]) | (apply Wp.condT; (simp only [push_cast, seval, List.length_map, h1, h2, e1] <;> (try simp (disch := omega) only [wI, wU, wC]) <;> exact rfl)) | (apply Wp.condF; (simp only [push_cast, seval, List.length_map, h1, h2, e1] <;> (try simp (disch := omega) only [wI, wU, wC]) <;> exact rfl)))
      (apply Wp.ret; (try dsimp only [sQ, tQ, bQ]); apply leave0; exact rfl; (simp only [push_cast, seval, List.length_map, h1, h2, e1] <;> (try simp (disch := omega) only [wI, wU, wC]) <;> exact rfl); all_goals (try simp only [push_cast, seval, List.length_map, h1, h2, e1]); (try rfl))
end Go.Proofs.Try
