/- A part of the proof of PuzzlesBack: contracts of functions, with plain laws that they need. -/
import Derived.Test.YtmdkhbmhgcdpaaaVgX43J
set_option linter.all false
set_option maxHeartbeats 8000000
namespace Go.Proofs.Try
open Go.Vg

/-! Crack -/
theorem shiftB_size (b : ByteArray) (n : Int) : (shiftB b n).size = b.size := by
  unfold shiftB
  show (changeL _ _ 0).toArray.size = _
  rw [List.size_toArray, changeL_len, bszL]
/-- the shifts up to k by which the text contains the part -/
def crkL (b p : ByteArray) (k : Nat) : List Int := ((List.range k).filter fun n : Nat => Lib.contains (shiftB b (n : Int)).data.toList p.data.toList).map fun n : Nat => (n : Int)
theorem crkL_succ (b p : ByteArray) (k : Nat) : crkL b p (k + 1) = if Lib.contains (shiftB b (k : Int)).data.toList p.data.toList = true then crkL b p k ++ [(k : Int)] else crkL b p k := by
  unfold crkL
  rw [List.range_succ, List.filter_append, List.map_append]
  by_cases h : Lib.contains (shiftB b (k : Int)).data.toList p.data.toList = true
  · rw [if_pos h, List.filter_cons, if_pos h]; rfl
  · rw [if_neg h, List.filter_cons, if_neg h]; simp
theorem crkL_len (b p : ByteArray) (k : Nat) : (crkL b p k).length ≤ k := by
  unfold crkL
  rw [List.length_map]
  refine Nat.le_trans (List.length_filter_le _ _) ?_
  simp
def crkE (b p : ByteArray) : Int := if 200 < max (b.size : Int) (p.size : Int) then 2 else 0
def crkA (b p : ByteArray) : AV := if 200 < max (b.size : Int) (p.size : Int) then .emp else .ints (crkL b p 26)
theorem Crack_pure (b p : ByteArray) : Pure Try.prog 46 [.str b, .str p] (.tup [crkA b p, .int (crkE b p)]) := by
  unfold crkA crkE
  by_cases h1 : 200 < max (b.size : Int) (p.size : Int)
  · have e1 : decide (200 < max (b.size : Int) (p.size : Int)) = true := decide_eq_true h1
    rw [if_pos h1, if_pos h1]
    (refine Spec.of_body Try.func46 rfl (by rw [Try.ntmps46]; simp) 0 (by simp) ?_; rw [Try.results46, Try.ntmps46]; simp only [entry, zipArgs, Nat.reduceAdd])
    repeat (first | apply Wp.seq | apply Wp.block | (apply Run.next; (simp only [push_cast, seval, e1] <;> (try simp (disch := omega) only [wI, wU, wC]) <;> exact rfl); (focus ((try simp only [push_cast, seval, e1]) <;> exact sT))) | ((first | apply Run.nil | apply Wp.skip); dsimp only [sQ, tQ, bQ]) | (apply Wp.run; (dsimp only [List.map] <;> exact rfl); exact rfl) | (apply Wp.exit; dsimp only [sQ, tQ, bQ]; simp only [reduceIte]) | (apply Run.gtrue; (simp only [push_cast, seval, e1] <;> (try simp (disch := omega) only [wI, wU, wC]) <;> exact rfl); (simp only [push_cast, seval, e1] <;> (try simp (disch := omega) only [wI, wU, wC]) <;> exact rfl)) | (apply Run.gfalse (.bool false); (simp only [push_cast, seval, e1] <;> (try simp (disch := omega) only [wI, wU, wC]) <;> exact rfl); dsimp only [S.put, optG]) | (apply Wp.condT; (simp only [push_cast, seval, e1] <;> (try simp (disch := omega) only [wI, wU, wC]) <;> exact rfl)) | (apply Wp.condF; (simp only [push_cast, seval, e1] <;> (try simp (disch := omega) only [wI, wU, wC]) <;> exact rfl)))
    (apply Wp.ret; (try dsimp only [sQ, tQ, bQ]); apply leave0; exact rfl; (simp only [push_cast, seval, e1] <;> (try simp (disch := omega) only [wI, wU, wC]) <;> exact rfl); all_goals (try simp only [push_cast, seval, e1]); (try rfl))
  · have e1 : decide (200 < max (b.size : Int) (p.size : Int)) = false := decide_eq_false h1
    rw [if_neg h1, if_neg h1]
    (refine Spec.of_body Try.func46 rfl (by rw [Try.ntmps46]; simp) 0 (by simp) ?_; rw [Try.results46, Try.ntmps46]; simp only [entry, zipArgs, Nat.reduceAdd])
    repeat (first | apply Wp.seq | apply Wp.block | (apply Run.next; (simp only [push_cast, seval, e1] <;> (try simp (disch := omega) only [wI, wU, wC]) <;> exact rfl); (focus ((try simp only [push_cast, seval, e1]) <;> exact sT))) | ((first | apply Run.nil | apply Wp.skip); dsimp only [sQ, tQ, bQ]) | (apply Wp.run; (dsimp only [List.map] <;> exact rfl); exact rfl) | (apply Wp.exit; dsimp only [sQ, tQ, bQ]; simp only [reduceIte]) | (apply Run.gtrue; (simp only [push_cast, seval, e1] <;> (try simp (disch := omega) only [wI, wU, wC]) <;> exact rfl); (simp only [push_cast, seval, e1] <;> (try simp (disch := omega) only [wI, wU, wC]) <;> exact rfl)) | (apply Run.gfalse (.bool false); (simp only [push_cast, seval, e1] <;> (try simp (disch := omega) only [wI, wU, wC]) <;> exact rfl); dsimp only [S.put, optG]) | (apply Wp.condT; (simp only [push_cast, seval, e1] <;> (try simp (disch := omega) only [wI, wU, wC]) <;> exact rfl)) | (apply Wp.condF; (simp only [push_cast, seval, e1] <;> (try simp (disch := omega) only [wI, wU, wC]) <;> exact rfl)))
    apply Wp.adopt 4 1; (simp only [push_cast, seval, e1] <;> (try simp (disch := omega) only [wI, wU, wC]) <;> exact rfl)
    refine Wp.loop (fun k : Nat => { t := [(0, .str b), (1, .str p), (4, .osl 0 (crkL b p k).length 0 (crkL b p k).length), (13, .int k)], m := [⟨(crkL b p k).length, .row 1 ((crkL b p k).map AV.int)⟩], n := 27 }) (fun k => k ≤ 26) (fun k => 26 - k) 0 ?_ ?_ ?_
    · (refine Le.of ?_ ?_ rfl rfl <;> (try simp only [push_cast, seval, e1]) <;> (try (with_reducible rfl)))
      all_goals rfl
    · omega
    · intro k hk
      have hln := crkL_len b p k
      have hsu := crkL_succ b p k
      by_cases hkb : k < 26
      · have e2 : decide ((k : Int) < 26) = true := decide_eq_true (by omega)
        have hs := shift_pure b (k : Int) (by omega) (by omega)
        have hc := contains_pure (shiftB b (k : Int)) p (by rw [shiftB_size]; omega)
        generalize hG : crkL b p k = G at hln hsu
        generalize shiftB b (k : Int) = sb at hs hc hsu
        cases hcc : Lib.contains sb.data.toList p.data.toList with
        | true =>
          rw [hcc] at hc
          rw [hcc, if_pos rfl] at hsu
          repeat (first | apply Wp.seq | apply Wp.block | (apply Run.next; (simp only [push_cast, seval, e1, e2, List.length_map] <;> (try simp (disch := omega) only [wI, wU, wC]) <;> exact rfl); (focus ((try simp only [push_cast, seval, e1, e2, List.length_map]) <;> exact sT))) | ((first | apply Run.nil | apply Wp.skip); dsimp only [sQ, tQ, bQ]) | (apply Wp.run; (dsimp only [List.map] <;> exact rfl); exact rfl) | (apply Wp.exit; dsimp only [sQ, tQ, bQ]; simp only [reduceIte]) | (apply Run.gtrue; (simp only [push_cast, seval, e1, e2, List.length_map] <;> (try simp (disch := omega) only [wI, wU, wC]) <;> exact rfl); (simp only [push_cast, seval, e1, e2, List.length_map] <;> (try simp (disch := omega) only [wI, wU, wC]) <;> exact rfl)) | (apply Run.gfalse (.bool false); (simp only [push_cast, seval, e1, e2, List.length_map] <;> (try simp (disch := omega) only [wI, wU, wC]) <;> exact rfl); dsimp only [S.put, optG]) | (apply Wp.condT; (simp only [push_cast, seval, e1, e2, List.length_map] <;> (try simp (disch := omega) only [wI, wU, wC]) <;> exact rfl)) | (apply Wp.condF; (simp only [push_cast, seval, e1, e2, List.length_map] <;> (try simp (disch := omega) only [wI, wU, wC]) <;> exact rfl)))
          (apply Run.pureP; (simp only [push_cast, seval, e1, e2, List.length_map] <;> (try simp (disch := omega) only [wI, wU, wC]) <;> exact rfl); (exact (Enters.of Try.func86 rfl rfl)); (exact hs); (focus (simp only [push_cast, seval, e1, e2, List.length_map] <;> first | trivial | assumption | (refine ⟨?_, ?_⟩ <;> assumption) | (simp; done))); (try dsimp only [putA, optG]))
          repeat (first | apply Wp.seq | apply Wp.block | (apply Run.next; (simp only [push_cast, seval, e1, e2, List.length_map] <;> (try simp (disch := omega) only [wI, wU, wC]) <;> exact rfl); (focus ((try simp only [push_cast, seval, e1, e2, List.length_map]) <;> exact sT))) | ((first | apply Run.nil | apply Wp.skip); dsimp only [sQ, tQ, bQ]) | (apply Wp.run; (dsimp only [List.map] <;> exact rfl); exact rfl) | (apply Wp.exit; dsimp only [sQ, tQ, bQ]; simp only [reduceIte]) | (apply Run.gtrue; (simp only [push_cast, seval, e1, e2, List.length_map] <;> (try simp (disch := omega) only [wI, wU, wC]) <;> exact rfl); (simp only [push_cast, seval, e1, e2, List.length_map] <;> (try simp (disch := omega) only [wI, wU, wC]) <;> exact rfl)) | (apply Run.gfalse (.bool false); (simp only [push_cast, seval, e1, e2, List.length_map] <;> (try simp (disch := omega) only [wI, wU, wC]) <;> exact rfl); dsimp only [S.put, optG]) | (apply Wp.condT; (simp only [push_cast, seval, e1, e2, List.length_map] <;> (try simp (disch := omega) only [wI, wU, wC]) <;> exact rfl)) | (apply Wp.condF; (simp only [push_cast, seval, e1, e2, List.length_map] <;> (try simp (disch := omega) only [wI, wU, wC]) <;> exact rfl)))
          (apply Run.pureP; (simp only [push_cast, seval, e1, e2, List.length_map] <;> (try simp (disch := omega) only [wI, wU, wC]) <;> exact rfl); (exact (Enters.of Try.func93 rfl rfl)); (exact hc); (focus (simp only [push_cast, seval, e1, e2, List.length_map] <;> first | trivial | assumption | (refine ⟨?_, ?_⟩ <;> assumption) | (simp; done))); (try dsimp only [putA, optG]))
          repeat (first | apply Wp.seq | apply Wp.block | (apply Run.next; (simp only [push_cast, seval, e1, e2, List.length_map] <;> (try simp (disch := omega) only [wI, wU, wC]) <;> exact rfl); (focus ((try simp only [push_cast, seval, e1, e2, List.length_map]) <;> exact sT))) | ((first | apply Run.nil | apply Wp.skip); dsimp only [sQ, tQ, bQ]) | (apply Wp.run; (dsimp only [List.map] <;> exact rfl); exact rfl) | (apply Wp.exit; dsimp only [sQ, tQ, bQ]; simp only [reduceIte]) | (apply Run.gtrue; (simp only [push_cast, seval, e1, e2, List.length_map] <;> (try simp (disch := omega) only [wI, wU, wC]) <;> exact rfl); (simp only [push_cast, seval, e1, e2, List.length_map] <;> (try simp (disch := omega) only [wI, wU, wC]) <;> exact rfl)) | (apply Run.gfalse (.bool false); (simp only [push_cast, seval, e1, e2, List.length_map] <;> (try simp (disch := omega) only [wI, wU, wC]) <;> exact rfl); dsimp only [S.put, optG]) | (apply Wp.condT; (simp only [push_cast, seval, e1, e2, List.length_map] <;> (try simp (disch := omega) only [wI, wU, wC]) <;> exact rfl)) | (apply Wp.condF; (simp only [push_cast, seval, e1, e2, List.length_map] <;> (try simp (disch := omega) only [wI, wU, wC]) <;> exact rfl)))
          refine ⟨k + 1, ?_, by omega, by omega⟩
          rw [hsu]
          (refine Le.of ?_ ?_ rfl rfl <;> (try simp only [push_cast, seval, e1, e2, List.length_map]) <;> (try (with_reducible rfl)))
          all_goals rw [List.length_append]
          all_goals rfl
        | false =>
          rw [hcc] at hc
          rw [hcc, if_neg (by simp)] at hsu
          repeat (first | apply Wp.seq | apply Wp.block | (apply Run.next; (simp only [push_cast, seval, e1, e2, List.length_map] <;> (try simp (disch := omega) only [wI, wU, wC]) <;> exact rfl); (focus ((try simp only [push_cast, seval, e1, e2, List.length_map]) <;> exact sT))) | ((first | apply Run.nil | apply Wp.skip); dsimp only [sQ, tQ, bQ]) | (apply Wp.run; (dsimp only [List.map] <;> exact rfl); exact rfl) | (apply Wp.exit; dsimp only [sQ, tQ, bQ]; simp only [reduceIte]) | (apply Run.gtrue; (simp only [push_cast, seval, e1, e2, List.length_map] <;> (try simp (disch := omega) only [wI, wU, wC]) <;> exact rfl); (simp only [push_cast, seval, e1, e2, List.length_map] <;> (try simp (disch := omega) only [wI, wU, wC]) <;> exact rfl)) | (apply Run.gfalse (.bool false); (simp only [push_cast, seval, e1, e2, List.length_map] <;> (try simp (disch := omega) only [wI, wU, wC]) <;> exact rfl); dsimp only [S.put, optG]) | (apply Wp.condT; (simp only [push_cast, seval, e1, e2, List.length_map] <;> (try simp (disch := omega) only [wI, wU, wC]) <;> exact rfl)) | (apply Wp.condF; (simp only [push_cast, seval, e1, e2, List.length_map] <;> (try simp (disch := omega) only [wI, wU, wC]) <;> exact rfl)))
          (apply Run.pureP; (simp only [push_cast, seval, e1, e2, List.length_map] <;> (try simp (disch := omega) only [wI, wU, wC]) <;> exact rfl); (exact (Enters.of Try.func86 rfl rfl)); (exact hs); (focus (simp only [push_cast, seval, e1, e2, List.length_map] <;> first | trivial | assumption | (refine ⟨?_, ?_⟩ <;> assumption) | (simp; done))); (try dsimp only [putA, optG]))
          repeat (first | apply Wp.seq | apply Wp.block | (apply Run.next; (simp only [push_cast, seval, e1, e2, List.length_map] <;> (try simp (disch := omega) only [wI, wU, wC]) <;> exact rfl); (focus ((try simp only [push_cast, seval, e1, e2, List.length_map]) <;> exact sT))) | ((first | apply Run.nil | apply Wp.skip); dsimp only [sQ, tQ, bQ]) | (apply Wp.run; (dsimp only [List.map] <;> exact rfl); exact rfl) | (apply Wp.exit; dsimp only [sQ, tQ, bQ]; simp only [reduceIte]) | (apply Run.gtrue; (simp only [push_cast, seval, e1, e2, List.length_map] <;> (try simp (disch := omega) only [wI, wU, wC]) <;> exact rfl); (simp only [push_cast, seval, e1, e2, List.length_map] <;> (try simp (disch := omega) only [wI, wU, wC]) <;> exact rfl)) | (apply Run.gfalse (.bool false); (simp only [push_cast, seval, e1, e2, List.length_map] <;> (try simp (disch := omega) only [wI, wU, wC]) <;> exact rfl); dsimp only [S.put, optG]) | (apply Wp.condT; (simp only [push_cast, seval, e1, e2, List.length_map] <;> (try simp (disch := omega) only [wI, wU, wC]) <;> exact rfl)) | (apply Wp.condF; (simp only [push_cast, seval, e1, e2, List.length_map] <;> (try simp (disch := omega) only [wI, wU, wC]) <;> exact rfl)))
          (apply Run.pureP; (simp only [push_cast, seval, e1, e2, List.length_map] <;> (try simp (disch := omega) only [wI, wU, wC]) <;> exact rfl); (exact (Enters.of Try.func93 rfl rfl)); (exact hc); (focus (simp only [push_cast, seval, e1, e2, List.length_map] <;> first | trivial | assumption | (refine ⟨?_, ?_⟩ <;> assumption) | (simp; done))); (try dsimp only [putA, optG]))
          repeat (first | apply Wp.seq | apply Wp.block | (apply Run.next; (simp only [push_cast, seval, e1, e2, List.length_map] <;> (try simp (disch := omega) only [wI, wU, wC]) <;> exact rfl); (focus ((try simp only [push_cast, seval, e1, e2, List.length_map]) <;> exact sT))) | ((first | apply Run.nil | apply Wp.skip); dsimp only [sQ, tQ, bQ]) | (apply Wp.run; (dsimp only [List.map] <;> exact rfl); exact rfl) | (apply Wp.exit; dsimp only [sQ, tQ, bQ]; simp only [reduceIte]) | (apply Run.gtrue; (simp only [push_cast, seval, e1, e2, List.length_map] <;> (try simp (disch := omega) only [wI, wU, wC]) <;> exact rfl); (simp only [push_cast, seval, e1, e2, List.length_map] <;> (try simp (disch := omega) only [wI, wU, wC]) <;> exact rfl)) | (apply Run.gfalse (.bool false); (simp only [push_cast, seval, e1, e2, List.length_map] <;> (try simp (disch := omega) only [wI, wU, wC]) <;> exact rfl); dsimp only [S.put, optG]) | (apply Wp.condT; (simp only [push_cast, seval, e1, e2, List.length_map] <;> (try simp (disch := omega) only [wI, wU, wC]) <;> exact rfl)) | (apply Wp.condF; (simp only [push_cast, seval, e1, e2, List.length_map] <;> (try simp (disch := omega) only [wI, wU, wC]) <;> exact rfl)))
          refine ⟨k + 1, ?_, by omega, by omega⟩
          rw [hsu]
          (refine Le.of ?_ ?_ rfl rfl <;> (try simp only [push_cast, seval, e1, e2, List.length_map]) <;> (try (with_reducible rfl)))
      · obtain rfl : k = 26 := by omega
        have e2 : decide ((26 : Int) < 26) = false := rfl
        have e3 : decide (((26 : Nat) : Int) < 26) = false := rfl
        (apply Wp.freeze 4; (simp only [push_cast, seval, e1, e2, e3, List.length_map] <;> (try simp (disch := omega) only [wI, wU, wC]) <;> exact rfl); (simp only [push_cast, seval, e1, e2, e3, List.length_map] <;> (try simp (disch := omega) only [wI, wU, wC]) <;> exact rfl); (focus (try simp only [push_cast, seval, e1, e2, e3, List.length_map]); (try (exact sT))); (focus (exact sT)))
        repeat (first | apply Wp.seq | apply Wp.block | (apply Run.next; (simp only [push_cast, seval, e1, e2, e3, List.length_map] <;> (try simp (disch := omega) only [wI, wU, wC]) <;> exact rfl); (focus ((try simp only [push_cast, seval, e1, e2, e3, List.length_map]) <;> exact sT))) | ((first | apply Run.nil | apply Wp.skip); dsimp only [sQ, tQ, bQ]) | (apply Wp.run; (dsimp only [List.map] <;> exact rfl); exact rfl) | (apply Wp.exit; dsimp only [sQ, tQ, bQ]; simp only [reduceIte]) | (apply Run.gtrue; (simp only [push_cast, seval, e1, e2, e3, List.length_map] <;> (try simp (disch := omega) only [wI, wU, wC]) <;> exact rfl); (simp only [push_cast, seval, e1, e2, e3, List.length_map] <;> (try simp (disch := omega) only [wI, wU, wC]) <;> exact rfl)) | (apply Run.gfalse (.bool false); (simp only [push_cast, seval, e1, e2, e3, List.length_map] <;> (try simp (disch := omega) only [wI, wU, wC]) <;> exact rfl); dsimp only [S.put, optG]) | (apply Wp.condT; (simp only [push_cast, seval, e1, e2, e3, List.length_map] <;> (try simp (disch := omega) only [wI, wU, wC]) <;> exact rfl)) | (apply Wp.condF; (simp only [push_cast, seval, e1, e2, e3, List.length_map] <;> (try simp (disch := omega) only [wI, wU, wC]) <;> exact rfl)))
        (apply Wp.ret; (try dsimp only [sQ, tQ, bQ]); apply leave0; exact rfl; (simp only [push_cast, seval, e1, e2, e3, List.length_map] <;> (try simp (disch := omega) only [wI, wU, wC]) <;> exact rfl); all_goals (try simp only [push_cast, seval, e1, e2, e3, List.length_map]); (try rfl))
end Go.Proofs.Try
set_option maxHeartbeats 8000000
namespace Go.Proofs.Try
open Go.Vg

/-! letters moved, and back -/
theorem rr_emod (x : Int) : (x.tmod 26 + 26).tmod 26 = x % 26 := by
  have h1 := tmod26 x
  obtain ⟨q1, e1⟩ := tmod_q x
  obtain ⟨q2, e2⟩ := tmod_q (x.tmod 26 + 26)
  omega
theorem mv_nat (c : UInt8) (n : Int) : ((mv c n).toNat : Int) = 97 + (((c.toNat : Int) - 97) + n) % 26 := by
  unfold mv
  rw [rr_emod, UInt8.toNat_ofNat']
  omega
theorem mv_letter (c : UInt8) (n : Int) : letter (mv c n) = true := by
  have := mv_nat c n
  unfold letter
  rw [Bool.and_eq_true, decide_eq_true_eq, decide_eq_true_eq]
  omega
theorem u8_ext {a b : UInt8} (h : (a.toNat : Int) = (b.toNat : Int)) : a = b := UInt8.toNat_inj.1 (by exact_mod_cast h)
theorem mv_mv (c : UInt8) (n m : Int) : mv (mv c n) m = mv c (n + m) := by
  apply u8_ext
  rw [mv_nat, mv_nat, mv_nat]
  omega
theorem mv_id {c : UInt8} {n : Int} (hc : letter c = true) (hn : n % 26 = 0) : mv c n = c := by
  apply u8_ext
  rw [mv_nat]
  unfold letter at hc
  rw [Bool.and_eq_true, decide_eq_true_eq, decide_eq_true_eq] at hc
  omega
theorem chL_comp (f g : Nat → Int) : ∀ (l : List UInt8) (i : Nat), changeL f (changeL g l i) i = changeL (fun k => g k + f k) l i
  | [], i => rfl
  | c :: l, i => by
    by_cases h : letter c = true
    · simp only [changeL, h, if_true, mv_letter, mv_mv, chL_comp f g l (i + 1)]
    · have h' : letter c = false := by simpa using h
      simp [changeL, h', chL_comp f g l i]
theorem chL_id (f : Nat → Int) (hf : ∀ k, f k % 26 = 0) : ∀ (l : List UInt8) (i : Nat), changeL f l i = l
  | [], i => rfl
  | c :: l, i => by
    by_cases h : letter c = true
    · simp only [changeL, h, if_true, mv_id h (hf i), chL_id f hf l (i + 1)]
    · have h' : letter c = false := by simpa using h
      simp [changeL, h', chL_id f hf l i]
theorem shiftB_comp (b : ByteArray) (n m : Int) : shiftB (shiftB b n) m = shiftB b (n + m) := by
  unfold shiftB
  simp only [chL_comp]
theorem shiftB_id (b : ByteArray) {n : Int} (h : n % 26 = 0) : shiftB b n = b := by
  unfold shiftB
  rw [chL_id _ (fun _ => h)]
theorem mixB_back (b key : ByteArray) (back : Bool) : mixB (mixB b key back) key (!back) = b := by
  unfold mixB
  simp only [chL_comp]
  rw [chL_id]
  intro k
  unfold mixF sgB
  generalize ((key.data.toList.getD (k % key.size) 0).toNat : Int) - 97 = x
  cases back <;> simp <;> omega
theorem mixB_size (b key : ByteArray) (back : Bool) : (mixB b key back).size = b.size := by
  unfold mixB
  show (changeL _ _ 0).toArray.size = _
  rw [List.size_toArray, changeL_len, bszL]
theorem crk_back {b p : ByteArray} {n : Int} (h : Lib.contains b.data.toList p.data.toList = true) : (crkL (shiftB b n) p 26).contains (((26 - n).tmod 26 + 26).tmod 26) = true := by
  rw [rr_emod]
  obtain ⟨r, hr⟩ : ∃ r : Nat, (26 - n) % 26 = (r : Int) := ⟨((26 - n) % 26).toNat, by omega⟩
  rw [hr, List.contains_iff_mem]
  unfold crkL
  refine List.mem_map.2 ⟨r, List.mem_filter.2 ⟨List.mem_range.2 (by omega), ?_⟩, rfl⟩
  rw [shiftB_comp, shiftB_id b (by omega)]
  exact h
theorem shiftV_ok {b : ByteArray} {n : Int} (hb : b.size ≤ 200) (hn : -100 ≤ n ∧ n ≤ 100) : shiftV b n = (shiftB b n, 0) := by
  unfold shiftV
  rw [if_neg (by omega), decide_eq_true hn.1, decide_eq_true hn.2]
  rfl
theorem shiftV_or (b : ByteArray) (n : Int) : (shiftV b n = (shiftB b n, 0) ∧ b.size ≤ 200 ∧ -100 ≤ n ∧ n ≤ 100) ∨ ((shiftV b n).2 ≠ 0) := by
  by_cases h1 : b.size ≤ 200
  · by_cases h2 : -100 ≤ n ∧ n ≤ 100
    · exact .inl ⟨shiftV_ok h1 h2, h1, h2⟩
    · right
      unfold shiftV
      rw [if_neg (by omega)]
      rw [if_neg (by rw [Bool.and_eq_true, decide_eq_true_eq, decide_eq_true_eq]; exact h2)]
      decide
  · right
    unfold shiftV
    rw [if_pos (by omega)]
    decide
theorem mixV_or (b key : ByteArray) (back : Bool) : (mixV b key back = (mixB b key back, 0) ∧ b.size ≤ 200 ∧ keyB key = true) ∨ ((mixV b key back).2 ≠ 0) := by
  by_cases h1 : b.size ≤ 200
  · cases hk : keyB key with
    | true => left; unfold mixV; rw [if_neg (by omega), hk, if_pos rfl]; exact ⟨rfl, h1, rfl⟩
    | false => right; unfold mixV; rw [if_neg (by omega), hk, if_neg (by simp)]; decide
  · right
    unfold mixV
    rw [if_pos (by omega)]
    decide
theorem lcontains_pure (b p : ByteArray) (hb : b.size ≤ 1000) (hp : p.size ≤ 1000) : Pure Try.prog 48 [.str b, .str p] (.bool (Lib.contains b.data.toList p.data.toList)) := by
  have hbl := bszL b
  have hpl := bszL p
  have hoc : ∀ k : Nat, k + p.size ≤ b.size → decide (b.extract k ((k : Int) + (p.size : Int)).toNat = p) = Lib.occAt b.data.toList p.data.toList k := by
    intro k hk
    rw [Lib.occAt_iff_take _ _ _ (by omega), show ((k : Int) + (p.size : Int)).toNat = k + p.size by omega]
    have he : (b.extract k (k + p.size)).data.toList = (b.data.toList.drop k).take p.data.toList.length := by rw [Lib.extract_data, hpl, show k + p.size - k = p.size by omega]
    refine Bool.eq_iff_iff.2 ?_
    rw [decide_eq_true_eq, beq_iff_eq, ← he]
    refine ⟨fun h => by rw [h], fun h => ?_⟩
    generalize b.extract k (k + p.size) = e at h
    obtain ⟨⟨l1⟩⟩ := e
    obtain ⟨⟨l2⟩⟩ := p
    simp only at h
    rw [h]
  have hyes : ∀ k : Nat, k ≤ b.size → Lib.occAt b.data.toList p.data.toList k = true → Lib.contains b.data.toList p.data.toList = true := by
    intro k hk h
    unfold Lib.contains
    rcases Lib.index_spec b.data.toList p.data.toList with ⟨_, h2⟩ | ⟨i, h2, _⟩
    · rw [h2 k (by omega)] at h; cases h
    · rw [h2]; exact decide_eq_true (Int.natCast_nonneg _)
  have hno : (∀ j, j ≤ b.size → Lib.occAt b.data.toList p.data.toList j = false) → Lib.contains b.data.toList p.data.toList = false := by
    intro h
    unfold Lib.contains
    rw [Lib.index_none (fun j hj => h j (by omega))]
    rfl
  (refine Spec.of_body Try.func48 rfl (by rw [Try.ntmps48]; simp) 0 (by simp) ?_; rw [Try.results48, Try.ntmps48]; simp only [entry, zipArgs, Nat.reduceAdd])
  repeat (first | apply Wp.seq | apply Wp.block | (apply Run.next; (simp only [push_cast, seval] <;> (try simp (disch := omega) only [wI, wU, wC]) <;> exact rfl); (focus ((try simp only [push_cast, seval]) <;> exact sT))) | ((first | apply Run.nil | apply Wp.skip); dsimp only [sQ, tQ, bQ]) | (apply Wp.run; (dsimp only [List.map] <;> exact rfl); exact rfl) | (apply Wp.exit; dsimp only [sQ, tQ, bQ]; simp only [reduceIte]))
  refine Wp.loop (fun k : Nat => { t := [(0, .str b), (1, .str p), (5, .int k)], m := [], n := 24 }) (fun k => k ≤ b.size + 1 ∧ ∀ j, j < k → Lib.occAt b.data.toList p.data.toList j = false) (fun k => b.size + 1 - k) 0 ?_ ?_ ?_
  · (refine Le.of ?_ ?_ rfl rfl <;> (try simp only [push_cast, seval]) <;> (try (with_reducible rfl)))
  · simp
  · rintro k ⟨hk0, hk⟩
    by_cases hkb : k + p.size ≤ b.size
    · have e1 : decide ((k : Int) + (p.size : Int) ≤ (b.size : Int)) = true := decide_eq_true (by omega)
      have hok := hoc k hkb
      cases hoo : Lib.occAt b.data.toList p.data.toList k with
      | true =>
        rw [hoo] at hok
        rw [hyes k (by omega) hoo]
        repeat (first | apply Wp.seq | apply Wp.block | (apply Run.next; (simp only [push_cast, seval, e1, hok] <;> (try simp (disch := omega) only [wI, wU, wC]) <;> exact rfl); (focus ((try simp only [push_cast, seval, e1, hok]) <;> exact sT))) | ((first | apply Run.nil | apply Wp.skip); dsimp only [sQ, tQ, bQ]) | (apply Wp.run; (dsimp only [List.map] <;> exact rfl); exact rfl) | (apply Wp.exit; dsimp only [sQ, tQ, bQ]; simp only [reduceIte]) | (apply Run.gtrue; (simp only [push_cast, seval, e1, hok] <;> (try simp (disch := omega) only [wI, wU, wC]) <;> exact rfl); (simp only [push_cast, seval, e1, hok] <;> (try simp (disch := omega) only [wI, wU, wC]) <;> exact rfl)) | (apply Run.gfalse (.bool false); (simp only [push_cast, seval, e1, hok] <;> (try simp (disch := omega) only [wI, wU, wC]) <;> exact rfl); dsimp only [S.put, optG]) | (apply Wp.condT; (simp only [push_cast, seval, e1, hok] <;> (try simp (disch := omega) only [wI, wU, wC]) <;> exact rfl)) | (apply Wp.condF; (simp only [push_cast, seval, e1, hok] <;> (try simp (disch := omega) only [wI, wU, wC]) <;> exact rfl)))
        (apply Wp.ret; (try dsimp only [sQ, tQ, bQ]); apply leave0; exact rfl; (simp only [push_cast, seval, e1, hok] <;> (try simp (disch := omega) only [wI, wU, wC]) <;> exact rfl); all_goals (try simp only [push_cast, seval, e1, hok]); (try rfl))
      | false =>
        rw [hoo] at hok
        repeat (first | apply Wp.seq | apply Wp.block | (apply Run.next; (simp only [push_cast, seval, e1, hok] <;> (try simp (disch := omega) only [wI, wU, wC]) <;> exact rfl); (focus ((try simp only [push_cast, seval, e1, hok]) <;> exact sT))) | ((first | apply Run.nil | apply Wp.skip); dsimp only [sQ, tQ, bQ]) | (apply Wp.run; (dsimp only [List.map] <;> exact rfl); exact rfl) | (apply Wp.exit; dsimp only [sQ, tQ, bQ]; simp only [reduceIte]) | (apply Run.gtrue; (simp only [push_cast, seval, e1, hok] <;> (try simp (disch := omega) only [wI, wU, wC]) <;> exact rfl); (simp only [push_cast, seval, e1, hok] <;> (try simp (disch := omega) only [wI, wU, wC]) <;> exact rfl)) | (apply Run.gfalse (.bool false); (simp only [push_cast, seval, e1, hok] <;> (try simp (disch := omega) only [wI, wU, wC]) <;> exact rfl); dsimp only [S.put, optG]) | (apply Wp.condT; (simp only [push_cast, seval, e1, hok] <;> (try simp (disch := omega) only [wI, wU, wC]) <;> exact rfl)) | (apply Wp.condF; (simp only [push_cast, seval, e1, hok] <;> (try simp (disch := omega) only [wI, wU, wC]) <;> exact rfl)))
        refine ⟨k + 1, ?_, ⟨by omega, fun j hj => ?_⟩, by omega⟩
        · (refine Le.of ?_ ?_ rfl rfl <;> (try simp only [push_cast, seval, e1, hok]) <;> (try (with_reducible rfl)))
        · by_cases hjk : j = k
          · subst hjk; exact hoo
          · exact hk j (by omega)
    · have e1 : decide ((k : Int) + (p.size : Int) ≤ (b.size : Int)) = false := decide_eq_false (by omega)
      rw [hno fun j hj => by
        by_cases hjk : j < k
        · exact hk j hjk
        · rw [← Bool.not_eq_true]
          intro h
          rcases Lib.occAt_room h with h | h
          · omega
          · have : p.data.toList.length = 0 := by rw [h]; rfl
            omega]
      repeat (first | apply Wp.seq | apply Wp.block | (apply Run.next; (simp only [push_cast, seval, e1] <;> (try simp (disch := omega) only [wI, wU, wC]) <;> exact rfl); (focus ((try simp only [push_cast, seval, e1]) <;> exact sT))) | ((first | apply Run.nil | apply Wp.skip); dsimp only [sQ, tQ, bQ]) | (apply Wp.run; (dsimp only [List.map] <;> exact rfl); exact rfl) | (apply Wp.exit; dsimp only [sQ, tQ, bQ]; simp only [reduceIte]) | (apply Run.gtrue; (simp only [push_cast, seval, e1] <;> (try simp (disch := omega) only [wI, wU, wC]) <;> exact rfl); (simp only [push_cast, seval, e1] <;> (try simp (disch := omega) only [wI, wU, wC]) <;> exact rfl)) | (apply Run.gfalse (.bool false); (simp only [push_cast, seval, e1] <;> (try simp (disch := omega) only [wI, wU, wC]) <;> exact rfl); dsimp only [S.put, optG]) | (apply Wp.condT; (simp only [push_cast, seval, e1] <;> (try simp (disch := omega) only [wI, wU, wC]) <;> exact rfl)) | (apply Wp.condF; (simp only [push_cast, seval, e1] <;> (try simp (disch := omega) only [wI, wU, wC]) <;> exact rfl)))
      (apply Wp.ret; (try dsimp only [sQ, tQ, bQ]); apply leave0; exact rfl; (simp only [push_cast, seval, e1] <;> (try simp (disch := omega) only [wI, wU, wC]) <;> exact rfl); all_goals (try simp only [push_cast, seval, e1]); (try rfl))
theorem has_pure (l : List Int) (n : Int) (hl : l.length ≤ 1000) : Pure Try.prog 49 [.ints l, .int n] (.bool (l.contains n)) := by
  (refine Spec.of_body Try.func49 rfl (by rw [Try.ntmps49]; simp) 0 (by simp) ?_; rw [Try.results49, Try.ntmps49]; simp only [entry, zipArgs, Nat.reduceAdd])
  repeat (first | apply Wp.seq | apply Wp.block | (apply Run.next; (simp only [push_cast, seval] <;> (try simp (disch := omega) only [wI, wU, wC]) <;> exact rfl); (focus ((try simp only [push_cast, seval]) <;> exact sT))) | ((first | apply Run.nil | apply Wp.skip); dsimp only [sQ, tQ, bQ]) | (apply Wp.run; (dsimp only [List.map] <;> exact rfl); exact rfl) | (apply Wp.exit; dsimp only [sQ, tQ, bQ]; simp only [reduceIte]))
  refine Wp.loop (fun k : Nat => { t := [(0, .ints l), (1, .int n), (5, .int k)], m := [], n := 18 }) (fun k => k ≤ l.length ∧ ∀ j, j < k → l.getD j 0 ≠ n) (fun k => l.length - k) 0 ?_ ?_ ?_
  · (refine Le.of ?_ ?_ rfl rfl <;> (try simp only [push_cast, seval]) <;> (try (with_reducible rfl)))
  · simp
  · rintro k ⟨hk1, hk2⟩
    by_cases hkb : k < l.length
    · have e1 : decide ((k : Int) < (l.length : Int)) = true := decide_eq_true (by omega)
      generalize hx : l.getD k 0 = x
      by_cases hxn : x = n
      · have e2 : decide (x = n) = true := decide_eq_true hxn
        repeat (first | apply Wp.seq | apply Wp.block | (apply Run.next; (simp only [push_cast, seval, e1, e2, hx] <;> (try simp (disch := omega) only [wI, wU, wC]) <;> exact rfl); (focus ((try simp only [push_cast, seval, e1, e2, hx]) <;> exact sT))) | ((first | apply Run.nil | apply Wp.skip); dsimp only [sQ, tQ, bQ]) | (apply Wp.run; (dsimp only [List.map] <;> exact rfl); exact rfl) | (apply Wp.exit; dsimp only [sQ, tQ, bQ]; simp only [reduceIte]) | (apply Run.gtrue; (simp only [push_cast, seval, e1, e2, hx] <;> (try simp (disch := omega) only [wI, wU, wC]) <;> exact rfl); (simp only [push_cast, seval, e1, e2, hx] <;> (try simp (disch := omega) only [wI, wU, wC]) <;> exact rfl)) | (apply Run.gfalse (.bool false); (simp only [push_cast, seval, e1, e2, hx] <;> (try simp (disch := omega) only [wI, wU, wC]) <;> exact rfl); dsimp only [S.put, optG]) | (apply Wp.condT; (simp only [push_cast, seval, e1, e2, hx] <;> (try simp (disch := omega) only [wI, wU, wC]) <;> exact rfl)) | (apply Wp.condF; (simp only [push_cast, seval, e1, e2, hx] <;> (try simp (disch := omega) only [wI, wU, wC]) <;> exact rfl)))
        (apply Wp.ret; (try dsimp only [sQ, tQ, bQ]); apply leave0; exact rfl; (simp only [push_cast, seval, e1, e2, hx] <;> (try simp (disch := omega) only [wI, wU, wC]) <;> exact rfl); all_goals (try simp only [push_cast, seval, e1, e2, hx]); (try rfl))
        have : l.contains n = true := by
          rw [List.contains_iff_mem, ← hxn, ← hx]
          simp [hkb]
        rw [this]
      · have e2 : decide (x = n) = false := decide_eq_false hxn
        repeat (first | apply Wp.seq | apply Wp.block | (apply Run.next; (simp only [push_cast, seval, e1, e2, hx] <;> (try simp (disch := omega) only [wI, wU, wC]) <;> exact rfl); (focus ((try simp only [push_cast, seval, e1, e2, hx]) <;> exact sT))) | ((first | apply Run.nil | apply Wp.skip); dsimp only [sQ, tQ, bQ]) | (apply Wp.run; (dsimp only [List.map] <;> exact rfl); exact rfl) | (apply Wp.exit; dsimp only [sQ, tQ, bQ]; simp only [reduceIte]) | (apply Run.gtrue; (simp only [push_cast, seval, e1, e2, hx] <;> (try simp (disch := omega) only [wI, wU, wC]) <;> exact rfl); (simp only [push_cast, seval, e1, e2, hx] <;> (try simp (disch := omega) only [wI, wU, wC]) <;> exact rfl)) | (apply Run.gfalse (.bool false); (simp only [push_cast, seval, e1, e2, hx] <;> (try simp (disch := omega) only [wI, wU, wC]) <;> exact rfl); dsimp only [S.put, optG]) | (apply Wp.condT; (simp only [push_cast, seval, e1, e2, hx] <;> (try simp (disch := omega) only [wI, wU, wC]) <;> exact rfl)) | (apply Wp.condF; (simp only [push_cast, seval, e1, e2, hx] <;> (try simp (disch := omega) only [wI, wU, wC]) <;> exact rfl)))
        refine ⟨k + 1, ?_, ⟨by omega, fun j hj => ?_⟩, by omega⟩
        · (refine Le.of ?_ ?_ rfl rfl <;> (try simp only [push_cast, seval, e1, e2, hx]) <;> (try (with_reducible rfl)))
        · by_cases hjk : j = k
          · subst hjk; rw [hx]; exact hxn
          · exact hk2 j (by omega)
    · obtain rfl : k = l.length := by omega
      have e1 : decide ((l.length : Int) < (l.length : Int)) = false := decide_eq_false (by omega)
      repeat (first | apply Wp.seq | apply Wp.block | (apply Run.next; (simp only [push_cast, seval, e1] <;> (try simp (disch := omega) only [wI, wU, wC]) <;> exact rfl); (focus ((try simp only [push_cast, seval, e1]) <;> exact sT))) | ((first | apply Run.nil | apply Wp.skip); dsimp only [sQ, tQ, bQ]) | (apply Wp.run; (dsimp only [List.map] <;> exact rfl); exact rfl) | (apply Wp.exit; dsimp only [sQ, tQ, bQ]; simp only [reduceIte]) | (apply Run.gtrue; (simp only [push_cast, seval, e1] <;> (try simp (disch := omega) only [wI, wU, wC]) <;> exact rfl); (simp only [push_cast, seval, e1] <;> (try simp (disch := omega) only [wI, wU, wC]) <;> exact rfl)) | (apply Run.gfalse (.bool false); (simp only [push_cast, seval, e1] <;> (try simp (disch := omega) only [wI, wU, wC]) <;> exact rfl); dsimp only [S.put, optG]) | (apply Wp.condT; (simp only [push_cast, seval, e1] <;> (try simp (disch := omega) only [wI, wU, wC]) <;> exact rfl)) | (apply Wp.condF; (simp only [push_cast, seval, e1] <;> (try simp (disch := omega) only [wI, wU, wC]) <;> exact rfl)))
      (apply Wp.ret; (try dsimp only [sQ, tQ, bQ]); apply leave0; exact rfl; (simp only [push_cast, seval, e1] <;> (try simp (disch := omega) only [wI, wU, wC]) <;> exact rfl); all_goals (try simp only [push_cast, seval, e1]); (try rfl))
      have : l.contains n = false := by
        rw [← Bool.not_eq_true, List.contains_iff_mem]
        intro h
        obtain ⟨i, hi, rfl⟩ := List.getElem_of_mem h
        have := hk2 i hi
        simp [hi] at this
      rw [this]
end Go.Proofs.Try
