/- A part of the proof of BookingBest: contracts of functions, with plain laws that they need. -/
import Derived.Test.YtbeclidfilbbdaaVgK8J
set_option linter.all false
set_option maxHeartbeats 8000000
set_option maxRecDepth 20000
namespace Go.Vg
open Go.RowKit
/-- branches meet again in one state, and something is known -/
theorem Wp.cutP {P : Program} {r : Option Nat} {c : Code} {Q : Exit → S → Prop} {s : S} (s1 : S) (C : Prop) (h1 : Wp P r c (tQ (fun s' => Le s' s1 ∧ C) Q) s) (h2 : ∀ s', Le s' s1 → C → Q .normal s') : Wp P r c Q s :=
  h1.mono (by
    intro e s' h
    cases e
    case normal => exact h2 s' h.1 h.2
    all_goals exact h)
/-- a nil slice is an empty list -/
theorem Wp.nilL {P : Program} {r : Option Nat} {c : Code} {Q : Exit → S → Prop} {s : S} (n sz : Nat) (h : look s.t n = .emp) (k : Wp P r c Q { s with t := (n, .lst sz []) :: s.t }) : Wp P r c Q s := by
  intro X a w ρ hr
  have hx := hr.tmps n
  rw [h] at hx
  exact k X a w ρ (hr.setT (emp_lst sz hx))
end Go.Vg
namespace Go.Proofs.Try
open Go.Vg

/-! sets of bookings, bit by bit -/
abbrev sP (s : Int) : Nat → Bool := fun i => tgB s (i : Int)
theorem members_pure (s : Int) (n : Nat) (hn : n ≤ 100) : Pure Try.prog 76 [.int s, .int (n : Int)] (.ints (cL (ixL (sP s) n))) := by
  (refine Spec.of_body Try.func76 rfl (by rw [Try.ntmps76]; simp) 0 (by simp) ?_; rw [Try.results76, Try.ntmps76]; simp only [entry, zipArgs, Nat.reduceAdd])
  repeat (first | apply Wp.seq | apply Wp.block | (apply Run.next; (simp only [push_cast, seval] <;> (try simp (disch := omega) only [wI, wU, wC]) <;> exact rfl); (focus ((try simp only [push_cast, seval]) <;> exact sT))) | ((first | apply Run.nil | apply Wp.skip); dsimp only [sQ, tQ, bQ]) | (apply Wp.run; (dsimp only [List.map] <;> exact rfl); exact rfl) | (apply Wp.exit; dsimp only [sQ, tQ, bQ]; simp only [reduceIte]))
  refine Wp.adopt 4 1 (by (simp only [push_cast, seval] <;> (try simp (disch := omega) only [wI, wU, wC]) <;> exact rfl)) ?_
  refine Wp.loop (fun (k : Nat) => { t := [(0, .int s), (1, .int n), (6, .int n), (7, .int k), (4, .osl 0 (ctN (sP s) k) 0 (ctN (sP s) k))], m := [⟨ctN (sP s) k, .row 1 ((cL (ixL (sP s) k)).map AV.int)⟩], n := 21 }) (fun k => k ≤ n) (fun k => n - k) 0 ?_ ?_ ?_
  · (refine Le.of ?_ ?_ rfl rfl <;> (try simp only [push_cast, seval]) <;> (try (with_reducible rfl)))
    all_goals rfl
  · simp
  · intro k hk
    have hsc := ixL_succ (sP s) k
    have hct : ctN (sP s) (k + 1) = if sP s k = true then ctN (sP s) k + 1 else ctN (sP s) k := rfl
    have hcb : ctN (sP s) k ≤ k := by
      have := ct_bd (sP s) k; rw [ct_ctN] at this; omega
    have hpk : sP s k = tgB s (k : Int) := rfl
    have hcl : (cL (ixL (sP s) k)).length = ctN (sP s) k := by rw [cL_len, ixL_len]
    have hcs : sP s k = true → cL (ixL (sP s) (k + 1)) = cL (ixL (sP s) k) ++ [(k : Int)] := fun h => by rw [hsc, if_pos h]; simp [cL]
    have hcn : sP s k = false → cL (ixL (sP s) (k + 1)) = cL (ixL (sP s) k) := fun h => by rw [hsc, if_neg (by rw [h]; simp), List.append_nil]
    unfold tgB at hpk
    generalize hC : cL (ixL (sP s) k) = C at hcl hcs hcn
    generalize hc0 : ctN (sP s) k = c0 at hct hcb hcl
    have htk : C.take c0 = C := List.take_of_length_le (by omega)
    repeat (first | apply Wp.seq | apply Wp.block | (apply Run.next; (simp only [push_cast, seval, htk, hcl] <;> (try simp (disch := omega) only [wI, wU, wC]) <;> exact rfl); (focus ((try simp only [push_cast, seval, htk, hcl]) <;> exact sT))) | ((first | apply Run.nil | apply Wp.skip); dsimp only [sQ, tQ, bQ]) | (apply Wp.run; (dsimp only [List.map] <;> exact rfl); exact rfl) | (apply Wp.exit; dsimp only [sQ, tQ, bQ]; simp only [reduceIte]))
    (apply Wp.cond; (simp only [push_cast, seval, htk, hcl] <;> (try simp (disch := omega) only [wI, wU, wC]) <;> exact rfl))
    · intro hc
      simp only [decide_eq_true_eq, Int.ofNat_lt] at hc
      repeat (first | apply Wp.seq | apply Wp.block | (apply Run.next; (simp only [push_cast, seval, htk, hcl] <;> (try simp (disch := omega) only [wI, wU, wC]) <;> exact rfl); (focus ((try simp only [push_cast, seval, htk, hcl]) <;> exact sT))) | ((first | apply Run.nil | apply Wp.skip); dsimp only [sQ, tQ, bQ]) | (apply Wp.run; (dsimp only [List.map] <;> exact rfl); exact rfl) | (apply Wp.exit; dsimp only [sQ, tQ, bQ]; simp only [reduceIte]))
      (apply Wp.cond; (simp only [push_cast, seval, htk, hcl] <;> (try simp (disch := omega) only [wI, wU, wC]) <;> exact rfl))
      · intro h2
        have h3 : sP s k = true := by rw [hpk]; exact h2
        rw [if_pos h3] at hct
        repeat (first | apply Wp.seq | apply Wp.block | (apply Run.next; (simp only [push_cast, seval, htk, hcl] <;> (try simp (disch := omega) only [wI, wU, wC]) <;> exact rfl); (focus ((try simp only [push_cast, seval, htk, hcl]) <;> exact sT))) | ((first | apply Run.nil | apply Wp.skip); dsimp only [sQ, tQ, bQ]) | (apply Wp.run; (dsimp only [List.map] <;> exact rfl); exact rfl) | (apply Wp.exit; dsimp only [sQ, tQ, bQ]; simp only [reduceIte]))
        refine ⟨k + 1, ?_, by omega, by omega⟩
        rw [hct, hcs h3]
        (refine Le.of ?_ ?_ rfl rfl <;> (try simp only [push_cast, seval, htk, hcl]) <;> (try (with_reducible rfl)))
      · intro h2
        have h3 : sP s k = false := by rw [hpk]; exact h2
        rw [if_neg (by rw [h3]; simp)] at hct
        repeat (first | apply Wp.seq | apply Wp.block | (apply Run.next; (simp only [push_cast, seval, htk, hcl] <;> (try simp (disch := omega) only [wI, wU, wC]) <;> exact rfl); (focus ((try simp only [push_cast, seval, htk, hcl]) <;> exact sT))) | ((first | apply Run.nil | apply Wp.skip); dsimp only [sQ, tQ, bQ]) | (apply Wp.run; (dsimp only [List.map] <;> exact rfl); exact rfl) | (apply Wp.exit; dsimp only [sQ, tQ, bQ]; simp only [reduceIte]))
        refine ⟨k + 1, ?_, by omega, by omega⟩
        rw [hct, hcn h3]
        (refine Le.of ?_ ?_ rfl rfl <;> (try simp only [push_cast, seval, htk, hcl]) <;> (try (with_reducible rfl)))
    · intro hc
      simp only [decide_eq_false_iff_not, Int.ofNat_lt] at hc
      obtain rfl : k = n := by omega
      repeat (first | apply Wp.seq | apply Wp.block | (apply Run.next; (simp only [push_cast, seval, htk, hcl] <;> (try simp (disch := omega) only [wI, wU, wC]) <;> exact rfl); (focus ((try simp only [push_cast, seval, htk, hcl]) <;> exact sT))) | ((first | apply Run.nil | apply Wp.skip); dsimp only [sQ, tQ, bQ]) | (apply Wp.run; (dsimp only [List.map] <;> exact rfl); exact rfl) | (apply Wp.exit; dsimp only [sQ, tQ, bQ]; simp only [reduceIte]))
      (apply Wp.freeze 4; (simp only [push_cast, seval, htk, hcl] <;> (try simp (disch := omega) only [wI, wU, wC]) <;> exact rfl); (simp only [push_cast, seval, htk, hcl] <;> (try simp (disch := omega) only [wI, wU, wC]) <;> exact rfl); (focus (try simp only [push_cast, seval, htk, hcl]); (try (exact sT))); (focus (exact sT)))
      (apply Wp.ret; (try dsimp only [sQ, tQ, bQ]); apply leave0; exact rfl; (simp only [push_cast, seval, htk, hcl] <;> (try simp (disch := omega) only [wI, wU, wC]) <;> exact rfl); all_goals (try simp only [push_cast, seval, htk, hcl]); (try rfl))
      rw [hC]
theorem ch1_pure (m : Int) : Pure Try.prog 75 [.int m] (.bool (!wi m 0 100000)) := by
  (refine Spec.of_body Try.func75 rfl (by rw [Try.ntmps75]; simp) 0 (by simp) ?_; rw [Try.results75, Try.ntmps75]; simp only [entry, zipArgs, Nat.reduceAdd])
  repeat (first | apply Wp.seq | apply Wp.block | (apply Run.next; (simp only [push_cast, seval] <;> (try simp (disch := omega) only [wI, wU, wC]) <;> exact rfl); (focus ((try simp only [push_cast, seval]) <;> exact sT))) | ((first | apply Run.nil | apply Wp.skip); dsimp only [sQ, tQ, bQ]) | (apply Wp.run; (dsimp only [List.map] <;> exact rfl); exact rfl) | (apply Wp.exit; dsimp only [sQ, tQ, bQ]; simp only [reduceIte]))
  (apply Run.pureP; (simp only [push_cast, seval] <;> (try simp (disch := omega) only [wI, wU, wC]) <;> exact rfl); (exact (Enters.of Try.func65 rfl rfl)); (exact within_pure _ _ _); (focus (simp only [push_cast, seval] <;> first | trivial | assumption | (refine ⟨?_, ?_⟩ <;> assumption) | (simp; done))); (try dsimp only [putA, optG]))
  repeat (first | apply Wp.seq | apply Wp.block | (apply Run.next; (simp only [push_cast, seval] <;> (try simp (disch := omega) only [wI, wU, wC]) <;> exact rfl); (focus ((try simp only [push_cast, seval]) <;> exact sT))) | ((first | apply Run.nil | apply Wp.skip); dsimp only [sQ, tQ, bQ]) | (apply Wp.run; (dsimp only [List.map] <;> exact rfl); exact rfl) | (apply Wp.exit; dsimp only [sQ, tQ, bQ]; simp only [reduceIte]))
  (apply Wp.ret; (try dsimp only [sQ, tQ, bQ]); apply leave0; exact rfl; (simp only [push_cast, seval] <;> (try simp (disch := omega) only [wI, wU, wC]) <;> exact rfl); all_goals (try simp only [push_cast, seval]); (try rfl))
theorem ch2_pure (i : Nat) (s : Int) : Pure Try.prog 79 [.int (i : Int), .ref [.int s] 0] (.bool (sP s i)) := by
  (refine Spec.of_body Try.func79 rfl (by rw [Try.ntmps79]; simp) 0 (by simp) ?_; rw [Try.results79, Try.ntmps79]; simp only [entry, zipArgs, Nat.reduceAdd])
  repeat (first | apply Wp.seq | apply Wp.block | (apply Run.next; (simp only [push_cast, seval] <;> (try simp (disch := omega) only [wI, wU, wC]) <;> exact rfl); (focus ((try simp only [push_cast, seval]) <;> exact sT))) | ((first | apply Run.nil | apply Wp.skip); dsimp only [sQ, tQ, bQ]) | (apply Wp.run; (dsimp only [List.map] <;> exact rfl); exact rfl) | (apply Wp.exit; dsimp only [sQ, tQ, bQ]; simp only [reduceIte]))
  (apply Wp.ret; (try dsimp only [sQ, tQ, bQ]); apply leave0; exact rfl; (simp only [push_cast, seval] <;> (try simp (disch := omega) only [wI, wU, wC]) <;> exact rfl); all_goals (try simp only [push_cast, seval]); (try rfl))
theorem cmp_pure (x y : Int) : Pure Try.prog 96 [.int x, .int y] (.int (if x < y then -1 else if y < x then 1 else 0)) := by
  have hn : ∀ x : Int, Pure Try.prog 102 [.int x] (.bool false) := by
    intro x
    (refine Spec.of_body Try.func102 rfl (by rw [Try.ntmps102]; simp) 0 (by simp) ?_; rw [Try.results102, Try.ntmps102]; simp only [entry, zipArgs, Nat.reduceAdd])
    repeat (first | apply Wp.seq | apply Wp.block | (apply Run.next; (simp only [push_cast, seval] <;> (try simp (disch := omega) only [wI, wU, wC]) <;> exact rfl); (focus ((try simp only [push_cast, seval]) <;> exact sT))) | ((first | apply Run.nil | apply Wp.skip); dsimp only [sQ, tQ, bQ]) | (apply Wp.run; (dsimp only [List.map] <;> exact rfl); exact rfl) | (apply Wp.exit; dsimp only [sQ, tQ, bQ]; simp only [reduceIte]))
    (apply Wp.ret; (try dsimp only [sQ, tQ, bQ]); apply leave0; exact rfl; (simp only [push_cast, seval] <;> (try simp (disch := omega) only [wI, wU, wC]) <;> exact rfl); all_goals (try simp only [push_cast, seval]); (try rfl))
  (refine Spec.of_body Try.func96 rfl (by rw [Try.ntmps96]; simp) 0 (by simp) ?_; rw [Try.results96, Try.ntmps96]; simp only [entry, zipArgs, Nat.reduceAdd])
  repeat (first | apply Wp.seq | apply Wp.block | (apply Run.next; (simp only [push_cast, seval] <;> (try simp (disch := omega) only [wI, wU, wC]) <;> exact rfl); (focus ((try simp only [push_cast, seval]) <;> exact sT))) | ((first | apply Run.nil | apply Wp.skip); dsimp only [sQ, tQ, bQ]) | (apply Wp.run; (dsimp only [List.map] <;> exact rfl); exact rfl) | (apply Wp.exit; dsimp only [sQ, tQ, bQ]; simp only [reduceIte]))
  (apply Run.pureP; (simp only [push_cast, seval] <;> (try simp (disch := omega) only [wI, wU, wC]) <;> exact rfl); (exact (Enters.of Try.func102 rfl rfl)); (exact hn x); (focus (simp only [push_cast, seval] <;> first | trivial | assumption | (refine ⟨?_, ?_⟩ <;> assumption) | (simp; done))); (try dsimp only [putA, optG]))
  repeat (first | apply Wp.seq | apply Wp.block | (apply Run.next; (simp only [push_cast, seval] <;> (try simp (disch := omega) only [wI, wU, wC]) <;> exact rfl); (focus ((try simp only [push_cast, seval]) <;> exact sT))) | ((first | apply Run.nil | apply Wp.skip); dsimp only [sQ, tQ, bQ]) | (apply Wp.run; (dsimp only [List.map] <;> exact rfl); exact rfl) | (apply Wp.exit; dsimp only [sQ, tQ, bQ]; simp only [reduceIte]))
  (apply Run.pureP; (simp only [push_cast, seval] <;> (try simp (disch := omega) only [wI, wU, wC]) <;> exact rfl); (exact (Enters.of Try.func102 rfl rfl)); (exact hn y); (focus (simp only [push_cast, seval] <;> first | trivial | assumption | (refine ⟨?_, ?_⟩ <;> assumption) | (simp; done))); (try dsimp only [putA, optG]))
  repeat (first | apply Wp.seq | apply Wp.block | (apply Run.next; (simp only [push_cast, seval] <;> (try simp (disch := omega) only [wI, wU, wC]) <;> exact rfl); (focus ((try simp only [push_cast, seval]) <;> exact sT))) | ((first | apply Run.nil | apply Wp.skip); dsimp only [sQ, tQ, bQ]) | (apply Wp.run; (dsimp only [List.map] <;> exact rfl); exact rfl) | (apply Wp.exit; dsimp only [sQ, tQ, bQ]; simp only [reduceIte]) | (apply Run.gtrue; (simp only [push_cast, seval] <;> (try simp (disch := omega) only [wI, wU, wC]) <;> exact rfl); (simp only [push_cast, seval] <;> (try simp (disch := omega) only [wI, wU, wC]) <;> exact rfl)) | (apply Run.gfalse (.bool false); (simp only [push_cast, seval] <;> (try simp (disch := omega) only [wI, wU, wC]) <;> exact rfl); dsimp only [S.put, optG]) | (apply Wp.condT; (simp only [push_cast, seval] <;> (try simp (disch := omega) only [wI, wU, wC]) <;> exact rfl)) | (apply Wp.condF; (simp only [push_cast, seval] <;> (try simp (disch := omega) only [wI, wU, wC]) <;> exact rfl)))
  (apply Wp.cond; (simp only [push_cast, seval] <;> (try simp (disch := omega) only [wI, wU, wC]) <;> exact rfl))
  · intro h
    simp only [decide_eq_true_eq] at h
    repeat (first | apply Wp.seq | apply Wp.block | (apply Run.next; (simp only [push_cast, seval] <;> (try simp (disch := omega) only [wI, wU, wC]) <;> exact rfl); (focus ((try simp only [push_cast, seval]) <;> exact sT))) | ((first | apply Run.nil | apply Wp.skip); dsimp only [sQ, tQ, bQ]) | (apply Wp.run; (dsimp only [List.map] <;> exact rfl); exact rfl) | (apply Wp.exit; dsimp only [sQ, tQ, bQ]; simp only [reduceIte]) | (apply Run.gtrue; (simp only [push_cast, seval] <;> (try simp (disch := omega) only [wI, wU, wC]) <;> exact rfl); (simp only [push_cast, seval] <;> (try simp (disch := omega) only [wI, wU, wC]) <;> exact rfl)) | (apply Run.gfalse (.bool false); (simp only [push_cast, seval] <;> (try simp (disch := omega) only [wI, wU, wC]) <;> exact rfl); dsimp only [S.put, optG]) | (apply Wp.condT; (simp only [push_cast, seval] <;> (try simp (disch := omega) only [wI, wU, wC]) <;> exact rfl)) | (apply Wp.condF; (simp only [push_cast, seval] <;> (try simp (disch := omega) only [wI, wU, wC]) <;> exact rfl)))
    (apply Wp.ret; (try dsimp only [sQ, tQ, bQ]); apply leave0; exact rfl; (simp only [push_cast, seval] <;> (try simp (disch := omega) only [wI, wU, wC]) <;> exact rfl); all_goals (try simp only [push_cast, seval]); (try rfl))
    rw [if_pos h]
  · intro h
    simp only [decide_eq_false_iff_not] at h
    rw [if_neg h]
    repeat (first | apply Wp.seq | apply Wp.block | (apply Run.next; (simp only [push_cast, seval] <;> (try simp (disch := omega) only [wI, wU, wC]) <;> exact rfl); (focus ((try simp only [push_cast, seval]) <;> exact sT))) | ((first | apply Run.nil | apply Wp.skip); dsimp only [sQ, tQ, bQ]) | (apply Wp.run; (dsimp only [List.map] <;> exact rfl); exact rfl) | (apply Wp.exit; dsimp only [sQ, tQ, bQ]; simp only [reduceIte]) | (apply Run.gtrue; (simp only [push_cast, seval] <;> (try simp (disch := omega) only [wI, wU, wC]) <;> exact rfl); (simp only [push_cast, seval] <;> (try simp (disch := omega) only [wI, wU, wC]) <;> exact rfl)) | (apply Run.gfalse (.bool false); (simp only [push_cast, seval] <;> (try simp (disch := omega) only [wI, wU, wC]) <;> exact rfl); dsimp only [S.put, optG]) | (apply Wp.condT; (simp only [push_cast, seval] <;> (try simp (disch := omega) only [wI, wU, wC]) <;> exact rfl)) | (apply Wp.condF; (simp only [push_cast, seval] <;> (try simp (disch := omega) only [wI, wU, wC]) <;> exact rfl)))
    (apply Wp.cond; (simp only [push_cast, seval] <;> (try simp (disch := omega) only [wI, wU, wC]) <;> exact rfl))
    · intro h2
      simp only [decide_eq_true_eq] at h2
      repeat (first | apply Wp.seq | apply Wp.block | (apply Run.next; (simp only [push_cast, seval] <;> (try simp (disch := omega) only [wI, wU, wC]) <;> exact rfl); (focus ((try simp only [push_cast, seval]) <;> exact sT))) | ((first | apply Run.nil | apply Wp.skip); dsimp only [sQ, tQ, bQ]) | (apply Wp.run; (dsimp only [List.map] <;> exact rfl); exact rfl) | (apply Wp.exit; dsimp only [sQ, tQ, bQ]; simp only [reduceIte]) | (apply Run.gtrue; (simp only [push_cast, seval] <;> (try simp (disch := omega) only [wI, wU, wC]) <;> exact rfl); (simp only [push_cast, seval] <;> (try simp (disch := omega) only [wI, wU, wC]) <;> exact rfl)) | (apply Run.gfalse (.bool false); (simp only [push_cast, seval] <;> (try simp (disch := omega) only [wI, wU, wC]) <;> exact rfl); dsimp only [S.put, optG]) | (apply Wp.condT; (simp only [push_cast, seval] <;> (try simp (disch := omega) only [wI, wU, wC]) <;> exact rfl)) | (apply Wp.condF; (simp only [push_cast, seval] <;> (try simp (disch := omega) only [wI, wU, wC]) <;> exact rfl)))
      (apply Wp.ret; (try dsimp only [sQ, tQ, bQ]); apply leave0; exact rfl; (simp only [push_cast, seval] <;> (try simp (disch := omega) only [wI, wU, wC]) <;> exact rfl); all_goals (try simp only [push_cast, seval]); (try rfl))
      rw [if_pos h2]
    · intro h2
      simp only [decide_eq_false_iff_not] at h2
      repeat (first | apply Wp.seq | apply Wp.block | (apply Run.next; (simp only [push_cast, seval] <;> (try simp (disch := omega) only [wI, wU, wC]) <;> exact rfl); (focus ((try simp only [push_cast, seval]) <;> exact sT))) | ((first | apply Run.nil | apply Wp.skip); dsimp only [sQ, tQ, bQ]) | (apply Wp.run; (dsimp only [List.map] <;> exact rfl); exact rfl) | (apply Wp.exit; dsimp only [sQ, tQ, bQ]; simp only [reduceIte]) | (apply Run.gtrue; (simp only [push_cast, seval] <;> (try simp (disch := omega) only [wI, wU, wC]) <;> exact rfl); (simp only [push_cast, seval] <;> (try simp (disch := omega) only [wI, wU, wC]) <;> exact rfl)) | (apply Run.gfalse (.bool false); (simp only [push_cast, seval] <;> (try simp (disch := omega) only [wI, wU, wC]) <;> exact rfl); dsimp only [S.put, optG]) | (apply Wp.condT; (simp only [push_cast, seval] <;> (try simp (disch := omega) only [wI, wU, wC]) <;> exact rfl)) | (apply Wp.condF; (simp only [push_cast, seval] <;> (try simp (disch := omega) only [wI, wU, wC]) <;> exact rfl)))
      (apply Wp.ret; (try dsimp only [sQ, tQ, bQ]); apply leave0; exact rfl; (simp only [push_cast, seval] <;> (try simp (disch := omega) only [wI, wU, wC]) <;> exact rfl); all_goals (try simp only [push_cast, seval]); (try rfl))
      rw [if_neg h2]
/-- the first difference, from k on, of so many -/
def lexB (a b : List Int) : Nat → Nat → Bool
  | 0, _ => false
  | d + 1, k => if a.getD k 0 = b.getD k 0 then lexB a b d (k + 1) else decide (a.getD k 0 < b.getD k 0)
theorem compare_pure (a b : List Int) (hab : a.length = b.length) (hl : a.length ≤ 1000) : ∃ v, Pure Try.prog 77 [.ints a, .ints b] (.int v) ∧ decide (v < 0) = lexB a b a.length 0 := by
  obtain ⟨v, hv⟩ : ∃ v, v = if lexB a b a.length 0 = true then (-1 : Int) else (if lexB b a a.length 0 = true then 1 else 0) := ⟨_, rfl⟩
  have hv2 : decide (v < 0) = lexB a b a.length 0 := by
    rw [hv]; cases lexB a b a.length 0 <;> cases lexB b a a.length 0 <;> simp
  refine ⟨v, ?_, hv2⟩
  have hno : decide ((a.length : Int) < b.length) = false := decide_eq_false (by omega)
  (refine Spec.of_body Try.func77 rfl (by rw [Try.ntmps77]; simp) 0 (by simp) ?_; rw [Try.results77, Try.ntmps77]; simp only [entry, zipArgs, Nat.reduceAdd])
  repeat (first | apply Wp.seq | apply Wp.block | (apply Run.next; (simp only [push_cast, seval, hno] <;> (try simp (disch := omega) only [wI, wU, wC]) <;> exact rfl); (focus ((try simp only [push_cast, seval, hno]) <;> exact sT))) | ((first | apply Run.nil | apply Wp.skip); dsimp only [sQ, tQ, bQ]) | (apply Wp.run; (dsimp only [List.map] <;> exact rfl); exact rfl) | (apply Wp.exit; dsimp only [sQ, tQ, bQ]; simp only [reduceIte]))
  refine Wp.loop (fun (k : Nat) => { t := [(0, .ints a), (1, .ints b), (9, .ints a), (10, .int a.length), (11, .int k)], m := [], n := 36 }) (fun k => k ≤ a.length ∧ lexB a b (a.length - k) k = lexB a b a.length 0 ∧ lexB b a (a.length - k) k = lexB b a a.length 0) (fun k => a.length - k) 0 ?_ ?_ ?_
  · (refine Le.of ?_ ?_ rfl rfl <;> (try simp only [push_cast, seval, hno]) <;> (try (with_reducible rfl)))
    all_goals rfl
  · simp
  · rintro k ⟨hk1, hk2, hk3⟩
    repeat (first | apply Wp.seq | apply Wp.block | (apply Run.next; (simp only [push_cast, seval, hno] <;> (try simp (disch := omega) only [wI, wU, wC]) <;> exact rfl); (focus ((try simp only [push_cast, seval, hno]) <;> exact sT))) | ((first | apply Run.nil | apply Wp.skip); dsimp only [sQ, tQ, bQ]) | (apply Wp.run; (dsimp only [List.map] <;> exact rfl); exact rfl) | (apply Wp.exit; dsimp only [sQ, tQ, bQ]; simp only [reduceIte]))
    (apply Wp.cond; (simp only [push_cast, seval, hno] <;> (try simp (disch := omega) only [wI, wU, wC]) <;> exact rfl))
    · intro hc
      simp only [decide_eq_true_eq, Int.ofNat_lt] at hc
      obtain ⟨d, hd⟩ : ∃ d, a.length - k = d + 1 := ⟨a.length - k - 1, by omega⟩
      have hd' : a.length - (k + 1) = d := by omega
      rw [hd] at hk2 hk3
      simp only [lexB] at hk2 hk3
      have hge : decide ((b.length : Int) ≤ (k : Int)) = false := decide_eq_false (by omega)
      have hcm := cmp_pure (a.getD k 0) (b.getD k 0)
      generalize hx : a.getD k 0 = x at hk2 hk3 hcm
      generalize hy : b.getD k 0 = y at hk2 hk3 hcm
      repeat (first | apply Wp.seq | apply Wp.block | (apply Run.next; (simp only [push_cast, seval, hno, hge, hx, hy] <;> (try simp (disch := omega) only [wI, wU, wC]) <;> exact rfl); (focus ((try simp only [push_cast, seval, hno, hge, hx, hy]) <;> exact sT))) | ((first | apply Run.nil | apply Wp.skip); dsimp only [sQ, tQ, bQ]) | (apply Wp.run; (dsimp only [List.map] <;> exact rfl); exact rfl) | (apply Wp.exit; dsimp only [sQ, tQ, bQ]; simp only [reduceIte]) | (apply Run.gtrue; (simp only [push_cast, seval, hno, hge, hx, hy] <;> (try simp (disch := omega) only [wI, wU, wC]) <;> exact rfl); (simp only [push_cast, seval, hno, hge, hx, hy] <;> (try simp (disch := omega) only [wI, wU, wC]) <;> exact rfl)) | (apply Run.gfalse (.bool false); (simp only [push_cast, seval, hno, hge, hx, hy] <;> (try simp (disch := omega) only [wI, wU, wC]) <;> exact rfl); dsimp only [S.put, optG]) | (apply Wp.condT; (simp only [push_cast, seval, hno, hge, hx, hy] <;> (try simp (disch := omega) only [wI, wU, wC]) <;> exact rfl)) | (apply Wp.condF; (simp only [push_cast, seval, hno, hge, hx, hy] <;> (try simp (disch := omega) only [wI, wU, wC]) <;> exact rfl)))
      (apply Run.pureP; (simp only [push_cast, seval, hno, hge, hx, hy] <;> (try simp (disch := omega) only [wI, wU, wC]) <;> exact rfl); (exact (Enters.of Try.func96 rfl rfl)); (exact hcm); (focus (simp only [push_cast, seval, hno, hge, hx, hy] <;> first | trivial | assumption | (refine ⟨?_, ?_⟩ <;> assumption) | (simp; done))); (try dsimp only [putA, optG]))
      rcases Int.lt_trichotomy x y with h | h | h
      · rw [if_pos h]
        rw [if_neg (by omega), decide_eq_true h] at hk2
        repeat (first | apply Wp.seq | apply Wp.block | (apply Run.next; (simp only [push_cast, seval, hno, hge, hx, hy] <;> (try simp (disch := omega) only [wI, wU, wC]) <;> exact rfl); (focus ((try simp only [push_cast, seval, hno, hge, hx, hy]) <;> exact sT))) | ((first | apply Run.nil | apply Wp.skip); dsimp only [sQ, tQ, bQ]) | (apply Wp.run; (dsimp only [List.map] <;> exact rfl); exact rfl) | (apply Wp.exit; dsimp only [sQ, tQ, bQ]; simp only [reduceIte]) | (apply Run.gtrue; (simp only [push_cast, seval, hno, hge, hx, hy] <;> (try simp (disch := omega) only [wI, wU, wC]) <;> exact rfl); (simp only [push_cast, seval, hno, hge, hx, hy] <;> (try simp (disch := omega) only [wI, wU, wC]) <;> exact rfl)) | (apply Run.gfalse (.bool false); (simp only [push_cast, seval, hno, hge, hx, hy] <;> (try simp (disch := omega) only [wI, wU, wC]) <;> exact rfl); dsimp only [S.put, optG]) | (apply Wp.condT; (simp only [push_cast, seval, hno, hge, hx, hy] <;> (try simp (disch := omega) only [wI, wU, wC]) <;> exact rfl)) | (apply Wp.condF; (simp only [push_cast, seval, hno, hge, hx, hy] <;> (try simp (disch := omega) only [wI, wU, wC]) <;> exact rfl)))
        (apply Wp.ret; (try dsimp only [sQ, tQ, bQ]); apply leave0; exact rfl; (simp only [push_cast, seval, hno, hge, hx, hy] <;> (try simp (disch := omega) only [wI, wU, wC]) <;> exact rfl); all_goals (try simp only [push_cast, seval, hno, hge, hx, hy]); (try rfl))
        rw [hv, ← hk2]; rfl
      · rw [if_neg (by omega), if_neg (by omega)]
        rw [if_pos h] at hk2
        rw [if_pos h.symm] at hk3
        repeat (first | apply Wp.seq | apply Wp.block | (apply Run.next; (simp only [push_cast, seval, hno, hge, hx, hy] <;> (try simp (disch := omega) only [wI, wU, wC]) <;> exact rfl); (focus ((try simp only [push_cast, seval, hno, hge, hx, hy]) <;> exact sT))) | ((first | apply Run.nil | apply Wp.skip); dsimp only [sQ, tQ, bQ]) | (apply Wp.run; (dsimp only [List.map] <;> exact rfl); exact rfl) | (apply Wp.exit; dsimp only [sQ, tQ, bQ]; simp only [reduceIte]) | (apply Run.gtrue; (simp only [push_cast, seval, hno, hge, hx, hy] <;> (try simp (disch := omega) only [wI, wU, wC]) <;> exact rfl); (simp only [push_cast, seval, hno, hge, hx, hy] <;> (try simp (disch := omega) only [wI, wU, wC]) <;> exact rfl)) | (apply Run.gfalse (.bool false); (simp only [push_cast, seval, hno, hge, hx, hy] <;> (try simp (disch := omega) only [wI, wU, wC]) <;> exact rfl); dsimp only [S.put, optG]) | (apply Wp.condT; (simp only [push_cast, seval, hno, hge, hx, hy] <;> (try simp (disch := omega) only [wI, wU, wC]) <;> exact rfl)) | (apply Wp.condF; (simp only [push_cast, seval, hno, hge, hx, hy] <;> (try simp (disch := omega) only [wI, wU, wC]) <;> exact rfl)))
        refine ⟨k + 1, ?_, ⟨by omega, by rw [hd']; exact hk2, by rw [hd']; exact hk3⟩, by omega⟩
        (refine Le.of ?_ ?_ rfl rfl <;> (try simp only [push_cast, seval, hno, hge, hx, hy]) <;> (try (with_reducible rfl)))
      · rw [if_neg (by omega), if_pos h]
        rw [if_neg (by omega), decide_eq_false (by omega)] at hk2
        rw [if_neg (by omega), decide_eq_true h] at hk3
        repeat (first | apply Wp.seq | apply Wp.block | (apply Run.next; (simp only [push_cast, seval, hno, hge, hx, hy] <;> (try simp (disch := omega) only [wI, wU, wC]) <;> exact rfl); (focus ((try simp only [push_cast, seval, hno, hge, hx, hy]) <;> exact sT))) | ((first | apply Run.nil | apply Wp.skip); dsimp only [sQ, tQ, bQ]) | (apply Wp.run; (dsimp only [List.map] <;> exact rfl); exact rfl) | (apply Wp.exit; dsimp only [sQ, tQ, bQ]; simp only [reduceIte]) | (apply Run.gtrue; (simp only [push_cast, seval, hno, hge, hx, hy] <;> (try simp (disch := omega) only [wI, wU, wC]) <;> exact rfl); (simp only [push_cast, seval, hno, hge, hx, hy] <;> (try simp (disch := omega) only [wI, wU, wC]) <;> exact rfl)) | (apply Run.gfalse (.bool false); (simp only [push_cast, seval, hno, hge, hx, hy] <;> (try simp (disch := omega) only [wI, wU, wC]) <;> exact rfl); dsimp only [S.put, optG]) | (apply Wp.condT; (simp only [push_cast, seval, hno, hge, hx, hy] <;> (try simp (disch := omega) only [wI, wU, wC]) <;> exact rfl)) | (apply Wp.condF; (simp only [push_cast, seval, hno, hge, hx, hy] <;> (try simp (disch := omega) only [wI, wU, wC]) <;> exact rfl)))
        (apply Wp.ret; (try dsimp only [sQ, tQ, bQ]); apply leave0; exact rfl; (simp only [push_cast, seval, hno, hge, hx, hy] <;> (try simp (disch := omega) only [wI, wU, wC]) <;> exact rfl); all_goals (try simp only [push_cast, seval, hno, hge, hx, hy]); (try rfl))
        rw [hv, ← hk2, ← hk3]; rfl
    · intro hc
      simp only [decide_eq_false_iff_not, Int.ofNat_lt] at hc
      rw [show a.length - k = 0 by omega] at hk2 hk3
      simp only [lexB] at hk2 hk3
      repeat (first | apply Wp.seq | apply Wp.block | (apply Run.next; (simp only [push_cast, seval, hno] <;> (try simp (disch := omega) only [wI, wU, wC]) <;> exact rfl); (focus ((try simp only [push_cast, seval, hno]) <;> exact sT))) | ((first | apply Run.nil | apply Wp.skip); dsimp only [sQ, tQ, bQ]) | (apply Wp.run; (dsimp only [List.map] <;> exact rfl); exact rfl) | (apply Wp.exit; dsimp only [sQ, tQ, bQ]; simp only [reduceIte]) | (apply Run.gtrue; (simp only [push_cast, seval, hno] <;> (try simp (disch := omega) only [wI, wU, wC]) <;> exact rfl); (simp only [push_cast, seval, hno] <;> (try simp (disch := omega) only [wI, wU, wC]) <;> exact rfl)) | (apply Run.gfalse (.bool false); (simp only [push_cast, seval, hno] <;> (try simp (disch := omega) only [wI, wU, wC]) <;> exact rfl); dsimp only [S.put, optG]) | (apply Wp.condT; (simp only [push_cast, seval, hno] <;> (try simp (disch := omega) only [wI, wU, wC]) <;> exact rfl)) | (apply Wp.condF; (simp only [push_cast, seval, hno] <;> (try simp (disch := omega) only [wI, wU, wC]) <;> exact rfl)))
      (apply Wp.ret; (try dsimp only [sQ, tQ, bQ]); apply leave0; exact rfl; (simp only [push_cast, seval, hno] <;> (try simp (disch := omega) only [wI, wU, wC]) <;> exact rfl); all_goals (try simp only [push_cast, seval, hno]); (try rfl))
      rw [hv, ← hk2, ← hk3]; rfl
/-- a choice comes before another one -/
def befB (a b : List Int) : Bool := if a.length = b.length then lexB a b a.length 0 else decide (a.length < b.length)
end Go.Proofs.Try
set_option maxHeartbeats 8000000
set_option maxRecDepth 20000
namespace Go.Proofs.Try
open Go.Vg

/-! sets that keep rivals together -/
theorem bit01 (s i : Int) : decide (IntKind.i64.wrap ((BitVec.ofInt IntKind.i64.bits (s.fdiv (2 ^ (min i.toNat IntKind.i64.bits))) &&& BitVec.ofInt IntKind.i64.bits 1).toNat) = 0) = !tgB s i := by
  unfold tgB
  generalize BitVec.ofInt IntKind.i64.bits (s.fdiv (2 ^ (min i.toNat IntKind.i64.bits))) = x
  have h : (x &&& BitVec.ofInt IntKind.i64.bits 1).toNat = x.toNat % 2 := by
    rw [BitVec.toNat_and]
    have : (BitVec.ofInt IntKind.i64.bits 1).toNat = 1 := by decide
    rw [this, Nat.and_one_is_mod]
  rw [h]
  have h2 : x.toNat % 2 = 0 ∨ x.toNat % 2 = 1 := by omega
  rcases h2 with h2 | h2 <;> rw [h2] <;> decide
def whB (p : Nat → Bool) (ls : List Bk) (i : Nat) : Bool := !(p i && decide (0 ≤ (ls.getD i bk0).rival) && !p (ls.getD i bk0).rival.toNat)
def whL (p : Nat → Bool) (ls : List Bk) : Bool := (List.range ls.length).all (whB p ls)
theorem whole_pure {ls : List Bk} (s : Int) (hl : ls.length ≤ 1000) (hr : ∀ i, i < ls.length → -1 ≤ (ls.getD i bk0).rival ∧ (ls.getD i bk0).rival < ls.length) : Pure Try.prog 78 [.lst 6 (ls.map bkA), .int s] (.bool (whL (sP s) ls)) := by
  unfold whL
  (refine Spec.of_body Try.func78 rfl (by rw [Try.ntmps78]; simp) 0 (by simp) ?_; rw [Try.results78, Try.ntmps78]; simp only [entry, zipArgs, Nat.reduceAdd])
  repeat (first | apply Wp.seq | apply Wp.block | (apply Run.next; (simp only [push_cast, seval] <;> (try simp (disch := omega) only [wI, wU, wC]) <;> exact rfl); (focus ((try simp only [push_cast, seval]) <;> exact sT))) | ((first | apply Run.nil | apply Wp.skip); dsimp only [sQ, tQ, bQ]) | (apply Wp.run; (dsimp only [List.map] <;> exact rfl); exact rfl) | (apply Wp.exit; dsimp only [sQ, tQ, bQ]; simp only [reduceIte]))
  (refine Wp.vacs 1 ?_; (try simp only [List.replicate_succ, List.replicate_zero, List.cons_append, List.nil_append]))
  refine Wp.loop (fun (q : Nat × Nat × Kind) => { t := [(0, .lst 6 (ls.map bkA)), (1, .int s), (7, .lst 6 (ls.map bkA)), (8, .int ls.length), (9, .int q.1)], m := [⟨q.2.1, q.2.2⟩], n := 33 }) (fun q => q.1 ≤ ls.length ∧ ∀ j, j < q.1 → whB (sP s) ls j = true) (fun q => ls.length - q.1) (0, 0, .row 1 []) ?_ ?_ ?_
  · (refine Le.of ?_ ?_ rfl rfl <;> (try simp only [push_cast, seval]) <;> (try (with_reducible rfl)))
    all_goals rfl
  · simp
  · rintro ⟨k, v, kd⟩ ⟨hk1, hk2⟩
    simp only at hk1 hk2
    repeat (first | apply Wp.seq | apply Wp.block | (apply Run.calm; exact rfl; (simp only [push_cast, seval] <;> (try simp (disch := omega) only [wI, wU, wC]) <;> exact rfl); (focus ((try simp only [push_cast, seval]) <;> exact sT))) | ((first | apply Run.nil | apply Wp.skip); dsimp only [sQ, tQ, bQ]) | (apply Wp.run; (dsimp only [List.map] <;> exact rfl); exact rfl) | (apply Wp.exit; dsimp only [sQ, tQ, bQ]; simp only [reduceIte]))
    (apply Wp.cond; (simp only [push_cast, seval] <;> (try simp (disch := omega) only [wI, wU, wC]) <;> exact rfl))
    · intro hc
      simp only [decide_eq_true_eq, Int.ofNat_lt] at hc
      have hrv := hr k hc
      have hwk : whB (sP s) ls k = !(tgB s (k : Int) && decide (0 ≤ (ls.getD k bk0).rival) && !tgB s (((ls.getD k bk0).rival.toNat : Nat) : Int)) := rfl
      generalize hx : ls.getD k bk0 = x at hrv hwk
      have hb := bit01 s x.rival
      have hwe : whB (sP s) ls k = !(tgB s (k : Int) && decide (0 ≤ x.rival) && !tgB s x.rival) := by
        rw [hwk]
        by_cases h0 : 0 ≤ x.rival
        · rw [show ((x.rival.toNat : Nat) : Int) = x.rival by omega]
        · rw [decide_eq_false h0]; simp
      rw [← hb] at hwe
      repeat (first | apply Wp.seq | apply Wp.block | (apply Run.calm; exact rfl; (simp only [push_cast, seval, hx] <;> (try simp (disch := omega) only [wI, wU, wC]) <;> exact rfl); (focus ((try simp only [push_cast, seval, hx]) <;> exact sT))) | ((first | apply Run.nil | apply Wp.skip); dsimp only [sQ, tQ, bQ]) | (apply Wp.run; (dsimp only [List.map] <;> exact rfl); exact rfl) | (apply Wp.exit; dsimp only [sQ, tQ, bQ]; simp only [reduceIte]))
      (apply Run.alcAt 0; (simp only [push_cast, seval, hx] <;> (try simp (disch := omega) only [wI, wU, wC]) <;> exact rfl); (focus ((try simp only [push_cast, seval, hx]) <;> exact sT)); exact rfl; (try simp only [push_cast, seval, hx]))
      repeat (first | apply Wp.seq | apply Wp.block | (apply Run.next; (simp only [push_cast, seval, hx] <;> (try simp (disch := omega) only [wI, wU, wC]) <;> exact rfl); (focus ((try simp only [push_cast, seval, hx]) <;> exact sT))) | ((first | apply Run.nil | apply Wp.skip); dsimp only [sQ, tQ, bQ]) | (apply Wp.run; (dsimp only [List.map] <;> exact rfl); exact rfl) | (apply Wp.exit; dsimp only [sQ, tQ, bQ]; simp only [reduceIte]))
      (apply Wp.cond; (simp only [push_cast, seval, hx] <;> (try simp (disch := omega) only [wI, wU, wC]) <;> exact rfl))
      · intro h4
        have h5 : whB (sP s) ls k = false := by rw [hwe]; exact congrArg (!·) h4
        repeat (first | apply Wp.seq | apply Wp.block | (apply Run.next; (simp only [push_cast, seval, hx] <;> (try simp (disch := omega) only [wI, wU, wC]) <;> exact rfl); (focus ((try simp only [push_cast, seval, hx]) <;> exact sT))) | ((first | apply Run.nil | apply Wp.skip); dsimp only [sQ, tQ, bQ]) | (apply Wp.run; (dsimp only [List.map] <;> exact rfl); exact rfl) | (apply Wp.exit; dsimp only [sQ, tQ, bQ]; simp only [reduceIte]))
        (apply Wp.ret; (try dsimp only [sQ, tQ, bQ]); apply leave0; exact rfl; (simp only [push_cast, seval, hx] <;> (try simp (disch := omega) only [wI, wU, wC]) <;> exact rfl); all_goals (try simp only [push_cast, seval, hx]); (try rfl))
        rw [range_no hc h5]
      · intro h4
        have h5 : whB (sP s) ls k = true := by rw [hwe]; exact congrArg (!·) h4
        repeat (first | apply Wp.seq | apply Wp.block | (apply Run.next; (simp only [push_cast, seval, hx] <;> (try simp (disch := omega) only [wI, wU, wC]) <;> exact rfl); (focus ((try simp only [push_cast, seval, hx]) <;> exact sT))) | ((first | apply Run.nil | apply Wp.skip); dsimp only [sQ, tQ, bQ]) | (apply Wp.run; (dsimp only [List.map] <;> exact rfl); exact rfl) | (apply Wp.exit; dsimp only [sQ, tQ, bQ]; simp only [reduceIte]))
        refine ⟨(k + 1, v + 1, .row 6 [bkA x]), ?_, ⟨by simp only; omega, fun j hj => ?_⟩, by simp only; omega⟩
        · (refine Le.of ?_ ?_ rfl rfl <;> (try simp only [push_cast, seval, hx]) <;> (try (with_reducible rfl)))
        · simp only at hj
          by_cases hjk : j = k
          · subst hjk; exact h5
          · exact hk2 j (by omega)
    · intro hc
      simp only [decide_eq_false_iff_not, Int.ofNat_lt] at hc
      obtain rfl : k = ls.length := by omega
      repeat (first | apply Wp.seq | apply Wp.block | (apply Run.next; (simp only [push_cast, seval] <;> (try simp (disch := omega) only [wI, wU, wC]) <;> exact rfl); (focus ((try simp only [push_cast, seval]) <;> exact sT))) | ((first | apply Run.nil | apply Wp.skip); dsimp only [sQ, tQ, bQ]) | (apply Wp.run; (dsimp only [List.map] <;> exact rfl); exact rfl) | (apply Wp.exit; dsimp only [sQ, tQ, bQ]; simp only [reduceIte]))
      (apply Wp.ret; (try dsimp only [sQ, tQ, bQ]); apply leave0; exact rfl; (simp only [push_cast, seval] <;> (try simp (disch := omega) only [wI, wU, wC]) <;> exact rfl); all_goals (try simp only [push_cast, seval]); (try rfl))
      rw [range_all hk2]
/-! the document's choice of some -/
def frI (p : Nat → Bool) (m k : Nat) : Int := if p m = true ∧ ctN p m < k then (ctN p m : Int) else -1
theorem frI_0 (p : Nat → Bool) (m : Nat) : frI p m 0 = -1 := by unfold frI; rw [if_neg (fun h => by omega)]
theorem frI_succ (p : Nat → Bool) (n m : Nat) {k : Nat} (hk : k < (ixL p n).length) : frI p m (k + 1) = if (ixL p n).getD k 0 = m then (k : Int) else frI p m k := by
  obtain ⟨j, h1, h2, h3, h4⟩ := ixL_of p (n := n) (k := k) hk
  rw [h4]
  unfold frI
  by_cases hjm : j = m
  · subst hjm
    rw [if_pos rfl, if_pos ⟨h2, by omega⟩, h3]
  · rw [if_neg hjm]
    by_cases hp : p m = true
    · have hne : ctN p m ≠ k := by
        intro e
        rcases Nat.lt_trichotomy m j with h5 | h5 | h5
        · have := ctN_lt p h5 hp; omega
        · exact hjm h5.symm
        · have := ctN_lt p h5 h2; omega
      by_cases hlt : ctN p m < k
      · rw [if_pos ⟨hp, by omega⟩, if_pos ⟨hp, hlt⟩]
      · rw [if_neg (fun h => by have := h.2; omega), if_neg (fun h => by have := h.2; omega)]
    · rw [if_neg (fun h => hp h.1), if_neg (fun h => hp h.1)]
theorem frI_all (p : Nat → Bool) (n m : Nat) (hm : m < n) : frI p m (ixL p n).length = nmR p (m : Int) := by
  rw [nmR_at (by omega), Int.toNat_natCast]
  unfold frI
  by_cases hp : p m = true
  · rw [if_pos ⟨hp, by rw [ixL_len]; exact ctN_lt p hm hp⟩, if_pos hp]
  · rw [if_neg (fun h => hp h.1), if_neg hp]
theorem frI_bd (p : Nat → Bool) (m k : Nat) : -1 ≤ frI p m k ∧ frI p m k < k := by
  unfold frI; split <;> omega
def smL (p : Nat → Bool) (ls : List Bk) (k : Nat) : List Bk := ((ixL p ls.length).take k).map fun i => reR p (ls.getD i bk0)
theorem smL_succ (p : Nat → Bool) (ls : List Bk) {k : Nat} (hk : k < (ixL p ls.length).length) : smL p ls (k + 1) = smL p ls k ++ [reR p (ls.getD ((ixL p ls.length).getD k 0) bk0)] := by
  have e : (ixL p ls.length).take (k + 1) = (ixL p ls.length).take k ++ [(ixL p ls.length).getD k 0] := by rw [List.take_add_one]; simp [hk]
  unfold smL
  rw [e, List.map_append]; rfl
theorem smL_all (p : Nat → Bool) (ls : List Bk) {k : Nat} (hk : (ixL p ls.length).length ≤ k) : smL p ls k = someL p ls := by
  rw [smL, List.take_of_length_le hk, someL_eq]
def smA (p : Nat → Bool) (ls : List Bk) : AV := if whL p ls = true then .lst 6 ((someL p ls).map bkA) else .emp
theorem Some_pure {ls : List Bk} (p : Nat → Bool) (hl : ls.length ≤ 1000) (hr : ∀ i, i < ls.length → -1 ≤ (ls.getD i bk0).rival ∧ (ls.getD i bk0).rival < ls.length) : Pure Try.prog 82 [.lst 6 (ls.map bkA), .ints (cL (ixL p ls.length))] (.tup [smA p ls, .bool (whL p ls)]) := by
  have hcn : (ixL p ls.length).length ≤ ls.length := by
    rw [ixL_len]; have := ct_bd p ls.length; rw [ct_ctN] at this; omega
  have hof := fun k (hk : k < (ixL p ls.length).length) => ixL_of p (n := ls.length) hk
  have hf1 := fun m k (hk : k < (ixL p ls.length).length) => frI_succ p ls.length m hk
  have hf2 := fun m (hm : m < ls.length) => frI_all p ls.length m hm
  have hss := fun k (hk : k < (ixL p ls.length).length) => smL_succ p ls hk
  have hsa := smL_all p ls (Nat.le_refl (ixL p ls.length).length)
  have hs0 : smL p ls 0 = [] := rfl
  have hsl : ∀ k, k ≤ (ixL p ls.length).length → (smL p ls k).length = k := fun k hk => by simp [smL]; omega
  have hcl := cL_len (ixL p ls.length)
  have hcg : ∀ k, k < (ixL p ls.length).length → (cL (ixL p ls.length)).getD k 0 = (((ixL p ls.length).getD k 0 : Nat) : Int) := fun k hk => by simp [cL, hk]
  have hall : (∀ k, k < (ixL p ls.length).length → whB p ls ((ixL p ls.length).getD k 0) = true) → whL p ls = true := by
    intro h
    refine range_all fun j hj => ?_
    by_cases hpj : p j = true
    · have h1 := ixL_at p hj hpj
      have h2 : ctN p j < (ixL p ls.length).length := by rw [ixL_len]; exact ctN_lt p hj hpj
      have := h _ h2
      rw [h1] at this; exact this
    · unfold whB
      have : p j = false := by simpa using hpj
      rw [this]; simp
  generalize ixL p ls.length = I at *
  generalize hcc : cL I = C at *
  (refine Spec.of_body Try.func82 rfl (by rw [Try.ntmps82]; simp) 0 (by simp) ?_; rw [Try.results82, Try.ntmps82]; simp only [entry, zipArgs, Nat.reduceAdd])
  repeat (first | apply Wp.seq | apply Wp.block | (apply Run.next; (simp only [push_cast, seval] <;> (try simp (disch := omega) only [wI, wU, wC]) <;> exact rfl); (focus ((try simp only [push_cast, seval]) <;> exact sT))) | ((first | apply Run.nil | apply Wp.skip); dsimp only [sQ, tQ, bQ]) | (apply Wp.run; (dsimp only [List.map] <;> exact rfl); exact rfl) | (apply Wp.exit; dsimp only [sQ, tQ, bQ]; simp only [reduceIte]))
  (refine Wp.vacs 1 ?_; (try simp only [List.replicate_succ, List.replicate_zero, List.cons_append, List.nil_append]))
  refine Wp.adopt 6 6 (by (simp only [push_cast, seval] <;> (try simp (disch := omega) only [wI, wU, wC]) <;> exact rfl)) ?_
  refine Wp.loop (fun (q : Nat × Nat × Kind) => { t := [(0, .lst 6 (ls.map bkA)), (1, .ints C), (7, .int q.1), (6, .osl 1 q.1 0 q.1)], m := [⟨q.2.1, q.2.2⟩, ⟨q.1, .row 6 ((smL p ls q.1).map bkA)⟩], n := 50 }) (fun q => q.1 ≤ I.length ∧ ∀ j, j < q.1 → whB p ls (I.getD j 0) = true) (fun q => I.length - q.1) (0, 0, .row 1 []) ?_ ?_ ?_
  · (refine Le.of ?_ ?_ rfl rfl <;> (try simp only [push_cast, seval]) <;> (try (with_reducible rfl)))
    all_goals rfl
  · simp
  · rintro ⟨k, v, kd⟩ ⟨hk1, hk2⟩
    simp only at hk1 hk2
    have hslk := hsl k hk1
    repeat (first | apply Wp.seq | apply Wp.block | (apply Run.calm; exact rfl; (simp only [push_cast, seval, hcl] <;> (try simp (disch := omega) only [wI, wU, wC]) <;> exact rfl); (focus ((try simp only [push_cast, seval, hcl]) <;> exact sT))) | ((first | apply Run.nil | apply Wp.skip); dsimp only [sQ, tQ, bQ]) | (apply Wp.run; (dsimp only [List.map] <;> exact rfl); exact rfl) | (apply Wp.exit; dsimp only [sQ, tQ, bQ]; simp only [reduceIte]))
    (apply Wp.cond; (simp only [push_cast, seval, hcl] <;> (try simp (disch := omega) only [wI, wU, wC]) <;> exact rfl))
    · intro hc
      simp only [decide_eq_true_eq, Int.ofNat_lt] at hc
      obtain ⟨j, hj1, hj2, hj3, hj4⟩ := hof k hc
      have hgk := hcg k hc
      rw [hj4] at hgk
      have hssk := hss k hc
      rw [hj4] at hssk
      have hrv := hr j hj1
      have hwj : whB p ls j = !(p j && decide (0 ≤ (ls.getD j bk0).rival) && !p (ls.getD j bk0).rival.toNat) := rfl
      rw [hj2] at hwj
      generalize hx : ls.getD j bk0 = x at hssk hrv hwj
      generalize hL : smL p ls k = L at hslk hssk
      have htk : L.take k = L := List.take_of_length_le (by omega)
      repeat (first | apply Wp.seq | apply Wp.block | (apply Run.calm; exact rfl; (simp only [push_cast, seval, hcl, hgk, hx, hslk, htk] <;> (try simp (disch := omega) only [wI, wU, wC]) <;> exact rfl); (focus ((try simp only [push_cast, seval, hcl, hgk, hx, hslk, htk]) <;> exact sT))) | ((first | apply Run.nil | apply Wp.skip); dsimp only [sQ, tQ, bQ]) | (apply Wp.run; (dsimp only [List.map] <;> exact rfl); exact rfl) | (apply Wp.exit; dsimp only [sQ, tQ, bQ]; simp only [reduceIte]))
      (apply Run.alcAt 0; (simp only [push_cast, seval, hcl, hgk, hx, hslk, htk] <;> (try simp (disch := omega) only [wI, wU, wC]) <;> exact rfl); (focus ((try simp only [push_cast, seval, hcl, hgk, hx, hslk, htk]) <;> exact sT)); exact rfl; (try simp only [push_cast, seval, hcl, hgk, hx, hslk, htk]))
      repeat (first | apply Wp.seq | apply Wp.block | (apply Run.next; (simp only [push_cast, seval, hcl, hgk, hx, hslk, htk] <;> (try simp (disch := omega) only [wI, wU, wC]) <;> exact rfl); (focus ((try simp only [push_cast, seval, hcl, hgk, hx, hslk, htk]) <;> exact sT))) | ((first | apply Run.nil | apply Wp.skip); dsimp only [sQ, tQ, bQ]) | (apply Wp.run; (dsimp only [List.map] <;> exact rfl); exact rfl) | (apply Wp.exit; dsimp only [sQ, tQ, bQ]; simp only [reduceIte]))
      refine Wp.cutP { t := [(0, .lst 6 (ls.map bkA)), (1, .ints C), (7, .int k), (6, .osl 1 k 0 k), (8, .optr 0 (v + 1) 0 0)], m := [⟨v + 1, .row 6 [bkA (reR p x)]⟩, ⟨k, .row 6 (L.map bkA)⟩], n := 50 } (whB p ls j = true) ?_ ?_
      · (apply Wp.cond; (simp only [push_cast, seval, hcl, hgk, hx, hslk, htk] <;> (try simp (disch := omega) only [wI, wU, wC]) <;> exact rfl))
        · intro h3
          simp only [decide_eq_true_eq] at h3
          obtain ⟨m, hm⟩ : ∃ m : Nat, x.rival = (m : Int) := ⟨x.rival.toNat, by omega⟩
          have hml : m < ls.length := by omega
          have hfm0 := frI_0 p m
          have hfm1 := fun k hk => hf1 m k hk
          have hfm2 := hf2 m hml
          have hfmb := fun k => frI_bd p m k
          have hpn : nmR p (m : Int) = if p m = true then (ctN p m : Int) else -1 := by rw [nmR_at (by omega), Int.toNat_natCast]
          rw [hm, Int.toNat_natCast, decide_eq_true (show (0 : Int) ≤ (m : Int) by omega)] at hwj
          have hre : reR p x = { x with rival := nmR p (m : Int) } := by unfold reR; rw [hm]
          generalize frI p m = fr at hfm0 hfm1 hfm2 hfmb
          repeat (first | apply Wp.seq | apply Wp.block | (apply Run.next; (simp only [push_cast, seval, hcl, hgk, hx, hslk, htk, hm] <;> (try simp (disch := omega) only [wI, wU, wC]) <;> exact rfl); (focus ((try simp only [push_cast, seval, hcl, hgk, hx, hslk, htk, hm]) <;> exact sT))) | ((first | apply Run.nil | apply Wp.skip); dsimp only [sQ, tQ, bQ]) | (apply Wp.run; (dsimp only [List.map] <;> exact rfl); exact rfl) | (apply Wp.exit; dsimp only [sQ, tQ, bQ]; simp only [reduceIte]))
          refine Wp.loop (fun (i : Nat) => { t := [(0, .lst 6 (ls.map bkA)), (1, .ints C), (7, .int k), (6, .osl 1 k 0 k), (8, .optr 0 (v + 1) 0 0), (9, .int (fr i)), (10, .int i)], m := [⟨v + 1, .row 6 [bkA x]⟩, ⟨k, .row 6 (L.map bkA)⟩], n := 50 }) (fun i => i ≤ I.length) (fun i => I.length - i) 0 ?_ ?_ ?_
          · rw [hfm0]
            (refine Le.of ?_ ?_ rfl rfl <;> (try simp only [push_cast, seval, hcl, hgk, hx, hslk, htk, hm]) <;> (try (with_reducible rfl)))
            all_goals rfl
          · simp
          · intro i hi
            repeat (first | apply Wp.seq | apply Wp.block | (apply Run.next; (simp only [push_cast, seval, hcl, hgk, hx, hslk, htk, hm] <;> (try simp (disch := omega) only [wI, wU, wC]) <;> exact rfl); (focus ((try simp only [push_cast, seval, hcl, hgk, hx, hslk, htk, hm]) <;> exact sT))) | ((first | apply Run.nil | apply Wp.skip); dsimp only [sQ, tQ, bQ]) | (apply Wp.run; (dsimp only [List.map] <;> exact rfl); exact rfl) | (apply Wp.exit; dsimp only [sQ, tQ, bQ]; simp only [reduceIte]))
            (apply Wp.cond; (simp only [push_cast, seval, hcl, hgk, hx, hslk, htk, hm] <;> (try simp (disch := omega) only [wI, wU, wC]) <;> exact rfl))
            · intro hci
              simp only [decide_eq_true_eq, Int.ofNat_lt] at hci
              have hgi := hcg i hci
              have hfi := hfm1 i hci
              generalize I.getD i 0 = w at hgi hfi
              repeat (first | apply Wp.seq | apply Wp.block | (apply Run.next; (simp only [push_cast, seval, hcl, hgk, hx, hslk, htk, hm, hgi] <;> (try simp (disch := omega) only [wI, wU, wC]) <;> exact rfl); (focus ((try simp only [push_cast, seval, hcl, hgk, hx, hslk, htk, hm, hgi]) <;> exact sT))) | ((first | apply Run.nil | apply Wp.skip); dsimp only [sQ, tQ, bQ]) | (apply Wp.run; (dsimp only [List.map] <;> exact rfl); exact rfl) | (apply Wp.exit; dsimp only [sQ, tQ, bQ]; simp only [reduceIte]))
              (apply Wp.runD 7 mixed; (dsimp only [List.map] <;> exact rfl); exact rfl; kernel_rfl; (dsimp only [List.take] <;> exact rfl); (dsimp only [List.drop] <;> exact rfl); (((repeat (apply Abn.next; (simp only [push_cast, seval, hcl, hgk, hx, hslk, htk, hm, hgi] <;> (try simp (disch := omega) only [wI, wU, wC]) <;> exact rfl); (focus ((try simp only [push_cast, seval, hcl, hgk, hx, hslk, htk, hm, hgi]) <;> exact sT))))); exact Abn.nil))
              repeat (first | apply Wp.seq | apply Wp.block | (apply Run.next; (simp only [push_cast, seval, hcl, hgk, hx, hslk, htk, hm, hgi] <;> (try simp (disch := omega) only [wI, wU, wC]) <;> exact rfl); (focus ((try simp only [push_cast, seval, hcl, hgk, hx, hslk, htk, hm, hgi]) <;> exact sT))) | ((first | apply Run.nil | apply Wp.skip); dsimp only [sQ, tQ, bQ]) | (apply Wp.run; (dsimp only [List.map] <;> exact rfl); exact rfl) | (apply Wp.exit; dsimp only [sQ, tQ, bQ]; simp only [reduceIte]))
              (apply Wp.cond; (simp only [push_cast, seval, hcl, hgk, hx, hslk, htk, hm, hgi] <;> (try simp (disch := omega) only [wI, wU, wC]) <;> exact rfl))
              · intro h5
                simp only [decide_eq_true_eq] at h5
                rw [if_pos (by omega)] at hfi
                repeat (first | apply Wp.seq | apply Wp.block | (apply Run.next; (simp only [push_cast, seval, hcl, hgk, hx, hslk, htk, hm, hgi] <;> (try simp (disch := omega) only [wI, wU, wC]) <;> exact rfl); (focus ((try simp only [push_cast, seval, hcl, hgk, hx, hslk, htk, hm, hgi]) <;> exact sT))) | ((first | apply Run.nil | apply Wp.skip); dsimp only [sQ, tQ, bQ]) | (apply Wp.run; (dsimp only [List.map] <;> exact rfl); exact rfl) | (apply Wp.exit; dsimp only [sQ, tQ, bQ]; simp only [reduceIte]))
                refine ⟨i + 1, ?_, by omega, by omega⟩
                rw [hfi]
                (refine Le.of ?_ ?_ rfl rfl <;> (try simp only [push_cast, seval, hcl, hgk, hx, hslk, htk, hm, hgi]) <;> (try (with_reducible rfl)))
              · intro h5
                simp only [decide_eq_false_iff_not] at h5
                rw [if_neg (by omega)] at hfi
                repeat (first | apply Wp.seq | apply Wp.block | (apply Run.next; (simp only [push_cast, seval, hcl, hgk, hx, hslk, htk, hm, hgi] <;> (try simp (disch := omega) only [wI, wU, wC]) <;> exact rfl); (focus ((try simp only [push_cast, seval, hcl, hgk, hx, hslk, htk, hm, hgi]) <;> exact sT))) | ((first | apply Run.nil | apply Wp.skip); dsimp only [sQ, tQ, bQ]) | (apply Wp.run; (dsimp only [List.map] <;> exact rfl); exact rfl) | (apply Wp.exit; dsimp only [sQ, tQ, bQ]; simp only [reduceIte]))
                refine ⟨i + 1, ?_, by omega, by omega⟩
                rw [hfi]
                (refine Le.of ?_ ?_ rfl rfl <;> (try simp only [push_cast, seval, hcl, hgk, hx, hslk, htk, hm, hgi]) <;> (try (with_reducible rfl)))
            · intro hci
              simp only [decide_eq_false_iff_not, Int.ofNat_lt] at hci
              obtain rfl : i = I.length := by omega
              rw [hfm2]
              by_cases hpm : p m = true
              · rw [if_pos hpm] at hpn
                have hlt : decide (nmR p (m : Int) < 0) = false := decide_eq_false (by omega)
                repeat (first | apply Wp.seq | apply Wp.block | (apply Run.next; (simp only [push_cast, seval, hcl, hgk, hx, hslk, htk, hm, hlt] <;> (try simp (disch := omega) only [wI, wU, wC]) <;> exact rfl); (focus ((try simp only [push_cast, seval, hcl, hgk, hx, hslk, htk, hm, hlt]) <;> exact sT))) | ((first | apply Run.nil | apply Wp.skip); dsimp only [sQ, tQ, bQ]) | (apply Wp.run; (dsimp only [List.map] <;> exact rfl); exact rfl) | (apply Wp.exit; dsimp only [sQ, tQ, bQ]; simp only [reduceIte]) | (apply Run.gtrue; (simp only [push_cast, seval, hcl, hgk, hx, hslk, htk, hm, hlt] <;> (try simp (disch := omega) only [wI, wU, wC]) <;> exact rfl); (simp only [push_cast, seval, hcl, hgk, hx, hslk, htk, hm, hlt] <;> (try simp (disch := omega) only [wI, wU, wC]) <;> exact rfl)) | (apply Run.gfalse (.bool false); (simp only [push_cast, seval, hcl, hgk, hx, hslk, htk, hm, hlt] <;> (try simp (disch := omega) only [wI, wU, wC]) <;> exact rfl); dsimp only [S.put, optG]) | (apply Wp.condT; (simp only [push_cast, seval, hcl, hgk, hx, hslk, htk, hm, hlt] <;> (try simp (disch := omega) only [wI, wU, wC]) <;> exact rfl)) | (apply Wp.condF; (simp only [push_cast, seval, hcl, hgk, hx, hslk, htk, hm, hlt] <;> (try simp (disch := omega) only [wI, wU, wC]) <;> exact rfl)))
                refine ⟨?_, by rw [hwj, hpm]; rfl⟩
                rw [hre]
                (refine Le.of ?_ ?_ rfl rfl <;> (try simp only [push_cast, seval, hcl, hgk, hx, hslk, htk, hm, hlt]) <;> (try (with_reducible rfl)))
              · rw [if_neg hpm] at hpn
                have hlt : decide (nmR p (m : Int) < 0) = true := decide_eq_true (by omega)
                have hwf : whB p ls j = false := by rw [hwj, show p m = false by simpa using hpm]; rfl
                have hwl : whL p ls = false := range_no hj1 hwf
                repeat (first | apply Wp.seq | apply Wp.block | (apply Run.next; (simp only [push_cast, seval, hcl, hgk, hx, hslk, htk, hm, hlt] <;> (try simp (disch := omega) only [wI, wU, wC]) <;> exact rfl); (focus ((try simp only [push_cast, seval, hcl, hgk, hx, hslk, htk, hm, hlt]) <;> exact sT))) | ((first | apply Run.nil | apply Wp.skip); dsimp only [sQ, tQ, bQ]) | (apply Wp.run; (dsimp only [List.map] <;> exact rfl); exact rfl) | (apply Wp.exit; dsimp only [sQ, tQ, bQ]; simp only [reduceIte]) | (apply Run.gtrue; (simp only [push_cast, seval, hcl, hgk, hx, hslk, htk, hm, hlt] <;> (try simp (disch := omega) only [wI, wU, wC]) <;> exact rfl); (simp only [push_cast, seval, hcl, hgk, hx, hslk, htk, hm, hlt] <;> (try simp (disch := omega) only [wI, wU, wC]) <;> exact rfl)) | (apply Run.gfalse (.bool false); (simp only [push_cast, seval, hcl, hgk, hx, hslk, htk, hm, hlt] <;> (try simp (disch := omega) only [wI, wU, wC]) <;> exact rfl); dsimp only [S.put, optG]) | (apply Wp.condT; (simp only [push_cast, seval, hcl, hgk, hx, hslk, htk, hm, hlt] <;> (try simp (disch := omega) only [wI, wU, wC]) <;> exact rfl)) | (apply Wp.condF; (simp only [push_cast, seval, hcl, hgk, hx, hslk, htk, hm, hlt] <;> (try simp (disch := omega) only [wI, wU, wC]) <;> exact rfl)))
                (apply Wp.ret; (try dsimp only [sQ, tQ, bQ]); apply leave0; exact rfl; (simp only [push_cast, seval, hcl, hgk, hx, hslk, htk, hm, hlt] <;> (try simp (disch := omega) only [wI, wU, wC]) <;> exact rfl); all_goals (try simp only [push_cast, seval, hcl, hgk, hx, hslk, htk, hm, hlt]); (try rfl))
                rw [smA, hwl]; rfl
        · intro h3
          simp only [decide_eq_false_iff_not] at h3
          have hre : reR p x = x := by
            have : x.rival = -1 := by omega
            unfold reR; rw [this]; cases x; simp only [nmR, if_true]; simp only at this; rw [this]
          rw [hre]
          repeat (first | apply Wp.seq | apply Wp.block | (apply Run.next; (simp only [push_cast, seval, hcl, hgk, hx, hslk, htk] <;> (try simp (disch := omega) only [wI, wU, wC]) <;> exact rfl); (focus ((try simp only [push_cast, seval, hcl, hgk, hx, hslk, htk]) <;> exact sT))) | ((first | apply Run.nil | apply Wp.skip); dsimp only [sQ, tQ, bQ]) | (apply Wp.run; (dsimp only [List.map] <;> exact rfl); exact rfl) | (apply Wp.exit; dsimp only [sQ, tQ, bQ]; simp only [reduceIte]) | (apply Run.gtrue; (simp only [push_cast, seval, hcl, hgk, hx, hslk, htk] <;> (try simp (disch := omega) only [wI, wU, wC]) <;> exact rfl); (simp only [push_cast, seval, hcl, hgk, hx, hslk, htk] <;> (try simp (disch := omega) only [wI, wU, wC]) <;> exact rfl)) | (apply Run.gfalse (.bool false); (simp only [push_cast, seval, hcl, hgk, hx, hslk, htk] <;> (try simp (disch := omega) only [wI, wU, wC]) <;> exact rfl); dsimp only [S.put, optG]) | (apply Wp.condT; (simp only [push_cast, seval, hcl, hgk, hx, hslk, htk] <;> (try simp (disch := omega) only [wI, wU, wC]) <;> exact rfl)) | (apply Wp.condF; (simp only [push_cast, seval, hcl, hgk, hx, hslk, htk] <;> (try simp (disch := omega) only [wI, wU, wC]) <;> exact rfl)))
          refine ⟨?_, by rw [hwj, decide_eq_false h3]; rfl⟩
          (refine Le.of ?_ ?_ rfl rfl <;> (try simp only [push_cast, seval, hcl, hgk, hx, hslk, htk]) <;> (try (with_reducible rfl)))
      · (try dsimp only [sQ, tQ, bQ])
        intro s' hs' hwt
        refine Wp.le hs' ?_
        repeat (first | apply Wp.seq | apply Wp.block | (apply Run.next; (simp only [push_cast, seval, hcl, hgk, hx, hslk, htk] <;> (try simp (disch := omega) only [wI, wU, wC]) <;> exact rfl); (focus ((try simp only [push_cast, seval, hcl, hgk, hx, hslk, htk]) <;> exact sT))) | ((first | apply Run.nil | apply Wp.skip); dsimp only [sQ, tQ, bQ]) | (apply Wp.run; (dsimp only [List.map] <;> exact rfl); exact rfl) | (apply Wp.exit; dsimp only [sQ, tQ, bQ]; simp only [reduceIte]))
        refine ⟨(k + 1, v + 1, .row 6 [bkA (reR p x)]), ?_, ⟨by simp only; omega, fun i hi => ?_⟩, by simp only; omega⟩
        · simp only
          rw [hssk]
          (refine Le.of ?_ ?_ rfl rfl <;> (try simp only [push_cast, seval, hcl, hgk, hx, hslk, htk]) <;> (try (with_reducible rfl)))
          all_goals simp [bkA]
        · simp only at hi
          by_cases hik : i = k
          · subst hik; rw [hj4]; exact hwt
          · exact hk2 i (by omega)
    · intro hc
      simp only [decide_eq_false_iff_not, Int.ofNat_lt] at hc
      obtain rfl : k = I.length := by omega
      repeat (first | apply Wp.seq | apply Wp.block | (apply Run.next; (simp only [push_cast, seval, hcl] <;> (try simp (disch := omega) only [wI, wU, wC]) <;> exact rfl); (focus ((try simp only [push_cast, seval, hcl]) <;> exact sT))) | ((first | apply Run.nil | apply Wp.skip); dsimp only [sQ, tQ, bQ]) | (apply Wp.run; (dsimp only [List.map] <;> exact rfl); exact rfl) | (apply Wp.exit; dsimp only [sQ, tQ, bQ]; simp only [reduceIte]))
      (apply Wp.freeze 4; (simp only [push_cast, seval, hcl] <;> (try simp (disch := omega) only [wI, wU, wC]) <;> exact rfl); (simp only [push_cast, seval, hcl] <;> (try simp (disch := omega) only [wI, wU, wC]) <;> exact rfl); (focus (try simp only [push_cast, seval, hcl]); (try (exact sT))); (focus (exact sT)))
      (apply Wp.ret; (try dsimp only [sQ, tQ, bQ]); apply leave0; exact rfl; (simp only [push_cast, seval, hcl] <;> (try simp (disch := omega) only [wI, wU, wC]) <;> exact rfl); all_goals (try simp only [push_cast, seval, hcl]); (try rfl))
      have hwl := hall hk2
      rw [smA, if_pos hwl, hwl, hsa, List.take_of_length_le (by rw [← hsa, hsl I.length (Nat.le_refl _)]; exact Nat.le_refl _)]
end Go.Proofs.Try
set_option maxHeartbeats 8000000
set_option maxRecDepth 20000
namespace Go.Proofs.Try
open Go.Vg

/-! the choice that is worth the most -/
def wtF (vals : List Int) (p : Nat → Bool) : Nat → Int
  | 0 => 0
  | k + 1 => if p k = true then wtF vals p k + vals.getD k 0 else wtF vals p k
def lsum (vals : List Int) (L : List Nat) : Int := L.foldl (fun a i => a + vals.getD i 0) 0
theorem lsum_app (vals : List Int) (L : List Nat) (x : Nat) : lsum vals (L ++ [x]) = lsum vals L + vals.getD x 0 := by simp [lsum, List.foldl_append]
theorem wtF_sum (vals : List Int) (p : Nat → Bool) : ∀ n, lsum vals (ixL p n) = wtF vals p n
  | 0 => rfl
  | n + 1 => by
    rw [ixL_succ]
    simp only [wtF]
    split
    · rw [lsum_app, wtF_sum vals p n]
    · rw [List.append_nil, wtF_sum vals p n]
theorem lsum_bd {vals : List Int} (hv : ∀ i, i < vals.length → 0 ≤ vals.getD i 0 ∧ vals.getD i 0 ≤ 100000) (L : List Nat) (hL : ∀ i ∈ L, i < vals.length) : ∀ k, k ≤ L.length → 0 ≤ lsum vals (L.take k) ∧ lsum vals (L.take k) ≤ 100000 * (k : Int)
  | 0, _ => by simp [lsum]
  | k + 1, hk => by
    have ih := lsum_bd hv L hL k (by omega)
    have e : L.take (k + 1) = L.take k ++ [L.getD k 0] := by rw [List.take_add_one]; simp [show k < L.length by omega]
    have hm : L.getD k 0 ∈ L := by simp [show k < L.length by omega]
    have := hv _ (hL _ hm)
    rw [e, lsum_app]; omega
def betB (w sm : Int) (m ch : List Int) : Bool := decide (sm < w) || (decide (w = sm) && befB m ch)
def chS (cs : List Ch) (ms : List Ma) (cake : Int) (ls : List Bk) (vals : List Int) : Nat → List Int × Int
  | 0 => ([], 0)
  | k + 1 => if (betB (wtF vals (sP k) ls.length) (chS cs ms cake ls vals k).2 (cL (ixL (sP k) ls.length)) (chS cs ms cake ls vals k).1 && whL (sP k) ls && decide (edE cs ms cake (someL (sP k) ls) = 0)) = true then (cL (ixL (sP k) ls.length), wtF vals (sP k) ls.length) else chS cs ms cake ls vals k
theorem ixL_le (p : Nat → Bool) (n : Nat) : (ixL p n).length ≤ n := by
  rw [ixL_len]; have := ct_bd p n; rw [ct_ctN] at this; omega
theorem ixL_lt (p : Nat → Bool) (n : Nat) : ∀ i ∈ ixL p n, i < n := fun i hi => by
  unfold ixL at hi; rw [List.mem_filter, List.mem_range] at hi; exact hi.1
theorem wtF_bd {vals : List Int} (hv : ∀ i, i < vals.length → 0 ≤ vals.getD i 0 ∧ vals.getD i 0 ≤ 100000) (p : Nat → Bool) : ∀ n, n ≤ vals.length → 0 ≤ wtF vals p n ∧ wtF vals p n ≤ 100000 * (n : Int)
  | 0, _ => by simp [wtF]
  | n + 1, h => by
    have ih := wtF_bd hv p n (by omega)
    have := hv n (by omega)
    simp only [wtF]; split <;> omega
theorem chS_bd {cs : List Ch} {ms : List Ma} {cake : Int} {ls : List Bk} {vals : List Int} (hl : vals.length = ls.length) (hv : ∀ i, i < vals.length → 0 ≤ vals.getD i 0 ∧ vals.getD i 0 ≤ 100000) : ∀ k, (chS cs ms cake ls vals k).1.length ≤ ls.length ∧ 0 ≤ (chS cs ms cake ls vals k).2 ∧ (chS cs ms cake ls vals k).2 ≤ 100000 * (ls.length : Int)
  | 0 => by simp [chS]; omega
  | k + 1 => by
    have ih := chS_bd (cs := cs) (ms := ms) (cake := cake) hl hv k
    simp only [chS]
    split
    · have h1 := ixL_le (sP k) ls.length
      have h2 := wtF_bd hv (sP k) ls.length (by omega)
      exact ⟨by rw [cL_len]; exact h1, h2⟩
    · exact ih
def TT (n : Nat) : Int := IntKind.i64.wrap (1 * 2 ^ (min n IntKind.i64.bits))
theorem TT_bd (n : Nat) (h : n ≤ 12) : ∃ T : Nat, TT n = (T : Int) ∧ T ≤ 4096 := by
  match n, h with
  | 0, _ => exact ⟨1, by decide, by decide⟩
  | 1, _ => exact ⟨2, by decide, by decide⟩
  | 2, _ => exact ⟨4, by decide, by decide⟩
  | 3, _ => exact ⟨8, by decide, by decide⟩
  | 4, _ => exact ⟨16, by decide, by decide⟩
  | 5, _ => exact ⟨32, by decide, by decide⟩
  | 6, _ => exact ⟨64, by decide, by decide⟩
  | 7, _ => exact ⟨128, by decide, by decide⟩
  | 8, _ => exact ⟨256, by decide, by decide⟩
  | 9, _ => exact ⟨512, by decide, by decide⟩
  | 10, _ => exact ⟨1024, by decide, by decide⟩
  | 11, _ => exact ⟨2048, by decide, by decide⟩
  | 12, _ => exact ⟨4096, by decide, by decide⟩
  | n + 13, h => omega
def inV (vals : List Int) : Bool := vals.all fun n => wi n 0 100000
def chG (cs : List Ch) (ms : List Ma) (cake : Int) (ls : List Bk) (vals : List Int) : Int := if ckE cs ms cake ls = 0 then (if ls.length ≤ 12 then (if vals.length = ls.length ∧ inV vals = true then 0 else 1) else 2) else ckE cs ms cake ls
def chA' (cs : List Ch) (ms : List Ma) (cake : Int) (ls : List Bk) (vals : List Int) : AV := if chG cs ms cake ls vals = 0 then .ints (chS cs ms cake ls vals (TT ls.length).toNat).1 else .emp
def chN (cs : List Ch) (ms : List Ma) (cake : Int) (ls : List Bk) (vals : List Int) : Int := if chG cs ms cake ls vals = 0 then (chS cs ms cake ls vals (TT ls.length).toNat).2 else 0
end Go.Proofs.Try
set_option maxHeartbeats 8000000
set_option maxRecDepth 20000
namespace Go.Proofs.Try
open Go.Vg

/-! the choice that Choose finds is the best one -/
theorem bit_of (n : Nat) (q : Nat → Bool) : ∃ s : Nat, s < 2 ^ n ∧ ∀ i, s.testBit i = (q i && decide (i < n)) := by
  induction n with
  | zero => exact ⟨0, by simp, fun i => by simp⟩
  | succ n ih =>
    obtain ⟨s, h1, h2⟩ := ih
    cases hq : q n with
    | true =>
      refine ⟨s ||| 2 ^ n, ?_, fun i => ?_⟩
      · exact Nat.or_lt_two_pow (by rw [Nat.pow_succ]; omega) (Nat.pow_lt_pow_right (by omega) (by omega))
      · rw [Nat.testBit_or, h2, Nat.testBit_two_pow]
        by_cases hin : n = i
        · subst hin; simp [hq]
        · by_cases h3 : i < n
          · simp [h3, show i < n + 1 by omega, hin]
          · simp [h3, show ¬ i < n + 1 by omega, hin]
    | false =>
      refine ⟨s, by rw [Nat.pow_succ]; omega, fun i => ?_⟩
      rw [h2]
      by_cases hin : n = i
      · subst hin; simp [hq]
      · by_cases h3 : i < n
        · simp [h3, show i < n + 1 by omega]
        · simp [h3, show ¬ i < n + 1 by omega]
theorem sP_bit (s : Nat) (hs : s < 1000) (i : Nat) : sP (s : Int) i = s.testBit i := by
  have e : ∀ m : Nat, (decide (IntKind.i64.wrap ((BitVec.ofInt IntKind.i64.bits ((m : Nat) : Int) &&& BitVec.ofInt IntKind.i64.bits 1).toNat) = 1)) = decide (m % 2 = 1) := by
    intro m
    have h : (BitVec.ofInt IntKind.i64.bits ((m : Nat) : Int) &&& BitVec.ofInt IntKind.i64.bits 1).toNat = m % 2 := by
      rw [BitVec.toNat_and]
      have : (BitVec.ofInt IntKind.i64.bits 1).toNat = 1 := by decide
      rw [this, Nat.and_one_is_mod]
      have : (BitVec.ofInt IntKind.i64.bits ((m : Nat) : Int)).toNat = m % 2 ^ 64 := by
        rw [BitVec.toNat_ofInt]; simp only [IntKind.bits]; omega
      rw [this]
      omega
    rw [h]
    rcases (by omega : m % 2 = 0 ∨ m % 2 = 1) with h2 | h2 <;> rw [h2] <;> decide
  have hf : ∀ k : Nat, (s : Int).fdiv (2 ^ k) = ((s / 2 ^ k : Nat) : Int) := fun k => by
    rw [show ((2 : Int) ^ k) = ((2 ^ k : Nat) : Int) by rw [Int.natCast_pow]; rfl, Int.fdiv_eq_ediv_of_nonneg _ (Int.natCast_nonneg _)]; rfl
  show tgB (s : Int) (i : Int) = _
  unfold tgB
  rw [Int.toNat_natCast, hf, e, Nat.testBit_eq_decide_div_mod_eq]
  by_cases hi : i ≤ 64
  · rw [show min i IntKind.i64.bits = i by simp only [IntKind.bits]; omega]
  · rw [show min i IntKind.i64.bits = 64 by simp only [IntKind.bits]; omega]
    have h1 : s / 2 ^ 64 = 0 := Nat.div_eq_of_lt (by omega)
    have h2 : s / 2 ^ i = 0 := Nat.div_eq_of_lt (by
      have : 2 ^ 64 ≤ 2 ^ i := Nat.pow_le_pow_right (by omega) (by omega)
      omega)
    rw [h1, h2]
/-- a set is possible and keeps rivals together -/
def goB (cs : List Ch) (ms : List Ma) (cake : Int) (ls : List Bk) (p : Nat → Bool) : Prop := whL p ls = true ∧ edE cs ms cake (someL p ls) = 0
theorem go_nil (cs : List Ch) (ms : List Ma) (cake : Int) (ls : List Bk) : goB cs ms cake ls (fun _ => false) := by
  constructor
  · exact range_all fun j hj => by unfold whB; rfl
  · have : someL (fun _ => false) ls = [] := by
      rw [someL_eq]
      have : ixL (fun _ => false) ls.length = [] := by unfold ixL; simp
      rw [this]; rfl
    rw [this]
    refine ed_0.2 ⟨fit_iff.2 ⟨fun a b _ h => by simp at h, fun i h => by simp at h⟩, ?_⟩
    exact psB_iff.2 ⟨fun _ => 0, ⟨fun i h => by simp at h, fun i j _ h => by simp at h⟩⟩
theorem sP_lt {s n i : Nat} (hn : n ≤ 9) (hs : s < 2 ^ n) (h : sP (s : Int) i = true) : i < n := by
  have h9 : 2 ^ n ≤ 2 ^ 9 := Nat.pow_le_pow_right (by omega) hn
  rw [sP_bit s (by omega)] at h
  by_cases hi : i < n
  · exact hi
  · have h1 : 2 ^ n ≤ 2 ^ i := Nat.pow_le_pow_right (by omega) (by omega)
    rw [Nat.testBit_lt_two_pow (by omega)] at h
    cases h
theorem chS_inv {cs : List Ch} {ms : List Ma} {cake : Int} {ls : List Bk} {vals : List Int} (hn : ls.length ≤ 9) : ∀ k, k ≤ 2 ^ ls.length → ∃ p, (chS cs ms cake ls vals k).1 = cL (ixL p ls.length) ∧ goB cs ms cake ls p ∧ (chS cs ms cake ls vals k).2 = wtF vals p ls.length ∧ ∀ i, p i = true → i < ls.length
  | 0, _ => ⟨fun _ => false, by simp [chS, ixL, cL], go_nil cs ms cake ls, by
      show (0 : Int) = _
      rw [← wtF_sum]; rw [show ixL (fun _ => false) ls.length = [] by unfold ixL; simp]; rfl, fun i h => by cases h⟩
  | k + 1, hk => by
    obtain ⟨p, h1, h2, h3, h4⟩ := chS_inv (cs := cs) (ms := ms) (cake := cake) (ls := ls) (vals := vals) hn k (by omega)
    simp only [chS]
    split
    · rename_i h
      simp only [Bool.and_eq_true, decide_eq_true_eq] at h
      exact ⟨sP (k : Int), rfl, ⟨h.1.2, h.2⟩, rfl, fun i hi => sP_lt hn (by omega) hi⟩
    · exact ⟨p, h1, h2, h3, h4⟩
theorem chS_max {cs : List Ch} {ms : List Ma} {cake : Int} {ls : List Bk} {vals : List Int} : ∀ k (s : Nat), s < k → goB cs ms cake ls (sP (s : Int)) → wtF vals (sP (s : Int)) ls.length < (chS cs ms cake ls vals k).2 ∨ (wtF vals (sP (s : Int)) ls.length = (chS cs ms cake ls vals k).2 ∧ (chS cs ms cake ls vals k).1.length ≤ (ixL (sP (s : Int)) ls.length).length)
  | 0, s, hs, _ => by omega
  | k + 1, s, hs, hg => by
    have ih := chS_max (cs := cs) (ms := ms) (cake := cake) (ls := ls) (vals := vals) k s
    simp only [chS]
    have hbef : ∀ a b : List Int, befB a b = true → a.length ≤ b.length := fun a b h => by
      unfold befB at h; split at h
      · omega
      · simp only [decide_eq_true_eq] at h; omega
    have hnb : ∀ a b : List Int, befB a b = false → b.length ≤ a.length := fun a b h => by
      unfold befB at h; split at h
      · omega
      · simp only [decide_eq_false_iff_not] at h; omega
    have hbc := hbef (cL (ixL (sP (k : Int)) ls.length)) (chS cs ms cake ls vals k).1
    have hnc := hnb (cL (ixL (sP (k : Int)) ls.length)) (chS cs ms cake ls vals k).1
    rw [cL_len] at hbc hnc
    by_cases hsk : s = k
    · subst hsk
      split
      · right; simp [cL_len]
      · rename_i h
        rw [hg.1, decide_eq_true hg.2] at h
        simp only [Bool.and_true, Bool.not_eq_true] at h
        unfold betB at h
        simp only [Bool.or_eq_false_iff, decide_eq_false_iff_not, Bool.and_eq_false_iff] at h
        rcases Int.lt_trichotomy (wtF vals (sP (s : Int)) ls.length) (chS cs ms cake ls vals s).2 with h5 | h5 | h5
        · exact .inl h5
        · right
          refine ⟨h5, ?_⟩
          rcases h.2 with h6 | h6
          · exact absurd h5 h6
          · exact hnc h6
        · exact absurd h5 h.1
    · have ih := ih (by omega) hg
      split
      · rename_i h
        simp only [Bool.and_eq_true, decide_eq_true_eq] at h
        have h1 := h.1.1
        unfold betB at h1
        simp only [Bool.or_eq_true, decide_eq_true_eq, Bool.and_eq_true] at h1
        simp only [cL_len]
        rcases h1 with h1 | ⟨h1, h2⟩
        · left; omega
        · have h3 := hbc h2
          rcases ih with h4 | h4
          · left; omega
          · right; omega
      · exact ih
theorem TT_pow (n : Nat) (h : n ≤ 6) : (TT n).toNat = 2 ^ n := by
  match n, h with
  | 0, _ => decide
  | 1, _ => decide
  | 2, _ => decide
  | 3, _ => decide
  | 4, _ => decide
  | 5, _ => decide
  | 6, _ => decide
  | n + 7, h => omega
/-- an ascending list of numbers below n is the list of a set -/
theorem asc_set {n : Nat} (hn : n ≤ 9) {L : List Nat} (h1 : ∀ i ∈ L, i < n) (h2 : L.Pairwise (· < ·)) : ∃ s : Nat, s < 2 ^ n ∧ L = ixL (sP (s : Int)) n := by
  obtain ⟨s, hs, hb⟩ := bit_of n (fun i => decide (i ∈ L))
  have h9 : 2 ^ n ≤ 2 ^ 9 := Nat.pow_le_pow_right (by omega) hn
  refine ⟨s, hs, ?_⟩
  have hp : (ixL (sP (s : Int)) n).Pairwise (· < ·) := by
    unfold ixL; exact List.Pairwise.filter _ List.pairwise_lt_range
  have hmem : ∀ i, i ∈ ixL (sP (s : Int)) n ↔ i ∈ L := fun i => by
    unfold ixL
    rw [List.mem_filter, List.mem_range, sP_bit s (by omega), hb]
    simp only [Bool.and_eq_true, decide_eq_true_eq]
    constructor
    · exact fun h => h.2.1
    · exact fun h => ⟨h1 i h, h, h1 i h⟩
  have hperm : ∀ {A B : List Nat}, A.Pairwise (· < ·) → B.Pairwise (· < ·) → (∀ i, i ∈ A ↔ i ∈ B) → A = B := by
    intro A
    induction A with
    | nil =>
      intro B _ _ h
      cases B with
      | nil => rfl
      | cons b B => have := (h b).2 (by simp); cases this
    | cons a A ih =>
      intro B ha hb h
      cases B with
      | nil => have := (h a).1 (by simp); cases this
      | cons b B =>
        rw [List.pairwise_cons] at ha hb
        have hab : a = b := by
          have m1 := (h a).1 (by simp)
          have m2 := (h b).2 (by simp)
          rw [List.mem_cons] at m1 m2
          rcases m1 with m1 | m1
          · exact m1
          · rcases m2 with m2 | m2
            · exact m2.symm
            · have := ha.1 _ m2; have := hb.1 _ m1; omega
        subst hab
        congr 1
        refine ih ha.2 hb.2 fun i => ?_
        have := h i
        rw [List.mem_cons, List.mem_cons] at this
        constructor
        · intro hi
          rcases this.1 (.inr hi) with e | e
          · have := ha.1 _ hi; omega
          · exact e
        · intro hi
          rcases this.2 (.inr hi) with e | e
          · have := hb.1 _ hi; omega
          · exact e
  exact hperm h2 hp fun i => (hmem i).symm
end Go.Proofs.Try
set_option maxHeartbeats 8000000
set_option maxRecDepth 20000
namespace Go.Proofs.Try
open Go.Vg

/-! what a choice is worth -/
def wsI (vals ch : List Int) : Nat → Int
  | 0 => 0
  | k + 1 => wsI vals ch k + vals.getD (ch.getD k 0).toNat 0
def acB (n : Nat) (ch : List Int) (i : Nat) : Bool := !((decide (ch.getD i 0 < 0) || decide ((n : Int) ≤ ch.getD i 0)) || (decide (0 < (i : Int)) && decide (ch.getD i 0 ≤ ch.getD (i - 1) 0)))
def asB (n : Nat) (ch : List Int) : Bool := (List.range ch.length).all (acB n ch)
/-- the ascending list as a list of numbers -/
theorem as_iff {n : Nat} {ch : List Int} (h : asB n ch = true) : ∃ L : List Nat, ch = cL L ∧ (∀ i ∈ L, i < n) ∧ L.Pairwise (· < ·) := by
  have hall : ∀ i, i < ch.length → acB n ch i = true := fun i hi => by
    unfold asB at h; exact List.all_eq_true.1 h i (List.mem_range.2 hi)
  refine ⟨ch.map Int.toNat, ?_, ?_, ?_⟩
  · unfold cL
    rw [List.map_map]
    apply List.ext_getElem (by simp)
    intro i h1 h2
    have := hall i h1
    unfold acB at this
    simp [h1] at this
    simp; omega
  · intro i hi
    rw [List.mem_map] at hi
    obtain ⟨z, hz, rfl⟩ := hi
    obtain ⟨k, hk, rfl⟩ := List.mem_iff_getElem.1 hz
    have := hall k hk
    unfold acB at this
    simp [hk] at this
    omega
  · rw [List.pairwise_map, List.pairwise_iff_getElem]
    intro i j hi hj hij
    have hs : ∀ d, i + d + 1 < ch.length → ch.getD i 0 < ch.getD (i + d + 1) 0 := by
      intro d
      induction d with
      | zero =>
        intro hd
        have := hall (i + 0 + 1) hd
        unfold acB at this
        simp only [Bool.not_eq_true', Bool.or_eq_false_iff, Bool.and_eq_false_iff, decide_eq_false_iff_not] at this
        rw [show i + 0 + 1 - 1 = i by omega] at this
        rcases this.2 with h | h <;> omega
      | succ d ih =>
        intro hd
        have h1 := ih (by omega)
        have := hall (i + (d + 1) + 1) hd
        unfold acB at this
        simp only [Bool.not_eq_true', Bool.or_eq_false_iff, Bool.and_eq_false_iff, decide_eq_false_iff_not] at this
        rw [show i + (d + 1) + 1 - 1 = i + d + 1 by omega] at this
        rcases this.2 with h | h <;> omega
    have h1 := hs (j - i - 1) (by omega)
    rw [show i + (j - i - 1) + 1 = j by omega] at h1
    have h2 := hall i hi
    unfold acB at h2
    simp [hi] at h2
    simp [hi, hj] at h1
    omega
theorem as_ix (p : Nat → Bool) (n : Nat) {ch : List Int} (h : ch = cL (ixL p n)) : asB n ch = true := by
  subst h
  unfold asB
  refine range_all fun j hj => ?_
  rw [cL_len] at hj
  have hp : (ixL p n).Pairwise (· < ·) := by
    unfold ixL; exact List.Pairwise.filter _ List.pairwise_lt_range
  have hg : ∀ k, k < (ixL p n).length → (cL (ixL p n)).getD k 0 = (((ixL p n).getD k 0 : Nat) : Int) := fun k hk => by simp [cL, hk]
  obtain ⟨m, hm1, _, _, hm4⟩ := ixL_of p hj
  unfold acB
  rw [hg j hj]
  by_cases h0 : j = 0
  · subst h0
    rw [hm4]
    simp only [Bool.not_eq_true', Bool.or_eq_false_iff, Bool.and_eq_false_iff, decide_eq_false_iff_not]
    omega
  · have hlt := List.pairwise_iff_getElem.1 hp (j - 1) j (by omega) hj (by omega)
    have e1 : (ixL p n).getD (j - 1) 0 = (ixL p n)[j - 1] := by simp [show j - 1 < (ixL p n).length by omega]
    have e2 : (ixL p n).getD j 0 = (ixL p n)[j] := by simp [hj]
    rw [← e1, ← e2] at hlt
    rw [hg (j - 1) (by omega)]
    rw [hm4] at hlt ⊢
    simp only [Bool.not_eq_true', Bool.or_eq_false_iff, Bool.and_eq_false_iff, decide_eq_false_iff_not]
    omega
theorem ws_sum (vals : List Int) (L : List Nat) : ∀ k, k ≤ L.length → wsI vals (cL L) k = lsum vals (L.take k)
  | 0, _ => by simp [wsI, lsum]
  | k + 1, h => by
    have e : L.take (k + 1) = L.take k ++ [L.getD k 0] := by rw [List.take_add_one]; simp [show k < L.length by omega]
    rw [e, lsum_app, ← ws_sum vals L k (by omega)]
    have : (cL L).getD k 0 = ((L.getD k 0 : Nat) : Int) := by simp [cL, show k < L.length by omega]
    simp only [wsI]
    rw [this, Int.toNat_natCast]
theorem worth_pure {cs : List Ch} {ms : List Ma} {cake : Int} {ls : List Bk} {vals : List Int} (ch : List Int) (hc : cs.length ≤ 9223372036854775807) (hm : ms.length ≤ 9223372036854775807) (h1 : ckE cs ms cake ls = 0) (hv : vals.length = ls.length) (hn : ls.length ≤ 6) (hvb : ∀ i, i < vals.length → 0 ≤ vals.getD i 0 ∧ vals.getD i 0 ≤ 100000) (hl : ch.length ≤ 9223372036854775807) :
    ∃ w b, Pure Try.prog 48 [houA cs ms cake, .lst 6 (ls.map bkA), .ints vals, .ints ch] (.tup [.int w, .bool b]) ∧ (b = true → ∃ s : Nat, s < 2 ^ ls.length ∧ ch = cL (ixL (sP (s : Int)) ls.length) ∧ goB cs ms cake ls (sP (s : Int)) ∧ w = wtF vals (sP (s : Int)) ls.length) ∧ (∀ p, (∀ i, p i = true → i < ls.length) → ch = cL (ixL p ls.length) → goB cs ms cake ls p → b = true ∧ w = wtF vals p ls.length) := by
  have hpw := PW.of_ck h1
  have hll : (ls.length : Int) ≤ 6 := by omega
  suffices hw : ∀ w b, (asB ls.length ch = false → w = 0 ∧ b = false) → (∀ s : Nat, s < 2 ^ ls.length → ch = cL (ixL (sP (s : Int)) ls.length) → (whL (sP (s : Int)) ls = false → w = 0 ∧ b = false) ∧ (whL (sP (s : Int)) ls = true → w = wtF vals (sP (s : Int)) ls.length ∧ b = decide (sfE cs ms cake (someL (sP (s : Int)) ls) = 0))) → Pure Try.prog 48 [houA cs ms cake, .lst 6 (ls.map bkA), .ints vals, .ints ch] (.tup [.int w, .bool b]) by
    by_cases has : asB ls.length ch = true
    · obtain ⟨L, hL1, hL2, hL3⟩ := as_iff has
      obtain ⟨s, hs, hLs⟩ := asc_set (by omega) hL2 hL3
      subst hLs
      have hid : ∀ L : List Nat, (cL L).map Int.toNat = L := fun L => by
        unfold cL; rw [List.map_map]; exact (List.map_congr_left (fun _ _ => rfl)).trans (List.map_id L)
      have hinj : ∀ {p : Nat → Bool}, (∀ i, p i = true → i < ls.length) → ch = cL (ixL p ls.length) → p = sP (s : Int) := by
        intro p hp hch
        have e1 : ixL p ls.length = ixL (sP (s : Int)) ls.length := by
          have := hch.symm.trans hL1
          have h2 := congrArg (List.map Int.toNat) this
          rwa [hid, hid] at h2
        funext i
        have hm1 : i ∈ ixL p ls.length ↔ p i = true := by
          unfold ixL
          rw [List.mem_filter, List.mem_range]
          exact ⟨fun h => h.2, fun h => ⟨hp i h, h⟩⟩
        have hm2 : i ∈ ixL (sP (s : Int)) ls.length ↔ sP (s : Int) i = true := by
          unfold ixL
          rw [List.mem_filter, List.mem_range]
          exact ⟨fun h => h.2, fun h => ⟨sP_lt (by omega) hs h, h⟩⟩
        rw [e1] at hm1
        rw [Bool.eq_iff_iff, ← hm1, ← hm2]
      have hsp := fun i (h : sP (s : Int) i = true) => sP_lt (n := ls.length) (by omega) hs h
      have hsf : sfE cs ms cake (someL (sP (s : Int)) ls) = 0 ↔ edE cs ms cake (someL (sP (s : Int)) ls) = 0 := by
        rw [sf_0]
        exact ⟨fun h => h.2, fun h => ⟨ck_some _ h1, h⟩⟩
      have hs2 : ∀ s2 : Nat, s2 < 2 ^ ls.length → ch = cL (ixL (sP (s2 : Int)) ls.length) → sP (s2 : Int) = sP (s : Int) := fun s2 h2 h3 => hinj (fun i h => sP_lt (by omega) h2 h) h3
      cases hwh : whL (sP (s : Int)) ls with
      | false =>
        refine ⟨0, false, hw 0 false (fun _ => ⟨rfl, rfl⟩) (fun s2 h2 h3 => ⟨fun _ => ⟨rfl, rfl⟩, fun h4 => ?_⟩), (fun h => by cases h), fun p hp h3 hg => ?_⟩
        · rw [hs2 s2 h2 h3, hwh] at h4; cases h4
        · rw [hinj hp h3] at hg
          have := hg.1; rw [hwh] at this; cases this
      | true =>
        refine ⟨wtF vals (sP (s : Int)) ls.length, decide (sfE cs ms cake (someL (sP (s : Int)) ls) = 0), hw _ _ (fun h => by rw [has] at h; cases h) (fun s2 h2 h3 => ⟨fun h4 => ?_, fun _ => ?_⟩), fun h => ⟨s, hs, hL1, ⟨hwh, hsf.1 (of_decide_eq_true h)⟩, rfl⟩, fun p hp h3 hg => ?_⟩
        · rw [hs2 s2 h2 h3, hwh] at h4; cases h4
        · rw [hs2 s2 h2 h3]; exact ⟨rfl, rfl⟩
        · have := hinj hp h3
          subst this
          exact ⟨decide_eq_true (hsf.2 hg.2), rfl⟩
    · refine ⟨0, false, hw 0 false (fun _ => ⟨rfl, rfl⟩) (fun s hs hch => absurd ?_ has), (fun h => by cases h), fun p hp h3 hg => absurd ?_ has⟩
      · exact as_ix _ _ hch
      · exact as_ix _ _ h3
  intro w b hno hyes
  (refine Spec.of_body Try.func48 rfl (by rw [Try.ntmps48]; simp) 0 (by simp) ?_; rw [Try.results48, Try.ntmps48]; simp only [entry, zipArgs, Nat.reduceAdd])
  repeat (first | apply Wp.seq | apply Wp.block | (apply Run.next; (simp only [push_cast, seval] <;> (try simp (disch := omega) only [wI, wU, wC]) <;> exact rfl); (focus ((try simp only [push_cast, seval]) <;> exact sT))) | ((first | apply Run.nil | apply Wp.skip); dsimp only [sQ, tQ, bQ]) | (apply Wp.run; (dsimp only [List.map] <;> exact rfl); exact rfl) | (apply Wp.exit; dsimp only [sQ, tQ, bQ]; simp only [reduceIte]))
  refine Wp.loop (fun (i : Nat) => { t := [(1, .lst 6 (ls.map bkA)), (2, .ints vals), (3, .ints ch), (4, .optr 0 0 0 0), (10, .int (wsI vals ch i)), (11, .int i)], m := [⟨0, .row 3 [houA cs ms cake]⟩], n := 78 }) (fun i => i ≤ ch.length ∧ (∀ j, j < i → acB ls.length ch j = true) ∧ (0 < i → (i : Int) ≤ ch.getD (i - 1) 0 + 1 ∧ ch.getD (i - 1) 0 < ls.length) ∧ 0 ≤ wsI vals ch i ∧ wsI vals ch i ≤ 100000 * (i : Int)) (fun i => ch.length - i) 0 ?_ ?_ ?_
  · (refine Le.of ?_ ?_ rfl rfl <;> (try simp only [push_cast, seval]) <;> (try (with_reducible rfl)))
    all_goals rfl
  · simp [wsI]
  · rintro i ⟨hi1, hi2, hi3, hi4⟩
    have hws : wsI vals ch (i + 1) = wsI vals ch i + vals.getD (ch.getD i 0).toNat 0 := rfl
    generalize hW : wsI vals ch i = W at hws hi4
    repeat (first | apply Wp.seq | apply Wp.block | (apply Run.next; (simp only [push_cast, seval] <;> (try simp (disch := omega) only [wI, wU, wC]) <;> exact rfl); (focus ((try simp only [push_cast, seval]) <;> exact sT))) | ((first | apply Run.nil | apply Wp.skip); dsimp only [sQ, tQ, bQ]) | (apply Wp.run; (dsimp only [List.map] <;> exact rfl); exact rfl) | (apply Wp.exit; dsimp only [sQ, tQ, bQ]; simp only [reduceIte]))
    (apply Wp.cond; (simp only [push_cast, seval] <;> (try simp (disch := omega) only [wI, wU, wC]) <;> exact rfl))
    · intro hc1
      simp only [decide_eq_true_eq, Int.ofNat_lt] at hc1
      have hac : acB ls.length ch i = !((decide (ch.getD i 0 < 0) || decide ((ls.length : Int) ≤ ch.getD i 0)) || (decide (0 < (i : Int)) && decide (ch.getD i 0 ≤ ch.getD (i - 1) 0))) := rfl
      generalize hz : ch.getD i 0 = z at hac hws
      generalize hy : ch.getD (i - 1) 0 = y at hac hi3
      repeat (first | apply Wp.seq | apply Wp.block | (apply Run.next; (simp only [push_cast, seval, hz, hy] <;> (try simp (disch := omega) only [wI, wU, wC]) <;> exact rfl); (focus ((try simp only [push_cast, seval, hz, hy]) <;> exact sT))) | ((first | apply Run.nil | apply Wp.skip); dsimp only [sQ, tQ, bQ]) | (apply Wp.run; (dsimp only [List.map] <;> exact rfl); exact rfl) | (apply Wp.exit; dsimp only [sQ, tQ, bQ]; simp only [reduceIte]))
      (apply Wp.runD 30 mixed; (dsimp only [List.map] <;> exact rfl); exact rfl; kernel_rfl; (dsimp only [List.take] <;> exact rfl); (dsimp only [List.drop] <;> exact rfl); (((repeat (apply Abn.next; (simp only [push_cast, seval, hz, hy] <;> (try simp (disch := omega) only [wI, wU, wC]) <;> exact rfl); (focus ((try simp only [push_cast, seval, hz, hy]) <;> exact sT))))); exact Abn.nil))
      repeat (first | apply Wp.seq | apply Wp.block | (apply Run.next; (simp only [push_cast, seval, hz, hy] <;> (try simp (disch := omega) only [wI, wU, wC]) <;> exact rfl); (focus ((try simp only [push_cast, seval, hz, hy]) <;> exact sT))) | ((first | apply Run.nil | apply Wp.skip); dsimp only [sQ, tQ, bQ]) | (apply Wp.run; (dsimp only [List.map] <;> exact rfl); exact rfl) | (apply Wp.exit; dsimp only [sQ, tQ, bQ]; simp only [reduceIte]))
      (apply Wp.cond; (simp only [push_cast, seval, hz, hy] <;> (try simp (disch := omega) only [wI, wU, wC]) <;> exact rfl))
      · intro h5
        have h6 : acB ls.length ch i = false := by
          rw [hac, h5]; rfl
        have h7 : asB ls.length ch = false := range_no hc1 h6
        obtain ⟨rfl, rfl⟩ := hno h7
        repeat (first | apply Wp.seq | apply Wp.block | (apply Run.next; (simp only [push_cast, seval, hz, hy] <;> (try simp (disch := omega) only [wI, wU, wC]) <;> exact rfl); (focus ((try simp only [push_cast, seval, hz, hy]) <;> exact sT))) | ((first | apply Run.nil | apply Wp.skip); dsimp only [sQ, tQ, bQ]) | (apply Wp.run; (dsimp only [List.map] <;> exact rfl); exact rfl) | (apply Wp.exit; dsimp only [sQ, tQ, bQ]; simp only [reduceIte]))
        (apply Wp.ret; (try dsimp only [sQ, tQ, bQ]); apply leave0; exact rfl; (simp only [push_cast, seval, hz, hy] <;> (try simp (disch := omega) only [wI, wU, wC]) <;> exact rfl); all_goals (try simp only [push_cast, seval, hz, hy]); (try rfl))
      · intro h5
        have h6 : acB ls.length ch i = true := by
          rw [hac, h5]; rfl
        have h8 := h6
        rw [hac] at h8
        simp only [Bool.not_eq_true', Bool.or_eq_false_iff, Bool.and_eq_false_iff, decide_eq_false_iff_not] at h8
        have hiz : (i : Int) ≤ z := by
          by_cases h0 : i = 0
          · omega
          · have := hi3 (by omega)
            rcases h8.2 with h | h <;> omega
        have hvz := hvb z.toNat (by omega)
        have hzn : z.toNat < vals.length := by omega
        generalize hgv : vals.getD z.toNat 0 = gv at hvz hws
        repeat (first | apply Wp.seq | apply Wp.block | (apply Run.next; (simp only [push_cast, seval, hz, hgv] <;> (try simp (disch := omega) only [wI, wU, wC]) <;> exact rfl); (focus ((try simp only [push_cast, seval, hz, hgv]) <;> exact sT))) | ((first | apply Run.nil | apply Wp.skip); dsimp only [sQ, tQ, bQ]) | (apply Wp.run; (dsimp only [List.map] <;> exact rfl); exact rfl) | (apply Wp.exit; dsimp only [sQ, tQ, bQ]; simp only [reduceIte]))
        refine ⟨i + 1, ?_, ⟨by omega, fun j hj => ?_, fun _ => ⟨?_, ?_⟩, by omega, by omega⟩, by omega⟩
        · rw [hws]
          (refine Le.of ?_ ?_ rfl rfl <;> (try simp only [push_cast, seval, hz, hgv]) <;> (try (with_reducible rfl)))
        · by_cases hji : j = i
          · subst hji; exact h6
          · exact hi2 j (by omega)
        · rw [Nat.add_sub_cancel, hz]; omega
        · rw [Nat.add_sub_cancel, hz]; omega
    · intro hc1
      simp only [decide_eq_false_iff_not, Int.ofNat_lt] at hc1
      obtain rfl : i = ch.length := by omega
      have has : asB ls.length ch = true := range_all hi2
      obtain ⟨L, hL1, hL2, hL3⟩ := as_iff has
      obtain ⟨s, hs, hLs⟩ := asc_set (by omega) hL2 hL3
      subst hLs
      obtain ⟨hy1, hy2⟩ := hyes s hs hL1
      have hWs : W = wtF vals (sP (s : Int)) ls.length := by
        rw [← hW, ← wtF_sum, hL1, cL_len, ws_sum _ _ _ (Nat.le_refl _), List.take_length]
      subst hL1
      have hsome := Some_pure (ls := ls) (sP (s : Int)) (by omega) hpw.lv.rv
      have hstf := Staff_pure cs ms cake (someL (sP (s : Int)) ls) hc hm (by rw [someL_len]; have := ct_bd (sP (s : Int)) ls.length; rw [ct_ctN] at this; omega)
      have hstv := sfA_v cs ms cake (someL (sP (s : Int)) ls)
      have hsv : whL (sP (s : Int)) ls = true → smA (sP (s : Int)) ls = .lst 6 ((someL (sP (s : Int)) ls).map bkA) := fun h => by unfold smA; rw [if_pos h]
      have hsv2 : whL (sP (s : Int)) ls = false → smA (sP (s : Int)) ls = .emp := fun h => by unfold smA; rw [if_neg (by rw [h]; simp)]
      cases hwh : whL (sP (s : Int)) ls with
      | false =>
        obtain ⟨rfl, rfl⟩ := hy1 hwh
        rw [hsv2 hwh, hwh] at hsome
        repeat (first | apply Wp.seq | apply Wp.block | (apply Run.next; (simp only [push_cast, seval] <;> (try simp (disch := omega) only [wI, wU, wC]) <;> exact rfl); (focus ((try simp only [push_cast, seval]) <;> exact sT))) | ((first | apply Run.nil | apply Wp.skip); dsimp only [sQ, tQ, bQ]) | (apply Wp.run; (dsimp only [List.map] <;> exact rfl); exact rfl) | (apply Wp.exit; dsimp only [sQ, tQ, bQ]; simp only [reduceIte]))
        (apply Run.pureFP; (simp only [push_cast, seval] <;> (try simp (disch := omega) only [wI, wU, wC]) <;> exact rfl); (exact (Enters.of Try.func82 rfl rfl)); (exact hsome); (focus (simp only [push_cast, seval] <;> first | trivial | assumption | (refine ⟨?_, ?_⟩ <;> assumption) | (simp; done))); (try dsimp only [putA, optG]))
        repeat (first | apply Wp.seq | apply Wp.block | (apply Run.next; (simp only [push_cast, seval] <;> (try simp (disch := omega) only [wI, wU, wC]) <;> exact rfl); (focus ((try simp only [push_cast, seval]) <;> exact sT))) | ((first | apply Run.nil | apply Wp.skip); dsimp only [sQ, tQ, bQ]) | (apply Wp.run; (dsimp only [List.map] <;> exact rfl); exact rfl) | (apply Wp.exit; dsimp only [sQ, tQ, bQ]; simp only [reduceIte]) | (apply Run.gtrue; (simp only [push_cast, seval] <;> (try simp (disch := omega) only [wI, wU, wC]) <;> exact rfl); (simp only [push_cast, seval] <;> (try simp (disch := omega) only [wI, wU, wC]) <;> exact rfl)) | (apply Run.gfalse (.bool false); (simp only [push_cast, seval] <;> (try simp (disch := omega) only [wI, wU, wC]) <;> exact rfl); dsimp only [S.put, optG]) | (apply Wp.condT; (simp only [push_cast, seval] <;> (try simp (disch := omega) only [wI, wU, wC]) <;> exact rfl)) | (apply Wp.condF; (simp only [push_cast, seval] <;> (try simp (disch := omega) only [wI, wU, wC]) <;> exact rfl)))
        (apply Wp.ret; (try dsimp only [sQ, tQ, bQ]); apply leave0; exact rfl; (simp only [push_cast, seval] <;> (try simp (disch := omega) only [wI, wU, wC]) <;> exact rfl); all_goals (try simp only [push_cast, seval]); (try rfl))
      | true =>
        obtain ⟨rfl, rfl⟩ := hy2 hwh
        rw [hsv hwh, hwh] at hsome
        generalize sfE cs ms cake (someL (sP (s : Int)) ls) = e at hstf
        generalize sfA cs ms cake (someL (sP (s : Int)) ls) = x at hstf hstv
        rcases hstv with ⟨s, rfl⟩ | rfl
        all_goals
          repeat (first | apply Wp.seq | apply Wp.block | (apply Run.next; (simp only [push_cast, seval] <;> (try simp (disch := omega) only [wI, wU, wC]) <;> exact rfl); (focus ((try simp only [push_cast, seval]) <;> exact sT))) | ((first | apply Run.nil | apply Wp.skip); dsimp only [sQ, tQ, bQ]) | (apply Wp.run; (dsimp only [List.map] <;> exact rfl); exact rfl) | (apply Wp.exit; dsimp only [sQ, tQ, bQ]; simp only [reduceIte]))
          (apply Run.pureFP; (simp only [push_cast, seval] <;> (try simp (disch := omega) only [wI, wU, wC]) <;> exact rfl); (exact (Enters.of Try.func82 rfl rfl)); (exact hsome); (focus (simp only [push_cast, seval] <;> first | trivial | assumption | (refine ⟨?_, ?_⟩ <;> assumption) | (simp; done))); (try dsimp only [putA, optG]))
          repeat (first | apply Wp.seq | apply Wp.block | (apply Run.next; (simp only [push_cast, seval] <;> (try simp (disch := omega) only [wI, wU, wC]) <;> exact rfl); (focus ((try simp only [push_cast, seval]) <;> exact sT))) | ((first | apply Run.nil | apply Wp.skip); dsimp only [sQ, tQ, bQ]) | (apply Wp.run; (dsimp only [List.map] <;> exact rfl); exact rfl) | (apply Wp.exit; dsimp only [sQ, tQ, bQ]; simp only [reduceIte]) | (apply Run.gtrue; (simp only [push_cast, seval] <;> (try simp (disch := omega) only [wI, wU, wC]) <;> exact rfl); (simp only [push_cast, seval] <;> (try simp (disch := omega) only [wI, wU, wC]) <;> exact rfl)) | (apply Run.gfalse (.bool false); (simp only [push_cast, seval] <;> (try simp (disch := omega) only [wI, wU, wC]) <;> exact rfl); dsimp only [S.put, optG]) | (apply Wp.condT; (simp only [push_cast, seval] <;> (try simp (disch := omega) only [wI, wU, wC]) <;> exact rfl)) | (apply Wp.condF; (simp only [push_cast, seval] <;> (try simp (disch := omega) only [wI, wU, wC]) <;> exact rfl)))
          (apply Run.pureFP; (simp only [push_cast, seval] <;> (try simp (disch := omega) only [wI, wU, wC]) <;> exact rfl); (exact (Enters.of Try.func30 rfl rfl)); (exact hstf); (focus (simp only [push_cast, seval] <;> first | trivial | assumption | (refine ⟨?_, ?_⟩ <;> assumption) | (simp; done))); (try dsimp only [putA, optG]))
          repeat (first | apply Wp.seq | apply Wp.block | (apply Run.next; (simp only [push_cast, seval] <;> (try simp (disch := omega) only [wI, wU, wC]) <;> exact rfl); (focus ((try simp only [push_cast, seval]) <;> exact sT))) | ((first | apply Run.nil | apply Wp.skip); dsimp only [sQ, tQ, bQ]) | (apply Wp.run; (dsimp only [List.map] <;> exact rfl); exact rfl) | (apply Wp.exit; dsimp only [sQ, tQ, bQ]; simp only [reduceIte]) | (apply Run.gtrue; (simp only [push_cast, seval] <;> (try simp (disch := omega) only [wI, wU, wC]) <;> exact rfl); (simp only [push_cast, seval] <;> (try simp (disch := omega) only [wI, wU, wC]) <;> exact rfl)) | (apply Run.gfalse (.bool false); (simp only [push_cast, seval] <;> (try simp (disch := omega) only [wI, wU, wC]) <;> exact rfl); dsimp only [S.put, optG]) | (apply Wp.condT; (simp only [push_cast, seval] <;> (try simp (disch := omega) only [wI, wU, wC]) <;> exact rfl)) | (apply Wp.condF; (simp only [push_cast, seval] <;> (try simp (disch := omega) only [wI, wU, wC]) <;> exact rfl)))
          (apply Wp.ret; (try dsimp only [sQ, tQ, bQ]); apply leave0; exact rfl; (simp only [push_cast, seval] <;> (try simp (disch := omega) only [wI, wU, wC]) <;> exact rfl); all_goals (try simp only [push_cast, seval]); (try rfl))
          rw [hWs]
end Go.Proofs.Try
