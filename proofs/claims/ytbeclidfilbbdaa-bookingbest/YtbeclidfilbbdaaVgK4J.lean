/- A part of the proof of BookingBest: contracts of functions, with plain laws that they need. -/
import Derived.Test.YtbeclidfilbbdaaVgVw
import Derived.Test.YtbeclidfilbbdaaVgVg
import Derived.Test.YtbeclidfilbbdaaVgEa
import Derived.Test.YtbeclidfilbbdaaVgT
import Derived.Test.YtbeclidfilbbdaaVgK1J
set_option linter.all false
set_option maxHeartbeats 8000000
namespace Go.Proofs.Try
open Go.Vg

/-! the document's answers -/
theorem ckHouse_pure (cs : List Ch) (ms : List Ma) (cake : Int) (hc : cs.length ≤ 9223372036854775807) (hm : ms.length ≤ 9223372036854775807) : Pure Try.prog 55 [houA cs ms cake] (.int (if hoB cs ms cake = true then 0 else 110)) := by
  (refine Spec.of_body Try.func55 rfl (by rw [Try.ntmps55]; simp) 0 (by simp) ?_; rw [Try.results55, Try.ntmps55]; simp only [entry, zipArgs, Nat.reduceAdd])
  repeat (first | apply Wp.seq | apply Wp.block | (apply Run.next; (simp only [push_cast, seval] <;> (try simp (disch := omega) only [wI, wU, wC]) <;> exact rfl); (focus ((try simp only [push_cast, seval]) <;> exact sT))) | ((first | apply Run.nil | apply Wp.skip); dsimp only [sQ, tQ, bQ]) | (apply Wp.run; (dsimp only [List.map] <;> exact rfl); exact rfl) | (apply Wp.exit; dsimp only [sQ, tQ, bQ]; simp only [reduceIte]))
  (apply Run.pureP; (simp only [push_cast, seval] <;> (try simp (disch := omega) only [wI, wU, wC]) <;> exact rfl); (exact (Enters.of Try.func56 rfl rfl)); (exact rwithin_pure _ _ _); (focus (simp only [push_cast, seval] <;> first | trivial | assumption | (refine ⟨?_, ?_⟩ <;> assumption) | (simp; done))); (try dsimp only [putA, optG]))
  repeat (first | apply Wp.seq | apply Wp.block | (apply Run.next; (simp only [push_cast, seval] <;> (try simp (disch := omega) only [wI, wU, wC]) <;> exact rfl); (focus ((try simp only [push_cast, seval]) <;> exact sT))) | ((first | apply Run.nil | apply Wp.skip); dsimp only [sQ, tQ, bQ]) | (apply Wp.run; (dsimp only [List.map] <;> exact rfl); exact rfl) | (apply Wp.exit; dsimp only [sQ, tQ, bQ]; simp only [reduceIte]))
  (apply Wp.cond; (simp only [push_cast, seval] <;> (try simp (disch := omega) only [wI, wU, wC]) <;> exact rfl))
  · intro h1
    have h2 : (decide (cs.length ≤ 6) && decide (ms.length ≤ 6) && wi cake 0 1440) = false := by
      rw [← Bool.not_eq_true]
      intro h2
      simp only [Bool.and_eq_true, decide_eq_true_eq] at h2
      have e1 : decide ((6 : Int) < (cs.length : Int)) = false := decide_eq_false (by omega)
      have e2 : decide ((6 : Int) < (ms.length : Int)) = false := decide_eq_false (by omega)
      rw [e1, e2, h2.2] at h1
      cases h1
    repeat (first | apply Wp.seq | apply Wp.block | (apply Run.next; (simp only [push_cast, seval] <;> (try simp (disch := omega) only [wI, wU, wC]) <;> exact rfl); (focus ((try simp only [push_cast, seval]) <;> exact sT))) | ((first | apply Run.nil | apply Wp.skip); dsimp only [sQ, tQ, bQ]) | (apply Wp.run; (dsimp only [List.map] <;> exact rfl); exact rfl) | (apply Wp.exit; dsimp only [sQ, tQ, bQ]; simp only [reduceIte]))
    (apply Wp.ret; (try dsimp only [sQ, tQ, bQ]); apply leave0; exact rfl; (simp only [push_cast, seval] <;> (try simp (disch := omega) only [wI, wU, wC]) <;> exact rfl); all_goals (try simp only [push_cast, seval]); (try rfl))
    simp [hoB, h2]
  · intro h1
    have h2 : (decide (cs.length ≤ 6) && decide (ms.length ≤ 6) && wi cake 0 1440) = true := by
      simp only [Bool.or_eq_false_iff, decide_eq_false_iff_not, Int.not_lt, Bool.not_eq_false'] at h1
      simp only [Bool.and_eq_true, decide_eq_true_eq]
      exact ⟨⟨by omega, by omega⟩, h1.2⟩
    have h2' := h2
    simp only [Bool.and_eq_true, decide_eq_true_eq] at h2'
    repeat (first | apply Wp.seq | apply Wp.block | (apply Run.next; (simp only [push_cast, seval] <;> (try simp (disch := omega) only [wI, wU, wC]) <;> exact rfl); (focus ((try simp only [push_cast, seval]) <;> exact sT))) | ((first | apply Run.nil | apply Wp.skip); dsimp only [sQ, tQ, bQ]) | (apply Wp.run; (dsimp only [List.map] <;> exact rfl); exact rfl) | (apply Wp.exit; dsimp only [sQ, tQ, bQ]; simp only [reduceIte]))
    (refine Wp.vacs 1 ?_; (try simp only [List.replicate_succ, List.replicate_zero, List.cons_append, List.nil_append]))
    refine Wp.loop (fun (q : Nat × Nat × Kind) => { t := [(1, .optr 0 0 0 0), (3, .int q.1)], m := [⟨0, .row 3 [houA cs ms cake]⟩, ⟨q.2.1, q.2.2⟩], n := 89 }) (fun q => q.1 ≤ cs.length ∧ ∀ j, j < q.1 → chB (cs.getD j ch0) = true) (fun q => cs.length - q.1) (0, 0, .row 1 []) ?_ ?_ ?_
    · (refine Le.of ?_ ?_ rfl rfl <;> (try simp only [push_cast, seval]) <;> (try (with_reducible rfl)))
      all_goals rfl
    · simp
    · rintro ⟨k, v, kd⟩ ⟨hk1, hk2⟩
      simp only at hk1 hk2
      repeat (first | apply Wp.seq | apply Wp.block | (apply Run.calm; exact rfl; (simp only [push_cast, seval] <;> (try simp (disch := omega) only [wI, wU, wC]) <;> exact rfl); (focus ((try simp only [push_cast, seval]) <;> exact sT))) | ((first | apply Run.nil | apply Wp.skip); dsimp only [sQ, tQ, bQ]) | (apply Wp.run; (dsimp only [List.map] <;> exact rfl); exact rfl) | (apply Wp.exit; dsimp only [sQ, tQ, bQ]; simp only [reduceIte]))
      (apply Wp.cond; (simp only [push_cast, seval] <;> (try simp (disch := omega) only [wI, wU, wC]) <;> exact rfl))
      · (intro hc; try simp only [decide_eq_true_eq, decide_eq_false_iff_not, Bool.and_eq_true, Bool.or_eq_true, Bool.not_eq_true, Bool.not_eq_false, Bool.not_eq_true', Bool.not_eq_false', Bool.and_eq_false_iff, Bool.or_eq_false_iff, Int.not_lt, Int.not_le, Int.ofNat_lt, Int.ofNat_le] at hc)
        generalize hx : cs.getD k ch0 = x
        repeat (first | apply Wp.seq | apply Wp.block | (apply Run.calm; exact rfl; (simp only [push_cast, seval, hx] <;> (try simp (disch := omega) only [wI, wU, wC]) <;> exact rfl); (focus ((try simp only [push_cast, seval, hx]) <;> exact sT))) | ((first | apply Run.nil | apply Wp.skip); dsimp only [sQ, tQ, bQ]) | (apply Wp.run; (dsimp only [List.map] <;> exact rfl); exact rfl) | (apply Wp.exit; dsimp only [sQ, tQ, bQ]; simp only [reduceIte]))
        (apply Run.alcAt 1; (simp only [push_cast, seval, hx] <;> (try simp (disch := omega) only [wI, wU, wC]) <;> exact rfl); (focus ((try simp only [push_cast, seval, hx]) <;> exact sT)); exact rfl; (try simp only [push_cast, seval, hx]))
        repeat (first | apply Wp.seq | apply Wp.block | (apply Run.next; (simp only [push_cast, seval, hx] <;> (try simp (disch := omega) only [wI, wU, wC]) <;> exact rfl); (focus ((try simp only [push_cast, seval, hx]) <;> exact sT))) | ((first | apply Run.nil | apply Wp.skip); dsimp only [sQ, tQ, bQ]) | (apply Wp.run; (dsimp only [List.map] <;> exact rfl); exact rfl) | (apply Wp.exit; dsimp only [sQ, tQ, bQ]; simp only [reduceIte]))
        (apply Run.pureP; (simp only [push_cast, seval, hx] <;> (try simp (disch := omega) only [wI, wU, wC]) <;> exact rfl); (exact (Enters.of Try.func56 rfl rfl)); (exact rwithin_pure _ _ _); (focus (simp only [push_cast, seval, hx] <;> first | trivial | assumption | (refine ⟨?_, ?_⟩ <;> assumption) | (simp; done))); (try dsimp only [putA, optG]))
        repeat (first | apply Wp.seq | apply Wp.block | (apply Run.next; (simp only [push_cast, seval, hx] <;> (try simp (disch := omega) only [wI, wU, wC]) <;> exact rfl); (focus ((try simp only [push_cast, seval, hx]) <;> exact sT))) | ((first | apply Run.nil | apply Wp.skip); dsimp only [sQ, tQ, bQ]) | (apply Wp.run; (dsimp only [List.map] <;> exact rfl); exact rfl) | (apply Wp.exit; dsimp only [sQ, tQ, bQ]; simp only [reduceIte]))
        (apply Run.pureP; (simp only [push_cast, seval, hx] <;> (try simp (disch := omega) only [wI, wU, wC]) <;> exact rfl); (exact (Enters.of Try.func56 rfl rfl)); (exact rwithin_pure _ _ _); (focus (simp only [push_cast, seval, hx] <;> first | trivial | assumption | (refine ⟨?_, ?_⟩ <;> assumption) | (simp; done))); (try dsimp only [putA, optG]))
        repeat (first | apply Wp.seq | apply Wp.block | (apply Run.next; (simp only [push_cast, seval, hx] <;> (try simp (disch := omega) only [wI, wU, wC]) <;> exact rfl); (focus ((try simp only [push_cast, seval, hx]) <;> exact sT))) | ((first | apply Run.nil | apply Wp.skip); dsimp only [sQ, tQ, bQ]) | (apply Wp.run; (dsimp only [List.map] <;> exact rfl); exact rfl) | (apply Wp.exit; dsimp only [sQ, tQ, bQ]; simp only [reduceIte]))
        (apply Run.pureP; (simp only [push_cast, seval, hx] <;> (try simp (disch := omega) only [wI, wU, wC]) <;> exact rfl); (exact (Enters.of Try.func56 rfl rfl)); (exact rwithin_pure _ _ _); (focus (simp only [push_cast, seval, hx] <;> first | trivial | assumption | (refine ⟨?_, ?_⟩ <;> assumption) | (simp; done))); (try dsimp only [putA, optG]))
        repeat (first | apply Wp.seq | apply Wp.block | (apply Run.next; (simp only [push_cast, seval, hx] <;> (try simp (disch := omega) only [wI, wU, wC]) <;> exact rfl); (focus ((try simp only [push_cast, seval, hx]) <;> exact sT))) | ((first | apply Run.nil | apply Wp.skip); dsimp only [sQ, tQ, bQ]) | (apply Wp.run; (dsimp only [List.map] <;> exact rfl); exact rfl) | (apply Wp.exit; dsimp only [sQ, tQ, bQ]; simp only [reduceIte]))
        (apply Run.pureP; (simp only [push_cast, seval, hx] <;> (try simp (disch := omega) only [wI, wU, wC]) <;> exact rfl); (exact (Enters.of Try.func56 rfl rfl)); (exact rwithin_pure _ _ _); (focus (simp only [push_cast, seval, hx] <;> first | trivial | assumption | (refine ⟨?_, ?_⟩ <;> assumption) | (simp; done))); (try dsimp only [putA, optG]))
        repeat (first | apply Wp.seq | apply Wp.block | (apply Run.next; (simp only [push_cast, seval, hx] <;> (try simp (disch := omega) only [wI, wU, wC]) <;> exact rfl); (focus ((try simp only [push_cast, seval, hx]) <;> exact sT))) | ((first | apply Run.nil | apply Wp.skip); dsimp only [sQ, tQ, bQ]) | (apply Wp.run; (dsimp only [List.map] <;> exact rfl); exact rfl) | (apply Wp.exit; dsimp only [sQ, tQ, bQ]; simp only [reduceIte]))
        (apply Wp.cond; (simp only [push_cast, seval, hx] <;> (try simp (disch := omega) only [wI, wU, wC]) <;> exact rfl))
        · intro h3
          repeat (first | apply Wp.seq | apply Wp.block | (apply Run.next; (simp only [push_cast, seval, hx] <;> (try simp (disch := omega) only [wI, wU, wC]) <;> exact rfl); (focus ((try simp only [push_cast, seval, hx]) <;> exact sT))) | ((first | apply Run.nil | apply Wp.skip); dsimp only [sQ, tQ, bQ]) | (apply Wp.run; (dsimp only [List.map] <;> exact rfl); exact rfl) | (apply Wp.exit; dsimp only [sQ, tQ, bQ]; simp only [reduceIte]))
          (apply Wp.ret; (try dsimp only [sQ, tQ, bQ]); apply leave0; exact rfl; (simp only [push_cast, seval, hx] <;> (try simp (disch := omega) only [wI, wU, wC]) <;> exact rfl); all_goals (try simp only [push_cast, seval, hx]); (try rfl))
          have h4 : chB (cs.getD k ch0) = false := by
            rw [hx, ← Bool.not_eq_true]
            intro h4
            simp only [chB, Bool.and_eq_true] at h4
            simp [h4] at h3
          rw [if_neg (by rw [hoB, all_noK hc h4]; simp)]
        · intro h3
          have h4 : chB (cs.getD k ch0) = true := by
            rw [hx]
            simpa [chB, and_assoc] using h3
          repeat (first | apply Wp.seq | apply Wp.block | (apply Run.next; (simp only [push_cast, seval, hx] <;> (try simp (disch := omega) only [wI, wU, wC]) <;> exact rfl); (focus ((try simp only [push_cast, seval, hx]) <;> exact sT))) | ((first | apply Run.nil | apply Wp.skip); dsimp only [sQ, tQ, bQ]) | (apply Wp.run; (dsimp only [List.map] <;> exact rfl); exact rfl) | (apply Wp.exit; dsimp only [sQ, tQ, bQ]; simp only [reduceIte]))
          refine ⟨(k + 1, v + 1, .row 4 [chA x]), ?_, ⟨by simp only; omega, fun j hj => ?_⟩, by simp only; omega⟩
          · (refine Le.of ?_ ?_ rfl rfl <;> (try simp only [push_cast, seval, hx]) <;> (try (with_reducible rfl)))
          · simp only at hj
            by_cases hjk : j = k
            · subst hjk; exact h4
            · exact hk2 j (by omega)
      · (intro hc; try simp only [decide_eq_true_eq, decide_eq_false_iff_not, Bool.and_eq_true, Bool.or_eq_true, Bool.not_eq_true, Bool.not_eq_false, Bool.not_eq_true', Bool.not_eq_false', Bool.and_eq_false_iff, Bool.or_eq_false_iff, Int.not_lt, Int.not_le, Int.ofNat_lt, Int.ofNat_le] at hc)
        obtain rfl : k = cs.length := by omega
        repeat (first | apply Wp.seq | apply Wp.block | (apply Run.next; (simp only [push_cast, seval] <;> (try simp (disch := omega) only [wI, wU, wC]) <;> exact rfl); (focus ((try simp only [push_cast, seval]) <;> exact sT))) | ((first | apply Run.nil | apply Wp.skip); dsimp only [sQ, tQ, bQ]) | (apply Wp.run; (dsimp only [List.map] <;> exact rfl); exact rfl) | (apply Wp.exit; dsimp only [sQ, tQ, bQ]; simp only [reduceIte]))
        (refine Wp.vacs 1 ?_; (try simp only [List.replicate_succ, List.replicate_zero, List.cons_append, List.nil_append]))
        refine Wp.loop (fun (q : Nat × Nat × Kind) => { t := [(1, .optr 0 0 0 0), (5, .int q.1)], m := [⟨0, .row 3 [houA cs ms cake]⟩, ⟨v, kd⟩, ⟨q.2.1, q.2.2⟩], n := 89 }) (fun q => q.1 ≤ ms.length ∧ ∀ j, j < q.1 → maB (ms.getD j ma0) = true) (fun q => ms.length - q.1) (0, 0, .row 1 []) ?_ ?_ ?_
        · (refine Le.of ?_ ?_ rfl rfl <;> (try simp only [push_cast, seval]) <;> (try (with_reducible rfl)))
          all_goals rfl
        · simp
        · rintro ⟨i, v2, kd2⟩ ⟨hi1, hi2⟩
          simp only at hi1 hi2
          repeat (first | apply Wp.seq | apply Wp.block | (apply Run.calm; exact rfl; (simp only [push_cast, seval] <;> (try simp (disch := omega) only [wI, wU, wC]) <;> exact rfl); (focus ((try simp only [push_cast, seval]) <;> exact sT))) | ((first | apply Run.nil | apply Wp.skip); dsimp only [sQ, tQ, bQ]) | (apply Wp.run; (dsimp only [List.map] <;> exact rfl); exact rfl) | (apply Wp.exit; dsimp only [sQ, tQ, bQ]; simp only [reduceIte]))
          (apply Wp.cond; (simp only [push_cast, seval] <;> (try simp (disch := omega) only [wI, wU, wC]) <;> exact rfl))
          · intro hci
            simp only [decide_eq_true_eq, Int.ofNat_lt] at hci
            generalize hx : ms.getD i ma0 = x
            repeat (first | apply Wp.seq | apply Wp.block | (apply Run.calm; exact rfl; (simp only [push_cast, seval, hx] <;> (try simp (disch := omega) only [wI, wU, wC]) <;> exact rfl); (focus ((try simp only [push_cast, seval, hx]) <;> exact sT))) | ((first | apply Run.nil | apply Wp.skip); dsimp only [sQ, tQ, bQ]) | (apply Wp.run; (dsimp only [List.map] <;> exact rfl); exact rfl) | (apply Wp.exit; dsimp only [sQ, tQ, bQ]; simp only [reduceIte]))
            (apply Run.alcAt 2; (simp only [push_cast, seval, hx] <;> (try simp (disch := omega) only [wI, wU, wC]) <;> exact rfl); (focus ((try simp only [push_cast, seval, hx]) <;> exact sT)); exact rfl; (try simp only [push_cast, seval, hx]))
            repeat (first | apply Wp.seq | apply Wp.block | (apply Run.next; (simp only [push_cast, seval, hx] <;> (try simp (disch := omega) only [wI, wU, wC]) <;> exact rfl); (focus ((try simp only [push_cast, seval, hx]) <;> exact sT))) | ((first | apply Run.nil | apply Wp.skip); dsimp only [sQ, tQ, bQ]) | (apply Wp.run; (dsimp only [List.map] <;> exact rfl); exact rfl) | (apply Wp.exit; dsimp only [sQ, tQ, bQ]; simp only [reduceIte]))
            (apply Run.pureP; (simp only [push_cast, seval, hx] <;> (try simp (disch := omega) only [wI, wU, wC]) <;> exact rfl); (exact (Enters.of Try.func56 rfl rfl)); (exact rwithin_pure _ _ _); (focus (simp only [push_cast, seval, hx] <;> first | trivial | assumption | (refine ⟨?_, ?_⟩ <;> assumption) | (simp; done))); (try dsimp only [putA, optG]))
            repeat (first | apply Wp.seq | apply Wp.block | (apply Run.next; (simp only [push_cast, seval, hx] <;> (try simp (disch := omega) only [wI, wU, wC]) <;> exact rfl); (focus ((try simp only [push_cast, seval, hx]) <;> exact sT))) | ((first | apply Run.nil | apply Wp.skip); dsimp only [sQ, tQ, bQ]) | (apply Wp.run; (dsimp only [List.map] <;> exact rfl); exact rfl) | (apply Wp.exit; dsimp only [sQ, tQ, bQ]; simp only [reduceIte]))
            (apply Run.pureP; (simp only [push_cast, seval, hx] <;> (try simp (disch := omega) only [wI, wU, wC]) <;> exact rfl); (exact (Enters.of Try.func56 rfl rfl)); (exact rwithin_pure _ _ _); (focus (simp only [push_cast, seval, hx] <;> first | trivial | assumption | (refine ⟨?_, ?_⟩ <;> assumption) | (simp; done))); (try dsimp only [putA, optG]))
            repeat (first | apply Wp.seq | apply Wp.block | (apply Run.next; (simp only [push_cast, seval, hx] <;> (try simp (disch := omega) only [wI, wU, wC]) <;> exact rfl); (focus ((try simp only [push_cast, seval, hx]) <;> exact sT))) | ((first | apply Run.nil | apply Wp.skip); dsimp only [sQ, tQ, bQ]) | (apply Wp.run; (dsimp only [List.map] <;> exact rfl); exact rfl) | (apply Wp.exit; dsimp only [sQ, tQ, bQ]; simp only [reduceIte]))
            (apply Run.pureP; (simp only [push_cast, seval, hx] <;> (try simp (disch := omega) only [wI, wU, wC]) <;> exact rfl); (exact (Enters.of Try.func56 rfl rfl)); (exact rwithin_pure _ _ _); (focus (simp only [push_cast, seval, hx] <;> first | trivial | assumption | (refine ⟨?_, ?_⟩ <;> assumption) | (simp; done))); (try dsimp only [putA, optG]))
            repeat (first | apply Wp.seq | apply Wp.block | (apply Run.next; (simp only [push_cast, seval, hx] <;> (try simp (disch := omega) only [wI, wU, wC]) <;> exact rfl); (focus ((try simp only [push_cast, seval, hx]) <;> exact sT))) | ((first | apply Run.nil | apply Wp.skip); dsimp only [sQ, tQ, bQ]) | (apply Wp.run; (dsimp only [List.map] <;> exact rfl); exact rfl) | (apply Wp.exit; dsimp only [sQ, tQ, bQ]; simp only [reduceIte]))
            (apply Wp.cond; (simp only [push_cast, seval, hx] <;> (try simp (disch := omega) only [wI, wU, wC]) <;> exact rfl))
            · intro h3
              repeat (first | apply Wp.seq | apply Wp.block | (apply Run.next; (simp only [push_cast, seval, hx] <;> (try simp (disch := omega) only [wI, wU, wC]) <;> exact rfl); (focus ((try simp only [push_cast, seval, hx]) <;> exact sT))) | ((first | apply Run.nil | apply Wp.skip); dsimp only [sQ, tQ, bQ]) | (apply Wp.run; (dsimp only [List.map] <;> exact rfl); exact rfl) | (apply Wp.exit; dsimp only [sQ, tQ, bQ]; simp only [reduceIte]))
              (apply Wp.ret; (try dsimp only [sQ, tQ, bQ]); apply leave0; exact rfl; (simp only [push_cast, seval, hx] <;> (try simp (disch := omega) only [wI, wU, wC]) <;> exact rfl); all_goals (try simp only [push_cast, seval, hx]); (try rfl))
              have h4 : maB (ms.getD i ma0) = false := by
                rw [hx, ← Bool.not_eq_true]
                intro h4
                simp only [maB, Bool.and_eq_true] at h4
                simp [h4] at h3
              rw [if_neg (by rw [hoB, all_noK hci h4]; simp)]
            · intro h3
              have h4 : maB (ms.getD i ma0) = true := by
                rw [hx]
                simpa [maB, and_assoc] using h3
              repeat (first | apply Wp.seq | apply Wp.block | (apply Run.next; (simp only [push_cast, seval, hx] <;> (try simp (disch := omega) only [wI, wU, wC]) <;> exact rfl); (focus ((try simp only [push_cast, seval, hx]) <;> exact sT))) | ((first | apply Run.nil | apply Wp.skip); dsimp only [sQ, tQ, bQ]) | (apply Wp.run; (dsimp only [List.map] <;> exact rfl); exact rfl) | (apply Wp.exit; dsimp only [sQ, tQ, bQ]; simp only [reduceIte]))
              refine ⟨(i + 1, v2 + 1, .row 3 [maA x]), ?_, ⟨by simp only; omega, fun j hj => ?_⟩, by simp only; omega⟩
              · (refine Le.of ?_ ?_ rfl rfl <;> (try simp only [push_cast, seval, hx]) <;> (try (with_reducible rfl)))
              · simp only at hj
                by_cases hjk : j = i
                · subst hjk; exact h4
                · exact hi2 j (by omega)
          · intro hci
            simp only [decide_eq_false_iff_not, Int.ofNat_lt] at hci
            obtain rfl : i = ms.length := by omega
            repeat (first | apply Wp.seq | apply Wp.block | (apply Run.next; (simp only [push_cast, seval] <;> (try simp (disch := omega) only [wI, wU, wC]) <;> exact rfl); (focus ((try simp only [push_cast, seval]) <;> exact sT))) | ((first | apply Run.nil | apply Wp.skip); dsimp only [sQ, tQ, bQ]) | (apply Wp.run; (dsimp only [List.map] <;> exact rfl); exact rfl) | (apply Wp.exit; dsimp only [sQ, tQ, bQ]; simp only [reduceIte]))
            (apply Wp.ret; (try dsimp only [sQ, tQ, bQ]); apply leave0; exact rfl; (simp only [push_cast, seval] <;> (try simp (disch := omega) only [wI, wU, wC]) <;> exact rfl); all_goals (try simp only [push_cast, seval]); (try rfl))
            rw [if_pos (by rw [hoB, h2, all_atK hk2, all_atK hi2]; rfl)]
theorem ends_pure {cs : List Ch} {ms : List Ma} {cake : Int} (hv : HV cs ms cake) {b : Bk} (hb : BV cs b) : Pure Try.prog 29 [houA cs ms cake, bkA b] (.tup [.int (endG cs b), .int (endR cs cake b)]) := by
  obtain ⟨b1, b2⟩ := hb
  have h := hv.ch b.ch.toNat (by omega)
  have hck := hv.ck
  unfold endR endG
  generalize hx : cs.getD b.ch.toNat ch0 = x at *
  (refine Spec.of_body Try.func29 rfl (by rw [Try.ntmps29]; simp) 0 (by simp) ?_; rw [Try.results29, Try.ntmps29]; simp only [entry, zipArgs, Nat.reduceAdd])
  repeat (first | apply Wp.seq | apply Wp.block | (apply Run.next; (simp only [push_cast, seval, hx] <;> (try simp (disch := omega) only [wI, wU, wC]) <;> exact rfl); (focus ((try simp only [push_cast, seval, hx]) <;> exact sT))) | ((first | apply Run.nil | apply Wp.skip); dsimp only [sQ, tQ, bQ]) | (apply Wp.run; (dsimp only [List.map] <;> exact rfl); exact rfl) | (apply Wp.exit; dsimp only [sQ, tQ, bQ]; simp only [reduceIte]))
  (apply Wp.cond; (simp only [push_cast, seval, hx] <;> (try simp (disch := omega) only [wI, wU, wC]) <;> exact rfl))
  · intro hb1
    rw [if_pos hb1]
    repeat (first | apply Wp.seq | apply Wp.block | (apply Run.next; (simp only [push_cast, seval, hx] <;> (try simp (disch := omega) only [wI, wU, wC]) <;> exact rfl); (focus ((try simp only [push_cast, seval, hx]) <;> exact sT))) | ((first | apply Run.nil | apply Wp.skip); dsimp only [sQ, tQ, bQ]) | (apply Wp.run; (dsimp only [List.map] <;> exact rfl); exact rfl) | (apply Wp.exit; dsimp only [sQ, tQ, bQ]; simp only [reduceIte]))
    (apply Wp.ret; (try dsimp only [sQ, tQ, bQ]); apply leave0; exact rfl; (simp only [push_cast, seval, hx] <;> (try simp (disch := omega) only [wI, wU, wC]) <;> exact rfl); all_goals (try simp only [push_cast, seval, hx]); (try rfl))
  · intro hb1
    rw [if_neg (by rw [hb1]; simp), Int.add_zero]
    repeat (first | apply Wp.seq | apply Wp.block | (apply Run.next; (simp only [push_cast, seval, hx] <;> (try simp (disch := omega) only [wI, wU, wC]) <;> exact rfl); (focus ((try simp only [push_cast, seval, hx]) <;> exact sT))) | ((first | apply Run.nil | apply Wp.skip); dsimp only [sQ, tQ, bQ]) | (apply Wp.run; (dsimp only [List.map] <;> exact rfl); exact rfl) | (apply Wp.exit; dsimp only [sQ, tQ, bQ]; simp only [reduceIte]))
    (apply Wp.ret; (try dsimp only [sQ, tQ, bQ]); apply leave0; exact rfl; (simp only [push_cast, seval, hx] <;> (try simp (disch := omega) only [wI, wU, wC]) <;> exact rfl); all_goals (try simp only [push_cast, seval, hx]); (try rfl))
theorem isBk_pure {cs : List Ch} {ms : List Ma} {cake : Int} (hv : HV cs ms cake) (b : Bk) : Pure Try.prog 53 [houA cs ms cake, bkA b] (.bool (bkB cs cake b)) := by
  have hc6 := hv.c6
  (refine Spec.of_body Try.func53 rfl (by rw [Try.ntmps53]; simp) 0 (by simp) ?_; rw [Try.results53, Try.ntmps53]; simp only [entry, zipArgs, Nat.reduceAdd])
  repeat (first | apply Wp.seq | apply Wp.block | (apply Run.next; (simp only [push_cast, seval] <;> (try simp (disch := omega) only [wI, wU, wC]) <;> exact rfl); (focus ((try simp only [push_cast, seval]) <;> exact sT))) | ((first | apply Run.nil | apply Wp.skip); dsimp only [sQ, tQ, bQ]) | (apply Wp.run; (dsimp only [List.map] <;> exact rfl); exact rfl) | (apply Wp.exit; dsimp only [sQ, tQ, bQ]; simp only [reduceIte]))
  (apply Run.pureP; (simp only [push_cast, seval] <;> (try simp (disch := omega) only [wI, wU, wC]) <;> exact rfl); (exact (Enters.of Try.func56 rfl rfl)); (exact rwithin_pure _ _ _); (focus (simp only [push_cast, seval] <;> first | trivial | assumption | (refine ⟨?_, ?_⟩ <;> assumption) | (simp; done))); (try dsimp only [putA, optG]))
  repeat (first | apply Wp.seq | apply Wp.block | (apply Run.next; (simp only [push_cast, seval] <;> (try simp (disch := omega) only [wI, wU, wC]) <;> exact rfl); (focus ((try simp only [push_cast, seval]) <;> exact sT))) | ((first | apply Run.nil | apply Wp.skip); dsimp only [sQ, tQ, bQ]) | (apply Wp.run; (dsimp only [List.map] <;> exact rfl); exact rfl) | (apply Wp.exit; dsimp only [sQ, tQ, bQ]; simp only [reduceIte]))
  (apply Run.pureP; (simp only [push_cast, seval] <;> (try simp (disch := omega) only [wI, wU, wC]) <;> exact rfl); (exact (Enters.of Try.func56 rfl rfl)); (exact rwithin_pure _ _ _); (focus (simp only [push_cast, seval] <;> first | trivial | assumption | (refine ⟨?_, ?_⟩ <;> assumption) | (simp; done))); (try dsimp only [putA, optG]))
  repeat (first | apply Wp.seq | apply Wp.block | (apply Run.next; (simp only [push_cast, seval] <;> (try simp (disch := omega) only [wI, wU, wC]) <;> exact rfl); (focus ((try simp only [push_cast, seval]) <;> exact sT))) | ((first | apply Run.nil | apply Wp.skip); dsimp only [sQ, tQ, bQ]) | (apply Wp.run; (dsimp only [List.map] <;> exact rfl); exact rfl) | (apply Wp.exit; dsimp only [sQ, tQ, bQ]; simp only [reduceIte]))
  (apply Wp.cond; (simp only [push_cast, seval] <;> (try simp (disch := omega) only [wI, wU, wC]) <;> exact rfl))
  · intro h1
    have h2 : bkB cs cake b = false := by
      rw [← Bool.not_eq_true]
      intro h2
      simp only [bkB, Bool.and_eq_true] at h2
      simp [h2] at h1
    repeat (first | apply Wp.seq | apply Wp.block | (apply Run.next; (simp only [push_cast, seval] <;> (try simp (disch := omega) only [wI, wU, wC]) <;> exact rfl); (focus ((try simp only [push_cast, seval]) <;> exact sT))) | ((first | apply Run.nil | apply Wp.skip); dsimp only [sQ, tQ, bQ]) | (apply Wp.run; (dsimp only [List.map] <;> exact rfl); exact rfl) | (apply Wp.exit; dsimp only [sQ, tQ, bQ]; simp only [reduceIte]))
    (apply Wp.ret; (try dsimp only [sQ, tQ, bQ]); apply leave0; exact rfl; (simp only [push_cast, seval] <;> (try simp (disch := omega) only [wI, wU, wC]) <;> exact rfl); all_goals (try simp only [push_cast, seval]); (try rfl))
    rw [h2]
  · intro h1
    have h2 : (wi b.ch 0 ((cs.length : Int) - 1) && wi b.st 0 1440) = true := by simpa using h1
    have h3 := h2
    simp only [Bool.and_eq_true, wi_iff] at h3
    have hn := ends_pure hv (b := b) ⟨by omega, by omega⟩
    have e : bkB cs cake b = ((decide (endR cs cake b ≤ 1440) && wi b.size (cs.getD b.ch.toNat ch0).least (cs.getD b.ch.toNat ch0).most) && wi b.tongue 0 7) := by
      unfold bkB
      rw [h2, Bool.true_and]
      generalize wi b.tongue 0 7 = p1
      generalize wi b.size _ _ = p2
      generalize decide (endR cs cake b ≤ 1440) = p3
      cases p1 <;> cases p2 <;> cases p3 <;> rfl
    rw [e]
    generalize hx : cs.getD b.ch.toNat ch0 = x
    repeat (first | apply Wp.seq | apply Wp.block | (apply Run.next; (simp only [push_cast, seval, hx] <;> (try simp (disch := omega) only [wI, wU, wC]) <;> exact rfl); (focus ((try simp only [push_cast, seval, hx]) <;> exact sT))) | ((first | apply Run.nil | apply Wp.skip); dsimp only [sQ, tQ, bQ]) | (apply Wp.run; (dsimp only [List.map] <;> exact rfl); exact rfl) | (apply Wp.exit; dsimp only [sQ, tQ, bQ]; simp only [reduceIte]))
    (apply Run.pureP; (simp only [push_cast, seval, hx] <;> (try simp (disch := omega) only [wI, wU, wC]) <;> exact rfl); (exact (Enters.of Try.func29 rfl rfl)); (exact hn); (focus (simp only [push_cast, seval, hx] <;> first | trivial | assumption | (refine ⟨?_, ?_⟩ <;> assumption) | (simp; done))); (try dsimp only [putA, optG]))
    repeat (first | apply Wp.seq | apply Wp.block | (apply Run.next; (simp only [push_cast, seval, hx] <;> (try simp (disch := omega) only [wI, wU, wC]) <;> exact rfl); (focus ((try simp only [push_cast, seval, hx]) <;> exact sT))) | ((first | apply Run.nil | apply Wp.skip); dsimp only [sQ, tQ, bQ]) | (apply Wp.run; (dsimp only [List.map] <;> exact rfl); exact rfl) | (apply Wp.exit; dsimp only [sQ, tQ, bQ]; simp only [reduceIte]))
    (apply Run.pureP; (simp only [push_cast, seval, hx] <;> (try simp (disch := omega) only [wI, wU, wC]) <;> exact rfl); (exact (Enters.of Try.func56 rfl rfl)); (exact rwithin_pure _ _ _); (focus (simp only [push_cast, seval, hx] <;> first | trivial | assumption | (refine ⟨?_, ?_⟩ <;> assumption) | (simp; done))); (try dsimp only [putA, optG]))
    repeat (first | apply Wp.seq | apply Wp.block | (apply Run.next; (simp only [push_cast, seval, hx] <;> (try simp (disch := omega) only [wI, wU, wC]) <;> exact rfl); (focus ((try simp only [push_cast, seval, hx]) <;> exact sT))) | ((first | apply Run.nil | apply Wp.skip); dsimp only [sQ, tQ, bQ]) | (apply Wp.run; (dsimp only [List.map] <;> exact rfl); exact rfl) | (apply Wp.exit; dsimp only [sQ, tQ, bQ]; simp only [reduceIte]))
    (apply Run.pureP; (simp only [push_cast, seval, hx] <;> (try simp (disch := omega) only [wI, wU, wC]) <;> exact rfl); (exact (Enters.of Try.func56 rfl rfl)); (exact rwithin_pure _ _ _); (focus (simp only [push_cast, seval, hx] <;> first | trivial | assumption | (refine ⟨?_, ?_⟩ <;> assumption) | (simp; done))); (try dsimp only [putA, optG]))
    repeat (first | apply Wp.seq | apply Wp.block | (apply Run.next; (simp only [push_cast, seval, hx] <;> (try simp (disch := omega) only [wI, wU, wC]) <;> exact rfl); (focus ((try simp only [push_cast, seval, hx]) <;> exact sT))) | ((first | apply Run.nil | apply Wp.skip); dsimp only [sQ, tQ, bQ]) | (apply Wp.run; (dsimp only [List.map] <;> exact rfl); exact rfl) | (apply Wp.exit; dsimp only [sQ, tQ, bQ]; simp only [reduceIte]))
    (apply Wp.ret; (try dsimp only [sQ, tQ, bQ]); apply leave0; exact rfl; (simp only [push_cast, seval, hx] <;> (try simp (disch := omega) only [wI, wU, wC]) <;> exact rfl); all_goals (try simp only [push_cast, seval, hx]); (try rfl))
end Go.Proofs.Try
set_option maxHeartbeats 8000000
set_option maxRecDepth 20000
namespace Go.Proofs.Try
open Go.Vg

/-! who can lead a booking -/
theorem endG_bd2 {cs : List Ch} {ms : List Ma} {cake : Int} (hv : HV cs ms cake) {b : Bk} (hb : BV cs b) : b.st + 1 ≤ endG cs b ∧ endG cs b ≤ 2880 := by
  obtain ⟨b1, b2⟩ := hb
  have h := hv.ch b.ch.toNat (by omega)
  unfold endG; omega
def tgB (t k : Int) : Bool := decide (IntKind.i64.wrap ((BitVec.ofInt IntKind.i64.bits (t.fdiv (2 ^ (min k.toNat IntKind.i64.bits))) &&& BitVec.ofInt IntKind.i64.bits 1).toNat) = 1)
def ldB (cs : List Ch) (ms : List Ma) (m : Nat) (b : Bk) : Bool := tgB (ms.getD m ma0).tong b.tongue && (decide ((ms.getD m ma0).fr ≤ b.st) && decide (endG cs b ≤ (ms.getD m ma0).to))
theorem leads_pure {cs : List Ch} {ms : List Ma} {cake : Int} (hv : HV cs ms cake) (m : Int) (hm : 0 ≤ m ∧ m < ms.length) {b : Bk} (hb : BV cs b) (ht : 0 ≤ b.tongue ∧ b.tongue ≤ 7) : Pure Try.prog 66 [houA cs ms cake, .int m, bkA b] (.bool (ldB cs ms m.toNat b)) := by
  have hp := plays_pure (ms := ms) hv hb
  unfold ldB
  generalize endG cs b = eg at hp
  generalize hx : ms.getD m.toNat ma0 = x
  (refine Spec.of_body Try.func66 rfl (by rw [Try.ntmps66]; simp) 0 (by simp) ?_; rw [Try.results66, Try.ntmps66]; simp only [entry, zipArgs, Nat.reduceAdd])
  repeat (first | apply Wp.seq | apply Wp.block | (apply Run.next; (simp only [push_cast, seval, hx] <;> (try simp (disch := omega) only [wI, wU, wC]) <;> exact rfl); (focus ((try simp only [push_cast, seval, hx]) <;> exact sT))) | ((first | apply Run.nil | apply Wp.skip); dsimp only [sQ, tQ, bQ]) | (apply Wp.run; (dsimp only [List.map] <;> exact rfl); exact rfl) | (apply Wp.exit; dsimp only [sQ, tQ, bQ]; simp only [reduceIte]))
  (apply Run.pureP; (simp only [push_cast, seval, hx] <;> (try simp (disch := omega) only [wI, wU, wC]) <;> exact rfl); (exact (Enters.of Try.func67 rfl rfl)); (exact hp); (focus (simp only [push_cast, seval, hx] <;> first | trivial | assumption | (refine ⟨?_, ?_⟩ <;> assumption) | (simp; done))); (try dsimp only [putA, optG]))
  repeat (first | apply Wp.seq | apply Wp.block | (apply Run.next; (simp only [push_cast, seval, hx] <;> (try simp (disch := omega) only [wI, wU, wC]) <;> exact rfl); (focus ((try simp only [push_cast, seval, hx]) <;> exact sT))) | ((first | apply Run.nil | apply Wp.skip); dsimp only [sQ, tQ, bQ]) | (apply Wp.run; (dsimp only [List.map] <;> exact rfl); exact rfl) | (apply Wp.exit; dsimp only [sQ, tQ, bQ]; simp only [reduceIte]))
  (apply Wp.ret; (try dsimp only [sQ, tQ, bQ]); apply leave0; exact rfl; (simp only [push_cast, seval, hx] <;> (try simp (disch := omega) only [wI, wU, wC]) <;> exact rfl); all_goals (try simp only [push_cast, seval, hx]); (try rfl))
  unfold tgB; rw [Bool.and_assoc]
def togB (cs : List Ch) (a b : Bk) : Bool := decide (a.st < endG cs b) && decide (b.st < endG cs a)
end Go.Proofs.Try
set_option maxHeartbeats 8000000
set_option maxRecDepth 20000
namespace Go.Proofs.Try
open Go.Vg

/-! the keys of the maps -/
theorem c116 : Try.prog.cellsOf 116 = 6 := by kernel_rfl
theorem c3 : Try.prog.cellsOf 3 = 1 := by kernel_rfl
theorem kt116 : Try.prog.keyType 116 = true := by kernel_rfl
theorem klit (d : Nat) (a : Int) (h : (Lit.int .i64 a).wf = true) : Try.prog.keyLits (d + 1) 3 [.int .i64 a] = some [.int .i64 a] := by
  simp [Program.keyLits, Try.underlying3, h]
theorem klits (d : Nat) (a0 a1 a2 a3 a4 a5 : Int) (h0 : (Lit.int .i64 a0).wf = true) (h1 : (Lit.int .i64 a1).wf = true) (h2 : (Lit.int .i64 a2).wf = true) (h3 : (Lit.int .i64 a3).wf = true) (h4 : (Lit.int .i64 a4).wf = true) (h5 : (Lit.int .i64 a5).wf = true) :
    (Try.prog.keyLits (d + 2) 116 [.int .i64 a0, .int .i64 a1, .int .i64 a2, .int .i64 a3, .int .i64 a4, .int .i64 a5]).isSome = true := by
  unfold Program.keyLits
  simp only [Try.underlying116, c116, c3]
  simp [klit, h0, h1, h2, h3, h4, h5, List.range, List.range.loop]
theorem goodB (a0 a1 a2 a3 a4 a5 : Int) (h0 : (Lit.int .i64 a0).wf = true) (h1 : (Lit.int .i64 a1).wf = true) (h2 : (Lit.int .i64 a2).wf = true) (h3 : (Lit.int .i64 a3).wf = true) (h4 : (Lit.int .i64 a4).wf = true) (h5 : (Lit.int .i64 a5).wf = true) :
    goodK Try.prog 116 (.agg #[.int .i64 a0, .int .i64 a1, .int .i64 a2, .int .i64 a3, .int .i64 a4, .int .i64 a5]) = true := by
  have hts : Nat.ble 1 Try.prog.types.size = true := by kernel_rfl
  have hts' := Nat.le_of_ble_eq_true hts
  obtain ⟨d, hd⟩ : ∃ d, Try.prog.types.size + 1 = d + 2 := ⟨Try.prog.types.size - 1, by omega⟩
  have hk := klits d a0 a1 a2 a3 a4 a5 h0 h1 h2 h3 h4 h5
  have hf : (Value.agg #[.int .i64 a0, .int .i64 a1, .int .i64 a2, .int .i64 a3, .int .i64 a4, .int .i64 a5]).formed Try.prog 116 = true := by
    simp [Value.formed, Try.underlying116, c116]
  unfold goodK keyOf
  simp only [Try.underlying116, kt116, hf, hd, Value.cells]
  simpa using hk
theorem keyedB : Maps.Keyed Try.prog 116 := kdB_ok (by kernel_rfl)
abbrev kyV (b : List Int) : Value := .agg (b.map (Value.int .i64)).toArray
structure BB (b : List Int) : Prop where
  len : b.length = 6
  bd : ∀ t ∈ b, 0 ≤ t ∧ t ≤ 2880
theorem goodBB {b : List Int} (h : BB b) : goodK Try.prog 116 (kyV b) = true := by
  obtain ⟨hl, hb⟩ := h
  match b, hl with
  | [a0, a1, a2, a3, a4, a5], _ =>
    have w : ∀ a, (0 ≤ a ∧ a ≤ 2880) → (Lit.int .i64 a).wf = true := fun a ha => by
      simp [Lit.wf, IntKind.min, IntKind.max, IntKind.signed, IntKind.bits]; omega
    exact goodB a0 a1 a2 a3 a4 a5 (w _ (hb _ (by simp))) (w _ (hb _ (by simp))) (w _ (hb _ (by simp))) (w _ (hb _ (by simp))) (w _ (hb _ (by simp))) (w _ (hb _ (by simp)))
theorem eqVs_ints : ∀ (a b : List Int), eqVs (a.map (Value.int .i64)) (b.map (Value.int .i64)) = decide (a = b)
  | [], [] => by simp [eqVs]
  | [], _ :: _ => by simp [eqVs]
  | _ :: _, [] => by simp [eqVs]
  | x :: a, y :: b => by
    simp only [List.map_cons, eqVs, eqV1, eqIn_eq]
    by_cases h : x = y
    · subst h; simp [eqVs_ints a b]
    · simp [h]
theorem eqKey_B (a b : List Int) : eqKey (kyV a) (kyV b) = decide (a = b) := by simp [eqKey, eqVs_ints]
theorem keyVs_ints (b : List Int) : keyVs (b.map AV.int) = some (b.map (Value.int .i64)) := by
  induction b with
  | nil => rfl
  | cons a b ih => simp only [List.map_cons, keyVs, ih]
theorem findL_upd (l : List (Value × AV)) (a b : List Int) (x : AV) : findL (updL l (kyV a) x) (kyV b) = if a = b then some x else findL l (kyV b) := by
  induction l with
  | nil => simp only [updL, findL, eqKey_B]; by_cases h : a = b <;> simp [h]
  | cons e l ih =>
    obtain ⟨k, y⟩ := e
    simp only [updL]
    cases hk : eqKey k (kyV a) with
    | true =>
      have := eqKey_ok hk
      subst this
      simp only [findL, eqKey_B]
      by_cases h : a = b <;> simp [h]
    | false =>
      simp only [findL]
      cases hk2 : eqKey k (kyV b) with
      | true =>
        have := eqKey_ok hk2
        subst this
        rw [eqKey_B] at hk
        simp only [decide_eq_false_iff_not] at hk
        rw [if_neg (fun h => hk h.symm)]
      | false => exact ih
theorem goodL_upd {b : List Int} (hb : BB b) (x : AV) : ∀ (l : List (Value × AV)), goodL Try.prog 116 l = true → goodL Try.prog 116 (updL l (kyV b) x) = true
  | [], _ => by simp only [updL, goodL, goodBB hb]
  | (k, y) :: l, h => by
    simp only [goodL] at h
    cases hg : goodK Try.prog 116 k with
    | false => rw [hg] at h; cases h
    | true =>
      rw [hg] at h
      simp only [updL]
      split
      · simp only [goodL, hg]; exact h
      · simp only [goodL, hg]; exact goodL_upd hb x l h
/-! what the search computes -/
def c1 (s t : Int) : Int := if t ≤ s then 0 else t
def clr (s : Int) (b : List Int) : List Int := b.map (c1 s)
theorem c1_c1 (s t : Int) : c1 s (c1 s t) = c1 s t := by unfold c1; repeat' split
                                                         all_goals omega
theorem clr_clr (s : Int) (b : List Int) : clr s (clr s b) = clr s b := by
  unfold clr; rw [List.map_map]; congr 1; funext t; exact c1_c1 s t
theorem clr_BB {s : Int} {b : List Int} (h : BB b) : BB (clr s b) := by
  refine ⟨by simp [clr, h.len], fun t ht => ?_⟩
  unfold clr at ht
  obtain ⟨u, hu, rfl⟩ := List.mem_map.1 ht
  have := h.bd u hu
  unfold c1; split <;> omega
theorem set_BB {b : List Int} (h : BB b) (m : Nat) {z : Int} (hz : 0 ≤ z ∧ z ≤ 2880) : BB (b.set m z) := by
  refine ⟨by simp [h.len], fun t ht => ?_⟩
  rcases List.mem_or_eq_of_mem_set ht with h1 | h1
  · exact h.bd t h1
  · omega
def mixG (f : Int → Int) (S : List Int) (k : Nat) : List Int := (S.take k).map f ++ S.drop k
theorem mixG_len (f : Int → Int) (S : List Int) (k : Nat) : (mixG f S k).length = S.length := by simp [mixG]; omega
theorem mixG_succ (f : Int → Int) (S : List Int) (k : Nat) (hk : k < S.length) : (mixG f S k).set k (f (S.getD k 0)) = mixG f S (k + 1) := by
  have hl : ((S.take k).map f).length = k := by simp; omega
  have e1 : S.take (k + 1) = S.take k ++ [S.getD k 0] := by rw [List.take_add_one]; simp [hk]
  have e2 : S.drop k = S.getD k 0 :: S.drop (k + 1) := by rw [List.drop_eq_getElem_cons hk]; simp [hk]
  unfold mixG
  rw [List.set_append_right _ _ (by omega), hl, Nat.sub_self, e1, e2]
  simp
theorem mixG_same (f : Int → Int) (S : List Int) (k : Nat) (hk : k < S.length) (h : f (S.getD k 0) = S.getD k 0) : mixG f S (k + 1) = mixG f S k := by
  have e1 : S.take (k + 1) = S.take k ++ [S.getD k 0] := by rw [List.take_add_one]; simp [hk]
  have e2 : S.drop k = S.getD k 0 :: S.drop (k + 1) := by rw [List.drop_eq_getElem_cons hk]; simp [hk]
  unfold mixG
  rw [e1, e2]; simp only [List.map_append, List.map_cons, List.map_nil, h, List.append_assoc, List.cons_append, List.nil_append]
theorem mixG_all (f : Int → Int) (S : List Int) (k : Nat) (h : k = S.length) : mixG f S k = S.map f := by subst h; simp [mixG]
theorem set_mid (C : List Int) (k : Nat) (z : Int) (h : k < C.length) : C.take k ++ [z] ++ C.drop (k + 1) = C.set k z := by
  rw [List.set_eq_take_append_cons_drop, if_pos h]; simp
def okS (cs : List Ch) (ms : List Ma) (ls : List Bk) (stf : List Int) (x m : Nat) (b : List Int) : Bool := !((decide (0 ≤ stf.getD x 0) && !decide (stf.getD x 0 = (m : Int))) || decide (0 < b.getD m 0) || !ldB cs ms m (ls.getD x bk0))
def rF (cs : List Ch) (ms : List Ma) (ls : List Bk) (stf : List Int) : List Nat → List Int → Bool
  | [], _ => true
  | x :: xs, b => (List.range ms.length).any fun m => okS cs ms ls stf x m (clr (ls.getD x bk0).st b) && rF cs ms ls stf xs ((clr (ls.getD x bk0).st b).set m (endG cs (ls.getD x bk0)))
theorem rF_clr (cs : List Ch) (ms : List Ma) (ls : List Bk) (stf : List Int) (x : Nat) (xs : List Nat) (b : List Int) : rF cs ms ls stf (x :: xs) (clr (ls.getD x bk0).st b) = rF cs ms ls stf (x :: xs) b := by
  simp only [rF, clr_clr]
/-- what stands in a map is right -/
structure MO (cs : List Ch) (ms : List Ma) (ls : List Bk) (stf : List Int) (ys : List Nat) (L : List (Value × AV)) : Prop where
  good : goodL Try.prog 116 L = true
  val : ∀ b v, findL L (kyV b) = some v → (v = .int 1 ∧ rF cs ms ls stf ys b = true) ∨ (v = .int 2 ∧ rF cs ms ls stf ys b = false)
end Go.Proofs.Try
set_option maxHeartbeats 8000000
set_option maxRecDepth 20000
namespace Go.Proofs.Try
open Go.Vg

/-! numbers are sorted by a key, in own memory -/
def SortK (ky : Int → Int) (L : List Int) : Prop := L.Pairwise fun a b => ky a ≤ ky b
def insL (S : List Int) (j : Nat) (x : Int) (R : List Int) : List Int := S.take j ++ x :: (S.drop j ++ R)
theorem insL_len (S : List Int) (j : Nat) (x : Int) (R : List Int) (h : j ≤ S.length) : (insL S j x R).length = S.length + 1 + R.length := by
  simp [insL]; omega
theorem insL_at (S : List Int) (j : Nat) (x : Int) (R : List Int) (h : j ≤ S.length) : (insL S j x R).getD j 0 = x := by
  have hl : (S.take j).length = j := by simp; omega
  simp only [insL, List.getD_eq_getElem?_getD]
  rw [List.getElem?_append_right (by omega), hl]; simp
theorem insL_lo (S : List Int) (j : Nat) (x : Int) (R : List Int) (h : j < S.length) : (insL S (j + 1) x R).getD j 0 = S.getD j 0 := by
  simp only [insL, List.getD_eq_getElem?_getD]
  rw [List.getElem?_append_left (by simp; omega)]; simp
theorem insL_swap (S : List Int) (j : Nat) (x : Int) (R : List Int) (h : j < S.length) : ((insL S (j + 1) x R).set (j + 1) (S.getD j 0)).set j x = insL S j x R := by
  have hl : (S.take j).length = j := by simp; omega
  have e1 : S.take (j + 1) = S.take j ++ [S.getD j 0] := by rw [List.take_add_one]; simp [h]
  have e2 : S.drop j = S.getD j 0 :: S.drop (j + 1) := by rw [List.drop_eq_getElem_cons h]; simp [h]
  unfold insL
  rw [e1, e2, List.append_assoc, List.set_append_right _ _ (by omega), hl, show j + 1 - j = 1 by omega]
  simp only [List.cons_append, List.nil_append, List.set_cons_succ, List.set_cons_zero]
  rw [List.set_append_right _ _ (by omega), hl, Nat.sub_self]
  rfl
theorem insL_top (D : List Int) (S : List Int) (i : Nat) (h : i < D.length) (hs : S.length = i) : S ++ D.drop i = insL S i (D.getD i 0) (D.drop (i + 1)) := by
  unfold insL
  rw [List.take_of_length_le (by omega), List.drop_of_length_le (by omega : S.length ≤ i), List.drop_eq_getElem_cons h]
  simp [h]
theorem SortK.ins {ky : Int → Int} {S : List Int} (h : SortK ky S) {j : Nat} {x : Int} (h1 : ∀ b ∈ S.drop j, ky x < ky b) (h2 : ∀ b ∈ S.take j, ky b ≤ ky x) : SortK ky (S.take j ++ x :: S.drop j) := by
  unfold SortK at *
  have hs : (S.take j ++ S.drop j).Pairwise fun a b => ky a ≤ ky b := by rw [List.take_append_drop]; exact h
  rw [List.pairwise_append] at hs ⊢
  refine ⟨hs.1, List.pairwise_cons.2 ⟨fun b hb => by have := h1 b hb; omega, hs.2.1⟩, fun a ha b hb => ?_⟩
  rcases List.mem_cons.1 hb with rfl | hb
  · exact h2 a ha
  · exact hs.2.2 a ha b hb
theorem SortK.below {ky : Int → Int} {S : List Int} (h : SortK ky S) {j : Nat} (hj : j < S.length) : ∀ b ∈ S.take (j + 1), ky b ≤ ky (S.getD j 0) := by
  intro b hb
  unfold SortK at h
  obtain ⟨k, hk, rfl⟩ := List.getElem_of_mem hb
  simp only [List.length_take] at hk
  have e1 : S.getD j 0 = S[j] := by simp [hj]
  rw [List.getElem_take, e1]
  by_cases hkj : k = j
  · subst hkj; exact Int.le_refl _
  · exact List.pairwise_iff_getElem.1 h k j (by omega) hj (by omega)
structure SL (ky : Int → Int) (D : List Int) (i : Nat) (L : List Int) : Prop where
  ex : ∃ S, L = S ++ D.drop i ∧ S.length = i ∧ S.Perm (D.take i) ∧ SortK ky S
theorem memD {D : List Int} {k : Nat} (h : k < D.length) : D.getD k 0 ∈ D := by simp [h]
theorem insort_spec {m : Mem} {e ver : Nat} {g : FuncId} {caps caps' : List AV} {ky : Int → Int} (hg : Enters Try.prog g) (D : List Int) (he : e < m.length) (hv : ∀ x, VwL (m.set e ⟨ver, .row 1 x⟩) caps caps') (hk0 : okL 0 caps')
    (hp : ∀ a ∈ D, ∀ b ∈ D, Pure Try.prog g (.int a :: .int b :: caps') (.int (ky a - ky b))) (h20 : D.length ≤ 1000) (j0 : Int) (hj0 : j0 = 0 ∨ j0 = (D.length : Int)) :
    Go.Vg.Spec Try.prog 105 [.osl e ver 0 D.length, .int j0, .int D.length, .clo g caps] (m.set e ⟨ver, .row 1 (D.map AV.int)⟩) (fun _ m' => ∃ L, L.length = D.length ∧ L.Perm D ∧ (j0 = 0 → SortK ky L) ∧ (j0 ≠ 0 → L = D) ∧ m' = m.set e ⟨ver, .row 1 (L.map AV.int)⟩) := by
  have hss : ∀ x y : Ent, (m.set e x).set e y = m.set e y := fun x y => List.set_set _
  have hge : ∀ x : Ent, (m.set e x)[e]? = some x := fun x => by simp [he]
  by_cases hA : j0 = (D.length : Int)
  · subst hA
    (refine Spec.of_bodyA Try.func105 rfl (by rw [Try.ntmps105]; simp) ?_; rw [Try.results105, Try.ntmps105]; simp only [entry, zipArgs, Nat.reduceAdd])
    repeat (first | apply Wp.seq | apply Wp.block | (apply Run.next; (simp only [push_cast, seval, hss, hge] <;> (try simp (disch := omega) only [wI, wU, wC]) <;> exact rfl); (focus ((try simp only [push_cast, seval, hss, hge]) <;> exact sT))) | ((first | apply Run.nil | apply Wp.skip); dsimp only [sQ, tQ, bQ]) | (apply Wp.run; (dsimp only [List.map] <;> exact rfl); exact rfl) | (apply Wp.exit; dsimp only [sQ, tQ, bQ]; simp only [reduceIte]))
    refine Wp.loop (fun (_ : Nat) => { t := [(2, .int D.length), (8, .int (D.length + 1))], m := m.set e ⟨ver, .row 1 (D.map AV.int)⟩, n := 53 }) (fun _ => True) (fun _ => 0) 0 ?_ ?_ ?_
    · (refine Le.of ?_ ?_ rfl rfl <;> (try simp only [push_cast, seval, hss, hge]) <;> (try (with_reducible rfl)))
    · trivial
    · intro _ _
      have hno : decide ((D.length : Int) + 1 < D.length) = false := decide_eq_false (by omega)
      repeat (first | apply Wp.seq | apply Wp.block | (apply Run.next; (simp only [push_cast, seval, hss, hge, hno] <;> (try simp (disch := omega) only [wI, wU, wC]) <;> exact rfl); (focus ((try simp only [push_cast, seval, hss, hge, hno]) <;> exact sT))) | ((first | apply Run.nil | apply Wp.skip); dsimp only [sQ, tQ, bQ]) | (apply Wp.run; (dsimp only [List.map] <;> exact rfl); exact rfl) | (apply Wp.exit; dsimp only [sQ, tQ, bQ]; simp only [reduceIte]) | (apply Run.gtrue; (simp only [push_cast, seval, hss, hge, hno] <;> (try simp (disch := omega) only [wI, wU, wC]) <;> exact rfl); (simp only [push_cast, seval, hss, hge, hno] <;> (try simp (disch := omega) only [wI, wU, wC]) <;> exact rfl)) | (apply Run.gfalse (.bool false); (simp only [push_cast, seval, hss, hge, hno] <;> (try simp (disch := omega) only [wI, wU, wC]) <;> exact rfl); dsimp only [S.put, optG]) | (apply Wp.condT; (simp only [push_cast, seval, hss, hge, hno] <;> (try simp (disch := omega) only [wI, wU, wC]) <;> exact rfl)) | (apply Wp.condF; (simp only [push_cast, seval, hss, hge, hno] <;> (try simp (disch := omega) only [wI, wU, wC]) <;> exact rfl)))
      (apply leaveAN; exact rfl; (simp only [push_cast, seval, hss, hge, hno] <;> (try simp (disch := omega) only [wI, wU, wC]) <;> exact rfl); (focus (first | (simp only [push_cast, seval, hss, hge, hno]; done) | trivial | (simp only [push_cast, seval, hss, hge, hno]; trivial) | (simp; done))); (try simp only [push_cast, seval, hss, hge, hno]))
      refine ⟨D, rfl, List.Perm.refl _, fun h => ?_, fun _ => rfl, rfl⟩
      have : D = [] := List.length_eq_zero_iff.1 (by omega)
      subst this; exact List.Pairwise.nil
  · have hj : j0 = 0 := by omega
    subst hj
    (refine Spec.of_bodyA Try.func105 rfl (by rw [Try.ntmps105]; simp) ?_; rw [Try.results105, Try.ntmps105]; simp only [entry, zipArgs, Nat.reduceAdd])
    repeat (first | apply Wp.seq | apply Wp.block | (apply Run.next; (simp only [push_cast, seval, hss, hge] <;> (try simp (disch := omega) only [wI, wU, wC]) <;> exact rfl); (focus ((try simp only [push_cast, seval, hss, hge]) <;> exact sT))) | ((first | apply Run.nil | apply Wp.skip); dsimp only [sQ, tQ, bQ]) | (apply Wp.run; (dsimp only [List.map] <;> exact rfl); exact rfl) | (apply Wp.exit; dsimp only [sQ, tQ, bQ]; simp only [reduceIte]))
    refine Wp.loop (fun (q : Nat × List Int) => { t := [(0, .osl e ver 0 D.length), (1, .int 0), (2, .int D.length), (3, .clo g caps), (8, .int q.1)], m := m.set e ⟨ver, .row 1 (q.2.map AV.int)⟩, n := 53 }) (fun q => (1 ≤ q.1 ∧ q.1 ≤ D.length) ∧ SL ky D q.1 q.2) (fun q => D.length - q.1) (1, D) ?_ ?_ ?_
    · (refine Le.of ?_ ?_ rfl rfl <;> (try simp only [push_cast, seval, hss, hge]) <;> (try (with_reducible rfl)))
      all_goals rfl
    · refine ⟨⟨by simp only; omega, by simp only; omega⟩, ⟨D.take 1, (List.take_append_drop 1 D).symm, by simp; omega, List.Perm.refl _, ?_⟩⟩
      match D with
      | [] => exact List.Pairwise.nil
      | a :: D => exact List.pairwise_singleton _ _
    · rintro ⟨i, L⟩ ⟨⟨hi1, hi2⟩, ⟨S, hL, hSl, hSp, hSs⟩⟩
      simp only at hi1 hi2 hL hSl hSp
      repeat (first | apply Wp.seq | apply Wp.block | (apply Run.next; (simp only [push_cast, seval, hss, hge] <;> (try simp (disch := omega) only [wI, wU, wC]) <;> exact rfl); (focus ((try simp only [push_cast, seval, hss, hge]) <;> exact sT))) | ((first | apply Run.nil | apply Wp.skip); dsimp only [sQ, tQ, bQ]) | (apply Wp.run; (dsimp only [List.map] <;> exact rfl); exact rfl) | (apply Wp.exit; dsimp only [sQ, tQ, bQ]; simp only [reduceIte]))
      (apply Wp.cond; (simp only [push_cast, seval, hss, hge] <;> (try simp (disch := omega) only [wI, wU, wC]) <;> exact rfl))
      · intro hc
        simp only [decide_eq_true_eq, Int.ofNat_lt] at hc
        have hLx := insL_top D S i hc hSl
        have hxD : D.getD i 0 ∈ D := memD hc
        have hSD : ∀ b ∈ S, b ∈ D := fun b hb => List.mem_of_mem_take (hSp.mem_iff.1 hb)
        have hpe : (D.getD i 0 :: S).Perm (D.take (i + 1)) := by
          have e1 : D.take (i + 1) = D.take i ++ [D.getD i 0] := by rw [List.take_add_one]; simp [hc]
          rw [e1]
          exact (List.Perm.cons _ hSp).trans (List.perm_append_comm (l₁ := [_]))
        rw [← hL] at hLx
        subst hLx
        have hRl : (D.drop (i + 1)).length = D.length - (i + 1) := by simp
        generalize hR : D.drop (i + 1) = R at hRl hL
        generalize hx : D.getD i 0 = x at hxD hpe hL
        have hRD : ∀ b ∈ R, b ∈ D := fun b hb => List.mem_of_mem_drop (by rw [hR]; exact hb)
        have hmL : ∀ j, j ≤ i → ∀ b ∈ insL S j x R, b ∈ D := by
          intro j _ b hb
          unfold insL at hb
          rcases List.mem_append.1 hb with h | h
          · exact hSD b (List.mem_of_mem_take h)
          · rcases List.mem_cons.1 h with rfl | h
            · exact hxD
            · rcases List.mem_append.1 h with h | h
              · exact hSD b (List.mem_of_mem_drop h)
              · exact hRD b h
        repeat (first | apply Wp.seq | apply Wp.block | (apply Run.next; (simp only [push_cast, seval, hss, hge] <;> (try simp (disch := omega) only [wI, wU, wC]) <;> exact rfl); (focus ((try simp only [push_cast, seval, hss, hge]) <;> exact sT))) | ((first | apply Run.nil | apply Wp.skip); dsimp only [sQ, tQ, bQ]) | (apply Wp.run; (dsimp only [List.map] <;> exact rfl); exact rfl) | (apply Wp.exit; dsimp only [sQ, tQ, bQ]; simp only [reduceIte]))
        refine Wp.loop (fun (j : Nat) => { t := [(0, .osl e ver 0 D.length), (1, .int 0), (2, .int D.length), (3, .clo g caps), (8, .int i), (9, .int j)], m := m.set e ⟨ver, .row 1 ((insL S j x R).map AV.int)⟩, n := 53 }) (fun j => j ≤ i ∧ ∀ b ∈ S.drop j, ky x < ky b) (fun j => j) i ?_ ?_ ?_
        · (refine Le.of ?_ ?_ rfl rfl <;> (try simp only [push_cast, seval, hss, hge]) <;> (try (with_reducible rfl)))
          all_goals rfl
        · exact ⟨Nat.le_refl _, by rw [List.drop_of_length_le (by omega)]; intro b hb; cases hb⟩
        · rintro j ⟨hj1, hj2⟩
          have hLl := insL_len S j x R (by omega)
          have hLj := insL_at S j x R (by omega)
          have hLD : (insL S j x R).getD (j - 1) 0 ∈ D := hmL j hj1 _ (memD (by omega))
          have hLy : 0 < j → (insL S j x R).getD (j - 1) 0 = S.getD (j - 1) 0 := fun h => by
            have := insL_lo S (j - 1) x R (by omega)
            rwa [show j - 1 + 1 = j by omega] at this
          have hLs : 0 < j → ((insL S j x R).set j (S.getD (j - 1) 0)).set (j - 1) x = insL S (j - 1) x R := fun h => by
            have := insL_swap S (j - 1) x R (by omega)
            rwa [show j - 1 + 1 = j by omega] at this
          have hLe : insL S j x R = (S.take j ++ x :: S.drop j) ++ R := by simp [insL]
          generalize hLg : insL S j x R = L at hLl hLj hLD hLy hLs hLe
          generalize hy : L.getD (j - 1) 0 = y at hLD hLy
          have hLn : L.length = D.length := by omega
          have hvr := hv ((L.map AV.int))
          repeat (first | apply Wp.seq | apply Wp.block | (apply Run.next; (simp only [push_cast, seval, hss, hge, hLj, hy, hLn] <;> (try simp (disch := omega) only [wI, wU, wC]) <;> exact rfl); (focus ((try simp only [push_cast, seval, hss, hge, hLj, hy, hLn]) <;> exact sT))) | ((first | apply Run.nil | apply Wp.skip); dsimp only [sQ, tQ, bQ]) | (apply Wp.run; (dsimp only [List.map] <;> exact rfl); exact rfl) | (apply Wp.exit; dsimp only [sQ, tQ, bQ]; simp only [reduceIte]))
          (apply Wp.runD 17 mixed; (dsimp only [List.map] <;> exact rfl); exact rfl; kernel_rfl; (dsimp only [List.take] <;> exact rfl); (dsimp only [List.drop] <;> exact rfl); (((repeat (apply Abn.next; (simp only [push_cast, seval, hss, hge, hLj, hy, hLn] <;> (try simp (disch := omega) only [wI, wU, wC]) <;> exact rfl); (focus ((try simp only [push_cast, seval, hss, hge, hLj, hy, hLn]) <;> exact sT)))); (apply Abn.pureW; (simp only [push_cast, seval, hss, hge, hLj, hy, hLn] <;> (try simp (disch := omega) only [wI, wU, wC]) <;> exact rfl); (exact hg); (exact fun _ => hp x hxD y hLD); (exact VwL.cons (Vw.self (by simp [AV.ok])) (VwL.cons (Vw.self (by simp [AV.ok])) hvr)); (simp only [push_cast, seval, hss, hge, hLj, hy, hLn] <;> first | trivial | assumption | (refine ⟨?_, ?_⟩ <;> assumption) | (simp; done)); (try dsimp only [putA, optG])); (repeat (apply Abn.next; (simp only [push_cast, seval, hss, hge, hLj, hy, hLn] <;> (try simp (disch := omega) only [wI, wU, wC]) <;> exact rfl); (focus ((try simp only [push_cast, seval, hss, hge, hLj, hy, hLn]) <;> exact sT))))); exact Abn.nil))
          repeat (first | apply Wp.seq | apply Wp.block | (apply Run.next; (simp only [push_cast, seval, hss, hge, hLj, hy, hLn] <;> (try simp (disch := omega) only [wI, wU, wC]) <;> exact rfl); (focus ((try simp only [push_cast, seval, hss, hge, hLj, hy, hLn]) <;> exact sT))) | ((first | apply Run.nil | apply Wp.skip); dsimp only [sQ, tQ, bQ]) | (apply Wp.run; (dsimp only [List.map] <;> exact rfl); exact rfl) | (apply Wp.exit; dsimp only [sQ, tQ, bQ]; simp only [reduceIte]))
          (apply Wp.cond; (simp only [push_cast, seval, hss, hge, hLj, hy, hLn] <;> (try simp (disch := omega) only [wI, wU, wC]) <;> exact rfl))
          · intro h4
            simp only [Bool.and_eq_true, decide_eq_true_eq] at h4
            have hj0 : 0 < j := by omega
            have hys := hLy hj0
            have hst := hLs hj0
            rw [← hys] at hst
            repeat (first | apply Wp.seq | apply Wp.block | (apply Run.next; (simp only [push_cast, seval, hss, hge, hLj, hy, hLn] <;> (try simp (disch := omega) only [wI, wU, wC]) <;> exact rfl); (focus ((try simp only [push_cast, seval, hss, hge, hLj, hy, hLn]) <;> exact sT))) | ((first | apply Run.nil | apply Wp.skip); dsimp only [sQ, tQ, bQ]) | (apply Wp.run; (dsimp only [List.map] <;> exact rfl); exact rfl) | (apply Wp.exit; dsimp only [sQ, tQ, bQ]; simp only [reduceIte]))
            (apply Wp.runW 15 17 (fun _ => m.set e ⟨ver, .row 1 ((L.set j y).map AV.int)⟩) mixed; (dsimp only [List.map] <;> exact rfl); exact rfl; kernel_rfl; kernel_rfl; (dsimp only; ((repeat (apply AbW.both; exact rfl; kernel_rfl; (simp only [push_cast, seval, hss, hge, hLj, hy, hLn] <;> (try simp (disch := omega) only [wI, wU, wC]) <;> exact rfl); (focus ((try simp only [push_cast, seval, hss, hge, hLj, hy, hLn]) <;> exact sT)); (simp only [push_cast, seval, hss, hge, hLj, hy, hLn] <;> (try simp (disch := omega) only [wI, wU, wC]) <;> exact rfl); (focus ((try simp only [push_cast, seval, hss, hge, hLj, hy, hLn]) <;> exact sT)); dsimp only [upd])); (apply AbW.early; exact rfl; kernel_rfl; (simp only [push_cast, seval, hss, hge, hLj, hy, hLn] <;> (try simp (disch := omega) only [wI, wU, wC]) <;> exact rfl); (focus ((try simp only [push_cast, seval, hss, hge, hLj, hy, hLn]) <;> exact sT)); dsimp only [upd]); (repeat (apply AbW.both; exact rfl; kernel_rfl; (simp only [push_cast, seval, hss, hge, hLj, hy, hLn] <;> (try simp (disch := omega) only [wI, wU, wC]) <;> exact rfl); (focus ((try simp only [push_cast, seval, hss, hge, hLj, hy, hLn]) <;> exact sT)); (simp only [push_cast, seval, hss, hge, hLj, hy, hLn] <;> (try simp (disch := omega) only [wI, wU, wC]) <;> exact rfl); (focus ((try simp only [push_cast, seval, hss, hge, hLj, hy, hLn]) <;> exact sT)); dsimp only [upd])); (apply AbW.early; exact rfl; kernel_rfl; (simp only [push_cast, seval, hss, hge, hLj, hy, hLn] <;> (try simp (disch := omega) only [wI, wU, wC]) <;> exact rfl); (focus ((try simp only [push_cast, seval, hss, hge, hLj, hy, hLn]) <;> exact sT)); dsimp only [upd]); (repeat (apply AbW.both; exact rfl; kernel_rfl; (simp only [push_cast, seval, hss, hge, hLj, hy, hLn] <;> (try simp (disch := omega) only [wI, wU, wC]) <;> exact rfl); (focus ((try simp only [push_cast, seval, hss, hge, hLj, hy, hLn]) <;> exact sT)); (simp only [push_cast, seval, hss, hge, hLj, hy, hLn] <;> (try simp (disch := omega) only [wI, wU, wC]) <;> exact rfl); (focus ((try simp only [push_cast, seval, hss, hge, hLj, hy, hLn]) <;> exact sT)); dsimp only [upd])); (apply AbW.eff1; exact rfl; exact rfl; (simp only [push_cast, seval, hss, hge, hLj, hy, hLn] <;> (try simp (disch := omega) only [wI, wU, wC]) <;> exact rfl); (focus ((try simp only [push_cast, seval, hss, hge, hLj, hy, hLn]) <;> exact sT)); (try dsimp only [upd])); (apply AbW.both; exact rfl; kernel_rfl; (simp only [push_cast, seval, hss, hge, hLj, hy, hLn] <;> (try simp (disch := omega) only [wI, wU, wC]) <;> exact rfl); (focus ((try simp only [push_cast, seval, hss, hge, hLj, hy, hLn]) <;> exact sT)); (simp only [push_cast, seval, hss, hge, hLj, hy, hLn] <;> (try simp (disch := omega) only [wI, wU, wC]) <;> exact rfl); (focus ((try simp only [push_cast, seval, hss, hge, hLj, hy, hLn]) <;> exact sT)); dsimp only [upd]); (apply AbW.eff2; exact rfl; exact rfl; (simp only [push_cast, seval, hss, hge, hLj, hy, hLn] <;> (try simp (disch := omega) only [wI, wU, wC]) <;> exact rfl); (focus ((try simp only [push_cast, seval, hss, hge, hLj, hy, hLn]) <;> exact sT)); (try dsimp only [upd]))); exact AbW.nil))
            repeat (first | apply Wp.seq | apply Wp.block | (apply Run.next; (simp only [push_cast, seval, hss, hge, hLj, hy, hLn] <;> (try simp (disch := omega) only [wI, wU, wC]) <;> exact rfl); (focus ((try simp only [push_cast, seval, hss, hge, hLj, hy, hLn]) <;> exact sT))) | ((first | apply Run.nil | apply Wp.skip); dsimp only [sQ, tQ, bQ]) | (apply Wp.run; (dsimp only [List.map] <;> exact rfl); exact rfl) | (apply Wp.exit; dsimp only [sQ, tQ, bQ]; simp only [reduceIte]))
            refine ⟨j - 1, ?_, ⟨by omega, ?_⟩, by omega⟩
            · rw [← hst]
              (refine Le.of ?_ ?_ rfl rfl <;> (try simp only [push_cast, seval, hss, hge, hLj, hy, hLn]) <;> (try (with_reducible rfl)))
              all_goals (try (congr 2; omega))
            · intro b hb
              rw [List.drop_eq_getElem_cons (by omega)] at hb
              rcases List.mem_cons.1 hb with rfl | hb
              · have e1 : y = S[j - 1]'(by omega) := hys.trans (by simp [show j - 1 < S.length by omega])
                have e2 := congrArg ky e1
                omega
              · rw [show j - 1 + 1 = j by omega] at hb; exact hj2 b hb
          · intro h4
            simp only [Bool.and_eq_false_iff, decide_eq_false_iff_not] at h4
            repeat (first | apply Wp.seq | apply Wp.block | (apply Run.next; (simp only [push_cast, seval, hss, hge, hLj, hy, hLn] <;> (try simp (disch := omega) only [wI, wU, wC]) <;> exact rfl); (focus ((try simp only [push_cast, seval, hss, hge, hLj, hy, hLn]) <;> exact sT))) | ((first | apply Run.nil | apply Wp.skip); dsimp only [sQ, tQ, bQ]) | (apply Wp.run; (dsimp only [List.map] <;> exact rfl); exact rfl) | (apply Wp.exit; dsimp only [sQ, tQ, bQ]; simp only [reduceIte]))
            refine ⟨(i + 1, L), ?_, ⟨⟨by simp only; omega, by simp only; omega⟩, ⟨S.take j ++ x :: S.drop j, ?_, ?_, ?_, ?_⟩⟩, by simp only; omega⟩
            · (refine Le.of ?_ ?_ rfl rfl <;> (try simp only [push_cast, seval, hss, hge, hLj, hy, hLn]) <;> (try (with_reducible rfl)))
            · simp only; rw [hLe, hR]
            · simp; omega
            · refine List.Perm.trans ?_ hpe
              refine (List.perm_middle).trans ?_
              rw [List.take_append_drop]
            · refine SortK.ins hSs hj2 fun b hb => ?_
              rcases Nat.eq_zero_or_pos j with h0 | h0
              · subst h0; simp at hb
              · have h5 := SortK.below hSs (j := j - 1) (by omega) b (by rw [show j - 1 + 1 = j by omega]; exact hb)
                rw [← hLy h0] at h5
                omega
      · intro hc
        simp only [decide_eq_false_iff_not, Int.ofNat_lt] at hc
        repeat (first | apply Wp.seq | apply Wp.block | (apply Run.next; (simp only [push_cast, seval, hss, hge] <;> (try simp (disch := omega) only [wI, wU, wC]) <;> exact rfl); (focus ((try simp only [push_cast, seval, hss, hge]) <;> exact sT))) | ((first | apply Run.nil | apply Wp.skip); dsimp only [sQ, tQ, bQ]) | (apply Wp.run; (dsimp only [List.map] <;> exact rfl); exact rfl) | (apply Wp.exit; dsimp only [sQ, tQ, bQ]; simp only [reduceIte]))
        (apply leaveAN; exact rfl; (simp only [push_cast, seval, hss, hge] <;> (try simp (disch := omega) only [wI, wU, wC]) <;> exact rfl); (focus (first | (simp only [push_cast, seval, hss, hge]; done) | trivial | (simp only [push_cast, seval, hss, hge]; trivial) | (simp; done))); (try simp only [push_cast, seval, hss, hge]))
        have hie : i = D.length := by omega
        rw [hie, List.take_of_length_le (by omega)] at hSp
        rw [hie, List.drop_of_length_le (by omega), List.append_nil] at hL
        exact ⟨L, by rw [hL]; exact hSp.length_eq, by rw [hL]; exact hSp, by rw [hL]; exact hSs, fun h => (h trivial).elim, rfl⟩
theorem stable_spec {m : Mem} {e ver : Nat} {g : FuncId} {caps caps' : List AV} {ky : Int → Int} (hg : Enters Try.prog g) (D : List Int) (he : e < m.length) (hv : ∀ x, VwL (m.set e ⟨ver, .row 1 x⟩) caps caps') (hk0 : okL 0 caps')
    (hp : ∀ a ∈ D, ∀ b ∈ D, Pure Try.prog g (.int a :: .int b :: caps') (.int (ky a - ky b))) (h20 : D.length ≤ 20) :
    Go.Vg.Spec Try.prog 89 [.osl e ver 0 D.length, .clo g caps] (m.set e ⟨ver, .row 1 (D.map AV.int)⟩) (fun _ m' => ∃ L, L.length = D.length ∧ L.Perm D ∧ SortK ky L ∧ m' = m.set e ⟨ver, .row 1 (L.map AV.int)⟩) := by
  have hss : ∀ x y : Ent, (m.set e x).set e y = m.set e y := fun x y => List.set_set _
  have hge : ∀ x : Ent, (m.set e x)[e]? = some x := fun x => by simp [he]
  have hin : Go.Vg.Spec Try.prog 100 [.osl e ver 0 D.length, .int D.length, .clo g caps] (m.set e ⟨ver, .row 1 (D.map AV.int)⟩) (fun _ m' => ∃ L, L.length = D.length ∧ L.Perm D ∧ SortK ky L ∧ m' = m.set e ⟨ver, .row 1 (L.map AV.int)⟩) := by
    by_cases h : D.length = 20
    · have hc1 := insort_spec hg D he hv hk0 hp (by omega) 0 (.inl rfl)
      rw [show (D.length : Int) = 20 by omega] at hc1
      have hy1 : decide ((20 : Int) ≤ (D.length : Int)) = true := decide_eq_true (by omega)
      have hy2 : decide ((40 : Int) ≤ (D.length : Int)) = false := decide_eq_false (by omega)
      have hy3 : decide ((20 : Int) < (D.length : Int)) = false := decide_eq_false (by omega)
      (refine Spec.of_bodyA Try.func100 rfl (by rw [Try.ntmps100]; simp) ?_; rw [Try.results100, Try.ntmps100]; simp only [entry, zipArgs, Nat.reduceAdd])
      repeat (first | apply Wp.seq | apply Wp.block | (apply Run.next; (simp only [push_cast, seval, hss, hge] <;> (try simp (disch := omega) only [wI, wU, wC]) <;> exact rfl); (focus ((try simp only [push_cast, seval, hss, hge]) <;> exact sT))) | ((first | apply Run.nil | apply Wp.skip); dsimp only [sQ, tQ, bQ]) | (apply Wp.run; (dsimp only [List.map] <;> exact rfl); exact rfl) | (apply Wp.exit; dsimp only [sQ, tQ, bQ]; simp only [reduceIte]))
      refine Wp.loop (fun (q : Nat × List Int) => { t := [(0, .osl e ver 0 D.length), (1, .int D.length), (2, .clo g caps), (6, .int 20), (7, .int (20 * (q.1 : Int))), (8, .int (20 * (q.1 : Int) + 20))], m := m.set e ⟨ver, .row 1 (q.2.map AV.int)⟩, n := 63 }) (fun q => q.1 = 0 ∧ q.2 = D ∨ q.1 = 1 ∧ q.2.length = D.length ∧ q.2.Perm D ∧ SortK ky q.2) (fun q => 1 - q.1) (0, D) ?_ ?_ ?_
      · (refine Le.of ?_ ?_ rfl rfl <;> (try simp only [push_cast, seval, hss, hge]) <;> (try (with_reducible rfl)))
        all_goals simp
      · exact .inl ⟨rfl, rfl⟩
      · rintro ⟨k, L⟩ (⟨rfl, rfl⟩ | ⟨rfl, hq1, hq2, hq3⟩)
        · 
          repeat (first | apply Wp.seq | apply Wp.block | (apply Run.next; (simp only [push_cast, seval, hss, hge, Int.mul_zero, Int.zero_add, Int.mul_one, Int.reduceLE, Int.reduceLT, Int.reduceAdd, Int.reduceMul, Int.reduceSub, hy1, hy2, hy3] <;> (try simp (disch := omega) only [wI, wU, wC]) <;> exact rfl); (focus ((try simp only [push_cast, seval, hss, hge, Int.mul_zero, Int.zero_add, Int.mul_one, Int.reduceLE, Int.reduceLT, Int.reduceAdd, Int.reduceMul, Int.reduceSub, hy1, hy2, hy3]) <;> exact sT))) | ((first | apply Run.nil | apply Wp.skip); dsimp only [sQ, tQ, bQ]) | (apply Wp.run; (dsimp only [List.map] <;> exact rfl); exact rfl) | (apply Wp.exit; dsimp only [sQ, tQ, bQ]; simp only [reduceIte]) | (apply Run.gtrue; (simp only [push_cast, seval, hss, hge, Int.mul_zero, Int.zero_add, Int.mul_one, Int.reduceLE, Int.reduceLT, Int.reduceAdd, Int.reduceMul, Int.reduceSub, hy1, hy2, hy3] <;> (try simp (disch := omega) only [wI, wU, wC]) <;> exact rfl); (simp only [push_cast, seval, hss, hge, Int.mul_zero, Int.zero_add, Int.mul_one, Int.reduceLE, Int.reduceLT, Int.reduceAdd, Int.reduceMul, Int.reduceSub, hy1, hy2, hy3] <;> (try simp (disch := omega) only [wI, wU, wC]) <;> exact rfl)) | (apply Run.gfalse (.bool false); (simp only [push_cast, seval, hss, hge, Int.mul_zero, Int.zero_add, Int.mul_one, Int.reduceLE, Int.reduceLT, Int.reduceAdd, Int.reduceMul, Int.reduceSub, hy1, hy2, hy3] <;> (try simp (disch := omega) only [wI, wU, wC]) <;> exact rfl); dsimp only [S.put, optG]) | (apply Wp.condT; (simp only [push_cast, seval, hss, hge, Int.mul_zero, Int.zero_add, Int.mul_one, Int.reduceLE, Int.reduceLT, Int.reduceAdd, Int.reduceMul, Int.reduceSub, hy1, hy2, hy3] <;> (try simp (disch := omega) only [wI, wU, wC]) <;> exact rfl)) | (apply Wp.condF; (simp only [push_cast, seval, hss, hge, Int.mul_zero, Int.zero_add, Int.mul_one, Int.reduceLE, Int.reduceLT, Int.reduceAdd, Int.reduceMul, Int.reduceSub, hy1, hy2, hy3] <;> (try simp (disch := omega) only [wI, wU, wC]) <;> exact rfl)))
          apply Run.spec (he := Enters.of Try.func105 rfl rfl) (hc := hc1)
          · exact rfl
          · exact rfl
          · (simp only [push_cast, seval, hss, hge, Int.mul_zero, Int.zero_add, Int.mul_one, Int.reduceLE, Int.reduceLT, Int.reduceAdd, Int.reduceMul, Int.reduceSub, hy1, hy2, hy3] <;> (try simp (disch := omega) only [wI, wU, wC]) <;> exact rfl)
          · rintro _ _ ⟨L, hl1, hl2, hl3, _, rfl⟩
            have hl3' := hl3 rfl
            dsimp only [S.put, optG]
            repeat (first | apply Wp.seq | apply Wp.block | (apply Run.next; (simp only [push_cast, seval, hss, hge, Int.mul_zero, Int.zero_add, Int.mul_one, Int.reduceLE, Int.reduceLT, Int.reduceAdd, Int.reduceMul, Int.reduceSub, hy1, hy2, hy3] <;> (try simp (disch := omega) only [wI, wU, wC]) <;> exact rfl); (focus ((try simp only [push_cast, seval, hss, hge, Int.mul_zero, Int.zero_add, Int.mul_one, Int.reduceLE, Int.reduceLT, Int.reduceAdd, Int.reduceMul, Int.reduceSub, hy1, hy2, hy3]) <;> exact sT))) | ((first | apply Run.nil | apply Wp.skip); dsimp only [sQ, tQ, bQ]) | (apply Wp.run; (dsimp only [List.map] <;> exact rfl); exact rfl) | (apply Wp.exit; dsimp only [sQ, tQ, bQ]; simp only [reduceIte]) | (apply Run.gtrue; (simp only [push_cast, seval, hss, hge, Int.mul_zero, Int.zero_add, Int.mul_one, Int.reduceLE, Int.reduceLT, Int.reduceAdd, Int.reduceMul, Int.reduceSub, hy1, hy2, hy3] <;> (try simp (disch := omega) only [wI, wU, wC]) <;> exact rfl); (simp only [push_cast, seval, hss, hge, Int.mul_zero, Int.zero_add, Int.mul_one, Int.reduceLE, Int.reduceLT, Int.reduceAdd, Int.reduceMul, Int.reduceSub, hy1, hy2, hy3] <;> (try simp (disch := omega) only [wI, wU, wC]) <;> exact rfl)) | (apply Run.gfalse (.bool false); (simp only [push_cast, seval, hss, hge, Int.mul_zero, Int.zero_add, Int.mul_one, Int.reduceLE, Int.reduceLT, Int.reduceAdd, Int.reduceMul, Int.reduceSub, hy1, hy2, hy3] <;> (try simp (disch := omega) only [wI, wU, wC]) <;> exact rfl); dsimp only [S.put, optG]) | (apply Wp.condT; (simp only [push_cast, seval, hss, hge, Int.mul_zero, Int.zero_add, Int.mul_one, Int.reduceLE, Int.reduceLT, Int.reduceAdd, Int.reduceMul, Int.reduceSub, hy1, hy2, hy3] <;> (try simp (disch := omega) only [wI, wU, wC]) <;> exact rfl)) | (apply Wp.condF; (simp only [push_cast, seval, hss, hge, Int.mul_zero, Int.zero_add, Int.mul_one, Int.reduceLE, Int.reduceLT, Int.reduceAdd, Int.reduceMul, Int.reduceSub, hy1, hy2, hy3] <;> (try simp (disch := omega) only [wI, wU, wC]) <;> exact rfl)))
            refine ⟨(1, L), ?_, .inr ⟨rfl, hl1, hl2, hl3'⟩, by simp⟩
            (refine Le.of ?_ ?_ rfl rfl <;> (try simp only [push_cast, seval, hss, hge, Int.mul_zero, Int.zero_add, Int.mul_one, Int.reduceLE, Int.reduceLT, Int.reduceAdd, Int.reduceMul, Int.reduceSub, hy1, hy2, hy3]) <;> (try (with_reducible rfl)))
        · have hc2 := insort_spec (ver := ver) hg L he hv hk0 (fun a ha b hb => hp a (hq2.mem_iff.1 ha) b (hq2.mem_iff.1 hb)) (by simp only at hq1; omega) 20 (.inr (by simp only at hq1; omega))
          simp only at hq1
          rw [hq1] at hc2
          repeat (first | apply Wp.seq | apply Wp.block | (apply Run.next; (simp only [push_cast, seval, hss, hge, Int.mul_zero, Int.zero_add, Int.mul_one, Int.reduceLE, Int.reduceLT, Int.reduceAdd, Int.reduceMul, Int.reduceSub, hy1, hy2, hy3] <;> (try simp (disch := omega) only [wI, wU, wC]) <;> exact rfl); (focus ((try simp only [push_cast, seval, hss, hge, Int.mul_zero, Int.zero_add, Int.mul_one, Int.reduceLE, Int.reduceLT, Int.reduceAdd, Int.reduceMul, Int.reduceSub, hy1, hy2, hy3]) <;> exact sT))) | ((first | apply Run.nil | apply Wp.skip); dsimp only [sQ, tQ, bQ]) | (apply Wp.run; (dsimp only [List.map] <;> exact rfl); exact rfl) | (apply Wp.exit; dsimp only [sQ, tQ, bQ]; simp only [reduceIte]) | (apply Run.gtrue; (simp only [push_cast, seval, hss, hge, Int.mul_zero, Int.zero_add, Int.mul_one, Int.reduceLE, Int.reduceLT, Int.reduceAdd, Int.reduceMul, Int.reduceSub, hy1, hy2, hy3] <;> (try simp (disch := omega) only [wI, wU, wC]) <;> exact rfl); (simp only [push_cast, seval, hss, hge, Int.mul_zero, Int.zero_add, Int.mul_one, Int.reduceLE, Int.reduceLT, Int.reduceAdd, Int.reduceMul, Int.reduceSub, hy1, hy2, hy3] <;> (try simp (disch := omega) only [wI, wU, wC]) <;> exact rfl)) | (apply Run.gfalse (.bool false); (simp only [push_cast, seval, hss, hge, Int.mul_zero, Int.zero_add, Int.mul_one, Int.reduceLE, Int.reduceLT, Int.reduceAdd, Int.reduceMul, Int.reduceSub, hy1, hy2, hy3] <;> (try simp (disch := omega) only [wI, wU, wC]) <;> exact rfl); dsimp only [S.put, optG]) | (apply Wp.condT; (simp only [push_cast, seval, hss, hge, Int.mul_zero, Int.zero_add, Int.mul_one, Int.reduceLE, Int.reduceLT, Int.reduceAdd, Int.reduceMul, Int.reduceSub, hy1, hy2, hy3] <;> (try simp (disch := omega) only [wI, wU, wC]) <;> exact rfl)) | (apply Wp.condF; (simp only [push_cast, seval, hss, hge, Int.mul_zero, Int.zero_add, Int.mul_one, Int.reduceLE, Int.reduceLT, Int.reduceAdd, Int.reduceMul, Int.reduceSub, hy1, hy2, hy3] <;> (try simp (disch := omega) only [wI, wU, wC]) <;> exact rfl)))
          apply Run.spec (he := Enters.of Try.func105 rfl rfl) (hc := hc2)
          · exact rfl
          · exact rfl
          · (simp only [push_cast, seval, hss, hge, Int.mul_zero, Int.zero_add, Int.mul_one, Int.reduceLE, Int.reduceLT, Int.reduceAdd, Int.reduceMul, Int.reduceSub, hy1, hy2, hy3] <;> (try simp (disch := omega) only [wI, wU, wC]) <;> exact rfl)
          · rintro _ _ ⟨L', _, _, _, hl4, rfl⟩
            have e := hl4 (by decide)
            subst e
            dsimp only [S.put, optG]
            repeat (first | apply Wp.seq | apply Wp.block | (apply Run.next; (simp only [push_cast, seval, hss, hge, Int.mul_zero, Int.zero_add, Int.mul_one, Int.reduceLE, Int.reduceLT, Int.reduceAdd, Int.reduceMul, Int.reduceSub, hy1, hy2, hy3] <;> (try simp (disch := omega) only [wI, wU, wC]) <;> exact rfl); (focus ((try simp only [push_cast, seval, hss, hge, Int.mul_zero, Int.zero_add, Int.mul_one, Int.reduceLE, Int.reduceLT, Int.reduceAdd, Int.reduceMul, Int.reduceSub, hy1, hy2, hy3]) <;> exact sT))) | ((first | apply Run.nil | apply Wp.skip); dsimp only [sQ, tQ, bQ]) | (apply Wp.run; (dsimp only [List.map] <;> exact rfl); exact rfl) | (apply Wp.exit; dsimp only [sQ, tQ, bQ]; simp only [reduceIte]) | (apply Run.gtrue; (simp only [push_cast, seval, hss, hge, Int.mul_zero, Int.zero_add, Int.mul_one, Int.reduceLE, Int.reduceLT, Int.reduceAdd, Int.reduceMul, Int.reduceSub, hy1, hy2, hy3] <;> (try simp (disch := omega) only [wI, wU, wC]) <;> exact rfl); (simp only [push_cast, seval, hss, hge, Int.mul_zero, Int.zero_add, Int.mul_one, Int.reduceLE, Int.reduceLT, Int.reduceAdd, Int.reduceMul, Int.reduceSub, hy1, hy2, hy3] <;> (try simp (disch := omega) only [wI, wU, wC]) <;> exact rfl)) | (apply Run.gfalse (.bool false); (simp only [push_cast, seval, hss, hge, Int.mul_zero, Int.zero_add, Int.mul_one, Int.reduceLE, Int.reduceLT, Int.reduceAdd, Int.reduceMul, Int.reduceSub, hy1, hy2, hy3] <;> (try simp (disch := omega) only [wI, wU, wC]) <;> exact rfl); dsimp only [S.put, optG]) | (apply Wp.condT; (simp only [push_cast, seval, hss, hge, Int.mul_zero, Int.zero_add, Int.mul_one, Int.reduceLE, Int.reduceLT, Int.reduceAdd, Int.reduceMul, Int.reduceSub, hy1, hy2, hy3] <;> (try simp (disch := omega) only [wI, wU, wC]) <;> exact rfl)) | (apply Wp.condF; (simp only [push_cast, seval, hss, hge, Int.mul_zero, Int.zero_add, Int.mul_one, Int.reduceLE, Int.reduceLT, Int.reduceAdd, Int.reduceMul, Int.reduceSub, hy1, hy2, hy3] <;> (try simp (disch := omega) only [wI, wU, wC]) <;> exact rfl)))
            refine Wp.loop (fun (_ : Nat) => { t := [(1, .int D.length), (6, .int 20)], m := m.set e ⟨ver, .row 1 (L'.map AV.int)⟩, n := 63 }) (fun _ => True) (fun _ => 0) 0 ?_ ?_ ?_
            · (refine Le.of ?_ ?_ rfl rfl <;> (try simp only [push_cast, seval, hss, hge, Int.mul_zero, Int.zero_add, Int.mul_one, Int.reduceLE, Int.reduceLT, Int.reduceAdd, Int.reduceMul, Int.reduceSub, hy1, hy2, hy3]) <;> (try (with_reducible rfl)))
            · trivial
            · intro _ _
              repeat (first | apply Wp.seq | apply Wp.block | (apply Run.next; (simp only [push_cast, seval, hss, hge, Int.mul_zero, Int.zero_add, Int.mul_one, Int.reduceLE, Int.reduceLT, Int.reduceAdd, Int.reduceMul, Int.reduceSub, hy1, hy2, hy3] <;> (try simp (disch := omega) only [wI, wU, wC]) <;> exact rfl); (focus ((try simp only [push_cast, seval, hss, hge, Int.mul_zero, Int.zero_add, Int.mul_one, Int.reduceLE, Int.reduceLT, Int.reduceAdd, Int.reduceMul, Int.reduceSub, hy1, hy2, hy3]) <;> exact sT))) | ((first | apply Run.nil | apply Wp.skip); dsimp only [sQ, tQ, bQ]) | (apply Wp.run; (dsimp only [List.map] <;> exact rfl); exact rfl) | (apply Wp.exit; dsimp only [sQ, tQ, bQ]; simp only [reduceIte]) | (apply Run.gtrue; (simp only [push_cast, seval, hss, hge, Int.mul_zero, Int.zero_add, Int.mul_one, Int.reduceLE, Int.reduceLT, Int.reduceAdd, Int.reduceMul, Int.reduceSub, hy1, hy2, hy3] <;> (try simp (disch := omega) only [wI, wU, wC]) <;> exact rfl); (simp only [push_cast, seval, hss, hge, Int.mul_zero, Int.zero_add, Int.mul_one, Int.reduceLE, Int.reduceLT, Int.reduceAdd, Int.reduceMul, Int.reduceSub, hy1, hy2, hy3] <;> (try simp (disch := omega) only [wI, wU, wC]) <;> exact rfl)) | (apply Run.gfalse (.bool false); (simp only [push_cast, seval, hss, hge, Int.mul_zero, Int.zero_add, Int.mul_one, Int.reduceLE, Int.reduceLT, Int.reduceAdd, Int.reduceMul, Int.reduceSub, hy1, hy2, hy3] <;> (try simp (disch := omega) only [wI, wU, wC]) <;> exact rfl); dsimp only [S.put, optG]) | (apply Wp.condT; (simp only [push_cast, seval, hss, hge, Int.mul_zero, Int.zero_add, Int.mul_one, Int.reduceLE, Int.reduceLT, Int.reduceAdd, Int.reduceMul, Int.reduceSub, hy1, hy2, hy3] <;> (try simp (disch := omega) only [wI, wU, wC]) <;> exact rfl)) | (apply Wp.condF; (simp only [push_cast, seval, hss, hge, Int.mul_zero, Int.zero_add, Int.mul_one, Int.reduceLE, Int.reduceLT, Int.reduceAdd, Int.reduceMul, Int.reduceSub, hy1, hy2, hy3] <;> (try simp (disch := omega) only [wI, wU, wC]) <;> exact rfl)))
              (apply leaveAN; exact rfl; (simp only [push_cast, seval, hss, hge, Int.mul_zero, Int.zero_add, Int.mul_one, Int.reduceLE, Int.reduceLT, Int.reduceAdd, Int.reduceMul, Int.reduceSub, hy1, hy2, hy3] <;> (try simp (disch := omega) only [wI, wU, wC]) <;> exact rfl); (focus (first | (simp only [push_cast, seval, hss, hge, Int.mul_zero, Int.zero_add, Int.mul_one, Int.reduceLE, Int.reduceLT, Int.reduceAdd, Int.reduceMul, Int.reduceSub, hy1, hy2, hy3]; done) | trivial | (simp only [push_cast, seval, hss, hge, Int.mul_zero, Int.zero_add, Int.mul_one, Int.reduceLE, Int.reduceLT, Int.reduceAdd, Int.reduceMul, Int.reduceSub, hy1, hy2, hy3]; trivial) | (simp; done))); (try simp only [push_cast, seval, hss, hge, Int.mul_zero, Int.zero_add, Int.mul_one, Int.reduceLE, Int.reduceLT, Int.reduceAdd, Int.reduceMul, Int.reduceSub, hy1, hy2, hy3]))
              exact ⟨L', hq1, hq2, hq3, rfl⟩
    · have hc1 := insort_spec hg D he hv hk0 hp (by omega) 0 (.inl rfl)
      have hno : decide ((20 : Int) ≤ (D.length : Int)) = false := decide_eq_false (by omega)
      have hno2 : decide ((20 : Int) < (D.length : Int)) = false := decide_eq_false (by omega)
      (refine Spec.of_bodyA Try.func100 rfl (by rw [Try.ntmps100]; simp) ?_; rw [Try.results100, Try.ntmps100]; simp only [entry, zipArgs, Nat.reduceAdd])
      repeat (first | apply Wp.seq | apply Wp.block | (apply Run.next; (simp only [push_cast, seval, hss, hge, hno, hno2] <;> (try simp (disch := omega) only [wI, wU, wC]) <;> exact rfl); (focus ((try simp only [push_cast, seval, hss, hge, hno, hno2]) <;> exact sT))) | ((first | apply Run.nil | apply Wp.skip); dsimp only [sQ, tQ, bQ]) | (apply Wp.run; (dsimp only [List.map] <;> exact rfl); exact rfl) | (apply Wp.exit; dsimp only [sQ, tQ, bQ]; simp only [reduceIte]))
      refine Wp.loop (fun (_ : Nat) => { t := [(0, .osl e ver 0 D.length), (1, .int D.length), (2, .clo g caps), (6, .int 20), (7, .int 0), (8, .int 20)], m := m.set e ⟨ver, .row 1 (D.map AV.int)⟩, n := 63 }) (fun _ => True) (fun _ => 0) 0 ?_ ?_ ?_
      · (refine Le.of ?_ ?_ rfl rfl <;> (try simp only [push_cast, seval, hss, hge, hno, hno2]) <;> (try (with_reducible rfl)))
        all_goals rfl
      · trivial
      · intro _ _
        repeat (first | apply Wp.seq | apply Wp.block | (apply Run.next; (simp only [push_cast, seval, hss, hge, hno, hno2] <;> (try simp (disch := omega) only [wI, wU, wC]) <;> exact rfl); (focus ((try simp only [push_cast, seval, hss, hge, hno, hno2]) <;> exact sT))) | ((first | apply Run.nil | apply Wp.skip); dsimp only [sQ, tQ, bQ]) | (apply Wp.run; (dsimp only [List.map] <;> exact rfl); exact rfl) | (apply Wp.exit; dsimp only [sQ, tQ, bQ]; simp only [reduceIte]) | (apply Run.gtrue; (simp only [push_cast, seval, hss, hge, hno, hno2] <;> (try simp (disch := omega) only [wI, wU, wC]) <;> exact rfl); (simp only [push_cast, seval, hss, hge, hno, hno2] <;> (try simp (disch := omega) only [wI, wU, wC]) <;> exact rfl)) | (apply Run.gfalse (.bool false); (simp only [push_cast, seval, hss, hge, hno, hno2] <;> (try simp (disch := omega) only [wI, wU, wC]) <;> exact rfl); dsimp only [S.put, optG]) | (apply Wp.condT; (simp only [push_cast, seval, hss, hge, hno, hno2] <;> (try simp (disch := omega) only [wI, wU, wC]) <;> exact rfl)) | (apply Wp.condF; (simp only [push_cast, seval, hss, hge, hno, hno2] <;> (try simp (disch := omega) only [wI, wU, wC]) <;> exact rfl)))
        apply Run.spec (he := Enters.of Try.func105 rfl rfl) (hc := hc1)
        · exact rfl
        · exact rfl
        · (simp only [push_cast, seval, hss, hge, hno, hno2] <;> (try simp (disch := omega) only [wI, wU, wC]) <;> exact rfl)
        · rintro _ _ ⟨L, hl1, hl2, hl3, _, rfl⟩
          have hl3' := hl3 rfl
          dsimp only [S.put, optG]
          repeat (first | apply Wp.seq | apply Wp.block | (apply Run.next; (simp only [push_cast, seval, hss, hge, hno, hno2] <;> (try simp (disch := omega) only [wI, wU, wC]) <;> exact rfl); (focus ((try simp only [push_cast, seval, hss, hge, hno, hno2]) <;> exact sT))) | ((first | apply Run.nil | apply Wp.skip); dsimp only [sQ, tQ, bQ]) | (apply Wp.run; (dsimp only [List.map] <;> exact rfl); exact rfl) | (apply Wp.exit; dsimp only [sQ, tQ, bQ]; simp only [reduceIte]) | (apply Run.gtrue; (simp only [push_cast, seval, hss, hge, hno, hno2] <;> (try simp (disch := omega) only [wI, wU, wC]) <;> exact rfl); (simp only [push_cast, seval, hss, hge, hno, hno2] <;> (try simp (disch := omega) only [wI, wU, wC]) <;> exact rfl)) | (apply Run.gfalse (.bool false); (simp only [push_cast, seval, hss, hge, hno, hno2] <;> (try simp (disch := omega) only [wI, wU, wC]) <;> exact rfl); dsimp only [S.put, optG]) | (apply Wp.condT; (simp only [push_cast, seval, hss, hge, hno, hno2] <;> (try simp (disch := omega) only [wI, wU, wC]) <;> exact rfl)) | (apply Wp.condF; (simp only [push_cast, seval, hss, hge, hno, hno2] <;> (try simp (disch := omega) only [wI, wU, wC]) <;> exact rfl)))
          refine Wp.loop (fun (_ : Nat) => { t := [(1, .int D.length), (6, .int 20)], m := m.set e ⟨ver, .row 1 (L.map AV.int)⟩, n := 63 }) (fun _ => True) (fun _ => 0) 0 ?_ ?_ ?_
          · (refine Le.of ?_ ?_ rfl rfl <;> (try simp only [push_cast, seval, hss, hge, hno, hno2]) <;> (try (with_reducible rfl)))
          · trivial
          · intro _ _
            repeat (first | apply Wp.seq | apply Wp.block | (apply Run.next; (simp only [push_cast, seval, hss, hge, hno, hno2] <;> (try simp (disch := omega) only [wI, wU, wC]) <;> exact rfl); (focus ((try simp only [push_cast, seval, hss, hge, hno, hno2]) <;> exact sT))) | ((first | apply Run.nil | apply Wp.skip); dsimp only [sQ, tQ, bQ]) | (apply Wp.run; (dsimp only [List.map] <;> exact rfl); exact rfl) | (apply Wp.exit; dsimp only [sQ, tQ, bQ]; simp only [reduceIte]) | (apply Run.gtrue; (simp only [push_cast, seval, hss, hge, hno, hno2] <;> (try simp (disch := omega) only [wI, wU, wC]) <;> exact rfl); (simp only [push_cast, seval, hss, hge, hno, hno2] <;> (try simp (disch := omega) only [wI, wU, wC]) <;> exact rfl)) | (apply Run.gfalse (.bool false); (simp only [push_cast, seval, hss, hge, hno, hno2] <;> (try simp (disch := omega) only [wI, wU, wC]) <;> exact rfl); dsimp only [S.put, optG]) | (apply Wp.condT; (simp only [push_cast, seval, hss, hge, hno, hno2] <;> (try simp (disch := omega) only [wI, wU, wC]) <;> exact rfl)) | (apply Wp.condF; (simp only [push_cast, seval, hss, hge, hno, hno2] <;> (try simp (disch := omega) only [wI, wU, wC]) <;> exact rfl)))
            (apply leaveAN; exact rfl; (simp only [push_cast, seval, hss, hge, hno, hno2] <;> (try simp (disch := omega) only [wI, wU, wC]) <;> exact rfl); (focus (first | (simp only [push_cast, seval, hss, hge, hno, hno2]; done) | trivial | (simp only [push_cast, seval, hss, hge, hno, hno2]; trivial) | (simp; done))); (try simp only [push_cast, seval, hss, hge, hno, hno2]))
            exact ⟨L, hl1, hl2, hl3', rfl⟩
  (refine Spec.of_bodyA Try.func89 rfl (by rw [Try.ntmps89]; simp) ?_; rw [Try.results89, Try.ntmps89]; simp only [entry, zipArgs, Nat.reduceAdd])
  repeat (first | apply Wp.seq | apply Wp.block | (apply Run.next; (simp only [push_cast, seval, hss, hge] <;> (try simp (disch := omega) only [wI, wU, wC]) <;> exact rfl); (focus ((try simp only [push_cast, seval, hss, hge]) <;> exact sT))) | ((first | apply Run.nil | apply Wp.skip); dsimp only [sQ, tQ, bQ]) | (apply Wp.run; (dsimp only [List.map] <;> exact rfl); exact rfl) | (apply Wp.exit; dsimp only [sQ, tQ, bQ]; simp only [reduceIte]))
  apply Run.spec (he := Enters.of Try.func100 rfl rfl) (hc := hin)
  · exact rfl
  · exact rfl
  · (simp only [push_cast, seval, hss, hge] <;> (try simp (disch := omega) only [wI, wU, wC]) <;> exact rfl)
  · rintro _ _ ⟨L, hl1, hl2, hl3, rfl⟩
    dsimp only [S.put, optG]
    apply Run.nil
    (apply leaveAN; exact rfl; (simp only [push_cast, seval, hss, hge] <;> (try simp (disch := omega) only [wI, wU, wC]) <;> exact rfl); (focus (first | (simp only [push_cast, seval, hss, hge]; done) | trivial | (simp only [push_cast, seval, hss, hge]; trivial) | (simp; done))); (try simp only [push_cast, seval, hss, hge]))
    exact ⟨L, hl1, hl2, hl3, rfl⟩
end Go.Proofs.Try
