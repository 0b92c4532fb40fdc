/- A part of the proof of TopLent: contracts of functions, with plain laws that they need. -/
import Derived.Test.YtlcekedcjdamoaaVgVw
import Derived.Test.YtlcekedcjdamoaaVgT
import Derived.Test.YtlcekedcjdamoaaVgDm
import Derived.Test.YtlcekedcjdamoaaVgC1J
set_option linter.all false
set_option maxHeartbeats 8000000
namespace Go.Proofs.Try
open Go.Vg

def chB (c : Ch) : Bool := wiK c.most 1 20 && wiK c.least 1 c.most && wiK c.len 1 1440 && wiK c.reset 0 1440
def maB (m : Ma) : Bool := wiK m.tong 0 255 && wiK m.to 0 1440 && wiK m.fr 0 m.to
def hoB (cs : List Ch) (ms : List Ma) (cake : Int) : Bool := (decide (cs.length ≤ 6) && decide (ms.length ≤ 6) && wiK cake 0 1440) && cs.all chB && ms.all maB
structure HV (cs : List Ch) (ms : List Ma) (cake : Int) : Prop where
  c6 : cs.length ≤ 6
  m6 : ms.length ≤ 6
  ck : 0 ≤ cake ∧ cake ≤ 1440
  ch : ∀ i, i < cs.length → ((1 ≤ (cs.getD i ch0).most ∧ (cs.getD i ch0).most ≤ 20) ∧ 1 ≤ (cs.getD i ch0).least ∧ (cs.getD i ch0).least ≤ (cs.getD i ch0).most) ∧ (1 ≤ (cs.getD i ch0).len ∧ (cs.getD i ch0).len ≤ 1440) ∧ 0 ≤ (cs.getD i ch0).reset ∧ (cs.getD i ch0).reset ≤ 1440
  ma : ∀ j, j < ms.length → (0 ≤ (ms.getD j ma0).tong ∧ (ms.getD j ma0).tong ≤ 255) ∧ (0 ≤ (ms.getD j ma0).to ∧ (ms.getD j ma0).to ≤ 1440) ∧ 0 ≤ (ms.getD j ma0).fr ∧ (ms.getD j ma0).fr ≤ (ms.getD j ma0).to
theorem hoB_ok {cs : List Ch} {ms : List Ma} {cake : Int} (h : hoB cs ms cake = true) : HV cs ms cake := by
  simp only [hoB, Bool.and_eq_true, decide_eq_true_eq, List.all_eq_true, wi_iffK] at h
  obtain ⟨⟨⟨⟨h1, h2⟩, h3⟩, h4⟩, h5⟩ := h
  refine ⟨h1, h2, h3, fun i hi => ?_, fun j hj => ?_⟩
  · have := h4 _ (memCh hi)
    simp only [chB, Bool.and_eq_true, wi_iffK] at this
    omega
  · have := h5 _ (memMa hj)
    simp only [maB, Bool.and_eq_true, wi_iffK] at this
    omega
theorem housed1_pure (m : Ma) : Pure Try.prog 68 [maA m] (.bool (!maB m)) := by
  (refine Spec.of_body Try.func68 rfl (by rw [Try.ntmps68]; simp) 0 (by simp) ?_; rw [Try.results68, Try.ntmps68]; simp only [entry, zipArgs, Nat.reduceAdd])
  repeat (first | apply Wp.seq | apply Wp.block | (apply Run.next; (simp only [push_cast, seval] <;> (try simp (disch := omega) only [wI, wU, wC]) <;> exact rfl); (focus ((try simp only [push_cast, seval]) <;> exact sT))) | ((first | apply Run.nil | apply Wp.skip); dsimp only [sQ, tQ, bQ]) | (apply Wp.run; (dsimp only [List.map] <;> exact rfl); exact rfl) | (apply Wp.exit; dsimp only [sQ, tQ, bQ]; simp only [reduceIte]))
  (apply Run.pureP; (simp only [push_cast, seval] <;> (try simp (disch := omega) only [wI, wU, wC]) <;> exact rfl); (exact (Enters.of Try.func47 rfl rfl)); (exact within_pureK _ _ _); (focus (simp only [push_cast, seval] <;> first | trivial | assumption | (refine ⟨?_, ?_⟩ <;> assumption) | (simp; done))); (try dsimp only [putA, optG]))
  repeat (first | apply Wp.seq | apply Wp.block | (apply Run.next; (simp only [push_cast, seval] <;> (try simp (disch := omega) only [wI, wU, wC]) <;> exact rfl); (focus ((try simp only [push_cast, seval]) <;> exact sT))) | ((first | apply Run.nil | apply Wp.skip); dsimp only [sQ, tQ, bQ]) | (apply Wp.run; (dsimp only [List.map] <;> exact rfl); exact rfl) | (apply Wp.exit; dsimp only [sQ, tQ, bQ]; simp only [reduceIte]))
  (apply Run.pureP; (simp only [push_cast, seval] <;> (try simp (disch := omega) only [wI, wU, wC]) <;> exact rfl); (exact (Enters.of Try.func47 rfl rfl)); (exact within_pureK _ _ _); (focus (simp only [push_cast, seval] <;> first | trivial | assumption | (refine ⟨?_, ?_⟩ <;> assumption) | (simp; done))); (try dsimp only [putA, optG]))
  repeat (first | apply Wp.seq | apply Wp.block | (apply Run.next; (simp only [push_cast, seval] <;> (try simp (disch := omega) only [wI, wU, wC]) <;> exact rfl); (focus ((try simp only [push_cast, seval]) <;> exact sT))) | ((first | apply Run.nil | apply Wp.skip); dsimp only [sQ, tQ, bQ]) | (apply Wp.run; (dsimp only [List.map] <;> exact rfl); exact rfl) | (apply Wp.exit; dsimp only [sQ, tQ, bQ]; simp only [reduceIte]))
  (apply Run.pureP; (simp only [push_cast, seval] <;> (try simp (disch := omega) only [wI, wU, wC]) <;> exact rfl); (exact (Enters.of Try.func47 rfl rfl)); (exact within_pureK _ _ _); (focus (simp only [push_cast, seval] <;> first | trivial | assumption | (refine ⟨?_, ?_⟩ <;> assumption) | (simp; done))); (try dsimp only [putA, optG]))
  repeat (first | apply Wp.seq | apply Wp.block | (apply Run.next; (simp only [push_cast, seval] <;> (try simp (disch := omega) only [wI, wU, wC]) <;> exact rfl); (focus ((try simp only [push_cast, seval]) <;> exact sT))) | ((first | apply Run.nil | apply Wp.skip); dsimp only [sQ, tQ, bQ]) | (apply Wp.run; (dsimp only [List.map] <;> exact rfl); exact rfl) | (apply Wp.exit; dsimp only [sQ, tQ, bQ]; simp only [reduceIte]))
  (apply Wp.ret; (try dsimp only [sQ, tQ, bQ]); apply leave0; exact rfl; (simp only [push_cast, seval] <;> (try simp (disch := omega) only [wI, wU, wC]) <;> exact rfl); all_goals (try simp only [push_cast, seval]); (try rfl))
  simp [maB, Bool.not_and]
theorem housed_pure (cs : List Ch) (ms : List Ma) (cake : Int) (hc : cs.length ≤ 9223372036854775807) (hm : ms.length ≤ 9223372036854775807) : Pure Try.prog 45 [houA cs ms cake] (.bool (hoB cs ms cake)) := by
  (refine Spec.of_body Try.func45 rfl (by rw [Try.ntmps45]; simp) 0 (by simp) ?_; rw [Try.results45, Try.ntmps45]; simp only [entry, zipArgs, Nat.reduceAdd])
  repeat (first | apply Wp.seq | apply Wp.block | (apply Run.next; (simp only [push_cast, seval] <;> (try simp (disch := omega) only [wI, wU, wC]) <;> exact rfl); (focus ((try simp only [push_cast, seval]) <;> exact sT))) | ((first | apply Run.nil | apply Wp.skip); dsimp only [sQ, tQ, bQ]) | (apply Wp.run; (dsimp only [List.map] <;> exact rfl); exact rfl) | (apply Wp.exit; dsimp only [sQ, tQ, bQ]; simp only [reduceIte]))
  (apply Run.pureP; (simp only [push_cast, seval] <;> (try simp (disch := omega) only [wI, wU, wC]) <;> exact rfl); (exact (Enters.of Try.func47 rfl rfl)); (exact within_pureK _ _ _); (focus (simp only [push_cast, seval] <;> first | trivial | assumption | (refine ⟨?_, ?_⟩ <;> assumption) | (simp; done))); (try dsimp only [putA, optG]))
  repeat (first | apply Wp.seq | apply Wp.block | (apply Run.next; (simp only [push_cast, seval] <;> (try simp (disch := omega) only [wI, wU, wC]) <;> exact rfl); (focus ((try simp only [push_cast, seval]) <;> exact sT))) | ((first | apply Run.nil | apply Wp.skip); dsimp only [sQ, tQ, bQ]) | (apply Wp.run; (dsimp only [List.map] <;> exact rfl); exact rfl) | (apply Wp.exit; dsimp only [sQ, tQ, bQ]; simp only [reduceIte]))
  (apply Wp.cond; (simp only [push_cast, seval] <;> (try simp (disch := omega) only [wI, wU, wC]) <;> exact rfl))
  · intro h1
    repeat (first | apply Wp.seq | apply Wp.block | (apply Run.next; (simp only [push_cast, seval] <;> (try simp (disch := omega) only [wI, wU, wC]) <;> exact rfl); (focus ((try simp only [push_cast, seval]) <;> exact sT))) | ((first | apply Run.nil | apply Wp.skip); dsimp only [sQ, tQ, bQ]) | (apply Wp.run; (dsimp only [List.map] <;> exact rfl); exact rfl) | (apply Wp.exit; dsimp only [sQ, tQ, bQ]; simp only [reduceIte]))
    (apply Wp.ret; (try dsimp only [sQ, tQ, bQ]); apply leave0; exact rfl; (simp only [push_cast, seval] <;> (try simp (disch := omega) only [wI, wU, wC]) <;> exact rfl); all_goals (try simp only [push_cast, seval]); (try rfl))
    have h2 : (decide (cs.length ≤ 6) && decide (ms.length ≤ 6) && wiK cake 0 1440) = false := by
      rw [← Bool.not_eq_true]
      intro h2
      simp only [Bool.and_eq_true, decide_eq_true_eq] at h2
      have e1 : decide ((6 : Int) < (cs.length : Int)) = false := decide_eq_false (by omega)
      have e2 : decide ((6 : Int) < (ms.length : Int)) = false := decide_eq_false (by omega)
      rw [e1, e2, h2.2] at h1
      cases h1
    simp [hoB, h2]
  · intro h1
    have h2 : (decide (cs.length ≤ 6) && decide (ms.length ≤ 6) && wiK cake 0 1440) = true := by
      simp only [Bool.or_eq_false_iff, decide_eq_false_iff_not, Int.not_lt, Bool.not_eq_false'] at h1
      simp only [Bool.and_eq_true, decide_eq_true_eq]
      exact ⟨⟨by omega, by omega⟩, h1.2⟩
    repeat (first | apply Wp.seq | apply Wp.block | (apply Run.next; (simp only [push_cast, seval] <;> (try simp (disch := omega) only [wI, wU, wC]) <;> exact rfl); (focus ((try simp only [push_cast, seval]) <;> exact sT))) | ((first | apply Run.nil | apply Wp.skip); dsimp only [sQ, tQ, bQ]) | (apply Wp.run; (dsimp only [List.map] <;> exact rfl); exact rfl) | (apply Wp.exit; dsimp only [sQ, tQ, bQ]; simp only [reduceIte]))
    (refine Wp.vacs 1 ?_; (try simp only [List.replicate_succ, List.replicate_zero, List.cons_append, List.nil_append]))
    refine Wp.loop (fun (q : Nat × Nat × Kind) => { t := [(1, .optr 0 0 0 0), (22, .lst 4 (cs.map chA)), (23, .int cs.length), (24, .int q.1)], m := [⟨0, .row 3 [houA cs ms cake]⟩, ⟨q.2.1, q.2.2⟩], n := 57 }) (fun q => q.1 ≤ cs.length ∧ ∀ j, j < q.1 → chB (cs.getD j ch0) = true) (fun q => cs.length - q.1) (0, 0, .row 1 []) ?_ ?_ ?_
    · (refine Le.of ?_ ?_ rfl rfl <;> (try simp only [push_cast, seval]) <;> (try (with_reducible rfl)))
      all_goals rfl
    · simp
    · rintro ⟨k, v, kd⟩ ⟨hk1, hk2⟩
      simp only at hk1 hk2
      repeat (first | apply Wp.seq | apply Wp.block | (apply Run.calm; exact rfl; (simp only [push_cast, seval] <;> (try simp (disch := omega) only [wI, wU, wC]) <;> exact rfl); (focus ((try simp only [push_cast, seval]) <;> exact sT))) | ((first | apply Run.nil | apply Wp.skip); dsimp only [sQ, tQ, bQ]) | (apply Wp.run; (dsimp only [List.map] <;> exact rfl); exact rfl) | (apply Wp.exit; dsimp only [sQ, tQ, bQ]; simp only [reduceIte]))
      (apply Wp.cond; (simp only [push_cast, seval] <;> (try simp (disch := omega) only [wI, wU, wC]) <;> exact rfl))
      · (intro hc; try simp only [decide_eq_true_eq, decide_eq_false_iff_not, Bool.and_eq_true, Bool.or_eq_true, Bool.not_eq_true, Bool.not_eq_false, Bool.not_eq_true', Bool.not_eq_false', Bool.and_eq_false_iff, Bool.or_eq_false_iff, Int.not_lt, Int.not_le, Int.ofNat_lt, Int.ofNat_le] at hc)
        generalize hx : cs.getD k ch0 = x
        repeat (first | apply Wp.seq | apply Wp.block | (apply Run.calm; exact rfl; (simp only [push_cast, seval, hx] <;> (try simp (disch := omega) only [wI, wU, wC]) <;> exact rfl); (focus ((try simp only [push_cast, seval, hx]) <;> exact sT))) | ((first | apply Run.nil | apply Wp.skip); dsimp only [sQ, tQ, bQ]) | (apply Wp.run; (dsimp only [List.map] <;> exact rfl); exact rfl) | (apply Wp.exit; dsimp only [sQ, tQ, bQ]; simp only [reduceIte]))
        (apply Run.alcAt 1; (simp only [push_cast, seval, hx] <;> (try simp (disch := omega) only [wI, wU, wC]) <;> exact rfl); (focus ((try simp only [push_cast, seval, hx]) <;> exact sT)); exact rfl; (try simp only [push_cast, seval, hx]))
        repeat (first | apply Wp.seq | apply Wp.block | (apply Run.next; (simp only [push_cast, seval, hx] <;> (try simp (disch := omega) only [wI, wU, wC]) <;> exact rfl); (focus ((try simp only [push_cast, seval, hx]) <;> exact sT))) | ((first | apply Run.nil | apply Wp.skip); dsimp only [sQ, tQ, bQ]) | (apply Wp.run; (dsimp only [List.map] <;> exact rfl); exact rfl) | (apply Wp.exit; dsimp only [sQ, tQ, bQ]; simp only [reduceIte]))
        (apply Run.pureP; (simp only [push_cast, seval, hx] <;> (try simp (disch := omega) only [wI, wU, wC]) <;> exact rfl); (exact (Enters.of Try.func47 rfl rfl)); (exact within_pureK _ _ _); (focus (simp only [push_cast, seval, hx] <;> first | trivial | assumption | (refine ⟨?_, ?_⟩ <;> assumption) | (simp; done))); (try dsimp only [putA, optG]))
        repeat (first | apply Wp.seq | apply Wp.block | (apply Run.next; (simp only [push_cast, seval, hx] <;> (try simp (disch := omega) only [wI, wU, wC]) <;> exact rfl); (focus ((try simp only [push_cast, seval, hx]) <;> exact sT))) | ((first | apply Run.nil | apply Wp.skip); dsimp only [sQ, tQ, bQ]) | (apply Wp.run; (dsimp only [List.map] <;> exact rfl); exact rfl) | (apply Wp.exit; dsimp only [sQ, tQ, bQ]; simp only [reduceIte]))
        (apply Run.pureP; (simp only [push_cast, seval, hx] <;> (try simp (disch := omega) only [wI, wU, wC]) <;> exact rfl); (exact (Enters.of Try.func47 rfl rfl)); (exact within_pureK _ _ _); (focus (simp only [push_cast, seval, hx] <;> first | trivial | assumption | (refine ⟨?_, ?_⟩ <;> assumption) | (simp; done))); (try dsimp only [putA, optG]))
        repeat (first | apply Wp.seq | apply Wp.block | (apply Run.next; (simp only [push_cast, seval, hx] <;> (try simp (disch := omega) only [wI, wU, wC]) <;> exact rfl); (focus ((try simp only [push_cast, seval, hx]) <;> exact sT))) | ((first | apply Run.nil | apply Wp.skip); dsimp only [sQ, tQ, bQ]) | (apply Wp.run; (dsimp only [List.map] <;> exact rfl); exact rfl) | (apply Wp.exit; dsimp only [sQ, tQ, bQ]; simp only [reduceIte]))
        (apply Run.pureP; (simp only [push_cast, seval, hx] <;> (try simp (disch := omega) only [wI, wU, wC]) <;> exact rfl); (exact (Enters.of Try.func47 rfl rfl)); (exact within_pureK _ _ _); (focus (simp only [push_cast, seval, hx] <;> first | trivial | assumption | (refine ⟨?_, ?_⟩ <;> assumption) | (simp; done))); (try dsimp only [putA, optG]))
        repeat (first | apply Wp.seq | apply Wp.block | (apply Run.next; (simp only [push_cast, seval, hx] <;> (try simp (disch := omega) only [wI, wU, wC]) <;> exact rfl); (focus ((try simp only [push_cast, seval, hx]) <;> exact sT))) | ((first | apply Run.nil | apply Wp.skip); dsimp only [sQ, tQ, bQ]) | (apply Wp.run; (dsimp only [List.map] <;> exact rfl); exact rfl) | (apply Wp.exit; dsimp only [sQ, tQ, bQ]; simp only [reduceIte]))
        (apply Run.pureP; (simp only [push_cast, seval, hx] <;> (try simp (disch := omega) only [wI, wU, wC]) <;> exact rfl); (exact (Enters.of Try.func47 rfl rfl)); (exact within_pureK _ _ _); (focus (simp only [push_cast, seval, hx] <;> first | trivial | assumption | (refine ⟨?_, ?_⟩ <;> assumption) | (simp; done))); (try dsimp only [putA, optG]))
        repeat (first | apply Wp.seq | apply Wp.block | (apply Run.next; (simp only [push_cast, seval, hx] <;> (try simp (disch := omega) only [wI, wU, wC]) <;> exact rfl); (focus ((try simp only [push_cast, seval, hx]) <;> exact sT))) | ((first | apply Run.nil | apply Wp.skip); dsimp only [sQ, tQ, bQ]) | (apply Wp.run; (dsimp only [List.map] <;> exact rfl); exact rfl) | (apply Wp.exit; dsimp only [sQ, tQ, bQ]; simp only [reduceIte]))
        (apply Wp.cond; (simp only [push_cast, seval, hx] <;> (try simp (disch := omega) only [wI, wU, wC]) <;> exact rfl))
        · intro h3
          repeat (first | apply Wp.seq | apply Wp.block | (apply Run.next; (simp only [push_cast, seval, hx] <;> (try simp (disch := omega) only [wI, wU, wC]) <;> exact rfl); (focus ((try simp only [push_cast, seval, hx]) <;> exact sT))) | ((first | apply Run.nil | apply Wp.skip); dsimp only [sQ, tQ, bQ]) | (apply Wp.run; (dsimp only [List.map] <;> exact rfl); exact rfl) | (apply Wp.exit; dsimp only [sQ, tQ, bQ]; simp only [reduceIte]))
          (apply Wp.ret; (try dsimp only [sQ, tQ, bQ]); apply leave0; exact rfl; (simp only [push_cast, seval, hx] <;> (try simp (disch := omega) only [wI, wU, wC]) <;> exact rfl); all_goals (try simp only [push_cast, seval, hx]); (try rfl))
          have h4 : chB (cs.getD k ch0) = false := by
            rw [hx, ← Bool.not_eq_true]
            intro h4
            simp only [chB, Bool.and_eq_true] at h4
            simp [h4] at h3
          rw [hoB, all_noK hc h4]; simp
        · intro h3
          have h4 : chB (cs.getD k ch0) = true := by
            rw [hx]
            simpa [chB, and_assoc] using h3
          repeat (first | apply Wp.seq | apply Wp.block | (apply Run.next; (simp only [push_cast, seval, hx] <;> (try simp (disch := omega) only [wI, wU, wC]) <;> exact rfl); (focus ((try simp only [push_cast, seval, hx]) <;> exact sT))) | ((first | apply Run.nil | apply Wp.skip); dsimp only [sQ, tQ, bQ]) | (apply Wp.run; (dsimp only [List.map] <;> exact rfl); exact rfl) | (apply Wp.exit; dsimp only [sQ, tQ, bQ]; simp only [reduceIte]))
          refine ⟨(k + 1, v + 1, .row 4 [chA x]), ?_, ⟨by simp only; omega, fun j hj => ?_⟩, by simp only; omega⟩
          · (refine Le.of ?_ ?_ rfl rfl <;> (try simp only [push_cast, seval, hx]) <;> (try (with_reducible rfl)))
          · simp only at hj
            by_cases hjk : j = k
            · subst hjk; exact h4
            · exact hk2 j (by omega)
      · (intro hc; try simp only [decide_eq_true_eq, decide_eq_false_iff_not, Bool.and_eq_true, Bool.or_eq_true, Bool.not_eq_true, Bool.not_eq_false, Bool.not_eq_true', Bool.not_eq_false', Bool.and_eq_false_iff, Bool.or_eq_false_iff, Int.not_lt, Int.not_le, Int.ofNat_lt, Int.ofNat_le] at hc)
        obtain rfl : k = cs.length := by omega
        repeat (first | apply Wp.seq | apply Wp.block | (apply Run.next; (simp only [push_cast, seval] <;> (try simp (disch := omega) only [wI, wU, wC]) <;> exact rfl); (focus ((try simp only [push_cast, seval]) <;> exact sT))) | ((first | apply Run.nil | apply Wp.skip); dsimp only [sQ, tQ, bQ]) | (apply Wp.run; (dsimp only [List.map] <;> exact rfl); exact rfl) | (apply Wp.exit; dsimp only [sQ, tQ, bQ]; simp only [reduceIte]))
        (apply Run.pureP; (simp only [push_cast, seval] <;> (try simp (disch := omega) only [wI, wU, wC]) <;> exact rfl); (exact (Enters.of Try.func67 rfl rfl)); (exact containsFuncMa ms 68 [] (fun x => !maB x) (Enters.of Try.func68 rfl rfl) trivial (fun _ => ⟨rfl, rfl⟩) (fun x _ => housed1_pure x) hm); (focus (simp only [push_cast, seval] <;> first | trivial | assumption | (refine ⟨?_, ?_⟩ <;> assumption) | (simp; done))); (try dsimp only [putA, optG]))
        rw [any_notK]
        repeat (first | apply Wp.seq | apply Wp.block | (apply Run.next; (simp only [push_cast, seval] <;> (try simp (disch := omega) only [wI, wU, wC]) <;> exact rfl); (focus ((try simp only [push_cast, seval]) <;> exact sT))) | ((first | apply Run.nil | apply Wp.skip); dsimp only [sQ, tQ, bQ]) | (apply Wp.run; (dsimp only [List.map] <;> exact rfl); exact rfl) | (apply Wp.exit; dsimp only [sQ, tQ, bQ]; simp only [reduceIte]))
        (apply Wp.ret; (try dsimp only [sQ, tQ, bQ]); apply leave0; exact rfl; (simp only [push_cast, seval] <;> (try simp (disch := omega) only [wI, wU, wC]) <;> exact rfl); all_goals (try simp only [push_cast, seval]); (try rfl))
        rw [hoB, h2, all_atK hk2]; simp
/-! when a booking plays, and needs its room -/
def endG (cs : List Ch) (b : Bk) : Int := b.st + (cs.getD b.ch.toNat ch0).len
def endR (cs : List Ch) (cake : Int) (b : Bk) : Int := endG cs b + (cs.getD b.ch.toNat ch0).reset + (if b.bday = true then cake else 0)
abbrev spA (a b : Int) : AV := .agg [.int a, .int b]
structure BV (cs : List Ch) (b : Bk) : Prop where
  ch : 0 ≤ b.ch ∧ b.ch < cs.length
  st : 0 ≤ b.st ∧ b.st ≤ 1440
theorem plays_pure {cs : List Ch} {ms : List Ma} {cake : Int} (hv : HV cs ms cake) {b : Bk} (hb : BV cs b) : Pure Try.prog 69 [houA cs ms cake, bkA b] (spA b.st (endG cs b)) := by
  obtain ⟨b1, b2⟩ := hb
  have h := hv.ch b.ch.toNat (by omega)
  unfold endG
  generalize hx : cs.getD b.ch.toNat ch0 = x at *
  (refine Spec.of_body Try.func69 rfl (by rw [Try.ntmps69]; simp) 0 (by simp) ?_; rw [Try.results69, Try.ntmps69]; simp only [entry, zipArgs, Nat.reduceAdd])
  repeat (first | apply Wp.seq | apply Wp.block | (apply Run.next; (simp only [push_cast, seval, hx] <;> (try simp (disch := omega) only [wI, wU, wC]) <;> exact rfl); (focus ((try simp only [push_cast, seval, hx]) <;> exact sT))) | ((first | apply Run.nil | apply Wp.skip); dsimp only [sQ, tQ, bQ]) | (apply Wp.run; (dsimp only [List.map] <;> exact rfl); exact rfl) | (apply Wp.exit; dsimp only [sQ, tQ, bQ]; simp only [reduceIte]))
  (apply Wp.runE 13 13 mixed; (dsimp only [List.map] <;> exact rfl); exact rfl; kernel_rfl; ((repeat (apply Abe.next; exact rfl; (simp only [push_cast, seval, hx] <;> (try simp (disch := omega) only [wI, wU, wC]) <;> exact rfl); (focus ((try simp only [push_cast, seval, hx]) <;> exact sT)))); (apply Abe.eff; exact rfl; (simp only [push_cast, seval, hx] <;> (try simp (disch := omega) only [wI, wU, wC]) <;> exact rfl); (focus ((try simp only [push_cast, seval, hx]) <;> exact sT)); (try dsimp only [putA])); exact Abe.nil))
  (apply Wp.ret; (try dsimp only [sQ, tQ, bQ]); apply leave0; exact rfl; (simp only [push_cast, seval, hx] <;> (try simp (disch := omega) only [wI, wU, wC]) <;> exact rfl); all_goals (try simp only [push_cast, seval, hx]); (try rfl))
theorem needs_pure {cs : List Ch} {ms : List Ma} {cake : Int} (hv : HV cs ms cake) {b : Bk} (hb : BV cs b) : Pure Try.prog 48 [houA cs ms cake, bkA b] (spA b.st (endR cs cake b)) := by
  have hp := plays_pure hv hb
  obtain ⟨b1, b2⟩ := hb
  have h := hv.ch b.ch.toNat (by omega)
  have hck := hv.ck
  unfold endR endG
  unfold endG at hp
  generalize hx : cs.getD b.ch.toNat ch0 = x at *
  (refine Spec.of_body Try.func48 rfl (by rw [Try.ntmps48]; simp) 0 (by simp) ?_; rw [Try.results48, Try.ntmps48]; simp only [entry, zipArgs, Nat.reduceAdd])
  repeat (first | apply Wp.seq | apply Wp.block | (apply Run.next; (simp only [push_cast, seval, hx] <;> (try simp (disch := omega) only [wI, wU, wC]) <;> exact rfl); (focus ((try simp only [push_cast, seval, hx]) <;> exact sT))) | ((first | apply Run.nil | apply Wp.skip); dsimp only [sQ, tQ, bQ]) | (apply Wp.run; (dsimp only [List.map] <;> exact rfl); exact rfl) | (apply Wp.exit; dsimp only [sQ, tQ, bQ]; simp only [reduceIte]))
  (apply Run.pureP; (simp only [push_cast, seval, hx] <;> (try simp (disch := omega) only [wI, wU, wC]) <;> exact rfl); (exact (Enters.of Try.func69 rfl rfl)); (exact hp); (focus (simp only [push_cast, seval, hx] <;> first | trivial | assumption | (refine ⟨?_, ?_⟩ <;> assumption) | (simp; done))); (try dsimp only [putA, optG]))
  repeat (first | apply Wp.seq | apply Wp.block | (apply Run.next; (simp only [push_cast, seval, hx] <;> (try simp (disch := omega) only [wI, wU, wC]) <;> exact rfl); (focus ((try simp only [push_cast, seval, hx]) <;> exact sT))) | ((first | apply Run.nil | apply Wp.skip); dsimp only [sQ, tQ, bQ]) | (apply Wp.run; (dsimp only [List.map] <;> exact rfl); exact rfl) | (apply Wp.exit; dsimp only [sQ, tQ, bQ]; simp only [reduceIte]))
  (apply Wp.runE 11 11 mixed; (dsimp only [List.map] <;> exact rfl); exact rfl; kernel_rfl; ((repeat (apply Abe.next; exact rfl; (simp only [push_cast, seval, hx] <;> (try simp (disch := omega) only [wI, wU, wC]) <;> exact rfl); (focus ((try simp only [push_cast, seval, hx]) <;> exact sT)))); (apply Abe.eff; exact rfl; (simp only [push_cast, seval, hx] <;> (try simp (disch := omega) only [wI, wU, wC]) <;> exact rfl); (focus ((try simp only [push_cast, seval, hx]) <;> exact sT)); (try dsimp only [putA])); exact Abe.nil))
  repeat (first | apply Wp.seq | apply Wp.block | (apply Run.next; (simp only [push_cast, seval, hx] <;> (try simp (disch := omega) only [wI, wU, wC]) <;> exact rfl); (focus ((try simp only [push_cast, seval, hx]) <;> exact sT))) | ((first | apply Run.nil | apply Wp.skip); dsimp only [sQ, tQ, bQ]) | (apply Wp.run; (dsimp only [List.map] <;> exact rfl); exact rfl) | (apply Wp.exit; dsimp only [sQ, tQ, bQ]; simp only [reduceIte]))
  (apply Wp.cond; (simp only [push_cast, seval, hx] <;> (try simp (disch := omega) only [wI, wU, wC]) <;> exact rfl))
  · intro hb1
    rw [if_pos hb1]
    repeat (first | apply Wp.seq | apply Wp.block | (apply Run.next; (simp only [push_cast, seval, hx] <;> (try simp (disch := omega) only [wI, wU, wC]) <;> exact rfl); (focus ((try simp only [push_cast, seval, hx]) <;> exact sT))) | ((first | apply Run.nil | apply Wp.skip); dsimp only [sQ, tQ, bQ]) | (apply Wp.run; (dsimp only [List.map] <;> exact rfl); exact rfl) | (apply Wp.exit; dsimp only [sQ, tQ, bQ]; simp only [reduceIte]))
    (apply Wp.ret; (try dsimp only [sQ, tQ, bQ]); apply leave0; exact rfl; (simp only [push_cast, seval, hx] <;> (try simp (disch := omega) only [wI, wU, wC]) <;> exact rfl); all_goals (try simp only [push_cast, seval, hx]); (try rfl))
  · intro hb1
    rw [if_neg (by rw [hb1]; simp), Int.add_zero]
    repeat (first | apply Wp.seq | apply Wp.block | (apply Run.next; (simp only [push_cast, seval, hx] <;> (try simp (disch := omega) only [wI, wU, wC]) <;> exact rfl); (focus ((try simp only [push_cast, seval, hx]) <;> exact sT))) | ((first | apply Run.nil | apply Wp.skip); dsimp only [sQ, tQ, bQ]) | (apply Wp.run; (dsimp only [List.map] <;> exact rfl); exact rfl) | (apply Wp.exit; dsimp only [sQ, tQ, bQ]; simp only [reduceIte]))
    (apply Wp.ret; (try dsimp only [sQ, tQ, bQ]); apply leave0; exact rfl; (simp only [push_cast, seval, hx] <;> (try simp (disch := omega) only [wI, wU, wC]) <;> exact rfl); all_goals (try simp only [push_cast, seval, hx]); (try rfl))
theorem meets_pure (a b c d : Int) : Pure Try.prog 49 [spA a b, spA c d] (.bool (decide (a < d) && decide (c < b))) := by
  (refine Spec.of_body Try.func49 rfl (by rw [Try.ntmps49]; simp) 0 (by simp) ?_; rw [Try.results49, Try.ntmps49]; simp only [entry, zipArgs, Nat.reduceAdd])
  repeat (first | apply Wp.seq | apply Wp.block | (apply Run.next; (simp only [push_cast, seval] <;> (try simp (disch := omega) only [wI, wU, wC]) <;> exact rfl); (focus ((try simp only [push_cast, seval]) <;> exact sT))) | ((first | apply Run.nil | apply Wp.skip); dsimp only [sQ, tQ, bQ]) | (apply Wp.run; (dsimp only [List.map] <;> exact rfl); exact rfl) | (apply Wp.exit; dsimp only [sQ, tQ, bQ]; simp only [reduceIte]))
  (apply Wp.ret; (try dsimp only [sQ, tQ, bQ]); apply leave0; exact rfl; (simp only [push_cast, seval] <;> (try simp (disch := omega) only [wI, wU, wC]) <;> exact rfl); all_goals (try simp only [push_cast, seval]); (try rfl))
/-! bookings that are valid -/
def bkB (cs : List Ch) (cake : Int) (b : Bk) : Bool := wiK b.ch 0 ((cs.length : Int) - 1) && wiK b.st 0 1440 && wiK b.tongue 0 7 && wiK b.size (cs.getD b.ch.toNat ch0).least (cs.getD b.ch.toNat ch0).most && decide (endR cs cake b ≤ 1440)
theorem bkB_bv {cs : List Ch} {cake : Int} {b : Bk} (h : bkB cs cake b = true) : BV cs b ∧ (0 ≤ b.tongue ∧ b.tongue ≤ 7) ∧ endR cs cake b ≤ 1440 := by
  simp only [bkB, Bool.and_eq_true, wi_iffK, decide_eq_true_eq] at h
  exact ⟨⟨by omega, by omega⟩, by omega, by omega⟩
theorem booked_pure {cs : List Ch} {ms : List Ma} {cake : Int} (hv : HV cs ms cake) (b : Bk) : Pure Try.prog 46 [houA cs ms cake, bkA b] (.bool (bkB cs cake b)) := by
  have hc6 := hv.c6
  (refine Spec.of_body Try.func46 rfl (by rw [Try.ntmps46]; simp) 0 (by simp) ?_; rw [Try.results46, Try.ntmps46]; simp only [entry, zipArgs, Nat.reduceAdd])
  repeat (first | apply Wp.seq | apply Wp.block | (apply Run.next; (simp only [push_cast, seval] <;> (try simp (disch := omega) only [wI, wU, wC]) <;> exact rfl); (focus ((try simp only [push_cast, seval]) <;> exact sT))) | ((first | apply Run.nil | apply Wp.skip); dsimp only [sQ, tQ, bQ]) | (apply Wp.run; (dsimp only [List.map] <;> exact rfl); exact rfl) | (apply Wp.exit; dsimp only [sQ, tQ, bQ]; simp only [reduceIte]))
  (apply Run.pureP; (simp only [push_cast, seval] <;> (try simp (disch := omega) only [wI, wU, wC]) <;> exact rfl); (exact (Enters.of Try.func47 rfl rfl)); (exact within_pureK _ _ _); (focus (simp only [push_cast, seval] <;> first | trivial | assumption | (refine ⟨?_, ?_⟩ <;> assumption) | (simp; done))); (try dsimp only [putA, optG]))
  repeat (first | apply Wp.seq | apply Wp.block | (apply Run.next; (simp only [push_cast, seval] <;> (try simp (disch := omega) only [wI, wU, wC]) <;> exact rfl); (focus ((try simp only [push_cast, seval]) <;> exact sT))) | ((first | apply Run.nil | apply Wp.skip); dsimp only [sQ, tQ, bQ]) | (apply Wp.run; (dsimp only [List.map] <;> exact rfl); exact rfl) | (apply Wp.exit; dsimp only [sQ, tQ, bQ]; simp only [reduceIte]))
  (apply Run.pureP; (simp only [push_cast, seval] <;> (try simp (disch := omega) only [wI, wU, wC]) <;> exact rfl); (exact (Enters.of Try.func47 rfl rfl)); (exact within_pureK _ _ _); (focus (simp only [push_cast, seval] <;> first | trivial | assumption | (refine ⟨?_, ?_⟩ <;> assumption) | (simp; done))); (try dsimp only [putA, optG]))
  repeat (first | apply Wp.seq | apply Wp.block | (apply Run.next; (simp only [push_cast, seval] <;> (try simp (disch := omega) only [wI, wU, wC]) <;> exact rfl); (focus ((try simp only [push_cast, seval]) <;> exact sT))) | ((first | apply Run.nil | apply Wp.skip); dsimp only [sQ, tQ, bQ]) | (apply Wp.run; (dsimp only [List.map] <;> exact rfl); exact rfl) | (apply Wp.exit; dsimp only [sQ, tQ, bQ]; simp only [reduceIte]))
  (apply Run.pureP; (simp only [push_cast, seval] <;> (try simp (disch := omega) only [wI, wU, wC]) <;> exact rfl); (exact (Enters.of Try.func47 rfl rfl)); (exact within_pureK _ _ _); (focus (simp only [push_cast, seval] <;> first | trivial | assumption | (refine ⟨?_, ?_⟩ <;> assumption) | (simp; done))); (try dsimp only [putA, optG]))
  repeat (first | apply Wp.seq | apply Wp.block | (apply Run.next; (simp only [push_cast, seval] <;> (try simp (disch := omega) only [wI, wU, wC]) <;> exact rfl); (focus ((try simp only [push_cast, seval]) <;> exact sT))) | ((first | apply Run.nil | apply Wp.skip); dsimp only [sQ, tQ, bQ]) | (apply Wp.run; (dsimp only [List.map] <;> exact rfl); exact rfl) | (apply Wp.exit; dsimp only [sQ, tQ, bQ]; simp only [reduceIte]))
  (apply Wp.cond; (simp only [push_cast, seval] <;> (try simp (disch := omega) only [wI, wU, wC]) <;> exact rfl))
  · intro h1
    repeat (first | apply Wp.seq | apply Wp.block | (apply Run.next; (simp only [push_cast, seval] <;> (try simp (disch := omega) only [wI, wU, wC]) <;> exact rfl); (focus ((try simp only [push_cast, seval]) <;> exact sT))) | ((first | apply Run.nil | apply Wp.skip); dsimp only [sQ, tQ, bQ]) | (apply Wp.run; (dsimp only [List.map] <;> exact rfl); exact rfl) | (apply Wp.exit; dsimp only [sQ, tQ, bQ]; simp only [reduceIte]))
    (apply Wp.ret; (try dsimp only [sQ, tQ, bQ]); apply leave0; exact rfl; (simp only [push_cast, seval] <;> (try simp (disch := omega) only [wI, wU, wC]) <;> exact rfl); all_goals (try simp only [push_cast, seval]); (try rfl))
    have h2 : bkB cs cake b = false := by
      rw [← Bool.not_eq_true]
      intro h2
      simp only [bkB, Bool.and_eq_true] at h2
      simp [h2] at h1
    rw [h2]
  · intro h1
    have h2 : (wiK b.ch 0 ((cs.length : Int) - 1) && wiK b.st 0 1440 && wiK b.tongue 0 7) = true := by simpa [and_assoc] using h1
    have h3 := h2
    simp only [Bool.and_eq_true, wi_iffK] at h3
    have hn := needs_pure hv (b := b) ⟨by omega, by omega⟩
    unfold bkB
    rw [h2, Bool.true_and]
    generalize hx : cs.getD b.ch.toNat ch0 = x
    repeat (first | apply Wp.seq | apply Wp.block | (apply Run.next; (simp only [push_cast, seval, hx] <;> (try simp (disch := omega) only [wI, wU, wC]) <;> exact rfl); (focus ((try simp only [push_cast, seval, hx]) <;> exact sT))) | ((first | apply Run.nil | apply Wp.skip); dsimp only [sQ, tQ, bQ]) | (apply Wp.run; (dsimp only [List.map] <;> exact rfl); exact rfl) | (apply Wp.exit; dsimp only [sQ, tQ, bQ]; simp only [reduceIte]))
    (apply Run.pureP; (simp only [push_cast, seval, hx] <;> (try simp (disch := omega) only [wI, wU, wC]) <;> exact rfl); (exact (Enters.of Try.func47 rfl rfl)); (exact within_pureK _ _ _); (focus (simp only [push_cast, seval, hx] <;> first | trivial | assumption | (refine ⟨?_, ?_⟩ <;> assumption) | (simp; done))); (try dsimp only [putA, optG]))
    repeat (first | apply Wp.seq | apply Wp.block | (apply Run.next; (simp only [push_cast, seval, hx] <;> (try simp (disch := omega) only [wI, wU, wC]) <;> exact rfl); (focus ((try simp only [push_cast, seval, hx]) <;> exact sT))) | ((first | apply Run.nil | apply Wp.skip); dsimp only [sQ, tQ, bQ]) | (apply Wp.run; (dsimp only [List.map] <;> exact rfl); exact rfl) | (apply Wp.exit; dsimp only [sQ, tQ, bQ]; simp only [reduceIte]))
    (apply Run.pureP; (simp only [push_cast, seval, hx] <;> (try simp (disch := omega) only [wI, wU, wC]) <;> exact rfl); (exact (Enters.of Try.func48 rfl rfl)); (exact hn); (focus (simp only [push_cast, seval, hx] <;> first | trivial | assumption | (refine ⟨?_, ?_⟩ <;> assumption) | (simp; done))); (try dsimp only [putA, optG]))
    repeat (first | apply Wp.seq | apply Wp.block | (apply Run.next; (simp only [push_cast, seval, hx] <;> (try simp (disch := omega) only [wI, wU, wC]) <;> exact rfl); (focus ((try simp only [push_cast, seval, hx]) <;> exact sT))) | ((first | apply Run.nil | apply Wp.skip); dsimp only [sQ, tQ, bQ]) | (apply Wp.run; (dsimp only [List.map] <;> exact rfl); exact rfl) | (apply Wp.exit; dsimp only [sQ, tQ, bQ]; simp only [reduceIte]))
    (apply Wp.ret; (try dsimp only [sQ, tQ, bQ]); apply leave0; exact rfl; (simp only [push_cast, seval, hx] <;> (try simp (disch := omega) only [wI, wU, wC]) <;> exact rfl); all_goals (try simp only [push_cast, seval, hx]); (try rfl))
def okB (cs : List Ch) (cake : Int) (ls : List Bk) (i : Nat) : Bool := bkB cs cake (ls.getD i bk0) && (decide ((ls.getD i bk0).rival = -1) || (!decide ((ls.getD i bk0).rival = (i : Int)) && wiK (ls.getD i bk0).rival 0 ((ls.length : Int) - 1) && decide ((ls.getD (ls.getD i bk0).rival.toNat bk0).rival = (i : Int))))
def ckE (cs : List Ch) (ms : List Ma) (cake : Int) (ls : List Bk) : Int := if hoB cs ms cake = true then (if ls.length ≤ 20 then (if (List.range ls.length).all (okB cs cake ls) = true then 0 else 110) else 2) else 110
theorem okx (p a b c d : Bool) : (p && (a || (!b && c && d))) = !(!p || !a && (b || !c || !d)) := by cases p <;> cases a <;> cases b <;> cases c <;> cases d <;> rfl
theorem check_pureK (cs : List Ch) (ms : List Ma) (cake : Int) (ls : List Bk) (hc : cs.length ≤ 9223372036854775807) (hm : ms.length ≤ 9223372036854775807) (hl : ls.length ≤ 9223372036854775807) : Pure Try.prog 22 [houA cs ms cake, .lst 6 (ls.map bkA)] (.int (ckE cs ms cake ls)) := by
  have hho := housed_pure cs ms cake hc hm
  unfold ckE
  cases h1 : hoB cs ms cake with
  | false =>
    rw [h1] at hho
    rw [if_neg (by simp)]
    (refine Spec.of_body Try.func22 rfl (by rw [Try.ntmps22]; simp) 0 (by simp) ?_; rw [Try.results22, Try.ntmps22]; simp only [entry, zipArgs, Nat.reduceAdd])
    repeat (first | apply Wp.seq | apply Wp.block | (apply Run.next; (simp only [push_cast, seval] <;> (try simp (disch := omega) only [wI, wU, wC]) <;> exact rfl); (focus ((try simp only [push_cast, seval]) <;> exact sT))) | ((first | apply Run.nil | apply Wp.skip); dsimp only [sQ, tQ, bQ]) | (apply Wp.run; (dsimp only [List.map] <;> exact rfl); exact rfl) | (apply Wp.exit; dsimp only [sQ, tQ, bQ]; simp only [reduceIte]))
    (apply Run.pureP; (simp only [push_cast, seval] <;> (try simp (disch := omega) only [wI, wU, wC]) <;> exact rfl); (exact (Enters.of Try.func45 rfl rfl)); (exact hho); (focus (simp only [push_cast, seval] <;> first | trivial | assumption | (refine ⟨?_, ?_⟩ <;> assumption) | (simp; done))); (try dsimp only [putA, optG]))
    repeat (first | apply Wp.seq | apply Wp.block | (apply Run.next; (simp only [push_cast, seval] <;> (try simp (disch := omega) only [wI, wU, wC]) <;> exact rfl); (focus ((try simp only [push_cast, seval]) <;> exact sT))) | ((first | apply Run.nil | apply Wp.skip); dsimp only [sQ, tQ, bQ]) | (apply Wp.run; (dsimp only [List.map] <;> exact rfl); exact rfl) | (apply Wp.exit; dsimp only [sQ, tQ, bQ]; simp only [reduceIte]) | (apply Run.gtrue; (simp only [push_cast, seval] <;> (try simp (disch := omega) only [wI, wU, wC]) <;> exact rfl); (simp only [push_cast, seval] <;> (try simp (disch := omega) only [wI, wU, wC]) <;> exact rfl)) | (apply Run.gfalse (.bool false); (simp only [push_cast, seval] <;> (try simp (disch := omega) only [wI, wU, wC]) <;> exact rfl); dsimp only [S.put, optG]) | (apply Wp.condT; (simp only [push_cast, seval] <;> (try simp (disch := omega) only [wI, wU, wC]) <;> exact rfl)) | (apply Wp.condF; (simp only [push_cast, seval] <;> (try simp (disch := omega) only [wI, wU, wC]) <;> exact rfl)))
    (apply Wp.ret; (try dsimp only [sQ, tQ, bQ]); apply leave0; exact rfl; (simp only [push_cast, seval] <;> (try simp (disch := omega) only [wI, wU, wC]) <;> exact rfl); all_goals (try simp only [push_cast, seval]); (try rfl))
  | true =>
    rw [h1] at hho
    rw [if_pos rfl]
    have hv := hoB_ok h1
    (refine Spec.of_body Try.func22 rfl (by rw [Try.ntmps22]; simp) 0 (by simp) ?_; rw [Try.results22, Try.ntmps22]; simp only [entry, zipArgs, Nat.reduceAdd])
    repeat (first | apply Wp.seq | apply Wp.block | (apply Run.next; (simp only [push_cast, seval] <;> (try simp (disch := omega) only [wI, wU, wC]) <;> exact rfl); (focus ((try simp only [push_cast, seval]) <;> exact sT))) | ((first | apply Run.nil | apply Wp.skip); dsimp only [sQ, tQ, bQ]) | (apply Wp.run; (dsimp only [List.map] <;> exact rfl); exact rfl) | (apply Wp.exit; dsimp only [sQ, tQ, bQ]; simp only [reduceIte]))
    (apply Run.pureP; (simp only [push_cast, seval] <;> (try simp (disch := omega) only [wI, wU, wC]) <;> exact rfl); (exact (Enters.of Try.func45 rfl rfl)); (exact hho); (focus (simp only [push_cast, seval] <;> first | trivial | assumption | (refine ⟨?_, ?_⟩ <;> assumption) | (simp; done))); (try dsimp only [putA, optG]))
    repeat (first | apply Wp.seq | apply Wp.block | (apply Run.next; (simp only [push_cast, seval] <;> (try simp (disch := omega) only [wI, wU, wC]) <;> exact rfl); (focus ((try simp only [push_cast, seval]) <;> exact sT))) | ((first | apply Run.nil | apply Wp.skip); dsimp only [sQ, tQ, bQ]) | (apply Wp.run; (dsimp only [List.map] <;> exact rfl); exact rfl) | (apply Wp.exit; dsimp only [sQ, tQ, bQ]; simp only [reduceIte]) | (apply Run.gtrue; (simp only [push_cast, seval] <;> (try simp (disch := omega) only [wI, wU, wC]) <;> exact rfl); (simp only [push_cast, seval] <;> (try simp (disch := omega) only [wI, wU, wC]) <;> exact rfl)) | (apply Run.gfalse (.bool false); (simp only [push_cast, seval] <;> (try simp (disch := omega) only [wI, wU, wC]) <;> exact rfl); dsimp only [S.put, optG]) | (apply Wp.condT; (simp only [push_cast, seval] <;> (try simp (disch := omega) only [wI, wU, wC]) <;> exact rfl)) | (apply Wp.condF; (simp only [push_cast, seval] <;> (try simp (disch := omega) only [wI, wU, wC]) <;> exact rfl)))
    (apply Wp.cond; (simp only [push_cast, seval] <;> (try simp (disch := omega) only [wI, wU, wC]) <;> exact rfl))
    · intro h2
      simp only [decide_eq_true_eq] at h2
      repeat (first | apply Wp.seq | apply Wp.block | (apply Run.next; (simp only [push_cast, seval] <;> (try simp (disch := omega) only [wI, wU, wC]) <;> exact rfl); (focus ((try simp only [push_cast, seval]) <;> exact sT))) | ((first | apply Run.nil | apply Wp.skip); dsimp only [sQ, tQ, bQ]) | (apply Wp.run; (dsimp only [List.map] <;> exact rfl); exact rfl) | (apply Wp.exit; dsimp only [sQ, tQ, bQ]; simp only [reduceIte]))
      (apply Wp.ret; (try dsimp only [sQ, tQ, bQ]); apply leave0; exact rfl; (simp only [push_cast, seval] <;> (try simp (disch := omega) only [wI, wU, wC]) <;> exact rfl); all_goals (try simp only [push_cast, seval]); (try rfl))
      rw [if_neg (by omega)]
    · intro h2
      simp only [decide_eq_false_iff_not, Int.not_lt] at h2
      rw [if_pos (by omega)]
      repeat (first | apply Wp.seq | apply Wp.block | (apply Run.next; (simp only [push_cast, seval] <;> (try simp (disch := omega) only [wI, wU, wC]) <;> exact rfl); (focus ((try simp only [push_cast, seval]) <;> exact sT))) | ((first | apply Run.nil | apply Wp.skip); dsimp only [sQ, tQ, bQ]) | (apply Wp.run; (dsimp only [List.map] <;> exact rfl); exact rfl) | (apply Wp.exit; dsimp only [sQ, tQ, bQ]; simp only [reduceIte]))
      (refine Wp.vacs 1 ?_; (try simp only [List.replicate_succ, List.replicate_zero, List.cons_append, List.nil_append]))
      refine Wp.loop (fun (q : Nat × Nat × Kind) => { t := [(1, .lst 6 (ls.map bkA)), (2, .optr 0 0 0 0), (13, .lst 6 (ls.map bkA)), (14, .int ls.length), (15, .int q.1)], m := [⟨0, .row 3 [houA cs ms cake]⟩, ⟨q.2.1, q.2.2⟩], n := 55 }) (fun q => q.1 ≤ ls.length ∧ ∀ j, j < q.1 → okB cs cake ls j = true) (fun q => ls.length - q.1) (0, 0, .row 1 []) ?_ ?_ ?_
      · (refine Le.of ?_ ?_ rfl rfl <;> (try simp only [push_cast, seval]) <;> (try (with_reducible rfl)))
        all_goals rfl
      · simp
      · rintro ⟨k, v, kd⟩ ⟨hk1, hk2⟩
        simp only at hk1 hk2
        repeat (first | apply Wp.seq | apply Wp.block | (apply Run.calm; exact rfl; (simp only [push_cast, seval] <;> (try simp (disch := omega) only [wI, wU, wC]) <;> exact rfl); (focus ((try simp only [push_cast, seval]) <;> exact sT))) | ((first | apply Run.nil | apply Wp.skip); dsimp only [sQ, tQ, bQ]) | (apply Wp.run; (dsimp only [List.map] <;> exact rfl); exact rfl) | (apply Wp.exit; dsimp only [sQ, tQ, bQ]; simp only [reduceIte]))
        (apply Wp.cond; (simp only [push_cast, seval] <;> (try simp (disch := omega) only [wI, wU, wC]) <;> exact rfl))
        · intro hc1
          simp only [decide_eq_true_eq, Int.ofNat_lt] at hc1
          have hbo := booked_pure hv (ls.getD k bk0)
          generalize hx : ls.getD k bk0 = x at hbo
          generalize hy : ls.getD x.rival.toNat bk0 = y
          have hok : okB cs cake ls k = (bkB cs cake x && (decide (x.rival = -1) || (!decide (x.rival = (k : Int)) && wiK x.rival 0 ((ls.length : Int) - 1) && decide (y.rival = (k : Int))))) := by unfold okB; rw [hx, hy]
          rw [okx] at hok
          repeat (first | apply Wp.seq | apply Wp.block | (apply Run.calm; exact rfl; (simp only [push_cast, seval, hx, hy] <;> (try simp (disch := omega) only [wI, wU, wC]) <;> exact rfl); (focus ((try simp only [push_cast, seval, hx, hy]) <;> exact sT))) | ((first | apply Run.nil | apply Wp.skip); dsimp only [sQ, tQ, bQ]) | (apply Wp.run; (dsimp only [List.map] <;> exact rfl); exact rfl) | (apply Wp.exit; dsimp only [sQ, tQ, bQ]; simp only [reduceIte]))
          (apply Run.alcAt 1; (simp only [push_cast, seval, hx, hy] <;> (try simp (disch := omega) only [wI, wU, wC]) <;> exact rfl); (focus ((try simp only [push_cast, seval, hx, hy]) <;> exact sT)); exact rfl; (try simp only [push_cast, seval, hx, hy]))
          repeat (first | apply Wp.seq | apply Wp.block | (apply Run.next; (simp only [push_cast, seval, hx, hy] <;> (try simp (disch := omega) only [wI, wU, wC]) <;> exact rfl); (focus ((try simp only [push_cast, seval, hx, hy]) <;> exact sT))) | ((first | apply Run.nil | apply Wp.skip); dsimp only [sQ, tQ, bQ]) | (apply Wp.run; (dsimp only [List.map] <;> exact rfl); exact rfl) | (apply Wp.exit; dsimp only [sQ, tQ, bQ]; simp only [reduceIte]))
          (apply Run.pureP; (simp only [push_cast, seval, hx, hy] <;> (try simp (disch := omega) only [wI, wU, wC]) <;> exact rfl); (exact (Enters.of Try.func46 rfl rfl)); (exact hbo); (focus (simp only [push_cast, seval, hx, hy] <;> first | trivial | assumption | (refine ⟨?_, ?_⟩ <;> assumption) | (simp; done))); (try dsimp only [putA, optG]))
          repeat (first | apply Wp.seq | apply Wp.block | (apply Run.next; (simp only [push_cast, seval, hx, hy] <;> (try simp (disch := omega) only [wI, wU, wC]) <;> exact rfl); (focus ((try simp only [push_cast, seval, hx, hy]) <;> exact sT))) | ((first | apply Run.nil | apply Wp.skip); dsimp only [sQ, tQ, bQ]) | (apply Wp.run; (dsimp only [List.map] <;> exact rfl); exact rfl) | (apply Wp.exit; dsimp only [sQ, tQ, bQ]; simp only [reduceIte]))
          (apply Run.pureP; (simp only [push_cast, seval, hx, hy] <;> (try simp (disch := omega) only [wI, wU, wC]) <;> exact rfl); (exact (Enters.of Try.func47 rfl rfl)); (exact within_pureK _ _ _); (focus (simp only [push_cast, seval, hx, hy] <;> first | trivial | assumption | (refine ⟨?_, ?_⟩ <;> assumption) | (simp; done))); (try dsimp only [putA, optG]))
          repeat (first | apply Wp.seq | apply Wp.block | (apply Run.next; (simp only [push_cast, seval, hx, hy] <;> (try simp (disch := omega) only [wI, wU, wC]) <;> exact rfl); (focus ((try simp only [push_cast, seval, hx, hy]) <;> exact sT))) | ((first | apply Run.nil | apply Wp.skip); dsimp only [sQ, tQ, bQ]) | (apply Wp.run; (dsimp only [List.map] <;> exact rfl); exact rfl) | (apply Wp.exit; dsimp only [sQ, tQ, bQ]; simp only [reduceIte]))
          (apply Run.next; (simp only [push_cast, seval, hx, hy] <;> (try simp (disch := omega) only [wI, wU, wC]) <;> exact rfl); (focus ((try simp only [push_cast, seval, hx, hy]); intro hg; exact ⟨hg, by have := hg.2.2; rw [wi_iffK] at this; omega⟩)))
          repeat (first | apply Wp.seq | apply Wp.block | (apply Run.next; (simp only [push_cast, seval, hx, hy] <;> (try simp (disch := omega) only [wI, wU, wC]) <;> exact rfl); (focus ((try simp only [push_cast, seval, hx, hy]) <;> exact sT))) | ((first | apply Run.nil | apply Wp.skip); dsimp only [sQ, tQ, bQ]) | (apply Wp.run; (dsimp only [List.map] <;> exact rfl); exact rfl) | (apply Wp.exit; dsimp only [sQ, tQ, bQ]; simp only [reduceIte]))
          (apply Wp.cond; (simp only [push_cast, seval, hx, hy] <;> (try simp (disch := omega) only [wI, wU, wC]) <;> exact rfl))
          · intro h4
            have h5 : okB cs cake ls k = false := by rw [hok, h4]; rfl
            repeat (first | apply Wp.seq | apply Wp.block | (apply Run.next; (simp only [push_cast, seval, hx, hy] <;> (try simp (disch := omega) only [wI, wU, wC]) <;> exact rfl); (focus ((try simp only [push_cast, seval, hx, hy]) <;> exact sT))) | ((first | apply Run.nil | apply Wp.skip); dsimp only [sQ, tQ, bQ]) | (apply Wp.run; (dsimp only [List.map] <;> exact rfl); exact rfl) | (apply Wp.exit; dsimp only [sQ, tQ, bQ]; simp only [reduceIte]))
            (apply Wp.ret; (try dsimp only [sQ, tQ, bQ]); apply leave0; exact rfl; (simp only [push_cast, seval, hx, hy] <;> (try simp (disch := omega) only [wI, wU, wC]) <;> exact rfl); all_goals (try simp only [push_cast, seval, hx, hy]); (try rfl))
            rw [if_neg (by rw [range_noK hc1 h5]; simp)]
          · intro h4
            have h5 : okB cs cake ls k = true := by rw [hok, h4]; rfl
            repeat (first | apply Wp.seq | apply Wp.block | (apply Run.next; (simp only [push_cast, seval, hx, hy] <;> (try simp (disch := omega) only [wI, wU, wC]) <;> exact rfl); (focus ((try simp only [push_cast, seval, hx, hy]) <;> exact sT))) | ((first | apply Run.nil | apply Wp.skip); dsimp only [sQ, tQ, bQ]) | (apply Wp.run; (dsimp only [List.map] <;> exact rfl); exact rfl) | (apply Wp.exit; dsimp only [sQ, tQ, bQ]; simp only [reduceIte]))
            refine ⟨(k + 1, v + 1, .row 6 [bkA x]), ?_, ⟨by simp only; omega, fun j hj => ?_⟩, by simp only; omega⟩
            · (refine Le.of ?_ ?_ rfl rfl <;> (try simp only [push_cast, seval, hx, hy]) <;> (try (with_reducible rfl)))
            · simp only at hj
              by_cases hjk : j = k
              · subst hjk; exact h5
              · exact hk2 j (by omega)
        · intro hc1
          simp only [decide_eq_false_iff_not, Int.ofNat_lt] at hc1
          obtain rfl : k = ls.length := by omega
          repeat (first | apply Wp.seq | apply Wp.block | (apply Run.next; (simp only [push_cast, seval] <;> (try simp (disch := omega) only [wI, wU, wC]) <;> exact rfl); (focus ((try simp only [push_cast, seval]) <;> exact sT))) | ((first | apply Run.nil | apply Wp.skip); dsimp only [sQ, tQ, bQ]) | (apply Wp.run; (dsimp only [List.map] <;> exact rfl); exact rfl) | (apply Wp.exit; dsimp only [sQ, tQ, bQ]; simp only [reduceIte]))
          (apply Wp.ret; (try dsimp only [sQ, tQ, bQ]); apply leave0; exact rfl; (simp only [push_cast, seval] <;> (try simp (disch := omega) only [wI, wU, wC]) <;> exact rfl); all_goals (try simp only [push_cast, seval]); (try rfl))
          rw [if_pos (range_allK hk2)]
end Go.Proofs.Try
set_option maxHeartbeats 8000000
namespace Go.Proofs.Try
open Go.Vg

/-! lists of pairs -/
def prAK (p : Int × Int) : AV := .agg [.int p.1, .int p.2]
theorem app_prK (l : List (Int × Int)) (a b : Int) : l.map prAK ++ [.agg [.val (.int .i64 a), .val (.int .i64 b)]] = (l ++ [(a, b)]).map prAK := by simp [prAK]
theorem getD_prK (l : List (Int × Int)) (i : Nat) : (l.map prAK).getD i (.agg [.val (.int .i64 0), .val (.int .i64 0)]) = prAK (l.getD i (0, 0)) := getD_map' prAK l i (0, 0)
theorem okL_prK (k : Nat) (l : List (Int × Int)) : okL k (l.map prAK) = True := eq_true (okL_mapK k l fun x => by simp [prAK, AV.ok, okL])
attribute [push_cast] app_prK okL_prK
def prI (p : Nat → Nat → Bool) (i : Nat) : Nat → List (Int × Int)
  | 0 => []
  | k + 1 => if (decide (i < k) && p i k) = true then prI p i k ++ [((i : Int), (k : Int))] else prI p i k
theorem prI_len (p : Nat → Nat → Bool) (i : Nat) : ∀ k, (prI p i k).length ≤ k
  | 0 => by simp [prI]
  | k + 1 => by have := prI_len p i k; simp only [prI]; split <;> simp <;> omega
theorem prI_nil (p : Nat → Nat → Bool) (i : Nat) : ∀ k, k ≤ i + 1 → prI p i k = []
  | 0, _ => rfl
  | k + 1, h => by simp only [prI, prI_nil p i k (by omega), show ¬ i < k by omega]; simp
theorem prI_succ (p : Nat → Nat → Bool) {i k : Nat} (h : i < k) : prI p i (k + 1) = if p i k = true then prI p i k ++ [((i : Int), (k : Int))] else prI p i k := by
  simp [prI, h]
def prP (p : Nat → Nat → Bool) (n : Nat) : Nat → List (Int × Int)
  | 0 => []
  | i + 1 => prP p n i ++ prI p i n
theorem prP_len (p : Nat → Nat → Bool) {n : Nat} (hl : n ≤ 20) : ∀ i, (prP p n i).length ≤ 20 * i
  | 0 => by simp [prP]
  | i + 1 => by have := prP_len p hl i; have := prI_len p i n; simp only [prP, List.length_append]; omega

/-! the bookings that need the same room at the same time -/
def sameB (cs : List Ch) (cake : Int) (a b : Bk) : Bool := decide (a.ch = b.ch) && (decide (a.st < endR cs cake b) && decide (b.st < endR cs cake a))
def tkF (cs : List Ch) (cake : Int) (ls : List Bk) (i k : Nat) : Bool := sameB cs cake (ls.getD i bk0) (ls.getD k bk0)
def tkPK (cs : List Ch) (cake : Int) (ls : List Bk) : List (Int × Int) := prP (tkF cs cake ls) ls.length ls.length
structure LV (cs : List Ch) (ls : List Bk) : Prop where
  l20 : ls.length ≤ 20
  bv : ∀ i, i < ls.length → BV cs (ls.getD i bk0)
  rv : ∀ i, i < ls.length → -1 ≤ (ls.getD i bk0).rival ∧ (ls.getD i bk0).rival < ls.length
theorem taken_pure {cs : List Ch} {ms : List Ma} {cake : Int} {ls : List Bk} (hv : HV cs ms cake) (hl : LV cs ls) : Pure Try.prog 23 [houA cs ms cake, .lst 6 (ls.map bkA)] (.lst 2 ((tkPK cs cake ls).map prAK)) := by
  have hl20 := hl.l20
  unfold tkPK
  generalize hp : tkF cs cake ls = p
  have hpe : ∀ i k, p i k = sameB cs cake (ls.getD i bk0) (ls.getD k bk0) := by subst hp; intro i k; rfl
  have hsu : ∀ i k, i < k → prI p i (k + 1) = if sameB cs cake (ls.getD i bk0) (ls.getD k bk0) = true then prI p i k ++ [((i : Int), (k : Int))] else prI p i k := fun i k h => by rw [prI_succ p h, hpe]
  (refine Spec.of_body Try.func23 rfl (by rw [Try.ntmps23]; simp) 0 (by simp) ?_; rw [Try.results23, Try.ntmps23]; simp only [entry, zipArgs, Nat.reduceAdd])
  repeat (first | apply Wp.seq | apply Wp.block | (apply Run.next; (simp only [push_cast, seval] <;> (try simp (disch := omega) only [wI, wU, wC]) <;> exact rfl); (focus ((try simp only [push_cast, seval]) <;> exact sT))) | ((first | apply Run.nil | apply Wp.skip); dsimp only [sQ, tQ, bQ]) | (apply Wp.run; (dsimp only [List.map] <;> exact rfl); exact rfl) | (apply Wp.exit; dsimp only [sQ, tQ, bQ]; simp only [reduceIte]))
  (refine Wp.vacs 2 ?_; (try simp only [List.replicate_succ, List.replicate_zero, List.cons_append, List.nil_append]))
  refine Wp.adopt 4 2 (by (simp only [push_cast, seval] <;> (try simp (disch := omega) only [wI, wU, wC]) <;> exact rfl)) ?_
  refine Wp.loop (fun (q : Nat × (Nat × Kind) × (Nat × Kind)) => { t := [(1, .lst 6 (ls.map bkA)), (2, .optr 0 0 0 0), (9, .lst 6 (ls.map bkA)), (10, .int ls.length), (11, .int q.1), (4, .osl 3 (prP p ls.length q.1).length 0 (prP p ls.length q.1).length)], m := [⟨0, .row 3 [houA cs ms cake]⟩, ⟨q.2.1.1, q.2.1.2⟩, ⟨q.2.2.1, q.2.2.2⟩, ⟨(prP p ls.length q.1).length, .row 2 ((prP p ls.length q.1).map prAK)⟩], n := 50 }) (fun q => q.1 ≤ ls.length) (fun q => ls.length - q.1) (0, (0, .row 1 []), (0, .row 1 [])) ?_ ?_ ?_
  · (refine Le.of ?_ ?_ rfl rfl <;> (try simp only [push_cast, seval]) <;> (try (with_reducible rfl)))
    all_goals rfl
  · simp
  · rintro ⟨i, ⟨v, kd⟩, ⟨v2, kd2⟩⟩ hk1
    simp only at hk1
    have hol := prP_len p hl20 i
    have hos : prP p ls.length (i + 1) = prP p ls.length i ++ prI p i ls.length := rfl
    generalize hout : prP p ls.length i = out at hol hos
    repeat (first | apply Wp.seq | apply Wp.block | (apply Run.calm; exact rfl; (simp only [push_cast, seval] <;> (try simp (disch := omega) only [wI, wU, wC]) <;> exact rfl); (focus ((try simp only [push_cast, seval]) <;> exact sT))) | ((first | apply Run.nil | apply Wp.skip); dsimp only [sQ, tQ, bQ]) | (apply Wp.run; (dsimp only [List.map] <;> exact rfl); exact rfl) | (apply Wp.exit; dsimp only [sQ, tQ, bQ]; simp only [reduceIte]))
    (apply Wp.cond; (simp only [push_cast, seval] <;> (try simp (disch := omega) only [wI, wU, wC]) <;> exact rfl))
    · intro hck'
      simp only [decide_eq_true_eq, Int.ofNat_lt] at hck'
      have hio := fun k (h : i < k) => hsu i k h
      have hi0 := prI_nil p i (i + 1) (by omega)
      have hnx := needs_pure (ms := ms) hv (hl.bv i hck')
      generalize hx : ls.getD i bk0 = x at hio hnx
      repeat (first | apply Wp.seq | apply Wp.block | (apply Run.calm; exact rfl; (simp only [push_cast, seval, hx] <;> (try simp (disch := omega) only [wI, wU, wC]) <;> exact rfl); (focus ((try simp only [push_cast, seval, hx]) <;> exact sT))) | ((first | apply Run.nil | apply Wp.skip); dsimp only [sQ, tQ, bQ]) | (apply Wp.run; (dsimp only [List.map] <;> exact rfl); exact rfl) | (apply Wp.exit; dsimp only [sQ, tQ, bQ]; simp only [reduceIte]))
      (apply Run.alcAt 1; (simp only [push_cast, seval, hx] <;> (try simp (disch := omega) only [wI, wU, wC]) <;> exact rfl); (focus ((try simp only [push_cast, seval, hx]) <;> exact sT)); exact rfl; (try simp only [push_cast, seval, hx]))
      repeat (first | apply Wp.seq | apply Wp.block | (apply Run.calm; exact rfl; (simp only [push_cast, seval, hx] <;> (try simp (disch := omega) only [wI, wU, wC]) <;> exact rfl); (focus ((try simp only [push_cast, seval, hx]) <;> exact sT))) | ((first | apply Run.nil | apply Wp.skip); dsimp only [sQ, tQ, bQ]) | (apply Wp.run; (dsimp only [List.map] <;> exact rfl); exact rfl) | (apply Wp.exit; dsimp only [sQ, tQ, bQ]; simp only [reduceIte]))
      refine Wp.loop (fun (q : Nat × (Nat × Kind)) => { t := [(1, .lst 6 (ls.map bkA)), (2, .optr 0 0 0 0), (9, .lst 6 (ls.map bkA)), (10, .int ls.length), (11, .int i), (4, .osl 3 (out ++ prI p i q.1).length 0 (out ++ prI p i q.1).length), (5, .int i), (6, .optr 1 (v + 1) 0 0), (7, .int q.1)], m := [⟨0, .row 3 [houA cs ms cake]⟩, ⟨v + 1, .row 6 [bkA x]⟩, ⟨q.2.1, q.2.2⟩, ⟨(out ++ prI p i q.1).length, .row 2 ((out ++ prI p i q.1).map prAK)⟩], n := 50 }) (fun q => i + 1 ≤ q.1 ∧ q.1 ≤ ls.length) (fun q => ls.length - q.1) (i + 1, (v2, kd2)) ?_ ?_ ?_
      · rw [hi0, List.append_nil]
        (refine Le.of ?_ ?_ rfl rfl <;> (try simp only [push_cast, seval, hx]) <;> (try (with_reducible rfl)))
        all_goals rfl
      · exact ⟨by simp only; omega, by simp only; omega⟩
      · rintro ⟨k, ⟨v3, kd3⟩⟩ ⟨hk2, hk3⟩
        simp only at hk2 hk3
        have hil := prI_len p i k
        have his := hio k hk2
        generalize hinn : prI p i k = inn at hil his
        have hle : (out ++ inn).length ≤ 420 := by rw [List.length_append]; omega
        have hins : out ++ prI p i (k + 1) = if sameB cs cake x (ls.getD k bk0) = true then (out ++ inn) ++ [((i : Int), (k : Int))] else out ++ inn := by rw [his]; split <;> simp
        generalize hoi : out ++ inn = oi at hle hins
        repeat (first | apply Wp.seq | apply Wp.block | (apply Run.calm; exact rfl; (simp only [push_cast, seval, hx] <;> (try simp (disch := omega) only [wI, wU, wC]) <;> exact rfl); (focus ((try simp only [push_cast, seval, hx]) <;> exact sT))) | ((first | apply Run.nil | apply Wp.skip); dsimp only [sQ, tQ, bQ]) | (apply Wp.run; (dsimp only [List.map] <;> exact rfl); exact rfl) | (apply Wp.exit; dsimp only [sQ, tQ, bQ]; simp only [reduceIte]))
        (apply Wp.cond; (simp only [push_cast, seval, hx] <;> (try simp (disch := omega) only [wI, wU, wC]) <;> exact rfl))
        · intro hci
          simp only [decide_eq_true_eq, Int.ofNat_lt] at hci
          have hnz := needs_pure (ms := ms) hv (hl.bv k hci)
          unfold sameB at hins
          generalize hz : ls.getD k bk0 = z at hins hnz
          repeat (first | apply Wp.seq | apply Wp.block | (apply Run.calm; exact rfl; (simp only [push_cast, seval, hx, hz] <;> (try simp (disch := omega) only [wI, wU, wC]) <;> exact rfl); (focus ((try simp only [push_cast, seval, hx, hz]) <;> exact sT))) | ((first | apply Run.nil | apply Wp.skip); dsimp only [sQ, tQ, bQ]) | (apply Wp.run; (dsimp only [List.map] <;> exact rfl); exact rfl) | (apply Wp.exit; dsimp only [sQ, tQ, bQ]; simp only [reduceIte]))
          (apply Run.alcAt 2; (simp only [push_cast, seval, hx, hz] <;> (try simp (disch := omega) only [wI, wU, wC]) <;> exact rfl); (focus ((try simp only [push_cast, seval, hx, hz]) <;> exact sT)); exact rfl; (try simp only [push_cast, seval, hx, hz]))
          repeat (first | apply Wp.seq | apply Wp.block | (apply Run.next; (simp only [push_cast, seval, hx, hz] <;> (try simp (disch := omega) only [wI, wU, wC]) <;> exact rfl); (focus ((try simp only [push_cast, seval, hx, hz]) <;> exact sT))) | ((first | apply Run.nil | apply Wp.skip); dsimp only [sQ, tQ, bQ]) | (apply Wp.run; (dsimp only [List.map] <;> exact rfl); exact rfl) | (apply Wp.exit; dsimp only [sQ, tQ, bQ]; simp only [reduceIte]))
          (apply Wp.runD 14 mixed; (dsimp only [List.map] <;> exact rfl); exact rfl; kernel_rfl; (dsimp only [List.take] <;> exact rfl); (dsimp only [List.drop] <;> exact rfl); (((repeat (apply Abn.next; (simp only [push_cast, seval, hx, hz] <;> (try simp (disch := omega) only [wI, wU, wC]) <;> exact rfl); (focus ((try simp only [push_cast, seval, hx, hz]) <;> exact sT)))); (apply Abn.pureP; (simp only [push_cast, seval, hx, hz] <;> (try simp (disch := omega) only [wI, wU, wC]) <;> exact rfl); (exact (Enters.of Try.func48 rfl rfl)); (exact hnx); (focus (simp only [push_cast, seval, hx, hz] <;> first | trivial | assumption | (refine ⟨?_, ?_⟩ <;> assumption) | (simp; done))); (try dsimp only [putA, optG])); (repeat (apply Abn.next; (simp only [push_cast, seval, hx, hz] <;> (try simp (disch := omega) only [wI, wU, wC]) <;> exact rfl); (focus ((try simp only [push_cast, seval, hx, hz]) <;> exact sT)))); (apply Abn.pureP; (simp only [push_cast, seval, hx, hz] <;> (try simp (disch := omega) only [wI, wU, wC]) <;> exact rfl); (exact (Enters.of Try.func48 rfl rfl)); (exact hnz); (focus (simp only [push_cast, seval, hx, hz] <;> first | trivial | assumption | (refine ⟨?_, ?_⟩ <;> assumption) | (simp; done))); (try dsimp only [putA, optG])); (repeat (apply Abn.next; (simp only [push_cast, seval, hx, hz] <;> (try simp (disch := omega) only [wI, wU, wC]) <;> exact rfl); (focus ((try simp only [push_cast, seval, hx, hz]) <;> exact sT)))); (apply Abn.pureP; (simp only [push_cast, seval, hx, hz] <;> (try simp (disch := omega) only [wI, wU, wC]) <;> exact rfl); (exact (Enters.of Try.func49 rfl rfl)); (exact meets_pure _ _ _ _); (focus (simp only [push_cast, seval, hx, hz] <;> first | trivial | assumption | (refine ⟨?_, ?_⟩ <;> assumption) | (simp; done))); (try dsimp only [putA, optG])); (repeat (apply Abn.next; (simp only [push_cast, seval, hx, hz] <;> (try simp (disch := omega) only [wI, wU, wC]) <;> exact rfl); (focus ((try simp only [push_cast, seval, hx, hz]) <;> exact sT))))); exact Abn.nil))
          repeat (first | apply Wp.seq | apply Wp.block | (apply Run.next; (simp only [push_cast, seval, hx, hz] <;> (try simp (disch := omega) only [wI, wU, wC]) <;> exact rfl); (focus ((try simp only [push_cast, seval, hx, hz]) <;> exact sT))) | ((first | apply Run.nil | apply Wp.skip); dsimp only [sQ, tQ, bQ]) | (apply Wp.run; (dsimp only [List.map] <;> exact rfl); exact rfl) | (apply Wp.exit; dsimp only [sQ, tQ, bQ]; simp only [reduceIte]))
          (apply Wp.cond; (simp only [push_cast, seval, hx, hz] <;> (try simp (disch := omega) only [wI, wU, wC]) <;> exact rfl))
          · intro h2
            rw [if_pos h2] at hins
            repeat (first | apply Wp.seq | apply Wp.block | (apply Run.next; (simp only [push_cast, seval, hx, hz] <;> (try simp (disch := omega) only [wI, wU, wC]) <;> exact rfl); (focus ((try simp only [push_cast, seval, hx, hz]) <;> exact sT))) | ((first | apply Run.nil | apply Wp.skip); dsimp only [sQ, tQ, bQ]) | (apply Wp.run; (dsimp only [List.map] <;> exact rfl); exact rfl) | (apply Wp.exit; dsimp only [sQ, tQ, bQ]; simp only [reduceIte]))
            refine ⟨(k + 1, (v3 + 1, .row 6 [bkA z])), ?_, ⟨by simp only; omega, by simp only; omega⟩, by simp only; omega⟩
            simp only
            rw [hins, List.length_append]
            (refine Le.of ?_ ?_ rfl rfl <;> (try simp only [push_cast, seval, hx, hz]) <;> (try (with_reducible rfl)))
          · intro h2
            rw [if_neg (by rw [h2]; simp)] at hins
            repeat (first | apply Wp.seq | apply Wp.block | (apply Run.next; (simp only [push_cast, seval, hx, hz] <;> (try simp (disch := omega) only [wI, wU, wC]) <;> exact rfl); (focus ((try simp only [push_cast, seval, hx, hz]) <;> exact sT))) | ((first | apply Run.nil | apply Wp.skip); dsimp only [sQ, tQ, bQ]) | (apply Wp.run; (dsimp only [List.map] <;> exact rfl); exact rfl) | (apply Wp.exit; dsimp only [sQ, tQ, bQ]; simp only [reduceIte]))
            refine ⟨(k + 1, (v3 + 1, .row 6 [bkA z])), ?_, ⟨by simp only; omega, by simp only; omega⟩, by simp only; omega⟩
            simp only
            rw [hins]
            (refine Le.of ?_ ?_ rfl rfl <;> (try simp only [push_cast, seval, hx, hz]) <;> (try (with_reducible rfl)))
        · intro hci
          simp only [decide_eq_false_iff_not, Int.ofNat_lt] at hci
          have e : prP p ls.length (i + 1) = oi := by
            rw [hos, show ls.length = k by omega, hinn, hoi]
          repeat (first | apply Wp.seq | apply Wp.block | (apply Run.next; (simp only [push_cast, seval, hx] <;> (try simp (disch := omega) only [wI, wU, wC]) <;> exact rfl); (focus ((try simp only [push_cast, seval, hx]) <;> exact sT))) | ((first | apply Run.nil | apply Wp.skip); dsimp only [sQ, tQ, bQ]) | (apply Wp.run; (dsimp only [List.map] <;> exact rfl); exact rfl) | (apply Wp.exit; dsimp only [sQ, tQ, bQ]; simp only [reduceIte]))
          refine ⟨(i + 1, (v + 1, .row 6 [bkA x]), (v3, kd3)), ?_, by simp only; omega, by simp only; omega⟩
          simp only
          rw [e]
          (refine Le.of ?_ ?_ rfl rfl <;> (try simp only [push_cast, seval, hx]) <;> (try (with_reducible rfl)))
    · intro hck'
      simp only [decide_eq_false_iff_not, Int.ofNat_lt] at hck'
      obtain rfl : i = ls.length := by omega
      repeat (first | apply Wp.seq | apply Wp.block | (apply Run.next; (simp only [push_cast, seval] <;> (try simp (disch := omega) only [wI, wU, wC]) <;> exact rfl); (focus ((try simp only [push_cast, seval]) <;> exact sT))) | ((first | apply Run.nil | apply Wp.skip); dsimp only [sQ, tQ, bQ]) | (apply Wp.run; (dsimp only [List.map] <;> exact rfl); exact rfl) | (apply Wp.exit; dsimp only [sQ, tQ, bQ]; simp only [reduceIte]))
      (apply Wp.freeze 4; (simp only [push_cast, seval] <;> (try simp (disch := omega) only [wI, wU, wC]) <;> exact rfl); (simp only [push_cast, seval] <;> (try simp (disch := omega) only [wI, wU, wC]) <;> exact rfl); (focus (try simp only [push_cast, seval]); (try (exact sT))); (focus (exact sT)))
      (apply Wp.ret; (try dsimp only [sQ, tQ, bQ]); apply leave0; exact rfl; (simp only [push_cast, seval] <;> (try simp (disch := omega) only [wI, wU, wC]) <;> exact rfl); all_goals (try simp only [push_cast, seval]); (try rfl))
      rw [hout]
/-! bookings that fit -/
end Go.Proofs.Try
set_option maxHeartbeats 8000000
namespace Go.Proofs.Try
open Go.Vg

/-! the document's answers -/
end Go.Proofs.Try
set_option maxHeartbeats 8000000
namespace Go.Proofs.Try
open Go.Vg

/-! two lists of bookings, one behind the other -/
end Go.Proofs.Try
set_option maxHeartbeats 8000000
namespace Go.Proofs.Try
open Go.Vg

/-! a booking more: the errors ahead of the staff -/
theorem ck_ok {cs : List Ch} {ms : List Ma} {cake : Int} {ls : List Bk} (h : ckE cs ms cake ls = 0) : HV cs ms cake ∧ LV cs ls ∧ ∀ i, i < ls.length → okB cs cake ls i = true := by
  unfold ckE at h
  split at h
  · rename_i h1
    split at h
    · rename_i h2
      split at h
      · rename_i h3
        rw [List.all_eq_true] at h3
        have h4 : ∀ i, i < ls.length → okB cs cake ls i = true := fun i hi => h3 i (List.mem_range.2 hi)
        refine ⟨hoB_ok h1, ⟨h2, fun i hi => ?_, fun i hi => ?_⟩, h4⟩
        · have := h4 i hi
          unfold okB at this
          rw [Bool.and_eq_true] at this
          exact (bkB_bv this.1).1
        · have := h4 i hi
          unfold okB at this
          simp only [Bool.and_eq_true, Bool.or_eq_true, decide_eq_true_eq, wi_iffK] at this
          omega
      · cases h
    · cases h
  · cases h
end Go.Proofs.Try
set_option maxHeartbeats 8000000
namespace Go.Proofs.Try
open Go.Vg

end Go.Proofs.Try
set_option maxHeartbeats 8000000
namespace Go.Proofs.Try
open Go.Vg

/-! behind the errors of Check -/
def tkA (cs : List Ch) (ms : List Ma) (cake : Int) (ls : List Bk) : AV := if ckE cs ms cake ls = 0 then .lst 2 ((tkPK cs cake ls).map prAK) else .emp
theorem bTaken_pure (cs : List Ch) (ms : List Ma) (cake : Int) (ls : List Bk) (hc : cs.length ≤ 9223372036854775807) (hm : ms.length ≤ 9223372036854775807) (hl : ls.length ≤ 9223372036854775807) : Pure Try.prog 11 [houA cs ms cake, .lst 6 (ls.map bkA)] (.tup [tkA cs ms cake ls, .int (ckE cs ms cake ls)]) := by
  have hck := check_pureK cs ms cake ls hc hm hl
  unfold tkA
  by_cases h1 : ckE cs ms cake ls = 0
  · rw [if_pos h1]
    rw [h1] at hck ⊢
    obtain ⟨hv, hlv, _⟩ := ck_ok h1
    have hf := taken_pure hv hlv
    generalize tkPK cs cake ls = l at hf
    (refine Spec.of_body Try.func11 rfl (by rw [Try.ntmps11]; simp) 0 (by simp) ?_; rw [Try.results11, Try.ntmps11]; simp only [entry, zipArgs, Nat.reduceAdd])
    repeat (first | apply Wp.seq | apply Wp.block | (apply Run.next; (simp only [push_cast, seval] <;> (try simp (disch := omega) only [wI, wU, wC]) <;> exact rfl); (focus ((try simp only [push_cast, seval]) <;> exact sT))) | ((first | apply Run.nil | apply Wp.skip); dsimp only [sQ, tQ, bQ]) | (apply Wp.run; (dsimp only [List.map] <;> exact rfl); exact rfl) | (apply Wp.exit; dsimp only [sQ, tQ, bQ]; simp only [reduceIte]))
    (apply Run.pureP; (simp only [push_cast, seval] <;> (try simp (disch := omega) only [wI, wU, wC]) <;> exact rfl); (exact (Enters.of Try.func22 rfl rfl)); (exact hck); (focus (simp only [push_cast, seval] <;> first | trivial | assumption | (refine ⟨?_, ?_⟩ <;> assumption) | (simp; done))); (try dsimp only [putA, optG]))
    repeat (first | apply Wp.seq | apply Wp.block | (apply Run.next; (simp only [push_cast, seval] <;> (try simp (disch := omega) only [wI, wU, wC]) <;> exact rfl); (focus ((try simp only [push_cast, seval]) <;> exact sT))) | ((first | apply Run.nil | apply Wp.skip); dsimp only [sQ, tQ, bQ]) | (apply Wp.run; (dsimp only [List.map] <;> exact rfl); exact rfl) | (apply Wp.exit; dsimp only [sQ, tQ, bQ]; simp only [reduceIte]) | (apply Run.gtrue; (simp only [push_cast, seval] <;> (try simp (disch := omega) only [wI, wU, wC]) <;> exact rfl); (simp only [push_cast, seval] <;> (try simp (disch := omega) only [wI, wU, wC]) <;> exact rfl)) | (apply Run.gfalse (.bool false); (simp only [push_cast, seval] <;> (try simp (disch := omega) only [wI, wU, wC]) <;> exact rfl); dsimp only [S.put, optG]) | (apply Wp.condT; (simp only [push_cast, seval] <;> (try simp (disch := omega) only [wI, wU, wC]) <;> exact rfl)) | (apply Wp.condF; (simp only [push_cast, seval] <;> (try simp (disch := omega) only [wI, wU, wC]) <;> exact rfl)))
    (apply Run.pureFP; (simp only [push_cast, seval] <;> (try simp (disch := omega) only [wI, wU, wC]) <;> exact rfl); (exact (Enters.of Try.func23 rfl rfl)); (exact hf); (focus (simp only [push_cast, seval] <;> first | trivial | assumption | (refine ⟨?_, ?_⟩ <;> assumption) | (simp; done))); (try dsimp only [putA, optG]))
    repeat (first | apply Wp.seq | apply Wp.block | (apply Run.next; (simp only [push_cast, seval] <;> (try simp (disch := omega) only [wI, wU, wC]) <;> exact rfl); (focus ((try simp only [push_cast, seval]) <;> exact sT))) | ((first | apply Run.nil | apply Wp.skip); dsimp only [sQ, tQ, bQ]) | (apply Wp.run; (dsimp only [List.map] <;> exact rfl); exact rfl) | (apply Wp.exit; dsimp only [sQ, tQ, bQ]; simp only [reduceIte]) | (apply Run.gtrue; (simp only [push_cast, seval] <;> (try simp (disch := omega) only [wI, wU, wC]) <;> exact rfl); (simp only [push_cast, seval] <;> (try simp (disch := omega) only [wI, wU, wC]) <;> exact rfl)) | (apply Run.gfalse (.bool false); (simp only [push_cast, seval] <;> (try simp (disch := omega) only [wI, wU, wC]) <;> exact rfl); dsimp only [S.put, optG]) | (apply Wp.condT; (simp only [push_cast, seval] <;> (try simp (disch := omega) only [wI, wU, wC]) <;> exact rfl)) | (apply Wp.condF; (simp only [push_cast, seval] <;> (try simp (disch := omega) only [wI, wU, wC]) <;> exact rfl)))
    (apply Wp.ret; (try dsimp only [sQ, tQ, bQ]); apply leave0; exact rfl; (simp only [push_cast, seval] <;> (try simp (disch := omega) only [wI, wU, wC]) <;> exact rfl); all_goals (try simp only [push_cast, seval]); (try rfl))
  · rw [if_neg h1]
    have hne : decide (ckE cs ms cake ls = 0) = false := decide_eq_false h1
    (refine Spec.of_body Try.func11 rfl (by rw [Try.ntmps11]; simp) 0 (by simp) ?_; rw [Try.results11, Try.ntmps11]; simp only [entry, zipArgs, Nat.reduceAdd])
    repeat (first | apply Wp.seq | apply Wp.block | (apply Run.next; (simp only [push_cast, seval, hne] <;> (try simp (disch := omega) only [wI, wU, wC]) <;> exact rfl); (focus ((try simp only [push_cast, seval, hne]) <;> exact sT))) | ((first | apply Run.nil | apply Wp.skip); dsimp only [sQ, tQ, bQ]) | (apply Wp.run; (dsimp only [List.map] <;> exact rfl); exact rfl) | (apply Wp.exit; dsimp only [sQ, tQ, bQ]; simp only [reduceIte]))
    (apply Run.pureP; (simp only [push_cast, seval, hne] <;> (try simp (disch := omega) only [wI, wU, wC]) <;> exact rfl); (exact (Enters.of Try.func22 rfl rfl)); (exact hck); (focus (simp only [push_cast, seval, hne] <;> first | trivial | assumption | (refine ⟨?_, ?_⟩ <;> assumption) | (simp; done))); (try dsimp only [putA, optG]))
    repeat (first | apply Wp.seq | apply Wp.block | (apply Run.next; (simp only [push_cast, seval, hne] <;> (try simp (disch := omega) only [wI, wU, wC]) <;> exact rfl); (focus ((try simp only [push_cast, seval, hne]) <;> exact sT))) | ((first | apply Run.nil | apply Wp.skip); dsimp only [sQ, tQ, bQ]) | (apply Wp.run; (dsimp only [List.map] <;> exact rfl); exact rfl) | (apply Wp.exit; dsimp only [sQ, tQ, bQ]; simp only [reduceIte]) | (apply Run.gtrue; (simp only [push_cast, seval, hne] <;> (try simp (disch := omega) only [wI, wU, wC]) <;> exact rfl); (simp only [push_cast, seval, hne] <;> (try simp (disch := omega) only [wI, wU, wC]) <;> exact rfl)) | (apply Run.gfalse (.bool false); (simp only [push_cast, seval, hne] <;> (try simp (disch := omega) only [wI, wU, wC]) <;> exact rfl); dsimp only [S.put, optG]) | (apply Wp.condT; (simp only [push_cast, seval, hne] <;> (try simp (disch := omega) only [wI, wU, wC]) <;> exact rfl)) | (apply Wp.condF; (simp only [push_cast, seval, hne] <;> (try simp (disch := omega) only [wI, wU, wC]) <;> exact rfl)))
    (apply Wp.ret; (try dsimp only [sQ, tQ, bQ]); apply leave0; exact rfl; (simp only [push_cast, seval, hne] <;> (try simp (disch := omega) only [wI, wU, wC]) <;> exact rfl); all_goals (try simp only [push_cast, seval, hne]); (try rfl))
/-! how many play at the same time -/
end Go.Proofs.Try
set_option maxHeartbeats 8000000
namespace Go.Proofs.Try
open Go.Vg

structure St where
  items : Int
  life : Int
structure Ln where
  kind : Int
  room : Int
  fr : Int
  to : Int
  uses : Int
def stA (x : St) : AV := .agg [.int x.items, .int x.life]
def lnA (x : Ln) : AV := .agg [.int x.kind, .int x.room, .int x.fr, .int x.to, .int x.uses]
abbrev st0 : St := ⟨0, 0⟩
abbrev ln0 : Ln := ⟨0, 0, 0, 0, 0⟩
abbrev storA (ks : List St) (ls : List Ln) : AV := .agg [.lst 2 (ks.map stA), .lst 5 (ls.map lnA)]
theorem getD_st (l : List St) (i : Nat) : (l.map stA).getD i (.agg [.val (.int .i64 0), .val (.int .i64 0)]) = stA (l.getD i st0) := getD_map' stA l i st0
theorem getD_ln (l : List Ln) (i : Nat) : (l.map lnA).getD i (.agg [.val (.int .i64 0), .val (.int .i64 0), .val (.int .i64 0), .val (.int .i64 0), .val (.int .i64 0)]) = lnA (l.getD i ln0) := getD_map' lnA l i ln0
theorem okL_map' {α : Type} {f : α → AV} (k : Nat) (l : List α) (h : ∀ x, (f x).ok k) : okL k (l.map f) := okL_iff.2 fun x hx => by
  obtain ⟨y, _, rfl⟩ := List.mem_map.1 hx
  exact h y
theorem okL_st (k : Nat) (l : List St) : okL k (l.map stA) = True := eq_true (okL_map' k l fun x => by simp [stA, AV.ok, okL])
theorem okL_ln (k : Nat) (l : List Ln) : okL k (l.map lnA) = True := eq_true (okL_map' k l fun x => by simp [lnA, AV.ok, okL])
attribute [push_cast] stA lnA getD_st getD_ln okL_st okL_ln
def wi (n lo hi : Int) : Bool := decide (lo ≤ n) && decide (n ≤ hi)
theorem wi_iff {n lo hi : Int} : wi n lo hi = true ↔ lo ≤ n ∧ n ≤ hi := by simp [wi]
theorem within_pure (n lo hi : Int) : Pure Try.prog 52 [.int n, .int lo, .int hi] (.bool (wi n lo hi)) := by
  (refine Spec.of_body Try.func52 rfl (by rw [Try.ntmps52]; simp) 0 (by simp) ?_; rw [Try.results52, Try.ntmps52]; simp only [entry, zipArgs, Nat.reduceAdd])
  repeat (first | apply Wp.seq | apply Wp.block | (apply Run.next; (simp only [push_cast, seval] <;> (try simp (disch := omega) only [wI, wU, wC]) <;> exact rfl); (focus ((try simp only [push_cast, seval]) <;> exact sT))) | ((first | apply Run.nil | apply Wp.skip); dsimp only [sQ, tQ, bQ]) | (apply Wp.run; (dsimp only [List.map] <;> exact rfl); exact rfl) | (apply Wp.exit; dsimp only [sQ, tQ, bQ]; simp only [reduceIte]))
  (apply Wp.ret; (try dsimp only [sQ, tQ, bQ]); apply leave0; exact rfl; (simp only [push_cast, seval] <;> (try simp (disch := omega) only [wI, wU, wC]) <;> exact rfl); all_goals (try simp only [push_cast, seval]); (try rfl))
theorem memSt {l : List St} {k : Nat} (h : k < l.length) : l.getD k st0 ∈ l := by simp [h]
theorem findSt {l : List St} {p : St → Bool} {k : Nat} (hk : k < l.length) (h1 : ∀ j, j < k → p (l.getD j st0) = false) (h2 : p (l.getD k st0) = true) : l.any p = true ∧ l.findIdx p = k := by
  have e : ∀ j (hj : j < l.length), l.getD j st0 = l[j] := fun j hj => by simp [hj]
  refine ⟨List.any_eq_true.2 ⟨l[k], List.getElem_mem hk, by rw [← e k hk]; exact h2⟩, ?_⟩
  rw [List.findIdx_eq hk]
  refine ⟨by rw [← e k hk]; exact h2, fun j hj => ?_⟩
  have := h1 j hj
  rw [e j (by omega)] at this
  exact this
theorem anyNoneSt {l : List St} {p : St → Bool} (h : ∀ j, j < l.length → p (l.getD j st0) = false) : l.any p = false := by
  rw [List.any_eq_false]
  intro x hx
  obtain ⟨i, hi, rfl⟩ := List.getElem_of_mem hx
  have := h i hi
  simp [hi] at this
  simp [this]
theorem indexFuncSt (l : List St) (g : FuncId) (caps : List AV) (p : St → Bool) (hg : Enters Try.prog g) (hk : okL 0 caps) (hcv : ∀ m, caps.map (view m) = caps ∧ caps.map (view2 m) = caps) (hp : ∀ x ∈ l, Pure Try.prog g (stA x :: caps) (.bool (p x))) (hl : l.length ≤ 9223372036854775807) :
    Pure Try.prog 70 [.lst 2 (l.map stA), .clo g caps] (.int (if l.any p then (l.findIdx p : Int) else -1)) := by
  (refine Spec.of_body Try.func70 rfl (by rw [Try.ntmps70]; simp) 0 (by simp) ?_; rw [Try.results70, Try.ntmps70]; simp only [entry, zipArgs, Nat.reduceAdd])
  repeat (first | apply Wp.seq | apply Wp.block | (apply Run.next; (simp only [push_cast, seval, hcv, List.map_append] <;> (try simp (disch := omega) only [wI, wU, wC]) <;> exact rfl); (focus ((try simp only [push_cast, seval, hcv, List.map_append]) <;> exact sT))) | ((first | apply Run.nil | apply Wp.skip); dsimp only [sQ, tQ, bQ]) | (apply Wp.run; (dsimp only [List.map] <;> exact rfl); exact rfl) | (apply Wp.exit; dsimp only [sQ, tQ, bQ]; simp only [reduceIte]))
  refine Wp.loop (fun k : Nat => { t := [(0, .lst 2 (l.map stA)), (1, .clo g caps), (7, .int l.length), (8, .int k)], m := [], n := 19 }) (fun k => k ≤ l.length ∧ ∀ j, j < k → p (l.getD j st0) = false) (fun k => l.length - k) 0 ?_ ?_ ?_
  · (refine Le.of ?_ ?_ rfl rfl <;> (try simp only [push_cast, seval, hcv, List.map_append]) <;> (try (with_reducible rfl)))
  · simp
  · rintro k ⟨hk1, hk2⟩
    repeat (first | apply Wp.seq | apply Wp.block | (apply Run.next; (simp only [push_cast, seval, hcv, List.map_append] <;> (try simp (disch := omega) only [wI, wU, wC]) <;> exact rfl); (focus ((try simp only [push_cast, seval, hcv, List.map_append]) <;> exact sT))) | ((first | apply Run.nil | apply Wp.skip); dsimp only [sQ, tQ, bQ]) | (apply Wp.run; (dsimp only [List.map] <;> exact rfl); exact rfl) | (apply Wp.exit; dsimp only [sQ, tQ, bQ]; simp only [reduceIte]))
    (apply Wp.cond; (simp only [push_cast, seval, hcv, List.map_append] <;> (try simp (disch := omega) only [wI, wU, wC]) <;> exact rfl))
    · (intro hc; try simp only [decide_eq_true_eq, decide_eq_false_iff_not, Bool.and_eq_true, Bool.or_eq_true, Bool.not_eq_true, Bool.not_eq_false, Bool.not_eq_true', Bool.not_eq_false', Bool.and_eq_false_iff, Bool.or_eq_false_iff, Int.not_lt, Int.not_le, Int.ofNat_lt, Int.ofNat_le] at hc)
      have hpk := hp _ (memSt hc)
      generalize hx : l.getD k st0 = x at hpk
      repeat (first | apply Wp.seq | apply Wp.block | (apply Run.next; (simp only [push_cast, seval, hcv, List.map_append, hx] <;> (try simp (disch := omega) only [wI, wU, wC]) <;> exact rfl); (focus ((try simp only [push_cast, seval, hcv, List.map_append, hx]) <;> exact sT))) | ((first | apply Run.nil | apply Wp.skip); dsimp only [sQ, tQ, bQ]) | (apply Wp.run; (dsimp only [List.map] <;> exact rfl); exact rfl) | (apply Wp.exit; dsimp only [sQ, tQ, bQ]; simp only [reduceIte]))
      (apply Run.pureP; (simp only [push_cast, seval, hcv, List.map_append, hx] <;> (try simp (disch := omega) only [wI, wU, wC]) <;> exact rfl); (exact hg); (exact hpk); (focus (simp only [push_cast, seval, hcv, List.map_append, hx] <;> first | trivial | assumption | (refine ⟨?_, ?_⟩ <;> assumption) | (simp; done))); (try dsimp only [putA, optG]))
      repeat (first | apply Wp.seq | apply Wp.block | (apply Run.next; (simp only [push_cast, seval, hcv, List.map_append, hx] <;> (try simp (disch := omega) only [wI, wU, wC]) <;> exact rfl); (focus ((try simp only [push_cast, seval, hcv, List.map_append, hx]) <;> exact sT))) | ((first | apply Run.nil | apply Wp.skip); dsimp only [sQ, tQ, bQ]) | (apply Wp.run; (dsimp only [List.map] <;> exact rfl); exact rfl) | (apply Wp.exit; dsimp only [sQ, tQ, bQ]; simp only [reduceIte]))
      (apply Wp.cond; (simp only [push_cast, seval, hcv, List.map_append, hx] <;> (try simp (disch := omega) only [wI, wU, wC]) <;> exact rfl))
      · intro h2
        rw [← hx] at h2
        obtain ⟨e1, e2⟩ := findSt hc hk2 h2
        repeat (first | apply Wp.seq | apply Wp.block | (apply Run.next; (simp only [push_cast, seval, hcv, List.map_append, hx] <;> (try simp (disch := omega) only [wI, wU, wC]) <;> exact rfl); (focus ((try simp only [push_cast, seval, hcv, List.map_append, hx]) <;> exact sT))) | ((first | apply Run.nil | apply Wp.skip); dsimp only [sQ, tQ, bQ]) | (apply Wp.run; (dsimp only [List.map] <;> exact rfl); exact rfl) | (apply Wp.exit; dsimp only [sQ, tQ, bQ]; simp only [reduceIte]))
        (apply Wp.ret; (try dsimp only [sQ, tQ, bQ]); apply leave0; exact rfl; (simp only [push_cast, seval, hcv, List.map_append, hx] <;> (try simp (disch := omega) only [wI, wU, wC]) <;> exact rfl); all_goals (try simp only [push_cast, seval, hcv, List.map_append, hx]); (try rfl))
        rw [e1, e2]; rfl
      · intro h2
        repeat (first | apply Wp.seq | apply Wp.block | (apply Run.next; (simp only [push_cast, seval, hcv, List.map_append, hx] <;> (try simp (disch := omega) only [wI, wU, wC]) <;> exact rfl); (focus ((try simp only [push_cast, seval, hcv, List.map_append, hx]) <;> exact sT))) | ((first | apply Run.nil | apply Wp.skip); dsimp only [sQ, tQ, bQ]) | (apply Wp.run; (dsimp only [List.map] <;> exact rfl); exact rfl) | (apply Wp.exit; dsimp only [sQ, tQ, bQ]; simp only [reduceIte]))
        refine ⟨k + 1, ?_, ⟨by omega, fun j hj => ?_⟩, by omega⟩
        · (refine Le.of ?_ ?_ rfl rfl <;> (try simp only [push_cast, seval, hcv, List.map_append, hx]) <;> (try (with_reducible rfl)))
        · by_cases hjk : j = k
          · subst hjk; rw [hx]; exact h2
          · exact hk2 j (by omega)
    · (intro hc; try simp only [decide_eq_true_eq, decide_eq_false_iff_not, Bool.and_eq_true, Bool.or_eq_true, Bool.not_eq_true, Bool.not_eq_false, Bool.not_eq_true', Bool.not_eq_false', Bool.and_eq_false_iff, Bool.or_eq_false_iff, Int.not_lt, Int.not_le, Int.ofNat_lt, Int.ofNat_le] at hc)
      repeat (first | apply Wp.seq | apply Wp.block | (apply Run.next; (simp only [push_cast, seval, hcv, List.map_append] <;> (try simp (disch := omega) only [wI, wU, wC]) <;> exact rfl); (focus ((try simp only [push_cast, seval, hcv, List.map_append]) <;> exact sT))) | ((first | apply Run.nil | apply Wp.skip); dsimp only [sQ, tQ, bQ]) | (apply Wp.run; (dsimp only [List.map] <;> exact rfl); exact rfl) | (apply Wp.exit; dsimp only [sQ, tQ, bQ]; simp only [reduceIte]))
      obtain rfl : k = l.length := by omega
      have e1 := anyNoneSt hk2
      (apply Wp.ret; (try dsimp only [sQ, tQ, bQ]); apply leave0; exact rfl; (simp only [push_cast, seval, hcv, List.map_append] <;> (try simp (disch := omega) only [wI, wU, wC]) <;> exact rfl); all_goals (try simp only [push_cast, seval, hcv, List.map_append]); (try rfl))
      rw [e1]; rfl
theorem containsFuncSt (l : List St) (g : FuncId) (caps : List AV) (p : St → Bool) (hg : Enters Try.prog g) (hk : okL 0 caps) (hcv : ∀ m, caps.map (view m) = caps ∧ caps.map (view2 m) = caps) (hp : ∀ x ∈ l, Pure Try.prog g (stA x :: caps) (.bool (p x))) (hl : l.length ≤ 9223372036854775807) :
    Pure Try.prog 50 [.lst 2 (l.map stA), .clo g caps] (.bool (l.any p)) := by
  (refine Spec.of_body Try.func50 rfl (by rw [Try.ntmps50]; simp) 0 (by simp) ?_; rw [Try.results50, Try.ntmps50]; simp only [entry, zipArgs, Nat.reduceAdd])
  repeat (first | apply Wp.seq | apply Wp.block | (apply Run.next; (simp only [push_cast, seval, hcv, List.map_append] <;> (try simp (disch := omega) only [wI, wU, wC]) <;> exact rfl); (focus ((try simp only [push_cast, seval, hcv, List.map_append]) <;> exact sT))) | ((first | apply Run.nil | apply Wp.skip); dsimp only [sQ, tQ, bQ]) | (apply Wp.run; (dsimp only [List.map] <;> exact rfl); exact rfl) | (apply Wp.exit; dsimp only [sQ, tQ, bQ]; simp only [reduceIte]))
  (apply Run.pureP; (simp only [push_cast, seval, hcv, List.map_append] <;> (try simp (disch := omega) only [wI, wU, wC]) <;> exact rfl); (exact (Enters.of Try.func70 rfl rfl)); (exact indexFuncSt l g caps p hg hk hcv hp hl); (focus (simp only [push_cast, seval, hcv, List.map_append] <;> first | trivial | assumption | (refine ⟨?_, ?_⟩ <;> assumption) | (simp; done))); (try dsimp only [putA, optG]))
  repeat (first | apply Wp.seq | apply Wp.block | (apply Run.next; (simp only [push_cast, seval, hcv, List.map_append] <;> (try simp (disch := omega) only [wI, wU, wC]) <;> exact rfl); (focus ((try simp only [push_cast, seval, hcv, List.map_append]) <;> exact sT))) | ((first | apply Run.nil | apply Wp.skip); dsimp only [sQ, tQ, bQ]) | (apply Wp.run; (dsimp only [List.map] <;> exact rfl); exact rfl) | (apply Wp.exit; dsimp only [sQ, tQ, bQ]; simp only [reduceIte]))
  (apply Wp.ret; (try dsimp only [sQ, tQ, bQ]); apply leave0; exact rfl; (simp only [push_cast, seval, hcv, List.map_append] <;> (try simp (disch := omega) only [wI, wU, wC]) <;> exact rfl); all_goals (try simp only [push_cast, seval, hcv, List.map_append]); (try rfl))
  split <;> simp_all
theorem memLn {l : List Ln} {k : Nat} (h : k < l.length) : l.getD k ln0 ∈ l := by simp [h]
theorem memI {l : List Int} {k : Nat} (h : k < l.length) : l.getD k 0 ∈ l := by simp [h]
theorem findI {l : List Int} {p : Int → Bool} {k : Nat} (hk : k < l.length) (h1 : ∀ j, j < k → p (l.getD j 0) = false) (h2 : p (l.getD k 0) = true) : l.any p = true ∧ l.findIdx p = k := by
  have e : ∀ j (hj : j < l.length), l.getD j 0 = l[j] := fun j hj => by simp [hj]
  refine ⟨List.any_eq_true.2 ⟨l[k], List.getElem_mem hk, by rw [← e k hk]; exact h2⟩, ?_⟩
  rw [List.findIdx_eq hk]
  refine ⟨by rw [← e k hk]; exact h2, fun j hj => ?_⟩
  have := h1 j hj
  rw [e j (by omega)] at this
  exact this
theorem anyNoneI {l : List Int} {p : Int → Bool} (h : ∀ j, j < l.length → p (l.getD j 0) = false) : l.any p = false := by
  rw [List.any_eq_false]
  intro x hx
  obtain ⟨i, hi, rfl⟩ := List.getElem_of_mem hx
  have := h i hi
  simp [hi] at this
  simp [this]
theorem indexFuncI (l : List Int) (g : FuncId) (caps : List AV) (p : Int → Bool) (hg : Enters Try.prog g) (hk : okL 0 caps) (hcv : ∀ m, caps.map (view m) = caps ∧ caps.map (view2 m) = caps) (hp : ∀ x ∈ l, Pure Try.prog g (AV.int x :: caps) (.bool (p x))) (hl : l.length ≤ 9223372036854775807) :
    Pure Try.prog 78 [.ints l, .clo g caps] (.int (if l.any p then (l.findIdx p : Int) else -1)) := by
  (refine Spec.of_body Try.func78 rfl (by rw [Try.ntmps78]; simp) 0 (by simp) ?_; rw [Try.results78, Try.ntmps78]; simp only [entry, zipArgs, Nat.reduceAdd])
  repeat (first | apply Wp.seq | apply Wp.block | (apply Run.next; (simp only [push_cast, seval, hcv, List.map_append] <;> (try simp (disch := omega) only [wI, wU, wC]) <;> exact rfl); (focus ((try simp only [push_cast, seval, hcv, List.map_append]) <;> exact sT))) | ((first | apply Run.nil | apply Wp.skip); dsimp only [sQ, tQ, bQ]) | (apply Wp.run; (dsimp only [List.map] <;> exact rfl); exact rfl) | (apply Wp.exit; dsimp only [sQ, tQ, bQ]; simp only [reduceIte]))
  refine Wp.loop (fun k : Nat => { t := [(0, .ints l), (1, .clo g caps), (7, .int l.length), (8, .int k)], m := [], n := 19 }) (fun k => k ≤ l.length ∧ ∀ j, j < k → p (l.getD j 0) = false) (fun k => l.length - k) 0 ?_ ?_ ?_
  · (refine Le.of ?_ ?_ rfl rfl <;> (try simp only [push_cast, seval, hcv, List.map_append]) <;> (try (with_reducible rfl)))
  · simp
  · rintro k ⟨hk1, hk2⟩
    repeat (first | apply Wp.seq | apply Wp.block | (apply Run.next; (simp only [push_cast, seval, hcv, List.map_append] <;> (try simp (disch := omega) only [wI, wU, wC]) <;> exact rfl); (focus ((try simp only [push_cast, seval, hcv, List.map_append]) <;> exact sT))) | ((first | apply Run.nil | apply Wp.skip); dsimp only [sQ, tQ, bQ]) | (apply Wp.run; (dsimp only [List.map] <;> exact rfl); exact rfl) | (apply Wp.exit; dsimp only [sQ, tQ, bQ]; simp only [reduceIte]))
    (apply Wp.cond; (simp only [push_cast, seval, hcv, List.map_append] <;> (try simp (disch := omega) only [wI, wU, wC]) <;> exact rfl))
    · (intro hc; try simp only [decide_eq_true_eq, decide_eq_false_iff_not, Bool.and_eq_true, Bool.or_eq_true, Bool.not_eq_true, Bool.not_eq_false, Bool.not_eq_true', Bool.not_eq_false', Bool.and_eq_false_iff, Bool.or_eq_false_iff, Int.not_lt, Int.not_le, Int.ofNat_lt, Int.ofNat_le] at hc)
      have hpk := hp _ (memI hc)
      generalize hx : l.getD k 0 = x at hpk
      repeat (first | apply Wp.seq | apply Wp.block | (apply Run.next; (simp only [push_cast, seval, hcv, List.map_append, hx] <;> (try simp (disch := omega) only [wI, wU, wC]) <;> exact rfl); (focus ((try simp only [push_cast, seval, hcv, List.map_append, hx]) <;> exact sT))) | ((first | apply Run.nil | apply Wp.skip); dsimp only [sQ, tQ, bQ]) | (apply Wp.run; (dsimp only [List.map] <;> exact rfl); exact rfl) | (apply Wp.exit; dsimp only [sQ, tQ, bQ]; simp only [reduceIte]))
      (apply Run.pureP; (simp only [push_cast, seval, hcv, List.map_append, hx] <;> (try simp (disch := omega) only [wI, wU, wC]) <;> exact rfl); (exact hg); (exact hpk); (focus (simp only [push_cast, seval, hcv, List.map_append, hx] <;> first | trivial | assumption | (refine ⟨?_, ?_⟩ <;> assumption) | (simp; done))); (try dsimp only [putA, optG]))
      repeat (first | apply Wp.seq | apply Wp.block | (apply Run.next; (simp only [push_cast, seval, hcv, List.map_append, hx] <;> (try simp (disch := omega) only [wI, wU, wC]) <;> exact rfl); (focus ((try simp only [push_cast, seval, hcv, List.map_append, hx]) <;> exact sT))) | ((first | apply Run.nil | apply Wp.skip); dsimp only [sQ, tQ, bQ]) | (apply Wp.run; (dsimp only [List.map] <;> exact rfl); exact rfl) | (apply Wp.exit; dsimp only [sQ, tQ, bQ]; simp only [reduceIte]))
      (apply Wp.cond; (simp only [push_cast, seval, hcv, List.map_append, hx] <;> (try simp (disch := omega) only [wI, wU, wC]) <;> exact rfl))
      · intro h2
        rw [← hx] at h2
        obtain ⟨e1, e2⟩ := findI hc hk2 h2
        repeat (first | apply Wp.seq | apply Wp.block | (apply Run.next; (simp only [push_cast, seval, hcv, List.map_append, hx] <;> (try simp (disch := omega) only [wI, wU, wC]) <;> exact rfl); (focus ((try simp only [push_cast, seval, hcv, List.map_append, hx]) <;> exact sT))) | ((first | apply Run.nil | apply Wp.skip); dsimp only [sQ, tQ, bQ]) | (apply Wp.run; (dsimp only [List.map] <;> exact rfl); exact rfl) | (apply Wp.exit; dsimp only [sQ, tQ, bQ]; simp only [reduceIte]))
        (apply Wp.ret; (try dsimp only [sQ, tQ, bQ]); apply leave0; exact rfl; (simp only [push_cast, seval, hcv, List.map_append, hx] <;> (try simp (disch := omega) only [wI, wU, wC]) <;> exact rfl); all_goals (try simp only [push_cast, seval, hcv, List.map_append, hx]); (try rfl))
        rw [e1, e2]; rfl
      · intro h2
        repeat (first | apply Wp.seq | apply Wp.block | (apply Run.next; (simp only [push_cast, seval, hcv, List.map_append, hx] <;> (try simp (disch := omega) only [wI, wU, wC]) <;> exact rfl); (focus ((try simp only [push_cast, seval, hcv, List.map_append, hx]) <;> exact sT))) | ((first | apply Run.nil | apply Wp.skip); dsimp only [sQ, tQ, bQ]) | (apply Wp.run; (dsimp only [List.map] <;> exact rfl); exact rfl) | (apply Wp.exit; dsimp only [sQ, tQ, bQ]; simp only [reduceIte]))
        refine ⟨k + 1, ?_, ⟨by omega, fun j hj => ?_⟩, by omega⟩
        · (refine Le.of ?_ ?_ rfl rfl <;> (try simp only [push_cast, seval, hcv, List.map_append, hx]) <;> (try (with_reducible rfl)))
        · by_cases hjk : j = k
          · subst hjk; rw [hx]; exact h2
          · exact hk2 j (by omega)
    · (intro hc; try simp only [decide_eq_true_eq, decide_eq_false_iff_not, Bool.and_eq_true, Bool.or_eq_true, Bool.not_eq_true, Bool.not_eq_false, Bool.not_eq_true', Bool.not_eq_false', Bool.and_eq_false_iff, Bool.or_eq_false_iff, Int.not_lt, Int.not_le, Int.ofNat_lt, Int.ofNat_le] at hc)
      repeat (first | apply Wp.seq | apply Wp.block | (apply Run.next; (simp only [push_cast, seval, hcv, List.map_append] <;> (try simp (disch := omega) only [wI, wU, wC]) <;> exact rfl); (focus ((try simp only [push_cast, seval, hcv, List.map_append]) <;> exact sT))) | ((first | apply Run.nil | apply Wp.skip); dsimp only [sQ, tQ, bQ]) | (apply Wp.run; (dsimp only [List.map] <;> exact rfl); exact rfl) | (apply Wp.exit; dsimp only [sQ, tQ, bQ]; simp only [reduceIte]))
      obtain rfl : k = l.length := by omega
      have e1 := anyNoneI hk2
      (apply Wp.ret; (try dsimp only [sQ, tQ, bQ]); apply leave0; exact rfl; (simp only [push_cast, seval, hcv, List.map_append] <;> (try simp (disch := omega) only [wI, wU, wC]) <;> exact rfl); all_goals (try simp only [push_cast, seval, hcv, List.map_append]); (try rfl))
      rw [e1]; rfl
theorem containsFuncI (l : List Int) (g : FuncId) (caps : List AV) (p : Int → Bool) (hg : Enters Try.prog g) (hk : okL 0 caps) (hcv : ∀ m, caps.map (view m) = caps ∧ caps.map (view2 m) = caps) (hp : ∀ x ∈ l, Pure Try.prog g (AV.int x :: caps) (.bool (p x))) (hl : l.length ≤ 9223372036854775807) :
    Pure Try.prog 71 [.ints l, .clo g caps] (.bool (l.any p)) := by
  (refine Spec.of_body Try.func71 rfl (by rw [Try.ntmps71]; simp) 0 (by simp) ?_; rw [Try.results71, Try.ntmps71]; simp only [entry, zipArgs, Nat.reduceAdd])
  repeat (first | apply Wp.seq | apply Wp.block | (apply Run.next; (simp only [push_cast, seval, hcv, List.map_append] <;> (try simp (disch := omega) only [wI, wU, wC]) <;> exact rfl); (focus ((try simp only [push_cast, seval, hcv, List.map_append]) <;> exact sT))) | ((first | apply Run.nil | apply Wp.skip); dsimp only [sQ, tQ, bQ]) | (apply Wp.run; (dsimp only [List.map] <;> exact rfl); exact rfl) | (apply Wp.exit; dsimp only [sQ, tQ, bQ]; simp only [reduceIte]))
  (apply Run.pureP; (simp only [push_cast, seval, hcv, List.map_append] <;> (try simp (disch := omega) only [wI, wU, wC]) <;> exact rfl); (exact (Enters.of Try.func78 rfl rfl)); (exact indexFuncI l g caps p hg hk hcv hp hl); (focus (simp only [push_cast, seval, hcv, List.map_append] <;> first | trivial | assumption | (refine ⟨?_, ?_⟩ <;> assumption) | (simp; done))); (try dsimp only [putA, optG]))
  repeat (first | apply Wp.seq | apply Wp.block | (apply Run.next; (simp only [push_cast, seval, hcv, List.map_append] <;> (try simp (disch := omega) only [wI, wU, wC]) <;> exact rfl); (focus ((try simp only [push_cast, seval, hcv, List.map_append]) <;> exact sT))) | ((first | apply Run.nil | apply Wp.skip); dsimp only [sQ, tQ, bQ]) | (apply Wp.run; (dsimp only [List.map] <;> exact rfl); exact rfl) | (apply Wp.exit; dsimp only [sQ, tQ, bQ]; simp only [reduceIte]))
  (apply Wp.ret; (try dsimp only [sQ, tQ, bQ]); apply leave0; exact rfl; (simp only [push_cast, seval, hcv, List.map_append] <;> (try simp (disch := omega) only [wI, wU, wC]) <;> exact rfl); all_goals (try simp only [push_cast, seval, hcv, List.map_append]); (try rfl))
  split <;> simp_all
end Go.Proofs.Try
