/- A part of the proof of TopPortraits: contracts of functions, with plain laws that they need. -/
import Derived.Test.YtlcekedcjdamoaaVgA
import Derived.Test.YtlcekedcjdamoaaVgFr
import Derived.Test.YtlcekedcjdamoaaVgVz
import Derived.Test.YtlcekedcjdamoaaVgC4J
set_option linter.all false
set_option maxHeartbeats 8000000
namespace Go.Proofs.Try
open Go.Vg

/-! which sentences are valid -/
abbrev wiP (n lo hi : Int) : Bool := decide (lo ≤ n) && decide (n ≤ hi)
def saB (n : Int) (x : Pt) : Bool := if x.kind = 1 then (wiP x.a 0 (n - 1) && decide (x.b = 0) && wiP x.n 0 (n - 1)) else if x.kind = 2 ∨ x.kind = 3 then (wiP x.a 0 (n - 1) && (wiP x.b 0 (n - 1) && !decide (x.a = x.b)) && decide (x.n = 0)) else if x.kind = 4 then (wiP x.a 0 (n - 1) && (wiP x.b 0 (n - 1) && !decide (x.a = x.b)) && wiP x.n 0 n) else false
theorem said_pure (n : Int) (hn : 1 ≤ n ∧ n ≤ 6) (x : Pt) : Pure Try.prog 32 [ptA x, .int n] (.bool (saB n x)) := by
  unfold saB
  by_cases h1 : x.kind = 1
  · have e1 : decide (x.kind = 1) = true := decide_eq_true h1
    rw [if_pos h1]
    (refine Spec.of_body Try.func32 rfl (by rw [Try.ntmps32]; simp) 0 (by simp) ?_; rw [Try.results32, Try.ntmps32]; simp only [entry, zipArgs, Nat.reduceAdd])
    repeat (first | apply Wp.seq | apply Wp.block | (apply Run.next; (simp only [push_cast, seval, e1] <;> (try simp (disch := omega) only [wI, wU, wC]) <;> exact rfl); (focus ((try simp only [push_cast, seval, e1]) <;> exact sT))) | ((first | apply Run.nil | apply Wp.skip); dsimp only [sQ, tQ, bQ]) | (apply Wp.run; (dsimp only [List.map] <;> exact rfl); exact rfl) | (apply Wp.exit; dsimp only [sQ, tQ, bQ]; simp only [reduceIte]))
    (apply Wp.runD 19 mixed; (dsimp only [List.map] <;> exact rfl); exact rfl; kernel_rfl; (dsimp only [List.take] <;> exact rfl); (dsimp only [List.drop] <;> exact rfl); (((repeat (apply Abn.next; (simp only [push_cast, seval, e1] <;> (try simp (disch := omega) only [wI, wU, wC]) <;> exact rfl); (focus ((try simp only [push_cast, seval, e1]) <;> exact sT)))); (apply Abn.pureP; (simp only [push_cast, seval, e1] <;> (try simp (disch := omega) only [wI, wU, wC]) <;> exact rfl); (exact (Enters.of Try.func16 rfl rfl)); (exact within_pure _ _ _); (focus (simp only [push_cast, seval, e1] <;> first | trivial | assumption | (refine ⟨?_, ?_⟩ <;> assumption) | (simp; done))); (try dsimp only [putA, optG])); (repeat (apply Abn.next; (simp only [push_cast, seval, e1] <;> (try simp (disch := omega) only [wI, wU, wC]) <;> exact rfl); (focus ((try simp only [push_cast, seval, e1]) <;> exact sT)))); (apply Abn.pureP; (simp only [push_cast, seval, e1] <;> (try simp (disch := omega) only [wI, wU, wC]) <;> exact rfl); (exact (Enters.of Try.func16 rfl rfl)); (exact within_pure _ _ _); (focus (simp only [push_cast, seval, e1] <;> first | trivial | assumption | (refine ⟨?_, ?_⟩ <;> assumption) | (simp; done))); (try dsimp only [putA, optG])); (repeat (apply Abn.next; (simp only [push_cast, seval, e1] <;> (try simp (disch := omega) only [wI, wU, wC]) <;> exact rfl); (focus ((try simp only [push_cast, seval, e1]) <;> exact sT))))); exact Abn.nil))
    repeat (first | apply Wp.seq | apply Wp.block | (apply Run.next; (simp only [push_cast, seval, e1] <;> (try simp (disch := omega) only [wI, wU, wC]) <;> exact rfl); (focus ((try simp only [push_cast, seval, e1]) <;> exact sT))) | ((first | apply Run.nil | apply Wp.skip); dsimp only [sQ, tQ, bQ]) | (apply Wp.run; (dsimp only [List.map] <;> exact rfl); exact rfl) | (apply Wp.exit; dsimp only [sQ, tQ, bQ]; simp only [reduceIte]) | (apply Run.gtrue; (simp only [push_cast, seval, e1] <;> (try simp (disch := omega) only [wI, wU, wC]) <;> exact rfl); (simp only [push_cast, seval, e1] <;> (try simp (disch := omega) only [wI, wU, wC]) <;> exact rfl)) | (apply Run.gfalse (.bool false); (simp only [push_cast, seval, e1] <;> (try simp (disch := omega) only [wI, wU, wC]) <;> exact rfl); dsimp only [S.put, optG]) | (apply Wp.condT; (simp only [push_cast, seval, e1] <;> (try simp (disch := omega) only [wI, wU, wC]) <;> exact rfl)) | (apply Wp.condF; (simp only [push_cast, seval, e1] <;> (try simp (disch := omega) only [wI, wU, wC]) <;> exact rfl)))
    (apply Run.pureP; (simp only [push_cast, seval, e1] <;> (try simp (disch := omega) only [wI, wU, wC]) <;> exact rfl); (exact (Enters.of Try.func16 rfl rfl)); (exact within_pure _ _ _); (focus (simp only [push_cast, seval, e1] <;> first | trivial | assumption | (refine ⟨?_, ?_⟩ <;> assumption) | (simp; done))); (try dsimp only [putA, optG]))
    repeat (first | apply Wp.seq | apply Wp.block | (apply Run.next; (simp only [push_cast, seval, e1] <;> (try simp (disch := omega) only [wI, wU, wC]) <;> exact rfl); (focus ((try simp only [push_cast, seval, e1]) <;> exact sT))) | ((first | apply Run.nil | apply Wp.skip); dsimp only [sQ, tQ, bQ]) | (apply Wp.run; (dsimp only [List.map] <;> exact rfl); exact rfl) | (apply Wp.exit; dsimp only [sQ, tQ, bQ]; simp only [reduceIte]) | (apply Run.gtrue; (simp only [push_cast, seval, e1] <;> (try simp (disch := omega) only [wI, wU, wC]) <;> exact rfl); (simp only [push_cast, seval, e1] <;> (try simp (disch := omega) only [wI, wU, wC]) <;> exact rfl)) | (apply Run.gfalse (.bool false); (simp only [push_cast, seval, e1] <;> (try simp (disch := omega) only [wI, wU, wC]) <;> exact rfl); dsimp only [S.put, optG]) | (apply Wp.condT; (simp only [push_cast, seval, e1] <;> (try simp (disch := omega) only [wI, wU, wC]) <;> exact rfl)) | (apply Wp.condF; (simp only [push_cast, seval, e1] <;> (try simp (disch := omega) only [wI, wU, wC]) <;> exact rfl)))
    (apply Wp.ret; (try dsimp only [sQ, tQ, bQ]); apply leave0; exact rfl; (simp only [push_cast, seval, e1] <;> (try simp (disch := omega) only [wI, wU, wC]) <;> exact rfl); all_goals (try simp only [push_cast, seval, e1]); (try rfl))
  · have e1 : decide (x.kind = 1) = false := decide_eq_false h1
    rw [if_neg h1]
    by_cases h2 : x.kind = 2
    · have e2 : decide (x.kind = 2) = true := decide_eq_true h2
      rw [if_pos (.inl h2)]
      (refine Spec.of_body Try.func32 rfl (by rw [Try.ntmps32]; simp) 0 (by simp) ?_; rw [Try.results32, Try.ntmps32]; simp only [entry, zipArgs, Nat.reduceAdd])
      repeat (first | apply Wp.seq | apply Wp.block | (apply Run.next; (simp only [push_cast, seval, e1, e2] <;> (try simp (disch := omega) only [wI, wU, wC]) <;> exact rfl); (focus ((try simp only [push_cast, seval, e1, e2]) <;> exact sT))) | ((first | apply Run.nil | apply Wp.skip); dsimp only [sQ, tQ, bQ]) | (apply Wp.run; (dsimp only [List.map] <;> exact rfl); exact rfl) | (apply Wp.exit; dsimp only [sQ, tQ, bQ]; simp only [reduceIte]))
      (apply Wp.runD 19 mixed; (dsimp only [List.map] <;> exact rfl); exact rfl; kernel_rfl; (dsimp only [List.take] <;> exact rfl); (dsimp only [List.drop] <;> exact rfl); (((repeat (apply Abn.next; (simp only [push_cast, seval, e1, e2] <;> (try simp (disch := omega) only [wI, wU, wC]) <;> exact rfl); (focus ((try simp only [push_cast, seval, e1, e2]) <;> exact sT)))); (apply Abn.pureP; (simp only [push_cast, seval, e1, e2] <;> (try simp (disch := omega) only [wI, wU, wC]) <;> exact rfl); (exact (Enters.of Try.func16 rfl rfl)); (exact within_pure _ _ _); (focus (simp only [push_cast, seval, e1, e2] <;> first | trivial | assumption | (refine ⟨?_, ?_⟩ <;> assumption) | (simp; done))); (try dsimp only [putA, optG])); (repeat (apply Abn.next; (simp only [push_cast, seval, e1, e2] <;> (try simp (disch := omega) only [wI, wU, wC]) <;> exact rfl); (focus ((try simp only [push_cast, seval, e1, e2]) <;> exact sT)))); (apply Abn.pureP; (simp only [push_cast, seval, e1, e2] <;> (try simp (disch := omega) only [wI, wU, wC]) <;> exact rfl); (exact (Enters.of Try.func16 rfl rfl)); (exact within_pure _ _ _); (focus (simp only [push_cast, seval, e1, e2] <;> first | trivial | assumption | (refine ⟨?_, ?_⟩ <;> assumption) | (simp; done))); (try dsimp only [putA, optG])); (repeat (apply Abn.next; (simp only [push_cast, seval, e1, e2] <;> (try simp (disch := omega) only [wI, wU, wC]) <;> exact rfl); (focus ((try simp only [push_cast, seval, e1, e2]) <;> exact sT))))); exact Abn.nil))
      repeat (first | apply Wp.seq | apply Wp.block | (apply Run.next; (simp only [push_cast, seval, e1, e2] <;> (try simp (disch := omega) only [wI, wU, wC]) <;> exact rfl); (focus ((try simp only [push_cast, seval, e1, e2]) <;> exact sT))) | ((first | apply Run.nil | apply Wp.skip); dsimp only [sQ, tQ, bQ]) | (apply Wp.run; (dsimp only [List.map] <;> exact rfl); exact rfl) | (apply Wp.exit; dsimp only [sQ, tQ, bQ]; simp only [reduceIte]) | (apply Run.gtrue; (simp only [push_cast, seval, e1, e2] <;> (try simp (disch := omega) only [wI, wU, wC]) <;> exact rfl); (simp only [push_cast, seval, e1, e2] <;> (try simp (disch := omega) only [wI, wU, wC]) <;> exact rfl)) | (apply Run.gfalse (.bool false); (simp only [push_cast, seval, e1, e2] <;> (try simp (disch := omega) only [wI, wU, wC]) <;> exact rfl); dsimp only [S.put, optG]) | (apply Wp.condT; (simp only [push_cast, seval, e1, e2] <;> (try simp (disch := omega) only [wI, wU, wC]) <;> exact rfl)) | (apply Wp.condF; (simp only [push_cast, seval, e1, e2] <;> (try simp (disch := omega) only [wI, wU, wC]) <;> exact rfl)))
      (apply Wp.ret; (try dsimp only [sQ, tQ, bQ]); apply leave0; exact rfl; (simp only [push_cast, seval, e1, e2] <;> (try simp (disch := omega) only [wI, wU, wC]) <;> exact rfl); all_goals (try simp only [push_cast, seval, e1, e2]); (try rfl))
    · have e2 : decide (x.kind = 2) = false := decide_eq_false h2
      by_cases h3 : x.kind = 3
      · have e3 : decide (x.kind = 3) = true := decide_eq_true h3
        rw [if_pos (.inr h3)]
        (refine Spec.of_body Try.func32 rfl (by rw [Try.ntmps32]; simp) 0 (by simp) ?_; rw [Try.results32, Try.ntmps32]; simp only [entry, zipArgs, Nat.reduceAdd])
        repeat (first | apply Wp.seq | apply Wp.block | (apply Run.next; (simp only [push_cast, seval, e1, e2, e3] <;> (try simp (disch := omega) only [wI, wU, wC]) <;> exact rfl); (focus ((try simp only [push_cast, seval, e1, e2, e3]) <;> exact sT))) | ((first | apply Run.nil | apply Wp.skip); dsimp only [sQ, tQ, bQ]) | (apply Wp.run; (dsimp only [List.map] <;> exact rfl); exact rfl) | (apply Wp.exit; dsimp only [sQ, tQ, bQ]; simp only [reduceIte]))
        (apply Wp.runD 19 mixed; (dsimp only [List.map] <;> exact rfl); exact rfl; kernel_rfl; (dsimp only [List.take] <;> exact rfl); (dsimp only [List.drop] <;> exact rfl); (((repeat (apply Abn.next; (simp only [push_cast, seval, e1, e2, e3] <;> (try simp (disch := omega) only [wI, wU, wC]) <;> exact rfl); (focus ((try simp only [push_cast, seval, e1, e2, e3]) <;> exact sT)))); (apply Abn.pureP; (simp only [push_cast, seval, e1, e2, e3] <;> (try simp (disch := omega) only [wI, wU, wC]) <;> exact rfl); (exact (Enters.of Try.func16 rfl rfl)); (exact within_pure _ _ _); (focus (simp only [push_cast, seval, e1, e2, e3] <;> first | trivial | assumption | (refine ⟨?_, ?_⟩ <;> assumption) | (simp; done))); (try dsimp only [putA, optG])); (repeat (apply Abn.next; (simp only [push_cast, seval, e1, e2, e3] <;> (try simp (disch := omega) only [wI, wU, wC]) <;> exact rfl); (focus ((try simp only [push_cast, seval, e1, e2, e3]) <;> exact sT)))); (apply Abn.pureP; (simp only [push_cast, seval, e1, e2, e3] <;> (try simp (disch := omega) only [wI, wU, wC]) <;> exact rfl); (exact (Enters.of Try.func16 rfl rfl)); (exact within_pure _ _ _); (focus (simp only [push_cast, seval, e1, e2, e3] <;> first | trivial | assumption | (refine ⟨?_, ?_⟩ <;> assumption) | (simp; done))); (try dsimp only [putA, optG])); (repeat (apply Abn.next; (simp only [push_cast, seval, e1, e2, e3] <;> (try simp (disch := omega) only [wI, wU, wC]) <;> exact rfl); (focus ((try simp only [push_cast, seval, e1, e2, e3]) <;> exact sT))))); exact Abn.nil))
        repeat (first | apply Wp.seq | apply Wp.block | (apply Run.next; (simp only [push_cast, seval, e1, e2, e3] <;> (try simp (disch := omega) only [wI, wU, wC]) <;> exact rfl); (focus ((try simp only [push_cast, seval, e1, e2, e3]) <;> exact sT))) | ((first | apply Run.nil | apply Wp.skip); dsimp only [sQ, tQ, bQ]) | (apply Wp.run; (dsimp only [List.map] <;> exact rfl); exact rfl) | (apply Wp.exit; dsimp only [sQ, tQ, bQ]; simp only [reduceIte]) | (apply Run.gtrue; (simp only [push_cast, seval, e1, e2, e3] <;> (try simp (disch := omega) only [wI, wU, wC]) <;> exact rfl); (simp only [push_cast, seval, e1, e2, e3] <;> (try simp (disch := omega) only [wI, wU, wC]) <;> exact rfl)) | (apply Run.gfalse (.bool false); (simp only [push_cast, seval, e1, e2, e3] <;> (try simp (disch := omega) only [wI, wU, wC]) <;> exact rfl); dsimp only [S.put, optG]) | (apply Wp.condT; (simp only [push_cast, seval, e1, e2, e3] <;> (try simp (disch := omega) only [wI, wU, wC]) <;> exact rfl)) | (apply Wp.condF; (simp only [push_cast, seval, e1, e2, e3] <;> (try simp (disch := omega) only [wI, wU, wC]) <;> exact rfl)))
        (apply Wp.ret; (try dsimp only [sQ, tQ, bQ]); apply leave0; exact rfl; (simp only [push_cast, seval, e1, e2, e3] <;> (try simp (disch := omega) only [wI, wU, wC]) <;> exact rfl); all_goals (try simp only [push_cast, seval, e1, e2, e3]); (try rfl))
      · have e3 : decide (x.kind = 3) = false := decide_eq_false h3
        rw [if_neg (by rintro (h | h); exact h2 h; exact h3 h)]
        by_cases h4 : x.kind = 4
        · have e4 : decide (x.kind = 4) = true := decide_eq_true h4
          rw [if_pos h4]
          (refine Spec.of_body Try.func32 rfl (by rw [Try.ntmps32]; simp) 0 (by simp) ?_; rw [Try.results32, Try.ntmps32]; simp only [entry, zipArgs, Nat.reduceAdd])
          repeat (first | apply Wp.seq | apply Wp.block | (apply Run.next; (simp only [push_cast, seval, e1, e2, e3, e4] <;> (try simp (disch := omega) only [wI, wU, wC]) <;> exact rfl); (focus ((try simp only [push_cast, seval, e1, e2, e3, e4]) <;> exact sT))) | ((first | apply Run.nil | apply Wp.skip); dsimp only [sQ, tQ, bQ]) | (apply Wp.run; (dsimp only [List.map] <;> exact rfl); exact rfl) | (apply Wp.exit; dsimp only [sQ, tQ, bQ]; simp only [reduceIte]))
          (apply Wp.runD 19 mixed; (dsimp only [List.map] <;> exact rfl); exact rfl; kernel_rfl; (dsimp only [List.take] <;> exact rfl); (dsimp only [List.drop] <;> exact rfl); (((repeat (apply Abn.next; (simp only [push_cast, seval, e1, e2, e3, e4] <;> (try simp (disch := omega) only [wI, wU, wC]) <;> exact rfl); (focus ((try simp only [push_cast, seval, e1, e2, e3, e4]) <;> exact sT)))); (apply Abn.pureP; (simp only [push_cast, seval, e1, e2, e3, e4] <;> (try simp (disch := omega) only [wI, wU, wC]) <;> exact rfl); (exact (Enters.of Try.func16 rfl rfl)); (exact within_pure _ _ _); (focus (simp only [push_cast, seval, e1, e2, e3, e4] <;> first | trivial | assumption | (refine ⟨?_, ?_⟩ <;> assumption) | (simp; done))); (try dsimp only [putA, optG])); (repeat (apply Abn.next; (simp only [push_cast, seval, e1, e2, e3, e4] <;> (try simp (disch := omega) only [wI, wU, wC]) <;> exact rfl); (focus ((try simp only [push_cast, seval, e1, e2, e3, e4]) <;> exact sT)))); (apply Abn.pureP; (simp only [push_cast, seval, e1, e2, e3, e4] <;> (try simp (disch := omega) only [wI, wU, wC]) <;> exact rfl); (exact (Enters.of Try.func16 rfl rfl)); (exact within_pure _ _ _); (focus (simp only [push_cast, seval, e1, e2, e3, e4] <;> first | trivial | assumption | (refine ⟨?_, ?_⟩ <;> assumption) | (simp; done))); (try dsimp only [putA, optG])); (repeat (apply Abn.next; (simp only [push_cast, seval, e1, e2, e3, e4] <;> (try simp (disch := omega) only [wI, wU, wC]) <;> exact rfl); (focus ((try simp only [push_cast, seval, e1, e2, e3, e4]) <;> exact sT))))); exact Abn.nil))
          repeat (first | apply Wp.seq | apply Wp.block | (apply Run.next; (simp only [push_cast, seval, e1, e2, e3, e4] <;> (try simp (disch := omega) only [wI, wU, wC]) <;> exact rfl); (focus ((try simp only [push_cast, seval, e1, e2, e3, e4]) <;> exact sT))) | ((first | apply Run.nil | apply Wp.skip); dsimp only [sQ, tQ, bQ]) | (apply Wp.run; (dsimp only [List.map] <;> exact rfl); exact rfl) | (apply Wp.exit; dsimp only [sQ, tQ, bQ]; simp only [reduceIte]) | (apply Run.gtrue; (simp only [push_cast, seval, e1, e2, e3, e4] <;> (try simp (disch := omega) only [wI, wU, wC]) <;> exact rfl); (simp only [push_cast, seval, e1, e2, e3, e4] <;> (try simp (disch := omega) only [wI, wU, wC]) <;> exact rfl)) | (apply Run.gfalse (.bool false); (simp only [push_cast, seval, e1, e2, e3, e4] <;> (try simp (disch := omega) only [wI, wU, wC]) <;> exact rfl); dsimp only [S.put, optG]) | (apply Wp.condT; (simp only [push_cast, seval, e1, e2, e3, e4] <;> (try simp (disch := omega) only [wI, wU, wC]) <;> exact rfl)) | (apply Wp.condF; (simp only [push_cast, seval, e1, e2, e3, e4] <;> (try simp (disch := omega) only [wI, wU, wC]) <;> exact rfl)))
          (apply Run.pureP; (simp only [push_cast, seval, e1, e2, e3, e4] <;> (try simp (disch := omega) only [wI, wU, wC]) <;> exact rfl); (exact (Enters.of Try.func16 rfl rfl)); (exact within_pure _ _ _); (focus (simp only [push_cast, seval, e1, e2, e3, e4] <;> first | trivial | assumption | (refine ⟨?_, ?_⟩ <;> assumption) | (simp; done))); (try dsimp only [putA, optG]))
          repeat (first | apply Wp.seq | apply Wp.block | (apply Run.next; (simp only [push_cast, seval, e1, e2, e3, e4] <;> (try simp (disch := omega) only [wI, wU, wC]) <;> exact rfl); (focus ((try simp only [push_cast, seval, e1, e2, e3, e4]) <;> exact sT))) | ((first | apply Run.nil | apply Wp.skip); dsimp only [sQ, tQ, bQ]) | (apply Wp.run; (dsimp only [List.map] <;> exact rfl); exact rfl) | (apply Wp.exit; dsimp only [sQ, tQ, bQ]; simp only [reduceIte]) | (apply Run.gtrue; (simp only [push_cast, seval, e1, e2, e3, e4] <;> (try simp (disch := omega) only [wI, wU, wC]) <;> exact rfl); (simp only [push_cast, seval, e1, e2, e3, e4] <;> (try simp (disch := omega) only [wI, wU, wC]) <;> exact rfl)) | (apply Run.gfalse (.bool false); (simp only [push_cast, seval, e1, e2, e3, e4] <;> (try simp (disch := omega) only [wI, wU, wC]) <;> exact rfl); dsimp only [S.put, optG]) | (apply Wp.condT; (simp only [push_cast, seval, e1, e2, e3, e4] <;> (try simp (disch := omega) only [wI, wU, wC]) <;> exact rfl)) | (apply Wp.condF; (simp only [push_cast, seval, e1, e2, e3, e4] <;> (try simp (disch := omega) only [wI, wU, wC]) <;> exact rfl)))
          (apply Wp.ret; (try dsimp only [sQ, tQ, bQ]); apply leave0; exact rfl; (simp only [push_cast, seval, e1, e2, e3, e4] <;> (try simp (disch := omega) only [wI, wU, wC]) <;> exact rfl); all_goals (try simp only [push_cast, seval, e1, e2, e3, e4]); (try rfl))
        · have e4 : decide (x.kind = 4) = false := decide_eq_false h4
          rw [if_neg h4]
          (refine Spec.of_body Try.func32 rfl (by rw [Try.ntmps32]; simp) 0 (by simp) ?_; rw [Try.results32, Try.ntmps32]; simp only [entry, zipArgs, Nat.reduceAdd])
          repeat (first | apply Wp.seq | apply Wp.block | (apply Run.next; (simp only [push_cast, seval, e1, e2, e3, e4] <;> (try simp (disch := omega) only [wI, wU, wC]) <;> exact rfl); (focus ((try simp only [push_cast, seval, e1, e2, e3, e4]) <;> exact sT))) | ((first | apply Run.nil | apply Wp.skip); dsimp only [sQ, tQ, bQ]) | (apply Wp.run; (dsimp only [List.map] <;> exact rfl); exact rfl) | (apply Wp.exit; dsimp only [sQ, tQ, bQ]; simp only [reduceIte]))
          (apply Wp.runD 19 mixed; (dsimp only [List.map] <;> exact rfl); exact rfl; kernel_rfl; (dsimp only [List.take] <;> exact rfl); (dsimp only [List.drop] <;> exact rfl); (((repeat (apply Abn.next; (simp only [push_cast, seval, e1, e2, e3, e4] <;> (try simp (disch := omega) only [wI, wU, wC]) <;> exact rfl); (focus ((try simp only [push_cast, seval, e1, e2, e3, e4]) <;> exact sT)))); (apply Abn.pureP; (simp only [push_cast, seval, e1, e2, e3, e4] <;> (try simp (disch := omega) only [wI, wU, wC]) <;> exact rfl); (exact (Enters.of Try.func16 rfl rfl)); (exact within_pure _ _ _); (focus (simp only [push_cast, seval, e1, e2, e3, e4] <;> first | trivial | assumption | (refine ⟨?_, ?_⟩ <;> assumption) | (simp; done))); (try dsimp only [putA, optG])); (repeat (apply Abn.next; (simp only [push_cast, seval, e1, e2, e3, e4] <;> (try simp (disch := omega) only [wI, wU, wC]) <;> exact rfl); (focus ((try simp only [push_cast, seval, e1, e2, e3, e4]) <;> exact sT)))); (apply Abn.pureP; (simp only [push_cast, seval, e1, e2, e3, e4] <;> (try simp (disch := omega) only [wI, wU, wC]) <;> exact rfl); (exact (Enters.of Try.func16 rfl rfl)); (exact within_pure _ _ _); (focus (simp only [push_cast, seval, e1, e2, e3, e4] <;> first | trivial | assumption | (refine ⟨?_, ?_⟩ <;> assumption) | (simp; done))); (try dsimp only [putA, optG])); (repeat (apply Abn.next; (simp only [push_cast, seval, e1, e2, e3, e4] <;> (try simp (disch := omega) only [wI, wU, wC]) <;> exact rfl); (focus ((try simp only [push_cast, seval, e1, e2, e3, e4]) <;> exact sT))))); exact Abn.nil))
          repeat (first | apply Wp.seq | apply Wp.block | (apply Run.next; (simp only [push_cast, seval, e1, e2, e3, e4] <;> (try simp (disch := omega) only [wI, wU, wC]) <;> exact rfl); (focus ((try simp only [push_cast, seval, e1, e2, e3, e4]) <;> exact sT))) | ((first | apply Run.nil | apply Wp.skip); dsimp only [sQ, tQ, bQ]) | (apply Wp.run; (dsimp only [List.map] <;> exact rfl); exact rfl) | (apply Wp.exit; dsimp only [sQ, tQ, bQ]; simp only [reduceIte]) | (apply Run.gtrue; (simp only [push_cast, seval, e1, e2, e3, e4] <;> (try simp (disch := omega) only [wI, wU, wC]) <;> exact rfl); (simp only [push_cast, seval, e1, e2, e3, e4] <;> (try simp (disch := omega) only [wI, wU, wC]) <;> exact rfl)) | (apply Run.gfalse (.bool false); (simp only [push_cast, seval, e1, e2, e3, e4] <;> (try simp (disch := omega) only [wI, wU, wC]) <;> exact rfl); dsimp only [S.put, optG]) | (apply Wp.condT; (simp only [push_cast, seval, e1, e2, e3, e4] <;> (try simp (disch := omega) only [wI, wU, wC]) <;> exact rfl)) | (apply Wp.condF; (simp only [push_cast, seval, e1, e2, e3, e4] <;> (try simp (disch := omega) only [wI, wU, wC]) <;> exact rfl)))
          (apply Wp.ret; (try dsimp only [sQ, tQ, bQ]); apply leave0; exact rfl; (simp only [push_cast, seval, e1, e2, e3, e4] <;> (try simp (disch := omega) only [wI, wU, wC]) <;> exact rfl); all_goals (try simp only [push_cast, seval, e1, e2, e3, e4]); (try rfl))
theorem check1_pure (n : Int) (hn : 1 ≤ n ∧ n ≤ 6) (x : Pt) : Pure Try.prog 31 [ptA x, .ref [.int n] 0] (.bool (!saB n x)) := by
  (refine Spec.of_body Try.func31 rfl (by rw [Try.ntmps31]; simp) 0 (by simp) ?_; rw [Try.results31, Try.ntmps31]; simp only [entry, zipArgs, Nat.reduceAdd])
  repeat (first | apply Wp.seq | apply Wp.block | (apply Run.next; (simp only [push_cast, seval] <;> (try simp (disch := omega) only [wI, wU, wC]) <;> exact rfl); (focus ((try simp only [push_cast, seval]) <;> exact sT))) | ((first | apply Run.nil | apply Wp.skip); dsimp only [sQ, tQ, bQ]) | (apply Wp.run; (dsimp only [List.map] <;> exact rfl); exact rfl) | (apply Wp.exit; dsimp only [sQ, tQ, bQ]; simp only [reduceIte]))
  (apply Run.pureP; (simp only [push_cast, seval] <;> (try simp (disch := omega) only [wI, wU, wC]) <;> exact rfl); (exact (Enters.of Try.func32 rfl rfl)); (exact said_pure n hn x); (focus (simp only [push_cast, seval] <;> first | trivial | assumption | (refine ⟨?_, ?_⟩ <;> assumption) | (simp; done))); (try dsimp only [putA, optG]))
  repeat (first | apply Wp.seq | apply Wp.block | (apply Run.next; (simp only [push_cast, seval] <;> (try simp (disch := omega) only [wI, wU, wC]) <;> exact rfl); (focus ((try simp only [push_cast, seval]) <;> exact sT))) | ((first | apply Run.nil | apply Wp.skip); dsimp only [sQ, tQ, bQ]) | (apply Wp.run; (dsimp only [List.map] <;> exact rfl); exact rfl) | (apply Wp.exit; dsimp only [sQ, tQ, bQ]; simp only [reduceIte]))
  (apply Wp.ret; (try dsimp only [sQ, tQ, bQ]); apply leave0; exact rfl; (simp only [push_cast, seval] <;> (try simp (disch := omega) only [wI, wU, wC]) <;> exact rfl); all_goals (try simp only [push_cast, seval]); (try rfl))
def cpE (n : Int) (l : List Pt) : Int := if wiP n 1 6 = true then (if l.length ≤ 20 then (if l.all (saB n) = true then 0 else 31) else 2) else 1
theorem any_notP {α : Type} (p : α → Bool) (l : List α) : (l.any fun x => !p x) = !l.all p := by
  induction l with
  | nil => rfl
  | cons a l ih => simp only [List.any_cons, List.all_cons, ih, Bool.not_and]
theorem checkPortraits_pure (n : Int) (l : List Pt) (hl : l.length ≤ 9223372036854775807) : Pure Try.prog 14 [.int n, .lst 5 (l.map ptA)] (.int (cpE n l)) := by
  unfold cpE
  have hw := within_pure n 1 6
  by_cases h1 : wiP n 1 6 = true
  · rw [if_pos h1]
    have hn : 1 ≤ n ∧ n ≤ 6 := by unfold wiP at h1; rw [Bool.and_eq_true, decide_eq_true_eq, decide_eq_true_eq] at h1; exact h1
    have hcf := containsFuncPt l 31 [.ref [.int n] 0] (fun x => !saB n x) (Enters.of Try.func31 rfl rfl) (by simp only [push_cast]) (fun m => ⟨rfl, rfl⟩) (fun x _ => check1_pure n hn x) hl
    rw [any_notP] at hcf
    rw [show (decide (1 ≤ n) && decide (n ≤ 6)) = true from h1] at hw
    by_cases h2 : l.length ≤ 20
    · have e2 : decide (20 < (l.length : Int)) = false := decide_eq_false (by omega)
      rw [if_pos h2]
      generalize l.all (saB n) = b at hcf
      (refine Spec.of_body Try.func14 rfl (by rw [Try.ntmps14]; simp) 0 (by simp) ?_; rw [Try.results14, Try.ntmps14]; simp only [entry, zipArgs, Nat.reduceAdd])
      repeat (first | apply Wp.seq | apply Wp.block)
      (apply Wp.run; (dsimp only [List.map] <;> exact rfl); exact rfl)
      iterate 2 (apply Run.next; (simp only [push_cast, seval, e2] <;> (try simp (disch := omega) only [wI, wU, wC]) <;> exact rfl); (focus ((try simp only [push_cast, seval, e2]) <;> exact sT)))
      (apply Run.nil; dsimp only [sQ, tQ, bQ])
      (apply Wp.freezeP 2; (simp only [push_cast, seval, e2] <;> (try simp (disch := omega) only [wI, wU, wC]) <;> exact rfl); (simp only [push_cast, seval, e2] <;> (try simp (disch := omega) only [wI, wU, wC]) <;> exact rfl); exact rfl; (focus (first | (simp [AV.cells]; done) | (simp only [push_cast, seval, e2]; done))); simp only [AV.cells, List.set_cons_succ, List.set_cons_zero])
      repeat (first | apply Wp.seq | apply Wp.block | (apply Run.next; (simp only [push_cast, seval, e2] <;> (try simp (disch := omega) only [wI, wU, wC]) <;> exact rfl); (focus ((try simp only [push_cast, seval, e2]) <;> exact sT))) | ((first | apply Run.nil | apply Wp.skip); dsimp only [sQ, tQ, bQ]) | (apply Wp.run; (dsimp only [List.map] <;> exact rfl); exact rfl) | (apply Wp.exit; dsimp only [sQ, tQ, bQ]; simp only [reduceIte]))
      (apply Run.pureP; (simp only [push_cast, seval, e2] <;> (try simp (disch := omega) only [wI, wU, wC]) <;> exact rfl); (exact (Enters.of Try.func16 rfl rfl)); (exact hw); (focus (simp only [push_cast, seval, e2] <;> first | trivial | assumption | (refine ⟨?_, ?_⟩ <;> assumption) | (simp; done))); (try dsimp only [putA, optG]))
      repeat (first | apply Wp.seq | apply Wp.block | (apply Run.next; (simp only [push_cast, seval, e2] <;> (try simp (disch := omega) only [wI, wU, wC]) <;> exact rfl); (focus ((try simp only [push_cast, seval, e2]) <;> exact sT))) | ((first | apply Run.nil | apply Wp.skip); dsimp only [sQ, tQ, bQ]) | (apply Wp.run; (dsimp only [List.map] <;> exact rfl); exact rfl) | (apply Wp.exit; dsimp only [sQ, tQ, bQ]; simp only [reduceIte]) | (apply Run.gtrue; (simp only [push_cast, seval, e2] <;> (try simp (disch := omega) only [wI, wU, wC]) <;> exact rfl); (simp only [push_cast, seval, e2] <;> (try simp (disch := omega) only [wI, wU, wC]) <;> exact rfl)) | (apply Run.gfalse (.bool false); (simp only [push_cast, seval, e2] <;> (try simp (disch := omega) only [wI, wU, wC]) <;> exact rfl); dsimp only [S.put, optG]) | (apply Wp.condT; (simp only [push_cast, seval, e2] <;> (try simp (disch := omega) only [wI, wU, wC]) <;> exact rfl)) | (apply Wp.condF; (simp only [push_cast, seval, e2] <;> (try simp (disch := omega) only [wI, wU, wC]) <;> exact rfl)))
      (apply Run.pureP; (simp only [push_cast, seval, e2] <;> (try simp (disch := omega) only [wI, wU, wC]) <;> exact rfl); (exact (Enters.of Try.func30 rfl rfl)); (exact hcf); (focus (simp only [push_cast, seval, e2] <;> first | trivial | assumption | (refine ⟨?_, ?_⟩ <;> assumption) | (simp; done))); (try dsimp only [putA, optG]))
      cases b <;>
      (repeat (first | apply Wp.seq | apply Wp.block | (apply Run.next; (simp only [push_cast, seval, e2] <;> (try simp (disch := omega) only [wI, wU, wC]) <;> exact rfl); (focus ((try simp only [push_cast, seval, e2]) <;> exact sT))) | ((first | apply Run.nil | apply Wp.skip); dsimp only [sQ, tQ, bQ]) | (apply Wp.run; (dsimp only [List.map] <;> exact rfl); exact rfl) | (apply Wp.exit; dsimp only [sQ, tQ, bQ]; simp only [reduceIte]) | (apply Run.gtrue; (simp only [push_cast, seval, e2] <;> (try simp (disch := omega) only [wI, wU, wC]) <;> exact rfl); (simp only [push_cast, seval, e2] <;> (try simp (disch := omega) only [wI, wU, wC]) <;> exact rfl)) | (apply Run.gfalse (.bool false); (simp only [push_cast, seval, e2] <;> (try simp (disch := omega) only [wI, wU, wC]) <;> exact rfl); dsimp only [S.put, optG]) | (apply Wp.condT; (simp only [push_cast, seval, e2] <;> (try simp (disch := omega) only [wI, wU, wC]) <;> exact rfl)) | (apply Wp.condF; (simp only [push_cast, seval, e2] <;> (try simp (disch := omega) only [wI, wU, wC]) <;> exact rfl)))
       (apply Wp.ret; (try dsimp only [sQ, tQ, bQ]); apply leave0; exact rfl; (simp only [push_cast, seval, e2] <;> (try simp (disch := omega) only [wI, wU, wC]) <;> exact rfl); all_goals (try simp only [push_cast, seval, e2]); (try rfl)))
    · have e2 : decide (20 < (l.length : Int)) = true := decide_eq_true (by omega)
      rw [if_neg h2]
      (refine Spec.of_body Try.func14 rfl (by rw [Try.ntmps14]; simp) 0 (by simp) ?_; rw [Try.results14, Try.ntmps14]; simp only [entry, zipArgs, Nat.reduceAdd])
      repeat (first | apply Wp.seq | apply Wp.block | (apply Run.next; (simp only [push_cast, seval, e2] <;> (try simp (disch := omega) only [wI, wU, wC]) <;> exact rfl); (focus ((try simp only [push_cast, seval, e2]) <;> exact sT))) | ((first | apply Run.nil | apply Wp.skip); dsimp only [sQ, tQ, bQ]) | (apply Wp.run; (dsimp only [List.map] <;> exact rfl); exact rfl) | (apply Wp.exit; dsimp only [sQ, tQ, bQ]; simp only [reduceIte]))
      (apply Run.pureP; (simp only [push_cast, seval, e2] <;> (try simp (disch := omega) only [wI, wU, wC]) <;> exact rfl); (exact (Enters.of Try.func16 rfl rfl)); (exact hw); (focus (simp only [push_cast, seval, e2] <;> first | trivial | assumption | (refine ⟨?_, ?_⟩ <;> assumption) | (simp; done))); (try dsimp only [putA, optG]))
      repeat (first | apply Wp.seq | apply Wp.block | (apply Run.next; (simp only [push_cast, seval, e2] <;> (try simp (disch := omega) only [wI, wU, wC]) <;> exact rfl); (focus ((try simp only [push_cast, seval, e2]) <;> exact sT))) | ((first | apply Run.nil | apply Wp.skip); dsimp only [sQ, tQ, bQ]) | (apply Wp.run; (dsimp only [List.map] <;> exact rfl); exact rfl) | (apply Wp.exit; dsimp only [sQ, tQ, bQ]; simp only [reduceIte]) | (apply Run.gtrue; (simp only [push_cast, seval, e2] <;> (try simp (disch := omega) only [wI, wU, wC]) <;> exact rfl); (simp only [push_cast, seval, e2] <;> (try simp (disch := omega) only [wI, wU, wC]) <;> exact rfl)) | (apply Run.gfalse (.bool false); (simp only [push_cast, seval, e2] <;> (try simp (disch := omega) only [wI, wU, wC]) <;> exact rfl); dsimp only [S.put, optG]) | (apply Wp.condT; (simp only [push_cast, seval, e2] <;> (try simp (disch := omega) only [wI, wU, wC]) <;> exact rfl)) | (apply Wp.condF; (simp only [push_cast, seval, e2] <;> (try simp (disch := omega) only [wI, wU, wC]) <;> exact rfl)))
      (apply Wp.ret; (try dsimp only [sQ, tQ, bQ]); apply leave0; exact rfl; (simp only [push_cast, seval, e2] <;> (try simp (disch := omega) only [wI, wU, wC]) <;> exact rfl); all_goals (try simp only [push_cast, seval, e2]); (try rfl))
  · rw [if_neg h1]
    rw [show (decide (1 ≤ n) && decide (n ≤ 6)) = false by simpa using h1] at hw
    (refine Spec.of_body Try.func14 rfl (by rw [Try.ntmps14]; simp) 0 (by simp) ?_; rw [Try.results14, Try.ntmps14]; simp only [entry, zipArgs, Nat.reduceAdd])
    repeat (first | apply Wp.seq | apply Wp.block | (apply Run.next; (simp only [push_cast, seval] <;> (try simp (disch := omega) only [wI, wU, wC]) <;> exact rfl); (focus ((try simp only [push_cast, seval]) <;> exact sT))) | ((first | apply Run.nil | apply Wp.skip); dsimp only [sQ, tQ, bQ]) | (apply Wp.run; (dsimp only [List.map] <;> exact rfl); exact rfl) | (apply Wp.exit; dsimp only [sQ, tQ, bQ]; simp only [reduceIte]))
    (apply Run.pureP; (simp only [push_cast, seval] <;> (try simp (disch := omega) only [wI, wU, wC]) <;> exact rfl); (exact (Enters.of Try.func16 rfl rfl)); (exact hw); (focus (simp only [push_cast, seval] <;> first | trivial | assumption | (refine ⟨?_, ?_⟩ <;> assumption) | (simp; done))); (try dsimp only [putA, optG]))
    repeat (first | apply Wp.seq | apply Wp.block | (apply Run.next; (simp only [push_cast, seval] <;> (try simp (disch := omega) only [wI, wU, wC]) <;> exact rfl); (focus ((try simp only [push_cast, seval]) <;> exact sT))) | ((first | apply Run.nil | apply Wp.skip); dsimp only [sQ, tQ, bQ]) | (apply Wp.run; (dsimp only [List.map] <;> exact rfl); exact rfl) | (apply Wp.exit; dsimp only [sQ, tQ, bQ]; simp only [reduceIte]) | (apply Run.gtrue; (simp only [push_cast, seval] <;> (try simp (disch := omega) only [wI, wU, wC]) <;> exact rfl); (simp only [push_cast, seval] <;> (try simp (disch := omega) only [wI, wU, wC]) <;> exact rfl)) | (apply Run.gfalse (.bool false); (simp only [push_cast, seval] <;> (try simp (disch := omega) only [wI, wU, wC]) <;> exact rfl); dsimp only [S.put, optG]) | (apply Wp.condT; (simp only [push_cast, seval] <;> (try simp (disch := omega) only [wI, wU, wC]) <;> exact rfl)) | (apply Wp.condF; (simp only [push_cast, seval] <;> (try simp (disch := omega) only [wI, wU, wC]) <;> exact rfl)))
    (apply Wp.ret; (try dsimp only [sQ, tQ, bQ]); apply leave0; exact rfl; (simp only [push_cast, seval] <;> (try simp (disch := omega) only [wI, wU, wC]) <;> exact rfl); all_goals (try simp only [push_cast, seval]); (try rfl))
end Go.Proofs.Try
set_option maxHeartbeats 8000000
namespace Go.Proofs.Try

/-! a search, number by number, in order -/
/-! all of them, in order -/
def plF (f : Nat → List (List Int)) : Nat → Nat → List (List Int)
  | 0, _ => []
  | d + 1, j => f j ++ plF f d (j + 1)
def plL (c : Nat → Nat) (ok : List Int → Bool) : Nat → List Int → List (List Int)
  | 0, I => [I]
  | r + 1, I => plF (fun j => if ok (I ++ [(j : Int)]) = true then plL c ok r (I ++ [(j : Int)]) else []) (c I.length) 0
/-! numbers that are alike -/
end Go.Proofs.Try
set_option maxHeartbeats 8000000
namespace Go.Proofs.Try

/-! the items of one kind -/
theorem getD_left {I J : List Int} {i : Nat} (h : i < I.length) : (I ++ J).getD i 0 = I.getD i 0 := by
  simp only [List.getD_eq_getElem?_getD]; rw [List.getElem?_append_left h]
theorem getD_last (I : List Int) (x : Int) : (I ++ [x]).getD I.length 0 = x := by simp
end Go.Proofs.Try
set_option maxHeartbeats 8000000
namespace Go.Proofs.Try
open Go.Vg

/-! all orders of numbers; what is done with each of them, until it says no -/
section
variable {σ : Type}
def foldB (go : σ → List Int → σ × Bool) (s : σ) : List (List Int) → σ × Bool
  | [] => (s, true)
  | x :: l => if (go s x).2 = true then foldB go (go s x).1 l else ((go s x).1, false)
theorem foldB_app (go : σ → List Int → σ × Bool) (s : σ) : ∀ (l l' : List (List Int)), foldB go s (l ++ l') = if (foldB go s l).2 = true then foldB go (foldB go s l).1 l' else ((foldB go s l).1, false)
  | [], l' => by simp [foldB]
  | x :: l, l' => by
    have ih := foldB_app go (go s x).1 l l'
    by_cases h : (go s x).2 = true
    · simp [foldB, h, ih]
    · simp [foldB, h]
end
/-- the last one is none of those before -/
def okN (I : List Int) : Bool := !(I.take (I.length - 1)).contains (I.getD (I.length - 1) 0)
theorem okN_snoc (I : List Int) (x : Int) : okN (I ++ [x]) = !I.contains x := by
  unfold okN
  rw [show (I ++ [x]).length - 1 = I.length by simp, getD_last]
  simp
def ordL (n r : Nat) (I : List Int) : List (List Int) := plL (fun _ => n) okN r I
def hgL (n : Nat) (ok : List Int → Bool) (r : Nat) (I : List Int) : List (List Int) := (ordL n r I).filter ok
def hgF (n : Nat) (ok : List Int → Bool) (r : Nat) (I : List Int) (p : Nat) : List (List Int) := if I.contains (p : Int) = true then [] else hgL n ok r (I ++ [(p : Int)])
theorem plF_filter (f : Nat → List (List Int)) (ok : List Int → Bool) : ∀ d j, (plF f d j).filter ok = plF (fun i => (f i).filter ok) d j
  | 0, _ => rfl
  | d + 1, j => by simp only [plF, List.filter_append, plF_filter f ok d (j + 1)]
theorem plF_congr {f g : Nat → List (List Int)} : ∀ {d j : Nat}, (∀ i, f i = g i) → plF f d j = plF g d j
  | 0, _, _ => rfl
  | d + 1, j, h => by simp only [plF, h j, plF_congr (d := d) (j := j + 1) h]
theorem hgL_zero (n : Nat) (ok : List Int → Bool) (I : List Int) : hgL n ok 0 I = if ok I = true then [I] else [] := by
  unfold hgL ordL plL
  by_cases h : ok I = true
  · rw [if_pos h, List.filter_cons, if_pos h]; rfl
  · rw [if_neg h, List.filter_cons, if_neg h]; rfl
theorem hgL_succ (n : Nat) (ok : List Int → Bool) (r : Nat) (I : List Int) : hgL n ok (r + 1) I = plF (hgF n ok r I) n 0 := by
  show (plF _ n 0).filter ok = _
  rw [plF_filter]
  refine plF_congr fun i => ?_
  unfold hgF
  rw [okN_snoc]
  cases h : I.contains (i : Int) with
  | true => simp
  | false => simp [hgL, ordL]
theorem plF_snocG (f : Nat → List (List Int)) : ∀ d j, plF f (d + 1) j = plF f d j ++ f (j + d)
  | 0, j => by simp [plF]
  | d + 1, j => by
    have := plF_snocG f d (j + 1)
    rw [plF, this]
    simp only [plF]
    rw [List.append_assoc, show j + 1 + d = j + (d + 1) by omega]
/-- where a number stands -/
def plcN (I : List Int) (p : Int) : Int := if I.contains p = true then (I.idxOf p : Int) else -1
end Go.Proofs.Try
set_option maxHeartbeats 8000000
namespace Go.Proofs.Try
open Go.Vg

/-! the document's Check, where a portrait hangs, and whether a sentence holds -/
end Go.Proofs.Try
set_option maxHeartbeats 8000000
namespace Go.Vg
end Go.Vg
namespace Go.Proofs.Try
open Go.Vg

/-! the document's hangings -/
theorem plcN_at {I : List Int} {p : Int} {k : Nat} (hk : k < I.length) (h : I.getD k 0 = p) (hb : ∀ j, j < k → I.getD j 0 ≠ p) : plcN I p = (k : Int) := by
  have e : ∀ j (hj : j < I.length), I.getD j 0 = I[j] := fun j hj => by simp [hj]
  have hm : p ∈ I := by rw [← h, e k hk]; exact List.getElem_mem hk
  unfold plcN
  rw [if_pos (by simpa using hm)]
  congr 1
  have h1 : I.idxOf p = I.findIdx (fun y => y == p) := rfl
  rw [h1, List.findIdx_eq hk]
  refine ⟨by rw [← e k hk, h]; simp, fun j hj => ?_⟩
  have := hb j hj
  rw [e j (by omega)] at this
  simpa using this
theorem plcN_bd (I : List Int) (p : Int) : -1 ≤ plcN I p ∧ plcN I p < I.length ∧ (0 ≤ plcN I p ↔ I.contains p = true) := by
  unfold plcN
  split
  · rename_i h
    have hm : p ∈ I := by simpa using h
    have := List.idxOf_lt_length_iff.2 hm
    exact ⟨by omega, by omega, fun _ => h, fun _ => by omega⟩
  · rename_i h
    exact ⟨by omega, by omega, fun h2 => by omega, fun h2 => absurd h2 h⟩
def hoQ (x : Pt) (I : List Int) : Bool := !decide (isP x (plcN I x.a) (plcN I x.b) = x.no)
end Go.Proofs.Try
set_option maxHeartbeats 8000000
namespace Go.Proofs.Try
open Go.Vg

/-! all hangings, as the document lists them -/
def okH (l : List Pt) (I : List Int) : Bool := l.all fun x => hoQ x I
theorem plF_lenP {f : Nat → List (List Int)} {B : Nat} (h : ∀ i, (f i).length ≤ B) : ∀ d j, (plF f d j).length ≤ d * B
  | 0, _ => by simp [plF]
  | d + 1, j => by
    have := plF_lenP h d (j + 1)
    have := h j
    simp only [plF, List.length_append]
    rw [Nat.succ_mul]; omega
theorem hgL_len {n : Nat} (hn : n ≤ 6) (ok : List Int → Bool) : ∀ r I, (hgL n ok r I).length ≤ 6 ^ r
  | 0, I => by rw [hgL_zero]; split <;> simp
  | r + 1, I => by
    rw [hgL_succ]
    have h1 := plF_lenP (f := hgF n ok r I) (B := 6 ^ r) (fun i => by
      unfold hgF
      split
      · simp
      · exact hgL_len hn ok r _) n 0
    have h2 : n * 6 ^ r ≤ 6 * 6 ^ r := Nat.mul_le_mul_right _ hn
    rw [Nat.pow_succ, Nat.mul_comm]; omega
end Go.Proofs.Try
set_option maxHeartbeats 8000000
namespace Go.Proofs.Try
open Go.Vg

/-! the places of the portraits, and what the recursion keeps -/
def plA (n : Nat) (h : List Int) : List Int := (List.range n).map fun p : Nat => plcN h (p : Int)
theorem plA_len (n : Nat) (h : List Int) : (plA n h).length = n := by simp [plA]
theorem plA_get {n p : Nat} (h : List Int) (hp : p < n) : (plA n h).getD p 0 = plcN h (p : Int) := by simp [plA, hp]
theorem plA_bd (n : Nat) (h : List Int) (hl : h.length ≤ 6) (i : Nat) : -1 ≤ (plA n h).getD i 0 ∧ (plA n h).getD i 0 ≤ 100 := by
  by_cases hi : i < n
  · rw [plA_get h hi]
    have := plcN_bd h (i : Int)
    omega
  · rw [List.getD_eq_getElem?_getD, List.getElem?_eq_none (by rw [plA_len]; omega)]; simp
theorem plcN_snoc {h : List Int} {p q : Int} (hq : h.contains q = false) : plcN (h ++ [q]) p = if p = q then (h.length : Int) else plcN h p := by
  have hqm : q ∉ h := by simpa using hq
  by_cases hpq : p = q
  · subst hpq
    rw [if_pos rfl]
    refine plcN_at (by simp) (getD_last h p) fun j hj => ?_
    rw [getD_left hj]
    intro e
    exact hqm (by rw [← e]; simp [hj])
  · rw [if_neg hpq]
    unfold plcN
    by_cases hp : h.contains p = true
    · have hpm : p ∈ h := by simpa using hp
      rw [if_pos hp, if_pos (by simp [hpm]), List.idxOf_append, if_pos hpm]
    · have hpm : p ∉ h := by simpa using hp
      rw [if_neg hp, if_neg (by simp [hpm, hpq])]
theorem plA_set {n p : Nat} {h : List Int} (hp : h.contains (p : Int) = false) : (plA n h).set p (h.length : Int) = plA n (h ++ [(p : Int)]) := by
  apply List.ext_getElem (by simp [plA])
  intro i h1 h2
  rw [List.getElem_set]
  simp only [plA, List.getElem_map, List.getElem_range]
  rw [plcN_snoc hp]
  by_cases hip : p = i
  · subst hip; simp
  · rw [if_neg hip, if_neg (by omega)]
theorem plA_back {n p : Nat} {h : List Int} (hp : h.contains (p : Int) = false) : (plA n (h ++ [(p : Int)])).set p (-1) = plA n h := by
  apply List.ext_getElem (by simp [plA])
  intro i h1 h2
  rw [List.getElem_set]
  simp only [plA, List.getElem_map, List.getElem_range]
  by_cases hip : p = i
  · subst hip
    rw [if_pos rfl]
    unfold plcN
    rw [if_neg (by rw [hp]; simp)]
  · rw [if_neg hip, plcN_snoc hp, if_neg (by omega)]
theorem plA_zero (n : Nat) : plA n [] = List.replicate n (-1) := by
  apply List.ext_getElem (by simp [plA])
  intro i h1 h2
  simp [plA, plcN]
theorem ho_eq {n : Nat} {x : Pt} (hx : PV n x) (h : List Int) : hoP x (fun i => (plA n h).getD i 0) = hoQ x h := by
  obtain ⟨a1, b1⟩ := hx
  have e1 : (plA n h).getD x.a.toNat 0 = plcN h x.a := by rw [plA_get h (by omega), Int.toNat_of_nonneg a1.1]
  have e2 : (plA n h).getD x.b.toNat 0 = plcN h x.b := by rw [plA_get h (by omega), Int.toNat_of_nonneg b1.1]
  show (!decide (isP x ((plA n h).getD x.a.toNat 0) ((plA n h).getD x.b.toNat 0) = x.no)) = _
  simp only [e1, e2]
  rfl
theorem VwL.selfsP {m : Mem} : ∀ {xs : List AV}, okL 0 xs → VwL m xs xs
  | [], _ => .nil
  | x :: xs, h => .cons (.self h.1) (VwL.selfsP h.2)
abbrev hclo (N wn wl : Nat) : AV := .clo 35 [.optr (N + 1) 0 0 0, .optr wn 0 0 0, .optr wl 0 0 0, .optr (N + 3) 0 0 0, .optr N 0 0 0, .optr (N + 4) 0 0 0]
abbrev htail (N yid wn wl n : Nat) (h : List Int) (len vi : Nat) : Mem := [⟨0, .row 1 [.yld yid 0]⟩, ⟨0, .row 1 [.osl (N + 5) vi 0 len]⟩, ⟨0, .row 1 ((plA n h).map AV.int)⟩, ⟨0, .row 1 [.osl (N + 2) 0 0 n]⟩, ⟨0, .row 1 [hclo N wn wl]⟩, ⟨vi, .row 1 (h.map AV.int)⟩]
theorem Vw.ointsP {m : Mem} {id ver : Nat} {l : List Int} (n : Nat) (hn : n = l.length) (hm : m[id]? = some ⟨ver, .row 1 (l.map AV.int)⟩) : Vw m (.osl id ver 0 n) (.ints l) := by
  subst hn
  refine .osl hm (by simp) (by omega) ?_
  have e : ((l.map AV.int).drop 0).take l.length = l.map AV.int := by simp [List.take_of_length_le]
  rw [e]
  exact VwL.selfsP (by simp only [push_cast])
theorem htail_vw {M : Mem} {N : Nat} (hM : M.length = N) (yid wn wl n : Nat) (h : List Int) (len vi : Nat) (f : FuncId) : Vw (M ++ htail N yid wn wl n h len vi) (.clo f [.optr (N + 3) 0 0 0]) (.clo f [.ref [.ints (plA n h)] 0]) :=
  .clo (.cons (.optr (sz := 1) (l := [.osl (N + 2) 0 0 n]) (x := .osl (N + 2) 0 0 n) (by rw [getF hM]; rfl) rfl (by simp [AV.cells]) (.cons (Vw.ointsP n (plA_len n h).symm (by rw [getF hM]; rfl)) .nil)) .nil)
theorem holds1_pure {n : Nat} {x : Pt} (hx : PV n x) (h : List Int) (hl : h.length ≤ 6) : Pure Try.prog 36 [ptA x, .ref [.ints (plA n h)] 0] (.bool (!hoQ x h)) := by
  have hh := holds_pure hx (plA n h) (plA_len n h) (plA_bd n h hl)
  rw [ho_eq hx h] at hh
  (refine Spec.of_body Try.func36 rfl (by rw [Try.ntmps36]; simp) 0 (by simp) ?_; rw [Try.results36, Try.ntmps36]; simp only [entry, zipArgs, Nat.reduceAdd])
  repeat (first | apply Wp.seq | apply Wp.block | (apply Run.next; (simp only [push_cast, seval] <;> (try simp (disch := omega) only [wI, wU, wC]) <;> exact rfl); (focus ((try simp only [push_cast, seval]) <;> exact sT))) | ((first | apply Run.nil | apply Wp.skip); dsimp only [sQ, tQ, bQ]) | (apply Wp.run; (dsimp only [List.map] <;> exact rfl); exact rfl) | (apply Wp.exit; dsimp only [sQ, tQ, bQ]; simp only [reduceIte]))
  (apply Run.pureP; (simp only [push_cast, seval] <;> (try simp (disch := omega) only [wI, wU, wC]) <;> exact rfl); (exact (Enters.of Try.func37 rfl rfl)); (exact hh); (focus (simp only [push_cast, seval] <;> first | trivial | assumption | (refine ⟨?_, ?_⟩ <;> assumption) | (simp; done))); (try dsimp only [putA, optG]))
  repeat (first | apply Wp.seq | apply Wp.block | (apply Run.next; (simp only [push_cast, seval] <;> (try simp (disch := omega) only [wI, wU, wC]) <;> exact rfl); (focus ((try simp only [push_cast, seval]) <;> exact sT))) | ((first | apply Run.nil | apply Wp.skip); dsimp only [sQ, tQ, bQ]) | (apply Wp.run; (dsimp only [List.map] <;> exact rfl); exact rfl) | (apply Wp.exit; dsimp only [sQ, tQ, bQ]; simp only [reduceIte]))
  (apply Wp.ret; (try dsimp only [sQ, tQ, bQ]); apply leave0; exact rfl; (simp only [push_cast, seval] <;> (try simp (disch := omega) only [wI, wU, wC]) <;> exact rfl); all_goals (try simp only [push_cast, seval]); (try rfl))
section
variable {σ : Type} (K : σ → Mem) (go : σ → List Int → σ × Bool) (G : σ → Prop)
def NxQ (N yid wn wl n : Nat) (h : List Int) (R : σ × Bool) (x : AV) (m' : Mem) : Prop :=
  (R.2 = true ∧ x = .bool true ∧ G R.1 ∧ ∃ vi, m' = K R.1 ++ htail N yid wn wl n h h.length vi) ∨ (R.2 = false ∧ x = .bool false ∧ ∃ T : Mem, T.length = 6 ∧ m' = K R.1 ++ T)
theorem next_spec {N yid wn wl n : Nat} (hK : ∀ s, (K s).length = N) (hwn : ∀ s l, (K s ++ l)[wn]? = some ⟨0, .row 1 [.int n]⟩) {ls : List Pt} (hwl : ∀ s l, (K s ++ l)[wl]? = some ⟨0, .row 1 [.lst 5 (ls.map ptA)]⟩) (hn : n ≤ 6) (hl20 : ls.length ≤ 20) (hpv : ∀ x ∈ ls, PV n x)
    (hG : ∀ s h, G s → (go s h).2 = true → G (go s h).1)
    (hY : ∀ s h vi, G s → h.length = n → okH ls h = true → YSpec Try.prog (.yld yid 0) [.osl (N + 5) vi 0 n] (K s ++ htail N yid wn wl n h n vi) fun x m' => x = .bool (go s h).2 ∧ m' = K (go s h).1 ++ htail N yid wn wl n h n vi) :
    ∀ (r : Nat) (h : List Int) (s : σ) (vi : Nat), h.length + r = n → G s → Go.Vg.Spec Try.prog 35 [.optr (N + 1) 0 0 0, .optr wn 0 0 0, .optr wl 0 0 0, .optr (N + 3) 0 0 0, .optr N 0 0 0, .optr (N + 4) 0 0 0] (K s ++ htail N yid wn wl n h h.length vi) (NxQ K G N yid wn wl n h (foldB go s (hgL n (okH ls) r h))) := by
  intro r
  induction r with
  | zero =>
    intro h s vi hr hs
    have he : decide ((h.length : Int) = (n : Int)) = true := decide_eq_true (by omega)
    have hcf := containsFuncPt ls 36 [.ref [.ints (plA n h)] 0] (fun x => !hoQ x h) (Enters.of Try.func36 rfl rfl) (by simp only [push_cast]) (fun m => ⟨rfl, rfl⟩) (fun x hx => holds1_pure (hpv x hx) h (by omega)) (by omega)
    rw [any_notP, show (ls.all fun x => hoQ x h) = okH ls h from rfl] at hcf
    have hpl := plA_len n h
    rw [hgL_zero]
    have hYs := hY s h vi hs (by omega)
    cases hok : okH ls h with
    | false =>
      rw [hok] at hcf
      rw [if_neg (by simp)]
      (refine Spec.of_bodyA Try.func35 rfl (by rw [Try.ntmps35]; simp) ?_; rw [Try.results35, Try.ntmps35]; simp only [entry, zipArgs, Nat.reduceAdd])
      repeat (first | apply Wp.seq | apply Wp.block | (apply Run.next; (simp only [push_cast, seval, getF (hK s), getF0 (hK s), hwn s, hwl s, he] <;> (try simp (disch := omega) only [wI, wU, wC]) <;> exact rfl); (focus ((try simp only [push_cast, seval, getF (hK s), getF0 (hK s), hwn s, hwl s, he]) <;> exact sT))) | ((first | apply Run.nil | apply Wp.skip); dsimp only [sQ, tQ, bQ]) | (apply Wp.run; (dsimp only [List.map] <;> exact rfl); exact rfl) | (apply Wp.exit; dsimp only [sQ, tQ, bQ]; simp only [reduceIte]) | (apply Run.gtrue; (simp only [push_cast, seval, getF (hK s), getF0 (hK s), hwn s, hwl s, he] <;> (try simp (disch := omega) only [wI, wU, wC]) <;> exact rfl); (simp only [push_cast, seval, getF (hK s), getF0 (hK s), hwn s, hwl s, he] <;> (try simp (disch := omega) only [wI, wU, wC]) <;> exact rfl)) | (apply Run.gfalse (.bool false); (simp only [push_cast, seval, getF (hK s), getF0 (hK s), hwn s, hwl s, he] <;> (try simp (disch := omega) only [wI, wU, wC]) <;> exact rfl); dsimp only [S.put, optG]) | (apply Wp.condT; (simp only [push_cast, seval, getF (hK s), getF0 (hK s), hwn s, hwl s, he] <;> (try simp (disch := omega) only [wI, wU, wC]) <;> exact rfl)) | (apply Wp.condF; (simp only [push_cast, seval, getF (hK s), getF0 (hK s), hwn s, hwl s, he] <;> (try simp (disch := omega) only [wI, wU, wC]) <;> exact rfl)))
      (apply Run.pureW; (simp only [push_cast, seval, getF (hK s), getF0 (hK s), hwn s, hwl s, he] <;> (try simp (disch := omega) only [wI, wU, wC]) <;> exact rfl); (exact (Enters.of Try.func30 rfl rfl)); (exact hcf); (exact VwL.cons (Vw.self (by simp only [push_cast])) (VwL.cons (htail_vw (hK s) _ _ _ _ _ _ _ _) VwL.nil)); (simp only [push_cast, seval, getF (hK s), getF0 (hK s), hwn s, hwl s, he] <;> first | trivial | assumption | (refine ⟨?_, ?_⟩ <;> assumption) | (simp; done)); (try dsimp only [putA, optG]))
      repeat (first | apply Wp.seq | apply Wp.block | (apply Run.next; (simp only [push_cast, seval, getF (hK s), getF0 (hK s), hwn s, hwl s, he] <;> (try simp (disch := omega) only [wI, wU, wC]) <;> exact rfl); (focus ((try simp only [push_cast, seval, getF (hK s), getF0 (hK s), hwn s, hwl s, he]) <;> exact sT))) | ((first | apply Run.nil | apply Wp.skip); dsimp only [sQ, tQ, bQ]) | (apply Wp.run; (dsimp only [List.map] <;> exact rfl); exact rfl) | (apply Wp.exit; dsimp only [sQ, tQ, bQ]; simp only [reduceIte]) | (apply Run.gtrue; (simp only [push_cast, seval, getF (hK s), getF0 (hK s), hwn s, hwl s, he] <;> (try simp (disch := omega) only [wI, wU, wC]) <;> exact rfl); (simp only [push_cast, seval, getF (hK s), getF0 (hK s), hwn s, hwl s, he] <;> (try simp (disch := omega) only [wI, wU, wC]) <;> exact rfl)) | (apply Run.gfalse (.bool false); (simp only [push_cast, seval, getF (hK s), getF0 (hK s), hwn s, hwl s, he] <;> (try simp (disch := omega) only [wI, wU, wC]) <;> exact rfl); dsimp only [S.put, optG]) | (apply Wp.condT; (simp only [push_cast, seval, getF (hK s), getF0 (hK s), hwn s, hwl s, he] <;> (try simp (disch := omega) only [wI, wU, wC]) <;> exact rfl)) | (apply Wp.condF; (simp only [push_cast, seval, getF (hK s), getF0 (hK s), hwn s, hwl s, he] <;> (try simp (disch := omega) only [wI, wU, wC]) <;> exact rfl)))
      (apply Wp.ret; (try dsimp only [sQ, tQ, bQ]); apply leaveA; exact rfl; (simp only [push_cast, seval, getF (hK s), getF0 (hK s), hwn s, hwl s, he] <;> (try simp (disch := omega) only [wI, wU, wC]) <;> exact rfl); (focus (first | (simp only [push_cast, seval, getF (hK s), getF0 (hK s), hwn s, hwl s, he]; done) | trivial | (simp only [push_cast, seval, getF (hK s), getF0 (hK s), hwn s, hwl s, he]; trivial) | (simp; done))); (try simp only [push_cast, seval, getF (hK s), getF0 (hK s), hwn s, hwl s, he]))
      exact .inl ⟨rfl, rfl, hs, vi, rfl⟩
    | true =>
      rw [hok] at hcf
      rw [if_pos rfl]
      have hYs := hYs hok
      have hfb : foldB go s [h] = go s h := by
        simp only [foldB]
        cases hg : go s h with
        | mk a b => cases b <;> simp
      rw [hfb]
      have hGs := hG s h hs
      generalize go s h = R at hYs hGs
      have hlen : n = h.length := by omega
      (refine Spec.of_bodyA Try.func35 rfl (by rw [Try.ntmps35]; simp) ?_; rw [Try.results35, Try.ntmps35]; simp only [entry, zipArgs, Nat.reduceAdd])
      repeat (first | apply Wp.seq | apply Wp.block | (apply Run.next; (simp only [push_cast, seval, getF (hK s), getF0 (hK s), hwn s, hwl s, he] <;> (try simp (disch := omega) only [wI, wU, wC]) <;> exact rfl); (focus ((try simp only [push_cast, seval, getF (hK s), getF0 (hK s), hwn s, hwl s, he]) <;> exact sT))) | ((first | apply Run.nil | apply Wp.skip); dsimp only [sQ, tQ, bQ]) | (apply Wp.run; (dsimp only [List.map] <;> exact rfl); exact rfl) | (apply Wp.exit; dsimp only [sQ, tQ, bQ]; simp only [reduceIte]) | (apply Run.gtrue; (simp only [push_cast, seval, getF (hK s), getF0 (hK s), hwn s, hwl s, he] <;> (try simp (disch := omega) only [wI, wU, wC]) <;> exact rfl); (simp only [push_cast, seval, getF (hK s), getF0 (hK s), hwn s, hwl s, he] <;> (try simp (disch := omega) only [wI, wU, wC]) <;> exact rfl)) | (apply Run.gfalse (.bool false); (simp only [push_cast, seval, getF (hK s), getF0 (hK s), hwn s, hwl s, he] <;> (try simp (disch := omega) only [wI, wU, wC]) <;> exact rfl); dsimp only [S.put, optG]) | (apply Wp.condT; (simp only [push_cast, seval, getF (hK s), getF0 (hK s), hwn s, hwl s, he] <;> (try simp (disch := omega) only [wI, wU, wC]) <;> exact rfl)) | (apply Wp.condF; (simp only [push_cast, seval, getF (hK s), getF0 (hK s), hwn s, hwl s, he] <;> (try simp (disch := omega) only [wI, wU, wC]) <;> exact rfl)))
      (apply Run.pureW; (simp only [push_cast, seval, getF (hK s), getF0 (hK s), hwn s, hwl s, he] <;> (try simp (disch := omega) only [wI, wU, wC]) <;> exact rfl); (exact (Enters.of Try.func30 rfl rfl)); (exact hcf); (exact VwL.cons (Vw.self (by simp only [push_cast])) (VwL.cons (htail_vw (hK s) _ _ _ _ _ _ _ _) VwL.nil)); (simp only [push_cast, seval, getF (hK s), getF0 (hK s), hwn s, hwl s, he] <;> first | trivial | assumption | (refine ⟨?_, ?_⟩ <;> assumption) | (simp; done)); (try dsimp only [putA, optG]))
      repeat (first | apply Wp.seq | apply Wp.block | (apply Run.next; (simp only [push_cast, seval, getF (hK s), getF0 (hK s), hwn s, hwl s, he] <;> (try simp (disch := omega) only [wI, wU, wC]) <;> exact rfl); (focus ((try simp only [push_cast, seval, getF (hK s), getF0 (hK s), hwn s, hwl s, he]) <;> exact sT))) | ((first | apply Run.nil | apply Wp.skip); dsimp only [sQ, tQ, bQ]) | (apply Wp.run; (dsimp only [List.map] <;> exact rfl); exact rfl) | (apply Wp.exit; dsimp only [sQ, tQ, bQ]; simp only [reduceIte]) | (apply Run.gtrue; (simp only [push_cast, seval, getF (hK s), getF0 (hK s), hwn s, hwl s, he] <;> (try simp (disch := omega) only [wI, wU, wC]) <;> exact rfl); (simp only [push_cast, seval, getF (hK s), getF0 (hK s), hwn s, hwl s, he] <;> (try simp (disch := omega) only [wI, wU, wC]) <;> exact rfl)) | (apply Run.gfalse (.bool false); (simp only [push_cast, seval, getF (hK s), getF0 (hK s), hwn s, hwl s, he] <;> (try simp (disch := omega) only [wI, wU, wC]) <;> exact rfl); dsimp only [S.put, optG]) | (apply Wp.condT; (simp only [push_cast, seval, getF (hK s), getF0 (hK s), hwn s, hwl s, he] <;> (try simp (disch := omega) only [wI, wU, wC]) <;> exact rfl)) | (apply Wp.condF; (simp only [push_cast, seval, getF (hK s), getF0 (hK s), hwn s, hwl s, he] <;> (try simp (disch := omega) only [wI, wU, wC]) <;> exact rfl)))
      rw [hlen] at hYs ⊢
      apply Run.ycall (hc := hYs)
      focus exact rfl
      focus (simp only [push_cast, seval, getF (hK s), getF0 (hK s), hwn s, hwl s, he] <;> (try simp (disch := omega) only [wI, wU, wC]) <;> exact rfl)
      focus (simp only [push_cast, seval, getF (hK s), getF0 (hK s), hwn s, hwl s, he] <;> (try simp (disch := omega) only [wI, wU, wC]) <;> exact rfl)
      rintro x m' ⟨rfl, rfl⟩
      obtain ⟨s', b⟩ := R
      cases b with
      | true =>
        dsimp only [S.put, optG]
        repeat (first | apply Wp.seq | apply Wp.block | (apply Run.next; (simp only [push_cast, seval, getF (hK s), getF0 (hK s), hwn s, hwl s, he] <;> (try simp (disch := omega) only [wI, wU, wC]) <;> exact rfl); (focus ((try simp only [push_cast, seval, getF (hK s), getF0 (hK s), hwn s, hwl s, he]) <;> exact sT))) | ((first | apply Run.nil | apply Wp.skip); dsimp only [sQ, tQ, bQ]) | (apply Wp.run; (dsimp only [List.map] <;> exact rfl); exact rfl) | (apply Wp.exit; dsimp only [sQ, tQ, bQ]; simp only [reduceIte]))
        (apply Wp.ret; (try dsimp only [sQ, tQ, bQ]); apply leaveA; exact rfl; (simp only [push_cast, seval, getF (hK s), getF0 (hK s), hwn s, hwl s, he] <;> (try simp (disch := omega) only [wI, wU, wC]) <;> exact rfl); (focus (first | (simp only [push_cast, seval, getF (hK s), getF0 (hK s), hwn s, hwl s, he]; done) | trivial | (simp only [push_cast, seval, getF (hK s), getF0 (hK s), hwn s, hwl s, he]; trivial) | (simp; done))); (try simp only [push_cast, seval, getF (hK s), getF0 (hK s), hwn s, hwl s, he]))
        exact .inl ⟨rfl, rfl, hGs rfl, vi, rfl⟩
      | false =>
        dsimp only [S.put, optG]
        repeat (first | apply Wp.seq | apply Wp.block | (apply Run.next; (simp only [push_cast, seval, getF (hK s), getF0 (hK s), hwn s, hwl s, he] <;> (try simp (disch := omega) only [wI, wU, wC]) <;> exact rfl); (focus ((try simp only [push_cast, seval, getF (hK s), getF0 (hK s), hwn s, hwl s, he]) <;> exact sT))) | ((first | apply Run.nil | apply Wp.skip); dsimp only [sQ, tQ, bQ]) | (apply Wp.run; (dsimp only [List.map] <;> exact rfl); exact rfl) | (apply Wp.exit; dsimp only [sQ, tQ, bQ]; simp only [reduceIte]))
        (apply Wp.ret; (try dsimp only [sQ, tQ, bQ]); apply leaveA; exact rfl; (simp only [push_cast, seval, getF (hK s), getF0 (hK s), hwn s, hwl s, he] <;> (try simp (disch := omega) only [wI, wU, wC]) <;> exact rfl); (focus (first | (simp only [push_cast, seval, getF (hK s), getF0 (hK s), hwn s, hwl s, he]; done) | trivial | (simp only [push_cast, seval, getF (hK s), getF0 (hK s), hwn s, hwl s, he]; trivial) | (simp; done))); (try simp only [push_cast, seval, getF (hK s), getF0 (hK s), hwn s, hwl s, he]))
        exact .inr ⟨rfl, rfl, _, rfl, rfl⟩
  | succ r ih =>
    intro h s vi hr hs
    have he : decide ((h.length : Int) = (n : Int)) = false := decide_eq_false (by omega)
    rw [hgL_succ]
    have hst : ∀ j, foldB go s (plF (hgF n (okH ls) r h) (j + 1) 0) = if (foldB go s (plF (hgF n (okH ls) r h) j 0)).2 = true then foldB go (foldB go s (plF (hgF n (okH ls) r h) j 0)).1 (hgF n (okH ls) r h j) else ((foldB go s (plF (hgF n (okH ls) r h) j 0)).1, false) := fun j => by rw [plF_snocG, foldB_app, Nat.zero_add]
    have hfz : ∀ j : Nat, hgF n (okH ls) r h j = if h.contains (j : Int) = true then [] else hgL n (okH ls) r (h ++ [(j : Int)]) := fun _ => rfl
    have hf0 : foldB go s (plF (hgF n (okH ls) r h) 0 0) = (s, true) := rfl
    have hstop : ∀ j, j ≤ n → (foldB go s (plF (hgF n (okH ls) r h) j 0)).2 = false → foldB go s (plF (hgF n (okH ls) r h) n 0) = foldB go s (plF (hgF n (okH ls) r h) j 0) := by
      intro j hj hb
      have : ∀ d, foldB go s (plF (hgF n (okH ls) r h) (j + d) 0) = foldB go s (plF (hgF n (okH ls) r h) j 0) := by
        intro d
        induction d with
        | zero => rfl
        | succ d ihd =>
          rw [← Nat.add_assoc, hst, ihd, if_neg (by rw [hb]; simp)]
          rw [← hb]
      have h2 := this (n - j)
      rw [show j + (n - j) = n by omega] at h2
      exact h2
    generalize hfd : (fun j => foldB go s (plF (hgF n (okH ls) r h) j 0)) = fd
    have hfe : ∀ j, foldB go s (plF (hgF n (okH ls) r h) j 0) = fd j := fun j => by rw [← hfd]
    simp only [hfe] at hst hf0 hstop ⊢
    generalize hgF n (okH ls) r h = hf at hfz hst
    (refine Spec.of_bodyA Try.func35 rfl (by rw [Try.ntmps35]; simp) ?_; rw [Try.results35, Try.ntmps35]; simp only [entry, zipArgs, Nat.reduceAdd])
    repeat (first | apply Wp.seq | apply Wp.block | (apply Run.next; (simp only [push_cast, seval, getF (hK s), getF0 (hK s), hwn s, hwl s, he] <;> (try simp (disch := omega) only [wI, wU, wC]) <;> exact rfl); (focus ((try simp only [push_cast, seval, getF (hK s), getF0 (hK s), hwn s, hwl s, he]) <;> exact sT))) | ((first | apply Run.nil | apply Wp.skip); dsimp only [sQ, tQ, bQ]) | (apply Wp.run; (dsimp only [List.map] <;> exact rfl); exact rfl) | (apply Wp.exit; dsimp only [sQ, tQ, bQ]; simp only [reduceIte]) | (apply Run.gtrue; (simp only [push_cast, seval, getF (hK s), getF0 (hK s), hwn s, hwl s, he] <;> (try simp (disch := omega) only [wI, wU, wC]) <;> exact rfl); (simp only [push_cast, seval, getF (hK s), getF0 (hK s), hwn s, hwl s, he] <;> (try simp (disch := omega) only [wI, wU, wC]) <;> exact rfl)) | (apply Run.gfalse (.bool false); (simp only [push_cast, seval, getF (hK s), getF0 (hK s), hwn s, hwl s, he] <;> (try simp (disch := omega) only [wI, wU, wC]) <;> exact rfl); dsimp only [S.put, optG]) | (apply Wp.condT; (simp only [push_cast, seval, getF (hK s), getF0 (hK s), hwn s, hwl s, he] <;> (try simp (disch := omega) only [wI, wU, wC]) <;> exact rfl)) | (apply Wp.condF; (simp only [push_cast, seval, getF (hK s), getF0 (hK s), hwn s, hwl s, he] <;> (try simp (disch := omega) only [wI, wU, wC]) <;> exact rfl)))
    refine Wp.loop (fun (q : Nat × Nat) => { t := [(0, .optr (N + 1) 0 0 0), (1, .optr wn 0 0 0), (2, .optr wl 0 0 0), (3, .optr (N + 3) 0 0 0), (4, .optr N 0 0 0), (5, .optr (N + 4) 0 0 0), (20, .int n), (21, .int q.1)], m := K (fd q.1).1 ++ htail N yid wn wl n h h.length q.2, n := 50 }) (fun q => q.1 ≤ n ∧ (fd q.1).2 = true ∧ G (fd q.1).1) (fun q => n - q.1) (0, vi) ?_ ?_ ?_
    · rw [hf0]
      (refine Le.of ?_ ?_ rfl rfl <;> (try simp only [push_cast, seval, getF (hK s), getF0 (hK s), hwn s, hwl s, he]) <;> (try (with_reducible rfl)))
    · exact ⟨by simp, by rw [hf0], by rw [hf0]; exact hs⟩
    · rintro ⟨j, vj⟩ ⟨hj1, hj2, hj3⟩
      simp only at hj1 hj2 hj3
      have hstj := hst j
      have hstp := hstop (j + 1)
      have hend : j = n → fd n = fd j := fun e => by rw [e]
      rw [if_pos hj2] at hstj
      generalize hR : fd j = R at hstj hj2 hj3 hend
      obtain ⟨sj, bj⟩ := R
      simp only at hstj hj2 hj3
      subst hj2
      repeat (first | apply Wp.seq | apply Wp.block | (apply Run.next; (simp only [push_cast, seval, getF (hK sj), getF0 (hK sj), hwn sj, hwl sj, he, plA_len] <;> (try simp (disch := omega) only [wI, wU, wC]) <;> exact rfl); (focus ((try simp only [push_cast, seval, getF (hK sj), getF0 (hK sj), hwn sj, hwl sj, he, plA_len]) <;> exact sT))) | ((first | apply Run.nil | apply Wp.skip); dsimp only [sQ, tQ, bQ]) | (apply Wp.run; (dsimp only [List.map] <;> exact rfl); exact rfl) | (apply Wp.exit; dsimp only [sQ, tQ, bQ]; simp only [reduceIte]))
      (apply Wp.cond; (simp only [push_cast, seval, getF (hK sj), getF0 (hK sj), hwn sj, hwl sj, he, plA_len] <;> (try simp (disch := omega) only [wI, wU, wC]) <;> exact rfl))
      · intro hc
        simp only [decide_eq_true_eq, Int.ofNat_lt] at hc
        have hpg := plA_get h hc
        have hpb := plcN_bd h (j : Int)
        have hfj := hfz j
        cases hcj : h.contains (j : Int) with
        | true =>
          rw [hcj, if_pos rfl] at hfj
          rw [hfj] at hstj
          have hstj : fd (j + 1) = (sj, true) := hstj
          have e3 : decide (0 ≤ plcN h (j : Int)) = true := decide_eq_true (hpb.2.2.2 hcj)
          repeat (first | apply Wp.seq | apply Wp.block | (apply Run.next; (simp only [push_cast, seval, getF (hK sj), getF0 (hK sj), hwn sj, hwl sj, he, plA_len, hpg, e3] <;> (try simp (disch := omega) only [wI, wU, wC]) <;> exact rfl); (focus ((try simp only [push_cast, seval, getF (hK sj), getF0 (hK sj), hwn sj, hwl sj, he, plA_len, hpg, e3]) <;> exact sT))) | ((first | apply Run.nil | apply Wp.skip); dsimp only [sQ, tQ, bQ]) | (apply Wp.run; (dsimp only [List.map] <;> exact rfl); exact rfl) | (apply Wp.exit; dsimp only [sQ, tQ, bQ]; simp only [reduceIte]) | (apply Run.gtrue; (simp only [push_cast, seval, getF (hK sj), getF0 (hK sj), hwn sj, hwl sj, he, plA_len, hpg, e3] <;> (try simp (disch := omega) only [wI, wU, wC]) <;> exact rfl); (simp only [push_cast, seval, getF (hK sj), getF0 (hK sj), hwn sj, hwl sj, he, plA_len, hpg, e3] <;> (try simp (disch := omega) only [wI, wU, wC]) <;> exact rfl)) | (apply Run.gfalse (.bool false); (simp only [push_cast, seval, getF (hK sj), getF0 (hK sj), hwn sj, hwl sj, he, plA_len, hpg, e3] <;> (try simp (disch := omega) only [wI, wU, wC]) <;> exact rfl); dsimp only [S.put, optG]) | (apply Wp.condT; (simp only [push_cast, seval, getF (hK sj), getF0 (hK sj), hwn sj, hwl sj, he, plA_len, hpg, e3] <;> (try simp (disch := omega) only [wI, wU, wC]) <;> exact rfl)) | (apply Wp.condF; (simp only [push_cast, seval, getF (hK sj), getF0 (hK sj), hwn sj, hwl sj, he, plA_len, hpg, e3] <;> (try simp (disch := omega) only [wI, wU, wC]) <;> exact rfl)))
          refine ⟨(j + 1, vj), ?_, ⟨by simp only; omega, by simp only; rw [hstj], by simp only; rw [hstj]; exact hj3⟩, by simp only; omega⟩
          simp only
          rw [hstj]
          (refine Le.of ?_ ?_ rfl rfl <;> (try simp only [push_cast, seval, getF (hK sj), getF0 (hK sj), hwn sj, hwl sj, he, plA_len, hpg, e3]) <;> (try (with_reducible rfl)))
        | false =>
          rw [hcj, if_neg (by simp)] at hfj
          rw [hfj] at hstj
          have e3 : decide (0 ≤ plcN h (j : Int)) = false := decide_eq_false (fun q => by have := hpb.2.2.1 q; rw [hcj] at this; cases this)
          have hps := plA_set (n := n) hcj
          have hpk := plA_back (n := n) hcj
          have hl1 : (h ++ [(j : Int)]).length = h.length + 1 := by simp
          have htk : (h ++ [(j : Int)]).take h.length = h := by simp
          have hih := fun v => ih (h ++ [(j : Int)]) sj v (by simp; omega) hj3
          rw [← hstj] at hih
          simp only [hl1] at hih
          repeat (first | apply Wp.seq | apply Wp.block | (apply Run.next; (simp only [push_cast, seval, getF (hK sj), getF0 (hK sj), setF (hK sj), setF0 (hK sj), hwn sj, hwl sj, he, plA_len, hpg, e3, hps] <;> (try simp (disch := omega) only [wI, wU, wC]) <;> exact rfl); (focus ((try simp only [push_cast, seval, getF (hK sj), getF0 (hK sj), setF (hK sj), setF0 (hK sj), hwn sj, hwl sj, he, plA_len, hpg, e3, hps]) <;> exact sT))) | ((first | apply Run.nil | apply Wp.skip); dsimp only [sQ, tQ, bQ]) | (apply Wp.run; (dsimp only [List.map] <;> exact rfl); exact rfl) | (apply Wp.exit; dsimp only [sQ, tQ, bQ]; simp only [reduceIte]) | (apply Run.gtrue; (simp only [push_cast, seval, getF (hK sj), getF0 (hK sj), setF (hK sj), setF0 (hK sj), hwn sj, hwl sj, he, plA_len, hpg, e3, hps] <;> (try simp (disch := omega) only [wI, wU, wC]) <;> exact rfl); (simp only [push_cast, seval, getF (hK sj), getF0 (hK sj), setF (hK sj), setF0 (hK sj), hwn sj, hwl sj, he, plA_len, hpg, e3, hps] <;> (try simp (disch := omega) only [wI, wU, wC]) <;> exact rfl)) | (apply Run.gfalse (.bool false); (simp only [push_cast, seval, getF (hK sj), getF0 (hK sj), setF (hK sj), setF0 (hK sj), hwn sj, hwl sj, he, plA_len, hpg, e3, hps] <;> (try simp (disch := omega) only [wI, wU, wC]) <;> exact rfl); dsimp only [S.put, optG]) | (apply Wp.condT; (simp only [push_cast, seval, getF (hK sj), getF0 (hK sj), setF (hK sj), setF0 (hK sj), hwn sj, hwl sj, he, plA_len, hpg, e3, hps] <;> (try simp (disch := omega) only [wI, wU, wC]) <;> exact rfl)) | (apply Wp.condF; (simp only [push_cast, seval, getF (hK sj), getF0 (hK sj), setF (hK sj), setF0 (hK sj), hwn sj, hwl sj, he, plA_len, hpg, e3, hps] <;> (try simp (disch := omega) only [wI, wU, wC]) <;> exact rfl)))
          apply Run.spec (he := Enters.of Try.func35 rfl rfl) (hc := hih (vj + 1))
          focus exact rfl
          focus (simp only [push_cast, seval, getF (hK sj), getF0 (hK sj), setF (hK sj), setF0 (hK sj), hwn sj, hwl sj, he, plA_len, hpg, e3, hps] <;> exact rfl)
          focus (simp only [push_cast, seval, getF (hK sj), getF0 (hK sj), setF (hK sj), setF0 (hK sj), hwn sj, hwl sj, he, plA_len, hpg, e3, hps] <;> (try simp (disch := omega) only [wI, wU, wC]) <;> exact rfl)
          generalize hR2 : fd (j + 1) = R at hstj hstp ⊢
          obtain ⟨s2, b2⟩ := R
          rintro x m' (⟨hb2, rfl, hg2, v2, rfl⟩ | ⟨hb2, rfl, T, hT, rfl⟩)
          · simp only at hb2 hg2 ⊢
            subst hb2
            simp only [hl1]
            dsimp only [S.put, optG]
            (apply Run.next; (simp only [push_cast, seval, getF (hK s2), getF0 (hK s2), setF (hK s2), setF0 (hK s2), hwn s2, hwl s2, he, plA_len, hl1, Int.add_sub_cancel, Nat.sub_zero] <;> (try simp (disch := omega) only [wI, wU, wC]) <;> exact rfl); (focus ((try simp only [push_cast, seval, getF (hK s2), getF0 (hK s2), setF (hK s2), setF0 (hK s2), hwn s2, hwl s2, he, plA_len, hl1, Int.add_sub_cancel, Nat.sub_zero]) <;> exact sT)))
            (apply Run.nil; dsimp only [sQ, tQ, bQ])
            (apply Wp.condF; (simp only [push_cast, seval, getF (hK s2), getF0 (hK s2), setF (hK s2), setF0 (hK s2), hwn s2, hwl s2, he, plA_len, hl1, Int.add_sub_cancel, Nat.sub_zero] <;> (try simp (disch := omega) only [wI, wU, wC]) <;> exact rfl))
            (apply Wp.skip; dsimp only [sQ, tQ, bQ])
            repeat (first | apply Wp.seq | apply Wp.block)
            (apply Wp.run; (dsimp only [List.map] <;> exact rfl); exact rfl)
            iterate 6 (apply Run.next; (simp only [push_cast, seval, getF (hK s2), getF0 (hK s2), setF (hK s2), setF0 (hK s2), hwn s2, hwl s2, he, plA_len, hl1, Int.add_sub_cancel, Nat.sub_zero] <;> (try simp (disch := omega) only [wI, wU, wC]) <;> exact rfl); (focus ((try simp only [push_cast, seval, getF (hK s2), getF0 (hK s2), setF (hK s2), setF0 (hK s2), hwn s2, hwl s2, he, plA_len, hl1, Int.add_sub_cancel, Nat.sub_zero]) <;> exact sT)))
            (apply Run.nil; dsimp only [sQ, tQ, bQ])
            (apply Wp.trim (N + 5) ( h.length); (simp only [push_cast, seval, getF (hK s2), getF0 (hK s2), setF (hK s2), setF0 (hK s2), hwn s2, hwl s2, he, plA_len, hl1, Int.add_sub_cancel, Nat.sub_zero] <;> (try simp (disch := omega) only [wI, wU, wC]) <;> exact rfl); (try simp only [push_cast, seval, getF (hK s2), getF0 (hK s2), setF (hK s2), setF0 (hK s2), hwn s2, hwl s2, he, plA_len, hl1, Int.add_sub_cancel, Nat.sub_zero]))
            repeat (first | apply Wp.seq | apply Wp.block | (apply Run.next; (simp only [push_cast, seval, getF (hK s2), getF0 (hK s2), setF (hK s2), setF0 (hK s2), hwn s2, hwl s2, he, plA_len, hl1, ← List.map_take, htk, hpk] <;> (try simp (disch := omega) only [wI, wU, wC]) <;> exact rfl); (focus ((try simp only [push_cast, seval, getF (hK s2), getF0 (hK s2), setF (hK s2), setF0 (hK s2), hwn s2, hwl s2, he, plA_len, hl1, ← List.map_take, htk, hpk]) <;> exact sT))) | ((first | apply Run.nil | apply Wp.skip); dsimp only [sQ, tQ, bQ]) | (apply Wp.run; (dsimp only [List.map] <;> exact rfl); exact rfl) | (apply Wp.exit; dsimp only [sQ, tQ, bQ]; simp only [reduceIte]) | (apply Run.gtrue; (simp only [push_cast, seval, getF (hK s2), getF0 (hK s2), setF (hK s2), setF0 (hK s2), hwn s2, hwl s2, he, plA_len, hl1, ← List.map_take, htk, hpk] <;> (try simp (disch := omega) only [wI, wU, wC]) <;> exact rfl); (simp only [push_cast, seval, getF (hK s2), getF0 (hK s2), setF (hK s2), setF0 (hK s2), hwn s2, hwl s2, he, plA_len, hl1, ← List.map_take, htk, hpk] <;> (try simp (disch := omega) only [wI, wU, wC]) <;> exact rfl)) | (apply Run.gfalse (.bool false); (simp only [push_cast, seval, getF (hK s2), getF0 (hK s2), setF (hK s2), setF0 (hK s2), hwn s2, hwl s2, he, plA_len, hl1, ← List.map_take, htk, hpk] <;> (try simp (disch := omega) only [wI, wU, wC]) <;> exact rfl); dsimp only [S.put, optG]) | (apply Wp.condT; (simp only [push_cast, seval, getF (hK s2), getF0 (hK s2), setF (hK s2), setF0 (hK s2), hwn s2, hwl s2, he, plA_len, hl1, ← List.map_take, htk, hpk] <;> (try simp (disch := omega) only [wI, wU, wC]) <;> exact rfl)) | (apply Wp.condF; (simp only [push_cast, seval, getF (hK s2), getF0 (hK s2), setF (hK s2), setF0 (hK s2), hwn s2, hwl s2, he, plA_len, hl1, ← List.map_take, htk, hpk] <;> (try simp (disch := omega) only [wI, wU, wC]) <;> exact rfl)))
            refine ⟨(j + 1, v2), ?_, ⟨by simp only; omega, by simp only; rw [hR2], by simp only; rw [hR2]; exact hg2⟩, by simp only; omega⟩
            simp only
            rw [hR2]
            (refine Le.of ?_ ?_ rfl rfl <;> (try simp only [push_cast, seval, getF (hK s2), getF0 (hK s2), setF (hK s2), setF0 (hK s2), hwn s2, hwl s2, he, plA_len, hl1, ← List.map_take, htk, hpk]) <;> (try (with_reducible rfl)))
            all_goals rfl
          · simp only at hb2 ⊢
            subst hb2
            dsimp only [S.put, optG]
            repeat (first | apply Wp.seq | apply Wp.block | (apply Run.next; (simp only [push_cast, seval, getF (hK s2), getF0 (hK s2), setF (hK s2), setF0 (hK s2), hwn s2, hwl s2, he, plA_len, hl1, ← List.map_take, htk, hpk] <;> (try simp (disch := omega) only [wI, wU, wC]) <;> exact rfl); (focus ((try simp only [push_cast, seval, getF (hK s2), getF0 (hK s2), setF (hK s2), setF0 (hK s2), hwn s2, hwl s2, he, plA_len, hl1, ← List.map_take, htk, hpk]) <;> exact sT))) | ((first | apply Run.nil | apply Wp.skip); dsimp only [sQ, tQ, bQ]) | (apply Wp.run; (dsimp only [List.map] <;> exact rfl); exact rfl) | (apply Wp.exit; dsimp only [sQ, tQ, bQ]; simp only [reduceIte]) | (apply Run.gtrue; (simp only [push_cast, seval, getF (hK s2), getF0 (hK s2), setF (hK s2), setF0 (hK s2), hwn s2, hwl s2, he, plA_len, hl1, ← List.map_take, htk, hpk] <;> (try simp (disch := omega) only [wI, wU, wC]) <;> exact rfl); (simp only [push_cast, seval, getF (hK s2), getF0 (hK s2), setF (hK s2), setF0 (hK s2), hwn s2, hwl s2, he, plA_len, hl1, ← List.map_take, htk, hpk] <;> (try simp (disch := omega) only [wI, wU, wC]) <;> exact rfl)) | (apply Run.gfalse (.bool false); (simp only [push_cast, seval, getF (hK s2), getF0 (hK s2), setF (hK s2), setF0 (hK s2), hwn s2, hwl s2, he, plA_len, hl1, ← List.map_take, htk, hpk] <;> (try simp (disch := omega) only [wI, wU, wC]) <;> exact rfl); dsimp only [S.put, optG]) | (apply Wp.condT; (simp only [push_cast, seval, getF (hK s2), getF0 (hK s2), setF (hK s2), setF0 (hK s2), hwn s2, hwl s2, he, plA_len, hl1, ← List.map_take, htk, hpk] <;> (try simp (disch := omega) only [wI, wU, wC]) <;> exact rfl)) | (apply Wp.condF; (simp only [push_cast, seval, getF (hK s2), getF0 (hK s2), setF (hK s2), setF0 (hK s2), hwn s2, hwl s2, he, plA_len, hl1, ← List.map_take, htk, hpk] <;> (try simp (disch := omega) only [wI, wU, wC]) <;> exact rfl)))
            (apply Wp.ret; (try dsimp only [sQ, tQ, bQ]); apply leaveA; exact rfl; (simp only [push_cast, seval, getF (hK s2), getF0 (hK s2), setF (hK s2), setF0 (hK s2), hwn s2, hwl s2, he, plA_len, hl1, ← List.map_take, htk, hpk] <;> (try simp (disch := omega) only [wI, wU, wC]) <;> exact rfl); (focus (first | (simp only [push_cast, seval, getF (hK s2), getF0 (hK s2), setF (hK s2), setF0 (hK s2), hwn s2, hwl s2, he, plA_len, hl1, ← List.map_take, htk, hpk]; done) | trivial | (simp only [push_cast, seval, getF (hK s2), getF0 (hK s2), setF (hK s2), setF0 (hK s2), hwn s2, hwl s2, he, plA_len, hl1, ← List.map_take, htk, hpk]; trivial) | (simp; done))); (try simp only [push_cast, seval, getF (hK s2), getF0 (hK s2), setF (hK s2), setF0 (hK s2), hwn s2, hwl s2, he, plA_len, hl1, ← List.map_take, htk, hpk]))
            rw [hstp (by omega) rfl]
            exact .inr ⟨rfl, rfl, T, hT, rfl⟩
      · intro hc
        simp only [decide_eq_false_iff_not, Int.ofNat_lt] at hc
        rw [hend (by omega)]
        repeat (first | apply Wp.seq | apply Wp.block | (apply Run.next; (simp only [push_cast, seval, getF (hK sj), getF0 (hK sj), hwn sj, hwl sj] <;> (try simp (disch := omega) only [wI, wU, wC]) <;> exact rfl); (focus ((try simp only [push_cast, seval, getF (hK sj), getF0 (hK sj), hwn sj, hwl sj]) <;> exact sT))) | ((first | apply Run.nil | apply Wp.skip); dsimp only [sQ, tQ, bQ]) | (apply Wp.run; (dsimp only [List.map] <;> exact rfl); exact rfl) | (apply Wp.exit; dsimp only [sQ, tQ, bQ]; simp only [reduceIte]) | (apply Run.gtrue; (simp only [push_cast, seval, getF (hK sj), getF0 (hK sj), hwn sj, hwl sj] <;> (try simp (disch := omega) only [wI, wU, wC]) <;> exact rfl); (simp only [push_cast, seval, getF (hK sj), getF0 (hK sj), hwn sj, hwl sj] <;> (try simp (disch := omega) only [wI, wU, wC]) <;> exact rfl)) | (apply Run.gfalse (.bool false); (simp only [push_cast, seval, getF (hK sj), getF0 (hK sj), hwn sj, hwl sj] <;> (try simp (disch := omega) only [wI, wU, wC]) <;> exact rfl); dsimp only [S.put, optG]) | (apply Wp.condT; (simp only [push_cast, seval, getF (hK sj), getF0 (hK sj), hwn sj, hwl sj] <;> (try simp (disch := omega) only [wI, wU, wC]) <;> exact rfl)) | (apply Wp.condF; (simp only [push_cast, seval, getF (hK sj), getF0 (hK sj), hwn sj, hwl sj] <;> (try simp (disch := omega) only [wI, wU, wC]) <;> exact rfl)))
        (apply Wp.ret; (try dsimp only [sQ, tQ, bQ]); apply leaveA; exact rfl; (simp only [push_cast, seval, getF (hK sj), getF0 (hK sj), hwn sj, hwl sj] <;> (try simp (disch := omega) only [wI, wU, wC]) <;> exact rfl); (focus (first | (simp only [push_cast, seval, getF (hK sj), getF0 (hK sj), hwn sj, hwl sj]; done) | trivial | (simp only [push_cast, seval, getF (hK sj), getF0 (hK sj), hwn sj, hwl sj]; trivial) | (simp; done))); (try simp only [push_cast, seval, getF (hK sj), getF0 (hK sj), hwn sj, hwl sj]))
        exact .inl ⟨rfl, rfl, hj3, vj, rfl⟩
end
end Go.Proofs.Try
set_option maxHeartbeats 8000000
set_option maxRecDepth 20000
namespace Go.Proofs.Try
open Go.Vg

/-! the iterator of the hangings -/
theorem namedP : Named Try.prog 100 := namedB_ok (by kernel_rfl)
theorem repP0_spec (n : Nat) (h : n ≤ 6) : Go.Vg.Spec Try.prog 34 [.lst 1 [.int (-1)], .int (n : Int)] [] (fun y m' => y = .osl 0 0 0 n ∧ m' = [⟨0, .row 1 (List.replicate n (.int (-1)))⟩]) := by
  match n, h with
  | 0, _ => exact xF_spec (n := 3000) namedP mixed (by kernel_rfl)
  | 1, _ => exact xF_spec (n := 3000) namedP mixed (by kernel_rfl)
  | 2, _ => exact xF_spec (n := 3000) namedP mixed (by kernel_rfl)
  | 3, _ => exact xF_spec (n := 3000) namedP mixed (by kernel_rfl)
  | 4, _ => exact xF_spec (n := 3000) namedP mixed (by kernel_rfl)
  | 5, _ => exact xF_spec (n := 3000) namedP mixed (by kernel_rfl)
  | 6, _ => exact xF_spec (n := 3000) namedP mixed (by kernel_rfl)
  | n + 7, h => omega
theorem shRP (k n : Nat) : shiftL k (List.replicate n (AV.int (-1))) = List.replicate n (AV.int (-1)) := by
  induction n with
  | zero => rfl
  | succ n ih => rw [List.replicate_succ]; simp only [shiftL, ih]; rfl
theorem repP_spec (n : Nat) (h : n ≤ 6) (m : Mem) : Go.Vg.Spec Try.prog 34 [.lst 1 [.int (-1)], .int (n : Int)] m (fun y m' => y = .osl m.length 0 0 n ∧ m' = m ++ [⟨0, .row 1 ((plA n []).map AV.int)⟩]) := by
  rw [plA_zero]
  refine (Spec.frame (repP0_spec n h) (by simp [AV.ok, okL])).mono ?_
  rintro _ _ ⟨_, _, ⟨rfl, rfl⟩, rfl, rfl⟩
  refine ⟨by simp [AV.shift], ?_⟩
  simp [Kind.shift, shRP]
theorem hangings_spec (n : Int) (ls : List Pt) : Go.Vg.Spec Try.prog 15 [.int n, .lst 5 (ls.map ptA)] [] fun x m' => x = .clo 33 [.optr 0 0 0 0, .optr 1 0 0 0] ∧ m' = [⟨0, .row 1 [.int n]⟩, ⟨0, .row 1 [.lst 5 (ls.map ptA)]⟩] := by
  (refine Spec.of_body Try.func15 rfl (by rw [Try.ntmps15]; simp) 2 (by simp) ?_; rw [Try.results15, Try.ntmps15]; simp only [entry, zipArgs, Nat.reduceAdd])
  repeat (first | apply Wp.seq | apply Wp.block | (apply Run.next; (simp only [push_cast, seval] <;> (try simp (disch := omega) only [wI, wU, wC]) <;> exact rfl); (focus ((try simp only [push_cast, seval]) <;> exact sT))) | ((first | apply Run.nil | apply Wp.skip); dsimp only [sQ, tQ, bQ]) | (apply Wp.run; (dsimp only [List.map] <;> exact rfl); exact rfl) | (apply Wp.exit; dsimp only [sQ, tQ, bQ]; simp only [reduceIte]))
  (apply Wp.ret; (try dsimp only [sQ, tQ, bQ]); apply leaveK; exact rfl; (simp only [push_cast, seval] <;> (try simp (disch := omega) only [wI, wU, wC]) <;> exact rfl); (focus (first | (simp only [push_cast, seval]; done) | trivial | (simp only [push_cast, seval]; trivial) | (simp; done))); (focus (first | (simp only [push_cast, seval]; done) | trivial | (simp only [push_cast, seval]; trivial) | (simp; done))); (focus (first | (simp only [push_cast, seval]; done) | trivial | (simp only [push_cast, seval]; trivial) | (simp; done))); (try simp only [push_cast, seval]))
section
variable {σ : Type} (K : σ → Mem) (go : σ → List Int → σ × Bool) (G : σ → Prop)
theorem iter_spec {N yid wn wl n : Nat} (hK : ∀ s, (K s).length = N) (hKok : ∀ s, ∀ e ∈ K s, e.kind.ok N) (hwn : ∀ s l, (K s ++ l)[wn]? = some ⟨0, .row 1 [.int n]⟩) {ls : List Pt} (hwl : ∀ s l, (K s ++ l)[wl]? = some ⟨0, .row 1 [.lst 5 (ls.map ptA)]⟩) (hn : n ≤ 6) (hl20 : ls.length ≤ 20) (hpv : ∀ x ∈ ls, PV n x)
    (hG : ∀ s h, G s → (go s h).2 = true → G (go s h).1)
    (hY : ∀ s h vi, G s → h.length = n → okH ls h = true → YSpec Try.prog (.yld yid 0) [.osl (N + 5) vi 0 n] (K s ++ htail N yid wn wl n h n vi) fun x m' => x = .bool (go s h).2 ∧ m' = K (go s h).1 ++ htail N yid wn wl n h n vi) (s : σ) (hs : G s) :
    Go.Vg.Spec Try.prog 33 [.yld yid 0, .optr wn 0 0 0, .optr wl 0 0 0] (K s) (fun _ m' => m' = K (foldB go s (hgL n (okH ls) n [])).1) := by
  have hnx := next_spec K go G hK hwn hwl hn hl20 hpv hG hY n [] s 0 (by simp) hs
  have hlenK : ∀ l : Mem, (K s ++ l).length = N + l.length := fun l => by rw [List.length_append, hK]
  have hwn0 := hwn s
  (refine Spec.of_body Try.func33 rfl (by rw [Try.ntmps33]; simp) N (by rw [hK]; simp) ?_; rw [Try.results33, Try.ntmps33]; simp only [entry, zipArgs, Nat.reduceAdd])
  repeat (first | apply Wp.seq | apply Wp.block | (apply Run.next; (simp only [push_cast, seval, getF (hK s), getF0 (hK s), setF (hK s), setF0 (hK s), hwn s, hwl s, hK s, hlenK, List.append_assoc] <;> (try simp (disch := omega) only [wI, wU, wC]) <;> exact rfl); (focus ((try simp only [push_cast, seval, getF (hK s), getF0 (hK s), setF (hK s), setF0 (hK s), hwn s, hwl s, hK s, hlenK, List.append_assoc]) <;> exact sT))) | ((first | apply Run.nil | apply Wp.skip); dsimp only [sQ, tQ, bQ]) | (apply Wp.run; (dsimp only [List.map] <;> exact rfl); exact rfl) | (apply Wp.exit; dsimp only [sQ, tQ, bQ]; simp only [reduceIte]))
  apply Run.spec (he := Enters.of Try.func34 rfl rfl) (hc := repP_spec n hn _)
  focus exact rfl
  focus (simp only [push_cast, seval, getF (hK s), getF0 (hK s), setF (hK s), setF0 (hK s), hwn s, hwl s, hK s, hlenK, List.append_assoc] <;> exact rfl)
  focus (simp only [push_cast, seval, getF (hK s), getF0 (hK s), setF (hK s), setF0 (hK s), hwn s, hwl s, hK s, hlenK, List.append_assoc] <;> (try simp (disch := omega) only [wI, wU, wC]) <;> exact rfl)
  rintro x m' ⟨rfl, rfl⟩
  simp only [hlenK, List.append_assoc, List.cons_append, List.nil_append, List.length_cons, List.length_nil, Nat.zero_add]
  dsimp only [S.put, optG]
  iterate 2 (apply Run.next; (simp only [push_cast, seval, getF (hK s), getF0 (hK s), setF (hK s), setF0 (hK s), hwn s, hwl s, hK s, hlenK, List.append_assoc] <;> (try simp (disch := omega) only [wI, wU, wC]) <;> exact rfl); (focus ((try simp only [push_cast, seval, getF (hK s), getF0 (hK s), setF (hK s), setF0 (hK s), hwn s, hwl s, hK s, hlenK, List.append_assoc]) <;> exact sT)))
  (apply Run.nil; dsimp only [sQ, tQ, bQ])
  repeat (first | apply Wp.seq | apply Wp.block)
  (apply Wp.run; (dsimp only [List.map] <;> exact rfl); exact rfl)
  iterate 1 (apply Run.next; (simp only [push_cast, seval, getF (hK s), getF0 (hK s), setF (hK s), setF0 (hK s), hwn s, hwl s, hK s, hlenK, List.append_assoc] <;> (try simp (disch := omega) only [wI, wU, wC]) <;> exact rfl); (focus ((try simp only [push_cast, seval, getF (hK s), getF0 (hK s), setF (hK s), setF0 (hK s), hwn s, hwl s, hK s, hlenK, List.append_assoc]) <;> exact sT)))
  (apply Run.nil; dsimp only [sQ, tQ, bQ])
  repeat (first | apply Wp.seq | apply Wp.block)
  (apply Wp.run; (dsimp only [List.map] <;> exact rfl); exact rfl)
  iterate 2 (apply Run.next; (simp only [push_cast, seval, getF (hK s), getF0 (hK s), setF (hK s), setF0 (hK s), hwn s, hwl s, hK s, hlenK, List.append_assoc] <;> (try simp (disch := omega) only [wI, wU, wC]) <;> exact rfl); (focus ((try simp only [push_cast, seval, getF (hK s), getF0 (hK s), setF (hK s), setF0 (hK s), hwn s, hwl s, hK s, hlenK, List.append_assoc]) <;> exact sT)))
  (apply Run.nil; dsimp only [sQ, tQ, bQ])
  refine Wp.adoptRow (N + 1) 1 (ver := 0) (sz := 1) (l := [.emp]) (l' := [.osl (N + 5) 0 0 0]) (by rw [getF (hK s)]; rfl) ?_ ?_
  · simp only [hlenK, List.length_cons, List.length_nil, Nat.zero_add, Nat.reduceAdd]
    exact ⟨.inl (.inr ⟨rfl, N + 5, by omega, by omega, rfl⟩), trivial⟩
  dsimp only
  rw [setF (hK s)]
  simp only [List.set_cons_succ, List.set_cons_zero, List.replicate_succ, List.replicate_zero, List.append_assoc, List.cons_append, List.nil_append]
  repeat (first | apply Wp.seq | apply Wp.block | (apply Run.next; (simp only [push_cast, seval, getF (hK s), getF0 (hK s), setF (hK s), setF0 (hK s), hwn s, hwl s, hK s, hlenK, List.append_assoc] <;> (try simp (disch := omega) only [wI, wU, wC]) <;> exact rfl); (focus ((try simp only [push_cast, seval, getF (hK s), getF0 (hK s), setF (hK s), setF0 (hK s), hwn s, hwl s, hK s, hlenK, List.append_assoc]) <;> exact sT))) | ((first | apply Run.nil | apply Wp.skip); dsimp only [sQ, tQ, bQ]) | (apply Wp.run; (dsimp only [List.map] <;> exact rfl); exact rfl) | (apply Wp.exit; dsimp only [sQ, tQ, bQ]; simp only [reduceIte]))
  apply Run.spec (he := Enters.of Try.func35 rfl rfl) (hc := hnx)
  focus exact rfl
  focus (simp only [push_cast, seval, getF (hK s), getF0 (hK s), setF (hK s), setF0 (hK s), hwn s, hwl s, hK s, hlenK, List.append_assoc] <;> exact rfl)
  focus (simp only [push_cast, seval, getF (hK s), getF0 (hK s), setF (hK s), setF0 (hK s), hwn s, hwl s, hK s, hlenK, List.append_assoc] <;> (try simp (disch := omega) only [wI, wU, wC]) <;> exact rfl)
  intro x m' hq
  have hm : ∃ T : Mem, m' = K (foldB go s (hgL n (okH ls) n [])).1 ++ T := by
    rcases hq with ⟨_, _, _, v, h⟩ | ⟨_, _, T, _, h⟩
    · exact ⟨_, h⟩
    · exact ⟨T, h⟩
  obtain ⟨T, rfl⟩ := hm
  generalize (foldB go s (hgL n (okH ls) n [])).1 = s2
  dsimp only [S.put, optG]
  have htk : (K s2 ++ T).take N = K s2 := by rw [List.take_append_of_le_length (by rw [hK]; exact Nat.le_refl _), List.take_of_length_le (by rw [hK]; exact Nat.le_refl _)]
  apply Run.nil
  apply leaveN; exact rfl; (simp only [push_cast, seval, getF (hK s), getF0 (hK s), setF (hK s), setF0 (hK s), hwn s, hwl s, hK s, hlenK, List.append_assoc] <;> (try simp (disch := omega) only [wI, wU, wC]) <;> exact rfl); (focus (first | (simp only [push_cast, seval, getF (hK s), getF0 (hK s), setF (hK s), setF0 (hK s), hwn s, hwl s, hK s, hlenK, List.append_assoc]; done) | trivial | (simp only [push_cast, seval, getF (hK s), getF0 (hK s), setF (hK s), setF0 (hK s), hwn s, hwl s, hK s, hlenK, List.append_assoc]; trivial) | (simp; done))); (focus (first | (simp only [push_cast, seval, getF (hK s), getF0 (hK s), setF (hK s), setF0 (hK s), hwn s, hwl s, hK s, hlenK, List.append_assoc]; done) | trivial | (simp only [push_cast, seval, getF (hK s), getF0 (hK s), setF (hK s), setF0 (hK s), hwn s, hwl s, hK s, hlenK, List.append_assoc]; trivial) | (simp; done)))
  · rw [htk]; exact hKok s2
  · rw [htk]
end
end Go.Proofs.Try
set_option maxHeartbeats 8000000
set_option maxRecDepth 20000
namespace Go.Proofs.Try
open Go.Vg

/-! how many hangings there are -/
def goC (s : Int) (h : List Int) : Int × Bool := (IntKind.i64.wrap (s + 1), true)
theorem foldC : ∀ (L : List (List Int)) (s : Int), 0 ≤ s → s + L.length ≤ 1000000 → foldB goC s L = (s + L.length, true)
  | [], s, _, _ => by simp [foldB]
  | x :: L, s, h1, h2 => by
    have e : (x :: L).length = L.length + 1 := rfl
    rw [e] at h2 ⊢
    have hw : IntKind.i64.wrap (s + 1) = s + 1 := wI (by omega) (by omega)
    unfold foldB goC
    rw [if_pos rfl]
    simp only [hw]
    rw [show (fun s h => (IntKind.i64.wrap (s + 1), true) : Int → List Int → Int × Bool) = goC from rfl, foldC L (s + 1) (by omega) (by omega)]
    simp only [Prod.mk.injEq, and_true]
    omega
def hgV (n : Int) (l : List Pt) : List (List Int) := if cpE n l = 0 then hgL n.toNat (okH l) n.toNat [] else []
theorem cpE_ok {n : Int} {l : List Pt} (h : cpE n l = 0) : 1 ≤ n ∧ n ≤ 6 ∧ l.length ≤ 20 ∧ ∀ x ∈ l, saB n x = true := by
  unfold cpE at h
  by_cases h1 : wiP n 1 6 = true
  · rw [if_pos h1] at h
    by_cases h2 : l.length ≤ 20
    · rw [if_pos h2] at h
      by_cases h3 : l.all (saB n) = true
      · simp only [wiP, Bool.and_eq_true, decide_eq_true_eq] at h1
        exact ⟨h1.1, h1.2, h2, List.all_eq_true.1 h3⟩
      · rw [if_neg h3] at h; omega
    · rw [if_neg h2] at h; omega
  · rw [if_neg h1] at h; omega
theorem PV_of {n : Int} {k : Nat} (hk : n = (k : Int)) (hn : 1 ≤ n ∧ n ≤ 6) {x : Pt} (h : saB n x = true) : PV k x := by
  subst hk
  unfold saB wiP at h
  split at h
  · simp only [Bool.and_eq_true, decide_eq_true_eq] at h
    refine ⟨?_, ?_⟩ <;> omega
  · split at h
    · simp only [Bool.and_eq_true, decide_eq_true_eq] at h
      refine ⟨?_, ?_⟩ <;> omega
    · split at h
      · simp only [Bool.and_eq_true, decide_eq_true_eq] at h
        refine ⟨?_, ?_⟩ <;> omega
      · cases h
theorem shL_pt (k : Nat) : ∀ l : List Pt, shiftL k (l.map ptA) = l.map ptA
  | [] => rfl
  | x :: l => by
    have := shL_pt k l
    simp only [List.map_cons, shiftL, this]
    rfl
def Kc (n : Nat) (ls : List Pt) (L : Kind) (s : Int) : Mem := [⟨0, .row 1 [.int s]⟩, ⟨0, .row 1 [.int n]⟩, ⟨0, .row 1 [.lst 5 (ls.map ptA)]⟩, ⟨0, .dfr⟩, ⟨0, L⟩]

theorem hangN_pure (n : Int) (l : List Pt) (hl : l.length ≤ 9223372036854775807) : Pure Try.prog 6 [.int n, .lst 5 (l.map ptA)] (.tup [.int (hgV n l).length, .int (cpE n l)]) := by
  have hcp := checkPortraits_pure n l hl
  have hok := @cpE_ok n l
  unfold hgV
  generalize hE : cpE n l = E at hcp hok
  (refine Spec.of_body Try.func6 rfl (by rw [Try.ntmps6]; simp) 0 (by simp) ?_; rw [Try.results6, Try.ntmps6]; simp only [entry, zipArgs, Nat.reduceAdd])
  repeat (first | apply Wp.seq | apply Wp.block | (apply Run.next; (simp only [push_cast, seval] <;> (try simp (disch := omega) only [wI, wU, wC]) <;> exact rfl); (focus ((try simp only [push_cast, seval]) <;> exact sT))) | ((first | apply Run.nil | apply Wp.skip); dsimp only [sQ, tQ, bQ]) | (apply Wp.run; (dsimp only [List.map] <;> exact rfl); exact rfl) | (apply Wp.exit; dsimp only [sQ, tQ, bQ]; simp only [reduceIte]))
  (apply Run.pureP; (simp only [push_cast, seval] <;> (try simp (disch := omega) only [wI, wU, wC]) <;> exact rfl); (exact (Enters.of Try.func14 rfl rfl)); (exact hcp); (focus (simp only [push_cast, seval] <;> first | trivial | assumption | (refine ⟨?_, ?_⟩ <;> assumption) | (simp; done))); (try dsimp only [putA, optG]))
  repeat (first | apply Wp.seq | apply Wp.block | (apply Run.next; (simp only [push_cast, seval] <;> (try simp (disch := omega) only [wI, wU, wC]) <;> exact rfl); (focus ((try simp only [push_cast, seval]) <;> exact sT))) | ((first | apply Run.nil | apply Wp.skip); dsimp only [sQ, tQ, bQ]) | (apply Wp.run; (dsimp only [List.map] <;> exact rfl); exact rfl) | (apply Wp.exit; dsimp only [sQ, tQ, bQ]; simp only [reduceIte]))
  (apply Wp.cond; (simp only [push_cast, seval] <;> (try simp (disch := omega) only [wI, wU, wC]) <;> exact rfl))
  · intro hc
    simp only [Bool.not_eq_true', decide_eq_false_iff_not] at hc
    rw [if_neg hc]
    repeat (first | apply Wp.seq | apply Wp.block | (apply Run.next; (simp only [push_cast, seval] <;> (try simp (disch := omega) only [wI, wU, wC]) <;> exact rfl); (focus ((try simp only [push_cast, seval]) <;> exact sT))) | ((first | apply Run.nil | apply Wp.skip); dsimp only [sQ, tQ, bQ]) | (apply Wp.run; (dsimp only [List.map] <;> exact rfl); exact rfl) | (apply Wp.exit; dsimp only [sQ, tQ, bQ]; simp only [reduceIte]))
    (apply Wp.ret; (try dsimp only [sQ, tQ, bQ]); apply leave0; exact rfl; (simp only [push_cast, seval] <;> (try simp (disch := omega) only [wI, wU, wC]) <;> exact rfl); all_goals (try simp only [push_cast, seval]); (try rfl))
  · intro hc
    simp only [Bool.not_eq_false', decide_eq_true_eq] at hc
    subst hc
    obtain ⟨hn1, hn2, hl20, hsa⟩ := hok rfl
    rw [if_pos rfl]
    obtain ⟨k, rfl⟩ : ∃ k : Nat, n = (k : Int) := ⟨n.toNat, by omega⟩
    simp only [Int.toNat_natCast]
    have hlen := hgL_len (n := k) (by omega) (okH l) k []
    have h6 : 6 ^ k ≤ 6 ^ 6 := Nat.pow_le_pow_right (by omega) (by omega)
    rw [show (6 : Nat) ^ 6 = 46656 by decide] at h6
    have hfc := foldC (hgL k (okH l) k []) 0 (by omega) (by omega)
    generalize hHG : hgL k (okH l) k [] = HG at hfc hlen
    repeat (first | apply Wp.seq | apply Wp.block | (apply Run.next; (simp only [push_cast, seval] <;> (try simp (disch := omega) only [wI, wU, wC]) <;> exact rfl); (focus ((try simp only [push_cast, seval]) <;> exact sT))) | ((first | apply Run.nil | apply Wp.skip); dsimp only [sQ, tQ, bQ]) | (apply Wp.run; (dsimp only [List.map] <;> exact rfl); exact rfl) | (apply Wp.exit; dsimp only [sQ, tQ, bQ]; simp only [reduceIte]))
    (apply Run.freshE (he := (Enters.of Try.func15 rfl rfl)); (simp only [push_cast, seval] <;> first | exact rfl | assumption); (simp only [push_cast, seval] <;> (try simp (disch := omega) only [wI, wU, wC]) <;> exact rfl); (exact hangings_spec _ _); (focus (first | (simp only [push_cast, seval]; done) | trivial | (simp only [push_cast, seval]; trivial) | (simp; done))); (simp only [push_cast, seval] <;> (try simp (disch := omega) only [wI, wU, wC]) <;> exact rfl); (simp only [push_cast, seval] <;> (try simp (disch := omega) only [wI, wU, wC]) <;> exact rfl); dsimp only [S.put, optG])
    repeat (first | apply Wp.seq | apply Wp.block | (apply Run.next; (simp only [push_cast, seval] <;> (try simp (disch := omega) only [wI, wU, wC]) <;> exact rfl); (focus ((try simp only [push_cast, seval]) <;> exact sT))) | ((first | apply Run.nil | apply Wp.skip); dsimp only [sQ, tQ, bQ]) | (apply Wp.run; (dsimp only [List.map] <;> exact rfl); exact rfl) | (apply Wp.exit; dsimp only [sQ, tQ, bQ]; simp only [reduceIte]))

    simp only [shL_pt]
    refine Wp.range (by (simp only [push_cast, seval] <;> (try simp (disch := omega) only [wI, wU, wC]) <;> exact rfl)) (Enters.of Try.func33 rfl rfl) (N := 3) rfl (C := fun j M => j = none ∧ M = [⟨0, .row 1 [.int HG.length]⟩, ⟨0, .row 1 [.int k]⟩, ⟨0, .row 1 [.lst 5 (l.map ptA)]⟩]) ?_ ?_
    · refine Go.Vg.Spec.mono (iter_spec (Kc k l _) goC (fun _ => True) (N := 5) (yid := 4) (wn := 1) (wl := 2) (n := k) (fun s => rfl) ?_ (fun s l => rfl) (fun s l => rfl) (by omega) hl20 (fun x hx => PV_of rfl ⟨hn1, hn2⟩ (hsa x hx)) (fun _ _ _ _ => trivial) ?_ 0 trivial) ?_
      · intro s e he
        unfold Kc at he
        simp only [List.mem_cons, List.not_mem_nil, or_false] at he
        rcases he with rfl | rfl | rfl | rfl | rfl <;> simp [Kind.ok, AV.ok, okL, okL_pt]
      · intro s h vi _ hsl hh
        refine YSpec.of_body (id := 4) (ver := 0) rfl rfl (by simp) ?_
        intro L
        unfold Kc goC
        dsimp only [bindP, List.cons_append, List.nil_append]
        repeat (first | apply Wp.seq | apply Wp.block | (apply Run.next; (simp only [push_cast, seval] <;> (try simp (disch := omega) only [wI, wU, wC]) <;> exact rfl); (focus ((try simp only [push_cast, seval]) <;> exact sT))) | ((first | apply Run.nil | apply Wp.skip); dsimp only [sQ, tQ, bQ]) | (apply Wp.run; (dsimp only [List.map] <;> exact rfl); exact rfl) | (apply Wp.exit; dsimp only [sQ, tQ, bQ]; simp only [reduceIte]))
        refine ⟨rfl, rfl, ?_⟩
        dsimp only [List.set]
        repeat (first | apply Wp.seq | apply Wp.block | (apply Run.next; (simp only [push_cast, seval] <;> (try simp (disch := omega) only [wI, wU, wC]) <;> exact rfl); (focus ((try simp only [push_cast, seval]) <;> exact sT))) | ((first | apply Run.nil | apply Wp.skip); dsimp only [sQ, tQ, bQ]) | (apply Wp.run; (dsimp only [List.map] <;> exact rfl); exact rfl) | (apply Wp.exit; dsimp only [sQ, tQ, bQ]; simp only [reduceIte]))
        refine ⟨rfl, ?_, rfl, ?_⟩
        · simp only [push_cast, seval]
        · rfl
      · rintro x m' rfl
        rw [hHG, hfc, Int.zero_add]
        exact ⟨_, none, ⟨rfl, rfl⟩, rfl, rfl⟩
    · rintro M j ⟨rfl, rfl⟩
      dsimp only [bQ, sQ, List.cons_append, List.nil_append]
      repeat (first | apply Wp.seq | apply Wp.block | (apply Run.next; (simp only [push_cast, seval] <;> (try simp (disch := omega) only [wI, wU, wC]) <;> exact rfl); (focus ((try simp only [push_cast, seval]) <;> exact sT))) | ((first | apply Run.nil | apply Wp.skip); dsimp only [sQ, tQ, bQ]) | (apply Wp.run; (dsimp only [List.map] <;> exact rfl); exact rfl) | (apply Wp.exit; dsimp only [sQ, tQ, bQ]; simp only [reduceIte]))
      (apply Wp.ret; (try dsimp only [sQ, tQ, bQ]); apply leaveM; (focus (first | (simp only [push_cast, seval]; done) | trivial | (simp only [push_cast, seval]; trivial) | (simp; done))); (focus (first | (simp only [push_cast, seval]; done) | trivial | (simp only [push_cast, seval]; trivial) | (simp; done))); (simp only [push_cast, seval] <;> (try simp (disch := omega) only [wI, wU, wC]) <;> exact rfl); (focus (first | (simp only [push_cast, seval]; done) | trivial | (simp only [push_cast, seval]; trivial) | (simp; done))); (focus (first | (simp only [push_cast, seval]; done) | trivial | (simp only [push_cast, seval]; trivial) | (simp; done))); (focus (first | (simp only [push_cast, seval]; done) | trivial | (simp only [push_cast, seval]; trivial) | (simp; done))); (try simp only [push_cast, seval]))
end Go.Proofs.Try
