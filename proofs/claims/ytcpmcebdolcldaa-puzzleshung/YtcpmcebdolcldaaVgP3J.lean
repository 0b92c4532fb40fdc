/- A part of the proof of PuzzlesHung: contracts of functions, with plain laws that they need. -/
import Derived.Test.YtcpmcebdolcldaaVgFr
import Derived.Test.YtcpmcebdolcldaaVgX1J
set_option linter.all false
set_option maxHeartbeats 8000000
namespace Go.Proofs.Try
open Go.Vg

/-! the document's Check, where a portrait hangs, and whether a sentence holds -/
theorem wP_ref (n lo hi : Int) : Pure Try.prog 27 [.int n, .int lo, .int hi] (.bool (decide (lo ≤ n) && decide (n ≤ hi))) := by
  (refine Spec.of_body Try.func27 rfl (by rw [Try.ntmps27]; simp) 0 (by simp) ?_; rw [Try.results27, Try.ntmps27]; simp only [entry, zipArgs, Nat.reduceAdd])
  repeat (first | apply Wp.seq | apply Wp.block | (apply Run.next; (simp only [push_cast, seval] <;> (try simp (disch := omega) only [wI, wU, wC]) <;> exact rfl); (focus ((try simp only [push_cast, seval]) <;> exact sT))) | ((first | apply Run.nil | apply Wp.skip); dsimp only [sQ, tQ, bQ]) | (apply Wp.run; (dsimp only [List.map] <;> exact rfl); exact rfl) | (apply Wp.exit; dsimp only [sQ, tQ, bQ]; simp only [reduceIte]))
  (apply Wp.ret; (try dsimp only [sQ, tQ, bQ]); apply leave0; exact rfl; (simp only [push_cast, seval] <;> (try simp (disch := omega) only [wI, wU, wC]) <;> exact rfl); all_goals (try simp only [push_cast, seval]); (try rfl))
theorem all_noP {l : List Pt} {p : Pt → Bool} {k : Nat} (hk : k < l.length) (h : p (l.getD k pt0) = false) : l.all p = false := by
  rw [← Bool.not_eq_true, List.all_eq_true]
  intro ha
  have := ha (l.getD k pt0) (memPt hk)
  rw [h] at this; cases this
theorem all_atP {l : List Pt} {p : Pt → Bool} (h : ∀ j, j < l.length → p (l.getD j pt0) = true) : l.all p = true := by
  rw [List.all_eq_true]
  intro x hx
  obtain ⟨i, hi, rfl⟩ := List.getElem_of_mem hx
  have := h i hi
  simpa [hi] using this
theorem rCheck_pure (n : Int) (l : List Pt) (hl : l.length ≤ 9223372036854775807) : Pure Try.prog 13 [.int n, .lst 5 (l.map ptA)] (.int (cpE n l)) := by
  unfold cpE
  have hw := wP_ref n 1 6
  by_cases h1 : wiP n 1 6 = true
  · rw [if_pos h1]
    have hn : 1 ≤ n ∧ n ≤ 6 := by unfold wiP at h1; rw [Bool.and_eq_true, decide_eq_true_eq, decide_eq_true_eq] at h1; exact h1
    rw [show (decide (1 ≤ n) && decide (n ≤ 6)) = true from h1] at hw
    by_cases h2 : l.length ≤ 20
    · have e2 : decide (20 < (l.length : Int)) = false := decide_eq_false (by omega)
      rw [if_pos h2]
      have hno := fun k (hk : k < l.length) => all_noP (p := saB n) hk
      have hall := all_atP (l := l) (p := saB n)
      generalize l.all (saB n) = b at hno hall
      (refine Spec.of_body Try.func13 rfl (by rw [Try.ntmps13]; simp) 0 (by simp) ?_; rw [Try.results13, Try.ntmps13]; simp only [entry, zipArgs, Nat.reduceAdd])
      repeat (first | apply Wp.seq | apply Wp.block | (apply Run.next; (simp only [push_cast, seval, e2] <;> (try simp (disch := omega) only [wI, wU, wC]) <;> exact rfl); (focus ((try simp only [push_cast, seval, e2]) <;> exact sT))) | ((first | apply Run.nil | apply Wp.skip); dsimp only [sQ, tQ, bQ]) | (apply Wp.run; (dsimp only [List.map] <;> exact rfl); exact rfl) | (apply Wp.exit; dsimp only [sQ, tQ, bQ]; simp only [reduceIte]))
      (apply Run.pureP; (simp only [push_cast, seval, e2] <;> (try simp (disch := omega) only [wI, wU, wC]) <;> exact rfl); (exact (Enters.of Try.func27 rfl rfl)); (exact hw); (focus (simp only [push_cast, seval, e2] <;> first | trivial | assumption | (refine ⟨?_, ?_⟩ <;> assumption) | (simp; done))); (try dsimp only [putA, optG]))
      repeat (first | apply Wp.seq | apply Wp.block | (apply Run.next; (simp only [push_cast, seval, e2] <;> (try simp (disch := omega) only [wI, wU, wC]) <;> exact rfl); (focus ((try simp only [push_cast, seval, e2]) <;> exact sT))) | ((first | apply Run.nil | apply Wp.skip); dsimp only [sQ, tQ, bQ]) | (apply Wp.run; (dsimp only [List.map] <;> exact rfl); exact rfl) | (apply Wp.exit; dsimp only [sQ, tQ, bQ]; simp only [reduceIte]) | (apply Run.gtrue; (simp only [push_cast, seval, e2] <;> (try simp (disch := omega) only [wI, wU, wC]) <;> exact rfl); (simp only [push_cast, seval, e2] <;> (try simp (disch := omega) only [wI, wU, wC]) <;> exact rfl)) | (apply Run.gfalse (.bool false); (simp only [push_cast, seval, e2] <;> (try simp (disch := omega) only [wI, wU, wC]) <;> exact rfl); dsimp only [S.put, optG]) | (apply Wp.condT; (simp only [push_cast, seval, e2] <;> (try simp (disch := omega) only [wI, wU, wC]) <;> exact rfl)) | (apply Wp.condF; (simp only [push_cast, seval, e2] <;> (try simp (disch := omega) only [wI, wU, wC]) <;> exact rfl)))
      (refine Wp.vacs 1 ?_; (try simp only [List.replicate_succ, List.replicate_zero, List.cons_append, List.nil_append]))
      refine Wp.loop (fun (q : Nat × Nat × Kind) => { t := [(0, .int n), (1, .lst 5 (l.map ptA)), (5, .int q.1)], m := [⟨q.2.1, q.2.2⟩], n := 79 }) (fun q => q.1 ≤ l.length ∧ ∀ j, j < q.1 → saB n (l.getD j pt0) = true) (fun q => l.length - q.1) (0, 0, .row 1 []) ?_ ?_ ?_
      · (refine Le.of ?_ ?_ rfl rfl <;> (try simp only [push_cast, seval, e2]) <;> (try (with_reducible rfl)))
      · simp
      · rintro ⟨k, v, kd⟩ ⟨hk1, hk2⟩
        simp only at hk1 hk2
        repeat (first | apply Wp.seq | apply Wp.block | (apply Run.calm; exact rfl; (simp only [push_cast, seval, e2] <;> (try simp (disch := omega) only [wI, wU, wC]) <;> exact rfl); (focus ((try simp only [push_cast, seval, e2]) <;> exact sT))) | ((first | apply Run.nil | apply Wp.skip); dsimp only [sQ, tQ, bQ]) | (apply Wp.run; (dsimp only [List.map] <;> exact rfl); exact rfl) | (apply Wp.exit; dsimp only [sQ, tQ, bQ]; simp only [reduceIte]))
        (apply Wp.cond; (simp only [push_cast, seval, e2] <;> (try simp (disch := omega) only [wI, wU, wC]) <;> exact rfl))
        · intro hc
          simp only [decide_eq_true_eq, Int.ofNat_lt] at hc
          have hnk := hno k hc
          have hk3 : saB n (l.getD k pt0) = true → ∀ j, j < k + 1 → saB n (l.getD j pt0) = true := fun h j hj => by
            by_cases hjk : j = k
            · rw [hjk]; exact h
            · exact hk2 j (by omega)
          generalize hx : l.getD k pt0 = x at hnk hk3
          unfold saB at hnk hk3
          by_cases k1 : x.kind = 1
          · have f1 : decide (x.kind = 1) = true := decide_eq_true k1
            rw [if_pos k1] at hnk hk3
            repeat (first | apply Wp.seq | apply Wp.block | (apply Run.calm; exact rfl; (simp only [push_cast, seval, hx, f1] <;> (try simp (disch := omega) only [wI, wU, wC]) <;> exact rfl); (focus ((try simp only [push_cast, seval, hx, f1]) <;> exact sT))) | ((first | apply Run.nil | apply Wp.skip); dsimp only [sQ, tQ, bQ]) | (apply Wp.run; (dsimp only [List.map] <;> exact rfl); exact rfl) | (apply Wp.exit; dsimp only [sQ, tQ, bQ]; simp only [reduceIte]))
            (apply Run.alcAt 0; (simp only [push_cast, seval, hx, f1] <;> (try simp (disch := omega) only [wI, wU, wC]) <;> exact rfl); (focus ((try simp only [push_cast, seval, hx, f1]) <;> exact sT)); exact rfl; (try simp only [push_cast, seval, hx, f1]))
            repeat (first | apply Wp.seq | apply Wp.block | (apply Run.next; (simp only [push_cast, seval, hx, f1] <;> (try simp (disch := omega) only [wI, wU, wC]) <;> exact rfl); (focus ((try simp only [push_cast, seval, hx, f1]) <;> exact sT))) | ((first | apply Run.nil | apply Wp.skip); dsimp only [sQ, tQ, bQ]) | (apply Wp.run; (dsimp only [List.map] <;> exact rfl); exact rfl) | (apply Wp.exit; dsimp only [sQ, tQ, bQ]; simp only [reduceIte]))
            (apply Run.pureP; (simp only [push_cast, seval, hx, f1] <;> (try simp (disch := omega) only [wI, wU, wC]) <;> exact rfl); (exact (Enters.of Try.func27 rfl rfl)); (exact wP_ref _ _ _); (focus (simp only [push_cast, seval, hx, f1] <;> first | trivial | assumption | (refine ⟨?_, ?_⟩ <;> assumption) | (simp; done))); (try dsimp only [putA, optG]))
            repeat (first | apply Wp.seq | apply Wp.block | (apply Run.next; (simp only [push_cast, seval, hx, f1] <;> (try simp (disch := omega) only [wI, wU, wC]) <;> exact rfl); (focus ((try simp only [push_cast, seval, hx, f1]) <;> exact sT))) | ((first | apply Run.nil | apply Wp.skip); dsimp only [sQ, tQ, bQ]) | (apply Wp.run; (dsimp only [List.map] <;> exact rfl); exact rfl) | (apply Wp.exit; dsimp only [sQ, tQ, bQ]; simp only [reduceIte]) | (apply Run.gtrue; (simp only [push_cast, seval, hx, f1] <;> (try simp (disch := omega) only [wI, wU, wC]) <;> exact rfl); (simp only [push_cast, seval, hx, f1] <;> (try simp (disch := omega) only [wI, wU, wC]) <;> exact rfl)) | (apply Run.gfalse (.bool false); (simp only [push_cast, seval, hx, f1] <;> (try simp (disch := omega) only [wI, wU, wC]) <;> exact rfl); dsimp only [S.put, optG]) | (apply Wp.condT; (simp only [push_cast, seval, hx, f1] <;> (try simp (disch := omega) only [wI, wU, wC]) <;> exact rfl)) | (apply Wp.condF; (simp only [push_cast, seval, hx, f1] <;> (try simp (disch := omega) only [wI, wU, wC]) <;> exact rfl)))
            (apply Run.pureP; (simp only [push_cast, seval, hx, f1] <;> (try simp (disch := omega) only [wI, wU, wC]) <;> exact rfl); (exact (Enters.of Try.func27 rfl rfl)); (exact wP_ref _ _ _); (focus (simp only [push_cast, seval, hx, f1] <;> first | trivial | assumption | (refine ⟨?_, ?_⟩ <;> assumption) | (simp; done))); (try dsimp only [putA, optG]))
            repeat (first | apply Wp.seq | apply Wp.block | (apply Run.next; (simp only [push_cast, seval, hx, f1] <;> (try simp (disch := omega) only [wI, wU, wC]) <;> exact rfl); (focus ((try simp only [push_cast, seval, hx, f1]) <;> exact sT))) | ((first | apply Run.nil | apply Wp.skip); dsimp only [sQ, tQ, bQ]) | (apply Wp.run; (dsimp only [List.map] <;> exact rfl); exact rfl) | (apply Wp.exit; dsimp only [sQ, tQ, bQ]; simp only [reduceIte]))
            (apply Run.pureP; (simp only [push_cast, seval, hx, f1] <;> (try simp (disch := omega) only [wI, wU, wC]) <;> exact rfl); (exact (Enters.of Try.func27 rfl rfl)); (exact wP_ref _ _ _); (focus (simp only [push_cast, seval, hx, f1] <;> first | trivial | assumption | (refine ⟨?_, ?_⟩ <;> assumption) | (simp; done))); (try dsimp only [putA, optG]))
            repeat (first | apply Wp.seq | apply Wp.block | (apply Run.next; (simp only [push_cast, seval, hx, f1] <;> (try simp (disch := omega) only [wI, wU, wC]) <;> exact rfl); (focus ((try simp only [push_cast, seval, hx, f1]) <;> exact sT))) | ((first | apply Run.nil | apply Wp.skip); dsimp only [sQ, tQ, bQ]) | (apply Wp.run; (dsimp only [List.map] <;> exact rfl); exact rfl) | (apply Wp.exit; dsimp only [sQ, tQ, bQ]; simp only [reduceIte]))
            (apply Wp.cond; (simp only [push_cast, seval, hx, f1] <;> (try simp (disch := omega) only [wI, wU, wC]) <;> exact rfl))
            · intro h9
              have := hnk (by simp only [wiP] at h9 ⊢; revert h9; generalize decide (0 ≤ x.a) = p1; generalize decide (x.a ≤ n - 1) = p2; generalize decide (0 ≤ x.b) = p3; generalize decide (x.b ≤ n - 1) = p4; generalize decide (x.a = x.b) = p5; generalize decide (0 ≤ x.n) = p6; generalize decide (x.n ≤ n - 1) = p7; generalize decide (x.n ≤ n) = p8; generalize decide (x.n = 0) = p9; generalize decide (x.b = 0) = p10; cases p1 <;> cases p2 <;> cases p3 <;> cases p4 <;> cases p5 <;> cases p6 <;> cases p7 <;> cases p8 <;> cases p9 <;> cases p10 <;> simp)
              subst this
              repeat (first | apply Wp.seq | apply Wp.block | (apply Run.next; (simp only [push_cast, seval, hx, f1] <;> (try simp (disch := omega) only [wI, wU, wC]) <;> exact rfl); (focus ((try simp only [push_cast, seval, hx, f1]) <;> exact sT))) | ((first | apply Run.nil | apply Wp.skip); dsimp only [sQ, tQ, bQ]) | (apply Wp.run; (dsimp only [List.map] <;> exact rfl); exact rfl) | (apply Wp.exit; dsimp only [sQ, tQ, bQ]; simp only [reduceIte]))
              (apply Wp.ret; (try dsimp only [sQ, tQ, bQ]); apply leave0; exact rfl; (simp only [push_cast, seval, hx, f1] <;> (try simp (disch := omega) only [wI, wU, wC]) <;> exact rfl); all_goals (try simp only [push_cast, seval, hx, f1]); (try rfl))
            · intro h9
              repeat (first | apply Wp.seq | apply Wp.block | (apply Run.next; (simp only [push_cast, seval, hx, f1] <;> (try simp (disch := omega) only [wI, wU, wC]) <;> exact rfl); (focus ((try simp only [push_cast, seval, hx, f1]) <;> exact sT))) | ((first | apply Run.nil | apply Wp.skip); dsimp only [sQ, tQ, bQ]) | (apply Wp.run; (dsimp only [List.map] <;> exact rfl); exact rfl) | (apply Wp.exit; dsimp only [sQ, tQ, bQ]; simp only [reduceIte]))
              refine ⟨(k + 1, v + 1, .row 5 [ptA x]), ?_, ⟨by simp only; omega, hk3 (by simp only [wiP] at h9 ⊢; revert h9; generalize decide (0 ≤ x.a) = p1; generalize decide (x.a ≤ n - 1) = p2; generalize decide (0 ≤ x.b) = p3; generalize decide (x.b ≤ n - 1) = p4; generalize decide (x.a = x.b) = p5; generalize decide (0 ≤ x.n) = p6; generalize decide (x.n ≤ n - 1) = p7; generalize decide (x.n ≤ n) = p8; generalize decide (x.n = 0) = p9; generalize decide (x.b = 0) = p10; cases p1 <;> cases p2 <;> cases p3 <;> cases p4 <;> cases p5 <;> cases p6 <;> cases p7 <;> cases p8 <;> cases p9 <;> cases p10 <;> simp)⟩, by simp only; omega⟩
              (refine Le.of ?_ ?_ rfl rfl <;> (try simp only [push_cast, seval, hx, f1]) <;> (try (with_reducible rfl)))
          · have f1 : decide (x.kind = 1) = false := decide_eq_false k1
            rw [if_neg k1] at hnk hk3
            by_cases k2 : x.kind = 2
            · have f2 : decide (x.kind = 2) = true := decide_eq_true k2
              rw [if_pos (.inl k2)] at hnk hk3
              repeat (first | apply Wp.seq | apply Wp.block | (apply Run.calm; exact rfl; (simp only [push_cast, seval, hx, f1, f2] <;> (try simp (disch := omega) only [wI, wU, wC]) <;> exact rfl); (focus ((try simp only [push_cast, seval, hx, f1, f2]) <;> exact sT))) | ((first | apply Run.nil | apply Wp.skip); dsimp only [sQ, tQ, bQ]) | (apply Wp.run; (dsimp only [List.map] <;> exact rfl); exact rfl) | (apply Wp.exit; dsimp only [sQ, tQ, bQ]; simp only [reduceIte]))
              (apply Run.alcAt 0; (simp only [push_cast, seval, hx, f1, f2] <;> (try simp (disch := omega) only [wI, wU, wC]) <;> exact rfl); (focus ((try simp only [push_cast, seval, hx, f1, f2]) <;> exact sT)); exact rfl; (try simp only [push_cast, seval, hx, f1, f2]))
              repeat (first | apply Wp.seq | apply Wp.block | (apply Run.next; (simp only [push_cast, seval, hx, f1, f2] <;> (try simp (disch := omega) only [wI, wU, wC]) <;> exact rfl); (focus ((try simp only [push_cast, seval, hx, f1, f2]) <;> exact sT))) | ((first | apply Run.nil | apply Wp.skip); dsimp only [sQ, tQ, bQ]) | (apply Wp.run; (dsimp only [List.map] <;> exact rfl); exact rfl) | (apply Wp.exit; dsimp only [sQ, tQ, bQ]; simp only [reduceIte]))
              (apply Run.pureP; (simp only [push_cast, seval, hx, f1, f2] <;> (try simp (disch := omega) only [wI, wU, wC]) <;> exact rfl); (exact (Enters.of Try.func27 rfl rfl)); (exact wP_ref _ _ _); (focus (simp only [push_cast, seval, hx, f1, f2] <;> first | trivial | assumption | (refine ⟨?_, ?_⟩ <;> assumption) | (simp; done))); (try dsimp only [putA, optG]))
              repeat (first | apply Wp.seq | apply Wp.block | (apply Run.next; (simp only [push_cast, seval, hx, f1, f2] <;> (try simp (disch := omega) only [wI, wU, wC]) <;> exact rfl); (focus ((try simp only [push_cast, seval, hx, f1, f2]) <;> exact sT))) | ((first | apply Run.nil | apply Wp.skip); dsimp only [sQ, tQ, bQ]) | (apply Wp.run; (dsimp only [List.map] <;> exact rfl); exact rfl) | (apply Wp.exit; dsimp only [sQ, tQ, bQ]; simp only [reduceIte]) | (apply Run.gtrue; (simp only [push_cast, seval, hx, f1, f2] <;> (try simp (disch := omega) only [wI, wU, wC]) <;> exact rfl); (simp only [push_cast, seval, hx, f1, f2] <;> (try simp (disch := omega) only [wI, wU, wC]) <;> exact rfl)) | (apply Run.gfalse (.bool false); (simp only [push_cast, seval, hx, f1, f2] <;> (try simp (disch := omega) only [wI, wU, wC]) <;> exact rfl); dsimp only [S.put, optG]) | (apply Wp.condT; (simp only [push_cast, seval, hx, f1, f2] <;> (try simp (disch := omega) only [wI, wU, wC]) <;> exact rfl)) | (apply Wp.condF; (simp only [push_cast, seval, hx, f1, f2] <;> (try simp (disch := omega) only [wI, wU, wC]) <;> exact rfl)))
              (apply Run.pureP; (simp only [push_cast, seval, hx, f1, f2] <;> (try simp (disch := omega) only [wI, wU, wC]) <;> exact rfl); (exact (Enters.of Try.func27 rfl rfl)); (exact wP_ref _ _ _); (focus (simp only [push_cast, seval, hx, f1, f2] <;> first | trivial | assumption | (refine ⟨?_, ?_⟩ <;> assumption) | (simp; done))); (try dsimp only [putA, optG]))
              repeat (first | apply Wp.seq | apply Wp.block | (apply Run.next; (simp only [push_cast, seval, hx, f1, f2] <;> (try simp (disch := omega) only [wI, wU, wC]) <;> exact rfl); (focus ((try simp only [push_cast, seval, hx, f1, f2]) <;> exact sT))) | ((first | apply Run.nil | apply Wp.skip); dsimp only [sQ, tQ, bQ]) | (apply Wp.run; (dsimp only [List.map] <;> exact rfl); exact rfl) | (apply Wp.exit; dsimp only [sQ, tQ, bQ]; simp only [reduceIte]))
              (apply Wp.cond; (simp only [push_cast, seval, hx, f1, f2] <;> (try simp (disch := omega) only [wI, wU, wC]) <;> exact rfl))
              · intro h9
                have := hnk (by simp only [wiP] at h9 ⊢; revert h9; generalize decide (0 ≤ x.a) = p1; generalize decide (x.a ≤ n - 1) = p2; generalize decide (0 ≤ x.b) = p3; generalize decide (x.b ≤ n - 1) = p4; generalize decide (x.a = x.b) = p5; generalize decide (0 ≤ x.n) = p6; generalize decide (x.n ≤ n - 1) = p7; generalize decide (x.n ≤ n) = p8; generalize decide (x.n = 0) = p9; generalize decide (x.b = 0) = p10; cases p1 <;> cases p2 <;> cases p3 <;> cases p4 <;> cases p5 <;> cases p6 <;> cases p7 <;> cases p8 <;> cases p9 <;> cases p10 <;> simp)
                subst this
                repeat (first | apply Wp.seq | apply Wp.block | (apply Run.next; (simp only [push_cast, seval, hx, f1, f2] <;> (try simp (disch := omega) only [wI, wU, wC]) <;> exact rfl); (focus ((try simp only [push_cast, seval, hx, f1, f2]) <;> exact sT))) | ((first | apply Run.nil | apply Wp.skip); dsimp only [sQ, tQ, bQ]) | (apply Wp.run; (dsimp only [List.map] <;> exact rfl); exact rfl) | (apply Wp.exit; dsimp only [sQ, tQ, bQ]; simp only [reduceIte]))
                (apply Wp.ret; (try dsimp only [sQ, tQ, bQ]); apply leave0; exact rfl; (simp only [push_cast, seval, hx, f1, f2] <;> (try simp (disch := omega) only [wI, wU, wC]) <;> exact rfl); all_goals (try simp only [push_cast, seval, hx, f1, f2]); (try rfl))
              · intro h9
                repeat (first | apply Wp.seq | apply Wp.block | (apply Run.next; (simp only [push_cast, seval, hx, f1, f2] <;> (try simp (disch := omega) only [wI, wU, wC]) <;> exact rfl); (focus ((try simp only [push_cast, seval, hx, f1, f2]) <;> exact sT))) | ((first | apply Run.nil | apply Wp.skip); dsimp only [sQ, tQ, bQ]) | (apply Wp.run; (dsimp only [List.map] <;> exact rfl); exact rfl) | (apply Wp.exit; dsimp only [sQ, tQ, bQ]; simp only [reduceIte]))
                refine ⟨(k + 1, v + 1, .row 5 [ptA x]), ?_, ⟨by simp only; omega, hk3 (by simp only [wiP] at h9 ⊢; revert h9; generalize decide (0 ≤ x.a) = p1; generalize decide (x.a ≤ n - 1) = p2; generalize decide (0 ≤ x.b) = p3; generalize decide (x.b ≤ n - 1) = p4; generalize decide (x.a = x.b) = p5; generalize decide (0 ≤ x.n) = p6; generalize decide (x.n ≤ n - 1) = p7; generalize decide (x.n ≤ n) = p8; generalize decide (x.n = 0) = p9; generalize decide (x.b = 0) = p10; cases p1 <;> cases p2 <;> cases p3 <;> cases p4 <;> cases p5 <;> cases p6 <;> cases p7 <;> cases p8 <;> cases p9 <;> cases p10 <;> simp)⟩, by simp only; omega⟩
                (refine Le.of ?_ ?_ rfl rfl <;> (try simp only [push_cast, seval, hx, f1, f2]) <;> (try (with_reducible rfl)))
            · have f2 : decide (x.kind = 2) = false := decide_eq_false k2
              by_cases k3 : x.kind = 3
              · have f3 : decide (x.kind = 3) = true := decide_eq_true k3
                rw [if_pos (.inr k3)] at hnk hk3
                repeat (first | apply Wp.seq | apply Wp.block | (apply Run.calm; exact rfl; (simp only [push_cast, seval, hx, f1, f2, f3] <;> (try simp (disch := omega) only [wI, wU, wC]) <;> exact rfl); (focus ((try simp only [push_cast, seval, hx, f1, f2, f3]) <;> exact sT))) | ((first | apply Run.nil | apply Wp.skip); dsimp only [sQ, tQ, bQ]) | (apply Wp.run; (dsimp only [List.map] <;> exact rfl); exact rfl) | (apply Wp.exit; dsimp only [sQ, tQ, bQ]; simp only [reduceIte]))
                (apply Run.alcAt 0; (simp only [push_cast, seval, hx, f1, f2, f3] <;> (try simp (disch := omega) only [wI, wU, wC]) <;> exact rfl); (focus ((try simp only [push_cast, seval, hx, f1, f2, f3]) <;> exact sT)); exact rfl; (try simp only [push_cast, seval, hx, f1, f2, f3]))
                repeat (first | apply Wp.seq | apply Wp.block | (apply Run.next; (simp only [push_cast, seval, hx, f1, f2, f3] <;> (try simp (disch := omega) only [wI, wU, wC]) <;> exact rfl); (focus ((try simp only [push_cast, seval, hx, f1, f2, f3]) <;> exact sT))) | ((first | apply Run.nil | apply Wp.skip); dsimp only [sQ, tQ, bQ]) | (apply Wp.run; (dsimp only [List.map] <;> exact rfl); exact rfl) | (apply Wp.exit; dsimp only [sQ, tQ, bQ]; simp only [reduceIte]))
                (apply Run.pureP; (simp only [push_cast, seval, hx, f1, f2, f3] <;> (try simp (disch := omega) only [wI, wU, wC]) <;> exact rfl); (exact (Enters.of Try.func27 rfl rfl)); (exact wP_ref _ _ _); (focus (simp only [push_cast, seval, hx, f1, f2, f3] <;> first | trivial | assumption | (refine ⟨?_, ?_⟩ <;> assumption) | (simp; done))); (try dsimp only [putA, optG]))
                repeat (first | apply Wp.seq | apply Wp.block | (apply Run.next; (simp only [push_cast, seval, hx, f1, f2, f3] <;> (try simp (disch := omega) only [wI, wU, wC]) <;> exact rfl); (focus ((try simp only [push_cast, seval, hx, f1, f2, f3]) <;> exact sT))) | ((first | apply Run.nil | apply Wp.skip); dsimp only [sQ, tQ, bQ]) | (apply Wp.run; (dsimp only [List.map] <;> exact rfl); exact rfl) | (apply Wp.exit; dsimp only [sQ, tQ, bQ]; simp only [reduceIte]) | (apply Run.gtrue; (simp only [push_cast, seval, hx, f1, f2, f3] <;> (try simp (disch := omega) only [wI, wU, wC]) <;> exact rfl); (simp only [push_cast, seval, hx, f1, f2, f3] <;> (try simp (disch := omega) only [wI, wU, wC]) <;> exact rfl)) | (apply Run.gfalse (.bool false); (simp only [push_cast, seval, hx, f1, f2, f3] <;> (try simp (disch := omega) only [wI, wU, wC]) <;> exact rfl); dsimp only [S.put, optG]) | (apply Wp.condT; (simp only [push_cast, seval, hx, f1, f2, f3] <;> (try simp (disch := omega) only [wI, wU, wC]) <;> exact rfl)) | (apply Wp.condF; (simp only [push_cast, seval, hx, f1, f2, f3] <;> (try simp (disch := omega) only [wI, wU, wC]) <;> exact rfl)))
                (apply Run.pureP; (simp only [push_cast, seval, hx, f1, f2, f3] <;> (try simp (disch := omega) only [wI, wU, wC]) <;> exact rfl); (exact (Enters.of Try.func27 rfl rfl)); (exact wP_ref _ _ _); (focus (simp only [push_cast, seval, hx, f1, f2, f3] <;> first | trivial | assumption | (refine ⟨?_, ?_⟩ <;> assumption) | (simp; done))); (try dsimp only [putA, optG]))
                repeat (first | apply Wp.seq | apply Wp.block | (apply Run.next; (simp only [push_cast, seval, hx, f1, f2, f3] <;> (try simp (disch := omega) only [wI, wU, wC]) <;> exact rfl); (focus ((try simp only [push_cast, seval, hx, f1, f2, f3]) <;> exact sT))) | ((first | apply Run.nil | apply Wp.skip); dsimp only [sQ, tQ, bQ]) | (apply Wp.run; (dsimp only [List.map] <;> exact rfl); exact rfl) | (apply Wp.exit; dsimp only [sQ, tQ, bQ]; simp only [reduceIte]))
                (apply Wp.cond; (simp only [push_cast, seval, hx, f1, f2, f3] <;> (try simp (disch := omega) only [wI, wU, wC]) <;> exact rfl))
                · intro h9
                  have := hnk (by simp only [wiP] at h9 ⊢; revert h9; generalize decide (0 ≤ x.a) = p1; generalize decide (x.a ≤ n - 1) = p2; generalize decide (0 ≤ x.b) = p3; generalize decide (x.b ≤ n - 1) = p4; generalize decide (x.a = x.b) = p5; generalize decide (0 ≤ x.n) = p6; generalize decide (x.n ≤ n - 1) = p7; generalize decide (x.n ≤ n) = p8; generalize decide (x.n = 0) = p9; generalize decide (x.b = 0) = p10; cases p1 <;> cases p2 <;> cases p3 <;> cases p4 <;> cases p5 <;> cases p6 <;> cases p7 <;> cases p8 <;> cases p9 <;> cases p10 <;> simp)
                  subst this
                  repeat (first | apply Wp.seq | apply Wp.block | (apply Run.next; (simp only [push_cast, seval, hx, f1, f2, f3] <;> (try simp (disch := omega) only [wI, wU, wC]) <;> exact rfl); (focus ((try simp only [push_cast, seval, hx, f1, f2, f3]) <;> exact sT))) | ((first | apply Run.nil | apply Wp.skip); dsimp only [sQ, tQ, bQ]) | (apply Wp.run; (dsimp only [List.map] <;> exact rfl); exact rfl) | (apply Wp.exit; dsimp only [sQ, tQ, bQ]; simp only [reduceIte]))
                  (apply Wp.ret; (try dsimp only [sQ, tQ, bQ]); apply leave0; exact rfl; (simp only [push_cast, seval, hx, f1, f2, f3] <;> (try simp (disch := omega) only [wI, wU, wC]) <;> exact rfl); all_goals (try simp only [push_cast, seval, hx, f1, f2, f3]); (try rfl))
                · intro h9
                  repeat (first | apply Wp.seq | apply Wp.block | (apply Run.next; (simp only [push_cast, seval, hx, f1, f2, f3] <;> (try simp (disch := omega) only [wI, wU, wC]) <;> exact rfl); (focus ((try simp only [push_cast, seval, hx, f1, f2, f3]) <;> exact sT))) | ((first | apply Run.nil | apply Wp.skip); dsimp only [sQ, tQ, bQ]) | (apply Wp.run; (dsimp only [List.map] <;> exact rfl); exact rfl) | (apply Wp.exit; dsimp only [sQ, tQ, bQ]; simp only [reduceIte]))
                  refine ⟨(k + 1, v + 1, .row 5 [ptA x]), ?_, ⟨by simp only; omega, hk3 (by simp only [wiP] at h9 ⊢; revert h9; generalize decide (0 ≤ x.a) = p1; generalize decide (x.a ≤ n - 1) = p2; generalize decide (0 ≤ x.b) = p3; generalize decide (x.b ≤ n - 1) = p4; generalize decide (x.a = x.b) = p5; generalize decide (0 ≤ x.n) = p6; generalize decide (x.n ≤ n - 1) = p7; generalize decide (x.n ≤ n) = p8; generalize decide (x.n = 0) = p9; generalize decide (x.b = 0) = p10; cases p1 <;> cases p2 <;> cases p3 <;> cases p4 <;> cases p5 <;> cases p6 <;> cases p7 <;> cases p8 <;> cases p9 <;> cases p10 <;> simp)⟩, by simp only; omega⟩
                  (refine Le.of ?_ ?_ rfl rfl <;> (try simp only [push_cast, seval, hx, f1, f2, f3]) <;> (try (with_reducible rfl)))
              · have f3 : decide (x.kind = 3) = false := decide_eq_false k3
                rw [if_neg (by rintro (h | h); exact k2 h; exact k3 h)] at hnk hk3
                by_cases k4 : x.kind = 4
                · have f4 : decide (x.kind = 4) = true := decide_eq_true k4
                  rw [if_pos k4] at hnk hk3
                  repeat (first | apply Wp.seq | apply Wp.block | (apply Run.calm; exact rfl; (simp only [push_cast, seval, hx, f1, f2, f3, f4] <;> (try simp (disch := omega) only [wI, wU, wC]) <;> exact rfl); (focus ((try simp only [push_cast, seval, hx, f1, f2, f3, f4]) <;> exact sT))) | ((first | apply Run.nil | apply Wp.skip); dsimp only [sQ, tQ, bQ]) | (apply Wp.run; (dsimp only [List.map] <;> exact rfl); exact rfl) | (apply Wp.exit; dsimp only [sQ, tQ, bQ]; simp only [reduceIte]))
                  (apply Run.alcAt 0; (simp only [push_cast, seval, hx, f1, f2, f3, f4] <;> (try simp (disch := omega) only [wI, wU, wC]) <;> exact rfl); (focus ((try simp only [push_cast, seval, hx, f1, f2, f3, f4]) <;> exact sT)); exact rfl; (try simp only [push_cast, seval, hx, f1, f2, f3, f4]))
                  repeat (first | apply Wp.seq | apply Wp.block | (apply Run.next; (simp only [push_cast, seval, hx, f1, f2, f3, f4] <;> (try simp (disch := omega) only [wI, wU, wC]) <;> exact rfl); (focus ((try simp only [push_cast, seval, hx, f1, f2, f3, f4]) <;> exact sT))) | ((first | apply Run.nil | apply Wp.skip); dsimp only [sQ, tQ, bQ]) | (apply Wp.run; (dsimp only [List.map] <;> exact rfl); exact rfl) | (apply Wp.exit; dsimp only [sQ, tQ, bQ]; simp only [reduceIte]))
                  (apply Run.pureP; (simp only [push_cast, seval, hx, f1, f2, f3, f4] <;> (try simp (disch := omega) only [wI, wU, wC]) <;> exact rfl); (exact (Enters.of Try.func27 rfl rfl)); (exact wP_ref _ _ _); (focus (simp only [push_cast, seval, hx, f1, f2, f3, f4] <;> first | trivial | assumption | (refine ⟨?_, ?_⟩ <;> assumption) | (simp; done))); (try dsimp only [putA, optG]))
                  repeat (first | apply Wp.seq | apply Wp.block | (apply Run.next; (simp only [push_cast, seval, hx, f1, f2, f3, f4] <;> (try simp (disch := omega) only [wI, wU, wC]) <;> exact rfl); (focus ((try simp only [push_cast, seval, hx, f1, f2, f3, f4]) <;> exact sT))) | ((first | apply Run.nil | apply Wp.skip); dsimp only [sQ, tQ, bQ]) | (apply Wp.run; (dsimp only [List.map] <;> exact rfl); exact rfl) | (apply Wp.exit; dsimp only [sQ, tQ, bQ]; simp only [reduceIte]) | (apply Run.gtrue; (simp only [push_cast, seval, hx, f1, f2, f3, f4] <;> (try simp (disch := omega) only [wI, wU, wC]) <;> exact rfl); (simp only [push_cast, seval, hx, f1, f2, f3, f4] <;> (try simp (disch := omega) only [wI, wU, wC]) <;> exact rfl)) | (apply Run.gfalse (.bool false); (simp only [push_cast, seval, hx, f1, f2, f3, f4] <;> (try simp (disch := omega) only [wI, wU, wC]) <;> exact rfl); dsimp only [S.put, optG]) | (apply Wp.condT; (simp only [push_cast, seval, hx, f1, f2, f3, f4] <;> (try simp (disch := omega) only [wI, wU, wC]) <;> exact rfl)) | (apply Wp.condF; (simp only [push_cast, seval, hx, f1, f2, f3, f4] <;> (try simp (disch := omega) only [wI, wU, wC]) <;> exact rfl)))
                  (apply Run.pureP; (simp only [push_cast, seval, hx, f1, f2, f3, f4] <;> (try simp (disch := omega) only [wI, wU, wC]) <;> exact rfl); (exact (Enters.of Try.func27 rfl rfl)); (exact wP_ref _ _ _); (focus (simp only [push_cast, seval, hx, f1, f2, f3, f4] <;> first | trivial | assumption | (refine ⟨?_, ?_⟩ <;> assumption) | (simp; done))); (try dsimp only [putA, optG]))
                  repeat (first | apply Wp.seq | apply Wp.block | (apply Run.next; (simp only [push_cast, seval, hx, f1, f2, f3, f4] <;> (try simp (disch := omega) only [wI, wU, wC]) <;> exact rfl); (focus ((try simp only [push_cast, seval, hx, f1, f2, f3, f4]) <;> exact sT))) | ((first | apply Run.nil | apply Wp.skip); dsimp only [sQ, tQ, bQ]) | (apply Wp.run; (dsimp only [List.map] <;> exact rfl); exact rfl) | (apply Wp.exit; dsimp only [sQ, tQ, bQ]; simp only [reduceIte]))
                  (apply Run.pureP; (simp only [push_cast, seval, hx, f1, f2, f3, f4] <;> (try simp (disch := omega) only [wI, wU, wC]) <;> exact rfl); (exact (Enters.of Try.func27 rfl rfl)); (exact wP_ref _ _ _); (focus (simp only [push_cast, seval, hx, f1, f2, f3, f4] <;> first | trivial | assumption | (refine ⟨?_, ?_⟩ <;> assumption) | (simp; done))); (try dsimp only [putA, optG]))
                  repeat (first | apply Wp.seq | apply Wp.block | (apply Run.next; (simp only [push_cast, seval, hx, f1, f2, f3, f4] <;> (try simp (disch := omega) only [wI, wU, wC]) <;> exact rfl); (focus ((try simp only [push_cast, seval, hx, f1, f2, f3, f4]) <;> exact sT))) | ((first | apply Run.nil | apply Wp.skip); dsimp only [sQ, tQ, bQ]) | (apply Wp.run; (dsimp only [List.map] <;> exact rfl); exact rfl) | (apply Wp.exit; dsimp only [sQ, tQ, bQ]; simp only [reduceIte]))
                  (apply Wp.cond; (simp only [push_cast, seval, hx, f1, f2, f3, f4] <;> (try simp (disch := omega) only [wI, wU, wC]) <;> exact rfl))
                  · intro h9
                    have := hnk (by simp only [wiP] at h9 ⊢; revert h9; generalize decide (0 ≤ x.a) = p1; generalize decide (x.a ≤ n - 1) = p2; generalize decide (0 ≤ x.b) = p3; generalize decide (x.b ≤ n - 1) = p4; generalize decide (x.a = x.b) = p5; generalize decide (0 ≤ x.n) = p6; generalize decide (x.n ≤ n - 1) = p7; generalize decide (x.n ≤ n) = p8; generalize decide (x.n = 0) = p9; generalize decide (x.b = 0) = p10; cases p1 <;> cases p2 <;> cases p3 <;> cases p4 <;> cases p5 <;> cases p6 <;> cases p7 <;> cases p8 <;> cases p9 <;> cases p10 <;> simp)
                    subst this
                    repeat (first | apply Wp.seq | apply Wp.block | (apply Run.next; (simp only [push_cast, seval, hx, f1, f2, f3, f4] <;> (try simp (disch := omega) only [wI, wU, wC]) <;> exact rfl); (focus ((try simp only [push_cast, seval, hx, f1, f2, f3, f4]) <;> exact sT))) | ((first | apply Run.nil | apply Wp.skip); dsimp only [sQ, tQ, bQ]) | (apply Wp.run; (dsimp only [List.map] <;> exact rfl); exact rfl) | (apply Wp.exit; dsimp only [sQ, tQ, bQ]; simp only [reduceIte]))
                    (apply Wp.ret; (try dsimp only [sQ, tQ, bQ]); apply leave0; exact rfl; (simp only [push_cast, seval, hx, f1, f2, f3, f4] <;> (try simp (disch := omega) only [wI, wU, wC]) <;> exact rfl); all_goals (try simp only [push_cast, seval, hx, f1, f2, f3, f4]); (try rfl))
                  · intro h9
                    repeat (first | apply Wp.seq | apply Wp.block | (apply Run.next; (simp only [push_cast, seval, hx, f1, f2, f3, f4] <;> (try simp (disch := omega) only [wI, wU, wC]) <;> exact rfl); (focus ((try simp only [push_cast, seval, hx, f1, f2, f3, f4]) <;> exact sT))) | ((first | apply Run.nil | apply Wp.skip); dsimp only [sQ, tQ, bQ]) | (apply Wp.run; (dsimp only [List.map] <;> exact rfl); exact rfl) | (apply Wp.exit; dsimp only [sQ, tQ, bQ]; simp only [reduceIte]))
                    refine ⟨(k + 1, v + 1, .row 5 [ptA x]), ?_, ⟨by simp only; omega, hk3 (by simp only [wiP] at h9 ⊢; revert h9; generalize decide (0 ≤ x.a) = p1; generalize decide (x.a ≤ n - 1) = p2; generalize decide (0 ≤ x.b) = p3; generalize decide (x.b ≤ n - 1) = p4; generalize decide (x.a = x.b) = p5; generalize decide (0 ≤ x.n) = p6; generalize decide (x.n ≤ n - 1) = p7; generalize decide (x.n ≤ n) = p8; generalize decide (x.n = 0) = p9; generalize decide (x.b = 0) = p10; cases p1 <;> cases p2 <;> cases p3 <;> cases p4 <;> cases p5 <;> cases p6 <;> cases p7 <;> cases p8 <;> cases p9 <;> cases p10 <;> simp)⟩, by simp only; omega⟩
                    (refine Le.of ?_ ?_ rfl rfl <;> (try simp only [push_cast, seval, hx, f1, f2, f3, f4]) <;> (try (with_reducible rfl)))
                · have f4 : decide (x.kind = 4) = false := decide_eq_false k4
                  rw [if_neg k4] at hnk
                  have := hnk rfl
                  subst this
                  repeat (first | apply Wp.seq | apply Wp.block | (apply Run.calm; exact rfl; (simp only [push_cast, seval, hx, f1, f2, f3, f4] <;> (try simp (disch := omega) only [wI, wU, wC]) <;> exact rfl); (focus ((try simp only [push_cast, seval, hx, f1, f2, f3, f4]) <;> exact sT))) | ((first | apply Run.nil | apply Wp.skip); dsimp only [sQ, tQ, bQ]) | (apply Wp.run; (dsimp only [List.map] <;> exact rfl); exact rfl) | (apply Wp.exit; dsimp only [sQ, tQ, bQ]; simp only [reduceIte]))
                  (apply Run.alcAt 0; (simp only [push_cast, seval, hx, f1, f2, f3, f4] <;> (try simp (disch := omega) only [wI, wU, wC]) <;> exact rfl); (focus ((try simp only [push_cast, seval, hx, f1, f2, f3, f4]) <;> exact sT)); exact rfl; (try simp only [push_cast, seval, hx, f1, f2, f3, f4]))
                  repeat (first | apply Wp.seq | apply Wp.block | (apply Run.next; (simp only [push_cast, seval, hx, f1, f2, f3, f4] <;> (try simp (disch := omega) only [wI, wU, wC]) <;> exact rfl); (focus ((try simp only [push_cast, seval, hx, f1, f2, f3, f4]) <;> exact sT))) | ((first | apply Run.nil | apply Wp.skip); dsimp only [sQ, tQ, bQ]) | (apply Wp.run; (dsimp only [List.map] <;> exact rfl); exact rfl) | (apply Wp.exit; dsimp only [sQ, tQ, bQ]; simp only [reduceIte]))
                  (apply Run.pureP; (simp only [push_cast, seval, hx, f1, f2, f3, f4] <;> (try simp (disch := omega) only [wI, wU, wC]) <;> exact rfl); (exact (Enters.of Try.func27 rfl rfl)); (exact wP_ref _ _ _); (focus (simp only [push_cast, seval, hx, f1, f2, f3, f4] <;> first | trivial | assumption | (refine ⟨?_, ?_⟩ <;> assumption) | (simp; done))); (try dsimp only [putA, optG]))
                  repeat (first | apply Wp.seq | apply Wp.block | (apply Run.next; (simp only [push_cast, seval, hx, f1, f2, f3, f4] <;> (try simp (disch := omega) only [wI, wU, wC]) <;> exact rfl); (focus ((try simp only [push_cast, seval, hx, f1, f2, f3, f4]) <;> exact sT))) | ((first | apply Run.nil | apply Wp.skip); dsimp only [sQ, tQ, bQ]) | (apply Wp.run; (dsimp only [List.map] <;> exact rfl); exact rfl) | (apply Wp.exit; dsimp only [sQ, tQ, bQ]; simp only [reduceIte]) | (apply Run.gtrue; (simp only [push_cast, seval, hx, f1, f2, f3, f4] <;> (try simp (disch := omega) only [wI, wU, wC]) <;> exact rfl); (simp only [push_cast, seval, hx, f1, f2, f3, f4] <;> (try simp (disch := omega) only [wI, wU, wC]) <;> exact rfl)) | (apply Run.gfalse (.bool false); (simp only [push_cast, seval, hx, f1, f2, f3, f4] <;> (try simp (disch := omega) only [wI, wU, wC]) <;> exact rfl); dsimp only [S.put, optG]) | (apply Wp.condT; (simp only [push_cast, seval, hx, f1, f2, f3, f4] <;> (try simp (disch := omega) only [wI, wU, wC]) <;> exact rfl)) | (apply Wp.condF; (simp only [push_cast, seval, hx, f1, f2, f3, f4] <;> (try simp (disch := omega) only [wI, wU, wC]) <;> exact rfl)))
                  (apply Wp.ret; (try dsimp only [sQ, tQ, bQ]); apply leave0; exact rfl; (simp only [push_cast, seval, hx, f1, f2, f3, f4] <;> (try simp (disch := omega) only [wI, wU, wC]) <;> exact rfl); all_goals (try simp only [push_cast, seval, hx, f1, f2, f3, f4]); (try rfl))
        · intro hc
          simp only [decide_eq_false_iff_not, Int.ofNat_lt] at hc
          obtain rfl : k = l.length := by omega
          have := hall hk2
          subst this
          repeat (first | apply Wp.seq | apply Wp.block | (apply Run.next; (simp only [push_cast, seval, e2] <;> (try simp (disch := omega) only [wI, wU, wC]) <;> exact rfl); (focus ((try simp only [push_cast, seval, e2]) <;> exact sT))) | ((first | apply Run.nil | apply Wp.skip); dsimp only [sQ, tQ, bQ]) | (apply Wp.run; (dsimp only [List.map] <;> exact rfl); exact rfl) | (apply Wp.exit; dsimp only [sQ, tQ, bQ]; simp only [reduceIte]))
          (apply Wp.ret; (try dsimp only [sQ, tQ, bQ]); apply leave0; exact rfl; (simp only [push_cast, seval, e2] <;> (try simp (disch := omega) only [wI, wU, wC]) <;> exact rfl); all_goals (try simp only [push_cast, seval, e2]); (try rfl))
    · have e2 : decide (20 < (l.length : Int)) = true := decide_eq_true (by omega)
      rw [if_neg h2]
      (refine Spec.of_body Try.func13 rfl (by rw [Try.ntmps13]; simp) 0 (by simp) ?_; rw [Try.results13, Try.ntmps13]; simp only [entry, zipArgs, Nat.reduceAdd])
      repeat (first | apply Wp.seq | apply Wp.block | (apply Run.next; (simp only [push_cast, seval, e2] <;> (try simp (disch := omega) only [wI, wU, wC]) <;> exact rfl); (focus ((try simp only [push_cast, seval, e2]) <;> exact sT))) | ((first | apply Run.nil | apply Wp.skip); dsimp only [sQ, tQ, bQ]) | (apply Wp.run; (dsimp only [List.map] <;> exact rfl); exact rfl) | (apply Wp.exit; dsimp only [sQ, tQ, bQ]; simp only [reduceIte]))
      (apply Run.pureP; (simp only [push_cast, seval, e2] <;> (try simp (disch := omega) only [wI, wU, wC]) <;> exact rfl); (exact (Enters.of Try.func27 rfl rfl)); (exact hw); (focus (simp only [push_cast, seval, e2] <;> first | trivial | assumption | (refine ⟨?_, ?_⟩ <;> assumption) | (simp; done))); (try dsimp only [putA, optG]))
      repeat (first | apply Wp.seq | apply Wp.block | (apply Run.next; (simp only [push_cast, seval, e2] <;> (try simp (disch := omega) only [wI, wU, wC]) <;> exact rfl); (focus ((try simp only [push_cast, seval, e2]) <;> exact sT))) | ((first | apply Run.nil | apply Wp.skip); dsimp only [sQ, tQ, bQ]) | (apply Wp.run; (dsimp only [List.map] <;> exact rfl); exact rfl) | (apply Wp.exit; dsimp only [sQ, tQ, bQ]; simp only [reduceIte]) | (apply Run.gtrue; (simp only [push_cast, seval, e2] <;> (try simp (disch := omega) only [wI, wU, wC]) <;> exact rfl); (simp only [push_cast, seval, e2] <;> (try simp (disch := omega) only [wI, wU, wC]) <;> exact rfl)) | (apply Run.gfalse (.bool false); (simp only [push_cast, seval, e2] <;> (try simp (disch := omega) only [wI, wU, wC]) <;> exact rfl); dsimp only [S.put, optG]) | (apply Wp.condT; (simp only [push_cast, seval, e2] <;> (try simp (disch := omega) only [wI, wU, wC]) <;> exact rfl)) | (apply Wp.condF; (simp only [push_cast, seval, e2] <;> (try simp (disch := omega) only [wI, wU, wC]) <;> exact rfl)))
      (apply Wp.ret; (try dsimp only [sQ, tQ, bQ]); apply leave0; exact rfl; (simp only [push_cast, seval, e2] <;> (try simp (disch := omega) only [wI, wU, wC]) <;> exact rfl); all_goals (try simp only [push_cast, seval, e2]); (try rfl))
  · rw [if_neg h1]
    rw [show (decide (1 ≤ n) && decide (n ≤ 6)) = false by simpa using h1] at hw
    (refine Spec.of_body Try.func13 rfl (by rw [Try.ntmps13]; simp) 0 (by simp) ?_; rw [Try.results13, Try.ntmps13]; simp only [entry, zipArgs, Nat.reduceAdd])
    repeat (first | apply Wp.seq | apply Wp.block | (apply Run.next; (simp only [push_cast, seval] <;> (try simp (disch := omega) only [wI, wU, wC]) <;> exact rfl); (focus ((try simp only [push_cast, seval]) <;> exact sT))) | ((first | apply Run.nil | apply Wp.skip); dsimp only [sQ, tQ, bQ]) | (apply Wp.run; (dsimp only [List.map] <;> exact rfl); exact rfl) | (apply Wp.exit; dsimp only [sQ, tQ, bQ]; simp only [reduceIte]))
    (apply Run.pureP; (simp only [push_cast, seval] <;> (try simp (disch := omega) only [wI, wU, wC]) <;> exact rfl); (exact (Enters.of Try.func27 rfl rfl)); (exact hw); (focus (simp only [push_cast, seval] <;> first | trivial | assumption | (refine ⟨?_, ?_⟩ <;> assumption) | (simp; done))); (try dsimp only [putA, optG]))
    repeat (first | apply Wp.seq | apply Wp.block | (apply Run.next; (simp only [push_cast, seval] <;> (try simp (disch := omega) only [wI, wU, wC]) <;> exact rfl); (focus ((try simp only [push_cast, seval]) <;> exact sT))) | ((first | apply Run.nil | apply Wp.skip); dsimp only [sQ, tQ, bQ]) | (apply Wp.run; (dsimp only [List.map] <;> exact rfl); exact rfl) | (apply Wp.exit; dsimp only [sQ, tQ, bQ]; simp only [reduceIte]) | (apply Run.gtrue; (simp only [push_cast, seval] <;> (try simp (disch := omega) only [wI, wU, wC]) <;> exact rfl); (simp only [push_cast, seval] <;> (try simp (disch := omega) only [wI, wU, wC]) <;> exact rfl)) | (apply Run.gfalse (.bool false); (simp only [push_cast, seval] <;> (try simp (disch := omega) only [wI, wU, wC]) <;> exact rfl); dsimp only [S.put, optG]) | (apply Wp.condT; (simp only [push_cast, seval] <;> (try simp (disch := omega) only [wI, wU, wC]) <;> exact rfl)) | (apply Wp.condF; (simp only [push_cast, seval] <;> (try simp (disch := omega) only [wI, wU, wC]) <;> exact rfl)))
    (apply Wp.ret; (try dsimp only [sQ, tQ, bQ]); apply leave0; exact rfl; (simp only [push_cast, seval] <;> (try simp (disch := omega) only [wI, wU, wC]) <;> exact rfl); all_goals (try simp only [push_cast, seval]); (try rfl))
end Go.Proofs.Try
set_option maxHeartbeats 8000000
namespace Go.Vg
end Go.Vg
namespace Go.Proofs.Try
open Go.Vg

/-! the document's hangings -/
theorem plcN_at {I : List Int} {p : Int} {k : Nat} (hk : k < I.length) (h : I.getD k 0 = p) (hb : ∀ j, j < k → I.getD j 0 ≠ p) : plcN I p = (k : Int) := by
  have e : ∀ j (hj : j < I.length), I.getD j 0 = I[j] := fun j hj => by simp [hj]
  have hm : p ∈ I := by rw [← h, e k hk]; exact List.getElem_mem hk
  unfold plcN
  rw [if_pos (by simpa using hm)]
  congr 1
  have h1 : I.idxOf p = I.findIdx (fun y => y == p) := rfl
  rw [h1, List.findIdx_eq hk]
  refine ⟨by rw [← e k hk, h]; simp, fun j hj => ?_⟩
  have := hb j hj
  rw [e j (by omega)] at this
  simpa using this
theorem plcN_no {I : List Int} {p : Int} (hb : ∀ j, j < I.length → I.getD j 0 ≠ p) : plcN I p = -1 := by
  unfold plcN
  rw [if_neg]
  intro h
  have hm : p ∈ I := by simpa using h
  obtain ⟨j, hj, rfl⟩ := List.getElem_of_mem hm
  exact hb j hj (by simp [hj])
theorem plcN_bd (I : List Int) (p : Int) : -1 ≤ plcN I p ∧ plcN I p < I.length ∧ (0 ≤ plcN I p ↔ I.contains p = true) := by
  unfold plcN
  split
  · rename_i h
    have hm : p ∈ I := by simpa using h
    have := List.idxOf_lt_length_iff.2 hm
    exact ⟨by omega, by omega, fun _ => h, fun _ => by omega⟩
  · rename_i h
    exact ⟨by omega, by omega, fun h2 => by omega, fun h2 => absurd h2 h⟩
theorem place_pure (I : List Int) (p : Int) (hl : I.length ≤ 9223372036854775807) : Pure Try.prog 32 [.ints I, .int p] (.int (plcN I p)) := by
  have hat := fun k (hk : k < I.length) => plcN_at (I := I) (p := p) hk
  have hno := plcN_no (I := I) (p := p)
  generalize plcN I p = z at hat hno
  (refine Spec.of_body Try.func32 rfl (by rw [Try.ntmps32]; simp) 0 (by simp) ?_; rw [Try.results32, Try.ntmps32]; simp only [entry, zipArgs, Nat.reduceAdd])
  repeat (first | apply Wp.seq | apply Wp.block | (apply Run.next; (simp only [push_cast, seval] <;> (try simp (disch := omega) only [wI, wU, wC]) <;> exact rfl); (focus ((try simp only [push_cast, seval]) <;> exact sT))) | ((first | apply Run.nil | apply Wp.skip); dsimp only [sQ, tQ, bQ]) | (apply Wp.run; (dsimp only [List.map] <;> exact rfl); exact rfl) | (apply Wp.exit; dsimp only [sQ, tQ, bQ]; simp only [reduceIte]))
  refine Wp.loop (fun (k : Nat) => { t := [(0, .ints I), (1, .int p), (5, .int k)], m := [], n := 19 }) (fun k => k ≤ I.length ∧ ∀ j, j < k → I.getD j 0 ≠ p) (fun k => I.length - k) 0 ?_ ?_ ?_
  · (refine Le.of ?_ ?_ rfl rfl <;> (try simp only [push_cast, seval]) <;> (try (with_reducible rfl)))
  · simp
  · rintro k ⟨hk1, hk2⟩
    repeat (first | apply Wp.seq | apply Wp.block | (apply Run.next; (simp only [push_cast, seval] <;> (try simp (disch := omega) only [wI, wU, wC]) <;> exact rfl); (focus ((try simp only [push_cast, seval]) <;> exact sT))) | ((first | apply Run.nil | apply Wp.skip); dsimp only [sQ, tQ, bQ]) | (apply Wp.run; (dsimp only [List.map] <;> exact rfl); exact rfl) | (apply Wp.exit; dsimp only [sQ, tQ, bQ]; simp only [reduceIte]))
    (apply Wp.cond; (simp only [push_cast, seval] <;> (try simp (disch := omega) only [wI, wU, wC]) <;> exact rfl))
    · intro hc
      simp only [decide_eq_true_eq, Int.ofNat_lt] at hc
      have hk := hat k hc
      generalize hx : I.getD k 0 = x at hk
      repeat (first | apply Wp.seq | apply Wp.block | (apply Run.next; (simp only [push_cast, seval, hx] <;> (try simp (disch := omega) only [wI, wU, wC]) <;> exact rfl); (focus ((try simp only [push_cast, seval, hx]) <;> exact sT))) | ((first | apply Run.nil | apply Wp.skip); dsimp only [sQ, tQ, bQ]) | (apply Wp.run; (dsimp only [List.map] <;> exact rfl); exact rfl) | (apply Wp.exit; dsimp only [sQ, tQ, bQ]; simp only [reduceIte]))
      (apply Wp.cond; (simp only [push_cast, seval, hx] <;> (try simp (disch := omega) only [wI, wU, wC]) <;> exact rfl))
      · intro h2
        simp only [decide_eq_true_eq] at h2
        have := hk h2 hk2
        subst this
        repeat (first | apply Wp.seq | apply Wp.block | (apply Run.next; (simp only [push_cast, seval, hx] <;> (try simp (disch := omega) only [wI, wU, wC]) <;> exact rfl); (focus ((try simp only [push_cast, seval, hx]) <;> exact sT))) | ((first | apply Run.nil | apply Wp.skip); dsimp only [sQ, tQ, bQ]) | (apply Wp.run; (dsimp only [List.map] <;> exact rfl); exact rfl) | (apply Wp.exit; dsimp only [sQ, tQ, bQ]; simp only [reduceIte]))
        (apply Wp.ret; (try dsimp only [sQ, tQ, bQ]); apply leave0; exact rfl; (simp only [push_cast, seval, hx] <;> (try simp (disch := omega) only [wI, wU, wC]) <;> exact rfl); all_goals (try simp only [push_cast, seval, hx]); (try rfl))
      · intro h2
        simp only [decide_eq_false_iff_not] at h2
        repeat (first | apply Wp.seq | apply Wp.block | (apply Run.next; (simp only [push_cast, seval, hx] <;> (try simp (disch := omega) only [wI, wU, wC]) <;> exact rfl); (focus ((try simp only [push_cast, seval, hx]) <;> exact sT))) | ((first | apply Run.nil | apply Wp.skip); dsimp only [sQ, tQ, bQ]) | (apply Wp.run; (dsimp only [List.map] <;> exact rfl); exact rfl) | (apply Wp.exit; dsimp only [sQ, tQ, bQ]; simp only [reduceIte]))
        refine ⟨k + 1, ?_, ⟨by omega, fun j hj => ?_⟩, by omega⟩
        · (refine Le.of ?_ ?_ rfl rfl <;> (try simp only [push_cast, seval, hx]) <;> (try (with_reducible rfl)))
        · by_cases hjk : j = k
          · rw [hjk, hx]; exact h2
          · exact hk2 j (by omega)
    · intro hc
      simp only [decide_eq_false_iff_not, Int.ofNat_lt] at hc
      obtain rfl : k = I.length := by omega
      have := hno hk2
      subst this
      repeat (first | apply Wp.seq | apply Wp.block | (apply Run.next; (simp only [push_cast, seval] <;> (try simp (disch := omega) only [wI, wU, wC]) <;> exact rfl); (focus ((try simp only [push_cast, seval]) <;> exact sT))) | ((first | apply Run.nil | apply Wp.skip); dsimp only [sQ, tQ, bQ]) | (apply Wp.run; (dsimp only [List.map] <;> exact rfl); exact rfl) | (apply Wp.exit; dsimp only [sQ, tQ, bQ]; simp only [reduceIte]))
      (apply Wp.ret; (try dsimp only [sQ, tQ, bQ]); apply leave0; exact rfl; (simp only [push_cast, seval] <;> (try simp (disch := omega) only [wI, wU, wC]) <;> exact rfl); all_goals (try simp only [push_cast, seval]); (try rfl))
def hoQ (x : Pt) (I : List Int) : Bool := !decide (isP x (plcN I x.a) (plcN I x.b) = x.no)
theorem True_pure (x : Pt) (I : List Int) (hl : I.length ≤ 100) : Pure Try.prog 16 [ptA x, .ints I] (.bool (hoQ x I)) := by
  have h1 := place_pure I x.a (by omega)
  have h2 := place_pure I x.b (by omega)
  have ha := plcN_bd I x.a
  have hb := plcN_bd I x.b
  unfold hoQ isP farP
  generalize plcN I x.a = a at *
  generalize plcN I x.b = b at *
  (refine Spec.of_body Try.func16 rfl (by rw [Try.ntmps16]; simp) 0 (by simp) ?_; rw [Try.results16, Try.ntmps16]; simp only [entry, zipArgs, Nat.reduceAdd])
  repeat (first | apply Wp.seq | apply Wp.block | (apply Run.next; (simp only [push_cast, seval] <;> (try simp (disch := omega) only [wI, wU, wC]) <;> exact rfl); (focus ((try simp only [push_cast, seval]) <;> exact sT))) | ((first | apply Run.nil | apply Wp.skip); dsimp only [sQ, tQ, bQ]) | (apply Wp.run; (dsimp only [List.map] <;> exact rfl); exact rfl) | (apply Wp.exit; dsimp only [sQ, tQ, bQ]; simp only [reduceIte]))
  (apply Wp.runD 10 mixed; (dsimp only [List.map] <;> exact rfl); exact rfl; kernel_rfl; (dsimp only [List.take] <;> exact rfl); (dsimp only [List.drop] <;> exact rfl); (((repeat (apply Abn.next; (simp only [push_cast, seval] <;> (try simp (disch := omega) only [wI, wU, wC]) <;> exact rfl); (focus ((try simp only [push_cast, seval]) <;> exact sT)))); (apply Abn.pureP; (simp only [push_cast, seval] <;> (try simp (disch := omega) only [wI, wU, wC]) <;> exact rfl); (exact (Enters.of Try.func32 rfl rfl)); (exact h1); (focus (simp only [push_cast, seval] <;> first | trivial | assumption | (refine ⟨?_, ?_⟩ <;> assumption) | (simp; done))); (try dsimp only [putA, optG])); (repeat (apply Abn.next; (simp only [push_cast, seval] <;> (try simp (disch := omega) only [wI, wU, wC]) <;> exact rfl); (focus ((try simp only [push_cast, seval]) <;> exact sT)))); (apply Abn.pureP; (simp only [push_cast, seval] <;> (try simp (disch := omega) only [wI, wU, wC]) <;> exact rfl); (exact (Enters.of Try.func32 rfl rfl)); (exact h2); (focus (simp only [push_cast, seval] <;> first | trivial | assumption | (refine ⟨?_, ?_⟩ <;> assumption) | (simp; done))); (try dsimp only [putA, optG])); (repeat (apply Abn.next; (simp only [push_cast, seval] <;> (try simp (disch := omega) only [wI, wU, wC]) <;> exact rfl); (focus ((try simp only [push_cast, seval]) <;> exact sT))))); exact Abn.nil))
  repeat (first | apply Wp.seq | apply Wp.block | (apply Run.next; (simp only [push_cast, seval] <;> (try simp (disch := omega) only [wI, wU, wC]) <;> exact rfl); (focus ((try simp only [push_cast, seval]) <;> exact sT))) | ((first | apply Run.nil | apply Wp.skip); dsimp only [sQ, tQ, bQ]) | (apply Wp.run; (dsimp only [List.map] <;> exact rfl); exact rfl) | (apply Wp.exit; dsimp only [sQ, tQ, bQ]; simp only [reduceIte]))
  (apply Wp.cond; (simp only [push_cast, seval] <;> (try simp (disch := omega) only [wI, wU, wC]) <;> exact rfl))
  · intro k1
    simp only [decide_eq_true_eq] at k1
    rw [if_pos k1]
    repeat (first | apply Wp.seq | apply Wp.block | (apply Run.next; (simp only [push_cast, seval] <;> (try simp (disch := omega) only [wI, wU, wC]) <;> exact rfl); (focus ((try simp only [push_cast, seval]) <;> exact sT))) | ((first | apply Run.nil | apply Wp.skip); dsimp only [sQ, tQ, bQ]) | (apply Wp.run; (dsimp only [List.map] <;> exact rfl); exact rfl) | (apply Wp.exit; dsimp only [sQ, tQ, bQ]; simp only [reduceIte]))
    (apply Wp.ret; (try dsimp only [sQ, tQ, bQ]); apply leave0; exact rfl; (simp only [push_cast, seval] <;> (try simp (disch := omega) only [wI, wU, wC]) <;> exact rfl); all_goals (try simp only [push_cast, seval]); (try rfl))
  · intro k1
    simp only [decide_eq_false_iff_not] at k1
    rw [if_neg k1]
    repeat (first | apply Wp.seq | apply Wp.block | (apply Run.next; (simp only [push_cast, seval] <;> (try simp (disch := omega) only [wI, wU, wC]) <;> exact rfl); (focus ((try simp only [push_cast, seval]) <;> exact sT))) | ((first | apply Run.nil | apply Wp.skip); dsimp only [sQ, tQ, bQ]) | (apply Wp.run; (dsimp only [List.map] <;> exact rfl); exact rfl) | (apply Wp.exit; dsimp only [sQ, tQ, bQ]; simp only [reduceIte]))
    (apply Wp.cond; (simp only [push_cast, seval] <;> (try simp (disch := omega) only [wI, wU, wC]) <;> exact rfl))
    · intro k2
      simp only [decide_eq_true_eq] at k2
      rw [if_pos k2]
      repeat (first | apply Wp.seq | apply Wp.block | (apply Run.next; (simp only [push_cast, seval] <;> (try simp (disch := omega) only [wI, wU, wC]) <;> exact rfl); (focus ((try simp only [push_cast, seval]) <;> exact sT))) | ((first | apply Run.nil | apply Wp.skip); dsimp only [sQ, tQ, bQ]) | (apply Wp.run; (dsimp only [List.map] <;> exact rfl); exact rfl) | (apply Wp.exit; dsimp only [sQ, tQ, bQ]; simp only [reduceIte]))
      (apply Wp.ret; (try dsimp only [sQ, tQ, bQ]); apply leave0; exact rfl; (simp only [push_cast, seval] <;> (try simp (disch := omega) only [wI, wU, wC]) <;> exact rfl); all_goals (try simp only [push_cast, seval]); (try rfl))
    · intro k2
      simp only [decide_eq_false_iff_not] at k2
      rw [if_neg k2]
      repeat (first | apply Wp.seq | apply Wp.block | (apply Run.next; (simp only [push_cast, seval] <;> (try simp (disch := omega) only [wI, wU, wC]) <;> exact rfl); (focus ((try simp only [push_cast, seval]) <;> exact sT))) | ((first | apply Run.nil | apply Wp.skip); dsimp only [sQ, tQ, bQ]) | (apply Wp.run; (dsimp only [List.map] <;> exact rfl); exact rfl) | (apply Wp.exit; dsimp only [sQ, tQ, bQ]; simp only [reduceIte]))
      (apply Wp.cond; (simp only [push_cast, seval] <;> (try simp (disch := omega) only [wI, wU, wC]) <;> exact rfl))
      · intro k3
        simp only [decide_eq_true_eq] at k3
        rw [if_pos k3]
        repeat (first | apply Wp.seq | apply Wp.block | (apply Run.next; (simp only [push_cast, seval] <;> (try simp (disch := omega) only [wI, wU, wC]) <;> exact rfl); (focus ((try simp only [push_cast, seval]) <;> exact sT))) | ((first | apply Run.nil | apply Wp.skip); dsimp only [sQ, tQ, bQ]) | (apply Wp.run; (dsimp only [List.map] <;> exact rfl); exact rfl) | (apply Wp.exit; dsimp only [sQ, tQ, bQ]; simp only [reduceIte]))
        (apply Wp.ret; (try dsimp only [sQ, tQ, bQ]); apply leave0; exact rfl; (simp only [push_cast, seval] <;> (try simp (disch := omega) only [wI, wU, wC]) <;> exact rfl); all_goals (try simp only [push_cast, seval]); (try rfl))
      · intro k3
        simp only [decide_eq_false_iff_not] at k3
        rw [if_neg k3]
        repeat (first | apply Wp.seq | apply Wp.block | (apply Run.next; (simp only [push_cast, seval] <;> (try simp (disch := omega) only [wI, wU, wC]) <;> exact rfl); (focus ((try simp only [push_cast, seval]) <;> exact sT))) | ((first | apply Run.nil | apply Wp.skip); dsimp only [sQ, tQ, bQ]) | (apply Wp.run; (dsimp only [List.map] <;> exact rfl); exact rfl) | (apply Wp.exit; dsimp only [sQ, tQ, bQ]; simp only [reduceIte]))
        (apply Wp.cond; (simp only [push_cast, seval] <;> (try simp (disch := omega) only [wI, wU, wC]) <;> exact rfl))
        · intro k4
          simp only [decide_eq_true_eq] at k4
          rw [if_pos k4]
          repeat (first | apply Wp.seq | apply Wp.block | (apply Run.next; (simp only [push_cast, seval] <;> (try simp (disch := omega) only [wI, wU, wC]) <;> exact rfl); (focus ((try simp only [push_cast, seval]) <;> exact sT))) | ((first | apply Run.nil | apply Wp.skip); dsimp only [sQ, tQ, bQ]) | (apply Wp.run; (dsimp only [List.map] <;> exact rfl); exact rfl) | (apply Wp.exit; dsimp only [sQ, tQ, bQ]; simp only [reduceIte]))
          (apply Wp.ret; (try dsimp only [sQ, tQ, bQ]); apply leave0; exact rfl; (simp only [push_cast, seval] <;> (try simp (disch := omega) only [wI, wU, wC]) <;> exact rfl); all_goals (try simp only [push_cast, seval]); (try rfl))
          rw [show decide (x.n ≤ max (a - b) (b - a) - 1) = decide (x.n < max (a - b) (b - a)) from decide_eq_decide.2 (by omega)]
        · intro k4
          simp only [decide_eq_false_iff_not] at k4
          rw [if_neg k4]
          repeat (first | apply Wp.seq | apply Wp.block | (apply Run.next; (simp only [push_cast, seval] <;> (try simp (disch := omega) only [wI, wU, wC]) <;> exact rfl); (focus ((try simp only [push_cast, seval]) <;> exact sT))) | ((first | apply Run.nil | apply Wp.skip); dsimp only [sQ, tQ, bQ]) | (apply Wp.run; (dsimp only [List.map] <;> exact rfl); exact rfl) | (apply Wp.exit; dsimp only [sQ, tQ, bQ]; simp only [reduceIte]))
          (apply Wp.ret; (try dsimp only [sQ, tQ, bQ]); apply leave0; exact rfl; (simp only [push_cast, seval] <;> (try simp (disch := omega) only [wI, wU, wC]) <;> exact rfl); all_goals (try simp only [push_cast, seval]); (try rfl))
end Go.Proofs.Try
set_option maxHeartbeats 8000000
namespace Go.Proofs.Try
open Go.Vg

/-! all hangings, as the document lists them -/
def okH (l : List Pt) (I : List Int) : Bool := l.all fun x => hoQ x I
theorem plF_lenP {f : Nat → List (List Int)} {B : Nat} (h : ∀ i, (f i).length ≤ B) : ∀ d j, (plF f d j).length ≤ d * B
  | 0, _ => by simp [plF]
  | d + 1, j => by
    have := plF_lenP h d (j + 1)
    have := h j
    simp only [plF, List.length_append]
    rw [Nat.succ_mul]; omega
theorem hgL_len {n : Nat} (hn : n ≤ 6) (ok : List Int → Bool) : ∀ r I, (hgL n ok r I).length ≤ 6 ^ r
  | 0, I => by rw [hgL_zero]; split <;> simp
  | r + 1, I => by
    rw [hgL_succ]
    have h1 := plF_lenP (f := hgF n ok r I) (B := 6 ^ r) (fun i => by
      unfold hgF
      split
      · simp
      · exact hgL_len hn ok r _) n 0
    have h2 : n * 6 ^ r ≤ 6 * 6 ^ r := Nat.mul_le_mul_right _ hn
    rw [Nat.pow_succ, Nat.mul_comm]; omega
end Go.Proofs.Try
set_option maxHeartbeats 8000000
namespace Go.Proofs.Try
open Go.Vg

/-! the places of the portraits, and what the recursion keeps -/
def plA (n : Nat) (h : List Int) : List Int := (List.range n).map fun p : Nat => plcN h (p : Int)
theorem plA_len (n : Nat) (h : List Int) : (plA n h).length = n := by simp [plA]
theorem plA_get {n p : Nat} (h : List Int) (hp : p < n) : (plA n h).getD p 0 = plcN h (p : Int) := by simp [plA, hp]
theorem plA_bd (n : Nat) (h : List Int) (hl : h.length ≤ 6) (i : Nat) : -1 ≤ (plA n h).getD i 0 ∧ (plA n h).getD i 0 ≤ 100 := by
  by_cases hi : i < n
  · rw [plA_get h hi]
    have := plcN_bd h (i : Int)
    omega
  · rw [List.getD_eq_getElem?_getD, List.getElem?_eq_none (by rw [plA_len]; omega)]; simp
theorem plcN_snoc {h : List Int} {p q : Int} (hq : h.contains q = false) : plcN (h ++ [q]) p = if p = q then (h.length : Int) else plcN h p := by
  have hqm : q ∉ h := by simpa using hq
  by_cases hpq : p = q
  · subst hpq
    rw [if_pos rfl]
    refine plcN_at (by simp) (getD_last h p) fun j hj => ?_
    rw [getD_left hj]
    intro e
    exact hqm (by rw [← e]; simp [hj])
  · rw [if_neg hpq]
    unfold plcN
    by_cases hp : h.contains p = true
    · have hpm : p ∈ h := by simpa using hp
      rw [if_pos hp, if_pos (by simp [hpm]), List.idxOf_append, if_pos hpm]
    · have hpm : p ∉ h := by simpa using hp
      rw [if_neg hp, if_neg (by simp [hpm, hpq])]
theorem plA_set {n p : Nat} {h : List Int} (hp : h.contains (p : Int) = false) : (plA n h).set p (h.length : Int) = plA n (h ++ [(p : Int)]) := by
  apply List.ext_getElem (by simp [plA])
  intro i h1 h2
  rw [List.getElem_set]
  simp only [plA, List.getElem_map, List.getElem_range]
  rw [plcN_snoc hp]
  by_cases hip : p = i
  · subst hip; simp
  · rw [if_neg hip, if_neg (by omega)]
theorem plA_back {n p : Nat} {h : List Int} (hp : h.contains (p : Int) = false) : (plA n (h ++ [(p : Int)])).set p (-1) = plA n h := by
  apply List.ext_getElem (by simp [plA])
  intro i h1 h2
  rw [List.getElem_set]
  simp only [plA, List.getElem_map, List.getElem_range]
  by_cases hip : p = i
  · subst hip
    rw [if_pos rfl]
    unfold plcN
    rw [if_neg (by rw [hp]; simp)]
  · rw [if_neg hip, plcN_snoc hp, if_neg (by omega)]
theorem plA_zero (n : Nat) : plA n [] = List.replicate n (-1) := by
  apply List.ext_getElem (by simp [plA])
  intro i h1 h2
  simp [plA, plcN]
theorem ho_eq {n : Nat} {x : Pt} (hx : PV n x) (h : List Int) : hoP x (fun i => (plA n h).getD i 0) = hoQ x h := by
  obtain ⟨a1, b1⟩ := hx
  have e1 : (plA n h).getD x.a.toNat 0 = plcN h x.a := by rw [plA_get h (by omega), Int.toNat_of_nonneg a1.1]
  have e2 : (plA n h).getD x.b.toNat 0 = plcN h x.b := by rw [plA_get h (by omega), Int.toNat_of_nonneg b1.1]
  show (!decide (isP x ((plA n h).getD x.a.toNat 0) ((plA n h).getD x.b.toNat 0) = x.no)) = _
  simp only [e1, e2]
  rfl
theorem VwL.selfsP {m : Mem} : ∀ {xs : List AV}, okL 0 xs → VwL m xs xs
  | [], _ => .nil
  | x :: xs, h => .cons (.self h.1) (VwL.selfsP h.2)
abbrev hclo (N wn wl : Nat) : AV := .clo 48 [.optr (N + 1) 0 0 0, .optr wn 0 0 0, .optr wl 0 0 0, .optr (N + 3) 0 0 0, .optr N 0 0 0, .optr (N + 4) 0 0 0]
abbrev htail (N yid wn wl n : Nat) (h : List Int) (len vi : Nat) : Mem := [⟨0, .row 1 [.yld yid 0]⟩, ⟨0, .row 1 [.osl (N + 5) vi 0 len]⟩, ⟨0, .row 1 ((plA n h).map AV.int)⟩, ⟨0, .row 1 [.osl (N + 2) 0 0 n]⟩, ⟨0, .row 1 [hclo N wn wl]⟩, ⟨vi, .row 1 (h.map AV.int)⟩]
theorem Vw.ointsP {m : Mem} {id ver : Nat} {l : List Int} (n : Nat) (hn : n = l.length) (hm : m[id]? = some ⟨ver, .row 1 (l.map AV.int)⟩) : Vw m (.osl id ver 0 n) (.ints l) := by
  subst hn
  refine .osl hm (by simp) (by omega) ?_
  have e : ((l.map AV.int).drop 0).take l.length = l.map AV.int := by simp [List.take_of_length_le]
  rw [e]
  exact VwL.selfsP (by simp only [push_cast])
theorem htail_vw {M : Mem} {N : Nat} (hM : M.length = N) (yid wn wl n : Nat) (h : List Int) (len vi : Nat) (f : FuncId) : Vw (M ++ htail N yid wn wl n h len vi) (.clo f [.optr (N + 3) 0 0 0]) (.clo f [.ref [.ints (plA n h)] 0]) :=
  .clo (.cons (.optr (sz := 1) (l := [.osl (N + 2) 0 0 n]) (x := .osl (N + 2) 0 0 n) (by rw [getF hM]; rfl) rfl (by simp [AV.cells]) (.cons (Vw.ointsP n (plA_len n h).symm (by rw [getF hM]; rfl)) .nil)) .nil)
theorem holds1_pure {n : Nat} {x : Pt} (hx : PV n x) (h : List Int) (hl : h.length ≤ 6) : Pure Try.prog 49 [ptA x, .ref [.ints (plA n h)] 0] (.bool (!hoQ x h)) := by
  have hh := holds_pure hx (plA n h) (plA_len n h) (plA_bd n h hl)
  rw [ho_eq hx h] at hh
  (refine Spec.of_body Try.func49 rfl (by rw [Try.ntmps49]; simp) 0 (by simp) ?_; rw [Try.results49, Try.ntmps49]; simp only [entry, zipArgs, Nat.reduceAdd])
  repeat (first | apply Wp.seq | apply Wp.block | (apply Run.next; (simp only [push_cast, seval] <;> (try simp (disch := omega) only [wI, wU, wC]) <;> exact rfl); (focus ((try simp only [push_cast, seval]) <;> exact sT))) | ((first | apply Run.nil | apply Wp.skip); dsimp only [sQ, tQ, bQ]) | (apply Wp.run; (dsimp only [List.map] <;> exact rfl); exact rfl) | (apply Wp.exit; dsimp only [sQ, tQ, bQ]; simp only [reduceIte]))
  (apply Run.pureP; (simp only [push_cast, seval] <;> (try simp (disch := omega) only [wI, wU, wC]) <;> exact rfl); (exact (Enters.of Try.func50 rfl rfl)); (exact hh); (focus (simp only [push_cast, seval] <;> first | trivial | assumption | (refine ⟨?_, ?_⟩ <;> assumption) | (simp; done))); (try dsimp only [putA, optG]))
  repeat (first | apply Wp.seq | apply Wp.block | (apply Run.next; (simp only [push_cast, seval] <;> (try simp (disch := omega) only [wI, wU, wC]) <;> exact rfl); (focus ((try simp only [push_cast, seval]) <;> exact sT))) | ((first | apply Run.nil | apply Wp.skip); dsimp only [sQ, tQ, bQ]) | (apply Wp.run; (dsimp only [List.map] <;> exact rfl); exact rfl) | (apply Wp.exit; dsimp only [sQ, tQ, bQ]; simp only [reduceIte]))
  (apply Wp.ret; (try dsimp only [sQ, tQ, bQ]); apply leave0; exact rfl; (simp only [push_cast, seval] <;> (try simp (disch := omega) only [wI, wU, wC]) <;> exact rfl); all_goals (try simp only [push_cast, seval]); (try rfl))
section
variable {σ : Type} (K : σ → Mem) (go : σ → List Int → σ × Bool) (G : σ → Prop)
def NxQ (N yid wn wl n : Nat) (h : List Int) (R : σ × Bool) (x : AV) (m' : Mem) : Prop :=
  (R.2 = true ∧ x = .bool true ∧ G R.1 ∧ ∃ vi, m' = K R.1 ++ htail N yid wn wl n h h.length vi) ∨ (R.2 = false ∧ x = .bool false ∧ ∃ T : Mem, T.length = 6 ∧ m' = K R.1 ++ T)
theorem next_spec {N yid wn wl n : Nat} (hK : ∀ s, (K s).length = N) (hwn : ∀ s l, (K s ++ l)[wn]? = some ⟨0, .row 1 [.int n]⟩) {ls : List Pt} (hwl : ∀ s l, (K s ++ l)[wl]? = some ⟨0, .row 1 [.lst 5 (ls.map ptA)]⟩) (hn : n ≤ 6) (hl20 : ls.length ≤ 20) (hpv : ∀ x ∈ ls, PV n x)
    (hG : ∀ s h, G s → (go s h).2 = true → G (go s h).1)
    (hY : ∀ s h vi, G s → h.length = n → okH ls h = true → YSpec Try.prog (.yld yid 0) [.osl (N + 5) vi 0 n] (K s ++ htail N yid wn wl n h n vi) fun x m' => x = .bool (go s h).2 ∧ m' = K (go s h).1 ++ htail N yid wn wl n h n vi) :
    ∀ (r : Nat) (h : List Int) (s : σ) (vi : Nat), h.length + r = n → G s → Go.Vg.Spec Try.prog 48 [.optr (N + 1) 0 0 0, .optr wn 0 0 0, .optr wl 0 0 0, .optr (N + 3) 0 0 0, .optr N 0 0 0, .optr (N + 4) 0 0 0] (K s ++ htail N yid wn wl n h h.length vi) (NxQ K G N yid wn wl n h (foldB go s (hgL n (okH ls) r h))) := by
  intro r
  induction r with
  | zero =>
    intro h s vi hr hs
    have he : decide ((h.length : Int) = (n : Int)) = true := decide_eq_true (by omega)
    have hcf := containsFuncPt ls 49 [.ref [.ints (plA n h)] 0] (fun x => !hoQ x h) (Enters.of Try.func49 rfl rfl) (by simp only [push_cast]) (fun m => ⟨rfl, rfl⟩) (fun x hx => holds1_pure (hpv x hx) h (by omega)) (by omega)
    rw [any_notP, show (ls.all fun x => hoQ x h) = okH ls h from rfl] at hcf
    have hpl := plA_len n h
    rw [hgL_zero]
    have hYs := hY s h vi hs (by omega)
    cases hok : okH ls h with
    | false =>
      rw [hok] at hcf
      rw [if_neg (by simp)]
      (refine Spec.of_bodyA Try.func48 rfl (by rw [Try.ntmps48]; simp) ?_; rw [Try.results48, Try.ntmps48]; simp only [entry, zipArgs, Nat.reduceAdd])
      repeat (first | apply Wp.seq | apply Wp.block | (apply Run.next; (simp only [push_cast, seval, getF (hK s), getF0 (hK s), hwn s, hwl s, he] <;> (try simp (disch := omega) only [wI, wU, wC]) <;> exact rfl); (focus ((try simp only [push_cast, seval, getF (hK s), getF0 (hK s), hwn s, hwl s, he]) <;> exact sT))) | ((first | apply Run.nil | apply Wp.skip); dsimp only [sQ, tQ, bQ]) | (apply Wp.run; (dsimp only [List.map] <;> exact rfl); exact rfl) | (apply Wp.exit; dsimp only [sQ, tQ, bQ]; simp only [reduceIte]) | (apply Run.gtrue; (simp only [push_cast, seval, getF (hK s), getF0 (hK s), hwn s, hwl s, he] <;> (try simp (disch := omega) only [wI, wU, wC]) <;> exact rfl); (simp only [push_cast, seval, getF (hK s), getF0 (hK s), hwn s, hwl s, he] <;> (try simp (disch := omega) only [wI, wU, wC]) <;> exact rfl)) | (apply Run.gfalse (.bool false); (simp only [push_cast, seval, getF (hK s), getF0 (hK s), hwn s, hwl s, he] <;> (try simp (disch := omega) only [wI, wU, wC]) <;> exact rfl); dsimp only [S.put, optG]) | (apply Wp.condT; (simp only [push_cast, seval, getF (hK s), getF0 (hK s), hwn s, hwl s, he] <;> (try simp (disch := omega) only [wI, wU, wC]) <;> exact rfl)) | (apply Wp.condF; (simp only [push_cast, seval, getF (hK s), getF0 (hK s), hwn s, hwl s, he] <;> (try simp (disch := omega) only [wI, wU, wC]) <;> exact rfl)))
      (apply Run.pureW; (simp only [push_cast, seval, getF (hK s), getF0 (hK s), hwn s, hwl s, he] <;> (try simp (disch := omega) only [wI, wU, wC]) <;> exact rfl); (exact (Enters.of Try.func43 rfl rfl)); (exact hcf); (exact VwL.cons (Vw.self (by simp only [push_cast])) (VwL.cons (htail_vw (hK s) _ _ _ _ _ _ _ _) VwL.nil)); (simp only [push_cast, seval, getF (hK s), getF0 (hK s), hwn s, hwl s, he] <;> first | trivial | assumption | (refine ⟨?_, ?_⟩ <;> assumption) | (simp; done)); (try dsimp only [putA, optG]))
      repeat (first | apply Wp.seq | apply Wp.block | (apply Run.next; (simp only [push_cast, seval, getF (hK s), getF0 (hK s), hwn s, hwl s, he] <;> (try simp (disch := omega) only [wI, wU, wC]) <;> exact rfl); (focus ((try simp only [push_cast, seval, getF (hK s), getF0 (hK s), hwn s, hwl s, he]) <;> exact sT))) | ((first | apply Run.nil | apply Wp.skip); dsimp only [sQ, tQ, bQ]) | (apply Wp.run; (dsimp only [List.map] <;> exact rfl); exact rfl) | (apply Wp.exit; dsimp only [sQ, tQ, bQ]; simp only [reduceIte]) | (apply Run.gtrue; (simp only [push_cast, seval, getF (hK s), getF0 (hK s), hwn s, hwl s, he] <;> (try simp (disch := omega) only [wI, wU, wC]) <;> exact rfl); (simp only [push_cast, seval, getF (hK s), getF0 (hK s), hwn s, hwl s, he] <;> (try simp (disch := omega) only [wI, wU, wC]) <;> exact rfl)) | (apply Run.gfalse (.bool false); (simp only [push_cast, seval, getF (hK s), getF0 (hK s), hwn s, hwl s, he] <;> (try simp (disch := omega) only [wI, wU, wC]) <;> exact rfl); dsimp only [S.put, optG]) | (apply Wp.condT; (simp only [push_cast, seval, getF (hK s), getF0 (hK s), hwn s, hwl s, he] <;> (try simp (disch := omega) only [wI, wU, wC]) <;> exact rfl)) | (apply Wp.condF; (simp only [push_cast, seval, getF (hK s), getF0 (hK s), hwn s, hwl s, he] <;> (try simp (disch := omega) only [wI, wU, wC]) <;> exact rfl)))
      (apply Wp.ret; (try dsimp only [sQ, tQ, bQ]); apply leaveA; exact rfl; (simp only [push_cast, seval, getF (hK s), getF0 (hK s), hwn s, hwl s, he] <;> (try simp (disch := omega) only [wI, wU, wC]) <;> exact rfl); (focus (first | (simp only [push_cast, seval, getF (hK s), getF0 (hK s), hwn s, hwl s, he]; done) | trivial | (simp only [push_cast, seval, getF (hK s), getF0 (hK s), hwn s, hwl s, he]; trivial) | (simp; done))); (try simp only [push_cast, seval, getF (hK s), getF0 (hK s), hwn s, hwl s, he]))
      exact .inl ⟨rfl, rfl, hs, vi, rfl⟩
    | true =>
      rw [hok] at hcf
      rw [if_pos rfl]
      have hYs := hYs hok
      have hfb : foldB go s [h] = go s h := by
        simp only [foldB]
        cases hg : go s h with
        | mk a b => cases b <;> simp
      rw [hfb]
      have hGs := hG s h hs
      generalize go s h = R at hYs hGs
      have hlen : n = h.length := by omega
      (refine Spec.of_bodyA Try.func48 rfl (by rw [Try.ntmps48]; simp) ?_; rw [Try.results48, Try.ntmps48]; simp only [entry, zipArgs, Nat.reduceAdd])
      repeat (first | apply Wp.seq | apply Wp.block | (apply Run.next; (simp only [push_cast, seval, getF (hK s), getF0 (hK s), hwn s, hwl s, he] <;> (try simp (disch := omega) only [wI, wU, wC]) <;> exact rfl); (focus ((try simp only [push_cast, seval, getF (hK s), getF0 (hK s), hwn s, hwl s, he]) <;> exact sT))) | ((first | apply Run.nil | apply Wp.skip); dsimp only [sQ, tQ, bQ]) | (apply Wp.run; (dsimp only [List.map] <;> exact rfl); exact rfl) | (apply Wp.exit; dsimp only [sQ, tQ, bQ]; simp only [reduceIte]) | (apply Run.gtrue; (simp only [push_cast, seval, getF (hK s), getF0 (hK s), hwn s, hwl s, he] <;> (try simp (disch := omega) only [wI, wU, wC]) <;> exact rfl); (simp only [push_cast, seval, getF (hK s), getF0 (hK s), hwn s, hwl s, he] <;> (try simp (disch := omega) only [wI, wU, wC]) <;> exact rfl)) | (apply Run.gfalse (.bool false); (simp only [push_cast, seval, getF (hK s), getF0 (hK s), hwn s, hwl s, he] <;> (try simp (disch := omega) only [wI, wU, wC]) <;> exact rfl); dsimp only [S.put, optG]) | (apply Wp.condT; (simp only [push_cast, seval, getF (hK s), getF0 (hK s), hwn s, hwl s, he] <;> (try simp (disch := omega) only [wI, wU, wC]) <;> exact rfl)) | (apply Wp.condF; (simp only [push_cast, seval, getF (hK s), getF0 (hK s), hwn s, hwl s, he] <;> (try simp (disch := omega) only [wI, wU, wC]) <;> exact rfl)))
      (apply Run.pureW; (simp only [push_cast, seval, getF (hK s), getF0 (hK s), hwn s, hwl s, he] <;> (try simp (disch := omega) only [wI, wU, wC]) <;> exact rfl); (exact (Enters.of Try.func43 rfl rfl)); (exact hcf); (exact VwL.cons (Vw.self (by simp only [push_cast])) (VwL.cons (htail_vw (hK s) _ _ _ _ _ _ _ _) VwL.nil)); (simp only [push_cast, seval, getF (hK s), getF0 (hK s), hwn s, hwl s, he] <;> first | trivial | assumption | (refine ⟨?_, ?_⟩ <;> assumption) | (simp; done)); (try dsimp only [putA, optG]))
      repeat (first | apply Wp.seq | apply Wp.block | (apply Run.next; (simp only [push_cast, seval, getF (hK s), getF0 (hK s), hwn s, hwl s, he] <;> (try simp (disch := omega) only [wI, wU, wC]) <;> exact rfl); (focus ((try simp only [push_cast, seval, getF (hK s), getF0 (hK s), hwn s, hwl s, he]) <;> exact sT))) | ((first | apply Run.nil | apply Wp.skip); dsimp only [sQ, tQ, bQ]) | (apply Wp.run; (dsimp only [List.map] <;> exact rfl); exact rfl) | (apply Wp.exit; dsimp only [sQ, tQ, bQ]; simp only [reduceIte]) | (apply Run.gtrue; (simp only [push_cast, seval, getF (hK s), getF0 (hK s), hwn s, hwl s, he] <;> (try simp (disch := omega) only [wI, wU, wC]) <;> exact rfl); (simp only [push_cast, seval, getF (hK s), getF0 (hK s), hwn s, hwl s, he] <;> (try simp (disch := omega) only [wI, wU, wC]) <;> exact rfl)) | (apply Run.gfalse (.bool false); (simp only [push_cast, seval, getF (hK s), getF0 (hK s), hwn s, hwl s, he] <;> (try simp (disch := omega) only [wI, wU, wC]) <;> exact rfl); dsimp only [S.put, optG]) | (apply Wp.condT; (simp only [push_cast, seval, getF (hK s), getF0 (hK s), hwn s, hwl s, he] <;> (try simp (disch := omega) only [wI, wU, wC]) <;> exact rfl)) | (apply Wp.condF; (simp only [push_cast, seval, getF (hK s), getF0 (hK s), hwn s, hwl s, he] <;> (try simp (disch := omega) only [wI, wU, wC]) <;> exact rfl)))
      rw [hlen] at hYs ⊢
      apply Run.ycall (hc := hYs)
      focus exact rfl
      focus (simp only [push_cast, seval, getF (hK s), getF0 (hK s), hwn s, hwl s, he] <;> (try simp (disch := omega) only [wI, wU, wC]) <;> exact rfl)
      focus (simp only [push_cast, seval, getF (hK s), getF0 (hK s), hwn s, hwl s, he] <;> (try simp (disch := omega) only [wI, wU, wC]) <;> exact rfl)
      rintro x m' ⟨rfl, rfl⟩
      obtain ⟨s', b⟩ := R
      cases b with
      | true =>
        dsimp only [S.put, optG]
        repeat (first | apply Wp.seq | apply Wp.block | (apply Run.next; (simp only [push_cast, seval, getF (hK s), getF0 (hK s), hwn s, hwl s, he] <;> (try simp (disch := omega) only [wI, wU, wC]) <;> exact rfl); (focus ((try simp only [push_cast, seval, getF (hK s), getF0 (hK s), hwn s, hwl s, he]) <;> exact sT))) | ((first | apply Run.nil | apply Wp.skip); dsimp only [sQ, tQ, bQ]) | (apply Wp.run; (dsimp only [List.map] <;> exact rfl); exact rfl) | (apply Wp.exit; dsimp only [sQ, tQ, bQ]; simp only [reduceIte]))
        (apply Wp.ret; (try dsimp only [sQ, tQ, bQ]); apply leaveA; exact rfl; (simp only [push_cast, seval, getF (hK s), getF0 (hK s), hwn s, hwl s, he] <;> (try simp (disch := omega) only [wI, wU, wC]) <;> exact rfl); (focus (first | (simp only [push_cast, seval, getF (hK s), getF0 (hK s), hwn s, hwl s, he]; done) | trivial | (simp only [push_cast, seval, getF (hK s), getF0 (hK s), hwn s, hwl s, he]; trivial) | (simp; done))); (try simp only [push_cast, seval, getF (hK s), getF0 (hK s), hwn s, hwl s, he]))
        exact .inl ⟨rfl, rfl, hGs rfl, vi, rfl⟩
      | false =>
        dsimp only [S.put, optG]
        repeat (first | apply Wp.seq | apply Wp.block | (apply Run.next; (simp only [push_cast, seval, getF (hK s), getF0 (hK s), hwn s, hwl s, he] <;> (try simp (disch := omega) only [wI, wU, wC]) <;> exact rfl); (focus ((try simp only [push_cast, seval, getF (hK s), getF0 (hK s), hwn s, hwl s, he]) <;> exact sT))) | ((first | apply Run.nil | apply Wp.skip); dsimp only [sQ, tQ, bQ]) | (apply Wp.run; (dsimp only [List.map] <;> exact rfl); exact rfl) | (apply Wp.exit; dsimp only [sQ, tQ, bQ]; simp only [reduceIte]))
        (apply Wp.ret; (try dsimp only [sQ, tQ, bQ]); apply leaveA; exact rfl; (simp only [push_cast, seval, getF (hK s), getF0 (hK s), hwn s, hwl s, he] <;> (try simp (disch := omega) only [wI, wU, wC]) <;> exact rfl); (focus (first | (simp only [push_cast, seval, getF (hK s), getF0 (hK s), hwn s, hwl s, he]; done) | trivial | (simp only [push_cast, seval, getF (hK s), getF0 (hK s), hwn s, hwl s, he]; trivial) | (simp; done))); (try simp only [push_cast, seval, getF (hK s), getF0 (hK s), hwn s, hwl s, he]))
        exact .inr ⟨rfl, rfl, _, rfl, rfl⟩
  | succ r ih =>
    intro h s vi hr hs
    have he : decide ((h.length : Int) = (n : Int)) = false := decide_eq_false (by omega)
    rw [hgL_succ]
    have hst : ∀ j, foldB go s (plF (hgF n (okH ls) r h) (j + 1) 0) = if (foldB go s (plF (hgF n (okH ls) r h) j 0)).2 = true then foldB go (foldB go s (plF (hgF n (okH ls) r h) j 0)).1 (hgF n (okH ls) r h j) else ((foldB go s (plF (hgF n (okH ls) r h) j 0)).1, false) := fun j => by rw [plF_snocG, foldB_app, Nat.zero_add]
    have hfz : ∀ j : Nat, hgF n (okH ls) r h j = if h.contains (j : Int) = true then [] else hgL n (okH ls) r (h ++ [(j : Int)]) := fun _ => rfl
    have hf0 : foldB go s (plF (hgF n (okH ls) r h) 0 0) = (s, true) := rfl
    have hstop : ∀ j, j ≤ n → (foldB go s (plF (hgF n (okH ls) r h) j 0)).2 = false → foldB go s (plF (hgF n (okH ls) r h) n 0) = foldB go s (plF (hgF n (okH ls) r h) j 0) := by
      intro j hj hb
      have : ∀ d, foldB go s (plF (hgF n (okH ls) r h) (j + d) 0) = foldB go s (plF (hgF n (okH ls) r h) j 0) := by
        intro d
        induction d with
        | zero => rfl
        | succ d ihd =>
          rw [← Nat.add_assoc, hst, ihd, if_neg (by rw [hb]; simp)]
          rw [← hb]
      have h2 := this (n - j)
      rw [show j + (n - j) = n by omega] at h2
      exact h2
    generalize hfd : (fun j => foldB go s (plF (hgF n (okH ls) r h) j 0)) = fd
    have hfe : ∀ j, foldB go s (plF (hgF n (okH ls) r h) j 0) = fd j := fun j => by rw [← hfd]
    simp only [hfe] at hst hf0 hstop ⊢
    generalize hgF n (okH ls) r h = hf at hfz hst
    (refine Spec.of_bodyA Try.func48 rfl (by rw [Try.ntmps48]; simp) ?_; rw [Try.results48, Try.ntmps48]; simp only [entry, zipArgs, Nat.reduceAdd])
    repeat (first | apply Wp.seq | apply Wp.block | (apply Run.next; (simp only [push_cast, seval, getF (hK s), getF0 (hK s), hwn s, hwl s, he] <;> (try simp (disch := omega) only [wI, wU, wC]) <;> exact rfl); (focus ((try simp only [push_cast, seval, getF (hK s), getF0 (hK s), hwn s, hwl s, he]) <;> exact sT))) | ((first | apply Run.nil | apply Wp.skip); dsimp only [sQ, tQ, bQ]) | (apply Wp.run; (dsimp only [List.map] <;> exact rfl); exact rfl) | (apply Wp.exit; dsimp only [sQ, tQ, bQ]; simp only [reduceIte]) | (apply Run.gtrue; (simp only [push_cast, seval, getF (hK s), getF0 (hK s), hwn s, hwl s, he] <;> (try simp (disch := omega) only [wI, wU, wC]) <;> exact rfl); (simp only [push_cast, seval, getF (hK s), getF0 (hK s), hwn s, hwl s, he] <;> (try simp (disch := omega) only [wI, wU, wC]) <;> exact rfl)) | (apply Run.gfalse (.bool false); (simp only [push_cast, seval, getF (hK s), getF0 (hK s), hwn s, hwl s, he] <;> (try simp (disch := omega) only [wI, wU, wC]) <;> exact rfl); dsimp only [S.put, optG]) | (apply Wp.condT; (simp only [push_cast, seval, getF (hK s), getF0 (hK s), hwn s, hwl s, he] <;> (try simp (disch := omega) only [wI, wU, wC]) <;> exact rfl)) | (apply Wp.condF; (simp only [push_cast, seval, getF (hK s), getF0 (hK s), hwn s, hwl s, he] <;> (try simp (disch := omega) only [wI, wU, wC]) <;> exact rfl)))
    refine Wp.loop (fun (q : Nat × Nat) => { t := [(0, .optr (N + 1) 0 0 0), (1, .optr wn 0 0 0), (2, .optr wl 0 0 0), (3, .optr (N + 3) 0 0 0), (4, .optr N 0 0 0), (5, .optr (N + 4) 0 0 0), (20, .int n), (21, .int q.1)], m := K (fd q.1).1 ++ htail N yid wn wl n h h.length q.2, n := 50 }) (fun q => q.1 ≤ n ∧ (fd q.1).2 = true ∧ G (fd q.1).1) (fun q => n - q.1) (0, vi) ?_ ?_ ?_
    · rw [hf0]
      (refine Le.of ?_ ?_ rfl rfl <;> (try simp only [push_cast, seval, getF (hK s), getF0 (hK s), hwn s, hwl s, he]) <;> (try (with_reducible rfl)))
    · exact ⟨by simp, by rw [hf0], by rw [hf0]; exact hs⟩
    · rintro ⟨j, vj⟩ ⟨hj1, hj2, hj3⟩
      simp only at hj1 hj2 hj3
      have hstj := hst j
      have hstp := hstop (j + 1)
      have hend : j = n → fd n = fd j := fun e => by rw [e]
      rw [if_pos hj2] at hstj
      generalize hR : fd j = R at hstj hj2 hj3 hend
      obtain ⟨sj, bj⟩ := R
      simp only at hstj hj2 hj3
      subst hj2
      repeat (first | apply Wp.seq | apply Wp.block | (apply Run.next; (simp only [push_cast, seval, getF (hK sj), getF0 (hK sj), hwn sj, hwl sj, he, plA_len] <;> (try simp (disch := omega) only [wI, wU, wC]) <;> exact rfl); (focus ((try simp only [push_cast, seval, getF (hK sj), getF0 (hK sj), hwn sj, hwl sj, he, plA_len]) <;> exact sT))) | ((first | apply Run.nil | apply Wp.skip); dsimp only [sQ, tQ, bQ]) | (apply Wp.run; (dsimp only [List.map] <;> exact rfl); exact rfl) | (apply Wp.exit; dsimp only [sQ, tQ, bQ]; simp only [reduceIte]))
      (apply Wp.cond; (simp only [push_cast, seval, getF (hK sj), getF0 (hK sj), hwn sj, hwl sj, he, plA_len] <;> (try simp (disch := omega) only [wI, wU, wC]) <;> exact rfl))
      · intro hc
        simp only [decide_eq_true_eq, Int.ofNat_lt] at hc
        have hpg := plA_get h hc
        have hpb := plcN_bd h (j : Int)
        have hfj := hfz j
        cases hcj : h.contains (j : Int) with
        | true =>
          rw [hcj, if_pos rfl] at hfj
          rw [hfj] at hstj
          have hstj : fd (j + 1) = (sj, true) := hstj
          have e3 : decide (0 ≤ plcN h (j : Int)) = true := decide_eq_true (hpb.2.2.2 hcj)
          repeat (first | apply Wp.seq | apply Wp.block | (apply Run.next; (simp only [push_cast, seval, getF (hK sj), getF0 (hK sj), hwn sj, hwl sj, he, plA_len, hpg, e3] <;> (try simp (disch := omega) only [wI, wU, wC]) <;> exact rfl); (focus ((try simp only [push_cast, seval, getF (hK sj), getF0 (hK sj), hwn sj, hwl sj, he, plA_len, hpg, e3]) <;> exact sT))) | ((first | apply Run.nil | apply Wp.skip); dsimp only [sQ, tQ, bQ]) | (apply Wp.run; (dsimp only [List.map] <;> exact rfl); exact rfl) | (apply Wp.exit; dsimp only [sQ, tQ, bQ]; simp only [reduceIte]) | (apply Run.gtrue; (simp only [push_cast, seval, getF (hK sj), getF0 (hK sj), hwn sj, hwl sj, he, plA_len, hpg, e3] <;> (try simp (disch := omega) only [wI, wU, wC]) <;> exact rfl); (simp only [push_cast, seval, getF (hK sj), getF0 (hK sj), hwn sj, hwl sj, he, plA_len, hpg, e3] <;> (try simp (disch := omega) only [wI, wU, wC]) <;> exact rfl)) | (apply Run.gfalse (.bool false); (simp only [push_cast, seval, getF (hK sj), getF0 (hK sj), hwn sj, hwl sj, he, plA_len, hpg, e3] <;> (try simp (disch := omega) only [wI, wU, wC]) <;> exact rfl); dsimp only [S.put, optG]) | (apply Wp.condT; (simp only [push_cast, seval, getF (hK sj), getF0 (hK sj), hwn sj, hwl sj, he, plA_len, hpg, e3] <;> (try simp (disch := omega) only [wI, wU, wC]) <;> exact rfl)) | (apply Wp.condF; (simp only [push_cast, seval, getF (hK sj), getF0 (hK sj), hwn sj, hwl sj, he, plA_len, hpg, e3] <;> (try simp (disch := omega) only [wI, wU, wC]) <;> exact rfl)))
          refine ⟨(j + 1, vj), ?_, ⟨by simp only; omega, by simp only; rw [hstj], by simp only; rw [hstj]; exact hj3⟩, by simp only; omega⟩
          simp only
          rw [hstj]
          (refine Le.of ?_ ?_ rfl rfl <;> (try simp only [push_cast, seval, getF (hK sj), getF0 (hK sj), hwn sj, hwl sj, he, plA_len, hpg, e3]) <;> (try (with_reducible rfl)))
        | false =>
          rw [hcj, if_neg (by simp)] at hfj
          rw [hfj] at hstj
          have e3 : decide (0 ≤ plcN h (j : Int)) = false := decide_eq_false (fun q => by have := hpb.2.2.1 q; rw [hcj] at this; cases this)
          have hps := plA_set (n := n) hcj
          have hpk := plA_back (n := n) hcj
          have hl1 : (h ++ [(j : Int)]).length = h.length + 1 := by simp
          have htk : (h ++ [(j : Int)]).take h.length = h := by simp
          have hih := fun v => ih (h ++ [(j : Int)]) sj v (by simp; omega) hj3
          rw [← hstj] at hih
          simp only [hl1] at hih
          repeat (first | apply Wp.seq | apply Wp.block | (apply Run.next; (simp only [push_cast, seval, getF (hK sj), getF0 (hK sj), setF (hK sj), setF0 (hK sj), hwn sj, hwl sj, he, plA_len, hpg, e3, hps] <;> (try simp (disch := omega) only [wI, wU, wC]) <;> exact rfl); (focus ((try simp only [push_cast, seval, getF (hK sj), getF0 (hK sj), setF (hK sj), setF0 (hK sj), hwn sj, hwl sj, he, plA_len, hpg, e3, hps]) <;> exact sT))) | ((first | apply Run.nil | apply Wp.skip); dsimp only [sQ, tQ, bQ]) | (apply Wp.run; (dsimp only [List.map] <;> exact rfl); exact rfl) | (apply Wp.exit; dsimp only [sQ, tQ, bQ]; simp only [reduceIte]) | (apply Run.gtrue; (simp only [push_cast, seval, getF (hK sj), getF0 (hK sj), setF (hK sj), setF0 (hK sj), hwn sj, hwl sj, he, plA_len, hpg, e3, hps] <;> (try simp (disch := omega) only [wI, wU, wC]) <;> exact rfl); (simp only [push_cast, seval, getF (hK sj), getF0 (hK sj), setF (hK sj), setF0 (hK sj), hwn sj, hwl sj, he, plA_len, hpg, e3, hps] <;> (try simp (disch := omega) only [wI, wU, wC]) <;> exact rfl)) | (apply Run.gfalse (.bool false); (simp only [push_cast, seval, getF (hK sj), getF0 (hK sj), setF (hK sj), setF0 (hK sj), hwn sj, hwl sj, he, plA_len, hpg, e3, hps] <;> (try simp (disch := omega) only [wI, wU, wC]) <;> exact rfl); dsimp only [S.put, optG]) | (apply Wp.condT; (simp only [push_cast, seval, getF (hK sj), getF0 (hK sj), setF (hK sj), setF0 (hK sj), hwn sj, hwl sj, he, plA_len, hpg, e3, hps] <;> (try simp (disch := omega) only [wI, wU, wC]) <;> exact rfl)) | (apply Wp.condF; (simp only [push_cast, seval, getF (hK sj), getF0 (hK sj), setF (hK sj), setF0 (hK sj), hwn sj, hwl sj, he, plA_len, hpg, e3, hps] <;> (try simp (disch := omega) only [wI, wU, wC]) <;> exact rfl)))
          apply Run.spec (he := Enters.of Try.func48 rfl rfl) (hc := hih (vj + 1))
          focus exact rfl
          focus (simp only [push_cast, seval, getF (hK sj), getF0 (hK sj), setF (hK sj), setF0 (hK sj), hwn sj, hwl sj, he, plA_len, hpg, e3, hps] <;> exact rfl)
          focus (simp only [push_cast, seval, getF (hK sj), getF0 (hK sj), setF (hK sj), setF0 (hK sj), hwn sj, hwl sj, he, plA_len, hpg, e3, hps] <;> (try simp (disch := omega) only [wI, wU, wC]) <;> exact rfl)
          generalize hR2 : fd (j + 1) = R at hstj hstp ⊢
          obtain ⟨s2, b2⟩ := R
          rintro x m' (⟨hb2, rfl, hg2, v2, rfl⟩ | ⟨hb2, rfl, T, hT, rfl⟩)
          · simp only at hb2 hg2 ⊢
            subst hb2
            simp only [hl1]
            dsimp only [S.put, optG]
            (apply Run.next; (simp only [push_cast, seval, getF (hK s2), getF0 (hK s2), setF (hK s2), setF0 (hK s2), hwn s2, hwl s2, he, plA_len, hl1, Int.add_sub_cancel, Nat.sub_zero] <;> (try simp (disch := omega) only [wI, wU, wC]) <;> exact rfl); (focus ((try simp only [push_cast, seval, getF (hK s2), getF0 (hK s2), setF (hK s2), setF0 (hK s2), hwn s2, hwl s2, he, plA_len, hl1, Int.add_sub_cancel, Nat.sub_zero]) <;> exact sT)))
            (apply Run.nil; dsimp only [sQ, tQ, bQ])
            (apply Wp.condF; (simp only [push_cast, seval, getF (hK s2), getF0 (hK s2), setF (hK s2), setF0 (hK s2), hwn s2, hwl s2, he, plA_len, hl1, Int.add_sub_cancel, Nat.sub_zero] <;> (try simp (disch := omega) only [wI, wU, wC]) <;> exact rfl))
            (apply Wp.skip; dsimp only [sQ, tQ, bQ])
            repeat (first | apply Wp.seq | apply Wp.block)
            (apply Wp.run; (dsimp only [List.map] <;> exact rfl); exact rfl)
            iterate 6 (apply Run.next; (simp only [push_cast, seval, getF (hK s2), getF0 (hK s2), setF (hK s2), setF0 (hK s2), hwn s2, hwl s2, he, plA_len, hl1, Int.add_sub_cancel, Nat.sub_zero] <;> (try simp (disch := omega) only [wI, wU, wC]) <;> exact rfl); (focus ((try simp only [push_cast, seval, getF (hK s2), getF0 (hK s2), setF (hK s2), setF0 (hK s2), hwn s2, hwl s2, he, plA_len, hl1, Int.add_sub_cancel, Nat.sub_zero]) <;> exact sT)))
            (apply Run.nil; dsimp only [sQ, tQ, bQ])
            (apply Wp.trim (N + 5) ( h.length); (simp only [push_cast, seval, getF (hK s2), getF0 (hK s2), setF (hK s2), setF0 (hK s2), hwn s2, hwl s2, he, plA_len, hl1, Int.add_sub_cancel, Nat.sub_zero] <;> (try simp (disch := omega) only [wI, wU, wC]) <;> exact rfl); (try simp only [push_cast, seval, getF (hK s2), getF0 (hK s2), setF (hK s2), setF0 (hK s2), hwn s2, hwl s2, he, plA_len, hl1, Int.add_sub_cancel, Nat.sub_zero]))
            repeat (first | apply Wp.seq | apply Wp.block | (apply Run.next; (simp only [push_cast, seval, getF (hK s2), getF0 (hK s2), setF (hK s2), setF0 (hK s2), hwn s2, hwl s2, he, plA_len, hl1, ← List.map_take, htk, hpk] <;> (try simp (disch := omega) only [wI, wU, wC]) <;> exact rfl); (focus ((try simp only [push_cast, seval, getF (hK s2), getF0 (hK s2), setF (hK s2), setF0 (hK s2), hwn s2, hwl s2, he, plA_len, hl1, ← List.map_take, htk, hpk]) <;> exact sT))) | ((first | apply Run.nil | apply Wp.skip); dsimp only [sQ, tQ, bQ]) | (apply Wp.run; (dsimp only [List.map] <;> exact rfl); exact rfl) | (apply Wp.exit; dsimp only [sQ, tQ, bQ]; simp only [reduceIte]) | (apply Run.gtrue; (simp only [push_cast, seval, getF (hK s2), getF0 (hK s2), setF (hK s2), setF0 (hK s2), hwn s2, hwl s2, he, plA_len, hl1, ← List.map_take, htk, hpk] <;> (try simp (disch := omega) only [wI, wU, wC]) <;> exact rfl); (simp only [push_cast, seval, getF (hK s2), getF0 (hK s2), setF (hK s2), setF0 (hK s2), hwn s2, hwl s2, he, plA_len, hl1, ← List.map_take, htk, hpk] <;> (try simp (disch := omega) only [wI, wU, wC]) <;> exact rfl)) | (apply Run.gfalse (.bool false); (simp only [push_cast, seval, getF (hK s2), getF0 (hK s2), setF (hK s2), setF0 (hK s2), hwn s2, hwl s2, he, plA_len, hl1, ← List.map_take, htk, hpk] <;> (try simp (disch := omega) only [wI, wU, wC]) <;> exact rfl); dsimp only [S.put, optG]) | (apply Wp.condT; (simp only [push_cast, seval, getF (hK s2), getF0 (hK s2), setF (hK s2), setF0 (hK s2), hwn s2, hwl s2, he, plA_len, hl1, ← List.map_take, htk, hpk] <;> (try simp (disch := omega) only [wI, wU, wC]) <;> exact rfl)) | (apply Wp.condF; (simp only [push_cast, seval, getF (hK s2), getF0 (hK s2), setF (hK s2), setF0 (hK s2), hwn s2, hwl s2, he, plA_len, hl1, ← List.map_take, htk, hpk] <;> (try simp (disch := omega) only [wI, wU, wC]) <;> exact rfl)))
            refine ⟨(j + 1, v2), ?_, ⟨by simp only; omega, by simp only; rw [hR2], by simp only; rw [hR2]; exact hg2⟩, by simp only; omega⟩
            simp only
            rw [hR2]
            (refine Le.of ?_ ?_ rfl rfl <;> (try simp only [push_cast, seval, getF (hK s2), getF0 (hK s2), setF (hK s2), setF0 (hK s2), hwn s2, hwl s2, he, plA_len, hl1, ← List.map_take, htk, hpk]) <;> (try (with_reducible rfl)))
            all_goals rfl
          · simp only at hb2 ⊢
            subst hb2
            dsimp only [S.put, optG]
            repeat (first | apply Wp.seq | apply Wp.block | (apply Run.next; (simp only [push_cast, seval, getF (hK s2), getF0 (hK s2), setF (hK s2), setF0 (hK s2), hwn s2, hwl s2, he, plA_len, hl1, ← List.map_take, htk, hpk] <;> (try simp (disch := omega) only [wI, wU, wC]) <;> exact rfl); (focus ((try simp only [push_cast, seval, getF (hK s2), getF0 (hK s2), setF (hK s2), setF0 (hK s2), hwn s2, hwl s2, he, plA_len, hl1, ← List.map_take, htk, hpk]) <;> exact sT))) | ((first | apply Run.nil | apply Wp.skip); dsimp only [sQ, tQ, bQ]) | (apply Wp.run; (dsimp only [List.map] <;> exact rfl); exact rfl) | (apply Wp.exit; dsimp only [sQ, tQ, bQ]; simp only [reduceIte]) | (apply Run.gtrue; (simp only [push_cast, seval, getF (hK s2), getF0 (hK s2), setF (hK s2), setF0 (hK s2), hwn s2, hwl s2, he, plA_len, hl1, ← List.map_take, htk, hpk] <;> (try simp (disch := omega) only [wI, wU, wC]) <;> exact rfl); (simp only [push_cast, seval, getF (hK s2), getF0 (hK s2), setF (hK s2), setF0 (hK s2), hwn s2, hwl s2, he, plA_len, hl1, ← List.map_take, htk, hpk] <;> (try simp (disch := omega) only [wI, wU, wC]) <;> exact rfl)) | (apply Run.gfalse (.bool false); (simp only [push_cast, seval, getF (hK s2), getF0 (hK s2), setF (hK s2), setF0 (hK s2), hwn s2, hwl s2, he, plA_len, hl1, ← List.map_take, htk, hpk] <;> (try simp (disch := omega) only [wI, wU, wC]) <;> exact rfl); dsimp only [S.put, optG]) | (apply Wp.condT; (simp only [push_cast, seval, getF (hK s2), getF0 (hK s2), setF (hK s2), setF0 (hK s2), hwn s2, hwl s2, he, plA_len, hl1, ← List.map_take, htk, hpk] <;> (try simp (disch := omega) only [wI, wU, wC]) <;> exact rfl)) | (apply Wp.condF; (simp only [push_cast, seval, getF (hK s2), getF0 (hK s2), setF (hK s2), setF0 (hK s2), hwn s2, hwl s2, he, plA_len, hl1, ← List.map_take, htk, hpk] <;> (try simp (disch := omega) only [wI, wU, wC]) <;> exact rfl)))
            (apply Wp.ret; (try dsimp only [sQ, tQ, bQ]); apply leaveA; exact rfl; (simp only [push_cast, seval, getF (hK s2), getF0 (hK s2), setF (hK s2), setF0 (hK s2), hwn s2, hwl s2, he, plA_len, hl1, ← List.map_take, htk, hpk] <;> (try simp (disch := omega) only [wI, wU, wC]) <;> exact rfl); (focus (first | (simp only [push_cast, seval, getF (hK s2), getF0 (hK s2), setF (hK s2), setF0 (hK s2), hwn s2, hwl s2, he, plA_len, hl1, ← List.map_take, htk, hpk]; done) | trivial | (simp only [push_cast, seval, getF (hK s2), getF0 (hK s2), setF (hK s2), setF0 (hK s2), hwn s2, hwl s2, he, plA_len, hl1, ← List.map_take, htk, hpk]; trivial) | (simp; done))); (try simp only [push_cast, seval, getF (hK s2), getF0 (hK s2), setF (hK s2), setF0 (hK s2), hwn s2, hwl s2, he, plA_len, hl1, ← List.map_take, htk, hpk]))
            rw [hstp (by omega) rfl]
            exact .inr ⟨rfl, rfl, T, hT, rfl⟩
      · intro hc
        simp only [decide_eq_false_iff_not, Int.ofNat_lt] at hc
        rw [hend (by omega)]
        repeat (first | apply Wp.seq | apply Wp.block | (apply Run.next; (simp only [push_cast, seval, getF (hK sj), getF0 (hK sj), hwn sj, hwl sj] <;> (try simp (disch := omega) only [wI, wU, wC]) <;> exact rfl); (focus ((try simp only [push_cast, seval, getF (hK sj), getF0 (hK sj), hwn sj, hwl sj]) <;> exact sT))) | ((first | apply Run.nil | apply Wp.skip); dsimp only [sQ, tQ, bQ]) | (apply Wp.run; (dsimp only [List.map] <;> exact rfl); exact rfl) | (apply Wp.exit; dsimp only [sQ, tQ, bQ]; simp only [reduceIte]) | (apply Run.gtrue; (simp only [push_cast, seval, getF (hK sj), getF0 (hK sj), hwn sj, hwl sj] <;> (try simp (disch := omega) only [wI, wU, wC]) <;> exact rfl); (simp only [push_cast, seval, getF (hK sj), getF0 (hK sj), hwn sj, hwl sj] <;> (try simp (disch := omega) only [wI, wU, wC]) <;> exact rfl)) | (apply Run.gfalse (.bool false); (simp only [push_cast, seval, getF (hK sj), getF0 (hK sj), hwn sj, hwl sj] <;> (try simp (disch := omega) only [wI, wU, wC]) <;> exact rfl); dsimp only [S.put, optG]) | (apply Wp.condT; (simp only [push_cast, seval, getF (hK sj), getF0 (hK sj), hwn sj, hwl sj] <;> (try simp (disch := omega) only [wI, wU, wC]) <;> exact rfl)) | (apply Wp.condF; (simp only [push_cast, seval, getF (hK sj), getF0 (hK sj), hwn sj, hwl sj] <;> (try simp (disch := omega) only [wI, wU, wC]) <;> exact rfl)))
        (apply Wp.ret; (try dsimp only [sQ, tQ, bQ]); apply leaveA; exact rfl; (simp only [push_cast, seval, getF (hK sj), getF0 (hK sj), hwn sj, hwl sj] <;> (try simp (disch := omega) only [wI, wU, wC]) <;> exact rfl); (focus (first | (simp only [push_cast, seval, getF (hK sj), getF0 (hK sj), hwn sj, hwl sj]; done) | trivial | (simp only [push_cast, seval, getF (hK sj), getF0 (hK sj), hwn sj, hwl sj]; trivial) | (simp; done))); (try simp only [push_cast, seval, getF (hK sj), getF0 (hK sj), hwn sj, hwl sj]))
        exact .inl ⟨rfl, rfl, hj3, vj, rfl⟩
end
end Go.Proofs.Try
