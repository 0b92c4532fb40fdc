/- A part of the proof of TopLent: contracts of functions, with plain laws that they need. -/
import Derived.Test.YtlcekedcjdamoaaVgT
import Derived.Test.YtlcekedcjdamoaaVgDm
import Derived.Test.YtlcekedcjdamoaaVgFv
import Derived.Test.YtlcekedcjdamoaaVgVw
import Derived.Test.YtlcekedcjdamoaaVgA
import Derived.Test.YtlcekedcjdamoaaVgT2J
set_option linter.all false
set_option maxHeartbeats 8000000
namespace Go.Proofs.Try
open Go.Vg

def stB (x : St) : Bool := wi x.items 0 8 && wi x.life 1 100
def lnB (n : Int) (x : Ln) : Bool := wi x.kind 0 (n - 1) && wi x.room 0 100 && wi x.to 1 1440 && wi x.fr 0 (IntKind.i64.wrap (x.to - 1)) && wi x.uses 0 100
def checkB (ks : List St) (ls : List Ln) : Bool := decide (ks.length ≤ 8) && decide (ls.length ≤ 20) && ks.all stB && ls.all (lnB ks.length)
def chkE (ks : List St) (ls : List Ln) : Int := if checkB ks ls then 0 else 100
theorem check1_pure (x : St) : Pure Try.prog 51 [stA x] (.bool (!stB x)) := by
  (refine Spec.of_body Try.func51 rfl (by rw [Try.ntmps51]; simp) 0 (by simp) ?_; rw [Try.results51, Try.ntmps51]; simp only [entry, zipArgs, Nat.reduceAdd])
  repeat (first | apply Wp.seq | apply Wp.block | (apply Run.next; (simp only [push_cast, seval] <;> (try simp (disch := omega) only [wI, wU, wC]) <;> exact rfl); (focus ((try simp only [push_cast, seval]) <;> exact sT))) | ((first | apply Run.nil | apply Wp.skip); dsimp only [sQ, tQ, bQ]) | (apply Wp.run; (dsimp only [List.map] <;> exact rfl); exact rfl) | (apply Wp.exit; dsimp only [sQ, tQ, bQ]; simp only [reduceIte]))
  (apply Run.pureP; (simp only [push_cast, seval] <;> (try simp (disch := omega) only [wI, wU, wC]) <;> exact rfl); (exact (Enters.of Try.func52 rfl rfl)); (exact within_pure _ _ _); (focus (simp only [push_cast, seval] <;> first | trivial | assumption | (refine ⟨?_, ?_⟩ <;> assumption) | (simp; done))); (try dsimp only [putA, optG]))
  repeat (first | apply Wp.seq | apply Wp.block | (apply Run.next; (simp only [push_cast, seval] <;> (try simp (disch := omega) only [wI, wU, wC]) <;> exact rfl); (focus ((try simp only [push_cast, seval]) <;> exact sT))) | ((first | apply Run.nil | apply Wp.skip); dsimp only [sQ, tQ, bQ]) | (apply Wp.run; (dsimp only [List.map] <;> exact rfl); exact rfl) | (apply Wp.exit; dsimp only [sQ, tQ, bQ]; simp only [reduceIte]))
  cases h : wi x.items 0 8 with
  | false =>
    repeat (first | apply Wp.seq | apply Wp.block | (apply Run.next; (simp only [push_cast, seval, h] <;> (try simp (disch := omega) only [wI, wU, wC]) <;> exact rfl); (focus ((try simp only [push_cast, seval, h]) <;> exact sT))) | ((first | apply Run.nil | apply Wp.skip); dsimp only [sQ, tQ, bQ]) | (apply Wp.run; (dsimp only [List.map] <;> exact rfl); exact rfl) | (apply Wp.exit; dsimp only [sQ, tQ, bQ]; simp only [reduceIte]) | (apply Run.gtrue; (simp only [push_cast, seval, h] <;> (try simp (disch := omega) only [wI, wU, wC]) <;> exact rfl); (simp only [push_cast, seval, h] <;> (try simp (disch := omega) only [wI, wU, wC]) <;> exact rfl)) | (apply Run.gfalse (.bool false); (simp only [push_cast, seval, h] <;> (try simp (disch := omega) only [wI, wU, wC]) <;> exact rfl); dsimp only [S.put, optG]) | (apply Wp.condT; (simp only [push_cast, seval, h] <;> (try simp (disch := omega) only [wI, wU, wC]) <;> exact rfl)) | (apply Wp.condF; (simp only [push_cast, seval, h] <;> (try simp (disch := omega) only [wI, wU, wC]) <;> exact rfl)))
    (apply Wp.ret; (try dsimp only [sQ, tQ, bQ]); apply leave0; exact rfl; (simp only [push_cast, seval, h] <;> (try simp (disch := omega) only [wI, wU, wC]) <;> exact rfl); all_goals (try simp only [push_cast, seval, h]); (try rfl))
    simp [stB, h]
  | true =>
    repeat (first | apply Wp.seq | apply Wp.block | (apply Run.next; (simp only [push_cast, seval, h] <;> (try simp (disch := omega) only [wI, wU, wC]) <;> exact rfl); (focus ((try simp only [push_cast, seval, h]) <;> exact sT))) | ((first | apply Run.nil | apply Wp.skip); dsimp only [sQ, tQ, bQ]) | (apply Wp.run; (dsimp only [List.map] <;> exact rfl); exact rfl) | (apply Wp.exit; dsimp only [sQ, tQ, bQ]; simp only [reduceIte]) | (apply Run.gtrue; (simp only [push_cast, seval, h] <;> (try simp (disch := omega) only [wI, wU, wC]) <;> exact rfl); (simp only [push_cast, seval, h] <;> (try simp (disch := omega) only [wI, wU, wC]) <;> exact rfl)) | (apply Run.gfalse (.bool false); (simp only [push_cast, seval, h] <;> (try simp (disch := omega) only [wI, wU, wC]) <;> exact rfl); dsimp only [S.put, optG]) | (apply Wp.condT; (simp only [push_cast, seval, h] <;> (try simp (disch := omega) only [wI, wU, wC]) <;> exact rfl)) | (apply Wp.condF; (simp only [push_cast, seval, h] <;> (try simp (disch := omega) only [wI, wU, wC]) <;> exact rfl)))
    (apply Run.pureP; (simp only [push_cast, seval, h] <;> (try simp (disch := omega) only [wI, wU, wC]) <;> exact rfl); (exact (Enters.of Try.func52 rfl rfl)); (exact within_pure _ _ _); (focus (simp only [push_cast, seval, h] <;> first | trivial | assumption | (refine ⟨?_, ?_⟩ <;> assumption) | (simp; done))); (try dsimp only [putA, optG]))
    repeat (first | apply Wp.seq | apply Wp.block | (apply Run.next; (simp only [push_cast, seval, h] <;> (try simp (disch := omega) only [wI, wU, wC]) <;> exact rfl); (focus ((try simp only [push_cast, seval, h]) <;> exact sT))) | ((first | apply Run.nil | apply Wp.skip); dsimp only [sQ, tQ, bQ]) | (apply Wp.run; (dsimp only [List.map] <;> exact rfl); exact rfl) | (apply Wp.exit; dsimp only [sQ, tQ, bQ]; simp only [reduceIte]))
    (apply Wp.ret; (try dsimp only [sQ, tQ, bQ]); apply leave0; exact rfl; (simp only [push_cast, seval, h] <;> (try simp (disch := omega) only [wI, wU, wC]) <;> exact rfl); all_goals (try simp only [push_cast, seval, h]); (try rfl))
    simp [stB, h]
theorem all_at {α : Type} {d : α} {p : α → Bool} {l : List α} (h : ∀ j, j < l.length → p (l.getD j d) = true) : l.all p = true := by
  rw [List.all_eq_true]
  intro x hx
  obtain ⟨i, hi, rfl⟩ := List.getElem_of_mem hx
  simpa [hi] using h i hi
theorem all_no {α : Type} {d : α} {p : α → Bool} {l : List α} {k : Nat} (hk : k < l.length) (h : p (l.getD k d) = false) : l.all p = false := by
  rw [← Bool.not_eq_true, List.all_eq_true]
  intro h2
  have := h2 (l.getD k d) (by simp [hk])
  rw [h] at this; cases this
theorem any_not {α : Type} (p : α → Bool) (l : List α) : (l.any fun x => !p x) = !l.all p := by
  induction l with
  | nil => rfl
  | cons a l ih => simp [ih, Bool.not_and]
theorem check_pure (ks : List St) (ls : List Ln) (hk : ks.length ≤ 9223372036854775807) (hl : ls.length ≤ 9223372036854775807) : Pure Try.prog 24 [storA ks ls] (.int (chkE ks ls)) := by
  (refine Spec.of_body Try.func24 rfl (by rw [Try.ntmps24]; simp) 0 (by simp) ?_; rw [Try.results24, Try.ntmps24]; simp only [entry, zipArgs, Nat.reduceAdd])
  repeat (first | apply Wp.seq | apply Wp.block | (apply Run.next; (simp only [push_cast, seval] <;> (try simp (disch := omega) only [wI, wU, wC]) <;> exact rfl); (focus ((try simp only [push_cast, seval]) <;> exact sT))) | ((first | apply Run.nil | apply Wp.skip); dsimp only [sQ, tQ, bQ]) | (apply Wp.run; (dsimp only [List.map] <;> exact rfl); exact rfl) | (apply Wp.exit; dsimp only [sQ, tQ, bQ]; simp only [reduceIte]))
  (apply Wp.cond; (simp only [push_cast, seval] <;> (try simp (disch := omega) only [wI, wU, wC]) <;> exact rfl))
  · intro hc
    simp only [Bool.or_eq_true, decide_eq_true_eq] at hc
    repeat (first | apply Wp.seq | apply Wp.block | (apply Run.next; (simp only [push_cast, seval] <;> (try simp (disch := omega) only [wI, wU, wC]) <;> exact rfl); (focus ((try simp only [push_cast, seval]) <;> exact sT))) | ((first | apply Run.nil | apply Wp.skip); dsimp only [sQ, tQ, bQ]) | (apply Wp.run; (dsimp only [List.map] <;> exact rfl); exact rfl) | (apply Wp.exit; dsimp only [sQ, tQ, bQ]; simp only [reduceIte]))
    (apply Wp.ret; (try dsimp only [sQ, tQ, bQ]); apply leave0; exact rfl; (simp only [push_cast, seval] <;> (try simp (disch := omega) only [wI, wU, wC]) <;> exact rfl); all_goals (try simp only [push_cast, seval]); (try rfl))
    rw [chkE, if_neg]
    simp only [checkB, Bool.and_eq_true, decide_eq_true_eq]
    omega
  · intro hc
    simp only [Bool.or_eq_false_iff, decide_eq_false_iff_not, Int.not_lt] at hc
    repeat (first | apply Wp.seq | apply Wp.block | (apply Run.next; (simp only [push_cast, seval] <;> (try simp (disch := omega) only [wI, wU, wC]) <;> exact rfl); (focus ((try simp only [push_cast, seval]) <;> exact sT))) | ((first | apply Run.nil | apply Wp.skip); dsimp only [sQ, tQ, bQ]) | (apply Wp.run; (dsimp only [List.map] <;> exact rfl); exact rfl) | (apply Wp.exit; dsimp only [sQ, tQ, bQ]; simp only [reduceIte]))
    (apply Run.pureP; (simp only [push_cast, seval] <;> (try simp (disch := omega) only [wI, wU, wC]) <;> exact rfl); (exact (Enters.of Try.func50 rfl rfl)); (exact containsFuncSt ks 51 [] (fun x => !stB x) (Enters.of Try.func51 rfl rfl) trivial (fun _ => ⟨rfl, rfl⟩) (fun x _ => check1_pure x) hk); (focus (simp only [push_cast, seval] <;> first | trivial | assumption | (refine ⟨?_, ?_⟩ <;> assumption) | (simp; done))); (try dsimp only [putA, optG]))
    rw [any_not]
    repeat (first | apply Wp.seq | apply Wp.block | (apply Run.next; (simp only [push_cast, seval] <;> (try simp (disch := omega) only [wI, wU, wC]) <;> exact rfl); (focus ((try simp only [push_cast, seval]) <;> exact sT))) | ((first | apply Run.nil | apply Wp.skip); dsimp only [sQ, tQ, bQ]) | (apply Wp.run; (dsimp only [List.map] <;> exact rfl); exact rfl) | (apply Wp.exit; dsimp only [sQ, tQ, bQ]; simp only [reduceIte]))
    cases hs : ks.all stB with
    | false =>
      repeat (first | apply Wp.seq | apply Wp.block | (apply Run.next; (simp only [push_cast, seval, hs] <;> (try simp (disch := omega) only [wI, wU, wC]) <;> exact rfl); (focus ((try simp only [push_cast, seval, hs]) <;> exact sT))) | ((first | apply Run.nil | apply Wp.skip); dsimp only [sQ, tQ, bQ]) | (apply Wp.run; (dsimp only [List.map] <;> exact rfl); exact rfl) | (apply Wp.exit; dsimp only [sQ, tQ, bQ]; simp only [reduceIte]) | (apply Run.gtrue; (simp only [push_cast, seval, hs] <;> (try simp (disch := omega) only [wI, wU, wC]) <;> exact rfl); (simp only [push_cast, seval, hs] <;> (try simp (disch := omega) only [wI, wU, wC]) <;> exact rfl)) | (apply Run.gfalse (.bool false); (simp only [push_cast, seval, hs] <;> (try simp (disch := omega) only [wI, wU, wC]) <;> exact rfl); dsimp only [S.put, optG]) | (apply Wp.condT; (simp only [push_cast, seval, hs] <;> (try simp (disch := omega) only [wI, wU, wC]) <;> exact rfl)) | (apply Wp.condF; (simp only [push_cast, seval, hs] <;> (try simp (disch := omega) only [wI, wU, wC]) <;> exact rfl)))
      (apply Wp.ret; (try dsimp only [sQ, tQ, bQ]); apply leave0; exact rfl; (simp only [push_cast, seval, hs] <;> (try simp (disch := omega) only [wI, wU, wC]) <;> exact rfl); all_goals (try simp only [push_cast, seval, hs]); (try rfl))
      simp [chkE, checkB, hs]
    | true =>
      repeat (first | apply Wp.seq | apply Wp.block | (apply Run.next; (simp only [push_cast, seval, hs] <;> (try simp (disch := omega) only [wI, wU, wC]) <;> exact rfl); (focus ((try simp only [push_cast, seval, hs]) <;> exact sT))) | ((first | apply Run.nil | apply Wp.skip); dsimp only [sQ, tQ, bQ]) | (apply Wp.run; (dsimp only [List.map] <;> exact rfl); exact rfl) | (apply Wp.exit; dsimp only [sQ, tQ, bQ]; simp only [reduceIte]) | (apply Run.gtrue; (simp only [push_cast, seval, hs] <;> (try simp (disch := omega) only [wI, wU, wC]) <;> exact rfl); (simp only [push_cast, seval, hs] <;> (try simp (disch := omega) only [wI, wU, wC]) <;> exact rfl)) | (apply Run.gfalse (.bool false); (simp only [push_cast, seval, hs] <;> (try simp (disch := omega) only [wI, wU, wC]) <;> exact rfl); dsimp only [S.put, optG]) | (apply Wp.condT; (simp only [push_cast, seval, hs] <;> (try simp (disch := omega) only [wI, wU, wC]) <;> exact rfl)) | (apply Wp.condF; (simp only [push_cast, seval, hs] <;> (try simp (disch := omega) only [wI, wU, wC]) <;> exact rfl)))
      (refine Wp.vacs 1 ?_; (try simp only [List.replicate_succ, List.replicate_zero, List.cons_append, List.nil_append]))
      refine Wp.loop (fun (q : Nat × Kind) => { t := [(1, .optr 0 0 0 0), (19, .lst 5 (ls.map lnA)), (20, .int ls.length), (21, .int q.1)], m := [⟨0, .row 2 [storA ks ls]⟩, ⟨q.1, q.2⟩], n := 61 }) (fun q => q.1 ≤ ls.length ∧ ∀ j, j < q.1 → lnB ks.length (ls.getD j ln0) = true) (fun q => ls.length - q.1) (0, .row 1 []) ?_ ?_ ?_
      · (refine Le.of ?_ ?_ rfl rfl <;> (try simp only [push_cast, seval, hs]) <;> (try (with_reducible rfl)))
      · simp
      · rintro ⟨k, kd⟩ ⟨hk1, hk2⟩
        repeat (first | apply Wp.seq | apply Wp.block | (apply Run.calm; exact rfl; (simp only [push_cast, seval, hs] <;> (try simp (disch := omega) only [wI, wU, wC]) <;> exact rfl); (focus ((try simp only [push_cast, seval, hs]) <;> exact sT))) | ((first | apply Run.nil | apply Wp.skip); dsimp only [sQ, tQ, bQ]) | (apply Wp.run; (dsimp only [List.map] <;> exact rfl); exact rfl) | (apply Wp.exit; dsimp only [sQ, tQ, bQ]; simp only [reduceIte]))
        (apply Wp.cond; (simp only [push_cast, seval, hs] <;> (try simp (disch := omega) only [wI, wU, wC]) <;> exact rfl))
        · (intro hc; try simp only [decide_eq_true_eq, decide_eq_false_iff_not, Bool.and_eq_true, Bool.or_eq_true, Bool.not_eq_true, Bool.not_eq_false, Bool.not_eq_true', Bool.not_eq_false', Bool.and_eq_false_iff, Bool.or_eq_false_iff, Int.not_lt, Int.not_le, Int.ofNat_lt, Int.ofNat_le] at hc)
          generalize hx : ls.getD k ln0 = x
          repeat (first | apply Wp.seq | apply Wp.block | (apply Run.calm; exact rfl; (simp only [push_cast, seval, hs, hx] <;> (try simp (disch := omega) only [wI, wU, wC]) <;> exact rfl); (focus ((try simp only [push_cast, seval, hs, hx]) <;> exact sT))) | ((first | apply Run.nil | apply Wp.skip); dsimp only [sQ, tQ, bQ]) | (apply Wp.run; (dsimp only [List.map] <;> exact rfl); exact rfl) | (apply Wp.exit; dsimp only [sQ, tQ, bQ]; simp only [reduceIte]))
          (apply Run.alcAt 1; (simp only [push_cast, seval, hs, hx] <;> (try simp (disch := omega) only [wI, wU, wC]) <;> exact rfl); (focus ((try simp only [push_cast, seval, hs, hx]) <;> exact sT)); exact rfl; (try simp only [push_cast, seval, hs, hx]))
          repeat (first | apply Wp.seq | apply Wp.block | (apply Run.next; (simp only [push_cast, seval, hs, hx] <;> (try simp (disch := omega) only [wI, wU, wC]) <;> exact rfl); (focus ((try simp only [push_cast, seval, hs, hx]) <;> exact sT))) | ((first | apply Run.nil | apply Wp.skip); dsimp only [sQ, tQ, bQ]) | (apply Wp.run; (dsimp only [List.map] <;> exact rfl); exact rfl) | (apply Wp.exit; dsimp only [sQ, tQ, bQ]; simp only [reduceIte]))
          (apply Run.pureP; (simp only [push_cast, seval, hs, hx] <;> (try simp (disch := omega) only [wI, wU, wC]) <;> exact rfl); (exact (Enters.of Try.func52 rfl rfl)); (exact within_pure _ _ _); (focus (simp only [push_cast, seval, hs, hx] <;> first | trivial | assumption | (refine ⟨?_, ?_⟩ <;> assumption) | (simp; done))); (try dsimp only [putA, optG]))
          repeat (first | apply Wp.seq | apply Wp.block | (apply Run.next; (simp only [push_cast, seval, hs, hx] <;> (try simp (disch := omega) only [wI, wU, wC]) <;> exact rfl); (focus ((try simp only [push_cast, seval, hs, hx]) <;> exact sT))) | ((first | apply Run.nil | apply Wp.skip); dsimp only [sQ, tQ, bQ]) | (apply Wp.run; (dsimp only [List.map] <;> exact rfl); exact rfl) | (apply Wp.exit; dsimp only [sQ, tQ, bQ]; simp only [reduceIte]))
          (apply Run.pureP; (simp only [push_cast, seval, hs, hx] <;> (try simp (disch := omega) only [wI, wU, wC]) <;> exact rfl); (exact (Enters.of Try.func52 rfl rfl)); (exact within_pure _ _ _); (focus (simp only [push_cast, seval, hs, hx] <;> first | trivial | assumption | (refine ⟨?_, ?_⟩ <;> assumption) | (simp; done))); (try dsimp only [putA, optG]))
          repeat (first | apply Wp.seq | apply Wp.block | (apply Run.next; (simp only [push_cast, seval, hs, hx] <;> (try simp (disch := omega) only [wI, wU, wC]) <;> exact rfl); (focus ((try simp only [push_cast, seval, hs, hx]) <;> exact sT))) | ((first | apply Run.nil | apply Wp.skip); dsimp only [sQ, tQ, bQ]) | (apply Wp.run; (dsimp only [List.map] <;> exact rfl); exact rfl) | (apply Wp.exit; dsimp only [sQ, tQ, bQ]; simp only [reduceIte]))
          (apply Run.pureP; (simp only [push_cast, seval, hs, hx] <;> (try simp (disch := omega) only [wI, wU, wC]) <;> exact rfl); (exact (Enters.of Try.func52 rfl rfl)); (exact within_pure _ _ _); (focus (simp only [push_cast, seval, hs, hx] <;> first | trivial | assumption | (refine ⟨?_, ?_⟩ <;> assumption) | (simp; done))); (try dsimp only [putA, optG]))
          repeat (first | apply Wp.seq | apply Wp.block | (apply Run.next; (simp only [push_cast, seval, hs, hx] <;> (try simp (disch := omega) only [wI, wU, wC]) <;> exact rfl); (focus ((try simp only [push_cast, seval, hs, hx]) <;> exact sT))) | ((first | apply Run.nil | apply Wp.skip); dsimp only [sQ, tQ, bQ]) | (apply Wp.run; (dsimp only [List.map] <;> exact rfl); exact rfl) | (apply Wp.exit; dsimp only [sQ, tQ, bQ]; simp only [reduceIte]))
          (apply Run.pureP; (simp only [push_cast, seval, hs, hx] <;> (try simp (disch := omega) only [wI, wU, wC]) <;> exact rfl); (exact (Enters.of Try.func52 rfl rfl)); (exact within_pure _ _ _); (focus (simp only [push_cast, seval, hs, hx] <;> first | trivial | assumption | (refine ⟨?_, ?_⟩ <;> assumption) | (simp; done))); (try dsimp only [putA, optG]))
          repeat (first | apply Wp.seq | apply Wp.block | (apply Run.next; (simp only [push_cast, seval, hs, hx] <;> (try simp (disch := omega) only [wI, wU, wC]) <;> exact rfl); (focus ((try simp only [push_cast, seval, hs, hx]) <;> exact sT))) | ((first | apply Run.nil | apply Wp.skip); dsimp only [sQ, tQ, bQ]) | (apply Wp.run; (dsimp only [List.map] <;> exact rfl); exact rfl) | (apply Wp.exit; dsimp only [sQ, tQ, bQ]; simp only [reduceIte]))
          (apply Run.pureP; (simp only [push_cast, seval, hs, hx] <;> (try simp (disch := omega) only [wI, wU, wC]) <;> exact rfl); (exact (Enters.of Try.func52 rfl rfl)); (exact within_pure _ _ _); (focus (simp only [push_cast, seval, hs, hx] <;> first | trivial | assumption | (refine ⟨?_, ?_⟩ <;> assumption) | (simp; done))); (try dsimp only [putA, optG]))
          repeat (first | apply Wp.seq | apply Wp.block | (apply Run.next; (simp only [push_cast, seval, hs, hx] <;> (try simp (disch := omega) only [wI, wU, wC]) <;> exact rfl); (focus ((try simp only [push_cast, seval, hs, hx]) <;> exact sT))) | ((first | apply Run.nil | apply Wp.skip); dsimp only [sQ, tQ, bQ]) | (apply Wp.run; (dsimp only [List.map] <;> exact rfl); exact rfl) | (apply Wp.exit; dsimp only [sQ, tQ, bQ]; simp only [reduceIte]))
          (apply Wp.cond; (simp only [push_cast, seval, hs, hx] <;> (try simp (disch := omega) only [wI, wU, wC]) <;> exact rfl))
          · intro h2
            repeat (first | apply Wp.seq | apply Wp.block | (apply Run.next; (simp only [push_cast, seval, hs, hx] <;> (try simp (disch := omega) only [wI, wU, wC]) <;> exact rfl); (focus ((try simp only [push_cast, seval, hs, hx]) <;> exact sT))) | ((first | apply Run.nil | apply Wp.skip); dsimp only [sQ, tQ, bQ]) | (apply Wp.run; (dsimp only [List.map] <;> exact rfl); exact rfl) | (apply Wp.exit; dsimp only [sQ, tQ, bQ]; simp only [reduceIte]))
            (apply Wp.ret; (try dsimp only [sQ, tQ, bQ]); apply leave0; exact rfl; (simp only [push_cast, seval, hs, hx] <;> (try simp (disch := omega) only [wI, wU, wC]) <;> exact rfl); all_goals (try simp only [push_cast, seval, hs, hx]); (try rfl))
            have h3 : lnB ks.length x = false := by rw [← Bool.not_eq_true]; intro h3; simp only [lnB, Bool.and_eq_true] at h3; simp [h3] at h2
            rw [← hx] at h3
            simp [chkE, checkB, all_no hc h3]
          · intro h2
            repeat (first | apply Wp.seq | apply Wp.block | (apply Run.next; (simp only [push_cast, seval, hs, hx] <;> (try simp (disch := omega) only [wI, wU, wC]) <;> exact rfl); (focus ((try simp only [push_cast, seval, hs, hx]) <;> exact sT))) | ((first | apply Run.nil | apply Wp.skip); dsimp only [sQ, tQ, bQ]) | (apply Wp.run; (dsimp only [List.map] <;> exact rfl); exact rfl) | (apply Wp.exit; dsimp only [sQ, tQ, bQ]; simp only [reduceIte]))
            have h3 : lnB ks.length x = true := by simpa [lnB] using h2
            rw [← hx] at h3
            refine ⟨(k + 1, .row 5 [lnA x]), ?_, ⟨by simp only; omega, fun j hj => ?_⟩, by simp only; omega⟩
            · (refine Le.of ?_ ?_ rfl rfl <;> (try simp only [push_cast, seval, hs, hx]) <;> (try (with_reducible rfl)))
            · by_cases hjk : j = k
              · subst hjk; exact h3
              · exact hk2 j (by simp only at hj; omega)
        · (intro hc; try simp only [decide_eq_true_eq, decide_eq_false_iff_not, Bool.and_eq_true, Bool.or_eq_true, Bool.not_eq_true, Bool.not_eq_false, Bool.not_eq_true', Bool.not_eq_false', Bool.and_eq_false_iff, Bool.or_eq_false_iff, Int.not_lt, Int.not_le, Int.ofNat_lt, Int.ofNat_le] at hc)
          repeat (first | apply Wp.seq | apply Wp.block | (apply Run.next; (simp only [push_cast, seval, hs] <;> (try simp (disch := omega) only [wI, wU, wC]) <;> exact rfl); (focus ((try simp only [push_cast, seval, hs]) <;> exact sT))) | ((first | apply Run.nil | apply Wp.skip); dsimp only [sQ, tQ, bQ]) | (apply Wp.run; (dsimp only [List.map] <;> exact rfl); exact rfl) | (apply Wp.exit; dsimp only [sQ, tQ, bQ]; simp only [reduceIte]))
          (apply Wp.ret; (try dsimp only [sQ, tQ, bQ]); apply leave0; exact rfl; (simp only [push_cast, seval, hs] <;> (try simp (disch := omega) only [wI, wU, wC]) <;> exact rfl); all_goals (try simp only [push_cast, seval, hs]); (try rfl))
          have h3 : ls.all (lnB ks.length) = true := all_at fun j hj => hk2 j (by omega)
          rw [chkE, if_pos]
          simp only [checkB, hs, h3, Bool.and_true, Bool.and_eq_true, decide_eq_true_eq]
          omega
end Go.Proofs.Try
set_option maxHeartbeats 8000000
namespace Go.Proofs.Try
open Go.Vg

def ovB (a b : Ln) : Bool := (decide (a.kind = b.kind) && decide (a.fr < b.to)) && decide (b.fr < a.to)
theorem overlap_pure (a b : Ln) : Pure Try.prog 25 [lnA a, lnA b] (.bool (ovB a b)) := by
  (refine Spec.of_body Try.func25 rfl (by rw [Try.ntmps25]; simp) 0 (by simp) ?_; rw [Try.results25, Try.ntmps25]; simp only [entry, zipArgs, Nat.reduceAdd])
  repeat (first | apply Wp.seq | apply Wp.block | (apply Run.next; (simp only [push_cast, seval] <;> (try simp (disch := omega) only [wI, wU, wC]) <;> exact rfl); (focus ((try simp only [push_cast, seval]) <;> exact sT))) | ((first | apply Run.nil | apply Wp.skip); dsimp only [sQ, tQ, bQ]) | (apply Wp.run; (dsimp only [List.map] <;> exact rfl); exact rfl) | (apply Wp.exit; dsimp only [sQ, tQ, bQ]; simp only [reduceIte]))
  (apply Wp.ret; (try dsimp only [sQ, tQ, bQ]); apply leave0; exact rfl; (simp only [push_cast, seval] <;> (try simp (disch := omega) only [wI, wU, wC]) <;> exact rfl); all_goals (try simp only [push_cast, seval]); (try rfl))
structure SV (ks : List St) (ls : List Ln) : Prop where
  k8 : ks.length ≤ 8
  l20 : ls.length ≤ 20
  st : ∀ j, j < ks.length → (0 ≤ (ks.getD j st0).items ∧ (ks.getD j st0).items ≤ 8) ∧ 1 ≤ (ks.getD j st0).life ∧ (ks.getD j st0).life ≤ 100
  ln : ∀ i, i < ls.length → (0 ≤ (ls.getD i ln0).kind ∧ (ls.getD i ln0).kind < ks.length) ∧ (0 ≤ (ls.getD i ln0).fr ∧ (ls.getD i ln0).fr < (ls.getD i ln0).to ∧ (ls.getD i ln0).to ≤ 1440) ∧ 0 ≤ (ls.getD i ln0).uses ∧ (ls.getD i ln0).uses ≤ 100
theorem checkB_ok {ks : List St} {ls : List Ln} (h : checkB ks ls = true) : SV ks ls := by
  simp only [checkB, Bool.and_eq_true, decide_eq_true_eq, List.all_eq_true] at h
  obtain ⟨⟨⟨h1, h2⟩, h3⟩, h4⟩ := h
  refine ⟨h1, h2, fun j hj => ?_, fun i hi => ?_⟩
  · have := h3 _ (memSt hj)
    simp only [stB, Bool.and_eq_true, wi_iff] at this
    exact this
  · have := h4 _ (memLn hi)
    simp only [lnB, Bool.and_eq_true, wi_iff] at this
    obtain ⟨⟨⟨⟨q1, q2⟩, q3⟩, q4⟩, q5⟩ := this
    rw [wI (by omega) (by omega)] at q4
    omega
theorem range_all {n : Nat} {p : Nat → Bool} (h : ∀ j, j < n → p j = true) : (List.range n).all p = true := by
  rw [List.all_eq_true]; intro x hx; exact h x (List.mem_range.1 hx)
theorem range_no {n k : Nat} {p : Nat → Bool} (hk : k < n) (h : p k = false) : (List.range n).all p = false := by
  rw [← Bool.not_eq_true, List.all_eq_true]
  intro h2
  have := h2 k (List.mem_range.2 hk)
  rw [h] at this; cases this
end Go.Proofs.Try
set_option maxHeartbeats 8000000
namespace Go.Proofs.Try
open Go.Vg

end Go.Proofs.Try
set_option maxHeartbeats 8000000
namespace Go.Proofs.Try
open Go.Vg
end Go.Proofs.Try
set_option maxHeartbeats 8000000
namespace Go.Proofs.Try
open Go.Vg

structure PV (ks : List St) (ls : List Ln) (plan : List Int) : Prop where
  sv : SV ks ls
  len : plan.length = ls.length
  pl : ∀ i, i < ls.length → -1 ≤ plan.getD i 0 ∧ plan.getD i 0 ≤ (ks.getD (ls.getD i ln0).kind.toNat st0).items - 1
end Go.Proofs.Try
set_option maxHeartbeats 8000000
namespace Go.Proofs.Try
open Go.Vg

def prA (p : Int × Int) : AV := .agg [.int p.1, .int p.2]
theorem app_pr (l : List (Int × Int)) (a b : Int) : l.map prA ++ [.agg [.val (.int .i64 a), .val (.int .i64 b)]] = (l ++ [(a, b)]).map prA := by simp [prA]
theorem getD_pr (l : List (Int × Int)) (i : Nat) : (l.map prA).getD i (.agg [.val (.int .i64 0), .val (.int .i64 0)]) = prA (l.getD i (0, 0)) := getD_map' prA l i (0, 0)
theorem okL_pr (k : Nat) (l : List (Int × Int)) : okL k (l.map prA) = True := eq_true (okL_map' k l fun x => by simp [prA, AV.ok, okL])
attribute [push_cast] app_pr okL_pr
end Go.Proofs.Try
set_option maxHeartbeats 8000000
namespace Go.Proofs.Try
open Go.Vg

/-! the pairs that overlap -/
def ovI (ls : List Ln) (i : Nat) : Nat → List (Int × Int)
  | 0 => []
  | k + 1 => if (decide (i < k) && ovB (ls.getD i ln0) (ls.getD k ln0)) = true then ovI ls i k ++ [((i : Int), (k : Int))] else ovI ls i k
theorem ovI_len (ls : List Ln) (i : Nat) : ∀ k, (ovI ls i k).length ≤ k
  | 0 => by simp [ovI]
  | k + 1 => by have := ovI_len ls i k; simp only [ovI]; split <;> simp <;> omega
theorem ovI_nil (ls : List Ln) (i : Nat) : ∀ k, k ≤ i + 1 → ovI ls i k = []
  | 0, _ => rfl
  | k + 1, h => by simp only [ovI, ovI_nil ls i k (by omega), show ¬ i < k by omega]; simp
theorem ovI_succ (ls : List Ln) {i k : Nat} (h : i < k) : ovI ls i (k + 1) = if ovB (ls.getD i ln0) (ls.getD k ln0) = true then ovI ls i k ++ [((i : Int), (k : Int))] else ovI ls i k := by
  simp [ovI, h]
def ovP (ls : List Ln) : Nat → List (Int × Int)
  | 0 => []
  | i + 1 => ovP ls i ++ ovI ls i ls.length
theorem ovP_len (ls : List Ln) (hl : ls.length ≤ 20) : ∀ i, (ovP ls i).length ≤ 20 * i
  | 0 => by simp [ovP]
  | i + 1 => by have := ovP_len ls hl i; have := ovI_len ls i ls.length; simp only [ovP, List.length_append]; omega
theorem chkE_ok {ks : List St} {ls : List Ln} (h : chkE ks ls = 0) : SV ks ls := by
  unfold chkE at h
  split at h
  · exact checkB_ok ‹_›
  · cases h
def ovV (ks : List St) (ls : List Ln) : AV × Int :=
  if chkE ks ls = 0 then (.lst 2 ((ovP ls ls.length).map prA), 0) else (.emp, chkE ks ls)
theorem overlaps_pure (ks : List St) (ls : List Ln) (hk : ks.length ≤ 9223372036854775807) (hl : ls.length ≤ 9223372036854775807) : Pure Try.prog 12 [storA ks ls] (.tup [(ovV ks ls).1, .int (ovV ks ls).2]) := by
  have hck := check_pure ks ls hk hl
  by_cases h1 : chkE ks ls = 0
  · rw [h1] at hck
    have hv := chkE_ok h1
    have hl20 := hv.l20
    rw [show ovV ks ls = (.lst 2 ((ovP ls ls.length).map prA), 0) by rw [ovV, if_pos h1]]
    (refine Spec.of_body Try.func12 rfl (by rw [Try.ntmps12]; simp) 0 (by simp) ?_; rw [Try.results12, Try.ntmps12]; simp only [entry, zipArgs, Nat.reduceAdd])
    repeat (first | apply Wp.seq | apply Wp.block | (apply Run.next; (simp only [push_cast, seval] <;> (try simp (disch := omega) only [wI, wU, wC]) <;> exact rfl); (focus ((try simp only [push_cast, seval]) <;> exact sT))) | ((first | apply Run.nil | apply Wp.skip); dsimp only [sQ, tQ, bQ]) | (apply Wp.run; (dsimp only [List.map] <;> exact rfl); exact rfl) | (apply Wp.exit; dsimp only [sQ, tQ, bQ]; simp only [reduceIte]))
    (apply Run.pureP; (simp only [push_cast, seval] <;> (try simp (disch := omega) only [wI, wU, wC]) <;> exact rfl); (exact (Enters.of Try.func24 rfl rfl)); (exact hck); (focus (simp only [push_cast, seval] <;> first | trivial | assumption | (refine ⟨?_, ?_⟩ <;> assumption) | (simp; done))); (try dsimp only [putA, optG]))
    repeat (first | apply Wp.seq | apply Wp.block | (apply Run.next; (simp only [push_cast, seval] <;> (try simp (disch := omega) only [wI, wU, wC]) <;> exact rfl); (focus ((try simp only [push_cast, seval]) <;> exact sT))) | ((first | apply Run.nil | apply Wp.skip); dsimp only [sQ, tQ, bQ]) | (apply Wp.run; (dsimp only [List.map] <;> exact rfl); exact rfl) | (apply Wp.exit; dsimp only [sQ, tQ, bQ]; simp only [reduceIte]) | (apply Run.gtrue; (simp only [push_cast, seval] <;> (try simp (disch := omega) only [wI, wU, wC]) <;> exact rfl); (simp only [push_cast, seval] <;> (try simp (disch := omega) only [wI, wU, wC]) <;> exact rfl)) | (apply Run.gfalse (.bool false); (simp only [push_cast, seval] <;> (try simp (disch := omega) only [wI, wU, wC]) <;> exact rfl); dsimp only [S.put, optG]) | (apply Wp.condT; (simp only [push_cast, seval] <;> (try simp (disch := omega) only [wI, wU, wC]) <;> exact rfl)) | (apply Wp.condF; (simp only [push_cast, seval] <;> (try simp (disch := omega) only [wI, wU, wC]) <;> exact rfl)))
    (refine Wp.vacs 1 ?_; (try simp only [List.replicate_succ, List.replicate_zero, List.cons_append, List.nil_append]))
    refine Wp.adopt 2 2 (by (simp only [push_cast, seval] <;> (try simp (disch := omega) only [wI, wU, wC]) <;> exact rfl)) ?_
    refine Wp.loop (fun (q : Nat × Nat × Kind) => { t := [(1, .optr 0 0 0 0), (3, .int 0), (14, .lst 5 (ls.map lnA)), (15, .int ls.length), (16, .int q.1), (2, .osl 2 (ovP ls q.1).length 0 (ovP ls q.1).length)], m := [⟨0, .row 2 [storA ks ls]⟩, ⟨q.2.1, q.2.2⟩, ⟨(ovP ls q.1).length, .row 2 ((ovP ls q.1).map prA)⟩], n := 45 }) (fun q => q.1 ≤ ls.length) (fun q => ls.length - q.1) (0, 0, .row 1 []) ?_ ?_ ?_
    · (refine Le.of ?_ ?_ rfl rfl <;> (try simp only [push_cast, seval]) <;> (try (with_reducible rfl)))
      all_goals rfl
    · simp
    · rintro ⟨i, v, kd⟩ hk1
      simp only at hk1
      have hol := ovP_len ls hl20 i
      have hos : ovP ls (i + 1) = ovP ls i ++ ovI ls i ls.length := rfl
      generalize hout : ovP ls i = out at hol hos
      repeat (first | apply Wp.seq | apply Wp.block | (apply Run.calm; exact rfl; (simp only [push_cast, seval] <;> (try simp (disch := omega) only [wI, wU, wC]) <;> exact rfl); (focus ((try simp only [push_cast, seval]) <;> exact sT))) | ((first | apply Run.nil | apply Wp.skip); dsimp only [sQ, tQ, bQ]) | (apply Wp.run; (dsimp only [List.map] <;> exact rfl); exact rfl) | (apply Wp.exit; dsimp only [sQ, tQ, bQ]; simp only [reduceIte]))
      (apply Wp.cond; (simp only [push_cast, seval] <;> (try simp (disch := omega) only [wI, wU, wC]) <;> exact rfl))
      · intro hck'
        simp only [decide_eq_true_eq, Int.ofNat_lt] at hck'
        have hio := fun k (h : i < k) => ovI_succ ls h
        have hi0 := ovI_nil ls i (i + 1) (by omega)
        generalize hx : ls.getD i ln0 = x at hio
        repeat (first | apply Wp.seq | apply Wp.block | (apply Run.calm; exact rfl; (simp only [push_cast, seval, hx] <;> (try simp (disch := omega) only [wI, wU, wC]) <;> exact rfl); (focus ((try simp only [push_cast, seval, hx]) <;> exact sT))) | ((first | apply Run.nil | apply Wp.skip); dsimp only [sQ, tQ, bQ]) | (apply Wp.run; (dsimp only [List.map] <;> exact rfl); exact rfl) | (apply Wp.exit; dsimp only [sQ, tQ, bQ]; simp only [reduceIte]))
        (apply Run.alcAt 1; (simp only [push_cast, seval, hx] <;> (try simp (disch := omega) only [wI, wU, wC]) <;> exact rfl); (focus ((try simp only [push_cast, seval, hx]) <;> exact sT)); exact rfl; (try simp only [push_cast, seval, hx]))
        repeat (first | apply Wp.seq | apply Wp.block | (apply Run.next; (simp only [push_cast, seval, hx] <;> (try simp (disch := omega) only [wI, wU, wC]) <;> exact rfl); (focus ((try simp only [push_cast, seval, hx]) <;> exact sT))) | ((first | apply Run.nil | apply Wp.skip); dsimp only [sQ, tQ, bQ]) | (apply Wp.run; (dsimp only [List.map] <;> exact rfl); exact rfl) | (apply Wp.exit; dsimp only [sQ, tQ, bQ]; simp only [reduceIte]))
        refine Wp.loop (fun (k : Nat) => { t := [(1, .optr 0 0 0 0), (3, .int 0), (14, .lst 5 (ls.map lnA)), (15, .int ls.length), (16, .int i), (2, .osl 2 (out ++ ovI ls i k).length 0 (out ++ ovI ls i k).length), (5, .int i), (6, .optr 1 (v + 1) 0 0), (7, .int k)], m := [⟨0, .row 2 [storA ks ls]⟩, ⟨v + 1, .row 5 [lnA x]⟩, ⟨(out ++ ovI ls i k).length, .row 2 ((out ++ ovI ls i k).map prA)⟩], n := 45 }) (fun k => i + 1 ≤ k ∧ k ≤ ls.length) (fun k => ls.length - k) (i + 1) ?_ ?_ ?_
        · rw [hi0, List.append_nil]
          (refine Le.of ?_ ?_ rfl rfl <;> (try simp only [push_cast, seval, hx]) <;> (try (with_reducible rfl)))
        · exact ⟨by omega, by omega⟩
        · rintro k ⟨hk2, hk3⟩
          have hil := ovI_len ls i k
          have his := hio k hk2
          generalize hinn : ovI ls i k = inn at hil his
          have hle : (out ++ inn).length ≤ 420 := by rw [List.length_append]; omega
          have hins : out ++ ovI ls i (k + 1) = if ovB x (ls.getD k ln0) = true then (out ++ inn) ++ [((i : Int), (k : Int))] else out ++ inn := by rw [his]; split <;> simp
          generalize hoi : out ++ inn = oi at hle hins
          repeat (first | apply Wp.seq | apply Wp.block | (apply Run.next; (simp only [push_cast, seval, hx] <;> (try simp (disch := omega) only [wI, wU, wC]) <;> exact rfl); (focus ((try simp only [push_cast, seval, hx]) <;> exact sT))) | ((first | apply Run.nil | apply Wp.skip); dsimp only [sQ, tQ, bQ]) | (apply Wp.run; (dsimp only [List.map] <;> exact rfl); exact rfl) | (apply Wp.exit; dsimp only [sQ, tQ, bQ]; simp only [reduceIte]))
          (apply Wp.cond; (simp only [push_cast, seval, hx] <;> (try simp (disch := omega) only [wI, wU, wC]) <;> exact rfl))
          · intro hci
            simp only [decide_eq_true_eq, Int.ofNat_lt] at hci
            generalize hz : ls.getD k ln0 = z at hins
            repeat (first | apply Wp.seq | apply Wp.block | (apply Run.next; (simp only [push_cast, seval, hx, hz] <;> (try simp (disch := omega) only [wI, wU, wC]) <;> exact rfl); (focus ((try simp only [push_cast, seval, hx, hz]) <;> exact sT))) | ((first | apply Run.nil | apply Wp.skip); dsimp only [sQ, tQ, bQ]) | (apply Wp.run; (dsimp only [List.map] <;> exact rfl); exact rfl) | (apply Wp.exit; dsimp only [sQ, tQ, bQ]; simp only [reduceIte]))
            (apply Wp.runD 7 mixed; (dsimp only [List.map] <;> exact rfl); exact rfl; kernel_rfl; (dsimp only [List.take] <;> exact rfl); (dsimp only [List.drop] <;> exact rfl); (((repeat (apply Abn.next; (simp only [push_cast, seval, hx, hz] <;> (try simp (disch := omega) only [wI, wU, wC]) <;> exact rfl); (focus ((try simp only [push_cast, seval, hx, hz]) <;> exact sT)))); (apply Abn.pureP; (simp only [push_cast, seval, hx, hz] <;> (try simp (disch := omega) only [wI, wU, wC]) <;> exact rfl); (exact (Enters.of Try.func25 rfl rfl)); (exact overlap_pure x z); (focus (simp only [push_cast, seval, hx, hz] <;> first | trivial | assumption | (refine ⟨?_, ?_⟩ <;> assumption) | (simp; done))); (try dsimp only [putA, optG])); (repeat (apply Abn.next; (simp only [push_cast, seval, hx, hz] <;> (try simp (disch := omega) only [wI, wU, wC]) <;> exact rfl); (focus ((try simp only [push_cast, seval, hx, hz]) <;> exact sT))))); exact Abn.nil))
            repeat (first | apply Wp.seq | apply Wp.block | (apply Run.next; (simp only [push_cast, seval, hx, hz] <;> (try simp (disch := omega) only [wI, wU, wC]) <;> exact rfl); (focus ((try simp only [push_cast, seval, hx, hz]) <;> exact sT))) | ((first | apply Run.nil | apply Wp.skip); dsimp only [sQ, tQ, bQ]) | (apply Wp.run; (dsimp only [List.map] <;> exact rfl); exact rfl) | (apply Wp.exit; dsimp only [sQ, tQ, bQ]; simp only [reduceIte]))
            (apply Wp.cond; (simp only [push_cast, seval, hx, hz] <;> (try simp (disch := omega) only [wI, wU, wC]) <;> exact rfl))
            · intro h2
              rw [if_pos h2] at hins
              repeat (first | apply Wp.seq | apply Wp.block | (apply Run.next; (simp only [push_cast, seval, hx, hz] <;> (try simp (disch := omega) only [wI, wU, wC]) <;> exact rfl); (focus ((try simp only [push_cast, seval, hx, hz]) <;> exact sT))) | ((first | apply Run.nil | apply Wp.skip); dsimp only [sQ, tQ, bQ]) | (apply Wp.run; (dsimp only [List.map] <;> exact rfl); exact rfl) | (apply Wp.exit; dsimp only [sQ, tQ, bQ]; simp only [reduceIte]))
              refine ⟨k + 1, ?_, ⟨by omega, by omega⟩, by omega⟩
              rw [hins, List.length_append]
              (refine Le.of ?_ ?_ rfl rfl <;> (try simp only [push_cast, seval, hx, hz]) <;> (try (with_reducible rfl)))
            · intro h2
              rw [if_neg (by rw [h2]; simp)] at hins
              repeat (first | apply Wp.seq | apply Wp.block | (apply Run.next; (simp only [push_cast, seval, hx, hz] <;> (try simp (disch := omega) only [wI, wU, wC]) <;> exact rfl); (focus ((try simp only [push_cast, seval, hx, hz]) <;> exact sT))) | ((first | apply Run.nil | apply Wp.skip); dsimp only [sQ, tQ, bQ]) | (apply Wp.run; (dsimp only [List.map] <;> exact rfl); exact rfl) | (apply Wp.exit; dsimp only [sQ, tQ, bQ]; simp only [reduceIte]))
              refine ⟨k + 1, ?_, ⟨by omega, by omega⟩, by omega⟩
              rw [hins]
              (refine Le.of ?_ ?_ rfl rfl <;> (try simp only [push_cast, seval, hx, hz]) <;> (try (with_reducible rfl)))
          · intro hci
            simp only [decide_eq_false_iff_not, Int.ofNat_lt] at hci
            have e : ovP ls (i + 1) = oi := by
              rw [hos, show ls.length = k by omega, hinn, hoi]
            repeat (first | apply Wp.seq | apply Wp.block | (apply Run.next; (simp only [push_cast, seval, hx] <;> (try simp (disch := omega) only [wI, wU, wC]) <;> exact rfl); (focus ((try simp only [push_cast, seval, hx]) <;> exact sT))) | ((first | apply Run.nil | apply Wp.skip); dsimp only [sQ, tQ, bQ]) | (apply Wp.run; (dsimp only [List.map] <;> exact rfl); exact rfl) | (apply Wp.exit; dsimp only [sQ, tQ, bQ]; simp only [reduceIte]))
            refine ⟨(i + 1, v + 1, .row 5 [lnA x]), ?_, by simp only; omega, by simp only; omega⟩
            simp only
            rw [e]
            (refine Le.of ?_ ?_ rfl rfl <;> (try simp only [push_cast, seval, hx]) <;> (try (with_reducible rfl)))
      · intro hck'
        simp only [decide_eq_false_iff_not, Int.ofNat_lt] at hck'
        obtain rfl : i = ls.length := by omega
        repeat (first | apply Wp.seq | apply Wp.block | (apply Run.next; (simp only [push_cast, seval] <;> (try simp (disch := omega) only [wI, wU, wC]) <;> exact rfl); (focus ((try simp only [push_cast, seval]) <;> exact sT))) | ((first | apply Run.nil | apply Wp.skip); dsimp only [sQ, tQ, bQ]) | (apply Wp.run; (dsimp only [List.map] <;> exact rfl); exact rfl) | (apply Wp.exit; dsimp only [sQ, tQ, bQ]; simp only [reduceIte]))
        (apply Wp.freeze 2; (simp only [push_cast, seval] <;> (try simp (disch := omega) only [wI, wU, wC]) <;> exact rfl); (simp only [push_cast, seval] <;> (try simp (disch := omega) only [wI, wU, wC]) <;> exact rfl); (focus (try simp only [push_cast, seval]); (try (exact sT))); (focus (exact sT)))
        (apply Wp.ret; (try dsimp only [sQ, tQ, bQ]); apply leave0; exact rfl; (simp only [push_cast, seval] <;> (try simp (disch := omega) only [wI, wU, wC]) <;> exact rfl); all_goals (try simp only [push_cast, seval]); (try rfl))
        rw [hout]
  · have hne : decide (chkE ks ls = 0) = false := decide_eq_false h1
    (refine Spec.of_body Try.func12 rfl (by rw [Try.ntmps12]; simp) 0 (by simp) ?_; rw [Try.results12, Try.ntmps12]; simp only [entry, zipArgs, Nat.reduceAdd])
    repeat (first | apply Wp.seq | apply Wp.block | (apply Run.next; (simp only [push_cast, seval, hne] <;> (try simp (disch := omega) only [wI, wU, wC]) <;> exact rfl); (focus ((try simp only [push_cast, seval, hne]) <;> exact sT))) | ((first | apply Run.nil | apply Wp.skip); dsimp only [sQ, tQ, bQ]) | (apply Wp.run; (dsimp only [List.map] <;> exact rfl); exact rfl) | (apply Wp.exit; dsimp only [sQ, tQ, bQ]; simp only [reduceIte]))
    (apply Run.pureP; (simp only [push_cast, seval, hne] <;> (try simp (disch := omega) only [wI, wU, wC]) <;> exact rfl); (exact (Enters.of Try.func24 rfl rfl)); (exact hck); (focus (simp only [push_cast, seval, hne] <;> first | trivial | assumption | (refine ⟨?_, ?_⟩ <;> assumption) | (simp; done))); (try dsimp only [putA, optG]))
    repeat (first | apply Wp.seq | apply Wp.block | (apply Run.next; (simp only [push_cast, seval, hne] <;> (try simp (disch := omega) only [wI, wU, wC]) <;> exact rfl); (focus ((try simp only [push_cast, seval, hne]) <;> exact sT))) | ((first | apply Run.nil | apply Wp.skip); dsimp only [sQ, tQ, bQ]) | (apply Wp.run; (dsimp only [List.map] <;> exact rfl); exact rfl) | (apply Wp.exit; dsimp only [sQ, tQ, bQ]; simp only [reduceIte]) | (apply Run.gtrue; (simp only [push_cast, seval, hne] <;> (try simp (disch := omega) only [wI, wU, wC]) <;> exact rfl); (simp only [push_cast, seval, hne] <;> (try simp (disch := omega) only [wI, wU, wC]) <;> exact rfl)) | (apply Run.gfalse (.bool false); (simp only [push_cast, seval, hne] <;> (try simp (disch := omega) only [wI, wU, wC]) <;> exact rfl); dsimp only [S.put, optG]) | (apply Wp.condT; (simp only [push_cast, seval, hne] <;> (try simp (disch := omega) only [wI, wU, wC]) <;> exact rfl)) | (apply Wp.condF; (simp only [push_cast, seval, hne] <;> (try simp (disch := omega) only [wI, wU, wC]) <;> exact rfl)))
    (apply Wp.ret; (try dsimp only [sQ, tQ, bQ]); apply leave0; exact rfl; (simp only [push_cast, seval, hne] <;> (try simp (disch := omega) only [wI, wU, wC]) <;> exact rfl); all_goals (try simp only [push_cast, seval, hne]); (try rfl))
    rw [show ovV ks ls = (.emp, chkE ks ls) by rw [ovV, if_neg h1]]
end Go.Proofs.Try
set_option maxHeartbeats 8000000
namespace Go.Proofs.Try
open Go.Vg

/-! what is wrong with the last loan of the beginning of a plan -/
def mateB (ls : List Ln) (p : List Int) (i k : Nat) : Bool := decide ((ls.getD k ln0).kind = (ls.getD i ln0).kind) && decide (p.getD k 0 = p.getD i 0)
def sumU (ls : List Ln) (p : List Int) (i : Nat) : Nat → Int
  | 0 => 0
  | k + 1 => if mateB ls p i k = true then sumU ls p i k + (ls.getD k ln0).uses else sumU ls p i k
def clashB (ls : List Ln) (p : List Int) (i : Nat) : Nat → Bool
  | 0 => false
  | k + 1 => clashB ls p i k || (mateB ls p i k && ovB (ls.getD k ln0) (ls.getD i ln0))
def wrongB (ks : List St) (ls : List Ln) (p : List Int) (i : Nat) : Bool :=
  decide (p.getD i 0 < 0) || (clashB ls p i i || decide ((ks.getD (ls.getD i ln0).kind.toNat st0).life < (ls.getD i ln0).uses + sumU ls p i i))
theorem getD_take {l : List Int} {n k : Nat} (h : k < n) : (l.take n).getD k 0 = l.getD k 0 := by
  simp only [List.getD_eq_getElem?_getD, List.getElem?_take]
  rw [if_pos h]
theorem sumU_take (ls : List Ln) (p : List Int) (i : Nat) : ∀ k, k ≤ i → sumU ls (p.take (i + 1)) i k = sumU ls p i k
  | 0, _ => rfl
  | k + 1, h => by
    simp only [sumU, mateB, getD_take (show k < i + 1 by omega), getD_take (show i < i + 1 by omega), sumU_take ls p i k (by omega)]
    rfl
theorem clashB_take (ls : List Ln) (p : List Int) (i : Nat) : ∀ k, k ≤ i → clashB ls (p.take (i + 1)) i k = clashB ls p i k
  | 0, _ => rfl
  | k + 1, h => by
    simp only [clashB, mateB, getD_take (show k < i + 1 by omega), getD_take (show i < i + 1 by omega), clashB_take ls p i k (by omega)]
theorem wrongB_take (ks : List St) (ls : List Ln) (p : List Int) (i : Nat) : wrongB ks ls (p.take (i + 1)) i = wrongB ks ls p i := by
  unfold wrongB
  rw [sumU_take _ _ _ _ (Nat.le_refl _), clashB_take _ _ _ _ (Nat.le_refl _), getD_take (show i < i + 1 by omega)]
end Go.Proofs.Try
set_option maxHeartbeats 8000000
namespace Go.Proofs.Try
open Go.Vg

/-! the loans that are disturbed -/
end Go.Proofs.Try
set_option maxHeartbeats 8000000
namespace Go.Proofs.Try
open Go.Vg

/-! a right plan stays right if a loan ends later, as long as no loan is disturbed -/
theorem clashB_false (ls : List Ln) (p : List Int) (i : Nat) : ∀ n : Nat, clashB ls p i n = false ↔ ∀ k, k < n → mateB ls p i k = true → ovB (ls.getD k ln0) (ls.getD i ln0) = false
  | 0 => by simp [clashB]
  | n + 1 => by
    simp only [clashB, Bool.or_eq_false_iff, Bool.and_eq_false_iff, clashB_false ls p i n]
    constructor
    · rintro ⟨h1, h2⟩ k hk hm
      rcases Nat.lt_or_ge k n with h | h
      · exact h1 k h hm
      · obtain rfl : k = n := by omega
        rcases h2 with h2 | h2
        · rw [hm] at h2; cases h2
        · exact h2
    · intro h
      refine ⟨fun k hk => h k (by omega), ?_⟩
      cases hm : mateB ls p i n
      · exact .inl rfl
      · exact .inr (h n (by omega) hm)
end Go.Proofs.Try
set_option maxHeartbeats 8000000
namespace Go.Proofs.Try
open Go.Vg

/-! a bench in memory -/
def lentR (N : Nat) : Nat → List (Nat × List Int) → List AV
  | _, [] => []
  | j, t :: T => .osl (N + j) t.1 0 t.2.length :: lentR N (j + 1) T
def lentE (t : Nat × List Int) : Ent := ⟨t.1, .row 1 (t.2.map AV.int)⟩
abbrev benR (N : Nat) (ks : List St) (ls : List Ln) (life : Int) (L : List Int) (vi : Nat) (I W : List Int) (T : List (Nat × List Int)) : AV :=
  .agg [.lst 2 (ks.map stA), .lst 5 (ls.map lnA), .int life, .osl (N + 5) L.length 0 L.length, .osl (N + 6) vi 0 I.length, .osl (N + 1) 1 0 W.length, .osl (N + 2) 1 0 T.length]
abbrev blk (N : Nat) (ks : List St) (ls : List Ln) (e0 e4 : Ent) (life : Int) (L : List Int) (vi : Nat) (I W : List Int) (T : List (Nat × List Int)) (G : Mem) : Mem :=
  e0 :: ⟨1, .row 1 (W.map AV.int)⟩ :: ⟨1, .row 1 (lentR N 7 T)⟩ :: ⟨1, .row 7 [benR N ks ls life L vi I W T]⟩ :: e4 :: ⟨L.length, .row 1 (L.map AV.int)⟩ :: ⟨vi, .row 1 (I.map AV.int)⟩ :: (T.map lentE ++ G)
theorem lentR_len (N : Nat) : ∀ (T : List (Nat × List Int)) (j : Nat), (lentR N j T).length = T.length
  | [], _ => rfl
  | _ :: T, j => by simp [lentR, lentR_len N T]
theorem adR_lent (n : Nat) : ∀ (m j a b : Nat), a ≤ n + j → n + j + m ≤ b → AdR a b (List.replicate m .emp) (lentR n j (List.replicate m (0, [])))
  | 0, _, _, _, _, _ => trivial
  | m + 1, j, a, b, h1, h2 => by
    rw [List.replicate_succ, List.replicate_succ]
    exact ⟨.inl (.inr ⟨rfl, n + j, h1, by omega, rfl⟩), adR_lent n m (j + 1) a b (by omega) (by omega)⟩
def loanP (ls : List Ln) (kind : Int) (k : Nat) : List Int := ((List.range k).filter fun i => decide ((ls.getD i ln0).kind = kind)).map fun i : Nat => (i : Int)
theorem loanP_succ (ls : List Ln) (kind : Int) (k : Nat) : loanP ls kind (k + 1) = if decide ((ls.getD k ln0).kind = kind) = true then loanP ls kind k ++ [(k : Int)] else loanP ls kind k := by
  unfold loanP; rw [List.range_succ, List.filter_append, List.map_append]
  by_cases h : decide ((ls.getD k ln0).kind = kind) = true
  · rw [if_pos h, List.filter_cons, if_pos h]; rfl
  · rw [if_neg h, List.filter_cons, if_neg h]; simp
theorem loanP_len (ls : List Ln) (kind : Int) (k : Nat) : (loanP ls kind k).length ≤ k := by
  unfold loanP; rw [List.length_map]; refine Nat.le_trans (List.length_filter_le _ _) ?_; simp
theorem lentE_rep (n : Nat) : (List.replicate n (0, ([] : List Int))).map lentE = List.replicate n (⟨0, .row 1 []⟩ : Ent) := by
  rw [List.map_replicate]; rfl
def T0 (n : Nat) : List (Nat × List Int) := List.replicate n (0, [])
theorem newBench_spec {ks : List St} {ls : List Ln} (hv : SV ks ls) (kind items : Int) (hk : 0 ≤ kind ∧ kind < ks.length) (hi : 0 ≤ items ∧ items ≤ 100) :
    Go.Vg.Spec Try.prog 53 [storA ks ls, .int kind, .int items] [] (fun x m' => x = .optr 3 1 0 0 ∧ ∃ e4, m' = blk 0 ks ls ⟨0, .row 2 [storA ks ls]⟩ e4 (ks.getD kind.toNat st0).life (loanP ls kind ls.length) 0 [] (List.replicate items.toNat 0) (T0 items.toNat) []) := by
  have hs := hv.st kind.toNat (by omega)
  have hl20 := hv.l20
  generalize hy : ks.getD kind.toNat st0 = y at hs
  (refine Spec.of_bodyA Try.func53 rfl (by rw [Try.ntmps53]; simp) ?_; rw [Try.results53, Try.ntmps53]; simp only [entry, zipArgs, Nat.reduceAdd])
  repeat (first | apply Wp.seq | apply Wp.block | (apply Run.next; (simp only [push_cast, seval, hy] <;> (try simp (disch := omega) only [wI, wU, wC]) <;> exact rfl); (focus ((try simp only [push_cast, seval, hy]) <;> exact sT))) | ((first | apply Run.nil | apply Wp.skip); dsimp only [sQ, tQ, bQ]) | (apply Wp.run; (dsimp only [List.map] <;> exact rfl); exact rfl) | (apply Wp.exit; dsimp only [sQ, tQ, bQ]; simp only [reduceIte]))
  (apply Wp.runV mixed; (dsimp only [List.map] <;> exact rfl); exact rfl; kernel_rfl; (dsimp only; (repeat (first | (apply AbsV.alc; exact rfl; (simp only [push_cast, seval, hy] <;> (try simp (disch := omega) only [wI, wU, wC]) <;> exact rfl); (focus ((try simp only [push_cast, seval, hy]) <;> exact sT)); dsimp only [upd, alcV, List.length_cons, List.length_nil, Nat.reduceAdd]) | (apply AbsV.cons; exact rfl; exact rfl; (simp only [push_cast, seval, hy] <;> (try simp (disch := omega) only [wI, wU, wC]) <;> exact rfl); (focus ((try simp only [push_cast, seval, hy]) <;> exact sT)); dsimp only [upd]))); exact AbsV.nil); dsimp only [List.map, List.cons_append, List.nil_append])
  repeat (first | apply Wp.seq | apply Wp.block | (apply Run.next; (simp only [push_cast, seval, hy] <;> (try simp (disch := omega) only [wI, wU, wC]) <;> exact rfl); (focus ((try simp only [push_cast, seval, hy]) <;> exact sT))) | ((first | apply Run.nil | apply Wp.skip); dsimp only [sQ, tQ, bQ]) | (apply Wp.run; (dsimp only [List.map] <;> exact rfl); exact rfl) | (apply Wp.exit; dsimp only [sQ, tQ, bQ]; simp only [reduceIte]))
  (refine Wp.vacs 1 ?_; (try simp only [List.replicate_succ, List.replicate_zero, List.cons_append, List.nil_append]))
  refine Wp.adoptRow 3 2 (l' := [benR 0 ks ls y.life [] 0 [] (List.replicate items.toNat 0) (T0 items.toNat)]) rfl ⟨.inr ⟨_, _, rfl, rfl, .inl (.inl rfl), .inl (.inl rfl), .inl (.inl rfl), .inl (.inr ⟨rfl, 5, by simp, by simp, rfl⟩), .inl (.inr ⟨rfl, 6, by simp, by simp, rfl⟩), .inl (.inl (by simp)), .inl (.inl (by simp [T0])), trivial⟩, trivial⟩ ?_
  simp only [List.set_cons_succ, List.set_cons_zero, List.replicate_succ, List.replicate_zero, List.cons_append, List.nil_append]
  refine Wp.adoptRow 2 items.toNat (l' := lentR 0 7 (T0 items.toNat)) rfl (adR_lent 0 _ _ _ _ (by simp) (by simp)) ?_
  simp only [List.set_cons_succ, List.set_cons_zero, List.cons_append, List.nil_append]
  rw [← lentE_rep, show List.replicate items.toNat (0, ([] : List Int)) = T0 items.toNat from rfl]
  generalize hB : (T0 items.toNat).map lentE = B
  refine Wp.loop (fun (q : Nat × Nat × Kind) => { t := [(1, .int kind), (3, .optr 0 0 0 0), (7, .optr 3 1 0 0), (24, .lst 5 (ls.map lnA)), (25, .int ls.length), (26, .int q.1)], m := ⟨0, .row 2 [storA ks ls]⟩ :: ⟨1, .row 1 ((List.replicate items.toNat 0).map AV.int)⟩ :: ⟨1, .row 1 (lentR 0 7 (T0 items.toNat))⟩ :: ⟨1, .row 7 [benR 0 ks ls y.life (loanP ls kind q.1) 0 [] (List.replicate items.toNat 0) (T0 items.toNat)]⟩ :: ⟨q.2.1, q.2.2⟩ :: ⟨(loanP ls kind q.1).length, .row 1 ((loanP ls kind q.1).map AV.int)⟩ :: ⟨0, .row 1 []⟩ :: B, n := 47 }) (fun q => q.1 ≤ ls.length) (fun q => ls.length - q.1) (0, 0, .row 1 []) ?_ ?_ ?_
  · (refine Le.of ?_ ?_ rfl rfl <;> (try simp only [push_cast, seval, hy]) <;> (try (with_reducible rfl)))
    rfl
  · simp
  · rintro ⟨k, v, kd⟩ hk1
    simp only at hk1
    have hol := loanP_len ls kind k
    have hos := loanP_succ ls kind k
    generalize hout : loanP ls kind k = out at hol hos
    repeat (first | apply Wp.seq | apply Wp.block | (apply Run.calm; exact rfl; (simp only [push_cast, seval, hy] <;> (try simp (disch := omega) only [wI, wU, wC]) <;> exact rfl); (focus ((try simp only [push_cast, seval, hy]) <;> exact sT))) | ((first | apply Run.nil | apply Wp.skip); dsimp only [sQ, tQ, bQ]) | (apply Wp.run; (dsimp only [List.map] <;> exact rfl); exact rfl) | (apply Wp.exit; dsimp only [sQ, tQ, bQ]; simp only [reduceIte]))
    (apply Wp.cond; (simp only [push_cast, seval, hy] <;> (try simp (disch := omega) only [wI, wU, wC]) <;> exact rfl))
    · (intro hc; try simp only [decide_eq_true_eq, decide_eq_false_iff_not, Bool.and_eq_true, Bool.or_eq_true, Bool.not_eq_true, Bool.not_eq_false, Bool.not_eq_true', Bool.not_eq_false', Bool.and_eq_false_iff, Bool.or_eq_false_iff, Int.not_lt, Int.not_le, Int.ofNat_lt, Int.ofNat_le] at hc)
      generalize hx : ls.getD k ln0 = x at hos
      repeat (first | apply Wp.seq | apply Wp.block | (apply Run.calm; exact rfl; (simp only [push_cast, seval, hy, hx] <;> (try simp (disch := omega) only [wI, wU, wC]) <;> exact rfl); (focus ((try simp only [push_cast, seval, hy, hx]) <;> exact sT))) | ((first | apply Run.nil | apply Wp.skip); dsimp only [sQ, tQ, bQ]) | (apply Wp.run; (dsimp only [List.map] <;> exact rfl); exact rfl) | (apply Wp.exit; dsimp only [sQ, tQ, bQ]; simp only [reduceIte]))
      (apply Run.alcAt 4; (simp only [push_cast, seval, hy, hx] <;> (try simp (disch := omega) only [wI, wU, wC]) <;> exact rfl); (focus ((try simp only [push_cast, seval, hy, hx]) <;> exact sT)); exact rfl; (try simp only [push_cast, seval, hy, hx]))
      repeat (first | apply Wp.seq | apply Wp.block | (apply Run.next; (simp only [push_cast, seval, hy, hx] <;> (try simp (disch := omega) only [wI, wU, wC]) <;> exact rfl); (focus ((try simp only [push_cast, seval, hy, hx]) <;> exact sT))) | ((first | apply Run.nil | apply Wp.skip); dsimp only [sQ, tQ, bQ]) | (apply Wp.run; (dsimp only [List.map] <;> exact rfl); exact rfl) | (apply Wp.exit; dsimp only [sQ, tQ, bQ]; simp only [reduceIte]))
      (apply Wp.cond; (simp only [push_cast, seval, hy, hx] <;> (try simp (disch := omega) only [wI, wU, wC]) <;> exact rfl))
      · intro h2
        rw [if_pos h2] at hos
        repeat (first | apply Wp.seq | apply Wp.block | (apply Run.next; (simp only [push_cast, seval, hy, hx] <;> (try simp (disch := omega) only [wI, wU, wC]) <;> exact rfl); (focus ((try simp only [push_cast, seval, hy, hx]) <;> exact sT))) | ((first | apply Run.nil | apply Wp.skip); dsimp only [sQ, tQ, bQ]) | (apply Wp.run; (dsimp only [List.map] <;> exact rfl); exact rfl) | (apply Wp.exit; dsimp only [sQ, tQ, bQ]; simp only [reduceIte]))
        refine ⟨(k + 1, v + 1, .row 5 [lnA x]), ?_, by simp only; omega, by simp only; omega⟩
        simp only
        rw [hos, List.length_append]
        (refine Le.of ?_ ?_ rfl rfl <;> (try simp only [push_cast, seval, hy, hx]) <;> (try (with_reducible rfl)))
        simp [T0]
      · intro h2
        rw [if_neg (by rw [h2]; simp)] at hos
        repeat (first | apply Wp.seq | apply Wp.block | (apply Run.next; (simp only [push_cast, seval, hy, hx] <;> (try simp (disch := omega) only [wI, wU, wC]) <;> exact rfl); (focus ((try simp only [push_cast, seval, hy, hx]) <;> exact sT))) | ((first | apply Run.nil | apply Wp.skip); dsimp only [sQ, tQ, bQ]) | (apply Wp.run; (dsimp only [List.map] <;> exact rfl); exact rfl) | (apply Wp.exit; dsimp only [sQ, tQ, bQ]; simp only [reduceIte]))
        refine ⟨(k + 1, v + 1, .row 5 [lnA x]), ?_, by simp only; omega, by simp only; omega⟩
        simp only
        rw [hos]
        (refine Le.of ?_ ?_ rfl rfl <;> (try simp only [push_cast, seval, hy, hx]) <;> (try (with_reducible rfl)))
    · (intro hc; try simp only [decide_eq_true_eq, decide_eq_false_iff_not, Bool.and_eq_true, Bool.or_eq_true, Bool.not_eq_true, Bool.not_eq_false, Bool.not_eq_true', Bool.not_eq_false', Bool.and_eq_false_iff, Bool.or_eq_false_iff, Int.not_lt, Int.not_le, Int.ofNat_lt, Int.ofNat_le] at hc)
      obtain rfl : k = ls.length := by omega
      repeat (first | apply Wp.seq | apply Wp.block | (apply Run.next; (simp only [push_cast, seval, hy] <;> (try simp (disch := omega) only [wI, wU, wC]) <;> exact rfl); (focus ((try simp only [push_cast, seval, hy]) <;> exact sT))) | ((first | apply Run.nil | apply Wp.skip); dsimp only [sQ, tQ, bQ]) | (apply Wp.run; (dsimp only [List.map] <;> exact rfl); exact rfl) | (apply Wp.exit; dsimp only [sQ, tQ, bQ]; simp only [reduceIte]))
      (apply Wp.ret; (try dsimp only [sQ, tQ, bQ]); apply leaveA; exact rfl; (simp only [push_cast, seval, hy] <;> (try simp (disch := omega) only [wI, wU, wC]) <;> exact rfl); (focus (first | (simp only [push_cast, seval, hy]; done) | trivial | (simp only [push_cast, seval, hy]; trivial) | (simp; done))); (try simp only [push_cast, seval, hy]))
      refine ⟨⟨v, kd⟩, ?_⟩
      simp only [blk, benR, hB, hout, List.append_nil]; rfl
end Go.Proofs.Try
set_option maxHeartbeats 8000000
namespace Go.Proofs.Try
open Go.Vg

/-! whether an item fits -/
abbrev benF (ks : List St) (ls : List Ln) (life : Int) (L I W : List Int) (T : List (List Int)) : List AV :=
  [.lst 2 (ks.map stA), .lst 5 (ls.map lnA), .int life, .ints L, .ints I, .ints W, .lst 1 (T.map AV.ints)]
def fitB (ls : List Ln) (life : Int) (W : List Int) (T : List (List Int)) (loan item : Nat) : Bool :=
  decide (W.getD item 0 + (ls.getD loan ln0).uses ≤ life) && !(T.getD item []).any fun i => ovB (ls.getD i.toNat ln0) (ls.getD loan ln0)
theorem fits1_pure {ks : List St} {ls : List Ln} {life : Int} {L I W : List Int} {T : List (List Int)} (l : Ln) (i : Int) (hi : 0 ≤ i ∧ i < ls.length) (hl20 : ls.length ≤ 20) :
    Pure Try.prog 72 [.int i, .ref [.ref (benF ks ls life L I W T) 0] 0, .ref [.int l.kind, .int l.room, .int l.fr, .int l.to, .int l.uses] 0] (.bool (ovB (ls.getD i.toNat ln0) l)) := by
  generalize hx : ls.getD i.toNat ln0 = x
  (refine Spec.of_body Try.func72 rfl (by rw [Try.ntmps72]; simp) 0 (by simp) ?_; rw [Try.results72, Try.ntmps72]; simp only [entry, zipArgs, Nat.reduceAdd])
  repeat (first | apply Wp.seq | apply Wp.block | (apply Run.next; (simp only [push_cast, seval, hx] <;> (try simp (disch := omega) only [wI, wU, wC]) <;> exact rfl); (focus ((try simp only [push_cast, seval, hx]) <;> exact sT))) | ((first | apply Run.nil | apply Wp.skip); dsimp only [sQ, tQ, bQ]) | (apply Wp.run; (dsimp only [List.map] <;> exact rfl); exact rfl) | (apply Wp.exit; dsimp only [sQ, tQ, bQ]; simp only [reduceIte]))
  (apply Wp.runD 11 mixed; (dsimp only [List.map] <;> exact rfl); exact rfl; kernel_rfl; (dsimp only [List.take] <;> exact rfl); (dsimp only [List.drop] <;> exact rfl); (((repeat (apply Abn.next; (simp only [push_cast, seval, hx] <;> (try simp (disch := omega) only [wI, wU, wC]) <;> exact rfl); (focus ((try simp only [push_cast, seval, hx]) <;> exact sT)))); (apply Abn.pureP; (simp only [push_cast, seval, hx] <;> (try simp (disch := omega) only [wI, wU, wC]) <;> exact rfl); (exact (Enters.of Try.func25 rfl rfl)); (exact overlap_pure x l); (focus (simp only [push_cast, seval, hx] <;> first | trivial | assumption | (refine ⟨?_, ?_⟩ <;> assumption) | (simp; done))); (try dsimp only [putA, optG])); (repeat (apply Abn.next; (simp only [push_cast, seval, hx] <;> (try simp (disch := omega) only [wI, wU, wC]) <;> exact rfl); (focus ((try simp only [push_cast, seval, hx]) <;> exact sT))))); exact Abn.nil))
  repeat (first | apply Wp.seq | apply Wp.block | (apply Run.next; (simp only [push_cast, seval, hx] <;> (try simp (disch := omega) only [wI, wU, wC]) <;> exact rfl); (focus ((try simp only [push_cast, seval, hx]) <;> exact sT))) | ((first | apply Run.nil | apply Wp.skip); dsimp only [sQ, tQ, bQ]) | (apply Wp.run; (dsimp only [List.map] <;> exact rfl); exact rfl) | (apply Wp.exit; dsimp only [sQ, tQ, bQ]; simp only [reduceIte]))
  (apply Wp.ret; (try dsimp only [sQ, tQ, bQ]); apply leave0; exact rfl; (simp only [push_cast, seval, hx] <;> (try simp (disch := omega) only [wI, wU, wC]) <;> exact rfl); all_goals (try simp only [push_cast, seval, hx]); (try rfl))
theorem fits_pure {ks : List St} {ls : List Ln} {life : Int} {L I W : List Int} {T : List (List Int)} (loan item : Int) (hl : 0 ≤ loan ∧ loan < ls.length) (hi : 0 ≤ item ∧ item < T.length) (hW : W.length = T.length) (h20 : ls.length ≤ 20) (h8 : T.length ≤ 100)
    (hu : 0 ≤ (ls.getD loan.toNat ln0).uses ∧ (ls.getD loan.toNat ln0).uses ≤ 100) (hw : 0 ≤ W.getD item.toNat 0 ∧ W.getD item.toNat 0 ≤ 10000) (hT : ∀ x ∈ T.getD item.toNat [], 0 ≤ x ∧ x < (ls.length : Int)) (hTl : (T.getD item.toNat []).length ≤ 1000) :
    Pure Try.prog 55 [.ref (benF ks ls life L I W T) 0, .int loan, .int item] (.bool (fitB ls life W T loan.toNat item.toNat)) := by
  unfold fitB
  generalize hx : ls.getD loan.toNat ln0 = x at hu
  generalize hz : W.getD item.toNat 0 = z at hw
  generalize ht : T.getD item.toNat [] = t at hT hTl
  (refine Spec.of_body Try.func55 rfl (by rw [Try.ntmps55]; simp) 0 (by simp) ?_; rw [Try.results55, Try.ntmps55]; simp only [entry, zipArgs, Nat.reduceAdd])
  repeat (first | apply Wp.seq | apply Wp.block | (apply Run.next; (simp only [push_cast, seval, hx, hz, ht, hW] <;> (try simp (disch := omega) only [wI, wU, wC]) <;> exact rfl); (focus ((try simp only [push_cast, seval, hx, hz, ht, hW]) <;> exact sT))) | ((first | apply Run.nil | apply Wp.skip); dsimp only [sQ, tQ, bQ]) | (apply Wp.run; (dsimp only [List.map] <;> exact rfl); exact rfl) | (apply Wp.exit; dsimp only [sQ, tQ, bQ]; simp only [reduceIte]))
  (apply Wp.runD 28 mixed; (dsimp only [List.map] <;> exact rfl); exact rfl; kernel_rfl; (dsimp only [List.take] <;> exact rfl); (dsimp only [List.drop] <;> exact rfl); (((repeat (apply Abn.next; (simp only [push_cast, seval, hx, hz, ht, hW] <;> (try simp (disch := omega) only [wI, wU, wC]) <;> exact rfl); (focus ((try simp only [push_cast, seval, hx, hz, ht, hW]) <;> exact sT)))); (apply Abn.pureP; (simp only [push_cast, seval, hx, hz, ht, hW] <;> (try simp (disch := omega) only [wI, wU, wC]) <;> exact rfl); (exact (Enters.of Try.func71 rfl rfl)); (exact (containsFuncI t _ _ _ (Enters.of Try.func72 rfl rfl) (by simp only [push_cast]) (fun m => ⟨rfl, rfl⟩) (fun i hi => fits1_pure x i (hT i hi) h20) (by omega))); (focus (simp only [push_cast, seval, hx, hz, ht, hW] <;> first | trivial | assumption | (refine ⟨?_, ?_⟩ <;> assumption) | (simp; done))); (try dsimp only [putA, optG])); (repeat (apply Abn.next; (simp only [push_cast, seval, hx, hz, ht, hW] <;> (try simp (disch := omega) only [wI, wU, wC]) <;> exact rfl); (focus ((try simp only [push_cast, seval, hx, hz, ht, hW]) <;> exact sT))))); exact Abn.nil))
  repeat (first | apply Wp.seq | apply Wp.block | (apply Run.next; (simp only [push_cast, seval, hx, hz, ht, hW] <;> (try simp (disch := omega) only [wI, wU, wC]) <;> exact rfl); (focus ((try simp only [push_cast, seval, hx, hz, ht, hW]) <;> exact sT))) | ((first | apply Run.nil | apply Wp.skip); dsimp only [sQ, tQ, bQ]) | (apply Wp.run; (dsimp only [List.map] <;> exact rfl); exact rfl) | (apply Wp.exit; dsimp only [sQ, tQ, bQ]; simp only [reduceIte]))
  (apply Wp.ret; (try dsimp only [sQ, tQ, bQ]); apply leave0; exact rfl; (simp only [push_cast, seval, hx, hz, ht, hW] <;> (try simp (disch := omega) only [wI, wU, wC]) <;> exact rfl); all_goals (try simp only [push_cast, seval, hx, hz, ht, hW]); (try rfl))
end Go.Proofs.Try
set_option maxHeartbeats 8000000
namespace Go.Proofs.Try
open Go.Vg

/-! an item is lent, and taken back -/
theorem lentR_getD {N : Nat} : ∀ {T : List (Nat × List Int)} {k j : Nat} (d : AV), j < T.length → (lentR N k T).getD j d = .osl (N + (k + j)) (T.getD j (0, [])).1 0 (T.getD j (0, [])).2.length
  | [], _, _, _, h => by simp at h
  | t :: T, k, 0, _, _ => by simp [lentR]
  | t :: T, k, j + 1, d, h => by
    have := lentR_getD (N := N) (T := T) (k := k + 1) (j := j) d (by simpa using h)
    simp only [lentR, List.getD_cons_succ, this]
    rw [show k + 1 + j = k + (j + 1) by omega]
theorem lentR_set {N : Nat} : ∀ {T : List (Nat × List Int)} {k j : Nat} {v : Nat} {l : List Int}, (lentR N k T).set j (.osl (N + (k + j)) v 0 l.length) = lentR N k (T.set j (v, l))
  | [], _, _, _, _ => rfl
  | t :: T, k, 0, _, _ => by simp [lentR]
  | t :: T, k, j + 1, v, l => by
    have := lentR_set (N := N) (T := T) (k := k + 1) (j := j) (v := v) (l := l)
    simp only [lentR, List.set_cons_succ]
    rw [← this, show k + 1 + j = k + (j + 1) by omega]
theorem get7 {a0 a1 a2 a3 a4 a5 a6 : Ent} {l : Mem} {j : Nat} : (a0 :: a1 :: a2 :: a3 :: a4 :: a5 :: a6 :: l)[7 + j]? = l[j]? := by
  rw [show 7 + j = j + 7 by omega]; rfl
theorem set7 {a0 a1 a2 a3 a4 a5 a6 e : Ent} {l : Mem} {j : Nat} : (a0 :: a1 :: a2 :: a3 :: a4 :: a5 :: a6 :: l).set (7 + j) e = a0 :: a1 :: a2 :: a3 :: a4 :: a5 :: a6 :: l.set j e := by
  rw [show 7 + j = j + 7 by omega]; rfl
theorem lentE_get {T : List (Nat × List Int)} {G : Mem} {j : Nat} (h : j < T.length) : (T.map lentE ++ G)[j]? = some (lentE (T.getD j (0, []))) := by
  rw [List.getElem?_append_left (by simpa using h)]; simp [h]
theorem lentE_set {T : List (Nat × List Int)} {G : Mem} {j : Nat} (h : j < T.length) (v : Nat) (l : List Int) : (T.map lentE ++ G).set j ⟨v, .row 1 (l.map AV.int)⟩ = (T.set j (v, l)).map lentE ++ G := by
  rw [List.set_append_left _ _ (by simpa using h), List.map_set]; rfl
def lentT (T : List (Nat × List Int)) (j : Nat) (loan : Int) : List (Nat × List Int) := T.set j ((T.getD j (0, [])).1 + 1, (T.getD j (0, [])).2 ++ [loan])
theorem lend_spec {F G : Mem} {N : Nat} (hF : F.length = N) {ks : List St} {ls : List Ln} {e0 e4 : Ent} {life : Int} {L I W : List Int} {vi : Nat} {T : List (Nat × List Int)} (loan item : Int) (hl : 0 ≤ loan ∧ loan < ls.length) (hi : 0 ≤ item ∧ item < T.length) (hW : W.length = T.length)
    (h20 : ls.length ≤ 20) (h8 : T.length ≤ 100) (hI : I.length ≤ 1000) (hu : 0 ≤ (ls.getD loan.toNat ln0).uses ∧ (ls.getD loan.toNat ln0).uses ≤ 100) (hw : 0 ≤ W.getD item.toNat 0 ∧ W.getD item.toNat 0 ≤ 10000) (hTl : (T.getD item.toNat (0, [])).2.length ≤ 1000) :
    Go.Vg.Spec Try.prog 56 [.optr (N + 3) 1 0 0, .int loan, .int item] (F ++ blk N ks ls e0 e4 life L vi I W T G) (fun _ m' => m' = F ++ blk N ks ls e0 e4 life L (vi + 1) (I ++ [item]) (W.set item.toNat (W.getD item.toNat 0 + (ls.getD loan.toNat ln0).uses)) (lentT T item.toNat loan) G) := by
  unfold lentT
  generalize hx : ls.getD loan.toNat ln0 = x at hu
  generalize hz : W.getD item.toNat 0 = z at hw
  have hlg : ∀ d, (lentR N 7 T).getD item.toNat d = .osl (N + (7 + item.toNat)) (T.getD item.toNat (0, [])).1 0 (T.getD item.toNat (0, [])).2.length := fun d => lentR_getD d (by omega)
  have heg := lentE_get (T := T) (G := G) (j := item.toNat) (by omega)
  have hsg := fun v l => lentE_set (T := T) (G := G) (j := item.toNat) (by omega) v l
  have hrs := fun v l => lentR_set (N := N) (T := T) (k := 7) (j := item.toNat) (v := v) (l := l)
  generalize ht : T.getD item.toNat (0, []) = t at hTl hlg heg
  obtain ⟨tv, tl⟩ := t
  simp only at hTl hlg
  rw [lentE] at heg
  simp only at heg
  (refine Spec.of_bodyA Try.func56 rfl (by rw [Try.ntmps56]; simp) ?_; rw [Try.results56, Try.ntmps56]; simp only [entry, zipArgs, Nat.reduceAdd])
  repeat (first | apply Wp.seq | apply Wp.block | (apply Run.next; (simp only [push_cast, seval, hx, hz, hW, hlg, getF hF, getF0 hF, setF hF, setF0 hF, get7, set7, heg, lentR_len, hsg] <;> (try simp (disch := omega) only [wI, wU, wC]) <;> exact rfl); (focus ((try simp only [push_cast, seval, hx, hz, hW, hlg, getF hF, getF0 hF, setF hF, setF0 hF, get7, set7, heg, lentR_len, hsg]) <;> exact sT))) | ((first | apply Run.nil | apply Wp.skip); dsimp only [sQ, tQ, bQ]) | (apply Wp.run; (dsimp only [List.map] <;> exact rfl); exact rfl) | (apply Wp.exit; dsimp only [sQ, tQ, bQ]; simp only [reduceIte]))
  (apply Wp.cond; (simp only [push_cast, seval, hx, hz, hW, hlg, getF hF, getF0 hF, setF hF, setF0 hF, get7, set7, heg, lentR_len, hsg] <;> (try simp (disch := omega) only [wI, wU, wC]) <;> exact rfl))
  · (intro hc; try simp only [decide_eq_true_eq, decide_eq_false_iff_not, Bool.and_eq_true, Bool.or_eq_true, Bool.not_eq_true, Bool.not_eq_false, Bool.not_eq_true', Bool.not_eq_false', Bool.and_eq_false_iff, Bool.or_eq_false_iff, Int.not_lt, Int.not_le, Int.ofNat_lt, Int.ofNat_le] at hc)
    repeat (first | apply Wp.seq | apply Wp.block | (apply Run.next; (simp only [push_cast, seval, hx, hz, hW, hlg, getF hF, getF0 hF, setF hF, setF0 hF, get7, set7, heg, lentR_len, hsg] <;> (try simp (disch := omega) only [wI, wU, wC]) <;> exact rfl); (focus ((try simp only [push_cast, seval, hx, hz, hW, hlg, getF hF, getF0 hF, setF hF, setF0 hF, get7, set7, heg, lentR_len, hsg]) <;> exact sT))) | ((first | apply Run.nil | apply Wp.skip); dsimp only [sQ, tQ, bQ]) | (apply Wp.run; (dsimp only [List.map] <;> exact rfl); exact rfl) | (apply Wp.exit; dsimp only [sQ, tQ, bQ]; simp only [reduceIte]))
    (apply Wp.runE 18 18 mixed; (dsimp only [List.map] <;> exact rfl); exact rfl; kernel_rfl; ((repeat (apply Abe.next; exact rfl; (simp only [push_cast, seval, hx, hz, hW, hlg, getF hF, getF0 hF, setF hF, setF0 hF, get7, set7, heg, lentR_len, hsg] <;> (try simp (disch := omega) only [wI, wU, wC]) <;> exact rfl); (focus ((try simp only [push_cast, seval, hx, hz, hW, hlg, getF hF, getF0 hF, setF hF, setF0 hF, get7, set7, heg, lentR_len, hsg]) <;> exact sT)))); (apply Abe.eff; exact rfl; (simp only [push_cast, seval, hx, hz, hW, hlg, getF hF, getF0 hF, setF hF, setF0 hF, get7, set7, heg, lentR_len, hsg] <;> (try simp (disch := omega) only [wI, wU, wC]) <;> exact rfl); (focus ((try simp only [push_cast, seval, hx, hz, hW, hlg, getF hF, getF0 hF, setF hF, setF0 hF, get7, set7, heg, lentR_len, hsg]) <;> exact sT)); (try dsimp only [putA])); (repeat (apply Abe.next; exact rfl; (simp only [push_cast, seval, hx, hz, hW, hlg, getF hF, getF0 hF, setF hF, setF0 hF, get7, set7, heg, lentR_len, hsg] <;> (try simp (disch := omega) only [wI, wU, wC]) <;> exact rfl); (focus ((try simp only [push_cast, seval, hx, hz, hW, hlg, getF hF, getF0 hF, setF hF, setF0 hF, get7, set7, heg, lentR_len, hsg]) <;> exact sT)))); exact Abe.nil))
    repeat (first | apply Wp.seq | apply Wp.block | (apply Run.next; (simp only [push_cast, seval, hx, hz, hW, hlg, getF hF, getF0 hF, setF hF, setF0 hF, get7, set7, heg, lentR_len, hsg] <;> (try simp (disch := omega) only [wI, wU, wC]) <;> exact rfl); (focus ((try simp only [push_cast, seval, hx, hz, hW, hlg, getF hF, getF0 hF, setF hF, setF0 hF, get7, set7, heg, lentR_len, hsg]) <;> exact sT))) | ((first | apply Run.nil | apply Wp.skip); dsimp only [sQ, tQ, bQ]) | (apply Wp.run; (dsimp only [List.map] <;> exact rfl); exact rfl) | (apply Wp.exit; dsimp only [sQ, tQ, bQ]; simp only [reduceIte]))
    (apply Wp.runW 14 16 (fun m => m.set (N + (7 + item.toNat)) ⟨tv + 1, .row 1 ((tl ++ [loan]).map AV.int)⟩) mixed; (dsimp only [List.map] <;> exact rfl); exact rfl; kernel_rfl; kernel_rfl; (dsimp only; ((repeat (first | (apply AbW.bld; exact rfl; kernel_rfl; (simp only [push_cast, seval, hx, hz, hW, hlg, getF hF, getF0 hF, setF hF, setF0 hF, get7, set7, heg, lentR_len, hsg] <;> (try simp (disch := omega) only [wI, wU, wC]) <;> exact rfl); (focus ((try simp only [push_cast, seval, hx, hz, hW, hlg, getF hF, getF0 hF, setF hF, setF0 hF, get7, set7, heg, lentR_len, hsg]) <;> exact sT)); dsimp only [upd]) | (apply AbW.both; exact rfl; kernel_rfl; (simp only [push_cast, seval, hx, hz, hW, hlg, getF hF, getF0 hF, setF hF, setF0 hF, get7, set7, heg, lentR_len, hsg] <;> (try simp (disch := omega) only [wI, wU, wC]) <;> exact rfl); (focus ((try simp only [push_cast, seval, hx, hz, hW, hlg, getF hF, getF0 hF, setF hF, setF0 hF, get7, set7, heg, lentR_len, hsg]) <;> exact sT)); (simp only [push_cast, seval, hx, hz, hW, hlg, getF hF, getF0 hF, setF hF, setF0 hF, get7, set7, heg, lentR_len, hsg] <;> (try simp (disch := omega) only [wI, wU, wC]) <;> exact rfl); (focus ((try simp only [push_cast, seval, hx, hz, hW, hlg, getF hF, getF0 hF, setF hF, setF0 hF, get7, set7, heg, lentR_len, hsg]) <;> exact sT)); dsimp only [upd]) | (apply AbW.eff1; exact rfl; exact rfl; (simp only [push_cast, seval, hx, hz, hW, hlg, getF hF, getF0 hF, setF hF, setF0 hF, get7, set7, heg, lentR_len, hsg] <;> (try simp (disch := omega) only [wI, wU, wC]) <;> exact rfl); (focus ((try simp only [push_cast, seval, hx, hz, hW, hlg, getF hF, getF0 hF, setF hF, setF0 hF, get7, set7, heg, lentR_len, hsg]) <;> exact sT)); (try dsimp only [upd])) | (apply AbW.eff2; exact rfl; exact rfl; (simp only [push_cast, seval, hx, hz, hW, hlg, getF hF, getF0 hF, setF hF, setF0 hF, get7, set7, heg, lentR_len, hsg] <;> (try simp (disch := omega) only [wI, wU, wC]) <;> exact rfl); (focus ((try simp only [push_cast, seval, hx, hz, hW, hlg, getF hF, getF0 hF, setF hF, setF0 hF, get7, set7, heg, lentR_len, hsg]) <;> exact sT)); (try dsimp only [upd]))))); exact AbW.nil))
    repeat (first | apply Wp.seq | apply Wp.block | (apply Run.next; (simp only [push_cast, seval, hx, hz, hW, hlg, getF hF, getF0 hF, setF hF, setF0 hF, get7, set7, heg, lentR_len, hsg] <;> (try simp (disch := omega) only [wI, wU, wC]) <;> exact rfl); (focus ((try simp only [push_cast, seval, hx, hz, hW, hlg, getF hF, getF0 hF, setF hF, setF0 hF, get7, set7, heg, lentR_len, hsg]) <;> exact sT))) | ((first | apply Run.nil | apply Wp.skip); dsimp only [sQ, tQ, bQ]) | (apply Wp.run; (dsimp only [List.map] <;> exact rfl); exact rfl) | (apply Wp.exit; dsimp only [sQ, tQ, bQ]; simp only [reduceIte]))
    (apply leaveAN; exact rfl; (simp only [push_cast, seval, hx, hz, hW, hlg, getF hF, getF0 hF, setF hF, setF0 hF, get7, set7, heg, lentR_len, hsg] <;> (try simp (disch := omega) only [wI, wU, wC]) <;> exact rfl); (focus (first | (simp only [push_cast, seval, hx, hz, hW, hlg, getF hF, getF0 hF, setF hF, setF0 hF, get7, set7, heg, lentR_len, hsg]; done) | trivial | (simp only [push_cast, seval, hx, hz, hW, hlg, getF hF, getF0 hF, setF hF, setF0 hF, get7, set7, heg, lentR_len, hsg]; trivial) | (simp; done))); (try simp only [push_cast, seval, hx, hz, hW, hlg, getF hF, getF0 hF, setF hF, setF0 hF, get7, set7, heg, lentR_len, hsg]))
    have e := hrs (tv + 1) (tl ++ [loan])
    rw [List.length_append] at e
    simp [blk, benR, hW]
    exact e
  · intro h2
    simp at h2; omega
def backT (T : List (Nat × List Int)) (j : Nat) : List (Nat × List Int) := T.set j ((T.getD j (0, [])).1, (T.getD j (0, [])).2.dropLast)
theorem back_spec {F G : Mem} {N : Nat} (hF : F.length = N) {ks : List St} {ls : List Ln} {e0 e4 : Ent} {life : Int} {L I W : List Int} {vi : Nat} {T : List (Nat × List Int)} (loan item : Int) (hl : 0 ≤ loan ∧ loan < ls.length) (hi : 0 ≤ item ∧ item < T.length) (hW : W.length = T.length)
    (h20 : ls.length ≤ 20) (h8 : T.length ≤ 100) (hI : I.length ≤ 1000) (hu : 0 ≤ (ls.getD loan.toNat ln0).uses ∧ (ls.getD loan.toNat ln0).uses ≤ 100) (hw : 0 ≤ W.getD item.toNat 0 ∧ W.getD item.toNat 0 ≤ 10000) (hTl : 1 ≤ (T.getD item.toNat (0, [])).2.length ∧ (T.getD item.toNat (0, [])).2.length ≤ 1000) :
    Go.Vg.Spec Try.prog 57 [.optr (N + 3) 1 0 0, .int loan] (F ++ blk N ks ls e0 e4 life L vi (I ++ [item]) W T G) (fun _ m' => m' = F ++ blk N ks ls e0 e4 life L vi I (W.set item.toNat (W.getD item.toNat 0 - (ls.getD loan.toNat ln0).uses)) (backT T item.toNat) G) := by
  unfold backT
  generalize hx : ls.getD loan.toNat ln0 = x at hu
  generalize hz : W.getD item.toNat 0 = z at hw
  have hlg : ∀ d, (lentR N 7 T).getD item.toNat d = .osl (N + (7 + item.toNat)) (T.getD item.toNat (0, [])).1 0 (T.getD item.toNat (0, [])).2.length := fun d => lentR_getD d (by omega)
  have heg := lentE_get (T := T) (G := G) (j := item.toNat) (by omega)
  have hsg := fun v l => lentE_set (T := T) (G := G) (j := item.toNat) (by omega) v l
  have hrs := fun v l => lentR_set (N := N) (T := T) (k := 7) (j := item.toNat) (v := v) (l := l)
  generalize ht : T.getD item.toNat (0, []) = t at hTl hlg heg
  obtain ⟨tv, tl⟩ := t
  simp only at hTl hlg
  rw [lentE] at heg
  simp only at heg
  have hdl : tl.dropLast = tl.take (tl.length - 1) := List.dropLast_eq_take ..
  have hlast : (I ++ [item]).getD I.length 0 = item := by simp
  have htk : (I ++ [item]).take I.length = I := by simp
  have hJl : (I ++ [item]).length = I.length + 1 := by simp
  generalize I ++ [item] = J at hlast htk hJl
  (refine Spec.of_bodyA Try.func57 rfl (by rw [Try.ntmps57]; simp) ?_; rw [Try.results57, Try.ntmps57]; simp only [entry, zipArgs, Nat.reduceAdd])
  repeat (first | apply Wp.seq | apply Wp.block | (apply Run.next; (simp only [push_cast, seval, hx, hz, hW, hlg, getF hF, getF0 hF, setF hF, setF0 hF, get7, set7, heg, lentR_len, hsg, hlast, hJl, Int.add_sub_cancel, ← List.map_take, htk, Nat.sub_zero] <;> (try simp (disch := omega) only [wI, wU, wC]) <;> exact rfl); (focus ((try simp only [push_cast, seval, hx, hz, hW, hlg, getF hF, getF0 hF, setF hF, setF0 hF, get7, set7, heg, lentR_len, hsg, hlast, hJl, Int.add_sub_cancel, ← List.map_take, htk, Nat.sub_zero]) <;> exact sT))) | ((first | apply Run.nil | apply Wp.skip); dsimp only [sQ, tQ, bQ]) | (apply Wp.run; (dsimp only [List.map] <;> exact rfl); exact rfl) | (apply Wp.exit; dsimp only [sQ, tQ, bQ]; simp only [reduceIte]))
  (apply Wp.cond; (simp only [push_cast, seval, hx, hz, hW, hlg, getF hF, getF0 hF, setF hF, setF0 hF, get7, set7, heg, lentR_len, hsg, hlast, hJl, Int.add_sub_cancel, ← List.map_take, htk, Nat.sub_zero] <;> (try simp (disch := omega) only [wI, wU, wC]) <;> exact rfl))
  · (intro hc; try simp only [decide_eq_true_eq, decide_eq_false_iff_not, Bool.and_eq_true, Bool.or_eq_true, Bool.not_eq_true, Bool.not_eq_false, Bool.not_eq_true', Bool.not_eq_false', Bool.and_eq_false_iff, Bool.or_eq_false_iff, Int.not_lt, Int.not_le, Int.ofNat_lt, Int.ofNat_le] at hc)
    repeat (first | apply Wp.seq | apply Wp.block | (apply Run.next; (simp only [push_cast, seval, hx, hz, hW, hlg, getF hF, getF0 hF, setF hF, setF0 hF, get7, set7, heg, lentR_len, hsg, hlast, hJl, Int.add_sub_cancel, ← List.map_take, htk, Nat.sub_zero] <;> (try simp (disch := omega) only [wI, wU, wC]) <;> exact rfl); (focus ((try simp only [push_cast, seval, hx, hz, hW, hlg, getF hF, getF0 hF, setF hF, setF0 hF, get7, set7, heg, lentR_len, hsg, hlast, hJl, Int.add_sub_cancel, ← List.map_take, htk, Nat.sub_zero]) <;> exact sT))) | ((first | apply Run.nil | apply Wp.skip); dsimp only [sQ, tQ, bQ]) | (apply Wp.run; (dsimp only [List.map] <;> exact rfl); exact rfl) | (apply Wp.exit; dsimp only [sQ, tQ, bQ]; simp only [reduceIte]))
    (apply Wp.runE 18 18 mixed; (dsimp only [List.map] <;> exact rfl); exact rfl; kernel_rfl; ((repeat (apply Abe.next; exact rfl; (simp only [push_cast, seval, hx, hz, hW, hlg, getF hF, getF0 hF, setF hF, setF0 hF, get7, set7, heg, lentR_len, hsg, hlast, hJl, Int.add_sub_cancel, ← List.map_take, htk, Nat.sub_zero] <;> (try simp (disch := omega) only [wI, wU, wC]) <;> exact rfl); (focus ((try simp only [push_cast, seval, hx, hz, hW, hlg, getF hF, getF0 hF, setF hF, setF0 hF, get7, set7, heg, lentR_len, hsg, hlast, hJl, Int.add_sub_cancel, ← List.map_take, htk, Nat.sub_zero]) <;> exact sT)))); (apply Abe.eff; exact rfl; (simp only [push_cast, seval, hx, hz, hW, hlg, getF hF, getF0 hF, setF hF, setF0 hF, get7, set7, heg, lentR_len, hsg, hlast, hJl, Int.add_sub_cancel, ← List.map_take, htk, Nat.sub_zero] <;> (try simp (disch := omega) only [wI, wU, wC]) <;> exact rfl); (focus ((try simp only [push_cast, seval, hx, hz, hW, hlg, getF hF, getF0 hF, setF hF, setF0 hF, get7, set7, heg, lentR_len, hsg, hlast, hJl, Int.add_sub_cancel, ← List.map_take, htk, Nat.sub_zero]) <;> exact sT)); (try dsimp only [putA])); (repeat (apply Abe.next; exact rfl; (simp only [push_cast, seval, hx, hz, hW, hlg, getF hF, getF0 hF, setF hF, setF0 hF, get7, set7, heg, lentR_len, hsg, hlast, hJl, Int.add_sub_cancel, ← List.map_take, htk, Nat.sub_zero] <;> (try simp (disch := omega) only [wI, wU, wC]) <;> exact rfl); (focus ((try simp only [push_cast, seval, hx, hz, hW, hlg, getF hF, getF0 hF, setF hF, setF0 hF, get7, set7, heg, lentR_len, hsg, hlast, hJl, Int.add_sub_cancel, ← List.map_take, htk, Nat.sub_zero]) <;> exact sT)))); exact Abe.nil))
    repeat (first | apply Wp.seq | apply Wp.block | (apply Run.next; (simp only [push_cast, seval, hx, hz, hW, hlg, getF hF, getF0 hF, setF hF, setF0 hF, get7, set7, heg, lentR_len, hsg, hlast, hJl, Int.add_sub_cancel, ← List.map_take, htk, Nat.sub_zero] <;> (try simp (disch := omega) only [wI, wU, wC]) <;> exact rfl); (focus ((try simp only [push_cast, seval, hx, hz, hW, hlg, getF hF, getF0 hF, setF hF, setF0 hF, get7, set7, heg, lentR_len, hsg, hlast, hJl, Int.add_sub_cancel, ← List.map_take, htk, Nat.sub_zero]) <;> exact sT))) | ((first | apply Run.nil | apply Wp.skip); dsimp only [sQ, tQ, bQ]) | (apply Wp.run; (dsimp only [List.map] <;> exact rfl); exact rfl) | (apply Wp.exit; dsimp only [sQ, tQ, bQ]; simp only [reduceIte]))
    (apply Wp.runE 23 23 mixed; (dsimp only [List.map] <;> exact rfl); exact rfl; kernel_rfl; ((repeat (apply Abe.next; exact rfl; (simp only [push_cast, seval, hx, hz, hW, hlg, getF hF, getF0 hF, setF hF, setF0 hF, get7, set7, heg, lentR_len, hsg, hlast, hJl, Int.add_sub_cancel, ← List.map_take, htk, Nat.sub_zero] <;> (try simp (disch := omega) only [wI, wU, wC]) <;> exact rfl); (focus ((try simp only [push_cast, seval, hx, hz, hW, hlg, getF hF, getF0 hF, setF hF, setF0 hF, get7, set7, heg, lentR_len, hsg, hlast, hJl, Int.add_sub_cancel, ← List.map_take, htk, Nat.sub_zero]) <;> exact sT)))); (apply Abe.eff; exact rfl; (simp only [push_cast, seval, hx, hz, hW, hlg, getF hF, getF0 hF, setF hF, setF0 hF, get7, set7, heg, lentR_len, hsg, hlast, hJl, Int.add_sub_cancel, ← List.map_take, htk, Nat.sub_zero] <;> (try simp (disch := omega) only [wI, wU, wC]) <;> exact rfl); (focus ((try simp only [push_cast, seval, hx, hz, hW, hlg, getF hF, getF0 hF, setF hF, setF0 hF, get7, set7, heg, lentR_len, hsg, hlast, hJl, Int.add_sub_cancel, ← List.map_take, htk, Nat.sub_zero]) <;> exact sT)); (try dsimp only [putA])); (repeat (apply Abe.next; exact rfl; (simp only [push_cast, seval, hx, hz, hW, hlg, getF hF, getF0 hF, setF hF, setF0 hF, get7, set7, heg, lentR_len, hsg, hlast, hJl, Int.add_sub_cancel, ← List.map_take, htk, Nat.sub_zero] <;> (try simp (disch := omega) only [wI, wU, wC]) <;> exact rfl); (focus ((try simp only [push_cast, seval, hx, hz, hW, hlg, getF hF, getF0 hF, setF hF, setF0 hF, get7, set7, heg, lentR_len, hsg, hlast, hJl, Int.add_sub_cancel, ← List.map_take, htk, Nat.sub_zero]) <;> exact sT)))); exact Abe.nil))
    (apply Wp.trim (N + (7 + item.toNat)) ( tl.length - 1); (simp only [push_cast, seval, hx, hz, hW, hlg, getF hF, getF0 hF, setF hF, setF0 hF, get7, set7, heg, lentR_len, hsg, hlast, hJl, Int.add_sub_cancel, ← List.map_take, htk, Nat.sub_zero] <;> (try simp (disch := omega) only [wI, wU, wC]) <;> exact rfl); (try simp only [push_cast, seval, hx, hz, hW, hlg, getF hF, getF0 hF, setF hF, setF0 hF, get7, set7, heg, lentR_len, hsg, hlast, hJl, Int.add_sub_cancel, ← List.map_take, htk, Nat.sub_zero]))
    repeat (first | apply Wp.seq | apply Wp.block | (apply Wp.skip; dsimp only [sQ, tQ, bQ]))
    (apply Wp.run; (dsimp only [List.map] <;> exact rfl); exact rfl)
    iterate 7 (apply Run.next; (simp only [push_cast, seval, hx, hz, hW, hlg, getF hF, getF0 hF, setF hF, setF0 hF, get7, set7, heg, lentR_len, hsg, hlast, hJl, Int.add_sub_cancel, ← List.map_take, htk, Nat.sub_zero] <;> (try simp (disch := omega) only [wI, wU, wC]) <;> exact rfl); (focus ((try simp only [push_cast, seval, hx, hz, hW, hlg, getF hF, getF0 hF, setF hF, setF0 hF, get7, set7, heg, lentR_len, hsg, hlast, hJl, Int.add_sub_cancel, ← List.map_take, htk, Nat.sub_zero]) <;> exact sT)))
    (apply Run.trim (N + 6) ( I.length); (simp only [push_cast, seval, hx, hz, hW, hlg, getF hF, getF0 hF, setF hF, setF0 hF, get7, set7, heg, lentR_len, hsg, hlast, hJl, Int.add_sub_cancel, ← List.map_take, htk, Nat.sub_zero] <;> (try simp (disch := omega) only [wI, wU, wC]) <;> exact rfl); (simp only [push_cast, seval, hx, hz, hW, hlg, getF hF, getF0 hF, setF hF, setF0 hF, get7, set7, heg, lentR_len, hsg, hlast, hJl, Int.add_sub_cancel, ← List.map_take, htk, Nat.sub_zero] <;> (try simp (disch := omega) only [wI, wU, wC]) <;> exact rfl); (try simp only [push_cast, seval, hx, hz, hW, hlg, getF hF, getF0 hF, setF hF, setF0 hF, get7, set7, heg, lentR_len, hsg, hlast, hJl, Int.add_sub_cancel, ← List.map_take, htk, Nat.sub_zero]))
    iterate 3 (apply Run.next; (simp only [push_cast, seval, hx, hz, hW, hlg, getF hF, getF0 hF, setF hF, setF0 hF, get7, set7, heg, lentR_len, hsg, hlast, hJl, Int.add_sub_cancel, ← List.map_take, htk, Nat.sub_zero] <;> (try simp (disch := omega) only [wI, wU, wC]) <;> exact rfl); (focus ((try simp only [push_cast, seval, hx, hz, hW, hlg, getF hF, getF0 hF, setF hF, setF0 hF, get7, set7, heg, lentR_len, hsg, hlast, hJl, Int.add_sub_cancel, ← List.map_take, htk, Nat.sub_zero]) <;> exact sT)))
    apply Run.nil
    (apply leaveAN; exact rfl; (simp only [push_cast, seval, hx, hz, hW, hlg, getF hF, getF0 hF, setF hF, setF0 hF, get7, set7, heg, lentR_len, hsg, hlast, hJl, Int.add_sub_cancel, ← List.map_take, htk, Nat.sub_zero] <;> (try simp (disch := omega) only [wI, wU, wC]) <;> exact rfl); (focus (first | (simp only [push_cast, seval, hx, hz, hW, hlg, getF hF, getF0 hF, setF hF, setF0 hF, get7, set7, heg, lentR_len, hsg, hlast, hJl, Int.add_sub_cancel, ← List.map_take, htk, Nat.sub_zero]; done) | trivial | (simp only [push_cast, seval, hx, hz, hW, hlg, getF hF, getF0 hF, setF hF, setF0 hF, get7, set7, heg, lentR_len, hsg, hlast, hJl, Int.add_sub_cancel, ← List.map_take, htk, Nat.sub_zero]; trivial) | (simp; done))); (try simp only [push_cast, seval, hx, hz, hW, hlg, getF hF, getF0 hF, setF hF, setF0 hF, get7, set7, heg, lentR_len, hsg, hlast, hJl, Int.add_sub_cancel, ← List.map_take, htk, Nat.sub_zero]))
    have e := hrs tv tl.dropLast
    rw [List.length_dropLast] at e
    simp [blk, benR, hW, htk, hdl] at e ⊢
    exact e
  · intro h2
    simp at h2; omega
end Go.Proofs.Try
set_option maxHeartbeats 8000000
namespace Go.Proofs.Try
open Go.Vg

/-! a bench, read as frozen -/
theorem VwL.selfs {m : Mem} : ∀ {xs : List AV}, okL 0 xs → VwL m xs xs
  | [], _ => .nil
  | x :: xs, h => .cons (.self h.1) (VwL.selfs h.2)
theorem Vw.oints {m : Mem} {id ver : Nat} {l : List Int} (n : Nat) (hn : n = l.length) (hm : m[id]? = some ⟨ver, .row 1 (l.map AV.int)⟩) : Vw m (.osl id ver 0 n) (.ints l) := by
  subst hn
  refine .osl hm (by simp) (by omega) ?_
  have e : ((l.map AV.int).drop 0).take l.length = l.map AV.int := by simp [List.take_of_length_le]
  rw [e]
  exact VwL.selfs (by simp only [push_cast])
theorem VwL.lent {m : Mem} {N : Nat} : ∀ {T : List (Nat × List Int)} {k : Nat}, (∀ j, j < T.length → m[N + (k + j)]? = some (lentE (T.getD j (0, [])))) → VwL m (lentR N k T) ((T.map (·.2)).map AV.ints)
  | [], _, _ => .nil
  | t :: T, k, h => by
    refine .cons (Vw.oints _ rfl (by have := h 0 (by simp); simpa [lentE] using this)) (VwL.lent (k := k + 1) fun j hj => ?_)
    have := h (j + 1) (by simpa using hj)
    rw [show k + 1 + j = k + (j + 1) by omega, this]
    simp
theorem blk_vw {F G : Mem} {N : Nat} (hF : F.length = N) {ks : List St} {ls : List Ln} {e0 e4 : Ent} {life : Int} {L I W : List Int} {vi : Nat} {T : List (Nat × List Int)} :
    Vw (F ++ blk N ks ls e0 e4 life L vi I W T G) (.optr (N + 3) 1 0 0) (.ref (benF ks ls life L I W (T.map (·.2))) 0) := by
  refine .optr (sz := 7) (l := [benR N ks ls life L vi I W T]) (x := benR N ks ls life L vi I W T) (by rw [getF hF]; rfl) rfl (by simp [AV.cells]) ?_
  refine .cons (.self (by simp only [push_cast])) (.cons (.self (by simp only [push_cast])) (.cons (.self trivial) (.cons (Vw.oints _ rfl (by rw [getF hF]; rfl)) (.cons (Vw.oints _ rfl (by rw [getF hF]; rfl)) (.cons (Vw.oints _ rfl (by rw [getF hF]; rfl)) (.cons ?_ .nil))))))
  refine .osl (sz := 1) (l := lentR N 7 T) (by rw [getF hF]; rfl) (by rw [lentR_len]; omega) (by omega) ?_
  have e : ((lentR N 7 T).drop 0).take T.length = lentR N 7 T := by simp [List.take_of_length_le, lentR_len]
  rw [e]
  refine VwL.lent fun j hj => ?_
  rw [getF hF, get7, lentE_get hj]
end Go.Proofs.Try
set_option maxHeartbeats 8000000
namespace Go.Proofs.Try

/-! a search, number by number, in order -/
def tryF (f : Nat → Option (List Int)) : Nat → Nat → Option (List Int)
  | 0, _ => none
  | d + 1, j => match f j with | some x => some x | none => tryF f d (j + 1)
theorem tryF_none {f : Nat → Option (List Int)} : ∀ {d j : Nat}, tryF f d j = none ↔ ∀ i, j ≤ i → i < j + d → f i = none
  | 0, j => by simp only [tryF, true_iff]; intro i h1 h2; omega
  | d + 1, j => by
    have ih := tryF_none (f := f) (d := d) (j := j + 1)
    simp only [tryF]
    cases hf : f j with
    | some x =>
      simp only [reduceCtorEq, false_iff]
      intro h; rw [h j (by omega) (by omega)] at hf; cases hf
    | none =>
      simp only [ih]
      constructor
      · intro h i h1 h2
        by_cases hij : i = j
        · rw [hij]; exact hf
        · exact h i (by omega) (by omega)
      · intro h i h1 h2; exact h i (by omega) (by omega)
theorem tryF_some {f : Nat → Option (List Int)} {x : List Int} : ∀ {d j : Nat}, tryF f d j = some x → ∃ i, j ≤ i ∧ i < j + d ∧ f i = some x ∧ ∀ k, j ≤ k → k < i → f k = none
  | 0, j, h => by cases h
  | d + 1, j, h => by
    simp only [tryF] at h
    cases hf : f j with
    | some y =>
      rw [hf] at h
      exact ⟨j, by omega, by omega, by rw [hf]; exact h, fun k h1 h2 => by omega⟩
    | none =>
      rw [hf] at h
      obtain ⟨i, h1, h2, h3, h4⟩ := tryF_some h
      refine ⟨i, by omega, by omega, h3, fun k h5 h6 => ?_⟩
      by_cases hk : k = j
      · rw [hk]; exact hf
      · exact h4 k (by omega) h6
def srch (c : Nat → Nat) (ok : List Int → Bool) : Nat → List Int → Option (List Int)
  | 0, I => some I
  | r + 1, I => tryF (fun j => if ok (I ++ [(j : Int)]) = true then srch c ok r (I ++ [(j : Int)]) else none) (c I.length) 0
/-- right from n on -/
def RtF (c : Nat → Nat) (ok : List Int → Bool) (n : Nat) (J : List Int) : Prop := ∀ k, n ≤ k → k < J.length → ∃ j : Nat, j < c k ∧ J.getD k 0 = (j : Int) ∧ ok (J.take (k + 1)) = true
def LxT (J J' : List Int) : Prop := ∃ i, i < J.length ∧ J.take i = J'.take i ∧ J.getD i 0 < J'.getD i 0
theorem take_succ_getD {J : List Int} {n : Nat} (h : n < J.length) : J.take (n + 1) = J.take n ++ [J.getD n 0] := by
  rw [List.take_add_one]; simp [h]
/-- an extension, right from the end of the beginning on -/
def Ext (c : Nat → Nat) (ok : List Int → Bool) (r : Nat) (I J : List Int) : Prop := J.length = I.length + r ∧ J.take I.length = I ∧ RtF c ok I.length J
theorem ext_step {c : Nat → Nat} {ok : List Int → Bool} {r : Nat} {I J : List Int} : Ext c ok (r + 1) I J ↔ ∃ j : Nat, j < c I.length ∧ ok (I ++ [(j : Int)]) = true ∧ Ext c ok r (I ++ [(j : Int)]) J := by
  constructor
  · rintro ⟨h1, h2, h3⟩
    obtain ⟨j, h4, h5, h6⟩ := h3 I.length (Nat.le_refl _) (by omega)
    have e := take_succ_getD (J := J) (n := I.length) (by omega)
    rw [h2, h5] at e
    refine ⟨j, h4, by rw [← e]; exact h6, by simp; omega, by rw [List.length_append]; exact e, fun k h7 h8 => h3 k (by simp at h7; omega) h8⟩
  · rintro ⟨j, h4, h5, h1, h2, h3⟩
    rw [List.length_append] at h2 h1 h3
    simp only [List.length_cons, List.length_nil, Nat.zero_add] at h1 h2 h3
    have e := take_succ_getD (J := J) (n := I.length) (by omega)
    rw [h2] at e
    have e1 := List.append_inj e (by simp; omega)
    refine ⟨by omega, e1.1.symm, fun k h7 h8 => ?_⟩
    by_cases hk : k = I.length
    · subst hk
      have e2 := e1.2
      injection e2 with e2
      exact ⟨j, h4, e2.symm, by rw [h2]; exact h5⟩
    · exact h3 k (by omega) h8
theorem srch_none {c : Nat → Nat} {ok : List Int → Bool} : ∀ {r : Nat} {I : List Int}, srch c ok r I = none → ∀ J, ¬ Ext c ok r I J
  | 0, I, h, _ => by cases h
  | r + 1, I, h, J => by
    rw [ext_step]
    rintro ⟨j, h1, h2, h3⟩
    simp only [srch] at h
    have := tryF_none.1 h j (by omega) (by omega)
    rw [if_pos h2] at this
    exact srch_none this J h3
theorem srch_some {c : Nat → Nat} {ok : List Int → Bool} : ∀ {r : Nat} {I J : List Int}, srch c ok r I = some J → Ext c ok r I J ∧ ∀ J', Ext c ok r I J' → J = J' ∨ LxT J J'
  | 0, I, J, h => by
    simp only [srch, Option.some.injEq] at h
    subst h
    refine ⟨⟨rfl, by simp, fun k h1 h2 => by omega⟩, fun J' h => .inl ?_⟩
    have := h.2.1
    rw [List.take_of_length_le (by have := h.1; omega)] at this
    exact this.symm
  | r + 1, I, J, h => by
    simp only [srch] at h
    obtain ⟨i, h1, h2, h3, h4⟩ := tryF_some h
    by_cases hok : ok (I ++ [(i : Int)]) = true
    · rw [if_pos hok] at h3
      obtain ⟨h5, h6⟩ := srch_some h3
      refine ⟨ext_step.2 ⟨i, by omega, hok, h5⟩, fun J' hJ => ?_⟩
      obtain ⟨j, h7, h8, h9⟩ := ext_step.1 hJ
      rcases Nat.lt_trichotomy j i with hji | hji | hji
      · have := h4 j (by omega) hji
        rw [if_pos h8] at this
        exact absurd h9 (srch_none this J')
      · subst hji; exact h6 J' h9
      · right
        have e1 := h5.2.1
        have e2 := h9.2.1
        have l1 := h5.1
        have l2 := h9.1
        simp only [List.length_append, List.length_cons, List.length_nil, Nat.zero_add] at e1 e2 l1 l2
        have f1 := take_succ_getD (J := J) (n := I.length) (by omega)
        have f2 := take_succ_getD (J := J') (n := I.length) (by omega)
        rw [e1] at f1
        rw [e2] at f2
        have g1 := List.append_inj f1 (by simp; omega)
        have g2 := List.append_inj f2 (by simp; omega)
        refine ⟨I.length, by omega, by rw [← g1.1, ← g2.1], ?_⟩
        have k1 := g1.2
        have k2 := g2.2
        injection k1 with k1
        injection k2 with k2
        omega
    · rw [if_neg hok] at h3; cases h3
theorem srch_isSome {c : Nat → Nat} {ok : List Int → Bool} {r : Nat} {I : List Int} : (srch c ok r I).isSome = true ↔ ∃ J, Ext c ok r I J := by
  cases h : srch c ok r I with
  | none => simp only [Option.isSome_none, Bool.false_eq_true, false_iff]; rintro ⟨J, hJ⟩; exact srch_none h J hJ
  | some J => simp only [Option.isSome_some, true_iff]; exact ⟨J, (srch_some h).1⟩
theorem LxT.asymm {J J' : List Int} (hl : J.length = J'.length) (h : LxT J J') (h' : LxT J' J) : False := by
  obtain ⟨i, h1, h2, h3⟩ := h
  obtain ⟨k, h4, h5, h6⟩ := h'
  have hg : ∀ {A B : List Int} {n m : Nat}, A.take n = B.take n → m < n → A.getD m 0 = B.getD m 0 := by
    intro A B n m e hm
    have := congrArg (fun l => l.getD m 0) e
    simpa [List.getD_eq_getElem?_getD, List.getElem?_take, hm] using this
  rcases Nat.lt_trichotomy i k with h | h | h
  · have := hg h5 h; omega
  · subst h; omega
  · have := hg h2 h; omega
/-- the first one is told by this -/
theorem srch_eq {c : Nat → Nat} {ok : List Int → Bool} {r : Nat} {I J : List Int} (h : Ext c ok r I J) (hm : ∀ J', Ext c ok r I J' → J = J' ∨ LxT J J') : srch c ok r I = some J := by
  cases hs : srch c ok r I with
  | none => exact absurd h (srch_none hs J)
  | some K =>
    obtain ⟨h1, h2⟩ := srch_some hs
    rcases h2 J h with e | e
    · rw [e]
    · rcases hm K h1 with e2 | e2
      · rw [e2]
      · exact absurd e2 (fun e2 => LxT.asymm (by rw [h1.1, h.1]) e e2)
/-! all of them, in order -/
/-! numbers that are alike -/
theorem srch_swap {n : Nat} {ok : List Int → Bool} (hok : ∀ (σ : Int → Int), (∀ x y, σ x = σ y → x = y) → ∀ I, ok (I.map σ) = ok I) {r : Nat} {I : List Int} {i j : Nat} (hi : i < n) (hj : j < n) (hI : (i : Int) ∉ I) (hJ : (j : Int) ∉ I) :
    ok (I ++ [(i : Int)]) = ok (I ++ [(j : Int)]) ∧ (srch (fun _ => n) ok r (I ++ [(i : Int)]) = none → srch (fun _ => n) ok r (I ++ [(j : Int)]) = none) := by
  let σ : Int → Int := fun x => if x = i then j else if x = j then i else x
  have hinj : ∀ x y, σ x = σ y → x = y := by
    intro x y h
    simp only [σ] at h
    split at h <;> split at h <;> (try split at h) <;> (try split at h) <;> omega
  have hσI : I.map σ = I := by
    conv => rhs; rw [← List.map_id I]
    apply List.map_congr_left
    intro x hx
    simp only [σ, id]
    rw [if_neg (fun h : x = i => hI (by rw [← h]; exact hx)), if_neg (fun h : x = j => hJ (by rw [← h]; exact hx))]
  have hσj : σ (j : Int) = i := by
    simp only [σ]; split
    · omega
    · simp
  have e1 : (I ++ [(j : Int)]).map σ = I ++ [(i : Int)] := by rw [List.map_append, hσI, List.map_cons, hσj]; rfl
  refine ⟨by rw [← e1]; exact hok σ hinj _, fun h => ?_⟩
  cases hs : srch (fun _ => n) ok r (I ++ [(j : Int)]) with
  | none => rfl
  | some J =>
    exfalso
    obtain ⟨⟨h1, h2, h3⟩, _⟩ := srch_some hs
    refine srch_none h (J.map σ) ⟨by simpa using h1, ?_, fun k hk1 hk2 => ?_⟩
    · have e2 : (I ++ [(i : Int)]).length = (I ++ [(j : Int)]).length := by simp
      rw [e2, ← List.map_take, h2, e1]
    · rw [List.length_map] at hk2
      obtain ⟨x, h4, h5, h6⟩ := h3 k (by simpa using hk1) hk2
      have hgd : (J.map σ).getD k 0 = σ (J.getD k 0) := by simp [List.getD_eq_getElem?_getD, hk2]
      have h6' : ok ((J.map σ).take (k + 1)) = true := by rw [← List.map_take, hok σ hinj]; exact h6
      rw [hgd, h5]
      have h4 : x < n := h4
      by_cases hxi : x = i
      · exact ⟨j, hj, by simp only [σ]; rw [if_pos (by omega)], h6'⟩
      · by_cases hxj : x = j
        · exact ⟨i, hi, by simp only [σ]; rw [if_neg (by omega), if_pos (by omega)], h6'⟩
        · exact ⟨x, h4, by simp only [σ]; rw [if_neg (by omega), if_neg (by omega)], h6'⟩
end Go.Proofs.Try
