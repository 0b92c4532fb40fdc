/- A part of the proof of StoreRepairs: contracts of functions, with plain laws that they need. -/
import Derived.Test.YtljchlkmalidnaaVgFv
import Derived.Test.YtljchlkmalidnaaVgVw
import Derived.Test.YtljchlkmalidnaaVgA
import Derived.Test.YtljchlkmalidnaaVgY1J
set_option linter.all false
set_option maxHeartbeats 8000000
namespace Go.Proofs.Try
open Go.Vg

def ovB (a b : Ln) : Bool := (decide (a.kind = b.kind) && decide (a.fr < b.to)) && decide (b.fr < a.to)
theorem overlap_pure (a b : Ln) : Pure Try.prog 62 [lnA a, lnA b] (.bool (ovB a b)) := by
  (refine Spec.of_body Try.func62 rfl (by rw [Try.ntmps62]; simp) 0 (by simp) ?_; rw [Try.results62, Try.ntmps62]; simp only [entry, zipArgs, Nat.reduceAdd])
  repeat (first | apply Wp.seq | apply Wp.block | (apply Run.next; (simp only [push_cast, seval] <;> (try simp (disch := omega) only [wI, wU, wC]) <;> exact rfl); (focus ((try simp only [push_cast, seval]) <;> exact sT))) | ((first | apply Run.nil | apply Wp.skip); dsimp only [sQ, tQ, bQ]) | (apply Wp.run; (dsimp only [List.map] <;> exact rfl); exact rfl) | (apply Wp.exit; dsimp only [sQ, tQ, bQ]; simp only [reduceIte]))
  (apply Wp.ret; (try dsimp only [sQ, tQ, bQ]); apply leave0; exact rfl; (simp only [push_cast, seval] <;> (try simp (disch := omega) only [wI, wU, wC]) <;> exact rfl); all_goals (try simp only [push_cast, seval]); (try rfl))
theorem roverlap_pure (a b : Ln) : Pure Try.prog 64 [lnA a, lnA b] (.bool (ovB a b)) := by
  (refine Spec.of_body Try.func64 rfl (by rw [Try.ntmps64]; simp) 0 (by simp) ?_; rw [Try.results64, Try.ntmps64]; simp only [entry, zipArgs, Nat.reduceAdd])
  repeat (first | apply Wp.seq | apply Wp.block | (apply Run.next; (simp only [push_cast, seval] <;> (try simp (disch := omega) only [wI, wU, wC]) <;> exact rfl); (focus ((try simp only [push_cast, seval]) <;> exact sT))) | ((first | apply Run.nil | apply Wp.skip); dsimp only [sQ, tQ, bQ]) | (apply Wp.run; (dsimp only [List.map] <;> exact rfl); exact rfl) | (apply Wp.exit; dsimp only [sQ, tQ, bQ]; simp only [reduceIte]))
  (apply Wp.ret; (try dsimp only [sQ, tQ, bQ]); apply leave0; exact rfl; (simp only [push_cast, seval] <;> (try simp (disch := omega) only [wI, wU, wC]) <;> exact rfl); all_goals (try simp only [push_cast, seval]); (try rfl))
structure SV (ks : List St) (ls : List Ln) : Prop where
  k8 : ks.length ≤ 8
  l20 : ls.length ≤ 20
  st : ∀ j, j < ks.length → (0 ≤ (ks.getD j st0).items ∧ (ks.getD j st0).items ≤ 8) ∧ 1 ≤ (ks.getD j st0).life ∧ (ks.getD j st0).life ≤ 100
  ln : ∀ i, i < ls.length → (0 ≤ (ls.getD i ln0).kind ∧ (ls.getD i ln0).kind < ks.length) ∧ (0 ≤ (ls.getD i ln0).fr ∧ (ls.getD i ln0).fr < (ls.getD i ln0).to ∧ (ls.getD i ln0).to ≤ 1440) ∧ 0 ≤ (ls.getD i ln0).uses ∧ (ls.getD i ln0).uses ≤ 100
theorem checkB_ok {ks : List St} {ls : List Ln} (h : checkB ks ls = true) : SV ks ls := by
  simp only [checkB, Bool.and_eq_true, decide_eq_true_eq, List.all_eq_true] at h
  obtain ⟨⟨⟨h1, h2⟩, h3⟩, h4⟩ := h
  refine ⟨h1, h2, fun j hj => ?_, fun i hi => ?_⟩
  · have := h3 _ (memSt hj)
    simp only [stB, Bool.and_eq_true, wi_iff] at this
    exact this
  · have := h4 _ (memLn hi)
    simp only [lnB, Bool.and_eq_true, wi_iff] at this
    obtain ⟨⟨⟨⟨q1, q2⟩, q3⟩, q4⟩, q5⟩ := this
    rw [wI (by omega) (by omega)] at q4
    omega
theorem item_pure {ks : List St} {ls : List Ln} (hv : SV ks ls) (kind n : Int) (hk : 0 ≤ kind ∧ kind < ks.length) : Pure Try.prog 73 [storA ks ls, .int kind, .int n] (.bool (wi n 0 ((ks.getD kind.toNat st0).items - 1))) := by
  have hs := hv.st kind.toNat (by omega)
  generalize hx : ks.getD kind.toNat st0 = x at *
  (refine Spec.of_body Try.func73 rfl (by rw [Try.ntmps73]; simp) 0 (by simp) ?_; rw [Try.results73, Try.ntmps73]; simp only [entry, zipArgs, Nat.reduceAdd])
  repeat (first | apply Wp.seq | apply Wp.block | (apply Run.next; (simp only [push_cast, seval, hx] <;> (try simp (disch := omega) only [wI, wU, wC]) <;> exact rfl); (focus ((try simp only [push_cast, seval, hx]) <;> exact sT))) | ((first | apply Run.nil | apply Wp.skip); dsimp only [sQ, tQ, bQ]) | (apply Wp.run; (dsimp only [List.map] <;> exact rfl); exact rfl) | (apply Wp.exit; dsimp only [sQ, tQ, bQ]; simp only [reduceIte]))
  (apply Run.pureP; (simp only [push_cast, seval, hx] <;> (try simp (disch := omega) only [wI, wU, wC]) <;> exact rfl); (exact (Enters.of Try.func61 rfl rfl)); (exact within_pure _ _ _); (focus (simp only [push_cast, seval, hx] <;> first | trivial | assumption | (refine ⟨?_, ?_⟩ <;> assumption) | (simp; done))); (try dsimp only [putA, optG]))
  repeat (first | apply Wp.seq | apply Wp.block | (apply Run.next; (simp only [push_cast, seval, hx] <;> (try simp (disch := omega) only [wI, wU, wC]) <;> exact rfl); (focus ((try simp only [push_cast, seval, hx]) <;> exact sT))) | ((first | apply Run.nil | apply Wp.skip); dsimp only [sQ, tQ, bQ]) | (apply Wp.run; (dsimp only [List.map] <;> exact rfl); exact rfl) | (apply Wp.exit; dsimp only [sQ, tQ, bQ]; simp only [reduceIte]))
  (apply Wp.ret; (try dsimp only [sQ, tQ, bQ]); apply leave0; exact rfl; (simp only [push_cast, seval, hx] <;> (try simp (disch := omega) only [wI, wU, wC]) <;> exact rfl); all_goals (try simp only [push_cast, seval, hx]); (try rfl))
theorem kinded_pure (ks : List St) (ls : List Ln) (kind : Int) (h : ks.length ≤ 8) : Pure Try.prog 60 [storA ks ls, .int kind] (.bool (wi kind 0 ((ks.length : Int) - 1))) := by
  (refine Spec.of_body Try.func60 rfl (by rw [Try.ntmps60]; simp) 0 (by simp) ?_; rw [Try.results60, Try.ntmps60]; simp only [entry, zipArgs, Nat.reduceAdd])
  repeat (first | apply Wp.seq | apply Wp.block | (apply Run.next; (simp only [push_cast, seval] <;> (try simp (disch := omega) only [wI, wU, wC]) <;> exact rfl); (focus ((try simp only [push_cast, seval]) <;> exact sT))) | ((first | apply Run.nil | apply Wp.skip); dsimp only [sQ, tQ, bQ]) | (apply Wp.run; (dsimp only [List.map] <;> exact rfl); exact rfl) | (apply Wp.exit; dsimp only [sQ, tQ, bQ]; simp only [reduceIte]))
  (apply Run.pureP; (simp only [push_cast, seval] <;> (try simp (disch := omega) only [wI, wU, wC]) <;> exact rfl); (exact (Enters.of Try.func61 rfl rfl)); (exact within_pure _ _ _); (focus (simp only [push_cast, seval] <;> first | trivial | assumption | (refine ⟨?_, ?_⟩ <;> assumption) | (simp; done))); (try dsimp only [putA, optG]))
  repeat (first | apply Wp.seq | apply Wp.block | (apply Run.next; (simp only [push_cast, seval] <;> (try simp (disch := omega) only [wI, wU, wC]) <;> exact rfl); (focus ((try simp only [push_cast, seval]) <;> exact sT))) | ((first | apply Run.nil | apply Wp.skip); dsimp only [sQ, tQ, bQ]) | (apply Wp.run; (dsimp only [List.map] <;> exact rfl); exact rfl) | (apply Wp.exit; dsimp only [sQ, tQ, bQ]; simp only [reduceIte]))
  (apply Wp.ret; (try dsimp only [sQ, tQ, bQ]); apply leave0; exact rfl; (simp only [push_cast, seval] <;> (try simp (disch := omega) only [wI, wU, wC]) <;> exact rfl); all_goals (try simp only [push_cast, seval]); (try rfl))
def plB (ks : List St) (ls : List Ln) (plan : List Int) (i : Nat) : Bool := wi (plan.getD i 0) (-1) ((ks.getD (ls.getD i ln0).kind.toNat st0).items - 1)
def planB (ks : List St) (ls : List Ln) (plan : List Int) : Bool := decide (plan.length = ls.length) && (List.range plan.length).all (plB ks ls plan)
def chk2E (ks : List St) (ls : List Ln) (plan : List Int) : Int := if checkB ks ls then (if planB ks ls plan then 0 else 1) else 100
theorem range_all {n : Nat} {p : Nat → Bool} (h : ∀ j, j < n → p j = true) : (List.range n).all p = true := by
  rw [List.all_eq_true]; intro x hx; exact h x (List.mem_range.1 hx)
theorem range_no {n k : Nat} {p : Nat → Bool} (hk : k < n) (h : p k = false) : (List.range n).all p = false := by
  rw [← Bool.not_eq_true, List.all_eq_true]
  intro h2
  have := h2 k (List.mem_range.2 hk)
  rw [h] at this; cases this
theorem checked_pure (ks : List St) (ls : List Ln) (plan : List Int) (hk : ks.length ≤ 9223372036854775807) (hl : ls.length ≤ 9223372036854775807) (hp : plan.length ≤ 9223372036854775807) : Pure Try.prog 59 [storA ks ls, .ints plan] (.int (chk2E ks ls plan)) := by
  have hck := check_pure ks ls hk hl
  cases h1 : checkB ks ls with
  | false =>
    have e : chkE ks ls = 100 := by simp [chkE, h1]
    rw [e] at hck
    (refine Spec.of_body Try.func59 rfl (by rw [Try.ntmps59]; simp) 0 (by simp) ?_; rw [Try.results59, Try.ntmps59]; simp only [entry, zipArgs, Nat.reduceAdd])
    repeat (first | apply Wp.seq | apply Wp.block | (apply Run.next; (simp only [push_cast, seval] <;> (try simp (disch := omega) only [wI, wU, wC]) <;> exact rfl); (focus ((try simp only [push_cast, seval]) <;> exact sT))) | ((first | apply Run.nil | apply Wp.skip); dsimp only [sQ, tQ, bQ]) | (apply Wp.run; (dsimp only [List.map] <;> exact rfl); exact rfl) | (apply Wp.exit; dsimp only [sQ, tQ, bQ]; simp only [reduceIte]))
    (apply Run.pureP; (simp only [push_cast, seval] <;> (try simp (disch := omega) only [wI, wU, wC]) <;> exact rfl); (exact (Enters.of Try.func28 rfl rfl)); (exact hck); (focus (simp only [push_cast, seval] <;> first | trivial | assumption | (refine ⟨?_, ?_⟩ <;> assumption) | (simp; done))); (try dsimp only [putA, optG]))
    repeat (first | apply Wp.seq | apply Wp.block | (apply Run.next; (simp only [push_cast, seval] <;> (try simp (disch := omega) only [wI, wU, wC]) <;> exact rfl); (focus ((try simp only [push_cast, seval]) <;> exact sT))) | ((first | apply Run.nil | apply Wp.skip); dsimp only [sQ, tQ, bQ]) | (apply Wp.run; (dsimp only [List.map] <;> exact rfl); exact rfl) | (apply Wp.exit; dsimp only [sQ, tQ, bQ]; simp only [reduceIte]) | (apply Run.gtrue; (simp only [push_cast, seval] <;> (try simp (disch := omega) only [wI, wU, wC]) <;> exact rfl); (simp only [push_cast, seval] <;> (try simp (disch := omega) only [wI, wU, wC]) <;> exact rfl)) | (apply Run.gfalse (.bool false); (simp only [push_cast, seval] <;> (try simp (disch := omega) only [wI, wU, wC]) <;> exact rfl); dsimp only [S.put, optG]) | (apply Wp.condT; (simp only [push_cast, seval] <;> (try simp (disch := omega) only [wI, wU, wC]) <;> exact rfl)) | (apply Wp.condF; (simp only [push_cast, seval] <;> (try simp (disch := omega) only [wI, wU, wC]) <;> exact rfl)))
    (apply Wp.ret; (try dsimp only [sQ, tQ, bQ]); apply leave0; exact rfl; (simp only [push_cast, seval] <;> (try simp (disch := omega) only [wI, wU, wC]) <;> exact rfl); all_goals (try simp only [push_cast, seval]); (try rfl))
    simp [chk2E, h1]
  | true =>
    have e : chkE ks ls = 0 := by simp [chkE, h1]
    rw [e] at hck
    have hv := checkB_ok h1
    have hl20 := hv.l20
    (refine Spec.of_body Try.func59 rfl (by rw [Try.ntmps59]; simp) 0 (by simp) ?_; rw [Try.results59, Try.ntmps59]; simp only [entry, zipArgs, Nat.reduceAdd])
    repeat (first | apply Wp.seq | apply Wp.block | (apply Run.next; (simp only [push_cast, seval] <;> (try simp (disch := omega) only [wI, wU, wC]) <;> exact rfl); (focus ((try simp only [push_cast, seval]) <;> exact sT))) | ((first | apply Run.nil | apply Wp.skip); dsimp only [sQ, tQ, bQ]) | (apply Wp.run; (dsimp only [List.map] <;> exact rfl); exact rfl) | (apply Wp.exit; dsimp only [sQ, tQ, bQ]; simp only [reduceIte]))
    (apply Run.pureP; (simp only [push_cast, seval] <;> (try simp (disch := omega) only [wI, wU, wC]) <;> exact rfl); (exact (Enters.of Try.func28 rfl rfl)); (exact hck); (focus (simp only [push_cast, seval] <;> first | trivial | assumption | (refine ⟨?_, ?_⟩ <;> assumption) | (simp; done))); (try dsimp only [putA, optG]))
    repeat (first | apply Wp.seq | apply Wp.block | (apply Run.next; (simp only [push_cast, seval] <;> (try simp (disch := omega) only [wI, wU, wC]) <;> exact rfl); (focus ((try simp only [push_cast, seval]) <;> exact sT))) | ((first | apply Run.nil | apply Wp.skip); dsimp only [sQ, tQ, bQ]) | (apply Wp.run; (dsimp only [List.map] <;> exact rfl); exact rfl) | (apply Wp.exit; dsimp only [sQ, tQ, bQ]; simp only [reduceIte]) | (apply Run.gtrue; (simp only [push_cast, seval] <;> (try simp (disch := omega) only [wI, wU, wC]) <;> exact rfl); (simp only [push_cast, seval] <;> (try simp (disch := omega) only [wI, wU, wC]) <;> exact rfl)) | (apply Run.gfalse (.bool false); (simp only [push_cast, seval] <;> (try simp (disch := omega) only [wI, wU, wC]) <;> exact rfl); dsimp only [S.put, optG]) | (apply Wp.condT; (simp only [push_cast, seval] <;> (try simp (disch := omega) only [wI, wU, wC]) <;> exact rfl)) | (apply Wp.condF; (simp only [push_cast, seval] <;> (try simp (disch := omega) only [wI, wU, wC]) <;> exact rfl)))
    (apply Wp.cond; (simp only [push_cast, seval] <;> (try simp (disch := omega) only [wI, wU, wC]) <;> exact rfl))
    · intro h2
      repeat (first | apply Wp.seq | apply Wp.block | (apply Run.next; (simp only [push_cast, seval] <;> (try simp (disch := omega) only [wI, wU, wC]) <;> exact rfl); (focus ((try simp only [push_cast, seval]) <;> exact sT))) | ((first | apply Run.nil | apply Wp.skip); dsimp only [sQ, tQ, bQ]) | (apply Wp.run; (dsimp only [List.map] <;> exact rfl); exact rfl) | (apply Wp.exit; dsimp only [sQ, tQ, bQ]; simp only [reduceIte]))
      (apply Wp.ret; (try dsimp only [sQ, tQ, bQ]); apply leave0; exact rfl; (simp only [push_cast, seval] <;> (try simp (disch := omega) only [wI, wU, wC]) <;> exact rfl); all_goals (try simp only [push_cast, seval]); (try rfl))
      have h3 : ¬ plan.length = ls.length := by simp at h2; omega
      simp [chk2E, h1, planB, h3]
    · intro h2
      have h3 : plan.length = ls.length := by simp at h2; omega
      repeat (first | apply Wp.seq | apply Wp.block | (apply Run.next; (simp only [push_cast, seval] <;> (try simp (disch := omega) only [wI, wU, wC]) <;> exact rfl); (focus ((try simp only [push_cast, seval]) <;> exact sT))) | ((first | apply Run.nil | apply Wp.skip); dsimp only [sQ, tQ, bQ]) | (apply Wp.run; (dsimp only [List.map] <;> exact rfl); exact rfl) | (apply Wp.exit; dsimp only [sQ, tQ, bQ]; simp only [reduceIte]))
      refine Wp.loop (fun k : Nat => { t := [(1, .ints plan), (2, .optr 0 0 0 0), (19, .ints plan), (20, .int plan.length), (21, .int k)], m := [⟨0, .row 2 [storA ks ls]⟩], n := 41 }) (fun k => k ≤ plan.length ∧ ∀ j, j < k → plB ks ls plan j = true) (fun k => plan.length - k) 0 ?_ ?_ ?_
      · (refine Le.of ?_ ?_ rfl rfl <;> (try simp only [push_cast, seval]) <;> (try (with_reducible rfl)))
      · simp
      · rintro k ⟨hk1, hk2⟩
        repeat (first | apply Wp.seq | apply Wp.block | (apply Run.next; (simp only [push_cast, seval] <;> (try simp (disch := omega) only [wI, wU, wC]) <;> exact rfl); (focus ((try simp only [push_cast, seval]) <;> exact sT))) | ((first | apply Run.nil | apply Wp.skip); dsimp only [sQ, tQ, bQ]) | (apply Wp.run; (dsimp only [List.map] <;> exact rfl); exact rfl) | (apply Wp.exit; dsimp only [sQ, tQ, bQ]; simp only [reduceIte]))
        (apply Wp.cond; (simp only [push_cast, seval] <;> (try simp (disch := omega) only [wI, wU, wC]) <;> exact rfl))
        · (intro hc; try simp only [decide_eq_true_eq, decide_eq_false_iff_not, Bool.and_eq_true, Bool.or_eq_true, Bool.not_eq_true, Bool.not_eq_false, Bool.not_eq_true', Bool.not_eq_false', Bool.and_eq_false_iff, Bool.or_eq_false_iff, Int.not_lt, Int.not_le, Int.ofNat_lt, Int.ofNat_le] at hc)
          have hlk := hv.ln k (by omega)
          have hsk := hv.st (ls.getD k ln0).kind.toNat (by omega)
          have hpl : plB ks ls plan k = wi (plan.getD k 0) (-1) ((ks.getD (ls.getD k ln0).kind.toNat st0).items - 1) := rfl
          have hit := item_pure hv (ls.getD k ln0).kind (plan.getD k 0) (by omega)
          generalize hx : ls.getD k ln0 = x at hlk hsk hpl hit
          generalize hn : plan.getD k 0 = n at hpl hit
          generalize hy : (ks.getD x.kind.toNat st0).items = y at hsk hpl hit
          repeat (first | apply Wp.seq | apply Wp.block | (apply Run.next; (simp only [push_cast, seval, hx, hn, h3] <;> (try simp (disch := omega) only [wI, wU, wC]) <;> exact rfl); (focus ((try simp only [push_cast, seval, hx, hn, h3]) <;> exact sT))) | ((first | apply Run.nil | apply Wp.skip); dsimp only [sQ, tQ, bQ]) | (apply Wp.run; (dsimp only [List.map] <;> exact rfl); exact rfl) | (apply Wp.exit; dsimp only [sQ, tQ, bQ]; simp only [reduceIte]))
          (apply Wp.runD 14 mixed; (dsimp only [List.map] <;> exact rfl); exact rfl; kernel_rfl; (dsimp only [List.take] <;> exact rfl); (dsimp only [List.drop] <;> exact rfl); (((repeat (apply Abn.next; (simp only [push_cast, seval, hx, hn, h3] <;> (try simp (disch := omega) only [wI, wU, wC]) <;> exact rfl); (focus ((try simp only [push_cast, seval, hx, hn, h3]) <;> exact sT)))); (apply Abn.pureP; (simp only [push_cast, seval, hx, hn, h3] <;> (try simp (disch := omega) only [wI, wU, wC]) <;> exact rfl); (exact (Enters.of Try.func73 rfl rfl)); (exact hit); (focus (simp only [push_cast, seval, hx, hn, h3] <;> first | trivial | assumption | (refine ⟨?_, ?_⟩ <;> assumption) | (simp; done))); (try dsimp only [putA, optG])); (repeat (apply Abn.next; (simp only [push_cast, seval, hx, hn, h3] <;> (try simp (disch := omega) only [wI, wU, wC]) <;> exact rfl); (focus ((try simp only [push_cast, seval, hx, hn, h3]) <;> exact sT))))); exact Abn.nil))
          repeat (first | apply Wp.seq | apply Wp.block | (apply Run.next; (simp only [push_cast, seval, hx, hn, h3] <;> (try simp (disch := omega) only [wI, wU, wC]) <;> exact rfl); (focus ((try simp only [push_cast, seval, hx, hn, h3]) <;> exact sT))) | ((first | apply Run.nil | apply Wp.skip); dsimp only [sQ, tQ, bQ]) | (apply Wp.run; (dsimp only [List.map] <;> exact rfl); exact rfl) | (apply Wp.exit; dsimp only [sQ, tQ, bQ]; simp only [reduceIte]))
          have e2 : (!decide (n = -1) && !wi n 0 (y - 1)) = !wi n (-1) (y - 1) := by
            rw [Bool.eq_iff_iff]; simp only [wi, Bool.and_eq_true, Bool.not_eq_true', decide_eq_false_iff_not, Bool.and_eq_false_iff]; omega
          (apply Wp.cond; (simp only [push_cast, seval, hx, hn, h3] <;> (try simp (disch := omega) only [wI, wU, wC]) <;> exact rfl))
          · intro h4
            repeat (first | apply Wp.seq | apply Wp.block | (apply Run.next; (simp only [push_cast, seval, hx, hn, h3] <;> (try simp (disch := omega) only [wI, wU, wC]) <;> exact rfl); (focus ((try simp only [push_cast, seval, hx, hn, h3]) <;> exact sT))) | ((first | apply Run.nil | apply Wp.skip); dsimp only [sQ, tQ, bQ]) | (apply Wp.run; (dsimp only [List.map] <;> exact rfl); exact rfl) | (apply Wp.exit; dsimp only [sQ, tQ, bQ]; simp only [reduceIte]))
            (apply Wp.ret; (try dsimp only [sQ, tQ, bQ]); apply leave0; exact rfl; (simp only [push_cast, seval, hx, hn, h3] <;> (try simp (disch := omega) only [wI, wU, wC]) <;> exact rfl); all_goals (try simp only [push_cast, seval, hx, hn, h3]); (try rfl))
            rw [e2, ← hpl, Bool.not_eq_true'] at h4
            simp [chk2E, h1, planB, range_no hc h4]
          · intro h4
            rw [e2, ← hpl, Bool.not_eq_false'] at h4
            repeat (first | apply Wp.seq | apply Wp.block | (apply Run.next; (simp only [push_cast, seval, hx, hn, h3] <;> (try simp (disch := omega) only [wI, wU, wC]) <;> exact rfl); (focus ((try simp only [push_cast, seval, hx, hn, h3]) <;> exact sT))) | ((first | apply Run.nil | apply Wp.skip); dsimp only [sQ, tQ, bQ]) | (apply Wp.run; (dsimp only [List.map] <;> exact rfl); exact rfl) | (apply Wp.exit; dsimp only [sQ, tQ, bQ]; simp only [reduceIte]))
            refine ⟨k + 1, ?_, ⟨by omega, fun j hj => ?_⟩, by omega⟩
            · (refine Le.of ?_ ?_ rfl rfl <;> (try simp only [push_cast, seval, hx, hn, h3]) <;> (try (with_reducible rfl)))
            · by_cases hjk : j = k
              · subst hjk; exact h4
              · exact hk2 j (by omega)
        · (intro hc; try simp only [decide_eq_true_eq, decide_eq_false_iff_not, Bool.and_eq_true, Bool.or_eq_true, Bool.not_eq_true, Bool.not_eq_false, Bool.not_eq_true', Bool.not_eq_false', Bool.and_eq_false_iff, Bool.or_eq_false_iff, Int.not_lt, Int.not_le, Int.ofNat_lt, Int.ofNat_le] at hc)
          repeat (first | apply Wp.seq | apply Wp.block | (apply Run.next; (simp only [push_cast, seval] <;> (try simp (disch := omega) only [wI, wU, wC]) <;> exact rfl); (focus ((try simp only [push_cast, seval]) <;> exact sT))) | ((first | apply Run.nil | apply Wp.skip); dsimp only [sQ, tQ, bQ]) | (apply Wp.run; (dsimp only [List.map] <;> exact rfl); exact rfl) | (apply Wp.exit; dsimp only [sQ, tQ, bQ]; simp only [reduceIte]))
          (apply Wp.ret; (try dsimp only [sQ, tQ, bQ]); apply leave0; exact rfl; (simp only [push_cast, seval] <;> (try simp (disch := omega) only [wI, wU, wC]) <;> exact rfl); all_goals (try simp only [push_cast, seval]); (try rfl))
          have h5 : (List.range plan.length).all (plB ks ls plan) = true := range_all fun j hj => hk2 j (by omega)
          rw [chk2E, if_pos h1, planB, h5]
          simp [h3]
theorem isPlan_pure {ks : List St} {ls : List Ln} (hv : SV ks ls) (plan : List Int) (hp : plan.length ≤ 9223372036854775807) : Pure Try.prog 85 [storA ks ls, .ints plan] (.bool (planB ks ls plan)) := by
  have hl20 := hv.l20
  (refine Spec.of_body Try.func85 rfl (by rw [Try.ntmps85]; simp) 0 (by simp) ?_; rw [Try.results85, Try.ntmps85]; simp only [entry, zipArgs, Nat.reduceAdd])
  repeat (first | apply Wp.seq | apply Wp.block | (apply Run.next; (simp only [push_cast, seval] <;> (try simp (disch := omega) only [wI, wU, wC]) <;> exact rfl); (focus ((try simp only [push_cast, seval]) <;> exact sT))) | ((first | apply Run.nil | apply Wp.skip); dsimp only [sQ, tQ, bQ]) | (apply Wp.run; (dsimp only [List.map] <;> exact rfl); exact rfl) | (apply Wp.exit; dsimp only [sQ, tQ, bQ]; simp only [reduceIte]))
  (apply Wp.cond; (simp only [push_cast, seval] <;> (try simp (disch := omega) only [wI, wU, wC]) <;> exact rfl))
  · intro h2
    repeat (first | apply Wp.seq | apply Wp.block | (apply Run.next; (simp only [push_cast, seval] <;> (try simp (disch := omega) only [wI, wU, wC]) <;> exact rfl); (focus ((try simp only [push_cast, seval]) <;> exact sT))) | ((first | apply Run.nil | apply Wp.skip); dsimp only [sQ, tQ, bQ]) | (apply Wp.run; (dsimp only [List.map] <;> exact rfl); exact rfl) | (apply Wp.exit; dsimp only [sQ, tQ, bQ]; simp only [reduceIte]))
    (apply Wp.ret; (try dsimp only [sQ, tQ, bQ]); apply leave0; exact rfl; (simp only [push_cast, seval] <;> (try simp (disch := omega) only [wI, wU, wC]) <;> exact rfl); all_goals (try simp only [push_cast, seval]); (try rfl))
    have h3 : ¬ plan.length = ls.length := by simp at h2; omega
    simp [planB, h3]
  · intro h2
    have h3 : plan.length = ls.length := by simp at h2; omega
    repeat (first | apply Wp.seq | apply Wp.block | (apply Run.next; (simp only [push_cast, seval] <;> (try simp (disch := omega) only [wI, wU, wC]) <;> exact rfl); (focus ((try simp only [push_cast, seval]) <;> exact sT))) | ((first | apply Run.nil | apply Wp.skip); dsimp only [sQ, tQ, bQ]) | (apply Wp.run; (dsimp only [List.map] <;> exact rfl); exact rfl) | (apply Wp.exit; dsimp only [sQ, tQ, bQ]; simp only [reduceIte]))
    refine Wp.loop (fun k : Nat => { t := [(1, .ints plan), (2, .optr 0 0 0 0), (5, .int k)], m := [⟨0, .row 2 [storA ks ls]⟩], n := 36 }) (fun k => k ≤ plan.length ∧ ∀ j, j < k → plB ks ls plan j = true) (fun k => plan.length - k) 0 ?_ ?_ ?_
    · (refine Le.of ?_ ?_ rfl rfl <;> (try simp only [push_cast, seval]) <;> (try (with_reducible rfl)))
    · simp
    · rintro k ⟨hk1, hk2⟩
      repeat (first | apply Wp.seq | apply Wp.block | (apply Run.next; (simp only [push_cast, seval] <;> (try simp (disch := omega) only [wI, wU, wC]) <;> exact rfl); (focus ((try simp only [push_cast, seval]) <;> exact sT))) | ((first | apply Run.nil | apply Wp.skip); dsimp only [sQ, tQ, bQ]) | (apply Wp.run; (dsimp only [List.map] <;> exact rfl); exact rfl) | (apply Wp.exit; dsimp only [sQ, tQ, bQ]; simp only [reduceIte]))
      (apply Wp.cond; (simp only [push_cast, seval] <;> (try simp (disch := omega) only [wI, wU, wC]) <;> exact rfl))
      · (intro hc; try simp only [decide_eq_true_eq, decide_eq_false_iff_not, Bool.and_eq_true, Bool.or_eq_true, Bool.not_eq_true, Bool.not_eq_false, Bool.not_eq_true', Bool.not_eq_false', Bool.and_eq_false_iff, Bool.or_eq_false_iff, Int.not_lt, Int.not_le, Int.ofNat_lt, Int.ofNat_le] at hc)
        have hlk := hv.ln k (by omega)
        have hsk := hv.st (ls.getD k ln0).kind.toNat (by omega)
        have hpl : plB ks ls plan k = wi (plan.getD k 0) (-1) ((ks.getD (ls.getD k ln0).kind.toNat st0).items - 1) := rfl
        generalize hx : ls.getD k ln0 = x at hlk hsk hpl
        generalize hn : plan.getD k 0 = n at hpl
        generalize hy : ks.getD x.kind.toNat st0 = y at hsk hpl
        repeat (first | apply Wp.seq | apply Wp.block | (apply Run.next; (simp only [push_cast, seval, hx, hn, hy, h3] <;> (try simp (disch := omega) only [wI, wU, wC]) <;> exact rfl); (focus ((try simp only [push_cast, seval, hx, hn, hy, h3]) <;> exact sT))) | ((first | apply Run.nil | apply Wp.skip); dsimp only [sQ, tQ, bQ]) | (apply Wp.run; (dsimp only [List.map] <;> exact rfl); exact rfl) | (apply Wp.exit; dsimp only [sQ, tQ, bQ]; simp only [reduceIte]))
        (apply Wp.runD 18 mixed; (dsimp only [List.map] <;> exact rfl); exact rfl; kernel_rfl; (dsimp only [List.take] <;> exact rfl); (dsimp only [List.drop] <;> exact rfl); (((repeat (apply Abn.next; (simp only [push_cast, seval, hx, hn, hy, h3] <;> (try simp (disch := omega) only [wI, wU, wC]) <;> exact rfl); (focus ((try simp only [push_cast, seval, hx, hn, hy, h3]) <;> exact sT)))); (apply Abn.pureP; (simp only [push_cast, seval, hx, hn, hy, h3] <;> (try simp (disch := omega) only [wI, wU, wC]) <;> exact rfl); (exact (Enters.of Try.func52 rfl rfl)); (exact rwithin_pure _ _ _); (focus (simp only [push_cast, seval, hx, hn, hy, h3] <;> first | trivial | assumption | (refine ⟨?_, ?_⟩ <;> assumption) | (simp; done))); (try dsimp only [putA, optG])); (repeat (apply Abn.next; (simp only [push_cast, seval, hx, hn, hy, h3] <;> (try simp (disch := omega) only [wI, wU, wC]) <;> exact rfl); (focus ((try simp only [push_cast, seval, hx, hn, hy, h3]) <;> exact sT))))); exact Abn.nil))
        repeat (first | apply Wp.seq | apply Wp.block | (apply Run.next; (simp only [push_cast, seval, hx, hn, hy, h3] <;> (try simp (disch := omega) only [wI, wU, wC]) <;> exact rfl); (focus ((try simp only [push_cast, seval, hx, hn, hy, h3]) <;> exact sT))) | ((first | apply Run.nil | apply Wp.skip); dsimp only [sQ, tQ, bQ]) | (apply Wp.run; (dsimp only [List.map] <;> exact rfl); exact rfl) | (apply Wp.exit; dsimp only [sQ, tQ, bQ]; simp only [reduceIte]))
        (apply Wp.cond; (simp only [push_cast, seval, hx, hn, hy, h3] <;> (try simp (disch := omega) only [wI, wU, wC]) <;> exact rfl))
        · intro h4
          repeat (first | apply Wp.seq | apply Wp.block | (apply Run.next; (simp only [push_cast, seval, hx, hn, hy, h3] <;> (try simp (disch := omega) only [wI, wU, wC]) <;> exact rfl); (focus ((try simp only [push_cast, seval, hx, hn, hy, h3]) <;> exact sT))) | ((first | apply Run.nil | apply Wp.skip); dsimp only [sQ, tQ, bQ]) | (apply Wp.run; (dsimp only [List.map] <;> exact rfl); exact rfl) | (apply Wp.exit; dsimp only [sQ, tQ, bQ]; simp only [reduceIte]))
          (apply Wp.ret; (try dsimp only [sQ, tQ, bQ]); apply leave0; exact rfl; (simp only [push_cast, seval, hx, hn, hy, h3] <;> (try simp (disch := omega) only [wI, wU, wC]) <;> exact rfl); all_goals (try simp only [push_cast, seval, hx, hn, hy, h3]); (try rfl))
          rw [← hpl, Bool.not_eq_true'] at h4
          simp [planB, range_no hc h4]
        · intro h4
          rw [← hpl, Bool.not_eq_false'] at h4
          repeat (first | apply Wp.seq | apply Wp.block | (apply Run.next; (simp only [push_cast, seval, hx, hn, hy, h3] <;> (try simp (disch := omega) only [wI, wU, wC]) <;> exact rfl); (focus ((try simp only [push_cast, seval, hx, hn, hy, h3]) <;> exact sT))) | ((first | apply Run.nil | apply Wp.skip); dsimp only [sQ, tQ, bQ]) | (apply Wp.run; (dsimp only [List.map] <;> exact rfl); exact rfl) | (apply Wp.exit; dsimp only [sQ, tQ, bQ]; simp only [reduceIte]))
          refine ⟨k + 1, ?_, ⟨by omega, fun j hj => ?_⟩, by omega⟩
          · (refine Le.of ?_ ?_ rfl rfl <;> (try simp only [push_cast, seval, hx, hn, hy, h3]) <;> (try (with_reducible rfl)))
          · by_cases hjk : j = k
            · subst hjk; exact h4
            · exact hk2 j (by omega)
      · (intro hc; try simp only [decide_eq_true_eq, decide_eq_false_iff_not, Bool.and_eq_true, Bool.or_eq_true, Bool.not_eq_true, Bool.not_eq_false, Bool.not_eq_true', Bool.not_eq_false', Bool.and_eq_false_iff, Bool.or_eq_false_iff, Int.not_lt, Int.not_le, Int.ofNat_lt, Int.ofNat_le] at hc)
        repeat (first | apply Wp.seq | apply Wp.block | (apply Run.next; (simp only [push_cast, seval] <;> (try simp (disch := omega) only [wI, wU, wC]) <;> exact rfl); (focus ((try simp only [push_cast, seval]) <;> exact sT))) | ((first | apply Run.nil | apply Wp.skip); dsimp only [sQ, tQ, bQ]) | (apply Wp.run; (dsimp only [List.map] <;> exact rfl); exact rfl) | (apply Wp.exit; dsimp only [sQ, tQ, bQ]; simp only [reduceIte]))
        (apply Wp.ret; (try dsimp only [sQ, tQ, bQ]); apply leave0; exact rfl; (simp only [push_cast, seval] <;> (try simp (disch := omega) only [wI, wU, wC]) <;> exact rfl); all_goals (try simp only [push_cast, seval]); (try rfl))
        have h5 : (List.range plan.length).all (plB ks ls plan) = true := range_all fun j hj => hk2 j (by omega)
        rw [planB, h5]
        simp [h3]
theorem rcheckPlan_pure (ks : List St) (ls : List Ln) (plan : List Int) (hk : ks.length ≤ 9223372036854775807) (hl : ls.length ≤ 9223372036854775807) (hp : plan.length ≤ 9223372036854775807) : Pure Try.prog 63 [storA ks ls, .ints plan] (.int (chk2E ks ls plan)) := by
  have hck := rcheck_pure ks ls hk hl
  cases h1 : checkB ks ls with
  | false =>
    have e : chkE ks ls = 100 := by simp [chkE, h1]
    rw [e] at hck
    (refine Spec.of_body Try.func63 rfl (by rw [Try.ntmps63]; simp) 0 (by simp) ?_; rw [Try.results63, Try.ntmps63]; simp only [entry, zipArgs, Nat.reduceAdd])
    repeat (first | apply Wp.seq | apply Wp.block | (apply Run.next; (simp only [push_cast, seval] <;> (try simp (disch := omega) only [wI, wU, wC]) <;> exact rfl); (focus ((try simp only [push_cast, seval]) <;> exact sT))) | ((first | apply Run.nil | apply Wp.skip); dsimp only [sQ, tQ, bQ]) | (apply Wp.run; (dsimp only [List.map] <;> exact rfl); exact rfl) | (apply Wp.exit; dsimp only [sQ, tQ, bQ]; simp only [reduceIte]))
    (apply Run.pureP; (simp only [push_cast, seval] <;> (try simp (disch := omega) only [wI, wU, wC]) <;> exact rfl); (exact (Enters.of Try.func29 rfl rfl)); (exact hck); (focus (simp only [push_cast, seval] <;> first | trivial | assumption | (refine ⟨?_, ?_⟩ <;> assumption) | (simp; done))); (try dsimp only [putA, optG]))
    repeat (first | apply Wp.seq | apply Wp.block | (apply Run.next; (simp only [push_cast, seval] <;> (try simp (disch := omega) only [wI, wU, wC]) <;> exact rfl); (focus ((try simp only [push_cast, seval]) <;> exact sT))) | ((first | apply Run.nil | apply Wp.skip); dsimp only [sQ, tQ, bQ]) | (apply Wp.run; (dsimp only [List.map] <;> exact rfl); exact rfl) | (apply Wp.exit; dsimp only [sQ, tQ, bQ]; simp only [reduceIte]) | (apply Run.gtrue; (simp only [push_cast, seval] <;> (try simp (disch := omega) only [wI, wU, wC]) <;> exact rfl); (simp only [push_cast, seval] <;> (try simp (disch := omega) only [wI, wU, wC]) <;> exact rfl)) | (apply Run.gfalse (.bool false); (simp only [push_cast, seval] <;> (try simp (disch := omega) only [wI, wU, wC]) <;> exact rfl); dsimp only [S.put, optG]) | (apply Wp.condT; (simp only [push_cast, seval] <;> (try simp (disch := omega) only [wI, wU, wC]) <;> exact rfl)) | (apply Wp.condF; (simp only [push_cast, seval] <;> (try simp (disch := omega) only [wI, wU, wC]) <;> exact rfl)))
    (apply Wp.ret; (try dsimp only [sQ, tQ, bQ]); apply leave0; exact rfl; (simp only [push_cast, seval] <;> (try simp (disch := omega) only [wI, wU, wC]) <;> exact rfl); all_goals (try simp only [push_cast, seval]); (try rfl))
    simp [chk2E, h1]
  | true =>
    have e : chkE ks ls = 0 := by simp [chkE, h1]
    rw [e] at hck
    have hv := checkB_ok h1
    have hip := isPlan_pure hv plan hp
    cases h2 : planB ks ls plan with
    | false =>
      rw [h2] at hip
      (refine Spec.of_body Try.func63 rfl (by rw [Try.ntmps63]; simp) 0 (by simp) ?_; rw [Try.results63, Try.ntmps63]; simp only [entry, zipArgs, Nat.reduceAdd])
      repeat (first | apply Wp.seq | apply Wp.block | (apply Run.next; (simp only [push_cast, seval] <;> (try simp (disch := omega) only [wI, wU, wC]) <;> exact rfl); (focus ((try simp only [push_cast, seval]) <;> exact sT))) | ((first | apply Run.nil | apply Wp.skip); dsimp only [sQ, tQ, bQ]) | (apply Wp.run; (dsimp only [List.map] <;> exact rfl); exact rfl) | (apply Wp.exit; dsimp only [sQ, tQ, bQ]; simp only [reduceIte]))
      (apply Run.pureP; (simp only [push_cast, seval] <;> (try simp (disch := omega) only [wI, wU, wC]) <;> exact rfl); (exact (Enters.of Try.func29 rfl rfl)); (exact hck); (focus (simp only [push_cast, seval] <;> first | trivial | assumption | (refine ⟨?_, ?_⟩ <;> assumption) | (simp; done))); (try dsimp only [putA, optG]))
      repeat (first | apply Wp.seq | apply Wp.block | (apply Run.next; (simp only [push_cast, seval] <;> (try simp (disch := omega) only [wI, wU, wC]) <;> exact rfl); (focus ((try simp only [push_cast, seval]) <;> exact sT))) | ((first | apply Run.nil | apply Wp.skip); dsimp only [sQ, tQ, bQ]) | (apply Wp.run; (dsimp only [List.map] <;> exact rfl); exact rfl) | (apply Wp.exit; dsimp only [sQ, tQ, bQ]; simp only [reduceIte]) | (apply Run.gtrue; (simp only [push_cast, seval] <;> (try simp (disch := omega) only [wI, wU, wC]) <;> exact rfl); (simp only [push_cast, seval] <;> (try simp (disch := omega) only [wI, wU, wC]) <;> exact rfl)) | (apply Run.gfalse (.bool false); (simp only [push_cast, seval] <;> (try simp (disch := omega) only [wI, wU, wC]) <;> exact rfl); dsimp only [S.put, optG]) | (apply Wp.condT; (simp only [push_cast, seval] <;> (try simp (disch := omega) only [wI, wU, wC]) <;> exact rfl)) | (apply Wp.condF; (simp only [push_cast, seval] <;> (try simp (disch := omega) only [wI, wU, wC]) <;> exact rfl)))
      (apply Run.pureP; (simp only [push_cast, seval] <;> (try simp (disch := omega) only [wI, wU, wC]) <;> exact rfl); (exact (Enters.of Try.func85 rfl rfl)); (exact hip); (focus (simp only [push_cast, seval] <;> first | trivial | assumption | (refine ⟨?_, ?_⟩ <;> assumption) | (simp; done))); (try dsimp only [putA, optG]))
      repeat (first | apply Wp.seq | apply Wp.block | (apply Run.next; (simp only [push_cast, seval] <;> (try simp (disch := omega) only [wI, wU, wC]) <;> exact rfl); (focus ((try simp only [push_cast, seval]) <;> exact sT))) | ((first | apply Run.nil | apply Wp.skip); dsimp only [sQ, tQ, bQ]) | (apply Wp.run; (dsimp only [List.map] <;> exact rfl); exact rfl) | (apply Wp.exit; dsimp only [sQ, tQ, bQ]; simp only [reduceIte]) | (apply Run.gtrue; (simp only [push_cast, seval] <;> (try simp (disch := omega) only [wI, wU, wC]) <;> exact rfl); (simp only [push_cast, seval] <;> (try simp (disch := omega) only [wI, wU, wC]) <;> exact rfl)) | (apply Run.gfalse (.bool false); (simp only [push_cast, seval] <;> (try simp (disch := omega) only [wI, wU, wC]) <;> exact rfl); dsimp only [S.put, optG]) | (apply Wp.condT; (simp only [push_cast, seval] <;> (try simp (disch := omega) only [wI, wU, wC]) <;> exact rfl)) | (apply Wp.condF; (simp only [push_cast, seval] <;> (try simp (disch := omega) only [wI, wU, wC]) <;> exact rfl)))
      (apply Wp.ret; (try dsimp only [sQ, tQ, bQ]); apply leave0; exact rfl; (simp only [push_cast, seval] <;> (try simp (disch := omega) only [wI, wU, wC]) <;> exact rfl); all_goals (try simp only [push_cast, seval]); (try rfl))
      simp [chk2E, h1, h2]
    | true =>
      rw [h2] at hip
      (refine Spec.of_body Try.func63 rfl (by rw [Try.ntmps63]; simp) 0 (by simp) ?_; rw [Try.results63, Try.ntmps63]; simp only [entry, zipArgs, Nat.reduceAdd])
      repeat (first | apply Wp.seq | apply Wp.block | (apply Run.next; (simp only [push_cast, seval] <;> (try simp (disch := omega) only [wI, wU, wC]) <;> exact rfl); (focus ((try simp only [push_cast, seval]) <;> exact sT))) | ((first | apply Run.nil | apply Wp.skip); dsimp only [sQ, tQ, bQ]) | (apply Wp.run; (dsimp only [List.map] <;> exact rfl); exact rfl) | (apply Wp.exit; dsimp only [sQ, tQ, bQ]; simp only [reduceIte]))
      (apply Run.pureP; (simp only [push_cast, seval] <;> (try simp (disch := omega) only [wI, wU, wC]) <;> exact rfl); (exact (Enters.of Try.func29 rfl rfl)); (exact hck); (focus (simp only [push_cast, seval] <;> first | trivial | assumption | (refine ⟨?_, ?_⟩ <;> assumption) | (simp; done))); (try dsimp only [putA, optG]))
      repeat (first | apply Wp.seq | apply Wp.block | (apply Run.next; (simp only [push_cast, seval] <;> (try simp (disch := omega) only [wI, wU, wC]) <;> exact rfl); (focus ((try simp only [push_cast, seval]) <;> exact sT))) | ((first | apply Run.nil | apply Wp.skip); dsimp only [sQ, tQ, bQ]) | (apply Wp.run; (dsimp only [List.map] <;> exact rfl); exact rfl) | (apply Wp.exit; dsimp only [sQ, tQ, bQ]; simp only [reduceIte]) | (apply Run.gtrue; (simp only [push_cast, seval] <;> (try simp (disch := omega) only [wI, wU, wC]) <;> exact rfl); (simp only [push_cast, seval] <;> (try simp (disch := omega) only [wI, wU, wC]) <;> exact rfl)) | (apply Run.gfalse (.bool false); (simp only [push_cast, seval] <;> (try simp (disch := omega) only [wI, wU, wC]) <;> exact rfl); dsimp only [S.put, optG]) | (apply Wp.condT; (simp only [push_cast, seval] <;> (try simp (disch := omega) only [wI, wU, wC]) <;> exact rfl)) | (apply Wp.condF; (simp only [push_cast, seval] <;> (try simp (disch := omega) only [wI, wU, wC]) <;> exact rfl)))
      (apply Run.pureP; (simp only [push_cast, seval] <;> (try simp (disch := omega) only [wI, wU, wC]) <;> exact rfl); (exact (Enters.of Try.func85 rfl rfl)); (exact hip); (focus (simp only [push_cast, seval] <;> first | trivial | assumption | (refine ⟨?_, ?_⟩ <;> assumption) | (simp; done))); (try dsimp only [putA, optG]))
      repeat (first | apply Wp.seq | apply Wp.block | (apply Run.next; (simp only [push_cast, seval] <;> (try simp (disch := omega) only [wI, wU, wC]) <;> exact rfl); (focus ((try simp only [push_cast, seval]) <;> exact sT))) | ((first | apply Run.nil | apply Wp.skip); dsimp only [sQ, tQ, bQ]) | (apply Wp.run; (dsimp only [List.map] <;> exact rfl); exact rfl) | (apply Wp.exit; dsimp only [sQ, tQ, bQ]; simp only [reduceIte]) | (apply Run.gtrue; (simp only [push_cast, seval] <;> (try simp (disch := omega) only [wI, wU, wC]) <;> exact rfl); (simp only [push_cast, seval] <;> (try simp (disch := omega) only [wI, wU, wC]) <;> exact rfl)) | (apply Run.gfalse (.bool false); (simp only [push_cast, seval] <;> (try simp (disch := omega) only [wI, wU, wC]) <;> exact rfl); dsimp only [S.put, optG]) | (apply Wp.condT; (simp only [push_cast, seval] <;> (try simp (disch := omega) only [wI, wU, wC]) <;> exact rfl)) | (apply Wp.condF; (simp only [push_cast, seval] <;> (try simp (disch := omega) only [wI, wU, wC]) <;> exact rfl)))
      (apply Wp.ret; (try dsimp only [sQ, tQ, bQ]); apply leave0; exact rfl; (simp only [push_cast, seval] <;> (try simp (disch := omega) only [wI, wU, wC]) <;> exact rfl); all_goals (try simp only [push_cast, seval]); (try rfl))
      simp [chk2E, h1, h2]
end Go.Proofs.Try
set_option maxHeartbeats 8000000
namespace Go.Proofs.Try
open Go.Vg

theorem chk2E_zero {ks : List St} {ls : List Ln} {plan : List Int} (h : chk2E ks ls plan = 0) : SV ks ls ∧ plan.length = ls.length ∧ ∀ i, i < ls.length → plB ks ls plan i = true := by
  unfold chk2E at h
  split at h
  · rename_i h1
    split at h
    · rename_i h2
      simp only [planB, Bool.and_eq_true, decide_eq_true_eq, List.all_eq_true, List.mem_range] at h2
      exact ⟨checkB_ok h1, h2.1, fun i hi => h2.2 i (by omega)⟩
    · cases h
  · cases h
end Go.Proofs.Try
set_option maxHeartbeats 8000000
namespace Go.Proofs.Try
open Go.Vg

/-! a bench in memory -/
def lentR (N : Nat) : Nat → List (Nat × List Int) → List AV
  | _, [] => []
  | j, t :: T => .osl (N + j) t.1 0 t.2.length :: lentR N (j + 1) T
def lentE (t : Nat × List Int) : Ent := ⟨t.1, .row 1 (t.2.map AV.int)⟩
abbrev benR (N : Nat) (ks : List St) (ls : List Ln) (life : Int) (L : List Int) (vi : Nat) (I W : List Int) (T : List (Nat × List Int)) : AV :=
  .agg [.lst 2 (ks.map stA), .lst 5 (ls.map lnA), .int life, .osl (N + 5) L.length 0 L.length, .osl (N + 6) vi 0 I.length, .osl (N + 1) 1 0 W.length, .osl (N + 2) 1 0 T.length]
abbrev blk (N : Nat) (ks : List St) (ls : List Ln) (e0 e4 : Ent) (life : Int) (L : List Int) (vi : Nat) (I W : List Int) (T : List (Nat × List Int)) (G : Mem) : Mem :=
  e0 :: ⟨1, .row 1 (W.map AV.int)⟩ :: ⟨1, .row 1 (lentR N 7 T)⟩ :: ⟨1, .row 7 [benR N ks ls life L vi I W T]⟩ :: e4 :: ⟨L.length, .row 1 (L.map AV.int)⟩ :: ⟨vi, .row 1 (I.map AV.int)⟩ :: (T.map lentE ++ G)
theorem lentR_len (N : Nat) : ∀ (T : List (Nat × List Int)) (j : Nat), (lentR N j T).length = T.length
  | [], _ => rfl
  | _ :: T, j => by simp [lentR, lentR_len N T]
theorem adR_lent (n : Nat) : ∀ (m j a b : Nat), a ≤ n + j → n + j + m ≤ b → AdR a b (List.replicate m .emp) (lentR n j (List.replicate m (0, [])))
  | 0, _, _, _, _, _ => trivial
  | m + 1, j, a, b, h1, h2 => by
    rw [List.replicate_succ, List.replicate_succ]
    exact ⟨.inl (.inr ⟨rfl, n + j, h1, by omega, rfl⟩), adR_lent n m (j + 1) a b (by omega) (by omega)⟩
def loanP (ls : List Ln) (kind : Int) (k : Nat) : List Int := ((List.range k).filter fun i => decide ((ls.getD i ln0).kind = kind)).map fun i : Nat => (i : Int)
theorem loanP_succ (ls : List Ln) (kind : Int) (k : Nat) : loanP ls kind (k + 1) = if decide ((ls.getD k ln0).kind = kind) = true then loanP ls kind k ++ [(k : Int)] else loanP ls kind k := by
  unfold loanP; rw [List.range_succ, List.filter_append, List.map_append]
  by_cases h : decide ((ls.getD k ln0).kind = kind) = true
  · rw [if_pos h, List.filter_cons, if_pos h]; rfl
  · rw [if_neg h, List.filter_cons, if_neg h]; simp
theorem loanP_len (ls : List Ln) (kind : Int) (k : Nat) : (loanP ls kind k).length ≤ k := by
  unfold loanP; rw [List.length_map]; refine Nat.le_trans (List.length_filter_le _ _) ?_; simp
theorem lentE_rep (n : Nat) : (List.replicate n (0, ([] : List Int))).map lentE = List.replicate n (⟨0, .row 1 []⟩ : Ent) := by
  rw [List.map_replicate]; rfl
def T0 (n : Nat) : List (Nat × List Int) := List.replicate n (0, [])
theorem newBench_spec {ks : List St} {ls : List Ln} (hv : SV ks ls) (kind items : Int) (hk : 0 ≤ kind ∧ kind < ks.length) (hi : 0 ≤ items ∧ items ≤ 100) :
    Go.Vg.Spec Try.prog 67 [storA ks ls, .int kind, .int items] [] (fun x m' => x = .optr 3 1 0 0 ∧ ∃ e4, m' = blk 0 ks ls ⟨0, .row 2 [storA ks ls]⟩ e4 (ks.getD kind.toNat st0).life (loanP ls kind ls.length) 0 [] (List.replicate items.toNat 0) (T0 items.toNat) []) := by
  have hs := hv.st kind.toNat (by omega)
  have hl20 := hv.l20
  generalize hy : ks.getD kind.toNat st0 = y at hs
  (refine Spec.of_bodyA Try.func67 rfl (by rw [Try.ntmps67]; simp) ?_; rw [Try.results67, Try.ntmps67]; simp only [entry, zipArgs, Nat.reduceAdd])
  repeat (first | apply Wp.seq | apply Wp.block | (apply Run.next; (simp only [push_cast, seval, hy] <;> (try simp (disch := omega) only [wI, wU, wC]) <;> exact rfl); (focus ((try simp only [push_cast, seval, hy]) <;> exact sT))) | ((first | apply Run.nil | apply Wp.skip); dsimp only [sQ, tQ, bQ]) | (apply Wp.run; (dsimp only [List.map] <;> exact rfl); exact rfl) | (apply Wp.exit; dsimp only [sQ, tQ, bQ]; simp only [reduceIte]))
  (apply Wp.runV mixed; (dsimp only [List.map] <;> exact rfl); exact rfl; kernel_rfl; (dsimp only; (repeat (first | (apply AbsV.alc; exact rfl; (simp only [push_cast, seval, hy] <;> (try simp (disch := omega) only [wI, wU, wC]) <;> exact rfl); (focus ((try simp only [push_cast, seval, hy]) <;> exact sT)); dsimp only [upd, alcV, List.length_cons, List.length_nil, Nat.reduceAdd]) | (apply AbsV.cons; exact rfl; exact rfl; (simp only [push_cast, seval, hy] <;> (try simp (disch := omega) only [wI, wU, wC]) <;> exact rfl); (focus ((try simp only [push_cast, seval, hy]) <;> exact sT)); dsimp only [upd]))); exact AbsV.nil); dsimp only [List.map, List.cons_append, List.nil_append])
  repeat (first | apply Wp.seq | apply Wp.block | (apply Run.next; (simp only [push_cast, seval, hy] <;> (try simp (disch := omega) only [wI, wU, wC]) <;> exact rfl); (focus ((try simp only [push_cast, seval, hy]) <;> exact sT))) | ((first | apply Run.nil | apply Wp.skip); dsimp only [sQ, tQ, bQ]) | (apply Wp.run; (dsimp only [List.map] <;> exact rfl); exact rfl) | (apply Wp.exit; dsimp only [sQ, tQ, bQ]; simp only [reduceIte]))
  (refine Wp.vacs 1 ?_; (try simp only [List.replicate_succ, List.replicate_zero, List.cons_append, List.nil_append]))
  refine Wp.adoptRow 3 2 (l' := [benR 0 ks ls y.life [] 0 [] (List.replicate items.toNat 0) (T0 items.toNat)]) rfl ⟨.inr ⟨_, _, rfl, rfl, .inl (.inl rfl), .inl (.inl rfl), .inl (.inl rfl), .inl (.inr ⟨rfl, 5, by simp, by simp, rfl⟩), .inl (.inr ⟨rfl, 6, by simp, by simp, rfl⟩), .inl (.inl (by simp)), .inl (.inl (by simp [T0])), trivial⟩, trivial⟩ ?_
  simp only [List.set_cons_succ, List.set_cons_zero, List.replicate_succ, List.replicate_zero, List.cons_append, List.nil_append]
  refine Wp.adoptRow 2 items.toNat (l' := lentR 0 7 (T0 items.toNat)) rfl (adR_lent 0 _ _ _ _ (by simp) (by simp)) ?_
  simp only [List.set_cons_succ, List.set_cons_zero, List.cons_append, List.nil_append]
  rw [← lentE_rep, show List.replicate items.toNat (0, ([] : List Int)) = T0 items.toNat from rfl]
  generalize hB : (T0 items.toNat).map lentE = B
  refine Wp.loop (fun (q : Nat × Nat × Kind) => { t := [(1, .int kind), (3, .optr 0 0 0 0), (7, .optr 3 1 0 0), (24, .lst 5 (ls.map lnA)), (25, .int ls.length), (26, .int q.1)], m := ⟨0, .row 2 [storA ks ls]⟩ :: ⟨1, .row 1 ((List.replicate items.toNat 0).map AV.int)⟩ :: ⟨1, .row 1 (lentR 0 7 (T0 items.toNat))⟩ :: ⟨1, .row 7 [benR 0 ks ls y.life (loanP ls kind q.1) 0 [] (List.replicate items.toNat 0) (T0 items.toNat)]⟩ :: ⟨q.2.1, q.2.2⟩ :: ⟨(loanP ls kind q.1).length, .row 1 ((loanP ls kind q.1).map AV.int)⟩ :: ⟨0, .row 1 []⟩ :: B, n := 47 }) (fun q => q.1 ≤ ls.length) (fun q => ls.length - q.1) (0, 0, .row 1 []) ?_ ?_ ?_
  · (refine Le.of ?_ ?_ rfl rfl <;> (try simp only [push_cast, seval, hy]) <;> (try (with_reducible rfl)))
    rfl
  · simp
  · rintro ⟨k, v, kd⟩ hk1
    simp only at hk1
    have hol := loanP_len ls kind k
    have hos := loanP_succ ls kind k
    generalize hout : loanP ls kind k = out at hol hos
    repeat (first | apply Wp.seq | apply Wp.block | (apply Run.calm; exact rfl; (simp only [push_cast, seval, hy] <;> (try simp (disch := omega) only [wI, wU, wC]) <;> exact rfl); (focus ((try simp only [push_cast, seval, hy]) <;> exact sT))) | ((first | apply Run.nil | apply Wp.skip); dsimp only [sQ, tQ, bQ]) | (apply Wp.run; (dsimp only [List.map] <;> exact rfl); exact rfl) | (apply Wp.exit; dsimp only [sQ, tQ, bQ]; simp only [reduceIte]))
    (apply Wp.cond; (simp only [push_cast, seval, hy] <;> (try simp (disch := omega) only [wI, wU, wC]) <;> exact rfl))
    · (intro hc; try simp only [decide_eq_true_eq, decide_eq_false_iff_not, Bool.and_eq_true, Bool.or_eq_true, Bool.not_eq_true, Bool.not_eq_false, Bool.not_eq_true', Bool.not_eq_false', Bool.and_eq_false_iff, Bool.or_eq_false_iff, Int.not_lt, Int.not_le, Int.ofNat_lt, Int.ofNat_le] at hc)
      generalize hx : ls.getD k ln0 = x at hos
      repeat (first | apply Wp.seq | apply Wp.block | (apply Run.calm; exact rfl; (simp only [push_cast, seval, hy, hx] <;> (try simp (disch := omega) only [wI, wU, wC]) <;> exact rfl); (focus ((try simp only [push_cast, seval, hy, hx]) <;> exact sT))) | ((first | apply Run.nil | apply Wp.skip); dsimp only [sQ, tQ, bQ]) | (apply Wp.run; (dsimp only [List.map] <;> exact rfl); exact rfl) | (apply Wp.exit; dsimp only [sQ, tQ, bQ]; simp only [reduceIte]))
      (apply Run.alcAt 4; (simp only [push_cast, seval, hy, hx] <;> (try simp (disch := omega) only [wI, wU, wC]) <;> exact rfl); (focus ((try simp only [push_cast, seval, hy, hx]) <;> exact sT)); exact rfl; (try simp only [push_cast, seval, hy, hx]))
      repeat (first | apply Wp.seq | apply Wp.block | (apply Run.next; (simp only [push_cast, seval, hy, hx] <;> (try simp (disch := omega) only [wI, wU, wC]) <;> exact rfl); (focus ((try simp only [push_cast, seval, hy, hx]) <;> exact sT))) | ((first | apply Run.nil | apply Wp.skip); dsimp only [sQ, tQ, bQ]) | (apply Wp.run; (dsimp only [List.map] <;> exact rfl); exact rfl) | (apply Wp.exit; dsimp only [sQ, tQ, bQ]; simp only [reduceIte]))
      (apply Wp.cond; (simp only [push_cast, seval, hy, hx] <;> (try simp (disch := omega) only [wI, wU, wC]) <;> exact rfl))
      · intro h2
        rw [if_pos h2] at hos
        repeat (first | apply Wp.seq | apply Wp.block | (apply Run.next; (simp only [push_cast, seval, hy, hx] <;> (try simp (disch := omega) only [wI, wU, wC]) <;> exact rfl); (focus ((try simp only [push_cast, seval, hy, hx]) <;> exact sT))) | ((first | apply Run.nil | apply Wp.skip); dsimp only [sQ, tQ, bQ]) | (apply Wp.run; (dsimp only [List.map] <;> exact rfl); exact rfl) | (apply Wp.exit; dsimp only [sQ, tQ, bQ]; simp only [reduceIte]))
        refine ⟨(k + 1, v + 1, .row 5 [lnA x]), ?_, by simp only; omega, by simp only; omega⟩
        simp only
        rw [hos, List.length_append]
        (refine Le.of ?_ ?_ rfl rfl <;> (try simp only [push_cast, seval, hy, hx]) <;> (try (with_reducible rfl)))
        simp [T0]
      · intro h2
        rw [if_neg (by rw [h2]; simp)] at hos
        repeat (first | apply Wp.seq | apply Wp.block | (apply Run.next; (simp only [push_cast, seval, hy, hx] <;> (try simp (disch := omega) only [wI, wU, wC]) <;> exact rfl); (focus ((try simp only [push_cast, seval, hy, hx]) <;> exact sT))) | ((first | apply Run.nil | apply Wp.skip); dsimp only [sQ, tQ, bQ]) | (apply Wp.run; (dsimp only [List.map] <;> exact rfl); exact rfl) | (apply Wp.exit; dsimp only [sQ, tQ, bQ]; simp only [reduceIte]))
        refine ⟨(k + 1, v + 1, .row 5 [lnA x]), ?_, by simp only; omega, by simp only; omega⟩
        simp only
        rw [hos]
        (refine Le.of ?_ ?_ rfl rfl <;> (try simp only [push_cast, seval, hy, hx]) <;> (try (with_reducible rfl)))
    · (intro hc; try simp only [decide_eq_true_eq, decide_eq_false_iff_not, Bool.and_eq_true, Bool.or_eq_true, Bool.not_eq_true, Bool.not_eq_false, Bool.not_eq_true', Bool.not_eq_false', Bool.and_eq_false_iff, Bool.or_eq_false_iff, Int.not_lt, Int.not_le, Int.ofNat_lt, Int.ofNat_le] at hc)
      obtain rfl : k = ls.length := by omega
      repeat (first | apply Wp.seq | apply Wp.block | (apply Run.next; (simp only [push_cast, seval, hy] <;> (try simp (disch := omega) only [wI, wU, wC]) <;> exact rfl); (focus ((try simp only [push_cast, seval, hy]) <;> exact sT))) | ((first | apply Run.nil | apply Wp.skip); dsimp only [sQ, tQ, bQ]) | (apply Wp.run; (dsimp only [List.map] <;> exact rfl); exact rfl) | (apply Wp.exit; dsimp only [sQ, tQ, bQ]; simp only [reduceIte]))
      (apply Wp.ret; (try dsimp only [sQ, tQ, bQ]); apply leaveA; exact rfl; (simp only [push_cast, seval, hy] <;> (try simp (disch := omega) only [wI, wU, wC]) <;> exact rfl); (focus (first | (simp only [push_cast, seval, hy]; done) | trivial | (simp only [push_cast, seval, hy]; trivial) | (simp; done))); (try simp only [push_cast, seval, hy]))
      refine ⟨⟨v, kd⟩, ?_⟩
      simp only [blk, benR, hB, hout, List.append_nil]; rfl
end Go.Proofs.Try
set_option maxHeartbeats 8000000
namespace Go.Proofs.Try
open Go.Vg

/-! whether an item fits -/
abbrev benF (ks : List St) (ls : List Ln) (life : Int) (L I W : List Int) (T : List (List Int)) : List AV :=
  [.lst 2 (ks.map stA), .lst 5 (ls.map lnA), .int life, .ints L, .ints I, .ints W, .lst 1 (T.map AV.ints)]
def fitB (ls : List Ln) (life : Int) (W : List Int) (T : List (List Int)) (loan item : Nat) : Bool :=
  decide (W.getD item 0 + (ls.getD loan ln0).uses ≤ life) && !(T.getD item []).any fun i => ovB (ls.getD i.toNat ln0) (ls.getD loan ln0)
theorem fits1_pure {ks : List St} {ls : List Ln} {life : Int} {L I W : List Int} {T : List (List Int)} (l : Ln) (i : Int) (hi : 0 ≤ i ∧ i < ls.length) (hl20 : ls.length ≤ 20) :
    Pure Try.prog 88 [.int i, .ref [.ref (benF ks ls life L I W T) 0] 0, .ref [.int l.kind, .int l.room, .int l.fr, .int l.to, .int l.uses] 0] (.bool (ovB (ls.getD i.toNat ln0) l)) := by
  generalize hx : ls.getD i.toNat ln0 = x
  (refine Spec.of_body Try.func88 rfl (by rw [Try.ntmps88]; simp) 0 (by simp) ?_; rw [Try.results88, Try.ntmps88]; simp only [entry, zipArgs, Nat.reduceAdd])
  repeat (first | apply Wp.seq | apply Wp.block | (apply Run.next; (simp only [push_cast, seval, hx] <;> (try simp (disch := omega) only [wI, wU, wC]) <;> exact rfl); (focus ((try simp only [push_cast, seval, hx]) <;> exact sT))) | ((first | apply Run.nil | apply Wp.skip); dsimp only [sQ, tQ, bQ]) | (apply Wp.run; (dsimp only [List.map] <;> exact rfl); exact rfl) | (apply Wp.exit; dsimp only [sQ, tQ, bQ]; simp only [reduceIte]))
  (apply Wp.runD 11 mixed; (dsimp only [List.map] <;> exact rfl); exact rfl; kernel_rfl; (dsimp only [List.take] <;> exact rfl); (dsimp only [List.drop] <;> exact rfl); (((repeat (apply Abn.next; (simp only [push_cast, seval, hx] <;> (try simp (disch := omega) only [wI, wU, wC]) <;> exact rfl); (focus ((try simp only [push_cast, seval, hx]) <;> exact sT)))); (apply Abn.pureP; (simp only [push_cast, seval, hx] <;> (try simp (disch := omega) only [wI, wU, wC]) <;> exact rfl); (exact (Enters.of Try.func62 rfl rfl)); (exact overlap_pure x l); (focus (simp only [push_cast, seval, hx] <;> first | trivial | assumption | (refine ⟨?_, ?_⟩ <;> assumption) | (simp; done))); (try dsimp only [putA, optG])); (repeat (apply Abn.next; (simp only [push_cast, seval, hx] <;> (try simp (disch := omega) only [wI, wU, wC]) <;> exact rfl); (focus ((try simp only [push_cast, seval, hx]) <;> exact sT))))); exact Abn.nil))
  repeat (first | apply Wp.seq | apply Wp.block | (apply Run.next; (simp only [push_cast, seval, hx] <;> (try simp (disch := omega) only [wI, wU, wC]) <;> exact rfl); (focus ((try simp only [push_cast, seval, hx]) <;> exact sT))) | ((first | apply Run.nil | apply Wp.skip); dsimp only [sQ, tQ, bQ]) | (apply Wp.run; (dsimp only [List.map] <;> exact rfl); exact rfl) | (apply Wp.exit; dsimp only [sQ, tQ, bQ]; simp only [reduceIte]))
  (apply Wp.ret; (try dsimp only [sQ, tQ, bQ]); apply leave0; exact rfl; (simp only [push_cast, seval, hx] <;> (try simp (disch := omega) only [wI, wU, wC]) <;> exact rfl); all_goals (try simp only [push_cast, seval, hx]); (try rfl))
theorem fits_pure {ks : List St} {ls : List Ln} {life : Int} {L I W : List Int} {T : List (List Int)} (loan item : Int) (hl : 0 ≤ loan ∧ loan < ls.length) (hi : 0 ≤ item ∧ item < T.length) (hW : W.length = T.length) (h20 : ls.length ≤ 20) (h8 : T.length ≤ 100)
    (hu : 0 ≤ (ls.getD loan.toNat ln0).uses ∧ (ls.getD loan.toNat ln0).uses ≤ 100) (hw : 0 ≤ W.getD item.toNat 0 ∧ W.getD item.toNat 0 ≤ 10000) (hT : ∀ x ∈ T.getD item.toNat [], 0 ≤ x ∧ x < (ls.length : Int)) (hTl : (T.getD item.toNat []).length ≤ 1000) :
    Pure Try.prog 68 [.ref (benF ks ls life L I W T) 0, .int loan, .int item] (.bool (fitB ls life W T loan.toNat item.toNat)) := by
  unfold fitB
  generalize hx : ls.getD loan.toNat ln0 = x at hu
  generalize hz : W.getD item.toNat 0 = z at hw
  generalize ht : T.getD item.toNat [] = t at hT hTl
  (refine Spec.of_body Try.func68 rfl (by rw [Try.ntmps68]; simp) 0 (by simp) ?_; rw [Try.results68, Try.ntmps68]; simp only [entry, zipArgs, Nat.reduceAdd])
  repeat (first | apply Wp.seq | apply Wp.block | (apply Run.next; (simp only [push_cast, seval, hx, hz, ht, hW] <;> (try simp (disch := omega) only [wI, wU, wC]) <;> exact rfl); (focus ((try simp only [push_cast, seval, hx, hz, ht, hW]) <;> exact sT))) | ((first | apply Run.nil | apply Wp.skip); dsimp only [sQ, tQ, bQ]) | (apply Wp.run; (dsimp only [List.map] <;> exact rfl); exact rfl) | (apply Wp.exit; dsimp only [sQ, tQ, bQ]; simp only [reduceIte]))
  (apply Wp.runD 28 mixed; (dsimp only [List.map] <;> exact rfl); exact rfl; kernel_rfl; (dsimp only [List.take] <;> exact rfl); (dsimp only [List.drop] <;> exact rfl); (((repeat (apply Abn.next; (simp only [push_cast, seval, hx, hz, ht, hW] <;> (try simp (disch := omega) only [wI, wU, wC]) <;> exact rfl); (focus ((try simp only [push_cast, seval, hx, hz, ht, hW]) <;> exact sT)))); (apply Abn.pureP; (simp only [push_cast, seval, hx, hz, ht, hW] <;> (try simp (disch := omega) only [wI, wU, wC]) <;> exact rfl); (exact (Enters.of Try.func87 rfl rfl)); (exact (containsFuncI t _ _ _ (Enters.of Try.func88 rfl rfl) (by simp only [push_cast]) (fun m => ⟨rfl, rfl⟩) (fun i hi => fits1_pure x i (hT i hi) h20) (by omega))); (focus (simp only [push_cast, seval, hx, hz, ht, hW] <;> first | trivial | assumption | (refine ⟨?_, ?_⟩ <;> assumption) | (simp; done))); (try dsimp only [putA, optG])); (repeat (apply Abn.next; (simp only [push_cast, seval, hx, hz, ht, hW] <;> (try simp (disch := omega) only [wI, wU, wC]) <;> exact rfl); (focus ((try simp only [push_cast, seval, hx, hz, ht, hW]) <;> exact sT))))); exact Abn.nil))
  repeat (first | apply Wp.seq | apply Wp.block | (apply Run.next; (simp only [push_cast, seval, hx, hz, ht, hW] <;> (try simp (disch := omega) only [wI, wU, wC]) <;> exact rfl); (focus ((try simp only [push_cast, seval, hx, hz, ht, hW]) <;> exact sT))) | ((first | apply Run.nil | apply Wp.skip); dsimp only [sQ, tQ, bQ]) | (apply Wp.run; (dsimp only [List.map] <;> exact rfl); exact rfl) | (apply Wp.exit; dsimp only [sQ, tQ, bQ]; simp only [reduceIte]))
  (apply Wp.ret; (try dsimp only [sQ, tQ, bQ]); apply leave0; exact rfl; (simp only [push_cast, seval, hx, hz, ht, hW] <;> (try simp (disch := omega) only [wI, wU, wC]) <;> exact rfl); all_goals (try simp only [push_cast, seval, hx, hz, ht, hW]); (try rfl))
end Go.Proofs.Try
set_option maxHeartbeats 8000000
namespace Go.Proofs.Try
open Go.Vg

/-! an item is lent, and taken back -/
theorem lentR_getD {N : Nat} : ∀ {T : List (Nat × List Int)} {k j : Nat} (d : AV), j < T.length → (lentR N k T).getD j d = .osl (N + (k + j)) (T.getD j (0, [])).1 0 (T.getD j (0, [])).2.length
  | [], _, _, _, h => by simp at h
  | t :: T, k, 0, _, _ => by simp [lentR]
  | t :: T, k, j + 1, d, h => by
    have := lentR_getD (N := N) (T := T) (k := k + 1) (j := j) d (by simpa using h)
    simp only [lentR, List.getD_cons_succ, this]
    rw [show k + 1 + j = k + (j + 1) by omega]
theorem lentR_set {N : Nat} : ∀ {T : List (Nat × List Int)} {k j : Nat} {v : Nat} {l : List Int}, (lentR N k T).set j (.osl (N + (k + j)) v 0 l.length) = lentR N k (T.set j (v, l))
  | [], _, _, _, _ => rfl
  | t :: T, k, 0, _, _ => by simp [lentR]
  | t :: T, k, j + 1, v, l => by
    have := lentR_set (N := N) (T := T) (k := k + 1) (j := j) (v := v) (l := l)
    simp only [lentR, List.set_cons_succ]
    rw [← this, show k + 1 + j = k + (j + 1) by omega]
theorem get7 {a0 a1 a2 a3 a4 a5 a6 : Ent} {l : Mem} {j : Nat} : (a0 :: a1 :: a2 :: a3 :: a4 :: a5 :: a6 :: l)[7 + j]? = l[j]? := by
  rw [show 7 + j = j + 7 by omega]; rfl
theorem set7 {a0 a1 a2 a3 a4 a5 a6 e : Ent} {l : Mem} {j : Nat} : (a0 :: a1 :: a2 :: a3 :: a4 :: a5 :: a6 :: l).set (7 + j) e = a0 :: a1 :: a2 :: a3 :: a4 :: a5 :: a6 :: l.set j e := by
  rw [show 7 + j = j + 7 by omega]; rfl
theorem lentE_get {T : List (Nat × List Int)} {G : Mem} {j : Nat} (h : j < T.length) : (T.map lentE ++ G)[j]? = some (lentE (T.getD j (0, []))) := by
  rw [List.getElem?_append_left (by simpa using h)]; simp [h]
theorem lentE_set {T : List (Nat × List Int)} {G : Mem} {j : Nat} (h : j < T.length) (v : Nat) (l : List Int) : (T.map lentE ++ G).set j ⟨v, .row 1 (l.map AV.int)⟩ = (T.set j (v, l)).map lentE ++ G := by
  rw [List.set_append_left _ _ (by simpa using h), List.map_set]; rfl
def lentT (T : List (Nat × List Int)) (j : Nat) (loan : Int) : List (Nat × List Int) := T.set j ((T.getD j (0, [])).1 + 1, (T.getD j (0, [])).2 ++ [loan])
theorem lend_spec {F G : Mem} {N : Nat} (hF : F.length = N) {ks : List St} {ls : List Ln} {e0 e4 : Ent} {life : Int} {L I W : List Int} {vi : Nat} {T : List (Nat × List Int)} (loan item : Int) (hl : 0 ≤ loan ∧ loan < ls.length) (hi : 0 ≤ item ∧ item < T.length) (hW : W.length = T.length)
    (h20 : ls.length ≤ 20) (h8 : T.length ≤ 100) (hI : I.length ≤ 1000) (hu : 0 ≤ (ls.getD loan.toNat ln0).uses ∧ (ls.getD loan.toNat ln0).uses ≤ 100) (hw : 0 ≤ W.getD item.toNat 0 ∧ W.getD item.toNat 0 ≤ 10000) (hTl : (T.getD item.toNat (0, [])).2.length ≤ 1000) :
    Go.Vg.Spec Try.prog 69 [.optr (N + 3) 1 0 0, .int loan, .int item] (F ++ blk N ks ls e0 e4 life L vi I W T G) (fun _ m' => m' = F ++ blk N ks ls e0 e4 life L (vi + 1) (I ++ [item]) (W.set item.toNat (W.getD item.toNat 0 + (ls.getD loan.toNat ln0).uses)) (lentT T item.toNat loan) G) := by
  unfold lentT
  generalize hx : ls.getD loan.toNat ln0 = x at hu
  generalize hz : W.getD item.toNat 0 = z at hw
  have hlg : ∀ d, (lentR N 7 T).getD item.toNat d = .osl (N + (7 + item.toNat)) (T.getD item.toNat (0, [])).1 0 (T.getD item.toNat (0, [])).2.length := fun d => lentR_getD d (by omega)
  have heg := lentE_get (T := T) (G := G) (j := item.toNat) (by omega)
  have hsg := fun v l => lentE_set (T := T) (G := G) (j := item.toNat) (by omega) v l
  have hrs := fun v l => lentR_set (N := N) (T := T) (k := 7) (j := item.toNat) (v := v) (l := l)
  generalize ht : T.getD item.toNat (0, []) = t at hTl hlg heg
  obtain ⟨tv, tl⟩ := t
  simp only at hTl hlg
  rw [lentE] at heg
  simp only at heg
  (refine Spec.of_bodyA Try.func69 rfl (by rw [Try.ntmps69]; simp) ?_; rw [Try.results69, Try.ntmps69]; simp only [entry, zipArgs, Nat.reduceAdd])
  repeat (first | apply Wp.seq | apply Wp.block | (apply Run.next; (simp only [push_cast, seval, hx, hz, hW, hlg, getF hF, getF0 hF, setF hF, setF0 hF, get7, set7, heg, lentR_len, hsg] <;> (try simp (disch := omega) only [wI, wU, wC]) <;> exact rfl); (focus ((try simp only [push_cast, seval, hx, hz, hW, hlg, getF hF, getF0 hF, setF hF, setF0 hF, get7, set7, heg, lentR_len, hsg]) <;> exact sT))) | ((first | apply Run.nil | apply Wp.skip); dsimp only [sQ, tQ, bQ]) | (apply Wp.run; (dsimp only [List.map] <;> exact rfl); exact rfl) | (apply Wp.exit; dsimp only [sQ, tQ, bQ]; simp only [reduceIte]))
  (apply Wp.cond; (simp only [push_cast, seval, hx, hz, hW, hlg, getF hF, getF0 hF, setF hF, setF0 hF, get7, set7, heg, lentR_len, hsg] <;> (try simp (disch := omega) only [wI, wU, wC]) <;> exact rfl))
  · (intro hc; try simp only [decide_eq_true_eq, decide_eq_false_iff_not, Bool.and_eq_true, Bool.or_eq_true, Bool.not_eq_true, Bool.not_eq_false, Bool.not_eq_true', Bool.not_eq_false', Bool.and_eq_false_iff, Bool.or_eq_false_iff, Int.not_lt, Int.not_le, Int.ofNat_lt, Int.ofNat_le] at hc)
    repeat (first | apply Wp.seq | apply Wp.block | (apply Run.next; (simp only [push_cast, seval, hx, hz, hW, hlg, getF hF, getF0 hF, setF hF, setF0 hF, get7, set7, heg, lentR_len, hsg] <;> (try simp (disch := omega) only [wI, wU, wC]) <;> exact rfl); (focus ((try simp only [push_cast, seval, hx, hz, hW, hlg, getF hF, getF0 hF, setF hF, setF0 hF, get7, set7, heg, lentR_len, hsg]) <;> exact sT))) | ((first | apply Run.nil | apply Wp.skip); dsimp only [sQ, tQ, bQ]) | (apply Wp.run; (dsimp only [List.map] <;> exact rfl); exact rfl) | (apply Wp.exit; dsimp only [sQ, tQ, bQ]; simp only [reduceIte]))
    (apply Wp.runE 18 18 mixed; (dsimp only [List.map] <;> exact rfl); exact rfl; kernel_rfl; ((repeat (apply Abe.next; exact rfl; (simp only [push_cast, seval, hx, hz, hW, hlg, getF hF, getF0 hF, setF hF, setF0 hF, get7, set7, heg, lentR_len, hsg] <;> (try simp (disch := omega) only [wI, wU, wC]) <;> exact rfl); (focus ((try simp only [push_cast, seval, hx, hz, hW, hlg, getF hF, getF0 hF, setF hF, setF0 hF, get7, set7, heg, lentR_len, hsg]) <;> exact sT)))); (apply Abe.eff; exact rfl; (simp only [push_cast, seval, hx, hz, hW, hlg, getF hF, getF0 hF, setF hF, setF0 hF, get7, set7, heg, lentR_len, hsg] <;> (try simp (disch := omega) only [wI, wU, wC]) <;> exact rfl); (focus ((try simp only [push_cast, seval, hx, hz, hW, hlg, getF hF, getF0 hF, setF hF, setF0 hF, get7, set7, heg, lentR_len, hsg]) <;> exact sT)); (try dsimp only [putA])); (repeat (apply Abe.next; exact rfl; (simp only [push_cast, seval, hx, hz, hW, hlg, getF hF, getF0 hF, setF hF, setF0 hF, get7, set7, heg, lentR_len, hsg] <;> (try simp (disch := omega) only [wI, wU, wC]) <;> exact rfl); (focus ((try simp only [push_cast, seval, hx, hz, hW, hlg, getF hF, getF0 hF, setF hF, setF0 hF, get7, set7, heg, lentR_len, hsg]) <;> exact sT)))); exact Abe.nil))
    repeat (first | apply Wp.seq | apply Wp.block | (apply Run.next; (simp only [push_cast, seval, hx, hz, hW, hlg, getF hF, getF0 hF, setF hF, setF0 hF, get7, set7, heg, lentR_len, hsg] <;> (try simp (disch := omega) only [wI, wU, wC]) <;> exact rfl); (focus ((try simp only [push_cast, seval, hx, hz, hW, hlg, getF hF, getF0 hF, setF hF, setF0 hF, get7, set7, heg, lentR_len, hsg]) <;> exact sT))) | ((first | apply Run.nil | apply Wp.skip); dsimp only [sQ, tQ, bQ]) | (apply Wp.run; (dsimp only [List.map] <;> exact rfl); exact rfl) | (apply Wp.exit; dsimp only [sQ, tQ, bQ]; simp only [reduceIte]))
    (apply Wp.runW 14 16 (fun m => m.set (N + (7 + item.toNat)) ⟨tv + 1, .row 1 ((tl ++ [loan]).map AV.int)⟩) mixed; (dsimp only [List.map] <;> exact rfl); exact rfl; kernel_rfl; kernel_rfl; (dsimp only; ((repeat (first | (apply AbW.bld; exact rfl; kernel_rfl; (simp only [push_cast, seval, hx, hz, hW, hlg, getF hF, getF0 hF, setF hF, setF0 hF, get7, set7, heg, lentR_len, hsg] <;> (try simp (disch := omega) only [wI, wU, wC]) <;> exact rfl); (focus ((try simp only [push_cast, seval, hx, hz, hW, hlg, getF hF, getF0 hF, setF hF, setF0 hF, get7, set7, heg, lentR_len, hsg]) <;> exact sT)); dsimp only [upd]) | (apply AbW.both; exact rfl; kernel_rfl; (simp only [push_cast, seval, hx, hz, hW, hlg, getF hF, getF0 hF, setF hF, setF0 hF, get7, set7, heg, lentR_len, hsg] <;> (try simp (disch := omega) only [wI, wU, wC]) <;> exact rfl); (focus ((try simp only [push_cast, seval, hx, hz, hW, hlg, getF hF, getF0 hF, setF hF, setF0 hF, get7, set7, heg, lentR_len, hsg]) <;> exact sT)); (simp only [push_cast, seval, hx, hz, hW, hlg, getF hF, getF0 hF, setF hF, setF0 hF, get7, set7, heg, lentR_len, hsg] <;> (try simp (disch := omega) only [wI, wU, wC]) <;> exact rfl); (focus ((try simp only [push_cast, seval, hx, hz, hW, hlg, getF hF, getF0 hF, setF hF, setF0 hF, get7, set7, heg, lentR_len, hsg]) <;> exact sT)); dsimp only [upd]) | (apply AbW.eff1; exact rfl; exact rfl; (simp only [push_cast, seval, hx, hz, hW, hlg, getF hF, getF0 hF, setF hF, setF0 hF, get7, set7, heg, lentR_len, hsg] <;> (try simp (disch := omega) only [wI, wU, wC]) <;> exact rfl); (focus ((try simp only [push_cast, seval, hx, hz, hW, hlg, getF hF, getF0 hF, setF hF, setF0 hF, get7, set7, heg, lentR_len, hsg]) <;> exact sT)); (try dsimp only [upd])) | (apply AbW.eff2; exact rfl; exact rfl; (simp only [push_cast, seval, hx, hz, hW, hlg, getF hF, getF0 hF, setF hF, setF0 hF, get7, set7, heg, lentR_len, hsg] <;> (try simp (disch := omega) only [wI, wU, wC]) <;> exact rfl); (focus ((try simp only [push_cast, seval, hx, hz, hW, hlg, getF hF, getF0 hF, setF hF, setF0 hF, get7, set7, heg, lentR_len, hsg]) <;> exact sT)); (try dsimp only [upd]))))); exact AbW.nil))
    repeat (first | apply Wp.seq | apply Wp.block | (apply Run.next; (simp only [push_cast, seval, hx, hz, hW, hlg, getF hF, getF0 hF, setF hF, setF0 hF, get7, set7, heg, lentR_len, hsg] <;> (try simp (disch := omega) only [wI, wU, wC]) <;> exact rfl); (focus ((try simp only [push_cast, seval, hx, hz, hW, hlg, getF hF, getF0 hF, setF hF, setF0 hF, get7, set7, heg, lentR_len, hsg]) <;> exact sT))) | ((first | apply Run.nil | apply Wp.skip); dsimp only [sQ, tQ, bQ]) | (apply Wp.run; (dsimp only [List.map] <;> exact rfl); exact rfl) | (apply Wp.exit; dsimp only [sQ, tQ, bQ]; simp only [reduceIte]))
    (apply leaveAN; exact rfl; (simp only [push_cast, seval, hx, hz, hW, hlg, getF hF, getF0 hF, setF hF, setF0 hF, get7, set7, heg, lentR_len, hsg] <;> (try simp (disch := omega) only [wI, wU, wC]) <;> exact rfl); (focus (first | (simp only [push_cast, seval, hx, hz, hW, hlg, getF hF, getF0 hF, setF hF, setF0 hF, get7, set7, heg, lentR_len, hsg]; done) | trivial | (simp only [push_cast, seval, hx, hz, hW, hlg, getF hF, getF0 hF, setF hF, setF0 hF, get7, set7, heg, lentR_len, hsg]; trivial) | (simp; done))); (try simp only [push_cast, seval, hx, hz, hW, hlg, getF hF, getF0 hF, setF hF, setF0 hF, get7, set7, heg, lentR_len, hsg]))
    have e := hrs (tv + 1) (tl ++ [loan])
    rw [List.length_append] at e
    simp [blk, benR, hW]
    exact e
  · intro h2
    simp at h2; omega
def backT (T : List (Nat × List Int)) (j : Nat) : List (Nat × List Int) := T.set j ((T.getD j (0, [])).1, (T.getD j (0, [])).2.dropLast)
theorem back_spec {F G : Mem} {N : Nat} (hF : F.length = N) {ks : List St} {ls : List Ln} {e0 e4 : Ent} {life : Int} {L I W : List Int} {vi : Nat} {T : List (Nat × List Int)} (loan item : Int) (hl : 0 ≤ loan ∧ loan < ls.length) (hi : 0 ≤ item ∧ item < T.length) (hW : W.length = T.length)
    (h20 : ls.length ≤ 20) (h8 : T.length ≤ 100) (hI : I.length ≤ 1000) (hu : 0 ≤ (ls.getD loan.toNat ln0).uses ∧ (ls.getD loan.toNat ln0).uses ≤ 100) (hw : 0 ≤ W.getD item.toNat 0 ∧ W.getD item.toNat 0 ≤ 10000) (hTl : 1 ≤ (T.getD item.toNat (0, [])).2.length ∧ (T.getD item.toNat (0, [])).2.length ≤ 1000) :
    Go.Vg.Spec Try.prog 84 [.optr (N + 3) 1 0 0, .int loan] (F ++ blk N ks ls e0 e4 life L vi (I ++ [item]) W T G) (fun _ m' => m' = F ++ blk N ks ls e0 e4 life L vi I (W.set item.toNat (W.getD item.toNat 0 - (ls.getD loan.toNat ln0).uses)) (backT T item.toNat) G) := by
  unfold backT
  generalize hx : ls.getD loan.toNat ln0 = x at hu
  generalize hz : W.getD item.toNat 0 = z at hw
  have hlg : ∀ d, (lentR N 7 T).getD item.toNat d = .osl (N + (7 + item.toNat)) (T.getD item.toNat (0, [])).1 0 (T.getD item.toNat (0, [])).2.length := fun d => lentR_getD d (by omega)
  have heg := lentE_get (T := T) (G := G) (j := item.toNat) (by omega)
  have hsg := fun v l => lentE_set (T := T) (G := G) (j := item.toNat) (by omega) v l
  have hrs := fun v l => lentR_set (N := N) (T := T) (k := 7) (j := item.toNat) (v := v) (l := l)
  generalize ht : T.getD item.toNat (0, []) = t at hTl hlg heg
  obtain ⟨tv, tl⟩ := t
  simp only at hTl hlg
  rw [lentE] at heg
  simp only at heg
  have hdl : tl.dropLast = tl.take (tl.length - 1) := List.dropLast_eq_take ..
  have hlast : (I ++ [item]).getD I.length 0 = item := by simp
  have htk : (I ++ [item]).take I.length = I := by simp
  have hJl : (I ++ [item]).length = I.length + 1 := by simp
  generalize I ++ [item] = J at hlast htk hJl
  (refine Spec.of_bodyA Try.func84 rfl (by rw [Try.ntmps84]; simp) ?_; rw [Try.results84, Try.ntmps84]; simp only [entry, zipArgs, Nat.reduceAdd])
  repeat (first | apply Wp.seq | apply Wp.block | (apply Run.next; (simp only [push_cast, seval, hx, hz, hW, hlg, getF hF, getF0 hF, setF hF, setF0 hF, get7, set7, heg, lentR_len, hsg, hlast, hJl, Int.add_sub_cancel, ← List.map_take, htk, Nat.sub_zero] <;> (try simp (disch := omega) only [wI, wU, wC]) <;> exact rfl); (focus ((try simp only [push_cast, seval, hx, hz, hW, hlg, getF hF, getF0 hF, setF hF, setF0 hF, get7, set7, heg, lentR_len, hsg, hlast, hJl, Int.add_sub_cancel, ← List.map_take, htk, Nat.sub_zero]) <;> exact sT))) | ((first | apply Run.nil | apply Wp.skip); dsimp only [sQ, tQ, bQ]) | (apply Wp.run; (dsimp only [List.map] <;> exact rfl); exact rfl) | (apply Wp.exit; dsimp only [sQ, tQ, bQ]; simp only [reduceIte]))
  (apply Wp.cond; (simp only [push_cast, seval, hx, hz, hW, hlg, getF hF, getF0 hF, setF hF, setF0 hF, get7, set7, heg, lentR_len, hsg, hlast, hJl, Int.add_sub_cancel, ← List.map_take, htk, Nat.sub_zero] <;> (try simp (disch := omega) only [wI, wU, wC]) <;> exact rfl))
  · (intro hc; try simp only [decide_eq_true_eq, decide_eq_false_iff_not, Bool.and_eq_true, Bool.or_eq_true, Bool.not_eq_true, Bool.not_eq_false, Bool.not_eq_true', Bool.not_eq_false', Bool.and_eq_false_iff, Bool.or_eq_false_iff, Int.not_lt, Int.not_le, Int.ofNat_lt, Int.ofNat_le] at hc)
    repeat (first | apply Wp.seq | apply Wp.block | (apply Run.next; (simp only [push_cast, seval, hx, hz, hW, hlg, getF hF, getF0 hF, setF hF, setF0 hF, get7, set7, heg, lentR_len, hsg, hlast, hJl, Int.add_sub_cancel, ← List.map_take, htk, Nat.sub_zero] <;> (try simp (disch := omega) only [wI, wU, wC]) <;> exact rfl); (focus ((try simp only [push_cast, seval, hx, hz, hW, hlg, getF hF, getF0 hF, setF hF, setF0 hF, get7, set7, heg, lentR_len, hsg, hlast, hJl, Int.add_sub_cancel, ← List.map_take, htk, Nat.sub_zero]) <;> exact sT))) | ((first | apply Run.nil | apply Wp.skip); dsimp only [sQ, tQ, bQ]) | (apply Wp.run; (dsimp only [List.map] <;> exact rfl); exact rfl) | (apply Wp.exit; dsimp only [sQ, tQ, bQ]; simp only [reduceIte]))
    (apply Wp.runE 18 18 mixed; (dsimp only [List.map] <;> exact rfl); exact rfl; kernel_rfl; ((repeat (apply Abe.next; exact rfl; (simp only [push_cast, seval, hx, hz, hW, hlg, getF hF, getF0 hF, setF hF, setF0 hF, get7, set7, heg, lentR_len, hsg, hlast, hJl, Int.add_sub_cancel, ← List.map_take, htk, Nat.sub_zero] <;> (try simp (disch := omega) only [wI, wU, wC]) <;> exact rfl); (focus ((try simp only [push_cast, seval, hx, hz, hW, hlg, getF hF, getF0 hF, setF hF, setF0 hF, get7, set7, heg, lentR_len, hsg, hlast, hJl, Int.add_sub_cancel, ← List.map_take, htk, Nat.sub_zero]) <;> exact sT)))); (apply Abe.eff; exact rfl; (simp only [push_cast, seval, hx, hz, hW, hlg, getF hF, getF0 hF, setF hF, setF0 hF, get7, set7, heg, lentR_len, hsg, hlast, hJl, Int.add_sub_cancel, ← List.map_take, htk, Nat.sub_zero] <;> (try simp (disch := omega) only [wI, wU, wC]) <;> exact rfl); (focus ((try simp only [push_cast, seval, hx, hz, hW, hlg, getF hF, getF0 hF, setF hF, setF0 hF, get7, set7, heg, lentR_len, hsg, hlast, hJl, Int.add_sub_cancel, ← List.map_take, htk, Nat.sub_zero]) <;> exact sT)); (try dsimp only [putA])); (repeat (apply Abe.next; exact rfl; (simp only [push_cast, seval, hx, hz, hW, hlg, getF hF, getF0 hF, setF hF, setF0 hF, get7, set7, heg, lentR_len, hsg, hlast, hJl, Int.add_sub_cancel, ← List.map_take, htk, Nat.sub_zero] <;> (try simp (disch := omega) only [wI, wU, wC]) <;> exact rfl); (focus ((try simp only [push_cast, seval, hx, hz, hW, hlg, getF hF, getF0 hF, setF hF, setF0 hF, get7, set7, heg, lentR_len, hsg, hlast, hJl, Int.add_sub_cancel, ← List.map_take, htk, Nat.sub_zero]) <;> exact sT)))); exact Abe.nil))
    repeat (first | apply Wp.seq | apply Wp.block | (apply Run.next; (simp only [push_cast, seval, hx, hz, hW, hlg, getF hF, getF0 hF, setF hF, setF0 hF, get7, set7, heg, lentR_len, hsg, hlast, hJl, Int.add_sub_cancel, ← List.map_take, htk, Nat.sub_zero] <;> (try simp (disch := omega) only [wI, wU, wC]) <;> exact rfl); (focus ((try simp only [push_cast, seval, hx, hz, hW, hlg, getF hF, getF0 hF, setF hF, setF0 hF, get7, set7, heg, lentR_len, hsg, hlast, hJl, Int.add_sub_cancel, ← List.map_take, htk, Nat.sub_zero]) <;> exact sT))) | ((first | apply Run.nil | apply Wp.skip); dsimp only [sQ, tQ, bQ]) | (apply Wp.run; (dsimp only [List.map] <;> exact rfl); exact rfl) | (apply Wp.exit; dsimp only [sQ, tQ, bQ]; simp only [reduceIte]))
    (apply Wp.runE 23 23 mixed; (dsimp only [List.map] <;> exact rfl); exact rfl; kernel_rfl; ((repeat (apply Abe.next; exact rfl; (simp only [push_cast, seval, hx, hz, hW, hlg, getF hF, getF0 hF, setF hF, setF0 hF, get7, set7, heg, lentR_len, hsg, hlast, hJl, Int.add_sub_cancel, ← List.map_take, htk, Nat.sub_zero] <;> (try simp (disch := omega) only [wI, wU, wC]) <;> exact rfl); (focus ((try simp only [push_cast, seval, hx, hz, hW, hlg, getF hF, getF0 hF, setF hF, setF0 hF, get7, set7, heg, lentR_len, hsg, hlast, hJl, Int.add_sub_cancel, ← List.map_take, htk, Nat.sub_zero]) <;> exact sT)))); (apply Abe.eff; exact rfl; (simp only [push_cast, seval, hx, hz, hW, hlg, getF hF, getF0 hF, setF hF, setF0 hF, get7, set7, heg, lentR_len, hsg, hlast, hJl, Int.add_sub_cancel, ← List.map_take, htk, Nat.sub_zero] <;> (try simp (disch := omega) only [wI, wU, wC]) <;> exact rfl); (focus ((try simp only [push_cast, seval, hx, hz, hW, hlg, getF hF, getF0 hF, setF hF, setF0 hF, get7, set7, heg, lentR_len, hsg, hlast, hJl, Int.add_sub_cancel, ← List.map_take, htk, Nat.sub_zero]) <;> exact sT)); (try dsimp only [putA])); (repeat (apply Abe.next; exact rfl; (simp only [push_cast, seval, hx, hz, hW, hlg, getF hF, getF0 hF, setF hF, setF0 hF, get7, set7, heg, lentR_len, hsg, hlast, hJl, Int.add_sub_cancel, ← List.map_take, htk, Nat.sub_zero] <;> (try simp (disch := omega) only [wI, wU, wC]) <;> exact rfl); (focus ((try simp only [push_cast, seval, hx, hz, hW, hlg, getF hF, getF0 hF, setF hF, setF0 hF, get7, set7, heg, lentR_len, hsg, hlast, hJl, Int.add_sub_cancel, ← List.map_take, htk, Nat.sub_zero]) <;> exact sT)))); exact Abe.nil))
    (apply Wp.trim (N + (7 + item.toNat)) ( tl.length - 1); (simp only [push_cast, seval, hx, hz, hW, hlg, getF hF, getF0 hF, setF hF, setF0 hF, get7, set7, heg, lentR_len, hsg, hlast, hJl, Int.add_sub_cancel, ← List.map_take, htk, Nat.sub_zero] <;> (try simp (disch := omega) only [wI, wU, wC]) <;> exact rfl); (try simp only [push_cast, seval, hx, hz, hW, hlg, getF hF, getF0 hF, setF hF, setF0 hF, get7, set7, heg, lentR_len, hsg, hlast, hJl, Int.add_sub_cancel, ← List.map_take, htk, Nat.sub_zero]))
    repeat (first | apply Wp.seq | apply Wp.block | (apply Wp.skip; dsimp only [sQ, tQ, bQ]))
    (apply Wp.run; (dsimp only [List.map] <;> exact rfl); exact rfl)
    iterate 7 (apply Run.next; (simp only [push_cast, seval, hx, hz, hW, hlg, getF hF, getF0 hF, setF hF, setF0 hF, get7, set7, heg, lentR_len, hsg, hlast, hJl, Int.add_sub_cancel, ← List.map_take, htk, Nat.sub_zero] <;> (try simp (disch := omega) only [wI, wU, wC]) <;> exact rfl); (focus ((try simp only [push_cast, seval, hx, hz, hW, hlg, getF hF, getF0 hF, setF hF, setF0 hF, get7, set7, heg, lentR_len, hsg, hlast, hJl, Int.add_sub_cancel, ← List.map_take, htk, Nat.sub_zero]) <;> exact sT)))
    (apply Run.trim (N + 6) ( I.length); (simp only [push_cast, seval, hx, hz, hW, hlg, getF hF, getF0 hF, setF hF, setF0 hF, get7, set7, heg, lentR_len, hsg, hlast, hJl, Int.add_sub_cancel, ← List.map_take, htk, Nat.sub_zero] <;> (try simp (disch := omega) only [wI, wU, wC]) <;> exact rfl); (simp only [push_cast, seval, hx, hz, hW, hlg, getF hF, getF0 hF, setF hF, setF0 hF, get7, set7, heg, lentR_len, hsg, hlast, hJl, Int.add_sub_cancel, ← List.map_take, htk, Nat.sub_zero] <;> (try simp (disch := omega) only [wI, wU, wC]) <;> exact rfl); (try simp only [push_cast, seval, hx, hz, hW, hlg, getF hF, getF0 hF, setF hF, setF0 hF, get7, set7, heg, lentR_len, hsg, hlast, hJl, Int.add_sub_cancel, ← List.map_take, htk, Nat.sub_zero]))
    iterate 3 (apply Run.next; (simp only [push_cast, seval, hx, hz, hW, hlg, getF hF, getF0 hF, setF hF, setF0 hF, get7, set7, heg, lentR_len, hsg, hlast, hJl, Int.add_sub_cancel, ← List.map_take, htk, Nat.sub_zero] <;> (try simp (disch := omega) only [wI, wU, wC]) <;> exact rfl); (focus ((try simp only [push_cast, seval, hx, hz, hW, hlg, getF hF, getF0 hF, setF hF, setF0 hF, get7, set7, heg, lentR_len, hsg, hlast, hJl, Int.add_sub_cancel, ← List.map_take, htk, Nat.sub_zero]) <;> exact sT)))
    apply Run.nil
    (apply leaveAN; exact rfl; (simp only [push_cast, seval, hx, hz, hW, hlg, getF hF, getF0 hF, setF hF, setF0 hF, get7, set7, heg, lentR_len, hsg, hlast, hJl, Int.add_sub_cancel, ← List.map_take, htk, Nat.sub_zero] <;> (try simp (disch := omega) only [wI, wU, wC]) <;> exact rfl); (focus (first | (simp only [push_cast, seval, hx, hz, hW, hlg, getF hF, getF0 hF, setF hF, setF0 hF, get7, set7, heg, lentR_len, hsg, hlast, hJl, Int.add_sub_cancel, ← List.map_take, htk, Nat.sub_zero]; done) | trivial | (simp only [push_cast, seval, hx, hz, hW, hlg, getF hF, getF0 hF, setF hF, setF0 hF, get7, set7, heg, lentR_len, hsg, hlast, hJl, Int.add_sub_cancel, ← List.map_take, htk, Nat.sub_zero]; trivial) | (simp; done))); (try simp only [push_cast, seval, hx, hz, hW, hlg, getF hF, getF0 hF, setF hF, setF0 hF, get7, set7, heg, lentR_len, hsg, hlast, hJl, Int.add_sub_cancel, ← List.map_take, htk, Nat.sub_zero]))
    have e := hrs tv tl.dropLast
    rw [List.length_dropLast] at e
    simp [blk, benR, hW, htk, hdl] at e ⊢
    exact e
  · intro h2
    simp at h2; omega
end Go.Proofs.Try
set_option maxHeartbeats 8000000
namespace Go.Proofs.Try
open Go.Vg

/-! a bench, read as frozen -/
theorem VwL.selfs {m : Mem} : ∀ {xs : List AV}, okL 0 xs → VwL m xs xs
  | [], _ => .nil
  | x :: xs, h => .cons (.self h.1) (VwL.selfs h.2)
theorem Vw.oints {m : Mem} {id ver : Nat} {l : List Int} (n : Nat) (hn : n = l.length) (hm : m[id]? = some ⟨ver, .row 1 (l.map AV.int)⟩) : Vw m (.osl id ver 0 n) (.ints l) := by
  subst hn
  refine .osl hm (by simp) (by omega) ?_
  have e : ((l.map AV.int).drop 0).take l.length = l.map AV.int := by simp [List.take_of_length_le]
  rw [e]
  exact VwL.selfs (by simp only [push_cast])
theorem VwL.lent {m : Mem} {N : Nat} : ∀ {T : List (Nat × List Int)} {k : Nat}, (∀ j, j < T.length → m[N + (k + j)]? = some (lentE (T.getD j (0, [])))) → VwL m (lentR N k T) ((T.map (·.2)).map AV.ints)
  | [], _, _ => .nil
  | t :: T, k, h => by
    refine .cons (Vw.oints _ rfl (by have := h 0 (by simp); simpa [lentE] using this)) (VwL.lent (k := k + 1) fun j hj => ?_)
    have := h (j + 1) (by simpa using hj)
    rw [show k + 1 + j = k + (j + 1) by omega, this]
    simp
theorem blk_vw {F G : Mem} {N : Nat} (hF : F.length = N) {ks : List St} {ls : List Ln} {e0 e4 : Ent} {life : Int} {L I W : List Int} {vi : Nat} {T : List (Nat × List Int)} :
    Vw (F ++ blk N ks ls e0 e4 life L vi I W T G) (.optr (N + 3) 1 0 0) (.ref (benF ks ls life L I W (T.map (·.2))) 0) := by
  refine .optr (sz := 7) (l := [benR N ks ls life L vi I W T]) (x := benR N ks ls life L vi I W T) (by rw [getF hF]; rfl) rfl (by simp [AV.cells]) ?_
  refine .cons (.self (by simp only [push_cast])) (.cons (.self (by simp only [push_cast])) (.cons (.self trivial) (.cons (Vw.oints _ rfl (by rw [getF hF]; rfl)) (.cons (Vw.oints _ rfl (by rw [getF hF]; rfl)) (.cons (Vw.oints _ rfl (by rw [getF hF]; rfl)) (.cons ?_ .nil))))))
  refine .osl (sz := 1) (l := lentR N 7 T) (by rw [getF hF]; rfl) (by rw [lentR_len]; omega) (by omega) ?_
  have e : ((lentR N 7 T).drop 0).take T.length = lentR N 7 T := by simp [List.take_of_length_le, lentR_len]
  rw [e]
  refine VwL.lent fun j hj => ?_
  rw [getF hF, get7, lentE_get hj]
end Go.Proofs.Try
set_option maxHeartbeats 8000000
namespace Go.Proofs.Try

/-! a search, number by number, in order -/
/-- right from n on -/
def RtF (c : Nat → Nat) (ok : List Int → Bool) (n : Nat) (J : List Int) : Prop := ∀ k, n ≤ k → k < J.length → ∃ j : Nat, j < c k ∧ J.getD k 0 = (j : Int) ∧ ok (J.take (k + 1)) = true
def LxT (J J' : List Int) : Prop := ∃ i, i < J.length ∧ J.take i = J'.take i ∧ J.getD i 0 < J'.getD i 0
theorem take_succ_getD {J : List Int} {n : Nat} (h : n < J.length) : J.take (n + 1) = J.take n ++ [J.getD n 0] := by
  rw [List.take_add_one]; simp [h]
/-- an extension, right from the end of the beginning on -/
def Ext (c : Nat → Nat) (ok : List Int → Bool) (r : Nat) (I J : List Int) : Prop := J.length = I.length + r ∧ J.take I.length = I ∧ RtF c ok I.length J
theorem ext_step {c : Nat → Nat} {ok : List Int → Bool} {r : Nat} {I J : List Int} : Ext c ok (r + 1) I J ↔ ∃ j : Nat, j < c I.length ∧ ok (I ++ [(j : Int)]) = true ∧ Ext c ok r (I ++ [(j : Int)]) J := by
  constructor
  · rintro ⟨h1, h2, h3⟩
    obtain ⟨j, h4, h5, h6⟩ := h3 I.length (Nat.le_refl _) (by omega)
    have e := take_succ_getD (J := J) (n := I.length) (by omega)
    rw [h2, h5] at e
    refine ⟨j, h4, by rw [← e]; exact h6, by simp; omega, by rw [List.length_append]; exact e, fun k h7 h8 => h3 k (by simp at h7; omega) h8⟩
  · rintro ⟨j, h4, h5, h1, h2, h3⟩
    rw [List.length_append] at h2 h1 h3
    simp only [List.length_cons, List.length_nil, Nat.zero_add] at h1 h2 h3
    have e := take_succ_getD (J := J) (n := I.length) (by omega)
    rw [h2] at e
    have e1 := List.append_inj e (by simp; omega)
    refine ⟨by omega, e1.1.symm, fun k h7 h8 => ?_⟩
    by_cases hk : k = I.length
    · subst hk
      have e2 := e1.2
      injection e2 with e2
      exact ⟨j, h4, e2.symm, by rw [h2]; exact h5⟩
    · exact h3 k (by omega) h8
theorem LxT.asymm {J J' : List Int} (hl : J.length = J'.length) (h : LxT J J') (h' : LxT J' J) : False := by
  obtain ⟨i, h1, h2, h3⟩ := h
  obtain ⟨k, h4, h5, h6⟩ := h'
  have hg : ∀ {A B : List Int} {n m : Nat}, A.take n = B.take n → m < n → A.getD m 0 = B.getD m 0 := by
    intro A B n m e hm
    have := congrArg (fun l => l.getD m 0) e
    simpa [List.getD_eq_getElem?_getD, List.getElem?_take, hm] using this
  rcases Nat.lt_trichotomy i k with h | h | h
  · have := hg h5 h; omega
  · subst h; omega
  · have := hg h2 h; omega
/-! all of them, in order -/
def plF (f : Nat → List (List Int)) : Nat → Nat → List (List Int)
  | 0, _ => []
  | d + 1, j => f j ++ plF f d (j + 1)
def plL (c : Nat → Nat) (ok : List Int → Bool) : Nat → List Int → List (List Int)
  | 0, I => [I]
  | r + 1, I => plF (fun j => if ok (I ++ [(j : Int)]) = true then plL c ok r (I ++ [(j : Int)]) else []) (c I.length) 0
theorem plF_mem {f : Nat → List (List Int)} {x : List Int} : ∀ {d j : Nat}, x ∈ plF f d j ↔ ∃ i, j ≤ i ∧ i < j + d ∧ x ∈ f i
  | 0, j => by simp only [plF, List.not_mem_nil, false_iff]; rintro ⟨i, h1, h2, _⟩; omega
  | d + 1, j => by
    simp only [plF, List.mem_append, plF_mem]
    constructor
    · rintro (h | ⟨i, h1, h2, h3⟩)
      · exact ⟨j, by omega, by omega, h⟩
      · exact ⟨i, by omega, by omega, h3⟩
    · rintro ⟨i, h1, h2, h3⟩
      by_cases hij : i = j
      · subst hij; exact .inl h3
      · exact .inr ⟨i, by omega, by omega, h3⟩
theorem plL_mem {c : Nat → Nat} {ok : List Int → Bool} {J : List Int} : ∀ {r : Nat} {I : List Int}, J ∈ plL c ok r I ↔ Ext c ok r I J
  | 0, I => by
    simp only [plL, List.mem_singleton]
    constructor
    · rintro rfl; exact ⟨rfl, by simp, fun k h1 h2 => by omega⟩
    · intro h
      have := h.2.1
      rw [List.take_of_length_le (by have := h.1; omega)] at this
      exact this
  | r + 1, I => by
    simp only [plL]
    rw [plF_mem, ext_step]
    constructor
    · rintro ⟨j, h1, h2, h3⟩
      split at h3
      · rename_i hok; exact ⟨j, by omega, hok, plL_mem.1 h3⟩
      · cases h3
    · rintro ⟨j, h1, h2, h3⟩
      exact ⟨j, by omega, by omega, by rw [if_pos h2]; exact plL_mem.2 h3⟩
/-! numbers that are alike -/
end Go.Proofs.Try
set_option maxHeartbeats 8000000
namespace Go.Proofs.Try

/-! the items of one kind -/
def sW (u : Nat → Int) (I : List Int) (x : Int) : Nat → Int
  | 0 => 0
  | i + 1 => if I.getD i 0 = x then sW u I x i + u i else sW u I x i
def lnI (I : List Int) (x : Int) (n : Nat) : List Nat := (List.range n).filter fun i => decide (I.getD i 0 = x)
theorem lnI_succ (I : List Int) (x : Int) (n : Nat) : lnI I x (n + 1) = if I.getD n 0 = x then lnI I x n ++ [n] else lnI I x n := by
  unfold lnI; rw [List.range_succ, List.filter_append]
  by_cases h : I.getD n 0 = x
  · rw [if_pos h, List.filter_cons, if_pos (decide_eq_true h)]; rfl
  · rw [if_neg h, List.filter_cons, if_neg (by rw [decide_eq_false h]; simp)]; simp
theorem getD_left {I J : List Int} {i : Nat} (h : i < I.length) : (I ++ J).getD i 0 = I.getD i 0 := by
  simp only [List.getD_eq_getElem?_getD]; rw [List.getElem?_append_left h]
theorem getD_last (I : List Int) (x : Int) : (I ++ [x]).getD I.length 0 = x := by simp
theorem sW_left (u : Nat → Int) (I J : List Int) (x : Int) : ∀ {n : Nat}, n ≤ I.length → sW u (I ++ J) x n = sW u I x n
  | 0, _ => rfl
  | n + 1, h => by simp only [sW]; rw [getD_left (by omega), sW_left u I J x (by omega)]
theorem lnI_left (I J : List Int) (x : Int) : ∀ {n : Nat}, n ≤ I.length → lnI (I ++ J) x n = lnI I x n
  | 0, _ => rfl
  | n + 1, h => by rw [lnI_succ, lnI_succ, getD_left (by omega), lnI_left I J x (by omega)]
theorem sW_bd {u : Nat → Int} (hu : ∀ i, 0 ≤ u i ∧ u i ≤ 100) (I : List Int) (x : Int) : ∀ n : Nat, 0 ≤ sW u I x n ∧ sW u I x n ≤ 100 * (n : Int)
  | 0 => by simp [sW]
  | n + 1 => by
    have ih := sW_bd hu I x n
    have := hu n
    simp only [sW]; split <;> omega
/-- the last loan is lent rightly -/
def okU (u : Nat → Int) (o : Nat → Nat → Bool) (life : Int) (I : List Int) : Bool :=
  decide (sW u I (I.getD (I.length - 1) 0) (I.length - 1) + u (I.length - 1) ≤ life) && !(lnI I (I.getD (I.length - 1) 0) (I.length - 1)).any fun i => o i (I.length - 1)
theorem okU_snoc (u : Nat → Int) (o : Nat → Nat → Bool) (life : Int) (I : List Int) (x : Int) : okU u o life (I ++ [x]) = (decide (sW u I x I.length + u I.length ≤ life) && !(lnI I x I.length).any fun i => o i I.length) := by
  unfold okU
  rw [show (I ++ [x]).length - 1 = I.length by simp, getD_last, sW_left u I [x] x (Nat.le_refl _), lnI_left I [x] x (Nat.le_refl _)]
def sumN (u : Nat → Int) : Nat → Int
  | 0 => 0
  | k + 1 => sumN u k + u k
theorem sum_add (f g : Nat → Int) : ∀ n, sumN (fun x => f x + g x) n = sumN f n + sumN g n
  | 0 => rfl
  | n + 1 => by simp only [sumN, sum_add f g n]; omega
theorem sum_one (v : Int) (j : Nat) : ∀ n, sumN (fun x => if x = j then v else 0) n = if j < n then v else 0
  | 0 => rfl
  | n + 1 => by
    simp only [sumN, sum_one v j n]
    by_cases h : n = j
    · subst h; simp
    · by_cases h2 : j < n
      · rw [if_pos h2, if_neg h, if_pos (by omega)]; omega
      · rw [if_neg h2, if_neg h, if_neg (by omega)]; rfl
end Go.Proofs.Try
set_option maxHeartbeats 8000000
namespace Go.Proofs.Try
open Go.Vg

/-! a bench as the items of its first loans tell it -/
def uL (ls : List Ln) (L : List Int) (i : Nat) : Int := (ls.getD (L.getD i 0).toNat ln0).uses
def oL (ls : List Ln) (L : List Int) (i k : Nat) : Bool := ovB (ls.getD (L.getD i 0).toNat ln0) (ls.getD (L.getD k 0).toNat ln0)
def okK (ls : List Ln) (life : Int) (L : List Int) : List Int → Bool := okU (uL ls L) (oL ls L) life
def wO (ls : List Ln) (L : List Int) (n : Nat) (I : List Int) : List Int := (List.range n).map fun j : Nat => sW (uL ls L) I (j : Int) I.length
def tO (L : List Int) (n : Nat) (I : List Int) : List (List Int) := (List.range n).map fun j : Nat => (lnI I (j : Int) I.length).map fun i => L.getD i 0
theorem wO_len (ls : List Ln) (L : List Int) (n : Nat) (I : List Int) : (wO ls L n I).length = n := by simp [wO]
theorem tO_len (L : List Int) (n : Nat) (I : List Int) : (tO L n I).length = n := by simp [tO]
theorem wO_get (ls : List Ln) (L : List Int) {n j : Nat} (I : List Int) (h : j < n) : (wO ls L n I).getD j 0 = sW (uL ls L) I (j : Int) I.length := by simp [wO, h]
theorem tO_get (L : List Int) {n j : Nat} (I : List Int) (h : j < n) : (tO L n I).getD j [] = (lnI I (j : Int) I.length).map fun i => L.getD i 0 := by simp [tO, h]
theorem wO_snoc (ls : List Ln) (L : List Int) {n j : Nat} (I : List Int) (h : j < n) : wO ls L n (I ++ [(j : Int)]) = (wO ls L n I).set j ((wO ls L n I).getD j 0 + uL ls L I.length) := by
  apply List.ext_getElem (by simp [wO])
  intro k h1 h2
  have hk : k < n := by simpa [wO] using h1
  rw [List.getElem_set]
  have e : (wO ls L n (I ++ [(j : Int)]))[k] = if (j : Int) = (k : Int) then sW (uL ls L) I (k : Int) I.length + uL ls L I.length else sW (uL ls L) I (k : Int) I.length := by
    simp only [wO, List.getElem_map, List.getElem_range, List.length_append, List.length_cons, List.length_nil, Nat.zero_add, sW]
    rw [getD_last, sW_left _ _ _ _ (Nat.le_refl _)]
  rw [e]
  by_cases hkj : j = k
  · subst hkj; rw [if_pos rfl, if_pos rfl, wO_get ls L I h]
  · rw [if_neg (by omega), if_neg hkj]; simp [wO]
theorem tO_snoc (L : List Int) {n j : Nat} (I : List Int) (h : j < n) : tO L n (I ++ [(j : Int)]) = (tO L n I).set j ((tO L n I).getD j [] ++ [L.getD I.length 0]) := by
  apply List.ext_getElem (by simp [tO])
  intro k h1 h2
  have hk : k < n := by simpa [tO] using h1
  rw [List.getElem_set]
  have e : (tO L n (I ++ [(j : Int)]))[k] = (if (j : Int) = (k : Int) then lnI I (k : Int) I.length ++ [I.length] else lnI I (k : Int) I.length).map fun i => L.getD i 0 := by
    simp only [tO, List.getElem_map, List.getElem_range, List.length_append, List.length_cons, List.length_nil, Nat.zero_add]
    rw [lnI_succ, getD_last, lnI_left _ _ _ (Nat.le_refl _)]
  rw [e]
  by_cases hkj : j = k
  · subst hkj; rw [if_pos rfl, if_pos rfl, tO_get L I h]; simp
  · rw [if_neg (by omega), if_neg hkj]; simp [tO]
theorem fit_ok (ls : List Ln) (life : Int) (L : List Int) {n j : Nat} (I : List Int) (h : j < n) : fitB ls life (wO ls L n I) (tO L n I) (L.getD I.length 0).toNat j = okK ls life L (I ++ [(j : Int)]) := by
  unfold fitB okK
  rw [okU_snoc, wO_get ls L I h, tO_get L I h, List.any_map]
  rfl
theorem wO_nil (ls : List Ln) (L : List Int) (n : Nat) : wO ls L n [] = List.replicate n 0 := by
  apply List.ext_getElem (by simp [wO])
  intro k h1 h2
  simp [wO, sW]
theorem tO_nil (L : List Int) (n : Nat) : (T0 n).map (·.2) = tO L n [] := by
  apply List.ext_getElem (by simp [tO, T0])
  intro k h1 h2
  simp [tO, T0, lnI]
theorem wO_back (ls : List Ln) (L : List Int) {n j : Nat} (I : List Int) (h : j < n) : (wO ls L n (I ++ [(j : Int)])).set j ((wO ls L n (I ++ [(j : Int)])).getD j 0 - uL ls L I.length) = wO ls L n I := by
  rw [wO_snoc ls L I h]
  have hl := wO_len ls L n I
  generalize wO ls L n I = W at hl
  subst hl
  apply List.ext_getElem (by simp)
  intro k h1 h2
  rw [List.getElem_set]
  by_cases hkj : j = k
  · subst hkj; simp [h]
  · rw [if_neg hkj, List.getElem_set, if_neg hkj]
theorem tO_back (L : List Int) {n j : Nat} (I : List Int) (h : j < n) : (tO L n (I ++ [(j : Int)])).set j ((tO L n (I ++ [(j : Int)])).getD j []).dropLast = tO L n I := by
  rw [tO_snoc L I h]
  have hl := tO_len L n I
  generalize tO L n I = W at hl
  subst hl
  apply List.ext_getElem (by simp)
  intro k h1 h2
  rw [List.getElem_set]
  by_cases hkj : j = k
  · subst hkj; simp [h]
  · rw [if_neg hkj, List.getElem_set, if_neg hkj]
theorem lent_mem {L : List Int} {n j : Nat} {I : List Int} (h : j < n) : ((tO L n I).getD j []).length = 0 ↔ (j : Int) ∉ I := by
  rw [tO_get L I h, List.length_map, List.length_eq_zero_iff]
  unfold lnI
  rw [List.filter_eq_nil_iff]
  constructor
  · intro hx hm
    obtain ⟨i, hi, he⟩ := List.mem_iff_getElem.1 hm
    exact hx i (List.mem_range.2 hi) (decide_eq_true (by simp [hi, he]))
  · intro hx i hi he
    rw [List.mem_range] at hi
    apply hx
    rw [← of_decide_eq_true he]
    simp [hi]
end Go.Proofs.Try
set_option maxHeartbeats 8000000
namespace Go.Proofs.Try
open Go.Vg

/-! the search for the first items -/
theorem tO_bd {ls : List Ln} {L : List Int} (hL : ∀ x ∈ L, 0 ≤ x ∧ x < (ls.length : Int)) {n j : Nat} {I : List Int} (hj : j < n) (hI : I.length ≤ L.length) : ∀ x ∈ (tO L n I).getD j [], 0 ≤ x ∧ x < (ls.length : Int) := by
  intro x hx
  rw [tO_get L I hj, List.mem_map] at hx
  obtain ⟨i, hi, rfl⟩ := hx
  unfold lnI at hi
  rw [List.mem_filter, List.mem_range] at hi
  refine hL _ ?_
  have : i < L.length := by omega
  simp [this]
theorem tO_le (L : List Int) {n j : Nat} (I : List Int) (hj : j < n) : ((tO L n I).getD j []).length ≤ I.length := by
  rw [tO_get L I hj, List.length_map]
  unfold lnI
  refine Nat.le_trans (List.length_filter_le _ _) ?_
  simp
theorem T_snd {T : List (Nat × List Int)} {X : List (List Int)} (h : T.map (·.2) = X) (j : Nat) : (T.getD j (0, [])).2 = X.getD j [] := by
  subst h
  rcases Nat.lt_or_ge j T.length with h | h
  · simp [List.getD_eq_getElem?_getD, h]
  · simp [List.getD_eq_getElem?_getD, h]
theorem lentT_snd {T : List (Nat × List Int)} {L : List Int} {n j : Nat} {I : List Int} (h : T.map (·.2) = tO L n I) (hj : j < n) : (lentT T j (L.getD I.length 0)).map (·.2) = tO L n (I ++ [(j : Int)]) := by
  rw [tO_snoc L I hj, lentT, List.map_set, h, T_snd h]
theorem backT_snd {T : List (Nat × List Int)} {L : List Int} {n j : Nat} {I : List Int} (h : T.map (·.2) = tO L n (I ++ [(j : Int)])) (hj : j < n) : (backT T j).map (·.2) = tO L n I := by
  rw [← tO_back L I hj, backT, List.map_set, h, T_snd h]
end Go.Proofs.Try
