/- A part of the proof of StoreRepairs: contracts of functions, with plain laws that they need. -/
import Derived.Test.YtljchlkmalidnaaVgT
import Derived.Test.YtljchlkmalidnaaVgDm
import Derived.Test.YtljchlkmalidnaaVgNm
import Derived.Test.YtljchlkmalidnaaVgY3J
set_option linter.all false
set_option maxHeartbeats 8000000
namespace Go.Proofs.Try
open Go.Vg
theorem sameInts_pure (a b : List Int) : Pure Try.prog 23 [.ints a, .ints b] (.bool (decide (a = b))) := by
  (refine Spec.of_body Try.func23 rfl (by rw [Try.ntmps23]; simp) 0 (by simp) ?_; rw [Try.results23, Try.ntmps23]; simp only [entry, zipArgs, Nat.reduceAdd])
  apply Wp.len 0; (simp only [push_cast, seval] <;> (try simp (disch := omega) only [wI, wU, wC]) <;> exact rfl)
  intro hlen
  simp only [List.length_map] at hlen
  repeat (first | apply Wp.seq | apply Wp.block | (apply Run.next; (simp only [push_cast, seval] <;> (try simp (disch := omega) only [wI, wU, wC]) <;> exact rfl); (focus ((try simp only [push_cast, seval]) <;> exact sT))) | ((first | apply Run.nil | apply Wp.skip); dsimp only [sQ, tQ, bQ]) | (apply Wp.run; (dsimp only [List.map] <;> exact rfl); exact rfl) | (apply Wp.exit; dsimp only [sQ, tQ, bQ]; simp only [reduceIte]))
  (apply Wp.cond; (simp only [push_cast, seval] <;> (try simp (disch := omega) only [wI, wU, wC]) <;> exact rfl))
  · (intro hc; try simp only [decide_eq_true_eq, decide_eq_false_iff_not, Bool.and_eq_true, Bool.or_eq_true, Bool.not_eq_true, Bool.not_eq_false, Bool.not_eq_true', Bool.not_eq_false', Bool.and_eq_false_iff, Bool.or_eq_false_iff, Int.not_lt, Int.not_le, Int.ofNat_lt, Int.ofNat_le] at hc)
    repeat (first | apply Wp.seq | apply Wp.block | (apply Run.next; (simp only [push_cast, seval] <;> (try simp (disch := omega) only [wI, wU, wC]) <;> exact rfl); (focus ((try simp only [push_cast, seval]) <;> exact sT))) | ((first | apply Run.nil | apply Wp.skip); dsimp only [sQ, tQ, bQ]) | (apply Wp.run; (dsimp only [List.map] <;> exact rfl); exact rfl) | (apply Wp.exit; dsimp only [sQ, tQ, bQ]; simp only [reduceIte]))
    (apply Wp.ret; (try dsimp only [sQ, tQ, bQ]); apply leave0; exact rfl; (simp only [push_cast, seval] <;> (try simp (disch := omega) only [wI, wU, wC]) <;> exact rfl); all_goals (try simp only [push_cast, seval]); (try rfl))
    rw [decide_eq_false]
    intro h
    rw [h] at hc
    exact hc rfl
  · (intro hc; try simp only [decide_eq_true_eq, decide_eq_false_iff_not, Bool.and_eq_true, Bool.or_eq_true, Bool.not_eq_true, Bool.not_eq_false, Bool.not_eq_true', Bool.not_eq_false', Bool.and_eq_false_iff, Bool.or_eq_false_iff, Int.not_lt, Int.not_le, Int.ofNat_lt, Int.ofNat_le] at hc)
    repeat (first | apply Wp.seq | apply Wp.block | (apply Run.next; (simp only [push_cast, seval] <;> (try simp (disch := omega) only [wI, wU, wC]) <;> exact rfl); (focus ((try simp only [push_cast, seval]) <;> exact sT))) | ((first | apply Run.nil | apply Wp.skip); dsimp only [sQ, tQ, bQ]) | (apply Wp.run; (dsimp only [List.map] <;> exact rfl); exact rfl) | (apply Wp.exit; dsimp only [sQ, tQ, bQ]; simp only [reduceIte]))
    refine Wp.loop (fun k : Nat => { t := [(0, .ints a), (1, .ints b), (5, .int k)], m := [], n := 26 }) (fun k => k ≤ a.length ∧ ∀ j, j < k → a.getD j 0 = b.getD j 0) (fun k => a.length - k) 0 ?_ ?_ ?_
    · (refine Le.of ?_ ?_ rfl rfl <;> (try simp only [push_cast, seval]) <;> (try (with_reducible rfl)))
    · simp
    · rintro k ⟨hk1, hk2⟩
      repeat (first | apply Wp.seq | apply Wp.block | (apply Run.next; (simp only [push_cast, seval] <;> (try simp (disch := omega) only [wI, wU, wC]) <;> exact rfl); (focus ((try simp only [push_cast, seval]) <;> exact sT))) | ((first | apply Run.nil | apply Wp.skip); dsimp only [sQ, tQ, bQ]) | (apply Wp.run; (dsimp only [List.map] <;> exact rfl); exact rfl) | (apply Wp.exit; dsimp only [sQ, tQ, bQ]; simp only [reduceIte]))
      (apply Wp.cond; (simp only [push_cast, seval] <;> (try simp (disch := omega) only [wI, wU, wC]) <;> exact rfl))
      · (intro hc; try simp only [decide_eq_true_eq, decide_eq_false_iff_not, Bool.and_eq_true, Bool.or_eq_true, Bool.not_eq_true, Bool.not_eq_false, Bool.not_eq_true', Bool.not_eq_false', Bool.and_eq_false_iff, Bool.or_eq_false_iff, Int.not_lt, Int.not_le, Int.ofNat_lt, Int.ofNat_le] at hc)
        repeat (first | apply Wp.seq | apply Wp.block | (apply Run.next; (simp only [push_cast, seval] <;> (try simp (disch := omega) only [wI, wU, wC]) <;> exact rfl); (focus ((try simp only [push_cast, seval]) <;> exact sT))) | ((first | apply Run.nil | apply Wp.skip); dsimp only [sQ, tQ, bQ]) | (apply Wp.run; (dsimp only [List.map] <;> exact rfl); exact rfl) | (apply Wp.exit; dsimp only [sQ, tQ, bQ]; simp only [reduceIte]))
        (apply Wp.runD 9 mixed; (dsimp only [List.map] <;> exact rfl); exact rfl; kernel_rfl; (dsimp only [List.take] <;> exact rfl); (dsimp only [List.drop] <;> exact rfl); (((repeat (apply Abn.next; (simp only [push_cast, seval] <;> (try simp (disch := omega) only [wI, wU, wC]) <;> exact rfl); (focus ((try simp only [push_cast, seval]) <;> exact sT))))); exact Abn.nil))
        repeat (first | apply Wp.seq | apply Wp.block | (apply Run.next; (simp only [push_cast, seval] <;> (try simp (disch := omega) only [wI, wU, wC]) <;> exact rfl); (focus ((try simp only [push_cast, seval]) <;> exact sT))) | ((first | apply Run.nil | apply Wp.skip); dsimp only [sQ, tQ, bQ]) | (apply Wp.run; (dsimp only [List.map] <;> exact rfl); exact rfl) | (apply Wp.exit; dsimp only [sQ, tQ, bQ]; simp only [reduceIte]))
        (apply Wp.cond; (simp only [push_cast, seval] <;> (try simp (disch := omega) only [wI, wU, wC]) <;> exact rfl))
        · intro h2
          repeat (first | apply Wp.seq | apply Wp.block | (apply Run.next; (simp only [push_cast, seval] <;> (try simp (disch := omega) only [wI, wU, wC]) <;> exact rfl); (focus ((try simp only [push_cast, seval]) <;> exact sT))) | ((first | apply Run.nil | apply Wp.skip); dsimp only [sQ, tQ, bQ]) | (apply Wp.run; (dsimp only [List.map] <;> exact rfl); exact rfl) | (apply Wp.exit; dsimp only [sQ, tQ, bQ]; simp only [reduceIte]))
          (apply Wp.ret; (try dsimp only [sQ, tQ, bQ]); apply leave0; exact rfl; (simp only [push_cast, seval] <;> (try simp (disch := omega) only [wI, wU, wC]) <;> exact rfl); all_goals (try simp only [push_cast, seval]); (try rfl))
          rw [decide_eq_false]
          intro h
          rw [h] at h2
          simp at h2
        · intro h2
          repeat (first | apply Wp.seq | apply Wp.block | (apply Run.next; (simp only [push_cast, seval] <;> (try simp (disch := omega) only [wI, wU, wC]) <;> exact rfl); (focus ((try simp only [push_cast, seval]) <;> exact sT))) | ((first | apply Run.nil | apply Wp.skip); dsimp only [sQ, tQ, bQ]) | (apply Wp.run; (dsimp only [List.map] <;> exact rfl); exact rfl) | (apply Wp.exit; dsimp only [sQ, tQ, bQ]; simp only [reduceIte]))
          simp only [decide_eq_true_eq, Bool.not_eq_false', decide_eq_false_iff_not] at h2
          refine ⟨k + 1, ?_, ⟨by omega, fun j hj => ?_⟩, by omega⟩
          · (refine Le.of ?_ ?_ rfl rfl <;> (try simp only [push_cast, seval]) <;> (try (with_reducible rfl)))
          · by_cases hjk : j = k
            · subst hjk; exact h2
            · exact hk2 j (by omega)
      · (intro hc; try simp only [decide_eq_true_eq, decide_eq_false_iff_not, Bool.and_eq_true, Bool.or_eq_true, Bool.not_eq_true, Bool.not_eq_false, Bool.not_eq_true', Bool.not_eq_false', Bool.and_eq_false_iff, Bool.or_eq_false_iff, Int.not_lt, Int.not_le, Int.ofNat_lt, Int.ofNat_le] at hc)
        repeat (first | apply Wp.seq | apply Wp.block | (apply Run.next; (simp only [push_cast, seval] <;> (try simp (disch := omega) only [wI, wU, wC]) <;> exact rfl); (focus ((try simp only [push_cast, seval]) <;> exact sT))) | ((first | apply Run.nil | apply Wp.skip); dsimp only [sQ, tQ, bQ]) | (apply Wp.run; (dsimp only [List.map] <;> exact rfl); exact rfl) | (apply Wp.exit; dsimp only [sQ, tQ, bQ]; simp only [reduceIte]))
        (apply Wp.ret; (try dsimp only [sQ, tQ, bQ]); apply leave0; exact rfl; (simp only [push_cast, seval] <;> (try simp (disch := omega) only [wI, wU, wC]) <;> exact rfl); all_goals (try simp only [push_cast, seval]); (try rfl))
        rw [decide_eq_true]
        apply List.ext_getElem
        · omega
        · intro j h3 h4
          have := hk2 j (by omega)
          simpa [h3, h4] using this
theorem sameInts_emp' : Pure Try.prog 23 [.emp, .emp] (.bool true) := by
  (refine Spec.of_body Try.func23 rfl (by rw [Try.ntmps23]; simp) 0 (by simp) ?_; rw [Try.results23, Try.ntmps23]; simp only [entry, zipArgs, Nat.reduceAdd])
  repeat (first | apply Wp.seq | apply Wp.block | (apply Run.next; (simp only [push_cast, seval] <;> (try simp (disch := omega) only [wI, wU, wC]) <;> exact rfl); (focus ((try simp only [push_cast, seval]) <;> exact sT))) | ((first | apply Run.nil | apply Wp.skip); dsimp only [sQ, tQ, bQ]) | (apply Wp.run; (dsimp only [List.map] <;> exact rfl); exact rfl) | (apply Wp.exit; dsimp only [sQ, tQ, bQ]; simp only [reduceIte]))
  (apply Wp.cond; (simp only [push_cast, seval] <;> (try simp (disch := omega) only [wI, wU, wC]) <;> exact rfl))
  · intro hc; cases hc
  · intro _
    repeat (first | apply Wp.seq | apply Wp.block | (apply Run.next; (simp only [push_cast, seval] <;> (try simp (disch := omega) only [wI, wU, wC]) <;> exact rfl); (focus ((try simp only [push_cast, seval]) <;> exact sT))) | ((first | apply Run.nil | apply Wp.skip); dsimp only [sQ, tQ, bQ]) | (apply Wp.run; (dsimp only [List.map] <;> exact rfl); exact rfl) | (apply Wp.exit; dsimp only [sQ, tQ, bQ]; simp only [reduceIte]))
    refine Wp.loop (fun k : Nat => { t := [(0, .emp), (1, .emp), (5, .int 0)], m := [], n := 26 }) (fun k => True) (fun k => 0) 0 ?_ ?_ ?_
    · (refine Le.of ?_ ?_ rfl rfl <;> (try simp only [push_cast, seval]) <;> (try (with_reducible rfl)))
    · trivial
    · intro k _
      repeat (first | apply Wp.seq | apply Wp.block | (apply Run.next; (simp only [push_cast, seval] <;> (try simp (disch := omega) only [wI, wU, wC]) <;> exact rfl); (focus ((try simp only [push_cast, seval]) <;> exact sT))) | ((first | apply Run.nil | apply Wp.skip); dsimp only [sQ, tQ, bQ]) | (apply Wp.run; (dsimp only [List.map] <;> exact rfl); exact rfl) | (apply Wp.exit; dsimp only [sQ, tQ, bQ]; simp only [reduceIte]))
      (apply Wp.cond; (simp only [push_cast, seval] <;> (try simp (disch := omega) only [wI, wU, wC]) <;> exact rfl))
      · (intro hc; try simp only [decide_eq_true_eq, decide_eq_false_iff_not, Bool.and_eq_true, Bool.or_eq_true, Bool.not_eq_true, Bool.not_eq_false, Bool.not_eq_true', Bool.not_eq_false', Bool.and_eq_false_iff, Bool.or_eq_false_iff, Int.not_lt, Int.not_le, Int.ofNat_lt, Int.ofNat_le] at hc)
        cases hc
      · intro _
        repeat (first | apply Wp.seq | apply Wp.block | (apply Run.next; (simp only [push_cast, seval] <;> (try simp (disch := omega) only [wI, wU, wC]) <;> exact rfl); (focus ((try simp only [push_cast, seval]) <;> exact sT))) | ((first | apply Run.nil | apply Wp.skip); dsimp only [sQ, tQ, bQ]) | (apply Wp.run; (dsimp only [List.map] <;> exact rfl); exact rfl) | (apply Wp.exit; dsimp only [sQ, tQ, bQ]; simp only [reduceIte]))
        (apply Wp.ret; (try dsimp only [sQ, tQ, bQ]); apply leave0; exact rfl; (simp only [push_cast, seval] <;> (try simp (disch := omega) only [wI, wU, wC]) <;> exact rfl); all_goals (try simp only [push_cast, seval]); (try rfl))


theorem sameInts_same (l : List Int) : Pure Try.prog 23 [.ints l, .ints l] (.bool true) := by
  have h := sameInts_pure l l
  rwa [decide_eq_true (p := l = l) rfl] at h
end Go.Proofs.Try
set_option maxHeartbeats 8000000
namespace Go.Proofs.Try
open Go.Vg

structure PV (ks : List St) (ls : List Ln) (plan : List Int) : Prop where
  sv : SV ks ls
  len : plan.length = ls.length
  pl : ∀ i, i < ls.length → -1 ≤ plan.getD i 0 ∧ plan.getD i 0 ≤ (ks.getD (ls.getD i ln0).kind.toNat st0).items - 1
end Go.Proofs.Try
set_option maxHeartbeats 8000000
namespace Go.Proofs.Try
open Go.Vg

def prA (p : Int × Int) : AV := .agg [.int p.1, .int p.2]
theorem app_pr (l : List (Int × Int)) (a b : Int) : l.map prA ++ [.agg [.val (.int .i64 a), .val (.int .i64 b)]] = (l ++ [(a, b)]).map prA := by simp [prA]
theorem okL_pr (k : Nat) (l : List (Int × Int)) : okL k (l.map prA) = True := eq_true (okL_map' k l fun x => by simp [prA, AV.ok, okL])
attribute [push_cast] app_pr okL_pr
end Go.Proofs.Try
set_option maxHeartbeats 8000000
namespace Go.Proofs.Try
open Go.Vg

/-! the pairs that overlap -/
theorem chkE_ok {ks : List St} {ls : List Ln} (h : chkE ks ls = 0) : SV ks ls := by
  unfold chkE at h
  split at h
  · exact checkB_ok ‹_›
  · cases h
end Go.Proofs.Try
set_option maxHeartbeats 8000000
namespace Go.Proofs.Try
open Go.Vg

/-! the most loans at the same time -/
end Go.Proofs.Try
set_option maxHeartbeats 8000000
namespace Go.Proofs.Try
open Go.Vg

/-! what is wrong with the last loan of the beginning of a plan -/
def mateB (ls : List Ln) (p : List Int) (i k : Nat) : Bool := decide ((ls.getD k ln0).kind = (ls.getD i ln0).kind) && decide (p.getD k 0 = p.getD i 0)
def sumU (ls : List Ln) (p : List Int) (i : Nat) : Nat → Int
  | 0 => 0
  | k + 1 => if mateB ls p i k = true then sumU ls p i k + (ls.getD k ln0).uses else sumU ls p i k
def clashB (ls : List Ln) (p : List Int) (i : Nat) : Nat → Bool
  | 0 => false
  | k + 1 => clashB ls p i k || (mateB ls p i k && ovB (ls.getD k ln0) (ls.getD i ln0))
def wrongB (ks : List St) (ls : List Ln) (p : List Int) (i : Nat) : Bool :=
  decide (p.getD i 0 < 0) || (clashB ls p i i || decide ((ks.getD (ls.getD i ln0).kind.toNat st0).life < (ls.getD i ln0).uses + sumU ls p i i))
theorem sumU_bd {ks : List St} {ls : List Ln} (hv : SV ks ls) (p : List Int) (i : Nat) : ∀ k, k ≤ ls.length → 0 ≤ sumU ls p i k ∧ sumU ls p i k ≤ 100 * k
  | 0, _ => by simp [sumU]
  | k + 1, h => by
    have := sumU_bd hv p i k (by omega)
    have := (hv.ln k (by omega)).2.2
    simp only [sumU]
    split <;> omega
theorem clashB_mono (ls : List Ln) (p : List Int) (i : Nat) {k : Nat} : ∀ {n : Nat}, k ≤ n → clashB ls p i k = true → clashB ls p i n = true
  | 0, h, hc => by obtain rfl : k = 0 := by omega
                   exact hc
  | n + 1, h, hc => by
    rcases Nat.lt_or_ge n k with h1 | h1
    · obtain rfl : k = n + 1 := by omega
      exact hc
    · simp only [clashB, clashB_mono ls p i h1 hc, Bool.true_or]
theorem wrong_pure {ks : List St} {ls : List Ln} (hv : SV ks ls) (p : List Int) (hp : 1 ≤ p.length ∧ p.length ≤ ls.length) : Pure Try.prog 70 [storA ks ls, .ints p] (.bool (wrongB ks ls p (p.length - 1))) := by
  have hl20 := hv.l20
  obtain ⟨i, hi⟩ : ∃ i, p.length = i + 1 := ⟨p.length - 1, by omega⟩
  have hlx := hv.ln i (by omega)
  rw [show p.length - 1 = i by omega]
  unfold wrongB
  have hw : ∀ k, k < i → sumU ls p i (k + 1) = if mateB ls p i k = true then sumU ls p i k + (ls.getD k ln0).uses else sumU ls p i k := fun _ _ => rfl
  have hcl : ∀ k, k < i → clashB ls p i (k + 1) = (clashB ls p i k || (mateB ls p i k && ovB (ls.getD k ln0) (ls.getD i ln0))) := fun _ _ => rfl
  have hbd := fun k (h : k ≤ i) => sumU_bd hv p i k (by omega)
  have hst := hv.st (ls.getD i ln0).kind.toNat (by omega)
  unfold mateB at hw hcl
  generalize hx : ls.getD i ln0 = x at hlx hw hcl hst
  generalize hn : p.getD i 0 = n at hw hcl
  generalize hy : ks.getD x.kind.toNat st0 = y at hst
  (refine Spec.of_body Try.func70 rfl (by rw [Try.ntmps70]; simp) 0 (by simp) ?_; rw [Try.results70, Try.ntmps70]; simp only [entry, zipArgs, Nat.reduceAdd])
  repeat (first | apply Wp.seq | apply Wp.block | (apply Run.next; (simp only [push_cast, seval, hx, hi, hn, hy, Int.add_sub_cancel] <;> (try simp (disch := omega) only [wI, wU, wC]) <;> exact rfl); (focus ((try simp only [push_cast, seval, hx, hi, hn, hy, Int.add_sub_cancel]) <;> exact sT))) | ((first | apply Run.nil | apply Wp.skip); dsimp only [sQ, tQ, bQ]) | (apply Wp.run; (dsimp only [List.map] <;> exact rfl); exact rfl) | (apply Wp.exit; dsimp only [sQ, tQ, bQ]; simp only [reduceIte]))
  (apply Wp.cond; (simp only [push_cast, seval, hx, hi, hn, hy, Int.add_sub_cancel] <;> (try simp (disch := omega) only [wI, wU, wC]) <;> exact rfl))
  · (intro hc; try simp only [decide_eq_true_eq, decide_eq_false_iff_not, Bool.and_eq_true, Bool.or_eq_true, Bool.not_eq_true, Bool.not_eq_false, Bool.not_eq_true', Bool.not_eq_false', Bool.and_eq_false_iff, Bool.or_eq_false_iff, Int.not_lt, Int.not_le, Int.ofNat_lt, Int.ofNat_le] at hc)
    repeat (first | apply Wp.seq | apply Wp.block | (apply Run.next; (simp only [push_cast, seval, hx, hi, hn, hy, Int.add_sub_cancel] <;> (try simp (disch := omega) only [wI, wU, wC]) <;> exact rfl); (focus ((try simp only [push_cast, seval, hx, hi, hn, hy, Int.add_sub_cancel]) <;> exact sT))) | ((first | apply Run.nil | apply Wp.skip); dsimp only [sQ, tQ, bQ]) | (apply Wp.run; (dsimp only [List.map] <;> exact rfl); exact rfl) | (apply Wp.exit; dsimp only [sQ, tQ, bQ]; simp only [reduceIte]))
    (apply Wp.ret; (try dsimp only [sQ, tQ, bQ]); apply leave0; exact rfl; (simp only [push_cast, seval, hx, hi, hn, hy, Int.add_sub_cancel] <;> (try simp (disch := omega) only [wI, wU, wC]) <;> exact rfl); all_goals (try simp only [push_cast, seval, hx, hi, hn, hy, Int.add_sub_cancel]); (try rfl))
    simp [hc]
  · (intro hc; try simp only [decide_eq_true_eq, decide_eq_false_iff_not, Bool.and_eq_true, Bool.or_eq_true, Bool.not_eq_true, Bool.not_eq_false, Bool.not_eq_true', Bool.not_eq_false', Bool.and_eq_false_iff, Bool.or_eq_false_iff, Int.not_lt, Int.not_le, Int.ofNat_lt, Int.ofNat_le] at hc)
    repeat (first | apply Wp.seq | apply Wp.block | (apply Run.next; (simp only [push_cast, seval, hx, hi, hn, hy, Int.add_sub_cancel] <;> (try simp (disch := omega) only [wI, wU, wC]) <;> exact rfl); (focus ((try simp only [push_cast, seval, hx, hi, hn, hy, Int.add_sub_cancel]) <;> exact sT))) | ((first | apply Run.nil | apply Wp.skip); dsimp only [sQ, tQ, bQ]) | (apply Wp.run; (dsimp only [List.map] <;> exact rfl); exact rfl) | (apply Wp.exit; dsimp only [sQ, tQ, bQ]; simp only [reduceIte]))
    refine Wp.loop (fun (k : Nat) => { t := [(1, .ints p), (2, .optr 0 0 0 0), (5, .int i), (6, .optr 1 0 0 0), (7, .int (x.uses + sumU ls p i k)), (8, .int k)], m := [⟨0, .row 2 [storA ks ls]⟩, ⟨0, .row 5 [lnA x]⟩], n := 73 }) (fun k => k ≤ i ∧ clashB ls p i k = false) (fun k => i - k) 0 ?_ ?_ ?_
    · (refine Le.of ?_ ?_ rfl rfl <;> (try simp only [push_cast, seval, hx, hi, hn, hy, Int.add_sub_cancel]) <;> (try (with_reducible rfl)))
      simp [sumU]
    · simp [clashB]
    · rintro k ⟨hk1, hk2⟩
      have hb := hbd k hk1
      have hw1 := hw k
      have hc1 := hcl k
      generalize hsu : sumU ls p i k = su at hb hw1
      repeat (first | apply Wp.seq | apply Wp.block | (apply Run.next; (simp only [push_cast, seval, hx, hi, hn, hy, Int.add_sub_cancel] <;> (try simp (disch := omega) only [wI, wU, wC]) <;> exact rfl); (focus ((try simp only [push_cast, seval, hx, hi, hn, hy, Int.add_sub_cancel]) <;> exact sT))) | ((first | apply Run.nil | apply Wp.skip); dsimp only [sQ, tQ, bQ]) | (apply Wp.run; (dsimp only [List.map] <;> exact rfl); exact rfl) | (apply Wp.exit; dsimp only [sQ, tQ, bQ]; simp only [reduceIte]))
      (apply Wp.cond; (simp only [push_cast, seval, hx, hi, hn, hy, Int.add_sub_cancel] <;> (try simp (disch := omega) only [wI, wU, wC]) <;> exact rfl))
      · (intro hc; try simp only [decide_eq_true_eq, decide_eq_false_iff_not, Bool.and_eq_true, Bool.or_eq_true, Bool.not_eq_true, Bool.not_eq_false, Bool.not_eq_true', Bool.not_eq_false', Bool.and_eq_false_iff, Bool.or_eq_false_iff, Int.not_lt, Int.not_le, Int.ofNat_lt, Int.ofNat_le] at hc)
        have hbn := hbd (k + 1) (by omega)
        have hlk := (hv.ln k (by omega)).2.2
        specialize hw1 hc
        specialize hc1 hc
        rw [hk2, Bool.false_or] at hc1
        generalize hz : ls.getD k ln0 = z at hlk hw1 hc1
        generalize hm : p.getD k 0 = m at hw1 hc1
        repeat (first | apply Wp.seq | apply Wp.block | (apply Run.next; (simp only [push_cast, seval, hx, hi, hn, hy, hz, hm, Int.add_sub_cancel] <;> (try simp (disch := omega) only [wI, wU, wC]) <;> exact rfl); (focus ((try simp only [push_cast, seval, hx, hi, hn, hy, hz, hm, Int.add_sub_cancel]) <;> exact sT))) | ((first | apply Run.nil | apply Wp.skip); dsimp only [sQ, tQ, bQ]) | (apply Wp.run; (dsimp only [List.map] <;> exact rfl); exact rfl) | (apply Wp.exit; dsimp only [sQ, tQ, bQ]; simp only [reduceIte]))
        (apply Wp.runD 20 mixed; (dsimp only [List.map] <;> exact rfl); exact rfl; kernel_rfl; (dsimp only [List.take] <;> exact rfl); (dsimp only [List.drop] <;> exact rfl); (((repeat (apply Abn.next; (simp only [push_cast, seval, hx, hi, hn, hy, hz, hm, Int.add_sub_cancel] <;> (try simp (disch := omega) only [wI, wU, wC]) <;> exact rfl); (focus ((try simp only [push_cast, seval, hx, hi, hn, hy, hz, hm, Int.add_sub_cancel]) <;> exact sT))))); exact Abn.nil))
        repeat (first | apply Wp.seq | apply Wp.block | (apply Run.next; (simp only [push_cast, seval, hx, hi, hn, hy, hz, hm, Int.add_sub_cancel] <;> (try simp (disch := omega) only [wI, wU, wC]) <;> exact rfl); (focus ((try simp only [push_cast, seval, hx, hi, hn, hy, hz, hm, Int.add_sub_cancel]) <;> exact sT))) | ((first | apply Run.nil | apply Wp.skip); dsimp only [sQ, tQ, bQ]) | (apply Wp.run; (dsimp only [List.map] <;> exact rfl); exact rfl) | (apply Wp.exit; dsimp only [sQ, tQ, bQ]; simp only [reduceIte]))
        (apply Wp.cond; (simp only [push_cast, seval, hx, hi, hn, hy, hz, hm, Int.add_sub_cancel] <;> (try simp (disch := omega) only [wI, wU, wC]) <;> exact rfl))
        · intro h2
          rw [if_neg (by simp at h2 ⊢; omega)] at hw1
          have e2 : (decide (z.kind = x.kind) && decide (m = n)) = false := by simp at h2 ⊢; omega
          rw [e2, Bool.false_and] at hc1
          repeat (first | apply Wp.seq | apply Wp.block | (apply Run.next; (simp only [push_cast, seval, hx, hi, hn, hy, hz, hm, Int.add_sub_cancel] <;> (try simp (disch := omega) only [wI, wU, wC]) <;> exact rfl); (focus ((try simp only [push_cast, seval, hx, hi, hn, hy, hz, hm, Int.add_sub_cancel]) <;> exact sT))) | ((first | apply Run.nil | apply Wp.skip); dsimp only [sQ, tQ, bQ]) | (apply Wp.run; (dsimp only [List.map] <;> exact rfl); exact rfl) | (apply Wp.exit; dsimp only [sQ, tQ, bQ]; simp only [reduceIte]))
          refine ⟨k + 1, ?_, ⟨by omega, hc1⟩, by omega⟩
          rw [hw1]
          (refine Le.of ?_ ?_ rfl rfl <;> (try simp only [push_cast, seval, hx, hi, hn, hy, hz, hm, Int.add_sub_cancel]) <;> (try (with_reducible rfl)))
        · intro h2
          have e2 : (decide (z.kind = x.kind) && decide (m = n)) = true := by simp at h2 ⊢; omega
          rw [if_pos e2] at hw1
          rw [e2, Bool.true_and] at hc1
          repeat (first | apply Wp.seq | apply Wp.block | (apply Run.next; (simp only [push_cast, seval, hx, hi, hn, hy, hz, hm, Int.add_sub_cancel] <;> (try simp (disch := omega) only [wI, wU, wC]) <;> exact rfl); (focus ((try simp only [push_cast, seval, hx, hi, hn, hy, hz, hm, Int.add_sub_cancel]) <;> exact sT))) | ((first | apply Run.nil | apply Wp.skip); dsimp only [sQ, tQ, bQ]) | (apply Wp.run; (dsimp only [List.map] <;> exact rfl); exact rfl) | (apply Wp.exit; dsimp only [sQ, tQ, bQ]; simp only [reduceIte]))
          (apply Wp.runD 7 mixed; (dsimp only [List.map] <;> exact rfl); exact rfl; kernel_rfl; (dsimp only [List.take] <;> exact rfl); (dsimp only [List.drop] <;> exact rfl); (((repeat (apply Abn.next; (simp only [push_cast, seval, hx, hi, hn, hy, hz, hm, Int.add_sub_cancel] <;> (try simp (disch := omega) only [wI, wU, wC]) <;> exact rfl); (focus ((try simp only [push_cast, seval, hx, hi, hn, hy, hz, hm, Int.add_sub_cancel]) <;> exact sT)))); (apply Abn.pureP; (simp only [push_cast, seval, hx, hi, hn, hy, hz, hm, Int.add_sub_cancel] <;> (try simp (disch := omega) only [wI, wU, wC]) <;> exact rfl); (exact (Enters.of Try.func64 rfl rfl)); (exact roverlap_pure z x); (focus (simp only [push_cast, seval, hx, hi, hn, hy, hz, hm, Int.add_sub_cancel] <;> first | trivial | assumption | (refine ⟨?_, ?_⟩ <;> assumption) | (simp; done))); (try dsimp only [putA, optG])); (repeat (apply Abn.next; (simp only [push_cast, seval, hx, hi, hn, hy, hz, hm, Int.add_sub_cancel] <;> (try simp (disch := omega) only [wI, wU, wC]) <;> exact rfl); (focus ((try simp only [push_cast, seval, hx, hi, hn, hy, hz, hm, Int.add_sub_cancel]) <;> exact sT))))); exact Abn.nil))
          repeat (first | apply Wp.seq | apply Wp.block | (apply Run.next; (simp only [push_cast, seval, hx, hi, hn, hy, hz, hm, Int.add_sub_cancel] <;> (try simp (disch := omega) only [wI, wU, wC]) <;> exact rfl); (focus ((try simp only [push_cast, seval, hx, hi, hn, hy, hz, hm, Int.add_sub_cancel]) <;> exact sT))) | ((first | apply Run.nil | apply Wp.skip); dsimp only [sQ, tQ, bQ]) | (apply Wp.run; (dsimp only [List.map] <;> exact rfl); exact rfl) | (apply Wp.exit; dsimp only [sQ, tQ, bQ]; simp only [reduceIte]))
          (apply Wp.cond; (simp only [push_cast, seval, hx, hi, hn, hy, hz, hm, Int.add_sub_cancel] <;> (try simp (disch := omega) only [wI, wU, wC]) <;> exact rfl))
          · intro h3
            rw [h3] at hc1
            repeat (first | apply Wp.seq | apply Wp.block | (apply Run.next; (simp only [push_cast, seval, hx, hi, hn, hy, hz, hm, Int.add_sub_cancel] <;> (try simp (disch := omega) only [wI, wU, wC]) <;> exact rfl); (focus ((try simp only [push_cast, seval, hx, hi, hn, hy, hz, hm, Int.add_sub_cancel]) <;> exact sT))) | ((first | apply Run.nil | apply Wp.skip); dsimp only [sQ, tQ, bQ]) | (apply Wp.run; (dsimp only [List.map] <;> exact rfl); exact rfl) | (apply Wp.exit; dsimp only [sQ, tQ, bQ]; simp only [reduceIte]))
            (apply Wp.ret; (try dsimp only [sQ, tQ, bQ]); apply leave0; exact rfl; (simp only [push_cast, seval, hx, hi, hn, hy, hz, hm, Int.add_sub_cancel] <;> (try simp (disch := omega) only [wI, wU, wC]) <;> exact rfl); all_goals (try simp only [push_cast, seval, hx, hi, hn, hy, hz, hm, Int.add_sub_cancel]); (try rfl))
            rw [clashB_mono ls p i (k := k + 1) (by omega) hc1]
            simp
          · intro h3
            rw [h3] at hc1
            repeat (first | apply Wp.seq | apply Wp.block | (apply Run.next; (simp only [push_cast, seval, hx, hi, hn, hy, hz, hm, Int.add_sub_cancel] <;> (try simp (disch := omega) only [wI, wU, wC]) <;> exact rfl); (focus ((try simp only [push_cast, seval, hx, hi, hn, hy, hz, hm, Int.add_sub_cancel]) <;> exact sT))) | ((first | apply Run.nil | apply Wp.skip); dsimp only [sQ, tQ, bQ]) | (apply Wp.run; (dsimp only [List.map] <;> exact rfl); exact rfl) | (apply Wp.exit; dsimp only [sQ, tQ, bQ]; simp only [reduceIte]))
            refine ⟨k + 1, ?_, ⟨by omega, hc1⟩, by omega⟩
            rw [hw1]
            (refine Le.of ?_ ?_ rfl rfl <;> (try simp only [push_cast, seval, hx, hi, hn, hy, hz, hm, Int.add_sub_cancel]) <;> (try (with_reducible rfl)))
            rw [Int.add_assoc]
      · (intro hc; try simp only [decide_eq_true_eq, decide_eq_false_iff_not, Bool.and_eq_true, Bool.or_eq_true, Bool.not_eq_true, Bool.not_eq_false, Bool.not_eq_true', Bool.not_eq_false', Bool.and_eq_false_iff, Bool.or_eq_false_iff, Int.not_lt, Int.not_le, Int.ofNat_lt, Int.ofNat_le] at hc)
        obtain rfl : k = i := by omega
        repeat (first | apply Wp.seq | apply Wp.block | (apply Run.next; (simp only [push_cast, seval, hx, hi, hn, hy, Int.add_sub_cancel] <;> (try simp (disch := omega) only [wI, wU, wC]) <;> exact rfl); (focus ((try simp only [push_cast, seval, hx, hi, hn, hy, Int.add_sub_cancel]) <;> exact sT))) | ((first | apply Run.nil | apply Wp.skip); dsimp only [sQ, tQ, bQ]) | (apply Wp.run; (dsimp only [List.map] <;> exact rfl); exact rfl) | (apply Wp.exit; dsimp only [sQ, tQ, bQ]; simp only [reduceIte]))
        (apply Wp.ret; (try dsimp only [sQ, tQ, bQ]); apply leave0; exact rfl; (simp only [push_cast, seval, hx, hi, hn, hy, Int.add_sub_cancel] <;> (try simp (disch := omega) only [wI, wU, wC]) <;> exact rfl); all_goals (try simp only [push_cast, seval, hx, hi, hn, hy, Int.add_sub_cancel]); (try rfl))
        rw [hk2, hsu]
        have e3 : decide (n < 0) = false := by simp; omega
        rw [e3]; rfl
theorem getD_take {l : List Int} {n k : Nat} (h : k < n) : (l.take n).getD k 0 = l.getD k 0 := by
  simp only [List.getD_eq_getElem?_getD, List.getElem?_take]
  rw [if_pos h]
theorem sumU_take (ls : List Ln) (p : List Int) (i : Nat) : ∀ k, k ≤ i → sumU ls (p.take (i + 1)) i k = sumU ls p i k
  | 0, _ => rfl
  | k + 1, h => by
    simp only [sumU, mateB, getD_take (show k < i + 1 by omega), getD_take (show i < i + 1 by omega), sumU_take ls p i k (by omega)]
    rfl
theorem clashB_take (ls : List Ln) (p : List Int) (i : Nat) : ∀ k, k ≤ i → clashB ls (p.take (i + 1)) i k = clashB ls p i k
  | 0, _ => rfl
  | k + 1, h => by
    simp only [clashB, mateB, getD_take (show k < i + 1 by omega), getD_take (show i < i + 1 by omega), clashB_take ls p i k (by omega)]
theorem wrongB_take (ks : List St) (ls : List Ln) (p : List Int) (i : Nat) : wrongB ks ls (p.take (i + 1)) i = wrongB ks ls p i := by
  unfold wrongB
  rw [sumU_take _ _ _ _ (Nat.le_refl _), clashB_take _ _ _ _ (Nat.le_refl _), getD_take (show i < i + 1 by omega)]
end Go.Proofs.Try
set_option maxHeartbeats 8000000
namespace Go.Proofs.Try
open Go.Vg

/-! several benches in memory -/
mutual
theorem shift_ok (M : Nat) : ∀ (x : AV), x.ok 0 → x.shift M = x
  | .val _, _ => rfl
  | .any, _ => rfl
  | .lst _ l, h => by simp only [AV.shift, shiftL_ok M l h]
  | .osl id _ _ _, h => absurd h (Nat.not_lt_zero id)
  | .emp, _ => rfl
  | .ref xs _, h => by simp only [AV.shift, shiftL_ok M xs h]
  | .optr id _ _ _, h => absurd h (Nat.not_lt_zero id)
  | .agg xs, h => by simp only [AV.shift, shiftL_ok M xs h]
  | .tup xs, h => by simp only [AV.shift, shiftL_ok M xs h]
  | .clo _ xs, h => by simp only [AV.shift, shiftL_ok M xs h]
  | .bnd _ xs, h => by simp only [AV.shift, shiftL_ok M xs h]
  | .opt _ x, h => by simp only [AV.shift, shift_ok M x h]
  | .yld id _, h => absurd h (Nat.not_lt_zero id)
theorem shiftL_ok (M : Nat) : ∀ (l : List AV), okL 0 l → shiftL M l = l
  | [], _ => rfl
  | x :: l, h => by simp only [shiftL, shift_ok M x h.1, shiftL_ok M l h.2]
end
theorem shiftL_lentR (M : Nat) : ∀ (T : List (Nat × List Int)) (k : Nat), shiftL M (lentR 0 k T) = lentR M k T
  | [], _ => rfl
  | t :: T, k => by simp only [lentR, shiftL, AV.shift, shiftL_lentR M T (k + 1), Nat.zero_add]
abbrev shE (M : Nat) (e : Ent) : Ent := ⟨e.ver, e.kind.shift M⟩
theorem blk_shift (M : Nat) {ks : List St} {ls : List Ln} {e4 : Ent} {life : Int} {L I W : List Int} {vi : Nat} {T : List (Nat × List Int)} :
    (blk 0 ks ls ⟨0, .row 2 [storA ks ls]⟩ e4 life L vi I W T []).map (shE M) = blk M ks ls ⟨0, .row 2 [storA ks ls]⟩ (shE M e4) life L vi I W T [] := by
  have h1 : ∀ l : List Int, shiftL M (l.map AV.int) = l.map AV.int := fun l => shiftL_ok M _ (by simp only [push_cast])
  have h2 : shiftL M (ks.map stA) = ks.map stA := shiftL_ok M _ (by simp only [push_cast])
  have h3 : shiftL M (ls.map lnA) = ls.map lnA := shiftL_ok M _ (by simp only [push_cast])
  have h4 : (T.map lentE).map (shE M) = T.map lentE := by
    rw [List.map_map]
    exact List.map_congr_left fun t _ => by simp [lentE, shE, Kind.shift, h1]
  simp only [blk, benR, List.map_cons, List.map_append, h4, List.map_nil]
  simp [shE, Kind.shift, shiftL, AV.shift, h1, h2, h3, shiftL_lentR]
structure Bn where
  e4 : Ent
  vi : Nat
  I : List Int
  W : List Int
  T : List (Nat × List Int)
end Go.Proofs.Try
set_option maxHeartbeats 8000000
namespace Go.Proofs.Try
open Go.Vg

/-! whether so many items are enough -/
theorem loanP_mem {ls : List Ln} {kind : Int} {k : Nat} : ∀ x ∈ loanP ls kind k, ∃ i : Nat, x = (i : Int) ∧ i < k ∧ (ls.getD i ln0).kind = kind := by
  intro x hx
  unfold loanP at hx
  rw [List.mem_map] at hx
  obtain ⟨i, hi, rfl⟩ := hx
  rw [List.mem_filter, List.mem_range] at hi
  exact ⟨i, rfl, hi.1, of_decide_eq_true hi.2⟩
theorem loanP_in (ls : List Ln) (kind : Int) : ∀ x ∈ loanP ls kind ls.length, 0 ≤ x ∧ x < (ls.length : Int) := fun x hx => by
  obtain ⟨i, rfl, h, _⟩ := loanP_mem x hx; omega
theorem uL_bd {ks : List St} {ls : List Ln} (hv : SV ks ls) (L : List Int) (i : Nat) : 0 ≤ uL ls L i ∧ uL ls L i ≤ 100 := by
  unfold uL
  by_cases h : (L.getD i 0).toNat < ls.length
  · have := (hv.ln _ h).2.2; omega
  · have : ls.getD (L.getD i 0).toNat ln0 = ln0 := by
      generalize (L.getD i 0).toNat = k at h
      rw [List.getD_eq_getElem?_getD, List.getElem?_eq_none (by omega)]; rfl
    rw [this]; decide
end Go.Proofs.Try
set_option maxHeartbeats 8000000
namespace Go.Proofs.Try
open Go.Vg

/-! how many items are needed -/
end Go.Proofs.Try
set_option maxHeartbeats 8000000
namespace Go.Proofs.Try
open Go.Vg

/-! a plan is right if it is right kind by kind -/
def cS (ks : List St) (ls : List Ln) (i : Nat) : Nat := (ks.getD (ls.getD i ln0).kind.toNat st0).items.toNat
def okS (ks : List St) (ls : List Ln) (p : List Int) : Bool := !wrongB ks ls p (p.length - 1)
/-- the items of some loans -/
def pick (L J : List Int) : List Int := L.map fun i => J.getD i.toNat 0
theorem pick_len (L J : List Int) : (pick L J).length = L.length := by simp [pick]
theorem pick_get {L J : List Int} {q : Nat} (h : q < L.length) : (pick L J).getD q 0 = J.getD (L.getD q 0).toNat 0 := by simp [pick, h]
theorem loanP_mono (ls : List Ln) (kind : Int) {n : Nat} : ∀ {N : Nat}, n ≤ N → ∃ R, loanP ls kind N = loanP ls kind n ++ R
  | 0, h => by obtain rfl : n = 0 := by omega
               exact ⟨[], by simp⟩
  | N + 1, h => by
    by_cases hn : n = N + 1
    · subst hn; exact ⟨[], by simp⟩
    · obtain ⟨R, hR⟩ := loanP_mono ls kind (n := n) (N := N) (by omega)
      rw [loanP_succ]
      split
      · exact ⟨R ++ [(N : Int)], by rw [hR, List.append_assoc]⟩
      · exact ⟨R, hR⟩
/-- the place of a loan among those of its kind -/
def plc (ls : List Ln) (kind : Int) (n : Nat) : Nat := (loanP ls kind n).length
theorem plc_succ (ls : List Ln) (kind : Int) (n : Nat) : plc ls kind (n + 1) = if (ls.getD n ln0).kind = kind then plc ls kind n + 1 else plc ls kind n := by
  unfold plc; rw [loanP_succ]
  by_cases h : (ls.getD n ln0).kind = kind
  · rw [if_pos (decide_eq_true h), if_pos h, List.length_append]; rfl
  · rw [if_neg (by rw [decide_eq_false h]; simp), if_neg h]
theorem loanP_at {ls : List Ln} {kind : Int} {n N : Nat} (h : n < N) (hk : (ls.getD n ln0).kind = kind) : plc ls kind n < (loanP ls kind N).length ∧ (loanP ls kind N).getD (plc ls kind n) 0 = (n : Int) := by
  obtain ⟨R, hR⟩ := loanP_mono ls kind (n := n + 1) (N := N) (by omega)
  have h1 : loanP ls kind (n + 1) = loanP ls kind n ++ [(n : Int)] := by rw [loanP_succ, if_pos (decide_eq_true hk)]
  rw [hR, h1]
  refine ⟨by simp [plc], ?_⟩
  rw [List.append_assoc]
  simp [plc]
theorem plc_at {ls : List Ln} {kind : Int} {N q : Nat} (h : q < (loanP ls kind N).length) : ∃ n : Nat, n < N ∧ (ls.getD n ln0).kind = kind ∧ (loanP ls kind N).getD q 0 = (n : Int) ∧ plc ls kind n = q := by
  induction N with
  | zero => simp [loanP] at h
  | succ N ih =>
    rw [loanP_succ] at h ⊢
    split at h
    · rename_i hk
      rw [if_pos hk]
      rw [List.length_append, List.length_singleton] at h
      by_cases hq : q < (loanP ls kind N).length
      · obtain ⟨n, h1, h2, h3, h4⟩ := ih hq
        exact ⟨n, by omega, h2, by rw [getD_left hq]; exact h3, h4⟩
      · obtain rfl : q = (loanP ls kind N).length := by omega
        exact ⟨N, by omega, of_decide_eq_true hk, by rw [getD_last], rfl⟩
    · rename_i hk
      rw [if_neg hk]
      obtain ⟨n, h1, h2, h3, h4⟩ := ih h
      exact ⟨n, by omega, h2, h3, h4⟩
section
variable {ks : List St} {ls : List Ln} {kind : Int}
theorem mate_iff {J : List Int} {i n : Nat} (hk : (ls.getD i ln0).kind = kind) : mateB ls J i n = true ↔ (ls.getD n ln0).kind = kind ∧ J.getD n 0 = J.getD i 0 := by
  unfold mateB; rw [Bool.and_eq_true, decide_eq_true_eq, decide_eq_true_eq, hk]
theorem sum_kind {J : List Int} {i : Nat} (hk : (ls.getD i ln0).kind = kind) : ∀ n, n ≤ ls.length → sumU ls J i n = sW (uL ls (loanP ls kind ls.length)) (pick (loanP ls kind ls.length) J) (J.getD i 0) (plc ls kind n)
  | 0, _ => rfl
  | n + 1, hn => by
    have ih := sum_kind (J := J) hk n (by omega)
    rw [plc_succ]
    simp only [sumU]
    by_cases h : (ls.getD n ln0).kind = kind
    · obtain ⟨h1, h2⟩ := loanP_at (N := ls.length) (by omega) h
      rw [if_pos h]
      simp only [sW]
      rw [pick_get h1, h2, Int.toNat_natCast]
      have hu : uL ls (loanP ls kind ls.length) (plc ls kind n) = (ls.getD n ln0).uses := by unfold uL; rw [h2, Int.toNat_natCast]
      by_cases h3 : J.getD n 0 = J.getD i 0
      · rw [if_pos ((mate_iff hk).2 ⟨h, h3⟩), if_pos h3, ih, hu]
      · rw [if_neg (fun hm => h3 ((mate_iff hk).1 hm).2), if_neg h3, ih]
    · rw [if_neg h, if_neg (fun hm => h ((mate_iff hk).1 hm).1), ih]
theorem clash_kind {J : List Int} {i : Nat} (hi : i < ls.length) (hk : (ls.getD i ln0).kind = kind) : ∀ n, n ≤ ls.length → clashB ls J i n = (lnI (pick (loanP ls kind ls.length) J) (J.getD i 0) (plc ls kind n)).any fun a => oL ls (loanP ls kind ls.length) a (plc ls kind i)
  | 0, _ => rfl
  | n + 1, hn => by
    have ih := clash_kind (J := J) hi hk n (by omega)
    rw [plc_succ]
    simp only [clashB]
    by_cases h : (ls.getD n ln0).kind = kind
    · obtain ⟨h1, h2⟩ := loanP_at (N := ls.length) (by omega) h
      obtain ⟨h4, h5⟩ := loanP_at (N := ls.length) hi hk
      rw [if_pos h, lnI_succ, pick_get h1, h2, Int.toNat_natCast]
      have ho : oL ls (loanP ls kind ls.length) (plc ls kind n) (plc ls kind i) = ovB (ls.getD n ln0) (ls.getD i ln0) := by unfold oL; rw [h2, h5, Int.toNat_natCast, Int.toNat_natCast]
      by_cases h3 : J.getD n 0 = J.getD i 0
      · rw [if_pos h3, List.any_append, ih, (mate_iff hk).2 ⟨h, h3⟩]
        simp [ho]
      · rw [if_neg h3, ih, show mateB ls J i n = false by rw [← Bool.not_eq_true]; exact fun hm => h3 ((mate_iff hk).1 hm).2]
        simp
    · rw [if_neg h, ih, show mateB ls J i n = false by rw [← Bool.not_eq_true]; exact fun hm => h ((mate_iff hk).1 hm).1]
      simp
theorem ok_take {J : List Int} {i : Nat} (hi : i < J.length) : okS ks ls (J.take (i + 1)) = !wrongB ks ls J i := by
  unfold okS
  rw [List.length_take, Nat.min_eq_left (by omega), Nat.add_sub_cancel, wrongB_take]
theorem okU_take {u : Nat → Int} {o : Nat → Nat → Bool} {life : Int} {J : List Int} {k : Nat} (h : k < J.length) : okU u o life (J.take (k + 1)) = (decide (sW u J (J.getD k 0) k + u k ≤ life) && !(lnI J (J.getD k 0) k).any fun i => o i k) := by
  have hl : (J.take k).length = k := by rw [List.length_take, Nat.min_eq_left (by omega)]
  have h1 := sW_left u (J.take k) (J.drop k) (J.getD k 0) (n := k) (by omega)
  have h2 := lnI_left (J.take k) (J.drop k) (J.getD k 0) (n := k) (by omega)
  rw [List.take_append_drop] at h1 h2
  rw [take_succ_getD h, okU_snoc, hl, h1, h2]
theorem ok_kind {J : List Int} (hJ : J.length = ls.length) {i : Nat} (hi : i < ls.length) (hk : (ls.getD i ln0).kind = kind) (h0 : 0 ≤ J.getD i 0) : okS ks ls (J.take (i + 1)) = okK ls (ks.getD kind.toNat st0).life (loanP ls kind ls.length) ((pick (loanP ls kind ls.length) J).take (plc ls kind i + 1)) := by
  obtain ⟨h1, h2⟩ := loanP_at (N := ls.length) hi hk
  rw [ok_take (by omega)]
  unfold okK
  rw [okU_take (by rw [pick_len]; exact h1), pick_get h1, h2, Int.toNat_natCast]
  unfold wrongB
  rw [decide_eq_false (show ¬ J.getD i 0 < 0 by omega), clash_kind hi hk i (by omega), sum_kind hk i (by omega), hk, Bool.false_or, Bool.not_or, Bool.and_comm]
  have hu : uL ls (loanP ls kind ls.length) (plc ls kind i) = (ls.getD i ln0).uses := by unfold uL; rw [h2, Int.toNat_natCast]
  rw [hu]
  congr 1
  rw [Bool.eq_iff_iff]
  simp only [Bool.not_eq_true', decide_eq_true_eq, decide_eq_false_iff_not]
  omega
end
/-- right in all kinds, and right -/
theorem right_kinds {ks : List St} {ls : List Ln} (hv : SV ks ls) {J : List Int} (hJ : J.length = ls.length) : RtF (cS ks ls) (okS ks ls) 0 J ↔ ∀ k : Nat, k < ks.length → RtF (fun _ => (ks.getD k st0).items.toNat) (okK ls (ks.getD k st0).life (loanP ls (k : Int) ls.length)) 0 (pick (loanP ls (k : Int) ls.length) J) := by
  constructor
  · intro h k hk q _ hq
    rw [pick_len] at hq
    obtain ⟨n, h1, h2, h3, h4⟩ := plc_at hq
    obtain ⟨j, h5, h6, h7⟩ := h n (by omega) (by omega)
    have hok := ok_kind (ks := ks) hJ h1 h2 (by omega)
    rw [Int.toNat_natCast] at hok
    refine ⟨j, ?_, by rw [pick_get hq, h3, Int.toNat_natCast]; exact h6, ?_⟩
    · unfold cS at h5; rw [h2, Int.toNat_natCast] at h5; exact h5
    · rw [← h4, ← hok]; exact h7
  · intro h i _ hi
    have hi : i < ls.length := by omega
    have hki := (hv.ln i hi).1
    obtain ⟨k, hk⟩ : ∃ k : Nat, (ls.getD i ln0).kind = (k : Int) := ⟨(ls.getD i ln0).kind.toNat, by omega⟩
    obtain ⟨h1, h2⟩ := loanP_at (N := ls.length) hi hk
    obtain ⟨j, h5, h6, h7⟩ := h k (by omega) (plc ls (k : Int) i) (by omega) (by rw [pick_len]; exact h1)
    rw [pick_get h1, h2, Int.toNat_natCast] at h6
    have hok := ok_kind (ks := ks) hJ hi hk (by omega)
    rw [Int.toNat_natCast] at hok
    refine ⟨j, ?_, h6, ?_⟩
    · unfold cS; rw [hk, Int.toNat_natCast]; exact h5
    · rw [hok]; exact h7
/-- what each kind says, put together -/
def glue (ls : List Ln) (f : Nat → List Int) (n : Nat) : List Int := (List.range n).map fun i => (f (ls.getD i ln0).kind.toNat).getD (plc ls (ls.getD i ln0).kind i) 0
theorem glue_len (ls : List Ln) (f : Nat → List Int) (n : Nat) : (glue ls f n).length = n := by simp [glue]
theorem glue_get {ls : List Ln} {f : Nat → List Int} {n i : Nat} (h : i < n) : (glue ls f n).getD i 0 = (f (ls.getD i ln0).kind.toNat).getD (plc ls (ls.getD i ln0).kind i) 0 := by simp [glue, h]
theorem pick_glue {ls : List Ln} {f : Nat → List Int} {k : Nat} (hf : (f k).length = (loanP ls (k : Int) ls.length).length) : pick (loanP ls (k : Int) ls.length) (glue ls f ls.length) = f k := by
  apply List.ext_getElem (by rw [pick_len, hf])
  intro q h1 h2
  rw [pick_len] at h1
  have e1 := pick_get (J := glue ls f ls.length) h1
  obtain ⟨n, h3, h4, h5, h6⟩ := plc_at h1
  rw [h5, Int.toNat_natCast, glue_get h3, h4, Int.toNat_natCast, h6] at e1
  simpa [List.getD_eq_getElem?_getD, h1, h2, pick_len] using e1
theorem pick_ext {ls : List Ln} {J J' : List Int} {k : Int} {q : Nat} (hq : q < (loanP ls k ls.length).length) {n : Nat} (hn : plc ls k n = q) (h : J.take n = J'.take n) : (pick (loanP ls k ls.length) J).take q = (pick (loanP ls k ls.length) J').take q := by
  have hl : ((loanP ls k ls.length).take q).length = q := by rw [List.length_take]; omega
  unfold pick
  rw [← List.map_take, ← List.map_take]
  apply List.map_congr_left
  intro x hx
  have hm : x ∈ loanP ls k n := by
    rcases Nat.le_total n ls.length with hnl | hnl
    · obtain ⟨R, hR⟩ := loanP_mono ls k hnl
      rw [hR, ← hn, plc, List.take_left'] at hx
      · exact hx
      · rfl
    · obtain ⟨R, hR⟩ := loanP_mono ls k hnl
      rw [hR]; exact List.mem_append_left _ (List.mem_of_mem_take hx)
  obtain ⟨i, rfl, hi, _⟩ := loanP_mem x hm
  rw [Int.toNat_natCast]
  have := congrArg (fun l => l.getD i 0) h
  simpa [List.getD_eq_getElem?_getD, List.getElem?_take, hi] using this
theorem getD_ext {J J' : List Int} (hl : J.length = J'.length) (h : ∀ i, i < J.length → J.getD i 0 = J'.getD i 0) : J = J' := by
  apply List.ext_getElem hl
  intro i h1 h2
  have := h i h1
  simpa [List.getD_eq_getElem?_getD, h1, h2] using this
theorem take_ext {J J' : List Int} {n : Nat} (hl : J.length = J'.length) (h : ∀ i, i < n → J.getD i 0 = J'.getD i 0) : J.take n = J'.take n := by
  apply getD_ext (by simp [hl])
  intro i hi
  have : i < n := by rw [List.length_take] at hi; omega
  have := h i this
  simp only [List.getD_eq_getElem?_getD, List.getElem?_take, *, if_true] at *
  exact this
/-- two lists of the same length: the first place where they differ -/
theorem first_diff : ∀ {n : Nat} (J J' : List Int), J.length = n → J'.length = n → J = J' ∨ ∃ i, i < n ∧ J.take i = J'.take i ∧ J.getD i 0 ≠ J'.getD i 0 := by
  intro n J J' h h'
  by_cases he : ∃ i, i < n ∧ J.getD i 0 ≠ J'.getD i 0
  · right
    have : ∀ m, (∃ i, i < m ∧ i < n ∧ J.getD i 0 ≠ J'.getD i 0) → ∃ i, i < n ∧ (∀ j, j < i → J.getD j 0 = J'.getD j 0) ∧ J.getD i 0 ≠ J'.getD i 0 := by
      intro m
      induction m with
      | zero => rintro ⟨i, h1, _⟩; omega
      | succ m ih =>
        rintro ⟨i, h1, h2, h3⟩
        by_cases hx : ∃ i, i < m ∧ i < n ∧ J.getD i 0 ≠ J'.getD i 0
        · exact ih hx
        · obtain rfl : i = m := by
            apply Classical.byContradiction
            intro hne; exact hx ⟨i, by omega, h2, h3⟩
          refine ⟨i, h2, fun j hj => ?_, h3⟩
          apply Classical.byContradiction
          intro hne; exact hx ⟨j, hj, by omega, hne⟩
    obtain ⟨i, h1, h2⟩ := he
    obtain ⟨i, h3, h4, h5⟩ := this n ⟨i, h1, h1, h2⟩
    exact ⟨i, h3, take_ext (by omega) h4, h5⟩
  · left
    apply getD_ext (by omega)
    intro i hi
    apply Classical.byContradiction
    intro hne; exact he ⟨i, by omega, hne⟩
end Go.Proofs.Try
set_option maxHeartbeats 8000000
namespace Go.Proofs.Try
open Go.Vg

/-! the first one that differs least -/
def dfN (p : Nat → Int) (I : List Int) : Nat → Int
  | 0 => 0
  | q + 1 => if p q = I.getD q 0 then dfN p I q else dfN p I q + 1
def dfI (p : Nat → Int) (I : List Int) : Int := dfN p I I.length
theorem dfN_left (p : Nat → Int) (I J : List Int) : ∀ {n : Nat}, n ≤ I.length → dfN p (I ++ J) n = dfN p I n
  | 0, _ => rfl
  | n + 1, h => by simp only [dfN]; rw [getD_left (by omega), dfN_left p I J (by omega)]
theorem dfI_snoc (p : Nat → Int) (I : List Int) (x : Int) : dfI p (I ++ [x]) = if p I.length = x then dfI p I else dfI p I + 1 := by
  unfold dfI
  rw [List.length_append, List.length_singleton]
  simp only [dfN]
  rw [getD_last, dfN_left p I [x] (Nat.le_refl _)]
theorem dfN_mono (p : Nat → Int) (I : List Int) {n : Nat} : ∀ {m : Nat}, n ≤ m → dfN p I n ≤ dfN p I m
  | 0, h => by obtain rfl : n = 0 := by omega
               exact Int.le_refl _
  | m + 1, h => by
    by_cases hn : n = m + 1
    · rw [hn]; exact Int.le_refl _
    · have := dfN_mono p I (n := n) (m := m) (by omega)
      simp only [dfN]; split <;> omega
theorem dfN_bd (p : Nat → Int) (I : List Int) : ∀ n : Nat, 0 ≤ dfN p I n ∧ dfN p I n ≤ n
  | 0 => by simp [dfN]
  | n + 1 => by have := dfN_bd p I n; simp only [dfN]; split <;> omega
theorem dfI_ext {p : Nat → Int} {c : Nat → Nat} {ok : List Int → Bool} {r : Nat} {I J : List Int} (h : Ext c ok r I J) : dfI p I ≤ dfI p J := by
  obtain ⟨h1, h2, _⟩ := h
  have e : J = I ++ J.drop I.length := by
    conv => lhs; rw [← List.take_append_drop I.length J]
    rw [h2]
  unfold dfI
  rw [← dfN_left p I (J.drop I.length) (Nat.le_refl _), ← e]
  exact dfN_mono p J (by omega)
/-- the best so far, and in how many it differs -/
abbrev Bs := Option (List Int × Int)
def betB (s : Bs) (J : List Int) (d : Int) : Bs :=
  match s with
  | none => some (J, d)
  | some (J0, m) => if d < m then some (J, d) else some (J0, m)
def stF (D : List Int → Int) (s : Bs) (l : List (List Int)) : Bs := l.foldl (fun s J => betB s J (D J)) s
theorem stF_app (D : List Int → Int) (s : Bs) (l l' : List (List Int)) : stF D s (l ++ l') = stF D (stF D s l) l' := by unfold stF; rw [List.foldl_append]
theorem stF_snoc (D : List Int → Int) (s : Bs) (l : List (List Int)) (J : List Int) : stF D s (l ++ [J]) = betB (stF D s l) J (D J) := by rw [stF_app]; rfl
/-- nothing is better -/
theorem stF_prune {D : List Int → Int} {J : List Int} {m : Int} : ∀ {l : List (List Int)}, (∀ x ∈ l, m ≤ D x) → stF D (some (J, m)) l = some (J, m)
  | [], _ => rfl
  | a :: l, h => by
    have h1 := h a (by simp)
    show stF D (betB (some (J, m)) a (D a)) l = _
    unfold betB
    simp only
    rw [if_neg (by omega)]
    exact stF_prune fun x hx => h x (by simp [hx])
/-- the first of those for which D is least -/
def BestIn (D : List Int → Int) (P : List Int → Prop) (J : List Int) : Prop := P J ∧ ∀ J', P J' → D J < D J' ∨ (D J = D J' ∧ (J = J' ∨ LxT J J'))
theorem BestIn.uniq {D : List Int → Int} {P : List Int → Prop} {J J' : List Int} (h : BestIn D P J) (h' : BestIn D P J') (hl : ∀ x, P x → x.length = J.length) : J = J' := by
  have hJ := hl _ h'.1
  rcases h.2 J' h'.1 with h1 | ⟨h1, h2 | h2⟩
  · rcases h'.2 J h.1 with h3 | ⟨h3, _⟩ <;> omega
  · exact h2
  · rcases h'.2 J h.1 with h3 | ⟨h3, h4 | h4⟩
    · omega
    · exact h4.symm
    · exact absurd h4 (fun h4 => LxT.asymm (by omega) h2 h4)
theorem LxT.trans {J K M : List Int} (h1 : LxT J K) (h2 : LxT K M) (hl : J.length = K.length) (hl2 : K.length = M.length) : LxT J M := by
  obtain ⟨i, a1, a2, a3⟩ := h1
  obtain ⟨k, b1, b2, b3⟩ := h2
  have hg : ∀ {A B : List Int} {n m : Nat}, A.take n = B.take n → m < n → A.getD m 0 = B.getD m 0 := by
    intro A B n m e hm
    have := congrArg (fun l => l.getD m 0) e
    simpa [List.getD_eq_getElem?_getD, List.getElem?_take, hm] using this
  have ht : ∀ {A B : List Int} {n m : Nat}, A.take n = B.take n → m ≤ n → A.take m = B.take m := by
    intro A B n m e hm
    have := congrArg (fun l => l.take m) e
    simpa [List.take_take, Nat.min_eq_left hm] using this
  rcases Nat.lt_trichotomy i k with h | h | h
  · exact ⟨i, a1, by rw [a2]; exact ht b2 (by omega), by rw [← hg b2 h]; exact a3⟩
  · subst h; exact ⟨i, a1, by rw [a2, b2], by omega⟩
  · exact ⟨k, by omega, by rw [ht a2 (by omega : k ≤ i), b2], by rw [hg a2 h]; exact b3⟩
theorem stF_best {D : List Int → Int} : ∀ {l : List (List Int)}, l.Pairwise LxT → (stF D none l = none ∧ l = []) ∨ ∃ J, stF D none l = some (J, D J) ∧ BestIn D (fun x => x ∈ l) J := by
  intro l
  induction h : l.length generalizing l with
  | zero => intro _; exact .inl ⟨by rw [List.eq_nil_of_length_eq_zero h]; rfl, List.eq_nil_of_length_eq_zero h⟩
  | succ n ih =>
    intro hs
    right
    rcases List.eq_nil_or_concat l with he | ⟨l', a, he⟩
    · subst he; simp at h
    · rw [List.concat_eq_append] at he
      subst he
      rw [stF_snoc]
      rw [List.pairwise_append] at hs
      obtain ⟨s1, _, s3⟩ := hs
      rcases ih (l := l') (by simpa using h) s1 with ⟨e1, e2⟩ | ⟨J, e1, e2, e3⟩
      · subst e2
        rw [e1]
        exact ⟨a, rfl, by simp, fun J' hJ' => by simp at hJ'; exact .inr ⟨by rw [hJ'], .inl hJ'.symm⟩⟩
      · rw [e1]
        unfold betB
        simp only
        by_cases hlt : D a < D J
        · rw [if_pos hlt]
          refine ⟨a, rfl, by simp, fun J' hJ' => ?_⟩
          have hJ' : J' ∈ l' ++ [a] := hJ'
          rw [List.mem_append, List.mem_singleton] at hJ'
          rcases hJ' with hJ' | hJ'
          · left
            rcases e3 J' hJ' with h5 | ⟨h5, _⟩ <;> omega
          · exact .inr ⟨by rw [hJ'], .inl hJ'.symm⟩
        · rw [if_neg hlt]
          have e2 : J ∈ l' := e2
          refine ⟨J, rfl, by simp [e2], fun J' hJ' => ?_⟩
          have hJ' : J' ∈ l' ++ [a] := hJ'
          rw [List.mem_append, List.mem_singleton] at hJ'
          rcases hJ' with hJ' | hJ'
          · exact e3 J' hJ'
          · rw [hJ']
            have hx := s3 J e2 a (by simp)
            by_cases heq : D J = D a
            · exact .inr ⟨heq, .inr hx⟩
            · left; omega
theorem plF_sorted {f : Nat → List (List Int)} : ∀ {d j : Nat}, (∀ i, j ≤ i → i < j + d → (f i).Pairwise LxT) → (∀ i i', j ≤ i → i < i' → i' < j + d → ∀ x ∈ f i, ∀ y ∈ f i', LxT x y) → (plF f d j).Pairwise LxT
  | 0, j, _, _ => List.Pairwise.nil
  | d + 1, j, h1, h2 => by
    simp only [plF]
    rw [List.pairwise_append]
    refine ⟨h1 j (Nat.le_refl _) (by omega), plF_sorted (fun i h3 h4 => h1 i (by omega) (by omega)) (fun i i' h3 h4 h5 => h2 i i' (by omega) h4 (by omega)), fun x hx y hy => ?_⟩
    obtain ⟨i, h3, h4, h5⟩ := plF_mem.1 hy
    exact h2 j i (Nat.le_refl _) (by omega) (by omega) x hx y h5
theorem plL_sorted {c : Nat → Nat} {ok : List Int → Bool} : ∀ {r : Nat} {I : List Int}, (plL c ok r I).Pairwise LxT
  | 0, I => by simp [plL]
  | r + 1, I => by
    simp only [plL]
    refine plF_sorted (fun i _ _ => ?_) (fun i i' _ hlt _ x hx y hy => ?_)
    · split
      · exact plL_sorted
      · exact List.Pairwise.nil
    · split at hx
      · split at hy
        · obtain ⟨a1, a2, _⟩ := plL_mem.1 hx
          obtain ⟨b1, b2, _⟩ := plL_mem.1 hy
          simp only [List.length_append, List.length_cons, List.length_nil, Nat.zero_add] at a1 a2 b1 b2
          have f1 := take_succ_getD (J := x) (n := I.length) (by omega)
          have f2 := take_succ_getD (J := y) (n := I.length) (by omega)
          rw [a2] at f1
          rw [b2] at f2
          have g1 := List.append_inj f1 (by simp; omega)
          have g2 := List.append_inj f2 (by simp; omega)
          refine ⟨I.length, by omega, by rw [← g1.1, ← g2.1], ?_⟩
          have k1 := g1.2
          have k2 := g2.2
          injection k1 with k1
          injection k2 with k2
          omega
        · cases hy
      · cases hx
end Go.Proofs.Try
set_option maxHeartbeats 8000000
namespace Go.Vg
/-- branches meet again in one state, and something is known -/
theorem Wp.meet {P : Program} {r : Option Nat} {c : Code} {Q : Exit → S → Prop} {s : S} (s1 : S) (C : Prop) (h1 : Wp P r c (tQ (fun s' => Le s' s1 ∧ C) Q) s) (h2 : ∀ s', Le s' s1 → C → Q .normal s') : Wp P r c Q s :=
  h1.mono (by
    intro e s' h
    cases e
    case normal => exact h2 s' h.1 h.2
    all_goals exact h)
theorem set_len {M : Mem} (e e' : Ent) : (M ++ [e]).set M.length e' = M ++ [e'] := by simp
theorem get_app {M : Mem} {i : Nat} {e : Ent} (h : M[i]? = some e) (l : Mem) : (M ++ l)[i]? = some e := by
  rw [List.getElem?_append_left (List.getElem?_eq_some_iff.1 h).1]; exact h
end Go.Vg
namespace Go.Proofs.Try
open Go.Vg

/-! the search of a repair, in plain words -/
def okX (ls : List Ln) (life : Int) (L : List Int) (lost : Int) (I : List Int) : Bool := okK ls life L I && !decide (I.getD (I.length - 1) 0 = lost)
def lkP (pl L : List Int) (q : Nat) : Int := pl.getD (L.getD q 0).toNat 0
def dL (pl L I : List Int) : Int := dfI (lkP pl L) I
def lkS (ls : List Ln) (life : Int) (L : List Int) (n : Nat) (pl : List Int) (lost : Int) (r : Nat) (I : List Int) (st : Bs) : Bs := stF (dL pl L) st (plL (fun _ => n) (okX ls life L lost) r I)
def bA : Bs → AV
  | none => .nil
  | some (J, _) => .ints J
def mA : Bs → Int
  | none => 0
  | some (_, m) => m
theorem nilB_bA {m : Mem} {st : Bs} (h : ∀ J d, st = some (J, d) → J ≠ []) : nilB m (bA st) = some st.isNone := by
  cases st with
  | none => rfl
  | some p =>
    obtain ⟨J, d⟩ := p
    cases J with
    | nil => exact absurd rfl (h [] d rfl)
    | cons a J => rfl
abbrev repE (N : Nat) (pl : List Int) (lost : Int) (st : Bs) : Ent := ⟨0, .row 5 [.agg [.optr (N + 3) 1 0 0, .ints pl, .int lost, bA st, .int (mA st)]]⟩
def prB (st : Bs) (c : Int) : Bool := !st.isNone && decide (mA st ≤ c)
theorem lk_prune {ls : List Ln} {life : Int} {L : List Int} {n : Nat} {pl : List Int} {lost : Int} {r : Nat} {I : List Int} {st : Bs} (h : prB st (dL pl L I) = true) : lkS ls life L n pl lost r I st = st := by
  cases st with
  | none => simp [prB] at h
  | some p =>
    obtain ⟨J, m⟩ := p
    unfold prB at h
    rw [Bool.and_eq_true, decide_eq_true_eq] at h
    have h := h.2
    refine stF_prune fun x hx => ?_
    have h2 : dL pl L I ≤ dL pl L x := dfI_ext (p := lkP pl L) (plL_mem.1 hx)
    exact Int.le_trans h h2
theorem lk_zero {ls : List Ln} {life : Int} {L : List Int} {n : Nat} {pl : List Int} {lost : Int} {I : List Int} {st : Bs} (h : prB st (dL pl L I) = false) : lkS ls life L n pl lost 0 I st = some (I, dL pl L I) := by
  unfold lkS
  show betB st I (dL pl L I) = _
  cases st with
  | none => rfl
  | some p =>
    obtain ⟨J, m⟩ := p
    unfold prB at h
    simp only [Option.isNone_some, Bool.not_false, Bool.true_and, decide_eq_false_iff_not, mA] at h
    have h : ¬ m ≤ dL pl L I := of_decide_eq_false h
    show (if dL pl L I < m then some (I, dL pl L I) else some (J, m)) = _
    rw [if_pos (by omega)]
def lkF (ls : List Ln) (life : Int) (L : List Int) (n : Nat) (lost : Int) (r : Nat) (I : List Int) (j : Nat) : List (List Int) := if okX ls life L lost (I ++ [(j : Int)]) = true then plL (fun _ => n) (okX ls life L lost) r (I ++ [(j : Int)]) else []
theorem lk_succ (ls : List Ln) (life : Int) (L : List Int) (n : Nat) (pl : List Int) (lost : Int) (r : Nat) (I : List Int) (st : Bs) : lkS ls life L n pl lost (r + 1) I st = stF (dL pl L) st (plF (lkF ls life L n lost r I) n 0) := rfl
theorem plF_snoc' (f : Nat → List (List Int)) : ∀ d j, plF f (d + 1) j = plF f d j ++ f (j + d)
  | 0, j => by simp [plF]
  | d + 1, j => by
    have := plF_snoc' f d (j + 1)
    rw [plF, this]
    simp only [plF]
    rw [List.append_assoc, show j + 1 + d = j + (d + 1) by omega]
theorem lk_step (ls : List Ln) (life : Int) (L : List Int) (n : Nat) (pl : List Int) (lost : Int) (r : Nat) (I : List Int) (st : Bs) (j : Nat) : stF (dL pl L) st (plF (lkF ls life L n lost r I) (j + 1) 0) = if okX ls life L lost (I ++ [(j : Int)]) = true then lkS ls life L n pl lost r (I ++ [(j : Int)]) (stF (dL pl L) st (plF (lkF ls life L n lost r I) j 0)) else stF (dL pl L) st (plF (lkF ls life L n lost r I) j 0) := by
  rw [plF_snoc', stF_app, Nat.zero_add]
  have hf : lkF ls life L n lost r I j = if okX ls life L lost (I ++ [(j : Int)]) = true then plL (fun _ => n) (okX ls life L lost) r (I ++ [(j : Int)]) else [] := rfl
  rw [hf]
  split
  · rfl
  · rfl
theorem stF_ne {D : List Int → Int} {l : List (List Int)} {st : Bs} (hs : ∀ J d, st = some (J, d) → J ≠ []) (hl : ∀ x ∈ l, x ≠ []) : ∀ J d, stF D st l = some (J, d) → J ≠ [] := by
  induction l generalizing st with
  | nil => exact hs
  | cons a l ih =>
    refine ih (st := betB st a (D a)) ?_ (fun x hx => hl x (by simp [hx]))
    intro J d hJ
    unfold betB at hJ
    split at hJ
    · cases hJ; exact hl a (by simp)
    · split at hJ
      · cases hJ; exact hl a (by simp)
      · cases hJ; exact hs _ _ rfl
theorem okX_snoc (ls : List Ln) (life : Int) (L : List Int) (lost : Int) (I : List Int) (x : Int) : okX ls life L lost (I ++ [x]) = (okK ls life L (I ++ [x]) && !decide (x = lost)) := by
  unfold okX
  rw [show (I ++ [x]).length - 1 = I.length by simp, getD_last]
def LkQ (F : Mem) (N : Nat) (ks : List St) (ls : List Ln) (e0 e4 : Ent) (life : Int) (L : List Int) (n : Nat) (I : List Int) (pl : List Int) (lost : Int) (st : Bs) (x : AV) (m' : Mem) : Prop :=
  ∃ vi' T' H', T'.map (·.2) = tO L n I ∧ m' = F ++ blk N ks ls e0 e4 life L vi' I (wO ls L n I) T' (repE N pl lost st :: H')
theorem blk_last {F : Mem} {N : Nat} (hF : F.length = N) {ks : List St} {ls : List Ln} {e0 e4 : Ent} {life : Int} {L I W : List Int} {vi : Nat} {T : List (Nat × List Int)} {n : Nat} (hT : T.length = n) {r : Ent} {H : Mem} (x r' : Ent) : (F ++ blk N ks ls e0 e4 life L vi I W T (r :: H) ++ [x]).set (N + (7 + n)) r' = F ++ blk N ks ls e0 e4 life L vi I W T (r' :: (H ++ [x])) := by
  have hTm : (T.map lentE).length = n := by simpa using hT
  rw [List.append_assoc, setF hF]
  have e : blk N ks ls e0 e4 life L vi I W T (r :: H) ++ [x] = blk N ks ls e0 e4 life L vi I W T (r :: (H ++ [x])) := by simp [blk]
  rw [e, set7, setF0 hTm]
  rfl
end Go.Proofs.Try
