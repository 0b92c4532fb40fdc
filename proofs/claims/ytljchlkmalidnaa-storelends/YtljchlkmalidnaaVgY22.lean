/- A part of the proof of StoreLends: contracts of functions, with plain laws that they need. -/
import Derived.Test.YtljchlkmalidnaaVgY20
set_option linter.all false
set_option linter.unusedVariables false
set_option linter.unusedSimpArgs false
set_option maxHeartbeats 8000000
namespace Go.Proofs.Try
open Go.Vg

/-! an item that is free in a time can be lent in it, and no other -/
theorem getD_app_lt {α : Type} {l l' : List α} {k : Nat} {d : α} (h : k < l.length) : (l ++ l').getD k d = l.getD k d := by
  simp only [List.getD_eq_getElem?_getD, List.getElem?_append_left h]
theorem getD_app_at {α : Type} {l : List α} {x d : α} {k : Nat} (h : k = l.length) : (l ++ [x]).getD k d = x := by
  subst h; simp
theorem sumU_ext {ls ls' : List Ln} {p p' : List Int} {i i' : Nat} (hi : (ls'.getD i' ln0).kind = (ls.getD i ln0).kind) (hp : p'.getD i' 0 = p.getD i 0) : ∀ m : Nat, (∀ k, k < m → ls'.getD k ln0 = ls.getD k ln0 ∧ p'.getD k 0 = p.getD k 0) → sumU ls' p' i' m = sumU ls p i m
  | 0, _ => rfl
  | m + 1, h => by
    obtain ⟨h1, h2⟩ := h m (by omega)
    simp only [sumU, mateB, sumU_ext hi hp m (fun k hk => h k (by omega)), h1, h2, hi, hp]
    rfl
theorem clashB_ext {ls ls' : List Ln} {p p' : List Int} {i i' : Nat} (hi : ls'.getD i' ln0 = ls.getD i ln0) (hp : p'.getD i' 0 = p.getD i 0) : ∀ m : Nat, (∀ k, k < m → ls'.getD k ln0 = ls.getD k ln0 ∧ p'.getD k 0 = p.getD k 0) → clashB ls' p' i' m = clashB ls p i m
  | 0, _ => rfl
  | m + 1, h => by
    obtain ⟨h1, h2⟩ := h m (by omega)
    simp only [clashB, mateB, clashB_ext hi hp m (fun k hk => h k (by omega)), h1, h2, hi, hp]
theorem cpFrom_or (ks : List St) (ls : List Ln) (p : List Int) (n : Nat) : ∀ k : Nat, (cpFrom ks ls p n k).2 = 0 ∨ (cpFrom ks ls p n k).2 = 101
  | 0 => .inl rfl
  | k + 1 => by
    simp only [cpFrom]
    split
    · exact .inr rfl
    · exact cpFrom_or ks ls p n k
theorem chk2E_two {ks : List St} {ls : List Ln} {plan : List Int} (hc : chk2E ks ls plan = 0) : checkB ks ls = true ∧ planB ks ls plan = true := by
  unfold chk2E at hc
  split at hc
  · split at hc
    · exact ⟨by assumption, by assumption⟩
    · simp at hc
  · simp at hc
theorem lend_right {ks : List St} {ls : List Ln} {plan : List Int} {kind fr to : Int} (hnow : (cpAns ks ls plan).2 = 0) (h3 : frA ks kind fr to = true) (hl : ls.length < 20) {n : Nat} (hn : (n : Int) < (ks.getD kind.toNat st0).items) :
    (cpAns ks (ls ++ [⟨kind, 0, fr, to, 0⟩]) (plan ++ [(n : Int)])).2 = if tkP ls plan ⟨kind, 0, fr, to, 0⟩ n ls.length = true then 101 else 0 := by
  rw [cpAns_zero] at hnow
  obtain ⟨hc, hw⟩ := hnow
  obtain ⟨hv, hpl, hpi⟩ := chk2E_zero hc
  obtain ⟨hc1, hc2⟩ := chk2E_two hc
  simp only [frA, Bool.and_eq_true, wi_iff] at h3
  obtain ⟨⟨a1, a2⟩, a3⟩ := h3
  rw [wrap_i64 (by omega) (by omega)] at a3
  have hst := hv.st kind.toNat (by omega)
  have gl : ∀ k, k < ls.length → (ls ++ [(⟨kind, 0, fr, to, 0⟩ : Ln)]).getD k ln0 = ls.getD k ln0 := fun k h => getD_app_lt h
  have gp : ∀ k, k < ls.length → (plan ++ [(n : Int)]).getD k 0 = plan.getD k 0 := fun k h => getD_app_lt (by omega)
  have gL : (ls ++ [(⟨kind, 0, fr, to, 0⟩ : Ln)]).getD ls.length ln0 = ⟨kind, 0, fr, to, 0⟩ := getD_app_at rfl
  have gP : (plan ++ [(n : Int)]).getD ls.length 0 = (n : Int) := getD_app_at hpl.symm
  have hc' : chk2E ks (ls ++ [⟨kind, 0, fr, to, 0⟩]) (plan ++ [(n : Int)]) = 0 := by
    refine chk2E_zero' ?_ ?_
    · simp only [checkB, Bool.and_eq_true, decide_eq_true_eq, List.length_append, List.length_singleton, List.all_append] at hc1 ⊢
      refine ⟨⟨⟨hc1.1.1.1, by omega⟩, hc1.1.2⟩, hc1.2, ?_⟩
      simp only [List.all_cons, List.all_nil, Bool.and_true, lnB, Bool.and_eq_true, wi_iff]
      rw [wrap_i64 (by omega) (by omega)]
      omega
    · simp only [planB, Bool.and_eq_true, decide_eq_true_eq, List.length_append, List.length_singleton] at hc2 ⊢
      refine ⟨by omega, range_all fun k hk => ?_⟩
      unfold plB
      rcases Nat.lt_or_ge k ls.length with h | h
      · rw [gl k h, gp k h]; exact hpi k h
      · obtain rfl : k = ls.length := by omega
        rw [gL, gP, wi_iff]; simp only; omega
  have hold : ∀ j, j < ls.length → wrongB ks (ls ++ [⟨kind, 0, fr, to, 0⟩]) (plan ++ [(n : Int)]) j = false := by
    intro j hj
    have h := hw j (by omega)
    unfold wrongB at h ⊢
    rw [sumU_ext (by rw [gl j hj]) (gp j hj) j (fun k hk => ⟨gl k (by omega), gp k (by omega)⟩), clashB_ext (gl j hj) (gp j hj) j (fun k hk => ⟨gl k (by omega), gp k (by omega)⟩), gl j hj, gp j hj]
    exact h
  have hcl : ∀ m, m ≤ ls.length → clashB (ls ++ [⟨kind, 0, fr, to, 0⟩]) (plan ++ [(n : Int)]) ls.length m = tkP ls plan ⟨kind, 0, fr, to, 0⟩ n m := by
    intro m
    induction m with
    | zero => intro _; simp [clashB, tkP]
    | succ m ih =>
      intro hm
      rw [tkP_succ, clashB, ih (by omega)]
      congr 1
      unfold mateB
      rw [gL, gP, gl m (by omega), gp m (by omega)]
      unfold ovB
      simp only
      generalize decide ((ls.getD m ln0).kind = kind) = a
      generalize decide (plan.getD m 0 = (n : Int)) = b
      cases a <;> cases b <;> simp
  have hsu : ∀ m, m ≤ ls.length → sumU (ls ++ [⟨kind, 0, fr, to, 0⟩]) (plan ++ [(n : Int)]) ls.length m ≤ (ks.getD kind.toNat st0).life := by
    intro m
    induction m with
    | zero => intro _; simp only [sumU]; omega
    | succ m ih =>
      intro hm
      have := ih (by omega)
      simp only [sumU]
      split
      · rename_i hmate
        unfold mateB at hmate
        rw [gL, gP, gl m (by omega), gp m (by omega)] at hmate
        simp only [Bool.and_eq_true, decide_eq_true_eq] at hmate
        have hwm := hw m (by omega)
        unfold wrongB at hwm
        simp only [Bool.or_eq_false_iff, decide_eq_false_iff_not, Int.not_lt] at hwm
        have h5 := hwm.2.2
        rw [sumU_ext (ls := ls) (p := plan) (i := m) (by rw [gL]; exact hmate.1.symm) (by rw [gP]; exact hmate.2.symm) m (fun k hk => ⟨gl k (by omega), gp k (by omega)⟩), gl m (by omega)]
        rw [hmate.1] at h5
        omega
      · exact this
  have hlast : wrongB ks (ls ++ [⟨kind, 0, fr, to, 0⟩]) (plan ++ [(n : Int)]) ls.length = tkP ls plan ⟨kind, 0, fr, to, 0⟩ n ls.length := by
    unfold wrongB
    rw [hcl _ (Nat.le_refl _), gL, gP]
    have h1 := hsu _ (Nat.le_refl _)
    have e1 : decide ((n : Int) < 0) = false := decide_eq_false (by omega)
    have e2 : decide ((ks.getD kind.toNat st0).life < 0 + sumU (ls ++ [⟨kind, 0, fr, to, 0⟩]) (plan ++ [(n : Int)]) ls.length ls.length) = false := decide_eq_false (by omega)
    simp only
    rw [e1, e2, Bool.false_or, Bool.or_false]
  split
  · rename_i ht
    have hor : (cpAns ks (ls ++ [⟨kind, 0, fr, to, 0⟩]) (plan ++ [(n : Int)])).2 = 0 ∨ (cpAns ks (ls ++ [⟨kind, 0, fr, to, 0⟩]) (plan ++ [(n : Int)])).2 = 101 := by
      unfold cpAns; rw [if_pos hc']; exact cpFrom_or _ _ _ _ _
    rcases hor with h | h
    · rw [cpAns_zero] at h
      have := h.2 ls.length (by simp; omega)
      rw [hlast, ht] at this; cases this
    · exact h
  · rename_i ht
    rw [cpAns_zero]
    refine ⟨hc', fun j hj => ?_⟩
    simp only [List.length_append, List.length_singleton] at hj
    rcases Nat.lt_or_ge j ls.length with h | h
    · exact hold j h
    · obtain rfl : j = ls.length := by omega
      rw [hlast]; simpa using ht
/-- the list of free items, up to an item and behind it -/
theorem frP_split (ls : List Ln) (plan : List Int) (x : Ln) (i : Nat) : ∀ N, i ≤ N → ∃ r, frP ls plan x N = frP ls plan x i ++ r ∧ ∀ v ∈ r, (i : Int) ≤ v
  | 0, h => ⟨[], by obtain rfl : i = 0 := by omega
                    simp, by simp⟩
  | N + 1, h => by
    rcases Nat.lt_or_ge N i with h1 | h1
    · obtain rfl : i = N + 1 := by omega
      exact ⟨[], by simp, by simp⟩
    · obtain ⟨r, e1, e2⟩ := frP_split ls plan x i N h1
      rw [frP_succ, e1]
      split
      · exact ⟨r, rfl, e2⟩
      · refine ⟨r ++ [(N : Int)], by simp, fun v hv => ?_⟩
        rcases List.mem_append.1 hv with hv | hv
        · exact e2 v hv
        · simp at hv; omega
theorem frP_at (ls : List Ln) (plan : List Int) (x : Ln) {i N : Nat} (h : i < N) : (decide (((frP ls plan x i).length : Int) < ((frP ls plan x N).length : Int)) && decide ((frP ls plan x N).getD (frP ls plan x i).length 0 = (i : Int))) = !tkP ls plan x i ls.length := by
  obtain ⟨r, e1, e2⟩ := frP_split ls plan x (i + 1) N h
  rw [frP_succ] at e1
  cases ht : tkP ls plan x i ls.length with
  | false =>
    rw [ht, if_neg (by simp)] at e1
    rw [e1]
    simp
    omega
  | true =>
    rw [ht, if_pos rfl] at e1
    rw [e1]
    cases r with
    | nil => simp
    | cons a r =>
      have := e2 a (by simp)
      have hne : ¬ a = (i : Int) := by omega
      simp [hne]
end Go.Proofs.Try
