/- A part of the proof of StoreLate: contracts of functions, with plain laws that they need. -/
import Derived.Test.YtljchlkmalidnaaVgY13
import Derived.Test.YtljchlkmalidnaaVgY19
set_option linter.all false
set_option linter.unusedVariables false
set_option linter.unusedSimpArgs false
set_option maxHeartbeats 8000000
namespace Go.Proofs.Try
open Go.Vg

/-! a right plan stays right if a loan ends later, as long as no loan is disturbed -/
theorem clashB_false (ls : List Ln) (p : List Int) (i : Nat) : ∀ n : Nat, clashB ls p i n = false ↔ ∀ k, k < n → mateB ls p i k = true → ovB (ls.getD k ln0) (ls.getD i ln0) = false
  | 0 => by simp [clashB]
  | n + 1 => by
    simp only [clashB, Bool.or_eq_false_iff, Bool.and_eq_false_iff, clashB_false ls p i n]
    constructor
    · rintro ⟨h1, h2⟩ k hk hm
      rcases Nat.lt_or_ge k n with h | h
      · exact h1 k h hm
      · obtain rfl : k = n := by omega
        rcases h2 with h2 | h2
        · rw [hm] at h2; cases h2
        · exact h2
    · intro h
      refine ⟨fun k hk => h k (by omega), ?_⟩
      cases hm : mateB ls p i n
      · exact .inl rfl
      · exact .inr (h n (by omega) hm)
theorem cpFrom_zero (ks : List St) (ls : List Ln) (p : List Int) (n : Nat) : ∀ k, k ≤ n → ((cpFrom ks ls p n k).2 = 0 ↔ ∀ j, n - k ≤ j → j < n → wrongB ks ls p j = false)
  | 0, _ => by
    simp only [cpFrom, Nat.sub_zero, true_iff]
    intro j h1 h2; omega
  | k + 1, hk => by
    simp only [cpFrom]
    split
    · rename_i h
      constructor
      · intro h0; simp at h0
      · intro h0; rw [h0 (n - (k + 1)) (Nat.le_refl _) (by omega)] at h; cases h
    · rename_i h
      rw [cpFrom_zero ks ls p n k (by omega)]
      constructor
      · intro h0 j h1 h2
        rcases Nat.lt_or_ge j (n - k) with h3 | h3
        · obtain rfl : j = n - (k + 1) := by omega
          simpa using h
        · exact h0 j h3 h2
      · intro h0 j h1 h2
        exact h0 j (by omega) h2
theorem cpAns_zero {ks : List St} {ls : List Ln} {p : List Int} : (cpAns ks ls p).2 = 0 ↔ chk2E ks ls p = 0 ∧ ∀ j, j < p.length → wrongB ks ls p j = false := by
  unfold cpAns
  split
  · rename_i h
    rw [cpFrom_zero _ _ _ _ _ (Nat.le_refl _)]
    simp [h]
  · rename_i h
    simp [h]
theorem getD_setL {α : Type} (l : List α) (i k : Nat) (x d : α) : (l.set i x).getD k d = if i = k ∧ i < l.length then x else l.getD k d := by
  simp only [List.getD_eq_getElem?_getD, List.getElem?_set]
  by_cases h : i = k
  · subst h
    by_cases h2 : i < l.length
    · simp [h2]
    · simp [h2, List.getElem?_eq_none (Nat.le_of_not_lt h2)]
  · simp [h]
theorem sumU_congr {ls ls' : List Ln} {p : List Int} {i : Nat} (h : ∀ k, (ls'.getD k ln0).kind = (ls.getD k ln0).kind ∧ (ls'.getD k ln0).uses = (ls.getD k ln0).uses) : ∀ n : Nat, sumU ls' p i n = sumU ls p i n
  | 0 => rfl
  | n + 1 => by
    simp only [sumU, mateB, sumU_congr h n, (h n).1, (h n).2, (h i).1]
    rfl
theorem chk2E_zero' {ks : List St} {ls : List Ln} {p : List Int} (h1 : checkB ks ls = true) (h2 : planB ks ls p = true) : chk2E ks ls p = 0 := by simp [chk2E, h1, h2]
theorem late_right {ks : List St} {ls : List Ln} {plan : List Int} {loan by_ : Int} (hla : laA ls loan by_ = true) (hl0 : lateP ls plan loan by_ ls.length = []) (hto : (ls.getD loan.toNat ln0).to + by_ ≤ 1440) (hnow : (cpAns ks ls plan).2 = 0) :
    (cpAns ks (ls.set loan.toNat (lateL (ls.getD loan.toNat ln0) by_)) plan).2 = 0 := by
  rw [cpAns_zero] at hnow ⊢
  obtain ⟨hc, hw⟩ := hnow
  obtain ⟨hv, hpl, _⟩ := chk2E_zero hc
  have hcc : checkB ks ls = true ∧ planB ks ls plan = true := by
    unfold chk2E at hc
    split at hc
    · split at hc
      · exact ⟨by assumption, by assumption⟩
      · simp at hc
    · simp at hc
  simp only [laA, Bool.and_eq_true, wi_iff] at hla
  obtain ⟨⟨a1, a2⟩, a3, a4⟩ := hla
  have hi0 : loan.toNat < ls.length := by omega
  have hx := hv.ln loan.toNat hi0
  have hlate : ∀ i, i < ls.length → lateB ls plan loan by_ i = false := by
    intro i hi
    have : ∀ i ∈ List.range ls.length, ¬ lateB ls plan loan by_ i = true := by
      have h := hl0
      unfold lateP at h
      rw [List.map_eq_nil_iff, List.filter_eq_nil_iff] at h
      exact h
    simpa using this i (List.mem_range.2 hi)
  have hget : ∀ k, (ls.set loan.toNat (lateL (ls.getD loan.toNat ln0) by_)).getD k ln0 = if loan.toNat = k then lateL (ls.getD loan.toNat ln0) by_ else ls.getD k ln0 := by
    intro k
    rw [getD_setL]
    by_cases h : loan.toNat = k
    · rw [if_pos ⟨h, hi0⟩, if_pos h]
    · rw [if_neg (fun q => h q.1), if_neg h]
  have hsame : ∀ k, ((ls.set loan.toNat (lateL (ls.getD loan.toNat ln0) by_)).getD k ln0).kind = (ls.getD k ln0).kind ∧ ((ls.set loan.toNat (lateL (ls.getD loan.toNat ln0) by_)).getD k ln0).uses = (ls.getD k ln0).uses := by
    intro k
    rw [hget]
    split
    · rename_i h; subst h; exact ⟨rfl, rfl⟩
    · exact ⟨rfl, rfl⟩
  refine ⟨chk2E_zero' ?_ ?_, fun j hj => ?_⟩
  · have h := hcc.1
    simp only [checkB, Bool.and_eq_true, decide_eq_true_eq, List.length_set] at h ⊢
    refine ⟨h.1, ?_⟩
    simp only [List.all_eq_true] at h ⊢
    intro y hy
    rcases List.mem_or_eq_of_mem_set hy with hy | rfl
    · exact h.2 y hy
    · have hb := h.2 _ (memLn hi0)
      simp only [lnB, Bool.and_eq_true, wi_iff] at hb ⊢
      obtain ⟨⟨⟨⟨b1, b2⟩, b3⟩, b4⟩, b5⟩ := hb
      refine ⟨⟨⟨⟨b1, b2⟩, ?_⟩, ?_⟩, b5⟩
      · omega
      · rw [wrap_i64 (by omega) (by omega)]; omega
  · have h := hcc.2
    simp only [planB, Bool.and_eq_true, decide_eq_true_eq, List.length_set] at h ⊢
    refine ⟨h.1, ?_⟩
    rw [List.all_eq_true] at h ⊢
    intro k hk
    have := h.2 k hk
    unfold plB at this ⊢
    rw [(hsame k).1]; exact this
  · have hj' := hw j hj
    unfold wrongB at hj' ⊢
    rw [sumU_congr hsame, (hsame j).1, (hsame j).2]
    simp only [Bool.or_eq_false_iff] at hj' ⊢
    obtain ⟨c1, c2, c3⟩ := hj'
    refine ⟨c1, ?_, c3⟩
    rw [clashB_false] at c2 ⊢
    intro k hk hm
    have hm' : mateB ls plan j k = true := by
      unfold mateB at hm ⊢
      rw [(hsame k).1, (hsame j).1] at hm; exact hm
    have c4 := c2 k hk hm'
    have hm2 := hm'
    simp only [mateB, Bool.and_eq_true, decide_eq_true_eq] at hm2
    simp only [decide_eq_false_iff_not, Int.not_lt] at c1
    rw [hget, hget]
    by_cases h1 : loan.toNat = k
    · by_cases h2 : loan.toNat = j
      · omega
      · rw [if_pos h1, if_neg h2]
        have hl := hlate j (by omega)
        subst h1
        rw [ovB_comm]
        rw [ovB_comm] at c4
        unfold lateB at hl
        rw [c4, Bool.not_false, Bool.and_true] at hl
        have e1 : decide ((j : Int) = loan) = false := decide_eq_false (by omega)
        have e2 : decide (0 ≤ plan.getD loan.toNat 0) = true := decide_eq_true (by omega)
        have e3 : decide (plan.getD j 0 = plan.getD loan.toNat 0) = true := decide_eq_true (by omega)
        rw [e1, e2, e3] at hl
        simpa using hl
    · rw [if_neg h1]
      by_cases h2 : loan.toNat = j
      · rw [if_pos h2]
        have hl := hlate k (by omega)
        subst h2
        unfold lateB at hl
        rw [c4, Bool.not_false, Bool.and_true] at hl
        have e1 : decide ((k : Int) = loan) = false := decide_eq_false (by omega)
        have e2 : decide (0 ≤ plan.getD loan.toNat 0) = true := decide_eq_true (by omega)
        have e3 : decide (plan.getD k 0 = plan.getD loan.toNat 0) = true := decide_eq_true (by omega)
        rw [e1, e2, e3] at hl
        simpa using hl
      · rw [if_neg h2]; exact c4
end Go.Proofs.Try
