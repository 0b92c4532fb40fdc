/- A part of the proof of StoreLends: contracts of functions, with plain laws that they need. -/
import Derived.Test.YtljchlkmalidnaaVgY13
import Derived.Test.YtljchlkmalidnaaVgY19
set_option linter.all false
set_option linter.unusedVariables false
set_option linter.unusedSimpArgs false
set_option maxHeartbeats 8000000
namespace Go.Proofs.Try
open Go.Vg

/-! a right plan stays right if a loan ends later, as long as no loan is disturbed -/
theorem cpFrom_zero (ks : List St) (ls : List Ln) (p : List Int) (n : Nat) : ∀ k, k ≤ n → ((cpFrom ks ls p n k).2 = 0 ↔ ∀ j, n - k ≤ j → j < n → wrongB ks ls p j = false)
  | 0, _ => by
    simp only [cpFrom, Nat.sub_zero, true_iff]
    intro j h1 h2; omega
  | k + 1, hk => by
    simp only [cpFrom]
    split
    · rename_i h
      constructor
      · intro h0; simp at h0
      · intro h0; rw [h0 (n - (k + 1)) (Nat.le_refl _) (by omega)] at h; cases h
    · rename_i h
      rw [cpFrom_zero ks ls p n k (by omega)]
      constructor
      · intro h0 j h1 h2
        rcases Nat.lt_or_ge j (n - k) with h3 | h3
        · obtain rfl : j = n - (k + 1) := by omega
          simpa using h
        · exact h0 j h3 h2
      · intro h0 j h1 h2
        exact h0 j (by omega) h2
theorem cpAns_zero {ks : List St} {ls : List Ln} {p : List Int} : (cpAns ks ls p).2 = 0 ↔ chk2E ks ls p = 0 ∧ ∀ j, j < p.length → wrongB ks ls p j = false := by
  unfold cpAns
  split
  · rename_i h
    rw [cpFrom_zero _ _ _ _ _ (Nat.le_refl _)]
    simp [h]
  · rename_i h
    simp [h]
theorem chk2E_zero' {ks : List St} {ls : List Ln} {p : List Int} (h1 : checkB ks ls = true) (h2 : planB ks ls p = true) : chk2E ks ls p = 0 := by simp [chk2E, h1, h2]
end Go.Proofs.Try
