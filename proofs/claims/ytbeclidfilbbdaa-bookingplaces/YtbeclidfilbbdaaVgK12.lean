/- A part of the proof of BookingPlaces: contracts of functions, with plain laws that they need. -/
import Derived.Test.YtbeclidfilbbdaaVgK9
set_option linter.all false
set_option linter.unusedVariables false
set_option linter.unusedSimpArgs false
set_option maxHeartbeats 8000000
namespace Go.Proofs.Try
open Go.Vg

/-! what places are -/
theorem plN_mono (S : List Int) {u v : Int} (h : u ≤ v) : ∀ n : Nat, plN S u n ≤ plN S v n
  | 0 => Int.le_refl _
  | n + 1 => by
    have := plN_mono S h n
    simp only [plN]
    split <;> split <;> omega
theorem plN_strict (S : List Int) {u v : Int} (h : u < v) {i : Nat} : ∀ n : Nat, i < n → S.getD i 0 = u → plN S u n < plN S v n
  | 0, hi, _ => by omega
  | n + 1, hi, hu => by
    simp only [plN]
    rcases Nat.lt_or_ge i n with h1 | h1
    · have := plN_strict S h n h1 hu
      split <;> split <;> omega
    · obtain rfl : i = n := by omega
      have := plN_mono S (Int.le_of_lt h) i
      rw [hu, if_neg (by omega), if_pos h]
      omega
theorem plN_lt {S : List Int} {n i j : Nat} (hi : i < n) (hj : j < n) : plN S (S.getD i 0) n < plN S (S.getD j 0) n ↔ S.getD i 0 < S.getD j 0 := by
  constructor
  · intro h
    rcases Int.lt_or_le (S.getD i 0) (S.getD j 0) with h1 | h1
    · exact h1
    · have := plN_mono S h1 n; omega
  · intro h; exact plN_strict S h n hi rfl
theorem exists_min (f : Nat → Int) : ∀ n : Nat, 0 < n → ∃ i, i < n ∧ ∀ j, j < n → f i ≤ f j
  | 0, h => by omega
  | 1, _ => ⟨0, by omega, fun j hj => (by rw [show j = 0 by omega]; exact Int.le_refl _)⟩
  | n + 2, _ => by
    obtain ⟨i, hi, h⟩ := exists_min f (n + 1) (by omega)
    rcases Int.lt_or_le (f (n + 1)) (f i) with h1 | h1
    · refine ⟨n + 1, by omega, fun j hj => ?_⟩
      rcases Nat.lt_or_ge j (n + 1) with h2 | h2
      · have := h j h2; omega
      · obtain rfl : j = n + 1 := by omega
        exact Int.le_refl _
    · refine ⟨i, by omega, fun j hj => ?_⟩
      rcases Nat.lt_or_ge j (n + 1) with h2 | h2
      · exact h j h2
      · obtain rfl : j = n + 1 := by omega
        exact h1
theorem plN_one (S : List Int) {u : Int} : ∀ n : Nat, (∀ j, j < n → u ≤ S.getD j 0) → plN S u n = 1
  | 0, _ => rfl
  | n + 1, h => by
    have := h n (by omega)
    simp only [plN]
    rw [if_neg (by omega), plN_one S n (fun j hj => h j (by omega))]
theorem plN_shift {S T : List Int} {c u : Int} : ∀ n : Nat, (∀ j, j < n → T.getD j 0 = S.getD j 0 + c) → plN T (u + c) n = plN S u n
  | 0, _ => rfl
  | n + 1, h => by
    have h1 := h n (by omega)
    have h2 := plN_shift (S := S) (T := T) (c := c) (u := u) n (fun j hj => h j (by omega))
    simp only [plN, h1, h2]
    by_cases h3 : S.getD n 0 < u
    · rw [if_pos h3, if_pos (by omega)]
    · rw [if_neg h3, if_neg (by omega)]
theorem rkL_get (S : List Int) {n k : Nat} (h : k < n) : (rkL S n).getD k 0 = plN S (S.getD k 0) S.length := by simp [rkL, h]
def rmN (m : List Int) : Nat → Int
  | 0 => 1440
  | k + 1 => min (rmN m k) (1440 - m.getD k 0)
theorem rmN_bd (m : List Int) : ∀ k : Nat, (∀ j, j < k → 0 ≤ m.getD j 0 ∧ m.getD j 0 ≤ 1440) → (0 ≤ rmN m k ∧ rmN m k ≤ 1440) ∧ ∀ j, j < k → rmN m k ≤ 1440 - m.getD j 0
  | 0, _ => by simp [rmN]
  | k + 1, h => by
    obtain ⟨h1, h2⟩ := rmN_bd m k (fun j hj => h j (by omega))
    have h3 := h k (by omega)
    simp only [rmN]
    refine ⟨by omega, fun j hj => ?_⟩
    rcases Nat.lt_or_ge j k with h4 | h4
    · have := h2 j h4; omega
    · obtain rfl : j = k := by omega
      omega
def fsB (X : List Int) : Nat → Bool
  | 0 => decide ((X.length : Int) = 0)
  | k + 1 => fsB X k || decide (X.getD k 0 = 1)
theorem fsB_true {X : List Int} {i : Nat} (hx : X.getD i 0 = 1) : ∀ n : Nat, i < n → fsB X n = true
  | 0, h => by omega
  | n + 1, h => by
    simp only [fsB, Bool.or_eq_true, decide_eq_true_eq]
    rcases Nat.lt_or_ge i n with h1 | h1
    · exact .inl (fsB_true hx n h1)
    · obtain rfl : i = n := by omega
      exact .inr hx
def laL (m : List Int) (c : Int) (k : Nat) : List Int := (List.range k).map fun i => m.getD i 0 + c
theorem laL_len (m : List Int) (c : Int) (k : Nat) : (laL m c k).length = k := by simp [laL]
theorem laL_succ (m : List Int) (c : Int) (k : Nat) : laL m c (k + 1) = laL m c k ++ [m.getD k 0 + c] := by simp [laL, List.range_succ]
theorem laL_get (m : List Int) (c : Int) {k n : Nat} (h : k < n) : (laL m c n).getD k 0 = m.getD k 0 + c := by simp [laL, h]
theorem rkOk_iff {m h : List Int} {p : Int} (ho : rkOk m h p = true) : (h.length = m.length ∧ m.length ≤ 20 ∧ 0 ≤ p ∧ p ≤ 1440) ∧ ∀ j, j < m.length → (0 ≤ m.getD j 0 ∧ m.getD j 0 ≤ 1440) ∧ 0 ≤ h.getD j 0 ∧ h.getD j 0 ≤ 100 := by
  simp only [rkOk, rkH, Bool.and_eq_true, decide_eq_true_eq, wi_iff, List.all_eq_true] at ho
  obtain ⟨⟨⟨h1, h2⟩, h3⟩, h4⟩ := ho
  refine ⟨⟨h1, h2, h3⟩, fun j hj => ?_⟩
  have := h4 j (List.mem_range.2 hj)
  simp only [rkI, Bool.and_eq_true, wi_iff] at this
  exact this
/-- the same places, if all need as much more -/
theorem rkV_later {m h : List Int} {p c : Int} (ho : rkOk m h p = true) (hc : 0 ≤ c) (hr : ∀ j, j < m.length → m.getD j 0 + c ≤ 1440) : rkV (laL m c m.length) h p = rkV m h p := by
  obtain ⟨⟨h1, h2, h3⟩, h4⟩ := rkOk_iff ho
  have hl := laL_len m c m.length
  have ho' : rkOk (laL m c m.length) h p = true := by
    simp only [rkOk, rkH, Bool.and_eq_true, decide_eq_true_eq, wi_iff, hl]
    refine ⟨⟨⟨h1, h2⟩, h3⟩, range_all fun j hj => ?_⟩
    have := h4 j hj
    have := hr j hj
    simp only [rkI, Bool.and_eq_true, wi_iff, laL_get m c hj]
    omega
  unfold rkV
  rw [if_pos ho, if_pos ho', hl]
  have : rkL (scL (laL m c m.length) h p m.length) m.length = rkL (scL m h p m.length) m.length := by
    unfold rkL
    refine List.map_congr_left fun i hi => ?_
    have hi' := List.mem_range.1 hi
    have hg : ∀ j, j < m.length → (scL (laL m c m.length) h p m.length).getD j 0 = (scL m h p m.length).getD j 0 + c := fun j hj => by
      rw [scL_get _ _ _ hj, scL_get _ _ _ hj]
      unfold sc
      rw [laL_get m c hj]; omega
    rw [hg i hi', scL_len, scL_len]
    exact plN_shift _ hg
  rw [this]
end Go.Proofs.Try
