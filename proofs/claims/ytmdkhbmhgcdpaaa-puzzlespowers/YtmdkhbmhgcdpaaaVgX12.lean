/- A part of the proof of PuzzlesPowers: contracts of functions, with plain laws that they need. -/
import Derived.Test.YtmdkhbmhgcdpaaaVgX10
set_option linter.all false
set_option linter.unusedVariables false
set_option linter.unusedSimpArgs false
namespace Go.Proofs.Try
open Go.Vg

/-- the sequence with these differences at 0 -/
def pw : List Int → Nat → Int
  | [], _ => 0
  | a :: _, 0 => a
  | a :: r, i + 1 => pw (a :: r) i + pw r i
theorem pw_succ (r : List Int) (i : Nat) : pw r (i + 1) = pw r i + pw r.tail i := by
  cases r with
  | nil => simp [pw]
  | cons a r => simp [pw]
def seqP (r : List Int) (n : Nat) : List Int := (List.range n).map (pw r)
theorem seqP_len (r : List Int) (n : Nat) : (seqP r n).length = n := by simp [seqP]
theorem seqP_at (r : List Int) (n i : Nat) (h : i < n) : (seqP r n).getD i 0 = pw r i := by simp [seqP, h]
theorem seqP_diffs (r : List Int) (n : Nat) : diffs (seqP r n) = seqP r.tail (n - 1) := by
  unfold diffs
  rw [seqP_len]
  unfold seqP
  apply List.map_congr_left
  intro i hi
  have hi' : i < n - 1 := by simpa using hi
  have h1 := seqP_at r n (i + 1) (by omega)
  have h2 := seqP_at r n i (by omega)
  unfold seqP at h1 h2
  rw [h1, h2, pw_succ]; omega
theorem seqP_dn (r : List Int) (n k : Nat) : dn k (seqP r n) = seqP (r.drop k) (n - k) := by
  induction k with
  | zero => rfl
  | succ k ih => rw [dn, ih, seqP_diffs, List.tail_drop, Nat.sub_sub]
theorem seqP_last (r : List Int) (n : Nat) (h : 0 < n) : lastI (seqP r n) = pw r (n - 1) := by
  unfold lastI; rw [seqP_len, seqP_at _ _ _ (by omega)]
/-- a sequence that is 0 for as many terms as it has differences has none -/
theorem pw_zero : ∀ (r : List Int), (∀ i, i < r.length → pw r i = 0) → ∀ i, pw r i = 0
  | [], _, i => by simp [pw]
  | a :: r, h, i => by
    have ht : ∀ i, pw r i = 0 := pw_zero r fun i hi => by
      have h1 := h (i + 1) (by simpa using hi)
      have h2 := h i (by simp; omega)
      rw [pw_succ, h2] at h1
      simpa using h1
    induction i with
    | zero => exact h 0 (by simp)
    | succ i ih => rw [pw_succ, ih]; simpa using ht i
theorem allSame_iff (l : List Int) : allSame l = true ↔ ∀ i, i < l.length → l.getD i 0 = l.getD 0 0 := by
  unfold allSame
  rw [all_at]
  simp
theorem same_next (r : List Int) (n : Nat) (hn : 0 < n) (hr : r.length ≤ n) (h : allSame (seqP r n) = true) : pw r n = pw r (n - 1) := by
  rw [allSame_iff, seqP_len] at h
  have hz : ∀ i, pw r.tail i = 0 := pw_zero _ fun i hi => by
    simp only [List.length_tail] at hi
    have h1 := h (i + 1) (by omega)
    have h2 := h i (by omega)
    rw [seqP_at _ _ _ (by omega)] at h1 h2
    rw [seqP_at _ _ _ (by omega)] at h1 h2
    rw [pw_succ] at h1
    omega
  obtain ⟨m, rfl⟩ : ∃ m, n = m + 1 := ⟨n - 1, by omega⟩
  rw [pw_succ, hz, Nat.add_sub_cancel]; omega
theorem follow_seqP (k : Nat) : ∀ (r : List Int) (n : Nat), k < n → pw (r.drop k) (n - k) = pw (r.drop k) (n - k - 1) → follow k (seqP r n) = pw r n := by
  induction k with
  | zero => intro r n hk h; rw [follow, seqP_last _ _ hk]; simpa using h.symm
  | succ k ih =>
    intro r n hk h
    rw [follow, seqP_last _ _ (by omega), seqP_diffs, ih r.tail (n - 1) (by omega)]
    · obtain ⟨m, rfl⟩ : ∃ m, n = m + 1 := ⟨n - 1, by omega⟩
      rw [pw_succ, Nat.add_sub_cancel]
    · rw [List.drop_tail]
      rw [show n - 1 - k = n - (k + 1) by omega]
      exact h
theorem allSame_one (a : Int) (n : Nat) : allSame (seqP [a] n) = true := by
  rw [allSame_iff, seqP_len]
  intro i hi
  rw [seqP_at _ _ _ hi, seqP_at _ _ _ (by omega)]
  have : ∀ i, pw [a] i = a := fun i => by
    induction i with
    | zero => rfl
    | succ i ih => rw [pw_succ, ih]; simp [pw]
  rw [this, this]

def pB : Nat → Nat → Int
  | 0, _ => 0
  | _ + 1, 0 => 9
  | m + 1, i + 1 => pB (m + 1) i + pB m i
theorem pw_bnd : ∀ (r : List Int) (i : Nat), bnd 9 r → -(pB r.length i) ≤ pw r i ∧ pw r i ≤ pB r.length i
  | [], i, _ => by simp [pw, pB]
  | a :: r, 0, h => by have := h a (by simp); simpa [pw, pB] using this
  | a :: r, i + 1, h => by
    have h1 := pw_bnd (a :: r) i h
    have h2 := pw_bnd r i fun x hx => h x (by simp [hx])
    simp only [pw, pB, List.length_cons] at h1 h2 ⊢
    omega
theorem pB_small : ∀ m, m ≤ 5 → ∀ i, i ≤ 13 → pB m i ≤ 100000 := by decide
theorem pB_11 : ∀ m, m ≤ 5 → ∀ i, i ≤ 11 → pB m i ≤ 10000 := by decide
theorem pw_small {r : List Int} (hb : bnd 9 r) (hl : r.length ≤ 5) (i : Nat) (hi : i ≤ 13) : -100000 ≤ pw r i ∧ pw r i ≤ 100000 := by
  have := pw_bnd r i hb
  have := pB_small _ hl i hi
  omega
theorem bnd_drop {B : Int} {r : List Int} (hb : bnd B r) (k : Nat) : bnd B (r.drop k) := fun x hx => hb x (List.mem_of_mem_drop hx)

theorem nextV_seqP (d : List Int) (n : Nat) (hb : bnd 9 d) (h0 : 0 < d.length) (h5 : d.length ≤ 5) (hn : d.length + 1 ≤ n) (hn2 : n ≤ 12) :
    ∃ k : Nat, k < d.length ∧ nextV (seqP d n) = (pw d n, (k : Int), 0) := by
  have hir : inRange (seqP d n) = true := by
    simp only [inRange, Bool.and_eq_true, decide_eq_true_eq, List.all_eq_true, seqP_len]
    refine ⟨⟨by omega, by omega⟩, fun x hx => ?_⟩
    simp only [seqP, List.mem_map, List.mem_range] at hx
    obtain ⟨i, hi, rfl⟩ := hx
    have := pw_bnd d i hb
    have := pB_11 _ h5 i (by omega)
    omega
  have hex : allSame (dn (d.length - 1) (seqP d n)) = true := by
    rw [seqP_dn]
    obtain ⟨x, hx⟩ : ∃ x, d.drop (d.length - 1) = [x] := by
      have : (d.drop (d.length - 1)).length = 1 := by simp; omega
      exact List.length_eq_one_iff.1 this
    rw [hx]
    exact allSame_one _ _
  unfold nextV
  rw [if_pos hir]
  cases hd : degOf (seqP d n) with
  | none =>
    unfold degOf at hd
    rw [List.find?_eq_none] at hd
    have := hd (d.length - 1) (by rw [seqP_len]; simp; omega)
    exact absurd hex this
  | some k =>
    have hd' := hd
    unfold degOf at hd
    rw [List.find?_range_eq_some] at hd
    obtain ⟨h1, h2, h3⟩ := hd
    have hk : k ≤ d.length - 1 := by
      rcases Nat.lt_or_ge (d.length - 1) k with h | h
      · have := h3 _ h
        rw [hex] at this
        cases this
      · exact h
    refine ⟨k, by omega, ?_⟩
    simp only
    rw [follow_seqP k d n (by omega)]
    rw [seqP_dn] at h1
    exact same_next _ _ (by omega) (by simp; omega) h1

/-- the differences, i rounds later; the first k of them one round further -/
def rowP (d : List Int) (i k : Nat) : List Int := (List.range d.length).map fun j => pw (d.drop j) (if j < k then i + 1 else i)
theorem rowP_len (d : List Int) (i k : Nat) : (rowP d i k).length = d.length := by simp [rowP]
theorem rowP_at (d : List Int) (i k j : Nat) (h : j < d.length) : (rowP d i k).getD j 0 = pw (d.drop j) (if j < k then i + 1 else i) := by simp [rowP, h]
theorem rowP_zero (d : List Int) : rowP d 0 0 = d := by
  apply List.ext_getElem
  · simp [rowP]
  · intro j h1 h2
    simp only [rowP, List.getElem_map, List.getElem_range]
    simp only [Nat.not_lt_zero, if_false]
    rw [List.drop_eq_getElem_cons h2]
    rfl
theorem rowP_set (d : List Int) (i k : Nat) (h : k + 1 < d.length) : (rowP d i k).set k (pw (d.drop k) i + pw (d.drop (k + 1)) i) = rowP d i (k + 1) := by
  apply List.ext_getElem
  · simp [rowP]
  · intro j h1 h2
    simp only [rowP_len] at h2
    rw [List.getElem_set]
    simp only [rowP, List.getElem_map, List.getElem_range]
    by_cases hk : k = j
    · subst hk
      simp only [if_true, Nat.lt_succ_self]
      rw [pw_succ, List.tail_drop]
    · rw [if_neg hk]
      by_cases hj : j < k
      · rw [if_pos hj, if_pos (by omega)]
      · rw [if_neg hj, if_neg (by omega)]
theorem rowP_full (d : List Int) (i : Nat) (h : 0 < d.length) : rowP d i (d.length - 1) = rowP d (i + 1) 0 := by
  apply List.ext_getElem
  · simp [rowP]
  · intro j h1 h2
    simp only [rowP_len] at h2
    simp only [rowP, List.getElem_map, List.getElem_range, Nat.not_lt_zero, if_false]
    by_cases hj : j < d.length - 1
    · rw [if_pos hj]
    · rw [if_neg hj]
      obtain rfl : j = d.length - 1 := by omega
      have : (d.drop (d.length - 1)).tail = [] := by
        rw [List.tail_drop]; apply List.drop_eq_nil_of_le; omega
      rw [pw_succ, this]; simp [pw]
theorem seqP_snoc (r : List Int) (n : Nat) : seqP r n ++ [pw r n] = seqP r (n + 1) := by simp [seqP, List.range_succ]
theorem seqP_take (r : List Int) (n k : Nat) (h : k ≤ n) : (seqP r n).take k = seqP r k := by
  apply List.ext_getElem
  · simp [seqP]; omega
  · intro j h1 h2; simp [seqP]
end Go.Proofs.Try
