/- A part of the proof of PuzzlesPlumbs: contracts of functions, with plain laws that they need. -/
import Derived.Test.YtmdkhbmhgcdpaaaVgX33
import Derived.Test.YtmdkhbmhgcdpaaaVgX30
set_option linter.all false
set_option linter.unusedVariables false
set_option linter.unusedSimpArgs false
set_option maxHeartbeats 8000000
namespace Go.Proofs.Try
open Go.Vg

def sfx4 : Nat → Nat → List Int
  | 0, _ => []
  | j + 1, n => (((n / 4 ^ j) % 4 : Nat) : Int) :: sfx4 j n
theorem sfx4_len (j n : Nat) : (sfx4 j n).length = j := by
  induction j with
  | zero => rfl
  | succ j ih => simp [sfx4, ih]
theorem sfx4_low (k c m : Nat) : ∀ j, j ≤ k → sfx4 j (4 ^ k * c + m) = sfx4 j m
  | 0, _ => rfl
  | j + 1, h => by
    have ih := sfx4_low k c m j (by omega)
    have e : (4 ^ k * c + m) / 4 ^ j % 4 = m / 4 ^ j % 4 := by
      obtain ⟨d, rfl⟩ : ∃ d, k = j + 1 + d := ⟨k - (j + 1), by omega⟩
      have hp : 0 < 4 ^ j := Nat.pow_pos (by omega)
      rw [show 4 ^ (j + 1 + d) * c = 4 ^ j * (4 * (4 ^ d * c)) by rw [Nat.pow_add, Nat.pow_succ]; simp only [Nat.mul_assoc]]
      rw [Nat.mul_add_div hp, Nat.add_comm, Nat.add_mul_mod_self_left]
    simp only [sfx4, e, ih]
theorem sfx4_hi (k c m : Nat) (hm : m < 4 ^ k) (hc : c < 4) : sfx4 (k + 1) (4 ^ k * c + m) = (c : Int) :: sfx4 k m := by
  have hp : 0 < 4 ^ k := Nat.pow_pos (by omega)
  have e : (4 ^ k * c + m) / 4 ^ k % 4 = c := by
    rw [Nat.mul_add_div hp, Nat.div_eq_of_lt hm, Nat.add_zero, Nat.mod_eq_of_lt hc]
  simp only [sfx4, e, sfx4_low k c m k (Nat.le_refl _)]
theorem sfx4_all (k : Nat) : (List.range (4 ^ k)).map (sfx4 k) = turnsL k := by
  induction k with
  | zero => rfl
  | succ k ih =>
    have e : 4 ^ (k + 1) = 4 ^ k + (4 ^ k + (4 ^ k + 4 ^ k)) := by rw [Nat.pow_succ]; omega
    have part : ∀ c : Nat, c < 4 → ((List.range (4 ^ k)).map (4 ^ k * c + ·)).map (sfx4 (k + 1)) = (turnsL k).map ((c : Int) :: ·) := fun c hc => by
      rw [← ih, List.map_map, List.map_map]
      apply List.map_congr_left
      intro m hm
      simp only [Function.comp]
      exact sfx4_hi k c m (by simpa using hm) hc
    have p0 := part 0 (by omega)
    have p1 := part 1 (by omega)
    have p2 := part 2 (by omega)
    have p3 := part 3 (by omega)
    rw [e, List.range_add, List.range_add, List.range_add, List.map_append, List.map_append, List.map_append, List.map_append, List.map_append, List.map_append]
    simp only [turnsL, four, List.range_succ, List.range_zero, List.nil_append, List.cons_append, List.map_cons, List.map_nil, List.flatMap_cons, List.flatMap_nil, List.append_nil]
    rw [List.map_map] at p0 p1 p2 p3
    rw [← p0, ← p1, ← p2, ← p3]
    simp only [List.map_map]
    congr 1
    · refine List.map_congr_left fun m _ => ?_
      simp only [Function.comp]; congr 1; omega
    congr 1
    · refine List.map_congr_left fun m _ => ?_
      simp only [Function.comp]; congr 1; omega
    congr 1
    · refine List.map_congr_left fun m _ => ?_
      simp only [Function.comp]; congr 1; omega
    · refine List.map_congr_left fun m _ => ?_
      simp only [Function.comp]; congr 1; omega
theorem div4 (n j : Nat) : n / 4 ^ j / 4 = n / 4 ^ (j + 1) := by rw [Nat.div_div_eq_div_mul, Nat.pow_succ]
theorem sfx4_side (k n : Nat) : ∀ x ∈ sfx4 k n, 0 ≤ x ∧ x ≤ 3 := by
  induction k with
  | zero => intro x hx; cases hx
  | succ k ih =>
    intro x hx
    simp only [sfx4, List.mem_cons] at hx
    rcases hx with rfl | hx
    · omega
    · exact ih x hx
theorem sfx4_set (k j n : Nat) (h : j < k) : (List.replicate (k - j) (0 : Int) ++ sfx4 j n).set (k - j - 1) (((n / 4 ^ j) % 4 : Nat) : Int) = List.replicate (k - (j + 1)) 0 ++ sfx4 (j + 1) n := by
  obtain ⟨d, hd⟩ : ∃ d, k - j = d + 1 := ⟨k - j - 1, by omega⟩
  rw [hd, show k - (j + 1) = d by omega, Nat.add_sub_cancel, List.replicate_succ', List.append_assoc, List.set_append_right _ _ (by simp)]
  simp [sfx4]
def p4 (k : Nat) : Nat := 4 ^ k
def dv4 (n j : Nat) : Nat := n / 4 ^ j
theorem p4_succ (k : Nat) : (p4 (k + 1) : Int) = (p4 k : Int) * 4 := by unfold p4; rw [Nat.pow_succ]; simp
theorem d4_rem (n j : Nat) : ((dv4 n j : Int)).tmod 4 = (((n / 4 ^ j) % 4 : Nat) : Int) := rfl
theorem d4_quo (n j : Nat) : ((dv4 n j : Int)).tdiv 4 = (dv4 n (j + 1) : Int) := by
  show (((n / 4 ^ j) / 4 : Nat) : Int) = _
  rw [div4]; rfl
theorem sfx4_set' (k j n : Nat) (h : j < k) : (List.replicate (k - j) (0 : Int) ++ sfx4 j n).set (k - j - 1) ((dv4 n j : Int).tmod 4) = List.replicate (k - (j + 1)) 0 ++ sfx4 (j + 1) n := by
  rw [d4_rem]; exact sfx4_set k j n h
theorem sfx4_take (k n : Nat) : (sfx4 k n).take k = sfx4 k n := by rw [List.take_of_length_le (by rw [sfx4_len]; omega)]
def solQ (w h fr to : Int) (pieces : List Int) (n : Nat) : List (List Int) := ((List.range n).map (sfx4 pieces.length)).filter (okT w h fr to pieces)
theorem solQ_all (w h fr to : Int) (pieces : List Int) : solQ w h fr to pieces (4 ^ pieces.length) = solP w h fr to pieces := by unfold solQ solP; rw [sfx4_all]
theorem solQ_succ (w h fr to : Int) (pieces : List Int) (n : Nat) : solQ w h fr to pieces (n + 1) = solQ w h fr to pieces n ++ if okT w h fr to pieces (sfx4 pieces.length n) then [sfx4 pieces.length n] else [] := by
  unfold solQ
  rw [List.range_succ, List.map_append, List.filter_append]
  congr 1
  simp only [List.map_cons, List.map_nil, List.filter_cons, List.filter_nil]
theorem solQ_len (w h fr to : Int) (pieces : List Int) (n : Nat) : (solQ w h fr to pieces n).length ≤ n := by
  unfold solQ
  refine Nat.le_trans (List.length_filter_le _ _) ?_
  simp
theorem pow4 {k : Nat} (h : k ≤ 9) : 4 ^ k ≤ 262144 := by
  have := Nat.pow_le_pow_right (n := 4) (by omega) h
  simpa using this
/-- what the reference does with a solution -/
def goR (s : Nat × Int × Option (List Int)) (t : List Int) : Nat × Int × Option (List Int) := (s.1 + 1, if s.1 = 0 ∨ tsum t < s.2.1 then (tsum t, some t) else s.2)
def relR (s : Option (List Int) × Int) (r : Nat × Int × Option (List Int)) : Prop := s.1 = r.2.2 ∧ ((r.1 = 0 ∧ s.2 < 0) ∨ (0 < r.1 ∧ s.2 = r.2.1 ∧ 0 ≤ s.2))
theorem goR_fold : ∀ (l : List (List Int)) (s : Option (List Int) × Int) (r : Nat × Int × Option (List Int)), (∀ t ∈ l, 0 ≤ tsum t) → relR s r →
    relR (l.foldl (fun s t => goW s t (tsum t)) s) (l.foldl goR r) ∧ (l.foldl goR r).1 = r.1 + l.length
  | [], _, _, _, h => ⟨h, rfl⟩
  | t :: l, s, r, ht, h => by
    have h0 := ht t (by simp)
    have hs : relR (goW s t (tsum t)) (goR r t) := by
      obtain ⟨h1, h2⟩ := h
      unfold relR goW goR
      rcases h2 with ⟨h2, h3⟩ | ⟨h2, h3, h4⟩
      · rw [if_pos (.inl h3)]
        simp only [h2, true_or, if_true]
        exact ⟨by first | trivial | rfl, .inr ⟨by omega, by first | trivial | rfl, h0⟩⟩
      · by_cases h5 : tsum t < s.2
        · rw [if_pos (.inr h5), if_pos (.inr (by omega))]
          exact ⟨rfl, .inr ⟨by simp, rfl, h0⟩⟩
        · rw [if_neg (by omega), if_neg (by omega)]
          exact ⟨h1, .inr ⟨by simp, h3, h4⟩⟩
    obtain ⟨a, b⟩ := goR_fold l _ _ (fun t h => ht t (by simp [h])) hs
    refine ⟨a, ?_⟩
    rw [List.foldl_cons, b]
    simp only [goR, List.length_cons]; omega
theorem tsum_bd (b : Int) (hb : 0 ≤ b) : ∀ (t : List Int), (∀ x ∈ t, 0 ≤ x ∧ x ≤ b) → 0 ≤ tsum t ∧ tsum t ≤ b * t.length
  | [], _ => by simp [tsum]
  | c :: t, h => by
    obtain ⟨h1, h2⟩ := tsum_bd b hb t fun x hx => h x (by simp [hx])
    have h3 := h c (by simp)
    have e : b * ((c :: t).length : Int) = b * (t.length : Int) + b := by rw [List.length_cons]; simp [Int.mul_add]
    rw [e]
    simp only [tsum]; omega
def stR (w h fr to : Int) (pieces : List Int) (n : Nat) : Nat × Int × Option (List Int) := (solQ w h fr to pieces n).foldl goR (0, 0, none)
end Go.Proofs.Try
