/- A part of the proof of PuzzlesHeard: contracts of functions, with plain laws that they need. -/
import Derived.Test.YtmdkhbmhgcdpaaaVgX10
set_option linter.all false
set_option linter.unusedVariables false
set_option linter.unusedSimpArgs false
set_option maxHeartbeats 4000000
namespace Go.Proofs.Try
open Go.Vg

/-! melodies: the plain law -/
def endsB (keys notes : List Int) : Bool := decide (notes <:+ keys)
/-- the most of the first k notes of m with which the keys end -/
def hL (m ks : List Int) : Nat → Nat
  | 0 => 0
  | k + 1 => if endsB ks (m.take (k + 1)) then k + 1 else hL m ks k
theorem hL_le (m ks : List Int) : ∀ k, hL m ks k ≤ k
  | 0 => Nat.le_refl _
  | k + 1 => by
    unfold hL; split
    · omega
    · have := hL_le m ks k; omega
theorem hL_ends (m ks : List Int) : ∀ k, m.take (hL m ks k) <:+ ks
  | 0 => by simp [hL]
  | k + 1 => by
    unfold hL; split
    · rename_i h; exact of_decide_eq_true h
    · exact hL_ends m ks k
theorem hL_max (m ks : List Int) : ∀ k j, j ≤ k → m.take j <:+ ks → j ≤ hL m ks k
  | 0, j, h, _ => by omega
  | k + 1, j, h, hs => by
    unfold hL; split
    · omega
    · rename_i hn
      by_cases e : j = k + 1
      · subst e; exact absurd (decide_eq_true hs) hn
      · exact hL_max m ks k j (by omega) hs
theorem hL_of {m ks : List Int} {k n : Nat} (h1 : n ≤ k) (h2 : m.take n <:+ ks) (h3 : ∀ j, j ≤ k → m.take j <:+ ks → j ≤ n) : hL m ks k = n := by
  have a := h3 _ (hL_le m ks k) (hL_ends m ks k)
  have b := hL_max m ks k n h1 h2
  omega
theorem suffix_snoc {t ks : List Int} {a : Int} (h : t <:+ ks ++ [a]) (hne : t ≠ []) : ∃ u, t = u ++ [a] ∧ u <:+ ks := by
  obtain ⟨p, hp⟩ := h
  have ht : t = t.dropLast ++ [t.getLast hne] := (List.dropLast_concat_getLast hne).symm
  rw [ht, ← List.append_assoc] at hp
  have := List.append_inj' hp rfl
  have e : t.getLast hne = a := by simpa using this.2
  refine ⟨t.dropLast, ?_, p, this.1⟩
  rw [← e]; exact ht
theorem snoc_suffix {t ks : List Int} {a : Int} (h : t <:+ ks) : t ++ [a] <:+ ks ++ [a] := by
  obtain ⟨p, hp⟩ := h
  exact ⟨p, by rw [← hp, List.append_assoc]⟩
/-- one more key: it is enough to know how many notes were heard -/
theorem hL_step (m ks : List Int) (key : Int) : hL m (ks ++ [key]) m.length = hL m (m.take (hL m ks m.length) ++ [key]) m.length := by
  have hn := hL_le m ks m.length
  have hs := hL_ends m ks m.length
  refine hL_of (hL_le _ _ _) ?_ ?_
  · exact List.IsSuffix.trans (hL_ends m _ m.length) (snoc_suffix hs)
  · intro j hj h
    refine hL_max _ _ _ j hj ?_
    by_cases h0 : m.take j = []
    · rw [h0]; exact List.nil_suffix
    · obtain ⟨u, hu, hus⟩ := suffix_snoc h h0
      have hul : u.length + 1 = j := by
        have := congrArg List.length hu
        simp at this; omega
      have hue : u = m.take (j - 1) := by
        have h1 : (m.take j).take (j - 1) = u := by rw [hu, ← hul, Nat.add_sub_cancel, List.take_left]
        rw [← h1, List.take_take, Nat.min_eq_left (by omega)]
      have hle := hL_max m ks m.length (j - 1) (by omega) (by rw [← hue]; exact hus)
      rw [hu]
      refine snoc_suffix (List.suffix_of_suffix_length_le hus hs ?_)
      simp; omega
theorem hL_full (m ks : List Int) : hL m ks m.length = m.length ↔ m <:+ ks := by
  constructor
  · intro h
    have := hL_ends m ks m.length
    rw [h, List.take_length] at this
    exact this
  · intro h
    have := hL_max m ks m.length m.length (Nat.le_refl _) (by rw [List.take_length]; exact h)
    have := hL_le m ks m.length
    omega
theorem hL_short (m ks : List Int) : hL m ks m.length ≤ ks.length := by
  have h := (hL_ends m ks m.length).length_le
  have := hL_le m ks m.length
  simp at h; omega

def notesB (l : List Int) : Bool := l.all fun n => decide (0 ≤ n) && decide (n ≤ 9)
def tuneB (m : List Int) : Bool := (decide (1 ≤ (m.length : Int)) && decide ((m.length : Int) ≤ 16)) && notesB m
theorem tune_ok {m : List Int} (h : tuneB m = true) : 1 ≤ m.length ∧ m.length ≤ 16 := by
  simp only [tuneB, Bool.and_eq_true, decide_eq_true_eq] at h
  omega
def pressV (m : List Int) (so key : Int) : Int × Int :=
  if tuneB m && (decide (0 ≤ so) && decide (so ≤ (m.length : Int) - 1)) && (decide (0 ≤ key) && decide (key ≤ 9)) then ((hL m (m.take so.toNat ++ [key]) m.length : Nat), 0) else (0, 1)
/-- behind how many keys the melody stands for the first time -/
def opensAt (m keys : List Int) : Option Nat := (List.range (keys.length + 1)).find? fun i => endsB (keys.take i) m
def opensI (m keys : List Int) : Int := match opensAt m keys with
  | some i => i
  | none => -1
def opensV (m keys : List Int) : Int × Int :=
  if tuneB m then (if 200 < (keys.length : Int) then (0, 2) else if notesB keys then (opensI m keys, 0) else (0, 1)) else (0, 1)
theorem opensAt_some {m keys : List Int} {i : Nat} (hi : i ≤ keys.length) (h1 : endsB (keys.take i) m = true) (h2 : ∀ j, j < i → endsB (keys.take j) m = false) : opensAt m keys = some i := by
  unfold opensAt
  rw [List.find?_range_eq_some]
  exact ⟨h1, by simp; omega, fun j hj => by simp [h2 j hj]⟩
theorem opensAt_none {m keys : List Int} (h2 : ∀ j, j ≤ keys.length → endsB (keys.take j) m = false) : opensAt m keys = none := by
  unfold opensAt
  rw [List.find?_eq_none]
  intro j hj
  simp at hj
  simp [h2 j (by omega)]
theorem ends_zero {m keys : List Int} (h : 1 ≤ m.length) : endsB (keys.take 0) m = false := by
  unfold endsB
  rw [decide_eq_false]
  intro hs
  have := hs.length_le
  simp at this
  rw [this] at h
  simp at h
theorem ends_drop {keys notes : List Int} : notes <:+ keys ↔ notes.length ≤ keys.length ∧ keys.drop (keys.length - notes.length) = notes := by
  constructor
  · intro h
    exact ⟨h.length_le, (List.suffix_iff_eq_drop.1 h).symm⟩
  · rintro ⟨_, h⟩
    rw [← h]; exact List.drop_suffix _ _
end Go.Proofs.Try
