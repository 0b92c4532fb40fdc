/- A part of the proof of PuzzlesDry: contracts of functions, with plain laws that they need. -/
import Derived.Test.YtmdkhbmhgcdpaaaVgX10
set_option linter.all false
set_option linter.unusedVariables false
set_option linter.unusedSimpArgs false
set_option maxHeartbeats 4000000
namespace Go.Proofs.Try
open Go.Vg

/-! grids -/
def bxy (w n side : Int) : Int × Int :=
  if side = 0 then (n.tmod w, n.tdiv w - 1) else if side = 1 then (n.tmod w + 1, n.tdiv w) else if side = 2 then (n.tmod w, n.tdiv w + 1) else if side = 3 then (n.tmod w - 1, n.tdiv w) else (n.tmod w, n.tdiv w)
def bsd (w n side : Int) : Int := (bxy w n side).2 * w + (bxy w n side).1
def bsdB (w h n side : Int) : Bool := (decide (0 ≤ (bxy w n side).1) && decide ((bxy w n side).1 ≤ w - 1)) && (decide (0 ≤ (bxy w n side).2) && decide ((bxy w n side).2 ≤ h - 1))
theorem bsd_range {w h n side : Int} (hw : 1 ≤ w) (h2 : bsdB w h n side = true) : 0 ≤ bsd w n side ∧ bsd w n side < w * h := by
  simp only [bsdB, Bool.and_eq_true, decide_eq_true_eq] at h2
  obtain ⟨⟨a, b⟩, c, d⟩ := h2
  unfold bsd
  generalize (bxy w n side).1 = x at *
  generalize (bxy w n side).2 = y at *
  have h1 : 0 ≤ y * w := Int.mul_nonneg c (by omega)
  have h3 : y * w ≤ (h - 1) * w := Int.mul_le_mul_of_nonneg_right d (by omega)
  have h4 : (h - 1) * w = w * h - w := by rw [Int.sub_mul, Int.one_mul, Int.mul_comm]
  omega
theorem bxy_bnd {w n side : Int} (hw : 1 ≤ w ∧ w ≤ 1000) (hn : 0 ≤ n ∧ n ≤ 1000) : -1 ≤ (bxy w n side).1 ∧ (bxy w n side).1 ≤ 1001 ∧ -1 ≤ (bxy w n side).2 ∧ (bxy w n side).2 ≤ 1001 := by
  have a1 := Int.tmod_nonneg w hn.1
  have a2 := Int.tmod_lt_of_pos n (b := w) (by omega)
  have a3 := Int.tdiv_nonneg hn.1 (by omega : 0 ≤ w)
  have a4 := Int.tdiv_le_self w hn.1
  unfold bxy
  split
  · simp only; omega
  split
  · simp only; omega
  split
  · simp only; omega
  split
  · simp only; omega
  · simp only; omega
theorem bsd_bnd {w n side : Int} (hw : 1 ≤ w ∧ w ≤ 1000) (hn : 0 ≤ n ∧ n ≤ 1000) : -1000000000 ≤ (bxy w n side).2 * w ∧ (bxy w n side).2 * w ≤ 1000000000 := by
  obtain ⟨_, _, h3, h4⟩ := bxy_bnd (side := side) hw hn
  have h1 : (bxy w n side).2 * w ≤ 1001 * w := Int.mul_le_mul_of_nonneg_right h4 (by omega)
  have h2 : -1 * w ≤ (bxy w n side).2 * w := Int.mul_le_mul_of_nonneg_right h3 (by omega)
  omega

/-! pieces -/
def pb (p k : Nat) : Bool := p / 2 ^ k % 2 == 1
def rot (p : Nat) : Nat := p * 2 % 16 + p / 8
def rotN : Nat → Nat → Nat
  | 0, p => p
  | i + 1, p => rot (rotN i p)
theorem rotN_lt : ∀ i p, p < 16 → rotN i p < 16
  | 0, p, h => h
  | i + 1, p, h => by
    have := rotN_lt i p h
    simp only [rotN, rot]; omega
theorem rot_open : ∀ p, p < 16 → ∀ t, t < 4 → ∀ s, s < 4 → pb (rotN t p) s = pb p ((s + 4 - t) % 4) := by decide +kernel

section
variable (w h : Int) (pieces turns : List Int)
def opC (c s : Nat) : Bool := pb (pieces.getD c 0).toNat ((s + 4 - (turns.getD c 0).toNat) % 4)
/-- where water goes from a cell through a side -/
def link (c s : Nat) : Option Nat :=
  if bsdB w h c s = true then (if opC pieces turns (bsd w c s).toNat ((s + 2) % 4) = true then some (bsd w c s).toNat else none) else none
def leakN (c : Nat) : Nat → Nat
  | 0 => 0
  | s + 1 => leakN c s + if opC pieces turns c s = true ∧ link w h pieces turns c s = none then 1 else 0
inductive Reach (b : Nat) : Nat → Prop
  | base : Reach b b
  | step {c k s : Nat} : Reach b c → s < 4 → opC pieces turns c s = true → link w h pieces turns c s = some k → Reach b k
def sumL (f : Nat → Nat) : Nat → Nat
  | 0 => 0
  | c + 1 => sumL f c + f c
/-- the wet cells, and how often it leaks -/
structure IsRes (n b : Nat) (wet : List Bool) (leaks : Nat) : Prop where
  len : wet.length = n
  base : wet.getD b false = true
  shut : ∀ c s k, wet.getD c false = true → s < 4 → opC pieces turns c s = true → link w h pieces turns c s = some k → wet.getD k false = true
  sound : ∀ c, wet.getD c false = true → Reach w h pieces turns b c
  leak : leaks = sumL (fun c => if wet.getD c false = true then leakN w h pieces turns c 4 else 0) n
end
theorem IsRes.reach {w h : Int} {pieces turns : List Int} {n b : Nat} {wet : List Bool} {leaks : Nat} (r : IsRes w h pieces turns n b wet leaks) {c : Nat} (hc : Reach w h pieces turns b c) : wet.getD c false = true := by
  induction hc with
  | base => exact r.base
  | step _ h1 h2 h3 ih => exact r.shut _ _ _ ih h1 h2 h3
theorem IsRes.unique {w h : Int} {pieces turns : List Int} {n b : Nat} {wet wet' : List Bool} {leaks leaks' : Nat} (r : IsRes w h pieces turns n b wet leaks) (r' : IsRes w h pieces turns n b wet' leaks') : wet = wet' ∧ leaks = leaks' := by
  have e : wet = wet' := by
    apply List.ext_getElem
    · rw [r.len, r'.len]
    · intro c h1 h2
      have k1 := fun hc => r'.reach (r.sound c hc)
      have k2 := fun hc => r.reach (r'.sound c hc)
      simp [h1, h2] at k1 k2
      cases h3 : wet[c] <;> cases h4 : wet'[c] <;> simp_all
  subst e
  exact ⟨rfl, by rw [r.leak, r'.leak]⟩
theorem link_lt {w h : Int} {pieces turns : List Int} {c s k : Nat} (hw : 1 ≤ w) (hl : link w h pieces turns c s = some k) : (k : Int) < w * h := by
  unfold link at hl
  split at hl
  · rename_i hb
    have := bsd_range hw hb
    split at hl
    · cases hl; omega
    · cases hl
  · cases hl

/-! as the reference does it: cell by cell, again and again -/
section
variable (w h : Int) (pieces turns : List Int)
def sideStep (c s : Nat) (q : List Bool × Nat) : List Bool × Nat :=
  if opC pieces turns c s = true then (match link w h pieces turns c s with
    | some k => (q.1.set k true, q.2)
    | none => (q.1, q.2 + 1)) else q
def sidesR (c : Nat) (q : List Bool × Nat) : Nat → List Bool × Nat
  | 0 => q
  | s + 1 => sideStep w h pieces turns c s (sidesR c q s)
def cellStep (c : Nat) (q : List Bool × Nat) : List Bool × Nat := if q.1.getD c false = true then sidesR w h pieces turns c q 4 else q
def cellsR (q : List Bool × Nat) : Nat → List Bool × Nat
  | 0 => q
  | c + 1 => cellStep w h pieces turns c (cellsR q c)
def iterR (n b : Nat) : Nat → List Bool × Nat
  | 0 => ((List.replicate n false).set b true, 0)
  | t + 1 => cellsR w h pieces turns ((iterR n b t).1, 0) n
end
section
variable {w h : Int} {pieces turns : List Int}
theorem set_true_mono (l : List Bool) (k c : Nat) (hc : l.getD c false = true) : (l.set k true).getD c false = true := by
  have hlt : c < l.length := by
    rcases Nat.lt_or_ge c l.length with h | h
    · exact h
    · rw [List.getD_eq_getElem?_getD, List.getElem?_eq_none h] at hc; cases hc
  by_cases e : k = c
  · subst e; simp [hlt]
  · simpa [List.getElem?_set_ne e] using hc
theorem set_true_inv (l : List Bool) (k c : Nat) (hc : (l.set k true).getD c false = true) : l.getD c false = true ∨ c = k := by
  by_cases e : k = c
  · right; exact e.symm
  · left; simpa [List.getElem?_set_ne e] using hc
theorem sidesR_len (c : Nat) (q : List Bool × Nat) : ∀ s, (sidesR w h pieces turns c q s).1.length = q.1.length
  | 0 => rfl
  | s + 1 => by
    rw [sidesR, sideStep]
    split
    · split
      · simp [sidesR_len c q s]
      · exact sidesR_len c q s
    · exact sidesR_len c q s
theorem cellsR_len (q : List Bool × Nat) : ∀ c, (cellsR w h pieces turns q c).1.length = q.1.length
  | 0 => rfl
  | c + 1 => by
    rw [cellsR, cellStep]
    split
    · rw [sidesR_len, cellsR_len]
    · exact cellsR_len q c
theorem iterR_len (n b : Nat) : ∀ t, (iterR w h pieces turns n b t).1.length = n
  | 0 => by simp [iterR]
  | t + 1 => by rw [iterR, cellsR_len]; exact iterR_len n b t
theorem sidesR_mono (c x : Nat) (q : List Bool × Nat) (hx : q.1.getD x false = true) : ∀ s, (sidesR w h pieces turns c q s).1.getD x false = true
  | 0 => hx
  | s + 1 => by
    rw [sidesR, sideStep]
    split
    · split
      · exact set_true_mono _ _ _ (sidesR_mono c x q hx s)
      · exact sidesR_mono c x q hx s
    · exact sidesR_mono c x q hx s
theorem cellsR_mono (x : Nat) (q : List Bool × Nat) (hx : q.1.getD x false = true) : ∀ c, (cellsR w h pieces turns q c).1.getD x false = true
  | 0 => hx
  | c + 1 => by
    rw [cellsR, cellStep]
    split
    · exact sidesR_mono _ _ _ (cellsR_mono x q hx c) _
    · exact cellsR_mono x q hx c
theorem sidesR_sound (b c : Nat) (q : List Bool × Nat) (hc : Reach w h pieces turns b c) (hq : ∀ x, q.1.getD x false = true → Reach w h pieces turns b x) : ∀ s, s ≤ 4 → ∀ x, (sidesR w h pieces turns c q s).1.getD x false = true → Reach w h pieces turns b x
  | 0, _, x, hx => hq x hx
  | s + 1, hs, x, hx => by
    have ih := sidesR_sound b c q hc hq s (by omega)
    rw [sidesR, sideStep] at hx
    split at hx
    · rename_i ho
      split at hx
      · rename_i k hk
        rcases set_true_inv _ _ _ hx with h1 | rfl
        · exact ih x h1
        · exact .step hc (by omega) ho hk
      · exact ih x hx
    · exact ih x hx
theorem cellsR_sound (b : Nat) (q : List Bool × Nat) (hq : ∀ x, q.1.getD x false = true → Reach w h pieces turns b x) : ∀ c x, (cellsR w h pieces turns q c).1.getD x false = true → Reach w h pieces turns b x
  | 0, x, hx => hq x hx
  | c + 1, x, hx => by
    have ih := cellsR_sound b q hq c
    rw [cellsR, cellStep] at hx
    split at hx
    · rename_i hc
      exact sidesR_sound b c _ (ih c hc) ih 4 (Nat.le_refl _) x hx
    · exact ih x hx
theorem iterR_sound (n b : Nat) : ∀ t x, (iterR w h pieces turns n b t).1.getD x false = true → Reach w h pieces turns b x
  | 0, x, hx => by
    rcases set_true_inv _ _ _ hx with h1 | rfl
    · rw [List.getD_eq_getElem?_getD, List.getElem?_replicate] at h1
      split at h1 <;> cases h1
    · exact .base
  | t + 1, x, hx => cellsR_sound b ((iterR w h pieces turns n b t).1, 0) (iterR_sound n b t) n x hx
theorem iterR_base (n b : Nat) (hb : b < n) : ∀ t, (iterR w h pieces turns n b t).1.getD b false = true
  | 0 => by simp [iterR, hb]
  | t + 1 => cellsR_mono b ((iterR w h pieces turns n b t).1, 0) (iterR_base n b hb t) n

/-- how many are true -/
def cntT (l : List Bool) : Nat := (l.filter id).length
theorem cntT_le (l : List Bool) : cntT l ≤ l.length := List.length_filter_le _ _
theorem mono_cnt : ∀ (l l' : List Bool), l.length = l'.length → (∀ x, l.getD x false = true → l'.getD x false = true) → cntT l ≤ cntT l' ∧ (cntT l = cntT l' → l = l')
  | [], [], _, _ => ⟨Nat.le_refl _, fun _ => rfl⟩
  | [], _ :: _, h, _ => by simp at h
  | _ :: _, [], h, _ => by simp at h
  | a :: l, b :: l', h, hm => by
    have ih := mono_cnt l l' (by simpa using h) fun x hx => by simpa using hm (x + 1) (by simpa using hx)
    have h0 := hm 0
    simp only [List.getD_cons_zero] at h0
    unfold cntT at ih ⊢
    cases a <;> cases b <;> simp [List.filter_cons] at h0 ih ⊢
    · exact ih
    · omega
    · exact ih
theorem all_true : ∀ (l : List Bool), cntT l = l.length → ∀ x, x < l.length → l.getD x false = true
  | [], _, x, hx => by simp at hx
  | a :: l, h, x, hx => by
    have hl := cntT_le l
    unfold cntT at h hl
    cases a
    · simp only [List.filter_cons, id, Bool.false_eq_true, if_false, List.length_cons] at h; omega
    · simp only [List.filter_cons, id, if_true, List.length_cons] at h
      cases x with
      | zero => rfl
      | succ x => simpa using all_true l (by unfold cntT; omega) x (by simpa using hx)
/-- once nothing more becomes wet -/
theorem iterR_fix (n b : Nat) (hb : b < n) : ∀ t, (iterR w h pieces turns n b (t + 1)).1 = (iterR w h pieces turns n b t).1 ∨ t + 2 ≤ cntT (iterR w h pieces turns n b (t + 1)).1 := by
  have pos : ∀ t, 1 ≤ cntT (iterR w h pieces turns n b t).1 := fun t => by
    have := iterR_base (w := w) (h := h) (pieces := pieces) (turns := turns) n b hb t
    unfold cntT
    refine List.length_pos_iff.2 fun e => ?_
    have hlt : b < (iterR w h pieces turns n b t).1.length := by rw [iterR_len]; exact hb
    have hm : true ∈ (iterR w h pieces turns n b t).1 := by
      have e2 : (iterR w h pieces turns n b t).1[b] = true := by simpa [hlt] using this
      rw [← e2]; exact List.getElem_mem hlt
    have : true ∈ (iterR w h pieces turns n b t).1.filter id := List.mem_filter.2 ⟨hm, rfl⟩
    rw [e] at this; cases this
  intro t
  have mono : ∀ t, cntT (iterR w h pieces turns n b t).1 ≤ cntT (iterR w h pieces turns n b (t + 1)).1 ∧ (cntT (iterR w h pieces turns n b t).1 = cntT (iterR w h pieces turns n b (t + 1)).1 → (iterR w h pieces turns n b t).1 = (iterR w h pieces turns n b (t + 1)).1) := fun t =>
    mono_cnt _ _ (by rw [iterR_len, iterR_len]) fun x hx => cellsR_mono x ((iterR w h pieces turns n b t).1, 0) hx n
  induction t with
  | zero =>
    obtain ⟨m1, m2⟩ := mono 0
    have := pos 0
    by_cases e : cntT (iterR w h pieces turns n b 0).1 = cntT (iterR w h pieces turns n b (0 + 1)).1
    · left; exact (m2 e).symm
    · right; omega
  | succ t ih =>
    obtain ⟨m1, m2⟩ := mono (t + 1)
    rcases ih with ih | ih
    · left
      rw [iterR, ih]; exact ih.symm ▸ rfl
    · by_cases e : cntT (iterR w h pieces turns n b (t + 1)).1 = cntT (iterR w h pieces turns n b (t + 1 + 1)).1
      · left; exact (m2 e).symm
      · right; omega
theorem iterR_last (n b : Nat) (hb : b < n) : (iterR w h pieces turns n b n).1 = (iterR w h pieces turns n b (n - 1)).1 := by
  obtain ⟨m, rfl⟩ : ∃ m, n = m + 1 := ⟨n - 1, by omega⟩
  rw [Nat.add_sub_cancel]
  rcases iterR_fix (w := w) (h := h) (pieces := pieces) (turns := turns) (m + 1) b hb m with e | e
  · exact e
  · have := cntT_le (iterR w h pieces turns (m + 1) b (m + 1)).1
    rw [iterR_len] at this
    omega

theorem sidesR_same (c : Nat) (q : List Bool × Nat) : ∀ s, (∀ x, (sidesR w h pieces turns c q s).1.getD x false = true → q.1.getD x false = true) → (∀ j k, j < s → opC pieces turns c j = true → link w h pieces turns c j = some k → (k < q.1.length → q.1.getD k false = true)) ∧ (sidesR w h pieces turns c q s).2 = q.2 + leakN w h pieces turns c s
  | 0, _ => ⟨fun j k hj => by omega, by simp [sidesR, leakN]⟩
  | s + 1, hs => by
    have hs' : ∀ x, (sidesR w h pieces turns c q s).1.getD x false = true → q.1.getD x false = true := fun x hx => hs x (by
      rw [sidesR, sideStep]
      split
      · split
        · exact set_true_mono _ _ _ hx
        · exact hx
      · exact hx)
    obtain ⟨i1, i2⟩ := sidesR_same c q s hs'
    refine ⟨fun j k hj ho hk hlt => ?_, ?_⟩
    · by_cases e : j = s
      · subst e
        apply hs
        rw [sidesR, sideStep, if_pos ho, hk]
        simp [sidesR_len, hlt]
      · exact i1 j k (by omega) ho hk hlt
    · rw [sidesR, sideStep, leakN]
      split
      · rename_i ho
        split
        · rename_i k hk; rw [if_neg (by rw [hk]; simp)]; simpa using i2
        · rename_i hk; rw [if_pos ⟨ho, hk⟩]; simp only; omega
      · rename_i ho; rw [if_neg (fun e => ho e.1)]; simpa using i2
theorem cellsR_same (w0 : List Bool) : ∀ c, (∀ x, (cellsR w h pieces turns (w0, 0) c).1.getD x false = true → w0.getD x false = true) →
    (∀ d j k, d < c → w0.getD d false = true → j < 4 → opC pieces turns d j = true → link w h pieces turns d j = some k → (k < w0.length → w0.getD k false = true)) ∧ (cellsR w h pieces turns (w0, 0) c).2 = sumL (fun c => if w0.getD c false = true then leakN w h pieces turns c 4 else 0) c
  | 0, _ => ⟨fun d j k hd => by omega, rfl⟩
  | c + 1, hs => by
    have hm : ∀ x, (cellsR w h pieces turns (w0, 0) c).1.getD x false = true → (cellsR w h pieces turns (w0, 0) (c + 1)).1.getD x false = true := fun x hx => by
      rw [cellsR, cellStep]
      split
      · exact sidesR_mono _ _ _ hx _
      · exact hx
    have hs' := fun x hx => hs x (hm x hx)
    obtain ⟨i1, i2⟩ := cellsR_same w0 c hs'
    have hin : ∀ x, w0.getD x false = true → (cellsR w h pieces turns (w0, 0) c).1.getD x false = true := fun x hx => cellsR_mono x _ hx c
    have hlen := cellsR_len (w := w) (h := h) (pieces := pieces) (turns := turns) (w0, 0) c
    rw [cellsR, cellStep] at hs ⊢
    by_cases hc : (cellsR w h pieces turns (w0, 0) c).1.getD c false = true
    · rw [if_pos hc] at hs ⊢
      have hq := sidesR_same c (cellsR w h pieces turns (w0, 0) c) 4 (fun x hx => hin x (hs x hx))
      refine ⟨fun d j k hd hw hj ho hk hlt => ?_, ?_⟩
      · by_cases e : d = c
        · subst e
          exact hs' k (hq.1 j k hj ho hk (by rw [hlen]; exact hlt))
        · exact i1 d j k (by omega) hw hj ho hk hlt
      · rw [hq.2, i2, sumL, if_pos (hs' c hc)]
    · rw [if_neg hc] at hs ⊢
      refine ⟨fun d j k hd hw hj ho hk hlt => ?_, ?_⟩
      · by_cases e : d = c
        · subst e; exact absurd (hin d hw) hc
        · exact i1 d j k (by omega) hw hj ho hk hlt
      · rw [i2, sumL, if_neg (fun e => hc (hin c e))]; omega
/-- what the reference comes to -/
theorem iterR_is (n b : Nat) (hb : b < n) (hw : 1 ≤ w) (hn : (n : Int) = w * h) : IsRes w h pieces turns n b (iterR w h pieces turns n b n).1 (iterR w h pieces turns n b n).2 := by
  have hl := iterR_last (w := w) (h := h) (pieces := pieces) (turns := turns) n b hb
  obtain ⟨m, rfl⟩ : ∃ m, n = m + 1 := ⟨n - 1, by omega⟩
  rw [Nat.add_sub_cancel] at hl
  have hlen := iterR_len (w := w) (h := h) (pieces := pieces) (turns := turns) (m + 1) b (m + 1)
  have hs := cellsR_same (w := w) (h := h) (pieces := pieces) (turns := turns) (iterR w h pieces turns (m + 1) b m).1 (m + 1) (fun x hx => by
    have : cellsR w h pieces turns ((iterR w h pieces turns (m + 1) b m).1, 0) (m + 1) = iterR w h pieces turns (m + 1) b (m + 1) := rfl
    rw [this, hl] at hx; exact hx)
  rw [← hl] at hs
  refine ⟨hlen, iterR_base _ _ hb _, fun c s k hc h4 ho hk => ?_, iterR_sound _ _ _, ?_⟩
  · have hcl : c < m + 1 := by
      rcases Nat.lt_or_ge c (m + 1) with h | h
      · exact h
      · rw [List.getD_eq_getElem?_getD, List.getElem?_eq_none (by omega)] at hc; cases hc
    have := link_lt hw hk
    exact hs.1 c s k hcl hc h4 ho hk (by omega)
  · have := hs.2
    rw [hl] at this ⊢
    exact this
end
end Go.Proofs.Try
