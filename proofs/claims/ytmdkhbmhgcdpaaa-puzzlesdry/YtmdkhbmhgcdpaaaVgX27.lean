/- A part of the proof of PuzzlesDry: contracts of functions, with plain laws that they need. -/
import Derived.Test.YtmdkhbmhgcdpaaaVgX26
set_option linter.all false
set_option linter.unusedVariables false
set_option linter.unusedSimpArgs false
set_option maxHeartbeats 8000000
namespace Go.Proofs.Try
open Go.Vg

section
variable (w h : Int) (pieces turns : List Int)
def bStep (c s : Nat) (q : List Bool × List Nat × Nat) : List Bool × List Nat × Nat :=
  if opC pieces turns c s = true then (match link w h pieces turns c s with
    | some k => if q.1.getD k false = true then q else (q.1.set k true, q.2.1 ++ [k], q.2.2)
    | none => (q.1, q.2.1, q.2.2 + 1)) else q
def bSides (c : Nat) (q : List Bool × List Nat × Nat) : Nat → List Bool × List Nat × Nat
  | 0 => q
  | s + 1 => bStep w h pieces turns c s (bSides c q s)
end
theorem cnt_set_true : ∀ (l : List Bool) (k : Nat), k < l.length → l.getD k false = false → cntT (l.set k true) = cntT l + 1
  | [], k, h, _ => by simp at h
  | a :: l, 0, _, h => by
    simp only [List.getD_cons_zero] at h
    subst h
    simp [cntT]
  | a :: l, k + 1, h, h2 => by
    have ih := cnt_set_true l k (by simpa using h) (by simpa using h2)
    unfold cntT at ih ⊢
    cases a
    · simpa [List.filter_cons] using ih
    · simp only [List.set_cons_succ, List.filter_cons, id, if_true, List.length_cons, ih]
section
variable {w h : Int} {pieces turns : List Int}
structure SInv (n b c : Nat) (wet : List Bool) (Q : List Nat) (leaks s : Nat) (q : List Bool × List Nat × Nat) (new : List Nat) : Prop where
  que : q.2.1 = Q ++ new
  len : q.1.length = n
  mem : ∀ x, q.1.getD x false = true ↔ wet.getD x false = true ∨ x ∈ new
  nd : new.Nodup
  dry : ∀ x ∈ new, wet.getD x false = false
  lt : ∀ x ∈ new, x < n
  sound : ∀ x ∈ new, Reach w h pieces turns b x
  shut : ∀ j k, j < s → opC pieces turns c j = true → link w h pieces turns c j = some k → q.1.getD k false = true
  leak : q.2.2 = leaks + leakN w h pieces turns c s
  cnt : cntT q.1 = cntT wet + new.length
theorem bSides_inv (hw : 1 ≤ w) {n b c : Nat} (hn : (n : Int) = w * h) {wet : List Bool} {Q : List Nat} {leaks : Nat} (hl : wet.length = n) (hc : Reach w h pieces turns b c) : ∀ s, s ≤ 4 → ∃ new, SInv (w := w) (h := h) (pieces := pieces) (turns := turns) n b c wet Q leaks s (bSides w h pieces turns c (wet, Q, leaks) s) new
  | 0, _ => ⟨[], ⟨by simp [bSides], hl, by simp [bSides], by simp, by simp, by simp, by simp, fun j k hj => by omega, by simp [bSides, leakN], by simp [bSides]⟩⟩
  | s + 1, hs => by
    obtain ⟨new, i⟩ := bSides_inv hw hn hl hc s (by omega)
    rw [bSides]
    generalize bSides w h pieces turns c (wet, Q, leaks) s = q at *
    obtain ⟨q1, q2, q3⟩ := q
    unfold bStep
    by_cases ho : opC pieces turns c s = true
    · rw [if_pos ho]
      cases hk : link w h pieces turns c s with
      | none =>
        simp only
        refine ⟨new, ⟨i.que, i.len, i.mem, i.nd, i.dry, i.lt, i.sound, fun j k hj ho' hk' => ?_, ?_, i.cnt⟩⟩
        · by_cases e : j = s
          · subst e; rw [hk] at hk'; cases hk'
          · exact i.shut j k (by omega) ho' hk'
        · have := i.leak
          simp only at this
          rw [leakN, if_pos ⟨ho, hk⟩]
          simp only; omega
      | some k =>
        simp only
        have hln : leakN w h pieces turns c (s + 1) = leakN w h pieces turns c s := by
          rw [leakN, if_neg (by rw [hk]; simp)]; omega
        have hkn : k < n := by have := link_lt hw hk; omega
        by_cases hwk : q1.getD k false = true
        · rw [if_pos hwk]
          refine ⟨new, ⟨i.que, i.len, i.mem, i.nd, i.dry, i.lt, i.sound, fun j k' hj ho' hk' => ?_, by rw [hln]; exact i.leak, i.cnt⟩⟩
          by_cases e : j = s
          · subst e; rw [hk] at hk'; cases hk'; exact hwk
          · exact i.shut j k' (by omega) ho' hk'
        · rw [if_neg hwk]
          have hlen := i.len
          simp only at hlen
          have hm := i.mem
          simp only at hm
          have hf : q1.getD k false = false := by simpa using hwk
          have hnk : k ∉ new := fun hm' => hwk ((hm k).2 (.inr hm'))
          refine ⟨new ++ [k], ⟨?_, by simpa using hlen, fun x => ?_, ?_, ?_, ?_, ?_, fun j k' hj ho' hk' => ?_, by rw [hln]; exact i.leak, ?_⟩⟩
          · have := i.que
            simp only at this
            simp [this]
          · simp only
            constructor
            · intro hx
              rcases set_true_inv _ _ _ hx with h1 | rfl
              · rcases (hm x).1 h1 with h2 | h2
                · exact .inl h2
                · exact .inr (by simp [h2])
              · exact .inr (by simp)
            · rintro (h1 | h1)
              · exact set_true_mono _ _ _ ((hm x).2 (.inl h1))
              · rcases List.mem_append.1 h1 with h2 | h2
                · exact set_true_mono _ _ _ ((hm x).2 (.inr h2))
                · simp at h2; subst h2
                  simp [hlen, hkn]
          · rw [List.nodup_append]
            refine ⟨i.nd, by simp, fun a ha b hb => ?_⟩
            simp at hb; subst hb
            rintro rfl; exact hnk ha
          · intro x hx
            rcases List.mem_append.1 hx with h2 | h2
            · exact i.dry x h2
            · simp at h2; subst h2
              cases h3 : wet.getD x false with
              | false => rfl
              | true => exact absurd ((hm x).2 (.inl h3)) hwk
          · intro x hx
            rcases List.mem_append.1 hx with h2 | h2
            · exact i.lt x h2
            · simp at h2; subst h2; exact hkn
          · intro x hx
            rcases List.mem_append.1 hx with h2 | h2
            · exact i.sound x h2
            · simp at h2; subst h2; exact .step hc (by omega) ho hk
          · simp only
            by_cases e : j = s
            · subst e; rw [hk] at hk'; cases hk'
              simp [hlen, hkn]
            · exact set_true_mono _ _ _ (i.shut j k' (by omega) ho' hk')
          · have := i.cnt
            simp only at this ⊢
            rw [cnt_set_true _ _ (by omega) hf, this, List.length_append]
            rfl
    · rw [if_neg ho]
      refine ⟨new, ⟨i.que, i.len, i.mem, i.nd, i.dry, i.lt, i.sound, fun j k hj ho' hk' => ?_, ?_, i.cnt⟩⟩
      · by_cases e : j = s
        · subst e; exact absurd ho' ho
        · exact i.shut j k (by omega) ho' hk'
      · rw [leakN, if_neg (fun e => ho e.1)]; exact i.leak

structure BInv (n b : Nat) (D Q : List Nat) (wet : List Bool) (leaks : Nat) : Prop where
  len : wet.length = n
  mem : ∀ x, wet.getD x false = true ↔ x ∈ D ∨ x ∈ Q
  nd : (D ++ Q).Nodup
  lt : ∀ x, x ∈ D ∨ x ∈ Q → x < n
  base : b ∈ D ∨ b ∈ Q
  sound : ∀ x, x ∈ D ∨ x ∈ Q → Reach w h pieces turns b x
  shut : ∀ d ∈ D, ∀ s k, s < 4 → opC pieces turns d s = true → link w h pieces turns d s = some k → wet.getD k false = true
  leak : leaks = (D.map fun d => leakN w h pieces turns d 4).sum
  cnt : D.length + Q.length = cntT wet
theorem BInv.step (hw : 1 ≤ w) {n b c : Nat} (hn : (n : Int) = w * h) {D Q : List Nat} {wet : List Bool} {leaks : Nat} (i : BInv (w := w) (h := h) (pieces := pieces) (turns := turns) n b D (c :: Q) wet leaks) :
    ∃ new, (bSides w h pieces turns c (wet, c :: Q, leaks) 4).2.1 = c :: (Q ++ new) ∧ BInv (w := w) (h := h) (pieces := pieces) (turns := turns) n b (D ++ [c]) (Q ++ new) (bSides w h pieces turns c (wet, c :: Q, leaks) 4).1 (bSides w h pieces turns c (wet, c :: Q, leaks) 4).2.2 := by
  obtain ⟨new, j⟩ := bSides_inv (w := w) (h := h) (pieces := pieces) (turns := turns) hw hn (Q := c :: Q) (leaks := leaks) i.len (i.sound c (.inr (by simp))) 4 (Nat.le_refl _)
  refine ⟨new, by rw [j.que]; simp, ?_⟩
  have hsub : ∀ x, (x ∈ D ++ [c] ∨ x ∈ Q ++ new) ↔ ((x ∈ D ∨ x ∈ c :: Q) ∨ x ∈ new) := fun x => by
    simp only [List.mem_append, List.mem_cons, List.not_mem_nil, or_false]
    constructor
    · rintro ((h1 | h1) | h1 | h1)
      · exact .inl (.inl h1)
      · exact .inl (.inr (.inl h1))
      · exact .inl (.inr (.inr h1))
      · exact .inr h1
    · rintro ((h1 | h1 | h1) | h1)
      · exact .inl (.inl h1)
      · exact .inl (.inr h1)
      · exact .inr (.inl h1)
      · exact .inr (.inr h1)
  have hmem : ∀ x, (bSides w h pieces turns c (wet, c :: Q, leaks) 4).1.getD x false = true ↔ (x ∈ D ∨ x ∈ c :: Q) ∨ x ∈ new := fun x => by rw [j.mem x, i.mem x]
  refine ⟨j.len, fun x => by rw [hmem, hsub], ?_, fun x hx => ?_, (hsub b).2 (.inl i.base), fun x hx => ?_, fun d hd s k hs ho hk => ?_, ?_, ?_⟩
  · have e : (D ++ [c]) ++ (Q ++ new) = (D ++ c :: Q) ++ new := by simp
    rw [e, List.nodup_append]
    refine ⟨i.nd, j.nd, fun a ha b hb => ?_⟩
    rintro rfl
    have := j.dry a hb
    rw [(i.mem a).2 (List.mem_append.1 ha)] at this
    cases this
  · rcases (hsub x).1 hx with h1 | h1
    · exact i.lt x h1
    · exact j.lt x h1
  · rcases (hsub x).1 hx with h1 | h1
    · exact i.sound x h1
    · exact j.sound x h1
  · rcases List.mem_append.1 hd with h1 | h1
    · have := i.shut d h1 s k hs ho hk
      exact (j.mem k).2 (.inl this)
    · simp at h1; subst h1
      exact j.shut s k hs ho hk
  · rw [j.leak, i.leak]; simp
  · rw [j.cnt, ← i.cnt]; simp; omega
theorem sum_range (f : Nat → Nat) (p : Nat → Bool) : ∀ n, (((List.range n).filter p).map f).sum = sumL (fun c => if p c = true then f c else 0) n
  | 0 => rfl
  | n + 1 => by
    rw [List.range_succ, List.filter_append, List.map_append, List.sum_append_nat, sum_range f p n, sumL]
    congr 1
    by_cases hp : p n = true
    · rw [if_pos hp]; simp [List.filter_cons, hp]
    · rw [if_neg hp]; simp [List.filter_cons, hp]
theorem BInv.done {n b : Nat} {D : List Nat} {wet : List Bool} {leaks : Nat} (i : BInv (w := w) (h := h) (pieces := pieces) (turns := turns) n b D [] wet leaks) : IsRes w h pieces turns n b wet leaks := by
  have hm : ∀ x, wet.getD x false = true ↔ x ∈ D := fun x => by rw [i.mem x]; simp
  refine ⟨i.len, (i.mem b).2 i.base, fun c s k hc hs ho hk => i.shut c ((hm c).1 hc) s k hs ho hk, fun c hc => i.sound c ((i.mem c).1 hc), ?_⟩
  have hnd : D.Nodup := by have := i.nd; simpa using this
  have hp : D.Perm ((List.range n).filter fun c => wet.getD c false) := by
    rw [List.perm_ext_iff_of_nodup hnd (List.nodup_range.filter _)]
    intro x
    rw [List.mem_filter, List.mem_range, hm]
    exact ⟨fun h => ⟨i.lt x (.inl h), h⟩, fun h => h.2⟩
  rw [i.leak, ← sum_range (fun c => leakN w h pieces turns c 4) (fun c => wet.getD c false)]
  exact (hp.map _).sum_nat
theorem BInv.start {n b : Nat} (hb : b < n) : BInv (w := w) (h := h) (pieces := pieces) (turns := turns) n b [] [b] ((List.replicate n false).set b true) 0 := by
  have hrep : ∀ x, (List.replicate n false).getD x false = false := fun x => by
    rw [List.getD_eq_getElem?_getD, List.getElem?_replicate]
    split <;> rfl
  refine ⟨by simp, fun x => ?_, by simp, ?_, .inr (by simp), ?_, (fun d hd => by cases hd), rfl, ?_⟩
  · constructor
    · intro hx
      rcases set_true_inv _ _ _ hx with h1 | rfl
      · rw [hrep] at h1; cases h1
      · simp
    · intro hx
      simp at hx; subst hx; simp [hb]
  · intro x hx; simp at hx; subst hx; exact hb
  · intro x hx; simp at hx; subst hx; exact .base
  · rw [cnt_set_true _ _ (by simpa using hb) (hrep b)]
    have : cntT (List.replicate n false) = 0 := by unfold cntT; rw [List.filter_replicate]; simp
    rw [this]; rfl
end
end Go.Proofs.Try
