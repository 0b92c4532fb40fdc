/- A part of the proof of PuzzlesLightest: contracts of functions, with plain laws that they need. -/
import Derived.Test.YtmdkhbmhgcdpaaaVgX16
set_option linter.all false
set_option linter.unusedVariables false
set_option linter.unusedSimpArgs false
set_option maxHeartbeats 4000000
namespace Go.Proofs.Try
open Go.Vg

/-! the lightest weighing comes first -/
def bef : List Int → List Int → Prop
  | a :: s, b :: t => a < b ∨ (a = b ∧ bef s t)
  | _, _ => False
theorem bef_trans : ∀ {r s t : List Int}, bef r s → bef s t → bef r t
  | [], _, _, h, _ => h.elim
  | _ :: _, [], _, h, _ => h.elim
  | _ :: _, _ :: _, [], _, h => h.elim
  | a :: r, b :: s, c :: t, h, k => by
    rcases h with h | ⟨rfl, h⟩ <;> rcases k with k | ⟨rfl, k⟩
    · exact .inl (by omega)
    · exact .inl h
    · exact .inl k
    · exact .inr ⟨rfl, bef_trans h k⟩
theorem bef_at : ∀ {s t : List Int} {i : Nat}, bef s t → (∀ j, j < i → s.getD j 0 = t.getD j 0) → s.getD i 0 ≠ t.getD i 0 → s.getD i 0 < t.getD i 0
  | [], _, _, h, _, _ => h.elim
  | _ :: _, [], _, h, _, _ => h.elim
  | a :: s, b :: t, 0, h, _, hn => by
    simp only [List.getD_cons_zero] at hn ⊢
    rcases h with h | ⟨rfl, _⟩
    · exact h
    · exact absurd rfl hn
  | a :: s, b :: t, i + 1, h, he, hn => by
    have h0 := he 0 (by omega)
    simp only [List.getD_cons_zero] at h0
    subst h0
    rcases h with h | ⟨_, h⟩
    · omega
    · simp only [List.getD_cons_succ] at hn ⊢
      exact bef_at h (fun j hj => by simpa using he (j + 1) (by omega)) hn
theorem sidesL_sorted : ∀ k, (sidesL k).Pairwise bef
  | 0 => by simp [sidesL]
  | k + 1 => by
    have ih := sidesL_sorted k
    have hm : ∀ c : Int, ((sidesL k).map (c :: ·)).Pairwise bef := fun c => by
      rw [List.pairwise_map]
      exact ih.imp fun h => .inr ⟨rfl, h⟩
    have hx : ∀ c d : Int, c < d → ∀ a ∈ (sidesL k).map (c :: ·), ∀ b ∈ (sidesL k).map (d :: ·), bef a b := by
      intro c d hcd a ha b hb
      simp only [List.mem_map] at ha hb
      obtain ⟨u, _, rfl⟩ := ha
      obtain ⟨v, _, rfl⟩ := hb
      exact .inl hcd
    simp only [sidesL, List.flatMap_cons, List.flatMap_nil, List.append_nil]
    rw [List.pairwise_append, List.pairwise_append]
    refine ⟨hm _, ⟨hm _, hm _, hx 0 1 (by omega)⟩, ?_⟩
    intro a ha b hb
    rcases List.mem_append.1 hb with hb | hb
    · exact hx (-1) 0 (by omega) a ha b hb
    · exact hx (-1) 1 (by omega) a ha b hb
theorem solW_sorted (ws : List Int) (load : Int) : (solW ws load).Pairwise bef := (sidesL_sorted _).filter _

def isLeast (r : List Int) (l : List (List Int)) : Prop := r ∈ l ∧ ∀ t ∈ l, usedN r < usedN t ∨ (usedN r = usedN t ∧ (r = t ∨ bef r t))
theorem light_least : ∀ (l : List (List Int)) (b : List Int), (b :: l).Pairwise bef → isLeast (l.foldl lightF b) (b :: l)
  | [], b, _ => ⟨by simp, fun t ht => by simp at ht; subst ht; exact .inr ⟨rfl, .inl rfl⟩⟩
  | x :: l, b, h => by
    rw [List.pairwise_cons] at h
    obtain ⟨h1, h2⟩ := h
    rw [List.foldl_cons]
    have hx : isLeast (l.foldl lightF x) (x :: l) := light_least l x h2
    by_cases hc : usedN x < usedN b
    · have e : lightF b x = x := by unfold lightF; rw [if_pos hc]
      rw [e]
      refine ⟨List.mem_cons_of_mem _ hx.1, fun t ht => ?_⟩
      rcases List.mem_cons.1 ht with rfl | ht
      · have := hx.2 x (by simp)
        left; omega
      · exact hx.2 t ht
    · have e : lightF b x = b := by unfold lightF; rw [if_neg hc]
      rw [e]
      rw [List.pairwise_cons] at h2
      have hb : isLeast (l.foldl lightF b) (b :: l) := light_least l b (List.pairwise_cons.2 ⟨fun t ht => h1 t (by simp [ht]), h2.2⟩)
      refine ⟨?_, fun t ht => ?_⟩
      · rcases List.mem_cons.1 hb.1 with h | h
        · rw [h]; simp
        · simp [h]
      · rcases List.mem_cons.1 ht with rfl | ht
        · exact hb.2 t (by simp)
        rcases List.mem_cons.1 ht with rfl | ht
        · have hbb := hb.2 b (by simp)
          by_cases hlt : usedN (l.foldl lightF b) < usedN t
          · exact .inl hlt
          · refine .inr ⟨by omega, .inr ?_⟩
            rcases hbb with h | ⟨_, h | h⟩
            · omega
            · rw [h]; exact h1 t (by simp)
            · exact bef_trans h (h1 t (by simp))
        · exact hb.2 t (by simp [ht])
theorem lightest_least {ws : List Int} {load : Int} (h : solW ws load ≠ []) : isLeast (lightest (solW ws load)) (solW ws load) := by
  have hs := solW_sorted ws load
  cases hl : solW ws load with
  | nil => exact absurd hl h
  | cons x l =>
    rw [hl] at hs
    have e2 : lightF x x = x := by unfold lightF; simp
    simp only [lightest, List.foldl_cons, e2]
    exact light_least l x hs

theorem sidesL_mem : ∀ (k : Nat) (t : List Int), t.length = k → (∀ x ∈ t, -1 ≤ x ∧ x ≤ 1) → t ∈ sidesL k
  | 0, t, h, _ => by simp [sidesL]; exact List.length_eq_zero_iff.1 h
  | k + 1, [], h, _ => by simp at h
  | k + 1, c :: t, h, hs => by
    have ih := sidesL_mem k t (by simpa using h) fun x hx => hs x (by simp [hx])
    have hc := hs c (by simp)
    simp only [sidesL, List.mem_flatMap, List.mem_map]
    refine ⟨c, ?_, t, ih, rfl⟩
    obtain rfl | rfl | rfl : c = -1 ∨ c = 0 ∨ c = 1 := by omega
    all_goals simp
theorem solW_iff {ws sides : List Int} {load : Int} (hw : weighedB ws load = true) : sides ∈ solW ws load ↔ tipsV ws sides load = (0, 0) := by
  unfold solW tipsV
  rw [List.mem_filter, hw, Bool.true_and]
  constructor
  · rintro ⟨h1, h2⟩
    have hs : sidesB ws sides = true := by
      simp only [sidesB, side3, sidesL_len _ _ h1, decide_true, Bool.true_and, List.all_eq_true, Bool.and_eq_true, decide_eq_true_eq]
      exact sidesL_side _ _ h1
    rw [if_pos hs]
    unfold tip0 at h2
    rw [of_decide_eq_true h2]
  · intro h
    by_cases hs : sidesB ws sides = true
    · rw [if_pos hs] at h
      obtain ⟨s1, s2⟩ := side_ok hs
      refine ⟨sidesL_mem _ _ s2 s1, ?_⟩
      unfold tip0
      rw [decide_eq_true]
      exact (Prod.mk.inj h).1
    · rw [if_neg hs] at h
      have := (Prod.mk.inj h).2
      omega
theorem dotN_zero (ws : List Int) (n : Nat) : ∀ j, dotN ws (List.replicate n 0) j = 0
  | 0 => rfl
  | j + 1 => by
    have : (List.replicate n (0 : Int)).getD j 0 = 0 := by
      rw [List.getD_eq_getElem?_getD, List.getElem?_replicate]
      split <;> rfl
    rw [dotN, dotN_zero ws n j, this]; simp
theorem usedN_zero (n : Nat) : usedN (List.replicate n 0) = 0 := by
  unfold usedN
  rw [List.filter_replicate]
  simp
theorem lightest_zero {ws : List Int} (hw : weighedB ws 0 = true) : usedN (lightest (solW ws 0)) = 0 := by
  have hm : List.replicate ws.length 0 ∈ solW ws 0 := by
    unfold solW
    rw [List.mem_filter]
    refine ⟨sidesL_mem _ _ (by simp) (fun x hx => by rw [List.eq_of_mem_replicate hx]; omega), ?_⟩
    unfold tip0
    rw [dotN_zero]; rfl
  have := (lightest_least (List.ne_nil_of_mem hm)).2 _ hm
  rw [usedN_zero] at this
  have h0 : 0 ≤ usedN (lightest (solW ws 0)) := by unfold usedN; omega
  omega
end Go.Proofs.Try
