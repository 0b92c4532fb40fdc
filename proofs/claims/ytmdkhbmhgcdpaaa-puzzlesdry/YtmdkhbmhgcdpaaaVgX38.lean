/- A part of the proof of PuzzlesDry: contracts of functions, with plain laws that they need. -/
import Derived.Test.YtmdkhbmhgcdpaaaVgX37
set_option linter.all false
set_option linter.unusedVariables false
set_option linter.unusedSimpArgs false
set_option maxHeartbeats 8000000
namespace Go.Proofs.Try
open Go.Vg

theorem turnsL_sorted : ∀ k, (turnsL k).Pairwise bef
  | 0 => by simp [turnsL]
  | k + 1 => by
    have ih := turnsL_sorted k
    have hm : ∀ c : Int, ((turnsL k).map (c :: ·)).Pairwise bef := fun c => by
      rw [List.pairwise_map]
      exact ih.imp fun h => .inr ⟨rfl, h⟩
    have hx : ∀ c d : Int, c < d → ∀ a ∈ (turnsL k).map (c :: ·), ∀ b ∈ (turnsL k).map (d :: ·), bef a b := by
      intro c d hcd a ha b hb
      simp only [List.mem_map] at ha hb
      obtain ⟨u, _, rfl⟩ := ha
      obtain ⟨v, _, rfl⟩ := hb
      exact .inl hcd
    simp only [turnsL, four, List.range_succ, List.range_zero, List.nil_append, List.cons_append, List.map_cons, List.map_nil, List.flatMap_cons, List.flatMap_nil, List.append_nil]
    rw [List.pairwise_append, List.pairwise_append, List.pairwise_append]
    refine ⟨hm _, ⟨hm _, ⟨hm _, hm _, hx _ _ (by simp)⟩, ?_⟩, ?_⟩
    · intro a ha b hb
      rcases List.mem_append.1 hb with hb | hb
      · exact hx _ _ (by simp) a ha b hb
      · exact hx _ _ (by simp) a ha b hb
    · intro a ha b hb
      rcases List.mem_append.1 hb with hb | hb
      · exact hx _ _ (by simp) a ha b hb
      rcases List.mem_append.1 hb with hb | hb
      · exact hx _ _ (by simp) a ha b hb
      · exact hx _ _ (by simp) a ha b hb
theorem solP_sorted (w h fr to : Int) (pieces : List Int) : (solP w h fr to pieces).Pairwise bef := (turnsL_sorted _).filter _
theorem turnsL_mem : ∀ (k : Nat) (t : List Int), t.length = k → (∀ x ∈ t, 0 ≤ x ∧ x ≤ 3) → t ∈ turnsL k
  | 0, t, h, _ => by simp [turnsL]; exact List.length_eq_zero_iff.1 h
  | k + 1, [], h, _ => by simp at h
  | k + 1, c :: t, h, hs => by
    have ih := turnsL_mem k t (by simpa using h) fun x hx => hs x (by simp [hx])
    have hc := hs c (by simp)
    simp only [turnsL, List.mem_flatMap, List.mem_map]
    refine ⟨c, ?_, t, ih, rfl⟩
    obtain rfl | rfl | rfl | rfl : c = 0 ∨ c = 1 ∨ c = 2 ∨ c = 3 := by omega
    all_goals simp [four, List.range_succ]

def leastF (m : List Int → Int) (b t : List Int) : List Int := if m t < m b then t else b
def isLeastM (m : List Int → Int) (r : List Int) (l : List (List Int)) : Prop := r ∈ l ∧ ∀ t ∈ l, m r < m t ∨ (m r = m t ∧ (r = t ∨ bef r t))
theorem leastM_least (m : List Int → Int) : ∀ (l : List (List Int)) (b : List Int), (b :: l).Pairwise bef → isLeastM m (l.foldl (leastF m) b) (b :: l)
  | [], b, _ => ⟨by simp, fun t ht => by simp at ht; subst ht; exact .inr ⟨rfl, .inl rfl⟩⟩
  | x :: l, b, h => by
    rw [List.pairwise_cons] at h
    obtain ⟨h1, h2⟩ := h
    rw [List.foldl_cons]
    have hx : isLeastM m (l.foldl (leastF m) x) (x :: l) := leastM_least m l x h2
    by_cases hc : m x < m b
    · have e : leastF m b x = x := by unfold leastF; rw [if_pos hc]
      rw [e]
      refine ⟨List.mem_cons_of_mem _ hx.1, fun t ht => ?_⟩
      rcases List.mem_cons.1 ht with rfl | ht
      · have := hx.2 x (by simp)
        left; omega
      · exact hx.2 t ht
    · have e : leastF m b x = b := by unfold leastF; rw [if_neg hc]
      rw [e]
      rw [List.pairwise_cons] at h2
      have hb : isLeastM m (l.foldl (leastF m) b) (b :: l) := leastM_least m l b (List.pairwise_cons.2 ⟨fun t ht => h1 t (by simp [ht]), h2.2⟩)
      refine ⟨?_, fun t ht => ?_⟩
      · rcases List.mem_cons.1 hb.1 with h | h
        · rw [h]; simp
        · simp [h]
      · rcases List.mem_cons.1 ht with rfl | ht
        · exact hb.2 t (by simp)
        rcases List.mem_cons.1 ht with rfl | ht
        · have hbb := hb.2 b (by simp)
          by_cases hlt : m (l.foldl (leastF m) b) < m t
          · exact .inl hlt
          · refine .inr ⟨by omega, .inr ?_⟩
            rcases hbb with h | ⟨_, h | h⟩
            · omega
            · rw [h]; exact h1 t (by simp)
            · exact bef_trans h (h1 t (by simp))
        · exact hb.2 t (by simp [ht])
theorem goWm_fold (m : List Int → Int) : ∀ (l : List (List Int)) (b : List Int), (∀ t ∈ b :: l, 0 ≤ m t) → l.foldl (fun s t => goW s t (m t)) (some b, m b) = (some (l.foldl (leastF m) b), m (l.foldl (leastF m) b))
  | [], _, _ => rfl
  | t :: l, b, h => by
    have h0 := h b (by simp)
    have h1 := h t (by simp)
    rw [List.foldl_cons, List.foldl_cons]
    have e : goW (some b, m b) t (m t) = (some (leastF m b t), m (leastF m b t)) := by
      unfold goW leastF
      simp only [show ¬ m b < 0 by omega, false_or]
      split <;> rfl
    rw [e]
    refine goWm_fold m l _ fun u hu => ?_
    rcases List.mem_cons.1 hu with rfl | hu
    · unfold leastF; split <;> omega
    · exact h u (by simp [hu])
def driest (w h fr to : Int) (pieces : List Int) : List Int := match solP w h fr to pieces with
  | [] => []
  | x :: l => l.foldl (leastF tsum) x
theorem tsum_sol {w h fr to : Int} {pieces t : List Int} (ht : t ∈ solP w h fr to pieces) : 0 ≤ tsum t := (tsum_bd 3 (by omega) _ (turnsL_side _ t (List.mem_filter.1 ht).1)).1
theorem bestP_sol (w h fr to : Int) (pieces : List Int) : bestP w h fr to pieces = if solP w h fr to pieces = [] then (none, -1) else (some (driest w h fr to pieces), tsum (driest w h fr to pieces)) := by
  unfold bestP driest
  rw [plm_sol]
  cases hs : solP w h fr to pieces with
  | nil => rfl
  | cons x l =>
    rw [if_neg (by simp)]
    simp only [List.foldl_cons]
    have e : goW (none, -1) x (tsum x) = (some x, tsum x) := by unfold goW; simp
    rw [e, goWm_fold tsum l x fun t ht => tsum_sol (by rw [hs]; exact ht)]
theorem driest_least {w h fr to : Int} {pieces : List Int} (hn : solP w h fr to pieces ≠ []) : isLeastM tsum (driest w h fr to pieces) (solP w h fr to pieces) := by
  have hs := solP_sorted w h fr to pieces
  unfold driest
  cases hl : solP w h fr to pieces with
  | nil => exact absurd hl hn
  | cons x l =>
    rw [hl] at hs
    exact leastM_least tsum l x hs
theorem solP_iff {w h fr to : Int} {pieces turns : List Int} (hp : pipesB w h pieces fr to = true) : turns ∈ solP w h fr to pieces ↔ solvesB w h fr to pieces turns = true := by
  unfold solP solvesB
  rw [List.mem_filter, hp, Bool.true_and, Bool.and_eq_true]
  constructor
  · rintro ⟨h1, h2⟩
    refine ⟨?_, h2⟩
    simp only [turnsB, in09, turnsL_len _ _ h1, decide_true, Bool.true_and, List.all_eq_true, Bool.and_eq_true, decide_eq_true_eq]
    exact turnsL_side _ _ h1
  · rintro ⟨h1, h2⟩
    have h3 := turnsB_ok h1
    exact ⟨turnsL_mem _ _ h3.len h3.tn, h2⟩
theorem solP_length {w h fr to : Int} {pieces t : List Int} (ht : t ∈ solP w h fr to pieces) : t.length = pieces.length := turnsL_len _ t (List.mem_filter.1 ht).1
end Go.Proofs.Try
