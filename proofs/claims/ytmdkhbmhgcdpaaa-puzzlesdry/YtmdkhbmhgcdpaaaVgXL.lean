/- A part of the proof of PuzzlesDry: contracts of functions, with plain laws that they need. -/
import Derived.Test.YtmdkhbmhgcdpaaaVgX10
set_option linter.all false
set_option linter.unusedVariables false
set_option linter.unusedSimpArgs false
set_option maxHeartbeats 4000000
namespace Go.Proofs.Try
open Go.Vg

theorem getR {n k : Nat} {e : Ent} (l : Mem) : (List.replicate n e ++ l)[n + k]? = l[k]? := by
  rw [List.getElem?_append_right (by simp)]; simp
theorem getR0 {n : Nat} {e : Ent} (l : Mem) : (List.replicate n e ++ l)[n]? = l[0]? := getR (k := 0) l
theorem setR {n k : Nat} {e x : Ent} (l : Mem) : (List.replicate n e ++ l).set (n + k) x = List.replicate n e ++ l.set k x := by
  rw [List.set_append_right _ _ (by simp)]; simp
theorem setR0 {n : Nat} {e x : Ent} (l : Mem) : (List.replicate n e ++ l).set n x = List.replicate n e ++ l.set 0 x := setR (k := 0) l
theorem snocR {n : Nat} {e : Ent} : List.replicate n e ++ [e] = List.replicate (n + 1) e := by rw [List.replicate_succ']


theorem set_take (sd : List Int) (i : Nat) (c : Int) (h : i < sd.length) : (sd.set i c).take (i + 1) = sd.take i ++ [c] := by
  rw [List.take_succ_eq_append_getElem (by simpa using h), List.take_set_of_le (Nat.le_refl i)]
  simp

theorem foldl_congr_mem {α β : Type} {f g : β → α → β} : ∀ (l : List α) (s : β), (∀ s, ∀ x ∈ l, f s x = g s x) → l.foldl f s = l.foldl g s
  | [], _, _ => rfl
  | x :: l, s, h => by
    rw [List.foldl_cons, List.foldl_cons, h s x (by simp)]
    exact foldl_congr_mem l _ fun s y hy => h s y (by simp [hy])
theorem foldl_if_filter {α β : Type} (f : β → α → β) (p : α → Bool) : ∀ (l : List α) (s : β), l.foldl (fun s x => if p x = true then f s x else s) s = (l.filter p).foldl f s
  | [], _ => rfl
  | x :: l, s => by
    rw [List.foldl_cons, List.filter_cons]
    by_cases h : p x = true
    · rw [if_pos h, if_pos h, List.foldl_cons]; exact foldl_if_filter f p l _
    · rw [if_neg h, if_neg h]; exact foldl_if_filter f p l _
theorem count_fold : ∀ (l : List (List Int)) (s : Int), 0 ≤ s → s + l.length ≤ 1000000 → l.foldl (fun s t => IntKind.i64.wrap (s + 1)) s = s + l.length
  | [], s, _, _ => by simp
  | x :: l, s, h, h2 => by
    simp only [List.length_cons] at h2
    rw [List.foldl_cons, wrap_i64 (by omega) (by omega), count_fold l (s + 1) (by omega) (by omega)]
    simp only [List.length_cons]; omega


def bef : List Int → List Int → Prop
  | a :: s, b :: t => a < b ∨ (a = b ∧ bef s t)
  | _, _ => False
theorem bef_trans : ∀ {r s t : List Int}, bef r s → bef s t → bef r t
  | [], _, _, h, _ => h.elim
  | _ :: _, [], _, h, _ => h.elim
  | _ :: _, _ :: _, [], _, h => h.elim
  | a :: r, b :: s, c :: t, h, k => by
    rcases h with h | ⟨rfl, h⟩ <;> rcases k with k | ⟨rfl, k⟩
    · exact .inl (by omega)
    · exact .inl h
    · exact .inl k
    · exact .inr ⟨rfl, bef_trans h k⟩
theorem bef_at : ∀ {s t : List Int} {i : Nat}, bef s t → (∀ j, j < i → s.getD j 0 = t.getD j 0) → s.getD i 0 ≠ t.getD i 0 → s.getD i 0 < t.getD i 0
  | [], _, _, h, _, _ => h.elim
  | _ :: _, [], _, h, _, _ => h.elim
  | a :: s, b :: t, 0, h, _, hn => by
    simp only [List.getD_cons_zero] at hn ⊢
    rcases h with h | ⟨rfl, _⟩
    · exact h
    · exact absurd rfl hn
  | a :: s, b :: t, i + 1, h, he, hn => by
    have h0 := he 0 (by omega)
    simp only [List.getD_cons_zero] at h0
    subst h0
    rcases h with h | ⟨_, h⟩
    · omega
    · simp only [List.getD_cons_succ] at hn ⊢
      exact bef_at h (fun j hj => by simpa using he (j + 1) (by omega)) hn

end Go.Proofs.Try
