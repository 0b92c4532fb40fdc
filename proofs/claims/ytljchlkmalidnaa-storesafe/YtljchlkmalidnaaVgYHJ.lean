/- A part of the proof of StoreSafe: contracts of functions, with plain laws that they need. -/
import Derived.Test.YtljchlkmalidnaaVgWd
import Derived.Test.YtljchlkmalidnaaVgFz
import Derived.Test.YtljchlkmalidnaaVgAp
import Derived.Test.YtljchlkmalidnaaVgCn
import Derived.Test.YtljchlkmalidnaaVgNl
import Derived.Test.YtljchlkmalidnaaVgY1J
set_option linter.all false
set_option maxHeartbeats 8000000
namespace Go.Proofs.Try

/-! the items of one kind -/
def sW (u : Nat → Int) (I : List Int) (x : Int) : Nat → Int
  | 0 => 0
  | i + 1 => if I.getD i 0 = x then sW u I x i + u i else sW u I x i
def lnI (I : List Int) (x : Int) (n : Nat) : List Nat := (List.range n).filter fun i => decide (I.getD i 0 = x)
theorem lnI_succ (I : List Int) (x : Int) (n : Nat) : lnI I x (n + 1) = if I.getD n 0 = x then lnI I x n ++ [n] else lnI I x n := by
  unfold lnI; rw [List.range_succ, List.filter_append]
  by_cases h : I.getD n 0 = x
  · rw [if_pos h, List.filter_cons, if_pos (decide_eq_true h)]; rfl
  · rw [if_neg h, List.filter_cons, if_neg (by rw [decide_eq_false h]; simp)]; simp
theorem getD_left {I J : List Int} {i : Nat} (h : i < I.length) : (I ++ J).getD i 0 = I.getD i 0 := by
  simp only [List.getD_eq_getElem?_getD]; rw [List.getElem?_append_left h]
theorem getD_last (I : List Int) (x : Int) : (I ++ [x]).getD I.length 0 = x := by simp
theorem sW_left (u : Nat → Int) (I J : List Int) (x : Int) : ∀ {n : Nat}, n ≤ I.length → sW u (I ++ J) x n = sW u I x n
  | 0, _ => rfl
  | n + 1, h => by simp only [sW]; rw [getD_left (by omega), sW_left u I J x (by omega)]
theorem lnI_left (I J : List Int) (x : Int) : ∀ {n : Nat}, n ≤ I.length → lnI (I ++ J) x n = lnI I x n
  | 0, _ => rfl
  | n + 1, h => by rw [lnI_succ, lnI_succ, getD_left (by omega), lnI_left I J x (by omega)]
theorem sW_bd {u : Nat → Int} (hu : ∀ i, 0 ≤ u i ∧ u i ≤ 100) (I : List Int) (x : Int) : ∀ n : Nat, 0 ≤ sW u I x n ∧ sW u I x n ≤ 100 * (n : Int)
  | 0 => by simp [sW]
  | n + 1 => by
    have ih := sW_bd hu I x n
    have := hu n
    simp only [sW]; split <;> omega
/-- the last loan is lent rightly -/
def okU (u : Nat → Int) (o : Nat → Nat → Bool) (life : Int) (I : List Int) : Bool :=
  decide (sW u I (I.getD (I.length - 1) 0) (I.length - 1) + u (I.length - 1) ≤ life) && !(lnI I (I.getD (I.length - 1) 0) (I.length - 1)).any fun i => o i (I.length - 1)
theorem okU_snoc (u : Nat → Int) (o : Nat → Nat → Bool) (life : Int) (I : List Int) (x : Int) : okU u o life (I ++ [x]) = (decide (sW u I x I.length + u I.length ≤ life) && !(lnI I x I.length).any fun i => o i I.length) := by
  unfold okU
  rw [show (I ++ [x]).length - 1 = I.length by simp, getD_last, sW_left u I [x] x (Nat.le_refl _), lnI_left I [x] x (Nat.le_refl _)]
theorem okU_map (u : Nat → Int) (o : Nat → Nat → Bool) (life : Int) (σ : Int → Int) (hσ : ∀ x y, σ x = σ y → x = y) (I : List Int) : okU u o life (I.map σ) = okU u o life I := by
  rcases List.eq_nil_or_concat I with h | ⟨J, x, h⟩
  · subst h; rfl
  · subst h
    rw [List.concat_eq_append, List.map_append, List.map_cons, List.map_nil, okU_snoc, okU_snoc, List.length_map]
    have hg : ∀ i, i < J.length → ((J.map σ).getD i 0 = σ x ↔ J.getD i 0 = x) := fun i hi => by
      have : (J.map σ).getD i 0 = σ (J.getD i 0) := by simp [List.getD_eq_getElem?_getD, hi]
      rw [this]; exact ⟨fun h => hσ _ _ h, fun h => by rw [h]⟩
    have h1 : ∀ n, n ≤ J.length → sW u (J.map σ) (σ x) n = sW u J x n := by
      intro n
      induction n with
      | zero => intro _; rfl
      | succ n ih =>
        intro hn
        simp only [sW]
        rw [ih (by omega)]
        by_cases h : J.getD n 0 = x
        · rw [if_pos h, if_pos ((hg n (by omega)).2 h)]
        · rw [if_neg h, if_neg (fun h2 => h ((hg n (by omega)).1 h2))]
    have h2 : ∀ n, n ≤ J.length → lnI (J.map σ) (σ x) n = lnI J x n := by
      intro n
      induction n with
      | zero => intro _; rfl
      | succ n ih =>
        intro hn
        rw [lnI_succ, lnI_succ, ih (by omega)]
        by_cases h : J.getD n 0 = x
        · rw [if_pos h, if_pos ((hg n (by omega)).2 h)]
        · rw [if_neg h, if_neg (fun h2 => h ((hg n (by omega)).1 h2))]
    rw [h1 _ (Nat.le_refl _), h2 _ (Nat.le_refl _)]
/-- no item is used more than it may be -/
theorem right_uses {u : Nat → Int} {o : Nat → Nat → Bool} {life : Int} (h0 : 0 ≤ life) {n : Nat} {J : List Int} (h : RtF (fun _ => n) (okU u o life) 0 J) : ∀ k, k ≤ J.length → ∀ x, sW u J x k ≤ life
  | 0, _, x => h0
  | k + 1, hk, x => by
    have ih := right_uses h0 h k (by omega)
    obtain ⟨j, h1, h2, h3⟩ := h k (by omega) (by omega)
    have e := take_succ_getD (J := J) (n := k) (by omega)
    rw [e, okU_snoc] at h3
    rw [List.length_take, Nat.min_eq_left (by omega)] at h3
    simp only [Bool.and_eq_true, decide_eq_true_eq] at h3
    simp only [sW]
    split
    · rename_i hx
      rw [← hx]
      have h4 := h3.1
      have h5 : sW u (J.take k) (J.getD k 0) k = sW u J (J.getD k 0) k := by
        have := sW_left u (J.take k) (J.drop k) (J.getD k 0) (n := k) (by rw [List.length_take]; omega)
        rw [List.take_append_drop] at this; exact this.symm
      rw [h5] at h4; exact h4
    · exact ih x
def sumN (u : Nat → Int) : Nat → Int
  | 0 => 0
  | k + 1 => sumN u k + u k
theorem sum_add (f g : Nat → Int) : ∀ n, sumN (fun x => f x + g x) n = sumN f n + sumN g n
  | 0 => rfl
  | n + 1 => by simp only [sumN, sum_add f g n]; omega
theorem sum_one (v : Int) (j : Nat) : ∀ n, sumN (fun x => if x = j then v else 0) n = if j < n then v else 0
  | 0 => rfl
  | n + 1 => by
    simp only [sumN, sum_one v j n]
    by_cases h : n = j
    · subst h; simp
    · by_cases h2 : j < n
      · rw [if_pos h2, if_neg h, if_pos (by omega)]; omega
      · rw [if_neg h2, if_neg h, if_neg (by omega)]; rfl
theorem sum_le {f : Nat → Int} {v : Int} (h : ∀ x, f x ≤ v) : ∀ n : Nat, sumN f n ≤ (n : Int) * v
  | 0 => by simp [sumN]
  | n + 1 => by
    have := sum_le h n
    have := h n
    simp only [sumN]
    rw [Int.natCast_succ, Int.add_mul, Int.one_mul]; omega
theorem sum_split {u : Nat → Int} {n : Nat} {J : List Int} (h : ∀ k, k < J.length → ∃ j : Nat, j < n ∧ J.getD k 0 = (j : Int)) : ∀ k, k ≤ J.length → sumN (fun x => sW u J (x : Int) k) n = sumN u k
  | 0, _ => by
    simp only [sW]
    have : ∀ n, sumN (fun _ => (0 : Int)) n = 0 := by
      intro n; induction n with
      | zero => rfl
      | succ n ih => simp only [sumN, ih]; rfl
    rw [this]; rfl
  | k + 1, hk => by
    have ih := sum_split (u := u) h k (by omega)
    obtain ⟨j, h1, h2⟩ := h k (by omega)
    have e : (fun x : Nat => sW u J (x : Int) (k + 1)) = fun x : Nat => sW u J (x : Int) k + (if x = j then u k else 0) := by
      funext x
      simp only [sW, h2]
      by_cases hx : x = j
      · subst hx; simp
      · rw [if_neg (by omega), if_neg hx]; omega
    rw [e, sum_add, ih, sum_one, if_pos h1]; rfl
theorem right_sum {u : Nat → Int} {o : Nat → Nat → Bool} {life : Int} (h0 : 0 ≤ life) {n : Nat} {J : List Int} (h : RtF (fun _ => n) (okU u o life) 0 J) : sumN u J.length ≤ (n : Int) * life := by
  rw [← sum_split (u := u) (n := n) (fun k hk => by obtain ⟨j, h1, h2, _⟩ := h k (by omega) hk; exact ⟨j, h1, h2⟩) J.length (Nat.le_refl _)]
  exact sum_le (fun x => right_uses h0 h J.length (Nat.le_refl _) x) n
/-- loans at the same time have different items -/
theorem right_apart {u : Nat → Int} {o : Nat → Nat → Bool} {life : Int} {n : Nat} {J : List Int} (h : RtF (fun _ => n) (okU u o life) 0 J) {i k : Nat} (hik : i < k) (hk : k < J.length) (ho : o i k = true) : J.getD i 0 ≠ J.getD k 0 := by
  intro he
  obtain ⟨j, h1, h2, h3⟩ := h k (by omega) hk
  rw [take_succ_getD hk, okU_snoc] at h3
  rw [List.length_take, Nat.min_eq_left (by omega)] at h3
  simp only [Bool.and_eq_true, Bool.not_eq_true', List.any_eq_false] at h3
  have h4 : lnI (J.take k) (J.getD k 0) k = lnI J (J.getD k 0) k := by
    have := lnI_left (J.take k) (J.drop k) (J.getD k 0) (n := k) (by rw [List.length_take]; omega)
    rw [List.take_append_drop] at this; exact this.symm
  have h5 := h3.2 i (by rw [h4]; unfold lnI; rw [List.mem_filter, List.mem_range]; exact ⟨hik, decide_eq_true he⟩)
  exact h5 ho
def cntN (p : Nat → Bool) : Nat → Nat
  | 0 => 0
  | k + 1 => if p k = true then cntN p k + 1 else cntN p k
theorem pig : ∀ (M : Nat) (l : List Nat), l.Nodup → (∀ x ∈ l, x < M) → l.length ≤ M
  | 0, l, _, h => by
    cases l with
    | nil => simp
    | cons a l => have := h a (by simp); omega
  | M + 1, l, hn, h => by
    have h1 := pig M (l.filter fun x => decide (x ≠ M)) (hn.filter _) (fun x hx => by
      rw [List.mem_filter] at hx
      have := h x hx.1
      have := of_decide_eq_true hx.2
      omega)
    have h2 : l.length ≤ (l.filter fun x => decide (x ≠ M)).length + 1 := by
      clear h1 h
      induction l with
      | nil => simp
      | cons a l ih =>
        rw [List.nodup_cons] at hn
        by_cases ha : a = M
        · subst ha
          rw [List.filter_cons, if_neg (by simp)]
          have : (l.filter fun x => decide (x ≠ a)) = l := by
            rw [List.filter_eq_self]
            intro x hx
            exact decide_eq_true (fun e => hn.1 (by rw [← e]; exact hx))
          rw [this]; simp
        · rw [List.filter_cons, if_pos (decide_eq_true ha)]
          have := ih hn.2
          simp only [List.length_cons]; omega
    omega
theorem cnt_filter (p : Nat → Bool) : ∀ k, cntN p k = ((List.range k).filter p).length
  | 0 => rfl
  | k + 1 => by
    rw [List.range_succ, List.filter_append, List.length_append, ← cnt_filter p k]
    simp only [cntN]
    by_cases h : p k = true
    · rw [if_pos h, List.filter_cons, if_pos h]; rfl
    · rw [if_neg h, List.filter_cons, if_neg h]; rfl
theorem right_peak {u : Nat → Int} {o : Nat → Nat → Bool} {life : Int} {n : Nat} {J : List Int} (h : RtF (fun _ => n) (okU u o life) 0 J) {p : Nat → Bool} (hp : ∀ i k, i < k → p i = true → p k = true → o i k = true) : cntN p J.length ≤ n := by
  rw [cnt_filter]
  have h1 := pig n (((List.range J.length).filter p).map fun i => (J.getD i 0).toNat) ?_ ?_
  · simpa using h1
  · have hs : ((List.range J.length).filter p).Pairwise (· < ·) := List.Pairwise.filter _ List.pairwise_lt_range
    have hm : ∀ i ∈ (List.range J.length).filter p, i < J.length ∧ p i = true := fun i hi => by
      rw [List.mem_filter, List.mem_range] at hi; exact hi
    unfold List.Nodup
    rw [List.pairwise_map]
    refine List.Pairwise.imp_of_mem ?_ hs
    intro a b ha hb hab he
    have ha := hm a ha
    have hb := hm b hb
    have := right_apart h hab hb.1 (hp a b hab ha.2 hb.2)
    obtain ⟨j1, _, e1, _⟩ := h a (by omega) ha.1
    obtain ⟨j2, _, e2, _⟩ := h b (by omega) hb.1
    rw [e1, e2] at this
    rw [e1, e2] at he
    simp only [Int.toNat_natCast] at he
    exact this (by rw [he])
  · intro x hx
    rw [List.mem_map] at hx
    obtain ⟨i, hi, rfl⟩ := hx
    rw [List.mem_filter, List.mem_range] at hi
    obtain ⟨j1, h2, e1, _⟩ := h i (by omega) hi.1
    rw [e1]; simpa using h2
end Go.Proofs.Try
set_option maxHeartbeats 8000000
namespace Go.Proofs.Try
open Go.Vg

/-! a bench as the items of its first loans tell it -/
def uL (ls : List Ln) (L : List Int) (i : Nat) : Int := (ls.getD (L.getD i 0).toNat ln0).uses
def oL (ls : List Ln) (L : List Int) (i k : Nat) : Bool := ovB (ls.getD (L.getD i 0).toNat ln0) (ls.getD (L.getD k 0).toNat ln0)
def okK (ls : List Ln) (life : Int) (L : List Int) : List Int → Bool := okU (uL ls L) (oL ls L) life
def wO (ls : List Ln) (L : List Int) (n : Nat) (I : List Int) : List Int := (List.range n).map fun j : Nat => sW (uL ls L) I (j : Int) I.length
def tO (L : List Int) (n : Nat) (I : List Int) : List (List Int) := (List.range n).map fun j : Nat => (lnI I (j : Int) I.length).map fun i => L.getD i 0
theorem wO_len (ls : List Ln) (L : List Int) (n : Nat) (I : List Int) : (wO ls L n I).length = n := by simp [wO]
theorem tO_len (L : List Int) (n : Nat) (I : List Int) : (tO L n I).length = n := by simp [tO]
theorem wO_get (ls : List Ln) (L : List Int) {n j : Nat} (I : List Int) (h : j < n) : (wO ls L n I).getD j 0 = sW (uL ls L) I (j : Int) I.length := by simp [wO, h]
theorem tO_get (L : List Int) {n j : Nat} (I : List Int) (h : j < n) : (tO L n I).getD j [] = (lnI I (j : Int) I.length).map fun i => L.getD i 0 := by simp [tO, h]
theorem wO_snoc (ls : List Ln) (L : List Int) {n j : Nat} (I : List Int) (h : j < n) : wO ls L n (I ++ [(j : Int)]) = (wO ls L n I).set j ((wO ls L n I).getD j 0 + uL ls L I.length) := by
  apply List.ext_getElem (by simp [wO])
  intro k h1 h2
  have hk : k < n := by simpa [wO] using h1
  rw [List.getElem_set]
  have e : (wO ls L n (I ++ [(j : Int)]))[k] = if (j : Int) = (k : Int) then sW (uL ls L) I (k : Int) I.length + uL ls L I.length else sW (uL ls L) I (k : Int) I.length := by
    simp only [wO, List.getElem_map, List.getElem_range, List.length_append, List.length_cons, List.length_nil, Nat.zero_add, sW]
    rw [getD_last, sW_left _ _ _ _ (Nat.le_refl _)]
  rw [e]
  by_cases hkj : j = k
  · subst hkj; rw [if_pos rfl, if_pos rfl, wO_get ls L I h]
  · rw [if_neg (by omega), if_neg hkj]; simp [wO]
theorem tO_snoc (L : List Int) {n j : Nat} (I : List Int) (h : j < n) : tO L n (I ++ [(j : Int)]) = (tO L n I).set j ((tO L n I).getD j [] ++ [L.getD I.length 0]) := by
  apply List.ext_getElem (by simp [tO])
  intro k h1 h2
  have hk : k < n := by simpa [tO] using h1
  rw [List.getElem_set]
  have e : (tO L n (I ++ [(j : Int)]))[k] = (if (j : Int) = (k : Int) then lnI I (k : Int) I.length ++ [I.length] else lnI I (k : Int) I.length).map fun i => L.getD i 0 := by
    simp only [tO, List.getElem_map, List.getElem_range, List.length_append, List.length_cons, List.length_nil, Nat.zero_add]
    rw [lnI_succ, getD_last, lnI_left _ _ _ (Nat.le_refl _)]
  rw [e]
  by_cases hkj : j = k
  · subst hkj; rw [if_pos rfl, if_pos rfl, tO_get L I h]; simp
  · rw [if_neg (by omega), if_neg hkj]; simp [tO]
theorem fit_ok (ls : List Ln) (life : Int) (L : List Int) {n j : Nat} (I : List Int) (h : j < n) : fitB ls life (wO ls L n I) (tO L n I) (L.getD I.length 0).toNat j = okK ls life L (I ++ [(j : Int)]) := by
  unfold fitB okK
  rw [okU_snoc, wO_get ls L I h, tO_get L I h, List.any_map]
  rfl
theorem wO_nil (ls : List Ln) (L : List Int) (n : Nat) : wO ls L n [] = List.replicate n 0 := by
  apply List.ext_getElem (by simp [wO])
  intro k h1 h2
  simp [wO, sW]
theorem tO_nil (L : List Int) (n : Nat) : (T0 n).map (·.2) = tO L n [] := by
  apply List.ext_getElem (by simp [tO, T0])
  intro k h1 h2
  simp [tO, T0, lnI]
theorem wO_back (ls : List Ln) (L : List Int) {n j : Nat} (I : List Int) (h : j < n) : (wO ls L n (I ++ [(j : Int)])).set j ((wO ls L n (I ++ [(j : Int)])).getD j 0 - uL ls L I.length) = wO ls L n I := by
  rw [wO_snoc ls L I h]
  have hl := wO_len ls L n I
  generalize wO ls L n I = W at hl
  subst hl
  apply List.ext_getElem (by simp)
  intro k h1 h2
  rw [List.getElem_set]
  by_cases hkj : j = k
  · subst hkj; simp [h]
  · rw [if_neg hkj, List.getElem_set, if_neg hkj]
theorem tO_back (L : List Int) {n j : Nat} (I : List Int) (h : j < n) : (tO L n (I ++ [(j : Int)])).set j ((tO L n (I ++ [(j : Int)])).getD j []).dropLast = tO L n I := by
  rw [tO_snoc L I h]
  have hl := tO_len L n I
  generalize tO L n I = W at hl
  subst hl
  apply List.ext_getElem (by simp)
  intro k h1 h2
  rw [List.getElem_set]
  by_cases hkj : j = k
  · subst hkj; simp [h]
  · rw [if_neg hkj, List.getElem_set, if_neg hkj]
/-- the items that are lent come first -/
def CanI (I : List Int) : Prop := ∀ a b : Nat, a < b → (b : Int) ∈ I → (a : Int) ∈ I
theorem can_snoc {I : List Int} (h : CanI I) {j : Nat} (hj : ∀ a : Nat, a < j → (a : Int) ∈ I) : CanI (I ++ [(j : Int)]) := by
  intro a b hab hb
  rw [List.mem_append, List.mem_singleton] at hb
  rw [List.mem_append]
  left
  rcases hb with hb | hb
  · exact h a b hab hb
  · exact hj a (by omega)
theorem lent_mem {L : List Int} {n j : Nat} {I : List Int} (h : j < n) : ((tO L n I).getD j []).length = 0 ↔ (j : Int) ∉ I := by
  rw [tO_get L I h, List.length_map, List.length_eq_zero_iff]
  unfold lnI
  rw [List.filter_eq_nil_iff]
  constructor
  · intro hx hm
    obtain ⟨i, hi, he⟩ := List.mem_iff_getElem.1 hm
    exact hx i (List.mem_range.2 hi) (decide_eq_true (by simp [hi, he]))
  · intro hx i hi he
    rw [List.mem_range] at hi
    apply hx
    rw [← of_decide_eq_true he]
    simp [hi]
end Go.Proofs.Try
set_option maxHeartbeats 8000000
namespace Go.Proofs.Try
open Go.Vg

/-! the search for the first items -/
def fsF (ls : List Ln) (life : Int) (L : List Int) (n r : Nat) (I : List Int) (j : Nat) : Option (List Int) := if okK ls life L (I ++ [(j : Int)]) = true then srch (fun _ => n) (okK ls life L) r (I ++ [(j : Int)]) else none
theorem srch_fs (ls : List Ln) (life : Int) (L : List Int) (n r : Nat) (I : List Int) : srch (fun _ => n) (okK ls life L) (r + 1) I = tryF (fsF ls life L n r I) n 0 := rfl
theorem tryF_at {f : Nat → Option (List Int)} {x : List Int} {d j : Nat} (hj : j < d) (h : f j = some x) (hb : ∀ i, i < j → f i = none) : tryF f d 0 = some x := by
  cases hs : tryF f d 0 with
  | none => have := tryF_none.1 hs j (by omega) (by omega); rw [this] at h; cases h
  | some y =>
    obtain ⟨i, h1, h2, h3, h4⟩ := tryF_some hs
    rcases Nat.lt_trichotomy i j with h5 | h5 | h5
    · rw [hb i h5] at h3; cases h3
    · subst h5; rw [← h3, h]
    · have := h4 j (by omega) h5; rw [this] at h; cases h
theorem fs_alike {ls : List Ln} {life : Int} {L : List Int} {n r : Nat} {I : List Int} (hc : CanI I) {j : Nat} (hj : j < n) (hI : (j : Int) ∉ I) (hf : fsF ls life L n r I j = none) : ∀ i, j < i → i < n → fsF ls life L n r I i = none := by
  intro i h1 h2
  have hi : (i : Int) ∉ I := fun h => hI (hc j i h1 h)
  obtain ⟨e1, e2⟩ := srch_swap (n := n) (ok := okK ls life L) (fun σ hσ I => okU_map _ _ _ σ hσ I) (r := r) hj h2 hI hi
  unfold fsF at *
  by_cases hok : okK ls life L (I ++ [(i : Int)]) = true
  · rw [if_pos hok]
    rw [if_pos (by rw [e1]; exact hok)] at hf
    exact e2 hf
  · rw [if_neg hok]
theorem tO_bd {ls : List Ln} {L : List Int} (hL : ∀ x ∈ L, 0 ≤ x ∧ x < (ls.length : Int)) {n j : Nat} {I : List Int} (hj : j < n) (hI : I.length ≤ L.length) : ∀ x ∈ (tO L n I).getD j [], 0 ≤ x ∧ x < (ls.length : Int) := by
  intro x hx
  rw [tO_get L I hj, List.mem_map] at hx
  obtain ⟨i, hi, rfl⟩ := hx
  unfold lnI at hi
  rw [List.mem_filter, List.mem_range] at hi
  refine hL _ ?_
  have : i < L.length := by omega
  simp [this]
theorem tO_le (L : List Int) {n j : Nat} (I : List Int) (hj : j < n) : ((tO L n I).getD j []).length ≤ I.length := by
  rw [tO_get L I hj, List.length_map]
  unfold lnI
  refine Nat.le_trans (List.length_filter_le _ _) ?_
  simp
theorem T_snd {T : List (Nat × List Int)} {X : List (List Int)} (h : T.map (·.2) = X) (j : Nat) : (T.getD j (0, [])).2 = X.getD j [] := by
  subst h
  rcases Nat.lt_or_ge j T.length with h | h
  · simp [List.getD_eq_getElem?_getD, h]
  · simp [List.getD_eq_getElem?_getD, h]
theorem lentT_snd {T : List (Nat × List Int)} {L : List Int} {n j : Nat} {I : List Int} (h : T.map (·.2) = tO L n I) (hj : j < n) : (lentT T j (L.getD I.length 0)).map (·.2) = tO L n (I ++ [(j : Int)]) := by
  rw [tO_snoc L I hj, lentT, List.map_set, h, T_snd h]
theorem backT_snd {T : List (Nat × List Int)} {L : List Int} {n j : Nat} {I : List Int} (h : T.map (·.2) = tO L n (I ++ [(j : Int)])) (hj : j < n) : (backT T j).map (·.2) = tO L n I := by
  rw [← tO_back L I hj, backT, List.map_set, h, T_snd h]
def FsQ (F G : Mem) (N : Nat) (ks : List St) (ls : List Ln) (e0 e4 : Ent) (life : Int) (L : List Int) (n : Nat) (I : List Int) (s : Option (List Int)) (x : AV) (m' : Mem) : Prop :=
  ∃ vi' T', (∃ J, s = some J ∧ x = .bool true ∧ T'.map (·.2) = tO L n J ∧ m' = F ++ blk N ks ls e0 e4 life L vi' J (wO ls L n J) T' G) ∨ (s = none ∧ x = .bool false ∧ T'.map (·.2) = tO L n I ∧ m' = F ++ blk N ks ls e0 e4 life L vi' I (wO ls L n I) T' G)
theorem first_spec {ks : List St} {ls : List Ln} (hv : SV ks ls) (life : Int) {L : List Int} (hL : ∀ x ∈ L, 0 ≤ x ∧ x < (ls.length : Int)) (hLl : L.length ≤ 20) {n : Nat} (hn : n ≤ 100) :
    ∀ (r : Nat) {F G : Mem} {N : Nat} (hF : F.length = N) {e0 e4 : Ent} {vi : Nat} {I : List Int} {T : List (Nat × List Int)}, I.length + r = L.length → (∀ x ∈ I, 0 ≤ x ∧ x < (n : Int)) → CanI I → T.map (·.2) = tO L n I →
    Go.Vg.Spec Try.prog 58 [.optr (N + 3) 1 0 0] (F ++ blk N ks ls e0 e4 life L vi I (wO ls L n I) T G) (FsQ F G N ks ls e0 e4 life L n I (srch (fun _ => n) (okK ls life L) r I)) := by
  intro r
  induction r with
  | zero =>
    intro F G N hF e0 e4 vi I T hr hI hc hT
    have hwl := wO_len ls L n I
    have hTl : T.length = n := by have := congrArg List.length hT; rw [List.length_map, tO_len] at this; exact this
    have hfin : FsQ F G N ks ls e0 e4 life L n I (srch (fun _ => n) (okK ls life L) 0 I) (.bool true) (F ++ blk N ks ls e0 e4 life L vi I (wO ls L n I) T G) := ⟨vi, T, .inl ⟨I, rfl, rfl, hT, rfl⟩⟩
    generalize hW : wO ls L n I = W at hwl hfin
    generalize FsQ F G N ks ls e0 e4 life L n I (srch (fun _ => n) (okK ls life L) 0 I) = Q at hfin
    have he : decide ((I.length : Int) = (L.length : Int)) = true := decide_eq_true (by omega)
    (refine Spec.of_bodyA Try.func58 rfl (by rw [Try.ntmps58]; simp) ?_; rw [Try.results58, Try.ntmps58]; simp only [entry, zipArgs, Nat.reduceAdd])
    (refine x_go (zc (fun l => @getF _ l _ hF) (zc (fun l => @getF0 _ l _ hF) (zc @get7 (zc @lentR_len @he)))) ?_)
    (refine Wp.rnD 11 ?_; apply exAb; (((refine x_abn (zc (fun l => @getF _ l _ hF) (zc (fun l => @getF0 _ l _ hF) (zc @get7 (zc @lentR_len @he)))) ?_)); exact Abn.nil))
    (refine x_gg (zc (fun l => @getF _ l _ hF) (zc (fun l => @getF0 _ l _ hF) (zc @get7 (zc @lentR_len @he)))) ?_)
    (first | exact x_retA (zc (fun l => @getF _ l _ hF) (zc (fun l => @getF0 _ l _ hF) (zc @get7 (zc @lentR_len @he)))) | refine x_retAZ (zc (fun l => @getF _ l _ hF) (zc (fun l => @getF0 _ l _ hF) (zc @get7 (zc @lentR_len @he)))) ?_)
    exact hfin
  | succ r ih =>
    intro F G N hF e0 e4 vi I T hr hI hc hT
    have hh20 := hv.l20
    have hwl := wO_len ls L n I
    have hTl : T.length = n := by have := congrArg List.length hT; rw [List.length_map, tO_len] at this; exact this
    have hlo : 0 ≤ L.getD I.length 0 ∧ L.getD I.length 0 < (ls.length : Int) := hL _ (by simp [show I.length < L.length by omega])
    have hlu := (hv.ln (L.getD I.length 0).toNat (by omega)).2.2
    have hub : ∀ i, 0 ≤ uL ls L i ∧ uL ls L i ≤ 100 := fun i => by
      unfold uL
      by_cases h : (L.getD i 0).toNat < ls.length
      · have := (hv.ln _ h).2.2; omega
      · have : ls.getD (L.getD i 0).toNat ln0 = ln0 := by
          generalize (L.getD i 0).toNat = k at h
          rw [List.getD_eq_getElem?_getD, List.getElem?_eq_none (by omega)]; rfl
        rw [this]; decide
    have hsr := srch_fs ls life L n r I
    have hQt : ∀ {vi' T' J}, fsF ls life L n r I = fsF ls life L n r I → srch (fun _ => n) (okK ls life L) (r + 1) I = some J → T'.map (·.2) = tO L n J → FsQ F G N ks ls e0 e4 life L n I (srch (fun _ => n) (okK ls life L) (r + 1) I) (.bool true) (F ++ blk N ks ls e0 e4 life L vi' J (wO ls L n J) T' G) := fun {vi' T' J} _ h1 h2 => ⟨vi', T', .inl ⟨J, h1, rfl, h2, rfl⟩⟩
    have hQf : ∀ {vi' T'}, srch (fun _ => n) (okK ls life L) (r + 1) I = none → T'.map (·.2) = tO L n I → FsQ F G N ks ls e0 e4 life L n I (srch (fun _ => n) (okK ls life L) (r + 1) I) (.bool false) (F ++ blk N ks ls e0 e4 life L vi' I (wO ls L n I) T' G) := fun {vi' T'} h1 h2 => ⟨vi', T', .inr ⟨h1, rfl, h2, rfl⟩⟩
    generalize FsQ F G N ks ls e0 e4 life L n I (srch (fun _ => n) (okK ls life L) (r + 1) I) = Q at hQt hQf
    have he : decide ((I.length : Int) = (L.length : Int)) = false := decide_eq_false (by omega)
    generalize hlv : L.getD I.length 0 = loan at hlo hlu
    generalize hW : wO ls L n I = W at hwl hQf
    (refine Spec.of_bodyA Try.func58 rfl (by rw [Try.ntmps58]; simp) ?_; rw [Try.results58, Try.ntmps58]; simp only [entry, zipArgs, Nat.reduceAdd])
    (refine x_go (zc (fun l => @getF _ l _ hF) (zc (fun l => @getF0 _ l _ hF) (zc @get7 (zc @lentR_len (zc @he @hlv))))) ?_)
    (refine Wp.rnD 11 ?_; apply exAb; (((refine x_abn (zc (fun l => @getF _ l _ hF) (zc (fun l => @getF0 _ l _ hF) (zc @get7 (zc @lentR_len (zc @he @hlv))))) ?_)); exact Abn.nil))
    (refine x_gg (zc (fun l => @getF _ l _ hF) (zc (fun l => @getF0 _ l _ hF) (zc @get7 (zc @lentR_len (zc @he @hlv))))) ?_)
    (refine Wp.rnD 12 ?_; apply exAb; (((refine x_abn (zc (fun l => @getF _ l _ hF) (zc (fun l => @getF0 _ l _ hF) (zc @get7 (zc @lentR_len (zc @he @hlv))))) ?_)); exact Abn.nil))
    (refine x_gg (zc (fun l => @getF _ l _ hF) (zc (fun l => @getF0 _ l _ hF) (zc @get7 (zc @lentR_len (zc @he @hlv))))) ?_)
    refine Wp.loop (fun (q : Nat × Nat × List (Nat × List Int)) => { t := [(0, .optr (N + 3) 1 0 0), (3, .int loan), (31, .osl (N + 2) 1 0 n), (32, .int n), (33, .int q.1)], m := F ++ blk N ks ls e0 e4 life L q.2.1 I W q.2.2 G, n := 55 }) (fun q => q.1 ≤ n ∧ q.2.2.map (·.2) = tO L n I ∧ (∀ i : Nat, i < q.1 → (i : Int) ∈ I) ∧ ∀ i, i < q.1 → fsF ls life L n r I i = none) (fun q => n - q.1) (0, vi, T) ?_ ?_ ?_
    · rw [← hTl]
      (refine Le.of ?_ ?_ rfl rfl <;> (try simp only [push_cast, seval, getF hF, getF0 hF, get7, lentR_len, he, hlv]) <;> (try (with_reducible rfl)))
    · exact ⟨by simp, hT, by simp, by simp⟩
    · rintro ⟨j, vj, U⟩ ⟨hj1, hj2, hj3, hj4⟩
      simp only at hj1 hj2 hj3 hj4
      have hUl : U.length = n := by have := congrArg List.length hj2; rw [List.length_map, tO_len] at this; exact this
      (refine x_go (zc (fun l => @getF _ l _ hF) (zc (fun l => @getF0 _ l _ hF) (zc @get7 (zc @lentR_len (zc @he @hlv))))) ?_)
      (apply Wp.cond; (exact x_ev (zc (fun l => @getF _ l _ hF) (zc (fun l => @getF0 _ l _ hF) (zc @get7 (zc @lentR_len (zc @he @hlv)))))))
      · intro hcc
        simp only [decide_eq_true_eq, Int.ofNat_lt] at hcc
        have hlg : ∀ d, (lentR N 7 U).getD j d = .osl (N + (7 + j)) (U.getD j (0, [])).1 0 (U.getD j (0, [])).2.length := fun d => lentR_getD d (by omega)
        have hUs := T_snd hj2 j
        have hle := tO_le L (n := n) I hcc
        have hlm := lent_mem (L := L) (n := n) (I := I) hcc
        have htb := tO_bd (ls := ls) hL (n := n) (I := I) hcc (by omega)
        rw [← hUs] at hle hlm htb
        have hwb : 0 ≤ W.getD j 0 ∧ W.getD j 0 ≤ 10000 := by
          rw [← hW, wO_get ls L I hcc]
          have := sW_bd hub I (j : Int) I.length; omega
        have hUm : (U.map (·.2)).getD j [] = (U.getD j (0, [])).2 := by rw [hj2, hUs]
        have hft := fits_pure (ks := ks) (ls := ls) (life := life) (L := L) (I := I) (W := W) (T := U.map (·.2)) loan (j : Int) hlo (by rw [List.length_map]; omega) (by rw [List.length_map]; omega) hh20 (by rw [List.length_map]; omega) hlu (by rw [Int.toNat_natCast]; exact hwb) (by rw [Int.toNat_natCast, hUm]; exact htb) (by rw [Int.toNat_natCast, hUm]; omega)
        have hfo := fit_ok ls life L (n := n) I hcc
        rw [hW, hlv, ← hj2] at hfo
        rw [Int.toNat_natCast, hfo] at hft
        have hvw := blk_vw (G := G) hF (ks := ks) (ls := ls) (e0 := e0) (e4 := e4) (life := life) (L := L) (vi := vj) (I := I) (W := W) (T := U)
        have hfj : fsF ls life L n r I j = if okK ls life L (I ++ [(j : Int)]) = true then srch (fun _ => n) (okK ls life L) r (I ++ [(j : Int)]) else none := rfl
        have hbrk := fun (h : fsF ls life L n r I j = none) (h0 : ¬ (j : Int) ∈ I) => (show srch (fun _ => n) (okK ls life L) (r + 1) I = none from by
          rw [hsr]
          refine tryF_none.2 fun i _ hi => ?_
          rcases Nat.lt_trichotomy i j with h1 | h1 | h1
          · exact hj4 i h1
          · rw [h1]; exact h
          · exact fs_alike hc hcc h0 h i h1 (by omega))
        have hnx := fun (h : fsF ls life L n r I j = none) (i : Nat) (hi : i < j + 1) => (show fsF ls life L n r I i = none from by
          by_cases h1 : i = j
          · rw [h1]; exact h
          · exact hj4 i (by omega))
        have hnm := fun (h : (j : Int) ∈ I) (i : Nat) (hi : i < j + 1) => (show (i : Int) ∈ I from by
          by_cases h1 : i = j
          · rw [h1]; exact h
          · exact hj3 i (by omega))
        generalize hug : U.getD j (0, []) = u at hlg hUs hle hlm htb hUm
        obtain ⟨uv, ul⟩ := u
        simp only at hlg hUs hle hlm htb hUm
        (refine x_go (zc (fun l => @getF _ l _ hF) (zc (fun l => @getF0 _ l _ hF) (zc @get7 (zc @lentR_len (zc @he (zc @hlv @hlg)))))) ?_)
        (apply Run.pureW; (exact x_ev (zc (fun l => @getF _ l _ hF) (zc (fun l => @getF0 _ l _ hF) (zc @get7 (zc @lentR_len (zc @he (zc @hlv @hlg))))))); (exact (Enters.of Try.func68 rfl rfl)); (exact hft); (exact VwL.cons hvw (VwL.cons (Vw.self trivial) (VwL.cons (Vw.self trivial) VwL.nil))); (simp only [push_cast, seval, getF hF, getF0 hF, get7, lentR_len, he, hlv, hlg] <;> first | trivial | assumption | (refine ⟨?_, ?_⟩ <;> assumption) | (simp; done)); (try dsimp only [putA, optG]))
        (refine x_go (zc (fun l => @getF _ l _ hF) (zc (fun l => @getF0 _ l _ hF) (zc @get7 (zc @lentR_len (zc @he (zc @hlv @hlg)))))) ?_)
        cases hok : okK ls life L (I ++ [(j : Int)]) with
        | false =>
          rw [hok] at hfj
          rw [if_neg (by simp)] at hfj
          (refine x_gg (zc (fun l => @getF _ l _ hF) (zc (fun l => @getF0 _ l _ hF) (zc @get7 (zc @lentR_len (zc @he (zc @hlv @hlg)))))) ?_)
          (apply Wp.cond; (exact x_ev (zc (fun l => @getF _ l _ hF) (zc (fun l => @getF0 _ l _ hF) (zc @get7 (zc @lentR_len (zc @he (zc @hlv @hlg))))))))
          · intro h5
            simp only [decide_eq_true_eq] at h5
            have h6 := hbrk hfj (hlm.1 (by omega))
            (refine x_gg (zc (fun l => @getF _ l _ hF) (zc (fun l => @getF0 _ l _ hF) (zc @get7 (zc @lentR_len (zc @he (zc @hlv @hlg)))))) ?_)
            (first | exact x_retA (zc (fun l => @getF _ l _ hF) (zc (fun l => @getF0 _ l _ hF) (zc @get7 (zc @lentR_len (zc @he (zc @hlv @hlg)))))) | refine x_retAZ (zc (fun l => @getF _ l _ hF) (zc (fun l => @getF0 _ l _ hF) (zc @get7 (zc @lentR_len (zc @he (zc @hlv @hlg)))))) ?_)
            exact hQf h6 hj2
          · intro h5
            simp only [decide_eq_false_iff_not] at h5
            have h6 : (j : Int) ∈ I := Classical.byContradiction fun h => h5 (by have := hlm.2 h; omega)
            (refine x_gg (zc (fun l => @getF _ l _ hF) (zc (fun l => @getF0 _ l _ hF) (zc @get7 (zc @lentR_len (zc @he (zc @hlv @hlg)))))) ?_)
            refine ⟨(j + 1, vj, U), ?_, ⟨by simp only; omega, hj2, hnm h6, hnx hfj⟩, by simp only; omega⟩
            (refine Le.of ?_ ?_ rfl rfl <;> (try simp only [push_cast, seval, getF hF, getF0 hF, get7, lentR_len, he, hlv, hlg]) <;> (try (with_reducible rfl)))
        | true =>
          rw [hok] at hfj
          rw [if_pos rfl] at hfj
          have hlend := lend_spec (G := G) hF (ks := ks) (ls := ls) (e0 := e0) (e4 := e4) (life := life) (L := L) (vi := vj) (I := I) (W := W) (T := U) loan (j : Int) hlo (by omega) (by omega) hh20 (by omega) (by omega) hlu (by rw [Int.toNat_natCast]; exact hwb) (by rw [Int.toNat_natCast, hug]; simp only; omega)
          have hws := wO_snoc ls L (n := n) I hcc
          have huL : uL ls L I.length = (ls.getD loan.toNat ln0).uses := by unfold uL; rw [hlv]
          rw [huL, hW] at hws
          have hls := lentT_snd hj2 hcc
          rw [hlv] at hls
          have hih := ih (F := F) (G := G) hF (e0 := e0) (e4 := e4) (vi := vj + 1) (I := I ++ [(j : Int)]) (T := lentT U j loan) (by simp; omega) (by
            intro x hx
            rw [List.mem_append, List.mem_singleton] at hx
            rcases hx with hx | hx
            · exact hI x hx
            · omega) (can_snoc hc hj3) hls
          rw [Int.toNat_natCast, ← hws] at hlend
          (refine x_gg (zc (fun l => @getF _ l _ hF) (zc (fun l => @getF0 _ l _ hF) (zc @get7 (zc @lentR_len (zc @he (zc @hlv @hlg)))))) ?_)
          apply Run.spec (he := Enters.of Try.func69 rfl rfl) (hc := hlend)
          focus exact rfl
          focus (simp only [push_cast, seval, getF hF, getF0 hF, get7, lentR_len, he, hlv, hlg] <;> exact rfl)
          focus (exact x_ev (zc (fun l => @getF _ l _ hF) (zc (fun l => @getF0 _ l _ hF) (zc @get7 (zc @lentR_len (zc @he (zc @hlv @hlg)))))))
          rintro x' m' rfl
          dsimp only [S.put, optG]
          (refine x_gg (zc (fun l => @getF _ l _ hF) (zc (fun l => @getF0 _ l _ hF) (zc @get7 (zc @lentR_len (zc @he (zc @hlv @hlg)))))) ?_)
          apply Run.spec (he := Enters.of Try.func58 rfl rfl) (hc := hih)
          focus exact rfl
          focus (simp only [push_cast, seval, getF hF, getF0 hF, get7, lentR_len, he, hlv, hlg] <;> exact rfl)
          focus (exact x_ev (zc (fun l => @getF _ l _ hF) (zc (fun l => @getF0 _ l _ hF) (zc @get7 (zc @lentR_len (zc @he (zc @hlv @hlg)))))))
          rintro x' m' ⟨v2, U2, ⟨J, h1, rfl, h2, rfl⟩ | ⟨h1, rfl, h2, rfl⟩⟩
          · have h3 : srch (fun _ => n) (okK ls life L) (r + 1) I = some J := by
              rw [hsr]
              exact tryF_at hcc (by rw [hfj]; exact h1) hj4
            dsimp only [S.put, optG]
            (refine x_gg (zc (fun l => @getF _ l _ hF) (zc (fun l => @getF0 _ l _ hF) (zc @get7 (zc @lentR_len (zc @he (zc @hlv @hlg)))))) ?_)
            (first | exact x_retA (zc (fun l => @getF _ l _ hF) (zc (fun l => @getF0 _ l _ hF) (zc @get7 (zc @lentR_len (zc @he (zc @hlv @hlg)))))) | refine x_retAZ (zc (fun l => @getF _ l _ hF) (zc (fun l => @getF0 _ l _ hF) (zc @get7 (zc @lentR_len (zc @he (zc @hlv @hlg)))))) ?_)
            exact hQt rfl h3 h2
          · rw [h1] at hfj
            have hU2l : U2.length = n := by have := congrArg List.length h2; rw [List.length_map, tO_len] at this; exact this
            have hwb2 := wO_back ls L (n := n) I hcc
            rw [huL, hW] at hwb2
            have hbs := backT_snd h2 hcc
            have hwl2 := wO_len ls L n (I ++ [(j : Int)])
            have hwg2 : 0 ≤ (wO ls L n (I ++ [(j : Int)])).getD j 0 ∧ (wO ls L n (I ++ [(j : Int)])).getD j 0 ≤ 10000 := by
              rw [wO_get ls L _ hcc]
              have := sW_bd hub (I ++ [(j : Int)]) (j : Int) (I ++ [(j : Int)]).length
              rw [List.length_append, List.length_cons, List.length_nil] at this ⊢
              omega
            have h2l : 1 ≤ (U2.getD j (0, [])).2.length ∧ (U2.getD j (0, [])).2.length ≤ 1000 := by
              rw [T_snd h2 j]
              constructor
              · have := (lent_mem (L := L) (n := n) (I := I ++ [(j : Int)]) hcc)
                have h9 : ¬ ((tO L n (I ++ [(j : Int)])).getD j []).length = 0 := fun h => this.1 h (by simp)
                omega
              · have := tO_le L (n := n) (I ++ [(j : Int)]) hcc
                rw [List.length_append, List.length_cons, List.length_nil] at this
                omega
            generalize hW2 : wO ls L n (I ++ [(j : Int)]) = W2 at hwb2 hwl2 hwg2
            have hback := back_spec (G := G) hF (ks := ks) (ls := ls) (e0 := e0) (e4 := e4) (life := life) (L := L) (vi := v2) (I := I) (W := W2) (T := U2) loan (j : Int) hlo (by omega) (by omega) hh20 (by omega) (by omega) hlu (by rw [Int.toNat_natCast]; exact hwg2) (by rw [Int.toNat_natCast]; exact h2l)
            rw [Int.toNat_natCast, hwb2] at hback
            dsimp only [S.put, optG]
            (refine x_gg (zc (fun l => @getF _ l _ hF) (zc (fun l => @getF0 _ l _ hF) (zc @get7 (zc @lentR_len (zc @he (zc @hlv @hlg)))))) ?_)
            apply Run.spec (he := Enters.of Try.func84 rfl rfl) (hc := hback)
            focus exact rfl
            focus (simp only [push_cast, seval, getF hF, getF0 hF, get7, lentR_len, he, hlv, hlg] <;> exact rfl)
            focus (exact x_ev (zc (fun l => @getF _ l _ hF) (zc (fun l => @getF0 _ l _ hF) (zc @get7 (zc @lentR_len (zc @he (zc @hlv @hlg)))))))
            rintro x' m' rfl
            dsimp only [S.put, optG]
            (refine x_gg (zc (fun l => @getF _ l _ hF) (zc (fun l => @getF0 _ l _ hF) (zc @get7 (zc @lentR_len (zc @he (zc @hlv @hlg)))))) ?_)
            (apply Wp.cond; (exact x_ev (zc (fun l => @getF _ l _ hF) (zc (fun l => @getF0 _ l _ hF) (zc @get7 (zc @lentR_len (zc @he (zc @hlv @hlg))))))))
            · intro h5
              simp only [decide_eq_true_eq] at h5
              have h6 := hbrk hfj (hlm.1 (by omega))
              (refine x_gg (zc (fun l => @getF _ l _ hF) (zc (fun l => @getF0 _ l _ hF) (zc @get7 (zc @lentR_len (zc @he (zc @hlv @hlg)))))) ?_)
              (first | exact x_retA (zc (fun l => @getF _ l _ hF) (zc (fun l => @getF0 _ l _ hF) (zc @get7 (zc @lentR_len (zc @he (zc @hlv @hlg)))))) | refine x_retAZ (zc (fun l => @getF _ l _ hF) (zc (fun l => @getF0 _ l _ hF) (zc @get7 (zc @lentR_len (zc @he (zc @hlv @hlg)))))) ?_)
              exact hQf h6 hbs
            · intro h5
              simp only [decide_eq_false_iff_not] at h5
              have h6 : (j : Int) ∈ I := Classical.byContradiction fun h => h5 (by have := hlm.2 h; omega)
              (refine x_gg (zc (fun l => @getF _ l _ hF) (zc (fun l => @getF0 _ l _ hF) (zc @get7 (zc @lentR_len (zc @he (zc @hlv @hlg)))))) ?_)
              refine ⟨(j + 1, v2, backT U2 j), ?_, ⟨by simp only; omega, hbs, hnm h6, hnx hfj⟩, by simp only; omega⟩
              (refine Le.of ?_ ?_ rfl rfl <;> (try simp only [push_cast, seval, getF hF, getF0 hF, get7, lentR_len, he, hlv, hlg]) <;> (try (with_reducible rfl)))
      · intro hcc
        simp only [decide_eq_false_iff_not, Int.ofNat_lt] at hcc
        obtain rfl : j = n := by omega
        have h6 : srch (fun _ => j) (okK ls life L) (r + 1) I = none := by
          rw [hsr]; exact tryF_none.2 fun i _ hi => hj4 i (by omega)
        (refine x_gg (zc (fun l => @getF _ l _ hF) (zc (fun l => @getF0 _ l _ hF) (zc @get7 (zc @lentR_len (zc @he @hlv))))) ?_)
        (first | exact x_retA (zc (fun l => @getF _ l _ hF) (zc (fun l => @getF0 _ l _ hF) (zc @get7 (zc @lentR_len (zc @he @hlv))))) | refine x_retAZ (zc (fun l => @getF _ l _ hF) (zc (fun l => @getF0 _ l _ hF) (zc @get7 (zc @lentR_len (zc @he @hlv))))) ?_)
        exact hQf h6 hj2
end Go.Proofs.Try
set_option maxHeartbeats 8000000
namespace Go.Proofs.Try
open Go.Vg

/-! the pairs that overlap -/
theorem chkE_ok {ks : List St} {ls : List Ln} (h : chkE ks ls = 0) : SV ks ls := by
  unfold chkE at h
  split at h
  · exact checkB_ok ‹_›
  · cases h
end Go.Proofs.Try
set_option maxHeartbeats 8000000
namespace Go.Proofs.Try
open Go.Vg

/-! the most loans at the same time -/
def atB (ls : List Ln) (kind t : Int) (k : Nat) : Bool := decide ((ls.getD k ln0).kind = kind) && wi t (ls.getD k ln0).fr ((ls.getD k ln0).to - 1)
def pkC (ls : List Ln) (kind t : Int) (k : Nat) : Int := (cntN (atB ls kind t) k : Nat)
theorem pkC_succ (ls : List Ln) (kind t : Int) (k : Nat) : pkC ls kind t (k + 1) = if (decide ((ls.getD k ln0).kind = kind) && wi t (ls.getD k ln0).fr ((ls.getD k ln0).to - 1)) = true then pkC ls kind t k + 1 else pkC ls kind t k := by
  have e : cntN (atB ls kind t) (k + 1) = if atB ls kind t k = true then cntN (atB ls kind t) k + 1 else cntN (atB ls kind t) k := rfl
  unfold pkC
  rw [e]
  by_cases h : atB ls kind t k = true
  · rw [if_pos h, if_pos (by exact h)]; rfl
  · rw [if_neg h, if_neg (by exact h)]
theorem cntN_le (p : Nat → Bool) : ∀ k, cntN p k ≤ k
  | 0 => Nat.le_refl _
  | k + 1 => by have := cntN_le p k; simp only [cntN]; split <;> omega
theorem pkC_bd (ls : List Ln) (kind t : Int) (k : Nat) : 0 ≤ pkC ls kind t k ∧ pkC ls kind t k ≤ k := by
  have := cntN_le (atB ls kind t) k
  unfold pkC; omega
/-- of the loans of the kind -/
def pkP (ls : List Ln) (kind : Int) : Nat → Int
  | 0 => 0
  | i + 1 => max (pkP ls kind i) (if (ls.getD i ln0).kind = kind then pkC ls kind (ls.getD i ln0).fr ls.length else 0)
theorem pkP_bd (ls : List Ln) (kind : Int) : ∀ i, 0 ≤ pkP ls kind i ∧ pkP ls kind i ≤ ls.length
  | 0 => by simp [pkP]
  | i + 1 => by
    have := pkP_bd ls kind i
    have := pkC_bd ls kind (ls.getD i ln0).fr ls.length
    simp only [pkP]; split <;> omega
theorem peak_pure {ks : List St} {ls : List Ln} (hv : SV ks ls) (kind : Int) : Pure Try.prog 50 [storA ks ls, .int kind] (.int (pkP ls kind ls.length)) := by
  have hl20 := hv.l20
  (refine Spec.bd 0 Try.func50 Try.results50 Try.ntmps50 ?_; simp only [entry, zipArgs, Nat.reduceAdd])
  (refine w_go ?_)
  (refine Wp.vacs 2 ?_; (try simp only [List.replicate_succ, List.replicate_zero, List.cons_append, List.nil_append]))
  refine Wp.loop (fun (q : Nat × (Nat × Kind) × (Nat × Kind)) => { t := [(1, .int kind), (2, .optr 0 0 0 0), (11, .lst 5 (ls.map lnA)), (12, .int ls.length), (13, .int q.1), (4, .int (pkP ls kind q.1))], m := [⟨0, .row 2 [storA ks ls]⟩, ⟨q.2.1.1, q.2.1.2⟩, ⟨q.2.2.1, q.2.2.2⟩], n := 52 }) (fun q => q.1 ≤ ls.length) (fun q => ls.length - q.1) (0, (0, .row 1 []), (0, .row 1 [])) ?_ ?_ ?_
  · (refine Le.of ?_ ?_ rfl rfl <;> (try simp only [push_cast, seval]) <;> (try (with_reducible rfl)))
    all_goals rfl
  · simp
  · rintro ⟨i, ⟨v, kd⟩, v2, kd2⟩ hi1
    simp only at hi1
    have hbd := pkP_bd ls kind i
    have hps : pkP ls kind (i + 1) = max (pkP ls kind i) (if (ls.getD i ln0).kind = kind then pkC ls kind (ls.getD i ln0).fr ls.length else 0) := rfl
    generalize hp : pkP ls kind i = p at hbd hps
    (refine w_gs ?_)
    (apply Wp.cond; (exact w_ev))
    · intro hc
      simp only [decide_eq_true_eq, Int.ofNat_lt] at hc
      have hcs := fun k => pkC_succ ls kind (ls.getD i ln0).fr k
      have hcb := fun k => pkC_bd ls kind (ls.getD i ln0).fr k
      have hc0 : pkC ls kind (ls.getD i ln0).fr 0 = 0 := rfl
      generalize hx : ls.getD i ln0 = x at hps hcs hcb hc0
      generalize pkC ls kind x.fr = pc at hps hcs hcb hc0
      (refine x_gs @hx ?_)
      (apply Run.alcAt 1; (exact x_ev @hx); ((try simp only [push_cast, seval, hx]) <;> exact sT); exact rfl; (try simp only [push_cast, seval, hx]))
      (refine x_go @hx ?_)
      refine Wp.loop (fun (q : Nat × (Nat × Kind)) => { t := [(1, .int kind), (2, .optr 0 0 0 0), (11, .lst 5 (ls.map lnA)), (12, .int ls.length), (13, .int i), (4, .int p), (6, .optr 1 (v + 1) 0 0), (7, .int (if x.kind = kind then pc q.1 else 0)), (18, .lst 5 (ls.map lnA)), (19, .int ls.length), (20, .int q.1)], m := [⟨0, .row 2 [storA ks ls]⟩, ⟨v + 1, .row 5 [lnA x]⟩, ⟨q.2.1, q.2.2⟩], n := 52 }) (fun q => q.1 ≤ ls.length) (fun q => ls.length - q.1) (0, (v2, kd2)) ?_ ?_ ?_
      · rw [hc0, ite_self]
        (refine Le.of ?_ ?_ rfl rfl <;> (try simp only [push_cast, seval, hx]) <;> (try (with_reducible rfl)))
      · simp
      · rintro ⟨k, w, kw⟩ hk1
        simp only at hk1
        have hcsk := hcs k
        have hcbk := hcb k
        generalize hpk : pc k = c at hcsk hcbk
        (refine x_gs @hx ?_)
        (apply Wp.cond; (exact x_ev @hx))
        · intro hck
          simp only [decide_eq_true_eq, Int.ofNat_lt] at hck
          have hln := hv.ln k hck
          generalize hy : ls.getD k ln0 = y at hcsk hln
          (refine x_gs (zc @hx @hy) ?_)
          (apply Run.alcAt 2; (exact x_ev (zc @hx @hy)); ((try simp only [push_cast, seval, hx, hy]) <;> exact sT); exact rfl; (try simp only [push_cast, seval, hx, hy]))
          have hcb2 : ∀ z : Int, (if x.kind = kind then c else 0) = z → 0 ≤ z ∧ z ≤ 100 := fun z hz => by subst hz; split <;> omega
          have hfin : (if x.kind = kind then pc (k + 1) else 0) = if ((decide (x.kind = kind) && decide (y.kind = kind)) && wi x.fr y.fr (y.to - 1)) = true then (if x.kind = kind then c else 0) + 1 else (if x.kind = kind then c else 0) := by
            rw [hcsk]
            by_cases h1 : x.kind = kind
            · rw [if_pos h1, if_pos h1, decide_eq_true h1, Bool.true_and]
            · rw [if_neg h1, if_neg h1, decide_eq_false h1, Bool.false_and, Bool.false_and, if_neg (by simp)]
          generalize hcc : (if x.kind = kind then c else 0) = cc at hcb2 hfin
          have hcb2 := hcb2 cc rfl
          (refine x_go (zc @hx @hy) ?_)
          (apply Run.pureP; (exact x_ev (zc @hx @hy)); (exact (Enters.of Try.func61 rfl rfl)); (exact within_pure _ _ _); (exact x_al (zc @hx @hy)); (try dsimp only [putA, optG]))
          (refine x_go (zc @hx @hy) ?_)
          (apply Wp.cond; (exact x_ev (zc @hx @hy)))
          · intro h5
            rw [if_pos h5] at hfin
            (refine x_go (zc @hx @hy) ?_)
            refine ⟨(k + 1, w + 1, .row 5 [lnA y]), ?_, by simp only; omega, by simp only; omega⟩
            simp only
            rw [hfin]
            (refine Le.of ?_ ?_ rfl rfl <;> (try simp only [push_cast, seval, hx, hy]) <;> (try (with_reducible rfl)))
          · intro h5
            have h5' : ¬ ((decide (x.kind = kind) && decide (y.kind = kind)) && wi x.fr y.fr (y.to - 1)) = true := by rw [h5]; simp
            rw [if_neg h5'] at hfin
            (refine x_go (zc @hx @hy) ?_)
            refine ⟨(k + 1, w + 1, .row 5 [lnA y]), ?_, by simp only; omega, by simp only; omega⟩
            simp only
            rw [hfin]
            (refine Le.of ?_ ?_ rfl rfl <;> (try simp only [push_cast, seval, hx, hy]) <;> (try (with_reducible rfl)))
        · intro hck
          simp only [decide_eq_false_iff_not, Int.ofNat_lt] at hck
          obtain rfl : k = ls.length := by omega
          have hcb2 : ∀ z : Int, (if x.kind = kind then c else 0) = z → 0 ≤ z ∧ z ≤ 100 := fun z hz => by subst hz; split <;> omega
          rw [hpk] at hps
          generalize hcc : (if x.kind = kind then c else 0) = cc at hcb2 hps
          have hcb2 := hcb2 cc rfl
          (refine x_go @hx ?_)
          refine ⟨(i + 1, (v + 1, .row 5 [lnA x]), (w, kw)), ?_, by simp only; omega, by simp only; omega⟩
          simp only
          rw [hps]
          (refine Le.of ?_ ?_ rfl rfl <;> (try simp only [push_cast, seval, hx]) <;> (try (with_reducible rfl)))
    · intro hc
      simp only [decide_eq_false_iff_not, Int.ofNat_lt] at hc
      obtain rfl : i = ls.length := by omega
      (refine w_go ?_)
      (first | exact w_ret | refine w_retZ ?_)
      rw [hp]
def ckK (ks : List St) (ls : List Ln) (kind : Int) : Int := if chkE ks ls = 0 then (if wi kind 0 ((ks.length : Int) - 1) = true then 0 else 1) else chkE ks ls
end Go.Proofs.Try
set_option maxHeartbeats 8000000
namespace Go.Proofs.Try
open Go.Vg

/-! what is wrong with the last loan of the beginning of a plan -/
def mateB (ls : List Ln) (p : List Int) (i k : Nat) : Bool := decide ((ls.getD k ln0).kind = (ls.getD i ln0).kind) && decide (p.getD k 0 = p.getD i 0)
def sumU (ls : List Ln) (p : List Int) (i : Nat) : Nat → Int
  | 0 => 0
  | k + 1 => if mateB ls p i k = true then sumU ls p i k + (ls.getD k ln0).uses else sumU ls p i k
def clashB (ls : List Ln) (p : List Int) (i : Nat) : Nat → Bool
  | 0 => false
  | k + 1 => clashB ls p i k || (mateB ls p i k && ovB (ls.getD k ln0) (ls.getD i ln0))
def wrongB (ks : List St) (ls : List Ln) (p : List Int) (i : Nat) : Bool :=
  decide (p.getD i 0 < 0) || (clashB ls p i i || decide ((ks.getD (ls.getD i ln0).kind.toNat st0).life < (ls.getD i ln0).uses + sumU ls p i i))
theorem getD_take {l : List Int} {n k : Nat} (h : k < n) : (l.take n).getD k 0 = l.getD k 0 := by
  simp only [List.getD_eq_getElem?_getD, List.getElem?_take]
  rw [if_pos h]
theorem sumU_take (ls : List Ln) (p : List Int) (i : Nat) : ∀ k, k ≤ i → sumU ls (p.take (i + 1)) i k = sumU ls p i k
  | 0, _ => rfl
  | k + 1, h => by
    simp only [sumU, mateB, getD_take (show k < i + 1 by omega), getD_take (show i < i + 1 by omega), sumU_take ls p i k (by omega)]
    rfl
theorem clashB_take (ls : List Ln) (p : List Int) (i : Nat) : ∀ k, k ≤ i → clashB ls (p.take (i + 1)) i k = clashB ls p i k
  | 0, _ => rfl
  | k + 1, h => by
    simp only [clashB, mateB, getD_take (show k < i + 1 by omega), getD_take (show i < i + 1 by omega), clashB_take ls p i k (by omega)]
theorem wrongB_take (ks : List St) (ls : List Ln) (p : List Int) (i : Nat) : wrongB ks ls (p.take (i + 1)) i = wrongB ks ls p i := by
  unfold wrongB
  rw [sumU_take _ _ _ _ (Nat.le_refl _), clashB_take _ _ _ _ (Nat.le_refl _), getD_take (show i < i + 1 by omega)]
/-- the first wrong loan from i on -/
def cpFrom (ks : List St) (ls : List Ln) (p : List Int) (n : Nat) : Nat → Int × Int
  | 0 => (0, 0)
  | k + 1 => if wrongB ks ls p (n - (k + 1)) = true then (((n - (k + 1) : Nat) : Int), 101) else cpFrom ks ls p n k
def cpAns (ks : List St) (ls : List Ln) (p : List Int) : Int × Int := if chk2E ks ls p = 0 then cpFrom ks ls p p.length p.length else (0, chk2E ks ls p)
end Go.Proofs.Try
set_option maxHeartbeats 8000000
namespace Go.Proofs.Try
open Go.Vg

/-! several benches in memory -/
mutual
theorem shift_ok (M : Nat) : ∀ (x : AV), x.ok 0 → x.shift M = x
  | .val _, _ => rfl
  | .any, _ => rfl
  | .lst _ l, h => by simp only [AV.shift, shiftL_ok M l h]
  | .osl id _ _ _, h => absurd h (Nat.not_lt_zero id)
  | .emp, _ => rfl
  | .ref xs _, h => by simp only [AV.shift, shiftL_ok M xs h]
  | .optr id _ _ _, h => absurd h (Nat.not_lt_zero id)
  | .agg xs, h => by simp only [AV.shift, shiftL_ok M xs h]
  | .tup xs, h => by simp only [AV.shift, shiftL_ok M xs h]
  | .clo _ xs, h => by simp only [AV.shift, shiftL_ok M xs h]
  | .bnd _ xs, h => by simp only [AV.shift, shiftL_ok M xs h]
  | .opt _ x, h => by simp only [AV.shift, shift_ok M x h]
  | .yld id _, h => absurd h (Nat.not_lt_zero id)
theorem shiftL_ok (M : Nat) : ∀ (l : List AV), okL 0 l → shiftL M l = l
  | [], _ => rfl
  | x :: l, h => by simp only [shiftL, shift_ok M x h.1, shiftL_ok M l h.2]
end
theorem shiftL_lentR (M : Nat) : ∀ (T : List (Nat × List Int)) (k : Nat), shiftL M (lentR 0 k T) = lentR M k T
  | [], _ => rfl
  | t :: T, k => by simp only [lentR, shiftL, AV.shift, shiftL_lentR M T (k + 1), Nat.zero_add]
abbrev shE (M : Nat) (e : Ent) : Ent := ⟨e.ver, e.kind.shift M⟩
theorem blk_shift (M : Nat) {ks : List St} {ls : List Ln} {e4 : Ent} {life : Int} {L I W : List Int} {vi : Nat} {T : List (Nat × List Int)} :
    (blk 0 ks ls ⟨0, .row 2 [storA ks ls]⟩ e4 life L vi I W T []).map (shE M) = blk M ks ls ⟨0, .row 2 [storA ks ls]⟩ (shE M e4) life L vi I W T [] := by
  have h1 : ∀ l : List Int, shiftL M (l.map AV.int) = l.map AV.int := fun l => shiftL_ok M _ (by simp only [push_cast])
  have h2 : shiftL M (ks.map stA) = ks.map stA := shiftL_ok M _ (by simp only [push_cast])
  have h3 : shiftL M (ls.map lnA) = ls.map lnA := shiftL_ok M _ (by simp only [push_cast])
  have h4 : (T.map lentE).map (shE M) = T.map lentE := by
    rw [List.map_map]
    exact List.map_congr_left fun t _ => by simp [lentE, shE, Kind.shift, h1]
  simp only [blk, benR, List.map_cons, List.map_append, h4, List.map_nil]
  simp [shE, Kind.shift, shiftL, AV.shift, h1, h2, h3, shiftL_lentR]
structure Bn where
  e4 : Ent
  vi : Nat
  I : List Int
  W : List Int
  T : List (Nat × List Int)
abbrev bn0 : Bn := ⟨⟨0, .row 1 []⟩, 0, [], [], []⟩
def bks (ks : List St) (ls : List Ln) : Nat → Nat → List Bn → Mem
  | _, _, [] => []
  | N, j, b :: bs => blk N ks ls ⟨0, .row 2 [storA ks ls]⟩ b.e4 (ks.getD j st0).life (loanP ls j ls.length) b.vi b.I b.W b.T (bks ks ls (N + (7 + b.T.length)) (j + 1) bs)
def bsz : List Bn → Nat
  | [] => 0
  | b :: bs => 7 + b.T.length + bsz bs
def bptr : Nat → List Bn → List AV
  | _, [] => []
  | N, b :: bs => .optr (N + 3) 1 0 0 :: bptr (N + (7 + b.T.length)) bs
theorem blk_app {N : Nat} {ks : List St} {ls : List Ln} {e0 e4 : Ent} {life : Int} {L I W : List Int} {vi : Nat} {T : List (Nat × List Int)} {G H : Mem} : blk N ks ls e0 e4 life L vi I W T G ++ H = blk N ks ls e0 e4 life L vi I W T (G ++ H) := by
  simp [blk]
theorem bptr_len : ∀ (bs : List Bn) (N : Nat), (bptr N bs).length = bs.length
  | [], _ => rfl
  | b :: bs, N => by simp [bptr, bptr_len bs]
theorem bks_len (ks : List St) (ls : List Ln) : ∀ (bs : List Bn) (N j : Nat), (bks ks ls N j bs).length = bsz bs
  | [], _, _ => rfl
  | b :: bs, N, j => by simp [bks, blk, bsz, bks_len ks ls bs]; omega
theorem bks_snoc (ks : List St) (ls : List Ln) (b : Bn) : ∀ (bs : List Bn) (N j : Nat), bks ks ls N j bs ++ blk (N + bsz bs) ks ls ⟨0, .row 2 [storA ks ls]⟩ b.e4 (ks.getD (j + bs.length) st0).life (loanP ls (j + bs.length : Nat) ls.length) b.vi b.I b.W b.T [] = bks ks ls N j (bs ++ [b])
  | [], N, j => by simp only [bks, bsz, List.nil_append, List.length_nil, Nat.add_zero]
  | a :: bs, N, j => by
    have := bks_snoc ks ls b bs (N + (7 + a.T.length)) (j + 1)
    rw [show j + 1 + bs.length = j + (a :: bs).length by simp; omega, show N + (7 + a.T.length) + bsz bs = N + bsz (a :: bs) by simp only [bsz]; omega] at this
    simp only [bks, List.cons_append]
    rw [← this]
    simp only [blk, List.cons_append, List.append_assoc]
theorem bptr_snoc (b : Bn) : ∀ (bs : List Bn) (N : Nat), bptr N (bs ++ [b]) = bptr N bs ++ [.optr (N + bsz bs + 3) 1 0 0]
  | [], N => by simp [bptr, bsz]
  | a :: bs, N => by
    simp only [List.cons_append, bptr, bptr_snoc b bs, bsz, ← Nat.add_assoc]
theorem bks_split (ks : List St) (ls : List Ln) : ∀ (bs : List Bn) (N j k : Nat), k < bs.length → ∃ (A G : Mem) (M : Nat), M = N + A.length ∧ (∀ d, (bptr N bs).getD k d = .optr (M + 3) 1 0 0) ∧
    ∀ b' : Bn, b'.T.length = (bs.getD k bn0).T.length → bks ks ls N j (bs.set k b') = A ++ blk M ks ls ⟨0, .row 2 [storA ks ls]⟩ b'.e4 (ks.getD (j + k) st0).life (loanP ls (j + k : Nat) ls.length) b'.vi b'.I b'.W b'.T G ∧ bptr N (bs.set k b') = bptr N bs
  | [], _, _, _, h => by simp at h
  | b :: bs, N, j, 0, _ => by
    refine ⟨[], bks ks ls (N + (7 + b.T.length)) (j + 1) bs, N, rfl, fun d => rfl, fun b' hb => ?_⟩
    simp only [List.getD_cons_zero] at hb
    simp only [List.set_cons_zero, bks, bptr, hb, List.nil_append, Nat.add_zero]
    exact ⟨trivial, trivial⟩
  | b :: bs, N, j, k + 1, h => by
    obtain ⟨A, G, M, h1, h2, h3⟩ := bks_split ks ls bs (N + (7 + b.T.length)) (j + 1) k (by simpa using h)
    refine ⟨blk N ks ls ⟨0, .row 2 [storA ks ls]⟩ b.e4 (ks.getD j st0).life (loanP ls j ls.length) b.vi b.I b.W b.T A, G, M, ?_, fun d => by simpa [bptr] using h2 d, fun b' hb => ?_⟩
    · rw [h1]; simp [blk]; omega
    · obtain ⟨q1, q2⟩ := h3 b' (by simpa using hb)
      rw [show j + 1 + k = j + (k + 1) by omega] at q1
      simp only [List.set_cons_succ, bks, bptr, blk_app, q1, q2]
      exact ⟨trivial, trivial⟩
end Go.Proofs.Try
set_option maxHeartbeats 8000000
namespace Go.Proofs.Try
open Go.Vg

/-! whether so many items are enough -/
theorem loanP_mem {ls : List Ln} {kind : Int} {k : Nat} : ∀ x ∈ loanP ls kind k, ∃ i : Nat, x = (i : Int) ∧ i < k ∧ (ls.getD i ln0).kind = kind := by
  intro x hx
  unfold loanP at hx
  rw [List.mem_map] at hx
  obtain ⟨i, hi, rfl⟩ := hx
  rw [List.mem_filter, List.mem_range] at hi
  exact ⟨i, rfl, hi.1, of_decide_eq_true hi.2⟩
theorem loanP_in (ls : List Ln) (kind : Int) : ∀ x ∈ loanP ls kind ls.length, 0 ≤ x ∧ x < (ls.length : Int) := fun x hx => by
  obtain ⟨i, rfl, h, _⟩ := loanP_mem x hx; omega
theorem uL_bd {ks : List St} {ls : List Ln} (hv : SV ks ls) (L : List Int) (i : Nat) : 0 ≤ uL ls L i ∧ uL ls L i ≤ 100 := by
  unfold uL
  by_cases h : (L.getD i 0).toNat < ls.length
  · have := (hv.ln _ h).2.2; omega
  · have : ls.getD (L.getD i 0).toNat ln0 = ln0 := by
      generalize (L.getD i 0).toNat = k at h
      rw [List.getD_eq_getElem?_getD, List.getElem?_eq_none (by omega)]; rfl
    rw [this]; decide
theorem sumN_bd {u : Nat → Int} (h : ∀ i, 0 ≤ u i ∧ u i ≤ 100) : ∀ k : Nat, 0 ≤ sumN u k ∧ sumN u k ≤ 100 * (k : Int)
  | 0 => by simp [sumN]
  | k + 1 => by have := sumN_bd h k; have := h k; simp only [sumN]; omega
abbrev exB (ls : List Ln) (life kind : Int) (n : Nat) : Bool := (srch (fun _ => n) (okK ls life (loanP ls kind ls.length)) (loanP ls kind ls.length).length []).isSome
def psV (ks : List St) (ls : List Ln) (kind items : Int) : Bool := decide (pkP ls kind ls.length ≤ items) && (decide (sumN (uL ls (loanP ls kind ls.length)) (loanP ls kind ls.length).length ≤ items * (ks.getD kind.toNat st0).life) && exB ls (ks.getD kind.toNat st0).life kind items.toNat)
theorem mul_bd8 {a b : Int} (h1 : 0 ≤ a ∧ a ≤ 100) (h2 : 0 ≤ b ∧ b ≤ 100) : 0 ≤ a * b ∧ a * b ≤ 10000 := by
  refine ⟨Int.mul_nonneg h1.1 h2.1, ?_⟩
  have := Int.mul_le_mul h1.2 h2.2 h2.1 (by omega : (0 : Int) ≤ 100)
  omega
theorem possible_pure {ks : List St} {ls : List Ln} (hv : SV ks ls) (kind items : Int) (hk : 0 ≤ kind ∧ kind < ks.length) (hi : 0 ≤ items ∧ items ≤ 100) : Pure Try.prog 57 [storA ks ls, .int kind, .int items] (.bool (psV ks ls kind items)) := by
  have hl20 := hv.l20
  have hst := hv.st kind.toNat (by omega)
  have hnb := newBench_spec hv kind items hk hi
  have hpk := peak_pure hv kind
  have hpb := pkP_bd ls kind ls.length
  have hub := fun k => sumN_bd (uL_bd hv (loanP ls kind ls.length)) k
  have hus : ∀ k, sumN (uL ls (loanP ls kind ls.length)) (k + 1) = sumN (uL ls (loanP ls kind ls.length)) k + uL ls (loanP ls kind ls.length) k := fun _ => rfl
  have hu0 : sumN (uL ls (loanP ls kind ls.length)) 0 = 0 := rfl
  have huk : ∀ k, uL ls (loanP ls kind ls.length) k = (ls.getD ((loanP ls kind ls.length).getD k 0).toNat ln0).uses := fun _ => rfl
  have hLl := loanP_len ls kind ls.length
  have hLi := loanP_in ls kind
  have hfs := fun e4 => first_spec hv (ks.getD kind.toNat st0).life hLi (by omega) (n := items.toNat) (by omega) (loanP ls kind ls.length).length (F := [⟨0, .row 2 [storA ks ls]⟩]) (G := []) (N := 1) rfl (e0 := ⟨0, .row 2 [storA ks ls]⟩) (e4 := e4) (vi := 0) (I := []) (T := T0 items.toNat) (by simp) (by simp) (fun a b _ h => by simp at h) (tO_nil (loanP ls kind ls.length) items.toNat)
  have hw0 := wO_nil ls (loanP ls kind ls.length) items.toNat
  rw [hw0] at hfs
  unfold psV exB
  generalize hL : loanP ls kind ls.length = L at *
  generalize hy : ks.getD kind.toNat st0 = y at *
  generalize pkP ls kind ls.length = pk at *
  have hzb := mul_bd8 hi (⟨by omega, by omega⟩ : 0 ≤ y.life ∧ y.life ≤ 100)
  generalize hz : items * y.life = z at hzb
  generalize hsu : sumN (uL ls L) = su at *
  (refine Spec.bd 0 Try.func57 Try.results57 Try.ntmps57 ?_; simp only [entry, zipArgs, Nat.reduceAdd])
  (refine x_go (zc @hz @hy) ?_)
  apply Run.fresh (he := Enters.of Try.func67 rfl rfl)
  focus (simp only [push_cast, seval, hz, hy] <;> exact rfl)
  focus (exact x_ev (zc @hz @hy))
  exact hnb
  focus (exact x_al (zc @hz @hy))
  rintro x m' ⟨rfl, e4, rfl⟩
  have hsh := blk_shift 1 (ks := ks) (ls := ls) (e4 := e4) (life := y.life) (L := L) (vi := 0) (I := []) (W := List.replicate items.toNat 0) (T := T0 items.toNat)
  simp only [shE] at hsh
  simp only [List.length_cons, List.cons_append, List.nil_append, List.length_nil, Nat.zero_add]
  rw [hsh]
  generalize hE4 : (⟨e4.ver, e4.kind.shift 1⟩ : Ent) = e5
  dsimp only [AV.shift]
  dsimp only [S.put, optG]
  (refine x_go (zc @hz @hy) ?_)
  refine Wp.loop (fun (k : Nat) => { t := [(1, .int kind), (2, .int items), (3, .optr 0 0 0 0), (7, .optr 4 1 0 0), (8, .int (su k)), (18, .osl 6 L.length 0 L.length), (19, .int L.length), (20, .int k)], m := ⟨0, .row 2 [storA ks ls]⟩ :: blk 1 ks ls ⟨0, .row 2 [storA ks ls]⟩ e5 y.life L 0 [] (List.replicate items.toNat 0) (T0 items.toNat) [], n := 52 }) (fun k => k ≤ L.length) (fun k => L.length - k) 0 ?_ ?_ ?_
  · rw [hu0]
    (refine Le.of ?_ ?_ rfl rfl <;> (try simp only [push_cast, seval, hz, hy]) <;> (try (with_reducible rfl)))
    all_goals rfl
  · simp
  · intro k hk1
    have hsk := hub k
    have huk1 := hus k
    have huk2 := huk k
    generalize hs : su k = s at hsk huk1
    (refine x_go (zc @hz @hy) ?_)
    (apply Wp.cond; (exact x_ev (zc @hz @hy)))
    · intro hc
      simp only [decide_eq_true_eq, Int.ofNat_lt] at hc
      have hlo : 0 ≤ L.getD k 0 ∧ L.getD k 0 < (ls.length : Int) := hLi _ (by simp [hc])
      generalize hlv : L.getD k 0 = loan at hlo huk2
      have hlu := (hv.ln loan.toNat (by omega)).2.2
      generalize hx : ls.getD loan.toNat ln0 = x at hlu huk2
      rw [huk2] at huk1
      (refine x_go (zc @hz (zc @hy (zc @hlv @hx))) ?_)
      refine ⟨k + 1, ?_, by omega, by omega⟩
      rw [huk1]
      (refine Le.of ?_ ?_ rfl rfl <;> (try simp only [push_cast, seval, hz, hy, hlv, hx]) <;> (try (with_reducible rfl)))
    · intro hc
      simp only [decide_eq_false_iff_not, Int.ofNat_lt] at hc
      obtain rfl : k = L.length := by omega
      rw [hs]
      cases hA : decide (pk ≤ items) with
      | false =>
        (refine x_gg (zc @hz (zc @hy @hA)) ?_)
        (apply Run.pureP; (exact x_ev (zc @hz (zc @hy @hA))); (exact (Enters.of Try.func50 rfl rfl)); (exact hpk); (exact x_al (zc @hz (zc @hy @hA))); (try dsimp only [putA, optG]))
        (refine x_gg (zc @hz (zc @hy @hA)) ?_)
        (first | exact x_ret (zc @hz (zc @hy @hA)) | refine x_retZ (zc @hz (zc @hy @hA)) ?_)
      | true =>
        cases hB : decide (s ≤ z) with
        | false =>
          (refine x_gg (zc @hz (zc @hy (zc @hA @hB))) ?_)
          (apply Run.pureP; (exact x_ev (zc @hz (zc @hy (zc @hA @hB)))); (exact (Enters.of Try.func50 rfl rfl)); (exact hpk); (exact x_al (zc @hz (zc @hy (zc @hA @hB)))); (try dsimp only [putA, optG]))
          (refine x_gg (zc @hz (zc @hy (zc @hA @hB))) ?_)
          (first | exact x_ret (zc @hz (zc @hy (zc @hA @hB))) | refine x_retZ (zc @hz (zc @hy (zc @hA @hB))) ?_)
        | true =>
          have hfe := hfs e5
          generalize srch (fun _ => items.toNat) (okK ls y.life L) L.length [] = sr at hfe
          (refine x_gg (zc @hz (zc @hy (zc @hA @hB))) ?_)
          (apply Run.pureP; (exact x_ev (zc @hz (zc @hy (zc @hA @hB)))); (exact (Enters.of Try.func50 rfl rfl)); (exact hpk); (exact x_al (zc @hz (zc @hy (zc @hA @hB)))); (try dsimp only [putA, optG]))
          (refine x_gg (zc @hz (zc @hy (zc @hA @hB))) ?_)
          apply Run.spec (he := Enters.of Try.func58 rfl rfl) (hc := hfe)
          focus exact rfl
          focus (simp only [push_cast, seval, hz, hy, hA, hB] <;> exact rfl)
          focus (exact x_ev (zc @hz (zc @hy (zc @hA @hB))))
          rintro x' m' ⟨v2, U2, ⟨J, h1, rfl, h2, rfl⟩ | ⟨h1, rfl, h2, rfl⟩⟩
          · subst h1
            dsimp only [S.put, optG]
            (refine x_gg (zc @hz (zc @hy (zc @hA @hB))) ?_)
            (first | exact x_ret (zc @hz (zc @hy (zc @hA @hB))) | refine x_retZ (zc @hz (zc @hy (zc @hA @hB))) ?_)
          · subst h1
            dsimp only [S.put, optG]
            (refine x_gg (zc @hz (zc @hy (zc @hA @hB))) ?_)
            (first | exact x_ret (zc @hz (zc @hy (zc @hA @hB))) | refine x_retZ (zc @hz (zc @hy (zc @hA @hB))) ?_)
end Go.Proofs.Try
set_option maxHeartbeats 8000000
namespace Go.Proofs.Try
open Go.Vg

/-! how many items are needed -/
theorem cntN_congr {p q : Nat → Bool} : ∀ {n : Nat}, (∀ k, k < n → p k = q k) → cntN p n = cntN q n
  | 0, _ => rfl
  | n + 1, h => by simp only [cntN, cntN_congr (n := n) (fun k hk => h k (by omega)), h n (by omega)]
theorem cnt_loanP (ls : List Ln) (kind t : Int) : ∀ n, cntN (fun k => atB ls kind t ((loanP ls kind n).getD k 0).toNat) (loanP ls kind n).length = cntN (atB ls kind t) n
  | 0 => rfl
  | n + 1 => by
    have ih := cnt_loanP ls kind t n
    rw [loanP_succ]
    by_cases h : decide ((ls.getD n ln0).kind = kind) = true
    · rw [if_pos h, List.length_append, List.length_cons, List.length_nil, Nat.zero_add]
      have e0 : ((loanP ls kind n ++ [(n : Int)]).getD (loanP ls kind n).length 0).toNat = n := by rw [getD_last, Int.toNat_natCast]
      simp only [cntN, e0]
      have e := cntN_congr (p := fun k => atB ls kind t ((loanP ls kind n ++ [(n : Int)]).getD k 0).toNat) (q := fun k => atB ls kind t ((loanP ls kind n).getD k 0).toNat) (n := (loanP ls kind n).length) (fun k hk => by rw [getD_left hk])
      rw [e, ih]
    · rw [if_neg h, ih]
      have : atB ls kind t n = false := by unfold atB; rw [show decide ((ls.getD n ln0).kind = kind) = false by simpa using h]; rfl
      simp only [cntN]
      rw [this]; rfl
theorem atB_ov {ls : List Ln} {kind t : Int} {a b : Nat} (ha : atB ls kind t a = true) (hb : atB ls kind t b = true) : ovB (ls.getD a ln0) (ls.getD b ln0) = true := by
  unfold atB at ha hb
  rw [Bool.and_eq_true, decide_eq_true_eq, wi_iff] at ha hb
  unfold ovB
  rw [Bool.and_eq_true, Bool.and_eq_true, decide_eq_true_eq, decide_eq_true_eq, decide_eq_true_eq]
  omega
theorem ex_iff {ls : List Ln} {life kind : Int} {n : Nat} : exB ls life kind n = true ↔ ∃ J : List Int, J.length = (loanP ls kind ls.length).length ∧ RtF (fun _ => n) (okK ls life (loanP ls kind ls.length)) 0 J := by
  unfold exB
  rw [srch_isSome]
  constructor
  · rintro ⟨J, h1, h2, h3⟩; exact ⟨J, by simpa using h1, h3⟩
  · rintro ⟨J, h1, h2⟩; exact ⟨J, by simpa using h1, by simp, h2⟩
theorem ex_peak {ls : List Ln} {life kind : Int} {n : Nat} (h : exB ls life kind n = true) : pkP ls kind ls.length ≤ n := by
  obtain ⟨J, h1, h2⟩ := ex_iff.1 h
  have hc : ∀ t, pkC ls kind t ls.length ≤ n := fun t => by
    have := right_peak h2 (p := fun k => atB ls kind t ((loanP ls kind ls.length).getD k 0).toNat) (fun i k _ hi hk => atB_ov hi hk)
    rw [h1, cnt_loanP] at this
    unfold pkC; omega
  have : ∀ i, pkP ls kind i ≤ n := by
    intro i
    induction i with
    | zero => simp [pkP]
    | succ i ih =>
      have := hc (ls.getD i ln0).fr
      simp only [pkP]; split <;> omega
  exact this _
theorem ex_uses {ls : List Ln} {life kind : Int} (h0 : 0 ≤ life) {n : Nat} (h : exB ls life kind n = true) : sumN (uL ls (loanP ls kind ls.length)) (loanP ls kind ls.length).length ≤ (n : Int) * life := by
  obtain ⟨J, h1, h2⟩ := ex_iff.1 h
  have := right_sum h0 h2
  rw [h1] at this; exact this
theorem psV_ex {ks : List St} {ls : List Ln} (hv : SV ks ls) {kind items : Int} (hk : 0 ≤ kind ∧ kind < ks.length) (hi : 0 ≤ items) : psV ks ls kind items = exB ls (ks.getD kind.toNat st0).life kind items.toNat := by
  have hst := hv.st kind.toNat (by omega)
  unfold psV
  cases h : exB ls (ks.getD kind.toNat st0).life kind items.toNat with
  | false => simp
  | true =>
    have h1 := ex_peak h
    have h2 := ex_uses (by omega) h
    rw [Int.toNat_of_nonneg hi] at h1 h2
    rw [decide_eq_true h1, decide_eq_true h2]; rfl
def ndS (ex : Nat → Bool) : Nat → Nat → Int
  | 0, _ => -1
  | d + 1, j => if ex j = true then (j : Int) else ndS ex d (j + 1)
def ndV (ks : List St) (ls : List Ln) (kind : Int) : Int := ndS (exB ls (ks.getD kind.toNat st0).life kind) (ls.length + 1) 0
def nE (ks : List St) (ls : List Ln) (kind : Int) : Int := if ckK ks ls kind = 0 then (if 0 ≤ ndV ks ls kind then 0 else 3) else ckK ks ls kind
end Go.Proofs.Try
set_option maxHeartbeats 8000000
namespace Go.Proofs.Try
open Go.Vg

/-! a plan is right if it is right kind by kind -/
def cS (ks : List St) (ls : List Ln) (i : Nat) : Nat := (ks.getD (ls.getD i ln0).kind.toNat st0).items.toNat
def okS (ks : List St) (ls : List Ln) (p : List Int) : Bool := !wrongB ks ls p (p.length - 1)
/-- the items of some loans -/
def pick (L J : List Int) : List Int := L.map fun i => J.getD i.toNat 0
theorem pick_len (L J : List Int) : (pick L J).length = L.length := by simp [pick]
theorem pick_get {L J : List Int} {q : Nat} (h : q < L.length) : (pick L J).getD q 0 = J.getD (L.getD q 0).toNat 0 := by simp [pick, h]
theorem loanP_mono (ls : List Ln) (kind : Int) {n : Nat} : ∀ {N : Nat}, n ≤ N → ∃ R, loanP ls kind N = loanP ls kind n ++ R
  | 0, h => by obtain rfl : n = 0 := by omega
               exact ⟨[], by simp⟩
  | N + 1, h => by
    by_cases hn : n = N + 1
    · subst hn; exact ⟨[], by simp⟩
    · obtain ⟨R, hR⟩ := loanP_mono ls kind (n := n) (N := N) (by omega)
      rw [loanP_succ]
      split
      · exact ⟨R ++ [(N : Int)], by rw [hR, List.append_assoc]⟩
      · exact ⟨R, hR⟩
/-- the place of a loan among those of its kind -/
def plc (ls : List Ln) (kind : Int) (n : Nat) : Nat := (loanP ls kind n).length
theorem plc_succ (ls : List Ln) (kind : Int) (n : Nat) : plc ls kind (n + 1) = if (ls.getD n ln0).kind = kind then plc ls kind n + 1 else plc ls kind n := by
  unfold plc; rw [loanP_succ]
  by_cases h : (ls.getD n ln0).kind = kind
  · rw [if_pos (decide_eq_true h), if_pos h, List.length_append]; rfl
  · rw [if_neg (by rw [decide_eq_false h]; simp), if_neg h]
theorem loanP_at {ls : List Ln} {kind : Int} {n N : Nat} (h : n < N) (hk : (ls.getD n ln0).kind = kind) : plc ls kind n < (loanP ls kind N).length ∧ (loanP ls kind N).getD (plc ls kind n) 0 = (n : Int) := by
  obtain ⟨R, hR⟩ := loanP_mono ls kind (n := n + 1) (N := N) (by omega)
  have h1 : loanP ls kind (n + 1) = loanP ls kind n ++ [(n : Int)] := by rw [loanP_succ, if_pos (decide_eq_true hk)]
  rw [hR, h1]
  refine ⟨by simp [plc], ?_⟩
  rw [List.append_assoc]
  simp [plc]
theorem plc_at {ls : List Ln} {kind : Int} {N q : Nat} (h : q < (loanP ls kind N).length) : ∃ n : Nat, n < N ∧ (ls.getD n ln0).kind = kind ∧ (loanP ls kind N).getD q 0 = (n : Int) ∧ plc ls kind n = q := by
  induction N with
  | zero => simp [loanP] at h
  | succ N ih =>
    rw [loanP_succ] at h ⊢
    split at h
    · rename_i hk
      rw [if_pos hk]
      rw [List.length_append, List.length_singleton] at h
      by_cases hq : q < (loanP ls kind N).length
      · obtain ⟨n, h1, h2, h3, h4⟩ := ih hq
        exact ⟨n, by omega, h2, by rw [getD_left hq]; exact h3, h4⟩
      · obtain rfl : q = (loanP ls kind N).length := by omega
        exact ⟨N, by omega, of_decide_eq_true hk, by rw [getD_last], rfl⟩
    · rename_i hk
      rw [if_neg hk]
      obtain ⟨n, h1, h2, h3, h4⟩ := ih h
      exact ⟨n, by omega, h2, h3, h4⟩
section
variable {ks : List St} {ls : List Ln} {kind : Int}
theorem mate_iff {J : List Int} {i n : Nat} (hk : (ls.getD i ln0).kind = kind) : mateB ls J i n = true ↔ (ls.getD n ln0).kind = kind ∧ J.getD n 0 = J.getD i 0 := by
  unfold mateB; rw [Bool.and_eq_true, decide_eq_true_eq, decide_eq_true_eq, hk]
theorem sum_kind {J : List Int} {i : Nat} (hk : (ls.getD i ln0).kind = kind) : ∀ n, n ≤ ls.length → sumU ls J i n = sW (uL ls (loanP ls kind ls.length)) (pick (loanP ls kind ls.length) J) (J.getD i 0) (plc ls kind n)
  | 0, _ => rfl
  | n + 1, hn => by
    have ih := sum_kind (J := J) hk n (by omega)
    rw [plc_succ]
    simp only [sumU]
    by_cases h : (ls.getD n ln0).kind = kind
    · obtain ⟨h1, h2⟩ := loanP_at (N := ls.length) (by omega) h
      rw [if_pos h]
      simp only [sW]
      rw [pick_get h1, h2, Int.toNat_natCast]
      have hu : uL ls (loanP ls kind ls.length) (plc ls kind n) = (ls.getD n ln0).uses := by unfold uL; rw [h2, Int.toNat_natCast]
      by_cases h3 : J.getD n 0 = J.getD i 0
      · rw [if_pos ((mate_iff hk).2 ⟨h, h3⟩), if_pos h3, ih, hu]
      · rw [if_neg (fun hm => h3 ((mate_iff hk).1 hm).2), if_neg h3, ih]
    · rw [if_neg h, if_neg (fun hm => h ((mate_iff hk).1 hm).1), ih]
theorem clash_kind {J : List Int} {i : Nat} (hi : i < ls.length) (hk : (ls.getD i ln0).kind = kind) : ∀ n, n ≤ ls.length → clashB ls J i n = (lnI (pick (loanP ls kind ls.length) J) (J.getD i 0) (plc ls kind n)).any fun a => oL ls (loanP ls kind ls.length) a (plc ls kind i)
  | 0, _ => rfl
  | n + 1, hn => by
    have ih := clash_kind (J := J) hi hk n (by omega)
    rw [plc_succ]
    simp only [clashB]
    by_cases h : (ls.getD n ln0).kind = kind
    · obtain ⟨h1, h2⟩ := loanP_at (N := ls.length) (by omega) h
      obtain ⟨h4, h5⟩ := loanP_at (N := ls.length) hi hk
      rw [if_pos h, lnI_succ, pick_get h1, h2, Int.toNat_natCast]
      have ho : oL ls (loanP ls kind ls.length) (plc ls kind n) (plc ls kind i) = ovB (ls.getD n ln0) (ls.getD i ln0) := by unfold oL; rw [h2, h5, Int.toNat_natCast, Int.toNat_natCast]
      by_cases h3 : J.getD n 0 = J.getD i 0
      · rw [if_pos h3, List.any_append, ih, (mate_iff hk).2 ⟨h, h3⟩]
        simp [ho]
      · rw [if_neg h3, ih, show mateB ls J i n = false by rw [← Bool.not_eq_true]; exact fun hm => h3 ((mate_iff hk).1 hm).2]
        simp
    · rw [if_neg h, ih, show mateB ls J i n = false by rw [← Bool.not_eq_true]; exact fun hm => h ((mate_iff hk).1 hm).1]
      simp
theorem ok_take {J : List Int} {i : Nat} (hi : i < J.length) : okS ks ls (J.take (i + 1)) = !wrongB ks ls J i := by
  unfold okS
  rw [List.length_take, Nat.min_eq_left (by omega), Nat.add_sub_cancel, wrongB_take]
theorem okU_take {u : Nat → Int} {o : Nat → Nat → Bool} {life : Int} {J : List Int} {k : Nat} (h : k < J.length) : okU u o life (J.take (k + 1)) = (decide (sW u J (J.getD k 0) k + u k ≤ life) && !(lnI J (J.getD k 0) k).any fun i => o i k) := by
  have hl : (J.take k).length = k := by rw [List.length_take, Nat.min_eq_left (by omega)]
  have h1 := sW_left u (J.take k) (J.drop k) (J.getD k 0) (n := k) (by omega)
  have h2 := lnI_left (J.take k) (J.drop k) (J.getD k 0) (n := k) (by omega)
  rw [List.take_append_drop] at h1 h2
  rw [take_succ_getD h, okU_snoc, hl, h1, h2]
theorem ok_kind {J : List Int} (hJ : J.length = ls.length) {i : Nat} (hi : i < ls.length) (hk : (ls.getD i ln0).kind = kind) (h0 : 0 ≤ J.getD i 0) : okS ks ls (J.take (i + 1)) = okK ls (ks.getD kind.toNat st0).life (loanP ls kind ls.length) ((pick (loanP ls kind ls.length) J).take (plc ls kind i + 1)) := by
  obtain ⟨h1, h2⟩ := loanP_at (N := ls.length) hi hk
  rw [ok_take (by omega)]
  unfold okK
  rw [okU_take (by rw [pick_len]; exact h1), pick_get h1, h2, Int.toNat_natCast]
  unfold wrongB
  rw [decide_eq_false (show ¬ J.getD i 0 < 0 by omega), clash_kind hi hk i (by omega), sum_kind hk i (by omega), hk, Bool.false_or, Bool.not_or, Bool.and_comm]
  have hu : uL ls (loanP ls kind ls.length) (plc ls kind i) = (ls.getD i ln0).uses := by unfold uL; rw [h2, Int.toNat_natCast]
  rw [hu]
  congr 1
  rw [Bool.eq_iff_iff]
  simp only [Bool.not_eq_true', decide_eq_true_eq, decide_eq_false_iff_not]
  omega
end
/-- right in all kinds, and right -/
theorem right_kinds {ks : List St} {ls : List Ln} (hv : SV ks ls) {J : List Int} (hJ : J.length = ls.length) : RtF (cS ks ls) (okS ks ls) 0 J ↔ ∀ k : Nat, k < ks.length → RtF (fun _ => (ks.getD k st0).items.toNat) (okK ls (ks.getD k st0).life (loanP ls (k : Int) ls.length)) 0 (pick (loanP ls (k : Int) ls.length) J) := by
  constructor
  · intro h k hk q _ hq
    rw [pick_len] at hq
    obtain ⟨n, h1, h2, h3, h4⟩ := plc_at hq
    obtain ⟨j, h5, h6, h7⟩ := h n (by omega) (by omega)
    have hok := ok_kind (ks := ks) hJ h1 h2 (by omega)
    rw [Int.toNat_natCast] at hok
    refine ⟨j, ?_, by rw [pick_get hq, h3, Int.toNat_natCast]; exact h6, ?_⟩
    · unfold cS at h5; rw [h2, Int.toNat_natCast] at h5; exact h5
    · rw [← h4, ← hok]; exact h7
  · intro h i _ hi
    have hi : i < ls.length := by omega
    have hki := (hv.ln i hi).1
    obtain ⟨k, hk⟩ : ∃ k : Nat, (ls.getD i ln0).kind = (k : Int) := ⟨(ls.getD i ln0).kind.toNat, by omega⟩
    obtain ⟨h1, h2⟩ := loanP_at (N := ls.length) hi hk
    obtain ⟨j, h5, h6, h7⟩ := h k (by omega) (plc ls (k : Int) i) (by omega) (by rw [pick_len]; exact h1)
    rw [pick_get h1, h2, Int.toNat_natCast] at h6
    have hok := ok_kind (ks := ks) hJ hi hk (by omega)
    rw [Int.toNat_natCast] at hok
    refine ⟨j, ?_, h6, ?_⟩
    · unfold cS; rw [hk, Int.toNat_natCast]; exact h5
    · rw [hok]; exact h7
/-- what each kind says, put together -/
def glue (ls : List Ln) (f : Nat → List Int) (n : Nat) : List Int := (List.range n).map fun i => (f (ls.getD i ln0).kind.toNat).getD (plc ls (ls.getD i ln0).kind i) 0
theorem glue_len (ls : List Ln) (f : Nat → List Int) (n : Nat) : (glue ls f n).length = n := by simp [glue]
theorem glue_get {ls : List Ln} {f : Nat → List Int} {n i : Nat} (h : i < n) : (glue ls f n).getD i 0 = (f (ls.getD i ln0).kind.toNat).getD (plc ls (ls.getD i ln0).kind i) 0 := by simp [glue, h]
theorem pick_glue {ls : List Ln} {f : Nat → List Int} {k : Nat} (hf : (f k).length = (loanP ls (k : Int) ls.length).length) : pick (loanP ls (k : Int) ls.length) (glue ls f ls.length) = f k := by
  apply List.ext_getElem (by rw [pick_len, hf])
  intro q h1 h2
  rw [pick_len] at h1
  have e1 := pick_get (J := glue ls f ls.length) h1
  obtain ⟨n, h3, h4, h5, h6⟩ := plc_at h1
  rw [h5, Int.toNat_natCast, glue_get h3, h4, Int.toNat_natCast, h6] at e1
  simpa [List.getD_eq_getElem?_getD, h1, h2, pick_len] using e1
theorem pick_ext {ls : List Ln} {J J' : List Int} {k : Int} {q : Nat} (hq : q < (loanP ls k ls.length).length) {n : Nat} (hn : plc ls k n = q) (h : J.take n = J'.take n) : (pick (loanP ls k ls.length) J).take q = (pick (loanP ls k ls.length) J').take q := by
  have hl : ((loanP ls k ls.length).take q).length = q := by rw [List.length_take]; omega
  unfold pick
  rw [← List.map_take, ← List.map_take]
  apply List.map_congr_left
  intro x hx
  have hm : x ∈ loanP ls k n := by
    rcases Nat.le_total n ls.length with hnl | hnl
    · obtain ⟨R, hR⟩ := loanP_mono ls k hnl
      rw [hR, ← hn, plc, List.take_left'] at hx
      · exact hx
      · rfl
    · obtain ⟨R, hR⟩ := loanP_mono ls k hnl
      rw [hR]; exact List.mem_append_left _ (List.mem_of_mem_take hx)
  obtain ⟨i, rfl, hi, _⟩ := loanP_mem x hm
  rw [Int.toNat_natCast]
  have := congrArg (fun l => l.getD i 0) h
  simpa [List.getD_eq_getElem?_getD, List.getElem?_take, hi] using this
theorem getD_ext {J J' : List Int} (hl : J.length = J'.length) (h : ∀ i, i < J.length → J.getD i 0 = J'.getD i 0) : J = J' := by
  apply List.ext_getElem hl
  intro i h1 h2
  have := h i h1
  simpa [List.getD_eq_getElem?_getD, h1, h2] using this
theorem take_ext {J J' : List Int} {n : Nat} (hl : J.length = J'.length) (h : ∀ i, i < n → J.getD i 0 = J'.getD i 0) : J.take n = J'.take n := by
  apply getD_ext (by simp [hl])
  intro i hi
  have : i < n := by rw [List.length_take] at hi; omega
  have := h i this
  simp only [List.getD_eq_getElem?_getD, List.getElem?_take, *, if_true] at *
  exact this
/-- two lists of the same length: the first place where they differ -/
theorem first_diff : ∀ {n : Nat} (J J' : List Int), J.length = n → J'.length = n → J = J' ∨ ∃ i, i < n ∧ J.take i = J'.take i ∧ J.getD i 0 ≠ J'.getD i 0 := by
  intro n J J' h h'
  by_cases he : ∃ i, i < n ∧ J.getD i 0 ≠ J'.getD i 0
  · right
    have : ∀ m, (∃ i, i < m ∧ i < n ∧ J.getD i 0 ≠ J'.getD i 0) → ∃ i, i < n ∧ (∀ j, j < i → J.getD j 0 = J'.getD j 0) ∧ J.getD i 0 ≠ J'.getD i 0 := by
      intro m
      induction m with
      | zero => rintro ⟨i, h1, _⟩; omega
      | succ m ih =>
        rintro ⟨i, h1, h2, h3⟩
        by_cases hx : ∃ i, i < m ∧ i < n ∧ J.getD i 0 ≠ J'.getD i 0
        · exact ih hx
        · obtain rfl : i = m := by
            apply Classical.byContradiction
            intro hne; exact hx ⟨i, by omega, h2, h3⟩
          refine ⟨i, h2, fun j hj => ?_, h3⟩
          apply Classical.byContradiction
          intro hne; exact hx ⟨j, hj, by omega, hne⟩
    obtain ⟨i, h1, h2⟩ := he
    obtain ⟨i, h3, h4, h5⟩ := this n ⟨i, h1, h1, h2⟩
    exact ⟨i, h3, take_ext (by omega) h4, h5⟩
  · left
    apply getD_ext (by omega)
    intro i hi
    apply Classical.byContradiction
    intro hne; exact he ⟨i, by omega, hne⟩
/-- the first plan of all is the first one of each kind -/
theorem glue_first {ks : List St} {ls : List Ln} (hv : SV ks ls) {f : Nat → List Int} (h : ∀ k, k < ks.length → srch (fun _ => (ks.getD k st0).items.toNat) (okK ls (ks.getD k st0).life (loanP ls (k : Int) ls.length)) (loanP ls (k : Int) ls.length).length [] = some (f k)) : srch (cS ks ls) (okS ks ls) ls.length [] = some (glue ls f ls.length) := by
  have hfl : ∀ k, k < ks.length → (f k).length = (loanP ls (k : Int) ls.length).length := fun k hk => by have := (srch_some (h k hk)).1.1; simpa using this
  have hgl := glue_len ls f ls.length
  refine srch_eq ⟨by simp [hgl], by simp, (right_kinds hv hgl).2 fun k hk => ?_⟩ ?_
  · rw [pick_glue (hfl k hk)]
    exact (srch_some (h k hk)).1.2.2
  · rintro J ⟨h1, h2, h3⟩
    have h1 : J.length = ls.length := by simpa using h1
    rcases first_diff (n := ls.length) (glue ls f ls.length) J hgl h1 with he | ⟨i, h4, h5, h6⟩
    · exact .inl he
    · right
      refine ⟨i, by rw [hgl]; exact h4, h5, ?_⟩
      have hki := (hv.ln i h4).1
      obtain ⟨k, hk⟩ : ∃ k : Nat, (ls.getD i ln0).kind = (k : Int) := ⟨(ls.getD i ln0).kind.toNat, by omega⟩
      have hkk : k < ks.length := by omega
      obtain ⟨g1, g2⟩ := loanP_at (N := ls.length) h4 hk
      have hpg := pick_glue (hfl k hkk)
      have hsm := (srch_some (h k hkk)).2 (pick (loanP ls (k : Int) ls.length) J) ⟨by simp [pick_len], by simp, (right_kinds hv h1).1 h3 k hkk⟩
      have hpe := pick_ext g1 rfl h5
      rw [hpg] at hpe
      have hgi : (f k).getD (plc ls (k : Int) i) 0 = (glue ls f ls.length).getD i 0 := by rw [glue_get h4, hk, Int.toNat_natCast]
      have hpi : (pick (loanP ls (k : Int) ls.length) J).getD (plc ls (k : Int) i) 0 = J.getD i 0 := by rw [pick_get g1, g2, Int.toNat_natCast]
      rcases hsm with e | ⟨a, a1, a2, a3⟩
      · rw [e] at hgi; rw [hgi] at hpi; exact absurd hpi h6
      · have hg : ∀ {A B : List Int} {n m : Nat}, A.take n = B.take n → m < n → A.getD m 0 = B.getD m 0 := by
          intro A B n m e hm
          have := congrArg (fun l => l.getD m 0) e
          simpa [List.getD_eq_getElem?_getD, List.getElem?_take, hm] using this
        rcases Nat.lt_trichotomy a (plc ls (k : Int) i) with h7 | h7 | h7
        · have := hg hpe h7; omega
        · subst h7; omega
        · have := hg a2 h7; omega
end Go.Proofs.Try
set_option maxHeartbeats 8000000
namespace Go.Proofs.Try
open Go.Vg

/-! a store of one kind alone -/
end Go.Proofs.Try
set_option maxHeartbeats 8000000
namespace Go.Proofs.Try
open Go.Vg

/-! the document's list of all right plans -/
theorem plF_snoc (f : Nat → List (List Int)) : ∀ d j, plF f (d + 1) j = plF f d j ++ f (j + d)
  | 0, j => by simp [plF]
  | d + 1, j => by
    have := plF_snoc f d (j + 1)
    rw [plF, this]
    simp only [plF]
    rw [List.append_assoc, show j + 1 + d = j + (d + 1) by omega]
end Go.Proofs.Try
set_option maxHeartbeats 8000000
namespace Go.Proofs.Try
open Go.Vg

/-! how many plans are right -/
def kdL (x : Ln) : Nat := x.kind.toNat
def itK (ks : List St) (k : Nat) : Nat := (ks.getD k st0).items.toNat
def okG (ks : List St) (l : Ln) (s : List Ln) : Bool := okC Ln.fr Ln.to Ln.uses (ks.getD (kdL l) st0).life l s
def stP (ls : List Ln) (p : List Int) : Nat → (Nat → Nat → List Ln)
  | 0 => fun _ _ => []
  | m + 1 => updS (stP ls p m) (kdL (ls.getD m ln0)) (p.getD m 0).toNat (ls.getD m ln0)
theorem stP_congr {ls : List Ln} {p q : List Int} : ∀ {m : Nat}, (∀ i, i < m → p.getD i 0 = q.getD i 0) → stP ls p m = stP ls q m
  | 0, _ => rfl
  | m + 1, h => by rw [stP, stP, stP_congr (fun i hi => h i (by omega)), h m (by omega)]
section
variable {ks : List St} {ls : List Ln} {p : List Int} {i : Nat}
theorem mate_nat (hv : SV ks ls) (hi : i < ls.length) (hp : ∀ j, j ≤ i → 0 ≤ p.getD j 0) {m : Nat} (hm : m < i) : mateB ls p i m = true ↔ (kdL (ls.getD i ln0) = kdL (ls.getD m ln0) ∧ (p.getD i 0).toNat = (p.getD m 0).toNat) := by
  have h1 := (hv.ln i hi).1.1
  have h2 := (hv.ln m (by omega)).1.1
  have h3 := hp i (by omega)
  have h4 := hp m (by omega)
  unfold mateB kdL
  simp only [Bool.and_eq_true, decide_eq_true_eq]
  omega
theorem clash_st (hv : SV ks ls) (hi : i < ls.length) (hp : ∀ j, j ≤ i → 0 ≤ p.getD j 0) : ∀ m, m ≤ i → clashB ls p i m = (stP ls p m (kdL (ls.getD i ln0)) (p.getD i 0).toNat).any fun x => decide (x.fr < (ls.getD i ln0).to) && decide ((ls.getD i ln0).fr < x.to)
  | 0, _ => rfl
  | m + 1, h => by
    have hmt := mate_nat hv hi hp (m := m) (by omega)
    rw [clashB, stP, clash_st hv hi hp m (by omega)]
    unfold updS
    by_cases c : mateB ls p i m = true
    · have hk : (ls.getD m ln0).kind = (ls.getD i ln0).kind := by
        unfold mateB at c; simp only [Bool.and_eq_true, decide_eq_true_eq] at c; exact c.1
      rw [if_pos (hmt.1 c), c, List.any_cons, Bool.true_and, Bool.or_comm]
      unfold ovB
      rw [decide_eq_true hk, Bool.true_and]
    · rw [if_neg (fun q => c (hmt.2 q)), show mateB ls p i m = false by simpa using c, Bool.false_and, Bool.or_false]
theorem sum_st (hv : SV ks ls) (hi : i < ls.length) (hp : ∀ j, j ≤ i → 0 ≤ p.getD j 0) : ∀ m, m ≤ i → sumU ls p i m = usC Ln.uses (stP ls p m (kdL (ls.getD i ln0)) (p.getD i 0).toNat)
  | 0, _ => rfl
  | m + 1, h => by
    have hmt := mate_nat hv hi hp (m := m) (by omega)
    rw [sumU, stP, sum_st hv hi hp m (by omega)]
    unfold updS
    by_cases c : mateB ls p i m = true
    · rw [if_pos (hmt.1 c), if_pos c, usC, Int.add_comm]
    · rw [if_neg (fun q => c (hmt.2 q)), if_neg c]
theorem wrong_st (hv : SV ks ls) (hi : i < ls.length) (hp : ∀ j, j ≤ i → 0 ≤ p.getD j 0) : wrongB ks ls p i = !okG ks (ls.getD i ln0) (stP ls p i (kdL (ls.getD i ln0)) (p.getD i 0).toNat) := by
  have h0 := hp i (by omega)
  unfold wrongB okG okC
  rw [clash_st hv hi hp i (by omega), sum_st hv hi hp i (by omega), decide_eq_false (by omega), Bool.false_or, Bool.not_and, ← List.not_any_eq_all_not, Bool.not_not]
  congr 1
  unfold kdL
  rw [Bool.eq_iff_iff]
  simp only [decide_eq_true_eq, Bool.not_eq_true', decide_eq_false_iff_not]
  omega
end
theorem plF_sum (f : Nat → List (List Int)) : ∀ d, (plF f d 0).length = sgN d fun j => (f j).length
  | 0 => rfl
  | d + 1 => by rw [plF_snoc, List.length_append, plF_sum f d, sgN, Nat.zero_add]
theorem pl_cnt {ks : List St} {ls : List Ln} (hv : SV ks ls) : ∀ (r : Nat) (I : List Int), I.length + r = ls.length → (∀ i, i < I.length → 0 ≤ I.getD i 0) → (plL (cS ks ls) (okS ks ls) r I).length = cnK kdL (itK ks) (okG ks) (ls.drop I.length) (stP ls I I.length)
  | 0, I, h, _ => by
    rw [List.drop_of_length_le (by omega)]; rfl
  | r + 1, I, h, hI => by
    have hd : ls.drop I.length = ls.getD I.length ln0 :: ls.drop (I.length + 1) := by
      rw [List.drop_eq_getElem_cons (by omega)]; simp [show I.length < ls.length by omega]
    rw [hd, plL, plF_sum, cnK]
    refine sgN_congr fun j _ => ?_
    have hl : (I ++ [(j : Int)]).length = I.length + 1 := by simp
    have hg : (I ++ [(j : Int)]).getD I.length 0 = (j : Int) := by simp
    have hlo : ∀ i, i < I.length → (I ++ [(j : Int)]).getD i 0 = I.getD i 0 := fun i hi => by simp [List.getElem?_append_left hi]
    have hp : ∀ i, i ≤ I.length → 0 ≤ (I ++ [(j : Int)]).getD i 0 := fun i hi => by
      by_cases e : i = I.length
      · subst e; rw [hg]; omega
      · rw [hlo i (by omega)]; exact hI i (by omega)
    have hok : okS ks ls (I ++ [(j : Int)]) = okG ks (ls.getD I.length ln0) (stP ls I I.length (kdL (ls.getD I.length ln0)) j) := by
      unfold okS
      rw [hl, Nat.add_sub_cancel, wrong_st hv (by omega) hp, Bool.not_not, hg, Int.toNat_natCast, stP_congr hlo]
    rw [hok]
    split
    · rw [pl_cnt hv r (I ++ [(j : Int)]) (by omega) (fun i hi => hp i (by omega)), hl, stP, hg, Int.toNat_natCast, stP_congr hlo]
    · rfl
/-- the loans of a kind -/
def kdsL (ls : List Ln) (k : Nat) : List Ln := ls.filter fun x => decide (x.kind = (k : Int))
def e0S : Nat → Nat → List Ln := fun _ _ => []
def cnA (ks : List St) (ls : List Ln) (k : Nat) : Nat := cnK kdL (itK ks) (okG ks) (kdsL ls k) e0S
def pdK (ks : List St) (ls : List Ln) : Nat → Nat
  | 0 => 1
  | k + 1 => pdK ks ls k * cnA ks ls k
theorem okG_perm (ks : List St) (l : Ln) (s s' : List Ln) (h : s.Perm s') : okG ks l s = okG ks l s' := okC_perm l s s' h
theorem okG_swap (ks : List St) (a b : Ln) (ha : 0 ≤ a.uses) (hb : 0 ≤ b.uses) (hk : kdL a = kdL b) (s : List Ln) : (okG ks a s && okG ks b (a :: s)) = (okG ks b s && okG ks a (b :: s)) := by
  unfold okG
  rw [hk]
  exact okC_swap a b ha hb s
theorem cnt_order (ks : List St) {ls ls' : List Ln} (h : ls.Perm ls') (hv : ∀ l ∈ ls, 0 ≤ l.uses) (st : Nat → Nat → List Ln) : cnK kdL (itK ks) (okG ks) ls st = cnK kdL (itK ks) (okG ks) ls' st :=
  cnK_order (V := fun l => 0 ≤ l.uses) (okG_perm ks) (fun a b ha hb hk s => okG_swap ks a b ha hb hk.symm s) h hv st
theorem cnt_kinds (ks : List St) {ls : List Ln} (hv : ∀ l ∈ ls, 0 ≤ l.kind ∧ 0 ≤ l.uses) : ∀ K : Nat, cnK kdL (itK ks) (okG ks) (ls.filter fun x => decide (x.kind < (K : Int))) e0S = pdK ks ls K
  | 0 => by
    rw [List.filter_eq_nil_iff.2 (fun x hx => by have := (hv x hx).1; simp only [decide_eq_true_eq]; omega)]
    rfl
  | K + 1 => by
    have hp := List.filter_append_perm (fun x : Ln => decide (x.kind < (K : Int))) (ls.filter fun x => decide (x.kind < ((K + 1 : Nat) : Int)))
    rw [List.filter_filter, List.filter_filter] at hp
    have e1 : ls.filter (fun x => decide (x.kind < (K : Int)) && decide (x.kind < ((K + 1 : Nat) : Int))) = ls.filter fun x => decide (x.kind < (K : Int)) := List.filter_congr fun x _ => by
      rw [Bool.eq_iff_iff]; simp only [Bool.and_eq_true, decide_eq_true_eq]; omega
    have e2 : ls.filter (fun x => !decide (x.kind < (K : Int)) && decide (x.kind < ((K + 1 : Nat) : Int))) = kdsL ls K := List.filter_congr fun x _ => by
      rw [Bool.eq_iff_iff]; simp only [Bool.and_eq_true, Bool.not_eq_true', decide_eq_true_eq, decide_eq_false_iff_not]; omega
    rw [e1, e2] at hp
    rw [← cnt_order ks hp (fun l hl => ?_) e0S, cnK_app, cnt_kinds ks hv K]
    · rfl
    · intro a ha b hb
      simp only [kdsL, List.mem_filter, decide_eq_true_eq] at ha hb
      have h1 := (hv a ha.1).1
      unfold kdL
      omega
    · rcases List.mem_append.1 hl with h | h
      · exact (hv l (List.mem_filter.1 h).1).2
      · exact (hv l (List.mem_filter.1 h).1).2
theorem SV.mem {ks : List St} {ls : List Ln} (hv : SV ks ls) {l : Ln} (h : l ∈ ls) : (0 ≤ l.kind ∧ l.kind < ks.length) ∧ (0 ≤ l.fr ∧ l.fr < l.to ∧ l.to ≤ 1440) ∧ 0 ≤ l.uses ∧ l.uses ≤ 100 := by
  obtain ⟨i, hi, rfl⟩ := List.getElem_of_mem h
  have := hv.ln i hi
  simpa [List.getD, hi] using this
/-- the document counts what the kinds count -/
theorem pl_kinds {ks : List St} {ls : List Ln} (hv : SV ks ls) : (plL (cS ks ls) (okS ks ls) ls.length []).length = pdK ks ls ks.length := by
  rw [pl_cnt hv ls.length [] (by simp) (fun i hi => absurd hi (Nat.not_lt_zero _)), ← cnt_kinds ks (fun l hl => ⟨(hv.mem hl).1.1, (hv.mem hl).2.2.1⟩) ks.length]
  rw [List.filter_eq_self.2 (fun x hx => decide_eq_true (hv.mem hx).1.2)]
  rfl
theorem pd_le {ks : List St} {ls : List Ln} (hv : ∀ l ∈ ls, 0 ≤ l.kind ∧ 0 ≤ l.uses) {m : Nat} (hm : 1 ≤ m) (hi : ∀ l ∈ ls, itK ks (kdL l) ≤ m) (K : Nat) : pdK ks ls K ≤ m ^ ls.length := by
  rw [← cnt_kinds ks hv K]
  refine Nat.le_trans (cnK_le _ (fun l hl => hi l (List.mem_filter.1 hl).1) _) (Nat.pow_le_pow_right hm (List.length_filter_le _ _))
theorem cnA_le {ks : List St} {ls : List Ln} {m : Nat} (hm : 1 ≤ m) (hi : ∀ l ∈ ls, itK ks (kdL l) ≤ m) (K : Nat) : cnA ks ls K ≤ m ^ ls.length :=
  Nat.le_trans (cnK_le _ (fun l hl => hi l (List.mem_filter.1 hl).1) _) (Nat.pow_le_pow_right hm (List.length_filter_le _ _))
/-- what the program counts of a kind -/
theorem cn_kind {ks : List St} {ls : List Ln} (hv : SV ks ls) {k : Nat} {so : List (Int × Int) → List (Int × Int)} (hso : ∀ s, (so s).Perm s) {sls : List Ln} (hp : sls.Perm (kdsL ls k)) (ha : Asc Ln.fr sls) :
    cP Ln.fr Ln.to Ln.uses (ks.getD k st0).life so sls (List.replicate (itK ks k) (0, 0)) = cnA ks ls k := by
  have hm : ∀ l ∈ sls, l ∈ ls ∧ kdL l = k := fun l hl => by
    have := hp.mem_iff.1 hl
    simp only [kdsL, List.mem_filter, decide_eq_true_eq] at this
    refine ⟨this.1, ?_⟩
    unfold kdL; omega
  have h1 : ∀ l ∈ sls, LV Ln.fr Ln.to Ln.uses l := fun l hl => by
    have := hv.mem (hm l hl).1
    exact ⟨this.2.1.1, this.2.1.2.1, this.2.2.1⟩
  rw [cP_gS hso sls _ h1 ha]
  unfold cnA
  rw [← cnt_order ks hp (fun l hl => (h1 l hl).u0) e0S]
  have h2 := cnK_gS (life := (ks.getD k st0).life) (kd := kdL) (it := itK ks) (k := k) sls e0S (fun l hl => ⟨(hm l hl).2, h1 l hl⟩) ha (fun _ _ _ x hx => by cases hx)
  have h3 : shL Ln.to Ln.uses (e0S k) (itK ks k) = List.replicate (itK ks k) (0, 0) := by
    apply List.ext_getElem
    · simp [shL]
    · intro i h4 h5; simp [shL, e0S, mxT, usC]
  rw [h3] at h2
  rw [← h2]
  refine cnK_same sls (fun l hl s => ?_) e0S
  unfold okG
  rw [(hm l hl).2]
end Go.Proofs.Try
set_option maxHeartbeats 8000000
namespace Go.Proofs.Try
open Go.Vg

/-! the document's store of one kind -/
end Go.Proofs.Try
set_option maxHeartbeats 8000000
namespace Go.Proofs.Try
open Go.Vg

/-! how many items the document says are needed -/
end Go.Proofs.Try
set_option maxHeartbeats 8000000
namespace Go.Proofs.Try
open Go.Vg

/-! stores that the statements do not try -/
theorem any_yes {n i : Nat} {p : Nat → Bool} (h : i < n) (hp : p i = true) : (List.range n).any p = true := List.any_eq_true.2 ⟨i, List.mem_range.2 h, hp⟩
theorem any_no {n : Nat} {p : Nat → Bool} (h : ∀ i, i < n → p i = false) : (List.range n).any p = false := List.any_eq_false.2 fun i hi => by rw [h i (List.mem_range.1 hi)]; simp
def lgK (ks : List St) (i : Nat) : Bool := decide (i < 20) && (decide (4 < (ks.getD i st0).items) && decide ((ks.getD i st0).items ≤ 8))
def lgS (ks : List St) (ls : List Ln) : Bool := (decide (6 < (ls.length : Int)) && decide ((ls.length : Int) ≤ 20)) || (List.range ks.length).any (lgK ks)
theorem large_pure (ks : List St) (ls : List Ln) (hk : ks.length ≤ 9223372036854775807) (hl : ls.length ≤ 9223372036854775807) : Pure Try.prog 15 [storA ks ls] (.bool (lgS ks ls)) := by
  unfold lgS
  by_cases h1 : 6 < (ls.length : Int) ∧ (ls.length : Int) ≤ 20
  · have e1 : decide (6 < (ls.length : Int)) = true := decide_eq_true h1.1
    have e2 : decide ((ls.length : Int) ≤ 20) = true := decide_eq_true h1.2
    (refine Spec.bd 0 Try.func15 Try.results15 Try.ntmps15 ?_; simp only [entry, zipArgs, Nat.reduceAdd])
    (refine x_gg (zc @e1 @e2) ?_)
    (first | exact x_ret (zc @e1 @e2) | refine x_retZ (zc @e1 @e2) ?_)
  · have e1 : (decide (6 < (ls.length : Int)) && decide ((ls.length : Int) ≤ 20)) = false := by
      rw [← Bool.not_eq_true, Bool.and_eq_true, decide_eq_true_eq, decide_eq_true_eq]; exact h1
    rw [e1, Bool.false_or]
    have hyes := fun i (h : i < ks.length) => any_yes (p := lgK ks) h
    have hno := any_no (n := ks.length) (p := lgK ks)
    have hlk : ∀ i, lgK ks i = (decide (i < 20) && (decide (4 < (ks.getD i st0).items) && decide ((ks.getD i st0).items ≤ 8))) := fun _ => rfl
    generalize (List.range ks.length).any (lgK ks) = g at hyes hno
    generalize lgK ks = p at hlk hyes hno
    (refine Spec.bd 0 Try.func15 Try.results15 Try.ntmps15 ?_; simp only [entry, zipArgs, Nat.reduceAdd])
    (refine x_gg @e1 ?_)
    refine Wp.loop (fun (k : Nat) => { t := [(1, .optr 0 0 0 0), (3, .int k)], m := [⟨0, .row 2 [storA ks ls]⟩], n := 41 }) (fun k => k ≤ ks.length ∧ k ≤ 20 ∧ ∀ i, i < k → p i = false) (fun k => ks.length - k) 0 ?_ ?_ ?_
    · (refine Le.of ?_ ?_ rfl rfl <;> (try simp only [push_cast, seval, e1]) <;> (try (with_reducible rfl)))
    · simp
    · rintro k ⟨hk1, hk3, hk2⟩
      have hye := hyes k
      have hlk1 := hlk k
      (refine x_go @e1 ?_)
      (apply Wp.cond; (exact x_ev @e1))
      · intro hc
        simp only [Bool.and_eq_true, decide_eq_true_eq, Int.ofNat_lt] at hc
        specialize hye hc.1
        rw [decide_eq_true (show k < 20 by omega), Bool.true_and] at hlk1
        generalize hy : ks.getD k st0 = y at hlk1
        (refine x_go (zc @e1 @hy) ?_)
        (apply Wp.cond; (exact x_ev (zc @e1 @hy)))
        · intro h2
          have := hye (by rw [hlk1]; exact h2)
          subst this
          (refine x_go (zc @e1 @hy) ?_)
          (first | exact x_ret (zc @e1 @hy) | refine x_retZ (zc @e1 @hy) ?_)
        · intro h2
          (refine x_go (zc @e1 @hy) ?_)
          refine ⟨k + 1, ?_, ⟨by omega, by omega, fun i hi => ?_⟩, by omega⟩
          · (refine Le.of ?_ ?_ rfl rfl <;> (try simp only [push_cast, seval, e1, hy]) <;> (try (with_reducible rfl)))
          · by_cases hik : i = k
            · rw [hik, hlk1]; exact h2
            · exact hk2 i (by omega)
      · intro hc
        have hall : ∀ i, i < ks.length → p i = false := fun i hi => by
          by_cases hik : i < k
          · exact hk2 i hik
          · simp only [Bool.and_eq_false_iff, decide_eq_false_iff_not] at hc
            rw [hlk i, decide_eq_false (show ¬ i < 20 by omega)]; rfl
        have := hno hall
        subst this
        (refine x_go @e1 ?_)
        (first | exact x_ret @e1 | refine x_retZ @e1 ?_)
end Go.Proofs.Try
set_option maxHeartbeats 8000000
namespace Go.Proofs.Try
open Go.Vg

/-! Peak, Need and Buy -/
end Go.Proofs.Try
set_option maxHeartbeats 8000000
namespace Go.Proofs.Try
open Go.Vg

/-! what Plan does for each kind -/
abbrev refS (ks : List St) (ls : List Ln) : AV := .ref [.lst 2 (ks.map stA), .lst 5 (ls.map lnA)] 0
def srK (ks : List St) (ls : List Ln) (k : Nat) : Option (List Int) := srch (fun _ => (ks.getD k st0).items.toNat) (okK ls (ks.getD k st0).life (loanP ls (k : Int) ls.length)) (loanP ls (k : Int) ls.length).length []
theorem planDo_spec {ks : List St} {ls : List Ln} (hv : SV ks ls) {k : Nat} (hk : k < ks.length) {F : Mem} {N : Nat} (hF : F.length = N) (e0 e4 : Ent) :
    Go.Vg.Spec Try.prog 56 [.optr (N + 3) 1 0 0, .int k, refS ks ls] (F ++ blk N ks ls e0 e4 (ks.getD k st0).life (loanP ls (k : Int) ls.length) 0 [] (List.replicate (ks.getD k st0).items.toNat 0) (T0 (ks.getD k st0).items.toNat) [])
      (FsQ F [] N ks ls e0 e4 (ks.getD k st0).life (loanP ls (k : Int) ls.length) (ks.getD k st0).items.toNat [] (srK ks ls k)) := by
  have hl20 := hv.l20
  have hst := hv.st k hk
  have hps := possible_pure hv (k : Int) (ks.getD k st0).items (by omega) (by omega)
  rw [psV_ex hv (by omega) (by omega), Int.toNat_natCast] at hps
  have hLl := loanP_len ls (k : Int) ls.length
  have hLi := loanP_in ls (k : Int)
  have hfs := first_spec hv (ks.getD k st0).life hLi (by omega) (n := (ks.getD k st0).items.toNat) (by omega) (loanP ls (k : Int) ls.length).length (F := F) (G := []) (N := N) hF (e0 := e0) (e4 := e4) (vi := 0) (I := []) (T := T0 (ks.getD k st0).items.toNat) (by simp) (by simp) (fun a b _ h => by simp at h) (tO_nil (loanP ls (k : Int) ls.length) (ks.getD k st0).items.toNat)
  have hw0 := wO_nil ls (loanP ls (k : Int) ls.length) (ks.getD k st0).items.toNat
  have hT0 := tO_nil (loanP ls (k : Int) ls.length) (ks.getD k st0).items.toNat
  have hps : Pure Try.prog 57 [storA ks ls, .int k, .int (ks.getD k st0).items.toNat] (.bool (srK ks ls k).isSome) := by
    rw [Int.toNat_of_nonneg (by omega)]; exact hps
  have hfs : Go.Vg.Spec Try.prog 58 [.optr (N + 3) 1 0 0] (F ++ blk N ks ls e0 e4 (ks.getD k st0).life (loanP ls (k : Int) ls.length) 0 [] (List.replicate (ks.getD k st0).items.toNat 0) (T0 (ks.getD k st0).items.toNat) []) (FsQ F [] N ks ls e0 e4 (ks.getD k st0).life (loanP ls (k : Int) ls.length) (ks.getD k st0).items.toNat [] (srK ks ls k)) := by
    rw [hw0] at hfs; exact hfs
  have hQn : srK ks ls k = none → FsQ F [] N ks ls e0 e4 (ks.getD k st0).life (loanP ls (k : Int) ls.length) (ks.getD k st0).items.toNat [] (srK ks ls k) (.bool false) (F ++ blk N ks ls e0 e4 (ks.getD k st0).life (loanP ls (k : Int) ls.length) 0 [] (List.replicate (ks.getD k st0).items.toNat 0) (T0 (ks.getD k st0).items.toNat) []) := fun h => ⟨0, _, .inr ⟨h, rfl, hT0, by rw [hw0]⟩⟩
  have hQx : ∀ {x m'}, FsQ F [] N ks ls e0 e4 (ks.getD k st0).life (loanP ls (k : Int) ls.length) (ks.getD k st0).items.toNat [] (srK ks ls k) x m' → x = .bool (srK ks ls k).isSome := by
    rintro x m' ⟨vi', T', ⟨J, h1, h2, _⟩ | ⟨h1, h2, _⟩⟩
    · rw [h1, h2]; rfl
    · rw [h1, h2]; rfl
  generalize FsQ F [] N ks ls e0 e4 (ks.getD k st0).life (loanP ls (k : Int) ls.length) (ks.getD k st0).items.toNat [] (srK ks ls k) = Q at hfs hQn hQx
  generalize srK ks ls k = s at hps hQn hQx
  generalize hn : (ks.getD k st0).items.toNat = n at *
  generalize (ks.getD k st0).life = life at *
  have hTl : (T0 n).length = n := by simp [T0]
  generalize hTT : T0 n = T at *
  cases s with
  | none =>
    have hQn := hQn rfl
    simp only [Option.isSome_none] at hps
    (refine Spec.of_bodyA Try.func56 rfl (by rw [Try.ntmps56]; simp) ?_; rw [Try.results56, Try.ntmps56]; simp only [entry, zipArgs, Nat.reduceAdd])
    (refine x_go (zc (fun l => @getF _ l _ hF) (zc (fun l => @getF0 _ l _ hF) (zc @get7 (zc @lentR_len @hTl)))) ?_)
    (refine Wp.rnD 8 ?_; apply exAb; (((refine x_abn (zc (fun l => @getF _ l _ hF) (zc (fun l => @getF0 _ l _ hF) (zc @get7 (zc @lentR_len @hTl)))) ?_); (apply Abn.pureP; (exact x_ev (zc (fun l => @getF _ l _ hF) (zc (fun l => @getF0 _ l _ hF) (zc @get7 (zc @lentR_len @hTl))))); (exact (Enters.of Try.func57 rfl rfl)); (exact hps); (exact x_al (zc (fun l => @getF _ l _ hF) (zc (fun l => @getF0 _ l _ hF) (zc @get7 (zc @lentR_len @hTl))))); (try dsimp only [putA, optG])); (refine x_abn (zc (fun l => @getF _ l _ hF) (zc (fun l => @getF0 _ l _ hF) (zc @get7 (zc @lentR_len @hTl)))) ?_)); exact Abn.nil))
    (refine x_gg (zc (fun l => @getF _ l _ hF) (zc (fun l => @getF0 _ l _ hF) (zc @get7 (zc @lentR_len @hTl)))) ?_)
    (first | exact x_retA (zc (fun l => @getF _ l _ hF) (zc (fun l => @getF0 _ l _ hF) (zc @get7 (zc @lentR_len @hTl)))) | refine x_retAZ (zc (fun l => @getF _ l _ hF) (zc (fun l => @getF0 _ l _ hF) (zc @get7 (zc @lentR_len @hTl)))) ?_)
    exact hQn
  | some J =>
    simp only [Option.isSome_some] at hps hQx
    (refine Spec.of_bodyA Try.func56 rfl (by rw [Try.ntmps56]; simp) ?_; rw [Try.results56, Try.ntmps56]; simp only [entry, zipArgs, Nat.reduceAdd])
    (refine x_go (zc (fun l => @getF _ l _ hF) (zc (fun l => @getF0 _ l _ hF) (zc @get7 (zc @lentR_len @hTl)))) ?_)
    (refine Wp.rnD 8 ?_; apply exAb; (((refine x_abn (zc (fun l => @getF _ l _ hF) (zc (fun l => @getF0 _ l _ hF) (zc @get7 (zc @lentR_len @hTl)))) ?_); (apply Abn.pureP; (exact x_ev (zc (fun l => @getF _ l _ hF) (zc (fun l => @getF0 _ l _ hF) (zc @get7 (zc @lentR_len @hTl))))); (exact (Enters.of Try.func57 rfl rfl)); (exact hps); (exact x_al (zc (fun l => @getF _ l _ hF) (zc (fun l => @getF0 _ l _ hF) (zc @get7 (zc @lentR_len @hTl))))); (try dsimp only [putA, optG])); (refine x_abn (zc (fun l => @getF _ l _ hF) (zc (fun l => @getF0 _ l _ hF) (zc @get7 (zc @lentR_len @hTl)))) ?_)); exact Abn.nil))
    (refine x_gg (zc (fun l => @getF _ l _ hF) (zc (fun l => @getF0 _ l _ hF) (zc @get7 (zc @lentR_len @hTl)))) ?_)
    apply Run.spec (he := Enters.of Try.func58 rfl rfl) (hc := hfs)
    focus exact rfl
    focus (simp only [push_cast, seval, getF hF, getF0 hF, get7, lentR_len, hTl] <;> exact rfl)
    focus (exact x_ev (zc (fun l => @getF _ l _ hF) (zc (fun l => @getF0 _ l _ hF) (zc @get7 (zc @lentR_len @hTl)))))
    intro x' m' hq
    obtain rfl := hQx hq
    dsimp only [S.put, optG]
    (refine x_gg (zc (fun l => @getF _ l _ hF) (zc (fun l => @getF0 _ l _ hF) (zc @get7 (zc @lentR_len @hTl)))) ?_)
    (first | exact x_retA (zc (fun l => @getF _ l _ hF) (zc (fun l => @getF0 _ l _ hF) (zc @get7 (zc @lentR_len @hTl)))) | refine x_retAZ (zc (fun l => @getF _ l _ hF) (zc (fun l => @getF0 _ l _ hF) (zc @get7 (zc @lentR_len @hTl)))) ?_)
    exact hq
end Go.Proofs.Try
