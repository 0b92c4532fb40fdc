/- A part of the proof of StoreLends: contracts of functions, with plain laws that they need. -/
import Derived.Test.YtljchlkmalidnaaVgY15
set_option linter.all false
set_option linter.unusedVariables false
set_option linter.unusedSimpArgs false
set_option maxHeartbeats 8000000
namespace Go.Proofs.Try
open Go.Vg

def lentP (ls : List Ln) (p : List Int) (j n : Int) : Nat → List Int
  | 0 => []
  | i + 1 => if (decide ((ls.getD i ln0).kind = j) && decide (p.getD i 0 = n)) = true then lentP ls p j n i ++ [(i : Int)] else lentP ls p j n i
def wornP (ls : List Ln) (p : List Int) (j n : Int) : Nat → Int
  | 0 => 0
  | i + 1 => if (decide ((ls.getD i ln0).kind = j) && decide (p.getD i 0 = n)) = true then wornP ls p j n i + (ls.getD i ln0).uses else wornP ls p j n i
theorem lentP_mem (ls : List Ln) (p : List Int) (j n : Int) : ∀ i, ∀ x ∈ lentP ls p j n i, 0 ≤ x ∧ x < (i : Int)
  | 0, x, h => by simp [lentP] at h
  | i + 1, x, h => by
    simp only [lentP] at h
    split at h
    · rcases List.mem_append.1 h with h | h
      · have := lentP_mem ls p j n i x h; omega
      · simp at h; omega
    · have := lentP_mem ls p j n i x h; omega
theorem lentP_len (ls : List Ln) (p : List Int) (j n : Int) : ∀ i, (lentP ls p j n i).length ≤ i
  | 0 => by simp [lentP]
  | i + 1 => by have := lentP_len ls p j n i; simp only [lentP]; split <;> simp <;> omega
theorem wornP_sum (ls : List Ln) (p : List Int) (i : Nat) : ∀ k, wornP ls p (ls.getD i ln0).kind (p.getD i 0) k = sumU ls p i k
  | 0 => rfl
  | k + 1 => by simp only [wornP, sumU, mateB, wornP_sum ls p i k]; rfl
theorem lentP_clash (ls : List Ln) (p : List Int) (i : Nat) : ∀ k, ((lentP ls p (ls.getD i ln0).kind (p.getD i 0) k).any fun x => ovB (ls.getD x.toNat ln0) (ls.getD i ln0)) = clashB ls p i k
  | 0 => rfl
  | k + 1 => by
    have ih := lentP_clash ls p i k
    simp only [lentP, clashB, mateB]
    split
    · rename_i h
      rw [h, List.any_append, ih]; simp
    · rename_i h
      rw [ih]
      simp only [Bool.not_eq_true] at h
      rw [h]; simp
theorem wornP_bd {ks : List St} {ls : List Ln} (hv : SV ks ls) (p : List Int) (j n : Int) : ∀ i, i ≤ ls.length → 0 ≤ wornP ls p j n i ∧ wornP ls p j n i ≤ 100 * i
  | 0, _ => by simp [wornP]
  | i + 1, h => by
    have := wornP_bd hv p j n i (by omega)
    have := (hv.ln i (by omega)).2.2
    simp only [wornP]
    split <;> omega
/-- the benches behind i loans -/
structure CPI (ks : List St) (ls : List Ln) (p : List Int) (i : Nat) (bs : List Bn) : Prop where
  len : bs.length = ks.length
  tl : ∀ j, j < ks.length → (bs.getD j bn0).T.length = (ks.getD j st0).items.toNat
  wl : ∀ j, j < ks.length → (bs.getD j bn0).W.length = (ks.getD j st0).items.toNat
  il : ∀ j, j < ks.length → (bs.getD j bn0).I.length ≤ i
  tv : ∀ j, j < ks.length → ∀ n, n < (ks.getD j st0).items.toNat → ((bs.getD j bn0).T.getD n (0, [])).2 = lentP ls p j n i
  wv : ∀ j, j < ks.length → ∀ n, n < (ks.getD j st0).items.toNat → (bs.getD j bn0).W.getD n 0 = wornP ls p j n i
def bn1 (e4 : Ent) (n : Nat) : Bn := ⟨e4, 0, [], List.replicate n 0, T0 n⟩
theorem CPI.init {ks : List St} {ls : List Ln} {p : List Int} {bs : List Bn} (h : bs.length = ks.length) (hb : ∀ j, j < ks.length → ∃ e4, bs.getD j bn0 = bn1 e4 (ks.getD j st0).items.toNat) : CPI ks ls p 0 bs := by
  refine ⟨h, ?_, ?_, ?_, ?_, ?_⟩
  all_goals intro j hj; obtain ⟨e4, e⟩ := hb j hj; rw [e]; simp [bn1, T0]
  · intro n hn; simp [hn, lentP]
  · intro n hn; simp [hn, wornP]
def bnLend (b : Bn) (loan item uses : Int) : Bn := ⟨b.e4, b.vi + 1, b.I ++ [item], b.W.set item.toNat (b.W.getD item.toNat 0 + uses), lentT b.T item.toNat loan⟩
theorem getD_setN {α : Type} {l : List α} {c j : Nat} {b d : α} (hj : j < l.length) : (l.set c b).getD j d = if c = j then b else l.getD j d := by
  simp only [List.getD_eq_getElem?_getD, List.getElem?_set]
  by_cases hcj : c = j
  · rw [if_pos hcj, if_pos hcj, if_pos (by omega)]; rfl
  · rw [if_neg hcj, if_neg hcj]
theorem CPI.step {ks : List St} {ls : List Ln} {p : List Int} {i : Nat} {bs : List Bn} (h : CPI ks ls p i bs) (hj : 0 ≤ (ls.getD i ln0).kind ∧ (ls.getD i ln0).kind < ks.length) (hn : 0 ≤ p.getD i 0 ∧ p.getD i 0 < (ks.getD (ls.getD i ln0).kind.toNat st0).items) :
    CPI ks ls p (i + 1) (bs.set (ls.getD i ln0).kind.toNat (bnLend (bs.getD (ls.getD i ln0).kind.toNat bn0) i (p.getD i 0) (ls.getD i ln0).uses)) := by
  have hbl := h.len
  have hl := fun j n : Int => show lentP ls p j n (i + 1) = if (decide ((ls.getD i ln0).kind = j) && decide (p.getD i 0 = n)) = true then lentP ls p j n i ++ [(i : Int)] else lentP ls p j n i from rfl
  have hw := fun j n : Int => show wornP ls p j n (i + 1) = if (decide ((ls.getD i ln0).kind = j) && decide (p.getD i 0 = n)) = true then wornP ls p j n i + (ls.getD i ln0).uses else wornP ls p j n i from rfl
  generalize ls.getD i ln0 = x at *
  generalize p.getD i 0 = m at *
  obtain ⟨c, hc⟩ : ∃ c : Nat, x.kind = (c : Int) := ⟨x.kind.toNat, by omega⟩
  obtain ⟨d, hd⟩ : ∃ d : Nat, m = (d : Int) := ⟨m.toNat, by omega⟩
  rw [hc] at hj hn hl hw ⊢
  subst hd
  simp only [Int.toNat_natCast] at hn ⊢
  have hcl : c < ks.length := by omega
  have hs : ∀ (b : Bn) j, j < ks.length → (bs.set c b).getD j bn0 = if c = j then b else bs.getD j bn0 := fun b j hj' => getD_setN (by omega)
  refine ⟨by simpa using hbl, ?_, ?_, ?_, ?_, ?_⟩
  · intro j hj'
    rw [hs _ j hj']
    split
    · rename_i e; subst e
      simp only [bnLend, lentT, List.length_set]; exact h.tl c hj'
    · exact h.tl j hj'
  · intro j hj'
    rw [hs _ j hj']
    split
    · rename_i e; subst e
      simp only [bnLend, List.length_set]; exact h.wl c hj'
    · exact h.wl j hj'
  · intro j hj'
    rw [hs _ j hj']
    have := h.il j hj'
    split
    · rename_i e; subst e
      simp only [bnLend, List.length_append, List.length_singleton]; omega
    · omega
  · intro j hj' n hn'
    rw [hs _ j hj', hl]
    have htl := h.tl j hj'
    split
    · rename_i e; subst e
      simp only [bnLend, lentT, Int.toNat_natCast]
      rw [getD_setN (by omega)]
      by_cases e : d = n
      · subst e
        rw [if_pos rfl, if_pos (by simp), ← h.tv c hj' d hn']
      · rw [if_neg e, if_neg (by simp; omega), ← h.tv c hj' n hn']
    · rw [if_neg (by simp; omega)]; exact h.tv j hj' n hn'
  · intro j hj' n hn'
    rw [hs _ j hj', hw]
    have hwl := h.wl j hj'
    split
    · rename_i e; subst e
      simp only [bnLend, Int.toNat_natCast]
      rw [getD_setN (by omega)]
      by_cases e : d = n
      · subst e
        rw [if_pos rfl, if_pos (by simp), ← h.wv c hj' d hn']
      · rw [if_neg e, if_neg (by simp; omega), ← h.wv c hj' n hn']
    · rw [if_neg (by simp; omega)]; exact h.wv j hj' n hn'
end Go.Proofs.Try
