/- The abstract machine, part L: writing memory. -/
import Derived.Test.YtljchlkmalidnaaVgK
set_option linter.all false
set_option linter.unusedVariables false
namespace Go.Vg
open Go.RowKit
variable {P : Program} {X : Nat → Prop} {w : World} {ρ : Rho}

/-- a block of cells, none of which is frozen -/
def RowAt (w : World) (b : Nat) (arr : Array Value) : Prop := ∃ e fr, w.heap[b]? = some (.cells arr e fr) ∧ fr.2 ≤ fr.1 + 1 ∧ (fr.1 < fr.2 → arr.size ≤ fr.1)

theorem RowAt.cell {b : Nat} {arr : Array Value} (h : RowAt w b arr) (o : Nat) : w.cell? ⟨b, o, none⟩ = arr[o]? := by
  obtain ⟨e, fr, h1, _⟩ := h
  simp [World.cell?, h1]
theorem RowAt.frozen {b : Nat} {arr : Array Value} (h : RowAt w b arr) {o : Nat} (ho : o < arr.size) : w.frozen? ⟨b, o, none⟩ = false := by
  obtain ⟨e, ⟨lo, hi⟩, h1, h2, h3⟩ := h
  simp only [World.frozen?, h1]
  simp only at h2 h3
  by_cases h : lo ≤ o ∧ o < hi
  · have := h3 (by omega); omega
  · simp only [Bool.and_eq_false_iff, decide_eq_false_iff_not]
    omega
theorem RowAt.lt {b : Nat} {arr : Array Value} (h : RowAt w b arr) : b < w.heap.size := by
  obtain ⟨e, fr, h1, _⟩ := h
  exact (Array.getElem?_eq_some_iff.1 h1).1

/-- only block b turns -/
structure Turns (w : World) (b : Nat) (w' : World) : Prop where
  os : w'.os = w.os
  tape : w'.tape = w.tape
  output : w'.output = w.output
  size : w'.heap.size = w.heap.size
  block : ∀ k, k ≠ b → w'.heap[k]? = w.heap[k]?

theorem Turns.refl (w : World) (b : Nat) : Turns w b w := ⟨rfl, rfl, rfl, rfl, fun _ _ => rfl⟩
theorem Turns.trans {w w1 w2 : World} {b : Nat} (h : Turns w b w1) (k : Turns w1 b w2) : Turns w b w2 :=
  ⟨k.os.trans h.os, k.tape.trans h.tape, k.output.trans h.output, k.size.trans h.size, fun i hi => (k.block i hi).trans (h.block i hi)⟩

theorem run_store_row {b o : Nat} {arr : Array Value} {v : Value} (h : RowAt w b arr) (ho : o < arr.size) (h1 : v.oneCell' = true) :
    ∃ w', (store ⟨b, o, none⟩ v).run P w = .ok () w' ∧ RowAt w' b (arr.setIfInBounds o v) ∧ Turns w b w' := by
  refine ⟨w.setCell ⟨b, o, none⟩ v, ?_, ?_, ?_⟩
  · rw [run_store P w _ v .plain h1, h.cell o]
    simp [ho, h.frozen ho]
  · obtain ⟨e, fr, q1, q2, q3⟩ := h
    refine ⟨e, fr, ?_, q2, by simpa using q3⟩
    have hlt := (Array.getElem?_eq_some_iff.1 q1)
    simp only [World.setCell]
    rw [Array.getElem?_modify]
    simp [q1]
  · refine ⟨rfl, rfl, rfl, by simp [World.setCell], fun k hk => ?_⟩
    simp only [World.setCell]
    rw [Array.getElem?_modify]
    simp [Ne.symm hk]

theorem run_storeCells_row : ∀ (vs : List Value) {w : World} {b o i : Nat} {arr : Array Value}, RowAt w b arr → o + i + vs.length ≤ arr.size → (∀ v ∈ vs, v.oneCell' = true) →
    ∃ w' arr', (storeCells ⟨b, o, none⟩ vs i).run P w = .ok () w' ∧ RowAt w' b arr' ∧ Turns w b w' ∧ arr'.size = arr.size ∧ ∀ k, arr'[k]? = if o + i ≤ k ∧ k < o + i + vs.length then vs[k - (o + i)]? else arr[k]?
  | [], w, b, o, i, arr, h, _, _ => ⟨w, arr, rfl, h, Turns.refl w b, rfl, fun k => by rw [if_neg (by simp only [List.length_nil]; omega)]⟩
  | v :: vs, w, b, o, i, arr, h, hl, h1 => by
    simp only [List.length_cons] at hl
    obtain ⟨w1, q1, q2, q3⟩ := run_store_row (P := P) (o := o + i) h (by omega) (h1 v (by simp))
    obtain ⟨w2, arr2, r1, r2, r3, r4, r5⟩ := run_storeCells_row vs (o := o) (i := i + 1) q2 (by simp; omega) (fun u hu => h1 u (by simp [hu]))
    refine ⟨w2, arr2, ?_, r2, q3.trans r3, by rw [r4]; simp, fun k => ?_⟩
    · unfold storeCells
      rw [Addr.add_none]
      simp only [Sem.run_bind, q1, Result.andThen_ok]
      exact r1
    · rw [r5 k]
      by_cases hk : k = o + i
      · subst hk
        rw [if_neg (by omega), if_pos ⟨Nat.le_refl _, by simp⟩]
        have hlt : o + i < arr.size := by omega
        rw [Nat.sub_self]; simp [hlt]
      · by_cases hk2 : o + (i + 1) ≤ k ∧ k < o + (i + 1) + vs.length
        · rw [if_pos hk2, if_pos ⟨by omega, by simp; omega⟩]
          rw [show k - (o + i) = (k - (o + (i + 1))) + 1 by omega]
          simp
        · rw [if_neg hk2, if_neg (by simp only [List.length_cons]; omega)]
          rw [Array.getElem?_setIfInBounds_ne (by omega)]

/-- one entry turns: its block is written, or it gets another one -/
theorem Tr.turn {w w' : World} {ρ : Rho} {id : Nat} {r : RE} (hr : ρ[id]? = some r) {b : Nat} (hb : r.blk = some b) (h : Turns w b w') : Tr w ρ w' ρ :=
  ⟨h.os, h.tape, h.output, by rw [h.size]; exact Nat.le_refl _, fun _ r h => ⟨r, h, Nat.le_refl _, fun _ => rfl⟩,
   fun k hk _ => ⟨hk, h.block k fun e => hk r (List.mem_of_getElem? hr) (by rw [hb, e])⟩⟩

/-- the cells of a list of abstract elements -/
theorem Rrow_of_cells {b : Nat} : ∀ {l : List AV} {sz o : Nat}, (∀ (i : Nat) (x : AV), l[i]? = some x → Re X w ρ x sz b (o + i * sz)) → Rrow X w ρ l sz b o
  | [], _, _, _ => trivial
  | x :: l, sz, o, h => ⟨by simpa using h 0 x (by simp), Rrow_of_cells fun i y hi => by
      have := h (i + 1) y (by simpa using hi)
      rw [show o + sz + i * sz = o + (i + 1) * sz by rw [Nat.add_mul]; omega]
      exact this⟩

theorem Rcells_of {b : Nat} : ∀ {xs : List AV} {o : Nat}, (∀ (j : Nat) (x : AV), xs[j]? = some x → ∃ v, w.cell? ⟨b, o + j, none⟩ = some v ∧ v.oneCell' = true ∧ R X w ρ x v) → Rcells X w ρ xs b o
  | [], _, _ => trivial
  | x :: xs, o, h => ⟨by simpa using h 0 x (by simp), Rcells_of fun j y hj => by
      have := h (j + 1) y (by simpa using hj)
      rw [show o + 1 + j = o + (j + 1) by omega]
      exact this⟩

/-- an element, by its cells -/
theorem Re_of_cells {x : AV} {sz b o : Nat} (hf : x.flat) (hl : x.cells.length = sz) (h : Rcells X w ρ x.cells b o) : Re X w ρ x sz b o := by
  cases x <;> simp only [AV.flat, AV.one] at hf <;> (try exact hf.elim)
  case agg xs => exact ⟨hl, h⟩
  all_goals
    obtain ⟨⟨v, h1, h2, h3⟩, _⟩ := h
    exact ⟨hl.symm, v, h1, h2, h3⟩

/-- entry id is written, the rest stays: what is owed -/
theorem Inv.write {m : Mem} {w w' : World} (hi : Inv X w ρ m) {id ver sz b : Nat} {r : RE} (hr : ρ[id]? = some r) (hb : r.blk = some b) (hv : r.ver = ver) (ht : Turns w b w') {l' : List AV} (hsz : r.sz = sz) {arr' : Array Value} (hrow : RowAt w' b arr') (hs : arr'.size = r.size)
    (hfit : r.base + l'.length * sz ≤ r.size) (hR : Rrow X w' ρ l' sz b r.base) : Inv X w' ρ (m.set id ⟨ver, .row sz l'⟩) := by
  have htr := Tr.turn hr hb ht
  refine ⟨by simp [hi.len], fun i r' e hr' he => ?_, hi.apart, fun i r' b' hr' hb' => by rw [ht.size]; exact hi.new i r' b' hr' hb', fun b' hb' => by rw [ht.size]; exact hi.out b' hb', hi.gd.tr htr⟩
  by_cases hid : i = id
  · subst hid
    rw [hr] at hr'; cases hr'
    have hlt : i < m.length := by rw [← hi.len]; exact (List.getElem?_eq_some_iff.1 hr).1
    rw [List.getElem?_set_self hlt] at he
    cases he
    refine ⟨hv, hsz, fun hn => (by rw [hb] at hn; cases hn), fun b' hb' => ?_⟩
    rw [hb] at hb'; cases hb'
    obtain ⟨e, fr, q1, q2, q3⟩ := hrow
    exact ⟨⟨arr', e, fr, q1, hs, q2, q3⟩, hfit, hR⟩
  · rw [List.getElem?_set_ne (Ne.symm hid)] at he
    obtain ⟨h1, h2⟩ := hi.at_ i r' e hr' he
    exact ⟨h1, h2.mono htr.kp fun b' hb' => ht.block b' fun e => hid (hi.apart i id r' r b hr' hr (by rw [hb', e]) hb)⟩

/-- a new block, as a new entry -/
theorem Inv.alloc {m : Mem} (hi : Inv X w ρ m) {w' : World} {o : Obj} (hh : w'.heap = w.heap.push o) (hos : w'.os = w.os) (htp : w'.tape = w.tape) (hou : w'.output = w.output) {r : RE} (hr0 : r.ver = 0) (hb : r.blk = some w.heap.size) {k : Kind}
    (hk : ∀ ρ', Tr w ρ w' ρ' → ρ' = ρ ++ [r] → KindAt X w' ρ' r k) : Tr w ρ w' (ρ ++ [r]) ∧ Inv X w' (ρ ++ [r]) (m ++ [⟨0, k⟩]) := by
  have hold : ∀ b, b < w.heap.size → w'.heap[b]? = w.heap[b]? := fun b hlt => by rw [hh, Array.getElem?_push_lt hlt, Array.getElem?_eq_getElem hlt]
  have hsz : w'.heap.size = w.heap.size + 1 := by rw [hh]; simp
  have htr : Tr w ρ w' (ρ ++ [r]) := by
    refine ⟨hos, htp, hou, by omega, fun i r' hr' => ⟨r', ?_, Nat.le_refl _, fun _ => rfl⟩, fun b hbf hlt => ⟨fun r' hr' => ?_, hold b hlt⟩⟩
    · rw [List.getElem?_append_left (List.getElem?_eq_some_iff.1 hr').1]; exact hr'
    · rcases List.mem_append.1 hr' with h | h
      · exact hbf r' h
      · have : r' = r := by simpa using h
        subst this; rw [hb]; intro e; cases e; omega
  refine ⟨htr, by simp [hi.len], fun i r' e hr' he => ?_, fun i j r1 r2 b h1 h2 hb1 hb2 => ?_, fun i r' b hr' hb' => ?_, fun b hx => by have := hi.out b hx; omega, hi.gd.tr htr⟩
  · by_cases hlt : i < ρ.length
    · rw [List.getElem?_append_left hlt] at hr'
      rw [List.getElem?_append_left (by rw [← hi.len]; exact hlt)] at he
      obtain ⟨h1, h2⟩ := hi.at_ i r' e hr' he
      exact ⟨h1, h2.mono htr.kp fun b' hb' => hold b' (hi.new i r' b' hr' hb').1⟩
    · have hi' : i = ρ.length := by
        have := (List.getElem?_eq_some_iff.1 hr').1
        simp at this; omega
      subst hi'
      rw [List.getElem?_append_right (Nat.le_refl _)] at hr'
      simp at hr'; subst hr'
      rw [List.getElem?_append_right (by rw [hi.len]; exact Nat.le_refl _)] at he
      rw [hi.len] at he; simp at he; subst he
      exact ⟨hr0, hk _ htr rfl⟩
  · have get : ∀ (i : Nat) (r' : RE), (ρ ++ [r])[i]? = some r' → (i < ρ.length ∧ ρ[i]? = some r') ∨ (i = ρ.length ∧ r' = r) := by
      intro i r' h
      by_cases hlt : i < ρ.length
      · rw [List.getElem?_append_left hlt] at h; exact .inl ⟨hlt, h⟩
      · have hi' : i = ρ.length := by
          have := (List.getElem?_eq_some_iff.1 h).1
          simp at this; omega
        subst hi'
        rw [List.getElem?_append_right (Nat.le_refl _)] at h
        simp at h; exact .inr ⟨rfl, h.symm⟩
    rcases get i r1 h1 with ⟨_, g1⟩ | ⟨e1, rfl⟩ <;> rcases get j r2 h2 with ⟨_, g2⟩ | ⟨e2, rfl⟩
    · exact hi.apart i j r1 r2 b g1 g2 hb1 hb2
    · have := (hi.new i r1 b g1 hb1).1
      rw [hb] at hb2; cases hb2; omega
    · have := (hi.new j r2 b g2 hb2).1
      rw [hb] at hb1; cases hb1; omega
    · omega
  · by_cases hlt : i < ρ.length
    · rw [List.getElem?_append_left hlt] at hr'
      have := hi.new i r' b hr' hb'
      exact ⟨by omega, this.2⟩
    · have hi' : i = ρ.length := by
        have := (List.getElem?_eq_some_iff.1 hr').1
        simp at this; omega
      subst hi'
      rw [List.getElem?_append_right (Nat.le_refl _)] at hr'
      simp at hr'; subst hr'
      rw [hb] at hb'; cases hb'
      exact ⟨by omega, fun hx => by have := hi.out _ hx; omega⟩
end Go.Vg
