/- The abstract machine, part Ve: append to a nil literal as new memory in a region that draws; the last operation of such a region is a store. -/
import Derived.Test.YtljchlkmalidnaaVgVw
set_option linter.all false
set_option linter.unusedVariables false
set_option linter.unusedSimpArgs false
namespace Go.Vg
open Go.RowKit
variable {P : Program} {X : Nat → Prop} {w : World} {ρ : Rho}

/-- what append of a frozen slice to nil makes -/
def apnA (P : Program) (E : Operand → AV) (op : Op) : Option (Nat × List AV × Prop) :=
  match op with
  | .call c =>
    match c.callee with
    | .builtin .append =>
      match c.args.toList, c.argTypes.toList with
      | [d, x], [t, u] =>
        match E d, E x with
        | .emp, .lst sz' new =>
          match uk P t, uk P u with
          | .slice e, .slice _ =>
            match tsz P e, tby P e with
            | some sz, some by_ => if elB P e = true then some (sz, new, new.length * by_ ≤ 140737488355328 ∧ new.length ≤ 9223372036854775807 ∧ (new ≠ [] → sz' = sz)) else none
            | _, _ => none
          | _, _ => none
        | _, _ => none
      | _, _ => none
    | _ => none
  | _ => none
/-! what makes memory, in any order; and behind all of it one operation that writes -/
theorem zip_snoc {α β : Type} {es : List α} {bits : List β} (h : bits.length = es.length) (K : α) (b : β) : (es ++ [K]).zip (bits ++ [b]) = es.zip bits ++ [(K, b)] := by
  rw [List.zip_append h.symm]; rfl
theorem consL_snoc {ops : List Oper} {es : List Nat} {K k : Nat} {bits : List Bool} (h : bits ∈ consL ops (es ++ [K]) k) : ∃ bs b, bits = bs ++ [b] ∧ bs ∈ consL ops es k ∧ (k = K → b = false) ∧ (before ops k K = true → before ops K k = false → k ≠ K → b = false) ∧ (∀ e ∈ es.zip bs, e.1 ≠ k → before ops e.1 k = true → e.2 = true) := by
  obtain ⟨h1, h2⟩ := List.mem_filter.1 h
  have hl := allB_len h1
  rw [List.length_append, List.length_singleton] at hl
  have hne : bits ≠ [] := fun e => by subst e; simp at hl
  obtain ⟨bs, b, rfl⟩ : ∃ bs b, bits = bs ++ [b] := ⟨bits.dropLast, bits.getLast hne, (List.dropLast_concat_getLast hne).symm⟩
  have hbl : bs.length = es.length := by simpa using hl
  unfold consB at h2
  rw [zip_snoc hbl, List.all_append, Bool.and_eq_true] at h2
  obtain ⟨h3, h4⟩ := h2
  simp only [List.all_cons, List.all_nil, Bool.and_true, Bool.and_eq_true] at h4
  refine ⟨bs, b, rfl, ?_, ?_, ?_, ?_⟩
  · refine List.mem_filter.2 ⟨by rw [← hbl]; exact allB_mem bs, ?_⟩
    unfold consB
    rw [List.all_eq_true] at h3 ⊢
    intro e he
    have := h3 e he
    simp only [Bool.and_eq_true, Bool.or_eq_true, List.all_append] at this ⊢
    exact ⟨this.1, this.2.imp id fun q => q.1⟩
  · intro he
    subst he
    have := h4.1
    simpa using this
  · intro q1 q2 q3
    have := h4.1
    rw [if_neg (Ne.symm q3), q2, q1] at this
    simpa using this
  · intro e he hne hb
    rw [List.all_eq_true] at h3
    have := h3 e he
    simp only [Bool.and_eq_true] at this
    have := this.1
    rw [if_neg hne, hb] at this
    simpa using this
theorem setB_snoc {es : List Nat} {K k : Nat} {bs : List Bool} {b : Bool} (hl : bs.length = es.length) : setB (es ++ [K]) k (bs ++ [b]) = setB es k bs ++ [decide (K = k) || b] := by
  unfold setB
  rw [zip_snoc hl, List.map_append]; rfl
def memE (n : Nat) (mem : List Bool → Mem) (m2 : Mem) (bits : List Bool) : Mem :=
  if bits.getD n false = true then m2 else mem (bits.take n)
theorem memE_f {n : Nat} {mem : List Bool → Mem} {m2 : Mem} {bs : List Bool} (hl : bs.length = n) : memE n mem m2 (bs ++ [false]) = mem bs := by
  subst hl
  simp [memE]
theorem memE_t {n : Nat} {mem : List Bool → Mem} {m2 : Mem} {bs : List Bool} (hl : bs.length = n) : memE n mem m2 (bs ++ [true]) = m2 := by
  subst hl
  simp [memE]
theorem AbsM.ext {gds : List (Option Nat)} {ops : List Oper} {es : List Nat} {mem : List Bool → Mem} {n K : Nat} {m2 : Mem} (hbef : ∀ j, j < K → before ops j K = true ∧ before ops K j = false) {l2 : List Oper} {t2 : List (Nat × AV)} : ∀ {k : Nat} {l : List Oper} {t t' : List (Nat × AV)}, AbsM P gds ops es mem n k l t t' → k + l.length ≤ K →
    AbsM P gds ops (es ++ [K]) (memE es.length mem m2) n (k + l.length) l2 t' t2 → AbsM P gds ops (es ++ [K]) (memE es.length mem m2) n k (l ++ l2) t t2
  | k, _, _, _, .nil, _, h2 => by simpa using h2
  | k, _, _, _, .cons (l := l) h1 h2 h3, hk, h4 => by
    simp only [List.length_cons] at hk h4
    refine .cons h1 (fun bits hb => ?_) (AbsM.ext hbef h3 (by omega) (by rw [show k + 1 + l.length = k + (l.length + 1) by omega]; exact h4))
    obtain ⟨bs, b, rfl, q1, _, q3, _⟩ := consL_snoc hb
    have hbl : bs.length = es.length := allB_len (List.mem_filter.1 q1).1
    obtain ⟨w1, w2⟩ := hbef k (by omega)
    have := q3 w1 w2 (by omega)
    subst this
    rw [setB_snoc hbl, show (decide (K = k) || false) = false by simp; omega, memE_f hbl, memE_f (by unfold setB; simp; omega)]
    exact h2 bs q1
attribute [push_cast] apnA
end Go.Vg
