/- The abstract machine, part M: append. -/
import Derived.Test.YtljchlkmalidnaaVgL
set_option linter.all false
set_option linter.unusedVariables false
namespace Go.Vg
open Go.RowKit
variable {P : Program} {X : Nat → Prop} {w : World} {ρ : Rho}

/-- an element type of which slices are made -/
def elB (P : Program) (e : TypeId) : Bool :=
  match P.info? e with
  | some i => match i.zero with
    | some z => z.cells.size == i.size && decide (0 < i.size)
    | none => false
  | none => false

theorem elB_some {e : TypeId} (h : elB P e = true) : ∃ i z, P.info? e = some i ∧ i.zero = some z ∧ z.cells.size = i.size ∧ 0 < i.size := by
  unfold elB at h
  split at h
  · rename_i i hi
    split at h
    · rename_i z hz
      simp only [Bool.and_eq_true, beq_iff_eq, decide_eq_true_eq] at h
      exact ⟨i, z, hi, hz, h.1, h.2⟩
    · cases h
  · cases h

theorem firstCells_run {A : Option Addr} {len c size n : Nat} {vs : List Value} (hl : vs.length = n * size) (h : vs ≠ [] → ∃ b o, A = some ⟨b, o, none⟩ ∧ ∀ j v, vs[j]? = some v → w.cell? ⟨b, o + j, none⟩ = some v) :
    (Builtin.firstCells size n (.slice A len c)).run P w = .ok vs.toArray w := by
  cases A with
  | none =>
    have : vs = [] := by
      cases vs with
      | nil => rfl
      | cons v vs => obtain ⟨b, o, e, _⟩ := h (by simp); cases e
    subst this; simp [Builtin.firstCells]
  | some a =>
    simp only [Builtin.firstCells]
    by_cases hv : vs = []
    · subst hv
      have : n * size = 0 := by simpa using hl.symm
      rw [this]; rfl
    · obtain ⟨b, o, e, hc⟩ := h hv
      cases e
      rw [← hl]
      exact run_loadCells_vals hc

/-- append, in a world: what lies in the slice, what comes to it -/
theorem append_run {t u ty e e' : TypeId} (ht : P.underlying t = some (.slice e)) (hu : P.underlying u = some (.slice e')) {i : TypeInfo} {z : Value} (hi : P.info? e = some i) (hz : i.zero = some z) (hzs : z.cells.size = i.size)
    {A A' : Option Addr} {len c n c' : Nat} {olds news : List Value} (ho : olds.length = len * i.size) (hn : news.length = n * i.size)
    (hold : olds ≠ [] → ∃ b o, A = some ⟨b, o, none⟩ ∧ ∀ j v, olds[j]? = some v → w.cell? ⟨b, o + j, none⟩ = some v)
    (hnew : news ≠ [] → ∃ b o, A' = some ⟨b, o, none⟩ ∧ ∀ j v, news[j]? = some v → w.cell? ⟨b, o + j, none⟩ = some v)
    (hroom : (len + n) * i.bytes ≤ 140737488355328) (hmax : len + n ≤ maxLen) :
    (len + n ≤ c ∧ ∀ (w' : World), (match A with | some a => (storeCells (a.add (len * i.size)) news).run P w = .ok () w' | none => w' = w) →
        (Builtin.append_ #[t, u] ty #[.slice A len c, .slice A' n c']).run P w = .ok (.slice A (len + n) c) w') ∨
    (c < len + n ∧ ∃ cap w', (Builtin.append_ #[t, u] ty #[.slice A len c, .slice A' n c']).run P w = .ok (.slice (some ⟨w.heap.size, 0, none⟩) (len + n) cap) w' ∧ len + n ≤ cap ∧ cap ≤ maxLen ∧
        w'.os = w.os ∧ w'.tape = w.tape ∧ w'.output = w.output ∧ ∃ rest : Array Value, rest.size = (cap - (len + n)) * i.size ∧ w'.heap = w.heap.push (.cells ((olds ++ news).toArray ++ rest) e)) := by
  have hf := fun (w1 : World) (hc : ∀ a, w1.cell? a = w.cell? a) => firstCells_run (P := P) (w := w1) (A := A') (len := n) (c := c') hn (fun h => by
    obtain ⟨b, o, e1, e2⟩ := hnew h; exact ⟨b, o, e1, fun j v hj => by rw [hc]; exact e2 j v hj⟩)
  have hfo := fun (w1 : World) (hc : ∀ a, w1.cell? a = w.cell? a) => firstCells_run (P := P) (w := w1) (A := A) (len := len) (c := c) ho (fun h => by
    obtain ⟨b, o, e1, e2⟩ := hold h; exact ⟨b, o, e1, fun j v hj => by rw [hc]; exact e2 j v hj⟩)
  rcases Nat.lt_or_ge c (len + n) with hlt | hge
  · right
    refine ⟨hlt, grownCap w (len + n) c e, w.drew.alloc (.cells ((olds ++ news).toArray ++ Builtin.zeroCells z.cells (grownCap w (len + n) c e - (len + n))) e), ?_, grownCap_ge _ _ _ _, grownCap_le_maxLen _ _ _ _ hmax, rfl, rfl, rfl, _, by rw [size_zeroCells, hzs], rfl⟩
    have hnc : ¬ (len + n ≤ c) := by omega
    have h63 : ¬ (9223372036854775807 < ((len : Int) + (n : Int))) := by simp only [maxLen] at hmax; omega
    have h48 : ¬ (281474976710656 < Builtin.nextslicecap (len + n) c * i.bytes) := by have := growslice_fits hlt hroom; omega
    have h1 := hf w.drew (fun _ => rfl)
    have h2 := hfo w.drew (fun _ => rfl)
    (simp [Builtin.append_, run_underlying ht, run_underlying hu, sizeOf, typeInfo, zeroValue, hi, hz, Builtin.lenOf, hnc, h63, h48, Question.forced, h1, h2, newRow, grownCap])
    congr 2; apply Array.ext'; simp [List.append_assoc]
  · left
    refine ⟨hge, fun w' hw' => ?_⟩
    have h1 := hf w (fun _ => rfl)
    cases A with
    | none =>
      simp only at hw'; subst hw'
      (simp [Builtin.append_, run_underlying ht, run_underlying hu, sizeOf, typeInfo, hi, Builtin.lenOf, hge, h1])
    | some a =>
      simp only at hw'
      (simp [Builtin.append_, run_underlying ht, run_underlying hu, sizeOf, typeInfo, hi, Builtin.lenOf, hge, h1, hw'])

/-- what a row's cells are, as values -/
theorem Rrow.vals {sz b : Nat} : ∀ {l : List AV} {o : Nat}, Rrow X w ρ l sz b o → ∃ vs : List Value, vs.length = l.length * sz ∧ (∀ j v, vs[j]? = some v → w.cell? ⟨b, o + j, none⟩ = some v) ∧ (∀ v ∈ vs, v.oneCell' = true) ∧
    ∀ {w' : World} {ρ' : Rho} {b' o' : Nat}, Kp X w ρ w' ρ' → (∀ j v, vs[j]? = some v → w'.cell? ⟨b', o' + j, none⟩ = some v) → Rrow X w' ρ' l sz b' o'
  | [], _, _ => ⟨[], by simp, by simp, by simp, fun _ _ => trivial⟩
  | x :: l, o, ⟨h1, h2⟩ => by
    obtain ⟨c1, c2⟩ := Re.cells h1
    obtain ⟨us, e1, e2, e3, e4⟩ := c2.vals
    obtain ⟨vs, f1, f2, f3, f4⟩ := Rrow.vals h2
    have hus : us.length = sz := by omega
    refine ⟨us ++ vs, by simp [f1, hus, Nat.add_mul]; omega, fun j v hj => ?_, fun v hv => ?_, fun {w' ρ' b' o'} hk hc => ⟨?_, f4 hk fun j v hj => ?_⟩⟩
    · by_cases hlt : j < us.length
      · rw [List.getElem?_append_left hlt] at hj; exact e2 j v hj
      · rw [List.getElem?_append_right (by omega)] at hj
        have := f2 (j - us.length) v hj
        rw [show o + sz + (j - us.length) = o + j by omega] at this
        exact this
    · rcases List.mem_append.1 hv with h | h
      · exact e3 v h
      · exact f3 v h
    · have hcells : Rcells X w' ρ' x.cells b' o' := by
        refine Rcells_of fun j y hj => ?_
        obtain ⟨v, hv, hR⟩ := e4.nth hj
        have hv' : (us ++ vs)[j]? = some v := by rw [List.getElem?_append_left (List.getElem?_eq_some_iff.1 hv).1]; exact hv
        exact ⟨v, hc j v hv', e3 v (List.mem_of_getElem? hv), R.mono hk hR⟩
      cases x
      case agg xs => exact ⟨h1.1, hcells⟩
      case opt g y => exact h1.elim
      case tup xs => exact h1.elim
      all_goals
        obtain ⟨⟨v, q1, q2, q3⟩, _⟩ := hcells
        exact ⟨h1.1, v, q1, q2, q3⟩
    · have hv' : (us ++ vs)[j + us.length]? = some v := by
        rw [List.getElem?_append_right (by omega)]
        simpa using hj
      have := hc _ v hv'
      rw [show o' + sz + j = o' + (j + us.length) by omega]
      exact this

/-- a slice that is read: its elements' cells -/
theorem rowOf_vals {m : Mem} (hi : Inv X w ρ m) {x : AV} {v : Value} {sz : Nat} {l : List AV} (hx : R X w ρ x v) (h : rowOf m x = some (sz, l)) (hlen : ∀ id ver off len, x = .osl id ver off len → ∀ e, m[id]? = some e → ∃ sz' l', e.kind = .row sz' l' ∧ off + len ≤ l'.length) :
    ∃ A c vs, v = .slice A l.length c ∧ l.length ≤ c ∧ c ≤ maxLen ∧ vs.length = l.length * sz ∧ (vs ≠ [] → ∃ b o, A = some ⟨b, o, none⟩ ∧ ∀ j v, vs[j]? = some v → w.cell? ⟨b, o + j, none⟩ = some v) ∧ (∀ v ∈ vs, v.oneCell' = true) ∧
      ∀ {w' : World} {ρ' : Rho} {b' o' : Nat}, Kp X w ρ w' ρ' → (∀ j v, vs[j]? = some v → w'.cell? ⟨b', o' + j, none⟩ = some v) → Rrow X w' ρ' l sz b' o' := by
  unfold rowOf at h
  split at h
  · simp only [Option.some.injEq, Prod.mk.injEq] at h
    obtain ⟨rfl, rfl⟩ := h
    obtain ⟨A, c, rfl, h1, h2, h3⟩ := hx
    rename_i l
    by_cases hl : l = []
    · subst hl
      exact ⟨A, c, [], rfl, h1, h2, by simp, fun h => absurd rfl h, by simp, fun _ _ => trivial⟩
    · obtain ⟨b, o, rfl, hf, hs, hr⟩ := h3 hl
      obtain ⟨vs, e1, e2, e3, e4⟩ := hr.vals
      exact ⟨_, c, vs, rfl, h1, h2, e1, fun _ => ⟨b, o, rfl, e2⟩, e3, e4⟩
  · simp only [Option.some.injEq, Prod.mk.injEq] at h
    obtain ⟨rfl, rfl⟩ := h
    obtain ⟨A, rfl⟩ := hx
    exact ⟨A, 0, [], rfl, Nat.le_refl _, Nat.zero_le _, by simp, fun h => absurd rfl h, by simp, fun _ _ => trivial⟩
  · rename_i id ver off len
    split at h
    · rename_i v' sz' l' hm
      split at h
      · rename_i hv
        simp only [Option.some.injEq, Prod.mk.injEq] at h
        obtain ⟨rfl, rfl⟩ := h
        subst hv
        obtain ⟨_, l2, e1, hfit⟩ := hlen id v' off len rfl _ hm
        simp only [Kind.row.injEq] at e1
        obtain ⟨_, rfl⟩ := e1
        obtain ⟨r, hr, hv, hrz, hnone, hblk⟩ := hi.row hm
        obtain ⟨A, c, r', rfl, hr', hle, hat⟩ := hx
        rw [hr] at hr'; cases hr'
        obtain ⟨hl, hc, hpos⟩ := hat hv.symm
        have hll : ((l'.drop off).take len).length = len := by simp; omega
        rw [hll]
        by_cases h0 : len = 0
        · subst h0
          exact ⟨A, c, [], rfl, hl, hc, by simp, fun h => absurd rfl h, by simp, fun _ _ => by simp [Rrow]⟩
        · obtain ⟨b, hb, rfl, hfit'⟩ := hpos (by omega)
          obtain ⟨_, _, hrow⟩ := hblk b hb
          obtain ⟨vs, e1, e2, e3, e4⟩ := ((hrow.drop off).take len).vals
          exact ⟨_, c, vs, rfl, hl, hc, by rw [e1, hll], fun _ => ⟨b, _, rfl, by rw [hrz]; exact e2⟩, e3, e4⟩
      · cases h
    · cases h
  · cases h
end Go.Vg
