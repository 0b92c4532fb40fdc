/- The abstract machine, part Ve: append to a nil literal as new memory in a region that draws; the last operation of such a region is a store. -/
import Derived.Test.YtljchlkmalidnaaVgVw
set_option linter.all false
set_option linter.unusedVariables false
set_option linter.unusedSimpArgs false
namespace Go.Vg
open Go.RowKit
variable {P : Program} {X : Nat → Prop} {w : World} {ρ : Rho}

/-- what append of a frozen slice to nil makes -/
def apnA (P : Program) (E : Operand → AV) (op : Op) : Option (Nat × List AV × Prop) :=
  match op with
  | .call c =>
    match c.callee with
    | .builtin .append =>
      match c.args.toList, c.argTypes.toList with
      | [d, x], [t, u] =>
        match E d, E x with
        | .emp, .lst sz' new =>
          match uk P t, uk P u with
          | .slice e, .slice _ =>
            match tsz P e, tby P e with
            | some sz, some by_ => if elB P e = true then some (sz, new, new.length * by_ ≤ 140737488355328 ∧ new.length ≤ 9223372036854775807 ∧ (new ≠ [] → sz' = sz)) else none
            | _, _ => none
          | _, _ => none
        | _, _ => none
      | _, _ => none
    | _ => none
  | _ => none
theorem app_at {m : Mem} (hi : Inv X w ρ m) {id ver : Nat} {k0 : Kind} (hid : m[id]? = some ⟨ver, k0⟩) {t u ty e e' : TypeId} {sz by_ sz' : Nat} {new : List AV} {vd vx : Value} (hd : R X w ρ .emp vd) (hx : R X w ρ (.lst sz' new) vx)
    (hut : uk P t = .slice e) (huu : uk P u = .slice e') (hsz : tsz P e = some sz) (hby : tby P e = some by_) (hel : elB P e = true) (hb : new.length * by_ ≤ 140737488355328) (hm : new.length ≤ 9223372036854775807) (hss : new ≠ [] → sz' = sz) :
    ∃ v w' ρ', (Builtin.append_ #[t, u] ty #[vd, vx]).run P w = .ok v w' ∧ Tr w ρ w' ρ' ∧ Inv X w' ρ' (m.set id ⟨ver + 1, .row sz new⟩) ∧ R X w' ρ' (.osl id (ver + 1) 0 new.length) v := by
  obtain ⟨i, z, hinfo, hz, hzs, hpos⟩ := elB_some hel
  obtain ⟨i', hi', hsz'⟩ := tsz_some hsz
  rw [hinfo] at hi'; cases hi'
  have hby' := tby_some hby hinfo
  have src : ∃ A c vs, vx = .slice A new.length c ∧ vs.length = new.length * sz ∧ (vs ≠ [] → ∃ b o, A = some ⟨b, o, none⟩ ∧ ∀ j v, vs[j]? = some v → w.cell? ⟨b, o + j, none⟩ = some v) ∧ (∀ v ∈ vs, v.oneCell' = true) ∧
      ∀ {w' : World} {ρ' : Rho} {b' o' : Nat}, Kp X w ρ w' ρ' → (∀ j v, vs[j]? = some v → w'.cell? ⟨b', o' + j, none⟩ = some v) → Rrow X w' ρ' new sz b' o' := by
    obtain ⟨A, c, vs, e1, _, _, e4, e5, e6, e7⟩ := rowOf_vals (m := m) hi hx (sz := sz') (l := new) rfl (fun id ver off len hxe e he => by cases hxe)
    by_cases hne : new = []
    · subst hne
      simp at e4
      exact ⟨A, c, vs, e1, by simp [e4], e5, e6, fun _ _ => trivial⟩
    · have := hss hne; subst this
      exact ⟨A, c, vs, e1, e4, e5, e6, e7⟩
  obtain ⟨A, rfl⟩ := hd
  obtain ⟨A', c', vs, rfl, e2, e3, e4, e5⟩ := src
  have hidl : id < ρ.length := by rw [hi.len]; exact (List.getElem?_eq_some_iff.1 hid).1
  have h0 : ρ[id]? = some ρ[id] := List.getElem?_eq_getElem hidl
  obtain ⟨hv, _⟩ := hi.at_ id _ _ h0 hid
  simp only at hv
  have hrun := append_run (P := P) (w := w) (ty := ty) (uk_slice hut) (uk_slice huu) hinfo hz hzs (A := A) (A' := A') (len := 0) (c := 0) (n := new.length) (c' := c') (olds := []) (news := vs) (by simp) (by rw [hsz']; exact e2) (fun h => absurd rfl h) e3 (by rw [hby']; simpa using hb) (by simp only [maxLen]; omega)
  rcases hrun with ⟨h0', hr⟩ | ⟨_, cap, w', hr, h1, h2, h3, h4, h5, rest, h6, h7⟩
  · have hl0 : new.length = 0 := by omega
    have hn0 : new = [] := List.eq_nil_of_length_eq_zero hl0
    subst hn0
    have hv0 : vs = [] := List.eq_nil_of_length_eq_zero (by simpa using e2)
    subst hv0
    have hr' := hr w (by cases A with | none => rfl | some a => rfl)
    obtain ⟨k1, k2⟩ := hi.renew h0 (r' := ⟨ver + 1, none, 0, 0, sz⟩) (w' := w) (k := .row sz []) rfl rfl rfl (Nat.le_refl _) (by rw [hv]) (fun _ _ _ => rfl) (fun b h => by cases h) (fun ρ' _ _ => ⟨rfl, fun _ => rfl, fun b h => by cases h⟩)
    rw [hv] at k2
    exact ⟨_, w, _, hr', k1, k2, A, 0, ⟨ver + 1, none, 0, 0, sz⟩, by simp, by rw [List.getElem?_set_self hidl], Nat.le_refl _, fun _ => ⟨by simp, Nat.zero_le _, fun h => absurd h (Nat.lt_irrefl 0)⟩⟩
  · obtain ⟨r, ρ', q0, q1, q2, q3, q4, q5, q6, q7⟩ := newBlockAt hi hid (w' := w') (sz := sz) (l := new) (vs := vs) (e := e) h7 h3 h4 h5 e2 (fun j v hj => by
      have : j < vs.length := (List.getElem?_eq_some_iff.1 hj).1
      rw [Array.getElem?_append_left (by simpa using this)]
      simpa using hj) e5
    refine ⟨_, w', ρ', hr, q6, q7, some ⟨w.heap.size, 0, none⟩, cap, r, by simp, q0, by omega, fun _ => ⟨by simpa using h1, h2, fun hp => ⟨w.heap.size, q2, by rw [q3]; simp, ?_⟩⟩⟩
    rw [q3, q4, q5]
    simp only [List.nil_append, Array.size_append, List.size_toArray, h6, e2, hsz', Nat.zero_add]
    rw [← Nat.add_mul]
    exact Nat.mul_le_mul_right _ (by omega)

theorem apnA_step {gds : List (Option Nat)} {t : List (Nat × AV)} {m : Mem} {dst : Option Nat} {op : Op} {type : TypeId} {pos : String} {after : Array Edge} {sz : Nat} {l : List AV} {p : Prop} (h : apnA P (evo t) op = some (sz, l, p)) (hp : p) {id ver : Nat} {k0 : Kind} (hid : m[id]? = some ⟨ver, k0⟩) :
    StepAt P gds t m ⟨dst, op, type, pos, after, none⟩ (m.set id ⟨ver + 1, .row sz l⟩) (alcV id (ver + 1) (some l.length)) := by
  unfold apnA at h
  split at h <;> (try (cases h; done))
  rename_i c
  split at h <;> (try (cases h; done))
  rename_i hc
  split at h <;> (try (cases h; done))
  rename_i d y t0 u hargs htys
  split at h <;> (try (cases h; done))
  rename_i sz' new hd hy
  split at h <;> (try (cases h; done))
  rename_i e e' hut huu
  split at h <;> (try (cases h; done))
  rename_i sz0 by_ hsz hby
  split at h <;> (try (cases h; done))
  rename_i hel
  simp only [Option.some.injEq, Prod.mk.injEq] at h
  obtain ⟨rfl, rfl, rfl⟩ := h
  obtain ⟨hb, hm, hss⟩ := hp
  have e1 : c.args = #[d, y] := by apply Array.ext'; simpa using hargs
  have e2 : c.argTypes = #[t0, u] := by apply Array.ext'; simpa using htys
  refine ⟨fun c' e => (by simp at e), fun X w ρ a hi hr hn => ⟨fun _ => .inr ?_, fun hw => (by simp [Region.wanted] at hw)⟩⟩
  have ho := evo_of (op := .call c) (fun n hn => hr n (.inr hn))
  have hd' := ho d (by simp [Op.operands, Call.operands, e1, hc])
  have hy' := ho y (by simp [Op.operands, Call.operands, e1, hc])
  rw [hd] at hd'
  rw [hy] at hy'
  obtain ⟨v, w', ρ', q1, q2, q3, q4⟩ := app_at (P := P) (ty := type) hi hid hd' hy' hut huu hsz hby hel hb hm hss
  exact .inl ⟨v, w', by unfold execOp; simp [resolve, hc, invoke, builtin, e1, e2, q1], ρ', q4, q3, q2⟩
/-! what makes memory, in any order; and behind all of it one operation that writes -/
theorem zip_snoc {α β : Type} {es : List α} {bits : List β} (h : bits.length = es.length) (K : α) (b : β) : (es ++ [K]).zip (bits ++ [b]) = es.zip bits ++ [(K, b)] := by
  rw [List.zip_append h.symm]; rfl
theorem consL_snoc {ops : List Oper} {es : List Nat} {K k : Nat} {bits : List Bool} (h : bits ∈ consL ops (es ++ [K]) k) : ∃ bs b, bits = bs ++ [b] ∧ bs ∈ consL ops es k ∧ (k = K → b = false) ∧ (before ops k K = true → before ops K k = false → k ≠ K → b = false) ∧ (∀ e ∈ es.zip bs, e.1 ≠ k → before ops e.1 k = true → e.2 = true) := by
  obtain ⟨h1, h2⟩ := List.mem_filter.1 h
  have hl := allB_len h1
  rw [List.length_append, List.length_singleton] at hl
  have hne : bits ≠ [] := fun e => by subst e; simp at hl
  obtain ⟨bs, b, rfl⟩ : ∃ bs b, bits = bs ++ [b] := ⟨bits.dropLast, bits.getLast hne, (List.dropLast_concat_getLast hne).symm⟩
  have hbl : bs.length = es.length := by simpa using hl
  unfold consB at h2
  rw [zip_snoc hbl, List.all_append, Bool.and_eq_true] at h2
  obtain ⟨h3, h4⟩ := h2
  simp only [List.all_cons, List.all_nil, Bool.and_true, Bool.and_eq_true] at h4
  refine ⟨bs, b, rfl, ?_, ?_, ?_, ?_⟩
  · refine List.mem_filter.2 ⟨by rw [← hbl]; exact allB_mem bs, ?_⟩
    unfold consB
    rw [List.all_eq_true] at h3 ⊢
    intro e he
    have := h3 e he
    simp only [Bool.and_eq_true, Bool.or_eq_true, List.all_append] at this ⊢
    exact ⟨this.1, this.2.imp id fun q => q.1⟩
  · intro he
    subst he
    have := h4.1
    simpa using this
  · intro q1 q2 q3
    have := h4.1
    rw [if_neg (Ne.symm q3), q2, q1] at this
    simpa using this
  · intro e he hne hb
    rw [List.all_eq_true] at h3
    have := h3 e he
    simp only [Bool.and_eq_true] at this
    have := this.1
    rw [if_neg hne, hb] at this
    simpa using this
theorem setB_snoc {es : List Nat} {K k : Nat} {bs : List Bool} {b : Bool} (hl : bs.length = es.length) : setB (es ++ [K]) k (bs ++ [b]) = setB es k bs ++ [decide (K = k) || b] := by
  unfold setB
  rw [zip_snoc hl, List.map_append]; rfl
def memE (n : Nat) (mem : List Bool → Mem) (m2 : Mem) (bits : List Bool) : Mem :=
  if bits.getD n false = true then m2 else mem (bits.take n)
theorem memE_f {n : Nat} {mem : List Bool → Mem} {m2 : Mem} {bs : List Bool} (hl : bs.length = n) : memE n mem m2 (bs ++ [false]) = mem bs := by
  subst hl
  simp [memE]
theorem memE_t {n : Nat} {mem : List Bool → Mem} {m2 : Mem} {bs : List Bool} (hl : bs.length = n) : memE n mem m2 (bs ++ [true]) = m2 := by
  subst hl
  simp [memE]
theorem AbsM.ext {gds : List (Option Nat)} {ops : List Oper} {es : List Nat} {mem : List Bool → Mem} {n K : Nat} {m2 : Mem} (hbef : ∀ j, j < K → before ops j K = true ∧ before ops K j = false) {l2 : List Oper} {t2 : List (Nat × AV)} : ∀ {k : Nat} {l : List Oper} {t t' : List (Nat × AV)}, AbsM P gds ops es mem n k l t t' → k + l.length ≤ K →
    AbsM P gds ops (es ++ [K]) (memE es.length mem m2) n (k + l.length) l2 t' t2 → AbsM P gds ops (es ++ [K]) (memE es.length mem m2) n k (l ++ l2) t t2
  | k, _, _, _, .nil, _, h2 => by simpa using h2
  | k, _, _, _, .cons (l := l) h1 h2 h3, hk, h4 => by
    simp only [List.length_cons] at hk h4
    refine .cons h1 (fun bits hb => ?_) (AbsM.ext hbef h3 (by omega) (by rw [show k + 1 + l.length = k + (l.length + 1) by omega]; exact h4))
    obtain ⟨bs, b, rfl, q1, _, q3, _⟩ := consL_snoc hb
    have hbl : bs.length = es.length := allB_len (List.mem_filter.1 q1).1
    obtain ⟨w1, w2⟩ := hbef k (by omega)
    have := q3 w1 w2 (by omega)
    subst this
    rw [setB_snoc hbl, show (decide (K = k) || false) = false by simp; omega, memE_f hbl, memE_f (by unfold setB; simp; omega)]
    exact h2 bs q1
attribute [push_cast] apnA
end Go.Vg
