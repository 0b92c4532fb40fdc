/- The abstract machine, part Vg: a region that draws its order and makes and changes memory several times, over entries that are new; what reads that memory stands behind all that was done before it. -/
import Derived.Test.YtcpmcebdolcldaaVgVe
set_option linter.all false
set_option linter.unusedVariables false
set_option linter.unusedSimpArgs false
namespace Go.Vg
open Go.RowKit
variable {P : Program} {X : Nat → Prop} {w : World} {ρ : Rho}

/-- an operation that writes into an entry or appends to its row: it needs that entry alone -/
def stE (P : Program) (ty : TypeId) (a x : AV) (e0 : Ent) : Option (Nat × Ent × AV × Prop) :=
  match a with
  | .optr id ver i j =>
    match e0 with
    | ⟨v, .row sz l⟩ =>
      if v = ver ∧ tsz P ty = some x.cells.length then
        (if sz = 1 then some (id, ⟨ver, .row sz (l.set i x)⟩, .any, i < l.length ∧ j = 0 ∧ x.one)
         else match l.getD i .any with
          | .agg xs => some (id, ⟨ver, .row sz (l.set i (updE (.agg xs) j x))⟩, .any, i < l.length ∧ j + x.cells.length ≤ sz ∧ x.flat)
          | _ => none)
      else none
    | _ => none
  | _ => none
theorem stE_ok {ty : TypeId} {a x y : AV} {e0 e1 : Ent} {id : Nat} {p : Prop} {m : Mem} (h : stE P ty a x e0 = some (id, e1, y, p)) (hid : m[id]? = some e0) : storeA P m ty a x = some (m.set id e1, y, p) := by
  unfold stE at h
  split at h <;> (try (cases h; done))
  rename_i id' ver i j
  split at h <;> (try (cases h; done))
  rename_i v sz l
  split at h <;> (try (cases h; done))
  rename_i hv
  have hid' : id' = id := by
    split at h
    · simp only [Option.some.injEq, Prod.mk.injEq] at h; exact h.1
    · split at h
      · simp only [Option.some.injEq, Prod.mk.injEq] at h; exact h.1
      · cases h
  subst hid'
  unfold storeA
  simp only [hid]
  rw [if_pos hv]
  split at h
  · rename_i h1
    rw [if_pos h1]
    simp only [Option.some.injEq, Prod.mk.injEq, true_and] at h
    obtain ⟨rfl, rfl, rfl⟩ := h
    rfl
  · rename_i h1
    rw [if_neg h1]
    split at h
    · rename_i xs hx
      rw [hx]
      simp only [Option.some.injEq, Prod.mk.injEq, true_and] at h
      obtain ⟨rfl, rfl, rfl⟩ := h
      rfl
    · cases h
def apE (P : Program) (t u : TypeId) (d x : AV) (e0 : Ent) : Option (Nat × Ent × AV × Prop) :=
  match uk P t, uk P u, x with
  | .slice e, .slice _, .lst sz' new =>
    match tsz P e, tby P e with
    | some sz, some by_ =>
      if elB P e = true then
        match d, e0 with
        | .osl id ver off len, ⟨v, .row sz0 l⟩ =>
          if v = ver ∧ sz0 = sz then
            some (id, ⟨ver + 1, .row sz ((l.drop off).take len ++ new)⟩, .osl id (ver + 1) 0 (len + new.length),
              off + len ≤ l.length ∧ (len + new.length) * by_ ≤ 140737488355328 ∧ len + new.length ≤ 9223372036854775807 ∧ (new ≠ [] → sz' = sz))
          else none
        | _, _ => none
      else none
    | _, _ => none
  | _, _, _ => none
theorem apE_ok {t u : TypeId} {d x y : AV} {e0 e1 : Ent} {id : Nat} {p : Prop} {m : Mem} (h : apE P t u d x e0 = some (id, e1, y, p)) (hp : p) (hid : m[id]? = some e0) : ∃ q, appA P m t u d x = some (m.set id e1, y, q) ∧ q := by
  unfold apE at h
  split at h <;> (try (cases h; done))
  rename_i e e' sz' new hut huu
  split at h <;> (try (cases h; done))
  rename_i sz by_ hsz hby
  split at h <;> (try (cases h; done))
  rename_i hel
  split at h <;> (try (cases h; done))
  rename_i id' ver off len v sz0 l
  split at h <;> (try (cases h; done))
  rename_i hv
  simp only [Option.some.injEq, Prod.mk.injEq] at h
  obtain ⟨rfl, rfl, rfl, rfl⟩ := h
  obtain ⟨p1, p2, p3, p4⟩ := hp
  unfold appA appA0
  simp only [hut, huu, hsz, hby, rowOf, hid]
  rw [if_pos hel, if_pos hv]
  exact ⟨_, rfl, p1, p2, p3, trivial, trivial, p4⟩
def evE (P : Program) (E : Operand → AV) (e0 : Ent) (op : Op) : Option (Nat × Ent × AV × Prop) :=
  match op with
  | .store ty a v => stE P ty (E a) (E v) e0
  | .call c =>
    match c.callee with
    | .builtin .append =>
      match c.args.toList, c.argTypes.toList with
      | [d, x], [t, u] => apE P t u (E d) (E x) e0
      | _, _ => none
    | _ => none
  | _ => none
theorem evE_ok {E : Operand → AV} {op : Op} {x : AV} {e0 e1 : Ent} {id : Nat} {p : Prop} {m : Mem} (h : evE P E e0 op = some (id, e1, x, p)) (hp : p) (hid : m[id]? = some e0) : ∃ q, effA P E m op = some (m.set id e1, x, q) ∧ q := by
  unfold evE at h
  split at h <;> (try (cases h; done))
  · exact ⟨p, by unfold effA; exact stE_ok h hid, hp⟩
  · rename_i c
    split at h <;> (try (cases h; done))
    rename_i hc
    split at h <;> (try (cases h; done))
    rename_i d y t u hargs htys
    obtain ⟨q, h1, h2⟩ := apE_ok h hp hid
    exact ⟨q, by unfold effA; simp only [hc, hargs, htys]; exact h1, h2⟩

inductive AbsG (P : Program) (gds : List (Option Nat)) (m : Mem) (n : Nat) : Nat → Mem → List Oper → List (Nat × AV) → List (Nat × AV) → List (Nat × Nat × Ent) → List Nat → Mem → Prop where
  | nil {k : Nat} {acc : Mem} {t : List (Nat × AV)} : AbsG P gds m n k acc [] t t [] [] acc
  | cons {k : Nat} {acc acc' : Mem} {o : Oper} {l : List Oper} {t t' : List (Nat × AV)} {x : AV} {es : List (Nat × Nat × Ent)} {sq : List Nat} : dstB n o.dst = true → (∀ z : Mem, StepAt P gds t (m ++ z) o (m ++ z) x) → AbsG P gds m n (k + 1) acc l (upd t o.dst x) t' es sq acc' → AbsG P gds m n k acc (o :: l) t t' es sq acc'
  | evt {k j : Nat} {acc acc' : Mem} {o : Oper} {l : List Oper} {t t' : List (Nat × AV)} {x : AV} {e0 e1 : Ent} {es : List (Nat × Nat × Ent)} {sq : List Nat} : dstB n o.dst = true → acc[j]? = some e0 → (∀ m' : Mem, m'.take m.length = m → m'[m.length + j]? = some e0 → StepAt P gds t m' o (m'.set (m.length + j) e1) x) → AbsG P gds m n (k + 1) (acc.set j e1) l (upd t o.dst x) t' es sq acc' → AbsG P gds m n k acc (o :: l) t t' ((k, j, e1) :: es) sq acc'
  | seq {k : Nat} {acc acc' : Mem} {o : Oper} {l : List Oper} {t t' : List (Nat × AV)} {x : AV} {es : List (Nat × Nat × Ent)} {sq : List Nat} : dstB n o.dst = true → StepAt P gds t (m ++ acc) o (m ++ acc) x → AbsG P gds m n (k + 1) acc l (upd t o.dst x) t' es sq acc' → AbsG P gds m n k acc (o :: l) t t' es (k :: sq) acc'
/-! its steps -/
section
variable {gds : List (Option Nat)} {m : Mem} {n k : Nat} {acc acc' : Mem} {l : List Oper} {t t' : List (Nat × AV)} {es : List (Nat × Nat × Ent)} {sq : List Nat} {x : AV} {p : Prop} {dst : Option Nat} {op : Op} {type : TypeId} {pos : String} {after : Array Edge}
theorem AbsG.pure {o : Oper} (h1 : dstB n o.dst = true) (hsl : isSlc o.op = false) (h2 : stepA P gds t m o = some (x, p)) (h3 : p) (h4 : AbsG P gds m n (k + 1) acc l (upd t o.dst x) t' es sq acc') : AbsG P gds m n k acc (o :: l) t t' es sq acc' :=
  .cons h1 (fun z => (stepA_yield (stepA_app z hsl h2) h3).stepAt) h4
theorem AbsG.bld {sz : Nat} {xs : List AV} (h1 : dstB n dst = true) (h2 : bldA P (evo t) op = some (sz, xs, p)) (h3 : p) (h4 : AbsG P gds m n (k + 1) acc l (upd t dst (.lst sz xs)) t' es sq acc') : AbsG P gds m n k acc (⟨dst, op, type, pos, after, none⟩ :: l) t t' es sq acc' :=
  .cons h1 (fun z => (bldA_yield h2 h3).stepAt) h4
theorem AbsG.new (j : Nat) {sz ver : Nat} {row : List AV} {q : Option Nat} {k0 : Kind} (h1 : dstB n dst = true) (h2 : alcA P (evo t) op = some (sz, row, q, p)) (h3 : p) (ha : acc[j]? = some ⟨ver, k0⟩) (h4 : AbsG P gds m n (k + 1) (acc.set j ⟨ver + 1, .row sz row⟩) l (upd t dst (alcV (m.length + j) (ver + 1) q)) t' es sq acc') : AbsG P gds m n k acc (⟨dst, op, type, pos, after, none⟩ :: l) t t' ((k, j, ⟨ver + 1, .row sz row⟩) :: es) sq acc' :=
  .evt h1 ha (fun m' _ hid => alcA_step h2 h3 hid) h4
theorem AbsG.eff (j : Nat) {e0 e1 : Ent} (h1 : dstB n dst = true) (ha : acc[j]? = some e0) (h2 : evE P (evo t) e0 op = some (m.length + j, e1, x, p)) (h3 : p) (h4 : AbsG P gds m n (k + 1) (acc.set j e1) l (upd t dst x) t' es sq acc') : AbsG P gds m n k acc (⟨dst, op, type, pos, after, none⟩ :: l) t t' ((k, j, e1) :: es) sq acc' :=
  .evt h1 ha (fun m' _ hid => by
    obtain ⟨q, g1, g2⟩ := evE_ok h2 h3 hid
    exact (effA_at g1 g2).stepAt rfl) h4
end
attribute [push_cast] stE apE evE
end Go.Vg
