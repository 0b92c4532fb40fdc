/- A part of the proof of TopLent: contracts of functions, with plain laws that they need. -/
import Derived.Test.YtlcekedcjdamoaaVgVe
import Derived.Test.YtlcekedcjdamoaaVgFs
import Derived.Test.YtlcekedcjdamoaaVgFz
import Derived.Test.YtlcekedcjdamoaaVgNm
import Derived.Test.YtlcekedcjdamoaaVgVg
set_option linter.all false
set_option linter.unusedVariables false
set_option autoImplicit true
namespace Go.Vg
open Go.RowKit
variable {P : Program} {X : Nat → Prop} {w : World} {ρ : Rho}
/-- a frozen slice appended to nil, which nobody writes any more -/
theorem apnA_yield {gds : List (Option Nat)} {t : List (Nat × AV)} {m : Mem} {dst : Option Nat} {op : Op} {type : TypeId} {pos : String} {after : Array Edge} {sz : Nat} {l : List AV} {p : Prop} (h : apnA P (evo t) op = some (sz, l, p)) (hp : p) (hpl : plainL l) (hsz0 : 0 < sz) (hok : okL 0 l) :
    Yield P gds t m ⟨dst, op, type, pos, after, none⟩ (.lst sz l) := by
  unfold apnA at h
  split at h <;> (try (cases h; done))
  rename_i c
  split at h <;> (try (cases h; done))
  rename_i hc
  split at h <;> (try (cases h; done))
  rename_i d y t0 u hargs htys
  split at h <;> (try (cases h; done))
  rename_i sz' new hd hy
  split at h <;> (try (cases h; done))
  rename_i e e' hut huu
  split at h <;> (try (cases h; done))
  rename_i sz0 by_ hsz hby
  split at h <;> (try (cases h; done))
  rename_i hel
  simp only [Option.some.injEq, Prod.mk.injEq] at h
  obtain ⟨rfl, rfl, rfl⟩ := h
  obtain ⟨hb, hm, hss⟩ := hp
  have e1 : c.args = #[d, y] := by apply Array.ext'; simpa using hargs
  have e2 : c.argTypes = #[t0, u] := by apply Array.ext'; simpa using htys
  refine ⟨fun c' e => (by simp at e), fun X w ρ a hi hr hn => ⟨fun _ => ?_, fun hw => (by simp [Region.wanted] at hw)⟩⟩
  have ho := evo_of (op := .call c) (fun n hn => hr n (.inr hn))
  have hd' := ho d (by simp [Op.operands, Call.operands, e1, hc])
  have hy' := ho y (by simp [Op.operands, Call.operands, e1, hc])
  rw [hd] at hd'
  rw [hy] at hy'
  have hfr : ∀ b, Free X ρ b → Free (fun _ => False) [(⟨0, none, 0, 0, 0⟩ : RE)] b := fun b _ => ⟨fun h => h, fun r hr => by
    simp only [List.mem_singleton] at hr; subst hr; intro h; cases h⟩
  have hi0 : Inv (fun _ => False) w [(⟨0, none, 0, 0, 0⟩ : RE)] [⟨0, .row 0 []⟩] := by
    refine ⟨rfl, fun i r e hr he => ?_, fun i j r r' b h1 h2 h3 h4 => ?_, fun i r b h1 h2 => ?_, fun b h => h.elim⟩
    · cases i with
      | zero =>
        simp only [List.getElem?_cons_zero, Option.some.injEq] at hr he
        subst hr; subst he
        exact ⟨rfl, rfl, fun _ => rfl, fun b h => by cases h⟩
      | succ i => simp at hr
    · cases i with
      | zero => simp only [List.getElem?_cons_zero, Option.some.injEq] at h1; subst h1; cases h3
      | succ i => simp at h1
    · cases i with
      | zero => simp only [List.getElem?_cons_zero, Option.some.injEq] at h1; subst h1; cases h2
      | succ i => simp at h1
  have hk1 : AV.ok 0 .emp := trivial
  obtain ⟨v, w', ρ', q1, q2, q3, q4⟩ := app_at (P := P) (ty := type) hi0 (id := 0) (ver := 0) (k0 := .row 0 []) rfl ((Rp.eyes hfr .emp trivial).1 _ hd') ((Rp.eyes hfr (.lst sz' new) hok).1 _ hy') hut huu hsz hby hel hb hm hss
  have k3 : Tr w [] w' ρ' := ⟨q2.os, q2.tape, q2.output, q2.size, fun i r h => by simp at h, fun b _ hlt => q2.block b (by intro r hr; simp only [List.mem_singleton] at hr; subst hr; simp) hlt⟩
  have hl1 : ρ'.length = 1 := q3.len
  obtain ⟨r0, rfl⟩ : ∃ r0, ρ' = [r0] := by
    cases ρ' with
    | nil => simp at hl1
    | cons r l => cases l with
      | nil => exact ⟨r, rfl⟩
      | cons _ _ => simp at hl1
  obtain ⟨v0, z1, z2, z3⟩ := q3.at_ 0 r0 _ rfl rfl
  have hge : ∀ b, r0.blk = some b → w.heap.size ≤ b := fun b hb => by
    rcases Nat.lt_or_ge b w.heap.size with h | h
    · exact absurd hb ((k3.block b (fun r hr => by cases hr) h).1 r0 (by simp))
    · exact h
  have hbl : ∀ r ∈ ρ, ∀ b, r.blk = some b → b < w.heap.size := fun r hr' b hb' => by
    obtain ⟨i, hi', rfl⟩ := List.getElem_of_mem hr'
    exact (hi.new i _ b (List.getElem?_eq_getElem hi') hb').1
  obtain ⟨A, c', r, y1, y2, y3, y4⟩ := q4
  simp at y2
  subst y2
  obtain ⟨x1, x2, x3⟩ := y4 (by rw [v0])
  refine .inl ⟨v, w', by unfold execOp; simp [resolve, hc, invoke, builtin, e1, e2, q1], ⟨A, c', y1, x1, x2, fun hne => ?_⟩, hi.keep k3, k3.keep ρ hbl⟩
  have hp : 0 < new.length := by cases new with
    | nil => exact absurd rfl hne
    | cons _ _ => simp
  obtain ⟨b, b1, b2, b3⟩ := x3 (by omega)
  obtain ⟨_, _, g3⟩ := z3 b b1
  refine ⟨b, r0.base, by rw [b2]; simp, ⟨fun hx => ?_, fun r hr' hb => ?_⟩, hsz0, Rrow.plain hpl g3⟩
  · have := hi.out b hx
    have := hge b b1; omega
  · have := hbl r hr' b hb
    have := hge b b1; omega
theorem Run.apnF {gds : List (Option Nat)} {l : List Oper} {Q : S → Prop} {s : S} {dst : Option Nat} {op : Op} {type : TypeId} {pos : String} {after : Array Edge} {sz : Nat} {row : List AV} {p : Prop} (h : apnA P (evo s.t) op = some (sz, row, p)) (hp : p) (hpl : plainL row ∧ 0 < sz ∧ okL 0 row) (k : Run P gds l Q (putA s dst (.lst sz row))) : Run P gds (⟨dst, op, type, pos, after, none⟩ :: l) Q s :=
  Run.yieldN (o := ⟨dst, op, type, pos, after, none⟩) (apnA_yield h hp hpl.1 hpl.2.1 hpl.2.2) k
theorem Abn.apnF {gds : List (Option Nat)} {l : List Oper} {s s1 : S} {dst : Option Nat} {op : Op} {type : TypeId} {pos : String} {after : Array Edge} {sz : Nat} {row : List AV} {p : Prop} (h : apnA P (evo s.t) op = some (sz, row, p)) (hp : p) (hpl : plainL row ∧ 0 < sz ∧ okL 0 row) (k : Abn P gds l (putA s dst (.lst sz row)) s1) : Abn P gds (⟨dst, op, type, pos, after, none⟩ :: l) s s1 := by
  rw [putA_eq] at k
  exact Abn.yield (o := ⟨dst, op, type, pos, after, none⟩) (apnA_yield h hp hpl.1 hpl.2.1 hpl.2.2) k
theorem lit0e_yield {gds : List (Option Nat)} {t : List (Nat × AV)} {m : Mem} {dst : Option Nat} {ty type : TypeId} {pos : String} {after : Array Edge} {sz : Nat} {p : Prop} (h : bldA P (evo t) (.buildSlice ty 0 #[]) = some (sz, [], p)) (hp : p) : Yield P gds t m ⟨dst, .buildSlice ty 0 #[], type, pos, after, none⟩ .emp := by
  refine ⟨fun c e => (by cases e), fun X w ρ a hi hr hn => ⟨fun _ => ?_, fun hw => (by simp [Region.wanted] at hw)⟩⟩
  obtain ⟨e, arr, vs, h1, _⟩ := bldA_run (P := P) (o := ⟨dst, .buildSlice ty 0 #[], type, pos, after, none⟩) (X := X) (w := w) (ρ := ρ) (a := a) (fun y hy => by simp [Op.operands] at hy) h hp
  obtain ⟨q1, q2⟩ := push_keep hi arr e
  exact .inl ⟨_, _, h1, ⟨_, rfl⟩, q2, q1⟩
theorem Abn.lit0e {gds : List (Option Nat)} {l : List Oper} {s s1 : S} {dst : Option Nat} {ty type : TypeId} {pos : String} {after : Array Edge} {sz : Nat} {p : Prop} (h : bldA P (evo s.t) (.buildSlice ty 0 #[]) = some (sz, [], p)) (hp : p) (k : Abn P gds l (putA s dst .emp) s1) : Abn P gds (⟨dst, .buildSlice ty 0 #[], type, pos, after, none⟩ :: l) s s1 := by
  rw [putA_eq] at k
  exact Abn.yield (o := ⟨dst, .buildSlice ty 0 #[], type, pos, after, none⟩) (lit0e_yield h hp) k
theorem AbsG.lit0e {gds : List (Option Nat)} {m : Mem} {n k : Nat} {acc acc' : Mem} {l : List Oper} {t t' : List (Nat × AV)} {es : List (Nat × Nat × Ent)} {sq : List Nat} {dst : Option Nat} {ty type : TypeId} {pos : String} {after : Array Edge} {sz : Nat} {p : Prop} (h1 : dstB n dst = true) (h : bldA P (evo t) (.buildSlice ty 0 #[]) = some (sz, [], p)) (hp : p)
    (h4 : AbsG P gds m n (k + 1) acc l (upd t dst .emp) t' es sq acc') : AbsG P gds m n k acc (⟨dst, .buildSlice ty 0 #[], type, pos, after, none⟩ :: l) t t' es sq acc' :=
  .cons h1 (fun z => (lit0e_yield h hp).stepAt) h4
theorem AbsG.apnF {gds : List (Option Nat)} {m : Mem} {n k : Nat} {acc acc' : Mem} {l : List Oper} {t t' : List (Nat × AV)} {es : List (Nat × Nat × Ent)} {sq : List Nat} {dst : Option Nat} {op : Op} {type : TypeId} {pos : String} {after : Array Edge} {sz : Nat} {row : List AV} {p : Prop} (h1 : dstB n dst = true) (h2 : apnA P (evo t) op = some (sz, row, p)) (h3 : p) (hpl : plainL row ∧ 0 < sz ∧ okL 0 row)
    (h4 : AbsG P gds m n (k + 1) acc l (upd t dst (.lst sz row)) t' es sq acc') : AbsG P gds m n k acc (⟨dst, op, type, pos, after, none⟩ :: l) t t' es sq acc' :=
  .cons h1 (fun z => (apnA_yield h2 h3 hpl.1 hpl.2.1 hpl.2.2).stepAt) h4
end Go.Vg
