/- The abstract machine, part Fs: a call that hands back new memory, laid into an entry that stands already; in a region that draws its order. -/
import Derived.Test.YtljchlkmalidnaaVgVg
set_option linter.all false
set_option linter.unusedVariables false
set_option linter.unusedSimpArgs false
namespace Go.Vg
open Go.RowKit
variable {P : Program} {X : Nat → Prop} {w : World} {ρ : Rho}

theorem Spec.freshAt {gds : List (Option Nat)} {t : List (Nat × AV)} {m : Mem} {fo : Operand} {args : List Operand} {tys : Array TypeId} {dst : Option Nat} {type : TypeId} {pos : String} {after : Array Edge} {f : FuncId} {caps vargs : List AV} {sz len : Nat} {row : List AV}
    (he : Enters P f) (hf : fnOf (evo t fo) = some (f, caps)) (hv : VwL m (args.map (evo t) ++ caps) vargs) (hc : Spec P f vargs [] fun x m' => x = .osl 0 0 0 len ∧ m' = [⟨0, .row sz row⟩]) (hpl : plainL row) {id ver : Nat} {k0 : Kind} (hid : m[id]? = some ⟨ver, k0⟩) :
    StepAt P gds t m ⟨dst, callOp fo args tys, type, pos, after, none⟩ (m.set id ⟨ver + 1, .row sz row⟩) (.osl id (ver + 1) 0 len) := by
  refine ⟨fun c e => (by cases e), fun X w ρ a hi hr hn => ⟨fun _ => .inr (.inr ?_), fun hw => (by simp [Region.wanted] at hw)⟩⟩
  obtain ⟨h1, h2⟩ := onames_call (fo := fo) (args := args) (tys := tys) (t := t) (a := a) (X := X) (w := w) (ρ := ρ) (fun n hn => hr n (.inr hn))
  obtain ⟨cs, hcs, hcr⟩ := fnOf_rel hf h1
  have hrun := run_call (P := P) (w := w) (o := ⟨dst, callOp fo args tys, type, pos, after, none⟩) rfl hcs he
  have hargs : Rvals X w ρ (args.map (evo t) ++ caps) (args.map a.eval ++ cs) := (Rvals_map args fun y hy => h2 y hy).append hcr
  refine ⟨f, _, hrun, ?_⟩
  refine (hc (fun _ => False) w [] _ (Inv.empty (fun _ h => h.elim) hi.gd.nil0) ((VwL.rel hi hv).1 _ hargs)).mono ?_
  rintro e w' ⟨v, x', m'', ρ', rfl, ⟨rfl, rfl⟩, k1, k2, k3⟩
  have hl1 : ρ'.length = 1 := k2.len
  obtain ⟨r0, rfl⟩ : ∃ r0, ρ' = [r0] := by
    cases ρ' with
    | nil => simp at hl1
    | cons r l => cases l with
      | nil => exact ⟨r, rfl⟩
      | cons _ _ => simp at hl1
  obtain ⟨v0, q1, q2, q3⟩ := k2.at_ 0 r0 _ rfl rfl
  have hge : ∀ b, r0.blk = some b → w.heap.size ≤ b := fun b hb => by
    rcases Nat.lt_or_ge b w.heap.size with h | h
    · exact absurd hb ((k3.block b (fun r hr => by cases hr) h).1 r0 (by simp))
    · exact h
  have hidl : id < ρ.length := by rw [hi.len]; exact (List.getElem?_eq_some_iff.1 hid).1
  have h0 : ρ[id]? = some ρ[id] := List.getElem?_eq_getElem hidl
  obtain ⟨hvv, _⟩ := hi.at_ id _ _ h0 hid
  simp only at hvv v0
  obtain ⟨g1, g2⟩ := hi.renew h0 (r' := ⟨ρ[id].ver + 1, r0.blk, r0.base, r0.size, r0.sz⟩) (w' := w') (k := .row sz row) k3.os k3.tape k3.output k3.size rfl
    (fun b hb _ => (k3.block b (fun r hr => by cases hr) hb).2) (fun b hb => ⟨.inr (hge b hb), (k2.new 0 r0 b rfl hb).1⟩) (fun ρ' he ht => by
      refine ⟨q1, q2, fun b hb => ?_⟩
      obtain ⟨z1, z2, z3⟩ := q3 b hb
      exact ⟨z1, z2, Rrow.plain hpl z3⟩)
  rw [hvv] at g1 g2
  refine ⟨v, rfl, _, ?_, g2, g1⟩
  obtain ⟨A, c, r, y1, y2, y3, y4⟩ := k1
  simp at y2
  subst y2
  exact ⟨A, c, ⟨ver + 1, r0.blk, r0.base, r0.size, r0.sz⟩, y1, by rw [List.getElem?_set_self hidl], Nat.le_refl _, fun _ => y4 (by rw [v0])⟩

section
variable {gds : List (Option Nat)} {m : Mem} {n k : Nat} {acc acc' : Mem} {l : List Oper} {t t' : List (Nat × AV)} {es : List (Nat × Nat × Ent)} {sq : List Nat} {dst : Option Nat} {type : TypeId} {pos : String} {after : Array Edge}
theorem get_more {m m' : Mem} (h : m'.take m.length = m) {id : Nat} {e : Ent} (q : m[id]? = some e) : m'[id]? = some e := by
  have hl := (List.getElem?_eq_some_iff.1 q).1
  rw [← h, List.getElem?_take] at q
  rw [if_pos hl] at q; exact q
mutual
theorem Vw.more {m m' : Mem} (h : m'.take m.length = m) : ∀ {x y : AV}, Vw m x y → Vw m' x y
  | _, _, .self q => .self q
  | _, _, .emp => .emp
  | _, _, .osl q1 q2 q3 q4 => .osl (get_more h q1) q2 q3 (VwL.more h q4)
  | _, _, .optr q1 q2 q3 q4 => .optr (get_more h q1) q2 q3 (VwL.more h q4)
  | _, _, .agg q => .agg (VwL.more h q)
  | _, _, .tup q => .tup (VwL.more h q)
  | _, _, .clo q => .clo (VwL.more h q)
theorem VwL.more {m m' : Mem} (h : m'.take m.length = m) : ∀ {x y : List AV}, VwL m x y → VwL m' x y
  | _, _, .nil => .nil
  | _, _, .cons a b => .cons (Vw.more h a) (VwL.more h b)
end
/-- a call that hands back new memory, laid into entry j of the new ones; it is lent what stands in front of them -/
theorem AbsG.fresh (j : Nat) {fo : Operand} {args : List Operand} {tys : Array TypeId} {f : FuncId} {caps vargs : List AV} {sz len ver : Nat} {row : List AV} {k0 : Kind} (h1 : dstB n dst = true)
    (hf : fnOf (evo t fo) = some (f, caps)) (he : Enters P f) (hc : Spec P f vargs [] fun x m' => x = .osl 0 0 0 len ∧ m' = [⟨0, .row sz row⟩]) (hv : VwL m (args.map (evo t) ++ caps) vargs) (hpl : plainL row) (ha : acc[j]? = some ⟨ver, k0⟩)
    (h4 : AbsG P gds m n (k + 1) (acc.set j ⟨ver + 1, .row sz row⟩) l (upd t dst (.osl (m.length + j) (ver + 1) 0 len)) t' es sq acc') : AbsG P gds m n k acc (⟨dst, callOp fo args tys, type, pos, after, none⟩ :: l) t t' ((k, j, ⟨ver + 1, .row sz row⟩) :: es) sq acc' :=
  .evt h1 ha (fun m' hm' hid => Spec.freshAt he hf (hv.more hm') hc hpl hid) h4
end

/-! what draws in front, then one by one: each stands behind all before it -/
def DoneD (P : Program) (gds : List (Option Nat)) (ops : List Oper) (n : Nat) (pre : List Oper) (t : List (Nat × AV)) (m : Mem) (t1 : List (Nat × AV)) (m1 : Mem) : Prop :=
  ∃ (es : List Nat) (mem : List Bool → Mem), (∀ e ∈ es, e < pre.length) ∧ mem (es.map fun _ => false) = m ∧ mem (es.map fun _ => true) = m1 ∧ AbsM P gds ops es mem n 0 pre t t1
theorem DoneD.snoc {gds : List (Option Nat)} {ops pre : List Oper} {n : Nat} {t t1 : List (Nat × AV)} {m m1 m2 : Mem} {o : Oper} {x : AV} (h : DoneD P gds ops n pre t m t1 m1) (hd : dstB n o.dst = true) (hbef : (List.range pre.length).all (fun j => before ops j pre.length && !before ops pre.length j) = true) (hs : StepAt P gds t1 m1 o m2 x) :
    DoneD P gds ops n (pre ++ [o]) t m (upd t1 o.dst x) m2 := by
  obtain ⟨es, mem, hlow, e1, e2, habs⟩ := h
  have hbef' : ∀ j, j < pre.length → before ops j pre.length = true ∧ before ops pre.length j = false := fun j hj => by
    have := List.all_eq_true.1 hbef j (List.mem_range.2 hj)
    simpa using this
  refine ⟨es ++ [pre.length], memE es.length mem m2, ?_, ?_, ?_, ?_⟩
  · intro e he
    rcases List.mem_append.1 he with he | he
    · have := hlow e he; simp; omega
    · simp only [List.mem_singleton] at he; subst he; simp
  · rw [List.map_append]
    have := memE_f (n := es.length) (mem := mem) (m2 := m2) (bs := es.map fun _ => false) (by simp)
    rw [show List.map (fun _ => false) [pre.length] = [false] from rfl, this, e1]
  · rw [List.map_append]
    have := memE_t (n := es.length) (mem := mem) (m2 := m2) (bs := es.map fun _ => true) (by simp)
    rw [show List.map (fun _ => true) [pre.length] = [true] from rfl, this]
  · refine AbsM.ext hbef' habs (by omega) (.cons (dstB_ok hd) (fun bits hb => ?_) .nil)
    rw [Nat.zero_add] at hb ⊢
    obtain ⟨bs, b, rfl, q1', q2', _, q4⟩ := consL_snoc hb
    have hbl : bs.length = es.length := allB_len (List.mem_filter.1 q1').1
    have := q2' rfl
    subst this
    have hall : bs = es.map fun _ => true := by
      refine List.ext_getElem? fun i => ?_
      rcases Nat.lt_or_ge i bs.length with hi | hi
      · have hi' : i < es.length := by omega
        have hz : (es.zip bs)[i]? = some (es[i], bs[i]) := by
          rw [List.getElem?_zip_eq_some]
          exact ⟨by simp [hi'], List.getElem?_eq_getElem hi⟩
        have hlt := hlow es[i] (List.getElem_mem hi')
        have := q4 _ (List.mem_of_getElem? hz) (by simp only; omega) (hbef' _ hlt).1
        simp only at this
        rw [List.getElem?_eq_getElem hi, this]
        simp [hi']
      · rw [List.getElem?_eq_none hi, List.getElem?_eq_none (by simp; omega)]
    rw [setB_snoc hbl, memE_f hbl, show (decide (pre.length = pre.length) || false) = true by simp, memE_t (by unfold setB; simp; omega)]
    rw [hall, e2]
    exact hs
inductive AbsT (P : Program) (gds : List (Option Nat)) (ops : List Oper) (n : Nat) : Nat → Mem → List Oper → List (Nat × AV) → List (Nat × AV) → Mem → Prop where
  | nil {k : Nat} {m : Mem} {t : List (Nat × AV)} : AbsT P gds ops n k m [] t t m
  | cons {k : Nat} {m m1 m' : Mem} {o : Oper} {l : List Oper} {t t' : List (Nat × AV)} {x : AV} : dstB n o.dst = true → (List.range k).all (fun j => before ops j k && !before ops k j) = true → StepAt P gds t m o m1 x → AbsT P gds ops n (k + 1) m1 l (upd t o.dst x) t' m' → AbsT P gds ops n k m (o :: l) t t' m'
theorem DoneD.tail {gds : List (Option Nat)} {ops : List Oper} {n : Nat} {t : List (Nat × AV)} {m : Mem} : ∀ {k : Nat} {l pre : List Oper} {t1 t2 : List (Nat × AV)} {m1 m2 : Mem}, DoneD P gds ops n pre t m t1 m1 → pre.length = k → AbsT P gds ops n k m1 l t1 t2 m2 → DoneD P gds ops n (pre ++ l) t m t2 m2
  | _, _, _, _, _, _, _, h, _, .nil => by simpa using h
  | k, _, pre, _, _, _, _, h, hk, .cons (o := o) (l := l) h1 h2 h3 h4 => by
    subst hk
    have := DoneD.tail (h.snoc h1 h2 h3) (by simp) h4
    simpa using this
theorem AbsT.eff {gds : List (Option Nat)} {ops : List Oper} {n k : Nat} {m m1 m' : Mem} {l : List Oper} {t t' : List (Nat × AV)} {x : AV} {p : Prop} {dst : Option Nat} {op : Op} {type : TypeId} {pos : String} {after : Array Edge} (h1 : dstB n dst = true) (h2 : (List.range k).all (fun j => before ops j k && !before ops k j) = true) (h3 : effA P (evo t) m op = some (m1, x, p)) (hp : p)
    (h4 : AbsT P gds ops n (k + 1) m1 l (upd t dst x) t' m') : AbsT P gds ops n k m (⟨dst, op, type, pos, after, none⟩ :: l) t t' m' :=
  .cons (o := ⟨dst, op, type, pos, after, none⟩) h1 h2 ((effA_at h3 hp).stepAt rfl) h4
theorem AbsT.step {gds : List (Option Nat)} {ops : List Oper} {n k : Nat} {m m' : Mem} {l : List Oper} {t t' : List (Nat × AV)} {x : AV} {p : Prop} {o : Oper} (h1 : dstB n o.dst = true) (h2 : (List.range k).all (fun j => before ops j k && !before ops k j) = true) (h3 : stepA P gds t m o = some (x, p)) (hp : p)
    (h4 : AbsT P gds ops n (k + 1) m l (upd t o.dst x) t' m') : AbsT P gds ops n k m (o :: l) t t' m' :=
  .cons h1 h2 (stepA_yield h3 hp).stepAt h4
section
variable {gds : List (Option Nat)} {l : List Oper} {Q : S → Prop} {s s1 : S} {fo : Operand} {args : List Operand} {tys : Array TypeId} {dst : Option Nat} {type : TypeId} {pos : String} {after : Array Edge} {f : FuncId} {caps vargs : List AV} {sz : Nat} {row : List AV}
end
section
variable {gds : List (Option Nat)} {l : List Oper} {s s1 : S}
/-- in a region that draws: an operation whose guard does not hold -/
theorem Abn.gfalse (x : AV) {dst : Option Nat} {op : Op} {type : TypeId} {pos : String} {after : Array Edge} {g : Nat × Bool} (hd : ∀ c, op ≠ .defer c) (h : gval gds s.t g = some false) (k : Abn P gds l (putA s dst (.opt false x)) s1) : Abn P gds (⟨dst, op, type, pos, after, some g⟩ :: l) s s1 :=
  Abn.yield (x := .opt false x) ⟨hd, fun X w ρ a hi hr hn => by
    have hw := gval_wanted (o := ⟨dst, op, type, pos, after, some g⟩) (a := a) (X := X) (w := w) (ρ := ρ) rfl (fun n hn' => ⟨hr n (.inl hn'), hn n hn'⟩) h
    exact ⟨fun e => (by rw [hw] at e; cases e), fun _ => ⟨fun e => (by cases e), fun _ => rfl⟩⟩⟩ (by rw [putA_eq] at k; exact k)
end
end Go.Vg
