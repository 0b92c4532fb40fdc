/- The abstract machine, part C: what the operations that only compute do in the model. -/
import Derived.Test.YtljchlkmalidnaaVgB
import Derived.Laws.StructEq
import Derived.ChangeKeysEq
import Derived.Laws.Cells
set_option linter.all false
set_option linter.unusedVariables false
namespace Go.Vg
open Go.RowKit
variable {P : Program} {X : Nat → Prop} {w : World} {ρ : Rho}

theorem R_val {u v : Value} : R X w ρ (.val u) v ↔ v = u := Iff.rfl

theorem toListB (a : ByteArray) : a.toList = a.data.toList := ByteArray.toList_eq a
theorem beq_toList (a b : ByteArray) : (a.toList == b.toList) = decide (a = b) := by
  rw [toListB, toListB]
  by_cases h : a = b
  · subst h; simp
  · have : a.data.toList ≠ b.data.toList := fun e => h (by cases a; cases b; simp at e; simp [e])
    rw [decide_eq_false h]; exact beq_false_of_ne this

theorem intBin_run {op : BinOp} {k : IntKind} {a b : Int} {t : TypeId} {x : AV} {p : Prop} (h : intBin op k a b = some (x, p)) (hp : p) :
    ∃ v, (binOp op t (.int k a) (.int k b)).run P w = .ok v w ∧ R X w ρ x v := by
  unfold intBin at h
  split at h <;> simp only [Option.some.injEq, Prod.mk.injEq, reduceCtorEq] at h <;> (try exact h.elim) <;> obtain ⟨rfl, rfl⟩ := h
  · exact ⟨_, by simp [binOp, Op.intArith], rfl⟩
  · exact ⟨_, by simp [binOp, Op.intArith], rfl⟩
  · exact ⟨_, by simp [binOp, Op.intArith], rfl⟩
  · exact ⟨_, by simp [binOp, Op.intDiv, hp], rfl⟩
  · exact ⟨_, by simp [binOp, Op.intDiv, hp], rfl⟩
  · exact ⟨_, by simp only [binOp, ne_eq, not_true_eq_false, if_false, Op.intBits, Sem.run_pure], rfl⟩
  · exact ⟨_, by simp only [binOp, ne_eq, not_true_eq_false, if_false, Op.intBits, Sem.run_pure], rfl⟩
  · exact ⟨_, by simp only [binOp, ne_eq, not_true_eq_false, if_false, Op.intBits, Sem.run_pure], rfl⟩
  · exact ⟨.bool (a == b), by simp [binOp, Op.intCmp], by rw [R_val]; rfl⟩
  · exact ⟨.bool (a != b), by simp [binOp, Op.intCmp], by rw [R_val]; rfl⟩
  · exact ⟨_, by simp only [binOp, ne_eq, not_true_eq_false, if_false, Op.intCmp, Sem.run_pure], rfl⟩
  · exact ⟨_, by simp only [binOp, ne_eq, not_true_eq_false, if_false, Op.intCmp, Sem.run_pure], rfl⟩
  · exact ⟨_, by simp only [binOp, ne_eq, not_true_eq_false, if_false, Op.intCmp, Sem.run_pure], rfl⟩
  · exact ⟨_, by simp only [binOp, ne_eq, not_true_eq_false, if_false, Op.intCmp, Sem.run_pure], rfl⟩

theorem shBin_run {op : BinOp} {k k' : IntKind} {a b : Int} {t : TypeId} {x : AV} {p : Prop} (h : shBin op k a b = some (x, p)) (hp : p) :
    ∃ v, (binOp op t (.int k a) (.int k' b)).run P w = .ok v w ∧ R X w ρ x v := by
  unfold shBin at h
  split at h <;> simp only [Option.some.injEq, Prod.mk.injEq, reduceCtorEq] at h <;> (try exact h.elim) <;> obtain ⟨rfl, rfl⟩ := h
  all_goals exact ⟨_, by simp [binOp, Op.shift, Int.not_lt.2 hp], rfl⟩

theorem strBin_run {op : BinOp} {a b : ByteArray} {t : TypeId} {x : AV} {p : Prop} (h : strBin op a b = some (x, p)) (hp : p) :
    ∃ v, (binOp op t (.string a) (.string b)).run P w = .ok v w ∧ R X w ρ x v := by
  unfold strBin at h
  split at h <;> simp only [Option.some.injEq, Prod.mk.injEq, reduceCtorEq] at h <;> (try exact h.elim) <;> obtain ⟨rfl, rfl⟩ := h
  · refine ⟨_, ?_, rfl⟩
    have : ¬ (((a.size + b.size : Nat) : Int) > IntKind.i64.max) := by simp [IntKind.max, IntKind.signed, IntKind.bits]; omega
    simp only [binOp, Op.stringOp, this, if_false, Sem.run_pure]
  · exact ⟨.bool (a.toList == b.toList), by simp only [binOp, Op.stringOp, Sem.run_pure], by rw [R_val, beq_toList]⟩
  · exact ⟨.bool (!(a.toList == b.toList)), by simp only [binOp, Op.stringOp, Sem.run_pure], by rw [R_val, beq_toList]⟩

theorem run_eqGuard_val {op : BinOp} {t : TypeId} {x y : Operand} {a b : Value} (h1 : a ≠ .nilIface) (h2 : ∀ cs, a ≠ .agg cs) : (eqGuard op t x y a b).run P w = .ok () w := by
  unfold eqGuard
  cases op <;> simp only [Bool.not_true, Bool.false_eq_true, if_false, Bool.not_false, if_true] <;> first | rfl | (cases a <;> simp_all)

theorem run_equal_bool {t : TypeId} (h : P.underlying t = some .bool) {a b : Bool} : (Op.equal t (.bool a) (.bool b)).run P w = .ok (a == b) w := by
  unfold Op.equal Op.maxDepth
  exact run_equalIn_bool' w 9999 t a b h

def eqU1 (u : Nat) (x y : Value) : Option Bool :=
  match u, x, y with
  | 0, .int k a, .int k' b => if k = k' then some (decide (a = b)) else none
  | 1, .bool a, .bool b => some (decide (a = b))
  | 2, .string a, .string b => some (decide (a = b))
  | _, _, _ => none
def eqU : List Nat → List Value → List Value → Option Bool
  | [], [], [] => some true
  | u :: us, x :: xs, y :: ys =>
    match eqU1 u x y, eqU us xs ys with
    | some a, some b => some (a && b)
    | _, _ => none
  | _, _, _ => none
theorem eqU_cons {u : Nat} {us : List Nat} {xs ys : List Value} {r : Bool} (h : eqU (u :: us) xs ys = some r) : ∃ x y xs' ys' r1 r2, xs = x :: xs' ∧ ys = y :: ys' ∧ eqU1 u x y = some r1 ∧ eqU us xs' ys' = some r2 ∧ r = (r1 && r2) := by
  cases xs with
  | nil => cases ys <;> simp [eqU] at h
  | cons x xs =>
    cases ys with
    | nil => simp [eqU] at h
    | cons y ys =>
      simp only [eqU] at h
      split at h
      · rename_i a b h1 h2
        simp only [Option.some.injEq] at h
        exact ⟨x, y, xs, ys, a, b, rfl, rfl, h1, h2, h.symm⟩
      · cases h
theorem eqU_nil {xs ys : List Value} {r : Bool} (h : eqU [] xs ys = some r) : xs = [] ∧ ys = [] ∧ r = true := by
  cases xs <;> cases ys <;> simp [eqU] at h
  exact ⟨rfl, rfl, h⟩
theorem eqU_app : ∀ {us vs : List Nat} {xs ys : List Value} {r : Bool}, eqU (us ++ vs) xs ys = some r → ∃ r1 r2, eqU us (xs.take us.length) (ys.take us.length) = some r1 ∧ eqU vs (xs.drop us.length) (ys.drop us.length) = some r2 ∧ r = (r1 && r2)
  | [], vs, xs, ys, r, h => ⟨true, r, by simp [eqU], by simpa using h, by simp⟩
  | u :: us, vs, xs, ys, r, h => by
    obtain ⟨x, y, xs', ys', r1, r2, rfl, rfl, h1, h2, rfl⟩ := eqU_cons h
    obtain ⟨q1, q2, h3, h4, rfl⟩ := eqU_app h2
    refine ⟨r1 && q1, q2, ?_, by simpa using h4, by rw [Bool.and_assoc]⟩
    simp only [List.length_cons, List.take_succ_cons, eqU, h1, h3]
def EqU (P : Program) (d : Nat) (t : TypeId) (us : List Nat) : Prop :=
  ∀ (w : World) (k : Nat), (agg? P t = some true → ∀ (xs ys : Array Value) (r : Bool), eqU us xs.toList ys.toList = some r → (Op.equalIn (k + d) t (.agg xs) (.agg ys)).run P w = .ok r w) ∧
    (agg? P t = some false → ∃ u, us = [u] ∧ ∀ (x y : Value) (r : Bool), eqU1 u x y = some r → (Op.equalIn (k + d) t x y).run P w = .ok r w)
/-- a part, and another of the same type, compared -/
theorem EqU.atPart {d : Nat} {t : TypeId} {us : List Nat} (h : EqU P d t us) {n : Nat} (hn : tsz P t = some n) (hl : us.length = n) {bb : Bool} (ha : agg? P t = some bb) (w : World) (k : Nat) {xs ys : Array Value} {off : Nat} {r : Bool} (hr : eqU us ((xs.toList.drop off).take us.length) ((ys.toList.drop off).take us.length) = some r) :
    ∃ a b, (part t xs off).run P w = .ok a w ∧ (part t ys off).run P w = .ok b w ∧ (Op.equalIn (k + d) t a b).run P w = .ok r w := by
  have hag := run_isAgg ha w
  have hsz := run_sizeOf hn w
  cases bb with
  | true =>
    refine ⟨.agg (xs.extract off (off + n)), .agg (ys.extract off (off + n)), ?_, ?_, ?_⟩
    · unfold Go.part; simp only [Sem.run_bind, hag, Result.andThen_ok, if_true, hsz, Sem.run_pure]
    · unfold Go.part; simp only [Sem.run_bind, hag, Result.andThen_ok, if_true, hsz, Sem.run_pure]
    · refine (h w k).1 ha _ _ r ?_
      have e : ∀ zs : Array Value, (zs.extract off (off + n)).toList = (zs.toList.drop off).take us.length := fun zs => by
        rw [Array.toList_extract, List.extract_eq_take_drop, hl]; simp
      rw [e, e]; exact hr
  | false =>
    obtain ⟨u, rfl, h2⟩ := (h w k).2 ha
    obtain ⟨x, y, xs', ys', r1, r2, e1, e2, h3, h4, rfl⟩ := eqU_cons hr
    have g : ∀ {zs : Array Value} {z : Value} {zs' : List Value}, (zs.toList.drop off).take [u].length = z :: zs' → (part t zs off).run P w = .ok z w := by
      intro zs z zs' e
      have h0 : zs.toList[off]? = some z := by
        have : ((zs.toList.drop off).take [u].length)[0]? = some z := by rw [e]; rfl
        simpa [List.getElem?_take] using this
      have h1 : zs[off]? = some z := by simpa using h0
      unfold Go.part
      simp only [Sem.run_bind, hag, Result.andThen_ok, Bool.false_eq_true, if_false, h1, Sem.run_pure]
    refine ⟨x, y, g e1, g e2, ?_⟩
    obtain ⟨_, _, rfl⟩ := eqU_nil h4
    simpa using h2 x y r1 h3
theorem tsz_cells {t : TypeId} {us : List Nat} (h : agg? P t ≠ none) (hl : us.length = P.cellsOf t) : tsz P t = some us.length := by
  unfold agg? at h
  cases hu : P.underlying t with
  | none => rw [hu] at h; exact absurd rfl h
  | some d =>
    obtain ⟨i, hi⟩ := info_of_underlying hu
    unfold tsz; unfold Program.cellsOf at hl
    rw [hi] at hl ⊢
    simp at hl ⊢
    omega
theorem agg_of_flat {d : Nat} {t : TypeId} {us : List Nat} (h : flatU P d t = some us) : ∃ b, agg? P t = some b := by
  cases d with
  | zero => cases h
  | succ d =>
    unfold flatU at h
    unfold agg?
    cases hu : P.underlying t with
    | none => rw [hu] at h; cases h
    | some k => cases k <;> exact ⟨_, rfl⟩
theorem eqFields_flat {d : Nat} (IH : ∀ t us, flatU P d t = some us → EqU P d t us) (w : World) (k : Nat) {xs ys : Array Value} : ∀ {fs : List Field} {off : Nat} {us : List Nat} {r : Bool}, flatF P (flatU P d) fs off = some us → eqU us (xs.toList.drop off) (ys.toList.drop off) = some r → (Op.eqFields (k + d) xs ys fs).run P w = .ok r w
  | [], off, us, r, h, hr => by
    simp only [flatF, Option.some.injEq] at h
    subst h
    obtain ⟨_, _, rfl⟩ := eqU_nil hr
    simp [Op.eqFields]
  | f :: fs, off, us, r, h, hr => by
    unfold flatF at h
    split at h
    · rename_i hf
      obtain ⟨hf1, hf2⟩ := hf
      split at h
      · rename_i us1 h1
        split at h
        · rename_i hl
          split at h
          · rename_i vs h2
            simp only [Option.some.injEq] at h
            subst h
            obtain ⟨r1, r2, q1, q2, rfl⟩ := eqU_app hr
            obtain ⟨bb, hbb⟩ := agg_of_flat h1
            obtain ⟨a, b, p1, p2, p3⟩ := (IH _ _ h1).atPart (tsz_cells (by rw [hbb]; simp) hl) rfl hbb w k (off := f.offset) (by rw [hf2]; exact q1)
            have ih := eqFields_flat IH w k (xs := xs) (ys := ys) h2 (r := r2) (by simpa [List.drop_drop, Nat.add_comm] using q2)
            simp only [Op.eqFields, hf1, ne_eq, not_false_eq_true, if_true, Sem.run_bind, p1, p2, p3, Result.andThen_ok]
            cases r1
            · simp
            · simpa using ih
          · cases h
        · cases h
      · cases h
    · cases h
theorem eqItems_flat {d : Nat} {e : TypeId} {us : List Nat} (IH : EqU P d e us) (hu : flatU P d e = some us) (hl : us.length = P.cellsOf e) (w : World) (k : Nat) {xs ys : Array Value} : ∀ {m s : Nat} {r : Bool}, eqU (List.replicate m us).flatten (xs.toList.drop (s * us.length)) (ys.toList.drop (s * us.length)) = some r → (Op.eqItems (k + d) e (P.cellsOf e) xs ys (List.range' s m)).run P w = .ok r w
  | 0, s, r, hr => by
    simp only [List.replicate_zero, List.flatten_nil] at hr
    obtain ⟨_, _, rfl⟩ := eqU_nil hr
    simp [Op.eqItems]
  | m + 1, s, r, hr => by
    rw [List.replicate_succ, List.flatten_cons] at hr
    obtain ⟨r1, r2, q1, q2, rfl⟩ := eqU_app hr
    obtain ⟨bb, hbb⟩ := agg_of_flat hu
    obtain ⟨a, b, p1, p2, p3⟩ := IH.atPart (tsz_cells (by rw [hbb]; simp) hl) rfl hbb w k q1
    have ih := eqItems_flat IH hu hl w k (xs := xs) (ys := ys) (m := m) (s := s + 1) (r := r2) (by rw [Nat.add_mul, Nat.one_mul]; simpa [List.drop_drop, Nat.add_comm] using q2)
    rw [hl] at p1 p2
    simp only [List.range'_succ, Op.eqItems, Sem.run_bind, p1, p2, p3, Result.andThen_ok]
    cases r1
    · simp
    · simpa using ih
theorem eqU_run : ∀ (d : Nat) (t : TypeId) (us : List Nat), flatU P d t = some us → EqU P d t us
  | 0, _, _, h => by cases h
  | d + 1, t, us, h => by
    intro w k
    have h0 := h
    unfold flatU at h
    cases hu : P.underlying t with
    | none => rw [hu] at h; cases h
    | some kd =>
      rw [hu] at h
      have hag : ∀ b, agg? P t = some b → (match kd with
          | .struct _ => true
          | .array _ _ => true
          | _ => false) = b := fun b hb => by unfold agg? at hb; rw [hu] at hb; cases kd <;> simpa using hb
      cases kd with
      | int q =>
        simp only [Option.some.injEq] at h; subst h
        refine ⟨fun ha => (by have := hag true ha; cases this), fun _ => ⟨0, rfl, fun x y r hr => ?_⟩⟩
        cases x <;> cases y <;> simp only [eqU1, reduceCtorEq] at hr
        split at hr
        · rename_i hk
          simp only [Option.some.injEq] at hr
          subst hk hr
          rw [show k + (d + 1) = (k + d) + 1 by omega, run_equalIn_int w (k + d) t _ q _ _ hu]
          rfl
        · cases hr
      | bool =>
        simp only [Option.some.injEq] at h; subst h
        refine ⟨fun ha => (by have := hag true ha; cases this), fun _ => ⟨1, rfl, fun x y r hr => ?_⟩⟩
        cases x <;> cases y <;> simp only [eqU1, reduceCtorEq, Option.some.injEq] at hr
        subst hr
        rw [show k + (d + 1) = (k + d) + 1 by omega, run_equalIn_bool' w (k + d) t _ _ hu]
        rfl
      | string =>
        simp only [Option.some.injEq] at h; subst h
        refine ⟨fun ha => (by have := hag true ha; cases this), fun _ => ⟨2, rfl, fun x y r hr => ?_⟩⟩
        cases x <;> cases y <;> simp only [eqU1, reduceCtorEq, Option.some.injEq] at hr
        subst hr
        rw [show k + (d + 1) = (k + d) + 1 by omega, run_equalIn_string w (k + d) t _ _ hu, beq_toList]
      | array n e =>
        simp only at h
        split at h
        · rename_i us1 i h1 hi
          split at h
          · rename_i hl
            simp only [Option.some.injEq] at h; subst h
            refine ⟨fun _ xs ys r hr => ?_, fun ha => (by have := hag false ha; cases this)⟩
            rw [show k + (d + 1) = (k + d) + 1 by omega, run_equalIn_array w (k + d) xs ys hu hi, List.range_eq_range']
            exact eqItems_flat (eqU_run d e us1 h1) h1 hl w k (by simpa using hr)
          · cases h
        · cases h
      | struct fs =>
        simp only at h
        split at h
        · cases h
        · rename_i hp
          refine ⟨fun _ xs ys r hr => ?_, fun ha => (by have := hag false ha; cases this)⟩
          have hfs : P.fieldsOf t = fs := by unfold Program.fieldsOf; rw [hu]
          rw [show k + (d + 1) = (k + d) + 1 by omega, run_equalIn_struct w (k + d) t xs ys (by rw [hfs]; exact hu) (by simpa using hp), hfs]
          exact eqFields_flat (fun t us h => eqU_run d t us h) w k h (by simpa using hr)
      | _ => cases h
theorem eqA1_vals {u : Nat} {x y : AV} {v z : Value} {r : Bool} (h : eqA1 u x y = some r) (h1 : R X w ρ x v) (h2 : R X w ρ y z) : eqU1 u v z = some r := by
  unfold eqA1 at h
  split at h
  · rw [R_val] at h1 h2; subst h1 h2; exact h
  · rw [R_val] at h1 h2; subst h1 h2; exact h
  · rw [R_val] at h1 h2; subst h1 h2; exact h
  · cases h
theorem eqA_vals : ∀ {us : List Nat} {xs ys : List AV} {vs zs : List Value} {r : Bool}, eqA us xs ys = some r → Rvals X w ρ xs vs → Rvals X w ρ ys zs → eqU us vs zs = some r
  | [], [], [], _, _, _, h, h1, h2 => by cases h1; cases h2; exact h
  | [], [], _ :: _, _, _, _, h, _, _ => by cases h
  | [], _ :: _, _, _, _, _, h, _, _ => by cases h
  | _ :: _, [], _, _, _, _, h, _, _ => by cases h
  | _ :: _, _ :: _, [], _, _, _, h, _, _ => by cases h
  | u :: us, x :: xs, y :: ys, _, _, r, h, ⟨v, vs', e1, h1, h1'⟩, ⟨z, zs', e2, h2, h2'⟩ => by
    subst e1 e2
    simp only [eqA] at h
    split at h
    · rename_i a b q1 q2
      simp only [eqU, eqA1_vals q1 h1 h2, eqA_vals q2 h1' h2']
      exact h
    · cases h
theorem aggBin_run {op : BinOp} {t : TypeId} {xs ys : List AV} {ox oy : Operand} {vx vy : Value} {z : AV} {p : Prop} (hx : R X w ρ (.agg xs) vx) (hy : R X w ρ (.agg ys) vy) (h : aggBin P op t xs ys = some (z, p)) :
    ∃ v, (do eqGuard op t ox oy vx vy; binOp op t vx vy : Sem Value).run P w = .ok v w ∧ R X w ρ z v := by
  obtain ⟨vs, rfl, hvs⟩ := hx
  obtain ⟨us', rfl, hus⟩ := hy
  unfold aggBin at h
  split at h
  · rename_i us hc
    unfold cmpT at hc
    split at hc
    · rename_i hag hgd
      have hrun : ∀ r, eqA us xs ys = some r → (Op.equalIn 10000 t (.agg vs.toArray) (.agg us'.toArray)).run P w = .ok r w := fun r hr => by
        have := ((eqU_run 8 t us hc) w 9992).1 hag vs.toArray us'.toArray r (by simpa using eqA_vals hr hvs hus)
        exact this
      have hg := run_eqGuard_agg (P := P) w op t ox oy vs.toArray us'.toArray hgd
      split at h
      · rename_i r hr
        simp only [Option.some.injEq, Prod.mk.injEq] at h
        obtain ⟨rfl, rfl⟩ := h
        refine ⟨.bool r, ?_, rfl⟩
        simp only [Sem.run_bind, hg, Result.andThen_ok, run_eql_struct, hrun r hr]
      · rename_i r hr
        simp only [Option.some.injEq, Prod.mk.injEq] at h
        obtain ⟨rfl, rfl⟩ := h
        refine ⟨.bool (!r), ?_, rfl⟩
        simp only [Sem.run_bind, hg, Result.andThen_ok, run_neq_struct, hrun r hr]
      · cases h
    · cases hc
  · cases h

theorem binA_run {op : BinOp} {t : TypeId} {x y : AV} {ox oy : Operand} {vx vy : Value} {z : AV} {p : Prop} (hx : R X w ρ x vx) (hy : R X w ρ y vy) (h : binA P op t x y = some (z, p)) (hp : p) :
    ∃ v, (do eqGuard op t ox oy vx vy; binOp op t vx vy : Sem Value).run P w = .ok v w ∧ R X w ρ z v := by
  unfold binA at h
  split at h
  · rename_i k a k' b
    rw [R_val] at hx hy
    subst hx hy
    have hg := run_eqGuard_val (P := P) (w := w) (op := op) (t := t) (x := ox) (y := oy) (a := .int k a) (b := .int k' b) (by simp) (by simp)
    simp only [Sem.run_bind, hg, Result.andThen_ok]
    split at h
    · exact shBin_run h hp
    · exact shBin_run h hp
    · split at h
      · rename_i hk; subst hk; exact intBin_run h hp
      · cases h
  · rename_i a b
    rw [R_val] at hx hy
    subst hx hy
    have hg := run_eqGuard_val (P := P) (w := w) (op := op) (t := t) (x := ox) (y := oy) (a := .string a) (b := .string b) (by simp) (by simp)
    simp only [Sem.run_bind, hg, Result.andThen_ok]
    exact strBin_run h hp
  · rename_i a b
    rw [R_val] at hx hy
    subst hx hy
    have hg := run_eqGuard_val (P := P) (w := w) (op := op) (t := t) (x := ox) (y := oy) (a := .bool a) (b := .bool b) (by simp) (by simp)
    simp only [Sem.run_bind, hg, Result.andThen_ok]
    split at h
    · rename_i hu
      simp only [Option.some.injEq, Prod.mk.injEq] at h; obtain ⟨rfl, rfl⟩ := h
      have hu' := uk_bool hu
      refine ⟨.bool (a == b), ?_, ?_⟩
      · simp only [binOp, Sem.run_bind, run_equal_bool hu', Result.andThen_ok, Sem.run_pure]
      · rw [R_val]; rfl
    · rename_i hu
      simp only [Option.some.injEq, Prod.mk.injEq] at h; obtain ⟨rfl, rfl⟩ := h
      have hu' := uk_bool hu
      refine ⟨.bool (!(a == b)), ?_, ?_⟩
      · simp only [binOp, Sem.run_bind, run_equal_bool hu', Result.andThen_ok, Sem.run_pure]
      · rw [R_val]; rfl
    · cases h
  · exact aggBin_run hx hy h
  · cases h

theorem unA_run {op : UnOp} {x : AV} {vx : Value} {z : AV} {p : Prop} (hx : R X w ρ x vx) (h : unA op x = some (z, p)) :
    ∃ v, (Op.unary op vx).run P w = .ok v w ∧ R X w ρ z v := by
  unfold unA at h
  split at h <;> simp only [Option.some.injEq, Prod.mk.injEq, reduceCtorEq] at h <;> (try exact h.elim) <;> obtain ⟨rfl, rfl⟩ := h <;> rw [R_val] at hx <;> subst hx
  · exact ⟨_, by simp [Op.unary, Op.intArith], rfl⟩
  · exact ⟨_, by simp [Op.unary], rfl⟩

theorem convA_run {src dst : TypeId} {x : AV} {vx : Value} {z : AV} {p : Prop} (hx : R X w ρ x vx) (h : convA P src dst x = some (z, p)) :
    ∃ v, (convert src dst vx).run P w = .ok v w ∧ R X w ρ z v := by
  unfold convA at h
  split at h <;> simp only [Option.some.injEq, Prod.mk.injEq, reduceCtorEq] at h <;> (try exact h.elim) <;> obtain ⟨rfl, rfl⟩ := h <;> rw [R_val] at hx <;> subst hx
  · rename_i h1 h2
    exact ⟨_, by simp [convert, underlying, uk_int h1, uk_int h2, Conv.intToInt], rfl⟩
  · rename_i h1 h2
    exact ⟨_, by simp [convert, underlying, uk_string h1, uk_string h2], rfl⟩

theorem unopt_rel' {x y : AV} {v : Value} {g : Bool} (hr : R X w ρ x v) (hu : unopt x = (g, y)) (hg : g = true) : R X w ρ y v := by
  cases x <;> simp only [unopt, Prod.mk.injEq] at hu <;> obtain ⟨h1, h2⟩ := hu
  case opt g0 x0 => subst h1 h2; exact hr.1 hg
  all_goals (subst h2; exact hr)

theorem pickA_rel {B : Operand → AV} {act : Act} {g : Bool} {a b : Operand} {z : AV} {p : Prop} (ha : R X w ρ (B a) (act.eval a)) (hb : R X w ρ (B b) (act.eval b)) (h : pickA B g a b = some (z, p)) (hp : p) :
    R X w ρ z (if g then act.eval a else act.eval b) := by
  unfold pickA at h
  split at h
  · split at h <;> simp only [Option.some.injEq, Prod.mk.injEq, reduceCtorEq] at h
    rename_i ga x hu
    obtain ⟨rfl, rfl⟩ := h
    cases g with
    | true =>
      have : R X w ρ (.val (.bool x)) _ := unopt_rel' ha hu (hp rfl)
      rw [R_val] at this ⊢
      simp [this]
    | false => rw [R_val]; simp [Act.eval]
  · split at h
    · split at h <;> simp only [Option.some.injEq, Prod.mk.injEq, reduceCtorEq] at h
      rename_i gb y hu
      obtain ⟨rfl, rfl⟩ := h
      cases g with
      | false =>
        have : R X w ρ (.val (.bool y)) _ := unopt_rel' hb hu (hp rfl)
        rw [R_val] at this ⊢
        simp [this]
      | true => rw [R_val]; simp [Act.eval]
    · cases h
end Go.Vg
