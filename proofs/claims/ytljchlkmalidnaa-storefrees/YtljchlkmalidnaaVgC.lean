/- The abstract machine, part C: what the operations that only compute do in the model. -/
import Derived.Test.YtljchlkmalidnaaVgB
import Derived.Laws.StructEq
import Derived.Laws.Cells
set_option linter.all false
set_option linter.unusedVariables false
namespace Go.Vg
open Go.RowKit
variable {P : Program} {X : Nat → Prop} {w : World} {ρ : Rho}

theorem R_val {u v : Value} : R X w ρ (.val u) v ↔ v = u := Iff.rfl

theorem toListB (a : ByteArray) : a.toList = a.data.toList := ByteArray.toList_eq a
theorem beq_toList (a b : ByteArray) : (a.toList == b.toList) = decide (a = b) := by
  rw [toListB, toListB]
  by_cases h : a = b
  · subst h; simp
  · have : a.data.toList ≠ b.data.toList := fun e => h (by cases a; cases b; simp at e; simp [e])
    rw [decide_eq_false h]; exact beq_false_of_ne this

theorem intBin_run {op : BinOp} {k : IntKind} {a b : Int} {t : TypeId} {x : AV} {p : Prop} (h : intBin op k a b = some (x, p)) (hp : p) :
    ∃ v, (binOp op t (.int k a) (.int k b)).run P w = .ok v w ∧ R X w ρ x v := by
  unfold intBin at h
  split at h <;> simp only [Option.some.injEq, Prod.mk.injEq, reduceCtorEq] at h <;> (try exact h.elim) <;> obtain ⟨rfl, rfl⟩ := h
  · exact ⟨_, by simp [binOp, Op.intArith], rfl⟩
  · exact ⟨_, by simp [binOp, Op.intArith], rfl⟩
  · exact ⟨_, by simp [binOp, Op.intArith], rfl⟩
  · exact ⟨_, by simp [binOp, Op.intDiv, hp], rfl⟩
  · exact ⟨_, by simp [binOp, Op.intDiv, hp], rfl⟩
  · exact ⟨_, by simp only [binOp, ne_eq, not_true_eq_false, if_false, Op.intBits, Sem.run_pure], rfl⟩
  · exact ⟨_, by simp only [binOp, ne_eq, not_true_eq_false, if_false, Op.intBits, Sem.run_pure], rfl⟩
  · exact ⟨_, by simp only [binOp, ne_eq, not_true_eq_false, if_false, Op.intBits, Sem.run_pure], rfl⟩
  · exact ⟨.bool (a == b), by simp [binOp, Op.intCmp], by rw [R_val]; rfl⟩
  · exact ⟨.bool (a != b), by simp [binOp, Op.intCmp], by rw [R_val]; rfl⟩
  · exact ⟨_, by simp only [binOp, ne_eq, not_true_eq_false, if_false, Op.intCmp, Sem.run_pure], rfl⟩
  · exact ⟨_, by simp only [binOp, ne_eq, not_true_eq_false, if_false, Op.intCmp, Sem.run_pure], rfl⟩
  · exact ⟨_, by simp only [binOp, ne_eq, not_true_eq_false, if_false, Op.intCmp, Sem.run_pure], rfl⟩
  · exact ⟨_, by simp only [binOp, ne_eq, not_true_eq_false, if_false, Op.intCmp, Sem.run_pure], rfl⟩

theorem shBin_run {op : BinOp} {k k' : IntKind} {a b : Int} {t : TypeId} {x : AV} {p : Prop} (h : shBin op k a b = some (x, p)) (hp : p) :
    ∃ v, (binOp op t (.int k a) (.int k' b)).run P w = .ok v w ∧ R X w ρ x v := by
  unfold shBin at h
  split at h <;> simp only [Option.some.injEq, Prod.mk.injEq, reduceCtorEq] at h <;> (try exact h.elim) <;> obtain ⟨rfl, rfl⟩ := h
  all_goals exact ⟨_, by simp [binOp, Op.shift, Int.not_lt.2 hp], rfl⟩

theorem strBin_run {op : BinOp} {a b : ByteArray} {t : TypeId} {x : AV} {p : Prop} (h : strBin op a b = some (x, p)) (hp : p) :
    ∃ v, (binOp op t (.string a) (.string b)).run P w = .ok v w ∧ R X w ρ x v := by
  unfold strBin at h
  split at h <;> simp only [Option.some.injEq, Prod.mk.injEq, reduceCtorEq] at h <;> (try exact h.elim) <;> obtain ⟨rfl, rfl⟩ := h
  · refine ⟨_, ?_, rfl⟩
    have : ¬ (((a.size + b.size : Nat) : Int) > IntKind.i64.max) := by simp [IntKind.max, IntKind.signed, IntKind.bits]; omega
    simp only [binOp, Op.stringOp, this, if_false, Sem.run_pure]
  · exact ⟨.bool (a.toList == b.toList), by simp only [binOp, Op.stringOp, Sem.run_pure], by rw [R_val, beq_toList]⟩
  · exact ⟨.bool (!(a.toList == b.toList)), by simp only [binOp, Op.stringOp, Sem.run_pure], by rw [R_val, beq_toList]⟩

theorem run_eqGuard_val {op : BinOp} {t : TypeId} {x y : Operand} {a b : Value} (h1 : a ≠ .nilIface) (h2 : ∀ cs, a ≠ .agg cs) : (eqGuard op t x y a b).run P w = .ok () w := by
  unfold eqGuard
  cases op <;> simp only [Bool.not_true, Bool.false_eq_true, if_false, Bool.not_false, if_true] <;> first | rfl | (cases a <;> simp_all)

theorem run_equal_bool {t : TypeId} (h : P.underlying t = some .bool) {a b : Bool} : (Op.equal t (.bool a) (.bool b)).run P w = .ok (a == b) w := by
  unfold Op.equal Op.maxDepth
  exact run_equalIn_bool' w 9999 t a b h

theorem binA_run {op : BinOp} {t : TypeId} {x y : AV} {ox oy : Operand} {vx vy : Value} {z : AV} {p : Prop} (hx : R X w ρ x vx) (hy : R X w ρ y vy) (h : binA P op t x y = some (z, p)) (hp : p) :
    ∃ v, (do eqGuard op t ox oy vx vy; binOp op t vx vy : Sem Value).run P w = .ok v w ∧ R X w ρ z v := by
  unfold binA at h
  split at h
  · rename_i k a k' b
    rw [R_val] at hx hy
    subst hx hy
    have hg := run_eqGuard_val (P := P) (w := w) (op := op) (t := t) (x := ox) (y := oy) (a := .int k a) (b := .int k' b) (by simp) (by simp)
    simp only [Sem.run_bind, hg, Result.andThen_ok]
    split at h
    · exact shBin_run h hp
    · exact shBin_run h hp
    · split at h
      · rename_i hk; subst hk; exact intBin_run h hp
      · cases h
  · rename_i a b
    rw [R_val] at hx hy
    subst hx hy
    have hg := run_eqGuard_val (P := P) (w := w) (op := op) (t := t) (x := ox) (y := oy) (a := .string a) (b := .string b) (by simp) (by simp)
    simp only [Sem.run_bind, hg, Result.andThen_ok]
    exact strBin_run h hp
  · rename_i a b
    rw [R_val] at hx hy
    subst hx hy
    have hg := run_eqGuard_val (P := P) (w := w) (op := op) (t := t) (x := ox) (y := oy) (a := .bool a) (b := .bool b) (by simp) (by simp)
    simp only [Sem.run_bind, hg, Result.andThen_ok]
    split at h
    · rename_i hu
      simp only [Option.some.injEq, Prod.mk.injEq] at h; obtain ⟨rfl, rfl⟩ := h
      have hu' := uk_bool hu
      refine ⟨.bool (a == b), ?_, ?_⟩
      · simp only [binOp, Sem.run_bind, run_equal_bool hu', Result.andThen_ok, Sem.run_pure]
      · rw [R_val]; rfl
    · rename_i hu
      simp only [Option.some.injEq, Prod.mk.injEq] at h; obtain ⟨rfl, rfl⟩ := h
      have hu' := uk_bool hu
      refine ⟨.bool (!(a == b)), ?_, ?_⟩
      · simp only [binOp, Sem.run_bind, run_equal_bool hu', Result.andThen_ok, Sem.run_pure]
      · rw [R_val]; rfl
    · cases h
  · cases h

theorem unA_run {op : UnOp} {x : AV} {vx : Value} {z : AV} {p : Prop} (hx : R X w ρ x vx) (h : unA op x = some (z, p)) :
    ∃ v, (Op.unary op vx).run P w = .ok v w ∧ R X w ρ z v := by
  unfold unA at h
  split at h <;> simp only [Option.some.injEq, Prod.mk.injEq, reduceCtorEq] at h <;> (try exact h.elim) <;> obtain ⟨rfl, rfl⟩ := h <;> rw [R_val] at hx <;> subst hx
  · exact ⟨_, by simp [Op.unary, Op.intArith], rfl⟩
  · exact ⟨_, by simp [Op.unary], rfl⟩

theorem convA_run {src dst : TypeId} {x : AV} {vx : Value} {z : AV} {p : Prop} (hx : R X w ρ x vx) (h : convA P src dst x = some (z, p)) :
    ∃ v, (convert src dst vx).run P w = .ok v w ∧ R X w ρ z v := by
  unfold convA at h
  split at h <;> simp only [Option.some.injEq, Prod.mk.injEq, reduceCtorEq] at h <;> (try exact h.elim) <;> obtain ⟨rfl, rfl⟩ := h <;> rw [R_val] at hx <;> subst hx
  · rename_i h1 h2
    exact ⟨_, by simp [convert, underlying, uk_int h1, uk_int h2, Conv.intToInt], rfl⟩
  · rename_i h1 h2
    exact ⟨_, by simp [convert, underlying, uk_string h1, uk_string h2], rfl⟩

theorem unopt_rel' {x y : AV} {v : Value} {g : Bool} (hr : R X w ρ x v) (hu : unopt x = (g, y)) (hg : g = true) : R X w ρ y v := by
  cases x <;> simp only [unopt, Prod.mk.injEq] at hu <;> obtain ⟨h1, h2⟩ := hu
  case opt g0 x0 => subst h1 h2; exact hr.1 hg
  all_goals (subst h2; exact hr)

theorem pickA_rel {B : Operand → AV} {act : Act} {g : Bool} {a b : Operand} {z : AV} {p : Prop} (ha : R X w ρ (B a) (act.eval a)) (hb : R X w ρ (B b) (act.eval b)) (h : pickA B g a b = some (z, p)) (hp : p) :
    R X w ρ z (if g then act.eval a else act.eval b) := by
  unfold pickA at h
  split at h
  · split at h <;> simp only [Option.some.injEq, Prod.mk.injEq, reduceCtorEq] at h
    rename_i ga x hu
    obtain ⟨rfl, rfl⟩ := h
    cases g with
    | true =>
      have : R X w ρ (.val (.bool x)) _ := unopt_rel' ha hu (hp rfl)
      rw [R_val] at this ⊢
      simp [this]
    | false => rw [R_val]; simp [Act.eval]
  · split at h
    · split at h <;> simp only [Option.some.injEq, Prod.mk.injEq, reduceCtorEq] at h
      rename_i gb y hu
      obtain ⟨rfl, rfl⟩ := h
      cases g with
      | false =>
        have : R X w ρ (.val (.bool y)) _ := unopt_rel' hb hu (hp rfl)
        rw [R_val] at this ⊢
        simp [this]
      | true => rw [R_val]; simp [Act.eval]
    · cases h
end Go.Vg
