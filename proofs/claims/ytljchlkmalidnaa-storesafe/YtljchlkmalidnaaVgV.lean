/- The abstract machine, part V: one rule for all operations that need no contract. -/
import Derived.Test.YtljchlkmalidnaaVgS
import Derived.Test.YtljchlkmalidnaaVgU
set_option linter.all false
set_option linter.unusedVariables false
namespace Go.Vg
section
variable {P : Program} {gds : List (Option Nat)} {l : List Oper} {Q : S → Prop} {s : S} {o : Oper}

def putA (s : S) (dst : Option Nat) (x : AV) : S :=
  match dst with
  | some k => ⟨(k, x) :: s.t, s.m, s.n, s.d⟩
  | none => s
theorem putA_eq (s : S) (dst : Option Nat) (x : AV) : putA s dst x = s.put dst x := by cases dst <;> rfl

def nextA (P : Program) (gds : List (Option Nat)) (s : S) (o : Oper) : Option (S × Prop) :=
  match o.guard with
  | none =>
    match ev P (evo s.t) (evo s.t) s.m o.op with
    | some (x, p) => some (putA s o.dst x, p)
    | none =>
      match effA P (evo s.t) s.m o.op with
      | some (m', x, p) => some (putA ⟨s.t, m', s.n, s.d⟩ o.dst x, p)
      | none =>
        match bldA P (evo s.t) o.op with
        | some (_, [], p) => some (putA s o.dst .emp, p)
        | some (sz, x :: xs, p) => some (putA s o.dst (.lst sz (x :: xs)), p)
        | none => none
  | some g =>
    match stepA P gds s.t s.m ⟨o.dst, o.op, o.type, o.pos, o.after, some g⟩ with
    | some (x, p) => some (putA s o.dst x, p)
    | none => none

theorem Run.next {s' : S} {p : Prop} (h : nextA P gds s o = some (s', p)) (hp : p) (k : Run P gds l Q s') : Run P gds (o :: l) Q s := by
  obtain ⟨dst, op, type, pos, after, guard⟩ := o
  unfold nextA at h
  cases guard with
  | none =>
    simp only at h
    split at h
    · rename_i x p' he
      simp only [Option.some.injEq, Prod.mk.injEq] at h
      obtain ⟨rfl, rfl⟩ := h
      rw [putA_eq] at k
      exact Run.stepP (o := ⟨dst, op, type, pos, after, none⟩) (x := x) (by unfold stepA; exact he) hp k
    · split at h
      · rename_i m' x p' he
        simp only [Option.some.injEq, Prod.mk.injEq] at h
        obtain ⟨rfl, rfl⟩ := h
        rw [putA_eq] at k
        exact Run.effP he hp k
      · split at h
        · rename_i sz p' he
          simp only [Option.some.injEq, Prod.mk.injEq] at h
          obtain ⟨rfl, rfl⟩ := h
          rw [putA_eq] at k
          exact Run.build0 he hp k
        · rename_i sz x xs p' he
          simp only [Option.some.injEq, Prod.mk.injEq] at h
          obtain ⟨rfl, rfl⟩ := h
          rw [putA_eq] at k
          exact Run.buildF he hp k
        · cases h
  | some g =>
    simp only at h
    split at h
    · rename_i x p' he
      simp only [Option.some.injEq, Prod.mk.injEq] at h
      obtain ⟨rfl, rfl⟩ := h
      rw [putA_eq] at k
      exact Run.stepP (o := ⟨dst, op, type, pos, after, some g⟩) he hp k
    · cases h

def abnA (P : Program) (gds : List (Option Nat)) (s : S) (o : Oper) : Option (S × Prop) :=
  match stepA P gds s.t s.m o with
  | some (x, p) => some (putA s o.dst x, p)
  | none =>
    match o.guard with
    | none =>
      match bldA P (evo s.t) o.op with
      | some (sz, xs, p) => some (putA s o.dst (.lst sz xs), p)
      | none => none
    | some _ => none
theorem Abn.next {s' s1 : S} {p : Prop} (h : abnA P gds s o = some (s', p)) (hp : p) (k : Abn P gds l s' s1) : Abn P gds (o :: l) s s1 := by
  obtain ⟨dst, op, type, pos, after, guard⟩ := o
  unfold abnA at h
  split at h
  · rename_i x p' he
    simp only [Option.some.injEq, Prod.mk.injEq] at h
    obtain ⟨rfl, rfl⟩ := h
    rw [putA_eq] at k
    exact Abn.stepP he hp k
  · cases guard with
    | none =>
      simp only at h
      split at h
      · rename_i sz xs p' he
        simp only [Option.some.injEq, Prod.mk.injEq] at h
        obtain ⟨rfl, rfl⟩ := h
        rw [putA_eq] at k
        exact Abn.buildF he hp k
      · cases h
    | some g => cases h

theorem Wp.condT {r : Option Nat} {Q : Exit → S → Prop} {c : Operand} {x y : Code} (hc : evo s.t c = .bool true) (h : Wp P r x Q s) : Wp P r (.cond c x y) Q s := Wp.cond hc (fun _ => h) (fun e => by cases e)
theorem Wp.condF {r : Option Nat} {Q : Exit → S → Prop} {c : Operand} {x y : Code} (hc : evo s.t c = .bool false) (h : Wp P r y Q s) : Wp P r (.cond c x y) Q s := Wp.cond hc (fun e => by cases e) (fun _ => h)

end
end Go.Vg
