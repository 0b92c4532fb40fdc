/- The abstract machine, part J: calls. -/
import Derived.Test.YtljchlkmalidnaaVgI
set_option linter.all false
set_option linter.unusedVariables false
namespace Go.Vg
open Go.RowKit
variable {P : Program} {X : Nat → Prop} {w : World} {ρ : Rho}

def fnOf : AV → Option (FuncId × List AV)
  | .val (.func (.func f) ⟨[]⟩ ⟨[]⟩) => some (f, [])
  | .clo f caps => some (f, caps)
  | _ => none

/-- a function that has a body is entered -/
def Enters (P : Program) (f : FuncId) : Prop := ∀ (args : Array Value) (w : World), (callFunc f args).run P w = .ok (.enter f args) w

theorem Enters.of {f : FuncId} {fn : Func} (hf : P.funcs[f]? = some fn) (h1 : (fn.name == "runtime.NumGoroutine") = false) (h2 : fn.body.isNone = false) : Enters P f := by
  intro args w
  simp only [callFunc, Sem.run_bind, run_program, Result.andThen_ok, hf, h1, h2, Bool.false_eq_true, if_false, Sem.run_pure]

theorem fnOf_rel {x : AV} {v : Value} {f : FuncId} {caps : List AV} (h : fnOf x = some (f, caps)) (hr : R X w ρ x v) : ∃ vs : List Value, v = .func (.func f) #[] vs.toArray ∧ Rvals X w ρ caps vs := by
  unfold fnOf at h
  split at h <;> simp only [Option.some.injEq, Prod.mk.injEq, reduceCtorEq] at h
  · obtain ⟨rfl, rfl⟩ := h
    exact ⟨[], hr, rfl⟩
  · obtain ⟨rfl, rfl⟩ := h
    exact hr

theorem Rvals.append : ∀ {xs ys : List AV} {vs us : List Value}, Rvals X w ρ xs vs → Rvals X w ρ ys us → Rvals X w ρ (xs ++ ys) (vs ++ us)
  | [], _, _, _, h, h' => by cases h; exact h'
  | x :: xs, ys, _, us, ⟨v, vs', rfl, h2, h3⟩, h' => ⟨v, vs' ++ us, rfl, h2, Rvals.append h3 h'⟩

/-- how a call runs up to the callee's door -/
theorem run_call {o : Oper} {fo : Operand} {args : Array Operand} {tys : Array TypeId} (ho : o.op = .call ⟨.value fo, args, tys⟩) {a : Act} {f : FuncId} {cs : List Value} (hf : a.eval fo = .func (.func f) #[] cs.toArray) (he : Enters P f) :
    (execOp a.eval o).run P w = .ok (.enter f (args.toList.map a.eval ++ cs).toArray) w := by
  have e : (args.map a.eval ++ cs.toArray) = (args.toList.map a.eval ++ cs).toArray := by
    apply Array.ext'; simp
  unfold execOp
  rw [ho]
  simp only [resolve, hf, Deferred.ofValue, Sem.run_bind, Sem.run_pure, Result.andThen_ok, invoke]
  rw [← e, Array.empty_append]
  exact he _ w

/-! what does not hang on who owns what -/
mutual
def AV.plain : AV → Prop
  | .val _ => True
  | .any => True
  | .emp => True
  | .agg xs => plainL xs
  | .tup xs => plainL xs
  | .opt _ x => x.plain
  | _ => False
def plainL : List AV → Prop
  | [] => True
  | x :: l => x.plain ∧ plainL l
end

mutual
theorem R.plain {X X' : Nat → Prop} {ρ ρ' : Rho} {w : World} : ∀ (x : AV), x.plain → ∀ v, R X w ρ x v → R X' w ρ' x v
  | .val _, _, _, h => h
  | .any, _, _, h => h
  | .emp, _, _, h => h
  | .agg xs, hp, _, ⟨vs, h1, h2⟩ => ⟨vs, h1, Rvals.plain xs hp vs h2⟩
  | .tup xs, hp, _, ⟨vs, h1, h2⟩ => ⟨vs, h1, Rvals.plain xs hp vs h2⟩
  | .opt g x, hp, v, h => ⟨fun e => R.plain x hp v (h.1 e), h.2⟩
theorem Rvals.plain {X X' : Nat → Prop} {ρ ρ' : Rho} {w : World} : ∀ (xs : List AV), plainL xs → ∀ vs, Rvals X w ρ xs vs → Rvals X' w ρ' xs vs
  | [], _, _, h => h
  | x :: xs, hp, _, ⟨v, vs', h1, h2, h3⟩ => ⟨v, vs', h1, R.plain x hp.1 v h2, Rvals.plain xs hp.2 vs' h3⟩
end

/-- all blocks that somebody owns -/
def owned (X : Nat → Prop) (ρ : Rho) (b : Nat) : Prop := X b ∨ ∃ r ∈ ρ, r.blk = some b

theorem free_owned {b : Nat} : Free (owned X ρ) [] b ↔ Free X ρ b := by
  unfold Free owned
  constructor
  · rintro ⟨h1, _⟩
    exact ⟨fun h => h1 (.inl h), fun r hr e => h1 (.inr ⟨r, hr, e⟩)⟩
  · rintro ⟨h1, h2⟩
    exact ⟨fun h => h.elim h1 fun ⟨r, hr, e⟩ => h2 r hr e, fun r hr => by cases hr⟩

/-! from one owner's eyes to another's, for what mentions no entry -/
mutual
theorem Rp.eyes {X X' : Nat → Prop} {ρ ρ' : Rho} {w : World} (hf : ∀ b, Free X ρ b → Free X' ρ' b) : ∀ (x : AV), x.ok 0 → (∀ v, R X w ρ x v → R X' w ρ' x v) ∧ (∀ sz b o, Re X w ρ x sz b o → Re X' w ρ' x sz b o)
  | .val _, _ => ⟨fun _ h => h, fun _ _ _ h => h⟩
  | .any, _ => ⟨fun _ h => h, fun _ _ _ h => h⟩
  | .lst sz l, hk => by
    have key : ∀ v, R X w ρ (.lst sz l) v → R X' w ρ' (.lst sz l) v := by
      rintro v ⟨A, c, h1, h2, h3, h4⟩
      refine ⟨A, c, h1, h2, h3, fun hl => ?_⟩
      obtain ⟨b, o, hA, hfr, hs, hr⟩ := h4 hl
      exact ⟨b, o, hA, hf b hfr, hs, Rrow.eyes hf l hk sz b o hr⟩
    exact ⟨key, fun _ _ _ h => OneAt.mono (fun _ => rfl) h key⟩
  | .osl id _ _ _, hk => absurd hk (Nat.not_lt_zero id)
  | .emp, _ => ⟨fun _ h => h, fun _ _ _ h => h⟩
  | .ref xs j, hk => by
    have key : ∀ v, R X w ρ (.ref xs j) v → R X' w ρ' (.ref xs j) v := by
      rintro v ⟨b, o, h1, hj, hfr, hr⟩
      exact ⟨b, o, h1, hj, hf b hfr, Rcells.eyes hf xs hk b o hr⟩
    exact ⟨key, fun _ _ _ h => OneAt.mono (fun _ => rfl) h key⟩
  | .optr id _ _ _, hk => absurd hk (Nat.not_lt_zero id)
  | .agg xs, hk => ⟨fun _ ⟨vs, h1, h2⟩ => ⟨vs, h1, Rvals.eyes hf xs hk vs h2⟩, fun _ b o h => ⟨h.1, Rcells.eyes hf xs hk b o h.2⟩⟩
  | .tup xs, hk => ⟨fun _ ⟨vs, h1, h2⟩ => ⟨vs, h1, Rvals.eyes hf xs hk vs h2⟩, fun _ _ _ h => h⟩
  | .clo f caps, hk => by
    have key : ∀ v, R X w ρ (.clo f caps) v → R X' w ρ' (.clo f caps) v := by
      rintro v ⟨vs, h1, h2⟩
      exact ⟨vs, h1, Rvals.eyes hf caps hk vs h2⟩
    exact ⟨key, fun _ _ _ h => OneAt.mono (fun _ => rfl) h key⟩
  | .bnd f xs, hk => by
    have key : ∀ v, R X w ρ (.bnd f xs) v → R X' w ρ' (.bnd f xs) v := by
      rintro v ⟨vs, h1, h2⟩
      exact ⟨vs, h1, Rvals.eyes hf xs hk vs h2⟩
    exact ⟨key, fun _ _ _ h => OneAt.mono (fun _ => rfl) h key⟩
  | .opt g x, hk => ⟨fun v h => ⟨fun e => (Rp.eyes hf x hk).1 v (h.1 e), h.2⟩, fun _ _ _ h => h⟩
  | .yld id _, hk => absurd hk (Nat.not_lt_zero id)
  | .omap id _, hk => absurd hk (Nat.not_lt_zero id)
theorem Rvals.eyes {X X' : Nat → Prop} {ρ ρ' : Rho} {w : World} (hf : ∀ b, Free X ρ b → Free X' ρ' b) : ∀ (xs : List AV), okL 0 xs → ∀ (vs : List Value), Rvals X w ρ xs vs → Rvals X' w ρ' xs vs
  | [], _, _, h => h
  | x :: xs, hk, _, ⟨v, vs', h1, h2, h3⟩ => ⟨v, vs', h1, (Rp.eyes hf x hk.1).1 v h2, Rvals.eyes hf xs hk.2 vs' h3⟩
theorem Rcells.eyes {X X' : Nat → Prop} {ρ ρ' : Rho} {w : World} (hf : ∀ b, Free X ρ b → Free X' ρ' b) : ∀ (xs : List AV), okL 0 xs → ∀ (b o : Nat), Rcells X w ρ xs b o → Rcells X' w ρ' xs b o
  | [], _, _, _, _ => trivial
  | x :: xs, hk, b, o, ⟨⟨v, hv, h1, hx⟩, h2⟩ => ⟨⟨v, hv, h1, (Rp.eyes hf x hk.1).1 v hx⟩, Rcells.eyes hf xs hk.2 b (o + 1) h2⟩
theorem Rrow.eyes {X X' : Nat → Prop} {ρ ρ' : Rho} {w : World} (hf : ∀ b, Free X ρ b → Free X' ρ' b) : ∀ (l : List AV), okL 0 l → ∀ (sz b o : Nat), Rrow X w ρ l sz b o → Rrow X' w ρ' l sz b o
  | [], _, _, _, _, _ => trivial
  | x :: l, hk, sz, b, o, ⟨h1, h2⟩ => ⟨(Rp.eyes hf x hk.1).2 sz b o h1, Rrow.eyes hf l hk.2 sz b (o + sz) h2⟩
end

/-- an own slice, lent to be read -/
def view1 (m : Mem) : AV → AV
  | .osl id ver off len =>
    match m[id]? with
    | some ⟨v, .row sz l⟩ => if v = ver ∧ off + len ≤ l.length ∧ 0 < sz then .lst sz ((l.drop off).take len) else .any
    | _ => .any
  | .emp => .lst 1 []
  | x => x

/-- a pointer to an own place, lent to be read -/
def view2 (m : Mem) : AV → AV
  | .optr id ver i j =>
    match m[id]? with
    | some ⟨v, .row _ l⟩ => if v = ver ∧ i < l.length ∧ j < (l.getD i .any).cells.length then .ref ((l.getD i .any).cells.map (view1 m)) j else .any
    | _ => .any
  | x => view1 m x

def view (m : Mem) : AV → AV
  | .agg xs => .agg (xs.map (view1 m))
  | .clo f caps => .clo f (caps.map (view2 m))
  | x => view2 m x

theorem view1_rel {m : Mem} (hi : Inv X w ρ m) {x : AV} {v : Value} (h : R X w ρ x v) (hk : (view1 m x).ok 0) : R (fun _ => False) w [] (view1 m x) v := by
  have triv : ∀ b, Free X ρ b → Free (fun _ => False) [] b := fun b _ => ⟨fun h => h, fun r hr => by cases hr⟩
  cases x
  case osl id ver off len =>
    cases hm : m[id]? with
    | none => simp only [view1, hm]; trivial
    | some e =>
      obtain ⟨v', kd⟩ := e
      cases kd with
      | dfr => simp only [view1, hm]; trivial
      | lrec => simp only [view1, hm]; trivial
      | mp => simp only [view1, hm]; trivial
      | ext => simp only [view1, hm]; trivial
      | row sz l =>
        simp only [view1, hm] at hk ⊢
        split at hk
        · rename_i hc
          rw [if_pos hc]
          obtain ⟨rfl, hlen, hsz⟩ := hc
          obtain ⟨r, hr, hv, hrz, hnone, hblk⟩ := hi.row hm
          obtain ⟨A, c, r', rfl, hr', hle, hat⟩ := h
          rw [hr] at hr'; cases hr'
          obtain ⟨hl, hc, hpos⟩ := hat hv.symm
          have hll : ((l.drop off).take len).length = len := by simp; omega
          refine ⟨A, c, by rw [hll], by omega, hc, fun hne => ?_⟩
          have h0 : 0 < len := by
            rcases Nat.eq_zero_or_pos len with e | e
            · subst e; simp at hne
            · exact e
          obtain ⟨b, hb, rfl, hfit⟩ := hpos (by omega)
          obtain ⟨_, _, hrow⟩ := hblk b hb
          refine ⟨b, r.base + off * r.sz, rfl, ⟨fun h => h, fun r hr => by cases hr⟩, hsz, ?_⟩
          rw [hrz]
          exact Rrow.eyes triv _ hk sz b _ ((hrow.drop off).take len)
        · rename_i hc; rw [if_neg hc]; trivial
  case emp =>
    obtain ⟨A, rfl⟩ := h
    exact ⟨A, 0, rfl, Nat.le_refl _, Nat.zero_le _, fun h => absurd rfl h⟩
  all_goals exact (Rp.eyes triv _ hk).1 v h

theorem view1_cells {m : Mem} (hi : Inv X w ρ m) {b : Nat} : ∀ {xs : List AV} {o : Nat}, Rcells X w ρ xs b o → okL 0 (xs.map (view1 m)) → Rcells (fun _ => False) w [] (xs.map (view1 m)) b o
  | [], _, _, _ => trivial
  | x :: xs, o, ⟨⟨v, h1, h2, h3⟩, h4⟩, hk => ⟨⟨v, h1, h2, view1_rel hi h3 hk.1⟩, view1_cells hi h4 hk.2⟩

theorem view2_rel {m : Mem} (hi : Inv X w ρ m) {x : AV} {v : Value} (h : R X w ρ x v) (hk : (view2 m x).ok 0) : R (fun _ => False) w [] (view2 m x) v := by
  cases x
  case optr id ver i j =>
    cases hm : m[id]? with
    | none => simp only [view2, hm]; trivial
    | some e =>
      obtain ⟨v', kd⟩ := e
      cases kd with
      | dfr => simp only [view2, hm]; trivial
      | lrec => simp only [view2, hm]; trivial
      | mp => simp only [view2, hm]; trivial
      | ext => simp only [view2, hm]; trivial
      | row sz l =>
        simp only [view2, hm] at hk ⊢
        split at hk
        · rename_i hc
          rw [if_pos hc]
          obtain ⟨rfl, hlen, hj⟩ := hc
          obtain ⟨r, hr, hv, hrz, hnone, hblk⟩ := hi.row hm
          obtain ⟨A, r', rfl, hr', hle, hat⟩ := h
          rw [hr] at hr'; cases hr'
          obtain ⟨b, hb, rfl⟩ := hat hv.symm
          obtain ⟨_, _, hrow⟩ := hblk b hb
          have hg : l[i]? = some (l.getD i .any) := by simp [hlen]
          obtain ⟨c1, c2⟩ := (hrow.nth hg).cells
          refine ⟨b, r.base + i * r.sz, rfl, by simpa using hj, ⟨fun h => h, fun r hr => by cases hr⟩, ?_⟩
          rw [hrz]
          exact view1_cells hi c2 hk
        · rename_i hc; rw [if_neg hc]; trivial
  all_goals exact view1_rel hi h hk

theorem view_rel {m : Mem} (hi : Inv X w ρ m) {x : AV} {v : Value} (h : R X w ρ x v) (hk : (view m x).ok 0) : R (fun _ => False) w [] (view m x) v := by
  cases x
  case agg xs =>
    obtain ⟨vs, rfl, hvs⟩ := h
    refine ⟨vs, rfl, ?_⟩
    simp only [view, AV.ok] at hk
    revert vs
    induction xs with
    | nil => exact fun vs hvs => hvs
    | cons x xs ih =>
      rintro vs ⟨v, vs', rfl, h1, h2⟩
      exact ⟨v, vs', rfl, view1_rel hi h1 hk.1, ih hk.2 vs' h2⟩
  case clo f xs =>
    obtain ⟨vs, rfl, hvs⟩ := h
    refine ⟨vs, rfl, ?_⟩
    simp only [view, AV.ok] at hk
    revert vs
    induction xs with
    | nil => exact fun vs hvs => hvs
    | cons x xs ih =>
      rintro vs ⟨v, vs', rfl, h1, h2⟩
      exact ⟨v, vs', rfl, view2_rel hi h1 hk.1, ih hk.2 vs' h2⟩
  all_goals exact view2_rel hi h hk

theorem view_rels {m : Mem} (hi : Inv X w ρ m) : ∀ {xs : List AV} {vs : List Value}, Rvals X w ρ xs vs → okL 0 (xs.map (view m)) → Rvals (fun _ => False) w [] (xs.map (view m)) vs
  | [], _, h, _ => h
  | x :: xs, _, ⟨v, vs', rfl, h1, h2⟩, hk => ⟨v, vs', rfl, view_rel hi h1 hk.1, view_rels hi h2 hk.2⟩

/-- what a step that turns nothing old leaves of our memory -/
theorem Tr.keep {w w' : World} {ρ0 : Rho} (h : Tr w [] w' ρ0) (ρ : Rho) (hn : ∀ r ∈ ρ, ∀ b, r.blk = some b → b < w.heap.size) : Tr w ρ w' ρ :=
  ⟨h.os, h.tape, h.output, h.size, fun i r hr => ⟨r, hr, Nat.le_refl _, fun _ => rfl⟩, fun b hb hlt => ⟨hb, (h.block b (fun r hr => by cases hr) hlt).2⟩⟩

theorem Inv.keep {w w' : World} {m : Mem} {ρ0 : Rho} (hi : Inv X w ρ m) (h : Tr w [] w' ρ0) : Inv X w' ρ m := by
  have hb : ∀ b, b < w.heap.size → w'.heap[b]? = w.heap[b]? := fun b hlt => (h.block b (fun r hr => by cases hr) hlt).2
  have hk : Kp X w ρ w' ρ := ⟨fun _ r h => ⟨r, h, Nat.le_refl _, fun _ => rfl⟩, fun b hf hlt => ⟨hf, hb b hlt⟩⟩
  refine ⟨hi.len, fun i r e hr he => ?_, hi.apart, fun i r b hr hbl => let ⟨h1, h2⟩ := hi.new i r b hr hbl; ⟨Nat.lt_of_lt_of_le h1 h.size, h2⟩, fun b hx => Nat.lt_of_lt_of_le (hi.out b hx) h.size, hi.gd.mono hb⟩
  obtain ⟨h1, h2⟩ := hi.at_ i r e hr he
  exact ⟨h1, h2.mono hk fun b hbl => hb b (hi.new i r b hr hbl).1⟩

def callOp (fo : Operand) (args : List Operand) (tys : Array TypeId) : Op := .call ⟨.value fo, args.toArray, tys⟩

theorem onames_call {fo : Operand} {args : List Operand} {tys : Array TypeId} {t : List (Nat × AV)} {a : Act} (h : ∀ n ∈ onames (callOp fo args tys), R X w ρ (look t n) (a.tmps.getD n undef)) :
    R X w ρ (evo t fo) (a.eval fo) ∧ ∀ x ∈ args, R X w ρ (evo t x) (a.eval x) := by
  have := evo_of (op := callOp fo args tys) h
  refine ⟨this fo (by simp [callOp, Op.operands, Call.operands]), fun x hx => this x (by simp [callOp, Op.operands, Call.operands]; exact .inr hx)⟩

/-- a guarded or plain call: the callee's answer -/
def optG (g : Option Bool) (x : AV) : AV :=
  match g with
  | none => x
  | some b => .opt b x

def gvalO (gds : List (Option Nat)) (t : List (Nat × AV)) (g : Option (Nat × Bool)) : Option (Option Bool) :=
  match g with
  | none => some none
  | some g => (gval gds t g).map some

/-- how the operands are read under a guard -/
def evoG (t : List (Nat × AV)) (g : Option Bool) (x : Operand) : AV :=
  match g with
  | none => evo t x
  | some _ => (unopt (evo t x)).2

def gOk (t : List (Nat × AV)) (g : Option Bool) (xs : List Operand) : Prop :=
  match g with
  | none => True
  | some b => b = true → ∀ x ∈ xs, (unopt (evo t x)).1 = true

theorem evoG_rel {t : List (Nat × AV)} {a : Act} {g : Option Bool} {xs : List Operand} (hg : gOk t g xs) (hb : g = none ∨ g = some true) (h : ∀ x ∈ xs, R X w ρ (evo t x) (a.eval x)) : ∀ x ∈ xs, R X w ρ (evoG t g x) (a.eval x) := by
  intro x hx
  rcases hb with rfl | rfl
  · exact h x hx
  · exact unopt_rel (h x hx) (hg rfl x hx)

/-- a call of a function that turns nothing and hands back plain data; own slices are lent -/
theorem Pure.yield {gds : List (Option Nat)} {t : List (Nat × AV)} {m : Mem} {o : Oper} {fo : Operand} {args : List Operand} {tys : Array TypeId} (ho : o.op = callOp fo args tys) {g : Option Bool} (hg : gvalO gds t o.guard = some g)
    (hok : gOk t g (fo :: args)) {f : FuncId} {caps : List AV} (hf : fnOf (evoG t g fo) = some (f, caps)) (he : Enters P f) {vargs : List AV} {x : AV} (hc : (g = none ∨ g = some true) → Pure P f vargs x)
    (hv : (args.map (evoG t g) ++ caps).map (view m) = vargs) (hk : okL 0 vargs) (hp : x.plain) : Yield P gds t m o (optG g x) := by
  refine ⟨fun c e => (by rw [ho] at e; cases e), fun X w ρ a hi hr hn => ?_⟩
  have hcall : ∀ (hb : g = none ∨ g = some true), Gives P o a w fun v w' => R X w' ρ x v ∧ Inv X w' ρ m ∧ Tr w ρ w' ρ := by
    intro hb
    obtain ⟨h1, h2⟩ := onames_call (fo := fo) (args := args) (tys := tys) (t := t) (a := a) (X := X) (w := w) (ρ := ρ) (fun n hn => hr n (.inr (by rw [ho]; exact hn)))
    have h3 := evoG_rel hok hb (a := a) (X := X) (w := w) (ρ := ρ) (by intro y hy; cases hy with | head => exact h1 | tail _ hy => exact h2 y hy)
    obtain ⟨cs, hcs, hcr⟩ := fnOf_rel hf (h3 fo (by simp))
    have hrun := run_call (P := P) (w := w) ho hcs he
    have hargs : Rvals X w ρ (args.map (evoG t g) ++ caps) (args.map a.eval ++ cs) := (Rvals_map args fun y hy => h3 y (by simp [hy])).append hcr
    refine .inr ⟨f, _, hrun, ?_⟩
    have hcv := hc hb (fun _ => False) w [] (args.map a.eval ++ cs) (Inv.empty (fun _ h => h.elim) hi.gd.nil0) (by rw [← hv]; exact view_rels hi hargs (by rw [hv]; exact hk))
    refine hcv.mono ?_
    rintro e w' ⟨v, x', m', ρ', rfl, ⟨rfl, rfl⟩, k1, k2, k3⟩
    exact ⟨v, rfl, R.plain x' hp v k1, hi.keep k3, k3.keep ρ fun r hr' b hb' => by obtain ⟨i, hi', rfl⟩ := List.getElem_of_mem hr'; exact (hi.new i _ b (List.getElem?_eq_getElem hi') hb').1⟩
  cases hgd : o.guard with
  | none =>
    rw [hgd] at hg
    simp only [gvalO, Option.some.injEq] at hg
    subst hg
    exact ⟨fun _ => hcall (.inl rfl), fun hw => by simp [Region.wanted, hgd] at hw⟩
  | some gg =>
    rw [hgd] at hg
    simp only [gvalO, Option.map_eq_some_iff] at hg
    obtain ⟨b, hb, rfl⟩ := hg
    have hw := gval_wanted (a := a) hgd (fun n hn' => ⟨hr n (.inl hn'), hn n hn'⟩) hb
    rw [hw]
    refine ⟨fun hbt => ?_, fun hbf => ⟨fun e => (by rw [hbf] at e; cases e), fun _ => rfl⟩⟩
    subst hbt
    rcases hcall (.inr rfl) with ⟨v, w', q1, q2, q3, q4⟩ | ⟨f', args', q1, q2⟩
    · exact .inl ⟨v, w', q1, ⟨fun _ => q2, fun e => (by cases e)⟩, q3, q4⟩
    · exact .inr ⟨f', args', q1, q2.mono fun e w' ⟨v, e1, q2, q3, q4⟩ => ⟨v, e1, ⟨fun _ => q2, fun e => (by cases e)⟩, q3, q4⟩⟩
end Go.Vg
