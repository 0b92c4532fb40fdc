/- The abstract machine, part F: what an operation yields; a region, in the order of its text and in any order. -/
import Derived.Test.YtljchlkmalidnaaVgE
set_option linter.all false
set_option linter.unusedVariables false
namespace Go.Vg
open Go.RowKit
variable {P : Program} {X : Nat → Prop} {w : World} {ρ : Rho}

/-- all functions; in round r of a range over a function, or in none -/
def fence (r : Option Nat) : Fence := { fn := fun _ => True, depth := none, alive := false, round := r }

theorem callsIn_fence {r : Option Nat} {f : FuncId} {args : Array Value} {w : World} {Q : Ending → World → Prop} (h : Calls P f args w Q) : CallsIn (fence r) 0 P f args w Q :=
  (callsIn_wide (n := 0)).2 h

/-- the guard of an operation, by the temporaries of the region's operations -/
def yieldedG (gds : List (Option Nat)) (tmps : Array Value) (j : Nat) : Option Bool :=
  match ((gds[j]?).bind id).bind (tmps[·]?) with
  | some (.bool b) => some b
  | _ => none

theorem yieldedG_eq (ops : Array Oper) (tmps : Array Value) : yieldedG (ops.toList.map (·.dst)) tmps = yielded ops tmps := by
  funext j
  unfold yieldedG yielded
  congr 1
  simp
  cases ops[j]? <;> simp

def gval (gds : List (Option Nat)) (t : List (Nat × AV)) (g : Nat × Bool) : Option Bool :=
  match (gds[g.1]?).bind id with
  | some d =>
    match look t d with
    | .val (.bool b) => some (if g.2 then b else !b)
    | .opt h (.val (.bool b)) => some (h && (if g.2 then b else !b))
    | _ => none
  | none => none

/-- the temporaries that an operation looks at -/
def gnames (gds : List (Option Nat)) : Option (Nat × Bool) → List Nat
  | none => []
  | some (j, _) => ((gds[j]?).bind id).toList
def onames (op : Op) : List Nat := op.operands.toList.filterMap fun | .tmp t => some t | _ => none

theorem gval_wanted {gds : List (Option Nat)} {t : List (Nat × AV)} {o : Oper} {g : Nat × Bool} {b : Bool} {a : Act} (hg : o.guard = some g) (hr : ∀ n ∈ gnames gds o.guard, R X w ρ (look t n) (a.tmps.getD n undef) ∧ n < a.tmps.size)
    (h : gval gds t g = some b) : Region.wanted o (yieldedG gds a.tmps) = b := by
  unfold gval at h
  split at h
  · rename_i d hd
    have hm : d ∈ gnames gds o.guard := by rw [hg]; obtain ⟨j, want⟩ := g; simp only [gnames] at *; rw [hd]; simp
    obtain ⟨hR, hlt⟩ := hr d hm
    have hv : a.tmps[d]? = some (a.tmps.getD d undef) := by simp [hlt]
    obtain ⟨j, want⟩ := g
    have hy : yieldedG gds a.tmps j = match a.tmps.getD d undef with | .bool b => some b | _ => none := by
      unfold yieldedG
      simp only at hd
      rw [hd, Option.bind_some, hv]
      cases a.tmps.getD d undef <;> rfl
    unfold Region.wanted
    rw [hg]
    simp only [hy]
    split at h
    · rename_i b' hl
      rw [hl, R_val] at hR
      rw [hR]
      simp only [Option.some.injEq] at h
      subst h
      cases want <;> cases b' <;> rfl
    · rename_i h' b' hl
      rw [hl] at hR
      simp only [Option.some.injEq] at h
      subst h
      cases h' with
      | true =>
        have : R X w ρ (.val (.bool b')) _ := hR.1 rfl
        rw [R_val] at this
        rw [this]
        cases want <;> cases b' <;> rfl
      | false =>
        have := hR.2 rfl
        rw [this]
        cases want <;> cases b' <;> rfl
    · cases h
  · cases h

/-- what an operation gives, as a step of the machine: a value at once, or by a call -/
def Gives (P : Program) (o : Oper) (a : Act) (w : World) (Q : Value → World → Prop) : Prop :=
  (∃ v w', (execOp a.eval o).run P w = .ok (.value v) w' ∧ Q v w') ∨
  ∃ f args, (execOp a.eval o).run P w = .ok (.enter f args) w ∧ Calls P f args w fun e w' => ∃ v, e = .returned v ∧ Q v w'

/-- an operation that turns no memory that is ours: it yields x, whatever else goes on -/
def Yield (P : Program) (gds : List (Option Nat)) (t : List (Nat × AV)) (m : Mem) (o : Oper) (x : AV) : Prop :=
  (∀ c, o.op ≠ .defer c) ∧
  ∀ (X : Nat → Prop) (w : World) (ρ : Rho) (a : Act), Inv X w ρ m → (∀ n, n ∈ gnames gds o.guard ∨ n ∈ onames o.op → R X w ρ (look t n) (a.tmps.getD n undef)) → (∀ n ∈ gnames gds o.guard, n < a.tmps.size) →
    (Region.wanted o (yieldedG gds a.tmps) = true → Gives P o a w fun v w' => R X w' ρ x v ∧ Inv X w' ρ m ∧ Tr w ρ w' ρ) ∧
    (Region.wanted o (yieldedG gds a.tmps) = false → R X w ρ x undef)

theorem evo_of {t : List (Nat × AV)} {a : Act} {op : Op} (h : ∀ n ∈ onames op, R X w ρ (look t n) (a.tmps.getD n undef)) : ∀ x ∈ op.operands, R X w ρ (evo t x) (a.eval x) := by
  intro x hx
  cases x with
  | tmp n => exact h n (List.mem_filterMap.2 ⟨.tmp n, by simpa using hx, rfl⟩)
  | const v => exact cst_rel v
  | global g => trivial
  | func f => exact ⟨[], rfl, rfl⟩

def oks (t : List (Nat × AV)) (op : Op) : Prop := ∀ x ∈ op.needs, (unopt (evo t x)).1 = true

/-- one operation that only computes -/
def stepA (P : Program) (gds : List (Option Nat)) (t : List (Nat × AV)) (m : Mem) (o : Oper) : Option (AV × Prop) :=
  match o.guard with
  | none => ev P (evo t) (evo t) m o.op
  | some g =>
    match gval gds t g with
    | some b =>
      match ev P (fun x => (unopt (evo t x)).2) (evo t) m o.op with
      | some (x, p) => some (.opt b x, b = true → oks t o.op ∧ p)
      | none => none
    | none => none

theorem ev_defer {E B : Operand → AV} {m : Mem} {op : Op} {x : AV} {p : Prop} (h : ev P E B m op = some (x, p)) : ∀ c, op ≠ .defer c := by
  intro c e; subst e; simp [ev] at h

theorem needs_sub (op : Op) : ∀ x ∈ op.needs, x ∈ op.operands := by
  intro x hx
  cases op <;> simp only [Op.needs] at hx <;> first | (simpa using hx) | (simp [Op.operands] at hx ⊢; simp [hx])

theorem unopt_rel {x : AV} {v : Value} (h : R X w ρ x v) (hg : (unopt x).1 = true) : R X w ρ (unopt x).2 v := by
  cases x <;> simp only [unopt] at hg ⊢ <;> first | exact h | exact h.1 hg

theorem stepA_yield {gds : List (Option Nat)} {t : List (Nat × AV)} {m : Mem} {o : Oper} {x : AV} {p : Prop} (h : stepA P gds t m o = some (x, p)) (hp : p) : Yield P gds t m o x := by
  unfold stepA at h
  split at h
  · rename_i hg
    refine ⟨ev_defer h, fun X w ρ a hi hr hn => ⟨fun _ => ?_, fun hw => ?_⟩⟩
    · have ho := evo_of (op := o.op) fun n hn => hr n (.inr hn)
      obtain ⟨v, h1, h2⟩ := ev_run hi (fun x hx => ho x (needs_sub _ x hx)) ho h hp
      exact .inl ⟨v, w, h1, h2, hi, Tr.refl w ρ⟩
    · simp [Region.wanted, hg] at hw
  · rename_i g hg
    split at h
    · rename_i b hb
      split at h
      · rename_i x' p' he
        simp only [Option.some.injEq, Prod.mk.injEq] at h
        obtain ⟨rfl, rfl⟩ := h
        refine ⟨ev_defer he, fun X w ρ a hi hr hn => ?_⟩
        have hw := gval_wanted (a := a) hg (fun n hn' => ⟨hr n (.inl hn'), hn n hn'⟩) hb
        rw [hw]
        refine ⟨fun hb => ?_, fun hb => ⟨fun e => (by rw [hb] at e; cases e), fun _ => rfl⟩⟩
        subst hb
        obtain ⟨hok, hp'⟩ := hp rfl
        have ho := evo_of (op := o.op) fun n hn => hr n (.inr hn)
        obtain ⟨v, h1, h2⟩ := ev_run hi (E := fun x => (unopt (evo t x)).2) (fun x hx => unopt_rel (ho x (needs_sub _ x hx)) (hok x hx)) ho he hp'
        exact .inl ⟨v, w, h1, ⟨fun _ => h2, fun e => (by cases e)⟩, hi, Tr.refl w ρ⟩
      · cases h
    · cases h

/-- one operation, as a step of a list -/
def opwp (P : Program) (r : Option Nat) (gds : List (Option Nat)) (o : Oper) (a : Act) (w : World) (K : Act → World → Prop) : Prop :=
  if Region.wanted o (yieldedG gds a.tmps) then o.wpIn (fence r) 0 P a w K (fun _ _ _ => False) else K (a.put o.dst undef) w

theorem gives_wpIn {r : Option Nat} {o : Oper} {a : Act} {w : World} {Q : Value → World → Prop} {K : Act → World → Prop} {Q' : Exit → Act → World → Prop} (hd : ∀ c, o.op ≠ .defer c) (h : Gives P o a w Q) (hK : ∀ v w', Q v w' → K (a.put o.dst v) w') : o.wpIn (fence r) 0 P a w K Q' := by
  refine ⟨fun _ _ => trivial, ?_⟩
  rw [Oper.semAt_eq _ _ _ hd]
  rcases h with ⟨v, w', h1, h2⟩ | ⟨f, args, h1, h2⟩
  · rw [h1]; exact hK v w' h2
  · rw [h1]
    refine ⟨fun h => (by cases h), callsIn_fence (h2.mono ?_)⟩
    rintro e w' ⟨v, rfl, hQ⟩
    exact hK v w' hQ

/-- a step of the abstract machine -/
def Eff (P : Program) (gds : List (Option Nat)) (o : Oper) (s : S) (Q : S → Prop) : Prop :=
  ∀ (X : Nat → Prop) (r : Option Nat) (a : Act) (w : World) (ρ : Rho), Rel X s a w ρ → opwp P r gds o a w fun a' w' => ∃ s' ρ', Q s' ∧ Rel X s' a' w' ρ' ∧ Tr w ρ w' ρ'

def gdsOk (gds : List (Option Nat)) (n : Nat) : Prop := ∀ d ∈ gds, dstOk n d

theorem gnames_lt {gds : List (Option Nat)} {n : Nat} (h : gdsOk gds n) (g : Option (Nat × Bool)) : ∀ k ∈ gnames gds g, k < n := by
  intro k hk
  cases g with
  | none => simp [gnames] at hk
  | some g =>
    obtain ⟨j, want⟩ := g
    simp only [gnames] at hk
    cases hd : gds[j]? with
    | none => simp [hd] at hk
    | some d =>
      cases d with
      | none => simp [hd] at hk
      | some d =>
        have hk : k = d := by simpa [hd] using hk
        subst hk
        exact h (some k) (List.mem_of_getElem? hd)

theorem Yield.eff {gds : List (Option Nat)} {o : Oper} {s : S} {x : AV} (h : Yield P gds s.t s.m o x) (hg : gdsOk gds s.n) (hd : dstOk s.n o.dst) {Q : S → Prop} (hQ : Q (s.put o.dst x)) : Eff P gds o s Q := by
  intro X r a w ρ hr
  obtain ⟨h1, h2⟩ := h.2 X w ρ a hr.inv (fun n _ => hr.tmps n) (fun n hn => by rw [hr.size]; exact gnames_lt hg o.guard n hn)
  unfold opwp
  split
  · rename_i hw
    refine gives_wpIn h.1 (h1 hw) fun v w' ⟨k1, k2, k3⟩ => ⟨s.put o.dst x, ρ, hQ, ?_, k3⟩
    have := hr.step k3 k2
    exact this.put hd k1
  · rename_i hw
    exact ⟨s.put o.dst x, ρ, hQ, hr.put hd (h2 (by simpa using hw)), Tr.refl w ρ⟩

/-- a list of operations, in the order of the text -/
def RunL (P : Program) (gds : List (Option Nat)) : List Oper → (S → Prop) → S → Prop
  | [], Q, s => Q s
  | o :: l, Q, s => Eff P gds o s (RunL P gds l Q)

theorem RunL.sound {ops : Array Oper} {gds : List (Option Nat)} (hg : gds = ops.toList.map (·.dst)) {r : Option Nat} {Q : S → Prop} {Q' : Exit → Act → World → Prop} : ∀ (l : List Oper) (s : S) (a : Act) (w : World) (ρ : Rho), RunL P gds l Q s → Rel X s a w ρ →
    (∀ s' a' w' ρ', Q s' → Rel X s' a' w' ρ' → Tr w ρ w' ρ' → Q' .normal a' w') → wpListIn (fence r) 0 P ops Q' l a w
  | [], s, a, w, ρ, h, hr, hQ => hQ s a w ρ h hr (Tr.refl w ρ)
  | o :: l, s, a, w, ρ, h, hr, hQ => by
    have h0 := h X r a w ρ hr
    unfold opwp at h0
    rw [hg, yieldedG_eq] at h0
    unfold wpListIn
    have next : ∀ (a' : Act) (w' : World), (∃ s' ρ', RunL P gds l Q s' ∧ Rel X s' a' w' ρ' ∧ Tr w ρ w' ρ') → wpListIn (fence r) 0 P ops Q' l a' w' := by
      rintro a' w' ⟨s', ρ', k1, k2, k3⟩
      exact RunL.sound hg l s' a' w' ρ' k1 k2 fun s2 a2 w2 ρ2 q1 q2 q3 => hQ s2 a2 w2 ρ2 q1 q2 (k3.trans q3)
    split
    · rename_i hw
      rw [if_pos hw] at h0
      refine ⟨h0.1, ?_⟩
      have h1 := h0.2
      generalize (o.semAt (fence r).round a.eval).run P w = res at *
      rw [← hg] at h1
      cases res with
      | ok x w' =>
        cases x <;> simp only [Oper.uponIn] at h1 ⊢ <;> first
          | exact next _ _ h1
          | exact ⟨h1.1, CallsIn.mono h1.2 (fun e w'' he => by cases e with
              | returned v => exact next _ _ he
              | panicked c => exact he.elim
              | outgrown => exact (by obtain ⟨_, _, hh⟩ := he; exact hh.elim))⟩
          | exact ⟨h1.1, RowsIn.mono h1.2 (fun _ _ he => next _ _ he)⟩
          | exact ⟨h1.1, RoundIn.mono h1.2 (fun e w'' he => by cases e with
              | returned v => exact next _ _ he
              | panicked c => exact he.elim
              | outgrown => exact (by obtain ⟨_, _, hh⟩ := he; exact hh.elim))⟩
          | exact h1.elim
      | halt x w' => cases x <;> simp only [Oper.uponIn] at h1 <;> exact h1.elim
    · rename_i hw
      rw [if_neg hw] at h0
      rw [← hg] at h0
      exact ⟨fun _ _ => trivial, next _ _ h0⟩
end Go.Vg
