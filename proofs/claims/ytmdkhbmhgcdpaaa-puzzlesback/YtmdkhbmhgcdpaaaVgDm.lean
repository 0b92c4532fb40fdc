/- The abstract machine, part Dm: a region that draws its order, whose operations write or make memory: what the memory is stands for each set of those that are listed. -/
import Derived.Test.YtmdkhbmhgcdpaaaVgY
import Derived.Test.YtmdkhbmhgcdpaaaVgV
set_option linter.all false
set_option linter.unusedVariables false
namespace Go.Vg
open Go.RowKit
variable {P : Program} {X : Nat → Prop} {w : World} {ρ : Rho}

/-- what one operation does at these temporaries and this memory -/
def StepAt (P : Program) (gds : List (Option Nat)) (t : List (Nat × AV)) (m : Mem) (o : Oper) (m1 : Mem) (x : AV) : Prop :=
  (∀ c, o.op ≠ .defer c) ∧
  ∀ (X : Nat → Prop) (w : World) (ρ : Rho) (a : Act), Inv X w ρ m → (∀ n, n ∈ gnames gds o.guard ∨ n ∈ onames o.op → R X w ρ (look t n) (a.tmps.getD n undef)) → (∀ n ∈ gnames gds o.guard, n < a.tmps.size) →
    (Region.wanted o (yieldedG gds a.tmps) = true → (∃ w' ρ', (execOp a.eval o).run P w = .ok .skip w' ∧ R X w' ρ' x undef ∧ Inv X w' ρ' m1 ∧ Tr w ρ w' ρ') ∨ Gives P o a w fun v w' => ∃ ρ', R X w' ρ' x v ∧ Inv X w' ρ' m1 ∧ Tr w ρ w' ρ') ∧
    (Region.wanted o (yieldedG gds a.tmps) = false → R X w ρ x undef ∧ m1 = m)
theorem Yield.stepAt {gds : List (Option Nat)} {t : List (Nat × AV)} {m : Mem} {o : Oper} {x : AV} (h : Yield P gds t m o x) : StepAt P gds t m o m x := by
  refine ⟨h.1, fun X w ρ a hi hr hn => ?_⟩
  obtain ⟨h1, h2⟩ := h.2 X w ρ a hi hr hn
  refine ⟨fun hw => .inr ?_, fun hw => ⟨h2 hw, rfl⟩⟩
  rcases h1 hw with ⟨v, w', q1, q2⟩ | ⟨f, args, q1, q2⟩
  · exact .inl ⟨v, w', q1, ρ, q2⟩
  · exact .inr ⟨f, args, q1, q2.mono fun e w' ⟨v, e1, q⟩ => ⟨v, e1, ρ, q⟩⟩
theorem EffAt.stepAt {gds : List (Option Nat)} {t : List (Nat × AV)} {m m1 : Mem} {o : Oper} {x : AV} (hg : o.guard = none) (h : EffAt P t m o m1 x) : StepAt P gds t m o m1 x := by
  refine ⟨h.1, fun X w ρ a hi hr hn => ⟨fun _ => ?_, fun hw => (by simp [Region.wanted, hg] at hw)⟩⟩
  obtain ⟨v, w', ρ', h1, h2, h3, h4⟩ := h.2 X w ρ a hi (evo_of fun n hn => hr n (.inr hn))
  rcases h1 with h1 | ⟨h1, rfl⟩
  · exact .inr (.inl ⟨v, w', h1, ρ', h4, h3, h2⟩)
  · exact .inl ⟨w', ρ', h1, h4, h3, h2⟩
/-- a call by a contract over our own entries -/
theorem Spec.stepAt {gds : List (Option Nat)} {t : List (Nat × AV)} {m m1 : Mem} {fo : Operand} {args : List Operand} {tys : Array TypeId} {dst : Option Nat} {type : TypeId} {pos : String} {after : Array Edge} {f : FuncId} {caps : List AV} {x : AV}
    (he : Enters P f) (hf : fnOf (evo t fo) = some (f, caps)) (hc : Spec P f (args.map (evo t) ++ caps) m fun y m' => y = x ∧ m' = m1) : StepAt P gds t m ⟨dst, callOp fo args tys, type, pos, after, none⟩ m1 x := by
  refine ⟨fun c e => (by cases e), fun X w ρ a hi hr hn => ⟨fun _ => ?_, fun hw => (by simp [Region.wanted] at hw)⟩⟩
  obtain ⟨h1, h2⟩ := onames_call (fo := fo) (args := args) (tys := tys) (t := t) (a := a) (X := X) (w := w) (ρ := ρ) (fun n hn => hr n (.inr hn))
  obtain ⟨cs, hcs, hcr⟩ := fnOf_rel hf h1
  have hrun := run_call (P := P) (w := w) (o := ⟨dst, callOp fo args tys, type, pos, after, none⟩) rfl hcs he
  refine .inr (.inr ⟨f, _, hrun, ?_⟩)
  refine (hc X w ρ _ hi ((Rvals_map args fun y hy => h2 y hy).append hcr)).mono ?_
  rintro e w' ⟨v, x', m', ρ', rfl, ⟨rfl, rfl⟩, k1, k2, k3⟩
  exact ⟨v, rfl, ρ', k1, k2, k3⟩

/-! which sets of them can be listed when an operation's turn comes -/
def allB : Nat → List (List Bool)
  | 0 => [[]]
  | n + 1 => (allB n).map (false :: ·) ++ (allB n).map (true :: ·)
def before (ops : List Oper) (i j : Nat) : Bool := (befL ops j j).contains i
def consB (ops : List Oper) (es : List Nat) (i : Nat) (bits : List Bool) : Bool :=
  (es.zip bits).all fun eb =>
    (if eb.1 = i then !eb.2 else if before ops eb.1 i then eb.2 else if before ops i eb.1 then !eb.2 else true) &&
    (!eb.2 || (es.zip bits).all fun eb' => !before ops eb'.1 eb.1 || eb'.2)
def consL (ops : List Oper) (es : List Nat) (i : Nat) : List (List Bool) := (allB es.length).filter (consB ops es i)
def setB (es : List Nat) (i : Nat) (bits : List Bool) : List Bool := (es.zip bits).map fun eb => decide (eb.1 = i) || eb.2
/-- the operations, in the order of the text, at each memory that may be there -/
inductive AbsM (P : Program) (gds : List (Option Nat)) (ops : List Oper) (es : List Nat) (mem : List Bool → Mem) (n : Nat) : Nat → List Oper → List (Nat × AV) → List (Nat × AV) → Prop where
  | nil {k : Nat} {t : List (Nat × AV)} : AbsM P gds ops es mem n k [] t t
  | cons {k : Nat} {o : Oper} {l : List Oper} {t t' : List (Nat × AV)} {x : AV} : dstOk n o.dst → (∀ bits ∈ consL ops es k, StepAt P gds t (mem bits) o (mem (setB es k bits)) x) → AbsM P gds ops es mem n (k + 1) l (upd t o.dst x) t' → AbsM P gds ops es mem n k (o :: l) t t'

theorem AbsM.data {gds : List (Option Nat)} {ops0 : List Oper} {es : List Nat} {mem : List Bool → Mem} {n : Nat} : ∀ {ops : List Oper} {t t' : List (Nat × AV)} {k : Nat}, AbsM P gds ops0 es mem n k ops t t' → ∃ (xs : List (Oper × AV)), xs.map (·.1) = ops ∧ t' = V xs (fun _ => true) k t ∧
    ∀ (i : Nat) (ox : Oper × AV), xs[i]? = some ox → dstOk n ox.1.dst ∧ ∀ bits ∈ consL ops0 es (k + i), StepAt P gds (V xs (upto k i) k t) (mem bits) ox.1 (mem (setB es (k + i) bits)) ox.2
  | _, t, _, k, .nil => ⟨[], rfl, rfl, fun i ox h => by simp at h⟩
  | o :: l, t, t', k, .cons (x := x) h1 h2 h3 => by
    obtain ⟨xs, e1, e2, e3⟩ := AbsM.data h3
    refine ⟨(o, x) :: xs, by simp [e1], by rw [e2]; simp [V], fun i ox hi => ?_⟩
    cases i with
    | zero =>
      simp at hi; subst hi
      have hV : V ((o, x) :: xs) (upto k 0) k t = t := V_none _ _ _ _ (fun j _ => by simp [upto])
      rw [hV]
      exact ⟨h1, h2⟩
    | succ i =>
      obtain ⟨q1, q2⟩ := e3 i ox (by simpa using hi)
      have hV : V ((o, x) :: xs) (upto k (i + 1)) k t = V xs (upto (k + 1) i) (k + 1) (upd t o.dst x) := by
        simp only [V]
        have h0 : upto k (i + 1) k = true := by simp [upto]
        rw [h0]
        have hf : upto k (i + 1) = upto (k + 1) i := by funext j; simp only [upto]; congr 1; apply propext; omega
        rw [hf]; rfl
      rw [hV, show k + (i + 1) = k + 1 + i by omega]
      exact ⟨q1, q2⟩

/-! new memory, laid into an entry that stands already -/
/-- what an operation makes: the size of its elements, the row; a slice of how many, or a pointer -/
def alcA (P : Program) (E : Operand → AV) (op : Op) : Option (Nat × List AV × Option Nat × Prop) :=
  match op with
  | .box _ v => some ((E v).cells.length, [E v], none, (E v).flat ∧ 0 < (E v).cells.length)
  | .alloc ty =>
    match zAV P ty with
    | some x => some (x.cells.length, [x], none, x.flat ∧ 0 < x.cells.length)
    | none => none
  | .makeSlice ty l c =>
    match makeA P [] ty (E l) (E c) with
    | some ([⟨_, .row sz row⟩], .osl _ _ _ n, p) => some (sz, row, some n, p)
    | _ => none
  | .buildSlice ty len parts =>
    match bldA P E (.buildSlice ty len parts) with
    | some (sz, xs, p) => some (sz, xs, some xs.length, p)
    | none => none
  | _ => none
def alcV (id ver : Nat) : Option Nat → AV
  | none => .optr id ver 0 0
  | some n => .osl id ver 0 n
section
variable {gds : List (Option Nat)} {l : List Oper} {Q : S → Prop} {s : S} {o : Oper}
theorem StepAt.run {m1 : Mem} {x : AV} (h : StepAt P gds s.t s.m o m1 x) (k : Run P gds l Q ({ s with m := m1 }.put o.dst x)) : Run P gds (o :: l) Q s := by
  intro hg hd
  refine Run.eff (fun X r a w ρ hr => ?_) hg hd
  obtain ⟨h1, h2⟩ := h.2 X w ρ a hr.inv (fun n _ => hr.tmps n) (fun n hn => by rw [hr.size]; exact gnames_lt hg o.guard n hn)
  have hdo := hd o (by simp)
  have fin : ∀ (v : Value) (w' : World) (ρ' : Rho), R X w' ρ' x v → Inv X w' ρ' m1 → Tr w ρ w' ρ' → ∃ s' ρ', (s'.n = s.n ∧ Run P gds l Q s') ∧ Rel X s' (a.put o.dst v) w' ρ' ∧ Tr w ρ w' ρ' :=
    fun v w' ρ' q1 q2 q3 => ⟨{ s with m := m1 }.put o.dst x, ρ', ⟨by rw [S.put_n], k⟩, (hr.step q3 q2).put hdo q1, q3⟩
  unfold opwp
  split
  · rename_i hw
    refine ⟨fun _ _ => trivial, ?_⟩
    rw [Oper.semAt_eq _ _ _ h.1]
    rcases h1 hw with ⟨w', ρ', q1, q2, q3, q4⟩ | ⟨v, w', q1, ρ', q2, q3, q4⟩ | ⟨f', args, q1, q2⟩
    · rw [q1]; exact fin undef w' ρ' q2 q3 q4
    · rw [q1]; exact fin v w' ρ' q2 q3 q4
    · rw [q1]
      refine ⟨fun h => (by cases h), callsIn_fence (q2.mono ?_)⟩
      rintro e w' ⟨v, rfl, ρ', q2, q3, q4⟩
      exact fin v w' ρ' q2 q3 q4
  · rename_i hw
    obtain ⟨q1, q2⟩ := h2 (by simpa using hw)
    exact fin undef w ρ q1 (by rw [q2]; exact hr.inv) (Tr.refl w ρ)
end
attribute [push_cast] alcA alcV
end Go.Vg
