/- The abstract machine, part Y: a region that draws its order and writes or makes memory once; what is not bound to that operation looks at no memory. -/
import Derived.Test.YtcpmcebdolcldaaVgV
set_option linter.all false
set_option linter.unusedVariables false
namespace Go.Vg
open Go.RowKit
variable {P : Program} {X : Nat → Prop} {w : World} {ρ : Rho}

def regOnly : Op → Bool
  | .move _ | .assign _ | .pick .. | .binOp .. | .unOp .. | .convert .. | .extract .. => true
  | _ => false
theorem ev_reg {E B : Operand → AV} {m m' : Mem} {op : Op} (h : regOnly op = true) : ev P E B m op = ev P E B m' op := by
  cases op <;> simp_all [regOnly, ev]
theorem stepA_reg {gds : List (Option Nat)} {t : List (Nat × AV)} {m m' : Mem} {o : Oper} (h : regOnly o.op = true) : stepA P gds t m o = stepA P gds t m' o := by
  unfold stepA
  cases o.guard with
  | none => exact ev_reg h
  | some g =>
    simp only
    split
    · rw [ev_reg (m' := m') h]
    · rfl

/-- an operation that writes or makes memory, at these temporaries -/
def EffAt (P : Program) (t : List (Nat × AV)) (m : Mem) (o : Oper) (m1 : Mem) (x : AV) : Prop :=
  (∀ c, o.op ≠ .defer c) ∧ ∀ (X : Nat → Prop) (w : World) (ρ : Rho) (a : Act), Inv X w ρ m → (∀ y ∈ o.op.operands, R X w ρ (evo t y) (a.eval y)) → Done P X w ρ m1 x ((execOp a.eval o).run P w)

inductive AbsE (P : Program) (gds : List (Option Nat)) (e : Nat) : Nat → List Oper → S → S → Prop where
  | nil {k : Nat} {s : S} : AbsE P gds e k [] s s
  | cons {k : Nat} {o : Oper} {l : List Oper} {s s' : S} {x : AV} : k ≠ e → dstOk s.n o.dst → Yield P gds s.t s.m o x → (regOnly o.op = true → ∀ m', Yield P gds s.t m' o x) → AbsE P gds e (k + 1) l (s.put o.dst x) s' → AbsE P gds e k (o :: l) s s'
  | eff {k : Nat} {o : Oper} {l : List Oper} {s s' : S} {x : AV} {m1 : Mem} : k = e → o.guard = none → dstOk s.n o.dst → EffAt P s.t s.m o m1 x → AbsE P gds e (k + 1) l ({ s with m := m1 }.put o.dst x) s' → AbsE P gds e k (o :: l) s s'

theorem AbsE.data {gds : List (Option Nat)} {e : Nat} : ∀ {ops : List Oper} {s s' : S} {k : Nat}, AbsE P gds e k ops s s' → ∃ (xs : List (Oper × AV)) (m1 : Mem), xs.map (·.1) = ops ∧ s' = ⟨V xs (fun _ => true) k s.t, m1, s.n, s.d⟩ ∧ (e < k → m1 = s.m) ∧ (k + ops.length ≤ e → m1 = s.m) ∧
    ∀ (i : Nat) (ox : Oper × AV), xs[i]? = some ox → dstOk s.n ox.1.dst ∧
      (k + i ≠ e → Yield P gds (V xs (upto k i) k s.t) (if k + i < e then s.m else m1) ox.1 ox.2 ∧ (regOnly ox.1.op = true → ∀ m', Yield P gds (V xs (upto k i) k s.t) m' ox.1 ox.2)) ∧
      (k + i = e → ox.1.guard = none ∧ EffAt P (V xs (upto k i) k s.t) s.m ox.1 m1 ox.2)
  | _, s, _, k, .nil => ⟨[], s.m, rfl, rfl, fun _ => rfl, fun _ => rfl, fun i ox h => by simp at h⟩
  | o :: l, s, s', k, .cons (x := x) h0 h1 h2 h2' h3 => by
    obtain ⟨xs, m1, e1, e2, em, em', e3⟩ := AbsE.data h3
    rw [S.put_eq] at e2 em em' e3
    refine ⟨(o, x) :: xs, m1, by simp [e1], by rw [e2]; simp [V], fun h => em (by omega), fun h => em' (by simp at h; omega), fun i ox hi => ?_⟩
    cases i with
    | zero =>
      simp at hi; subst hi
      have hV : V ((o, x) :: xs) (upto k 0) k s.t = s.t := V_none _ _ _ _ (fun j _ => by simp [upto])
      refine ⟨h1, fun _ => ?_, fun h => absurd h h0⟩
      rw [hV]
      refine ⟨?_, h2'⟩
      split
      · exact h2
      · rw [em (by omega)]; exact h2
    | succ i =>
      obtain ⟨q1, q2, q3⟩ := e3 i ox (by simpa using hi)
      have hV : V ((o, x) :: xs) (upto k (i + 1)) k s.t = V xs (upto (k + 1) i) (k + 1) (upd s.t o.dst x) := by
        simp only [V]
        have h0 : upto k (i + 1) k = true := by simp [upto]
        rw [h0]
        have hf : upto k (i + 1) = upto (k + 1) i := by funext j; simp only [upto]; congr 1; apply propext; omega
        rw [hf]; rfl
      rw [hV, show k + (i + 1) = k + 1 + i by omega]
      exact ⟨q1, q2, q3⟩
  | o :: l, s, s', k, .eff (x := x) (m1 := m2) h0 hg h1 h2 h3 => by
    obtain ⟨xs, m1, e1, e2, em, em', e3⟩ := AbsE.data h3
    rw [S.put_eq] at e2 em em' e3
    have hm : m1 = m2 := em (by omega)
    subst hm
    refine ⟨(o, x) :: xs, m1, by simp [e1], by rw [e2]; simp [V], fun h => by omega, fun h => by simp at h; omega, fun i ox hi => ?_⟩
    cases i with
    | zero =>
      simp at hi; subst hi
      have hV : V ((o, x) :: xs) (upto k 0) k s.t = s.t := V_none _ _ _ _ (fun j _ => by simp [upto])
      refine ⟨h1, fun h => absurd h0 (by omega), fun _ => ?_⟩
      rw [hV]
      exact ⟨hg, h2⟩
    | succ i =>
      obtain ⟨q1, q2, q3⟩ := e3 i ox (by simpa using hi)
      have hV : V ((o, x) :: xs) (upto k (i + 1)) k s.t = V xs (upto (k + 1) i) (k + 1) (upd s.t o.dst x) := by
        simp only [V]
        have h0 : upto k (i + 1) k = true := by simp [upto]
        rw [h0]
        have hf : upto k (i + 1) = upto (k + 1) i := by funext j; simp only [upto]; congr 1; apply propext; omega
        rw [hf]; rfl
      rw [hV, show k + (i + 1) = k + 1 + i by omega]
      refine ⟨q1, fun hne => ?_, fun he => by omega⟩
      rw [if_neg (by omega)]
      have := q2 (by omega)
      rw [if_neg (by omega)] at this
      exact this

/-- what stands, bound, before operation e: found from the end -/
def befL (ops : List Oper) (e : Nat) : Nat → List Nat
  | 0 => [e]
  | n + 1 =>
    if (befL ops e n).any (fun j => match ops[j]? with
      | some o => dep o (e - (n + 1))
      | none => false) = true then (e - (n + 1)) :: befL ops e n else befL ops e n
theorem befL_listed {ops : List Oper} {listed : Array Bool} (hcl : ∀ (j : Nat) (oj : Oper), ops[j]? = some oj → listed.getD j false = true → ∀ d ∈ oj.after, Region.binds .any d = true → listed.getD d.on false = true) {e : Nat} (he : listed.getD e false = true) : ∀ r, ∀ i ∈ befL ops e r, listed.getD i false = true
  | 0, i, hi => by simp [befL] at hi; subst hi; exact he
  | r + 1, i, hi => by
    unfold befL at hi
    split at hi
    · rename_i ha
      rcases List.mem_cons.1 hi with rfl | hi
      · obtain ⟨j, hj, hd⟩ := List.any_eq_true.1 ha
        have h1 := befL_listed hcl he r j hj
        split at hd
        · rename_i o ho
          obtain ⟨d, hd', hb⟩ := Array.any_eq_true'.1 hd
          simp only [Bool.and_eq_true, beq_iff_eq] at hb
          have := hcl j o ho h1 d hd' hb.1
          rw [hb.2] at this; exact this
        · cases hd
      · exact befL_listed hcl he r i hi
    · exact befL_listed hcl he r i hi

/-! the rules as they are applied -/
def Abe (P : Program) (gds : List (Option Nat)) (e k : Nat) (l : List Oper) (s s1 : S) : Prop := (∀ o ∈ l, dstOk s.n o.dst) → AbsE P gds e k l s s1
section
variable {gds : List (Option Nat)} {e k : Nat} {l : List Oper} {s s1 : S} {o : Oper}
theorem Abe.nil : Abe P gds e k [] s s := fun _ => .nil
theorem putA_n (s : S) (d : Option Nat) (x : AV) : (putA s d x).n = s.n := by cases d <;> rfl
theorem Abe.step {x : AV} (hk : k ≠ e) (hy : Yield P gds s.t s.m o x) (hr : regOnly o.op = true → ∀ m', Yield P gds s.t m' o x) (h : Abe P gds e (k + 1) l (putA s o.dst x) s1) : Abe P gds e k (o :: l) s s1 := fun hd =>
  .cons hk (hd o (by simp)) hy hr (by rw [← putA_eq]; exact h (fun o' ho' => by rw [putA_n]; exact hd o' (by simp [ho'])))
/-- an operation that only computes -/
theorem Abe.next {s' : S} {p : Prop} (hk : (k == e) = false) (h : abnA P gds s o = some (s', p)) (hp : p) (hn : Abe P gds e (k + 1) l s' s1) : Abe P gds e k (o :: l) s s1 := by
  have hk' : k ≠ e := by simpa using hk
  unfold abnA at h
  split at h
  · rename_i x p' he
    simp only [Option.some.injEq, Prod.mk.injEq] at h
    obtain ⟨rfl, rfl⟩ := h
    exact Abe.step hk' (stepA_yield he hp) (fun hr m' => stepA_yield (m := m') (by rw [stepA_reg (m' := s.m) hr]; exact he) hp) hn
  · rename_i hs
    split at h
    · rename_i hgd
      split at h
      · rename_i sz xs p' he
        simp only [Option.some.injEq, Prod.mk.injEq] at h
        obtain ⟨rfl, rfl⟩ := h
        obtain ⟨dst, op, type, pos, after, guard⟩ := o
        simp only at hgd
        subst hgd
        exact Abe.step hk' (bldA_yield he hp) (fun hr m' => (by cases op <;> simp_all [regOnly, bldA])) hn
      · cases h
    · cases h
/-- the one that writes or makes memory -/
theorem Abe.eff {m' : Mem} {x : AV} {p : Prop} {dst : Option Nat} {op : Op} {type : TypeId} {pos : String} {after : Array Edge} (hk : (k == e) = true) (h : effA P (evo s.t) s.m op = some (m', x, p)) (hp : p) (hn : Abe P gds e (k + 1) l (putA ⟨s.t, m', s.n, s.d⟩ dst x) s1) :
    Abe P gds e k (⟨dst, op, type, pos, after, none⟩ :: l) s s1 := fun hd =>
  .eff (m1 := m') (x := x) (by simpa using hk) rfl (hd ⟨dst, op, type, pos, after, none⟩ (by simp)) ⟨effA_defer h, fun X w ρ a hi ho => effA_done (o := ⟨dst, op, type, pos, after, none⟩) hi ho h hp⟩
    (by rw [← putA_eq]; exact hn (fun o' ho' => by rw [putA_n]; exact hd o' (by simp [ho'])))
theorem Abe.pure {fo : Operand} {args : List Operand} {tys : Array TypeId} {dst : Option Nat} {type : TypeId} {pos : String} {after : Array Edge} {g : Option Bool} {guard : Option (Nat × Bool)} {f : FuncId} {caps vargs : List AV} {x : AV}
    (hk : (k == e) = false) (he : Enters P f) (hg : gvalO gds s.t guard = some g) (hf : fnOf (evoG s.t g fo) = some (f, caps)) (hv : (args.map (evoG s.t g) ++ caps).map (view s.m) = vargs) (hc : (g = none ∨ g = some true) → Pure P f vargs x)
    (hok : gOk s.t g (fo :: args)) (hk0 : okL 0 vargs) (hp : x.plain) (h : Abe P gds e (k + 1) l (putA s dst (optG g x)) s1) : Abe P gds e k (⟨dst, callOp fo args tys, type, pos, after, guard⟩ :: l) s s1 :=
  Abe.step (o := ⟨dst, callOp fo args tys, type, pos, after, guard⟩) (by simpa using hk) (Pure.yield rfl hg hok hf he hc hv hk0 hp) (fun hr => by simp [regOnly, callOp] at hr) h
/-! calls, with fewer things to show -/
def prepV (gds : List (Option Nat)) (s : S) (guard : Option (Nat × Bool)) (fo : Operand) (args : List Operand) : Option (Option Bool × FuncId × List AV) :=
  match gvalO gds s.t guard with
  | some g =>
    match fnOf (evoG s.t g fo) with
    | some (f, caps) => some (g, f, (args.map (evoG s.t g) ++ caps).map (view s.m))
    | none => none
  | none => none
def prepF (gds : List (Option Nat)) (s : S) (guard : Option (Nat × Bool)) (fo : Operand) (args : List Operand) : Option (Option Bool × FuncId × List AV) :=
  match gvalO gds s.t guard with
  | some g =>
    match fnOf (evoG s.t g fo) with
    | some (f, caps) => some (g, f, args.map (evoG s.t g) ++ caps)
    | none => none
  | none => none
theorem prepV_some {guard : Option (Nat × Bool)} {fo : Operand} {args : List Operand} {g : Option Bool} {f : FuncId} {vargs : List AV} (h : prepV gds s guard fo args = some (g, f, vargs)) :
    gvalO gds s.t guard = some g ∧ ∃ caps, fnOf (evoG s.t g fo) = some (f, caps) ∧ (args.map (evoG s.t g) ++ caps).map (view s.m) = vargs := by
  unfold prepV at h
  split at h
  · rename_i g' hg
    split at h
    · rename_i f' caps hf
      simp only [Option.some.injEq, Prod.mk.injEq] at h
      obtain ⟨rfl, rfl, rfl⟩ := h
      exact ⟨hg, caps, hf, rfl⟩
    · cases h
  · cases h
theorem prepF_some {guard : Option (Nat × Bool)} {fo : Operand} {args : List Operand} {g : Option Bool} {f : FuncId} {vargs : List AV} (h : prepF gds s guard fo args = some (g, f, vargs)) :
    gvalO gds s.t guard = some g ∧ ∃ caps, fnOf (evoG s.t g fo) = some (f, caps) ∧ args.map (evoG s.t g) ++ caps = vargs := by
  unfold prepF at h
  split at h
  · rename_i g' hg
    split at h
    · rename_i f' caps hf
      simp only [Option.some.injEq, Prod.mk.injEq] at h
      obtain ⟨rfl, rfl, rfl⟩ := h
      exact ⟨hg, caps, hf, rfl⟩
    · cases h
  · cases h
section
variable {Q : S → Prop} {fo : Operand} {args : List Operand} {tys : Array TypeId} {dst : Option Nat} {type : TypeId} {pos : String} {after : Array Edge} {g : Option Bool} {guard : Option (Nat × Bool)} {f : FuncId} {vargs : List AV} {x : AV}
theorem Run.pureP (h : prepV gds s guard fo args = some (g, f, vargs)) (he : Enters P f) (hc : Pure P f vargs x) (ha : gOk s.t g (fo :: args) ∧ okL 0 vargs ∧ x.plain) (hn : Run P gds l Q (putA s dst (optG g x))) : Run P gds (⟨dst, callOp fo args tys, type, pos, after, guard⟩ :: l) Q s := by
  obtain ⟨h1, caps, h2, h3⟩ := prepV_some h
  rw [putA_eq] at hn
  exact Run.pure he h1 h2 h3 hc ha.1 ha.2.1 ha.2.2 hn
theorem Abn.pureP (h : prepV gds s guard fo args = some (g, f, vargs)) (he : Enters P f) (hc : Pure P f vargs x) (ha : gOk s.t g (fo :: args) ∧ okL 0 vargs ∧ x.plain) (hn : Abn P gds l (putA s dst (optG g x)) s1) : Abn P gds (⟨dst, callOp fo args tys, type, pos, after, guard⟩ :: l) s s1 := by
  obtain ⟨h1, caps, h2, h3⟩ := prepV_some h
  rw [putA_eq] at hn
  exact Abn.pure he h1 h2 h3 hc ha.1 ha.2.1 ha.2.2 hn
theorem Run.pureFP (h : prepF gds s guard fo args = some (g, f, vargs)) (he : Enters P f) (hc : Pure P f vargs x) (ha : gOk s.t g (fo :: args) ∧ okL 0 vargs ∧ x.ok 0) (hn : Run P gds l Q (putA s dst (optG g x))) : Run P gds (⟨dst, callOp fo args tys, type, pos, after, guard⟩ :: l) Q s := by
  obtain ⟨h1, caps, h2, h3⟩ := prepF_some h
  rw [putA_eq] at hn
  exact Run.pureF he h1 h2 h3 hc ha.1 ha.2.1 ha.2.2 hn
theorem Abn.pureFP (h : prepF gds s guard fo args = some (g, f, vargs)) (he : Enters P f) (hc : Pure P f vargs x) (ha : gOk s.t g (fo :: args) ∧ okL 0 vargs ∧ x.ok 0) (hn : Abn P gds l (putA s dst (optG g x)) s1) : Abn P gds (⟨dst, callOp fo args tys, type, pos, after, guard⟩ :: l) s s1 := by
  obtain ⟨h1, caps, h2, h3⟩ := prepF_some h
  rw [putA_eq] at hn
  exact Abn.pureF he h1 h2 h3 hc ha.1 ha.2.1 ha.2.2 hn
theorem Abe.pureP (hk : (k == e) = false) (h : prepV gds s guard fo args = some (g, f, vargs)) (he : Enters P f) (hc : Pure P f vargs x) (ha : gOk s.t g (fo :: args) ∧ okL 0 vargs ∧ x.plain) (hn : Abe P gds e (k + 1) l (putA s dst (optG g x)) s1) : Abe P gds e k (⟨dst, callOp fo args tys, type, pos, after, guard⟩ :: l) s s1 := by
  obtain ⟨h1, caps, h2, h3⟩ := prepV_some h
  exact Abe.pure hk he h1 h2 h3 (fun _ => hc) ha.1 ha.2.1 ha.2.2 hn
end
end

end Go.Vg
