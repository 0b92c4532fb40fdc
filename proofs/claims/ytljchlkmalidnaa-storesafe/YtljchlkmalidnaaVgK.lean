/- The abstract machine, part K: the rules as they are applied. -/
import Derived.Test.YtljchlkmalidnaaVgJ
set_option linter.all false
set_option linter.unusedVariables false
namespace Go.Vg
open Go.RowKit
variable {P : Program} {gds : List (Option Nat)} {o : Oper} {l : List Oper} {Q : S → Prop} {s : S}

def dstB (n : Nat) : Option Nat → Bool
  | some d => decide (d < n)
  | none => true
theorem dstB_ok {n : Nat} {d : Option Nat} (h : dstB n d = true) : dstOk n d := by
  cases d with
  | none => trivial
  | some d => simpa [dstB, dstOk] using h

/-- a list of operations in a region -/
def Run (P : Program) (gds : List (Option Nat)) (l : List Oper) (Q : S → Prop) (s : S) : Prop := gdsOk gds s.n → (∀ o ∈ l, dstOk s.n o.dst) → RunL P gds l Q s

theorem S.put_n (s : S) (d : Option Nat) (x : AV) : (s.put d x).n = s.n := by cases d <;> rfl

theorem Run.nil (h : Q s) : Run P gds [] Q s := fun _ _ => h
theorem Run.yield {x : AV} (h : Yield P gds s.t s.m o x) (k : Run P gds l Q (s.put o.dst x)) : Run P gds (o :: l) Q s :=
  fun hg hd => h.eff hg (hd o (by simp)) (k (by rw [S.put_n]; exact hg) (fun o' ho' => by rw [S.put_n]; exact hd o' (by simp [ho'])))
theorem Run.stepP {x : AV} {p : Prop} (h : stepA P gds s.t s.m o = some (x, p)) (hp : p) (k : Run P gds l Q (s.put o.dst x)) : Run P gds (o :: l) Q s := Run.yield (stepA_yield h hp) k

theorem Wp.run {r : Option Nat} {Q : Exit → S → Prop} {s : S} {id : Nat} {ops : List Oper} {gds : List (Option Nat)} (hg : ops.map (·.dst) = gds) (hB : gds.all (dstB s.n) = true) (h : Run P gds ops (Q .normal) s) : Wp P r (.region id ops.toArray false) Q s := by
  have hgo : gdsOk gds s.n := fun d hd => dstB_ok (List.all_eq_true.1 hB d hd)
  refine Wp.region ?_
  rw [hg]
  exact h hgo fun o ho => hgo o.dst (by rw [← hg]; exact List.mem_map_of_mem ho)

/-- the first n operations of a region that draws -/
def Abn (P : Program) (gds : List (Option Nat)) (l : List Oper) (s s1 : S) : Prop := (∀ o ∈ l, dstOk s.n o.dst) → Abs P gds l s s1
theorem Abn.nil : Abn P gds [] s s := fun _ => .nil
theorem Abn.yield {x : AV} {s1 : S} (h : Yield P gds s.t s.m o x) (k : Abn P gds l (s.put o.dst x) s1) : Abn P gds (o :: l) s s1 :=
  fun hd => .cons (hd o (by simp)) h (k fun o' ho' => by rw [S.put_n]; exact hd o' (by simp [ho']))
theorem Abn.stepP {x : AV} {p : Prop} {s1 : S} (h : stepA P gds s.t s.m o = some (x, p)) (hp : p) (k : Abn P gds l (s.put o.dst x) s1) : Abn P gds (o :: l) s s1 := Abn.yield (stepA_yield h hp) k

theorem Abs.n {s1 : S} {l : List Oper} {s : S} (h : Abs P gds l s s1) : s1.n = s.n := by
  induction h with
  | nil => rfl
  | cons _ _ _ ih => rw [ih, S.put_n]

theorem Wp.runD {r : Option Nat} {Q : Exit → S → Prop} {s s1 : S} {id : Nat} {ops hd tl : List Oper} {gds : List (Option Nat)} (n : Nat) (hm : P.follows .mixedOrders = true) (hg : ops.map (·.dst) = gds) (hB : gds.all (dstB s.n) = true) (hD : drawB gds ops n = true)
    (htk : ops.take n = hd) (hdr : ops.drop n = tl) (habs : Abn P gds hd s s1) (h : Run P gds tl (Q .normal) s1) : Wp P r (.region id ops.toArray true) Q s := by
  have hgo : gdsOk gds s.n := fun d hd => dstB_ok (List.all_eq_true.1 hB d hd)
  have hdo : ∀ o ∈ ops, dstOk s.n o.dst := fun o ho => hgo o.dst (by rw [← hg]; exact List.mem_map_of_mem ho)
  subst htk hdr hg
  have ha := habs fun o ho => hdo o (List.mem_of_mem_take ho)
  have hn := ha.n
  exact Wp.drawn n hm hD hgo ha (h (by rw [hn]; exact hgo) fun o ho => by rw [hn]; exact hdo o (List.mem_of_mem_drop ho))

/-- a call of a function that turns nothing and hands back plain data -/
theorem Run.pure {fo : Operand} {args : List Operand} {tys : Array TypeId} {dst : Option Nat} {type : TypeId} {pos : String} {after : Array Edge} {g : Option Bool} {guard : Option (Nat × Bool)} {f : FuncId} {caps vargs : List AV} {x : AV}
    (he : Enters P f) (hg : gvalO gds s.t guard = some g) (hf : fnOf (evoG s.t g fo) = some (f, caps)) (hv : (args.map (evoG s.t g) ++ caps).map (view s.m) = vargs) (hc : Pure P f vargs x)
    (hok : gOk s.t g (fo :: args)) (hk : okL 0 vargs) (hp : x.plain) (k : Run P gds l Q (s.put dst (optG g x))) : Run P gds (⟨dst, callOp fo args tys, type, pos, after, guard⟩ :: l) Q s :=
  Run.yield (o := ⟨dst, callOp fo args tys, type, pos, after, guard⟩) (Pure.yield rfl hg hok hf he (fun _ => hc) hv hk hp) k
theorem Abn.pure {fo : Operand} {args : List Operand} {tys : Array TypeId} {dst : Option Nat} {type : TypeId} {pos : String} {after : Array Edge} {g : Option Bool} {guard : Option (Nat × Bool)} {f : FuncId} {caps vargs : List AV} {x : AV} {s1 : S}
    (he : Enters P f) (hg : gvalO gds s.t guard = some g) (hf : fnOf (evoG s.t g fo) = some (f, caps)) (hv : (args.map (evoG s.t g) ++ caps).map (view s.m) = vargs) (hc : Pure P f vargs x)
    (hok : gOk s.t g (fo :: args)) (hk : okL 0 vargs) (hp : x.plain) (k : Abn P gds l (s.put dst (optG g x)) s1) : Abn P gds (⟨dst, callOp fo args tys, type, pos, after, guard⟩ :: l) s s1 :=
  Abn.yield (o := ⟨dst, callOp fo args tys, type, pos, after, guard⟩) (Pure.yield rfl hg hok hf he (fun _ => hc) hv hk hp) k
end Go.Vg
