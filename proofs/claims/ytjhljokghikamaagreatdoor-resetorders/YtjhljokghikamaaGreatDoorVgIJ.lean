/- A part of the proof of ResetOrders: contracts of functions, with plain laws that they need. -/
import Derived.RangeFuncLeaves
import Derived.RangeFuncRecord
import Derived.Test.YtjhljokghikamaaGreatDoorVgDJ
set_option linter.all false
namespace Go.Vg
open Go.RowKit
variable {P : Program} {X : Nat → Prop} {w : World} {ρ : Rho}
def res1 (P : Program) (s : S) : ResultVar → Option (AV × Prop)
 | .tmp t => some (look s.t t, True)
 | .cell a ty => loadA P s.m ty (look s.t a)
def resL (P : Program) (s : S) : List ResultVar → Option (List AV × Prop)
 | [] => some ([], True)
 | r :: rs =>
  match res1 P s r, resL P s rs with
  | some (x, p), some (xs, q) => some (x :: xs, p ∧ q)
  | _, _ => none
def packRes : List AV → AV
 | [x] => x
 | xs => .tup xs
theorem asAddr_load {ty : TypeId} {v u : Value} (h : (Instr.loadAt ty v).run P w = .ok u w) : (do loadVar ty (← asAddr v) : Sem Value).run P w = .ok u w := by
 unfold Instr.loadAt at h
 cases v <;> simp [Instr.sureAddr] at h
 rename_i a
 cases a with
 | none => simp at h
 | some a => simpa [asAddr] using h
def resF (tmps : Array Value) : ResultVar → Sem Value
 | .tmp t => pure (tmps.getD t undef)
 | .cell a t => do loadVar t (← asAddr (tmps.getD a undef))
theorem results_eq (fn : Func) (tmps : Array Value) : results fn tmps = (do let vs ← fn.results.mapM (resF tmps); pure (if h : vs.size = 1 then vs[0] else .tuple vs)) := by
 unfold results
 have : (fun (x : ResultVar) => (match x with | .tmp t => pure (tmps.getD t undef) | .cell a t => do loadVar t (← asAddr (tmps.getD a undef)) : Sem Value)) = resF tmps := by
  funext x; cases x <;> rfl
 rw [← this]
 rfl
theorem res1_run {s : S} {a : Act} (hr : Rel X s a w ρ) {rv : ResultVar} {x : AV} {p : Prop} (h : res1 P s rv = some (x, p)) (hp : p) :
  ∃ v, (resF a.tmps rv).run P w = .ok v w ∧ R X w ρ x v := by
 cases rv with
 | tmp t =>
  simp only [res1, Option.some.injEq, Prod.mk.injEq] at h
  obtain ⟨rfl, rfl⟩ := h
  exact ⟨_, rfl, hr.tmps t⟩
 | cell b ty =>
  obtain ⟨v, h1, h2⟩ := loadA_run (P := P) hr.inv (hr.tmps b) h hp
  exact ⟨v, asAddr_load h1, h2⟩
theorem resL_run {s : S} {a : Act} (hr : Rel X s a w ρ) : ∀ (rs : List ResultVar) {xs : List AV} {p : Prop}, resL P s rs = some (xs, p) → p →
  ∃ vs : List Value, (rs.mapM (resF a.tmps)).run P w = .ok vs w ∧ Rvals X w ρ xs vs
 | [], xs, p, h, hp => by
  simp only [resL, Option.some.injEq, Prod.mk.injEq] at h
  obtain ⟨rfl, rfl⟩ := h
  exact ⟨[], by simp, rfl⟩
 | rv :: rs, xs, p, h, hp => by
  unfold resL at h
  split at h
  ·rename_i x q xs' q' h1 h2
   simp only [Option.some.injEq, Prod.mk.injEq] at h
   obtain ⟨rfl, rfl⟩ := h
   obtain ⟨v, k1, k2⟩ := res1_run hr h1 hp.1
   obtain ⟨vs, k3, k4⟩ := resL_run hr rs h2 hp.2
   exact ⟨v :: vs, by simp only [List.mapM_cons, Sem.run_bind, k1, Result.andThen_ok, k3, Sem.run_pure], v, vs, rfl, k2, k4⟩
  ·cases h
theorem results_run {s : S} {a : Act} (hr : Rel X s a w ρ) {fn : Func} {xs : List AV} {p : Prop} (h : resL P s fn.results.toList = some (xs, p)) (hp : p) :
  ∃ v, (results fn a.tmps).run P w = .ok v w ∧ R X w ρ (packRes xs) v := by
 obtain ⟨vs, h1, h2⟩ := resL_run hr fn.results.toList h hp
 refine ⟨if hh : vs.toArray.size = 1 then vs.toArray[0] else .tuple vs.toArray, ?_, ?_⟩
 ·rw [results_eq, Array.mapM_eq_mapM_toList]
  simp only [Sem.run_bind, Sem.run_map, h1, Result.andThen_ok, Sem.run_pure]
 ·cases xs with
  | nil => cases h2; exact ⟨[], by simp, rfl⟩
  | cons x xs =>
   obtain ⟨v, vs', rfl, k1, k2⟩ := h2
   cases xs with
   | nil => cases k2; simpa [packRes] using k1
   | cons y xs =>
    obtain ⟨v', vs'', rfl, k3, k4⟩ := k2
    refine ⟨v :: v' :: vs'', by simp, v, v' :: vs'', rfl, k1, v', vs'', rfl, k3, k4⟩
def Spec (P : Program) (f : FuncId) (args : List AV) (m : Mem) (Q : AV → Mem → Prop) : Prop :=
 ∀ (X : Nat → Prop) (w : World) (ρ : Rho) (vs : List Value), Inv X w ρ m → Rvals X w ρ args vs →
  Calls P f vs.toArray w fun e w' => ∃ v x m' ρ', e = .returned v ∧ Q x m' ∧ R X w' ρ' x v ∧ Inv X w' ρ' m' ∧ Tr w ρ w' ρ'
def Pure (P : Program) (f : FuncId) (args : List AV) (x : AV) : Prop := Spec P f args [] fun x' m' => x' = x ∧ m' = []
theorem Spec.mono {f : FuncId} {args : List AV} {m : Mem} {Q Q' : AV → Mem → Prop} (h : Spec P f args m Q) (hq : ∀ x m', Q x m' → Q' x m') : Spec P f args m Q' :=
 fun X w ρ vs hi hr => (h X w ρ vs hi hr).mono fun e w' ⟨v, x, m', ρ', e1, q, k1, k2, k3⟩ => ⟨v, x, m', ρ', e1, hq x m' q, k1, k2, k3⟩
def zipArgs : Nat → List AV → List (Nat × AV)
 | _, [] => []
 | k, x :: xs => (k, x) :: zipArgs (k + 1) xs
theorem look_zip : ∀ (xs : List AV) (k n : Nat), look (zipArgs k xs) n = if n < k then .any else xs.getD (n - k) .any
 | [], k, n => by simp [zipArgs, look]
 | x :: xs, k, n => by
  simp only [zipArgs, look]
  rw [look_zip xs (k + 1) n]
  by_cases h : k = n
  ·subst h; simp
  ·rw [if_neg h]
   by_cases h1 : n < k
   ·rw [if_pos (by omega), if_pos h1]
   ·rw [if_neg (by omega), if_neg h1]
    rw [show n - k = (n - (k + 1)) + 1 by omega]
    simp
def entry (args : List AV) (m : Mem) (n : Nat) : S := { t := zipArgs 0 args, m := m, n := n, d := [] }
def kill (m : Mem) (d : List (Nat × Nat)) : Mem := d.foldl (fun m q => m.set q.1 ⟨q.2 + 1, .row 0 []⟩) m
def leaves (P : Program) (rs : List ResultVar) (k : Nat) (Q : AV → Mem → Prop) : Exit → S → Prop
 | .normal, s | .ret, s => (∀ q ∈ s.d, s.m[q.1]? = some ⟨q.2, .dfr⟩) ∧ (s.d.map (·.1)).Nodup ∧ ∃ xs p, resL P { s with m := kill s.m s.d, d := [] } rs = some (xs, p) ∧ p ∧ (packRes xs).ok k ∧ (∀ e ∈ (kill s.m s.d).take k, e.kind.ok k) ∧ Q (packRes xs) ((kill s.m s.d).take k)
 | _, _ => False
theorem leave_marks {fn : Func} {C : Ending → World → Prop} : ∀ (d : List (Nat × Nat)) (s : S) (a : Act) (w : World) (ρ : Rho), s.d = d → Rel X s a w ρ → (∀ q ∈ d, s.m[q.1]? = some ⟨q.2, .dfr⟩) → (d.map (·.1)).Nodup →
  (∀ (w' : World) (ρ' : Rho), Rel X { s with m := kill s.m d, d := [] } { a with defers := [] } w' ρ' → Tr w ρ w' ρ' → LeavesIn Fence.wide 0 P fn a.tmps C [] .returning w') → LeavesInM Fence.wide 0 P fn a.tmps C a.defers .returning w
 | [], s, a, w, ρ, hd, hr, _, _, hfin => by
  have hdef : a.defers = [] := by
   have := hr.defers
   rw [hd] at this
   cases hdd : a.defers with
   | nil => rfl
   | cons x l => rw [hdd] at this; obtain ⟨id, ver, r, b, d', e1, _⟩ := this; cases e1
  rw [hdef]
  refine hfin w ρ ?_ (Tr.refl w ρ)
  have e1 : { s with m := kill s.m [], d := [] } = s := by cases s; simp only at hd; subst hd; rfl
  have e2 : ({ a with defers := [] } : Act) = a := by cases a; simp only at hdef; subst hdef; rfl
  rw [e1, e2]; exact hr
 | (id, ver) :: d, s, a, w, ρ, hd, hr, hm, hnd, hfin => by
  have hdd := hr.defers
  rw [hd] at hdd
  cases hda : a.defers with
  | nil => rw [hda] at hdd; cases hdd
  | cons x l =>
   rw [hda] at hdd
   obtain ⟨id', ver', r, b, d', e1, h1, h2, h3, h4⟩ := hdd
   cases e1
   have hmi := hm (id, ver) (by simp)
   simp only at hmi
   obtain ⟨q0, b0, q1, q2⟩ := hr.inv.at_ id r _ h1 hmi
   simp only at q0
   obtain ⟨hb, hx⟩ := h3 q0.symm
   rw [hb] at q1; cases q1
   refine ⟨by simp, .inl ⟨b, w.putObj b (.deferred none), by rw [hx], run_takeDeferred q2, ?_⟩⟩
   have hlt : b < w.heap.size := (hr.inv.new id r b h1 hb).1
   obtain ⟨t1, t2⟩ := hr.inv.renew h1 (r' := ⟨r.ver + 1, none, 0, 0, 0⟩) (w' := w.putObj b (.deferred none)) (k := .row 0 []) rfl rfl rfl (by simp) rfl (fun b2 _ hb2 => World.putObj_heap_other (fun e => hb2 (by rw [e]; exact hb))) (fun b2 h => by cases h) (fun ρ' _ _ => ⟨rfl, fun _ => rfl, fun b2 h => by cases h⟩)
   rw [q0] at t1 t2
   have hr2 := hr.step t1 t2
   have hr3 : Rel X { s with m := s.m.set id ⟨ver + 1, .row 0 []⟩, d := d } { a with defers := l } (w.putObj b (.deferred none)) (ρ.set id ⟨ver + 1, none, 0, 0, 0⟩) :=
    ⟨hr2.tmps, hr2.size, hr2.inv, marksOf.kp t1.vers h4⟩
   refine leave_marks d { s with m := s.m.set id ⟨ver + 1, .row 0 []⟩, d := d } { a with defers := l } _ _ rfl hr3 (fun q hq => ?_) (by simp at hnd ⊢; exact hnd.2) (fun w' ρ' h5 h6 => hfin w' ρ' ?_ (t1.trans h6))
   ·have hne : q.1 ≠ id := by
     simp only [List.map_cons, List.nodup_cons, List.mem_map] at hnd
     exact fun e => hnd.1 ⟨q, hq, e⟩
    simp only
    rw [List.getElem?_set_ne (Ne.symm hne)]
    exact hm q (by simp [hq])
   ·exact h5
theorem Spec.of_body {f : FuncId} {fn : Func} {c : Code} {args : List AV} {m : Mem} {Q : AV → Mem → Prop} (hf : P.funcs[f]? = some fn) (hb : fn.body = some c) (hn : args.length ≤ fn.ntmps) (k : Nat) (hk : m.length ≤ k)
  (h : Wp P none c (leaves P fn.results.toList k Q) (entry args m fn.ntmps)) : Spec P f args m Q := by
 intro X w ρ vs hi hr
 refine (callsIn_wide (n := 0)).1 (callsIn_of_wp_marks (F := Fence.wide) hf hb trivial ?_ rfl)
 have hlen := hr.len
 have hrel : Rel X (entry args m fn.ntmps) { tmps := vs.toArray ++ Array.replicate (fn.ntmps - vs.toArray.size) undef, defers := [] } w ρ := by
  refine ⟨fun n => ?_, by simp [entry]; omega, hi, rfl⟩
  simp only [entry]
  rw [look_zip]
  simp only [Nat.not_lt_zero, if_false, Nat.sub_zero]
  by_cases hlt : n < args.length
  ·obtain ⟨v, h1, h2⟩ := hr.nth (List.getElem?_eq_getElem hlt)
   have e1 : args.getD n .any = args[n] := by simp [hlt]
   have e2 : (vs.toArray ++ Array.replicate (fn.ntmps - vs.toArray.size) undef).getD n undef = v := by
    have hv : n < vs.length := by omega
    have : vs[n] = v := by rw [List.getElem?_eq_getElem hv] at h1; exact Option.some.inj h1
    simp [Array.getElem?_append, hv, this]
   rw [e1, e2]; exact h2
  ·have : args.getD n .any = .any := by simp [hlt]
   rw [this]; trivial
 refine Go.wpIn_mono (h X _ w ρ hrel) ?_
 rintro e a' w' ⟨s', ρ', q, k1, k2⟩
 have fin : leaves P fn.results.toList k Q .ret s' → LeavesInM Fence.wide 0 P fn a'.tmps (fun e w' => ∃ v x m' ρ', e = .returned v ∧ Q x m' ∧ R X w' ρ' x v ∧ Inv X w' ρ' m' ∧ Tr w ρ w' ρ') a'.defers .returning w' := by
  rintro ⟨hd, hnd, xs, p, h1, h2, h3, h4, h5⟩
  refine leave_marks s'.d s' a' w' ρ' rfl k1 hd hnd fun w2 ρ2 k3 k4 => ?_
  obtain ⟨v, h6, h7⟩ := results_run k3 h1 h2
  exact ⟨v, h6, v, packRes xs, (kill s'.m s'.d).take k, ρ2.take k, rfl, h5, (Rp.take k _ h3).1 v h7, k3.inv.take k h4, (k2.trans k4).take (by rw [hi.len]; exact hk)⟩
 cases e with
 | normal => exact fin q
 | ret => exact fin q
 | exit id => exact q.elim
 | goto l => exact q.elim
 | panic ch => exact q.elim
 | outgrown => exact q.elim
end Go.Vg
namespace Go.Vg
open Go.RowKit
variable {P : Program} {X : Nat → Prop} {w : World} {ρ : Rho}
def fnOf : AV → Option (FuncId × List AV)
 | .val (.func (.func f) ⟨[]⟩ ⟨[]⟩) => some (f, [])
 | .clo f caps => some (f, caps)
 | _ => none
def Enters (P : Program) (f : FuncId) : Prop := ∀ (args : Array Value) (w : World), (callFunc f args).run P w = .ok (.enter f args) w
theorem Enters.of {f : FuncId} {fn : Func} (hf : P.funcs[f]? = some fn) (h1 : (fn.name == "runtime.NumGoroutine") = false) (h2 : fn.body.isNone = false) : Enters P f := by
 intro args w
 simp only [callFunc, Sem.run_bind, run_program, Result.andThen_ok, hf, h1, h2, Bool.false_eq_true, if_false, Sem.run_pure]
theorem fnOf_rel {x : AV} {v : Value} {f : FuncId} {caps : List AV} (h : fnOf x = some (f, caps)) (hr : R X w ρ x v) : ∃ vs : List Value, v = .func (.func f) #[] vs.toArray ∧ Rvals X w ρ caps vs := by
 unfold fnOf at h
 split at h <;> simp only [Option.some.injEq, Prod.mk.injEq, reduceCtorEq] at h
 ·obtain ⟨rfl, rfl⟩ := h
  exact ⟨[], hr, rfl⟩
 ·obtain ⟨rfl, rfl⟩ := h
  exact hr
theorem Rvals.append : ∀ {xs ys : List AV} {vs us : List Value}, Rvals X w ρ xs vs → Rvals X w ρ ys us → Rvals X w ρ (xs ++ ys) (vs ++ us)
 | [], _, _, _, h, h' => by cases h; exact h'
 | x :: xs, ys, _, us, ⟨v, vs', rfl, h2, h3⟩, h' => ⟨v, vs' ++ us, rfl, h2, Rvals.append h3 h'⟩
theorem run_call {o : Oper} {fo : Operand} {args : Array Operand} {tys : Array TypeId} (ho : o.op = .call ⟨.value fo, args, tys⟩) {a : Act} {f : FuncId} {cs : List Value} (hf : a.eval fo = .func (.func f) #[] cs.toArray) (he : Enters P f) :
  (execOp a.eval o).run P w = .ok (.enter f (args.toList.map a.eval ++ cs).toArray) w := by
 have e : (args.map a.eval ++ cs.toArray) = (args.toList.map a.eval ++ cs).toArray := by
  apply Array.ext'; simp
 unfold execOp
 rw [ho]
 simp only [resolve, hf, Deferred.ofValue, Sem.run_bind, Sem.run_pure, Result.andThen_ok, invoke]
 rw [← e, Array.empty_append]
 exact he _ w
mutual
def AV.plain : AV → Prop
 | .val _ => True
 | .any => True
 | .emp => True
 | .agg xs => plainL xs
 | .tup xs => plainL xs
 | .opt _ x => x.plain
 | _ => False
def plainL : List AV → Prop
 | [] => True
 | x :: l => x.plain ∧ plainL l
end
mutual
theorem R.plain {X X' : Nat → Prop} {ρ ρ' : Rho} {w : World} : ∀ (x : AV), x.plain → ∀ v, R X w ρ x v → R X' w ρ' x v
 | .val _, _, _, h => h
 | .any, _, _, h => h
 | .emp, _, _, h => h
 | .agg xs, hp, _, ⟨vs, h1, h2⟩ => ⟨vs, h1, Rvals.plain xs hp vs h2⟩
 | .tup xs, hp, _, ⟨vs, h1, h2⟩ => ⟨vs, h1, Rvals.plain xs hp vs h2⟩
 | .opt g x, hp, v, h => ⟨fun e => R.plain x hp v (h.1 e), h.2⟩
theorem Rvals.plain {X X' : Nat → Prop} {ρ ρ' : Rho} {w : World} : ∀ (xs : List AV), plainL xs → ∀ vs, Rvals X w ρ xs vs → Rvals X' w ρ' xs vs
 | [], _, _, h => h
 | x :: xs, hp, _, ⟨v, vs', h1, h2, h3⟩ => ⟨v, vs', h1, R.plain x hp.1 v h2, Rvals.plain xs hp.2 vs' h3⟩
end
def owned (X : Nat → Prop) (ρ : Rho) (b : Nat) : Prop := X b ∨ ∃ r ∈ ρ, r.blk = some b
theorem free_owned {b : Nat} : Free (owned X ρ) [] b ↔ Free X ρ b := by
 unfold Free owned
 constructor
 ·rintro ⟨h1, _⟩
  exact ⟨fun h => h1 (.inl h), fun r hr e => h1 (.inr ⟨r, hr, e⟩)⟩
 ·rintro ⟨h1, h2⟩
  exact ⟨fun h => h.elim h1 fun ⟨r, hr, e⟩ => h2 r hr e, fun r hr => by cases hr⟩
mutual
theorem Rp.eyes {X X' : Nat → Prop} {ρ ρ' : Rho} {w : World} (hf : ∀ b, Free X ρ b → Free X' ρ' b) : ∀ (x : AV), x.ok 0 → (∀ v, R X w ρ x v → R X' w ρ' x v) ∧ (∀ sz b o, Re X w ρ x sz b o → Re X' w ρ' x sz b o)
 | .val _, _ => ⟨fun _ h => h, fun _ _ _ h => h⟩
 | .any, _ => ⟨fun _ h => h, fun _ _ _ h => h⟩
 | .lst sz l, hk => by
  have key : ∀ v, R X w ρ (.lst sz l) v → R X' w ρ' (.lst sz l) v := by
   rintro v ⟨A, c, h1, h2, h3, h4⟩
   refine ⟨A, c, h1, h2, h3, fun hl => ?_⟩
   obtain ⟨b, o, hA, hfr, hs, hr⟩ := h4 hl
   exact ⟨b, o, hA, hf b hfr, hs, Rrow.eyes hf l hk sz b o hr⟩
  exact ⟨key, fun _ _ _ h => OneAt.mono (fun _ => rfl) h key⟩
 | .osl id _ _ _, hk => absurd hk (Nat.not_lt_zero id)
 | .emp, _ => ⟨fun _ h => h, fun _ _ _ h => h⟩
 | .ref xs j, hk => by
  have key : ∀ v, R X w ρ (.ref xs j) v → R X' w ρ' (.ref xs j) v := by
   rintro v ⟨b, o, h1, hj, hfr, hr⟩
   exact ⟨b, o, h1, hj, hf b hfr, Rcells.eyes hf xs hk b o hr⟩
  exact ⟨key, fun _ _ _ h => OneAt.mono (fun _ => rfl) h key⟩
 | .optr id _ _ _, hk => absurd hk (Nat.not_lt_zero id)
 | .agg xs, hk => ⟨fun _ ⟨vs, h1, h2⟩ => ⟨vs, h1, Rvals.eyes hf xs hk vs h2⟩, fun _ b o h => ⟨h.1, Rcells.eyes hf xs hk b o h.2⟩⟩
 | .tup xs, hk => ⟨fun _ ⟨vs, h1, h2⟩ => ⟨vs, h1, Rvals.eyes hf xs hk vs h2⟩, fun _ _ _ h => h⟩
 | .clo f caps, hk => by
  have key : ∀ v, R X w ρ (.clo f caps) v → R X' w ρ' (.clo f caps) v := by
   rintro v ⟨vs, h1, h2⟩
   exact ⟨vs, h1, Rvals.eyes hf caps hk vs h2⟩
  exact ⟨key, fun _ _ _ h => OneAt.mono (fun _ => rfl) h key⟩
 | .bnd f xs, hk => by
  have key : ∀ v, R X w ρ (.bnd f xs) v → R X' w ρ' (.bnd f xs) v := by
   rintro v ⟨vs, h1, h2⟩
   exact ⟨vs, h1, Rvals.eyes hf xs hk vs h2⟩
  exact ⟨key, fun _ _ _ h => OneAt.mono (fun _ => rfl) h key⟩
 | .opt g x, hk => ⟨fun v h => ⟨fun e => (Rp.eyes hf x hk).1 v (h.1 e), h.2⟩, fun _ _ _ h => h⟩
 | .yld id _, hk => absurd hk (Nat.not_lt_zero id)
 | .omap id _, hk => absurd hk (Nat.not_lt_zero id)
theorem Rvals.eyes {X X' : Nat → Prop} {ρ ρ' : Rho} {w : World} (hf : ∀ b, Free X ρ b → Free X' ρ' b) : ∀ (xs : List AV), okL 0 xs → ∀ (vs : List Value), Rvals X w ρ xs vs → Rvals X' w ρ' xs vs
 | [], _, _, h => h
 | x :: xs, hk, _, ⟨v, vs', h1, h2, h3⟩ => ⟨v, vs', h1, (Rp.eyes hf x hk.1).1 v h2, Rvals.eyes hf xs hk.2 vs' h3⟩
theorem Rcells.eyes {X X' : Nat → Prop} {ρ ρ' : Rho} {w : World} (hf : ∀ b, Free X ρ b → Free X' ρ' b) : ∀ (xs : List AV), okL 0 xs → ∀ (b o : Nat), Rcells X w ρ xs b o → Rcells X' w ρ' xs b o
 | [], _, _, _, _ => trivial
 | x :: xs, hk, b, o, ⟨⟨v, hv, h1, hx⟩, h2⟩ => ⟨⟨v, hv, h1, (Rp.eyes hf x hk.1).1 v hx⟩, Rcells.eyes hf xs hk.2 b (o + 1) h2⟩
theorem Rrow.eyes {X X' : Nat → Prop} {ρ ρ' : Rho} {w : World} (hf : ∀ b, Free X ρ b → Free X' ρ' b) : ∀ (l : List AV), okL 0 l → ∀ (sz b o : Nat), Rrow X w ρ l sz b o → Rrow X' w ρ' l sz b o
 | [], _, _, _, _, _ => trivial
 | x :: l, hk, sz, b, o, ⟨h1, h2⟩ => ⟨(Rp.eyes hf x hk.1).2 sz b o h1, Rrow.eyes hf l hk.2 sz b (o + sz) h2⟩
end
def view1 (m : Mem) : AV → AV
 | .osl id ver off len =>
  match m[id]? with
  | some ⟨v, .row sz l⟩ => if v = ver ∧ off + len ≤ l.length ∧ 0 < sz then .lst sz ((l.drop off).take len) else .any
  | _ => .any
 | .emp => .lst 1 []
 | x => x
def view2 (m : Mem) : AV → AV
 | .optr id ver i j =>
  match m[id]? with
  | some ⟨v, .row _ l⟩ => if v = ver ∧ i < l.length ∧ j < (l.getD i .any).cells.length then .ref ((l.getD i .any).cells.map (view1 m)) j else .any
  | _ => .any
 | x => view1 m x
def view (m : Mem) : AV → AV
 | .agg xs => .agg (xs.map (view1 m))
 | .clo f caps => .clo f (caps.map (view2 m))
 | x => view2 m x
theorem view1_rel {m : Mem} (hi : Inv X w ρ m) {x : AV} {v : Value} (h : R X w ρ x v) (hk : (view1 m x).ok 0) : R (fun _ => False) w [] (view1 m x) v := by
 have triv : ∀ b, Free X ρ b → Free (fun _ => False) [] b := fun b _ => ⟨fun h => h, fun r hr => by cases hr⟩
 cases x
 case osl id ver off len =>
  cases hm : m[id]? with
  | none => simp only [view1, hm]; trivial
  | some e =>
   obtain ⟨v', kd⟩ := e
   cases kd with
   | dfr => simp only [view1, hm]; trivial
   | lrec => simp only [view1, hm]; trivial
   | mp => simp only [view1, hm]; trivial
   | ext => simp only [view1, hm]; trivial
   | row sz l =>
    simp only [view1, hm] at hk ⊢
    split at hk
    ·rename_i hc
     rw [if_pos hc]
     obtain ⟨rfl, hlen, hsz⟩ := hc
     obtain ⟨r, hr, hv, hrz, hnone, hblk⟩ := hi.row hm
     obtain ⟨A, c, r', rfl, hr', hle, hat⟩ := h
     rw [hr] at hr'; cases hr'
     obtain ⟨hl, hc, hpos⟩ := hat hv.symm
     have hll : ((l.drop off).take len).length = len := by simp; omega
     refine ⟨A, c, by rw [hll], by omega, hc, fun hne => ?_⟩
     have h0 : 0 < len := by
      rcases Nat.eq_zero_or_pos len with e | e
      ·subst e; simp at hne
      ·exact e
     obtain ⟨b, hb, rfl, hfit⟩ := hpos (by omega)
     obtain ⟨_, _, hrow⟩ := hblk b hb
     refine ⟨b, r.base + off * r.sz, rfl, ⟨fun h => h, fun r hr => by cases hr⟩, hsz, ?_⟩
     rw [hrz]
     exact Rrow.eyes triv _ hk sz b _ ((hrow.drop off).take len)
    ·rename_i hc; rw [if_neg hc]; trivial
 case emp =>
  obtain ⟨A, rfl⟩ := h
  exact ⟨A, 0, rfl, Nat.le_refl _, Nat.zero_le _, fun h => absurd rfl h⟩
 all_goals exact (Rp.eyes triv _ hk).1 v h
theorem view1_cells {m : Mem} (hi : Inv X w ρ m) {b : Nat} : ∀ {xs : List AV} {o : Nat}, Rcells X w ρ xs b o → okL 0 (xs.map (view1 m)) → Rcells (fun _ => False) w [] (xs.map (view1 m)) b o
 | [], _, _, _ => trivial
 | x :: xs, o, ⟨⟨v, h1, h2, h3⟩, h4⟩, hk => ⟨⟨v, h1, h2, view1_rel hi h3 hk.1⟩, view1_cells hi h4 hk.2⟩
theorem view2_rel {m : Mem} (hi : Inv X w ρ m) {x : AV} {v : Value} (h : R X w ρ x v) (hk : (view2 m x).ok 0) : R (fun _ => False) w [] (view2 m x) v := by
 cases x
 case optr id ver i j =>
  cases hm : m[id]? with
  | none => simp only [view2, hm]; trivial
  | some e =>
   obtain ⟨v', kd⟩ := e
   cases kd with
   | dfr => simp only [view2, hm]; trivial
   | lrec => simp only [view2, hm]; trivial
   | mp => simp only [view2, hm]; trivial
   | ext => simp only [view2, hm]; trivial
   | row sz l =>
    simp only [view2, hm] at hk ⊢
    split at hk
    ·rename_i hc
     rw [if_pos hc]
     obtain ⟨rfl, hlen, hj⟩ := hc
     obtain ⟨r, hr, hv, hrz, hnone, hblk⟩ := hi.row hm
     obtain ⟨A, r', rfl, hr', hle, hat⟩ := h
     rw [hr] at hr'; cases hr'
     obtain ⟨b, hb, rfl⟩ := hat hv.symm
     obtain ⟨_, _, hrow⟩ := hblk b hb
     have hg : l[i]? = some (l.getD i .any) := by simp [hlen]
     obtain ⟨c1, c2⟩ := (hrow.nth hg).cells
     refine ⟨b, r.base + i * r.sz, rfl, by simpa using hj, ⟨fun h => h, fun r hr => by cases hr⟩, ?_⟩
     rw [hrz]
     exact view1_cells hi c2 hk
    ·rename_i hc; rw [if_neg hc]; trivial
 all_goals exact view1_rel hi h hk
theorem view_rel {m : Mem} (hi : Inv X w ρ m) {x : AV} {v : Value} (h : R X w ρ x v) (hk : (view m x).ok 0) : R (fun _ => False) w [] (view m x) v := by
 cases x
 case agg xs =>
  obtain ⟨vs, rfl, hvs⟩ := h
  refine ⟨vs, rfl, ?_⟩
  simp only [view, AV.ok] at hk
  revert vs
  induction xs with
  | nil => exact fun vs hvs => hvs
  | cons x xs ih =>
   rintro vs ⟨v, vs', rfl, h1, h2⟩
   exact ⟨v, vs', rfl, view1_rel hi h1 hk.1, ih hk.2 vs' h2⟩
 case clo f xs =>
  obtain ⟨vs, rfl, hvs⟩ := h
  refine ⟨vs, rfl, ?_⟩
  simp only [view, AV.ok] at hk
  revert vs
  induction xs with
  | nil => exact fun vs hvs => hvs
  | cons x xs ih =>
   rintro vs ⟨v, vs', rfl, h1, h2⟩
   exact ⟨v, vs', rfl, view2_rel hi h1 hk.1, ih hk.2 vs' h2⟩
 all_goals exact view2_rel hi h hk
theorem view_rels {m : Mem} (hi : Inv X w ρ m) : ∀ {xs : List AV} {vs : List Value}, Rvals X w ρ xs vs → okL 0 (xs.map (view m)) → Rvals (fun _ => False) w [] (xs.map (view m)) vs
 | [], _, h, _ => h
 | x :: xs, _, ⟨v, vs', rfl, h1, h2⟩, hk => ⟨v, vs', rfl, view_rel hi h1 hk.1, view_rels hi h2 hk.2⟩
theorem Tr.keep {w w' : World} {ρ0 : Rho} (h : Tr w [] w' ρ0) (ρ : Rho) (hn : ∀ r ∈ ρ, ∀ b, r.blk = some b → b < w.heap.size) : Tr w ρ w' ρ :=
 ⟨h.os, h.tape, h.output, h.size, fun i r hr => ⟨r, hr, Nat.le_refl _, fun _ => rfl⟩, fun b hb hlt => ⟨hb, (h.block b (fun r hr => by cases hr) hlt).2⟩⟩
theorem Inv.keep {w w' : World} {m : Mem} {ρ0 : Rho} (hi : Inv X w ρ m) (h : Tr w [] w' ρ0) : Inv X w' ρ m := by
 have hb : ∀ b, b < w.heap.size → w'.heap[b]? = w.heap[b]? := fun b hlt => (h.block b (fun r hr => by cases hr) hlt).2
 have hk : Kp X w ρ w' ρ := ⟨fun _ r h => ⟨r, h, Nat.le_refl _, fun _ => rfl⟩, fun b hf hlt => ⟨hf, hb b hlt⟩⟩
 refine ⟨hi.len, fun i r e hr he => ?_, hi.apart, fun i r b hr hbl => let ⟨h1, h2⟩ := hi.new i r b hr hbl; ⟨Nat.lt_of_lt_of_le h1 h.size, h2⟩, fun b hx => Nat.lt_of_lt_of_le (hi.out b hx) h.size, hi.gd.mono hb⟩
 obtain ⟨h1, h2⟩ := hi.at_ i r e hr he
 exact ⟨h1, h2.mono hk fun b hbl => hb b (hi.new i r b hr hbl).1⟩
def callOp (fo : Operand) (args : List Operand) (tys : Array TypeId) : Op := .call ⟨.value fo, args.toArray, tys⟩
theorem onames_call {fo : Operand} {args : List Operand} {tys : Array TypeId} {t : List (Nat × AV)} {a : Act} (h : ∀ n ∈ onames (callOp fo args tys), R X w ρ (look t n) (a.tmps.getD n undef)) :
  R X w ρ (evo t fo) (a.eval fo) ∧ ∀ x ∈ args, R X w ρ (evo t x) (a.eval x) := by
 have := evo_of (op := callOp fo args tys) h
 refine ⟨this fo (by simp [callOp, Op.operands, Call.operands]), fun x hx => this x (by simp [callOp, Op.operands, Call.operands]; exact .inr hx)⟩
def optG (g : Option Bool) (x : AV) : AV :=
 match g with
 | none => x
 | some b => .opt b x
def gvalO (gds : List (Option Nat)) (t : List (Nat × AV)) (g : Option (Nat × Bool)) : Option (Option Bool) :=
 match g with
 | none => some none
 | some g => (gval gds t g).map some
def evoG (t : List (Nat × AV)) (g : Option Bool) (x : Operand) : AV :=
 match g with
 | none => evo t x
 | some _ => (unopt (evo t x)).2
def gOk (t : List (Nat × AV)) (g : Option Bool) (xs : List Operand) : Prop :=
 match g with
 | none => True
 | some b => b = true → ∀ x ∈ xs, (unopt (evo t x)).1 = true
theorem evoG_rel {t : List (Nat × AV)} {a : Act} {g : Option Bool} {xs : List Operand} (hg : gOk t g xs) (hb : g = none ∨ g = some true) (h : ∀ x ∈ xs, R X w ρ (evo t x) (a.eval x)) : ∀ x ∈ xs, R X w ρ (evoG t g x) (a.eval x) := by
 intro x hx
 rcases hb with rfl | rfl
 ·exact h x hx
 ·exact unopt_rel (h x hx) (hg rfl x hx)
theorem Pure.yield {gds : List (Option Nat)} {t : List (Nat × AV)} {m : Mem} {o : Oper} {fo : Operand} {args : List Operand} {tys : Array TypeId} (ho : o.op = callOp fo args tys) {g : Option Bool} (hg : gvalO gds t o.guard = some g)
  (hok : gOk t g (fo :: args)) {f : FuncId} {caps : List AV} (hf : fnOf (evoG t g fo) = some (f, caps)) (he : Enters P f) {vargs : List AV} {x : AV} (hc : (g = none ∨ g = some true) → Pure P f vargs x)
  (hv : (args.map (evoG t g) ++ caps).map (view m) = vargs) (hk : okL 0 vargs) (hp : x.plain) : Yield P gds t m o (optG g x) := by
 refine ⟨fun c e => (by rw [ho] at e; cases e), fun X w ρ a hi hr hn => ?_⟩
 have hcall : ∀ (hb : g = none ∨ g = some true), Gives P o a w fun v w' => R X w' ρ x v ∧ Inv X w' ρ m ∧ Tr w ρ w' ρ := by
  intro hb
  obtain ⟨h1, h2⟩ := onames_call (fo := fo) (args := args) (tys := tys) (t := t) (a := a) (X := X) (w := w) (ρ := ρ) (fun n hn => hr n (.inr (by rw [ho]; exact hn)))
  have h3 := evoG_rel hok hb (a := a) (X := X) (w := w) (ρ := ρ) (by intro y hy; cases hy with | head => exact h1 | tail _ hy => exact h2 y hy)
  obtain ⟨cs, hcs, hcr⟩ := fnOf_rel hf (h3 fo (by simp))
  have hrun := run_call (P := P) (w := w) ho hcs he
  have hargs : Rvals X w ρ (args.map (evoG t g) ++ caps) (args.map a.eval ++ cs) := (Rvals_map args fun y hy => h3 y (by simp [hy])).append hcr
  refine .inr ⟨f, _, hrun, ?_⟩
  have hcv := hc hb (fun _ => False) w [] (args.map a.eval ++ cs) (Inv.empty (fun _ h => h.elim) hi.gd.nil0) (by rw [← hv]; exact view_rels hi hargs (by rw [hv]; exact hk))
  refine hcv.mono ?_
  rintro e w' ⟨v, x', m', ρ', rfl, ⟨rfl, rfl⟩, k1, k2, k3⟩
  exact ⟨v, rfl, R.plain x' hp v k1, hi.keep k3, k3.keep ρ fun r hr' b hb' => by obtain ⟨i, hi', rfl⟩ := List.getElem_of_mem hr'; exact (hi.new i _ b (List.getElem?_eq_getElem hi') hb').1⟩
 cases hgd : o.guard with
 | none =>
  rw [hgd] at hg
  simp only [gvalO, Option.some.injEq] at hg
  subst hg
  exact ⟨fun _ => hcall (.inl rfl), fun hw => by simp [Region.wanted, hgd] at hw⟩
 | some gg =>
  rw [hgd] at hg
  simp only [gvalO, Option.map_eq_some_iff] at hg
  obtain ⟨b, hb, rfl⟩ := hg
  have hw := gval_wanted (a := a) hgd (fun n hn' => ⟨hr n (.inl hn'), hn n hn'⟩) hb
  rw [hw]
  refine ⟨fun hbt => ?_, fun hbf => ⟨fun e => (by rw [hbf] at e; cases e), fun _ => rfl⟩⟩
  subst hbt
  rcases hcall (.inr rfl) with ⟨v, w', q1, q2, q3, q4⟩ | ⟨f', args', q1, q2⟩
  ·exact .inl ⟨v, w', q1, ⟨fun _ => q2, fun e => (by cases e)⟩, q3, q4⟩
  ·exact .inr ⟨f', args', q1, q2.mono fun e w' ⟨v, e1, q2, q3, q4⟩ => ⟨v, e1, ⟨fun _ => q2, fun e => (by cases e)⟩, q3, q4⟩⟩
end Go.Vg
namespace Go.Vg
open Go.RowKit
variable {P : Program} {gds : List (Option Nat)} {o : Oper} {l : List Oper} {Q : S → Prop} {s : S}
def dstB (n : Nat) : Option Nat → Bool
 | some d => decide (d < n)
 | none => true
theorem dstB_ok {n : Nat} {d : Option Nat} (h : dstB n d = true) : dstOk n d := by
 cases d with
 | none => trivial
 | some d => simpa [dstB, dstOk] using h
def Run (P : Program) (gds : List (Option Nat)) (l : List Oper) (Q : S → Prop) (s : S) : Prop := gdsOk gds s.n → (∀ o ∈ l, dstOk s.n o.dst) → RunL P gds l Q s
theorem S.put_n (s : S) (d : Option Nat) (x : AV) : (s.put d x).n = s.n := by cases d <;> rfl
theorem Run.nil (h : Q s) : Run P gds [] Q s := fun _ _ => h
theorem Run.yield {x : AV} (h : Yield P gds s.t s.m o x) (k : Run P gds l Q (s.put o.dst x)) : Run P gds (o :: l) Q s :=
 fun hg hd => h.eff hg (hd o (by simp)) (k (by rw [S.put_n]; exact hg) (fun o' ho' => by rw [S.put_n]; exact hd o' (by simp [ho'])))
theorem Run.stepP {x : AV} {p : Prop} (h : stepA P gds s.t s.m o = some (x, p)) (hp : p) (k : Run P gds l Q (s.put o.dst x)) : Run P gds (o :: l) Q s := Run.yield (stepA_yield h hp) k
theorem Wp.run {r : Option Nat} {Q : Exit → S → Prop} {s : S} {id : Nat} {ops : List Oper} {gds : List (Option Nat)} (hg : ops.map (·.dst) = gds) (hB : gds.all (dstB s.n) = true) (h : Run P gds ops (Q .normal) s) : Wp P r (.region id ops.toArray false) Q s := by
 have hgo : gdsOk gds s.n := fun d hd => dstB_ok (List.all_eq_true.1 hB d hd)
 refine Wp.region ?_
 rw [hg]
 exact h hgo fun o ho => hgo o.dst (by rw [← hg]; exact List.mem_map_of_mem ho)
def Abn (P : Program) (gds : List (Option Nat)) (l : List Oper) (s s1 : S) : Prop := (∀ o ∈ l, dstOk s.n o.dst) → Abs P gds l s s1
theorem Abn.nil : Abn P gds [] s s := fun _ => .nil
theorem Abn.yield {x : AV} {s1 : S} (h : Yield P gds s.t s.m o x) (k : Abn P gds l (s.put o.dst x) s1) : Abn P gds (o :: l) s s1 :=
 fun hd => .cons (hd o (by simp)) h (k fun o' ho' => by rw [S.put_n]; exact hd o' (by simp [ho']))
theorem Abn.stepP {x : AV} {p : Prop} {s1 : S} (h : stepA P gds s.t s.m o = some (x, p)) (hp : p) (k : Abn P gds l (s.put o.dst x) s1) : Abn P gds (o :: l) s s1 := Abn.yield (stepA_yield h hp) k
theorem Abs.n {s1 : S} {l : List Oper} {s : S} (h : Abs P gds l s s1) : s1.n = s.n := by
 induction h with
 | nil => rfl
 | cons _ _ _ ih => rw [ih, S.put_n]
theorem Wp.runD {r : Option Nat} {Q : Exit → S → Prop} {s s1 : S} {id : Nat} {ops hd tl : List Oper} {gds : List (Option Nat)} (n : Nat) (hm : P.follows .mixedOrders = true) (hg : ops.map (·.dst) = gds) (hB : gds.all (dstB s.n) = true) (hD : drawB gds ops n = true)
  (htk : ops.take n = hd) (hdr : ops.drop n = tl) (habs : Abn P gds hd s s1) (h : Run P gds tl (Q .normal) s1) : Wp P r (.region id ops.toArray true) Q s := by
 have hgo : gdsOk gds s.n := fun d hd => dstB_ok (List.all_eq_true.1 hB d hd)
 have hdo : ∀ o ∈ ops, dstOk s.n o.dst := fun o ho => hgo o.dst (by rw [← hg]; exact List.mem_map_of_mem ho)
 subst htk hdr hg
 have ha := habs fun o ho => hdo o (List.mem_of_mem_take ho)
 have hn := ha.n
 exact Wp.drawn n hm hD hgo ha (h (by rw [hn]; exact hgo) fun o ho => by rw [hn]; exact hdo o (List.mem_of_mem_drop ho))
theorem Run.pure {fo : Operand} {args : List Operand} {tys : Array TypeId} {dst : Option Nat} {type : TypeId} {pos : String} {after : Array Edge} {g : Option Bool} {guard : Option (Nat × Bool)} {f : FuncId} {caps vargs : List AV} {x : AV}
  (he : Enters P f) (hg : gvalO gds s.t guard = some g) (hf : fnOf (evoG s.t g fo) = some (f, caps)) (hv : (args.map (evoG s.t g) ++ caps).map (view s.m) = vargs) (hc : Pure P f vargs x)
  (hok : gOk s.t g (fo :: args)) (hk : okL 0 vargs) (hp : x.plain) (k : Run P gds l Q (s.put dst (optG g x))) : Run P gds (⟨dst, callOp fo args tys, type, pos, after, guard⟩ :: l) Q s :=
 Run.yield (o := ⟨dst, callOp fo args tys, type, pos, after, guard⟩) (Pure.yield rfl hg hok hf he (fun _ => hc) hv hk hp) k
theorem Abn.pure {fo : Operand} {args : List Operand} {tys : Array TypeId} {dst : Option Nat} {type : TypeId} {pos : String} {after : Array Edge} {g : Option Bool} {guard : Option (Nat × Bool)} {f : FuncId} {caps vargs : List AV} {x : AV} {s1 : S}
  (he : Enters P f) (hg : gvalO gds s.t guard = some g) (hf : fnOf (evoG s.t g fo) = some (f, caps)) (hv : (args.map (evoG s.t g) ++ caps).map (view s.m) = vargs) (hc : Pure P f vargs x)
  (hok : gOk s.t g (fo :: args)) (hk : okL 0 vargs) (hp : x.plain) (k : Abn P gds l (s.put dst (optG g x)) s1) : Abn P gds (⟨dst, callOp fo args tys, type, pos, after, guard⟩ :: l) s s1 :=
 Abn.yield (o := ⟨dst, callOp fo args tys, type, pos, after, guard⟩) (Pure.yield rfl hg hok hf he (fun _ => hc) hv hk hp) k
end Go.Vg
namespace Go.Vg
open Go.RowKit
variable {P : Program} {X : Nat → Prop} {w : World} {ρ : Rho}
def RowAt (w : World) (b : Nat) (arr : Array Value) : Prop := ∃ e fr, w.heap[b]? = some (.cells arr e fr) ∧ fr.2 ≤ fr.1 + 1 ∧ (fr.1 < fr.2 → arr.size ≤ fr.1)
theorem RowAt.cell {b : Nat} {arr : Array Value} (h : RowAt w b arr) (o : Nat) : w.cell? ⟨b, o, none⟩ = arr[o]? := by
 obtain ⟨e, fr, h1, _⟩ := h
 simp [World.cell?, h1]
theorem RowAt.frozen {b : Nat} {arr : Array Value} (h : RowAt w b arr) {o : Nat} (ho : o < arr.size) : w.frozen? ⟨b, o, none⟩ = false := by
 obtain ⟨e, ⟨lo, hi⟩, h1, h2, h3⟩ := h
 simp only [World.frozen?, h1]
 simp only at h2 h3
 by_cases h : lo ≤ o ∧ o < hi
 ·have := h3 (by omega); omega
 ·simp only [Bool.and_eq_false_iff, decide_eq_false_iff_not]
  omega
theorem RowAt.lt {b : Nat} {arr : Array Value} (h : RowAt w b arr) : b < w.heap.size := by
 obtain ⟨e, fr, h1, _⟩ := h
 exact (Array.getElem?_eq_some_iff.1 h1).1
structure Turns (w : World) (b : Nat) (w' : World) : Prop where
 os : w'.os = w.os
 tape : w'.tape = w.tape
 output : w'.output = w.output
 size : w'.heap.size = w.heap.size
 block : ∀ k, k ≠ b → w'.heap[k]? = w.heap[k]?
theorem Turns.refl (w : World) (b : Nat) : Turns w b w := ⟨rfl, rfl, rfl, rfl, fun _ _ => rfl⟩
theorem Turns.trans {w w1 w2 : World} {b : Nat} (h : Turns w b w1) (k : Turns w1 b w2) : Turns w b w2 :=
 ⟨k.os.trans h.os, k.tape.trans h.tape, k.output.trans h.output, k.size.trans h.size, fun i hi => (k.block i hi).trans (h.block i hi)⟩
theorem run_store_row {b o : Nat} {arr : Array Value} {v : Value} (h : RowAt w b arr) (ho : o < arr.size) (h1 : v.oneCell' = true) :
  ∃ w', (store ⟨b, o, none⟩ v).run P w = .ok () w' ∧ RowAt w' b (arr.setIfInBounds o v) ∧ Turns w b w' := by
 refine ⟨w.setCell ⟨b, o, none⟩ v, ?_, ?_, ?_⟩
 ·rw [run_store P w _ v .plain h1, h.cell o]
  simp [ho, h.frozen ho]
 ·obtain ⟨e, fr, q1, q2, q3⟩ := h
  refine ⟨e, fr, ?_, q2, by simpa using q3⟩
  have hlt := (Array.getElem?_eq_some_iff.1 q1)
  simp only [World.setCell]
  rw [Array.getElem?_modify]
  simp [q1]
 ·refine ⟨rfl, rfl, rfl, by simp [World.setCell], fun k hk => ?_⟩
  simp only [World.setCell]
  rw [Array.getElem?_modify]
  simp [Ne.symm hk]
theorem run_storeCells_row : ∀ (vs : List Value) {w : World} {b o i : Nat} {arr : Array Value}, RowAt w b arr → o + i + vs.length ≤ arr.size → (∀ v ∈ vs, v.oneCell' = true) →
  ∃ w' arr', (storeCells ⟨b, o, none⟩ vs i).run P w = .ok () w' ∧ RowAt w' b arr' ∧ Turns w b w' ∧ arr'.size = arr.size ∧ ∀ k, arr'[k]? = if o + i ≤ k ∧ k < o + i + vs.length then vs[k - (o + i)]? else arr[k]?
 | [], w, b, o, i, arr, h, _, _ => ⟨w, arr, rfl, h, Turns.refl w b, rfl, fun k => by rw [if_neg (by simp only [List.length_nil]; omega)]⟩
 | v :: vs, w, b, o, i, arr, h, hl, h1 => by
  simp only [List.length_cons] at hl
  obtain ⟨w1, q1, q2, q3⟩ := run_store_row (P := P) (o := o + i) h (by omega) (h1 v (by simp))
  obtain ⟨w2, arr2, r1, r2, r3, r4, r5⟩ := run_storeCells_row vs (o := o) (i := i + 1) q2 (by simp; omega) (fun u hu => h1 u (by simp [hu]))
  refine ⟨w2, arr2, ?_, r2, q3.trans r3, by rw [r4]; simp, fun k => ?_⟩
  ·unfold storeCells
   rw [Addr.add_none]
   simp only [Sem.run_bind, q1, Result.andThen_ok]
   exact r1
  ·rw [r5 k]
   by_cases hk : k = o + i
   ·subst hk
    rw [if_neg (by omega), if_pos ⟨Nat.le_refl _, by simp⟩]
    have hlt : o + i < arr.size := by omega
    rw [Nat.sub_self]; simp [hlt]
   ·by_cases hk2 : o + (i + 1) ≤ k ∧ k < o + (i + 1) + vs.length
    ·rw [if_pos hk2, if_pos ⟨by omega, by simp; omega⟩]
     rw [show k - (o + i) = (k - (o + (i + 1))) + 1 by omega]
     simp
    ·rw [if_neg hk2, if_neg (by simp only [List.length_cons]; omega)]
     rw [Array.getElem?_setIfInBounds_ne (by omega)]
theorem Tr.turn {w w' : World} {ρ : Rho} {id : Nat} {r : RE} (hr : ρ[id]? = some r) {b : Nat} (hb : r.blk = some b) (h : Turns w b w') : Tr w ρ w' ρ :=
 ⟨h.os, h.tape, h.output, by rw [h.size]; exact Nat.le_refl _, fun _ r h => ⟨r, h, Nat.le_refl _, fun _ => rfl⟩,
  fun k hk _ => ⟨hk, h.block k fun e => hk r (List.mem_of_getElem? hr) (by rw [hb, e])⟩⟩
theorem Rrow_of_cells {b : Nat} : ∀ {l : List AV} {sz o : Nat}, (∀ (i : Nat) (x : AV), l[i]? = some x → Re X w ρ x sz b (o + i * sz)) → Rrow X w ρ l sz b o
 | [], _, _, _ => trivial
 | x :: l, sz, o, h => ⟨by simpa using h 0 x (by simp), Rrow_of_cells fun i y hi => by
   have := h (i + 1) y (by simpa using hi)
   rw [show o + sz + i * sz = o + (i + 1) * sz by rw [Nat.add_mul]; omega]
   exact this⟩
theorem Rcells_of {b : Nat} : ∀ {xs : List AV} {o : Nat}, (∀ (j : Nat) (x : AV), xs[j]? = some x → ∃ v, w.cell? ⟨b, o + j, none⟩ = some v ∧ v.oneCell' = true ∧ R X w ρ x v) → Rcells X w ρ xs b o
 | [], _, _ => trivial
 | x :: xs, o, h => ⟨by simpa using h 0 x (by simp), Rcells_of fun j y hj => by
   have := h (j + 1) y (by simpa using hj)
   rw [show o + 1 + j = o + (j + 1) by omega]
   exact this⟩
theorem Re_of_cells {x : AV} {sz b o : Nat} (hf : x.flat) (hl : x.cells.length = sz) (h : Rcells X w ρ x.cells b o) : Re X w ρ x sz b o := by
 cases x <;> simp only [AV.flat, AV.one] at hf <;> (try exact hf.elim)
 case agg xs => exact ⟨hl, h⟩
 all_goals
  obtain ⟨⟨v, h1, h2, h3⟩, _⟩ := h
  exact ⟨hl.symm, v, h1, h2, h3⟩
theorem Inv.write {m : Mem} {w w' : World} (hi : Inv X w ρ m) {id ver sz b : Nat} {r : RE} (hr : ρ[id]? = some r) (hb : r.blk = some b) (hv : r.ver = ver) (ht : Turns w b w') {l' : List AV} (hsz : r.sz = sz) {arr' : Array Value} (hrow : RowAt w' b arr') (hs : arr'.size = r.size)
  (hfit : r.base + l'.length * sz ≤ r.size) (hR : Rrow X w' ρ l' sz b r.base) : Inv X w' ρ (m.set id ⟨ver, .row sz l'⟩) := by
 have htr := Tr.turn hr hb ht
 refine ⟨by simp [hi.len], fun i r' e hr' he => ?_, hi.apart, fun i r' b' hr' hb' => by rw [ht.size]; exact hi.new i r' b' hr' hb', fun b' hb' => by rw [ht.size]; exact hi.out b' hb', hi.gd.tr htr⟩
 by_cases hid : i = id
 ·subst hid
  rw [hr] at hr'; cases hr'
  have hlt : i < m.length := by rw [← hi.len]; exact (List.getElem?_eq_some_iff.1 hr).1
  rw [List.getElem?_set_self hlt] at he
  cases he
  refine ⟨hv, hsz, fun hn => (by rw [hb] at hn; cases hn), fun b' hb' => ?_⟩
  rw [hb] at hb'; cases hb'
  obtain ⟨e, fr, q1, q2, q3⟩ := hrow
  exact ⟨⟨arr', e, fr, q1, hs, q2, q3⟩, hfit, hR⟩
 ·rw [List.getElem?_set_ne (Ne.symm hid)] at he
  obtain ⟨h1, h2⟩ := hi.at_ i r' e hr' he
  exact ⟨h1, h2.mono htr.kp fun b' hb' => ht.block b' fun e => hid (hi.apart i id r' r b hr' hr (by rw [hb', e]) hb)⟩
theorem Inv.alloc {m : Mem} (hi : Inv X w ρ m) {w' : World} {o : Obj} (hh : w'.heap = w.heap.push o) (hos : w'.os = w.os) (htp : w'.tape = w.tape) (hou : w'.output = w.output) {r : RE} (hr0 : r.ver = 0) (hb : r.blk = some w.heap.size) {k : Kind}
  (hk : ∀ ρ', Tr w ρ w' ρ' → ρ' = ρ ++ [r] → KindAt X w' ρ' r k) : Tr w ρ w' (ρ ++ [r]) ∧ Inv X w' (ρ ++ [r]) (m ++ [⟨0, k⟩]) := by
 have hold : ∀ b, b < w.heap.size → w'.heap[b]? = w.heap[b]? := fun b hlt => by rw [hh, Array.getElem?_push_lt hlt, Array.getElem?_eq_getElem hlt]
 have hsz : w'.heap.size = w.heap.size + 1 := by rw [hh]; simp
 have htr : Tr w ρ w' (ρ ++ [r]) := by
  refine ⟨hos, htp, hou, by omega, fun i r' hr' => ⟨r', ?_, Nat.le_refl _, fun _ => rfl⟩, fun b hbf hlt => ⟨fun r' hr' => ?_, hold b hlt⟩⟩
  ·rw [List.getElem?_append_left (List.getElem?_eq_some_iff.1 hr').1]; exact hr'
  ·rcases List.mem_append.1 hr' with h | h
   ·exact hbf r' h
   ·have : r' = r := by simpa using h
    subst this; rw [hb]; intro e; cases e; omega
 refine ⟨htr, by simp [hi.len], fun i r' e hr' he => ?_, fun i j r1 r2 b h1 h2 hb1 hb2 => ?_, fun i r' b hr' hb' => ?_, fun b hx => by have := hi.out b hx; omega, hi.gd.tr htr⟩
 ·by_cases hlt : i < ρ.length
  ·rw [List.getElem?_append_left hlt] at hr'
   rw [List.getElem?_append_left (by rw [← hi.len]; exact hlt)] at he
   obtain ⟨h1, h2⟩ := hi.at_ i r' e hr' he
   exact ⟨h1, h2.mono htr.kp fun b' hb' => hold b' (hi.new i r' b' hr' hb').1⟩
  ·have hi' : i = ρ.length := by
    have := (List.getElem?_eq_some_iff.1 hr').1
    simp at this; omega
   subst hi'
   rw [List.getElem?_append_right (Nat.le_refl _)] at hr'
   simp at hr'; subst hr'
   rw [List.getElem?_append_right (by rw [hi.len]; exact Nat.le_refl _)] at he
   rw [hi.len] at he; simp at he; subst he
   exact ⟨hr0, hk _ htr rfl⟩
 ·have get : ∀ (i : Nat) (r' : RE), (ρ ++ [r])[i]? = some r' → (i < ρ.length ∧ ρ[i]? = some r') ∨ (i = ρ.length ∧ r' = r) := by
   intro i r' h
   by_cases hlt : i < ρ.length
   ·rw [List.getElem?_append_left hlt] at h; exact .inl ⟨hlt, h⟩
   ·have hi' : i = ρ.length := by
     have := (List.getElem?_eq_some_iff.1 h).1
     simp at this; omega
    subst hi'
    rw [List.getElem?_append_right (Nat.le_refl _)] at h
    simp at h; exact .inr ⟨rfl, h.symm⟩
  rcases get i r1 h1 with ⟨_, g1⟩ | ⟨e1, rfl⟩ <;> rcases get j r2 h2 with ⟨_, g2⟩ | ⟨e2, rfl⟩
  ·exact hi.apart i j r1 r2 b g1 g2 hb1 hb2
  ·have := (hi.new i r1 b g1 hb1).1
   rw [hb] at hb2; cases hb2; omega
  ·have := (hi.new j r2 b g2 hb2).1
   rw [hb] at hb1; cases hb1; omega
  ·omega
 ·by_cases hlt : i < ρ.length
  ·rw [List.getElem?_append_left hlt] at hr'
   have := hi.new i r' b hr' hb'
   exact ⟨by omega, this.2⟩
  ·have hi' : i = ρ.length := by
    have := (List.getElem?_eq_some_iff.1 hr').1
    simp at this; omega
   subst hi'
   rw [List.getElem?_append_right (Nat.le_refl _)] at hr'
   simp at hr'; subst hr'
   rw [hb] at hb'; cases hb'
   exact ⟨by omega, fun hx => by have := hi.out _ hx; omega⟩
end Go.Vg
namespace Go.Vg
open Go.RowKit
variable {P : Program} {X : Nat → Prop} {w : World} {ρ : Rho}
def elB (P : Program) (e : TypeId) : Bool :=
 match P.info? e with
 | some i => match i.zero with
  | some z => z.cells.size == i.size && decide (0 < i.size)
  | none => false
 | none => false
theorem elB_some {e : TypeId} (h : elB P e = true) : ∃ i z, P.info? e = some i ∧ i.zero = some z ∧ z.cells.size = i.size ∧ 0 < i.size := by
 unfold elB at h
 split at h
 ·rename_i i hi
  split at h
  ·rename_i z hz
   simp only [Bool.and_eq_true, beq_iff_eq, decide_eq_true_eq] at h
   exact ⟨i, z, hi, hz, h.1, h.2⟩
  ·cases h
 ·cases h
theorem firstCells_run {A : Option Addr} {len c size n : Nat} {vs : List Value} (hl : vs.length = n * size) (h : vs ≠ [] → ∃ b o, A = some ⟨b, o, none⟩ ∧ ∀ j v, vs[j]? = some v → w.cell? ⟨b, o + j, none⟩ = some v) :
  (Builtin.firstCells size n (.slice A len c)).run P w = .ok vs.toArray w := by
 cases A with
 | none =>
  have : vs = [] := by
   cases vs with
   | nil => rfl
   | cons v vs => obtain ⟨b, o, e, _⟩ := h (by simp); cases e
  subst this; simp [Builtin.firstCells]
 | some a =>
  simp only [Builtin.firstCells]
  by_cases hv : vs = []
  ·subst hv
   have : n * size = 0 := by simpa using hl.symm
   rw [this]; rfl
  ·obtain ⟨b, o, e, hc⟩ := h hv
   cases e
   rw [← hl]
   exact run_loadCells_vals hc
theorem append_run {t u ty e e' : TypeId} (ht : P.underlying t = some (.slice e)) (hu : P.underlying u = some (.slice e')) {i : TypeInfo} {z : Value} (hi : P.info? e = some i) (hz : i.zero = some z) (hzs : z.cells.size = i.size)
  {A A' : Option Addr} {len c n c' : Nat} {olds news : List Value} (ho : olds.length = len * i.size) (hn : news.length = n * i.size)
  (hold : olds ≠ [] → ∃ b o, A = some ⟨b, o, none⟩ ∧ ∀ j v, olds[j]? = some v → w.cell? ⟨b, o + j, none⟩ = some v)
  (hnew : news ≠ [] → ∃ b o, A' = some ⟨b, o, none⟩ ∧ ∀ j v, news[j]? = some v → w.cell? ⟨b, o + j, none⟩ = some v)
  (hroom : (len + n) * i.bytes ≤ 140737488355328) (hmax : len + n ≤ maxLen) :
  (len + n ≤ c ∧ ∀ (w' : World), (match A with | some a => (storeCells (a.add (len * i.size)) news).run P w = .ok () w' | none => w' = w) →
    (Builtin.append_ #[t, u] ty #[.slice A len c, .slice A' n c']).run P w = .ok (.slice A (len + n) c) w') ∨
  (c < len + n ∧ ∃ cap w', (Builtin.append_ #[t, u] ty #[.slice A len c, .slice A' n c']).run P w = .ok (.slice (some ⟨w.heap.size, 0, none⟩) (len + n) cap) w' ∧ len + n ≤ cap ∧ cap ≤ maxLen ∧
    w'.os = w.os ∧ w'.tape = w.tape ∧ w'.output = w.output ∧ ∃ rest : Array Value, rest.size = (cap - (len + n)) * i.size ∧ w'.heap = w.heap.push (.cells ((olds ++ news).toArray ++ rest) e)) := by
 have hf := fun (w1 : World) (hc : ∀ a, w1.cell? a = w.cell? a) => firstCells_run (P := P) (w := w1) (A := A') (len := n) (c := c') hn (fun h => by
  obtain ⟨b, o, e1, e2⟩ := hnew h; exact ⟨b, o, e1, fun j v hj => by rw [hc]; exact e2 j v hj⟩)
 have hfo := fun (w1 : World) (hc : ∀ a, w1.cell? a = w.cell? a) => firstCells_run (P := P) (w := w1) (A := A) (len := len) (c := c) ho (fun h => by
  obtain ⟨b, o, e1, e2⟩ := hold h; exact ⟨b, o, e1, fun j v hj => by rw [hc]; exact e2 j v hj⟩)
 rcases Nat.lt_or_ge c (len + n) with hlt | hge
 ·right
  refine ⟨hlt, grownCap w (len + n) c e, w.drew.alloc (.cells ((olds ++ news).toArray ++ Builtin.zeroCells z.cells (grownCap w (len + n) c e - (len + n))) e), ?_, grownCap_ge _ _ _ _, grownCap_le_maxLen _ _ _ _ hmax, rfl, rfl, rfl, _, by rw [size_zeroCells, hzs], rfl⟩
  have hnc : ¬ (len + n ≤ c) := by omega
  have h63 : ¬ (9223372036854775807 < ((len : Int) + (n : Int))) := by simp only [maxLen] at hmax; omega
  have h48 : ¬ (281474976710656 < Builtin.nextslicecap (len + n) c * i.bytes) := by have := growslice_fits hlt hroom; omega
  have h1 := hf w.drew (fun _ => rfl)
  have h2 := hfo w.drew (fun _ => rfl)
  (simp [Builtin.append_, run_underlying ht, run_underlying hu, sizeOf, typeInfo, zeroValue, hi, hz, Builtin.lenOf, hnc, h63, h48, Question.forced, h1, h2, newRow, grownCap])
  congr 2; apply Array.ext'; simp [List.append_assoc]
 ·left
  refine ⟨hge, fun w' hw' => ?_⟩
  have h1 := hf w (fun _ => rfl)
  cases A with
  | none =>
   simp only at hw'; subst hw'
   (simp [Builtin.append_, run_underlying ht, run_underlying hu, sizeOf, typeInfo, hi, Builtin.lenOf, hge, h1])
  | some a =>
   simp only at hw'
   (simp [Builtin.append_, run_underlying ht, run_underlying hu, sizeOf, typeInfo, hi, Builtin.lenOf, hge, h1, hw'])
theorem Rrow.vals {sz b : Nat} : ∀ {l : List AV} {o : Nat}, Rrow X w ρ l sz b o → ∃ vs : List Value, vs.length = l.length * sz ∧ (∀ j v, vs[j]? = some v → w.cell? ⟨b, o + j, none⟩ = some v) ∧ (∀ v ∈ vs, v.oneCell' = true) ∧
  ∀ {w' : World} {ρ' : Rho} {b' o' : Nat}, Kp X w ρ w' ρ' → (∀ j v, vs[j]? = some v → w'.cell? ⟨b', o' + j, none⟩ = some v) → Rrow X w' ρ' l sz b' o'
 | [], _, _ => ⟨[], by simp, by simp, by simp, fun _ _ => trivial⟩
 | x :: l, o, ⟨h1, h2⟩ => by
  obtain ⟨c1, c2⟩ := Re.cells h1
  obtain ⟨us, e1, e2, e3, e4⟩ := c2.vals
  obtain ⟨vs, f1, f2, f3, f4⟩ := Rrow.vals h2
  have hus : us.length = sz := by omega
  refine ⟨us ++ vs, by simp [f1, hus, Nat.add_mul]; omega, fun j v hj => ?_, fun v hv => ?_, fun {w' ρ' b' o'} hk hc => ⟨?_, f4 hk fun j v hj => ?_⟩⟩
  ·by_cases hlt : j < us.length
   ·rw [List.getElem?_append_left hlt] at hj; exact e2 j v hj
   ·rw [List.getElem?_append_right (by omega)] at hj
    have := f2 (j - us.length) v hj
    rw [show o + sz + (j - us.length) = o + j by omega] at this
    exact this
  ·rcases List.mem_append.1 hv with h | h
   ·exact e3 v h
   ·exact f3 v h
  ·have hcells : Rcells X w' ρ' x.cells b' o' := by
    refine Rcells_of fun j y hj => ?_
    obtain ⟨v, hv, hR⟩ := e4.nth hj
    have hv' : (us ++ vs)[j]? = some v := by rw [List.getElem?_append_left (List.getElem?_eq_some_iff.1 hv).1]; exact hv
    exact ⟨v, hc j v hv', e3 v (List.mem_of_getElem? hv), R.mono hk hR⟩
   cases x
   case agg xs => exact ⟨h1.1, hcells⟩
   case opt g y => exact h1.elim
   case tup xs => exact h1.elim
   all_goals
    obtain ⟨⟨v, q1, q2, q3⟩, _⟩ := hcells
    exact ⟨h1.1, v, q1, q2, q3⟩
  ·have hv' : (us ++ vs)[j + us.length]? = some v := by
    rw [List.getElem?_append_right (by omega)]
    simpa using hj
   have := hc _ v hv'
   rw [show o' + sz + j = o' + (j + us.length) by omega]
   exact this
theorem rowOf_vals {m : Mem} (hi : Inv X w ρ m) {x : AV} {v : Value} {sz : Nat} {l : List AV} (hx : R X w ρ x v) (h : rowOf m x = some (sz, l)) (hlen : ∀ id ver off len, x = .osl id ver off len → ∀ e, m[id]? = some e → ∃ sz' l', e.kind = .row sz' l' ∧ off + len ≤ l'.length) :
  ∃ A c vs, v = .slice A l.length c ∧ l.length ≤ c ∧ c ≤ maxLen ∧ vs.length = l.length * sz ∧ (vs ≠ [] → ∃ b o, A = some ⟨b, o, none⟩ ∧ ∀ j v, vs[j]? = some v → w.cell? ⟨b, o + j, none⟩ = some v) ∧ (∀ v ∈ vs, v.oneCell' = true) ∧
   ∀ {w' : World} {ρ' : Rho} {b' o' : Nat}, Kp X w ρ w' ρ' → (∀ j v, vs[j]? = some v → w'.cell? ⟨b', o' + j, none⟩ = some v) → Rrow X w' ρ' l sz b' o' := by
 unfold rowOf at h
 split at h
 ·simp only [Option.some.injEq, Prod.mk.injEq] at h
  obtain ⟨rfl, rfl⟩ := h
  obtain ⟨A, c, rfl, h1, h2, h3⟩ := hx
  rename_i l
  by_cases hl : l = []
  ·subst hl
   exact ⟨A, c, [], rfl, h1, h2, by simp, fun h => absurd rfl h, by simp, fun _ _ => trivial⟩
  ·obtain ⟨b, o, rfl, hf, hs, hr⟩ := h3 hl
   obtain ⟨vs, e1, e2, e3, e4⟩ := hr.vals
   exact ⟨_, c, vs, rfl, h1, h2, e1, fun _ => ⟨b, o, rfl, e2⟩, e3, e4⟩
 ·simp only [Option.some.injEq, Prod.mk.injEq] at h
  obtain ⟨rfl, rfl⟩ := h
  obtain ⟨A, rfl⟩ := hx
  exact ⟨A, 0, [], rfl, Nat.le_refl _, Nat.zero_le _, by simp, fun h => absurd rfl h, by simp, fun _ _ => trivial⟩
 ·rename_i id ver off len
  split at h
  ·rename_i v' sz' l' hm
   split at h
   ·rename_i hv
    simp only [Option.some.injEq, Prod.mk.injEq] at h
    obtain ⟨rfl, rfl⟩ := h
    subst hv
    obtain ⟨_, l2, e1, hfit⟩ := hlen id v' off len rfl _ hm
    simp only [Kind.row.injEq] at e1
    obtain ⟨_, rfl⟩ := e1
    obtain ⟨r, hr, hv, hrz, hnone, hblk⟩ := hi.row hm
    obtain ⟨A, c, r', rfl, hr', hle, hat⟩ := hx
    rw [hr] at hr'; cases hr'
    obtain ⟨hl, hc, hpos⟩ := hat hv.symm
    have hll : ((l'.drop off).take len).length = len := by simp; omega
    rw [hll]
    by_cases h0 : len = 0
    ·subst h0
     exact ⟨A, c, [], rfl, hl, hc, by simp, fun h => absurd rfl h, by simp, fun _ _ => by simp [Rrow]⟩
    ·obtain ⟨b, hb, rfl, hfit'⟩ := hpos (by omega)
     obtain ⟨_, _, hrow⟩ := hblk b hb
     obtain ⟨vs, e1, e2, e3, e4⟩ := ((hrow.drop off).take len).vals
     exact ⟨_, c, vs, rfl, hl, hc, by rw [e1, hll], fun _ => ⟨b, _, rfl, by rw [hrz]; exact e2⟩, e3, e4⟩
   ·cases h
  ·cases h
 ·cases h
end Go.Vg
namespace Go.Vg
open Go.RowKit
variable {P : Program} {X : Nat → Prop} {w : World} {ρ : Rho}
def updE (e : AV) (j : Nat) (x : AV) : AV :=
 match e with
 | .agg xs => .agg (xs.take j ++ x.cells ++ xs.drop (j + x.cells.length))
 | _ => x
def storeA (P : Program) (m : Mem) (ty : TypeId) (a x : AV) : Option (Mem × AV × Prop) :=
  match a with
  | .optr id ver i j =>
    match m[id]? with
    | some ⟨v, .row sz l⟩ =>
      if v = ver ∧ tsz P ty = some x.cells.length then
        (if sz = 1 then some (m.set id ⟨ver, .row sz (l.set i x)⟩, .any, i < l.length ∧ j = 0 ∧ x.one)
         else match l.getD i .any with
          | .agg xs => some (m.set id ⟨ver, .row sz (l.set i (updE (.agg xs) j x))⟩, .any, i < l.length ∧ j + x.cells.length ≤ sz ∧ x.flat)
          | _ => none)
      else none
    | _ => none
  | _ => none
def boxA (m : Mem) (x : AV) : Option (Mem × AV × Prop) := some (m ++ [⟨0, .row x.cells.length [x]⟩], .optr m.length 0 0 0, x.flat ∧ 0 < x.cells.length)
def makeA (P : Program) (m : Mem) (ty : TypeId) (l c : AV) : Option (Mem × AV × Prop) :=
 match uk P ty with
 | .slice e =>
  match zAV P e, tsz P e, tby P e, l, c with
  | some z, some sz, some by_, .val (.int .i64 n), .val (.int .i64 n') =>
   if elB P e = true then some (m ++ [⟨0, .row sz (List.replicate n.toNat z)⟩], .osl m.length 0 0 n.toNat, 0 ≤ n ∧ n' = n ∧ (by_ : Int) * n ≤ 281474976710656 ∧ n ≤ 9223372036854775807 ∧ z.flat ∧ z.cells.length = sz) else none
  | _, _, _, _, _ => none
 | _ => none
def srcOk (m : Mem) : AV → Prop
 | .osl id _ off len =>
  match m[id]? with
  | some ⟨_, .row _ l⟩ => off + len ≤ l.length
  | _ => False
 | _ => True
def notId (id : Nat) : AV → Prop
 | .osl id' _ _ _ => id' ≠ id
 | _ => True
def appA0 (P : Program) (m : Mem) (t u : TypeId) (d x : AV) : Option (Mem × AV × Prop) :=
 match uk P t, uk P u with
 | .slice e, .slice _ =>
  match tsz P e, tby P e, rowOf m x with
  | some sz, some by_, some (sz', new) =>
   if elB P e = true then
    match d with
    | .emp => some (m ++ [⟨0, .row sz new⟩], .osl m.length 0 0 new.length, new.length * by_ ≤ 140737488355328 ∧ new.length ≤ 9223372036854775807 ∧ srcOk m x ∧ (new ≠ [] → sz' = sz))
    | .osl id ver off len =>
     match m[id]? with
     | some ⟨v, .row sz0 l⟩ =>
      if v = ver ∧ sz0 = sz then
       some (m.set id ⟨ver + 1, .row sz ((l.drop off).take len ++ new)⟩, .osl id (ver + 1) 0 (len + new.length),
        off + len ≤ l.length ∧ (len + new.length) * by_ ≤ 140737488355328 ∧ len + new.length ≤ 9223372036854775807 ∧ srcOk m x ∧ notId id x ∧ (new ≠ [] → sz' = sz))
      else none
     | _ => none
    | _ => none
   else none
  | _, _, _ => none
 | _, _ => none
def appZ (P : Program) (m : Mem) (t : TypeId) (d x : AV) : Option (Mem × AV × Prop) :=
 match uk P t, d, x with
 | .slice e, .emp, .val (.int .i64 n) =>
  match zAV P e, tsz P e, tby P e with
  | some z, some sz, some by_ =>
   if elB P e = true then some (m ++ [⟨0, .row sz (List.replicate n.toNat z)⟩], .osl m.length 0 0 n.toNat, 1 ≤ n ∧ (by_ : Int) * n ≤ 140737488355328 ∧ n ≤ 9223372036854775807 ∧ z.flat ∧ z.cells.length = sz) else none
  | _, _, _ => none
 | _, _, _ => none
def appA (P : Program) (m : Mem) (t u : TypeId) (d x : AV) : Option (Mem × AV × Prop) :=
 match uk P u with
 | .int .i64 => appZ P m t d x
 | _ => appA0 P m t u d x
def putR (l : List AV) (off : Nat) (xs : List AV) : List AV := l.take off ++ (xs ++ l.drop (off + xs.length))
def copyA (P : Program) (m : Mem) (t : TypeId) (d x : AV) : Option (Mem × AV × Prop) :=
 match uk P t, d, rowOf m x with
 | .slice e, .osl id ver off len, some (sz', new) =>
  match tsz P e, m[id]? with
  | some sz, some ⟨v, .row sz0 l⟩ =>
   if v = ver ∧ sz0 = sz ∧ sz' = sz then some (m.set id ⟨ver, .row sz (putR l off (new.take len))⟩, .int (new.take len).length, off + len ≤ l.length ∧ srcOk m x ∧ 0 < sz)
   else none
  | _, _ => none
 | _, _, _ => none
def updA (P : Program) (m : Mem) (ty : TypeId) (x k v : AV) : Option (Mem × AV × Prop) :=
 match x, mpT P ty, keyV k with
 | .omap id ver, some (kt, _), some kv =>
  match m[id]? with
  | some ⟨v0, .mp l⟩ => if v0 = ver then some (m.set id ⟨ver, .mp (updL l kv v)⟩, .any, keysOk P kt kv l) else none
  | _ => none
 | _, _, _ => none
def effA (P : Program) (E : Operand → AV) (m : Mem) (op : Op) : Option (Mem × AV × Prop) :=
 match op with
 | .store ty a v => storeA P m ty (E a) (E v)
 | .box _ v => boxA m (E v)
 | .alloc ty =>
  match zAV P ty with
  | some x => boxA m x
  | none => none
 | .makeSlice ty l c => makeA P m ty (E l) (E c)
 | .call c =>
  match c.callee with
  | .builtin .append =>
   match c.args.toList, c.argTypes.toList with
   | [d, x], [t, u] => appA P m t u (E d) (E x)
   | _, _ => none
  | .builtin .copy =>
   match c.args.toList, c.argTypes.toList with
   | [d, x], [t, _] => copyA P m t (E d) (E x)
   | _, _ => none
  | _ => none
 | .makeMap ty none => some (m ++ [⟨0, .mp []⟩], .omap m.length 0, True)
 | .mapUpdate ty mp k v => updA P m ty (E mp) (E k) (E v)
 | .insert ty mp k v => updA P m ty (E mp) (E k) (E v)
 | _ => none
def Done (P : Program) (X : Nat → Prop) (w : World) (ρ : Rho) (m' : Mem) (x : AV) (r : Result Next) : Prop :=
 ∃ v w' ρ', (r = .ok (.value v) w' ∨ (r = .ok .skip w' ∧ v = undef)) ∧ Tr w ρ w' ρ' ∧ Inv X w' ρ' m' ∧ R X w' ρ' x v
theorem newBlock {m : Mem} (hi : Inv X w ρ m) {sz : Nat} {l : List AV} {arr : Array Value} {vs : List Value} {e : TypeId} {w' : World} (hh : w'.heap = w.heap.push (.cells arr e)) (hos : w'.os = w.os) (htp : w'.tape = w.tape) (hou : w'.output = w.output)
  (hlen : vs.length = l.length * sz) (hvs : ∀ (j : Nat) (v : Value), vs[j]? = some v → arr[j]? = some v) (hR : ∀ {w' : World} {ρ' : Rho} {b' o' : Nat}, Kp X w ρ w' ρ' → (∀ j v, vs[j]? = some v → w'.cell? ⟨b', o' + j, none⟩ = some v) → Rrow X w' ρ' l sz b' o') :
  ∃ r : RE, r.ver = 0 ∧ r.blk = some w.heap.size ∧ r.base = 0 ∧ r.size = arr.size ∧ r.sz = sz ∧ Tr w ρ w' (ρ ++ [r]) ∧ Inv X w' (ρ ++ [r]) (m ++ [⟨0, .row sz l⟩]) := by
 have hnew : w'.heap[w.heap.size]? = some (.cells arr e) := by rw [hh]; simp
 have hcell : ∀ o, w'.cell? ⟨w.heap.size, o, none⟩ = arr[o]? := fun o => by simp [World.cell?, hnew]
 have hle : vs.length ≤ arr.size := by
  rcases Nat.eq_zero_or_pos vs.length with h | h
  ·omega
  ·have h1 := hvs (vs.length - 1) _ (List.getElem?_eq_getElem (by omega))
   have := (Array.getElem?_eq_some_iff.1 h1).1
   omega
 obtain ⟨h1, h2⟩ := hi.alloc (r := ⟨0, some w.heap.size, 0, arr.size, sz⟩) (k := .row sz l) hh hos htp hou rfl rfl (fun ρ' ht he => by
  refine ⟨rfl, fun h => (by cases h), fun b hb => ?_⟩
  cases hb
  refine ⟨⟨arr, e, (0, 0), hnew, rfl, by simp, by simp⟩, by simp only [Nat.zero_add]; omega, hR ht.kp fun j v hj => ?_⟩
  simp only [Nat.zero_add]
  rw [hcell]; exact hvs j v hj)
 exact ⟨_, rfl, rfl, rfl, rfl, rfl, h1, h2⟩
theorem last_get {α : Type} (l : List α) (x : α) : (l ++ [x])[l.length]? = some x := by simp
theorem boxA_done {m m' : Mem} (hi : Inv X w ρ m) {x y : AV} {v : Value} {p : Prop} {ty : TypeId} (hx : R X w ρ x v) (h : boxA m x = some (m', y, p)) (hp : p) :
  ∃ u w' ρ', (Instr.box ty v).run P w = .ok u w' ∧ Tr w ρ w' ρ' ∧ Inv X w' ρ' m' ∧ R X w' ρ' y u := by
 simp only [boxA, Option.some.injEq, Prod.mk.injEq] at h
 obtain ⟨rfl, rfl, rfl⟩ := h
 obtain ⟨vs, e1, e2, e3, e4⟩ := flat_cells hp.1 hx
 obtain ⟨r, q1, q2, q3, q4, q5, q6, q7⟩ := newBlock hi (w' := { w with heap := w.heap.push (.cells v.cells ty) }) (sz := x.cells.length) (l := [x]) (arr := v.cells) (vs := vs) (e := ty) rfl rfl rfl rfl (by simp [e4]) (fun j u hj => by rw [e1]; simpa using hj)
  (fun {w' ρ' b' o'} hk hc => ⟨Re_of_cells hp.1 rfl (Rcells_of fun j y hj => by
   obtain ⟨u, hu, hR⟩ := e2.nth hj
   exact ⟨u, hc j u hu, e3 u (List.mem_of_getElem? hu), R.mono hk hR⟩), trivial⟩)
 refine ⟨.pointer (some ⟨w.heap.size, 0, none⟩), _, _, by simp [Instr.box, newVar, newRow], q6, q7, ?_⟩
 refine ⟨_, r, rfl, ?_, by omega, fun _ => ⟨w.heap.size, q2, by rw [q3]; simp⟩⟩
 rw [← hi.len]; exact last_get ρ r
theorem storeA_done {m m' : Mem} (hi : Inv X w ρ m) {ty : TypeId} {a x y : AV} {va vx : Value} {p : Prop} (ha : R X w ρ a va) (hx : R X w ρ x vx) (h : storeA P m ty a x = some (m', y, p)) (hp : p) :
  ∃ w' ρ', (Instr.storeAt ty va vx).run P w = .ok () w' ∧ Tr w ρ w' ρ' ∧ Inv X w' ρ' m' ∧ y = .any := by
 unfold storeA at h
 split at h <;> (try (cases h; done))
 rename_i id ver i j
 split at h <;> (try (cases h; done))
 rename_i v sz l hm
 split at h <;> (try (cases h; done))
 rename_i hc
 obtain ⟨rfl, hts⟩ := hc
 obtain ⟨r, hr, hv, hrz, hnone, hblk⟩ := hi.row hm
 obtain ⟨A, r', rfl, hr', hle, hat⟩ := ha
 rw [hr] at hr'; cases hr'
 obtain ⟨b, hb, rfl⟩ := hat hv.symm
 obtain ⟨⟨arr, e, fr, ha1, ha2, ha3, ha4⟩, hfit, hrow⟩ := hblk b hb
 have hrowat : RowAt w b arr := ⟨e, fr, ha1, ha3, ha4⟩
 have key : ∀ (ne : AV), x.flat → i < l.length → j + x.cells.length ≤ sz →
   (∀ (w' : World) (arr' : Array Value), RowAt w' b arr' → Kp X w ρ w' ρ → (∀ k, arr'[k]? = if r.base + i * r.sz + j ≤ k ∧ k < r.base + i * r.sz + j + x.cells.length then (vx.cells.toList)[k - (r.base + i * r.sz + j)]? else arr[k]?) → Rvals X w ρ x.cells vx.cells.toList → (∀ u ∈ vx.cells.toList, u.oneCell' = true) → Re X w' ρ ne sz b (r.base + i * sz)) →
   ∃ w' ρ', (Instr.storeAt ty (.pointer (some ⟨b, r.base + i * r.sz + j, none⟩)) vx).run P w = .ok () w' ∧ Tr w ρ w' ρ' ∧ Inv X w' ρ' (m.set id ⟨v, .row sz (l.set i ne)⟩) := by
  intro ne hf hil hj hne
  obtain ⟨vs, f1, f2, f3, f4⟩ := flat_cells hf hx
  have hspace : (i + 1) * sz ≤ l.length * sz := Nat.mul_le_mul_right _ hil
  rw [Nat.add_mul, Nat.one_mul] at hspace
  obtain ⟨w', arr', g1, g2, g3, g4, g5⟩ := run_storeCells_row (P := P) vs (o := r.base + i * r.sz + j) (i := 0) hrowat (by rw [hrz]; omega) f3
  have htr := Tr.turn hr hb g3
  refine ⟨w', ρ, ?_, htr, ?_⟩
  ·unfold Instr.storeAt storeVar
   simp only [Instr.sureAddr, Sem.run_bind, Sem.run_pure, Result.andThen_ok, run_sizeOf hts]
   have : vx.cells.size = x.cells.length := by rw [f1]; simpa using f4
   rw [if_neg (by simp [this])]
   simp only [f1]
   exact g1
  ·refine hi.write hr hb hv g3 hrz g2 (by omega) (by simpa using hfit) ?_
   refine Rrow_of_cells fun i' y hy => ?_
   rcases getElem?_set_cases hy with ⟨rfl, _, rfl⟩ | ⟨hne', hy'⟩
   ·refine hne w' arr' g2 htr.kp (fun k => ?_) (by rw [f1]; simpa using f2) (by rw [f1]; simpa using f3)
    rw [g5 k, f1]; simp only [Nat.add_zero, f4]
   ·have h0 := hrow.nth hy'
    have hrow1 : Rrow X w ρ [y] sz b (r.base + i' * sz) := ⟨h0, trivial⟩
    obtain ⟨us, u1, u2, u3, u4⟩ := hrow1.vals
    refine (u4 (b' := b) (o' := r.base + i' * sz) htr.kp fun k u hk => ?_).1
    have hklt : k < sz := by have := (List.getElem?_eq_some_iff.1 hk).1; simp at u1; omega
    have hcell := u2 k u hk
    rw [hrowat.cell] at hcell
    rw [g2.cell, g5, if_neg]
    ·exact hcell
    ·rw [hrz]
     rcases Nat.lt_or_ge i' i with hlt | hge
     ·have : (i' + 1) * sz ≤ i * sz := Nat.mul_le_mul_right _ hlt
      rw [Nat.add_mul, Nat.one_mul] at this
      omega
     ·have : (i + 1) * sz ≤ i' * sz := Nat.mul_le_mul_right _ (by omega)
      rw [Nat.add_mul, Nat.one_mul] at this
      omega
 split at h
 ·rename_i hs1
  simp only [Option.some.injEq, Prod.mk.injEq] at h
  obtain ⟨rfl, rfl, rfl⟩ := h
  obtain ⟨hil, rfl, hone⟩ := hp
  subst hs1
  have hflat : x.flat := by cases x <;> simp only [AV.flat] <;> first | exact hone | exact hone.elim
  have hc1 : x.cells = [x] := by cases x <;> simp only [AV.cells] <;> exact hone.elim
  obtain ⟨w', ρ', k1, k2, k3⟩ := key x hflat hil (by rw [hc1]; simp) (fun w' arr' g2 hk hcells hRv h1 => by
   rw [hc1] at hcells hRv
   obtain ⟨u, us, e1, e2, e3⟩ := hRv
   have hu := hcells (r.base + i * r.sz + 0)
   rw [if_pos ⟨Nat.le_refl _, by simp⟩, Nat.sub_self, e1] at hu
   refine Re_of_cells hflat (by rw [hc1]; rfl) ?_
   rw [hc1]
   refine ⟨⟨u, ?_, h1 u (by rw [e1]; simp), R.mono hk e2⟩, trivial⟩
   rw [g2.cell]
   rw [hrz] at hu
   simpa using hu)
  exact ⟨w', ρ', k1, k2, k3, rfl⟩
 ·rename_i hs1
  split at h <;> (try (cases h; done))
  rename_i xs hxs
  simp only [Option.some.injEq, Prod.mk.injEq] at h
  obtain ⟨rfl, rfl, rfl⟩ := h
  obtain ⟨hil, hj, hflat⟩ := hp
  have hli : l[i]? = some (.agg xs) := by
   rw [List.getElem?_eq_getElem hil]
   have : l.getD i .any = l[i] := by simp [hil]
   rw [← this, hxs]
  have hre := hrow.nth hli
  obtain ⟨hxl, hxc⟩ := hre
  obtain ⟨w', ρ', k1, k2, k3⟩ := key (updE (.agg xs) j x) hflat hil hj (fun w' arr' g2 hk hcells hRv h1 => by
   simp only [updE]
   refine ⟨by simp; omega, Rcells_of fun k y hy => ?_⟩
   have hvl : vx.cells.toList.length = x.cells.length := hRv.len
   rw [g2.cell, hcells, hrz]
   have hjl : j ≤ xs.length := by omega
   by_cases hk1 : k < j
   ·rw [List.append_assoc, List.getElem?_append_left (by simp; omega)] at hy
    rw [List.getElem?_take, if_pos hk1] at hy
    obtain ⟨u, q1, q2, q3⟩ := hxc.nth hy
    rw [hrowat.cell] at q1
    rw [if_neg (by omega)]
    exact ⟨u, q1, q2, R.mono hk q3⟩
   ·by_cases hk2 : k < j + x.cells.length
    ·rw [List.getElem?_append_left (by simp; omega), List.getElem?_append_right (by simp; omega)] at hy
     have hy' : x.cells[k - j]? = some y := by simpa [Nat.min_eq_left hjl] using hy
     obtain ⟨u, q1, q2⟩ := hRv.nth hy'
     rw [if_pos (by omega), show r.base + i * sz + k - (r.base + i * sz + j) = k - j by omega]
     exact ⟨u, q1, h1 u (List.mem_of_getElem? q1), R.mono hk q2⟩
    ·rw [List.getElem?_append_right (by simp; omega)] at hy
     have hy' : xs[k]? = some y := by
      rw [List.getElem?_drop] at hy
      simp only [List.length_append, List.length_take, Nat.min_eq_left hjl] at hy
      rw [show j + x.cells.length + (k - (j + x.cells.length)) = k by omega] at hy
      exact hy
     obtain ⟨u, q1, q2, q3⟩ := hxc.nth hy'
     rw [hrowat.cell] at q1
     rw [if_neg (by omega)]
     exact ⟨u, q1, q2, R.mono hk q3⟩)
  exact ⟨w', ρ', k1, k2, k3, rfl⟩
theorem makeA_done {m m' : Mem} (hi : Inv X w ρ m) {ty : TypeId} {l c y : AV} {vl vc : Value} {p : Prop} (hl : R X w ρ l vl) (hc : R X w ρ c vc) (h : makeA P m ty l c = some (m', y, p)) (hp : p) :
  ∃ u w' ρ', (Instr.makeSlice ty vl vc).run P w = .ok u w' ∧ Tr w ρ w' ρ' ∧ Inv X w' ρ' m' ∧ R X w' ρ' y u := by
 unfold makeA at h
 split at h <;> (try (cases h; done))
 rename_i e hu
 split at h <;> (try (cases h; done))
 rename_i z sz by_ n n' hz hsz hby
 split at h <;> (try (cases h; done))
 rename_i hel
 simp only [Option.some.injEq, Prod.mk.injEq] at h
 obtain ⟨rfl, rfl, rfl⟩ := h
 obtain ⟨h0, rfl, hb48, hmax, hzf, hzl⟩ := hp
 rw [R_val] at hl hc; subst hl hc
 obtain ⟨i, z0, hinfo, hz0, hzs, hpos⟩ := elB_some hel
 obtain ⟨i', hi', hsz'⟩ := tsz_some hsz
 rw [hinfo] at hi'; cases hi'
 have hby' : i.bytes = by_ := by unfold tby at hby; simpa [hinfo] using hby
 obtain ⟨zv, hzv, hzR⟩ := zAV_some (P := P) (X := X) (w := w) (ρ := ρ) hz
 have hzv0 : zv = z0 := by simp [zeroValue, typeInfo, hinfo, hz0] at hzv; exact hzv.symm
 subst hzv0
 obtain ⟨zs, f1, f2, f3, f4⟩ := flat_cells hzf hzR
 have hrun := run_make (P := P) w ty e i zv (uk_slice hu) hinfo hz0 .i64 .i64 n' n' h0 (Int.le_refl _) (by rw [hby']; omega) (by omega)
 have hzsz : zv.cells.size = sz := by rw [hzs, hsz']
 have hzlen : zs.length = sz := by omega
 have hget : ∀ (k j : Nat), j < sz → k % sz = j → k < n'.toNat * i.size → ∀ u, zs[j]? = some u → (madeCells zv.cells (n'.toNat * i.size)).toList[k]? = some u := by
  intro k j hj hk hlt u hu'
  have : (madeCells zv.cells (n'.toNat * i.size)).toList[k]? = some (zv.cells[k % zv.cells.size]!) := by
   simp [madeCells, hlt]
  rw [this, hzsz, hk, f1]
  have hj' : j < zs.length := by omega
  rw [List.getElem?_eq_getElem hj'] at hu'
  simp only [Option.some.injEq] at hu' ⊢
  rw [← hu']
  simp [hj']
 obtain ⟨r, q1, q2, q3, q4, q5, q6, q7⟩ := newBlock hi (w' := w.alloc (.cells (madeCells zv.cells (n'.toNat * i.size)) e)) (sz := sz) (l := List.replicate n'.toNat z) (arr := madeCells zv.cells (n'.toNat * i.size)) (vs := (madeCells zv.cells (n'.toNat * i.size)).toList) (e := e)
  rfl rfl rfl rfl (by rw [Array.length_toList, size_madeCells, hsz']; simp) (fun j u hj => by simpa using hj)
  (fun {w' ρ' b' o'} hk hc => Rrow_of_cells fun i1 y hy => by
   have hy0 := List.getElem?_replicate (a := z) (n := n'.toNat) (i := i1)
   rw [hy] at hy0
   split at hy0
   ·rename_i hlt
    cases hy0
    refine Re_of_cells hzf hzl (Rcells_of fun j y' hj => ?_)
    obtain ⟨u, hu', hR⟩ := f2.nth hj
    have hjlt : j < sz := by have := (List.getElem?_eq_some_iff.1 hu').1; omega
    have hle : (i1 + 1) * sz ≤ n'.toNat * sz := Nat.mul_le_mul_right _ hlt
    rw [Nat.add_mul, Nat.one_mul] at hle
    have := hc (i1 * sz + j) u (hget _ j hjlt (by rw [Nat.mul_comm, Nat.mul_add_mod]; exact Nat.mod_eq_of_lt hjlt) (by rw [hsz']; omega) u hu')
    rw [← Nat.add_assoc] at this
    exact ⟨u, this, f3 u (List.mem_of_getElem? hu'), R.mono hk hR⟩
   ·cases hy0)
 refine ⟨_, _, _, hrun, q6, q7, _, _, r, rfl, by rw [← hi.len]; exact last_get ρ r, by omega, fun _ => ⟨Nat.le_refl _, by simp only [maxLen]; omega, fun hp => ⟨w.heap.size, q2, by rw [q3]; simp, ?_⟩⟩⟩
 rw [q3, q4, q5, size_madeCells, hsz']; simp
end Go.Vg
namespace Go.Vg
open Go.RowKit
variable {P : Program} {X : Nat → Prop} {w : World} {ρ : Rho}
theorem Inv.adopt {m : Mem} (hi : Inv X w ρ m) (sz : Nat) : Tr w ρ w (ρ ++ [⟨0, none, 0, 0, sz⟩]) ∧ Inv X w (ρ ++ [⟨0, none, 0, 0, sz⟩]) (m ++ [⟨0, .row sz []⟩]) := by
 have get : ∀ (i : Nat) (r' : RE), (ρ ++ [(⟨0, none, 0, 0, sz⟩ : RE)])[i]? = some r' → (i < ρ.length ∧ ρ[i]? = some r') ∨ (i = ρ.length ∧ r' = ⟨0, none, 0, 0, sz⟩) := by
  intro i r' h
  by_cases hlt : i < ρ.length
  ·rw [List.getElem?_append_left hlt] at h; exact .inl ⟨hlt, h⟩
  ·have hi' : i = ρ.length := by
    have := (List.getElem?_eq_some_iff.1 h).1
    simp at this; omega
   subst hi'
   rw [List.getElem?_append_right (Nat.le_refl _)] at h
   simp at h; exact .inr ⟨rfl, h.symm⟩
 have htr : Tr w ρ w (ρ ++ [⟨0, none, 0, 0, sz⟩]) := by
  refine ⟨rfl, rfl, rfl, Nat.le_refl _, fun i r hr => ⟨r, ?_, Nat.le_refl _, fun _ => rfl⟩, fun b hb hlt => ⟨fun r hr => ?_, rfl⟩⟩
  ·rw [List.getElem?_append_left (List.getElem?_eq_some_iff.1 hr).1]; exact hr
  ·rcases List.mem_append.1 hr with h | h
   ·exact hb r h
   ·have : r = ⟨0, none, 0, 0, sz⟩ := by simpa using h
    subst this; simp
 refine ⟨htr, by simp [hi.len], fun i r e hr he => ?_, fun i j r r' b h1 h2 hb1 hb2 => ?_, fun i r b hr hb => ?_, hi.out, hi.gd.tr htr⟩
 ·rcases get i r hr with ⟨hlt, h⟩ | ⟨rfl, rfl⟩
  ·rw [List.getElem?_append_left (by rw [← hi.len]; exact hlt)] at he
   obtain ⟨q0, q⟩ := hi.at_ i r e h he
   exact ⟨q0, q.mono htr.kp fun _ _ => rfl⟩
  ·rw [hi.len] at he
   simp at he; subst he
   exact ⟨rfl, rfl, fun _ => rfl, fun b hb => by cases hb⟩
 ·rcases get i r h1 with ⟨_, g1⟩ | ⟨_, rfl⟩
  ·rcases get j r' h2 with ⟨_, g2⟩ | ⟨_, rfl⟩
   ·exact hi.apart i j r r' b g1 g2 hb1 hb2
   ·cases hb2
  ·cases hb1
 ·rcases get i r hr with ⟨_, g1⟩ | ⟨_, rfl⟩
  ·exact hi.new i r b g1 hb
  ·cases hb
theorem tby_some {e n : Nat} {i : TypeInfo} (h : tby P e = some n) (hi : P.info? e = some i) : i.bytes = n := by unfold tby at h; simpa [hi] using h
theorem grown_row {m : Mem} (hi : Inv X w ρ m) {l1 l2 : List AV} {sz : Nat} {olds news : List Value} {rest : Array Value} {e : TypeId}
  (ho : olds.length = l1.length * sz) (hn : news.length = l2.length * sz)
  (hR1 : ∀ {w' : World} {ρ' : Rho} {b' o' : Nat}, Kp X w ρ w' ρ' → (∀ j v, olds[j]? = some v → w'.cell? ⟨b', o' + j, none⟩ = some v) → Rrow X w' ρ' l1 sz b' o')
  (hR2 : ∀ {w' : World} {ρ' : Rho} {b' o' : Nat}, Kp X w ρ w' ρ' → (∀ j v, news[j]? = some v → w'.cell? ⟨b', o' + j, none⟩ = some v) → Rrow X w' ρ' l2 sz b' o')
  {w' : World} {ρ' : Rho} {b' o' : Nat} (hk : Kp X w ρ w' ρ') (hc : ∀ j v, (olds ++ news)[j]? = some v → w'.cell? ⟨b', o' + j, none⟩ = some v) : Rrow X w' ρ' (l1 ++ l2) sz b' o' := by
 refine (hR1 hk fun j v hj => hc j v ?_).append (hR2 hk fun j v hj => ?_)
 ·rw [List.getElem?_append_left (List.getElem?_eq_some_iff.1 hj).1]; exact hj
 ·have := hc (olds.length + j) v (by rw [List.getElem?_append_right (by omega)]; simpa using hj)
  rw [ho] at this
  rw [Nat.add_assoc]; exact this
theorem appA0_done {m m' : Mem} (hi : Inv X w ρ m) {t u ty : TypeId} {d x y : AV} {vd vx : Value} {p : Prop} (hd : R X w ρ d vd) (hx : R X w ρ x vx) (h : appA0 P m t u d x = some (m', y, p)) (hp : p) :
  ∃ v w' ρ', (Builtin.append_ #[t, u] ty #[vd, vx]).run P w = .ok v w' ∧ Tr w ρ w' ρ' ∧ Inv X w' ρ' m' ∧ R X w' ρ' y v := by
 unfold appA0 at h
 split at h <;> (try (cases h; done))
 rename_i e e' hut huu
 split at h <;> (try (cases h; done))
 rename_i sz by_ sz' new hsz hby hrow
 split at h <;> (try (cases h; done))
 rename_i hel
 obtain ⟨i, z, hinfo, hz, hzs, hpos⟩ := elB_some hel
 obtain ⟨i', hi', hsz'⟩ := tsz_some hsz
 rw [hinfo] at hi'; cases hi'
 have hby' := tby_some hby hinfo
 have src : srcOk m x → (new ≠ [] → sz' = sz) → ∃ A c vs, vx = .slice A new.length c ∧ vs.length = new.length * sz ∧ (vs ≠ [] → ∃ b o, A = some ⟨b, o, none⟩ ∧ ∀ j v, vs[j]? = some v → w.cell? ⟨b, o + j, none⟩ = some v) ∧ (∀ v ∈ vs, v.oneCell' = true) ∧
   ∀ {w' : World} {ρ' : Rho} {b' o' : Nat}, Kp X w ρ w' ρ' → (∀ j v, vs[j]? = some v → w'.cell? ⟨b', o' + j, none⟩ = some v) → Rrow X w' ρ' new sz b' o' := by
  intro hs hss
  obtain ⟨A, c, vs, e1, _, _, e4, e5, e6, e7⟩ := rowOf_vals hi hx hrow (fun id ver off len hxe e he => by
   subst hxe
   simp only [srcOk, he] at hs
   obtain ⟨v, k⟩ := e
   cases k with
   | row s l => exact ⟨s, l, rfl, hs⟩
   | dfr => exact hs.elim
   | lrec => exact hs.elim
   | mp => exact hs.elim
   | ext => exact hs.elim)
  by_cases hne : new = []
  ·subst hne
   simp at e4
   refine ⟨A, c, vs, e1, by simp [e4], e5, e6, fun _ _ => trivial⟩
  ·have := hss hne; subst this
   exact ⟨A, c, vs, e1, e4, e5, e6, e7⟩
 split at h
 ·simp only [Option.some.injEq, Prod.mk.injEq] at h
  obtain ⟨rfl, rfl, rfl⟩ := h
  obtain ⟨hb, hm, hs, hss⟩ := hp
  obtain ⟨A, rfl⟩ := hd
  obtain ⟨A', c', vs, rfl, e2, e3, e4, e5⟩ := src hs hss
  have hrun := append_run (P := P) (w := w) (ty := ty) (uk_slice hut) (uk_slice huu) hinfo hz hzs (A := A) (A' := A') (len := 0) (c := 0) (n := new.length) (c' := c') (olds := []) (news := vs) (by simp) (by rw [hsz']; exact e2) (fun h => absurd rfl h) e3 (by rw [hby']; simpa using hb) (by simp only [maxLen]; omega)
  rcases hrun with ⟨h0, hr⟩ | ⟨_, cap, w', hr, h1, h2, h3, h4, h5, rest, h6, h7⟩
  ·have hl0 : new.length = 0 := by omega
   have hn0 : new = [] := List.eq_nil_of_length_eq_zero hl0
   subst hn0
   have hv0 : vs = [] := List.eq_nil_of_length_eq_zero (by simpa using e2)
   subst hv0
   have hr' := hr w (by cases A with | none => rfl | some a => rfl)
   obtain ⟨k1, k2⟩ := hi.adopt sz
   exact ⟨_, w, _, hr', k1, k2, A, 0, ⟨0, none, 0, 0, sz⟩, by simp, by rw [← hi.len]; exact last_get ρ _, Nat.le_refl _, fun _ => ⟨by simp, Nat.zero_le _, fun h => absurd h (Nat.lt_irrefl 0)⟩⟩
  ·obtain ⟨r, q1, q2, q3, q4, q5, q6, q7⟩ := newBlock hi (w' := w') (sz := sz) (l := new) (vs := vs) (e := e) h7 h3 h4 h5 e2 (fun j v hj => by
    have : j < vs.length := (List.getElem?_eq_some_iff.1 hj).1
    rw [Array.getElem?_append_left (by simpa using this)]
    simpa using hj) e5
   refine ⟨_, w', _, hr, q6, q7, some ⟨w.heap.size, 0, none⟩, cap, r, by simp, by rw [← hi.len]; exact last_get ρ r, by omega, fun _ => ⟨by simpa using h1, h2, fun hp => ⟨w.heap.size, q2, by rw [q3]; simp, ?_⟩⟩⟩
   rw [q3, q4, q5]
   simp only [List.nil_append, Array.size_append, List.size_toArray, h6, e2, hsz', Nat.zero_add]
   rw [← Nat.add_mul]
   exact Nat.mul_le_mul_right _ (by omega)
 ·rename_i id ver off len
  split at h <;> (try (cases h; done))
  rename_i v sz0 l hm
  split at h <;> (try (cases h; done))
  rename_i hc
  obtain ⟨rfl, rfl⟩ := hc
  simp only [Option.some.injEq, Prod.mk.injEq] at h
  obtain ⟨rfl, rfl, rfl⟩ := h
  obtain ⟨hfit0, hb, hmx, hs, hnid, hss⟩ := hp
  obtain ⟨r, hr, hv, hrz, hnone, hblk⟩ := hi.row hm
  obtain ⟨A, c, r', rfl, hr', hle, hat⟩ := hd
  rw [hr] at hr'; cases hr'
  obtain ⟨hl, hcm, hpos0⟩ := hat hv.symm
  obtain ⟨A', c', vs, rfl, e2, e3, e4, e5⟩ := src hs hss
  have hll : ((l.drop off).take len).length = len := by simp; omega
  have olds : ∃ os : List Value, os.length = len * sz0 ∧ (os ≠ [] → ∃ b o, A = some ⟨b, o, none⟩ ∧ ∀ j v, os[j]? = some v → w.cell? ⟨b, o + j, none⟩ = some v) ∧ (∀ v ∈ os, v.oneCell' = true) ∧
    ∀ {w' : World} {ρ' : Rho} {b' o' : Nat}, Kp X w ρ w' ρ' → (∀ j v, os[j]? = some v → w'.cell? ⟨b', o' + j, none⟩ = some v) → Rrow X w' ρ' ((l.drop off).take len) sz0 b' o' := by
   by_cases h0 : len = 0
   ·subst h0
    exact ⟨[], by simp, fun h => absurd rfl h, by simp, fun _ _ => by simp [Rrow]⟩
   ·obtain ⟨b, hb', hA, hfit⟩ := hpos0 (by omega)
    obtain ⟨_, _, hrow'⟩ := hblk b hb'
    obtain ⟨os, f1, f2, f3, f4⟩ := ((hrow'.drop off).take len).vals
    exact ⟨os, by rw [f1, hll], fun _ => ⟨b, _, hA, by rw [hrz]; exact f2⟩, f3, f4⟩
  obtain ⟨os, o1, o2, o3, o4⟩ := olds
  have hrun := append_run (P := P) (w := w) (ty := ty) (uk_slice hut) (uk_slice huu) hinfo hz hzs (A := A) (A' := A') (len := len) (c := c) (n := new.length) (c' := c') (olds := os) (news := vs) (by rw [hsz']; exact o1) (by rw [hsz']; exact e2) o2 e3 (by rw [hby']; exact hb) (by simp only [maxLen]; omega)
  rcases hrun with ⟨h0, hr0⟩ | ⟨_, cap, w', hr0, h1, h2, h3, h4, h5, rest, h6, h7⟩
  ·by_cases hc0 : c = 0
   ·
    have hl0 : len = 0 := by omega
    have hnl : new.length = 0 := by omega
    have hn0 : new = [] := List.eq_nil_of_length_eq_zero hnl
    subst hn0 hl0 hc0
    have hv0 : vs = [] := List.eq_nil_of_length_eq_zero (by simpa using e2)
    subst hv0
    have hrr := hr0 w (by cases A with | none => rfl | some a => rfl)
    obtain ⟨k1, k2⟩ := hi.renew hr (r' := ⟨r.ver + 1, none, 0, 0, sz0⟩) (w' := w) (k := .row sz0 []) rfl rfl rfl (Nat.le_refl _) rfl (fun _ _ _ => rfl) (fun b h => by cases h) (fun ρ' _ _ => ⟨rfl, fun _ => rfl, fun b h => by cases h⟩)
    refine ⟨_, w, _, hrr, k1, ?_, A, 0, ⟨r.ver + 1, none, 0, 0, sz0⟩, by simp, by rw [List.getElem?_set_self (List.getElem?_eq_some_iff.1 hr).1], by rw [hv]; exact Nat.le_refl _, fun _ => ⟨by simp, Nat.zero_le _, fun h => absurd h (Nat.lt_irrefl 0)⟩⟩
    simpa [hv] using k2
   ·obtain ⟨b, hb', hA, hfit⟩ := hpos0 (by omega)
    subst hA
    obtain ⟨⟨arr, e0, fr, ha1, ha2, ha3, ha4⟩, hfitl, hrow'⟩ := hblk b hb'
    have hrowat : RowAt w b arr := ⟨e0, fr, ha1, ha3, ha4⟩
    have hmul : (len + new.length) * sz0 ≤ c * sz0 := Nat.mul_le_mul_right _ h0
    rw [hrz, Nat.add_mul] at hfit
    rw [Nat.add_mul] at hmul
    obtain ⟨w', arr', g1, g2, g3, g4, g5⟩ := run_storeCells_row (P := P) vs (o := r.base + off * r.sz + len * sz0) (i := 0) hrowat (by rw [hrz, e2]; omega) e4
    have hrr := hr0 w' (by simp only; rw [Addr.add_none, hsz']; exact g1)
    have hkeep : ∀ j v, os[j]? = some v → arr'[r.base + off * r.sz + j]? = some v := by
     intro j v hj
     have hjl : j < len * sz0 := by rw [← o1]; exact (List.getElem?_eq_some_iff.1 hj).1
     obtain ⟨b2, o2', hA2, hcc⟩ := o2 (by intro e; subst e; simp at hj)
     cases hA2
     have := hcc j v hj
     rw [hrowat.cell] at this
     rw [g5, if_neg (by omega)]; exact this
    have hcome : ∀ j v, vs[j]? = some v → arr'[r.base + off * r.sz + len * sz0 + j]? = some v := by
     intro j v hj
     have hjl : j < vs.length := (List.getElem?_eq_some_iff.1 hj).1
     rw [g5, if_pos (by omega)]
     rw [show r.base + off * r.sz + len * sz0 + j - (r.base + off * r.sz + len * sz0 + 0) = j by omega]; exact hj
    obtain ⟨k1, k2⟩ := hi.renew hr (r' := ⟨r.ver + 1, some b, r.base + off * r.sz, r.size, sz0⟩) (w' := w') (k := .row sz0 ((l.drop off).take len ++ new)) g3.os g3.tape g3.output (by rw [g3.size]; exact Nat.le_refl _) rfl
     (fun b2 _ hb2 => g3.block b2 fun e => hb2 (by rw [e]; exact hb')) (fun b2 hb2 => by cases hb2; exact ⟨.inl hb', by rw [g3.size]; exact hrowat.lt⟩)
     (fun ρ' hρ htr => by
      refine ⟨rfl, fun h => (by cases h), fun b2 hb2 => ?_⟩
      cases hb2
      obtain ⟨e3', fr', z1, z2, z3⟩ := g2
      refine ⟨⟨arr', e3', fr', z1, by rw [g4, ha2], z2, z3⟩, ?_, ?_⟩
      ·simp only [List.length_append, hll]
       rw [Nat.add_mul, hrz]
       omega
      ·refine grown_row hi (by rw [hll]; exact o1) e2 o4 e5 (rest := #[]) (e := e) htr.kp fun j v hj => ?_
       have hrow2 : RowAt w' b arr' := ⟨e3', fr', z1, z2, z3⟩
       rw [hrow2.cell]
       by_cases hjl : j < os.length
       ·rw [List.getElem?_append_left hjl] at hj; exact hkeep j v hj
       ·rw [List.getElem?_append_right (by omega)] at hj
        have := hcome _ v hj
        rw [← o1] at this
        rw [show r.base + off * r.sz + os.length + (j - os.length) = r.base + off * r.sz + j by omega] at this
        exact this)
    refine ⟨_, w', _, hrr, k1, by simpa [hv] using k2, _, c, ⟨r.ver + 1, some b, r.base + off * r.sz, r.size, sz0⟩, rfl, by rw [List.getElem?_set_self (List.getElem?_eq_some_iff.1 hr).1], by rw [hv]; exact Nat.le_refl _, fun _ => ⟨h0, hcm, fun _ => ⟨b, rfl, by simp, ?_⟩⟩⟩
    simp only [Nat.zero_add]
    rw [hrz]; omega
  ·obtain ⟨k1, k2⟩ := hi.renew hr (r' := ⟨r.ver + 1, some w.heap.size, 0, cap * sz0, sz0⟩) (w' := w') (k := .row sz0 ((l.drop off).take len ++ new)) h3 h4 h5 (by rw [h7]; simp) rfl
    (fun b2 hlt _ => by rw [h7, Array.getElem?_push_lt hlt, Array.getElem?_eq_getElem hlt]) (fun b2 hb2 => by cases hb2; exact ⟨.inr (Nat.le_refl _), by rw [h7]; simp⟩)
    (fun ρ' hρ htr => by
     refine ⟨rfl, fun h => (by cases h), fun b2 hb2 => ?_⟩
     cases hb2
     have hnew : w'.heap[w.heap.size]? = some (.cells ((os ++ vs).toArray ++ rest) e) := by rw [h7]; simp
     have hmul : (len + new.length) * sz0 ≤ cap * sz0 := Nat.mul_le_mul_right _ h1
     rw [Nat.add_mul] at hmul
     refine ⟨⟨_, e, (0, 0), hnew, ?_, by simp, by simp⟩, ?_, ?_⟩
     ·simp only [Array.size_append, List.size_toArray, List.length_append, h6, hsz', o1, e2]
      rw [← Nat.add_mul, ← Nat.add_mul]
      congr 1; omega
     ·simp only [Nat.zero_add, List.length_append, hll]
      rw [Nat.add_mul]; omega
     ·refine grown_row hi (by rw [hll]; exact o1) e2 o4 e5 (rest := #[]) (e := e) htr.kp fun j v hj => ?_
      have hjl : j < (os ++ vs).length := (List.getElem?_eq_some_iff.1 hj).1
      simp only [World.cell?, hnew, Nat.zero_add]
      rw [Array.getElem?_append_left (by simpa using hjl)]
      simpa using hj)
   refine ⟨_, w', _, hr0, k1, by simpa [hv] using k2, _, cap, ⟨r.ver + 1, some w.heap.size, 0, cap * sz0, sz0⟩, rfl, by rw [List.getElem?_set_self (List.getElem?_eq_some_iff.1 hr).1], by rw [hv]; exact Nat.le_refl _, fun _ => ⟨h1, h2, fun _ => ⟨w.heap.size, rfl, by simp, by simp⟩⟩⟩
 ·cases h
theorem appZ_done {m m' : Mem} (hi : Inv X w ρ m) {t u ty : TypeId} {d x y : AV} {vd vx : Value} {p : Prop} (hu0 : uk P u = .int .i64) (hd : R X w ρ d vd) (hx : R X w ρ x vx) (h : appZ P m t d x = some (m', y, p)) (hp : p) :
  ∃ v w' ρ', (Builtin.append_ #[t, u] ty #[vd, vx]).run P w = .ok v w' ∧ Tr w ρ w' ρ' ∧ Inv X w' ρ' m' ∧ R X w' ρ' y v := by
 unfold appZ at h
 split at h <;> (try (cases h; done))
 rename_i e n hut
 split at h <;> (try (cases h; done))
 rename_i z sz by_ hz hsz hby
 split at h <;> (try (cases h; done))
 rename_i hel
 simp only [Option.some.injEq, Prod.mk.injEq] at h
 obtain ⟨rfl, rfl, rfl⟩ := h
 obtain ⟨h1, hb, hmax, hzf, hzl⟩ := hp
 rw [R_val] at hx; subst hx
 obtain ⟨A, rfl⟩ := hd
 obtain ⟨i, z0, hinfo, hz0, hzs, hpos⟩ := elB_some hel
 obtain ⟨i', hi', hsz'⟩ := tsz_some hsz
 rw [hinfo] at hi'; cases hi'
 have hby' : i.bytes = by_ := by unfold tby at hby; simpa [hinfo] using hby
 obtain ⟨zv, hzv, hzR⟩ := zAV_some (P := P) (X := X) (w := w) (ρ := ρ) hz
 have hzv0 : zv = z0 := by simp [zeroValue, typeInfo, hinfo, hz0] at hzv; exact hzv.symm
 subst hzv0
 obtain ⟨zs, f1, f2, f3, f4⟩ := flat_cells hzf hzR
 have hzsz : zv.cells.size = sz := by rw [hzs, hsz']
 have hzlen : zs.length = sz := by omega
 obtain ⟨k, rfl⟩ : ∃ k : Nat, n = (k : Int) := ⟨n.toNat, by omega⟩
 have hk1 : 1 ≤ k := by omega
 have hwr : IntKind.i64.wrap (k : Int) = (k : Int) := by
  simp only [IntKind.wrap, IntKind.bits, IntKind.signed]
  simp
  omega
 have hbn : by_ * k ≤ 140737488355328 := Int.ofNat_le.1 (by rw [Int.natCast_mul]; exact hb)
 have hnc : ¬ (0 + k ≤ 0) := by omega
 have h63 : ¬ (9223372036854775807 < (k : Int)) := by omega
 have hfit := growslice_fits (need := k) (old := 0) (bytes := i.bytes) (by omega) (by rw [hby', Nat.mul_comm]; exact hbn)
 have h48 : ¬ (281474976710656 < Builtin.nextslicecap k 0 * i.bytes) := by omega
 have hneg : ¬ ((k : Int) < 0) := by omega
 have h48' : ¬ (281474976710656 < (k : Int) * (i.bytes : Int)) := by
  rw [hby']
  have : (k : Int) * (by_ : Int) ≤ 140737488355328 := by rw [Int.mul_comm]; exact hb
  omega
 have hks : ¬ (k = 0 ∨ i.size = 0) := by omega
 have hrun : (Builtin.append_ #[t, u] ty #[.slice A 0 0, .int .i64 k]).run P w = .ok (.slice (some ⟨w.heap.size, 0, none⟩) k (grownCap w k 0 e)) (w.drew.alloc (.cells (Builtin.zeroCells zv.cells k ++ Builtin.zeroCells zv.cells (grownCap w k 0 e - k)) e)) := by
  have hold : (Builtin.firstCells i.size 0 (.slice A 0 0)).run P w.drew = .ok #[] w.drew := firstCells_run (vs := []) (by simp) (fun h => absurd rfl h)
  simp [Builtin.append_, run_underlying (uk_slice hut), run_underlying (uk_int hu0), sizeOf, typeInfo, zeroValue, hinfo, hz0, asInt, asIntOf, hwr, hneg, h48', hnc, h63, h48, Question.forced, hold, newRow, grownCap, hks, Result.andThen]
  have hk0 : ¬ k = 0 := by omega
  have hks' : ¬ k * i.size = 0 := fun h => by rcases Nat.mul_eq_zero.1 h with h | h <;> omega
  rw [if_neg hk0, if_neg hks']
  rfl
 have hget : ∀ (q j : Nat), j < sz → q % sz = j → q < k * sz → ∀ u, zs[j]? = some u → (Builtin.zeroCells zv.cells k).toList[q]? = some u := by
  intro q j hj hk hlt u hu'
  have : (Builtin.zeroCells zv.cells k).toList[q]? = some (zv.cells[q % zv.cells.size]!) := by
   simp [Builtin.zeroCells, hzsz, hlt]
  rw [this, hzsz, hk, f1]
  have hj' : j < zs.length := by omega
  rw [List.getElem?_eq_getElem hj'] at hu'
  simp only [Option.some.injEq] at hu' ⊢
  rw [← hu']
  simp [hj']
 obtain ⟨r, q1, q2, q3, q4, q5, q6, q7⟩ := newBlock hi (w' := w.drew.alloc (.cells (Builtin.zeroCells zv.cells k ++ Builtin.zeroCells zv.cells (grownCap w k 0 e - k)) e)) (sz := sz) (l := List.replicate k z) (arr := Builtin.zeroCells zv.cells k ++ Builtin.zeroCells zv.cells (grownCap w k 0 e - k)) (vs := (Builtin.zeroCells zv.cells k).toList) (e := e)
  rfl rfl rfl rfl (by rw [Array.length_toList, size_zeroCells, hzsz]; simp) (fun j u hj => by
   have : j < (Builtin.zeroCells zv.cells k).size := by simpa using (List.getElem?_eq_some_iff.1 hj).1
   rw [Array.getElem?_append_left this]
   simpa using hj)
  (fun {w' ρ' b' o'} hk hc => Rrow_of_cells fun i1 y hy => by
   have hy0 := List.getElem?_replicate (a := z) (n := k) (i := i1)
   rw [hy] at hy0
   split at hy0
   ·rename_i hlt
    cases hy0
    refine Re_of_cells hzf hzl (Rcells_of fun j y' hj => ?_)
    obtain ⟨u, hu', hR⟩ := f2.nth hj
    have hjlt : j < sz := by have := (List.getElem?_eq_some_iff.1 hu').1; omega
    have hle : (i1 + 1) * sz ≤ k * sz := Nat.mul_le_mul_right _ hlt
    rw [Nat.add_mul, Nat.one_mul] at hle
    have := hc (i1 * sz + j) u (hget _ j hjlt (by rw [Nat.mul_comm, Nat.mul_add_mod]; exact Nat.mod_eq_of_lt hjlt) (by omega) u hu')
    rw [← Nat.add_assoc] at this
    exact ⟨u, this, f3 u (List.mem_of_getElem? hu'), R.mono hk hR⟩
   ·cases hy0)
 have hge := grownCap_ge w k 0 e
 refine ⟨_, _, _, hrun, q6, q7, some ⟨w.heap.size, 0, none⟩, grownCap w k 0 e, r, by simp, by rw [← hi.len]; exact last_get ρ r, by omega, fun _ => ⟨by simpa using hge, grownCap_le_maxLen _ _ _ _ (by simp only [maxLen]; omega), fun hp => ⟨w.heap.size, q2, by rw [q3]; simp, ?_⟩⟩⟩
 rw [q3, q4, q5]
 simp only [Array.size_append, size_zeroCells, hzsz, Nat.zero_add]
 rw [← Nat.add_mul]
 exact Nat.mul_le_mul_right _ (by omega)
theorem appA_done {m m' : Mem} (hi : Inv X w ρ m) {t u ty : TypeId} {d x y : AV} {vd vx : Value} {p : Prop} (hd : R X w ρ d vd) (hx : R X w ρ x vx) (h : appA P m t u d x = some (m', y, p)) (hp : p) :
  ∃ v w' ρ', (Builtin.append_ #[t, u] ty #[vd, vx]).run P w = .ok v w' ∧ Tr w ρ w' ρ' ∧ Inv X w' ρ' m' ∧ R X w' ρ' y v := by
 unfold appA at h
 split at h
 ·rename_i hu; exact appZ_done hi hu hd hx h hp
 ·exact appA0_done hi hd hx h hp
def cutA (n : Nat) : AV → AV
 | .lst sz l => .lst sz (l.take n)
 | .osl id ver off len => .osl id ver off (min n len)
 | x => x
theorem cut_rel {n : Nat} {x : AV} {m : Mem} {sz : Nat} {new : List AV} {A : Option Addr} {c : Nat} (hrow : rowOf m x = some (sz, new)) (h : R X w ρ x (.slice A new.length c)) (hs : srcOk m x) :
  R X w ρ (cutA n x) (.slice A (min n new.length) c) ∧ rowOf m (cutA n x) = some (sz, new.take n) ∧ srcOk m (cutA n x) := by
 cases x <;> simp only [rowOf, reduceCtorEq, Option.some.injEq, Prod.mk.injEq] at hrow
 case lst sz' l =>
  obtain ⟨rfl, rfl⟩ := hrow
  obtain ⟨A', c', h1, h2, h3, h4⟩ := h
  simp only [Value.slice.injEq, true_and] at h1
  obtain ⟨rfl, rfl⟩ := h1
  refine ⟨⟨A, c, by simp [cutA], by simp; omega, h3, fun hne => ?_⟩, rfl, trivial⟩
  obtain ⟨b, o, e1, e2, e3, e4⟩ := h4 (fun e => hne (by rw [e]; simp))
  exact ⟨b, o, e1, e2, e3, e4.take n⟩
 case emp =>
  obtain ⟨rfl, rfl⟩ := hrow
  obtain ⟨A', h1⟩ := h
  simp only [Value.slice.injEq] at h1
  obtain ⟨rfl, _, rfl⟩ := h1
  exact ⟨⟨A, by simp⟩, by simp [cutA, rowOf], trivial⟩
 case osl id ver off len =>
  split at hrow <;> (try (cases hrow; done))
  rename_i v sz0 l hm
  split at hrow <;> (try (cases hrow; done))
  rename_i hv
  simp only [Option.some.injEq, Prod.mk.injEq] at hrow
  obtain ⟨rfl, rfl⟩ := hrow
  obtain ⟨A', c', r, h1, h2, h3, h4⟩ := h
  simp only [Value.slice.injEq] at h1
  obtain ⟨rfl, hlen, rfl⟩ := h1
  simp only [srcOk, hm] at hs
  have hl : ((l.drop off).take len).length = len := by simp; omega
  refine ⟨⟨A, c, r, by rw [hl], h2, h3, fun e => ?_⟩, ?_, ?_⟩
  ·obtain ⟨q1, q2, q3⟩ := h4 e
   exact ⟨by omega, q2, q3⟩
  ·simp only [cutA, rowOf, hm, if_pos hv, List.take_take]
  ·simp only [cutA, srcOk, hm]; omega
theorem Rrow.kept {X : Nat → Prop} {w w' : World} {ρ ρ' : Rho} (hk : Kp X w ρ w' ρ') {l : List AV} {sz b o : Nat} (h : Rrow X w ρ l sz b o) (hc : ∀ k, o ≤ k → k < o + l.length * sz → w'.cell? ⟨b, k, none⟩ = w.cell? ⟨b, k, none⟩) : Rrow X w' ρ' l sz b o := by
 obtain ⟨vs, v1, v2, v3, v4⟩ := h.vals
 refine v4 hk fun j v hj => ?_
 have := (List.getElem?_eq_some_iff.1 hj).1
 rw [hc (o + j) (by omega) (by omega)]
 exact v2 j v hj
theorem copyA_done {m m' : Mem} (hi : Inv X w ρ m) {t u ty : TypeId} {d x y : AV} {vd vx : Value} {p : Prop} (hd : R X w ρ d vd) (hx : R X w ρ x vx) (h : copyA P m t d x = some (m', y, p)) (hp : p) :
  ∃ v w' ρ', (Builtin.copy_ #[t, u] ty #[vd, vx]).run P w = .ok v w' ∧ Tr w ρ w' ρ' ∧ Inv X w' ρ' m' ∧ R X w' ρ' y v := by
 unfold copyA at h
 split at h <;> (try (cases h; done))
 rename_i e id ver off len sz' new hut hrow
 split at h <;> (try (cases h; done))
 rename_i sz v sz0 l hsz hm
 split at h <;> (try (cases h; done))
 rename_i hc
 obtain ⟨rfl, rfl, rfl⟩ := hc
 simp only [Option.some.injEq, Prod.mk.injEq] at h
 obtain ⟨rfl, rfl, rfl⟩ := h
 obtain ⟨hfit0, hs, hszp⟩ := hp
 obtain ⟨i, hinfo, hsz'⟩ := tsz_some hsz
 have hso : ∀ (y : AV), srcOk m y → ∀ id ver off len, y = .osl id ver off len → ∀ e, m[id]? = some e → ∃ sz' l', e.kind = .row sz' l' ∧ off + len ≤ l'.length := by
  intro y hy id ver off len hxe e he
  subst hxe
  simp only [srcOk, he] at hy
  obtain ⟨v, k⟩ := e
  cases k with
  | row s l => exact ⟨s, l, rfl, hy⟩
  | dfr => exact hy.elim
  | lrec => exact hy.elim
  | mp => exact hy.elim
  | ext => exact hy.elim
 obtain ⟨A', c', _, rfl, _⟩ := rowOf_vals hi hx hrow (hso x hs)
 obtain ⟨k1, k2, k3⟩ := cut_rel (n := len) hrow hx hs
 obtain ⟨A2, c2, vs, e1, _, _, e4, e5, e6, e7⟩ := rowOf_vals hi k1 k2 (hso _ k3)
 simp only [Value.slice.injEq] at e1
 obtain ⟨rfl, _, rfl⟩ := e1
 obtain ⟨r, hr, hv, hrz, hnone, hblk⟩ := hi.row hm
 obtain ⟨A, c, r', rfl, hr', hle, hat⟩ := hd
 rw [hr] at hr'; cases hr'
 obtain ⟨hl, hcm, hpos⟩ := hat hv.symm
 have hn : (new.take len).length = Nat.min new.length len := by simp [Nat.min_comm]
 have hfc := firstCells_run (P := P) (w := w) (A := A') (len := new.length) (c := c') (size := sz') (n := Nat.min new.length len) (vs := vs) (by rw [e4, hn]) e5
 have hrunT : ∀ (w' : World), (match A with | some a => (storeCells a vs).run P w = .ok () w' | none => w' = w) → (Builtin.copy_ #[t, u] ty #[.slice A len c, .slice A' new.length c']).run P w = .ok (goInt (Nat.min new.length len)) w' := by
  intro w' hw'
  cases A with
  | none =>
   simp only at hw'; subst hw'
   simp [Builtin.copy_, run_underlying (uk_slice hut), sizeOf, typeInfo, hinfo, Builtin.lenOf, hsz', hfc, Result.andThen]
  | some a =>
   simp only at hw'
   simp [Builtin.copy_, run_underlying (uk_slice hut), sizeOf, typeInfo, hinfo, Builtin.lenOf, hsz', hfc, hw', Result.andThen]
 have hval : ∀ (w' : World), R X w' ρ (.int ((new.take len).length : Nat)) (goInt (Nat.min new.length len)) := fun w' => by rw [hn]; rfl
 by_cases hz : vs = []
 ·subst hz
  have hsame : m.set id ⟨v, .row sz' (putR l off (new.take len))⟩ = m := by
   by_cases h0 : new.take len = []
   ·have : putR l off (new.take len) = l := by unfold putR; rw [h0]; simp
    rw [this]
    refine List.ext_getElem? fun j => ?_
    by_cases hj : id = j
    ·subst hj; rw [List.getElem?_set_self (List.getElem?_eq_some_iff.1 hm).1, hm]
    ·rw [List.getElem?_set_ne hj]
   ·
    exfalso
    have hlp : 0 < (new.take len).length := List.length_pos_iff.2 h0
    have := e4
    simp only [List.length_nil] at this
    rcases Nat.mul_eq_zero.1 this.symm with h | h <;> omega
  refine ⟨_, w, ρ, hrunT w ?_, Tr.refl w ρ, by rw [hsame]; exact hi, hval w⟩
  cases A with
  | none => rfl
  | some a => rfl
 ·have hvp : 0 < vs.length := List.length_pos_iff.2 hz
  have hnp : 0 < (new.take len).length := by
   rcases Nat.eq_zero_or_pos (new.take len).length with h | h
   ·rw [e4, h, Nat.zero_mul] at hvp; omega
   ·exact h
  have hlen0 : 0 < len := by simp at hnp; omega
  obtain ⟨b, hb, rfl, hfit⟩ := hpos (by omega)
  obtain ⟨⟨arr, e', fr, ha1, ha2, ha3, ha4⟩, hfit', hrow'⟩ := hblk b hb
  have hrowat : RowAt w b arr := ⟨e', fr, ha1, ha3, ha4⟩
  have hle2 : (new.take len).length ≤ len := by simp; omega
  have hmul : (new.take len).length * sz' ≤ len * sz' := Nat.mul_le_mul_right _ hle2
  have hspace : (off + len) * sz' ≤ l.length * sz' := Nat.mul_le_mul_right _ hfit0
  rw [Nat.add_mul] at hspace
  obtain ⟨w', arr', g1, g2, g3, g4, g5⟩ := run_storeCells_row (P := P) vs (o := r.base + off * r.sz) (i := 0) hrowat (by rw [hrz, e4]; omega) e6
  have htr := Tr.turn hr hb g3
  have hpl : (putR l off (new.take len)).length = l.length := by
   unfold putR; simp only [List.length_append, List.length_take, List.length_drop]; simp at hle2; omega
  refine ⟨_, w', ρ, hrunT w' g1, htr, ?_, hval w'⟩
  have hcell : ∀ k, w'.cell? ⟨b, k, none⟩ = if r.base + off * sz' ≤ k ∧ k < r.base + off * sz' + vs.length then vs[k - (r.base + off * sz')]? else w.cell? ⟨b, k, none⟩ := by
   intro k
   rw [g2.cell, g5, hrowat.cell, hrz]
   simp only [Nat.add_zero]
  refine hi.write hr hb hv g3 hrz g2 (by omega) (by rw [hpl]; simpa using hfit') ?_
  unfold putR
  have hol : (l.take off).length = off := by simp; omega
  refine Rrow.append ?_ (Rrow.append ?_ ?_)
  ·refine (hrow'.take off).kept htr.kp fun k h1 h2 => ?_
   rw [hol] at h2
   rw [hcell, if_neg (by omega)]
  ·rw [hol]
   refine e7 htr.kp fun j u hj => ?_
   have hjl := (List.getElem?_eq_some_iff.1 hj).1
   rw [hcell, if_pos (by omega), show r.base + off * sz' + j - (r.base + off * sz') = j by omega]
   exact hj
  ·rw [hol]
   have := (hrow'.drop (off + (new.take len).length)).kept htr.kp (w' := w') fun k h1 h2 => by
    rw [hcell, if_neg]
    rw [Nat.add_mul] at h1
    omega
   rw [Nat.add_mul, ← Nat.add_assoc] at this
   exact this
end Go.Vg
