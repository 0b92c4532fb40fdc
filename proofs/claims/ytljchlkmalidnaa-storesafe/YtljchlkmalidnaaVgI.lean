/- The abstract machine, part I: contracts of functions; entering and leaving them; calls. -/
import Derived.Test.YtljchlkmalidnaaVgH2
import Derived.RangeFuncLeaves
import Derived.RangeFuncRecord
set_option linter.all false
set_option linter.unusedVariables false
namespace Go.Vg
open Go.RowKit
variable {P : Program} {X : Nat → Prop} {w : World} {ρ : Rho}

def res1 (P : Program) (s : S) : ResultVar → Option (AV × Prop)
  | .tmp t => some (look s.t t, True)
  | .cell a ty => loadA P s.m ty (look s.t a)

def resL (P : Program) (s : S) : List ResultVar → Option (List AV × Prop)
  | [] => some ([], True)
  | r :: rs =>
    match res1 P s r, resL P s rs with
    | some (x, p), some (xs, q) => some (x :: xs, p ∧ q)
    | _, _ => none

def packRes : List AV → AV
  | [x] => x
  | xs => .tup xs

theorem asAddr_load {ty : TypeId} {v u : Value} (h : (Instr.loadAt ty v).run P w = .ok u w) : (do loadVar ty (← asAddr v) : Sem Value).run P w = .ok u w := by
  unfold Instr.loadAt at h
  cases v <;> simp [Instr.sureAddr] at h
  rename_i a
  cases a with
  | none => simp at h
  | some a => simpa [asAddr] using h

def resF (tmps : Array Value) : ResultVar → Sem Value
  | .tmp t => pure (tmps.getD t undef)
  | .cell a t => do loadVar t (← asAddr (tmps.getD a undef))

theorem results_eq (fn : Func) (tmps : Array Value) : results fn tmps = (do let vs ← fn.results.mapM (resF tmps); pure (if h : vs.size = 1 then vs[0] else .tuple vs)) := by
  unfold results
  have : (fun (x : ResultVar) => (match x with | .tmp t => pure (tmps.getD t undef) | .cell a t => do loadVar t (← asAddr (tmps.getD a undef)) : Sem Value)) = resF tmps := by
    funext x; cases x <;> rfl
  rw [← this]
  rfl

theorem res1_run {s : S} {a : Act} (hr : Rel X s a w ρ) {rv : ResultVar} {x : AV} {p : Prop} (h : res1 P s rv = some (x, p)) (hp : p) :
    ∃ v, (resF a.tmps rv).run P w = .ok v w ∧ R X w ρ x v := by
  cases rv with
  | tmp t =>
    simp only [res1, Option.some.injEq, Prod.mk.injEq] at h
    obtain ⟨rfl, rfl⟩ := h
    exact ⟨_, rfl, hr.tmps t⟩
  | cell b ty =>
    obtain ⟨v, h1, h2⟩ := loadA_run (P := P) hr.inv (hr.tmps b) h hp
    exact ⟨v, asAddr_load h1, h2⟩

theorem resL_run {s : S} {a : Act} (hr : Rel X s a w ρ) : ∀ (rs : List ResultVar) {xs : List AV} {p : Prop}, resL P s rs = some (xs, p) → p →
    ∃ vs : List Value, (rs.mapM (resF a.tmps)).run P w = .ok vs w ∧ Rvals X w ρ xs vs
  | [], xs, p, h, hp => by
    simp only [resL, Option.some.injEq, Prod.mk.injEq] at h
    obtain ⟨rfl, rfl⟩ := h
    exact ⟨[], by simp, rfl⟩
  | rv :: rs, xs, p, h, hp => by
    unfold resL at h
    split at h
    · rename_i x q xs' q' h1 h2
      simp only [Option.some.injEq, Prod.mk.injEq] at h
      obtain ⟨rfl, rfl⟩ := h
      obtain ⟨v, k1, k2⟩ := res1_run hr h1 hp.1
      obtain ⟨vs, k3, k4⟩ := resL_run hr rs h2 hp.2
      exact ⟨v :: vs, by simp only [List.mapM_cons, Sem.run_bind, k1, Result.andThen_ok, k3, Sem.run_pure], v, vs, rfl, k2, k4⟩
    · cases h

theorem results_run {s : S} {a : Act} (hr : Rel X s a w ρ) {fn : Func} {xs : List AV} {p : Prop} (h : resL P s fn.results.toList = some (xs, p)) (hp : p) :
    ∃ v, (results fn a.tmps).run P w = .ok v w ∧ R X w ρ (packRes xs) v := by
  obtain ⟨vs, h1, h2⟩ := resL_run hr fn.results.toList h hp
  refine ⟨if hh : vs.toArray.size = 1 then vs.toArray[0] else .tuple vs.toArray, ?_, ?_⟩
  · rw [results_eq, Array.mapM_eq_mapM_toList]
    simp only [Sem.run_bind, Sem.run_map, h1, Result.andThen_ok, Sem.run_pure]
  · cases xs with
    | nil => cases h2; exact ⟨[], by simp, rfl⟩
    | cons x xs =>
      obtain ⟨v, vs', rfl, k1, k2⟩ := h2
      cases xs with
      | nil => cases k2; simpa [packRes] using k1
      | cons y xs =>
        obtain ⟨v', vs'', rfl, k3, k4⟩ := k2
        refine ⟨v :: v' :: vs'', by simp, v, v' :: vs'', rfl, k1, v', vs'', rfl, k3, k4⟩

/-- the contract of a function, in whatever world in which the entries m lie -/
def Spec (P : Program) (f : FuncId) (args : List AV) (m : Mem) (Q : AV → Mem → Prop) : Prop :=
  ∀ (X : Nat → Prop) (w : World) (ρ : Rho) (vs : List Value), Inv X w ρ m → Rvals X w ρ args vs →
    Calls P f vs.toArray w fun e w' => ∃ v x m' ρ', e = .returned v ∧ Q x m' ∧ R X w' ρ' x v ∧ Inv X w' ρ' m' ∧ Tr w ρ w' ρ'

/-- a function that turns nothing that was there, and hands back x -/
def Pure (P : Program) (f : FuncId) (args : List AV) (x : AV) : Prop := Spec P f args [] fun x' m' => x' = x ∧ m' = []

theorem Spec.mono {f : FuncId} {args : List AV} {m : Mem} {Q Q' : AV → Mem → Prop} (h : Spec P f args m Q) (hq : ∀ x m', Q x m' → Q' x m') : Spec P f args m Q' :=
  fun X w ρ vs hi hr => (h X w ρ vs hi hr).mono fun e w' ⟨v, x, m', ρ', e1, q, k1, k2, k3⟩ => ⟨v, x, m', ρ', e1, hq x m' q, k1, k2, k3⟩

def zipArgs : Nat → List AV → List (Nat × AV)
  | _, [] => []
  | k, x :: xs => (k, x) :: zipArgs (k + 1) xs

theorem look_zip : ∀ (xs : List AV) (k n : Nat), look (zipArgs k xs) n = if n < k then .any else xs.getD (n - k) .any
  | [], k, n => by simp [zipArgs, look]
  | x :: xs, k, n => by
    simp only [zipArgs, look]
    rw [look_zip xs (k + 1) n]
    by_cases h : k = n
    · subst h; simp
    · rw [if_neg h]
      by_cases h1 : n < k
      · rw [if_pos (by omega), if_pos h1]
      · rw [if_neg (by omega), if_neg h1]
        rw [show n - k = (n - (k + 1)) + 1 by omega]
        simp

/-- the state in which a function is entered -/
def entry (args : List AV) (m : Mem) (n : Nat) : S := { t := zipArgs 0 args, m := m, n := n, d := [] }

/-- the blocks of the marks are shut -/
def kill (m : Mem) (d : List (Nat × Nat)) : Mem := d.foldl (fun m q => m.set q.1 ⟨q.2 + 1, .row 0 []⟩) m

/-- what is asked where a function is left: k entries stay -/
def leaves (P : Program) (rs : List ResultVar) (k : Nat) (Q : AV → Mem → Prop) : Exit → S → Prop
  | .normal, s | .ret, s => (∀ q ∈ s.d, s.m[q.1]? = some ⟨q.2, .dfr⟩) ∧ (s.d.map (·.1)).Nodup ∧ ∃ xs p, resL P { s with m := kill s.m s.d, d := [] } rs = some (xs, p) ∧ p ∧ (packRes xs).ok k ∧ (∀ e ∈ (kill s.m s.d).take k, e.kind.ok k) ∧ Q (packRes xs) ((kill s.m s.d).take k)
  | _, _ => False

theorem leave_marks {fn : Func} {C : Ending → World → Prop} : ∀ (d : List (Nat × Nat)) (s : S) (a : Act) (w : World) (ρ : Rho), s.d = d → Rel X s a w ρ → (∀ q ∈ d, s.m[q.1]? = some ⟨q.2, .dfr⟩) → (d.map (·.1)).Nodup →
    (∀ (w' : World) (ρ' : Rho), Rel X { s with m := kill s.m d, d := [] } { a with defers := [] } w' ρ' → Tr w ρ w' ρ' → LeavesIn Fence.wide 0 P fn a.tmps C [] .returning w') → LeavesInM Fence.wide 0 P fn a.tmps C a.defers .returning w
  | [], s, a, w, ρ, hd, hr, _, _, hfin => by
    have hdef : a.defers = [] := by
      have := hr.defers
      rw [hd] at this
      cases hdd : a.defers with
      | nil => rfl
      | cons x l => rw [hdd] at this; obtain ⟨id, ver, r, b, d', e1, _⟩ := this; cases e1
    rw [hdef]
    refine hfin w ρ ?_ (Tr.refl w ρ)
    have e1 : { s with m := kill s.m [], d := [] } = s := by cases s; simp only at hd; subst hd; rfl
    have e2 : ({ a with defers := [] } : Act) = a := by cases a; simp only at hdef; subst hdef; rfl
    rw [e1, e2]; exact hr
  | (id, ver) :: d, s, a, w, ρ, hd, hr, hm, hnd, hfin => by
    have hdd := hr.defers
    rw [hd] at hdd
    cases hda : a.defers with
    | nil => rw [hda] at hdd; cases hdd
    | cons x l =>
      rw [hda] at hdd
      obtain ⟨id', ver', r, b, d', e1, h1, h2, h3, h4⟩ := hdd
      cases e1
      have hmi := hm (id, ver) (by simp)
      simp only at hmi
      obtain ⟨q0, b0, q1, q2⟩ := hr.inv.at_ id r _ h1 hmi
      simp only at q0
      obtain ⟨hb, hx⟩ := h3 q0.symm
      rw [hb] at q1; cases q1
      refine ⟨by simp, .inl ⟨b, w.putObj b (.deferred none), by rw [hx], run_takeDeferred q2, ?_⟩⟩
      have hlt : b < w.heap.size := (hr.inv.new id r b h1 hb).1
      obtain ⟨t1, t2⟩ := hr.inv.renew h1 (r' := ⟨r.ver + 1, none, 0, 0, 0⟩) (w' := w.putObj b (.deferred none)) (k := .row 0 []) rfl rfl rfl (by simp) rfl (fun b2 _ hb2 => World.putObj_heap_other (fun e => hb2 (by rw [e]; exact hb))) (fun b2 h => by cases h) (fun ρ' _ _ => ⟨rfl, fun _ => rfl, fun b2 h => by cases h⟩)
      rw [q0] at t1 t2
      have hr2 := hr.step t1 t2
      have hr3 : Rel X { s with m := s.m.set id ⟨ver + 1, .row 0 []⟩, d := d } { a with defers := l } (w.putObj b (.deferred none)) (ρ.set id ⟨ver + 1, none, 0, 0, 0⟩) :=
        ⟨hr2.tmps, hr2.size, hr2.inv, marksOf.kp t1.vers h4⟩
      refine leave_marks d { s with m := s.m.set id ⟨ver + 1, .row 0 []⟩, d := d } { a with defers := l } _ _ rfl hr3 (fun q hq => ?_) (by simp at hnd ⊢; exact hnd.2) (fun w' ρ' h5 h6 => hfin w' ρ' ?_ (t1.trans h6))
      · have hne : q.1 ≠ id := by
          simp only [List.map_cons, List.nodup_cons, List.mem_map] at hnd
          exact fun e => hnd.1 ⟨q, hq, e⟩
        simp only
        rw [List.getElem?_set_ne (Ne.symm hne)]
        exact hm q (by simp [hq])
      · exact h5

theorem Spec.of_body {f : FuncId} {fn : Func} {c : Code} {args : List AV} {m : Mem} {Q : AV → Mem → Prop} (hf : P.funcs[f]? = some fn) (hb : fn.body = some c) (hn : args.length ≤ fn.ntmps) (k : Nat) (hk : m.length ≤ k)
    (h : Wp P none c (leaves P fn.results.toList k Q) (entry args m fn.ntmps)) : Spec P f args m Q := by
  intro X w ρ vs hi hr
  refine (callsIn_wide (n := 0)).1 (callsIn_of_wp_marks (F := Fence.wide) hf hb trivial ?_ rfl)
  have hlen := hr.len
  have hrel : Rel X (entry args m fn.ntmps) { tmps := vs.toArray ++ Array.replicate (fn.ntmps - vs.toArray.size) undef, defers := [] } w ρ := by
    refine ⟨fun n => ?_, by simp [entry]; omega, hi, rfl⟩
    simp only [entry]
    rw [look_zip]
    simp only [Nat.not_lt_zero, if_false, Nat.sub_zero]
    by_cases hlt : n < args.length
    · obtain ⟨v, h1, h2⟩ := hr.nth (List.getElem?_eq_getElem hlt)
      have e1 : args.getD n .any = args[n] := by simp [hlt]
      have e2 : (vs.toArray ++ Array.replicate (fn.ntmps - vs.toArray.size) undef).getD n undef = v := by
        have hv : n < vs.length := by omega
        have : vs[n] = v := by rw [List.getElem?_eq_getElem hv] at h1; exact Option.some.inj h1
        simp [Array.getElem?_append, hv, this]
      rw [e1, e2]; exact h2
    · have : args.getD n .any = .any := by simp [hlt]
      rw [this]; trivial
  refine Go.wpIn_mono (h X _ w ρ hrel) ?_
  rintro e a' w' ⟨s', ρ', q, k1, k2⟩
  have fin : leaves P fn.results.toList k Q .ret s' → LeavesInM Fence.wide 0 P fn a'.tmps (fun e w' => ∃ v x m' ρ', e = .returned v ∧ Q x m' ∧ R X w' ρ' x v ∧ Inv X w' ρ' m' ∧ Tr w ρ w' ρ') a'.defers .returning w' := by
    rintro ⟨hd, hnd, xs, p, h1, h2, h3, h4, h5⟩
    refine leave_marks s'.d s' a' w' ρ' rfl k1 hd hnd fun w2 ρ2 k3 k4 => ?_
    obtain ⟨v, h6, h7⟩ := results_run k3 h1 h2
    exact ⟨v, h6, v, packRes xs, (kill s'.m s'.d).take k, ρ2.take k, rfl, h5, (Rp.take k _ h3).1 v h7, k3.inv.take k h4, (k2.trans k4).take (by rw [hi.len]; exact hk)⟩
  cases e with
  | normal => exact fin q
  | ret => exact fin q
  | exit id => exact q.elim
  | goto l => exact q.elim
  | panic ch => exact q.elim
  | outgrown => exact q.elim
end Go.Vg
