/- The abstract machine, part R: ghost steps; calls that make or write memory; leaving a function. -/
import Derived.Test.YtljchlkmalidnaaVgQ
set_option linter.all false
set_option linter.unusedVariables false
namespace Go.Vg
open Go.RowKit
variable {P : Program} {X : Nat → Prop} {w : World} {ρ : Rho}

theorem Rel.setT {s : S} {a : Act} (h : Rel X s a w ρ) {n : Nat} {x : AV} (hx : R X w ρ x (a.tmps.getD n undef)) : Rel X { s with t := (n, x) :: s.t } a w ρ := by
  refine ⟨fun k => ?_, h.size, h.inv, h.defers⟩
  simp only [look]
  split
  · rename_i e; subst e; exact hx
  · exact h.tmps k

/-- an empty slice without capacity becomes an entry of our own -/
theorem Wp.adopt {r : Option Nat} {c : Code} {Q : Exit → S → Prop} {s : S} (n sz : Nat) (h : look s.t n = .emp) (k : Wp P r c Q { s with t := (n, .osl s.m.length 0 0 0) :: s.t, m := s.m ++ [(⟨0, .row sz []⟩ : Ent)] }) : Wp P r c Q s := by
  intro X a w ρ hr
  obtain ⟨t1, t2⟩ := hr.inv.adopt sz
  have hr2 := hr.step t1 t2
  have hv := hr.tmps n
  rw [h] at hv
  obtain ⟨A, hA⟩ := hv
  have hr3 : Rel X { s with t := (n, .osl s.m.length 0 0 0) :: s.t, m := s.m ++ [(⟨0, .row sz []⟩ : Ent)] } a w (ρ ++ [⟨0, none, 0, 0, sz⟩]) :=
    hr2.setT ⟨A, 0, ⟨0, none, 0, 0, sz⟩, hA, by rw [← hr.inv.len]; exact last_get ρ _, Nat.le_refl _, fun _ => ⟨Nat.le_refl _, Nat.zero_le _, fun h => absurd h (Nat.lt_irrefl 0)⟩⟩
  exact Go.wpIn_mono (k X a w _ hr3) fun e a' w' ⟨s', ρ', q, k1, k2⟩ => ⟨s', ρ', q, k1, t1.trans k2⟩

theorem Rel.freeze {s : S} {a : Act} (hr : Rel X s a w ρ) (n : Nat) {id ver off len sz : Nat} {l : List AV} (h : look s.t n = .osl id ver off len) (hm : s.m[id]? = some ⟨ver, .row sz l⟩) (hlen : off + len ≤ l.length) (hsz : 0 < sz) :
    ∃ ρ', Rel X { s with t := (n, .lst sz ((l.drop off).take len)) :: s.t, m := s.m.set id ⟨ver + 1, .row sz []⟩ } a w ρ' ∧ Tr w ρ w ρ' := by
  obtain ⟨r0, h0, hv, hrz, hnone, hblk⟩ := hr.inv.row hm
  obtain ⟨t1, t2⟩ := hr.inv.renew h0 (r' := ⟨r0.ver + 1, none, 0, 0, sz⟩) (w' := w) (k := .row sz []) rfl rfl rfl (Nat.le_refl _) rfl (fun _ _ _ => rfl) (fun b h => by cases h) (fun ρ' _ _ => ⟨rfl, fun _ => rfl, fun b h => by cases h⟩)
  rw [hv] at t1 t2
  have hr2 := hr.step t1 t2
  have hx := hr.tmps n
  rw [h] at hx
  obtain ⟨A, c0, r1, hA, h1, hle, hat⟩ := hx
  rw [h0] at h1; cases h1
  obtain ⟨hl, hcm, hpos⟩ := hat hv.symm
  have hll : ((l.drop off).take len).length = len := by simp; omega
  have hr3 : Rel X { s with t := (n, .lst sz ((l.drop off).take len)) :: s.t, m := s.m.set id ⟨ver + 1, .row sz []⟩ } a w (ρ.set id ⟨ver + 1, none, 0, 0, sz⟩) := by
    refine hr2.setT ⟨A, c0, by rw [hA, hll], by omega, hcm, fun hne => ?_⟩
    have h0' : 0 < len := by
      rcases Nat.eq_zero_or_pos len with e | e
      · subst e; simp at hne
      · exact e
    obtain ⟨b, hb, hA', hfit⟩ := hpos (by omega)
    obtain ⟨_, _, hrow⟩ := hblk b hb
    refine ⟨b, r0.base + off * r0.sz, hA', ⟨(hr.inv.new id r0 b h0 hb).2, fun r' hr' hb' => ?_⟩, hsz, ?_⟩
    · obtain ⟨i, hi'⟩ := List.getElem?_of_mem hr'
      rcases getElem?_set_cases hi' with ⟨_, _, rfl⟩ | ⟨hne', h2⟩
      · cases hb'
      · exact hne' (hr.inv.apart i id r' r0 b h2 h0 hb' hb)
    · rw [hrz]
      exact Rrow.mono t1.kp _ sz b _ (fun _ => rfl) ((hrow.drop off).take len)
  exact ⟨_, hr3, t1⟩

/-- nobody writes an own slice any more -/
theorem Wp.freeze {r : Option Nat} {c : Code} {Q : Exit → S → Prop} {s : S} (n : Nat) {id ver off len sz : Nat} {l : List AV} (h : look s.t n = .osl id ver off len) (hm : s.m[id]? = some ⟨ver, .row sz l⟩) (hlen : off + len ≤ l.length) (hsz : 0 < sz)
    (k : Wp P r c Q { s with t := (n, .lst sz ((l.drop off).take len)) :: s.t, m := s.m.set id ⟨ver + 1, .row sz []⟩ }) : Wp P r c Q s := by
  intro X a w ρ hr
  obtain ⟨ρ1, hr3, t1⟩ := hr.freeze n h hm hlen hsz
  exact Go.wpIn_mono (k X a w _ hr3) fun e a' w' ⟨s', ρ', q, k1, k2⟩ => ⟨s', ρ', q, k1, t1.trans k2⟩

/-- a slice that came in is no longer than a slice can be -/
theorem Wp.len {r : Option Nat} {c : Code} {Q : Exit → S → Prop} {s : S} (n : Nat) {sz : Nat} {l : List AV} (h : look s.t n = .lst sz l) (k : l.length ≤ 9223372036854775807 → Wp P r c Q s) : Wp P r c Q s := by
  intro X a w ρ hr
  have hx := hr.tmps n
  rw [h] at hx
  obtain ⟨A, c0, _, h1, h2, _⟩ := hx
  exact k (by simp only [maxLen] at h2; omega) X a w ρ hr

section
variable {gds : List (Option Nat)} {o : Oper} {l : List Oper} {Q : S → Prop} {s : S}

/-- a call of a function that turns nothing and hands back data that nobody owns; nothing is lent -/
theorem Pure.yieldF {t : List (Nat × AV)} {m : Mem} {fo : Operand} {args : List Operand} {tys : Array TypeId} (ho : o.op = callOp fo args tys) {g : Option Bool} (hg : gvalO gds t o.guard = some g)
    (hok : gOk t g (fo :: args)) {f : FuncId} {caps : List AV} (hf : fnOf (evoG t g fo) = some (f, caps)) (he : Enters P f) {vargs : List AV} {x : AV} (hc : Pure P f vargs x)
    (hv : args.map (evoG t g) ++ caps = vargs) (hk : okL 0 vargs) (hp : x.ok 0) : Yield P gds t m o (optG g x) := by
  refine ⟨fun c e => (by rw [ho] at e; cases e), fun X w ρ a hi hr hn => ?_⟩
  have hcall : ∀ (hb : g = none ∨ g = some true), Gives P o a w fun v w' => R X w' ρ x v ∧ Inv X w' ρ m ∧ Tr w ρ w' ρ := by
    intro hb
    obtain ⟨h1, h2⟩ := onames_call (fo := fo) (args := args) (tys := tys) (t := t) (a := a) (X := X) (w := w) (ρ := ρ) (fun n hn => hr n (.inr (by rw [ho]; exact hn)))
    have h3 := evoG_rel hok hb (a := a) (X := X) (w := w) (ρ := ρ) (by intro y hy; cases hy with | head => exact h1 | tail _ hy => exact h2 y hy)
    obtain ⟨cs, hcs, hcr⟩ := fnOf_rel hf (h3 fo (by simp))
    have hrun := run_call (P := P) (w := w) ho hcs he
    have hargs : Rvals X w ρ (args.map (evoG t g) ++ caps) (args.map a.eval ++ cs) := (Rvals_map args fun y hy => h3 y (by simp [hy])).append hcr
    rw [hv] at hargs
    refine .inr ⟨f, _, hrun, ?_⟩
    have hcv := hc (owned X ρ) w [] (args.map a.eval ++ cs) (Inv.empty (hg := hi.gd.nil fun _ h => free_owned.2 h) fun b h => by
        rcases h with h | ⟨r, hr', hb'⟩
        · exact hi.out b h
        · obtain ⟨i, hi', rfl⟩ := List.getElem_of_mem hr'; exact (hi.new i _ b (List.getElem?_eq_getElem hi') hb').1)
      (Rvals.eyes (fun b h => free_owned.2 h) vargs hk _ hargs)
    refine hcv.mono ?_
    rintro e w' ⟨v, x', m', ρ', rfl, ⟨rfl, rfl⟩, k1, k2, k3⟩
    have hρ' : ρ' = [] := List.eq_nil_of_length_eq_zero (by have := k2.len; simpa using this)
    subst hρ'
    exact ⟨v, rfl, (Rp.eyes (fun b h => free_owned.1 h) x' hp).1 v k1, hi.keep k3, k3.keep ρ fun r hr' b hb' => by obtain ⟨i, hi', rfl⟩ := List.getElem_of_mem hr'; exact (hi.new i _ b (List.getElem?_eq_getElem hi') hb').1⟩
  cases hgd : o.guard with
  | none =>
    rw [hgd] at hg
    simp only [gvalO, Option.some.injEq] at hg
    subst hg
    exact ⟨fun _ => hcall (.inl rfl), fun hw => by simp [Region.wanted, hgd] at hw⟩
  | some gg =>
    rw [hgd] at hg
    simp only [gvalO, Option.map_eq_some_iff] at hg
    obtain ⟨b, hb, rfl⟩ := hg
    have hw := gval_wanted (a := a) hgd (fun n hn' => ⟨hr n (.inl hn'), hn n hn'⟩) hb
    rw [hw]
    refine ⟨fun hbt => ?_, fun hbf => ⟨fun e => (by rw [hbf] at e; cases e), fun _ => rfl⟩⟩
    subst hbt
    rcases hcall (.inr rfl) with ⟨v, w', q1, q2, q3, q4⟩ | ⟨f', args', q1, q2⟩
    · exact .inl ⟨v, w', q1, ⟨fun _ => q2, fun e => (by cases e)⟩, q3, q4⟩
    · exact .inr ⟨f', args', q1, q2.mono fun e w' ⟨v, e1, q2, q3, q4⟩ => ⟨v, e1, ⟨fun _ => q2, fun e => (by cases e)⟩, q3, q4⟩⟩

theorem Run.pureF {fo : Operand} {args : List Operand} {tys : Array TypeId} {dst : Option Nat} {type : TypeId} {pos : String} {after : Array Edge} {g : Option Bool} {guard : Option (Nat × Bool)} {f : FuncId} {caps vargs : List AV} {x : AV}
    (he : Enters P f) (hg : gvalO gds s.t guard = some g) (hf : fnOf (evoG s.t g fo) = some (f, caps)) (hv : args.map (evoG s.t g) ++ caps = vargs) (hc : Pure P f vargs x)
    (hok : gOk s.t g (fo :: args)) (hk : okL 0 vargs) (hp : x.ok 0) (k : Run P gds l Q (s.put dst (optG g x))) : Run P gds (⟨dst, callOp fo args tys, type, pos, after, guard⟩ :: l) Q s :=
  Run.yield (o := ⟨dst, callOp fo args tys, type, pos, after, guard⟩) (Pure.yieldF rfl hg hok hf he hc hv hk hp) k
theorem Abn.pureF {fo : Operand} {args : List Operand} {tys : Array TypeId} {dst : Option Nat} {type : TypeId} {pos : String} {after : Array Edge} {g : Option Bool} {guard : Option (Nat × Bool)} {f : FuncId} {caps vargs : List AV} {x : AV} {s1 : S}
    (he : Enters P f) (hg : gvalO gds s.t guard = some g) (hf : fnOf (evoG s.t g fo) = some (f, caps)) (hv : args.map (evoG s.t g) ++ caps = vargs) (hc : Pure P f vargs x)
    (hok : gOk s.t g (fo :: args)) (hk : okL 0 vargs) (hp : x.ok 0) (k : Abn P gds l (s.put dst (optG g x)) s1) : Abn P gds (⟨dst, callOp fo args tys, type, pos, after, guard⟩ :: l) s s1 :=
  Abn.yield (o := ⟨dst, callOp fo args tys, type, pos, after, guard⟩) (Pure.yieldF rfl hg hok hf he hc hv hk hp) k

/-- the operands of a plain call -/
theorem call_args {a : Act} (hr : Rel X s a w ρ) {fo : Operand} {args : List Operand} {f : FuncId} {caps : List AV} (hf : fnOf (evo s.t fo) = some (f, caps)) : ∃ cs : List Value, a.eval fo = .func (.func f) #[] cs.toArray ∧ Rvals X w ρ (args.map (evo s.t) ++ caps) (args.map a.eval ++ cs) := by
  obtain ⟨cs, h1, h2⟩ := fnOf_rel hf (evo_rel hr.tmps fo)
  exact ⟨cs, h1, (Rvals_map args fun y _ => evo_rel hr.tmps y).append h2⟩

/-- a call by a contract over our own entries -/
theorem Run.spec {fo : Operand} {args : List Operand} {tys : Array TypeId} {dst : Option Nat} {type : TypeId} {pos : String} {after : Array Edge} {f : FuncId} {caps vargs : List AV} {m0 : Mem} {C : AV → Mem → Prop}
    (he : Enters P f) (hm : s.m = m0) (hf : fnOf (evo s.t fo) = some (f, caps)) (hv : args.map (evo s.t) ++ caps = vargs) (hc : Spec P f vargs m0 C) (k : ∀ x m', C x m' → Run P gds l Q ({ s with m := m' }.put dst x)) : Run P gds (⟨dst, callOp fo args tys, type, pos, after, none⟩ :: l) Q s := by
  intro hg hd
  refine Run.eff (fun X r a w ρ hr => ?_) hg hd
  unfold opwp
  rw [if_pos (by simp [Region.wanted])]
  obtain ⟨cs, h1, h2⟩ := call_args (args := args) hr hf
  have hrun := run_call (P := P) (w := w) (o := ⟨dst, callOp fo args tys, type, pos, after, none⟩) rfl h1 he
  refine ⟨fun _ _ => trivial, ?_⟩
  rw [Oper.semAt_eq _ _ _ (by intro c e; cases e), hrun]
  refine ⟨fun h => (by cases h), callsIn_fence ?_⟩
  rw [hv] at h2
  refine (hc X w ρ _ (by rw [← hm]; exact hr.inv) h2).mono ?_
  rintro e w' ⟨v, x, m', ρ', rfl, q, k1, k2, k3⟩
  exact ⟨{ s with m := m' }.put dst x, ρ', ⟨by rw [S.put_n], k x m' q⟩, (hr.step k3 k2).put (hd ⟨dst, callOp fo args tys, type, pos, after, none⟩ (by simp)) k1, k3⟩
end

/-! a contract that hands back new memory of our own -/
mutual
def AV.shift (k : Nat) : AV → AV
  | .val v => .val v
  | .any => .any
  | .lst sz l => .lst sz (shiftL k l)
  | .osl id ver off len => .osl (k + id) ver off len
  | .emp => .emp
  | .ref xs j => .ref (shiftL k xs) j
  | .optr id ver i j => .optr (k + id) ver i j
  | .agg xs => .agg (shiftL k xs)
  | .tup xs => .tup (shiftL k xs)
  | .clo f caps => .clo f (shiftL k caps)
  | .bnd f xs => .bnd f (shiftL k xs)
  | .opt g x => .opt g (x.shift k)
  | .yld id ver => .yld (k + id) ver
  | .omap id ver => .omap (k + id) ver
def shiftL (k : Nat) : List AV → List AV
  | [] => []
  | x :: l => x.shift k :: shiftL k l
end

theorem shiftL_len (k : Nat) : ∀ l : List AV, (shiftL k l).length = l.length
  | [] => rfl
  | x :: l => by simp [shiftL, shiftL_len k l]
theorem shiftL_nil (k : Nat) {l : List AV} (h : shiftL k l ≠ []) : l ≠ [] := by intro e; subst e; exact h rfl

theorem get_right {ρ ρ' : Rho} {id : Nat} {r : RE} (h : ρ'[id]? = some r) : (ρ ++ ρ')[ρ.length + id]? = some r := by
  rw [List.getElem?_append_right (by omega)]; simpa using h

mutual
theorem Rp.shift {X X' : Nat → Prop} {ρ ρ' : Rho} (hf : ∀ b, Free X' ρ' b → Free X (ρ ++ ρ') b) : ∀ (x : AV), (∀ v, R X' w ρ' x v → R X w (ρ ++ ρ') (x.shift ρ.length) v) ∧ (∀ sz b o, Re X' w ρ' x sz b o → Re X w (ρ ++ ρ') (x.shift ρ.length) sz b o)
  | .val _ => ⟨fun _ h => h, fun _ _ _ h => h⟩
  | .any => ⟨fun _ h => h, fun _ _ _ h => h⟩
  | .lst sz l => by
    have key : ∀ v, R X' w ρ' (.lst sz l) v → R X w (ρ ++ ρ') ((AV.lst sz l).shift ρ.length) v := by
      rintro v ⟨A, c, h1, h2, h3, h4⟩
      refine ⟨A, c, by rw [shiftL_len]; exact h1, by rw [shiftL_len]; exact h2, h3, fun hl => ?_⟩
      obtain ⟨b, o, hA, hfr, hs, hr⟩ := h4 (shiftL_nil _ hl)
      exact ⟨b, o, hA, hf b hfr, hs, Rrow.shift hf l sz b o hr⟩
    exact ⟨key, fun _ _ _ h => OneAt.mono (fun _ => rfl) h key⟩
  | .osl id ver off len => by
    have key : ∀ v, R X' w ρ' (.osl id ver off len) v → R X w (ρ ++ ρ') ((AV.osl id ver off len).shift ρ.length) v := by
      rintro v ⟨A, c, r, h1, h2, h3, h4⟩
      exact ⟨A, c, r, h1, get_right h2, h3, h4⟩
    exact ⟨key, fun _ _ _ h => OneAt.mono (fun _ => rfl) h key⟩
  | .emp => ⟨fun _ h => h, fun _ _ _ h => h⟩
  | .ref xs j => by
    have key : ∀ v, R X' w ρ' (.ref xs j) v → R X w (ρ ++ ρ') ((AV.ref xs j).shift ρ.length) v := by
      rintro v ⟨b, o, h1, hj, hfr, hr⟩
      exact ⟨b, o, h1, by rw [shiftL_len]; exact hj, hf b hfr, Rcells.shift hf xs b o hr⟩
    exact ⟨key, fun _ _ _ h => OneAt.mono (fun _ => rfl) h key⟩
  | .optr id ver i j => by
    have key : ∀ v, R X' w ρ' (.optr id ver i j) v → R X w (ρ ++ ρ') ((AV.optr id ver i j).shift ρ.length) v := by
      rintro v ⟨A, r, h1, h2, h3, h4⟩
      exact ⟨A, r, h1, get_right h2, h3, h4⟩
    exact ⟨key, fun _ _ _ h => OneAt.mono (fun _ => rfl) h key⟩
  | .agg xs => ⟨fun _ ⟨vs, h1, h2⟩ => ⟨vs, h1, Rvals.shift hf xs vs h2⟩, fun _ b o h => ⟨by rw [shiftL_len]; exact h.1, Rcells.shift hf xs b o h.2⟩⟩
  | .tup xs => ⟨fun _ ⟨vs, h1, h2⟩ => ⟨vs, h1, Rvals.shift hf xs vs h2⟩, fun _ _ _ h => h⟩
  | .clo f caps => by
    have key : ∀ v, R X' w ρ' (.clo f caps) v → R X w (ρ ++ ρ') ((AV.clo f caps).shift ρ.length) v := by
      rintro v ⟨vs, h1, h2⟩
      exact ⟨vs, h1, Rvals.shift hf caps vs h2⟩
    exact ⟨key, fun _ _ _ h => OneAt.mono (fun _ => rfl) h key⟩
  | .bnd f xs => by
    have key : ∀ v, R X' w ρ' (.bnd f xs) v → R X w (ρ ++ ρ') ((AV.bnd f xs).shift ρ.length) v := by
      rintro v ⟨vs, h1, h2⟩
      exact ⟨vs, h1, Rvals.shift hf xs vs h2⟩
    exact ⟨key, fun _ _ _ h => OneAt.mono (fun _ => rfl) h key⟩
  | .opt g x => ⟨fun v h => ⟨fun e => (Rp.shift hf x).1 v (h.1 e), h.2⟩, fun _ _ _ h => h⟩
  | .yld id ver => by
    have key : ∀ v, R X' w ρ' (.yld id ver) v → R X w (ρ ++ ρ') ((AV.yld id ver).shift ρ.length) v := by
      rintro v ⟨l, r, h1, h2, h3, h4⟩
      exact ⟨l, r, h1, get_right h2, h3, h4⟩
    exact ⟨key, fun _ _ _ h => OneAt.mono (fun _ => rfl) h key⟩
  | .omap id ver => by
    have key : ∀ v, R X' w ρ' (.omap id ver) v → R X w (ρ ++ ρ') ((AV.omap id ver).shift ρ.length) v := by
      rintro v ⟨l, r, h1, h2, h3, h4⟩
      exact ⟨l, r, h1, get_right h2, h3, h4⟩
    exact ⟨key, fun _ _ _ h => OneAt.mono (fun _ => rfl) h key⟩
theorem Rvals.shift {X X' : Nat → Prop} {ρ ρ' : Rho} (hf : ∀ b, Free X' ρ' b → Free X (ρ ++ ρ') b) : ∀ (xs : List AV) (vs : List Value), Rvals X' w ρ' xs vs → Rvals X w (ρ ++ ρ') (shiftL ρ.length xs) vs
  | [], _, h => h
  | x :: xs, _, ⟨v, vs', h1, h2, h3⟩ => ⟨v, vs', h1, (Rp.shift hf x).1 v h2, Rvals.shift hf xs vs' h3⟩
theorem Rcells.shift {X X' : Nat → Prop} {ρ ρ' : Rho} (hf : ∀ b, Free X' ρ' b → Free X (ρ ++ ρ') b) : ∀ (xs : List AV) (b o : Nat), Rcells X' w ρ' xs b o → Rcells X w (ρ ++ ρ') (shiftL ρ.length xs) b o
  | [], _, _, _ => trivial
  | x :: xs, b, o, ⟨⟨v, hv, h1, hx⟩, h2⟩ => ⟨⟨v, hv, h1, (Rp.shift hf x).1 v hx⟩, Rcells.shift hf xs b (o + 1) h2⟩
theorem Rrow.shift {X X' : Nat → Prop} {ρ ρ' : Rho} (hf : ∀ b, Free X' ρ' b → Free X (ρ ++ ρ') b) : ∀ (l : List AV) (sz b o : Nat), Rrow X' w ρ' l sz b o → Rrow X w (ρ ++ ρ') (shiftL ρ.length l) sz b o
  | [], _, _, _, _ => trivial
  | x :: l, sz, b, o, ⟨h1, h2⟩ => ⟨(Rp.shift hf x).2 sz b o h1, Rrow.shift hf l sz b (o + sz) h2⟩
end

def Kind.shift (k : Nat) : Kind → Kind
  | .row sz l => .row sz (shiftL k l)
  | .dfr => .dfr
  | .lrec t n ps asg body pe busy => .lrec (t.map fun p => (p.1, p.2.shift k)) n ps asg body pe busy
  | .mp l => .mp (l.map fun kx => (kx.1, kx.2.shift k))
  | .ext bl o => .ext bl o

theorem look_shift (k : Nat) : ∀ (t : List (Nat × AV)) (n : Nat), look (t.map fun p => (p.1, p.2.shift k)) n = (look t n).shift k
  | [], _ => rfl
  | (j, x) :: t, n => by
    simp only [List.map_cons, look]
    split
    · rfl
    · exact look_shift k t n

/-- our entries and those that came back -/
theorem Inv.join {X X' : Nat → Prop} {w w' : World} {ρ ρ' : Rho} {m m' : Mem} (hi : Inv X w ρ m) (htr : Tr w [] w' ρ') (hi' : Inv X' w' ρ' m') (hf : ∀ b, Free X' ρ' b → Free X (ρ ++ ρ') b) : Tr w ρ w' (ρ ++ ρ') ∧ Inv X w' (ρ ++ ρ') (m ++ m'.map fun e => ⟨e.ver, e.kind.shift m.length⟩) := by
  have hnew : ∀ r ∈ ρ', ∀ b, r.blk = some b → w.heap.size ≤ b := by
    intro r hr b hb
    rcases Nat.lt_or_ge b w.heap.size with h | h
    · exact absurd hb ((htr.block b (fun r hr => by cases hr) h).1 r hr)
    · exact h
  have hold : ∀ b, b < w.heap.size → w'.heap[b]? = w.heap[b]? := fun b h => (htr.block b (fun r hr => by cases hr) h).2
  have hmem : ∀ {i : Nat} {r : RE}, ρ[i]? = some r → (ρ ++ ρ')[i]? = some r := fun {i r} h => by rw [List.getElem?_append_left (List.getElem?_eq_some_iff.1 h).1]; exact h
  have t : Tr w ρ w' (ρ ++ ρ') := by
    refine ⟨htr.os, htr.tape, htr.output, htr.size, fun i r hr => ⟨r, hmem hr, Nat.le_refl _, fun _ => rfl⟩, fun b hb hlt => ⟨fun r hr => ?_, hold b hlt⟩⟩
    rcases List.mem_append.1 hr with h | h
    · exact hb r h
    · intro e; have := hnew r h b e; omega
  have get : ∀ (i : Nat) (r : RE), (ρ ++ ρ')[i]? = some r → (i < ρ.length ∧ ρ[i]? = some r) ∨ (∃ j, i = ρ.length + j ∧ ρ'[j]? = some r) := by
    intro i r h
    by_cases hlt : i < ρ.length
    · rw [List.getElem?_append_left hlt] at h; exact .inl ⟨hlt, h⟩
    · rw [List.getElem?_append_right (by omega)] at h
      exact .inr ⟨i - ρ.length, by omega, h⟩
  refine ⟨t, by simp [hi.len, hi'.len], fun i r e hr he => ?_, fun i j r1 r2 b h1 h2 hb1 hb2 => ?_, fun i r b hr hb => ?_, fun b hb => Nat.lt_of_lt_of_le (hi.out b hb) htr.size, hi.gd.tr t⟩
  · rcases get i r hr with ⟨hlt, h⟩ | ⟨j, rfl, h⟩
    · rw [List.getElem?_append_left (by rw [← hi.len]; exact hlt)] at he
      obtain ⟨q0, q⟩ := hi.at_ i r e h he
      exact ⟨q0, q.mono t.kp fun b' hb' => hold b' (hi.new i r b' h hb').1⟩
    · rw [hi.len, List.getElem?_append_right (by omega)] at he
      rw [show m.length + j - m.length = j by omega, List.getElem?_map] at he
      cases he' : m'[j]? with
      | none => simp [he'] at he
      | some e' =>
        simp [he'] at he; subst he
        obtain ⟨q0, q⟩ := hi'.at_ j r e' h he'
        refine ⟨q0, ?_⟩
        simp only
        cases hk : e'.kind with
        | row sz l =>
          rw [hk] at q
          obtain ⟨q1, q2, q3⟩ := q
          refine ⟨q1, fun hn => by rw [q2 hn]; rfl, fun b' hb' => ?_⟩
          obtain ⟨r1, r2, r3⟩ := q3 b' hb'
          have hs := Rrow.shift hf l sz b' r.base r3
          rw [hi.len] at hs
          exact ⟨r1, by rw [shiftL_len]; exact r2, hs⟩
        | dfr => rw [hk] at q; exact q
        | lrec tt n ps asg body pe busy =>
          rw [hk] at q
          obtain ⟨b', rec, q1, q2, q3, q4, q5, q6, q7, q8, q9⟩ := q
          refine ⟨b', rec, q1, q2, q3, q4, q5, q6, q7, q8, fun j => ?_⟩
          rw [look_shift, ← hi.len]
          exact (Rp.shift hf _).1 _ (q9 j)
        | mp l =>
          rw [hk] at q
          obtain ⟨q0, b', es, clock, q1, q2, q3⟩ := q
          refine ⟨by simpa [List.map_map, Function.comp_def] using q0, b', es, clock, q1, q2, ?_⟩
          rw [← hi.len]
          exact Rents.map (fun _ => True) (fun x v _ q => (Rp.shift hf x).1 v q) (fun _ _ => trivial) q3
        | ext bl o => rw [hk] at q; exact q
  · rcases get i r1 h1 with ⟨_, g1⟩ | ⟨j1, rfl, g1⟩ <;> rcases get j r2 h2 with ⟨_, g2⟩ | ⟨j2, rfl, g2⟩
    · exact hi.apart i j r1 r2 b g1 g2 hb1 hb2
    · have := (hi.new i r1 b g1 hb1).1
      have := hnew r2 (List.mem_of_getElem? g2) b hb2
      omega
    · have := (hi.new j r2 b g2 hb2).1
      have := hnew r1 (List.mem_of_getElem? g1) b hb1
      omega
    · rw [hi'.apart j1 j2 r1 r2 b g1 g2 hb1 hb2]
  · rcases get i r hr with ⟨_, g1⟩ | ⟨j1, rfl, g1⟩
    · have := hi.new i r b g1 hb
      exact ⟨Nat.lt_of_lt_of_le this.1 htr.size, this.2⟩
    · refine ⟨(hi'.new j1 r b g1 hb).1, fun hx => ?_⟩
      have := hi.out b hx
      have := hnew r (List.mem_of_getElem? g1) b hb
      omega

section
variable {gds : List (Option Nat)} {l : List Oper} {Q : S → Prop} {s : S}
/-- a call by a contract that hands back new memory; nothing of ours is lent -/
theorem Run.fresh {fo : Operand} {args : List Operand} {tys : Array TypeId} {dst : Option Nat} {type : TypeId} {pos : String} {after : Array Edge} {f : FuncId} {caps vargs : List AV} {C : AV → Mem → Prop}
    (he : Enters P f) (hf : fnOf (evo s.t fo) = some (f, caps)) (hv : args.map (evo s.t) ++ caps = vargs) (hc : Spec P f vargs [] C) (hk : okL 0 vargs)
    (k : ∀ x m', C x m' → Run P gds l Q ({ s with m := s.m ++ m'.map fun (e : Ent) => (⟨e.ver, e.kind.shift s.m.length⟩ : Ent) }.put dst (x.shift s.m.length))) : Run P gds (⟨dst, callOp fo args tys, type, pos, after, none⟩ :: l) Q s := by
  intro hg hd
  refine Run.eff (fun X r a w ρ hr => ?_) hg hd
  unfold opwp
  rw [if_pos (by simp [Region.wanted])]
  obtain ⟨cs, h1, h2⟩ := call_args (args := args) hr hf
  have hrun := run_call (P := P) (w := w) (o := ⟨dst, callOp fo args tys, type, pos, after, none⟩) rfl h1 he
  refine ⟨fun _ _ => trivial, ?_⟩
  rw [Oper.semAt_eq _ _ _ (by intro c e; cases e), hrun]
  refine ⟨fun h => (by cases h), callsIn_fence ?_⟩
  rw [hv] at h2
  refine (hc (owned X ρ) w [] _ (Inv.empty (hg := hr.inv.gd.nil fun _ h => free_owned.2 h) fun b h => by
      rcases h with h | ⟨r, hr', hb'⟩
      · exact hr.inv.out b h
      · obtain ⟨i, hi', rfl⟩ := List.getElem_of_mem hr'; exact (hr.inv.new i _ b (List.getElem?_eq_getElem hi') hb').1)
    (Rvals.eyes (fun b h => free_owned.2 h) vargs hk _ h2)).mono ?_
  rintro e w' ⟨v, x, m', ρ', rfl, q, k1, k2, k3⟩
  have hfree : ∀ b, Free (owned X ρ) ρ' b → Free X (ρ ++ ρ') b := by
    rintro b ⟨g1, g2⟩
    refine ⟨fun hx => g1 (.inl hx), fun r hr' hb => ?_⟩
    rcases List.mem_append.1 hr' with h | h
    · exact g1 (.inr ⟨r, h, hb⟩)
    · exact g2 r h hb
  obtain ⟨t1, t2⟩ := hr.inv.join k3 k2 hfree
  have hx := (Rp.shift (w := w') hfree x).1 v k1
  rw [hr.inv.len] at hx
  exact ⟨_, ρ ++ ρ', ⟨by rw [S.put_n], k x m' q⟩, (hr.step t1 t2).put (hd ⟨dst, callOp fo args tys, type, pos, after, none⟩ (by simp)) hx, t1⟩

/-- entries without slices or pointers of others in them -/
def rowsPlain (m : Mem) : Prop := ∀ e ∈ m, ∃ sz l, e.kind = .row sz l ∧ plainL l
def AV.mine : AV → Prop
  | .osl _ _ _ _ => True
  | .tup xs => ∀ x ∈ xs, x.plain ∨ ∃ id ver off len, x = .osl id ver off len
  | x => x.plain

theorem Rrow.plain {X X' : Nat → Prop} {ρ ρ' : Rho} : ∀ {l : List AV} {sz b o : Nat}, plainL l → Rrow X w ρ l sz b o → Rrow X' w ρ' l sz b o
  | [], _, _, _, _, _ => trivial
  | x :: l, sz, b, o, hp, ⟨h1, h2⟩ => by
    refine ⟨?_, Rrow.plain hp.2 h2⟩
    have hcells : ∀ (xs : List AV) (b o : Nat), plainL xs → Rcells X w ρ xs b o → Rcells X' w ρ' xs b o := by
      intro xs
      induction xs with
      | nil => intro _ _ _ _; trivial
      | cons y ys ih =>
        rintro b o hp ⟨⟨v, q1, q2, q3⟩, q4⟩
        exact ⟨⟨v, q1, q2, R.plain y hp.1 v q3⟩, ih b (o + 1) hp.2 q4⟩
    have h0 := hp.1
    cases x <;> simp only [AV.plain] at h0
    case agg xs => exact ⟨h1.1, hcells xs b o h0 h1.2⟩
    case opt g y => exact h1.elim
    case tup xs => exact h1.elim
    all_goals exact h1

theorem shiftL_plain (k : Nat) : ∀ (l : List AV), plainL l → shiftL k l = l := by
  have key : ∀ (n : Nat) (x : AV), SizeOf.sizeOf x ≤ n → x.plain → x.shift k = x := by
    intro n
    induction n with
    | zero => intro x hx; cases x <;> simp at hx
    | succ n ih =>
      have hl : ∀ (l : List AV), SizeOf.sizeOf l ≤ n + 1 → plainL l → shiftL k l = l := by
        intro l
        induction l with
        | nil => intro _ _; rfl
        | cons y ys ihl =>
          intro hs hp
          simp at hs
          simp only [shiftL]
          rw [ih y (by omega) hp.1, ihl (by omega) hp.2]
      intro x hx hp
      cases x <;> simp only [AV.plain] at hp <;> simp only [AV.shift]
      case agg xs => rw [hl xs (by simp at hx; omega) hp]
      case tup xs => rw [hl xs (by simp at hx; omega) hp]
      case opt g y => rw [ih y (by simp at hx; omega) hp]
  intro l
  induction l with
  | nil => intro _; rfl
  | cons y ys ih => intro hp; simp only [shiftL]; rw [key _ y (Nat.le_refl _) hp.1, ih hp.2]

end

/-! leaving -/
theorem leave0 {s : S} {rs : List ResultVar} {xs : List AV} {p : Prop} {x : AV} (hd : s.d = []) (h : resL P s rs = some (xs, p)) (hp : p) (hk : (packRes xs).ok 0) (hx : packRes xs = x) : leaves P rs 0 (fun x' m' => x' = x ∧ m' = []) .ret s := by
  have e : { s with m := kill s.m s.d, d := [] } = s := by rw [hd]; cases s; simp only at hd; subst hd; rfl
  exact ⟨by rw [hd]; simp, by rw [hd]; simp, xs, p, by rw [e]; exact h, hp, hk, by simp, hx, by simp⟩
theorem leaveK {s : S} {rs : List ResultVar} {xs : List AV} {p : Prop} {k : Nat} {C : AV → Mem → Prop} (hd : s.d = []) (h : resL P s rs = some (xs, p)) (hp : p) (hk : (packRes xs).ok k) (hm : ∀ e ∈ s.m.take k, e.kind.ok k) (hx : C (packRes xs) (s.m.take k)) : leaves P rs k C .ret s := by
  have e : { s with m := kill s.m s.d, d := [] } = s := by rw [hd]; cases s; simp only at hd; subst hd; rfl
  have e2 : kill s.m s.d = s.m := by rw [hd]; rfl
  exact ⟨by rw [hd]; simp, by rw [hd]; simp, xs, p, by rw [e]; exact h, hp, hk, by rw [e2]; exact hm, by rw [e2]; exact hx⟩
end Go.Vg
