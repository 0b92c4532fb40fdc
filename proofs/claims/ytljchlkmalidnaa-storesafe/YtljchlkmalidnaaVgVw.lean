/- The abstract machine, part Vw: own memory that is read through pointers and slices of any depth, lent to a pure call; rows made shorter; a region that appends and stores what it appended. -/
import Derived.Test.YtljchlkmalidnaaVgFv
set_option linter.all false
set_option linter.unusedVariables false
set_option linter.unusedSimpArgs false
namespace Go.Vg
open Go.RowKit
variable {P : Program} {X : Nat → Prop} {w : World} {ρ : Rho}

mutual
/-- y is what x, over the memory m, reads as -/
inductive Vw (m : Mem) : AV → AV → Prop
  | self {x : AV} : x.ok 0 → Vw m x x
  | osl {id ver off len sz : Nat} {l ys : List AV} : m[id]? = some ⟨ver, .row sz l⟩ → off + len ≤ l.length → 0 < sz → VwL m ((l.drop off).take len) ys → Vw m (.osl id ver off len) (.lst sz ys)
  | optr {id ver i j sz : Nat} {l ys : List AV} {x : AV} : m[id]? = some ⟨ver, .row sz l⟩ → l[i]? = some x → j < x.cells.length → VwL m x.cells ys → Vw m (.optr id ver i j) (.ref ys j)
  | agg {xs ys : List AV} : VwL m xs ys → Vw m (.agg xs) (.agg ys)
  | tup {xs ys : List AV} : VwL m xs ys → Vw m (.tup xs) (.tup ys)
  | clo {f : FuncId} {xs ys : List AV} : VwL m xs ys → Vw m (.clo f xs) (.clo f ys)
  | emp {sz : Nat} : Vw m .emp (.lst sz [])
inductive VwL (m : Mem) : List AV → List AV → Prop
  | nil : VwL m [] []
  | cons {x y : AV} {xs ys : List AV} : Vw m x y → VwL m xs ys → VwL m (x :: xs) (y :: ys)
end
mutual
theorem Vw.len {m : Mem} : ∀ {x y : AV}, Vw m x y → True
  | _, _, .self _ => trivial
  | _, _, .osl _ _ _ _ => trivial
  | _, _, .optr _ _ _ _ => trivial
  | _, _, .agg _ => trivial
  | _, _, .tup _ => trivial
  | _, _, .clo _ => trivial
  | _, _, .emp => trivial
theorem VwL.len {m : Mem} : ∀ {xs ys : List AV}, VwL m xs ys → ys.length = xs.length
  | _, _, .nil => rfl
  | _, _, .cons _ h => by simp [VwL.len h]
end
theorem free_triv {X : Nat → Prop} {ρ : Rho} (b : Nat) : Free X ρ b → Free (fun _ => False) [] b := fun _ => ⟨fun h => h, fun r hr => by cases hr⟩
mutual
theorem Vw.rel {m : Mem} (hi : Inv X w ρ m) : ∀ {x y : AV}, Vw m x y → (∀ v, R X w ρ x v → R (fun _ => False) w [] y v) ∧ (∀ sz b o, Re X w ρ x sz b o → Re (fun _ => False) w [] y sz b o)
  | x, _, .self hk => ⟨(Rp.eyes (fun b => free_triv b) x hk).1, (Rp.eyes (fun b => free_triv b) x hk).2⟩
  | _, _, .osl (id := id) (ver := ver) (off := off) (len := len) (sz := sz) (l := l) (ys := ys) hm hlen hsz hys => by
    have key : ∀ v, R X w ρ (.osl id ver off len) v → R (fun _ => False) w [] (.lst sz ys) v := by
      intro v h
      obtain ⟨r, hr, hv, hrz, hnone, hblk⟩ := hi.row hm
      obtain ⟨A, c, r', rfl, hr', hle, hat⟩ := h
      rw [hr] at hr'; cases hr'
      obtain ⟨hl, hc, hpos⟩ := hat hv.symm
      have hll : ys.length = len := by rw [VwL.len hys]; simp; omega
      refine ⟨A, c, by rw [hll], by omega, hc, fun hne => ?_⟩
      have h0 : 0 < len := by
        rcases Nat.eq_zero_or_pos len with e | e
        · exfalso; apply hne; exact List.length_eq_zero_iff.1 (by omega)
        · exact e
      obtain ⟨b, hb, rfl, hfit⟩ := hpos (by omega)
      obtain ⟨_, _, hrow⟩ := hblk b hb
      refine ⟨b, r.base + off * r.sz, rfl, ⟨fun h => h, fun r hr => by cases hr⟩, hsz, ?_⟩
      rw [hrz]
      exact (VwL.rel hi hys).2.2 _ _ _ ((hrow.drop off).take len)
    exact ⟨key, fun _ _ _ h => OneAt.mono (fun _ => rfl) h key⟩
  | _, _, .optr (id := id) (ver := ver) (i := i) (j := j) (l := l) (ys := ys) (x := x) hm hg hj hys => by
    have key : ∀ v, R X w ρ (.optr id ver i j) v → R (fun _ => False) w [] (.ref ys j) v := by
      intro v h
      obtain ⟨r, hr, hv, hrz, hnone, hblk⟩ := hi.row hm
      obtain ⟨A, r', rfl, hr', hle, hat⟩ := h
      rw [hr] at hr'; cases hr'
      obtain ⟨b, hb, rfl⟩ := hat hv.symm
      obtain ⟨_, _, hrow⟩ := hblk b hb
      obtain ⟨c1, c2⟩ := (hrow.nth hg).cells
      refine ⟨b, r.base + i * r.sz, rfl, by rw [VwL.len hys]; exact hj, ⟨fun h => h, fun r hr => by cases hr⟩, ?_⟩
      rw [hrz]
      exact (VwL.rel hi hys).2.1 _ _ c2
    exact ⟨key, fun _ _ _ h => OneAt.mono (fun _ => rfl) h key⟩
  | _, _, .agg hys => ⟨fun _ ⟨vs, h1, h2⟩ => ⟨vs, h1, (VwL.rel hi hys).1 vs h2⟩, fun _ b o h => ⟨by rw [VwL.len hys]; exact h.1, (VwL.rel hi hys).2.1 b o h.2⟩⟩
  | _, _, .tup hys => ⟨fun _ ⟨vs, h1, h2⟩ => ⟨vs, h1, (VwL.rel hi hys).1 vs h2⟩, fun _ _ _ h => h⟩
  | _, _, .clo (f := f) (xs := xs) (ys := ys) hys => by
    have key : ∀ v, R X w ρ (.clo f xs) v → R (fun _ => False) w [] (.clo f ys) v := by
      rintro v ⟨vs, h1, h2⟩
      exact ⟨vs, h1, (VwL.rel hi hys).1 vs h2⟩
    exact ⟨key, fun _ _ _ h => OneAt.mono (fun _ => rfl) h key⟩
  | _, _, .emp (sz := sz) => by
    have key : ∀ v, R X w ρ .emp v → R (fun _ => False) w [] (.lst sz []) v := by
      rintro v ⟨A, rfl⟩
      exact ⟨A, 0, rfl, Nat.le_refl _, Nat.zero_le _, fun h => absurd rfl h⟩
    exact ⟨key, fun _ _ _ h => OneAt.mono (fun _ => rfl) h key⟩
theorem VwL.rel {m : Mem} (hi : Inv X w ρ m) : ∀ {xs ys : List AV}, VwL m xs ys → (∀ vs, Rvals X w ρ xs vs → Rvals (fun _ => False) w [] ys vs) ∧ (∀ b o, Rcells X w ρ xs b o → Rcells (fun _ => False) w [] ys b o) ∧ (∀ sz b o, Rrow X w ρ xs sz b o → Rrow (fun _ => False) w [] ys sz b o)
  | _, _, .nil => ⟨fun _ h => h, fun _ _ h => h, fun _ _ _ h => h⟩
  | _, _, .cons h1 h2 =>
    ⟨fun _ ⟨v, vs', e1, e2, e3⟩ => ⟨v, vs', e1, (Vw.rel hi h1).1 v e2, (VwL.rel hi h2).1 vs' e3⟩,
     fun b o ⟨⟨v, e1, e2, e3⟩, e4⟩ => ⟨⟨v, e1, e2, (Vw.rel hi h1).1 v e3⟩, (VwL.rel hi h2).2.1 b (o + 1) e4⟩,
     fun sz b o ⟨e1, e2⟩ => ⟨(Vw.rel hi h1).2 sz b o e1, (VwL.rel hi h2).2.2 sz b (o + sz) e2⟩⟩
end

/-- what holds of a call without memory holds beside memory of our own -/
theorem Spec.frame {f : FuncId} {vargs : List AV} {C : AV → Mem → Prop} {m : Mem} (hc : Spec P f vargs [] C) (hk : okL 0 vargs) : Spec P f vargs m fun y m1 => ∃ x m', C x m' ∧ y = x.shift m.length ∧ m1 = m ++ m'.map fun (e : Ent) => (⟨e.ver, e.kind.shift m.length⟩ : Ent) := by
  intro X w ρ vs hi hr
  refine (hc (owned X ρ) w [] vs (Inv.empty (hg := hi.gd.nil fun _ h => free_owned.2 h) fun b h => by
      rcases h with h | ⟨r, hr', hb'⟩
      · exact hi.out b h
      · obtain ⟨i, hi', rfl⟩ := List.getElem_of_mem hr'; exact (hi.new i _ b (List.getElem?_eq_getElem hi') hb').1)
    (Rvals.eyes (fun b h => free_owned.2 h) vargs hk _ hr)).mono ?_
  rintro e w' ⟨v, x, m', ρ', rfl, q, k1, k2, k3⟩
  have hfree : ∀ b, Free (owned X ρ) ρ' b → Free X (ρ ++ ρ') b := by
    rintro b ⟨g1, g2⟩
    refine ⟨fun hx => g1 (.inl hx), fun r hr' hb => ?_⟩
    rcases List.mem_append.1 hr' with h | h
    · exact g1 (.inr ⟨r, h, hb⟩)
    · exact g2 r h hb
  obtain ⟨t1, t2⟩ := hi.join k3 k2 hfree
  have hx := (Rp.shift (w := w') hfree x).1 v k1
  rw [hi.len] at hx
  exact ⟨v, _, _, ρ ++ ρ', rfl, ⟨x, m', q, rfl, rfl⟩, hx, t2, t1⟩
/-- a contract at arguments of which we know more -/
theorem Spec.args {f : FuncId} {args args' : List AV} {m : Mem} {Q : AV → Mem → Prop} (h : Spec P f args m Q) (ha : ∀ (X : Nat → Prop) (w : World) (ρ : Rho) (vs : List Value), Rvals X w ρ args' vs → Rvals X w ρ args vs) : Spec P f args' m Q :=
  fun X w ρ vs hi hr => h X w ρ vs hi (ha X w ρ vs hr)
/-- nobody writes what an own pointer points to any more -/
theorem Rel.freezeP {s : S} {a : Act} (hr : Rel X s a w ρ) (n : Nat) {id ver i j sz : Nat} {l : List AV} {x : AV} (h : look s.t n = .optr id ver i j) (hm : s.m[id]? = some ⟨ver, .row sz l⟩) (hg : l[i]? = some x) (hj : j < x.cells.length) :
    ∃ ρ', Rel X { s with t := (n, .ref x.cells j) :: s.t, m := s.m.set id ⟨ver + 1, .row sz []⟩ } a w ρ' ∧ Tr w ρ w ρ' := by
  obtain ⟨r0, h0, hv, hrz, hnone, hblk⟩ := hr.inv.row hm
  obtain ⟨t1, t2⟩ := hr.inv.renew h0 (r' := ⟨r0.ver + 1, none, 0, 0, sz⟩) (w' := w) (k := .row sz []) rfl rfl rfl (Nat.le_refl _) rfl (fun _ _ _ => rfl) (fun b h => by cases h) (fun ρ' _ _ => ⟨rfl, fun _ => rfl, fun b h => by cases h⟩)
  rw [hv] at t1 t2
  have hr2 := hr.step t1 t2
  have hx := hr.tmps n
  rw [h] at hx
  obtain ⟨A, r1, hA, h1, hle, hat⟩ := hx
  rw [h0] at h1; cases h1
  obtain ⟨b, hb, hA'⟩ := hat hv.symm
  obtain ⟨_, _, hrow⟩ := hblk b hb
  obtain ⟨c1, c2⟩ := (hrow.nth hg).cells
  have hr3 : Rel X { s with t := (n, .ref x.cells j) :: s.t, m := s.m.set id ⟨ver + 1, .row sz []⟩ } a w (ρ.set id ⟨ver + 1, none, 0, 0, sz⟩) := by
    refine hr2.setT ⟨b, r0.base + i * sz, by rw [hA, hA', hrz], hj, ⟨(hr.inv.new id r0 b h0 hb).2, fun r' hr' hb' => ?_⟩, Rcells.mono t1.kp _ b _ (fun _ => rfl) c2⟩
    obtain ⟨k, hi'⟩ := List.getElem?_of_mem hr'
    rcases getElem?_set_cases hi' with ⟨_, _, rfl⟩ | ⟨hne', h2⟩
    · cases hb'
    · exact hne' (hr.inv.apart k id r' r0 b h2 h0 hb' hb)
  exact ⟨_, hr3, t1⟩
theorem Wp.freezeP {r : Option Nat} {c : Code} {Q : Exit → S → Prop} {s : S} (n : Nat) {id ver i j sz : Nat} {l : List AV} {x : AV} (h : look s.t n = .optr id ver i j) (hm : s.m[id]? = some ⟨ver, .row sz l⟩) (hg : l[i]? = some x) (hj : j < x.cells.length)
    (k : Wp P r c Q { s with t := (n, .ref x.cells j) :: s.t, m := s.m.set id ⟨ver + 1, .row sz []⟩ }) : Wp P r c Q s := by
  intro X a w ρ hr
  obtain ⟨ρ1, hr3, t1⟩ := hr.freezeP n h hm hg hj
  exact Go.wpIn_mono (k X a w _ hr3) fun e a' w' ⟨s', ρ', q, k1, k2⟩ => ⟨s', ρ', q, k1, t1.trans k2⟩

/-- a call of a function that turns nothing and hands back plain data; what is ours is lent, however deep -/
theorem Pure.yieldW {gds : List (Option Nat)} {t : List (Nat × AV)} {m : Mem} {o : Oper} {fo : Operand} {args : List Operand} {tys : Array TypeId} (ho : o.op = callOp fo args tys) {g : Option Bool} (hg : gvalO gds t o.guard = some g)
    (hok : gOk t g (fo :: args)) {f : FuncId} {caps : List AV} (hf : fnOf (evoG t g fo) = some (f, caps)) (he : Enters P f) {vargs : List AV} {x : AV} (hc : (g = none ∨ g = some true) → Pure P f vargs x)
    (hv : VwL m (args.map (evoG t g) ++ caps) vargs) (hp : x.plain) : Yield P gds t m o (optG g x) := by
  refine ⟨fun c e => (by rw [ho] at e; cases e), fun X w ρ a hi hr hn => ?_⟩
  have hcall : ∀ (hb : g = none ∨ g = some true), Gives P o a w fun v w' => R X w' ρ x v ∧ Inv X w' ρ m ∧ Tr w ρ w' ρ := by
    intro hb
    obtain ⟨h1, h2⟩ := onames_call (fo := fo) (args := args) (tys := tys) (t := t) (a := a) (X := X) (w := w) (ρ := ρ) (fun n hn => hr n (.inr (by rw [ho]; exact hn)))
    have h3 := evoG_rel hok hb (a := a) (X := X) (w := w) (ρ := ρ) (by intro y hy; cases hy with | head => exact h1 | tail _ hy => exact h2 y hy)
    obtain ⟨cs, hcs, hcr⟩ := fnOf_rel hf (h3 fo (by simp))
    have hrun := run_call (P := P) (w := w) ho hcs he
    have hargs : Rvals X w ρ (args.map (evoG t g) ++ caps) (args.map a.eval ++ cs) := (Rvals_map args fun y hy => h3 y (by simp [hy])).append hcr
    refine .inr ⟨f, _, hrun, ?_⟩
    have hcv := hc hb (fun _ => False) w [] (args.map a.eval ++ cs) (Inv.empty (fun _ h => h.elim) hi.gd.nil0) ((VwL.rel hi hv).1 _ hargs)
    refine hcv.mono ?_
    rintro e w' ⟨v, x', m', ρ', rfl, ⟨rfl, rfl⟩, k1, k2, k3⟩
    exact ⟨v, rfl, R.plain x' hp v k1, hi.keep k3, k3.keep ρ fun r hr' b hb' => by obtain ⟨i, hi', rfl⟩ := List.getElem_of_mem hr'; exact (hi.new i _ b (List.getElem?_eq_getElem hi') hb').1⟩
  cases hgd : o.guard with
  | none =>
    rw [hgd] at hg
    simp only [gvalO, Option.some.injEq] at hg
    subst hg
    exact ⟨fun _ => hcall (.inl rfl), fun hw => by simp [Region.wanted, hgd] at hw⟩
  | some gg =>
    rw [hgd] at hg
    simp only [gvalO, Option.map_eq_some_iff] at hg
    obtain ⟨b, hb, rfl⟩ := hg
    have hw := gval_wanted (a := a) hgd (fun n hn' => ⟨hr n (.inl hn'), hn n hn'⟩) hb
    rw [hw]
    refine ⟨fun hbt => ?_, fun hbf => ⟨fun e => (by rw [hbf] at e; cases e), fun _ => rfl⟩⟩
    subst hbt
    rcases hcall (.inr rfl) with ⟨v, w', q1, q2, q3, q4⟩ | ⟨f', args', q1, q2⟩
    · exact .inl ⟨v, w', q1, ⟨fun _ => q2, fun e => (by cases e)⟩, q3, q4⟩
    · exact .inr ⟨f', args', q1, q2.mono fun e w' ⟨v, e1, q2, q3, q4⟩ => ⟨v, e1, ⟨fun _ => q2, fun e => (by cases e)⟩, q3, q4⟩⟩
section
variable {gds : List (Option Nat)} {l : List Oper} {Q : S → Prop} {s s1 : S} {fo : Operand} {args : List Operand} {tys : Array TypeId} {dst : Option Nat} {type : TypeId} {pos : String} {after : Array Edge} {g : Option Bool} {guard : Option (Nat × Bool)} {f : FuncId} {xs vargs : List AV} {x : AV}
theorem Run.pureW (h : prepF gds s guard fo args = some (g, f, xs)) (he : Enters P f) (hc : Pure P f vargs x) (hv : VwL s.m xs vargs) (ha : gOk s.t g (fo :: args) ∧ x.plain) (hn : Run P gds l Q (putA s dst (optG g x))) : Run P gds (⟨dst, callOp fo args tys, type, pos, after, guard⟩ :: l) Q s := by
  obtain ⟨h1, caps, h2, h3⟩ := prepF_some h
  rw [putA_eq] at hn
  exact Run.yield (o := ⟨dst, callOp fo args tys, type, pos, after, guard⟩) (Pure.yieldW rfl h1 ha.1 h2 he (fun _ => hc) (by rw [h3]; exact hv) ha.2) hn
theorem Abn.pureW (h : prepF gds s guard fo args = some (g, f, xs)) (he : Enters P f) (hc : (g = none ∨ g = some true) → Pure P f vargs x) (hv : VwL s.m xs vargs) (ha : gOk s.t g (fo :: args) ∧ x.plain) (hn : Abn P gds l (putA s dst (optG g x)) s1) : Abn P gds (⟨dst, callOp fo args tys, type, pos, after, guard⟩ :: l) s s1 := by
  obtain ⟨h1, caps, h2, h3⟩ := prepF_some h
  rw [putA_eq] at hn
  exact Abn.yield (o := ⟨dst, callOp fo args tys, type, pos, after, guard⟩) (Pure.yieldW rfl h1 ha.1 h2 he hc (by rw [h3]; exact hv) ha.2) hn
end

/-! a row made shorter: nobody reads its end any more -/
theorem Wp.trim {r : Option Nat} {c : Code} {Q : Exit → S → Prop} {s : S} (i n : Nat) {ver sz : Nat} {l : List AV} (hm : s.m[i]? = some ⟨ver, .row sz l⟩) (h : Wp P r c Q { s with m := s.m.set i ⟨ver, .row sz (l.take n)⟩ }) : Wp P r c Q s := by
  intro X a w ρ hr
  have hinv : Inv X w ρ (s.m.set i ⟨ver, .row sz (l.take n)⟩) := by
    have hi := hr.inv
    refine ⟨by simp [hi.len], fun i' r' e' hr' he => ?_, hi.apart, hi.new, hi.out, hi.gd⟩
    rcases getElem?_set_cases he with ⟨h0, _, rfl⟩ | ⟨hne, he'⟩
    · subst h0
      obtain ⟨q1, q2, q3, q4⟩ := hi.at_ _ r' _ hr' hm
      refine ⟨q1, q2, fun hb => by rw [q3 hb]; simp, fun b hb => ?_⟩
      obtain ⟨z1, z2, z3⟩ := q4 b hb
      refine ⟨z1, Nat.le_trans (Nat.add_le_add_left (Nat.mul_le_mul_right _ ?_) _) z2, z3.take n⟩
      simp; omega
    · exact hi.at_ i' r' e' hr' he'
  exact h X a w ρ ⟨hr.tmps, hr.size, hinv, hr.defers⟩

theorem Rel.trim {s : S} {a : Act} (hr : Rel X s a w ρ) (i n : Nat) {ver sz : Nat} {l : List AV} (hm : s.m[i]? = some ⟨ver, .row sz l⟩) : Rel X { s with m := s.m.set i ⟨ver, .row sz (l.take n)⟩ } a w ρ := by
  have hi := hr.inv
  refine ⟨hr.tmps, hr.size, ⟨by simp [hi.len], fun i' r' e' hr' he => ?_, hi.apart, hi.new, hi.out, hi.gd⟩, hr.defers⟩
  rcases getElem?_set_cases he with ⟨h0, _, rfl⟩ | ⟨hne, he'⟩
  · subst h0
    obtain ⟨q1, q2, q3, q4⟩ := hi.at_ _ r' _ hr' hm
    refine ⟨q1, q2, fun hb => by rw [q3 hb]; simp, fun b hb => ?_⟩
    obtain ⟨z1, z2, z3⟩ := q4 b hb
    refine ⟨z1, Nat.le_trans (Nat.add_le_add_left (Nat.mul_le_mul_right _ ?_) _) z2, z3.take n⟩
    simp; omega
  · exact hi.at_ i' r' e' hr' he'
theorem Run.trim {gds : List (Option Nat)} {o : Oper} {l : List Oper} {Q : S → Prop} {s : S} (i n : Nat) {ver sz : Nat} {l0 : List AV} {m' : Mem} (hm : s.m[i]? = some ⟨ver, .row sz l0⟩) (hm' : s.m.set i ⟨ver, .row sz (l0.take n)⟩ = m')
    (k : Run P gds (o :: l) Q { s with m := m' }) : Run P gds (o :: l) Q s := by
  subst hm'
  intro hg hd X r a w ρ hr
  have h0 := k hg hd X r a w ρ (hr.trim i n hm)
  exact h0

/-! a region with two effects, one before the other, that draws its order: what else is in it reads the same before the first and between them -/
inductive AbW (P : Program) (gds : List (Option Nat)) (ops : List Oper) (n e1 e2 : Nat) (m0 m1 m2 : Mem) : Nat → List Oper → List (Nat × AV) → List (Nat × AV) → Prop where
  | nil {k : Nat} {t : List (Nat × AV)} : AbW P gds ops n e1 e2 m0 m1 m2 k [] t t
  | both {k : Nat} {o : Oper} {l : List Oper} {t t' : List (Nat × AV)} {x : AV} {p q : Prop} : dstB n o.dst = true → ((!(k == e1) && !(k == e2)) && (before ops k e2 && !before ops e2 k)) = true → stepA P gds t m0 o = some (x, p) → p → stepA P gds t m1 o = some (x, q) → q → AbW P gds ops n e1 e2 m0 m1 m2 (k + 1) l (upd t o.dst x) t' → AbW P gds ops n e1 e2 m0 m1 m2 k (o :: l) t t'
  | bld {k : Nat} {dst : Option Nat} {op : Op} {type : TypeId} {pos : String} {after : Array Edge} {l : List Oper} {t t' : List (Nat × AV)} {sz : Nat} {xs : List AV} {p : Prop} : dstB n dst = true → ((!(k == e1) && !(k == e2)) && (before ops k e2 && !before ops e2 k)) = true → bldA P (evo t) op = some (sz, xs, p) → p → AbW P gds ops n e1 e2 m0 m1 m2 (k + 1) l (upd t dst (.lst sz xs)) t' → AbW P gds ops n e1 e2 m0 m1 m2 k (⟨dst, op, type, pos, after, none⟩ :: l) t t'
  | early {k : Nat} {o : Oper} {l : List Oper} {t t' : List (Nat × AV)} {x : AV} {p : Prop} : dstB n o.dst = true → ((!(k == e1) && !(k == e2)) && ((before ops k e1 && !before ops e1 k) && (before ops k e2 && !before ops e2 k))) = true → stepA P gds t m0 o = some (x, p) → p → AbW P gds ops n e1 e2 m0 m1 m2 (k + 1) l (upd t o.dst x) t' → AbW P gds ops n e1 e2 m0 m1 m2 k (o :: l) t t'
  | late {k : Nat} {o : Oper} {l : List Oper} {t t' : List (Nat × AV)} {x : AV} {p : Prop} : dstB n o.dst = true → ((!(k == e1) && !(k == e2)) && ((before ops e1 k && !before ops k e1) && (before ops e2 k && !before ops k e2))) = true → stepA P gds t m2 o = some (x, p) → p → AbW P gds ops n e1 e2 m0 m1 m2 (k + 1) l (upd t o.dst x) t' → AbW P gds ops n e1 e2 m0 m1 m2 k (o :: l) t t'
  | at1 {k : Nat} {o : Oper} {l : List Oper} {t t' : List (Nat × AV)} {x : AV} : dstB n o.dst = true → (k == e1) = true → StepAt P gds t m0 o m1 x → AbW P gds ops n e1 e2 m0 m1 m2 (k + 1) l (upd t o.dst x) t' → AbW P gds ops n e1 e2 m0 m1 m2 k (o :: l) t t'
  | eff1 {k : Nat} {dst : Option Nat} {op : Op} {type : TypeId} {pos : String} {after : Array Edge} {l : List Oper} {t t' : List (Nat × AV)} {x : AV} {p : Prop} : dstB n dst = true → (k == e1) = true → effA P (evo t) m0 op = some (m1, x, p) → p → AbW P gds ops n e1 e2 m0 m1 m2 (k + 1) l (upd t dst x) t' → AbW P gds ops n e1 e2 m0 m1 m2 k (⟨dst, op, type, pos, after, none⟩ :: l) t t'
  | eff2 {k : Nat} {dst : Option Nat} {op : Op} {type : TypeId} {pos : String} {after : Array Edge} {l : List Oper} {t t' : List (Nat × AV)} {x : AV} {p : Prop} : dstB n dst = true → (k == e2) = true → effA P (evo t) m1 op = some (m2, x, p) → p → AbW P gds ops n e1 e2 m0 m1 m2 (k + 1) l (upd t dst x) t' → AbW P gds ops n e1 e2 m0 m1 m2 k (⟨dst, op, type, pos, after, none⟩ :: l) t t'
def memW (m0 m1 m2 : Mem) : List Bool → Mem
  | [true, true] => m2
  | [true, false] => m1
  | _ => m0
theorem consW {ops : List Oper} {e1 e2 i : Nat} (hne : e1 ≠ e2) (hb : before ops e1 e2 = true) {bits : List Bool} (h : bits ∈ consL ops [e1, e2] i) :
    (i = e1 → bits = [false, false]) ∧ (i = e2 → bits = [true, false]) ∧ (i ≠ e1 → i ≠ e2 → before ops i e2 = true → before ops e2 i = false → bits = [false, false] ∨ bits = [true, false]) := by
  obtain ⟨h1, h2⟩ := List.mem_filter.1 h
  have hl := allB_len h1
  match bits, hl with
  | [a, b], _ =>
    simp only [consB, List.zip_cons_cons, List.zip_nil_left, List.all_cons, List.all_nil, Bool.and_true, Bool.and_eq_true, hb, Bool.not_true, Bool.false_or] at h2
    obtain ⟨⟨p1, p2⟩, p3, p4⟩ := h2
    refine ⟨fun hi => ?_, fun hi => ?_, fun q1 q2 q3 q4 => ?_⟩
    · subst hi
      rw [if_pos rfl] at p1
      cases a
      · cases b
        · rfl
        · simp at p4
      · cases p1
    · subst hi
      rw [if_neg hne, if_pos hb] at p1
      rw [if_pos rfl] at p3
      cases a
      · cases p1
      · cases b
        · rfl
        · cases p3
    · rw [if_neg (Ne.symm q2), q4, q3] at p3
      simp at p3
      subst p3
      cases a
      · exact .inl rfl
      · exact .inr rfl
theorem consW1 {ops : List Oper} {e1 e2 i : Nat} (hne : e1 ≠ e2) (hb : before ops e1 e2 = true) {bits : List Bool} (h : bits ∈ consL ops [e1, e2] i) (q1 : i ≠ e1) (q2 : i ≠ e2) (q3 : before ops i e1 = true) (q4 : before ops e1 i = false) (q5 : before ops i e2 = true) (q6 : before ops e2 i = false) : bits = [false, false] := by
  have h0 := (consW hne hb h).2.2 q1 q2 q5 q6
  obtain ⟨h1, h2⟩ := List.mem_filter.1 h
  rcases h0 with rfl | rfl
  · rfl
  · exfalso
    simp only [consB, List.zip_cons_cons, List.zip_nil_left, List.all_cons, List.all_nil, Bool.and_true, Bool.and_eq_true] at h2
    have := h2.1.1
    rw [if_neg (Ne.symm q1), q4, q3] at this
    simp at this
theorem consW2 {ops : List Oper} {e1 e2 i : Nat} {bits : List Bool} (h : bits ∈ consL ops [e1, e2] i) (q1 : i ≠ e1) (q2 : i ≠ e2) (q3 : before ops e1 i = true) (q5 : before ops e2 i = true) : bits = [true, true] := by
  obtain ⟨h1, h2⟩ := List.mem_filter.1 h
  have hl := allB_len h1
  match bits, hl with
  | [a, b], _ =>
    simp only [consB, List.zip_cons_cons, List.zip_nil_left, List.all_cons, List.all_nil, Bool.and_true, Bool.and_eq_true] at h2
    have h3 := h2.1.1
    have h4 := h2.2.1
    rw [if_neg (Ne.symm q1), if_pos q3] at h3
    rw [if_neg (Ne.symm q2), if_pos q5] at h4
    rw [h3, h4]
theorem effA_at {t : List (Nat × AV)} {m m' : Mem} {x : AV} {p : Prop} {dst : Option Nat} {op : Op} {type : TypeId} {pos : String} {after : Array Edge} (h : effA P (evo t) m op = some (m', x, p)) (hp : p) : EffAt P t m ⟨dst, op, type, pos, after, none⟩ m' x :=
  ⟨effA_defer h, fun X w ρ a hi ho => effA_done (o := ⟨dst, op, type, pos, after, none⟩) hi ho h hp⟩
theorem AbW.toM {gds : List (Option Nat)} {ops : List Oper} {n e1 e2 : Nat} {m0 m1 m2 : Mem} (hne : e1 ≠ e2) (hb : before ops e1 e2 = true) : ∀ {k : Nat} {l : List Oper} {t t' : List (Nat × AV)}, AbW P gds ops n e1 e2 m0 m1 m2 k l t t' → AbsM P gds ops [e1, e2] (memW m0 m1 m2) n k l t t'
  | _, _, _, _, .nil => .nil
  | k, _, _, _, .both h1 h2 h3 h4 h5 h6 h7 => by
    simp only [Bool.and_eq_true, Bool.not_eq_true', beq_eq_false_iff_ne] at h2
    obtain ⟨⟨q1, q2⟩, q3, q4⟩ := h2
    refine .cons (dstB_ok h1) (fun bits hbits => ?_) (AbW.toM hne hb h7)
    rcases (consW hne hb hbits).2.2 q1 q2 q3 q4 with rfl | rfl
    · rw [setB_not (by simp [Ne.symm q1, Ne.symm q2]; exact ⟨q1, q2⟩) _ rfl]
      exact (stepA_yield h3 h4).stepAt
    · rw [setB_not (by simp [Ne.symm q1, Ne.symm q2]; exact ⟨q1, q2⟩) _ rfl]
      exact (stepA_yield h5 h6).stepAt
  | k, _, _, _, .bld h1 h2 h3 h4 h7 => by
    simp only [Bool.and_eq_true, Bool.not_eq_true', beq_eq_false_iff_ne] at h2
    obtain ⟨⟨q1, q2⟩, q3, q4⟩ := h2
    refine .cons (dstB_ok h1) (fun bits hbits => ?_) (AbW.toM hne hb h7)
    rcases (consW hne hb hbits).2.2 q1 q2 q3 q4 with rfl | rfl
    · rw [setB_not (by simp [Ne.symm q1, Ne.symm q2]; exact ⟨q1, q2⟩) _ rfl]
      exact (bldA_yield h3 h4).stepAt
    · rw [setB_not (by simp [Ne.symm q1, Ne.symm q2]; exact ⟨q1, q2⟩) _ rfl]
      exact (bldA_yield h3 h4).stepAt
  | k, _, _, _, .early h1 h2 h3 h4 h7 => by
    simp only [Bool.and_eq_true, Bool.not_eq_true', beq_eq_false_iff_ne] at h2
    obtain ⟨⟨q1, q2⟩, ⟨q3, q4⟩, q5, q6⟩ := h2
    refine .cons (dstB_ok h1) (fun bits hbits => ?_) (AbW.toM hne hb h7)
    rw [consW1 hne hb hbits q1 q2 q3 q4 q5 q6]
    rw [setB_not (by simp [Ne.symm q1, Ne.symm q2]; exact ⟨q1, q2⟩) _ rfl]
    exact (stepA_yield h3 h4).stepAt
  | k, _, _, _, .late h1 h2 h3 h4 h7 => by
    simp only [Bool.and_eq_true, Bool.not_eq_true', beq_eq_false_iff_ne] at h2
    obtain ⟨⟨q1, q2⟩, ⟨q3, q4⟩, q5, q6⟩ := h2
    refine .cons (dstB_ok h1) (fun bits hbits => ?_) (AbW.toM hne hb h7)
    rw [consW2 hbits q1 q2 q3 q5]
    rw [setB_not (by simp [Ne.symm q1, Ne.symm q2]; exact ⟨q1, q2⟩) _ rfl]
    exact (stepA_yield h3 h4).stepAt
  | k, _, _, _, .at1 h1 h2 h3 h7 => by
    simp only [beq_iff_eq] at h2
    refine .cons (dstB_ok h1) (fun bits hbits => ?_) (AbW.toM hne hb h7)
    rw [(consW hne hb hbits).1 h2]
    have e : setB [e1, e2] k [false, false] = [true, false] := by subst h2; simp [setB, Ne.symm hne]
    rw [e]
    exact h3
  | k, _, _, _, .eff1 h1 h2 h3 h4 h7 => by
    simp only [beq_iff_eq] at h2
    refine .cons (dstB_ok h1) (fun bits hbits => ?_) (AbW.toM hne hb h7)
    rw [(consW hne hb hbits).1 h2]
    have e : setB [e1, e2] k [false, false] = [true, false] := by subst h2; simp [setB, Ne.symm hne]
    rw [e]
    exact (effA_at h3 h4).stepAt rfl
  | k, _, _, _, .eff2 h1 h2 h3 h4 h7 => by
    simp only [beq_iff_eq] at h2
    refine .cons (dstB_ok h1) (fun bits hbits => ?_) (AbW.toM hne hb h7)
    rw [(consW hne hb hbits).2.1 h2]
    have e : setB [e1, e2] k [true, false] = [true, true] := by subst h2; simp [setB]
    rw [e]
    exact (effA_at h3 h4).stepAt rfl
theorem Wp.runW {r : Option Nat} {Q : Exit → S → Prop} {s : S} {id : Nat} {ops : List Oper} {gds : List (Option Nat)} {t1 : List (Nat × AV)} (e1 e2 : Nat) (f : Mem → Mem) {m2 : Mem} (hm : P.follows .mixedOrders = true) (hg : ops.map (·.dst) = gds) (hB : gds.all (dstB s.n) = true) (hord : ordB gds ops ops.length = true)
    (hw : (decide (e1 < ops.length) && decide (e2 < ops.length) && decide (e1 ≠ e2) && before ops e1 e2) = true) (habs : AbW P gds ops s.n e1 e2 s.m (f s.m) m2 0 ops s.t t1) (h : Q .normal ⟨t1, m2, s.n, s.d⟩) : Wp P r (.region id ops.toArray true) Q s := by
  simp only [Bool.and_eq_true, decide_eq_true_eq] at hw
  obtain ⟨⟨⟨q1, q2⟩, q3⟩, q4⟩ := hw
  refine Wp.runM [e1, e2] (memW s.m (f s.m) m2) (t1 := t1) hm hg hB hord (by simp [q1, q2]) rfl (AbW.toM q3 q4 habs) ?_
  exact h
end Go.Vg
