/- The abstract machine, part Fr: contracts over a part of the memory; nil slices in memory, adopted; regions that draw and leave memory as it is. -/
import Derived.Test.YtljchlkmalidnaaVgDm
set_option linter.all false
set_option linter.unusedVariables false
namespace Go.Vg
open Go.RowKit
variable {P : Program} {X : Nat → Prop} {w : World} {ρ : Rho}

theorem getF {F l : Mem} {N : Nat} (hN : F.length = N) (i : Nat) : (F ++ l)[N + i]? = l[i]? := by
  subst hN; rw [List.getElem?_append_right (by omega)]; congr 1; omega
theorem getF0 {F l : Mem} {N : Nat} (hN : F.length = N) : (F ++ l)[N]? = l[0]? := getF (i := 0) hN
theorem setF {F l : Mem} {N : Nat} (hN : F.length = N) (i : Nat) (e : Ent) : (F ++ l).set (N + i) e = F ++ l.set i e := by
  subst hN; rw [List.set_append_right _ _ (by omega)]; congr 2; omega
theorem setF0 {F l : Mem} {N : Nat} (hN : F.length = N) (e : Ent) : (F ++ l).set N e = F ++ l.set 0 e := setF (i := 0) hN e

/-! nil slices in a row become entries of our own -/
/-- y is x, or x is nil without capacity and y an empty own slice of one of the entries from a to b -/
def Ad (a b : Nat) (x y : AV) : Prop := y = x ∨ (x = .emp ∧ ∃ id, a ≤ id ∧ id < b ∧ y = .osl id 0 0 0)
def AdL (a b : Nat) : List AV → List AV → Prop
  | [], [] => True
  | x :: l, y :: l' => (Ad a b x y ∨ y = .any) ∧ AdL a b l l'
  | _, _ => False
def AdE (a b : Nat) (x y : AV) : Prop := Ad a b x y ∨ ∃ xs ys, x = .agg xs ∧ y = .agg ys ∧ AdL a b xs ys
def AdR (a b : Nat) : List AV → List AV → Prop
  | [], [] => True
  | x :: l, y :: l' => AdE a b x y ∧ AdR a b l l'
  | _, _ => False
theorem AdL.len {a b : Nat} : ∀ {l l' : List AV}, AdL a b l l' → l'.length = l.length
  | [], [], _ => rfl
  | x :: l, y :: l', h => by simp [AdL.len h.2]
theorem AdR.len {a b : Nat} : ∀ {l l' : List AV}, AdR a b l l' → l'.length = l.length
  | [], [], _ => rfl
  | x :: l, y :: l', h => by simp [AdR.len h.2]
theorem Ad.rel {a b : Nat} (hv : ∀ id, a ≤ id → id < b → ∃ r, ρ[id]? = some r ∧ r.ver = 0) {x y : AV} (h : Ad a b x y) {v : Value} (hx : R X w ρ x v) : R X w ρ y v := by
  rcases h with rfl | ⟨rfl, id, h1, h2, rfl⟩
  · exact hx
  · obtain ⟨A, rfl⟩ := hx
    obtain ⟨r, h3, h4⟩ := hv id h1 h2
    exact ⟨A, 0, r, rfl, h3, by omega, fun _ => ⟨Nat.le_refl _, Nat.zero_le _, fun h => absurd h (Nat.lt_irrefl 0)⟩⟩
theorem AdL.rel {a b : Nat} (hv : ∀ id, a ≤ id → id < b → ∃ r, ρ[id]? = some r ∧ r.ver = 0) {bl : Nat} : ∀ {l l' : List AV} {o : Nat}, AdL a b l l' → Rcells X w ρ l bl o → Rcells X w ρ l' bl o
  | [], [], _, _, h => h
  | x :: l, y :: l', o, ⟨h1, h2⟩, ⟨⟨v, q1, q2, q3⟩, q4⟩ => ⟨⟨v, q1, q2, by
    rcases h1 with h1 | rfl
    · exact h1.rel hv q3
    · trivial⟩, AdL.rel hv h2 q4⟩
theorem AdE.rel {a b : Nat} (hv : ∀ id, a ≤ id → id < b → ∃ r, ρ[id]? = some r ∧ r.ver = 0) {x y : AV} (h : AdE a b x y) {sz bl o : Nat} (hx : Re X w ρ x sz bl o) : Re X w ρ y sz bl o := by
  rcases h with h | ⟨xs, ys, rfl, rfl, h⟩
  · rcases h with rfl | ⟨rfl, id, h1, h2, rfl⟩
    · exact hx
    · exact OneAt.mono (fun _ => rfl) hx fun v hv' => Ad.rel (X := X) (w := w) hv (x := .emp) (.inr ⟨rfl, id, h1, h2, rfl⟩) hv'
  · exact ⟨by rw [h.len]; exact hx.1, h.rel hv hx.2⟩
theorem AdR.rel {a b : Nat} (hv : ∀ id, a ≤ id → id < b → ∃ r, ρ[id]? = some r ∧ r.ver = 0) {sz bl : Nat} : ∀ {l l' : List AV} {o : Nat}, AdR a b l l' → Rrow X w ρ l sz bl o → Rrow X w ρ l' sz bl o
  | [], [], _, _, h => h
  | x :: l, y :: l', o, ⟨h1, h2⟩, ⟨q1, q2⟩ => ⟨h1.rel hv q1, AdR.rel hv h2 q2⟩
theorem Rel.vacs {s : S} {a : Act} (hr : Rel X s a w ρ) : ∀ n : Nat, ∃ ρ', Rel X { s with m := s.m ++ List.replicate n ⟨0, .row 1 []⟩ } a w ρ' ∧ Tr w ρ w ρ'
  | 0 => ⟨ρ, by simpa using hr, Tr.refl w ρ⟩
  | n + 1 => by
    obtain ⟨ρ1, h1, t1⟩ := Rel.vacs hr n
    obtain ⟨t2, i2⟩ := h1.inv.adopt 1
    refine ⟨_, ?_, t1.trans t2⟩
    have := h1.step t2 i2
    simp only at this
    rw [List.append_assoc] at this
    rw [List.replicate_succ']
    exact this
theorem Wp.adoptRow {r : Option Nat} {c : Code} {Q : Exit → S → Prop} {s : S} (e n : Nat) {ver sz : Nat} {l l' : List AV} (hm : s.m[e]? = some ⟨ver, .row sz l⟩) (hl : AdR s.m.length (s.m.length + n) l l')
    (k : Wp P r c Q { s with m := s.m.set e ⟨ver, .row sz l'⟩ ++ List.replicate n ⟨0, .row 1 []⟩ }) : Wp P r c Q s := by
  intro X a w ρ hr
  obtain ⟨ρ1, h1, t1⟩ := hr.vacs n
  have hlen : e < s.m.length := (List.getElem?_eq_some_iff.1 hm).1
  have hm1 : (s.m ++ List.replicate n (⟨0, .row 1 []⟩ : Ent))[e]? = some ⟨ver, .row sz l⟩ := by rw [List.getElem?_append_left hlen]; exact hm
  have hv : ∀ id, s.m.length ≤ id → id < s.m.length + n → ∃ r, ρ1[id]? = some r ∧ r.ver = 0 := by
    intro id q1 q2
    have hi1 : id < ρ1.length := by rw [h1.inv.len]; simp; omega
    refine ⟨ρ1[id], List.getElem?_eq_getElem hi1, ?_⟩
    have hi2 : (s.m ++ List.replicate n (⟨0, .row 1 []⟩ : Ent))[id]? = some ⟨0, .row 1 []⟩ := by
      rw [List.getElem?_append_right q1, List.getElem?_replicate, if_pos (by omega)]
    exact (h1.inv.at_ id _ _ (List.getElem?_eq_getElem hi1) hi2).1
  have hinv : Inv X w ρ1 ((s.m ++ List.replicate n (⟨0, .row 1 []⟩ : Ent)).set e ⟨ver, .row sz l'⟩) := by
    have hi := h1.inv
    refine ⟨by simp [hi.len], fun i r' e' hr' he => ?_, hi.apart, hi.new, hi.out, hi.gd⟩
    rcases getElem?_set_cases he with ⟨rfl, _, rfl⟩ | ⟨hne, he'⟩
    · obtain ⟨q1, q2, q3, q4⟩ := hi.at_ i r' _ hr' hm1
      refine ⟨q1, q2, fun hb => ?_, fun b hb => ?_⟩
      · have := q3 hb; subst this
        cases l' with
        | nil => rfl
        | cons y l' => exact hl.elim
      · obtain ⟨z1, z2, z3⟩ := q4 b hb
        exact ⟨z1, by rw [hl.len]; exact z2, hl.rel hv z3⟩
    · exact hi.at_ i r' e' hr' he'
  have hrel : Rel X { s with m := s.m.set e ⟨ver, .row sz l'⟩ ++ List.replicate n ⟨0, .row 1 []⟩ } a w ρ1 := by
    refine ⟨h1.tmps, h1.size, ?_, h1.defers⟩
    have := hinv
    rwa [List.set_append_left _ _ hlen] at this
  exact Go.wpIn_mono (k X a w _ hrel) fun e a' w' ⟨s', ρ', q, k1, k2⟩ => ⟨s', ρ', q, k1, t1.trans k2⟩

/-! a region that draws and leaves memory as it is -/
def Abq (P : Program) (gds : List (Option Nat)) (ops : List Oper) (k : Nat) (l : List Oper) (s s1 : S) : Prop :=
  (∀ o ∈ l, dstOk s.n o.dst) → AbsM P gds ops [] (fun _ => s.m) s.n k l s.t s1.t ∧ s1 = ⟨s1.t, s.m, s.n, s.d⟩
section
variable {gds : List (Option Nat)} {ops l : List Oper} {k : Nat} {s s1 : S} {o : Oper}
theorem Abq.nil : Abq P gds ops k [] s s := fun _ => ⟨.nil, rfl⟩
theorem Abq.step {x : AV} (h : StepAt P gds s.t s.m o s.m x) (hn : Abq P gds ops (k + 1) l (putA s o.dst x) s1) : Abq P gds ops k (o :: l) s s1 := by
  intro hd
  have hn' : (putA s o.dst x).n = s.n := putA_n s o.dst x
  obtain ⟨h1, h2⟩ := hn (fun o' ho' => by rw [hn']; exact hd o' (by simp [ho']))
  have e1 : (putA s o.dst x).t = upd s.t o.dst x := by cases o with | mk dst op type pos after guard => cases dst <;> rfl
  have e2 : (putA s o.dst x).m = s.m := by cases o with | mk dst op type pos after guard => cases dst <;> rfl
  have e3 : (putA s o.dst x).d = s.d := by cases o with | mk dst op type pos after guard => cases dst <;> rfl
  rw [e1, e2, hn'] at h1
  rw [e2, hn', e3] at h2
  exact ⟨.cons (hd o (by simp)) (fun bits _ => h) h1, h2⟩
theorem Abq.next {s' : S} {p : Prop} (h : abnA P gds s o = some (s', p)) (hp : p) (hn : Abq P gds ops (k + 1) l s' s1) : Abq P gds ops k (o :: l) s s1 := by
  obtain ⟨dst, op, type, pos, after, guard⟩ := o
  unfold abnA at h
  split at h
  · rename_i x p' he
    simp only [Option.some.injEq, Prod.mk.injEq] at h
    obtain ⟨rfl, rfl⟩ := h
    exact Abq.step (stepA_yield he hp).stepAt hn
  · cases guard with
    | none =>
      simp only at h
      split at h
      · rename_i sz xs p' he
        simp only [Option.some.injEq, Prod.mk.injEq] at h
        obtain ⟨rfl, rfl⟩ := h
        exact Abq.step (bldA_yield he hp).stepAt hn
      · cases h
    | some g => cases h
theorem Abq.pureP {fo : Operand} {args : List Operand} {tys : Array TypeId} {dst : Option Nat} {type : TypeId} {pos : String} {after : Array Edge} {g : Option Bool} {guard : Option (Nat × Bool)} {f : FuncId} {vargs : List AV} {x : AV}
    (h : prepV gds s guard fo args = some (g, f, vargs)) (he : Enters P f) (hc : Pure P f vargs x) (ha : gOk s.t g (fo :: args) ∧ okL 0 vargs ∧ x.plain) (hn : Abq P gds ops (k + 1) l (putA s dst (optG g x)) s1) : Abq P gds ops k (⟨dst, callOp fo args tys, type, pos, after, guard⟩ :: l) s s1 := by
  obtain ⟨hg, caps, hf, hv⟩ := prepV_some h
  exact Abq.step (Pure.yield (o := ⟨dst, callOp fo args tys, type, pos, after, guard⟩) rfl hg ha.1 hf he (fun _ => hc) hv ha.2.1 ha.2.2).stepAt hn
/-- a call over our own entries that leaves them as they are -/
theorem Spec.stepG {fo : Operand} {args : List Operand} {tys : Array TypeId} {dst : Option Nat} {type : TypeId} {pos : String} {after : Array Edge} {g : Option Bool} {guard : Option (Nat × Bool)} {f : FuncId} {vargs : List AV} {x : AV} {t : List (Nat × AV)} {m : Mem}
    (h : prepF gds ⟨t, m, s.n, s.d⟩ guard fo args = some (g, f, vargs)) (he : Enters P f) (hok : gOk t g (fo :: args)) (hc : (g = none ∨ g = some true) → Spec P f vargs m fun y m' => y = x ∧ m' = m) : StepAt P gds t m ⟨dst, callOp fo args tys, type, pos, after, guard⟩ m (optG g x) := by
  obtain ⟨hg, caps, hf, hv⟩ := prepF_some h
  simp only at hg hf hv
  refine ⟨fun c e => (by cases e), fun X w ρ a hi hr hn => ?_⟩
  have hcall : (g = none ∨ g = some true) → Gives P ⟨dst, callOp fo args tys, type, pos, after, guard⟩ a w fun v w' => ∃ ρ', R X w' ρ' x v ∧ Inv X w' ρ' m ∧ Tr w ρ w' ρ' := by
    intro hb
    obtain ⟨h1, h2⟩ := onames_call (fo := fo) (args := args) (tys := tys) (t := t) (a := a) (X := X) (w := w) (ρ := ρ) (fun n hn => hr n (.inr hn))
    have h3 := evoG_rel hok hb (a := a) (X := X) (w := w) (ρ := ρ) (by intro y hy; cases hy with | head => exact h1 | tail _ hy => exact h2 y hy)
    obtain ⟨cs, hcs, hcr⟩ := fnOf_rel hf (h3 fo (by simp))
    have hrun := run_call (P := P) (w := w) (o := ⟨dst, callOp fo args tys, type, pos, after, guard⟩) rfl hcs he
    have hargs : Rvals X w ρ (args.map (evoG t g) ++ caps) (args.map a.eval ++ cs) := (Rvals_map args fun y hy => h3 y (by simp [hy])).append hcr
    rw [hv] at hargs
    refine .inr ⟨f, _, hrun, ?_⟩
    refine (hc hb X w ρ _ hi hargs).mono ?_
    rintro e w' ⟨v, x', m', ρ', rfl, ⟨rfl, rfl⟩, k1, k2, k3⟩
    exact ⟨v, rfl, ρ', k1, k2, k3⟩
  cases guard with
  | none =>
    simp only [gvalO, Option.some.injEq] at hg
    subst hg
    exact ⟨fun _ => .inr (hcall (.inl rfl)), fun hw => (by simp [Region.wanted] at hw)⟩
  | some gg =>
    simp only [gvalO, Option.map_eq_some_iff] at hg
    obtain ⟨b, hb, rfl⟩ := hg
    have hw := gval_wanted (o := ⟨dst, callOp fo args tys, type, pos, after, some gg⟩) (a := a) (X := X) (w := w) (ρ := ρ) rfl (fun n hn' => ⟨hr n (.inl hn'), hn n hn'⟩) hb
    rw [hw]
    refine ⟨fun hbt => ?_, fun hbf => ⟨⟨fun e => (by rw [hbf] at e; cases e), fun _ => rfl⟩, rfl⟩⟩
    subst hbt
    right
    rcases hcall (.inr rfl) with ⟨v, w', q1, ρ', q2, q3, q4⟩ | ⟨f', args', q1, q2⟩
    · exact .inl ⟨v, w', q1, ρ', ⟨fun _ => q2, fun e => (by cases e)⟩, q3, q4⟩
    · exact .inr ⟨f', args', q1, q2.mono fun e w' ⟨v, e1, ρ', q2, q3, q4⟩ => ⟨v, e1, ρ', ⟨fun _ => q2, fun e => (by cases e)⟩, q3, q4⟩⟩
theorem Abq.spec {fo : Operand} {args : List Operand} {tys : Array TypeId} {dst : Option Nat} {type : TypeId} {pos : String} {after : Array Edge} {g : Option Bool} {guard : Option (Nat × Bool)} {f : FuncId} {vargs : List AV} {x : AV} {m0 : Mem}
    (h : prepF gds s guard fo args = some (g, f, vargs)) (hm : s.m = m0) (he : Enters P f) (hok : gOk s.t g (fo :: args)) (hc : (g = none ∨ g = some true) → Spec P f vargs m0 fun y m' => y = x ∧ m' = m0) (hn : Abq P gds ops (k + 1) l (putA s dst (optG g x)) s1) : Abq P gds ops k (⟨dst, callOp fo args tys, type, pos, after, guard⟩ :: l) s s1 :=
  Abq.step (Spec.stepG (s := s) h he hok (by subst hm; exact hc)) hn
end
end Go.Vg
