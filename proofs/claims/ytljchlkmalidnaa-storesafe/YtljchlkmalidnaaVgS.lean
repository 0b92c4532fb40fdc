/- The abstract machine, part S: a range over a function. -/
import Derived.Test.YtljchlkmalidnaaVgR
import Derived.RangeFuncIn
set_option linter.all false
set_option linter.unusedVariables false
namespace Go.Vg
open Go.RowKit
variable {P : Program} {X : Nat → Prop} {w : World} {ρ : Rho}

/-- what a call of a loop's yield does -/
def YSpec (P : Program) (y : AV) (args : List AV) (m : Mem) (Q : AV → Mem → Prop) : Prop :=
  ∀ (X : Nat → Prop) (w : World) (ρ : Rho) (v : Value) (vs : List Value), Inv X w ρ m → R X w ρ y v → Rvals X w ρ args vs →
    ∃ l fn tmps asg body, v = .func (.yield l) #[] #[] ∧ (Instr.yield l vs.toArray).run P w = .ok (.round l fn tmps asg body) w ∧
      RoundIn (fence none) 0 P l fn tmps asg body w fun e w' => ∃ u x m' ρ', e = .returned u ∧ Q x m' ∧ R X w' ρ' x u ∧ Inv X w' ρ' m' ∧ Tr w ρ w' ρ'

theorem YSpec.mono {y : AV} {args : List AV} {m : Mem} {Q Q' : AV → Mem → Prop} (h : YSpec P y args m Q) (hq : ∀ x m', Q x m' → Q' x m') : YSpec P y args m Q' := by
  intro X w ρ v vs hi hy hv
  obtain ⟨l, fn, tmps, asg, body, h1, h2, h3⟩ := h X w ρ v vs hi hy hv
  exact ⟨l, fn, tmps, asg, body, h1, h2, h3.mono fun e w' ⟨u, x, m', ρ', e1, q, k1, k2, k3⟩ => ⟨u, x, m', ρ', e1, hq x m' q, k1, k2, k3⟩⟩

section
variable {gds : List (Option Nat)} {l : List Oper} {Q : S → Prop} {s : S}
/-- a guard that is met, and one that is not -/
def unV : AV → AV
  | .opt g x => if g = true then x else .opt g x
  | x => x
def unE (q : Nat × AV) : Nat × AV := (q.1, unV q.2)
theorem unV_rel {x : AV} {v : Value} (h : R X w ρ x v) : R X w ρ (unV x) v := by
  cases x <;> first | exact h | skip
  rename_i g y
  cases g
  · exact h
  · exact h.1 rfl
theorem look_map_unE (n : Nat) : ∀ (t : List (Nat × AV)), look (t.map unE) n = unV (look t n)
  | [] => rfl
  | (k, x) :: t => by
    simp only [List.map_cons, unE, look]
    split
    · rfl
    · exact look_map_unE n t
theorem look_unE (t : List (Nat × AV)) (n : Nat) {v : Value} (h : R X w ρ (look t n) v) : R X w ρ (look (t.map unE) n) v := by
  rw [look_map_unE]; exact unV_rel h

theorem Run.gtrue {dst : Option Nat} {op : Op} {type : TypeId} {pos : String} {after : Array Edge} {g : Nat × Bool} {t' : List (Nat × AV)} (h : gval gds s.t g = some true) (ht : s.t.map unE = t') (k : Run P gds (⟨dst, op, type, pos, after, none⟩ :: l) Q { s with t := t' }) : Run P gds (⟨dst, op, type, pos, after, some g⟩ :: l) Q s := by
  subst ht
  intro hg hd X r a w ρ hr
  have hw := gval_wanted (o := ⟨dst, op, type, pos, after, some g⟩) (a := a) (X := X) (w := w) (ρ := ρ) rfl (fun n hn => ⟨hr.tmps n, by rw [hr.size]; exact gnames_lt hg _ n hn⟩) h
  have hr' : Rel X { s with t := s.t.map unE } a w ρ := ⟨fun n => look_unE s.t n (hr.tmps n), hr.size, hr.inv, hr.defers⟩
  have h0 := k hg (fun o ho => by
    cases ho with
    | head => exact hd ⟨dst, op, type, pos, after, some g⟩ (by simp)
    | tail _ ho => exact hd o (List.mem_cons_of_mem _ ho)) X r a w ρ hr'
  unfold opwp at h0 ⊢
  rw [if_pos (by simp [Region.wanted])] at h0
  rw [if_pos hw]
  exact h0
theorem Run.gfalse (x : AV) {dst : Option Nat} {op : Op} {type : TypeId} {pos : String} {after : Array Edge} {g : Nat × Bool} (h : gval gds s.t g = some false) (k : Run P gds l Q (s.put dst (.opt false x))) : Run P gds (⟨dst, op, type, pos, after, some g⟩ :: l) Q s := by
  intro hg hd X r a w ρ hr
  have hw := gval_wanted (o := ⟨dst, op, type, pos, after, some g⟩) (a := a) (X := X) (w := w) (ρ := ρ) rfl (fun n hn => ⟨hr.tmps n, by rw [hr.size]; exact gnames_lt hg _ n hn⟩) h
  unfold opwp
  rw [if_neg (by rw [hw]; simp)]
  refine ⟨s.put dst (.opt false x), ρ, k (by rw [S.put_n]; exact hg) (fun o ho => by rw [S.put_n]; exact hd o (List.mem_cons_of_mem _ ho)), hr.put (hd ⟨dst, op, type, pos, after, some g⟩ (by simp)) ⟨fun e => (by cases e), fun _ => rfl⟩, Tr.refl w ρ⟩
end

theorem turns_putObj (w : World) (b : Nat) (o : Obj) : Turns w b (w.putObj b o) := ⟨rfl, rfl, rfl, by simp [World.putObj], fun k hk => World.putObj_heap_other hk⟩

/-- the record of a loop is written -/
theorem Inv.putRec {m : Mem} (hi : Inv X w ρ m) {id ver : Nat} {t : List (Nat × AV)} {n : Nat} {ps : List Nat} {asg body : Code} {pe pe' : Option Code} {busy busy' : Bool} (hm : m[id]? = some ⟨ver, .lrec t n ps asg body pe busy⟩) {r : RE} (hr : ρ[id]? = some r) {b : Nat} {rec rec' : Loop}
    (hb : r.blk = some b) (hh : w.heap[b]? = some (.loop rec)) (h1 : rec'.params = rec.params) (h2 : rec'.assign = rec.assign) (h3 : rec'.body = rec.body) (h4 : rec'.tmps = rec.tmps) (h5 : rec'.pending = pe') (h6 : rec'.state = (if busy' then .busy else if pe'.isNone then .ready else .done)) :
    Tr w ρ (w.putObj b (.loop rec')) ρ ∧ Inv X (w.putObj b (.loop rec')) ρ (m.set id ⟨ver, .lrec t n ps asg body pe' busy'⟩) := by
  have ht := turns_putObj w b (.loop rec')
  have htr := Tr.turn hr hb ht
  obtain ⟨hv, b', rec0, q1, q2, q3, q4, q5, q6, q7, q8, q9⟩ := hi.at_ id r _ hr hm
  rw [hb] at q1; cases q1
  rw [hh] at q2; cases q2
  refine ⟨htr, by simp [hi.len], fun i r' e hr' he => ?_, hi.apart, fun i r' b' hr' hb' => by rw [ht.size]; exact hi.new i r' b' hr' hb', fun b' hb' => by rw [ht.size]; exact hi.out b' hb', hi.gd.tr htr⟩
  rcases getElem?_set_cases he with ⟨rfl, _, rfl⟩ | ⟨hne, he'⟩
  · rw [hr] at hr'; cases hr'
    refine ⟨hv, b, rec', hb, World.putObj_heap_same (hi.new i r b hr hb).1, by rw [h1, q3], by rw [h2, q4], by rw [h3, q5], by rw [h4, q6], h5, h6, fun k => ?_⟩
    rw [h4]; exact R.tr htr (q9 k)
  · obtain ⟨h1', h2'⟩ := hi.at_ i r' e hr' he'
    exact ⟨h1', h2'.mono htr.kp fun b' hb' => ht.block b' fun e => hne (hi.apart i id r' r b hr' hr (by rw [hb', e]) hb)⟩

/-- a parameter of the loop's body, and the others -/
def bindP : List Nat → List AV → List (Nat × AV) → List (Nat × AV)
  | p :: ps, x :: xs, t => bindP ps xs ((p, x) :: t)
  | _, _, t => t

theorem bindP_rel : ∀ (ps : List Nat) (xs : List AV) (vs : List Value) (t : List (Nat × AV)) (tmps : Array Value), ps.length = xs.length → Rvals X w ρ xs vs → (∀ p ∈ ps, p < tmps.size) → (∀ k, R X w ρ (look t k) (tmps.getD k undef)) →
    (((ps.toArray.zip vs.toArray).foldl (fun tmps (x : Nat × Value) => match x with | (t, a) => tmps.setIfInBounds t a) tmps).size = tmps.size) ∧ ∀ k, R X w ρ (look (bindP ps xs t) k) (((ps.toArray.zip vs.toArray).foldl (fun tmps (x : Nat × Value) => match x with | (t, a) => tmps.setIfInBounds t a) tmps).getD k undef)
  | [], [], vs, t, tmps, _, hv, _, h => by
    cases hv
    exact ⟨by simp, fun k => by simpa [bindP] using h k⟩
  | [], _ :: _, _, _, _, hl, _, _, _ => by simp at hl
  | _ :: _, [], _, _, _, hl, _, _, _ => by simp at hl
  | p :: ps, x :: xs, _, t, tmps, hl, ⟨v, vs', rfl, hv1, hv2⟩, hp, h => by
    have e : ((p :: ps).toArray.zip (v :: vs').toArray).foldl (fun tmps (x : Nat × Value) => match x with | (t, a) => tmps.setIfInBounds t a) tmps = (ps.toArray.zip vs'.toArray).foldl (fun tmps (x : Nat × Value) => match x with | (t, a) => tmps.setIfInBounds t a) (tmps.setIfInBounds p v) := by
      rw [← Array.foldl_toList, ← Array.foldl_toList, Array.toList_zip, Array.toList_zip]
      rfl
    rw [e]
    have hplt := hp p (by simp)
    obtain ⟨s1, s2⟩ := bindP_rel ps xs vs' ((p, x) :: t) (tmps.setIfInBounds p v) (by simpa using hl) hv2 (fun q hq => by simpa using hp q (by simp [hq])) (fun k => by
      simp only [look]
      split
      · rename_i e; subst e; simp [hplt]; exact hv1
      · rename_i e
        have : (tmps.setIfInBounds p v).getD k undef = tmps.getD k undef := by simp [Array.getElem?_setIfInBounds_ne e]
        rw [this]; exact h k)
    exact ⟨by rw [s1]; simp, s2⟩

/-- how a round may be left -/
def roundQ (C : Option Code → S → Prop) : Exit → S → Prop
  | .normal, s => C none s
  | .ret, s => C (some .ret) s
  | .exit id, s => C (some (.exit id)) s
  | .goto t, s => C (some (.goto t)) s
  | _, _ => False

/-- what yield does, by the loop's body: it is walked with the loop's record busy; k entries stay -/
theorem YSpec.of_body {id ver : Nat} {t : List (Nat × AV)} {n : Nat} {ps : List Nat} {asg body : Code} {m : Mem} (hm : m[id]? = some ⟨ver, .lrec t n ps asg body none false⟩) {args : List AV} (hl : ps.length = args.length) (hps : ∀ p ∈ ps, p < n) {Q : AV → Mem → Prop}
    (h : ∀ L : Nat, Wp P (some L) asg (tQ (fun s1 => s1.m = m ∧ s1.n = n ∧ Wp P (some L) body (roundQ fun j s2 => s2.m[id]? = some ⟨ver, .lrec t n ps asg body none true⟩ ∧ (∀ e ∈ s2.m.take m.length, e.kind.ok m.length) ∧ Q (.bool j.isNone) ((s2.m.set id ⟨ver, .lrec t n ps asg body j false⟩).take m.length))
      { s1 with m := m.set id ⟨ver, .lrec t n ps asg body none true⟩ }) (fun _ _ => False)) { t := bindP ps args t, m := m, n := n, d := [] }) : YSpec P (.yld id ver) args m Q := by
  intro X w ρ v vs hi hy hv
  obtain ⟨b, r, rfl, hr, hle, hat⟩ := hy
  obtain ⟨hver, b0, rec, q1, q2, q3, q4, q5, q6, q7, q8, q9⟩ := hi.at_ id r _ hr hm
  simp only at hver
  have hbL := hat hver.symm
  have eb : b0 = b := by rw [q1] at hbL; exact Option.some.inj hbL
  subst b0
  have hsz : vs.length = args.length := hv.len
  refine ⟨b, rec.fn, _, rec.assign, rec.body, rfl, run_yield q2 (by rw [q3]; simp; omega), ?_⟩
  obtain ⟨e1, e2⟩ := bindP_rel ps args vs t rec.tmps hl hv (fun p hp => by rw [q6]; exact hps p hp) q9
  rw [q3]
  have hrel : Rel X { t := bindP ps args t, m := m, n := n, d := [] } { tmps := (ps.toArray.zip vs.toArray).foldl (fun tmps (x : Nat × Value) => match x with | (t, a) => tmps.setIfInBounds t a) rec.tmps, defers := [] } w ρ :=
    ⟨e2, by rw [e1, q6], hi, rfl⟩
  refine roundIn_of_wpIn (F := fence none) trivial ?_
  rw [q4]
  refine Go.wpIn_mono (h b X _ w ρ hrel) ?_
  rintro e a1 w1 ⟨s1, ρ1, hq, hr1, ht1⟩
  cases e with
  | normal =>
    obtain ⟨hs1, hn1, hbody⟩ := hq
    -- the record is busy
    have hr1i := hr1.inv
    rw [hs1] at hr1i
    obtain ⟨r1, g1, g2, g3⟩ := ht1.vers id r hr
    obtain ⟨hver1, b1, rec1, p1, p2, p3, p4, p5, p6, p7, p8, p9⟩ := hr1i.at_ id r1 _ g1 hm
    simp only at hver1
    have hr1r : r1 = r := g3 (by omega)
    subst hr1r
    rw [q1] at p1; cases p1
    obtain ⟨t2, i2⟩ := hr1i.putRec hm g1 q1 p2 (rec' := { rec1 with state := .busy }) (pe' := none) (busy' := true) rfl rfl rfl rfl p7 rfl
    refine ⟨_, run_beginRound p2 (by rw [p8]; rfl), ?_⟩
    rw [q5]
    have hr2 : Rel X { s1 with m := m.set id ⟨ver, .lrec t n ps asg body none true⟩ } a1 (w1.putObj b (.loop { rec1 with state := .busy })) ρ1 := hr1.step t2 i2
    refine Go.wpIn_mono (hbody X a1 _ ρ1 hr2) ?_
    rintro e a3 w3 ⟨s3, ρ3, hq3, hr3, ht3⟩
    -- the round's end
    have fin : ∀ (j : Option Code), (s3.m[id]? = some ⟨ver, .lrec t n ps asg body none true⟩ ∧ (∀ e ∈ s3.m.take m.length, e.kind.ok m.length) ∧ Q (.bool j.isNone) ((s3.m.set id ⟨ver, .lrec t n ps asg body j false⟩).take m.length)) →
        ∃ v w', (Instr.endRound b j).run P w3 = .ok v w' ∧ ∃ u x m' ρ', Ending.returned v = .returned u ∧ Q x m' ∧ R X w' ρ' x u ∧ Inv X w' ρ' m' ∧ Tr w ρ w' ρ' := by
      rintro j ⟨c1, c2, c3⟩
      have ht03 := (ht1.trans t2).trans ht3
      obtain ⟨r3, d1, d2, d3⟩ := ht03.vers id r1 hr
      obtain ⟨hver3, b3, rec3, z1, z2, z3, z4, z5, z6, z7, z8, z9⟩ := hr3.inv.at_ id r3 _ d1 c1
      simp only at hver3
      have hr3r : r3 = r1 := d3 (by omega)
      subst hr3r
      rw [q1] at z1; cases z1
      obtain ⟨t4, i4⟩ := hr3.inv.putRec c1 d1 q1 z2 (rec' := { rec3 with state := if j.isNone then .ready else .done, pending := j }) (pe' := j) (busy' := false) rfl rfl rfl rfl rfl (by simp)
      have hidlt : id < m.length := (List.getElem?_eq_some_iff.1 hm).1
      refine ⟨_, _, run_endRound j z2, .bool j.isNone, .bool j.isNone, _, ρ3.take m.length, rfl, c3, rfl, i4.take m.length ?_, (ht03.trans t4).take (by rw [hi.len]; exact Nat.le_refl _)⟩
      intro e he
      obtain ⟨i, hi'⟩ := List.getElem?_of_mem he
      rw [List.getElem?_take] at hi'
      split at hi'
      · rename_i hlt
        rcases getElem?_set_cases hi' with ⟨rfl, _, rfl⟩ | ⟨hne, h5⟩
        · have := c2 ⟨ver, .lrec t n ps asg body none true⟩ (List.mem_of_getElem? (i := i) (by rw [List.getElem?_take, if_pos hlt]; exact c1))
          exact this
        · exact c2 e (List.mem_of_getElem? (i := i) (by rw [List.getElem?_take, if_pos hlt]; exact h5))
      · cases hi'
    cases e with
    | normal => exact fin none hq3
    | ret => exact fin (some .ret) hq3
    | exit id' => exact fin (some (.exit id')) hq3
    | goto t' => exact fin (some (.goto t')) hq3
    | panic ch => exact hq3.elim
    | outgrown => exact hq3.elim
  | exit id' => exact hq.elim
  | goto t' => exact hq.elim
  | ret => exact hq.elim
  | panic ch => exact hq.elim
  | outgrown => exact hq.elim

/-- the statement: the two blocks of the loop are laid, the function that is ranged over is called with yield; what a round has left pending is done -/
theorem Wp.range {g : Operand} {ps : List Nat} {asg body : Code} {Q : Exit → S → Prop} {s : S} {f : FuncId} {caps : List AV} (hg : evo s.t g = .clo f caps) (he : Enters P f) {N : Nat} (hN : s.m.length = N) {C : Option Code → Mem → Prop}
    (hiter : Spec P f (.yld (N + 1) 0 :: caps) (s.m ++ [⟨0, .dfr⟩, ⟨0, .lrec s.t s.n ps asg body none false⟩]) fun _ m' => ∃ M j, C j M ∧ M.length = N ∧ m' = M ++ [⟨0, .dfr⟩, ⟨0, .lrec s.t s.n ps asg body j false⟩])
    (hend : ∀ M j, C j M → (match j with
      | none => Q .normal { s with m := M ++ [⟨0, .dfr⟩, ⟨1, .row 0 []⟩], d := (N, 0) :: s.d }
      | some c => Wp P none c Q { s with m := M ++ [⟨0, .dfr⟩, ⟨1, .row 0 []⟩], d := (N, 0) :: s.d })) : Wp P none (.rangeFunc g ps.toArray asg body) Q s := by
  intro X a w ρ hr
  have hgv := evo_rel hr.tmps g
  rw [hg] at hgv
  obtain ⟨cs, hgv, hcs⟩ := hgv
  refine wpIn_rangeFunc (F := fence none) fun fn _ => ?_
  have hlenρ : ρ.length = N := by rw [hr.inv.len, hN]
  -- the block for the deferred calls
  obtain ⟨t1, i1⟩ := hr.inv.alloc (w' := w.alloc (.deferred (some []))) (o := .deferred (some [])) (r := ⟨0, some w.heap.size, 0, 0, 0⟩) (k := .dfr) rfl rfl rfl rfl rfl rfl (fun ρ' _ _ => ⟨w.heap.size, rfl, World.alloc_heap_new w _⟩)
  have hr1 := hr.step t1 i1
  -- the record
  obtain ⟨rec, hrec⟩ : ∃ rec : Loop, rec = { state := .ready, pending := none, fn, tmps := a.tmps, params := ps.toArray, assign := asg, body, defers := w.heap.size } := ⟨_, rfl⟩
  obtain ⟨t2, i2⟩ := i1.alloc (w' := (w.alloc (.deferred (some []))).alloc (.loop rec)) (o := .loop rec) (r := ⟨0, some (w.alloc (.deferred (some []))).heap.size, 0, 0, 0⟩) (k := .lrec s.t s.n ps asg body none false) rfl rfl rfl rfl rfl rfl (fun ρ' ht he' => by
    subst hrec
    exact ⟨_, _, rfl, World.alloc_heap_new _ _, rfl, rfl, rfl, hr.size, rfl, rfl, fun k => R.tr ht (hr1.tmps k)⟩)
  have hr2 := hr1.step t2 i2
  refine ⟨w.heap.size + 1, [{ target := .collected w.heap.size, args := #[] }], (w.alloc (.deferred (some []))).alloc (.loop rec), { target := .fn (.func f) cs.toArray, args := #[.func (.yield (w.heap.size + 1)) #[] #[]] }, (w.alloc (.deferred (some []))).alloc (.loop rec), f, #[.func (.yield (w.heap.size + 1)) #[] #[]] ++ cs.toArray, (w.alloc (.deferred (some []))).alloc (.loop rec), ?_, ?_, fun _ _ => trivial, ?_, fun h => (by cases h), ?_⟩
  · rw [hrec]; exact run_enterLoop_outer _ _ _ _ _
  · simp only [resolve, hgv]
    simp [go_sem]
  · simp only [invoke, Sem.run_bind]
    exact he _ _
  · have hargs : Rvals X ((w.alloc (.deferred (some []))).alloc (.loop rec)) (ρ ++ [⟨0, some w.heap.size, 0, 0, 0⟩] ++ [⟨0, some (w.alloc (.deferred (some []))).heap.size, 0, 0, 0⟩]) (.yld (N + 1) 0 :: caps) (.func (.yield (w.heap.size + 1)) #[] #[] :: cs) := by
      refine ⟨_, _, rfl, ⟨w.heap.size + 1, ⟨0, some (w.alloc (.deferred (some []))).heap.size, 0, 0, 0⟩, rfl, ?_, Nat.le_refl _, fun _ => by simp⟩, Rvals.mono (t1.trans t2).kp caps cs hcs⟩
      have := last_get (ρ ++ [(⟨0, some w.heap.size, 0, 0, 0⟩ : RE)]) (⟨0, some (w.alloc (.deferred (some []))).heap.size, 0, 0, 0⟩ : RE)
      rw [show (ρ ++ [(⟨0, some w.heap.size, 0, 0, 0⟩ : RE)]).length = N + 1 by simp [hlenρ]] at this
      exact this
    have i2' : Inv X ((w.alloc (.deferred (some []))).alloc (.loop rec)) (ρ ++ [⟨0, some w.heap.size, 0, 0, 0⟩] ++ [⟨0, some (w.alloc (.deferred (some []))).heap.size, 0, 0, 0⟩]) (s.m ++ [⟨0, .dfr⟩, ⟨0, .lrec s.t s.n ps asg body none false⟩]) := by
      have em : s.m ++ [(⟨0, .dfr⟩ : Ent)] ++ [(⟨0, .lrec s.t s.n ps asg body none false⟩ : Ent)] = s.m ++ [⟨0, .dfr⟩, ⟨0, .lrec s.t s.n ps asg body none false⟩] := by simp
      rw [← em]; exact i2
    have hc := hiter X _ _ _ i2' hargs
    have e : (.func (.yield (w.heap.size + 1)) #[] #[] :: cs : List Value).toArray = #[.func (.yield (w.heap.size + 1)) #[] #[]] ++ cs.toArray := by apply Array.ext'; simp
    rw [e] at hc
    refine CallsIn.mono (callsIn_fence hc) ?_
    rintro en w3 ⟨v, x, m', ρ3, rfl, ⟨M, j, hC, hM, rfl⟩, k1, k2, k3⟩
    have ht03 := (t1.trans t2).trans k3
    -- where the record lies
    obtain ⟨rL, d1, d2, d3⟩ := k3.vers (N + 1) ⟨0, some (w.alloc (.deferred (some []))).heap.size, 0, 0, 0⟩ (by
      have := last_get (ρ ++ [(⟨0, some w.heap.size, 0, 0, 0⟩ : RE)]) (⟨0, some (w.alloc (.deferred (some []))).heap.size, 0, 0, 0⟩ : RE)
      rw [show (ρ ++ [(⟨0, some w.heap.size, 0, 0, 0⟩ : RE)]).length = N + 1 by simp [hlenρ]] at this
      exact this)
    have hmL : (M ++ [⟨0, .dfr⟩, ⟨0, .lrec s.t s.n ps asg body j false⟩] : Mem)[N + 1]? = some ⟨0, .lrec s.t s.n ps asg body j false⟩ := by
      rw [List.getElem?_append_right (by omega), hM]; simp
    obtain ⟨hverL, bL, rec3, z1, z2, z3, z4, z5, z6, z7, z8, z9⟩ := k2.at_ (N + 1) rL _ d1 hmL
    simp only at hverL
    have hrL : rL = ⟨0, some (w.alloc (.deferred (some []))).heap.size, 0, 0, 0⟩ := d3 (by simp only; omega)
    subst hrL
    simp only [World.size_alloc, Option.some.injEq] at z1
    subst z1
    -- where the block for the deferred calls lies
    obtain ⟨rD, f1, f2, f3⟩ := k3.vers N ⟨0, some w.heap.size, 0, 0, 0⟩ (by
      rw [List.getElem?_append_left (by simp [hlenρ])]
      have := last_get ρ (⟨0, some w.heap.size, 0, 0, 0⟩ : RE)
      rw [hlenρ] at this; exact this)
    have hmD : (M ++ [⟨0, .dfr⟩, ⟨0, .lrec s.t s.n ps asg body j false⟩] : Mem)[N]? = some ⟨0, .dfr⟩ := by
      rw [List.getElem?_append_right (by omega), hM]; simp
    obtain ⟨hverD, _⟩ := k2.at_ N rD _ f1 hmD
    simp only at hverD
    have hrD : rD = ⟨0, some w.heap.size, 0, 0, 0⟩ := f3 (by simp only; omega)
    subst hrD
    have hnb : rec3.state ≠ .busy := by rw [z8]; cases j <;> simp
    obtain ⟨t4, i4⟩ := k2.renew d1 (r' := ⟨1, none, 0, 0, 0⟩) (w' := w3.putObj (w.heap.size + 1) (.loop { rec3 with state := .exhausted })) (k := .row 0 []) rfl rfl rfl (by simp) rfl (fun b2 _ hb2 => World.putObj_heap_other (fun e => hb2 (by rw [e]; simp))) (fun b2 h => by cases h) (fun ρ' _ _ => ⟨rfl, fun _ => rfl, fun b2 h => by cases h⟩)
    have hset : (M ++ [⟨0, .dfr⟩, ⟨0, .lrec s.t s.n ps asg body j false⟩] : Mem).set (N + 1) ⟨0 + 1, .row 0 []⟩ = M ++ [⟨0, .dfr⟩, ⟨1, .row 0 []⟩] := by
      show List.set (α := Ent) _ _ _ = _
      rw [List.set_append_right _ _ (by omega), hM]; simp
    simp only at i4
    rw [hset] at i4
    have htall := ht03.trans t4
    have hrel : Rel X { s with m := M ++ [⟨0, .dfr⟩, ⟨1, .row 0 []⟩], d := (N, 0) :: s.d } { a with defers := [{ target := .collected w.heap.size, args := #[] }] ++ a.defers } (w3.putObj (w.heap.size + 1) (.loop { rec3 with state := .exhausted })) (ρ3.set (N + 1) ⟨1, none, 0, 0, 0⟩) := by
      refine ⟨fun k => R.tr htall (hr.tmps k), hr.size, i4, N, 0, ⟨0, some w.heap.size, 0, 0, 0⟩, w.heap.size, s.d, rfl, ?_, Nat.le_refl _, fun _ => ⟨rfl, rfl⟩, marksOf.kp htall.vers hr.defers⟩
      rw [List.getElem?_set_ne (by omega)]; exact f1
    refine ⟨j, w3.putObj (w.heap.size + 1) (.loop { rec3 with state := .exhausted }), (run_endLoop (P := P) z2 hnb).trans (congrArg (fun o => Result.ok o _) z7), ?_⟩
    have hE := hend M j hC
    cases j with
    | none => exact ⟨_, _, hE, hrel, htall⟩
    | some c =>
      exact Go.wpIn_mono (hE X _ _ _ hrel) fun e a' w' ⟨s', ρ', q, k4, k5⟩ => ⟨s', ρ', q, k4, htall.trans k5⟩
end Go.Vg
