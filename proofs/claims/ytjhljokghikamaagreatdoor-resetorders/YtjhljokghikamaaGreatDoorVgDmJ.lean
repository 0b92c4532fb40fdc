/- A part of the proof of ResetOrders: contracts of functions, with plain laws that they need. -/
import Derived.Test.YtjhljokghikamaaGreatDoorVgQJ
set_option linter.all false
namespace Go.Vg
open Go.RowKit
variable {P : Program} {X : Nat → Prop} {w : World} {ρ : Rho}
def StepAt (P : Program) (gds : List (Option Nat)) (t : List (Nat × AV)) (m : Mem) (o : Oper) (m1 : Mem) (x : AV) : Prop :=
 (∀ c, o.op ≠ .defer c) ∧
 ∀ (X : Nat → Prop) (w : World) (ρ : Rho) (a : Act), Inv X w ρ m → (∀ n, n ∈ gnames gds o.guard ∨ n ∈ onames o.op → R X w ρ (look t n) (a.tmps.getD n undef)) → (∀ n ∈ gnames gds o.guard, n < a.tmps.size) →
  (Region.wanted o (yieldedG gds a.tmps) = true → (∃ w' ρ', (execOp a.eval o).run P w = .ok .skip w' ∧ R X w' ρ' x undef ∧ Inv X w' ρ' m1 ∧ Tr w ρ w' ρ') ∨ Gives P o a w fun v w' => ∃ ρ', R X w' ρ' x v ∧ Inv X w' ρ' m1 ∧ Tr w ρ w' ρ') ∧
  (Region.wanted o (yieldedG gds a.tmps) = false → R X w ρ x undef ∧ m1 = m)
theorem Yield.stepAt {gds : List (Option Nat)} {t : List (Nat × AV)} {m : Mem} {o : Oper} {x : AV} (h : Yield P gds t m o x) : StepAt P gds t m o m x := by
 refine ⟨h.1, fun X w ρ a hi hr hn => ?_⟩
 obtain ⟨h1, h2⟩ := h.2 X w ρ a hi hr hn
 refine ⟨fun hw => .inr ?_, fun hw => ⟨h2 hw, rfl⟩⟩
 rcases h1 hw with ⟨v, w', q1, q2⟩ | ⟨f, args, q1, q2⟩
 ·exact .inl ⟨v, w', q1, ρ, q2⟩
 ·exact .inr ⟨f, args, q1, q2.mono fun e w' ⟨v, e1, q⟩ => ⟨v, e1, ρ, q⟩⟩
theorem EffAt.stepAt {gds : List (Option Nat)} {t : List (Nat × AV)} {m m1 : Mem} {o : Oper} {x : AV} (hg : o.guard = none) (h : EffAt P t m o m1 x) : StepAt P gds t m o m1 x := by
 refine ⟨h.1, fun X w ρ a hi hr hn => ⟨fun _ => ?_, fun hw => (by simp [Region.wanted, hg] at hw)⟩⟩
 obtain ⟨v, w', ρ', h1, h2, h3, h4⟩ := h.2 X w ρ a hi (evo_of fun n hn => hr n (.inr hn))
 rcases h1 with h1 | ⟨h1, rfl⟩
 ·exact .inr (.inl ⟨v, w', h1, ρ', h4, h3, h2⟩)
 ·exact .inl ⟨w', ρ', h1, h4, h3, h2⟩
theorem StepAt.guardT {gds : List (Option Nat)} {t : List (Nat × AV)} {m m1 : Mem} {dst : Option Nat} {op : Op} {type : TypeId} {pos : String} {after : Array Edge} {g : Nat × Bool} {x : AV} (hg : gval gds t g = some true) (h : StepAt P gds t m ⟨dst, op, type, pos, after, none⟩ m1 x) : StepAt P gds t m ⟨dst, op, type, pos, after, some g⟩ m1 x := by
 refine ⟨h.1, fun X w ρ act hi hr hn => ?_⟩
 have hw := gval_wanted (o := ⟨dst, op, type, pos, after, some g⟩) (a := act) (X := X) (w := w) (ρ := ρ) rfl (fun n hn' => ⟨hr n (.inl hn'), hn n hn'⟩) hg
 rw [hw]
 refine ⟨fun _ => ?_, fun e => (by cases e)⟩
 exact (h.2 X w ρ act hi (fun n hn' => hr n (hn'.elim (fun h => by cases h) .inr)) (fun n hn' => by cases hn')).1 (by simp [Region.wanted])
theorem Spec.stepAt {gds : List (Option Nat)} {t : List (Nat × AV)} {m m1 : Mem} {fo : Operand} {args : List Operand} {tys : Array TypeId} {dst : Option Nat} {type : TypeId} {pos : String} {after : Array Edge} {f : FuncId} {caps : List AV} {x : AV}
  (he : Enters P f) (hf : fnOf (evo t fo) = some (f, caps)) (hc : Spec P f (args.map (evo t) ++ caps) m fun y m' => y = x ∧ m' = m1) : StepAt P gds t m ⟨dst, callOp fo args tys, type, pos, after, none⟩ m1 x := by
 refine ⟨fun c e => (by cases e), fun X w ρ a hi hr hn => ⟨fun _ => ?_, fun hw => (by simp [Region.wanted] at hw)⟩⟩
 obtain ⟨h1, h2⟩ := onames_call (fo := fo) (args := args) (tys := tys) (t := t) (a := a) (X := X) (w := w) (ρ := ρ) (fun n hn => hr n (.inr hn))
 obtain ⟨cs, hcs, hcr⟩ := fnOf_rel hf h1
 have hrun := run_call (P := P) (w := w) (o := ⟨dst, callOp fo args tys, type, pos, after, none⟩) rfl hcs he
 refine .inr (.inr ⟨f, _, hrun, ?_⟩)
 refine (hc X w ρ _ hi ((Rvals_map args fun y hy => h2 y hy).append hcr)).mono ?_
 rintro e w' ⟨v, x', m', ρ', rfl, ⟨rfl, rfl⟩, k1, k2, k3⟩
 exact ⟨v, rfl, ρ', k1, k2, k3⟩
def allB : Nat → List (List Bool)
 | 0 => [[]]
 | n + 1 => (allB n).map (false :: ·) ++ (allB n).map (true :: ·)
theorem allB_mem : ∀ (l : List Bool), l ∈ allB l.length
 | [] => by simp [allB]
 | false :: l => by simp [allB, allB_mem l]
 | true :: l => by simp [allB, allB_mem l]
def before (ops : List Oper) (i j : Nat) : Bool := (befL ops j j).contains i
def consB (ops : List Oper) (es : List Nat) (i : Nat) (bits : List Bool) : Bool :=
 (es.zip bits).all fun eb =>
  (if eb.1 = i then !eb.2 else if before ops eb.1 i then eb.2 else if before ops i eb.1 then !eb.2 else true) &&
  (!eb.2 || (es.zip bits).all fun eb' => !before ops eb'.1 eb.1 || eb'.2)
def consL (ops : List Oper) (es : List Nat) (i : Nat) : List (List Bool) := (allB es.length).filter (consB ops es i)
def setB (es : List Nat) (i : Nat) (bits : List Bool) : List Bool := (es.zip bits).map fun eb => decide (eb.1 = i) || eb.2
def bitsOf (es : List Nat) (L : Nat → Bool) : List Bool := es.map L
theorem zip_bits (es : List Nat) (L : Nat → Bool) : es.zip (bitsOf es L) = es.map fun e => (e, L e) := by
 unfold bitsOf
 induction es with
 | nil => rfl
 | cons e es ih => simp only [List.map_cons, List.zip_cons_cons, ih]
theorem setB_bits (es : List Nat) (i : Nat) (L : Nat → Bool) : setB es i (bitsOf es L) = bitsOf es fun j => decide (j = i) || L j := by
 unfold setB
 rw [zip_bits]
 simp only [bitsOf, List.map_map]
 rfl
theorem setB_not {es : List Nat} {k : Nat} (h : es.contains k = false) : ∀ (bits : List Bool), bits.length = es.length → setB es k bits = bits := by
 intro bits hl
 unfold setB
 induction es generalizing bits with
 | nil => cases bits with
  | nil => rfl
  | cons b bs => simp at hl
 | cons e es ih =>
  cases bits with
  | nil => simp at hl
  | cons b bs =>
   simp only [List.contains_cons, Bool.or_eq_false_iff, beq_eq_false_iff_ne] at h
   simp only [List.zip_cons_cons, List.map_cons]
   rw [ih h.2 bs (by simpa using hl)]
   have hne : ¬ e = k := fun he => h.1 he.symm
   simp [hne]
theorem allB_len : ∀ {n : Nat} {l : List Bool}, l ∈ allB n → l.length = n
 | 0, l, h => by simp [allB] at h; subst h; rfl
 | n + 1, l, h => by
  simp only [allB, List.mem_append, List.mem_map] at h
  rcases h with ⟨l', h, rfl⟩ | ⟨l', h, rfl⟩ <;> simp [allB_len h]
inductive AbsM (P : Program) (gds : List (Option Nat)) (ops : List Oper) (es : List Nat) (mem : List Bool → Mem) (n : Nat) : Nat → List Oper → List (Nat × AV) → List (Nat × AV) → Prop where
 | nil {k : Nat} {t : List (Nat × AV)} : AbsM P gds ops es mem n k [] t t
 | cons {k : Nat} {o : Oper} {l : List Oper} {t t' : List (Nat × AV)} {x : AV} : dstOk n o.dst → (∀ bits ∈ consL ops es k, StepAt P gds t (mem bits) o (mem (setB es k bits)) x) → AbsM P gds ops es mem n (k + 1) l (upd t o.dst x) t' → AbsM P gds ops es mem n k (o :: l) t t'
theorem AbsM.data {gds : List (Option Nat)} {ops0 : List Oper} {es : List Nat} {mem : List Bool → Mem} {n : Nat} : ∀ {ops : List Oper} {t t' : List (Nat × AV)} {k : Nat}, AbsM P gds ops0 es mem n k ops t t' → ∃ (xs : List (Oper × AV)), xs.map (·.1) = ops ∧ t' = V xs (fun _ => true) k t ∧
  ∀ (i : Nat) (ox : Oper × AV), xs[i]? = some ox → dstOk n ox.1.dst ∧ ∀ bits ∈ consL ops0 es (k + i), StepAt P gds (V xs (upto k i) k t) (mem bits) ox.1 (mem (setB es (k + i) bits)) ox.2
 | _, t, _, k, .nil => ⟨[], rfl, rfl, fun i ox h => by simp at h⟩
 | o :: l, t, t', k, .cons (x := x) h1 h2 h3 => by
  obtain ⟨xs, e1, e2, e3⟩ := AbsM.data h3
  refine ⟨(o, x) :: xs, by simp [e1], by rw [e2]; simp [V], fun i ox hi => ?_⟩
  cases i with
  | zero =>
   simp at hi; subst hi
   have hV : V ((o, x) :: xs) (upto k 0) k t = t := V_none _ _ _ _ (fun j _ => by simp [upto])
   rw [hV]
   exact ⟨h1, h2⟩
  | succ i =>
   obtain ⟨q1, q2⟩ := e3 i ox (by simpa using hi)
   have hV : V ((o, x) :: xs) (upto k (i + 1)) k t = V xs (upto (k + 1) i) (k + 1) (upd t o.dst x) := by
    simp only [V]
    have h0 : upto k (i + 1) k = true := by simp [upto]
    rw [h0]
    have hf : upto k (i + 1) = upto (k + 1) i := by funext j; simp only [upto]; congr 1; apply propext; omega
    rw [hf]; rfl
   rw [hV, show k + (i + 1) = k + 1 + i by omega]
   exact ⟨q1, q2⟩
theorem drawnM {id : Nat} {ops : List Oper} {gds : List (Option Nat)} (hg : gds = ops.map (·.dst)) {es : List Nat} {mem : List Bool → Mem} (hes : ∀ e ∈ es, e < ops.length) (hm : P.follows .mixedOrders = true) (hord : ordB gds ops ops.length = true) {s : S} {t1 : List (Nat × AV)}
    (hm0 : mem (es.map fun _ => false) = s.m) (hgo : gdsOk gds s.n) (habs : AbsM P gds ops es mem s.n 0 ops s.t t1)
    {r : Option Nat} {a : Act} {w : World} {ρ : Rho} (hr : Rel X s a w ρ) {Q' : Exit → Act → World → Prop}
    (hQ : ∀ a' w' ρ', Rel X ⟨t1, mem (es.map fun _ => true), s.n, s.d⟩ a' w' ρ' → Tr w ρ w' ρ' → Q' .normal a' w') : (Code.region id ops.toArray true).wpIn (fence r) 0 P Q' a w := by
  obtain ⟨xs, hxs, hs1, hy⟩ := habs.data
  simp only [Nat.zero_add] at hy
  have hxl : xs.length = ops.length := by have := congrArg List.length hxs; simpa using this
  have hops : ∀ (i : Nat) (o : Oper), ops[i]? = some o → ∃ x, xs[i]? = some (o, x) := by
    intro i o ho
    have h1 : (xs.map (·.1))[i]? = some o := by rw [hxs]; exact ho
    rw [List.getElem?_map] at h1
    cases hx : xs[i]? with
    | none => simp [hx] at h1
    | some ox => simp [hx] at h1; exact ⟨ox.2, by rw [← h1]⟩
  have hops' : ∀ (i : Nat) (ox : Oper × AV), xs[i]? = some ox → i < ops.length ∧ ops[i]? = some ox.1 := by
    intro i ox hx
    have hi : i < ops.length := by rw [← hxl]; exact (List.getElem?_eq_some_iff.1 hx).1
    refine ⟨hi, ?_⟩
    have h1 : (xs.map (·.1))[i]? = some ox.1 := by simp [hx]
    rw [hxs] at h1
    exact h1
  have head : ∀ (f : Nat) (listed : Array Bool) (a : Act) (w1 : World) (ρ1 : Rho), HeadInv .any ops.toArray ops.length listed → cnt listed ops.length = f →
      Rel X ⟨V xs (fun j => listed.getD j false) 0 s.t, mem (bitsOf es fun j => listed.getD j false), s.n, s.d⟩ a w1 ρ1 → Tr w ρ w1 ρ1 → wpAnyIn (fence r) 0 P .any ops.toArray Q' f listed a w1 := by
    intro f
    induction f with
    | zero =>
      intro listed a w1 ρ1 inv hc hrel htr
      have hall := cnt_zero hc
      have hsz : listed.size = ops.length := by have := inv.size; simpa using this
      have hall' : ∀ i, i < ops.length → listed.getD i false = true := fun i hi => getD_true_of (by omega) (hall i hi)
      have hnone : Region.ready .any ops.toArray listed = [] := by
        cases hrd : Region.ready .any ops.toArray listed with
        | nil => rfl
        | cons i l =>
          have hi : i ∈ Region.ready .any ops.toArray listed := by rw [hrd]; simp
          obtain ⟨hun, oi, hoi, _⟩ := mem_ready.1 hi
          have hlt := (Array.getElem?_eq_some_iff.1 hoi).1
          have := hall i (by simpa using hlt)
          rw [hun] at this; cases this
      refine ⟨hnone, hQ a w1 ρ1 ?_ htr⟩
      rw [hs1]
      have hbits : bitsOf es (fun j => listed.getD j false) = es.map fun _ => true := List.map_congr_left fun e he => hall' e (hes e he)
      rw [V_all xs _ 0 s.t (fun j hj => by rw [Nat.zero_add]; exact hall' j (by omega)), hbits] at hrel
      rw [V_all xs _ 0 s.t (fun j hj => rfl)]
      exact hrel
    | succ f ih =>
      intro listed a w1 ρ1 inv hc hrel htr
      have hsz : listed.size = ops.length := by have := inv.size; simpa using this
      obtain ⟨i0, hi0, hun0, hlow⟩ := cnt_pos (listed := listed) (n := ops.length) (by omega)
      have hready0 : i0 ∈ Region.ready .any ops.toArray listed := by
        rw [mem_ready]
        refine ⟨hun0, ops[i0], by simp [hi0], fun d hd hb => ?_⟩
        have := ordB_back hord hi0 (List.getElem?_eq_getElem hi0) d hd hb
        exact getD_true_of (by omega) (hlow d.on this)
      refine ⟨fun h0 => (by rw [h0] at hready0; cases hready0), fun i hi => ?_⟩
      obtain ⟨hun, oi, hoi, hall⟩ := mem_ready.1 hi
      have hoi' : ops[i]? = some oi := by simpa using hoi
      have hin : i < ops.length := (List.getElem?_eq_some_iff.1 hoi').1
      obtain ⟨x, hx⟩ := hops i oi hoi'
      obtain ⟨hdst, hstep⟩ := hy i (oi, x) hx
      simp only at hdst hstep
      have agree : ∀ (k : Nat), (k ∈ names gds oi ∨ oi.dst = some k) → ∀ (j : Nat) (ox : Oper × AV), xs[j]? = some ox → ox.1.dst = some k → j ≠ i → listed.getD j false = decide (j < i) := by
        intro k hk j ox hj hd hji
        obtain ⟨hjn, hoj⟩ := hops' j ox hj
        rcases Nat.lt_or_ge j i with hlt | hge
        · have ht : touches gds ox.1 oi = true := by
            simp only [touches, hd, Bool.or_eq_true, beq_iff_eq]
            left
            rcases hk with hk | hk
            · left; simpa using hk
            · right; exact hk
          obtain ⟨d, hd', hb, hon⟩ := ordB_dep hord hin hlt hoj hoi' ht
          have := hall d hd' hb
          rw [hon] at this
          simp [this, hlt]
        · have hlt : i < j := by omega
          have ht : touches gds oi ox.1 = true := by
            simp only [touches, hd, Bool.or_eq_true]
            rcases hk with hk | hk
            · right; simpa using hk
            · left; rw [hk]; simp
          obtain ⟨d, hd', hb, hon⟩ := ordB_dep hord hjn hlt hoi' hoj ht
          cases hlj : listed.getD j false with
          | false => simp; omega
          | true =>
            have := inv.closed j ox.1 (by simpa using hoj) hlj d hd' hb
            rw [hon, getD_both hun] at this
            cases this
      have hnames : ∀ k, k ∈ gnames gds oi.guard ∨ k ∈ onames oi.op → R X w1 ρ1 (look (V xs (upto 0 i) 0 s.t) k) (a.tmps.getD k undef) := by
        intro k hk
        have hk' : k ∈ names gds oi := by simp only [names, List.mem_append]; exact hk
        have e1 : look (V xs (upto 0 i) 0 s.t) k = look (V xs (fun j => listed.getD j false) 0 s.t) k := by
          refine V_congr xs 0 _ _ rfl fun j ox hj hd => ?_
          simp only [Nat.zero_add, upto]
          by_cases hji : j = i
          · subst hji
            rw [getD_both hun]; simp
          · exact (agree k (.inl hk') j ox hj hd hji).symm
        rw [e1]; exact hrel.tmps k
      have hcl : ∀ (j : Nat) (oj : Oper), ops[j]? = some oj → listed.getD j false = true → ∀ d ∈ oj.after, Region.binds .any d = true → listed.getD d.on false = true := fun j oj hj => inv.closed j oj (by simpa using hj)
      have hlist : listed.getD i false = false := getD_both hun
      have hbef : ∀ e, e ≠ i → before ops e i = true → listed.getD e false = true := by
        intro e hne hb
        have hset : ∀ (j : Nat) (oj : Oper), ops[j]? = some oj → (listed.setIfInBounds i true).getD j false = true → ∀ d ∈ oj.after, Region.binds .any d = true → (listed.setIfInBounds i true).getD d.on false = true := by
          intro j oj hj hl d hd hbd
          by_cases hji : j = i
          · subst hji
            rw [hoi'] at hj; cases hj
            have h5 := hall d hd hbd
            have hne' : d.on ≠ j := fun he => by rw [he, hlist] at h5; cases h5
            rw [getD_set_ne false (Ne.symm hne')]; exact h5
          · rw [getD_set_ne false (Ne.symm hji)] at hl
            have h5 := hcl j oj hj hl d hd hbd
            have hne' : d.on ≠ i := fun he => by rw [he, hlist] at h5; cases h5
            rw [getD_set_ne false (Ne.symm hne')]; exact h5
        have h6 := befL_listed hset (e := i) (by have : i < listed.size := by omega
                                                 simp [this]) i e (by unfold before at hb; simpa using hb)
        rw [getD_set_ne false (Ne.symm hne)] at h6
        exact h6
      have hcons : bitsOf es (fun j => listed.getD j false) ∈ consL ops es i := by
        unfold consL
        rw [List.mem_filter]
        refine ⟨?_, ?_⟩
        · have := allB_mem (bitsOf es fun j => listed.getD j false)
          rwa [show (bitsOf es fun j => listed.getD j false).length = es.length by simp [bitsOf]] at this
        · unfold consB
          rw [zip_bits]
          simp only [List.all_eq_true, List.mem_map, forall_exists_index, and_imp, forall_apply_eq_imp_iff₂, Bool.and_eq_true, Bool.or_eq_true, Bool.not_eq_true']
          intro e he
          refine ⟨?_, ?_⟩
          · split
            · rename_i h; subst h; rw [hlist]; rfl
            · rename_i hne
              split
              · rename_i h; exact hbef e hne h
              · split
                · rename_i h
                  cases hle : listed.getD e false with
                  | false => rfl
                  | true =>
                    have := befL_listed hcl hle e i (by unfold before at h; simpa using h)
                    rw [hlist] at this; cases this
                · rfl
          · cases hle : listed.getD e false with
            | false => left; rfl
            | true =>
              right
              intro e' he'
              cases hb : before ops e' e with
              | false => left; rfl
              | true => right; exact befL_listed hcl hle e e' (by unfold before at hb; simpa using hb)
      have hst := hstep _ hcons
      rw [setB_bits] at hst
      have hbits : (bitsOf es fun j => decide (j = i) || listed.getD j false) = bitsOf es fun j => (listed.setIfInBounds i true).getD j false := by
        refine List.map_congr_left fun e he => ?_
        by_cases hei : e = i
        · subst hei
          have : e < listed.size := by omega
          simp [this]
        · rw [getD_set_ne false (Ne.symm hei)]; simp [hei]
      rw [hbits] at hst
      have next : ∀ (v : Value) (w2 : World) (ρ2 : Rho), R X w2 ρ2 x v → Inv X w2 ρ2 (mem (bitsOf es fun j => (listed.setIfInBounds i true).getD j false)) → Tr w1 ρ1 w2 ρ2 → wpAnyIn (fence r) 0 P .any ops.toArray Q' f (listed.setIfInBounds i true) (a.put oi.dst v) w2 := by
        intro v w2 ρ2 hxv hinv htr2
        refine ih _ _ _ ρ2 (inv.set hi hin) (by have := cnt_set hun ops.length hin; omega) ?_ (htr.trans htr2)
        have hrel2 := hrel.step htr2 hinv
        have hrel3 := hrel2.put (d := oi.dst) (x := x) (v := v) hdst hxv
        rw [S.put_eq] at hrel3
        refine ⟨fun k => ?_, hrel3.size, hrel3.inv, hrel3.defers⟩
        · have h3 := hrel3.tmps k
          have e1 : look (V xs (fun j => (listed.setIfInBounds i true).getD j false) 0 s.t) k = look (upd (V xs (fun j => listed.getD j false) 0 s.t) oi.dst x) k := by
            have hset : ∀ j, j ≠ i → (listed.setIfInBounds i true).getD j false = listed.getD j false := fun j hj => getD_set_ne false (Ne.symm hj)
            have hseti : (listed.setIfInBounds i true).getD i false = true := by
              have : i < listed.size := by omega
              simp [this]
            by_cases hd : oi.dst = some k
            · rw [hd, look_upd_eq]
              have e2 : look (V xs (fun j => (listed.setIfInBounds i true).getD j false) 0 s.t) k = look (V xs (upto 0 (i + 1)) 0 s.t) k := by
                refine V_congr xs 0 _ _ rfl fun j ox hj hdj => ?_
                simp only [Nat.zero_add, upto]
                by_cases hji : j = i
                · subst hji; rw [hseti]; simp
                · rw [hset j hji, agree k (.inr hd) j ox hj hdj hji]
                  congr 1; apply propext; omega
              rw [e2]
              exact V_last xs 0 i s.t k oi x hx hd
            · rw [look_upd_ne hd]
              refine V_congr xs 0 _ _ rfl fun j ox hj hdj => ?_
              simp only [Nat.zero_add]
              refine hset j fun hji => ?_
              subst hji
              rw [hx] at hj
              cases hj
              exact hd hdj
          rw [e1]; exact h3
      unfold wpOpIn
      simp only [hoi]
      have hyg : yieldedG gds a.tmps = yielded ops.toArray a.tmps := by rw [← yieldedG_eq]; simp [hg]
      rw [← hyg]
      obtain ⟨k1, k2⟩ := hst.2 X w1 ρ1 a hrel.inv hnames (fun k hk => by have := hrel.size; simp only at this; rw [this]; exact gnames_lt hgo oi.guard k hk)
      split
      · rename_i hwd
        refine ⟨fun _ _ => trivial, ?_⟩
        rw [Oper.semAt_eq _ _ _ hst.1]
        rcases k1 hwd with ⟨w', ρ', q1, q2, q3, q4⟩ | ⟨v, w', q1, ρ', q2, q3, q4⟩ | ⟨f', args, q1, q2⟩
        · rw [q1]; exact next undef w' ρ' q2 q3 q4
        · rw [q1]; exact next v w' ρ' q2 q3 q4
        · rw [q1]
          refine ⟨fun h => (by cases h), callsIn_fence (q2.mono ?_)⟩
          rintro e w' ⟨v, rfl, ρ', q2, q3, q4⟩
          exact next v w' ρ' q2 q3 q4
      · rename_i hwd
        obtain ⟨q1, q2⟩ := k2 (by simpa using hwd)
        exact ⟨fun _ _ => trivial, next undef w1 ρ1 q1 (by rw [q2]; exact hrel.inv) (Tr.refl w1 ρ1)⟩
  refine wpIn_region_any hm ?_
  have hdrew : Tr w ρ { w with drawn := w.drawn + 1 } ρ := ⟨rfl, rfl, rfl, Nat.le_refl _, fun _ r h => ⟨r, h, Nat.le_refl _, fun _ => rfl⟩, fun _ h _ => ⟨h, rfl⟩⟩
  have hb0 : bitsOf es (fun j => (Array.replicate ops.length false).getD j false) = es.map fun _ => false := List.map_congr_left fun e he => getD_replicate_false _ _
  have hrel0 : Rel X ⟨V xs (fun j => (Array.replicate ops.length false).getD j false) 0 s.t, mem (bitsOf es fun j => (Array.replicate ops.length false).getD j false), s.n, s.d⟩ a { w with drawn := w.drawn + 1 } ρ := by
    rw [V_none xs _ 0 s.t (fun j _ => by rw [Nat.zero_add]; exact getD_replicate_false _ _), hb0, hm0]
    have hi : Inv X { w with drawn := w.drawn + 1 } ρ s.m := hr.inv.same rfl
    exact hr.step hdrew hi
  have inv0 : HeadInv .any ops.toArray ops.length (Array.replicate ops.length false) :=
    ⟨by simp, fun j oj _ hl => (by rw [getD_replicate_false] at hl; cases hl), fun t _ ht => getD_in (by simpa using ht) (getD_replicate_false _ _)⟩
  have hcnt : ∀ k, k ≤ ops.length → cnt (Array.replicate ops.length false) k = k := by
    intro k
    induction k with
    | zero => intro _; rfl
    | succ k ih =>
      intro hk
      simp only [cnt]
      rw [ih (by omega)]
      have : (Array.replicate ops.length false).getD k true = false := getD_in (by simp; omega) (getD_replicate_false _ _)
      simp [this]
  have := head ops.length _ a _ ρ inv0 (hcnt _ (Nat.le_refl _)) hrel0 hdrew
  simpa using this
theorem Wp.runM {r : Option Nat} {Q : Exit → S → Prop} {s : S} {id : Nat} {ops : List Oper} {gds : List (Option Nat)} (es : List Nat) (mem : List Bool → Mem) {t1 : List (Nat × AV)} (hm : P.follows .mixedOrders = true) (hg : ops.map (·.dst) = gds) (hB : gds.all (dstB s.n) = true)
  (hord : ordB gds ops ops.length = true) (hes : es.all (fun e => decide (e < ops.length)) = true) (hm0 : mem (es.map fun _ => false) = s.m) (habs : AbsM P gds ops es mem s.n 0 ops s.t t1) (h : Q .normal ⟨t1, mem (es.map fun _ => true), s.n, s.d⟩) : Wp P r (.region id ops.toArray true) Q s := by
 have hgd : ∀ d ∈ gds, dstOk s.n d := fun d hd => dstB_ok (List.all_eq_true.1 hB d hd)
 intro X a w ρ hr
 refine drawnM (P := P) hg.symm (fun e he => by simpa using List.all_eq_true.1 hes e he) hm hord hm0 hgd habs hr ?_
 intro a' w' ρ' h1 h2
 exact ⟨_, ρ', h, h1, h2⟩
theorem newBlockAt {m : Mem} (hi : Inv X w ρ m) {id v : Nat} {k0 : Kind} (hid : m[id]? = some ⟨v, k0⟩) {sz : Nat} {l : List AV} {arr : Array Value} {vs : List Value} {e : TypeId} {w' : World} (hh : w'.heap = w.heap.push (.cells arr e)) (hos : w'.os = w.os) (htp : w'.tape = w.tape) (hou : w'.output = w.output)
  (hlen : vs.length = l.length * sz) (hvs : ∀ (j : Nat) (v : Value), vs[j]? = some v → arr[j]? = some v) (hR : ∀ {w' : World} {ρ' : Rho} {b' o' : Nat}, Kp X w ρ w' ρ' → (∀ j v, vs[j]? = some v → w'.cell? ⟨b', o' + j, none⟩ = some v) → Rrow X w' ρ' l sz b' o') :
  ∃ (r : RE) (ρ' : Rho), ρ'[id]? = some r ∧ r.ver = v + 1 ∧ r.blk = some w.heap.size ∧ r.base = 0 ∧ r.size = arr.size ∧ r.sz = sz ∧ Tr w ρ w' ρ' ∧ Inv X w' ρ' (m.set id ⟨v + 1, .row sz l⟩) := by
 have hnew : w'.heap[w.heap.size]? = some (.cells arr e) := by rw [hh]; simp
 have hcell : ∀ o, w'.cell? ⟨w.heap.size, o, none⟩ = arr[o]? := fun o => by simp [World.cell?, hnew]
 have hle : vs.length ≤ arr.size := by
  rcases Nat.eq_zero_or_pos vs.length with h | h
  ·omega
  ·have h1 := hvs (vs.length - 1) _ (List.getElem?_eq_getElem (by omega))
   have := (Array.getElem?_eq_some_iff.1 h1).1
   omega
 have hidl : id < ρ.length := by rw [hi.len]; exact (List.getElem?_eq_some_iff.1 hid).1
 have h0 : ρ[id]? = some ρ[id] := List.getElem?_eq_getElem hidl
 obtain ⟨hv, _⟩ := hi.at_ id _ _ h0 hid
 simp only at hv
 obtain ⟨h1, h2⟩ := hi.renew h0 (r' := ⟨ρ[id].ver + 1, some w.heap.size, 0, arr.size, sz⟩) (w' := w') (k := .row sz l) hos htp hou (by rw [hh]; simp) rfl
  (fun b hb _ => by rw [hh]; simp [Array.getElem?_push_lt hb, hb]) (fun b hb => by cases hb; exact ⟨.inr (Nat.le_refl _), by rw [hh]; simp⟩) (fun ρ' he ht => by
   refine ⟨rfl, fun h => (by cases h), fun b hb => ?_⟩
   cases hb
   refine ⟨⟨arr, e, (0, 0), hnew, rfl, by simp, by simp⟩, by simp only [Nat.zero_add]; omega, hR ht.kp fun j v hj => ?_⟩
   simp only [Nat.zero_add]
   rw [hcell]; exact hvs j v hj)
 rw [hv] at h1 h2
 exact ⟨⟨v + 1, some w.heap.size, 0, arr.size, sz⟩, _, by rw [List.getElem?_set_self hidl], rfl, rfl, rfl, rfl, rfl, h1, h2⟩
theorem newMapAt {m : Mem} (hi : Inv X w ρ m) {id v : Nat} {k0 : Kind} (hid : m[id]? = some ⟨v, k0⟩) :
  ∃ (r : RE) (ρ' : Rho), ρ'[id]? = some r ∧ r.ver = v + 1 ∧ r.blk = some w.heap.size ∧ Tr w ρ (w.alloc (.map #[] 0)) ρ' ∧ Inv X (w.alloc (.map #[] 0)) ρ' (m.set id ⟨v + 1, .mp []⟩) := by
 have hh : (w.alloc (.map #[] 0)).heap = w.heap.push (.map #[] 0) := rfl
 have hidl : id < ρ.length := by rw [hi.len]; exact (List.getElem?_eq_some_iff.1 hid).1
 have h0 : ρ[id]? = some ρ[id] := List.getElem?_eq_getElem hidl
 obtain ⟨hv, _⟩ := hi.at_ id _ _ h0 hid
 simp only at hv
 obtain ⟨h1, h2⟩ := hi.renew h0 (r' := ⟨ρ[id].ver + 1, some w.heap.size, 0, 0, 0⟩) (w' := w.alloc (.map #[] 0)) (k := .mp []) rfl rfl rfl (by rw [hh]; simp) rfl
  (fun b hb _ => by rw [hh]; simp [Array.getElem?_push_lt hb, hb]) (fun b hb => by cases hb; exact ⟨.inr (Nat.le_refl _), by rw [hh]; simp⟩) (fun ρ' he ht => by
   exact ⟨by simp, w.heap.size, #[], 0, rfl, (MapKept.heap_alloc w _).1, rfl⟩)
 rw [hv] at h1 h2
 exact ⟨⟨v + 1, some w.heap.size, 0, 0, 0⟩, _, by rw [List.getElem?_set_self hidl], rfl, rfl, h1, h2⟩
def alcA (P : Program) (E : Operand → AV) (op : Op) : Option (Nat × List AV × Option Nat × Prop) :=
 match op with
 | .box _ v => some ((E v).cells.length, [E v], none, (E v).flat ∧ 0 < (E v).cells.length)
 | .alloc ty =>
  match zAV P ty with
  | some x => some (x.cells.length, [x], none, x.flat ∧ 0 < x.cells.length)
  | none => none
 | .makeSlice ty l c =>
  match makeA P [] ty (E l) (E c) with
  | some ([⟨_, .row sz row⟩], .osl _ _ _ n, p) => some (sz, row, some n, p)
  | _ => none
 | .buildSlice ty len parts =>
  match bldA P E (.buildSlice ty len parts) with
  | some (sz, xs, p) => some (sz, xs, some xs.length, p)
  | none => none
 | _ => none
def alcV (id ver : Nat) : Option Nat → AV
 | none => .optr id ver 0 0
 | some n => .osl id ver 0 n
theorem box_at {m : Mem} (hi : Inv X w ρ m) {id ver : Nat} {k0 : Kind} (hid : m[id]? = some ⟨ver, k0⟩) {x : AV} {v : Value} {ty : TypeId} (hx : R X w ρ x v) (hp : x.flat) :
  ∃ u w' ρ', (Instr.box ty v).run P w = .ok u w' ∧ Tr w ρ w' ρ' ∧ Inv X w' ρ' (m.set id ⟨ver + 1, .row x.cells.length [x]⟩) ∧ R X w' ρ' (.optr id (ver + 1) 0 0) u := by
 obtain ⟨vs, e1, e2, e3, e4⟩ := flat_cells hp hx
 obtain ⟨r, ρ', q0, q1, q2, q3, q4, q5, q6, q7⟩ := newBlockAt hi hid (w' := { w with heap := w.heap.push (.cells v.cells ty) }) (sz := x.cells.length) (l := [x]) (arr := v.cells) (vs := vs) (e := ty) rfl rfl rfl rfl (by simp [e4]) (fun j u hj => by rw [e1]; simpa using hj)
  (fun {w' ρ' b' o'} hk hc => ⟨Re_of_cells hp rfl (Rcells_of fun j y hj => by
   obtain ⟨u, hu, hR⟩ := e2.nth hj
   exact ⟨u, hc j u hu, e3 u (List.mem_of_getElem? hu), R.mono hk hR⟩), trivial⟩)
 refine ⟨.pointer (some ⟨w.heap.size, 0, none⟩), _, _, by simp [Instr.box, newVar, newRow], q6, q7, ?_⟩
 exact ⟨_, r, rfl, q0, by omega, fun _ => ⟨w.heap.size, q2, by rw [q3]; simp⟩⟩
theorem make_at {m : Mem} (hi : Inv X w ρ m) {id ver : Nat} {k0 : Kind} (hid : m[id]? = some ⟨ver, k0⟩) {ty : TypeId} {l c : AV} {vl vc : Value} {p : Prop} (hl : R X w ρ l vl) (hc : R X w ρ c vc) {e0 sz n0 : Nat} {row : List AV} {a0 b0 c0 : Nat} (h : makeA P [] ty l c = some ([⟨e0, .row sz row⟩], .osl a0 b0 c0 n0, p)) (hp : p) :
  ∃ u w' ρ', (Instr.makeSlice ty vl vc).run P w = .ok u w' ∧ Tr w ρ w' ρ' ∧ Inv X w' ρ' (m.set id ⟨ver + 1, .row sz row⟩) ∧ R X w' ρ' (.osl id (ver + 1) 0 n0) u := by
 unfold makeA at h
 split at h <;> (try (cases h; done))
 rename_i e hu
 split at h <;> (try (cases h; done))
 rename_i z sz' by_ n n' hz hsz hby
 split at h <;> (try (cases h; done))
 rename_i hel
 simp only [Option.some.injEq, Prod.mk.injEq, List.nil_append, List.cons.injEq, Ent.mk.injEq, Kind.row.injEq, and_true, AV.osl.injEq] at h
 obtain ⟨⟨_, rfl, rfl⟩, ⟨_, _, _, rfl⟩, rfl⟩ := h
 obtain ⟨h0, rfl, hb48, hmax, hzf, hzl⟩ := hp
 rw [R_val] at hl hc; subst hl hc
 obtain ⟨i, z0, hinfo, hz0, hzs, hpos⟩ := elB_some hel
 obtain ⟨i', hi', hsz'⟩ := tsz_some hsz
 rw [hinfo] at hi'; cases hi'
 have hby' : i.bytes = by_ := by unfold tby at hby; simpa [hinfo] using hby
 obtain ⟨zv, hzv, hzR⟩ := zAV_some (P := P) (X := X) (w := w) (ρ := ρ) hz
 have hzv0 : zv = z0 := by simp [zeroValue, typeInfo, hinfo, hz0] at hzv; exact hzv.symm
 subst hzv0
 obtain ⟨zs, f1, f2, f3, f4⟩ := flat_cells hzf hzR
 have hrun := run_make (P := P) w ty e i zv (uk_slice hu) hinfo hz0 .i64 .i64 n' n' h0 (Int.le_refl _) (by rw [hby']; omega) (by omega)
 have hzsz : zv.cells.size = sz' := by rw [hzs, hsz']
 have hzlen : zs.length = sz' := by omega
 have hget : ∀ (k j : Nat), j < sz' → k % sz' = j → k < n'.toNat * i.size → ∀ u, zs[j]? = some u → (madeCells zv.cells (n'.toNat * i.size)).toList[k]? = some u := by
  intro k j hj hk hlt u hu'
  have : (madeCells zv.cells (n'.toNat * i.size)).toList[k]? = some (zv.cells[k % zv.cells.size]!) := by
   simp [madeCells, hlt]
  rw [this, hzsz, hk, f1]
  have hj' : j < zs.length := by omega
  rw [List.getElem?_eq_getElem hj'] at hu'
  simp only [Option.some.injEq] at hu' ⊢
  rw [← hu']
  simp [hj']
 obtain ⟨r, ρ2, q0, q1, q2, q3, q4, q5, q6, q7⟩ := newBlockAt hi hid (w' := w.alloc (.cells (madeCells zv.cells (n'.toNat * i.size)) e)) (sz := sz') (l := List.replicate n'.toNat z) (arr := madeCells zv.cells (n'.toNat * i.size)) (vs := (madeCells zv.cells (n'.toNat * i.size)).toList) (e := e)
  rfl rfl rfl rfl (by rw [Array.length_toList, size_madeCells, hsz']; simp) (fun j u hj => by simpa using hj)
  (fun {w' ρ' b' o'} hk hc => Rrow_of_cells fun i1 y hy => by
   have hy0 := List.getElem?_replicate (a := z) (n := n'.toNat) (i := i1)
   rw [hy] at hy0
   split at hy0
   ·rename_i hlt
    cases hy0
    refine Re_of_cells hzf hzl (Rcells_of fun j y' hj => ?_)
    obtain ⟨u, hu', hR⟩ := f2.nth hj
    have hjlt : j < sz' := by have := (List.getElem?_eq_some_iff.1 hu').1; omega
    have hle : (i1 + 1) * sz' ≤ n'.toNat * sz' := Nat.mul_le_mul_right _ hlt
    rw [Nat.add_mul, Nat.one_mul] at hle
    have := hc (i1 * sz' + j) u (hget _ j hjlt (by rw [Nat.mul_comm, Nat.mul_add_mod]; exact Nat.mod_eq_of_lt hjlt) (by rw [hsz']; omega) u hu')
    rw [← Nat.add_assoc] at this
    exact ⟨u, this, f3 u (List.mem_of_getElem? hu'), R.mono hk hR⟩
   ·cases hy0)
 refine ⟨_, _, _, hrun, q6, q7, _, _, r, rfl, q0, by omega, fun _ => ⟨Nat.le_refl _, by simp only [maxLen]; omega, fun hp => ⟨w.heap.size, q2, by rw [q3]; simp, ?_⟩⟩⟩
 rw [q3, q4, q5, size_madeCells, hsz']; simp
theorem alcA_step {gds : List (Option Nat)} {t : List (Nat × AV)} {m : Mem} {dst : Option Nat} {op : Op} {type : TypeId} {pos : String} {after : Array Edge} {sz : Nat} {l : List AV} {q : Option Nat} {p : Prop} (h : alcA P (evo t) op = some (sz, l, q, p)) (hp : p) {id ver : Nat} {k0 : Kind} (hid : m[id]? = some ⟨ver, k0⟩) :
  StepAt P gds t m ⟨dst, op, type, pos, after, none⟩ (m.set id ⟨ver + 1, .row sz l⟩) (alcV id (ver + 1) q) := by
 have key : ∀ {X : Nat → Prop} {w : World} {ρ : Rho} (a : Act), Inv X w ρ m → (∀ n, n ∈ onames op → R X w ρ (look t n) (a.tmps.getD n undef)) → ∃ v w' ρ', (execOp a.eval ⟨dst, op, type, pos, after, none⟩).run P w = .ok (.value v) w' ∧ R X w' ρ' (alcV id (ver + 1) q) v ∧ Inv X w' ρ' (m.set id ⟨ver + 1, .row sz l⟩) ∧ Tr w ρ w' ρ' := by
  intro X w ρ a hi hr
  have ho := evo_of (op := op) hr
  unfold alcA at h
  split at h
  ·rename_i e v
   simp only [Option.some.injEq, Prod.mk.injEq] at h
   obtain ⟨rfl, rfl, rfl, rfl⟩ := h
   obtain ⟨u, w', ρ', q1, q2, q3, q4⟩ := box_at (P := P) (ty := e) hi hid (ho v (by simp [Op.operands])) hp.1
   exact ⟨u, w', ρ', by unfold execOp; simp only [Sem.run_bind, q1, Result.andThen_ok, Sem.run_pure], q4, q3, q2⟩
  ·rename_i ty
   split at h
   ·rename_i x hz
    simp only [Option.some.injEq, Prod.mk.injEq] at h
    obtain ⟨rfl, rfl, rfl, rfl⟩ := h
    obtain ⟨v, hv, hR⟩ := zAV_some (P := P) (X := X) (w := w) (ρ := ρ) hz
    obtain ⟨u, w', ρ', q1, q2, q3, q4⟩ := box_at (P := P) (ty := ty) hi hid hR hp.1
    have : (Instr.alloc ty true (.tuple #[])).run P w = .ok u w' := by
     unfold Instr.alloc
     simp only [Sem.run_bind, hv, Result.andThen_ok]
     exact q1
    exact ⟨u, w', ρ', by unfold execOp; simp [this], q4, q3, q2⟩
   ·cases h
  ·rename_i ty lo co
   split at h
   ·rename_i hmk
    simp only [Option.some.injEq, Prod.mk.injEq] at h
    obtain ⟨rfl, rfl, rfl, rfl⟩ := h
    obtain ⟨u, w', ρ', q1, q2, q3, q4⟩ := make_at (P := P) hi hid (ho lo (by simp [Op.operands])) (ho co (by simp [Op.operands])) hmk hp
    exact ⟨u, w', ρ', by unfold execOp; simp only [Sem.run_bind, q1, Result.andThen_ok, Sem.run_pure], q4, q3, q2⟩
   ·cases h
  ·rename_i ty len parts
   split at h
   ·rename_i hb
    simp only [Option.some.injEq, Prod.mk.injEq] at h
    obtain ⟨rfl, rfl, rfl, rfl⟩ := h
    obtain ⟨e, arr, vs, h1, h2, h3, h3', h4, h5, h6⟩ := bldA_run (P := P) (o := ⟨dst, .buildSlice ty len parts, type, pos, after, none⟩) (X := X) (w := w) (ρ := ρ) (a := a) ho hb hp
    obtain ⟨r, ρ', q0, q1, q2, q3, q4, q5, q6, q7⟩ := newBlockAt hi hid (w' := { w with heap := w.heap.push (.cells arr e) }) (vs := vs) (e := e) rfl rfl rfl rfl h4 h5 h6
    exact ⟨_, _, ρ', h1, ⟨_, _, r, rfl, q0, by omega, fun _ => ⟨Nat.le_refl _, h3', fun _ => ⟨w.heap.size, q2, by rw [q3]; simp, by rw [q3, q4, q5, h3]; simp⟩⟩⟩, q7, q6⟩
   ·cases h
  ·cases h
 refine ⟨fun c e => (by simp only at e; subst e; simp [alcA] at h), fun X w ρ a hi hr hn => ⟨fun _ => .inr ?_, fun hw => (by simp [Region.wanted] at hw)⟩⟩
 obtain ⟨v, w', ρ', q1, q2, q3, q4⟩ := key a hi fun n hn => hr n (.inr hn)
 exact .inl ⟨v, w', q1, ρ', q2, q3, q4⟩
theorem mapA_step {gds : List (Option Nat)} {t : List (Nat × AV)} {m : Mem} {dst : Option Nat} {ty type : TypeId} {pos : String} {after : Array Edge} {id ver : Nat} {k0 : Kind} (hid : m[id]? = some ⟨ver, k0⟩) :
  StepAt P gds t m ⟨dst, .makeMap ty none, type, pos, after, none⟩ (m.set id ⟨ver + 1, .mp []⟩) (.omap id (ver + 1)) := by
 refine ⟨fun c e => (by cases e), fun X w ρ a hi hr hn => ⟨fun _ => .inr ?_, fun hw => (by simp [Region.wanted] at hw)⟩⟩
 obtain ⟨r, ρ', q0, q1, q2, q3, q4⟩ := newMapAt hi hid
 refine .inl ⟨.map (some w.heap.size), w.alloc (.map #[] 0), by unfold execOp; simp [Instr.makeMap, Result.andThen], ρ', ?_, q4, q3⟩
 exact ⟨_, r, rfl, q0, by omega, fun _ => ⟨w.heap.size, q2, rfl⟩⟩
def isAlc : Op → Bool
 | .box .. | .alloc _ | .makeSlice .. | .buildSlice .. => true
 | _ => false
def isBox : Op → Bool
 | .box .. | .alloc _ | .makeSlice .. | .makeMap .. => true
 | _ => false
section
variable {gds : List (Option Nat)} {l : List Oper} {Q : S → Prop} {s : S} {o : Oper}
theorem StepAt.run {m1 : Mem} {x : AV} (h : StepAt P gds s.t s.m o m1 x) (k : Run P gds l Q ({ s with m := m1 }.put o.dst x)) : Run P gds (o :: l) Q s := by
 intro hg hd
 refine Run.eff (fun X r a w ρ hr => ?_) hg hd
 obtain ⟨h1, h2⟩ := h.2 X w ρ a hr.inv (fun n _ => hr.tmps n) (fun n hn => by rw [hr.size]; exact gnames_lt hg o.guard n hn)
 have hdo := hd o (by simp)
 have fin : ∀ (v : Value) (w' : World) (ρ' : Rho), R X w' ρ' x v → Inv X w' ρ' m1 → Tr w ρ w' ρ' → ∃ s' ρ', (s'.n = s.n ∧ Run P gds l Q s') ∧ Rel X s' (a.put o.dst v) w' ρ' ∧ Tr w ρ w' ρ' :=
  fun v w' ρ' q1 q2 q3 => ⟨{ s with m := m1 }.put o.dst x, ρ', ⟨by rw [S.put_n], k⟩, (hr.step q3 q2).put hdo q1, q3⟩
 unfold opwp
 split
 ·rename_i hw
  refine ⟨fun _ _ => trivial, ?_⟩
  rw [Oper.semAt_eq _ _ _ h.1]
  rcases h1 hw with ⟨w', ρ', q1, q2, q3, q4⟩ | ⟨v, w', q1, ρ', q2, q3, q4⟩ | ⟨f', args, q1, q2⟩
  ·rw [q1]; exact fin undef w' ρ' q2 q3 q4
  ·rw [q1]; exact fin v w' ρ' q2 q3 q4
  ·rw [q1]
   refine ⟨fun h => (by cases h), callsIn_fence (q2.mono ?_)⟩
   rintro e w' ⟨v, rfl, ρ', q2, q3, q4⟩
   exact fin v w' ρ' q2 q3 q4
 ·rename_i hw
  obtain ⟨q1, q2⟩ := h2 (by simpa using hw)
  exact fin undef w ρ q1 (by rw [q2]; exact hr.inv) (Tr.refl w ρ)
theorem Run.alcAt (id : Nat) {dst : Option Nat} {op : Op} {type : TypeId} {pos : String} {after : Array Edge} {sz : Nat} {row : List AV} {q : Option Nat} {p : Prop} {ver : Nat} {k0 : Kind} (h : alcA P (evo s.t) op = some (sz, row, q, p)) (hp : p) (hid : s.m[id]? = some ⟨ver, k0⟩)
  (k : Run P gds l Q (putA ⟨s.t, s.m.set id ⟨ver + 1, .row sz row⟩, s.n, s.d⟩ dst (alcV id (ver + 1) q))) : Run P gds (⟨dst, op, type, pos, after, none⟩ :: l) Q s :=
 (alcA_step h hp hid).run (by rw [putA_eq] at k; exact k)
theorem Run.mapAt (id : Nat) {dst : Option Nat} {ty type : TypeId} {pos : String} {after : Array Edge} {ver : Nat} {k0 : Kind} (hid : s.m[id]? = some ⟨ver, k0⟩)
  (k : Run P gds l Q (putA ⟨s.t, s.m.set id ⟨ver + 1, .mp []⟩, s.n, s.d⟩ dst (.omap id (ver + 1)))) : Run P gds (⟨dst, .makeMap ty none, type, pos, after, none⟩ :: l) Q s :=
 (mapA_step hid).run (by rw [putA_eq] at k; exact k)
theorem Run.calm {s' : S} {p : Prop} (h0 : isBox o.op = false) (h : nextA P gds s o = some (s', p)) (hp : p) (k : Run P gds l Q s') : Run P gds (o :: l) Q s := Run.next h hp k
end
theorem Wp.vacs {r : Option Nat} {c : Code} {Q : Exit → S → Prop} : ∀ (n : Nat) {s : S}, Wp P r c Q { s with m := s.m ++ List.replicate n ⟨0, .row 1 []⟩ } → Wp P r c Q s
 | 0, s, h => by simpa using h
 | n + 1, s, h => by
  have h1 : Wp P r c Q { s with m := s.m ++ [(⟨0, .row 1 []⟩ : Ent)] } := by
   refine Wp.vacs n ?_
   have e : s.m ++ [(⟨0, .row 1 []⟩ : Ent)] ++ List.replicate n ⟨0, .row 1 []⟩ = s.m ++ List.replicate (n + 1) ⟨0, .row 1 []⟩ := by
    simp only [List.replicate_succ, List.append_assoc, List.cons_append, List.nil_append]
   simp only
   rw [e]; exact h
  intro X a w ρ hr
  obtain ⟨t1, t2⟩ := hr.inv.adopt 1
  exact Go.wpIn_mono (h1 X a w _ (hr.step t1 t2)) fun e a' w' ⟨s', ρ', q, k1, k2⟩ => ⟨s', ρ', q, k1, t1.trans k2⟩
def leavesA (P : Program) (rs : List ResultVar) (Q : AV → Mem → Prop) : Exit → S → Prop
 | .normal, s | .ret, s => s.d = [] ∧ ∃ xs p, resL P s rs = some (xs, p) ∧ p ∧ Q (packRes xs) s.m
 | _, _ => False
theorem Spec.of_bodyA {f : FuncId} {fn : Func} {c : Code} {args : List AV} {m : Mem} {Q : AV → Mem → Prop} (hf : P.funcs[f]? = some fn) (hb : fn.body = some c) (hn : args.length ≤ fn.ntmps)
  (h : Wp P none c (leavesA P fn.results.toList Q) (entry args m fn.ntmps)) : Spec P f args m Q := by
 intro X w ρ vs hi hr
 refine (callsIn_wide (n := 0)).1 (callsIn_of_wp_marks (F := Fence.wide) hf hb trivial ?_ rfl)
 have hlen := hr.len
 have hrel : Rel X (entry args m fn.ntmps) { tmps := vs.toArray ++ Array.replicate (fn.ntmps - vs.toArray.size) undef, defers := [] } w ρ := by
  refine ⟨fun n => ?_, by simp [entry]; omega, hi, rfl⟩
  simp only [entry]
  rw [look_zip]
  simp only [Nat.not_lt_zero, if_false, Nat.sub_zero]
  by_cases hlt : n < args.length
  ·obtain ⟨v, h1, h2⟩ := hr.nth (List.getElem?_eq_getElem hlt)
   have e1 : args.getD n .any = args[n] := by simp [hlt]
   have e2 : (vs.toArray ++ Array.replicate (fn.ntmps - vs.toArray.size) undef).getD n undef = v := by
    have hv : n < vs.length := by omega
    have : vs[n] = v := by rw [List.getElem?_eq_getElem hv] at h1; exact Option.some.inj h1
    simp [Array.getElem?_append, hv, this]
   rw [e1, e2]; exact h2
  ·have : args.getD n .any = .any := by simp [hlt]
   rw [this]; trivial
 refine Go.wpIn_mono (h X _ w ρ hrel) ?_
 rintro e a' w' ⟨s', ρ', q, k1, k2⟩
 have fin : leavesA P fn.results.toList Q .ret s' → LeavesInM Fence.wide 0 P fn a'.tmps (fun e w' => ∃ v x m' ρ', e = .returned v ∧ Q x m' ∧ R X w' ρ' x v ∧ Inv X w' ρ' m' ∧ Tr w ρ w' ρ') a'.defers .returning w' := by
  rintro ⟨hd, xs, p, h1, h2, h3⟩
  refine leave_marks s'.d s' a' w' ρ' rfl k1 (by rw [hd]; intro q hq; cases hq) (by rw [hd]; exact List.Pairwise.nil) fun w2 ρ2 k3 k4 => ?_
  have e1 : ({ s' with m := kill s'.m s'.d, d := [] } : S) = s' := by
   cases s'; simp only at hd; subst hd; rfl
  rw [e1] at k3
  obtain ⟨v, h6, h7⟩ := results_run k3 h1 h2
  exact ⟨v, h6, v, packRes xs, s'.m, ρ2, rfl, h3, h7, k3.inv, k2.trans k4⟩
 cases e with
 | normal => exact fin q
 | ret => exact fin q
 | exit id => exact q.elim
 | goto l => exact q.elim
 | panic ch => exact q.elim
 | outgrown => exact q.elim
theorem leaveA {s : S} {rs : List ResultVar} {xs : List AV} {p : Prop} {C : AV → Mem → Prop} (hd : s.d = []) (h : resL P s rs = some (xs, p)) (hp : p) (hx : C (packRes xs) s.m) : leavesA P rs C .ret s := ⟨hd, xs, p, h, hp, hx⟩
theorem leaveAN {s : S} {rs : List ResultVar} {xs : List AV} {p : Prop} {C : AV → Mem → Prop} (hd : s.d = []) (h : resL P s rs = some (xs, p)) (hp : p) (hx : C (packRes xs) s.m) : leavesA P rs C .normal s := ⟨hd, xs, p, h, hp, hx⟩
attribute [push_cast] alcA alcV
end Go.Vg
namespace Go.Vg
open Go.RowKit
variable {P : Program} {X : Nat → Prop} {w : World} {ρ : Rho}
def Ad (a b : Nat) (x y : AV) : Prop := y = x ∨ (x = .emp ∧ ∃ id, a ≤ id ∧ id < b ∧ y = .osl id 0 0 0)
def AdL (a b : Nat) : List AV → List AV → Prop
 | [], [] => True
 | x :: l, y :: l' => (Ad a b x y ∨ y = .any) ∧ AdL a b l l'
 | _, _ => False
def AdE (a b : Nat) (x y : AV) : Prop := Ad a b x y ∨ ∃ xs ys, x = .agg xs ∧ y = .agg ys ∧ AdL a b xs ys
def AdR (a b : Nat) : List AV → List AV → Prop
 | [], [] => True
 | x :: l, y :: l' => AdE a b x y ∧ AdR a b l l'
 | _, _ => False
theorem AdL.len {a b : Nat} : ∀ {l l' : List AV}, AdL a b l l' → l'.length = l.length
 | [], [], _ => rfl
 | x :: l, y :: l', h => by simp [AdL.len h.2]
theorem AdR.len {a b : Nat} : ∀ {l l' : List AV}, AdR a b l l' → l'.length = l.length
 | [], [], _ => rfl
 | x :: l, y :: l', h => by simp [AdR.len h.2]
theorem Ad.rel {a b : Nat} (hv : ∀ id, a ≤ id → id < b → ∃ r, ρ[id]? = some r ∧ r.ver = 0) {x y : AV} (h : Ad a b x y) {v : Value} (hx : R X w ρ x v) : R X w ρ y v := by
 rcases h with rfl | ⟨rfl, id, h1, h2, rfl⟩
 ·exact hx
 ·obtain ⟨A, rfl⟩ := hx
  obtain ⟨r, h3, h4⟩ := hv id h1 h2
  exact ⟨A, 0, r, rfl, h3, by omega, fun _ => ⟨Nat.le_refl _, Nat.zero_le _, fun h => absurd h (Nat.lt_irrefl 0)⟩⟩
theorem AdL.rel {a b : Nat} (hv : ∀ id, a ≤ id → id < b → ∃ r, ρ[id]? = some r ∧ r.ver = 0) {bl : Nat} : ∀ {l l' : List AV} {o : Nat}, AdL a b l l' → Rcells X w ρ l bl o → Rcells X w ρ l' bl o
 | [], [], _, _, h => h
 | x :: l, y :: l', o, ⟨h1, h2⟩, ⟨⟨v, q1, q2, q3⟩, q4⟩ => ⟨⟨v, q1, q2, by
  rcases h1 with h1 | rfl
  ·exact h1.rel hv q3
  ·trivial⟩, AdL.rel hv h2 q4⟩
theorem AdE.rel {a b : Nat} (hv : ∀ id, a ≤ id → id < b → ∃ r, ρ[id]? = some r ∧ r.ver = 0) {x y : AV} (h : AdE a b x y) {sz bl o : Nat} (hx : Re X w ρ x sz bl o) : Re X w ρ y sz bl o := by
 rcases h with h | ⟨xs, ys, rfl, rfl, h⟩
 ·rcases h with rfl | ⟨rfl, id, h1, h2, rfl⟩
  ·exact hx
  ·exact OneAt.mono (fun _ => rfl) hx fun v hv' => Ad.rel (X := X) (w := w) hv (x := .emp) (.inr ⟨rfl, id, h1, h2, rfl⟩) hv'
 ·exact ⟨by rw [h.len]; exact hx.1, h.rel hv hx.2⟩
theorem AdR.rel {a b : Nat} (hv : ∀ id, a ≤ id → id < b → ∃ r, ρ[id]? = some r ∧ r.ver = 0) {sz bl : Nat} : ∀ {l l' : List AV} {o : Nat}, AdR a b l l' → Rrow X w ρ l sz bl o → Rrow X w ρ l' sz bl o
 | [], [], _, _, h => h
 | x :: l, y :: l', o, ⟨h1, h2⟩, ⟨q1, q2⟩ => ⟨h1.rel hv q1, AdR.rel hv h2 q2⟩
theorem Rel.vacs {s : S} {a : Act} (hr : Rel X s a w ρ) : ∀ n : Nat, ∃ ρ', Rel X { s with m := s.m ++ List.replicate n ⟨0, .row 1 []⟩ } a w ρ' ∧ Tr w ρ w ρ'
 | 0 => ⟨ρ, by simpa using hr, Tr.refl w ρ⟩
 | n + 1 => by
  obtain ⟨ρ1, h1, t1⟩ := Rel.vacs hr n
  obtain ⟨t2, i2⟩ := h1.inv.adopt 1
  refine ⟨_, ?_, t1.trans t2⟩
  have := h1.step t2 i2
  simp only at this
  rw [List.append_assoc] at this
  rw [List.replicate_succ']
  exact this
theorem Wp.adoptRow {r : Option Nat} {c : Code} {Q : Exit → S → Prop} {s : S} (e n : Nat) {ver sz : Nat} {l l' : List AV} (hm : s.m[e]? = some ⟨ver, .row sz l⟩) (hl : AdR s.m.length (s.m.length + n) l l')
  (k : Wp P r c Q { s with m := s.m.set e ⟨ver, .row sz l'⟩ ++ List.replicate n ⟨0, .row 1 []⟩ }) : Wp P r c Q s := by
 intro X a w ρ hr
 obtain ⟨ρ1, h1, t1⟩ := hr.vacs n
 have hlen : e < s.m.length := (List.getElem?_eq_some_iff.1 hm).1
 have hm1 : (s.m ++ List.replicate n (⟨0, .row 1 []⟩ : Ent))[e]? = some ⟨ver, .row sz l⟩ := by rw [List.getElem?_append_left hlen]; exact hm
 have hv : ∀ id, s.m.length ≤ id → id < s.m.length + n → ∃ r, ρ1[id]? = some r ∧ r.ver = 0 := by
  intro id q1 q2
  have hi1 : id < ρ1.length := by rw [h1.inv.len]; simp; omega
  refine ⟨ρ1[id], List.getElem?_eq_getElem hi1, ?_⟩
  have hi2 : (s.m ++ List.replicate n (⟨0, .row 1 []⟩ : Ent))[id]? = some ⟨0, .row 1 []⟩ := by
   rw [List.getElem?_append_right q1, List.getElem?_replicate, if_pos (by omega)]
  exact (h1.inv.at_ id _ _ (List.getElem?_eq_getElem hi1) hi2).1
 have hinv : Inv X w ρ1 ((s.m ++ List.replicate n (⟨0, .row 1 []⟩ : Ent)).set e ⟨ver, .row sz l'⟩) := by
  have hi := h1.inv
  refine ⟨by simp [hi.len], fun i r' e' hr' he => ?_, hi.apart, hi.new, hi.out, hi.gd⟩
  rcases getElem?_set_cases he with ⟨rfl, _, rfl⟩ | ⟨hne, he'⟩
  ·obtain ⟨q1, q2, q3, q4⟩ := hi.at_ i r' _ hr' hm1
   refine ⟨q1, q2, fun hb => ?_, fun b hb => ?_⟩
   ·have := q3 hb; subst this
    cases l' with
    | nil => rfl
    | cons y l' => exact hl.elim
   ·obtain ⟨z1, z2, z3⟩ := q4 b hb
    exact ⟨z1, by rw [hl.len]; exact z2, hl.rel hv z3⟩
  ·exact hi.at_ i r' e' hr' he'
 have hrel : Rel X { s with m := s.m.set e ⟨ver, .row sz l'⟩ ++ List.replicate n ⟨0, .row 1 []⟩ } a w ρ1 := by
  refine ⟨h1.tmps, h1.size, ?_, h1.defers⟩
  have := hinv
  rwa [List.set_append_left _ _ hlen] at this
 exact Go.wpIn_mono (k X a w _ hrel) fun e a' w' ⟨s', ρ', q, k1, k2⟩ => ⟨s', ρ', q, k1, t1.trans k2⟩
section
variable {gds : List (Option Nat)} {ops l : List Oper} {k : Nat} {s s1 : S} {o : Oper}
end
end Go.Vg
namespace Go.Vg
open Go.RowKit
variable {P : Program}
theorem get_some_app {m l : Mem} {id : Nat} {e : Ent} (h : m[id]? = some e) : (m ++ l)[id]? = some e := by
 rw [List.getElem?_append_left (List.getElem?_eq_some_iff.1 h).1]; exact h
theorem map_ver_app' {m : Mem} (l : Mem) {id ver : Nat} (h : (m[id]?).map (·.ver) = some ver) : ((m ++ l)[id]?).map (·.ver) = some ver := by
 cases he : m[id]? with
 | none => rw [he] at h; cases h
 | some e => rw [get_some_app he, ← he]; exact h
theorem idxA_app {m : Mem} (l : Mem) {t : TypeId} {x i : AV} {r : AV × Prop} (h : idxA P m t x i = some r) : idxA P (m ++ l) t x i = some r := by
 unfold idxA at h
 split at h
 ·rename_i hu
  unfold idxA; simp only [hu]; exact h
 ·rename_i id ver off len kk k hu
  unfold idxA; simp only [hu]
  cases he : m[id]? with
  | none => rw [he] at h; cases h
  | some e => rw [get_some_app he]; rw [he] at h; exact h
 ·unfold idxA
  cases hu : uk P t <;> exact h
 ·rename_i id ver i0 j kk k
  unfold idxA
  split at h <;> (try (cases h; done))
  rename_i n e ha
  split at h <;> (try (cases h; done))
  rename_i sz hsz
  split at h <;> (try (cases h; done))
  rename_i hm
  simp only [ha, hsz, map_ver_app' l hm, if_true]
  cases hu : uk P t <;> exact h
 ·cases h
theorem loadA_app {m : Mem} (l : Mem) {t : TypeId} {x : AV} {r : AV × Prop} (h : loadA P m t x = some r) : loadA P (m ++ l) t x = some r := by
 unfold loadA at h ⊢
 cases ha : agg? P t with
 | none => rw [ha] at h; cases h
 | some b =>
  cases b <;> cases hz : tsz P t <;> rw [ha, hz] at h <;> cases x <;> (try (cases h; done)) <;> (try exact h) <;> simp only at h ⊢
  all_goals
   rename_i id ver i j
   cases he : m[id]? with
   | none => rw [he] at h; cases h
   | some en => rw [get_some_app he]; rw [he] at h; exact h
theorem map_ver_app {m : Mem} (l : Mem) {id ver : Nat} (h : (m[id]?).map (·.ver) = some ver) : ((m ++ l)[id]?).map (·.ver) = some ver := by
 cases he : m[id]? with
 | none => rw [he] at h; cases h
 | some e => rw [get_some_app he, ← he]; exact h
theorem fieldAddrA_app {m : Mem} (l : Mem) {t : TypeId} {x : AV} {f : Nat} {r : AV × Prop} (h : fieldAddrA P m t x f = some r) : fieldAddrA P (m ++ l) t x f = some r := by
 unfold fieldAddrA at h ⊢
 cases hf : fOff P t f with
 | none => rw [hf] at h; cases h
 | some ou =>
  obtain ⟨o, u⟩ := ou
  rw [hf] at h
  simp only at h ⊢
  cases hz : tsz P u with
  | none => rw [hz] at h; cases h
  | some n =>
   rw [hz] at h
   cases n with
   | zero => cases h
   | succ n =>
    cases x <;> (try (cases h; done)) <;> (try exact h)
    simp only at h ⊢
    split at h
    ·rename_i hv; rw [if_pos (map_ver_app l hv)]; exact h
    ·cases h
theorem lookA_app {m : Mem} (l : Mem) {t : TypeId} {x k : AV} {c : Bool} {r : AV × Prop} (h : lookA P m t x k c = some r) : lookA P (m ++ l) t x k c = some r := by
 unfold lookA at h ⊢
 split at h <;> (try (cases h; done))
 rename_i id ver kt et kv hmt hkv
 cases he : m[id]? with
 | none => rw [he] at h; cases h
 | some e => rw [get_some_app he]; rw [he] at h; exact h
def isSlc : Op → Bool
 | .slice .. => true
 | _ => false
theorem ev_app {E B : Operand → AV} {m : Mem} (l : Mem) {op : Op} {r : AV × Prop} (hsl : isSlc op = false) (h : ev P E B m op = some r) : ev P E B (m ++ l) op = some r := by
 cases op <;> (try exact h)
 case load t a => exact loadA_app l h
 case nilCheck x =>
  unfold ev at h ⊢
  simp only at h ⊢
  cases hx : E x <;> rw [hx] at h <;> (try (cases h; done)) <;> (try exact h)
  simp only at h ⊢
  split at h
  ·rename_i hv; rw [if_pos (map_ver_app l hv)]; exact h
  ·cases h
 case slice t x lo hi mx => cases hsl
 case lookup t x k c => exact lookA_app l h
 case fieldAddr t x f => exact fieldAddrA_app l h
 case indexAddr t x i => exact idxA_app l h
theorem stepA_app {gds : List (Option Nat)} {t : List (Nat × AV)} {m : Mem} (l : Mem) {o : Oper} {r : AV × Prop} (hsl : isSlc o.op = false) (h : stepA P gds t m o = some r) : stepA P gds t (m ++ l) o = some r := by
 unfold stepA at h ⊢
 cases hg : o.guard with
 | none => rw [hg] at h; exact ev_app l hsl h
 | some g =>
  rw [hg] at h
  simp only at h ⊢
  cases hb : gval gds t g with
  | none => rw [hb] at h; cases h
  | some b =>
   rw [hb] at h
   simp only at h ⊢
   cases he : ev P (fun x => (unopt (evo t x)).2) (evo t) m o.op with
   | none => rw [he] at h; cases h
   | some xp => rw [ev_app l hsl he]; rw [he] at h; exact h
inductive AbsV (P : Program) (gds : List (Option Nat)) (m : Mem) (n : Nat) : Nat → List Oper → List (Nat × AV) → Nat → List (Nat × AV) → List (Nat × Nat × List AV) → Prop where
 | nil {k j : Nat} {t : List (Nat × AV)} : AbsV P gds m n k [] t j t []
 | cons {k j : Nat} {o : Oper} {l : List Oper} {t t' : List (Nat × AV)} {x : AV} {p : Prop} {es : List (Nat × Nat × List AV)} : dstB n o.dst = true → isSlc o.op = false → stepA P gds t m o = some (x, p) → p → AbsV P gds m n (k + 1) l (upd t o.dst x) j t' es → AbsV P gds m n k (o :: l) t j t' es
 | alcS {k j : Nat} {dst : Option Nat} {op : Op} {type : TypeId} {pos : String} {after : Array Edge} {l : List Oper} {t t' : List (Nat × AV)} {sz : Nat} {row : List AV} {q : Option Nat} {es : List (Nat × Nat × List AV)} : dstB n dst = true → (∀ (m' : Mem) (id ver : Nat) (k0 : Kind), m'[id]? = some ⟨ver, k0⟩ → StepAt P gds t m' ⟨dst, op, type, pos, after, none⟩ (m'.set id ⟨ver + 1, .row sz row⟩) (alcV id (ver + 1) q)) → AbsV P gds m n (k + 1) l (upd t dst (alcV (m.length + j) 1 q)) (j + 1) t' es → AbsV P gds m n k (⟨dst, op, type, pos, after, none⟩ :: l) t j t' ((k, sz, row) :: es)
theorem AbsV.alc {gds : List (Option Nat)} {m : Mem} {n : Nat} {k j : Nat} {dst : Option Nat} {op : Op} {type : TypeId} {pos : String} {after : Array Edge} {l : List Oper} {t t' : List (Nat × AV)} {sz : Nat} {row : List AV} {q : Option Nat} {p : Prop} {es : List (Nat × Nat × List AV)} (h1 : dstB n dst = true) (h2 : alcA P (evo t) op = some (sz, row, q, p)) (h3 : p) (h4 : AbsV P gds m n (k + 1) l (upd t dst (alcV (m.length + j) 1 q)) (j + 1) t' es) : AbsV P gds m n k (⟨dst, op, type, pos, after, none⟩ :: l) t j t' ((k, sz, row) :: es) :=
 .alcS h1 (fun _ _ _ _ hid => alcA_step h2 h3 hid) h4
def vacE : Ent := ⟨0, .row 1 []⟩
def layV : List (Nat × Nat × List AV) → List Bool → Mem
 | e :: es, b :: bs => (match b with
  | true => (⟨1, .row e.2.1 e.2.2⟩ : Ent)
  | false => vacE) :: layV es bs
 | e :: es, [] => vacE :: layV es []
 | [], _ => []
theorem AbsV.lower {gds : List (Option Nat)} {m : Mem} {n : Nat} : ∀ {k : Nat} {l : List Oper} {t : List (Nat × AV)} {j : Nat} {t' : List (Nat × AV)} {es : List (Nat × Nat × List AV)}, AbsV P gds m n k l t j t' es → ∀ e ∈ es, k ≤ e.1 ∧ e.1 < k + l.length
 | _, _, _, _, _, _, .nil => by simp
 | _, _, _, _, _, _, .cons _ _ _ _ h => fun e he => by have := h.lower e he; simp; omega
 | _, _, _, _, _, _, .alcS _ _ h => fun e he => by
  rcases List.mem_cons.1 he with rfl | he
  ·simp
  ·have := h.lower e he; simp; omega
theorem layV_none : ∀ (es : List (Nat × Nat × List AV)), layV es (es.map fun _ => false) = List.replicate es.length vacE
 | [] => rfl
 | e :: es => by simp [layV, layV_none es, List.replicate_succ]
theorem layV_all : ∀ (es : List (Nat × Nat × List AV)), layV es (es.map fun _ => true) = es.map fun e => ⟨1, .row e.2.1 e.2.2⟩
 | [] => rfl
 | e :: es => by simp [layV, layV_all es]
theorem layV_set : ∀ {es : List (Nat × Nat × List AV)} {bits : List Bool} {j : Nat} {e : Nat × Nat × List AV}, es[j]? = some e → bits.length = es.length → bits[j]? = some false → (∀ i e', es[i]? = some e' → e'.1 = e.1 → i = j) → (layV es bits)[j]? = some vacE ∧ layV es (setB (es.map (·.1)) e.1 bits) = (layV es bits).set j ⟨1, .row e.2.1 e.2.2⟩
 | [], _, _, _, h, _, _, _ => by simp at h
 | e0 :: es, [], _, _, _, h, _, _ => by simp at h
 | e0 :: es, b :: bs, 0, e, h, hl, hb, hu => by
  simp at h hb
  subst h hb
  refine ⟨rfl, ?_⟩
  have hno : (es.map (·.1)).contains e0.1 = false := by
   rw [← Bool.not_eq_true, List.contains_iff_mem]
   intro hm
   obtain ⟨e', he', heq⟩ := List.mem_map.1 hm
   obtain ⟨i, hi⟩ := List.getElem?_of_mem he'
   have := hu (i + 1) e' (by simpa using hi) heq
   omega
  have h2 : setB ((e0 :: es).map (·.1)) e0.1 (false :: bs) = true :: setB (es.map (·.1)) e0.1 bs := by simp [setB]
  rw [h2, setB_not hno bs (by simp at hl; simpa using hl)]
  rfl
 | e0 :: es, b :: bs, j + 1, e, h, hl, hb, hu => by
  have hne : ¬ e0.1 = e.1 := fun he => by have := hu 0 e0 rfl he; omega
  obtain ⟨q1, q2⟩ := layV_set (es := es) (bits := bs) (j := j) (e := e) (by simpa using h) (by simpa using hl) (by simpa using hb) (fun i e' hi he => by have := hu (i + 1) e' (by simpa using hi) he; omega)
  refine ⟨by simpa [layV] using q1, ?_⟩
  have h2 : setB ((e0 :: es).map (·.1)) e.1 (b :: bs) = b :: setB (es.map (·.1)) e.1 bs := by simp [setB, hne]
  rw [h2]
  simp only [layV, q2, List.set_cons_succ]
theorem setB_not' {es : List Nat} {k : Nat} (h : ∀ e ∈ es, e ≠ k) (bits : List Bool) (hl : bits.length = es.length) : setB es k bits = bits := by
 refine setB_not ?_ bits hl
 rw [← Bool.not_eq_true, List.contains_iff_mem]
 exact fun hm => h k hm rfl
theorem AbsV.toM {gds : List (Option Nat)} {m : Mem} {n : Nat} {ops : List Oper} {all : List (Nat × Nat × List AV)} (hu : ∀ (i i' : Nat) (e e' : Nat × Nat × List AV), all[i]? = some e → all[i']? = some e' → e.1 = e'.1 → i = i') : ∀ {k : Nat} {l : List Oper} {t : List (Nat × AV)} {j : Nat} {t' : List (Nat × AV)} {es : List (Nat × Nat × List AV)}, AbsV P gds m n k l t j t' es → all.drop j = es → (∀ i e, all[i]? = some e → i < j → e.1 < k) →
  AbsM P gds ops (all.map (·.1)) (fun bits => m ++ layV all bits) n k l t t'
 | _, _, _, _, _, _, .nil, _, _ => .nil
 | k, _, _, j, _, es, .cons (o := o) (l := l) h1 h1' h2 h3 h4, hd, hj => by
  refine .cons (dstB_ok h1) (fun bits hb => ?_) (AbsV.toM hu h4 hd fun i e hi hij => by have := hj i e hi hij; omega)
  have hlen : bits.length = (all.map (·.1)).length := allB_len (List.mem_filter.1 hb).1
  rw [setB_not' (fun e he => ?_) bits hlen]
  ·exact (stepA_yield (stepA_app _ h1' h2) h3).stepAt
  ·obtain ⟨e', he', rfl⟩ := List.mem_map.1 he
   obtain ⟨i, hi⟩ := List.getElem?_of_mem he'
   rcases Nat.lt_or_ge i j with h | h
   ·have := hj i e' hi h; omega
   ·have : e' ∈ es := by
     rw [← hd]
     refine List.mem_of_getElem? (i := i - j) ?_
     rw [List.getElem?_drop, show j + (i - j) = i by omega]; exact hi
    have := h4.lower e' this; omega
 | k, _, t, j, _, _, .alcS (dst := dst) (op := op) (type := type) (pos := pos) (after := after) (l := l) (sz := sz) (row := row) (q := q) (es := es) h1 h2 h4, hd, hj => by
  have hje : all[j]? = some (k, sz, row) := by
   have : (all.drop j)[0]? = some (k, sz, row) := by rw [hd]; rfl
   simpa using this
  refine .cons (dstB_ok h1) (fun bits hb => ?_) (AbsV.toM hu h4 (by rw [← List.drop_drop, hd]; rfl) fun i e hi hij => ?_)
  ·have hlen : bits.length = all.length := by simpa using allB_len (List.mem_filter.1 hb).1
   have hc := (List.mem_filter.1 hb).2
   have hbj : bits[j]? = some false := by
    have hjl : j < all.length := (List.getElem?_eq_some_iff.1 hje).1
    unfold consB at hc
    have := List.all_eq_true.1 hc (k, bits[j]'(by omega)) (by
     refine List.mem_of_getElem? (i := j) ?_
     rw [List.getElem?_zip_eq_some]
     exact ⟨by rw [List.getElem?_map, hje]; rfl, List.getElem?_eq_getElem (by omega)⟩)
    simp at this
    rw [List.getElem?_eq_getElem (by omega), this.1]
   obtain ⟨q1, q2⟩ := layV_set hje hlen hbj (fun i e' hi he => hu i j e' _ hi hje he)
   skip
   rw [q2]
   have hid : (m ++ layV all bits)[m.length + j]? = some ⟨0, .row 1 []⟩ := by rw [List.getElem?_append_right (by omega), show m.length + j - m.length = j by omega]; exact q1
   have := h2 _ _ _ _ hid
   rw [List.set_append_right _ _ (by omega), show m.length + j - m.length = j by omega] at this
   exact this
  ·rcases Nat.lt_or_ge i j with h | h
   ·have := hj i e hi h; omega
   ·have : i = j := by omega
    subst this
    rw [hje] at hi; cases hi; simp
theorem AbsV.uniq {gds : List (Option Nat)} {m : Mem} {n : Nat} : ∀ {k : Nat} {l : List Oper} {t : List (Nat × AV)} {j : Nat} {t' : List (Nat × AV)} {es : List (Nat × Nat × List AV)}, AbsV P gds m n k l t j t' es → ∀ (i i' : Nat) (e e' : Nat × Nat × List AV), es[i]? = some e → es[i']? = some e' → e.1 = e'.1 → i = i'
 | _, _, _, _, _, _, .nil => by intro i i' e e' h; simp at h
 | _, _, _, _, _, _, .cons _ _ _ _ h => h.uniq
 | _, _, _, _, _, _, .alcS _ _ h => by
  intro i i' e e' h1 h2 he
  cases i <;> cases i'
  ·rfl
  ·simp at h1 h2; subst h1
   have := h.lower e' (List.mem_of_getElem? h2); simp at he; omega
  ·simp at h1 h2; subst h2
   have := h.lower e (List.mem_of_getElem? h1); simp at he; omega
  ·simp at h1 h2; rw [h.uniq _ _ e e' h1 h2 he]
end Go.Vg
namespace Go.Vg
open Go.RowKit
variable {P : Program} {X : Nat → Prop} {w : World} {ρ : Rho}
mutual
inductive Vw (m : Mem) : AV → AV → Prop
 | self {x : AV} : x.ok 0 → Vw m x x
 | osl {id ver off len sz : Nat} {l ys : List AV} : m[id]? = some ⟨ver, .row sz l⟩ → off + len ≤ l.length → 0 < sz → VwL m ((l.drop off).take len) ys → Vw m (.osl id ver off len) (.lst sz ys)
 | optr {id ver i j sz : Nat} {l ys : List AV} {x : AV} : m[id]? = some ⟨ver, .row sz l⟩ → l[i]? = some x → j < x.cells.length → VwL m x.cells ys → Vw m (.optr id ver i j) (.ref ys j)
 | agg {xs ys : List AV} : VwL m xs ys → Vw m (.agg xs) (.agg ys)
 | tup {xs ys : List AV} : VwL m xs ys → Vw m (.tup xs) (.tup ys)
 | clo {f : FuncId} {xs ys : List AV} : VwL m xs ys → Vw m (.clo f xs) (.clo f ys)
 | emp {sz : Nat} : Vw m .emp (.lst sz [])
inductive VwL (m : Mem) : List AV → List AV → Prop
 | nil : VwL m [] []
 | cons {x y : AV} {xs ys : List AV} : Vw m x y → VwL m xs ys → VwL m (x :: xs) (y :: ys)
end
mutual
theorem Vw.len {m : Mem} : ∀ {x y : AV}, Vw m x y → True
 | _, _, .self _ => trivial
 | _, _, .osl _ _ _ _ => trivial
 | _, _, .optr _ _ _ _ => trivial
 | _, _, .agg _ => trivial
 | _, _, .tup _ => trivial
 | _, _, .clo _ => trivial
 | _, _, .emp => trivial
theorem VwL.len {m : Mem} : ∀ {xs ys : List AV}, VwL m xs ys → ys.length = xs.length
 | _, _, .nil => rfl
 | _, _, .cons _ h => by simp [VwL.len h]
end
theorem free_triv {X : Nat → Prop} {ρ : Rho} (b : Nat) : Free X ρ b → Free (fun _ => False) [] b := fun _ => ⟨fun h => h, fun r hr => by cases hr⟩
mutual
theorem Vw.rel {m : Mem} (hi : Inv X w ρ m) : ∀ {x y : AV}, Vw m x y → (∀ v, R X w ρ x v → R (fun _ => False) w [] y v) ∧ (∀ sz b o, Re X w ρ x sz b o → Re (fun _ => False) w [] y sz b o)
 | x, _, .self hk => ⟨(Rp.eyes (fun b => free_triv b) x hk).1, (Rp.eyes (fun b => free_triv b) x hk).2⟩
 | _, _, .osl (id := id) (ver := ver) (off := off) (len := len) (sz := sz) (l := l) (ys := ys) hm hlen hsz hys => by
  have key : ∀ v, R X w ρ (.osl id ver off len) v → R (fun _ => False) w [] (.lst sz ys) v := by
   intro v h
   obtain ⟨r, hr, hv, hrz, hnone, hblk⟩ := hi.row hm
   obtain ⟨A, c, r', rfl, hr', hle, hat⟩ := h
   rw [hr] at hr'; cases hr'
   obtain ⟨hl, hc, hpos⟩ := hat hv.symm
   have hll : ys.length = len := by rw [VwL.len hys]; simp; omega
   refine ⟨A, c, by rw [hll], by omega, hc, fun hne => ?_⟩
   have h0 : 0 < len := by
    rcases Nat.eq_zero_or_pos len with e | e
    ·exfalso; apply hne; exact List.length_eq_zero_iff.1 (by omega)
    ·exact e
   obtain ⟨b, hb, rfl, hfit⟩ := hpos (by omega)
   obtain ⟨_, _, hrow⟩ := hblk b hb
   refine ⟨b, r.base + off * r.sz, rfl, ⟨fun h => h, fun r hr => by cases hr⟩, hsz, ?_⟩
   rw [hrz]
   exact (VwL.rel hi hys).2.2 _ _ _ ((hrow.drop off).take len)
  exact ⟨key, fun _ _ _ h => OneAt.mono (fun _ => rfl) h key⟩
 | _, _, .optr (id := id) (ver := ver) (i := i) (j := j) (l := l) (ys := ys) (x := x) hm hg hj hys => by
  have key : ∀ v, R X w ρ (.optr id ver i j) v → R (fun _ => False) w [] (.ref ys j) v := by
   intro v h
   obtain ⟨r, hr, hv, hrz, hnone, hblk⟩ := hi.row hm
   obtain ⟨A, r', rfl, hr', hle, hat⟩ := h
   rw [hr] at hr'; cases hr'
   obtain ⟨b, hb, rfl⟩ := hat hv.symm
   obtain ⟨_, _, hrow⟩ := hblk b hb
   obtain ⟨c1, c2⟩ := (hrow.nth hg).cells
   refine ⟨b, r.base + i * r.sz, rfl, by rw [VwL.len hys]; exact hj, ⟨fun h => h, fun r hr => by cases hr⟩, ?_⟩
   rw [hrz]
   exact (VwL.rel hi hys).2.1 _ _ c2
  exact ⟨key, fun _ _ _ h => OneAt.mono (fun _ => rfl) h key⟩
 | _, _, .agg hys => ⟨fun _ ⟨vs, h1, h2⟩ => ⟨vs, h1, (VwL.rel hi hys).1 vs h2⟩, fun _ b o h => ⟨by rw [VwL.len hys]; exact h.1, (VwL.rel hi hys).2.1 b o h.2⟩⟩
 | _, _, .tup hys => ⟨fun _ ⟨vs, h1, h2⟩ => ⟨vs, h1, (VwL.rel hi hys).1 vs h2⟩, fun _ _ _ h => h⟩
 | _, _, .clo (f := f) (xs := xs) (ys := ys) hys => by
  have key : ∀ v, R X w ρ (.clo f xs) v → R (fun _ => False) w [] (.clo f ys) v := by
   rintro v ⟨vs, h1, h2⟩
   exact ⟨vs, h1, (VwL.rel hi hys).1 vs h2⟩
  exact ⟨key, fun _ _ _ h => OneAt.mono (fun _ => rfl) h key⟩
 | _, _, .emp (sz := sz) => by
  have key : ∀ v, R X w ρ .emp v → R (fun _ => False) w [] (.lst sz []) v := by
   rintro v ⟨A, rfl⟩
   exact ⟨A, 0, rfl, Nat.le_refl _, Nat.zero_le _, fun h => absurd rfl h⟩
  exact ⟨key, fun _ _ _ h => OneAt.mono (fun _ => rfl) h key⟩
theorem VwL.rel {m : Mem} (hi : Inv X w ρ m) : ∀ {xs ys : List AV}, VwL m xs ys → (∀ vs, Rvals X w ρ xs vs → Rvals (fun _ => False) w [] ys vs) ∧ (∀ b o, Rcells X w ρ xs b o → Rcells (fun _ => False) w [] ys b o) ∧ (∀ sz b o, Rrow X w ρ xs sz b o → Rrow (fun _ => False) w [] ys sz b o)
 | _, _, .nil => ⟨fun _ h => h, fun _ _ h => h, fun _ _ _ h => h⟩
 | _, _, .cons h1 h2 =>
  ⟨fun _ ⟨v, vs', e1, e2, e3⟩ => ⟨v, vs', e1, (Vw.rel hi h1).1 v e2, (VwL.rel hi h2).1 vs' e3⟩,
   fun b o ⟨⟨v, e1, e2, e3⟩, e4⟩ => ⟨⟨v, e1, e2, (Vw.rel hi h1).1 v e3⟩, (VwL.rel hi h2).2.1 b (o + 1) e4⟩,
   fun sz b o ⟨e1, e2⟩ => ⟨(Vw.rel hi h1).2 sz b o e1, (VwL.rel hi h2).2.2 sz b (o + sz) e2⟩⟩
end
theorem Spec.args {f : FuncId} {args args' : List AV} {m : Mem} {Q : AV → Mem → Prop} (h : Spec P f args m Q) (ha : ∀ (X : Nat → Prop) (w : World) (ρ : Rho) (vs : List Value), Rvals X w ρ args' vs → Rvals X w ρ args vs) : Spec P f args' m Q :=
 fun X w ρ vs hi hr => h X w ρ vs hi (ha X w ρ vs hr)
theorem Rel.freezeP {s : S} {a : Act} (hr : Rel X s a w ρ) (n : Nat) {id ver i j sz : Nat} {l : List AV} {x : AV} (h : look s.t n = .optr id ver i j) (hm : s.m[id]? = some ⟨ver, .row sz l⟩) (hg : l[i]? = some x) (hj : j < x.cells.length) :
  ∃ ρ', Rel X { s with t := (n, .ref x.cells j) :: s.t, m := s.m.set id ⟨ver + 1, .row sz []⟩ } a w ρ' ∧ Tr w ρ w ρ' := by
 obtain ⟨r0, h0, hv, hrz, hnone, hblk⟩ := hr.inv.row hm
 obtain ⟨t1, t2⟩ := hr.inv.renew h0 (r' := ⟨r0.ver + 1, none, 0, 0, sz⟩) (w' := w) (k := .row sz []) rfl rfl rfl (Nat.le_refl _) rfl (fun _ _ _ => rfl) (fun b h => by cases h) (fun ρ' _ _ => ⟨rfl, fun _ => rfl, fun b h => by cases h⟩)
 rw [hv] at t1 t2
 have hr2 := hr.step t1 t2
 have hx := hr.tmps n
 rw [h] at hx
 obtain ⟨A, r1, hA, h1, hle, hat⟩ := hx
 rw [h0] at h1; cases h1
 obtain ⟨b, hb, hA'⟩ := hat hv.symm
 obtain ⟨_, _, hrow⟩ := hblk b hb
 obtain ⟨c1, c2⟩ := (hrow.nth hg).cells
 have hr3 : Rel X { s with t := (n, .ref x.cells j) :: s.t, m := s.m.set id ⟨ver + 1, .row sz []⟩ } a w (ρ.set id ⟨ver + 1, none, 0, 0, sz⟩) := by
  refine hr2.setT ⟨b, r0.base + i * sz, by rw [hA, hA', hrz], hj, ⟨(hr.inv.new id r0 b h0 hb).2, fun r' hr' hb' => ?_⟩, Rcells.mono t1.kp _ b _ (fun _ => rfl) c2⟩
  obtain ⟨k, hi'⟩ := List.getElem?_of_mem hr'
  rcases getElem?_set_cases hi' with ⟨_, _, rfl⟩ | ⟨hne', h2⟩
  ·cases hb'
  ·exact hne' (hr.inv.apart k id r' r0 b h2 h0 hb' hb)
 exact ⟨_, hr3, t1⟩
theorem Wp.freezeP {r : Option Nat} {c : Code} {Q : Exit → S → Prop} {s : S} (n : Nat) {id ver i j sz : Nat} {l : List AV} {x : AV} (h : look s.t n = .optr id ver i j) (hm : s.m[id]? = some ⟨ver, .row sz l⟩) (hg : l[i]? = some x) (hj : j < x.cells.length)
  (k : Wp P r c Q { s with t := (n, .ref x.cells j) :: s.t, m := s.m.set id ⟨ver + 1, .row sz []⟩ }) : Wp P r c Q s := by
 intro X a w ρ hr
 obtain ⟨ρ1, hr3, t1⟩ := hr.freezeP n h hm hg hj
 exact Go.wpIn_mono (k X a w _ hr3) fun e a' w' ⟨s', ρ', q, k1, k2⟩ => ⟨s', ρ', q, k1, t1.trans k2⟩
theorem Pure.yieldW {gds : List (Option Nat)} {t : List (Nat × AV)} {m : Mem} {o : Oper} {fo : Operand} {args : List Operand} {tys : Array TypeId} (ho : o.op = callOp fo args tys) {g : Option Bool} (hg : gvalO gds t o.guard = some g)
  (hok : gOk t g (fo :: args)) {f : FuncId} {caps : List AV} (hf : fnOf (evoG t g fo) = some (f, caps)) (he : Enters P f) {vargs : List AV} {x : AV} (hc : (g = none ∨ g = some true) → Pure P f vargs x)
  (hv : VwL m (args.map (evoG t g) ++ caps) vargs) (hp : x.plain) : Yield P gds t m o (optG g x) := by
 refine ⟨fun c e => (by rw [ho] at e; cases e), fun X w ρ a hi hr hn => ?_⟩
 have hcall : ∀ (hb : g = none ∨ g = some true), Gives P o a w fun v w' => R X w' ρ x v ∧ Inv X w' ρ m ∧ Tr w ρ w' ρ := by
  intro hb
  obtain ⟨h1, h2⟩ := onames_call (fo := fo) (args := args) (tys := tys) (t := t) (a := a) (X := X) (w := w) (ρ := ρ) (fun n hn => hr n (.inr (by rw [ho]; exact hn)))
  have h3 := evoG_rel hok hb (a := a) (X := X) (w := w) (ρ := ρ) (by intro y hy; cases hy with | head => exact h1 | tail _ hy => exact h2 y hy)
  obtain ⟨cs, hcs, hcr⟩ := fnOf_rel hf (h3 fo (by simp))
  have hrun := run_call (P := P) (w := w) ho hcs he
  have hargs : Rvals X w ρ (args.map (evoG t g) ++ caps) (args.map a.eval ++ cs) := (Rvals_map args fun y hy => h3 y (by simp [hy])).append hcr
  refine .inr ⟨f, _, hrun, ?_⟩
  have hcv := hc hb (fun _ => False) w [] (args.map a.eval ++ cs) (Inv.empty (fun _ h => h.elim) hi.gd.nil0) ((VwL.rel hi hv).1 _ hargs)
  refine hcv.mono ?_
  rintro e w' ⟨v, x', m', ρ', rfl, ⟨rfl, rfl⟩, k1, k2, k3⟩
  exact ⟨v, rfl, R.plain x' hp v k1, hi.keep k3, k3.keep ρ fun r hr' b hb' => by obtain ⟨i, hi', rfl⟩ := List.getElem_of_mem hr'; exact (hi.new i _ b (List.getElem?_eq_getElem hi') hb').1⟩
 cases hgd : o.guard with
 | none =>
  rw [hgd] at hg
  simp only [gvalO, Option.some.injEq] at hg
  subst hg
  exact ⟨fun _ => hcall (.inl rfl), fun hw => by simp [Region.wanted, hgd] at hw⟩
 | some gg =>
  rw [hgd] at hg
  simp only [gvalO, Option.map_eq_some_iff] at hg
  obtain ⟨b, hb, rfl⟩ := hg
  have hw := gval_wanted (a := a) hgd (fun n hn' => ⟨hr n (.inl hn'), hn n hn'⟩) hb
  rw [hw]
  refine ⟨fun hbt => ?_, fun hbf => ⟨fun e => (by rw [hbf] at e; cases e), fun _ => rfl⟩⟩
  subst hbt
  rcases hcall (.inr rfl) with ⟨v, w', q1, q2, q3, q4⟩ | ⟨f', args', q1, q2⟩
  ·exact .inl ⟨v, w', q1, ⟨fun _ => q2, fun e => (by cases e)⟩, q3, q4⟩
  ·exact .inr ⟨f', args', q1, q2.mono fun e w' ⟨v, e1, q2, q3, q4⟩ => ⟨v, e1, ⟨fun _ => q2, fun e => (by cases e)⟩, q3, q4⟩⟩
section
variable {gds : List (Option Nat)} {l : List Oper} {Q : S → Prop} {s s1 : S} {fo : Operand} {args : List Operand} {tys : Array TypeId} {dst : Option Nat} {type : TypeId} {pos : String} {after : Array Edge} {g : Option Bool} {guard : Option (Nat × Bool)} {f : FuncId} {xs vargs : List AV} {x : AV}
theorem Run.pureW (h : prepF gds s guard fo args = some (g, f, xs)) (he : Enters P f) (hc : Pure P f vargs x) (hv : VwL s.m xs vargs) (ha : gOk s.t g (fo :: args) ∧ x.plain) (hn : Run P gds l Q (putA s dst (optG g x))) : Run P gds (⟨dst, callOp fo args tys, type, pos, after, guard⟩ :: l) Q s := by
 obtain ⟨h1, caps, h2, h3⟩ := prepF_some h
 rw [putA_eq] at hn
 exact Run.yield (o := ⟨dst, callOp fo args tys, type, pos, after, guard⟩) (Pure.yieldW rfl h1 ha.1 h2 he (fun _ => hc) (by rw [h3]; exact hv) ha.2) hn
theorem Abn.pureW (h : prepF gds s guard fo args = some (g, f, xs)) (he : Enters P f) (hc : (g = none ∨ g = some true) → Pure P f vargs x) (hv : VwL s.m xs vargs) (ha : gOk s.t g (fo :: args) ∧ x.plain) (hn : Abn P gds l (putA s dst (optG g x)) s1) : Abn P gds (⟨dst, callOp fo args tys, type, pos, after, guard⟩ :: l) s s1 := by
 obtain ⟨h1, caps, h2, h3⟩ := prepF_some h
 rw [putA_eq] at hn
 exact Abn.yield (o := ⟨dst, callOp fo args tys, type, pos, after, guard⟩) (Pure.yieldW rfl h1 ha.1 h2 he hc (by rw [h3]; exact hv) ha.2) hn
end
theorem Wp.trim {r : Option Nat} {c : Code} {Q : Exit → S → Prop} {s : S} (i n : Nat) {ver sz : Nat} {l : List AV} (hm : s.m[i]? = some ⟨ver, .row sz l⟩) (h : Wp P r c Q { s with m := s.m.set i ⟨ver, .row sz (l.take n)⟩ }) : Wp P r c Q s := by
 intro X a w ρ hr
 have hinv : Inv X w ρ (s.m.set i ⟨ver, .row sz (l.take n)⟩) := by
  have hi := hr.inv
  refine ⟨by simp [hi.len], fun i' r' e' hr' he => ?_, hi.apart, hi.new, hi.out, hi.gd⟩
  rcases getElem?_set_cases he with ⟨h0, _, rfl⟩ | ⟨hne, he'⟩
  ·subst h0
   obtain ⟨q1, q2, q3, q4⟩ := hi.at_ _ r' _ hr' hm
   refine ⟨q1, q2, fun hb => by rw [q3 hb]; simp, fun b hb => ?_⟩
   obtain ⟨z1, z2, z3⟩ := q4 b hb
   refine ⟨z1, Nat.le_trans (Nat.add_le_add_left (Nat.mul_le_mul_right _ ?_) _) z2, z3.take n⟩
   simp; omega
  ·exact hi.at_ i' r' e' hr' he'
 exact h X a w ρ ⟨hr.tmps, hr.size, hinv, hr.defers⟩
inductive AbW (P : Program) (gds : List (Option Nat)) (ops : List Oper) (n e1 e2 : Nat) (m0 m1 m2 : Mem) : Nat → List Oper → List (Nat × AV) → List (Nat × AV) → Prop where
 | nil {k : Nat} {t : List (Nat × AV)} : AbW P gds ops n e1 e2 m0 m1 m2 k [] t t
 | both {k : Nat} {o : Oper} {l : List Oper} {t t' : List (Nat × AV)} {x : AV} {p q : Prop} : dstB n o.dst = true → ((!(k == e1) && !(k == e2)) && (before ops k e2 && !before ops e2 k)) = true → stepA P gds t m0 o = some (x, p) → p → stepA P gds t m1 o = some (x, q) → q → AbW P gds ops n e1 e2 m0 m1 m2 (k + 1) l (upd t o.dst x) t' → AbW P gds ops n e1 e2 m0 m1 m2 k (o :: l) t t'
 | bld {k : Nat} {dst : Option Nat} {op : Op} {type : TypeId} {pos : String} {after : Array Edge} {l : List Oper} {t t' : List (Nat × AV)} {sz : Nat} {xs : List AV} {p : Prop} : dstB n dst = true → ((!(k == e1) && !(k == e2)) && (before ops k e2 && !before ops e2 k)) = true → bldA P (evo t) op = some (sz, xs, p) → p → AbW P gds ops n e1 e2 m0 m1 m2 (k + 1) l (upd t dst (.lst sz xs)) t' → AbW P gds ops n e1 e2 m0 m1 m2 k (⟨dst, op, type, pos, after, none⟩ :: l) t t'
 | early {k : Nat} {o : Oper} {l : List Oper} {t t' : List (Nat × AV)} {x : AV} {p : Prop} : dstB n o.dst = true → ((!(k == e1) && !(k == e2)) && ((before ops k e1 && !before ops e1 k) && (before ops k e2 && !before ops e2 k))) = true → stepA P gds t m0 o = some (x, p) → p → AbW P gds ops n e1 e2 m0 m1 m2 (k + 1) l (upd t o.dst x) t' → AbW P gds ops n e1 e2 m0 m1 m2 k (o :: l) t t'
 | late {k : Nat} {o : Oper} {l : List Oper} {t t' : List (Nat × AV)} {x : AV} {p : Prop} : dstB n o.dst = true → ((!(k == e1) && !(k == e2)) && ((before ops e1 k && !before ops k e1) && (before ops e2 k && !before ops k e2))) = true → stepA P gds t m2 o = some (x, p) → p → AbW P gds ops n e1 e2 m0 m1 m2 (k + 1) l (upd t o.dst x) t' → AbW P gds ops n e1 e2 m0 m1 m2 k (o :: l) t t'
 | at1 {k : Nat} {o : Oper} {l : List Oper} {t t' : List (Nat × AV)} {x : AV} : dstB n o.dst = true → (k == e1) = true → StepAt P gds t m0 o m1 x → AbW P gds ops n e1 e2 m0 m1 m2 (k + 1) l (upd t o.dst x) t' → AbW P gds ops n e1 e2 m0 m1 m2 k (o :: l) t t'
 | eff1 {k : Nat} {dst : Option Nat} {op : Op} {type : TypeId} {pos : String} {after : Array Edge} {l : List Oper} {t t' : List (Nat × AV)} {x : AV} {p : Prop} : dstB n dst = true → (k == e1) = true → effA P (evo t) m0 op = some (m1, x, p) → p → AbW P gds ops n e1 e2 m0 m1 m2 (k + 1) l (upd t dst x) t' → AbW P gds ops n e1 e2 m0 m1 m2 k (⟨dst, op, type, pos, after, none⟩ :: l) t t'
 | eff2 {k : Nat} {dst : Option Nat} {op : Op} {type : TypeId} {pos : String} {after : Array Edge} {l : List Oper} {t t' : List (Nat × AV)} {x : AV} {p : Prop} : dstB n dst = true → (k == e2) = true → effA P (evo t) m1 op = some (m2, x, p) → p → AbW P gds ops n e1 e2 m0 m1 m2 (k + 1) l (upd t dst x) t' → AbW P gds ops n e1 e2 m0 m1 m2 k (⟨dst, op, type, pos, after, none⟩ :: l) t t'
def memW (m0 m1 m2 : Mem) : List Bool → Mem
 | [true, true] => m2
 | [true, false] => m1
 | _ => m0
theorem consW {ops : List Oper} {e1 e2 i : Nat} (hne : e1 ≠ e2) (hb : before ops e1 e2 = true) {bits : List Bool} (h : bits ∈ consL ops [e1, e2] i) :
  (i = e1 → bits = [false, false]) ∧ (i = e2 → bits = [true, false]) ∧ (i ≠ e1 → i ≠ e2 → before ops i e2 = true → before ops e2 i = false → bits = [false, false] ∨ bits = [true, false]) := by
 obtain ⟨h1, h2⟩ := List.mem_filter.1 h
 have hl := allB_len h1
 match bits, hl with
 | [a, b], _ =>
  simp only [consB, List.zip_cons_cons, List.zip_nil_left, List.all_cons, List.all_nil, Bool.and_true, Bool.and_eq_true, hb, Bool.not_true, Bool.false_or] at h2
  obtain ⟨⟨p1, p2⟩, p3, p4⟩ := h2
  refine ⟨fun hi => ?_, fun hi => ?_, fun q1 q2 q3 q4 => ?_⟩
  ·subst hi
   rw [if_pos rfl] at p1
   cases a
   ·cases b
    ·rfl
    ·simp at p4
   ·cases p1
  ·subst hi
   rw [if_neg hne, if_pos hb] at p1
   rw [if_pos rfl] at p3
   cases a
   ·cases p1
   ·cases b
    ·rfl
    ·cases p3
  ·rw [if_neg (Ne.symm q2), q4, q3] at p3
   simp at p3
   subst p3
   cases a
   ·exact .inl rfl
   ·exact .inr rfl
theorem consW1 {ops : List Oper} {e1 e2 i : Nat} (hne : e1 ≠ e2) (hb : before ops e1 e2 = true) {bits : List Bool} (h : bits ∈ consL ops [e1, e2] i) (q1 : i ≠ e1) (q2 : i ≠ e2) (q3 : before ops i e1 = true) (q4 : before ops e1 i = false) (q5 : before ops i e2 = true) (q6 : before ops e2 i = false) : bits = [false, false] := by
 have h0 := (consW hne hb h).2.2 q1 q2 q5 q6
 obtain ⟨h1, h2⟩ := List.mem_filter.1 h
 rcases h0 with rfl | rfl
 ·rfl
 ·exfalso
  simp only [consB, List.zip_cons_cons, List.zip_nil_left, List.all_cons, List.all_nil, Bool.and_true, Bool.and_eq_true] at h2
  have := h2.1.1
  rw [if_neg (Ne.symm q1), q4, q3] at this
  simp at this
theorem consW2 {ops : List Oper} {e1 e2 i : Nat} {bits : List Bool} (h : bits ∈ consL ops [e1, e2] i) (q1 : i ≠ e1) (q2 : i ≠ e2) (q3 : before ops e1 i = true) (q5 : before ops e2 i = true) : bits = [true, true] := by
 obtain ⟨h1, h2⟩ := List.mem_filter.1 h
 have hl := allB_len h1
 match bits, hl with
 | [a, b], _ =>
  simp only [consB, List.zip_cons_cons, List.zip_nil_left, List.all_cons, List.all_nil, Bool.and_true, Bool.and_eq_true] at h2
  have h3 := h2.1.1
  have h4 := h2.2.1
  rw [if_neg (Ne.symm q1), if_pos q3] at h3
  rw [if_neg (Ne.symm q2), if_pos q5] at h4
  rw [h3, h4]
theorem effA_at {t : List (Nat × AV)} {m m' : Mem} {x : AV} {p : Prop} {dst : Option Nat} {op : Op} {type : TypeId} {pos : String} {after : Array Edge} (h : effA P (evo t) m op = some (m', x, p)) (hp : p) : EffAt P t m ⟨dst, op, type, pos, after, none⟩ m' x :=
 ⟨effA_defer h, fun X w ρ a hi ho => effA_done (o := ⟨dst, op, type, pos, after, none⟩) hi ho h hp⟩
theorem AbW.toM {gds : List (Option Nat)} {ops : List Oper} {n e1 e2 : Nat} {m0 m1 m2 : Mem} (hne : e1 ≠ e2) (hb : before ops e1 e2 = true) : ∀ {k : Nat} {l : List Oper} {t t' : List (Nat × AV)}, AbW P gds ops n e1 e2 m0 m1 m2 k l t t' → AbsM P gds ops [e1, e2] (memW m0 m1 m2) n k l t t'
 | _, _, _, _, .nil => .nil
 | k, _, _, _, .both h1 h2 h3 h4 h5 h6 h7 => by
  simp only [Bool.and_eq_true, Bool.not_eq_true', beq_eq_false_iff_ne] at h2
  obtain ⟨⟨q1, q2⟩, q3, q4⟩ := h2
  refine .cons (dstB_ok h1) (fun bits hbits => ?_) (AbW.toM hne hb h7)
  rcases (consW hne hb hbits).2.2 q1 q2 q3 q4 with rfl | rfl
  ·rw [setB_not (by simp [Ne.symm q1, Ne.symm q2]; exact ⟨q1, q2⟩) _ rfl]
   exact (stepA_yield h3 h4).stepAt
  ·rw [setB_not (by simp [Ne.symm q1, Ne.symm q2]; exact ⟨q1, q2⟩) _ rfl]
   exact (stepA_yield h5 h6).stepAt
 | k, _, _, _, .bld h1 h2 h3 h4 h7 => by
  simp only [Bool.and_eq_true, Bool.not_eq_true', beq_eq_false_iff_ne] at h2
  obtain ⟨⟨q1, q2⟩, q3, q4⟩ := h2
  refine .cons (dstB_ok h1) (fun bits hbits => ?_) (AbW.toM hne hb h7)
  rcases (consW hne hb hbits).2.2 q1 q2 q3 q4 with rfl | rfl
  ·rw [setB_not (by simp [Ne.symm q1, Ne.symm q2]; exact ⟨q1, q2⟩) _ rfl]
   exact (bldA_yield h3 h4).stepAt
  ·rw [setB_not (by simp [Ne.symm q1, Ne.symm q2]; exact ⟨q1, q2⟩) _ rfl]
   exact (bldA_yield h3 h4).stepAt
 | k, _, _, _, .early h1 h2 h3 h4 h7 => by
  simp only [Bool.and_eq_true, Bool.not_eq_true', beq_eq_false_iff_ne] at h2
  obtain ⟨⟨q1, q2⟩, ⟨q3, q4⟩, q5, q6⟩ := h2
  refine .cons (dstB_ok h1) (fun bits hbits => ?_) (AbW.toM hne hb h7)
  rw [consW1 hne hb hbits q1 q2 q3 q4 q5 q6]
  rw [setB_not (by simp [Ne.symm q1, Ne.symm q2]; exact ⟨q1, q2⟩) _ rfl]
  exact (stepA_yield h3 h4).stepAt
 | k, _, _, _, .late h1 h2 h3 h4 h7 => by
  simp only [Bool.and_eq_true, Bool.not_eq_true', beq_eq_false_iff_ne] at h2
  obtain ⟨⟨q1, q2⟩, ⟨q3, q4⟩, q5, q6⟩ := h2
  refine .cons (dstB_ok h1) (fun bits hbits => ?_) (AbW.toM hne hb h7)
  rw [consW2 hbits q1 q2 q3 q5]
  rw [setB_not (by simp [Ne.symm q1, Ne.symm q2]; exact ⟨q1, q2⟩) _ rfl]
  exact (stepA_yield h3 h4).stepAt
 | k, _, _, _, .at1 h1 h2 h3 h7 => by
  simp only [beq_iff_eq] at h2
  refine .cons (dstB_ok h1) (fun bits hbits => ?_) (AbW.toM hne hb h7)
  rw [(consW hne hb hbits).1 h2]
  have e : setB [e1, e2] k [false, false] = [true, false] := by subst h2; simp [setB, Ne.symm hne]
  rw [e]
  exact h3
 | k, _, _, _, .eff1 h1 h2 h3 h4 h7 => by
  simp only [beq_iff_eq] at h2
  refine .cons (dstB_ok h1) (fun bits hbits => ?_) (AbW.toM hne hb h7)
  rw [(consW hne hb hbits).1 h2]
  have e : setB [e1, e2] k [false, false] = [true, false] := by subst h2; simp [setB, Ne.symm hne]
  rw [e]
  exact (effA_at h3 h4).stepAt rfl
 | k, _, _, _, .eff2 h1 h2 h3 h4 h7 => by
  simp only [beq_iff_eq] at h2
  refine .cons (dstB_ok h1) (fun bits hbits => ?_) (AbW.toM hne hb h7)
  rw [(consW hne hb hbits).2.1 h2]
  have e : setB [e1, e2] k [true, false] = [true, true] := by subst h2; simp [setB]
  rw [e]
  exact (effA_at h3 h4).stepAt rfl
theorem Wp.runW {r : Option Nat} {Q : Exit → S → Prop} {s : S} {id : Nat} {ops : List Oper} {gds : List (Option Nat)} {t1 : List (Nat × AV)} (e1 e2 : Nat) (f : Mem → Mem) {m2 : Mem} (hm : P.follows .mixedOrders = true) (hg : ops.map (·.dst) = gds) (hB : gds.all (dstB s.n) = true) (hord : ordB gds ops ops.length = true)
  (hw : (decide (e1 < ops.length) && decide (e2 < ops.length) && decide (e1 ≠ e2) && before ops e1 e2) = true) (habs : AbW P gds ops s.n e1 e2 s.m (f s.m) m2 0 ops s.t t1) (h : Q .normal ⟨t1, m2, s.n, s.d⟩) : Wp P r (.region id ops.toArray true) Q s := by
 simp only [Bool.and_eq_true, decide_eq_true_eq] at hw
 obtain ⟨⟨⟨q1, q2⟩, q3⟩, q4⟩ := hw
 refine Wp.runM [e1, e2] (memW s.m (f s.m) m2) (t1 := t1) hm hg hB hord (by simp [q1, q2]) rfl (AbW.toM q3 q4 habs) ?_
 exact h
end Go.Vg
namespace Go.Vg
open Go.RowKit
variable {P : Program} {X : Nat → Prop} {w : World} {ρ : Rho}
def apnA (P : Program) (E : Operand → AV) (op : Op) : Option (Nat × List AV × Prop) :=
 match op with
 | .call c =>
  match c.callee with
  | .builtin .append =>
   match c.args.toList, c.argTypes.toList with
   | [d, x], [t, u] =>
    match E d, E x with
    | .emp, .lst sz' new =>
     match uk P t, uk P u with
     | .slice e, .slice _ =>
      match tsz P e, tby P e with
      | some sz, some by_ => if elB P e = true then some (sz, new, new.length * by_ ≤ 140737488355328 ∧ new.length ≤ 9223372036854775807 ∧ (new ≠ [] → sz' = sz)) else none
      | _, _ => none
     | _, _ => none
    | _, _ => none
   | _, _ => none
  | _ => none
 | _ => none
theorem app_at {m : Mem} (hi : Inv X w ρ m) {id ver : Nat} {k0 : Kind} (hid : m[id]? = some ⟨ver, k0⟩) {t u ty e e' : TypeId} {sz by_ sz' : Nat} {new : List AV} {vd vx : Value} (hd : R X w ρ .emp vd) (hx : R X w ρ (.lst sz' new) vx)
  (hut : uk P t = .slice e) (huu : uk P u = .slice e') (hsz : tsz P e = some sz) (hby : tby P e = some by_) (hel : elB P e = true) (hb : new.length * by_ ≤ 140737488355328) (hm : new.length ≤ 9223372036854775807) (hss : new ≠ [] → sz' = sz) :
  ∃ v w' ρ', (Builtin.append_ #[t, u] ty #[vd, vx]).run P w = .ok v w' ∧ Tr w ρ w' ρ' ∧ Inv X w' ρ' (m.set id ⟨ver + 1, .row sz new⟩) ∧ R X w' ρ' (.osl id (ver + 1) 0 new.length) v := by
 obtain ⟨i, z, hinfo, hz, hzs, hpos⟩ := elB_some hel
 obtain ⟨i', hi', hsz'⟩ := tsz_some hsz
 rw [hinfo] at hi'; cases hi'
 have hby' := tby_some hby hinfo
 have src : ∃ A c vs, vx = .slice A new.length c ∧ vs.length = new.length * sz ∧ (vs ≠ [] → ∃ b o, A = some ⟨b, o, none⟩ ∧ ∀ j v, vs[j]? = some v → w.cell? ⟨b, o + j, none⟩ = some v) ∧ (∀ v ∈ vs, v.oneCell' = true) ∧
   ∀ {w' : World} {ρ' : Rho} {b' o' : Nat}, Kp X w ρ w' ρ' → (∀ j v, vs[j]? = some v → w'.cell? ⟨b', o' + j, none⟩ = some v) → Rrow X w' ρ' new sz b' o' := by
  obtain ⟨A, c, vs, e1, _, _, e4, e5, e6, e7⟩ := rowOf_vals (m := m) hi hx (sz := sz') (l := new) rfl (fun id ver off len hxe e he => by cases hxe)
  by_cases hne : new = []
  ·subst hne
   simp at e4
   exact ⟨A, c, vs, e1, by simp [e4], e5, e6, fun _ _ => trivial⟩
  ·have := hss hne; subst this
   exact ⟨A, c, vs, e1, e4, e5, e6, e7⟩
 obtain ⟨A, rfl⟩ := hd
 obtain ⟨A', c', vs, rfl, e2, e3, e4, e5⟩ := src
 have hidl : id < ρ.length := by rw [hi.len]; exact (List.getElem?_eq_some_iff.1 hid).1
 have h0 : ρ[id]? = some ρ[id] := List.getElem?_eq_getElem hidl
 obtain ⟨hv, _⟩ := hi.at_ id _ _ h0 hid
 simp only at hv
 have hrun := append_run (P := P) (w := w) (ty := ty) (uk_slice hut) (uk_slice huu) hinfo hz hzs (A := A) (A' := A') (len := 0) (c := 0) (n := new.length) (c' := c') (olds := []) (news := vs) (by simp) (by rw [hsz']; exact e2) (fun h => absurd rfl h) e3 (by rw [hby']; simpa using hb) (by simp only [maxLen]; omega)
 rcases hrun with ⟨h0', hr⟩ | ⟨_, cap, w', hr, h1, h2, h3, h4, h5, rest, h6, h7⟩
 ·have hl0 : new.length = 0 := by omega
  have hn0 : new = [] := List.eq_nil_of_length_eq_zero hl0
  subst hn0
  have hv0 : vs = [] := List.eq_nil_of_length_eq_zero (by simpa using e2)
  subst hv0
  have hr' := hr w (by cases A with | none => rfl | some a => rfl)
  obtain ⟨k1, k2⟩ := hi.renew h0 (r' := ⟨ver + 1, none, 0, 0, sz⟩) (w' := w) (k := .row sz []) rfl rfl rfl (Nat.le_refl _) (by rw [hv]) (fun _ _ _ => rfl) (fun b h => by cases h) (fun ρ' _ _ => ⟨rfl, fun _ => rfl, fun b h => by cases h⟩)
  rw [hv] at k2
  exact ⟨_, w, _, hr', k1, k2, A, 0, ⟨ver + 1, none, 0, 0, sz⟩, by simp, by rw [List.getElem?_set_self hidl], Nat.le_refl _, fun _ => ⟨by simp, Nat.zero_le _, fun h => absurd h (Nat.lt_irrefl 0)⟩⟩
 ·obtain ⟨r, ρ', q0, q1, q2, q3, q4, q5, q6, q7⟩ := newBlockAt hi hid (w' := w') (sz := sz) (l := new) (vs := vs) (e := e) h7 h3 h4 h5 e2 (fun j v hj => by
   have : j < vs.length := (List.getElem?_eq_some_iff.1 hj).1
   rw [Array.getElem?_append_left (by simpa using this)]
   simpa using hj) e5
  refine ⟨_, w', ρ', hr, q6, q7, some ⟨w.heap.size, 0, none⟩, cap, r, by simp, q0, by omega, fun _ => ⟨by simpa using h1, h2, fun hp => ⟨w.heap.size, q2, by rw [q3]; simp, ?_⟩⟩⟩
  rw [q3, q4, q5]
  simp only [List.nil_append, Array.size_append, List.size_toArray, h6, e2, hsz', Nat.zero_add]
  rw [← Nat.add_mul]
  exact Nat.mul_le_mul_right _ (by omega)
theorem apnA_step {gds : List (Option Nat)} {t : List (Nat × AV)} {m : Mem} {dst : Option Nat} {op : Op} {type : TypeId} {pos : String} {after : Array Edge} {sz : Nat} {l : List AV} {p : Prop} (h : apnA P (evo t) op = some (sz, l, p)) (hp : p) {id ver : Nat} {k0 : Kind} (hid : m[id]? = some ⟨ver, k0⟩) :
  StepAt P gds t m ⟨dst, op, type, pos, after, none⟩ (m.set id ⟨ver + 1, .row sz l⟩) (alcV id (ver + 1) (some l.length)) := by
 unfold apnA at h
 split at h <;> (try (cases h; done))
 rename_i c
 split at h <;> (try (cases h; done))
 rename_i hc
 split at h <;> (try (cases h; done))
 rename_i d y t0 u hargs htys
 split at h <;> (try (cases h; done))
 rename_i sz' new hd hy
 split at h <;> (try (cases h; done))
 rename_i e e' hut huu
 split at h <;> (try (cases h; done))
 rename_i sz0 by_ hsz hby
 split at h <;> (try (cases h; done))
 rename_i hel
 simp only [Option.some.injEq, Prod.mk.injEq] at h
 obtain ⟨rfl, rfl, rfl⟩ := h
 obtain ⟨hb, hm, hss⟩ := hp
 have e1 : c.args = #[d, y] := by apply Array.ext'; simpa using hargs
 have e2 : c.argTypes = #[t0, u] := by apply Array.ext'; simpa using htys
 refine ⟨fun c' e => (by simp at e), fun X w ρ a hi hr hn => ⟨fun _ => .inr ?_, fun hw => (by simp [Region.wanted] at hw)⟩⟩
 have ho := evo_of (op := .call c) (fun n hn => hr n (.inr hn))
 have hd' := ho d (by simp [Op.operands, Call.operands, e1, hc])
 have hy' := ho y (by simp [Op.operands, Call.operands, e1, hc])
 rw [hd] at hd'
 rw [hy] at hy'
 obtain ⟨v, w', ρ', q1, q2, q3, q4⟩ := app_at (P := P) (ty := type) hi hid hd' hy' hut huu hsz hby hel hb hm hss
 exact .inl ⟨v, w', by unfold execOp; simp [resolve, hc, invoke, builtin, e1, e2, q1], ρ', q4, q3, q2⟩
theorem zip_snoc {α β : Type} {es : List α} {bits : List β} (h : bits.length = es.length) (K : α) (b : β) : (es ++ [K]).zip (bits ++ [b]) = es.zip bits ++ [(K, b)] := by
 rw [List.zip_append h.symm]; rfl
theorem consL_snoc {ops : List Oper} {es : List Nat} {K k : Nat} {bits : List Bool} (h : bits ∈ consL ops (es ++ [K]) k) : ∃ bs b, bits = bs ++ [b] ∧ bs ∈ consL ops es k ∧ (k = K → b = false) ∧ (before ops k K = true → before ops K k = false → k ≠ K → b = false) ∧ (∀ e ∈ es.zip bs, e.1 ≠ k → before ops e.1 k = true → e.2 = true) := by
 obtain ⟨h1, h2⟩ := List.mem_filter.1 h
 have hl := allB_len h1
 rw [List.length_append, List.length_singleton] at hl
 have hne : bits ≠ [] := fun e => by subst e; simp at hl
 obtain ⟨bs, b, rfl⟩ : ∃ bs b, bits = bs ++ [b] := ⟨bits.dropLast, bits.getLast hne, (List.dropLast_concat_getLast hne).symm⟩
 have hbl : bs.length = es.length := by simpa using hl
 unfold consB at h2
 rw [zip_snoc hbl, List.all_append, Bool.and_eq_true] at h2
 obtain ⟨h3, h4⟩ := h2
 simp only [List.all_cons, List.all_nil, Bool.and_true, Bool.and_eq_true] at h4
 refine ⟨bs, b, rfl, ?_, ?_, ?_, ?_⟩
 ·refine List.mem_filter.2 ⟨by rw [← hbl]; exact allB_mem bs, ?_⟩
  unfold consB
  rw [List.all_eq_true] at h3 ⊢
  intro e he
  have := h3 e he
  simp only [Bool.and_eq_true, Bool.or_eq_true, List.all_append] at this ⊢
  exact ⟨this.1, this.2.imp id fun q => q.1⟩
 ·intro he
  subst he
  have := h4.1
  simpa using this
 ·intro q1 q2 q3
  have := h4.1
  rw [if_neg (Ne.symm q3), q2, q1] at this
  simpa using this
 ·intro e he hne hb
  rw [List.all_eq_true] at h3
  have := h3 e he
  simp only [Bool.and_eq_true] at this
  have := this.1
  rw [if_neg hne, hb] at this
  simpa using this
theorem setB_snoc {es : List Nat} {K k : Nat} {bs : List Bool} {b : Bool} (hl : bs.length = es.length) : setB (es ++ [K]) k (bs ++ [b]) = setB es k bs ++ [decide (K = k) || b] := by
 unfold setB
 rw [zip_snoc hl, List.map_append]; rfl
def memE (n : Nat) (mem : List Bool → Mem) (m2 : Mem) (bits : List Bool) : Mem :=
 if bits.getD n false = true then m2 else mem (bits.take n)
theorem memE_f {n : Nat} {mem : List Bool → Mem} {m2 : Mem} {bs : List Bool} (hl : bs.length = n) : memE n mem m2 (bs ++ [false]) = mem bs := by
 subst hl
 simp [memE]
theorem memE_t {n : Nat} {mem : List Bool → Mem} {m2 : Mem} {bs : List Bool} (hl : bs.length = n) : memE n mem m2 (bs ++ [true]) = m2 := by
 subst hl
 simp [memE]
theorem AbsM.ext {gds : List (Option Nat)} {ops : List Oper} {es : List Nat} {mem : List Bool → Mem} {n K : Nat} {m2 : Mem} (hbef : ∀ j, j < K → before ops j K = true ∧ before ops K j = false) {l2 : List Oper} {t2 : List (Nat × AV)} : ∀ {k : Nat} {l : List Oper} {t t' : List (Nat × AV)}, AbsM P gds ops es mem n k l t t' → k + l.length ≤ K →
  AbsM P gds ops (es ++ [K]) (memE es.length mem m2) n (k + l.length) l2 t' t2 → AbsM P gds ops (es ++ [K]) (memE es.length mem m2) n k (l ++ l2) t t2
 | k, _, _, _, .nil, _, h2 => by simpa using h2
 | k, _, _, _, .cons (l := l) h1 h2 h3, hk, h4 => by
  simp only [List.length_cons] at hk h4
  refine .cons h1 (fun bits hb => ?_) (AbsM.ext hbef h3 (by omega) (by rw [show k + 1 + l.length = k + (l.length + 1) by omega]; exact h4))
  obtain ⟨bs, b, rfl, q1, _, q3, _⟩ := consL_snoc hb
  have hbl : bs.length = es.length := allB_len (List.mem_filter.1 q1).1
  obtain ⟨w1, w2⟩ := hbef k (by omega)
  have := q3 w1 w2 (by omega)
  subst this
  rw [setB_snoc hbl, show (decide (K = k) || false) = false by simp; omega, memE_f hbl, memE_f (by unfold setB; simp; omega)]
  exact h2 bs q1
theorem Wp.runVE (K : Nat) {r : Option Nat} {Q : Exit → S → Prop} {s : S} {id : Nat} {ops : List Oper} {gds : List (Option Nat)} {pre : List Oper} {dst : Option Nat} {op : Op} {type : TypeId} {pos : String} {after : Array Edge} {t1 : List (Nat × AV)} {es : List (Nat × Nat × List AV)} {m2 : Mem} {x : AV} {p : Prop} (hm : P.follows .mixedOrders = true) (hg : ops.map (·.dst) = gds) (hB : gds.all (dstB s.n) = true) (hord : ordB gds ops ops.length = true)
  (hpre : ops.take K = pre) (hla : ops.drop K = [⟨dst, op, type, pos, after, none⟩]) (hbef : (List.range pre.length).all (fun j => before ops j pre.length && !before ops pre.length j) = true)
  (habs : AbsV P gds s.m s.n 0 pre s.t 0 t1 es) (hd : dstB s.n dst = true) (heff : effA P (evo t1) (s.m ++ es.map (fun e => ⟨1, .row e.2.1 e.2.2⟩)) op = some (m2, x, p)) (hp : p) (h : Q .normal ⟨upd t1 dst x, m2, s.n, s.d⟩) : Wp P r (.region id ops.toArray true) Q s := by
 have hsp : ops = pre ++ [⟨dst, op, type, pos, after, none⟩] := by rw [← hpre, ← hla, List.take_append_drop]
 have hbef' : ∀ j, j < pre.length → before ops j pre.length = true ∧ before ops pre.length j = false := fun j hj => by
  have := List.all_eq_true.1 hbef j (List.mem_range.2 hj)
  simpa using this
 have hlow : ∀ e ∈ es, e.1 < pre.length := fun e he => by have := habs.lower e he; omega
 refine Wp.vacs es.length ?_
 refine Wp.runM (es.map (·.1) ++ [pre.length]) (memE (es.map (·.1)).length (fun bits => s.m ++ layV es bits) m2) (t1 := upd t1 dst x) hm hg hB hord ?_ ?_ ?_ ?_
 ·rw [List.all_eq_true]
  intro e he
  rcases List.mem_append.1 he with he | he
  ·obtain ⟨e', he', rfl⟩ := List.mem_map.1 he
   have := hlow e' he'
   rw [hsp]
   simp only [decide_eq_true_eq, List.length_append, List.length_singleton]; omega
  ·simp only [List.mem_singleton] at he
   subst he
   rw [hsp]
   simp
 ·rw [List.map_append]
  have := memE_f (n := (es.map (·.1)).length) (mem := fun bits => s.m ++ layV es bits) (m2 := m2) (bs := (es.map (·.1)).map fun _ => false) (by simp)
  rw [show List.map (fun _ => false) [pre.length] = [false] from rfl, this]
  have := layV_none es
  simp only [List.map_map]
  rw [show (es.map ((fun _ => false) ∘ fun x => x.1)) = es.map fun _ => false from rfl, this]
  rfl
 ·have h1 := AbsV.toM (ops := ops) (all := es) habs.uniq habs (by simp) (fun i e hi hij => by omega)
  have h2 : AbsM P gds ops (es.map (·.1) ++ [pre.length]) (memE (es.map (·.1)).length (fun bits => s.m ++ layV es bits) m2) s.n (0 + pre.length) [⟨dst, op, type, pos, after, none⟩] t1 (upd t1 dst x) := by
   refine .cons (dstB_ok hd) (fun bits hb => ?_) .nil
   rw [Nat.zero_add] at hb ⊢
   obtain ⟨bs, b, rfl, q1, q2, _, q4⟩ := consL_snoc hb
   have hbl : bs.length = (es.map (·.1)).length := allB_len (List.mem_filter.1 q1).1
   have := q2 rfl
   subst this
   have hall : bs = es.map fun _ => true := by
    refine List.ext_getElem? fun i => ?_
    rcases Nat.lt_or_ge i bs.length with hi | hi
    ·have hi' : i < es.length := by simpa [hbl] using hi
     have hz : ((es.map (·.1)).zip bs)[i]? = some (es[i].1, bs[i]) := by
      rw [List.getElem?_zip_eq_some]
      exact ⟨by simp [hi'], List.getElem?_eq_getElem hi⟩
     have hlt := hlow es[i] (List.getElem_mem hi')
     have := q4 _ (List.mem_of_getElem? hz) (by simp only; omega) (hbef' _ hlt).1
     simp only at this
     rw [List.getElem?_eq_getElem hi, this]
     simp [hi']
    ·rw [List.getElem?_eq_none hi, List.getElem?_eq_none (by simpa [hbl] using hi)]
   rw [setB_snoc hbl, memE_f hbl, show (decide (pre.length = pre.length) || false) = true by simp, memE_t (by unfold setB; simp at hbl ⊢; omega)]
   rw [hall, layV_all]
   exact (effA_at heff hp).stepAt rfl
  have h3 := AbsM.ext hbef' h1 (by omega) h2
  rw [← hsp] at h3
  exact h3
 ·rw [List.map_append]
  have := memE_t (n := (es.map (·.1)).length) (mem := fun bits => s.m ++ layV es bits) (m2 := m2) (bs := (es.map (·.1)).map fun _ => true) (by simp)
  rw [show List.map (fun _ => true) [pre.length] = [true] from rfl, this]
  exact h
attribute [push_cast] apnA
end Go.Vg
