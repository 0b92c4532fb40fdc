/- The abstract machine, part Dm: a region that draws its order, whose operations write or make memory: what the memory is stands for each set of those that are listed. -/
import Derived.Test.YtljchlkmalidnaaVgY
import Derived.Test.YtljchlkmalidnaaVgV
set_option linter.all false
set_option linter.unusedVariables false
namespace Go.Vg
open Go.RowKit
variable {P : Program} {X : Nat → Prop} {w : World} {ρ : Rho}

/-- what one operation does at these temporaries and this memory -/
def StepAt (P : Program) (gds : List (Option Nat)) (t : List (Nat × AV)) (m : Mem) (o : Oper) (m1 : Mem) (x : AV) : Prop :=
  (∀ c, o.op ≠ .defer c) ∧
  ∀ (X : Nat → Prop) (w : World) (ρ : Rho) (a : Act), Inv X w ρ m → (∀ n, n ∈ gnames gds o.guard ∨ n ∈ onames o.op → R X w ρ (look t n) (a.tmps.getD n undef)) → (∀ n ∈ gnames gds o.guard, n < a.tmps.size) →
    (Region.wanted o (yieldedG gds a.tmps) = true → (∃ w' ρ', (execOp a.eval o).run P w = .ok .skip w' ∧ R X w' ρ' x undef ∧ Inv X w' ρ' m1 ∧ Tr w ρ w' ρ') ∨ Gives P o a w fun v w' => ∃ ρ', R X w' ρ' x v ∧ Inv X w' ρ' m1 ∧ Tr w ρ w' ρ') ∧
    (Region.wanted o (yieldedG gds a.tmps) = false → R X w ρ x undef ∧ m1 = m)
theorem Yield.stepAt {gds : List (Option Nat)} {t : List (Nat × AV)} {m : Mem} {o : Oper} {x : AV} (h : Yield P gds t m o x) : StepAt P gds t m o m x := by
  refine ⟨h.1, fun X w ρ a hi hr hn => ?_⟩
  obtain ⟨h1, h2⟩ := h.2 X w ρ a hi hr hn
  refine ⟨fun hw => .inr ?_, fun hw => ⟨h2 hw, rfl⟩⟩
  rcases h1 hw with ⟨v, w', q1, q2⟩ | ⟨f, args, q1, q2⟩
  · exact .inl ⟨v, w', q1, ρ, q2⟩
  · exact .inr ⟨f, args, q1, q2.mono fun e w' ⟨v, e1, q⟩ => ⟨v, e1, ρ, q⟩⟩
theorem EffAt.stepAt {gds : List (Option Nat)} {t : List (Nat × AV)} {m m1 : Mem} {o : Oper} {x : AV} (hg : o.guard = none) (h : EffAt P t m o m1 x) : StepAt P gds t m o m1 x := by
  refine ⟨h.1, fun X w ρ a hi hr hn => ⟨fun _ => ?_, fun hw => (by simp [Region.wanted, hg] at hw)⟩⟩
  obtain ⟨v, w', ρ', h1, h2, h3, h4⟩ := h.2 X w ρ a hi (evo_of fun n hn => hr n (.inr hn))
  rcases h1 with h1 | ⟨h1, rfl⟩
  · exact .inr (.inl ⟨v, w', h1, ρ', h4, h3, h2⟩)
  · exact .inl ⟨w', ρ', h1, h4, h3, h2⟩
theorem StepAt.guardT {gds : List (Option Nat)} {t : List (Nat × AV)} {m m1 : Mem} {dst : Option Nat} {op : Op} {type : TypeId} {pos : String} {after : Array Edge} {g : Nat × Bool} {x : AV} (hg : gval gds t g = some true) (h : StepAt P gds t m ⟨dst, op, type, pos, after, none⟩ m1 x) : StepAt P gds t m ⟨dst, op, type, pos, after, some g⟩ m1 x := by
  refine ⟨h.1, fun X w ρ act hi hr hn => ?_⟩
  have hw := gval_wanted (o := ⟨dst, op, type, pos, after, some g⟩) (a := act) (X := X) (w := w) (ρ := ρ) rfl (fun n hn' => ⟨hr n (.inl hn'), hn n hn'⟩) hg
  rw [hw]
  refine ⟨fun _ => ?_, fun e => (by cases e)⟩
  exact (h.2 X w ρ act hi (fun n hn' => hr n (hn'.elim (fun h => by cases h) .inr)) (fun n hn' => by cases hn')).1 (by simp [Region.wanted])
/-- a call by a contract over our own entries -/
theorem Spec.stepAt {gds : List (Option Nat)} {t : List (Nat × AV)} {m m1 : Mem} {fo : Operand} {args : List Operand} {tys : Array TypeId} {dst : Option Nat} {type : TypeId} {pos : String} {after : Array Edge} {f : FuncId} {caps : List AV} {x : AV}
    (he : Enters P f) (hf : fnOf (evo t fo) = some (f, caps)) (hc : Spec P f (args.map (evo t) ++ caps) m fun y m' => y = x ∧ m' = m1) : StepAt P gds t m ⟨dst, callOp fo args tys, type, pos, after, none⟩ m1 x := by
  refine ⟨fun c e => (by cases e), fun X w ρ a hi hr hn => ⟨fun _ => ?_, fun hw => (by simp [Region.wanted] at hw)⟩⟩
  obtain ⟨h1, h2⟩ := onames_call (fo := fo) (args := args) (tys := tys) (t := t) (a := a) (X := X) (w := w) (ρ := ρ) (fun n hn => hr n (.inr hn))
  obtain ⟨cs, hcs, hcr⟩ := fnOf_rel hf h1
  have hrun := run_call (P := P) (w := w) (o := ⟨dst, callOp fo args tys, type, pos, after, none⟩) rfl hcs he
  refine .inr (.inr ⟨f, _, hrun, ?_⟩)
  refine (hc X w ρ _ hi ((Rvals_map args fun y hy => h2 y hy).append hcr)).mono ?_
  rintro e w' ⟨v, x', m', ρ', rfl, ⟨rfl, rfl⟩, k1, k2, k3⟩
  exact ⟨v, rfl, ρ', k1, k2, k3⟩

/-! which sets of them can be listed when an operation's turn comes -/
def allB : Nat → List (List Bool)
  | 0 => [[]]
  | n + 1 => (allB n).map (false :: ·) ++ (allB n).map (true :: ·)
theorem allB_mem : ∀ (l : List Bool), l ∈ allB l.length
  | [] => by simp [allB]
  | false :: l => by simp [allB, allB_mem l]
  | true :: l => by simp [allB, allB_mem l]
def before (ops : List Oper) (i j : Nat) : Bool := (befL ops j j).contains i
def consB (ops : List Oper) (es : List Nat) (i : Nat) (bits : List Bool) : Bool :=
  (es.zip bits).all fun eb =>
    (if eb.1 = i then !eb.2 else if before ops eb.1 i then eb.2 else if before ops i eb.1 then !eb.2 else true) &&
    (!eb.2 || (es.zip bits).all fun eb' => !before ops eb'.1 eb.1 || eb'.2)
def consL (ops : List Oper) (es : List Nat) (i : Nat) : List (List Bool) := (allB es.length).filter (consB ops es i)
def setB (es : List Nat) (i : Nat) (bits : List Bool) : List Bool := (es.zip bits).map fun eb => decide (eb.1 = i) || eb.2
def bitsOf (es : List Nat) (L : Nat → Bool) : List Bool := es.map L
theorem zip_bits (es : List Nat) (L : Nat → Bool) : es.zip (bitsOf es L) = es.map fun e => (e, L e) := by
  unfold bitsOf
  induction es with
  | nil => rfl
  | cons e es ih => simp only [List.map_cons, List.zip_cons_cons, ih]
theorem setB_bits (es : List Nat) (i : Nat) (L : Nat → Bool) : setB es i (bitsOf es L) = bitsOf es fun j => decide (j = i) || L j := by
  unfold setB
  rw [zip_bits]
  simp only [bitsOf, List.map_map]
  rfl

theorem setB_not {es : List Nat} {k : Nat} (h : es.contains k = false) : ∀ (bits : List Bool), bits.length = es.length → setB es k bits = bits := by
  intro bits hl
  unfold setB
  induction es generalizing bits with
  | nil => cases bits with
    | nil => rfl
    | cons b bs => simp at hl
  | cons e es ih =>
    cases bits with
    | nil => simp at hl
    | cons b bs =>
      simp only [List.contains_cons, Bool.or_eq_false_iff, beq_eq_false_iff_ne] at h
      simp only [List.zip_cons_cons, List.map_cons]
      rw [ih h.2 bs (by simpa using hl)]
      have hne : ¬ e = k := fun he => h.1 he.symm
      simp [hne]
theorem allB_len : ∀ {n : Nat} {l : List Bool}, l ∈ allB n → l.length = n
  | 0, l, h => by simp [allB] at h; subst h; rfl
  | n + 1, l, h => by
    simp only [allB, List.mem_append, List.mem_map] at h
    rcases h with ⟨l', h, rfl⟩ | ⟨l', h, rfl⟩ <;> simp [allB_len h]
/-- the operations, in the order of the text, at each memory that may be there -/
inductive AbsM (P : Program) (gds : List (Option Nat)) (ops : List Oper) (es : List Nat) (mem : List Bool → Mem) (n : Nat) : Nat → List Oper → List (Nat × AV) → List (Nat × AV) → Prop where
  | nil {k : Nat} {t : List (Nat × AV)} : AbsM P gds ops es mem n k [] t t
  | cons {k : Nat} {o : Oper} {l : List Oper} {t t' : List (Nat × AV)} {x : AV} : dstOk n o.dst → (∀ bits ∈ consL ops es k, StepAt P gds t (mem bits) o (mem (setB es k bits)) x) → AbsM P gds ops es mem n (k + 1) l (upd t o.dst x) t' → AbsM P gds ops es mem n k (o :: l) t t'

theorem AbsM.data {gds : List (Option Nat)} {ops0 : List Oper} {es : List Nat} {mem : List Bool → Mem} {n : Nat} : ∀ {ops : List Oper} {t t' : List (Nat × AV)} {k : Nat}, AbsM P gds ops0 es mem n k ops t t' → ∃ (xs : List (Oper × AV)), xs.map (·.1) = ops ∧ t' = V xs (fun _ => true) k t ∧
    ∀ (i : Nat) (ox : Oper × AV), xs[i]? = some ox → dstOk n ox.1.dst ∧ ∀ bits ∈ consL ops0 es (k + i), StepAt P gds (V xs (upto k i) k t) (mem bits) ox.1 (mem (setB es (k + i) bits)) ox.2
  | _, t, _, k, .nil => ⟨[], rfl, rfl, fun i ox h => by simp at h⟩
  | o :: l, t, t', k, .cons (x := x) h1 h2 h3 => by
    obtain ⟨xs, e1, e2, e3⟩ := AbsM.data h3
    refine ⟨(o, x) :: xs, by simp [e1], by rw [e2]; simp [V], fun i ox hi => ?_⟩
    cases i with
    | zero =>
      simp at hi; subst hi
      have hV : V ((o, x) :: xs) (upto k 0) k t = t := V_none _ _ _ _ (fun j _ => by simp [upto])
      rw [hV]
      exact ⟨h1, h2⟩
    | succ i =>
      obtain ⟨q1, q2⟩ := e3 i ox (by simpa using hi)
      have hV : V ((o, x) :: xs) (upto k (i + 1)) k t = V xs (upto (k + 1) i) (k + 1) (upd t o.dst x) := by
        simp only [V]
        have h0 : upto k (i + 1) k = true := by simp [upto]
        rw [h0]
        have hf : upto k (i + 1) = upto (k + 1) i := by funext j; simp only [upto]; congr 1; apply propext; omega
        rw [hf]; rfl
      rw [hV, show k + (i + 1) = k + 1 + i by omega]
      exact ⟨q1, q2⟩

theorem drawnM {id : Nat} {ops : List Oper} {gds : List (Option Nat)} (hg : gds = ops.map (·.dst)) {es : List Nat} {mem : List Bool → Mem} (hes : ∀ e ∈ es, e < ops.length) (hm : P.follows .mixedOrders = true) (hord : ordB gds ops ops.length = true) {s : S} {t1 : List (Nat × AV)}
    (hm0 : mem (es.map fun _ => false) = s.m) (hgo : gdsOk gds s.n) (habs : AbsM P gds ops es mem s.n 0 ops s.t t1)
    {r : Option Nat} {a : Act} {w : World} {ρ : Rho} (hr : Rel X s a w ρ) {Q' : Exit → Act → World → Prop}
    (hQ : ∀ a' w' ρ', Rel X ⟨t1, mem (es.map fun _ => true), s.n, s.d⟩ a' w' ρ' → Tr w ρ w' ρ' → Q' .normal a' w') : (Code.region id ops.toArray true).wpIn (fence r) 0 P Q' a w := by
  obtain ⟨xs, hxs, hs1, hy⟩ := habs.data
  simp only [Nat.zero_add] at hy
  have hxl : xs.length = ops.length := by have := congrArg List.length hxs; simpa using this
  have hops : ∀ (i : Nat) (o : Oper), ops[i]? = some o → ∃ x, xs[i]? = some (o, x) := by
    intro i o ho
    have h1 : (xs.map (·.1))[i]? = some o := by rw [hxs]; exact ho
    rw [List.getElem?_map] at h1
    cases hx : xs[i]? with
    | none => simp [hx] at h1
    | some ox => simp [hx] at h1; exact ⟨ox.2, by rw [← h1]⟩
  have hops' : ∀ (i : Nat) (ox : Oper × AV), xs[i]? = some ox → i < ops.length ∧ ops[i]? = some ox.1 := by
    intro i ox hx
    have hi : i < ops.length := by rw [← hxl]; exact (List.getElem?_eq_some_iff.1 hx).1
    refine ⟨hi, ?_⟩
    have h1 : (xs.map (·.1))[i]? = some ox.1 := by simp [hx]
    rw [hxs] at h1
    exact h1
  have head : ∀ (f : Nat) (listed : Array Bool) (a : Act) (w1 : World) (ρ1 : Rho), HeadInv .any ops.toArray ops.length listed → cnt listed ops.length = f →
      Rel X ⟨V xs (fun j => listed.getD j false) 0 s.t, mem (bitsOf es fun j => listed.getD j false), s.n, s.d⟩ a w1 ρ1 → Tr w ρ w1 ρ1 → wpAnyIn (fence r) 0 P .any ops.toArray Q' f listed a w1 := by
    intro f
    induction f with
    | zero =>
      intro listed a w1 ρ1 inv hc hrel htr
      have hall := cnt_zero hc
      have hsz : listed.size = ops.length := by have := inv.size; simpa using this
      have hall' : ∀ i, i < ops.length → listed.getD i false = true := fun i hi => getD_true_of (by omega) (hall i hi)
      have hnone : Region.ready .any ops.toArray listed = [] := by
        cases hrd : Region.ready .any ops.toArray listed with
        | nil => rfl
        | cons i l =>
          have hi : i ∈ Region.ready .any ops.toArray listed := by rw [hrd]; simp
          obtain ⟨hun, oi, hoi, _⟩ := mem_ready.1 hi
          have hlt := (Array.getElem?_eq_some_iff.1 hoi).1
          have := hall i (by simpa using hlt)
          rw [hun] at this; cases this
      refine ⟨hnone, hQ a w1 ρ1 ?_ htr⟩
      rw [hs1]
      have hbits : bitsOf es (fun j => listed.getD j false) = es.map fun _ => true := List.map_congr_left fun e he => hall' e (hes e he)
      rw [V_all xs _ 0 s.t (fun j hj => by rw [Nat.zero_add]; exact hall' j (by omega)), hbits] at hrel
      rw [V_all xs _ 0 s.t (fun j hj => rfl)]
      exact hrel
    | succ f ih =>
      intro listed a w1 ρ1 inv hc hrel htr
      have hsz : listed.size = ops.length := by have := inv.size; simpa using this
      obtain ⟨i0, hi0, hun0, hlow⟩ := cnt_pos (listed := listed) (n := ops.length) (by omega)
      have hready0 : i0 ∈ Region.ready .any ops.toArray listed := by
        rw [mem_ready]
        refine ⟨hun0, ops[i0], by simp [hi0], fun d hd hb => ?_⟩
        have := ordB_back hord hi0 (List.getElem?_eq_getElem hi0) d hd hb
        exact getD_true_of (by omega) (hlow d.on this)
      refine ⟨fun h0 => (by rw [h0] at hready0; cases hready0), fun i hi => ?_⟩
      obtain ⟨hun, oi, hoi, hall⟩ := mem_ready.1 hi
      have hoi' : ops[i]? = some oi := by simpa using hoi
      have hin : i < ops.length := (List.getElem?_eq_some_iff.1 hoi').1
      obtain ⟨x, hx⟩ := hops i oi hoi'
      obtain ⟨hdst, hstep⟩ := hy i (oi, x) hx
      simp only at hdst hstep
      have agree : ∀ (k : Nat), (k ∈ names gds oi ∨ oi.dst = some k) → ∀ (j : Nat) (ox : Oper × AV), xs[j]? = some ox → ox.1.dst = some k → j ≠ i → listed.getD j false = decide (j < i) := by
        intro k hk j ox hj hd hji
        obtain ⟨hjn, hoj⟩ := hops' j ox hj
        rcases Nat.lt_or_ge j i with hlt | hge
        · have ht : touches gds ox.1 oi = true := by
            simp only [touches, hd, Bool.or_eq_true, beq_iff_eq]
            left
            rcases hk with hk | hk
            · left; simpa using hk
            · right; exact hk
          obtain ⟨d, hd', hb, hon⟩ := ordB_dep hord hin hlt hoj hoi' ht
          have := hall d hd' hb
          rw [hon] at this
          simp [this, hlt]
        · have hlt : i < j := by omega
          have ht : touches gds oi ox.1 = true := by
            simp only [touches, hd, Bool.or_eq_true]
            rcases hk with hk | hk
            · right; simpa using hk
            · left; rw [hk]; simp
          obtain ⟨d, hd', hb, hon⟩ := ordB_dep hord hjn hlt hoi' hoj ht
          cases hlj : listed.getD j false with
          | false => simp; omega
          | true =>
            have := inv.closed j ox.1 (by simpa using hoj) hlj d hd' hb
            rw [hon, getD_both hun] at this
            cases this
      have hnames : ∀ k, k ∈ gnames gds oi.guard ∨ k ∈ onames oi.op → R X w1 ρ1 (look (V xs (upto 0 i) 0 s.t) k) (a.tmps.getD k undef) := by
        intro k hk
        have hk' : k ∈ names gds oi := by simp only [names, List.mem_append]; exact hk
        have e1 : look (V xs (upto 0 i) 0 s.t) k = look (V xs (fun j => listed.getD j false) 0 s.t) k := by
          refine V_congr xs 0 _ _ rfl fun j ox hj hd => ?_
          simp only [Nat.zero_add, upto]
          by_cases hji : j = i
          · subst hji
            rw [getD_both hun]; simp
          · exact (agree k (.inl hk') j ox hj hd hji).symm
        rw [e1]; exact hrel.tmps k
      have hcl : ∀ (j : Nat) (oj : Oper), ops[j]? = some oj → listed.getD j false = true → ∀ d ∈ oj.after, Region.binds .any d = true → listed.getD d.on false = true := fun j oj hj => inv.closed j oj (by simpa using hj)
      have hlist : listed.getD i false = false := getD_both hun
      -- what stands before this one is listed
      have hbef : ∀ e, e ≠ i → before ops e i = true → listed.getD e false = true := by
        intro e hne hb
        have hset : ∀ (j : Nat) (oj : Oper), ops[j]? = some oj → (listed.setIfInBounds i true).getD j false = true → ∀ d ∈ oj.after, Region.binds .any d = true → (listed.setIfInBounds i true).getD d.on false = true := by
          intro j oj hj hl d hd hbd
          by_cases hji : j = i
          · subst hji
            rw [hoi'] at hj; cases hj
            have h5 := hall d hd hbd
            have hne' : d.on ≠ j := fun he => by rw [he, hlist] at h5; cases h5
            rw [getD_set_ne false (Ne.symm hne')]; exact h5
          · rw [getD_set_ne false (Ne.symm hji)] at hl
            have h5 := hcl j oj hj hl d hd hbd
            have hne' : d.on ≠ i := fun he => by rw [he, hlist] at h5; cases h5
            rw [getD_set_ne false (Ne.symm hne')]; exact h5
        have h6 := befL_listed hset (e := i) (by have : i < listed.size := by omega
                                                 simp [this]) i e (by unfold before at hb; simpa using hb)
        rw [getD_set_ne false (Ne.symm hne)] at h6
        exact h6
      have hcons : bitsOf es (fun j => listed.getD j false) ∈ consL ops es i := by
        unfold consL
        rw [List.mem_filter]
        refine ⟨?_, ?_⟩
        · have := allB_mem (bitsOf es fun j => listed.getD j false)
          rwa [show (bitsOf es fun j => listed.getD j false).length = es.length by simp [bitsOf]] at this
        · unfold consB
          rw [zip_bits]
          simp only [List.all_eq_true, List.mem_map, forall_exists_index, and_imp, forall_apply_eq_imp_iff₂, Bool.and_eq_true, Bool.or_eq_true, Bool.not_eq_true']
          intro e he
          refine ⟨?_, ?_⟩
          · split
            · rename_i h; subst h; rw [hlist]; rfl
            · rename_i hne
              split
              · rename_i h; exact hbef e hne h
              · split
                · rename_i h
                  cases hle : listed.getD e false with
                  | false => rfl
                  | true =>
                    have := befL_listed hcl hle e i (by unfold before at h; simpa using h)
                    rw [hlist] at this; cases this
                · rfl
          · cases hle : listed.getD e false with
            | false => left; rfl
            | true =>
              right
              intro e' he'
              cases hb : before ops e' e with
              | false => left; rfl
              | true => right; exact befL_listed hcl hle e e' (by unfold before at hb; simpa using hb)
      have hst := hstep _ hcons
      rw [setB_bits] at hst
      have hbits : (bitsOf es fun j => decide (j = i) || listed.getD j false) = bitsOf es fun j => (listed.setIfInBounds i true).getD j false := by
        refine List.map_congr_left fun e he => ?_
        by_cases hei : e = i
        · subst hei
          have : e < listed.size := by omega
          simp [this]
        · rw [getD_set_ne false (Ne.symm hei)]; simp [hei]
      rw [hbits] at hst
      -- the new list
      have next : ∀ (v : Value) (w2 : World) (ρ2 : Rho), R X w2 ρ2 x v → Inv X w2 ρ2 (mem (bitsOf es fun j => (listed.setIfInBounds i true).getD j false)) → Tr w1 ρ1 w2 ρ2 → wpAnyIn (fence r) 0 P .any ops.toArray Q' f (listed.setIfInBounds i true) (a.put oi.dst v) w2 := by
        intro v w2 ρ2 hxv hinv htr2
        refine ih _ _ _ ρ2 (inv.set hi hin) (by have := cnt_set hun ops.length hin; omega) ?_ (htr.trans htr2)
        have hrel2 := hrel.step htr2 hinv
        have hrel3 := hrel2.put (d := oi.dst) (x := x) (v := v) hdst hxv
        rw [S.put_eq] at hrel3
        refine ⟨fun k => ?_, hrel3.size, hrel3.inv, hrel3.defers⟩
        · have h3 := hrel3.tmps k
          have e1 : look (V xs (fun j => (listed.setIfInBounds i true).getD j false) 0 s.t) k = look (upd (V xs (fun j => listed.getD j false) 0 s.t) oi.dst x) k := by
            have hset : ∀ j, j ≠ i → (listed.setIfInBounds i true).getD j false = listed.getD j false := fun j hj => getD_set_ne false (Ne.symm hj)
            have hseti : (listed.setIfInBounds i true).getD i false = true := by
              have : i < listed.size := by omega
              simp [this]
            by_cases hd : oi.dst = some k
            · rw [hd, look_upd_eq]
              have e2 : look (V xs (fun j => (listed.setIfInBounds i true).getD j false) 0 s.t) k = look (V xs (upto 0 (i + 1)) 0 s.t) k := by
                refine V_congr xs 0 _ _ rfl fun j ox hj hdj => ?_
                simp only [Nat.zero_add, upto]
                by_cases hji : j = i
                · subst hji; rw [hseti]; simp
                · rw [hset j hji, agree k (.inr hd) j ox hj hdj hji]
                  congr 1; apply propext; omega
              rw [e2]
              exact V_last xs 0 i s.t k oi x hx hd
            · rw [look_upd_ne hd]
              refine V_congr xs 0 _ _ rfl fun j ox hj hdj => ?_
              simp only [Nat.zero_add]
              refine hset j fun hji => ?_
              subst hji
              rw [hx] at hj
              cases hj
              exact hd hdj
          rw [e1]; exact h3
      unfold wpOpIn
      simp only [hoi]
      have hyg : yieldedG gds a.tmps = yielded ops.toArray a.tmps := by rw [← yieldedG_eq]; simp [hg]
      rw [← hyg]
      obtain ⟨k1, k2⟩ := hst.2 X w1 ρ1 a hrel.inv hnames (fun k hk => by have := hrel.size; simp only at this; rw [this]; exact gnames_lt hgo oi.guard k hk)
      split
      · rename_i hwd
        refine ⟨fun _ _ => trivial, ?_⟩
        rw [Oper.semAt_eq _ _ _ hst.1]
        rcases k1 hwd with ⟨w', ρ', q1, q2, q3, q4⟩ | ⟨v, w', q1, ρ', q2, q3, q4⟩ | ⟨f', args, q1, q2⟩
        · rw [q1]; exact next undef w' ρ' q2 q3 q4
        · rw [q1]; exact next v w' ρ' q2 q3 q4
        · rw [q1]
          refine ⟨fun h => (by cases h), callsIn_fence (q2.mono ?_)⟩
          rintro e w' ⟨v, rfl, ρ', q2, q3, q4⟩
          exact next v w' ρ' q2 q3 q4
      · rename_i hwd
        obtain ⟨q1, q2⟩ := k2 (by simpa using hwd)
        exact ⟨fun _ _ => trivial, next undef w1 ρ1 q1 (by rw [q2]; exact hrel.inv) (Tr.refl w1 ρ1)⟩
  refine wpIn_region_any hm ?_
  have hdrew : Tr w ρ { w with drawn := w.drawn + 1 } ρ := ⟨rfl, rfl, rfl, Nat.le_refl _, fun _ r h => ⟨r, h, Nat.le_refl _, fun _ => rfl⟩, fun _ h _ => ⟨h, rfl⟩⟩
  have hb0 : bitsOf es (fun j => (Array.replicate ops.length false).getD j false) = es.map fun _ => false := List.map_congr_left fun e he => getD_replicate_false _ _
  have hrel0 : Rel X ⟨V xs (fun j => (Array.replicate ops.length false).getD j false) 0 s.t, mem (bitsOf es fun j => (Array.replicate ops.length false).getD j false), s.n, s.d⟩ a { w with drawn := w.drawn + 1 } ρ := by
    rw [V_none xs _ 0 s.t (fun j _ => by rw [Nat.zero_add]; exact getD_replicate_false _ _), hb0, hm0]
    have hi : Inv X { w with drawn := w.drawn + 1 } ρ s.m := hr.inv.same rfl
    exact hr.step hdrew hi
  have inv0 : HeadInv .any ops.toArray ops.length (Array.replicate ops.length false) :=
    ⟨by simp, fun j oj _ hl => (by rw [getD_replicate_false] at hl; cases hl), fun t _ ht => getD_in (by simpa using ht) (getD_replicate_false _ _)⟩
  have hcnt : ∀ k, k ≤ ops.length → cnt (Array.replicate ops.length false) k = k := by
    intro k
    induction k with
    | zero => intro _; rfl
    | succ k ih =>
      intro hk
      simp only [cnt]
      rw [ih (by omega)]
      have : (Array.replicate ops.length false).getD k true = false := getD_in (by simp; omega) (getD_replicate_false _ _)
      simp [this]
  have := head ops.length _ a _ ρ inv0 (hcnt _ (Nat.le_refl _)) hrel0 hdrew
  simpa using this

theorem Wp.runM {r : Option Nat} {Q : Exit → S → Prop} {s : S} {id : Nat} {ops : List Oper} {gds : List (Option Nat)} (es : List Nat) (mem : List Bool → Mem) {t1 : List (Nat × AV)} (hm : P.follows .mixedOrders = true) (hg : ops.map (·.dst) = gds) (hB : gds.all (dstB s.n) = true)
    (hord : ordB gds ops ops.length = true) (hes : es.all (fun e => decide (e < ops.length)) = true) (hm0 : mem (es.map fun _ => false) = s.m) (habs : AbsM P gds ops es mem s.n 0 ops s.t t1) (h : Q .normal ⟨t1, mem (es.map fun _ => true), s.n, s.d⟩) : Wp P r (.region id ops.toArray true) Q s := by
  have hgd : ∀ d ∈ gds, dstOk s.n d := fun d hd => dstB_ok (List.all_eq_true.1 hB d hd)
  intro X a w ρ hr
  refine drawnM (P := P) hg.symm (fun e he => by simpa using List.all_eq_true.1 hes e he) hm hord hm0 hgd habs hr ?_
  intro a' w' ρ' h1 h2
  exact ⟨_, ρ', h, h1, h2⟩

/-! new memory, laid into an entry that stands already -/
theorem newBlockAt {m : Mem} (hi : Inv X w ρ m) {id v : Nat} {k0 : Kind} (hid : m[id]? = some ⟨v, k0⟩) {sz : Nat} {l : List AV} {arr : Array Value} {vs : List Value} {e : TypeId} {w' : World} (hh : w'.heap = w.heap.push (.cells arr e)) (hos : w'.os = w.os) (htp : w'.tape = w.tape) (hou : w'.output = w.output)
    (hlen : vs.length = l.length * sz) (hvs : ∀ (j : Nat) (v : Value), vs[j]? = some v → arr[j]? = some v) (hR : ∀ {w' : World} {ρ' : Rho} {b' o' : Nat}, Kp X w ρ w' ρ' → (∀ j v, vs[j]? = some v → w'.cell? ⟨b', o' + j, none⟩ = some v) → Rrow X w' ρ' l sz b' o') :
    ∃ (r : RE) (ρ' : Rho), ρ'[id]? = some r ∧ r.ver = v + 1 ∧ r.blk = some w.heap.size ∧ r.base = 0 ∧ r.size = arr.size ∧ r.sz = sz ∧ Tr w ρ w' ρ' ∧ Inv X w' ρ' (m.set id ⟨v + 1, .row sz l⟩) := by
  have hnew : w'.heap[w.heap.size]? = some (.cells arr e) := by rw [hh]; simp
  have hcell : ∀ o, w'.cell? ⟨w.heap.size, o, none⟩ = arr[o]? := fun o => by simp [World.cell?, hnew]
  have hle : vs.length ≤ arr.size := by
    rcases Nat.eq_zero_or_pos vs.length with h | h
    · omega
    · have h1 := hvs (vs.length - 1) _ (List.getElem?_eq_getElem (by omega))
      have := (Array.getElem?_eq_some_iff.1 h1).1
      omega
  have hidl : id < ρ.length := by rw [hi.len]; exact (List.getElem?_eq_some_iff.1 hid).1
  have h0 : ρ[id]? = some ρ[id] := List.getElem?_eq_getElem hidl
  obtain ⟨hv, _⟩ := hi.at_ id _ _ h0 hid
  simp only at hv
  obtain ⟨h1, h2⟩ := hi.renew h0 (r' := ⟨ρ[id].ver + 1, some w.heap.size, 0, arr.size, sz⟩) (w' := w') (k := .row sz l) hos htp hou (by rw [hh]; simp) rfl
    (fun b hb _ => by rw [hh]; simp [Array.getElem?_push_lt hb, hb]) (fun b hb => by cases hb; exact ⟨.inr (Nat.le_refl _), by rw [hh]; simp⟩) (fun ρ' he ht => by
      refine ⟨rfl, fun h => (by cases h), fun b hb => ?_⟩
      cases hb
      refine ⟨⟨arr, e, (0, 0), hnew, rfl, by simp, by simp⟩, by simp only [Nat.zero_add]; omega, hR ht.kp fun j v hj => ?_⟩
      simp only [Nat.zero_add]
      rw [hcell]; exact hvs j v hj)
  rw [hv] at h1 h2
  exact ⟨⟨v + 1, some w.heap.size, 0, arr.size, sz⟩, _, by rw [List.getElem?_set_self hidl], rfl, rfl, rfl, rfl, rfl, h1, h2⟩
theorem newMapAt {m : Mem} (hi : Inv X w ρ m) {id v : Nat} {k0 : Kind} (hid : m[id]? = some ⟨v, k0⟩) :
    ∃ (r : RE) (ρ' : Rho), ρ'[id]? = some r ∧ r.ver = v + 1 ∧ r.blk = some w.heap.size ∧ Tr w ρ (w.alloc (.map #[] 0)) ρ' ∧ Inv X (w.alloc (.map #[] 0)) ρ' (m.set id ⟨v + 1, .mp []⟩) := by
  have hh : (w.alloc (.map #[] 0)).heap = w.heap.push (.map #[] 0) := rfl
  have hidl : id < ρ.length := by rw [hi.len]; exact (List.getElem?_eq_some_iff.1 hid).1
  have h0 : ρ[id]? = some ρ[id] := List.getElem?_eq_getElem hidl
  obtain ⟨hv, _⟩ := hi.at_ id _ _ h0 hid
  simp only at hv
  obtain ⟨h1, h2⟩ := hi.renew h0 (r' := ⟨ρ[id].ver + 1, some w.heap.size, 0, 0, 0⟩) (w' := w.alloc (.map #[] 0)) (k := .mp []) rfl rfl rfl (by rw [hh]; simp) rfl
    (fun b hb _ => by rw [hh]; simp [Array.getElem?_push_lt hb, hb]) (fun b hb => by cases hb; exact ⟨.inr (Nat.le_refl _), by rw [hh]; simp⟩) (fun ρ' he ht => by
      exact ⟨by simp, w.heap.size, #[], 0, rfl, (MapKept.heap_alloc w _).1, rfl⟩)
  rw [hv] at h1 h2
  exact ⟨⟨v + 1, some w.heap.size, 0, 0, 0⟩, _, by rw [List.getElem?_set_self hidl], rfl, rfl, h1, h2⟩
/-- what an operation makes: the size of its elements, the row; a slice of how many, or a pointer -/
def alcA (P : Program) (E : Operand → AV) (op : Op) : Option (Nat × List AV × Option Nat × Prop) :=
  match op with
  | .box _ v => some ((E v).cells.length, [E v], none, (E v).flat ∧ 0 < (E v).cells.length)
  | .alloc ty =>
    match zAV P ty with
    | some x => some (x.cells.length, [x], none, x.flat ∧ 0 < x.cells.length)
    | none => none
  | .makeSlice ty l c =>
    match makeA P [] ty (E l) (E c) with
    | some ([⟨_, .row sz row⟩], .osl _ _ _ n, p) => some (sz, row, some n, p)
    | _ => none
  | .buildSlice ty len parts =>
    match bldA P E (.buildSlice ty len parts) with
    | some (sz, xs, p) => some (sz, xs, some xs.length, p)
    | none => none
  | _ => none
def alcV (id ver : Nat) : Option Nat → AV
  | none => .optr id ver 0 0
  | some n => .osl id ver 0 n
theorem box_at {m : Mem} (hi : Inv X w ρ m) {id ver : Nat} {k0 : Kind} (hid : m[id]? = some ⟨ver, k0⟩) {x : AV} {v : Value} {ty : TypeId} (hx : R X w ρ x v) (hp : x.flat) :
    ∃ u w' ρ', (Instr.box ty v).run P w = .ok u w' ∧ Tr w ρ w' ρ' ∧ Inv X w' ρ' (m.set id ⟨ver + 1, .row x.cells.length [x]⟩) ∧ R X w' ρ' (.optr id (ver + 1) 0 0) u := by
  obtain ⟨vs, e1, e2, e3, e4⟩ := flat_cells hp hx
  obtain ⟨r, ρ', q0, q1, q2, q3, q4, q5, q6, q7⟩ := newBlockAt hi hid (w' := { w with heap := w.heap.push (.cells v.cells ty) }) (sz := x.cells.length) (l := [x]) (arr := v.cells) (vs := vs) (e := ty) rfl rfl rfl rfl (by simp [e4]) (fun j u hj => by rw [e1]; simpa using hj)
    (fun {w' ρ' b' o'} hk hc => ⟨Re_of_cells hp rfl (Rcells_of fun j y hj => by
      obtain ⟨u, hu, hR⟩ := e2.nth hj
      exact ⟨u, hc j u hu, e3 u (List.mem_of_getElem? hu), R.mono hk hR⟩), trivial⟩)
  refine ⟨.pointer (some ⟨w.heap.size, 0, none⟩), _, _, by simp [Instr.box, newVar, newRow], q6, q7, ?_⟩
  exact ⟨_, r, rfl, q0, by omega, fun _ => ⟨w.heap.size, q2, by rw [q3]; simp⟩⟩
theorem make_at {m : Mem} (hi : Inv X w ρ m) {id ver : Nat} {k0 : Kind} (hid : m[id]? = some ⟨ver, k0⟩) {ty : TypeId} {l c : AV} {vl vc : Value} {p : Prop} (hl : R X w ρ l vl) (hc : R X w ρ c vc) {e0 sz n0 : Nat} {row : List AV} {a0 b0 c0 : Nat} (h : makeA P [] ty l c = some ([⟨e0, .row sz row⟩], .osl a0 b0 c0 n0, p)) (hp : p) :
    ∃ u w' ρ', (Instr.makeSlice ty vl vc).run P w = .ok u w' ∧ Tr w ρ w' ρ' ∧ Inv X w' ρ' (m.set id ⟨ver + 1, .row sz row⟩) ∧ R X w' ρ' (.osl id (ver + 1) 0 n0) u := by
  unfold makeA at h
  split at h <;> (try (cases h; done))
  rename_i e hu
  split at h <;> (try (cases h; done))
  rename_i z sz' by_ n n' hz hsz hby
  split at h <;> (try (cases h; done))
  rename_i hel
  simp only [Option.some.injEq, Prod.mk.injEq, List.nil_append, List.cons.injEq, Ent.mk.injEq, Kind.row.injEq, and_true, AV.osl.injEq] at h
  obtain ⟨⟨_, rfl, rfl⟩, ⟨_, _, _, rfl⟩, rfl⟩ := h
  obtain ⟨h0, rfl, hb48, hmax, hzf, hzl⟩ := hp
  rw [R_val] at hl hc; subst hl hc
  obtain ⟨i, z0, hinfo, hz0, hzs, hpos⟩ := elB_some hel
  obtain ⟨i', hi', hsz'⟩ := tsz_some hsz
  rw [hinfo] at hi'; cases hi'
  have hby' : i.bytes = by_ := by unfold tby at hby; simpa [hinfo] using hby
  obtain ⟨zv, hzv, hzR⟩ := zAV_some (P := P) (X := X) (w := w) (ρ := ρ) hz
  have hzv0 : zv = z0 := by simp [zeroValue, typeInfo, hinfo, hz0] at hzv; exact hzv.symm
  subst hzv0
  obtain ⟨zs, f1, f2, f3, f4⟩ := flat_cells hzf hzR
  have hrun := run_make (P := P) w ty e i zv (uk_slice hu) hinfo hz0 .i64 .i64 n' n' h0 (Int.le_refl _) (by rw [hby']; omega) (by omega)
  have hzsz : zv.cells.size = sz' := by rw [hzs, hsz']
  have hzlen : zs.length = sz' := by omega
  have hget : ∀ (k j : Nat), j < sz' → k % sz' = j → k < n'.toNat * i.size → ∀ u, zs[j]? = some u → (madeCells zv.cells (n'.toNat * i.size)).toList[k]? = some u := by
    intro k j hj hk hlt u hu'
    have : (madeCells zv.cells (n'.toNat * i.size)).toList[k]? = some (zv.cells[k % zv.cells.size]!) := by
      simp [madeCells, hlt]
    rw [this, hzsz, hk, f1]
    have hj' : j < zs.length := by omega
    rw [List.getElem?_eq_getElem hj'] at hu'
    simp only [Option.some.injEq] at hu' ⊢
    rw [← hu']
    simp [hj']
  obtain ⟨r, ρ2, q0, q1, q2, q3, q4, q5, q6, q7⟩ := newBlockAt hi hid (w' := w.alloc (.cells (madeCells zv.cells (n'.toNat * i.size)) e)) (sz := sz') (l := List.replicate n'.toNat z) (arr := madeCells zv.cells (n'.toNat * i.size)) (vs := (madeCells zv.cells (n'.toNat * i.size)).toList) (e := e)
    rfl rfl rfl rfl (by rw [Array.length_toList, size_madeCells, hsz']; simp) (fun j u hj => by simpa using hj)
    (fun {w' ρ' b' o'} hk hc => Rrow_of_cells fun i1 y hy => by
      have hy0 := List.getElem?_replicate (a := z) (n := n'.toNat) (i := i1) 
      rw [hy] at hy0
      split at hy0
      · rename_i hlt
        cases hy0
        refine Re_of_cells hzf hzl (Rcells_of fun j y' hj => ?_)
        obtain ⟨u, hu', hR⟩ := f2.nth hj
        have hjlt : j < sz' := by have := (List.getElem?_eq_some_iff.1 hu').1; omega
        have hle : (i1 + 1) * sz' ≤ n'.toNat * sz' := Nat.mul_le_mul_right _ hlt
        rw [Nat.add_mul, Nat.one_mul] at hle
        have := hc (i1 * sz' + j) u (hget _ j hjlt (by rw [Nat.mul_comm, Nat.mul_add_mod]; exact Nat.mod_eq_of_lt hjlt) (by rw [hsz']; omega) u hu')
        rw [← Nat.add_assoc] at this
        exact ⟨u, this, f3 u (List.mem_of_getElem? hu'), R.mono hk hR⟩
      · cases hy0)
  refine ⟨_, _, _, hrun, q6, q7, _, _, r, rfl, q0, by omega, fun _ => ⟨Nat.le_refl _, by simp only [maxLen]; omega, fun hp => ⟨w.heap.size, q2, by rw [q3]; simp, ?_⟩⟩⟩
  rw [q3, q4, q5, size_madeCells, hsz']; simp
/-- an operation that makes memory, in an entry that stands already -/
theorem alcA_step {gds : List (Option Nat)} {t : List (Nat × AV)} {m : Mem} {dst : Option Nat} {op : Op} {type : TypeId} {pos : String} {after : Array Edge} {sz : Nat} {l : List AV} {q : Option Nat} {p : Prop} (h : alcA P (evo t) op = some (sz, l, q, p)) (hp : p) {id ver : Nat} {k0 : Kind} (hid : m[id]? = some ⟨ver, k0⟩) :
    StepAt P gds t m ⟨dst, op, type, pos, after, none⟩ (m.set id ⟨ver + 1, .row sz l⟩) (alcV id (ver + 1) q) := by
  have key : ∀ {X : Nat → Prop} {w : World} {ρ : Rho} (a : Act), Inv X w ρ m → (∀ n, n ∈ onames op → R X w ρ (look t n) (a.tmps.getD n undef)) → ∃ v w' ρ', (execOp a.eval ⟨dst, op, type, pos, after, none⟩).run P w = .ok (.value v) w' ∧ R X w' ρ' (alcV id (ver + 1) q) v ∧ Inv X w' ρ' (m.set id ⟨ver + 1, .row sz l⟩) ∧ Tr w ρ w' ρ' := by
    intro X w ρ a hi hr
    have ho := evo_of (op := op) hr
    unfold alcA at h
    split at h
    · rename_i e v
      simp only [Option.some.injEq, Prod.mk.injEq] at h
      obtain ⟨rfl, rfl, rfl, rfl⟩ := h
      obtain ⟨u, w', ρ', q1, q2, q3, q4⟩ := box_at (P := P) (ty := e) hi hid (ho v (by simp [Op.operands])) hp.1
      exact ⟨u, w', ρ', by unfold execOp; simp only [Sem.run_bind, q1, Result.andThen_ok, Sem.run_pure], q4, q3, q2⟩
    · rename_i ty
      split at h
      · rename_i x hz
        simp only [Option.some.injEq, Prod.mk.injEq] at h
        obtain ⟨rfl, rfl, rfl, rfl⟩ := h
        obtain ⟨v, hv, hR⟩ := zAV_some (P := P) (X := X) (w := w) (ρ := ρ) hz
        obtain ⟨u, w', ρ', q1, q2, q3, q4⟩ := box_at (P := P) (ty := ty) hi hid hR hp.1
        have : (Instr.alloc ty true (.tuple #[])).run P w = .ok u w' := by
          unfold Instr.alloc
          simp only [Sem.run_bind, hv, Result.andThen_ok]
          exact q1
        exact ⟨u, w', ρ', by unfold execOp; simp [this], q4, q3, q2⟩
      · cases h
    · rename_i ty lo co
      split at h
      · rename_i hmk
        simp only [Option.some.injEq, Prod.mk.injEq] at h
        obtain ⟨rfl, rfl, rfl, rfl⟩ := h
        obtain ⟨u, w', ρ', q1, q2, q3, q4⟩ := make_at (P := P) hi hid (ho lo (by simp [Op.operands])) (ho co (by simp [Op.operands])) hmk hp
        exact ⟨u, w', ρ', by unfold execOp; simp only [Sem.run_bind, q1, Result.andThen_ok, Sem.run_pure], q4, q3, q2⟩
      · cases h
    · rename_i ty len parts
      split at h
      · rename_i hb
        simp only [Option.some.injEq, Prod.mk.injEq] at h
        obtain ⟨rfl, rfl, rfl, rfl⟩ := h
        obtain ⟨e, arr, vs, h1, h2, h3, h3', h4, h5, h6⟩ := bldA_run (P := P) (o := ⟨dst, .buildSlice ty len parts, type, pos, after, none⟩) (X := X) (w := w) (ρ := ρ) (a := a) ho hb hp
        obtain ⟨r, ρ', q0, q1, q2, q3, q4, q5, q6, q7⟩ := newBlockAt hi hid (w' := { w with heap := w.heap.push (.cells arr e) }) (vs := vs) (e := e) rfl rfl rfl rfl h4 h5 h6
        exact ⟨_, _, ρ', h1, ⟨_, _, r, rfl, q0, by omega, fun _ => ⟨Nat.le_refl _, h3', fun _ => ⟨w.heap.size, q2, by rw [q3]; simp, by rw [q3, q4, q5, h3]; simp⟩⟩⟩, q7, q6⟩
      · cases h
    · cases h
  refine ⟨fun c e => (by simp only at e; subst e; simp [alcA] at h), fun X w ρ a hi hr hn => ⟨fun _ => .inr ?_, fun hw => (by simp [Region.wanted] at hw)⟩⟩
  obtain ⟨v, w', ρ', q1, q2, q3, q4⟩ := key a hi fun n hn => hr n (.inr hn)
  exact .inl ⟨v, w', q1, ρ', q2, q3, q4⟩
/-- a map is made, in an entry that stands already -/
theorem mapA_step {gds : List (Option Nat)} {t : List (Nat × AV)} {m : Mem} {dst : Option Nat} {ty type : TypeId} {pos : String} {after : Array Edge} {id ver : Nat} {k0 : Kind} (hid : m[id]? = some ⟨ver, k0⟩) :
    StepAt P gds t m ⟨dst, .makeMap ty none, type, pos, after, none⟩ (m.set id ⟨ver + 1, .mp []⟩) (.omap id (ver + 1)) := by
  refine ⟨fun c e => (by cases e), fun X w ρ a hi hr hn => ⟨fun _ => .inr ?_, fun hw => (by simp [Region.wanted] at hw)⟩⟩
  obtain ⟨r, ρ', q0, q1, q2, q3, q4⟩ := newMapAt hi hid
  refine .inl ⟨.map (some w.heap.size), w.alloc (.map #[] 0), by unfold execOp; simp [Instr.makeMap, Result.andThen], ρ', ?_, q4, q3⟩
  exact ⟨_, r, rfl, q0, by omega, fun _ => ⟨w.heap.size, q2, rfl⟩⟩
def isAlc : Op → Bool
  | .box .. | .alloc _ | .makeSlice .. | .buildSlice .. => true
  | _ => false
def isBox : Op → Bool
  | .box .. | .alloc _ | .makeSlice .. | .makeMap .. => true
  | _ => false
section
variable {gds : List (Option Nat)} {l : List Oper} {Q : S → Prop} {s : S} {o : Oper}
theorem StepAt.run {m1 : Mem} {x : AV} (h : StepAt P gds s.t s.m o m1 x) (k : Run P gds l Q ({ s with m := m1 }.put o.dst x)) : Run P gds (o :: l) Q s := by
  intro hg hd
  refine Run.eff (fun X r a w ρ hr => ?_) hg hd
  obtain ⟨h1, h2⟩ := h.2 X w ρ a hr.inv (fun n _ => hr.tmps n) (fun n hn => by rw [hr.size]; exact gnames_lt hg o.guard n hn)
  have hdo := hd o (by simp)
  have fin : ∀ (v : Value) (w' : World) (ρ' : Rho), R X w' ρ' x v → Inv X w' ρ' m1 → Tr w ρ w' ρ' → ∃ s' ρ', (s'.n = s.n ∧ Run P gds l Q s') ∧ Rel X s' (a.put o.dst v) w' ρ' ∧ Tr w ρ w' ρ' :=
    fun v w' ρ' q1 q2 q3 => ⟨{ s with m := m1 }.put o.dst x, ρ', ⟨by rw [S.put_n], k⟩, (hr.step q3 q2).put hdo q1, q3⟩
  unfold opwp
  split
  · rename_i hw
    refine ⟨fun _ _ => trivial, ?_⟩
    rw [Oper.semAt_eq _ _ _ h.1]
    rcases h1 hw with ⟨w', ρ', q1, q2, q3, q4⟩ | ⟨v, w', q1, ρ', q2, q3, q4⟩ | ⟨f', args, q1, q2⟩
    · rw [q1]; exact fin undef w' ρ' q2 q3 q4
    · rw [q1]; exact fin v w' ρ' q2 q3 q4
    · rw [q1]
      refine ⟨fun h => (by cases h), callsIn_fence (q2.mono ?_)⟩
      rintro e w' ⟨v, rfl, ρ', q2, q3, q4⟩
      exact fin v w' ρ' q2 q3 q4
  · rename_i hw
    obtain ⟨q1, q2⟩ := h2 (by simpa using hw)
    exact fin undef w ρ q1 (by rw [q2]; exact hr.inv) (Tr.refl w ρ)
/-- memory is made in an entry that stands already -/
theorem Run.alcAt (id : Nat) {dst : Option Nat} {op : Op} {type : TypeId} {pos : String} {after : Array Edge} {sz : Nat} {row : List AV} {q : Option Nat} {p : Prop} {ver : Nat} {k0 : Kind} (h : alcA P (evo s.t) op = some (sz, row, q, p)) (hp : p) (hid : s.m[id]? = some ⟨ver, k0⟩)
    (k : Run P gds l Q (putA ⟨s.t, s.m.set id ⟨ver + 1, .row sz row⟩, s.n, s.d⟩ dst (alcV id (ver + 1) q))) : Run P gds (⟨dst, op, type, pos, after, none⟩ :: l) Q s :=
  (alcA_step h hp hid).run (by rw [putA_eq] at k; exact k)
theorem Run.mapAt (id : Nat) {dst : Option Nat} {ty type : TypeId} {pos : String} {after : Array Edge} {ver : Nat} {k0 : Kind} (hid : s.m[id]? = some ⟨ver, k0⟩)
    (k : Run P gds l Q (putA ⟨s.t, s.m.set id ⟨ver + 1, .mp []⟩, s.n, s.d⟩ dst (.omap id (ver + 1)))) : Run P gds (⟨dst, .makeMap ty none, type, pos, after, none⟩ :: l) Q s :=
  (mapA_step hid).run (by rw [putA_eq] at k; exact k)
/-- an operation that makes no memory -/
theorem Run.calm {s' : S} {p : Prop} (h0 : isBox o.op = false) (h : nextA P gds s o = some (s', p)) (hp : p) (k : Run P gds l Q s') : Run P gds (o :: l) Q s := Run.next h hp k
end
theorem Wp.vacs {r : Option Nat} {c : Code} {Q : Exit → S → Prop} : ∀ (n : Nat) {s : S}, Wp P r c Q { s with m := s.m ++ List.replicate n ⟨0, .row 1 []⟩ } → Wp P r c Q s
  | 0, s, h => by simpa using h
  | n + 1, s, h => by
    have h1 : Wp P r c Q { s with m := s.m ++ [(⟨0, .row 1 []⟩ : Ent)] } := by
      refine Wp.vacs n ?_
      have e : s.m ++ [(⟨0, .row 1 []⟩ : Ent)] ++ List.replicate n ⟨0, .row 1 []⟩ = s.m ++ List.replicate (n + 1) ⟨0, .row 1 []⟩ := by
        simp only [List.replicate_succ, List.append_assoc, List.cons_append, List.nil_append]
      simp only
      rw [e]; exact h
    intro X a w ρ hr
    obtain ⟨t1, t2⟩ := hr.inv.adopt 1
    exact Go.wpIn_mono (h1 X a w _ (hr.step t1 t2)) fun e a' w' ⟨s', ρ', q, k1, k2⟩ => ⟨s', ρ', q, k1, t1.trans k2⟩
/-- as Spec.of_body, but all entries stay -/
def leavesA (P : Program) (rs : List ResultVar) (Q : AV → Mem → Prop) : Exit → S → Prop
  | .normal, s | .ret, s => s.d = [] ∧ ∃ xs p, resL P s rs = some (xs, p) ∧ p ∧ Q (packRes xs) s.m
  | _, _ => False
theorem Spec.of_bodyA {f : FuncId} {fn : Func} {c : Code} {args : List AV} {m : Mem} {Q : AV → Mem → Prop} (hf : P.funcs[f]? = some fn) (hb : fn.body = some c) (hn : args.length ≤ fn.ntmps)
    (h : Wp P none c (leavesA P fn.results.toList Q) (entry args m fn.ntmps)) : Spec P f args m Q := by
  intro X w ρ vs hi hr
  refine (callsIn_wide (n := 0)).1 (callsIn_of_wp_marks (F := Fence.wide) hf hb trivial ?_ rfl)
  have hlen := hr.len
  have hrel : Rel X (entry args m fn.ntmps) { tmps := vs.toArray ++ Array.replicate (fn.ntmps - vs.toArray.size) undef, defers := [] } w ρ := by
    refine ⟨fun n => ?_, by simp [entry]; omega, hi, rfl⟩
    simp only [entry]
    rw [look_zip]
    simp only [Nat.not_lt_zero, if_false, Nat.sub_zero]
    by_cases hlt : n < args.length
    · obtain ⟨v, h1, h2⟩ := hr.nth (List.getElem?_eq_getElem hlt)
      have e1 : args.getD n .any = args[n] := by simp [hlt]
      have e2 : (vs.toArray ++ Array.replicate (fn.ntmps - vs.toArray.size) undef).getD n undef = v := by
        have hv : n < vs.length := by omega
        have : vs[n] = v := by rw [List.getElem?_eq_getElem hv] at h1; exact Option.some.inj h1
        simp [Array.getElem?_append, hv, this]
      rw [e1, e2]; exact h2
    · have : args.getD n .any = .any := by simp [hlt]
      rw [this]; trivial
  refine Go.wpIn_mono (h X _ w ρ hrel) ?_
  rintro e a' w' ⟨s', ρ', q, k1, k2⟩
  have fin : leavesA P fn.results.toList Q .ret s' → LeavesInM Fence.wide 0 P fn a'.tmps (fun e w' => ∃ v x m' ρ', e = .returned v ∧ Q x m' ∧ R X w' ρ' x v ∧ Inv X w' ρ' m' ∧ Tr w ρ w' ρ') a'.defers .returning w' := by
    rintro ⟨hd, xs, p, h1, h2, h3⟩
    refine leave_marks s'.d s' a' w' ρ' rfl k1 (by rw [hd]; intro q hq; cases hq) (by rw [hd]; exact List.Pairwise.nil) fun w2 ρ2 k3 k4 => ?_
    have e1 : ({ s' with m := kill s'.m s'.d, d := [] } : S) = s' := by
      cases s'; simp only at hd; subst hd; rfl
    rw [e1] at k3
    obtain ⟨v, h6, h7⟩ := results_run k3 h1 h2
    exact ⟨v, h6, v, packRes xs, s'.m, ρ2, rfl, h3, h7, k3.inv, k2.trans k4⟩
  cases e with
  | normal => exact fin q
  | ret => exact fin q
  | exit id => exact q.elim
  | goto l => exact q.elim
  | panic ch => exact q.elim
  | outgrown => exact q.elim

theorem leaveA {s : S} {rs : List ResultVar} {xs : List AV} {p : Prop} {C : AV → Mem → Prop} (hd : s.d = []) (h : resL P s rs = some (xs, p)) (hp : p) (hx : C (packRes xs) s.m) : leavesA P rs C .ret s := ⟨hd, xs, p, h, hp, hx⟩
theorem leaveAN {s : S} {rs : List ResultVar} {xs : List AV} {p : Prop} {C : AV → Mem → Prop} (hd : s.d = []) (h : resL P s rs = some (xs, p)) (hp : p) (hx : C (packRes xs) s.m) : leavesA P rs C .normal s := ⟨hd, xs, p, h, hp, hx⟩
attribute [push_cast] alcA alcV
end Go.Vg
