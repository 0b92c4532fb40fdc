/- The abstract machine, part Y: a region that draws its order and writes or makes memory once; what is not bound to that operation looks at no memory. -/
import Derived.Test.YtljchlkmalidnaaVgV
set_option linter.all false
set_option linter.unusedVariables false
namespace Go.Vg
open Go.RowKit
variable {P : Program} {X : Nat → Prop} {w : World} {ρ : Rho}

def regOnly : Op → Bool
  | .move _ | .assign _ | .pick .. | .binOp .. | .unOp .. | .convert .. | .extract .. => true
  | _ => false
theorem ev_reg {E B : Operand → AV} {m m' : Mem} {op : Op} (h : regOnly op = true) : ev P E B m op = ev P E B m' op := by
  cases op <;> simp_all [regOnly, ev]
theorem stepA_reg {gds : List (Option Nat)} {t : List (Nat × AV)} {m m' : Mem} {o : Oper} (h : regOnly o.op = true) : stepA P gds t m o = stepA P gds t m' o := by
  unfold stepA
  cases o.guard with
  | none => exact ev_reg h
  | some g =>
    simp only
    split
    · rw [ev_reg (m' := m') h]
    · rfl

/-- an operation that writes or makes memory, at these temporaries -/
def EffAt (P : Program) (t : List (Nat × AV)) (m : Mem) (o : Oper) (m1 : Mem) (x : AV) : Prop :=
  (∀ c, o.op ≠ .defer c) ∧ ∀ (X : Nat → Prop) (w : World) (ρ : Rho) (a : Act), Inv X w ρ m → (∀ y ∈ o.op.operands, R X w ρ (evo t y) (a.eval y)) → Done P X w ρ m1 x ((execOp a.eval o).run P w)

inductive AbsE (P : Program) (gds : List (Option Nat)) (e : Nat) : Nat → List Oper → S → S → Prop where
  | nil {k : Nat} {s : S} : AbsE P gds e k [] s s
  | cons {k : Nat} {o : Oper} {l : List Oper} {s s' : S} {x : AV} : k ≠ e → dstOk s.n o.dst → Yield P gds s.t s.m o x → (regOnly o.op = true → ∀ m', Yield P gds s.t m' o x) → AbsE P gds e (k + 1) l (s.put o.dst x) s' → AbsE P gds e k (o :: l) s s'
  | eff {k : Nat} {o : Oper} {l : List Oper} {s s' : S} {x : AV} {m1 : Mem} : k = e → o.guard = none → dstOk s.n o.dst → EffAt P s.t s.m o m1 x → AbsE P gds e (k + 1) l ({ s with m := m1 }.put o.dst x) s' → AbsE P gds e k (o :: l) s s'

theorem AbsE.data {gds : List (Option Nat)} {e : Nat} : ∀ {ops : List Oper} {s s' : S} {k : Nat}, AbsE P gds e k ops s s' → ∃ (xs : List (Oper × AV)) (m1 : Mem), xs.map (·.1) = ops ∧ s' = ⟨V xs (fun _ => true) k s.t, m1, s.n, s.d⟩ ∧ (e < k → m1 = s.m) ∧ (k + ops.length ≤ e → m1 = s.m) ∧
    ∀ (i : Nat) (ox : Oper × AV), xs[i]? = some ox → dstOk s.n ox.1.dst ∧
      (k + i ≠ e → Yield P gds (V xs (upto k i) k s.t) (if k + i < e then s.m else m1) ox.1 ox.2 ∧ (regOnly ox.1.op = true → ∀ m', Yield P gds (V xs (upto k i) k s.t) m' ox.1 ox.2)) ∧
      (k + i = e → ox.1.guard = none ∧ EffAt P (V xs (upto k i) k s.t) s.m ox.1 m1 ox.2)
  | _, s, _, k, .nil => ⟨[], s.m, rfl, rfl, fun _ => rfl, fun _ => rfl, fun i ox h => by simp at h⟩
  | o :: l, s, s', k, .cons (x := x) h0 h1 h2 h2' h3 => by
    obtain ⟨xs, m1, e1, e2, em, em', e3⟩ := AbsE.data h3
    rw [S.put_eq] at e2 em em' e3
    refine ⟨(o, x) :: xs, m1, by simp [e1], by rw [e2]; simp [V], fun h => em (by omega), fun h => em' (by simp at h; omega), fun i ox hi => ?_⟩
    cases i with
    | zero =>
      simp at hi; subst hi
      have hV : V ((o, x) :: xs) (upto k 0) k s.t = s.t := V_none _ _ _ _ (fun j _ => by simp [upto])
      refine ⟨h1, fun _ => ?_, fun h => absurd h h0⟩
      rw [hV]
      refine ⟨?_, h2'⟩
      split
      · exact h2
      · rw [em (by omega)]; exact h2
    | succ i =>
      obtain ⟨q1, q2, q3⟩ := e3 i ox (by simpa using hi)
      have hV : V ((o, x) :: xs) (upto k (i + 1)) k s.t = V xs (upto (k + 1) i) (k + 1) (upd s.t o.dst x) := by
        simp only [V]
        have h0 : upto k (i + 1) k = true := by simp [upto]
        rw [h0]
        have hf : upto k (i + 1) = upto (k + 1) i := by funext j; simp only [upto]; congr 1; apply propext; omega
        rw [hf]; rfl
      rw [hV, show k + (i + 1) = k + 1 + i by omega]
      exact ⟨q1, q2, q3⟩
  | o :: l, s, s', k, .eff (x := x) (m1 := m2) h0 hg h1 h2 h3 => by
    obtain ⟨xs, m1, e1, e2, em, em', e3⟩ := AbsE.data h3
    rw [S.put_eq] at e2 em em' e3
    have hm : m1 = m2 := em (by omega)
    subst hm
    refine ⟨(o, x) :: xs, m1, by simp [e1], by rw [e2]; simp [V], fun h => by omega, fun h => by simp at h; omega, fun i ox hi => ?_⟩
    cases i with
    | zero =>
      simp at hi; subst hi
      have hV : V ((o, x) :: xs) (upto k 0) k s.t = s.t := V_none _ _ _ _ (fun j _ => by simp [upto])
      refine ⟨h1, fun h => absurd h0 (by omega), fun _ => ?_⟩
      rw [hV]
      exact ⟨hg, h2⟩
    | succ i =>
      obtain ⟨q1, q2, q3⟩ := e3 i ox (by simpa using hi)
      have hV : V ((o, x) :: xs) (upto k (i + 1)) k s.t = V xs (upto (k + 1) i) (k + 1) (upd s.t o.dst x) := by
        simp only [V]
        have h0 : upto k (i + 1) k = true := by simp [upto]
        rw [h0]
        have hf : upto k (i + 1) = upto (k + 1) i := by funext j; simp only [upto]; congr 1; apply propext; omega
        rw [hf]; rfl
      rw [hV, show k + (i + 1) = k + 1 + i by omega]
      refine ⟨q1, fun hne => ?_, fun he => by omega⟩
      rw [if_neg (by omega)]
      have := q2 (by omega)
      rw [if_neg (by omega)] at this
      exact this

/-- what stands, bound, before operation e: found from the end -/
def befL (ops : List Oper) (e : Nat) : Nat → List Nat
  | 0 => [e]
  | n + 1 =>
    if (befL ops e n).any (fun j => match ops[j]? with
      | some o => dep o (e - (n + 1))
      | none => false) = true then (e - (n + 1)) :: befL ops e n else befL ops e n
def drawEB (gds : List (Option Nat)) (ops : List Oper) (e r : Nat) : Bool :=
  ordB gds ops ops.length && decide (e < ops.length) && (List.range ops.length).all fun i => match ops[i]? with
    | some o => i == e || regOnly o.op || (decide (i < e) && (befL ops e r).contains i) || (decide (e < i) && dep o e)
    | none => true

theorem befL_listed {ops : List Oper} {listed : Array Bool} (hcl : ∀ (j : Nat) (oj : Oper), ops[j]? = some oj → listed.getD j false = true → ∀ d ∈ oj.after, Region.binds .any d = true → listed.getD d.on false = true) {e : Nat} (he : listed.getD e false = true) : ∀ r, ∀ i ∈ befL ops e r, listed.getD i false = true
  | 0, i, hi => by simp [befL] at hi; subst hi; exact he
  | r + 1, i, hi => by
    unfold befL at hi
    split at hi
    · rename_i ha
      rcases List.mem_cons.1 hi with rfl | hi
      · obtain ⟨j, hj, hd⟩ := List.any_eq_true.1 ha
        have h1 := befL_listed hcl he r j hj
        split at hd
        · rename_i o ho
          obtain ⟨d, hd', hb⟩ := Array.any_eq_true'.1 hd
          simp only [Bool.and_eq_true, beq_iff_eq] at hb
          have := hcl j o ho h1 d hd' hb.1
          rw [hb.2] at this; exact this
        · cases hd
      · exact befL_listed hcl he r i hi
    · exact befL_listed hcl he r i hi

theorem drawnE {id : Nat} {ops : List Oper} {gds : List (Option Nat)} (hg : gds = ops.map (·.dst)) (e r0 : Nat) (hm : P.follows .mixedOrders = true) (hB : drawEB gds ops e r0 = true) {s s1 : S} (hgo : gdsOk gds s.n) (habs : AbsE P gds e 0 ops s s1)
    {r : Option Nat} {a : Act} {w : World} {ρ : Rho} (hr : Rel X s a w ρ) {Q' : Exit → Act → World → Prop}
    (hQ : ∀ a' w' ρ', Rel X s1 a' w' ρ' → Tr w ρ w' ρ' → Q' .normal a' w') : (Code.region id ops.toArray true).wpIn (fence r) 0 P Q' a w := by
  simp only [drawEB, Bool.and_eq_true, decide_eq_true_eq] at hB
  obtain ⟨⟨hord, hen⟩, hreg⟩ := hB
  obtain ⟨xs, m1, hxs, hs1, _, _, hy⟩ := habs.data
  simp only [Nat.zero_add] at hy
  have hxl : xs.length = ops.length := by have := congrArg List.length hxs; simpa using this
  have hops : ∀ (i : Nat) (o : Oper), ops[i]? = some o → ∃ x, xs[i]? = some (o, x) := by
    intro i o ho
    have h1 : (xs.map (·.1))[i]? = some o := by rw [hxs]; exact ho
    rw [List.getElem?_map] at h1
    cases hx : xs[i]? with
    | none => simp [hx] at h1
    | some ox => simp [hx] at h1; exact ⟨ox.2, by rw [← h1]⟩
  have hops' : ∀ (i : Nat) (ox : Oper × AV), xs[i]? = some ox → i < ops.length ∧ ops[i]? = some ox.1 := by
    intro i ox hx
    have hi : i < ops.length := by rw [← hxl]; exact (List.getElem?_eq_some_iff.1 hx).1
    refine ⟨hi, ?_⟩
    have h1 : (xs.map (·.1))[i]? = some ox.1 := by simp [hx]
    rw [hxs] at h1
    exact h1
  have mOf : ∀ (listed : Array Bool), Mem := fun listed => if listed.getD e false = true then m1 else s.m
  have head : ∀ (f : Nat) (listed : Array Bool) (a : Act) (w1 : World) (ρ1 : Rho), HeadInv .any ops.toArray ops.length listed → cnt listed ops.length = f →
      Rel X ⟨V xs (fun j => listed.getD j false) 0 s.t, if listed.getD e false = true then m1 else s.m, s.n, s.d⟩ a w1 ρ1 → Tr w ρ w1 ρ1 → wpAnyIn (fence r) 0 P .any ops.toArray Q' f listed a w1 := by
    intro f
    induction f with
    | zero =>
      intro listed a w1 ρ1 inv hc hrel htr
      have hall := cnt_zero hc
      have hsz : listed.size = ops.length := by have := inv.size; simpa using this
      have hall' : ∀ i, i < ops.length → listed.getD i false = true := fun i hi => getD_true_of (by omega) (hall i hi)
      have hnone : Region.ready .any ops.toArray listed = [] := by
        cases hrd : Region.ready .any ops.toArray listed with
        | nil => rfl
        | cons i l =>
          have hi : i ∈ Region.ready .any ops.toArray listed := by rw [hrd]; simp
          obtain ⟨hun, oi, hoi, _⟩ := mem_ready.1 hi
          have hlt := (Array.getElem?_eq_some_iff.1 hoi).1
          have := hall i (by simpa using hlt)
          rw [hun] at this; cases this
      refine ⟨hnone, hQ a w1 ρ1 ?_ htr⟩
      rw [hs1]
      rw [V_all xs _ 0 s.t (fun j hj => by rw [Nat.zero_add]; exact hall' j (by omega)), if_pos (hall' e hen)] at hrel
      rw [V_all xs _ 0 s.t (fun j hj => rfl)]
      exact hrel
    | succ f ih =>
      intro listed a w1 ρ1 inv hc hrel htr
      have hsz : listed.size = ops.length := by have := inv.size; simpa using this
      obtain ⟨i0, hi0, hun0, hlow⟩ := cnt_pos (listed := listed) (n := ops.length) (by omega)
      have hready0 : i0 ∈ Region.ready .any ops.toArray listed := by
        rw [mem_ready]
        refine ⟨hun0, ops[i0], by simp [hi0], fun d hd hb => ?_⟩
        have := ordB_back hord hi0 (List.getElem?_eq_getElem hi0) d hd hb
        exact getD_true_of (by omega) (hlow d.on this)
      refine ⟨fun h0 => (by rw [h0] at hready0; cases hready0), fun i hi => ?_⟩
      obtain ⟨hun, oi, hoi, hall⟩ := mem_ready.1 hi
      have hoi' : ops[i]? = some oi := by simpa using hoi
      have hin : i < ops.length := (List.getElem?_eq_some_iff.1 hoi').1
      obtain ⟨x, hx⟩ := hops i oi hoi'
      obtain ⟨hdst, hyield, heff⟩ := hy i (oi, x) hx
      simp only at hdst hyield heff
      have agree : ∀ (k : Nat), (k ∈ names gds oi ∨ oi.dst = some k) → ∀ (j : Nat) (ox : Oper × AV), xs[j]? = some ox → ox.1.dst = some k → j ≠ i → listed.getD j false = decide (j < i) := by
        intro k hk j ox hj hd hji
        obtain ⟨hjn, hoj⟩ := hops' j ox hj
        rcases Nat.lt_or_ge j i with hlt | hge
        · have ht : touches gds ox.1 oi = true := by
            simp only [touches, hd, Bool.or_eq_true, beq_iff_eq]
            left
            rcases hk with hk | hk
            · left; simpa using hk
            · right; exact hk
          obtain ⟨d, hd', hb, hon⟩ := ordB_dep hord hin hlt hoj hoi' ht
          have := hall d hd' hb
          rw [hon] at this
          simp [this, hlt]
        · have hlt : i < j := by omega
          have ht : touches gds oi ox.1 = true := by
            simp only [touches, hd, Bool.or_eq_true]
            rcases hk with hk | hk
            · right; simpa using hk
            · left; rw [hk]; simp
          obtain ⟨d, hd', hb, hon⟩ := ordB_dep hord hjn hlt hoi' hoj ht
          cases hlj : listed.getD j false with
          | false => simp; omega
          | true =>
            have := inv.closed j ox.1 (by simpa using hoj) hlj d hd' hb
            rw [hon, getD_both hun] at this
            cases this
      have hnames : ∀ k, k ∈ gnames gds oi.guard ∨ k ∈ onames oi.op → R X w1 ρ1 (look (V xs (upto 0 i) 0 s.t) k) (a.tmps.getD k undef) := by
        intro k hk
        have hk' : k ∈ names gds oi := by simp only [names, List.mem_append]; exact hk
        have e1 : look (V xs (upto 0 i) 0 s.t) k = look (V xs (fun j => listed.getD j false) 0 s.t) k := by
          refine V_congr xs 0 _ _ rfl fun j ox hj hd => ?_
          simp only [Nat.zero_add, upto]
          by_cases hji : j = i
          · subst hji
            rw [getD_both hun]; simp
          · exact (agree k (.inl hk') j ox hj hd hji).symm
        rw [e1]; exact hrel.tmps k
      -- the new list
      have next : ∀ (v : Value) (w2 : World) (ρ2 : Rho) (m2 : Mem), (m2 = if (listed.setIfInBounds i true).getD e false = true then m1 else s.m) → R X w2 ρ2 x v → Inv X w2 ρ2 m2 → Tr w1 ρ1 w2 ρ2 → wpAnyIn (fence r) 0 P .any ops.toArray Q' f (listed.setIfInBounds i true) (a.put oi.dst v) w2 := by
        intro v w2 ρ2 m2 hm2 hxv hinv htr2
        refine ih _ _ _ ρ2 (inv.set hi hin) (by have := cnt_set hun ops.length hin; omega) ?_ (htr.trans htr2)
        rw [← hm2]
        have hrel2 := hrel.step htr2 (m' := m2) hinv
        have hrel3 := hrel2.put (d := oi.dst) (x := x) (v := v) hdst hxv
        rw [S.put_eq] at hrel3
        refine ⟨fun k => ?_, hrel3.size, hrel3.inv, hrel3.defers⟩
        · have h3 := hrel3.tmps k
          have e1 : look (V xs (fun j => (listed.setIfInBounds i true).getD j false) 0 s.t) k = look (upd (V xs (fun j => listed.getD j false) 0 s.t) oi.dst x) k := by
            have hset : ∀ j, j ≠ i → (listed.setIfInBounds i true).getD j false = listed.getD j false := fun j hj => getD_set_ne false (Ne.symm hj)
            have hseti : (listed.setIfInBounds i true).getD i false = true := by
              have : i < listed.size := by omega
              simp [this]
            by_cases hd : oi.dst = some k
            · rw [hd, look_upd_eq]
              have e2 : look (V xs (fun j => (listed.setIfInBounds i true).getD j false) 0 s.t) k = look (V xs (upto 0 (i + 1)) 0 s.t) k := by
                refine V_congr xs 0 _ _ rfl fun j ox hj hdj => ?_
                simp only [Nat.zero_add, upto]
                by_cases hji : j = i
                · subst hji; rw [hseti]; simp
                · rw [hset j hji, agree k (.inr hd) j ox hj hdj hji]
                  congr 1; apply propext; omega
              rw [e2]
              exact V_last xs 0 i s.t k oi x hx hd
            · rw [look_upd_ne hd]
              refine V_congr xs 0 _ _ rfl fun j ox hj hdj => ?_
              simp only [Nat.zero_add]
              refine hset j fun hji => ?_
              subst hji
              rw [hx] at hj
              cases hj
              exact hd hdj
          rw [e1]; exact h3
      unfold wpOpIn
      simp only [hoi]
      have hyg : yieldedG gds a.tmps = yielded ops.toArray a.tmps := by rw [← yieldedG_eq]; simp [hg]
      rw [← hyg]
      by_cases hie : i = e
      · -- the operation itself
        subst hie
        obtain ⟨hg0, hdf, hrun⟩ := heff rfl
        have hlist : listed.getD i false = false := getD_both hun
        rw [if_neg (by rw [hlist]; simp)] at hrel
        have hwd : Region.wanted oi (yieldedG gds a.tmps) = true := by simp [Region.wanted, hg0]
        rw [if_pos hwd]
        obtain ⟨v, w', ρ', h1, h2, h3, h4⟩ := hrun X w1 ρ1 a hrel.inv (evo_of fun n hn => hnames n (.inr hn))
        have hm2 : m1 = if (listed.setIfInBounds i true).getD i false = true then m1 else s.m := by
          have : i < listed.size := by omega
          simp [this]
        refine ⟨fun _ _ => trivial, ?_⟩
        rw [Oper.semAt_eq _ _ _ hdf]
        rcases h1 with h1 | ⟨h1, rfl⟩
        · rw [h1]; exact next v w' ρ' m1 hm2 h4 h3 h2
        · rw [h1]; exact next undef w' ρ' m1 hm2 h4 h3 h2
      · obtain ⟨hy1, hy2⟩ := hyield hie
        have hse : (listed.setIfInBounds i true).getD e false = listed.getD e false := getD_set_ne false hie
        have hri := List.all_eq_true.1 hreg i (List.mem_range.2 hin)
        simp only [hoi', Bool.or_eq_true, beq_iff_eq, Bool.and_eq_true, decide_eq_true_eq] at hri
        have hym : Yield P gds (V xs (upto 0 i) 0 s.t) (if listed.getD e false = true then m1 else s.m) oi x := by
          rcases hri with ((h | h) | ⟨h, h'⟩) | ⟨h, h'⟩
          · exact absurd h hie
          · exact hy2 h _
          · -- stands before
            rw [if_pos h] at hy1
            rw [if_neg]
            · exact hy1
            · intro hl
              have := befL_listed (ops := ops) (listed := listed) (fun j oj hj => inv.closed j oj (by simpa using hj)) hl r0 i (by simpa using h')
              rw [getD_both hun] at this
              cases this
          · rw [if_neg (by omega)] at hy1
            have hl : listed.getD e false = true := by
              obtain ⟨d, hd, hb⟩ := Array.any_eq_true'.1 h'
              simp only [Bool.and_eq_true, beq_iff_eq] at hb
              have := hall d hd hb.1
              rw [hb.2] at this; exact this
            rw [if_pos hl]; exact hy1
        obtain ⟨k1, k2⟩ := hym.2 X w1 ρ1 a hrel.inv hnames (fun k hk => by have := hrel.size; simp only at this; rw [this]; exact gnames_lt hgo oi.guard k hk)
        split
        · rename_i hw
          exact gives_wpIn hym.1 (k1 hw) fun v w' ⟨q1, q2, q3⟩ => next v w' ρ1 _ (by rw [hse]) q1 q2 q3
        · rename_i hw
          exact ⟨fun _ _ => trivial, next undef w1 ρ1 _ (by rw [hse]) (k2 (by simpa using hw)) hrel.inv (Tr.refl _ _)⟩
  refine wpIn_region_any hm ?_
  have hdrew : Tr w ρ { w with drawn := w.drawn + 1 } ρ := ⟨rfl, rfl, rfl, Nat.le_refl _, fun _ r h => ⟨r, h, Nat.le_refl _, fun _ => rfl⟩, fun _ h _ => ⟨h, rfl⟩⟩
  have hrel0 : Rel X ⟨V xs (fun j => (Array.replicate ops.length false).getD j false) 0 s.t, if (Array.replicate ops.length false).getD e false = true then m1 else s.m, s.n, s.d⟩ a { w with drawn := w.drawn + 1 } ρ := by
    rw [V_none xs _ 0 s.t (fun j _ => by rw [Nat.zero_add]; exact getD_replicate_false _ _), if_neg (by rw [getD_replicate_false]; simp)]
    have hi : Inv X { w with drawn := w.drawn + 1 } ρ s.m := hr.inv.same rfl
    exact hr.step hdrew hi
  have inv0 : HeadInv .any ops.toArray ops.length (Array.replicate ops.length false) :=
    ⟨by simp, fun j oj _ hl => (by rw [getD_replicate_false] at hl; cases hl), fun t _ ht => getD_in (by simpa using ht) (getD_replicate_false _ _)⟩
  have hcnt : ∀ k, k ≤ ops.length → cnt (Array.replicate ops.length false) k = k := by
    intro k
    induction k with
    | zero => intro _; rfl
    | succ k ih =>
      intro hk
      simp only [cnt]
      rw [ih (by omega)]
      have : (Array.replicate ops.length false).getD k true = false := getD_in (by simp; omega) (getD_replicate_false _ _)
      simp [this]
  have := head ops.length _ a _ ρ inv0 (hcnt _ (Nat.le_refl _)) hrel0 hdrew
  simpa using this

/-! the rules as they are applied -/
def Abe (P : Program) (gds : List (Option Nat)) (e k : Nat) (l : List Oper) (s s1 : S) : Prop := (∀ o ∈ l, dstOk s.n o.dst) → AbsE P gds e k l s s1
section
variable {gds : List (Option Nat)} {e k : Nat} {l : List Oper} {s s1 : S} {o : Oper}
theorem Abe.nil : Abe P gds e k [] s s := fun _ => .nil
theorem putA_n (s : S) (d : Option Nat) (x : AV) : (putA s d x).n = s.n := by cases d <;> rfl
theorem Abe.step {x : AV} (hk : k ≠ e) (hy : Yield P gds s.t s.m o x) (hr : regOnly o.op = true → ∀ m', Yield P gds s.t m' o x) (h : Abe P gds e (k + 1) l (putA s o.dst x) s1) : Abe P gds e k (o :: l) s s1 := fun hd =>
  .cons hk (hd o (by simp)) hy hr (by rw [← putA_eq]; exact h (fun o' ho' => by rw [putA_n]; exact hd o' (by simp [ho'])))
/-- an operation that only computes -/
theorem Abe.next {s' : S} {p : Prop} (hk : (k == e) = false) (h : abnA P gds s o = some (s', p)) (hp : p) (hn : Abe P gds e (k + 1) l s' s1) : Abe P gds e k (o :: l) s s1 := by
  have hk' : k ≠ e := by simpa using hk
  unfold abnA at h
  split at h
  · rename_i x p' he
    simp only [Option.some.injEq, Prod.mk.injEq] at h
    obtain ⟨rfl, rfl⟩ := h
    exact Abe.step hk' (stepA_yield he hp) (fun hr m' => stepA_yield (m := m') (by rw [stepA_reg (m' := s.m) hr]; exact he) hp) hn
  · rename_i hs
    split at h
    · rename_i hgd
      split at h
      · rename_i sz xs p' he
        simp only [Option.some.injEq, Prod.mk.injEq] at h
        obtain ⟨rfl, rfl⟩ := h
        obtain ⟨dst, op, type, pos, after, guard⟩ := o
        simp only at hgd
        subst hgd
        exact Abe.step hk' (bldA_yield he hp) (fun hr m' => (by cases op <;> simp_all [regOnly, bldA])) hn
      · cases h
    · cases h
/-- the one that writes or makes memory -/
theorem Abe.eff {m' : Mem} {x : AV} {p : Prop} {dst : Option Nat} {op : Op} {type : TypeId} {pos : String} {after : Array Edge} (hk : (k == e) = true) (h : effA P (evo s.t) s.m op = some (m', x, p)) (hp : p) (hn : Abe P gds e (k + 1) l (putA ⟨s.t, m', s.n, s.d⟩ dst x) s1) :
    Abe P gds e k (⟨dst, op, type, pos, after, none⟩ :: l) s s1 := fun hd =>
  .eff (m1 := m') (x := x) (by simpa using hk) rfl (hd ⟨dst, op, type, pos, after, none⟩ (by simp)) ⟨effA_defer h, fun X w ρ a hi ho => effA_done (o := ⟨dst, op, type, pos, after, none⟩) hi ho h hp⟩
    (by rw [← putA_eq]; exact hn (fun o' ho' => by rw [putA_n]; exact hd o' (by simp [ho'])))
theorem Abe.pure {fo : Operand} {args : List Operand} {tys : Array TypeId} {dst : Option Nat} {type : TypeId} {pos : String} {after : Array Edge} {g : Option Bool} {guard : Option (Nat × Bool)} {f : FuncId} {caps vargs : List AV} {x : AV}
    (hk : (k == e) = false) (he : Enters P f) (hg : gvalO gds s.t guard = some g) (hf : fnOf (evoG s.t g fo) = some (f, caps)) (hv : (args.map (evoG s.t g) ++ caps).map (view s.m) = vargs) (hc : (g = none ∨ g = some true) → Pure P f vargs x)
    (hok : gOk s.t g (fo :: args)) (hk0 : okL 0 vargs) (hp : x.plain) (h : Abe P gds e (k + 1) l (putA s dst (optG g x)) s1) : Abe P gds e k (⟨dst, callOp fo args tys, type, pos, after, guard⟩ :: l) s s1 :=
  Abe.step (o := ⟨dst, callOp fo args tys, type, pos, after, guard⟩) (by simpa using hk) (Pure.yield rfl hg hok hf he hc hv hk0 hp) (fun hr => by simp [regOnly, callOp] at hr) h
theorem Wp.runE {r : Option Nat} {Q : Exit → S → Prop} {id : Nat} {ops : List Oper} {gds : List (Option Nat)} (e r0 : Nat) (hm : P.follows .mixedOrders = true) (hg : ops.map (·.dst) = gds) (hB : gds.all (dstB s.n) = true) (hD : drawEB gds ops e r0 = true)
    (habs : Abe P gds e 0 ops s s1) (h : Q .normal s1) : Wp P r (.region id ops.toArray true) Q s := by
  have hgd : ∀ d ∈ gds, dstOk s.n d := fun d hd => dstB_ok (List.all_eq_true.1 hB d hd)
  intro X a w ρ hr
  refine drawnE (P := P) hg.symm e r0 hm hD hgd (habs fun o ho => hgd o.dst (by rw [← hg]; exact List.mem_map_of_mem ho)) hr ?_
  intro a' w' ρ' h1 h2
  exact ⟨s1, ρ', h, h1, h2⟩

/-! calls, with fewer things to show -/
def prepV (gds : List (Option Nat)) (s : S) (guard : Option (Nat × Bool)) (fo : Operand) (args : List Operand) : Option (Option Bool × FuncId × List AV) :=
  match gvalO gds s.t guard with
  | some g =>
    match fnOf (evoG s.t g fo) with
    | some (f, caps) => some (g, f, (args.map (evoG s.t g) ++ caps).map (view s.m))
    | none => none
  | none => none
def prepF (gds : List (Option Nat)) (s : S) (guard : Option (Nat × Bool)) (fo : Operand) (args : List Operand) : Option (Option Bool × FuncId × List AV) :=
  match gvalO gds s.t guard with
  | some g =>
    match fnOf (evoG s.t g fo) with
    | some (f, caps) => some (g, f, args.map (evoG s.t g) ++ caps)
    | none => none
  | none => none
theorem prepV_some {guard : Option (Nat × Bool)} {fo : Operand} {args : List Operand} {g : Option Bool} {f : FuncId} {vargs : List AV} (h : prepV gds s guard fo args = some (g, f, vargs)) :
    gvalO gds s.t guard = some g ∧ ∃ caps, fnOf (evoG s.t g fo) = some (f, caps) ∧ (args.map (evoG s.t g) ++ caps).map (view s.m) = vargs := by
  unfold prepV at h
  split at h
  · rename_i g' hg
    split at h
    · rename_i f' caps hf
      simp only [Option.some.injEq, Prod.mk.injEq] at h
      obtain ⟨rfl, rfl, rfl⟩ := h
      exact ⟨hg, caps, hf, rfl⟩
    · cases h
  · cases h
theorem prepF_some {guard : Option (Nat × Bool)} {fo : Operand} {args : List Operand} {g : Option Bool} {f : FuncId} {vargs : List AV} (h : prepF gds s guard fo args = some (g, f, vargs)) :
    gvalO gds s.t guard = some g ∧ ∃ caps, fnOf (evoG s.t g fo) = some (f, caps) ∧ args.map (evoG s.t g) ++ caps = vargs := by
  unfold prepF at h
  split at h
  · rename_i g' hg
    split at h
    · rename_i f' caps hf
      simp only [Option.some.injEq, Prod.mk.injEq] at h
      obtain ⟨rfl, rfl, rfl⟩ := h
      exact ⟨hg, caps, hf, rfl⟩
    · cases h
  · cases h
section
variable {Q : S → Prop} {fo : Operand} {args : List Operand} {tys : Array TypeId} {dst : Option Nat} {type : TypeId} {pos : String} {after : Array Edge} {g : Option Bool} {guard : Option (Nat × Bool)} {f : FuncId} {vargs : List AV} {x : AV}
theorem Run.pureP (h : prepV gds s guard fo args = some (g, f, vargs)) (he : Enters P f) (hc : Pure P f vargs x) (ha : gOk s.t g (fo :: args) ∧ okL 0 vargs ∧ x.plain) (hn : Run P gds l Q (putA s dst (optG g x))) : Run P gds (⟨dst, callOp fo args tys, type, pos, after, guard⟩ :: l) Q s := by
  obtain ⟨h1, caps, h2, h3⟩ := prepV_some h
  rw [putA_eq] at hn
  exact Run.pure he h1 h2 h3 hc ha.1 ha.2.1 ha.2.2 hn
theorem Abn.pureP (h : prepV gds s guard fo args = some (g, f, vargs)) (he : Enters P f) (hc : Pure P f vargs x) (ha : gOk s.t g (fo :: args) ∧ okL 0 vargs ∧ x.plain) (hn : Abn P gds l (putA s dst (optG g x)) s1) : Abn P gds (⟨dst, callOp fo args tys, type, pos, after, guard⟩ :: l) s s1 := by
  obtain ⟨h1, caps, h2, h3⟩ := prepV_some h
  rw [putA_eq] at hn
  exact Abn.pure he h1 h2 h3 hc ha.1 ha.2.1 ha.2.2 hn
theorem Run.pureFP (h : prepF gds s guard fo args = some (g, f, vargs)) (he : Enters P f) (hc : Pure P f vargs x) (ha : gOk s.t g (fo :: args) ∧ okL 0 vargs ∧ x.ok 0) (hn : Run P gds l Q (putA s dst (optG g x))) : Run P gds (⟨dst, callOp fo args tys, type, pos, after, guard⟩ :: l) Q s := by
  obtain ⟨h1, caps, h2, h3⟩ := prepF_some h
  rw [putA_eq] at hn
  exact Run.pureF he h1 h2 h3 hc ha.1 ha.2.1 ha.2.2 hn
theorem Abn.pureFP (h : prepF gds s guard fo args = some (g, f, vargs)) (he : Enters P f) (hc : Pure P f vargs x) (ha : gOk s.t g (fo :: args) ∧ okL 0 vargs ∧ x.ok 0) (hn : Abn P gds l (putA s dst (optG g x)) s1) : Abn P gds (⟨dst, callOp fo args tys, type, pos, after, guard⟩ :: l) s s1 := by
  obtain ⟨h1, caps, h2, h3⟩ := prepF_some h
  rw [putA_eq] at hn
  exact Abn.pureF he h1 h2 h3 hc ha.1 ha.2.1 ha.2.2 hn
theorem Abe.pureP (hk : (k == e) = false) (h : prepV gds s guard fo args = some (g, f, vargs)) (he : Enters P f) (hc : Pure P f vargs x) (ha : gOk s.t g (fo :: args) ∧ okL 0 vargs ∧ x.plain) (hn : Abe P gds e (k + 1) l (putA s dst (optG g x)) s1) : Abe P gds e k (⟨dst, callOp fo args tys, type, pos, after, guard⟩ :: l) s s1 := by
  obtain ⟨h1, caps, h2, h3⟩ := prepV_some h
  exact Abe.pure hk he h1 h2 h3 (fun _ => hc) ha.1 ha.2.1 ha.2.2 hn
end
end

end Go.Vg
