/- The abstract machine, part Ed: the evaluator's drawn regions with effects; its code; that it is right. -/
import Derived.Test.YtljchlkmalidnaaVgEc
import Derived.Test.YtljchlkmalidnaaVgDm
set_option linter.all false
set_option linter.unusedVariables false
namespace Go.Vg
open Go.RowKit
variable {P : Program}

/-! values and memories compared -/
def eqVal : Value → Value → Bool
  | .int k a, .int k' b => decide (k = k') && eqI a b
  | .bool a, .bool b => a == b
  | .string a, .string b => eqS a b
  | .pointer none, .pointer none => true
  | .nilFunc, .nilFunc => true
  | .map none, .map none => true
  | _, _ => false
theorem eqVal_ok {a b : Value} (h : eqVal a b = true) : a = b := by
  unfold eqVal at h
  split at h
  · simp only [Bool.and_eq_true, decide_eq_true_eq, eqI_eq] at h
    rw [h.1, h.2]
  · simp only [beq_iff_eq] at h; rw [h]
  · rw [eqS_eq, decide_eq_true_eq] at h; rw [h]
  · rfl
  · rfl
  · rfl
  · cases h
mutual
def eqV : AV → AV → Bool
  | .val a, .val b => eqVal a b
  | .any, .any => true
  | .emp, .emp => true
  | .osl a b c d, .osl a' b' c' d' => Nat.beq a a' && Nat.beq b b' && Nat.beq c c' && Nat.beq d d'
  | .optr a b c d, .optr a' b' c' d' => Nat.beq a a' && Nat.beq b b' && Nat.beq c c' && Nat.beq d d'
  | .lst n l, .lst n' l' => Nat.beq n n' && eqVL l l'
  | .ref l n, .ref l' n' => Nat.beq n n' && eqVL l l'
  | .agg l, .agg l' => eqVL l l'
  | .tup l, .tup l' => eqVL l l'
  | .clo f l, .clo f' l' => Nat.beq f f' && eqVL l l'
  | .bnd f l, .bnd f' l' => Nat.beq f f' && eqVL l l'
  | .opt g x, .opt g' x' => (g == g') && eqV x x'
  | .omap a b, .omap a' b' => Nat.beq a a' && Nat.beq b b'
  | _, _ => false
def eqVL : List AV → List AV → Bool
  | [], [] => true
  | x :: l, y :: l' => eqV x y && eqVL l l'
  | _, _ => false
end
mutual
theorem eqV_ok : ∀ (x y : AV), eqV x y = true → x = y := fun x y h => by
  cases x <;> cases y <;> simp only [eqV, Bool.and_eq_true, Nat.beq_eq, Bool.false_eq_true, beq_iff_eq] at h
  · rw [eqVal_ok h]
  · rfl
  · rw [h.1, eqVL_ok _ _ h.2]
  · obtain ⟨⟨⟨rfl, rfl⟩, rfl⟩, rfl⟩ := h; rfl
  · rfl
  · rw [h.1, eqVL_ok _ _ h.2]
  · obtain ⟨⟨⟨rfl, rfl⟩, rfl⟩, rfl⟩ := h; rfl
  · rw [eqVL_ok _ _ h]
  · rw [eqVL_ok _ _ h]
  · rw [h.1, eqVL_ok _ _ h.2]
  · rw [h.1, eqVL_ok _ _ h.2]
  · rw [h.1, eqV_ok _ _ h.2]
  · obtain ⟨rfl, rfl⟩ := h; rfl
theorem eqVL_ok : ∀ (l l' : List AV), eqVL l l' = true → l = l'
  | [], [], _ => rfl
  | x :: l, y :: l', h => by
    simp only [eqVL, Bool.and_eq_true] at h
    rw [eqV_ok _ _ h.1, eqVL_ok _ _ h.2]
end
def eqP : List (Value × AV) → List (Value × AV) → Bool
  | [], [] => true
  | (k, x) :: l, (k', x') :: l' => eqKey k k' && eqV x x' && eqP l l'
  | _, _ => false
theorem eqP_ok : ∀ {l l' : List (Value × AV)}, eqP l l' = true → l = l'
  | [], [], _ => rfl
  | [], _ :: _, h => by simp [eqP] at h
  | _ :: _, [], h => by simp [eqP] at h
  | (k, x) :: l, (k', x') :: l', h => by
    simp only [eqP, Bool.and_eq_true] at h
    rw [eqKey_ok h.1.1, eqV_ok _ _ h.1.2, eqP_ok h.2]
def eqM : Mem → Mem → Bool
  | [], [] => true
  | ⟨v, .row sz l⟩ :: m, ⟨v', .row sz' l'⟩ :: m' => Nat.beq v v' && Nat.beq sz sz' && eqVL l l' && eqM m m'
  | ⟨v, .mp l⟩ :: m, ⟨v', .mp l'⟩ :: m' => Nat.beq v v' && eqP l l' && eqM m m'
  | _, _ => false
theorem eqM_ok : ∀ {m m' : Mem}, eqM m m' = true → m = m'
  | [], [], _ => rfl
  | [], _ :: _, h => by simp [eqM] at h
  | _ :: _, [], h => by simp [eqM] at h
  | ⟨v, k⟩ :: m, ⟨v', k'⟩ :: m', h => by
    cases k <;> cases k' <;> simp only [eqM, Bool.and_eq_true, Nat.beq_eq, Bool.false_eq_true] at h
    · obtain ⟨⟨⟨rfl, rfl⟩, h1⟩, h2⟩ := h
      rw [eqVL_ok _ _ h1, eqM_ok h2]
    · obtain ⟨⟨rfl, h1⟩, h2⟩ := h
      rw [eqP_ok h1, eqM_ok h2]

def alcNo : List Oper → Nat
  | [] => 0
  | o :: l => match isAlc o.op with
    | true => alcNo l + 1
    | false => alcNo l
def alcC (P : Program) (t : List (Nat × AV)) (op : Op) : Option (Nat × List AV × Option Nat) :=
  match op with
  | .box _ v => (match flatB (evoC t v), Nat.ble 1 (evoC t v).cells.length with
    | true, true => some ((evoC t v).cells.length, [evoC t v], none)
    | _, _ => none)
  | .alloc ty => (match zAV P ty with
    | some x => (match flatB x, Nat.ble 1 x.cells.length with
      | true, true => some (x.cells.length, [x], none)
      | _, _ => none)
    | none => none)
  | .makeSlice ty l c => (match makeC P [] ty (evoC t l) (evoC t c) with
    | some ([⟨_, .row sz row⟩], .osl _ _ _ n) => some (sz, row, some n)
    | _ => none)
  | .buildSlice ty len parts => (match bldC P t (.buildSlice ty len parts) with
    | some (sz, xs) => some (sz, xs, some xs.length)
    | none => none)
  | _ => none
theorem alcC_ok {t : List (Nat × AV)} {op : Op} {sz : Nat} {l : List AV} {q : Option Nat} (h : alcC P t op = some (sz, l, q)) : ∃ p, alcA P (evo t) op = some (sz, l, q, p) ∧ p := by
  unfold alcC at h
  rw [evoC_eq] at h
  split at h
  · split at h
    · rename_i h1 h2
      rw [Nat.ble_eq] at h2
      simp only [Option.some.injEq, Prod.mk.injEq] at h
      obtain ⟨rfl, rfl, rfl⟩ := h
      exact ⟨_, rfl, flatB_ok h1, h2⟩
    · cases h
  · split at h
    · rename_i hz
      split at h
      · rename_i h1 h2
        rw [Nat.ble_eq] at h2
        simp only [Option.some.injEq, Prod.mk.injEq] at h
        obtain ⟨rfl, rfl, rfl⟩ := h
        refine ⟨_, ?_, And.intro (flatB_ok h1) h2⟩
        simp only [alcA, hz]
        rfl
      · cases h
    · cases h
  · split at h
    · rename_i hm
      obtain ⟨p, h1, h2⟩ := makeC_ok hm
      simp only [Option.some.injEq, Prod.mk.injEq] at h
      obtain ⟨rfl, rfl, rfl⟩ := h
      exact ⟨p, by simp only [alcA, h1], h2⟩
    · cases h
  · split at h
    · rename_i hm
      obtain ⟨p, h1, h2⟩ := bldC_ok hm
      simp only [Option.some.injEq, Prod.mk.injEq] at h
      obtain ⟨rfl, rfl, rfl⟩ := h
      exact ⟨p, by simp only [alcA, h1], h2⟩
    · cases h
  · cases h

/-- one operation at a memory: its value; the memory, if it turns it -/
def stepX1 (P : Program) (nf : Nat) (ih : Code → S → Option (Exit × S)) (t : List (Nat × AV)) (m : Mem) (op : Op) (aid : Nat) : Option (AV × Option Mem) :=
  match isAlc op with
  | true => (match alcC P t op, getM m aid with
    | some (sz, l, q), some e => setM m aid ⟨e.ver + 1, .row sz l⟩ fun m' => some (alcV aid (e.ver + 1) q, some m')
    | _, _ => none)
  | false =>
    match op with
    | .call ⟨.value fo, args, tys⟩ => (match fnOf (evoC t fo) with
      | some (f, caps) => (match xF P nf ih f (args.toList.map (evoC t) ++ caps) m with
        | some (x, m') => (match eqM m' m with
          | true => some (x, none)
          | false => some (x, some m'))
        | none => none)
      | none => none)
    | .pick c a b => (match evoC t c with
      | .val (.bool true) => some (evoC t a, none)
      | .val (.bool false) => some (evoC t b, none)
      | _ => none)
    | op => (match evC P t m op with
      | some x => some (x, none)
      | none => (match effC P t m op with
        | some (m', x) => some (x, some m')
        | none => none))
def stepX (P : Program) (nf : Nat) (ih : Code → S → Option (Exit × S)) (gds : List (Option Nat)) (t : List (Nat × AV)) (m : Mem) (o : Oper) (aid : Nat) : Option (AV × Option Mem) :=
  match o.guard with
  | none => stepX1 P nf ih t m o.op aid
  | some g => (match gvalC gds t g with
    | some true => stepX1 P nf ih t m o.op aid
    | some false => (match isDefer o.op with
      | true => none
      | false => some (.opt false (.bool false), none))
    | none => none)
section
variable {gds : List (Option Nat)} {nf : Nat} {ih : Code → S → Option (Exit × S)} (hE : Named P nf) (hs : Sound P ih)
include hE hs
theorem stepX1_ok {t : List (Nat × AV)} {m : Mem} {dst : Option Nat} {op : Op} {type : TypeId} {pos : String} {after : Array Edge} {aid : Nat} {x : AV} {om : Option Mem} (h : stepX1 P nf ih t m op aid = some (x, om)) : StepAt P gds t m ⟨dst, op, type, pos, after, none⟩ (om.getD m) x := by
  unfold stepX1 at h
  rw [evoC_eq] at h
  split at h
  · split at h
    · rename_i h1 h2
      rw [getM_eq] at h2
      rw [setM_eq] at h
      simp only [Option.some.injEq, Prod.mk.injEq] at h
      obtain ⟨rfl, rfl⟩ := h
      obtain ⟨p, h3, h4⟩ := alcC_ok h1
      exact alcA_step h3 h4 h2
    · cases h
  · split at h
    · rename_i fo args tys _
      split at h
      · rename_i f caps hf
        split at h
        · rename_i x' m' hx
          split at h
          · rename_i hm
            have hm' := eqM_ok hm
            simp only [Option.some.injEq, Prod.mk.injEq] at h
            obtain ⟨rfl, rfl⟩ := h
            obtain ⟨h1, h2⟩ := xF_sound hE hs hx
            have h3 : Spec P f (args.toList.map (evo t) ++ caps) m fun y m1 => y = x' ∧ m1 = m := h2.mono fun y m1 q => ⟨q.1, q.2.trans hm'⟩
            have h4 := Spec.stepAt (gds := gds) (dst := dst) (type := type) (pos := pos) (after := after) (tys := tys) h1 hf h3
            simpa [callOp] using h4
          · simp only [Option.some.injEq, Prod.mk.injEq] at h
            obtain ⟨rfl, rfl⟩ := h
            obtain ⟨h1, h2⟩ := xF_sound hE hs hx
            have h4 := Spec.stepAt (gds := gds) (dst := dst) (type := type) (pos := pos) (after := after) (tys := tys) h1 hf h2
            simpa [callOp] using h4
        · cases h
      · cases h
    · split at h
      · rename_i hg
        simp only [Option.some.injEq, Prod.mk.injEq] at h
        obtain ⟨rfl, rfl⟩ := h
        exact (pick_yield hg).stepAt
      · rename_i hg
        simp only [Option.some.injEq, Prod.mk.injEq] at h
        obtain ⟨rfl, rfl⟩ := h
        exact (pick_yield hg).stepAt
      · cases h
    · split at h
      · rename_i he
        obtain ⟨p, h1, h2⟩ := evC_ok he
        simp only [Option.some.injEq, Prod.mk.injEq] at h
        obtain ⟨rfl, rfl⟩ := h
        exact (stepA_yield (o := ⟨dst, op, type, pos, after, none⟩) (by unfold stepA; exact h1) h2).stepAt
      · split at h
        · rename_i he
          obtain ⟨p, h1, h2⟩ := effC_ok he
          simp only [Option.some.injEq, Prod.mk.injEq] at h
          obtain ⟨rfl, rfl⟩ := h
          exact EffAt.stepAt rfl ⟨effA_defer h1, fun X w ρ a hi ho => effA_done (o := ⟨dst, op, type, pos, after, none⟩) hi ho h1 h2⟩
        · cases h
theorem stepX_ok {t : List (Nat × AV)} {m : Mem} {o : Oper} {aid : Nat} {x : AV} {om : Option Mem} (h : stepX P nf ih gds t m o aid = some (x, om)) : StepAt P gds t m o (om.getD m) x := by
  obtain ⟨dst, op, type, pos, after, guard⟩ := o
  unfold stepX at h
  simp only at h
  split at h
  · exact stepX1_ok hE hs h
  · rename_i g
    rw [gvalC_eq] at h
    split at h
    · rename_i hv
      exact StepAt.guardT hv (stepX1_ok hE hs h)
    · rename_i hv
      split at h
      · cases h
      · rename_i hd
        simp only [Option.some.injEq, Prod.mk.injEq] at h
        obtain ⟨rfl, rfl⟩ := h
        exact (guardF_yield (fun c e => by subst e; simp [isDefer] at hd) hv).stepAt
    · cases h
end

/-- what was found at an operation, in the order of the text -/
structure Rec where
  t : List (Nat × AV)
  m : Mem
  o : Oper
  aid : Nat
  x : AV
  om : Option Mem
def ChainX (P : Program) (nf : Nat) (ih : Code → S → Option (Exit × S)) (gds : List (Option Nat)) : List Rec → List Oper → List (Nat × AV) → Mem → List (Nat × AV) → Prop
  | [], [], t, _, t' => t = t'
  | r :: rs, o :: l, t, m, t' => r.t = t ∧ r.m = m ∧ r.o = o ∧ stepX P nf ih gds r.t r.m r.o r.aid = some (r.x, r.om) ∧ ChainX P nf ih gds rs l (upd t o.dst r.x) (r.om.getD m) t'
  | _, _, _, _, _ => False
/-- a first run, in the order of the text -/
def firstX (P : Program) (nf : Nat) (ih : Code → S → Option (Exit × S)) (gds : List (Option Nat)) : List Oper → List (Nat × AV) → Mem → Nat → Option (List Rec × List (Nat × AV))
  | [], t, _, _ => some ([], t)
  | o :: l, t, m, aid =>
    match stepX P nf ih gds t m o aid with
    | some (x, om) => fV x fun x =>
      (match firstX P nf ih gds l (upd t o.dst x) (om.getD m) (match isAlc o.op with
        | true => aid + 1
        | false => aid) with
      | some (rs, t') => some (⟨t, m, o, aid, x, om⟩ :: rs, t')
      | none => none)
    | none => none
theorem firstX_ok {nf : Nat} {ih : Code → S → Option (Exit × S)} {gds : List (Option Nat)} : ∀ {l : List Oper} {t t' : List (Nat × AV)} {m : Mem} {aid : Nat} {rs : List Rec}, firstX P nf ih gds l t m aid = some (rs, t') → ChainX P nf ih gds rs l t m t'
  | [], t, t', m, aid, rs, h => by
    simp only [firstX, Option.some.injEq, Prod.mk.injEq] at h
    obtain ⟨rfl, rfl⟩ := h
    rfl
  | o :: l, t, t', m, aid, rs, h => by
    unfold firstX at h
    split at h
    · rename_i x om hx
      rw [fV_eq] at h
      split at h
      · rename_i rs' t'' hr
        simp only [Option.some.injEq, Prod.mk.injEq] at h
        obtain ⟨rfl, rfl⟩ := h
        exact ⟨rfl, rfl, rfl, hx, firstX_ok hr⟩
      · cases h
    · cases h
/-- the numbers of those that turn memory -/
def effIdx : List Rec → Nat → List Nat
  | [], _ => []
  | r :: l, k => match r.om with
    | some _ => fN k fun k => k :: effIdx l (k + 1)
    | none => effIdx l (k + 1)
def effRec : List Rec → List Rec
  | [] => []
  | r :: l => match r.om with
    | some _ => r :: effRec l
    | none => effRec l
/-- the memory, where just the first ones are listed -/
def lastM : List Rec → List Bool → Mem → Option Mem
  | r :: rs, true :: bs, m => lastM rs bs (r.om.getD m)
  | _, bs, m => match bs.any id with
    | true => none
    | false => some m
def foldM (P : Program) (gds : List (Option Nat)) : List Rec → List Bool → Mem → Mem
  | r :: rs, b :: bs, m => (match b with
    | true => (match stepX P 0 (fun _ _ => none) gds r.t m r.o r.aid with
      | some (_, some m') => foldM P gds rs bs m'
      | _ => foldM P gds rs bs m)
    | false => foldM P gds rs bs m)
  | _, _, m => m
def memOf (P : Program) (gds : List (Option Nat)) (rs : List Rec) (mv : Mem) (bits : List Bool) : Mem :=
  match lastM rs bits mv with
  | some m => m
  | none => foldM P gds rs bits mv
theorem memOf_none {gds : List (Option Nat)} (rs : List Rec) (mv : Mem) (l : List Nat) : memOf P gds rs mv (l.map fun _ => false) = mv := by
  have h : ((l.map fun _ => false).any id) = false := by
    induction l with
    | nil => rfl
    | cons a l ih => simpa using ih
  have : lastM rs (l.map fun _ => false) mv = some mv := by
    unfold lastM
    split
    · rename_i heq; cases l <;> simp at heq
    · rw [h]
  unfold memOf
  rw [this]
def aimX (es : List Nat) (mem : List Bool → Mem) (k : Nat) (b : List Bool) : Option Mem → Bool
  | none => (match es.contains k with
    | false => true
    | true => eqM (mem b) (mem (setB es k b)))
  | some m' => eqM m' (mem (setB es k b))
/-- an operation at each memory that may be there -/
def allX (P : Program) (nf : Nat) (ih : Code → S → Option (Exit × S)) (gds : List (Option Nat)) (es : List Nat) (mem : List Bool → Mem) (k : Nat) (r : Rec) : List (List Bool) → Bool
  | [] => true
  | b :: bs =>
    match (match (match r.om, r.o.op with
        | some _, _ => eqM r.m (mem b)
        | none, .call ⟨.value _, _, _⟩ => eqM r.m (mem b)
        | _, _ => false) with
      | true => aimX es mem k b r.om
      | false => (match stepX P nf ih gds r.t (mem b) r.o r.aid with
        | some (y, om) => (match eqV y r.x with
          | true => aimX es mem k b om
          | false => false)
        | none => false)) with
    | true => allX P nf ih gds es mem k r bs
    | false => false
def xM2 (P : Program) (nf : Nat) (ih : Code → S → Option (Exit × S)) (gds : List (Option Nat)) (ops : List Oper) (es : List Nat) (mem : List Bool → Mem) (n : Nat) : List Rec → Nat → Bool
  | [], _ => true
  | r :: rs, k =>
    match allX P nf ih gds es mem k r (consL ops es k), dstB n r.o.dst with
    | true, true => xM2 P nf ih gds ops es mem n rs (k + 1)
    | _, _ => false
def vacs (n : Nat) : Mem := List.replicate n ⟨0, .row 1 []⟩
def xM (P : Program) (nf : Nat) (ih : Code → S → Option (Exit × S)) (ops : List Oper) (s : S) : Option S :=
  match (ops.map (·.dst)).all (dstB s.n), ordB (ops.map (·.dst)) ops ops.length with
  | true, true =>
    fM (s.m.length + alcNo ops) (s.m ++ vacs (alcNo ops)) fun mv =>
    (match firstX P nf ih (ops.map (·.dst)) ops s.t mv s.m.length with
    | some (rs, t) =>
      (match xM2 P nf ih (ops.map (·.dst)) ops (effIdx rs 0) (memOf P (ops.map (·.dst)) (effRec rs) mv) s.n rs 0, (effIdx rs 0).all (fun e => Nat.ble (e + 1) ops.length) with
      | true, true => fM (memOf P (ops.map (·.dst)) (effRec rs) mv ((effIdx rs 0).map fun _ => true)).length (memOf P (ops.map (·.dst)) (effRec rs) mv ((effIdx rs 0).map fun _ => true)) fun m => some ⟨t, m, s.n, s.d⟩
      | _, _ => none)
    | none => none)
  | _, _ => none
section
variable {gds : List (Option Nat)} {nf : Nat} {ih : Code → S → Option (Exit × S)} (hE : Named P nf) (hs : Sound P ih)
include hE hs
theorem aimX_ok {es : List Nat} {mem : List Bool → Mem} {k : Nat} {b : List Bool} {om : Option Mem} (hl : b.length = es.length) (h : aimX es mem k b om = true) : mem (setB es k b) = om.getD (mem b) := by
  cases om with
  | none =>
    simp only [aimX] at h
    split at h
    · rename_i hc
      rw [setB_not hc b hl]; rfl
    · exact (eqM_ok h).symm
  | some m' => exact (eqM_ok h).symm
theorem allX_ok {es : List Nat} {mem : List Bool → Mem} {k : Nat} {r : Rec} (hr : stepX P nf ih gds r.t r.m r.o r.aid = some (r.x, r.om)) : ∀ {bl : List (List Bool)}, (∀ b ∈ bl, b.length = es.length) → allX P nf ih gds es mem k r bl = true → ∀ b ∈ bl, StepAt P gds r.t (mem b) r.o (mem (setB es k b)) r.x
  | [], _, _, b, hb => by cases hb
  | b0 :: bs, hl, h, b, hb => by
    unfold allX at h
    split at h
    · rename_i h1
      rcases List.mem_cons.1 hb with rfl | hb
      · split at h1
        · rename_i hm
          have e : r.m = mem b := by
            split at hm
            · exact eqM_ok hm
            · exact eqM_ok hm
            · cases hm
          have h2 := stepX_ok hE hs hr
          rw [aimX_ok hE hs (hl b (by simp)) h1, ← e]
          exact h2
        · split at h1
          · rename_i y om hy
            split at h1
            · rename_i hv
              have e := eqV_ok _ _ hv
              have h2 := stepX_ok hE hs hy
              rw [aimX_ok hE hs (hl b (by simp)) h1, ← e]
              exact h2
            · cases h1
          · cases h1
      · exact allX_ok hr (fun b hb => hl b (by simp [hb])) h b hb
    · cases h
theorem xM2_ok {ops : List Oper} {es : List Nat} {mem : List Bool → Mem} {n : Nat} : ∀ {l : List Oper} {rs : List Rec} {k : Nat} {t t' : List (Nat × AV)} {m : Mem}, ChainX P nf ih gds rs l t m t' → xM2 P nf ih gds ops es mem n rs k = true → AbsM P gds ops es mem n k l t t'
  | [], [], k, t, t', m, hc, h => by
    have e : t = t' := hc
    subst e; exact .nil
  | [], _ :: _, k, t, t', m, hc, h => hc.elim
  | _ :: _, [], k, t, t', m, hc, h => hc.elim
  | o :: l, r :: rs, k, t, t', m, hc, h => by
    obtain ⟨rfl, rfl, rfl, h4, h5⟩ := hc
    unfold xM2 at h
    split at h
    · rename_i h1 h2
      refine .cons (x := r.x) (dstB_ok h2) ?_ (xM2_ok h5 h)
      exact allX_ok hE hs h4 (fun b' hb' => allB_len (List.mem_filter.1 hb').1) h1
    · cases h
theorem xM_ok (hm : P.follows .mixedOrders = true) {r : Option Nat} {Q : Exit → S → Prop} {id : Nat} {ops : List Oper} {s s1 : S} (h : xM P nf ih ops s = some s1) (hq : Q .normal s1) : Wp P r (.region id ops.toArray true) Q s := by
  unfold xM at h
  split at h
  · rename_i h1 h2
    rw [fM_eq] at h
    have e : (s.m ++ vacs (alcNo ops)).take (s.m.length + alcNo ops) = s.m ++ vacs (alcNo ops) := List.take_of_length_le (by simp [vacs])
    rw [e] at h
    split at h
    · rename_i rs t hf
      split at h
      · rename_i hx h3
        rw [fM_eq, List.take_length] at h
        simp only [Option.some.injEq] at h
        subst h
        refine Wp.vacs (alcNo ops) ?_
        refine Wp.runM (effIdx rs 0) (memOf P (ops.map (·.dst)) (effRec rs) (s.m ++ vacs (alcNo ops))) (t1 := t) hm rfl h1 h2 ?_ (memOf_none _ _ _) (xM2_ok hE hs (firstX_ok hf) hx) hq
        rw [List.all_eq_true] at h3 ⊢
        intro x hx
        have := h3 x hx
        rw [Nat.ble_eq] at this
        simp only [decide_eq_true_eq]; omega
      · cases h
    · cases h
  · cases h
end

def keysC : List (Nat × AV) → List Nat → List Nat
  | [], acc => acc
  | (k, _) :: t, acc => match acc.any fun j => Nat.beq j k with
    | true => keysC t acc
    | false => keysC t (k :: acc)
def restr {α : Type} (t : List (Nat × AV)) : List Nat → (List (Nat × AV) → α) → α
  | [], k => k []
  | j :: js, k => fV (lookB t j) fun x => restr t js fun l => k ((j, x) :: l)
theorem restr_eq {α : Type} (t : List (Nat × AV)) : ∀ (js : List Nat) (k : List (Nat × AV) → α), restr t js k = k (js.map fun j => (j, look t j))
  | [], _ => rfl
  | j :: js, k => by simp [restr, fV_eq, restr_eq t js, lookB_eq]
def xLoop (ih : Code → S → Option (Exit × S)) (c : Code) (ks : List Nat) (n : Nat) : S → Option (Exit × S) :=
  Nat.rec (fun _ => none) (fun _ go s => match ih c s with
    | some (.normal, s1) => restr s1.t ks fun t => go ⟨t, s1.m, s1.n, s1.d⟩
    | r => r) n
def stepC (P : Program) (nf n : Nat) (ih : Code → S → Option (Exit × S)) (c : Code) (s : S) : Option (Exit × S) :=
  match c with
  | .skip => some (.normal, s)
  | .exit id => some (.exit id, s)
  | .ret => some (.ret, s)
  | .seq a b => (match ih a s with
    | some (.normal, s1) => ih b s1
    | r => r)
  | .block id c => (match ih c s with
    | some (.exit id', s1) => (match Nat.beq id' id with
      | true => some (.normal, s1)
      | false => some (.exit id', s1))
    | r => r)
  | .cond c a b => (match evoC s.t c with
    | .val (.bool true) => ih a s
    | .val (.bool false) => ih b s
    | _ => none)
  | .loop c => restr s.t (keysC s.t []) fun t => xLoop ih c (keysC s.t []) n ⟨t, s.m, s.n, s.d⟩
  | .region _ ops false =>
    (match (ops.toList.map (·.dst)).all (dstB s.n) with
    | true => (match xL P nf ih (ops.toList.map (·.dst)) ops.toList s with
      | some s1 => some (.normal, s1)
      | none => none)
    | false => none)
  | .region _ ops true =>
    (match (ops.toList.map (·.dst)).all (dstB s.n), drawB (ops.toList.map (·.dst)) ops.toList (calmN ops.toList) with
    | true, false => (match xM P nf ih ops.toList s with
      | some s1 => some (.normal, s1)
      | none => none)
    | true, true => (match xN P nf ih (ops.toList.map (·.dst)) (ops.toList.take (calmN ops.toList)) s with
      | some s1 => (match xL P nf ih (ops.toList.map (·.dst)) (ops.toList.drop (calmN ops.toList)) s1 with
        | some s2 => some (.normal, s2)
        | none => none)
      | none => (match xM P nf ih ops.toList s with
        | some s1 => some (.normal, s1)
        | none => none))
    | _, _ => none)
  | _ => none
/-- the evaluator of code -/
def xC (P : Program) (nf n : Nat) : Code → S → Option (Exit × S) := Nat.rec (fun _ _ => none) (fun n ih => stepC P nf n ih) n
theorem xC_sound {nf : Nat} (hE : Named P nf) (hm : P.follows .mixedOrders = true) : ∀ n, Sound P (xC P nf n)
  | 0 => fun r c s s' e Q h _ => by cases h
  | n + 1 => by
    have hs := xC_sound hE hm n
    intro r c s s' e Q h hq
    change stepC P nf n (xC P nf n) c s = some (e, s') at h
    unfold stepC at h
    split at h
    · simp only [Option.some.injEq, Prod.mk.injEq] at h
      obtain ⟨rfl, rfl⟩ := h
      exact Wp.skip hq
    · simp only [Option.some.injEq, Prod.mk.injEq] at h
      obtain ⟨rfl, rfl⟩ := h
      exact Wp.exit hq
    · simp only [Option.some.injEq, Prod.mk.injEq] at h
      obtain ⟨rfl, rfl⟩ := h
      exact Wp.ret hq
    · rename_i a b
      apply Wp.seq
      split at h
      · rename_i s1 h1
        exact hs r a s s1 .normal _ h1 (hs r b s1 s' e Q h hq)
      · rename_i hne
        refine hs r a s s' e _ h ?_
        cases e <;> first | exact hq | exact absurd h (hne _)
    · rename_i id c
      apply Wp.block
      split at h
      · rename_i id' s1 h1
        refine hs r c s s1 _ _ h1 ?_
        simp only [bQ]
        split at h
        · rename_i hb
          rw [Nat.beq_eq] at hb
          simp only [Option.some.injEq, Prod.mk.injEq] at h
          obtain ⟨rfl, rfl⟩ := h
          rw [if_pos hb]; exact hq
        · rename_i hb
          simp only [Option.some.injEq, Prod.mk.injEq] at h
          obtain ⟨rfl, rfl⟩ := h
          rw [if_neg fun e => (by subst e; simp at hb)]; exact hq
      · rename_i hne
        refine hs r c s s' e _ h ?_
        cases e <;> first | exact hq | exact absurd h (hne _ _)
    · rename_i c a b
      rw [evoC_eq] at h
      split at h
      · rename_i hc
        exact Wp.condT hc (hs r a s s' e Q h hq)
      · rename_i hc
        exact Wp.condF hc (hs r b s s' e Q h hq)
      · cases h
    · rename_i c
      generalize keysC s.t [] = ks at h
      rw [restr_eq] at h
      have hle : ∀ s1 : S, Le s1 ⟨ks.map fun j => (j, look s1.t j), s1.m, s1.n, s1.d⟩ := fun s1 => by
        refine ⟨fun p hp => ?_, rfl, rfl, rfl⟩
        simp only [List.mem_map] at hp
        obtain ⟨j, _, rfl⟩ := hp
        rfl
      refine Wp.loop (β := Nat × S) (fun b => b.2) (fun b => xLoop (xC P nf n) c ks b.1 b.2 = some (e, s')) (fun b => b.1) (n, _) (hle s) h ?_
      · rintro ⟨k, s1⟩ h1
        cases k with
        | zero => cases h1
        | succ k =>
          change (match xC P nf n c s1 with
            | some (.normal, s1) => restr s1.t ks fun t => xLoop (xC P nf n) c ks k ⟨t, s1.m, s1.n, s1.d⟩
            | r => r) = some (e, s') at h1
          split at h1
          · rename_i s2 h2
            rw [restr_eq] at h1
            exact hs r c s1 s2 .normal _ h2 ⟨(k, ⟨ks.map fun j => (j, look s2.t j), s2.m, s2.n, s2.d⟩), hle s2, h1, Nat.lt_succ_self k⟩
          · rename_i hne
            refine hs r c s1 s' e _ h1 ?_
            cases e <;> first | exact hq | exact absurd h1 (hne _)
    · rename_i id ops
      split at h
      · rename_i hB
        split at h
        · rename_i s1 h1
          simp only [Option.some.injEq, Prod.mk.injEq] at h
          obtain ⟨rfl, rfl⟩ := h
          have := Wp.run (P := P) (r := r) (Q := Q) (s := s) (id := id) (ops := ops.toList) rfl hB (xL_run hE hs h1 hq)
          simpa using this
        · cases h
      · cases h
    · rename_i id ops
      split at h
      · split at h
        · rename_i s1 h1
          simp only [Option.some.injEq, Prod.mk.injEq] at h
          obtain ⟨rfl, rfl⟩ := h
          have := xM_ok (r := r) (id := id) hE hs hm h1 hq
          simpa using this
        · cases h
      · rename_i hB hD
        split at h
        · rename_i s1 h1
          split at h
          · rename_i s2 h2
            simp only [Option.some.injEq, Prod.mk.injEq] at h
            obtain ⟨rfl, rfl⟩ := h
            have := Wp.runD (P := P) (r := r) (Q := Q) (s := s) (id := id) (ops := ops.toList) _ hm rfl hB hD rfl rfl (xN_abn hE hs h1) (xL_run hE hs h2 hq)
            simpa using this
          · cases h
        · split at h
          · rename_i s1 h1
            simp only [Option.some.injEq, Prod.mk.injEq] at h
            obtain ⟨rfl, rfl⟩ := h
            have := xM_ok (r := r) (id := id) hE hs hm h1 hq
            simpa using this
          · cases h
      · cases h
    · cases h
/-- the contract of a call whose answer the evaluator gives -/
theorem xF_spec {nf n : Nat} (hE : Named P nf) (hm : P.follows .mixedOrders = true) {f : FuncId} {args : List AV} {m m' : Mem} {x : AV} (h : xF P nf (xC P nf n) f args m = some (x, m')) : Spec P f args m fun y m1 => y = x ∧ m1 = m' :=
  (xF_sound hE (xC_sound hE hm n) h).2
def namedB (P : Program) : Nat → Bool
  | 0 => true
  | n + 1 => namedB P n && (match P.funcs[n]? with
    | some fn => !(fn.name == "runtime.NumGoroutine")
    | none => true)
theorem namedB_ok : ∀ {n : Nat}, namedB P n = true → Named P n
  | 0, _, f, fn, hf, _ => by omega
  | n + 1, h, f, fn, hf, hfn => by
    unfold namedB at h
    rw [Bool.and_eq_true] at h
    rcases Nat.lt_or_ge f n with h1 | h1
    · exact namedB_ok h.1 f fn h1 hfn
    · have e : f = n := by omega
      subst e
      have h2 := h.2
      rw [hfn] at h2
      simpa using h2
end Go.Vg
