/- The abstract machine, part Ec: the evaluator's regions and code, and that it is right. -/
import Derived.Test.YtljchlkmalidnaaVgEb
import Derived.Test.YtljchlkmalidnaaVgGr
set_option linter.all false
set_option linter.unusedVariables false
namespace Go.Vg
open Go.RowKit
variable {P : Program}

def bldC (P : Program) (t : List (Nat × AV)) (op : Op) : Option (Nat × List AV) :=
  match op with
  | .buildSlice ty len parts =>
    match uk P ty with
    | .slice e =>
      match tsz P e, partsOf (evoC t) len parts.toList with
      | some sz, some xs => if elB P e = true then (match Nat.ble (len * sz) 16777216, xs.all (fun x => flatB x && Nat.beq x.cells.length sz) with
        | true, true => some (sz, xs)
        | _, _ => none) else none
      | _, _ => none
    | _ => none
  | _ => none
theorem bldC_ok {t : List (Nat × AV)} {op : Op} {sz : Nat} {xs : List AV} (h : bldC P t op = some (sz, xs)) : ∃ p, bldA P (evo t) op = some (sz, xs, p) ∧ p := by
  unfold bldC at h
  rw [evoC_eq] at h
  split at h
  · split at h
    · rename_i hu
      split at h
      · rename_i hs hx
        split at h
        · rename_i he
          split at h
          · rename_i h1 h2
            rw [Nat.ble_eq] at h1
            simp only [Option.some.injEq, Prod.mk.injEq] at h
            obtain ⟨rfl, rfl⟩ := h
            unfold bldA
            simp only [hu, hs, hx]
            rw [if_pos ⟨he, h1⟩]
            refine ⟨_, rfl, fun x hx => ?_⟩
            have := List.all_eq_true.1 h2 x hx
            rw [Bool.and_eq_true, Nat.beq_eq] at this
            exact ⟨flatB_ok this.1, this.2⟩
          · cases h
        · cases h
      · cases h
    · cases h
  · cases h

/-- bytes of a row -/
def bytesB : List AV → Option (List UInt8)
  | [] => some []
  | .val (.int .u8 n) :: l => (match ltB n 256, bytesB l with
    | true, some bs => some (UInt8.ofNat n.toNat :: bs)
    | _, _ => none)
  | _ => none
theorem bytesB_ok : ∀ {l : List AV} {bs : List UInt8}, bytesB l = some bs → l = bs.map AV.byte
  | [], bs, h => by simp only [bytesB, Option.some.injEq] at h; subst h; rfl
  | x :: l, bs, h => by
    unfold bytesB at h
    split at h
    · rename_i heq; cases heq
    · rename_i n l' heq
      simp only [List.cons.injEq] at heq
      obtain ⟨rfl, rfl⟩ := heq
      split at h
      · rename_i bs' h1 h2
        simp only [Option.some.injEq] at h
        subst h
        have h3 := ltB_ok h1
        have h4 := bytesB_ok h2
        simp only [List.map_cons, ← h4, List.cons.injEq, and_true]
        simp only [AV.byte]
        congr 2
        simp
        omega
      · cases h
    · cases h

/-- the value, and the memory, of an operation without a guard -/
def opC (P : Program) (t : List (Nat × AV)) (m : Mem) (op : Op) : Option (Mem × AV) :=
  match op with
  | .pick c a b => (match evoC t c with
    | .val (.bool true) => some (m, evoC t a)
    | .val (.bool false) => some (m, evoC t b)
    | _ => none)
  | op =>
    match evC P t m op with
    | some x => some (m, x)
    | none =>
      match effC P t m op with
      | some r => some r
      | none =>
        match bldC P t op with
        | some (sz, xs) => fR xs fun xs => appM m ⟨0, .row sz xs⟩ fun m' => some (m', .osl m.length 0 0 xs.length)
        | none =>
          match op with
          | .convert a b x =>
            (match uk P a, uk P b with
            | .string, .slice e => (match uk P e, evoC t x with
              | .int .u8, .val (.string s) => (match Nat.ble s.data.toList.length 100000 with
                | true => fR (s.data.toList.map AV.byte) fun l => appM m ⟨0, .row 1 l⟩ fun m' => some (m', .osl m.length 0 0 s.size)
                | false => none)
              | _, _ => none)
            | .slice e, .string => (match uk P e, rowC m (evoC t x) with
              | .int .u8, some (1, l) => (match bytesB l with
                | some bs => some (m, .str ⟨bs.toArray⟩)
                | none => none)
              | _, _ => none)
            | _, _ => none)
          | .binOp .eql ty x (.const (.slice none 0 0)) _ =>
            (match uk P ty, evoC t x with
            | .slice _, .lst _ (_ :: _) => some (m, .bool false)
            | .slice _, .osl id ver _ (_ + 1) => (match getM m id with
              | some e => (match Nat.beq e.ver ver with
                | true => some (m, .bool false)
                | false => none)
              | none => none)
            | _, _ => none)
          | .load ty (.global g) =>
            (match GR with
            | some (g', ss) => (match Nat.beq g g', agg? P ty with
              | true, some false => some (m, .strs ss)
              | _, _ => none)
            | none => none)
          | _ => none
section
variable {gds : List (Option Nat)} {l : List Oper} {Q : S → Prop} {s : S}
theorem opC_run {dst : Option Nat} {op : Op} {type : TypeId} {pos : String} {after : Array Edge} {m' : Mem} {x : AV} (h : opC P s.t s.m op = some (m', x)) (k : Run P gds l Q ({ s with m := m' }.put dst x)) : Run P gds (⟨dst, op, type, pos, after, none⟩ :: l) Q s := by
  unfold opC at h
  split at h
  · rename_i c a b
    rw [evoC_eq] at h
    split at h
    · rename_i hg
      simp only [Option.some.injEq, Prod.mk.injEq] at h
      obtain ⟨rfl, rfl⟩ := h
      exact Run.yield (pick_yield hg) k
    · rename_i hg
      simp only [Option.some.injEq, Prod.mk.injEq] at h
      obtain ⟨rfl, rfl⟩ := h
      exact Run.yield (pick_yield hg) k
    · cases h
  · split at h
    · rename_i he
      obtain ⟨p, h1, h2⟩ := evC_ok he
      simp only [Option.some.injEq, Prod.mk.injEq] at h
      obtain ⟨rfl, rfl⟩ := h
      exact Run.stepP (o := ⟨dst, op, type, pos, after, none⟩) (by unfold stepA; exact h1) h2 k
    · split at h
      · rename_i he
        obtain ⟨p, h1, h2⟩ := effC_ok (h ▸ he)
        exact Run.effP h1 h2 k
      · split at h
        · rename_i hb
          obtain ⟨p, h1, h2⟩ := bldC_ok hb
          rw [fR_eq, appM_eq] at h
          simp only [Option.some.injEq, Prod.mk.injEq] at h
          obtain ⟨rfl, rfl⟩ := h
          exact Run.build h1 h2 k
        · rw [evoC_eq] at h
          split at h
          · split at h
            · rename_i h1 h2
              split at h
              · rename_i h3 h4
                split at h
                · rename_i h5
                  rw [Nat.ble_eq, bsize] at h5
                  rw [fR_eq, appM_eq] at h
                  simp only [Option.some.injEq, Prod.mk.injEq] at h
                  obtain ⟨rfl, rfl⟩ := h
                  exact Run.bytes h1 h2 h3 h4 (by omega) k
                · cases h
              · cases h
            · rename_i h1 h2
              split at h
              · rename_i h3 h4
                split at h
                · rename_i h5
                  obtain ⟨h6, h7⟩ := rowC_ok h4
                  rw [bytesB_ok h5] at h6
                  simp only [Option.some.injEq, Prod.mk.injEq] at h
                  obtain ⟨rfl, rfl⟩ := h
                  exact Run.strOf h1 h3 h2 h6 h7 k
                · cases h
              · cases h
            · cases h
          · split at h
            · rename_i hu hx
              simp only [Option.some.injEq, Prod.mk.injEq] at h
              obtain ⟨rfl, rfl⟩ := h
              refine Run.isnil hu (by rw [hx]; rfl) fun b hb => ?_
              rw [hx] at hb
              cases b with
              | false => exact k
              | true => exact absurd (hb rfl) (by simp)
            · rename_i hu hx
              split at h
              · rename_i e he
                rw [getM_eq] at he
                split at h
                · rename_i hv
                  rw [Nat.beq_eq] at hv
                  simp only [Option.some.injEq, Prod.mk.injEq] at h
                  obtain ⟨rfl, rfl⟩ := h
                  refine Run.isnil hu (by rw [hx]; rfl) fun b hb => ?_
                  rw [hx] at hb
                  cases b with
                  | false => exact k
                  | true =>
                    simp only [nilOk, he] at hb
                    exact absurd (hb hv trivial) (by simp)
                · cases h
              · cases h
            · cases h
          · split at h
            · rename_i hg
              split at h
              · rename_i h1 h2
                rw [Nat.beq_eq] at h1
                subst h1
                simp only [Option.some.injEq, Prod.mk.injEq] at h
                obtain ⟨rfl, rfl⟩ := h
                exact Run.loadG hg h2 k
              · cases h
            · cases h
          · cases h
end

def gvalC (gds : List (Option Nat)) (t : List (Nat × AV)) (g : Nat × Bool) : Option Bool :=
  match (gds[g.1]?).bind id with
  | some d =>
    match lookB t d with
    | .val (.bool b) => some (if g.2 then b else !b)
    | .opt h (.val (.bool b)) => some (h && (if g.2 then b else !b))
    | _ => none
  | none => none
theorem gvalC_eq (gds : List (Option Nat)) (t : List (Nat × AV)) (g : Nat × Bool) : gvalC gds t g = gval gds t g := by
  unfold gvalC gval
  simp only [lookB_eq]
  rfl
def isDefer : Op → Bool
  | .defer _ => true
  | _ => false

/-- one operation, in the order of the text -/
def xO1 (P : Program) (nf : Nat) (ih : Code → S → Option (Exit × S)) (s : S) (dst : Option Nat) (op : Op) : Option S :=
  match op with
  | .call ⟨.value fo, args, tys⟩ => (match calleeC (evoC s.t fo) with
    | some (f, fs, cs) => (match xF P nf ih f (fs ++ (args.toList.map (evoC s.t) ++ cs)) s.m with
      | some (x, m') => some (putA ⟨s.t, m', s.n, s.d⟩ dst x)
      | none => none)
    | none => none)
  | op => match opC P s.t s.m op with
    | some (m', x) => fV x fun x => some (putA ⟨s.t, m', s.n, s.d⟩ dst x)
    | none => none
def xO (P : Program) (nf : Nat) (ih : Code → S → Option (Exit × S)) (gds : List (Option Nat)) (s : S) (o : Oper) : Option S :=
  match o.guard with
  | none => xO1 P nf ih s o.dst o.op
  | some g => match gvalC gds s.t g with
    | some true => xO1 P nf ih s o.dst o.op
    | some false => (match isDefer o.op with
      | true => none
      | false => some (putA s o.dst (.opt false (.bool false))))
    | none => none
def xL (P : Program) (nf : Nat) (ih : Code → S → Option (Exit × S)) (gds : List (Option Nat)) : List Oper → S → Option S
  | [], s => some s
  | o :: l, s => match xO P nf ih gds s o with
    | some s1 => xL P nf ih gds l s1
    | none => none

section
variable {gds : List (Option Nat)} {nf : Nat} {ih : Code → S → Option (Exit × S)} (hE : Named P nf) (hs : Sound P ih)
include hE hs
theorem xO1_run {l : List Oper} {Q : S → Prop} {s s1 : S} {dst : Option Nat} {op : Op} {type : TypeId} {pos : String} {after : Array Edge} (h : xO1 P nf ih s dst op = some s1) (k : Run P gds l Q s1) : Run P gds (⟨dst, op, type, pos, after, none⟩ :: l) Q s := by
  unfold xO1 at h
  split at h
  · rename_i fo args tys
    split at h
    · rename_i f fs cs hc
      rw [evoC_eq] at hc h
      split at h
      · rename_i x m' hx
        obtain ⟨h1, h2⟩ := xF_sound hE hs hx
        simp only [Option.some.injEq] at h
        subst h
        refine Run.specB h1 hc h2 ?_
        rintro _ _ ⟨rfl, rfl⟩
        rw [putA_eq] at k
        exact k
      · cases h
    · cases h
  · split at h
    · rename_i hx
      rw [fV_eq] at h
      simp only [Option.some.injEq] at h
      subst h
      rw [putA_eq] at k
      exact opC_run hx k
    · cases h
theorem xL_run {Q : S → Prop} : ∀ {l : List Oper} {s s1 : S}, xL P nf ih gds l s = some s1 → Q s1 → Run P gds l Q s
  | [], s, s1, h, k => by simp only [xL, Option.some.injEq] at h; subst h; exact Run.nil k
  | ⟨dst, op, type, pos, after, guard⟩ :: l, s, s1, h, k => by
    unfold xL at h
    split at h
    · rename_i s2 h2
      have k2 := xL_run h k
      unfold xO at h2
      split at h2
      · rename_i hg
        simp only at hg; subst hg
        exact xO1_run hE hs h2 k2
      · rename_i g hg
        simp only at hg; subst hg
        rw [gvalC_eq] at h2
        split at h2
        · rename_i hv
          exact Run.gtrue0 hv (xO1_run hE hs h2 k2)
        · rename_i hv
          split at h2
          · cases h2
          · rename_i hd
            simp only [Option.some.injEq] at h2
            subst h2
            rw [putA_eq] at k2
            exact Run.yield (guardF_yield (fun c e => by subst e; simp [isDefer] at hd) hv) k2
        · cases h2
    · cases h
end

/-! a region that draws: what turns no memory comes first, in any order -/
def plainB : AV → Bool
  | .val _ => true
  | .any => true
  | .emp => true
  | .agg xs => xs.all fun
    | .val _ => true
    | .emp => true
    | _ => false
  | .tup xs => xs.all fun
    | .val _ => true
    | .emp => true
    | _ => false
  | _ => false
theorem plainB_ok {x : AV} (h : plainB x = true) : x.plain := by
  have key : ∀ xs : List AV, (xs.all fun
      | .val _ => true
      | .emp => true
      | _ => false) = true → plainL xs := by
    intro xs
    induction xs with
    | nil => intro _; trivial
    | cons y ys ih =>
      intro h
      simp only [List.all_cons, Bool.and_eq_true] at h
      refine ⟨?_, ih h.2⟩
      have h1 := h.1
      cases y <;> first | trivial | cases h1
  cases x <;> first | trivial | cases h | exact key _ h
def calm : Op → Bool
  | .move _ | .assign _ | .pick .. | .binOp .. | .unOp .. | .convert .. | .extract .. | .indexAddr .. | .load .. | .fieldAddr .. | .field .. | .index .. | .slice .. | .build .. | .buildSlice .. | .makeFunc .. | .nilCheck _ | .lookup .. => true
  | .call c => (match c.callee with
    | .value _ => true
    | .builtin .len => true
    | .builtin .min => true
    | .builtin .max => true
    | _ => false)
  | _ => false
def calmN : List Oper → Nat
  | [] => 0
  | o :: l => match calm o.op with
    | true => calmN l + 1
    | false => 0
def xN1 (P : Program) (nf : Nat) (ih : Code → S → Option (Exit × S)) (s : S) (op : Op) : Option AV :=
  match op with
  | .call ⟨.value fo, args, tys⟩ => (match fnOf (evoC s.t fo) with
    | some (f, caps) => (match Nat.beq (mxL ((args.toList.map (evoC s.t) ++ caps).map (view s.m))) 0 with
      | true => (match xF P nf ih f ((args.toList.map (evoC s.t) ++ caps).map (view s.m)) [] with
        | some (x, []) => (match plainB x with
          | true => some x
          | false => none)
        | _ => none)
      | false => none)
    | none => none)
  | .pick c a b => (match evoC s.t c with
    | .val (.bool true) => some (evoC s.t a)
    | .val (.bool false) => some (evoC s.t b)
    | _ => none)
  | op => match evC P s.t s.m op with
    | some x => some x
    | none => match bldC P s.t op with
      | some (sz, xs) => some (.lst sz xs)
      | none => none
def xN (P : Program) (nf : Nat) (ih : Code → S → Option (Exit × S)) (gds : List (Option Nat)) : List Oper → S → Option S
  | [], s => some s
  | o :: l, s =>
    match (match o.guard with
      | none => xN1 P nf ih s o.op
      | some g => (match gvalC gds s.t g with
        | some true => xN1 P nf ih s o.op
        | some false => (match isDefer o.op with
          | true => none
          | false => some (.opt false (.bool false)))
        | none => none)) with
    | some x => fV x fun x => xN P nf ih gds l (putA s o.dst x)
    | none => none
section
variable {gds : List (Option Nat)} {nf : Nat} {ih : Code → S → Option (Exit × S)} (hE : Named P nf) (hs : Sound P ih)
include hE hs
theorem xN1_yield {s : S} {dst : Option Nat} {op : Op} {type : TypeId} {pos : String} {after : Array Edge} {x : AV} (h : xN1 P nf ih s op = some x) : Yield P gds s.t s.m ⟨dst, op, type, pos, after, none⟩ x := by
  unfold xN1 at h
  rw [evoC_eq] at h
  split at h
  · rename_i fo args tys
    split at h
    · rename_i f caps hf
      split at h
      · rename_i hz
        rw [Nat.beq_eq] at hz
        split at h
        · rename_i x' hx
          split at h
          · rename_i hp
            simp only [Option.some.injEq] at h
            subst h
            obtain ⟨h1, h2⟩ := xF_sound hE hs hx
            have ho : (⟨dst, .call ⟨.value fo, args, tys⟩, type, pos, after, none⟩ : Oper).op = callOp fo args.toList tys := by simp [callOp]
            exact Pure.yield (g := none) ho rfl trivial hf h1 (fun _ => h2) rfl (mxL_ok _ (by rw [hz]; exact Nat.le_refl _)) (plainB_ok hp)
          · cases h
        · cases h
      · cases h
    · cases h
  · split at h
    · rename_i hg
      simp only [Option.some.injEq] at h
      subst h
      exact pick_yield hg
    · rename_i hg
      simp only [Option.some.injEq] at h
      subst h
      exact pick_yield hg
    · cases h
  · split at h
    · rename_i he
      obtain ⟨p, h1, h2⟩ := evC_ok he
      simp only [Option.some.injEq] at h
      subst h
      exact stepA_yield (o := ⟨dst, op, type, pos, after, none⟩) (by unfold stepA; exact h1) h2
    · split at h
      · rename_i hb
        obtain ⟨p, h1, h2⟩ := bldC_ok hb
        simp only [Option.some.injEq] at h
        subst h
        exact bldA_yield h1 h2
      · cases h
theorem xN_abn : ∀ {l : List Oper} {s s1 : S}, xN P nf ih gds l s = some s1 → Abn P gds l s s1
  | [], s, s1, h => by simp only [xN, Option.some.injEq] at h; subst h; exact Abn.nil
  | ⟨dst, op, type, pos, after, guard⟩ :: l, s, s1, h => by
    unfold xN at h
    split at h
    · rename_i x hx
      rw [fV_eq] at h
      have k2 := xN_abn h
      rw [putA_eq] at k2
      refine Abn.yield (x := x) ?_ k2
      simp only at hx
      split at hx
      · exact xN1_yield hE hs hx
      · rename_i g
        rw [gvalC_eq] at hx
        split at hx
        · rename_i hv
          exact guardT_yield hv (xN1_yield hE hs hx)
        · rename_i hv
          split at hx
          · cases hx
          · rename_i hd
            simp only [Option.some.injEq] at hx
            subst hx
            exact guardF_yield (fun c e => by subst e; simp [isDefer] at hd) hv
        · cases hx
    · cases h
end

end Go.Vg
