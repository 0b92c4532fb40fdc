/- The abstract machine, part Eb: an evaluator of code at known values; it is made to be run by the kernel. -/
import Derived.Test.YtljchlkmalidnaaVgEa
import Derived.Test.YtljchlkmalidnaaVgDm
set_option linter.all false
set_option linter.unusedVariables false
namespace Go.Vg
open Go.RowKit
variable {P : Program}

/-! values are brought to their form before they are laid down -/
def fN {α : Type} (j : Nat) (k : Nat → α) : α :=
  match j with
  | 0 => k 0
  | j + 1 => k (j + 1)
theorem fN_eq {α : Type} (j : Nat) (k : Nat → α) : fN j k = k j := by cases j <;> rfl
def fI {α : Type} (n : Int) (k : Int → α) : α :=
  match n with
  | .ofNat j => fN j fun j => k (.ofNat j)
  | .negSucc j => fN j fun j => k (.negSucc j)
theorem fI_eq {α : Type} (n : Int) (k : Int → α) : fI n k = k n := by cases n <;> simp [fI, fN_eq]
def fC {α : Type} (x : AV) (k : AV → α) : α :=
  match x with
  | .val (.int d n) => fI n fun n => k (.val (.int d n))
  | .val (.bool b) => (match b with
    | true => k (.val (.bool true))
    | false => k (.val (.bool false)))
  | .osl id ver off len => fN id fun id => fN ver fun ver => fN off fun off => fN len fun len => k (.osl id ver off len)
  | .optr id ver i j => fN id fun id => fN ver fun ver => fN i fun i => fN j fun j => k (.optr id ver i j)
  | .omap id ver => fN id fun id => fN ver fun ver => k (.omap id ver)
  | .emp => k .emp
  | .any => k .any
  | x => k x
theorem fC_eq {α : Type} (x : AV) (k : AV → α) : fC x k = k x := by
  unfold fC
  split <;> first | rfl | (simp only [fI_eq, fN_eq]; done) | (split <;> rfl)
def fL {α : Type} (l : List AV) (k : List AV → α) : α :=
  match l with
  | [] => k []
  | x :: l => fC x fun x => fL l fun l => k (x :: l)
theorem fL_eq {α : Type} : ∀ (l : List AV) (k : List AV → α), fL l k = k l
  | [], _ => rfl
  | x :: l, k => by rw [fL, fC_eq, fL_eq l]
def fV {α : Type} (x : AV) (k : AV → α) : α :=
  match x with
  | .agg xs => fL xs fun xs => k (.agg xs)
  | .tup xs => fL xs fun xs => k (.tup xs)
  | .clo f xs => fL xs fun xs => k (.clo f xs)
  | .bnd f xs => fL xs fun xs => k (.bnd f xs)
  | x => fC x k
theorem fV_eq {α : Type} (x : AV) (k : AV → α) : fV x k = k x := by
  unfold fV
  split <;> simp only [fL_eq, fC_eq]
def setM {α : Type} : Mem → Nat → Ent → (Mem → α) → α
  | [], _, _, k => k []
  | _ :: m, 0, e, k => k (e :: m)
  | e' :: m, n + 1, e, k => setM m n e fun m => k (e' :: m)
theorem setM_eq {α : Type} : ∀ (m : Mem) (n : Nat) (e : Ent) (k : Mem → α), setM m n e k = k (m.set n e)
  | [], _, _, _ => by simp [setM]
  | _ :: m, 0, e, k => by simp [setM]
  | e' :: m, n + 1, e, k => by simp [setM, setM_eq m n e]
def appM {α : Type} : Mem → Ent → (Mem → α) → α
  | [], e, k => k [e]
  | e' :: m, e, k => appM m e fun m => k (e' :: m)
theorem appM_eq {α : Type} : ∀ (m : Mem) (e : Ent) (k : Mem → α), appM m e k = k (m ++ [e])
  | [], _, _ => rfl
  | e' :: m, e, k => by simp [appM, appM_eq m e]
def fR {α : Type} (l : List AV) (k : List AV → α) : α :=
  match l with
  | [] => k []
  | x :: l => fV x fun x => fR l fun l => k (x :: l)
theorem fR_eq {α : Type} : ∀ (l : List AV) (k : List AV → α), fR l k = k l
  | [], _ => rfl
  | x :: l, k => by rw [fR, fV_eq, fR_eq l]

def fK1 {α : Type} (v : Value) (k : Value → α) : α :=
  match v with
  | .int d n => fI n fun n => k (.int d n)
  | v => k v
theorem fK1_eq {α : Type} (v : Value) (k : Value → α) : fK1 v k = k v := by
  unfold fK1
  split <;> simp only [fI_eq]
def fKs {α : Type} : List Value → (List Value → α) → α
  | [], k => k []
  | v :: l, k => fK1 v fun v => fKs l fun l => k (v :: l)
theorem fKs_eq {α : Type} : ∀ (l : List Value) (k : List Value → α), fKs l k = k l
  | [], _ => rfl
  | v :: l, k => by rw [fKs, fK1_eq, fKs_eq l]
def fK {α : Type} (v : Value) (k : Value → α) : α :=
  match v with
  | .agg a => fKs a.toList fun l => k (.agg l.toArray)
  | v => fK1 v k
theorem fK_eq {α : Type} (v : Value) (k : Value → α) : fK v k = k v := by
  unfold fK
  split
  · rw [fKs_eq]
  · rw [fK1_eq]
def fP {α : Type} : List (Value × AV) → (List (Value × AV) → α) → α
  | [], k => k []
  | (a, x) :: l, k => fP l fun l => k ((a, x) :: l)
theorem fP_eq {α : Type} : ∀ (l : List (Value × AV)) (k : List (Value × AV) → α), fP l k = k l
  | [], _ => rfl
  | (a, x) :: l, k => by rw [fP, fP_eq l]
def updC (P : Program) (m : Mem) (ty : TypeId) (x k v : AV) : Option (Mem × AV) :=
  match x, mpT P ty, keyV k with
  | .omap id ver, some (kt, _), some kv =>
    match mpM m id ver with
    | some l =>
      fK kv fun kv => match keysB P kt kv l with
      | true => fV v fun v => fP (updL l kv v) fun l => setM m id ⟨ver, .mp l⟩ fun m' => some (m', .any)
      | false => none
    | none => none
  | _, _, _ => none
theorem updC_ok {m m' : Mem} {ty : TypeId} {x k v y : AV} (h : updC P m ty x k v = some (m', y)) : ∃ p, updA P m ty x k v = some (m', y, p) ∧ p := by
  unfold updC at h
  split at h <;> (try (cases h; done))
  rename_i id ver kt et kv hmt hkv
  split at h <;> (try (cases h; done))
  rename_i l hm
  rw [fK_eq] at h
  split at h <;> (try (cases h; done))
  rename_i hk
  rw [fV_eq, fP_eq, setM_eq] at h
  simp only [Option.some.injEq, Prod.mk.injEq] at h
  obtain ⟨rfl, rfl⟩ := h
  have hm' := mpM_ok hm
  refine ⟨keysOk P kt kv l, ?_, keysB_ok hk⟩
  unfold updA
  simp only [hmt, hkv, hm', if_true]
/-! operations that write or make memory -/
def storeC (P : Program) (m : Mem) (ty : TypeId) (a x : AV) : Option Mem :=
  match a with
  | .optr id ver i j =>
    match rowM m id ver, tsz P ty with
    | some (sz, l), some n =>
      match Nat.beq x.cells.length n, Nat.ble (i + 1) l.length with
      | true, true =>
        (match Nat.beq sz 1 with
        | true => (match Nat.beq j 0, oneB x with
          | true, true => fR (l.set i x) fun l => setM m id ⟨ver, .row sz l⟩ some
          | _, _ => none)
        | false => (match l.getD i .any with
          | .agg xs => (match Nat.ble (j + n) sz, flatB x, xs.all oneB with
            | true, true, true => fR (l.set i (updE (.agg xs) j x)) fun l => setM m id ⟨ver, .row sz l⟩ some
            | _, _, _ => none)
          | _ => none))
      | _, _ => none
    | _, _ => none
  | _ => none
theorem storeC_ok {m m' : Mem} {ty : TypeId} {a x : AV} (h : storeC P m ty a x = some m') : ∃ p, storeA P m ty a x = some (m', .any, p) ∧ p := by
  unfold storeC at h
  split at h
  · rename_i id ver i j
    split at h
    · rename_i sz l n hr hn
      split at h
      · rename_i h1 h2
        rw [Nat.beq_eq] at h1
        rw [Nat.ble_eq] at h2
        unfold storeA
        simp only [rowM_ok hr]
        rw [if_pos ⟨trivial, by rw [hn, h1]⟩]
        split at h
        · rename_i h3
          rw [Nat.beq_eq] at h3
          split at h
          · rename_i h4 h5
            rw [Nat.beq_eq] at h4
            rw [fR_eq, setM_eq] at h
            simp only [Option.some.injEq] at h
            subst h
            rw [if_pos h3]
            exact ⟨_, rfl, h2, h4, oneB_ok h5⟩
          · cases h
        · rename_i h3
          have h3' : ¬ sz = 1 := fun e => by subst e; simp at h3
          split at h
          · rename_i xs hx
            split at h
            · rename_i h4 h5 h6
              rw [Nat.ble_eq] at h4
              rw [fR_eq, setM_eq] at h
              simp only [Option.some.injEq] at h
              subst h
              rw [if_neg h3', hx]
              exact ⟨_, rfl, h2, by rw [h1]; exact h4, flatB_ok h5⟩
            · cases h
          · cases h
      · cases h
    · cases h
  · cases h

def boxC (m : Mem) (x : AV) : Option (Mem × AV) :=
  match flatB x, Nat.ble 1 x.cells.length with
  | true, true => appM m ⟨0, .row x.cells.length [x]⟩ fun m' => some (m', .optr m.length 0 0 0)
  | _, _ => none
theorem boxC_ok {m m' : Mem} {x y : AV} (h : boxC m x = some (m', y)) : ∃ p, boxA m x = some (m', y, p) ∧ p := by
  unfold boxC at h
  split at h
  · rename_i h1 h2
    rw [Nat.ble_eq] at h2
    rw [appM_eq] at h
    simp only [Option.some.injEq, Prod.mk.injEq] at h
    obtain ⟨rfl, rfl⟩ := h
    exact ⟨_, rfl, flatB_ok h1, h2⟩
  · cases h

def makeC (P : Program) (m : Mem) (ty : TypeId) (l c : AV) : Option (Mem × AV) :=
  match uk P ty, l, c with
  | .slice e, .val (.int .i64 n), .val (.int .i64 n') =>
    match zAV P e, tsz P e, tby P e with
    | some z, some sz, some by_ =>
      if elB P e = true then
        match eqI n' n, leB n 100000, Nat.ble by_ 1000, flatB z, Nat.beq z.cells.length sz with
        | true, true, true, true, true => fR (List.replicate n.toNat z) fun l => appM m ⟨0, .row sz l⟩ fun m' => some (m', .osl m.length 0 0 n.toNat)
        | _, _, _, _, _ => none
      else none
    | _, _, _ => none
  | _, _, _ => none
theorem makeC_ok {m m' : Mem} {ty : TypeId} {l c y : AV} (h : makeC P m ty l c = some (m', y)) : ∃ p, makeA P m ty l c = some (m', y, p) ∧ p := by
  unfold makeC at h
  split at h
  · rename_i e n n' hu
    split at h
    · rename_i z sz by_ hz hs hb
      split at h
      · rename_i he
        split at h
        · rename_i h1 h2 h3 h4 h5
          rw [eqI_eq, decide_eq_true_eq] at h1
          rw [Nat.ble_eq] at h3
          rw [Nat.beq_eq] at h5
          have h2' := leB_ok h2
          rw [fR_eq, appM_eq] at h
          simp only [Option.some.injEq, Prod.mk.injEq] at h
          obtain ⟨rfl, rfl⟩ := h
          unfold makeA
          simp only [hu, hz, hs, hb]
          rw [if_pos he]
          refine ⟨_, rfl, h2'.1, h1, ?_, by omega, flatB_ok h4, h5⟩
          have : (by_ : Int) * n ≤ 1000 * 100000 := Int.mul_le_mul (by omega) (by omega) h2'.1 (by omega)
          omega
        · cases h
      · cases h
    · cases h
  · cases h

def rowC (m : Mem) (x : AV) : Option (Nat × List AV) :=
  match x with
  | .lst sz l => some (sz, l)
  | .emp => some (1, [])
  | .osl id ver off len => (match rowM m id ver with
    | some (sz, l) => (match Nat.ble (off + len) l.length with
      | true => some (sz, (l.drop off).take len)
      | false => none)
    | none => none)
  | _ => none
theorem rowC_ok {m : Mem} {x : AV} {sz : Nat} {l : List AV} (h : rowC m x = some (sz, l)) : rowOf m x = some (sz, l) ∧ srcOk m x := by
  unfold rowC at h
  split at h
  · exact ⟨h, trivial⟩
  · exact ⟨h, trivial⟩
  · split at h
    · rename_i hr
      split at h
      · rename_i hb
        rw [Nat.ble_eq] at hb
        have hm := rowM_ok hr
        exact ⟨by simp only [rowOf, hm, if_true]; exact h, by simp only [srcOk, hm]; exact hb⟩
      · cases h
    · cases h
  · cases h
def notIdB (id : Nat) : AV → Bool
  | .osl id' _ _ _ => !Nat.beq id' id
  | _ => true
theorem notIdB_ok {id : Nat} {x : AV} (h : notIdB id x = true) : notId id x := by
  cases x <;> simp only [notId]
  simp only [notIdB, Bool.not_eq_true'] at h
  intro e; subst e; simp at h
def appC0 (P : Program) (m : Mem) (t u : TypeId) (d x : AV) : Option (Mem × AV) :=
  match uk P t, uk P u with
  | .slice e, .slice _ =>
    match tsz P e, tby P e, rowC m x with
    | some sz, some by_, some (sz', new) =>
      if elB P e = true then
        match Nat.ble by_ 1000, (new.isEmpty || Nat.beq sz' sz) with
        | true, true =>
          match d with
          | .emp => (match Nat.ble new.length 100000 with
            | true => fR new fun new => appM m ⟨0, .row sz new⟩ fun m' => some (m', .osl m.length 0 0 new.length)
            | false => none)
          | .osl id ver off len => (match rowM m id ver with
            | some (sz0, l) => (match Nat.beq sz0 sz, Nat.ble (off + len) l.length, Nat.ble (len + new.length) 100000, notIdB id x with
              | true, true, true, true => fR ((l.drop off).take len ++ new) fun l => setM m id ⟨ver + 1, .row sz l⟩ fun m' => some (m', .osl id (ver + 1) 0 (len + new.length))
              | _, _, _, _ => none)
            | none => none)
          | _ => none
        | _, _ => none
      else none
    | _, _, _ => none
  | _, _ => none
theorem appC0_ok {m m' : Mem} {t u : TypeId} {d x y : AV} (h : appC0 P m t u d x = some (m', y)) : (∀ k, uk P u ≠ .int k) ∧ ∃ p, appA0 P m t u d x = some (m', y, p) ∧ p := by
  unfold appC0 at h
  split at h
  · rename_i e e' hu1 hu2
    refine ⟨fun k hk => (by rw [hu2] at hk; cases hk), ?_⟩
    split at h
    · rename_i sz by_ sz' new hs hb hr
      obtain ⟨hr1, hr2⟩ := rowC_ok hr
      split at h
      · rename_i he
        split at h
        · rename_i h1 h2
          rw [Nat.ble_eq] at h1
          have h2' : new ≠ [] → sz' = sz := by
            intro hne
            simp only [Bool.or_eq_true, List.isEmpty_iff] at h2
            rcases h2 with h2 | h2
            · exact absurd h2 hne
            · exact (Nat.beq_eq ▸ h2 : sz' = sz)
          unfold appA0
          simp only [hu1, hu2, hs, hb, hr1]
          rw [if_pos he]
          split at h
          · split at h
            · rename_i h3
              rw [Nat.ble_eq] at h3
              rw [fR_eq, appM_eq] at h
              simp only [Option.some.injEq, Prod.mk.injEq] at h
              obtain ⟨rfl, rfl⟩ := h
              refine ⟨_, rfl, ?_, by omega, hr2, h2'⟩
              have := Nat.mul_le_mul h3 h1
              omega
            · cases h
          · split at h
            · rename_i hm
              split at h
              · rename_i h3 h4 h5 h6
                rw [Nat.beq_eq] at h3
                rw [Nat.ble_eq] at h4 h5
                rw [fR_eq, setM_eq] at h
                simp only [Option.some.injEq, Prod.mk.injEq] at h
                obtain ⟨rfl, rfl⟩ := h
                simp only [rowM_ok hm]
                rw [if_pos ⟨trivial, h3⟩]
                refine ⟨_, rfl, h4, ?_, by omega, hr2, notIdB_ok h6, h2'⟩
                have := Nat.mul_le_mul h5 h1
                omega
              · cases h
            · cases h
          · cases h
        · cases h
      · cases h
    · cases h
  · cases h

def appZC (P : Program) (m : Mem) (t : TypeId) (d x : AV) : Option (Mem × AV) :=
  match uk P t, d, x with
  | .slice e, .emp, .val (.int .i64 n) =>
    match zAV P e, tsz P e, tby P e with
    | some z, some sz, some by_ =>
      match elB P e, ltI 0 n, leB n 100000, Nat.ble by_ 1000, flatB z, Nat.beq z.cells.length sz with
      | true, true, true, true, true, true => fR (List.replicate n.toNat z) fun l => appM m ⟨0, .row sz l⟩ fun m' => fN n.toNat fun k => some (m', .osl m.length 0 0 k)
      | _, _, _, _, _, _ => none
    | _, _, _ => none
  | _, _, _ => none
theorem appZC_ok {m m' : Mem} {t : TypeId} {d x y : AV} (h : appZC P m t d x = some (m', y)) : ∃ p, appZ P m t d x = some (m', y, p) ∧ p := by
  unfold appZC at h
  split at h <;> (try (cases h; done))
  rename_i e n hu
  split at h <;> (try (cases h; done))
  rename_i z sz by_ hz hs hb
  split at h <;> (try (cases h; done))
  rename_i h1 h2 h3 h4 h5 h6
  rw [ltI_eq, decide_eq_true_eq] at h2
  rw [Nat.ble_eq] at h4
  rw [Nat.beq_eq] at h6
  have h3' := leB_ok h3
  rw [fR_eq, appM_eq, fN_eq] at h
  simp only [Option.some.injEq, Prod.mk.injEq] at h
  obtain ⟨rfl, rfl⟩ := h
  unfold appZ
  simp only [hu, hz, hs, hb]
  rw [if_pos h1]
  refine ⟨_, rfl, by omega, ?_, by omega, flatB_ok h5, h6⟩
  have : (by_ : Int) * n ≤ 1000 * 100000 := Int.mul_le_mul (by omega) (by omega) h3'.1 (by omega)
  omega
def appC (P : Program) (m : Mem) (t u : TypeId) (d x : AV) : Option (Mem × AV) :=
  match uk P u with
  | .int .i64 => appZC P m t d x
  | _ => appC0 P m t u d x
theorem appC_ok {m m' : Mem} {t u : TypeId} {d x y : AV} (h : appC P m t u d x = some (m', y)) : ∃ p, appA P m t u d x = some (m', y, p) ∧ p := by
  unfold appC at h
  split at h
  · rename_i hu
    obtain ⟨p, h1, h2⟩ := appZC_ok h
    exact ⟨p, by unfold appA; simp only [hu]; exact h1, h2⟩
  · obtain ⟨h0, p, h1, h2⟩ := appC0_ok h
    refine ⟨p, ?_, h2⟩
    unfold appA
    split
    · rename_i hu; exact absurd hu (h0 _)
    · exact h1
def copyC (P : Program) (m : Mem) (t : TypeId) (d x : AV) : Option (Mem × AV) :=
  match uk P t, d, rowC m x with
  | .slice e, .osl id ver off len, some (sz', new) =>
    match tsz P e, rowM m id ver with
    | some sz, some (sz0, l) =>
      match Nat.beq sz0 sz, Nat.beq sz' sz, Nat.ble (off + len) l.length, Nat.ble 1 sz with
      | true, true, true, true => fR (putR l off (new.take len)) fun l' => fN (new.take len).length fun n => setM m id ⟨ver, .row sz l'⟩ fun m' => some (m', .int n)
      | _, _, _, _ => none
    | _, _ => none
  | _, _, _ => none
theorem copyC_ok {m m' : Mem} {t : TypeId} {d x y : AV} (h : copyC P m t d x = some (m', y)) : ∃ p, copyA P m t d x = some (m', y, p) ∧ p := by
  unfold copyC at h
  split at h <;> (try (cases h; done))
  rename_i e id ver off len sz' new hut hrow
  split at h <;> (try (cases h; done))
  rename_i sz sz0 l hsz hm
  split at h <;> (try (cases h; done))
  rename_i b1 b2 b3 b4
  rw [Nat.beq_eq] at b1 b2
  rw [Nat.ble_eq] at b3 b4
  subst b1 b2
  rw [fR_eq, fN_eq, setM_eq] at h
  simp only [Option.some.injEq, Prod.mk.injEq] at h
  obtain ⟨rfl, rfl⟩ := h
  obtain ⟨q1, q2⟩ := rowC_ok hrow
  refine ⟨off + len ≤ l.length ∧ srcOk m x ∧ 0 < sz', ?_, b3, q2, b4⟩
  unfold copyA
  simp only [hut, q1, hsz, rowM_ok hm, and_self, if_true]
def effC (P : Program) (t : List (Nat × AV)) (m : Mem) (op : Op) : Option (Mem × AV) :=
  match op with
  | .store ty a v => (match storeC P m ty (evoC t a) (evoC t v) with
    | some m' => some (m', .any)
    | none => none)
  | .box _ v => boxC m (evoC t v)
  | .alloc ty => (match zAV P ty with
    | some x => boxC m x
    | none => none)
  | .makeSlice ty l c => makeC P m ty (evoC t l) (evoC t c)
  | .call c => (match c.callee with
    | .builtin .append => (match c.args.toList, c.argTypes.toList with
      | [d, x], [ty, u] => appC P m ty u (evoC t d) (evoC t x)
      | _, _ => none)
    | .builtin .copy => (match c.args.toList, c.argTypes.toList with
      | [d, x], [ty, _] => copyC P m ty (evoC t d) (evoC t x)
      | _, _ => none)
    | _ => none)
  | .makeMap _ none => appM m ⟨0, .mp []⟩ fun m' => some (m', .omap m.length 0)
  | .mapUpdate ty mp k v => updC P m ty (evoC t mp) (evoC t k) (evoC t v)
  | .insert ty mp k v => updC P m ty (evoC t mp) (evoC t k) (evoC t v)
  | _ => none
theorem effC_ok {t : List (Nat × AV)} {m m' : Mem} {op : Op} {x : AV} (h : effC P t m op = some (m', x)) : ∃ p, effA P (evo t) m op = some (m', x, p) ∧ p := by
  unfold effC at h
  rw [evoC_eq] at h
  split at h
  · split at h
    · rename_i hs
      obtain ⟨p, h1, h2⟩ := storeC_ok hs
      simp only [Option.some.injEq, Prod.mk.injEq] at h
      obtain ⟨rfl, rfl⟩ := h
      exact ⟨p, h1, h2⟩
    · cases h
  · exact boxC_ok h
  · split at h
    · rename_i hz
      obtain ⟨p, h1, h2⟩ := boxC_ok h
      exact ⟨p, by simp only [effA, hz]; exact h1, h2⟩
    · cases h
  · exact makeC_ok h
  · split at h
    · rename_i c hc
      split at h
      · rename_i ha ht
        obtain ⟨p, h1, h2⟩ := appC_ok h
        exact ⟨p, by simp only [effA, hc, ha, ht]; exact h1, h2⟩
      · cases h
    · rename_i c hc
      split at h
      · rename_i ha ht
        obtain ⟨p, h1, h2⟩ := copyC_ok h
        exact ⟨p, by simp only [effA, hc, ha, ht]; exact h1, h2⟩
      · cases h
    · cases h
  · rw [appM_eq] at h
    simp only [Option.some.injEq, Prod.mk.injEq] at h
    obtain ⟨rfl, rfl⟩ := h
    exact ⟨True, rfl, trivial⟩
  · exact updC_ok h
  · exact updC_ok h
  · cases h

section
variable {gds : List (Option Nat)} {l : List Oper} {Q : S → Prop} {s : S} {o : Oper}
/-- a pick between two known values -/
theorem pick_yield {t : List (Nat × AV)} {m : Mem} {dst : Option Nat} {c a b : Operand} {type : TypeId} {pos : String} {after : Array Edge} {g : Bool} (h : evo t c = .bool g) : Yield P gds t m ⟨dst, .pick c a b, type, pos, after, none⟩ (match g with
    | true => evo t a
    | false => evo t b) := by
  refine ⟨fun c e => (by cases e), fun X w ρ act hi hr hn => ⟨fun _ => ?_, fun hw => by simp [Region.wanted] at hw⟩⟩
  have ho := evo_of (op := .pick c a b) fun n hn => hr n (.inr hn)
  have hc := ho c (by simp [Op.operands])
  rw [h, R_val] at hc
  refine .inl ⟨if g then act.eval a else act.eval b, w, ?_, ?_, hi, Tr.refl w ρ⟩
  · unfold execOp
    simp only [hc]
    cases g <;> simp [go_sem, asBool]
  · cases g
    · exact ho b (by simp [Op.operands])
    · exact ho a (by simp [Op.operands])
theorem guardT_yield {t : List (Nat × AV)} {m : Mem} {dst : Option Nat} {op : Op} {type : TypeId} {pos : String} {after : Array Edge} {g : Nat × Bool} {x : AV} (hg : gval gds t g = some true) (h : Yield P gds t m ⟨dst, op, type, pos, after, none⟩ x) : Yield P gds t m ⟨dst, op, type, pos, after, some g⟩ x := by
  refine ⟨h.1, fun X w ρ act hi hr hn => ?_⟩
  have hw := gval_wanted (o := ⟨dst, op, type, pos, after, some g⟩) (a := act) (X := X) (w := w) (ρ := ρ) rfl (fun n hn' => ⟨hr n (.inl hn'), hn n hn'⟩) hg
  rw [hw]
  refine ⟨fun _ => ?_, fun e => (by cases e)⟩
  exact (h.2 X w ρ act hi (fun n hn' => hr n (hn'.elim (fun h => by cases h) .inr)) (fun n hn' => by cases hn')).1 (by simp [Region.wanted])
theorem guardF_yield {t : List (Nat × AV)} {m : Mem} {dst : Option Nat} {op : Op} {type : TypeId} {pos : String} {after : Array Edge} {g : Nat × Bool} (hd : ∀ c, op ≠ .defer c) (hg : gval gds t g = some false) : Yield P gds t m ⟨dst, op, type, pos, after, some g⟩ (.opt false (.bool false)) := by
  refine ⟨hd, fun X w ρ act hi hr hn => ?_⟩
  have hw := gval_wanted (o := ⟨dst, op, type, pos, after, some g⟩) (a := act) (X := X) (w := w) (ρ := ρ) rfl (fun n hn' => ⟨hr n (.inl hn'), hn n hn'⟩) hg
  rw [hw]
  exact ⟨fun e => (by cases e), fun _ => ⟨fun e => (by cases e), fun _ => rfl⟩⟩
/-- a guard that is met -/
theorem Run.gtrue0 {dst : Option Nat} {op : Op} {type : TypeId} {pos : String} {after : Array Edge} {g : Nat × Bool} (h : gval gds s.t g = some true) (k : Run P gds (⟨dst, op, type, pos, after, none⟩ :: l) Q s) : Run P gds (⟨dst, op, type, pos, after, some g⟩ :: l) Q s := by
  intro hg hd X r a w ρ hr
  have hw := gval_wanted (o := ⟨dst, op, type, pos, after, some g⟩) (a := a) (X := X) (w := w) (ρ := ρ) rfl (fun n hn => ⟨hr.tmps n, by rw [hr.size]; exact gnames_lt hg _ n hn⟩) h
  have h0 := k hg (fun o ho => by
    cases ho with
    | head => exact hd ⟨dst, op, type, pos, after, some g⟩ (by simp)
    | tail _ ho => exact hd o (List.mem_cons_of_mem _ ho)) X r a w ρ hr
  unfold opwp at h0 ⊢
  rw [if_pos (by simp [Region.wanted])] at h0
  rw [if_pos hw]
  exact h0

/-- a call of any known function -/
def calleeC : AV → Option (FuncId × List AV × List AV)
  | .clo f caps => some (f, [], caps)
  | .bnd f xs => some (f, xs, [])
  | .val (.func (.func f) ⟨[]⟩ ⟨[]⟩) => some (f, [], [])
  | _ => none
theorem calleeC_rel {X : Nat → Prop} {w : World} {ρ : Rho} {x : AV} {v : Value} {f : FuncId} {fs cs : List AV} (h : calleeC x = some (f, fs, cs)) (hr : R X w ρ x v) : ∃ us vs : List Value, v = .func (.func f) us.toArray vs.toArray ∧ Rvals X w ρ fs us ∧ Rvals X w ρ cs vs := by
  unfold calleeC at h
  split at h <;> simp only [Option.some.injEq, Prod.mk.injEq, reduceCtorEq] at h
  · obtain ⟨rfl, rfl, rfl⟩ := h
    obtain ⟨vs, h1, h2⟩ := hr
    exact ⟨[], vs, h1, rfl, h2⟩
  · obtain ⟨rfl, rfl, rfl⟩ := h
    obtain ⟨vs, h1, h2⟩ := hr
    exact ⟨vs, [], h1, h2, rfl⟩
  · obtain ⟨rfl, rfl, rfl⟩ := h
    exact ⟨[], [], hr, rfl, rfl⟩
theorem run_callB {w : World} {o : Oper} {fo : Operand} {args : Array Operand} {tys : Array TypeId} (ho : o.op = .call ⟨.value fo, args, tys⟩) {a : Act} {f : FuncId} {us cs : List Value} (hf : a.eval fo = .func (.func f) us.toArray cs.toArray) (he : Enters P f) :
    (execOp a.eval o).run P w = .ok (.enter f (us ++ (args.toList.map a.eval ++ cs)).toArray) w := by
  have e : (us.toArray ++ args.map a.eval ++ cs.toArray) = (us ++ (args.toList.map a.eval ++ cs)).toArray := by
    apply Array.ext'; simp
  unfold execOp
  rw [ho]
  simp only [resolve, hf, Deferred.ofValue, Sem.run_bind, Sem.run_pure, Result.andThen_ok, invoke]
  rw [← e]
  exact he _ w
theorem Run.specB {fo : Operand} {args : Array Operand} {tys : Array TypeId} {dst : Option Nat} {type : TypeId} {pos : String} {after : Array Edge} {f : FuncId} {fs cs : List AV} {C : AV → Mem → Prop}
    (he : Enters P f) (hf : calleeC (evo s.t fo) = some (f, fs, cs)) (hc : Spec P f (fs ++ (args.toList.map (evo s.t) ++ cs)) s.m C) (k : ∀ x m', C x m' → Run P gds l Q ({ s with m := m' }.put dst x)) : Run P gds (⟨dst, .call ⟨.value fo, args, tys⟩, type, pos, after, none⟩ :: l) Q s := by
  intro hg hd
  refine Run.eff (fun X r a w ρ hr => ?_) hg hd
  unfold opwp
  rw [if_pos (by simp [Region.wanted])]
  obtain ⟨us, vs, h1, h2, h3⟩ := calleeC_rel hf (evo_rel hr.tmps fo)
  have hrun := run_callB (P := P) (w := w) (o := ⟨dst, .call ⟨.value fo, args, tys⟩, type, pos, after, none⟩) rfl h1 he
  refine ⟨fun _ _ => trivial, ?_⟩
  rw [Oper.semAt_eq _ _ _ (by intro c e; cases e), hrun]
  refine ⟨fun h => (by cases h), callsIn_fence ?_⟩
  refine (hc X w ρ _ hr.inv (h2.append ((Rvals_map args.toList fun y _ => evo_rel hr.tmps y).append h3))).mono ?_
  rintro e w' ⟨v, x, m', ρ', rfl, q, k1, k2, k3⟩
  exact ⟨{ s with m := m' }.put dst x, ρ', ⟨by rw [S.put_n], k x m' q⟩, (hr.step k3 k2).put (hd ⟨dst, .call ⟨.value fo, args, tys⟩, type, pos, after, none⟩ (by simp)) k1, k3⟩
end

/-! what entries a value names -/
mutual
def mxV : AV → Nat
  | .val _ => 0
  | .any => 0
  | .lst _ l => mxL l
  | .osl id _ _ _ => id + 1
  | .emp => 0
  | .ref xs _ => mxL xs
  | .optr id _ _ _ => id + 1
  | .agg xs => mxL xs
  | .tup xs => mxL xs
  | .clo _ caps => mxL caps
  | .bnd _ xs => mxL xs
  | .opt _ x => mxV x
  | .yld id _ => id + 1
  | .omap id _ => id + 1
def mxL : List AV → Nat
  | [] => 0
  | x :: l => Nat.max (mxV x) (mxL l)
end
mutual
theorem mxV_ok {k : Nat} : ∀ (x : AV), mxV x ≤ k → x.ok k
  | .val _, _ => trivial
  | .any, _ => trivial
  | .lst _ l, h => mxL_ok l h
  | .osl id _ _ _, h => h
  | .emp, _ => trivial
  | .ref xs _, h => mxL_ok xs h
  | .optr id _ _ _, h => h
  | .agg xs, h => mxL_ok xs h
  | .tup xs, h => mxL_ok xs h
  | .clo _ caps, h => mxL_ok caps h
  | .bnd _ xs, h => mxL_ok xs h
  | .opt _ x, h => mxV_ok x h
  | .yld id _, h => h
  | .omap id _, h => h
theorem mxL_ok {k : Nat} : ∀ (l : List AV), mxL l ≤ k → okL k l
  | [], _ => trivial
  | x :: l, h => by
    have h1 : mxV x ≤ mxL (x :: l) := Nat.le_max_left _ _
    have h2 : mxL l ≤ mxL (x :: l) := Nat.le_max_right _ _
    exact ⟨mxV_ok x (Nat.le_trans h1 h), mxL_ok l (Nat.le_trans h2 h)⟩
end
/-- the entries before the k-th name none from the b-th on -/
def okM (b : Nat) : Nat → Mem → Bool
  | 0, _ => true
  | _ + 1, [] => true
  | k + 1, e :: m =>
    match e.kind with
    | .row _ l => (match Nat.ble (mxL l) b with
      | true => okM b k m
      | false => false)
    | .dfr => okM b k m
    | .lrec _ _ _ _ _ _ _ => false
    | .mp l => (match Nat.ble (mxL (l.map (·.2))) b with
      | true => okM b k m
      | false => false)
    | .ext _ _ => false
theorem okM_ok {b : Nat} : ∀ {k : Nat} {m : Mem}, okM b k m = true → ∀ e ∈ m.take k, e.kind.ok b
  | 0, m, _, e, he => by simp at he
  | k + 1, [], _, e, he => by simp at he
  | k + 1, e' :: m, h, e, he => by
    unfold okM at h
    rw [List.take_succ_cons] at he
    rcases List.mem_cons.1 he with rfl | he
    · split at h
      · rename_i hk
        rw [hk]
        split at h
        · rename_i hb
          rw [Nat.ble_eq] at hb
          exact mxL_ok _ hb
        · cases h
      · rename_i hk
        rw [hk]; trivial
      · cases h
      · rename_i hk
        rw [hk]
        split at h
        · rename_i hb
          rw [Nat.ble_eq] at hb
          exact mxL_ok _ hb
        · cases h
      · cases h
    · split at h
      · split at h
        · exact okM_ok h e he
        · cases h
      · exact okM_ok h e he
      · cases h
      · split at h
        · exact okM_ok h e he
        · cases h
      · cases h
/-- how many entries stay: what the result names, and what the elder entries name -/
def keepK (m : Mem) (x : AV) (k0 : Nat) : Nat → Nat
  | 0 => m.length
  | n + 1 =>
    match okM k0 k0 m, Nat.ble (mxV x) k0 with
    | true, true => k0
    | _, _ => keepK m x (k0 + 1) n

def resC (P : Program) (s : S) : List ResultVar → Option (List AV)
  | [] => some []
  | .tmp t :: rs => (match resC P s rs with
    | some xs => some (lookB s.t t :: xs)
    | none => none)
  | .cell a ty :: rs => (match loadC P s.m ty (lookB s.t a), resC P s rs with
    | some x, some xs => some (x :: xs)
    | _, _ => none)
theorem resC_ok {s : S} : ∀ {rs : List ResultVar} {xs : List AV}, resC P s rs = some xs → ∃ p, resL P s rs = some (xs, p) ∧ p
  | [], xs, h => by simp only [resC, Option.some.injEq] at h; exact ⟨True, by rw [resL, h], trivial⟩
  | .tmp t :: rs, xs, h => by
    unfold resC at h
    split at h
    · rename_i hx
      obtain ⟨p, h1, h2⟩ := resC_ok hx
      simp only [Option.some.injEq] at h
      subst h
      exact ⟨True ∧ p, by simp only [resL, res1, h1]; rw [lookB_eq], trivial, h2⟩
    · cases h
  | .cell a ty :: rs, xs, h => by
    unfold resC at h
    split at h
    · rename_i hl hx
      obtain ⟨p, h1, h2⟩ := resC_ok hx
      rw [lookB_eq] at hl
      obtain ⟨q, h3, h4⟩ := loadC_ok hl
      simp only [Option.some.injEq] at h
      subst h
      exact ⟨q ∧ p, by simp only [resL, res1, h1, h3], h4, h2⟩
    · cases h
def fM {α : Type} : Nat → Mem → (Mem → α) → α
  | 0, _, k => k []
  | _ + 1, [], k => k []
  | n + 1, e :: m, k => fM n m fun m => k (e :: m)
theorem fM_eq {α : Type} : ∀ (n : Nat) (m : Mem) (k : Mem → α), fM n m k = k (m.take n)
  | 0, m, k => by simp [fM]
  | n + 1, [], k => by simp [fM]
  | n + 1, e :: m, k => by simp [fM, fM_eq n m]
def leaveC (P : Program) (rs : List ResultVar) (k0 : Nat) (s : S) : Option (AV × Mem) :=
  match s.d with
  | [] =>
    match resC P s rs with
    | some xs =>
      fV (packRes xs) fun x =>
        match Nat.beq s.m.length k0 with
        | true => some (x, s.m)
        | false => fN (keepK s.m x k0 (s.m.length - k0)) fun k =>
          match okM k k s.m, Nat.ble (mxV x) k, Nat.ble k0 k with
          | true, true, true => fM k s.m fun m => some (x, m)
          | _, _, _ => none
    | none => none
  | _ :: _ => none

/-- a function, by the code's evaluator -/
def xF (P : Program) (nf : Nat) (ih : Code → S → Option (Exit × S)) (f : FuncId) (args : List AV) (m : Mem) : Option (AV × Mem) :=
  match Nat.ble (f + 1) nf, P.funcs[f]? with
  | true, some fn =>
    match fn.body, Nat.ble args.length fn.ntmps with
    | some c, true =>
      match ih c (entry args m fn.ntmps) with
      | some (.normal, s) => leaveC P fn.results.toList m.length s
      | some (.ret, s) => leaveC P fn.results.toList m.length s
      | _ => none
    | _, _ => none
  | _, _ => none
/-- no function before the n-th is the one that the model knows by its name -/
def Named (P : Program) (nf : Nat) : Prop := ∀ f fn, f < nf → P.funcs[f]? = some fn → (fn.name == "runtime.NumGoroutine") = false
def Sound (P : Program) (ih : Code → S → Option (Exit × S)) : Prop := ∀ (r : Option Nat) (c : Code) (s s' : S) (e : Exit) (Q : Exit → S → Prop), ih c s = some (e, s') → Q e s' → Wp P r c Q s
theorem xF_sound {nf : Nat} (hE : Named P nf) {ih : Code → S → Option (Exit × S)} (hs : Sound P ih) {f : FuncId} {args : List AV} {m m' : Mem} {x : AV} (h : xF P nf ih f args m = some (x, m')) :
    Enters P f ∧ Spec P f args m fun y m1 => y = x ∧ m1 = m' := by
  unfold xF at h
  split at h
  · rename_i hf hfn
    rw [Nat.ble_eq] at hf
    split at h
    · rename_i fn _ _ c hb hn
      rw [Nat.ble_eq] at hn
      refine ⟨Enters.of hfn (hE f fn hf hfn) (by rw [hb]; rfl), ?_⟩
      have key : ∀ (e : Exit) (s : S), (e = .normal ∨ e = .ret) → ih c (entry args m fn.ntmps) = some (e, s) → leaveC P fn.results.toList m.length s = some (x, m') → Spec P f args m fun y m1 => y = x ∧ m1 = m' := by
        intro e s he hr hl
        unfold leaveC at hl
        split at hl
        · rename_i hd
          split at hl
          · rename_i xs hx
            obtain ⟨p, h1, h2⟩ := resC_ok hx
            rw [fV_eq] at hl
            split at hl
            · simp only [Option.some.injEq, Prod.mk.injEq] at hl
              refine Spec.of_bodyA hfn hb hn (hs none c _ s e _ hr ?_)
              rcases he with rfl | rfl <;> exact ⟨hd, xs, p, h1, h2, hl.1, hl.2⟩
            · rw [fN_eq] at hl
              split at hl
              · rename_i h3 h4 h5
                rw [Nat.ble_eq] at h4 h5
                rw [fM_eq] at hl
                simp only [Option.some.injEq, Prod.mk.injEq] at hl
                refine Spec.of_body hfn hb hn (keepK s.m (packRes xs) m.length (s.m.length - m.length)) h5 (hs none c _ s e _ hr ?_)
                have e1 : ({ s with m := kill s.m s.d, d := [] } : S) = s := by
                  cases s; simp only at hd; subst hd; rfl
                have e2 : kill s.m s.d = s.m := by rw [hd]; rfl
                rcases he with rfl | rfl
                all_goals
                  exact ⟨(by rw [hd]; intro q hq; cases hq), (by rw [hd]; exact List.Pairwise.nil), xs, p, (by rw [e1]; exact h1), h2, mxV_ok _ h4, (by rw [e2]; exact okM_ok h3), hl.1, (by rw [e2]; exact hl.2)⟩
              · cases hl
          · cases hl
        · cases hl
      split at h
      · rename_i s hr
        exact key _ s (.inl rfl) hr h
      · rename_i s hr
        exact key _ s (.inr rfl) hr h
      · cases h
    · cases h
  · cases h
end Go.Vg
