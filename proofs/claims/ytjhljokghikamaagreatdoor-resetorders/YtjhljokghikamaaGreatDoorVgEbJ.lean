/- A part of the proof of ResetOrders: contracts of functions, with plain laws that they need. -/
import Derived.IntWalk
import Derived.Test.YtjhljokghikamaaGreatDoorVgVgJ
set_option linter.all false
namespace Go.Vg
open Go.RowKit
variable {P : Program}
def fN {α : Type} (j : Nat) (k : Nat → α) : α :=
 match j with
 | 0 => k 0
 | j + 1 => k (j + 1)
theorem fN_eq {α : Type} (j : Nat) (k : Nat → α) : fN j k = k j := by cases j <;> rfl
def fI {α : Type} (n : Int) (k : Int → α) : α :=
 match n with
 | .ofNat j => fN j fun j => k (.ofNat j)
 | .negSucc j => fN j fun j => k (.negSucc j)
theorem fI_eq {α : Type} (n : Int) (k : Int → α) : fI n k = k n := by cases n <;> simp [fI, fN_eq]
def fC {α : Type} (x : AV) (k : AV → α) : α :=
 match x with
 | .val (.int d n) => fI n fun n => k (.val (.int d n))
 | .val (.bool b) => (match b with
  | true => k (.val (.bool true))
  | false => k (.val (.bool false)))
 | .osl id ver off len => fN id fun id => fN ver fun ver => fN off fun off => fN len fun len => k (.osl id ver off len)
 | .optr id ver i j => fN id fun id => fN ver fun ver => fN i fun i => fN j fun j => k (.optr id ver i j)
 | .omap id ver => fN id fun id => fN ver fun ver => k (.omap id ver)
 | .emp => k .emp
 | .any => k .any
 | x => k x
theorem fC_eq {α : Type} (x : AV) (k : AV → α) : fC x k = k x := by
 unfold fC
 split <;> first | rfl | (simp only [fI_eq, fN_eq]; done) | (split <;> rfl)
def fL {α : Type} (l : List AV) (k : List AV → α) : α :=
 match l with
 | [] => k []
 | x :: l => fC x fun x => fL l fun l => k (x :: l)
theorem fL_eq {α : Type} : ∀ (l : List AV) (k : List AV → α), fL l k = k l
 | [], _ => rfl
 | x :: l, k => by rw [fL, fC_eq, fL_eq l]
def fV {α : Type} (x : AV) (k : AV → α) : α :=
 match x with
 | .agg xs => fL xs fun xs => k (.agg xs)
 | .tup xs => fL xs fun xs => k (.tup xs)
 | .clo f xs => fL xs fun xs => k (.clo f xs)
 | .bnd f xs => fL xs fun xs => k (.bnd f xs)
 | x => fC x k
theorem fV_eq {α : Type} (x : AV) (k : AV → α) : fV x k = k x := by
 unfold fV
 split <;> simp only [fL_eq, fC_eq]
def setM {α : Type} : Mem → Nat → Ent → (Mem → α) → α
 | [], _, _, k => k []
 | _ :: m, 0, e, k => k (e :: m)
 | e' :: m, n + 1, e, k => setM m n e fun m => k (e' :: m)
theorem setM_eq {α : Type} : ∀ (m : Mem) (n : Nat) (e : Ent) (k : Mem → α), setM m n e k = k (m.set n e)
 | [], _, _, _ => by simp [setM]
 | _ :: m, 0, e, k => by simp [setM]
 | e' :: m, n + 1, e, k => by simp [setM, setM_eq m n e]
def appM {α : Type} : Mem → Ent → (Mem → α) → α
 | [], e, k => k [e]
 | e' :: m, e, k => appM m e fun m => k (e' :: m)
theorem appM_eq {α : Type} : ∀ (m : Mem) (e : Ent) (k : Mem → α), appM m e k = k (m ++ [e])
 | [], _, _ => rfl
 | e' :: m, e, k => by simp [appM, appM_eq m e]
def fR {α : Type} (l : List AV) (k : List AV → α) : α :=
 match l with
 | [] => k []
 | x :: l => fV x fun x => fR l fun l => k (x :: l)
theorem fR_eq {α : Type} : ∀ (l : List AV) (k : List AV → α), fR l k = k l
 | [], _ => rfl
 | x :: l, k => by rw [fR, fV_eq, fR_eq l]
def fK1 {α : Type} (v : Value) (k : Value → α) : α :=
 match v with
 | .int d n => fI n fun n => k (.int d n)
 | v => k v
theorem fK1_eq {α : Type} (v : Value) (k : Value → α) : fK1 v k = k v := by
 unfold fK1
 split <;> simp only [fI_eq]
def fKs {α : Type} : List Value → (List Value → α) → α
 | [], k => k []
 | v :: l, k => fK1 v fun v => fKs l fun l => k (v :: l)
theorem fKs_eq {α : Type} : ∀ (l : List Value) (k : List Value → α), fKs l k = k l
 | [], _ => rfl
 | v :: l, k => by rw [fKs, fK1_eq, fKs_eq l]
def fK {α : Type} (v : Value) (k : Value → α) : α :=
 match v with
 | .agg a => fKs a.toList fun l => k (.agg l.toArray)
 | v => fK1 v k
theorem fK_eq {α : Type} (v : Value) (k : Value → α) : fK v k = k v := by
 unfold fK
 split
 ·rw [fKs_eq]
 ·rw [fK1_eq]
def fP {α : Type} : List (Value × AV) → (List (Value × AV) → α) → α
 | [], k => k []
 | (a, x) :: l, k => fP l fun l => k ((a, x) :: l)
theorem fP_eq {α : Type} : ∀ (l : List (Value × AV)) (k : List (Value × AV) → α), fP l k = k l
 | [], _ => rfl
 | (a, x) :: l, k => by rw [fP, fP_eq l]
def updC (P : Program) (m : Mem) (ty : TypeId) (x k v : AV) : Option (Mem × AV) :=
 match x, mpT P ty, keyV k with
 | .omap id ver, some (kt, _), some kv =>
  match mpM m id ver with
  | some l =>
   fK kv fun kv => match keysB P kt kv l with
   | true => fV v fun v => fP (updL l kv v) fun l => setM m id ⟨ver, .mp l⟩ fun m' => some (m', .any)
   | false => none
  | none => none
 | _, _, _ => none
theorem updC_ok {m m' : Mem} {ty : TypeId} {x k v y : AV} (h : updC P m ty x k v = some (m', y)) : ∃ p, updA P m ty x k v = some (m', y, p) ∧ p := by
 unfold updC at h
 split at h <;> (try (cases h; done))
 rename_i id ver kt et kv hmt hkv
 split at h <;> (try (cases h; done))
 rename_i l hm
 rw [fK_eq] at h
 split at h <;> (try (cases h; done))
 rename_i hk
 rw [fV_eq, fP_eq, setM_eq] at h
 simp only [Option.some.injEq, Prod.mk.injEq] at h
 obtain ⟨rfl, rfl⟩ := h
 have hm' := mpM_ok hm
 refine ⟨keysOk P kt kv l, ?_, keysB_ok hk⟩
 unfold updA
 simp only [hmt, hkv, hm', if_true]
def storeC (P : Program) (m : Mem) (ty : TypeId) (a x : AV) : Option Mem :=
 match a with
 | .optr id ver i j =>
  match rowM m id ver, tsz P ty with
  | some (sz, l), some n =>
   match Nat.beq x.cells.length n, Nat.ble (i + 1) l.length with
   | true, true =>
    (match Nat.beq sz 1 with
    | true => (match Nat.beq j 0, oneB x with
     | true, true => fR (l.set i x) fun l => setM m id ⟨ver, .row sz l⟩ some
     | _, _ => none)
    | false => (match l.getD i .any with
     | .agg xs => (match Nat.ble (j + n) sz, flatB x, xs.all oneB with
      | true, true, true => fR (l.set i (updE (.agg xs) j x)) fun l => setM m id ⟨ver, .row sz l⟩ some
      | _, _, _ => none)
     | _ => none))
   | _, _ => none
  | _, _ => none
 | _ => none
theorem storeC_ok {m m' : Mem} {ty : TypeId} {a x : AV} (h : storeC P m ty a x = some m') : ∃ p, storeA P m ty a x = some (m', .any, p) ∧ p := by
 unfold storeC at h
 split at h
 ·rename_i id ver i j
  split at h
  ·rename_i sz l n hr hn
   split at h
   ·rename_i h1 h2
    rw [Nat.beq_eq] at h1
    rw [Nat.ble_eq] at h2
    unfold storeA
    simp only [rowM_ok hr]
    rw [if_pos ⟨trivial, by rw [hn, h1]⟩]
    split at h
    ·rename_i h3
     rw [Nat.beq_eq] at h3
     split at h
     ·rename_i h4 h5
      rw [Nat.beq_eq] at h4
      rw [fR_eq, setM_eq] at h
      simp only [Option.some.injEq] at h
      subst h
      rw [if_pos h3]
      exact ⟨_, rfl, h2, h4, oneB_ok h5⟩
     ·cases h
    ·rename_i h3
     have h3' : ¬ sz = 1 := fun e => by subst e; simp at h3
     split at h
     ·rename_i xs hx
      split at h
      ·rename_i h4 h5 h6
       rw [Nat.ble_eq] at h4
       rw [fR_eq, setM_eq] at h
       simp only [Option.some.injEq] at h
       subst h
       rw [if_neg h3', hx]
       exact ⟨_, rfl, h2, by rw [h1]; exact h4, flatB_ok h5⟩
      ·cases h
     ·cases h
   ·cases h
  ·cases h
 ·cases h
def boxC (m : Mem) (x : AV) : Option (Mem × AV) :=
 match flatB x, Nat.ble 1 x.cells.length with
 | true, true => appM m ⟨0, .row x.cells.length [x]⟩ fun m' => some (m', .optr m.length 0 0 0)
 | _, _ => none
theorem boxC_ok {m m' : Mem} {x y : AV} (h : boxC m x = some (m', y)) : ∃ p, boxA m x = some (m', y, p) ∧ p := by
 unfold boxC at h
 split at h
 ·rename_i h1 h2
  rw [Nat.ble_eq] at h2
  rw [appM_eq] at h
  simp only [Option.some.injEq, Prod.mk.injEq] at h
  obtain ⟨rfl, rfl⟩ := h
  exact ⟨_, rfl, flatB_ok h1, h2⟩
 ·cases h
def makeC (P : Program) (m : Mem) (ty : TypeId) (l c : AV) : Option (Mem × AV) :=
 match uk P ty, l, c with
 | .slice e, .val (.int .i64 n), .val (.int .i64 n') =>
  match zAV P e, tsz P e, tby P e with
  | some z, some sz, some by_ =>
   if elB P e = true then
    match eqI n' n, leB n 100000, Nat.ble by_ 1000, flatB z, Nat.beq z.cells.length sz with
    | true, true, true, true, true => fR (List.replicate n.toNat z) fun l => appM m ⟨0, .row sz l⟩ fun m' => some (m', .osl m.length 0 0 n.toNat)
    | _, _, _, _, _ => none
   else none
  | _, _, _ => none
 | _, _, _ => none
theorem makeC_ok {m m' : Mem} {ty : TypeId} {l c y : AV} (h : makeC P m ty l c = some (m', y)) : ∃ p, makeA P m ty l c = some (m', y, p) ∧ p := by
 unfold makeC at h
 split at h
 ·rename_i e n n' hu
  split at h
  ·rename_i z sz by_ hz hs hb
   split at h
   ·rename_i he
    split at h
    ·rename_i h1 h2 h3 h4 h5
     rw [eqI_eq, decide_eq_true_eq] at h1
     rw [Nat.ble_eq] at h3
     rw [Nat.beq_eq] at h5
     have h2' := leB_ok h2
     rw [fR_eq, appM_eq] at h
     simp only [Option.some.injEq, Prod.mk.injEq] at h
     obtain ⟨rfl, rfl⟩ := h
     unfold makeA
     simp only [hu, hz, hs, hb]
     rw [if_pos he]
     refine ⟨_, rfl, h2'.1, h1, ?_, by omega, flatB_ok h4, h5⟩
     have : (by_ : Int) * n ≤ 1000 * 100000 := Int.mul_le_mul (by omega) (by omega) h2'.1 (by omega)
     omega
    ·cases h
   ·cases h
  ·cases h
 ·cases h
def rowC (m : Mem) (x : AV) : Option (Nat × List AV) :=
 match x with
 | .lst sz l => some (sz, l)
 | .emp => some (1, [])
 | .osl id ver off len => (match rowM m id ver with
  | some (sz, l) => (match Nat.ble (off + len) l.length with
   | true => some (sz, (l.drop off).take len)
   | false => none)
  | none => none)
 | _ => none
theorem rowC_ok {m : Mem} {x : AV} {sz : Nat} {l : List AV} (h : rowC m x = some (sz, l)) : rowOf m x = some (sz, l) ∧ srcOk m x := by
 unfold rowC at h
 split at h
 ·exact ⟨h, trivial⟩
 ·exact ⟨h, trivial⟩
 ·split at h
  ·rename_i hr
   split at h
   ·rename_i hb
    rw [Nat.ble_eq] at hb
    have hm := rowM_ok hr
    exact ⟨by simp only [rowOf, hm, if_true]; exact h, by simp only [srcOk, hm]; exact hb⟩
   ·cases h
  ·cases h
 ·cases h
def notIdB (id : Nat) : AV → Bool
 | .osl id' _ _ _ => !Nat.beq id' id
 | _ => true
theorem notIdB_ok {id : Nat} {x : AV} (h : notIdB id x = true) : notId id x := by
 cases x <;> simp only [notId]
 simp only [notIdB, Bool.not_eq_true'] at h
 intro e; subst e; simp at h
def appC0 (P : Program) (m : Mem) (t u : TypeId) (d x : AV) : Option (Mem × AV) :=
 match uk P t, uk P u with
 | .slice e, .slice _ =>
  match tsz P e, tby P e, rowC m x with
  | some sz, some by_, some (sz', new) =>
   if elB P e = true then
    match Nat.ble by_ 1000, (new.isEmpty || Nat.beq sz' sz) with
    | true, true =>
     match d with
     | .emp => (match Nat.ble new.length 100000 with
      | true => fR new fun new => appM m ⟨0, .row sz new⟩ fun m' => some (m', .osl m.length 0 0 new.length)
      | false => none)
     | .osl id ver off len => (match rowM m id ver with
      | some (sz0, l) => (match Nat.beq sz0 sz, Nat.ble (off + len) l.length, Nat.ble (len + new.length) 100000, notIdB id x with
       | true, true, true, true => fR ((l.drop off).take len ++ new) fun l => setM m id ⟨ver + 1, .row sz l⟩ fun m' => some (m', .osl id (ver + 1) 0 (len + new.length))
       | _, _, _, _ => none)
      | none => none)
     | _ => none
    | _, _ => none
   else none
  | _, _, _ => none
 | _, _ => none
theorem appC0_ok {m m' : Mem} {t u : TypeId} {d x y : AV} (h : appC0 P m t u d x = some (m', y)) : (∀ k, uk P u ≠ .int k) ∧ ∃ p, appA0 P m t u d x = some (m', y, p) ∧ p := by
 unfold appC0 at h
 split at h
 ·rename_i e e' hu1 hu2
  refine ⟨fun k hk => (by rw [hu2] at hk; cases hk), ?_⟩
  split at h
  ·rename_i sz by_ sz' new hs hb hr
   obtain ⟨hr1, hr2⟩ := rowC_ok hr
   split at h
   ·rename_i he
    split at h
    ·rename_i h1 h2
     rw [Nat.ble_eq] at h1
     have h2' : new ≠ [] → sz' = sz := by
      intro hne
      simp only [Bool.or_eq_true, List.isEmpty_iff] at h2
      rcases h2 with h2 | h2
      ·exact absurd h2 hne
      ·exact (Nat.beq_eq ▸ h2 : sz' = sz)
     unfold appA0
     simp only [hu1, hu2, hs, hb, hr1]
     rw [if_pos he]
     split at h
     ·split at h
      ·rename_i h3
       rw [Nat.ble_eq] at h3
       rw [fR_eq, appM_eq] at h
       simp only [Option.some.injEq, Prod.mk.injEq] at h
       obtain ⟨rfl, rfl⟩ := h
       refine ⟨_, rfl, ?_, by omega, hr2, h2'⟩
       have := Nat.mul_le_mul h3 h1
       omega
      ·cases h
     ·split at h
      ·rename_i hm
       split at h
       ·rename_i h3 h4 h5 h6
        rw [Nat.beq_eq] at h3
        rw [Nat.ble_eq] at h4 h5
        rw [fR_eq, setM_eq] at h
        simp only [Option.some.injEq, Prod.mk.injEq] at h
        obtain ⟨rfl, rfl⟩ := h
        simp only [rowM_ok hm]
        rw [if_pos ⟨trivial, h3⟩]
        refine ⟨_, rfl, h4, ?_, by omega, hr2, notIdB_ok h6, h2'⟩
        have := Nat.mul_le_mul h5 h1
        omega
       ·cases h
      ·cases h
     ·cases h
    ·cases h
   ·cases h
  ·cases h
 ·cases h
def appZC (P : Program) (m : Mem) (t : TypeId) (d x : AV) : Option (Mem × AV) :=
 match uk P t, d, x with
 | .slice e, .emp, .val (.int .i64 n) =>
  match zAV P e, tsz P e, tby P e with
  | some z, some sz, some by_ =>
   match elB P e, ltI 0 n, leB n 100000, Nat.ble by_ 1000, flatB z, Nat.beq z.cells.length sz with
   | true, true, true, true, true, true => fR (List.replicate n.toNat z) fun l => appM m ⟨0, .row sz l⟩ fun m' => fN n.toNat fun k => some (m', .osl m.length 0 0 k)
   | _, _, _, _, _, _ => none
  | _, _, _ => none
 | _, _, _ => none
theorem appZC_ok {m m' : Mem} {t : TypeId} {d x y : AV} (h : appZC P m t d x = some (m', y)) : ∃ p, appZ P m t d x = some (m', y, p) ∧ p := by
 unfold appZC at h
 split at h <;> (try (cases h; done))
 rename_i e n hu
 split at h <;> (try (cases h; done))
 rename_i z sz by_ hz hs hb
 split at h <;> (try (cases h; done))
 rename_i h1 h2 h3 h4 h5 h6
 rw [ltI_eq, decide_eq_true_eq] at h2
 rw [Nat.ble_eq] at h4
 rw [Nat.beq_eq] at h6
 have h3' := leB_ok h3
 rw [fR_eq, appM_eq, fN_eq] at h
 simp only [Option.some.injEq, Prod.mk.injEq] at h
 obtain ⟨rfl, rfl⟩ := h
 unfold appZ
 simp only [hu, hz, hs, hb]
 rw [if_pos h1]
 refine ⟨_, rfl, by omega, ?_, by omega, flatB_ok h5, h6⟩
 have : (by_ : Int) * n ≤ 1000 * 100000 := Int.mul_le_mul (by omega) (by omega) h3'.1 (by omega)
 omega
def appC (P : Program) (m : Mem) (t u : TypeId) (d x : AV) : Option (Mem × AV) :=
 match uk P u with
 | .int .i64 => appZC P m t d x
 | _ => appC0 P m t u d x
theorem appC_ok {m m' : Mem} {t u : TypeId} {d x y : AV} (h : appC P m t u d x = some (m', y)) : ∃ p, appA P m t u d x = some (m', y, p) ∧ p := by
 unfold appC at h
 split at h
 ·rename_i hu
  obtain ⟨p, h1, h2⟩ := appZC_ok h
  exact ⟨p, by unfold appA; simp only [hu]; exact h1, h2⟩
 ·obtain ⟨h0, p, h1, h2⟩ := appC0_ok h
  refine ⟨p, ?_, h2⟩
  unfold appA
  split
  ·rename_i hu; exact absurd hu (h0 _)
  ·exact h1
def copyC (P : Program) (m : Mem) (t : TypeId) (d x : AV) : Option (Mem × AV) :=
 match uk P t, d, rowC m x with
 | .slice e, .osl id ver off len, some (sz', new) =>
  match tsz P e, rowM m id ver with
  | some sz, some (sz0, l) =>
   match Nat.beq sz0 sz, Nat.beq sz' sz, Nat.ble (off + len) l.length, Nat.ble 1 sz with
   | true, true, true, true => fR (putR l off (new.take len)) fun l' => fN (new.take len).length fun n => setM m id ⟨ver, .row sz l'⟩ fun m' => some (m', .int n)
   | _, _, _, _ => none
  | _, _ => none
 | _, _, _ => none
theorem copyC_ok {m m' : Mem} {t : TypeId} {d x y : AV} (h : copyC P m t d x = some (m', y)) : ∃ p, copyA P m t d x = some (m', y, p) ∧ p := by
 unfold copyC at h
 split at h <;> (try (cases h; done))
 rename_i e id ver off len sz' new hut hrow
 split at h <;> (try (cases h; done))
 rename_i sz sz0 l hsz hm
 split at h <;> (try (cases h; done))
 rename_i b1 b2 b3 b4
 rw [Nat.beq_eq] at b1 b2
 rw [Nat.ble_eq] at b3 b4
 subst b1 b2
 rw [fR_eq, fN_eq, setM_eq] at h
 simp only [Option.some.injEq, Prod.mk.injEq] at h
 obtain ⟨rfl, rfl⟩ := h
 obtain ⟨q1, q2⟩ := rowC_ok hrow
 refine ⟨off + len ≤ l.length ∧ srcOk m x ∧ 0 < sz', ?_, b3, q2, b4⟩
 unfold copyA
 simp only [hut, q1, hsz, rowM_ok hm, and_self, if_true]
def effC (P : Program) (t : List (Nat × AV)) (m : Mem) (op : Op) : Option (Mem × AV) :=
 match op with
 | .store ty a v => (match storeC P m ty (evoC t a) (evoC t v) with
  | some m' => some (m', .any)
  | none => none)
 | .box _ v => boxC m (evoC t v)
 | .alloc ty => (match zAV P ty with
  | some x => boxC m x
  | none => none)
 | .makeSlice ty l c => makeC P m ty (evoC t l) (evoC t c)
 | .call c => (match c.callee with
  | .builtin .append => (match c.args.toList, c.argTypes.toList with
   | [d, x], [ty, u] => appC P m ty u (evoC t d) (evoC t x)
   | _, _ => none)
  | .builtin .copy => (match c.args.toList, c.argTypes.toList with
   | [d, x], [ty, _] => copyC P m ty (evoC t d) (evoC t x)
   | _, _ => none)
  | _ => none)
 | .makeMap _ none => appM m ⟨0, .mp []⟩ fun m' => some (m', .omap m.length 0)
 | .mapUpdate ty mp k v => updC P m ty (evoC t mp) (evoC t k) (evoC t v)
 | .insert ty mp k v => updC P m ty (evoC t mp) (evoC t k) (evoC t v)
 | _ => none
theorem effC_ok {t : List (Nat × AV)} {m m' : Mem} {op : Op} {x : AV} (h : effC P t m op = some (m', x)) : ∃ p, effA P (evo t) m op = some (m', x, p) ∧ p := by
 unfold effC at h
 rw [evoC_eq] at h
 split at h
 ·split at h
  ·rename_i hs
   obtain ⟨p, h1, h2⟩ := storeC_ok hs
   simp only [Option.some.injEq, Prod.mk.injEq] at h
   obtain ⟨rfl, rfl⟩ := h
   exact ⟨p, h1, h2⟩
  ·cases h
 ·exact boxC_ok h
 ·split at h
  ·rename_i hz
   obtain ⟨p, h1, h2⟩ := boxC_ok h
   exact ⟨p, by simp only [effA, hz]; exact h1, h2⟩
  ·cases h
 ·exact makeC_ok h
 ·split at h
  ·rename_i c hc
   split at h
   ·rename_i ha ht
    obtain ⟨p, h1, h2⟩ := appC_ok h
    exact ⟨p, by simp only [effA, hc, ha, ht]; exact h1, h2⟩
   ·cases h
  ·rename_i c hc
   split at h
   ·rename_i ha ht
    obtain ⟨p, h1, h2⟩ := copyC_ok h
    exact ⟨p, by simp only [effA, hc, ha, ht]; exact h1, h2⟩
   ·cases h
  ·cases h
 ·rw [appM_eq] at h
  simp only [Option.some.injEq, Prod.mk.injEq] at h
  obtain ⟨rfl, rfl⟩ := h
  exact ⟨True, rfl, trivial⟩
 ·exact updC_ok h
 ·exact updC_ok h
 ·cases h
section
variable {gds : List (Option Nat)} {l : List Oper} {Q : S → Prop} {s : S} {o : Oper}
theorem pick_yield {t : List (Nat × AV)} {m : Mem} {dst : Option Nat} {c a b : Operand} {type : TypeId} {pos : String} {after : Array Edge} {g : Bool} (h : evo t c = .bool g) : Yield P gds t m ⟨dst, .pick c a b, type, pos, after, none⟩ (match g with
  | true => evo t a
  | false => evo t b) := by
 refine ⟨fun c e => (by cases e), fun X w ρ act hi hr hn => ⟨fun _ => ?_, fun hw => by simp [Region.wanted] at hw⟩⟩
 have ho := evo_of (op := .pick c a b) fun n hn => hr n (.inr hn)
 have hc := ho c (by simp [Op.operands])
 rw [h, R_val] at hc
 refine .inl ⟨if g then act.eval a else act.eval b, w, ?_, ?_, hi, Tr.refl w ρ⟩
 ·unfold execOp
  simp only [hc]
  cases g <;> simp [go_sem, asBool]
 ·cases g
  ·exact ho b (by simp [Op.operands])
  ·exact ho a (by simp [Op.operands])
theorem guardT_yield {t : List (Nat × AV)} {m : Mem} {dst : Option Nat} {op : Op} {type : TypeId} {pos : String} {after : Array Edge} {g : Nat × Bool} {x : AV} (hg : gval gds t g = some true) (h : Yield P gds t m ⟨dst, op, type, pos, after, none⟩ x) : Yield P gds t m ⟨dst, op, type, pos, after, some g⟩ x := by
 refine ⟨h.1, fun X w ρ act hi hr hn => ?_⟩
 have hw := gval_wanted (o := ⟨dst, op, type, pos, after, some g⟩) (a := act) (X := X) (w := w) (ρ := ρ) rfl (fun n hn' => ⟨hr n (.inl hn'), hn n hn'⟩) hg
 rw [hw]
 refine ⟨fun _ => ?_, fun e => (by cases e)⟩
 exact (h.2 X w ρ act hi (fun n hn' => hr n (hn'.elim (fun h => by cases h) .inr)) (fun n hn' => by cases hn')).1 (by simp [Region.wanted])
theorem guardF_yield {t : List (Nat × AV)} {m : Mem} {dst : Option Nat} {op : Op} {type : TypeId} {pos : String} {after : Array Edge} {g : Nat × Bool} (hd : ∀ c, op ≠ .defer c) (hg : gval gds t g = some false) : Yield P gds t m ⟨dst, op, type, pos, after, some g⟩ (.opt false (.bool false)) := by
 refine ⟨hd, fun X w ρ act hi hr hn => ?_⟩
 have hw := gval_wanted (o := ⟨dst, op, type, pos, after, some g⟩) (a := act) (X := X) (w := w) (ρ := ρ) rfl (fun n hn' => ⟨hr n (.inl hn'), hn n hn'⟩) hg
 rw [hw]
 exact ⟨fun e => (by cases e), fun _ => ⟨fun e => (by cases e), fun _ => rfl⟩⟩
theorem Run.gtrue0 {dst : Option Nat} {op : Op} {type : TypeId} {pos : String} {after : Array Edge} {g : Nat × Bool} (h : gval gds s.t g = some true) (k : Run P gds (⟨dst, op, type, pos, after, none⟩ :: l) Q s) : Run P gds (⟨dst, op, type, pos, after, some g⟩ :: l) Q s := by
 intro hg hd X r a w ρ hr
 have hw := gval_wanted (o := ⟨dst, op, type, pos, after, some g⟩) (a := a) (X := X) (w := w) (ρ := ρ) rfl (fun n hn => ⟨hr.tmps n, by rw [hr.size]; exact gnames_lt hg _ n hn⟩) h
 have h0 := k hg (fun o ho => by
  cases ho with
  | head => exact hd ⟨dst, op, type, pos, after, some g⟩ (by simp)
  | tail _ ho => exact hd o (List.mem_cons_of_mem _ ho)) X r a w ρ hr
 unfold opwp at h0 ⊢
 rw [if_pos (by simp [Region.wanted])] at h0
 rw [if_pos hw]
 exact h0
def calleeC : AV → Option (FuncId × List AV × List AV)
 | .clo f caps => some (f, [], caps)
 | .bnd f xs => some (f, xs, [])
 | .val (.func (.func f) ⟨[]⟩ ⟨[]⟩) => some (f, [], [])
 | _ => none
theorem calleeC_rel {X : Nat → Prop} {w : World} {ρ : Rho} {x : AV} {v : Value} {f : FuncId} {fs cs : List AV} (h : calleeC x = some (f, fs, cs)) (hr : R X w ρ x v) : ∃ us vs : List Value, v = .func (.func f) us.toArray vs.toArray ∧ Rvals X w ρ fs us ∧ Rvals X w ρ cs vs := by
 unfold calleeC at h
 split at h <;> simp only [Option.some.injEq, Prod.mk.injEq, reduceCtorEq] at h
 ·obtain ⟨rfl, rfl, rfl⟩ := h
  obtain ⟨vs, h1, h2⟩ := hr
  exact ⟨[], vs, h1, rfl, h2⟩
 ·obtain ⟨rfl, rfl, rfl⟩ := h
  obtain ⟨vs, h1, h2⟩ := hr
  exact ⟨vs, [], h1, h2, rfl⟩
 ·obtain ⟨rfl, rfl, rfl⟩ := h
  exact ⟨[], [], hr, rfl, rfl⟩
theorem run_callB {w : World} {o : Oper} {fo : Operand} {args : Array Operand} {tys : Array TypeId} (ho : o.op = .call ⟨.value fo, args, tys⟩) {a : Act} {f : FuncId} {us cs : List Value} (hf : a.eval fo = .func (.func f) us.toArray cs.toArray) (he : Enters P f) :
  (execOp a.eval o).run P w = .ok (.enter f (us ++ (args.toList.map a.eval ++ cs)).toArray) w := by
 have e : (us.toArray ++ args.map a.eval ++ cs.toArray) = (us ++ (args.toList.map a.eval ++ cs)).toArray := by
  apply Array.ext'; simp
 unfold execOp
 rw [ho]
 simp only [resolve, hf, Deferred.ofValue, Sem.run_bind, Sem.run_pure, Result.andThen_ok, invoke]
 rw [← e]
 exact he _ w
theorem Run.specB {fo : Operand} {args : Array Operand} {tys : Array TypeId} {dst : Option Nat} {type : TypeId} {pos : String} {after : Array Edge} {f : FuncId} {fs cs : List AV} {C : AV → Mem → Prop}
  (he : Enters P f) (hf : calleeC (evo s.t fo) = some (f, fs, cs)) (hc : Spec P f (fs ++ (args.toList.map (evo s.t) ++ cs)) s.m C) (k : ∀ x m', C x m' → Run P gds l Q ({ s with m := m' }.put dst x)) : Run P gds (⟨dst, .call ⟨.value fo, args, tys⟩, type, pos, after, none⟩ :: l) Q s := by
 intro hg hd
 refine Run.eff (fun X r a w ρ hr => ?_) hg hd
 unfold opwp
 rw [if_pos (by simp [Region.wanted])]
 obtain ⟨us, vs, h1, h2, h3⟩ := calleeC_rel hf (evo_rel hr.tmps fo)
 have hrun := run_callB (P := P) (w := w) (o := ⟨dst, .call ⟨.value fo, args, tys⟩, type, pos, after, none⟩) rfl h1 he
 refine ⟨fun _ _ => trivial, ?_⟩
 rw [Oper.semAt_eq _ _ _ (by intro c e; cases e), hrun]
 refine ⟨fun h => (by cases h), callsIn_fence ?_⟩
 refine (hc X w ρ _ hr.inv (h2.append ((Rvals_map args.toList fun y _ => evo_rel hr.tmps y).append h3))).mono ?_
 rintro e w' ⟨v, x, m', ρ', rfl, q, k1, k2, k3⟩
 exact ⟨{ s with m := m' }.put dst x, ρ', ⟨by rw [S.put_n], k x m' q⟩, (hr.step k3 k2).put (hd ⟨dst, .call ⟨.value fo, args, tys⟩, type, pos, after, none⟩ (by simp)) k1, k3⟩
end
mutual
def mxV : AV → Nat
 | .val _ => 0
 | .any => 0
 | .lst _ l => mxL l
 | .osl id _ _ _ => id + 1
 | .emp => 0
 | .ref xs _ => mxL xs
 | .optr id _ _ _ => id + 1
 | .agg xs => mxL xs
 | .tup xs => mxL xs
 | .clo _ caps => mxL caps
 | .bnd _ xs => mxL xs
 | .opt _ x => mxV x
 | .yld id _ => id + 1
 | .omap id _ => id + 1
def mxL : List AV → Nat
 | [] => 0
 | x :: l => Nat.max (mxV x) (mxL l)
end
mutual
theorem mxV_ok {k : Nat} : ∀ (x : AV), mxV x ≤ k → x.ok k
 | .val _, _ => trivial
 | .any, _ => trivial
 | .lst _ l, h => mxL_ok l h
 | .osl id _ _ _, h => h
 | .emp, _ => trivial
 | .ref xs _, h => mxL_ok xs h
 | .optr id _ _ _, h => h
 | .agg xs, h => mxL_ok xs h
 | .tup xs, h => mxL_ok xs h
 | .clo _ caps, h => mxL_ok caps h
 | .bnd _ xs, h => mxL_ok xs h
 | .opt _ x, h => mxV_ok x h
 | .yld id _, h => h
 | .omap id _, h => h
theorem mxL_ok {k : Nat} : ∀ (l : List AV), mxL l ≤ k → okL k l
 | [], _ => trivial
 | x :: l, h => by
  have h1 : mxV x ≤ mxL (x :: l) := Nat.le_max_left _ _
  have h2 : mxL l ≤ mxL (x :: l) := Nat.le_max_right _ _
  exact ⟨mxV_ok x (Nat.le_trans h1 h), mxL_ok l (Nat.le_trans h2 h)⟩
end
def okM (b : Nat) : Nat → Mem → Bool
 | 0, _ => true
 | _ + 1, [] => true
 | k + 1, e :: m =>
  match e.kind with
  | .row _ l => (match Nat.ble (mxL l) b with
   | true => okM b k m
   | false => false)
  | .dfr => okM b k m
  | .lrec _ _ _ _ _ _ _ => false
  | .mp l => (match Nat.ble (mxL (l.map (·.2))) b with
   | true => okM b k m
   | false => false)
  | .ext _ _ => false
theorem okM_ok {b : Nat} : ∀ {k : Nat} {m : Mem}, okM b k m = true → ∀ e ∈ m.take k, e.kind.ok b
 | 0, m, _, e, he => by simp at he
 | k + 1, [], _, e, he => by simp at he
 | k + 1, e' :: m, h, e, he => by
  unfold okM at h
  rw [List.take_succ_cons] at he
  rcases List.mem_cons.1 he with rfl | he
  ·split at h
   ·rename_i hk
    rw [hk]
    split at h
    ·rename_i hb
     rw [Nat.ble_eq] at hb
     exact mxL_ok _ hb
    ·cases h
   ·rename_i hk
    rw [hk]; trivial
   ·cases h
   ·rename_i hk
    rw [hk]
    split at h
    ·rename_i hb
     rw [Nat.ble_eq] at hb
     exact mxL_ok _ hb
    ·cases h
   ·cases h
  ·split at h
   ·split at h
    ·exact okM_ok h e he
    ·cases h
   ·exact okM_ok h e he
   ·cases h
   ·split at h
    ·exact okM_ok h e he
    ·cases h
   ·cases h
def keepK (m : Mem) (x : AV) (k0 : Nat) : Nat → Nat
 | 0 => m.length
 | n + 1 =>
  match okM k0 k0 m, Nat.ble (mxV x) k0 with
  | true, true => k0
  | _, _ => keepK m x (k0 + 1) n
def resC (P : Program) (s : S) : List ResultVar → Option (List AV)
 | [] => some []
 | .tmp t :: rs => (match resC P s rs with
  | some xs => some (lookB s.t t :: xs)
  | none => none)
 | .cell a ty :: rs => (match loadC P s.m ty (lookB s.t a), resC P s rs with
  | some x, some xs => some (x :: xs)
  | _, _ => none)
theorem resC_ok {s : S} : ∀ {rs : List ResultVar} {xs : List AV}, resC P s rs = some xs → ∃ p, resL P s rs = some (xs, p) ∧ p
 | [], xs, h => by simp only [resC, Option.some.injEq] at h; exact ⟨True, by rw [resL, h], trivial⟩
 | .tmp t :: rs, xs, h => by
  unfold resC at h
  split at h
  ·rename_i hx
   obtain ⟨p, h1, h2⟩ := resC_ok hx
   simp only [Option.some.injEq] at h
   subst h
   exact ⟨True ∧ p, by simp only [resL, res1, h1]; rw [lookB_eq], trivial, h2⟩
  ·cases h
 | .cell a ty :: rs, xs, h => by
  unfold resC at h
  split at h
  ·rename_i hl hx
   obtain ⟨p, h1, h2⟩ := resC_ok hx
   rw [lookB_eq] at hl
   obtain ⟨q, h3, h4⟩ := loadC_ok hl
   simp only [Option.some.injEq] at h
   subst h
   exact ⟨q ∧ p, by simp only [resL, res1, h1, h3], h4, h2⟩
  ·cases h
def fM {α : Type} : Nat → Mem → (Mem → α) → α
 | 0, _, k => k []
 | _ + 1, [], k => k []
 | n + 1, e :: m, k => fM n m fun m => k (e :: m)
theorem fM_eq {α : Type} : ∀ (n : Nat) (m : Mem) (k : Mem → α), fM n m k = k (m.take n)
 | 0, m, k => by simp [fM]
 | n + 1, [], k => by simp [fM]
 | n + 1, e :: m, k => by simp [fM, fM_eq n m]
def leaveC (P : Program) (rs : List ResultVar) (k0 : Nat) (s : S) : Option (AV × Mem) :=
 match s.d with
 | [] =>
  match resC P s rs with
  | some xs =>
   fV (packRes xs) fun x =>
    match Nat.beq s.m.length k0 with
    | true => some (x, s.m)
    | false => fN (keepK s.m x k0 (s.m.length - k0)) fun k =>
     match okM k k s.m, Nat.ble (mxV x) k, Nat.ble k0 k with
     | true, true, true => fM k s.m fun m => some (x, m)
     | _, _, _ => none
  | none => none
 | _ :: _ => none
def xF (P : Program) (nf : Nat) (ih : Code → S → Option (Exit × S)) (f : FuncId) (args : List AV) (m : Mem) : Option (AV × Mem) :=
 match Nat.ble (f + 1) nf, P.funcs[f]? with
 | true, some fn =>
  match fn.body, Nat.ble args.length fn.ntmps with
  | some c, true =>
   match ih c (entry args m fn.ntmps) with
   | some (.normal, s) => leaveC P fn.results.toList m.length s
   | some (.ret, s) => leaveC P fn.results.toList m.length s
   | _ => none
  | _, _ => none
 | _, _ => none
def Named (P : Program) (nf : Nat) : Prop := ∀ f fn, f < nf → P.funcs[f]? = some fn → (fn.name == "runtime.NumGoroutine") = false
def Sound (P : Program) (ih : Code → S → Option (Exit × S)) : Prop := ∀ (r : Option Nat) (c : Code) (s s' : S) (e : Exit) (Q : Exit → S → Prop), ih c s = some (e, s') → Q e s' → Wp P r c Q s
theorem xF_sound {nf : Nat} (hE : Named P nf) {ih : Code → S → Option (Exit × S)} (hs : Sound P ih) {f : FuncId} {args : List AV} {m m' : Mem} {x : AV} (h : xF P nf ih f args m = some (x, m')) :
  Enters P f ∧ Spec P f args m fun y m1 => y = x ∧ m1 = m' := by
 unfold xF at h
 split at h
 ·rename_i hf hfn
  rw [Nat.ble_eq] at hf
  split at h
  ·rename_i fn _ _ c hb hn
   rw [Nat.ble_eq] at hn
   refine ⟨Enters.of hfn (hE f fn hf hfn) (by rw [hb]; rfl), ?_⟩
   have key : ∀ (e : Exit) (s : S), (e = .normal ∨ e = .ret) → ih c (entry args m fn.ntmps) = some (e, s) → leaveC P fn.results.toList m.length s = some (x, m') → Spec P f args m fun y m1 => y = x ∧ m1 = m' := by
    intro e s he hr hl
    unfold leaveC at hl
    split at hl
    ·rename_i hd
     split at hl
     ·rename_i xs hx
      obtain ⟨p, h1, h2⟩ := resC_ok hx
      rw [fV_eq] at hl
      split at hl
      ·simp only [Option.some.injEq, Prod.mk.injEq] at hl
       refine Spec.of_bodyA hfn hb hn (hs none c _ s e _ hr ?_)
       rcases he with rfl | rfl <;> exact ⟨hd, xs, p, h1, h2, hl.1, hl.2⟩
      ·rw [fN_eq] at hl
       split at hl
       ·rename_i h3 h4 h5
        rw [Nat.ble_eq] at h4 h5
        rw [fM_eq] at hl
        simp only [Option.some.injEq, Prod.mk.injEq] at hl
        refine Spec.of_body hfn hb hn (keepK s.m (packRes xs) m.length (s.m.length - m.length)) h5 (hs none c _ s e _ hr ?_)
        have e1 : ({ s with m := kill s.m s.d, d := [] } : S) = s := by
         cases s; simp only at hd; subst hd; rfl
        have e2 : kill s.m s.d = s.m := by rw [hd]; rfl
        rcases he with rfl | rfl
        all_goals
         exact ⟨(by rw [hd]; intro q hq; cases hq), (by rw [hd]; exact List.Pairwise.nil), xs, p, (by rw [e1]; exact h1), h2, mxV_ok _ h4, (by rw [e2]; exact okM_ok h3), hl.1, (by rw [e2]; exact hl.2)⟩
       ·cases hl
     ·cases hl
    ·cases hl
   split at h
   ·rename_i s hr
    exact key _ s (.inl rfl) hr h
   ·rename_i s hr
    exact key _ s (.inr rfl) hr h
   ·cases h
  ·cases h
 ·cases h
end Go.Vg
namespace Go.Vg
open Go.RowKit
variable {P : Program} {X : Nat → Prop} {w : World} {ρ ρ' : Rho}
theorem strs_row {b : Nat} : ∀ (ss : List ByteArray) (o : Nat), (∀ i, i < ss.length → w.cell? ⟨b, o + i, none⟩ = some (.string (ss.getD i .empty))) → Rrow X w ρ (ss.map AV.str) 1 b o
 | [], _, _ => trivial
 | s :: ss, o, h => by
  refine ⟨⟨rfl, .string s, by simpa using h 0 (by simp), rfl, rfl⟩, strs_row ss (o + 1) fun i hi => ?_⟩
  have := h (i + 1) (by simp; omega)
  rw [Nat.add_assoc, Nat.add_comm 1 i]
  simpa using this
theorem Gd.ref {m : Mem} (hi : Inv X w ρ m) {g : Nat} {ss : List ByteArray} (hg : GR = some (g, ss)) : R X w ρ (.ref [.strs ss] 0) (.pointer (some ⟨g, 0, none⟩)) := by
 obtain ⟨b, o, c, h1, h2, h3, h4, h5, h6, h7⟩ := hi.gd.2.1 g ss hg
 refine ⟨g, 0, rfl, by simp, h6, ⟨_, h1, rfl, _, c, by rw [List.length_map], by simpa using h2, h3, fun _ => ⟨b, o, rfl, h7, by omega, strs_row ss o h5⟩⟩, trivial⟩
theorem Run.loadG {gds : List (Option Nat)} {l : List Oper} {Q : S → Prop} {s : S} {g : Nat} {ss : List ByteArray} (hg : GR = some (g, ss)) {dst : Option Nat} {ty type : TypeId} {pos : String} {after : Array Edge} (hz : agg? P ty = some false) (k : Run P gds l Q (s.put dst (.strs ss))) :
  Run P gds (⟨dst, .load ty (.global g), type, pos, after, none⟩ :: l) Q s := by
 refine Run.yield (x := .strs ss) ⟨fun c e => (by cases e), fun X w ρ a hi hr hn => ⟨fun _ => ?_, fun hw => (by simp [Region.wanted] at hw)⟩⟩ k
 have hR := Gd.ref hi hg
 have key : ∀ x ∈ Op.operands (.load ty (.global g)), R X w ρ (.ref [.strs ss] 0) (a.eval x) := by
  intro x hx
  have : x = .global g := by simpa [Op.operands] using hx
  subst this
  exact hR
 obtain ⟨v, q1, q2⟩ := ev_run (P := P) (o := ⟨dst, .load ty (.global g), type, pos, after, none⟩) hi (E := fun _ => .ref [.strs ss] 0) (B := fun _ => .ref [.strs ss] 0) (fun x hx => key x (needs_sub _ x hx)) key (z := .strs ss) (p := True) (by simp [ev, loadA, hz]) trivial
 exact .inl ⟨v, w, q1, q2, hi, Tr.refl w ρ⟩
end Go.Vg
namespace Go.Vg
open Go.RowKit
variable {P : Program}
def bldC (P : Program) (t : List (Nat × AV)) (op : Op) : Option (Nat × List AV) :=
 match op with
 | .buildSlice ty len parts =>
  match uk P ty with
  | .slice e =>
   match tsz P e, partsOf (evoC t) len parts.toList with
   | some sz, some xs => if elB P e = true then (match Nat.ble (len * sz) 16777216, xs.all (fun x => flatB x && Nat.beq x.cells.length sz) with
    | true, true => some (sz, xs)
    | _, _ => none) else none
   | _, _ => none
  | _ => none
 | _ => none
theorem bldC_ok {t : List (Nat × AV)} {op : Op} {sz : Nat} {xs : List AV} (h : bldC P t op = some (sz, xs)) : ∃ p, bldA P (evo t) op = some (sz, xs, p) ∧ p := by
 unfold bldC at h
 rw [evoC_eq] at h
 split at h
 ·split at h
  ·rename_i hu
   split at h
   ·rename_i hs hx
    split at h
    ·rename_i he
     split at h
     ·rename_i h1 h2
      rw [Nat.ble_eq] at h1
      simp only [Option.some.injEq, Prod.mk.injEq] at h
      obtain ⟨rfl, rfl⟩ := h
      unfold bldA
      simp only [hu, hs, hx]
      rw [if_pos ⟨he, h1⟩]
      refine ⟨_, rfl, fun x hx => ?_⟩
      have := List.all_eq_true.1 h2 x hx
      rw [Bool.and_eq_true, Nat.beq_eq] at this
      exact ⟨flatB_ok this.1, this.2⟩
     ·cases h
    ·cases h
   ·cases h
  ·cases h
 ·cases h
def bytesB : List AV → Option (List UInt8)
 | [] => some []
 | .val (.int .u8 n) :: l => (match ltB n 256, bytesB l with
  | true, some bs => some (UInt8.ofNat n.toNat :: bs)
  | _, _ => none)
 | _ => none
theorem bytesB_ok : ∀ {l : List AV} {bs : List UInt8}, bytesB l = some bs → l = bs.map AV.byte
 | [], bs, h => by simp only [bytesB, Option.some.injEq] at h; subst h; rfl
 | x :: l, bs, h => by
  unfold bytesB at h
  split at h
  ·rename_i heq; cases heq
  ·rename_i n l' heq
   simp only [List.cons.injEq] at heq
   obtain ⟨rfl, rfl⟩ := heq
   split at h
   ·rename_i bs' h1 h2
    simp only [Option.some.injEq] at h
    subst h
    have h3 := ltB_ok h1
    have h4 := bytesB_ok h2
    simp only [List.map_cons, ← h4, List.cons.injEq, and_true]
    simp only [AV.byte]
    congr 2
    simp
    omega
   ·cases h
  ·cases h
def opC (P : Program) (t : List (Nat × AV)) (m : Mem) (op : Op) : Option (Mem × AV) :=
 match op with
 | .pick c a b => (match evoC t c with
  | .val (.bool true) => some (m, evoC t a)
  | .val (.bool false) => some (m, evoC t b)
  | _ => none)
 | op =>
  match evC P t m op with
  | some x => some (m, x)
  | none =>
   match effC P t m op with
   | some r => some r
   | none =>
    match bldC P t op with
    | some (sz, xs) => fR xs fun xs => appM m ⟨0, .row sz xs⟩ fun m' => some (m', .osl m.length 0 0 xs.length)
    | none =>
     match op with
     | .convert a b x =>
      (match uk P a, uk P b with
      | .string, .slice e => (match uk P e, evoC t x with
       | .int .u8, .val (.string s) => (match Nat.ble s.data.toList.length 100000 with
        | true => fR (s.data.toList.map AV.byte) fun l => appM m ⟨0, .row 1 l⟩ fun m' => some (m', .osl m.length 0 0 s.size)
        | false => none)
       | _, _ => none)
      | .slice e, .string => (match uk P e, rowC m (evoC t x) with
       | .int .u8, some (1, l) => (match bytesB l with
        | some bs => some (m, .str ⟨bs.toArray⟩)
        | none => none)
       | _, _ => none)
      | _, _ => none)
     | .binOp .eql ty x (.const (.slice none 0 0)) _ =>
      (match uk P ty, evoC t x with
      | .slice _, .lst _ (_ :: _) => some (m, .bool false)
      | .slice _, .osl id ver _ (_ + 1) => (match getM m id with
       | some e => (match Nat.beq e.ver ver with
        | true => some (m, .bool false)
        | false => none)
       | none => none)
      | _, _ => none)
     | .load ty (.global g) =>
      (match GR with
      | some (g', ss) => (match Nat.beq g g', agg? P ty with
       | true, some false => some (m, .strs ss)
       | _, _ => none)
      | none => none)
     | _ => none
section
variable {gds : List (Option Nat)} {l : List Oper} {Q : S → Prop} {s : S}
theorem opC_run {dst : Option Nat} {op : Op} {type : TypeId} {pos : String} {after : Array Edge} {m' : Mem} {x : AV} (h : opC P s.t s.m op = some (m', x)) (k : Run P gds l Q ({ s with m := m' }.put dst x)) : Run P gds (⟨dst, op, type, pos, after, none⟩ :: l) Q s := by
 unfold opC at h
 split at h
 ·rename_i c a b
  rw [evoC_eq] at h
  split at h
  ·rename_i hg
   simp only [Option.some.injEq, Prod.mk.injEq] at h
   obtain ⟨rfl, rfl⟩ := h
   exact Run.yield (pick_yield hg) k
  ·rename_i hg
   simp only [Option.some.injEq, Prod.mk.injEq] at h
   obtain ⟨rfl, rfl⟩ := h
   exact Run.yield (pick_yield hg) k
  ·cases h
 ·split at h
  ·rename_i he
   obtain ⟨p, h1, h2⟩ := evC_ok he
   simp only [Option.some.injEq, Prod.mk.injEq] at h
   obtain ⟨rfl, rfl⟩ := h
   exact Run.stepP (o := ⟨dst, op, type, pos, after, none⟩) (by unfold stepA; exact h1) h2 k
  ·split at h
   ·rename_i he
    obtain ⟨p, h1, h2⟩ := effC_ok (h ▸ he)
    exact Run.effP h1 h2 k
   ·split at h
    ·rename_i hb
     obtain ⟨p, h1, h2⟩ := bldC_ok hb
     rw [fR_eq, appM_eq] at h
     simp only [Option.some.injEq, Prod.mk.injEq] at h
     obtain ⟨rfl, rfl⟩ := h
     exact Run.build h1 h2 k
    ·rw [evoC_eq] at h
     split at h
     ·split at h
      ·rename_i h1 h2
       split at h
       ·rename_i h3 h4
        split at h
        ·rename_i h5
         rw [Nat.ble_eq, bsize] at h5
         rw [fR_eq, appM_eq] at h
         simp only [Option.some.injEq, Prod.mk.injEq] at h
         obtain ⟨rfl, rfl⟩ := h
         exact Run.bytes h1 h2 h3 h4 (by omega) k
        ·cases h
       ·cases h
      ·rename_i h1 h2
       split at h
       ·rename_i h3 h4
        split at h
        ·rename_i h5
         obtain ⟨h6, h7⟩ := rowC_ok h4
         rw [bytesB_ok h5] at h6
         simp only [Option.some.injEq, Prod.mk.injEq] at h
         obtain ⟨rfl, rfl⟩ := h
         exact Run.strOf h1 h3 h2 h6 h7 k
        ·cases h
       ·cases h
      ·cases h
     ·split at h
      ·rename_i hu hx
       simp only [Option.some.injEq, Prod.mk.injEq] at h
       obtain ⟨rfl, rfl⟩ := h
       refine Run.isnil hu (by rw [hx]; rfl) fun b hb => ?_
       rw [hx] at hb
       cases b with
       | false => exact k
       | true => exact absurd (hb rfl) (by simp)
      ·rename_i hu hx
       split at h
       ·rename_i e he
        rw [getM_eq] at he
        split at h
        ·rename_i hv
         rw [Nat.beq_eq] at hv
         simp only [Option.some.injEq, Prod.mk.injEq] at h
         obtain ⟨rfl, rfl⟩ := h
         refine Run.isnil hu (by rw [hx]; rfl) fun b hb => ?_
         rw [hx] at hb
         cases b with
         | false => exact k
         | true =>
          simp only [nilOk, he] at hb
          exact absurd (hb hv trivial) (by simp)
        ·cases h
       ·cases h
      ·cases h
     ·split at h
      ·rename_i hg
       split at h
       ·rename_i h1 h2
        rw [Nat.beq_eq] at h1
        subst h1
        simp only [Option.some.injEq, Prod.mk.injEq] at h
        obtain ⟨rfl, rfl⟩ := h
        exact Run.loadG hg h2 k
       ·cases h
      ·cases h
     ·cases h
end
def gvalC (gds : List (Option Nat)) (t : List (Nat × AV)) (g : Nat × Bool) : Option Bool :=
 match (gds[g.1]?).bind id with
 | some d =>
  match lookB t d with
  | .val (.bool b) => some (if g.2 then b else !b)
  | .opt h (.val (.bool b)) => some (h && (if g.2 then b else !b))
  | _ => none
 | none => none
theorem gvalC_eq (gds : List (Option Nat)) (t : List (Nat × AV)) (g : Nat × Bool) : gvalC gds t g = gval gds t g := by
 unfold gvalC gval
 simp only [lookB_eq]
 rfl
def isDefer : Op → Bool
 | .defer _ => true
 | _ => false
def xO1 (P : Program) (nf : Nat) (ih : Code → S → Option (Exit × S)) (s : S) (dst : Option Nat) (op : Op) : Option S :=
 match op with
 | .call ⟨.value fo, args, tys⟩ => (match calleeC (evoC s.t fo) with
  | some (f, fs, cs) => (match xF P nf ih f (fs ++ (args.toList.map (evoC s.t) ++ cs)) s.m with
   | some (x, m') => some (putA ⟨s.t, m', s.n, s.d⟩ dst x)
   | none => none)
  | none => none)
 | op => match opC P s.t s.m op with
  | some (m', x) => fV x fun x => some (putA ⟨s.t, m', s.n, s.d⟩ dst x)
  | none => none
def xO (P : Program) (nf : Nat) (ih : Code → S → Option (Exit × S)) (gds : List (Option Nat)) (s : S) (o : Oper) : Option S :=
 match o.guard with
 | none => xO1 P nf ih s o.dst o.op
 | some g => match gvalC gds s.t g with
  | some true => xO1 P nf ih s o.dst o.op
  | some false => (match isDefer o.op with
   | true => none
   | false => some (putA s o.dst (.opt false (.bool false))))
  | none => none
def xL (P : Program) (nf : Nat) (ih : Code → S → Option (Exit × S)) (gds : List (Option Nat)) : List Oper → S → Option S
 | [], s => some s
 | o :: l, s => match xO P nf ih gds s o with
  | some s1 => xL P nf ih gds l s1
  | none => none
section
variable {gds : List (Option Nat)} {nf : Nat} {ih : Code → S → Option (Exit × S)} (hE : Named P nf) (hs : Sound P ih)
include hE hs
theorem xO1_run {l : List Oper} {Q : S → Prop} {s s1 : S} {dst : Option Nat} {op : Op} {type : TypeId} {pos : String} {after : Array Edge} (h : xO1 P nf ih s dst op = some s1) (k : Run P gds l Q s1) : Run P gds (⟨dst, op, type, pos, after, none⟩ :: l) Q s := by
 unfold xO1 at h
 split at h
 ·rename_i fo args tys
  split at h
  ·rename_i f fs cs hc
   rw [evoC_eq] at hc h
   split at h
   ·rename_i x m' hx
    obtain ⟨h1, h2⟩ := xF_sound hE hs hx
    simp only [Option.some.injEq] at h
    subst h
    refine Run.specB h1 hc h2 ?_
    rintro _ _ ⟨rfl, rfl⟩
    rw [putA_eq] at k
    exact k
   ·cases h
  ·cases h
 ·split at h
  ·rename_i hx
   rw [fV_eq] at h
   simp only [Option.some.injEq] at h
   subst h
   rw [putA_eq] at k
   exact opC_run hx k
  ·cases h
theorem xL_run {Q : S → Prop} : ∀ {l : List Oper} {s s1 : S}, xL P nf ih gds l s = some s1 → Q s1 → Run P gds l Q s
 | [], s, s1, h, k => by simp only [xL, Option.some.injEq] at h; subst h; exact Run.nil k
 | ⟨dst, op, type, pos, after, guard⟩ :: l, s, s1, h, k => by
  unfold xL at h
  split at h
  ·rename_i s2 h2
   have k2 := xL_run h k
   unfold xO at h2
   split at h2
   ·rename_i hg
    simp only at hg; subst hg
    exact xO1_run hE hs h2 k2
   ·rename_i g hg
    simp only at hg; subst hg
    rw [gvalC_eq] at h2
    split at h2
    ·rename_i hv
     exact Run.gtrue0 hv (xO1_run hE hs h2 k2)
    ·rename_i hv
     split at h2
     ·cases h2
     ·rename_i hd
      simp only [Option.some.injEq] at h2
      subst h2
      rw [putA_eq] at k2
      exact Run.yield (guardF_yield (fun c e => by subst e; simp [isDefer] at hd) hv) k2
    ·cases h2
  ·cases h
end
def plainB : AV → Bool
 | .val _ => true
 | .any => true
 | .emp => true
 | .agg xs => xs.all fun
  | .val _ => true
  | .emp => true
  | _ => false
 | .tup xs => xs.all fun
  | .val _ => true
  | .emp => true
  | _ => false
 | _ => false
theorem plainB_ok {x : AV} (h : plainB x = true) : x.plain := by
 have key : ∀ xs : List AV, (xs.all fun
   | .val _ => true
   | .emp => true
   | _ => false) = true → plainL xs := by
  intro xs
  induction xs with
  | nil => intro _; trivial
  | cons y ys ih =>
   intro h
   simp only [List.all_cons, Bool.and_eq_true] at h
   refine ⟨?_, ih h.2⟩
   have h1 := h.1
   cases y <;> first | trivial | cases h1
 cases x <;> first | trivial | cases h | exact key _ h
def calm : Op → Bool
 | .move _ | .assign _ | .pick .. | .binOp .. | .unOp .. | .convert .. | .extract .. | .indexAddr .. | .load .. | .fieldAddr .. | .field .. | .index .. | .slice .. | .build .. | .buildSlice .. | .makeFunc .. | .nilCheck _ | .lookup .. => true
 | .call c => (match c.callee with
  | .value _ => true
  | .builtin .len => true
  | .builtin .min => true
  | .builtin .max => true
  | _ => false)
 | _ => false
def calmN : List Oper → Nat
 | [] => 0
 | o :: l => match calm o.op with
  | true => calmN l + 1
  | false => 0
def xN1 (P : Program) (nf : Nat) (ih : Code → S → Option (Exit × S)) (s : S) (op : Op) : Option AV :=
 match op with
 | .call ⟨.value fo, args, tys⟩ => (match fnOf (evoC s.t fo) with
  | some (f, caps) => (match Nat.beq (mxL ((args.toList.map (evoC s.t) ++ caps).map (view s.m))) 0 with
   | true => (match xF P nf ih f ((args.toList.map (evoC s.t) ++ caps).map (view s.m)) [] with
    | some (x, []) => (match plainB x with
     | true => some x
     | false => none)
    | _ => none)
   | false => none)
  | none => none)
 | .pick c a b => (match evoC s.t c with
  | .val (.bool true) => some (evoC s.t a)
  | .val (.bool false) => some (evoC s.t b)
  | _ => none)
 | op => match evC P s.t s.m op with
  | some x => some x
  | none => match bldC P s.t op with
   | some (sz, xs) => some (.lst sz xs)
   | none => none
def xN (P : Program) (nf : Nat) (ih : Code → S → Option (Exit × S)) (gds : List (Option Nat)) : List Oper → S → Option S
 | [], s => some s
 | o :: l, s =>
  match (match o.guard with
   | none => xN1 P nf ih s o.op
   | some g => (match gvalC gds s.t g with
    | some true => xN1 P nf ih s o.op
    | some false => (match isDefer o.op with
     | true => none
     | false => some (.opt false (.bool false)))
    | none => none)) with
  | some x => fV x fun x => xN P nf ih gds l (putA s o.dst x)
  | none => none
section
variable {gds : List (Option Nat)} {nf : Nat} {ih : Code → S → Option (Exit × S)} (hE : Named P nf) (hs : Sound P ih)
include hE hs
theorem xN1_yield {s : S} {dst : Option Nat} {op : Op} {type : TypeId} {pos : String} {after : Array Edge} {x : AV} (h : xN1 P nf ih s op = some x) : Yield P gds s.t s.m ⟨dst, op, type, pos, after, none⟩ x := by
 unfold xN1 at h
 rw [evoC_eq] at h
 split at h
 ·rename_i fo args tys
  split at h
  ·rename_i f caps hf
   split at h
   ·rename_i hz
    rw [Nat.beq_eq] at hz
    split at h
    ·rename_i x' hx
     split at h
     ·rename_i hp
      simp only [Option.some.injEq] at h
      subst h
      obtain ⟨h1, h2⟩ := xF_sound hE hs hx
      have ho : (⟨dst, .call ⟨.value fo, args, tys⟩, type, pos, after, none⟩ : Oper).op = callOp fo args.toList tys := by simp [callOp]
      exact Pure.yield (g := none) ho rfl trivial hf h1 (fun _ => h2) rfl (mxL_ok _ (by rw [hz]; exact Nat.le_refl _)) (plainB_ok hp)
     ·cases h
    ·cases h
   ·cases h
  ·cases h
 ·split at h
  ·rename_i hg
   simp only [Option.some.injEq] at h
   subst h
   exact pick_yield hg
  ·rename_i hg
   simp only [Option.some.injEq] at h
   subst h
   exact pick_yield hg
  ·cases h
 ·split at h
  ·rename_i he
   obtain ⟨p, h1, h2⟩ := evC_ok he
   simp only [Option.some.injEq] at h
   subst h
   exact stepA_yield (o := ⟨dst, op, type, pos, after, none⟩) (by unfold stepA; exact h1) h2
  ·split at h
   ·rename_i hb
    obtain ⟨p, h1, h2⟩ := bldC_ok hb
    simp only [Option.some.injEq] at h
    subst h
    exact bldA_yield h1 h2
   ·cases h
theorem xN_abn : ∀ {l : List Oper} {s s1 : S}, xN P nf ih gds l s = some s1 → Abn P gds l s s1
 | [], s, s1, h => by simp only [xN, Option.some.injEq] at h; subst h; exact Abn.nil
 | ⟨dst, op, type, pos, after, guard⟩ :: l, s, s1, h => by
  unfold xN at h
  split at h
  ·rename_i x hx
   rw [fV_eq] at h
   have k2 := xN_abn h
   rw [putA_eq] at k2
   refine Abn.yield (x := x) ?_ k2
   simp only at hx
   split at hx
   ·exact xN1_yield hE hs hx
   ·rename_i g
    rw [gvalC_eq] at hx
    split at hx
    ·rename_i hv
     exact guardT_yield hv (xN1_yield hE hs hx)
    ·rename_i hv
     split at hx
     ·cases hx
     ·rename_i hd
      simp only [Option.some.injEq] at hx
      subst hx
      exact guardF_yield (fun c e => by subst e; simp [isDefer] at hd) hv
    ·cases hx
  ·cases h
end
end Go.Vg
namespace Go.Vg
open Go.RowKit
variable {P : Program}
def eqVal : Value → Value → Bool
 | .int k a, .int k' b => decide (k = k') && eqI a b
 | .bool a, .bool b => a == b
 | .string a, .string b => eqS a b
 | .pointer none, .pointer none => true
 | .nilFunc, .nilFunc => true
 | .map none, .map none => true
 | _, _ => false
theorem eqVal_ok {a b : Value} (h : eqVal a b = true) : a = b := by
 unfold eqVal at h
 split at h
 ·simp only [Bool.and_eq_true, decide_eq_true_eq, eqI_eq] at h
  rw [h.1, h.2]
 ·simp only [beq_iff_eq] at h; rw [h]
 ·rw [eqS_eq, decide_eq_true_eq] at h; rw [h]
 ·rfl
 ·rfl
 ·rfl
 ·cases h
mutual
def eqV : AV → AV → Bool
 | .val a, .val b => eqVal a b
 | .any, .any => true
 | .emp, .emp => true
 | .osl a b c d, .osl a' b' c' d' => Nat.beq a a' && Nat.beq b b' && Nat.beq c c' && Nat.beq d d'
 | .optr a b c d, .optr a' b' c' d' => Nat.beq a a' && Nat.beq b b' && Nat.beq c c' && Nat.beq d d'
 | .lst n l, .lst n' l' => Nat.beq n n' && eqVL l l'
 | .ref l n, .ref l' n' => Nat.beq n n' && eqVL l l'
 | .agg l, .agg l' => eqVL l l'
 | .tup l, .tup l' => eqVL l l'
 | .clo f l, .clo f' l' => Nat.beq f f' && eqVL l l'
 | .bnd f l, .bnd f' l' => Nat.beq f f' && eqVL l l'
 | .opt g x, .opt g' x' => (g == g') && eqV x x'
 | .omap a b, .omap a' b' => Nat.beq a a' && Nat.beq b b'
 | _, _ => false
def eqVL : List AV → List AV → Bool
 | [], [] => true
 | x :: l, y :: l' => eqV x y && eqVL l l'
 | _, _ => false
end
mutual
theorem eqV_ok : ∀ (x y : AV), eqV x y = true → x = y := fun x y h => by
 cases x <;> cases y <;> simp only [eqV, Bool.and_eq_true, Nat.beq_eq, Bool.false_eq_true, beq_iff_eq] at h
 ·rw [eqVal_ok h]
 ·rfl
 ·rw [h.1, eqVL_ok _ _ h.2]
 ·obtain ⟨⟨⟨rfl, rfl⟩, rfl⟩, rfl⟩ := h; rfl
 ·rfl
 ·rw [h.1, eqVL_ok _ _ h.2]
 ·obtain ⟨⟨⟨rfl, rfl⟩, rfl⟩, rfl⟩ := h; rfl
 ·rw [eqVL_ok _ _ h]
 ·rw [eqVL_ok _ _ h]
 ·rw [h.1, eqVL_ok _ _ h.2]
 ·rw [h.1, eqVL_ok _ _ h.2]
 ·rw [h.1, eqV_ok _ _ h.2]
 ·obtain ⟨rfl, rfl⟩ := h; rfl
theorem eqVL_ok : ∀ (l l' : List AV), eqVL l l' = true → l = l'
 | [], [], _ => rfl
 | x :: l, y :: l', h => by
  simp only [eqVL, Bool.and_eq_true] at h
  rw [eqV_ok _ _ h.1, eqVL_ok _ _ h.2]
end
def eqP : List (Value × AV) → List (Value × AV) → Bool
 | [], [] => true
 | (k, x) :: l, (k', x') :: l' => eqKey k k' && eqV x x' && eqP l l'
 | _, _ => false
theorem eqP_ok : ∀ {l l' : List (Value × AV)}, eqP l l' = true → l = l'
 | [], [], _ => rfl
 | [], _ :: _, h => by simp [eqP] at h
 | _ :: _, [], h => by simp [eqP] at h
 | (k, x) :: l, (k', x') :: l', h => by
  simp only [eqP, Bool.and_eq_true] at h
  rw [eqKey_ok h.1.1, eqV_ok _ _ h.1.2, eqP_ok h.2]
def eqM : Mem → Mem → Bool
 | [], [] => true
 | ⟨v, .row sz l⟩ :: m, ⟨v', .row sz' l'⟩ :: m' => Nat.beq v v' && Nat.beq sz sz' && eqVL l l' && eqM m m'
 | ⟨v, .mp l⟩ :: m, ⟨v', .mp l'⟩ :: m' => Nat.beq v v' && eqP l l' && eqM m m'
 | _, _ => false
theorem eqM_ok : ∀ {m m' : Mem}, eqM m m' = true → m = m'
 | [], [], _ => rfl
 | [], _ :: _, h => by simp [eqM] at h
 | _ :: _, [], h => by simp [eqM] at h
 | ⟨v, k⟩ :: m, ⟨v', k'⟩ :: m', h => by
  cases k <;> cases k' <;> simp only [eqM, Bool.and_eq_true, Nat.beq_eq, Bool.false_eq_true] at h
  ·obtain ⟨⟨⟨rfl, rfl⟩, h1⟩, h2⟩ := h
   rw [eqVL_ok _ _ h1, eqM_ok h2]
  ·obtain ⟨⟨rfl, h1⟩, h2⟩ := h
   rw [eqP_ok h1, eqM_ok h2]
def alcNo : List Oper → Nat
 | [] => 0
 | o :: l => match isAlc o.op with
  | true => alcNo l + 1
  | false => alcNo l
def alcC (P : Program) (t : List (Nat × AV)) (op : Op) : Option (Nat × List AV × Option Nat) :=
 match op with
 | .box _ v => (match flatB (evoC t v), Nat.ble 1 (evoC t v).cells.length with
  | true, true => some ((evoC t v).cells.length, [evoC t v], none)
  | _, _ => none)
 | .alloc ty => (match zAV P ty with
  | some x => (match flatB x, Nat.ble 1 x.cells.length with
   | true, true => some (x.cells.length, [x], none)
   | _, _ => none)
  | none => none)
 | .makeSlice ty l c => (match makeC P [] ty (evoC t l) (evoC t c) with
  | some ([⟨_, .row sz row⟩], .osl _ _ _ n) => some (sz, row, some n)
  | _ => none)
 | .buildSlice ty len parts => (match bldC P t (.buildSlice ty len parts) with
  | some (sz, xs) => some (sz, xs, some xs.length)
  | none => none)
 | _ => none
theorem alcC_ok {t : List (Nat × AV)} {op : Op} {sz : Nat} {l : List AV} {q : Option Nat} (h : alcC P t op = some (sz, l, q)) : ∃ p, alcA P (evo t) op = some (sz, l, q, p) ∧ p := by
 unfold alcC at h
 rw [evoC_eq] at h
 split at h
 ·split at h
  ·rename_i h1 h2
   rw [Nat.ble_eq] at h2
   simp only [Option.some.injEq, Prod.mk.injEq] at h
   obtain ⟨rfl, rfl, rfl⟩ := h
   exact ⟨_, rfl, flatB_ok h1, h2⟩
  ·cases h
 ·split at h
  ·rename_i hz
   split at h
   ·rename_i h1 h2
    rw [Nat.ble_eq] at h2
    simp only [Option.some.injEq, Prod.mk.injEq] at h
    obtain ⟨rfl, rfl, rfl⟩ := h
    refine ⟨_, ?_, And.intro (flatB_ok h1) h2⟩
    simp only [alcA, hz]
    rfl
   ·cases h
  ·cases h
 ·split at h
  ·rename_i hm
   obtain ⟨p, h1, h2⟩ := makeC_ok hm
   simp only [Option.some.injEq, Prod.mk.injEq] at h
   obtain ⟨rfl, rfl, rfl⟩ := h
   exact ⟨p, by simp only [alcA, h1], h2⟩
  ·cases h
 ·split at h
  ·rename_i hm
   obtain ⟨p, h1, h2⟩ := bldC_ok hm
   simp only [Option.some.injEq, Prod.mk.injEq] at h
   obtain ⟨rfl, rfl, rfl⟩ := h
   exact ⟨p, by simp only [alcA, h1], h2⟩
  ·cases h
 ·cases h
def stepX1 (P : Program) (nf : Nat) (ih : Code → S → Option (Exit × S)) (t : List (Nat × AV)) (m : Mem) (op : Op) (aid : Nat) : Option (AV × Option Mem) :=
 match isAlc op with
 | true => (match alcC P t op, getM m aid with
  | some (sz, l, q), some e => setM m aid ⟨e.ver + 1, .row sz l⟩ fun m' => some (alcV aid (e.ver + 1) q, some m')
  | _, _ => none)
 | false =>
  match op with
  | .call ⟨.value fo, args, tys⟩ => (match fnOf (evoC t fo) with
   | some (f, caps) => (match xF P nf ih f (args.toList.map (evoC t) ++ caps) m with
    | some (x, m') => (match eqM m' m with
     | true => some (x, none)
     | false => some (x, some m'))
    | none => none)
   | none => none)
  | .pick c a b => (match evoC t c with
   | .val (.bool true) => some (evoC t a, none)
   | .val (.bool false) => some (evoC t b, none)
   | _ => none)
  | op => (match evC P t m op with
   | some x => some (x, none)
   | none => (match effC P t m op with
    | some (m', x) => some (x, some m')
    | none => none))
def stepX (P : Program) (nf : Nat) (ih : Code → S → Option (Exit × S)) (gds : List (Option Nat)) (t : List (Nat × AV)) (m : Mem) (o : Oper) (aid : Nat) : Option (AV × Option Mem) :=
 match o.guard with
 | none => stepX1 P nf ih t m o.op aid
 | some g => (match gvalC gds t g with
  | some true => stepX1 P nf ih t m o.op aid
  | some false => (match isDefer o.op with
   | true => none
   | false => some (.opt false (.bool false), none))
  | none => none)
section
variable {gds : List (Option Nat)} {nf : Nat} {ih : Code → S → Option (Exit × S)} (hE : Named P nf) (hs : Sound P ih)
include hE hs
theorem stepX1_ok {t : List (Nat × AV)} {m : Mem} {dst : Option Nat} {op : Op} {type : TypeId} {pos : String} {after : Array Edge} {aid : Nat} {x : AV} {om : Option Mem} (h : stepX1 P nf ih t m op aid = some (x, om)) : StepAt P gds t m ⟨dst, op, type, pos, after, none⟩ (om.getD m) x := by
 unfold stepX1 at h
 rw [evoC_eq] at h
 split at h
 ·split at h
  ·rename_i h1 h2
   rw [getM_eq] at h2
   rw [setM_eq] at h
   simp only [Option.some.injEq, Prod.mk.injEq] at h
   obtain ⟨rfl, rfl⟩ := h
   obtain ⟨p, h3, h4⟩ := alcC_ok h1
   exact alcA_step h3 h4 h2
  ·cases h
 ·split at h
  ·rename_i fo args tys _
   split at h
   ·rename_i f caps hf
    split at h
    ·rename_i x' m' hx
     split at h
     ·rename_i hm
      have hm' := eqM_ok hm
      simp only [Option.some.injEq, Prod.mk.injEq] at h
      obtain ⟨rfl, rfl⟩ := h
      obtain ⟨h1, h2⟩ := xF_sound hE hs hx
      have h3 : Spec P f (args.toList.map (evo t) ++ caps) m fun y m1 => y = x' ∧ m1 = m := h2.mono fun y m1 q => ⟨q.1, q.2.trans hm'⟩
      have h4 := Spec.stepAt (gds := gds) (dst := dst) (type := type) (pos := pos) (after := after) (tys := tys) h1 hf h3
      simpa [callOp] using h4
     ·simp only [Option.some.injEq, Prod.mk.injEq] at h
      obtain ⟨rfl, rfl⟩ := h
      obtain ⟨h1, h2⟩ := xF_sound hE hs hx
      have h4 := Spec.stepAt (gds := gds) (dst := dst) (type := type) (pos := pos) (after := after) (tys := tys) h1 hf h2
      simpa [callOp] using h4
    ·cases h
   ·cases h
  ·split at h
   ·rename_i hg
    simp only [Option.some.injEq, Prod.mk.injEq] at h
    obtain ⟨rfl, rfl⟩ := h
    exact (pick_yield hg).stepAt
   ·rename_i hg
    simp only [Option.some.injEq, Prod.mk.injEq] at h
    obtain ⟨rfl, rfl⟩ := h
    exact (pick_yield hg).stepAt
   ·cases h
  ·split at h
   ·rename_i he
    obtain ⟨p, h1, h2⟩ := evC_ok he
    simp only [Option.some.injEq, Prod.mk.injEq] at h
    obtain ⟨rfl, rfl⟩ := h
    exact (stepA_yield (o := ⟨dst, op, type, pos, after, none⟩) (by unfold stepA; exact h1) h2).stepAt
   ·split at h
    ·rename_i he
     obtain ⟨p, h1, h2⟩ := effC_ok he
     simp only [Option.some.injEq, Prod.mk.injEq] at h
     obtain ⟨rfl, rfl⟩ := h
     exact EffAt.stepAt rfl ⟨effA_defer h1, fun X w ρ a hi ho => effA_done (o := ⟨dst, op, type, pos, after, none⟩) hi ho h1 h2⟩
    ·cases h
theorem stepX_ok {t : List (Nat × AV)} {m : Mem} {o : Oper} {aid : Nat} {x : AV} {om : Option Mem} (h : stepX P nf ih gds t m o aid = some (x, om)) : StepAt P gds t m o (om.getD m) x := by
 obtain ⟨dst, op, type, pos, after, guard⟩ := o
 unfold stepX at h
 simp only at h
 split at h
 ·exact stepX1_ok hE hs h
 ·rename_i g
  rw [gvalC_eq] at h
  split at h
  ·rename_i hv
   exact StepAt.guardT hv (stepX1_ok hE hs h)
  ·rename_i hv
   split at h
   ·cases h
   ·rename_i hd
    simp only [Option.some.injEq, Prod.mk.injEq] at h
    obtain ⟨rfl, rfl⟩ := h
    exact (guardF_yield (fun c e => by subst e; simp [isDefer] at hd) hv).stepAt
  ·cases h
end
structure Rec where
 t : List (Nat × AV)
 m : Mem
 o : Oper
 aid : Nat
 x : AV
 om : Option Mem
def ChainX (P : Program) (nf : Nat) (ih : Code → S → Option (Exit × S)) (gds : List (Option Nat)) : List Rec → List Oper → List (Nat × AV) → Mem → List (Nat × AV) → Prop
 | [], [], t, _, t' => t = t'
 | r :: rs, o :: l, t, m, t' => r.t = t ∧ r.m = m ∧ r.o = o ∧ stepX P nf ih gds r.t r.m r.o r.aid = some (r.x, r.om) ∧ ChainX P nf ih gds rs l (upd t o.dst r.x) (r.om.getD m) t'
 | _, _, _, _, _ => False
def firstX (P : Program) (nf : Nat) (ih : Code → S → Option (Exit × S)) (gds : List (Option Nat)) : List Oper → List (Nat × AV) → Mem → Nat → Option (List Rec × List (Nat × AV))
 | [], t, _, _ => some ([], t)
 | o :: l, t, m, aid =>
  match stepX P nf ih gds t m o aid with
  | some (x, om) => fV x fun x =>
   (match firstX P nf ih gds l (upd t o.dst x) (om.getD m) (match isAlc o.op with
    | true => aid + 1
    | false => aid) with
   | some (rs, t') => some (⟨t, m, o, aid, x, om⟩ :: rs, t')
   | none => none)
  | none => none
theorem firstX_ok {nf : Nat} {ih : Code → S → Option (Exit × S)} {gds : List (Option Nat)} : ∀ {l : List Oper} {t t' : List (Nat × AV)} {m : Mem} {aid : Nat} {rs : List Rec}, firstX P nf ih gds l t m aid = some (rs, t') → ChainX P nf ih gds rs l t m t'
 | [], t, t', m, aid, rs, h => by
  simp only [firstX, Option.some.injEq, Prod.mk.injEq] at h
  obtain ⟨rfl, rfl⟩ := h
  rfl
 | o :: l, t, t', m, aid, rs, h => by
  unfold firstX at h
  split at h
  ·rename_i x om hx
   rw [fV_eq] at h
   split at h
   ·rename_i rs' t'' hr
    simp only [Option.some.injEq, Prod.mk.injEq] at h
    obtain ⟨rfl, rfl⟩ := h
    exact ⟨rfl, rfl, rfl, hx, firstX_ok hr⟩
   ·cases h
  ·cases h
def effIdx : List Rec → Nat → List Nat
 | [], _ => []
 | r :: l, k => match r.om with
  | some _ => fN k fun k => k :: effIdx l (k + 1)
  | none => effIdx l (k + 1)
def effRec : List Rec → List Rec
 | [] => []
 | r :: l => match r.om with
  | some _ => r :: effRec l
  | none => effRec l
def lastM : List Rec → List Bool → Mem → Option Mem
 | r :: rs, true :: bs, m => lastM rs bs (r.om.getD m)
 | _, bs, m => match bs.any id with
  | true => none
  | false => some m
def foldM (P : Program) (gds : List (Option Nat)) : List Rec → List Bool → Mem → Mem
 | r :: rs, b :: bs, m => (match b with
  | true => (match stepX P 0 (fun _ _ => none) gds r.t m r.o r.aid with
   | some (_, some m') => foldM P gds rs bs m'
   | _ => foldM P gds rs bs m)
  | false => foldM P gds rs bs m)
 | _, _, m => m
def memOf (P : Program) (gds : List (Option Nat)) (rs : List Rec) (mv : Mem) (bits : List Bool) : Mem :=
 match lastM rs bits mv with
 | some m => m
 | none => foldM P gds rs bits mv
theorem memOf_none {gds : List (Option Nat)} (rs : List Rec) (mv : Mem) (l : List Nat) : memOf P gds rs mv (l.map fun _ => false) = mv := by
 have h : ((l.map fun _ => false).any id) = false := by
  induction l with
  | nil => rfl
  | cons a l ih => simpa using ih
 have : lastM rs (l.map fun _ => false) mv = some mv := by
  unfold lastM
  split
  ·rename_i heq; cases l <;> simp at heq
  ·rw [h]
 unfold memOf
 rw [this]
def aimX (es : List Nat) (mem : List Bool → Mem) (k : Nat) (b : List Bool) : Option Mem → Bool
 | none => (match es.contains k with
  | false => true
  | true => eqM (mem b) (mem (setB es k b)))
 | some m' => eqM m' (mem (setB es k b))
def allX (P : Program) (nf : Nat) (ih : Code → S → Option (Exit × S)) (gds : List (Option Nat)) (es : List Nat) (mem : List Bool → Mem) (k : Nat) (r : Rec) : List (List Bool) → Bool
 | [] => true
 | b :: bs =>
  match (match (match r.om, r.o.op with
    | some _, _ => eqM r.m (mem b)
    | none, .call ⟨.value _, _, _⟩ => eqM r.m (mem b)
    | _, _ => false) with
   | true => aimX es mem k b r.om
   | false => (match stepX P nf ih gds r.t (mem b) r.o r.aid with
    | some (y, om) => (match eqV y r.x with
     | true => aimX es mem k b om
     | false => false)
    | none => false)) with
  | true => allX P nf ih gds es mem k r bs
  | false => false
def xM2 (P : Program) (nf : Nat) (ih : Code → S → Option (Exit × S)) (gds : List (Option Nat)) (ops : List Oper) (es : List Nat) (mem : List Bool → Mem) (n : Nat) : List Rec → Nat → Bool
 | [], _ => true
 | r :: rs, k =>
  match allX P nf ih gds es mem k r (consL ops es k), dstB n r.o.dst with
  | true, true => xM2 P nf ih gds ops es mem n rs (k + 1)
  | _, _ => false
def vacs (n : Nat) : Mem := List.replicate n ⟨0, .row 1 []⟩
def xM (P : Program) (nf : Nat) (ih : Code → S → Option (Exit × S)) (ops : List Oper) (s : S) : Option S :=
 match (ops.map (·.dst)).all (dstB s.n), ordB (ops.map (·.dst)) ops ops.length with
 | true, true =>
  fM (s.m.length + alcNo ops) (s.m ++ vacs (alcNo ops)) fun mv =>
  (match firstX P nf ih (ops.map (·.dst)) ops s.t mv s.m.length with
  | some (rs, t) =>
   (match xM2 P nf ih (ops.map (·.dst)) ops (effIdx rs 0) (memOf P (ops.map (·.dst)) (effRec rs) mv) s.n rs 0, (effIdx rs 0).all (fun e => Nat.ble (e + 1) ops.length) with
   | true, true => fM (memOf P (ops.map (·.dst)) (effRec rs) mv ((effIdx rs 0).map fun _ => true)).length (memOf P (ops.map (·.dst)) (effRec rs) mv ((effIdx rs 0).map fun _ => true)) fun m => some ⟨t, m, s.n, s.d⟩
   | _, _ => none)
  | none => none)
 | _, _ => none
section
variable {gds : List (Option Nat)} {nf : Nat} {ih : Code → S → Option (Exit × S)} (hE : Named P nf) (hs : Sound P ih)
include hE hs
theorem aimX_ok {es : List Nat} {mem : List Bool → Mem} {k : Nat} {b : List Bool} {om : Option Mem} (hl : b.length = es.length) (h : aimX es mem k b om = true) : mem (setB es k b) = om.getD (mem b) := by
 cases om with
 | none =>
  simp only [aimX] at h
  split at h
  ·rename_i hc
   rw [setB_not hc b hl]; rfl
  ·exact (eqM_ok h).symm
 | some m' => exact (eqM_ok h).symm
theorem allX_ok {es : List Nat} {mem : List Bool → Mem} {k : Nat} {r : Rec} (hr : stepX P nf ih gds r.t r.m r.o r.aid = some (r.x, r.om)) : ∀ {bl : List (List Bool)}, (∀ b ∈ bl, b.length = es.length) → allX P nf ih gds es mem k r bl = true → ∀ b ∈ bl, StepAt P gds r.t (mem b) r.o (mem (setB es k b)) r.x
 | [], _, _, b, hb => by cases hb
 | b0 :: bs, hl, h, b, hb => by
  unfold allX at h
  split at h
  ·rename_i h1
   rcases List.mem_cons.1 hb with rfl | hb
   ·split at h1
    ·rename_i hm
     have e : r.m = mem b := by
      split at hm
      ·exact eqM_ok hm
      ·exact eqM_ok hm
      ·cases hm
     have h2 := stepX_ok hE hs hr
     rw [aimX_ok hE hs (hl b (by simp)) h1, ← e]
     exact h2
    ·split at h1
     ·rename_i y om hy
      split at h1
      ·rename_i hv
       have e := eqV_ok _ _ hv
       have h2 := stepX_ok hE hs hy
       rw [aimX_ok hE hs (hl b (by simp)) h1, ← e]
       exact h2
      ·cases h1
     ·cases h1
   ·exact allX_ok hr (fun b hb => hl b (by simp [hb])) h b hb
  ·cases h
theorem xM2_ok {ops : List Oper} {es : List Nat} {mem : List Bool → Mem} {n : Nat} : ∀ {l : List Oper} {rs : List Rec} {k : Nat} {t t' : List (Nat × AV)} {m : Mem}, ChainX P nf ih gds rs l t m t' → xM2 P nf ih gds ops es mem n rs k = true → AbsM P gds ops es mem n k l t t'
 | [], [], k, t, t', m, hc, h => by
  have e : t = t' := hc
  subst e; exact .nil
 | [], _ :: _, k, t, t', m, hc, h => hc.elim
 | _ :: _, [], k, t, t', m, hc, h => hc.elim
 | o :: l, r :: rs, k, t, t', m, hc, h => by
  obtain ⟨rfl, rfl, rfl, h4, h5⟩ := hc
  unfold xM2 at h
  split at h
  ·rename_i h1 h2
   refine .cons (x := r.x) (dstB_ok h2) ?_ (xM2_ok h5 h)
   exact allX_ok hE hs h4 (fun b' hb' => allB_len (List.mem_filter.1 hb').1) h1
  ·cases h
theorem xM_ok (hm : P.follows .mixedOrders = true) {r : Option Nat} {Q : Exit → S → Prop} {id : Nat} {ops : List Oper} {s s1 : S} (h : xM P nf ih ops s = some s1) (hq : Q .normal s1) : Wp P r (.region id ops.toArray true) Q s := by
 unfold xM at h
 split at h
 ·rename_i h1 h2
  rw [fM_eq] at h
  have e : (s.m ++ vacs (alcNo ops)).take (s.m.length + alcNo ops) = s.m ++ vacs (alcNo ops) := List.take_of_length_le (by simp [vacs])
  rw [e] at h
  split at h
  ·rename_i rs t hf
   split at h
   ·rename_i hx h3
    rw [fM_eq, List.take_length] at h
    simp only [Option.some.injEq] at h
    subst h
    refine Wp.vacs (alcNo ops) ?_
    refine Wp.runM (effIdx rs 0) (memOf P (ops.map (·.dst)) (effRec rs) (s.m ++ vacs (alcNo ops))) (t1 := t) hm rfl h1 h2 ?_ (memOf_none _ _ _) (xM2_ok hE hs (firstX_ok hf) hx) hq
    rw [List.all_eq_true] at h3 ⊢
    intro x hx
    have := h3 x hx
    rw [Nat.ble_eq] at this
    simp only [decide_eq_true_eq]; omega
   ·cases h
  ·cases h
 ·cases h
end
def keysC : List (Nat × AV) → List Nat → List Nat
 | [], acc => acc
 | (k, _) :: t, acc => match acc.any fun j => Nat.beq j k with
  | true => keysC t acc
  | false => keysC t (k :: acc)
def restr {α : Type} (t : List (Nat × AV)) : List Nat → (List (Nat × AV) → α) → α
 | [], k => k []
 | j :: js, k => fV (lookB t j) fun x => restr t js fun l => k ((j, x) :: l)
theorem restr_eq {α : Type} (t : List (Nat × AV)) : ∀ (js : List Nat) (k : List (Nat × AV) → α), restr t js k = k (js.map fun j => (j, look t j))
 | [], _ => rfl
 | j :: js, k => by simp [restr, fV_eq, restr_eq t js, lookB_eq]
def xLoop (ih : Code → S → Option (Exit × S)) (c : Code) (ks : List Nat) (n : Nat) : S → Option (Exit × S) :=
 Nat.rec (fun _ => none) (fun _ go s => match ih c s with
  | some (.normal, s1) => restr s1.t ks fun t => go ⟨t, s1.m, s1.n, s1.d⟩
  | r => r) n
def stepC (P : Program) (nf n : Nat) (ih : Code → S → Option (Exit × S)) (c : Code) (s : S) : Option (Exit × S) :=
 match c with
 | .skip => some (.normal, s)
 | .exit id => some (.exit id, s)
 | .ret => some (.ret, s)
 | .seq a b => (match ih a s with
  | some (.normal, s1) => ih b s1
  | r => r)
 | .block id c => (match ih c s with
  | some (.exit id', s1) => (match Nat.beq id' id with
   | true => some (.normal, s1)
   | false => some (.exit id', s1))
  | r => r)
 | .cond c a b => (match evoC s.t c with
  | .val (.bool true) => ih a s
  | .val (.bool false) => ih b s
  | _ => none)
 | .loop c => restr s.t (keysC s.t []) fun t => xLoop ih c (keysC s.t []) n ⟨t, s.m, s.n, s.d⟩
 | .region _ ops false =>
  (match (ops.toList.map (·.dst)).all (dstB s.n) with
  | true => (match xL P nf ih (ops.toList.map (·.dst)) ops.toList s with
   | some s1 => some (.normal, s1)
   | none => none)
  | false => none)
 | .region _ ops true =>
  (match (ops.toList.map (·.dst)).all (dstB s.n), drawB (ops.toList.map (·.dst)) ops.toList (calmN ops.toList) with
  | true, false => (match xM P nf ih ops.toList s with
   | some s1 => some (.normal, s1)
   | none => none)
  | true, true => (match xN P nf ih (ops.toList.map (·.dst)) (ops.toList.take (calmN ops.toList)) s with
   | some s1 => (match xL P nf ih (ops.toList.map (·.dst)) (ops.toList.drop (calmN ops.toList)) s1 with
    | some s2 => some (.normal, s2)
    | none => none)
   | none => (match xM P nf ih ops.toList s with
    | some s1 => some (.normal, s1)
    | none => none))
  | _, _ => none)
 | _ => none
def xC (P : Program) (nf n : Nat) : Code → S → Option (Exit × S) := Nat.rec (fun _ _ => none) (fun n ih => stepC P nf n ih) n
theorem xC_sound {nf : Nat} (hE : Named P nf) (hm : P.follows .mixedOrders = true) : ∀ n, Sound P (xC P nf n)
 | 0 => fun r c s s' e Q h _ => by cases h
 | n + 1 => by
  have hs := xC_sound hE hm n
  intro r c s s' e Q h hq
  change stepC P nf n (xC P nf n) c s = some (e, s') at h
  unfold stepC at h
  split at h
  ·simp only [Option.some.injEq, Prod.mk.injEq] at h
   obtain ⟨rfl, rfl⟩ := h
   exact Wp.skip hq
  ·simp only [Option.some.injEq, Prod.mk.injEq] at h
   obtain ⟨rfl, rfl⟩ := h
   exact Wp.exit hq
  ·simp only [Option.some.injEq, Prod.mk.injEq] at h
   obtain ⟨rfl, rfl⟩ := h
   exact Wp.ret hq
  ·rename_i a b
   apply Wp.seq
   split at h
   ·rename_i s1 h1
    exact hs r a s s1 .normal _ h1 (hs r b s1 s' e Q h hq)
   ·rename_i hne
    refine hs r a s s' e _ h ?_
    cases e <;> first | exact hq | exact absurd h (hne _)
  ·rename_i id c
   apply Wp.block
   split at h
   ·rename_i id' s1 h1
    refine hs r c s s1 _ _ h1 ?_
    simp only [bQ]
    split at h
    ·rename_i hb
     rw [Nat.beq_eq] at hb
     simp only [Option.some.injEq, Prod.mk.injEq] at h
     obtain ⟨rfl, rfl⟩ := h
     rw [if_pos hb]; exact hq
    ·rename_i hb
     simp only [Option.some.injEq, Prod.mk.injEq] at h
     obtain ⟨rfl, rfl⟩ := h
     rw [if_neg fun e => (by subst e; simp at hb)]; exact hq
   ·rename_i hne
    refine hs r c s s' e _ h ?_
    cases e <;> first | exact hq | exact absurd h (hne _ _)
  ·rename_i c a b
   rw [evoC_eq] at h
   split at h
   ·rename_i hc
    exact Wp.condT hc (hs r a s s' e Q h hq)
   ·rename_i hc
    exact Wp.condF hc (hs r b s s' e Q h hq)
   ·cases h
  ·rename_i c
   generalize keysC s.t [] = ks at h
   rw [restr_eq] at h
   have hle : ∀ s1 : S, Le s1 ⟨ks.map fun j => (j, look s1.t j), s1.m, s1.n, s1.d⟩ := fun s1 => by
    refine ⟨fun p hp => ?_, rfl, rfl, rfl⟩
    simp only [List.mem_map] at hp
    obtain ⟨j, _, rfl⟩ := hp
    rfl
   refine Wp.loop (β := Nat × S) (fun b => b.2) (fun b => xLoop (xC P nf n) c ks b.1 b.2 = some (e, s')) (fun b => b.1) (n, _) (hle s) h ?_
   ·rintro ⟨k, s1⟩ h1
    cases k with
    | zero => cases h1
    | succ k =>
     change (match xC P nf n c s1 with
      | some (.normal, s1) => restr s1.t ks fun t => xLoop (xC P nf n) c ks k ⟨t, s1.m, s1.n, s1.d⟩
      | r => r) = some (e, s') at h1
     split at h1
     ·rename_i s2 h2
      rw [restr_eq] at h1
      exact hs r c s1 s2 .normal _ h2 ⟨(k, ⟨ks.map fun j => (j, look s2.t j), s2.m, s2.n, s2.d⟩), hle s2, h1, Nat.lt_succ_self k⟩
     ·rename_i hne
      refine hs r c s1 s' e _ h1 ?_
      cases e <;> first | exact hq | exact absurd h1 (hne _)
  ·rename_i id ops
   split at h
   ·rename_i hB
    split at h
    ·rename_i s1 h1
     simp only [Option.some.injEq, Prod.mk.injEq] at h
     obtain ⟨rfl, rfl⟩ := h
     have := Wp.run (P := P) (r := r) (Q := Q) (s := s) (id := id) (ops := ops.toList) rfl hB (xL_run hE hs h1 hq)
     simpa using this
    ·cases h
   ·cases h
  ·rename_i id ops
   split at h
   ·split at h
    ·rename_i s1 h1
     simp only [Option.some.injEq, Prod.mk.injEq] at h
     obtain ⟨rfl, rfl⟩ := h
     have := xM_ok (r := r) (id := id) hE hs hm h1 hq
     simpa using this
    ·cases h
   ·rename_i hB hD
    split at h
    ·rename_i s1 h1
     split at h
     ·rename_i s2 h2
      simp only [Option.some.injEq, Prod.mk.injEq] at h
      obtain ⟨rfl, rfl⟩ := h
      have := Wp.runD (P := P) (r := r) (Q := Q) (s := s) (id := id) (ops := ops.toList) _ hm rfl hB hD rfl rfl (xN_abn hE hs h1) (xL_run hE hs h2 hq)
      simpa using this
     ·cases h
    ·split at h
     ·rename_i s1 h1
      simp only [Option.some.injEq, Prod.mk.injEq] at h
      obtain ⟨rfl, rfl⟩ := h
      have := xM_ok (r := r) (id := id) hE hs hm h1 hq
      simpa using this
     ·cases h
   ·cases h
  ·cases h
theorem xF_spec {nf n : Nat} (hE : Named P nf) (hm : P.follows .mixedOrders = true) {f : FuncId} {args : List AV} {m m' : Mem} {x : AV} (h : xF P nf (xC P nf n) f args m = some (x, m')) : Spec P f args m fun y m1 => y = x ∧ m1 = m' :=
 (xF_sound hE (xC_sound hE hm n) h).2
def namedB (P : Program) : Nat → Bool
 | 0 => true
 | n + 1 => namedB P n && (match P.funcs[n]? with
  | some fn => !(fn.name == "runtime.NumGoroutine")
  | none => true)
theorem namedB_ok : ∀ {n : Nat}, namedB P n = true → Named P n
 | 0, _, f, fn, hf, _ => by omega
 | n + 1, h, f, fn, hf, hfn => by
  unfold namedB at h
  rw [Bool.and_eq_true] at h
  rcases Nat.lt_or_ge f n with h1 | h1
  ·exact namedB_ok h.1 f fn h1 hfn
  ·have e : f = n := by omega
   subst e
   have h2 := h.2
   rw [hfn] at h2
   simpa using h2
end Go.Vg
namespace Go.Vg
open Go.RowKit
variable {P : Program} {X : Nat → Prop} {w : World} {ρ : Rho}
theorem free_none {X : Nat → Prop} {ρ : Rho} (b : Nat) : Free X ρ b → Free X [] b := fun h => ⟨h.1, fun r hr => by cases hr⟩
mutual
theorem Vw.relX {m : Mem} (hi : Inv X w ρ m) : ∀ {x y : AV}, Vw m x y → (∀ v, R X w ρ x v → R X w [] y v) ∧ (∀ sz b o, Re X w ρ x sz b o → Re X w [] y sz b o)
 | x, _, .self hk => ⟨(Rp.eyes (fun b => free_none b) x hk).1, (Rp.eyes (fun b => free_none b) x hk).2⟩
 | _, _, .osl (id := id) (ver := ver) (off := off) (len := len) (sz := sz) (l := l) (ys := ys) hm hlen hsz hys => by
  have key : ∀ v, R X w ρ (.osl id ver off len) v → R X w [] (.lst sz ys) v := by
   intro v h
   obtain ⟨r, hr, hv, hrz, hnone, hblk⟩ := hi.row hm
   obtain ⟨A, c, r', rfl, hr', hle, hat⟩ := h
   rw [hr] at hr'; cases hr'
   obtain ⟨hl, hc, hpos⟩ := hat hv.symm
   have hll : ys.length = len := by rw [VwL.len hys]; simp; omega
   refine ⟨A, c, by rw [hll], by omega, hc, fun hne => ?_⟩
   have h0 : 0 < len := by
    rcases Nat.eq_zero_or_pos len with e | e
    ·exfalso; apply hne; exact List.length_eq_zero_iff.1 (by omega)
    ·exact e
   obtain ⟨b, hb, rfl, hfit⟩ := hpos (by omega)
   obtain ⟨_, _, hrow⟩ := hblk b hb
   refine ⟨b, r.base + off * r.sz, rfl, ⟨(hi.new id _ b hr hb).2, fun r hr => by cases hr⟩, hsz, ?_⟩
   rw [hrz]
   exact (VwL.relX hi hys).2.2 _ _ _ ((hrow.drop off).take len)
  exact ⟨key, fun _ _ _ h => OneAt.mono (fun _ => rfl) h key⟩
 | _, _, .optr (id := id) (ver := ver) (i := i) (j := j) (l := l) (ys := ys) (x := x) hm hg hj hys => by
  have key : ∀ v, R X w ρ (.optr id ver i j) v → R X w [] (.ref ys j) v := by
   intro v h
   obtain ⟨r, hr, hv, hrz, hnone, hblk⟩ := hi.row hm
   obtain ⟨A, r', rfl, hr', hle, hat⟩ := h
   rw [hr] at hr'; cases hr'
   obtain ⟨b, hb, rfl⟩ := hat hv.symm
   obtain ⟨_, _, hrow⟩ := hblk b hb
   obtain ⟨c1, c2⟩ := (hrow.nth hg).cells
   refine ⟨b, r.base + i * r.sz, rfl, by rw [VwL.len hys]; exact hj, ⟨(hi.new id _ b hr hb).2, fun r hr => by cases hr⟩, ?_⟩
   rw [hrz]
   exact (VwL.relX hi hys).2.1 _ _ c2
  exact ⟨key, fun _ _ _ h => OneAt.mono (fun _ => rfl) h key⟩
 | _, _, .agg hys => ⟨fun _ ⟨vs, h1, h2⟩ => ⟨vs, h1, (VwL.relX hi hys).1 vs h2⟩, fun _ b o h => ⟨by rw [VwL.len hys]; exact h.1, (VwL.relX hi hys).2.1 b o h.2⟩⟩
 | _, _, .tup hys => ⟨fun _ ⟨vs, h1, h2⟩ => ⟨vs, h1, (VwL.relX hi hys).1 vs h2⟩, fun _ _ _ h => h⟩
 | _, _, .clo (f := f) (xs := xs) (ys := ys) hys => by
  have key : ∀ v, R X w ρ (.clo f xs) v → R X w [] (.clo f ys) v := by
   rintro v ⟨vs, h1, h2⟩
   exact ⟨vs, h1, (VwL.relX hi hys).1 vs h2⟩
  exact ⟨key, fun _ _ _ h => OneAt.mono (fun _ => rfl) h key⟩
 | _, _, .emp (sz := sz) => by
  have key : ∀ v, R X w ρ .emp v → R X w [] (.lst sz []) v := by
   rintro v ⟨A, rfl⟩
   exact ⟨A, 0, rfl, Nat.le_refl _, Nat.zero_le _, fun h => absurd rfl h⟩
  exact ⟨key, fun _ _ _ h => OneAt.mono (fun _ => rfl) h key⟩
theorem VwL.relX {m : Mem} (hi : Inv X w ρ m) : ∀ {xs ys : List AV}, VwL m xs ys → (∀ vs, Rvals X w ρ xs vs → Rvals X w [] ys vs) ∧ (∀ b o, Rcells X w ρ xs b o → Rcells X w [] ys b o) ∧ (∀ sz b o, Rrow X w ρ xs sz b o → Rrow X w [] ys sz b o)
 | _, _, .nil => ⟨fun _ h => h, fun _ _ h => h, fun _ _ _ h => h⟩
 | _, _, .cons h1 h2 =>
  ⟨fun _ ⟨v, vs', e1, e2, e3⟩ => ⟨v, vs', e1, (Vw.relX hi h1).1 v e2, (VwL.relX hi h2).1 vs' e3⟩,
   fun b o ⟨⟨v, e1, e2, e3⟩, e4⟩ => ⟨⟨v, e1, e2, (Vw.relX hi h1).1 v e3⟩, (VwL.relX hi h2).2.1 b (o + 1) e4⟩,
   fun sz b o ⟨e1, e2⟩ => ⟨(Vw.relX hi h1).2 sz b o e1, (VwL.relX hi h2).2.2 sz b (o + sz) e2⟩⟩
end
theorem Spec.frz {f : FuncId} {args : List AV} {y : AV} (h : Spec P f args [] fun x m => Vw m x y) : Pure P f args y := by
 intro X w ρ vs hi hr
 refine (h X w ρ vs hi hr).mono ?_
 rintro e w' ⟨v, x, m', ρ', rfl, hvw, hx, hi', ht⟩
 have hρ : ρ = [] := List.eq_nil_of_length_eq_zero (by rw [hi.len]; rfl)
 subst hρ
 refine ⟨v, y, [], [], rfl, ⟨rfl, rfl⟩, (Vw.relX hi' hvw).1 v hx, Inv.empty hi'.out (hi'.gd.nil fun b h => ⟨h.1, fun r hr => by cases hr⟩), ht.os, ht.tape, ht.output, ht.size, fun i r h => (by simp at h), fun b hb hlt => ⟨fun r hr => (by cases hr), (ht.block b hb hlt).2⟩⟩
end Go.Vg
namespace Go.Vg
theorem getD_map' {α : Type} (f : α → AV) (l : List α) (i : Nat) (d : α) : (l.map f).getD i (f d) = f (l.getD i d) := by
 simp only [List.getD_eq_getElem?_getD, List.getElem?_map]
 cases l[i]? <;> rfl
theorem getD_int (l : List Int) (i : Nat) : (l.map AV.int).getD i (.val (.int .i64 0)) = .val (.int .i64 (l.getD i 0)) := getD_map' AV.int l i 0
theorem getD_bool (l : List Bool) (i : Nat) : (l.map AV.bool).getD i (.val (.bool false)) = .val (.bool (l.getD i false)) := getD_map' AV.bool l i false
theorem getD_str (l : List ByteArray) (i : Nat) : (l.map AV.str).getD i (.val (.string .empty)) = .val (.string (l.getD i .empty)) := getD_map' AV.str l i .empty
theorem set_int (l : List Int) (i : Nat) (x : Int) : (l.map AV.int).set i (.val (.int .i64 x)) = (l.set i x).map AV.int := (List.map_set (f := AV.int)).symm
theorem set_bool (l : List Bool) (i : Nat) (x : Bool) : (l.map AV.bool).set i (.val (.bool x)) = (l.set i x).map AV.bool := (List.map_set (f := AV.bool)).symm
theorem app_int (l : List Int) (x : Int) : l.map AV.int ++ [.val (.int .i64 x)] = (l ++ [x]).map AV.int := by simp
theorem app_str (l : List ByteArray) (x : ByteArray) : l.map AV.str ++ [.val (.string x)] = (l ++ [x]).map AV.str := by simp
theorem app_map {α : Type} (f : α → AV) (l l' : List α) : l.map f ++ l'.map f = (l ++ l').map f := by simp
theorem take_map' {α : Type} (f : α → AV) (l : List α) (n : Nat) : (l.map f).take n = (l.take n).map f := List.map_take.symm
theorem drop_map' {α : Type} (f : α → AV) (l : List α) (n : Nat) : (l.map f).drop n = (l.drop n).map f := List.map_drop.symm
theorem repl_int (n : Nat) : List.replicate n (AV.val (.int .i64 0)) = (List.replicate n (0 : Int)).map AV.int := by simp
theorem repl_bool (n : Nat) : List.replicate n (AV.val (.bool false)) = (List.replicate n false).map AV.bool := by simp
theorem okL_int (k : Nat) (l : List Int) : okL k (l.map AV.int) = True := eq_true (okL_map fun _ => trivial)
theorem okL_str (k : Nat) (l : List ByteArray) : okL k (l.map AV.str) = True := eq_true (okL_map fun _ => trivial)
theorem plainL_map {α : Type} {f : α → AV} {l : List α} (h : ∀ x, (f x).plain) : plainL (l.map f) := by
 induction l with
 | nil => trivial
 | cons x l ih => exact ⟨h x, ih⟩
theorem plainL_int (l : List Int) : plainL (l.map AV.int) = True := eq_true (plainL_map fun _ => trivial)
theorem shiftL_int (k : Nat) (l : List Int) : shiftL k (l.map AV.int) = l.map AV.int := shiftL_plain k _ (plainL_map fun _ => trivial)
theorem wU {x : Int} (h1 : 0 ≤ x) (h2 : x ≤ 255) : IntKind.u8.wrap x = x := by
 have e1 : IntKind.u8.bits = 8 := rfl
 have e2 : IntKind.u8.signed = false := rfl
 simp [IntKind.wrap, e1, e2]; omega
theorem wC (a b : Int) : a + b - b = a := Int.add_sub_cancel a b
theorem wI {x : Int} (h1 : -9223372036854775808 ≤ x) (h2 : x ≤ 9223372036854775807) : IntKind.i64.wrap x = x := IntWalk.i64_in _ ⟨h1, h2⟩
theorem Le.of {s s' : S} (h1 : s.m = s'.m) (h2 : ∀ p ∈ s'.t, look s.t p.1 = p.2) (h3 : s.n = s'.n) (h4 : s.d = s'.d) : Le s s' := ⟨h2, h1, h3, h4⟩
theorem evT {α : Type _} {a b : α} (h : a = b := by (try simp (disch := omega) only [wI, wU, wC]) <;> exact rfl) : a = b := h
theorem Wp.rn {P : Program} {r : Option Nat} {Q : Exit → S → Prop} {s : S} {id : Nat} {ops : List Oper} {gds : List (Option Nat)} (h : Run P gds ops (Q .normal) s) (hg : ops.map (·.dst) = gds := by (dsimp only [List.map] <;> exact rfl)) (hB : gds.all (dstB s.n) = true := by exact rfl) : Wp P r (.region id ops.toArray false) Q s := Wp.run hg hB h
theorem sT {p : Prop} (h : p := by (first | trivial | omega | (intro hg; (try simp only [hg, eq_self, true_and, and_true]); first | omega | (refine ⟨?_, ?_⟩ <;> omega)) | (refine ⟨?_, ?_⟩ <;> omega) | (intro h; simpa using h) | (intros; simp_all; done) | (intros; simp_all; omega))) : p := h
theorem toNat_succ (k : Nat) : ((k : Int) + 1).toNat = k + 1 := by omega
theorem toNat_pred (k : Nat) : ((k : Int) - 1).toNat = k - 1 := by omega
attribute [push_cast] toNat_succ toNat_pred Int.add_sub_cancel
attribute [push_cast] aggBin eqA eqA1 look evo cst unopt pickA intBin shBin strBin binA unA convA idxA loadA fieldAddrA fieldA indexA loOf hiOf cutL sliceA minA maxA callA ev stepA gval
attribute [push_cast] AV.cells Op.needs Op.operands Call.operands putA nextA abnA prepV prepF oks fnOf evoG gvalO gOk optG view view1 view2 okL AV.ok AV.plain plainL AV.mine AV.shift shiftL
attribute [push_cast] copyA putR lookA updA mpT keyV keyVs keysOk eqKey_str
attribute [push_cast] buildA fillA unE unV bindP roundQ kill
attribute [push_cast] storeA boxA makeA appA appA0 appZ effA rowOf srcOk notId updE AV.one AV.flat Value.oneCell' bldA partsOf res1 resL packRes
attribute [push_cast] List.toList_toArray List.map_cons List.map_nil Option.map_some Option.map_none List.append_nil List.nil_append List.cons_append Option.bind_some id
attribute [push_cast] List.getElem?_cons_zero List.getElem?_cons_succ List.length_cons List.length_nil List.set_cons_zero List.set_cons_succ List.length_map List.length_replicate List.length_set
attribute [push_cast] List.drop_zero List.take_length List.getD_cons_zero List.getD_cons_succ List.drop_succ_cons List.take_succ_cons List.take_zero List.drop_nil List.take_nil
attribute [push_cast] getD_int getD_bool getD_str set_int set_bool app_int app_str app_map take_map' drop_map' repl_int repl_bool
attribute [push_cast] okL_int okL_str plainL_int shiftL_int
attribute [push_cast] decide_eq_true_eq decide_eq_false_iff_not Bool.and_eq_true Bool.or_eq_true Bool.not_eq_true' Bool.not_eq_false' Bool.and_eq_false_iff Bool.or_eq_false_iff
attribute [push_cast] Nat.le_refl Int.le_refl Kind.shift decide_true decide_false Bool.not_not Kind.ok nilOk isSl and_true true_and and_self forall_const List.mem_cons List.not_mem_nil or_false forall_eq_or_imp forall_eq imp_self implies_true Nat.add_zero Nat.zero_add not_false_eq_true ne_eq Bool.not_true Bool.not_false Bool.and_true Bool.true_and if_true if_false Int.toNat_natCast Int.natAbs_natCast Bool.false_eq_true
end Go.Vg
