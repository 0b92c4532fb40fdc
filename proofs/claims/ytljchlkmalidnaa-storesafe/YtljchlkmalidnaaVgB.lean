/- The abstract machine, part B: states; operations that only compute. -/
import Derived.Test.YtljchlkmalidnaaVgAm
set_option linter.all false
set_option linter.unusedVariables false
namespace Go.Vg
open Go.RowKit

/-! what an operation asks of a type -/
inductive UK where
  | int (k : IntKind) | bool | string | slice (e : TypeId) | struct | pointer (e : TypeId) | func | map (k e : TypeId) | other

def uk (P : Program) (t : TypeId) : UK :=
  match P.underlying t with
  | some (.int k) => .int k
  | some .bool => .bool
  | some .string => .string
  | some (.slice e) => .slice e
  | some (.struct _) => .struct
  | some (.pointer e) => .pointer e
  | some (.func ..) => .func
  | some (.map k e) => .map k e
  | _ => .other

def tsz (P : Program) (t : TypeId) : Option Nat := (P.info? t).map (·.size)
def tby (P : Program) (t : TypeId) : Option Nat := (P.info? t).map (·.bytes)
def tz (P : Program) (t : TypeId) : Option Value := (P.info? t).bind (·.zero)
def fOff (P : Program) (t : TypeId) (f : Nat) : Option (Nat × TypeId) :=
  match P.underlying t with
  | some (.struct fs) => (fs[f]?).map fun x => (x.offset, x.type)
  | _ => none

theorem uk_int {P : Program} {t : TypeId} {k : IntKind} (h : uk P t = .int k) : P.underlying t = some (.int k) := by
  unfold uk at h; split at h <;> simp_all
theorem uk_bool {P : Program} {t : TypeId} (h : uk P t = .bool) : P.underlying t = some .bool := by
  unfold uk at h; split at h <;> simp_all
theorem uk_string {P : Program} {t : TypeId} (h : uk P t = .string) : P.underlying t = some .string := by
  unfold uk at h; split at h <;> simp_all
theorem uk_slice {P : Program} {t e : TypeId} (h : uk P t = .slice e) : P.underlying t = some (.slice e) := by
  unfold uk at h; split at h <;> simp_all
theorem fOff_some {P : Program} {t : TypeId} {f o u : Nat} (h : fOff P t f = some (o, u)) : ∃ fs x, P.underlying t = some (.struct fs) ∧ fs[f]? = some x ∧ x.offset = o ∧ x.type = u := by
  unfold fOff at h
  split at h
  · rename_i fs hfs
    cases hx : fs[f]? with
    | none => simp [hx] at h
    | some x => simp [hx] at h; exact ⟨fs, x, hfs, hx, h.1, h.2⟩
  · cases h
theorem tsz_some {P : Program} {t n : Nat} (h : tsz P t = some n) : ∃ i, P.info? t = some i ∧ i.size = n := by
  unfold tsz at h
  cases hi : P.info? t with
  | none => simp [hi] at h
  | some i => simp [hi] at h; exact ⟨i, rfl, h⟩
theorem run_sizeOf {P : Program} {t n : Nat} (h : tsz P t = some n) (w : World) : (sizeOf t).run P w = .ok n w := by
  obtain ⟨i, hi, rfl⟩ := tsz_some h
  simp [sizeOf, typeInfo, hi]

/-- is a value of this type several cells? -/
def agg? (P : Program) (t : TypeId) : Option Bool :=
  match P.underlying t with
  | some (.struct _) => some true
  | some (.array _ _) => some true
  | some _ => some false
  | none => none
theorem run_isAgg {P : Program} {t : TypeId} {b : Bool} (h : agg? P t = some b) (w : World) : (isAgg t).run P w = .ok b w := by
  unfold agg? at h
  cases hu : P.underlying t with
  | none => simp [hu] at h
  | some d => cases d <;> simp_all [isAgg, underlying]

/-! states -/
structure S where
  t : List (Nat × AV)
  m : Mem
  n : Nat
  d : List (Nat × Nat) := []

def cst : Value → AV
  | .slice none 0 0 => .emp
  | v => .val v

def evo (t : List (Nat × AV)) : Operand → AV
  | .tmp n => look t n
  | .const v => cst v
  | .global _ => .any
  | .func f => .clo f []

def S.put (s : S) (d : Option Nat) (x : AV) : S :=
  match d with
  | some k => { s with t := (k, x) :: s.t }
  | none => s

def marksOf (ρ : Rho) (d : List (Nat × Nat)) : List Deferred → Prop
  | [] => d = []
  | x :: l => ∃ id ver r b d', d = (id, ver) :: d' ∧ ρ[id]? = some r ∧ ver ≤ r.ver ∧ (ver = r.ver → r.blk = some b ∧ x = { target := .collected b, args := #[] }) ∧ marksOf ρ d' l

structure Rel (X : Nat → Prop) (s : S) (a : Act) (w : World) (ρ : Rho) : Prop where
  tmps : ∀ n, R X w ρ (look s.t n) (a.tmps.getD n undef)
  size : a.tmps.size = s.n
  inv : Inv X w ρ s.m
  defers : marksOf ρ s.d a.defers

theorem cst_rel {X : Nat → Prop} {w : World} {ρ : Rho} (v : Value) : R X w ρ (cst v) v := by
  unfold cst
  split
  · exact ⟨none, rfl⟩
  · rfl

theorem evo_rel {X : Nat → Prop} {w : World} {ρ : Rho} {t : List (Nat × AV)} {a : Act} (h : ∀ n, R X w ρ (look t n) (a.tmps.getD n undef)) (x : Operand) : R X w ρ (evo t x) (a.eval x) := by
  cases x with
  | tmp n => exact h n
  | const v => exact cst_rel v
  | global g => trivial
  | func f => exact ⟨[], rfl, rfl⟩

theorem Act.getD_put (a : Act) (d : Option Nat) (v : Value) (n : Nat) : (a.put d v).tmps.getD n undef = if d = some n ∧ n < a.tmps.size then v else a.tmps.getD n undef := by
  cases d with
  | none => simp [Act.put]
  | some k =>
    simp only [Act.put, Option.some.injEq]
    by_cases hk : k = n
    · subst hk
      by_cases hlt : k < a.tmps.size
      · simp [hlt]
      · simp [hlt]
    · simp [hk]

theorem Act.size_put (a : Act) (d : Option Nat) (v : Value) : (a.put d v).tmps.size = a.tmps.size := by cases d <;> simp [Act.put]
theorem Act.defers_put (a : Act) (d : Option Nat) (v : Value) : (a.put d v).defers = a.defers := by cases d <;> rfl

def dstOk (n : Nat) : Option Nat → Prop
  | some d => d < n
  | none => True

theorem Rel.put {X : Nat → Prop} {s : S} {a : Act} {w : World} {ρ : Rho} (h : Rel X s a w ρ) {d : Option Nat} (hd : dstOk s.n d) {x : AV} {v : Value} (hx : R X w ρ x v) : Rel X (s.put d x) (a.put d v) w ρ := by
  cases d with
  | none => exact h
  | some k =>
    refine ⟨fun n => ?_, ?_, h.inv, ?_⟩
    · rw [Act.getD_put]
      simp only [S.put, look]
      by_cases hk : k = n
      · subst hk
        have hlt : k < a.tmps.size := by rw [h.size]; exact hd
        simp [hlt]; exact hx
      · simp only [hk, Option.some.injEq, false_and, if_false]; exact h.tmps n
    · rw [Act.size_put]; exact h.size
    · rw [Act.defers_put]; exact h.defers

theorem marksOf.kp {ρ ρ' : Rho} (t : ∀ (i : Nat) (r : RE), ρ[i]? = some r → ∃ r', ρ'[i]? = some r' ∧ r.ver ≤ r'.ver ∧ (r'.ver = r.ver → r' = r)) : ∀ {l : List Deferred} {d : List (Nat × Nat)}, marksOf ρ d l → marksOf ρ' d l
  | [], _, h => h
  | x :: l, _, ⟨id, ver, r, b, d', h1, h2, h3, h4, h5⟩ => by
    obtain ⟨r', k1, k2, k3⟩ := t id r h2
    refine ⟨id, ver, r', b, d', h1, k1, Nat.le_trans h3 k2, fun e => ?_, marksOf.kp t h5⟩
    have e1 := k3 (by omega)
    subst e1
    exact h4 e

/-- the temporaries stay; memory goes on -/
theorem Rel.step {X : Nat → Prop} {s : S} {a : Act} {w w' : World} {ρ ρ' : Rho} (h : Rel X s a w ρ) (t : Tr w ρ w' ρ') {m' : Mem} (hi : Inv X w' ρ' m') : Rel X { s with m := m' } a w' ρ' :=
  ⟨fun n => R.tr t (h.tmps n), h.size, hi, marksOf.kp t.vers h.defers⟩

/-! values of types -/
abbrev AV.byte (b : UInt8) : AV := .val (.int .u8 (b.toNat : Int))
def AV.toByte : AV → UInt8
  | .val (.int _ n) => UInt8.ofNat n.toNat
  | _ => 0
def AV.isByte : AV → Prop
  | .val (.int .u8 n) => 0 ≤ n ∧ n < 256
  | _ => False
@[simp] theorem toByte_byte (b : UInt8) : (AV.byte b).toByte = b := by simp [AV.byte, AV.toByte]
@[simp] theorem isByte_byte (b : UInt8) : (AV.byte b).isByte := by
  have := b.toNat_lt
  simp only [AV.byte, AV.isByte]; omega
abbrev AV.bytes (l : List UInt8) : AV := .lst 1 (l.map AV.byte)

/-- the zero of a type, abstractly: only a filler for places that are never read -/
def zav (P : Program) (t : TypeId) : AV :=
  match agg? P t, tz P t with
  | some true, some (.agg cs) => .agg (cs.toList.map cst)
  | _, _ =>
    match uk P t with
    | .int k => .val (.int k 0)
    | .bool => .bool false
    | .string => .str .empty
    | .slice _ => .lst 1 []
    | _ => .any

def byteAt (s : ByteArray) (i : Int) : UInt8 := s.data.toList.getD i.toNat 0

def unopt : AV → Bool × AV
  | .opt g x => (g, x)
  | x => (true, x)

/-- '&&' and '||', as the translation picks between them -/
def pickA (B : Operand → AV) (g : Bool) (a b : Operand) : Option (AV × Prop) :=
  match b with
  | .const (.bool false) =>
    match unopt (B a) with
    | (ga, .val (.bool x)) => some (.bool (g && x), g = true → ga = true)
    | _ => none
  | _ =>
    match a with
    | .const (.bool true) =>
      match unopt (B b) with
      | (gb, .val (.bool y)) => some (.bool (g || y), g = false → gb = true)
      | _ => none
    | _ => none

def intBin (op : BinOp) (k : IntKind) (a b : Int) : Option (AV × Prop) :=
  match op with
  | .add => some (.val (.int k (k.wrap (a + b))), True)
  | .sub => some (.val (.int k (k.wrap (a - b))), True)
  | .mul => some (.val (.int k (k.wrap (a * b))), True)
  | .quo => some (.val (.int k (k.wrap (a.tdiv b))), b ≠ 0)
  | .rem => some (.val (.int k (a.tmod b)), b ≠ 0)
  | .and => some (.val (.int k (k.wrap ((BitVec.ofInt k.bits a &&& BitVec.ofInt k.bits b).toNat))), True)
  | .or => some (.val (.int k (k.wrap ((BitVec.ofInt k.bits a ||| BitVec.ofInt k.bits b).toNat))), True)
  | .xor => some (.val (.int k (k.wrap ((BitVec.ofInt k.bits a ^^^ BitVec.ofInt k.bits b).toNat))), True)
  | .eql => some (.bool (decide (a = b)), True)
  | .neq => some (.bool (!decide (a = b)), True)
  | .lss => some (.bool (decide (a < b)), True)
  | .leq => some (.bool (decide (a ≤ b)), True)
  | .gtr => some (.bool (decide (b < a)), True)
  | .geq => some (.bool (decide (b ≤ a)), True)
  | _ => none

def shBin (op : BinOp) (k : IntKind) (a b : Int) : Option (AV × Prop) :=
  match op with
  | .shl => some (.val (.int k (k.wrap (a * 2 ^ (min b.toNat k.bits)))), 0 ≤ b)
  | .shr => some (.val (.int k (a.fdiv (2 ^ (min b.toNat k.bits)))), 0 ≤ b)
  | _ => none

def strBin (op : BinOp) (a b : ByteArray) : Option (AV × Prop) :=
  match op with
  | .add => some (.str (a ++ b), a.size + b.size ≤ 9223372036854775807)
  | .eql => some (.bool (decide (a = b)), True)
  | .neq => some (.bool (!decide (a = b)), True)
  | _ => none

/-! structs and arrays of numbers, truths and texts, compared -/
def flatF (P : Program) (g : TypeId → Option (List Nat)) : List Field → Nat → Option (List Nat)
  | [], _ => some []
  | f :: fs, off =>
    if f.name ≠ "_" ∧ f.offset = off then
      match g f.type with
      | some us =>
        if us.length = P.cellsOf f.type then
          match flatF P g fs (off + us.length) with
          | some vs => some (us ++ vs)
          | none => none
        else none
      | none => none
    else none
/-- the kinds of a type's cells: 0 a number, 1 a truth, 2 a text -/
def flatU (P : Program) : Nat → TypeId → Option (List Nat)
  | 0, _ => none
  | d + 1, t =>
    match P.underlying t with
    | some (.int _) => some [0]
    | some .bool => some [1]
    | some .string => some [2]
    | some (.array n e) =>
      match flatU P d e, P.info? e with
      | some us, some _ => if us.length = P.cellsOf e then some (List.replicate n us).flatten else none
      | _, _ => none
    | some (.struct fs) => if P.stoodInHeld t = true then none else flatF P (flatU P d) fs.toList 0
    | _ => none
def cmpT (P : Program) (t : TypeId) : Option (List Nat) :=
  match agg? P t, P.eqGuardType P.depth t with
  | some true, false => flatU P 8 t
  | _, _ => none
def eqA1 (u : Nat) (x y : AV) : Option Bool :=
  match u, x, y with
  | 0, .val (.int k a), .val (.int k' b) => if k = k' then some (decide (a = b)) else none
  | 1, .val (.bool a), .val (.bool b) => some (decide (a = b))
  | 2, .val (.string a), .val (.string b) => some (decide (a = b))
  | _, _, _ => none
def eqA : List Nat → List AV → List AV → Option Bool
  | [], [], [] => some true
  | u :: us, x :: xs, y :: ys =>
    match eqA1 u x y, eqA us xs ys with
    | some a, some b => some (a && b)
    | _, _ => none
  | _, _, _ => none
def aggBin (P : Program) (op : BinOp) (t : TypeId) (xs ys : List AV) : Option (AV × Prop) :=
  match cmpT P t with
  | some us =>
    match eqA us xs ys, op with
    | some r, .eql => some (.bool r, True)
    | some r, .neq => some (.bool (!r), True)
    | _, _ => none
  | none => none

def binA (P : Program) (op : BinOp) (t : TypeId) (x y : AV) : Option (AV × Prop) :=
  match x, y with
  | .val (.int k a), .val (.int k' b) =>
    match op with
    | .shl => shBin .shl k a b
    | .shr => shBin .shr k a b
    | _ => if k = k' then intBin op k a b else none
  | .val (.string a), .val (.string b) => strBin op a b
  | .val (.bool a), .val (.bool b) =>
    match uk P t, op with
    | .bool, .eql => some (.bool (decide (a = b)), True)
    | .bool, .neq => some (.bool (!decide (a = b)), True)
    | _, _ => none
  | .agg xs, .agg ys => aggBin P op t xs ys
  | _, _ => none

def unA (op : UnOp) (x : AV) : Option (AV × Prop) :=
  match op, x with
  | .neg, .val (.int k n) => some (.val (.int k (k.wrap (0 - n))), True)
  | .not, .val (.bool b) => some (.bool (!b), True)
  | _, _ => none

def convA (P : Program) (src dst : TypeId) (x : AV) : Option (AV × Prop) :=
  match uk P src, uk P dst, x with
  | .int _, .int k, .val (.int _ n) => some (.val (.int k (k.wrap n)), True)
  | .string, .string, .val (.string s) => some (.str s, True)
  | _, _, _ => none

/-- a slice, read as a list: its element's cells, its elements -/
def rowOf (m : Mem) : AV → Option (Nat × List AV)
  | .lst sz l => some (sz, l)
  | .emp => some (1, [])
  | .osl id ver off len =>
    match m[id]? with
    | some ⟨v, .row sz l⟩ => if v = ver then some (sz, (l.drop off).take len) else none
    | _ => none
  | _ => none

def arT (P : Program) (t : TypeId) : Option (Nat × TypeId) :=
  match P.underlying t with
  | some (.array n e) => some (n, e)
  | _ => none
theorem arT_some {P : Program} {t e : TypeId} {n : Nat} (h : arT P t = some (n, e)) : P.underlying t = some (.array n e) := by
  unfold arT at h
  split at h
  · rename_i k' e' hu
    simp only [Option.some.injEq, Prod.mk.injEq] at h
    obtain ⟨rfl, rfl⟩ := h
    exact hu
  · cases h
def idxA (P : Program) (m : Mem) (t : TypeId) (x i : AV) : Option (AV × Prop) :=
  match uk P t, x, i with
  | .slice e, .lst sz l, .val (.int _ k) =>
    if tsz P e = some sz then some (.ref (l.getD k.toNat (zav P e)).cells 0, 0 ≤ k ∧ k < (l.length : Int)) else none
  | .slice e, .osl id ver off len, .val (.int _ k) =>
    match m[id]? with
    | some ⟨v, .row sz _⟩ => if v = ver ∧ tsz P e = some sz then some (.optr id ver (off + k.toNat) 0, 0 ≤ k ∧ k < (len : Int)) else none
    | _ => none
  | _, .ref xs j, .val (.int _ k) =>
    match arT P t with
    | some (n, e) =>
      match tsz P e with
      | some sz => some (.ref xs (j + k.toNat * sz), (0 ≤ k ∧ k < (n : Int)) ∧ j + k.toNat * sz < xs.length)
      | none => none
    | none => none
  | _, .optr id ver i j, .val (.int _ k) =>
    match arT P t with
    | some (n, e) =>
      match tsz P e with
      | some sz => if (m[id]?).map (·.ver) = some ver then some (.optr id ver i (j + k.toNat * sz), 0 ≤ k ∧ k < (n : Int)) else none
      | none => none
    | none => none
  | _, _, _ => none

def loadA (P : Program) (m : Mem) (t : TypeId) (x : AV) : Option (AV × Prop) :=
  match agg? P t, tsz P t, x with
  | some false, _, .ref xs j => some (xs.getD j .any, True)
  | some true, some n, .ref xs j => some (.agg ((xs.drop j).take n), j + n ≤ xs.length)
  | some false, _, .optr id ver i j =>
    match m[id]? with
    | some ⟨v, .row sz l⟩ =>
      if v = ver then some ((l.getD i (zav P t)).cells.getD j .any, i < l.length ∧ j < sz) else none
    | _ => none
  | some true, some n, .optr id ver i j =>
    match m[id]? with
    | some ⟨v, .row sz l⟩ => if v = ver then some (.agg (((l.getD i .any).cells.drop j).take n), i < l.length ∧ j + n ≤ sz) else none
    | _ => none
  | _, _, _ => none

def fieldAddrA (P : Program) (m : Mem) (t : TypeId) (x : AV) (f : Nat) : Option (AV × Prop) :=
  match fOff P t f with
  | some (o, u) =>
    match tsz P u, x with
    | some (_ + 1), .ref xs j => some (.ref xs (j + o), j + o < xs.length)
    | some (_ + 1), .optr id ver i j => if (m[id]?).map (·.ver) = some ver then some (.optr id ver i (j + o), True) else none
    | _, _ => none
  | none => none

def fieldA (P : Program) (t : TypeId) (x : AV) (f : Nat) : Option (AV × Prop) :=
  match fOff P t f, x with
  | some (o, u), .agg xs =>
    match agg? P u, tsz P u with
    | some true, some n => some (.agg ((xs.drop o).take n), True)
    | some false, _ => some (xs.getD o .any, o < xs.length)
    | _, _ => none
  | _, _ => none

def indexA (P : Program) (t : TypeId) (x i : AV) : Option (AV × Prop) :=
  match uk P t, x, i with
  | .string, .val (.string s), .val (.int _ k) => some (.byte (byteAt s k), 0 ≤ k ∧ k < (s.size : Int))
  | _, .agg xs, .val (.int _ k) =>
    match arT P t with
    | some (n, e) =>
      match agg? P e, tsz P e with
      | some true, some sz => some (.agg ((xs.drop (k.toNat * sz)).take sz), 0 ≤ k ∧ k < (n : Int))
      | some false, some sz => some (xs.getD (k.toNat * sz) .any, (0 ≤ k ∧ k < (n : Int)) ∧ k.toNat * sz < xs.length)
      | _, _ => none
    | none => none
  | _, _, _ => none

def loOf : Option AV → Option Int
  | none => some 0
  | some (.val (.int _ n)) => some n
  | _ => none
def hiOf (len : Nat) : Option AV → Option Int
  | none => some len
  | some (.val (.int _ n)) => some n
  | _ => none

def cutL (lo hi : Option AV) (l : List AV) (a b : Int) : List AV :=
  match lo, hi with
  | none, none => l
  | none, some _ => l.take b.toNat
  | some _, none => l.drop a.toNat
  | some _, some _ => (l.take b.toNat).drop a.toNat

def sliceA (P : Program) (m : Mem) (t : TypeId) (x : AV) (lo hi mx : Option AV) : Option (AV × Prop) :=
  match uk P t, x, mx with
  | .string, .val (.string s), none =>
    match loOf lo, hiOf s.size hi with
    | some a, some b => some (.str (s.extract a.toNat b.toNat), 0 ≤ a ∧ a ≤ b ∧ b ≤ (s.size : Int))
    | _, _ => none
  | .slice e, .lst sz l, none =>
    if tsz P e = some sz then
      match loOf lo, hiOf l.length hi with
      | some a, some b => some (.lst sz (cutL lo hi l a b), 0 ≤ a ∧ a ≤ b ∧ b ≤ (l.length : Int))
      | _, _ => none
    else none
  | .slice e, .osl id ver off len, none =>
    match m[id]? with
    | some ⟨v, .row sz _⟩ =>
      if v = ver ∧ tsz P e = some sz then
        match loOf lo, hiOf len hi with
        | some a, some b => some (.osl id ver (off + a.toNat) (b.toNat - a.toNat), 0 ≤ a ∧ a ≤ b ∧ b ≤ (len : Int))
        | _, _ => none
      else none
    | _ => none
  | .slice e, .emp, none =>
    match tsz P e, loOf lo, hiOf 0 hi with
    | some _, some a, some b => some (.emp, a = 0 ∧ b = 0)
    | _, _, _ => none
  | .slice e, .lst _ _, some (.val (.int _ 0)) => match tsz P e, lo, hi with
    | some _, none, some (.val (.int _ 0)) => some (.emp, True)
    | _, _, _ => none
  | .slice e, .osl _ _ _ _, some (.val (.int _ 0)) => match tsz P e, lo, hi with
    | some _, none, some (.val (.int _ 0)) => some (.emp, True)
    | _, _, _ => none
  | .slice e, .emp, some (.val (.int _ 0)) => match tsz P e, lo, hi with
    | some _, none, some (.val (.int _ 0)) => some (.emp, True)
    | _, _, _ => none
  | _, _, _ => none

def minA (x y : AV) : Option (AV × Prop) :=
  match x, y with
  | .val (.int k a), .val (.int _ b) => some (.val (.int k (if b < a then b else a)), True)
  | _, _ => none
def maxA (x y : AV) : Option (AV × Prop) :=
  match x, y with
  | .val (.int k a), .val (.int _ b) => some (.val (.int k (if a < b then b else a)), True)
  | _, _ => none

/-- what must be there for an operation to go through: of a pick its condition alone -/
def _root_.Go.Op.needs : Op → List Operand
  | .pick c _ _ => [c]
  | op => op.operands.toList

/-- the built-in functions that only compute -/
def callA (P : Program) (E : Operand → AV) (c : Call) : Option (AV × Prop) :=
  match c.callee with
  | .builtin .len =>
    match c.args.toList, c.argTypes.toList with
    | [x], [ty] =>
      match uk P ty, E x with
      | .string, .val (.string s) => some (.int (s.size : Int), True)
      | .slice _, .lst _ l => some (.int (l.length : Int), True)
      | .slice _, .osl _ _ _ len => some (.int (len : Int), True)
      | .slice _, .emp => some (.int 0, True)
      | _, _ => none
    | _, _ => none
  | .builtin .cap =>
    match c.args.toList, c.argTypes.toList with
    | [x], [ty] =>
      match uk P ty, E x with
      | .slice _, .emp => some (.int 0, True)
      | _, _ => none
    | _, _ => none
  | .builtin .min =>
    match c.args.toList with
    | [x, y] => minA (E x) (E y)
    | _ => none
  | .builtin .max =>
    match c.args.toList with
    | [x, y] => maxA (E x) (E y)
    | _ => none
  | _ => none

/-- one cell's worth -/
def AV.one : AV → Prop
  | .val v => v.oneCell' = true
  | .lst _ _ | .osl _ _ _ _ | .emp | .ref _ _ | .optr _ _ _ _ | .clo _ _ | .bnd _ _ | .yld _ _ | .omap _ _ => True
  | _ => False

/-- one cell, or several, each of one -/
def AV.flat : AV → Prop
  | .agg xs => ∀ x ∈ xs, x.one
  | x => x.one

def zAV (P : Program) (t : TypeId) : Option AV :=
  match agg? P t, tz P t with
  | some true, some (.agg cs) => some (.agg (cs.toList.map cst))
  | some false, some v => if v.oneCell' then some (cst v) else none
  | _, _ => none

/-! a struct or an array, by its parts -/
def fplaces (P : Program) (t : TypeId) : Option (List (Nat × Nat)) :=
  match P.underlying t with
  | some (.struct fs) => fs.toList.mapM fun f => (tsz P f.type).map fun n => (f.offset, n)
  | some (.array n e) => (tsz P e).map fun s => (List.range n).map fun i => (i * s, s)
  | _ => none
def fillA (pl : List (Nat × Nat)) (E : Operand → AV) : List AV → List (Nat × Operand) → Option (List AV × Prop)
  | zs, [] => some (zs, True)
  | zs, (f, x) :: rest =>
    match pl[f]? with
    | some (o, n) =>
      if (E x).cells.length = n then
        match fillA pl E (zs.take o ++ (E x).cells ++ zs.drop (o + n)) rest with
        | some (ys, p) => some (ys, ((E x).flat ∧ o + n ≤ zs.length) ∧ p)
        | none => none
      else none
    | none => none
def buildA (P : Program) (E : Operand → AV) (t : TypeId) (parts : List (Nat × Operand)) : Option (AV × Prop) :=
  match fplaces P t, zAV P t with
  | some pl, some (.agg zs) =>
    match fillA pl E zs parts with
    | some (xs, p) => some (.agg xs, p)
    | none => none
  | _, _ => none

def mpT (P : Program) (t : TypeId) : Option (TypeId × TypeId) :=
  match uk P t with
  | .map k e => some (k, e)
  | _ => none
theorem uk_map {P : Program} {t k e : TypeId} (h : uk P t = .map k e) : P.underlying t = some (.map k e) := by
  unfold uk at h; split at h <;> simp_all
theorem mpT_some {P : Program} {t k e : TypeId} (h : mpT P t = some (k, e)) : P.underlying t = some (.map k e) := by
  unfold mpT at h
  split at h
  · rename_i k' e' hu
    simp only [Option.some.injEq, Prod.mk.injEq] at h
    obtain ⟨rfl, rfl⟩ := h
    exact uk_map hu
  · cases h
def keysOk (P : Program) (kt : TypeId) (k : Value) (l : List (Value × AV)) : Prop := Maps.Keyed P kt ∧ eqKey k k = true ∧ goodK P kt k = true ∧ goodL P kt l = true
/-- what a map has at a key -/
def lookA (P : Program) (m : Mem) (ty : TypeId) (x k : AV) (c : Bool) : Option (AV × Prop) :=
  match x, mpT P ty, keyV k with
  | .omap id ver, some (kt, et), some kv =>
    match m[id]? with
    | some ⟨v, .mp l⟩ =>
      if v = ver then
        match findL l kv with
        | some y => some (match c with
          | true => .tup [y, .bool true]
          | false => y, keysOk P kt kv l)
        | none =>
          match zAV P et with
          | some z => some (match c with
            | true => .tup [z, .bool false]
            | false => z, keysOk P kt kv l)
          | none => none
      else none
    | _ => none
  | _, _, _ => none
/-- an operation that only computes: its value, and what it asks; B: how the branches of a pick are read -/
def ev (P : Program) (E B : Operand → AV) (m : Mem) (op : Op) : Option (AV × Prop) :=
  match op with
  | .move x => some (E x, True)
  | .assign x => some (E x, True)
  | .pick c a b =>
    match E c with
    | .val (.bool g) => pickA B g a b
    | _ => none
  | .binOp op xt x y _ => binA P op xt (E x) (E y)
  | .unOp op _ x => unA op (E x)
  | .convert src dst x => convA P src dst (E x)
  | .extract x i =>
    match E x with
    | .tup xs => some (xs.getD i .any, i < xs.length)
    | _ => none
  | .indexAddr ty x i => idxA P m ty (E x) (E i)
  | .load ty x => loadA P m ty (E x)
  | .fieldAddr ty x f => fieldAddrA P m ty (E x) f
  | .field ty x f => fieldA P ty (E x) f
  | .index ty x i => indexA P ty (E x) (E i)
  | .slice ty x lo hi mx => sliceA P m ty (E x) (lo.map E) (hi.map E) (mx.map E)
  | .call c => callA P E c
  | .makeFunc fn first caps =>
    match fn, first.toList with
    | .func f, [] => some (.clo f (caps.toList.map E), True)
    | .func f, x :: xs =>
      match caps.toList with
      | [] => some (.bnd f ((x :: xs).map E), True)
      | _ => none
    | _, _ => none
  | .build t parts => buildA P E t parts.toList
  | .nilCheck x =>
    match E x with
    | .ref xs j => some (.ref xs j, True)
    | .optr id ver i j => if (m[id]?).map (·.ver) = some ver then some (.optr id ver i j, True) else none
    | .clo f caps => some (.clo f caps, True)
    | _ => none
  | .lookup ty x k c => lookA P m ty (E x) (E k) c
  | _ => none
end Go.Vg
