/- The abstract machine, part Ea: operations at known values, with their conditions decided; they are made to be run by the kernel. -/
import Derived.Test.YtljchlkmalidnaaVgV
import Derived.Test.YtljchlkmalidnaaVgY
set_option linter.all false
set_option linter.unusedVariables false
namespace Go.Vg
variable {P : Program}

def ltB (k : Int) (n : Nat) : Bool :=
  match k with
  | .ofNat j => Nat.ble (j + 1) n
  | .negSucc _ => false
def leB (k : Int) (n : Nat) : Bool :=
  match k with
  | .ofNat j => Nat.ble j n
  | .negSucc _ => false
def nnB (k : Int) : Bool :=
  match k with
  | .ofNat _ => true
  | .negSucc _ => false
def ltI (a b : Int) : Bool :=
  match a, b with
  | .ofNat a, .ofNat b => Nat.ble (a + 1) b
  | .ofNat _, .negSucc _ => false
  | .negSucc _, .ofNat _ => true
  | .negSucc a, .negSucc b => Nat.ble (b + 1) a
def eqI (a b : Int) : Bool :=
  match a, b with
  | .ofNat a, .ofNat b => Nat.beq a b
  | .negSucc a, .negSucc b => Nat.beq a b
  | _, _ => false
theorem ltB_ok {k : Int} {n : Nat} (h : ltB k n = true) : 0 ≤ k ∧ k < (n : Int) := by
  cases k with
  | ofNat j => simp only [ltB, Nat.ble_eq] at h; simp only [Int.ofNat_eq_natCast]; omega
  | negSucc j => cases h
theorem leB_ok {k : Int} {n : Nat} (h : leB k n = true) : 0 ≤ k ∧ k ≤ (n : Int) := by
  cases k with
  | ofNat j => simp only [leB, Nat.ble_eq] at h; simp only [Int.ofNat_eq_natCast]; omega
  | negSucc j => cases h
theorem nnB_ok {k : Int} (h : nnB k = true) : 0 ≤ k := by
  cases k with
  | ofNat j => simp only [Int.ofNat_eq_natCast]; omega
  | negSucc j => cases h
theorem ltI_eq (a b : Int) : ltI a b = decide (a < b) := by
  have : (ltI a b = true) ↔ a < b := by
    cases a <;> cases b <;> simp only [ltI, Nat.ble_eq, Int.ofNat_eq_natCast]
    · omega
    · exact ⟨fun h => (by cases h), fun h => (by have := Int.negSucc_lt_zero; omega)⟩
    · rename_i x y
      exact ⟨fun _ => (by have := Int.negSucc_lt_zero x; omega), fun _ => trivial⟩
    · omega
  cases h : ltI a b <;> simp_all
theorem eqI_eq (a b : Int) : eqI a b = decide (a = b) := by
  have : (eqI a b = true) ↔ a = b := by
    cases a <;> cases b <;> simp only [eqI, Nat.beq_eq, Int.ofNat_eq_natCast] <;> first | omega | (constructor <;> intro h <;> first | cases h | omega)
  cases h : eqI a b <;> simp_all

def wrapC (k : IntKind) (n : Int) : Int :=
  match k, n with
  | .i64, .ofNat j => if Nat.ble j 9223372036854775807 then .ofNat j else IntKind.i64.wrap (.ofNat j)
  | .i64, .negSucc j => if Nat.ble j 9223372036854775807 then .negSucc j else IntKind.i64.wrap (.negSucc j)
  | .u8, .ofNat j => if Nat.ble j 255 then .ofNat j else IntKind.u8.wrap (.ofNat j)
  | k, n => k.wrap n
theorem wrapC_eq (k : IntKind) (n : Int) : wrapC k n = k.wrap n := by
  unfold wrapC
  split
  · rename_i j
    split
    · rename_i h
      rw [Nat.ble_eq] at h
      simp only [IntKind.wrap, IntKind.bits, IntKind.signed, Int.ofNat_eq_natCast]
      simp
      split <;> omega
    · rfl
  · rename_i j
    split
    · rename_i h
      rw [Nat.ble_eq] at h
      simp only [IntKind.wrap, IntKind.bits, IntKind.signed, Int.negSucc_eq]
      simp
      split <;> omega
    · rfl
  · rename_i j
    split
    · rename_i h
      rw [Nat.ble_eq] at h
      simp only [IntKind.wrap, IntKind.bits, IntKind.signed, Int.ofNat_eq_natCast]
      simp
      omega
    · rfl
  · rfl

def lookB : List (Nat × AV) → Nat → AV
  | [], _ => .any
  | (k, x) :: t, n => match Nat.beq k n with
    | true => x
    | false => lookB t n
theorem lookB_eq (n : Nat) : ∀ t : List (Nat × AV), lookB t n = look t n
  | [] => rfl
  | (k, x) :: t => by
    simp only [lookB, look]
    cases h : Nat.beq k n with
    | true => rw [Nat.beq_eq] at h; simp [h]
    | false => have : k ≠ n := fun e => by subst e; simp at h
               simp [this, lookB_eq n t]
def evoC (t : List (Nat × AV)) : Operand → AV
  | .tmp n => lookB t n
  | .const v => cst v
  | .global _ => .any
  | .func f => .clo f []
theorem evoC_eq (t : List (Nat × AV)) : evoC t = evo t := by
  funext x; cases x <;> simp [evoC, evo, lookB_eq]

def getM : List Ent → Nat → Option Ent
  | [], _ => none
  | e :: _, 0 => some e
  | _ :: m, n + 1 => getM m n
theorem getM_eq : ∀ (m : Mem) (n : Nat), getM m n = m[n]?
  | [], n => by simp [getM]
  | e :: m, 0 => by simp [getM]
  | e :: m, n + 1 => by simp [getM, getM_eq m n]

/-- a row of a version that is still there -/
def rowM (m : Mem) (id ver : Nat) : Option (Nat × List AV) :=
  match getM m id with
  | some ⟨v, .row sz l⟩ => if Nat.beq v ver then some (sz, l) else none
  | _ => none
theorem rowM_ok {m : Mem} {id ver sz : Nat} {l : List AV} (h : rowM m id ver = some (sz, l)) : m[id]? = some ⟨ver, .row sz l⟩ := by
  unfold rowM at h
  rw [getM_eq] at h
  split at h
  · rename_i v sz' l' he
    split at h
    · rename_i hv
      rw [Nat.beq_eq] at hv
      simp only [Option.some.injEq, Prod.mk.injEq] at h
      rw [he, hv, h.1, h.2]
    · cases h
  · cases h

def oneB : AV → Bool
  | .val v => v.oneCell'
  | .lst _ _ | .osl _ _ _ _ | .emp | .ref _ _ | .optr _ _ _ _ | .clo _ _ | .bnd _ _ | .yld _ _ | .omap _ _ => true
  | _ => false
theorem oneB_ok {x : AV} (h : oneB x = true) : x.one := by cases x <;> simp_all [oneB, AV.one]
def flatB : AV → Bool
  | .agg xs => xs.all oneB
  | x => oneB x
theorem flatB_ok {x : AV} (h : flatB x = true) : x.flat := by
  cases x
  case agg xs => exact fun y hy => oneB_ok (List.all_eq_true.1 h y hy)
  all_goals (simp only [flatB] at h; simp only [AV.flat]; exact oneB_ok h)

/-! operations on numbers and texts -/
def intC (op : BinOp) (k : IntKind) (a b : Int) : Option AV :=
  match op with
  | .add => some (.val (.int k (wrapC k (a + b))))
  | .sub => some (.val (.int k (wrapC k (a - b))))
  | .mul => some (.val (.int k (wrapC k (a * b))))
  | .quo => match eqI b 0 with
    | true => none
    | false => some (.val (.int k (wrapC k (a.tdiv b))))
  | .rem => match eqI b 0 with
    | true => none
    | false => some (.val (.int k (a.tmod b)))
  | .and => some (.val (.int k (wrapC k ((BitVec.ofInt k.bits a &&& BitVec.ofInt k.bits b).toNat))))
  | .or => some (.val (.int k (wrapC k ((BitVec.ofInt k.bits a ||| BitVec.ofInt k.bits b).toNat))))
  | .xor => some (.val (.int k (wrapC k ((BitVec.ofInt k.bits a ^^^ BitVec.ofInt k.bits b).toNat))))
  | .eql => some (.bool (eqI a b))
  | .neq => some (.bool (!eqI a b))
  | .lss => some (.bool (ltI a b))
  | .leq => some (.bool (!ltI b a))
  | .gtr => some (.bool (ltI b a))
  | .geq => some (.bool (!ltI a b))
  | _ => none
theorem intC_ok {op : BinOp} {k : IntKind} {a b : Int} {x : AV} (h : intC op k a b = some x) : ∃ p, intBin op k a b = some (x, p) ∧ p := by
  have hl : ∀ a b : Int, (!decide (b < a)) = decide (a ≤ b) := fun a b => by
    rw [← decide_not]; exact decide_eq_decide.2 (by omega)
  have hg : ∀ {x' : AV}, x' = x → ∃ p, some (x', True) = some (x, p) ∧ p := fun e => ⟨True, by rw [e], trivial⟩
  cases op <;> simp only [intC, reduceCtorEq, Option.some.injEq, wrapC_eq, hl, ltI_eq, eqI_eq] at h <;> simp only [intBin] <;> first
    | exact hg h
    | skip
  all_goals
    split at h
    · cases h
    · rename_i he
      simp only [Option.some.injEq] at h
      exact ⟨b ≠ 0, by rw [← h], by simpa using he⟩
def eqL : List UInt8 → List UInt8 → Bool
  | [], [] => true
  | a :: l, b :: l' => match Nat.beq a.toNat b.toNat with
    | true => eqL l l'
    | false => false
  | _, _ => false
theorem eqL_eq : ∀ l l' : List UInt8, (eqL l l' = true) ↔ l = l'
  | [], [] => by simp [eqL]
  | [], _ :: _ => by simp [eqL]
  | _ :: _, [] => by simp [eqL]
  | a :: l, b :: l' => by
    simp only [eqL]
    cases h : Nat.beq a.toNat b.toNat with
    | true =>
      rw [Nat.beq_eq] at h
      have e : a = b := UInt8.toNat_inj.1 h
      simp [e, eqL_eq l l']
    | false =>
      have : a ≠ b := fun e => by subst e; simp at h
      simp [this]
def eqS (a b : ByteArray) : Bool := eqL a.data.toList b.data.toList
theorem eqS_eq (a b : ByteArray) : eqS a b = decide (a = b) := by
  have : (eqS a b = true) ↔ a = b := by
    unfold eqS
    rw [eqL_eq]
    constructor
    · intro h
      cases a; cases b
      simp only [ByteArray.mk.injEq]
      exact Array.toList_inj.1 h
    · rintro rfl; rfl
  cases h : eqS a b <;> simp_all
theorem bsize (s : ByteArray) : s.data.toList.length = s.size := Array.length_toList
def strC (op : BinOp) (a b : ByteArray) : Option AV :=
  match op with
  | .add => match Nat.ble (a.data.toList.length + b.data.toList.length) 9223372036854775807 with
    | true => some (.str ⟨⟨a.data.toList ++ b.data.toList⟩⟩)
    | false => none
  | .eql => some (.bool (eqS a b))
  | .neq => some (.bool (!eqS a b))
  | _ => none
theorem strC_ok {op : BinOp} {a b : ByteArray} {x : AV} (h : strC op a b = some x) : ∃ p, strBin op a b = some (x, p) ∧ p := by
  have hg : ∀ {x' : AV}, x' = x → ∃ p, some (x', True) = some (x, p) ∧ p := fun e => ⟨True, by rw [e], trivial⟩
  cases op <;> simp only [strC, reduceCtorEq, Option.some.injEq, eqS_eq] at h <;> simp only [strBin] <;> first
    | exact hg h
    | skip
  split at h
  · rename_i hb
    rw [Nat.ble_eq] at hb
    simp only [Option.some.injEq] at h
    refine ⟨_, ?_, hb⟩
    rw [← h]
    have e : a ++ b = ⟨⟨a.data.toList ++ b.data.toList⟩⟩ := by
      cases h' : a ++ b with
      | mk d =>
        have : (a ++ b).data = a.data ++ b.data := ByteArray.data_append
        rw [h'] at this
        simp only at this
        rw [this]
        congr 1
        apply Array.ext'; simp
    rw [e, bsize, bsize]
  · cases h

def eqC1 (u : Nat) (x y : AV) : Option Bool :=
  match u, x, y with
  | 0, .val (.int k a), .val (.int k' b) => if k = k' then some (eqI a b) else none
  | 1, .val (.bool a), .val (.bool b) => some (a == b)
  | 2, .val (.string a), .val (.string b) => some (eqS a b)
  | _, _, _ => none
def eqC : List Nat → List AV → List AV → Option Bool
  | [], [], [] => some true
  | u :: us, x :: xs, y :: ys =>
    match eqC1 u x y, eqC us xs ys with
    | some a, some b => some (a && b)
    | _, _ => none
  | _, _, _ => none
theorem eqC1_eq (u : Nat) (x y : AV) : eqC1 u x y = eqA1 u x y := by
  unfold eqC1
  split
  · rw [eqI_eq]; rfl
  · rename_i a b; cases a <;> cases b <;> rfl
  · rw [eqS_eq]; rfl
  · unfold eqA1
    split
    · rename_i h1 h2 h3; exact (h1 _ _ _ _ rfl rfl rfl).elim
    · rename_i h1 h2 h3; exact (h2 _ _ rfl rfl rfl).elim
    · rename_i h1 h2 h3; exact (h3 _ _ rfl rfl rfl).elim
    · rfl
theorem eqC_eq : ∀ (us : List Nat) (xs ys : List AV), eqC us xs ys = eqA us xs ys
  | [], [], [] => rfl
  | [], [], _ :: _ => rfl
  | [], _ :: _, _ => rfl
  | _ :: _, [], _ => rfl
  | _ :: _, _ :: _, [] => rfl
  | u :: us, x :: xs, y :: ys => by simp only [eqC, eqA, eqC1_eq, eqC_eq us xs ys]; rfl
def binC (P : Program) (op : BinOp) (t : TypeId) (x y : AV) : Option AV :=
  match x, y with
  | .val (.int k a), .val (.int k' b) =>
    match op with
    | .shl => match nnB b with
      | true => some (.val (.int k (wrapC k (a * 2 ^ (min b.toNat k.bits)))))
      | false => none
    | .shr => match nnB b with
      | true => some (.val (.int k (a.fdiv (2 ^ (min b.toNat k.bits)))))
      | false => none
    | op => if k = k' then intC op k a b else none
  | .val (.string a), .val (.string b) => strC op a b
  | .val (.bool a), .val (.bool b) =>
    match uk P t, op with
    | .bool, .eql => some (.bool (a == b))
    | .bool, .neq => some (.bool (!(a == b)))
    | _, _ => none
  | .agg xs, .agg ys =>
    match cmpT P t with
    | some us => (match eqC us xs ys, op with
      | some r, .eql => some (.bool r)
      | some r, .neq => some (.bool (!r))
      | _, _ => none)
    | none => none
  | _, _ => none
theorem binC_ok {op : BinOp} {t : TypeId} {x y z : AV} (h : binC P op t x y = some z) : ∃ p, binA P op t x y = some (z, p) ∧ p := by
  unfold binC at h
  split at h
  · rename_i k a k' b
    split at h
    · split at h
      · rename_i hb
        simp only [Option.some.injEq] at h
        exact ⟨0 ≤ b, by simp only [binA, shBin]; rw [← h, wrapC_eq], nnB_ok hb⟩
      · cases h
    · split at h
      · rename_i hb
        simp only [Option.some.injEq] at h
        exact ⟨0 ≤ b, by simp only [binA, shBin]; rw [← h], nnB_ok hb⟩
      · cases h
    · rename_i h1 h2
      split at h
      · rename_i hk
        obtain ⟨p, h3, h4⟩ := intC_ok h
        refine ⟨p, ?_, h4⟩
        unfold binA
        cases op <;> first | exact absurd rfl h1 | exact absurd rfl h2 | (simp only; rw [if_pos hk]; exact h3)
      · cases h
  · obtain ⟨p, h3, h4⟩ := strC_ok h
    exact ⟨p, h3, h4⟩
  · rename_i a b
    split at h
    · rename_i hu
      simp only [Option.some.injEq] at h
      refine ⟨True, ?_, trivial⟩
      simp only [binA, hu]
      rw [← h]
      cases a <;> cases b <;> rfl
    · rename_i hu
      simp only [Option.some.injEq] at h
      refine ⟨True, ?_, trivial⟩
      simp only [binA, hu]
      rw [← h]
      cases a <;> cases b <;> rfl
    · cases h
  · rename_i xs ys
    simp only [binA, aggBin]
    split at h
    · rename_i us hc
      rw [hc]
      split at h
      · rename_i r hr
        simp only [Option.some.injEq] at h
        rw [eqC_eq] at hr
        exact ⟨True, by simp only [hr, h], trivial⟩
      · rename_i r hr
        simp only [Option.some.injEq] at h
        rw [eqC_eq] at hr
        exact ⟨True, by simp only [hr, h], trivial⟩
      · cases h
    · cases h
  · cases h
/-! operations on memory that only read -/
def idxC (P : Program) (m : Mem) (t : TypeId) (x i : AV) : Option AV :=
  match x, i with
  | .lst sz l, .val (.int _ k) =>
    match uk P t with
    | .slice e => if tsz P e = some sz then (match ltB k l.length with
      | true => some (.ref (l.getD k.toNat (zav P e)).cells 0)
      | false => none) else none
    | _ => none
  | .osl id ver off len, .val (.int _ k) =>
    match uk P t with
    | .slice e => match rowM m id ver with
      | some (sz, _) => if tsz P e = some sz then (match ltB k len with
        | true => some (.optr id ver (off + k.toNat) 0)
        | false => none) else none
      | none => none
    | _ => none
  | .ref xs j, .val (.int _ k) =>
    match arT P t with
    | some (n, e) => match tsz P e with
      | some sz => match ltB k n, Nat.ble (j + k.toNat * sz + 1) xs.length with
        | true, true => some (.ref xs (j + k.toNat * sz))
        | _, _ => none
      | none => none
    | none => none
  | .optr id ver i j, .val (.int _ k) =>
    match arT P t with
    | some (n, e) => match tsz P e, getM m id with
      | some sz, some e0 => match ltB k n, Nat.beq e0.ver ver with
        | true, true => some (.optr id ver i (j + k.toNat * sz))
        | _, _ => none
      | _, _ => none
    | none => none
  | _, _ => none
theorem idxC_ok {m : Mem} {t : TypeId} {x i z : AV} (h : idxC P m t x i = some z) : ∃ p, idxA P m t x i = some (z, p) ∧ p := by
  unfold idxC at h
  split at h
  · split at h
    · rename_i hu
      split at h
      · rename_i hs
        split at h
        · rename_i hk
          simp only [Option.some.injEq] at h
          refine ⟨_, ?_, ltB_ok hk⟩
          simp only [idxA, hu]
          rw [if_pos hs, h]
        · cases h
      · cases h
    · cases h
  · split at h
    · rename_i hu
      split at h
      · rename_i hr
        split at h
        · rename_i hs
          split at h
          · rename_i hk
            simp only [Option.some.injEq] at h
            subst h
            refine ⟨_, ?_, ltB_ok hk⟩
            simp only [idxA, hu, rowM_ok hr]
            rw [if_pos ⟨trivial, hs⟩]
          · cases h
        · cases h
      · cases h
    · cases h
  · rename_i xs j kk k
    split at h <;> (try (cases h; done))
    rename_i n e ha
    split at h <;> (try (cases h; done))
    rename_i sz hsz
    split at h <;> (try (cases h; done))
    rename_i h1 h2
    rw [Nat.ble_eq] at h2
    simp only [Option.some.injEq] at h
    subst h
    refine ⟨_, ?_, And.intro (ltB_ok h1) (show j + k.toNat * sz < xs.length from h2)⟩
    simp only [idxA, ha, hsz]
  · rename_i id ver i0 j kk k
    split at h <;> (try (cases h; done))
    rename_i n e ha
    split at h <;> (try (cases h; done))
    rename_i sz e0 hsz he
    split at h <;> (try (cases h; done))
    rename_i h1 h2
    rw [Nat.beq_eq] at h2
    rw [getM_eq] at he
    simp only [Option.some.injEq] at h
    subst h
    refine ⟨_, ?_, ltB_ok h1⟩
    simp only [idxA, ha, hsz, he, Option.map_some, h2, if_true]
  · cases h

def loadC (P : Program) (m : Mem) (t : TypeId) (x : AV) : Option AV :=
  match x with
  | .ref xs j =>
    match agg? P t, tsz P t with
    | some false, _ => some (xs.getD j .any)
    | some true, some n => match Nat.ble (j + n) xs.length with
      | true => some (.agg ((xs.drop j).take n))
      | false => none
    | _, _ => none
  | .optr id ver i j =>
    match rowM m id ver with
    | some (sz, l) =>
      match Nat.ble (i + 1) l.length with
      | true =>
        match agg? P t, tsz P t with
        | some false, _ => (match Nat.ble (j + 1) sz with
          | true => some ((l.getD i (zav P t)).cells.getD j .any)
          | false => none)
        | some true, some n => match Nat.ble (j + n) sz with
          | true => some (.agg (((l.getD i .any).cells.drop j).take n))
          | false => none
        | _, _ => none
      | false => none
    | none => none
  | _ => none
theorem loadC_ok {m : Mem} {t : TypeId} {x z : AV} (h : loadC P m t x = some z) : ∃ p, loadA P m t x = some (z, p) ∧ p := by
  unfold loadC at h
  split at h
  · split at h
    · rename_i ha
      simp only [Option.some.injEq] at h
      refine ⟨True, ?_, trivial⟩
      unfold loadA
      simp only [ha]
      rw [h]
    · rename_i ha hn
      split at h
      · rename_i hb
        simp only [Option.some.injEq] at h
        rw [Nat.ble_eq] at hb
        refine ⟨_, ?_, hb⟩
        unfold loadA
        simp only [ha, hn]
        rw [h]
      · cases h
    · cases h
  · split at h
    · rename_i hr
      split at h
      · rename_i hi
        rw [Nat.ble_eq] at hi
        split at h
        · rename_i ha
          split at h
          · rename_i hb
            simp only [Option.some.injEq] at h
            rw [Nat.ble_eq] at hb
            subst h
            refine ⟨_, ?_, And.intro hi hb⟩
            unfold loadA
            simp only [ha, rowM_ok hr, if_true]
            rfl
          · cases h
        · rename_i ha hn
          split at h
          · rename_i hb
            simp only [Option.some.injEq] at h
            rw [Nat.ble_eq] at hb
            subst h
            refine ⟨_, ?_, And.intro hi hb⟩
            unfold loadA
            simp only [ha, hn, rowM_ok hr, if_true]
            rfl
          · cases h
        · cases h
      · cases h
    · cases h
  · cases h

def fieldAddrC (P : Program) (m : Mem) (t : TypeId) (x : AV) (f : Nat) : Option AV :=
  match fOff P t f with
  | some (o, u) =>
    match tsz P u, x with
    | some (_ + 1), .ref xs j => (match Nat.ble (j + o + 1) xs.length with
      | true => some (.ref xs (j + o))
      | false => none)
    | some (_ + 1), .optr id ver i j => (match getM m id with
      | some e => if Nat.beq e.ver ver then some (.optr id ver i (j + o)) else none
      | none => none)
    | _, _ => none
  | none => none
theorem fieldAddrC_ok {m : Mem} {t : TypeId} {x z : AV} {f : Nat} (h : fieldAddrC P m t x f = some z) : ∃ p, fieldAddrA P m t x f = some (z, p) ∧ p := by
  unfold fieldAddrC at h
  unfold fieldAddrA
  split at h
  · rename_i o u hf
    simp only [hf]
    split at h
    · rename_i hs
      simp only [hs]
      split at h
      · rename_i hb
        rw [Nat.ble_eq] at hb
        simp only [Option.some.injEq] at h
        exact ⟨_, by rw [h], by omega⟩
      · cases h
    · rename_i hs
      simp only [hs]
      split at h
      · rename_i e he
        rw [getM_eq] at he
        split at h
        · rename_i hv
          rw [Nat.beq_eq] at hv
          simp only [Option.some.injEq] at h
          exact ⟨True, by rw [he]; simp only [Option.map_some, hv, if_true, h], trivial⟩
        · cases h
      · cases h
    · cases h
  · cases h

def fieldC (P : Program) (t : TypeId) (x : AV) (f : Nat) : Option AV :=
  match x with
  | .agg xs =>
    match fOff P t f with
    | some (o, u) =>
      match agg? P u, tsz P u with
      | some true, some n => some (.agg ((xs.drop o).take n))
      | some false, _ => (match Nat.ble (o + 1) xs.length with
        | true => some (xs.getD o .any)
        | false => none)
      | _, _ => none
    | none => none
  | _ => none
theorem fieldC_ok {t : TypeId} {x z : AV} {f : Nat} (h : fieldC P t x f = some z) : ∃ p, fieldA P t x f = some (z, p) ∧ p := by
  unfold fieldC at h
  split at h
  · split at h
    · rename_i hf
      split at h
      · rename_i ha hn
        simp only [Option.some.injEq] at h
        exact ⟨True, by unfold fieldA; simp only [hf, ha, hn]; rw [h], trivial⟩
      · rename_i ha
        split at h
        · rename_i hb
          rw [Nat.ble_eq] at hb
          simp only [Option.some.injEq] at h
          subst h
          exact ⟨_, by unfold fieldA; simp only [hf, ha]; rfl, hb⟩
        · cases h
      · cases h
    · cases h
  · cases h

def indexC (P : Program) (t : TypeId) (x i : AV) : Option AV :=
  match x, i with
  | .val (.string s), .val (.int _ k) =>
    match uk P t with
    | .string => (match ltB k s.data.toList.length with
      | true => some (.byte (byteAt s k))
      | false => none)
    | _ => none
  | .agg xs, .val (.int _ k) =>
    match arT P t with
    | some (n, e) => match agg? P e, tsz P e, ltB k n with
      | some true, some sz, true => some (.agg ((xs.drop (k.toNat * sz)).take sz))
      | some false, some sz, true => (match Nat.ble (k.toNat * sz + 1) xs.length with
        | true => some (xs.getD (k.toNat * sz) .any)
        | false => none)
      | _, _, _ => none
    | none => none
  | _, _ => none
theorem indexC_ok {t : TypeId} {x i z : AV} (h : indexC P t x i = some z) : ∃ p, indexA P t x i = some (z, p) ∧ p := by
  unfold indexC at h
  split at h
  · split at h
    · rename_i hu
      split at h
      · rename_i hb
        simp only [Option.some.injEq] at h
        refine ⟨_, by unfold indexA; simp only [hu]; rw [h], ?_⟩
        rw [bsize] at hb
        exact ltB_ok hb
      · cases h
    · cases h
  · rename_i xs kk k
    split at h <;> (try (cases h; done))
    rename_i n e ha
    split at h
    · rename_i sz hag hsz hk
      simp only [Option.some.injEq] at h
      subst h
      refine ⟨_, ?_, ltB_ok hk⟩
      simp only [indexA, ha, hag, hsz]
    · rename_i sz hag hsz hk
      split at h <;> (try (cases h; done))
      rename_i h2
      rw [Nat.ble_eq] at h2
      simp only [Option.some.injEq] at h
      subst h
      refine ⟨_, ?_, And.intro (ltB_ok hk) (show k.toNat * sz < xs.length from h2)⟩
      simp only [indexA, ha, hag, hsz]
    · cases h
  · cases h

def boundsB (lo hi : Option AV) (len : Nat) : Option (Int × Int) :=
  match loOf lo, hiOf len hi with
  | some a, some b => match leB b len with
    | true => (match nnB a with
      | true => (match ltI b a with
        | true => none
        | false => some (a, b))
      | false => none)
    | false => none
  | _, _ => none
theorem boundsB_ok {lo hi : Option AV} {len : Nat} {a b : Int} (h : boundsB lo hi len = some (a, b)) : loOf lo = some a ∧ hiOf len hi = some b ∧ 0 ≤ a ∧ a ≤ b ∧ b ≤ (len : Int) := by
  unfold boundsB at h
  split at h
  · rename_i a' b' h1 h2
    split at h
    · rename_i h3
      split at h
      · rename_i h4
        split at h
        · cases h
        · rename_i h5
          simp only [Option.some.injEq, Prod.mk.injEq] at h
          obtain ⟨rfl, rfl⟩ := h
          rw [ltI_eq, decide_eq_false_iff_not] at h5
          exact ⟨h1, h2, nnB_ok h4, by omega, (leB_ok h3).2⟩
      · cases h
    · cases h
  · cases h
def sliceC (P : Program) (m : Mem) (t : TypeId) (x : AV) (lo hi mx : Option AV) : Option AV :=
  match mx with
  | none =>
    match x with
    | .val (.string s) =>
      (match uk P t with
      | .string => (match boundsB lo hi s.data.toList.length with
        | some (a, b) => some (.str ⟨⟨(s.data.toList.take b.toNat).drop a.toNat⟩⟩)
        | none => none)
      | _ => none)
    | .lst sz l =>
      (match uk P t with
      | .slice e => if tsz P e = some sz then (match boundsB lo hi l.length with
        | some (a, b) => some (.lst sz ((l.take b.toNat).drop a.toNat))
        | none => none) else none
      | _ => none)
    | .osl id ver off len =>
      (match uk P t with
      | .slice e => (match rowM m id ver with
        | some (sz, _) => if tsz P e = some sz then (match boundsB lo hi len with
          | some (a, b) => some (.osl id ver (off + a.toNat) (b.toNat - a.toNat))
          | none => none) else none
        | none => none)
      | _ => none)
    | .emp =>
      (match uk P t with
      | .slice e => (match tsz P e, loOf lo, hiOf 0 hi with
        | some _, some a, some b => (match eqI a 0, eqI b 0 with
          | true, true => some .emp
          | _, _ => none)
        | _, _, _ => none)
      | _ => none)
    | _ => none
  | some (.val (.int _ 0)) =>
    match lo, hi with
    | none, some (.val (.int _ 0)) =>
      (match uk P t with
      | .slice e => (match tsz P e with
        | some _ => (match x with
          | .lst _ _ => some .emp
          | .osl _ _ _ _ => some .emp
          | .emp => some .emp
          | _ => none)
        | none => none)
      | _ => none)
    | _, _ => none
  | _ => none
theorem sliceC_ok {m : Mem} {t : TypeId} {x z : AV} {lo hi mx : Option AV} (h : sliceC P m t x lo hi mx = some z) : ∃ p, sliceA P m t x lo hi mx = some (z, p) ∧ p := by
  unfold sliceC at h
  split at h
  · split at h
    · rename_i s
      split at h
      · rename_i hu
        split at h
        · rename_i a b hb
          obtain ⟨h1, h2, h3⟩ := boundsB_ok hb
          simp only [Option.some.injEq] at h
          rw [bsize] at h2 h3
          refine ⟨_, ?_, h3⟩
          unfold sliceA
          simp only [hu, h1, h2]
          have e : s.extract a.toNat b.toNat = ⟨⟨(s.data.toList.take b.toNat).drop a.toNat⟩⟩ := by
            cases hx : s.extract a.toNat b.toNat with
            | mk d =>
              have : (s.extract a.toNat b.toNat).data = s.data.extract a.toNat b.toNat := ByteArray.data_extract ..
              rw [hx] at this
              simp only at this
              rw [this]
              congr 1
              apply Array.ext'
              rw [Array.toList_extract, List.extract_eq_take_drop, List.drop_take]
          rw [e, h]
        · cases h
      · cases h
    · rename_i sz l
      split at h
      · rename_i e hu
        split at h
        · rename_i hs
          split at h
          · rename_i a b hb
            obtain ⟨h1, h2, h3⟩ := boundsB_ok hb
            simp only [Option.some.injEq] at h
            refine ⟨_, ?_, h3⟩
            unfold sliceA
            simp only [hu, h1, h2]
            rw [if_pos hs, cutL_eq h1 h2, h]
          · cases h
        · cases h
      · cases h
    · split at h
      · rename_i e hu
        split at h
        · rename_i hr
          split at h
          · rename_i hs
            split at h
            · rename_i a b hb
              obtain ⟨h1, h2, h3⟩ := boundsB_ok hb
              simp only [Option.some.injEq] at h
              subst h
              refine ⟨_, ?_, h3⟩
              unfold sliceA
              simp only [hu, rowM_ok hr, h1, h2]
              rw [if_pos ⟨trivial, hs⟩]
            · cases h
          · cases h
        · cases h
      · cases h
    · split at h
      · rename_i e hu
        split at h
        · rename_i a b hs h1 h2
          split at h
          · rename_i ha hb
            rw [eqI_eq, decide_eq_true_eq] at ha hb
            simp only [Option.some.injEq] at h
            subst h
            exact ⟨_, by unfold sliceA; simp only [hu, hs, h1, h2], And.intro ha hb⟩
          · cases h
        · cases h
      · cases h
    · cases h
  · split at h
    · split at h
      · rename_i e hu
        split at h
        · rename_i hs
          split at h <;> first
            | cases h; done
            | (simp only [Option.some.injEq] at h; exact ⟨True, by unfold sliceA; simp only [hu, hs]; rw [h], trivial⟩)
        · cases h
      · cases h
    · cases h
  · cases h

def fillC (pl : List (Nat × Nat)) (E : Operand → AV) : List AV → List (Nat × Operand) → Option (List AV)
  | zs, [] => some zs
  | zs, (f, x) :: rest =>
    match pl[f]? with
    | some (o, n) =>
      match Nat.beq (E x).cells.length n with
      | true => (match flatB (E x) with
        | true => (match Nat.ble (o + n) zs.length with
          | true => fillC pl E (zs.take o ++ (E x).cells ++ zs.drop (o + n)) rest
          | false => none)
        | false => none)
      | false => none
    | none => none
theorem fillC_ok {pl : List (Nat × Nat)} {E : Operand → AV} : ∀ {parts : List (Nat × Operand)} {zs ys : List AV}, fillC pl E zs parts = some ys → ∃ p, fillA pl E zs parts = some (ys, p) ∧ p
  | [], zs, ys, h => by simp only [fillC, Option.some.injEq] at h; exact ⟨True, by rw [fillA, h], trivial⟩
  | (f, x) :: rest, zs, ys, h => by
    unfold fillC at h
    split at h
    · rename_i o n hp
      split at h
      · rename_i h1
        rw [Nat.beq_eq] at h1
        split at h
        · rename_i h2
          split at h
          · rename_i h3
            rw [Nat.ble_eq] at h3
            obtain ⟨p, q1, q2⟩ := fillC_ok h
            refine ⟨_, ?_, And.intro (And.intro (flatB_ok h2) h3) q2⟩
            unfold fillA
            simp only [hp]
            rw [if_pos h1, q1]
          · cases h
        · cases h
      · cases h
    · cases h

def wideB (P : Program) (kt : TypeId) : Bool := match P.underlying kt with
  | some (.array _ _) | some (.struct _) => true
  | _ => false
/-- a type by whose values a map may be keyed -/
def kdB (P : Program) (kt : TypeId) : Bool :=
  match uk P kt with
  | .int _ => true
  | .string => true
  | _ => match wideB P kt, Nat.ble (kt + 1) P.types.size, P.keyTypeAt 20 kt with
    | true, true, true => laidOutB P
    | _, _, _ => false
theorem kdB_ok {kt : TypeId} (h : kdB P kt = true) : Maps.Keyed P kt := by
  unfold kdB at h
  split at h
  · rename_i k hk; exact Maps.int_keyed (uk_int hk)
  · rename_i hk; exact Maps.string_keyed (uk_string hk)
  · split at h
    · rename_i h1 h2 h3
      rw [Nat.ble_eq] at h2
      exact Maps.Keyed.of_law (deep_law_laid h (m := 20) (by omega) h2 h3 (by unfold wideB at h1; split at h1 <;> simp_all))
    · cases h
def mpM (m : Mem) (id ver : Nat) : Option (List (Value × AV)) :=
  match getM m id with
  | some ⟨v, .mp l⟩ => if Nat.beq v ver then some l else none
  | _ => none
theorem mpM_ok {m : Mem} {id ver : Nat} {l : List (Value × AV)} (h : mpM m id ver = some l) : m[id]? = some ⟨ver, .mp l⟩ := by
  unfold mpM at h
  rw [getM_eq] at h
  split at h
  · rename_i v l' he
    split at h
    · rename_i hv
      rw [Nat.beq_eq] at hv
      simp only [Option.some.injEq] at h
      rw [he, hv, h]
    · cases h
  · cases h
def keysB (P : Program) (kt : TypeId) (k : Value) (l : List (Value × AV)) : Bool :=
  match eqKey k k, goodK P kt k, goodL P kt l with
  | true, true, true => kdB P kt
  | _, _, _ => false
theorem keysB_ok {kt : TypeId} {k : Value} {l : List (Value × AV)} (h : keysB P kt k l = true) : keysOk P kt k l := by
  unfold keysB at h
  split at h
  · rename_i h1 h2 h3; exact ⟨kdB_ok h, h1, h2, h3⟩
  · cases h
def lookC (P : Program) (m : Mem) (ty : TypeId) (x k : AV) (c : Bool) : Option AV :=
  match x, mpT P ty, keyV k with
  | .omap id ver, some (kt, et), some kv =>
    match mpM m id ver with
    | some l =>
      match keysB P kt kv l with
      | true =>
        match findL l kv with
        | some y => (match c with
          | true => some (.tup [y, .bool true])
          | false => some y)
        | none =>
          match zAV P et with
          | some z => (match c with
            | true => some (.tup [z, .bool false])
            | false => some z)
          | none => none
      | false => none
    | none => none
  | _, _, _ => none
theorem lookC_ok {m : Mem} {ty : TypeId} {x k z : AV} {c : Bool} (h : lookC P m ty x k c = some z) : ∃ p, lookA P m ty x k c = some (z, p) ∧ p := by
  unfold lookC at h
  split at h <;> (try (cases h; done))
  rename_i id ver kt et kv hmt hkv
  split at h <;> (try (cases h; done))
  rename_i l hm
  split at h <;> (try (cases h; done))
  rename_i hk
  have hm' := mpM_ok hm
  refine ⟨keysOk P kt kv l, ?_, keysB_ok hk⟩
  unfold lookA
  simp only [hmt, hkv, hm', if_true]
  split at h
  · rename_i y hy
    simp only [hy]
    cases c <;> simp only [Option.some.injEq] at h <;> rw [h]
  · rename_i hy
    simp only [hy]
    split at h <;> (try (cases h; done))
    rename_i z0 hz
    simp only [hz]
    cases c <;> simp only [Option.some.injEq] at h <;> rw [h]

/-- an operation that only computes, its conditions decided -/
def evC (P : Program) (t : List (Nat × AV)) (m : Mem) (op : Op) : Option AV :=
  match op with
  | .move x => some (evoC t x)
  | .assign x => some (evoC t x)
  | .binOp op xt x y _ => binC P op xt (evoC t x) (evoC t y)
  | .extract x i => (match evoC t x with
    | .tup xs => (match Nat.ble (i + 1) xs.length with
      | true => some (xs.getD i .any)
      | false => none)
    | _ => none)
  | .indexAddr ty x i => idxC P m ty (evoC t x) (evoC t i)
  | .load ty x => loadC P m ty (evoC t x)
  | .fieldAddr ty x f => fieldAddrC P m ty (evoC t x) f
  | .field ty x f => fieldC P ty (evoC t x) f
  | .index ty x i => indexC P ty (evoC t x) (evoC t i)
  | .slice ty x lo hi mx => sliceC P m ty (evoC t x) (lo.map (evoC t)) (hi.map (evoC t)) (mx.map (evoC t))
  | .build ty parts => (match fplaces P ty, zAV P ty with
    | some pl, some (.agg zs) => (match fillC pl (evoC t) zs parts.toList with
      | some xs => some (.agg xs)
      | none => none)
    | _, _ => none)
  | .unOp op ty x => (match ev P (evoC t) (evoC t) m (.unOp op ty x) with
    | some (z, _) => some z
    | none => none)
  | .convert a b x => (match ev P (evoC t) (evoC t) m (.convert a b x) with
    | some (z, _) => some z
    | none => none)
  | .call c => (match callA P (evoC t) c with
    | some (z, _) => some z
    | none => none)
  | .makeFunc a b c => (match ev P (evoC t) (evoC t) m (.makeFunc a b c) with
    | some (z, _) => some z
    | none => none)
  | .nilCheck x => (match ev P (evoC t) (evoC t) m (.nilCheck x) with
    | some (z, _) => some z
    | none => none)
  | .lookup ty x k c => lookC P m ty (evoC t x) (evoC t k) c
  | _ => none
theorem evC_ok {t : List (Nat × AV)} {m : Mem} {op : Op} {z : AV} (h : evC P t m op = some z) : ∃ p, ev P (evo t) (evo t) m op = some (z, p) ∧ p := by
  unfold evC at h
  rw [evoC_eq] at h
  split at h
  · exact ⟨True, by simp only [Option.some.injEq] at h; simp [ev, h], trivial⟩
  · exact ⟨True, by simp only [Option.some.injEq] at h; simp [ev, h], trivial⟩
  · exact binC_ok h
  · split at h
    · rename_i xs hx
      split at h
      · rename_i hb
        rw [Nat.ble_eq] at hb
        simp only [Option.some.injEq] at h
        subst h
        exact ⟨_, by simp only [ev, hx]; rfl, hb⟩
      · cases h
    · cases h
  · exact idxC_ok h
  · exact loadC_ok h
  · exact fieldAddrC_ok h
  · exact fieldC_ok h
  · exact indexC_ok h
  · exact sliceC_ok h
  · split at h
    · rename_i h1 h2
      split at h
      · rename_i xs h3
        obtain ⟨p, q1, q2⟩ := fillC_ok h3
        simp only [Option.some.injEq] at h
        exact ⟨p, by simp only [ev, buildA, h1, h2, q1, h], q2⟩
      · cases h
    · cases h
  · split at h
    · rename_i z' p hz
      simp only [Option.some.injEq] at h; subst h
      refine ⟨p, hz, ?_⟩
      simp only [ev, unA] at hz
      split at hz <;> simp at hz <;> exact hz.2
    · cases h
  · split at h
    · rename_i z' p hz
      simp only [Option.some.injEq] at h; subst h
      refine ⟨p, hz, ?_⟩
      simp only [ev, convA] at hz
      split at hz <;> simp at hz <;> exact hz.2
    · cases h
  · split at h
    · rename_i c z' p hz
      simp only [Option.some.injEq] at h; subst h
      refine ⟨p, hz, ?_⟩
      have hmm : ∀ (x y : AV), (∀ q, minA x y = some (z', q) → q) ∧ (∀ q, maxA x y = some (z', q) → q) := by
        intro x y
        constructor <;> intro q hq <;> simp only [minA, maxA] at hq <;> split at hq <;> simp at hq <;> exact hq.2
      unfold callA at hz
      split at hz
      · split at hz
        · split at hz <;> simp at hz <;> exact hz.2
        · cases hz
      · split at hz
        · split at hz <;> simp at hz <;> exact hz.2
        · cases hz
      · split at hz
        · exact (hmm _ _).1 _ hz
        · cases hz
      · split at hz
        · exact (hmm _ _).2 _ hz
        · cases hz
      · cases hz
    · cases h
  · split at h
    · rename_i z' p hz
      simp only [Option.some.injEq] at h; subst h
      refine ⟨p, hz, ?_⟩
      simp only [ev] at hz
      split at hz
      · simp at hz; exact hz.2
      · split at hz
        · simp at hz; exact hz.2
        · cases hz
      · cases hz
    · cases h
  · split at h
    · rename_i z' p hz
      simp only [Option.some.injEq] at h; subst h
      refine ⟨p, hz, ?_⟩
      simp only [ev] at hz
      split at hz
      · simp at hz; exact hz.2
      · split at hz
        · simp at hz; exact hz.2
        · cases hz
      · simp at hz; exact hz.2
      · cases hz
    · cases h
  · exact lookC_ok h
  · cases h
end Go.Vg
