/- The abstract machine, part A: abstract values, own memory, and how they lie in a world. No program in sight. -/
import Derived.WalkKit
import Derived.WalkSpells
import Derived.WalkLawsBesides
import Derived.TacticsIn
import Derived.OrdersIn
import Derived.Below
import Derived.Laws.AppendOwn
import Derived.Test.YtljchlkmalidnaaVgGb
set_option linter.all false

set_option linter.unusedVariables false
namespace Go.Vg
open Go.RowKit

/-- what is known of a value -/
inductive AV where
  | val (v : Value)
  | any
  | lst (sz : Nat) (l : List AV)
  | osl (id ver off len : Nat)
  | emp
  | ref (xs : List AV) (j : Nat)
  | optr (id ver i j : Nat)
  | agg (xs : List AV)
  | tup (xs : List AV)
  | clo (f : FuncId) (caps : List AV)
  | bnd (f : FuncId) (xs : List AV)
  | opt (g : Bool) (x : AV)
  | yld (id ver : Nat)
  | omap (id ver : Nat)

instance : Inhabited AV := ⟨.any⟩

abbrev AV.int (n : Int) : AV := .val (.int .i64 n)
abbrev AV.u8 (n : Int) : AV := .val (.int .u8 n)
abbrev AV.bool (b : Bool) : AV := .val (.bool b)
abbrev AV.str (s : ByteArray) : AV := .val (.string s)
abbrev AV.ints (l : List Int) : AV := .lst 1 (l.map AV.int)
abbrev AV.strs (l : List ByteArray) : AV := .lst 1 (l.map AV.str)

def AV.cells : AV → List AV
  | .agg xs => xs
  | x => [x]

/-- where an own entry lies -/
structure RE where
  ver : Nat
  blk : Option Nat
  base : Nat
  size : Nat
  sz : Nat

abbrev Rho := List RE

/-- a block that nobody owns: neither we (ρ) nor those who called us (X) -/
def Free (X : Nat → Prop) (ρ : Rho) (b : Nat) : Prop := ¬ X b ∧ ∀ r ∈ ρ, r.blk ≠ some b

def OslAt (r : RE) (off len : Nat) (A : Option Addr) (c : Nat) : Prop :=
  len ≤ c ∧ c ≤ maxLen ∧ (0 < c → ∃ b, r.blk = some b ∧ A = some ⟨b, r.base + off * r.sz, none⟩ ∧ r.base + (off + c) * r.sz ≤ r.size)

/-- one cell of which p holds -/
def OneAt (w : World) (p : Value → Prop) (sz b o : Nat) : Prop := sz = 1 ∧ ∃ v, w.cell? ⟨b, o, none⟩ = some v ∧ Value.oneCell' v = true ∧ p v

mutual
/-- how an abstract value lies in a world: as a value; as an element of sz cells from cell o of block b on -/
def Rp (X : Nat → Prop) (w : World) (ρ : Rho) : AV → (Value → Prop) × (Nat → Nat → Nat → Prop)
  | .val u => (fun v => v = u, OneAt w fun v => v = u)
  | .any => (fun _ => True, OneAt w fun _ => True)
  | .lst sz l =>
    let p : Value → Prop := fun v => ∃ A c, v = .slice A l.length c ∧ l.length ≤ c ∧ c ≤ maxLen ∧ (l ≠ [] → ∃ b o, A = some ⟨b, o, none⟩ ∧ Free X ρ b ∧ 0 < sz ∧ Rrow X w ρ l sz b o)
    (p, OneAt w p)
  | .osl id ver off len =>
    let p : Value → Prop := fun v => ∃ A c r, v = .slice A len c ∧ ρ[id]? = some r ∧ ver ≤ r.ver ∧ (ver = r.ver → OslAt r off len A c)
    (p, OneAt w p)
  | .emp => (fun v => ∃ A, v = .slice A 0 0, OneAt w fun v => ∃ A, v = .slice A 0 0)
  | .ref xs j =>
    let p : Value → Prop := fun v => ∃ b o, v = .pointer (some ⟨b, o + j, none⟩) ∧ j < xs.length ∧ Free X ρ b ∧ Rcells X w ρ xs b o
    (p, OneAt w p)
  | .optr id ver i j =>
    let p : Value → Prop := fun v => ∃ A r, v = .pointer A ∧ ρ[id]? = some r ∧ ver ≤ r.ver ∧ (ver = r.ver → ∃ b, r.blk = some b ∧ A = some ⟨b, r.base + i * r.sz + j, none⟩)
    (p, OneAt w p)
  | .agg xs => (fun v => ∃ vs : List Value, v = .agg vs.toArray ∧ Rvals X w ρ xs vs, fun sz b o => xs.length = sz ∧ Rcells X w ρ xs b o)
  | .tup xs => (fun v => ∃ vs : List Value, v = .tuple vs.toArray ∧ Rvals X w ρ xs vs, fun _ _ _ => False)
  | .clo f caps =>
    let p : Value → Prop := fun v => ∃ vs : List Value, v = .func (.func f) #[] vs.toArray ∧ Rvals X w ρ caps vs
    (p, OneAt w p)
  | .bnd f xs =>
    let p : Value → Prop := fun v => ∃ vs : List Value, v = .func (.func f) vs.toArray #[] ∧ Rvals X w ρ xs vs
    (p, OneAt w p)
  | .opt g x => (fun v => (g = true → (Rp X w ρ x).1 v) ∧ (g = false → v = undef), fun _ _ _ => False)
  | .yld id ver =>
    let p : Value → Prop := fun v => ∃ l r, v = .func (.yield l) #[] #[] ∧ ρ[id]? = some r ∧ ver ≤ r.ver ∧ (ver = r.ver → r.blk = some l)
    (p, OneAt w p)
  | .omap id ver =>
    let p : Value → Prop := fun v => ∃ A r, v = .map A ∧ ρ[id]? = some r ∧ ver ≤ r.ver ∧ (ver = r.ver → ∃ b, r.blk = some b ∧ A = some b)
    (p, OneAt w p)
/-- a list of values -/
def Rvals (X : Nat → Prop) (w : World) (ρ : Rho) : List AV → List Value → Prop
  | [], vs => vs = []
  | x :: xs, vs => ∃ v vs', vs = v :: vs' ∧ (Rp X w ρ x).1 v ∧ Rvals X w ρ xs vs'
/-- cells side by side, from cell o of block b on -/
def Rcells (X : Nat → Prop) (w : World) (ρ : Rho) : List AV → Nat → Nat → Prop
  | [], _, _ => True
  | x :: xs, b, o => (∃ v, w.cell? ⟨b, o, none⟩ = some v ∧ Value.oneCell' v = true ∧ (Rp X w ρ x).1 v) ∧ Rcells X w ρ xs b (o + 1)
/-- a row of elements of sz cells each -/
def Rrow (X : Nat → Prop) (w : World) (ρ : Rho) : List AV → Nat → Nat → Nat → Prop
  | [], _, _, _ => True
  | x :: l, sz, b, o => (Rp X w ρ x).2 sz b o ∧ Rrow X w ρ l sz b (o + sz)
end

abbrev R (X : Nat → Prop) (w : World) (ρ : Rho) (x : AV) (v : Value) : Prop := (Rp X w ρ x).1 v
abbrev Re (X : Nat → Prop) (w : World) (ρ : Rho) (x : AV) (sz b o : Nat) : Prop := (Rp X w ρ x).2 sz b o

def look : List (Nat × AV) → Nat → AV
  | [], _ => .any
  | (k, x) :: t, n => if k = n then x else look t n

/-- what an own entry holds: a row of elements; the block for the deferred calls of a range over a function; that loop's record; a map; a block whose number and object are known -/
inductive Kind where
  | row (sz : Nat) (l : List AV)
  | dfr
  | lrec (t : List (Nat × AV)) (n : Nat) (ps : List Nat) (asg body : Code) (pe : Option Code) (busy : Bool)
  | mp (l : List (Value × AV))
  | ext (bl : Option Nat) (o : Option Obj)

structure Ent where
  ver : Nat
  kind : Kind

abbrev Mem := List Ent

abbrev Ent.row (ver sz : Nat) (l : List AV) : Ent := ⟨ver, .row sz l⟩

/-- the entries of a map, in order -/
def Rents (X : Nat → Prop) (w : World) (ρ : Rho) : List (Value × AV) → List MapEntry → Prop
  | [], es => es = []
  | (k, x) :: l, es => ∃ e es', es = e :: es' ∧ e.key = k ∧ R X w ρ x e.val ∧ Rents X w ρ l es'
def KindAt (X : Nat → Prop) (w : World) (ρ : Rho) (r : RE) : Kind → Prop
  | .row sz l => r.sz = sz ∧ (r.blk = none → l = []) ∧ ∀ b, r.blk = some b → (∃ arr e fr, w.heap[b]? = some (.cells arr e fr) ∧ arr.size = r.size ∧ fr.2 ≤ fr.1 + 1 ∧ (fr.1 < fr.2 → arr.size ≤ fr.1)) ∧ r.base + l.length * sz ≤ r.size ∧ Rrow X w ρ l sz b r.base
  | .dfr => ∃ b, r.blk = some b ∧ w.heap[b]? = some (.deferred (some []))
  | .lrec t n ps asg body pe busy => ∃ b rec, r.blk = some b ∧ w.heap[b]? = some (.loop rec) ∧ rec.params = ps.toArray ∧ rec.assign = asg ∧ rec.body = body ∧ rec.tmps.size = n ∧ rec.pending = pe ∧ rec.state = (if busy then .busy else if pe.isNone then .ready else .done) ∧ ∀ k, R X w ρ (look t k) (rec.tmps.getD k undef)
  | .mp l => (l.map (·.1)).Nodup ∧ ∃ b es clock, r.blk = some b ∧ w.heap[b]? = some (.map es clock) ∧ Rents X w ρ l es.toList
  | .ext bl o => r.blk = bl ∧ ∀ b, bl = some b → w.heap[b]? = o

/-- the library's variable holds some int, and is none of our entries; the program's variable holds its texts, which nobody writes -/
def Gd (X : Nat → Prop) (w : World) (ρ : Rho) : Prop := (∀ g, GB = some g → (∃ n, w.cell? ⟨g, 0, none⟩ = some (.int .i64 n)) ∧ ∀ r ∈ ρ, r.blk ≠ some g) ∧
  (∀ g s, GR = some (g, s) → ∃ b o c, w.cell? ⟨g, 0, none⟩ = some (.slice (some ⟨b, o, none⟩) s.length c) ∧ s.length ≤ c ∧ c ≤ maxLen ∧ 0 < s.length ∧ (∀ i, i < s.length → w.cell? ⟨b, o + i, none⟩ = some (.string (s.getD i .empty))) ∧ Free X ρ g ∧ Free X ρ b) ∧
  ∀ g v, GV = some (g, v) → (∃ e fr, w.heap[g]? = some (.cells v.toArray e fr)) ∧ Free X ρ g
theorem gcell_lt {w : World} {g o : Nat} {v : Value} (h : w.cell? ⟨g, o, none⟩ = some v) : g < w.heap.size := by
  rcases Nat.lt_or_ge g w.heap.size with q | q
  · exact q
  · unfold World.cell? at h
    rw [show w.heap[g]? = none from Array.getElem?_eq_none q] at h
    simp at h
theorem gcell_same {w w' : World} {g o : Nat} (h : w'.heap[g]? = w.heap[g]?) : w'.cell? ⟨g, o, none⟩ = w.cell? ⟨g, o, none⟩ := by
  unfold World.cell?
  simp only [h]
theorem Gd.eyes {X X' : Nat → Prop} {w : World} {ρ ρ' : Rho} (h : Gd X w ρ) (hs : ∀ r ∈ ρ', r ∈ ρ) (hf : ∀ b, Free X ρ b → Free X' ρ' b) : Gd X' w ρ' := by
  refine ⟨fun g hg => ⟨(h.1 g hg).1, fun r hr => (h.1 g hg).2 r (hs r hr)⟩, fun g s hg => ?_, fun g v hg => ⟨(h.2.2 g v hg).1, hf _ (h.2.2 g v hg).2⟩⟩
  obtain ⟨b, o, c, h1, h2, h3, h4, h5, h6, h7⟩ := h.2.1 g s hg
  exact ⟨b, o, c, h1, h2, h3, h4, h5, hf _ h6, hf _ h7⟩
theorem Gd.sub {X : Nat → Prop} {w : World} {ρ ρ' : Rho} (h : Gd X w ρ) (hs : ∀ r ∈ ρ', r ∈ ρ) : Gd X w ρ' := h.eyes hs fun b k => ⟨k.1, fun r hr => k.2 r (hs r hr)⟩
theorem Gd.nil {X X' : Nat → Prop} {w : World} {ρ : Rho} (h : Gd X w ρ) (hf : ∀ b, Free X ρ b → Free X' [] b) : Gd X' w [] := h.eyes (fun r hr => by cases hr) hf
theorem Gd.nil0 {X : Nat → Prop} {w : World} {ρ : Rho} (h : Gd X w ρ) : Gd (fun _ => False) w [] := h.nil fun b _ => ⟨fun h => h, fun r hr => by cases hr⟩
theorem Gd.mono {X : Nat → Prop} {w w' : World} {ρ : Rho} (h : Gd X w ρ) (hb : ∀ b, b < w.heap.size → w'.heap[b]? = w.heap[b]?) : Gd X w' ρ := by
  refine ⟨fun g hg => ?_, fun g s hg => ?_, fun g v hg => ?_⟩
  · obtain ⟨⟨n, hn⟩, h2⟩ := h.1 g hg
    exact ⟨⟨n, by rw [gcell_same (hb g (gcell_lt hn))]; exact hn⟩, h2⟩
  · obtain ⟨b, o, c, h1, h2, h3, h4, h5, h6, h7⟩ := h.2.1 g s hg
    exact ⟨b, o, c, by rw [gcell_same (hb g (gcell_lt h1))]; exact h1, h2, h3, h4, fun i hi => by rw [gcell_same (hb b (gcell_lt (h5 i hi)))]; exact h5 i hi, h6, h7⟩
  · obtain ⟨⟨e, fr, h1⟩, h2⟩ := h.2.2 g v hg
    have hlt : g < w.heap.size := by
      rcases Nat.lt_or_ge g w.heap.size with q | q
      · exact q
      · rw [Array.getElem?_eq_none q] at h1; cases h1
    exact ⟨⟨e, fr, by rw [hb g hlt]; exact h1⟩, h2⟩
structure Inv (X : Nat → Prop) (w : World) (ρ : Rho) (m : Mem) : Prop where
  len : ρ.length = m.length
  at_ : ∀ (i : Nat) (r : RE) (e : Ent), ρ[i]? = some r → m[i]? = some e → r.ver = e.ver ∧ KindAt X w ρ r e.kind
  apart : ∀ (i j : Nat) (r r' : RE) (b : Nat), ρ[i]? = some r → ρ[j]? = some r' → r.blk = some b → r'.blk = some b → i = j
  new : ∀ (i : Nat) (r : RE) (b : Nat), ρ[i]? = some r → r.blk = some b → b < w.heap.size ∧ ¬ X b
  out : ∀ b, X b → b < w.heap.size
  gd : Gd X w ρ

theorem Inv.empty {X : Nat → Prop} {w : World} (h : ∀ b, X b → b < w.heap.size) (hg : Gd X w []) : Inv X w [] [] :=
  ⟨rfl, fun i r e h => by simp at h, fun i j r r' b h => by simp at h, fun i r b h => by simp at h, h, hg⟩

/-- from one world to a later one: what is not ours stays; a version that stays keeps its place -/
structure Tr (w : World) (ρ : Rho) (w' : World) (ρ' : Rho) : Prop where
  os : w'.os = w.os
  tape : w'.tape = w.tape
  output : w'.output = w.output
  size : w.heap.size ≤ w'.heap.size
  vers : ∀ (i : Nat) (r : RE), ρ[i]? = some r → ∃ r', ρ'[i]? = some r' ∧ r.ver ≤ r'.ver ∧ (r'.ver = r.ver → r' = r)
  block : ∀ b : Nat, (∀ r ∈ ρ, r.blk ≠ some b) → b < w.heap.size → (∀ r ∈ ρ', r.blk ≠ some b) ∧ w'.heap[b]? = w.heap[b]?

theorem Tr.refl (w : World) (ρ : Rho) : Tr w ρ w ρ :=
  ⟨rfl, rfl, rfl, Nat.le_refl _, fun _ r h => ⟨r, h, Nat.le_refl _, fun _ => rfl⟩, fun _ h _ => ⟨h, rfl⟩⟩

theorem Gd.tr {X : Nat → Prop} {w w' : World} {ρ ρ' : Rho} (h : Gd X w ρ) (k : Tr w ρ w' ρ') : Gd X w' ρ' := by
  refine ⟨fun g hg => ?_, fun g s hg => ?_, fun g v hg => ?_⟩
  · obtain ⟨⟨n, hn⟩, h2⟩ := h.1 g hg
    obtain ⟨q1, q2⟩ := k.block g h2 (gcell_lt hn)
    exact ⟨⟨n, by rw [gcell_same q2]; exact hn⟩, q1⟩
  · obtain ⟨b, o, c, h1, h2, h3, h4, h5, h6, h7⟩ := h.2.1 g s hg
    obtain ⟨q1, q2⟩ := k.block g h6.2 (gcell_lt h1)
    obtain ⟨r1, r2⟩ := k.block b h7.2 (gcell_lt (h5 0 h4))
    exact ⟨b, o, c, by rw [gcell_same q2]; exact h1, h2, h3, h4, fun i hi => by rw [gcell_same r2]; exact h5 i hi, ⟨h6.1, q1⟩, ⟨h7.1, r1⟩⟩
  · obtain ⟨⟨e, fr, h1⟩, h2⟩ := h.2.2 g v hg
    have hlt : g < w.heap.size := by
      rcases Nat.lt_or_ge g w.heap.size with q | q
      · exact q
      · rw [Array.getElem?_eq_none q] at h1; cases h1
    obtain ⟨q1, q2⟩ := k.block g h2.2 hlt
    exact ⟨⟨e, fr, by rw [q2]; exact h1⟩, ⟨h2.1, q1⟩⟩

theorem Tr.trans {w w1 w2 : World} {ρ ρ1 ρ2 : Rho} (h : Tr w ρ w1 ρ1) (k : Tr w1 ρ1 w2 ρ2) : Tr w ρ w2 ρ2 := by
  refine ⟨k.os.trans h.os, k.tape.trans h.tape, k.output.trans h.output, Nat.le_trans h.size k.size, fun i r hr => ?_, fun b hb hlt => ?_⟩
  · obtain ⟨r1, h1, hv1, e1⟩ := h.vers i r hr
    obtain ⟨r2, h2, hv2, e2⟩ := k.vers i r1 h1
    refine ⟨r2, h2, Nat.le_trans hv1 hv2, fun e => ?_⟩
    have e3 := e1 (by omega)
    rw [← e3]
    exact e2 (by omega)
  · obtain ⟨f1, q1⟩ := h.block b hb hlt
    obtain ⟨f2, q2⟩ := k.block b f1 (Nat.lt_of_lt_of_le hlt h.size)
    exact ⟨f2, q2.trans q1⟩

theorem cell_lt {w : World} {a : Addr} {v : Value} (h : w.cell? a = some v) : a.block < w.heap.size := by
  unfold World.cell? at h
  rcases Nat.lt_or_ge a.block w.heap.size with hlt | hge
  · exact hlt
  · rw [Array.getElem?_eq_none hge] at h
    cases h

theorem cell_same {w w' : World} {b : Nat} (h : w'.heap[b]? = w.heap[b]?) (o : Nat) : w'.cell? ⟨b, o, none⟩ = w.cell? ⟨b, o, none⟩ := World.cell?_of_block h

/-- what the relations ask of a step: ids keep their meaning; the cells that are read stay -/
structure Kp (X : Nat → Prop) (w : World) (ρ : Rho) (w' : World) (ρ' : Rho) : Prop where
  vers : ∀ (i : Nat) (r : RE), ρ[i]? = some r → ∃ r', ρ'[i]? = some r' ∧ r.ver ≤ r'.ver ∧ (r'.ver = r.ver → r' = r)
  block : ∀ b : Nat, Free X ρ b → b < w.heap.size → Free X ρ' b ∧ w'.heap[b]? = w.heap[b]?

theorem Tr.kp {X : Nat → Prop} {w w' : World} {ρ ρ' : Rho} (h : Tr w ρ w' ρ') : Kp X w ρ w' ρ' :=
  ⟨h.vers, fun b hb hlt => let ⟨h1, h2⟩ := h.block b hb.2 hlt; ⟨⟨hb.1, h1⟩, h2⟩⟩

theorem Rcells.len_lt {X : Nat → Prop} {w : World} {ρ : Rho} : ∀ {xs : List AV} {b o : Nat}, Rcells X w ρ xs b o → xs ≠ [] → b < w.heap.size
  | [], _, _, _, h => absurd rfl h
  | x :: xs, b, o, h, _ => by
    obtain ⟨⟨v, hv, _⟩, _⟩ := h
    exact cell_lt hv

theorem OneAt.mono {w w' : World} {p q : Value → Prop} {sz b o : Nat} (hc : ∀ o', w'.cell? ⟨b, o', none⟩ = w.cell? ⟨b, o', none⟩) (h : OneAt w p sz b o) (hp : ∀ v, p v → q v) : OneAt w' q sz b o := by
  obtain ⟨h1, v, h2, h3, h4⟩ := h
  exact ⟨h1, v, (hc o).trans h2, h3, hp v h4⟩

theorem Re.lt {X : Nat → Prop} {w : World} {ρ : Rho} {x : AV} {sz b o : Nat} (h : Re X w ρ x sz b o) (hs : 0 < sz) : b < w.heap.size := by
  cases x <;> simp only [Re, Rp] at h
  case agg xs => exact Rcells.len_lt h.2 (by intro e; subst e; simp at h; omega)
  all_goals first
    | exact h.elim
    | (obtain ⟨_, v, hv, _⟩ := h; exact cell_lt hv)

theorem Rrow.lt {X : Nat → Prop} {w : World} {ρ : Rho} {sz b o : Nat} : ∀ {l : List AV}, l ≠ [] → Rrow X w ρ l sz b o → 0 < sz → b < w.heap.size
  | [], h, _, _ => absurd rfl h
  | _ :: _, _, h, hs => Re.lt h.1 hs

mutual
theorem Rp.mono {X : Nat → Prop} {w w' : World} {ρ ρ' : Rho} (t : Kp X w ρ w' ρ') : ∀ x : AV, (∀ v, R X w ρ x v → R X w' ρ' x v) ∧
    (∀ sz b o, (∀ o', w'.cell? ⟨b, o', none⟩ = w.cell? ⟨b, o', none⟩) → Re X w ρ x sz b o → Re X w' ρ' x sz b o)
  | .val u => ⟨fun _ h => h, fun _ _ _ hc h => OneAt.mono hc h fun _ h => h⟩
  | .any => ⟨fun _ h => h, fun _ _ _ hc h => OneAt.mono hc h fun _ h => h⟩
  | .lst sz l => by
    have key : ∀ v, R X w ρ (.lst sz l) v → R X w' ρ' (.lst sz l) v := by
      rintro v ⟨A, c, h1, h2, h3, h4⟩
      refine ⟨A, c, h1, h2, h3, fun hl => ?_⟩
      obtain ⟨b, o, hA, hf, hs, hr⟩ := h4 hl
      obtain ⟨f1, q1⟩ := t.block b hf (Rrow.lt hl hr hs)
      exact ⟨b, o, hA, f1, hs, Rrow.mono t l sz b o (fun o' => cell_same q1 o') hr⟩
    exact ⟨key, fun _ _ _ hc h => OneAt.mono hc h key⟩
  | .osl id ver off len => by
    have key : ∀ v, R X w ρ (.osl id ver off len) v → R X w' ρ' (.osl id ver off len) v := by
      rintro v ⟨A, c, r, h1, h2, h3, h4⟩
      obtain ⟨r', k1, k2, k3⟩ := t.vers id r h2
      refine ⟨A, c, r', h1, k1, Nat.le_trans h3 k2, fun e => ?_⟩
      have e1 := k3 (by omega)
      subst e1
      exact h4 e
    exact ⟨key, fun _ _ _ hc h => OneAt.mono hc h key⟩
  | .emp => ⟨fun _ h => h, fun _ _ _ hc h => OneAt.mono hc h fun _ h => h⟩
  | .ref xs j => by
    have key : ∀ v, R X w ρ (.ref xs j) v → R X w' ρ' (.ref xs j) v := by
      rintro v ⟨b, o, h1, hj, hf, hr⟩
      obtain ⟨f1, q1⟩ := t.block b hf (Rcells.len_lt hr (by intro e; subst e; simp at hj))
      exact ⟨b, o, h1, hj, f1, Rcells.mono t xs b o (fun o' => cell_same q1 o') hr⟩
    exact ⟨key, fun _ _ _ hc h => OneAt.mono hc h key⟩
  | .optr id ver i j => by
    have key : ∀ v, R X w ρ (.optr id ver i j) v → R X w' ρ' (.optr id ver i j) v := by
      rintro v ⟨A, r, h1, h2, h3, h4⟩
      obtain ⟨r', k1, k2, k3⟩ := t.vers id r h2
      refine ⟨A, r', h1, k1, Nat.le_trans h3 k2, fun e => ?_⟩
      have e1 := k3 (by omega)
      subst e1
      exact h4 e
    exact ⟨key, fun _ _ _ hc h => OneAt.mono hc h key⟩
  | .agg xs => ⟨fun _ ⟨vs, h1, h2⟩ => ⟨vs, h1, Rvals.mono t xs vs h2⟩, fun _ b o hc h => ⟨h.1, Rcells.mono t xs b o hc h.2⟩⟩
  | .tup xs => ⟨fun _ ⟨vs, h1, h2⟩ => ⟨vs, h1, Rvals.mono t xs vs h2⟩, fun _ _ _ _ h => h⟩
  | .clo f caps => by
    have key : ∀ v, R X w ρ (.clo f caps) v → R X w' ρ' (.clo f caps) v := by
      rintro v ⟨vs, h1, h2⟩
      exact ⟨vs, h1, Rvals.mono t caps vs h2⟩
    exact ⟨key, fun _ _ _ hc h => OneAt.mono hc h key⟩
  | .bnd f xs => by
    have key : ∀ v, R X w ρ (.bnd f xs) v → R X w' ρ' (.bnd f xs) v := by
      rintro v ⟨vs, h1, h2⟩
      exact ⟨vs, h1, Rvals.mono t xs vs h2⟩
    exact ⟨key, fun _ _ _ hc h => OneAt.mono hc h key⟩
  | .opt g x => ⟨fun v h => ⟨fun e => (Rp.mono t x).1 v (h.1 e), h.2⟩, fun _ _ _ _ h => h⟩
  | .yld id ver => by
    have key : ∀ v, R X w ρ (.yld id ver) v → R X w' ρ' (.yld id ver) v := by
      rintro v ⟨l, r, h1, h2, h3, h4⟩
      obtain ⟨r', k1, k2, k3⟩ := t.vers id r h2
      refine ⟨l, r', h1, k1, Nat.le_trans h3 k2, fun e => ?_⟩
      have e1 := k3 (by omega)
      subst e1
      exact h4 e
    exact ⟨key, fun _ _ _ hc h => OneAt.mono hc h key⟩
  | .omap id ver => by
    have key : ∀ v, R X w ρ (.omap id ver) v → R X w' ρ' (.omap id ver) v := by
      rintro v ⟨l, r, h1, h2, h3, h4⟩
      obtain ⟨r', k1, k2, k3⟩ := t.vers id r h2
      refine ⟨l, r', h1, k1, Nat.le_trans h3 k2, fun e => ?_⟩
      have e1 := k3 (by omega)
      subst e1
      exact h4 e
    exact ⟨key, fun _ _ _ hc h => OneAt.mono hc h key⟩
theorem Rvals.mono {X : Nat → Prop} {w w' : World} {ρ ρ' : Rho} (t : Kp X w ρ w' ρ') : ∀ (xs : List AV) (vs : List Value), Rvals X w ρ xs vs → Rvals X w' ρ' xs vs
  | [], _, h => h
  | x :: xs, _, ⟨v, vs', h1, h2, h3⟩ => ⟨v, vs', h1, (Rp.mono t x).1 v h2, Rvals.mono t xs vs' h3⟩
theorem Rcells.mono {X : Nat → Prop} {w w' : World} {ρ ρ' : Rho} (t : Kp X w ρ w' ρ') : ∀ (xs : List AV) (b o : Nat), (∀ o', w'.cell? ⟨b, o', none⟩ = w.cell? ⟨b, o', none⟩) → Rcells X w ρ xs b o → Rcells X w' ρ' xs b o
  | [], _, _, _, _ => trivial
  | x :: xs, b, o, hc, ⟨⟨v, hv, h1, hx⟩, h2⟩ => ⟨⟨v, (hc o).trans hv, h1, (Rp.mono t x).1 v hx⟩, Rcells.mono t xs b (o + 1) hc h2⟩
theorem Rrow.mono {X : Nat → Prop} {w w' : World} {ρ ρ' : Rho} (t : Kp X w ρ w' ρ') : ∀ (l : List AV) (sz b o : Nat), (∀ o', w'.cell? ⟨b, o', none⟩ = w.cell? ⟨b, o', none⟩) → Rrow X w ρ l sz b o → Rrow X w' ρ' l sz b o
  | [], _, _, _, _, _ => trivial
  | x :: l, sz, b, o, hc, ⟨h1, h2⟩ => ⟨(Rp.mono t x).2 sz b o hc h1, Rrow.mono t l sz b (o + sz) hc h2⟩
end
theorem R.mono {X : Nat → Prop} {w w' : World} {ρ ρ' : Rho} (t : Kp X w ρ w' ρ') {x : AV} {v : Value} (h : R X w ρ x v) : R X w' ρ' x v := (Rp.mono t x).1 v h
theorem Rents.map {X X' : Nat → Prop} {w w' : World} {ρ ρ' : Rho} {f : AV → AV} (hp : AV → Prop) (h : ∀ x v, hp x → R X w ρ x v → R X' w' ρ' (f x) v) : ∀ {l : List (Value × AV)} {es : List MapEntry}, (∀ kx ∈ l, hp kx.2) → Rents X w ρ l es → Rents X' w' ρ' (l.map fun kx => (kx.1, f kx.2)) es
  | [], _, _, q => q
  | (k, x) :: l, _, hl, ⟨e, es', h1, h2, h3, h4⟩ => ⟨e, es', h1, h2, h x _ (hl (k, x) (by simp)) h3, Rents.map hp h (fun kx hk => hl kx (by simp [hk])) h4⟩
theorem Rents.mono {X : Nat → Prop} {w w' : World} {ρ ρ' : Rho} (t : Kp X w ρ w' ρ') {l : List (Value × AV)} {es : List MapEntry} (h : Rents X w ρ l es) : Rents X w' ρ' l es := by
  have := Rents.map (f := id) (fun _ => True) (fun x v _ q => R.mono t q) (fun _ _ => trivial) h
  simpa using this
/-- an entry whose block stays holds what it held -/
theorem KindAt.mono {X : Nat → Prop} {w w' : World} {ρ ρ' : Rho} (t : Kp X w ρ w' ρ') {r : RE} {k : Kind} (hb : ∀ b, r.blk = some b → w'.heap[b]? = w.heap[b]?) (h : KindAt X w ρ r k) : KindAt X w' ρ' r k := by
  cases k with
  | row sz l =>
    obtain ⟨q1, q2, q3⟩ := h
    refine ⟨q1, q2, fun b' hb' => ?_⟩
    obtain ⟨r1, r2, r3⟩ := q3 b' hb'
    exact ⟨by rw [hb b' hb']; exact r1, r2, Rrow.mono t l sz b' r.base (fun o => cell_same (hb b' hb') o) r3⟩
  | dfr =>
    obtain ⟨b', q1, q2⟩ := h
    exact ⟨b', q1, by rw [hb b' q1]; exact q2⟩
  | lrec tt n ps asg body pe busy =>
    obtain ⟨b', rec, q1, q2, q3, q4, q5, q6, q7, q8, q9⟩ := h
    exact ⟨b', rec, q1, by rw [hb b' q1]; exact q2, q3, q4, q5, q6, q7, q8, fun k => R.mono t (q9 k)⟩
  | mp l =>
    obtain ⟨q0, b', es, clock, q1, q2, q3⟩ := h
    exact ⟨q0, b', es, clock, q1, by rw [hb b' q1]; exact q2, q3.mono t⟩
  | ext bl o => exact ⟨h.1, fun b' hb' => by rw [hb b' (h.1.trans hb')]; exact h.2 b' hb'⟩

theorem R.tr {X : Nat → Prop} {w w' : World} {ρ ρ' : Rho} (t : Tr w ρ w' ρ') {x : AV} {v : Value} (h : R X w ρ x v) : R X w' ρ' x v := (Rp.mono t.kp x).1 v h
end Go.Vg
