/- A part of the proof of ResetOrders: contracts of functions, with plain laws that they need. -/
import Derived.WalkKit
import Derived.WalkSpells
import Derived.WalkLawsBesides
import Derived.TacticsIn
import Derived.OrdersIn
import Derived.Below
import Derived.Laws.AppendOwn
import Derived.Test.YtjhljokghikamaaGreatDoorVgGb
import Derived.Maps.Keyed
import Derived.DeepKeys4
import Derived.RangeFuncRecord
import Derived.Laws.StructEq
import Derived.ChangeKeysEq
import Derived.Laws.Cells
set_option linter.all false
namespace Go.Vg
open Go.RowKit
inductive AV where
 | val (v : Value)
 | any
 | lst (sz : Nat) (l : List AV)
 | osl (id ver off len : Nat)
 | emp
 | ref (xs : List AV) (j : Nat)
 | optr (id ver i j : Nat)
 | agg (xs : List AV)
 | tup (xs : List AV)
 | clo (f : FuncId) (caps : List AV)
 | bnd (f : FuncId) (xs : List AV)
 | opt (g : Bool) (x : AV)
 | yld (id ver : Nat)
 | omap (id ver : Nat)
instance : Inhabited AV := ⟨.any⟩
abbrev AV.int (n : Int) : AV := .val (.int .i64 n)
abbrev AV.u8 (n : Int) : AV := .val (.int .u8 n)
abbrev AV.bool (b : Bool) : AV := .val (.bool b)
abbrev AV.str (s : ByteArray) : AV := .val (.string s)
abbrev AV.ints (l : List Int) : AV := .lst 1 (l.map AV.int)
abbrev AV.strs (l : List ByteArray) : AV := .lst 1 (l.map AV.str)
def AV.cells : AV → List AV
 | .agg xs => xs
 | x => [x]
structure RE where
 ver : Nat
 blk : Option Nat
 base : Nat
 size : Nat
 sz : Nat
abbrev Rho := List RE
def Free (X : Nat → Prop) (ρ : Rho) (b : Nat) : Prop := ¬ X b ∧ ∀ r ∈ ρ, r.blk ≠ some b
def OslAt (r : RE) (off len : Nat) (A : Option Addr) (c : Nat) : Prop :=
 len ≤ c ∧ c ≤ maxLen ∧ (0 < c → ∃ b, r.blk = some b ∧ A = some ⟨b, r.base + off * r.sz, none⟩ ∧ r.base + (off + c) * r.sz ≤ r.size)
def OneAt (w : World) (p : Value → Prop) (sz b o : Nat) : Prop := sz = 1 ∧ ∃ v, w.cell? ⟨b, o, none⟩ = some v ∧ Value.oneCell' v = true ∧ p v
mutual
def Rp (X : Nat → Prop) (w : World) (ρ : Rho) : AV → (Value → Prop) × (Nat → Nat → Nat → Prop)
 | .val u => (fun v => v = u, OneAt w fun v => v = u)
 | .any => (fun _ => True, OneAt w fun _ => True)
 | .lst sz l =>
  let p : Value → Prop := fun v => ∃ A c, v = .slice A l.length c ∧ l.length ≤ c ∧ c ≤ maxLen ∧ (l ≠ [] → ∃ b o, A = some ⟨b, o, none⟩ ∧ Free X ρ b ∧ 0 < sz ∧ Rrow X w ρ l sz b o)
  (p, OneAt w p)
 | .osl id ver off len =>
  let p : Value → Prop := fun v => ∃ A c r, v = .slice A len c ∧ ρ[id]? = some r ∧ ver ≤ r.ver ∧ (ver = r.ver → OslAt r off len A c)
  (p, OneAt w p)
 | .emp => (fun v => ∃ A, v = .slice A 0 0, OneAt w fun v => ∃ A, v = .slice A 0 0)
 | .ref xs j =>
  let p : Value → Prop := fun v => ∃ b o, v = .pointer (some ⟨b, o + j, none⟩) ∧ j < xs.length ∧ Free X ρ b ∧ Rcells X w ρ xs b o
  (p, OneAt w p)
 | .optr id ver i j =>
  let p : Value → Prop := fun v => ∃ A r, v = .pointer A ∧ ρ[id]? = some r ∧ ver ≤ r.ver ∧ (ver = r.ver → ∃ b, r.blk = some b ∧ A = some ⟨b, r.base + i * r.sz + j, none⟩)
  (p, OneAt w p)
 | .agg xs => (fun v => ∃ vs : List Value, v = .agg vs.toArray ∧ Rvals X w ρ xs vs, fun sz b o => xs.length = sz ∧ Rcells X w ρ xs b o)
 | .tup xs => (fun v => ∃ vs : List Value, v = .tuple vs.toArray ∧ Rvals X w ρ xs vs, fun _ _ _ => False)
 | .clo f caps =>
  let p : Value → Prop := fun v => ∃ vs : List Value, v = .func (.func f) #[] vs.toArray ∧ Rvals X w ρ caps vs
  (p, OneAt w p)
 | .bnd f xs =>
  let p : Value → Prop := fun v => ∃ vs : List Value, v = .func (.func f) vs.toArray #[] ∧ Rvals X w ρ xs vs
  (p, OneAt w p)
 | .opt g x => (fun v => (g = true → (Rp X w ρ x).1 v) ∧ (g = false → v = undef), fun _ _ _ => False)
 | .yld id ver =>
  let p : Value → Prop := fun v => ∃ l r, v = .func (.yield l) #[] #[] ∧ ρ[id]? = some r ∧ ver ≤ r.ver ∧ (ver = r.ver → r.blk = some l)
  (p, OneAt w p)
 | .omap id ver =>
  let p : Value → Prop := fun v => ∃ A r, v = .map A ∧ ρ[id]? = some r ∧ ver ≤ r.ver ∧ (ver = r.ver → ∃ b, r.blk = some b ∧ A = some b)
  (p, OneAt w p)
def Rvals (X : Nat → Prop) (w : World) (ρ : Rho) : List AV → List Value → Prop
 | [], vs => vs = []
 | x :: xs, vs => ∃ v vs', vs = v :: vs' ∧ (Rp X w ρ x).1 v ∧ Rvals X w ρ xs vs'
def Rcells (X : Nat → Prop) (w : World) (ρ : Rho) : List AV → Nat → Nat → Prop
 | [], _, _ => True
 | x :: xs, b, o => (∃ v, w.cell? ⟨b, o, none⟩ = some v ∧ Value.oneCell' v = true ∧ (Rp X w ρ x).1 v) ∧ Rcells X w ρ xs b (o + 1)
def Rrow (X : Nat → Prop) (w : World) (ρ : Rho) : List AV → Nat → Nat → Nat → Prop
 | [], _, _, _ => True
 | x :: l, sz, b, o => (Rp X w ρ x).2 sz b o ∧ Rrow X w ρ l sz b (o + sz)
end
abbrev R (X : Nat → Prop) (w : World) (ρ : Rho) (x : AV) (v : Value) : Prop := (Rp X w ρ x).1 v
abbrev Re (X : Nat → Prop) (w : World) (ρ : Rho) (x : AV) (sz b o : Nat) : Prop := (Rp X w ρ x).2 sz b o
def look : List (Nat × AV) → Nat → AV
 | [], _ => .any
 | (k, x) :: t, n => if k = n then x else look t n
inductive Kind where
 | row (sz : Nat) (l : List AV)
 | dfr
 | lrec (t : List (Nat × AV)) (n : Nat) (ps : List Nat) (asg body : Code) (pe : Option Code) (busy : Bool)
 | mp (l : List (Value × AV))
 | ext (bl : Option Nat) (o : Option Obj)
structure Ent where
 ver : Nat
 kind : Kind
abbrev Mem := List Ent
abbrev Ent.row (ver sz : Nat) (l : List AV) : Ent := ⟨ver, .row sz l⟩
def Rents (X : Nat → Prop) (w : World) (ρ : Rho) : List (Value × AV) → List MapEntry → Prop
 | [], es => es = []
 | (k, x) :: l, es => ∃ e es', es = e :: es' ∧ e.key = k ∧ R X w ρ x e.val ∧ Rents X w ρ l es'
def KindAt (X : Nat → Prop) (w : World) (ρ : Rho) (r : RE) : Kind → Prop
 | .row sz l => r.sz = sz ∧ (r.blk = none → l = []) ∧ ∀ b, r.blk = some b → (∃ arr e fr, w.heap[b]? = some (.cells arr e fr) ∧ arr.size = r.size ∧ fr.2 ≤ fr.1 + 1 ∧ (fr.1 < fr.2 → arr.size ≤ fr.1)) ∧ r.base + l.length * sz ≤ r.size ∧ Rrow X w ρ l sz b r.base
 | .dfr => ∃ b, r.blk = some b ∧ w.heap[b]? = some (.deferred (some []))
 | .lrec t n ps asg body pe busy => ∃ b rec, r.blk = some b ∧ w.heap[b]? = some (.loop rec) ∧ rec.params = ps.toArray ∧ rec.assign = asg ∧ rec.body = body ∧ rec.tmps.size = n ∧ rec.pending = pe ∧ rec.state = (if busy then .busy else if pe.isNone then .ready else .done) ∧ ∀ k, R X w ρ (look t k) (rec.tmps.getD k undef)
 | .mp l => (l.map (·.1)).Nodup ∧ ∃ b es clock, r.blk = some b ∧ w.heap[b]? = some (.map es clock) ∧ Rents X w ρ l es.toList
 | .ext bl o => r.blk = bl ∧ ∀ b, bl = some b → w.heap[b]? = o
def Gd (X : Nat → Prop) (w : World) (ρ : Rho) : Prop := (∀ g, GB = some g → (∃ n, w.cell? ⟨g, 0, none⟩ = some (.int .i64 n)) ∧ ∀ r ∈ ρ, r.blk ≠ some g) ∧
 (∀ g s, GR = some (g, s) → ∃ b o c, w.cell? ⟨g, 0, none⟩ = some (.slice (some ⟨b, o, none⟩) s.length c) ∧ s.length ≤ c ∧ c ≤ maxLen ∧ 0 < s.length ∧ (∀ i, i < s.length → w.cell? ⟨b, o + i, none⟩ = some (.string (s.getD i .empty))) ∧ Free X ρ g ∧ Free X ρ b) ∧
 ∀ g v, GV = some (g, v) → (∃ e fr, w.heap[g]? = some (.cells v.toArray e fr)) ∧ Free X ρ g
theorem gcell_lt {w : World} {g o : Nat} {v : Value} (h : w.cell? ⟨g, o, none⟩ = some v) : g < w.heap.size := by
 rcases Nat.lt_or_ge g w.heap.size with q | q
 ·exact q
 ·unfold World.cell? at h
  rw [show w.heap[g]? = none from Array.getElem?_eq_none q] at h
  simp at h
theorem gcell_same {w w' : World} {g o : Nat} (h : w'.heap[g]? = w.heap[g]?) : w'.cell? ⟨g, o, none⟩ = w.cell? ⟨g, o, none⟩ := by
 unfold World.cell?
 simp only [h]
theorem Gd.eyes {X X' : Nat → Prop} {w : World} {ρ ρ' : Rho} (h : Gd X w ρ) (hs : ∀ r ∈ ρ', r ∈ ρ) (hf : ∀ b, Free X ρ b → Free X' ρ' b) : Gd X' w ρ' := by
 refine ⟨fun g hg => ⟨(h.1 g hg).1, fun r hr => (h.1 g hg).2 r (hs r hr)⟩, fun g s hg => ?_, fun g v hg => ⟨(h.2.2 g v hg).1, hf _ (h.2.2 g v hg).2⟩⟩
 obtain ⟨b, o, c, h1, h2, h3, h4, h5, h6, h7⟩ := h.2.1 g s hg
 exact ⟨b, o, c, h1, h2, h3, h4, h5, hf _ h6, hf _ h7⟩
theorem Gd.sub {X : Nat → Prop} {w : World} {ρ ρ' : Rho} (h : Gd X w ρ) (hs : ∀ r ∈ ρ', r ∈ ρ) : Gd X w ρ' := h.eyes hs fun b k => ⟨k.1, fun r hr => k.2 r (hs r hr)⟩
theorem Gd.nil {X X' : Nat → Prop} {w : World} {ρ : Rho} (h : Gd X w ρ) (hf : ∀ b, Free X ρ b → Free X' [] b) : Gd X' w [] := h.eyes (fun r hr => by cases hr) hf
theorem Gd.nil0 {X : Nat → Prop} {w : World} {ρ : Rho} (h : Gd X w ρ) : Gd (fun _ => False) w [] := h.nil fun b _ => ⟨fun h => h, fun r hr => by cases hr⟩
theorem Gd.mono {X : Nat → Prop} {w w' : World} {ρ : Rho} (h : Gd X w ρ) (hb : ∀ b, b < w.heap.size → w'.heap[b]? = w.heap[b]?) : Gd X w' ρ := by
 refine ⟨fun g hg => ?_, fun g s hg => ?_, fun g v hg => ?_⟩
 ·obtain ⟨⟨n, hn⟩, h2⟩ := h.1 g hg
  exact ⟨⟨n, by rw [gcell_same (hb g (gcell_lt hn))]; exact hn⟩, h2⟩
 ·obtain ⟨b, o, c, h1, h2, h3, h4, h5, h6, h7⟩ := h.2.1 g s hg
  exact ⟨b, o, c, by rw [gcell_same (hb g (gcell_lt h1))]; exact h1, h2, h3, h4, fun i hi => by rw [gcell_same (hb b (gcell_lt (h5 i hi)))]; exact h5 i hi, h6, h7⟩
 ·obtain ⟨⟨e, fr, h1⟩, h2⟩ := h.2.2 g v hg
  have hlt : g < w.heap.size := by
   rcases Nat.lt_or_ge g w.heap.size with q | q
   ·exact q
   ·rw [Array.getElem?_eq_none q] at h1; cases h1
  exact ⟨⟨e, fr, by rw [hb g hlt]; exact h1⟩, h2⟩
structure Inv (X : Nat → Prop) (w : World) (ρ : Rho) (m : Mem) : Prop where
 len : ρ.length = m.length
 at_ : ∀ (i : Nat) (r : RE) (e : Ent), ρ[i]? = some r → m[i]? = some e → r.ver = e.ver ∧ KindAt X w ρ r e.kind
 apart : ∀ (i j : Nat) (r r' : RE) (b : Nat), ρ[i]? = some r → ρ[j]? = some r' → r.blk = some b → r'.blk = some b → i = j
 new : ∀ (i : Nat) (r : RE) (b : Nat), ρ[i]? = some r → r.blk = some b → b < w.heap.size ∧ ¬ X b
 out : ∀ b, X b → b < w.heap.size
 gd : Gd X w ρ
theorem Inv.empty {X : Nat → Prop} {w : World} (h : ∀ b, X b → b < w.heap.size) (hg : Gd X w []) : Inv X w [] [] :=
 ⟨rfl, fun i r e h => by simp at h, fun i j r r' b h => by simp at h, fun i r b h => by simp at h, h, hg⟩
structure Tr (w : World) (ρ : Rho) (w' : World) (ρ' : Rho) : Prop where
 os : w'.os = w.os
 tape : w'.tape = w.tape
 output : w'.output = w.output
 size : w.heap.size ≤ w'.heap.size
 vers : ∀ (i : Nat) (r : RE), ρ[i]? = some r → ∃ r', ρ'[i]? = some r' ∧ r.ver ≤ r'.ver ∧ (r'.ver = r.ver → r' = r)
 block : ∀ b : Nat, (∀ r ∈ ρ, r.blk ≠ some b) → b < w.heap.size → (∀ r ∈ ρ', r.blk ≠ some b) ∧ w'.heap[b]? = w.heap[b]?
theorem Tr.refl (w : World) (ρ : Rho) : Tr w ρ w ρ :=
 ⟨rfl, rfl, rfl, Nat.le_refl _, fun _ r h => ⟨r, h, Nat.le_refl _, fun _ => rfl⟩, fun _ h _ => ⟨h, rfl⟩⟩
theorem Gd.tr {X : Nat → Prop} {w w' : World} {ρ ρ' : Rho} (h : Gd X w ρ) (k : Tr w ρ w' ρ') : Gd X w' ρ' := by
 refine ⟨fun g hg => ?_, fun g s hg => ?_, fun g v hg => ?_⟩
 ·obtain ⟨⟨n, hn⟩, h2⟩ := h.1 g hg
  obtain ⟨q1, q2⟩ := k.block g h2 (gcell_lt hn)
  exact ⟨⟨n, by rw [gcell_same q2]; exact hn⟩, q1⟩
 ·obtain ⟨b, o, c, h1, h2, h3, h4, h5, h6, h7⟩ := h.2.1 g s hg
  obtain ⟨q1, q2⟩ := k.block g h6.2 (gcell_lt h1)
  obtain ⟨r1, r2⟩ := k.block b h7.2 (gcell_lt (h5 0 h4))
  exact ⟨b, o, c, by rw [gcell_same q2]; exact h1, h2, h3, h4, fun i hi => by rw [gcell_same r2]; exact h5 i hi, ⟨h6.1, q1⟩, ⟨h7.1, r1⟩⟩
 ·obtain ⟨⟨e, fr, h1⟩, h2⟩ := h.2.2 g v hg
  have hlt : g < w.heap.size := by
   rcases Nat.lt_or_ge g w.heap.size with q | q
   ·exact q
   ·rw [Array.getElem?_eq_none q] at h1; cases h1
  obtain ⟨q1, q2⟩ := k.block g h2.2 hlt
  exact ⟨⟨e, fr, by rw [q2]; exact h1⟩, ⟨h2.1, q1⟩⟩
theorem Tr.trans {w w1 w2 : World} {ρ ρ1 ρ2 : Rho} (h : Tr w ρ w1 ρ1) (k : Tr w1 ρ1 w2 ρ2) : Tr w ρ w2 ρ2 := by
 refine ⟨k.os.trans h.os, k.tape.trans h.tape, k.output.trans h.output, Nat.le_trans h.size k.size, fun i r hr => ?_, fun b hb hlt => ?_⟩
 ·obtain ⟨r1, h1, hv1, e1⟩ := h.vers i r hr
  obtain ⟨r2, h2, hv2, e2⟩ := k.vers i r1 h1
  refine ⟨r2, h2, Nat.le_trans hv1 hv2, fun e => ?_⟩
  have e3 := e1 (by omega)
  rw [← e3]
  exact e2 (by omega)
 ·obtain ⟨f1, q1⟩ := h.block b hb hlt
  obtain ⟨f2, q2⟩ := k.block b f1 (Nat.lt_of_lt_of_le hlt h.size)
  exact ⟨f2, q2.trans q1⟩
theorem cell_lt {w : World} {a : Addr} {v : Value} (h : w.cell? a = some v) : a.block < w.heap.size := by
 unfold World.cell? at h
 rcases Nat.lt_or_ge a.block w.heap.size with hlt | hge
 ·exact hlt
 ·rw [Array.getElem?_eq_none hge] at h
  cases h
theorem cell_same {w w' : World} {b : Nat} (h : w'.heap[b]? = w.heap[b]?) (o : Nat) : w'.cell? ⟨b, o, none⟩ = w.cell? ⟨b, o, none⟩ := World.cell?_of_block h
structure Kp (X : Nat → Prop) (w : World) (ρ : Rho) (w' : World) (ρ' : Rho) : Prop where
 vers : ∀ (i : Nat) (r : RE), ρ[i]? = some r → ∃ r', ρ'[i]? = some r' ∧ r.ver ≤ r'.ver ∧ (r'.ver = r.ver → r' = r)
 block : ∀ b : Nat, Free X ρ b → b < w.heap.size → Free X ρ' b ∧ w'.heap[b]? = w.heap[b]?
theorem Tr.kp {X : Nat → Prop} {w w' : World} {ρ ρ' : Rho} (h : Tr w ρ w' ρ') : Kp X w ρ w' ρ' :=
 ⟨h.vers, fun b hb hlt => let ⟨h1, h2⟩ := h.block b hb.2 hlt; ⟨⟨hb.1, h1⟩, h2⟩⟩
theorem Rcells.len_lt {X : Nat → Prop} {w : World} {ρ : Rho} : ∀ {xs : List AV} {b o : Nat}, Rcells X w ρ xs b o → xs ≠ [] → b < w.heap.size
 | [], _, _, _, h => absurd rfl h
 | x :: xs, b, o, h, _ => by
  obtain ⟨⟨v, hv, _⟩, _⟩ := h
  exact cell_lt hv
theorem OneAt.mono {w w' : World} {p q : Value → Prop} {sz b o : Nat} (hc : ∀ o', w'.cell? ⟨b, o', none⟩ = w.cell? ⟨b, o', none⟩) (h : OneAt w p sz b o) (hp : ∀ v, p v → q v) : OneAt w' q sz b o := by
 obtain ⟨h1, v, h2, h3, h4⟩ := h
 exact ⟨h1, v, (hc o).trans h2, h3, hp v h4⟩
theorem Re.lt {X : Nat → Prop} {w : World} {ρ : Rho} {x : AV} {sz b o : Nat} (h : Re X w ρ x sz b o) (hs : 0 < sz) : b < w.heap.size := by
 cases x <;> simp only [Re, Rp] at h
 case agg xs => exact Rcells.len_lt h.2 (by intro e; subst e; simp at h; omega)
 all_goals first
  | exact h.elim
  | (obtain ⟨_, v, hv, _⟩ := h; exact cell_lt hv)
theorem Rrow.lt {X : Nat → Prop} {w : World} {ρ : Rho} {sz b o : Nat} : ∀ {l : List AV}, l ≠ [] → Rrow X w ρ l sz b o → 0 < sz → b < w.heap.size
 | [], h, _, _ => absurd rfl h
 | _ :: _, _, h, hs => Re.lt h.1 hs
mutual
theorem Rp.mono {X : Nat → Prop} {w w' : World} {ρ ρ' : Rho} (t : Kp X w ρ w' ρ') : ∀ x : AV, (∀ v, R X w ρ x v → R X w' ρ' x v) ∧
  (∀ sz b o, (∀ o', w'.cell? ⟨b, o', none⟩ = w.cell? ⟨b, o', none⟩) → Re X w ρ x sz b o → Re X w' ρ' x sz b o)
 | .val u => ⟨fun _ h => h, fun _ _ _ hc h => OneAt.mono hc h fun _ h => h⟩
 | .any => ⟨fun _ h => h, fun _ _ _ hc h => OneAt.mono hc h fun _ h => h⟩
 | .lst sz l => by
  have key : ∀ v, R X w ρ (.lst sz l) v → R X w' ρ' (.lst sz l) v := by
   rintro v ⟨A, c, h1, h2, h3, h4⟩
   refine ⟨A, c, h1, h2, h3, fun hl => ?_⟩
   obtain ⟨b, o, hA, hf, hs, hr⟩ := h4 hl
   obtain ⟨f1, q1⟩ := t.block b hf (Rrow.lt hl hr hs)
   exact ⟨b, o, hA, f1, hs, Rrow.mono t l sz b o (fun o' => cell_same q1 o') hr⟩
  exact ⟨key, fun _ _ _ hc h => OneAt.mono hc h key⟩
 | .osl id ver off len => by
  have key : ∀ v, R X w ρ (.osl id ver off len) v → R X w' ρ' (.osl id ver off len) v := by
   rintro v ⟨A, c, r, h1, h2, h3, h4⟩
   obtain ⟨r', k1, k2, k3⟩ := t.vers id r h2
   refine ⟨A, c, r', h1, k1, Nat.le_trans h3 k2, fun e => ?_⟩
   have e1 := k3 (by omega)
   subst e1
   exact h4 e
  exact ⟨key, fun _ _ _ hc h => OneAt.mono hc h key⟩
 | .emp => ⟨fun _ h => h, fun _ _ _ hc h => OneAt.mono hc h fun _ h => h⟩
 | .ref xs j => by
  have key : ∀ v, R X w ρ (.ref xs j) v → R X w' ρ' (.ref xs j) v := by
   rintro v ⟨b, o, h1, hj, hf, hr⟩
   obtain ⟨f1, q1⟩ := t.block b hf (Rcells.len_lt hr (by intro e; subst e; simp at hj))
   exact ⟨b, o, h1, hj, f1, Rcells.mono t xs b o (fun o' => cell_same q1 o') hr⟩
  exact ⟨key, fun _ _ _ hc h => OneAt.mono hc h key⟩
 | .optr id ver i j => by
  have key : ∀ v, R X w ρ (.optr id ver i j) v → R X w' ρ' (.optr id ver i j) v := by
   rintro v ⟨A, r, h1, h2, h3, h4⟩
   obtain ⟨r', k1, k2, k3⟩ := t.vers id r h2
   refine ⟨A, r', h1, k1, Nat.le_trans h3 k2, fun e => ?_⟩
   have e1 := k3 (by omega)
   subst e1
   exact h4 e
  exact ⟨key, fun _ _ _ hc h => OneAt.mono hc h key⟩
 | .agg xs => ⟨fun _ ⟨vs, h1, h2⟩ => ⟨vs, h1, Rvals.mono t xs vs h2⟩, fun _ b o hc h => ⟨h.1, Rcells.mono t xs b o hc h.2⟩⟩
 | .tup xs => ⟨fun _ ⟨vs, h1, h2⟩ => ⟨vs, h1, Rvals.mono t xs vs h2⟩, fun _ _ _ _ h => h⟩
 | .clo f caps => by
  have key : ∀ v, R X w ρ (.clo f caps) v → R X w' ρ' (.clo f caps) v := by
   rintro v ⟨vs, h1, h2⟩
   exact ⟨vs, h1, Rvals.mono t caps vs h2⟩
  exact ⟨key, fun _ _ _ hc h => OneAt.mono hc h key⟩
 | .bnd f xs => by
  have key : ∀ v, R X w ρ (.bnd f xs) v → R X w' ρ' (.bnd f xs) v := by
   rintro v ⟨vs, h1, h2⟩
   exact ⟨vs, h1, Rvals.mono t xs vs h2⟩
  exact ⟨key, fun _ _ _ hc h => OneAt.mono hc h key⟩
 | .opt g x => ⟨fun v h => ⟨fun e => (Rp.mono t x).1 v (h.1 e), h.2⟩, fun _ _ _ _ h => h⟩
 | .yld id ver => by
  have key : ∀ v, R X w ρ (.yld id ver) v → R X w' ρ' (.yld id ver) v := by
   rintro v ⟨l, r, h1, h2, h3, h4⟩
   obtain ⟨r', k1, k2, k3⟩ := t.vers id r h2
   refine ⟨l, r', h1, k1, Nat.le_trans h3 k2, fun e => ?_⟩
   have e1 := k3 (by omega)
   subst e1
   exact h4 e
  exact ⟨key, fun _ _ _ hc h => OneAt.mono hc h key⟩
 | .omap id ver => by
  have key : ∀ v, R X w ρ (.omap id ver) v → R X w' ρ' (.omap id ver) v := by
   rintro v ⟨l, r, h1, h2, h3, h4⟩
   obtain ⟨r', k1, k2, k3⟩ := t.vers id r h2
   refine ⟨l, r', h1, k1, Nat.le_trans h3 k2, fun e => ?_⟩
   have e1 := k3 (by omega)
   subst e1
   exact h4 e
  exact ⟨key, fun _ _ _ hc h => OneAt.mono hc h key⟩
theorem Rvals.mono {X : Nat → Prop} {w w' : World} {ρ ρ' : Rho} (t : Kp X w ρ w' ρ') : ∀ (xs : List AV) (vs : List Value), Rvals X w ρ xs vs → Rvals X w' ρ' xs vs
 | [], _, h => h
 | x :: xs, _, ⟨v, vs', h1, h2, h3⟩ => ⟨v, vs', h1, (Rp.mono t x).1 v h2, Rvals.mono t xs vs' h3⟩
theorem Rcells.mono {X : Nat → Prop} {w w' : World} {ρ ρ' : Rho} (t : Kp X w ρ w' ρ') : ∀ (xs : List AV) (b o : Nat), (∀ o', w'.cell? ⟨b, o', none⟩ = w.cell? ⟨b, o', none⟩) → Rcells X w ρ xs b o → Rcells X w' ρ' xs b o
 | [], _, _, _, _ => trivial
 | x :: xs, b, o, hc, ⟨⟨v, hv, h1, hx⟩, h2⟩ => ⟨⟨v, (hc o).trans hv, h1, (Rp.mono t x).1 v hx⟩, Rcells.mono t xs b (o + 1) hc h2⟩
theorem Rrow.mono {X : Nat → Prop} {w w' : World} {ρ ρ' : Rho} (t : Kp X w ρ w' ρ') : ∀ (l : List AV) (sz b o : Nat), (∀ o', w'.cell? ⟨b, o', none⟩ = w.cell? ⟨b, o', none⟩) → Rrow X w ρ l sz b o → Rrow X w' ρ' l sz b o
 | [], _, _, _, _, _ => trivial
 | x :: l, sz, b, o, hc, ⟨h1, h2⟩ => ⟨(Rp.mono t x).2 sz b o hc h1, Rrow.mono t l sz b (o + sz) hc h2⟩
end
theorem R.mono {X : Nat → Prop} {w w' : World} {ρ ρ' : Rho} (t : Kp X w ρ w' ρ') {x : AV} {v : Value} (h : R X w ρ x v) : R X w' ρ' x v := (Rp.mono t x).1 v h
theorem Rents.map {X X' : Nat → Prop} {w w' : World} {ρ ρ' : Rho} {f : AV → AV} (hp : AV → Prop) (h : ∀ x v, hp x → R X w ρ x v → R X' w' ρ' (f x) v) : ∀ {l : List (Value × AV)} {es : List MapEntry}, (∀ kx ∈ l, hp kx.2) → Rents X w ρ l es → Rents X' w' ρ' (l.map fun kx => (kx.1, f kx.2)) es
 | [], _, _, q => q
 | (k, x) :: l, _, hl, ⟨e, es', h1, h2, h3, h4⟩ => ⟨e, es', h1, h2, h x _ (hl (k, x) (by simp)) h3, Rents.map hp h (fun kx hk => hl kx (by simp [hk])) h4⟩
theorem Rents.mono {X : Nat → Prop} {w w' : World} {ρ ρ' : Rho} (t : Kp X w ρ w' ρ') {l : List (Value × AV)} {es : List MapEntry} (h : Rents X w ρ l es) : Rents X w' ρ' l es := by
 have := Rents.map (f := id) (fun _ => True) (fun x v _ q => R.mono t q) (fun _ _ => trivial) h
 simpa using this
theorem KindAt.mono {X : Nat → Prop} {w w' : World} {ρ ρ' : Rho} (t : Kp X w ρ w' ρ') {r : RE} {k : Kind} (hb : ∀ b, r.blk = some b → w'.heap[b]? = w.heap[b]?) (h : KindAt X w ρ r k) : KindAt X w' ρ' r k := by
 cases k with
 | row sz l =>
  obtain ⟨q1, q2, q3⟩ := h
  refine ⟨q1, q2, fun b' hb' => ?_⟩
  obtain ⟨r1, r2, r3⟩ := q3 b' hb'
  exact ⟨by rw [hb b' hb']; exact r1, r2, Rrow.mono t l sz b' r.base (fun o => cell_same (hb b' hb') o) r3⟩
 | dfr =>
  obtain ⟨b', q1, q2⟩ := h
  exact ⟨b', q1, by rw [hb b' q1]; exact q2⟩
 | lrec tt n ps asg body pe busy =>
  obtain ⟨b', rec, q1, q2, q3, q4, q5, q6, q7, q8, q9⟩ := h
  exact ⟨b', rec, q1, by rw [hb b' q1]; exact q2, q3, q4, q5, q6, q7, q8, fun k => R.mono t (q9 k)⟩
 | mp l =>
  obtain ⟨q0, b', es, clock, q1, q2, q3⟩ := h
  exact ⟨q0, b', es, clock, q1, by rw [hb b' q1]; exact q2, q3.mono t⟩
 | ext bl o => exact ⟨h.1, fun b' hb' => by rw [hb b' (h.1.trans hb')]; exact h.2 b' hb'⟩
theorem R.tr {X : Nat → Prop} {w w' : World} {ρ ρ' : Rho} (t : Tr w ρ w' ρ') {x : AV} {v : Value} (h : R X w ρ x v) : R X w' ρ' x v := (Rp.mono t.kp x).1 v h
end Go.Vg
namespace Go.Vg
open Go.RowKit
variable {P : Program} {X : Nat → Prop} {w : World} {ρ : Rho}
def eqBy : List UInt8 → List UInt8 → Bool
 | [], [] => true
 | a :: l, b :: l' => match Nat.beq a.toNat b.toNat with
  | true => eqBy l l'
  | false => false
 | _, _ => false
theorem eqBy_iff : ∀ l l' : List UInt8, (eqBy l l' = true) ↔ l = l'
 | [], [] => by simp [eqBy]
 | [], _ :: _ => by simp [eqBy]
 | _ :: _, [] => by simp [eqBy]
 | a :: l, b :: l' => by
  simp only [eqBy]
  cases h : Nat.beq a.toNat b.toNat with
  | true =>
   rw [Nat.beq_eq] at h
   have e : a = b := UInt8.toNat_inj.1 h
   simp [e, eqBy_iff l l']
  | false =>
   have : a ≠ b := fun e => by subst e; simp at h
   simp [this]
def eqIn : Int → Int → Bool
 | .ofNat a, .ofNat b => Nat.beq a b
 | .negSucc a, .negSucc b => Nat.beq a b
 | _, _ => false
theorem eqIn_eq (a b : Int) : eqIn a b = decide (a = b) := by
 have : (eqIn a b = true) ↔ a = b := by
  cases a <;> cases b <;> simp only [eqIn, Nat.beq_eq, Int.ofNat_eq_natCast] <;> first | omega | (constructor <;> intro h <;> first | cases h | omega)
 cases h : eqIn a b <;> simp_all
def eqV1 : Value → Value → Bool
 | .int k a, .int k' b => decide (k = k') && eqIn a b
 | .bool a, .bool b => a == b
 | .string a, .string b => eqBy a.data.toList b.data.toList
 | _, _ => false
theorem eqV1_ok {a b : Value} (h : eqV1 a b = true) : a = b := by
 cases a <;> cases b <;> simp [eqV1] at h
 ·rw [h]
 ·rw [h.1]; congr 1; rw [eqIn_eq] at h; simpa using h.2
 ·congr 1
  have := (eqBy_iff _ _).1 h
  rename_i x y
  cases x; cases y
  simp only [ByteArray.mk.injEq]
  exact Array.toList_inj.1 this
def eqVs : List Value → List Value → Bool
 | [], [] => true
 | a :: l, b :: l' => match eqV1 a b with
  | true => eqVs l l'
  | false => false
 | _, _ => false
theorem eqVs_ok : ∀ {l l' : List Value}, eqVs l l' = true → l = l'
 | [], [], _ => rfl
 | [], _ :: _, h => by simp [eqVs] at h
 | _ :: _, [], h => by simp [eqVs] at h
 | a :: l, b :: l', h => by
  simp only [eqVs] at h
  cases h1 : eqV1 a b with
  | true => rw [h1] at h; rw [eqV1_ok h1, eqVs_ok h]
  | false => rw [h1] at h; cases h
def eqKey : Value → Value → Bool
 | .agg a, .agg b => eqVs a.toList b.toList
 | a, b => eqV1 a b
theorem eqKey_ok {a b : Value} (h : eqKey a b = true) : a = b := by
 unfold eqKey at h
 split at h
 ·congr 1; exact Array.toList_inj.1 (eqVs_ok h)
 ·exact eqV1_ok h
theorem eqBy_eq (a b : ByteArray) : eqBy a.data.toList b.data.toList = decide (a = b) := by
 have : (eqBy a.data.toList b.data.toList = true) ↔ a = b := by
  rw [eqBy_iff]
  constructor
  ·intro h
   cases a; cases b
   simp only [ByteArray.mk.injEq]
   exact Array.toList_inj.1 h
  ·rintro rfl; rfl
 cases h : eqBy a.data.toList b.data.toList <;> simp_all
theorem eqKey_str (a b : ByteArray) : eqKey (.string a) (.string b) = decide (a = b) := by
 simp [eqKey, eqV1, eqBy_eq]
def keyVs : List AV → Option (List Value)
 | [] => some []
 | .val v :: l => match keyVs l with
  | some vs => some (v :: vs)
  | none => none
 | _ => none
def keyV : AV → Option Value
 | .val v => some v
 | .agg xs => match keyVs xs with
  | some vs => some (.agg vs.toArray)
  | none => none
 | _ => none
theorem keyVs_rel : ∀ {xs : List AV} {vs : List Value}, keyVs xs = some vs → ∀ us, Rvals X w ρ xs us → us = vs
 | [], vs, h, us, hr => by simp [keyVs] at h; subst h; exact hr
 | x :: xs, vs, h, us, hr => by
  cases x <;> simp only [keyVs, reduceCtorEq] at h
  rename_i v
  cases hk : keyVs xs with
  | none => rw [hk] at h; cases h
  | some vs' =>
   rw [hk] at h
   simp only [Option.some.injEq] at h
   subst h
   obtain ⟨u, us', rfl, h1, h2⟩ := hr
   rw [keyVs_rel hk us' h2, show u = v from h1]
theorem keyV_rel {x : AV} {k v : Value} (h : keyV x = some k) (hr : R X w ρ x v) : v = k := by
 cases x <;> simp only [keyV, reduceCtorEq, Option.some.injEq] at h
 ·subst h; exact hr
 ·rename_i xs
  cases hk : keyVs xs with
  | none => rw [hk] at h; cases h
  | some vs =>
   rw [hk] at h
   simp only [Option.some.injEq] at h
   subst h
   obtain ⟨us, rfl, h2⟩ := hr
   rw [keyVs_rel hk us h2]
def findL : List (Value × AV) → Value → Option AV
 | [], _ => none
 | (k', x) :: l, k => match eqKey k' k with
  | true => some x
  | false => findL l k
def updL : List (Value × AV) → Value → AV → List (Value × AV)
 | [], k, x => [(k, x)]
 | (k', y) :: l, k, x => match eqKey k' k with
  | true => (k', x) :: l
  | false => (k', y) :: updL l k x
def goodK (P : Program) (kt : TypeId) (k : Value) : Bool := (keyOf P kt k).isSome
def goodL (P : Program) (kt : TypeId) : List (Value × AV) → Bool
 | [] => true
 | kx :: l => match goodK P kt kx.1 with
  | true => goodL P kt l
  | false => false
theorem goodL_mem {kt : TypeId} : ∀ {l : List (Value × AV)}, goodL P kt l = true → ∀ kx ∈ l, goodK P kt kx.1 = true
 | [], _, kx, h => by cases h
 | k0 :: l, h, kx, hk => by
  simp only [goodL] at h
  cases hg : goodK P kt k0.1 with
  | false => rw [hg] at h; cases h
  | true =>
   rw [hg] at h
   rcases List.mem_cons.1 hk with rfl | hk
   ·exact hg
   ·exact goodL_mem h kx hk
theorem Rents.keys : ∀ {l : List (Value × AV)} {es : List MapEntry}, Rents X w ρ l es → es.map (·.key) = l.map (·.1)
 | [], _, h => by rw [show _ = [] from h]; rfl
 | (k, x) :: l, _, ⟨e, es', h1, h2, h3, h4⟩ => by rw [h1, List.map_cons, List.map_cons, Rents.keys h4, h2]
theorem Rents.good {kt : TypeId} {l : List (Value × AV)} {es : List MapEntry} (h : Rents X w ρ l es) (hg : goodL P kt l = true) : ∀ e ∈ es, ∃ lit, keyOf P kt e.key = some lit := by
 intro e he
 have : e.key ∈ l.map (·.1) := by rw [← h.keys]; exact List.mem_map.2 ⟨e, he, rfl⟩
 obtain ⟨kx, hk, e1⟩ := List.mem_map.1 this
 have := goodL_mem hg kx hk
 rw [← e1]
 exact Option.isSome_iff_exists.1 this
theorem Rents.miss {k : Value} : ∀ {l : List (Value × AV)} {es : List MapEntry}, Rents X w ρ l es → (∀ e ∈ es, e.key ≠ k) → findL l k = none ∧ ∀ x, updL l k x = l ++ [(k, x)]
 | [], _, _, _ => ⟨rfl, fun _ => rfl⟩
 | (k', x) :: l, _, ⟨e, es', h1, h2, h3, h4⟩, hn => by
  subst h1
  obtain ⟨q1, q2⟩ := Rents.miss h4 (fun e' he => hn e' (by simp [he]))
  have hf : eqKey k' k = false := by
   cases h : eqKey k' k with
   | false => rfl
   | true => exact absurd (by rw [h2]; exact eqKey_ok h) (hn e (by simp))
  simp only [findL, updL, hf, q1, q2]
  exact ⟨trivial, fun x => rfl⟩
theorem Rents.hit {k : Value} (hs : eqKey k k = true) : ∀ {l : List (Value × AV)} {es : List MapEntry} {j : Nat} {e : MapEntry}, Rents X w ρ l es → (l.map (·.1)).Nodup → es[j]? = some e → e.key = k →
  (∃ x, findL l k = some x ∧ R X w ρ x e.val) ∧ ∀ y, updL l k y = l.set j (k, y)
 | [], _, j, e, h, _, he, _ => by rw [show _ = [] from h] at he; simp at he
 | (k', x) :: l, _, 0, e, ⟨e0, es', h1, h2, h3, h4⟩, hnd, he, hk => by
  subst h1
  simp at he
  subst he
  have : k' = k := by rw [← h2]; exact hk
  subst this
  simp only [findL, updL, hs]
  exact ⟨⟨x, rfl, h3⟩, fun y => rfl⟩
 | (k', x) :: l, _, j + 1, e, ⟨e0, es', h1, h2, h3, h4⟩, hnd, he, hk => by
  subst h1
  simp only [List.getElem?_cons_succ] at he
  simp only [List.map_cons, List.nodup_cons] at hnd
  have hm : k ∈ l.map (·.1) := by
   rw [← h4.keys, ← hk]
   exact List.mem_map.2 ⟨e, List.mem_of_getElem? he, rfl⟩
  have hf : eqKey k' k = false := by
   cases h : eqKey k' k with
   | false => rfl
   | true => rw [eqKey_ok h] at hnd; exact absurd hm hnd.1
  obtain ⟨q1, q2⟩ := Rents.hit hs h4 hnd.2 he hk
  simp only [findL, updL, hf]
  exact ⟨q1, fun y => by rw [q2]; rfl⟩
theorem Rents.append : ∀ {l l2 : List (Value × AV)} {es es2 : List MapEntry}, Rents X w ρ l es → Rents X w ρ l2 es2 → Rents X w ρ (l ++ l2) (es ++ es2)
 | [], _, _, _, h, h2 => by rw [show _ = [] from h]; exact h2
 | (k, x) :: l, _, _, _, ⟨e, es', h1, h3, h4, h5⟩, h2 => ⟨e, es' ++ _, by rw [h1]; rfl, h3, h4, Rents.append h5 h2⟩
theorem Rents.set {k : Value} {y : AV} {v : Value} (hy : R X w ρ y v) : ∀ {l : List (Value × AV)} {es : List MapEntry} {j : Nat} {e' : MapEntry}, Rents X w ρ l es → e'.key = k → e'.val = v → Rents X w ρ (l.set j (k, y)) (es.set j e')
 | [], _, j, e', h, _, _ => by rw [show _ = [] from h]; rfl
 | (k', x) :: l, _, 0, e', ⟨e0, es', h1, h2, h3, h4⟩, q1, q2 => ⟨e', es', by rw [h1]; rfl, q1, by rw [q2]; exact hy, h4⟩
 | (k', x) :: l, _, j + 1, e', ⟨e0, es', h1, h2, h3, h4⟩, q1, q2 => ⟨e0, es'.set j e', by rw [h1]; rfl, h2, h3, Rents.set hy h4 q1 q2⟩
theorem lookup_run {kt et ty : TypeId} {k : Value} {l : List (Value × AV)} {es : Array MapEntry} {clock b : Nat} {c : Bool} (hm : P.underlying ty = some (.map kt et)) (K : Maps.Keyed P kt) (hs : eqKey k k = true) (hg : goodK P kt k = true) (hgl : goodL P kt l = true)
  (hb : w.heap[b]? = some (.map es clock)) (hnd : (l.map (·.1)).Nodup) (hr : Rents X w ρ l es.toList) :
  (∀ x, findL l k = some x → ∃ v, (Instr.lookup ty (.map (some b)) k c).run P w = .ok (if c then .tuple #[v, .bool true] else v) w ∧ R X w ρ x v) ∧
  (findL l k = none → ∀ z, (zeroValue et).run P w = .ok z w → (Instr.lookup ty (.map (some b)) k c).run P w = .ok (if c then .tuple #[z, .bool false] else z) w) := by
 obtain ⟨lit, hlit⟩ := Option.isSome_iff_exists.1 hg
 have hck := K.check w es.isEmpty hlit
 rcases K.find w hlit es.toList (hr.good hgl) with ⟨h1, h2⟩ | ⟨j, e, h1, h2, h3⟩
 ·obtain ⟨q1, _⟩ := hr.miss h2
  refine ⟨fun x hx => (by rw [q1] at hx; cases hx), fun _ z hz => ?_⟩
  simp [Instr.lookup, run_underlying hm, MapKept.run_getObj_map hb, hck, h1, hz, Result.andThen]
 ·obtain ⟨⟨x, q1, q2⟩, _⟩ := hr.hit hs hnd h2 h3
  refine ⟨fun x' hx => ?_, fun hn => (by rw [q1] at hn; cases hn)⟩
  rw [q1] at hx
  cases hx
  exact ⟨e.val, by simp [Instr.lookup, run_underlying hm, MapKept.run_getObj_map hb, hck, h1, Result.andThen], q2⟩
theorem update_run {kt et ty : TypeId} {k v : Value} {x : AV} {l : List (Value × AV)} {es : Array MapEntry} {clock b : Nat} (hm : P.underlying ty = some (.map kt et)) (K : Maps.Keyed P kt) (hs : eqKey k k = true) (hg : goodK P kt k = true) (hgl : goodL P kt l = true)
  (hb : w.heap[b]? = some (.map es clock)) (hnd : (l.map (·.1)).Nodup) (hr : Rents X w ρ l es.toList) (hx : R X w ρ x v) :
  ∃ es' clock', (Instr.mapUpdate ty (.map (some b)) k v).run P w = .ok () (w.putObj b (.map es' clock')) ∧ ((updL l k x).map (·.1)).Nodup ∧ Rents X w ρ (updL l k x) es'.toList := by
 obtain ⟨lit, hlit⟩ := Option.isSome_iff_exists.1 hg
 have hck := K.check w false hlit
 rcases K.find w hlit es.toList (hr.good hgl) with ⟨h1, h2⟩ | ⟨j, e, h1, h2, h3⟩
 ·obtain ⟨_, q1⟩ := hr.miss h2
  refine ⟨es.push { key := k, val := v, born := clock }, clock + 1, ?_, ?_, ?_⟩
  ·simp [Instr.mapUpdate, run_underlying hm, MapKept.run_getObj_map hb, hck, h1, MapKept.run_setObj_map _ hb, Result.andThen, World.putObj]
  ·rw [q1, List.map_append, List.nodup_append]
   refine ⟨hnd, by simp, fun a ha b' hb' => ?_⟩
   simp at hb'
   subst hb'
   rw [← hr.keys] at ha
   obtain ⟨e, he, rfl⟩ := List.mem_map.1 ha
   exact h2 e he
  ·rw [q1, Array.toList_push]
   exact hr.append ⟨_, [], rfl, rfl, hx, rfl⟩
 ·obtain ⟨_, q1⟩ := hr.hit hs hnd h2 h3
  have hj : es[j]? = some e := by simpa using h2
  have hst := K.stays w hlit
  refine ⟨es.modify j fun e => { e with key := k, val := v }, clock, ?_, ?_, ?_⟩
  ·simp [Instr.mapUpdate, run_underlying hm, MapKept.run_getObj_map hb, hck, h1, hj, h3, hst, MapKept.run_setObj_map _ hb, Result.andThen, World.putObj]
  ·rw [q1]
   have : (l.set j (k, x)).map (·.1) = l.map (·.1) := by
    rw [List.map_set]
    refine List.ext_getElem? fun i => ?_
    rw [List.getElem?_set]
    split
    ·rename_i h
     subst h
     split
     ·have := congrArg (·[j]?) hr.keys
      simp only [List.getElem?_map, h2, Option.map_some] at this
      rw [List.getElem?_map, ← this, h3]
     ·rename_i hlt
      rw [List.getElem?_eq_none (by omega)]
    ·rfl
   rw [this]; exact hnd
  ·rw [q1]
   have : (es.modify j fun e => { e with key := k, val := v }).toList = es.toList.set j { e with key := k, val := v } := by
    refine List.ext_getElem? fun i => ?_
    rw [Array.getElem?_toList, Array.getElem?_modify, List.getElem?_set]
    have hlt : j < es.size := (Array.getElem?_eq_some_iff.1 hj).1
    by_cases h : j = i
    ·subst h
     have hje : es[j] = e := (Array.getElem?_eq_some_iff.1 hj).2
     simp [hlt, hje]
    ·simp [h]
   rw [this]
   exact hr.set hx rfl rfl
end Go.Vg
namespace Go.Vg
open Go.RowKit
inductive UK where
 | int (k : IntKind) | bool | string | slice (e : TypeId) | struct | pointer (e : TypeId) | func | map (k e : TypeId) | other
def uk (P : Program) (t : TypeId) : UK :=
 match P.underlying t with
 | some (.int k) => .int k
 | some .bool => .bool
 | some .string => .string
 | some (.slice e) => .slice e
 | some (.struct _) => .struct
 | some (.pointer e) => .pointer e
 | some (.func ..) => .func
 | some (.map k e) => .map k e
 | _ => .other
def tsz (P : Program) (t : TypeId) : Option Nat := (P.info? t).map (·.size)
def tby (P : Program) (t : TypeId) : Option Nat := (P.info? t).map (·.bytes)
def tz (P : Program) (t : TypeId) : Option Value := (P.info? t).bind (·.zero)
def fOff (P : Program) (t : TypeId) (f : Nat) : Option (Nat × TypeId) :=
 match P.underlying t with
 | some (.struct fs) => (fs[f]?).map fun x => (x.offset, x.type)
 | _ => none
theorem uk_int {P : Program} {t : TypeId} {k : IntKind} (h : uk P t = .int k) : P.underlying t = some (.int k) := by
 unfold uk at h; split at h <;> simp_all
theorem uk_bool {P : Program} {t : TypeId} (h : uk P t = .bool) : P.underlying t = some .bool := by
 unfold uk at h; split at h <;> simp_all
theorem uk_string {P : Program} {t : TypeId} (h : uk P t = .string) : P.underlying t = some .string := by
 unfold uk at h; split at h <;> simp_all
theorem uk_slice {P : Program} {t e : TypeId} (h : uk P t = .slice e) : P.underlying t = some (.slice e) := by
 unfold uk at h; split at h <;> simp_all
theorem fOff_some {P : Program} {t : TypeId} {f o u : Nat} (h : fOff P t f = some (o, u)) : ∃ fs x, P.underlying t = some (.struct fs) ∧ fs[f]? = some x ∧ x.offset = o ∧ x.type = u := by
 unfold fOff at h
 split at h
 ·rename_i fs hfs
  cases hx : fs[f]? with
  | none => simp [hx] at h
  | some x => simp [hx] at h; exact ⟨fs, x, hfs, hx, h.1, h.2⟩
 ·cases h
theorem tsz_some {P : Program} {t n : Nat} (h : tsz P t = some n) : ∃ i, P.info? t = some i ∧ i.size = n := by
 unfold tsz at h
 cases hi : P.info? t with
 | none => simp [hi] at h
 | some i => simp [hi] at h; exact ⟨i, rfl, h⟩
theorem run_sizeOf {P : Program} {t n : Nat} (h : tsz P t = some n) (w : World) : (sizeOf t).run P w = .ok n w := by
 obtain ⟨i, hi, rfl⟩ := tsz_some h
 simp [sizeOf, typeInfo, hi]
def agg? (P : Program) (t : TypeId) : Option Bool :=
 match P.underlying t with
 | some (.struct _) => some true
 | some (.array _ _) => some true
 | some _ => some false
 | none => none
theorem run_isAgg {P : Program} {t : TypeId} {b : Bool} (h : agg? P t = some b) (w : World) : (isAgg t).run P w = .ok b w := by
 unfold agg? at h
 cases hu : P.underlying t with
 | none => simp [hu] at h
 | some d => cases d <;> simp_all [isAgg, underlying]
structure S where
 t : List (Nat × AV)
 m : Mem
 n : Nat
 d : List (Nat × Nat) := []
def cst : Value → AV
 | .slice none 0 0 => .emp
 | v => .val v
def evo (t : List (Nat × AV)) : Operand → AV
 | .tmp n => look t n
 | .const v => cst v
 | .global _ => .any
 | .func f => .clo f []
def S.put (s : S) (d : Option Nat) (x : AV) : S :=
 match d with
 | some k => { s with t := (k, x) :: s.t }
 | none => s
def marksOf (ρ : Rho) (d : List (Nat × Nat)) : List Deferred → Prop
 | [] => d = []
 | x :: l => ∃ id ver r b d', d = (id, ver) :: d' ∧ ρ[id]? = some r ∧ ver ≤ r.ver ∧ (ver = r.ver → r.blk = some b ∧ x = { target := .collected b, args := #[] }) ∧ marksOf ρ d' l
structure Rel (X : Nat → Prop) (s : S) (a : Act) (w : World) (ρ : Rho) : Prop where
 tmps : ∀ n, R X w ρ (look s.t n) (a.tmps.getD n undef)
 size : a.tmps.size = s.n
 inv : Inv X w ρ s.m
 defers : marksOf ρ s.d a.defers
theorem cst_rel {X : Nat → Prop} {w : World} {ρ : Rho} (v : Value) : R X w ρ (cst v) v := by
 unfold cst
 split
 ·exact ⟨none, rfl⟩
 ·rfl
theorem evo_rel {X : Nat → Prop} {w : World} {ρ : Rho} {t : List (Nat × AV)} {a : Act} (h : ∀ n, R X w ρ (look t n) (a.tmps.getD n undef)) (x : Operand) : R X w ρ (evo t x) (a.eval x) := by
 cases x with
 | tmp n => exact h n
 | const v => exact cst_rel v
 | global g => trivial
 | func f => exact ⟨[], rfl, rfl⟩
theorem Act.getD_put (a : Act) (d : Option Nat) (v : Value) (n : Nat) : (a.put d v).tmps.getD n undef = if d = some n ∧ n < a.tmps.size then v else a.tmps.getD n undef := by
 cases d with
 | none => simp [Act.put]
 | some k =>
  simp only [Act.put, Option.some.injEq]
  by_cases hk : k = n
  ·subst hk
   by_cases hlt : k < a.tmps.size
   ·simp [hlt]
   ·simp [hlt]
  ·simp [hk]
theorem Act.size_put (a : Act) (d : Option Nat) (v : Value) : (a.put d v).tmps.size = a.tmps.size := by cases d <;> simp [Act.put]
theorem Act.defers_put (a : Act) (d : Option Nat) (v : Value) : (a.put d v).defers = a.defers := by cases d <;> rfl
def dstOk (n : Nat) : Option Nat → Prop
 | some d => d < n
 | none => True
theorem Rel.put {X : Nat → Prop} {s : S} {a : Act} {w : World} {ρ : Rho} (h : Rel X s a w ρ) {d : Option Nat} (hd : dstOk s.n d) {x : AV} {v : Value} (hx : R X w ρ x v) : Rel X (s.put d x) (a.put d v) w ρ := by
 cases d with
 | none => exact h
 | some k =>
  refine ⟨fun n => ?_, ?_, h.inv, ?_⟩
  ·rw [Act.getD_put]
   simp only [S.put, look]
   by_cases hk : k = n
   ·subst hk
    have hlt : k < a.tmps.size := by rw [h.size]; exact hd
    simp [hlt]; exact hx
   ·simp only [hk, Option.some.injEq, false_and, if_false]; exact h.tmps n
  ·rw [Act.size_put]; exact h.size
  ·rw [Act.defers_put]; exact h.defers
theorem marksOf.kp {ρ ρ' : Rho} (t : ∀ (i : Nat) (r : RE), ρ[i]? = some r → ∃ r', ρ'[i]? = some r' ∧ r.ver ≤ r'.ver ∧ (r'.ver = r.ver → r' = r)) : ∀ {l : List Deferred} {d : List (Nat × Nat)}, marksOf ρ d l → marksOf ρ' d l
 | [], _, h => h
 | x :: l, _, ⟨id, ver, r, b, d', h1, h2, h3, h4, h5⟩ => by
  obtain ⟨r', k1, k2, k3⟩ := t id r h2
  refine ⟨id, ver, r', b, d', h1, k1, Nat.le_trans h3 k2, fun e => ?_, marksOf.kp t h5⟩
  have e1 := k3 (by omega)
  subst e1
  exact h4 e
theorem Rel.step {X : Nat → Prop} {s : S} {a : Act} {w w' : World} {ρ ρ' : Rho} (h : Rel X s a w ρ) (t : Tr w ρ w' ρ') {m' : Mem} (hi : Inv X w' ρ' m') : Rel X { s with m := m' } a w' ρ' :=
 ⟨fun n => R.tr t (h.tmps n), h.size, hi, marksOf.kp t.vers h.defers⟩
abbrev AV.byte (b : UInt8) : AV := .val (.int .u8 (b.toNat : Int))
def AV.toByte : AV → UInt8
 | .val (.int _ n) => UInt8.ofNat n.toNat
 | _ => 0
def AV.isByte : AV → Prop
 | .val (.int .u8 n) => 0 ≤ n ∧ n < 256
 | _ => False
@[simp] theorem toByte_byte (b : UInt8) : (AV.byte b).toByte = b := by simp [AV.byte, AV.toByte]
@[simp] theorem isByte_byte (b : UInt8) : (AV.byte b).isByte := by
 have := b.toNat_lt
 simp only [AV.byte, AV.isByte]; omega
abbrev AV.bytes (l : List UInt8) : AV := .lst 1 (l.map AV.byte)
def zav (P : Program) (t : TypeId) : AV :=
 match agg? P t, tz P t with
 | some true, some (.agg cs) => .agg (cs.toList.map cst)
 | _, _ =>
  match uk P t with
  | .int k => .val (.int k 0)
  | .bool => .bool false
  | .string => .str .empty
  | .slice _ => .lst 1 []
  | _ => .any
def byteAt (s : ByteArray) (i : Int) : UInt8 := s.data.toList.getD i.toNat 0
def unopt : AV → Bool × AV
 | .opt g x => (g, x)
 | x => (true, x)
def pickA (B : Operand → AV) (g : Bool) (a b : Operand) : Option (AV × Prop) :=
 match b with
 | .const (.bool false) =>
  match unopt (B a) with
  | (ga, .val (.bool x)) => some (.bool (g && x), g = true → ga = true)
  | _ => none
 | _ =>
  match a with
  | .const (.bool true) =>
   match unopt (B b) with
   | (gb, .val (.bool y)) => some (.bool (g || y), g = false → gb = true)
   | _ => none
  | _ => none
def intBin (op : BinOp) (k : IntKind) (a b : Int) : Option (AV × Prop) :=
 match op with
 | .add => some (.val (.int k (k.wrap (a + b))), True)
 | .sub => some (.val (.int k (k.wrap (a - b))), True)
 | .mul => some (.val (.int k (k.wrap (a * b))), True)
 | .quo => some (.val (.int k (k.wrap (a.tdiv b))), b ≠ 0)
 | .rem => some (.val (.int k (a.tmod b)), b ≠ 0)
 | .and => some (.val (.int k (k.wrap ((BitVec.ofInt k.bits a &&& BitVec.ofInt k.bits b).toNat))), True)
 | .or => some (.val (.int k (k.wrap ((BitVec.ofInt k.bits a ||| BitVec.ofInt k.bits b).toNat))), True)
 | .xor => some (.val (.int k (k.wrap ((BitVec.ofInt k.bits a ^^^ BitVec.ofInt k.bits b).toNat))), True)
 | .eql => some (.bool (decide (a = b)), True)
 | .neq => some (.bool (!decide (a = b)), True)
 | .lss => some (.bool (decide (a < b)), True)
 | .leq => some (.bool (decide (a ≤ b)), True)
 | .gtr => some (.bool (decide (b < a)), True)
 | .geq => some (.bool (decide (b ≤ a)), True)
 | _ => none
def shBin (op : BinOp) (k : IntKind) (a b : Int) : Option (AV × Prop) :=
 match op with
 | .shl => some (.val (.int k (k.wrap (a * 2 ^ (min b.toNat k.bits)))), 0 ≤ b)
 | .shr => some (.val (.int k (a.fdiv (2 ^ (min b.toNat k.bits)))), 0 ≤ b)
 | _ => none
def strBin (op : BinOp) (a b : ByteArray) : Option (AV × Prop) :=
 match op with
 | .add => some (.str (a ++ b), a.size + b.size ≤ 9223372036854775807)
 | .eql => some (.bool (decide (a = b)), True)
 | .neq => some (.bool (!decide (a = b)), True)
 | _ => none
def flatF (P : Program) (g : TypeId → Option (List Nat)) : List Field → Nat → Option (List Nat)
 | [], _ => some []
 | f :: fs, off =>
  if f.name ≠ "_" ∧ f.offset = off then
   match g f.type with
   | some us =>
    if us.length = P.cellsOf f.type then
     match flatF P g fs (off + us.length) with
     | some vs => some (us ++ vs)
     | none => none
    else none
   | none => none
  else none
def flatU (P : Program) : Nat → TypeId → Option (List Nat)
 | 0, _ => none
 | d + 1, t =>
  match P.underlying t with
  | some (.int _) => some [0]
  | some .bool => some [1]
  | some .string => some [2]
  | some (.array n e) =>
   match flatU P d e, P.info? e with
   | some us, some _ => if us.length = P.cellsOf e then some (List.replicate n us).flatten else none
   | _, _ => none
  | some (.struct fs) => if P.stoodInHeld t = true then none else flatF P (flatU P d) fs.toList 0
  | _ => none
def cmpT (P : Program) (t : TypeId) : Option (List Nat) :=
 match agg? P t, P.eqGuardType P.depth t with
 | some true, false => flatU P 8 t
 | _, _ => none
def eqA1 (u : Nat) (x y : AV) : Option Bool :=
 match u, x, y with
 | 0, .val (.int k a), .val (.int k' b) => if k = k' then some (decide (a = b)) else none
 | 1, .val (.bool a), .val (.bool b) => some (decide (a = b))
 | 2, .val (.string a), .val (.string b) => some (decide (a = b))
 | _, _, _ => none
def eqA : List Nat → List AV → List AV → Option Bool
 | [], [], [] => some true
 | u :: us, x :: xs, y :: ys =>
  match eqA1 u x y, eqA us xs ys with
  | some a, some b => some (a && b)
  | _, _ => none
 | _, _, _ => none
def aggBin (P : Program) (op : BinOp) (t : TypeId) (xs ys : List AV) : Option (AV × Prop) :=
 match cmpT P t with
 | some us =>
  match eqA us xs ys, op with
  | some r, .eql => some (.bool r, True)
  | some r, .neq => some (.bool (!r), True)
  | _, _ => none
 | none => none
def binA (P : Program) (op : BinOp) (t : TypeId) (x y : AV) : Option (AV × Prop) :=
 match x, y with
 | .val (.int k a), .val (.int k' b) =>
  match op with
  | .shl => shBin .shl k a b
  | .shr => shBin .shr k a b
  | _ => if k = k' then intBin op k a b else none
 | .val (.string a), .val (.string b) => strBin op a b
 | .val (.bool a), .val (.bool b) =>
  match uk P t, op with
  | .bool, .eql => some (.bool (decide (a = b)), True)
  | .bool, .neq => some (.bool (!decide (a = b)), True)
  | _, _ => none
 | .agg xs, .agg ys => aggBin P op t xs ys
 | _, _ => none
def unA (op : UnOp) (x : AV) : Option (AV × Prop) :=
 match op, x with
 | .neg, .val (.int k n) => some (.val (.int k (k.wrap (0 - n))), True)
 | .not, .val (.bool b) => some (.bool (!b), True)
 | _, _ => none
def convA (P : Program) (src dst : TypeId) (x : AV) : Option (AV × Prop) :=
 match uk P src, uk P dst, x with
 | .int _, .int k, .val (.int _ n) => some (.val (.int k (k.wrap n)), True)
 | .string, .string, .val (.string s) => some (.str s, True)
 | _, _, _ => none
def rowOf (m : Mem) : AV → Option (Nat × List AV)
 | .lst sz l => some (sz, l)
 | .emp => some (1, [])
 | .osl id ver off len =>
  match m[id]? with
  | some ⟨v, .row sz l⟩ => if v = ver then some (sz, (l.drop off).take len) else none
  | _ => none
 | _ => none
def arT (P : Program) (t : TypeId) : Option (Nat × TypeId) :=
 match P.underlying t with
 | some (.array n e) => some (n, e)
 | _ => none
theorem arT_some {P : Program} {t e : TypeId} {n : Nat} (h : arT P t = some (n, e)) : P.underlying t = some (.array n e) := by
 unfold arT at h
 split at h
 ·rename_i k' e' hu
  simp only [Option.some.injEq, Prod.mk.injEq] at h
  obtain ⟨rfl, rfl⟩ := h
  exact hu
 ·cases h
def idxA (P : Program) (m : Mem) (t : TypeId) (x i : AV) : Option (AV × Prop) :=
 match uk P t, x, i with
 | .slice e, .lst sz l, .val (.int _ k) =>
  if tsz P e = some sz then some (.ref (l.getD k.toNat (zav P e)).cells 0, 0 ≤ k ∧ k < (l.length : Int)) else none
 | .slice e, .osl id ver off len, .val (.int _ k) =>
  match m[id]? with
  | some ⟨v, .row sz _⟩ => if v = ver ∧ tsz P e = some sz then some (.optr id ver (off + k.toNat) 0, 0 ≤ k ∧ k < (len : Int)) else none
  | _ => none
 | _, .ref xs j, .val (.int _ k) =>
  match arT P t with
  | some (n, e) =>
   match tsz P e with
   | some sz => some (.ref xs (j + k.toNat * sz), (0 ≤ k ∧ k < (n : Int)) ∧ j + k.toNat * sz < xs.length)
   | none => none
  | none => none
 | _, .optr id ver i j, .val (.int _ k) =>
  match arT P t with
  | some (n, e) =>
   match tsz P e with
   | some sz => if (m[id]?).map (·.ver) = some ver then some (.optr id ver i (j + k.toNat * sz), 0 ≤ k ∧ k < (n : Int)) else none
   | none => none
  | none => none
 | _, _, _ => none
def loadA (P : Program) (m : Mem) (t : TypeId) (x : AV) : Option (AV × Prop) :=
 match agg? P t, tsz P t, x with
 | some false, _, .ref xs j => some (xs.getD j .any, True)
 | some true, some n, .ref xs j => some (.agg ((xs.drop j).take n), j + n ≤ xs.length)
 | some false, _, .optr id ver i j =>
  match m[id]? with
  | some ⟨v, .row sz l⟩ =>
   if v = ver then some ((l.getD i (zav P t)).cells.getD j .any, i < l.length ∧ j < sz) else none
  | _ => none
 | some true, some n, .optr id ver i j =>
  match m[id]? with
  | some ⟨v, .row sz l⟩ => if v = ver then some (.agg (((l.getD i .any).cells.drop j).take n), i < l.length ∧ j + n ≤ sz) else none
  | _ => none
 | _, _, _ => none
def fieldAddrA (P : Program) (m : Mem) (t : TypeId) (x : AV) (f : Nat) : Option (AV × Prop) :=
 match fOff P t f with
 | some (o, u) =>
  match tsz P u, x with
  | some (_ + 1), .ref xs j => some (.ref xs (j + o), j + o < xs.length)
  | some (_ + 1), .optr id ver i j => if (m[id]?).map (·.ver) = some ver then some (.optr id ver i (j + o), True) else none
  | _, _ => none
 | none => none
def fieldA (P : Program) (t : TypeId) (x : AV) (f : Nat) : Option (AV × Prop) :=
 match fOff P t f, x with
 | some (o, u), .agg xs =>
  match agg? P u, tsz P u with
  | some true, some n => some (.agg ((xs.drop o).take n), True)
  | some false, _ => some (xs.getD o .any, o < xs.length)
  | _, _ => none
 | _, _ => none
def indexA (P : Program) (t : TypeId) (x i : AV) : Option (AV × Prop) :=
 match uk P t, x, i with
 | .string, .val (.string s), .val (.int _ k) => some (.byte (byteAt s k), 0 ≤ k ∧ k < (s.size : Int))
 | _, .agg xs, .val (.int _ k) =>
  match arT P t with
  | some (n, e) =>
   match agg? P e, tsz P e with
   | some true, some sz => some (.agg ((xs.drop (k.toNat * sz)).take sz), 0 ≤ k ∧ k < (n : Int))
   | some false, some sz => some (xs.getD (k.toNat * sz) .any, (0 ≤ k ∧ k < (n : Int)) ∧ k.toNat * sz < xs.length)
   | _, _ => none
  | none => none
 | _, _, _ => none
def loOf : Option AV → Option Int
 | none => some 0
 | some (.val (.int _ n)) => some n
 | _ => none
def hiOf (len : Nat) : Option AV → Option Int
 | none => some len
 | some (.val (.int _ n)) => some n
 | _ => none
def cutL (lo hi : Option AV) (l : List AV) (a b : Int) : List AV :=
 match lo, hi with
 | none, none => l
 | none, some _ => l.take b.toNat
 | some _, none => l.drop a.toNat
 | some _, some _ => (l.take b.toNat).drop a.toNat
def sliceA (P : Program) (m : Mem) (t : TypeId) (x : AV) (lo hi mx : Option AV) : Option (AV × Prop) :=
 match uk P t, x, mx with
 | .string, .val (.string s), none =>
  match loOf lo, hiOf s.size hi with
  | some a, some b => some (.str (s.extract a.toNat b.toNat), 0 ≤ a ∧ a ≤ b ∧ b ≤ (s.size : Int))
  | _, _ => none
 | .slice e, .lst sz l, none =>
  if tsz P e = some sz then
   match loOf lo, hiOf l.length hi with
   | some a, some b => some (.lst sz (cutL lo hi l a b), 0 ≤ a ∧ a ≤ b ∧ b ≤ (l.length : Int))
   | _, _ => none
  else none
 | .slice e, .osl id ver off len, none =>
  match m[id]? with
  | some ⟨v, .row sz _⟩ =>
   if v = ver ∧ tsz P e = some sz then
    match loOf lo, hiOf len hi with
    | some a, some b => some (.osl id ver (off + a.toNat) (b.toNat - a.toNat), 0 ≤ a ∧ a ≤ b ∧ b ≤ (len : Int))
    | _, _ => none
   else none
  | _ => none
 | .slice e, .emp, none =>
  match tsz P e, loOf lo, hiOf 0 hi with
  | some _, some a, some b => some (.emp, a = 0 ∧ b = 0)
  | _, _, _ => none
 | .slice e, .lst _ _, some (.val (.int _ 0)) => match tsz P e, lo, hi with
  | some _, none, some (.val (.int _ 0)) => some (.emp, True)
  | _, _, _ => none
 | .slice e, .osl _ _ _ _, some (.val (.int _ 0)) => match tsz P e, lo, hi with
  | some _, none, some (.val (.int _ 0)) => some (.emp, True)
  | _, _, _ => none
 | .slice e, .emp, some (.val (.int _ 0)) => match tsz P e, lo, hi with
  | some _, none, some (.val (.int _ 0)) => some (.emp, True)
  | _, _, _ => none
 | _, _, _ => none
def minA (x y : AV) : Option (AV × Prop) :=
 match x, y with
 | .val (.int k a), .val (.int _ b) => some (.val (.int k (if b < a then b else a)), True)
 | _, _ => none
def maxA (x y : AV) : Option (AV × Prop) :=
 match x, y with
 | .val (.int k a), .val (.int _ b) => some (.val (.int k (if a < b then b else a)), True)
 | _, _ => none
def _root_.Go.Op.needs : Op → List Operand
 | .pick c _ _ => [c]
 | op => op.operands.toList
def callA (P : Program) (E : Operand → AV) (c : Call) : Option (AV × Prop) :=
 match c.callee with
 | .builtin .len =>
  match c.args.toList, c.argTypes.toList with
  | [x], [ty] =>
   match uk P ty, E x with
   | .string, .val (.string s) => some (.int (s.size : Int), True)
   | .slice _, .lst _ l => some (.int (l.length : Int), True)
   | .slice _, .osl _ _ _ len => some (.int (len : Int), True)
   | .slice _, .emp => some (.int 0, True)
   | _, _ => none
  | _, _ => none
 | .builtin .cap =>
  match c.args.toList, c.argTypes.toList with
  | [x], [ty] =>
   match uk P ty, E x with
   | .slice _, .emp => some (.int 0, True)
   | _, _ => none
  | _, _ => none
 | .builtin .min =>
  match c.args.toList with
  | [x, y] => minA (E x) (E y)
  | _ => none
 | .builtin .max =>
  match c.args.toList with
  | [x, y] => maxA (E x) (E y)
  | _ => none
 | _ => none
def AV.one : AV → Prop
 | .val v => v.oneCell' = true
 | .lst _ _ | .osl _ _ _ _ | .emp | .ref _ _ | .optr _ _ _ _ | .clo _ _ | .bnd _ _ | .yld _ _ | .omap _ _ => True
 | _ => False
def AV.flat : AV → Prop
 | .agg xs => ∀ x ∈ xs, x.one
 | x => x.one
def zAV (P : Program) (t : TypeId) : Option AV :=
 match agg? P t, tz P t with
 | some true, some (.agg cs) => some (.agg (cs.toList.map cst))
 | some false, some v => if v.oneCell' then some (cst v) else none
 | _, _ => none
def fplaces (P : Program) (t : TypeId) : Option (List (Nat × Nat)) :=
 match P.underlying t with
 | some (.struct fs) => fs.toList.mapM fun f => (tsz P f.type).map fun n => (f.offset, n)
 | some (.array n e) => (tsz P e).map fun s => (List.range n).map fun i => (i * s, s)
 | _ => none
def fillA (pl : List (Nat × Nat)) (E : Operand → AV) : List AV → List (Nat × Operand) → Option (List AV × Prop)
 | zs, [] => some (zs, True)
 | zs, (f, x) :: rest =>
  match pl[f]? with
  | some (o, n) =>
   if (E x).cells.length = n then
    match fillA pl E (zs.take o ++ (E x).cells ++ zs.drop (o + n)) rest with
    | some (ys, p) => some (ys, ((E x).flat ∧ o + n ≤ zs.length) ∧ p)
    | none => none
   else none
  | none => none
def buildA (P : Program) (E : Operand → AV) (t : TypeId) (parts : List (Nat × Operand)) : Option (AV × Prop) :=
 match fplaces P t, zAV P t with
 | some pl, some (.agg zs) =>
  match fillA pl E zs parts with
  | some (xs, p) => some (.agg xs, p)
  | none => none
 | _, _ => none
def mpT (P : Program) (t : TypeId) : Option (TypeId × TypeId) :=
 match uk P t with
 | .map k e => some (k, e)
 | _ => none
theorem uk_map {P : Program} {t k e : TypeId} (h : uk P t = .map k e) : P.underlying t = some (.map k e) := by
 unfold uk at h; split at h <;> simp_all
theorem mpT_some {P : Program} {t k e : TypeId} (h : mpT P t = some (k, e)) : P.underlying t = some (.map k e) := by
 unfold mpT at h
 split at h
 ·rename_i k' e' hu
  simp only [Option.some.injEq, Prod.mk.injEq] at h
  obtain ⟨rfl, rfl⟩ := h
  exact uk_map hu
 ·cases h
def keysOk (P : Program) (kt : TypeId) (k : Value) (l : List (Value × AV)) : Prop := Maps.Keyed P kt ∧ eqKey k k = true ∧ goodK P kt k = true ∧ goodL P kt l = true
def lookA (P : Program) (m : Mem) (ty : TypeId) (x k : AV) (c : Bool) : Option (AV × Prop) :=
 match x, mpT P ty, keyV k with
 | .omap id ver, some (kt, et), some kv =>
  match m[id]? with
  | some ⟨v, .mp l⟩ =>
   if v = ver then
    match findL l kv with
    | some y => some (match c with
     | true => .tup [y, .bool true]
     | false => y, keysOk P kt kv l)
    | none =>
     match zAV P et with
     | some z => some (match c with
      | true => .tup [z, .bool false]
      | false => z, keysOk P kt kv l)
     | none => none
   else none
  | _ => none
 | _, _, _ => none
def ev (P : Program) (E B : Operand → AV) (m : Mem) (op : Op) : Option (AV × Prop) :=
 match op with
 | .move x => some (E x, True)
 | .assign x => some (E x, True)
 | .pick c a b =>
  match E c with
  | .val (.bool g) => pickA B g a b
  | _ => none
 | .binOp op xt x y _ => binA P op xt (E x) (E y)
 | .unOp op _ x => unA op (E x)
 | .convert src dst x => convA P src dst (E x)
 | .extract x i =>
  match E x with
  | .tup xs => some (xs.getD i .any, i < xs.length)
  | _ => none
 | .indexAddr ty x i => idxA P m ty (E x) (E i)
 | .load ty x => loadA P m ty (E x)
 | .fieldAddr ty x f => fieldAddrA P m ty (E x) f
 | .field ty x f => fieldA P ty (E x) f
 | .index ty x i => indexA P ty (E x) (E i)
 | .slice ty x lo hi mx => sliceA P m ty (E x) (lo.map E) (hi.map E) (mx.map E)
 | .call c => callA P E c
 | .makeFunc fn first caps =>
  match fn, first.toList with
  | .func f, [] => some (.clo f (caps.toList.map E), True)
  | .func f, x :: xs =>
   match caps.toList with
   | [] => some (.bnd f ((x :: xs).map E), True)
   | _ => none
  | _, _ => none
 | .build t parts => buildA P E t parts.toList
 | .nilCheck x =>
  match E x with
  | .ref xs j => some (.ref xs j, True)
  | .optr id ver i j => if (m[id]?).map (·.ver) = some ver then some (.optr id ver i j, True) else none
  | .clo f caps => some (.clo f caps, True)
  | _ => none
 | .lookup ty x k c => lookA P m ty (E x) (E k) c
 | _ => none
end Go.Vg
namespace Go.Vg
open Go.RowKit
variable {P : Program} {X : Nat → Prop} {w : World} {ρ : Rho}
theorem R_val {u v : Value} : R X w ρ (.val u) v ↔ v = u := Iff.rfl
theorem toListB (a : ByteArray) : a.toList = a.data.toList := ByteArray.toList_eq a
theorem beq_toList (a b : ByteArray) : (a.toList == b.toList) = decide (a = b) := by
 rw [toListB, toListB]
 by_cases h : a = b
 ·subst h; simp
 ·have : a.data.toList ≠ b.data.toList := fun e => h (by cases a; cases b; simp at e; simp [e])
  rw [decide_eq_false h]; exact beq_false_of_ne this
theorem intBin_run {op : BinOp} {k : IntKind} {a b : Int} {t : TypeId} {x : AV} {p : Prop} (h : intBin op k a b = some (x, p)) (hp : p) :
  ∃ v, (binOp op t (.int k a) (.int k b)).run P w = .ok v w ∧ R X w ρ x v := by
 unfold intBin at h
 split at h <;> simp only [Option.some.injEq, Prod.mk.injEq, reduceCtorEq] at h <;> (try exact h.elim) <;> obtain ⟨rfl, rfl⟩ := h
 ·exact ⟨_, by simp [binOp, Op.intArith], rfl⟩
 ·exact ⟨_, by simp [binOp, Op.intArith], rfl⟩
 ·exact ⟨_, by simp [binOp, Op.intArith], rfl⟩
 ·exact ⟨_, by simp [binOp, Op.intDiv, hp], rfl⟩
 ·exact ⟨_, by simp [binOp, Op.intDiv, hp], rfl⟩
 ·exact ⟨_, by simp only [binOp, ne_eq, not_true_eq_false, if_false, Op.intBits, Sem.run_pure], rfl⟩
 ·exact ⟨_, by simp only [binOp, ne_eq, not_true_eq_false, if_false, Op.intBits, Sem.run_pure], rfl⟩
 ·exact ⟨_, by simp only [binOp, ne_eq, not_true_eq_false, if_false, Op.intBits, Sem.run_pure], rfl⟩
 ·exact ⟨.bool (a == b), by simp [binOp, Op.intCmp], by rw [R_val]; rfl⟩
 ·exact ⟨.bool (a != b), by simp [binOp, Op.intCmp], by rw [R_val]; rfl⟩
 ·exact ⟨_, by simp only [binOp, ne_eq, not_true_eq_false, if_false, Op.intCmp, Sem.run_pure], rfl⟩
 ·exact ⟨_, by simp only [binOp, ne_eq, not_true_eq_false, if_false, Op.intCmp, Sem.run_pure], rfl⟩
 ·exact ⟨_, by simp only [binOp, ne_eq, not_true_eq_false, if_false, Op.intCmp, Sem.run_pure], rfl⟩
 ·exact ⟨_, by simp only [binOp, ne_eq, not_true_eq_false, if_false, Op.intCmp, Sem.run_pure], rfl⟩
theorem shBin_run {op : BinOp} {k k' : IntKind} {a b : Int} {t : TypeId} {x : AV} {p : Prop} (h : shBin op k a b = some (x, p)) (hp : p) :
  ∃ v, (binOp op t (.int k a) (.int k' b)).run P w = .ok v w ∧ R X w ρ x v := by
 unfold shBin at h
 split at h <;> simp only [Option.some.injEq, Prod.mk.injEq, reduceCtorEq] at h <;> (try exact h.elim) <;> obtain ⟨rfl, rfl⟩ := h
 all_goals exact ⟨_, by simp [binOp, Op.shift, Int.not_lt.2 hp], rfl⟩
theorem strBin_run {op : BinOp} {a b : ByteArray} {t : TypeId} {x : AV} {p : Prop} (h : strBin op a b = some (x, p)) (hp : p) :
  ∃ v, (binOp op t (.string a) (.string b)).run P w = .ok v w ∧ R X w ρ x v := by
 unfold strBin at h
 split at h <;> simp only [Option.some.injEq, Prod.mk.injEq, reduceCtorEq] at h <;> (try exact h.elim) <;> obtain ⟨rfl, rfl⟩ := h
 ·refine ⟨_, ?_, rfl⟩
  have : ¬ (((a.size + b.size : Nat) : Int) > IntKind.i64.max) := by simp [IntKind.max, IntKind.signed, IntKind.bits]; omega
  simp only [binOp, Op.stringOp, this, if_false, Sem.run_pure]
 ·exact ⟨.bool (a.toList == b.toList), by simp only [binOp, Op.stringOp, Sem.run_pure], by rw [R_val, beq_toList]⟩
 ·exact ⟨.bool (!(a.toList == b.toList)), by simp only [binOp, Op.stringOp, Sem.run_pure], by rw [R_val, beq_toList]⟩
theorem run_eqGuard_val {op : BinOp} {t : TypeId} {x y : Operand} {a b : Value} (h1 : a ≠ .nilIface) (h2 : ∀ cs, a ≠ .agg cs) : (eqGuard op t x y a b).run P w = .ok () w := by
 unfold eqGuard
 cases op <;> simp only [Bool.not_true, Bool.false_eq_true, if_false, Bool.not_false, if_true] <;> first | rfl | (cases a <;> simp_all)
theorem run_equal_bool {t : TypeId} (h : P.underlying t = some .bool) {a b : Bool} : (Op.equal t (.bool a) (.bool b)).run P w = .ok (a == b) w := by
 unfold Op.equal Op.maxDepth
 exact run_equalIn_bool' w 9999 t a b h
def eqU1 (u : Nat) (x y : Value) : Option Bool :=
 match u, x, y with
 | 0, .int k a, .int k' b => if k = k' then some (decide (a = b)) else none
 | 1, .bool a, .bool b => some (decide (a = b))
 | 2, .string a, .string b => some (decide (a = b))
 | _, _, _ => none
def eqU : List Nat → List Value → List Value → Option Bool
 | [], [], [] => some true
 | u :: us, x :: xs, y :: ys =>
  match eqU1 u x y, eqU us xs ys with
  | some a, some b => some (a && b)
  | _, _ => none
 | _, _, _ => none
theorem eqU_cons {u : Nat} {us : List Nat} {xs ys : List Value} {r : Bool} (h : eqU (u :: us) xs ys = some r) : ∃ x y xs' ys' r1 r2, xs = x :: xs' ∧ ys = y :: ys' ∧ eqU1 u x y = some r1 ∧ eqU us xs' ys' = some r2 ∧ r = (r1 && r2) := by
 cases xs with
 | nil => cases ys <;> simp [eqU] at h
 | cons x xs =>
  cases ys with
  | nil => simp [eqU] at h
  | cons y ys =>
   simp only [eqU] at h
   split at h
   ·rename_i a b h1 h2
    simp only [Option.some.injEq] at h
    exact ⟨x, y, xs, ys, a, b, rfl, rfl, h1, h2, h.symm⟩
   ·cases h
theorem eqU_nil {xs ys : List Value} {r : Bool} (h : eqU [] xs ys = some r) : xs = [] ∧ ys = [] ∧ r = true := by
 cases xs <;> cases ys <;> simp [eqU] at h
 exact ⟨rfl, rfl, h⟩
theorem eqU_app : ∀ {us vs : List Nat} {xs ys : List Value} {r : Bool}, eqU (us ++ vs) xs ys = some r → ∃ r1 r2, eqU us (xs.take us.length) (ys.take us.length) = some r1 ∧ eqU vs (xs.drop us.length) (ys.drop us.length) = some r2 ∧ r = (r1 && r2)
 | [], vs, xs, ys, r, h => ⟨true, r, by simp [eqU], by simpa using h, by simp⟩
 | u :: us, vs, xs, ys, r, h => by
  obtain ⟨x, y, xs', ys', r1, r2, rfl, rfl, h1, h2, rfl⟩ := eqU_cons h
  obtain ⟨q1, q2, h3, h4, rfl⟩ := eqU_app h2
  refine ⟨r1 && q1, q2, ?_, by simpa using h4, by rw [Bool.and_assoc]⟩
  simp only [List.length_cons, List.take_succ_cons, eqU, h1, h3]
def EqU (P : Program) (d : Nat) (t : TypeId) (us : List Nat) : Prop :=
 ∀ (w : World) (k : Nat), (agg? P t = some true → ∀ (xs ys : Array Value) (r : Bool), eqU us xs.toList ys.toList = some r → (Op.equalIn (k + d) t (.agg xs) (.agg ys)).run P w = .ok r w) ∧
  (agg? P t = some false → ∃ u, us = [u] ∧ ∀ (x y : Value) (r : Bool), eqU1 u x y = some r → (Op.equalIn (k + d) t x y).run P w = .ok r w)
theorem EqU.atPart {d : Nat} {t : TypeId} {us : List Nat} (h : EqU P d t us) {n : Nat} (hn : tsz P t = some n) (hl : us.length = n) {bb : Bool} (ha : agg? P t = some bb) (w : World) (k : Nat) {xs ys : Array Value} {off : Nat} {r : Bool} (hr : eqU us ((xs.toList.drop off).take us.length) ((ys.toList.drop off).take us.length) = some r) :
  ∃ a b, (part t xs off).run P w = .ok a w ∧ (part t ys off).run P w = .ok b w ∧ (Op.equalIn (k + d) t a b).run P w = .ok r w := by
 have hag := run_isAgg ha w
 have hsz := run_sizeOf hn w
 cases bb with
 | true =>
  refine ⟨.agg (xs.extract off (off + n)), .agg (ys.extract off (off + n)), ?_, ?_, ?_⟩
  ·unfold Go.part; simp only [Sem.run_bind, hag, Result.andThen_ok, if_true, hsz, Sem.run_pure]
  ·unfold Go.part; simp only [Sem.run_bind, hag, Result.andThen_ok, if_true, hsz, Sem.run_pure]
  ·refine (h w k).1 ha _ _ r ?_
   have e : ∀ zs : Array Value, (zs.extract off (off + n)).toList = (zs.toList.drop off).take us.length := fun zs => by
    rw [Array.toList_extract, List.extract_eq_take_drop, hl]; simp
   rw [e, e]; exact hr
 | false =>
  obtain ⟨u, rfl, h2⟩ := (h w k).2 ha
  obtain ⟨x, y, xs', ys', r1, r2, e1, e2, h3, h4, rfl⟩ := eqU_cons hr
  have g : ∀ {zs : Array Value} {z : Value} {zs' : List Value}, (zs.toList.drop off).take [u].length = z :: zs' → (part t zs off).run P w = .ok z w := by
   intro zs z zs' e
   have h0 : zs.toList[off]? = some z := by
    have : ((zs.toList.drop off).take [u].length)[0]? = some z := by rw [e]; rfl
    simpa [List.getElem?_take] using this
   have h1 : zs[off]? = some z := by simpa using h0
   unfold Go.part
   simp only [Sem.run_bind, hag, Result.andThen_ok, Bool.false_eq_true, if_false, h1, Sem.run_pure]
  refine ⟨x, y, g e1, g e2, ?_⟩
  obtain ⟨_, _, rfl⟩ := eqU_nil h4
  simpa using h2 x y r1 h3
theorem tsz_cells {t : TypeId} {us : List Nat} (h : agg? P t ≠ none) (hl : us.length = P.cellsOf t) : tsz P t = some us.length := by
 unfold agg? at h
 cases hu : P.underlying t with
 | none => rw [hu] at h; exact absurd rfl h
 | some d =>
  obtain ⟨i, hi⟩ := info_of_underlying hu
  unfold tsz; unfold Program.cellsOf at hl
  rw [hi] at hl ⊢
  simp at hl ⊢
  omega
theorem agg_of_flat {d : Nat} {t : TypeId} {us : List Nat} (h : flatU P d t = some us) : ∃ b, agg? P t = some b := by
 cases d with
 | zero => cases h
 | succ d =>
  unfold flatU at h
  unfold agg?
  cases hu : P.underlying t with
  | none => rw [hu] at h; cases h
  | some k => cases k <;> exact ⟨_, rfl⟩
theorem eqFields_flat {d : Nat} (IH : ∀ t us, flatU P d t = some us → EqU P d t us) (w : World) (k : Nat) {xs ys : Array Value} : ∀ {fs : List Field} {off : Nat} {us : List Nat} {r : Bool}, flatF P (flatU P d) fs off = some us → eqU us (xs.toList.drop off) (ys.toList.drop off) = some r → (Op.eqFields (k + d) xs ys fs).run P w = .ok r w
 | [], off, us, r, h, hr => by
  simp only [flatF, Option.some.injEq] at h
  subst h
  obtain ⟨_, _, rfl⟩ := eqU_nil hr
  simp [Op.eqFields]
 | f :: fs, off, us, r, h, hr => by
  unfold flatF at h
  split at h
  ·rename_i hf
   obtain ⟨hf1, hf2⟩ := hf
   split at h
   ·rename_i us1 h1
    split at h
    ·rename_i hl
     split at h
     ·rename_i vs h2
      simp only [Option.some.injEq] at h
      subst h
      obtain ⟨r1, r2, q1, q2, rfl⟩ := eqU_app hr
      obtain ⟨bb, hbb⟩ := agg_of_flat h1
      obtain ⟨a, b, p1, p2, p3⟩ := (IH _ _ h1).atPart (tsz_cells (by rw [hbb]; simp) hl) rfl hbb w k (off := f.offset) (by rw [hf2]; exact q1)
      have ih := eqFields_flat IH w k (xs := xs) (ys := ys) h2 (r := r2) (by simpa [List.drop_drop, Nat.add_comm] using q2)
      simp only [Op.eqFields, hf1, ne_eq, not_false_eq_true, if_true, Sem.run_bind, p1, p2, p3, Result.andThen_ok]
      cases r1
      ·simp
      ·simpa using ih
     ·cases h
    ·cases h
   ·cases h
  ·cases h
theorem eqItems_flat {d : Nat} {e : TypeId} {us : List Nat} (IH : EqU P d e us) (hu : flatU P d e = some us) (hl : us.length = P.cellsOf e) (w : World) (k : Nat) {xs ys : Array Value} : ∀ {m s : Nat} {r : Bool}, eqU (List.replicate m us).flatten (xs.toList.drop (s * us.length)) (ys.toList.drop (s * us.length)) = some r → (Op.eqItems (k + d) e (P.cellsOf e) xs ys (List.range' s m)).run P w = .ok r w
 | 0, s, r, hr => by
  simp only [List.replicate_zero, List.flatten_nil] at hr
  obtain ⟨_, _, rfl⟩ := eqU_nil hr
  simp [Op.eqItems]
 | m + 1, s, r, hr => by
  rw [List.replicate_succ, List.flatten_cons] at hr
  obtain ⟨r1, r2, q1, q2, rfl⟩ := eqU_app hr
  obtain ⟨bb, hbb⟩ := agg_of_flat hu
  obtain ⟨a, b, p1, p2, p3⟩ := IH.atPart (tsz_cells (by rw [hbb]; simp) hl) rfl hbb w k q1
  have ih := eqItems_flat IH hu hl w k (xs := xs) (ys := ys) (m := m) (s := s + 1) (r := r2) (by rw [Nat.add_mul, Nat.one_mul]; simpa [List.drop_drop, Nat.add_comm] using q2)
  rw [hl] at p1 p2
  simp only [List.range'_succ, Op.eqItems, Sem.run_bind, p1, p2, p3, Result.andThen_ok]
  cases r1
  ·simp
  ·simpa using ih
theorem eqU_run : ∀ (d : Nat) (t : TypeId) (us : List Nat), flatU P d t = some us → EqU P d t us
 | 0, _, _, h => by cases h
 | d + 1, t, us, h => by
  intro w k
  have h0 := h
  unfold flatU at h
  cases hu : P.underlying t with
  | none => rw [hu] at h; cases h
  | some kd =>
   rw [hu] at h
   have hag : ∀ b, agg? P t = some b → (match kd with
     | .struct _ => true
     | .array _ _ => true
     | _ => false) = b := fun b hb => by unfold agg? at hb; rw [hu] at hb; cases kd <;> simpa using hb
   cases kd with
   | int q =>
    simp only [Option.some.injEq] at h; subst h
    refine ⟨fun ha => (by have := hag true ha; cases this), fun _ => ⟨0, rfl, fun x y r hr => ?_⟩⟩
    cases x <;> cases y <;> simp only [eqU1, reduceCtorEq] at hr
    split at hr
    ·rename_i hk
     simp only [Option.some.injEq] at hr
     subst hk hr
     rw [show k + (d + 1) = (k + d) + 1 by omega, run_equalIn_int w (k + d) t _ q _ _ hu]
     rfl
    ·cases hr
   | bool =>
    simp only [Option.some.injEq] at h; subst h
    refine ⟨fun ha => (by have := hag true ha; cases this), fun _ => ⟨1, rfl, fun x y r hr => ?_⟩⟩
    cases x <;> cases y <;> simp only [eqU1, reduceCtorEq, Option.some.injEq] at hr
    subst hr
    rw [show k + (d + 1) = (k + d) + 1 by omega, run_equalIn_bool' w (k + d) t _ _ hu]
    rfl
   | string =>
    simp only [Option.some.injEq] at h; subst h
    refine ⟨fun ha => (by have := hag true ha; cases this), fun _ => ⟨2, rfl, fun x y r hr => ?_⟩⟩
    cases x <;> cases y <;> simp only [eqU1, reduceCtorEq, Option.some.injEq] at hr
    subst hr
    rw [show k + (d + 1) = (k + d) + 1 by omega, run_equalIn_string w (k + d) t _ _ hu, beq_toList]
   | array n e =>
    simp only at h
    split at h
    ·rename_i us1 i h1 hi
     split at h
     ·rename_i hl
      simp only [Option.some.injEq] at h; subst h
      refine ⟨fun _ xs ys r hr => ?_, fun ha => (by have := hag false ha; cases this)⟩
      rw [show k + (d + 1) = (k + d) + 1 by omega, run_equalIn_array w (k + d) xs ys hu hi, List.range_eq_range']
      exact eqItems_flat (eqU_run d e us1 h1) h1 hl w k (by simpa using hr)
     ·cases h
    ·cases h
   | struct fs =>
    simp only at h
    split at h
    ·cases h
    ·rename_i hp
     refine ⟨fun _ xs ys r hr => ?_, fun ha => (by have := hag false ha; cases this)⟩
     have hfs : P.fieldsOf t = fs := by unfold Program.fieldsOf; rw [hu]
     rw [show k + (d + 1) = (k + d) + 1 by omega, run_equalIn_struct w (k + d) t xs ys (by rw [hfs]; exact hu) (by simpa using hp), hfs]
     exact eqFields_flat (fun t us h => eqU_run d t us h) w k h (by simpa using hr)
   | _ => cases h
theorem eqA1_vals {u : Nat} {x y : AV} {v z : Value} {r : Bool} (h : eqA1 u x y = some r) (h1 : R X w ρ x v) (h2 : R X w ρ y z) : eqU1 u v z = some r := by
 unfold eqA1 at h
 split at h
 ·rw [R_val] at h1 h2; subst h1 h2; exact h
 ·rw [R_val] at h1 h2; subst h1 h2; exact h
 ·rw [R_val] at h1 h2; subst h1 h2; exact h
 ·cases h
theorem eqA_vals : ∀ {us : List Nat} {xs ys : List AV} {vs zs : List Value} {r : Bool}, eqA us xs ys = some r → Rvals X w ρ xs vs → Rvals X w ρ ys zs → eqU us vs zs = some r
 | [], [], [], _, _, _, h, h1, h2 => by cases h1; cases h2; exact h
 | [], [], _ :: _, _, _, _, h, _, _ => by cases h
 | [], _ :: _, _, _, _, _, h, _, _ => by cases h
 | _ :: _, [], _, _, _, _, h, _, _ => by cases h
 | _ :: _, _ :: _, [], _, _, _, h, _, _ => by cases h
 | u :: us, x :: xs, y :: ys, _, _, r, h, ⟨v, vs', e1, h1, h1'⟩, ⟨z, zs', e2, h2, h2'⟩ => by
  subst e1 e2
  simp only [eqA] at h
  split at h
  ·rename_i a b q1 q2
   simp only [eqU, eqA1_vals q1 h1 h2, eqA_vals q2 h1' h2']
   exact h
  ·cases h
theorem aggBin_run {op : BinOp} {t : TypeId} {xs ys : List AV} {ox oy : Operand} {vx vy : Value} {z : AV} {p : Prop} (hx : R X w ρ (.agg xs) vx) (hy : R X w ρ (.agg ys) vy) (h : aggBin P op t xs ys = some (z, p)) :
  ∃ v, (do eqGuard op t ox oy vx vy; binOp op t vx vy : Sem Value).run P w = .ok v w ∧ R X w ρ z v := by
 obtain ⟨vs, rfl, hvs⟩ := hx
 obtain ⟨us', rfl, hus⟩ := hy
 unfold aggBin at h
 split at h
 ·rename_i us hc
  unfold cmpT at hc
  split at hc
  ·rename_i hag hgd
   have hrun : ∀ r, eqA us xs ys = some r → (Op.equalIn 10000 t (.agg vs.toArray) (.agg us'.toArray)).run P w = .ok r w := fun r hr => by
    have := ((eqU_run 8 t us hc) w 9992).1 hag vs.toArray us'.toArray r (by simpa using eqA_vals hr hvs hus)
    exact this
   have hg := run_eqGuard_agg (P := P) w op t ox oy vs.toArray us'.toArray hgd
   split at h
   ·rename_i r hr
    simp only [Option.some.injEq, Prod.mk.injEq] at h
    obtain ⟨rfl, rfl⟩ := h
    refine ⟨.bool r, ?_, rfl⟩
    simp only [Sem.run_bind, hg, Result.andThen_ok, run_eql_struct, hrun r hr]
   ·rename_i r hr
    simp only [Option.some.injEq, Prod.mk.injEq] at h
    obtain ⟨rfl, rfl⟩ := h
    refine ⟨.bool (!r), ?_, rfl⟩
    simp only [Sem.run_bind, hg, Result.andThen_ok, run_neq_struct, hrun r hr]
   ·cases h
  ·cases hc
 ·cases h
theorem binA_run {op : BinOp} {t : TypeId} {x y : AV} {ox oy : Operand} {vx vy : Value} {z : AV} {p : Prop} (hx : R X w ρ x vx) (hy : R X w ρ y vy) (h : binA P op t x y = some (z, p)) (hp : p) :
  ∃ v, (do eqGuard op t ox oy vx vy; binOp op t vx vy : Sem Value).run P w = .ok v w ∧ R X w ρ z v := by
 unfold binA at h
 split at h
 ·rename_i k a k' b
  rw [R_val] at hx hy
  subst hx hy
  have hg := run_eqGuard_val (P := P) (w := w) (op := op) (t := t) (x := ox) (y := oy) (a := .int k a) (b := .int k' b) (by simp) (by simp)
  simp only [Sem.run_bind, hg, Result.andThen_ok]
  split at h
  ·exact shBin_run h hp
  ·exact shBin_run h hp
  ·split at h
   ·rename_i hk; subst hk; exact intBin_run h hp
   ·cases h
 ·rename_i a b
  rw [R_val] at hx hy
  subst hx hy
  have hg := run_eqGuard_val (P := P) (w := w) (op := op) (t := t) (x := ox) (y := oy) (a := .string a) (b := .string b) (by simp) (by simp)
  simp only [Sem.run_bind, hg, Result.andThen_ok]
  exact strBin_run h hp
 ·rename_i a b
  rw [R_val] at hx hy
  subst hx hy
  have hg := run_eqGuard_val (P := P) (w := w) (op := op) (t := t) (x := ox) (y := oy) (a := .bool a) (b := .bool b) (by simp) (by simp)
  simp only [Sem.run_bind, hg, Result.andThen_ok]
  split at h
  ·rename_i hu
   simp only [Option.some.injEq, Prod.mk.injEq] at h; obtain ⟨rfl, rfl⟩ := h
   have hu' := uk_bool hu
   refine ⟨.bool (a == b), ?_, ?_⟩
   ·simp only [binOp, Sem.run_bind, run_equal_bool hu', Result.andThen_ok, Sem.run_pure]
   ·rw [R_val]; rfl
  ·rename_i hu
   simp only [Option.some.injEq, Prod.mk.injEq] at h; obtain ⟨rfl, rfl⟩ := h
   have hu' := uk_bool hu
   refine ⟨.bool (!(a == b)), ?_, ?_⟩
   ·simp only [binOp, Sem.run_bind, run_equal_bool hu', Result.andThen_ok, Sem.run_pure]
   ·rw [R_val]; rfl
  ·cases h
 ·exact aggBin_run hx hy h
 ·cases h
theorem unA_run {op : UnOp} {x : AV} {vx : Value} {z : AV} {p : Prop} (hx : R X w ρ x vx) (h : unA op x = some (z, p)) :
  ∃ v, (Op.unary op vx).run P w = .ok v w ∧ R X w ρ z v := by
 unfold unA at h
 split at h <;> simp only [Option.some.injEq, Prod.mk.injEq, reduceCtorEq] at h <;> (try exact h.elim) <;> obtain ⟨rfl, rfl⟩ := h <;> rw [R_val] at hx <;> subst hx
 ·exact ⟨_, by simp [Op.unary, Op.intArith], rfl⟩
 ·exact ⟨_, by simp [Op.unary], rfl⟩
theorem convA_run {src dst : TypeId} {x : AV} {vx : Value} {z : AV} {p : Prop} (hx : R X w ρ x vx) (h : convA P src dst x = some (z, p)) :
  ∃ v, (convert src dst vx).run P w = .ok v w ∧ R X w ρ z v := by
 unfold convA at h
 split at h <;> simp only [Option.some.injEq, Prod.mk.injEq, reduceCtorEq] at h <;> (try exact h.elim) <;> obtain ⟨rfl, rfl⟩ := h <;> rw [R_val] at hx <;> subst hx
 ·rename_i h1 h2
  exact ⟨_, by simp [convert, underlying, uk_int h1, uk_int h2, Conv.intToInt], rfl⟩
 ·rename_i h1 h2
  exact ⟨_, by simp [convert, underlying, uk_string h1, uk_string h2], rfl⟩
theorem unopt_rel' {x y : AV} {v : Value} {g : Bool} (hr : R X w ρ x v) (hu : unopt x = (g, y)) (hg : g = true) : R X w ρ y v := by
 cases x <;> simp only [unopt, Prod.mk.injEq] at hu <;> obtain ⟨h1, h2⟩ := hu
 case opt g0 x0 => subst h1 h2; exact hr.1 hg
 all_goals (subst h2; exact hr)
theorem pickA_rel {B : Operand → AV} {act : Act} {g : Bool} {a b : Operand} {z : AV} {p : Prop} (ha : R X w ρ (B a) (act.eval a)) (hb : R X w ρ (B b) (act.eval b)) (h : pickA B g a b = some (z, p)) (hp : p) :
  R X w ρ z (if g then act.eval a else act.eval b) := by
 unfold pickA at h
 split at h
 ·split at h <;> simp only [Option.some.injEq, Prod.mk.injEq, reduceCtorEq] at h
  rename_i ga x hu
  obtain ⟨rfl, rfl⟩ := h
  cases g with
  | true =>
   have : R X w ρ (.val (.bool x)) _ := unopt_rel' ha hu (hp rfl)
   rw [R_val] at this ⊢
   simp [this]
  | false => rw [R_val]; simp [Act.eval]
 ·split at h
  ·split at h <;> simp only [Option.some.injEq, Prod.mk.injEq, reduceCtorEq] at h
   rename_i gb y hu
   obtain ⟨rfl, rfl⟩ := h
   cases g with
   | false =>
    have : R X w ρ (.val (.bool y)) _ := unopt_rel' hb hu (hp rfl)
    rw [R_val] at this ⊢
    simp [this]
   | true => rw [R_val]; simp [Act.eval]
  ·cases h
end Go.Vg
