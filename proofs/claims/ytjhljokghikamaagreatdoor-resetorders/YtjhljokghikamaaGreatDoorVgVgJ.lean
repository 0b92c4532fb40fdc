/- A part of the proof of ResetOrders: contracts of functions, with plain laws that they need. -/
import Derived.Test.YtjhljokghikamaaGreatDoorVgDmJ
set_option linter.all false
namespace Go.Vg
open Go.RowKit
variable {P : Program} {X : Nat → Prop} {w : World} {ρ : Rho}
def stE (P : Program) (ty : TypeId) (a x : AV) (e0 : Ent) : Option (Nat × Ent × AV × Prop) :=
  match a with
  | .optr id ver i j =>
    match e0 with
    | ⟨v, .row sz l⟩ =>
      if v = ver ∧ tsz P ty = some x.cells.length then
        (if sz = 1 then some (id, ⟨ver, .row sz (l.set i x)⟩, .any, i < l.length ∧ j = 0 ∧ x.one)
         else match l.getD i .any with
          | .agg xs => some (id, ⟨ver, .row sz (l.set i (updE (.agg xs) j x))⟩, .any, i < l.length ∧ j + x.cells.length ≤ sz ∧ x.flat)
          | _ => none)
      else none
    | _ => none
  | _ => none
theorem stE_ok {ty : TypeId} {a x y : AV} {e0 e1 : Ent} {id : Nat} {p : Prop} {m : Mem} (h : stE P ty a x e0 = some (id, e1, y, p)) (hid : m[id]? = some e0) : storeA P m ty a x = some (m.set id e1, y, p) := by
 unfold stE at h
 split at h <;> (try (cases h; done))
 rename_i id' ver i j
 split at h <;> (try (cases h; done))
 rename_i v sz l
 split at h <;> (try (cases h; done))
 rename_i hv
 have hid' : id' = id := by
  split at h
  ·simp only [Option.some.injEq, Prod.mk.injEq] at h; exact h.1
  ·split at h
   ·simp only [Option.some.injEq, Prod.mk.injEq] at h; exact h.1
   ·cases h
 subst hid'
 unfold storeA
 simp only [hid]
 rw [if_pos hv]
 split at h
 ·rename_i h1
  rw [if_pos h1]
  simp only [Option.some.injEq, Prod.mk.injEq, true_and] at h
  obtain ⟨rfl, rfl, rfl⟩ := h
  rfl
 ·rename_i h1
  rw [if_neg h1]
  split at h
  ·rename_i xs hx
   rw [hx]
   simp only [Option.some.injEq, Prod.mk.injEq, true_and] at h
   obtain ⟨rfl, rfl, rfl⟩ := h
   rfl
  ·cases h
def apE (P : Program) (t u : TypeId) (d x : AV) (e0 : Ent) : Option (Nat × Ent × AV × Prop) :=
 match uk P t, uk P u, x with
 | .slice e, .slice _, .lst sz' new =>
  match tsz P e, tby P e with
  | some sz, some by_ =>
   if elB P e = true then
    match d, e0 with
    | .osl id ver off len, ⟨v, .row sz0 l⟩ =>
     if v = ver ∧ sz0 = sz then
      some (id, ⟨ver + 1, .row sz ((l.drop off).take len ++ new)⟩, .osl id (ver + 1) 0 (len + new.length),
       off + len ≤ l.length ∧ (len + new.length) * by_ ≤ 140737488355328 ∧ len + new.length ≤ 9223372036854775807 ∧ (new ≠ [] → sz' = sz))
     else none
    | _, _ => none
   else none
  | _, _ => none
 | _, _, _ => none
theorem apE_ok {t u : TypeId} {d x y : AV} {e0 e1 : Ent} {id : Nat} {p : Prop} {m : Mem} (h : apE P t u d x e0 = some (id, e1, y, p)) (hp : p) (hid : m[id]? = some e0) : ∃ q, appA P m t u d x = some (m.set id e1, y, q) ∧ q := by
 unfold apE at h
 split at h <;> (try (cases h; done))
 rename_i e e' sz' new hut huu
 split at h <;> (try (cases h; done))
 rename_i sz by_ hsz hby
 split at h <;> (try (cases h; done))
 rename_i hel
 split at h <;> (try (cases h; done))
 rename_i id' ver off len v sz0 l
 split at h <;> (try (cases h; done))
 rename_i hv
 simp only [Option.some.injEq, Prod.mk.injEq] at h
 obtain ⟨rfl, rfl, rfl, rfl⟩ := h
 obtain ⟨p1, p2, p3, p4⟩ := hp
 unfold appA appA0
 simp only [hut, huu, hsz, hby, rowOf, hid]
 rw [if_pos hel, if_pos hv]
 exact ⟨_, rfl, p1, p2, p3, trivial, trivial, p4⟩
def evE (P : Program) (E : Operand → AV) (e0 : Ent) (op : Op) : Option (Nat × Ent × AV × Prop) :=
 match op with
 | .store ty a v => stE P ty (E a) (E v) e0
 | .call c =>
  match c.callee with
  | .builtin .append =>
   match c.args.toList, c.argTypes.toList with
   | [d, x], [t, u] => apE P t u (E d) (E x) e0
   | _, _ => none
  | _ => none
 | _ => none
theorem evE_ok {E : Operand → AV} {op : Op} {x : AV} {e0 e1 : Ent} {id : Nat} {p : Prop} {m : Mem} (h : evE P E e0 op = some (id, e1, x, p)) (hp : p) (hid : m[id]? = some e0) : ∃ q, effA P E m op = some (m.set id e1, x, q) ∧ q := by
 unfold evE at h
 split at h <;> (try (cases h; done))
 ·exact ⟨p, by unfold effA; exact stE_ok h hid, hp⟩
 ·rename_i c
  split at h <;> (try (cases h; done))
  rename_i hc
  split at h <;> (try (cases h; done))
  rename_i d y t u hargs htys
  obtain ⟨q, h1, h2⟩ := apE_ok h hp hid
  exact ⟨q, by unfold effA; simp only [hc, hargs, htys]; exact h1, h2⟩
def layG : List (Nat × Nat × Ent) → List Bool → Mem → Mem
 | e :: es, b :: bs, M => layG es bs (if b = true then M.set e.2.1 e.2.2 else M)
 | _, _, M => M
def trues (l : List (Nat × Nat × Ent)) : List Bool := l.map fun _ => true
def falses (l : List (Nat × Nat × Ent)) : List Bool := l.map fun _ => false
theorem layG_len : ∀ (es : List (Nat × Nat × Ent)) (bs : List Bool) (M : Mem), (layG es bs M).length = M.length
 | [], _, _ => by simp [layG]
 | _ :: _, [], _ => by simp [layG]
 | e :: es, b :: bs, M => by
  simp only [layG]
  rw [layG_len es bs]
  split <;> simp
theorem layG_get {j : Nat} : ∀ (es : List (Nat × Nat × Ent)) (bs bs' : List Bool) (M M' : Mem), bs.length = es.length → bs'.length = es.length → M.length = M'.length → M[j]? = M'[j]? → (∀ (i : Nat) (e : Nat × Nat × Ent), es[i]? = some e → e.2.1 = j → bs[i]? = bs'[i]?) → (layG es bs M)[j]? = (layG es bs' M')[j]?
 | [], bs, bs', M, M', _, _, _, h, _ => by simpa [layG] using h
 | e :: es, [], _, _, _, h, _, _, _, _ => by simp at h
 | e :: es, _ :: _, [], _, _, _, h, _, _, _ => by simp at h
 | e :: es, b :: bs, b' :: bs', M, M', h1, h2, h3, h4, h5 => by
  simp only [layG]
  refine layG_get es bs bs' _ _ (by simpa using h1) (by simpa using h2) (by split <;> split <;> simp [h3]) ?_ (fun i e' hi he => by simpa using h5 (i + 1) e' (by simpa using hi) he)
  by_cases he : e.2.1 = j
  ·have hb : b = b' := by simpa using h5 0 e rfl he
   subst hb
   split
   ·simp only [List.getElem?_set, he, if_true, h3]
   ·exact h4
  ·have hs : ∀ (c : Bool) (N : Mem), (if c = true then N.set e.2.1 e.2.2 else N)[j]? = N[j]? := fun c N => by
    split
    ·rw [List.getElem?_set_ne he]
    ·rfl
   rw [hs, hs]; exact h4
theorem layG_app : ∀ (a b : List (Nat × Nat × Ent)) (x y : List Bool) (M : Mem), x.length = a.length → layG (a ++ b) (x ++ y) M = layG b y (layG a x M)
 | [], b, [], y, M, _ => by simp [layG]
 | [], b, _ :: _, y, M, h => by simp at h
 | e :: a, b, [], y, M, h => by simp at h
 | e :: a, b, c :: x, y, M, h => by
  simp only [List.cons_append, layG]
  exact layG_app a b x y _ (by simpa using h)
theorem layG_falses : ∀ (l : List (Nat × Nat × Ent)) (M : Mem), layG l (falses l) M = M
 | [], M => by simp [layG, falses]
 | e :: l, M => by
  have := layG_falses l M
  unfold falses at this ⊢
  simp only [List.map_cons, layG]
  simpa using this
theorem trues_len (l : List (Nat × Nat × Ent)) : (trues l).length = l.length := by simp [trues]
theorem setB_get {es : List Nat} {k : Nat} {bits : List Bool} (hl : bits.length = es.length) {i e : Nat} (he : es[i]? = some e) : (setB es k bits)[i]? = if e = k then some true else bits[i]? := by
 have hi : i < es.length := (List.getElem?_eq_some_iff.1 he).1
 have hib : i < bits.length := by omega
 unfold setB
 rw [List.getElem?_map, List.getElem?_eq_getElem hib]
 have hz : (es.zip bits)[i]? = some (e, bits[i]) := by
  rw [List.getElem?_zip_eq_some]
  exact ⟨he, List.getElem?_eq_getElem hib⟩
 rw [hz]
 by_cases h : e = k <;> simp [h]
theorem setB_len {es : List Nat} {k : Nat} {bits : List Bool} (hl : bits.length = es.length) : (setB es k bits).length = es.length := by
 unfold setB; simp; omega
theorem cons_get {ops : List Oper} {es : List Nat} {k : Nat} {bits : List Bool} (h : bits ∈ consL ops es k) : bits.length = es.length ∧ ∀ (i e : Nat), es[i]? = some e → (e = k → bits[i]? = some false) ∧ (e ≠ k → before ops e k = true → bits[i]? = some true) ∧ (e ≠ k → before ops e k = false → before ops k e = true → bits[i]? = some false) := by
 obtain ⟨h1, h2⟩ := List.mem_filter.1 h
 have hl := allB_len h1
 refine ⟨hl, fun i e he => ?_⟩
 have hi : i < es.length := (List.getElem?_eq_some_iff.1 he).1
 have hib : i < bits.length := by omega
 have hz : (e, bits[i]) ∈ es.zip bits := by
  refine List.mem_of_getElem? (i := i) ?_
  rw [List.getElem?_zip_eq_some]
  exact ⟨he, List.getElem?_eq_getElem hib⟩
 unfold consB at h2
 have h3 := List.all_eq_true.1 h2 _ hz
 simp only [Bool.and_eq_true] at h3
 have h4 := h3.1
 rw [List.getElem?_eq_getElem hib]
 refine ⟨fun hk => ?_, fun hk hb => ?_, fun hk hb1 hb2 => ?_⟩
 ·rw [if_pos hk] at h4; simpa using h4
 ·rw [if_neg hk, if_pos hb] at h4; rw [h4]
 ·rw [if_neg hk, hb1, hb2] at h4; simpa using h4
def pairsB (f : Nat × Nat → Nat × Nat → Bool) : List (Nat × Nat) → Bool
 | [] => true
 | a :: l => l.all (f a) && pairsB f l
def okG (ops : List Oper) (ev : List (Nat × Nat)) (sq : List Nat) : Bool :=
 pairsB (fun a b => !(a.2 == b.2) || (before ops a.1 b.1 && !before ops b.1 a.1)) ev &&
 sq.all fun s => ev.all fun e => if Nat.blt e.1 s then before ops e.1 s else before ops s e.1 && !before ops e.1 s
theorem pairsB_get {f : Nat × Nat → Nat × Nat → Bool} : ∀ {l : List (Nat × Nat)}, pairsB f l = true → ∀ (i i' : Nat) (a b : Nat × Nat), i < i' → l[i]? = some a → l[i']? = some b → f a b = true
 | [], _, i, i', a, b, _, h, _ => by simp at h
 | x :: l, h, i, i', a, b, hi, ha, hb => by
  simp only [pairsB, Bool.and_eq_true] at h
  cases i' with
  | zero => omega
  | succ i' =>
   cases i with
   | zero =>
    simp at ha hb; subst ha
    exact List.all_eq_true.1 h.1 b (List.mem_of_getElem? hb)
   | succ i => exact pairsB_get h.2 i i' a b (by omega) (by simpa using ha) (by simpa using hb)
inductive AbsG (P : Program) (gds : List (Option Nat)) (m : Mem) (n : Nat) : Nat → Mem → List Oper → List (Nat × AV) → List (Nat × AV) → List (Nat × Nat × Ent) → List Nat → Mem → Prop where
 | nil {k : Nat} {acc : Mem} {t : List (Nat × AV)} : AbsG P gds m n k acc [] t t [] [] acc
 | cons {k : Nat} {acc acc' : Mem} {o : Oper} {l : List Oper} {t t' : List (Nat × AV)} {x : AV} {es : List (Nat × Nat × Ent)} {sq : List Nat} : dstB n o.dst = true → (∀ z : Mem, StepAt P gds t (m ++ z) o (m ++ z) x) → AbsG P gds m n (k + 1) acc l (upd t o.dst x) t' es sq acc' → AbsG P gds m n k acc (o :: l) t t' es sq acc'
 | evt {k j : Nat} {acc acc' : Mem} {o : Oper} {l : List Oper} {t t' : List (Nat × AV)} {x : AV} {e0 e1 : Ent} {es : List (Nat × Nat × Ent)} {sq : List Nat} : dstB n o.dst = true → acc[j]? = some e0 → (∀ m' : Mem, m'.take m.length = m → m'[m.length + j]? = some e0 → StepAt P gds t m' o (m'.set (m.length + j) e1) x) → AbsG P gds m n (k + 1) (acc.set j e1) l (upd t o.dst x) t' es sq acc' → AbsG P gds m n k acc (o :: l) t t' ((k, j, e1) :: es) sq acc'
 | seq {k : Nat} {acc acc' : Mem} {o : Oper} {l : List Oper} {t t' : List (Nat × AV)} {x : AV} {es : List (Nat × Nat × Ent)} {sq : List Nat} : dstB n o.dst = true → StepAt P gds t (m ++ acc) o (m ++ acc) x → AbsG P gds m n (k + 1) acc l (upd t o.dst x) t' es sq acc' → AbsG P gds m n k acc (o :: l) t t' es (k :: sq) acc'
theorem AbsG.lower {gds : List (Option Nat)} {m : Mem} {n : Nat} : ∀ {k : Nat} {acc acc' : Mem} {l : List Oper} {t t' : List (Nat × AV)} {es : List (Nat × Nat × Ent)} {sq : List Nat}, AbsG P gds m n k acc l t t' es sq acc' → ∀ e ∈ es, k ≤ e.1 ∧ e.1 < k + l.length
 | _, _, _, _, _, _, _, _, .nil => by simp
 | _, _, _, _, _, _, _, _, .cons _ _ h => fun e he => by have := h.lower e he; simp; omega
 | _, _, _, _, _, _, _, _, .evt _ _ _ h => fun e he => by
  rcases List.mem_cons.1 he with rfl | he
  ·simp
  ·have := h.lower e he; simp; omega
 | _, _, _, _, _, _, _, _, .seq _ _ h => fun e he => by have := h.lower e he; simp; omega
theorem layG_set {pre rest : List (Nat × Nat × Ent)} {k j : Nat} {e1 : Ent} {M0 : Mem} {bits : List Bool} {ops : List Oper} (hj : j < M0.length) (hb : bits ∈ consL ops ((pre ++ (k, j, e1) :: rest).map (·.1)) k)
  (hp : ∀ e ∈ pre, e.1 < k ∧ (e.2.1 = j → before ops e.1 k = true)) (hr : ∀ e ∈ rest, k < e.1 ∧ (e.2.1 = j → before ops k e.1 = true ∧ before ops e.1 k = false)) :
  (layG (pre ++ (k, j, e1) :: rest) bits M0)[j]? = (layG pre (trues pre) M0)[j]? ∧ layG (pre ++ (k, j, e1) :: rest) (setB ((pre ++ (k, j, e1) :: rest).map (·.1)) k bits) M0 = (layG (pre ++ (k, j, e1) :: rest) bits M0).set j e1 := by
 obtain ⟨hl, hg⟩ := cons_get hb
 have hl' : bits.length = (pre ++ (k, j, e1) :: rest).length := by simpa using hl
 have hget : ∀ (i : Nat) (e : Nat × Nat × Ent), (pre ++ (k, j, e1) :: rest)[i]? = some e → ((pre ++ (k, j, e1) :: rest).map (·.1))[i]? = some e.1 := fun i e he => by rw [List.getElem?_map, he]; rfl
 have hcase : ∀ (i : Nat) (e : Nat × Nat × Ent), (pre ++ (k, j, e1) :: rest)[i]? = some e → (i < pre.length ∧ e ∈ pre) ∨ (i = pre.length ∧ e = (k, j, e1)) ∨ (pre.length < i ∧ e ∈ rest) := by
  intro i e he
  rcases Nat.lt_trichotomy i pre.length with h | h | h
  ·rw [List.getElem?_append_left h] at he
   exact .inl ⟨h, List.mem_of_getElem? he⟩
  ·rw [List.getElem?_append_right (by omega), h, Nat.sub_self] at he
   simp at he
   exact .inr (.inl ⟨h, he.symm⟩)
  ·rw [List.getElem?_append_right (by omega), show i - pre.length = (i - pre.length - 1) + 1 by omega, List.getElem?_cons_succ] at he
   exact .inr (.inr ⟨h, List.mem_of_getElem? he⟩)
 have hbt : ∀ (b : Bool) (i : Nat), (trues pre ++ b :: falses rest)[i]? = if i < pre.length then some true else if i = pre.length then some b else if i < pre.length + 1 + rest.length then some false else none := by
  intro b i
  split
  ·rename_i h
   rw [List.getElem?_append_left (by rw [trues_len]; exact h)]
   simp [trues, h]
  ·rename_i h
   rw [List.getElem?_append_right (by rw [trues_len]; omega), trues_len]
   split
   ·rename_i h2
    rw [h2]; simp
   ·rename_i h2
    rw [show i - pre.length = (i - pre.length - 1) + 1 by omega, List.getElem?_cons_succ]
    unfold falses
    rw [List.getElem?_map]
    split
    ·rename_i h3
     rw [List.getElem?_eq_getElem (by omega)]; rfl
    ·rename_i h3
     rw [List.getElem?_eq_none (by omega)]; rfl
 have hlt : ∀ b : Bool, (trues pre ++ b :: falses rest).length = (pre ++ (k, j, e1) :: rest).length := fun b => by simp [trues, falses]
 have hev : ∀ b : Bool, layG (pre ++ (k, j, e1) :: rest) (trues pre ++ b :: falses rest) M0 = if b = true then (layG pre (trues pre) M0).set j e1 else layG pre (trues pre) M0 := by
  intro b
  rw [layG_app _ _ _ _ _ (trues_len pre)]
  simp only [layG, layG_falses]
 refine ⟨?_, ?_⟩
 ·rw [layG_get (j := j) _ bits (trues pre ++ false :: falses rest) M0 M0 hl' (hlt false) rfl rfl ?_, hev]
  ·simp
  ·intro i e he hej
   obtain ⟨g1, g2, g3⟩ := hg i e.1 (hget i e he)
   have hil : i < (pre ++ (k, j, e1) :: rest).length := (List.getElem?_eq_some_iff.1 he).1
   simp only [List.length_append, List.length_cons] at hil
   rw [hbt]
   rcases hcase i e he with ⟨h, hm⟩ | ⟨h, rfl⟩ | ⟨h, hm⟩
   ·rw [if_pos h]
    have := hp e hm
    exact g2 (by omega) (this.2 hej)
   ·rw [if_neg (by omega), if_pos h]
    exact g1 rfl
   ·rw [if_neg (by omega), if_neg (by omega), if_pos (by omega)]
    have := hr e hm
    exact g3 (by omega) (this.2 hej).2 (this.2 hej).1
 ·refine List.ext_getElem? fun j' => ?_
  have hsl : (setB ((pre ++ (k, j, e1) :: rest).map (·.1)) k bits).length = (pre ++ (k, j, e1) :: rest).length := by rw [setB_len hl]; simp
  by_cases hjj : j' = j
  ·subst hjj
   rw [List.getElem?_set_self (by rw [layG_len]; exact hj)]
   rw [layG_get (j := j') _ _ (trues pre ++ true :: falses rest) M0 M0 hsl (hlt true) rfl rfl ?_, hev]
   ·rw [if_pos rfl, List.getElem?_set_self (by rw [layG_len]; exact hj)]
   ·intro i e he hej
    obtain ⟨g1, g2, g3⟩ := hg i e.1 (hget i e he)
    have hil : i < (pre ++ (k, j', e1) :: rest).length := (List.getElem?_eq_some_iff.1 he).1
    simp only [List.length_append, List.length_cons] at hil
    rw [setB_get hl (hget i e he), hbt]
    rcases hcase i e he with ⟨h, hm⟩ | ⟨h, rfl⟩ | ⟨h, hm⟩
    ·have := hp e hm
     rw [if_neg (by omega), if_pos h]
     exact g2 (by omega) (this.2 hej)
    ·rw [if_pos rfl, if_neg (by omega), if_pos h]
    ·have := hr e hm
     rw [if_neg (by omega), if_neg (by omega), if_neg (by omega), if_pos (by omega)]
     exact g3 (by omega) (this.2 hej).2 (this.2 hej).1
  ·rw [List.getElem?_set_ne (Ne.symm hjj)]
   refine layG_get (j := j') _ _ bits M0 M0 hsl hl' rfl rfl fun i e he hej => ?_
   rw [setB_get hl (hget i e he)]
   rcases hcase i e he with ⟨h, hm⟩ | ⟨h, rfl⟩ | ⟨h, hm⟩
   ·have := hp e hm
    rw [if_neg (by omega)]
   ·exact absurd hej.symm hjj
   ·have := hr e hm
    rw [if_neg (by omega)]
theorem AbsG.toM {gds : List (Option Nat)} {ops : List Oper} {m : Mem} {n : Nat} {M0 : Mem} {all0 : List (Nat × Nat × Ent)} {sq0 : List Nat} (hok : okG ops (all0.map fun e => (e.1, e.2.1)) sq0 = true) : ∀ {k : Nat} {acc acc' : Mem} {l : List Oper} {t t' : List (Nat × AV)} {es : List (Nat × Nat × Ent)} {sq : List Nat}, AbsG P gds m n k acc l t t' es sq acc' →
  ∀ (pre : List (Nat × Nat × Ent)) (spre : List Nat), all0 = pre ++ es → sq0 = spre ++ sq → (∀ e ∈ pre, e.1 < k) → acc = layG pre (trues pre) M0 → AbsM P gds ops (all0.map (·.1)) (fun bits => m ++ layG all0 bits M0) n k l t t' ∧ acc' = layG all0 (trues all0) M0
 | k, acc, _, _, _, _, _, _, .nil, pre, spre, h1, h2, h3, h4 => by
  rw [List.append_nil] at h1
  subst h1
  exact ⟨.nil, h4⟩
 | k, acc, _, _, _, _, es, sq, .cons (o := o) (l := l) a1 a2 a3, pre, spre, h1, h2, h3, h4 => by
  obtain ⟨q1, q2⟩ := AbsG.toM (M0 := M0) hok a3 pre spre h1 h2 (fun e he => by have := h3 e he; omega) h4
  refine ⟨.cons (dstB_ok a1) (fun bits hb => ?_) q1, q2⟩
  have hl := (cons_get hb).1
  have hno : setB (all0.map (·.1)) k bits = bits := by
   refine setB_not' (fun e he => ?_) bits hl
   obtain ⟨e', he', rfl⟩ := List.mem_map.1 he
   rw [h1] at he'
   rcases List.mem_append.1 he' with h | h
   ·have := h3 e' h; omega
   ·have := a3.lower e' h; omega
  simp only [hno]
  exact a2 _
 | k, acc, _, _, t, _, _, sq, .evt (j := j) (o := o) (l := l) (x := x) (e0 := e0) (e1 := e1) (es := es) a1 a2 a3 a4, pre, spre, h1, h2, h3, h4 => by
  have hjl : j < M0.length := by
   have := (List.getElem?_eq_some_iff.1 a2).1
   rw [h4, layG_len] at this; exact this
  obtain ⟨q1, q2⟩ := AbsG.toM (M0 := M0) hok a4 (pre ++ [(k, j, e1)]) spre (by rw [h1]; simp) h2 (fun e he => by
   rcases List.mem_append.1 he with h | h
   ·have := h3 e h; omega
   ·simp at h; subst h; simp) (by
   have : trues (pre ++ [(k, j, e1)]) = trues pre ++ [true] := by simp [trues]
   rw [this, layG_app _ _ _ _ _ (trues_len pre), h4]
   simp [layG])
  refine ⟨.cons (dstB_ok a1) (fun bits hb => ?_) q1, q2⟩
  subst h1
  simp only [okG, Bool.and_eq_true] at hok
  have hpair := pairsB_get hok.1
  have hmap : ∀ (i : Nat) (e : Nat × Nat × Ent), (pre ++ (k, j, e1) :: es)[i]? = some e → ((pre ++ (k, j, e1) :: es).map fun e => (e.1, e.2.1))[i]? = some (e.1, e.2.1) := fun i e he => by rw [List.getElem?_map, he]; rfl
  have hk : (pre ++ (k, j, e1) :: es)[pre.length]? = some (k, j, e1) := by rw [List.getElem?_append_right (Nat.le_refl _)]; simp
  obtain ⟨s1, s2⟩ := layG_set (M0 := M0) hjl hb (fun e he => ⟨h3 e he, fun hej => by
   obtain ⟨i, hi⟩ := List.getElem?_of_mem he
   have hil := (List.getElem?_eq_some_iff.1 hi).1
   have := hpair i pre.length _ _ hil (hmap i e (by rw [List.getElem?_append_left hil]; exact hi)) (hmap _ _ hk)
   simp only [hej, beq_self_eq_true, Bool.not_true, Bool.false_or, Bool.and_eq_true] at this
   exact this.1⟩) (fun e he => ⟨by have := a4.lower e he; omega, fun hej => by
   obtain ⟨i, hi⟩ := List.getElem?_of_mem he
   have := hpair pre.length (pre.length + 1 + i) _ _ (by omega) (hmap _ _ hk) (hmap _ e (by rw [List.getElem?_append_right (by omega), show pre.length + 1 + i - pre.length = i + 1 by omega]; simpa using hi))
   simp only [hej, beq_self_eq_true, Bool.not_true, Bool.false_or, Bool.and_eq_true, Bool.not_eq_true'] at this
   exact this⟩)
  have hacc : (layG (pre ++ (k, j, e1) :: es) bits M0)[j]? = some e0 := by rw [s1, ← h4]; exact a2
  have := a3 (m ++ layG (pre ++ (k, j, e1) :: es) bits M0) (by simp) (by rw [List.getElem?_append_right (by omega), Nat.add_sub_cancel_left]; exact hacc)
  rw [List.set_append_right _ _ (by omega), Nat.add_sub_cancel_left] at this
  simp only [s2]
  exact this
 | k, acc, _, _, _, _, es, _, .seq (o := o) (l := l) (sq := sq) a1 a2 a3, pre, spre, h1, h2, h3, h4 => by
  obtain ⟨q1, q2⟩ := AbsG.toM (M0 := M0) hok a3 pre (spre ++ [k]) h1 (by rw [h2]; simp) (fun e he => by have := h3 e he; omega) h4
  refine ⟨.cons (dstB_ok a1) (fun bits hb => ?_) q1, q2⟩
  obtain ⟨hl, hg⟩ := cons_get hb
  have hno : setB (all0.map (·.1)) k bits = bits := by
   refine setB_not' (fun e he => ?_) bits hl
   obtain ⟨e', he', rfl⟩ := List.mem_map.1 he
   rw [h1] at he'
   rcases List.mem_append.1 he' with h | h
   ·have := h3 e' h; omega
   ·have := a3.lower e' h; omega
  have hbits : bits = trues pre ++ falses es := by
   simp only [okG, Bool.and_eq_true] at hok
   have hs := List.all_eq_true.1 hok.2 k (by rw [h2]; simp)
   have hse : ∀ e ∈ all0, (if Nat.blt e.1 k then before ops e.1 k else before ops k e.1 && !before ops e.1 k) = true := fun e he => List.all_eq_true.1 hs (e.1, e.2.1) (List.mem_map.2 ⟨e, he, rfl⟩)
   have hla : bits.length = pre.length + es.length := by rw [hl, h1]; simp
   refine List.ext_getElem? fun i => ?_
   rcases Nat.lt_or_ge i (pre.length + es.length) with hi | hi
   ·have hie : i < all0.length := by rw [h1]; simpa using hi
    have hm : all0[i]? = some all0[i] := List.getElem?_eq_getElem hie
    obtain ⟨g1, g2, g3⟩ := hg i (all0[i]).1 (by rw [List.getElem?_map, hm]; rfl)
    have hse' := hse _ (List.mem_of_getElem? hm)
    rcases Nat.lt_or_ge i pre.length with h | h
    ·have hin : all0[i] ∈ pre := by
      have : all0[i]? = pre[i]? := by rw [h1, List.getElem?_append_left h]
      rw [hm] at this
      exact List.mem_of_getElem? this.symm
     have hlt := h3 _ hin
     rw [if_pos (by simpa [Nat.blt_eq] using hlt)] at hse'
     rw [g2 (by omega) hse', List.getElem?_append_left (by rw [trues_len]; exact h)]
     simp [trues, h]
    ·have hin : all0[i] ∈ es := by
      have : all0[i]? = es[i - pre.length]? := by rw [h1, List.getElem?_append_right h]
      rw [hm] at this
      exact List.mem_of_getElem? this.symm
     have hlt := a3.lower _ hin
     rw [if_neg (by simp [Nat.blt_eq]; omega)] at hse'
     simp only [Bool.and_eq_true, Bool.not_eq_true'] at hse'
     rw [g3 (by omega) hse'.2 hse'.1, List.getElem?_append_right (by rw [trues_len]; exact h), trues_len]
     unfold falses
     rw [List.getElem?_map, List.getElem?_eq_getElem (by omega)]; rfl
   ·rw [List.getElem?_eq_none (by omega), List.getElem?_eq_none (by simp [trues, falses]; omega)]
  have hlay : layG all0 bits M0 = acc := by
   rw [hbits, h1, layG_app _ _ _ _ _ (trues_len pre), layG_falses, h4]
  simp only [hno, hlay]
  exact a2
theorem layG_none (all : List (Nat × Nat × Ent)) (M : Mem) : layG all ((all.map (·.1)).map fun _ => false) M = M := by
 have := layG_falses all M
 unfold falses at this
 simpa using this
theorem Wp.runG (nE : Nat) {r : Option Nat} {Q : Exit → S → Prop} {s : S} {id : Nat} {ops : List Oper} {gds : List (Option Nat)} {t1 : List (Nat × AV)} {es : List (Nat × Nat × Ent)} {sq : List Nat} {acc : Mem} (hm : P.follows .mixedOrders = true) (hg : ops.map (·.dst) = gds) (hB : gds.all (dstB s.n) = true) (hord : ordB gds ops ops.length = true)
  (habs : AbsG P gds s.m s.n 0 (List.replicate nE vacE) ops s.t t1 es sq acc) (hok : okG ops (es.map fun e => (e.1, e.2.1)) sq = true) (h : Q .normal ⟨t1, s.m ++ acc, s.n, s.d⟩) : Wp P r (.region id ops.toArray true) Q s := by
 obtain ⟨q1, q2⟩ := AbsG.toM (M0 := List.replicate nE vacE) hok habs [] [] rfl rfl (by simp) rfl
 refine Wp.vacs nE ?_
 refine Wp.runM (es.map (·.1)) (fun bits => s.m ++ layG es bits (List.replicate nE vacE)) (t1 := t1) hm hg hB hord ?_ ?_ q1 ?_
 ·rw [List.all_eq_true]
  intro e he
  obtain ⟨e', he', rfl⟩ := List.mem_map.1 he
  have := habs.lower e' he'
  simp only [decide_eq_true_eq]; omega
 ·rw [layG_none]; rfl
 ·have : (es.map (·.1)).map (fun _ => true) = trues es := by simp [trues]
  rw [this, ← q2]; exact h
theorem Wp.runGE (nE K : Nat) {r : Option Nat} {Q : Exit → S → Prop} {s : S} {id : Nat} {ops : List Oper} {gds : List (Option Nat)} {pre : List Oper} {dst : Option Nat} {op : Op} {type : TypeId} {pos : String} {after : Array Edge} {t1 : List (Nat × AV)} {es : List (Nat × Nat × Ent)} {sq : List Nat} {acc m2 : Mem} {x : AV} {p : Prop} (hm : P.follows .mixedOrders = true) (hg : ops.map (·.dst) = gds) (hB : gds.all (dstB s.n) = true) (hord : ordB gds ops ops.length = true)
  (hpre : ops.take K = pre) (hla : ops.drop K = [⟨dst, op, type, pos, after, none⟩]) (hbef : (List.range pre.length).all (fun j => before ops j pre.length && !before ops pre.length j) = true)
  (habs : AbsG P gds s.m s.n 0 (List.replicate nE vacE) pre s.t t1 es sq acc) (hok : okG ops (es.map fun e => (e.1, e.2.1)) sq = true) (hd : dstB s.n dst = true) (heff : effA P (evo t1) (s.m ++ acc) op = some (m2, x, p)) (hp : p) (h : Q .normal ⟨upd t1 dst x, m2, s.n, s.d⟩) : Wp P r (.region id ops.toArray true) Q s := by
 have hsp : ops = pre ++ [⟨dst, op, type, pos, after, none⟩] := by rw [← hpre, ← hla, List.take_append_drop]
 have hbef' : ∀ j, j < pre.length → before ops j pre.length = true ∧ before ops pre.length j = false := fun j hj => by
  have := List.all_eq_true.1 hbef j (List.mem_range.2 hj)
  simpa using this
 have hlow : ∀ e ∈ es, e.1 < pre.length := fun e he => by have := habs.lower e he; omega
 obtain ⟨q1, q2⟩ := AbsG.toM (M0 := List.replicate nE vacE) hok habs [] [] rfl rfl (by simp) rfl
 refine Wp.vacs nE ?_
 refine Wp.runM (es.map (·.1) ++ [pre.length]) (memE (es.map (·.1)).length (fun bits => s.m ++ layG es bits (List.replicate nE vacE)) m2) (t1 := upd t1 dst x) hm hg hB hord ?_ ?_ ?_ ?_
 ·rw [List.all_eq_true]
  intro e he
  rcases List.mem_append.1 he with he | he
  ·obtain ⟨e', he', rfl⟩ := List.mem_map.1 he
   have := hlow e' he'
   rw [hsp]
   simp only [decide_eq_true_eq, List.length_append, List.length_singleton]; omega
  ·simp only [List.mem_singleton] at he
   subst he
   rw [hsp]
   simp
 ·rw [List.map_append]
  have := memE_f (n := (es.map (·.1)).length) (mem := fun bits => s.m ++ layG es bits (List.replicate nE vacE)) (m2 := m2) (bs := (es.map (·.1)).map fun _ => false) (by simp)
  rw [show List.map (fun _ => false) [pre.length] = [false] from rfl, this, layG_none]
  rfl
 ·have h2 : AbsM P gds ops (es.map (·.1) ++ [pre.length]) (memE (es.map (·.1)).length (fun bits => s.m ++ layG es bits (List.replicate nE vacE)) m2) s.n (0 + pre.length) [⟨dst, op, type, pos, after, none⟩] t1 (upd t1 dst x) := by
   refine .cons (dstB_ok hd) (fun bits hb => ?_) .nil
   rw [Nat.zero_add] at hb ⊢
   obtain ⟨bs, b, rfl, q1', q2', _, q4⟩ := consL_snoc hb
   have hbl : bs.length = (es.map (·.1)).length := allB_len (List.mem_filter.1 q1').1
   have := q2' rfl
   subst this
   have hall : bs = trues es := by
    unfold trues
    refine List.ext_getElem? fun i => ?_
    rcases Nat.lt_or_ge i bs.length with hi | hi
    ·have hi' : i < es.length := by simpa [hbl] using hi
     have hz : ((es.map (·.1)).zip bs)[i]? = some (es[i].1, bs[i]) := by
      rw [List.getElem?_zip_eq_some]
      exact ⟨by simp [hi'], List.getElem?_eq_getElem hi⟩
     have hlt := hlow es[i] (List.getElem_mem hi')
     have := q4 _ (List.mem_of_getElem? hz) (by simp only; omega) (hbef' _ hlt).1
     simp only at this
     rw [List.getElem?_eq_getElem hi, this]
     simp [hi']
    ·rw [List.getElem?_eq_none hi, List.getElem?_eq_none (by simpa [hbl] using hi)]
   rw [setB_snoc hbl, memE_f hbl, show (decide (pre.length = pre.length) || false) = true by simp, memE_t (by unfold setB; simp at hbl ⊢; omega)]
   rw [hall, ← q2]
   exact (effA_at heff hp).stepAt rfl
  have h3 := AbsM.ext hbef' q1 (by omega) h2
  rw [← hsp] at h3
  exact h3
 ·rw [List.map_append]
  have := memE_t (n := (es.map (·.1)).length) (mem := fun bits => s.m ++ layG es bits (List.replicate nE vacE)) (m2 := m2) (bs := (es.map (·.1)).map fun _ => true) (by simp)
  rw [show List.map (fun _ => true) [pre.length] = [true] from rfl, this]
  exact h
theorem Wp.runGES (c K : Nat) {r : Option Nat} {Q : Exit → S → Prop} {s : S} {id : Nat} {ops : List Oper} {gds : List (Option Nat)} {pre : List Oper} {dst : Option Nat} {op : Op} {type : TypeId} {pos : String} {after : Array Edge} {t1 : List (Nat × AV)} {es : List (Nat × Nat × Ent)} {sq : List Nat} {m0 acc0 acc m2 : Mem} {x : AV} {p : Prop} (hm : P.follows .mixedOrders = true) (hg : ops.map (·.dst) = gds) (hB : gds.all (dstB s.n) = true) (hord : ordB gds ops ops.length = true)
  (h0 : s.m.take c = m0) (h1 : s.m.drop c = acc0) (hpre : ops.take K = pre) (hla : ops.drop K = [⟨dst, op, type, pos, after, none⟩]) (hbef : (List.range pre.length).all (fun j => before ops j pre.length && !before ops pre.length j) = true)
  (habs : AbsG P gds m0 s.n 0 acc0 pre s.t t1 es sq acc) (hok : okG ops (es.map fun e => (e.1, e.2.1)) sq = true) (hd : dstB s.n dst = true) (heff : effA P (evo t1) (m0 ++ acc) op = some (m2, x, p)) (hp : p) (h : Q .normal ⟨upd t1 dst x, m2, s.n, s.d⟩) : Wp P r (.region id ops.toArray true) Q s := by
 have hsp : ops = pre ++ [⟨dst, op, type, pos, after, none⟩] := by rw [← hpre, ← hla, List.take_append_drop]
 have hbef' : ∀ j, j < pre.length → before ops j pre.length = true ∧ before ops pre.length j = false := fun j hj => by
  have := List.all_eq_true.1 hbef j (List.mem_range.2 hj)
  simpa using this
 have hlow : ∀ e ∈ es, e.1 < pre.length := fun e he => by have := habs.lower e he; omega
 obtain ⟨q1, q2⟩ := AbsG.toM (M0 := acc0) hok habs [] [] rfl rfl (by simp) rfl
 refine Wp.runM (es.map (·.1) ++ [pre.length]) (memE (es.map (·.1)).length (fun bits => m0 ++ layG es bits acc0) m2) (t1 := upd t1 dst x) hm hg hB hord ?_ ?_ ?_ ?_
 ·rw [List.all_eq_true]
  intro e he
  rcases List.mem_append.1 he with he | he
  ·obtain ⟨e', he', rfl⟩ := List.mem_map.1 he
   have := hlow e' he'
   rw [hsp]
   simp only [decide_eq_true_eq, List.length_append, List.length_singleton]; omega
  ·simp only [List.mem_singleton] at he
   subst he
   rw [hsp]
   simp
 ·rw [List.map_append]
  have := memE_f (n := (es.map (·.1)).length) (mem := fun bits => m0 ++ layG es bits acc0) (m2 := m2) (bs := (es.map (·.1)).map fun _ => false) (by simp)
  rw [show List.map (fun _ => false) [pre.length] = [false] from rfl, this, layG_none, ← h0, ← h1, List.take_append_drop]
 ·have h2 : AbsM P gds ops (es.map (·.1) ++ [pre.length]) (memE (es.map (·.1)).length (fun bits => m0 ++ layG es bits acc0) m2) s.n (0 + pre.length) [⟨dst, op, type, pos, after, none⟩] t1 (upd t1 dst x) := by
   refine .cons (dstB_ok hd) (fun bits hb => ?_) .nil
   rw [Nat.zero_add] at hb ⊢
   obtain ⟨bs, b, rfl, q1', q2', _, q4⟩ := consL_snoc hb
   have hbl : bs.length = (es.map (·.1)).length := allB_len (List.mem_filter.1 q1').1
   have := q2' rfl
   subst this
   have hall : bs = trues es := by
    unfold trues
    refine List.ext_getElem? fun i => ?_
    rcases Nat.lt_or_ge i bs.length with hi | hi
    ·have hi' : i < es.length := by simpa [hbl] using hi
     have hz : ((es.map (·.1)).zip bs)[i]? = some (es[i].1, bs[i]) := by
      rw [List.getElem?_zip_eq_some]
      exact ⟨by simp [hi'], List.getElem?_eq_getElem hi⟩
     have hlt := hlow es[i] (List.getElem_mem hi')
     have := q4 _ (List.mem_of_getElem? hz) (by simp only; omega) (hbef' _ hlt).1
     simp only at this
     rw [List.getElem?_eq_getElem hi, this]
     simp [hi']
    ·rw [List.getElem?_eq_none hi, List.getElem?_eq_none (by simpa [hbl] using hi)]
   rw [setB_snoc hbl, memE_f hbl, show (decide (pre.length = pre.length) || false) = true by simp, memE_t (by unfold setB; simp at hbl ⊢; omega)]
   rw [hall, ← q2]
   exact (effA_at heff hp).stepAt rfl
  have h3 := AbsM.ext hbef' q1 (by omega) h2
  rw [← hsp] at h3
  exact h3
 ·rw [List.map_append]
  have := memE_t (n := (es.map (·.1)).length) (mem := fun bits => m0 ++ layG es bits acc0) (m2 := m2) (bs := (es.map (·.1)).map fun _ => true) (by simp)
  rw [show List.map (fun _ => true) [pre.length] = [true] from rfl, this]
  exact h
section
variable {gds : List (Option Nat)} {m : Mem} {n k : Nat} {acc acc' : Mem} {l : List Oper} {t t' : List (Nat × AV)} {es : List (Nat × Nat × Ent)} {sq : List Nat} {x : AV} {p : Prop} {dst : Option Nat} {op : Op} {type : TypeId} {pos : String} {after : Array Edge}
theorem AbsG.pure {o : Oper} (h1 : dstB n o.dst = true) (hsl : isSlc o.op = false) (h2 : stepA P gds t m o = some (x, p)) (h3 : p) (h4 : AbsG P gds m n (k + 1) acc l (upd t o.dst x) t' es sq acc') : AbsG P gds m n k acc (o :: l) t t' es sq acc' :=
 .cons h1 (fun z => (stepA_yield (stepA_app z hsl h2) h3).stepAt) h4
theorem AbsG.bld {sz : Nat} {xs : List AV} (h1 : dstB n dst = true) (h2 : bldA P (evo t) op = some (sz, xs, p)) (h3 : p) (h4 : AbsG P gds m n (k + 1) acc l (upd t dst (.lst sz xs)) t' es sq acc') : AbsG P gds m n k acc (⟨dst, op, type, pos, after, none⟩ :: l) t t' es sq acc' :=
 .cons h1 (fun z => (bldA_yield h2 h3).stepAt) h4
theorem AbsG.new (j : Nat) {sz ver : Nat} {row : List AV} {q : Option Nat} {k0 : Kind} (h1 : dstB n dst = true) (h2 : alcA P (evo t) op = some (sz, row, q, p)) (h3 : p) (ha : acc[j]? = some ⟨ver, k0⟩) (h4 : AbsG P gds m n (k + 1) (acc.set j ⟨ver + 1, .row sz row⟩) l (upd t dst (alcV (m.length + j) (ver + 1) q)) t' es sq acc') : AbsG P gds m n k acc (⟨dst, op, type, pos, after, none⟩ :: l) t t' ((k, j, ⟨ver + 1, .row sz row⟩) :: es) sq acc' :=
 .evt h1 ha (fun m' _ hid => alcA_step h2 h3 hid) h4
theorem AbsG.apn (j : Nat) {sz ver : Nat} {row : List AV} {k0 : Kind} (h1 : dstB n dst = true) (h2 : apnA P (evo t) op = some (sz, row, p)) (h3 : p) (ha : acc[j]? = some ⟨ver, k0⟩) (h4 : AbsG P gds m n (k + 1) (acc.set j ⟨ver + 1, .row sz row⟩) l (upd t dst (alcV (m.length + j) (ver + 1) (some row.length))) t' es sq acc') : AbsG P gds m n k acc (⟨dst, op, type, pos, after, none⟩ :: l) t t' ((k, j, ⟨ver + 1, .row sz row⟩) :: es) sq acc' :=
 .evt h1 ha (fun m' _ hid => apnA_step h2 h3 hid) h4
theorem AbsG.eff (j : Nat) {e0 e1 : Ent} (h1 : dstB n dst = true) (ha : acc[j]? = some e0) (h2 : evE P (evo t) e0 op = some (m.length + j, e1, x, p)) (h3 : p) (h4 : AbsG P gds m n (k + 1) (acc.set j e1) l (upd t dst x) t' es sq acc') : AbsG P gds m n k acc (⟨dst, op, type, pos, after, none⟩ :: l) t t' ((k, j, e1) :: es) sq acc' :=
 .evt h1 ha (fun m' _ hid => by
  obtain ⟨q, g1, g2⟩ := evE_ok h2 h3 hid
  exact (effA_at g1 g2).stepAt rfl) h4
theorem VwL.okAll {m : Mem} : ∀ {xs : List AV}, okL 0 xs → VwL m xs xs
 | [], _ => .nil
 | x :: xs, h => .cons (.self h.1) (VwL.okAll h.2)
end
attribute [push_cast] stE apE evE
end Go.Vg
namespace Go.Vg
open Go.RowKit
variable {P : Program} {X : Nat → Prop} {w : World} {ρ : Rho}
theorem Spec.freshAt {gds : List (Option Nat)} {t : List (Nat × AV)} {m : Mem} {fo : Operand} {args : List Operand} {tys : Array TypeId} {dst : Option Nat} {type : TypeId} {pos : String} {after : Array Edge} {f : FuncId} {caps vargs : List AV} {sz len : Nat} {row : List AV}
  (he : Enters P f) (hf : fnOf (evo t fo) = some (f, caps)) (hv : VwL m (args.map (evo t) ++ caps) vargs) (hc : Spec P f vargs [] fun x m' => x = .osl 0 0 0 len ∧ m' = [⟨0, .row sz row⟩]) (hpl : plainL row) {id ver : Nat} {k0 : Kind} (hid : m[id]? = some ⟨ver, k0⟩) :
  StepAt P gds t m ⟨dst, callOp fo args tys, type, pos, after, none⟩ (m.set id ⟨ver + 1, .row sz row⟩) (.osl id (ver + 1) 0 len) := by
 refine ⟨fun c e => (by cases e), fun X w ρ a hi hr hn => ⟨fun _ => .inr (.inr ?_), fun hw => (by simp [Region.wanted] at hw)⟩⟩
 obtain ⟨h1, h2⟩ := onames_call (fo := fo) (args := args) (tys := tys) (t := t) (a := a) (X := X) (w := w) (ρ := ρ) (fun n hn => hr n (.inr hn))
 obtain ⟨cs, hcs, hcr⟩ := fnOf_rel hf h1
 have hrun := run_call (P := P) (w := w) (o := ⟨dst, callOp fo args tys, type, pos, after, none⟩) rfl hcs he
 have hargs : Rvals X w ρ (args.map (evo t) ++ caps) (args.map a.eval ++ cs) := (Rvals_map args fun y hy => h2 y hy).append hcr
 refine ⟨f, _, hrun, ?_⟩
 refine (hc (fun _ => False) w [] _ (Inv.empty (fun _ h => h.elim) hi.gd.nil0) ((VwL.rel hi hv).1 _ hargs)).mono ?_
 rintro e w' ⟨v, x', m'', ρ', rfl, ⟨rfl, rfl⟩, k1, k2, k3⟩
 have hl1 : ρ'.length = 1 := k2.len
 obtain ⟨r0, rfl⟩ : ∃ r0, ρ' = [r0] := by
  cases ρ' with
  | nil => simp at hl1
  | cons r l => cases l with
   | nil => exact ⟨r, rfl⟩
   | cons _ _ => simp at hl1
 obtain ⟨v0, q1, q2, q3⟩ := k2.at_ 0 r0 _ rfl rfl
 have hge : ∀ b, r0.blk = some b → w.heap.size ≤ b := fun b hb => by
  rcases Nat.lt_or_ge b w.heap.size with h | h
  ·exact absurd hb ((k3.block b (fun r hr => by cases hr) h).1 r0 (by simp))
  ·exact h
 have hidl : id < ρ.length := by rw [hi.len]; exact (List.getElem?_eq_some_iff.1 hid).1
 have h0 : ρ[id]? = some ρ[id] := List.getElem?_eq_getElem hidl
 obtain ⟨hvv, _⟩ := hi.at_ id _ _ h0 hid
 simp only at hvv v0
 obtain ⟨g1, g2⟩ := hi.renew h0 (r' := ⟨ρ[id].ver + 1, r0.blk, r0.base, r0.size, r0.sz⟩) (w' := w') (k := .row sz row) k3.os k3.tape k3.output k3.size rfl
  (fun b hb _ => (k3.block b (fun r hr => by cases hr) hb).2) (fun b hb => ⟨.inr (hge b hb), (k2.new 0 r0 b rfl hb).1⟩) (fun ρ' he ht => by
   refine ⟨q1, q2, fun b hb => ?_⟩
   obtain ⟨z1, z2, z3⟩ := q3 b hb
   exact ⟨z1, z2, Rrow.plain hpl z3⟩)
 rw [hvv] at g1 g2
 refine ⟨v, rfl, _, ?_, g2, g1⟩
 obtain ⟨A, c, r, y1, y2, y3, y4⟩ := k1
 simp at y2
 subst y2
 exact ⟨A, c, ⟨ver + 1, r0.blk, r0.base, r0.size, r0.sz⟩, y1, by rw [List.getElem?_set_self hidl], Nat.le_refl _, fun _ => y4 (by rw [v0])⟩
section
variable {gds : List (Option Nat)} {m : Mem} {n k : Nat} {acc acc' : Mem} {l : List Oper} {t t' : List (Nat × AV)} {es : List (Nat × Nat × Ent)} {sq : List Nat} {dst : Option Nat} {type : TypeId} {pos : String} {after : Array Edge}
theorem get_more {m m' : Mem} (h : m'.take m.length = m) {id : Nat} {e : Ent} (q : m[id]? = some e) : m'[id]? = some e := by
 have hl := (List.getElem?_eq_some_iff.1 q).1
 rw [← h, List.getElem?_take] at q
 rw [if_pos hl] at q; exact q
mutual
theorem Vw.more {m m' : Mem} (h : m'.take m.length = m) : ∀ {x y : AV}, Vw m x y → Vw m' x y
 | _, _, .self q => .self q
 | _, _, .emp => .emp
 | _, _, .osl q1 q2 q3 q4 => .osl (get_more h q1) q2 q3 (VwL.more h q4)
 | _, _, .optr q1 q2 q3 q4 => .optr (get_more h q1) q2 q3 (VwL.more h q4)
 | _, _, .agg q => .agg (VwL.more h q)
 | _, _, .tup q => .tup (VwL.more h q)
 | _, _, .clo q => .clo (VwL.more h q)
theorem VwL.more {m m' : Mem} (h : m'.take m.length = m) : ∀ {x y : List AV}, VwL m x y → VwL m' x y
 | _, _, .nil => .nil
 | _, _, .cons a b => .cons (Vw.more h a) (VwL.more h b)
end
theorem AbsG.fresh (j : Nat) {fo : Operand} {args : List Operand} {tys : Array TypeId} {f : FuncId} {caps vargs : List AV} {sz len ver : Nat} {row : List AV} {k0 : Kind} (h1 : dstB n dst = true)
  (hf : fnOf (evo t fo) = some (f, caps)) (he : Enters P f) (hc : Spec P f vargs [] fun x m' => x = .osl 0 0 0 len ∧ m' = [⟨0, .row sz row⟩]) (hv : VwL m (args.map (evo t) ++ caps) vargs) (hpl : plainL row) (ha : acc[j]? = some ⟨ver, k0⟩)
  (h4 : AbsG P gds m n (k + 1) (acc.set j ⟨ver + 1, .row sz row⟩) l (upd t dst (.osl (m.length + j) (ver + 1) 0 len)) t' es sq acc') : AbsG P gds m n k acc (⟨dst, callOp fo args tys, type, pos, after, none⟩ :: l) t t' ((k, j, ⟨ver + 1, .row sz row⟩) :: es) sq acc' :=
 .evt h1 ha (fun m' hm' hid => Spec.freshAt he hf (hv.more hm') hc hpl hid) h4
end
inductive AbsT (P : Program) (gds : List (Option Nat)) (ops : List Oper) (n : Nat) : Nat → Mem → List Oper → List (Nat × AV) → List (Nat × AV) → Mem → Prop where
 | nil {k : Nat} {m : Mem} {t : List (Nat × AV)} : AbsT P gds ops n k m [] t t m
 | cons {k : Nat} {m m1 m' : Mem} {o : Oper} {l : List Oper} {t t' : List (Nat × AV)} {x : AV} : dstB n o.dst = true → (List.range k).all (fun j => before ops j k && !before ops k j) = true → StepAt P gds t m o m1 x → AbsT P gds ops n (k + 1) m1 l (upd t o.dst x) t' m' → AbsT P gds ops n k m (o :: l) t t' m'
section
variable {gds : List (Option Nat)} {l : List Oper} {Q : S → Prop} {s s1 : S} {fo : Operand} {args : List Operand} {tys : Array TypeId} {dst : Option Nat} {type : TypeId} {pos : String} {after : Array Edge} {f : FuncId} {caps vargs : List AV} {sz : Nat} {row : List AV}
end
section
variable {gds : List (Option Nat)} {l : List Oper} {s s1 : S}
theorem Abn.gfalse (x : AV) {dst : Option Nat} {op : Op} {type : TypeId} {pos : String} {after : Array Edge} {g : Nat × Bool} (hd : ∀ c, op ≠ .defer c) (h : gval gds s.t g = some false) (k : Abn P gds l (putA s dst (.opt false x)) s1) : Abn P gds (⟨dst, op, type, pos, after, some g⟩ :: l) s s1 :=
 Abn.yield (x := .opt false x) ⟨hd, fun X w ρ a hi hr hn => by
  have hw := gval_wanted (o := ⟨dst, op, type, pos, after, some g⟩) (a := a) (X := X) (w := w) (ρ := ρ) rfl (fun n hn' => ⟨hr n (.inl hn'), hn n hn'⟩) h
  exact ⟨fun e => (by rw [hw] at e; cases e), fun _ => ⟨fun e => (by cases e), fun _ => rfl⟩⟩⟩ (by rw [putA_eq] at k; exact k)
end
theorem Wp.meetS {r : Option Nat} {c : Code} {Q : Exit → S → Prop} {s : S} (s1 : S) (h1 : Wp P r c (tQ (fun s' => Le s' s1) Q) s) (h2 : ∀ s', Le s' s1 → Q .normal s') : Wp P r c Q s :=
 h1.mono (by
  intro e s' h
  cases e
  case normal => exact h2 s' h
  all_goals exact h)
end Go.Vg
namespace Go.Vg
variable {P : Program}
def ltB (k : Int) (n : Nat) : Bool :=
 match k with
 | .ofNat j => Nat.ble (j + 1) n
 | .negSucc _ => false
def leB (k : Int) (n : Nat) : Bool :=
 match k with
 | .ofNat j => Nat.ble j n
 | .negSucc _ => false
def nnB (k : Int) : Bool :=
 match k with
 | .ofNat _ => true
 | .negSucc _ => false
def ltI (a b : Int) : Bool :=
 match a, b with
 | .ofNat a, .ofNat b => Nat.ble (a + 1) b
 | .ofNat _, .negSucc _ => false
 | .negSucc _, .ofNat _ => true
 | .negSucc a, .negSucc b => Nat.ble (b + 1) a
def eqI (a b : Int) : Bool :=
 match a, b with
 | .ofNat a, .ofNat b => Nat.beq a b
 | .negSucc a, .negSucc b => Nat.beq a b
 | _, _ => false
theorem ltB_ok {k : Int} {n : Nat} (h : ltB k n = true) : 0 ≤ k ∧ k < (n : Int) := by
 cases k with
 | ofNat j => simp only [ltB, Nat.ble_eq] at h; simp only [Int.ofNat_eq_natCast]; omega
 | negSucc j => cases h
theorem leB_ok {k : Int} {n : Nat} (h : leB k n = true) : 0 ≤ k ∧ k ≤ (n : Int) := by
 cases k with
 | ofNat j => simp only [leB, Nat.ble_eq] at h; simp only [Int.ofNat_eq_natCast]; omega
 | negSucc j => cases h
theorem nnB_ok {k : Int} (h : nnB k = true) : 0 ≤ k := by
 cases k with
 | ofNat j => simp only [Int.ofNat_eq_natCast]; omega
 | negSucc j => cases h
theorem ltI_eq (a b : Int) : ltI a b = decide (a < b) := by
 have : (ltI a b = true) ↔ a < b := by
  cases a <;> cases b <;> simp only [ltI, Nat.ble_eq, Int.ofNat_eq_natCast]
  ·omega
  ·exact ⟨fun h => (by cases h), fun h => (by have := Int.negSucc_lt_zero; omega)⟩
  ·rename_i x y
   exact ⟨fun _ => (by have := Int.negSucc_lt_zero x; omega), fun _ => trivial⟩
  ·omega
 cases h : ltI a b <;> simp_all
theorem eqI_eq (a b : Int) : eqI a b = decide (a = b) := by
 have : (eqI a b = true) ↔ a = b := by
  cases a <;> cases b <;> simp only [eqI, Nat.beq_eq, Int.ofNat_eq_natCast] <;> first | omega | (constructor <;> intro h <;> first | cases h | omega)
 cases h : eqI a b <;> simp_all
def wrapC (k : IntKind) (n : Int) : Int :=
 match k, n with
 | .i64, .ofNat j => if Nat.ble j 9223372036854775807 then .ofNat j else IntKind.i64.wrap (.ofNat j)
 | .i64, .negSucc j => if Nat.ble j 9223372036854775807 then .negSucc j else IntKind.i64.wrap (.negSucc j)
 | .u8, .ofNat j => if Nat.ble j 255 then .ofNat j else IntKind.u8.wrap (.ofNat j)
 | k, n => k.wrap n
theorem wrapC_eq (k : IntKind) (n : Int) : wrapC k n = k.wrap n := by
 unfold wrapC
 split
 ·rename_i j
  split
  ·rename_i h
   rw [Nat.ble_eq] at h
   simp only [IntKind.wrap, IntKind.bits, IntKind.signed, Int.ofNat_eq_natCast]
   simp
   split <;> omega
  ·rfl
 ·rename_i j
  split
  ·rename_i h
   rw [Nat.ble_eq] at h
   simp only [IntKind.wrap, IntKind.bits, IntKind.signed, Int.negSucc_eq]
   simp
   split <;> omega
  ·rfl
 ·rename_i j
  split
  ·rename_i h
   rw [Nat.ble_eq] at h
   simp only [IntKind.wrap, IntKind.bits, IntKind.signed, Int.ofNat_eq_natCast]
   simp
   omega
  ·rfl
 ·rfl
def lookB : List (Nat × AV) → Nat → AV
 | [], _ => .any
 | (k, x) :: t, n => match Nat.beq k n with
  | true => x
  | false => lookB t n
theorem lookB_eq (n : Nat) : ∀ t : List (Nat × AV), lookB t n = look t n
  | [] => rfl
  | (k, x) :: t => by
    simp only [lookB, look]
    cases h : Nat.beq k n with
    | true => rw [Nat.beq_eq] at h; simp [h]
    | false => have : k ≠ n := fun e => by subst e; simp at h
               simp [this, lookB_eq n t]
def evoC (t : List (Nat × AV)) : Operand → AV
 | .tmp n => lookB t n
 | .const v => cst v
 | .global _ => .any
 | .func f => .clo f []
theorem evoC_eq (t : List (Nat × AV)) : evoC t = evo t := by
 funext x; cases x <;> simp [evoC, evo, lookB_eq]
def getM : List Ent → Nat → Option Ent
 | [], _ => none
 | e :: _, 0 => some e
 | _ :: m, n + 1 => getM m n
theorem getM_eq : ∀ (m : Mem) (n : Nat), getM m n = m[n]?
 | [], n => by simp [getM]
 | e :: m, 0 => by simp [getM]
 | e :: m, n + 1 => by simp [getM, getM_eq m n]
def rowM (m : Mem) (id ver : Nat) : Option (Nat × List AV) :=
 match getM m id with
 | some ⟨v, .row sz l⟩ => if Nat.beq v ver then some (sz, l) else none
 | _ => none
theorem rowM_ok {m : Mem} {id ver sz : Nat} {l : List AV} (h : rowM m id ver = some (sz, l)) : m[id]? = some ⟨ver, .row sz l⟩ := by
 unfold rowM at h
 rw [getM_eq] at h
 split at h
 ·rename_i v sz' l' he
  split at h
  ·rename_i hv
   rw [Nat.beq_eq] at hv
   simp only [Option.some.injEq, Prod.mk.injEq] at h
   rw [he, hv, h.1, h.2]
  ·cases h
 ·cases h
def oneB : AV → Bool
 | .val v => v.oneCell'
 | .lst _ _ | .osl _ _ _ _ | .emp | .ref _ _ | .optr _ _ _ _ | .clo _ _ | .bnd _ _ | .yld _ _ | .omap _ _ => true
 | _ => false
theorem oneB_ok {x : AV} (h : oneB x = true) : x.one := by cases x <;> simp_all [oneB, AV.one]
def flatB : AV → Bool
 | .agg xs => xs.all oneB
 | x => oneB x
theorem flatB_ok {x : AV} (h : flatB x = true) : x.flat := by
 cases x
 case agg xs => exact fun y hy => oneB_ok (List.all_eq_true.1 h y hy)
 all_goals (simp only [flatB] at h; simp only [AV.flat]; exact oneB_ok h)
def intC (op : BinOp) (k : IntKind) (a b : Int) : Option AV :=
 match op with
 | .add => some (.val (.int k (wrapC k (a + b))))
 | .sub => some (.val (.int k (wrapC k (a - b))))
 | .mul => some (.val (.int k (wrapC k (a * b))))
 | .quo => match eqI b 0 with
  | true => none
  | false => some (.val (.int k (wrapC k (a.tdiv b))))
 | .rem => match eqI b 0 with
  | true => none
  | false => some (.val (.int k (a.tmod b)))
 | .and => some (.val (.int k (wrapC k ((BitVec.ofInt k.bits a &&& BitVec.ofInt k.bits b).toNat))))
 | .or => some (.val (.int k (wrapC k ((BitVec.ofInt k.bits a ||| BitVec.ofInt k.bits b).toNat))))
 | .xor => some (.val (.int k (wrapC k ((BitVec.ofInt k.bits a ^^^ BitVec.ofInt k.bits b).toNat))))
 | .eql => some (.bool (eqI a b))
 | .neq => some (.bool (!eqI a b))
 | .lss => some (.bool (ltI a b))
 | .leq => some (.bool (!ltI b a))
 | .gtr => some (.bool (ltI b a))
 | .geq => some (.bool (!ltI a b))
 | _ => none
theorem intC_ok {op : BinOp} {k : IntKind} {a b : Int} {x : AV} (h : intC op k a b = some x) : ∃ p, intBin op k a b = some (x, p) ∧ p := by
 have hl : ∀ a b : Int, (!decide (b < a)) = decide (a ≤ b) := fun a b => by
  rw [← decide_not]; exact decide_eq_decide.2 (by omega)
 have hg : ∀ {x' : AV}, x' = x → ∃ p, some (x', True) = some (x, p) ∧ p := fun e => ⟨True, by rw [e], trivial⟩
 cases op <;> simp only [intC, reduceCtorEq, Option.some.injEq, wrapC_eq, hl, ltI_eq, eqI_eq] at h <;> simp only [intBin] <;> first
  | exact hg h
  | skip
 all_goals
  split at h
  ·cases h
  ·rename_i he
   simp only [Option.some.injEq] at h
   exact ⟨b ≠ 0, by rw [← h], by simpa using he⟩
def eqL : List UInt8 → List UInt8 → Bool
 | [], [] => true
 | a :: l, b :: l' => match Nat.beq a.toNat b.toNat with
  | true => eqL l l'
  | false => false
 | _, _ => false
theorem eqL_eq : ∀ l l' : List UInt8, (eqL l l' = true) ↔ l = l'
 | [], [] => by simp [eqL]
 | [], _ :: _ => by simp [eqL]
 | _ :: _, [] => by simp [eqL]
 | a :: l, b :: l' => by
  simp only [eqL]
  cases h : Nat.beq a.toNat b.toNat with
  | true =>
   rw [Nat.beq_eq] at h
   have e : a = b := UInt8.toNat_inj.1 h
   simp [e, eqL_eq l l']
  | false =>
   have : a ≠ b := fun e => by subst e; simp at h
   simp [this]
def eqS (a b : ByteArray) : Bool := eqL a.data.toList b.data.toList
theorem eqS_eq (a b : ByteArray) : eqS a b = decide (a = b) := by
 have : (eqS a b = true) ↔ a = b := by
  unfold eqS
  rw [eqL_eq]
  constructor
  ·intro h
   cases a; cases b
   simp only [ByteArray.mk.injEq]
   exact Array.toList_inj.1 h
  ·rintro rfl; rfl
 cases h : eqS a b <;> simp_all
theorem bsize (s : ByteArray) : s.data.toList.length = s.size := Array.length_toList
def strC (op : BinOp) (a b : ByteArray) : Option AV :=
 match op with
 | .add => match Nat.ble (a.data.toList.length + b.data.toList.length) 9223372036854775807 with
  | true => some (.str ⟨⟨a.data.toList ++ b.data.toList⟩⟩)
  | false => none
 | .eql => some (.bool (eqS a b))
 | .neq => some (.bool (!eqS a b))
 | _ => none
theorem strC_ok {op : BinOp} {a b : ByteArray} {x : AV} (h : strC op a b = some x) : ∃ p, strBin op a b = some (x, p) ∧ p := by
 have hg : ∀ {x' : AV}, x' = x → ∃ p, some (x', True) = some (x, p) ∧ p := fun e => ⟨True, by rw [e], trivial⟩
 cases op <;> simp only [strC, reduceCtorEq, Option.some.injEq, eqS_eq] at h <;> simp only [strBin] <;> first
  | exact hg h
  | skip
 split at h
 ·rename_i hb
  rw [Nat.ble_eq] at hb
  simp only [Option.some.injEq] at h
  refine ⟨_, ?_, hb⟩
  rw [← h]
  have e : a ++ b = ⟨⟨a.data.toList ++ b.data.toList⟩⟩ := by
   cases h' : a ++ b with
   | mk d =>
    have : (a ++ b).data = a.data ++ b.data := ByteArray.data_append
    rw [h'] at this
    simp only at this
    rw [this]
    congr 1
    apply Array.ext'; simp
  rw [e, bsize, bsize]
 ·cases h
def eqC1 (u : Nat) (x y : AV) : Option Bool :=
 match u, x, y with
 | 0, .val (.int k a), .val (.int k' b) => if k = k' then some (eqI a b) else none
 | 1, .val (.bool a), .val (.bool b) => some (a == b)
 | 2, .val (.string a), .val (.string b) => some (eqS a b)
 | _, _, _ => none
def eqC : List Nat → List AV → List AV → Option Bool
 | [], [], [] => some true
 | u :: us, x :: xs, y :: ys =>
  match eqC1 u x y, eqC us xs ys with
  | some a, some b => some (a && b)
  | _, _ => none
 | _, _, _ => none
theorem eqC1_eq (u : Nat) (x y : AV) : eqC1 u x y = eqA1 u x y := by
 unfold eqC1
 split
 ·rw [eqI_eq]; rfl
 ·rename_i a b; cases a <;> cases b <;> rfl
 ·rw [eqS_eq]; rfl
 ·unfold eqA1
  split
  ·rename_i h1 h2 h3; exact (h1 _ _ _ _ rfl rfl rfl).elim
  ·rename_i h1 h2 h3; exact (h2 _ _ rfl rfl rfl).elim
  ·rename_i h1 h2 h3; exact (h3 _ _ rfl rfl rfl).elim
  ·rfl
theorem eqC_eq : ∀ (us : List Nat) (xs ys : List AV), eqC us xs ys = eqA us xs ys
 | [], [], [] => rfl
 | [], [], _ :: _ => rfl
 | [], _ :: _, _ => rfl
 | _ :: _, [], _ => rfl
 | _ :: _, _ :: _, [] => rfl
 | u :: us, x :: xs, y :: ys => by simp only [eqC, eqA, eqC1_eq, eqC_eq us xs ys]; rfl
def binC (P : Program) (op : BinOp) (t : TypeId) (x y : AV) : Option AV :=
 match x, y with
 | .val (.int k a), .val (.int k' b) =>
  match op with
  | .shl => match nnB b with
   | true => some (.val (.int k (wrapC k (a * 2 ^ (min b.toNat k.bits)))))
   | false => none
  | .shr => match nnB b with
   | true => some (.val (.int k (a.fdiv (2 ^ (min b.toNat k.bits)))))
   | false => none
  | op => if k = k' then intC op k a b else none
 | .val (.string a), .val (.string b) => strC op a b
 | .val (.bool a), .val (.bool b) =>
  match uk P t, op with
  | .bool, .eql => some (.bool (a == b))
  | .bool, .neq => some (.bool (!(a == b)))
  | _, _ => none
 | .agg xs, .agg ys =>
  match cmpT P t with
  | some us => (match eqC us xs ys, op with
   | some r, .eql => some (.bool r)
   | some r, .neq => some (.bool (!r))
   | _, _ => none)
  | none => none
 | _, _ => none
theorem binC_ok {op : BinOp} {t : TypeId} {x y z : AV} (h : binC P op t x y = some z) : ∃ p, binA P op t x y = some (z, p) ∧ p := by
 unfold binC at h
 split at h
 ·rename_i k a k' b
  split at h
  ·split at h
   ·rename_i hb
    simp only [Option.some.injEq] at h
    exact ⟨0 ≤ b, by simp only [binA, shBin]; rw [← h, wrapC_eq], nnB_ok hb⟩
   ·cases h
  ·split at h
   ·rename_i hb
    simp only [Option.some.injEq] at h
    exact ⟨0 ≤ b, by simp only [binA, shBin]; rw [← h], nnB_ok hb⟩
   ·cases h
  ·rename_i h1 h2
   split at h
   ·rename_i hk
    obtain ⟨p, h3, h4⟩ := intC_ok h
    refine ⟨p, ?_, h4⟩
    unfold binA
    cases op <;> first | exact absurd rfl h1 | exact absurd rfl h2 | (simp only; rw [if_pos hk]; exact h3)
   ·cases h
 ·obtain ⟨p, h3, h4⟩ := strC_ok h
  exact ⟨p, h3, h4⟩
 ·rename_i a b
  split at h
  ·rename_i hu
   simp only [Option.some.injEq] at h
   refine ⟨True, ?_, trivial⟩
   simp only [binA, hu]
   rw [← h]
   cases a <;> cases b <;> rfl
  ·rename_i hu
   simp only [Option.some.injEq] at h
   refine ⟨True, ?_, trivial⟩
   simp only [binA, hu]
   rw [← h]
   cases a <;> cases b <;> rfl
  ·cases h
 ·rename_i xs ys
  simp only [binA, aggBin]
  split at h
  ·rename_i us hc
   rw [hc]
   split at h
   ·rename_i r hr
    simp only [Option.some.injEq] at h
    rw [eqC_eq] at hr
    exact ⟨True, by simp only [hr, h], trivial⟩
   ·rename_i r hr
    simp only [Option.some.injEq] at h
    rw [eqC_eq] at hr
    exact ⟨True, by simp only [hr, h], trivial⟩
   ·cases h
  ·cases h
 ·cases h
def idxC (P : Program) (m : Mem) (t : TypeId) (x i : AV) : Option AV :=
 match x, i with
 | .lst sz l, .val (.int _ k) =>
  match uk P t with
  | .slice e => if tsz P e = some sz then (match ltB k l.length with
   | true => some (.ref (l.getD k.toNat (zav P e)).cells 0)
   | false => none) else none
  | _ => none
 | .osl id ver off len, .val (.int _ k) =>
  match uk P t with
  | .slice e => match rowM m id ver with
   | some (sz, _) => if tsz P e = some sz then (match ltB k len with
    | true => some (.optr id ver (off + k.toNat) 0)
    | false => none) else none
   | none => none
  | _ => none
 | .ref xs j, .val (.int _ k) =>
  match arT P t with
  | some (n, e) => match tsz P e with
   | some sz => match ltB k n, Nat.ble (j + k.toNat * sz + 1) xs.length with
    | true, true => some (.ref xs (j + k.toNat * sz))
    | _, _ => none
   | none => none
  | none => none
 | .optr id ver i j, .val (.int _ k) =>
  match arT P t with
  | some (n, e) => match tsz P e, getM m id with
   | some sz, some e0 => match ltB k n, Nat.beq e0.ver ver with
    | true, true => some (.optr id ver i (j + k.toNat * sz))
    | _, _ => none
   | _, _ => none
  | none => none
 | _, _ => none
theorem idxC_ok {m : Mem} {t : TypeId} {x i z : AV} (h : idxC P m t x i = some z) : ∃ p, idxA P m t x i = some (z, p) ∧ p := by
 unfold idxC at h
 split at h
 ·split at h
  ·rename_i hu
   split at h
   ·rename_i hs
    split at h
    ·rename_i hk
     simp only [Option.some.injEq] at h
     refine ⟨_, ?_, ltB_ok hk⟩
     simp only [idxA, hu]
     rw [if_pos hs, h]
    ·cases h
   ·cases h
  ·cases h
 ·split at h
  ·rename_i hu
   split at h
   ·rename_i hr
    split at h
    ·rename_i hs
     split at h
     ·rename_i hk
      simp only [Option.some.injEq] at h
      subst h
      refine ⟨_, ?_, ltB_ok hk⟩
      simp only [idxA, hu, rowM_ok hr]
      rw [if_pos ⟨trivial, hs⟩]
     ·cases h
    ·cases h
   ·cases h
  ·cases h
 ·rename_i xs j kk k
  split at h <;> (try (cases h; done))
  rename_i n e ha
  split at h <;> (try (cases h; done))
  rename_i sz hsz
  split at h <;> (try (cases h; done))
  rename_i h1 h2
  rw [Nat.ble_eq] at h2
  simp only [Option.some.injEq] at h
  subst h
  refine ⟨_, ?_, And.intro (ltB_ok h1) (show j + k.toNat * sz < xs.length from h2)⟩
  simp only [idxA, ha, hsz]
 ·rename_i id ver i0 j kk k
  split at h <;> (try (cases h; done))
  rename_i n e ha
  split at h <;> (try (cases h; done))
  rename_i sz e0 hsz he
  split at h <;> (try (cases h; done))
  rename_i h1 h2
  rw [Nat.beq_eq] at h2
  rw [getM_eq] at he
  simp only [Option.some.injEq] at h
  subst h
  refine ⟨_, ?_, ltB_ok h1⟩
  simp only [idxA, ha, hsz, he, Option.map_some, h2, if_true]
 ·cases h
def loadC (P : Program) (m : Mem) (t : TypeId) (x : AV) : Option AV :=
 match x with
 | .ref xs j =>
  match agg? P t, tsz P t with
  | some false, _ => some (xs.getD j .any)
  | some true, some n => match Nat.ble (j + n) xs.length with
   | true => some (.agg ((xs.drop j).take n))
   | false => none
  | _, _ => none
 | .optr id ver i j =>
  match rowM m id ver with
  | some (sz, l) =>
   match Nat.ble (i + 1) l.length with
   | true =>
    match agg? P t, tsz P t with
    | some false, _ => (match Nat.ble (j + 1) sz with
     | true => some ((l.getD i (zav P t)).cells.getD j .any)
     | false => none)
    | some true, some n => match Nat.ble (j + n) sz with
     | true => some (.agg (((l.getD i .any).cells.drop j).take n))
     | false => none
    | _, _ => none
   | false => none
  | none => none
 | _ => none
theorem loadC_ok {m : Mem} {t : TypeId} {x z : AV} (h : loadC P m t x = some z) : ∃ p, loadA P m t x = some (z, p) ∧ p := by
 unfold loadC at h
 split at h
 ·split at h
  ·rename_i ha
   simp only [Option.some.injEq] at h
   refine ⟨True, ?_, trivial⟩
   unfold loadA
   simp only [ha]
   rw [h]
  ·rename_i ha hn
   split at h
   ·rename_i hb
    simp only [Option.some.injEq] at h
    rw [Nat.ble_eq] at hb
    refine ⟨_, ?_, hb⟩
    unfold loadA
    simp only [ha, hn]
    rw [h]
   ·cases h
  ·cases h
 ·split at h
  ·rename_i hr
   split at h
   ·rename_i hi
    rw [Nat.ble_eq] at hi
    split at h
    ·rename_i ha
     split at h
     ·rename_i hb
      simp only [Option.some.injEq] at h
      rw [Nat.ble_eq] at hb
      subst h
      refine ⟨_, ?_, And.intro hi hb⟩
      unfold loadA
      simp only [ha, rowM_ok hr, if_true]
      rfl
     ·cases h
    ·rename_i ha hn
     split at h
     ·rename_i hb
      simp only [Option.some.injEq] at h
      rw [Nat.ble_eq] at hb
      subst h
      refine ⟨_, ?_, And.intro hi hb⟩
      unfold loadA
      simp only [ha, hn, rowM_ok hr, if_true]
      rfl
     ·cases h
    ·cases h
   ·cases h
  ·cases h
 ·cases h
def fieldAddrC (P : Program) (m : Mem) (t : TypeId) (x : AV) (f : Nat) : Option AV :=
 match fOff P t f with
 | some (o, u) =>
  match tsz P u, x with
  | some (_ + 1), .ref xs j => (match Nat.ble (j + o + 1) xs.length with
   | true => some (.ref xs (j + o))
   | false => none)
  | some (_ + 1), .optr id ver i j => (match getM m id with
   | some e => if Nat.beq e.ver ver then some (.optr id ver i (j + o)) else none
   | none => none)
  | _, _ => none
 | none => none
theorem fieldAddrC_ok {m : Mem} {t : TypeId} {x z : AV} {f : Nat} (h : fieldAddrC P m t x f = some z) : ∃ p, fieldAddrA P m t x f = some (z, p) ∧ p := by
 unfold fieldAddrC at h
 unfold fieldAddrA
 split at h
 ·rename_i o u hf
  simp only [hf]
  split at h
  ·rename_i hs
   simp only [hs]
   split at h
   ·rename_i hb
    rw [Nat.ble_eq] at hb
    simp only [Option.some.injEq] at h
    exact ⟨_, by rw [h], by omega⟩
   ·cases h
  ·rename_i hs
   simp only [hs]
   split at h
   ·rename_i e he
    rw [getM_eq] at he
    split at h
    ·rename_i hv
     rw [Nat.beq_eq] at hv
     simp only [Option.some.injEq] at h
     exact ⟨True, by rw [he]; simp only [Option.map_some, hv, if_true, h], trivial⟩
    ·cases h
   ·cases h
  ·cases h
 ·cases h
def fieldC (P : Program) (t : TypeId) (x : AV) (f : Nat) : Option AV :=
 match x with
 | .agg xs =>
  match fOff P t f with
  | some (o, u) =>
   match agg? P u, tsz P u with
   | some true, some n => some (.agg ((xs.drop o).take n))
   | some false, _ => (match Nat.ble (o + 1) xs.length with
    | true => some (xs.getD o .any)
    | false => none)
   | _, _ => none
  | none => none
 | _ => none
theorem fieldC_ok {t : TypeId} {x z : AV} {f : Nat} (h : fieldC P t x f = some z) : ∃ p, fieldA P t x f = some (z, p) ∧ p := by
 unfold fieldC at h
 split at h
 ·split at h
  ·rename_i hf
   split at h
   ·rename_i ha hn
    simp only [Option.some.injEq] at h
    exact ⟨True, by unfold fieldA; simp only [hf, ha, hn]; rw [h], trivial⟩
   ·rename_i ha
    split at h
    ·rename_i hb
     rw [Nat.ble_eq] at hb
     simp only [Option.some.injEq] at h
     subst h
     exact ⟨_, by unfold fieldA; simp only [hf, ha]; rfl, hb⟩
    ·cases h
   ·cases h
  ·cases h
 ·cases h
def indexC (P : Program) (t : TypeId) (x i : AV) : Option AV :=
 match x, i with
 | .val (.string s), .val (.int _ k) =>
  match uk P t with
  | .string => (match ltB k s.data.toList.length with
   | true => some (.byte (byteAt s k))
   | false => none)
  | _ => none
 | .agg xs, .val (.int _ k) =>
  match arT P t with
  | some (n, e) => match agg? P e, tsz P e, ltB k n with
   | some true, some sz, true => some (.agg ((xs.drop (k.toNat * sz)).take sz))
   | some false, some sz, true => (match Nat.ble (k.toNat * sz + 1) xs.length with
    | true => some (xs.getD (k.toNat * sz) .any)
    | false => none)
   | _, _, _ => none
  | none => none
 | _, _ => none
theorem indexC_ok {t : TypeId} {x i z : AV} (h : indexC P t x i = some z) : ∃ p, indexA P t x i = some (z, p) ∧ p := by
 unfold indexC at h
 split at h
 ·split at h
  ·rename_i hu
   split at h
   ·rename_i hb
    simp only [Option.some.injEq] at h
    refine ⟨_, by unfold indexA; simp only [hu]; rw [h], ?_⟩
    rw [bsize] at hb
    exact ltB_ok hb
   ·cases h
  ·cases h
 ·rename_i xs kk k
  split at h <;> (try (cases h; done))
  rename_i n e ha
  split at h
  ·rename_i sz hag hsz hk
   simp only [Option.some.injEq] at h
   subst h
   refine ⟨_, ?_, ltB_ok hk⟩
   simp only [indexA, ha, hag, hsz]
  ·rename_i sz hag hsz hk
   split at h <;> (try (cases h; done))
   rename_i h2
   rw [Nat.ble_eq] at h2
   simp only [Option.some.injEq] at h
   subst h
   refine ⟨_, ?_, And.intro (ltB_ok hk) (show k.toNat * sz < xs.length from h2)⟩
   simp only [indexA, ha, hag, hsz]
  ·cases h
 ·cases h
def boundsB (lo hi : Option AV) (len : Nat) : Option (Int × Int) :=
 match loOf lo, hiOf len hi with
 | some a, some b => match leB b len with
  | true => (match nnB a with
   | true => (match ltI b a with
    | true => none
    | false => some (a, b))
   | false => none)
  | false => none
 | _, _ => none
theorem boundsB_ok {lo hi : Option AV} {len : Nat} {a b : Int} (h : boundsB lo hi len = some (a, b)) : loOf lo = some a ∧ hiOf len hi = some b ∧ 0 ≤ a ∧ a ≤ b ∧ b ≤ (len : Int) := by
 unfold boundsB at h
 split at h
 ·rename_i a' b' h1 h2
  split at h
  ·rename_i h3
   split at h
   ·rename_i h4
    split at h
    ·cases h
    ·rename_i h5
     simp only [Option.some.injEq, Prod.mk.injEq] at h
     obtain ⟨rfl, rfl⟩ := h
     rw [ltI_eq, decide_eq_false_iff_not] at h5
     exact ⟨h1, h2, nnB_ok h4, by omega, (leB_ok h3).2⟩
   ·cases h
  ·cases h
 ·cases h
def sliceC (P : Program) (m : Mem) (t : TypeId) (x : AV) (lo hi mx : Option AV) : Option AV :=
 match mx with
 | none =>
  match x with
  | .val (.string s) =>
   (match uk P t with
   | .string => (match boundsB lo hi s.data.toList.length with
    | some (a, b) => some (.str ⟨⟨(s.data.toList.take b.toNat).drop a.toNat⟩⟩)
    | none => none)
   | _ => none)
  | .lst sz l =>
   (match uk P t with
   | .slice e => if tsz P e = some sz then (match boundsB lo hi l.length with
    | some (a, b) => some (.lst sz ((l.take b.toNat).drop a.toNat))
    | none => none) else none
   | _ => none)
  | .osl id ver off len =>
   (match uk P t with
   | .slice e => (match rowM m id ver with
    | some (sz, _) => if tsz P e = some sz then (match boundsB lo hi len with
     | some (a, b) => some (.osl id ver (off + a.toNat) (b.toNat - a.toNat))
     | none => none) else none
    | none => none)
   | _ => none)
  | .emp =>
   (match uk P t with
   | .slice e => (match tsz P e, loOf lo, hiOf 0 hi with
    | some _, some a, some b => (match eqI a 0, eqI b 0 with
     | true, true => some .emp
     | _, _ => none)
    | _, _, _ => none)
   | _ => none)
  | _ => none
 | some (.val (.int _ 0)) =>
  match lo, hi with
  | none, some (.val (.int _ 0)) =>
   (match uk P t with
   | .slice e => (match tsz P e with
    | some _ => (match x with
     | .lst _ _ => some .emp
     | .osl _ _ _ _ => some .emp
     | .emp => some .emp
     | _ => none)
    | none => none)
   | _ => none)
  | _, _ => none
 | _ => none
theorem sliceC_ok {m : Mem} {t : TypeId} {x z : AV} {lo hi mx : Option AV} (h : sliceC P m t x lo hi mx = some z) : ∃ p, sliceA P m t x lo hi mx = some (z, p) ∧ p := by
 unfold sliceC at h
 split at h
 ·split at h
  ·rename_i s
   split at h
   ·rename_i hu
    split at h
    ·rename_i a b hb
     obtain ⟨h1, h2, h3⟩ := boundsB_ok hb
     simp only [Option.some.injEq] at h
     rw [bsize] at h2 h3
     refine ⟨_, ?_, h3⟩
     unfold sliceA
     simp only [hu, h1, h2]
     have e : s.extract a.toNat b.toNat = ⟨⟨(s.data.toList.take b.toNat).drop a.toNat⟩⟩ := by
      cases hx : s.extract a.toNat b.toNat with
      | mk d =>
       have : (s.extract a.toNat b.toNat).data = s.data.extract a.toNat b.toNat := ByteArray.data_extract ..
       rw [hx] at this
       simp only at this
       rw [this]
       congr 1
       apply Array.ext'
       rw [Array.toList_extract, List.extract_eq_take_drop, List.drop_take]
     rw [e, h]
    ·cases h
   ·cases h
  ·rename_i sz l
   split at h
   ·rename_i e hu
    split at h
    ·rename_i hs
     split at h
     ·rename_i a b hb
      obtain ⟨h1, h2, h3⟩ := boundsB_ok hb
      simp only [Option.some.injEq] at h
      refine ⟨_, ?_, h3⟩
      unfold sliceA
      simp only [hu, h1, h2]
      rw [if_pos hs, cutL_eq h1 h2, h]
     ·cases h
    ·cases h
   ·cases h
  ·split at h
   ·rename_i e hu
    split at h
    ·rename_i hr
     split at h
     ·rename_i hs
      split at h
      ·rename_i a b hb
       obtain ⟨h1, h2, h3⟩ := boundsB_ok hb
       simp only [Option.some.injEq] at h
       subst h
       refine ⟨_, ?_, h3⟩
       unfold sliceA
       simp only [hu, rowM_ok hr, h1, h2]
       rw [if_pos ⟨trivial, hs⟩]
      ·cases h
     ·cases h
    ·cases h
   ·cases h
  ·split at h
   ·rename_i e hu
    split at h
    ·rename_i a b hs h1 h2
     split at h
     ·rename_i ha hb
      rw [eqI_eq, decide_eq_true_eq] at ha hb
      simp only [Option.some.injEq] at h
      subst h
      exact ⟨_, by unfold sliceA; simp only [hu, hs, h1, h2], And.intro ha hb⟩
     ·cases h
    ·cases h
   ·cases h
  ·cases h
 ·split at h
  ·split at h
   ·rename_i e hu
    split at h
    ·rename_i hs
     split at h <;> first
      | cases h; done
      | (simp only [Option.some.injEq] at h; exact ⟨True, by unfold sliceA; simp only [hu, hs]; rw [h], trivial⟩)
    ·cases h
   ·cases h
  ·cases h
 ·cases h
def fillC (pl : List (Nat × Nat)) (E : Operand → AV) : List AV → List (Nat × Operand) → Option (List AV)
 | zs, [] => some zs
 | zs, (f, x) :: rest =>
  match pl[f]? with
  | some (o, n) =>
   match Nat.beq (E x).cells.length n with
   | true => (match flatB (E x) with
    | true => (match Nat.ble (o + n) zs.length with
     | true => fillC pl E (zs.take o ++ (E x).cells ++ zs.drop (o + n)) rest
     | false => none)
    | false => none)
   | false => none
  | none => none
theorem fillC_ok {pl : List (Nat × Nat)} {E : Operand → AV} : ∀ {parts : List (Nat × Operand)} {zs ys : List AV}, fillC pl E zs parts = some ys → ∃ p, fillA pl E zs parts = some (ys, p) ∧ p
 | [], zs, ys, h => by simp only [fillC, Option.some.injEq] at h; exact ⟨True, by rw [fillA, h], trivial⟩
 | (f, x) :: rest, zs, ys, h => by
  unfold fillC at h
  split at h
  ·rename_i o n hp
   split at h
   ·rename_i h1
    rw [Nat.beq_eq] at h1
    split at h
    ·rename_i h2
     split at h
     ·rename_i h3
      rw [Nat.ble_eq] at h3
      obtain ⟨p, q1, q2⟩ := fillC_ok h
      refine ⟨_, ?_, And.intro (And.intro (flatB_ok h2) h3) q2⟩
      unfold fillA
      simp only [hp]
      rw [if_pos h1, q1]
     ·cases h
    ·cases h
   ·cases h
  ·cases h
def wideB (P : Program) (kt : TypeId) : Bool := match P.underlying kt with
 | some (.array _ _) | some (.struct _) => true
 | _ => false
def kdB (P : Program) (kt : TypeId) : Bool :=
 match uk P kt with
 | .int _ => true
 | .string => true
 | _ => match wideB P kt, Nat.ble (kt + 1) P.types.size, P.keyTypeAt 20 kt with
  | true, true, true => laidOutB P
  | _, _, _ => false
theorem kdB_ok {kt : TypeId} (h : kdB P kt = true) : Maps.Keyed P kt := by
 unfold kdB at h
 split at h
 ·rename_i k hk; exact Maps.int_keyed (uk_int hk)
 ·rename_i hk; exact Maps.string_keyed (uk_string hk)
 ·split at h
  ·rename_i h1 h2 h3
   rw [Nat.ble_eq] at h2
   exact Maps.Keyed.of_law (deep_law_laid h (m := 20) (by omega) h2 h3 (by unfold wideB at h1; split at h1 <;> simp_all))
  ·cases h
def mpM (m : Mem) (id ver : Nat) : Option (List (Value × AV)) :=
 match getM m id with
 | some ⟨v, .mp l⟩ => if Nat.beq v ver then some l else none
 | _ => none
theorem mpM_ok {m : Mem} {id ver : Nat} {l : List (Value × AV)} (h : mpM m id ver = some l) : m[id]? = some ⟨ver, .mp l⟩ := by
 unfold mpM at h
 rw [getM_eq] at h
 split at h
 ·rename_i v l' he
  split at h
  ·rename_i hv
   rw [Nat.beq_eq] at hv
   simp only [Option.some.injEq] at h
   rw [he, hv, h]
  ·cases h
 ·cases h
def keysB (P : Program) (kt : TypeId) (k : Value) (l : List (Value × AV)) : Bool :=
 match eqKey k k, goodK P kt k, goodL P kt l with
 | true, true, true => kdB P kt
 | _, _, _ => false
theorem keysB_ok {kt : TypeId} {k : Value} {l : List (Value × AV)} (h : keysB P kt k l = true) : keysOk P kt k l := by
 unfold keysB at h
 split at h
 ·rename_i h1 h2 h3; exact ⟨kdB_ok h, h1, h2, h3⟩
 ·cases h
def lookC (P : Program) (m : Mem) (ty : TypeId) (x k : AV) (c : Bool) : Option AV :=
 match x, mpT P ty, keyV k with
 | .omap id ver, some (kt, et), some kv =>
  match mpM m id ver with
  | some l =>
   match keysB P kt kv l with
   | true =>
    match findL l kv with
    | some y => (match c with
     | true => some (.tup [y, .bool true])
     | false => some y)
    | none =>
     match zAV P et with
     | some z => (match c with
      | true => some (.tup [z, .bool false])
      | false => some z)
     | none => none
   | false => none
  | none => none
 | _, _, _ => none
theorem lookC_ok {m : Mem} {ty : TypeId} {x k z : AV} {c : Bool} (h : lookC P m ty x k c = some z) : ∃ p, lookA P m ty x k c = some (z, p) ∧ p := by
 unfold lookC at h
 split at h <;> (try (cases h; done))
 rename_i id ver kt et kv hmt hkv
 split at h <;> (try (cases h; done))
 rename_i l hm
 split at h <;> (try (cases h; done))
 rename_i hk
 have hm' := mpM_ok hm
 refine ⟨keysOk P kt kv l, ?_, keysB_ok hk⟩
 unfold lookA
 simp only [hmt, hkv, hm', if_true]
 split at h
 ·rename_i y hy
  simp only [hy]
  cases c <;> simp only [Option.some.injEq] at h <;> rw [h]
 ·rename_i hy
  simp only [hy]
  split at h <;> (try (cases h; done))
  rename_i z0 hz
  simp only [hz]
  cases c <;> simp only [Option.some.injEq] at h <;> rw [h]
def evC (P : Program) (t : List (Nat × AV)) (m : Mem) (op : Op) : Option AV :=
 match op with
 | .move x => some (evoC t x)
 | .assign x => some (evoC t x)
 | .binOp op xt x y _ => binC P op xt (evoC t x) (evoC t y)
 | .extract x i => (match evoC t x with
  | .tup xs => (match Nat.ble (i + 1) xs.length with
   | true => some (xs.getD i .any)
   | false => none)
  | _ => none)
 | .indexAddr ty x i => idxC P m ty (evoC t x) (evoC t i)
 | .load ty x => loadC P m ty (evoC t x)
 | .fieldAddr ty x f => fieldAddrC P m ty (evoC t x) f
 | .field ty x f => fieldC P ty (evoC t x) f
 | .index ty x i => indexC P ty (evoC t x) (evoC t i)
 | .slice ty x lo hi mx => sliceC P m ty (evoC t x) (lo.map (evoC t)) (hi.map (evoC t)) (mx.map (evoC t))
 | .build ty parts => (match fplaces P ty, zAV P ty with
  | some pl, some (.agg zs) => (match fillC pl (evoC t) zs parts.toList with
   | some xs => some (.agg xs)
   | none => none)
  | _, _ => none)
 | .unOp op ty x => (match ev P (evoC t) (evoC t) m (.unOp op ty x) with
  | some (z, _) => some z
  | none => none)
 | .convert a b x => (match ev P (evoC t) (evoC t) m (.convert a b x) with
  | some (z, _) => some z
  | none => none)
 | .call c => (match callA P (evoC t) c with
  | some (z, _) => some z
  | none => none)
 | .makeFunc a b c => (match ev P (evoC t) (evoC t) m (.makeFunc a b c) with
  | some (z, _) => some z
  | none => none)
 | .nilCheck x => (match ev P (evoC t) (evoC t) m (.nilCheck x) with
  | some (z, _) => some z
  | none => none)
 | .lookup ty x k c => lookC P m ty (evoC t x) (evoC t k) c
 | _ => none
theorem evC_ok {t : List (Nat × AV)} {m : Mem} {op : Op} {z : AV} (h : evC P t m op = some z) : ∃ p, ev P (evo t) (evo t) m op = some (z, p) ∧ p := by
 unfold evC at h
 rw [evoC_eq] at h
 split at h
 ·exact ⟨True, by simp only [Option.some.injEq] at h; simp [ev, h], trivial⟩
 ·exact ⟨True, by simp only [Option.some.injEq] at h; simp [ev, h], trivial⟩
 ·exact binC_ok h
 ·split at h
  ·rename_i xs hx
   split at h
   ·rename_i hb
    rw [Nat.ble_eq] at hb
    simp only [Option.some.injEq] at h
    subst h
    exact ⟨_, by simp only [ev, hx]; rfl, hb⟩
   ·cases h
  ·cases h
 ·exact idxC_ok h
 ·exact loadC_ok h
 ·exact fieldAddrC_ok h
 ·exact fieldC_ok h
 ·exact indexC_ok h
 ·exact sliceC_ok h
 ·split at h
  ·rename_i h1 h2
   split at h
   ·rename_i xs h3
    obtain ⟨p, q1, q2⟩ := fillC_ok h3
    simp only [Option.some.injEq] at h
    exact ⟨p, by simp only [ev, buildA, h1, h2, q1, h], q2⟩
   ·cases h
  ·cases h
 ·split at h
  ·rename_i z' p hz
   simp only [Option.some.injEq] at h; subst h
   refine ⟨p, hz, ?_⟩
   simp only [ev, unA] at hz
   split at hz <;> simp at hz <;> exact hz.2
  ·cases h
 ·split at h
  ·rename_i z' p hz
   simp only [Option.some.injEq] at h; subst h
   refine ⟨p, hz, ?_⟩
   simp only [ev, convA] at hz
   split at hz <;> simp at hz <;> exact hz.2
  ·cases h
 ·split at h
  ·rename_i c z' p hz
   simp only [Option.some.injEq] at h; subst h
   refine ⟨p, hz, ?_⟩
   have hmm : ∀ (x y : AV), (∀ q, minA x y = some (z', q) → q) ∧ (∀ q, maxA x y = some (z', q) → q) := by
    intro x y
    constructor <;> intro q hq <;> simp only [minA, maxA] at hq <;> split at hq <;> simp at hq <;> exact hq.2
   unfold callA at hz
   split at hz
   ·split at hz
    ·split at hz <;> simp at hz <;> exact hz.2
    ·cases hz
   ·split at hz
    ·split at hz <;> simp at hz <;> exact hz.2
    ·cases hz
   ·split at hz
    ·exact (hmm _ _).1 _ hz
    ·cases hz
   ·split at hz
    ·exact (hmm _ _).2 _ hz
    ·cases hz
   ·cases hz
  ·cases h
 ·split at h
  ·rename_i z' p hz
   simp only [Option.some.injEq] at h; subst h
   refine ⟨p, hz, ?_⟩
   simp only [ev] at hz
   split at hz
   ·simp at hz; exact hz.2
   ·split at hz
    ·simp at hz; exact hz.2
    ·cases hz
   ·cases hz
  ·cases h
 ·split at h
  ·rename_i z' p hz
   simp only [Option.some.injEq] at h; subst h
   refine ⟨p, hz, ?_⟩
   simp only [ev] at hz
   split at hz
   ·simp at hz; exact hz.2
   ·split at hz
    ·simp at hz; exact hz.2
    ·cases hz
   ·simp at hz; exact hz.2
   ·cases hz
  ·cases h
 ·exact lookC_ok h
 ·cases h
end Go.Vg
