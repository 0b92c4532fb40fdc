/- The abstract machine, part Vg: a region that draws its order and makes and changes memory several times, over entries that are new; what reads that memory stands behind all that was done before it. -/
import Derived.Test.YtljchlkmalidnaaVgVe
set_option linter.all false
set_option linter.unusedVariables false
set_option linter.unusedSimpArgs false
namespace Go.Vg
open Go.RowKit
variable {P : Program} {X : Nat → Prop} {w : World} {ρ : Rho}

/-- an operation that writes into an entry or appends to its row: it needs that entry alone -/
def stE (P : Program) (ty : TypeId) (a x : AV) (e0 : Ent) : Option (Nat × Ent × AV × Prop) :=
  match a with
  | .optr id ver i j =>
    match e0 with
    | ⟨v, .row sz l⟩ =>
      if v = ver ∧ tsz P ty = some x.cells.length then
        (if sz = 1 then some (id, ⟨ver, .row sz (l.set i x)⟩, .any, i < l.length ∧ j = 0 ∧ x.one)
         else match l.getD i .any with
          | .agg xs => some (id, ⟨ver, .row sz (l.set i (updE (.agg xs) j x))⟩, .any, i < l.length ∧ j + x.cells.length ≤ sz ∧ x.flat)
          | _ => none)
      else none
    | _ => none
  | _ => none
theorem stE_ok {ty : TypeId} {a x y : AV} {e0 e1 : Ent} {id : Nat} {p : Prop} {m : Mem} (h : stE P ty a x e0 = some (id, e1, y, p)) (hid : m[id]? = some e0) : storeA P m ty a x = some (m.set id e1, y, p) := by
  unfold stE at h
  split at h <;> (try (cases h; done))
  rename_i id' ver i j
  split at h <;> (try (cases h; done))
  rename_i v sz l
  split at h <;> (try (cases h; done))
  rename_i hv
  have hid' : id' = id := by
    split at h
    · simp only [Option.some.injEq, Prod.mk.injEq] at h; exact h.1
    · split at h
      · simp only [Option.some.injEq, Prod.mk.injEq] at h; exact h.1
      · cases h
  subst hid'
  unfold storeA
  simp only [hid]
  rw [if_pos hv]
  split at h
  · rename_i h1
    rw [if_pos h1]
    simp only [Option.some.injEq, Prod.mk.injEq, true_and] at h
    obtain ⟨rfl, rfl, rfl⟩ := h
    rfl
  · rename_i h1
    rw [if_neg h1]
    split at h
    · rename_i xs hx
      rw [hx]
      simp only [Option.some.injEq, Prod.mk.injEq, true_and] at h
      obtain ⟨rfl, rfl, rfl⟩ := h
      rfl
    · cases h
def apE (P : Program) (t u : TypeId) (d x : AV) (e0 : Ent) : Option (Nat × Ent × AV × Prop) :=
  match uk P t, uk P u, x with
  | .slice e, .slice _, .lst sz' new =>
    match tsz P e, tby P e with
    | some sz, some by_ =>
      if elB P e = true then
        match d, e0 with
        | .osl id ver off len, ⟨v, .row sz0 l⟩ =>
          if v = ver ∧ sz0 = sz then
            some (id, ⟨ver + 1, .row sz ((l.drop off).take len ++ new)⟩, .osl id (ver + 1) 0 (len + new.length),
              off + len ≤ l.length ∧ (len + new.length) * by_ ≤ 140737488355328 ∧ len + new.length ≤ 9223372036854775807 ∧ (new ≠ [] → sz' = sz))
          else none
        | _, _ => none
      else none
    | _, _ => none
  | _, _, _ => none
theorem apE_ok {t u : TypeId} {d x y : AV} {e0 e1 : Ent} {id : Nat} {p : Prop} {m : Mem} (h : apE P t u d x e0 = some (id, e1, y, p)) (hp : p) (hid : m[id]? = some e0) : ∃ q, appA P m t u d x = some (m.set id e1, y, q) ∧ q := by
  unfold apE at h
  split at h <;> (try (cases h; done))
  rename_i e e' sz' new hut huu
  split at h <;> (try (cases h; done))
  rename_i sz by_ hsz hby
  split at h <;> (try (cases h; done))
  rename_i hel
  split at h <;> (try (cases h; done))
  rename_i id' ver off len v sz0 l
  split at h <;> (try (cases h; done))
  rename_i hv
  simp only [Option.some.injEq, Prod.mk.injEq] at h
  obtain ⟨rfl, rfl, rfl, rfl⟩ := h
  obtain ⟨p1, p2, p3, p4⟩ := hp
  unfold appA appA0
  simp only [hut, huu, hsz, hby, rowOf, hid]
  rw [if_pos hel, if_pos hv]
  exact ⟨_, rfl, p1, p2, p3, trivial, trivial, p4⟩
def evE (P : Program) (E : Operand → AV) (e0 : Ent) (op : Op) : Option (Nat × Ent × AV × Prop) :=
  match op with
  | .store ty a v => stE P ty (E a) (E v) e0
  | .call c =>
    match c.callee with
    | .builtin .append =>
      match c.args.toList, c.argTypes.toList with
      | [d, x], [t, u] => apE P t u (E d) (E x) e0
      | _, _ => none
    | _ => none
  | _ => none
theorem evE_ok {E : Operand → AV} {op : Op} {x : AV} {e0 e1 : Ent} {id : Nat} {p : Prop} {m : Mem} (h : evE P E e0 op = some (id, e1, x, p)) (hp : p) (hid : m[id]? = some e0) : ∃ q, effA P E m op = some (m.set id e1, x, q) ∧ q := by
  unfold evE at h
  split at h <;> (try (cases h; done))
  · exact ⟨p, by unfold effA; exact stE_ok h hid, hp⟩
  · rename_i c
    split at h <;> (try (cases h; done))
    rename_i hc
    split at h <;> (try (cases h; done))
    rename_i d y t u hargs htys
    obtain ⟨q, h1, h2⟩ := apE_ok h hp hid
    exact ⟨q, by unfold effA; simp only [hc, hargs, htys]; exact h1, h2⟩

/-- the new entries, by what was done -/
def layG : List (Nat × Nat × Ent) → List Bool → Mem → Mem
  | e :: es, b :: bs, M => layG es bs (if b = true then M.set e.2.1 e.2.2 else M)
  | _, _, M => M
def trues (l : List (Nat × Nat × Ent)) : List Bool := l.map fun _ => true
def falses (l : List (Nat × Nat × Ent)) : List Bool := l.map fun _ => false
theorem layG_len : ∀ (es : List (Nat × Nat × Ent)) (bs : List Bool) (M : Mem), (layG es bs M).length = M.length
  | [], _, _ => by simp [layG]
  | _ :: _, [], _ => by simp [layG]
  | e :: es, b :: bs, M => by
    simp only [layG]
    rw [layG_len es bs]
    split <;> simp
theorem layG_get {j : Nat} : ∀ (es : List (Nat × Nat × Ent)) (bs bs' : List Bool) (M M' : Mem), bs.length = es.length → bs'.length = es.length → M.length = M'.length → M[j]? = M'[j]? → (∀ (i : Nat) (e : Nat × Nat × Ent), es[i]? = some e → e.2.1 = j → bs[i]? = bs'[i]?) → (layG es bs M)[j]? = (layG es bs' M')[j]?
  | [], bs, bs', M, M', _, _, _, h, _ => by simpa [layG] using h
  | e :: es, [], _, _, _, h, _, _, _, _ => by simp at h
  | e :: es, _ :: _, [], _, _, _, h, _, _, _ => by simp at h
  | e :: es, b :: bs, b' :: bs', M, M', h1, h2, h3, h4, h5 => by
    simp only [layG]
    refine layG_get es bs bs' _ _ (by simpa using h1) (by simpa using h2) (by split <;> split <;> simp [h3]) ?_ (fun i e' hi he => by simpa using h5 (i + 1) e' (by simpa using hi) he)
    by_cases he : e.2.1 = j
    · have hb : b = b' := by simpa using h5 0 e rfl he
      subst hb
      split
      · simp only [List.getElem?_set, he, if_true, h3]
      · exact h4
    · have hs : ∀ (c : Bool) (N : Mem), (if c = true then N.set e.2.1 e.2.2 else N)[j]? = N[j]? := fun c N => by
        split
        · rw [List.getElem?_set_ne he]
        · rfl
      rw [hs, hs]; exact h4
theorem layG_app : ∀ (a b : List (Nat × Nat × Ent)) (x y : List Bool) (M : Mem), x.length = a.length → layG (a ++ b) (x ++ y) M = layG b y (layG a x M)
  | [], b, [], y, M, _ => by simp [layG]
  | [], b, _ :: _, y, M, h => by simp at h
  | e :: a, b, [], y, M, h => by simp at h
  | e :: a, b, c :: x, y, M, h => by
    simp only [List.cons_append, layG]
    exact layG_app a b x y _ (by simpa using h)
theorem layG_falses : ∀ (l : List (Nat × Nat × Ent)) (M : Mem), layG l (falses l) M = M
  | [], M => by simp [layG, falses]
  | e :: l, M => by
    have := layG_falses l M
    unfold falses at this ⊢
    simp only [List.map_cons, layG]
    simpa using this
theorem trues_len (l : List (Nat × Nat × Ent)) : (trues l).length = l.length := by simp [trues]
theorem setB_get {es : List Nat} {k : Nat} {bits : List Bool} (hl : bits.length = es.length) {i e : Nat} (he : es[i]? = some e) : (setB es k bits)[i]? = if e = k then some true else bits[i]? := by
  have hi : i < es.length := (List.getElem?_eq_some_iff.1 he).1
  have hib : i < bits.length := by omega
  unfold setB
  rw [List.getElem?_map, List.getElem?_eq_getElem hib]
  have hz : (es.zip bits)[i]? = some (e, bits[i]) := by
    rw [List.getElem?_zip_eq_some]
    exact ⟨he, List.getElem?_eq_getElem hib⟩
  rw [hz]
  by_cases h : e = k <;> simp [h]
theorem setB_len {es : List Nat} {k : Nat} {bits : List Bool} (hl : bits.length = es.length) : (setB es k bits).length = es.length := by
  unfold setB; simp; omega
theorem cons_get {ops : List Oper} {es : List Nat} {k : Nat} {bits : List Bool} (h : bits ∈ consL ops es k) : bits.length = es.length ∧ ∀ (i e : Nat), es[i]? = some e → (e = k → bits[i]? = some false) ∧ (e ≠ k → before ops e k = true → bits[i]? = some true) ∧ (e ≠ k → before ops e k = false → before ops k e = true → bits[i]? = some false) := by
  obtain ⟨h1, h2⟩ := List.mem_filter.1 h
  have hl := allB_len h1
  refine ⟨hl, fun i e he => ?_⟩
  have hi : i < es.length := (List.getElem?_eq_some_iff.1 he).1
  have hib : i < bits.length := by omega
  have hz : (e, bits[i]) ∈ es.zip bits := by
    refine List.mem_of_getElem? (i := i) ?_
    rw [List.getElem?_zip_eq_some]
    exact ⟨he, List.getElem?_eq_getElem hib⟩
  unfold consB at h2
  have h3 := List.all_eq_true.1 h2 _ hz
  simp only [Bool.and_eq_true] at h3
  have h4 := h3.1
  rw [List.getElem?_eq_getElem hib]
  refine ⟨fun hk => ?_, fun hk hb => ?_, fun hk hb1 hb2 => ?_⟩
  · rw [if_pos hk] at h4; simpa using h4
  · rw [if_neg hk, if_pos hb] at h4; rw [h4]
  · rw [if_neg hk, hb1, hb2] at h4; simpa using h4
def pairsB (f : Nat × Nat → Nat × Nat → Bool) : List (Nat × Nat) → Bool
  | [] => true
  | a :: l => l.all (f a) && pairsB f l
def okG (ops : List Oper) (ev : List (Nat × Nat)) (sq : List Nat) : Bool :=
  pairsB (fun a b => !(a.2 == b.2) || (before ops a.1 b.1 && !before ops b.1 a.1)) ev &&
  sq.all fun s => ev.all fun e => if Nat.blt e.1 s then before ops e.1 s else before ops s e.1 && !before ops e.1 s
theorem pairsB_get {f : Nat × Nat → Nat × Nat → Bool} : ∀ {l : List (Nat × Nat)}, pairsB f l = true → ∀ (i i' : Nat) (a b : Nat × Nat), i < i' → l[i]? = some a → l[i']? = some b → f a b = true
  | [], _, i, i', a, b, _, h, _ => by simp at h
  | x :: l, h, i, i', a, b, hi, ha, hb => by
    simp only [pairsB, Bool.and_eq_true] at h
    cases i' with
    | zero => omega
    | succ i' =>
      cases i with
      | zero =>
        simp at ha hb; subst ha
        exact List.all_eq_true.1 h.1 b (List.mem_of_getElem? hb)
      | succ i => exact pairsB_get h.2 i i' a b (by omega) (by simpa using ha) (by simpa using hb)

inductive AbsG (P : Program) (gds : List (Option Nat)) (m : Mem) (n : Nat) : Nat → Mem → List Oper → List (Nat × AV) → List (Nat × AV) → List (Nat × Nat × Ent) → List Nat → Mem → Prop where
  | nil {k : Nat} {acc : Mem} {t : List (Nat × AV)} : AbsG P gds m n k acc [] t t [] [] acc
  | cons {k : Nat} {acc acc' : Mem} {o : Oper} {l : List Oper} {t t' : List (Nat × AV)} {x : AV} {es : List (Nat × Nat × Ent)} {sq : List Nat} : dstB n o.dst = true → (∀ z : Mem, StepAt P gds t (m ++ z) o (m ++ z) x) → AbsG P gds m n (k + 1) acc l (upd t o.dst x) t' es sq acc' → AbsG P gds m n k acc (o :: l) t t' es sq acc'
  | evt {k j : Nat} {acc acc' : Mem} {o : Oper} {l : List Oper} {t t' : List (Nat × AV)} {x : AV} {e0 e1 : Ent} {es : List (Nat × Nat × Ent)} {sq : List Nat} : dstB n o.dst = true → acc[j]? = some e0 → (∀ m' : Mem, m'.take m.length = m → m'[m.length + j]? = some e0 → StepAt P gds t m' o (m'.set (m.length + j) e1) x) → AbsG P gds m n (k + 1) (acc.set j e1) l (upd t o.dst x) t' es sq acc' → AbsG P gds m n k acc (o :: l) t t' ((k, j, e1) :: es) sq acc'
  | seq {k : Nat} {acc acc' : Mem} {o : Oper} {l : List Oper} {t t' : List (Nat × AV)} {x : AV} {es : List (Nat × Nat × Ent)} {sq : List Nat} : dstB n o.dst = true → StepAt P gds t (m ++ acc) o (m ++ acc) x → AbsG P gds m n (k + 1) acc l (upd t o.dst x) t' es sq acc' → AbsG P gds m n k acc (o :: l) t t' es (k :: sq) acc'
theorem AbsG.lower {gds : List (Option Nat)} {m : Mem} {n : Nat} : ∀ {k : Nat} {acc acc' : Mem} {l : List Oper} {t t' : List (Nat × AV)} {es : List (Nat × Nat × Ent)} {sq : List Nat}, AbsG P gds m n k acc l t t' es sq acc' → ∀ e ∈ es, k ≤ e.1 ∧ e.1 < k + l.length
  | _, _, _, _, _, _, _, _, .nil => by simp
  | _, _, _, _, _, _, _, _, .cons _ _ h => fun e he => by have := h.lower e he; simp; omega
  | _, _, _, _, _, _, _, _, .evt _ _ _ h => fun e he => by
    rcases List.mem_cons.1 he with rfl | he
    · simp
    · have := h.lower e he; simp; omega
  | _, _, _, _, _, _, _, _, .seq _ _ h => fun e he => by have := h.lower e he; simp; omega
theorem layG_set {pre rest : List (Nat × Nat × Ent)} {k j : Nat} {e1 : Ent} {M0 : Mem} {bits : List Bool} {ops : List Oper} (hj : j < M0.length) (hb : bits ∈ consL ops ((pre ++ (k, j, e1) :: rest).map (·.1)) k)
    (hp : ∀ e ∈ pre, e.1 < k ∧ (e.2.1 = j → before ops e.1 k = true)) (hr : ∀ e ∈ rest, k < e.1 ∧ (e.2.1 = j → before ops k e.1 = true ∧ before ops e.1 k = false)) :
    (layG (pre ++ (k, j, e1) :: rest) bits M0)[j]? = (layG pre (trues pre) M0)[j]? ∧ layG (pre ++ (k, j, e1) :: rest) (setB ((pre ++ (k, j, e1) :: rest).map (·.1)) k bits) M0 = (layG (pre ++ (k, j, e1) :: rest) bits M0).set j e1 := by
  obtain ⟨hl, hg⟩ := cons_get hb
  have hl' : bits.length = (pre ++ (k, j, e1) :: rest).length := by simpa using hl
  have hget : ∀ (i : Nat) (e : Nat × Nat × Ent), (pre ++ (k, j, e1) :: rest)[i]? = some e → ((pre ++ (k, j, e1) :: rest).map (·.1))[i]? = some e.1 := fun i e he => by rw [List.getElem?_map, he]; rfl
  have hcase : ∀ (i : Nat) (e : Nat × Nat × Ent), (pre ++ (k, j, e1) :: rest)[i]? = some e → (i < pre.length ∧ e ∈ pre) ∨ (i = pre.length ∧ e = (k, j, e1)) ∨ (pre.length < i ∧ e ∈ rest) := by
    intro i e he
    rcases Nat.lt_trichotomy i pre.length with h | h | h
    · rw [List.getElem?_append_left h] at he
      exact .inl ⟨h, List.mem_of_getElem? he⟩
    · rw [List.getElem?_append_right (by omega), h, Nat.sub_self] at he
      simp at he
      exact .inr (.inl ⟨h, he.symm⟩)
    · rw [List.getElem?_append_right (by omega), show i - pre.length = (i - pre.length - 1) + 1 by omega, List.getElem?_cons_succ] at he
      exact .inr (.inr ⟨h, List.mem_of_getElem? he⟩)
  have hbt : ∀ (b : Bool) (i : Nat), (trues pre ++ b :: falses rest)[i]? = if i < pre.length then some true else if i = pre.length then some b else if i < pre.length + 1 + rest.length then some false else none := by
    intro b i
    split
    · rename_i h
      rw [List.getElem?_append_left (by rw [trues_len]; exact h)]
      simp [trues, h]
    · rename_i h
      rw [List.getElem?_append_right (by rw [trues_len]; omega), trues_len]
      split
      · rename_i h2
        rw [h2]; simp
      · rename_i h2
        rw [show i - pre.length = (i - pre.length - 1) + 1 by omega, List.getElem?_cons_succ]
        unfold falses
        rw [List.getElem?_map]
        split
        · rename_i h3
          rw [List.getElem?_eq_getElem (by omega)]; rfl
        · rename_i h3
          rw [List.getElem?_eq_none (by omega)]; rfl
  have hlt : ∀ b : Bool, (trues pre ++ b :: falses rest).length = (pre ++ (k, j, e1) :: rest).length := fun b => by simp [trues, falses]
  have hev : ∀ b : Bool, layG (pre ++ (k, j, e1) :: rest) (trues pre ++ b :: falses rest) M0 = if b = true then (layG pre (trues pre) M0).set j e1 else layG pre (trues pre) M0 := by
    intro b
    rw [layG_app _ _ _ _ _ (trues_len pre)]
    simp only [layG, layG_falses]
  refine ⟨?_, ?_⟩
  · rw [layG_get (j := j) _ bits (trues pre ++ false :: falses rest) M0 M0 hl' (hlt false) rfl rfl ?_, hev]
    · simp
    · intro i e he hej
      obtain ⟨g1, g2, g3⟩ := hg i e.1 (hget i e he)
      have hil : i < (pre ++ (k, j, e1) :: rest).length := (List.getElem?_eq_some_iff.1 he).1
      simp only [List.length_append, List.length_cons] at hil
      rw [hbt]
      rcases hcase i e he with ⟨h, hm⟩ | ⟨h, rfl⟩ | ⟨h, hm⟩
      · rw [if_pos h]
        have := hp e hm
        exact g2 (by omega) (this.2 hej)
      · rw [if_neg (by omega), if_pos h]
        exact g1 rfl
      · rw [if_neg (by omega), if_neg (by omega), if_pos (by omega)]
        have := hr e hm
        exact g3 (by omega) (this.2 hej).2 (this.2 hej).1
  · refine List.ext_getElem? fun j' => ?_
    have hsl : (setB ((pre ++ (k, j, e1) :: rest).map (·.1)) k bits).length = (pre ++ (k, j, e1) :: rest).length := by rw [setB_len hl]; simp
    by_cases hjj : j' = j
    · subst hjj
      rw [List.getElem?_set_self (by rw [layG_len]; exact hj)]
      rw [layG_get (j := j') _ _ (trues pre ++ true :: falses rest) M0 M0 hsl (hlt true) rfl rfl ?_, hev]
      · rw [if_pos rfl, List.getElem?_set_self (by rw [layG_len]; exact hj)]
      · intro i e he hej
        obtain ⟨g1, g2, g3⟩ := hg i e.1 (hget i e he)
        have hil : i < (pre ++ (k, j', e1) :: rest).length := (List.getElem?_eq_some_iff.1 he).1
        simp only [List.length_append, List.length_cons] at hil
        rw [setB_get hl (hget i e he), hbt]
        rcases hcase i e he with ⟨h, hm⟩ | ⟨h, rfl⟩ | ⟨h, hm⟩
        · have := hp e hm
          rw [if_neg (by omega), if_pos h]
          exact g2 (by omega) (this.2 hej)
        · rw [if_pos rfl, if_neg (by omega), if_pos h]
        · have := hr e hm
          rw [if_neg (by omega), if_neg (by omega), if_neg (by omega), if_pos (by omega)]
          exact g3 (by omega) (this.2 hej).2 (this.2 hej).1
    · rw [List.getElem?_set_ne (Ne.symm hjj)]
      refine layG_get (j := j') _ _ bits M0 M0 hsl hl' rfl rfl fun i e he hej => ?_
      rw [setB_get hl (hget i e he)]
      rcases hcase i e he with ⟨h, hm⟩ | ⟨h, rfl⟩ | ⟨h, hm⟩
      · have := hp e hm
        rw [if_neg (by omega)]
      · exact absurd hej.symm hjj
      · have := hr e hm
        rw [if_neg (by omega)]
theorem AbsG.toM {gds : List (Option Nat)} {ops : List Oper} {m : Mem} {n : Nat} {M0 : Mem} {all0 : List (Nat × Nat × Ent)} {sq0 : List Nat} (hok : okG ops (all0.map fun e => (e.1, e.2.1)) sq0 = true) : ∀ {k : Nat} {acc acc' : Mem} {l : List Oper} {t t' : List (Nat × AV)} {es : List (Nat × Nat × Ent)} {sq : List Nat}, AbsG P gds m n k acc l t t' es sq acc' →
    ∀ (pre : List (Nat × Nat × Ent)) (spre : List Nat), all0 = pre ++ es → sq0 = spre ++ sq → (∀ e ∈ pre, e.1 < k) → acc = layG pre (trues pre) M0 → AbsM P gds ops (all0.map (·.1)) (fun bits => m ++ layG all0 bits M0) n k l t t' ∧ acc' = layG all0 (trues all0) M0
  | k, acc, _, _, _, _, _, _, .nil, pre, spre, h1, h2, h3, h4 => by
    rw [List.append_nil] at h1
    subst h1
    exact ⟨.nil, h4⟩
  | k, acc, _, _, _, _, es, sq, .cons (o := o) (l := l) a1 a2 a3, pre, spre, h1, h2, h3, h4 => by
    obtain ⟨q1, q2⟩ := AbsG.toM (M0 := M0) hok a3 pre spre h1 h2 (fun e he => by have := h3 e he; omega) h4
    refine ⟨.cons (dstB_ok a1) (fun bits hb => ?_) q1, q2⟩
    have hl := (cons_get hb).1
    have hno : setB (all0.map (·.1)) k bits = bits := by
      refine setB_not' (fun e he => ?_) bits hl
      obtain ⟨e', he', rfl⟩ := List.mem_map.1 he
      rw [h1] at he'
      rcases List.mem_append.1 he' with h | h
      · have := h3 e' h; omega
      · have := a3.lower e' h; omega
    simp only [hno]
    exact a2 _
  | k, acc, _, _, t, _, _, sq, .evt (j := j) (o := o) (l := l) (x := x) (e0 := e0) (e1 := e1) (es := es) a1 a2 a3 a4, pre, spre, h1, h2, h3, h4 => by
    have hjl : j < M0.length := by
      have := (List.getElem?_eq_some_iff.1 a2).1
      rw [h4, layG_len] at this; exact this
    obtain ⟨q1, q2⟩ := AbsG.toM (M0 := M0) hok a4 (pre ++ [(k, j, e1)]) spre (by rw [h1]; simp) h2 (fun e he => by
      rcases List.mem_append.1 he with h | h
      · have := h3 e h; omega
      · simp at h; subst h; simp) (by
      have : trues (pre ++ [(k, j, e1)]) = trues pre ++ [true] := by simp [trues]
      rw [this, layG_app _ _ _ _ _ (trues_len pre), h4]
      simp [layG])
    refine ⟨.cons (dstB_ok a1) (fun bits hb => ?_) q1, q2⟩
    subst h1
    simp only [okG, Bool.and_eq_true] at hok
    have hpair := pairsB_get hok.1
    have hmap : ∀ (i : Nat) (e : Nat × Nat × Ent), (pre ++ (k, j, e1) :: es)[i]? = some e → ((pre ++ (k, j, e1) :: es).map fun e => (e.1, e.2.1))[i]? = some (e.1, e.2.1) := fun i e he => by rw [List.getElem?_map, he]; rfl
    have hk : (pre ++ (k, j, e1) :: es)[pre.length]? = some (k, j, e1) := by rw [List.getElem?_append_right (Nat.le_refl _)]; simp
    obtain ⟨s1, s2⟩ := layG_set (M0 := M0) hjl hb (fun e he => ⟨h3 e he, fun hej => by
      obtain ⟨i, hi⟩ := List.getElem?_of_mem he
      have hil := (List.getElem?_eq_some_iff.1 hi).1
      have := hpair i pre.length _ _ hil (hmap i e (by rw [List.getElem?_append_left hil]; exact hi)) (hmap _ _ hk)
      simp only [hej, beq_self_eq_true, Bool.not_true, Bool.false_or, Bool.and_eq_true] at this
      exact this.1⟩) (fun e he => ⟨by have := a4.lower e he; omega, fun hej => by
      obtain ⟨i, hi⟩ := List.getElem?_of_mem he
      have := hpair pre.length (pre.length + 1 + i) _ _ (by omega) (hmap _ _ hk) (hmap _ e (by rw [List.getElem?_append_right (by omega), show pre.length + 1 + i - pre.length = i + 1 by omega]; simpa using hi))
      simp only [hej, beq_self_eq_true, Bool.not_true, Bool.false_or, Bool.and_eq_true, Bool.not_eq_true'] at this
      exact this⟩)
    have hacc : (layG (pre ++ (k, j, e1) :: es) bits M0)[j]? = some e0 := by rw [s1, ← h4]; exact a2
    have := a3 (m ++ layG (pre ++ (k, j, e1) :: es) bits M0) (by simp) (by rw [List.getElem?_append_right (by omega), Nat.add_sub_cancel_left]; exact hacc)
    rw [List.set_append_right _ _ (by omega), Nat.add_sub_cancel_left] at this
    simp only [s2]
    exact this
  | k, acc, _, _, _, _, es, _, .seq (o := o) (l := l) (sq := sq) a1 a2 a3, pre, spre, h1, h2, h3, h4 => by
    obtain ⟨q1, q2⟩ := AbsG.toM (M0 := M0) hok a3 pre (spre ++ [k]) h1 (by rw [h2]; simp) (fun e he => by have := h3 e he; omega) h4
    refine ⟨.cons (dstB_ok a1) (fun bits hb => ?_) q1, q2⟩
    obtain ⟨hl, hg⟩ := cons_get hb
    have hno : setB (all0.map (·.1)) k bits = bits := by
      refine setB_not' (fun e he => ?_) bits hl
      obtain ⟨e', he', rfl⟩ := List.mem_map.1 he
      rw [h1] at he'
      rcases List.mem_append.1 he' with h | h
      · have := h3 e' h; omega
      · have := a3.lower e' h; omega
    have hbits : bits = trues pre ++ falses es := by
      simp only [okG, Bool.and_eq_true] at hok
      have hs := List.all_eq_true.1 hok.2 k (by rw [h2]; simp)
      have hse : ∀ e ∈ all0, (if Nat.blt e.1 k then before ops e.1 k else before ops k e.1 && !before ops e.1 k) = true := fun e he => List.all_eq_true.1 hs (e.1, e.2.1) (List.mem_map.2 ⟨e, he, rfl⟩)
      have hla : bits.length = pre.length + es.length := by rw [hl, h1]; simp
      refine List.ext_getElem? fun i => ?_
      rcases Nat.lt_or_ge i (pre.length + es.length) with hi | hi
      · have hie : i < all0.length := by rw [h1]; simpa using hi
        have hm : all0[i]? = some all0[i] := List.getElem?_eq_getElem hie
        obtain ⟨g1, g2, g3⟩ := hg i (all0[i]).1 (by rw [List.getElem?_map, hm]; rfl)
        have hse' := hse _ (List.mem_of_getElem? hm)
        rcases Nat.lt_or_ge i pre.length with h | h
        · have hin : all0[i] ∈ pre := by
            have : all0[i]? = pre[i]? := by rw [h1, List.getElem?_append_left h]
            rw [hm] at this
            exact List.mem_of_getElem? this.symm
          have hlt := h3 _ hin
          rw [if_pos (by simpa [Nat.blt_eq] using hlt)] at hse'
          rw [g2 (by omega) hse', List.getElem?_append_left (by rw [trues_len]; exact h)]
          simp [trues, h]
        · have hin : all0[i] ∈ es := by
            have : all0[i]? = es[i - pre.length]? := by rw [h1, List.getElem?_append_right h]
            rw [hm] at this
            exact List.mem_of_getElem? this.symm
          have hlt := a3.lower _ hin
          rw [if_neg (by simp [Nat.blt_eq]; omega)] at hse'
          simp only [Bool.and_eq_true, Bool.not_eq_true'] at hse'
          rw [g3 (by omega) hse'.2 hse'.1, List.getElem?_append_right (by rw [trues_len]; exact h), trues_len]
          unfold falses
          rw [List.getElem?_map, List.getElem?_eq_getElem (by omega)]; rfl
      · rw [List.getElem?_eq_none (by omega), List.getElem?_eq_none (by simp [trues, falses]; omega)]
    have hlay : layG all0 bits M0 = acc := by
      rw [hbits, h1, layG_app _ _ _ _ _ (trues_len pre), layG_falses, h4]
    simp only [hno, hlay]
    exact a2
theorem AbsG.asc {gds : List (Option Nat)} {m : Mem} {n : Nat} {k : Nat} {acc acc' : Mem} {l : List Oper} {t t' : List (Nat × AV)} {es : List (Nat × Nat × Ent)} {sq : List Nat} (h : AbsG P gds m n k acc l t t' es sq acc') : ∀ e ∈ es, e.1 < k + l.length := fun e he => (h.lower e he).2
theorem layG_none (all : List (Nat × Nat × Ent)) (M : Mem) : layG all ((all.map (·.1)).map fun _ => false) M = M := by
  have := layG_falses all M
  unfold falses at this
  simpa using this
theorem Wp.runG (nE : Nat) {r : Option Nat} {Q : Exit → S → Prop} {s : S} {id : Nat} {ops : List Oper} {gds : List (Option Nat)} {t1 : List (Nat × AV)} {es : List (Nat × Nat × Ent)} {sq : List Nat} {acc : Mem} (hm : P.follows .mixedOrders = true) (hg : ops.map (·.dst) = gds) (hB : gds.all (dstB s.n) = true) (hord : ordB gds ops ops.length = true)
    (habs : AbsG P gds s.m s.n 0 (List.replicate nE vacE) ops s.t t1 es sq acc) (hok : okG ops (es.map fun e => (e.1, e.2.1)) sq = true) (h : Q .normal ⟨t1, s.m ++ acc, s.n, s.d⟩) : Wp P r (.region id ops.toArray true) Q s := by
  obtain ⟨q1, q2⟩ := AbsG.toM (M0 := List.replicate nE vacE) hok habs [] [] rfl rfl (by simp) rfl
  refine Wp.vacs nE ?_
  refine Wp.runM (es.map (·.1)) (fun bits => s.m ++ layG es bits (List.replicate nE vacE)) (t1 := t1) hm hg hB hord ?_ ?_ q1 ?_
  · rw [List.all_eq_true]
    intro e he
    obtain ⟨e', he', rfl⟩ := List.mem_map.1 he
    have := habs.lower e' he'
    simp only [decide_eq_true_eq]; omega
  · rw [layG_none]; rfl
  · have : (es.map (·.1)).map (fun _ => true) = trues es := by simp [trues]
    rw [this, ← q2]; exact h
/-! its steps -/
section
variable {gds : List (Option Nat)} {m : Mem} {n k : Nat} {acc acc' : Mem} {l : List Oper} {t t' : List (Nat × AV)} {es : List (Nat × Nat × Ent)} {sq : List Nat} {x : AV} {p : Prop} {dst : Option Nat} {op : Op} {type : TypeId} {pos : String} {after : Array Edge}
theorem AbsG.pure {o : Oper} (h1 : dstB n o.dst = true) (hsl : isSlc o.op = false) (h2 : stepA P gds t m o = some (x, p)) (h3 : p) (h4 : AbsG P gds m n (k + 1) acc l (upd t o.dst x) t' es sq acc') : AbsG P gds m n k acc (o :: l) t t' es sq acc' :=
  .cons h1 (fun z => (stepA_yield (stepA_app z hsl h2) h3).stepAt) h4
theorem AbsG.bld {sz : Nat} {xs : List AV} (h1 : dstB n dst = true) (h2 : bldA P (evo t) op = some (sz, xs, p)) (h3 : p) (h4 : AbsG P gds m n (k + 1) acc l (upd t dst (.lst sz xs)) t' es sq acc') : AbsG P gds m n k acc (⟨dst, op, type, pos, after, none⟩ :: l) t t' es sq acc' :=
  .cons h1 (fun z => (bldA_yield h2 h3).stepAt) h4
theorem AbsG.new (j : Nat) {sz ver : Nat} {row : List AV} {q : Option Nat} {k0 : Kind} (h1 : dstB n dst = true) (h2 : alcA P (evo t) op = some (sz, row, q, p)) (h3 : p) (ha : acc[j]? = some ⟨ver, k0⟩) (h4 : AbsG P gds m n (k + 1) (acc.set j ⟨ver + 1, .row sz row⟩) l (upd t dst (alcV (m.length + j) (ver + 1) q)) t' es sq acc') : AbsG P gds m n k acc (⟨dst, op, type, pos, after, none⟩ :: l) t t' ((k, j, ⟨ver + 1, .row sz row⟩) :: es) sq acc' :=
  .evt h1 ha (fun m' _ hid => alcA_step h2 h3 hid) h4
theorem AbsG.eff (j : Nat) {e0 e1 : Ent} (h1 : dstB n dst = true) (ha : acc[j]? = some e0) (h2 : evE P (evo t) e0 op = some (m.length + j, e1, x, p)) (h3 : p) (h4 : AbsG P gds m n (k + 1) (acc.set j e1) l (upd t dst x) t' es sq acc') : AbsG P gds m n k acc (⟨dst, op, type, pos, after, none⟩ :: l) t t' ((k, j, e1) :: es) sq acc' :=
  .evt h1 ha (fun m' _ hid => by
    obtain ⟨q, g1, g2⟩ := evE_ok h2 h3 hid
    exact (effA_at g1 g2).stepAt rfl) h4
end
attribute [push_cast] stE apE evE
end Go.Vg
