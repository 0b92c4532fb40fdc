/- The abstract machine, part Fv: a region that draws its order and makes memory several times; one with two effects, one behind the other. -/
import Derived.Test.YtljchlkmalidnaaVgFr
set_option linter.all false
set_option linter.unusedVariables false
namespace Go.Vg
open Go.RowKit
variable {P : Program}

theorem get_some_app {m l : Mem} {id : Nat} {e : Ent} (h : m[id]? = some e) : (m ++ l)[id]? = some e := by
  rw [List.getElem?_append_left (List.getElem?_eq_some_iff.1 h).1]; exact h
theorem map_ver_app' {m : Mem} (l : Mem) {id ver : Nat} (h : (m[id]?).map (·.ver) = some ver) : ((m ++ l)[id]?).map (·.ver) = some ver := by
  cases he : m[id]? with
  | none => rw [he] at h; cases h
  | some e => rw [get_some_app he, ← he]; exact h
theorem idxA_app {m : Mem} (l : Mem) {t : TypeId} {x i : AV} {r : AV × Prop} (h : idxA P m t x i = some r) : idxA P (m ++ l) t x i = some r := by
  unfold idxA at h
  split at h
  · rename_i hu
    unfold idxA; simp only [hu]; exact h
  · rename_i id ver off len kk k hu
    unfold idxA; simp only [hu]
    cases he : m[id]? with
    | none => rw [he] at h; cases h
    | some e => rw [get_some_app he]; rw [he] at h; exact h
  · unfold idxA
    cases hu : uk P t <;> exact h
  · rename_i id ver i0 j kk k
    unfold idxA
    split at h <;> (try (cases h; done))
    rename_i n e ha
    split at h <;> (try (cases h; done))
    rename_i sz hsz
    split at h <;> (try (cases h; done))
    rename_i hm
    simp only [ha, hsz, map_ver_app' l hm, if_true]
    cases hu : uk P t <;> exact h
  · cases h
theorem loadA_app {m : Mem} (l : Mem) {t : TypeId} {x : AV} {r : AV × Prop} (h : loadA P m t x = some r) : loadA P (m ++ l) t x = some r := by
  unfold loadA at h ⊢
  cases ha : agg? P t with
  | none => rw [ha] at h; cases h
  | some b =>
    cases b <;> cases hz : tsz P t <;> rw [ha, hz] at h <;> cases x <;> (try (cases h; done)) <;> (try exact h) <;> simp only at h ⊢
    all_goals
      rename_i id ver i j
      cases he : m[id]? with
      | none => rw [he] at h; cases h
      | some en => rw [get_some_app he]; rw [he] at h; exact h
theorem map_ver_app {m : Mem} (l : Mem) {id ver : Nat} (h : (m[id]?).map (·.ver) = some ver) : ((m ++ l)[id]?).map (·.ver) = some ver := by
  cases he : m[id]? with
  | none => rw [he] at h; cases h
  | some e => rw [get_some_app he, ← he]; exact h
theorem fieldAddrA_app {m : Mem} (l : Mem) {t : TypeId} {x : AV} {f : Nat} {r : AV × Prop} (h : fieldAddrA P m t x f = some r) : fieldAddrA P (m ++ l) t x f = some r := by
  unfold fieldAddrA at h ⊢
  cases hf : fOff P t f with
  | none => rw [hf] at h; cases h
  | some ou =>
    obtain ⟨o, u⟩ := ou
    rw [hf] at h
    simp only at h ⊢
    cases hz : tsz P u with
    | none => rw [hz] at h; cases h
    | some n =>
      rw [hz] at h
      cases n with
      | zero => cases h
      | succ n =>
        cases x <;> (try (cases h; done)) <;> (try exact h)
        simp only at h ⊢
        split at h
        · rename_i hv; rw [if_pos (map_ver_app l hv)]; exact h
        · cases h
theorem lookA_app {m : Mem} (l : Mem) {t : TypeId} {x k : AV} {c : Bool} {r : AV × Prop} (h : lookA P m t x k c = some r) : lookA P (m ++ l) t x k c = some r := by
  unfold lookA at h ⊢
  split at h <;> (try (cases h; done))
  rename_i id ver kt et kv hmt hkv
  cases he : m[id]? with
  | none => rw [he] at h; cases h
  | some e => rw [get_some_app he]; rw [he] at h; exact h
def isSlc : Op → Bool
  | .slice .. => true
  | _ => false
/-- what reads memory reads the same if there is more of it -/
theorem ev_app {E B : Operand → AV} {m : Mem} (l : Mem) {op : Op} {r : AV × Prop} (hsl : isSlc op = false) (h : ev P E B m op = some r) : ev P E B (m ++ l) op = some r := by
  cases op <;> (try exact h)
  case load t a => exact loadA_app l h
  case nilCheck x =>
    unfold ev at h ⊢
    simp only at h ⊢
    cases hx : E x <;> rw [hx] at h <;> (try (cases h; done)) <;> (try exact h)
    simp only at h ⊢
    split at h
    · rename_i hv; rw [if_pos (map_ver_app l hv)]; exact h
    · cases h
  case slice t x lo hi mx => cases hsl
  case lookup t x k c => exact lookA_app l h
  case fieldAddr t x f => exact fieldAddrA_app l h
  case indexAddr t x i => exact idxA_app l h
theorem stepA_app {gds : List (Option Nat)} {t : List (Nat × AV)} {m : Mem} (l : Mem) {o : Oper} {r : AV × Prop} (hsl : isSlc o.op = false) (h : stepA P gds t m o = some r) : stepA P gds t (m ++ l) o = some r := by
  unfold stepA at h ⊢
  cases hg : o.guard with
  | none => rw [hg] at h; exact ev_app l hsl h
  | some g =>
    rw [hg] at h
    simp only at h ⊢
    cases hb : gval gds t g with
    | none => rw [hb] at h; cases h
    | some b =>
      rw [hb] at h
      simp only at h ⊢
      cases he : ev P (fun x => (unopt (evo t x)).2) (evo t) m o.op with
      | none => rw [he] at h; cases h
      | some xp => rw [ev_app l hsl he]; rw [he] at h; exact h

/-- a region whose operations compute, or make memory -/
inductive AbsV (P : Program) (gds : List (Option Nat)) (m : Mem) (n : Nat) : Nat → List Oper → List (Nat × AV) → Nat → List (Nat × AV) → List (Nat × Nat × List AV) → Prop where
  | nil {k j : Nat} {t : List (Nat × AV)} : AbsV P gds m n k [] t j t []
  | cons {k j : Nat} {o : Oper} {l : List Oper} {t t' : List (Nat × AV)} {x : AV} {p : Prop} {es : List (Nat × Nat × List AV)} : dstB n o.dst = true → isSlc o.op = false → stepA P gds t m o = some (x, p) → p → AbsV P gds m n (k + 1) l (upd t o.dst x) j t' es → AbsV P gds m n k (o :: l) t j t' es
  | alcS {k j : Nat} {dst : Option Nat} {op : Op} {type : TypeId} {pos : String} {after : Array Edge} {l : List Oper} {t t' : List (Nat × AV)} {sz : Nat} {row : List AV} {q : Option Nat} {es : List (Nat × Nat × List AV)} : dstB n dst = true → (∀ (m' : Mem) (id ver : Nat) (k0 : Kind), m'[id]? = some ⟨ver, k0⟩ → StepAt P gds t m' ⟨dst, op, type, pos, after, none⟩ (m'.set id ⟨ver + 1, .row sz row⟩) (alcV id (ver + 1) q)) → AbsV P gds m n (k + 1) l (upd t dst (alcV (m.length + j) 1 q)) (j + 1) t' es → AbsV P gds m n k (⟨dst, op, type, pos, after, none⟩ :: l) t j t' ((k, sz, row) :: es)
theorem AbsV.alc {gds : List (Option Nat)} {m : Mem} {n : Nat} {k j : Nat} {dst : Option Nat} {op : Op} {type : TypeId} {pos : String} {after : Array Edge} {l : List Oper} {t t' : List (Nat × AV)} {sz : Nat} {row : List AV} {q : Option Nat} {p : Prop} {es : List (Nat × Nat × List AV)} (h1 : dstB n dst = true) (h2 : alcA P (evo t) op = some (sz, row, q, p)) (h3 : p) (h4 : AbsV P gds m n (k + 1) l (upd t dst (alcV (m.length + j) 1 q)) (j + 1) t' es) : AbsV P gds m n k (⟨dst, op, type, pos, after, none⟩ :: l) t j t' ((k, sz, row) :: es) :=
  .alcS h1 (fun _ _ _ _ hid => alcA_step h2 h3 hid) h4
def vacE : Ent := ⟨0, .row 1 []⟩
/-- the new entries, laid where listed -/
def layV : List (Nat × Nat × List AV) → List Bool → Mem
  | e :: es, b :: bs => (match b with
    | true => (⟨1, .row e.2.1 e.2.2⟩ : Ent)
    | false => vacE) :: layV es bs
  | e :: es, [] => vacE :: layV es []
  | [], _ => []
theorem AbsV.lower {gds : List (Option Nat)} {m : Mem} {n : Nat} : ∀ {k : Nat} {l : List Oper} {t : List (Nat × AV)} {j : Nat} {t' : List (Nat × AV)} {es : List (Nat × Nat × List AV)}, AbsV P gds m n k l t j t' es → ∀ e ∈ es, k ≤ e.1 ∧ e.1 < k + l.length
  | _, _, _, _, _, _, .nil => by simp
  | _, _, _, _, _, _, .cons _ _ _ _ h => fun e he => by have := h.lower e he; simp; omega
  | _, _, _, _, _, _, .alcS _ _ h => fun e he => by
    rcases List.mem_cons.1 he with rfl | he
    · simp
    · have := h.lower e he; simp; omega
theorem layV_none : ∀ (es : List (Nat × Nat × List AV)), layV es (es.map fun _ => false) = List.replicate es.length vacE
  | [] => rfl
  | e :: es => by simp [layV, layV_none es, List.replicate_succ]
theorem layV_all : ∀ (es : List (Nat × Nat × List AV)), layV es (es.map fun _ => true) = es.map fun e => ⟨1, .row e.2.1 e.2.2⟩
  | [] => rfl
  | e :: es => by simp [layV, layV_all es]
/-- before an entry is laid: it is vacant; behind: the others are as they were -/
theorem layV_set : ∀ {es : List (Nat × Nat × List AV)} {bits : List Bool} {j : Nat} {e : Nat × Nat × List AV}, es[j]? = some e → bits.length = es.length → bits[j]? = some false → (∀ i e', es[i]? = some e' → e'.1 = e.1 → i = j) → (layV es bits)[j]? = some vacE ∧ layV es (setB (es.map (·.1)) e.1 bits) = (layV es bits).set j ⟨1, .row e.2.1 e.2.2⟩
  | [], _, _, _, h, _, _, _ => by simp at h
  | e0 :: es, [], _, _, _, h, _, _ => by simp at h
  | e0 :: es, b :: bs, 0, e, h, hl, hb, hu => by
    simp at h hb
    subst h hb
    refine ⟨rfl, ?_⟩
    have hno : (es.map (·.1)).contains e0.1 = false := by
      rw [← Bool.not_eq_true, List.contains_iff_mem]
      intro hm
      obtain ⟨e', he', heq⟩ := List.mem_map.1 hm
      obtain ⟨i, hi⟩ := List.getElem?_of_mem he'
      have := hu (i + 1) e' (by simpa using hi) heq
      omega
    have h2 : setB ((e0 :: es).map (·.1)) e0.1 (false :: bs) = true :: setB (es.map (·.1)) e0.1 bs := by simp [setB]
    rw [h2, setB_not hno bs (by simp at hl; simpa using hl)]
    rfl
  | e0 :: es, b :: bs, j + 1, e, h, hl, hb, hu => by
    have hne : ¬ e0.1 = e.1 := fun he => by have := hu 0 e0 rfl he; omega
    obtain ⟨q1, q2⟩ := layV_set (es := es) (bits := bs) (j := j) (e := e) (by simpa using h) (by simpa using hl) (by simpa using hb) (fun i e' hi he => by have := hu (i + 1) e' (by simpa using hi) he; omega)
    refine ⟨by simpa [layV] using q1, ?_⟩
    have h2 : setB ((e0 :: es).map (·.1)) e.1 (b :: bs) = b :: setB (es.map (·.1)) e.1 bs := by simp [setB, hne]
    rw [h2]
    simp only [layV, q2, List.set_cons_succ]
theorem setB_not' {es : List Nat} {k : Nat} (h : ∀ e ∈ es, e ≠ k) (bits : List Bool) (hl : bits.length = es.length) : setB es k bits = bits := by
  refine setB_not ?_ bits hl
  rw [← Bool.not_eq_true, List.contains_iff_mem]
  exact fun hm => h k hm rfl
theorem AbsV.toM {gds : List (Option Nat)} {m : Mem} {n : Nat} {ops : List Oper} {all : List (Nat × Nat × List AV)} (hu : ∀ (i i' : Nat) (e e' : Nat × Nat × List AV), all[i]? = some e → all[i']? = some e' → e.1 = e'.1 → i = i') : ∀ {k : Nat} {l : List Oper} {t : List (Nat × AV)} {j : Nat} {t' : List (Nat × AV)} {es : List (Nat × Nat × List AV)}, AbsV P gds m n k l t j t' es → all.drop j = es → (∀ i e, all[i]? = some e → i < j → e.1 < k) →
    AbsM P gds ops (all.map (·.1)) (fun bits => m ++ layV all bits) n k l t t'
  | _, _, _, _, _, _, .nil, _, _ => .nil
  | k, _, _, j, _, es, .cons (o := o) (l := l) h1 h1' h2 h3 h4, hd, hj => by
    refine .cons (dstB_ok h1) (fun bits hb => ?_) (AbsV.toM hu h4 hd fun i e hi hij => by have := hj i e hi hij; omega)
    have hlen : bits.length = (all.map (·.1)).length := allB_len (List.mem_filter.1 hb).1
    rw [setB_not' (fun e he => ?_) bits hlen]
    · exact (stepA_yield (stepA_app _ h1' h2) h3).stepAt
    · obtain ⟨e', he', rfl⟩ := List.mem_map.1 he
      obtain ⟨i, hi⟩ := List.getElem?_of_mem he'
      rcases Nat.lt_or_ge i j with h | h
      · have := hj i e' hi h; omega
      · have : e' ∈ es := by
          rw [← hd]
          refine List.mem_of_getElem? (i := i - j) ?_
          rw [List.getElem?_drop, show j + (i - j) = i by omega]; exact hi
        have := h4.lower e' this; omega
  | k, _, t, j, _, _, .alcS (dst := dst) (op := op) (type := type) (pos := pos) (after := after) (l := l) (sz := sz) (row := row) (q := q) (es := es) h1 h2 h4, hd, hj => by
    have hje : all[j]? = some (k, sz, row) := by
      have : (all.drop j)[0]? = some (k, sz, row) := by rw [hd]; rfl
      simpa using this
    refine .cons (dstB_ok h1) (fun bits hb => ?_) (AbsV.toM hu h4 (by rw [← List.drop_drop, hd]; rfl) fun i e hi hij => ?_)
    · have hlen : bits.length = all.length := by simpa using allB_len (List.mem_filter.1 hb).1
      have hc := (List.mem_filter.1 hb).2
      have hbj : bits[j]? = some false := by
        have hjl : j < all.length := (List.getElem?_eq_some_iff.1 hje).1
        unfold consB at hc
        have := List.all_eq_true.1 hc (k, bits[j]'(by omega)) (by
          refine List.mem_of_getElem? (i := j) ?_
          rw [List.getElem?_zip_eq_some]
          exact ⟨by rw [List.getElem?_map, hje]; rfl, List.getElem?_eq_getElem (by omega)⟩)
        simp at this
        rw [List.getElem?_eq_getElem (by omega), this.1]
      obtain ⟨q1, q2⟩ := layV_set hje hlen hbj (fun i e' hi he => hu i j e' _ hi hje he)
      skip
      rw [q2]
      have hid : (m ++ layV all bits)[m.length + j]? = some ⟨0, .row 1 []⟩ := by rw [List.getElem?_append_right (by omega), show m.length + j - m.length = j by omega]; exact q1
      have := h2 _ _ _ _ hid
      rw [List.set_append_right _ _ (by omega), show m.length + j - m.length = j by omega] at this
      exact this
    · rcases Nat.lt_or_ge i j with h | h
      · have := hj i e hi h; omega
      · have : i = j := by omega
        subst this
        rw [hje] at hi; cases hi; simp
theorem AbsV.uniq {gds : List (Option Nat)} {m : Mem} {n : Nat} : ∀ {k : Nat} {l : List Oper} {t : List (Nat × AV)} {j : Nat} {t' : List (Nat × AV)} {es : List (Nat × Nat × List AV)}, AbsV P gds m n k l t j t' es → ∀ (i i' : Nat) (e e' : Nat × Nat × List AV), es[i]? = some e → es[i']? = some e' → e.1 = e'.1 → i = i'
  | _, _, _, _, _, _, .nil => by intro i i' e e' h; simp at h
  | _, _, _, _, _, _, .cons _ _ _ _ h => h.uniq
  | _, _, _, _, _, _, .alcS _ _ h => by
    intro i i' e e' h1 h2 he
    cases i <;> cases i'
    · rfl
    · simp at h1 h2; subst h1
      have := h.lower e' (List.mem_of_getElem? h2); simp at he; omega
    · simp at h1 h2; subst h2
      have := h.lower e (List.mem_of_getElem? h1); simp at he; omega
    · simp at h1 h2; rw [h.uniq _ _ e e' h1 h2 he]
theorem Wp.runV {r : Option Nat} {Q : Exit → S → Prop} {s : S} {id : Nat} {ops : List Oper} {gds : List (Option Nat)} {t1 : List (Nat × AV)} {es : List (Nat × Nat × List AV)} (hm : P.follows .mixedOrders = true) (hg : ops.map (·.dst) = gds) (hB : gds.all (dstB s.n) = true) (hord : ordB gds ops ops.length = true)
    (habs : AbsV P gds s.m s.n 0 ops s.t 0 t1 es) (h : Q .normal ⟨t1, s.m ++ es.map (fun e => ⟨1, .row e.2.1 e.2.2⟩), s.n, s.d⟩) : Wp P r (.region id ops.toArray true) Q s := by
  refine Wp.vacs es.length ?_
  refine Wp.runM (es.map (·.1)) (fun bits => s.m ++ layV es bits) (t1 := t1) hm hg hB hord ?_ ?_ ?_ ?_
  · rw [List.all_eq_true]
    intro e he
    obtain ⟨e', he', rfl⟩ := List.mem_map.1 he
    have := habs.lower e' he'
    simp only [decide_eq_true_eq]; omega
  · have := layV_none es
    simp only [List.map_map]
    rw [show (es.map ((fun _ => false) ∘ fun x => x.1)) = es.map fun _ => false from rfl, this]
    rfl
  · exact AbsV.toM habs.uniq habs (by simp) (fun i e hi hij => by omega)
  · have := layV_all es
    simp only [List.map_map]
    rw [show (es.map ((fun _ => true) ∘ fun x => x.1)) = es.map fun _ => true from rfl, this]
    exact h
end Go.Vg
