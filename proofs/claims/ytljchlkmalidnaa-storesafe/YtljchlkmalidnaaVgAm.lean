/- The abstract machine, part Am: the entries of a map: how they are found and written. -/
import Derived.Test.YtljchlkmalidnaaVgA
import Derived.Maps.Keyed
import Derived.DeepKeys4
import Derived.RangeFuncRecord
set_option linter.all false
set_option linter.unusedVariables false
set_option linter.unusedSimpArgs false
namespace Go.Vg
open Go.RowKit
variable {P : Program} {X : Nat → Prop} {w : World} {ρ : Rho}

/-- equality of keys, made to be run -/
def eqBy : List UInt8 → List UInt8 → Bool
  | [], [] => true
  | a :: l, b :: l' => match Nat.beq a.toNat b.toNat with
    | true => eqBy l l'
    | false => false
  | _, _ => false
theorem eqBy_iff : ∀ l l' : List UInt8, (eqBy l l' = true) ↔ l = l'
  | [], [] => by simp [eqBy]
  | [], _ :: _ => by simp [eqBy]
  | _ :: _, [] => by simp [eqBy]
  | a :: l, b :: l' => by
    simp only [eqBy]
    cases h : Nat.beq a.toNat b.toNat with
    | true =>
      rw [Nat.beq_eq] at h
      have e : a = b := UInt8.toNat_inj.1 h
      simp [e, eqBy_iff l l']
    | false =>
      have : a ≠ b := fun e => by subst e; simp at h
      simp [this]
def eqIn : Int → Int → Bool
  | .ofNat a, .ofNat b => Nat.beq a b
  | .negSucc a, .negSucc b => Nat.beq a b
  | _, _ => false
theorem eqIn_eq (a b : Int) : eqIn a b = decide (a = b) := by
  have : (eqIn a b = true) ↔ a = b := by
    cases a <;> cases b <;> simp only [eqIn, Nat.beq_eq, Int.ofNat_eq_natCast] <;> first | omega | (constructor <;> intro h <;> first | cases h | omega)
  cases h : eqIn a b <;> simp_all
def eqV1 : Value → Value → Bool
  | .int k a, .int k' b => decide (k = k') && eqIn a b
  | .bool a, .bool b => a == b
  | .string a, .string b => eqBy a.data.toList b.data.toList
  | _, _ => false
theorem eqV1_ok {a b : Value} (h : eqV1 a b = true) : a = b := by
  cases a <;> cases b <;> simp [eqV1] at h
  · rw [h]
  · rw [h.1]; congr 1; rw [eqIn_eq] at h; simpa using h.2
  · congr 1
    have := (eqBy_iff _ _).1 h
    rename_i x y
    cases x; cases y
    simp only [ByteArray.mk.injEq]
    exact Array.toList_inj.1 this
def eqVs : List Value → List Value → Bool
  | [], [] => true
  | a :: l, b :: l' => match eqV1 a b with
    | true => eqVs l l'
    | false => false
  | _, _ => false
theorem eqVs_ok : ∀ {l l' : List Value}, eqVs l l' = true → l = l'
  | [], [], _ => rfl
  | [], _ :: _, h => by simp [eqVs] at h
  | _ :: _, [], h => by simp [eqVs] at h
  | a :: l, b :: l', h => by
    simp only [eqVs] at h
    cases h1 : eqV1 a b with
    | true => rw [h1] at h; rw [eqV1_ok h1, eqVs_ok h]
    | false => rw [h1] at h; cases h
def eqKey : Value → Value → Bool
  | .agg a, .agg b => eqVs a.toList b.toList
  | a, b => eqV1 a b
theorem eqKey_ok {a b : Value} (h : eqKey a b = true) : a = b := by
  unfold eqKey at h
  split at h
  · congr 1; exact Array.toList_inj.1 (eqVs_ok h)
  · exact eqV1_ok h
theorem eqKey_int (a b : Int) : eqKey (.int .i64 a) (.int .i64 b) = decide (a = b) := by
  simp [eqKey, eqV1, eqIn_eq]
theorem eqBy_eq (a b : ByteArray) : eqBy a.data.toList b.data.toList = decide (a = b) := by
  have : (eqBy a.data.toList b.data.toList = true) ↔ a = b := by
    rw [eqBy_iff]
    constructor
    · intro h
      cases a; cases b
      simp only [ByteArray.mk.injEq]
      exact Array.toList_inj.1 h
    · rintro rfl; rfl
  cases h : eqBy a.data.toList b.data.toList <;> simp_all
theorem eqKey_str (a b : ByteArray) : eqKey (.string a) (.string b) = decide (a = b) := by
  simp [eqKey, eqV1, eqBy_eq]

/-- the value of a key -/
def keyVs : List AV → Option (List Value)
  | [] => some []
  | .val v :: l => match keyVs l with
    | some vs => some (v :: vs)
    | none => none
  | _ => none
def keyV : AV → Option Value
  | .val v => some v
  | .agg xs => match keyVs xs with
    | some vs => some (.agg vs.toArray)
    | none => none
  | _ => none
theorem keyVs_rel : ∀ {xs : List AV} {vs : List Value}, keyVs xs = some vs → ∀ us, Rvals X w ρ xs us → us = vs
  | [], vs, h, us, hr => by simp [keyVs] at h; subst h; exact hr
  | x :: xs, vs, h, us, hr => by
    cases x <;> simp only [keyVs, reduceCtorEq] at h
    rename_i v
    cases hk : keyVs xs with
    | none => rw [hk] at h; cases h
    | some vs' =>
      rw [hk] at h
      simp only [Option.some.injEq] at h
      subst h
      obtain ⟨u, us', rfl, h1, h2⟩ := hr
      rw [keyVs_rel hk us' h2, show u = v from h1]
theorem keyV_rel {x : AV} {k v : Value} (h : keyV x = some k) (hr : R X w ρ x v) : v = k := by
  cases x <;> simp only [keyV, reduceCtorEq, Option.some.injEq] at h
  · subst h; exact hr
  · rename_i xs
    cases hk : keyVs xs with
    | none => rw [hk] at h; cases h
    | some vs =>
      rw [hk] at h
      simp only [Option.some.injEq] at h
      subst h
      obtain ⟨us, rfl, h2⟩ := hr
      rw [keyVs_rel hk us h2]

def findL : List (Value × AV) → Value → Option AV
  | [], _ => none
  | (k', x) :: l, k => match eqKey k' k with
    | true => some x
    | false => findL l k
def updL : List (Value × AV) → Value → AV → List (Value × AV)
  | [], k, x => [(k, x)]
  | (k', y) :: l, k, x => match eqKey k' k with
    | true => (k', x) :: l
    | false => (k', y) :: updL l k x
def goodK (P : Program) (kt : TypeId) (k : Value) : Bool := (keyOf P kt k).isSome
def goodL (P : Program) (kt : TypeId) : List (Value × AV) → Bool
  | [] => true
  | kx :: l => match goodK P kt kx.1 with
    | true => goodL P kt l
    | false => false
theorem goodL_mem {kt : TypeId} : ∀ {l : List (Value × AV)}, goodL P kt l = true → ∀ kx ∈ l, goodK P kt kx.1 = true
  | [], _, kx, h => by cases h
  | k0 :: l, h, kx, hk => by
    simp only [goodL] at h
    cases hg : goodK P kt k0.1 with
    | false => rw [hg] at h; cases h
    | true =>
      rw [hg] at h
      rcases List.mem_cons.1 hk with rfl | hk
      · exact hg
      · exact goodL_mem h kx hk
theorem Rents.keys : ∀ {l : List (Value × AV)} {es : List MapEntry}, Rents X w ρ l es → es.map (·.key) = l.map (·.1)
  | [], _, h => by rw [show _ = [] from h]; rfl
  | (k, x) :: l, _, ⟨e, es', h1, h2, h3, h4⟩ => by rw [h1, List.map_cons, List.map_cons, Rents.keys h4, h2]
theorem Rents.good {kt : TypeId} {l : List (Value × AV)} {es : List MapEntry} (h : Rents X w ρ l es) (hg : goodL P kt l = true) : ∀ e ∈ es, ∃ lit, keyOf P kt e.key = some lit := by
  intro e he
  have : e.key ∈ l.map (·.1) := by rw [← h.keys]; exact List.mem_map.2 ⟨e, he, rfl⟩
  obtain ⟨kx, hk, e1⟩ := List.mem_map.1 this
  have := goodL_mem hg kx hk
  rw [← e1]
  exact Option.isSome_iff_exists.1 this
theorem Rents.miss {k : Value} : ∀ {l : List (Value × AV)} {es : List MapEntry}, Rents X w ρ l es → (∀ e ∈ es, e.key ≠ k) → findL l k = none ∧ ∀ x, updL l k x = l ++ [(k, x)]
  | [], _, _, _ => ⟨rfl, fun _ => rfl⟩
  | (k', x) :: l, _, ⟨e, es', h1, h2, h3, h4⟩, hn => by
    subst h1
    obtain ⟨q1, q2⟩ := Rents.miss h4 (fun e' he => hn e' (by simp [he]))
    have hf : eqKey k' k = false := by
      cases h : eqKey k' k with
      | false => rfl
      | true => exact absurd (by rw [h2]; exact eqKey_ok h) (hn e (by simp))
    simp only [findL, updL, hf, q1, q2]
    exact ⟨trivial, fun x => rfl⟩
theorem Rents.hit {k : Value} (hs : eqKey k k = true) : ∀ {l : List (Value × AV)} {es : List MapEntry} {j : Nat} {e : MapEntry}, Rents X w ρ l es → (l.map (·.1)).Nodup → es[j]? = some e → e.key = k →
    (∃ x, findL l k = some x ∧ R X w ρ x e.val) ∧ ∀ y, updL l k y = l.set j (k, y)
  | [], _, j, e, h, _, he, _ => by rw [show _ = [] from h] at he; simp at he
  | (k', x) :: l, _, 0, e, ⟨e0, es', h1, h2, h3, h4⟩, hnd, he, hk => by
    subst h1
    simp at he
    subst he
    have : k' = k := by rw [← h2]; exact hk
    subst this
    simp only [findL, updL, hs]
    exact ⟨⟨x, rfl, h3⟩, fun y => rfl⟩
  | (k', x) :: l, _, j + 1, e, ⟨e0, es', h1, h2, h3, h4⟩, hnd, he, hk => by
    subst h1
    simp only [List.getElem?_cons_succ] at he
    simp only [List.map_cons, List.nodup_cons] at hnd
    have hm : k ∈ l.map (·.1) := by
      rw [← h4.keys, ← hk]
      exact List.mem_map.2 ⟨e, List.mem_of_getElem? he, rfl⟩
    have hf : eqKey k' k = false := by
      cases h : eqKey k' k with
      | false => rfl
      | true => rw [eqKey_ok h] at hnd; exact absurd hm hnd.1
    obtain ⟨q1, q2⟩ := Rents.hit hs h4 hnd.2 he hk
    simp only [findL, updL, hf]
    exact ⟨q1, fun y => by rw [q2]; rfl⟩
theorem Rents.append : ∀ {l l2 : List (Value × AV)} {es es2 : List MapEntry}, Rents X w ρ l es → Rents X w ρ l2 es2 → Rents X w ρ (l ++ l2) (es ++ es2)
  | [], _, _, _, h, h2 => by rw [show _ = [] from h]; exact h2
  | (k, x) :: l, _, _, _, ⟨e, es', h1, h3, h4, h5⟩, h2 => ⟨e, es' ++ _, by rw [h1]; rfl, h3, h4, Rents.append h5 h2⟩
theorem Rents.set {k : Value} {y : AV} {v : Value} (hy : R X w ρ y v) : ∀ {l : List (Value × AV)} {es : List MapEntry} {j : Nat} {e' : MapEntry}, Rents X w ρ l es → e'.key = k → e'.val = v → Rents X w ρ (l.set j (k, y)) (es.set j e')
  | [], _, j, e', h, _, _ => by rw [show _ = [] from h]; rfl
  | (k', x) :: l, _, 0, e', ⟨e0, es', h1, h2, h3, h4⟩, q1, q2 => ⟨e', es', by rw [h1]; rfl, q1, by rw [q2]; exact hy, h4⟩
  | (k', x) :: l, _, j + 1, e', ⟨e0, es', h1, h2, h3, h4⟩, q1, q2 => ⟨e0, es'.set j e', by rw [h1]; rfl, h2, h3, Rents.set hy h4 q1 q2⟩

theorem lookup_run {kt et ty : TypeId} {k : Value} {l : List (Value × AV)} {es : Array MapEntry} {clock b : Nat} {c : Bool} (hm : P.underlying ty = some (.map kt et)) (K : Maps.Keyed P kt) (hs : eqKey k k = true) (hg : goodK P kt k = true) (hgl : goodL P kt l = true)
    (hb : w.heap[b]? = some (.map es clock)) (hnd : (l.map (·.1)).Nodup) (hr : Rents X w ρ l es.toList) :
    (∀ x, findL l k = some x → ∃ v, (Instr.lookup ty (.map (some b)) k c).run P w = .ok (if c then .tuple #[v, .bool true] else v) w ∧ R X w ρ x v) ∧
    (findL l k = none → ∀ z, (zeroValue et).run P w = .ok z w → (Instr.lookup ty (.map (some b)) k c).run P w = .ok (if c then .tuple #[z, .bool false] else z) w) := by
  obtain ⟨lit, hlit⟩ := Option.isSome_iff_exists.1 hg
  have hck := K.check w es.isEmpty hlit
  rcases K.find w hlit es.toList (hr.good hgl) with ⟨h1, h2⟩ | ⟨j, e, h1, h2, h3⟩
  · obtain ⟨q1, _⟩ := hr.miss h2
    refine ⟨fun x hx => (by rw [q1] at hx; cases hx), fun _ z hz => ?_⟩
    simp [Instr.lookup, run_underlying hm, MapKept.run_getObj_map hb, hck, h1, hz, Result.andThen]
  · obtain ⟨⟨x, q1, q2⟩, _⟩ := hr.hit hs hnd h2 h3
    refine ⟨fun x' hx => ?_, fun hn => (by rw [q1] at hn; cases hn)⟩
    rw [q1] at hx
    cases hx
    exact ⟨e.val, by simp [Instr.lookup, run_underlying hm, MapKept.run_getObj_map hb, hck, h1, Result.andThen], q2⟩
theorem update_run {kt et ty : TypeId} {k v : Value} {x : AV} {l : List (Value × AV)} {es : Array MapEntry} {clock b : Nat} (hm : P.underlying ty = some (.map kt et)) (K : Maps.Keyed P kt) (hs : eqKey k k = true) (hg : goodK P kt k = true) (hgl : goodL P kt l = true)
    (hb : w.heap[b]? = some (.map es clock)) (hnd : (l.map (·.1)).Nodup) (hr : Rents X w ρ l es.toList) (hx : R X w ρ x v) :
    ∃ es' clock', (Instr.mapUpdate ty (.map (some b)) k v).run P w = .ok () (w.putObj b (.map es' clock')) ∧ ((updL l k x).map (·.1)).Nodup ∧ Rents X w ρ (updL l k x) es'.toList := by
  obtain ⟨lit, hlit⟩ := Option.isSome_iff_exists.1 hg
  have hck := K.check w false hlit
  rcases K.find w hlit es.toList (hr.good hgl) with ⟨h1, h2⟩ | ⟨j, e, h1, h2, h3⟩
  · obtain ⟨_, q1⟩ := hr.miss h2
    refine ⟨es.push { key := k, val := v, born := clock }, clock + 1, ?_, ?_, ?_⟩
    · simp [Instr.mapUpdate, run_underlying hm, MapKept.run_getObj_map hb, hck, h1, MapKept.run_setObj_map _ hb, Result.andThen, World.putObj]
    · rw [q1, List.map_append, List.nodup_append]
      refine ⟨hnd, by simp, fun a ha b' hb' => ?_⟩
      simp at hb'
      subst hb'
      rw [← hr.keys] at ha
      obtain ⟨e, he, rfl⟩ := List.mem_map.1 ha
      exact h2 e he
    · rw [q1, Array.toList_push]
      exact hr.append ⟨_, [], rfl, rfl, hx, rfl⟩
  · obtain ⟨_, q1⟩ := hr.hit hs hnd h2 h3
    have hj : es[j]? = some e := by simpa using h2
    have hst := K.stays w hlit
    refine ⟨es.modify j fun e => { e with key := k, val := v }, clock, ?_, ?_, ?_⟩
    · simp [Instr.mapUpdate, run_underlying hm, MapKept.run_getObj_map hb, hck, h1, hj, h3, hst, MapKept.run_setObj_map _ hb, Result.andThen, World.putObj]
    · rw [q1]
      have : (l.set j (k, x)).map (·.1) = l.map (·.1) := by
        rw [List.map_set]
        refine List.ext_getElem? fun i => ?_
        rw [List.getElem?_set]
        split
        · rename_i h
          subst h
          split
          · have := congrArg (·[j]?) hr.keys
            simp only [List.getElem?_map, h2, Option.map_some] at this
            rw [List.getElem?_map, ← this, h3]
          · rename_i hlt
            rw [List.getElem?_eq_none (by omega)]
        · rfl
      rw [this]; exact hnd
    · rw [q1]
      have : (es.modify j fun e => { e with key := k, val := v }).toList = es.toList.set j { e with key := k, val := v } := by
        refine List.ext_getElem? fun i => ?_
        rw [Array.getElem?_toList, Array.getElem?_modify, List.getElem?_set]
        have hlt : j < es.size := (Array.getElem?_eq_some_iff.1 hj).1
        by_cases h : j = i
        · subst h
          have hje : es[j] = e := (Array.getElem?_eq_some_iff.1 hj).2
          simp [hlt, hje]
        · simp [h]
      rw [this]
      exact hr.set hx rfl rfl
end Go.Vg
