/- The abstract machine, part Q: the rules for operations that write or make memory, ghost steps, and calls that do. -/
import Derived.Test.YtljchlkmalidnaaVgO
set_option linter.all false
set_option linter.unusedVariables false
namespace Go.Vg
open Go.RowKit
variable {P : Program} {X : Nat → Prop} {w : World} {ρ : Rho}

/-- the parts of a slice literal, in order and all there -/
def partsOf (E : Operand → AV) (len : Nat) (parts : List (Nat × Operand)) : Option (List AV) := if parts.map (·.1) = List.range len then some (parts.map fun p => E p.2) else none

def bldA (P : Program) (E : Operand → AV) (op : Op) : Option (Nat × List AV × Prop) :=
  match op with
  | .buildSlice ty len parts =>
    match uk P ty with
    | .slice e =>
      match tsz P e, partsOf E len parts.toList with
      | some sz, some xs => if elB P e = true ∧ len * sz ≤ 16777216 then some (sz, xs, ∀ x ∈ xs, x.flat ∧ x.cells.length = sz) else none
      | _, _ => none
    | _ => none
  | _ => none

theorem fill_all {vs : List Value} {sz : Nat} : ∀ (parts : List (Nat × Value)) (k : Nat) (cells : Array Value) (cs : List (List Value)), parts.map (·.1) = List.range' k parts.length → cs.length = parts.length → (∀ (i : Nat) (p : Nat × Value) (c : List Value), parts[i]? = some p → cs[i]? = some c → p.2.cells = c.toArray ∧ c.length = sz) →
    (k + parts.length) * sz ≤ cells.size → ∃ arr, Instr.fill (fun i => some (i * sz, sz)) cells parts = some arr ∧ arr.size = cells.size ∧ (∀ j, j < k * sz → arr[j]? = cells[j]?) ∧ (∀ j, (k + parts.length) * sz ≤ j → arr[j]? = cells[j]?) ∧ ∀ (i : Nat) (c : List Value), cs[i]? = some c → ∀ j, j < sz → arr[(k + i) * sz + j]? = c[j]?
  | [], k, cells, cs, _, hcs, _, _ => by
    have : cs = [] := List.eq_nil_of_length_eq_zero (by simpa using hcs)
    subst this
    exact ⟨cells, rfl, rfl, fun _ _ => rfl, fun _ _ => rfl, fun i c h => by simp at h⟩
  | (i0, v) :: parts, k, cells, cs, hp, hcs, hv, hl => by
    cases cs with
    | nil => simp at hcs
    | cons c cs =>
      simp only [List.map_cons, List.length_cons, List.range'_succ, List.cons.injEq] at hp
      obtain ⟨rfl, hp⟩ := hp
      obtain ⟨hc1, hc2⟩ := hv 0 (i0, v) c (by simp) (by simp)
      simp only at hc1
      have hl' : (i0 + 1 + parts.length) * sz ≤ cells.size := by simp only [List.length_cons] at hl; rw [show i0 + 1 + parts.length = i0 + (parts.length + 1) by omega]; exact hl
      have hsp : (i0 + 1) * sz ≤ cells.size := Nat.le_trans (Nat.mul_le_mul_right _ (by omega)) hl'
      rw [Nat.add_mul, Nat.one_mul] at hsp
      -- what one part lays
      have fold : ∀ (us : List Value) (j0 : Nat) (cells : Array Value), ((us.zipIdx j0).foldl (fun (cs : Array Value) (cj : Value × Nat) => cs.setIfInBounds (i0 * sz + cj.2) cj.1) cells).size = cells.size ∧
          ∀ j, ((us.zipIdx j0).foldl (fun (cs : Array Value) (cj : Value × Nat) => cs.setIfInBounds (i0 * sz + cj.2) cj.1) cells)[j]? = if i0 * sz + j0 ≤ j ∧ j < i0 * sz + j0 + us.length ∧ j < cells.size then us[j - (i0 * sz + j0)]? else cells[j]? := by
        intro us
        induction us with
        | nil => intro j0 cells; exact ⟨rfl, fun j => by rw [if_neg (by simp only [List.length_nil]; omega)]; rfl⟩
        | cons u us ih =>
          intro j0 cells
          simp only [List.zipIdx_cons, List.foldl_cons]
          obtain ⟨s1, s2⟩ := ih (j0 + 1) (cells.setIfInBounds (i0 * sz + j0) u)
          refine ⟨by rw [s1]; simp, fun j => ?_⟩
          rw [s2 j]
          simp only [Array.size_setIfInBounds, List.length_cons]
          by_cases hj : j = i0 * sz + j0
          · subst hj
            rw [if_neg (by omega)]
            by_cases hlt : i0 * sz + j0 < cells.size
            · rw [if_pos ⟨Nat.le_refl _, by omega, hlt⟩]; simp [hlt]
            · rw [if_neg (by omega)]; simp [hlt]
          · by_cases hin : i0 * sz + (j0 + 1) ≤ j ∧ j < i0 * sz + (j0 + 1) + us.length ∧ j < cells.size
            · rw [if_pos hin, if_pos (by omega)]
              rw [show j - (i0 * sz + j0) = (j - (i0 * sz + (j0 + 1))) + 1 by omega]
              simp
            · rw [if_neg hin, if_neg (by omega), Array.getElem?_setIfInBounds_ne (by omega)]
      obtain ⟨f1, f2⟩ := fold c 0 cells
      have hfold : v.cells.zipIdx.foldl (fun (cs : Array Value) (x : Value × Nat) => match x with | (c, j) => cs.setIfInBounds (i0 * sz + j) c) cells = (c.zipIdx 0).foldl (fun (cs : Array Value) (cj : Value × Nat) => cs.setIfInBounds (i0 * sz + cj.2) cj.1) cells := by
        rw [hc1, ← Array.foldl_toList]
        simp
      obtain ⟨arr, g1, g2, g3, g4, g5⟩ := fill_all (vs := vs) parts (i0 + 1) ((c.zipIdx 0).foldl (fun (cs : Array Value) (cj : Value × Nat) => cs.setIfInBounds (i0 * sz + cj.2) cj.1) cells) cs hp (by simpa using hcs)
        (fun i p c' h1 h2 => hv (i + 1) p c' (by simpa using h1) (by simpa using h2)) (by rw [f1]; exact hl')
      refine ⟨arr, ?_, by rw [g2, f1], fun j hj => ?_, fun j hj => ?_, fun i c' hc' j hj => ?_⟩
      · unfold Instr.fill
        simp only
        rw [if_neg]
        · rw [hfold]; exact g1
        · rw [hc1]; simp [hc2]; omega
      · rw [g3 j (by rw [Nat.add_mul, Nat.one_mul]; omega), f2, if_neg (by omega)]
      · rw [show i0 + ((i0, v) :: parts).length = i0 + 1 + parts.length by simp; omega] at hj
        have : (i0 + 1) * sz ≤ (i0 + 1 + parts.length) * sz := Nat.mul_le_mul_right _ (by omega)
        rw [Nat.add_mul i0 1, Nat.one_mul] at this
        rw [g4 j hj, f2, if_neg (by omega)]
      · cases i with
        | zero =>
          simp at hc'; subst hc'
          simp only [Nat.add_zero]
          rw [g3 _ (by rw [Nat.add_mul, Nat.one_mul]; omega), f2, if_pos (by omega)]
          congr 1; omega
        | succ i =>
          have := g5 i c' (by simpa using hc') j hj
          rw [show i0 + (i + 1) = i0 + 1 + i by omega]; exact this

theorem partsOf_some {E : Operand → AV} {len : Nat} {parts : List (Nat × Operand)} {xs : List AV} (h : partsOf E len parts = some xs) : parts.map (·.1) = List.range len ∧ xs = parts.map fun p => E p.2 := by
  unfold partsOf at h
  split at h
  · rename_i hp; simp only [Option.some.injEq] at h; exact ⟨hp, h.symm⟩
  · cases h

/-- a slice literal makes a new block -/
theorem bldA_run {E : Operand → AV} {a : Act} {o : Oper} (ho : ∀ x ∈ o.op.operands, R X w ρ (E x) (a.eval x)) {sz : Nat} {xs : List AV} {p : Prop} (h : bldA P E o.op = some (sz, xs, p)) (hp : p) :
    ∃ (e : TypeId) (arr : Array Value) (vs : List Value), (execOp a.eval o).run P w = .ok (.value (.slice (some ⟨w.heap.size, 0, none⟩) xs.length xs.length)) { w with heap := w.heap.push (.cells arr e) } ∧ 0 < sz ∧ arr.size = xs.length * sz ∧ xs.length ≤ maxLen ∧ vs.length = xs.length * sz ∧ (∀ (j : Nat) (v : Value), vs[j]? = some v → arr[j]? = some v) ∧
      ∀ {w' : World} {ρ' : Rho} {b' o' : Nat}, Kp X w ρ w' ρ' → (∀ j v, vs[j]? = some v → w'.cell? ⟨b', o' + j, none⟩ = some v) → Rrow X w' ρ' xs sz b' o' := by
  unfold bldA at h
  split at h <;> (try (cases h; done))
  rename_i ty len parts hop
  split at h <;> (try (cases h; done))
  rename_i e hu
  split at h <;> (try (cases h; done))
  rename_i sz' xs' hsz hparts
  split at h <;> (try (cases h; done))
  rename_i hel
  simp only [Option.some.injEq, Prod.mk.injEq] at h
  obtain ⟨rfl, rfl, rfl⟩ := h
  obtain ⟨hel, hbig⟩ := hel
  obtain ⟨i, z, hinfo, hz, hzs, hpos⟩ := elB_some hel
  obtain ⟨i', hi', hsz'⟩ := tsz_some hsz
  rw [hinfo] at hi'; cases hi'
  obtain ⟨hidx, rfl⟩ := partsOf_some hparts
  rw [hop] at ho
  have hplen : parts.toList.length = len := by have := congrArg List.length hidx; simpa using this
  have hRx : ∀ (k : Nat) (q : Nat × Operand), parts.toList[k]? = some q → R X w ρ (E q.2) (a.eval q.2) := fun k q hq => ho q.2 (by
    have : q ∈ parts.toList := List.mem_of_getElem? hq
    simp only [Op.operands, List.mem_toArray, List.mem_map]
    exact ⟨q, this, rfl⟩)
  have hcells : ∀ (k : Nat) (q : Nat × Operand), parts.toList[k]? = some q → ∃ c : List Value, (a.eval q.2).cells = c.toArray ∧ c.length = sz' ∧ Rvals X w ρ (E q.2).cells c ∧ (∀ u ∈ c, u.oneCell' = true) := by
    intro k q hq
    obtain ⟨hfl, hcl⟩ := hp (E q.2) (List.mem_map.2 ⟨q, List.mem_of_getElem? hq, rfl⟩)
    obtain ⟨c, c1, c2, c3, c4⟩ := flat_cells hfl (hRx k q hq)
    exact ⟨c, c1, by omega, c2, c3⟩
  have hcs : ∃ cs : List (List Value), cs.length = len ∧ ∀ (k : Nat) (q : Nat × Operand) (c : List Value), parts.toList[k]? = some q → cs[k]? = some c → (a.eval q.2).cells = c.toArray ∧ c.length = sz' ∧ Rvals X w ρ (E q.2).cells c ∧ (∀ u ∈ c, u.oneCell' = true) := by
    refine ⟨parts.toList.map fun q => (a.eval q.2).cells.toList, by simpa using hplen, fun k q c hq hc => ?_⟩
    rw [List.getElem?_map, hq] at hc
    simp only [Option.map_some, Option.some.injEq] at hc
    obtain ⟨c', c1, c2, c3, c4⟩ := hcells k q hq
    have : c = c' := by rw [← hc, c1]
    subst this
    exact ⟨c1, c2, c3, c4⟩
  obtain ⟨cs, hcl, hcs⟩ := hcs
  have hget : ∀ (k : Nat), (parts.toList.map fun q => (q.1, a.eval q.2))[k]? = (parts.toList[k]?).map fun q => (q.1, a.eval q.2) := fun k => List.getElem?_map
  obtain ⟨arr, g1, g2, _, _, g5⟩ := fill_all (vs := []) (sz := sz') (parts.toList.map fun q => (q.1, a.eval q.2)) 0 ((Array.range (len * sz')).map (z.cells[· % z.cells.size]!)) cs (by
      simp only [List.map_map, List.length_map, hplen]
      rw [← List.range_eq_range', ← hidx]; rfl) (by simp [hcl, hplen]) (fun k pv c h1 h2 => by
      rw [hget] at h1
      cases hq : parts.toList[k]? with
      | none => simp [hq] at h1
      | some q =>
        simp [hq] at h1; subst h1
        obtain ⟨c1, c2, _⟩ := hcs k q c hq h2
        exact ⟨c1, c2⟩) (by simp [hplen])
  have hxl : (parts.toList.map fun p => E p.2).length = len := by simpa using hplen
  have hsz0 : 0 < sz' := by omega
  have hmaxl : len ≤ 16777216 := Nat.le_trans (Nat.le_mul_of_pos_right len hsz0) hbig
  rw [hxl]
  refine ⟨e, arr, arr.toList, ?_, hsz0, by rw [g2]; simp, by simp only [maxLen]; omega, by rw [Array.length_toList, g2]; simp, fun j v hj => by simpa using hj, ?_⟩
  · unfold execOp
    rw [hop]
    have hnb : ¬ (len * sz' > 2 ^ 24) := by simp; omega
    have e1 : (parts.map fun (x : Nat × Operand) => match x with | (i, x) => (i, a.eval x)).toList = parts.toList.map fun q => (q.1, a.eval q.2) := by simp
    have hr0 : Array.range 0 = #[] := rfl
    by_cases h0 : len * sz' = 0
    · rw [h0, hr0] at g1
      simp only [Array.map_empty] at g1
      simp only [Instr.buildSlice, Sem.run_bind, run_underlying (uk_slice hu), Result.andThen_ok, run_sizeOf hsz, Sem.run_pure, h0, if_true, hr0, Array.map_empty, e1, g1]
      simp [newRow]
    · simp only [Instr.buildSlice, Sem.run_bind, run_underlying (uk_slice hu), Result.andThen_ok, run_sizeOf hsz, hnb, if_false, Sem.run_pure, h0, zeroValue, typeInfo, run_program, hinfo, hz, e1, g1]
      simp [newRow]
  · intro w' ρ' b' o' hk hc
    refine Rrow_of_cells fun k x hx => ?_
    rw [List.getElem?_map] at hx
    cases hq : parts.toList[k]? with
    | none => simp [hq] at hx
    | some q =>
      simp [hq] at hx; subst hx
      have hklt : k < len := by rw [← hplen]; exact (List.getElem?_eq_some_iff.1 hq).1
      have hck : cs[k]? = some cs[k] := List.getElem?_eq_getElem (by omega)
      obtain ⟨c1, c2, c3, c4⟩ := hcs k q _ hq hck
      obtain ⟨hfl, hcl'⟩ := hp (E q.2) (List.mem_map.2 ⟨q, List.mem_of_getElem? hq, rfl⟩)
      refine Re_of_cells hfl hcl' (Rcells_of fun j y hj => ?_)
      obtain ⟨u, hu', hR⟩ := c3.nth hj
      have hjlt : j < sz' := by rw [← c2]; exact (List.getElem?_eq_some_iff.1 hu').1
      have h5 := g5 k _ hck j hjlt
      rw [hu', Nat.zero_add] at h5
      have := hc (k * sz' + j) u (by simpa using h5)
      rw [← Nat.add_assoc] at this
      exact ⟨u, this, c4 u (List.mem_of_getElem? hu'), R.mono hk hR⟩

theorem mapTurns (w : World) (b : Nat) (o : Obj) : Turns w b (w.putObj b o) := ⟨rfl, rfl, rfl, by simp [World.putObj], fun k hk => World.putObj_heap_other hk⟩
theorem makeMap_done {m : Mem} (hi : Inv X w ρ m) {ty : TypeId} : ∃ u w' ρ', (Instr.makeMap ty none).run P w = .ok u w' ∧ Tr w ρ w' ρ' ∧ Inv X w' ρ' (m ++ [⟨0, .mp []⟩]) ∧ R X w' ρ' (.omap m.length 0) u := by
  obtain ⟨h1, h2⟩ := hi.alloc (w' := w.alloc (.map #[] 0)) (o := .map #[] 0) (r := ⟨0, some w.heap.size, 0, 0, 0⟩) (k := .mp []) rfl rfl rfl rfl rfl rfl (fun ρ' ht he => ⟨by simp, w.heap.size, #[], 0, rfl, (MapKept.heap_alloc w _).1, rfl⟩)
  refine ⟨.map (some w.heap.size), _, _, by simp [Instr.makeMap, Result.andThen], h1, h2, some w.heap.size, ⟨0, some w.heap.size, 0, 0, 0⟩, rfl, by rw [← hi.len]; exact last_get ρ _, Nat.le_refl _, fun _ => ⟨_, rfl, rfl⟩⟩
theorem updA_done {m m' : Mem} (hi : Inv X w ρ m) {ty : TypeId} {x k v y : AV} {vx vk vv : Value} {p : Prop} (hx : R X w ρ x vx) (hk : R X w ρ k vk) (hv : R X w ρ v vv) (h : updA P m ty x k v = some (m', y, p)) (hp : p) :
    ∃ w', (Instr.mapUpdate ty vx vk vv).run P w = .ok () w' ∧ Tr w ρ w' ρ ∧ Inv X w' ρ m' ∧ y = .any := by
  unfold updA at h
  split at h <;> (try (cases h; done))
  rename_i id ver kt et kv hmt hkv
  split at h <;> (try (cases h; done))
  rename_i v0 l hm
  split at h <;> (try (cases h; done))
  rename_i hv0
  subst hv0
  simp only [Option.some.injEq, Prod.mk.injEq] at h
  obtain ⟨rfl, rfl, rfl⟩ := h
  have := keyV_rel hkv hk
  subst this
  obtain ⟨r, b, es, clock, rfl, hr, hver, hbk, hb, hnd, hre⟩ := hi.omap hm hx
  obtain ⟨p1, p2, p3, p4⟩ := hp
  obtain ⟨es', clock', g1, g2, g3⟩ := update_run (mpT_some hmt) p1 p2 p3 p4 hb hnd hre hv
  have ht := mapTurns w b (.map es' clock')
  have htr := Tr.turn hr hbk ht
  refine ⟨_, g1, htr, ⟨by simp [hi.len], fun i r' e hr' he => ?_, hi.apart, fun i r' b' hr' hb' => by rw [ht.size]; exact hi.new i r' b' hr' hb', fun b' hb' => by rw [ht.size]; exact hi.out b' hb', hi.gd.tr htr⟩, rfl⟩
  rcases getElem?_set_cases he with ⟨rfl, _, rfl⟩ | ⟨hne, he'⟩
  · rw [hr] at hr'; cases hr'
    exact ⟨hver, g2, b, es', clock', hbk, World.putObj_heap_same (hi.new i r b hr hbk).1, g3.mono htr.kp⟩
  · obtain ⟨h1', h2'⟩ := hi.at_ i r' e hr' he'
    exact ⟨h1', h2'.mono htr.kp fun b' hb' => ht.block b' fun e => hne (hi.apart i id r' r b hr' hr (by rw [hb', e]) hbk)⟩
theorem effA_done {m m' : Mem} (hi : Inv X w ρ m) {E : Operand → AV} {a : Act} {o : Oper} (ho : ∀ x ∈ o.op.operands, R X w ρ (E x) (a.eval x)) {x : AV} {p : Prop} (h : effA P E m o.op = some (m', x, p)) (hp : p) : Done P X w ρ m' x ((execOp a.eval o).run P w) := by
  unfold effA at h
  unfold execOp
  split at h
  · rename_i ty ad v he; rw [he] at ho ⊢
    obtain ⟨w', ρ', h1, h2, h3, rfl⟩ := storeA_done hi (ho ad (by simp [Op.operands])) (ho v (by simp [Op.operands])) h hp
    exact ⟨undef, w', ρ', .inr ⟨by simp [h1], rfl⟩, h2, h3, trivial⟩
  · rename_i ty v he; rw [he] at ho ⊢
    obtain ⟨u, w', ρ', h1, h2, h3, h4⟩ := boxA_done (P := P) (ty := ty) hi (ho v (by simp [Op.operands])) h hp
    exact ⟨u, w', ρ', .inl (by simp [h1]), h2, h3, h4⟩
  · rename_i ty he; rw [he] at ho ⊢
    split at h
    · rename_i z hz
      obtain ⟨v, hv, hR⟩ := zAV_some (P := P) (X := X) (w := w) (ρ := ρ) hz
      obtain ⟨u, w', ρ', h1, h2, h3, h4⟩ := boxA_done (P := P) (ty := ty) hi hR h hp
      refine ⟨u, w', ρ', .inl ?_, h2, h3, h4⟩
      have : (Instr.alloc ty true (.tuple #[])).run P w = .ok u w' := by
        unfold Instr.alloc
        simp only [Sem.run_bind, hv, Result.andThen_ok]
        exact h1
      simp [this]
    · cases h
  · rename_i ty l c he; rw [he] at ho ⊢
    obtain ⟨u, w', ρ', h1, h2, h3, h4⟩ := makeA_done hi (ho l (by simp [Op.operands])) (ho c (by simp [Op.operands])) h hp
    exact ⟨u, w', ρ', .inl (by simp [h1]), h2, h3, h4⟩
  · rename_i c he; rw [he] at ho ⊢
    split at h
    · rename_i hc
      split at h <;> (try (cases h; done))
      rename_i d y t u hargs htys
      have e1 : c.args = #[d, y] := by apply Array.ext'; simpa using hargs
      have e2 : c.argTypes = #[t, u] := by apply Array.ext'; simpa using htys
      obtain ⟨v, w', ρ', h1, h2, h3, h4⟩ := appA_done (P := P) (ty := o.type) hi (ho d (by simp [Op.operands, Call.operands, e1, hc])) (ho y (by simp [Op.operands, Call.operands, e1, hc])) h hp
      exact ⟨v, w', ρ', .inl (by simp [resolve, hc, invoke, builtin, e1, e2, h1]), h2, h3, h4⟩
    · rename_i hc
      split at h <;> (try (cases h; done))
      rename_i d y t u hargs htys
      have e1 : c.args = #[d, y] := by apply Array.ext'; simpa using hargs
      have e2 : c.argTypes = #[t, u] := by apply Array.ext'; simpa using htys
      obtain ⟨v, w', ρ', h1, h2, h3, h4⟩ := copyA_done (P := P) (u := u) (ty := o.type) hi (ho d (by simp [Op.operands, Call.operands, e1, hc])) (ho y (by simp [Op.operands, Call.operands, e1, hc])) h hp
      exact ⟨v, w', ρ', .inl (by simp [resolve, hc, invoke, builtin, e1, e2, h1]), h2, h3, h4⟩
    · cases h
  · rename_i ty he; rw [he] at ho ⊢
    simp only [Option.some.injEq, Prod.mk.injEq] at h
    obtain ⟨rfl, rfl, rfl⟩ := h
    obtain ⟨u, w', ρ', h1, h2, h3, h4⟩ := makeMap_done (P := P) (ty := ty) hi
    exact ⟨u, w', ρ', .inl (by simp [h1]), h2, h3, h4⟩
  · rename_i ty mp k v he; rw [he] at ho ⊢
    obtain ⟨w', h1, h2, h3, rfl⟩ := updA_done hi (ho mp (by simp [Op.operands])) (ho k (by simp [Op.operands])) (ho v (by simp [Op.operands])) h hp
    exact ⟨undef, w', ρ, .inr ⟨by simp [h1], rfl⟩, h2, h3, trivial⟩
  · rename_i ty mp k v he; rw [he] at ho ⊢
    obtain ⟨w', h1, h2, h3, rfl⟩ := updA_done hi (ho mp (by simp [Op.operands])) (ho k (by simp [Op.operands])) (ho v (by simp [Op.operands])) h hp
    exact ⟨undef, w', ρ, .inr ⟨by simp [h1], rfl⟩, h2, h3, trivial⟩
  · cases h

section
variable {gds : List (Option Nat)} {o : Oper} {l : List Oper} {Q : S → Prop} {s : S}

theorem Run.eff (h : Eff P gds o s fun s' => s'.n = s.n ∧ Run P gds l Q s') : Run P gds (o :: l) Q s := by
  intro hg hd X r a w ρ hr
  have h0 := h X r a w ρ hr
  unfold opwp at h0 ⊢
  have next : ∀ (a' : Act) (w' : World), (∃ s' ρ', (s'.n = s.n ∧ Run P gds l Q s') ∧ Rel X s' a' w' ρ' ∧ Tr w ρ w' ρ') → ∃ s' ρ', RunL P gds l Q s' ∧ Rel X s' a' w' ρ' ∧ Tr w ρ w' ρ' := by
    rintro a' w' ⟨s', ρ', ⟨e1, e2⟩, e3, e4⟩
    exact ⟨s', ρ', e2 (by rw [e1]; exact hg) (fun o' ho' => by rw [e1]; exact hd o' (by simp [ho'])), e3, e4⟩
  split
  · rename_i hw
    rw [if_pos hw] at h0
    exact Oper.wpIn_mono next h0
  · rename_i hw
    rw [if_neg hw] at h0
    exact next _ _ h0

theorem Run.done {m' : Mem} {x : AV} (hg0 : o.guard = none) (hdf : ∀ c, o.op ≠ .defer c) (hd : dstOk s.n o.dst) (h : ∀ (X : Nat → Prop) (a : Act) (w : World) (ρ : Rho), Rel X s a w ρ → Done P X w ρ m' x ((execOp a.eval o).run P w)) (k : Run P gds l Q ({ s with m := m' }.put o.dst x)) : Run P gds (o :: l) Q s := by
  refine Run.eff fun X r a w ρ hr => ?_
  unfold opwp
  have hw : Region.wanted o (yieldedG gds a.tmps) = true := by simp [Region.wanted, hg0]
  rw [if_pos hw]
  obtain ⟨v, w', ρ', h1, h2, h3, h4⟩ := h X a w ρ hr
  have hrel : Rel X ({ s with m := m' }.put o.dst x) (a.put o.dst v) w' ρ' := (hr.step h2 h3).put hd h4
  refine ⟨fun _ _ => trivial, ?_⟩
  rw [Oper.semAt_eq _ _ _ hdf]
  rcases h1 with h1 | ⟨h1, rfl⟩
  · rw [h1]; exact ⟨_, ρ', ⟨by rw [S.put_n], k⟩, hrel, h2⟩
  · rw [h1]; exact ⟨_, ρ', ⟨by rw [S.put_n], k⟩, hrel, h2⟩

theorem effA_defer {E : Operand → AV} {m m' : Mem} {op : Op} {x : AV} {p : Prop} (h : effA P E m op = some (m', x, p)) : ∀ c, op ≠ .defer c := by
  intro c e; subst e; simp [effA] at h

/-- an operation that writes or makes memory -/
theorem Run.effP {m' : Mem} {x : AV} {p : Prop} {dst : Option Nat} {op : Op} {type : TypeId} {pos : String} {after : Array Edge} (h : effA P (evo s.t) s.m op = some (m', x, p)) (hp : p) (k : Run P gds l Q ({ s with m := m' }.put dst x)) : Run P gds (⟨dst, op, type, pos, after, none⟩ :: l) Q s :=
  fun hg hd => Run.done (o := ⟨dst, op, type, pos, after, none⟩) rfl (effA_defer h) (hd ⟨dst, op, type, pos, after, none⟩ (by simp)) (fun X a w ρ hr => effA_done hr.inv (fun y _ => evo_rel hr.tmps y) h hp) k hg hd

/-- a slice literal, as our own -/
theorem Run.build {sz : Nat} {xs : List AV} {p : Prop} {dst : Option Nat} {op : Op} {type : TypeId} {pos : String} {after : Array Edge} (h : bldA P (evo s.t) op = some (sz, xs, p)) (hp : p)
    (k : Run P gds l Q ({ s with m := s.m ++ [(⟨0, .row sz xs⟩ : Ent)] }.put dst (.osl s.m.length 0 0 xs.length))) : Run P gds (⟨dst, op, type, pos, after, none⟩ :: l) Q s := by
  intro hg hd
  have hdf : ∀ c, op ≠ .defer c := by intro c e; subst e; simp [bldA] at h
  refine Run.done (o := ⟨dst, op, type, pos, after, none⟩) rfl hdf (hd ⟨dst, op, type, pos, after, none⟩ (by simp)) (fun X a w ρ hr => ?_) k hg hd
  obtain ⟨e, arr, vs, h1, h2, h3, h3', h4, h5, h6⟩ := bldA_run (P := P) (o := ⟨dst, op, type, pos, after, none⟩) (X := X) (w := w) (ρ := ρ) (a := a) (fun y _ => evo_rel hr.tmps y) h hp
  obtain ⟨r, q1, q2, q3, q4, q5, q6, q7⟩ := newBlock hr.inv (w' := { w with heap := w.heap.push (.cells arr e) }) (sz := sz) (l := xs) (vs := vs) (e := e) rfl rfl rfl rfl h4 h5 h6
  have hosl : R X { w with heap := w.heap.push (.cells arr e) } (ρ ++ [r]) (.osl s.m.length 0 0 xs.length) (.slice (some ⟨w.heap.size, 0, none⟩) xs.length xs.length) :=
    ⟨_, _, r, rfl, by rw [← hr.inv.len]; exact last_get ρ r, by omega, fun _ => ⟨Nat.le_refl _, h3', fun _ => ⟨w.heap.size, q2, by rw [q3]; simp, by rw [q3, q4, q5, h3]; simp⟩⟩⟩
  exact ⟨.slice (some ⟨w.heap.size, 0, none⟩) xs.length xs.length, _, ρ ++ [r], Or.inl h1, q6, q7, hosl⟩

/-- a slice literal that nobody writes -/
theorem bldA_yield {gds : List (Option Nat)} {t : List (Nat × AV)} {m : Mem} {sz : Nat} {xs : List AV} {p : Prop} {dst : Option Nat} {op : Op} {type : TypeId} {pos : String} {after : Array Edge} (h : bldA P (evo t) op = some (sz, xs, p)) (hp : p) : Yield P gds t m ⟨dst, op, type, pos, after, none⟩ (.lst sz xs) := by
  refine ⟨fun c e => (by simp only at e; subst e; simp [bldA] at h), fun X w ρ a hi hr hn => ⟨fun _ => ?_, fun hw => (by simp [Region.wanted] at hw)⟩⟩
  obtain ⟨e, arr, vs, h1, h2, h3, h3', h4, h5, h6⟩ := bldA_run (P := P) (o := ⟨dst, op, type, pos, after, none⟩) (X := X) (w := w) (ρ := ρ) (a := a) (evo_of fun n hn => hr n (.inr hn)) h hp
  have htr : Tr w ρ { w with heap := w.heap.push (.cells arr e) } ρ := ⟨rfl, rfl, rfl, by simp, fun _ r h => ⟨r, h, Nat.le_refl _, fun _ => rfl⟩, fun b hb hlt => ⟨hb, by simp [Array.getElem?_push_lt hlt, hlt]⟩⟩
  have hk0 : Tr w [] { w with heap := w.heap.push (.cells arr e) } [] := ⟨rfl, rfl, rfl, by simp, fun _ r h => (by simp at h), fun b hb hlt => ⟨fun r hr => (by cases hr), by simp [Array.getElem?_push_lt hlt, hlt]⟩⟩
  refine .inl ⟨_, _, h1, ⟨_, _, rfl, Nat.le_refl _, h3', fun _ => ⟨w.heap.size, 0, rfl, ⟨fun hx => ?_, fun r hr hb => ?_⟩, h2, h6 htr.kp fun j v hj => ?_⟩⟩, hi.keep hk0, htr⟩
  · have := hi.out _ hx; omega
  · obtain ⟨i, hi', rfl⟩ := List.getElem_of_mem hr
    have := (hi.new i _ _ (List.getElem?_eq_getElem hi') hb).1; omega
  · simp [World.cell?]; exact h5 j v hj

theorem Run.buildF {sz : Nat} {xs : List AV} {p : Prop} {dst : Option Nat} {op : Op} {type : TypeId} {pos : String} {after : Array Edge} (h : bldA P (evo s.t) op = some (sz, xs, p)) (hp : p) (k : Run P gds l Q (s.put dst (.lst sz xs))) : Run P gds (⟨dst, op, type, pos, after, none⟩ :: l) Q s :=
  Run.yield (o := ⟨dst, op, type, pos, after, none⟩) (bldA_yield h hp) k
theorem Abn.buildF {sz : Nat} {xs : List AV} {p : Prop} {s1 : S} {dst : Option Nat} {op : Op} {type : TypeId} {pos : String} {after : Array Edge} (h : bldA P (evo s.t) op = some (sz, xs, p)) (hp : p) (k : Abn P gds l (s.put dst (.lst sz xs)) s1) : Abn P gds (⟨dst, op, type, pos, after, none⟩ :: l) s s1 :=
  Abn.yield (o := ⟨dst, op, type, pos, after, none⟩) (bldA_yield h hp) k
end
end Go.Vg
