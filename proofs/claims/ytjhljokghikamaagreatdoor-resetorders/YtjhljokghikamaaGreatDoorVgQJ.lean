/- A part of the proof of ResetOrders: contracts of functions, with plain laws that they need. -/
import Derived.RangeFuncIn
import Derived.Lib.SliceRun
import Derived.Laws.IdiomStrings
import Derived.Laws.BytesArg
import Derived.Test.YtjhljokghikamaaGreatDoorVgIJ
set_option linter.all false
namespace Go.Vg
open Go.RowKit
variable {P : Program} {X : Nat → Prop} {w : World} {ρ : Rho}
def partsOf (E : Operand → AV) (len : Nat) (parts : List (Nat × Operand)) : Option (List AV) := if parts.map (·.1) = List.range len then some (parts.map fun p => E p.2) else none
def bldA (P : Program) (E : Operand → AV) (op : Op) : Option (Nat × List AV × Prop) :=
 match op with
 | .buildSlice ty len parts =>
  match uk P ty with
  | .slice e =>
   match tsz P e, partsOf E len parts.toList with
   | some sz, some xs => if elB P e = true ∧ len * sz ≤ 16777216 then some (sz, xs, ∀ x ∈ xs, x.flat ∧ x.cells.length = sz) else none
   | _, _ => none
  | _ => none
 | _ => none
theorem fill_all {vs : List Value} {sz : Nat} : ∀ (parts : List (Nat × Value)) (k : Nat) (cells : Array Value) (cs : List (List Value)), parts.map (·.1) = List.range' k parts.length → cs.length = parts.length → (∀ (i : Nat) (p : Nat × Value) (c : List Value), parts[i]? = some p → cs[i]? = some c → p.2.cells = c.toArray ∧ c.length = sz) →
  (k + parts.length) * sz ≤ cells.size → ∃ arr, Instr.fill (fun i => some (i * sz, sz)) cells parts = some arr ∧ arr.size = cells.size ∧ (∀ j, j < k * sz → arr[j]? = cells[j]?) ∧ (∀ j, (k + parts.length) * sz ≤ j → arr[j]? = cells[j]?) ∧ ∀ (i : Nat) (c : List Value), cs[i]? = some c → ∀ j, j < sz → arr[(k + i) * sz + j]? = c[j]?
 | [], k, cells, cs, _, hcs, _, _ => by
  have : cs = [] := List.eq_nil_of_length_eq_zero (by simpa using hcs)
  subst this
  exact ⟨cells, rfl, rfl, fun _ _ => rfl, fun _ _ => rfl, fun i c h => by simp at h⟩
 | (i0, v) :: parts, k, cells, cs, hp, hcs, hv, hl => by
  cases cs with
  | nil => simp at hcs
  | cons c cs =>
   simp only [List.map_cons, List.length_cons, List.range'_succ, List.cons.injEq] at hp
   obtain ⟨rfl, hp⟩ := hp
   obtain ⟨hc1, hc2⟩ := hv 0 (i0, v) c (by simp) (by simp)
   simp only at hc1
   have hl' : (i0 + 1 + parts.length) * sz ≤ cells.size := by simp only [List.length_cons] at hl; rw [show i0 + 1 + parts.length = i0 + (parts.length + 1) by omega]; exact hl
   have hsp : (i0 + 1) * sz ≤ cells.size := Nat.le_trans (Nat.mul_le_mul_right _ (by omega)) hl'
   rw [Nat.add_mul, Nat.one_mul] at hsp
   have fold : ∀ (us : List Value) (j0 : Nat) (cells : Array Value), ((us.zipIdx j0).foldl (fun (cs : Array Value) (cj : Value × Nat) => cs.setIfInBounds (i0 * sz + cj.2) cj.1) cells).size = cells.size ∧
     ∀ j, ((us.zipIdx j0).foldl (fun (cs : Array Value) (cj : Value × Nat) => cs.setIfInBounds (i0 * sz + cj.2) cj.1) cells)[j]? = if i0 * sz + j0 ≤ j ∧ j < i0 * sz + j0 + us.length ∧ j < cells.size then us[j - (i0 * sz + j0)]? else cells[j]? := by
    intro us
    induction us with
    | nil => intro j0 cells; exact ⟨rfl, fun j => by rw [if_neg (by simp only [List.length_nil]; omega)]; rfl⟩
    | cons u us ih =>
     intro j0 cells
     simp only [List.zipIdx_cons, List.foldl_cons]
     obtain ⟨s1, s2⟩ := ih (j0 + 1) (cells.setIfInBounds (i0 * sz + j0) u)
     refine ⟨by rw [s1]; simp, fun j => ?_⟩
     rw [s2 j]
     simp only [Array.size_setIfInBounds, List.length_cons]
     by_cases hj : j = i0 * sz + j0
     ·subst hj
      rw [if_neg (by omega)]
      by_cases hlt : i0 * sz + j0 < cells.size
      ·rw [if_pos ⟨Nat.le_refl _, by omega, hlt⟩]; simp [hlt]
      ·rw [if_neg (by omega)]; simp [hlt]
     ·by_cases hin : i0 * sz + (j0 + 1) ≤ j ∧ j < i0 * sz + (j0 + 1) + us.length ∧ j < cells.size
      ·rw [if_pos hin, if_pos (by omega)]
       rw [show j - (i0 * sz + j0) = (j - (i0 * sz + (j0 + 1))) + 1 by omega]
       simp
      ·rw [if_neg hin, if_neg (by omega), Array.getElem?_setIfInBounds_ne (by omega)]
   obtain ⟨f1, f2⟩ := fold c 0 cells
   have hfold : v.cells.zipIdx.foldl (fun (cs : Array Value) (x : Value × Nat) => match x with | (c, j) => cs.setIfInBounds (i0 * sz + j) c) cells = (c.zipIdx 0).foldl (fun (cs : Array Value) (cj : Value × Nat) => cs.setIfInBounds (i0 * sz + cj.2) cj.1) cells := by
    rw [hc1, ← Array.foldl_toList]
    simp
   obtain ⟨arr, g1, g2, g3, g4, g5⟩ := fill_all (vs := vs) parts (i0 + 1) ((c.zipIdx 0).foldl (fun (cs : Array Value) (cj : Value × Nat) => cs.setIfInBounds (i0 * sz + cj.2) cj.1) cells) cs hp (by simpa using hcs)
    (fun i p c' h1 h2 => hv (i + 1) p c' (by simpa using h1) (by simpa using h2)) (by rw [f1]; exact hl')
   refine ⟨arr, ?_, by rw [g2, f1], fun j hj => ?_, fun j hj => ?_, fun i c' hc' j hj => ?_⟩
   ·unfold Instr.fill
    simp only
    rw [if_neg]
    ·rw [hfold]; exact g1
    ·rw [hc1]; simp [hc2]; omega
   ·rw [g3 j (by rw [Nat.add_mul, Nat.one_mul]; omega), f2, if_neg (by omega)]
   ·rw [show i0 + ((i0, v) :: parts).length = i0 + 1 + parts.length by simp; omega] at hj
    have : (i0 + 1) * sz ≤ (i0 + 1 + parts.length) * sz := Nat.mul_le_mul_right _ (by omega)
    rw [Nat.add_mul i0 1, Nat.one_mul] at this
    rw [g4 j hj, f2, if_neg (by omega)]
   ·cases i with
    | zero =>
     simp at hc'; subst hc'
     simp only [Nat.add_zero]
     rw [g3 _ (by rw [Nat.add_mul, Nat.one_mul]; omega), f2, if_pos (by omega)]
     congr 1; omega
    | succ i =>
     have := g5 i c' (by simpa using hc') j hj
     rw [show i0 + (i + 1) = i0 + 1 + i by omega]; exact this
theorem partsOf_some {E : Operand → AV} {len : Nat} {parts : List (Nat × Operand)} {xs : List AV} (h : partsOf E len parts = some xs) : parts.map (·.1) = List.range len ∧ xs = parts.map fun p => E p.2 := by
 unfold partsOf at h
 split at h
 ·rename_i hp; simp only [Option.some.injEq] at h; exact ⟨hp, h.symm⟩
 ·cases h
theorem bldA_run {E : Operand → AV} {a : Act} {o : Oper} (ho : ∀ x ∈ o.op.operands, R X w ρ (E x) (a.eval x)) {sz : Nat} {xs : List AV} {p : Prop} (h : bldA P E o.op = some (sz, xs, p)) (hp : p) :
  ∃ (e : TypeId) (arr : Array Value) (vs : List Value), (execOp a.eval o).run P w = .ok (.value (.slice (some ⟨w.heap.size, 0, none⟩) xs.length xs.length)) { w with heap := w.heap.push (.cells arr e) } ∧ 0 < sz ∧ arr.size = xs.length * sz ∧ xs.length ≤ maxLen ∧ vs.length = xs.length * sz ∧ (∀ (j : Nat) (v : Value), vs[j]? = some v → arr[j]? = some v) ∧
   ∀ {w' : World} {ρ' : Rho} {b' o' : Nat}, Kp X w ρ w' ρ' → (∀ j v, vs[j]? = some v → w'.cell? ⟨b', o' + j, none⟩ = some v) → Rrow X w' ρ' xs sz b' o' := by
 unfold bldA at h
 split at h <;> (try (cases h; done))
 rename_i ty len parts hop
 split at h <;> (try (cases h; done))
 rename_i e hu
 split at h <;> (try (cases h; done))
 rename_i sz' xs' hsz hparts
 split at h <;> (try (cases h; done))
 rename_i hel
 simp only [Option.some.injEq, Prod.mk.injEq] at h
 obtain ⟨rfl, rfl, rfl⟩ := h
 obtain ⟨hel, hbig⟩ := hel
 obtain ⟨i, z, hinfo, hz, hzs, hpos⟩ := elB_some hel
 obtain ⟨i', hi', hsz'⟩ := tsz_some hsz
 rw [hinfo] at hi'; cases hi'
 obtain ⟨hidx, rfl⟩ := partsOf_some hparts
 rw [hop] at ho
 have hplen : parts.toList.length = len := by have := congrArg List.length hidx; simpa using this
 have hRx : ∀ (k : Nat) (q : Nat × Operand), parts.toList[k]? = some q → R X w ρ (E q.2) (a.eval q.2) := fun k q hq => ho q.2 (by
  have : q ∈ parts.toList := List.mem_of_getElem? hq
  simp only [Op.operands, List.mem_toArray, List.mem_map]
  exact ⟨q, this, rfl⟩)
 have hcells : ∀ (k : Nat) (q : Nat × Operand), parts.toList[k]? = some q → ∃ c : List Value, (a.eval q.2).cells = c.toArray ∧ c.length = sz' ∧ Rvals X w ρ (E q.2).cells c ∧ (∀ u ∈ c, u.oneCell' = true) := by
  intro k q hq
  obtain ⟨hfl, hcl⟩ := hp (E q.2) (List.mem_map.2 ⟨q, List.mem_of_getElem? hq, rfl⟩)
  obtain ⟨c, c1, c2, c3, c4⟩ := flat_cells hfl (hRx k q hq)
  exact ⟨c, c1, by omega, c2, c3⟩
 have hcs : ∃ cs : List (List Value), cs.length = len ∧ ∀ (k : Nat) (q : Nat × Operand) (c : List Value), parts.toList[k]? = some q → cs[k]? = some c → (a.eval q.2).cells = c.toArray ∧ c.length = sz' ∧ Rvals X w ρ (E q.2).cells c ∧ (∀ u ∈ c, u.oneCell' = true) := by
  refine ⟨parts.toList.map fun q => (a.eval q.2).cells.toList, by simpa using hplen, fun k q c hq hc => ?_⟩
  rw [List.getElem?_map, hq] at hc
  simp only [Option.map_some, Option.some.injEq] at hc
  obtain ⟨c', c1, c2, c3, c4⟩ := hcells k q hq
  have : c = c' := by rw [← hc, c1]
  subst this
  exact ⟨c1, c2, c3, c4⟩
 obtain ⟨cs, hcl, hcs⟩ := hcs
 have hget : ∀ (k : Nat), (parts.toList.map fun q => (q.1, a.eval q.2))[k]? = (parts.toList[k]?).map fun q => (q.1, a.eval q.2) := fun k => List.getElem?_map
 obtain ⟨arr, g1, g2, _, _, g5⟩ := fill_all (vs := []) (sz := sz') (parts.toList.map fun q => (q.1, a.eval q.2)) 0 ((Array.range (len * sz')).map (z.cells[· % z.cells.size]!)) cs (by
   simp only [List.map_map, List.length_map, hplen]
   rw [← List.range_eq_range', ← hidx]; rfl) (by simp [hcl, hplen]) (fun k pv c h1 h2 => by
   rw [hget] at h1
   cases hq : parts.toList[k]? with
   | none => simp [hq] at h1
   | some q =>
    simp [hq] at h1; subst h1
    obtain ⟨c1, c2, _⟩ := hcs k q c hq h2
    exact ⟨c1, c2⟩) (by simp [hplen])
 have hxl : (parts.toList.map fun p => E p.2).length = len := by simpa using hplen
 have hsz0 : 0 < sz' := by omega
 have hmaxl : len ≤ 16777216 := Nat.le_trans (Nat.le_mul_of_pos_right len hsz0) hbig
 rw [hxl]
 refine ⟨e, arr, arr.toList, ?_, hsz0, by rw [g2]; simp, by simp only [maxLen]; omega, by rw [Array.length_toList, g2]; simp, fun j v hj => by simpa using hj, ?_⟩
 ·unfold execOp
  rw [hop]
  have hnb : ¬ (len * sz' > 2 ^ 24) := by simp; omega
  have e1 : (parts.map fun (x : Nat × Operand) => match x with | (i, x) => (i, a.eval x)).toList = parts.toList.map fun q => (q.1, a.eval q.2) := by simp
  have hr0 : Array.range 0 = #[] := rfl
  by_cases h0 : len * sz' = 0
  ·rw [h0, hr0] at g1
   simp only [Array.map_empty] at g1
   simp only [Instr.buildSlice, Sem.run_bind, run_underlying (uk_slice hu), Result.andThen_ok, run_sizeOf hsz, Sem.run_pure, h0, if_true, hr0, Array.map_empty, e1, g1]
   simp [newRow]
  ·simp only [Instr.buildSlice, Sem.run_bind, run_underlying (uk_slice hu), Result.andThen_ok, run_sizeOf hsz, hnb, if_false, Sem.run_pure, h0, zeroValue, typeInfo, run_program, hinfo, hz, e1, g1]
   simp [newRow]
 ·intro w' ρ' b' o' hk hc
  refine Rrow_of_cells fun k x hx => ?_
  rw [List.getElem?_map] at hx
  cases hq : parts.toList[k]? with
  | none => simp [hq] at hx
  | some q =>
   simp [hq] at hx; subst hx
   have hklt : k < len := by rw [← hplen]; exact (List.getElem?_eq_some_iff.1 hq).1
   have hck : cs[k]? = some cs[k] := List.getElem?_eq_getElem (by omega)
   obtain ⟨c1, c2, c3, c4⟩ := hcs k q _ hq hck
   obtain ⟨hfl, hcl'⟩ := hp (E q.2) (List.mem_map.2 ⟨q, List.mem_of_getElem? hq, rfl⟩)
   refine Re_of_cells hfl hcl' (Rcells_of fun j y hj => ?_)
   obtain ⟨u, hu', hR⟩ := c3.nth hj
   have hjlt : j < sz' := by rw [← c2]; exact (List.getElem?_eq_some_iff.1 hu').1
   have h5 := g5 k _ hck j hjlt
   rw [hu', Nat.zero_add] at h5
   have := hc (k * sz' + j) u (by simpa using h5)
   rw [← Nat.add_assoc] at this
   exact ⟨u, this, c4 u (List.mem_of_getElem? hu'), R.mono hk hR⟩
theorem mapTurns (w : World) (b : Nat) (o : Obj) : Turns w b (w.putObj b o) := ⟨rfl, rfl, rfl, by simp [World.putObj], fun k hk => World.putObj_heap_other hk⟩
theorem makeMap_done {m : Mem} (hi : Inv X w ρ m) {ty : TypeId} : ∃ u w' ρ', (Instr.makeMap ty none).run P w = .ok u w' ∧ Tr w ρ w' ρ' ∧ Inv X w' ρ' (m ++ [⟨0, .mp []⟩]) ∧ R X w' ρ' (.omap m.length 0) u := by
 obtain ⟨h1, h2⟩ := hi.alloc (w' := w.alloc (.map #[] 0)) (o := .map #[] 0) (r := ⟨0, some w.heap.size, 0, 0, 0⟩) (k := .mp []) rfl rfl rfl rfl rfl rfl (fun ρ' ht he => ⟨by simp, w.heap.size, #[], 0, rfl, (MapKept.heap_alloc w _).1, rfl⟩)
 refine ⟨.map (some w.heap.size), _, _, by simp [Instr.makeMap, Result.andThen], h1, h2, some w.heap.size, ⟨0, some w.heap.size, 0, 0, 0⟩, rfl, by rw [← hi.len]; exact last_get ρ _, Nat.le_refl _, fun _ => ⟨_, rfl, rfl⟩⟩
theorem updA_done {m m' : Mem} (hi : Inv X w ρ m) {ty : TypeId} {x k v y : AV} {vx vk vv : Value} {p : Prop} (hx : R X w ρ x vx) (hk : R X w ρ k vk) (hv : R X w ρ v vv) (h : updA P m ty x k v = some (m', y, p)) (hp : p) :
  ∃ w', (Instr.mapUpdate ty vx vk vv).run P w = .ok () w' ∧ Tr w ρ w' ρ ∧ Inv X w' ρ m' ∧ y = .any := by
 unfold updA at h
 split at h <;> (try (cases h; done))
 rename_i id ver kt et kv hmt hkv
 split at h <;> (try (cases h; done))
 rename_i v0 l hm
 split at h <;> (try (cases h; done))
 rename_i hv0
 subst hv0
 simp only [Option.some.injEq, Prod.mk.injEq] at h
 obtain ⟨rfl, rfl, rfl⟩ := h
 have := keyV_rel hkv hk
 subst this
 obtain ⟨r, b, es, clock, rfl, hr, hver, hbk, hb, hnd, hre⟩ := hi.omap hm hx
 obtain ⟨p1, p2, p3, p4⟩ := hp
 obtain ⟨es', clock', g1, g2, g3⟩ := update_run (mpT_some hmt) p1 p2 p3 p4 hb hnd hre hv
 have ht := mapTurns w b (.map es' clock')
 have htr := Tr.turn hr hbk ht
 refine ⟨_, g1, htr, ⟨by simp [hi.len], fun i r' e hr' he => ?_, hi.apart, fun i r' b' hr' hb' => by rw [ht.size]; exact hi.new i r' b' hr' hb', fun b' hb' => by rw [ht.size]; exact hi.out b' hb', hi.gd.tr htr⟩, rfl⟩
 rcases getElem?_set_cases he with ⟨rfl, _, rfl⟩ | ⟨hne, he'⟩
 ·rw [hr] at hr'; cases hr'
  exact ⟨hver, g2, b, es', clock', hbk, World.putObj_heap_same (hi.new i r b hr hbk).1, g3.mono htr.kp⟩
 ·obtain ⟨h1', h2'⟩ := hi.at_ i r' e hr' he'
  exact ⟨h1', h2'.mono htr.kp fun b' hb' => ht.block b' fun e => hne (hi.apart i id r' r b hr' hr (by rw [hb', e]) hbk)⟩
theorem effA_done {m m' : Mem} (hi : Inv X w ρ m) {E : Operand → AV} {a : Act} {o : Oper} (ho : ∀ x ∈ o.op.operands, R X w ρ (E x) (a.eval x)) {x : AV} {p : Prop} (h : effA P E m o.op = some (m', x, p)) (hp : p) : Done P X w ρ m' x ((execOp a.eval o).run P w) := by
 unfold effA at h
 unfold execOp
 split at h
 ·rename_i ty ad v he; rw [he] at ho ⊢
  obtain ⟨w', ρ', h1, h2, h3, rfl⟩ := storeA_done hi (ho ad (by simp [Op.operands])) (ho v (by simp [Op.operands])) h hp
  exact ⟨undef, w', ρ', .inr ⟨by simp [h1], rfl⟩, h2, h3, trivial⟩
 ·rename_i ty v he; rw [he] at ho ⊢
  obtain ⟨u, w', ρ', h1, h2, h3, h4⟩ := boxA_done (P := P) (ty := ty) hi (ho v (by simp [Op.operands])) h hp
  exact ⟨u, w', ρ', .inl (by simp [h1]), h2, h3, h4⟩
 ·rename_i ty he; rw [he] at ho ⊢
  split at h
  ·rename_i z hz
   obtain ⟨v, hv, hR⟩ := zAV_some (P := P) (X := X) (w := w) (ρ := ρ) hz
   obtain ⟨u, w', ρ', h1, h2, h3, h4⟩ := boxA_done (P := P) (ty := ty) hi hR h hp
   refine ⟨u, w', ρ', .inl ?_, h2, h3, h4⟩
   have : (Instr.alloc ty true (.tuple #[])).run P w = .ok u w' := by
    unfold Instr.alloc
    simp only [Sem.run_bind, hv, Result.andThen_ok]
    exact h1
   simp [this]
  ·cases h
 ·rename_i ty l c he; rw [he] at ho ⊢
  obtain ⟨u, w', ρ', h1, h2, h3, h4⟩ := makeA_done hi (ho l (by simp [Op.operands])) (ho c (by simp [Op.operands])) h hp
  exact ⟨u, w', ρ', .inl (by simp [h1]), h2, h3, h4⟩
 ·rename_i c he; rw [he] at ho ⊢
  split at h
  ·rename_i hc
   split at h <;> (try (cases h; done))
   rename_i d y t u hargs htys
   have e1 : c.args = #[d, y] := by apply Array.ext'; simpa using hargs
   have e2 : c.argTypes = #[t, u] := by apply Array.ext'; simpa using htys
   obtain ⟨v, w', ρ', h1, h2, h3, h4⟩ := appA_done (P := P) (ty := o.type) hi (ho d (by simp [Op.operands, Call.operands, e1, hc])) (ho y (by simp [Op.operands, Call.operands, e1, hc])) h hp
   exact ⟨v, w', ρ', .inl (by simp [resolve, hc, invoke, builtin, e1, e2, h1]), h2, h3, h4⟩
  ·rename_i hc
   split at h <;> (try (cases h; done))
   rename_i d y t u hargs htys
   have e1 : c.args = #[d, y] := by apply Array.ext'; simpa using hargs
   have e2 : c.argTypes = #[t, u] := by apply Array.ext'; simpa using htys
   obtain ⟨v, w', ρ', h1, h2, h3, h4⟩ := copyA_done (P := P) (u := u) (ty := o.type) hi (ho d (by simp [Op.operands, Call.operands, e1, hc])) (ho y (by simp [Op.operands, Call.operands, e1, hc])) h hp
   exact ⟨v, w', ρ', .inl (by simp [resolve, hc, invoke, builtin, e1, e2, h1]), h2, h3, h4⟩
  ·cases h
 ·rename_i ty he; rw [he] at ho ⊢
  simp only [Option.some.injEq, Prod.mk.injEq] at h
  obtain ⟨rfl, rfl, rfl⟩ := h
  obtain ⟨u, w', ρ', h1, h2, h3, h4⟩ := makeMap_done (P := P) (ty := ty) hi
  exact ⟨u, w', ρ', .inl (by simp [h1]), h2, h3, h4⟩
 ·rename_i ty mp k v he; rw [he] at ho ⊢
  obtain ⟨w', h1, h2, h3, rfl⟩ := updA_done hi (ho mp (by simp [Op.operands])) (ho k (by simp [Op.operands])) (ho v (by simp [Op.operands])) h hp
  exact ⟨undef, w', ρ, .inr ⟨by simp [h1], rfl⟩, h2, h3, trivial⟩
 ·rename_i ty mp k v he; rw [he] at ho ⊢
  obtain ⟨w', h1, h2, h3, rfl⟩ := updA_done hi (ho mp (by simp [Op.operands])) (ho k (by simp [Op.operands])) (ho v (by simp [Op.operands])) h hp
  exact ⟨undef, w', ρ, .inr ⟨by simp [h1], rfl⟩, h2, h3, trivial⟩
 ·cases h
section
variable {gds : List (Option Nat)} {o : Oper} {l : List Oper} {Q : S → Prop} {s : S}
theorem Run.eff (h : Eff P gds o s fun s' => s'.n = s.n ∧ Run P gds l Q s') : Run P gds (o :: l) Q s := by
 intro hg hd X r a w ρ hr
 have h0 := h X r a w ρ hr
 unfold opwp at h0 ⊢
 have next : ∀ (a' : Act) (w' : World), (∃ s' ρ', (s'.n = s.n ∧ Run P gds l Q s') ∧ Rel X s' a' w' ρ' ∧ Tr w ρ w' ρ') → ∃ s' ρ', RunL P gds l Q s' ∧ Rel X s' a' w' ρ' ∧ Tr w ρ w' ρ' := by
  rintro a' w' ⟨s', ρ', ⟨e1, e2⟩, e3, e4⟩
  exact ⟨s', ρ', e2 (by rw [e1]; exact hg) (fun o' ho' => by rw [e1]; exact hd o' (by simp [ho'])), e3, e4⟩
 split
 ·rename_i hw
  rw [if_pos hw] at h0
  exact Oper.wpIn_mono next h0
 ·rename_i hw
  rw [if_neg hw] at h0
  exact next _ _ h0
theorem Run.done {m' : Mem} {x : AV} (hg0 : o.guard = none) (hdf : ∀ c, o.op ≠ .defer c) (hd : dstOk s.n o.dst) (h : ∀ (X : Nat → Prop) (a : Act) (w : World) (ρ : Rho), Rel X s a w ρ → Done P X w ρ m' x ((execOp a.eval o).run P w)) (k : Run P gds l Q ({ s with m := m' }.put o.dst x)) : Run P gds (o :: l) Q s := by
 refine Run.eff fun X r a w ρ hr => ?_
 unfold opwp
 have hw : Region.wanted o (yieldedG gds a.tmps) = true := by simp [Region.wanted, hg0]
 rw [if_pos hw]
 obtain ⟨v, w', ρ', h1, h2, h3, h4⟩ := h X a w ρ hr
 have hrel : Rel X ({ s with m := m' }.put o.dst x) (a.put o.dst v) w' ρ' := (hr.step h2 h3).put hd h4
 refine ⟨fun _ _ => trivial, ?_⟩
 rw [Oper.semAt_eq _ _ _ hdf]
 rcases h1 with h1 | ⟨h1, rfl⟩
 ·rw [h1]; exact ⟨_, ρ', ⟨by rw [S.put_n], k⟩, hrel, h2⟩
 ·rw [h1]; exact ⟨_, ρ', ⟨by rw [S.put_n], k⟩, hrel, h2⟩
theorem effA_defer {E : Operand → AV} {m m' : Mem} {op : Op} {x : AV} {p : Prop} (h : effA P E m op = some (m', x, p)) : ∀ c, op ≠ .defer c := by
 intro c e; subst e; simp [effA] at h
theorem Run.effP {m' : Mem} {x : AV} {p : Prop} {dst : Option Nat} {op : Op} {type : TypeId} {pos : String} {after : Array Edge} (h : effA P (evo s.t) s.m op = some (m', x, p)) (hp : p) (k : Run P gds l Q ({ s with m := m' }.put dst x)) : Run P gds (⟨dst, op, type, pos, after, none⟩ :: l) Q s :=
 fun hg hd => Run.done (o := ⟨dst, op, type, pos, after, none⟩) rfl (effA_defer h) (hd ⟨dst, op, type, pos, after, none⟩ (by simp)) (fun X a w ρ hr => effA_done hr.inv (fun y _ => evo_rel hr.tmps y) h hp) k hg hd
theorem Run.build {sz : Nat} {xs : List AV} {p : Prop} {dst : Option Nat} {op : Op} {type : TypeId} {pos : String} {after : Array Edge} (h : bldA P (evo s.t) op = some (sz, xs, p)) (hp : p)
  (k : Run P gds l Q ({ s with m := s.m ++ [(⟨0, .row sz xs⟩ : Ent)] }.put dst (.osl s.m.length 0 0 xs.length))) : Run P gds (⟨dst, op, type, pos, after, none⟩ :: l) Q s := by
 intro hg hd
 have hdf : ∀ c, op ≠ .defer c := by intro c e; subst e; simp [bldA] at h
 refine Run.done (o := ⟨dst, op, type, pos, after, none⟩) rfl hdf (hd ⟨dst, op, type, pos, after, none⟩ (by simp)) (fun X a w ρ hr => ?_) k hg hd
 obtain ⟨e, arr, vs, h1, h2, h3, h3', h4, h5, h6⟩ := bldA_run (P := P) (o := ⟨dst, op, type, pos, after, none⟩) (X := X) (w := w) (ρ := ρ) (a := a) (fun y _ => evo_rel hr.tmps y) h hp
 obtain ⟨r, q1, q2, q3, q4, q5, q6, q7⟩ := newBlock hr.inv (w' := { w with heap := w.heap.push (.cells arr e) }) (sz := sz) (l := xs) (vs := vs) (e := e) rfl rfl rfl rfl h4 h5 h6
 have hosl : R X { w with heap := w.heap.push (.cells arr e) } (ρ ++ [r]) (.osl s.m.length 0 0 xs.length) (.slice (some ⟨w.heap.size, 0, none⟩) xs.length xs.length) :=
  ⟨_, _, r, rfl, by rw [← hr.inv.len]; exact last_get ρ r, by omega, fun _ => ⟨Nat.le_refl _, h3', fun _ => ⟨w.heap.size, q2, by rw [q3]; simp, by rw [q3, q4, q5, h3]; simp⟩⟩⟩
 exact ⟨.slice (some ⟨w.heap.size, 0, none⟩) xs.length xs.length, _, ρ ++ [r], Or.inl h1, q6, q7, hosl⟩
theorem bldA_yield {gds : List (Option Nat)} {t : List (Nat × AV)} {m : Mem} {sz : Nat} {xs : List AV} {p : Prop} {dst : Option Nat} {op : Op} {type : TypeId} {pos : String} {after : Array Edge} (h : bldA P (evo t) op = some (sz, xs, p)) (hp : p) : Yield P gds t m ⟨dst, op, type, pos, after, none⟩ (.lst sz xs) := by
 refine ⟨fun c e => (by simp only at e; subst e; simp [bldA] at h), fun X w ρ a hi hr hn => ⟨fun _ => ?_, fun hw => (by simp [Region.wanted] at hw)⟩⟩
 obtain ⟨e, arr, vs, h1, h2, h3, h3', h4, h5, h6⟩ := bldA_run (P := P) (o := ⟨dst, op, type, pos, after, none⟩) (X := X) (w := w) (ρ := ρ) (a := a) (evo_of fun n hn => hr n (.inr hn)) h hp
 have htr : Tr w ρ { w with heap := w.heap.push (.cells arr e) } ρ := ⟨rfl, rfl, rfl, by simp, fun _ r h => ⟨r, h, Nat.le_refl _, fun _ => rfl⟩, fun b hb hlt => ⟨hb, by simp [Array.getElem?_push_lt hlt, hlt]⟩⟩
 have hk0 : Tr w [] { w with heap := w.heap.push (.cells arr e) } [] := ⟨rfl, rfl, rfl, by simp, fun _ r h => (by simp at h), fun b hb hlt => ⟨fun r hr => (by cases hr), by simp [Array.getElem?_push_lt hlt, hlt]⟩⟩
 refine .inl ⟨_, _, h1, ⟨_, _, rfl, Nat.le_refl _, h3', fun _ => ⟨w.heap.size, 0, rfl, ⟨fun hx => ?_, fun r hr hb => ?_⟩, h2, h6 htr.kp fun j v hj => ?_⟩⟩, hi.keep hk0, htr⟩
 ·have := hi.out _ hx; omega
 ·obtain ⟨i, hi', rfl⟩ := List.getElem_of_mem hr
  have := (hi.new i _ _ (List.getElem?_eq_getElem hi') hb).1; omega
 ·simp [World.cell?]; exact h5 j v hj
theorem Run.buildF {sz : Nat} {xs : List AV} {p : Prop} {dst : Option Nat} {op : Op} {type : TypeId} {pos : String} {after : Array Edge} (h : bldA P (evo s.t) op = some (sz, xs, p)) (hp : p) (k : Run P gds l Q (s.put dst (.lst sz xs))) : Run P gds (⟨dst, op, type, pos, after, none⟩ :: l) Q s :=
 Run.yield (o := ⟨dst, op, type, pos, after, none⟩) (bldA_yield h hp) k
theorem Abn.buildF {sz : Nat} {xs : List AV} {p : Prop} {s1 : S} {dst : Option Nat} {op : Op} {type : TypeId} {pos : String} {after : Array Edge} (h : bldA P (evo s.t) op = some (sz, xs, p)) (hp : p) (k : Abn P gds l (s.put dst (.lst sz xs)) s1) : Abn P gds (⟨dst, op, type, pos, after, none⟩ :: l) s s1 :=
 Abn.yield (o := ⟨dst, op, type, pos, after, none⟩) (bldA_yield h hp) k
end
end Go.Vg
namespace Go.Vg
open Go.RowKit
variable {P : Program} {X : Nat → Prop} {w : World} {ρ : Rho}
theorem Rel.setT {s : S} {a : Act} (h : Rel X s a w ρ) {n : Nat} {x : AV} (hx : R X w ρ x (a.tmps.getD n undef)) : Rel X { s with t := (n, x) :: s.t } a w ρ := by
 refine ⟨fun k => ?_, h.size, h.inv, h.defers⟩
 simp only [look]
 split
 ·rename_i e; subst e; exact hx
 ·exact h.tmps k
theorem Wp.adopt {r : Option Nat} {c : Code} {Q : Exit → S → Prop} {s : S} (n sz : Nat) (h : look s.t n = .emp) (k : Wp P r c Q { s with t := (n, .osl s.m.length 0 0 0) :: s.t, m := s.m ++ [(⟨0, .row sz []⟩ : Ent)] }) : Wp P r c Q s := by
 intro X a w ρ hr
 obtain ⟨t1, t2⟩ := hr.inv.adopt sz
 have hr2 := hr.step t1 t2
 have hv := hr.tmps n
 rw [h] at hv
 obtain ⟨A, hA⟩ := hv
 have hr3 : Rel X { s with t := (n, .osl s.m.length 0 0 0) :: s.t, m := s.m ++ [(⟨0, .row sz []⟩ : Ent)] } a w (ρ ++ [⟨0, none, 0, 0, sz⟩]) :=
  hr2.setT ⟨A, 0, ⟨0, none, 0, 0, sz⟩, hA, by rw [← hr.inv.len]; exact last_get ρ _, Nat.le_refl _, fun _ => ⟨Nat.le_refl _, Nat.zero_le _, fun h => absurd h (Nat.lt_irrefl 0)⟩⟩
 exact Go.wpIn_mono (k X a w _ hr3) fun e a' w' ⟨s', ρ', q, k1, k2⟩ => ⟨s', ρ', q, k1, t1.trans k2⟩
theorem Rel.freeze {s : S} {a : Act} (hr : Rel X s a w ρ) (n : Nat) {id ver off len sz : Nat} {l : List AV} (h : look s.t n = .osl id ver off len) (hm : s.m[id]? = some ⟨ver, .row sz l⟩) (hlen : off + len ≤ l.length) (hsz : 0 < sz) :
  ∃ ρ', Rel X { s with t := (n, .lst sz ((l.drop off).take len)) :: s.t, m := s.m.set id ⟨ver + 1, .row sz []⟩ } a w ρ' ∧ Tr w ρ w ρ' := by
 obtain ⟨r0, h0, hv, hrz, hnone, hblk⟩ := hr.inv.row hm
 obtain ⟨t1, t2⟩ := hr.inv.renew h0 (r' := ⟨r0.ver + 1, none, 0, 0, sz⟩) (w' := w) (k := .row sz []) rfl rfl rfl (Nat.le_refl _) rfl (fun _ _ _ => rfl) (fun b h => by cases h) (fun ρ' _ _ => ⟨rfl, fun _ => rfl, fun b h => by cases h⟩)
 rw [hv] at t1 t2
 have hr2 := hr.step t1 t2
 have hx := hr.tmps n
 rw [h] at hx
 obtain ⟨A, c0, r1, hA, h1, hle, hat⟩ := hx
 rw [h0] at h1; cases h1
 obtain ⟨hl, hcm, hpos⟩ := hat hv.symm
 have hll : ((l.drop off).take len).length = len := by simp; omega
 have hr3 : Rel X { s with t := (n, .lst sz ((l.drop off).take len)) :: s.t, m := s.m.set id ⟨ver + 1, .row sz []⟩ } a w (ρ.set id ⟨ver + 1, none, 0, 0, sz⟩) := by
  refine hr2.setT ⟨A, c0, by rw [hA, hll], by omega, hcm, fun hne => ?_⟩
  have h0' : 0 < len := by
   rcases Nat.eq_zero_or_pos len with e | e
   ·subst e; simp at hne
   ·exact e
  obtain ⟨b, hb, hA', hfit⟩ := hpos (by omega)
  obtain ⟨_, _, hrow⟩ := hblk b hb
  refine ⟨b, r0.base + off * r0.sz, hA', ⟨(hr.inv.new id r0 b h0 hb).2, fun r' hr' hb' => ?_⟩, hsz, ?_⟩
  ·obtain ⟨i, hi'⟩ := List.getElem?_of_mem hr'
   rcases getElem?_set_cases hi' with ⟨_, _, rfl⟩ | ⟨hne', h2⟩
   ·cases hb'
   ·exact hne' (hr.inv.apart i id r' r0 b h2 h0 hb' hb)
  ·rw [hrz]
   exact Rrow.mono t1.kp _ sz b _ (fun _ => rfl) ((hrow.drop off).take len)
 exact ⟨_, hr3, t1⟩
theorem Wp.freeze {r : Option Nat} {c : Code} {Q : Exit → S → Prop} {s : S} (n : Nat) {id ver off len sz : Nat} {l : List AV} (h : look s.t n = .osl id ver off len) (hm : s.m[id]? = some ⟨ver, .row sz l⟩) (hlen : off + len ≤ l.length) (hsz : 0 < sz)
  (k : Wp P r c Q { s with t := (n, .lst sz ((l.drop off).take len)) :: s.t, m := s.m.set id ⟨ver + 1, .row sz []⟩ }) : Wp P r c Q s := by
 intro X a w ρ hr
 obtain ⟨ρ1, hr3, t1⟩ := hr.freeze n h hm hlen hsz
 exact Go.wpIn_mono (k X a w _ hr3) fun e a' w' ⟨s', ρ', q, k1, k2⟩ => ⟨s', ρ', q, k1, t1.trans k2⟩
theorem Wp.len {r : Option Nat} {c : Code} {Q : Exit → S → Prop} {s : S} (n : Nat) {sz : Nat} {l : List AV} (h : look s.t n = .lst sz l) (k : l.length ≤ 9223372036854775807 → Wp P r c Q s) : Wp P r c Q s := by
 intro X a w ρ hr
 have hx := hr.tmps n
 rw [h] at hx
 obtain ⟨A, c0, _, h1, h2, _⟩ := hx
 exact k (by simp only [maxLen] at h2; omega) X a w ρ hr
section
variable {gds : List (Option Nat)} {o : Oper} {l : List Oper} {Q : S → Prop} {s : S}
theorem Pure.yieldF {t : List (Nat × AV)} {m : Mem} {fo : Operand} {args : List Operand} {tys : Array TypeId} (ho : o.op = callOp fo args tys) {g : Option Bool} (hg : gvalO gds t o.guard = some g)
  (hok : gOk t g (fo :: args)) {f : FuncId} {caps : List AV} (hf : fnOf (evoG t g fo) = some (f, caps)) (he : Enters P f) {vargs : List AV} {x : AV} (hc : Pure P f vargs x)
  (hv : args.map (evoG t g) ++ caps = vargs) (hk : okL 0 vargs) (hp : x.ok 0) : Yield P gds t m o (optG g x) := by
 refine ⟨fun c e => (by rw [ho] at e; cases e), fun X w ρ a hi hr hn => ?_⟩
 have hcall : ∀ (hb : g = none ∨ g = some true), Gives P o a w fun v w' => R X w' ρ x v ∧ Inv X w' ρ m ∧ Tr w ρ w' ρ := by
  intro hb
  obtain ⟨h1, h2⟩ := onames_call (fo := fo) (args := args) (tys := tys) (t := t) (a := a) (X := X) (w := w) (ρ := ρ) (fun n hn => hr n (.inr (by rw [ho]; exact hn)))
  have h3 := evoG_rel hok hb (a := a) (X := X) (w := w) (ρ := ρ) (by intro y hy; cases hy with | head => exact h1 | tail _ hy => exact h2 y hy)
  obtain ⟨cs, hcs, hcr⟩ := fnOf_rel hf (h3 fo (by simp))
  have hrun := run_call (P := P) (w := w) ho hcs he
  have hargs : Rvals X w ρ (args.map (evoG t g) ++ caps) (args.map a.eval ++ cs) := (Rvals_map args fun y hy => h3 y (by simp [hy])).append hcr
  rw [hv] at hargs
  refine .inr ⟨f, _, hrun, ?_⟩
  have hcv := hc (owned X ρ) w [] (args.map a.eval ++ cs) (Inv.empty (hg := hi.gd.nil fun _ h => free_owned.2 h) fun b h => by
    rcases h with h | ⟨r, hr', hb'⟩
    ·exact hi.out b h
    ·obtain ⟨i, hi', rfl⟩ := List.getElem_of_mem hr'; exact (hi.new i _ b (List.getElem?_eq_getElem hi') hb').1)
   (Rvals.eyes (fun b h => free_owned.2 h) vargs hk _ hargs)
  refine hcv.mono ?_
  rintro e w' ⟨v, x', m', ρ', rfl, ⟨rfl, rfl⟩, k1, k2, k3⟩
  have hρ' : ρ' = [] := List.eq_nil_of_length_eq_zero (by have := k2.len; simpa using this)
  subst hρ'
  exact ⟨v, rfl, (Rp.eyes (fun b h => free_owned.1 h) x' hp).1 v k1, hi.keep k3, k3.keep ρ fun r hr' b hb' => by obtain ⟨i, hi', rfl⟩ := List.getElem_of_mem hr'; exact (hi.new i _ b (List.getElem?_eq_getElem hi') hb').1⟩
 cases hgd : o.guard with
 | none =>
  rw [hgd] at hg
  simp only [gvalO, Option.some.injEq] at hg
  subst hg
  exact ⟨fun _ => hcall (.inl rfl), fun hw => by simp [Region.wanted, hgd] at hw⟩
 | some gg =>
  rw [hgd] at hg
  simp only [gvalO, Option.map_eq_some_iff] at hg
  obtain ⟨b, hb, rfl⟩ := hg
  have hw := gval_wanted (a := a) hgd (fun n hn' => ⟨hr n (.inl hn'), hn n hn'⟩) hb
  rw [hw]
  refine ⟨fun hbt => ?_, fun hbf => ⟨fun e => (by rw [hbf] at e; cases e), fun _ => rfl⟩⟩
  subst hbt
  rcases hcall (.inr rfl) with ⟨v, w', q1, q2, q3, q4⟩ | ⟨f', args', q1, q2⟩
  ·exact .inl ⟨v, w', q1, ⟨fun _ => q2, fun e => (by cases e)⟩, q3, q4⟩
  ·exact .inr ⟨f', args', q1, q2.mono fun e w' ⟨v, e1, q2, q3, q4⟩ => ⟨v, e1, ⟨fun _ => q2, fun e => (by cases e)⟩, q3, q4⟩⟩
theorem Run.pureF {fo : Operand} {args : List Operand} {tys : Array TypeId} {dst : Option Nat} {type : TypeId} {pos : String} {after : Array Edge} {g : Option Bool} {guard : Option (Nat × Bool)} {f : FuncId} {caps vargs : List AV} {x : AV}
  (he : Enters P f) (hg : gvalO gds s.t guard = some g) (hf : fnOf (evoG s.t g fo) = some (f, caps)) (hv : args.map (evoG s.t g) ++ caps = vargs) (hc : Pure P f vargs x)
  (hok : gOk s.t g (fo :: args)) (hk : okL 0 vargs) (hp : x.ok 0) (k : Run P gds l Q (s.put dst (optG g x))) : Run P gds (⟨dst, callOp fo args tys, type, pos, after, guard⟩ :: l) Q s :=
 Run.yield (o := ⟨dst, callOp fo args tys, type, pos, after, guard⟩) (Pure.yieldF rfl hg hok hf he hc hv hk hp) k
theorem Abn.pureF {fo : Operand} {args : List Operand} {tys : Array TypeId} {dst : Option Nat} {type : TypeId} {pos : String} {after : Array Edge} {g : Option Bool} {guard : Option (Nat × Bool)} {f : FuncId} {caps vargs : List AV} {x : AV} {s1 : S}
  (he : Enters P f) (hg : gvalO gds s.t guard = some g) (hf : fnOf (evoG s.t g fo) = some (f, caps)) (hv : args.map (evoG s.t g) ++ caps = vargs) (hc : Pure P f vargs x)
  (hok : gOk s.t g (fo :: args)) (hk : okL 0 vargs) (hp : x.ok 0) (k : Abn P gds l (s.put dst (optG g x)) s1) : Abn P gds (⟨dst, callOp fo args tys, type, pos, after, guard⟩ :: l) s s1 :=
 Abn.yield (o := ⟨dst, callOp fo args tys, type, pos, after, guard⟩) (Pure.yieldF rfl hg hok hf he hc hv hk hp) k
theorem call_args {a : Act} (hr : Rel X s a w ρ) {fo : Operand} {args : List Operand} {f : FuncId} {caps : List AV} (hf : fnOf (evo s.t fo) = some (f, caps)) : ∃ cs : List Value, a.eval fo = .func (.func f) #[] cs.toArray ∧ Rvals X w ρ (args.map (evo s.t) ++ caps) (args.map a.eval ++ cs) := by
 obtain ⟨cs, h1, h2⟩ := fnOf_rel hf (evo_rel hr.tmps fo)
 exact ⟨cs, h1, (Rvals_map args fun y _ => evo_rel hr.tmps y).append h2⟩
theorem Run.spec {fo : Operand} {args : List Operand} {tys : Array TypeId} {dst : Option Nat} {type : TypeId} {pos : String} {after : Array Edge} {f : FuncId} {caps vargs : List AV} {m0 : Mem} {C : AV → Mem → Prop}
  (he : Enters P f) (hm : s.m = m0) (hf : fnOf (evo s.t fo) = some (f, caps)) (hv : args.map (evo s.t) ++ caps = vargs) (hc : Spec P f vargs m0 C) (k : ∀ x m', C x m' → Run P gds l Q ({ s with m := m' }.put dst x)) : Run P gds (⟨dst, callOp fo args tys, type, pos, after, none⟩ :: l) Q s := by
 intro hg hd
 refine Run.eff (fun X r a w ρ hr => ?_) hg hd
 unfold opwp
 rw [if_pos (by simp [Region.wanted])]
 obtain ⟨cs, h1, h2⟩ := call_args (args := args) hr hf
 have hrun := run_call (P := P) (w := w) (o := ⟨dst, callOp fo args tys, type, pos, after, none⟩) rfl h1 he
 refine ⟨fun _ _ => trivial, ?_⟩
 rw [Oper.semAt_eq _ _ _ (by intro c e; cases e), hrun]
 refine ⟨fun h => (by cases h), callsIn_fence ?_⟩
 rw [hv] at h2
 refine (hc X w ρ _ (by rw [← hm]; exact hr.inv) h2).mono ?_
 rintro e w' ⟨v, x, m', ρ', rfl, q, k1, k2, k3⟩
 exact ⟨{ s with m := m' }.put dst x, ρ', ⟨by rw [S.put_n], k x m' q⟩, (hr.step k3 k2).put (hd ⟨dst, callOp fo args tys, type, pos, after, none⟩ (by simp)) k1, k3⟩
end
mutual
def AV.shift (k : Nat) : AV → AV
 | .val v => .val v
 | .any => .any
 | .lst sz l => .lst sz (shiftL k l)
 | .osl id ver off len => .osl (k + id) ver off len
 | .emp => .emp
 | .ref xs j => .ref (shiftL k xs) j
 | .optr id ver i j => .optr (k + id) ver i j
 | .agg xs => .agg (shiftL k xs)
 | .tup xs => .tup (shiftL k xs)
 | .clo f caps => .clo f (shiftL k caps)
 | .bnd f xs => .bnd f (shiftL k xs)
 | .opt g x => .opt g (x.shift k)
 | .yld id ver => .yld (k + id) ver
 | .omap id ver => .omap (k + id) ver
def shiftL (k : Nat) : List AV → List AV
 | [] => []
 | x :: l => x.shift k :: shiftL k l
end
theorem shiftL_len (k : Nat) : ∀ l : List AV, (shiftL k l).length = l.length
 | [] => rfl
 | x :: l => by simp [shiftL, shiftL_len k l]
theorem shiftL_nil (k : Nat) {l : List AV} (h : shiftL k l ≠ []) : l ≠ [] := by intro e; subst e; exact h rfl
theorem get_right {ρ ρ' : Rho} {id : Nat} {r : RE} (h : ρ'[id]? = some r) : (ρ ++ ρ')[ρ.length + id]? = some r := by
 rw [List.getElem?_append_right (by omega)]; simpa using h
mutual
theorem Rp.shift {X X' : Nat → Prop} {ρ ρ' : Rho} (hf : ∀ b, Free X' ρ' b → Free X (ρ ++ ρ') b) : ∀ (x : AV), (∀ v, R X' w ρ' x v → R X w (ρ ++ ρ') (x.shift ρ.length) v) ∧ (∀ sz b o, Re X' w ρ' x sz b o → Re X w (ρ ++ ρ') (x.shift ρ.length) sz b o)
 | .val _ => ⟨fun _ h => h, fun _ _ _ h => h⟩
 | .any => ⟨fun _ h => h, fun _ _ _ h => h⟩
 | .lst sz l => by
  have key : ∀ v, R X' w ρ' (.lst sz l) v → R X w (ρ ++ ρ') ((AV.lst sz l).shift ρ.length) v := by
   rintro v ⟨A, c, h1, h2, h3, h4⟩
   refine ⟨A, c, by rw [shiftL_len]; exact h1, by rw [shiftL_len]; exact h2, h3, fun hl => ?_⟩
   obtain ⟨b, o, hA, hfr, hs, hr⟩ := h4 (shiftL_nil _ hl)
   exact ⟨b, o, hA, hf b hfr, hs, Rrow.shift hf l sz b o hr⟩
  exact ⟨key, fun _ _ _ h => OneAt.mono (fun _ => rfl) h key⟩
 | .osl id ver off len => by
  have key : ∀ v, R X' w ρ' (.osl id ver off len) v → R X w (ρ ++ ρ') ((AV.osl id ver off len).shift ρ.length) v := by
   rintro v ⟨A, c, r, h1, h2, h3, h4⟩
   exact ⟨A, c, r, h1, get_right h2, h3, h4⟩
  exact ⟨key, fun _ _ _ h => OneAt.mono (fun _ => rfl) h key⟩
 | .emp => ⟨fun _ h => h, fun _ _ _ h => h⟩
 | .ref xs j => by
  have key : ∀ v, R X' w ρ' (.ref xs j) v → R X w (ρ ++ ρ') ((AV.ref xs j).shift ρ.length) v := by
   rintro v ⟨b, o, h1, hj, hfr, hr⟩
   exact ⟨b, o, h1, by rw [shiftL_len]; exact hj, hf b hfr, Rcells.shift hf xs b o hr⟩
  exact ⟨key, fun _ _ _ h => OneAt.mono (fun _ => rfl) h key⟩
 | .optr id ver i j => by
  have key : ∀ v, R X' w ρ' (.optr id ver i j) v → R X w (ρ ++ ρ') ((AV.optr id ver i j).shift ρ.length) v := by
   rintro v ⟨A, r, h1, h2, h3, h4⟩
   exact ⟨A, r, h1, get_right h2, h3, h4⟩
  exact ⟨key, fun _ _ _ h => OneAt.mono (fun _ => rfl) h key⟩
 | .agg xs => ⟨fun _ ⟨vs, h1, h2⟩ => ⟨vs, h1, Rvals.shift hf xs vs h2⟩, fun _ b o h => ⟨by rw [shiftL_len]; exact h.1, Rcells.shift hf xs b o h.2⟩⟩
 | .tup xs => ⟨fun _ ⟨vs, h1, h2⟩ => ⟨vs, h1, Rvals.shift hf xs vs h2⟩, fun _ _ _ h => h⟩
 | .clo f caps => by
  have key : ∀ v, R X' w ρ' (.clo f caps) v → R X w (ρ ++ ρ') ((AV.clo f caps).shift ρ.length) v := by
   rintro v ⟨vs, h1, h2⟩
   exact ⟨vs, h1, Rvals.shift hf caps vs h2⟩
  exact ⟨key, fun _ _ _ h => OneAt.mono (fun _ => rfl) h key⟩
 | .bnd f xs => by
  have key : ∀ v, R X' w ρ' (.bnd f xs) v → R X w (ρ ++ ρ') ((AV.bnd f xs).shift ρ.length) v := by
   rintro v ⟨vs, h1, h2⟩
   exact ⟨vs, h1, Rvals.shift hf xs vs h2⟩
  exact ⟨key, fun _ _ _ h => OneAt.mono (fun _ => rfl) h key⟩
 | .opt g x => ⟨fun v h => ⟨fun e => (Rp.shift hf x).1 v (h.1 e), h.2⟩, fun _ _ _ h => h⟩
 | .yld id ver => by
  have key : ∀ v, R X' w ρ' (.yld id ver) v → R X w (ρ ++ ρ') ((AV.yld id ver).shift ρ.length) v := by
   rintro v ⟨l, r, h1, h2, h3, h4⟩
   exact ⟨l, r, h1, get_right h2, h3, h4⟩
  exact ⟨key, fun _ _ _ h => OneAt.mono (fun _ => rfl) h key⟩
 | .omap id ver => by
  have key : ∀ v, R X' w ρ' (.omap id ver) v → R X w (ρ ++ ρ') ((AV.omap id ver).shift ρ.length) v := by
   rintro v ⟨l, r, h1, h2, h3, h4⟩
   exact ⟨l, r, h1, get_right h2, h3, h4⟩
  exact ⟨key, fun _ _ _ h => OneAt.mono (fun _ => rfl) h key⟩
theorem Rvals.shift {X X' : Nat → Prop} {ρ ρ' : Rho} (hf : ∀ b, Free X' ρ' b → Free X (ρ ++ ρ') b) : ∀ (xs : List AV) (vs : List Value), Rvals X' w ρ' xs vs → Rvals X w (ρ ++ ρ') (shiftL ρ.length xs) vs
 | [], _, h => h
 | x :: xs, _, ⟨v, vs', h1, h2, h3⟩ => ⟨v, vs', h1, (Rp.shift hf x).1 v h2, Rvals.shift hf xs vs' h3⟩
theorem Rcells.shift {X X' : Nat → Prop} {ρ ρ' : Rho} (hf : ∀ b, Free X' ρ' b → Free X (ρ ++ ρ') b) : ∀ (xs : List AV) (b o : Nat), Rcells X' w ρ' xs b o → Rcells X w (ρ ++ ρ') (shiftL ρ.length xs) b o
 | [], _, _, _ => trivial
 | x :: xs, b, o, ⟨⟨v, hv, h1, hx⟩, h2⟩ => ⟨⟨v, hv, h1, (Rp.shift hf x).1 v hx⟩, Rcells.shift hf xs b (o + 1) h2⟩
theorem Rrow.shift {X X' : Nat → Prop} {ρ ρ' : Rho} (hf : ∀ b, Free X' ρ' b → Free X (ρ ++ ρ') b) : ∀ (l : List AV) (sz b o : Nat), Rrow X' w ρ' l sz b o → Rrow X w (ρ ++ ρ') (shiftL ρ.length l) sz b o
 | [], _, _, _, _ => trivial
 | x :: l, sz, b, o, ⟨h1, h2⟩ => ⟨(Rp.shift hf x).2 sz b o h1, Rrow.shift hf l sz b (o + sz) h2⟩
end
def Kind.shift (k : Nat) : Kind → Kind
 | .row sz l => .row sz (shiftL k l)
 | .dfr => .dfr
 | .lrec t n ps asg body pe busy => .lrec (t.map fun p => (p.1, p.2.shift k)) n ps asg body pe busy
 | .mp l => .mp (l.map fun kx => (kx.1, kx.2.shift k))
 | .ext bl o => .ext bl o
theorem look_shift (k : Nat) : ∀ (t : List (Nat × AV)) (n : Nat), look (t.map fun p => (p.1, p.2.shift k)) n = (look t n).shift k
 | [], _ => rfl
 | (j, x) :: t, n => by
  simp only [List.map_cons, look]
  split
  ·rfl
  ·exact look_shift k t n
theorem Inv.join {X X' : Nat → Prop} {w w' : World} {ρ ρ' : Rho} {m m' : Mem} (hi : Inv X w ρ m) (htr : Tr w [] w' ρ') (hi' : Inv X' w' ρ' m') (hf : ∀ b, Free X' ρ' b → Free X (ρ ++ ρ') b) : Tr w ρ w' (ρ ++ ρ') ∧ Inv X w' (ρ ++ ρ') (m ++ m'.map fun e => ⟨e.ver, e.kind.shift m.length⟩) := by
 have hnew : ∀ r ∈ ρ', ∀ b, r.blk = some b → w.heap.size ≤ b := by
  intro r hr b hb
  rcases Nat.lt_or_ge b w.heap.size with h | h
  ·exact absurd hb ((htr.block b (fun r hr => by cases hr) h).1 r hr)
  ·exact h
 have hold : ∀ b, b < w.heap.size → w'.heap[b]? = w.heap[b]? := fun b h => (htr.block b (fun r hr => by cases hr) h).2
 have hmem : ∀ {i : Nat} {r : RE}, ρ[i]? = some r → (ρ ++ ρ')[i]? = some r := fun {i r} h => by rw [List.getElem?_append_left (List.getElem?_eq_some_iff.1 h).1]; exact h
 have t : Tr w ρ w' (ρ ++ ρ') := by
  refine ⟨htr.os, htr.tape, htr.output, htr.size, fun i r hr => ⟨r, hmem hr, Nat.le_refl _, fun _ => rfl⟩, fun b hb hlt => ⟨fun r hr => ?_, hold b hlt⟩⟩
  rcases List.mem_append.1 hr with h | h
  ·exact hb r h
  ·intro e; have := hnew r h b e; omega
 have get : ∀ (i : Nat) (r : RE), (ρ ++ ρ')[i]? = some r → (i < ρ.length ∧ ρ[i]? = some r) ∨ (∃ j, i = ρ.length + j ∧ ρ'[j]? = some r) := by
  intro i r h
  by_cases hlt : i < ρ.length
  ·rw [List.getElem?_append_left hlt] at h; exact .inl ⟨hlt, h⟩
  ·rw [List.getElem?_append_right (by omega)] at h
   exact .inr ⟨i - ρ.length, by omega, h⟩
 refine ⟨t, by simp [hi.len, hi'.len], fun i r e hr he => ?_, fun i j r1 r2 b h1 h2 hb1 hb2 => ?_, fun i r b hr hb => ?_, fun b hb => Nat.lt_of_lt_of_le (hi.out b hb) htr.size, hi.gd.tr t⟩
 ·rcases get i r hr with ⟨hlt, h⟩ | ⟨j, rfl, h⟩
  ·rw [List.getElem?_append_left (by rw [← hi.len]; exact hlt)] at he
   obtain ⟨q0, q⟩ := hi.at_ i r e h he
   exact ⟨q0, q.mono t.kp fun b' hb' => hold b' (hi.new i r b' h hb').1⟩
  ·rw [hi.len, List.getElem?_append_right (by omega)] at he
   rw [show m.length + j - m.length = j by omega, List.getElem?_map] at he
   cases he' : m'[j]? with
   | none => simp [he'] at he
   | some e' =>
    simp [he'] at he; subst he
    obtain ⟨q0, q⟩ := hi'.at_ j r e' h he'
    refine ⟨q0, ?_⟩
    simp only
    cases hk : e'.kind with
    | row sz l =>
     rw [hk] at q
     obtain ⟨q1, q2, q3⟩ := q
     refine ⟨q1, fun hn => by rw [q2 hn]; rfl, fun b' hb' => ?_⟩
     obtain ⟨r1, r2, r3⟩ := q3 b' hb'
     have hs := Rrow.shift hf l sz b' r.base r3
     rw [hi.len] at hs
     exact ⟨r1, by rw [shiftL_len]; exact r2, hs⟩
    | dfr => rw [hk] at q; exact q
    | lrec tt n ps asg body pe busy =>
     rw [hk] at q
     obtain ⟨b', rec, q1, q2, q3, q4, q5, q6, q7, q8, q9⟩ := q
     refine ⟨b', rec, q1, q2, q3, q4, q5, q6, q7, q8, fun j => ?_⟩
     rw [look_shift, ← hi.len]
     exact (Rp.shift hf _).1 _ (q9 j)
    | mp l =>
     rw [hk] at q
     obtain ⟨q0, b', es, clock, q1, q2, q3⟩ := q
     refine ⟨by simpa [List.map_map, Function.comp_def] using q0, b', es, clock, q1, q2, ?_⟩
     rw [← hi.len]
     exact Rents.map (fun _ => True) (fun x v _ q => (Rp.shift hf x).1 v q) (fun _ _ => trivial) q3
    | ext bl o => rw [hk] at q; exact q
 ·rcases get i r1 h1 with ⟨_, g1⟩ | ⟨j1, rfl, g1⟩ <;> rcases get j r2 h2 with ⟨_, g2⟩ | ⟨j2, rfl, g2⟩
  ·exact hi.apart i j r1 r2 b g1 g2 hb1 hb2
  ·have := (hi.new i r1 b g1 hb1).1
   have := hnew r2 (List.mem_of_getElem? g2) b hb2
   omega
  ·have := (hi.new j r2 b g2 hb2).1
   have := hnew r1 (List.mem_of_getElem? g1) b hb1
   omega
  ·rw [hi'.apart j1 j2 r1 r2 b g1 g2 hb1 hb2]
 ·rcases get i r hr with ⟨_, g1⟩ | ⟨j1, rfl, g1⟩
  ·have := hi.new i r b g1 hb
   exact ⟨Nat.lt_of_lt_of_le this.1 htr.size, this.2⟩
  ·refine ⟨(hi'.new j1 r b g1 hb).1, fun hx => ?_⟩
   have := hi.out b hx
   have := hnew r (List.mem_of_getElem? g1) b hb
   omega
section
variable {gds : List (Option Nat)} {l : List Oper} {Q : S → Prop} {s : S}
theorem Run.fresh {fo : Operand} {args : List Operand} {tys : Array TypeId} {dst : Option Nat} {type : TypeId} {pos : String} {after : Array Edge} {f : FuncId} {caps vargs : List AV} {C : AV → Mem → Prop}
  (he : Enters P f) (hf : fnOf (evo s.t fo) = some (f, caps)) (hv : args.map (evo s.t) ++ caps = vargs) (hc : Spec P f vargs [] C) (hk : okL 0 vargs)
  (k : ∀ x m', C x m' → Run P gds l Q ({ s with m := s.m ++ m'.map fun (e : Ent) => (⟨e.ver, e.kind.shift s.m.length⟩ : Ent) }.put dst (x.shift s.m.length))) : Run P gds (⟨dst, callOp fo args tys, type, pos, after, none⟩ :: l) Q s := by
 intro hg hd
 refine Run.eff (fun X r a w ρ hr => ?_) hg hd
 unfold opwp
 rw [if_pos (by simp [Region.wanted])]
 obtain ⟨cs, h1, h2⟩ := call_args (args := args) hr hf
 have hrun := run_call (P := P) (w := w) (o := ⟨dst, callOp fo args tys, type, pos, after, none⟩) rfl h1 he
 refine ⟨fun _ _ => trivial, ?_⟩
 rw [Oper.semAt_eq _ _ _ (by intro c e; cases e), hrun]
 refine ⟨fun h => (by cases h), callsIn_fence ?_⟩
 rw [hv] at h2
 refine (hc (owned X ρ) w [] _ (Inv.empty (hg := hr.inv.gd.nil fun _ h => free_owned.2 h) fun b h => by
   rcases h with h | ⟨r, hr', hb'⟩
   ·exact hr.inv.out b h
   ·obtain ⟨i, hi', rfl⟩ := List.getElem_of_mem hr'; exact (hr.inv.new i _ b (List.getElem?_eq_getElem hi') hb').1)
  (Rvals.eyes (fun b h => free_owned.2 h) vargs hk _ h2)).mono ?_
 rintro e w' ⟨v, x, m', ρ', rfl, q, k1, k2, k3⟩
 have hfree : ∀ b, Free (owned X ρ) ρ' b → Free X (ρ ++ ρ') b := by
  rintro b ⟨g1, g2⟩
  refine ⟨fun hx => g1 (.inl hx), fun r hr' hb => ?_⟩
  rcases List.mem_append.1 hr' with h | h
  ·exact g1 (.inr ⟨r, h, hb⟩)
  ·exact g2 r h hb
 obtain ⟨t1, t2⟩ := hr.inv.join k3 k2 hfree
 have hx := (Rp.shift (w := w') hfree x).1 v k1
 rw [hr.inv.len] at hx
 exact ⟨_, ρ ++ ρ', ⟨by rw [S.put_n], k x m' q⟩, (hr.step t1 t2).put (hd ⟨dst, callOp fo args tys, type, pos, after, none⟩ (by simp)) hx, t1⟩
def AV.mine : AV → Prop
 | .osl _ _ _ _ => True
 | .tup xs => ∀ x ∈ xs, x.plain ∨ ∃ id ver off len, x = .osl id ver off len
 | x => x.plain
theorem Rrow.plain {X X' : Nat → Prop} {ρ ρ' : Rho} : ∀ {l : List AV} {sz b o : Nat}, plainL l → Rrow X w ρ l sz b o → Rrow X' w ρ' l sz b o
 | [], _, _, _, _, _ => trivial
 | x :: l, sz, b, o, hp, ⟨h1, h2⟩ => by
  refine ⟨?_, Rrow.plain hp.2 h2⟩
  have hcells : ∀ (xs : List AV) (b o : Nat), plainL xs → Rcells X w ρ xs b o → Rcells X' w ρ' xs b o := by
   intro xs
   induction xs with
   | nil => intro _ _ _ _; trivial
   | cons y ys ih =>
    rintro b o hp ⟨⟨v, q1, q2, q3⟩, q4⟩
    exact ⟨⟨v, q1, q2, R.plain y hp.1 v q3⟩, ih b (o + 1) hp.2 q4⟩
  have h0 := hp.1
  cases x <;> simp only [AV.plain] at h0
  case agg xs => exact ⟨h1.1, hcells xs b o h0 h1.2⟩
  case opt g y => exact h1.elim
  case tup xs => exact h1.elim
  all_goals exact h1
theorem shiftL_plain (k : Nat) : ∀ (l : List AV), plainL l → shiftL k l = l := by
 have key : ∀ (n : Nat) (x : AV), SizeOf.sizeOf x ≤ n → x.plain → x.shift k = x := by
  intro n
  induction n with
  | zero => intro x hx; cases x <;> simp at hx
  | succ n ih =>
   have hl : ∀ (l : List AV), SizeOf.sizeOf l ≤ n + 1 → plainL l → shiftL k l = l := by
    intro l
    induction l with
    | nil => intro _ _; rfl
    | cons y ys ihl =>
     intro hs hp
     simp at hs
     simp only [shiftL]
     rw [ih y (by omega) hp.1, ihl (by omega) hp.2]
   intro x hx hp
   cases x <;> simp only [AV.plain] at hp <;> simp only [AV.shift]
   case agg xs => rw [hl xs (by simp at hx; omega) hp]
   case tup xs => rw [hl xs (by simp at hx; omega) hp]
   case opt g y => rw [ih y (by simp at hx; omega) hp]
 intro l
 induction l with
 | nil => intro _; rfl
 | cons y ys ih => intro hp; simp only [shiftL]; rw [key _ y (Nat.le_refl _) hp.1, ih hp.2]
end
theorem leave0 {s : S} {rs : List ResultVar} {xs : List AV} {p : Prop} {x : AV} (hd : s.d = []) (h : resL P s rs = some (xs, p)) (hp : p) (hk : (packRes xs).ok 0) (hx : packRes xs = x) : leaves P rs 0 (fun x' m' => x' = x ∧ m' = []) .ret s := by
 have e : { s with m := kill s.m s.d, d := [] } = s := by rw [hd]; cases s; simp only at hd; subst hd; rfl
 exact ⟨by rw [hd]; simp, by rw [hd]; simp, xs, p, by rw [e]; exact h, hp, hk, by simp, hx, by simp⟩
theorem leaveK {s : S} {rs : List ResultVar} {xs : List AV} {p : Prop} {k : Nat} {C : AV → Mem → Prop} (hd : s.d = []) (h : resL P s rs = some (xs, p)) (hp : p) (hk : (packRes xs).ok k) (hm : ∀ e ∈ s.m.take k, e.kind.ok k) (hx : C (packRes xs) (s.m.take k)) : leaves P rs k C .ret s := by
 have e : { s with m := kill s.m s.d, d := [] } = s := by rw [hd]; cases s; simp only at hd; subst hd; rfl
 have e2 : kill s.m s.d = s.m := by rw [hd]; rfl
 exact ⟨by rw [hd]; simp, by rw [hd]; simp, xs, p, by rw [e]; exact h, hp, hk, by rw [e2]; exact hm, by rw [e2]; exact hx⟩
end Go.Vg
namespace Go.Vg
open Go.RowKit
variable {P : Program} {X : Nat → Prop} {w : World} {ρ : Rho}
section
variable {gds : List (Option Nat)} {l : List Oper} {Q : S → Prop} {s : S}
def unV : AV → AV
 | .opt g x => if g = true then x else .opt g x
 | x => x
def unE (q : Nat × AV) : Nat × AV := (q.1, unV q.2)
theorem unV_rel {x : AV} {v : Value} (h : R X w ρ x v) : R X w ρ (unV x) v := by
 cases x <;> first | exact h | skip
 rename_i g y
 cases g
 ·exact h
 ·exact h.1 rfl
theorem look_map_unE (n : Nat) : ∀ (t : List (Nat × AV)), look (t.map unE) n = unV (look t n)
 | [] => rfl
 | (k, x) :: t => by
  simp only [List.map_cons, unE, look]
  split
  ·rfl
  ·exact look_map_unE n t
theorem look_unE (t : List (Nat × AV)) (n : Nat) {v : Value} (h : R X w ρ (look t n) v) : R X w ρ (look (t.map unE) n) v := by
 rw [look_map_unE]; exact unV_rel h
theorem Run.gtrue {dst : Option Nat} {op : Op} {type : TypeId} {pos : String} {after : Array Edge} {g : Nat × Bool} {t' : List (Nat × AV)} (h : gval gds s.t g = some true) (ht : s.t.map unE = t') (k : Run P gds (⟨dst, op, type, pos, after, none⟩ :: l) Q { s with t := t' }) : Run P gds (⟨dst, op, type, pos, after, some g⟩ :: l) Q s := by
 subst ht
 intro hg hd X r a w ρ hr
 have hw := gval_wanted (o := ⟨dst, op, type, pos, after, some g⟩) (a := a) (X := X) (w := w) (ρ := ρ) rfl (fun n hn => ⟨hr.tmps n, by rw [hr.size]; exact gnames_lt hg _ n hn⟩) h
 have hr' : Rel X { s with t := s.t.map unE } a w ρ := ⟨fun n => look_unE s.t n (hr.tmps n), hr.size, hr.inv, hr.defers⟩
 have h0 := k hg (fun o ho => by
  cases ho with
  | head => exact hd ⟨dst, op, type, pos, after, some g⟩ (by simp)
  | tail _ ho => exact hd o (List.mem_cons_of_mem _ ho)) X r a w ρ hr'
 unfold opwp at h0 ⊢
 rw [if_pos (by simp [Region.wanted])] at h0
 rw [if_pos hw]
 exact h0
theorem Run.gfalse (x : AV) {dst : Option Nat} {op : Op} {type : TypeId} {pos : String} {after : Array Edge} {g : Nat × Bool} (h : gval gds s.t g = some false) (k : Run P gds l Q (s.put dst (.opt false x))) : Run P gds (⟨dst, op, type, pos, after, some g⟩ :: l) Q s := by
 intro hg hd X r a w ρ hr
 have hw := gval_wanted (o := ⟨dst, op, type, pos, after, some g⟩) (a := a) (X := X) (w := w) (ρ := ρ) rfl (fun n hn => ⟨hr.tmps n, by rw [hr.size]; exact gnames_lt hg _ n hn⟩) h
 unfold opwp
 rw [if_neg (by rw [hw]; simp)]
 refine ⟨s.put dst (.opt false x), ρ, k (by rw [S.put_n]; exact hg) (fun o ho => by rw [S.put_n]; exact hd o (List.mem_cons_of_mem _ ho)), hr.put (hd ⟨dst, op, type, pos, after, some g⟩ (by simp)) ⟨fun e => (by cases e), fun _ => rfl⟩, Tr.refl w ρ⟩
end
def bindP : List Nat → List AV → List (Nat × AV) → List (Nat × AV)
 | p :: ps, x :: xs, t => bindP ps xs ((p, x) :: t)
 | _, _, t => t
def roundQ (C : Option Code → S → Prop) : Exit → S → Prop
 | .normal, s => C none s
 | .ret, s => C (some .ret) s
 | .exit id, s => C (some (.exit id)) s
 | .goto t, s => C (some (.goto t)) s
 | _, _ => False
end Go.Vg
namespace Go.Vg
open Go.RowKit
variable {P : Program} {X : Nat → Prop} {w : World} {ρ : Rho}
def nilOk (m : Mem) (b : Bool) : AV → Prop
 | .lst _ l => b = true → l = []
 | .osl id ver _ len =>
  match m[id]? with
  | some ⟨v, _⟩ => v = ver → b = true → len = 0
  | none => False
 | .emp => True
 | _ => False
def isSl : AV → Bool
 | .lst _ _ => true
 | .osl _ _ _ _ => true
 | .emp => true
 | _ => false
theorem nilOk_rel {m : Mem} (hi : Inv X w ρ m) {x : AV} {v : Value} (h : R X w ρ x v) (hs : isSl x = true) : ∃ A n c, v = .slice A n c ∧ nilOk m A.isNone x := by
 cases x <;> simp only [isSl, Bool.false_eq_true] at hs
 ·rename_i sz l
  obtain ⟨A, c, rfl, _, _, h3⟩ := h
  refine ⟨A, _, c, rfl, fun hb => ?_⟩
  by_cases hl : l = []
  ·exact hl
  ·obtain ⟨b, o, rfl, _⟩ := h3 hl; cases hb
 ·rename_i id ver off len
  obtain ⟨A, c, r, rfl, hr, hv, hat⟩ := h
  have hlt : id < m.length := by rw [← hi.len]; exact (List.getElem?_eq_some_iff.1 hr).1
  refine ⟨A, _, c, rfl, ?_⟩
  show (match m[id]? with
   | some ⟨v, _⟩ => v = ver → A.isNone = true → len = 0
   | none => False)
  rw [List.getElem?_eq_getElem hlt]
  intro hver hb
  obtain ⟨e1, _⟩ := hi.at_ id r _ hr (List.getElem?_eq_getElem hlt)
  have hver' : m[id].ver = ver := hver
  obtain ⟨q1, q2, q3⟩ := hat (by rw [e1, hver'])
  by_cases hc : 0 < c
  ·obtain ⟨b, _, rfl, _⟩ := q3 hc; cases hb
  ·omega
 ·obtain ⟨A, rfl⟩ := h
  exact ⟨A, 0, 0, rfl, trivial⟩
section
variable {gds : List (Option Nat)} {l : List Oper} {Q : S → Prop} {s : S}
theorem Run.isnil {ty ty' : TypeId} {x : Operand} {dst : Option Nat} {type : TypeId} {pos : String} {after : Array Edge} {e : TypeId} (hu : uk P ty = .slice e) (hx : isSl (evo s.t x) = true)
  (k : ∀ b : Bool, nilOk s.m b (evo s.t x) → Run P gds l Q (s.put dst (.bool b))) : Run P gds (⟨dst, .binOp .eql ty x (.const (.slice none 0 0)) ty', type, pos, after, none⟩ :: l) Q s := by
 intro hg hd
 refine Run.eff (fun X r a w ρ hr => ?_) hg hd
 obtain ⟨A, n, c, hv, hn⟩ := nilOk_rel hr.inv (evo_rel hr.tmps x) hx
 unfold opwp
 rw [if_pos (by simp [Region.wanted])]
 refine ⟨fun _ _ => trivial, ?_⟩
 have hrun : (execOp a.eval ⟨dst, .binOp .eql ty x (.const (.slice none 0 0)) ty', type, pos, after, none⟩).run P w = .ok (.value (.bool A.isNone)) w := by
  have he : a.eval (.const (.slice none 0 0)) = .slice none 0 0 := rfl
  have hgd := run_eqGuard_val (P := P) (w := w) (op := .eql) (t := ty) (x := x) (y := .const (.slice none 0 0)) (a := .slice A n c) (b := .slice none 0 0) (by simp) (by simp)
  unfold execOp
  simp only [hv, he, Sem.run_bind, hgd, Result.andThen_ok, Go.Lib.run_eql_slice_nil w ty e A n c 0 0 (uk_slice hu), Sem.run_pure]
 rw [Oper.semAt_eq _ _ _ (by intro c e; cases e), hrun]
 exact ⟨s.put dst (.bool A.isNone), ρ, ⟨by rw [S.put_n], k _ hn⟩, hr.put (hd ⟨dst, .binOp .eql ty x (.const (.slice none 0 0)) ty', type, pos, after, none⟩ (by simp)) rfl, Tr.refl w ρ⟩
theorem Run.build0 {sz : Nat} {p : Prop} {dst : Option Nat} {op : Op} {type : TypeId} {pos : String} {after : Array Edge} (h : bldA P (evo s.t) op = some (sz, [], p)) (hp : p) (k : Run P gds l Q (s.put dst .emp)) : Run P gds (⟨dst, op, type, pos, after, none⟩ :: l) Q s := by
 refine Run.yield (o := ⟨dst, op, type, pos, after, none⟩) ⟨fun c e => (by simp only at e; subst e; simp [bldA] at h), fun X w ρ a hi hr hn => ⟨fun _ => ?_, fun hw => (by simp [Region.wanted] at hw)⟩⟩ k
 obtain ⟨e, arr, vs, h1, h2, h3, h3', h4, h5, h6⟩ := bldA_run (P := P) (o := ⟨dst, op, type, pos, after, none⟩) (X := X) (w := w) (ρ := ρ) (a := a) (evo_of fun n hn => hr n (.inr hn)) h hp
 have htr : Tr w ρ { w with heap := w.heap.push (.cells arr e) } ρ := ⟨rfl, rfl, rfl, by simp, fun _ r h => ⟨r, h, Nat.le_refl _, fun _ => rfl⟩, fun b hb hlt => ⟨hb, by simp [Array.getElem?_push_lt hlt, hlt]⟩⟩
 have hk0 : Tr w [] { w with heap := w.heap.push (.cells arr e) } [] := ⟨rfl, rfl, rfl, by simp, fun _ r h => (by simp at h), fun b hb hlt => ⟨fun r hr => (by cases hr), by simp [Array.getElem?_push_lt hlt, hlt]⟩⟩
 exact .inl ⟨_, _, h1, ⟨_, rfl⟩, hi.keep hk0, htr⟩
theorem Rrow_bytes : ∀ (bs : List UInt8) (b o : Nat), Rrow X w ρ (bs.map AV.byte) 1 b o → ∀ j (hj : j < bs.length), w.cell? ⟨b, o + j, none⟩ = some (.int .u8 (bs[j].toNat : Int))
 | [], _, _, _, j, hj => by simp at hj
 | x :: bs, b, o, ⟨h1, h2⟩, j, hj => by
  cases j with
  | zero =>
   obtain ⟨_, v, e1, _, e3⟩ := h1
   rw [Nat.add_zero, e1, e3]; rfl
  | succ j =>
   have := Rrow_bytes bs b (o + 1) h2 j (by simpa using hj)
   rw [show o + (j + 1) = o + 1 + j by omega, this]; rfl
theorem Run.bytes {src ds e : TypeId} {x : Operand} {dst : Option Nat} {type : TypeId} {pos : String} {after : Array Edge} {b : ByteArray} (hus : uk P src = .string) (hud : uk P ds = .slice e) (hue : uk P e = .int .u8) (hx : evo s.t x = .str b) (hlen : b.size ≤ 9223372036854775807)
  (k : Run P gds l Q ({ s with m := s.m ++ [(⟨0, .row 1 (b.data.toList.map AV.byte)⟩ : Ent)] }.put dst (.osl s.m.length 0 0 b.size))) : Run P gds (⟨dst, .convert src ds x, type, pos, after, none⟩ :: l) Q s := by
 intro hg hd
 refine Run.done (o := ⟨dst, .convert src ds x, type, pos, after, none⟩) rfl (by intro c e; cases e) (hd ⟨dst, .convert src ds x, type, pos, after, none⟩ (by simp)) (fun X a w ρ hr => ?_) k hg hd
 have hv := evo_rel hr.tmps x
 rw [hx, R_val] at hv
 have hrun := run_bytes_of_string (P := P) w src ds e b (uk_string hus) (uk_slice hud) (uk_int hue)
 have hexec : (execOp a.eval ⟨dst, .convert src ds x, type, pos, after, none⟩).run P w = .ok (.value (.slice (some ⟨w.heap.size, 0, none⟩) b.size (grownCap w b.size 0 e))) (w.drew.alloc (.cells (bytesRow b (grownCap w b.size 0 e)) e ((bytesRow b (grownCap w b.size 0 e)).size, (bytesRow b (grownCap w b.size 0 e)).size + 1))) := by
  unfold execOp
  simp only [hv, Sem.run_bind, hrun, Result.andThen_ok, Sem.run_pure]
 obtain ⟨W, hW⟩ : ∃ W, W = w.drew.alloc (.cells (bytesRow b (grownCap w b.size 0 e)) e ((bytesRow b (grownCap w b.size 0 e)).size, (bytesRow b (grownCap w b.size 0 e)).size + 1)) := ⟨_, rfl⟩
 obtain ⟨C, hC⟩ : ∃ C, C = bytesRow b (grownCap w b.size 0 e) := ⟨_, rfl⟩
 rw [← hW] at hexec
 rw [← hC] at hW
 have hge : b.size ≤ grownCap w b.size 0 e := grownCap_ge _ _ _ _
 have hle : grownCap w b.size 0 e ≤ maxLen := grownCap_le_maxLen _ _ _ _ (by simp only [maxLen]; omega)
 have hCs : C.size = grownCap w b.size 0 e := by rw [hC]; simp [bytesRow]; have : b.data.size = b.size := rfl; omega
 have hheap : W.heap = w.heap.push (.cells C e (C.size, C.size + 1)) := by rw [hW]; rfl
 have hnew : W.heap[w.heap.size]? = some (.cells C e (C.size, C.size + 1)) := by rw [hheap]; simp
 have hcell : ∀ j (hj : j < b.data.toList.length), W.cell? ⟨w.heap.size, j, none⟩ = some (.int .u8 ((b.data.toList[j]).toNat : Int)) := by
  intro j hj
  have hj' : j < b.data.size := by simpa using hj
  have : C[j]? = some (.int .u8 ((b.data.toList[j]).toNat : Int)) := by
   rw [hC]; unfold bytesRow
   rw [Array.getElem?_append_left (by simpa using hj')]
   simp [Array.getElem?_eq_getElem hj']
  simp [World.cell?, hnew, this]
 have hrow : ∀ (bs : List UInt8) (o : Nat) (ρ' : Rho), (∀ j (hj : j < bs.length), W.cell? ⟨w.heap.size, o + j, none⟩ = some (.int .u8 ((bs[j]).toNat : Int))) → Rrow X W ρ' (bs.map AV.byte) 1 w.heap.size o := by
  intro bs
  induction bs with
  | nil => intro _ _ _; trivial
  | cons y bs ih =>
   intro o ρ' h
   refine ⟨⟨rfl, _, by have := h 0 (by simp); simpa using this, rfl, rfl⟩, ih (o + 1) ρ' fun j hj => ?_⟩
   have := h (j + 1) (by simpa using hj)
   rw [show o + (j + 1) = o + 1 + j by omega] at this
   simpa using this
 obtain ⟨h1, h2⟩ := hr.inv.alloc (w' := W) (r := ⟨0, some w.heap.size, 0, C.size, 1⟩) (k := .row 1 (b.data.toList.map AV.byte)) hheap (by rw [hW]; rfl) (by rw [hW]; rfl) (by rw [hW]; rfl) rfl rfl (fun ρ' ht he => by
  refine ⟨rfl, fun h => (by cases h), fun b0 hb => ?_⟩
  cases hb
  refine ⟨⟨C, e, _, hnew, rfl, by simp, by simp⟩, ?_, hrow _ _ _ fun j hj => by simpa using hcell j hj⟩
  have : b.data.toList.length = b.size := by simp
  simp only [List.length_map, this, hCs]; omega)
 refine ⟨_, W, _, Or.inl hexec, h1, h2, some ⟨w.heap.size, 0, none⟩, grownCap w b.size 0 e, ⟨0, some w.heap.size, 0, C.size, 1⟩, rfl, by rw [← hr.inv.len]; exact last_get ρ _, Nat.le_refl _, fun _ => ⟨hge, hle, fun _ => ⟨w.heap.size, rfl, by simp, ?_⟩⟩⟩
 simp only; omega
theorem Run.strOf {src ds e : TypeId} {x : Operand} {dst : Option Nat} {type : TypeId} {pos : String} {after : Array Edge} {bs : List UInt8} (hus : uk P src = .slice e) (hue : uk P e = .int .u8) (hud : uk P ds = .string) (hx : rowOf s.m (evo s.t x) = some (1, bs.map AV.byte)) (hs : srcOk s.m (evo s.t x))
  (k : Run P gds l Q (s.put dst (.str ⟨bs.toArray⟩))) : Run P gds (⟨dst, .convert src ds x, type, pos, after, none⟩ :: l) Q s := by
 intro hg hd
 refine Run.done (o := ⟨dst, .convert src ds x, type, pos, after, none⟩) rfl (by intro c e; cases e) (hd ⟨dst, .convert src ds x, type, pos, after, none⟩ (by simp)) (m' := s.m) (fun X a w ρ hr => ?_) k hg hd
 have hv := evo_rel hr.tmps x
 obtain ⟨A, c, vs, e1, _, _, e4, e5, e6, e7⟩ := rowOf_vals hr.inv hv hx (fun id ver off len hxe e he => by
  rw [hxe] at hs
  simp only [srcOk, he] at hs
  obtain ⟨v, k⟩ := e
  cases k with
  | row s l => exact ⟨s, l, rfl, hs⟩
  | dfr => exact hs.elim
  | lrec => exact hs.elim
  | mp => exact hs.elim
  | ext => exact hs.elim)
 have hrun : (convert src ds (a.eval x)).run P w = .ok (.string ⟨bs.toArray⟩) w := by
  rw [e1, List.length_map]
  cases A with
  | none =>
   have hbs : bs = [] := by
    cases bs with
    | nil => rfl
    | cons y bs =>
     obtain ⟨b, o, h, _⟩ := e5 (by intro h; rw [h] at e4; simp at e4)
     cases h
   subst hbs
   exact run_convert_bytes_nil w src e (uk_slice hus) (uk_int hue) _ _ ds (uk_string hud)
  | some ad =>
   refine run_convert_bytes_back w src ds e ad c bs (uk_slice hus) (uk_int hue) (uk_string hud) fun j hj => ?_
   obtain ⟨b, o, h, hc⟩ := e5 (by intro h; rw [h] at e4; simp at e4; omega)
   cases h
   have := Rrow_bytes bs b o (e7 (Tr.refl w ρ).kp hc) j hj
   have hadd : (⟨b, o, none⟩ : Addr).add j = ⟨b, o + j, none⟩ := by unfold Addr.add; split <;> simp_all
   rw [hadd]; exact this
 refine ⟨.string ⟨bs.toArray⟩, w, ρ, Or.inl ?_, Tr.refl w ρ, hr.inv, rfl⟩
 unfold execOp
 simp only [Sem.run_bind, hrun, Result.andThen_ok, Sem.run_pure]
theorem Run.freshE {fo : Operand} {args : List Operand} {tys : Array TypeId} {dst : Option Nat} {type : TypeId} {pos : String} {after : Array Edge} {f : FuncId} {caps vargs : List AV} {m' m1 : Mem} {x x1 : AV}
  (he : Enters P f) (hf : fnOf (evo s.t fo) = some (f, caps)) (hv : args.map (evo s.t) ++ caps = vargs) (hc : Spec P f vargs [] fun x' m'' => x' = x ∧ m'' = m') (hk : okL 0 vargs)
  (hm1 : s.m ++ m'.map (fun (e : Ent) => (⟨e.ver, e.kind.shift s.m.length⟩ : Ent)) = m1) (hx1 : x.shift s.m.length = x1)
  (k : Run P gds l Q ({ s with m := m1 }.put dst x1)) : Run P gds (⟨dst, callOp fo args tys, type, pos, after, none⟩ :: l) Q s := by
 refine Run.fresh he hf hv hc hk ?_
 rintro _ _ ⟨rfl, rfl⟩
 rw [hm1, hx1]; exact k
end
end Go.Vg
namespace Go.Vg
section
variable {P : Program} {gds : List (Option Nat)} {l : List Oper} {Q : S → Prop} {s : S} {o : Oper}
def putA (s : S) (dst : Option Nat) (x : AV) : S :=
 match dst with
 | some k => ⟨(k, x) :: s.t, s.m, s.n, s.d⟩
 | none => s
theorem putA_eq (s : S) (dst : Option Nat) (x : AV) : putA s dst x = s.put dst x := by cases dst <;> rfl
def nextA (P : Program) (gds : List (Option Nat)) (s : S) (o : Oper) : Option (S × Prop) :=
 match o.guard with
 | none =>
  match ev P (evo s.t) (evo s.t) s.m o.op with
  | some (x, p) => some (putA s o.dst x, p)
  | none =>
   match effA P (evo s.t) s.m o.op with
   | some (m', x, p) => some (putA ⟨s.t, m', s.n, s.d⟩ o.dst x, p)
   | none =>
    match bldA P (evo s.t) o.op with
    | some (_, [], p) => some (putA s o.dst .emp, p)
    | some (sz, x :: xs, p) => some (putA s o.dst (.lst sz (x :: xs)), p)
    | none => none
 | some g =>
  match stepA P gds s.t s.m ⟨o.dst, o.op, o.type, o.pos, o.after, some g⟩ with
  | some (x, p) => some (putA s o.dst x, p)
  | none => none
theorem Run.next {s' : S} {p : Prop} (h : nextA P gds s o = some (s', p)) (hp : p) (k : Run P gds l Q s') : Run P gds (o :: l) Q s := by
 obtain ⟨dst, op, type, pos, after, guard⟩ := o
 unfold nextA at h
 cases guard with
 | none =>
  simp only at h
  split at h
  ·rename_i x p' he
   simp only [Option.some.injEq, Prod.mk.injEq] at h
   obtain ⟨rfl, rfl⟩ := h
   rw [putA_eq] at k
   exact Run.stepP (o := ⟨dst, op, type, pos, after, none⟩) (x := x) (by unfold stepA; exact he) hp k
  ·split at h
   ·rename_i m' x p' he
    simp only [Option.some.injEq, Prod.mk.injEq] at h
    obtain ⟨rfl, rfl⟩ := h
    rw [putA_eq] at k
    exact Run.effP he hp k
   ·split at h
    ·rename_i sz p' he
     simp only [Option.some.injEq, Prod.mk.injEq] at h
     obtain ⟨rfl, rfl⟩ := h
     rw [putA_eq] at k
     exact Run.build0 he hp k
    ·rename_i sz x xs p' he
     simp only [Option.some.injEq, Prod.mk.injEq] at h
     obtain ⟨rfl, rfl⟩ := h
     rw [putA_eq] at k
     exact Run.buildF he hp k
    ·cases h
 | some g =>
  simp only at h
  split at h
  ·rename_i x p' he
   simp only [Option.some.injEq, Prod.mk.injEq] at h
   obtain ⟨rfl, rfl⟩ := h
   rw [putA_eq] at k
   exact Run.stepP (o := ⟨dst, op, type, pos, after, some g⟩) he hp k
  ·cases h
def abnA (P : Program) (gds : List (Option Nat)) (s : S) (o : Oper) : Option (S × Prop) :=
 match stepA P gds s.t s.m o with
 | some (x, p) => some (putA s o.dst x, p)
 | none =>
  match o.guard with
  | none =>
   match bldA P (evo s.t) o.op with
   | some (sz, xs, p) => some (putA s o.dst (.lst sz xs), p)
   | none => none
  | some _ => none
theorem Abn.next {s' s1 : S} {p : Prop} (h : abnA P gds s o = some (s', p)) (hp : p) (k : Abn P gds l s' s1) : Abn P gds (o :: l) s s1 := by
 obtain ⟨dst, op, type, pos, after, guard⟩ := o
 unfold abnA at h
 split at h
 ·rename_i x p' he
  simp only [Option.some.injEq, Prod.mk.injEq] at h
  obtain ⟨rfl, rfl⟩ := h
  rw [putA_eq] at k
  exact Abn.stepP he hp k
 ·cases guard with
  | none =>
   simp only at h
   split at h
   ·rename_i sz xs p' he
    simp only [Option.some.injEq, Prod.mk.injEq] at h
    obtain ⟨rfl, rfl⟩ := h
    rw [putA_eq] at k
    exact Abn.buildF he hp k
   ·cases h
  | some g => cases h
theorem Wp.condT {r : Option Nat} {Q : Exit → S → Prop} {c : Operand} {x y : Code} (hc : evo s.t c = .bool true) (h : Wp P r x Q s) : Wp P r (.cond c x y) Q s := Wp.cond hc (fun _ => h) (fun e => by cases e)
theorem Wp.condF {r : Option Nat} {Q : Exit → S → Prop} {c : Operand} {x y : Code} (hc : evo s.t c = .bool false) (h : Wp P r y Q s) : Wp P r (.cond c x y) Q s := Wp.cond hc (fun e => by cases e) (fun _ => h)
end
end Go.Vg
namespace Go.Vg
open Go.RowKit
variable {P : Program} {X : Nat → Prop} {w : World} {ρ : Rho}
def regOnly : Op → Bool
 | .move _ | .assign _ | .pick .. | .binOp .. | .unOp .. | .convert .. | .extract .. => true
 | _ => false
theorem ev_reg {E B : Operand → AV} {m m' : Mem} {op : Op} (h : regOnly op = true) : ev P E B m op = ev P E B m' op := by
 cases op <;> simp_all [regOnly, ev]
theorem stepA_reg {gds : List (Option Nat)} {t : List (Nat × AV)} {m m' : Mem} {o : Oper} (h : regOnly o.op = true) : stepA P gds t m o = stepA P gds t m' o := by
 unfold stepA
 cases o.guard with
 | none => exact ev_reg h
 | some g =>
  simp only
  split
  ·rw [ev_reg (m' := m') h]
  ·rfl
def EffAt (P : Program) (t : List (Nat × AV)) (m : Mem) (o : Oper) (m1 : Mem) (x : AV) : Prop :=
 (∀ c, o.op ≠ .defer c) ∧ ∀ (X : Nat → Prop) (w : World) (ρ : Rho) (a : Act), Inv X w ρ m → (∀ y ∈ o.op.operands, R X w ρ (evo t y) (a.eval y)) → Done P X w ρ m1 x ((execOp a.eval o).run P w)
inductive AbsE (P : Program) (gds : List (Option Nat)) (e : Nat) : Nat → List Oper → S → S → Prop where
 | nil {k : Nat} {s : S} : AbsE P gds e k [] s s
 | cons {k : Nat} {o : Oper} {l : List Oper} {s s' : S} {x : AV} : k ≠ e → dstOk s.n o.dst → Yield P gds s.t s.m o x → (regOnly o.op = true → ∀ m', Yield P gds s.t m' o x) → AbsE P gds e (k + 1) l (s.put o.dst x) s' → AbsE P gds e k (o :: l) s s'
 | eff {k : Nat} {o : Oper} {l : List Oper} {s s' : S} {x : AV} {m1 : Mem} : k = e → o.guard = none → dstOk s.n o.dst → EffAt P s.t s.m o m1 x → AbsE P gds e (k + 1) l ({ s with m := m1 }.put o.dst x) s' → AbsE P gds e k (o :: l) s s'
theorem AbsE.data {gds : List (Option Nat)} {e : Nat} : ∀ {ops : List Oper} {s s' : S} {k : Nat}, AbsE P gds e k ops s s' → ∃ (xs : List (Oper × AV)) (m1 : Mem), xs.map (·.1) = ops ∧ s' = ⟨V xs (fun _ => true) k s.t, m1, s.n, s.d⟩ ∧ (e < k → m1 = s.m) ∧ (k + ops.length ≤ e → m1 = s.m) ∧
  ∀ (i : Nat) (ox : Oper × AV), xs[i]? = some ox → dstOk s.n ox.1.dst ∧
   (k + i ≠ e → Yield P gds (V xs (upto k i) k s.t) (if k + i < e then s.m else m1) ox.1 ox.2 ∧ (regOnly ox.1.op = true → ∀ m', Yield P gds (V xs (upto k i) k s.t) m' ox.1 ox.2)) ∧
   (k + i = e → ox.1.guard = none ∧ EffAt P (V xs (upto k i) k s.t) s.m ox.1 m1 ox.2)
 | _, s, _, k, .nil => ⟨[], s.m, rfl, rfl, fun _ => rfl, fun _ => rfl, fun i ox h => by simp at h⟩
 | o :: l, s, s', k, .cons (x := x) h0 h1 h2 h2' h3 => by
  obtain ⟨xs, m1, e1, e2, em, em', e3⟩ := AbsE.data h3
  rw [S.put_eq] at e2 em em' e3
  refine ⟨(o, x) :: xs, m1, by simp [e1], by rw [e2]; simp [V], fun h => em (by omega), fun h => em' (by simp at h; omega), fun i ox hi => ?_⟩
  cases i with
  | zero =>
   simp at hi; subst hi
   have hV : V ((o, x) :: xs) (upto k 0) k s.t = s.t := V_none _ _ _ _ (fun j _ => by simp [upto])
   refine ⟨h1, fun _ => ?_, fun h => absurd h h0⟩
   rw [hV]
   refine ⟨?_, h2'⟩
   split
   ·exact h2
   ·rw [em (by omega)]; exact h2
  | succ i =>
   obtain ⟨q1, q2, q3⟩ := e3 i ox (by simpa using hi)
   have hV : V ((o, x) :: xs) (upto k (i + 1)) k s.t = V xs (upto (k + 1) i) (k + 1) (upd s.t o.dst x) := by
    simp only [V]
    have h0 : upto k (i + 1) k = true := by simp [upto]
    rw [h0]
    have hf : upto k (i + 1) = upto (k + 1) i := by funext j; simp only [upto]; congr 1; apply propext; omega
    rw [hf]; rfl
   rw [hV, show k + (i + 1) = k + 1 + i by omega]
   exact ⟨q1, q2, q3⟩
 | o :: l, s, s', k, .eff (x := x) (m1 := m2) h0 hg h1 h2 h3 => by
  obtain ⟨xs, m1, e1, e2, em, em', e3⟩ := AbsE.data h3
  rw [S.put_eq] at e2 em em' e3
  have hm : m1 = m2 := em (by omega)
  subst hm
  refine ⟨(o, x) :: xs, m1, by simp [e1], by rw [e2]; simp [V], fun h => by omega, fun h => by simp at h; omega, fun i ox hi => ?_⟩
  cases i with
  | zero =>
   simp at hi; subst hi
   have hV : V ((o, x) :: xs) (upto k 0) k s.t = s.t := V_none _ _ _ _ (fun j _ => by simp [upto])
   refine ⟨h1, fun h => absurd h0 (by omega), fun _ => ?_⟩
   rw [hV]
   exact ⟨hg, h2⟩
  | succ i =>
   obtain ⟨q1, q2, q3⟩ := e3 i ox (by simpa using hi)
   have hV : V ((o, x) :: xs) (upto k (i + 1)) k s.t = V xs (upto (k + 1) i) (k + 1) (upd s.t o.dst x) := by
    simp only [V]
    have h0 : upto k (i + 1) k = true := by simp [upto]
    rw [h0]
    have hf : upto k (i + 1) = upto (k + 1) i := by funext j; simp only [upto]; congr 1; apply propext; omega
    rw [hf]; rfl
   rw [hV, show k + (i + 1) = k + 1 + i by omega]
   refine ⟨q1, fun hne => ?_, fun he => by omega⟩
   rw [if_neg (by omega)]
   have := q2 (by omega)
   rw [if_neg (by omega)] at this
   exact this
def befL (ops : List Oper) (e : Nat) : Nat → List Nat
 | 0 => [e]
 | n + 1 =>
  if (befL ops e n).any (fun j => match ops[j]? with
   | some o => dep o (e - (n + 1))
   | none => false) = true then (e - (n + 1)) :: befL ops e n else befL ops e n
def drawEB (gds : List (Option Nat)) (ops : List Oper) (e r : Nat) : Bool :=
 ordB gds ops ops.length && decide (e < ops.length) && (List.range ops.length).all fun i => match ops[i]? with
  | some o => i == e || regOnly o.op || (decide (i < e) && (befL ops e r).contains i) || (decide (e < i) && dep o e)
  | none => true
theorem befL_listed {ops : List Oper} {listed : Array Bool} (hcl : ∀ (j : Nat) (oj : Oper), ops[j]? = some oj → listed.getD j false = true → ∀ d ∈ oj.after, Region.binds .any d = true → listed.getD d.on false = true) {e : Nat} (he : listed.getD e false = true) : ∀ r, ∀ i ∈ befL ops e r, listed.getD i false = true
 | 0, i, hi => by simp [befL] at hi; subst hi; exact he
 | r + 1, i, hi => by
  unfold befL at hi
  split at hi
  ·rename_i ha
   rcases List.mem_cons.1 hi with rfl | hi
   ·obtain ⟨j, hj, hd⟩ := List.any_eq_true.1 ha
    have h1 := befL_listed hcl he r j hj
    split at hd
    ·rename_i o ho
     obtain ⟨d, hd', hb⟩ := Array.any_eq_true'.1 hd
     simp only [Bool.and_eq_true, beq_iff_eq] at hb
     have := hcl j o ho h1 d hd' hb.1
     rw [hb.2] at this; exact this
    ·cases hd
   ·exact befL_listed hcl he r i hi
  ·exact befL_listed hcl he r i hi
theorem drawnE {id : Nat} {ops : List Oper} {gds : List (Option Nat)} (hg : gds = ops.map (·.dst)) (e r0 : Nat) (hm : P.follows .mixedOrders = true) (hB : drawEB gds ops e r0 = true) {s s1 : S} (hgo : gdsOk gds s.n) (habs : AbsE P gds e 0 ops s s1)
  {r : Option Nat} {a : Act} {w : World} {ρ : Rho} (hr : Rel X s a w ρ) {Q' : Exit → Act → World → Prop}
  (hQ : ∀ a' w' ρ', Rel X s1 a' w' ρ' → Tr w ρ w' ρ' → Q' .normal a' w') : (Code.region id ops.toArray true).wpIn (fence r) 0 P Q' a w := by
 simp only [drawEB, Bool.and_eq_true, decide_eq_true_eq] at hB
 obtain ⟨⟨hord, hen⟩, hreg⟩ := hB
 obtain ⟨xs, m1, hxs, hs1, _, _, hy⟩ := habs.data
 simp only [Nat.zero_add] at hy
 have hxl : xs.length = ops.length := by have := congrArg List.length hxs; simpa using this
 have hops : ∀ (i : Nat) (o : Oper), ops[i]? = some o → ∃ x, xs[i]? = some (o, x) := by
  intro i o ho
  have h1 : (xs.map (·.1))[i]? = some o := by rw [hxs]; exact ho
  rw [List.getElem?_map] at h1
  cases hx : xs[i]? with
  | none => simp [hx] at h1
  | some ox => simp [hx] at h1; exact ⟨ox.2, by rw [← h1]⟩
 have hops' : ∀ (i : Nat) (ox : Oper × AV), xs[i]? = some ox → i < ops.length ∧ ops[i]? = some ox.1 := by
  intro i ox hx
  have hi : i < ops.length := by rw [← hxl]; exact (List.getElem?_eq_some_iff.1 hx).1
  refine ⟨hi, ?_⟩
  have h1 : (xs.map (·.1))[i]? = some ox.1 := by simp [hx]
  rw [hxs] at h1
  exact h1
 have mOf : ∀ (listed : Array Bool), Mem := fun listed => if listed.getD e false = true then m1 else s.m
 have head : ∀ (f : Nat) (listed : Array Bool) (a : Act) (w1 : World) (ρ1 : Rho), HeadInv .any ops.toArray ops.length listed → cnt listed ops.length = f →
   Rel X ⟨V xs (fun j => listed.getD j false) 0 s.t, if listed.getD e false = true then m1 else s.m, s.n, s.d⟩ a w1 ρ1 → Tr w ρ w1 ρ1 → wpAnyIn (fence r) 0 P .any ops.toArray Q' f listed a w1 := by
  intro f
  induction f with
  | zero =>
   intro listed a w1 ρ1 inv hc hrel htr
   have hall := cnt_zero hc
   have hsz : listed.size = ops.length := by have := inv.size; simpa using this
   have hall' : ∀ i, i < ops.length → listed.getD i false = true := fun i hi => getD_true_of (by omega) (hall i hi)
   have hnone : Region.ready .any ops.toArray listed = [] := by
    cases hrd : Region.ready .any ops.toArray listed with
    | nil => rfl
    | cons i l =>
     have hi : i ∈ Region.ready .any ops.toArray listed := by rw [hrd]; simp
     obtain ⟨hun, oi, hoi, _⟩ := mem_ready.1 hi
     have hlt := (Array.getElem?_eq_some_iff.1 hoi).1
     have := hall i (by simpa using hlt)
     rw [hun] at this; cases this
   refine ⟨hnone, hQ a w1 ρ1 ?_ htr⟩
   rw [hs1]
   rw [V_all xs _ 0 s.t (fun j hj => by rw [Nat.zero_add]; exact hall' j (by omega)), if_pos (hall' e hen)] at hrel
   rw [V_all xs _ 0 s.t (fun j hj => rfl)]
   exact hrel
  | succ f ih =>
   intro listed a w1 ρ1 inv hc hrel htr
   have hsz : listed.size = ops.length := by have := inv.size; simpa using this
   obtain ⟨i0, hi0, hun0, hlow⟩ := cnt_pos (listed := listed) (n := ops.length) (by omega)
   have hready0 : i0 ∈ Region.ready .any ops.toArray listed := by
    rw [mem_ready]
    refine ⟨hun0, ops[i0], by simp [hi0], fun d hd hb => ?_⟩
    have := ordB_back hord hi0 (List.getElem?_eq_getElem hi0) d hd hb
    exact getD_true_of (by omega) (hlow d.on this)
   refine ⟨fun h0 => (by rw [h0] at hready0; cases hready0), fun i hi => ?_⟩
   obtain ⟨hun, oi, hoi, hall⟩ := mem_ready.1 hi
   have hoi' : ops[i]? = some oi := by simpa using hoi
   have hin : i < ops.length := (List.getElem?_eq_some_iff.1 hoi').1
   obtain ⟨x, hx⟩ := hops i oi hoi'
   obtain ⟨hdst, hyield, heff⟩ := hy i (oi, x) hx
   simp only at hdst hyield heff
   have agree : ∀ (k : Nat), (k ∈ names gds oi ∨ oi.dst = some k) → ∀ (j : Nat) (ox : Oper × AV), xs[j]? = some ox → ox.1.dst = some k → j ≠ i → listed.getD j false = decide (j < i) := by
    intro k hk j ox hj hd hji
    obtain ⟨hjn, hoj⟩ := hops' j ox hj
    rcases Nat.lt_or_ge j i with hlt | hge
    ·have ht : touches gds ox.1 oi = true := by
      simp only [touches, hd, Bool.or_eq_true, beq_iff_eq]
      left
      rcases hk with hk | hk
      ·left; simpa using hk
      ·right; exact hk
     obtain ⟨d, hd', hb, hon⟩ := ordB_dep hord hin hlt hoj hoi' ht
     have := hall d hd' hb
     rw [hon] at this
     simp [this, hlt]
    ·have hlt : i < j := by omega
     have ht : touches gds oi ox.1 = true := by
      simp only [touches, hd, Bool.or_eq_true]
      rcases hk with hk | hk
      ·right; simpa using hk
      ·left; rw [hk]; simp
     obtain ⟨d, hd', hb, hon⟩ := ordB_dep hord hjn hlt hoi' hoj ht
     cases hlj : listed.getD j false with
     | false => simp; omega
     | true =>
      have := inv.closed j ox.1 (by simpa using hoj) hlj d hd' hb
      rw [hon, getD_both hun] at this
      cases this
   have hnames : ∀ k, k ∈ gnames gds oi.guard ∨ k ∈ onames oi.op → R X w1 ρ1 (look (V xs (upto 0 i) 0 s.t) k) (a.tmps.getD k undef) := by
    intro k hk
    have hk' : k ∈ names gds oi := by simp only [names, List.mem_append]; exact hk
    have e1 : look (V xs (upto 0 i) 0 s.t) k = look (V xs (fun j => listed.getD j false) 0 s.t) k := by
     refine V_congr xs 0 _ _ rfl fun j ox hj hd => ?_
     simp only [Nat.zero_add, upto]
     by_cases hji : j = i
     ·subst hji
      rw [getD_both hun]; simp
     ·exact (agree k (.inl hk') j ox hj hd hji).symm
    rw [e1]; exact hrel.tmps k
   have next : ∀ (v : Value) (w2 : World) (ρ2 : Rho) (m2 : Mem), (m2 = if (listed.setIfInBounds i true).getD e false = true then m1 else s.m) → R X w2 ρ2 x v → Inv X w2 ρ2 m2 → Tr w1 ρ1 w2 ρ2 → wpAnyIn (fence r) 0 P .any ops.toArray Q' f (listed.setIfInBounds i true) (a.put oi.dst v) w2 := by
    intro v w2 ρ2 m2 hm2 hxv hinv htr2
    refine ih _ _ _ ρ2 (inv.set hi hin) (by have := cnt_set hun ops.length hin; omega) ?_ (htr.trans htr2)
    rw [← hm2]
    have hrel2 := hrel.step htr2 (m' := m2) hinv
    have hrel3 := hrel2.put (d := oi.dst) (x := x) (v := v) hdst hxv
    rw [S.put_eq] at hrel3
    refine ⟨fun k => ?_, hrel3.size, hrel3.inv, hrel3.defers⟩
    ·have h3 := hrel3.tmps k
     have e1 : look (V xs (fun j => (listed.setIfInBounds i true).getD j false) 0 s.t) k = look (upd (V xs (fun j => listed.getD j false) 0 s.t) oi.dst x) k := by
      have hset : ∀ j, j ≠ i → (listed.setIfInBounds i true).getD j false = listed.getD j false := fun j hj => getD_set_ne false (Ne.symm hj)
      have hseti : (listed.setIfInBounds i true).getD i false = true := by
       have : i < listed.size := by omega
       simp [this]
      by_cases hd : oi.dst = some k
      ·rw [hd, look_upd_eq]
       have e2 : look (V xs (fun j => (listed.setIfInBounds i true).getD j false) 0 s.t) k = look (V xs (upto 0 (i + 1)) 0 s.t) k := by
        refine V_congr xs 0 _ _ rfl fun j ox hj hdj => ?_
        simp only [Nat.zero_add, upto]
        by_cases hji : j = i
        ·subst hji; rw [hseti]; simp
        ·rw [hset j hji, agree k (.inr hd) j ox hj hdj hji]
         congr 1; apply propext; omega
       rw [e2]
       exact V_last xs 0 i s.t k oi x hx hd
      ·rw [look_upd_ne hd]
       refine V_congr xs 0 _ _ rfl fun j ox hj hdj => ?_
       simp only [Nat.zero_add]
       refine hset j fun hji => ?_
       subst hji
       rw [hx] at hj
       cases hj
       exact hd hdj
     rw [e1]; exact h3
   unfold wpOpIn
   simp only [hoi]
   have hyg : yieldedG gds a.tmps = yielded ops.toArray a.tmps := by rw [← yieldedG_eq]; simp [hg]
   rw [← hyg]
   by_cases hie : i = e
   ·
    subst hie
    obtain ⟨hg0, hdf, hrun⟩ := heff rfl
    have hlist : listed.getD i false = false := getD_both hun
    rw [if_neg (by rw [hlist]; simp)] at hrel
    have hwd : Region.wanted oi (yieldedG gds a.tmps) = true := by simp [Region.wanted, hg0]
    rw [if_pos hwd]
    obtain ⟨v, w', ρ', h1, h2, h3, h4⟩ := hrun X w1 ρ1 a hrel.inv (evo_of fun n hn => hnames n (.inr hn))
    have hm2 : m1 = if (listed.setIfInBounds i true).getD i false = true then m1 else s.m := by
     have : i < listed.size := by omega
     simp [this]
    refine ⟨fun _ _ => trivial, ?_⟩
    rw [Oper.semAt_eq _ _ _ hdf]
    rcases h1 with h1 | ⟨h1, rfl⟩
    ·rw [h1]; exact next v w' ρ' m1 hm2 h4 h3 h2
    ·rw [h1]; exact next undef w' ρ' m1 hm2 h4 h3 h2
   ·obtain ⟨hy1, hy2⟩ := hyield hie
    have hse : (listed.setIfInBounds i true).getD e false = listed.getD e false := getD_set_ne false hie
    have hri := List.all_eq_true.1 hreg i (List.mem_range.2 hin)
    simp only [hoi', Bool.or_eq_true, beq_iff_eq, Bool.and_eq_true, decide_eq_true_eq] at hri
    have hym : Yield P gds (V xs (upto 0 i) 0 s.t) (if listed.getD e false = true then m1 else s.m) oi x := by
     rcases hri with ((h | h) | ⟨h, h'⟩) | ⟨h, h'⟩
     ·exact absurd h hie
     ·exact hy2 h _
     ·
      rw [if_pos h] at hy1
      rw [if_neg]
      ·exact hy1
      ·intro hl
       have := befL_listed (ops := ops) (listed := listed) (fun j oj hj => inv.closed j oj (by simpa using hj)) hl r0 i (by simpa using h')
       rw [getD_both hun] at this
       cases this
     ·rw [if_neg (by omega)] at hy1
      have hl : listed.getD e false = true := by
       obtain ⟨d, hd, hb⟩ := Array.any_eq_true'.1 h'
       simp only [Bool.and_eq_true, beq_iff_eq] at hb
       have := hall d hd hb.1
       rw [hb.2] at this; exact this
      rw [if_pos hl]; exact hy1
    obtain ⟨k1, k2⟩ := hym.2 X w1 ρ1 a hrel.inv hnames (fun k hk => by have := hrel.size; simp only at this; rw [this]; exact gnames_lt hgo oi.guard k hk)
    split
    ·rename_i hw
     exact gives_wpIn hym.1 (k1 hw) fun v w' ⟨q1, q2, q3⟩ => next v w' ρ1 _ (by rw [hse]) q1 q2 q3
    ·rename_i hw
     exact ⟨fun _ _ => trivial, next undef w1 ρ1 _ (by rw [hse]) (k2 (by simpa using hw)) hrel.inv (Tr.refl _ _)⟩
 refine wpIn_region_any hm ?_
 have hdrew : Tr w ρ { w with drawn := w.drawn + 1 } ρ := ⟨rfl, rfl, rfl, Nat.le_refl _, fun _ r h => ⟨r, h, Nat.le_refl _, fun _ => rfl⟩, fun _ h _ => ⟨h, rfl⟩⟩
 have hrel0 : Rel X ⟨V xs (fun j => (Array.replicate ops.length false).getD j false) 0 s.t, if (Array.replicate ops.length false).getD e false = true then m1 else s.m, s.n, s.d⟩ a { w with drawn := w.drawn + 1 } ρ := by
  rw [V_none xs _ 0 s.t (fun j _ => by rw [Nat.zero_add]; exact getD_replicate_false _ _), if_neg (by rw [getD_replicate_false]; simp)]
  have hi : Inv X { w with drawn := w.drawn + 1 } ρ s.m := hr.inv.same rfl
  exact hr.step hdrew hi
 have inv0 : HeadInv .any ops.toArray ops.length (Array.replicate ops.length false) :=
  ⟨by simp, fun j oj _ hl => (by rw [getD_replicate_false] at hl; cases hl), fun t _ ht => getD_in (by simpa using ht) (getD_replicate_false _ _)⟩
 have hcnt : ∀ k, k ≤ ops.length → cnt (Array.replicate ops.length false) k = k := by
  intro k
  induction k with
  | zero => intro _; rfl
  | succ k ih =>
   intro hk
   simp only [cnt]
   rw [ih (by omega)]
   have : (Array.replicate ops.length false).getD k true = false := getD_in (by simp; omega) (getD_replicate_false _ _)
   simp [this]
 have := head ops.length _ a _ ρ inv0 (hcnt _ (Nat.le_refl _)) hrel0 hdrew
 simpa using this
def Abe (P : Program) (gds : List (Option Nat)) (e k : Nat) (l : List Oper) (s s1 : S) : Prop := (∀ o ∈ l, dstOk s.n o.dst) → AbsE P gds e k l s s1
section
variable {gds : List (Option Nat)} {e k : Nat} {l : List Oper} {s s1 : S} {o : Oper}
theorem Abe.nil : Abe P gds e k [] s s := fun _ => .nil
theorem putA_n (s : S) (d : Option Nat) (x : AV) : (putA s d x).n = s.n := by cases d <;> rfl
theorem Abe.step {x : AV} (hk : k ≠ e) (hy : Yield P gds s.t s.m o x) (hr : regOnly o.op = true → ∀ m', Yield P gds s.t m' o x) (h : Abe P gds e (k + 1) l (putA s o.dst x) s1) : Abe P gds e k (o :: l) s s1 := fun hd =>
 .cons hk (hd o (by simp)) hy hr (by rw [← putA_eq]; exact h (fun o' ho' => by rw [putA_n]; exact hd o' (by simp [ho'])))
theorem Abe.next {s' : S} {p : Prop} (hk : (k == e) = false) (h : abnA P gds s o = some (s', p)) (hp : p) (hn : Abe P gds e (k + 1) l s' s1) : Abe P gds e k (o :: l) s s1 := by
 have hk' : k ≠ e := by simpa using hk
 unfold abnA at h
 split at h
 ·rename_i x p' he
  simp only [Option.some.injEq, Prod.mk.injEq] at h
  obtain ⟨rfl, rfl⟩ := h
  exact Abe.step hk' (stepA_yield he hp) (fun hr m' => stepA_yield (m := m') (by rw [stepA_reg (m' := s.m) hr]; exact he) hp) hn
 ·rename_i hs
  split at h
  ·rename_i hgd
   split at h
   ·rename_i sz xs p' he
    simp only [Option.some.injEq, Prod.mk.injEq] at h
    obtain ⟨rfl, rfl⟩ := h
    obtain ⟨dst, op, type, pos, after, guard⟩ := o
    simp only at hgd
    subst hgd
    exact Abe.step hk' (bldA_yield he hp) (fun hr m' => (by cases op <;> simp_all [regOnly, bldA])) hn
   ·cases h
  ·cases h
theorem Abe.eff {m' : Mem} {x : AV} {p : Prop} {dst : Option Nat} {op : Op} {type : TypeId} {pos : String} {after : Array Edge} (hk : (k == e) = true) (h : effA P (evo s.t) s.m op = some (m', x, p)) (hp : p) (hn : Abe P gds e (k + 1) l (putA ⟨s.t, m', s.n, s.d⟩ dst x) s1) :
  Abe P gds e k (⟨dst, op, type, pos, after, none⟩ :: l) s s1 := fun hd =>
 .eff (m1 := m') (x := x) (by simpa using hk) rfl (hd ⟨dst, op, type, pos, after, none⟩ (by simp)) ⟨effA_defer h, fun X w ρ a hi ho => effA_done (o := ⟨dst, op, type, pos, after, none⟩) hi ho h hp⟩
  (by rw [← putA_eq]; exact hn (fun o' ho' => by rw [putA_n]; exact hd o' (by simp [ho'])))
theorem Wp.runE {r : Option Nat} {Q : Exit → S → Prop} {id : Nat} {ops : List Oper} {gds : List (Option Nat)} (e r0 : Nat) (hm : P.follows .mixedOrders = true) (hg : ops.map (·.dst) = gds) (hB : gds.all (dstB s.n) = true) (hD : drawEB gds ops e r0 = true)
  (habs : Abe P gds e 0 ops s s1) (h : Q .normal s1) : Wp P r (.region id ops.toArray true) Q s := by
 have hgd : ∀ d ∈ gds, dstOk s.n d := fun d hd => dstB_ok (List.all_eq_true.1 hB d hd)
 intro X a w ρ hr
 refine drawnE (P := P) hg.symm e r0 hm hD hgd (habs fun o ho => hgd o.dst (by rw [← hg]; exact List.mem_map_of_mem ho)) hr ?_
 intro a' w' ρ' h1 h2
 exact ⟨s1, ρ', h, h1, h2⟩
def prepV (gds : List (Option Nat)) (s : S) (guard : Option (Nat × Bool)) (fo : Operand) (args : List Operand) : Option (Option Bool × FuncId × List AV) :=
 match gvalO gds s.t guard with
 | some g =>
  match fnOf (evoG s.t g fo) with
  | some (f, caps) => some (g, f, (args.map (evoG s.t g) ++ caps).map (view s.m))
  | none => none
 | none => none
def prepF (gds : List (Option Nat)) (s : S) (guard : Option (Nat × Bool)) (fo : Operand) (args : List Operand) : Option (Option Bool × FuncId × List AV) :=
 match gvalO gds s.t guard with
 | some g =>
  match fnOf (evoG s.t g fo) with
  | some (f, caps) => some (g, f, args.map (evoG s.t g) ++ caps)
  | none => none
 | none => none
theorem prepV_some {guard : Option (Nat × Bool)} {fo : Operand} {args : List Operand} {g : Option Bool} {f : FuncId} {vargs : List AV} (h : prepV gds s guard fo args = some (g, f, vargs)) :
  gvalO gds s.t guard = some g ∧ ∃ caps, fnOf (evoG s.t g fo) = some (f, caps) ∧ (args.map (evoG s.t g) ++ caps).map (view s.m) = vargs := by
 unfold prepV at h
 split at h
 ·rename_i g' hg
  split at h
  ·rename_i f' caps hf
   simp only [Option.some.injEq, Prod.mk.injEq] at h
   obtain ⟨rfl, rfl, rfl⟩ := h
   exact ⟨hg, caps, hf, rfl⟩
  ·cases h
 ·cases h
theorem prepF_some {guard : Option (Nat × Bool)} {fo : Operand} {args : List Operand} {g : Option Bool} {f : FuncId} {vargs : List AV} (h : prepF gds s guard fo args = some (g, f, vargs)) :
  gvalO gds s.t guard = some g ∧ ∃ caps, fnOf (evoG s.t g fo) = some (f, caps) ∧ args.map (evoG s.t g) ++ caps = vargs := by
 unfold prepF at h
 split at h
 ·rename_i g' hg
  split at h
  ·rename_i f' caps hf
   simp only [Option.some.injEq, Prod.mk.injEq] at h
   obtain ⟨rfl, rfl, rfl⟩ := h
   exact ⟨hg, caps, hf, rfl⟩
  ·cases h
 ·cases h
section
variable {Q : S → Prop} {fo : Operand} {args : List Operand} {tys : Array TypeId} {dst : Option Nat} {type : TypeId} {pos : String} {after : Array Edge} {g : Option Bool} {guard : Option (Nat × Bool)} {f : FuncId} {vargs : List AV} {x : AV}
theorem Run.pureP (h : prepV gds s guard fo args = some (g, f, vargs)) (he : Enters P f) (hc : Pure P f vargs x) (ha : gOk s.t g (fo :: args) ∧ okL 0 vargs ∧ x.plain) (hn : Run P gds l Q (putA s dst (optG g x))) : Run P gds (⟨dst, callOp fo args tys, type, pos, after, guard⟩ :: l) Q s := by
 obtain ⟨h1, caps, h2, h3⟩ := prepV_some h
 rw [putA_eq] at hn
 exact Run.pure he h1 h2 h3 hc ha.1 ha.2.1 ha.2.2 hn
theorem Abn.pureP (h : prepV gds s guard fo args = some (g, f, vargs)) (he : Enters P f) (hc : Pure P f vargs x) (ha : gOk s.t g (fo :: args) ∧ okL 0 vargs ∧ x.plain) (hn : Abn P gds l (putA s dst (optG g x)) s1) : Abn P gds (⟨dst, callOp fo args tys, type, pos, after, guard⟩ :: l) s s1 := by
 obtain ⟨h1, caps, h2, h3⟩ := prepV_some h
 rw [putA_eq] at hn
 exact Abn.pure he h1 h2 h3 hc ha.1 ha.2.1 ha.2.2 hn
theorem Run.pureFP (h : prepF gds s guard fo args = some (g, f, vargs)) (he : Enters P f) (hc : Pure P f vargs x) (ha : gOk s.t g (fo :: args) ∧ okL 0 vargs ∧ x.ok 0) (hn : Run P gds l Q (putA s dst (optG g x))) : Run P gds (⟨dst, callOp fo args tys, type, pos, after, guard⟩ :: l) Q s := by
 obtain ⟨h1, caps, h2, h3⟩ := prepF_some h
 rw [putA_eq] at hn
 exact Run.pureF he h1 h2 h3 hc ha.1 ha.2.1 ha.2.2 hn
theorem Abn.pureFP (h : prepF gds s guard fo args = some (g, f, vargs)) (he : Enters P f) (hc : Pure P f vargs x) (ha : gOk s.t g (fo :: args) ∧ okL 0 vargs ∧ x.ok 0) (hn : Abn P gds l (putA s dst (optG g x)) s1) : Abn P gds (⟨dst, callOp fo args tys, type, pos, after, guard⟩ :: l) s s1 := by
 obtain ⟨h1, caps, h2, h3⟩ := prepF_some h
 rw [putA_eq] at hn
 exact Abn.pureF he h1 h2 h3 hc ha.1 ha.2.1 ha.2.2 hn
end
end
end Go.Vg
