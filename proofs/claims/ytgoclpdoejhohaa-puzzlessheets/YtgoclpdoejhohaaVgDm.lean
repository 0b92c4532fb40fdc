/- The abstract machine, part Dm: a region that draws its order, whose operations write or make memory: what the memory is stands for each set of those that are listed. -/
import Derived.Test.YtgoclpdoejhohaaVgY
import Derived.Test.YtgoclpdoejhohaaVgV
set_option linter.all false
set_option linter.unusedVariables false
namespace Go.Vg
open Go.RowKit
variable {P : Program} {X : Nat → Prop} {w : World} {ρ : Rho}

/-- what one operation does at these temporaries and this memory -/
def StepAt (P : Program) (gds : List (Option Nat)) (t : List (Nat × AV)) (m : Mem) (o : Oper) (m1 : Mem) (x : AV) : Prop :=
  (∀ c, o.op ≠ .defer c) ∧
  ∀ (X : Nat → Prop) (w : World) (ρ : Rho) (a : Act), Inv X w ρ m → (∀ n, n ∈ gnames gds o.guard ∨ n ∈ onames o.op → R X w ρ (look t n) (a.tmps.getD n undef)) → (∀ n ∈ gnames gds o.guard, n < a.tmps.size) →
    (Region.wanted o (yieldedG gds a.tmps) = true → (∃ w' ρ', (execOp a.eval o).run P w = .ok .skip w' ∧ R X w' ρ' x undef ∧ Inv X w' ρ' m1 ∧ Tr w ρ w' ρ') ∨ Gives P o a w fun v w' => ∃ ρ', R X w' ρ' x v ∧ Inv X w' ρ' m1 ∧ Tr w ρ w' ρ') ∧
    (Region.wanted o (yieldedG gds a.tmps) = false → R X w ρ x undef ∧ m1 = m)
/-! which sets of them can be listed when an operation's turn comes -/
def allB : Nat → List (List Bool)
  | 0 => [[]]
  | n + 1 => (allB n).map (false :: ·) ++ (allB n).map (true :: ·)
def before (ops : List Oper) (i j : Nat) : Bool := (befL ops j j).contains i
def consB (ops : List Oper) (es : List Nat) (i : Nat) (bits : List Bool) : Bool :=
  (es.zip bits).all fun eb =>
    (if eb.1 = i then !eb.2 else if before ops eb.1 i then eb.2 else if before ops i eb.1 then !eb.2 else true) &&
    (!eb.2 || (es.zip bits).all fun eb' => !before ops eb'.1 eb.1 || eb'.2)
def consL (ops : List Oper) (es : List Nat) (i : Nat) : List (List Bool) := (allB es.length).filter (consB ops es i)
def setB (es : List Nat) (i : Nat) (bits : List Bool) : List Bool := (es.zip bits).map fun eb => decide (eb.1 = i) || eb.2
/-- the operations, in the order of the text, at each memory that may be there -/
inductive AbsM (P : Program) (gds : List (Option Nat)) (ops : List Oper) (es : List Nat) (mem : List Bool → Mem) (n : Nat) : Nat → List Oper → List (Nat × AV) → List (Nat × AV) → Prop where
  | nil {k : Nat} {t : List (Nat × AV)} : AbsM P gds ops es mem n k [] t t
  | cons {k : Nat} {o : Oper} {l : List Oper} {t t' : List (Nat × AV)} {x : AV} : dstOk n o.dst → (∀ bits ∈ consL ops es k, StepAt P gds t (mem bits) o (mem (setB es k bits)) x) → AbsM P gds ops es mem n (k + 1) l (upd t o.dst x) t' → AbsM P gds ops es mem n k (o :: l) t t'

theorem AbsM.data {gds : List (Option Nat)} {ops0 : List Oper} {es : List Nat} {mem : List Bool → Mem} {n : Nat} : ∀ {ops : List Oper} {t t' : List (Nat × AV)} {k : Nat}, AbsM P gds ops0 es mem n k ops t t' → ∃ (xs : List (Oper × AV)), xs.map (·.1) = ops ∧ t' = V xs (fun _ => true) k t ∧
    ∀ (i : Nat) (ox : Oper × AV), xs[i]? = some ox → dstOk n ox.1.dst ∧ ∀ bits ∈ consL ops0 es (k + i), StepAt P gds (V xs (upto k i) k t) (mem bits) ox.1 (mem (setB es (k + i) bits)) ox.2
  | _, t, _, k, .nil => ⟨[], rfl, rfl, fun i ox h => by simp at h⟩
  | o :: l, t, t', k, .cons (x := x) h1 h2 h3 => by
    obtain ⟨xs, e1, e2, e3⟩ := AbsM.data h3
    refine ⟨(o, x) :: xs, by simp [e1], by rw [e2]; simp [V], fun i ox hi => ?_⟩
    cases i with
    | zero =>
      simp at hi; subst hi
      have hV : V ((o, x) :: xs) (upto k 0) k t = t := V_none _ _ _ _ (fun j _ => by simp [upto])
      rw [hV]
      exact ⟨h1, h2⟩
    | succ i =>
      obtain ⟨q1, q2⟩ := e3 i ox (by simpa using hi)
      have hV : V ((o, x) :: xs) (upto k (i + 1)) k t = V xs (upto (k + 1) i) (k + 1) (upd t o.dst x) := by
        simp only [V]
        have h0 : upto k (i + 1) k = true := by simp [upto]
        rw [h0]
        have hf : upto k (i + 1) = upto (k + 1) i := by funext j; simp only [upto]; congr 1; apply propext; omega
        rw [hf]; rfl
      rw [hV, show k + (i + 1) = k + 1 + i by omega]
      exact ⟨q1, q2⟩

/-! new memory, laid into an entry that stands already -/
theorem newBlockAt {m : Mem} (hi : Inv X w ρ m) {id v : Nat} {k0 : Kind} (hid : m[id]? = some ⟨v, k0⟩) {sz : Nat} {l : List AV} {arr : Array Value} {vs : List Value} {e : TypeId} {w' : World} (hh : w'.heap = w.heap.push (.cells arr e)) (hos : w'.os = w.os) (htp : w'.tape = w.tape) (hou : w'.output = w.output)
    (hlen : vs.length = l.length * sz) (hvs : ∀ (j : Nat) (v : Value), vs[j]? = some v → arr[j]? = some v) (hR : ∀ {w' : World} {ρ' : Rho} {b' o' : Nat}, Kp X w ρ w' ρ' → (∀ j v, vs[j]? = some v → w'.cell? ⟨b', o' + j, none⟩ = some v) → Rrow X w' ρ' l sz b' o') :
    ∃ (r : RE) (ρ' : Rho), ρ'[id]? = some r ∧ r.ver = v + 1 ∧ r.blk = some w.heap.size ∧ r.base = 0 ∧ r.size = arr.size ∧ r.sz = sz ∧ Tr w ρ w' ρ' ∧ Inv X w' ρ' (m.set id ⟨v + 1, .row sz l⟩) := by
  have hnew : w'.heap[w.heap.size]? = some (.cells arr e) := by rw [hh]; simp
  have hcell : ∀ o, w'.cell? ⟨w.heap.size, o, none⟩ = arr[o]? := fun o => by simp [World.cell?, hnew]
  have hle : vs.length ≤ arr.size := by
    rcases Nat.eq_zero_or_pos vs.length with h | h
    · omega
    · have h1 := hvs (vs.length - 1) _ (List.getElem?_eq_getElem (by omega))
      have := (Array.getElem?_eq_some_iff.1 h1).1
      omega
  have hidl : id < ρ.length := by rw [hi.len]; exact (List.getElem?_eq_some_iff.1 hid).1
  have h0 : ρ[id]? = some ρ[id] := List.getElem?_eq_getElem hidl
  obtain ⟨hv, _⟩ := hi.at_ id _ _ h0 hid
  simp only at hv
  obtain ⟨h1, h2⟩ := hi.renew h0 (r' := ⟨ρ[id].ver + 1, some w.heap.size, 0, arr.size, sz⟩) (w' := w') (k := .row sz l) hos htp hou (by rw [hh]; simp) rfl
    (fun b hb _ => by rw [hh]; simp [Array.getElem?_push_lt hb, hb]) (fun b hb => by cases hb; exact ⟨.inr (Nat.le_refl _), by rw [hh]; simp⟩) (fun ρ' he ht => by
      refine ⟨rfl, fun h => (by cases h), fun b hb => ?_⟩
      cases hb
      refine ⟨⟨arr, e, (0, 0), hnew, rfl, by simp, by simp⟩, by simp only [Nat.zero_add]; omega, hR ht.kp fun j v hj => ?_⟩
      simp only [Nat.zero_add]
      rw [hcell]; exact hvs j v hj)
  rw [hv] at h1 h2
  exact ⟨⟨v + 1, some w.heap.size, 0, arr.size, sz⟩, _, by rw [List.getElem?_set_self hidl], rfl, rfl, rfl, rfl, rfl, h1, h2⟩
/-- what an operation makes: the size of its elements, the row; a slice of how many, or a pointer -/
def alcA (P : Program) (E : Operand → AV) (op : Op) : Option (Nat × List AV × Option Nat × Prop) :=
  match op with
  | .box _ v => some ((E v).cells.length, [E v], none, (E v).flat ∧ 0 < (E v).cells.length)
  | .alloc ty =>
    match zAV P ty with
    | some x => some (x.cells.length, [x], none, x.flat ∧ 0 < x.cells.length)
    | none => none
  | .makeSlice ty l c =>
    match makeA P [] ty (E l) (E c) with
    | some ([⟨_, .row sz row⟩], .osl _ _ _ n, p) => some (sz, row, some n, p)
    | _ => none
  | .buildSlice ty len parts =>
    match bldA P E (.buildSlice ty len parts) with
    | some (sz, xs, p) => some (sz, xs, some xs.length, p)
    | none => none
  | _ => none
def alcV (id ver : Nat) : Option Nat → AV
  | none => .optr id ver 0 0
  | some n => .osl id ver 0 n
theorem box_at {m : Mem} (hi : Inv X w ρ m) {id ver : Nat} {k0 : Kind} (hid : m[id]? = some ⟨ver, k0⟩) {x : AV} {v : Value} {ty : TypeId} (hx : R X w ρ x v) (hp : x.flat) :
    ∃ u w' ρ', (Instr.box ty v).run P w = .ok u w' ∧ Tr w ρ w' ρ' ∧ Inv X w' ρ' (m.set id ⟨ver + 1, .row x.cells.length [x]⟩) ∧ R X w' ρ' (.optr id (ver + 1) 0 0) u := by
  obtain ⟨vs, e1, e2, e3, e4⟩ := flat_cells hp hx
  obtain ⟨r, ρ', q0, q1, q2, q3, q4, q5, q6, q7⟩ := newBlockAt hi hid (w' := { w with heap := w.heap.push (.cells v.cells ty) }) (sz := x.cells.length) (l := [x]) (arr := v.cells) (vs := vs) (e := ty) rfl rfl rfl rfl (by simp [e4]) (fun j u hj => by rw [e1]; simpa using hj)
    (fun {w' ρ' b' o'} hk hc => ⟨Re_of_cells hp rfl (Rcells_of fun j y hj => by
      obtain ⟨u, hu, hR⟩ := e2.nth hj
      exact ⟨u, hc j u hu, e3 u (List.mem_of_getElem? hu), R.mono hk hR⟩), trivial⟩)
  refine ⟨.pointer (some ⟨w.heap.size, 0, none⟩), _, _, by simp [Instr.box, newVar, newRow], q6, q7, ?_⟩
  exact ⟨_, r, rfl, q0, by omega, fun _ => ⟨w.heap.size, q2, by rw [q3]; simp⟩⟩
theorem make_at {m : Mem} (hi : Inv X w ρ m) {id ver : Nat} {k0 : Kind} (hid : m[id]? = some ⟨ver, k0⟩) {ty : TypeId} {l c : AV} {vl vc : Value} {p : Prop} (hl : R X w ρ l vl) (hc : R X w ρ c vc) {e0 sz n0 : Nat} {row : List AV} {a0 b0 c0 : Nat} (h : makeA P [] ty l c = some ([⟨e0, .row sz row⟩], .osl a0 b0 c0 n0, p)) (hp : p) :
    ∃ u w' ρ', (Instr.makeSlice ty vl vc).run P w = .ok u w' ∧ Tr w ρ w' ρ' ∧ Inv X w' ρ' (m.set id ⟨ver + 1, .row sz row⟩) ∧ R X w' ρ' (.osl id (ver + 1) 0 n0) u := by
  unfold makeA at h
  split at h <;> (try (cases h; done))
  rename_i e hu
  split at h <;> (try (cases h; done))
  rename_i z sz' by_ n n' hz hsz hby
  split at h <;> (try (cases h; done))
  rename_i hel
  simp only [Option.some.injEq, Prod.mk.injEq, List.nil_append, List.cons.injEq, Ent.mk.injEq, Kind.row.injEq, and_true, AV.osl.injEq] at h
  obtain ⟨⟨_, rfl, rfl⟩, ⟨_, _, _, rfl⟩, rfl⟩ := h
  obtain ⟨h0, rfl, hb48, hmax, hzf, hzl⟩ := hp
  rw [R_val] at hl hc; subst hl hc
  obtain ⟨i, z0, hinfo, hz0, hzs, hpos⟩ := elB_some hel
  obtain ⟨i', hi', hsz'⟩ := tsz_some hsz
  rw [hinfo] at hi'; cases hi'
  have hby' : i.bytes = by_ := by unfold tby at hby; simpa [hinfo] using hby
  obtain ⟨zv, hzv, hzR⟩ := zAV_some (P := P) (X := X) (w := w) (ρ := ρ) hz
  have hzv0 : zv = z0 := by simp [zeroValue, typeInfo, hinfo, hz0] at hzv; exact hzv.symm
  subst hzv0
  obtain ⟨zs, f1, f2, f3, f4⟩ := flat_cells hzf hzR
  have hrun := run_make (P := P) w ty e i zv (uk_slice hu) hinfo hz0 .i64 .i64 n' n' h0 (Int.le_refl _) (by rw [hby']; omega) (by omega)
  have hzsz : zv.cells.size = sz' := by rw [hzs, hsz']
  have hzlen : zs.length = sz' := by omega
  have hget : ∀ (k j : Nat), j < sz' → k % sz' = j → k < n'.toNat * i.size → ∀ u, zs[j]? = some u → (madeCells zv.cells (n'.toNat * i.size)).toList[k]? = some u := by
    intro k j hj hk hlt u hu'
    have : (madeCells zv.cells (n'.toNat * i.size)).toList[k]? = some (zv.cells[k % zv.cells.size]!) := by
      simp [madeCells, hlt]
    rw [this, hzsz, hk, f1]
    have hj' : j < zs.length := by omega
    rw [List.getElem?_eq_getElem hj'] at hu'
    simp only [Option.some.injEq] at hu' ⊢
    rw [← hu']
    simp [hj']
  obtain ⟨r, ρ2, q0, q1, q2, q3, q4, q5, q6, q7⟩ := newBlockAt hi hid (w' := w.alloc (.cells (madeCells zv.cells (n'.toNat * i.size)) e)) (sz := sz') (l := List.replicate n'.toNat z) (arr := madeCells zv.cells (n'.toNat * i.size)) (vs := (madeCells zv.cells (n'.toNat * i.size)).toList) (e := e)
    rfl rfl rfl rfl (by rw [Array.length_toList, size_madeCells, hsz']; simp) (fun j u hj => by simpa using hj)
    (fun {w' ρ' b' o'} hk hc => Rrow_of_cells fun i1 y hy => by
      have hy0 := List.getElem?_replicate (a := z) (n := n'.toNat) (i := i1) 
      rw [hy] at hy0
      split at hy0
      · rename_i hlt
        cases hy0
        refine Re_of_cells hzf hzl (Rcells_of fun j y' hj => ?_)
        obtain ⟨u, hu', hR⟩ := f2.nth hj
        have hjlt : j < sz' := by have := (List.getElem?_eq_some_iff.1 hu').1; omega
        have hle : (i1 + 1) * sz' ≤ n'.toNat * sz' := Nat.mul_le_mul_right _ hlt
        rw [Nat.add_mul, Nat.one_mul] at hle
        have := hc (i1 * sz' + j) u (hget _ j hjlt (by rw [Nat.mul_comm, Nat.mul_add_mod]; exact Nat.mod_eq_of_lt hjlt) (by rw [hsz']; omega) u hu')
        rw [← Nat.add_assoc] at this
        exact ⟨u, this, f3 u (List.mem_of_getElem? hu'), R.mono hk hR⟩
      · cases hy0)
  refine ⟨_, _, _, hrun, q6, q7, _, _, r, rfl, q0, by omega, fun _ => ⟨Nat.le_refl _, by simp only [maxLen]; omega, fun hp => ⟨w.heap.size, q2, by rw [q3]; simp, ?_⟩⟩⟩
  rw [q3, q4, q5, size_madeCells, hsz']; simp
/-- an operation that makes memory, in an entry that stands already -/
theorem alcA_step {gds : List (Option Nat)} {t : List (Nat × AV)} {m : Mem} {dst : Option Nat} {op : Op} {type : TypeId} {pos : String} {after : Array Edge} {sz : Nat} {l : List AV} {q : Option Nat} {p : Prop} (h : alcA P (evo t) op = some (sz, l, q, p)) (hp : p) {id ver : Nat} {k0 : Kind} (hid : m[id]? = some ⟨ver, k0⟩) :
    StepAt P gds t m ⟨dst, op, type, pos, after, none⟩ (m.set id ⟨ver + 1, .row sz l⟩) (alcV id (ver + 1) q) := by
  have key : ∀ {X : Nat → Prop} {w : World} {ρ : Rho} (a : Act), Inv X w ρ m → (∀ n, n ∈ onames op → R X w ρ (look t n) (a.tmps.getD n undef)) → ∃ v w' ρ', (execOp a.eval ⟨dst, op, type, pos, after, none⟩).run P w = .ok (.value v) w' ∧ R X w' ρ' (alcV id (ver + 1) q) v ∧ Inv X w' ρ' (m.set id ⟨ver + 1, .row sz l⟩) ∧ Tr w ρ w' ρ' := by
    intro X w ρ a hi hr
    have ho := evo_of (op := op) hr
    unfold alcA at h
    split at h
    · rename_i e v
      simp only [Option.some.injEq, Prod.mk.injEq] at h
      obtain ⟨rfl, rfl, rfl, rfl⟩ := h
      obtain ⟨u, w', ρ', q1, q2, q3, q4⟩ := box_at (P := P) (ty := e) hi hid (ho v (by simp [Op.operands])) hp.1
      exact ⟨u, w', ρ', by unfold execOp; simp only [Sem.run_bind, q1, Result.andThen_ok, Sem.run_pure], q4, q3, q2⟩
    · rename_i ty
      split at h
      · rename_i x hz
        simp only [Option.some.injEq, Prod.mk.injEq] at h
        obtain ⟨rfl, rfl, rfl, rfl⟩ := h
        obtain ⟨v, hv, hR⟩ := zAV_some (P := P) (X := X) (w := w) (ρ := ρ) hz
        obtain ⟨u, w', ρ', q1, q2, q3, q4⟩ := box_at (P := P) (ty := ty) hi hid hR hp.1
        have : (Instr.alloc ty true (.tuple #[])).run P w = .ok u w' := by
          unfold Instr.alloc
          simp only [Sem.run_bind, hv, Result.andThen_ok]
          exact q1
        exact ⟨u, w', ρ', by unfold execOp; simp [this], q4, q3, q2⟩
      · cases h
    · rename_i ty lo co
      split at h
      · rename_i hmk
        simp only [Option.some.injEq, Prod.mk.injEq] at h
        obtain ⟨rfl, rfl, rfl, rfl⟩ := h
        obtain ⟨u, w', ρ', q1, q2, q3, q4⟩ := make_at (P := P) hi hid (ho lo (by simp [Op.operands])) (ho co (by simp [Op.operands])) hmk hp
        exact ⟨u, w', ρ', by unfold execOp; simp only [Sem.run_bind, q1, Result.andThen_ok, Sem.run_pure], q4, q3, q2⟩
      · cases h
    · rename_i ty len parts
      split at h
      · rename_i hb
        simp only [Option.some.injEq, Prod.mk.injEq] at h
        obtain ⟨rfl, rfl, rfl, rfl⟩ := h
        obtain ⟨e, arr, vs, h1, h2, h3, h3', h4, h5, h6⟩ := bldA_run (P := P) (o := ⟨dst, .buildSlice ty len parts, type, pos, after, none⟩) (X := X) (w := w) (ρ := ρ) (a := a) ho hb hp
        obtain ⟨r, ρ', q0, q1, q2, q3, q4, q5, q6, q7⟩ := newBlockAt hi hid (w' := { w with heap := w.heap.push (.cells arr e) }) (vs := vs) (e := e) rfl rfl rfl rfl h4 h5 h6
        exact ⟨_, _, ρ', h1, ⟨_, _, r, rfl, q0, by omega, fun _ => ⟨Nat.le_refl _, h3', fun _ => ⟨w.heap.size, q2, by rw [q3]; simp, by rw [q3, q4, q5, h3]; simp⟩⟩⟩, q7, q6⟩
      · cases h
    · cases h
  refine ⟨fun c e => (by simp only at e; subst e; simp [alcA] at h), fun X w ρ a hi hr hn => ⟨fun _ => .inr ?_, fun hw => (by simp [Region.wanted] at hw)⟩⟩
  obtain ⟨v, w', ρ', q1, q2, q3, q4⟩ := key a hi fun n hn => hr n (.inr hn)
  exact .inl ⟨v, w', q1, ρ', q2, q3, q4⟩
def isBox : Op → Bool
  | .box .. | .alloc _ | .makeSlice .. | .makeMap .. => true
  | _ => false
section
variable {gds : List (Option Nat)} {l : List Oper} {Q : S → Prop} {s : S} {o : Oper}
theorem StepAt.run {m1 : Mem} {x : AV} (h : StepAt P gds s.t s.m o m1 x) (k : Run P gds l Q ({ s with m := m1 }.put o.dst x)) : Run P gds (o :: l) Q s := by
  intro hg hd
  refine Run.eff (fun X r a w ρ hr => ?_) hg hd
  obtain ⟨h1, h2⟩ := h.2 X w ρ a hr.inv (fun n _ => hr.tmps n) (fun n hn => by rw [hr.size]; exact gnames_lt hg o.guard n hn)
  have hdo := hd o (by simp)
  have fin : ∀ (v : Value) (w' : World) (ρ' : Rho), R X w' ρ' x v → Inv X w' ρ' m1 → Tr w ρ w' ρ' → ∃ s' ρ', (s'.n = s.n ∧ Run P gds l Q s') ∧ Rel X s' (a.put o.dst v) w' ρ' ∧ Tr w ρ w' ρ' :=
    fun v w' ρ' q1 q2 q3 => ⟨{ s with m := m1 }.put o.dst x, ρ', ⟨by rw [S.put_n], k⟩, (hr.step q3 q2).put hdo q1, q3⟩
  unfold opwp
  split
  · rename_i hw
    refine ⟨fun _ _ => trivial, ?_⟩
    rw [Oper.semAt_eq _ _ _ h.1]
    rcases h1 hw with ⟨w', ρ', q1, q2, q3, q4⟩ | ⟨v, w', q1, ρ', q2, q3, q4⟩ | ⟨f', args, q1, q2⟩
    · rw [q1]; exact fin undef w' ρ' q2 q3 q4
    · rw [q1]; exact fin v w' ρ' q2 q3 q4
    · rw [q1]
      refine ⟨fun h => (by cases h), callsIn_fence (q2.mono ?_)⟩
      rintro e w' ⟨v, rfl, ρ', q2, q3, q4⟩
      exact fin v w' ρ' q2 q3 q4
  · rename_i hw
    obtain ⟨q1, q2⟩ := h2 (by simpa using hw)
    exact fin undef w ρ q1 (by rw [q2]; exact hr.inv) (Tr.refl w ρ)
/-- memory is made in an entry that stands already -/
theorem Run.alcAt (id : Nat) {dst : Option Nat} {op : Op} {type : TypeId} {pos : String} {after : Array Edge} {sz : Nat} {row : List AV} {q : Option Nat} {p : Prop} {ver : Nat} {k0 : Kind} (h : alcA P (evo s.t) op = some (sz, row, q, p)) (hp : p) (hid : s.m[id]? = some ⟨ver, k0⟩)
    (k : Run P gds l Q (putA ⟨s.t, s.m.set id ⟨ver + 1, .row sz row⟩, s.n, s.d⟩ dst (alcV id (ver + 1) q))) : Run P gds (⟨dst, op, type, pos, after, none⟩ :: l) Q s :=
  (alcA_step h hp hid).run (by rw [putA_eq] at k; exact k)
/-- an operation that makes no memory -/
theorem Run.calm {s' : S} {p : Prop} (h0 : isBox o.op = false) (h : nextA P gds s o = some (s', p)) (hp : p) (k : Run P gds l Q s') : Run P gds (o :: l) Q s := Run.next h hp k
end
theorem Wp.vacs {r : Option Nat} {c : Code} {Q : Exit → S → Prop} : ∀ (n : Nat) {s : S}, Wp P r c Q { s with m := s.m ++ List.replicate n ⟨0, .row 1 []⟩ } → Wp P r c Q s
  | 0, s, h => by simpa using h
  | n + 1, s, h => by
    have h1 : Wp P r c Q { s with m := s.m ++ [(⟨0, .row 1 []⟩ : Ent)] } := by
      refine Wp.vacs n ?_
      have e : s.m ++ [(⟨0, .row 1 []⟩ : Ent)] ++ List.replicate n ⟨0, .row 1 []⟩ = s.m ++ List.replicate (n + 1) ⟨0, .row 1 []⟩ := by
        simp only [List.replicate_succ, List.append_assoc, List.cons_append, List.nil_append]
      simp only
      rw [e]; exact h
    intro X a w ρ hr
    obtain ⟨t1, t2⟩ := hr.inv.adopt 1
    exact Go.wpIn_mono (h1 X a w _ (hr.step t1 t2)) fun e a' w' ⟨s', ρ', q, k1, k2⟩ => ⟨s', ρ', q, k1, t1.trans k2⟩
attribute [push_cast] alcA alcV
end Go.Vg
