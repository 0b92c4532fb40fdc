/- The abstract machine, part N: operations that write or make memory. -/
import Derived.Test.YtljchlkmalidnaaVgM
set_option linter.all false
set_option linter.unusedVariables false
namespace Go.Vg
open Go.RowKit
variable {P : Program} {X : Nat → Prop} {w : World} {ρ : Rho}

/-- the zero of a type -/
def updE (e : AV) (j : Nat) (x : AV) : AV :=
  match e with
  | .agg xs => .agg (xs.take j ++ x.cells ++ xs.drop (j + x.cells.length))
  | _ => x

def storeA (P : Program) (m : Mem) (ty : TypeId) (a x : AV) : Option (Mem × AV × Prop) :=
  match a with
  | .optr id ver i j =>
    match m[id]? with
    | some ⟨v, .row sz l⟩ =>
      if v = ver ∧ tsz P ty = some x.cells.length then
        (if sz = 1 then some (m.set id ⟨ver, .row sz (l.set i x)⟩, .any, i < l.length ∧ j = 0 ∧ x.one)
         else match l.getD i .any with
          | .agg xs => some (m.set id ⟨ver, .row sz (l.set i (updE (.agg xs) j x))⟩, .any, i < l.length ∧ j + x.cells.length ≤ sz ∧ x.flat)
          | _ => none)
      else none
    | _ => none
  | _ => none

def boxA (m : Mem) (x : AV) : Option (Mem × AV × Prop) := some (m ++ [⟨0, .row x.cells.length [x]⟩], .optr m.length 0 0 0, x.flat ∧ 0 < x.cells.length)

def makeA (P : Program) (m : Mem) (ty : TypeId) (l c : AV) : Option (Mem × AV × Prop) :=
  match uk P ty with
  | .slice e =>
    match zAV P e, tsz P e, tby P e, l, c with
    | some z, some sz, some by_, .val (.int .i64 n), .val (.int .i64 n') =>
      if elB P e = true then some (m ++ [⟨0, .row sz (List.replicate n.toNat z)⟩], .osl m.length 0 0 n.toNat, 0 ≤ n ∧ n' = n ∧ (by_ : Int) * n ≤ 281474976710656 ∧ n ≤ 9223372036854775807 ∧ z.flat ∧ z.cells.length = sz) else none
    | _, _, _, _, _ => none
  | _ => none

def srcOk (m : Mem) : AV → Prop
  | .osl id _ off len =>
    match m[id]? with
    | some ⟨_, .row _ l⟩ => off + len ≤ l.length
    | _ => False
  | _ => True
def notId (id : Nat) : AV → Prop
  | .osl id' _ _ _ => id' ≠ id
  | _ => True

def appA0 (P : Program) (m : Mem) (t u : TypeId) (d x : AV) : Option (Mem × AV × Prop) :=
  match uk P t, uk P u with
  | .slice e, .slice _ =>
    match tsz P e, tby P e, rowOf m x with
    | some sz, some by_, some (sz', new) =>
      if elB P e = true then
        match d with
        | .emp => some (m ++ [⟨0, .row sz new⟩], .osl m.length 0 0 new.length, new.length * by_ ≤ 140737488355328 ∧ new.length ≤ 9223372036854775807 ∧ srcOk m x ∧ (new ≠ [] → sz' = sz))
        | .osl id ver off len =>
          match m[id]? with
          | some ⟨v, .row sz0 l⟩ =>
            if v = ver ∧ sz0 = sz then
              some (m.set id ⟨ver + 1, .row sz ((l.drop off).take len ++ new)⟩, .osl id (ver + 1) 0 (len + new.length),
                off + len ≤ l.length ∧ (len + new.length) * by_ ≤ 140737488355328 ∧ len + new.length ≤ 9223372036854775807 ∧ srcOk m x ∧ notId id x ∧ (new ≠ [] → sz' = sz))
            else none
          | _ => none
        | _ => none
      else none
    | _, _, _ => none
  | _, _ => none

/-- append of so many elements of the zero value, to nil -/
def appZ (P : Program) (m : Mem) (t : TypeId) (d x : AV) : Option (Mem × AV × Prop) :=
  match uk P t, d, x with
  | .slice e, .emp, .val (.int .i64 n) =>
    match zAV P e, tsz P e, tby P e with
    | some z, some sz, some by_ =>
      if elB P e = true then some (m ++ [⟨0, .row sz (List.replicate n.toNat z)⟩], .osl m.length 0 0 n.toNat, 1 ≤ n ∧ (by_ : Int) * n ≤ 140737488355328 ∧ n ≤ 9223372036854775807 ∧ z.flat ∧ z.cells.length = sz) else none
    | _, _, _ => none
  | _, _, _ => none
def appA (P : Program) (m : Mem) (t u : TypeId) (d x : AV) : Option (Mem × AV × Prop) :=
  match uk P u with
  | .int .i64 => appZ P m t d x
  | _ => appA0 P m t u d x
def putR (l : List AV) (off : Nat) (xs : List AV) : List AV := l.take off ++ (xs ++ l.drop (off + xs.length))
def copyA (P : Program) (m : Mem) (t : TypeId) (d x : AV) : Option (Mem × AV × Prop) :=
  match uk P t, d, rowOf m x with
  | .slice e, .osl id ver off len, some (sz', new) =>
    match tsz P e, m[id]? with
    | some sz, some ⟨v, .row sz0 l⟩ =>
      if v = ver ∧ sz0 = sz ∧ sz' = sz then some (m.set id ⟨ver, .row sz (putR l off (new.take len))⟩, .int (new.take len).length, off + len ≤ l.length ∧ srcOk m x ∧ 0 < sz)
      else none
    | _, _ => none
  | _, _, _ => none
def updA (P : Program) (m : Mem) (ty : TypeId) (x k v : AV) : Option (Mem × AV × Prop) :=
  match x, mpT P ty, keyV k with
  | .omap id ver, some (kt, _), some kv =>
    match m[id]? with
    | some ⟨v0, .mp l⟩ => if v0 = ver then some (m.set id ⟨ver, .mp (updL l kv v)⟩, .any, keysOk P kt kv l) else none
    | _ => none
  | _, _, _ => none
/-- an operation that writes or makes memory: the entries behind it, its value, what it asks -/
def effA (P : Program) (E : Operand → AV) (m : Mem) (op : Op) : Option (Mem × AV × Prop) :=
  match op with
  | .store ty a v => storeA P m ty (E a) (E v)
  | .box _ v => boxA m (E v)
  | .alloc ty =>
    match zAV P ty with
    | some x => boxA m x
    | none => none
  | .makeSlice ty l c => makeA P m ty (E l) (E c)
  | .call c =>
    match c.callee with
    | .builtin .append =>
      match c.args.toList, c.argTypes.toList with
      | [d, x], [t, u] => appA P m t u (E d) (E x)
      | _, _ => none
    | .builtin .copy =>
      match c.args.toList, c.argTypes.toList with
      | [d, x], [t, _] => copyA P m t (E d) (E x)
      | _, _ => none
    | _ => none
  | .makeMap ty none => some (m ++ [⟨0, .mp []⟩], .omap m.length 0, True)
  | .mapUpdate ty mp k v => updA P m ty (E mp) (E k) (E v)
  | .insert ty mp k v => updA P m ty (E mp) (E k) (E v)
  | _ => none

/-- what is owed of such an operation -/
def Done (P : Program) (X : Nat → Prop) (w : World) (ρ : Rho) (m' : Mem) (x : AV) (r : Result Next) : Prop :=
  ∃ v w' ρ', (r = .ok (.value v) w' ∨ (r = .ok .skip w' ∧ v = undef)) ∧ Tr w ρ w' ρ' ∧ Inv X w' ρ' m' ∧ R X w' ρ' x v

theorem newBlock {m : Mem} (hi : Inv X w ρ m) {sz : Nat} {l : List AV} {arr : Array Value} {vs : List Value} {e : TypeId} {w' : World} (hh : w'.heap = w.heap.push (.cells arr e)) (hos : w'.os = w.os) (htp : w'.tape = w.tape) (hou : w'.output = w.output)
    (hlen : vs.length = l.length * sz) (hvs : ∀ (j : Nat) (v : Value), vs[j]? = some v → arr[j]? = some v) (hR : ∀ {w' : World} {ρ' : Rho} {b' o' : Nat}, Kp X w ρ w' ρ' → (∀ j v, vs[j]? = some v → w'.cell? ⟨b', o' + j, none⟩ = some v) → Rrow X w' ρ' l sz b' o') :
    ∃ r : RE, r.ver = 0 ∧ r.blk = some w.heap.size ∧ r.base = 0 ∧ r.size = arr.size ∧ r.sz = sz ∧ Tr w ρ w' (ρ ++ [r]) ∧ Inv X w' (ρ ++ [r]) (m ++ [⟨0, .row sz l⟩]) := by
  have hnew : w'.heap[w.heap.size]? = some (.cells arr e) := by rw [hh]; simp
  have hcell : ∀ o, w'.cell? ⟨w.heap.size, o, none⟩ = arr[o]? := fun o => by simp [World.cell?, hnew]
  have hle : vs.length ≤ arr.size := by
    rcases Nat.eq_zero_or_pos vs.length with h | h
    · omega
    · have h1 := hvs (vs.length - 1) _ (List.getElem?_eq_getElem (by omega))
      have := (Array.getElem?_eq_some_iff.1 h1).1
      omega
  obtain ⟨h1, h2⟩ := hi.alloc (r := ⟨0, some w.heap.size, 0, arr.size, sz⟩) (k := .row sz l) hh hos htp hou rfl rfl (fun ρ' ht he => by
    refine ⟨rfl, fun h => (by cases h), fun b hb => ?_⟩
    cases hb
    refine ⟨⟨arr, e, (0, 0), hnew, rfl, by simp, by simp⟩, by simp only [Nat.zero_add]; omega, hR ht.kp fun j v hj => ?_⟩
    simp only [Nat.zero_add]
    rw [hcell]; exact hvs j v hj)
  exact ⟨_, rfl, rfl, rfl, rfl, rfl, h1, h2⟩

theorem last_get {α : Type} (l : List α) (x : α) : (l ++ [x])[l.length]? = some x := by simp

theorem boxA_done {m m' : Mem} (hi : Inv X w ρ m) {x y : AV} {v : Value} {p : Prop} {ty : TypeId} (hx : R X w ρ x v) (h : boxA m x = some (m', y, p)) (hp : p) :
    ∃ u w' ρ', (Instr.box ty v).run P w = .ok u w' ∧ Tr w ρ w' ρ' ∧ Inv X w' ρ' m' ∧ R X w' ρ' y u := by
  simp only [boxA, Option.some.injEq, Prod.mk.injEq] at h
  obtain ⟨rfl, rfl, rfl⟩ := h
  obtain ⟨vs, e1, e2, e3, e4⟩ := flat_cells hp.1 hx
  obtain ⟨r, q1, q2, q3, q4, q5, q6, q7⟩ := newBlock hi (w' := { w with heap := w.heap.push (.cells v.cells ty) }) (sz := x.cells.length) (l := [x]) (arr := v.cells) (vs := vs) (e := ty) rfl rfl rfl rfl (by simp [e4]) (fun j u hj => by rw [e1]; simpa using hj)
    (fun {w' ρ' b' o'} hk hc => ⟨Re_of_cells hp.1 rfl (Rcells_of fun j y hj => by
      obtain ⟨u, hu, hR⟩ := e2.nth hj
      exact ⟨u, hc j u hu, e3 u (List.mem_of_getElem? hu), R.mono hk hR⟩), trivial⟩)
  refine ⟨.pointer (some ⟨w.heap.size, 0, none⟩), _, _, by simp [Instr.box, newVar, newRow], q6, q7, ?_⟩
  refine ⟨_, r, rfl, ?_, by omega, fun _ => ⟨w.heap.size, q2, by rw [q3]; simp⟩⟩
  rw [← hi.len]; exact last_get ρ r

theorem storeA_done {m m' : Mem} (hi : Inv X w ρ m) {ty : TypeId} {a x y : AV} {va vx : Value} {p : Prop} (ha : R X w ρ a va) (hx : R X w ρ x vx) (h : storeA P m ty a x = some (m', y, p)) (hp : p) :
    ∃ w' ρ', (Instr.storeAt ty va vx).run P w = .ok () w' ∧ Tr w ρ w' ρ' ∧ Inv X w' ρ' m' ∧ y = .any := by
  unfold storeA at h
  split at h <;> (try (cases h; done))
  rename_i id ver i j
  split at h <;> (try (cases h; done))
  rename_i v sz l hm
  split at h <;> (try (cases h; done))
  rename_i hc
  obtain ⟨rfl, hts⟩ := hc
  obtain ⟨r, hr, hv, hrz, hnone, hblk⟩ := hi.row hm
  obtain ⟨A, r', rfl, hr', hle, hat⟩ := ha
  rw [hr] at hr'; cases hr'
  obtain ⟨b, hb, rfl⟩ := hat hv.symm
  obtain ⟨⟨arr, e, fr, ha1, ha2, ha3, ha4⟩, hfit, hrow⟩ := hblk b hb
  have hrowat : RowAt w b arr := ⟨e, fr, ha1, ha3, ha4⟩
  have key : ∀ (ne : AV), x.flat → i < l.length → j + x.cells.length ≤ sz →
      (∀ (w' : World) (arr' : Array Value), RowAt w' b arr' → Kp X w ρ w' ρ → (∀ k, arr'[k]? = if r.base + i * r.sz + j ≤ k ∧ k < r.base + i * r.sz + j + x.cells.length then (vx.cells.toList)[k - (r.base + i * r.sz + j)]? else arr[k]?) → Rvals X w ρ x.cells vx.cells.toList → (∀ u ∈ vx.cells.toList, u.oneCell' = true) → Re X w' ρ ne sz b (r.base + i * sz)) →
      ∃ w' ρ', (Instr.storeAt ty (.pointer (some ⟨b, r.base + i * r.sz + j, none⟩)) vx).run P w = .ok () w' ∧ Tr w ρ w' ρ' ∧ Inv X w' ρ' (m.set id ⟨v, .row sz (l.set i ne)⟩) := by
    intro ne hf hil hj hne
    obtain ⟨vs, f1, f2, f3, f4⟩ := flat_cells hf hx
    have hspace : (i + 1) * sz ≤ l.length * sz := Nat.mul_le_mul_right _ hil
    rw [Nat.add_mul, Nat.one_mul] at hspace
    obtain ⟨w', arr', g1, g2, g3, g4, g5⟩ := run_storeCells_row (P := P) vs (o := r.base + i * r.sz + j) (i := 0) hrowat (by rw [hrz]; omega) f3
    have htr := Tr.turn hr hb g3
    refine ⟨w', ρ, ?_, htr, ?_⟩
    · unfold Instr.storeAt storeVar
      simp only [Instr.sureAddr, Sem.run_bind, Sem.run_pure, Result.andThen_ok, run_sizeOf hts]
      have : vx.cells.size = x.cells.length := by rw [f1]; simpa using f4
      rw [if_neg (by simp [this])]
      simp only [f1]
      exact g1
    · refine hi.write hr hb hv g3 hrz g2 (by omega) (by simpa using hfit) ?_
      refine Rrow_of_cells fun i' y hy => ?_
      rcases getElem?_set_cases hy with ⟨rfl, _, rfl⟩ | ⟨hne', hy'⟩
      · refine hne w' arr' g2 htr.kp (fun k => ?_) (by rw [f1]; simpa using f2) (by rw [f1]; simpa using f3)
        rw [g5 k, f1]; simp only [Nat.add_zero, f4]
      · have h0 := hrow.nth hy'
        have hrow1 : Rrow X w ρ [y] sz b (r.base + i' * sz) := ⟨h0, trivial⟩
        obtain ⟨us, u1, u2, u3, u4⟩ := hrow1.vals
        refine (u4 (b' := b) (o' := r.base + i' * sz) htr.kp fun k u hk => ?_).1
        have hklt : k < sz := by have := (List.getElem?_eq_some_iff.1 hk).1; simp at u1; omega
        have hcell := u2 k u hk
        rw [hrowat.cell] at hcell
        rw [g2.cell, g5, if_neg]
        · exact hcell
        · rw [hrz]
          rcases Nat.lt_or_ge i' i with hlt | hge
          · have : (i' + 1) * sz ≤ i * sz := Nat.mul_le_mul_right _ hlt
            rw [Nat.add_mul, Nat.one_mul] at this
            omega
          · have : (i + 1) * sz ≤ i' * sz := Nat.mul_le_mul_right _ (by omega)
            rw [Nat.add_mul, Nat.one_mul] at this
            omega
  split at h
  · rename_i hs1
    simp only [Option.some.injEq, Prod.mk.injEq] at h
    obtain ⟨rfl, rfl, rfl⟩ := h
    obtain ⟨hil, rfl, hone⟩ := hp
    subst hs1
    have hflat : x.flat := by cases x <;> simp only [AV.flat] <;> first | exact hone | exact hone.elim
    have hc1 : x.cells = [x] := by cases x <;> simp only [AV.cells] <;> exact hone.elim
    obtain ⟨w', ρ', k1, k2, k3⟩ := key x hflat hil (by rw [hc1]; simp) (fun w' arr' g2 hk hcells hRv h1 => by
      rw [hc1] at hcells hRv
      obtain ⟨u, us, e1, e2, e3⟩ := hRv
      have hu := hcells (r.base + i * r.sz + 0)
      rw [if_pos ⟨Nat.le_refl _, by simp⟩, Nat.sub_self, e1] at hu
      refine Re_of_cells hflat (by rw [hc1]; rfl) ?_
      rw [hc1]
      refine ⟨⟨u, ?_, h1 u (by rw [e1]; simp), R.mono hk e2⟩, trivial⟩
      rw [g2.cell]
      rw [hrz] at hu
      simpa using hu)
    exact ⟨w', ρ', k1, k2, k3, rfl⟩
  · rename_i hs1
    split at h <;> (try (cases h; done))
    rename_i xs hxs
    simp only [Option.some.injEq, Prod.mk.injEq] at h
    obtain ⟨rfl, rfl, rfl⟩ := h
    obtain ⟨hil, hj, hflat⟩ := hp
    have hli : l[i]? = some (.agg xs) := by
      rw [List.getElem?_eq_getElem hil]
      have : l.getD i .any = l[i] := by simp [hil]
      rw [← this, hxs]
    have hre := hrow.nth hli
    obtain ⟨hxl, hxc⟩ := hre
    obtain ⟨w', ρ', k1, k2, k3⟩ := key (updE (.agg xs) j x) hflat hil hj (fun w' arr' g2 hk hcells hRv h1 => by
      simp only [updE]
      refine ⟨by simp; omega, Rcells_of fun k y hy => ?_⟩
      have hvl : vx.cells.toList.length = x.cells.length := hRv.len
      rw [g2.cell, hcells, hrz]
      have hjl : j ≤ xs.length := by omega
      by_cases hk1 : k < j
      · rw [List.append_assoc, List.getElem?_append_left (by simp; omega)] at hy
        rw [List.getElem?_take, if_pos hk1] at hy
        obtain ⟨u, q1, q2, q3⟩ := hxc.nth hy
        rw [hrowat.cell] at q1
        rw [if_neg (by omega)]
        exact ⟨u, q1, q2, R.mono hk q3⟩
      · by_cases hk2 : k < j + x.cells.length
        · rw [List.getElem?_append_left (by simp; omega), List.getElem?_append_right (by simp; omega)] at hy
          have hy' : x.cells[k - j]? = some y := by simpa [Nat.min_eq_left hjl] using hy
          obtain ⟨u, q1, q2⟩ := hRv.nth hy'
          rw [if_pos (by omega), show r.base + i * sz + k - (r.base + i * sz + j) = k - j by omega]
          exact ⟨u, q1, h1 u (List.mem_of_getElem? q1), R.mono hk q2⟩
        · rw [List.getElem?_append_right (by simp; omega)] at hy
          have hy' : xs[k]? = some y := by
            rw [List.getElem?_drop] at hy
            simp only [List.length_append, List.length_take, Nat.min_eq_left hjl] at hy
            rw [show j + x.cells.length + (k - (j + x.cells.length)) = k by omega] at hy
            exact hy
          obtain ⟨u, q1, q2, q3⟩ := hxc.nth hy'
          rw [hrowat.cell] at q1
          rw [if_neg (by omega)]
          exact ⟨u, q1, q2, R.mono hk q3⟩)
    exact ⟨w', ρ', k1, k2, k3, rfl⟩

theorem makeA_done {m m' : Mem} (hi : Inv X w ρ m) {ty : TypeId} {l c y : AV} {vl vc : Value} {p : Prop} (hl : R X w ρ l vl) (hc : R X w ρ c vc) (h : makeA P m ty l c = some (m', y, p)) (hp : p) :
    ∃ u w' ρ', (Instr.makeSlice ty vl vc).run P w = .ok u w' ∧ Tr w ρ w' ρ' ∧ Inv X w' ρ' m' ∧ R X w' ρ' y u := by
  unfold makeA at h
  split at h <;> (try (cases h; done))
  rename_i e hu
  split at h <;> (try (cases h; done))
  rename_i z sz by_ n n' hz hsz hby
  split at h <;> (try (cases h; done))
  rename_i hel
  simp only [Option.some.injEq, Prod.mk.injEq] at h
  obtain ⟨rfl, rfl, rfl⟩ := h
  obtain ⟨h0, rfl, hb48, hmax, hzf, hzl⟩ := hp
  rw [R_val] at hl hc; subst hl hc
  obtain ⟨i, z0, hinfo, hz0, hzs, hpos⟩ := elB_some hel
  obtain ⟨i', hi', hsz'⟩ := tsz_some hsz
  rw [hinfo] at hi'; cases hi'
  have hby' : i.bytes = by_ := by unfold tby at hby; simpa [hinfo] using hby
  obtain ⟨zv, hzv, hzR⟩ := zAV_some (P := P) (X := X) (w := w) (ρ := ρ) hz
  have hzv0 : zv = z0 := by simp [zeroValue, typeInfo, hinfo, hz0] at hzv; exact hzv.symm
  subst hzv0
  obtain ⟨zs, f1, f2, f3, f4⟩ := flat_cells hzf hzR
  have hrun := run_make (P := P) w ty e i zv (uk_slice hu) hinfo hz0 .i64 .i64 n' n' h0 (Int.le_refl _) (by rw [hby']; omega) (by omega)
  have hzsz : zv.cells.size = sz := by rw [hzs, hsz']
  have hzlen : zs.length = sz := by omega
  have hget : ∀ (k j : Nat), j < sz → k % sz = j → k < n'.toNat * i.size → ∀ u, zs[j]? = some u → (madeCells zv.cells (n'.toNat * i.size)).toList[k]? = some u := by
    intro k j hj hk hlt u hu'
    have : (madeCells zv.cells (n'.toNat * i.size)).toList[k]? = some (zv.cells[k % zv.cells.size]!) := by
      simp [madeCells, hlt]
    rw [this, hzsz, hk, f1]
    have hj' : j < zs.length := by omega
    rw [List.getElem?_eq_getElem hj'] at hu'
    simp only [Option.some.injEq] at hu' ⊢
    rw [← hu']
    simp [hj']
  obtain ⟨r, q1, q2, q3, q4, q5, q6, q7⟩ := newBlock hi (w' := w.alloc (.cells (madeCells zv.cells (n'.toNat * i.size)) e)) (sz := sz) (l := List.replicate n'.toNat z) (arr := madeCells zv.cells (n'.toNat * i.size)) (vs := (madeCells zv.cells (n'.toNat * i.size)).toList) (e := e)
    rfl rfl rfl rfl (by rw [Array.length_toList, size_madeCells, hsz']; simp) (fun j u hj => by simpa using hj)
    (fun {w' ρ' b' o'} hk hc => Rrow_of_cells fun i1 y hy => by
      have hy0 := List.getElem?_replicate (a := z) (n := n'.toNat) (i := i1) 
      rw [hy] at hy0
      split at hy0
      · rename_i hlt
        cases hy0
        refine Re_of_cells hzf hzl (Rcells_of fun j y' hj => ?_)
        obtain ⟨u, hu', hR⟩ := f2.nth hj
        have hjlt : j < sz := by have := (List.getElem?_eq_some_iff.1 hu').1; omega
        have hle : (i1 + 1) * sz ≤ n'.toNat * sz := Nat.mul_le_mul_right _ hlt
        rw [Nat.add_mul, Nat.one_mul] at hle
        have := hc (i1 * sz + j) u (hget _ j hjlt (by rw [Nat.mul_comm, Nat.mul_add_mod]; exact Nat.mod_eq_of_lt hjlt) (by rw [hsz']; omega) u hu')
        rw [← Nat.add_assoc] at this
        exact ⟨u, this, f3 u (List.mem_of_getElem? hu'), R.mono hk hR⟩
      · cases hy0)
  refine ⟨_, _, _, hrun, q6, q7, _, _, r, rfl, by rw [← hi.len]; exact last_get ρ r, by omega, fun _ => ⟨Nat.le_refl _, by simp only [maxLen]; omega, fun hp => ⟨w.heap.size, q2, by rw [q3]; simp, ?_⟩⟩⟩
  rw [q3, q4, q5, size_madeCells, hsz']; simp
end Go.Vg
