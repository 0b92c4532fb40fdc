/- The abstract machine, part D: reading memory. -/
import Derived.Test.YtljchlkmalidnaaVgC
set_option linter.all false
set_option linter.unusedVariables false
namespace Go.Vg
open Go.RowKit
variable {P : Program} {X : Nat → Prop} {w : World} {ρ : Rho}

theorem Rrow.nth {sz b : Nat} : ∀ {l : List AV} {o i : Nat} {x : AV}, Rrow X w ρ l sz b o → l[i]? = some x → Re X w ρ x sz b (o + i * sz)
  | [], _, _, _, _, h => by simp at h
  | y :: l, o, 0, x, h, hi => by simp at hi; subst hi; simpa using h.1
  | y :: l, o, i + 1, x, h, hi => by
    have := Rrow.nth (o := o + sz) (i := i) h.2 (by simpa using hi)
    rw [Nat.add_mul, Nat.one_mul]
    rw [show o + (i * sz + sz) = o + sz + i * sz by omega]
    exact this

theorem Re.cells {x : AV} {sz b o : Nat} (h : Re X w ρ x sz b o) : x.cells.length = sz ∧ Rcells X w ρ x.cells b o := by
  cases x <;> simp only [Re, Rp] at h <;> (try exact h.elim)
  case agg xs => exact h
  all_goals
    obtain ⟨h1, v, h2, h3, h4⟩ := h
    exact ⟨h1.symm, ⟨v, h2, h3, h4⟩, trivial⟩

theorem Rcells.nth {b : Nat} : ∀ {xs : List AV} {o j : Nat} {x : AV}, Rcells X w ρ xs b o → xs[j]? = some x → ∃ v, w.cell? ⟨b, o + j, none⟩ = some v ∧ v.oneCell' = true ∧ R X w ρ x v
  | [], _, _, _, _, h => by simp at h
  | y :: xs, o, 0, x, h, hj => by simp at hj; subst hj; simpa using h.1
  | y :: xs, o, j + 1, x, h, hj => by
    have := Rcells.nth (o := o + 1) (j := j) h.2 (by simpa using hj)
    rw [show o + (j + 1) = o + 1 + j by omega]
    exact this

theorem Rcells.drop {b : Nat} : ∀ {xs : List AV} {o : Nat} (j : Nat), Rcells X w ρ xs b o → Rcells X w ρ (xs.drop j) b (o + j)
  | xs, o, 0, h => by simpa using h
  | [], _, j + 1, _ => by simp [Rcells]
  | x :: xs, o, j + 1, h => by
    have := Rcells.drop (o := o + 1) j h.2
    rw [show o + (j + 1) = o + 1 + j by omega]
    simpa using this

theorem Rcells.take {b : Nat} : ∀ {xs : List AV} {o : Nat} (n : Nat), Rcells X w ρ xs b o → Rcells X w ρ (xs.take n) b o
  | xs, o, 0, _ => by simp [Rcells]
  | [], _, n + 1, _ => by simp [Rcells]
  | x :: xs, o, n + 1, h => by simp only [List.take_succ_cons]; exact ⟨h.1, Rcells.take n h.2⟩

theorem Rcells.vals {b : Nat} : ∀ {xs : List AV} {o : Nat}, Rcells X w ρ xs b o → ∃ vs : List Value, vs.length = xs.length ∧ (∀ j v, vs[j]? = some v → w.cell? ⟨b, o + j, none⟩ = some v) ∧ (∀ v ∈ vs, v.oneCell' = true) ∧ Rvals X w ρ xs vs
  | [], _, _ => ⟨[], rfl, by simp, by simp, rfl⟩
  | x :: xs, o, ⟨⟨v, h1, h2, h3⟩, h4⟩ => by
    obtain ⟨vs, e1, e2, e3, e4⟩ := Rcells.vals h4
    refine ⟨v :: vs, by simp [e1], ?_, ?_, ⟨v, vs, rfl, h3, e4⟩⟩
    · intro j u hj
      cases j with
      | zero => simp at hj; subst hj; exact h1
      | succ j => rw [show o + (j + 1) = o + 1 + j by omega]; exact e2 j u (by simpa using hj)
    · intro u hu
      cases hu with
      | head => exact h2
      | tail _ hu => exact e3 u hu

theorem Rvals.nth : ∀ {xs : List AV} {vs : List Value} {j : Nat} {x : AV}, Rvals X w ρ xs vs → xs[j]? = some x → ∃ v, vs[j]? = some v ∧ R X w ρ x v
  | [], _, _, _, _, h => by simp at h
  | y :: xs, _, 0, x, ⟨v, vs', rfl, h2, _⟩, hj => by simp at hj; subst hj; exact ⟨v, rfl, h2⟩
  | y :: xs, _, j + 1, x, ⟨v, vs', rfl, _, h3⟩, hj => by
    obtain ⟨u, h1, h2⟩ := Rvals.nth (j := j) h3 (by simpa using hj)
    exact ⟨u, by simpa using h1, h2⟩

theorem Rvals.len : ∀ {xs : List AV} {vs : List Value}, Rvals X w ρ xs vs → vs.length = xs.length
  | [], _, h => by cases h; rfl
  | _ :: xs, _, ⟨v, vs', rfl, _, h3⟩ => by simp [Rvals.len h3]

theorem Rvals.drop : ∀ {xs : List AV} {vs : List Value} (j : Nat), Rvals X w ρ xs vs → Rvals X w ρ (xs.drop j) (vs.drop j)
  | _, _, 0, h => by simpa using h
  | [], _, j + 1, h => by cases h; simp [Rvals]
  | _ :: xs, _, j + 1, ⟨v, vs', rfl, _, h3⟩ => by simpa using Rvals.drop j h3

theorem Rvals.take : ∀ {xs : List AV} {vs : List Value} (n : Nat), Rvals X w ρ xs vs → Rvals X w ρ (xs.take n) (vs.take n)
  | _, _, 0, _ => by simp [Rvals]
  | [], _, n + 1, h => by cases h; simp [Rvals]
  | _ :: xs, _, n + 1, ⟨v, vs', rfl, h2, h3⟩ => ⟨v, vs'.take n, by simp, h2, Rvals.take n h3⟩

theorem Addr.add_none (b o n : Nat) : (⟨b, o, none⟩ : Addr).add n = ⟨b, o + n, none⟩ := by
  unfold Addr.add; split
  · rename_i h; subst h; simp
  · rfl

theorem run_loadCells_vals {b o : Nat} {vs : List Value} (h : ∀ j v, vs[j]? = some v → w.cell? ⟨b, o + j, none⟩ = some v) : (loadCells ⟨b, o, none⟩ vs.length).run P w = .ok vs.toArray w :=
  run_loadCells_list (P := P) (w := w) ⟨b, o, none⟩ vs (fun j v hj => by rw [Addr.add_none]; exact h j v hj)

theorem Inv.row {m : Mem} (hi : Inv X w ρ m) {id ver sz : Nat} {l : List AV} (hm : m[id]? = some ⟨ver, .row sz l⟩) : ∃ r, ρ[id]? = some r ∧ r.ver = ver ∧ r.sz = sz ∧ (r.blk = none → l = []) ∧
    ∀ b, r.blk = some b → (∃ arr e fr, w.heap[b]? = some (.cells arr e fr) ∧ arr.size = r.size ∧ fr.2 ≤ fr.1 + 1 ∧ (fr.1 < fr.2 → arr.size ≤ fr.1)) ∧ r.base + l.length * sz ≤ r.size ∧ Rrow X w ρ l sz b r.base := by
  have hlt : id < ρ.length := by rw [hi.len]; exact (List.getElem?_eq_some_iff.1 hm).1
  obtain ⟨h1, h2, h3, h4⟩ := hi.at_ id ρ[id] _ (List.getElem?_eq_getElem hlt) hm
  exact ⟨ρ[id], List.getElem?_eq_getElem hlt, h1, h2, h3, h4⟩

/-- the row that a slice reads as, in memory -/
theorem Inv.optr {m : Mem} (hi : Inv X w ρ m) {id ver i j : Nat} {v : Value} (hv : (m[id]?).map (·.ver) = some ver) (hx : R X w ρ (.optr id ver i j) v) :
    ∃ r e, ρ[id]? = some r ∧ m[id]? = some e ∧ r.ver = ver ∧ ∃ b, r.blk = some b ∧ v = .pointer (some ⟨b, r.base + i * r.sz + j, none⟩) := by
  cases hm : m[id]? with
  | none => simp [hm] at hv
  | some e =>
    simp [hm] at hv
    obtain ⟨A, r, rfl, hr, hle, hat⟩ := hx
    have h1 := (hi.at_ id r e hr hm).1
    obtain ⟨b, hb, rfl⟩ := hat (by omega)
    exact ⟨r, e, hr, rfl, by omega, b, hb, rfl⟩

theorem idxA_run {m : Mem} (hi : Inv X w ρ m) {t : TypeId} {x i : AV} {vx vi : Value} {z : AV} {p : Prop} (hx : R X w ρ x vx) (hiv : R X w ρ i vi) (h : idxA P m t x i = some (z, p)) (hp : p) :
    ∃ v, (Instr.indexAt t vx vi).run P w = .ok v w ∧ R X w ρ z v := by
  unfold idxA at h
  split at h
  · rename_i e sz l kk k hu
    split at h <;> simp only [Option.some.injEq, Prod.mk.injEq, reduceCtorEq] at h
    rename_i hsz
    obtain ⟨rfl, rfl⟩ := h
    rw [R_val] at hiv; subst hiv
    obtain ⟨A, c, rfl, hc1, hc2, hrow⟩ := hx
    have hlt : k.toNat < l.length := by omega
    obtain ⟨b, o, rfl, hf, hs0, hr⟩ := hrow (by intro e; subst e; simp at hlt)
    have hnth := hr.nth (List.getElem?_eq_getElem hlt)
    obtain ⟨c1, c2⟩ := hnth.cells
    refine ⟨_, by simp [Instr.indexAt, asIntOf, underlying, uk_slice hu, hp.1, hp.2, run_sizeOf hsz, Addr.add_none]; rfl, ?_⟩
    have hg : l.getD k.toNat (zav P e) = l[k.toNat] := by simp [hlt]
    rw [hg]
    exact ⟨b, o + k.toNat * sz, by simp, by omega, hf, c2⟩
  · rename_i e id ver off len kk k hu
    split at h
    · rename_i v sz l hm
      split at h <;> simp only [Option.some.injEq, Prod.mk.injEq, reduceCtorEq] at h
      rename_i hsz
      obtain ⟨rfl, rfl⟩ := h
      obtain ⟨rfl, hsz⟩ := hsz
      rw [R_val] at hiv; subst hiv
      obtain ⟨r, hr, hv, hrz, hnone, hblk⟩ := hi.row hm
      obtain ⟨A, c, r', rfl, hr', hle, hat⟩ := hx
      rw [hr] at hr'; cases hr'
      obtain ⟨hl, hc, hpos⟩ := hat hv.symm
      obtain ⟨b, hb, rfl, hfit⟩ := hpos (by omega)
      refine ⟨_, by simp [Instr.indexAt, asIntOf, underlying, uk_slice hu, hp.1, hp.2, run_sizeOf hsz, Addr.add_none]; rfl, ?_⟩
      refine ⟨_, r, rfl, hr, by omega, fun _ => ⟨b, hb, ?_⟩⟩
      rw [hrz, Nat.add_mul]
      simp only [Nat.add_zero]
      congr 2; omega
    · cases h
  · rename_i xs j kk k
    split at h <;> (try (cases h; done))
    rename_i n e ha
    split at h <;> (try (cases h; done))
    rename_i sz hsz
    simp only [Option.some.injEq, Prod.mk.injEq] at h
    obtain ⟨rfl, rfl⟩ := h
    obtain ⟨⟨h0, hn⟩, hlt⟩ := hp
    rw [R_val] at hiv; subst hiv
    obtain ⟨b, o, rfl, hj, hf, hr⟩ := hx
    refine ⟨_, by simp [Instr.indexAt, asIntOf, underlying, arT_some ha, Instr.sureAddr, h0, hn, run_sizeOf hsz, Addr.add_none]; rfl, ?_⟩
    exact ⟨b, o, by rw [Nat.add_assoc], hlt, hf, hr⟩
  · rename_i id ver i0 j kk k
    split at h <;> (try (cases h; done))
    rename_i n e ha
    split at h <;> (try (cases h; done))
    rename_i sz hsz
    split at h <;> (try (cases h; done))
    rename_i hm
    simp only [Option.some.injEq, Prod.mk.injEq] at h
    obtain ⟨rfl, rfl⟩ := h
    obtain ⟨h0, hn⟩ := hp
    rw [R_val] at hiv; subst hiv
    obtain ⟨r, e', hr, he, hv, b, hb, rfl⟩ := hi.optr hm hx
    refine ⟨_, by simp [Instr.indexAt, asIntOf, underlying, arT_some ha, Instr.sureAddr, h0, hn, run_sizeOf hsz, Addr.add_none]; rfl, ?_⟩
    exact ⟨_, r, rfl, hr, by omega, fun _ => ⟨b, hb, by rw [Nat.add_assoc]⟩⟩
  · cases h

theorem Rcells.load {b o : Nat} {xs : List AV} (h : Rcells X w ρ xs b o) (j n : Nat) (hj : j + n ≤ xs.length) :
    ∃ vs : List Value, vs.length = n ∧ (loadCells ⟨b, o + j, none⟩ n).run P w = .ok vs.toArray w ∧ Rvals X w ρ ((xs.drop j).take n) vs := by
  obtain ⟨vs, e1, e2, _, e4⟩ := ((h.drop j).take n).vals
  have hn : vs.length = n := by rw [e1]; simp; omega
  refine ⟨vs, hn, ?_, e4⟩
  have := run_loadCells_vals (P := P) e2
  rw [hn] at this; exact this

theorem loadA_run {m : Mem} (hi : Inv X w ρ m) {t : TypeId} {x : AV} {vx : Value} {z : AV} {p : Prop} (hx : R X w ρ x vx) (h : loadA P m t x = some (z, p)) (hp : p) :
    ∃ v, (Instr.loadAt t vx).run P w = .ok v w ∧ R X w ρ z v := by
  unfold loadA at h
  split at h
  · rename_i xs j hag
    simp only [Option.some.injEq, Prod.mk.injEq] at h
    obtain ⟨rfl, rfl⟩ := h
    obtain ⟨b, o, rfl, hj, hf, hr⟩ := hx
    obtain ⟨v, hv, h1, hR⟩ := hr.nth (List.getElem?_eq_getElem hj)
    refine ⟨v, by simp [Instr.loadAt, Instr.sureAddr, loadVar, run_isAgg hag, hv], ?_⟩
    have : xs.getD j .any = xs[j] := by simp [hj]
    rw [this]; exact hR
  · rename_i n xs j hag hn
    simp only [Option.some.injEq, Prod.mk.injEq] at h
    obtain ⟨rfl, rfl⟩ := h
    obtain ⟨b, o, rfl, hj, hf, hr⟩ := hx
    obtain ⟨vs, e1, e2, e3⟩ := hr.load (P := P) j n hp
    exact ⟨.agg vs.toArray, by simp [Instr.loadAt, Instr.sureAddr, loadVar, run_isAgg hag, run_sizeOf hn, e2], vs, rfl, e3⟩
  · rename_i id ver i j hag
    split at h
    · rename_i v sz l hm
      split at h <;> simp only [Option.some.injEq, Prod.mk.injEq, reduceCtorEq] at h
      rename_i hv; subst hv
      obtain ⟨rfl, rfl⟩ := h
      obtain ⟨r, hr, hv, hrz, hnone, hblk⟩ := hi.row hm
      obtain ⟨A, r', rfl, hr', hle, hat⟩ := hx
      rw [hr] at hr'; cases hr'
      obtain ⟨b, hb, rfl⟩ := hat hv.symm
      obtain ⟨_, _, hrow⟩ := hblk b hb
      obtain ⟨hlt, hj⟩ := hp
      obtain ⟨c1, c2⟩ := (hrow.nth (List.getElem?_eq_getElem hlt)).cells
      have hg : l.getD i (zav P t) = l[i] := by simp [hlt]
      rw [hg]
      obtain ⟨v, hv, h1, hR⟩ := c2.nth (List.getElem?_eq_getElem (show j < l[i].cells.length by omega))
      refine ⟨v, by simp [Instr.loadAt, Instr.sureAddr, loadVar, run_isAgg hag, hrz, hv], ?_⟩
      have : l[i].cells.getD j .any = l[i].cells[j] := by
        rw [List.getD_eq_getElem?_getD, List.getElem?_eq_getElem (show j < l[i].cells.length by omega)]; rfl
      rw [this]; exact hR
    · cases h
  · rename_i n id ver i j hag hn
    split at h
    · rename_i v sz l hm
      split at h <;> simp only [Option.some.injEq, Prod.mk.injEq, reduceCtorEq] at h
      rename_i hv; subst hv
      obtain ⟨rfl, rfl⟩ := h
      obtain ⟨r, hr, hv, hrz, hnone, hblk⟩ := hi.row hm
      obtain ⟨A, r', rfl, hr', hle, hat⟩ := hx
      rw [hr] at hr'; cases hr'
      obtain ⟨b, hb, rfl⟩ := hat hv.symm
      obtain ⟨_, _, hrow⟩ := hblk b hb
      obtain ⟨hlt, hj⟩ := hp
      obtain ⟨c1, c2⟩ := (hrow.nth (List.getElem?_eq_getElem hlt)).cells
      have hg : l.getD i .any = l[i] := by simp [hlt]
      rw [hg]
      obtain ⟨vs, e1, e2, e3⟩ := c2.load (P := P) j n (by omega)
      exact ⟨.agg vs.toArray, by simp [Instr.loadAt, Instr.sureAddr, loadVar, run_isAgg hag, run_sizeOf hn, hrz, e2], vs, rfl, e3⟩
    · cases h
  · cases h

theorem fieldAddrA_run {m : Mem} (hi : Inv X w ρ m) {t : TypeId} {x : AV} {vx : Value} {f : Nat} {z : AV} {p : Prop} (hx : R X w ρ x vx) (h : fieldAddrA P m t x f = some (z, p)) (hp : p) :
    ∃ v, (Instr.fieldAt t vx f).run P w = .ok v w ∧ R X w ρ z v := by
  unfold fieldAddrA at h
  split at h
  · rename_i o u hf
    obtain ⟨fs, x', hu, hx', rfl, rfl⟩ := fOff_some hf
    split at h
    · rename_i n xs j hn
      simp only [Option.some.injEq, Prod.mk.injEq] at h
      obtain ⟨rfl, rfl⟩ := h
      obtain ⟨b, o, rfl, hj, hfr, hr⟩ := hx
      refine ⟨_, by simp [Instr.fieldAt, underlying, hu, hx', Instr.sureAddr, fieldPlace, run_sizeOf hn, Addr.add_none]; rfl, b, o, by simp [Nat.add_assoc], hp, hfr, hr⟩
    · rename_i n id ver i j hn
      split at h <;> simp only [Option.some.injEq, Prod.mk.injEq, reduceCtorEq] at h
      rename_i hv
      obtain ⟨rfl, rfl⟩ := h
      obtain ⟨r, e, hr, hm, hver, b, hb, rfl⟩ := hi.optr hv hx
      refine ⟨_, by simp [Instr.fieldAt, underlying, hu, hx', Instr.sureAddr, fieldPlace, run_sizeOf hn, Addr.add_none]; rfl, _, r, rfl, hr, by omega, fun _ => ⟨b, hb, by simp [Nat.add_assoc]⟩⟩
    · cases h
  · cases h

theorem part_agg {u n o : Nat} {xs : List AV} {vs : List Value} (hag : agg? P u = some true) (hn : tsz P u = some n) (h : Rvals X w ρ xs vs) :
    ∃ v, (part u vs.toArray o).run P w = .ok v w ∧ R X w ρ (.agg ((xs.drop o).take n)) v := by
  refine ⟨.agg (vs.toArray.extract o (o + n)), by simp [part, run_isAgg hag, run_sizeOf hn], (vs.drop o).take n, ?_, (h.drop o).take n⟩
  congr 1
  apply Array.ext'
  simp [List.extract_eq_take_drop, Nat.add_sub_cancel_left]

theorem part_one {u o : Nat} {xs : List AV} {vs : List Value} (hag : agg? P u = some false) (h : Rvals X w ρ xs vs) (ho : o < xs.length) :
    ∃ v, (part u vs.toArray o).run P w = .ok v w ∧ R X w ρ (xs.getD o .any) v := by
  obtain ⟨v, hv, hR⟩ := h.nth (List.getElem?_eq_getElem ho)
  refine ⟨v, by simp [part, run_isAgg hag, hv], ?_⟩
  have : xs.getD o .any = xs[o] := by simp [ho]
  rw [this]; exact hR

theorem fieldA_run {t : TypeId} {x : AV} {vx : Value} {f : Nat} {z : AV} {p : Prop} (hx : R X w ρ x vx) (h : fieldA P t x f = some (z, p)) (hp : p) :
    ∃ v, (Instr.field t vx f).run P w = .ok v w ∧ R X w ρ z v := by
  unfold fieldA at h
  split at h
  · rename_i o u xs hf
    obtain ⟨fs, x', hu, hx', rfl, rfl⟩ := fOff_some hf
    obtain ⟨vs, rfl, hvs⟩ := hx
    split at h
    · rename_i n hag hn
      simp only [Option.some.injEq, Prod.mk.injEq] at h
      obtain ⟨rfl, rfl⟩ := h
      obtain ⟨v, h1, h2⟩ := part_agg (P := P) (o := x'.offset) hag hn hvs
      exact ⟨v, by simp [Instr.field, underlying, hu, hx', asAgg, h1], h2⟩
    · rename_i hag
      simp only [Option.some.injEq, Prod.mk.injEq] at h
      obtain ⟨rfl, rfl⟩ := h
      obtain ⟨v, h1, h2⟩ := part_one (P := P) hag hvs hp
      exact ⟨v, by simp [Instr.field, underlying, hu, hx', asAgg, h1], h2⟩
    · cases h
  · cases h

theorem indexA_run {t : TypeId} {x i : AV} {vx vi : Value} {z : AV} {p : Prop} (hx : R X w ρ x vx) (hiv : R X w ρ i vi) (h : indexA P t x i = some (z, p)) (hp : p) :
    ∃ v, (Instr.index t vx vi).run P w = .ok v w ∧ R X w ρ z v := by
  unfold indexA at h
  split at h
  · rename_i s kk k hu
    simp only [Option.some.injEq, Prod.mk.injEq] at h
    obtain ⟨rfl, rfl⟩ := h
    rw [R_val] at hx hiv; subst hx hiv
    have hlt : k.toNat < s.size := by omega
    have hlt' : k.toNat < s.data.toList.length := by simpa using hlt
    refine ⟨.int .u8 (s[k.toNat]).toNat, ?_, ?_⟩
    · simp [Instr.index, asIntOf, underlying, uk_string hu, hp.1, hlt]
    · show _ = _
      congr 2
      unfold byteAt
      rw [List.getD_eq_getElem?_getD, List.getElem?_eq_getElem hlt']
      simp; rfl
  · rename_i xs kk k
    split at h <;> (try (cases h; done))
    rename_i n e ha
    rw [R_val] at hiv; subst hiv
    obtain ⟨vs, rfl, hvs⟩ := hx
    split at h
    · rename_i sz hag hsz
      simp only [Option.some.injEq, Prod.mk.injEq] at h
      obtain ⟨rfl, rfl⟩ := h
      obtain ⟨v, h1, h2⟩ := part_agg (P := P) (o := k.toNat * sz) hag hsz hvs
      exact ⟨v, by simp [Instr.index, asIntOf, underlying, arT_some ha, hp.1, hp.2, run_sizeOf hsz, h1], h2⟩
    · rename_i sz hag hsz
      simp only [Option.some.injEq, Prod.mk.injEq] at h
      obtain ⟨rfl, rfl⟩ := h
      obtain ⟨⟨h0, hn⟩, hlt⟩ := hp
      obtain ⟨v, h1, h2⟩ := part_one (P := P) hag hvs hlt
      exact ⟨v, by simp [Instr.index, asIntOf, underlying, arT_some ha, h0, hn, run_sizeOf hsz, h1], h2⟩
    · cases h
  · cases h

theorem minA_run {x y : AV} {vx vy : Value} {z : AV} {p : Prop} {ts : Array TypeId} {o : TypeId} (hx : R X w ρ x vx) (hy : R X w ρ y vy) (h : minA x y = some (z, p)) :
    ∃ v, (Builtin.min_ ts o #[vx, vy]).run P w = .ok v w ∧ R X w ρ z v := by
  unfold minA at h
  split at h <;> simp only [Option.some.injEq, Prod.mk.injEq, reduceCtorEq] at h
  obtain ⟨rfl, rfl⟩ := h
  rw [R_val] at hx hy; subst hx hy
  exact ⟨_, by simp [Builtin.min_, Builtin.min2], rfl⟩
theorem maxA_run {x y : AV} {vx vy : Value} {z : AV} {p : Prop} {ts : Array TypeId} {o : TypeId} (hx : R X w ρ x vx) (hy : R X w ρ y vy) (h : maxA x y = some (z, p)) :
    ∃ v, (Builtin.max_ ts o #[vx, vy]).run P w = .ok v w ∧ R X w ρ z v := by
  unfold maxA at h
  split at h <;> simp only [Option.some.injEq, Prod.mk.injEq, reduceCtorEq] at h
  obtain ⟨rfl, rfl⟩ := h
  rw [R_val] at hx hy; subst hx hy
  exact ⟨_, by simp [Builtin.max_, Builtin.max2], rfl⟩

theorem AV.one_cell {x : AV} {v : Value} (h : x.one) (hr : R X w ρ x v) : v.oneCell' = true := by
  cases x <;> simp only [AV.one] at h
  case val u => rw [R_val] at hr; subst hr; exact h
  case lst sz l => obtain ⟨A, c, rfl, _⟩ := hr; rfl
  case osl => obtain ⟨A, c, r, rfl, _⟩ := hr; rfl
  case emp => obtain ⟨A, rfl⟩ := hr; rfl
  case ref => obtain ⟨b, o, rfl, _⟩ := hr; rfl
  case optr => obtain ⟨A, r, rfl, _⟩ := hr; rfl
  case clo => obtain ⟨vs, rfl, _⟩ := hr; rfl
  case bnd => obtain ⟨vs, rfl, _⟩ := hr; rfl
  case yld => obtain ⟨l, r, rfl, _⟩ := hr; rfl
  case omap => obtain ⟨l, r, rfl, _⟩ := hr; rfl

theorem flat_cells {x : AV} {v : Value} (h : x.flat) (hr : R X w ρ x v) : ∃ vs : List Value, v.cells = vs.toArray ∧ Rvals X w ρ x.cells vs ∧ (∀ u ∈ vs, u.oneCell' = true) ∧ vs.length = x.cells.length := by
  have hone : ∀ (xs : List AV) (vs : List Value), Rvals X w ρ xs vs → (∀ x ∈ xs, x.one) → ∀ u ∈ vs, u.oneCell' = true := by
    intro xs
    induction xs with
    | nil => intro vs h _ u hu; cases h; cases hu
    | cons x xs ih =>
      rintro _ ⟨v, vs', rfl, h1, h2⟩ hx u hu
      cases hu with
      | head => exact AV.one_cell (hx x (by simp)) h1
      | tail _ hu => exact ih vs' h2 (fun y hy => hx y (by simp [hy])) u hu
  cases x
  case agg xs =>
    obtain ⟨vs, rfl, hvs⟩ := hr
    exact ⟨vs, rfl, hvs, hone xs vs hvs h, hvs.len⟩
  all_goals
    simp only [AV.flat] at h
    refine ⟨[v], ?_, ⟨v, [], rfl, hr, rfl⟩, fun u hu => ?_, rfl⟩
    · have := AV.one_cell h hr
      cases v <;> simp_all [Value.cells, Value.oneCell']
    · have : u = v := by simpa using hu
      subst this; exact AV.one_cell h hr

theorem zAV_some {t : TypeId} {x : AV} (h : zAV P t = some x) : ∃ v, (zeroValue t).run P w = .ok v w ∧ R X w ρ x v := by
  unfold zAV at h
  have run : ∀ v, tz P t = some v → (zeroValue t).run P w = .ok v w := by
    intro v hv
    unfold tz at hv
    cases hi : P.info? t with
    | none => simp [hi] at hv
    | some i => simp [hi] at hv; simp [zeroValue, typeInfo, hi, hv]
  split at h
  · rename_i cs _ hz
    simp only [Option.some.injEq] at h; subst h
    refine ⟨_, run _ hz, cs.toList, by simp, ?_⟩
    generalize cs.toList = l
    induction l with
    | nil => rfl
    | cons v l ih => exact ⟨v, l, rfl, cst_rel v, ih⟩
  · rename_i v _ hz
    split at h <;> simp only [Option.some.injEq, reduceCtorEq] at h
    subst h
    exact ⟨v, run v hz, cst_rel v⟩
  · cases h


theorem Rvals.append' : ∀ {xs ys : List AV} {vs us : List Value}, Rvals X w ρ xs vs → Rvals X w ρ ys us → Rvals X w ρ (xs ++ ys) (vs ++ us)
  | [], _, _, _, h, k => by cases h; exact k
  | x :: xs, _, _, _, ⟨v, vs', h1, h2, h3⟩, k => ⟨v, vs' ++ _, by rw [h1]; rfl, h2, Rvals.append' h3 k⟩

theorem foldset (off : Nat) : ∀ (us : List Value) (j0 : Nat) (cells : Array Value), off + j0 + us.length ≤ cells.size →
    ((us.zipIdx j0).foldl (fun (cs : Array Value) (cj : Value × Nat) => cs.setIfInBounds (off + cj.2) cj.1) cells).toList = cells.toList.take (off + j0) ++ us ++ cells.toList.drop (off + j0 + us.length)
  | [], j0, cells, _ => by simp
  | u :: us, j0, cells, h => by
    simp only [List.length_cons] at h
    simp only [List.zipIdx_cons, List.foldl_cons]
    rw [foldset off us (j0 + 1) (cells.setIfInBounds (off + j0) u) (by simp; omega)]
    rw [Array.toList_setIfInBounds]
    have hl : off + j0 < cells.toList.length := by simp; omega
    have e1 : (cells.toList.set (off + j0) u).take (off + (j0 + 1)) = cells.toList.take (off + j0) ++ [u] := by
      rw [← Nat.add_assoc, List.take_succ_eq_append_getElem (by simpa using hl), List.take_set_of_le (Nat.le_refl _)]
      simp
    have e2 : (cells.toList.set (off + j0) u).drop (off + (j0 + 1) + us.length) = cells.toList.drop (off + j0 + (us.length + 1)) := by
      rw [List.drop_set_of_lt (by omega)]
      congr 1; omega
    rw [e1, e2]
    simp [List.append_assoc]

theorem fill_run {place : Nat → Option (Nat × Nat)} {pl : List (Nat × Nat)} (hpl : ∀ f q, pl[f]? = some q → place f = some q) {E : Operand → AV} {a : Act} :
    ∀ (parts : List (Nat × Operand)) (zs : List AV) (vs : List Value) (xs : List AV) (p : Prop), (∀ q ∈ parts, R X w ρ (E q.2) (a.eval q.2)) → Rvals X w ρ zs vs → fillA pl E zs parts = some (xs, p) → p →
      ∃ us : List Value, Instr.fill place vs.toArray (parts.map fun q => (q.1, a.eval q.2)) = some us.toArray ∧ Rvals X w ρ xs us
  | [], zs, vs, xs, p, _, hz, h, _ => by
    simp only [fillA, Option.some.injEq, Prod.mk.injEq] at h
    obtain ⟨rfl, _⟩ := h
    exact ⟨vs, rfl, hz⟩
  | (f, x) :: rest, zs, vs, xs, p, ho, hz, h, hp => by
    simp only [fillA] at h
    split at h
    · rename_i o n hf
      split at h
      · rename_i hn
        split at h
        · rename_i ys q hys
          simp only [Option.some.injEq, Prod.mk.injEq] at h
          obtain ⟨rfl, rfl⟩ := h
          obtain ⟨⟨h1, h2⟩, h3⟩ := hp
          obtain ⟨cs, c1, c2, c3, c4⟩ := flat_cells h1 (ho (f, x) (by simp))
          have hzl := hz.len
          have hcl : cs.length = n := by rw [c4, hn]
          obtain ⟨us, u1, u2⟩ := fill_run hpl rest _ (vs.take o ++ cs ++ vs.drop (o + n)) ys q (fun q hq => ho q (by simp [hq])) ((hz.take o).append' c2 |>.append' (hz.drop (o + n))) hys h3
          refine ⟨us, ?_, u2⟩
          simp only [List.map_cons]
          unfold Instr.fill
          rw [hpl f _ hf]
          simp only
          rw [if_neg (by rw [c1]; simp [hcl]; omega)]
          have e : (a.eval x).cells.zipIdx.foldl (fun (cs : Array Value) (y : Value × Nat) => match y with | (c, j) => cs.setIfInBounds (o + j) c) vs.toArray = (vs.take o ++ cs ++ vs.drop (o + n)).toArray := by
            apply Array.ext'
            have := foldset o cs 0 vs.toArray (by simp; omega)
            rw [c1, ← Array.foldl_toList]
            simp only [Nat.add_zero, hcl] at this
            simpa using this
          rw [e]
          exact u1
        · cases h
      · cases h
    · cases h

theorem places_run {t : List Field} : ∀ {pl : List (Nat × Nat)}, (t.mapM fun f => (tsz P f.type).map fun n => (f.offset, n)) = some pl → (t.mapM fun f => (do pure (f.offset, ← sizeOf f.type) : Sem (Nat × Nat))).run P w = .ok pl w := by
  induction t with
  | nil => intro pl h; simp at h; subst h; simp
  | cons f t ih =>
    intro pl h
    rw [List.mapM_cons] at h
    cases hn : tsz P f.type with
    | none => simp [hn] at h
    | some n =>
      cases ht : (t.mapM fun f => (tsz P f.type).map fun n => (f.offset, n)) with
      | none => simp [hn, ht] at h
      | some l =>
        simp [hn, ht] at h
        subst h
        simp only [List.mapM_cons, Sem.run_bind, run_sizeOf hn, Result.andThen_ok, Sem.run_pure, ih ht]

theorem buildA_run {E : Operand → AV} {a : Act} {t : TypeId} {parts : Array (Nat × Operand)} (ho : ∀ q ∈ parts.toList, R X w ρ (E q.2) (a.eval q.2)) {z : AV} {p : Prop} (h : buildA P E t parts.toList = some (z, p)) (hp : p) :
    ∃ v, (Instr.build t (parts.map fun (i, x) => (i, a.eval x))).run P w = .ok v w ∧ R X w ρ z v := by
  unfold buildA at h
  split at h
  · rename_i pl zs hpl hzs
    split at h
    · rename_i xs q hf
      simp only [Option.some.injEq, Prod.mk.injEq] at h
      obtain ⟨rfl, rfl⟩ := h
      obtain ⟨v, z1, vs, rfl, z2⟩ := zAV_some (P := P) (X := X) (w := w) (ρ := ρ) hzs
      have hmap : (parts.map fun (i, x) => (i, a.eval x)).toList = parts.toList.map fun q => (q.1, a.eval q.2) := by simp
      unfold fplaces at hpl
      unfold Instr.build
      split at hpl
      · rename_i fs hu
        obtain ⟨us, u1, u2⟩ := fill_run (place := fun i => pl.toArray[i]?) (fun f q h => by simpa using h) parts.toList zs vs xs q ho z2 hf hp
        refine ⟨.agg us.toArray, ?_, us, rfl, u2⟩
        simp only [Sem.run_bind, z1, Result.andThen_ok, Sem.run_pure, run_underlying hu, Value.cells]
        rw [Array.mapM_eq_mapM_toList]
        simp only [Sem.run_map, places_run hpl, Result.andThen_ok, hmap, u1, Sem.run_pure]
      · rename_i n e hu
        cases hs : tsz P e with
        | none => simp [hs] at hpl
        | some s =>
          simp [hs] at hpl
          subst hpl
          obtain ⟨us, u1, u2⟩ := fill_run (place := fun i => some (i * s, s)) (fun f q h => by
            simp only [List.getElem?_map, Option.map_eq_some_iff] at h
            obtain ⟨i, hi, rfl⟩ := h
            rw [List.getElem?_range] at hi
            · simp at hi; subst hi; rfl
            · have := (List.getElem?_eq_some_iff.1 hi).1; simpa using this) parts.toList zs vs xs q ho z2 hf hp
          refine ⟨.agg us.toArray, ?_, us, rfl, u2⟩
          simp only [Sem.run_bind, z1, Result.andThen_ok, Sem.run_pure, run_underlying hu, Value.cells, run_sizeOf hs, hmap, u1]
      · cases hpl
    · cases h
  · cases h

end Go.Vg
