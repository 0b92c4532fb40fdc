/- A part of the proof of ResetOrders: contracts of functions, with plain laws that they need. -/
import Derived.StillTail
import Derived.Test.YtjhljokghikamaaGreatDoorVgAJ
set_option linter.all false
namespace Go.Vg
open Go.RowKit
variable {P : Program} {X : Nat → Prop} {w : World} {ρ : Rho}
theorem Rrow.nth {sz b : Nat} : ∀ {l : List AV} {o i : Nat} {x : AV}, Rrow X w ρ l sz b o → l[i]? = some x → Re X w ρ x sz b (o + i * sz)
 | [], _, _, _, _, h => by simp at h
 | y :: l, o, 0, x, h, hi => by simp at hi; subst hi; simpa using h.1
 | y :: l, o, i + 1, x, h, hi => by
  have := Rrow.nth (o := o + sz) (i := i) h.2 (by simpa using hi)
  rw [Nat.add_mul, Nat.one_mul]
  rw [show o + (i * sz + sz) = o + sz + i * sz by omega]
  exact this
theorem Re.cells {x : AV} {sz b o : Nat} (h : Re X w ρ x sz b o) : x.cells.length = sz ∧ Rcells X w ρ x.cells b o := by
 cases x <;> simp only [Re, Rp] at h <;> (try exact h.elim)
 case agg xs => exact h
 all_goals
  obtain ⟨h1, v, h2, h3, h4⟩ := h
  exact ⟨h1.symm, ⟨v, h2, h3, h4⟩, trivial⟩
theorem Rcells.nth {b : Nat} : ∀ {xs : List AV} {o j : Nat} {x : AV}, Rcells X w ρ xs b o → xs[j]? = some x → ∃ v, w.cell? ⟨b, o + j, none⟩ = some v ∧ v.oneCell' = true ∧ R X w ρ x v
 | [], _, _, _, _, h => by simp at h
 | y :: xs, o, 0, x, h, hj => by simp at hj; subst hj; simpa using h.1
 | y :: xs, o, j + 1, x, h, hj => by
  have := Rcells.nth (o := o + 1) (j := j) h.2 (by simpa using hj)
  rw [show o + (j + 1) = o + 1 + j by omega]
  exact this
theorem Rcells.drop {b : Nat} : ∀ {xs : List AV} {o : Nat} (j : Nat), Rcells X w ρ xs b o → Rcells X w ρ (xs.drop j) b (o + j)
 | xs, o, 0, h => by simpa using h
 | [], _, j + 1, _ => by simp [Rcells]
 | x :: xs, o, j + 1, h => by
  have := Rcells.drop (o := o + 1) j h.2
  rw [show o + (j + 1) = o + 1 + j by omega]
  simpa using this
theorem Rcells.take {b : Nat} : ∀ {xs : List AV} {o : Nat} (n : Nat), Rcells X w ρ xs b o → Rcells X w ρ (xs.take n) b o
 | xs, o, 0, _ => by simp [Rcells]
 | [], _, n + 1, _ => by simp [Rcells]
 | x :: xs, o, n + 1, h => by simp only [List.take_succ_cons]; exact ⟨h.1, Rcells.take n h.2⟩
theorem Rcells.vals {b : Nat} : ∀ {xs : List AV} {o : Nat}, Rcells X w ρ xs b o → ∃ vs : List Value, vs.length = xs.length ∧ (∀ j v, vs[j]? = some v → w.cell? ⟨b, o + j, none⟩ = some v) ∧ (∀ v ∈ vs, v.oneCell' = true) ∧ Rvals X w ρ xs vs
 | [], _, _ => ⟨[], rfl, by simp, by simp, rfl⟩
 | x :: xs, o, ⟨⟨v, h1, h2, h3⟩, h4⟩ => by
  obtain ⟨vs, e1, e2, e3, e4⟩ := Rcells.vals h4
  refine ⟨v :: vs, by simp [e1], ?_, ?_, ⟨v, vs, rfl, h3, e4⟩⟩
  ·intro j u hj
   cases j with
   | zero => simp at hj; subst hj; exact h1
   | succ j => rw [show o + (j + 1) = o + 1 + j by omega]; exact e2 j u (by simpa using hj)
  ·intro u hu
   cases hu with
   | head => exact h2
   | tail _ hu => exact e3 u hu
theorem Rvals.nth : ∀ {xs : List AV} {vs : List Value} {j : Nat} {x : AV}, Rvals X w ρ xs vs → xs[j]? = some x → ∃ v, vs[j]? = some v ∧ R X w ρ x v
 | [], _, _, _, _, h => by simp at h
 | y :: xs, _, 0, x, ⟨v, vs', rfl, h2, _⟩, hj => by simp at hj; subst hj; exact ⟨v, rfl, h2⟩
 | y :: xs, _, j + 1, x, ⟨v, vs', rfl, _, h3⟩, hj => by
  obtain ⟨u, h1, h2⟩ := Rvals.nth (j := j) h3 (by simpa using hj)
  exact ⟨u, by simpa using h1, h2⟩
theorem Rvals.len : ∀ {xs : List AV} {vs : List Value}, Rvals X w ρ xs vs → vs.length = xs.length
 | [], _, h => by cases h; rfl
 | _ :: xs, _, ⟨v, vs', rfl, _, h3⟩ => by simp [Rvals.len h3]
theorem Rvals.drop : ∀ {xs : List AV} {vs : List Value} (j : Nat), Rvals X w ρ xs vs → Rvals X w ρ (xs.drop j) (vs.drop j)
 | _, _, 0, h => by simpa using h
 | [], _, j + 1, h => by cases h; simp [Rvals]
 | _ :: xs, _, j + 1, ⟨v, vs', rfl, _, h3⟩ => by simpa using Rvals.drop j h3
theorem Rvals.take : ∀ {xs : List AV} {vs : List Value} (n : Nat), Rvals X w ρ xs vs → Rvals X w ρ (xs.take n) (vs.take n)
 | _, _, 0, _ => by simp [Rvals]
 | [], _, n + 1, h => by cases h; simp [Rvals]
 | _ :: xs, _, n + 1, ⟨v, vs', rfl, h2, h3⟩ => ⟨v, vs'.take n, by simp, h2, Rvals.take n h3⟩
theorem Addr.add_none (b o n : Nat) : (⟨b, o, none⟩ : Addr).add n = ⟨b, o + n, none⟩ := by
 unfold Addr.add; split
 ·rename_i h; subst h; simp
 ·rfl
theorem run_loadCells_vals {b o : Nat} {vs : List Value} (h : ∀ j v, vs[j]? = some v → w.cell? ⟨b, o + j, none⟩ = some v) : (loadCells ⟨b, o, none⟩ vs.length).run P w = .ok vs.toArray w :=
 run_loadCells_list (P := P) (w := w) ⟨b, o, none⟩ vs (fun j v hj => by rw [Addr.add_none]; exact h j v hj)
theorem Inv.row {m : Mem} (hi : Inv X w ρ m) {id ver sz : Nat} {l : List AV} (hm : m[id]? = some ⟨ver, .row sz l⟩) : ∃ r, ρ[id]? = some r ∧ r.ver = ver ∧ r.sz = sz ∧ (r.blk = none → l = []) ∧
  ∀ b, r.blk = some b → (∃ arr e fr, w.heap[b]? = some (.cells arr e fr) ∧ arr.size = r.size ∧ fr.2 ≤ fr.1 + 1 ∧ (fr.1 < fr.2 → arr.size ≤ fr.1)) ∧ r.base + l.length * sz ≤ r.size ∧ Rrow X w ρ l sz b r.base := by
 have hlt : id < ρ.length := by rw [hi.len]; exact (List.getElem?_eq_some_iff.1 hm).1
 obtain ⟨h1, h2, h3, h4⟩ := hi.at_ id ρ[id] _ (List.getElem?_eq_getElem hlt) hm
 exact ⟨ρ[id], List.getElem?_eq_getElem hlt, h1, h2, h3, h4⟩
theorem Inv.optr {m : Mem} (hi : Inv X w ρ m) {id ver i j : Nat} {v : Value} (hv : (m[id]?).map (·.ver) = some ver) (hx : R X w ρ (.optr id ver i j) v) :
  ∃ r e, ρ[id]? = some r ∧ m[id]? = some e ∧ r.ver = ver ∧ ∃ b, r.blk = some b ∧ v = .pointer (some ⟨b, r.base + i * r.sz + j, none⟩) := by
 cases hm : m[id]? with
 | none => simp [hm] at hv
 | some e =>
  simp [hm] at hv
  obtain ⟨A, r, rfl, hr, hle, hat⟩ := hx
  have h1 := (hi.at_ id r e hr hm).1
  obtain ⟨b, hb, rfl⟩ := hat (by omega)
  exact ⟨r, e, hr, rfl, by omega, b, hb, rfl⟩
theorem idxA_run {m : Mem} (hi : Inv X w ρ m) {t : TypeId} {x i : AV} {vx vi : Value} {z : AV} {p : Prop} (hx : R X w ρ x vx) (hiv : R X w ρ i vi) (h : idxA P m t x i = some (z, p)) (hp : p) :
  ∃ v, (Instr.indexAt t vx vi).run P w = .ok v w ∧ R X w ρ z v := by
 unfold idxA at h
 split at h
 ·rename_i e sz l kk k hu
  split at h <;> simp only [Option.some.injEq, Prod.mk.injEq, reduceCtorEq] at h
  rename_i hsz
  obtain ⟨rfl, rfl⟩ := h
  rw [R_val] at hiv; subst hiv
  obtain ⟨A, c, rfl, hc1, hc2, hrow⟩ := hx
  have hlt : k.toNat < l.length := by omega
  obtain ⟨b, o, rfl, hf, hs0, hr⟩ := hrow (by intro e; subst e; simp at hlt)
  have hnth := hr.nth (List.getElem?_eq_getElem hlt)
  obtain ⟨c1, c2⟩ := hnth.cells
  refine ⟨_, by simp [Instr.indexAt, asIntOf, underlying, uk_slice hu, hp.1, hp.2, run_sizeOf hsz, Addr.add_none]; rfl, ?_⟩
  have hg : l.getD k.toNat (zav P e) = l[k.toNat] := by simp [hlt]
  rw [hg]
  exact ⟨b, o + k.toNat * sz, by simp, by omega, hf, c2⟩
 ·rename_i e id ver off len kk k hu
  split at h
  ·rename_i v sz l hm
   split at h <;> simp only [Option.some.injEq, Prod.mk.injEq, reduceCtorEq] at h
   rename_i hsz
   obtain ⟨rfl, rfl⟩ := h
   obtain ⟨rfl, hsz⟩ := hsz
   rw [R_val] at hiv; subst hiv
   obtain ⟨r, hr, hv, hrz, hnone, hblk⟩ := hi.row hm
   obtain ⟨A, c, r', rfl, hr', hle, hat⟩ := hx
   rw [hr] at hr'; cases hr'
   obtain ⟨hl, hc, hpos⟩ := hat hv.symm
   obtain ⟨b, hb, rfl, hfit⟩ := hpos (by omega)
   refine ⟨_, by simp [Instr.indexAt, asIntOf, underlying, uk_slice hu, hp.1, hp.2, run_sizeOf hsz, Addr.add_none]; rfl, ?_⟩
   refine ⟨_, r, rfl, hr, by omega, fun _ => ⟨b, hb, ?_⟩⟩
   rw [hrz, Nat.add_mul]
   simp only [Nat.add_zero]
   congr 2; omega
  ·cases h
 ·rename_i xs j kk k
  split at h <;> (try (cases h; done))
  rename_i n e ha
  split at h <;> (try (cases h; done))
  rename_i sz hsz
  simp only [Option.some.injEq, Prod.mk.injEq] at h
  obtain ⟨rfl, rfl⟩ := h
  obtain ⟨⟨h0, hn⟩, hlt⟩ := hp
  rw [R_val] at hiv; subst hiv
  obtain ⟨b, o, rfl, hj, hf, hr⟩ := hx
  refine ⟨_, by simp [Instr.indexAt, asIntOf, underlying, arT_some ha, Instr.sureAddr, h0, hn, run_sizeOf hsz, Addr.add_none]; rfl, ?_⟩
  exact ⟨b, o, by rw [Nat.add_assoc], hlt, hf, hr⟩
 ·rename_i id ver i0 j kk k
  split at h <;> (try (cases h; done))
  rename_i n e ha
  split at h <;> (try (cases h; done))
  rename_i sz hsz
  split at h <;> (try (cases h; done))
  rename_i hm
  simp only [Option.some.injEq, Prod.mk.injEq] at h
  obtain ⟨rfl, rfl⟩ := h
  obtain ⟨h0, hn⟩ := hp
  rw [R_val] at hiv; subst hiv
  obtain ⟨r, e', hr, he, hv, b, hb, rfl⟩ := hi.optr hm hx
  refine ⟨_, by simp [Instr.indexAt, asIntOf, underlying, arT_some ha, Instr.sureAddr, h0, hn, run_sizeOf hsz, Addr.add_none]; rfl, ?_⟩
  exact ⟨_, r, rfl, hr, by omega, fun _ => ⟨b, hb, by rw [Nat.add_assoc]⟩⟩
 ·cases h
theorem Rcells.load {b o : Nat} {xs : List AV} (h : Rcells X w ρ xs b o) (j n : Nat) (hj : j + n ≤ xs.length) :
  ∃ vs : List Value, vs.length = n ∧ (loadCells ⟨b, o + j, none⟩ n).run P w = .ok vs.toArray w ∧ Rvals X w ρ ((xs.drop j).take n) vs := by
 obtain ⟨vs, e1, e2, _, e4⟩ := ((h.drop j).take n).vals
 have hn : vs.length = n := by rw [e1]; simp; omega
 refine ⟨vs, hn, ?_, e4⟩
 have := run_loadCells_vals (P := P) e2
 rw [hn] at this; exact this
theorem loadA_run {m : Mem} (hi : Inv X w ρ m) {t : TypeId} {x : AV} {vx : Value} {z : AV} {p : Prop} (hx : R X w ρ x vx) (h : loadA P m t x = some (z, p)) (hp : p) :
  ∃ v, (Instr.loadAt t vx).run P w = .ok v w ∧ R X w ρ z v := by
 unfold loadA at h
 split at h
 ·rename_i xs j hag
  simp only [Option.some.injEq, Prod.mk.injEq] at h
  obtain ⟨rfl, rfl⟩ := h
  obtain ⟨b, o, rfl, hj, hf, hr⟩ := hx
  obtain ⟨v, hv, h1, hR⟩ := hr.nth (List.getElem?_eq_getElem hj)
  refine ⟨v, by simp [Instr.loadAt, Instr.sureAddr, loadVar, run_isAgg hag, hv], ?_⟩
  have : xs.getD j .any = xs[j] := by simp [hj]
  rw [this]; exact hR
 ·rename_i n xs j hag hn
  simp only [Option.some.injEq, Prod.mk.injEq] at h
  obtain ⟨rfl, rfl⟩ := h
  obtain ⟨b, o, rfl, hj, hf, hr⟩ := hx
  obtain ⟨vs, e1, e2, e3⟩ := hr.load (P := P) j n hp
  exact ⟨.agg vs.toArray, by simp [Instr.loadAt, Instr.sureAddr, loadVar, run_isAgg hag, run_sizeOf hn, e2], vs, rfl, e3⟩
 ·rename_i id ver i j hag
  split at h
  ·rename_i v sz l hm
   split at h <;> simp only [Option.some.injEq, Prod.mk.injEq, reduceCtorEq] at h
   rename_i hv; subst hv
   obtain ⟨rfl, rfl⟩ := h
   obtain ⟨r, hr, hv, hrz, hnone, hblk⟩ := hi.row hm
   obtain ⟨A, r', rfl, hr', hle, hat⟩ := hx
   rw [hr] at hr'; cases hr'
   obtain ⟨b, hb, rfl⟩ := hat hv.symm
   obtain ⟨_, _, hrow⟩ := hblk b hb
   obtain ⟨hlt, hj⟩ := hp
   obtain ⟨c1, c2⟩ := (hrow.nth (List.getElem?_eq_getElem hlt)).cells
   have hg : l.getD i (zav P t) = l[i] := by simp [hlt]
   rw [hg]
   obtain ⟨v, hv, h1, hR⟩ := c2.nth (List.getElem?_eq_getElem (show j < l[i].cells.length by omega))
   refine ⟨v, by simp [Instr.loadAt, Instr.sureAddr, loadVar, run_isAgg hag, hrz, hv], ?_⟩
   have : l[i].cells.getD j .any = l[i].cells[j] := by
    rw [List.getD_eq_getElem?_getD, List.getElem?_eq_getElem (show j < l[i].cells.length by omega)]; rfl
   rw [this]; exact hR
  ·cases h
 ·rename_i n id ver i j hag hn
  split at h
  ·rename_i v sz l hm
   split at h <;> simp only [Option.some.injEq, Prod.mk.injEq, reduceCtorEq] at h
   rename_i hv; subst hv
   obtain ⟨rfl, rfl⟩ := h
   obtain ⟨r, hr, hv, hrz, hnone, hblk⟩ := hi.row hm
   obtain ⟨A, r', rfl, hr', hle, hat⟩ := hx
   rw [hr] at hr'; cases hr'
   obtain ⟨b, hb, rfl⟩ := hat hv.symm
   obtain ⟨_, _, hrow⟩ := hblk b hb
   obtain ⟨hlt, hj⟩ := hp
   obtain ⟨c1, c2⟩ := (hrow.nth (List.getElem?_eq_getElem hlt)).cells
   have hg : l.getD i .any = l[i] := by simp [hlt]
   rw [hg]
   obtain ⟨vs, e1, e2, e3⟩ := c2.load (P := P) j n (by omega)
   exact ⟨.agg vs.toArray, by simp [Instr.loadAt, Instr.sureAddr, loadVar, run_isAgg hag, run_sizeOf hn, hrz, e2], vs, rfl, e3⟩
  ·cases h
 ·cases h
theorem fieldAddrA_run {m : Mem} (hi : Inv X w ρ m) {t : TypeId} {x : AV} {vx : Value} {f : Nat} {z : AV} {p : Prop} (hx : R X w ρ x vx) (h : fieldAddrA P m t x f = some (z, p)) (hp : p) :
  ∃ v, (Instr.fieldAt t vx f).run P w = .ok v w ∧ R X w ρ z v := by
 unfold fieldAddrA at h
 split at h
 ·rename_i o u hf
  obtain ⟨fs, x', hu, hx', rfl, rfl⟩ := fOff_some hf
  split at h
  ·rename_i n xs j hn
   simp only [Option.some.injEq, Prod.mk.injEq] at h
   obtain ⟨rfl, rfl⟩ := h
   obtain ⟨b, o, rfl, hj, hfr, hr⟩ := hx
   refine ⟨_, by simp [Instr.fieldAt, underlying, hu, hx', Instr.sureAddr, fieldPlace, run_sizeOf hn, Addr.add_none]; rfl, b, o, by simp [Nat.add_assoc], hp, hfr, hr⟩
  ·rename_i n id ver i j hn
   split at h <;> simp only [Option.some.injEq, Prod.mk.injEq, reduceCtorEq] at h
   rename_i hv
   obtain ⟨rfl, rfl⟩ := h
   obtain ⟨r, e, hr, hm, hver, b, hb, rfl⟩ := hi.optr hv hx
   refine ⟨_, by simp [Instr.fieldAt, underlying, hu, hx', Instr.sureAddr, fieldPlace, run_sizeOf hn, Addr.add_none]; rfl, _, r, rfl, hr, by omega, fun _ => ⟨b, hb, by simp [Nat.add_assoc]⟩⟩
  ·cases h
 ·cases h
theorem part_agg {u n o : Nat} {xs : List AV} {vs : List Value} (hag : agg? P u = some true) (hn : tsz P u = some n) (h : Rvals X w ρ xs vs) :
  ∃ v, (part u vs.toArray o).run P w = .ok v w ∧ R X w ρ (.agg ((xs.drop o).take n)) v := by
 refine ⟨.agg (vs.toArray.extract o (o + n)), by simp [part, run_isAgg hag, run_sizeOf hn], (vs.drop o).take n, ?_, (h.drop o).take n⟩
 congr 1
 apply Array.ext'
 simp [List.extract_eq_take_drop, Nat.add_sub_cancel_left]
theorem part_one {u o : Nat} {xs : List AV} {vs : List Value} (hag : agg? P u = some false) (h : Rvals X w ρ xs vs) (ho : o < xs.length) :
  ∃ v, (part u vs.toArray o).run P w = .ok v w ∧ R X w ρ (xs.getD o .any) v := by
 obtain ⟨v, hv, hR⟩ := h.nth (List.getElem?_eq_getElem ho)
 refine ⟨v, by simp [part, run_isAgg hag, hv], ?_⟩
 have : xs.getD o .any = xs[o] := by simp [ho]
 rw [this]; exact hR
theorem fieldA_run {t : TypeId} {x : AV} {vx : Value} {f : Nat} {z : AV} {p : Prop} (hx : R X w ρ x vx) (h : fieldA P t x f = some (z, p)) (hp : p) :
  ∃ v, (Instr.field t vx f).run P w = .ok v w ∧ R X w ρ z v := by
 unfold fieldA at h
 split at h
 ·rename_i o u xs hf
  obtain ⟨fs, x', hu, hx', rfl, rfl⟩ := fOff_some hf
  obtain ⟨vs, rfl, hvs⟩ := hx
  split at h
  ·rename_i n hag hn
   simp only [Option.some.injEq, Prod.mk.injEq] at h
   obtain ⟨rfl, rfl⟩ := h
   obtain ⟨v, h1, h2⟩ := part_agg (P := P) (o := x'.offset) hag hn hvs
   exact ⟨v, by simp [Instr.field, underlying, hu, hx', asAgg, h1], h2⟩
  ·rename_i hag
   simp only [Option.some.injEq, Prod.mk.injEq] at h
   obtain ⟨rfl, rfl⟩ := h
   obtain ⟨v, h1, h2⟩ := part_one (P := P) hag hvs hp
   exact ⟨v, by simp [Instr.field, underlying, hu, hx', asAgg, h1], h2⟩
  ·cases h
 ·cases h
theorem indexA_run {t : TypeId} {x i : AV} {vx vi : Value} {z : AV} {p : Prop} (hx : R X w ρ x vx) (hiv : R X w ρ i vi) (h : indexA P t x i = some (z, p)) (hp : p) :
  ∃ v, (Instr.index t vx vi).run P w = .ok v w ∧ R X w ρ z v := by
 unfold indexA at h
 split at h
 ·rename_i s kk k hu
  simp only [Option.some.injEq, Prod.mk.injEq] at h
  obtain ⟨rfl, rfl⟩ := h
  rw [R_val] at hx hiv; subst hx hiv
  have hlt : k.toNat < s.size := by omega
  have hlt' : k.toNat < s.data.toList.length := by simpa using hlt
  refine ⟨.int .u8 (s[k.toNat]).toNat, ?_, ?_⟩
  ·simp [Instr.index, asIntOf, underlying, uk_string hu, hp.1, hlt]
  ·show _ = _
   congr 2
   unfold byteAt
   rw [List.getD_eq_getElem?_getD, List.getElem?_eq_getElem hlt']
   simp; rfl
 ·rename_i xs kk k
  split at h <;> (try (cases h; done))
  rename_i n e ha
  rw [R_val] at hiv; subst hiv
  obtain ⟨vs, rfl, hvs⟩ := hx
  split at h
  ·rename_i sz hag hsz
   simp only [Option.some.injEq, Prod.mk.injEq] at h
   obtain ⟨rfl, rfl⟩ := h
   obtain ⟨v, h1, h2⟩ := part_agg (P := P) (o := k.toNat * sz) hag hsz hvs
   exact ⟨v, by simp [Instr.index, asIntOf, underlying, arT_some ha, hp.1, hp.2, run_sizeOf hsz, h1], h2⟩
  ·rename_i sz hag hsz
   simp only [Option.some.injEq, Prod.mk.injEq] at h
   obtain ⟨rfl, rfl⟩ := h
   obtain ⟨⟨h0, hn⟩, hlt⟩ := hp
   obtain ⟨v, h1, h2⟩ := part_one (P := P) hag hvs hlt
   exact ⟨v, by simp [Instr.index, asIntOf, underlying, arT_some ha, h0, hn, run_sizeOf hsz, h1], h2⟩
  ·cases h
 ·cases h
theorem minA_run {x y : AV} {vx vy : Value} {z : AV} {p : Prop} {ts : Array TypeId} {o : TypeId} (hx : R X w ρ x vx) (hy : R X w ρ y vy) (h : minA x y = some (z, p)) :
  ∃ v, (Builtin.min_ ts o #[vx, vy]).run P w = .ok v w ∧ R X w ρ z v := by
 unfold minA at h
 split at h <;> simp only [Option.some.injEq, Prod.mk.injEq, reduceCtorEq] at h
 obtain ⟨rfl, rfl⟩ := h
 rw [R_val] at hx hy; subst hx hy
 exact ⟨_, by simp [Builtin.min_, Builtin.min2], rfl⟩
theorem maxA_run {x y : AV} {vx vy : Value} {z : AV} {p : Prop} {ts : Array TypeId} {o : TypeId} (hx : R X w ρ x vx) (hy : R X w ρ y vy) (h : maxA x y = some (z, p)) :
  ∃ v, (Builtin.max_ ts o #[vx, vy]).run P w = .ok v w ∧ R X w ρ z v := by
 unfold maxA at h
 split at h <;> simp only [Option.some.injEq, Prod.mk.injEq, reduceCtorEq] at h
 obtain ⟨rfl, rfl⟩ := h
 rw [R_val] at hx hy; subst hx hy
 exact ⟨_, by simp [Builtin.max_, Builtin.max2], rfl⟩
theorem AV.one_cell {x : AV} {v : Value} (h : x.one) (hr : R X w ρ x v) : v.oneCell' = true := by
 cases x <;> simp only [AV.one] at h
 case val u => rw [R_val] at hr; subst hr; exact h
 case lst sz l => obtain ⟨A, c, rfl, _⟩ := hr; rfl
 case osl => obtain ⟨A, c, r, rfl, _⟩ := hr; rfl
 case emp => obtain ⟨A, rfl⟩ := hr; rfl
 case ref => obtain ⟨b, o, rfl, _⟩ := hr; rfl
 case optr => obtain ⟨A, r, rfl, _⟩ := hr; rfl
 case clo => obtain ⟨vs, rfl, _⟩ := hr; rfl
 case bnd => obtain ⟨vs, rfl, _⟩ := hr; rfl
 case yld => obtain ⟨l, r, rfl, _⟩ := hr; rfl
 case omap => obtain ⟨l, r, rfl, _⟩ := hr; rfl
theorem flat_cells {x : AV} {v : Value} (h : x.flat) (hr : R X w ρ x v) : ∃ vs : List Value, v.cells = vs.toArray ∧ Rvals X w ρ x.cells vs ∧ (∀ u ∈ vs, u.oneCell' = true) ∧ vs.length = x.cells.length := by
 have hone : ∀ (xs : List AV) (vs : List Value), Rvals X w ρ xs vs → (∀ x ∈ xs, x.one) → ∀ u ∈ vs, u.oneCell' = true := by
  intro xs
  induction xs with
  | nil => intro vs h _ u hu; cases h; cases hu
  | cons x xs ih =>
   rintro _ ⟨v, vs', rfl, h1, h2⟩ hx u hu
   cases hu with
   | head => exact AV.one_cell (hx x (by simp)) h1
   | tail _ hu => exact ih vs' h2 (fun y hy => hx y (by simp [hy])) u hu
 cases x
 case agg xs =>
  obtain ⟨vs, rfl, hvs⟩ := hr
  exact ⟨vs, rfl, hvs, hone xs vs hvs h, hvs.len⟩
 all_goals
  simp only [AV.flat] at h
  refine ⟨[v], ?_, ⟨v, [], rfl, hr, rfl⟩, fun u hu => ?_, rfl⟩
  ·have := AV.one_cell h hr
   cases v <;> simp_all [Value.cells, Value.oneCell']
  ·have : u = v := by simpa using hu
   subst this; exact AV.one_cell h hr
theorem zAV_some {t : TypeId} {x : AV} (h : zAV P t = some x) : ∃ v, (zeroValue t).run P w = .ok v w ∧ R X w ρ x v := by
 unfold zAV at h
 have run : ∀ v, tz P t = some v → (zeroValue t).run P w = .ok v w := by
  intro v hv
  unfold tz at hv
  cases hi : P.info? t with
  | none => simp [hi] at hv
  | some i => simp [hi] at hv; simp [zeroValue, typeInfo, hi, hv]
 split at h
 ·rename_i cs _ hz
  simp only [Option.some.injEq] at h; subst h
  refine ⟨_, run _ hz, cs.toList, by simp, ?_⟩
  generalize cs.toList = l
  induction l with
  | nil => rfl
  | cons v l ih => exact ⟨v, l, rfl, cst_rel v, ih⟩
 ·rename_i v _ hz
  split at h <;> simp only [Option.some.injEq, reduceCtorEq] at h
  subst h
  exact ⟨v, run v hz, cst_rel v⟩
 ·cases h
theorem Rvals.append' : ∀ {xs ys : List AV} {vs us : List Value}, Rvals X w ρ xs vs → Rvals X w ρ ys us → Rvals X w ρ (xs ++ ys) (vs ++ us)
 | [], _, _, _, h, k => by cases h; exact k
 | x :: xs, _, _, _, ⟨v, vs', h1, h2, h3⟩, k => ⟨v, vs' ++ _, by rw [h1]; rfl, h2, Rvals.append' h3 k⟩
theorem foldset (off : Nat) : ∀ (us : List Value) (j0 : Nat) (cells : Array Value), off + j0 + us.length ≤ cells.size →
  ((us.zipIdx j0).foldl (fun (cs : Array Value) (cj : Value × Nat) => cs.setIfInBounds (off + cj.2) cj.1) cells).toList = cells.toList.take (off + j0) ++ us ++ cells.toList.drop (off + j0 + us.length)
 | [], j0, cells, _ => by simp
 | u :: us, j0, cells, h => by
  simp only [List.length_cons] at h
  simp only [List.zipIdx_cons, List.foldl_cons]
  rw [foldset off us (j0 + 1) (cells.setIfInBounds (off + j0) u) (by simp; omega)]
  rw [Array.toList_setIfInBounds]
  have hl : off + j0 < cells.toList.length := by simp; omega
  have e1 : (cells.toList.set (off + j0) u).take (off + (j0 + 1)) = cells.toList.take (off + j0) ++ [u] := by
   rw [← Nat.add_assoc, List.take_succ_eq_append_getElem (by simpa using hl), List.take_set_of_le (Nat.le_refl _)]
   simp
  have e2 : (cells.toList.set (off + j0) u).drop (off + (j0 + 1) + us.length) = cells.toList.drop (off + j0 + (us.length + 1)) := by
   rw [List.drop_set_of_lt (by omega)]
   congr 1; omega
  rw [e1, e2]
  simp [List.append_assoc]
theorem fill_run {place : Nat → Option (Nat × Nat)} {pl : List (Nat × Nat)} (hpl : ∀ f q, pl[f]? = some q → place f = some q) {E : Operand → AV} {a : Act} :
  ∀ (parts : List (Nat × Operand)) (zs : List AV) (vs : List Value) (xs : List AV) (p : Prop), (∀ q ∈ parts, R X w ρ (E q.2) (a.eval q.2)) → Rvals X w ρ zs vs → fillA pl E zs parts = some (xs, p) → p →
   ∃ us : List Value, Instr.fill place vs.toArray (parts.map fun q => (q.1, a.eval q.2)) = some us.toArray ∧ Rvals X w ρ xs us
 | [], zs, vs, xs, p, _, hz, h, _ => by
  simp only [fillA, Option.some.injEq, Prod.mk.injEq] at h
  obtain ⟨rfl, _⟩ := h
  exact ⟨vs, rfl, hz⟩
 | (f, x) :: rest, zs, vs, xs, p, ho, hz, h, hp => by
  simp only [fillA] at h
  split at h
  ·rename_i o n hf
   split at h
   ·rename_i hn
    split at h
    ·rename_i ys q hys
     simp only [Option.some.injEq, Prod.mk.injEq] at h
     obtain ⟨rfl, rfl⟩ := h
     obtain ⟨⟨h1, h2⟩, h3⟩ := hp
     obtain ⟨cs, c1, c2, c3, c4⟩ := flat_cells h1 (ho (f, x) (by simp))
     have hzl := hz.len
     have hcl : cs.length = n := by rw [c4, hn]
     obtain ⟨us, u1, u2⟩ := fill_run hpl rest _ (vs.take o ++ cs ++ vs.drop (o + n)) ys q (fun q hq => ho q (by simp [hq])) ((hz.take o).append' c2 |>.append' (hz.drop (o + n))) hys h3
     refine ⟨us, ?_, u2⟩
     simp only [List.map_cons]
     unfold Instr.fill
     rw [hpl f _ hf]
     simp only
     rw [if_neg (by rw [c1]; simp [hcl]; omega)]
     have e : (a.eval x).cells.zipIdx.foldl (fun (cs : Array Value) (y : Value × Nat) => match y with | (c, j) => cs.setIfInBounds (o + j) c) vs.toArray = (vs.take o ++ cs ++ vs.drop (o + n)).toArray := by
      apply Array.ext'
      have := foldset o cs 0 vs.toArray (by simp; omega)
      rw [c1, ← Array.foldl_toList]
      simp only [Nat.add_zero, hcl] at this
      simpa using this
     rw [e]
     exact u1
    ·cases h
   ·cases h
  ·cases h
theorem places_run {t : List Field} : ∀ {pl : List (Nat × Nat)}, (t.mapM fun f => (tsz P f.type).map fun n => (f.offset, n)) = some pl → (t.mapM fun f => (do pure (f.offset, ← sizeOf f.type) : Sem (Nat × Nat))).run P w = .ok pl w := by
 induction t with
 | nil => intro pl h; simp at h; subst h; simp
 | cons f t ih =>
  intro pl h
  rw [List.mapM_cons] at h
  cases hn : tsz P f.type with
  | none => simp [hn] at h
  | some n =>
   cases ht : (t.mapM fun f => (tsz P f.type).map fun n => (f.offset, n)) with
   | none => simp [hn, ht] at h
   | some l =>
    simp [hn, ht] at h
    subst h
    simp only [List.mapM_cons, Sem.run_bind, run_sizeOf hn, Result.andThen_ok, Sem.run_pure, ih ht]
theorem buildA_run {E : Operand → AV} {a : Act} {t : TypeId} {parts : Array (Nat × Operand)} (ho : ∀ q ∈ parts.toList, R X w ρ (E q.2) (a.eval q.2)) {z : AV} {p : Prop} (h : buildA P E t parts.toList = some (z, p)) (hp : p) :
  ∃ v, (Instr.build t (parts.map fun (i, x) => (i, a.eval x))).run P w = .ok v w ∧ R X w ρ z v := by
 unfold buildA at h
 split at h
 ·rename_i pl zs hpl hzs
  split at h
  ·rename_i xs q hf
   simp only [Option.some.injEq, Prod.mk.injEq] at h
   obtain ⟨rfl, rfl⟩ := h
   obtain ⟨v, z1, vs, rfl, z2⟩ := zAV_some (P := P) (X := X) (w := w) (ρ := ρ) hzs
   have hmap : (parts.map fun (i, x) => (i, a.eval x)).toList = parts.toList.map fun q => (q.1, a.eval q.2) := by simp
   unfold fplaces at hpl
   unfold Instr.build
   split at hpl
   ·rename_i fs hu
    obtain ⟨us, u1, u2⟩ := fill_run (place := fun i => pl.toArray[i]?) (fun f q h => by simpa using h) parts.toList zs vs xs q ho z2 hf hp
    refine ⟨.agg us.toArray, ?_, us, rfl, u2⟩
    simp only [Sem.run_bind, z1, Result.andThen_ok, Sem.run_pure, run_underlying hu, Value.cells]
    rw [Array.mapM_eq_mapM_toList]
    simp only [Sem.run_map, places_run hpl, Result.andThen_ok, hmap, u1, Sem.run_pure]
   ·rename_i n e hu
    cases hs : tsz P e with
    | none => simp [hs] at hpl
    | some s =>
     simp [hs] at hpl
     subst hpl
     obtain ⟨us, u1, u2⟩ := fill_run (place := fun i => some (i * s, s)) (fun f q h => by
      simp only [List.getElem?_map, Option.map_eq_some_iff] at h
      obtain ⟨i, hi, rfl⟩ := h
      rw [List.getElem?_range] at hi
      ·simp at hi; subst hi; rfl
      ·have := (List.getElem?_eq_some_iff.1 hi).1; simpa using this) parts.toList zs vs xs q ho z2 hf hp
     refine ⟨.agg us.toArray, ?_, us, rfl, u2⟩
     simp only [Sem.run_bind, z1, Result.andThen_ok, Sem.run_pure, run_underlying hu, Value.cells, run_sizeOf hs, hmap, u1]
   ·cases hpl
  ·cases h
 ·cases h
end Go.Vg
namespace Go.Vg
open Go.RowKit
variable {P : Program} {X : Nat → Prop} {w : World} {ρ : Rho}
theorem Rrow.drop {sz b : Nat} : ∀ {l : List AV} {o : Nat} (j : Nat), Rrow X w ρ l sz b o → Rrow X w ρ (l.drop j) sz b (o + j * sz)
 | l, o, 0, h => by simpa using h
 | [], _, j + 1, _ => by simp [Rrow]
 | x :: l, o, j + 1, h => by
  have := Rrow.drop (o := o + sz) j h.2
  rw [show o + (j + 1) * sz = o + sz + j * sz by rw [Nat.add_mul]; omega]
  simpa using this
theorem Rrow.take {sz b : Nat} : ∀ {l : List AV} {o : Nat} (n : Nat), Rrow X w ρ l sz b o → Rrow X w ρ (l.take n) sz b o
 | l, o, 0, _ => by simp [Rrow]
 | [], _, n + 1, _ => by simp [Rrow]
 | x :: l, o, n + 1, h => by simp only [List.take_succ_cons]; exact ⟨h.1, Rrow.take n h.2⟩
theorem Rrow.append {sz b : Nat} : ∀ {l l' : List AV} {o : Nat}, Rrow X w ρ l sz b o → Rrow X w ρ l' sz b (o + l.length * sz) → Rrow X w ρ (l ++ l') sz b o
 | [], _, _, _, h => by simpa using h
 | x :: l, l', o, h, h' => by
  refine ⟨h.1, Rrow.append h.2 ?_⟩
  rw [show o + sz + l.length * sz = o + (x :: l).length * sz by simp [Nat.add_mul]; omega]
  exact h'
theorem run_bounds {isS : Bool} {len cap : Nat} {lo hi : Option AV} {vlo vhi : Option Value} {a b : Int} (hlo : ∀ x, lo = some x → ∃ v, vlo = some v ∧ R X w ρ x v) (hlo' : lo = none → vlo = none)
  (hhi : ∀ x, hi = some x → ∃ v, vhi = some v ∧ R X w ρ x v) (hhi' : hi = none → vhi = none) (h1 : loOf lo = some a) (h2 : hiOf len hi = some b) (h0 : 0 ≤ a) (hab : a ≤ b) (hb : b ≤ (len : Int)) (hc : len ≤ cap) :
  (Instr.sliceBounds isS len cap vlo vhi none).run P w = .ok (a.toNat, b.toNat, cap) w := by
 have shi : (hi = none ∧ vhi = none ∧ b = (len : Int)) ∨ ∃ k, vhi = some (.int k b) := by
  cases hi with
  | none => simp only [hiOf, Option.some.injEq] at h2; exact .inl ⟨rfl, hhi' rfl, h2.symm⟩
  | some x =>
   obtain ⟨v, rfl, hv⟩ := hhi x rfl
   cases x <;> simp only [hiOf, reduceCtorEq] at h2
   rename_i u
   rw [R_val] at hv; subst hv
   cases v <;> simp only [reduceCtorEq, Option.some.injEq] at h2
   subst h2; exact .inr ⟨_, rfl⟩
 have slo : (lo = none ∧ vlo = none ∧ a = 0) ∨ ∃ k, vlo = some (.int k a) := by
  cases lo with
  | none => simp only [loOf, Option.some.injEq] at h1; exact .inl ⟨rfl, hlo' rfl, h1.symm⟩
  | some x =>
   obtain ⟨v, rfl, hv⟩ := hlo x rfl
   cases x <;> simp only [loOf, reduceCtorEq] at h1
   rename_i u
   rw [R_val] at hv; subst hv
   cases v <;> simp only [reduceCtorEq, Option.some.injEq] at h1
   subst h1; exact .inr ⟨_, rfl⟩
 have b1 : 0 ≤ b := by omega
 have b2 : b ≤ (cap : Int) := by omega
 have b3 : a ≤ (b.toNat : Int) := by omega
 rcases slo with ⟨_, rfl, rfl⟩ | ⟨k, rfl⟩ <;> rcases shi with ⟨_, rfl, rfl⟩ | ⟨k', rfl⟩
 ·simp [Instr.sliceBounds]
 ·simp [Instr.sliceBounds, Instr.sliceBound, asIntOf, b1, b2]
 ·have b4 : a ≤ (len : Int) := by omega
  simp [Instr.sliceBounds, Instr.sliceBound, asIntOf, h0, b4]
 ·simp only [Instr.sliceBounds, Instr.sliceBound, asIntOf, Sem.run_bind, Sem.run_pure, Result.andThen_ok, Sem.run_ite, b1, b2, and_self, if_true, h0, b3, Option.isSome_none, Bool.false_eq_true, if_false]
theorem cutL_eq {lo hi : Option AV} {l : List AV} {a b : Int} (h1 : loOf lo = some a) (h2 : hiOf l.length hi = some b) : cutL lo hi l a b = (l.take b.toNat).drop a.toNat := by
 cases lo <;> cases hi <;> simp only [loOf, hiOf, Option.some.injEq] at h1 h2 <;> simp only [cutL]
 ·subst h1 h2; simp
 ·subst h1; simp
 ·subst h2; simp
theorem sliceA_run {m : Mem} (hi : Inv X w ρ m) {t : TypeId} {x : AV} {lo hi' mx : Option AV} {vx : Value} {vlo vhi vmx : Option Value} {z : AV} {p : Prop} (hx : R X w ρ x vx)
  (hlo : ∀ x, lo = some x → ∃ v, vlo = some v ∧ R X w ρ x v) (hlo' : lo = none → vlo = none)
  (hhi : ∀ x, hi' = some x → ∃ v, vhi = some v ∧ R X w ρ x v) (hhi' : hi' = none → vhi = none)
  (hmx : ∀ x, mx = some x → ∃ v, vmx = some v ∧ R X w ρ x v) (hmx' : mx = none → vmx = none)
  (h : sliceA P m t x lo hi' mx = some (z, p)) (hp : p) :
  ∃ v, (Instr.sliceAt t vx vlo vhi vmx).run P w = .ok v w ∧ R X w ρ z v := by
 have zero : ∀ {A : Option Addr} {len c : Nat} {e : TypeId} {kk kk' : IntKind}, uk P t = .slice e → lo = none → hi' = some (.val (.int kk 0)) → mx = some (.val (.int kk' 0)) → vx = .slice A len c → (∃ sz, tsz P e = some sz) →
   ∃ v, (Instr.sliceAt t vx vlo vhi vmx).run P w = .ok v w ∧ R X w ρ .emp v := by
  intro A len c e kk kk' hu h1 h2 h3 h4 ⟨sz, hsz⟩
  subst h4
  obtain ⟨v1, rfl, e1⟩ := hhi _ h2
  obtain ⟨v2, rfl, e2⟩ := hmx _ h3
  rw [R_val] at e1 e2; subst e1 e2
  rw [hlo' h1]
  refine ⟨.slice A 0 0, ?_, A, rfl⟩
  simp [Instr.sliceAt, underlying, uk_slice hu, Instr.slice, Instr.sliceBounds, Instr.sliceBound, asIntOf, run_sizeOf hsz]
 unfold sliceA at h
 split at h
 ·rename_i s hu
  rw [hmx' rfl]
  split at h <;> simp only [Option.some.injEq, Prod.mk.injEq, reduceCtorEq] at h
  rename_i a b ha hb
  obtain ⟨rfl, rfl⟩ := h
  rw [R_val] at hx; subst hx
  refine ⟨_, ?_, rfl⟩
  have := run_bounds (P := P) (isS := false) (cap := s.size) hlo hlo' hhi hhi' ha hb hp.1 hp.2.1 hp.2.2 (Nat.le_refl _)
  simp [Instr.sliceAt, underlying, uk_string hu, Instr.slice, this]
 ·rename_i e sz l hu
  rw [hmx' rfl]
  split at h <;> (try (cases h; done))
  rename_i hsz
  split at h <;> simp only [Option.some.injEq, Prod.mk.injEq, reduceCtorEq] at h
  rename_i a b ha hb
  obtain ⟨rfl, rfl⟩ := h
  obtain ⟨A, c, rfl, hc1, hc2, hrow⟩ := hx
  have := run_bounds (P := P) (isS := true) (cap := c) hlo hlo' hhi hhi' ha hb hp.1 hp.2.1 hp.2.2 hc1
  refine ⟨_, by simp [Instr.sliceAt, underlying, uk_slice hu, Instr.slice, this, run_sizeOf hsz]; rfl, ?_⟩
  rw [cutL_eq ha hb]
  have hlen : ((l.take b.toNat).drop a.toNat).length = b.toNat - a.toNat := by simp; omega
  refine ⟨_, c - a.toNat, by rw [hlen], by omega, by omega, fun hne => ?_⟩
  have hlt : a.toNat < b.toNat := by
   rcases Nat.lt_or_ge a.toNat b.toNat with h' | h'
   ·exact h'
   ·exact absurd (List.eq_nil_of_length_eq_zero (by omega)) hne
  obtain ⟨b0, o, rfl, hf, hs0, hr⟩ := hrow (by intro e; subst e; simp at hp; omega)
  refine ⟨b0, o + a.toNat * sz, ?_, hf, hs0, (hr.take b.toNat).drop a.toNat⟩
  rw [if_neg (by omega)]; simp [Addr.add_none]
 ·rename_i e id ver off len hu
  rw [hmx' rfl]
  split at h <;> (try (cases h; done))
  rename_i v sz l hm
  split at h <;> (try (cases h; done))
  rename_i hsz
  obtain ⟨rfl, hsz⟩ := hsz
  split at h <;> simp only [Option.some.injEq, Prod.mk.injEq, reduceCtorEq] at h
  rename_i a b ha hb
  obtain ⟨rfl, rfl⟩ := h
  obtain ⟨r, hr, hv, hrz, hnone, hblk⟩ := hi.row hm
  obtain ⟨A, c, r', rfl, hr', hle, hat⟩ := hx
  rw [hr] at hr'; cases hr'
  obtain ⟨hl, hc, hpos⟩ := hat hv.symm
  have := run_bounds (P := P) (isS := true) (cap := c) hlo hlo' hhi hhi' ha hb hp.1 hp.2.1 hp.2.2 hl
  refine ⟨_, by simp [Instr.sliceAt, underlying, uk_slice hu, Instr.slice, this, run_sizeOf hsz]; rfl, ?_⟩
  refine ⟨_, c - a.toNat, r, rfl, hr, by omega, fun _ => ⟨by omega, by omega, fun h0 => ?_⟩⟩
  obtain ⟨b0, hb0, rfl, hfit⟩ := hpos (by omega)
  refine ⟨b0, hb0, ?_, ?_⟩
  ·rw [if_neg (by omega), hrz]; simp [Addr.add_none, Nat.add_mul, Nat.add_assoc]
  ·rw [show off + a.toNat + (c - a.toNat) = off + c by omega]; exact hfit
 ·rename_i e hu
  rw [hmx' rfl]
  split at h <;> simp only [Option.some.injEq, Prod.mk.injEq, reduceCtorEq] at h
  rename_i sz a b hsz ha hb
  obtain ⟨rfl, rfl⟩ := h
  obtain ⟨A, rfl⟩ := hx
  obtain ⟨rfl, rfl⟩ := hp
  have := run_bounds (P := P) (isS := true) (cap := 0) (len := 0) hlo hlo' hhi hhi' ha hb (by omega) (by omega) (by omega) (Nat.le_refl _)
  exact ⟨.slice A 0 0, by simp [Instr.sliceAt, underlying, uk_slice hu, Instr.slice, this, run_sizeOf hsz], A, rfl⟩
 ·rename_i e sz l kk hu
  split at h <;> simp only [Option.some.injEq, Prod.mk.injEq, reduceCtorEq] at h
  rename_i hsz
  obtain ⟨rfl, rfl⟩ := h
  obtain ⟨A, c, rfl, _⟩ := hx
  exact zero hu rfl rfl rfl rfl ⟨_, hsz⟩
 ·rename_i e id ver off len kk hu
  split at h <;> simp only [Option.some.injEq, Prod.mk.injEq, reduceCtorEq] at h
  rename_i hsz
  obtain ⟨rfl, rfl⟩ := h
  obtain ⟨A, c, r, rfl, _⟩ := hx
  exact zero hu rfl rfl rfl rfl ⟨_, hsz⟩
 ·rename_i e kk hu
  split at h <;> simp only [Option.some.injEq, Prod.mk.injEq, reduceCtorEq] at h
  rename_i hsz
  obtain ⟨rfl, rfl⟩ := h
  obtain ⟨A, rfl⟩ := hx
  exact zero hu rfl rfl rfl rfl ⟨_, hsz⟩
 ·cases h
theorem Rvals_map {E : Operand → AV} {a : Act} : ∀ (l : List Operand), (∀ x ∈ l, R X w ρ (E x) (a.eval x)) → Rvals X w ρ (l.map E) (l.map a.eval)
 | [], _ => rfl
 | x :: l, h => ⟨a.eval x, l.map a.eval, rfl, h x (by simp), Rvals_map l fun y hy => h y (by simp [hy])⟩
theorem callA_run {E : Operand → AV} {a : Act} {c : Call} {ty : TypeId} (ho : ∀ x ∈ c.args, R X w ρ (E x) (a.eval x)) {z : AV} {p : Prop} (h : callA P E c = some (z, p)) :
  ∃ v, (do let d ← resolve a.eval c ty; invoke d.target d.args : Sem Next).run P w = .ok (.value v) w ∧ R X w ρ z v := by
 unfold callA at h
 split at h
 ·rename_i hc
  split at h <;> (try (cases h; done))
  rename_i x ty' hx hty
  have e1 : c.args = #[x] := by apply Array.ext'; simpa using hx
  have e2 : c.argTypes = #[ty'] := by apply Array.ext'; simpa using hty
  have hr := ho x (by simp [e1])
  have key : ∀ {n : Nat}, (Builtin.len_ #[ty'] ty #[a.eval x]).run P w = .ok (goInt n) w → ∃ v, (do let d ← resolve a.eval c ty; invoke d.target d.args : Sem Next).run P w = .ok (.value v) w ∧ R X w ρ (.int (n : Int)) v := by
   intro n hn
   exact ⟨goInt n, by simp [resolve, hc, invoke, builtin, e1, e2, hn], rfl⟩
  split at h <;> simp only [Option.some.injEq, Prod.mk.injEq, reduceCtorEq] at h <;> (try exact h.elim) <;> obtain ⟨rfl, rfl⟩ := h
  ·rename_i s hu hs
   rw [hs, R_val] at hr
   exact key (by simp [Builtin.len_, underlying, uk_string hu, hr])
  ·rename_i e sz l hu hs
   rw [hs] at hr
   obtain ⟨A, c', hr, _⟩ := hr
   exact key (by simp [Builtin.len_, underlying, uk_slice hu, hr])
  ·rename_i e id ver off len hu hs
   rw [hs] at hr
   obtain ⟨A, c', r, hr, _⟩ := hr
   exact key (by simp [Builtin.len_, underlying, uk_slice hu, hr])
  ·rename_i e hu hs
   rw [hs] at hr
   obtain ⟨A, hr⟩ := hr
   exact key (n := 0) (by simp [Builtin.len_, underlying, uk_slice hu, hr])
 ·rename_i hc
  split at h <;> (try (cases h; done))
  rename_i x ty' hx hty
  have e1 : c.args = #[x] := by apply Array.ext'; simpa using hx
  have e2 : c.argTypes = #[ty'] := by apply Array.ext'; simpa using hty
  have hr := ho x (by simp [e1])
  split at h <;> simp only [Option.some.injEq, Prod.mk.injEq, reduceCtorEq] at h <;> (try exact h.elim)
  rename_i e hu hs
  obtain ⟨rfl, rfl⟩ := h
  rw [hs] at hr
  obtain ⟨A, hr⟩ := hr
  exact ⟨goInt 0, by simp [resolve, hc, invoke, builtin, e1, e2, Builtin.cap_, underlying, uk_slice hu, hr], rfl⟩
 ·rename_i hc
  split at h <;> (try (cases h; done))
  rename_i x y hx
  have e1 : c.args = #[x, y] := by apply Array.ext'; simpa using hx
  obtain ⟨v, h1, h2⟩ := minA_run (P := P) (ts := c.argTypes) (o := ty) (ho x (by simp [e1])) (ho y (by simp [e1])) h
  exact ⟨v, by simp [resolve, hc, invoke, builtin, e1, h1], h2⟩
 ·rename_i hc
  split at h <;> (try (cases h; done))
  rename_i x y hx
  have e1 : c.args = #[x, y] := by apply Array.ext'; simpa using hx
  obtain ⟨v, h1, h2⟩ := maxA_run (P := P) (ts := c.argTypes) (o := ty) (ho x (by simp [e1])) (ho y (by simp [e1])) h
  exact ⟨v, by simp [resolve, hc, invoke, builtin, e1, h1], h2⟩
 ·cases h
theorem Inv.omap {m : Mem} (hi : Inv X w ρ m) {id ver : Nat} {l : List (Value × AV)} {v : Value} (hm : m[id]? = some ⟨ver, .mp l⟩) (hx : R X w ρ (.omap id ver) v) :
  ∃ r b es clock, v = .map (some b) ∧ ρ[id]? = some r ∧ r.ver = ver ∧ r.blk = some b ∧ w.heap[b]? = some (.map es clock) ∧ (l.map (·.1)).Nodup ∧ Rents X w ρ l es.toList := by
 obtain ⟨A, r, rfl, h1, h2, h3⟩ := hx
 obtain ⟨hv, q0, b, es, clock, q1, q2, q3⟩ := hi.at_ id r _ h1 hm
 simp only at hv
 obtain ⟨b', e1, rfl⟩ := h3 hv.symm
 rw [q1] at e1; cases e1
 exact ⟨r, b, es, clock, rfl, h1, hv, q1, q2, q0, q3⟩
theorem lookA_run {m : Mem} (hi : Inv X w ρ m) {ty : TypeId} {x k z : AV} {c : Bool} {vx vk : Value} {p : Prop} (hx : R X w ρ x vx) (hk : R X w ρ k vk) (h : lookA P m ty x k c = some (z, p)) (hp : p) :
  ∃ v, (Instr.lookup ty vx vk c).run P w = .ok v w ∧ R X w ρ z v := by
 unfold lookA at h
 split at h <;> (try (cases h; done))
 rename_i id ver kt et kv hmt hkv
 split at h <;> (try (cases h; done))
 rename_i v l hm
 split at h <;> (try (cases h; done))
 rename_i hv
 subst hv
 have := keyV_rel hkv hk
 subst this
 obtain ⟨r, b, es, clock, rfl, _, _, _, hb, hnd, hr⟩ := hi.omap hm hx
 split at h
 ·rename_i y hy
  simp only [Option.some.injEq, Prod.mk.injEq] at h
  obtain ⟨rfl, rfl⟩ := h
  obtain ⟨p1, p2, p3, p4⟩ := hp
  obtain ⟨q1, _⟩ := lookup_run (c := c) (mpT_some hmt) p1 p2 p3 p4 hb hnd hr
  obtain ⟨u, g1, g2⟩ := q1 y hy
  cases c
  ·exact ⟨_, g1, g2⟩
  ·exact ⟨_, g1, [u, .bool true], rfl, u, _, rfl, g2, _, _, rfl, rfl, rfl⟩
 ·rename_i hy
  split at h <;> (try (cases h; done))
  rename_i z0 hz
  simp only [Option.some.injEq, Prod.mk.injEq] at h
  obtain ⟨rfl, rfl⟩ := h
  obtain ⟨p1, p2, p3, p4⟩ := hp
  obtain ⟨_, q2⟩ := lookup_run (c := c) (mpT_some hmt) p1 p2 p3 p4 hb hnd hr
  obtain ⟨u, g1, g2⟩ := zAV_some (P := P) (X := X) (w := w) (ρ := ρ) hz
  have g3 := q2 hy u g1
  cases c
  ·exact ⟨_, g3, g2⟩
  ·exact ⟨_, g3, [u, .bool false], rfl, u, _, rfl, g2, _, _, rfl, rfl, rfl⟩
theorem ev_run {m : Mem} (hi : Inv X w ρ m) {E B : Operand → AV} {a : Act} {o : Oper} (ho : ∀ x ∈ o.op.needs, R X w ρ (E x) (a.eval x)) (hB : ∀ x ∈ o.op.operands, R X w ρ (B x) (a.eval x)) {z : AV} {p : Prop} (h : ev P E B m o.op = some (z, p)) (hp : p) :
  ∃ v, (execOp a.eval o).run P w = .ok (.value v) w ∧ R X w ρ z v := by
 have fin : ∀ {s : Sem Value}, (∃ v, s.run P w = .ok v w ∧ R X w ρ z v) → ∃ v, (do pure (Next.value (← s)) : Sem Next).run P w = .ok (.value v) w ∧ R X w ρ z v := by
  rintro s ⟨v, h1, h2⟩
  exact ⟨v, by simp [h1], h2⟩
 unfold ev at h
 unfold execOp
 split at h
 ·rename_i x he; rw [he] at ho hB ⊢
  simp only [Option.some.injEq, Prod.mk.injEq] at h; obtain ⟨rfl, rfl⟩ := h
  exact ⟨_, by simp, ho x (by simp [Op.needs, Op.operands])⟩
 ·rename_i x he; rw [he] at ho hB ⊢
  simp only [Option.some.injEq, Prod.mk.injEq] at h; obtain ⟨rfl, rfl⟩ := h
  exact ⟨_, by simp, ho x (by simp [Op.needs, Op.operands])⟩
 ·rename_i c x y he; rw [he] at ho hB ⊢
  split at h
  ·rename_i g hg
   have hc := ho c (by simp [Op.needs]); rw [hg, R_val] at hc
   have := pickA_rel (hB x (by simp [Op.operands])) (hB y (by simp [Op.operands])) h hp
   exact ⟨_, by simp [hc, asBool], this⟩
  ·cases h
 ·rename_i op xt x y yt he; rw [he] at ho hB ⊢
  exact fin (binA_run (ho x (by simp [Op.needs, Op.operands])) (ho y (by simp [Op.needs, Op.operands])) h hp)
 ·rename_i op ty x he; rw [he] at ho hB ⊢
  exact fin (unA_run (ho x (by simp [Op.needs, Op.operands])) h)
 ·rename_i src dst x he; rw [he] at ho hB ⊢
  exact fin (convA_run (ho x (by simp [Op.needs, Op.operands])) h)
 ·rename_i x i he; rw [he] at ho hB ⊢
  split at h
  ·rename_i xs hx
   simp only [Option.some.injEq, Prod.mk.injEq] at h; obtain ⟨rfl, rfl⟩ := h
   have hc := ho x (by simp [Op.needs, Op.operands]); rw [hx] at hc
   obtain ⟨vs, e1, e2⟩ := hc
   obtain ⟨v, hv, hR⟩ := e2.nth (List.getElem?_eq_getElem hp)
   refine fin ⟨v, by simp [e1, Instr.extract, hv], ?_⟩
   have : xs.getD i .any = xs[i] := by simp [hp]
   rw [this]; exact hR
  ·cases h
 ·rename_i ty x i he; rw [he] at ho hB ⊢
  exact fin (idxA_run hi (ho x (by simp [Op.needs, Op.operands])) (ho i (by simp [Op.needs, Op.operands])) h hp)
 ·rename_i ty x he; rw [he] at ho hB ⊢
  exact fin (loadA_run hi (ho x (by simp [Op.needs, Op.operands])) h hp)
 ·rename_i ty x f he; rw [he] at ho hB ⊢
  exact fin (fieldAddrA_run hi (ho x (by simp [Op.needs, Op.operands])) h hp)
 ·rename_i ty x f he; rw [he] at ho hB ⊢
  exact fin (fieldA_run (ho x (by simp [Op.needs, Op.operands])) h hp)
 ·rename_i ty x i he; rw [he] at ho hB ⊢
  exact fin (indexA_run (ho x (by simp [Op.needs, Op.operands])) (ho i (by simp [Op.needs, Op.operands])) h hp)
 ·rename_i ty x lo hi' mx he; rw [he] at ho hB ⊢
  refine fin (sliceA_run hi (ho x (by simp [Op.needs, Op.operands])) ?_ ?_ ?_ ?_ ?_ ?_ h hp)
  ·intro y hy; cases lo with
   | none => cases hy
   | some l => simp only [Option.map_some, Option.some.injEq] at hy; subst hy; exact ⟨_, rfl, ho l (by simp [Op.needs, Op.operands])⟩
  ·intro hy; cases lo with
   | none => rfl
   | some l => cases hy
  ·intro y hy; cases hi' with
   | none => cases hy
   | some l => simp only [Option.map_some, Option.some.injEq] at hy; subst hy; exact ⟨_, rfl, ho l (by simp [Op.needs, Op.operands])⟩
  ·intro hy; cases hi' with
   | none => rfl
   | some l => cases hy
  ·intro y hy; cases mx with
   | none => cases hy
   | some l => simp only [Option.map_some, Option.some.injEq] at hy; subst hy; exact ⟨_, rfl, ho l (by simp [Op.needs, Op.operands])⟩
  ·intro hy; cases mx with
   | none => rfl
   | some l => cases hy
 ·rename_i c he; rw [he] at ho hB ⊢
  have := callA_run (P := P) (w := w) (X := X) (ρ := ρ) (E := E) (a := a) (ty := o.type) (fun x hx => ho x (by simp [Op.needs, Op.operands, Call.operands]; exact .inr hx)) h
  obtain ⟨v, h1, h2⟩ := this
  exact ⟨v, h1, h2⟩
 ·rename_i fn first caps he; rw [he] at ho hB ⊢
  split at h <;> (try (cases h; done))
  ·rename_i f hfirst
   have hf0 : first = #[] := by apply Array.ext'; simpa using hfirst
   subst hf0
   simp only [Option.some.injEq, Prod.mk.injEq] at h; obtain ⟨rfl, rfl⟩ := h
   refine fin ⟨.func (.func f) #[] (caps.map a.eval), by simp [Instr.makeFunc], caps.toList.map a.eval, ?_, Rvals_map caps.toList fun y hy => ho y (by simp [Op.needs, Op.operands]; simpa using hy)⟩
   congr 1; apply Array.ext'; simp
  ·rename_i f x xs hfirst
   split at h <;> (try (cases h; done))
   rename_i hcaps
   have hc0 : caps = #[] := by apply Array.ext'; simpa using hcaps
   subst hc0
   simp only [Option.some.injEq, Prod.mk.injEq] at h; obtain ⟨rfl, rfl⟩ := h
   have hR : Rvals X w ρ ((x :: xs).map E) (first.toList.map a.eval) := by
    rw [← hfirst]
    exact Rvals_map first.toList fun y hy => ho y (by simp [Op.needs, Op.operands]; simpa using hy)
   refine fin ⟨.func (.func f) (first.map a.eval) #[], ?_, first.toList.map a.eval, ?_, hR⟩
   ·unfold Instr.makeFunc
    simp
   ·congr 1; apply Array.ext'; simp
 ·rename_i t parts he; rw [he] at ho hB ⊢
  exact fin (buildA_run (fun q hq => ho q.2 (by simp [Op.needs, Op.operands]; exact ⟨q.1, by simpa using hq⟩)) h hp)
 ·rename_i x he; rw [he] at ho hB ⊢
  have hx := ho x (by simp [Op.needs, Op.operands])
  split at h
  ·rename_i xs j hx'
   simp only [Option.some.injEq, Prod.mk.injEq] at h; obtain ⟨rfl, rfl⟩ := h
   rw [hx'] at hx
   obtain ⟨b, o', e1, e2⟩ := id hx
   exact ⟨_, by simp [e1], e1 ▸ hx⟩
  ·rename_i id ver i j hx'
   split at h <;> simp only [Option.some.injEq, Prod.mk.injEq, reduceCtorEq] at h
   rename_i hv
   obtain ⟨rfl, rfl⟩ := h
   rw [hx'] at hx
   obtain ⟨r, e, _, _, _, b, _, e1⟩ := hi.optr hv hx
   exact ⟨_, by simp [e1], e1 ▸ hx⟩
  ·rename_i f caps hx'
   simp only [Option.some.injEq, Prod.mk.injEq] at h; obtain ⟨rfl, rfl⟩ := h
   rw [hx'] at hx
   obtain ⟨vs, e1, e2⟩ := id hx
   exact ⟨_, by simp [e1], e1 ▸ hx⟩
  ·cases h
 ·rename_i ty x k c he; rw [he] at ho hB ⊢
  exact fin (lookA_run hi (ho x (by simp [Op.needs, Op.operands])) (ho k (by simp [Op.needs, Op.operands])) h hp)
 ·cases h
end Go.Vg
namespace Go.Vg
open Go.RowKit
variable {P : Program} {X : Nat → Prop} {w : World} {ρ : Rho}
def fence (r : Option Nat) : Fence := { fn := fun _ => True, depth := none, alive := false, round := r }
theorem callsIn_fence {r : Option Nat} {f : FuncId} {args : Array Value} {w : World} {Q : Ending → World → Prop} (h : Calls P f args w Q) : CallsIn (fence r) 0 P f args w Q :=
 (callsIn_wide (n := 0)).2 h
def yieldedG (gds : List (Option Nat)) (tmps : Array Value) (j : Nat) : Option Bool :=
 match ((gds[j]?).bind id).bind (tmps[·]?) with
 | some (.bool b) => some b
 | _ => none
theorem yieldedG_eq (ops : Array Oper) (tmps : Array Value) : yieldedG (ops.toList.map (·.dst)) tmps = yielded ops tmps := by
 funext j
 unfold yieldedG yielded
 congr 1
 simp
 cases ops[j]? <;> simp
def gval (gds : List (Option Nat)) (t : List (Nat × AV)) (g : Nat × Bool) : Option Bool :=
 match (gds[g.1]?).bind id with
 | some d =>
  match look t d with
  | .val (.bool b) => some (if g.2 then b else !b)
  | .opt h (.val (.bool b)) => some (h && (if g.2 then b else !b))
  | _ => none
 | none => none
def gnames (gds : List (Option Nat)) : Option (Nat × Bool) → List Nat
 | none => []
 | some (j, _) => ((gds[j]?).bind id).toList
def onames (op : Op) : List Nat := op.operands.toList.filterMap fun | .tmp t => some t | _ => none
theorem gval_wanted {gds : List (Option Nat)} {t : List (Nat × AV)} {o : Oper} {g : Nat × Bool} {b : Bool} {a : Act} (hg : o.guard = some g) (hr : ∀ n ∈ gnames gds o.guard, R X w ρ (look t n) (a.tmps.getD n undef) ∧ n < a.tmps.size)
  (h : gval gds t g = some b) : Region.wanted o (yieldedG gds a.tmps) = b := by
 unfold gval at h
 split at h
 ·rename_i d hd
  have hm : d ∈ gnames gds o.guard := by rw [hg]; obtain ⟨j, want⟩ := g; simp only [gnames] at *; rw [hd]; simp
  obtain ⟨hR, hlt⟩ := hr d hm
  have hv : a.tmps[d]? = some (a.tmps.getD d undef) := by simp [hlt]
  obtain ⟨j, want⟩ := g
  have hy : yieldedG gds a.tmps j = match a.tmps.getD d undef with | .bool b => some b | _ => none := by
   unfold yieldedG
   simp only at hd
   rw [hd, Option.bind_some, hv]
   cases a.tmps.getD d undef <;> rfl
  unfold Region.wanted
  rw [hg]
  simp only [hy]
  split at h
  ·rename_i b' hl
   rw [hl, R_val] at hR
   rw [hR]
   simp only [Option.some.injEq] at h
   subst h
   cases want <;> cases b' <;> rfl
  ·rename_i h' b' hl
   rw [hl] at hR
   simp only [Option.some.injEq] at h
   subst h
   cases h' with
   | true =>
    have : R X w ρ (.val (.bool b')) _ := hR.1 rfl
    rw [R_val] at this
    rw [this]
    cases want <;> cases b' <;> rfl
   | false =>
    have := hR.2 rfl
    rw [this]
    cases want <;> cases b' <;> rfl
  ·cases h
 ·cases h
def Gives (P : Program) (o : Oper) (a : Act) (w : World) (Q : Value → World → Prop) : Prop :=
 (∃ v w', (execOp a.eval o).run P w = .ok (.value v) w' ∧ Q v w') ∨
 ∃ f args, (execOp a.eval o).run P w = .ok (.enter f args) w ∧ Calls P f args w fun e w' => ∃ v, e = .returned v ∧ Q v w'
def Yield (P : Program) (gds : List (Option Nat)) (t : List (Nat × AV)) (m : Mem) (o : Oper) (x : AV) : Prop :=
 (∀ c, o.op ≠ .defer c) ∧
 ∀ (X : Nat → Prop) (w : World) (ρ : Rho) (a : Act), Inv X w ρ m → (∀ n, n ∈ gnames gds o.guard ∨ n ∈ onames o.op → R X w ρ (look t n) (a.tmps.getD n undef)) → (∀ n ∈ gnames gds o.guard, n < a.tmps.size) →
  (Region.wanted o (yieldedG gds a.tmps) = true → Gives P o a w fun v w' => R X w' ρ x v ∧ Inv X w' ρ m ∧ Tr w ρ w' ρ) ∧
  (Region.wanted o (yieldedG gds a.tmps) = false → R X w ρ x undef)
theorem evo_of {t : List (Nat × AV)} {a : Act} {op : Op} (h : ∀ n ∈ onames op, R X w ρ (look t n) (a.tmps.getD n undef)) : ∀ x ∈ op.operands, R X w ρ (evo t x) (a.eval x) := by
 intro x hx
 cases x with
 | tmp n => exact h n (List.mem_filterMap.2 ⟨.tmp n, by simpa using hx, rfl⟩)
 | const v => exact cst_rel v
 | global g => trivial
 | func f => exact ⟨[], rfl, rfl⟩
def oks (t : List (Nat × AV)) (op : Op) : Prop := ∀ x ∈ op.needs, (unopt (evo t x)).1 = true
def stepA (P : Program) (gds : List (Option Nat)) (t : List (Nat × AV)) (m : Mem) (o : Oper) : Option (AV × Prop) :=
 match o.guard with
 | none => ev P (evo t) (evo t) m o.op
 | some g =>
  match gval gds t g with
  | some b =>
   match ev P (fun x => (unopt (evo t x)).2) (evo t) m o.op with
   | some (x, p) => some (.opt b x, b = true → oks t o.op ∧ p)
   | none => none
  | none => none
theorem ev_defer {E B : Operand → AV} {m : Mem} {op : Op} {x : AV} {p : Prop} (h : ev P E B m op = some (x, p)) : ∀ c, op ≠ .defer c := by
 intro c e; subst e; simp [ev] at h
theorem needs_sub (op : Op) : ∀ x ∈ op.needs, x ∈ op.operands := by
 intro x hx
 cases op <;> simp only [Op.needs] at hx <;> first | (simpa using hx) | (simp [Op.operands] at hx ⊢; simp [hx])
theorem unopt_rel {x : AV} {v : Value} (h : R X w ρ x v) (hg : (unopt x).1 = true) : R X w ρ (unopt x).2 v := by
 cases x <;> simp only [unopt] at hg ⊢ <;> first | exact h | exact h.1 hg
theorem stepA_yield {gds : List (Option Nat)} {t : List (Nat × AV)} {m : Mem} {o : Oper} {x : AV} {p : Prop} (h : stepA P gds t m o = some (x, p)) (hp : p) : Yield P gds t m o x := by
 unfold stepA at h
 split at h
 ·rename_i hg
  refine ⟨ev_defer h, fun X w ρ a hi hr hn => ⟨fun _ => ?_, fun hw => ?_⟩⟩
  ·have ho := evo_of (op := o.op) fun n hn => hr n (.inr hn)
   obtain ⟨v, h1, h2⟩ := ev_run hi (fun x hx => ho x (needs_sub _ x hx)) ho h hp
   exact .inl ⟨v, w, h1, h2, hi, Tr.refl w ρ⟩
  ·simp [Region.wanted, hg] at hw
 ·rename_i g hg
  split at h
  ·rename_i b hb
   split at h
   ·rename_i x' p' he
    simp only [Option.some.injEq, Prod.mk.injEq] at h
    obtain ⟨rfl, rfl⟩ := h
    refine ⟨ev_defer he, fun X w ρ a hi hr hn => ?_⟩
    have hw := gval_wanted (a := a) hg (fun n hn' => ⟨hr n (.inl hn'), hn n hn'⟩) hb
    rw [hw]
    refine ⟨fun hb => ?_, fun hb => ⟨fun e => (by rw [hb] at e; cases e), fun _ => rfl⟩⟩
    subst hb
    obtain ⟨hok, hp'⟩ := hp rfl
    have ho := evo_of (op := o.op) fun n hn => hr n (.inr hn)
    obtain ⟨v, h1, h2⟩ := ev_run hi (E := fun x => (unopt (evo t x)).2) (fun x hx => unopt_rel (ho x (needs_sub _ x hx)) (hok x hx)) ho he hp'
    exact .inl ⟨v, w, h1, ⟨fun _ => h2, fun e => (by cases e)⟩, hi, Tr.refl w ρ⟩
   ·cases h
  ·cases h
def opwp (P : Program) (r : Option Nat) (gds : List (Option Nat)) (o : Oper) (a : Act) (w : World) (K : Act → World → Prop) : Prop :=
 if Region.wanted o (yieldedG gds a.tmps) then o.wpIn (fence r) 0 P a w K (fun _ _ _ => False) else K (a.put o.dst undef) w
theorem gives_wpIn {r : Option Nat} {o : Oper} {a : Act} {w : World} {Q : Value → World → Prop} {K : Act → World → Prop} {Q' : Exit → Act → World → Prop} (hd : ∀ c, o.op ≠ .defer c) (h : Gives P o a w Q) (hK : ∀ v w', Q v w' → K (a.put o.dst v) w') : o.wpIn (fence r) 0 P a w K Q' := by
 refine ⟨fun _ _ => trivial, ?_⟩
 rw [Oper.semAt_eq _ _ _ hd]
 rcases h with ⟨v, w', h1, h2⟩ | ⟨f, args, h1, h2⟩
 ·rw [h1]; exact hK v w' h2
 ·rw [h1]
  refine ⟨fun h => (by cases h), callsIn_fence (h2.mono ?_)⟩
  rintro e w' ⟨v, rfl, hQ⟩
  exact hK v w' hQ
def Eff (P : Program) (gds : List (Option Nat)) (o : Oper) (s : S) (Q : S → Prop) : Prop :=
 ∀ (X : Nat → Prop) (r : Option Nat) (a : Act) (w : World) (ρ : Rho), Rel X s a w ρ → opwp P r gds o a w fun a' w' => ∃ s' ρ', Q s' ∧ Rel X s' a' w' ρ' ∧ Tr w ρ w' ρ'
def gdsOk (gds : List (Option Nat)) (n : Nat) : Prop := ∀ d ∈ gds, dstOk n d
theorem gnames_lt {gds : List (Option Nat)} {n : Nat} (h : gdsOk gds n) (g : Option (Nat × Bool)) : ∀ k ∈ gnames gds g, k < n := by
 intro k hk
 cases g with
 | none => simp [gnames] at hk
 | some g =>
  obtain ⟨j, want⟩ := g
  simp only [gnames] at hk
  cases hd : gds[j]? with
  | none => simp [hd] at hk
  | some d =>
   cases d with
   | none => simp [hd] at hk
   | some d =>
    have hk : k = d := by simpa [hd] using hk
    subst hk
    exact h (some k) (List.mem_of_getElem? hd)
theorem Yield.eff {gds : List (Option Nat)} {o : Oper} {s : S} {x : AV} (h : Yield P gds s.t s.m o x) (hg : gdsOk gds s.n) (hd : dstOk s.n o.dst) {Q : S → Prop} (hQ : Q (s.put o.dst x)) : Eff P gds o s Q := by
 intro X r a w ρ hr
 obtain ⟨h1, h2⟩ := h.2 X w ρ a hr.inv (fun n _ => hr.tmps n) (fun n hn => by rw [hr.size]; exact gnames_lt hg o.guard n hn)
 unfold opwp
 split
 ·rename_i hw
  refine gives_wpIn h.1 (h1 hw) fun v w' ⟨k1, k2, k3⟩ => ⟨s.put o.dst x, ρ, hQ, ?_, k3⟩
  have := hr.step k3 k2
  exact this.put hd k1
 ·rename_i hw
  exact ⟨s.put o.dst x, ρ, hQ, hr.put hd (h2 (by simpa using hw)), Tr.refl w ρ⟩
def RunL (P : Program) (gds : List (Option Nat)) : List Oper → (S → Prop) → S → Prop
 | [], Q, s => Q s
 | o :: l, Q, s => Eff P gds o s (RunL P gds l Q)
theorem RunL.sound {ops : Array Oper} {gds : List (Option Nat)} (hg : gds = ops.toList.map (·.dst)) {r : Option Nat} {Q : S → Prop} {Q' : Exit → Act → World → Prop} : ∀ (l : List Oper) (s : S) (a : Act) (w : World) (ρ : Rho), RunL P gds l Q s → Rel X s a w ρ →
  (∀ s' a' w' ρ', Q s' → Rel X s' a' w' ρ' → Tr w ρ w' ρ' → Q' .normal a' w') → wpListIn (fence r) 0 P ops Q' l a w
 | [], s, a, w, ρ, h, hr, hQ => hQ s a w ρ h hr (Tr.refl w ρ)
 | o :: l, s, a, w, ρ, h, hr, hQ => by
  have h0 := h X r a w ρ hr
  unfold opwp at h0
  rw [hg, yieldedG_eq] at h0
  unfold wpListIn
  have next : ∀ (a' : Act) (w' : World), (∃ s' ρ', RunL P gds l Q s' ∧ Rel X s' a' w' ρ' ∧ Tr w ρ w' ρ') → wpListIn (fence r) 0 P ops Q' l a' w' := by
   rintro a' w' ⟨s', ρ', k1, k2, k3⟩
   exact RunL.sound hg l s' a' w' ρ' k1 k2 fun s2 a2 w2 ρ2 q1 q2 q3 => hQ s2 a2 w2 ρ2 q1 q2 (k3.trans q3)
  split
  ·rename_i hw
   rw [if_pos hw] at h0
   refine ⟨h0.1, ?_⟩
   have h1 := h0.2
   generalize (o.semAt (fence r).round a.eval).run P w = res at *
   rw [← hg] at h1
   cases res with
   | ok x w' =>
    cases x <;> simp only [Oper.uponIn] at h1 ⊢ <;> first
     | exact next _ _ h1
     | exact ⟨h1.1, CallsIn.mono h1.2 (fun e w'' he => by cases e with
       | returned v => exact next _ _ he
       | panicked c => exact he.elim
       | outgrown => exact (by obtain ⟨_, _, hh⟩ := he; exact hh.elim))⟩
     | exact ⟨h1.1, RowsIn.mono h1.2 (fun _ _ he => next _ _ he)⟩
     | exact ⟨h1.1, RoundIn.mono h1.2 (fun e w'' he => by cases e with
       | returned v => exact next _ _ he
       | panicked c => exact he.elim
       | outgrown => exact (by obtain ⟨_, _, hh⟩ := he; exact hh.elim))⟩
     | exact h1.elim
   | halt x w' => cases x <;> simp only [Oper.uponIn] at h1 <;> exact h1.elim
  ·rename_i hw
   rw [if_neg hw] at h0
   rw [← hg] at h0
   exact ⟨fun _ _ => trivial, next _ _ h0⟩
end Go.Vg
namespace Go.Vg
open Go.RowKit
variable {P : Program} {X : Nat → Prop} {w : World} {ρ : Rho}
inductive Abs (P : Program) (gds : List (Option Nat)) : List Oper → S → S → Prop where
 | nil {s : S} : Abs P gds [] s s
 | cons {o : Oper} {l : List Oper} {s s' : S} {x : AV} : dstOk s.n o.dst → Yield P gds s.t s.m o x → Abs P gds l (s.put o.dst x) s' → Abs P gds (o :: l) s s'
def upd (t : List (Nat × AV)) (d : Option Nat) (x : AV) : List (Nat × AV) :=
 match d with
 | some k => (k, x) :: t
 | none => t
theorem S.put_eq (s : S) (d : Option Nat) (x : AV) : s.put d x = { s with t := upd s.t d x } := by cases d <;> rfl
def V : List (Oper × AV) → (Nat → Bool) → Nat → List (Nat × AV) → List (Nat × AV)
 | [], _, _, t => t
 | ox :: l, L, k, t => V l L (k + 1) (if L k then upd t ox.1.dst ox.2 else t)
theorem look_upd_ne {t : List (Nat × AV)} {d : Option Nat} {x : AV} {n : Nat} (h : d ≠ some n) : look (upd t d x) n = look t n := by
 cases d with
 | none => rfl
 | some k => simp only [upd, look]; rw [if_neg (fun e => h (by rw [e]))]
theorem look_upd_eq {t : List (Nat × AV)} {x : AV} {n : Nat} : look (upd t (some n) x) n = x := by simp [upd, look]
theorem V_congr {n : Nat} {L L' : Nat → Bool} : ∀ (l : List (Oper × AV)) (k : Nat) (t t' : List (Nat × AV)), look t n = look t' n →
  (∀ (j : Nat) (ox : Oper × AV), l[j]? = some ox → ox.1.dst = some n → L (k + j) = L' (k + j)) → look (V l L k t) n = look (V l L' k t') n
 | [], _, _, _, h, _ => h
 | ox :: l, k, t, t', h, hL => by
  refine V_congr l (k + 1) _ _ ?_ (fun j oy hj hd => by have := hL (j + 1) oy (by simpa using hj) hd; rw [show k + 1 + j = k + (j + 1) by omega]; exact this)
  by_cases hd : ox.1.dst = some n
  ·have := hL 0 ox (by simp) hd
   simp only [Nat.add_zero] at this
   rw [← this]
   split
   ·rw [hd, look_upd_eq, look_upd_eq]
   ·exact h
  ·split <;> split <;> simp only [look_upd_ne hd, h]
theorem V_all (l : List (Oper × AV)) (L : Nat → Bool) : ∀ (k : Nat) (t : List (Nat × AV)), (∀ j, j < l.length → L (k + j) = true) → V l L k t = l.foldl (fun t ox => upd t ox.1.dst ox.2) t := by
 induction l with
 | nil => intro k t _; rfl
 | cons ox l ih =>
  intro k t h
  have h0 := h 0 (by simp)
  simp only [Nat.add_zero] at h0
  simp only [V, h0, if_true, List.foldl_cons]
  exact ih (k + 1) _ fun j hj => by rw [show k + 1 + j = k + (j + 1) by omega]; exact h (j + 1) (by simpa using hj)
theorem V_none (l : List (Oper × AV)) (L : Nat → Bool) : ∀ (k : Nat) (t : List (Nat × AV)), (∀ j, j < l.length → L (k + j) = false) → V l L k t = t := by
 induction l with
 | nil => intro k t _; rfl
 | cons ox l ih =>
  intro k t h
  have h0 := h 0 (by simp)
  simp only [Nat.add_zero] at h0
  simp only [V, h0]
  exact ih (k + 1) _ fun j hj => by rw [show k + 1 + j = k + (j + 1) by omega]; exact h (j + 1) (by simpa using hj)
theorem V_last (l : List (Oper × AV)) : ∀ (k i : Nat) (t : List (Nat × AV)) (n : Nat) (o : Oper) (x : AV), l[i]? = some (o, x) → o.dst = some n → look (V l (fun j => decide (j < k + (i + 1))) k t) n = x := by
 induction l with
 | nil => intro k i t n o x h; simp at h
 | cons ox l ih =>
  intro k i t n o x h hd
  cases i with
  | zero =>
   simp at h; subst h
   simp only [V, hd]
   rw [V_none _ _ _ _ (fun j _ => by simp)]
   simp [upd, look]
  | succ i =>
   simp only [V]
   generalize (if decide (k < k + (i + 1 + 1)) = true then upd t ox.1.dst ox.2 else t) = t'
   have hf : (fun j => decide (j < k + (i + 1 + 1))) = (fun j => decide (j < k + 1 + (i + 1))) := by funext j; congr 1; apply propext; omega
   rw [hf]
   exact ih (k + 1) i t' n o x (by simpa using h) hd
def upto (k i : Nat) (j : Nat) : Bool := decide (j < k + i)
theorem Abs.data {gds : List (Option Nat)} : ∀ {ops : List Oper} {s s' : S}, Abs P gds ops s s' → ∀ k : Nat, ∃ xs : List (Oper × AV), xs.map (·.1) = ops ∧ s' = { s with t := V xs (fun _ => true) k s.t } ∧
  ∀ (i : Nat) (ox : Oper × AV), xs[i]? = some ox → dstOk s.n ox.1.dst ∧ Yield P gds (V xs (upto k i) k s.t) s.m ox.1 ox.2
 | _, s, _, .nil, k => ⟨[], rfl, rfl, fun i ox h => by simp at h⟩
 | o :: l, s, s', .cons (x := x) h1 h2 h3, k => by
  obtain ⟨xs, e1, e2, e3⟩ := Abs.data h3 (k + 1)
  rw [S.put_eq] at e2 e3
  refine ⟨(o, x) :: xs, by simp [e1], by rw [e2]; simp [V], fun i ox hi => ?_⟩
  cases i with
  | zero =>
   simp at hi; subst hi
   refine ⟨h1, ?_⟩
   rw [V_none _ _ _ _ (fun j _ => by simp [upto])]
   exact h2
  | succ i =>
   obtain ⟨q1, q2⟩ := e3 i ox (by simpa using hi)
   refine ⟨q1, ?_⟩
   have : V ((o, x) :: xs) (upto k (i + 1)) k s.t = V xs (upto (k + 1) i) (k + 1) (upd s.t o.dst x) := by
    simp only [V]
    have h0 : upto k (i + 1) k = true := by simp [upto]
    rw [h0]
    have hf : upto k (i + 1) = upto (k + 1) i := by funext j; simp only [upto]; congr 1; apply propext; omega
    rw [hf]; rfl
   rw [this]; exact q2
def names (gds : List (Option Nat)) (o : Oper) : List Nat := gnames gds o.guard ++ onames o.op
def dep (o : Oper) (i : Nat) : Bool := o.after.any fun e => Region.binds .any e && e.on == i
def touches (gds : List (Option Nat)) (oi oj : Oper) : Bool :=
 (match oi.dst with | some d => (names gds oj).contains d || oj.dst == some d | none => false) || (match oj.dst with | some d => (names gds oi).contains d | none => false)
def ordB (gds : List (Option Nat)) (ops : List Oper) (n : Nat) : Bool :=
 (List.range n).all fun j => match ops[j]? with
  | some oj => (oj.after.all fun e => !Region.binds .any e || decide (e.on < j)) && (List.range j).all fun i => match ops[i]? with
   | some oi => !touches gds oi oj || dep oj i
   | none => true
  | none => true
theorem ordB_back {gds : List (Option Nat)} {ops : List Oper} {n j : Nat} {oj : Oper} (h : ordB gds ops n = true) (hj : j < n) (ho : ops[j]? = some oj) : ∀ e ∈ oj.after, Region.binds .any e = true → e.on < j := by
 intro e he hb
 have h1 := List.all_eq_true.1 h j (List.mem_range.2 hj)
 simp only [ho, Bool.and_eq_true] at h1
 have h2 := Array.all_eq_true'.1 h1.1 e he
 simpa [hb] using h2
theorem ordB_dep {gds : List (Option Nat)} {ops : List Oper} {n i j : Nat} {oi oj : Oper} (h : ordB gds ops n = true) (hj : j < n) (hij : i < j) (hoi : ops[i]? = some oi) (hoj : ops[j]? = some oj) (ht : touches gds oi oj = true) :
  ∃ e ∈ oj.after, Region.binds .any e = true ∧ e.on = i := by
 have h1 := List.all_eq_true.1 h j (List.mem_range.2 hj)
 simp only [hoj, Bool.and_eq_true] at h1
 have h2 := List.all_eq_true.1 h1.2 i (List.mem_range.2 hij)
 simp only [hoi, ht, Bool.not_true, Bool.false_or, dep] at h2
 obtain ⟨e, he, hb⟩ := Array.any_eq_true'.1 h2
 simp only [Bool.and_eq_true, beq_iff_eq] at hb
 exact ⟨e, he, hb.1, hb.2⟩
theorem wpAnyIn_of_seq {F : Fence} {n : Nat} {ops : Array Oper} {md : Region.Mode} {Q' : Exit → Act → World → Prop} : ∀ (l : List Oper) (k : Nat) (listed : Array Bool) (a : Act) (w : World), (∀ j, l[j]? = ops[k + j]?) →
  Region.seqB md ops l.length k listed = true → wpListIn F n P ops Q' l a w → wpAnyIn F n P md ops Q' l.length listed a w
 | [], _, _, _, _, _, hB, h => ⟨by simpa [Region.seqB] using hB, h⟩
 | o :: l, k, listed, a, w, hl, hB, h => by
  have h0 : ops[k]? = some o := by simpa using (hl 0).symm
  simp only [List.length_cons, Region.seqB, Bool.and_eq_true, decide_eq_true_eq] at hB
  refine ⟨fun h1 => (by rw [hB.1] at h1; cases h1), fun i hi => ?_⟩
  rw [hB.1] at hi
  have hik : i = k := by simpa using hi
  subst hik
  have hw : wpOpIn F n P ops Q' i (wpListIn F n P ops Q' l) a w := by unfold wpOpIn; simp only [h0]; exact h
  exact wpOpIn_mono (fun a' w' h' => wpAnyIn_of_seq l (i + 1) _ a' w' (fun j => by have := hl (j + 1); simpa [Nat.add_assoc, Nat.add_comm 1 j] using this) hB.2 h') hw
def cnt (listed : Array Bool) : Nat → Nat
 | 0 => 0
 | n + 1 => cnt listed n + if listed.getD n true = false then 1 else 0
theorem cnt_other {listed : Array Bool} {i : Nat} : ∀ n, n ≤ i → cnt (listed.setIfInBounds i true) n = cnt listed n
 | 0, _ => rfl
 | n + 1, h => by simp only [cnt]; rw [cnt_other n (by omega), getD_set_ne true (by omega)]
theorem cnt_set {listed : Array Bool} {i : Nat} (hi : listed.getD i true = false) : ∀ n, i < n → cnt (listed.setIfInBounds i true) n + 1 = cnt listed n
 | 0, h => by omega
 | n + 1, h => by
  have hlt : i < listed.size := by
   rcases Nat.lt_or_ge i listed.size with h' | h'
   ·exact h'
   ·simp [Array.getElem?_eq_none h'] at hi
  simp only [cnt]
  by_cases hin : i = n
  ·subst hin
   rw [cnt_other i (Nat.le_refl _)]
   have : (listed.setIfInBounds i true).getD i true = true := by simp [hlt]
   simp [this, hi]
  ·have := cnt_set hi n (by omega)
   rw [getD_set_ne true hin]
   omega
theorem cnt_zero {listed : Array Bool} : ∀ {n : Nat}, cnt listed n = 0 → ∀ i, i < n → listed.getD i true = true
 | 0, _, i, h => by omega
 | n + 1, h, i, hi => by
  simp only [cnt] at h
  by_cases hin : i = n
  ·subst hin
   cases hl : listed.getD i true with
   | true => rfl
   | false => simp [hl] at h
  ·exact cnt_zero (n := n) (by omega) i (by omega)
theorem cnt_pos {listed : Array Bool} : ∀ {n : Nat}, 0 < cnt listed n → ∃ i, i < n ∧ listed.getD i true = false ∧ ∀ j, j < i → listed.getD j true = true
 | 0, h => by simp [cnt] at h
 | n + 1, h => by
  by_cases h0 : 0 < cnt listed n
  ·obtain ⟨i, h1, h2, h3⟩ := cnt_pos h0
   exact ⟨i, by omega, h2, h3⟩
  ·simp only [cnt] at h
   have hz : cnt listed n = 0 := by omega
   refine ⟨n, by omega, ?_, fun j hj => cnt_zero hz j hj⟩
   cases hl : listed.getD n true with
   | false => rfl
   | true => simp [hl] at h; omega
def drawB (gds : List (Option Nat)) (ops : List Oper) (n : Nat) : Bool :=
 ordB gds ops n && decide (n ≤ ops.length) &&
 (decide (n = ops.length) || (Region.sinkB .any ops.toArray n && Region.chainB .any ops.toArray n)) &&
 Region.seqB .any ops.toArray (ops.length - n) n ((List.replicate n true ++ List.replicate (ops.length - n) false).toArray)
theorem getD_true_of {listed : Array Bool} {i : Nat} (hi : i < listed.size) (h : listed.getD i true = true) : listed.getD i false = true := by
 simp [hi] at h ⊢; exact h
theorem Inv.same {w w' : World} {m : Mem} (hi : Inv X w ρ m) (h : w'.heap = w.heap) : Inv X w' ρ m := by
 have hk : Kp X w ρ w' ρ := ⟨fun _ r h => ⟨r, h, Nat.le_refl _, fun _ => rfl⟩, fun b hb _ => ⟨hb, by rw [h]⟩⟩
 refine ⟨hi.len, fun i r e hr he => ?_, hi.apart, fun i r b hr hb => by rw [h]; exact hi.new i r b hr hb, fun b hb => by rw [h]; exact hi.out b hb, hi.gd.mono fun b _ => by rw [h]⟩
 obtain ⟨h1, h2⟩ := hi.at_ i r e hr he
 exact ⟨h1, h2.mono hk fun b _ => by rw [h]⟩
theorem drawn {id : Nat} {ops : List Oper} {gds : List (Option Nat)} (hg : gds = ops.map (·.dst)) (n : Nat) (hm : P.follows .mixedOrders = true) (hB : drawB gds ops n = true) {s s1 : S} (hgo : gdsOk gds s.n) (habs : Abs P gds (ops.take n) s s1)
  {Q : S → Prop} (htail : RunL P gds (ops.drop n) Q s1) {r : Option Nat} {a : Act} {w : World} {ρ : Rho} (hr : Rel X s a w ρ) {Q' : Exit → Act → World → Prop}
  (hQ : ∀ s' a' w' ρ', Q s' → Rel X s' a' w' ρ' → Tr w ρ w' ρ' → Q' .normal a' w') : (Code.region id ops.toArray true).wpIn (fence r) 0 P Q' a w := by
 simp only [drawB, Bool.and_eq_true, decide_eq_true_eq, Bool.or_eq_true] at hB
 obtain ⟨⟨⟨hord, hn⟩, hsink⟩, hseq⟩ := hB
 obtain ⟨xs, hxs, hs1, hy⟩ := habs.data 0
 have hxl : xs.length = n := by have := congrArg List.length hxs; simp at this; omega
 have hops : ∀ (i : Nat) (o : Oper), i < n → ops[i]? = some o → ∃ x, xs[i]? = some (o, x) := by
  intro i o hi ho
  have h1 : (xs.map (·.1))[i]? = some o := by rw [hxs]; simp [hi, ho]
  rw [List.getElem?_map] at h1
  cases hx : xs[i]? with
  | none => simp [hx] at h1
  | some ox => simp [hx] at h1; exact ⟨ox.2, by rw [← h1]⟩
 have hops' : ∀ (i : Nat) (ox : Oper × AV), xs[i]? = some ox → i < n ∧ ops[i]? = some ox.1 := by
  intro i ox hx
  have hi : i < n := by rw [← hxl]; exact (List.getElem?_eq_some_iff.1 hx).1
  refine ⟨hi, ?_⟩
  have h1 : (xs.map (·.1))[i]? = some ox.1 := by simp [hx]
  rw [hxs] at h1
  simpa [hi] using h1
 have head : ∀ (f : Nat) (listed : Array Bool) (a : Act) (w1 : World), HeadInv .any ops.toArray n listed → cnt listed n = f → Rel X { s with t := V xs (fun j => listed.getD j false) 0 s.t } a w1 ρ → Tr w ρ w1 ρ →
   wpAnyIn (fence r) 0 P .any ops.toArray Q' (f + (ops.length - n)) listed a w1 := by
  intro f
  induction f with
  | zero =>
   intro listed a w1 inv hc hrel htr
   have hall := cnt_zero hc
   have hl0 : listed = (List.replicate n true ++ List.replicate (ops.length - n) false).toArray := by
    apply Array.ext'
    apply List.ext_getElem?
    intro i
    have hsz := inv.size
    simp only [List.size_toArray] at hsz
    have hnl : n + (ops.length - n) = ops.length := by omega
    by_cases h1 : i < n
    ·have := hall i h1
     rw [List.getElem?_append_left (by simpa using h1)]
     have hlt : i < listed.size := by omega
     simp [hlt] at this
     simp [h1, hlt, this]
    ·by_cases h2 : i < ops.length
     ·have := inv.tail i (by omega) (by simpa using h2)
      have hlt : i < listed.size := by omega
      simp [hlt] at this
      rw [List.getElem?_append_right (by simp; omega)]
      rw [List.getElem?_replicate, List.length_replicate, if_pos (by omega)]
      simp [hlt, this]
     ·rw [List.getElem?_append_right (by simp; omega)]
      have hlt : ¬ i < listed.size := by omega
      rw [List.getElem?_replicate, List.length_replicate, if_neg (by omega)]
      simp; omega
   have hrel' : Rel X s1 a w1 ρ := by
    rw [hs1]
    rw [V_all xs _ 0 s.t (fun j hj => by rw [Nat.zero_add]; exact getD_true_of (by have := inv.size; simp at this; omega) (hall j (by omega)))] at hrel
    rw [V_all xs _ 0 s.t (fun j hj => rfl)]
    exact hrel
   have hl := RunL.sound (P := P) (ops := ops.toArray) (gds := gds) (by simpa using hg) (r := r) (Q' := Q') (ops.drop n) s1 a w1 ρ htail hrel'
    (fun s' a' w' ρ' q1 q2 q3 => hQ s' a' w' ρ' q1 q2 (htr.trans q3))
   have hlen : (ops.drop n).length = ops.length - n := by simp
   rw [Nat.zero_add, ← hlen]
   exact wpAnyIn_of_seq (ops.drop n) n listed a w1 (fun j => by simp) (by rw [hlen, hl0]; exact hseq) hl
  | succ f ih =>
   intro listed a w1 inv hc hrel htr
   have hsz : listed.size = ops.length := by have := inv.size; simpa using this
   obtain ⟨i0, hi0, hun0, hlow⟩ := cnt_pos (listed := listed) (n := n) (by omega)
   have hi0N : i0 < ops.length := by omega
   have hready0 : i0 ∈ Region.ready .any ops.toArray listed := by
    rw [mem_ready]
    refine ⟨hun0, ops[i0], by simp [hi0N], fun e he hb => ?_⟩
    have := ordB_back hord hi0 (List.getElem?_eq_getElem hi0N) e he hb
    exact getD_true_of (by omega) (hlow e.on this)
   rw [show f + 1 + (ops.length - n) = (f + (ops.length - n)) + 1 by omega]
   refine ⟨fun h0 => (by rw [h0] at hready0; cases hready0), fun i hi => ?_⟩
   have hin : i < n := by
    rcases Nat.lt_or_ge i n with h | h
    ·exact h
    ·exfalso
     rcases hsink with hsink | ⟨hs, hc'⟩
     ·obtain ⟨_, oi, hoi, _⟩ := mem_ready.1 hi
      have := (Array.getElem?_eq_some_iff.1 hoi).1
      simp at this; omega
     ·rcases Nat.lt_or_ge n ops.length with hnl | hnl
      ·exact tail_waits hs hc' (by simpa using hnl) inv _ i0 rfl hi0 hun0 i h hi
      ·obtain ⟨_, oi, hoi, _⟩ := mem_ready.1 hi
       have := (Array.getElem?_eq_some_iff.1 hoi).1
       simp at this; omega
   obtain ⟨hun, oi, hoi, hall⟩ := mem_ready.1 hi
   have hoi' : ops[i]? = some oi := by simpa using hoi
   obtain ⟨x, hx⟩ := hops i oi hin hoi'
   obtain ⟨hdst, hyield⟩ := hy i (oi, x) hx
   have hdst : dstOk s.n oi.dst := hdst
   have hyield : Yield P gds (V xs (upto 0 i) 0 s.t) s.m oi x := hyield
   have agree : ∀ (k : Nat), (k ∈ names gds oi ∨ oi.dst = some k) → ∀ (j : Nat) (ox : Oper × AV), xs[j]? = some ox → ox.1.dst = some k → j ≠ i → listed.getD j false = decide (j < i) := by
    intro k hk j ox hj hd hji
    obtain ⟨hjn, hoj⟩ := hops' j ox hj
    rcases Nat.lt_or_ge j i with hlt | hge
    ·have ht : touches gds ox.1 oi = true := by
      simp only [touches, hd, Bool.or_eq_true, beq_iff_eq]
      left
      rcases hk with hk | hk
      ·left; simpa using hk
      ·right; exact hk
     obtain ⟨e, he, hb, hon⟩ := ordB_dep hord hin hlt hoj hoi' ht
     have := hall e he hb
     rw [hon] at this
     simp [this, hlt]
    ·have hlt : i < j := by omega
     have ht : touches gds oi ox.1 = true := by
      simp only [touches, hd, Bool.or_eq_true]
      rcases hk with hk | hk
      ·right; simpa using hk
      ·left; rw [hk]; simp
     obtain ⟨e, he, hb, hon⟩ := ordB_dep hord hjn hlt hoi' hoj ht
     cases hlj : listed.getD j false with
     | false => simp; omega
     | true =>
      have := inv.closed j ox.1 (by simpa using hoj) hlj e he hb
      rw [hon, getD_both hun] at this
      cases this
   have hnames : ∀ k, k ∈ gnames gds oi.guard ∨ k ∈ onames oi.op → R X w1 ρ (look (V xs (upto 0 i) 0 s.t) k) (a.tmps.getD k undef) := by
    intro k hk
    have hk' : k ∈ names gds oi := by simp only [names, List.mem_append]; exact hk
    have e1 : look (V xs (upto 0 i) 0 s.t) k = look (V xs (fun j => listed.getD j false) 0 s.t) k := by
     refine V_congr xs 0 _ _ rfl fun j ox hj hd => ?_
     simp only [Nat.zero_add, upto]
     by_cases hji : j = i
     ·subst hji
      rw [getD_both hun]; simp
     ·exact (agree k (.inl hk') j ox hj hd hji).symm
    rw [e1]; exact hrel.tmps k
   obtain ⟨k1, k2⟩ := hyield.2 X w1 ρ a hrel.inv hnames (fun k hk => by have := hrel.size; simp only at this; rw [this]; exact gnames_lt hgo oi.guard k hk)
   have next : ∀ (v : Value) (w2 : World), R X w2 ρ x v → Inv X w2 ρ s.m → Tr w1 ρ w2 ρ → wpAnyIn (fence r) 0 P .any ops.toArray Q' (f + (ops.length - n)) (listed.setIfInBounds i true) (a.put oi.dst v) w2 := by
    intro v w2 hxv hinv htr2
    refine ih _ _ _ (inv.set hi hin) (by have := cnt_set hun n hin; omega) ?_ (htr.trans htr2)
    have hrel2 := hrel.step htr2 (m' := s.m) hinv
    have hrel3 := hrel2.put (d := oi.dst) (x := x) (v := v) hdst hxv
    rw [S.put_eq] at hrel3
    refine ⟨fun k => ?_, hrel3.size, hrel3.inv, hrel3.defers⟩
    ·have h3 := hrel3.tmps k
     have e1 : look (V xs (fun j => (listed.setIfInBounds i true).getD j false) 0 s.t) k = look (upd (V xs (fun j => listed.getD j false) 0 s.t) oi.dst x) k := by
      have hset : ∀ j, j ≠ i → (listed.setIfInBounds i true).getD j false = listed.getD j false := fun j hj => getD_set_ne false (Ne.symm hj)
      have hseti : (listed.setIfInBounds i true).getD i false = true := by
       have : i < listed.size := by omega
       simp [this]
      by_cases hd : oi.dst = some k
      ·rw [hd, look_upd_eq]
       have e2 : look (V xs (fun j => (listed.setIfInBounds i true).getD j false) 0 s.t) k = look (V xs (upto 0 (i + 1)) 0 s.t) k := by
        refine V_congr xs 0 _ _ rfl fun j ox hj hdj => ?_
        simp only [Nat.zero_add, upto]
        by_cases hji : j = i
        ·subst hji; rw [hseti]; simp
        ·rw [hset j hji, agree k (.inr hd) j ox hj hdj hji]
         congr 1; apply propext; omega
       rw [e2]
       exact V_last xs 0 i s.t k oi x hx hd
      ·rw [look_upd_ne hd]
       refine V_congr xs 0 _ _ rfl fun j ox hj hdj => ?_
       simp only [Nat.zero_add]
       refine hset j fun hji => ?_
       subst hji
       rw [hx] at hj
       cases hj
       exact hd hdj
     rw [e1]; exact h3
   unfold wpOpIn
   simp only [hoi]
   have hyg : yieldedG gds a.tmps = yielded ops.toArray a.tmps := by rw [← yieldedG_eq]; simp [hg]
   rw [← hyg]
   split
   ·rename_i hw
    exact gives_wpIn hyield.1 (k1 hw) fun v w' ⟨q1, q2, q3⟩ => next v w' q1 q2 q3
   ·rename_i hw
    exact ⟨fun _ _ => trivial, next undef w1 (k2 (by simpa using hw)) hrel.inv (Tr.refl _ _)⟩
 refine wpIn_region_any hm ?_
 have hdrew : Tr w ρ { w with drawn := w.drawn + 1 } ρ := ⟨rfl, rfl, rfl, Nat.le_refl _, fun _ r h => ⟨r, h, Nat.le_refl _, fun _ => rfl⟩, fun _ h _ => ⟨h, rfl⟩⟩
 have hrel0 : Rel X { s with t := V xs (fun j => (Array.replicate ops.length false).getD j false) 0 s.t } a { w with drawn := w.drawn + 1 } ρ := by
  rw [V_none xs _ 0 s.t (fun j _ => by rw [Nat.zero_add]; exact getD_replicate_false _ _)]
  have hi : Inv X { w with drawn := w.drawn + 1 } ρ s.m := hr.inv.same rfl
  exact hr.step hdrew hi
 have inv0 : HeadInv .any ops.toArray n (Array.replicate ops.length false) :=
  ⟨by simp, fun j oj _ hl => (by rw [getD_replicate_false] at hl; cases hl), fun t _ ht => getD_in (by simpa using ht) (getD_replicate_false _ _)⟩
 have hcnt : ∀ k, k ≤ ops.length → cnt (Array.replicate ops.length false) k = k := by
  intro k
  induction k with
  | zero => intro _; rfl
  | succ k ih =>
   intro hk
   simp only [cnt]
   rw [ih (by omega)]
   have : (Array.replicate ops.length false).getD k true = false := getD_in (by simp; omega) (getD_replicate_false _ _)
   simp [this]
 have := head n _ a _ inv0 (hcnt n hn) hrel0 hdrew
 rw [show n + (ops.length - n) = ops.length by omega] at this
 simpa using this
end Go.Vg
namespace Go.Vg
open Go.RowKit
variable {P : Program} {X : Nat → Prop} {w : World} {ρ : Rho}
def Wp (P : Program) (r : Option Nat) (c : Code) (Q : Exit → S → Prop) (s : S) : Prop :=
 ∀ (X : Nat → Prop) (a : Act) (w : World) (ρ : Rho), Rel X s a w ρ → c.wpIn (fence r) 0 P (fun e a' w' => ∃ s' ρ', Q e s' ∧ Rel X s' a' w' ρ' ∧ Tr w ρ w' ρ') a w
def tQ (next : S → Prop) (Q : Exit → S → Prop) : Exit → S → Prop
 | .normal, s => next s
 | e, s => Q e s
def bQ (id : Nat) (Q : Exit → S → Prop) : Exit → S → Prop
 | .exit id', s => if id' = id then Q .normal s else Q (.exit id') s
 | e, s => Q e s
def sQ (P : Program) (r : Option Nat) (y : Code) (Q : Exit → S → Prop) (e : Exit) (s : S) : Prop := tQ (Wp P r y Q) Q e s
section
variable {r : Option Nat} {Q : Exit → S → Prop} {s : S}
theorem Wp.mono {c : Code} {Q' : Exit → S → Prop} (h : Wp P r c Q s) (hq : ∀ e s, Q e s → Q' e s) : Wp P r c Q' s :=
 fun X a w ρ hr => Go.wpIn_mono (h X a w ρ hr) fun e a w ⟨s', ρ', q, h1, h2⟩ => ⟨s', ρ', hq e s' q, h1, h2⟩
theorem Wp.skip (h : Q .normal s) : Wp P r .skip Q s := fun _ _ w ρ hr => wpIn_skip ⟨s, ρ, h, hr, Tr.refl w ρ⟩
theorem Wp.exit {id : Nat} (h : Q (.exit id) s) : Wp P r (.exit id) Q s := fun _ _ w ρ hr => wpIn_exit ⟨s, ρ, h, hr, Tr.refl w ρ⟩
theorem Wp.ret (h : Q .ret s) : Wp P r .ret Q s := fun _ _ w ρ hr => wpIn_ret ⟨s, ρ, h, hr, Tr.refl w ρ⟩
theorem Wp.seq {x y : Code} (h : Wp P r x (sQ P r y Q) s) : Wp P r (.seq x y) Q s := by
 intro X a w ρ hr
 replace h : Wp P r x (tQ (Wp P r y Q) Q) s := h
 refine wpIn_seq (Go.wpIn_mono (h X a w ρ hr) ?_)
 rintro e a' w' ⟨s', ρ', q, h1, h2⟩
 cases e with
 | normal => exact Go.wpIn_mono (q X a' w' ρ' h1) fun e a w ⟨s2, ρ2, q2, k1, k2⟩ => ⟨s2, ρ2, q2, k1, h2.trans k2⟩
 | _ => exact ⟨s', ρ', q, h1, h2⟩
theorem Wp.block {id : Nat} {c : Code} (h : Wp P r c (bQ id Q) s) : Wp P r (.block id c) Q s := by
 intro X a w ρ hr
 refine wpIn_block (Go.wpIn_mono (h X a w ρ hr) ?_)
 rintro e a' w' ⟨s', ρ', q, h1, h2⟩
 cases e with
 | exit id' =>
  simp only [Exit.inBlock]
  simp only [bQ] at q
  split
  ·rename_i he; rw [if_pos he] at q; exact ⟨s', ρ', q, h1, h2⟩
  ·rename_i he; rw [if_neg he] at q; exact ⟨s', ρ', q, h1, h2⟩
 | _ => exact ⟨s', ρ', q, h1, h2⟩
theorem Wp.cond {c : Operand} {x y : Code} {b : Bool} (hc : evo s.t c = .bool b) (h1 : b = true → Wp P r x Q s) (h2 : b = false → Wp P r y Q s) : Wp P r (.cond c x y) Q s := by
 intro X a w ρ hr
 have he := evo_rel hr.tmps c
 rw [hc, R_val] at he
 exact wpIn_cond_split he (fun e => h1 e X a w ρ hr) (fun e => h2 e X a w ρ hr)
def Le (s s' : S) : Prop := (∀ p ∈ s'.t, look s.t p.1 = p.2) ∧ s.m = s'.m ∧ s.n = s'.n ∧ s.d = s'.d
theorem look_mem : ∀ (t : List (Nat × AV)) (n : Nat), look t n = .any ∨ (n, look t n) ∈ t
 | [], _ => .inl rfl
 | (k, x) :: t, n => by
  simp only [look]
  split
  ·rename_i h; subst h; right; simp
  ·rcases look_mem t n with h | h
   ·exact .inl h
   ·right; simp [h]
theorem Le.rel {s s' : S} (h : Le s s') {a : Act} (hr : Rel X s a w ρ) : Rel X s' a w ρ := by
 obtain ⟨h1, h2, h3, h4⟩ := h
 refine ⟨fun n => ?_, by rw [hr.size, h3], by rw [← h2]; exact hr.inv, by rw [← h4]; exact hr.defers⟩
 rcases look_mem s'.t n with e | e
 ·rw [e]; trivial
 ·have := h1 _ e
  simp only at this
  rw [← this]; exact hr.tmps n
theorem Wp.le {c : Code} {s' : S} (h : Le s s') (hw : Wp P r c Q s') : Wp P r c Q s := fun X a w ρ hr => hw X a w ρ (h.rel hr)
end
theorem wpIn_loop_ghost {F : Fence} {n : Nat} {Q : Exit → Act → World → Prop} {a : Act} {w : World} {c : Code} {β : Type} (I : β → Act → World → Prop) (μ : β → Nat) (b0 : β) (h₀ : I b0 a w)
  (round : ∀ b a w, I b a w → c.wpIn F n P (Exit.then (fun a' w' => ∃ b', I b' a' w' ∧ μ b' < μ b) Q) a w) : (Code.loop c).wpIn F n P Q a w := by
 intro b k cs hro hb hr
 have key : ∀ j g a w, μ g = j → I g a w →
   ∃ e a' w', Q e a' w' ∧ ArrivesIn (Machine.fenced P F) P (lone (b.atR a (.code c :: .inLoop c :: k)) cs w) b k cs e a' w' := by
  intro j
  induction j using Nat.strongRecOn with
  | _ j ih =>
   intro g a w hj hI
   obtain ⟨e, a₁, w₁, hq, harr⟩ := round g a w hI b (.inLoop c :: k) cs hro hb hr
   cases e with
   | normal =>
    obtain ⟨g', hI₁, hlt⟩ := hq
    obtain ⟨e₂, a₂, w₂, hq₂, harr₂⟩ := ih (μ g') (hj ▸ hlt) g' a₁ w₁ rfl hI₁
    exact ⟨e₂, a₂, w₂, hq₂, .of_steps (StepsIn.trans harr (.one (fenced_calm hb hr rfl) stepR_inLoop)) harr₂⟩
   | exit id => exact ⟨_, a₁, w₁, hq, .pass (x := .inLoop c) rfl (fun _ _ => .inl (by simp)) harr⟩
   | goto l => exact ⟨_, a₁, w₁, hq, .pass (x := .inLoop c) rfl (fun _ _ => .inl (by simp)) harr⟩
   | ret => exact ⟨_, a₁, w₁, hq, .pass (x := .inLoop c) rfl (fun _ _ => .inl (by simp)) harr⟩
   | panic ch => exact ⟨_, a₁, w₁, hq, .pass (x := .inLoop c) rfl (fun _ _ => .inl (by simp)) harr⟩
   | outgrown => exact ⟨_, a₁, w₁, hq, .pass (x := .inLoop c) rfl (fun _ _ => .inl (by simp)) harr⟩
 obtain ⟨e, a', w', hq, harr⟩ := key _ b0 a w rfl h₀
 exact ⟨e, a', w', hq, .of_steps (.one (fenced_calm hb hr rfl) stepR_loop) harr⟩
theorem Wp.loop {r : Option Nat} {Q : Exit → S → Prop} {s : S} {c : Code} {β : Type} (I : β → S) (C : β → Prop) (μ : β → Nat) (b0 : β) (h0 : Le s (I b0)) (hC : C b0)
  (round : ∀ b, C b → Wp P r c (tQ (fun s' => ∃ b', Le s' (I b') ∧ C b' ∧ μ b' < μ b) Q) (I b)) : Wp P r (.loop c) Q s := by
 intro X a w ρ hr
 refine wpIn_loop_ghost (fun b a' w' => C b ∧ ∃ ρ', Rel X (I b) a' w' ρ' ∧ Tr w ρ w' ρ') μ b0 ⟨hC, ρ, h0.rel hr, Tr.refl w ρ⟩ ?_
 rintro b a' w' ⟨hCb, ρ', hr', ht⟩
 refine Go.wpIn_mono (round b hCb X a' w' ρ' hr') ?_
 rintro e a2 w2 ⟨s2, ρ2, q, h1, h2⟩
 cases e with
 | normal =>
  obtain ⟨b', k1, k2, k3⟩ := q
  exact ⟨b', ⟨k2, ρ2, k1.rel h1, ht.trans h2⟩, k3⟩
 | _ => exact ⟨s2, ρ2, q, h1, ht.trans h2⟩
theorem Wp.region {r : Option Nat} {Q : Exit → S → Prop} {s : S} {id : Nat} {ops : List Oper} (h : RunL P (ops.map (·.dst)) ops (Q .normal) s) : Wp P r (.region id ops.toArray false) Q s := by
 intro X a w ρ hr
 refine wpIn_region_lit (RunL.sound (gds := ops.map (·.dst)) (by simp) ops s a w ρ h hr ?_)
 intro s' a' w' ρ' q1 q2 q3
 exact ⟨s', ρ', q1, q2, q3⟩
theorem Wp.drawn {r : Option Nat} {Q : Exit → S → Prop} {s s1 : S} {id : Nat} {ops : List Oper} (n : Nat) (hm : P.follows .mixedOrders = true) (hB : drawB (ops.map (·.dst)) ops n = true) (hg : gdsOk (ops.map (·.dst)) s.n)
  (habs : Abs P (ops.map (·.dst)) (ops.take n) s s1) (h : RunL P (ops.map (·.dst)) (ops.drop n) (Q .normal) s1) : Wp P r (.region id ops.toArray true) Q s :=
 fun X a w ρ hr => Go.Vg.drawn rfl n hm hB hg habs h hr fun s' a' w' ρ' q1 q2 q3 => ⟨s', ρ', q1, q2, q3⟩
mutual
def AV.ok (k : Nat) : AV → Prop
 | .val _ => True
 | .any => True
 | .lst _ l => okL k l
 | .osl id _ _ _ => id < k
 | .emp => True
 | .ref xs _ => okL k xs
 | .optr id _ _ _ => id < k
 | .agg xs => okL k xs
 | .tup xs => okL k xs
 | .clo _ caps => okL k caps
 | .bnd _ xs => okL k xs
 | .opt _ x => x.ok k
 | .yld id _ => id < k
 | .omap id _ => id < k
def okL (k : Nat) : List AV → Prop
 | [] => True
 | x :: l => x.ok k ∧ okL k l
end
theorem okL_iff {k : Nat} : ∀ {l : List AV}, okL k l ↔ ∀ x ∈ l, x.ok k
 | [] => by simp [okL]
 | x :: l => by simp [okL, okL_iff]
@[simp] theorem okL_map {α : Type} {k : Nat} {f : α → AV} {l : List α} (h : ∀ x, (f x).ok k) : okL k (l.map f) := by
 rw [okL_iff]; intro x hx; obtain ⟨y, _, rfl⟩ := List.mem_map.1 hx; exact h y
theorem ok_ints (k : Nat) (l : List Int) : (AV.ints l).ok k := okL_map fun _ => trivial
theorem take_kp {k : Nat} {i : Nat} {r : RE} (hi : i < k) (h : ρ[i]? = some r) : (ρ.take k)[i]? = some r := by simp [hi, h]
theorem Free.take {b : Nat} (h : Free X ρ b) (k : Nat) : Free X (ρ.take k) b := ⟨h.1, fun r hr => h.2 r (List.mem_of_mem_take hr)⟩
mutual
theorem Rp.take (k : Nat) : ∀ (x : AV), x.ok k → (∀ v, R X w ρ x v → R X w (ρ.take k) x v) ∧ (∀ sz b o, Re X w ρ x sz b o → Re X w (ρ.take k) x sz b o)
 | .val _, _ => ⟨fun _ h => h, fun _ _ _ h => h⟩
 | .any, _ => ⟨fun _ h => h, fun _ _ _ h => h⟩
 | .lst sz l, hk => by
  have key : ∀ v, R X w ρ (.lst sz l) v → R X w (ρ.take k) (.lst sz l) v := by
   rintro v ⟨A, c, h1, h2, h3, h4⟩
   refine ⟨A, c, h1, h2, h3, fun hl => ?_⟩
   obtain ⟨b, o, hA, hf, hs, hr⟩ := h4 hl
   exact ⟨b, o, hA, hf.take k, hs, Rrow.taken k l hk sz b o hr⟩
  exact ⟨key, fun _ _ _ h => OneAt.mono (fun _ => rfl) h key⟩
 | .osl id ver off len, hk => by
  have key : ∀ v, R X w ρ (.osl id ver off len) v → R X w (ρ.take k) (.osl id ver off len) v := by
   rintro v ⟨A, c, r, h1, h2, h3, h4⟩
   exact ⟨A, c, r, h1, take_kp hk h2, h3, h4⟩
  exact ⟨key, fun _ _ _ h => OneAt.mono (fun _ => rfl) h key⟩
 | .emp, _ => ⟨fun _ h => h, fun _ _ _ h => h⟩
 | .ref xs j, hk => by
  have key : ∀ v, R X w ρ (.ref xs j) v → R X w (ρ.take k) (.ref xs j) v := by
   rintro v ⟨b, o, h1, hj, hf, hr⟩
   exact ⟨b, o, h1, hj, hf.take k, Rcells.taken k xs hk b o hr⟩
  exact ⟨key, fun _ _ _ h => OneAt.mono (fun _ => rfl) h key⟩
 | .optr id ver i j, hk => by
  have key : ∀ v, R X w ρ (.optr id ver i j) v → R X w (ρ.take k) (.optr id ver i j) v := by
   rintro v ⟨A, r, h1, h2, h3, h4⟩
   exact ⟨A, r, h1, take_kp hk h2, h3, h4⟩
  exact ⟨key, fun _ _ _ h => OneAt.mono (fun _ => rfl) h key⟩
 | .agg xs, hk => ⟨fun _ ⟨vs, h1, h2⟩ => ⟨vs, h1, Rvals.taken k xs hk vs h2⟩, fun _ b o h => ⟨h.1, Rcells.taken k xs hk b o h.2⟩⟩
 | .tup xs, hk => ⟨fun _ ⟨vs, h1, h2⟩ => ⟨vs, h1, Rvals.taken k xs hk vs h2⟩, fun _ _ _ h => h⟩
 | .clo f caps, hk => by
  have key : ∀ v, R X w ρ (.clo f caps) v → R X w (ρ.take k) (.clo f caps) v := by
   rintro v ⟨vs, h1, h2⟩
   exact ⟨vs, h1, Rvals.taken k caps hk vs h2⟩
  exact ⟨key, fun _ _ _ h => OneAt.mono (fun _ => rfl) h key⟩
 | .bnd f xs, hk => by
  have key : ∀ v, R X w ρ (.bnd f xs) v → R X w (ρ.take k) (.bnd f xs) v := by
   rintro v ⟨vs, h1, h2⟩
   exact ⟨vs, h1, Rvals.taken k xs hk vs h2⟩
  exact ⟨key, fun _ _ _ h => OneAt.mono (fun _ => rfl) h key⟩
 | .opt g x, hk => ⟨fun v h => ⟨fun e => (Rp.take k x hk).1 v (h.1 e), h.2⟩, fun _ _ _ h => h⟩
 | .yld id ver, hk => by
  have key : ∀ v, R X w ρ (.yld id ver) v → R X w (ρ.take k) (.yld id ver) v := by
   rintro v ⟨l, r, h1, h2, h3, h4⟩
   exact ⟨l, r, h1, take_kp hk h2, h3, h4⟩
  exact ⟨key, fun _ _ _ h => OneAt.mono (fun _ => rfl) h key⟩
 | .omap id ver, hk => by
  have key : ∀ v, R X w ρ (.omap id ver) v → R X w (ρ.take k) (.omap id ver) v := by
   rintro v ⟨l, r, h1, h2, h3, h4⟩
   exact ⟨l, r, h1, take_kp hk h2, h3, h4⟩
  exact ⟨key, fun _ _ _ h => OneAt.mono (fun _ => rfl) h key⟩
theorem Rvals.taken (k : Nat) : ∀ (xs : List AV), okL k xs → ∀ (vs : List Value), Rvals X w ρ xs vs → Rvals X w (ρ.take k) xs vs
 | [], _, _, h => h
 | x :: xs, hk, _, ⟨v, vs', h1, h2, h3⟩ => ⟨v, vs', h1, (Rp.take k x hk.1).1 v h2, Rvals.taken k xs hk.2 vs' h3⟩
theorem Rcells.taken (k : Nat) : ∀ (xs : List AV), okL k xs → ∀ (b o : Nat), Rcells X w ρ xs b o → Rcells X w (ρ.take k) xs b o
 | [], _, _, _, _ => trivial
 | x :: xs, hk, b, o, ⟨⟨v, hv, h1, hx⟩, h2⟩ => ⟨⟨v, hv, h1, (Rp.take k x hk.1).1 v hx⟩, Rcells.taken k xs hk.2 b (o + 1) h2⟩
theorem Rrow.taken (k : Nat) : ∀ (l : List AV), okL k l → ∀ (sz b o : Nat), Rrow X w ρ l sz b o → Rrow X w (ρ.take k) l sz b o
 | [], _, _, _, _, _ => trivial
 | x :: l, hk, sz, b, o, ⟨h1, h2⟩ => ⟨(Rp.take k x hk.1).2 sz b o h1, Rrow.taken k l hk.2 sz b (o + sz) h2⟩
end
def Kind.ok (k : Nat) : Kind → Prop
 | .row _ l => okL k l
 | .dfr => True
 | .lrec t _ _ _ _ _ _ => okL k (t.map (·.2))
 | .mp l => okL k (l.map (·.2))
 | .ext _ _ => True
theorem look_ok {k : Nat} : ∀ {t : List (Nat × AV)}, okL k (t.map (·.2)) → ∀ n, (look t n).ok k
 | [], _, _ => trivial
 | (j, x) :: t, h, n => by
  simp only [look]
  split
  ·exact h.1
  ·exact look_ok h.2 n
theorem KindAt.take {k : Nat} {r : RE} {kd : Kind} (hk : kd.ok k) (h : KindAt X w ρ r kd) : KindAt X w (ρ.take k) r kd := by
 cases kd with
 | row sz l =>
  obtain ⟨q1, q2, q3⟩ := h
  exact ⟨q1, q2, fun b hb => let ⟨r1, r2, r3⟩ := q3 b hb; ⟨r1, r2, Rrow.taken k l hk sz b r.base r3⟩⟩
 | dfr => exact h
 | lrec t n ps asg body pe busy =>
  obtain ⟨b', rec, q1, q2, q3, q4, q5, q6, q7, q8, q9⟩ := h
  exact ⟨b', rec, q1, q2, q3, q4, q5, q6, q7, q8, fun j => (Rp.take k _ (look_ok hk j)).1 _ (q9 j)⟩
 | mp l =>
  obtain ⟨q0, b', es, clock, q1, q2, q3⟩ := h
  have := Rents.map (f := id) (fun x => x.ok k) (fun x v hx q => (Rp.take k x hx).1 v q) (fun kx hx => okL_iff.1 hk _ (List.mem_map.2 ⟨kx, hx, rfl⟩)) q3
  exact ⟨q0, b', es, clock, q1, q2, by simpa using this⟩
 | ext bl o => exact h
theorem Inv.take {m : Mem} (hi : Inv X w ρ m) (k : Nat) (hk : ∀ e ∈ m.take k, e.kind.ok k) : Inv X w (ρ.take k) (m.take k) := by
 have get : ∀ {α : Type} {l : List α} {i : Nat} {x : α}, (l.take k)[i]? = some x → i < k ∧ l[i]? = some x := by
  intro α l i x h
  rw [List.getElem?_take] at h
  split at h
  ·rename_i hlt; exact ⟨hlt, h⟩
  ·cases h
 refine ⟨by simp [hi.len], fun i r e hr he => ?_, fun i j r r' b hr hr' => hi.apart i j r r' b (get hr).2 (get hr').2, fun i r b hr => hi.new i r b (get hr).2, hi.out, hi.gd.sub fun r hr => List.mem_of_mem_take hr⟩
 obtain ⟨h1, h2⟩ := hi.at_ i r e (get hr).2 (get he).2
 exact ⟨h1, h2.take (hk e (List.mem_of_getElem? he))⟩
theorem Tr.take {w w' : World} {ρ ρ' : Rho} (h : Tr w ρ w' ρ') {k : Nat} (hk : ρ.length ≤ k) : Tr w ρ w' (ρ'.take k) := by
 refine ⟨h.os, h.tape, h.output, h.size, fun i r hr => ?_, fun b hb hlt => ?_⟩
 ·obtain ⟨r', k1, k2, k3⟩ := h.vers i r hr
  have hi : i < ρ.length := (List.getElem?_eq_some_iff.1 hr).1
  exact ⟨r', take_kp (by omega) k1, k2, k3⟩
 ·obtain ⟨k1, k2⟩ := h.block b hb hlt
  exact ⟨fun r hr => k1 r (List.mem_of_mem_take hr), k2⟩
end Go.Vg
namespace Go.Vg
open Go.RowKit
variable {P : Program} {X : Nat → Prop} {w : World} {ρ : Rho}
theorem getElem?_set_cases {α : Type} {l : List α} {i id : Nat} {x y : α} (h : (l.set id x)[i]? = some y) : (i = id ∧ id < l.length ∧ y = x) ∨ (i ≠ id ∧ l[i]? = some y) := by
 by_cases hid : i = id
 ·subst hid
  have hlt : i < l.length := by have := (List.getElem?_eq_some_iff.1 h).1; simpa using this
  rw [List.getElem?_set_self hlt] at h
  exact .inl ⟨rfl, hlt, (Option.some.inj h).symm⟩
 ·rw [List.getElem?_set_ne (Ne.symm hid)] at h
  exact .inr ⟨hid, h⟩
theorem Inv.renew {m : Mem} (hi : Inv X w ρ m) {id : Nat} {r r' : RE} (hr : ρ[id]? = some r) {w' : World} (hos : w'.os = w.os) (htp : w'.tape = w.tape) (hou : w'.output = w.output) (hsz : w.heap.size ≤ w'.heap.size)
  (hver : r'.ver = r.ver + 1) (hoth : ∀ b, b < w.heap.size → r.blk ≠ some b → w'.heap[b]? = w.heap[b]?) (hblk : ∀ b, r'.blk = some b → (r.blk = some b ∨ w.heap.size ≤ b) ∧ b < w'.heap.size) {k : Kind}
  (hk : ∀ ρ', ρ' = ρ.set id r' → Tr w ρ w' ρ' → KindAt X w' ρ' r' k) : Tr w ρ w' (ρ.set id r') ∧ Inv X w' (ρ.set id r') (m.set id ⟨r.ver + 1, k⟩) := by
 have htr : Tr w ρ w' (ρ.set id r') := by
  refine ⟨hos, htp, hou, hsz, fun i r0 h0 => ?_, fun b hb hlt => ⟨fun r0 h0 => ?_, hoth b hlt fun e => hb r (List.mem_of_getElem? hr) e⟩⟩
  ·by_cases hid : i = id
   ·subst hid
    rw [hr] at h0; cases h0
    exact ⟨r', by rw [List.getElem?_set_self (List.getElem?_eq_some_iff.1 hr).1], by omega, fun e => by omega⟩
   ·exact ⟨r0, by rw [List.getElem?_set_ne (Ne.symm hid)]; exact h0, Nat.le_refl _, fun _ => rfl⟩
  ·obtain ⟨i, hi'⟩ := List.getElem?_of_mem h0
   rcases getElem?_set_cases hi' with ⟨_, _, rfl⟩ | ⟨_, h1⟩
   ·intro e
    rcases (hblk b e).1 with h | h
    ·exact hb r (List.mem_of_getElem? hr) h
    ·omega
   ·exact hb r0 (List.mem_of_getElem? h1)
 refine ⟨htr, by simp [hi.len], fun i r0 e h0 he => ?_, fun i j r1 r2 b h1 h2 hb1 hb2 => ?_, fun i r0 b h0 hb => ?_, fun b hb => Nat.lt_of_lt_of_le (hi.out b hb) hsz, hi.gd.tr htr⟩
 ·rcases getElem?_set_cases h0 with ⟨rfl, _, rfl⟩ | ⟨hne, h1⟩
  ·rcases getElem?_set_cases he with ⟨_, _, rfl⟩ | ⟨hne, _⟩
   ·exact ⟨hver, hk _ rfl htr⟩
   ·exact absurd rfl hne
  ·rcases getElem?_set_cases he with ⟨h, _, _⟩ | ⟨_, he⟩
   ·exact absurd h hne
   obtain ⟨q0, q⟩ := hi.at_ i r0 e h1 he
   exact ⟨q0, q.mono htr.kp fun b' hb' => hoth b' (hi.new i r0 b' h1 hb').1 fun e' => hne (hi.apart i id r0 r b' h1 hr hb' e')⟩
 ·rcases getElem?_set_cases h1 with ⟨rfl, _, rfl⟩ | ⟨hn1, g1⟩ <;> rcases getElem?_set_cases h2 with ⟨rfl, _, rfl⟩ | ⟨hn2, g2⟩
  ·rfl
  ·rcases (hblk b hb1).1 with h | h
   ·exact hi.apart _ _ r r2 b hr g2 h hb2
   ·have := (hi.new j r2 b g2 hb2).1; omega
  ·rcases (hblk b hb2).1 with h | h
   ·exact hi.apart _ _ r1 r b g1 hr hb1 h
   ·have := (hi.new i r1 b g1 hb1).1; omega
  ·exact hi.apart i j r1 r2 b g1 g2 hb1 hb2
 ·rcases getElem?_set_cases h0 with ⟨rfl, _, rfl⟩ | ⟨hn1, g1⟩
  ·refine ⟨(hblk b hb).2, fun hx => ?_⟩
   rcases (hblk b hb).1 with h | h
   ·exact (hi.new _ r b hr h).2 hx
   ·have := hi.out b hx; omega
  ·have := hi.new i r0 b g1 hb
   exact ⟨Nat.lt_of_lt_of_le this.1 hsz, this.2⟩
end Go.Vg
