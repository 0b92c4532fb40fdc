/- The abstract machine, part O: append and slice literals; all operations that write or make memory, in one theorem; the rules. -/
import Derived.Test.YtljchlkmalidnaaVgN
set_option linter.all false
set_option linter.unusedVariables false
namespace Go.Vg
open Go.RowKit
variable {P : Program} {X : Nat → Prop} {w : World} {ρ : Rho}

/-- an entry that holds nothing yet -/
theorem Inv.adopt {m : Mem} (hi : Inv X w ρ m) (sz : Nat) : Tr w ρ w (ρ ++ [⟨0, none, 0, 0, sz⟩]) ∧ Inv X w (ρ ++ [⟨0, none, 0, 0, sz⟩]) (m ++ [⟨0, .row sz []⟩]) := by
  have get : ∀ (i : Nat) (r' : RE), (ρ ++ [(⟨0, none, 0, 0, sz⟩ : RE)])[i]? = some r' → (i < ρ.length ∧ ρ[i]? = some r') ∨ (i = ρ.length ∧ r' = ⟨0, none, 0, 0, sz⟩) := by
    intro i r' h
    by_cases hlt : i < ρ.length
    · rw [List.getElem?_append_left hlt] at h; exact .inl ⟨hlt, h⟩
    · have hi' : i = ρ.length := by
        have := (List.getElem?_eq_some_iff.1 h).1
        simp at this; omega
      subst hi'
      rw [List.getElem?_append_right (Nat.le_refl _)] at h
      simp at h; exact .inr ⟨rfl, h.symm⟩
  have htr : Tr w ρ w (ρ ++ [⟨0, none, 0, 0, sz⟩]) := by
    refine ⟨rfl, rfl, rfl, Nat.le_refl _, fun i r hr => ⟨r, ?_, Nat.le_refl _, fun _ => rfl⟩, fun b hb hlt => ⟨fun r hr => ?_, rfl⟩⟩
    · rw [List.getElem?_append_left (List.getElem?_eq_some_iff.1 hr).1]; exact hr
    · rcases List.mem_append.1 hr with h | h
      · exact hb r h
      · have : r = ⟨0, none, 0, 0, sz⟩ := by simpa using h
        subst this; simp
  refine ⟨htr, by simp [hi.len], fun i r e hr he => ?_, fun i j r r' b h1 h2 hb1 hb2 => ?_, fun i r b hr hb => ?_, hi.out, hi.gd.tr htr⟩
  · rcases get i r hr with ⟨hlt, h⟩ | ⟨rfl, rfl⟩
    · rw [List.getElem?_append_left (by rw [← hi.len]; exact hlt)] at he
      obtain ⟨q0, q⟩ := hi.at_ i r e h he
      exact ⟨q0, q.mono htr.kp fun _ _ => rfl⟩
    · rw [hi.len] at he
      simp at he; subst he
      exact ⟨rfl, rfl, fun _ => rfl, fun b hb => by cases hb⟩
  · rcases get i r h1 with ⟨_, g1⟩ | ⟨_, rfl⟩
    · rcases get j r' h2 with ⟨_, g2⟩ | ⟨_, rfl⟩
      · exact hi.apart i j r r' b g1 g2 hb1 hb2
      · cases hb2
    · cases hb1
  · rcases get i r hr with ⟨_, g1⟩ | ⟨_, rfl⟩
    · exact hi.new i r b g1 hb
    · cases hb

theorem tby_some {e n : Nat} {i : TypeInfo} (h : tby P e = some n) (hi : P.info? e = some i) : i.bytes = n := by unfold tby at h; simpa [hi] using h

/-- the row of a grown slice -/
theorem grown_row {m : Mem} (hi : Inv X w ρ m) {l1 l2 : List AV} {sz : Nat} {olds news : List Value} {rest : Array Value} {e : TypeId}
    (ho : olds.length = l1.length * sz) (hn : news.length = l2.length * sz)
    (hR1 : ∀ {w' : World} {ρ' : Rho} {b' o' : Nat}, Kp X w ρ w' ρ' → (∀ j v, olds[j]? = some v → w'.cell? ⟨b', o' + j, none⟩ = some v) → Rrow X w' ρ' l1 sz b' o')
    (hR2 : ∀ {w' : World} {ρ' : Rho} {b' o' : Nat}, Kp X w ρ w' ρ' → (∀ j v, news[j]? = some v → w'.cell? ⟨b', o' + j, none⟩ = some v) → Rrow X w' ρ' l2 sz b' o')
    {w' : World} {ρ' : Rho} {b' o' : Nat} (hk : Kp X w ρ w' ρ') (hc : ∀ j v, (olds ++ news)[j]? = some v → w'.cell? ⟨b', o' + j, none⟩ = some v) : Rrow X w' ρ' (l1 ++ l2) sz b' o' := by
  refine (hR1 hk fun j v hj => hc j v ?_).append (hR2 hk fun j v hj => ?_)
  · rw [List.getElem?_append_left (List.getElem?_eq_some_iff.1 hj).1]; exact hj
  · have := hc (olds.length + j) v (by rw [List.getElem?_append_right (by omega)]; simpa using hj)
    rw [ho] at this
    rw [Nat.add_assoc]; exact this

theorem appA0_done {m m' : Mem} (hi : Inv X w ρ m) {t u ty : TypeId} {d x y : AV} {vd vx : Value} {p : Prop} (hd : R X w ρ d vd) (hx : R X w ρ x vx) (h : appA0 P m t u d x = some (m', y, p)) (hp : p) :
    ∃ v w' ρ', (Builtin.append_ #[t, u] ty #[vd, vx]).run P w = .ok v w' ∧ Tr w ρ w' ρ' ∧ Inv X w' ρ' m' ∧ R X w' ρ' y v := by
  unfold appA0 at h
  split at h <;> (try (cases h; done))
  rename_i e e' hut huu
  split at h <;> (try (cases h; done))
  rename_i sz by_ sz' new hsz hby hrow
  split at h <;> (try (cases h; done))
  rename_i hel
  obtain ⟨i, z, hinfo, hz, hzs, hpos⟩ := elB_some hel
  obtain ⟨i', hi', hsz'⟩ := tsz_some hsz
  rw [hinfo] at hi'; cases hi'
  have hby' := tby_some hby hinfo
  have src : srcOk m x → (new ≠ [] → sz' = sz) → ∃ A c vs, vx = .slice A new.length c ∧ vs.length = new.length * sz ∧ (vs ≠ [] → ∃ b o, A = some ⟨b, o, none⟩ ∧ ∀ j v, vs[j]? = some v → w.cell? ⟨b, o + j, none⟩ = some v) ∧ (∀ v ∈ vs, v.oneCell' = true) ∧
      ∀ {w' : World} {ρ' : Rho} {b' o' : Nat}, Kp X w ρ w' ρ' → (∀ j v, vs[j]? = some v → w'.cell? ⟨b', o' + j, none⟩ = some v) → Rrow X w' ρ' new sz b' o' := by
    intro hs hss
    obtain ⟨A, c, vs, e1, _, _, e4, e5, e6, e7⟩ := rowOf_vals hi hx hrow (fun id ver off len hxe e he => by
      subst hxe
      simp only [srcOk, he] at hs
      obtain ⟨v, k⟩ := e
      cases k with
      | row s l => exact ⟨s, l, rfl, hs⟩
      | dfr => exact hs.elim
      | lrec => exact hs.elim
      | mp => exact hs.elim
      | ext => exact hs.elim)
    by_cases hne : new = []
    · subst hne
      simp at e4
      refine ⟨A, c, vs, e1, by simp [e4], e5, e6, fun _ _ => trivial⟩
    · have := hss hne; subst this
      exact ⟨A, c, vs, e1, e4, e5, e6, e7⟩
  split at h
  · simp only [Option.some.injEq, Prod.mk.injEq] at h
    obtain ⟨rfl, rfl, rfl⟩ := h
    obtain ⟨hb, hm, hs, hss⟩ := hp
    obtain ⟨A, rfl⟩ := hd
    obtain ⟨A', c', vs, rfl, e2, e3, e4, e5⟩ := src hs hss
    have hrun := append_run (P := P) (w := w) (ty := ty) (uk_slice hut) (uk_slice huu) hinfo hz hzs (A := A) (A' := A') (len := 0) (c := 0) (n := new.length) (c' := c') (olds := []) (news := vs) (by simp) (by rw [hsz']; exact e2) (fun h => absurd rfl h) e3 (by rw [hby']; simpa using hb) (by simp only [maxLen]; omega)
    rcases hrun with ⟨h0, hr⟩ | ⟨_, cap, w', hr, h1, h2, h3, h4, h5, rest, h6, h7⟩
    · have hl0 : new.length = 0 := by omega
      have hn0 : new = [] := List.eq_nil_of_length_eq_zero hl0
      subst hn0
      have hv0 : vs = [] := List.eq_nil_of_length_eq_zero (by simpa using e2)
      subst hv0
      have hr' := hr w (by cases A with | none => rfl | some a => rfl)
      obtain ⟨k1, k2⟩ := hi.adopt sz
      exact ⟨_, w, _, hr', k1, k2, A, 0, ⟨0, none, 0, 0, sz⟩, by simp, by rw [← hi.len]; exact last_get ρ _, Nat.le_refl _, fun _ => ⟨by simp, Nat.zero_le _, fun h => absurd h (Nat.lt_irrefl 0)⟩⟩
    · obtain ⟨r, q1, q2, q3, q4, q5, q6, q7⟩ := newBlock hi (w' := w') (sz := sz) (l := new) (vs := vs) (e := e) h7 h3 h4 h5 e2 (fun j v hj => by
        have : j < vs.length := (List.getElem?_eq_some_iff.1 hj).1
        rw [Array.getElem?_append_left (by simpa using this)]
        simpa using hj) e5
      refine ⟨_, w', _, hr, q6, q7, some ⟨w.heap.size, 0, none⟩, cap, r, by simp, by rw [← hi.len]; exact last_get ρ r, by omega, fun _ => ⟨by simpa using h1, h2, fun hp => ⟨w.heap.size, q2, by rw [q3]; simp, ?_⟩⟩⟩
      rw [q3, q4, q5]
      simp only [List.nil_append, Array.size_append, List.size_toArray, h6, e2, hsz', Nat.zero_add]
      rw [← Nat.add_mul]
      exact Nat.mul_le_mul_right _ (by omega)
  · rename_i id ver off len
    split at h <;> (try (cases h; done))
    rename_i v sz0 l hm
    split at h <;> (try (cases h; done))
    rename_i hc
    obtain ⟨rfl, rfl⟩ := hc
    simp only [Option.some.injEq, Prod.mk.injEq] at h
    obtain ⟨rfl, rfl, rfl⟩ := h
    obtain ⟨hfit0, hb, hmx, hs, hnid, hss⟩ := hp
    obtain ⟨r, hr, hv, hrz, hnone, hblk⟩ := hi.row hm
    obtain ⟨A, c, r', rfl, hr', hle, hat⟩ := hd
    rw [hr] at hr'; cases hr'
    obtain ⟨hl, hcm, hpos0⟩ := hat hv.symm
    obtain ⟨A', c', vs, rfl, e2, e3, e4, e5⟩ := src hs hss
    have hll : ((l.drop off).take len).length = len := by simp; omega
    -- what lies in the slice
    have olds : ∃ os : List Value, os.length = len * sz0 ∧ (os ≠ [] → ∃ b o, A = some ⟨b, o, none⟩ ∧ ∀ j v, os[j]? = some v → w.cell? ⟨b, o + j, none⟩ = some v) ∧ (∀ v ∈ os, v.oneCell' = true) ∧
        ∀ {w' : World} {ρ' : Rho} {b' o' : Nat}, Kp X w ρ w' ρ' → (∀ j v, os[j]? = some v → w'.cell? ⟨b', o' + j, none⟩ = some v) → Rrow X w' ρ' ((l.drop off).take len) sz0 b' o' := by
      by_cases h0 : len = 0
      · subst h0
        exact ⟨[], by simp, fun h => absurd rfl h, by simp, fun _ _ => by simp [Rrow]⟩
      · obtain ⟨b, hb', hA, hfit⟩ := hpos0 (by omega)
        obtain ⟨_, _, hrow'⟩ := hblk b hb'
        obtain ⟨os, f1, f2, f3, f4⟩ := ((hrow'.drop off).take len).vals
        exact ⟨os, by rw [f1, hll], fun _ => ⟨b, _, hA, by rw [hrz]; exact f2⟩, f3, f4⟩
    obtain ⟨os, o1, o2, o3, o4⟩ := olds
    have hrun := append_run (P := P) (w := w) (ty := ty) (uk_slice hut) (uk_slice huu) hinfo hz hzs (A := A) (A' := A') (len := len) (c := c) (n := new.length) (c' := c') (olds := os) (news := vs) (by rw [hsz']; exact o1) (by rw [hsz']; exact e2) o2 e3 (by rw [hby']; exact hb) (by simp only [maxLen]; omega)
    rcases hrun with ⟨h0, hr0⟩ | ⟨_, cap, w', hr0, h1, h2, h3, h4, h5, rest, h6, h7⟩
    · by_cases hc0 : c = 0
      · -- nothing lies there, nothing comes
        have hl0 : len = 0 := by omega
        have hnl : new.length = 0 := by omega
        have hn0 : new = [] := List.eq_nil_of_length_eq_zero hnl
        subst hn0 hl0 hc0
        have hv0 : vs = [] := List.eq_nil_of_length_eq_zero (by simpa using e2)
        subst hv0
        have hrr := hr0 w (by cases A with | none => rfl | some a => rfl)
        obtain ⟨k1, k2⟩ := hi.renew hr (r' := ⟨r.ver + 1, none, 0, 0, sz0⟩) (w' := w) (k := .row sz0 []) rfl rfl rfl (Nat.le_refl _) rfl (fun _ _ _ => rfl) (fun b h => by cases h) (fun ρ' _ _ => ⟨rfl, fun _ => rfl, fun b h => by cases h⟩)
        refine ⟨_, w, _, hrr, k1, ?_, A, 0, ⟨r.ver + 1, none, 0, 0, sz0⟩, by simp, by rw [List.getElem?_set_self (List.getElem?_eq_some_iff.1 hr).1], by rw [hv]; exact Nat.le_refl _, fun _ => ⟨by simp, Nat.zero_le _, fun h => absurd h (Nat.lt_irrefl 0)⟩⟩
        simpa [hv] using k2
      · obtain ⟨b, hb', hA, hfit⟩ := hpos0 (by omega)
        subst hA
        obtain ⟨⟨arr, e0, fr, ha1, ha2, ha3, ha4⟩, hfitl, hrow'⟩ := hblk b hb'
        have hrowat : RowAt w b arr := ⟨e0, fr, ha1, ha3, ha4⟩
        have hmul : (len + new.length) * sz0 ≤ c * sz0 := Nat.mul_le_mul_right _ h0
        rw [hrz, Nat.add_mul] at hfit
        rw [Nat.add_mul] at hmul
        obtain ⟨w', arr', g1, g2, g3, g4, g5⟩ := run_storeCells_row (P := P) vs (o := r.base + off * r.sz + len * sz0) (i := 0) hrowat (by rw [hrz, e2]; omega) e4
        have hrr := hr0 w' (by simp only; rw [Addr.add_none, hsz']; exact g1)
        -- what was there stays
        have hkeep : ∀ j v, os[j]? = some v → arr'[r.base + off * r.sz + j]? = some v := by
          intro j v hj
          have hjl : j < len * sz0 := by rw [← o1]; exact (List.getElem?_eq_some_iff.1 hj).1
          obtain ⟨b2, o2', hA2, hcc⟩ := o2 (by intro e; subst e; simp at hj)
          cases hA2
          have := hcc j v hj
          rw [hrowat.cell] at this
          rw [g5, if_neg (by omega)]; exact this
        have hcome : ∀ j v, vs[j]? = some v → arr'[r.base + off * r.sz + len * sz0 + j]? = some v := by
          intro j v hj
          have hjl : j < vs.length := (List.getElem?_eq_some_iff.1 hj).1
          rw [g5, if_pos (by omega)]
          rw [show r.base + off * r.sz + len * sz0 + j - (r.base + off * r.sz + len * sz0 + 0) = j by omega]; exact hj
        obtain ⟨k1, k2⟩ := hi.renew hr (r' := ⟨r.ver + 1, some b, r.base + off * r.sz, r.size, sz0⟩) (w' := w') (k := .row sz0 ((l.drop off).take len ++ new)) g3.os g3.tape g3.output (by rw [g3.size]; exact Nat.le_refl _) rfl
          (fun b2 _ hb2 => g3.block b2 fun e => hb2 (by rw [e]; exact hb')) (fun b2 hb2 => by cases hb2; exact ⟨.inl hb', by rw [g3.size]; exact hrowat.lt⟩)
          (fun ρ' hρ htr => by
            refine ⟨rfl, fun h => (by cases h), fun b2 hb2 => ?_⟩
            cases hb2
            obtain ⟨e3', fr', z1, z2, z3⟩ := g2
            refine ⟨⟨arr', e3', fr', z1, by rw [g4, ha2], z2, z3⟩, ?_, ?_⟩
            · simp only [List.length_append, hll]
              rw [Nat.add_mul, hrz]
              omega
            · refine grown_row hi (by rw [hll]; exact o1) e2 o4 e5 (rest := #[]) (e := e) htr.kp fun j v hj => ?_
              have hrow2 : RowAt w' b arr' := ⟨e3', fr', z1, z2, z3⟩
              rw [hrow2.cell]
              by_cases hjl : j < os.length
              · rw [List.getElem?_append_left hjl] at hj; exact hkeep j v hj
              · rw [List.getElem?_append_right (by omega)] at hj
                have := hcome _ v hj
                rw [← o1] at this
                rw [show r.base + off * r.sz + os.length + (j - os.length) = r.base + off * r.sz + j by omega] at this
                exact this)
        refine ⟨_, w', _, hrr, k1, by simpa [hv] using k2, _, c, ⟨r.ver + 1, some b, r.base + off * r.sz, r.size, sz0⟩, rfl, by rw [List.getElem?_set_self (List.getElem?_eq_some_iff.1 hr).1], by rw [hv]; exact Nat.le_refl _, fun _ => ⟨h0, hcm, fun _ => ⟨b, rfl, by simp, ?_⟩⟩⟩
        simp only [Nat.zero_add]
        rw [hrz]; omega
    · obtain ⟨k1, k2⟩ := hi.renew hr (r' := ⟨r.ver + 1, some w.heap.size, 0, cap * sz0, sz0⟩) (w' := w') (k := .row sz0 ((l.drop off).take len ++ new)) h3 h4 h5 (by rw [h7]; simp) rfl
        (fun b2 hlt _ => by rw [h7, Array.getElem?_push_lt hlt, Array.getElem?_eq_getElem hlt]) (fun b2 hb2 => by cases hb2; exact ⟨.inr (Nat.le_refl _), by rw [h7]; simp⟩)
        (fun ρ' hρ htr => by
          refine ⟨rfl, fun h => (by cases h), fun b2 hb2 => ?_⟩
          cases hb2
          have hnew : w'.heap[w.heap.size]? = some (.cells ((os ++ vs).toArray ++ rest) e) := by rw [h7]; simp
          have hmul : (len + new.length) * sz0 ≤ cap * sz0 := Nat.mul_le_mul_right _ h1
          rw [Nat.add_mul] at hmul
          refine ⟨⟨_, e, (0, 0), hnew, ?_, by simp, by simp⟩, ?_, ?_⟩
          · simp only [Array.size_append, List.size_toArray, List.length_append, h6, hsz', o1, e2]
            rw [← Nat.add_mul, ← Nat.add_mul]
            congr 1; omega
          · simp only [Nat.zero_add, List.length_append, hll]
            rw [Nat.add_mul]; omega
          · refine grown_row hi (by rw [hll]; exact o1) e2 o4 e5 (rest := #[]) (e := e) htr.kp fun j v hj => ?_
            have hjl : j < (os ++ vs).length := (List.getElem?_eq_some_iff.1 hj).1
            simp only [World.cell?, hnew, Nat.zero_add]
            rw [Array.getElem?_append_left (by simpa using hjl)]
            simpa using hj)
      refine ⟨_, w', _, hr0, k1, by simpa [hv] using k2, _, cap, ⟨r.ver + 1, some w.heap.size, 0, cap * sz0, sz0⟩, rfl, by rw [List.getElem?_set_self (List.getElem?_eq_some_iff.1 hr).1], by rw [hv]; exact Nat.le_refl _, fun _ => ⟨h1, h2, fun _ => ⟨w.heap.size, rfl, by simp, by simp⟩⟩⟩
  · cases h

theorem appZ_done {m m' : Mem} (hi : Inv X w ρ m) {t u ty : TypeId} {d x y : AV} {vd vx : Value} {p : Prop} (hu0 : uk P u = .int .i64) (hd : R X w ρ d vd) (hx : R X w ρ x vx) (h : appZ P m t d x = some (m', y, p)) (hp : p) :
    ∃ v w' ρ', (Builtin.append_ #[t, u] ty #[vd, vx]).run P w = .ok v w' ∧ Tr w ρ w' ρ' ∧ Inv X w' ρ' m' ∧ R X w' ρ' y v := by
  unfold appZ at h
  split at h <;> (try (cases h; done))
  rename_i e n hut
  split at h <;> (try (cases h; done))
  rename_i z sz by_ hz hsz hby
  split at h <;> (try (cases h; done))
  rename_i hel
  simp only [Option.some.injEq, Prod.mk.injEq] at h
  obtain ⟨rfl, rfl, rfl⟩ := h
  obtain ⟨h1, hb, hmax, hzf, hzl⟩ := hp
  rw [R_val] at hx; subst hx
  obtain ⟨A, rfl⟩ := hd
  obtain ⟨i, z0, hinfo, hz0, hzs, hpos⟩ := elB_some hel
  obtain ⟨i', hi', hsz'⟩ := tsz_some hsz
  rw [hinfo] at hi'; cases hi'
  have hby' : i.bytes = by_ := by unfold tby at hby; simpa [hinfo] using hby
  obtain ⟨zv, hzv, hzR⟩ := zAV_some (P := P) (X := X) (w := w) (ρ := ρ) hz
  have hzv0 : zv = z0 := by simp [zeroValue, typeInfo, hinfo, hz0] at hzv; exact hzv.symm
  subst hzv0
  obtain ⟨zs, f1, f2, f3, f4⟩ := flat_cells hzf hzR
  have hzsz : zv.cells.size = sz := by rw [hzs, hsz']
  have hzlen : zs.length = sz := by omega
  obtain ⟨k, rfl⟩ : ∃ k : Nat, n = (k : Int) := ⟨n.toNat, by omega⟩
  have hk1 : 1 ≤ k := by omega
  have hwr : IntKind.i64.wrap (k : Int) = (k : Int) := by
    simp only [IntKind.wrap, IntKind.bits, IntKind.signed]
    simp
    omega
  have hbn : by_ * k ≤ 140737488355328 := Int.ofNat_le.1 (by rw [Int.natCast_mul]; exact hb)
  have hnc : ¬ (0 + k ≤ 0) := by omega
  have h63 : ¬ (9223372036854775807 < (k : Int)) := by omega
  have hfit := growslice_fits (need := k) (old := 0) (bytes := i.bytes) (by omega) (by rw [hby', Nat.mul_comm]; exact hbn)
  have h48 : ¬ (281474976710656 < Builtin.nextslicecap k 0 * i.bytes) := by omega
  have hneg : ¬ ((k : Int) < 0) := by omega
  have h48' : ¬ (281474976710656 < (k : Int) * (i.bytes : Int)) := by
    rw [hby']
    have : (k : Int) * (by_ : Int) ≤ 140737488355328 := by rw [Int.mul_comm]; exact hb
    omega
  have hks : ¬ (k = 0 ∨ i.size = 0) := by omega
  have hrun : (Builtin.append_ #[t, u] ty #[.slice A 0 0, .int .i64 k]).run P w = .ok (.slice (some ⟨w.heap.size, 0, none⟩) k (grownCap w k 0 e)) (w.drew.alloc (.cells (Builtin.zeroCells zv.cells k ++ Builtin.zeroCells zv.cells (grownCap w k 0 e - k)) e)) := by
    have hold : (Builtin.firstCells i.size 0 (.slice A 0 0)).run P w.drew = .ok #[] w.drew := firstCells_run (vs := []) (by simp) (fun h => absurd rfl h)
    simp [Builtin.append_, run_underlying (uk_slice hut), run_underlying (uk_int hu0), sizeOf, typeInfo, zeroValue, hinfo, hz0, asInt, asIntOf, hwr, hneg, h48', hnc, h63, h48, Question.forced, hold, newRow, grownCap, hks, Result.andThen]
    have hk0 : ¬ k = 0 := by omega
    have hks' : ¬ k * i.size = 0 := fun h => by rcases Nat.mul_eq_zero.1 h with h | h <;> omega
    rw [if_neg hk0, if_neg hks']
    rfl
  have hget : ∀ (q j : Nat), j < sz → q % sz = j → q < k * sz → ∀ u, zs[j]? = some u → (Builtin.zeroCells zv.cells k).toList[q]? = some u := by
    intro q j hj hk hlt u hu'
    have : (Builtin.zeroCells zv.cells k).toList[q]? = some (zv.cells[q % zv.cells.size]!) := by
      simp [Builtin.zeroCells, hzsz, hlt]
    rw [this, hzsz, hk, f1]
    have hj' : j < zs.length := by omega
    rw [List.getElem?_eq_getElem hj'] at hu'
    simp only [Option.some.injEq] at hu' ⊢
    rw [← hu']
    simp [hj']
  obtain ⟨r, q1, q2, q3, q4, q5, q6, q7⟩ := newBlock hi (w' := w.drew.alloc (.cells (Builtin.zeroCells zv.cells k ++ Builtin.zeroCells zv.cells (grownCap w k 0 e - k)) e)) (sz := sz) (l := List.replicate k z) (arr := Builtin.zeroCells zv.cells k ++ Builtin.zeroCells zv.cells (grownCap w k 0 e - k)) (vs := (Builtin.zeroCells zv.cells k).toList) (e := e)
    rfl rfl rfl rfl (by rw [Array.length_toList, size_zeroCells, hzsz]; simp) (fun j u hj => by
      have : j < (Builtin.zeroCells zv.cells k).size := by simpa using (List.getElem?_eq_some_iff.1 hj).1
      rw [Array.getElem?_append_left this]
      simpa using hj)
    (fun {w' ρ' b' o'} hk hc => Rrow_of_cells fun i1 y hy => by
      have hy0 := List.getElem?_replicate (a := z) (n := k) (i := i1)
      rw [hy] at hy0
      split at hy0
      · rename_i hlt
        cases hy0
        refine Re_of_cells hzf hzl (Rcells_of fun j y' hj => ?_)
        obtain ⟨u, hu', hR⟩ := f2.nth hj
        have hjlt : j < sz := by have := (List.getElem?_eq_some_iff.1 hu').1; omega
        have hle : (i1 + 1) * sz ≤ k * sz := Nat.mul_le_mul_right _ hlt
        rw [Nat.add_mul, Nat.one_mul] at hle
        have := hc (i1 * sz + j) u (hget _ j hjlt (by rw [Nat.mul_comm, Nat.mul_add_mod]; exact Nat.mod_eq_of_lt hjlt) (by omega) u hu')
        rw [← Nat.add_assoc] at this
        exact ⟨u, this, f3 u (List.mem_of_getElem? hu'), R.mono hk hR⟩
      · cases hy0)
  have hge := grownCap_ge w k 0 e
  refine ⟨_, _, _, hrun, q6, q7, some ⟨w.heap.size, 0, none⟩, grownCap w k 0 e, r, by simp, by rw [← hi.len]; exact last_get ρ r, by omega, fun _ => ⟨by simpa using hge, grownCap_le_maxLen _ _ _ _ (by simp only [maxLen]; omega), fun hp => ⟨w.heap.size, q2, by rw [q3]; simp, ?_⟩⟩⟩
  rw [q3, q4, q5]
  simp only [Array.size_append, size_zeroCells, hzsz, Nat.zero_add]
  rw [← Nat.add_mul]
  exact Nat.mul_le_mul_right _ (by omega)
theorem appA_done {m m' : Mem} (hi : Inv X w ρ m) {t u ty : TypeId} {d x y : AV} {vd vx : Value} {p : Prop} (hd : R X w ρ d vd) (hx : R X w ρ x vx) (h : appA P m t u d x = some (m', y, p)) (hp : p) :
    ∃ v w' ρ', (Builtin.append_ #[t, u] ty #[vd, vx]).run P w = .ok v w' ∧ Tr w ρ w' ρ' ∧ Inv X w' ρ' m' ∧ R X w' ρ' y v := by
  unfold appA at h
  split at h
  · rename_i hu; exact appZ_done hi hu hd hx h hp
  · exact appA0_done hi hd hx h hp
/-- a slice's beginning -/
def cutA (n : Nat) : AV → AV
  | .lst sz l => .lst sz (l.take n)
  | .osl id ver off len => .osl id ver off (min n len)
  | x => x
theorem cut_rel {n : Nat} {x : AV} {m : Mem} {sz : Nat} {new : List AV} {A : Option Addr} {c : Nat} (hrow : rowOf m x = some (sz, new)) (h : R X w ρ x (.slice A new.length c)) (hs : srcOk m x) :
    R X w ρ (cutA n x) (.slice A (min n new.length) c) ∧ rowOf m (cutA n x) = some (sz, new.take n) ∧ srcOk m (cutA n x) := by
  cases x <;> simp only [rowOf, reduceCtorEq, Option.some.injEq, Prod.mk.injEq] at hrow
  case lst sz' l =>
    obtain ⟨rfl, rfl⟩ := hrow
    obtain ⟨A', c', h1, h2, h3, h4⟩ := h
    simp only [Value.slice.injEq, true_and] at h1
    obtain ⟨rfl, rfl⟩ := h1
    refine ⟨⟨A, c, by simp [cutA], by simp; omega, h3, fun hne => ?_⟩, rfl, trivial⟩
    obtain ⟨b, o, e1, e2, e3, e4⟩ := h4 (fun e => hne (by rw [e]; simp))
    exact ⟨b, o, e1, e2, e3, e4.take n⟩
  case emp =>
    obtain ⟨rfl, rfl⟩ := hrow
    obtain ⟨A', h1⟩ := h
    simp only [Value.slice.injEq] at h1
    obtain ⟨rfl, _, rfl⟩ := h1
    exact ⟨⟨A, by simp⟩, by simp [cutA, rowOf], trivial⟩
  case osl id ver off len =>
    split at hrow <;> (try (cases hrow; done))
    rename_i v sz0 l hm
    split at hrow <;> (try (cases hrow; done))
    rename_i hv
    simp only [Option.some.injEq, Prod.mk.injEq] at hrow
    obtain ⟨rfl, rfl⟩ := hrow
    obtain ⟨A', c', r, h1, h2, h3, h4⟩ := h
    simp only [Value.slice.injEq] at h1
    obtain ⟨rfl, hlen, rfl⟩ := h1
    simp only [srcOk, hm] at hs
    have hl : ((l.drop off).take len).length = len := by simp; omega
    refine ⟨⟨A, c, r, by rw [hl], h2, h3, fun e => ?_⟩, ?_, ?_⟩
    · obtain ⟨q1, q2, q3⟩ := h4 e
      exact ⟨by omega, q2, q3⟩
    · simp only [cutA, rowOf, hm, if_pos hv, List.take_take]
    · simp only [cutA, srcOk, hm]; omega
theorem Rrow.kept {X : Nat → Prop} {w w' : World} {ρ ρ' : Rho} (hk : Kp X w ρ w' ρ') {l : List AV} {sz b o : Nat} (h : Rrow X w ρ l sz b o) (hc : ∀ k, o ≤ k → k < o + l.length * sz → w'.cell? ⟨b, k, none⟩ = w.cell? ⟨b, k, none⟩) : Rrow X w' ρ' l sz b o := by
  obtain ⟨vs, v1, v2, v3, v4⟩ := h.vals
  refine v4 hk fun j v hj => ?_
  have := (List.getElem?_eq_some_iff.1 hj).1
  rw [hc (o + j) (by omega) (by omega)]
  exact v2 j v hj
theorem copyA_done {m m' : Mem} (hi : Inv X w ρ m) {t u ty : TypeId} {d x y : AV} {vd vx : Value} {p : Prop} (hd : R X w ρ d vd) (hx : R X w ρ x vx) (h : copyA P m t d x = some (m', y, p)) (hp : p) :
    ∃ v w' ρ', (Builtin.copy_ #[t, u] ty #[vd, vx]).run P w = .ok v w' ∧ Tr w ρ w' ρ' ∧ Inv X w' ρ' m' ∧ R X w' ρ' y v := by
  unfold copyA at h
  split at h <;> (try (cases h; done))
  rename_i e id ver off len sz' new hut hrow
  split at h <;> (try (cases h; done))
  rename_i sz v sz0 l hsz hm
  split at h <;> (try (cases h; done))
  rename_i hc
  obtain ⟨rfl, rfl, rfl⟩ := hc
  simp only [Option.some.injEq, Prod.mk.injEq] at h
  obtain ⟨rfl, rfl, rfl⟩ := h
  obtain ⟨hfit0, hs, hszp⟩ := hp
  obtain ⟨i, hinfo, hsz'⟩ := tsz_some hsz
  have hso : ∀ (y : AV), srcOk m y → ∀ id ver off len, y = .osl id ver off len → ∀ e, m[id]? = some e → ∃ sz' l', e.kind = .row sz' l' ∧ off + len ≤ l'.length := by
    intro y hy id ver off len hxe e he
    subst hxe
    simp only [srcOk, he] at hy
    obtain ⟨v, k⟩ := e
    cases k with
    | row s l => exact ⟨s, l, rfl, hy⟩
    | dfr => exact hy.elim
    | lrec => exact hy.elim
    | mp => exact hy.elim
    | ext => exact hy.elim
  obtain ⟨A', c', _, rfl, _⟩ := rowOf_vals hi hx hrow (hso x hs)
  obtain ⟨k1, k2, k3⟩ := cut_rel (n := len) hrow hx hs
  obtain ⟨A2, c2, vs, e1, _, _, e4, e5, e6, e7⟩ := rowOf_vals hi k1 k2 (hso _ k3)
  simp only [Value.slice.injEq] at e1
  obtain ⟨rfl, _, rfl⟩ := e1
  obtain ⟨r, hr, hv, hrz, hnone, hblk⟩ := hi.row hm
  obtain ⟨A, c, r', rfl, hr', hle, hat⟩ := hd
  rw [hr] at hr'; cases hr'
  obtain ⟨hl, hcm, hpos⟩ := hat hv.symm
  have hn : (new.take len).length = Nat.min new.length len := by simp [Nat.min_comm]
  have hfc := firstCells_run (P := P) (w := w) (A := A') (len := new.length) (c := c') (size := sz') (n := Nat.min new.length len) (vs := vs) (by rw [e4, hn]) e5
  have hrunT : ∀ (w' : World), (match A with | some a => (storeCells a vs).run P w = .ok () w' | none => w' = w) → (Builtin.copy_ #[t, u] ty #[.slice A len c, .slice A' new.length c']).run P w = .ok (goInt (Nat.min new.length len)) w' := by
    intro w' hw'
    cases A with
    | none =>
      simp only at hw'; subst hw'
      simp [Builtin.copy_, run_underlying (uk_slice hut), sizeOf, typeInfo, hinfo, Builtin.lenOf, hsz', hfc, Result.andThen]
    | some a =>
      simp only at hw'
      simp [Builtin.copy_, run_underlying (uk_slice hut), sizeOf, typeInfo, hinfo, Builtin.lenOf, hsz', hfc, hw', Result.andThen]
  have hval : ∀ (w' : World), R X w' ρ (.int ((new.take len).length : Nat)) (goInt (Nat.min new.length len)) := fun w' => by rw [hn]; rfl
  by_cases hz : vs = []
  · subst hz
    have hsame : m.set id ⟨v, .row sz' (putR l off (new.take len))⟩ = m := by
      by_cases h0 : new.take len = []
      · have : putR l off (new.take len) = l := by unfold putR; rw [h0]; simp
        rw [this]
        refine List.ext_getElem? fun j => ?_
        by_cases hj : id = j
        · subst hj; rw [List.getElem?_set_self (List.getElem?_eq_some_iff.1 hm).1, hm]
        · rw [List.getElem?_set_ne hj]
      · -- rows of elements of no cells
        exfalso
        have hlp : 0 < (new.take len).length := List.length_pos_iff.2 h0
        have := e4
        simp only [List.length_nil] at this
        rcases Nat.mul_eq_zero.1 this.symm with h | h <;> omega
    refine ⟨_, w, ρ, hrunT w ?_, Tr.refl w ρ, by rw [hsame]; exact hi, hval w⟩
    cases A with
    | none => rfl
    | some a => rfl
  · have hvp : 0 < vs.length := List.length_pos_iff.2 hz
    have hnp : 0 < (new.take len).length := by
      rcases Nat.eq_zero_or_pos (new.take len).length with h | h
      · rw [e4, h, Nat.zero_mul] at hvp; omega
      · exact h
    have hlen0 : 0 < len := by simp at hnp; omega
    obtain ⟨b, hb, rfl, hfit⟩ := hpos (by omega)
    obtain ⟨⟨arr, e', fr, ha1, ha2, ha3, ha4⟩, hfit', hrow'⟩ := hblk b hb
    have hrowat : RowAt w b arr := ⟨e', fr, ha1, ha3, ha4⟩
    have hle2 : (new.take len).length ≤ len := by simp; omega
    have hmul : (new.take len).length * sz' ≤ len * sz' := Nat.mul_le_mul_right _ hle2
    have hspace : (off + len) * sz' ≤ l.length * sz' := Nat.mul_le_mul_right _ hfit0
    rw [Nat.add_mul] at hspace
    obtain ⟨w', arr', g1, g2, g3, g4, g5⟩ := run_storeCells_row (P := P) vs (o := r.base + off * r.sz) (i := 0) hrowat (by rw [hrz, e4]; omega) e6
    have htr := Tr.turn hr hb g3
    have hpl : (putR l off (new.take len)).length = l.length := by
      unfold putR; simp only [List.length_append, List.length_take, List.length_drop]; simp at hle2; omega
    refine ⟨_, w', ρ, hrunT w' g1, htr, ?_, hval w'⟩
    have hcell : ∀ k, w'.cell? ⟨b, k, none⟩ = if r.base + off * sz' ≤ k ∧ k < r.base + off * sz' + vs.length then vs[k - (r.base + off * sz')]? else w.cell? ⟨b, k, none⟩ := by
      intro k
      rw [g2.cell, g5, hrowat.cell, hrz]
      simp only [Nat.add_zero]
    refine hi.write hr hb hv g3 hrz g2 (by omega) (by rw [hpl]; simpa using hfit') ?_
    unfold putR
    have hol : (l.take off).length = off := by simp; omega
    refine Rrow.append ?_ (Rrow.append ?_ ?_)
    · refine (hrow'.take off).kept htr.kp fun k h1 h2 => ?_
      rw [hol] at h2
      rw [hcell, if_neg (by omega)]
    · rw [hol]
      refine e7 htr.kp fun j u hj => ?_
      have hjl := (List.getElem?_eq_some_iff.1 hj).1
      rw [hcell, if_pos (by omega), show r.base + off * sz' + j - (r.base + off * sz') = j by omega]
      exact hj
    · rw [hol]
      have := (hrow'.drop (off + (new.take len).length)).kept htr.kp (w' := w') fun k h1 h2 => by
        rw [hcell, if_neg]
        rw [Nat.add_mul] at h1
        omega
      rw [Nat.add_mul, ← Nat.add_assoc] at this
      exact this
end Go.Vg
