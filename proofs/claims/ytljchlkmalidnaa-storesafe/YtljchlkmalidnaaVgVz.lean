/- The abstract machine, part Vz: what a function hands back as new memory, taken as frozen. -/
import Derived.Test.YtljchlkmalidnaaVgVw
import Derived.Test.YtljchlkmalidnaaVgEd
set_option linter.all false
set_option linter.unusedVariables false
namespace Go.Vg
open Go.RowKit
variable {P : Program} {X : Nat → Prop} {w : World} {ρ : Rho}
theorem free_none {X : Nat → Prop} {ρ : Rho} (b : Nat) : Free X ρ b → Free X [] b := fun h => ⟨h.1, fun r hr => by cases hr⟩
mutual
theorem Vw.relX {m : Mem} (hi : Inv X w ρ m) : ∀ {x y : AV}, Vw m x y → (∀ v, R X w ρ x v → R X w [] y v) ∧ (∀ sz b o, Re X w ρ x sz b o → Re X w [] y sz b o)
  | x, _, .self hk => ⟨(Rp.eyes (fun b => free_none b) x hk).1, (Rp.eyes (fun b => free_none b) x hk).2⟩
  | _, _, .osl (id := id) (ver := ver) (off := off) (len := len) (sz := sz) (l := l) (ys := ys) hm hlen hsz hys => by
    have key : ∀ v, R X w ρ (.osl id ver off len) v → R X w [] (.lst sz ys) v := by
      intro v h
      obtain ⟨r, hr, hv, hrz, hnone, hblk⟩ := hi.row hm
      obtain ⟨A, c, r', rfl, hr', hle, hat⟩ := h
      rw [hr] at hr'; cases hr'
      obtain ⟨hl, hc, hpos⟩ := hat hv.symm
      have hll : ys.length = len := by rw [VwL.len hys]; simp; omega
      refine ⟨A, c, by rw [hll], by omega, hc, fun hne => ?_⟩
      have h0 : 0 < len := by
        rcases Nat.eq_zero_or_pos len with e | e
        · exfalso; apply hne; exact List.length_eq_zero_iff.1 (by omega)
        · exact e
      obtain ⟨b, hb, rfl, hfit⟩ := hpos (by omega)
      obtain ⟨_, _, hrow⟩ := hblk b hb
      refine ⟨b, r.base + off * r.sz, rfl, ⟨(hi.new id _ b hr hb).2, fun r hr => by cases hr⟩, hsz, ?_⟩
      rw [hrz]
      exact (VwL.relX hi hys).2.2 _ _ _ ((hrow.drop off).take len)
    exact ⟨key, fun _ _ _ h => OneAt.mono (fun _ => rfl) h key⟩
  | _, _, .optr (id := id) (ver := ver) (i := i) (j := j) (l := l) (ys := ys) (x := x) hm hg hj hys => by
    have key : ∀ v, R X w ρ (.optr id ver i j) v → R X w [] (.ref ys j) v := by
      intro v h
      obtain ⟨r, hr, hv, hrz, hnone, hblk⟩ := hi.row hm
      obtain ⟨A, r', rfl, hr', hle, hat⟩ := h
      rw [hr] at hr'; cases hr'
      obtain ⟨b, hb, rfl⟩ := hat hv.symm
      obtain ⟨_, _, hrow⟩ := hblk b hb
      obtain ⟨c1, c2⟩ := (hrow.nth hg).cells
      refine ⟨b, r.base + i * r.sz, rfl, by rw [VwL.len hys]; exact hj, ⟨(hi.new id _ b hr hb).2, fun r hr => by cases hr⟩, ?_⟩
      rw [hrz]
      exact (VwL.relX hi hys).2.1 _ _ c2
    exact ⟨key, fun _ _ _ h => OneAt.mono (fun _ => rfl) h key⟩
  | _, _, .agg hys => ⟨fun _ ⟨vs, h1, h2⟩ => ⟨vs, h1, (VwL.relX hi hys).1 vs h2⟩, fun _ b o h => ⟨by rw [VwL.len hys]; exact h.1, (VwL.relX hi hys).2.1 b o h.2⟩⟩
  | _, _, .tup hys => ⟨fun _ ⟨vs, h1, h2⟩ => ⟨vs, h1, (VwL.relX hi hys).1 vs h2⟩, fun _ _ _ h => h⟩
  | _, _, .clo (f := f) (xs := xs) (ys := ys) hys => by
    have key : ∀ v, R X w ρ (.clo f xs) v → R X w [] (.clo f ys) v := by
      rintro v ⟨vs, h1, h2⟩
      exact ⟨vs, h1, (VwL.relX hi hys).1 vs h2⟩
    exact ⟨key, fun _ _ _ h => OneAt.mono (fun _ => rfl) h key⟩
  | _, _, .emp (sz := sz) => by
    have key : ∀ v, R X w ρ .emp v → R X w [] (.lst sz []) v := by
      rintro v ⟨A, rfl⟩
      exact ⟨A, 0, rfl, Nat.le_refl _, Nat.zero_le _, fun h => absurd rfl h⟩
    exact ⟨key, fun _ _ _ h => OneAt.mono (fun _ => rfl) h key⟩
theorem VwL.relX {m : Mem} (hi : Inv X w ρ m) : ∀ {xs ys : List AV}, VwL m xs ys → (∀ vs, Rvals X w ρ xs vs → Rvals X w [] ys vs) ∧ (∀ b o, Rcells X w ρ xs b o → Rcells X w [] ys b o) ∧ (∀ sz b o, Rrow X w ρ xs sz b o → Rrow X w [] ys sz b o)
  | _, _, .nil => ⟨fun _ h => h, fun _ _ h => h, fun _ _ _ h => h⟩
  | _, _, .cons h1 h2 =>
    ⟨fun _ ⟨v, vs', e1, e2, e3⟩ => ⟨v, vs', e1, (Vw.relX hi h1).1 v e2, (VwL.relX hi h2).1 vs' e3⟩,
     fun b o ⟨⟨v, e1, e2, e3⟩, e4⟩ => ⟨⟨v, e1, e2, (Vw.relX hi h1).1 v e3⟩, (VwL.relX hi h2).2.1 b (o + 1) e4⟩,
     fun sz b o ⟨e1, e2⟩ => ⟨(Vw.relX hi h1).2 sz b o e1, (VwL.relX hi h2).2.2 sz b (o + sz) e2⟩⟩
end
theorem Spec.frz {f : FuncId} {args : List AV} {y : AV} (h : Spec P f args [] fun x m => Vw m x y) : Pure P f args y := by
  intro X w ρ vs hi hr
  refine (h X w ρ vs hi hr).mono ?_
  rintro e w' ⟨v, x, m', ρ', rfl, hvw, hx, hi', ht⟩
  have hρ : ρ = [] := List.eq_nil_of_length_eq_zero (by rw [hi.len]; rfl)
  subst hρ
  refine ⟨v, y, [], [], rfl, ⟨rfl, rfl⟩, (Vw.relX hi' hvw).1 v hx, Inv.empty hi'.out (hi'.gd.nil fun b h => ⟨h.1, fun r hr => by cases hr⟩), ht.os, ht.tape, ht.output, ht.size, fun i r h => (by simp at h), fun b hb hlt => ⟨fun r hr => (by cases hr), (ht.block b hb hlt).2⟩⟩

/-- what a value reads as, however deep -/
def vwC (m : Mem) : Nat → AV → Option AV
  | 0, _ => none
  | n + 1, x =>
    let go : List AV → Option (List AV) := fun l => l.foldr (fun x r => match vwC m n x, r with
      | some y, some ys => some (y :: ys)
      | _, _ => none) (some [])
    match x with
    | .osl id ver off len => (match rowM m id ver with
      | some (sz, l) => (match Nat.ble (off + len) l.length, Nat.ble 1 sz, go ((l.drop off).take len) with
        | true, true, some ys => some (.lst sz ys)
        | _, _, _ => none)
      | none => none)
    | .agg xs => (match go xs with
      | some ys => some (.agg ys)
      | none => none)
    | .tup xs => (match go xs with
      | some ys => some (.tup ys)
      | none => none)
    | x => (match mxV x with
      | 0 => some x
      | _ => none)
theorem vwL_ok {m : Mem} {g : AV → Option AV} (hg : ∀ x y, g x = some y → Vw m x y) : ∀ {l ys : List AV}, l.foldr (fun x r => match g x, r with
      | some y, some ys => some (y :: ys)
      | _, _ => none) (some []) = some ys → VwL m l ys
  | [], ys, h => by simp at h; subst h; exact .nil
  | x :: l, ys, h => by
    simp only [List.foldr_cons] at h
    split at h
    · rename_i y ys' h1 h2
      simp only [Option.some.injEq] at h
      subst h
      exact .cons (hg x y h1) (vwL_ok hg h2)
    · cases h
theorem vwC_ok {m : Mem} : ∀ {n : Nat} {x y : AV}, vwC m n x = some y → Vw m x y
  | 0, x, y, h => by cases h
  | n + 1, x, y, h => by
    have ih : ∀ x y, vwC m n x = some y → Vw m x y := fun x y h => vwC_ok h
    unfold vwC at h
    simp only at h
    split at h
    · split at h
      · rename_i sz l hr
        split at h
        · rename_i ys h1 h2 h3
          rw [Nat.ble_eq] at h1 h2
          simp only [Option.some.injEq] at h
          subst h
          exact .osl (rowM_ok hr) h1 (by omega) (vwL_ok ih h3)
        · cases h
      · cases h
    · split at h
      · rename_i ys h3
        simp only [Option.some.injEq] at h
        subst h
        exact .agg (vwL_ok ih h3)
      · cases h
    · split at h
      · rename_i ys h3
        simp only [Option.some.injEq] at h
        subst h
        exact .tup (vwL_ok ih h3)
      · cases h
    · split at h
      · rename_i h0
        simp only [Option.some.injEq] at h
        subst h
        exact .self (mxV_ok _ (by omega))
      · cases h
/-- a function's run, by the evaluator; what it hands back, taken as frozen -/
def xFz (P : Program) (nf : Nat) (f : FuncId) (args : List AV) : Option AV :=
  match xF P nf (xC P nf 100000) f args [] with
  | some (x, m) => vwC m 20 x
  | none => none
theorem xFz_pure {nf : Nat} (hE : Named P nf) (hm : P.follows .mixedOrders = true) {f : FuncId} {args : List AV} {y : AV} (h : xFz P nf f args = some y) : Pure P f args y := by
  unfold xFz at h
  split at h
  · rename_i x m hx
    refine Spec.frz ((xF_spec hE hm hx).mono fun x' m' h' => ?_)
    obtain ⟨rfl, rfl⟩ := h'
    exact vwC_ok h
  · cases h
end Go.Vg
