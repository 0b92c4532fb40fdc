/- The abstract machine, part Fz: an own slice in a row of memory that nobody writes any more. -/
import Derived.Test.YtlcekedcjdamoaaVgFr
set_option linter.all false
set_option linter.unusedVariables false
namespace Go.Vg
open Go.RowKit
variable {P : Program} {X : Nat → Prop} {w : World} {ρ ρ' : Rho}

/-- y is x, or x is the one and y the other -/
def Fz1 (x0 y0 x y : AV) : Prop := y = x ∨ (x = x0 ∧ y = y0)
def FzL (x0 y0 : AV) : List AV → List AV → Prop
  | [], [] => True
  | x :: l, y :: l' => Fz1 x0 y0 x y ∧ FzL x0 y0 l l'
  | _, _ => False
def FzE (x0 y0 x y : AV) : Prop := Fz1 x0 y0 x y ∨ ∃ xs ys, x = .agg xs ∧ y = .agg ys ∧ FzL x0 y0 xs ys
def FzR (x0 y0 : AV) : List AV → List AV → Prop
  | [], [] => True
  | x :: l, y :: l' => FzE x0 y0 x y ∧ FzR x0 y0 l l'
  | _, _ => False
theorem FzL.len {x0 y0 : AV} : ∀ {l l' : List AV}, FzL x0 y0 l l' → l'.length = l.length
  | [], [], _ => rfl
  | x :: l, y :: l', h => by simp [FzL.len h.2]
theorem FzR.len {x0 y0 : AV} : ∀ {l l' : List AV}, FzR x0 y0 l l' → l'.length = l.length
  | [], [], _ => rfl
  | x :: l, y :: l', h => by simp [FzR.len h.2]
section
variable {id ver off len sz' : Nat} {l0 : List AV}
theorem Fz1.rel (t : Kp X w ρ w ρ') (h0 : ∀ v, R X w ρ (.osl id ver off len) v → R X w ρ' (.lst sz' l0) v) {x y : AV} (h : Fz1 (.osl id ver off len) (.lst sz' l0) x y) {v : Value} (hx : R X w ρ x v) : R X w ρ' y v := by
  rcases h with rfl | ⟨rfl, rfl⟩
  · exact R.mono t hx
  · exact h0 v hx
theorem FzL.rel (t : Kp X w ρ w ρ') (h0 : ∀ v, R X w ρ (.osl id ver off len) v → R X w ρ' (.lst sz' l0) v) {bl : Nat} : ∀ {l l' : List AV} {o : Nat}, FzL (.osl id ver off len) (.lst sz' l0) l l' → Rcells X w ρ l bl o → Rcells X w ρ' l' bl o
  | [], [], _, _, h => h
  | x :: l, y :: l', o, ⟨h1, h2⟩, ⟨⟨v, q1, q2, q3⟩, q4⟩ => ⟨⟨v, q1, q2, h1.rel t h0 q3⟩, FzL.rel t h0 h2 q4⟩
theorem FzE.rel (t : Kp X w ρ w ρ') (h0 : ∀ v, R X w ρ (.osl id ver off len) v → R X w ρ' (.lst sz' l0) v) {x y : AV} (h : FzE (.osl id ver off len) (.lst sz' l0) x y) {sz bl o : Nat} (hx : Re X w ρ x sz bl o) : Re X w ρ' y sz bl o := by
  rcases h with h | ⟨xs, ys, rfl, rfl, h⟩
  · rcases h with rfl | ⟨rfl, rfl⟩
    · exact (Rp.mono t y).2 sz bl o (fun _ => rfl) hx
    · exact OneAt.mono (fun _ => rfl) hx h0
  · exact ⟨by rw [h.len]; exact hx.1, h.rel t h0 hx.2⟩
theorem FzR.rel (t : Kp X w ρ w ρ') (h0 : ∀ v, R X w ρ (.osl id ver off len) v → R X w ρ' (.lst sz' l0) v) {sz bl : Nat} : ∀ {l l' : List AV} {o : Nat}, FzR (.osl id ver off len) (.lst sz' l0) l l' → Rrow X w ρ l sz bl o → Rrow X w ρ' l' sz bl o
  | [], [], _, _, h => h
  | x :: l, y :: l', o, ⟨h1, h2⟩, ⟨q1, q2⟩ => ⟨h1.rel t h0 q1, FzR.rel t h0 h2 q2⟩
end
theorem Rel.freezeRow {s : S} {a : Act} (hr : Rel X s a w ρ) (e id : Nat) {ve vi off len sze szi : Nat} {le le' li : List AV} (hne : e ≠ id) (he : s.m[e]? = some ⟨ve, .row sze le⟩) (hm : s.m[id]? = some ⟨vi, .row szi li⟩) (hlen : off + len ≤ li.length) (hsz : 0 < szi)
    (hf : FzR (.osl id vi off len) (.lst szi ((li.drop off).take len)) le le') :
    ∃ ρ', Rel X { s with m := (s.m.set id ⟨vi + 1, .row szi []⟩).set e ⟨ve, .row sze le'⟩ } a w ρ' ∧ Tr w ρ w ρ' := by
  obtain ⟨r0, h0, hv, hrz, hnone, hblk⟩ := hr.inv.row hm
  obtain ⟨t1, t2⟩ := hr.inv.renew h0 (r' := ⟨r0.ver + 1, none, 0, 0, szi⟩) (w' := w) (k := .row szi []) rfl rfl rfl (Nat.le_refl _) rfl (fun _ _ _ => rfl) (fun b h => by cases h) (fun ρ' _ _ => ⟨rfl, fun _ => rfl, fun b h => by cases h⟩)
  rw [hv] at t1 t2
  have hr2 := hr.step t1 t2
  have key : ∀ v, R X w ρ (.osl id vi off len) v → R X w (ρ.set id ⟨vi + 1, none, 0, 0, szi⟩) (.lst szi ((li.drop off).take len)) v := by
    intro v hx
    obtain ⟨A, c0, r1, hA, h1, hle, hat⟩ := hx
    rw [h0] at h1; cases h1
    obtain ⟨hl, hcm, hpos⟩ := hat hv.symm
    have hll : ((li.drop off).take len).length = len := by simp; omega
    refine ⟨A, c0, by rw [hA, hll], by omega, hcm, fun hne => ?_⟩
    have h0' : 0 < len := by
      rcases Nat.eq_zero_or_pos len with e | e
      · subst e; simp at hne
      · exact e
    obtain ⟨b, hb, hA', hfit⟩ := hpos (by omega)
    obtain ⟨_, _, hrow⟩ := hblk b hb
    refine ⟨b, r0.base + off * r0.sz, hA', ⟨(hr.inv.new id r0 b h0 hb).2, fun r' hr' hb' => ?_⟩, hsz, ?_⟩
    · obtain ⟨i, hi'⟩ := List.getElem?_of_mem hr'
      rcases getElem?_set_cases hi' with ⟨_, _, rfl⟩ | ⟨hne', h2⟩
      · cases hb'
      · exact hne' (hr.inv.apart i id r' r0 b h2 h0 hb' hb)
    · rw [hrz]
      exact Rrow.mono t1.kp _ szi b _ (fun _ => rfl) ((hrow.drop off).take len)
  have hinv : Inv X w (ρ.set id ⟨vi + 1, none, 0, 0, szi⟩) ((s.m.set id ⟨vi + 1, .row szi []⟩).set e ⟨ve, .row sze le'⟩) := by
    have hi := t2
    refine ⟨by have := hi.len; simp at this ⊢; exact this, fun i r' e' hr' he' => ?_, hi.apart, hi.new, hi.out⟩
    rcases getElem?_set_cases he' with ⟨rfl, _, rfl⟩ | ⟨hne', he''⟩
    · have hr'' : ρ[i]? = some r' := by rw [List.getElem?_set_ne (fun h => hne h.symm)] at hr'; exact hr'
      obtain ⟨q1, q2, q3, q4⟩ := hr.inv.at_ i r' _ hr'' he
      refine ⟨q1, q2, fun hb => ?_, fun b hb => ?_⟩
      · have := q3 hb; subst this
        cases le' with
        | nil => rfl
        | cons y l' => exact hf.elim
      · obtain ⟨z1, z2, z3⟩ := q4 b hb
        exact ⟨z1, by rw [hf.len]; exact z2, hf.rel t1.kp key z3⟩
    · exact hi.at_ i r' e' hr' he''
  exact ⟨_, ⟨hr2.tmps, hr2.size, hinv, hr2.defers⟩, t1⟩
/-- an own slice in a row of memory becomes a frozen one -/
theorem Wp.freezeRow {r : Option Nat} {c : Code} {Q : Exit → S → Prop} {s : S} (e id : Nat) {ve vi off len sze szi : Nat} {le le' li : List AV} (hne : e ≠ id) (he : s.m[e]? = some ⟨ve, .row sze le⟩) (hm : s.m[id]? = some ⟨vi, .row szi li⟩) (hlen : off + len ≤ li.length) (hsz : 0 < szi)
    (hf : FzR (.osl id vi off len) (.lst szi ((li.drop off).take len)) le le')
    (k : Wp P r c Q { s with m := (s.m.set id ⟨vi + 1, .row szi []⟩).set e ⟨ve, .row sze le'⟩ }) : Wp P r c Q s := by
  intro X a w ρ hr
  obtain ⟨ρ1, hr3, t1⟩ := hr.freezeRow e id hne he hm hlen hsz hf
  exact Go.wpIn_mono (k X a w _ hr3) fun e a' w' ⟨s', ρ', q, k1, k2⟩ => ⟨s', ρ', q, k1, t1.trans k2⟩
end Go.Vg
