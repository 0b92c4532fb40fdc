/- The abstract machine, part Ap: append to a nil slice as memory in an entry that stands already. -/
import Derived.Test.YtljchlkmalidnaaVgVe
import Derived.Test.YtljchlkmalidnaaVgFr
set_option linter.all false
set_option linter.unusedVariables false
namespace Go.Vg
open Go.RowKit
variable {P : Program} {gds : List (Option Nat)} {l : List Oper} {Q : S → Prop} {s : S}
theorem Rel.vacsZ {X : Nat → Prop} {w : World} {ρ : Rho} {s : S} (z : Nat) {a : Act} (hr : Rel X s a w ρ) : ∀ n : Nat, ∃ ρ', Rel X { s with m := s.m ++ List.replicate n ⟨0, .row z []⟩ } a w ρ' ∧ Tr w ρ w ρ'
  | 0 => ⟨ρ, by simpa using hr, Tr.refl w ρ⟩
  | n + 1 => by
    obtain ⟨ρ1, h1, t1⟩ := Rel.vacsZ z hr n
    obtain ⟨t2, i2⟩ := h1.inv.adopt z
    refine ⟨_, ?_, t1.trans t2⟩
    have := h1.step t2 i2
    simp only at this
    rw [List.append_assoc] at this
    rw [List.replicate_succ']
    exact this
theorem Wp.adoptRowZ {r : Option Nat} {c : Code} {Q : Exit → S → Prop} {s : S} (e n z : Nat) {ver sz : Nat} {l l' : List AV} (hm : s.m[e]? = some ⟨ver, .row sz l⟩) (hl : AdR s.m.length (s.m.length + n) l l')
    (k : Wp P r c Q { s with m := s.m.set e ⟨ver, .row sz l'⟩ ++ List.replicate n ⟨0, .row z []⟩ }) : Wp P r c Q s := by
  intro X a w ρ hr
  obtain ⟨ρ1, h1, t1⟩ := hr.vacsZ z n
  have hlen : e < s.m.length := (List.getElem?_eq_some_iff.1 hm).1
  have hm1 : (s.m ++ List.replicate n (⟨0, .row z []⟩ : Ent))[e]? = some ⟨ver, .row sz l⟩ := by rw [List.getElem?_append_left hlen]; exact hm
  have hv : ∀ id, s.m.length ≤ id → id < s.m.length + n → ∃ r, ρ1[id]? = some r ∧ r.ver = 0 := by
    intro id q1 q2
    have hi1 : id < ρ1.length := by rw [h1.inv.len]; simp; omega
    refine ⟨ρ1[id], List.getElem?_eq_getElem hi1, ?_⟩
    have hi2 : (s.m ++ List.replicate n (⟨0, .row z []⟩ : Ent))[id]? = some ⟨0, .row z []⟩ := by
      rw [List.getElem?_append_right q1, List.getElem?_replicate, if_pos (by omega)]
    exact (h1.inv.at_ id _ _ (List.getElem?_eq_getElem hi1) hi2).1
  have hinv : Inv X w ρ1 ((s.m ++ List.replicate n (⟨0, .row z []⟩ : Ent)).set e ⟨ver, .row sz l'⟩) := by
    have hi := h1.inv
    refine ⟨by simp [hi.len], fun i r' e' hr' he => ?_, hi.apart, hi.new, hi.out, hi.gd⟩
    rcases getElem?_set_cases he with ⟨rfl, _, rfl⟩ | ⟨hne, he'⟩
    · obtain ⟨q1, q2, q3, q4⟩ := hi.at_ i r' _ hr' hm1
      refine ⟨q1, q2, fun hb => ?_, fun b hb => ?_⟩
      · have := q3 hb; subst this
        cases l' with
        | nil => rfl
        | cons y l' => exact hl.elim
      · obtain ⟨z1, z2, z3⟩ := q4 b hb
        exact ⟨z1, by rw [hl.len]; exact z2, hl.rel hv z3⟩
    · exact hi.at_ i r' e' hr' he'
  have hrel : Rel X { s with m := s.m.set e ⟨ver, .row sz l'⟩ ++ List.replicate n ⟨0, .row z []⟩ } a w ρ1 := by
    refine ⟨h1.tmps, h1.size, ?_, h1.defers⟩
    have := hinv
    rwa [List.set_append_left _ _ hlen] at this
  exact Go.wpIn_mono (k X a w _ hrel) fun e a' w' ⟨s', ρ', q, k1, k2⟩ => ⟨s', ρ', q, k1, t1.trans k2⟩
end Go.Vg
