/- The abstract machine, part H2: an entry gets a new version. -/
import Derived.Test.YtljchlkmalidnaaVgH
set_option linter.all false
set_option linter.unusedVariables false
namespace Go.Vg
open Go.RowKit
variable {P : Program} {X : Nat → Prop} {w : World} {ρ : Rho}

theorem getElem?_set_cases {α : Type} {l : List α} {i id : Nat} {x y : α} (h : (l.set id x)[i]? = some y) : (i = id ∧ id < l.length ∧ y = x) ∨ (i ≠ id ∧ l[i]? = some y) := by
  by_cases hid : i = id
  · subst hid
    have hlt : i < l.length := by have := (List.getElem?_eq_some_iff.1 h).1; simpa using this
    rw [List.getElem?_set_self hlt] at h
    exact .inl ⟨rfl, hlt, (Option.some.inj h).symm⟩
  · rw [List.getElem?_set_ne (Ne.symm hid)] at h
    exact .inr ⟨hid, h⟩

/-- entry id gets a new version: in its block, or in another -/
theorem Inv.renew {m : Mem} (hi : Inv X w ρ m) {id : Nat} {r r' : RE} (hr : ρ[id]? = some r) {w' : World} (hos : w'.os = w.os) (htp : w'.tape = w.tape) (hou : w'.output = w.output) (hsz : w.heap.size ≤ w'.heap.size)
    (hver : r'.ver = r.ver + 1) (hoth : ∀ b, b < w.heap.size → r.blk ≠ some b → w'.heap[b]? = w.heap[b]?) (hblk : ∀ b, r'.blk = some b → (r.blk = some b ∨ w.heap.size ≤ b) ∧ b < w'.heap.size) {k : Kind}
    (hk : ∀ ρ', ρ' = ρ.set id r' → Tr w ρ w' ρ' → KindAt X w' ρ' r' k) : Tr w ρ w' (ρ.set id r') ∧ Inv X w' (ρ.set id r') (m.set id ⟨r.ver + 1, k⟩) := by
  have htr : Tr w ρ w' (ρ.set id r') := by
    refine ⟨hos, htp, hou, hsz, fun i r0 h0 => ?_, fun b hb hlt => ⟨fun r0 h0 => ?_, hoth b hlt fun e => hb r (List.mem_of_getElem? hr) e⟩⟩
    · by_cases hid : i = id
      · subst hid
        rw [hr] at h0; cases h0
        exact ⟨r', by rw [List.getElem?_set_self (List.getElem?_eq_some_iff.1 hr).1], by omega, fun e => by omega⟩
      · exact ⟨r0, by rw [List.getElem?_set_ne (Ne.symm hid)]; exact h0, Nat.le_refl _, fun _ => rfl⟩
    · obtain ⟨i, hi'⟩ := List.getElem?_of_mem h0
      rcases getElem?_set_cases hi' with ⟨_, _, rfl⟩ | ⟨_, h1⟩
      · intro e
        rcases (hblk b e).1 with h | h
        · exact hb r (List.mem_of_getElem? hr) h
        · omega
      · exact hb r0 (List.mem_of_getElem? h1)
  refine ⟨htr, by simp [hi.len], fun i r0 e h0 he => ?_, fun i j r1 r2 b h1 h2 hb1 hb2 => ?_, fun i r0 b h0 hb => ?_, fun b hb => Nat.lt_of_lt_of_le (hi.out b hb) hsz, hi.gd.tr htr⟩
  · rcases getElem?_set_cases h0 with ⟨rfl, _, rfl⟩ | ⟨hne, h1⟩
    · rcases getElem?_set_cases he with ⟨_, _, rfl⟩ | ⟨hne, _⟩
      · exact ⟨hver, hk _ rfl htr⟩
      · exact absurd rfl hne
    · rcases getElem?_set_cases he with ⟨h, _, _⟩ | ⟨_, he⟩
      · exact absurd h hne
      obtain ⟨q0, q⟩ := hi.at_ i r0 e h1 he
      exact ⟨q0, q.mono htr.kp fun b' hb' => hoth b' (hi.new i r0 b' h1 hb').1 fun e' => hne (hi.apart i id r0 r b' h1 hr hb' e')⟩
  · rcases getElem?_set_cases h1 with ⟨rfl, _, rfl⟩ | ⟨hn1, g1⟩ <;> rcases getElem?_set_cases h2 with ⟨rfl, _, rfl⟩ | ⟨hn2, g2⟩
    · rfl
    · rcases (hblk b hb1).1 with h | h
      · exact hi.apart _ _ r r2 b hr g2 h hb2
      · have := (hi.new j r2 b g2 hb2).1; omega
    · rcases (hblk b hb2).1 with h | h
      · exact hi.apart _ _ r1 r b g1 hr hb1 h
      · have := (hi.new i r1 b g1 hb1).1; omega
    · exact hi.apart i j r1 r2 b g1 g2 hb1 hb2
  · rcases getElem?_set_cases h0 with ⟨rfl, _, rfl⟩ | ⟨hn1, g1⟩
    · refine ⟨(hblk b hb).2, fun hx => ?_⟩
      rcases (hblk b hb).1 with h | h
      · exact (hi.new _ r b hr h).2 hx
      · have := hi.out b hx; omega
    · have := hi.new i r0 b g1 hb
      exact ⟨Nat.lt_of_lt_of_le this.1 hsz, this.2⟩

end Go.Vg
