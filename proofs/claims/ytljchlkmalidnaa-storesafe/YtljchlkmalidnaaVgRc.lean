/- The abstract machine, part Rc: an array in an own entry seen as its elements, and back; a slice of such an array. -/
import Derived.Test.YtljchlkmalidnaaVgNl
import Derived.Test.YtljchlkmalidnaaVgFz
set_option linter.all false
set_option linter.unusedVariables false
namespace Go.Vg
open Go.RowKit
variable {P : Program} {X : Nat → Prop} {w : World} {ρ : Rho} {gds : List (Option Nat)} {l : List Oper} {Q : S → Prop}

theorem Rcells.appI : ∀ {xs ys : List AV} {b o : Nat}, Rcells X w ρ (xs ++ ys) b o ↔ Rcells X w ρ xs b o ∧ Rcells X w ρ ys b (o + xs.length)
  | [], ys, b, o => by simp [Rcells]
  | x :: xs, ys, b, o => by
    rw [List.cons_append]
    simp only [Rcells]
    rw [Rcells.appI, and_assoc, List.length_cons, show o + 1 + xs.length = o + (xs.length + 1) by omega]
theorem Rrow.flat {sz b : Nat} : ∀ {ls : List (List AV)} {o : Nat}, (∀ xs ∈ ls, xs.length = sz) → (Rrow X w ρ (ls.map AV.agg) sz b o ↔ Rcells X w ρ ls.flatten b o)
  | [], _, _ => by simp [Rrow, Rcells]
  | xs :: ls, o, h => by
    have hx := h xs (by simp)
    rw [List.map_cons, List.flatten_cons, Rcells.appI, ← Rrow.flat (fun y hy => h y (by simp [hy])), hx]
    simp only [Rrow, Rp]
    exact ⟨fun q => ⟨q.1.2, q.2⟩, fun q => ⟨⟨hx, q.1⟩, q.2⟩⟩
theorem flat_len {sz : Nat} : ∀ {ls : List (List AV)}, (∀ xs ∈ ls, xs.length = sz) → ls.flatten.length = ls.length * sz
  | [], _ => by simp
  | xs :: ls, h => by
    rw [List.flatten_cons, List.length_append, h xs (by simp), flat_len (fun y hy => h y (by simp [hy])), List.length_cons, Nat.succ_mul, Nat.add_comm]
theorem Rel.recut {s : S} {a : Act} (hr : Rel X s a w ρ) (n : Nat) {id ver sz sz' : Nat} {ls ls' : List (List AV)} (h : look s.t n = .optr id ver 0 0) (hm : s.m[id]? = some ⟨ver, .row sz (ls.map AV.agg)⟩) (h1 : ∀ xs ∈ ls, xs.length = sz) (h2 : ∀ xs ∈ ls', xs.length = sz') (hf : ls'.flatten = ls.flatten) (hn : ls = [] → ls' = []) :
    ∃ ρ', Rel X { s with t := (n, .optr id (ver + 1) 0 0) :: s.t, m := s.m.set id ⟨ver + 1, .row sz' (ls'.map AV.agg)⟩ } a w ρ' ∧ Tr w ρ w ρ' := by
  obtain ⟨r0, h0, hv, hrz, hnone, hblk⟩ := hr.inv.row hm
  have hlen : ls'.length * sz' = ls.length * sz := by rw [← flat_len h1, ← flat_len h2, hf]
  obtain ⟨t1, t2⟩ := hr.inv.renew h0 (r' := ⟨r0.ver + 1, r0.blk, r0.base, r0.size, sz'⟩) (w' := w) (k := .row sz' (ls'.map AV.agg)) rfl rfl rfl (Nat.le_refl _) rfl (fun _ _ _ => rfl) (fun b hb => ⟨.inl hb, (hr.inv.new id r0 b h0 hb).1⟩) (fun ρ' hρ ht => by
    refine ⟨rfl, fun hb => ?_, fun b hb => ?_⟩
    · have := hnone hb
      rw [List.map_eq_nil_iff] at this
      rw [hn this]; rfl
    · obtain ⟨z1, z2, z3⟩ := hblk b hb
      refine ⟨z1, by rw [List.length_map, hlen]; rw [List.length_map] at z2; exact z2, ?_⟩
      rw [Rrow.flat h2, hf, ← Rrow.flat h1]
      exact Rrow.mono ht.kp _ sz b _ (fun _ => rfl) z3)
  rw [hv] at t1 t2
  have hr2 := hr.step t1 t2
  have hx := hr.tmps n
  rw [h] at hx
  obtain ⟨A, r1, hA, q1, q2, q3⟩ := hx
  rw [h0] at q1; cases q1
  obtain ⟨b, hb, hA2⟩ := q3 hv.symm
  have hlt := (List.getElem?_eq_some_iff.1 h0).1
  exact ⟨_, hr2.setT (x := .optr id (ver + 1) 0 0) ⟨A, ⟨ver + 1, r0.blk, r0.base, r0.size, sz'⟩, hA, List.getElem?_set_self hlt, Nat.le_refl _, fun _ => ⟨b, hb, by rw [hA2]; simp⟩⟩, t1⟩
/-- the cells of an entry are counted anew: an array as its elements, or back -/
theorem Wp.recut {r : Option Nat} {c : Code} {Q : Exit → S → Prop} {s : S} (n : Nat) {id ver sz sz' : Nat} {ls ls' : List (List AV)} (h : look s.t n = .optr id ver 0 0) (hm : s.m[id]? = some ⟨ver, .row sz (ls.map AV.agg)⟩) (h1 : ∀ xs ∈ ls, xs.length = sz) (h2 : ∀ xs ∈ ls', xs.length = sz') (hf : ls'.flatten = ls.flatten) (hn : ls = [] → ls' = [])
    (k : Wp P r c Q { s with t := (n, .optr id (ver + 1) 0 0) :: s.t, m := s.m.set id ⟨ver + 1, .row sz' (ls'.map AV.agg)⟩ }) : Wp P r c Q s := by
  intro X a w ρ hr
  obtain ⟨ρ1, hr3, t1⟩ := hr.recut n h hm h1 h2 hf hn
  exact Go.wpIn_mono (k X a w _ hr3) fun e a' w' ⟨s', ρ', q, k1, k2⟩ => ⟨s', ρ', q, k1, t1.trans k2⟩
/-- the first elements of an array in an own entry, as a slice -/
theorem Run.sliceArr {dst : Option Nat} {t e type : TypeId} {x hi : Operand} {pos : String} {after : Array Edge} {s : S} {id ver N sz b : Nat} {k : IntKind} {xs : List AV} (hu : arT P t = some (N, e)) (hsz : tsz P e = some sz) (hx : evo s.t x = .optr id ver 0 0) (hm : s.m[id]? = some ⟨ver, .row sz xs⟩) (hN : N ≤ xs.length) (hM : N ≤ maxLen) (hb : evo s.t hi = .val (.int k (b : Int))) (hbN : b ≤ N)
    (kk : Run P gds l Q (putA s dst (.osl id ver 0 b))) : Run P gds (⟨dst, .slice t x none (some hi) none, type, pos, after, none⟩ :: l) Q s := by
  refine Run.yieldN ⟨fun c e => (by cases e), fun X w ρ a hinv hr hn => ⟨fun _ => ?_, fun hw => (by simp [Region.wanted] at hw)⟩⟩ kk
  have hx1 : R X w ρ (evo s.t x) (a.eval x) := evo_of (fun n hn => hr n (.inr hn)) x (by simp [Op.operands])
  have hh1 : R X w ρ (evo s.t hi) (a.eval hi) := evo_of (fun n hn => hr n (.inr hn)) hi (by simp [Op.operands])
  rw [hx] at hx1
  rw [hb, R_val] at hh1
  obtain ⟨r0, h0, hv, hrz, hnone, hblk⟩ := hinv.row hm
  obtain ⟨A, r1, hA, q1, q2, q3⟩ := hx1
  rw [h0] at q1; cases q1
  obtain ⟨bl, hbl, hA2⟩ := q3 hv.symm
  obtain ⟨_, z2, _⟩ := hblk bl hbl
  have hbd := run_bounds (P := P) (isS := false) (len := N) (cap := N) (X := X) (w := w) (ρ := ρ) (lo := none) (hi := some (evo s.t hi)) (vlo := none) (vhi := some (a.eval hi)) (a := 0) (b := (b : Int)) (fun x h => by cases h) (fun _ => rfl) (fun x h => by cases h; exact ⟨_, rfl, by rw [hb, R_val]; exact hh1⟩) (fun h => by cases h) rfl (by rw [hb]; rfl) (by omega) (by omega) (by omega) (Nat.le_refl _)
  refine .inl ⟨.slice (some ⟨bl, r0.base, none⟩) b N, w, ?_, ⟨_, N, r0, rfl, h0, by omega, fun _ => ⟨hbN, hM, fun _ => ⟨bl, hbl, by simp, ?_⟩⟩⟩, hinv, Tr.refl w ρ⟩
  · simp [execOp, Instr.sliceAt, underlying, arT_some hu, hA, hA2, Instr.sureAddr, hbd, run_sizeOf hsz, Addr.add_none]
  · rw [hrz, Nat.zero_add]
    have := Nat.mul_le_mul_right sz hN
    omega
end Go.Vg
