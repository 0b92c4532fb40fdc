/- A part of the proof of TopLent: contracts of functions, with plain laws that they need. -/
import Derived.Test.YtlcekedcjdamoaaVgT
import Derived.Test.YtlcekedcjdamoaaVgVw
import Derived.Test.YtlcekedcjdamoaaVgFr
import Derived.Test.YtlcekedcjdamoaaVgVz
import Derived.Test.YtlcekedcjdamoaaVgFs
import Derived.Test.YtlcekedcjdamoaaVgFz
import Derived.Test.YtlcekedcjdamoaaVgDm
set_option linter.all false
set_option maxHeartbeats 8000000
namespace Go.Proofs.Try
open Go.Vg

/-! code locks and clues about places -/
structure Cl where
  kind : Int
  a : Int
  b : Int
  n : Int
  m : Int
  no : Bool
def clA (x : Cl) : AV := .agg [.int x.kind, .int x.a, .int x.b, .int x.n, .int x.m, .lst 1 [], .bool x.no]
abbrev lkA (w s : Int) : AV := .agg [.int w, .int s]
theorem okL_mapC {α : Type} {f : α → AV} (k : Nat) (l : List α) (h : ∀ x, (f x).ok k) : okL k (l.map f) := okL_iff.2 fun x hx => by
  obtain ⟨y, _, rfl⟩ := List.mem_map.1 hx
  exact h y
theorem okL_cl (k : Nat) (l : List Cl) : okL k (l.map clA) = True := eq_true (okL_mapC k l fun x => by simp [clA, AV.ok, okL])
attribute [push_cast] clA okL_cl
end Go.Proofs.Try
set_option maxHeartbeats 8000000
namespace Go.Proofs.Try
open Go.Vg

/-! all codes of a lock, in order; the next one -/
/-- the symbol of the last wheel -/
def dC (s k : Nat) : Int := ((k % s : Nat) : Int)
def digL (s : Nat) : Nat → Nat → List Int
  | 0, _ => []
  | w + 1, k => digL s w (k / s) ++ [dC s k]
theorem digL_len (s : Nat) : ∀ w k, (digL s w k).length = w
  | 0, _ => rfl
  | w + 1, k => by simp [digL, digL_len s w]
theorem digL_zeros {s : Nat} (hs : 0 < s) (p q : Nat) : ∀ j, digL s (p + j) (q * s ^ j) = digL s p q ++ List.replicate j 0
  | 0 => by simp
  | j + 1 => by
    have e : q * s ^ (j + 1) = (q * s ^ j) * s := by rw [Nat.pow_succ, Nat.mul_assoc]
    show digL s (p + j) (q * s ^ (j + 1) / s) ++ [dC s (q * s ^ (j + 1))] = _
    unfold dC
    rw [e, Nat.mul_div_cancel _ hs, Nat.mul_mod_left, digL_zeros hs p q j, List.replicate_succ']
    simp
def codesN (s w : Nat) : List (List Int) := (List.range (s ^ w)).map (digL s w)
def restN (s w k : Nat) : List (List Int) := (List.range' k (s ^ w - k)).map (digL s w)
theorem restN_zero (s w : Nat) : restN s w 0 = codesN s w := by
  unfold restN codesN
  rw [List.range_eq_range', Nat.sub_zero]
theorem restN_step {s w k : Nat} (h : k < s ^ w) : restN s w k = digL s w k :: restN s w (k + 1) := by
  unfold restN
  obtain ⟨d, hd⟩ : ∃ d, s ^ w - k = d + 1 := ⟨s ^ w - k - 1, by omega⟩
  rw [hd, show s ^ w - (k + 1) = d by omega, List.range'_succ, List.map_cons]
theorem restN_end {s w k : Nat} (h : s ^ w ≤ k) : restN s w k = [] := by
  unfold restN
  rw [show s ^ w - k = 0 by omega]; rfl
theorem digL_zero {s : Nat} (hs : 0 < s) (w : Nat) : digL s w 0 = List.replicate w 0 := by
  have := digL_zeros hs 0 0 w
  simpa [digL] using this
theorem digL_bd {s : Nat} (hs : 0 < s) : ∀ (w k : Nat), ∀ x ∈ digL s w k, 0 ≤ x ∧ x < s
  | 0, k, x, h => by simp [digL] at h
  | w + 1, k, x, h => by
    simp only [digL, List.mem_append, List.mem_cons, List.not_mem_nil, or_false] at h
    rcases h with h | rfl
    · exact digL_bd hs w _ x h
    · have := Nat.mod_lt k hs
      unfold dC
      exact ⟨Int.natCast_nonneg _, by exact_mod_cast this⟩
/-- the code while the wheels behind are at 0: p wheels show the digits of q, and k + 1 is (q + 1) times the steps of a wheel -/
def odoL (s p q j : Nat) : List Int := digL s p q ++ List.replicate j 0
theorem odoL_len (s p q j : Nat) : (odoL s p q j).length = p + j := by simp [odoL, digL_len]
theorem odoL_get (s p q j : Nat) : (odoL s (p + 1) q j).getD p 0 = dC s q := by
  have h := digL_len s p (q / s)
  unfold odoL digL
  rw [List.append_assoc, List.getD_eq_getElem?_getD, List.getElem?_append_right (by omega), h]
  simp
theorem odoL_zero (s p q j : Nat) : (odoL s (p + 1) q j).set p 0 = odoL s p (q / s) (j + 1) := by
  have h := digL_len s p (q / s)
  unfold odoL
  rw [digL, List.append_assoc, List.set_append_right _ _ (by omega), h, Nat.sub_self, List.replicate_succ]
  rfl
theorem odoL_inc {s : Nat} (hs : 0 < s) (p q j : Nat) (h : q % s + 1 < s) : (odoL s (p + 1) q j).set p (dC s q + 1) = digL s (p + 1 + j) ((q + 1) * s ^ j) := by
  have h1 := digL_len s p (q / s)
  rw [digL_zeros hs]
  unfold odoL
  rw [digL, List.append_assoc, List.set_append_right _ _ (by omega), h1, Nat.sub_self]
  have e1 : (q + 1) / s = q / s := by
    have := Nat.div_add_mod q s
    have h2 : q + 1 = s * (q / s) + (q % s + 1) := by omega
    rw [h2, Nat.mul_add_div hs, Nat.div_eq_of_lt h]; rfl
  have e2 : (q + 1) % s = q % s + 1 := by
    have := Nat.div_add_mod q s
    have h2 : q + 1 = s * (q / s) + (q % s + 1) := by omega
    rw [h2, Nat.mul_add_mod, Nat.mod_eq_of_lt h]
  unfold dC
  rw [digL, e1]
  unfold dC
  rw [e2]
  simp
/-- a step of the search for the wheel that goes on -/
theorem odo_step {s k q j : Nat} (hs : 0 < s) (hk : k + 1 = (q + 1) * s ^ j) (h : q % s = s - 1) : k + 1 = (q / s + 1) * s ^ (j + 1) := by
  have := Nat.div_add_mod q s
  have h2 : q + 1 = s * (q / s + 1) := by rw [Nat.mul_add]; omega
  rw [hk, h2, Nat.pow_succ, Nat.mul_comm s, Nat.mul_assoc, Nat.mul_comm s]
theorem odo_lt {s p q j : Nat} (hs : 0 < s) (hq : q < s ^ (p + 1)) (h : q % s + 1 < s) : (q + 1) * s ^ j < s ^ (p + 1 + j) := by
  have hne : q + 1 ≠ s ^ (p + 1) := by
    intro e
    have h1 : (q + 1) % s = 0 := by rw [e, Nat.pow_succ, Nat.mul_mod_left]
    have h2 := Nat.div_add_mod q s
    have h3 : q + 1 = s * (q / s) + (q % s + 1) := by omega
    rw [h3, Nat.mul_add_mod, Nat.mod_eq_of_lt h] at h1
    omega
  rw [Nat.pow_add]
  exact Nat.mul_lt_mul_of_pos_right (by omega) (Nat.pow_pos hs)
theorem dC_bd {s : Nat} (hs : 0 < s) (q : Nat) : 0 ≤ dC s q ∧ dC s q < s := by
  have := Nat.mod_lt q hs
  unfold dC
  exact ⟨Int.natCast_nonneg _, by exact_mod_cast this⟩
/-- what is done with each code, until it says no -/
def fldC {σ : Type} (go : σ → List Int → σ × Bool) (s : σ) : List (List Int) → σ × Bool
  | [] => (s, true)
  | x :: l => if (go s x).2 = true then fldC go (go s x).1 l else ((go s x).1, false)
theorem codes_mem {s w k : Nat} (h : k < s ^ w) : digL s w k ∈ codesN s w := List.mem_map.2 ⟨k, List.mem_range.2 h, rfl⟩
theorem codes_bd {s w : Nat} (hs : 0 < s) {c : List Int} (h : c ∈ codesN s w) : c.length = w ∧ ∀ x ∈ c, 0 ≤ x ∧ x < s := by
  obtain ⟨k, _, rfl⟩ := List.mem_map.1 h
  exact ⟨digL_len s w k, digL_bd hs w k⟩
end Go.Proofs.Try
set_option maxHeartbeats 8000000
namespace Go.Proofs.Try
open Go.Vg

/-! whether clues hold for a code -/
end Go.Proofs.Try
set_option maxHeartbeats 8000000
set_option maxRecDepth 20000
namespace Go.Proofs.Try
open Go.Vg

/-! the iterator of the codes -/
theorem codes_spec (w s : Int) : Go.Vg.Spec Try.prog 43 [lkA w s] [] fun x m' => x = .clo 64 [.optr 0 0 0 0] ∧ m' = [⟨0, .row 2 [lkA w s]⟩] := by
  (refine Spec.of_body Try.func43 rfl (by rw [Try.ntmps43]; simp) 1 (by simp) ?_; rw [Try.results43, Try.ntmps43]; simp only [entry, zipArgs, Nat.reduceAdd])
  repeat (first | apply Wp.seq | apply Wp.block | (apply Run.next; (simp only [push_cast, seval] <;> (try simp (disch := omega) only [wI, wU, wC]) <;> exact rfl); (focus ((try simp only [push_cast, seval]) <;> exact sT))) | ((first | apply Run.nil | apply Wp.skip); dsimp only [sQ, tQ, bQ]) | (apply Wp.run; (dsimp only [List.map] <;> exact rfl); exact rfl) | (apply Wp.exit; dsimp only [sQ, tQ, bQ]; simp only [reduceIte]))
  (apply Wp.ret; (try dsimp only [sQ, tQ, bQ]); apply leaveK; exact rfl; (simp only [push_cast, seval] <;> (try simp (disch := omega) only [wI, wU, wC]) <;> exact rfl); (focus (first | (simp only [push_cast, seval]; done) | trivial | (simp only [push_cast, seval]; trivial) | (simp; done))); (focus (first | (simp only [push_cast, seval]; done) | trivial | (simp only [push_cast, seval]; trivial) | (simp; done))); (focus (first | (simp only [push_cast, seval]; done) | trivial | (simp only [push_cast, seval]; trivial) | (simp; done))); (try simp only [push_cast, seval]))
section
variable {σ : Type} (K : σ → Mem) (go : σ → List Int → σ × Bool) (G : σ → Prop)
theorem codesI_spec {N yid wl w s : Nat} (hK : ∀ st, (K st).length = N) (hKok : ∀ st, ∀ e ∈ K st, e.kind.ok N) (hwl : ∀ st l, (K st ++ l)[wl]? = some ⟨0, .row 2 [lkA w s]⟩) (hw1 : 1 ≤ w) (hw4 : w ≤ 4) (hs2 : 2 ≤ s) (hs10 : s ≤ 10)
    (hG : ∀ st c, G st → c ∈ codesN s w → (go st c).2 = true → G (go st c).1)
    (hY : ∀ st c, G st → c ∈ codesN s w → YSpec Try.prog (.yld yid 0) [.osl N 0 0 w] (K st ++ [⟨0, .row 1 (c.map AV.int)⟩]) fun x m' => x = .bool (go st c).2 ∧ m' = K (go st c).1 ++ [⟨0, .row 1 (c.map AV.int)⟩]) (st0 : σ) (hst : G st0) :
    Go.Vg.Spec Try.prog 64 [.yld yid 0, .optr wl 0 0 0] (K st0) (fun _ m' => m' = K (fldC go st0 (codesN s w)).1) := by
  have hlenK : ∀ (st : σ) (l : Mem), (K st ++ l).length = N + l.length := fun st l => by rw [List.length_append, hK]
  have hs0 : 0 < s := by omega
  have hpw : 0 < s ^ w := Nat.pow_pos hs0
  have hwl0 : ∀ st, (K st)[wl]? = some ⟨0, .row 2 [lkA w s]⟩ := fun st => by have := hwl st []; rwa [List.append_nil] at this
  (refine Spec.of_body Try.func64 rfl (by rw [Try.ntmps64]; simp) N (by rw [hK]; simp) ?_; rw [Try.results64, Try.ntmps64]; simp only [entry, zipArgs, Nat.reduceAdd])
  repeat (first | apply Wp.seq | apply Wp.block | (apply Run.next; (simp only [push_cast, seval, getF (hK st0), getF0 (hK st0), setF (hK st0), setF0 (hK st0), hwl0 st0, hwl st0, hK st0, hlenK, List.append_assoc] <;> (try simp (disch := omega) only [wI, wU, wC]) <;> exact rfl); (focus ((try simp only [push_cast, seval, getF (hK st0), getF0 (hK st0), setF (hK st0), setF0 (hK st0), hwl0 st0, hwl st0, hK st0, hlenK, List.append_assoc]) <;> exact sT))) | ((first | apply Run.nil | apply Wp.skip); dsimp only [sQ, tQ, bQ]) | (apply Wp.run; (dsimp only [List.map] <;> exact rfl); exact rfl) | (apply Wp.exit; dsimp only [sQ, tQ, bQ]; simp only [reduceIte]))
  refine Wp.loop (fun (q : σ × Nat) => { t := [(0, .yld yid 0), (1, .optr wl 0 0 0), (3, .osl N 0 0 w)], m := K q.1 ++ [⟨0, .row 1 ((digL s w q.2).map AV.int)⟩], n := 40 }) (fun q => q.2 < s ^ w ∧ G q.1 ∧ (fldC go q.1 (restN s w q.2)).1 = (fldC go st0 (codesN s w)).1) (fun q => s ^ w - q.2) (st0, 0) ?_ ?_ ?_
  · simp only [digL_zero hs0]
    (refine Le.of ?_ ?_ rfl rfl <;> (try simp only [push_cast, seval, getF (hK st0), getF0 (hK st0), setF (hK st0), setF0 (hK st0), hwl0 st0, hwl st0, hK st0, hlenK, List.append_assoc]) <;> (try (with_reducible rfl)))
    all_goals rfl
  · exact ⟨hpw, hst, by rw [restN_zero]⟩
  · rintro ⟨st, k⟩ ⟨hk1, hk2, hk3⟩
    simp only at hk1 hk2 hk3
    have hYs := hY st _ hk2 (codes_mem hk1)
    have hGs := hG st _ hk2 (codes_mem hk1)
    rw [restN_step hk1, fldC] at hk3
    generalize go st (digL s w k) = R at hYs hGs hk3
    repeat (first | apply Wp.seq | apply Wp.block | (apply Run.next; (simp only [push_cast, seval, getF (hK st), getF0 (hK st), setF (hK st), setF0 (hK st), hwl st, hK st, hlenK, List.append_assoc] <;> (try simp (disch := omega) only [wI, wU, wC]) <;> exact rfl); (focus ((try simp only [push_cast, seval, getF (hK st), getF0 (hK st), setF (hK st), setF0 (hK st), hwl st, hK st, hlenK, List.append_assoc]) <;> exact sT))) | ((first | apply Run.nil | apply Wp.skip); dsimp only [sQ, tQ, bQ]) | (apply Wp.run; (dsimp only [List.map] <;> exact rfl); exact rfl) | (apply Wp.exit; dsimp only [sQ, tQ, bQ]; simp only [reduceIte]))
    apply Run.ycall (hc := hYs)
    focus exact rfl
    focus (simp only [push_cast, seval, getF (hK st), getF0 (hK st), setF (hK st), setF0 (hK st), hwl st, hK st, hlenK, List.append_assoc] <;> (try simp (disch := omega) only [wI, wU, wC]) <;> exact rfl)
    focus (simp only [push_cast, seval, getF (hK st), getF0 (hK st), setF (hK st), setF0 (hK st), hwl st, hK st, hlenK, List.append_assoc] <;> (try simp (disch := omega) only [wI, wU, wC]) <;> exact rfl)
    rintro x m' ⟨rfl, rfl⟩
    obtain ⟨st1, b⟩ := R
    cases b with
    | false =>
      rw [if_neg (by simp)] at hk3
      simp only at hk3
      dsimp only [S.put, optG]
      repeat (first | apply Wp.seq | apply Wp.block | (apply Run.next; (simp only [push_cast, seval, getF (hK st1), getF0 (hK st1), setF (hK st1), setF0 (hK st1), hwl st1, hK st1, hlenK, List.append_assoc] <;> (try simp (disch := omega) only [wI, wU, wC]) <;> exact rfl); (focus ((try simp only [push_cast, seval, getF (hK st1), getF0 (hK st1), setF (hK st1), setF0 (hK st1), hwl st1, hK st1, hlenK, List.append_assoc]) <;> exact sT))) | ((first | apply Run.nil | apply Wp.skip); dsimp only [sQ, tQ, bQ]) | (apply Wp.run; (dsimp only [List.map] <;> exact rfl); exact rfl) | (apply Wp.exit; dsimp only [sQ, tQ, bQ]; simp only [reduceIte]) | (apply Run.gtrue; (simp only [push_cast, seval, getF (hK st1), getF0 (hK st1), setF (hK st1), setF0 (hK st1), hwl st1, hK st1, hlenK, List.append_assoc] <;> (try simp (disch := omega) only [wI, wU, wC]) <;> exact rfl); (simp only [push_cast, seval, getF (hK st1), getF0 (hK st1), setF (hK st1), setF0 (hK st1), hwl st1, hK st1, hlenK, List.append_assoc] <;> (try simp (disch := omega) only [wI, wU, wC]) <;> exact rfl)) | (apply Run.gfalse (.bool false); (simp only [push_cast, seval, getF (hK st1), getF0 (hK st1), setF (hK st1), setF0 (hK st1), hwl st1, hK st1, hlenK, List.append_assoc] <;> (try simp (disch := omega) only [wI, wU, wC]) <;> exact rfl); dsimp only [S.put, optG]) | (apply Wp.condT; (simp only [push_cast, seval, getF (hK st1), getF0 (hK st1), setF (hK st1), setF0 (hK st1), hwl st1, hK st1, hlenK, List.append_assoc] <;> (try simp (disch := omega) only [wI, wU, wC]) <;> exact rfl)) | (apply Wp.condF; (simp only [push_cast, seval, getF (hK st1), getF0 (hK st1), setF (hK st1), setF0 (hK st1), hwl st1, hK st1, hlenK, List.append_assoc] <;> (try simp (disch := omega) only [wI, wU, wC]) <;> exact rfl)))
      have htk : ∀ T : Mem, (K st1 ++ T).take N = K st1 := fun T => by rw [List.take_append_of_le_length (by rw [hK]; exact Nat.le_refl _), List.take_of_length_le (by rw [hK]; exact Nat.le_refl _)]
      apply Wp.ret
      (try dsimp only [sQ, tQ, bQ])
      apply leaveK; exact rfl; (simp only [push_cast, seval, getF (hK st1), getF0 (hK st1), setF (hK st1), setF0 (hK st1), hwl st1, hK st1, hlenK, List.append_assoc] <;> (try simp (disch := omega) only [wI, wU, wC]) <;> exact rfl); (focus (first | (simp only [push_cast, seval, getF (hK st1), getF0 (hK st1), setF (hK st1), setF0 (hK st1), hwl st1, hK st1, hlenK, List.append_assoc]; done) | trivial | (simp only [push_cast, seval, getF (hK st1), getF0 (hK st1), setF (hK st1), setF0 (hK st1), hwl st1, hK st1, hlenK, List.append_assoc]; trivial) | (simp; done))); (focus (first | (simp only [push_cast, seval, getF (hK st1), getF0 (hK st1), setF (hK st1), setF0 (hK st1), hwl st1, hK st1, hlenK, List.append_assoc]; done) | trivial | (simp only [push_cast, seval, getF (hK st1), getF0 (hK st1), setF (hK st1), setF0 (hK st1), hwl st1, hK st1, hlenK, List.append_assoc]; trivial) | (simp; done)))
      · simp only [htk]; exact hKok st1
      · simp only [htk]; rw [← hk3]
    | true =>
      rw [if_pos rfl] at hk3
      simp only at hk3 hGs
      have hg1 := hGs trivial
      dsimp only [S.put, optG]
      repeat (first | apply Wp.seq | apply Wp.block | (apply Run.next; (simp only [push_cast, seval, getF (hK st1), getF0 (hK st1), setF (hK st1), setF0 (hK st1), hwl st1, hK st1, hlenK, List.append_assoc] <;> (try simp (disch := omega) only [wI, wU, wC]) <;> exact rfl); (focus ((try simp only [push_cast, seval, getF (hK st1), getF0 (hK st1), setF (hK st1), setF0 (hK st1), hwl st1, hK st1, hlenK, List.append_assoc]) <;> exact sT))) | ((first | apply Run.nil | apply Wp.skip); dsimp only [sQ, tQ, bQ]) | (apply Wp.run; (dsimp only [List.map] <;> exact rfl); exact rfl) | (apply Wp.exit; dsimp only [sQ, tQ, bQ]; simp only [reduceIte]) | (apply Run.gtrue; (simp only [push_cast, seval, getF (hK st1), getF0 (hK st1), setF (hK st1), setF0 (hK st1), hwl st1, hK st1, hlenK, List.append_assoc] <;> (try simp (disch := omega) only [wI, wU, wC]) <;> exact rfl); (simp only [push_cast, seval, getF (hK st1), getF0 (hK st1), setF (hK st1), setF0 (hK st1), hwl st1, hK st1, hlenK, List.append_assoc] <;> (try simp (disch := omega) only [wI, wU, wC]) <;> exact rfl)) | (apply Run.gfalse (.bool false); (simp only [push_cast, seval, getF (hK st1), getF0 (hK st1), setF (hK st1), setF0 (hK st1), hwl st1, hK st1, hlenK, List.append_assoc] <;> (try simp (disch := omega) only [wI, wU, wC]) <;> exact rfl); dsimp only [S.put, optG]) | (apply Wp.condT; (simp only [push_cast, seval, getF (hK st1), getF0 (hK st1), setF (hK st1), setF0 (hK st1), hwl st1, hK st1, hlenK, List.append_assoc] <;> (try simp (disch := omega) only [wI, wU, wC]) <;> exact rfl)) | (apply Wp.condF; (simp only [push_cast, seval, getF (hK st1), getF0 (hK st1), setF (hK st1), setF0 (hK st1), hwl st1, hK st1, hlenK, List.append_assoc] <;> (try simp (disch := omega) only [wI, wU, wC]) <;> exact rfl)))
      refine Wp.loop (fun (q : Nat × Nat × Nat) => { t := [(0, .yld yid 0), (1, .optr wl 0 0 0), (3, .osl N 0 0 w), (4, .int ((q.1 : Int) - 1))], m := K st1 ++ [⟨0, .row 1 ((odoL s q.1 q.2.1 q.2.2).map AV.int)⟩], n := 40 }) (fun q => q.1 + q.2.2 = w ∧ q.2.1 < s ^ q.1 ∧ k + 1 = (q.2.1 + 1) * s ^ q.2.2) (fun q => q.1) (w, k, 0) ?_ ?_ ?_
      · simp only [odoL, List.replicate_zero, List.append_nil]
        (refine Le.of ?_ ?_ rfl rfl <;> (try simp only [push_cast, seval, getF (hK st1), getF0 (hK st1), setF (hK st1), setF0 (hK st1), hwl st1, hK st1, hlenK, List.append_assoc]) <;> (try (with_reducible rfl)))
        all_goals rfl
      · exact ⟨by simp, hk1, by simp⟩
      · rintro ⟨p, qq, j⟩ ⟨h1, h2, h3⟩
        simp only at h1 h2 h3
        have hlo := odoL_len s p qq j
        cases p with
        | zero =>
          have e1 : decide ((0 : Int) ≤ ((0 : Nat) : Int) - 1) = false := rfl
          have e1' : decide ((0 : Int) ≤ (0 : Int) - 1) = false := rfl
          have e1'' : decide ((0 : Int) ≤ -1) = false := rfl
          dsimp only
          repeat (first | apply Wp.seq | apply Wp.block)
          (apply Wp.runD 12 mixed; (dsimp only [List.map] <;> exact rfl); exact rfl; kernel_rfl; (dsimp only [List.take] <;> exact rfl); (dsimp only [List.drop] <;> exact rfl); (((repeat (apply Abn.next; (simp only [push_cast, seval, getF (hK st1), getF0 (hK st1), setF (hK st1), setF0 (hK st1), hwl st1, hK st1, hlenK, List.append_assoc, e1, e1', e1''] <;> (try simp (disch := omega) only [wI, wU, wC]) <;> exact rfl); (focus ((try simp only [push_cast, seval, getF (hK st1), getF0 (hK st1), setF (hK st1), setF0 (hK st1), hwl st1, hK st1, hlenK, List.append_assoc, e1, e1', e1'']) <;> exact sT)))); (repeat (apply Abn.gfalse (.bool false); (intro c e; cases e); (simp only [push_cast, seval, getF (hK st1), getF0 (hK st1), setF (hK st1), setF0 (hK st1), hwl st1, hK st1, hlenK, List.append_assoc, e1, e1', e1''] <;> (try simp (disch := omega) only [wI, wU, wC]) <;> exact rfl); dsimp only [putA])); (repeat (apply Abn.next; (simp only [push_cast, seval, getF (hK st1), getF0 (hK st1), setF (hK st1), setF0 (hK st1), hwl st1, hK st1, hlenK, List.append_assoc, e1, e1', e1''] <;> (try simp (disch := omega) only [wI, wU, wC]) <;> exact rfl); (focus ((try simp only [push_cast, seval, getF (hK st1), getF0 (hK st1), setF (hK st1), setF0 (hK st1), hwl st1, hK st1, hlenK, List.append_assoc, e1, e1', e1'']) <;> exact sT))))); exact Abn.nil))
          repeat (first | apply Wp.seq | apply Wp.block | (apply Run.next; (simp only [push_cast, seval, getF (hK st1), getF0 (hK st1), setF (hK st1), setF0 (hK st1), hwl st1, hK st1, hlenK, List.append_assoc, e1, e1', e1''] <;> (try simp (disch := omega) only [wI, wU, wC]) <;> exact rfl); (focus ((try simp only [push_cast, seval, getF (hK st1), getF0 (hK st1), setF (hK st1), setF0 (hK st1), hwl st1, hK st1, hlenK, List.append_assoc, e1, e1', e1'']) <;> exact sT))) | ((first | apply Run.nil | apply Wp.skip); dsimp only [sQ, tQ, bQ]) | (apply Wp.run; (dsimp only [List.map] <;> exact rfl); exact rfl) | (apply Wp.exit; dsimp only [sQ, tQ, bQ]; simp only [reduceIte]) | (apply Run.gtrue; (simp only [push_cast, seval, getF (hK st1), getF0 (hK st1), setF (hK st1), setF0 (hK st1), hwl st1, hK st1, hlenK, List.append_assoc, e1, e1', e1''] <;> (try simp (disch := omega) only [wI, wU, wC]) <;> exact rfl); (simp only [push_cast, seval, getF (hK st1), getF0 (hK st1), setF (hK st1), setF0 (hK st1), hwl st1, hK st1, hlenK, List.append_assoc, e1, e1', e1''] <;> (try simp (disch := omega) only [wI, wU, wC]) <;> exact rfl)) | (apply Run.gfalse (.bool false); (simp only [push_cast, seval, getF (hK st1), getF0 (hK st1), setF (hK st1), setF0 (hK st1), hwl st1, hK st1, hlenK, List.append_assoc, e1, e1', e1''] <;> (try simp (disch := omega) only [wI, wU, wC]) <;> exact rfl); dsimp only [S.put, optG]) | (apply Wp.condT; (simp only [push_cast, seval, getF (hK st1), getF0 (hK st1), setF (hK st1), setF0 (hK st1), hwl st1, hK st1, hlenK, List.append_assoc, e1, e1', e1''] <;> (try simp (disch := omega) only [wI, wU, wC]) <;> exact rfl)) | (apply Wp.condF; (simp only [push_cast, seval, getF (hK st1), getF0 (hK st1), setF (hK st1), setF0 (hK st1), hwl st1, hK st1, hlenK, List.append_assoc, e1, e1', e1''] <;> (try simp (disch := omega) only [wI, wU, wC]) <;> exact rfl)))
          have htk : ∀ T : Mem, (K st1 ++ T).take N = K st1 := fun T => by rw [List.take_append_of_le_length (by rw [hK]; exact Nat.le_refl _), List.take_of_length_le (by rw [hK]; exact Nat.le_refl _)]
          have hq0 : qq = 0 := by simp at h2; omega
          subst hq0
          have hj : j = w := by omega
          subst hj
          rw [restN_end (by omega)] at hk3
          apply Wp.ret
          (try dsimp only [sQ, tQ, bQ])
          apply leaveK; exact rfl; (simp only [push_cast, seval, getF (hK st1), getF0 (hK st1), setF (hK st1), setF0 (hK st1), hwl st1, hK st1, hlenK, List.append_assoc, e1, e1', e1''] <;> (try simp (disch := omega) only [wI, wU, wC]) <;> exact rfl); (focus (first | (simp only [push_cast, seval, getF (hK st1), getF0 (hK st1), setF (hK st1), setF0 (hK st1), hwl st1, hK st1, hlenK, List.append_assoc, e1, e1', e1'']; done) | trivial | (simp only [push_cast, seval, getF (hK st1), getF0 (hK st1), setF (hK st1), setF0 (hK st1), hwl st1, hK st1, hlenK, List.append_assoc, e1, e1', e1'']; trivial) | (simp; done))); (focus (first | (simp only [push_cast, seval, getF (hK st1), getF0 (hK st1), setF (hK st1), setF0 (hK st1), hwl st1, hK st1, hlenK, List.append_assoc, e1, e1', e1'']; done) | trivial | (simp only [push_cast, seval, getF (hK st1), getF0 (hK st1), setF (hK st1), setF0 (hK st1), hwl st1, hK st1, hlenK, List.append_assoc, e1, e1', e1'']; trivial) | (simp; done)))
          · simp only [htk]; exact hKok st1
          · simp only [htk]; rw [← hk3]; rfl
        | succ p =>
          have e1 : decide ((0 : Int) ≤ (p : Int)) = true := decide_eq_true (by omega)
          have hget := odoL_get s p qq j
          by_cases hq : qq % s = s - 1
          · have e2 : decide (dC s qq = (s : Int) - 1) = true := decide_eq_true (by unfold dC; omega)
            have hset := odoL_zero s p qq j
            dsimp only
            repeat (first | apply Wp.seq | apply Wp.block)
            (apply Wp.runD 12 mixed; (dsimp only [List.map] <;> exact rfl); exact rfl; kernel_rfl; (dsimp only [List.take] <;> exact rfl); (dsimp only [List.drop] <;> exact rfl); (((repeat (apply Abn.next; (simp only [push_cast, seval, getF (hK st1), getF0 (hK st1), setF (hK st1), setF0 (hK st1), hwl st1, hK st1, hlenK, List.append_assoc, e1, e2, hget, hset, hlo, Int.add_sub_cancel] <;> (try simp (disch := omega) only [wI, wU, wC]) <;> exact rfl); (focus ((try simp only [push_cast, seval, getF (hK st1), getF0 (hK st1), setF (hK st1), setF0 (hK st1), hwl st1, hK st1, hlenK, List.append_assoc, e1, e2, hget, hset, hlo, Int.add_sub_cancel]) <;> exact sT)))); (repeat (apply Abn.gtrue; (simp only [push_cast, seval, getF (hK st1), getF0 (hK st1), setF (hK st1), setF0 (hK st1), hwl st1, hK st1, hlenK, List.append_assoc, e1, e2, hget, hset, hlo, Int.add_sub_cancel] <;> (try simp (disch := omega) only [wI, wU, wC]) <;> exact rfl); (simp only [push_cast, seval, getF (hK st1), getF0 (hK st1), setF (hK st1), setF0 (hK st1), hwl st1, hK st1, hlenK, List.append_assoc, e1, e2, hget, hset, hlo, Int.add_sub_cancel] <;> (try simp (disch := omega) only [wI, wU, wC]) <;> exact rfl); (simp only [push_cast, seval, getF (hK st1), getF0 (hK st1), setF (hK st1), setF0 (hK st1), hwl st1, hK st1, hlenK, List.append_assoc, e1, e2, hget, hset, hlo, Int.add_sub_cancel] <;> (try simp (disch := omega) only [wI, wU, wC]) <;> exact rfl); (focus ((try simp only [push_cast, seval, getF (hK st1), getF0 (hK st1), setF (hK st1), setF0 (hK st1), hwl st1, hK st1, hlenK, List.append_assoc, e1, e2, hget, hset, hlo, Int.add_sub_cancel]) <;> exact sT)); dsimp only [putA])); (repeat (apply Abn.next; (simp only [push_cast, seval, getF (hK st1), getF0 (hK st1), setF (hK st1), setF0 (hK st1), hwl st1, hK st1, hlenK, List.append_assoc, e1, e2, hget, hset, hlo, Int.add_sub_cancel] <;> (try simp (disch := omega) only [wI, wU, wC]) <;> exact rfl); (focus ((try simp only [push_cast, seval, getF (hK st1), getF0 (hK st1), setF (hK st1), setF0 (hK st1), hwl st1, hK st1, hlenK, List.append_assoc, e1, e2, hget, hset, hlo, Int.add_sub_cancel]) <;> exact sT))))); exact Abn.nil))
            repeat (first | apply Wp.seq | apply Wp.block | (apply Run.next; (simp only [push_cast, seval, getF (hK st1), getF0 (hK st1), setF (hK st1), setF0 (hK st1), hwl st1, hK st1, hlenK, List.append_assoc, e1, e2, hget, hset, hlo, Int.add_sub_cancel] <;> (try simp (disch := omega) only [wI, wU, wC]) <;> exact rfl); (focus ((try simp only [push_cast, seval, getF (hK st1), getF0 (hK st1), setF (hK st1), setF0 (hK st1), hwl st1, hK st1, hlenK, List.append_assoc, e1, e2, hget, hset, hlo, Int.add_sub_cancel]) <;> exact sT))) | ((first | apply Run.nil | apply Wp.skip); dsimp only [sQ, tQ, bQ]) | (apply Wp.run; (dsimp only [List.map] <;> exact rfl); exact rfl) | (apply Wp.exit; dsimp only [sQ, tQ, bQ]; simp only [reduceIte]) | (apply Run.gtrue; (simp only [push_cast, seval, getF (hK st1), getF0 (hK st1), setF (hK st1), setF0 (hK st1), hwl st1, hK st1, hlenK, List.append_assoc, e1, e2, hget, hset, hlo, Int.add_sub_cancel] <;> (try simp (disch := omega) only [wI, wU, wC]) <;> exact rfl); (simp only [push_cast, seval, getF (hK st1), getF0 (hK st1), setF (hK st1), setF0 (hK st1), hwl st1, hK st1, hlenK, List.append_assoc, e1, e2, hget, hset, hlo, Int.add_sub_cancel] <;> (try simp (disch := omega) only [wI, wU, wC]) <;> exact rfl)) | (apply Run.gfalse (.bool false); (simp only [push_cast, seval, getF (hK st1), getF0 (hK st1), setF (hK st1), setF0 (hK st1), hwl st1, hK st1, hlenK, List.append_assoc, e1, e2, hget, hset, hlo, Int.add_sub_cancel] <;> (try simp (disch := omega) only [wI, wU, wC]) <;> exact rfl); dsimp only [S.put, optG]) | (apply Wp.condT; (simp only [push_cast, seval, getF (hK st1), getF0 (hK st1), setF (hK st1), setF0 (hK st1), hwl st1, hK st1, hlenK, List.append_assoc, e1, e2, hget, hset, hlo, Int.add_sub_cancel] <;> (try simp (disch := omega) only [wI, wU, wC]) <;> exact rfl)) | (apply Wp.condF; (simp only [push_cast, seval, getF (hK st1), getF0 (hK st1), setF (hK st1), setF0 (hK st1), hwl st1, hK st1, hlenK, List.append_assoc, e1, e2, hget, hset, hlo, Int.add_sub_cancel] <;> (try simp (disch := omega) only [wI, wU, wC]) <;> exact rfl)))
            refine ⟨(p, qq / s, j + 1), ?_, ⟨by dsimp only; omega, ?_, odo_step hs0 h3 hq⟩, by dsimp only; omega⟩
            · dsimp only
              (refine Le.of ?_ ?_ rfl rfl <;> (try simp only [push_cast, seval, getF (hK st1), getF0 (hK st1), setF (hK st1), setF0 (hK st1), hwl st1, hK st1, hlenK, List.append_assoc, e1, e2, hget, hset, hlo, Int.add_sub_cancel]) <;> (try (with_reducible rfl)))
              all_goals rfl
            · dsimp only
              rw [Nat.pow_succ, Nat.mul_comm] at h2
              exact Nat.div_lt_of_lt_mul h2
          · have e2 : decide (dC s qq = (s : Int) - 1) = false := decide_eq_false (by unfold dC; omega)
            have hlt := Nat.mod_lt qq hs0
            have hset := odoL_inc hs0 p qq j (by omega)
            rw [← h3, h1] at hset
            have hdb := dC_bd hs0 qq
            have hwr : IntKind.i64.wrap (dC s qq + 1) = dC s qq + 1 := wI (by omega) (by omega)
            have e3 : decide ((p : Int) < 0) = false := decide_eq_false (by omega)
            dsimp only
            repeat (first | apply Wp.seq | apply Wp.block)
            (apply Wp.runD 12 mixed; (dsimp only [List.map] <;> exact rfl); exact rfl; kernel_rfl; (dsimp only [List.take] <;> exact rfl); (dsimp only [List.drop] <;> exact rfl); (((repeat (apply Abn.next; (simp only [push_cast, seval, getF (hK st1), getF0 (hK st1), setF (hK st1), setF0 (hK st1), hwl st1, hK st1, hlenK, List.append_assoc, e1, e2, e3, hwr, hget, hset, hlo, Int.add_sub_cancel] <;> (try simp (disch := omega) only [wI, wU, wC]) <;> exact rfl); (focus ((try simp only [push_cast, seval, getF (hK st1), getF0 (hK st1), setF (hK st1), setF0 (hK st1), hwl st1, hK st1, hlenK, List.append_assoc, e1, e2, e3, hwr, hget, hset, hlo, Int.add_sub_cancel]) <;> exact sT)))); (repeat (apply Abn.gtrue; (simp only [push_cast, seval, getF (hK st1), getF0 (hK st1), setF (hK st1), setF0 (hK st1), hwl st1, hK st1, hlenK, List.append_assoc, e1, e2, e3, hwr, hget, hset, hlo, Int.add_sub_cancel] <;> (try simp (disch := omega) only [wI, wU, wC]) <;> exact rfl); (simp only [push_cast, seval, getF (hK st1), getF0 (hK st1), setF (hK st1), setF0 (hK st1), hwl st1, hK st1, hlenK, List.append_assoc, e1, e2, e3, hwr, hget, hset, hlo, Int.add_sub_cancel] <;> (try simp (disch := omega) only [wI, wU, wC]) <;> exact rfl); (simp only [push_cast, seval, getF (hK st1), getF0 (hK st1), setF (hK st1), setF0 (hK st1), hwl st1, hK st1, hlenK, List.append_assoc, e1, e2, e3, hwr, hget, hset, hlo, Int.add_sub_cancel] <;> (try simp (disch := omega) only [wI, wU, wC]) <;> exact rfl); (focus ((try simp only [push_cast, seval, getF (hK st1), getF0 (hK st1), setF (hK st1), setF0 (hK st1), hwl st1, hK st1, hlenK, List.append_assoc, e1, e2, e3, hwr, hget, hset, hlo, Int.add_sub_cancel]) <;> exact sT)); dsimp only [putA])); (repeat (apply Abn.next; (simp only [push_cast, seval, getF (hK st1), getF0 (hK st1), setF (hK st1), setF0 (hK st1), hwl st1, hK st1, hlenK, List.append_assoc, e1, e2, e3, hwr, hget, hset, hlo, Int.add_sub_cancel] <;> (try simp (disch := omega) only [wI, wU, wC]) <;> exact rfl); (focus ((try simp only [push_cast, seval, getF (hK st1), getF0 (hK st1), setF (hK st1), setF0 (hK st1), hwl st1, hK st1, hlenK, List.append_assoc, e1, e2, e3, hwr, hget, hset, hlo, Int.add_sub_cancel]) <;> exact sT))))); exact Abn.nil))
            repeat (first | apply Wp.seq | apply Wp.block | (apply Run.next; (simp only [push_cast, seval, getF (hK st1), getF0 (hK st1), setF (hK st1), setF0 (hK st1), hwl st1, hK st1, hlenK, List.append_assoc, e1, e2, e3, hwr, hget, hset, hlo, Int.add_sub_cancel] <;> (try simp (disch := omega) only [wI, wU, wC]) <;> exact rfl); (focus ((try simp only [push_cast, seval, getF (hK st1), getF0 (hK st1), setF (hK st1), setF0 (hK st1), hwl st1, hK st1, hlenK, List.append_assoc, e1, e2, e3, hwr, hget, hset, hlo, Int.add_sub_cancel]) <;> exact sT))) | ((first | apply Run.nil | apply Wp.skip); dsimp only [sQ, tQ, bQ]) | (apply Wp.run; (dsimp only [List.map] <;> exact rfl); exact rfl) | (apply Wp.exit; dsimp only [sQ, tQ, bQ]; simp only [reduceIte]) | (apply Run.gtrue; (simp only [push_cast, seval, getF (hK st1), getF0 (hK st1), setF (hK st1), setF0 (hK st1), hwl st1, hK st1, hlenK, List.append_assoc, e1, e2, e3, hwr, hget, hset, hlo, Int.add_sub_cancel] <;> (try simp (disch := omega) only [wI, wU, wC]) <;> exact rfl); (simp only [push_cast, seval, getF (hK st1), getF0 (hK st1), setF (hK st1), setF0 (hK st1), hwl st1, hK st1, hlenK, List.append_assoc, e1, e2, e3, hwr, hget, hset, hlo, Int.add_sub_cancel] <;> (try simp (disch := omega) only [wI, wU, wC]) <;> exact rfl)) | (apply Run.gfalse (.bool false); (simp only [push_cast, seval, getF (hK st1), getF0 (hK st1), setF (hK st1), setF0 (hK st1), hwl st1, hK st1, hlenK, List.append_assoc, e1, e2, e3, hwr, hget, hset, hlo, Int.add_sub_cancel] <;> (try simp (disch := omega) only [wI, wU, wC]) <;> exact rfl); dsimp only [S.put, optG]) | (apply Wp.condT; (simp only [push_cast, seval, getF (hK st1), getF0 (hK st1), setF (hK st1), setF0 (hK st1), hwl st1, hK st1, hlenK, List.append_assoc, e1, e2, e3, hwr, hget, hset, hlo, Int.add_sub_cancel] <;> (try simp (disch := omega) only [wI, wU, wC]) <;> exact rfl)) | (apply Wp.condF; (simp only [push_cast, seval, getF (hK st1), getF0 (hK st1), setF (hK st1), setF0 (hK st1), hwl st1, hK st1, hlenK, List.append_assoc, e1, e2, e3, hwr, hget, hset, hlo, Int.add_sub_cancel] <;> (try simp (disch := omega) only [wI, wU, wC]) <;> exact rfl)))
            refine ⟨(st1, k + 1), ?_, ⟨?_, hg1, hk3⟩, by dsimp only; omega⟩
            · dsimp only
              (refine Le.of ?_ ?_ rfl rfl <;> (try simp only [push_cast, seval, getF (hK st1), getF0 (hK st1), setF (hK st1), setF0 (hK st1), hwl st1, hK st1, hlenK, List.append_assoc, e1, e2, e3, hwr, hget, hset, hlo, Int.add_sub_cancel]) <;> (try (with_reducible rfl)))
              all_goals rfl
            · dsimp only
              rw [h3, ← h1]
              exact odo_lt hs0 h2 (by omega)
end
end Go.Proofs.Try
set_option maxHeartbeats 8000000
set_option maxRecDepth 20000
namespace Go.Proofs.Try
open Go.Vg

mutual
theorem AV.ok_up {k k' : Nat} (h : k ≤ k') : ∀ (x : AV), x.ok k → x.ok k'
  | .val _, _ => trivial
  | .any, _ => trivial
  | .lst _ l, g => okL_up h l g
  | .osl _ _ _ _, g => Nat.lt_of_lt_of_le g h
  | .emp, _ => trivial
  | .ref xs _, g => okL_up h xs g
  | .optr _ _ _ _, g => Nat.lt_of_lt_of_le g h
  | .agg xs, g => okL_up h xs g
  | .tup xs, g => okL_up h xs g
  | .clo _ xs, g => okL_up h xs g
  | .bnd _ xs, g => okL_up h xs g
  | .opt _ x, g => AV.ok_up h x g
  | .yld _ _, g => Nat.lt_of_lt_of_le g h
  | .omap _ _, g => Nat.lt_of_lt_of_le g h
theorem okL_up {k k' : Nat} (h : k ≤ k') : ∀ (l : List AV), okL k l → okL k' l
  | [], _ => trivial
  | x :: l, g => ⟨AV.ok_up h x g.1, okL_up h l g.2⟩
end
theorem kind_up {k k' : Nat} (h : k ≤ k') : ∀ (e : Kind), e.ok k → e.ok k'
  | .row _ l, g => okL_up h l g
  | .dfr, _ => trivial
  | .lrec t _ _ _ _ _ _, g => okL_up h _ g
  | .mp l, g => okL_up h _ g
theorem specAtC {P : Program} {f : FuncId} {args : List AV} {m m' : Mem} {Q : AV → Mem → Prop} (h : m' = m) (hs : Go.Vg.Spec P f args m' Q) : Go.Vg.Spec P f args m Q := h ▸ hs

theorem leaveMN {P : Program} {s : S} {rs : List ResultVar} {xs : List AV} {p : Prop} {k : Nat} {C : AV → Mem → Prop} (hd : ∀ q ∈ s.d, s.m[q.1]? = some ⟨q.2, .dfr⟩) (hn : (s.d.map (·.1)).Nodup) (h : resL P { s with m := kill s.m s.d, d := [] } rs = some (xs, p)) (hp : p) (hk : (packRes xs).ok k) (hm : ∀ e ∈ (kill s.m s.d).take k, e.kind.ok k) (hx : C (packRes xs) ((kill s.m s.d).take k)) : leaves P rs k C .normal s := leaveM hd hn h hp hk hm hx
/-! the iterator of the readings: a range over the codes inside of an iterator -/
theorem readings_spec (w s : Int) (L : List AV) (hL : ∀ k, okL k L = True) : Go.Vg.Spec Try.prog 21 [lkA w s, .lst 7 L] [] fun x m' => x = .clo 42 [.optr 0 0 0 0, .optr 1 0 0 0] ∧ m' = [⟨0, .row 2 [lkA w s]⟩, ⟨0, .row 1 [.lst 7 L]⟩] := by
  (refine Spec.of_body Try.func21 rfl (by rw [Try.ntmps21]; simp) 2 (by simp) ?_; rw [Try.results21, Try.ntmps21]; simp only [entry, zipArgs, Nat.reduceAdd])
  repeat (first | apply Wp.seq | apply Wp.block | (apply Run.next; (simp only [push_cast, seval, hL, AV.ok] <;> (try simp (disch := omega) only [wI, wU, wC]) <;> exact rfl); (focus ((try simp only [push_cast, seval, hL, AV.ok]) <;> exact sT))) | ((first | apply Run.nil | apply Wp.skip); dsimp only [sQ, tQ, bQ]) | (apply Wp.run; (dsimp only [List.map] <;> exact rfl); exact rfl) | (apply Wp.exit; dsimp only [sQ, tQ, bQ]; simp only [reduceIte]))
  (apply Wp.ret; (try dsimp only [sQ, tQ, bQ]); apply leaveK; exact rfl; (simp only [push_cast, seval, hL, AV.ok] <;> (try simp (disch := omega) only [wI, wU, wC]) <;> exact rfl); (focus (first | (simp only [push_cast, seval, hL, AV.ok]; done) | trivial | (simp only [push_cast, seval, hL, AV.ok]; trivial) | (simp; done))); (focus (first | (simp only [push_cast, seval, hL, AV.ok]; done) | trivial | (simp only [push_cast, seval, hL, AV.ok]; trivial) | (simp; done))); (focus (first | (simp only [push_cast, seval, hL, AV.ok]; done) | trivial | (simp only [push_cast, seval, hL, AV.ok]; trivial) | (simp; done))); (try simp only [push_cast, seval, hL, AV.ok]))
/-- the codes that fail nothing, in order -/
def rdgN (f : List Int → Int) (s w : Nat) : List (List Int) := (codesN s w).filter fun c => decide (f c < 0)
section
variable {σ : Type} (go : σ → List Int → σ × Bool) (f : List Int → Int)
def goR (st : σ × Bool) (c : List Int) : (σ × Bool) × Bool := if f c < 0 then (((go st.1 c).1, !(go st.1 c).2), (go st.1 c).2) else (st, true)
theorem fldR (l : List (List Int)) (st : σ) : (fldC (goR go f) (st, false) l).1.1 = (fldC go st (l.filter fun c => decide (f c < 0))).1 ∧ ((fldC (goR go f) (st, false) l).1.2 = !(fldC go st (l.filter fun c => decide (f c < 0))).2) := by
  induction l generalizing st with
  | nil => exact ⟨rfl, rfl⟩
  | cons c l ih =>
    by_cases h : f c < 0
    · rw [List.filter_cons, if_pos (decide_eq_true h)]
      unfold fldC
      have e : goR go f (st, false) c = (((go st c).1, !(go st c).2), (go st c).2) := by unfold goR; rw [if_pos h]
      rw [e]
      cases hb : (go st c).2 with
      | true => simp only [if_true, Bool.not_true]; exact ih _
      | false => simp
    · rw [List.filter_cons, if_neg (by simpa using h)]
      have e : goR go f (st, false) c = ((st, false), true) := by unfold goR; rw [if_neg h]
      rw [fldC, e]
      simp only [if_true]
      exact ih _
end
theorem VwL.selfsC {m : Mem} : ∀ {xs : List AV}, okL 0 xs → VwL m xs xs
  | [], _ => .nil
  | x :: xs, h => .cons (.self h.1) (VwL.selfsC h.2)
theorem Vw.ointsC {m : Mem} {id ver : Nat} {l : List Int} (n : Nat) (hn : l.length = n) (hm : m[id]? = some ⟨ver, .row 1 (l.map AV.int)⟩) : Vw m (.osl id ver 0 n) (.ints l) := by
  subst hn
  refine .osl hm (by simp) (by omega) ?_
  have e : ((l.map AV.int).drop 0).take l.length = l.map AV.int := by simp [List.take_of_length_le]
  rw [e]
  exact VwL.selfsC (by simp only [push_cast])
section
variable {σ : Type} (K : σ → Mem) (go : σ → List Int → σ × Bool) (G : σ → Prop)
/-- memory in the rounds of the codes -/
def KR (yid w s : Nat) (t : List (Nat × AV)) (n : Nat) (ps : List Nat) (a b : Code) (st : σ × Bool) : Mem := K st.1 ++ [⟨0, .row 1 [.yld yid 0]⟩, ⟨0, .row 2 [lkA w s]⟩, ⟨0, .dfr⟩, ⟨0, .lrec t n ps a b (if st.2 = true then some .ret else none) false⟩]
theorem readI_spec {N yid wl wc w s : Nat} {L : List AV} {f : List Int → Int} (hL : ∀ k, okL k L = True) (hK : ∀ st, (K st).length = N) (hKok : ∀ st, ∀ e ∈ K st, e.kind.ok N) (hwl : ∀ st l, (K st ++ l)[wl]? = some ⟨0, .row 2 [lkA w s]⟩) (hwc : ∀ st l, (K st ++ l)[wc]? = some ⟨0, .row 1 [.lst 7 L]⟩) (hw1 : 1 ≤ w) (hw4 : w ≤ 4) (hs2 : 2 ≤ s) (hs10 : s ≤ 10)
    (hf : ∀ c ∈ codesN s w, Pure Try.prog 44 [.lst 7 L, .ints c] (.int (f c)))
    (hyN : yid < N)
    (hG : ∀ st c, G st → c ∈ codesN s w → (go st c).2 = true → G (go st c).1)
    (hY : ∀ st c T, G st → c ∈ codesN s w → T.length = 5 → T.getD 4 ⟨0, .dfr⟩ = ⟨0, .row 1 (c.map AV.int)⟩ → (∀ e ∈ T, e.kind.ok (N + 5)) → YSpec Try.prog (.yld yid 0) [.osl (N + 4) 0 0 w] (K st ++ T) fun x m' => x = .bool (go st c).2 ∧ m' = K (go st c).1 ++ T) (st0 : σ) (hst : G st0) :
    Go.Vg.Spec Try.prog 42 [.yld yid 0, .optr wl 0 0 0, .optr wc 0 0 0] (K st0) (fun _ m' => m' = K (fldC go st0 (rdgN f s w)).1) := by
  have hlenK : ∀ (st : σ) (l : Mem), (K st ++ l).length = N + l.length := fun st l => by rw [List.length_append, hK]
  have hwl0 : ∀ st, (K st)[wl]? = some ⟨0, .row 2 [lkA w s]⟩ := fun st => by have := hwl st []; rwa [List.append_nil] at this
  have htk0 : ∀ (x : σ) (T : Mem), (K x ++ T).take N = K x := fun x T => by rw [List.take_append_of_le_length (by rw [hK]; exact Nat.le_refl _), List.take_of_length_le (by rw [hK]; exact Nat.le_refl _)]
  have hwlN : wl < N := by
    have := (List.getElem?_eq_some_iff.1 (hwl0 st0)).1
    rwa [hK] at this
  have hwcN : wc < N := by
    have := (List.getElem?_eq_some_iff.1 (by have := hwc st0 []; rwa [List.append_nil] at this : (K st0)[wc]? = some ⟨0, .row 1 [.lst 7 L]⟩)).1
    rwa [hK] at this
  have hwc0 : ∀ st, (K st)[wc]? = some ⟨0, .row 1 [.lst 7 L]⟩ := fun st => by have := hwc st []; rwa [List.append_nil] at this
  (refine Spec.of_body Try.func42 rfl (by rw [Try.ntmps42]; simp) N (by rw [hK]; simp) ?_; rw [Try.results42, Try.ntmps42]; simp only [entry, zipArgs, Nat.reduceAdd])
  repeat (first | apply Wp.seq | apply Wp.block | (apply Run.next; (simp only [push_cast, seval, getF (hK st0), getF0 (hK st0), setF (hK st0), setF0 (hK st0), hwl0 st0, hwl st0, hwc0 st0, hwc st0, hK st0, hlenK, List.append_assoc, hL, AV.ok] <;> (try simp (disch := omega) only [wI, wU, wC]) <;> exact rfl); (focus ((try simp only [push_cast, seval, getF (hK st0), getF0 (hK st0), setF (hK st0), setF0 (hK st0), hwl0 st0, hwl st0, hwc0 st0, hwc st0, hK st0, hlenK, List.append_assoc, hL, AV.ok]) <;> exact sT))) | ((first | apply Run.nil | apply Wp.skip); dsimp only [sQ, tQ, bQ]) | (apply Wp.run; (dsimp only [List.map] <;> exact rfl); exact rfl) | (apply Wp.exit; dsimp only [sQ, tQ, bQ]; simp only [reduceIte]))
  (apply Run.freshE (he := (Enters.of Try.func43 rfl rfl)); (simp only [push_cast, seval, getF (hK st0), getF0 (hK st0), setF (hK st0), setF0 (hK st0), hwl0 st0, hwl st0, hwc0 st0, hwc st0, hK st0, hlenK, List.append_assoc, hL, AV.ok] <;> first | exact rfl | assumption); (simp only [push_cast, seval, getF (hK st0), getF0 (hK st0), setF (hK st0), setF0 (hK st0), hwl0 st0, hwl st0, hwc0 st0, hwc st0, hK st0, hlenK, List.append_assoc, hL, AV.ok] <;> (try simp (disch := omega) only [wI, wU, wC]) <;> exact rfl); (exact codes_spec _ _); (focus (first | (simp only [push_cast, seval, getF (hK st0), getF0 (hK st0), setF (hK st0), setF0 (hK st0), hwl0 st0, hwl st0, hwc0 st0, hwc st0, hK st0, hlenK, List.append_assoc, hL, AV.ok]; done) | trivial | (simp only [push_cast, seval, getF (hK st0), getF0 (hK st0), setF (hK st0), setF0 (hK st0), hwl0 st0, hwl st0, hwc0 st0, hwc st0, hK st0, hlenK, List.append_assoc, hL, AV.ok]; trivial) | (simp; done))); (simp only [push_cast, seval, getF (hK st0), getF0 (hK st0), setF (hK st0), setF0 (hK st0), hwl0 st0, hwl st0, hwc0 st0, hwc st0, hK st0, hlenK, List.append_assoc, hL, AV.ok] <;> (try simp (disch := omega) only [wI, wU, wC]) <;> exact rfl); (simp only [push_cast, seval, getF (hK st0), getF0 (hK st0), setF (hK st0), setF0 (hK st0), hwl0 st0, hwl st0, hwc0 st0, hwc st0, hK st0, hlenK, List.append_assoc, hL, AV.ok] <;> (try simp (disch := omega) only [wI, wU, wC]) <;> exact rfl); dsimp only [S.put, optG])
  repeat (first | apply Wp.seq | apply Wp.block | (apply Run.next; (simp only [push_cast, seval, getF (hK st0), getF0 (hK st0), setF (hK st0), setF0 (hK st0), hwl0 st0, hwl st0, hwc0 st0, hwc st0, hK st0, hlenK, List.append_assoc, hL, AV.ok] <;> (try simp (disch := omega) only [wI, wU, wC]) <;> exact rfl); (focus ((try simp only [push_cast, seval, getF (hK st0), getF0 (hK st0), setF (hK st0), setF0 (hK st0), hwl0 st0, hwl st0, hwc0 st0, hwc st0, hK st0, hlenK, List.append_assoc, hL, AV.ok]) <;> exact sT))) | ((first | apply Run.nil | apply Wp.skip); dsimp only [sQ, tQ, bQ]) | (apply Wp.run; (dsimp only [List.map] <;> exact rfl); exact rfl) | (apply Wp.exit; dsimp only [sQ, tQ, bQ]; simp only [reduceIte]))
  obtain ⟨hfr1, hfr2⟩ := fldR go f (codesN s w) st0
  refine Wp.range (by (simp only [push_cast, seval, getF (hK st0), getF0 (hK st0), setF (hK st0), setF0 (hK st0), hwl0 st0, hwl st0, hwc0 st0, hwc st0, hK st0, hlenK, List.append_assoc, hL, AV.ok] <;> (try simp (disch := omega) only [wI, wU, wC]) <;> exact rfl)) (Enters.of Try.func64 rfl rfl) (N := N + 2) (by simp [hlenK]) (C := fun i M => i = (if (fldC (goR go f) (st0, false) (codesN s w)).1.2 = true then some .ret else none) ∧ M = K (fldC (goR go f) (st0, false) (codesN s w)).1.1 ++ [⟨0, .row 1 [.yld yid 0]⟩, ⟨0, .row 2 [lkA w s]⟩]) ?_ ?_
  · refine Go.Vg.Spec.mono (specAtC ?h0 (codesI_spec (KR K yid w s ?t ?n ?ps ?a ?b) (goR go f) (fun st => st.2 = false ∧ G st.1) (N := N + 4) (yid := N + 3) (wl := N + 1) (w := w) (s := s) ?_ ?_ ?_ hw1 hw4 hs2 hs10 ?_ ?_ (st0, false) ⟨rfl, hst⟩)) ?_
    case h0 =>
      unfold KR
      simp only [List.append_assoc, List.cons_append, List.nil_append]
      rfl
    · intro st
      simp [KR, hlenK]
    · intro st e he
      unfold KR at he
      rcases List.mem_append.1 he with he | he
      · exact kind_up (by omega) _ (hKok _ e he)
      · simp only [List.mem_cons, List.not_mem_nil, or_false] at he
        rcases he with rfl | rfl | rfl | rfl <;> simp [Kind.ok, AV.ok, okL] <;> omega
    · intro st l
      unfold KR
      rw [List.append_assoc, getF (hK _)]
      rfl
    · rintro ⟨st, b⟩ c ⟨hb, hg⟩ hc h2
      simp only at hb hg
      subst hb
      unfold goR at h2 ⊢
      by_cases h : f c < 0
      · rw [if_pos h] at h2 ⊢
        simp only at h2 ⊢
        exact ⟨by rw [h2]; rfl, hG _ _ hg hc h2⟩
      · rw [if_neg h]
        exact ⟨rfl, hg⟩
    · rintro ⟨st, b⟩ c ⟨hb, hg⟩ hc
      simp only at hb hg
      subst hb
      have hfc := hf c hc
      have hYs := hY st c
      obtain ⟨hcl, _⟩ := codes_bd (by omega) hc
      unfold KR
      simp only [Bool.false_eq_true, if_false, List.append_assoc, List.cons_append, List.nil_append]
      refine YSpec.of_body (id := N + 3) (ver := 0) (ps := [7]) (by rw [getF (hK st)]; rfl) rfl (by simp) ?_
      intro Lv
      dsimp only [bindP, List.cons_append, List.nil_append]
      repeat (first | apply Wp.seq | apply Wp.block | (apply Run.next; (simp only [push_cast, seval, getF (hK st), getF0 (hK st), setF (hK st), setF0 (hK st), hwl0 st, hwl st, hwc0 st, hwc st, hK st, hlenK, List.append_assoc, hL, AV.ok] <;> (try simp (disch := omega) only [wI, wU, wC]) <;> exact rfl); (focus ((try simp only [push_cast, seval, getF (hK st), getF0 (hK st), setF (hK st), setF0 (hK st), hwl0 st, hwl st, hwc0 st, hwc st, hK st, hlenK, List.append_assoc, hL, AV.ok]) <;> exact sT))) | ((first | apply Run.nil | apply Wp.skip); dsimp only [sQ, tQ, bQ]) | (apply Wp.run; (dsimp only [List.map] <;> exact rfl); exact rfl) | (apply Wp.exit; dsimp only [sQ, tQ, bQ]; simp only [reduceIte]))
      refine ⟨rfl, rfl, ?_⟩
      rw [setF (hK st)]
      dsimp only [List.set]
      repeat (first | apply Wp.seq | apply Wp.block | (apply Run.next; (simp only [push_cast, seval, getF (hK st), getF0 (hK st), setF (hK st), setF0 (hK st), hwl0 st, hwl st, hwc0 st, hwc st, hK st, hlenK, List.append_assoc, hL, AV.ok] <;> (try simp (disch := omega) only [wI, wU, wC]) <;> exact rfl); (focus ((try simp only [push_cast, seval, getF (hK st), getF0 (hK st), setF (hK st), setF0 (hK st), hwl0 st, hwl st, hwc0 st, hwc st, hK st, hlenK, List.append_assoc, hL, AV.ok]) <;> exact sT))) | ((first | apply Run.nil | apply Wp.skip); dsimp only [sQ, tQ, bQ]) | (apply Wp.run; (dsimp only [List.map] <;> exact rfl); exact rfl) | (apply Wp.exit; dsimp only [sQ, tQ, bQ]; simp only [reduceIte]))
      have htk : ∀ (x : σ) (T : Mem), (K x ++ T).take N = K x := fun x T => by rw [List.take_append_of_le_length (by rw [hK]; exact Nat.le_refl _), List.take_of_length_le (by rw [hK]; exact Nat.le_refl _)]
      (apply Run.pureW; (simp only [push_cast, seval, getF (hK st), getF0 (hK st), setF (hK st), setF0 (hK st), hwl0 st, hwl st, hwc0 st, hwc st, hK st, hlenK, List.append_assoc, hL, AV.ok] <;> (try simp (disch := omega) only [wI, wU, wC]) <;> exact rfl); (exact (Enters.of Try.func44 rfl rfl)); (exact hfc); (exact VwL.cons (Vw.self (show (AV.lst 7 L).ok 0 from of_eq_true (hL 0))) (VwL.cons (Vw.ointsC w hcl (by rw [getF (hK st)]; rfl)) VwL.nil)); (simp only [push_cast, seval, getF (hK st), getF0 (hK st), setF (hK st), setF0 (hK st), hwl0 st, hwl st, hwc0 st, hwc st, hK st, hlenK, List.append_assoc, hL, AV.ok] <;> first | trivial | assumption | (refine ⟨?_, ?_⟩ <;> assumption) | (simp; done)); (try dsimp only [putA, optG]))
      by_cases hn : f c < 0
      · have e1 : decide (f c < 0) = true := decide_eq_true hn
        have ego : goR go f (st, false) c = (((go st c).1, !(go st c).2), (go st c).2) := by unfold goR; rw [if_pos hn]
        rw [ego]
        have hYs2 := fun T h1 h2 h3 => hYs T hg hc h1 h2 h3
        generalize go st c = R at hYs2
        repeat (first | apply Wp.seq | apply Wp.block | (apply Run.next; (simp only [push_cast, seval, getF (hK st), getF0 (hK st), setF (hK st), setF0 (hK st), hwl0 st, hwl st, hwc0 st, hwc st, hK st, hlenK, List.append_assoc, hL, AV.ok, e1] <;> (try simp (disch := omega) only [wI, wU, wC]) <;> exact rfl); (focus ((try simp only [push_cast, seval, getF (hK st), getF0 (hK st), setF (hK st), setF0 (hK st), hwl0 st, hwl st, hwc0 st, hwc st, hK st, hlenK, List.append_assoc, hL, AV.ok, e1]) <;> exact sT))) | ((first | apply Run.nil | apply Wp.skip); dsimp only [sQ, tQ, bQ]) | (apply Wp.run; (dsimp only [List.map] <;> exact rfl); exact rfl) | (apply Wp.exit; dsimp only [sQ, tQ, bQ]; simp only [reduceIte]) | (apply Run.gtrue; (simp only [push_cast, seval, getF (hK st), getF0 (hK st), setF (hK st), setF0 (hK st), hwl0 st, hwl st, hwc0 st, hwc st, hK st, hlenK, List.append_assoc, hL, AV.ok, e1] <;> (try simp (disch := omega) only [wI, wU, wC]) <;> exact rfl); (simp only [push_cast, seval, getF (hK st), getF0 (hK st), setF (hK st), setF0 (hK st), hwl0 st, hwl st, hwc0 st, hwc st, hK st, hlenK, List.append_assoc, hL, AV.ok, e1] <;> (try simp (disch := omega) only [wI, wU, wC]) <;> exact rfl)) | (apply Run.gfalse (.bool false); (simp only [push_cast, seval, getF (hK st), getF0 (hK st), setF (hK st), setF0 (hK st), hwl0 st, hwl st, hwc0 st, hwc st, hK st, hlenK, List.append_assoc, hL, AV.ok, e1] <;> (try simp (disch := omega) only [wI, wU, wC]) <;> exact rfl); dsimp only [S.put, optG]) | (apply Wp.condT; (simp only [push_cast, seval, getF (hK st), getF0 (hK st), setF (hK st), setF0 (hK st), hwl0 st, hwl st, hwc0 st, hwc st, hK st, hlenK, List.append_assoc, hL, AV.ok, e1] <;> (try simp (disch := omega) only [wI, wU, wC]) <;> exact rfl)) | (apply Wp.condF; (simp only [push_cast, seval, getF (hK st), getF0 (hK st), setF (hK st), setF0 (hK st), hwl0 st, hwl st, hwc0 st, hwc st, hK st, hlenK, List.append_assoc, hL, AV.ok, e1] <;> (try simp (disch := omega) only [wI, wU, wC]) <;> exact rfl)))
        have hY5 := fun a1 a2 a3 a4 h => hYs2 [a1, a2, a3, a4, ⟨0, .row 1 (c.map AV.int)⟩] rfl rfl h
        apply Run.ycall (hc := hY5 _ _ _ _ ?hok)
        focus exact rfl
        case hok =>
          intro e he
          simp only [List.mem_cons, List.not_mem_nil, or_false] at he
          rcases he with rfl | rfl | rfl | rfl | rfl <;> simp [Kind.ok, AV.ok, okL, okL_int, hlenK] <;> omega
        focus (simp only [push_cast, seval, getF (hK st), getF0 (hK st), setF (hK st), setF0 (hK st), hwl0 st, hwl st, hwc0 st, hwc st, hK st, hlenK, List.append_assoc, hL, AV.ok, e1] <;> (try simp (disch := omega) only [wI, wU, wC]) <;> exact rfl)
        focus (simp only [push_cast, seval, getF (hK st), getF0 (hK st), setF (hK st), setF0 (hK st), hwl0 st, hwl st, hwc0 st, hwc st, hK st, hlenK, List.append_assoc, hL, AV.ok, e1] <;> (try simp (disch := omega) only [wI, wU, wC]) <;> exact rfl)
        rintro x m' ⟨rfl, rfl⟩
        obtain ⟨st1, b⟩ := R
        cases b with
        | false =>
          dsimp only [S.put, optG]
          repeat (first | apply Wp.seq | apply Wp.block | (apply Run.next; (simp only [push_cast, seval, getF (hK st1), getF0 (hK st1), setF (hK st1), setF0 (hK st1), hwl0 st1, hwl st1, hwc0 st1, hwc st1, hK st1, hlenK, List.append_assoc, hL, AV.ok] <;> (try simp (disch := omega) only [wI, wU, wC]) <;> exact rfl); (focus ((try simp only [push_cast, seval, getF (hK st1), getF0 (hK st1), setF (hK st1), setF0 (hK st1), hwl0 st1, hwl st1, hwc0 st1, hwc st1, hK st1, hlenK, List.append_assoc, hL, AV.ok]) <;> exact sT))) | ((first | apply Run.nil | apply Wp.skip); dsimp only [sQ, tQ, bQ]) | (apply Wp.run; (dsimp only [List.map] <;> exact rfl); exact rfl) | (apply Wp.exit; dsimp only [sQ, tQ, bQ]; simp only [reduceIte]) | (apply Run.gtrue; (simp only [push_cast, seval, getF (hK st1), getF0 (hK st1), setF (hK st1), setF0 (hK st1), hwl0 st1, hwl st1, hwc0 st1, hwc st1, hK st1, hlenK, List.append_assoc, hL, AV.ok] <;> (try simp (disch := omega) only [wI, wU, wC]) <;> exact rfl); (simp only [push_cast, seval, getF (hK st1), getF0 (hK st1), setF (hK st1), setF0 (hK st1), hwl0 st1, hwl st1, hwc0 st1, hwc st1, hK st1, hlenK, List.append_assoc, hL, AV.ok] <;> (try simp (disch := omega) only [wI, wU, wC]) <;> exact rfl)) | (apply Run.gfalse (.bool false); (simp only [push_cast, seval, getF (hK st1), getF0 (hK st1), setF (hK st1), setF0 (hK st1), hwl0 st1, hwl st1, hwc0 st1, hwc st1, hK st1, hlenK, List.append_assoc, hL, AV.ok] <;> (try simp (disch := omega) only [wI, wU, wC]) <;> exact rfl); dsimp only [S.put, optG]) | (apply Wp.condT; (simp only [push_cast, seval, getF (hK st1), getF0 (hK st1), setF (hK st1), setF0 (hK st1), hwl0 st1, hwl st1, hwc0 st1, hwc st1, hK st1, hlenK, List.append_assoc, hL, AV.ok] <;> (try simp (disch := omega) only [wI, wU, wC]) <;> exact rfl)) | (apply Wp.condF; (simp only [push_cast, seval, getF (hK st1), getF0 (hK st1), setF (hK st1), setF0 (hK st1), hwl0 st1, hwl st1, hwc0 st1, hwc st1, hK st1, hlenK, List.append_assoc, hL, AV.ok] <;> (try simp (disch := omega) only [wI, wU, wC]) <;> exact rfl)))
          apply Wp.ret
          dsimp only [bQ, roundQ]
          refine ⟨by rw [getF (hK _)]; rfl, ?_, ?_⟩
          · intro e he
            have he := List.mem_of_mem_take he
            rcases List.mem_append.1 he with he | he
            · exact kind_up (by simp [hlenK]) _ (hKok _ e he)
            · simp only [List.mem_cons, List.not_mem_nil, or_false] at he
              rcases he with rfl | rfl | rfl | rfl | rfl <;> simp [Kind.ok, AV.ok, okL, okL_int, hlenK] <;> omega
          · rw [setF (hK _), List.take_of_length_le (by simp [hlenK])]
            exact ⟨rfl, rfl⟩
        | true =>
          dsimp only [S.put, optG]
          repeat (first | apply Wp.seq | apply Wp.block | (apply Run.next; (simp only [push_cast, seval, getF (hK st1), getF0 (hK st1), setF (hK st1), setF0 (hK st1), hwl0 st1, hwl st1, hwc0 st1, hwc st1, hK st1, hlenK, List.append_assoc, hL, AV.ok] <;> (try simp (disch := omega) only [wI, wU, wC]) <;> exact rfl); (focus ((try simp only [push_cast, seval, getF (hK st1), getF0 (hK st1), setF (hK st1), setF0 (hK st1), hwl0 st1, hwl st1, hwc0 st1, hwc st1, hK st1, hlenK, List.append_assoc, hL, AV.ok]) <;> exact sT))) | ((first | apply Run.nil | apply Wp.skip); dsimp only [sQ, tQ, bQ]) | (apply Wp.run; (dsimp only [List.map] <;> exact rfl); exact rfl) | (apply Wp.exit; dsimp only [sQ, tQ, bQ]; simp only [reduceIte]) | (apply Run.gtrue; (simp only [push_cast, seval, getF (hK st1), getF0 (hK st1), setF (hK st1), setF0 (hK st1), hwl0 st1, hwl st1, hwc0 st1, hwc st1, hK st1, hlenK, List.append_assoc, hL, AV.ok] <;> (try simp (disch := omega) only [wI, wU, wC]) <;> exact rfl); (simp only [push_cast, seval, getF (hK st1), getF0 (hK st1), setF (hK st1), setF0 (hK st1), hwl0 st1, hwl st1, hwc0 st1, hwc st1, hK st1, hlenK, List.append_assoc, hL, AV.ok] <;> (try simp (disch := omega) only [wI, wU, wC]) <;> exact rfl)) | (apply Run.gfalse (.bool false); (simp only [push_cast, seval, getF (hK st1), getF0 (hK st1), setF (hK st1), setF0 (hK st1), hwl0 st1, hwl st1, hwc0 st1, hwc st1, hK st1, hlenK, List.append_assoc, hL, AV.ok] <;> (try simp (disch := omega) only [wI, wU, wC]) <;> exact rfl); dsimp only [S.put, optG]) | (apply Wp.condT; (simp only [push_cast, seval, getF (hK st1), getF0 (hK st1), setF (hK st1), setF0 (hK st1), hwl0 st1, hwl st1, hwc0 st1, hwc st1, hK st1, hlenK, List.append_assoc, hL, AV.ok] <;> (try simp (disch := omega) only [wI, wU, wC]) <;> exact rfl)) | (apply Wp.condF; (simp only [push_cast, seval, getF (hK st1), getF0 (hK st1), setF (hK st1), setF0 (hK st1), hwl0 st1, hwl st1, hwc0 st1, hwc st1, hK st1, hlenK, List.append_assoc, hL, AV.ok] <;> (try simp (disch := omega) only [wI, wU, wC]) <;> exact rfl)))
          dsimp only [roundQ]
          refine ⟨by rw [getF (hK _)]; rfl, ?_, ?_⟩
          · intro e he
            have he := List.mem_of_mem_take he
            rcases List.mem_append.1 he with he | he
            · exact kind_up (by simp [hlenK]) _ (hKok _ e he)
            · simp only [List.mem_cons, List.not_mem_nil, or_false] at he
              rcases he with rfl | rfl | rfl | rfl | rfl <;> simp [Kind.ok, AV.ok, okL, okL_int, hlenK] <;> omega
          · rw [setF (hK _), List.take_of_length_le (by simp [hlenK])]
            exact ⟨rfl, rfl⟩
      · have e1 : decide (f c < 0) = false := decide_eq_false hn
        have ego : goR go f (st, false) c = ((st, false), true) := by unfold goR; rw [if_neg hn]
        rw [ego]
        repeat (first | apply Wp.seq | apply Wp.block | (apply Run.next; (simp only [push_cast, seval, getF (hK st), getF0 (hK st), setF (hK st), setF0 (hK st), hwl0 st, hwl st, hwc0 st, hwc st, hK st, hlenK, List.append_assoc, hL, AV.ok, e1] <;> (try simp (disch := omega) only [wI, wU, wC]) <;> exact rfl); (focus ((try simp only [push_cast, seval, getF (hK st), getF0 (hK st), setF (hK st), setF0 (hK st), hwl0 st, hwl st, hwc0 st, hwc st, hK st, hlenK, List.append_assoc, hL, AV.ok, e1]) <;> exact sT))) | ((first | apply Run.nil | apply Wp.skip); dsimp only [sQ, tQ, bQ]) | (apply Wp.run; (dsimp only [List.map] <;> exact rfl); exact rfl) | (apply Wp.exit; dsimp only [sQ, tQ, bQ]; simp only [reduceIte]) | (apply Run.gtrue; (simp only [push_cast, seval, getF (hK st), getF0 (hK st), setF (hK st), setF0 (hK st), hwl0 st, hwl st, hwc0 st, hwc st, hK st, hlenK, List.append_assoc, hL, AV.ok, e1] <;> (try simp (disch := omega) only [wI, wU, wC]) <;> exact rfl); (simp only [push_cast, seval, getF (hK st), getF0 (hK st), setF (hK st), setF0 (hK st), hwl0 st, hwl st, hwc0 st, hwc st, hK st, hlenK, List.append_assoc, hL, AV.ok, e1] <;> (try simp (disch := omega) only [wI, wU, wC]) <;> exact rfl)) | (apply Run.gfalse (.bool false); (simp only [push_cast, seval, getF (hK st), getF0 (hK st), setF (hK st), setF0 (hK st), hwl0 st, hwl st, hwc0 st, hwc st, hK st, hlenK, List.append_assoc, hL, AV.ok, e1] <;> (try simp (disch := omega) only [wI, wU, wC]) <;> exact rfl); dsimp only [S.put, optG]) | (apply Wp.condT; (simp only [push_cast, seval, getF (hK st), getF0 (hK st), setF (hK st), setF0 (hK st), hwl0 st, hwl st, hwc0 st, hwc st, hK st, hlenK, List.append_assoc, hL, AV.ok, e1] <;> (try simp (disch := omega) only [wI, wU, wC]) <;> exact rfl)) | (apply Wp.condF; (simp only [push_cast, seval, getF (hK st), getF0 (hK st), setF (hK st), setF0 (hK st), hwl0 st, hwl st, hwc0 st, hwc st, hK st, hlenK, List.append_assoc, hL, AV.ok, e1] <;> (try simp (disch := omega) only [wI, wU, wC]) <;> exact rfl)))
        dsimp only [roundQ]
        refine ⟨by rw [getF (hK _)]; rfl, ?_, ?_⟩
        · intro e he
          have he := List.mem_of_mem_take he
          rcases List.mem_append.1 he with he | he
          · exact kind_up (by simp [hlenK]) _ (hKok _ e he)
          · simp only [List.mem_cons, List.not_mem_nil, or_false] at he
            rcases he with rfl | rfl | rfl | rfl | rfl <;> simp [Kind.ok, AV.ok, okL, okL_int, hlenK] <;> omega
        · rw [setF (hK _), List.take_of_length_le (by simp [hlenK])]
          exact ⟨rfl, rfl⟩
    · rintro x m' rfl
      refine ⟨_, _, ⟨rfl, rfl⟩, by simp [hlenK], ?_⟩
      unfold KR
      simp only [List.append_assoc, List.cons_append, List.nil_append]
  · rintro M j ⟨rfl, rfl⟩
    rw [hfr1, hfr2]
    cases (fldC go st0 (List.filter (fun c => decide (f c < 0)) (codesN s w))).2 with
    | true =>
      rw [Bool.not_true, if_neg (by simp)]
      dsimp only [bQ]
      refine leaveMN (by intro q hq; simp only [List.mem_cons, List.not_mem_nil, or_false] at hq; subst hq; simp only [List.append_assoc]; rw [getF (hK _)]; rfl) (by simp) rfl trivial trivial ?_ ?_
      all_goals
        simp only [kill, List.foldl_cons, List.foldl_nil, List.append_assoc, List.cons_append, List.nil_append, setF (hK _), List.set_cons_succ, List.set_cons_zero, htk0]
        first | exact hKok _ | rfl
    | false =>
      rw [Bool.not_false, if_pos rfl]
      dsimp only
      apply Wp.ret
      dsimp only [bQ]
      refine leaveM (by intro q hq; simp only [List.mem_cons, List.not_mem_nil, or_false] at hq; subst hq; simp only [List.append_assoc]; rw [getF (hK _)]; rfl) (by simp) rfl trivial trivial ?_ ?_
      all_goals
        simp only [kill, List.foldl_cons, List.foldl_nil, List.append_assoc, List.cons_append, List.nil_append, setF (hK _), List.set_cons_succ, List.set_cons_zero, htk0]
        first | exact hKok _ | rfl
end
end Go.Proofs.Try
set_option maxHeartbeats 8000000
set_option maxRecDepth 20000
namespace Go.Proofs.Try
open Go.Vg

/-! how many readings there are -/
def goCn (s : Int) (h : List Int) : Int × Bool := (IntKind.i64.wrap (s + 1), true)
theorem fldCn : ∀ (L : List (List Int)) (s : Int), 0 ≤ s → s + L.length ≤ 1000000 → fldC goCn s L = (s + L.length, true)
  | [], s, _, _ => by simp [fldC]
  | x :: L, s, h1, h2 => by
    have e : (x :: L).length = L.length + 1 := rfl
    rw [e] at h2 ⊢
    have hw : IntKind.i64.wrap (s + 1) = s + 1 := wI (by omega) (by omega)
    unfold fldC goCn
    rw [if_pos rfl]
    simp only [hw]
    rw [show (fun s h => (IntKind.i64.wrap (s + 1), true) : Int → List Int → Int × Bool) = goCn from rfl, fldCn L (s + 1) (by omega) (by omega)]
    simp only [Prod.mk.injEq, and_true]
    omega
theorem rdg_len (f : List Int → Int) {s w : Nat} (hs2 : 1 ≤ s) (hs : s ≤ 10) (hw : w ≤ 4) : (rdgN f s w).length ≤ 10000 := by
  unfold rdgN
  refine Nat.le_trans (List.length_filter_le _ _) ?_
  unfold codesN
  rw [List.length_map, List.length_range]
  calc s ^ w ≤ 10 ^ w := Nat.pow_le_pow_left hs _
    _ ≤ 10 ^ 4 := Nat.pow_le_pow_right (by omega) hw
def KcC (w s : Nat) (L : List AV) (R : Kind) (n : Int) : Mem := [⟨0, .row 2 [lkA w s]⟩, ⟨0, .row 1 [.int n]⟩, ⟨0, .row 2 [lkA w s]⟩, ⟨0, .row 1 [.lst 7 L]⟩, ⟨0, .dfr⟩, ⟨0, R⟩]
theorem ccount_pure {w s : Nat} {L : List AV} {f : List Int → Int} (hL : ∀ k, okL k L = True) (hsh : ∀ k, shiftL k L = L) (hw1 : 1 ≤ w) (hw4 : w ≤ 4) (hs2 : 2 ≤ s) (hs10 : s ≤ 10)
    (hf : ∀ c ∈ codesN s w, Pure Try.prog 44 [.lst 7 L, .ints c] (.int (f c))) : Pure Try.prog 19 [lkA w s, .lst 7 L] (.int (rdgN f s w).length) := by
  have hln := rdg_len f (s := s) (w := w) (by omega) hs10 hw4
  have hfc := fldCn (rdgN f s w) 0 (by omega) (by omega)
  (refine Spec.of_body Try.func19 rfl (by rw [Try.ntmps19]; simp) 0 (by simp) ?_; rw [Try.results19, Try.ntmps19]; simp only [entry, zipArgs, Nat.reduceAdd])
  repeat (first | apply Wp.seq | apply Wp.block | (apply Run.next; (simp only [push_cast, seval, hL, hsh, AV.ok] <;> (try simp (disch := omega) only [wI, wU, wC]) <;> exact rfl); (focus ((try simp only [push_cast, seval, hL, hsh, AV.ok]) <;> exact sT))) | ((first | apply Run.nil | apply Wp.skip); dsimp only [sQ, tQ, bQ]) | (apply Wp.run; (dsimp only [List.map] <;> exact rfl); exact rfl) | (apply Wp.exit; dsimp only [sQ, tQ, bQ]; simp only [reduceIte]))
  (apply Run.freshE (he := (Enters.of Try.func21 rfl rfl)); (simp only [push_cast, seval, hL, hsh, AV.ok] <;> first | exact rfl | assumption); (simp only [push_cast, seval, hL, hsh, AV.ok] <;> (try simp (disch := omega) only [wI, wU, wC]) <;> exact rfl); (exact readings_spec _ _ L hL); (focus (first | (simp only [push_cast, seval, hL, hsh, AV.ok]; done) | trivial | (simp only [push_cast, seval, hL, hsh, AV.ok]; trivial) | (simp; done))); (simp only [push_cast, seval, hL, hsh, AV.ok] <;> (try simp (disch := omega) only [wI, wU, wC]) <;> exact rfl); (simp only [push_cast, seval, hL, hsh, AV.ok] <;> (try simp (disch := omega) only [wI, wU, wC]) <;> exact rfl); dsimp only [S.put, optG])
  repeat (first | apply Wp.seq | apply Wp.block | (apply Run.next; (simp only [push_cast, seval, hL, hsh, AV.ok] <;> (try simp (disch := omega) only [wI, wU, wC]) <;> exact rfl); (focus ((try simp only [push_cast, seval, hL, hsh, AV.ok]) <;> exact sT))) | ((first | apply Run.nil | apply Wp.skip); dsimp only [sQ, tQ, bQ]) | (apply Wp.run; (dsimp only [List.map] <;> exact rfl); exact rfl) | (apply Wp.exit; dsimp only [sQ, tQ, bQ]; simp only [reduceIte]))
  try simp only [hsh]
  generalize hHG : rdgN f s w = HG at hln hfc
  refine Wp.range (by (simp only [push_cast, seval, hL, hsh, AV.ok] <;> (try simp (disch := omega) only [wI, wU, wC]) <;> exact rfl)) (Enters.of Try.func42 rfl rfl) (N := 4) rfl (C := fun j M => j = none ∧ M = [⟨0, .row 2 [lkA w s]⟩, ⟨0, .row 1 [.int HG.length]⟩, ⟨0, .row 2 [lkA w s]⟩, ⟨0, .row 1 [.lst 7 L]⟩]) ?_ ?_
  · refine Go.Vg.Spec.mono (readI_spec (KcC w s L _) goCn (fun _ => True) (N := 6) (yid := 5) (wl := 2) (wc := 3) hL (fun s => rfl) ?_ (fun s l => rfl) (fun s l => rfl) hw1 hw4 hs2 hs10 hf (by omega) (fun _ _ _ _ _ => trivial) ?_ 0 trivial) ?_
    · intro s e he
      unfold KcC at he
      simp only [List.mem_cons, List.not_mem_nil, or_false] at he
      rcases he with rfl | rfl | rfl | rfl | rfl | rfl <;> simp [Kind.ok, AV.ok, okL, hL]
    · intro s c T _ hcm hT h4 hTok
      match T, hT, h4, hTok with
      | [a1, a2, a3, a4, a5], _, h4, hTok =>
        have g1 := hTok a1 (by simp)
        have g2 := hTok a2 (by simp)
        have g3 := hTok a3 (by simp)
        have g4 := hTok a4 (by simp)
        have g5 := hTok a5 (by simp)
        refine YSpec.of_body (id := 5) (ver := 0) rfl rfl (by simp) ?_
        intro Lv
        unfold KcC goCn
        dsimp only [bindP, List.cons_append, List.nil_append]
        repeat (first | apply Wp.seq | apply Wp.block | (apply Run.next; (simp only [push_cast, seval, hL, hsh, AV.ok] <;> (try simp (disch := omega) only [wI, wU, wC]) <;> exact rfl); (focus ((try simp only [push_cast, seval, hL, hsh, AV.ok]) <;> exact sT))) | ((first | apply Run.nil | apply Wp.skip); dsimp only [sQ, tQ, bQ]) | (apply Wp.run; (dsimp only [List.map] <;> exact rfl); exact rfl) | (apply Wp.exit; dsimp only [sQ, tQ, bQ]; simp only [reduceIte]))
        refine ⟨rfl, rfl, ?_⟩
        dsimp only [List.set]
        repeat (first | apply Wp.seq | apply Wp.block | (apply Run.next; (simp only [push_cast, seval, hL, hsh, AV.ok] <;> (try simp (disch := omega) only [wI, wU, wC]) <;> exact rfl); (focus ((try simp only [push_cast, seval, hL, hsh, AV.ok]) <;> exact sT))) | ((first | apply Run.nil | apply Wp.skip); dsimp only [sQ, tQ, bQ]) | (apply Wp.run; (dsimp only [List.map] <;> exact rfl); exact rfl) | (apply Wp.exit; dsimp only [sQ, tQ, bQ]; simp only [reduceIte]))
        refine ⟨rfl, ?_, rfl, ?_⟩
        · intro e he
          have he := List.mem_of_mem_take he
          simp only [List.mem_cons, List.not_mem_nil, or_false] at he
          rcases he with rfl | rfl | rfl | rfl | rfl | rfl | rfl | rfl | rfl | rfl | rfl <;> first | assumption | simp [Kind.ok, AV.ok, okL, hL]
        · rfl
    · rintro x m' rfl
      rw [hHG, hfc, Int.zero_add]
      exact ⟨_, none, ⟨rfl, rfl⟩, rfl, rfl⟩
  · rintro M j ⟨rfl, rfl⟩
    dsimp only [bQ, sQ, List.cons_append, List.nil_append]
    repeat (first | apply Wp.seq | apply Wp.block | (apply Run.next; (simp only [push_cast, seval, hL, hsh, AV.ok] <;> (try simp (disch := omega) only [wI, wU, wC]) <;> exact rfl); (focus ((try simp only [push_cast, seval, hL, hsh, AV.ok]) <;> exact sT))) | ((first | apply Run.nil | apply Wp.skip); dsimp only [sQ, tQ, bQ]) | (apply Wp.run; (dsimp only [List.map] <;> exact rfl); exact rfl) | (apply Wp.exit; dsimp only [sQ, tQ, bQ]; simp only [reduceIte]))
    (apply Wp.ret; (try dsimp only [sQ, tQ, bQ]); apply leaveM; (focus (first | (simp only [push_cast, seval, hL, hsh, AV.ok]; done) | trivial | (simp only [push_cast, seval, hL, hsh, AV.ok]; trivial) | (simp; done))); (focus (first | (simp only [push_cast, seval, hL, hsh, AV.ok]; done) | trivial | (simp only [push_cast, seval, hL, hsh, AV.ok]; trivial) | (simp; done))); (simp only [push_cast, seval, hL, hsh, AV.ok] <;> (try simp (disch := omega) only [wI, wU, wC]) <;> exact rfl); (focus (first | (simp only [push_cast, seval, hL, hsh, AV.ok]; done) | trivial | (simp only [push_cast, seval, hL, hsh, AV.ok]; trivial) | (simp; done))); (focus (first | (simp only [push_cast, seval, hL, hsh, AV.ok]; done) | trivial | (simp only [push_cast, seval, hL, hsh, AV.ok]; trivial) | (simp; done))); (focus (first | (simp only [push_cast, seval, hL, hsh, AV.ok]; done) | trivial | (simp only [push_cast, seval, hL, hsh, AV.ok]; trivial) | (simp; done))); (try simp only [push_cast, seval, hL, hsh, AV.ok]))
theorem Count_pure {w s : Nat} {L : List AV} {f : List Int → Int} (hL : ∀ k, okL k L = True) (hsh : ∀ k, shiftL k L = L) (hw1 : 1 ≤ w) (hw4 : w ≤ 4) (hs2 : 2 ≤ s) (hs10 : s ≤ 10)
    (hck : Pure Try.prog 18 [lkA w s, .lst 7 L] (.int 0))
    (hf : ∀ c ∈ codesN s w, Pure Try.prog 44 [.lst 7 L, .ints c] (.int (f c))) : Pure Try.prog 8 [lkA w s, .lst 7 L] (.tup [.int (rdgN f s w).length, .int 0]) := by
  have hc := ccount_pure hL hsh hw1 hw4 hs2 hs10 hf
  (refine Spec.of_body Try.func8 rfl (by rw [Try.ntmps8]; simp) 0 (by simp) ?_; rw [Try.results8, Try.ntmps8]; simp only [entry, zipArgs, Nat.reduceAdd])
  repeat (first | apply Wp.seq | apply Wp.block | (apply Run.next; (simp only [push_cast, seval, hL, hsh, AV.ok] <;> (try simp (disch := omega) only [wI, wU, wC]) <;> exact rfl); (focus ((try simp only [push_cast, seval, hL, hsh, AV.ok]) <;> exact sT))) | ((first | apply Run.nil | apply Wp.skip); dsimp only [sQ, tQ, bQ]) | (apply Wp.run; (dsimp only [List.map] <;> exact rfl); exact rfl) | (apply Wp.exit; dsimp only [sQ, tQ, bQ]; simp only [reduceIte]))
  (apply Run.pureP; (simp only [push_cast, seval, hL, hsh, AV.ok] <;> (try simp (disch := omega) only [wI, wU, wC]) <;> exact rfl); (exact (Enters.of Try.func18 rfl rfl)); (exact hck); (focus (simp only [push_cast, seval, hL, hsh, AV.ok] <;> first | trivial | assumption | (refine ⟨?_, ?_⟩ <;> assumption) | (simp; done))); (try dsimp only [putA, optG]))
  repeat (first | apply Wp.seq | apply Wp.block | (apply Run.next; (simp only [push_cast, seval, hL, hsh, AV.ok] <;> (try simp (disch := omega) only [wI, wU, wC]) <;> exact rfl); (focus ((try simp only [push_cast, seval, hL, hsh, AV.ok]) <;> exact sT))) | ((first | apply Run.nil | apply Wp.skip); dsimp only [sQ, tQ, bQ]) | (apply Wp.run; (dsimp only [List.map] <;> exact rfl); exact rfl) | (apply Wp.exit; dsimp only [sQ, tQ, bQ]; simp only [reduceIte]) | (apply Run.gtrue; (simp only [push_cast, seval, hL, hsh, AV.ok] <;> (try simp (disch := omega) only [wI, wU, wC]) <;> exact rfl); (simp only [push_cast, seval, hL, hsh, AV.ok] <;> (try simp (disch := omega) only [wI, wU, wC]) <;> exact rfl)) | (apply Run.gfalse (.bool false); (simp only [push_cast, seval, hL, hsh, AV.ok] <;> (try simp (disch := omega) only [wI, wU, wC]) <;> exact rfl); dsimp only [S.put, optG]) | (apply Wp.condT; (simp only [push_cast, seval, hL, hsh, AV.ok] <;> (try simp (disch := omega) only [wI, wU, wC]) <;> exact rfl)) | (apply Wp.condF; (simp only [push_cast, seval, hL, hsh, AV.ok] <;> (try simp (disch := omega) only [wI, wU, wC]) <;> exact rfl)))
  (apply Run.pureP; (simp only [push_cast, seval, hL, hsh, AV.ok] <;> (try simp (disch := omega) only [wI, wU, wC]) <;> exact rfl); (exact (Enters.of Try.func19 rfl rfl)); (exact hc); (focus (simp only [push_cast, seval, hL, hsh, AV.ok] <;> first | trivial | assumption | (refine ⟨?_, ?_⟩ <;> assumption) | (simp; done))); (try dsimp only [putA, optG]))
  repeat (first | apply Wp.seq | apply Wp.block | (apply Run.next; (simp only [push_cast, seval, hL, hsh, AV.ok] <;> (try simp (disch := omega) only [wI, wU, wC]) <;> exact rfl); (focus ((try simp only [push_cast, seval, hL, hsh, AV.ok]) <;> exact sT))) | ((first | apply Run.nil | apply Wp.skip); dsimp only [sQ, tQ, bQ]) | (apply Wp.run; (dsimp only [List.map] <;> exact rfl); exact rfl) | (apply Wp.exit; dsimp only [sQ, tQ, bQ]; simp only [reduceIte]))
  (apply Wp.ret; (try dsimp only [sQ, tQ, bQ]); apply leave0; exact rfl; (simp only [push_cast, seval, hL, hsh, AV.ok] <;> (try simp (disch := omega) only [wI, wU, wC]) <;> exact rfl); all_goals (try simp only [push_cast, seval, hL, hsh, AV.ok]); (try rfl))
end Go.Proofs.Try
set_option maxHeartbeats 8000000
set_option maxRecDepth 20000
namespace Go.Proofs.Try
open Go.Vg

/-! the look at a lock -/
theorem namedC : Named Try.prog 100 := namedB_ok (by kernel_rfl)
abbrev cl4 : AV := .agg [.int 2, .int 0, .int 1, .int 4, .int 0, .emp, .bool false]
def fS (c : List Int) : Int := if c.getD 0 0 + c.getD 1 0 = 4 then -1 else 0
theorem cnt_check : Pure Try.prog 18 [lkA 2 4, .lst 7 [cl4]] (.int 0) := xFz_pure namedC mixed (by kernel_rfl)
theorem cnt_codes : codesN 4 2 = [[0, 0], [0, 1], [0, 2], [0, 3], [1, 0], [1, 1], [1, 2], [1, 3], [2, 0], [2, 1], [2, 2], [2, 3], [3, 0], [3, 1], [3, 2], [3, 3]] := by decide
theorem cnt_fails : ∀ c ∈ codesN 4 2, Pure Try.prog 44 [.lst 7 [cl4], .ints c] (.int (fS c)) := by
  intro c hc
  rw [cnt_codes] at hc
  simp only [List.mem_cons, List.not_mem_nil, or_false] at hc
  rcases hc with rfl | rfl | rfl | rfl | rfl | rfl | rfl | rfl | rfl | rfl | rfl | rfl | rfl | rfl | rfl | rfl <;> exact xFz_pure namedC mixed (by kernel_rfl)
theorem cnt_count : Pure Try.prog 8 [lkA 2 4, .lst 7 [cl4]] (.tup [.int 3, .int 0]) := by
  have h := Count_pure (w := 2) (s := 4) (L := [cl4]) (f := fS) (fun k => by simp [AV.ok, okL]) (fun k => rfl) (by omega) (by omega) (by omega) (by omega) cnt_check cnt_fails
  have e : rdgN fS 4 2 = [[1, 3], [2, 2], [3, 1]] := by decide
  rw [e] at h
  exact h
theorem counts_pure : Pure Try.prog 5 [] (.bool true) := by
  have h := cnt_count
  (refine Spec.of_body Try.func5 rfl (by rw [Try.ntmps5]; simp) 0 (by simp) ?_; rw [Try.results5, Try.ntmps5]; simp only [entry, zipArgs, Nat.reduceAdd])
  repeat (first | apply Wp.seq | apply Wp.block | (apply Run.next; (simp only [push_cast, seval] <;> (try simp (disch := omega) only [wI, wU, wC]) <;> exact rfl); (focus ((try simp only [push_cast, seval]) <;> exact sT))) | ((first | apply Run.nil | apply Wp.skip); dsimp only [sQ, tQ, bQ]) | (apply Wp.run; (dsimp only [List.map] <;> exact rfl); exact rfl) | (apply Wp.exit; dsimp only [sQ, tQ, bQ]; simp only [reduceIte]))
  (apply Run.pureP; (simp only [push_cast, seval] <;> (try simp (disch := omega) only [wI, wU, wC]) <;> exact rfl); (exact (Enters.of Try.func8 rfl rfl)); (exact h); (focus (simp only [push_cast, seval] <;> first | trivial | assumption | (refine ⟨?_, ?_⟩ <;> assumption) | (simp; done))); (try dsimp only [putA, optG]))
  repeat (first | apply Wp.seq | apply Wp.block | (apply Run.next; (simp only [push_cast, seval] <;> (try simp (disch := omega) only [wI, wU, wC]) <;> exact rfl); (focus ((try simp only [push_cast, seval]) <;> exact sT))) | ((first | apply Run.nil | apply Wp.skip); dsimp only [sQ, tQ, bQ]) | (apply Wp.run; (dsimp only [List.map] <;> exact rfl); exact rfl) | (apply Wp.exit; dsimp only [sQ, tQ, bQ]; simp only [reduceIte]) | (apply Run.gtrue; (simp only [push_cast, seval] <;> (try simp (disch := omega) only [wI, wU, wC]) <;> exact rfl); (simp only [push_cast, seval] <;> (try simp (disch := omega) only [wI, wU, wC]) <;> exact rfl)) | (apply Run.gfalse (.bool false); (simp only [push_cast, seval] <;> (try simp (disch := omega) only [wI, wU, wC]) <;> exact rfl); dsimp only [S.put, optG]) | (apply Wp.condT; (simp only [push_cast, seval] <;> (try simp (disch := omega) only [wI, wU, wC]) <;> exact rfl)) | (apply Wp.condF; (simp only [push_cast, seval] <;> (try simp (disch := omega) only [wI, wU, wC]) <;> exact rfl)))
  (apply Wp.ret; (try dsimp only [sQ, tQ, bQ]); apply leave0; exact rfl; (simp only [push_cast, seval] <;> (try simp (disch := omega) only [wI, wU, wC]) <;> exact rfl); all_goals (try simp only [push_cast, seval]); (try rfl))
end Go.Proofs.Try
set_option maxHeartbeats 8000000
namespace Go.Proofs.Try
open Go.Vg

structure Ch where
  least : Int
  most : Int
  len : Int
  reset : Int
structure Ma where
  tong : Int
  fr : Int
  to : Int
structure Bk where
  ch : Int
  st : Int
  size : Int
  tongue : Int
  bday : Bool
  rival : Int
def chA (x : Ch) : AV := .agg [.int x.least, .int x.most, .int x.len, .int x.reset]
def maA (x : Ma) : AV := .agg [.int x.tong, .int x.fr, .int x.to]
def bkA (x : Bk) : AV := .agg [.int x.ch, .int x.st, .int x.size, .int x.tongue, .bool x.bday, .int x.rival]
abbrev ch0 : Ch := ⟨0, 0, 0, 0⟩
abbrev ma0 : Ma := ⟨0, 0, 0⟩
abbrev bk0 : Bk := ⟨0, 0, 0, 0, false, 0⟩
abbrev houA (cs : List Ch) (ms : List Ma) (cake : Int) : AV := .agg [.lst 4 (cs.map chA), .lst 3 (ms.map maA), .int cake]
theorem getD_ch (l : List Ch) (i : Nat) : (l.map chA).getD i (.agg [.val (.int .i64 0), .val (.int .i64 0), .val (.int .i64 0), .val (.int .i64 0)]) = chA (l.getD i ch0) := getD_map' chA l i ch0
theorem getD_ma (l : List Ma) (i : Nat) : (l.map maA).getD i (.agg [.val (.int .i64 0), .val (.int .i64 0), .val (.int .i64 0)]) = maA (l.getD i ma0) := getD_map' maA l i ma0
theorem getD_bk (l : List Bk) (i : Nat) : (l.map bkA).getD i (.agg [.val (.int .i64 0), .val (.int .i64 0), .val (.int .i64 0), .val (.int .i64 0), .val (.bool false), .val (.int .i64 0)]) = bkA (l.getD i bk0) := getD_map' bkA l i bk0
theorem okL_mapK {α : Type} {f : α → AV} (k : Nat) (l : List α) (h : ∀ x, (f x).ok k) : okL k (l.map f) := okL_iff.2 fun x hx => by
  obtain ⟨y, _, rfl⟩ := List.mem_map.1 hx
  exact h y
theorem okL_ch (k : Nat) (l : List Ch) : okL k (l.map chA) = True := eq_true (okL_mapK k l fun x => by simp [chA, AV.ok, okL])
theorem okL_ma (k : Nat) (l : List Ma) : okL k (l.map maA) = True := eq_true (okL_mapK k l fun x => by simp [maA, AV.ok, okL])
theorem okL_bk (k : Nat) (l : List Bk) : okL k (l.map bkA) = True := eq_true (okL_mapK k l fun x => by simp [bkA, AV.ok, okL])
attribute [push_cast] chA maA bkA getD_ch getD_ma getD_bk okL_ch okL_ma okL_bk
def wiK (n lo hi : Int) : Bool := decide (lo ≤ n) && decide (n ≤ hi)
theorem wi_iffK {n lo hi : Int} : wiK n lo hi = true ↔ lo ≤ n ∧ n ≤ hi := by simp [wiK]
theorem within_pureK (n lo hi : Int) : Pure Try.prog 47 [.int n, .int lo, .int hi] (.bool (wiK n lo hi)) := by
  (refine Spec.of_body Try.func47 rfl (by rw [Try.ntmps47]; simp) 0 (by simp) ?_; rw [Try.results47, Try.ntmps47]; simp only [entry, zipArgs, Nat.reduceAdd])
  repeat (first | apply Wp.seq | apply Wp.block | (apply Run.next; (simp only [push_cast, seval] <;> (try simp (disch := omega) only [wI, wU, wC]) <;> exact rfl); (focus ((try simp only [push_cast, seval]) <;> exact sT))) | ((first | apply Run.nil | apply Wp.skip); dsimp only [sQ, tQ, bQ]) | (apply Wp.run; (dsimp only [List.map] <;> exact rfl); exact rfl) | (apply Wp.exit; dsimp only [sQ, tQ, bQ]; simp only [reduceIte]))
  (apply Wp.ret; (try dsimp only [sQ, tQ, bQ]); apply leave0; exact rfl; (simp only [push_cast, seval] <;> (try simp (disch := omega) only [wI, wU, wC]) <;> exact rfl); all_goals (try simp only [push_cast, seval]); (try rfl))
theorem memMa {l : List Ma} {k : Nat} (h : k < l.length) : l.getD k ma0 ∈ l := by simp [h]
theorem findMa {l : List Ma} {p : Ma → Bool} {k : Nat} (hk : k < l.length) (h1 : ∀ j, j < k → p (l.getD j ma0) = false) (h2 : p (l.getD k ma0) = true) : l.any p = true ∧ l.findIdx p = k := by
  have e : ∀ j (hj : j < l.length), l.getD j ma0 = l[j] := fun j hj => by simp [hj]
  refine ⟨List.any_eq_true.2 ⟨l[k], List.getElem_mem hk, by rw [← e k hk]; exact h2⟩, ?_⟩
  rw [List.findIdx_eq hk]
  refine ⟨by rw [← e k hk]; exact h2, fun j hj => ?_⟩
  have := h1 j hj
  rw [e j (by omega)] at this
  exact this
theorem anyNoneMa {l : List Ma} {p : Ma → Bool} (h : ∀ j, j < l.length → p (l.getD j ma0) = false) : l.any p = false := by
  rw [List.any_eq_false]
  intro x hx
  obtain ⟨i, hi, rfl⟩ := List.getElem_of_mem hx
  have := h i hi
  simp [hi] at this
  simp [this]
theorem indexFuncMa (l : List Ma) (g : FuncId) (caps : List AV) (p : Ma → Bool) (hg : Enters Try.prog g) (hk : okL 0 caps) (hcv : ∀ m, caps.map (view m) = caps ∧ caps.map (view2 m) = caps) (hp : ∀ x ∈ l, Pure Try.prog g (maA x :: caps) (.bool (p x))) (hl : l.length ≤ 9223372036854775807) :
    Pure Try.prog 77 [.lst 3 (l.map maA), .clo g caps] (.int (if l.any p then (l.findIdx p : Int) else -1)) := by
  (refine Spec.of_body Try.func77 rfl (by rw [Try.ntmps77]; simp) 0 (by simp) ?_; rw [Try.results77, Try.ntmps77]; simp only [entry, zipArgs, Nat.reduceAdd])
  repeat (first | apply Wp.seq | apply Wp.block | (apply Run.next; (simp only [push_cast, seval, hcv, List.map_append] <;> (try simp (disch := omega) only [wI, wU, wC]) <;> exact rfl); (focus ((try simp only [push_cast, seval, hcv, List.map_append]) <;> exact sT))) | ((first | apply Run.nil | apply Wp.skip); dsimp only [sQ, tQ, bQ]) | (apply Wp.run; (dsimp only [List.map] <;> exact rfl); exact rfl) | (apply Wp.exit; dsimp only [sQ, tQ, bQ]; simp only [reduceIte]))
  refine Wp.loop (fun k : Nat => { t := [(0, .lst 3 (l.map maA)), (1, .clo g caps), (7, .int l.length), (8, .int k)], m := [], n := 19 }) (fun k => k ≤ l.length ∧ ∀ j, j < k → p (l.getD j ma0) = false) (fun k => l.length - k) 0 ?_ ?_ ?_
  · (refine Le.of ?_ ?_ rfl rfl <;> (try simp only [push_cast, seval, hcv, List.map_append]) <;> (try (with_reducible rfl)))
  · simp
  · rintro k ⟨hk1, hk2⟩
    repeat (first | apply Wp.seq | apply Wp.block | (apply Run.next; (simp only [push_cast, seval, hcv, List.map_append] <;> (try simp (disch := omega) only [wI, wU, wC]) <;> exact rfl); (focus ((try simp only [push_cast, seval, hcv, List.map_append]) <;> exact sT))) | ((first | apply Run.nil | apply Wp.skip); dsimp only [sQ, tQ, bQ]) | (apply Wp.run; (dsimp only [List.map] <;> exact rfl); exact rfl) | (apply Wp.exit; dsimp only [sQ, tQ, bQ]; simp only [reduceIte]))
    (apply Wp.cond; (simp only [push_cast, seval, hcv, List.map_append] <;> (try simp (disch := omega) only [wI, wU, wC]) <;> exact rfl))
    · (intro hc; try simp only [decide_eq_true_eq, decide_eq_false_iff_not, Bool.and_eq_true, Bool.or_eq_true, Bool.not_eq_true, Bool.not_eq_false, Bool.not_eq_true', Bool.not_eq_false', Bool.and_eq_false_iff, Bool.or_eq_false_iff, Int.not_lt, Int.not_le, Int.ofNat_lt, Int.ofNat_le] at hc)
      have hpk := hp _ (memMa hc)
      generalize hx : l.getD k ma0 = x at hpk
      repeat (first | apply Wp.seq | apply Wp.block | (apply Run.next; (simp only [push_cast, seval, hcv, List.map_append, hx] <;> (try simp (disch := omega) only [wI, wU, wC]) <;> exact rfl); (focus ((try simp only [push_cast, seval, hcv, List.map_append, hx]) <;> exact sT))) | ((first | apply Run.nil | apply Wp.skip); dsimp only [sQ, tQ, bQ]) | (apply Wp.run; (dsimp only [List.map] <;> exact rfl); exact rfl) | (apply Wp.exit; dsimp only [sQ, tQ, bQ]; simp only [reduceIte]))
      (apply Run.pureP; (simp only [push_cast, seval, hcv, List.map_append, hx] <;> (try simp (disch := omega) only [wI, wU, wC]) <;> exact rfl); (exact hg); (exact hpk); (focus (simp only [push_cast, seval, hcv, List.map_append, hx] <;> first | trivial | assumption | (refine ⟨?_, ?_⟩ <;> assumption) | (simp; done))); (try dsimp only [putA, optG]))
      repeat (first | apply Wp.seq | apply Wp.block | (apply Run.next; (simp only [push_cast, seval, hcv, List.map_append, hx] <;> (try simp (disch := omega) only [wI, wU, wC]) <;> exact rfl); (focus ((try simp only [push_cast, seval, hcv, List.map_append, hx]) <;> exact sT))) | ((first | apply Run.nil | apply Wp.skip); dsimp only [sQ, tQ, bQ]) | (apply Wp.run; (dsimp only [List.map] <;> exact rfl); exact rfl) | (apply Wp.exit; dsimp only [sQ, tQ, bQ]; simp only [reduceIte]))
      (apply Wp.cond; (simp only [push_cast, seval, hcv, List.map_append, hx] <;> (try simp (disch := omega) only [wI, wU, wC]) <;> exact rfl))
      · intro h2
        rw [← hx] at h2
        obtain ⟨e1, e2⟩ := findMa hc hk2 h2
        repeat (first | apply Wp.seq | apply Wp.block | (apply Run.next; (simp only [push_cast, seval, hcv, List.map_append, hx] <;> (try simp (disch := omega) only [wI, wU, wC]) <;> exact rfl); (focus ((try simp only [push_cast, seval, hcv, List.map_append, hx]) <;> exact sT))) | ((first | apply Run.nil | apply Wp.skip); dsimp only [sQ, tQ, bQ]) | (apply Wp.run; (dsimp only [List.map] <;> exact rfl); exact rfl) | (apply Wp.exit; dsimp only [sQ, tQ, bQ]; simp only [reduceIte]))
        (apply Wp.ret; (try dsimp only [sQ, tQ, bQ]); apply leave0; exact rfl; (simp only [push_cast, seval, hcv, List.map_append, hx] <;> (try simp (disch := omega) only [wI, wU, wC]) <;> exact rfl); all_goals (try simp only [push_cast, seval, hcv, List.map_append, hx]); (try rfl))
        rw [e1, e2]; rfl
      · intro h2
        repeat (first | apply Wp.seq | apply Wp.block | (apply Run.next; (simp only [push_cast, seval, hcv, List.map_append, hx] <;> (try simp (disch := omega) only [wI, wU, wC]) <;> exact rfl); (focus ((try simp only [push_cast, seval, hcv, List.map_append, hx]) <;> exact sT))) | ((first | apply Run.nil | apply Wp.skip); dsimp only [sQ, tQ, bQ]) | (apply Wp.run; (dsimp only [List.map] <;> exact rfl); exact rfl) | (apply Wp.exit; dsimp only [sQ, tQ, bQ]; simp only [reduceIte]))
        refine ⟨k + 1, ?_, ⟨by omega, fun j hj => ?_⟩, by omega⟩
        · (refine Le.of ?_ ?_ rfl rfl <;> (try simp only [push_cast, seval, hcv, List.map_append, hx]) <;> (try (with_reducible rfl)))
        · by_cases hjk : j = k
          · subst hjk; rw [hx]; exact h2
          · exact hk2 j (by omega)
    · (intro hc; try simp only [decide_eq_true_eq, decide_eq_false_iff_not, Bool.and_eq_true, Bool.or_eq_true, Bool.not_eq_true, Bool.not_eq_false, Bool.not_eq_true', Bool.not_eq_false', Bool.and_eq_false_iff, Bool.or_eq_false_iff, Int.not_lt, Int.not_le, Int.ofNat_lt, Int.ofNat_le] at hc)
      repeat (first | apply Wp.seq | apply Wp.block | (apply Run.next; (simp only [push_cast, seval, hcv, List.map_append] <;> (try simp (disch := omega) only [wI, wU, wC]) <;> exact rfl); (focus ((try simp only [push_cast, seval, hcv, List.map_append]) <;> exact sT))) | ((first | apply Run.nil | apply Wp.skip); dsimp only [sQ, tQ, bQ]) | (apply Wp.run; (dsimp only [List.map] <;> exact rfl); exact rfl) | (apply Wp.exit; dsimp only [sQ, tQ, bQ]; simp only [reduceIte]))
      obtain rfl : k = l.length := by omega
      have e1 := anyNoneMa hk2
      (apply Wp.ret; (try dsimp only [sQ, tQ, bQ]); apply leave0; exact rfl; (simp only [push_cast, seval, hcv, List.map_append] <;> (try simp (disch := omega) only [wI, wU, wC]) <;> exact rfl); all_goals (try simp only [push_cast, seval, hcv, List.map_append]); (try rfl))
      rw [e1]; rfl
theorem containsFuncMa (l : List Ma) (g : FuncId) (caps : List AV) (p : Ma → Bool) (hg : Enters Try.prog g) (hk : okL 0 caps) (hcv : ∀ m, caps.map (view m) = caps ∧ caps.map (view2 m) = caps) (hp : ∀ x ∈ l, Pure Try.prog g (maA x :: caps) (.bool (p x))) (hl : l.length ≤ 9223372036854775807) :
    Pure Try.prog 67 [.lst 3 (l.map maA), .clo g caps] (.bool (l.any p)) := by
  (refine Spec.of_body Try.func67 rfl (by rw [Try.ntmps67]; simp) 0 (by simp) ?_; rw [Try.results67, Try.ntmps67]; simp only [entry, zipArgs, Nat.reduceAdd])
  repeat (first | apply Wp.seq | apply Wp.block | (apply Run.next; (simp only [push_cast, seval, hcv, List.map_append] <;> (try simp (disch := omega) only [wI, wU, wC]) <;> exact rfl); (focus ((try simp only [push_cast, seval, hcv, List.map_append]) <;> exact sT))) | ((first | apply Run.nil | apply Wp.skip); dsimp only [sQ, tQ, bQ]) | (apply Wp.run; (dsimp only [List.map] <;> exact rfl); exact rfl) | (apply Wp.exit; dsimp only [sQ, tQ, bQ]; simp only [reduceIte]))
  (apply Run.pureP; (simp only [push_cast, seval, hcv, List.map_append] <;> (try simp (disch := omega) only [wI, wU, wC]) <;> exact rfl); (exact (Enters.of Try.func77 rfl rfl)); (exact indexFuncMa l g caps p hg hk hcv hp hl); (focus (simp only [push_cast, seval, hcv, List.map_append] <;> first | trivial | assumption | (refine ⟨?_, ?_⟩ <;> assumption) | (simp; done))); (try dsimp only [putA, optG]))
  repeat (first | apply Wp.seq | apply Wp.block | (apply Run.next; (simp only [push_cast, seval, hcv, List.map_append] <;> (try simp (disch := omega) only [wI, wU, wC]) <;> exact rfl); (focus ((try simp only [push_cast, seval, hcv, List.map_append]) <;> exact sT))) | ((first | apply Run.nil | apply Wp.skip); dsimp only [sQ, tQ, bQ]) | (apply Wp.run; (dsimp only [List.map] <;> exact rfl); exact rfl) | (apply Wp.exit; dsimp only [sQ, tQ, bQ]; simp only [reduceIte]))
  (apply Wp.ret; (try dsimp only [sQ, tQ, bQ]); apply leave0; exact rfl; (simp only [push_cast, seval, hcv, List.map_append] <;> (try simp (disch := omega) only [wI, wU, wC]) <;> exact rfl); all_goals (try simp only [push_cast, seval, hcv, List.map_append]); (try rfl))
  split <;> simp_all

theorem memCh {l : List Ch} {k : Nat} (h : k < l.length) : l.getD k ch0 ∈ l := by simp [h]
theorem all_atK {α : Type} {d : α} {p : α → Bool} {l : List α} (h : ∀ j, j < l.length → p (l.getD j d) = true) : l.all p = true := by
  rw [List.all_eq_true]
  intro x hx
  obtain ⟨i, hi, rfl⟩ := List.getElem_of_mem hx
  simpa [hi] using h i hi
theorem all_noK {α : Type} {d : α} {p : α → Bool} {l : List α} {k : Nat} (hk : k < l.length) (h : p (l.getD k d) = false) : l.all p = false := by
  rw [← Bool.not_eq_true, List.all_eq_true]
  intro h2
  have := h2 (l.getD k d) (by simp [hk])
  rw [h] at this; cases this
theorem any_notK {α : Type} (p : α → Bool) (l : List α) : (l.any fun x => !p x) = !l.all p := by
  induction l with
  | nil => rfl
  | cons a l ih => simp [ih, Bool.not_and]
theorem range_allK {n : Nat} {p : Nat → Bool} (h : ∀ j, j < n → p j = true) : (List.range n).all p = true := by
  rw [List.all_eq_true]; intro x hx; exact h x (List.mem_range.1 hx)
theorem range_noK {n k : Nat} {p : Nat → Bool} (hk : k < n) (h : p k = false) : (List.range n).all p = false := by
  rw [← Bool.not_eq_true, List.all_eq_true]
  intro h2
  have := h2 k (List.mem_range.2 hk)
  rw [h] at this; cases this
end Go.Proofs.Try
