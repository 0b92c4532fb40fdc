/- A part of the proof of StoreWorn: contracts of functions, with plain laws that they need. -/
import Derived.Test.YtljchlkmalidnaaVgFz
import Derived.Test.YtljchlkmalidnaaVgAp
import Derived.Test.YtljchlkmalidnaaVgY11J
set_option linter.all false
set_option maxHeartbeats 8000000
namespace Go.Proofs.Try
open Go.Vg

def wearS (ls : List Ln) (plan : List Int) (kind : Int) (i : Nat) (w : List Int) : List Int :=
  if (decide ((ls.getD i ln0).kind = kind) && decide (0 ≤ plan.getD i 0)) = true then w.set (plan.getD i 0).toNat (w.getD (plan.getD i 0).toNat 0 + (ls.getD i ln0).uses) else w
def wearP (ls : List Ln) (plan : List Int) (kind : Int) (n : Nat) : Nat → List Int
  | 0 => List.replicate n 0
  | i + 1 => wearS ls plan kind i (wearP ls plan kind n i)
theorem wearP_len (ls : List Ln) (plan : List Int) (kind : Int) (n : Nat) : ∀ i, (wearP ls plan kind n i).length = n
  | 0 => by simp [wearP]
  | i + 1 => by simp only [wearP, wearS]; split <;> simp [wearP_len ls plan kind n i]
theorem wearP_bd {ks : List St} {ls : List Ln} (hv : SV ks ls) (plan : List Int) (kind : Int) (n : Nat) : ∀ i, i ≤ ls.length → ∀ j, 0 ≤ (wearP ls plan kind n i).getD j 0 ∧ (wearP ls plan kind n i).getD j 0 ≤ 100 * i
  | 0, _, j => by
    simp only [wearP, List.getD_eq_getElem?_getD, List.getElem?_replicate]
    split <;> simp
  | i + 1, hi, j => by
    have ih := wearP_bd hv plan kind n i (by omega)
    have hu := (hv.ln i (by omega)).2.2
    simp only [wearP, wearS]
    split
    · have h1 := ih j
      have h2 := ih (plan.getD i 0).toNat
      by_cases hj : j = (plan.getD i 0).toNat
      · subst hj
        by_cases hl : (plan.getD i 0).toNat < (wearP ls plan kind n i).length
        · rw [List.getD_eq_getElem?_getD, List.getElem?_set_self hl]
          simp only [Option.getD_some]
          omega
        · rw [List.set_eq_of_length_le (by omega)]; omega
      · rw [List.getD_eq_getElem?_getD, List.getElem?_set_ne (Ne.symm hj), ← List.getD_eq_getElem?_getD]; omega
    · have := ih j; omega
structure PV (ks : List St) (ls : List Ln) (plan : List Int) : Prop where
  sv : SV ks ls
  len : plan.length = ls.length
  pl : ∀ i, i < ls.length → -1 ≤ plan.getD i 0 ∧ plan.getD i 0 ≤ (ks.getD (ls.getD i ln0).kind.toNat st0).items - 1
theorem chk2E_pv {ks : List St} {ls : List Ln} {plan : List Int} (h : chk2E ks ls plan = 0) : PV ks ls plan := by
  obtain ⟨h1, h2, h3⟩ := chk2E_zero h
  exact ⟨h1, h2, fun i hi => wi_iff.1 (h3 i hi)⟩
theorem wear_pure {ks : List St} {ls : List Ln} {plan : List Int} (hv : PV ks ls plan) (kind : Int) (hk : 0 ≤ kind ∧ kind < ks.length) : Pure Try.prog 71 [storA ks ls, .ints plan, .int kind] (.ints (wearP ls plan kind (ks.getD kind.toNat st0).items.toNat ls.length)) := by
  have hs := hv.sv.st kind.toNat (by omega)
  have hl20 := hv.sv.l20
  have hlen := hv.len
  generalize hy : ks.getD kind.toNat st0 = y at hs
  (refine Spec.of_body Try.func71 rfl (by rw [Try.ntmps71]; simp) 0 (by simp) ?_; rw [Try.results71, Try.ntmps71]; simp only [entry, zipArgs, Nat.reduceAdd])
  repeat (first | apply Wp.seq | apply Wp.block | (apply Run.next; (simp only [push_cast, seval, hy, hlen] <;> (try simp (disch := omega) only [wI, wU, wC]) <;> exact rfl); (focus ((try simp only [push_cast, seval, hy, hlen]) <;> exact sT))) | ((first | apply Run.nil | apply Wp.skip); dsimp only [sQ, tQ, bQ]) | (apply Wp.run; (dsimp only [List.map] <;> exact rfl); exact rfl) | (apply Wp.exit; dsimp only [sQ, tQ, bQ]; simp only [reduceIte]))
  refine Wp.loop (fun (k : Nat) => { t := [(2, .int kind), (3, .optr 0 0 0 0), (7, .osl 1 0 0 y.items.toNat), (17, .ints plan), (18, .int ls.length), (19, .int k)], m := [⟨0, .row 2 [storA ks ls]⟩, ⟨0, .row 1 ((wearP ls plan kind y.items.toNat k).map AV.int)⟩], n := 50 }) (fun k => k ≤ ls.length) (fun k => ls.length - k) 0 ?_ ?_ ?_
  · (refine Le.of ?_ ?_ rfl rfl <;> (try simp only [push_cast, seval, hy, hlen]) <;> (try (with_reducible rfl)))
    rfl
  · simp
  · rintro k hk1
    have hwl := wearP_len ls plan kind y.items.toNat k
    have hwb := wearP_bd hv.sv plan kind y.items.toNat k hk1
    have hws : wearP ls plan kind y.items.toNat (k + 1) = wearS ls plan kind k (wearP ls plan kind y.items.toNat k) := rfl
    generalize hw : wearP ls plan kind y.items.toNat k = w at hwl hwb hws
    repeat (first | apply Wp.seq | apply Wp.block | (apply Run.next; (simp only [push_cast, seval, hy, hlen] <;> (try simp (disch := omega) only [wI, wU, wC]) <;> exact rfl); (focus ((try simp only [push_cast, seval, hy, hlen]) <;> exact sT))) | ((first | apply Run.nil | apply Wp.skip); dsimp only [sQ, tQ, bQ]) | (apply Wp.run; (dsimp only [List.map] <;> exact rfl); exact rfl) | (apply Wp.exit; dsimp only [sQ, tQ, bQ]; simp only [reduceIte]))
    (apply Wp.cond; (simp only [push_cast, seval, hy, hlen] <;> (try simp (disch := omega) only [wI, wU, wC]) <;> exact rfl))
    · (intro hc; try simp only [decide_eq_true_eq, decide_eq_false_iff_not, Bool.and_eq_true, Bool.or_eq_true, Bool.not_eq_true, Bool.not_eq_false, Bool.not_eq_true', Bool.not_eq_false', Bool.and_eq_false_iff, Bool.or_eq_false_iff, Int.not_lt, Int.not_le, Int.ofNat_lt, Int.ofNat_le] at hc)
      have hpk := hv.pl k (by omega)
      have hlk := hv.sv.ln k (by omega)
      unfold wearS at hws
      generalize hx : ls.getD k ln0 = x at hpk hlk hws
      generalize hn : plan.getD k 0 = n at hpk hws
      have hwn := hwb n.toNat
      generalize hz : w.getD n.toNat 0 = z at hwn hws
      repeat (first | apply Wp.seq | apply Wp.block | (apply Run.next; (simp only [push_cast, seval, hy, hx, hn, hz, hlen, hwl] <;> (try simp (disch := omega) only [wI, wU, wC]) <;> exact rfl); (focus ((try simp only [push_cast, seval, hy, hx, hn, hz, hlen, hwl]) <;> exact sT))) | ((first | apply Run.nil | apply Wp.skip); dsimp only [sQ, tQ, bQ]) | (apply Wp.run; (dsimp only [List.map] <;> exact rfl); exact rfl) | (apply Wp.exit; dsimp only [sQ, tQ, bQ]; simp only [reduceIte]))
      (apply Wp.cond; (simp only [push_cast, seval, hy, hx, hn, hz, hlen, hwl] <;> (try simp (disch := omega) only [wI, wU, wC]) <;> exact rfl))
      · intro h2
        rw [if_pos h2] at hws
        simp only [Bool.and_eq_true, decide_eq_true_eq] at h2
        have e1 : x.kind = kind := h2.1
        rw [e1, hy] at hpk
        repeat (first | apply Wp.seq | apply Wp.block | (apply Run.next; (simp only [push_cast, seval, hy, hx, hn, hz, hlen, hwl] <;> (try simp (disch := omega) only [wI, wU, wC]) <;> exact rfl); (focus ((try simp only [push_cast, seval, hy, hx, hn, hz, hlen, hwl]) <;> exact sT))) | ((first | apply Run.nil | apply Wp.skip); dsimp only [sQ, tQ, bQ]) | (apply Wp.run; (dsimp only [List.map] <;> exact rfl); exact rfl) | (apply Wp.exit; dsimp only [sQ, tQ, bQ]; simp only [reduceIte]))
        (apply Wp.runE 12 12 mixed; (dsimp only [List.map] <;> exact rfl); exact rfl; kernel_rfl; ((repeat (apply Abe.next; exact rfl; (simp only [push_cast, seval, hy, hx, hn, hz, hlen, hwl] <;> (try simp (disch := omega) only [wI, wU, wC]) <;> exact rfl); (focus ((try simp only [push_cast, seval, hy, hx, hn, hz, hlen, hwl]) <;> exact sT)))); (apply Abe.eff; exact rfl; (simp only [push_cast, seval, hy, hx, hn, hz, hlen, hwl] <;> (try simp (disch := omega) only [wI, wU, wC]) <;> exact rfl); (focus ((try simp only [push_cast, seval, hy, hx, hn, hz, hlen, hwl]) <;> exact sT)); (try dsimp only [putA])); (repeat (apply Abe.next; exact rfl; (simp only [push_cast, seval, hy, hx, hn, hz, hlen, hwl] <;> (try simp (disch := omega) only [wI, wU, wC]) <;> exact rfl); (focus ((try simp only [push_cast, seval, hy, hx, hn, hz, hlen, hwl]) <;> exact sT)))); exact Abe.nil))
        repeat (first | apply Wp.seq | apply Wp.block | (apply Run.next; (simp only [push_cast, seval, hy, hx, hn, hz, hlen, hwl] <;> (try simp (disch := omega) only [wI, wU, wC]) <;> exact rfl); (focus ((try simp only [push_cast, seval, hy, hx, hn, hz, hlen, hwl]) <;> exact sT))) | ((first | apply Run.nil | apply Wp.skip); dsimp only [sQ, tQ, bQ]) | (apply Wp.run; (dsimp only [List.map] <;> exact rfl); exact rfl) | (apply Wp.exit; dsimp only [sQ, tQ, bQ]; simp only [reduceIte]))
        refine ⟨k + 1, ?_, by omega, by omega⟩
        rw [hws]
        (refine Le.of ?_ ?_ rfl rfl <;> (try simp only [push_cast, seval, hy, hx, hn, hz, hlen, hwl]) <;> (try (with_reducible rfl)))
      · intro h2
        rw [if_neg (by rw [h2]; simp)] at hws
        repeat (first | apply Wp.seq | apply Wp.block | (apply Run.next; (simp only [push_cast, seval, hy, hx, hn, hz, hlen, hwl] <;> (try simp (disch := omega) only [wI, wU, wC]) <;> exact rfl); (focus ((try simp only [push_cast, seval, hy, hx, hn, hz, hlen, hwl]) <;> exact sT))) | ((first | apply Run.nil | apply Wp.skip); dsimp only [sQ, tQ, bQ]) | (apply Wp.run; (dsimp only [List.map] <;> exact rfl); exact rfl) | (apply Wp.exit; dsimp only [sQ, tQ, bQ]; simp only [reduceIte]))
        refine ⟨k + 1, ?_, by omega, by omega⟩
        rw [hws]
        (refine Le.of ?_ ?_ rfl rfl <;> (try simp only [push_cast, seval, hy, hx, hn, hz, hlen, hwl]) <;> (try (with_reducible rfl)))
    · (intro hc; try simp only [decide_eq_true_eq, decide_eq_false_iff_not, Bool.and_eq_true, Bool.or_eq_true, Bool.not_eq_true, Bool.not_eq_false, Bool.not_eq_true', Bool.not_eq_false', Bool.and_eq_false_iff, Bool.or_eq_false_iff, Int.not_lt, Int.not_le, Int.ofNat_lt, Int.ofNat_le] at hc)
      obtain rfl : k = ls.length := by omega
      repeat (first | apply Wp.seq | apply Wp.block | (apply Run.next; (simp only [push_cast, seval, hy, hlen, hwl] <;> (try simp (disch := omega) only [wI, wU, wC]) <;> exact rfl); (focus ((try simp only [push_cast, seval, hy, hlen, hwl]) <;> exact sT))) | ((first | apply Run.nil | apply Wp.skip); dsimp only [sQ, tQ, bQ]) | (apply Wp.run; (dsimp only [List.map] <;> exact rfl); exact rfl) | (apply Wp.exit; dsimp only [sQ, tQ, bQ]; simp only [reduceIte]))
      (apply Wp.freeze 6; (simp only [push_cast, seval, hy, hlen, hwl] <;> (try simp (disch := omega) only [wI, wU, wC]) <;> exact rfl); (simp only [push_cast, seval, hy, hlen, hwl] <;> (try simp (disch := omega) only [wI, wU, wC]) <;> exact rfl); (focus (try simp only [push_cast, seval, hy, hlen, hwl]); (try (exact sT))); (focus (exact sT)))
      (apply Wp.ret; (try dsimp only [sQ, tQ, bQ]); apply leave0; exact rfl; (simp only [push_cast, seval, hy, hlen, hwl] <;> (try simp (disch := omega) only [wI, wU, wC]) <;> exact rfl); all_goals (try simp only [push_cast, seval, hy, hlen, hwl]); (try rfl))
      rw [hw, List.take_of_length_le (by omega)]
def wearV (ks : List St) (ls : List Ln) (plan : List Int) (kind : Int) : AV × Int :=
  if chk2E ks ls plan = 0 then (if wi kind 0 ((ks.length : Int) - 1) then (.ints (wearP ls plan kind (ks.getD kind.toNat st0).items.toNat ls.length), 0) else (.emp, 1)) else (.emp, chk2E ks ls plan)
theorem pwear_pure (ks : List St) (ls : List Ln) (plan : List Int) (kind : Int) (hk : ks.length ≤ 9223372036854775807) (hl : ls.length ≤ 9223372036854775807) (hp : plan.length ≤ 9223372036854775807) : Pure Try.prog 35 [storA ks ls, .ints plan, .int kind] (.tup [(wearV ks ls plan kind).1, .int (wearV ks ls plan kind).2]) := by
  have hck := checked_pure ks ls plan hk hl hp
  by_cases h1 : chk2E ks ls plan = 0
  · rw [h1] at hck
    have hv := chk2E_pv h1
    have hkd := kinded_pure ks ls kind hv.sv.k8
    cases h2 : wi kind 0 ((ks.length : Int) - 1) with
    | false =>
      rw [h2] at hkd
      (refine Spec.of_body Try.func35 rfl (by rw [Try.ntmps35]; simp) 0 (by simp) ?_; rw [Try.results35, Try.ntmps35]; simp only [entry, zipArgs, Nat.reduceAdd])
      repeat (first | apply Wp.seq | apply Wp.block | (apply Run.next; (simp only [push_cast, seval] <;> (try simp (disch := omega) only [wI, wU, wC]) <;> exact rfl); (focus ((try simp only [push_cast, seval]) <;> exact sT))) | ((first | apply Run.nil | apply Wp.skip); dsimp only [sQ, tQ, bQ]) | (apply Wp.run; (dsimp only [List.map] <;> exact rfl); exact rfl) | (apply Wp.exit; dsimp only [sQ, tQ, bQ]; simp only [reduceIte]))
      (apply Run.pureP; (simp only [push_cast, seval] <;> (try simp (disch := omega) only [wI, wU, wC]) <;> exact rfl); (exact (Enters.of Try.func59 rfl rfl)); (exact hck); (focus (simp only [push_cast, seval] <;> first | trivial | assumption | (refine ⟨?_, ?_⟩ <;> assumption) | (simp; done))); (try dsimp only [putA, optG]))
      repeat (first | apply Wp.seq | apply Wp.block | (apply Run.next; (simp only [push_cast, seval] <;> (try simp (disch := omega) only [wI, wU, wC]) <;> exact rfl); (focus ((try simp only [push_cast, seval]) <;> exact sT))) | ((first | apply Run.nil | apply Wp.skip); dsimp only [sQ, tQ, bQ]) | (apply Wp.run; (dsimp only [List.map] <;> exact rfl); exact rfl) | (apply Wp.exit; dsimp only [sQ, tQ, bQ]; simp only [reduceIte]) | (apply Run.gtrue; (simp only [push_cast, seval] <;> (try simp (disch := omega) only [wI, wU, wC]) <;> exact rfl); (simp only [push_cast, seval] <;> (try simp (disch := omega) only [wI, wU, wC]) <;> exact rfl)) | (apply Run.gfalse (.bool false); (simp only [push_cast, seval] <;> (try simp (disch := omega) only [wI, wU, wC]) <;> exact rfl); dsimp only [S.put, optG]) | (apply Wp.condT; (simp only [push_cast, seval] <;> (try simp (disch := omega) only [wI, wU, wC]) <;> exact rfl)) | (apply Wp.condF; (simp only [push_cast, seval] <;> (try simp (disch := omega) only [wI, wU, wC]) <;> exact rfl)))
      (apply Run.pureP; (simp only [push_cast, seval] <;> (try simp (disch := omega) only [wI, wU, wC]) <;> exact rfl); (exact (Enters.of Try.func60 rfl rfl)); (exact hkd); (focus (simp only [push_cast, seval] <;> first | trivial | assumption | (refine ⟨?_, ?_⟩ <;> assumption) | (simp; done))); (try dsimp only [putA, optG]))
      repeat (first | apply Wp.seq | apply Wp.block | (apply Run.next; (simp only [push_cast, seval] <;> (try simp (disch := omega) only [wI, wU, wC]) <;> exact rfl); (focus ((try simp only [push_cast, seval]) <;> exact sT))) | ((first | apply Run.nil | apply Wp.skip); dsimp only [sQ, tQ, bQ]) | (apply Wp.run; (dsimp only [List.map] <;> exact rfl); exact rfl) | (apply Wp.exit; dsimp only [sQ, tQ, bQ]; simp only [reduceIte]) | (apply Run.gtrue; (simp only [push_cast, seval] <;> (try simp (disch := omega) only [wI, wU, wC]) <;> exact rfl); (simp only [push_cast, seval] <;> (try simp (disch := omega) only [wI, wU, wC]) <;> exact rfl)) | (apply Run.gfalse (.bool false); (simp only [push_cast, seval] <;> (try simp (disch := omega) only [wI, wU, wC]) <;> exact rfl); dsimp only [S.put, optG]) | (apply Wp.condT; (simp only [push_cast, seval] <;> (try simp (disch := omega) only [wI, wU, wC]) <;> exact rfl)) | (apply Wp.condF; (simp only [push_cast, seval] <;> (try simp (disch := omega) only [wI, wU, wC]) <;> exact rfl)))
      (apply Wp.ret; (try dsimp only [sQ, tQ, bQ]); apply leave0; exact rfl; (simp only [push_cast, seval] <;> (try simp (disch := omega) only [wI, wU, wC]) <;> exact rfl); all_goals (try simp only [push_cast, seval]); (try rfl))
      rw [show wearV ks ls plan kind = (.emp, 1) by rw [wearV, if_pos h1, if_neg (by rw [h2]; simp)]]
    | true =>
      rw [h2] at hkd
      have hw := wear_pure hv kind (by rw [wi_iff] at h2; omega)
      rw [show wearV ks ls plan kind = (.ints (wearP ls plan kind (ks.getD kind.toNat st0).items.toNat ls.length), 0) by rw [wearV, if_pos h1, if_pos h2]]
      generalize wearP ls plan kind (ks.getD kind.toNat st0).items.toNat ls.length = out at hw
      (refine Spec.of_body Try.func35 rfl (by rw [Try.ntmps35]; simp) 0 (by simp) ?_; rw [Try.results35, Try.ntmps35]; simp only [entry, zipArgs, Nat.reduceAdd])
      repeat (first | apply Wp.seq | apply Wp.block | (apply Run.next; (simp only [push_cast, seval] <;> (try simp (disch := omega) only [wI, wU, wC]) <;> exact rfl); (focus ((try simp only [push_cast, seval]) <;> exact sT))) | ((first | apply Run.nil | apply Wp.skip); dsimp only [sQ, tQ, bQ]) | (apply Wp.run; (dsimp only [List.map] <;> exact rfl); exact rfl) | (apply Wp.exit; dsimp only [sQ, tQ, bQ]; simp only [reduceIte]))
      (apply Run.pureP; (simp only [push_cast, seval] <;> (try simp (disch := omega) only [wI, wU, wC]) <;> exact rfl); (exact (Enters.of Try.func59 rfl rfl)); (exact hck); (focus (simp only [push_cast, seval] <;> first | trivial | assumption | (refine ⟨?_, ?_⟩ <;> assumption) | (simp; done))); (try dsimp only [putA, optG]))
      repeat (first | apply Wp.seq | apply Wp.block | (apply Run.next; (simp only [push_cast, seval] <;> (try simp (disch := omega) only [wI, wU, wC]) <;> exact rfl); (focus ((try simp only [push_cast, seval]) <;> exact sT))) | ((first | apply Run.nil | apply Wp.skip); dsimp only [sQ, tQ, bQ]) | (apply Wp.run; (dsimp only [List.map] <;> exact rfl); exact rfl) | (apply Wp.exit; dsimp only [sQ, tQ, bQ]; simp only [reduceIte]) | (apply Run.gtrue; (simp only [push_cast, seval] <;> (try simp (disch := omega) only [wI, wU, wC]) <;> exact rfl); (simp only [push_cast, seval] <;> (try simp (disch := omega) only [wI, wU, wC]) <;> exact rfl)) | (apply Run.gfalse (.bool false); (simp only [push_cast, seval] <;> (try simp (disch := omega) only [wI, wU, wC]) <;> exact rfl); dsimp only [S.put, optG]) | (apply Wp.condT; (simp only [push_cast, seval] <;> (try simp (disch := omega) only [wI, wU, wC]) <;> exact rfl)) | (apply Wp.condF; (simp only [push_cast, seval] <;> (try simp (disch := omega) only [wI, wU, wC]) <;> exact rfl)))
      (apply Run.pureP; (simp only [push_cast, seval] <;> (try simp (disch := omega) only [wI, wU, wC]) <;> exact rfl); (exact (Enters.of Try.func60 rfl rfl)); (exact hkd); (focus (simp only [push_cast, seval] <;> first | trivial | assumption | (refine ⟨?_, ?_⟩ <;> assumption) | (simp; done))); (try dsimp only [putA, optG]))
      repeat (first | apply Wp.seq | apply Wp.block | (apply Run.next; (simp only [push_cast, seval] <;> (try simp (disch := omega) only [wI, wU, wC]) <;> exact rfl); (focus ((try simp only [push_cast, seval]) <;> exact sT))) | ((first | apply Run.nil | apply Wp.skip); dsimp only [sQ, tQ, bQ]) | (apply Wp.run; (dsimp only [List.map] <;> exact rfl); exact rfl) | (apply Wp.exit; dsimp only [sQ, tQ, bQ]; simp only [reduceIte]) | (apply Run.gtrue; (simp only [push_cast, seval] <;> (try simp (disch := omega) only [wI, wU, wC]) <;> exact rfl); (simp only [push_cast, seval] <;> (try simp (disch := omega) only [wI, wU, wC]) <;> exact rfl)) | (apply Run.gfalse (.bool false); (simp only [push_cast, seval] <;> (try simp (disch := omega) only [wI, wU, wC]) <;> exact rfl); dsimp only [S.put, optG]) | (apply Wp.condT; (simp only [push_cast, seval] <;> (try simp (disch := omega) only [wI, wU, wC]) <;> exact rfl)) | (apply Wp.condF; (simp only [push_cast, seval] <;> (try simp (disch := omega) only [wI, wU, wC]) <;> exact rfl)))
      (apply Run.pureFP; (simp only [push_cast, seval] <;> (try simp (disch := omega) only [wI, wU, wC]) <;> exact rfl); (exact (Enters.of Try.func71 rfl rfl)); (exact hw); (focus (simp only [push_cast, seval] <;> first | trivial | assumption | (refine ⟨?_, ?_⟩ <;> assumption) | (simp; done))); (try dsimp only [putA, optG]))
      repeat (first | apply Wp.seq | apply Wp.block | (apply Run.next; (simp only [push_cast, seval] <;> (try simp (disch := omega) only [wI, wU, wC]) <;> exact rfl); (focus ((try simp only [push_cast, seval]) <;> exact sT))) | ((first | apply Run.nil | apply Wp.skip); dsimp only [sQ, tQ, bQ]) | (apply Wp.run; (dsimp only [List.map] <;> exact rfl); exact rfl) | (apply Wp.exit; dsimp only [sQ, tQ, bQ]; simp only [reduceIte]) | (apply Run.gtrue; (simp only [push_cast, seval] <;> (try simp (disch := omega) only [wI, wU, wC]) <;> exact rfl); (simp only [push_cast, seval] <;> (try simp (disch := omega) only [wI, wU, wC]) <;> exact rfl)) | (apply Run.gfalse (.bool false); (simp only [push_cast, seval] <;> (try simp (disch := omega) only [wI, wU, wC]) <;> exact rfl); dsimp only [S.put, optG]) | (apply Wp.condT; (simp only [push_cast, seval] <;> (try simp (disch := omega) only [wI, wU, wC]) <;> exact rfl)) | (apply Wp.condF; (simp only [push_cast, seval] <;> (try simp (disch := omega) only [wI, wU, wC]) <;> exact rfl)))
      (apply Wp.ret; (try dsimp only [sQ, tQ, bQ]); apply leave0; exact rfl; (simp only [push_cast, seval] <;> (try simp (disch := omega) only [wI, wU, wC]) <;> exact rfl); all_goals (try simp only [push_cast, seval]); (try rfl))
  · have hne : decide (chk2E ks ls plan = 0) = false := decide_eq_false h1
    (refine Spec.of_body Try.func35 rfl (by rw [Try.ntmps35]; simp) 0 (by simp) ?_; rw [Try.results35, Try.ntmps35]; simp only [entry, zipArgs, Nat.reduceAdd])
    repeat (first | apply Wp.seq | apply Wp.block | (apply Run.next; (simp only [push_cast, seval, hne] <;> (try simp (disch := omega) only [wI, wU, wC]) <;> exact rfl); (focus ((try simp only [push_cast, seval, hne]) <;> exact sT))) | ((first | apply Run.nil | apply Wp.skip); dsimp only [sQ, tQ, bQ]) | (apply Wp.run; (dsimp only [List.map] <;> exact rfl); exact rfl) | (apply Wp.exit; dsimp only [sQ, tQ, bQ]; simp only [reduceIte]))
    (apply Run.pureP; (simp only [push_cast, seval, hne] <;> (try simp (disch := omega) only [wI, wU, wC]) <;> exact rfl); (exact (Enters.of Try.func59 rfl rfl)); (exact hck); (focus (simp only [push_cast, seval, hne] <;> first | trivial | assumption | (refine ⟨?_, ?_⟩ <;> assumption) | (simp; done))); (try dsimp only [putA, optG]))
    repeat (first | apply Wp.seq | apply Wp.block | (apply Run.next; (simp only [push_cast, seval, hne] <;> (try simp (disch := omega) only [wI, wU, wC]) <;> exact rfl); (focus ((try simp only [push_cast, seval, hne]) <;> exact sT))) | ((first | apply Run.nil | apply Wp.skip); dsimp only [sQ, tQ, bQ]) | (apply Wp.run; (dsimp only [List.map] <;> exact rfl); exact rfl) | (apply Wp.exit; dsimp only [sQ, tQ, bQ]; simp only [reduceIte]) | (apply Run.gtrue; (simp only [push_cast, seval, hne] <;> (try simp (disch := omega) only [wI, wU, wC]) <;> exact rfl); (simp only [push_cast, seval, hne] <;> (try simp (disch := omega) only [wI, wU, wC]) <;> exact rfl)) | (apply Run.gfalse (.bool false); (simp only [push_cast, seval, hne] <;> (try simp (disch := omega) only [wI, wU, wC]) <;> exact rfl); dsimp only [S.put, optG]) | (apply Wp.condT; (simp only [push_cast, seval, hne] <;> (try simp (disch := omega) only [wI, wU, wC]) <;> exact rfl)) | (apply Wp.condF; (simp only [push_cast, seval, hne] <;> (try simp (disch := omega) only [wI, wU, wC]) <;> exact rfl)))
    (apply Wp.ret; (try dsimp only [sQ, tQ, bQ]); apply leave0; exact rfl; (simp only [push_cast, seval, hne] <;> (try simp (disch := omega) only [wI, wU, wC]) <;> exact rfl); all_goals (try simp only [push_cast, seval, hne]); (try rfl))
    rw [show wearV ks ls plan kind = (.emp, chk2E ks ls plan) by rw [wearV, if_neg h1]]
end Go.Proofs.Try
set_option maxHeartbeats 8000000
namespace Go.Proofs.Try
open Go.Vg

def prA (p : Int × Int) : AV := .agg [.int p.1, .int p.2]
theorem app_pr (l : List (Int × Int)) (a b : Int) : l.map prA ++ [.agg [.val (.int .i64 a), .val (.int .i64 b)]] = (l ++ [(a, b)]).map prA := by simp [prA]
theorem getD_pr (l : List (Int × Int)) (i : Nat) : (l.map prA).getD i (.agg [.val (.int .i64 0), .val (.int .i64 0)]) = prA (l.getD i (0, 0)) := getD_map' prA l i (0, 0)
theorem okL_pr (k : Nat) (l : List (Int × Int)) : okL k (l.map prA) = True := eq_true (okL_map' k l fun x => by simp [prA, AV.ok, okL])
attribute [push_cast] app_pr okL_pr
def wnI (w : List Int) (life k : Int) (i : Nat) : List (Int × Int) := ((List.range i).filter fun j => decide (life ≤ w.getD j 0)).map fun j : Nat => (k, (j : Int))
theorem wnI_succ (w : List Int) (life k : Int) (i : Nat) : wnI w life k (i + 1) = if decide (life ≤ w.getD i 0) = true then wnI w life k i ++ [(k, (i : Int))] else wnI w life k i := by
  unfold wnI; rw [List.range_succ, List.filter_append, List.map_append]
  by_cases h : decide (life ≤ w.getD i 0) = true
  · rw [if_pos h, List.filter_cons, if_pos h]; rfl
  · rw [if_neg h, List.filter_cons, if_neg h]; simp
theorem wnI_len (w : List Int) (life k : Int) (i : Nat) : (wnI w life k i).length ≤ i := by
  unfold wnI; rw [List.length_map]; refine Nat.le_trans (List.length_filter_le _ _) ?_; simp
def wnP (ks : List St) (ls : List Ln) (plan : List Int) : Nat → List (Int × Int)
  | 0 => []
  | k + 1 => wnP ks ls plan k ++ wnI (wearP ls plan k (ks.getD k st0).items.toNat ls.length) (ks.getD k st0).life k (ks.getD k st0).items.toNat
theorem wnP_len {ks : List St} {ls : List Ln} (hv : SV ks ls) (plan : List Int) : ∀ k, k ≤ ks.length → (wnP ks ls plan k).length ≤ 8 * k
  | 0, _ => by simp [wnP]
  | k + 1, hk => by
    have h1 := wnP_len hv plan k (by omega)
    have h2 := hv.st k (by omega)
    have h3 := wnI_len (wearP ls plan k (ks.getD k st0).items.toNat ls.length) (ks.getD k st0).life k (ks.getD k st0).items.toNat
    simp only [wnP, List.length_append]; omega
def wornV (ks : List St) (ls : List Ln) (plan : List Int) : AV × Int :=
  if chk2E ks ls plan = 0 then (.lst 2 ((wnP ks ls plan ks.length).map prA), 0) else (.emp, chk2E ks ls plan)
theorem worn_pure (ks : List St) (ls : List Ln) (plan : List Int) (hk : ks.length ≤ 9223372036854775807) (hl : ls.length ≤ 9223372036854775807) (hp : plan.length ≤ 9223372036854775807) : Pure Try.prog 37 [storA ks ls, .ints plan] (.tup [(wornV ks ls plan).1, .int (wornV ks ls plan).2]) := by
  have hck := checked_pure ks ls plan hk hl hp
  by_cases h1 : chk2E ks ls plan = 0
  · rw [h1] at hck
    have hv := chk2E_pv h1
    have hk8 := hv.sv.k8
    rw [show wornV ks ls plan = (.lst 2 ((wnP ks ls plan ks.length).map prA), 0) by rw [wornV, if_pos h1]]
    (refine Spec.of_body Try.func37 rfl (by rw [Try.ntmps37]; simp) 0 (by simp) ?_; rw [Try.results37, Try.ntmps37]; simp only [entry, zipArgs, Nat.reduceAdd])
    repeat (first | apply Wp.seq | apply Wp.block | (apply Run.next; (simp only [push_cast, seval] <;> (try simp (disch := omega) only [wI, wU, wC]) <;> exact rfl); (focus ((try simp only [push_cast, seval]) <;> exact sT))) | ((first | apply Run.nil | apply Wp.skip); dsimp only [sQ, tQ, bQ]) | (apply Wp.run; (dsimp only [List.map] <;> exact rfl); exact rfl) | (apply Wp.exit; dsimp only [sQ, tQ, bQ]; simp only [reduceIte]))
    (apply Run.pureP; (simp only [push_cast, seval] <;> (try simp (disch := omega) only [wI, wU, wC]) <;> exact rfl); (exact (Enters.of Try.func59 rfl rfl)); (exact hck); (focus (simp only [push_cast, seval] <;> first | trivial | assumption | (refine ⟨?_, ?_⟩ <;> assumption) | (simp; done))); (try dsimp only [putA, optG]))
    repeat (first | apply Wp.seq | apply Wp.block | (apply Run.next; (simp only [push_cast, seval] <;> (try simp (disch := omega) only [wI, wU, wC]) <;> exact rfl); (focus ((try simp only [push_cast, seval]) <;> exact sT))) | ((first | apply Run.nil | apply Wp.skip); dsimp only [sQ, tQ, bQ]) | (apply Wp.run; (dsimp only [List.map] <;> exact rfl); exact rfl) | (apply Wp.exit; dsimp only [sQ, tQ, bQ]; simp only [reduceIte]) | (apply Run.gtrue; (simp only [push_cast, seval] <;> (try simp (disch := omega) only [wI, wU, wC]) <;> exact rfl); (simp only [push_cast, seval] <;> (try simp (disch := omega) only [wI, wU, wC]) <;> exact rfl)) | (apply Run.gfalse (.bool false); (simp only [push_cast, seval] <;> (try simp (disch := omega) only [wI, wU, wC]) <;> exact rfl); dsimp only [S.put, optG]) | (apply Wp.condT; (simp only [push_cast, seval] <;> (try simp (disch := omega) only [wI, wU, wC]) <;> exact rfl)) | (apply Wp.condF; (simp only [push_cast, seval] <;> (try simp (disch := omega) only [wI, wU, wC]) <;> exact rfl)))
    (refine Wp.vacs 1 ?_; (try simp only [List.replicate_succ, List.replicate_zero, List.cons_append, List.nil_append]))
    refine Wp.adopt 4 2 (by (simp only [push_cast, seval] <;> (try simp (disch := omega) only [wI, wU, wC]) <;> exact rfl)) ?_
    refine Wp.loop (fun (q : Nat × Nat × Kind) => { t := [(1, .ints plan), (2, .optr 0 0 0 0), (18, .lst 2 (ks.map stA)), (19, .int ks.length), (20, .int q.1), (4, .osl 2 (wnP ks ls plan q.1).length 0 (wnP ks ls plan q.1).length)], m := [⟨0, .row 2 [storA ks ls]⟩, ⟨q.2.1, q.2.2⟩, ⟨(wnP ks ls plan q.1).length, .row 2 ((wnP ks ls plan q.1).map prA)⟩], n := 48 }) (fun q => q.1 ≤ ks.length) (fun q => ks.length - q.1) (0, 0, .row 1 []) ?_ ?_ ?_
    · (refine Le.of ?_ ?_ rfl rfl <;> (try simp only [push_cast, seval]) <;> (try (with_reducible rfl)))
      all_goals rfl
    · simp
    · rintro ⟨k, v, kd⟩ hk1
      simp only at hk1
      have hol := wnP_len hv.sv plan k hk1
      have hos : wnP ks ls plan (k + 1) = wnP ks ls plan k ++ wnI (wearP ls plan k (ks.getD k st0).items.toNat ls.length) (ks.getD k st0).life k (ks.getD k st0).items.toNat := rfl
      generalize hout : wnP ks ls plan k = out at hol hos
      repeat (first | apply Wp.seq | apply Wp.block | (apply Run.calm; exact rfl; (simp only [push_cast, seval] <;> (try simp (disch := omega) only [wI, wU, wC]) <;> exact rfl); (focus ((try simp only [push_cast, seval]) <;> exact sT))) | ((first | apply Run.nil | apply Wp.skip); dsimp only [sQ, tQ, bQ]) | (apply Wp.run; (dsimp only [List.map] <;> exact rfl); exact rfl) | (apply Wp.exit; dsimp only [sQ, tQ, bQ]; simp only [reduceIte]))
      (apply Wp.cond; (simp only [push_cast, seval] <;> (try simp (disch := omega) only [wI, wU, wC]) <;> exact rfl))
      · intro hck'
        simp only [decide_eq_true_eq, Int.ofNat_lt] at hck'
        have hs := hv.sv.st k hck'
        have hw := wear_pure hv (k : Int) (by omega)
        rw [Int.toNat_natCast] at hw
        have hwl := wearP_len ls plan k (ks.getD k st0).items.toNat ls.length
        generalize hy : ks.getD k st0 = y at hs hw hwl hos
        generalize wearP ls plan k y.items.toNat ls.length = w at hw hwl hos
        repeat (first | apply Wp.seq | apply Wp.block | (apply Run.calm; exact rfl; (simp only [push_cast, seval, hy, hwl] <;> (try simp (disch := omega) only [wI, wU, wC]) <;> exact rfl); (focus ((try simp only [push_cast, seval, hy, hwl]) <;> exact sT))) | ((first | apply Run.nil | apply Wp.skip); dsimp only [sQ, tQ, bQ]) | (apply Wp.run; (dsimp only [List.map] <;> exact rfl); exact rfl) | (apply Wp.exit; dsimp only [sQ, tQ, bQ]; simp only [reduceIte]))
        (apply Run.alcAt 1; (simp only [push_cast, seval, hy, hwl] <;> (try simp (disch := omega) only [wI, wU, wC]) <;> exact rfl); (focus ((try simp only [push_cast, seval, hy, hwl]) <;> exact sT)); exact rfl; (try simp only [push_cast, seval, hy, hwl]))
        repeat (first | apply Wp.seq | apply Wp.block | (apply Run.calm; exact rfl; (simp only [push_cast, seval, hy, hwl] <;> (try simp (disch := omega) only [wI, wU, wC]) <;> exact rfl); (focus ((try simp only [push_cast, seval, hy, hwl]) <;> exact sT))) | ((first | apply Run.nil | apply Wp.skip); dsimp only [sQ, tQ, bQ]) | (apply Wp.run; (dsimp only [List.map] <;> exact rfl); exact rfl) | (apply Wp.exit; dsimp only [sQ, tQ, bQ]; simp only [reduceIte]))
        (apply Run.pureFP; (simp only [push_cast, seval, hy, hwl] <;> (try simp (disch := omega) only [wI, wU, wC]) <;> exact rfl); (exact (Enters.of Try.func71 rfl rfl)); (exact hw); (focus (simp only [push_cast, seval, hy, hwl] <;> first | trivial | assumption | (refine ⟨?_, ?_⟩ <;> assumption) | (simp; done))); (try dsimp only [putA, optG]))
        repeat (first | apply Wp.seq | apply Wp.block | (apply Run.next; (simp only [push_cast, seval, hy, hwl] <;> (try simp (disch := omega) only [wI, wU, wC]) <;> exact rfl); (focus ((try simp only [push_cast, seval, hy, hwl]) <;> exact sT))) | ((first | apply Run.nil | apply Wp.skip); dsimp only [sQ, tQ, bQ]) | (apply Wp.run; (dsimp only [List.map] <;> exact rfl); exact rfl) | (apply Wp.exit; dsimp only [sQ, tQ, bQ]; simp only [reduceIte]))
        refine Wp.loop (fun (i : Nat) => { t := [(1, .ints plan), (2, .optr 0 0 0 0), (18, .lst 2 (ks.map stA)), (19, .int ks.length), (20, .int k), (4, .osl 2 (out ++ wnI w y.life k i).length 0 (out ++ wnI w y.life k i).length), (28, .ints w), (29, .int w.length), (30, .int i), (7, .int k), (8, .optr 1 (v + 1) 0 0)], m := [⟨0, .row 2 [storA ks ls]⟩, ⟨v + 1, .row 2 [stA y]⟩, ⟨(out ++ wnI w y.life k i).length, .row 2 ((out ++ wnI w y.life k i).map prA)⟩], n := 48 }) (fun i => i ≤ w.length) (fun i => w.length - i) 0 ?_ ?_ ?_
        · (refine Le.of ?_ ?_ rfl rfl <;> (try simp only [push_cast, seval, hy, hwl]) <;> (try (with_reducible rfl)))
          all_goals simp [wnI, hwl, stA]
        · simp
        · intro i hi
          have hil := wnI_len w y.life k i
          have his := wnI_succ w y.life k i
          generalize hinn : wnI w y.life k i = inn at hil his
          have hle : (out ++ inn).length ≤ 128 := by rw [List.length_append]; omega
          have hins : out ++ wnI w y.life k (i + 1) = if decide (y.life ≤ w.getD i 0) = true then (out ++ inn) ++ [((k : Int), (i : Int))] else out ++ inn := by rw [his]; split <;> simp
          generalize hoi : out ++ inn = oi at hle hins
          repeat (first | apply Wp.seq | apply Wp.block | (apply Run.next; (simp only [push_cast, seval, hy] <;> (try simp (disch := omega) only [wI, wU, wC]) <;> exact rfl); (focus ((try simp only [push_cast, seval, hy]) <;> exact sT))) | ((first | apply Run.nil | apply Wp.skip); dsimp only [sQ, tQ, bQ]) | (apply Wp.run; (dsimp only [List.map] <;> exact rfl); exact rfl) | (apply Wp.exit; dsimp only [sQ, tQ, bQ]; simp only [reduceIte]))
          (apply Wp.cond; (simp only [push_cast, seval, hy] <;> (try simp (disch := omega) only [wI, wU, wC]) <;> exact rfl))
          · intro hci
            simp only [decide_eq_true_eq, Int.ofNat_lt] at hci
            repeat (first | apply Wp.seq | apply Wp.block | (apply Run.next; (simp only [push_cast, seval, hy] <;> (try simp (disch := omega) only [wI, wU, wC]) <;> exact rfl); (focus ((try simp only [push_cast, seval, hy]) <;> exact sT))) | ((first | apply Run.nil | apply Wp.skip); dsimp only [sQ, tQ, bQ]) | (apply Wp.run; (dsimp only [List.map] <;> exact rfl); exact rfl) | (apply Wp.exit; dsimp only [sQ, tQ, bQ]; simp only [reduceIte]))
            (apply Wp.cond; (simp only [push_cast, seval, hy] <;> (try simp (disch := omega) only [wI, wU, wC]) <;> exact rfl))
            · intro h2
              rw [if_pos h2] at hins
              repeat (first | apply Wp.seq | apply Wp.block | (apply Run.next; (simp only [push_cast, seval, hy] <;> (try simp (disch := omega) only [wI, wU, wC]) <;> exact rfl); (focus ((try simp only [push_cast, seval, hy]) <;> exact sT))) | ((first | apply Run.nil | apply Wp.skip); dsimp only [sQ, tQ, bQ]) | (apply Wp.run; (dsimp only [List.map] <;> exact rfl); exact rfl) | (apply Wp.exit; dsimp only [sQ, tQ, bQ]; simp only [reduceIte]))
              refine ⟨i + 1, ?_, by omega, by omega⟩
              rw [hins, List.length_append]
              (refine Le.of ?_ ?_ rfl rfl <;> (try simp only [push_cast, seval, hy]) <;> (try (with_reducible rfl)))
            · intro h2
              rw [if_neg (by rw [h2]; simp)] at hins
              repeat (first | apply Wp.seq | apply Wp.block | (apply Run.next; (simp only [push_cast, seval, hy] <;> (try simp (disch := omega) only [wI, wU, wC]) <;> exact rfl); (focus ((try simp only [push_cast, seval, hy]) <;> exact sT))) | ((first | apply Run.nil | apply Wp.skip); dsimp only [sQ, tQ, bQ]) | (apply Wp.run; (dsimp only [List.map] <;> exact rfl); exact rfl) | (apply Wp.exit; dsimp only [sQ, tQ, bQ]; simp only [reduceIte]))
              refine ⟨i + 1, ?_, by omega, by omega⟩
              rw [hins]
              (refine Le.of ?_ ?_ rfl rfl <;> (try simp only [push_cast, seval, hy]) <;> (try (with_reducible rfl)))
          · intro hci
            simp only [decide_eq_false_iff_not, Int.ofNat_lt] at hci
            have e : wnP ks ls plan (k + 1) = oi := by
              rw [hos, ← hwl, show w.length = i by omega, hinn, hoi]
            repeat (first | apply Wp.seq | apply Wp.block | (apply Run.next; (simp only [push_cast, seval, hy] <;> (try simp (disch := omega) only [wI, wU, wC]) <;> exact rfl); (focus ((try simp only [push_cast, seval, hy]) <;> exact sT))) | ((first | apply Run.nil | apply Wp.skip); dsimp only [sQ, tQ, bQ]) | (apply Wp.run; (dsimp only [List.map] <;> exact rfl); exact rfl) | (apply Wp.exit; dsimp only [sQ, tQ, bQ]; simp only [reduceIte]))
            refine ⟨(k + 1, v + 1, .row 2 [stA y]), ?_, by simp only; omega, by simp only; omega⟩
            simp only
            rw [e]
            (refine Le.of ?_ ?_ rfl rfl <;> (try simp only [push_cast, seval, hy]) <;> (try (with_reducible rfl)))
      · intro hck'
        simp only [decide_eq_false_iff_not, Int.ofNat_lt] at hck'
        obtain rfl : k = ks.length := by omega
        repeat (first | apply Wp.seq | apply Wp.block | (apply Run.next; (simp only [push_cast, seval] <;> (try simp (disch := omega) only [wI, wU, wC]) <;> exact rfl); (focus ((try simp only [push_cast, seval]) <;> exact sT))) | ((first | apply Run.nil | apply Wp.skip); dsimp only [sQ, tQ, bQ]) | (apply Wp.run; (dsimp only [List.map] <;> exact rfl); exact rfl) | (apply Wp.exit; dsimp only [sQ, tQ, bQ]; simp only [reduceIte]))
        (apply Wp.freeze 4; (simp only [push_cast, seval] <;> (try simp (disch := omega) only [wI, wU, wC]) <;> exact rfl); (simp only [push_cast, seval] <;> (try simp (disch := omega) only [wI, wU, wC]) <;> exact rfl); (focus (try simp only [push_cast, seval]); (try (exact sT))); (focus (exact sT)))
        (apply Wp.ret; (try dsimp only [sQ, tQ, bQ]); apply leave0; exact rfl; (simp only [push_cast, seval] <;> (try simp (disch := omega) only [wI, wU, wC]) <;> exact rfl); all_goals (try simp only [push_cast, seval]); (try rfl))
        rw [hout]
  · have hne : decide (chk2E ks ls plan = 0) = false := decide_eq_false h1
    (refine Spec.of_body Try.func37 rfl (by rw [Try.ntmps37]; simp) 0 (by simp) ?_; rw [Try.results37, Try.ntmps37]; simp only [entry, zipArgs, Nat.reduceAdd])
    repeat (first | apply Wp.seq | apply Wp.block | (apply Run.next; (simp only [push_cast, seval, hne] <;> (try simp (disch := omega) only [wI, wU, wC]) <;> exact rfl); (focus ((try simp only [push_cast, seval, hne]) <;> exact sT))) | ((first | apply Run.nil | apply Wp.skip); dsimp only [sQ, tQ, bQ]) | (apply Wp.run; (dsimp only [List.map] <;> exact rfl); exact rfl) | (apply Wp.exit; dsimp only [sQ, tQ, bQ]; simp only [reduceIte]))
    (apply Run.pureP; (simp only [push_cast, seval, hne] <;> (try simp (disch := omega) only [wI, wU, wC]) <;> exact rfl); (exact (Enters.of Try.func59 rfl rfl)); (exact hck); (focus (simp only [push_cast, seval, hne] <;> first | trivial | assumption | (refine ⟨?_, ?_⟩ <;> assumption) | (simp; done))); (try dsimp only [putA, optG]))
    repeat (first | apply Wp.seq | apply Wp.block | (apply Run.next; (simp only [push_cast, seval, hne] <;> (try simp (disch := omega) only [wI, wU, wC]) <;> exact rfl); (focus ((try simp only [push_cast, seval, hne]) <;> exact sT))) | ((first | apply Run.nil | apply Wp.skip); dsimp only [sQ, tQ, bQ]) | (apply Wp.run; (dsimp only [List.map] <;> exact rfl); exact rfl) | (apply Wp.exit; dsimp only [sQ, tQ, bQ]; simp only [reduceIte]) | (apply Run.gtrue; (simp only [push_cast, seval, hne] <;> (try simp (disch := omega) only [wI, wU, wC]) <;> exact rfl); (simp only [push_cast, seval, hne] <;> (try simp (disch := omega) only [wI, wU, wC]) <;> exact rfl)) | (apply Run.gfalse (.bool false); (simp only [push_cast, seval, hne] <;> (try simp (disch := omega) only [wI, wU, wC]) <;> exact rfl); dsimp only [S.put, optG]) | (apply Wp.condT; (simp only [push_cast, seval, hne] <;> (try simp (disch := omega) only [wI, wU, wC]) <;> exact rfl)) | (apply Wp.condF; (simp only [push_cast, seval, hne] <;> (try simp (disch := omega) only [wI, wU, wC]) <;> exact rfl)))
    (apply Wp.ret; (try dsimp only [sQ, tQ, bQ]); apply leave0; exact rfl; (simp only [push_cast, seval, hne] <;> (try simp (disch := omega) only [wI, wU, wC]) <;> exact rfl); all_goals (try simp only [push_cast, seval, hne]); (try rfl))
    rw [show wornV ks ls plan = (.emp, chk2E ks ls plan) by rw [wornV, if_neg h1]]
end Go.Proofs.Try
set_option maxHeartbeats 8000000
namespace Go.Proofs.Try
open Go.Vg

/-! the pairs that overlap -/
theorem chkE_ok {ks : List St} {ls : List Ln} (h : chkE ks ls = 0) : SV ks ls := by
  unfold chkE at h
  split at h
  · exact checkB_ok ‹_›
  · cases h
end Go.Proofs.Try
set_option maxHeartbeats 8000000
namespace Go.Proofs.Try
open Go.Vg

/-! the most loans at the same time -/
def atB (ls : List Ln) (kind t : Int) (k : Nat) : Bool := decide ((ls.getD k ln0).kind = kind) && wi t (ls.getD k ln0).fr ((ls.getD k ln0).to - 1)
def pkC (ls : List Ln) (kind t : Int) (k : Nat) : Int := (cntN (atB ls kind t) k : Nat)
theorem pkC_succ (ls : List Ln) (kind t : Int) (k : Nat) : pkC ls kind t (k + 1) = if (decide ((ls.getD k ln0).kind = kind) && wi t (ls.getD k ln0).fr ((ls.getD k ln0).to - 1)) = true then pkC ls kind t k + 1 else pkC ls kind t k := by
  have e : cntN (atB ls kind t) (k + 1) = if atB ls kind t k = true then cntN (atB ls kind t) k + 1 else cntN (atB ls kind t) k := rfl
  unfold pkC
  rw [e]
  by_cases h : atB ls kind t k = true
  · rw [if_pos h, if_pos (by exact h)]; rfl
  · rw [if_neg h, if_neg (by exact h)]
theorem cntN_le (p : Nat → Bool) : ∀ k, cntN p k ≤ k
  | 0 => Nat.le_refl _
  | k + 1 => by have := cntN_le p k; simp only [cntN]; split <;> omega
theorem pkC_bd (ls : List Ln) (kind t : Int) (k : Nat) : 0 ≤ pkC ls kind t k ∧ pkC ls kind t k ≤ k := by
  have := cntN_le (atB ls kind t) k
  unfold pkC; omega
/-- of the loans of the kind -/
def pkP (ls : List Ln) (kind : Int) : Nat → Int
  | 0 => 0
  | i + 1 => max (pkP ls kind i) (if (ls.getD i ln0).kind = kind then pkC ls kind (ls.getD i ln0).fr ls.length else 0)
theorem pkP_bd (ls : List Ln) (kind : Int) : ∀ i, 0 ≤ pkP ls kind i ∧ pkP ls kind i ≤ ls.length
  | 0 => by simp [pkP]
  | i + 1 => by
    have := pkP_bd ls kind i
    have := pkC_bd ls kind (ls.getD i ln0).fr ls.length
    simp only [pkP]; split <;> omega
theorem peak_pure {ks : List St} {ls : List Ln} (hv : SV ks ls) (kind : Int) : Pure Try.prog 50 [storA ks ls, .int kind] (.int (pkP ls kind ls.length)) := by
  have hl20 := hv.l20
  (refine Spec.of_body Try.func50 rfl (by rw [Try.ntmps50]; simp) 0 (by simp) ?_; rw [Try.results50, Try.ntmps50]; simp only [entry, zipArgs, Nat.reduceAdd])
  repeat (first | apply Wp.seq | apply Wp.block | (apply Run.next; (simp only [push_cast, seval] <;> (try simp (disch := omega) only [wI, wU, wC]) <;> exact rfl); (focus ((try simp only [push_cast, seval]) <;> exact sT))) | ((first | apply Run.nil | apply Wp.skip); dsimp only [sQ, tQ, bQ]) | (apply Wp.run; (dsimp only [List.map] <;> exact rfl); exact rfl) | (apply Wp.exit; dsimp only [sQ, tQ, bQ]; simp only [reduceIte]))
  (refine Wp.vacs 2 ?_; (try simp only [List.replicate_succ, List.replicate_zero, List.cons_append, List.nil_append]))
  refine Wp.loop (fun (q : Nat × (Nat × Kind) × (Nat × Kind)) => { t := [(1, .int kind), (2, .optr 0 0 0 0), (11, .lst 5 (ls.map lnA)), (12, .int ls.length), (13, .int q.1), (4, .int (pkP ls kind q.1))], m := [⟨0, .row 2 [storA ks ls]⟩, ⟨q.2.1.1, q.2.1.2⟩, ⟨q.2.2.1, q.2.2.2⟩], n := 52 }) (fun q => q.1 ≤ ls.length) (fun q => ls.length - q.1) (0, (0, .row 1 []), (0, .row 1 [])) ?_ ?_ ?_
  · (refine Le.of ?_ ?_ rfl rfl <;> (try simp only [push_cast, seval]) <;> (try (with_reducible rfl)))
    all_goals rfl
  · simp
  · rintro ⟨i, ⟨v, kd⟩, v2, kd2⟩ hi1
    simp only at hi1
    have hbd := pkP_bd ls kind i
    have hps : pkP ls kind (i + 1) = max (pkP ls kind i) (if (ls.getD i ln0).kind = kind then pkC ls kind (ls.getD i ln0).fr ls.length else 0) := rfl
    generalize hp : pkP ls kind i = p at hbd hps
    repeat (first | apply Wp.seq | apply Wp.block | (apply Run.calm; exact rfl; (simp only [push_cast, seval] <;> (try simp (disch := omega) only [wI, wU, wC]) <;> exact rfl); (focus ((try simp only [push_cast, seval]) <;> exact sT))) | ((first | apply Run.nil | apply Wp.skip); dsimp only [sQ, tQ, bQ]) | (apply Wp.run; (dsimp only [List.map] <;> exact rfl); exact rfl) | (apply Wp.exit; dsimp only [sQ, tQ, bQ]; simp only [reduceIte]))
    (apply Wp.cond; (simp only [push_cast, seval] <;> (try simp (disch := omega) only [wI, wU, wC]) <;> exact rfl))
    · intro hc
      simp only [decide_eq_true_eq, Int.ofNat_lt] at hc
      have hcs := fun k => pkC_succ ls kind (ls.getD i ln0).fr k
      have hcb := fun k => pkC_bd ls kind (ls.getD i ln0).fr k
      have hc0 : pkC ls kind (ls.getD i ln0).fr 0 = 0 := rfl
      generalize hx : ls.getD i ln0 = x at hps hcs hcb hc0
      generalize pkC ls kind x.fr = pc at hps hcs hcb hc0
      repeat (first | apply Wp.seq | apply Wp.block | (apply Run.calm; exact rfl; (simp only [push_cast, seval, hx] <;> (try simp (disch := omega) only [wI, wU, wC]) <;> exact rfl); (focus ((try simp only [push_cast, seval, hx]) <;> exact sT))) | ((first | apply Run.nil | apply Wp.skip); dsimp only [sQ, tQ, bQ]) | (apply Wp.run; (dsimp only [List.map] <;> exact rfl); exact rfl) | (apply Wp.exit; dsimp only [sQ, tQ, bQ]; simp only [reduceIte]))
      (apply Run.alcAt 1; (simp only [push_cast, seval, hx] <;> (try simp (disch := omega) only [wI, wU, wC]) <;> exact rfl); (focus ((try simp only [push_cast, seval, hx]) <;> exact sT)); exact rfl; (try simp only [push_cast, seval, hx]))
      repeat (first | apply Wp.seq | apply Wp.block | (apply Run.next; (simp only [push_cast, seval, hx] <;> (try simp (disch := omega) only [wI, wU, wC]) <;> exact rfl); (focus ((try simp only [push_cast, seval, hx]) <;> exact sT))) | ((first | apply Run.nil | apply Wp.skip); dsimp only [sQ, tQ, bQ]) | (apply Wp.run; (dsimp only [List.map] <;> exact rfl); exact rfl) | (apply Wp.exit; dsimp only [sQ, tQ, bQ]; simp only [reduceIte]))
      refine Wp.loop (fun (q : Nat × (Nat × Kind)) => { t := [(1, .int kind), (2, .optr 0 0 0 0), (11, .lst 5 (ls.map lnA)), (12, .int ls.length), (13, .int i), (4, .int p), (6, .optr 1 (v + 1) 0 0), (7, .int (if x.kind = kind then pc q.1 else 0)), (18, .lst 5 (ls.map lnA)), (19, .int ls.length), (20, .int q.1)], m := [⟨0, .row 2 [storA ks ls]⟩, ⟨v + 1, .row 5 [lnA x]⟩, ⟨q.2.1, q.2.2⟩], n := 52 }) (fun q => q.1 ≤ ls.length) (fun q => ls.length - q.1) (0, (v2, kd2)) ?_ ?_ ?_
      · rw [hc0, ite_self]
        (refine Le.of ?_ ?_ rfl rfl <;> (try simp only [push_cast, seval, hx]) <;> (try (with_reducible rfl)))
      · simp
      · rintro ⟨k, w, kw⟩ hk1
        simp only at hk1
        have hcsk := hcs k
        have hcbk := hcb k
        generalize hpk : pc k = c at hcsk hcbk
        repeat (first | apply Wp.seq | apply Wp.block | (apply Run.calm; exact rfl; (simp only [push_cast, seval, hx] <;> (try simp (disch := omega) only [wI, wU, wC]) <;> exact rfl); (focus ((try simp only [push_cast, seval, hx]) <;> exact sT))) | ((first | apply Run.nil | apply Wp.skip); dsimp only [sQ, tQ, bQ]) | (apply Wp.run; (dsimp only [List.map] <;> exact rfl); exact rfl) | (apply Wp.exit; dsimp only [sQ, tQ, bQ]; simp only [reduceIte]))
        (apply Wp.cond; (simp only [push_cast, seval, hx] <;> (try simp (disch := omega) only [wI, wU, wC]) <;> exact rfl))
        · intro hck
          simp only [decide_eq_true_eq, Int.ofNat_lt] at hck
          have hln := hv.ln k hck
          generalize hy : ls.getD k ln0 = y at hcsk hln
          repeat (first | apply Wp.seq | apply Wp.block | (apply Run.calm; exact rfl; (simp only [push_cast, seval, hx, hy] <;> (try simp (disch := omega) only [wI, wU, wC]) <;> exact rfl); (focus ((try simp only [push_cast, seval, hx, hy]) <;> exact sT))) | ((first | apply Run.nil | apply Wp.skip); dsimp only [sQ, tQ, bQ]) | (apply Wp.run; (dsimp only [List.map] <;> exact rfl); exact rfl) | (apply Wp.exit; dsimp only [sQ, tQ, bQ]; simp only [reduceIte]))
          (apply Run.alcAt 2; (simp only [push_cast, seval, hx, hy] <;> (try simp (disch := omega) only [wI, wU, wC]) <;> exact rfl); (focus ((try simp only [push_cast, seval, hx, hy]) <;> exact sT)); exact rfl; (try simp only [push_cast, seval, hx, hy]))
          have hcb2 : ∀ z : Int, (if x.kind = kind then c else 0) = z → 0 ≤ z ∧ z ≤ 100 := fun z hz => by subst hz; split <;> omega
          have hfin : (if x.kind = kind then pc (k + 1) else 0) = if ((decide (x.kind = kind) && decide (y.kind = kind)) && wi x.fr y.fr (y.to - 1)) = true then (if x.kind = kind then c else 0) + 1 else (if x.kind = kind then c else 0) := by
            rw [hcsk]
            by_cases h1 : x.kind = kind
            · rw [if_pos h1, if_pos h1, decide_eq_true h1, Bool.true_and]
            · rw [if_neg h1, if_neg h1, decide_eq_false h1, Bool.false_and, Bool.false_and, if_neg (by simp)]
          generalize hcc : (if x.kind = kind then c else 0) = cc at hcb2 hfin
          have hcb2 := hcb2 cc rfl
          repeat (first | apply Wp.seq | apply Wp.block | (apply Run.next; (simp only [push_cast, seval, hx, hy] <;> (try simp (disch := omega) only [wI, wU, wC]) <;> exact rfl); (focus ((try simp only [push_cast, seval, hx, hy]) <;> exact sT))) | ((first | apply Run.nil | apply Wp.skip); dsimp only [sQ, tQ, bQ]) | (apply Wp.run; (dsimp only [List.map] <;> exact rfl); exact rfl) | (apply Wp.exit; dsimp only [sQ, tQ, bQ]; simp only [reduceIte]))
          (apply Run.pureP; (simp only [push_cast, seval, hx, hy] <;> (try simp (disch := omega) only [wI, wU, wC]) <;> exact rfl); (exact (Enters.of Try.func61 rfl rfl)); (exact within_pure _ _ _); (focus (simp only [push_cast, seval, hx, hy] <;> first | trivial | assumption | (refine ⟨?_, ?_⟩ <;> assumption) | (simp; done))); (try dsimp only [putA, optG]))
          repeat (first | apply Wp.seq | apply Wp.block | (apply Run.next; (simp only [push_cast, seval, hx, hy] <;> (try simp (disch := omega) only [wI, wU, wC]) <;> exact rfl); (focus ((try simp only [push_cast, seval, hx, hy]) <;> exact sT))) | ((first | apply Run.nil | apply Wp.skip); dsimp only [sQ, tQ, bQ]) | (apply Wp.run; (dsimp only [List.map] <;> exact rfl); exact rfl) | (apply Wp.exit; dsimp only [sQ, tQ, bQ]; simp only [reduceIte]))
          (apply Wp.cond; (simp only [push_cast, seval, hx, hy] <;> (try simp (disch := omega) only [wI, wU, wC]) <;> exact rfl))
          · intro h5
            rw [if_pos h5] at hfin
            repeat (first | apply Wp.seq | apply Wp.block | (apply Run.next; (simp only [push_cast, seval, hx, hy] <;> (try simp (disch := omega) only [wI, wU, wC]) <;> exact rfl); (focus ((try simp only [push_cast, seval, hx, hy]) <;> exact sT))) | ((first | apply Run.nil | apply Wp.skip); dsimp only [sQ, tQ, bQ]) | (apply Wp.run; (dsimp only [List.map] <;> exact rfl); exact rfl) | (apply Wp.exit; dsimp only [sQ, tQ, bQ]; simp only [reduceIte]))
            refine ⟨(k + 1, w + 1, .row 5 [lnA y]), ?_, by simp only; omega, by simp only; omega⟩
            simp only
            rw [hfin]
            (refine Le.of ?_ ?_ rfl rfl <;> (try simp only [push_cast, seval, hx, hy]) <;> (try (with_reducible rfl)))
          · intro h5
            have h5' : ¬ ((decide (x.kind = kind) && decide (y.kind = kind)) && wi x.fr y.fr (y.to - 1)) = true := by rw [h5]; simp
            rw [if_neg h5'] at hfin
            repeat (first | apply Wp.seq | apply Wp.block | (apply Run.next; (simp only [push_cast, seval, hx, hy] <;> (try simp (disch := omega) only [wI, wU, wC]) <;> exact rfl); (focus ((try simp only [push_cast, seval, hx, hy]) <;> exact sT))) | ((first | apply Run.nil | apply Wp.skip); dsimp only [sQ, tQ, bQ]) | (apply Wp.run; (dsimp only [List.map] <;> exact rfl); exact rfl) | (apply Wp.exit; dsimp only [sQ, tQ, bQ]; simp only [reduceIte]))
            refine ⟨(k + 1, w + 1, .row 5 [lnA y]), ?_, by simp only; omega, by simp only; omega⟩
            simp only
            rw [hfin]
            (refine Le.of ?_ ?_ rfl rfl <;> (try simp only [push_cast, seval, hx, hy]) <;> (try (with_reducible rfl)))
        · intro hck
          simp only [decide_eq_false_iff_not, Int.ofNat_lt] at hck
          obtain rfl : k = ls.length := by omega
          have hcb2 : ∀ z : Int, (if x.kind = kind then c else 0) = z → 0 ≤ z ∧ z ≤ 100 := fun z hz => by subst hz; split <;> omega
          rw [hpk] at hps
          generalize hcc : (if x.kind = kind then c else 0) = cc at hcb2 hps
          have hcb2 := hcb2 cc rfl
          repeat (first | apply Wp.seq | apply Wp.block | (apply Run.next; (simp only [push_cast, seval, hx] <;> (try simp (disch := omega) only [wI, wU, wC]) <;> exact rfl); (focus ((try simp only [push_cast, seval, hx]) <;> exact sT))) | ((first | apply Run.nil | apply Wp.skip); dsimp only [sQ, tQ, bQ]) | (apply Wp.run; (dsimp only [List.map] <;> exact rfl); exact rfl) | (apply Wp.exit; dsimp only [sQ, tQ, bQ]; simp only [reduceIte]))
          refine ⟨(i + 1, (v + 1, .row 5 [lnA x]), (w, kw)), ?_, by simp only; omega, by simp only; omega⟩
          simp only
          rw [hps]
          (refine Le.of ?_ ?_ rfl rfl <;> (try simp only [push_cast, seval, hx]) <;> (try (with_reducible rfl)))
    · intro hc
      simp only [decide_eq_false_iff_not, Int.ofNat_lt] at hc
      obtain rfl : i = ls.length := by omega
      repeat (first | apply Wp.seq | apply Wp.block | (apply Run.next; (simp only [push_cast, seval] <;> (try simp (disch := omega) only [wI, wU, wC]) <;> exact rfl); (focus ((try simp only [push_cast, seval]) <;> exact sT))) | ((first | apply Run.nil | apply Wp.skip); dsimp only [sQ, tQ, bQ]) | (apply Wp.run; (dsimp only [List.map] <;> exact rfl); exact rfl) | (apply Wp.exit; dsimp only [sQ, tQ, bQ]; simp only [reduceIte]))
      (apply Wp.ret; (try dsimp only [sQ, tQ, bQ]); apply leave0; exact rfl; (simp only [push_cast, seval] <;> (try simp (disch := omega) only [wI, wU, wC]) <;> exact rfl); all_goals (try simp only [push_cast, seval]); (try rfl))
      rw [hp]
end Go.Proofs.Try
set_option maxHeartbeats 8000000
namespace Go.Proofs.Try
open Go.Vg

/-! what is wrong with the last loan of the beginning of a plan -/
def mateB (ls : List Ln) (p : List Int) (i k : Nat) : Bool := decide ((ls.getD k ln0).kind = (ls.getD i ln0).kind) && decide (p.getD k 0 = p.getD i 0)
def sumU (ls : List Ln) (p : List Int) (i : Nat) : Nat → Int
  | 0 => 0
  | k + 1 => if mateB ls p i k = true then sumU ls p i k + (ls.getD k ln0).uses else sumU ls p i k
def clashB (ls : List Ln) (p : List Int) (i : Nat) : Nat → Bool
  | 0 => false
  | k + 1 => clashB ls p i k || (mateB ls p i k && ovB (ls.getD k ln0) (ls.getD i ln0))
def wrongB (ks : List St) (ls : List Ln) (p : List Int) (i : Nat) : Bool :=
  decide (p.getD i 0 < 0) || (clashB ls p i i || decide ((ks.getD (ls.getD i ln0).kind.toNat st0).life < (ls.getD i ln0).uses + sumU ls p i i))
theorem getD_take {l : List Int} {n k : Nat} (h : k < n) : (l.take n).getD k 0 = l.getD k 0 := by
  simp only [List.getD_eq_getElem?_getD, List.getElem?_take]
  rw [if_pos h]
theorem sumU_take (ls : List Ln) (p : List Int) (i : Nat) : ∀ k, k ≤ i → sumU ls (p.take (i + 1)) i k = sumU ls p i k
  | 0, _ => rfl
  | k + 1, h => by
    simp only [sumU, mateB, getD_take (show k < i + 1 by omega), getD_take (show i < i + 1 by omega), sumU_take ls p i k (by omega)]
    rfl
theorem clashB_take (ls : List Ln) (p : List Int) (i : Nat) : ∀ k, k ≤ i → clashB ls (p.take (i + 1)) i k = clashB ls p i k
  | 0, _ => rfl
  | k + 1, h => by
    simp only [clashB, mateB, getD_take (show k < i + 1 by omega), getD_take (show i < i + 1 by omega), clashB_take ls p i k (by omega)]
theorem wrongB_take (ks : List St) (ls : List Ln) (p : List Int) (i : Nat) : wrongB ks ls (p.take (i + 1)) i = wrongB ks ls p i := by
  unfold wrongB
  rw [sumU_take _ _ _ _ (Nat.le_refl _), clashB_take _ _ _ _ (Nat.le_refl _), getD_take (show i < i + 1 by omega)]
end Go.Proofs.Try
set_option maxHeartbeats 8000000
namespace Go.Proofs.Try
open Go.Vg

/-! several benches in memory -/
mutual
theorem shift_ok (M : Nat) : ∀ (x : AV), x.ok 0 → x.shift M = x
  | .val _, _ => rfl
  | .any, _ => rfl
  | .lst _ l, h => by simp only [AV.shift, shiftL_ok M l h]
  | .osl id _ _ _, h => absurd h (Nat.not_lt_zero id)
  | .emp, _ => rfl
  | .ref xs _, h => by simp only [AV.shift, shiftL_ok M xs h]
  | .optr id _ _ _, h => absurd h (Nat.not_lt_zero id)
  | .agg xs, h => by simp only [AV.shift, shiftL_ok M xs h]
  | .tup xs, h => by simp only [AV.shift, shiftL_ok M xs h]
  | .clo _ xs, h => by simp only [AV.shift, shiftL_ok M xs h]
  | .bnd _ xs, h => by simp only [AV.shift, shiftL_ok M xs h]
  | .opt _ x, h => by simp only [AV.shift, shift_ok M x h]
  | .yld id _, h => absurd h (Nat.not_lt_zero id)
theorem shiftL_ok (M : Nat) : ∀ (l : List AV), okL 0 l → shiftL M l = l
  | [], _ => rfl
  | x :: l, h => by simp only [shiftL, shift_ok M x h.1, shiftL_ok M l h.2]
end
theorem shiftL_lentR (M : Nat) : ∀ (T : List (Nat × List Int)) (k : Nat), shiftL M (lentR 0 k T) = lentR M k T
  | [], _ => rfl
  | t :: T, k => by simp only [lentR, shiftL, AV.shift, shiftL_lentR M T (k + 1), Nat.zero_add]
abbrev shE (M : Nat) (e : Ent) : Ent := ⟨e.ver, e.kind.shift M⟩
theorem blk_shift (M : Nat) {ks : List St} {ls : List Ln} {e4 : Ent} {life : Int} {L I W : List Int} {vi : Nat} {T : List (Nat × List Int)} :
    (blk 0 ks ls ⟨0, .row 2 [storA ks ls]⟩ e4 life L vi I W T []).map (shE M) = blk M ks ls ⟨0, .row 2 [storA ks ls]⟩ (shE M e4) life L vi I W T [] := by
  have h1 : ∀ l : List Int, shiftL M (l.map AV.int) = l.map AV.int := fun l => shiftL_ok M _ (by simp only [push_cast])
  have h2 : shiftL M (ks.map stA) = ks.map stA := shiftL_ok M _ (by simp only [push_cast])
  have h3 : shiftL M (ls.map lnA) = ls.map lnA := shiftL_ok M _ (by simp only [push_cast])
  have h4 : (T.map lentE).map (shE M) = T.map lentE := by
    rw [List.map_map]
    exact List.map_congr_left fun t _ => by simp [lentE, shE, Kind.shift, h1]
  simp only [blk, benR, List.map_cons, List.map_append, h4, List.map_nil]
  simp [shE, Kind.shift, shiftL, AV.shift, h1, h2, h3, shiftL_lentR]
structure Bn where
  e4 : Ent
  vi : Nat
  I : List Int
  W : List Int
  T : List (Nat × List Int)
end Go.Proofs.Try
set_option maxHeartbeats 8000000
namespace Go.Proofs.Try
open Go.Vg

/-! whether so many items are enough -/
theorem loanP_mem {ls : List Ln} {kind : Int} {k : Nat} : ∀ x ∈ loanP ls kind k, ∃ i : Nat, x = (i : Int) ∧ i < k ∧ (ls.getD i ln0).kind = kind := by
  intro x hx
  unfold loanP at hx
  rw [List.mem_map] at hx
  obtain ⟨i, hi, rfl⟩ := hx
  rw [List.mem_filter, List.mem_range] at hi
  exact ⟨i, rfl, hi.1, of_decide_eq_true hi.2⟩
theorem loanP_in (ls : List Ln) (kind : Int) : ∀ x ∈ loanP ls kind ls.length, 0 ≤ x ∧ x < (ls.length : Int) := fun x hx => by
  obtain ⟨i, rfl, h, _⟩ := loanP_mem x hx; omega
theorem uL_bd {ks : List St} {ls : List Ln} (hv : SV ks ls) (L : List Int) (i : Nat) : 0 ≤ uL ls L i ∧ uL ls L i ≤ 100 := by
  unfold uL
  by_cases h : (L.getD i 0).toNat < ls.length
  · have := (hv.ln _ h).2.2; omega
  · have : ls.getD (L.getD i 0).toNat ln0 = ln0 := by
      generalize (L.getD i 0).toNat = k at h
      rw [List.getD_eq_getElem?_getD, List.getElem?_eq_none (by omega)]; rfl
    rw [this]; decide
theorem sumN_bd {u : Nat → Int} (h : ∀ i, 0 ≤ u i ∧ u i ≤ 100) : ∀ k : Nat, 0 ≤ sumN u k ∧ sumN u k ≤ 100 * (k : Int)
  | 0 => by simp [sumN]
  | k + 1 => by have := sumN_bd h k; have := h k; simp only [sumN]; omega
abbrev exB (ls : List Ln) (life kind : Int) (n : Nat) : Bool := (srch (fun _ => n) (okK ls life (loanP ls kind ls.length)) (loanP ls kind ls.length).length []).isSome
def psV (ks : List St) (ls : List Ln) (kind items : Int) : Bool := decide (pkP ls kind ls.length ≤ items) && (decide (sumN (uL ls (loanP ls kind ls.length)) (loanP ls kind ls.length).length ≤ items * (ks.getD kind.toNat st0).life) && exB ls (ks.getD kind.toNat st0).life kind items.toNat)
theorem mul_bd8 {a b : Int} (h1 : 0 ≤ a ∧ a ≤ 100) (h2 : 0 ≤ b ∧ b ≤ 100) : 0 ≤ a * b ∧ a * b ≤ 10000 := by
  refine ⟨Int.mul_nonneg h1.1 h2.1, ?_⟩
  have := Int.mul_le_mul h1.2 h2.2 h2.1 (by omega : (0 : Int) ≤ 100)
  omega
theorem possible_pure {ks : List St} {ls : List Ln} (hv : SV ks ls) (kind items : Int) (hk : 0 ≤ kind ∧ kind < ks.length) (hi : 0 ≤ items ∧ items ≤ 100) : Pure Try.prog 57 [storA ks ls, .int kind, .int items] (.bool (psV ks ls kind items)) := by
  have hl20 := hv.l20
  have hst := hv.st kind.toNat (by omega)
  have hnb := newBench_spec hv kind items hk hi
  have hpk := peak_pure hv kind
  have hpb := pkP_bd ls kind ls.length
  have hub := fun k => sumN_bd (uL_bd hv (loanP ls kind ls.length)) k
  have hus : ∀ k, sumN (uL ls (loanP ls kind ls.length)) (k + 1) = sumN (uL ls (loanP ls kind ls.length)) k + uL ls (loanP ls kind ls.length) k := fun _ => rfl
  have hu0 : sumN (uL ls (loanP ls kind ls.length)) 0 = 0 := rfl
  have huk : ∀ k, uL ls (loanP ls kind ls.length) k = (ls.getD ((loanP ls kind ls.length).getD k 0).toNat ln0).uses := fun _ => rfl
  have hLl := loanP_len ls kind ls.length
  have hLi := loanP_in ls kind
  have hfs := fun e4 => first_spec hv (ks.getD kind.toNat st0).life hLi (by omega) (n := items.toNat) (by omega) (loanP ls kind ls.length).length (F := [⟨0, .row 2 [storA ks ls]⟩]) (G := []) (N := 1) rfl (e0 := ⟨0, .row 2 [storA ks ls]⟩) (e4 := e4) (vi := 0) (I := []) (T := T0 items.toNat) (by simp) (by simp) (fun a b _ h => by simp at h) (tO_nil (loanP ls kind ls.length) items.toNat)
  have hw0 := wO_nil ls (loanP ls kind ls.length) items.toNat
  rw [hw0] at hfs
  unfold psV exB
  generalize hL : loanP ls kind ls.length = L at *
  generalize hy : ks.getD kind.toNat st0 = y at *
  generalize pkP ls kind ls.length = pk at *
  have hzb := mul_bd8 hi (⟨by omega, by omega⟩ : 0 ≤ y.life ∧ y.life ≤ 100)
  generalize hz : items * y.life = z at hzb
  generalize hsu : sumN (uL ls L) = su at *
  (refine Spec.of_body Try.func57 rfl (by rw [Try.ntmps57]; simp) 0 (by simp) ?_; rw [Try.results57, Try.ntmps57]; simp only [entry, zipArgs, Nat.reduceAdd])
  repeat (first | apply Wp.seq | apply Wp.block | (apply Run.next; (simp only [push_cast, seval, hz, hy] <;> (try simp (disch := omega) only [wI, wU, wC]) <;> exact rfl); (focus ((try simp only [push_cast, seval, hz, hy]) <;> exact sT))) | ((first | apply Run.nil | apply Wp.skip); dsimp only [sQ, tQ, bQ]) | (apply Wp.run; (dsimp only [List.map] <;> exact rfl); exact rfl) | (apply Wp.exit; dsimp only [sQ, tQ, bQ]; simp only [reduceIte]))
  apply Run.fresh (he := Enters.of Try.func67 rfl rfl)
  focus (simp only [push_cast, seval, hz, hy] <;> exact rfl)
  focus (simp only [push_cast, seval, hz, hy] <;> (try simp (disch := omega) only [wI, wU, wC]) <;> exact rfl)
  exact hnb
  focus (focus (simp only [push_cast, seval, hz, hy] <;> first | trivial | assumption | (refine ⟨?_, ?_⟩ <;> assumption) | (simp; done)))
  rintro x m' ⟨rfl, e4, rfl⟩
  have hsh := blk_shift 1 (ks := ks) (ls := ls) (e4 := e4) (life := y.life) (L := L) (vi := 0) (I := []) (W := List.replicate items.toNat 0) (T := T0 items.toNat)
  simp only [shE] at hsh
  simp only [List.length_cons, List.cons_append, List.nil_append, List.length_nil, Nat.zero_add]
  rw [hsh]
  generalize hE4 : (⟨e4.ver, e4.kind.shift 1⟩ : Ent) = e5
  dsimp only [AV.shift]
  dsimp only [S.put, optG]
  repeat (first | apply Wp.seq | apply Wp.block | (apply Run.next; (simp only [push_cast, seval, hz, hy] <;> (try simp (disch := omega) only [wI, wU, wC]) <;> exact rfl); (focus ((try simp only [push_cast, seval, hz, hy]) <;> exact sT))) | ((first | apply Run.nil | apply Wp.skip); dsimp only [sQ, tQ, bQ]) | (apply Wp.run; (dsimp only [List.map] <;> exact rfl); exact rfl) | (apply Wp.exit; dsimp only [sQ, tQ, bQ]; simp only [reduceIte]))
  refine Wp.loop (fun (k : Nat) => { t := [(1, .int kind), (2, .int items), (3, .optr 0 0 0 0), (7, .optr 4 1 0 0), (8, .int (su k)), (18, .osl 6 L.length 0 L.length), (19, .int L.length), (20, .int k)], m := ⟨0, .row 2 [storA ks ls]⟩ :: blk 1 ks ls ⟨0, .row 2 [storA ks ls]⟩ e5 y.life L 0 [] (List.replicate items.toNat 0) (T0 items.toNat) [], n := 52 }) (fun k => k ≤ L.length) (fun k => L.length - k) 0 ?_ ?_ ?_
  · rw [hu0]
    (refine Le.of ?_ ?_ rfl rfl <;> (try simp only [push_cast, seval, hz, hy]) <;> (try (with_reducible rfl)))
    all_goals rfl
  · simp
  · intro k hk1
    have hsk := hub k
    have huk1 := hus k
    have huk2 := huk k
    generalize hs : su k = s at hsk huk1
    repeat (first | apply Wp.seq | apply Wp.block | (apply Run.next; (simp only [push_cast, seval, hz, hy] <;> (try simp (disch := omega) only [wI, wU, wC]) <;> exact rfl); (focus ((try simp only [push_cast, seval, hz, hy]) <;> exact sT))) | ((first | apply Run.nil | apply Wp.skip); dsimp only [sQ, tQ, bQ]) | (apply Wp.run; (dsimp only [List.map] <;> exact rfl); exact rfl) | (apply Wp.exit; dsimp only [sQ, tQ, bQ]; simp only [reduceIte]))
    (apply Wp.cond; (simp only [push_cast, seval, hz, hy] <;> (try simp (disch := omega) only [wI, wU, wC]) <;> exact rfl))
    · intro hc
      simp only [decide_eq_true_eq, Int.ofNat_lt] at hc
      have hlo : 0 ≤ L.getD k 0 ∧ L.getD k 0 < (ls.length : Int) := hLi _ (by simp [hc])
      generalize hlv : L.getD k 0 = loan at hlo huk2
      have hlu := (hv.ln loan.toNat (by omega)).2.2
      generalize hx : ls.getD loan.toNat ln0 = x at hlu huk2
      rw [huk2] at huk1
      repeat (first | apply Wp.seq | apply Wp.block | (apply Run.next; (simp only [push_cast, seval, hz, hy, hlv, hx] <;> (try simp (disch := omega) only [wI, wU, wC]) <;> exact rfl); (focus ((try simp only [push_cast, seval, hz, hy, hlv, hx]) <;> exact sT))) | ((first | apply Run.nil | apply Wp.skip); dsimp only [sQ, tQ, bQ]) | (apply Wp.run; (dsimp only [List.map] <;> exact rfl); exact rfl) | (apply Wp.exit; dsimp only [sQ, tQ, bQ]; simp only [reduceIte]))
      refine ⟨k + 1, ?_, by omega, by omega⟩
      rw [huk1]
      (refine Le.of ?_ ?_ rfl rfl <;> (try simp only [push_cast, seval, hz, hy, hlv, hx]) <;> (try (with_reducible rfl)))
    · intro hc
      simp only [decide_eq_false_iff_not, Int.ofNat_lt] at hc
      obtain rfl : k = L.length := by omega
      rw [hs]
      cases hA : decide (pk ≤ items) with
      | false =>
        repeat (first | apply Wp.seq | apply Wp.block | (apply Run.next; (simp only [push_cast, seval, hz, hy, hA] <;> (try simp (disch := omega) only [wI, wU, wC]) <;> exact rfl); (focus ((try simp only [push_cast, seval, hz, hy, hA]) <;> exact sT))) | ((first | apply Run.nil | apply Wp.skip); dsimp only [sQ, tQ, bQ]) | (apply Wp.run; (dsimp only [List.map] <;> exact rfl); exact rfl) | (apply Wp.exit; dsimp only [sQ, tQ, bQ]; simp only [reduceIte]) | (apply Run.gtrue; (simp only [push_cast, seval, hz, hy, hA] <;> (try simp (disch := omega) only [wI, wU, wC]) <;> exact rfl); (simp only [push_cast, seval, hz, hy, hA] <;> (try simp (disch := omega) only [wI, wU, wC]) <;> exact rfl)) | (apply Run.gfalse (.bool false); (simp only [push_cast, seval, hz, hy, hA] <;> (try simp (disch := omega) only [wI, wU, wC]) <;> exact rfl); dsimp only [S.put, optG]) | (apply Wp.condT; (simp only [push_cast, seval, hz, hy, hA] <;> (try simp (disch := omega) only [wI, wU, wC]) <;> exact rfl)) | (apply Wp.condF; (simp only [push_cast, seval, hz, hy, hA] <;> (try simp (disch := omega) only [wI, wU, wC]) <;> exact rfl)))
        (apply Run.pureP; (simp only [push_cast, seval, hz, hy, hA] <;> (try simp (disch := omega) only [wI, wU, wC]) <;> exact rfl); (exact (Enters.of Try.func50 rfl rfl)); (exact hpk); (focus (simp only [push_cast, seval, hz, hy, hA] <;> first | trivial | assumption | (refine ⟨?_, ?_⟩ <;> assumption) | (simp; done))); (try dsimp only [putA, optG]))
        repeat (first | apply Wp.seq | apply Wp.block | (apply Run.next; (simp only [push_cast, seval, hz, hy, hA] <;> (try simp (disch := omega) only [wI, wU, wC]) <;> exact rfl); (focus ((try simp only [push_cast, seval, hz, hy, hA]) <;> exact sT))) | ((first | apply Run.nil | apply Wp.skip); dsimp only [sQ, tQ, bQ]) | (apply Wp.run; (dsimp only [List.map] <;> exact rfl); exact rfl) | (apply Wp.exit; dsimp only [sQ, tQ, bQ]; simp only [reduceIte]) | (apply Run.gtrue; (simp only [push_cast, seval, hz, hy, hA] <;> (try simp (disch := omega) only [wI, wU, wC]) <;> exact rfl); (simp only [push_cast, seval, hz, hy, hA] <;> (try simp (disch := omega) only [wI, wU, wC]) <;> exact rfl)) | (apply Run.gfalse (.bool false); (simp only [push_cast, seval, hz, hy, hA] <;> (try simp (disch := omega) only [wI, wU, wC]) <;> exact rfl); dsimp only [S.put, optG]) | (apply Wp.condT; (simp only [push_cast, seval, hz, hy, hA] <;> (try simp (disch := omega) only [wI, wU, wC]) <;> exact rfl)) | (apply Wp.condF; (simp only [push_cast, seval, hz, hy, hA] <;> (try simp (disch := omega) only [wI, wU, wC]) <;> exact rfl)))
        (apply Wp.ret; (try dsimp only [sQ, tQ, bQ]); apply leave0; exact rfl; (simp only [push_cast, seval, hz, hy, hA] <;> (try simp (disch := omega) only [wI, wU, wC]) <;> exact rfl); all_goals (try simp only [push_cast, seval, hz, hy, hA]); (try rfl))
      | true =>
        cases hB : decide (s ≤ z) with
        | false =>
          repeat (first | apply Wp.seq | apply Wp.block | (apply Run.next; (simp only [push_cast, seval, hz, hy, hA, hB] <;> (try simp (disch := omega) only [wI, wU, wC]) <;> exact rfl); (focus ((try simp only [push_cast, seval, hz, hy, hA, hB]) <;> exact sT))) | ((first | apply Run.nil | apply Wp.skip); dsimp only [sQ, tQ, bQ]) | (apply Wp.run; (dsimp only [List.map] <;> exact rfl); exact rfl) | (apply Wp.exit; dsimp only [sQ, tQ, bQ]; simp only [reduceIte]) | (apply Run.gtrue; (simp only [push_cast, seval, hz, hy, hA, hB] <;> (try simp (disch := omega) only [wI, wU, wC]) <;> exact rfl); (simp only [push_cast, seval, hz, hy, hA, hB] <;> (try simp (disch := omega) only [wI, wU, wC]) <;> exact rfl)) | (apply Run.gfalse (.bool false); (simp only [push_cast, seval, hz, hy, hA, hB] <;> (try simp (disch := omega) only [wI, wU, wC]) <;> exact rfl); dsimp only [S.put, optG]) | (apply Wp.condT; (simp only [push_cast, seval, hz, hy, hA, hB] <;> (try simp (disch := omega) only [wI, wU, wC]) <;> exact rfl)) | (apply Wp.condF; (simp only [push_cast, seval, hz, hy, hA, hB] <;> (try simp (disch := omega) only [wI, wU, wC]) <;> exact rfl)))
          (apply Run.pureP; (simp only [push_cast, seval, hz, hy, hA, hB] <;> (try simp (disch := omega) only [wI, wU, wC]) <;> exact rfl); (exact (Enters.of Try.func50 rfl rfl)); (exact hpk); (focus (simp only [push_cast, seval, hz, hy, hA, hB] <;> first | trivial | assumption | (refine ⟨?_, ?_⟩ <;> assumption) | (simp; done))); (try dsimp only [putA, optG]))
          repeat (first | apply Wp.seq | apply Wp.block | (apply Run.next; (simp only [push_cast, seval, hz, hy, hA, hB] <;> (try simp (disch := omega) only [wI, wU, wC]) <;> exact rfl); (focus ((try simp only [push_cast, seval, hz, hy, hA, hB]) <;> exact sT))) | ((first | apply Run.nil | apply Wp.skip); dsimp only [sQ, tQ, bQ]) | (apply Wp.run; (dsimp only [List.map] <;> exact rfl); exact rfl) | (apply Wp.exit; dsimp only [sQ, tQ, bQ]; simp only [reduceIte]) | (apply Run.gtrue; (simp only [push_cast, seval, hz, hy, hA, hB] <;> (try simp (disch := omega) only [wI, wU, wC]) <;> exact rfl); (simp only [push_cast, seval, hz, hy, hA, hB] <;> (try simp (disch := omega) only [wI, wU, wC]) <;> exact rfl)) | (apply Run.gfalse (.bool false); (simp only [push_cast, seval, hz, hy, hA, hB] <;> (try simp (disch := omega) only [wI, wU, wC]) <;> exact rfl); dsimp only [S.put, optG]) | (apply Wp.condT; (simp only [push_cast, seval, hz, hy, hA, hB] <;> (try simp (disch := omega) only [wI, wU, wC]) <;> exact rfl)) | (apply Wp.condF; (simp only [push_cast, seval, hz, hy, hA, hB] <;> (try simp (disch := omega) only [wI, wU, wC]) <;> exact rfl)))
          (apply Wp.ret; (try dsimp only [sQ, tQ, bQ]); apply leave0; exact rfl; (simp only [push_cast, seval, hz, hy, hA, hB] <;> (try simp (disch := omega) only [wI, wU, wC]) <;> exact rfl); all_goals (try simp only [push_cast, seval, hz, hy, hA, hB]); (try rfl))
        | true =>
          have hfe := hfs e5
          generalize srch (fun _ => items.toNat) (okK ls y.life L) L.length [] = sr at hfe
          repeat (first | apply Wp.seq | apply Wp.block | (apply Run.next; (simp only [push_cast, seval, hz, hy, hA, hB] <;> (try simp (disch := omega) only [wI, wU, wC]) <;> exact rfl); (focus ((try simp only [push_cast, seval, hz, hy, hA, hB]) <;> exact sT))) | ((first | apply Run.nil | apply Wp.skip); dsimp only [sQ, tQ, bQ]) | (apply Wp.run; (dsimp only [List.map] <;> exact rfl); exact rfl) | (apply Wp.exit; dsimp only [sQ, tQ, bQ]; simp only [reduceIte]) | (apply Run.gtrue; (simp only [push_cast, seval, hz, hy, hA, hB] <;> (try simp (disch := omega) only [wI, wU, wC]) <;> exact rfl); (simp only [push_cast, seval, hz, hy, hA, hB] <;> (try simp (disch := omega) only [wI, wU, wC]) <;> exact rfl)) | (apply Run.gfalse (.bool false); (simp only [push_cast, seval, hz, hy, hA, hB] <;> (try simp (disch := omega) only [wI, wU, wC]) <;> exact rfl); dsimp only [S.put, optG]) | (apply Wp.condT; (simp only [push_cast, seval, hz, hy, hA, hB] <;> (try simp (disch := omega) only [wI, wU, wC]) <;> exact rfl)) | (apply Wp.condF; (simp only [push_cast, seval, hz, hy, hA, hB] <;> (try simp (disch := omega) only [wI, wU, wC]) <;> exact rfl)))
          (apply Run.pureP; (simp only [push_cast, seval, hz, hy, hA, hB] <;> (try simp (disch := omega) only [wI, wU, wC]) <;> exact rfl); (exact (Enters.of Try.func50 rfl rfl)); (exact hpk); (focus (simp only [push_cast, seval, hz, hy, hA, hB] <;> first | trivial | assumption | (refine ⟨?_, ?_⟩ <;> assumption) | (simp; done))); (try dsimp only [putA, optG]))
          repeat (first | apply Wp.seq | apply Wp.block | (apply Run.next; (simp only [push_cast, seval, hz, hy, hA, hB] <;> (try simp (disch := omega) only [wI, wU, wC]) <;> exact rfl); (focus ((try simp only [push_cast, seval, hz, hy, hA, hB]) <;> exact sT))) | ((first | apply Run.nil | apply Wp.skip); dsimp only [sQ, tQ, bQ]) | (apply Wp.run; (dsimp only [List.map] <;> exact rfl); exact rfl) | (apply Wp.exit; dsimp only [sQ, tQ, bQ]; simp only [reduceIte]) | (apply Run.gtrue; (simp only [push_cast, seval, hz, hy, hA, hB] <;> (try simp (disch := omega) only [wI, wU, wC]) <;> exact rfl); (simp only [push_cast, seval, hz, hy, hA, hB] <;> (try simp (disch := omega) only [wI, wU, wC]) <;> exact rfl)) | (apply Run.gfalse (.bool false); (simp only [push_cast, seval, hz, hy, hA, hB] <;> (try simp (disch := omega) only [wI, wU, wC]) <;> exact rfl); dsimp only [S.put, optG]) | (apply Wp.condT; (simp only [push_cast, seval, hz, hy, hA, hB] <;> (try simp (disch := omega) only [wI, wU, wC]) <;> exact rfl)) | (apply Wp.condF; (simp only [push_cast, seval, hz, hy, hA, hB] <;> (try simp (disch := omega) only [wI, wU, wC]) <;> exact rfl)))
          apply Run.spec (he := Enters.of Try.func58 rfl rfl) (hc := hfe)
          focus exact rfl
          focus (simp only [push_cast, seval, hz, hy, hA, hB] <;> exact rfl)
          focus (simp only [push_cast, seval, hz, hy, hA, hB] <;> (try simp (disch := omega) only [wI, wU, wC]) <;> exact rfl)
          rintro x' m' ⟨v2, U2, ⟨J, h1, rfl, h2, rfl⟩ | ⟨h1, rfl, h2, rfl⟩⟩
          · subst h1
            dsimp only [S.put, optG]
            repeat (first | apply Wp.seq | apply Wp.block | (apply Run.next; (simp only [push_cast, seval, hz, hy, hA, hB] <;> (try simp (disch := omega) only [wI, wU, wC]) <;> exact rfl); (focus ((try simp only [push_cast, seval, hz, hy, hA, hB]) <;> exact sT))) | ((first | apply Run.nil | apply Wp.skip); dsimp only [sQ, tQ, bQ]) | (apply Wp.run; (dsimp only [List.map] <;> exact rfl); exact rfl) | (apply Wp.exit; dsimp only [sQ, tQ, bQ]; simp only [reduceIte]) | (apply Run.gtrue; (simp only [push_cast, seval, hz, hy, hA, hB] <;> (try simp (disch := omega) only [wI, wU, wC]) <;> exact rfl); (simp only [push_cast, seval, hz, hy, hA, hB] <;> (try simp (disch := omega) only [wI, wU, wC]) <;> exact rfl)) | (apply Run.gfalse (.bool false); (simp only [push_cast, seval, hz, hy, hA, hB] <;> (try simp (disch := omega) only [wI, wU, wC]) <;> exact rfl); dsimp only [S.put, optG]) | (apply Wp.condT; (simp only [push_cast, seval, hz, hy, hA, hB] <;> (try simp (disch := omega) only [wI, wU, wC]) <;> exact rfl)) | (apply Wp.condF; (simp only [push_cast, seval, hz, hy, hA, hB] <;> (try simp (disch := omega) only [wI, wU, wC]) <;> exact rfl)))
            (apply Wp.ret; (try dsimp only [sQ, tQ, bQ]); apply leave0; exact rfl; (simp only [push_cast, seval, hz, hy, hA, hB] <;> (try simp (disch := omega) only [wI, wU, wC]) <;> exact rfl); all_goals (try simp only [push_cast, seval, hz, hy, hA, hB]); (try rfl))
          · subst h1
            dsimp only [S.put, optG]
            repeat (first | apply Wp.seq | apply Wp.block | (apply Run.next; (simp only [push_cast, seval, hz, hy, hA, hB] <;> (try simp (disch := omega) only [wI, wU, wC]) <;> exact rfl); (focus ((try simp only [push_cast, seval, hz, hy, hA, hB]) <;> exact sT))) | ((first | apply Run.nil | apply Wp.skip); dsimp only [sQ, tQ, bQ]) | (apply Wp.run; (dsimp only [List.map] <;> exact rfl); exact rfl) | (apply Wp.exit; dsimp only [sQ, tQ, bQ]; simp only [reduceIte]) | (apply Run.gtrue; (simp only [push_cast, seval, hz, hy, hA, hB] <;> (try simp (disch := omega) only [wI, wU, wC]) <;> exact rfl); (simp only [push_cast, seval, hz, hy, hA, hB] <;> (try simp (disch := omega) only [wI, wU, wC]) <;> exact rfl)) | (apply Run.gfalse (.bool false); (simp only [push_cast, seval, hz, hy, hA, hB] <;> (try simp (disch := omega) only [wI, wU, wC]) <;> exact rfl); dsimp only [S.put, optG]) | (apply Wp.condT; (simp only [push_cast, seval, hz, hy, hA, hB] <;> (try simp (disch := omega) only [wI, wU, wC]) <;> exact rfl)) | (apply Wp.condF; (simp only [push_cast, seval, hz, hy, hA, hB] <;> (try simp (disch := omega) only [wI, wU, wC]) <;> exact rfl)))
            (apply Wp.ret; (try dsimp only [sQ, tQ, bQ]); apply leave0; exact rfl; (simp only [push_cast, seval, hz, hy, hA, hB] <;> (try simp (disch := omega) only [wI, wU, wC]) <;> exact rfl); all_goals (try simp only [push_cast, seval, hz, hy, hA, hB]); (try rfl))
end Go.Proofs.Try
set_option maxHeartbeats 8000000
namespace Go.Proofs.Try
open Go.Vg

/-! how many items are needed -/
theorem cntN_congr {p q : Nat → Bool} : ∀ {n : Nat}, (∀ k, k < n → p k = q k) → cntN p n = cntN q n
  | 0, _ => rfl
  | n + 1, h => by simp only [cntN, cntN_congr (n := n) (fun k hk => h k (by omega)), h n (by omega)]
theorem cnt_loanP (ls : List Ln) (kind t : Int) : ∀ n, cntN (fun k => atB ls kind t ((loanP ls kind n).getD k 0).toNat) (loanP ls kind n).length = cntN (atB ls kind t) n
  | 0 => rfl
  | n + 1 => by
    have ih := cnt_loanP ls kind t n
    rw [loanP_succ]
    by_cases h : decide ((ls.getD n ln0).kind = kind) = true
    · rw [if_pos h, List.length_append, List.length_cons, List.length_nil, Nat.zero_add]
      have e0 : ((loanP ls kind n ++ [(n : Int)]).getD (loanP ls kind n).length 0).toNat = n := by rw [getD_last, Int.toNat_natCast]
      simp only [cntN, e0]
      have e := cntN_congr (p := fun k => atB ls kind t ((loanP ls kind n ++ [(n : Int)]).getD k 0).toNat) (q := fun k => atB ls kind t ((loanP ls kind n).getD k 0).toNat) (n := (loanP ls kind n).length) (fun k hk => by rw [getD_left hk])
      rw [e, ih]
    · rw [if_neg h, ih]
      have : atB ls kind t n = false := by unfold atB; rw [show decide ((ls.getD n ln0).kind = kind) = false by simpa using h]; rfl
      simp only [cntN]
      rw [this]; rfl
theorem atB_ov {ls : List Ln} {kind t : Int} {a b : Nat} (ha : atB ls kind t a = true) (hb : atB ls kind t b = true) : ovB (ls.getD a ln0) (ls.getD b ln0) = true := by
  unfold atB at ha hb
  rw [Bool.and_eq_true, decide_eq_true_eq, wi_iff] at ha hb
  unfold ovB
  rw [Bool.and_eq_true, Bool.and_eq_true, decide_eq_true_eq, decide_eq_true_eq, decide_eq_true_eq]
  omega
theorem ex_iff {ls : List Ln} {life kind : Int} {n : Nat} : exB ls life kind n = true ↔ ∃ J : List Int, J.length = (loanP ls kind ls.length).length ∧ RtF (fun _ => n) (okK ls life (loanP ls kind ls.length)) 0 J := by
  unfold exB
  rw [srch_isSome]
  constructor
  · rintro ⟨J, h1, h2, h3⟩; exact ⟨J, by simpa using h1, h3⟩
  · rintro ⟨J, h1, h2⟩; exact ⟨J, by simpa using h1, by simp, h2⟩
theorem ex_peak {ls : List Ln} {life kind : Int} {n : Nat} (h : exB ls life kind n = true) : pkP ls kind ls.length ≤ n := by
  obtain ⟨J, h1, h2⟩ := ex_iff.1 h
  have hc : ∀ t, pkC ls kind t ls.length ≤ n := fun t => by
    have := right_peak h2 (p := fun k => atB ls kind t ((loanP ls kind ls.length).getD k 0).toNat) (fun i k _ hi hk => atB_ov hi hk)
    rw [h1, cnt_loanP] at this
    unfold pkC; omega
  have : ∀ i, pkP ls kind i ≤ n := by
    intro i
    induction i with
    | zero => simp [pkP]
    | succ i ih =>
      have := hc (ls.getD i ln0).fr
      simp only [pkP]; split <;> omega
  exact this _
theorem ex_uses {ls : List Ln} {life kind : Int} (h0 : 0 ≤ life) {n : Nat} (h : exB ls life kind n = true) : sumN (uL ls (loanP ls kind ls.length)) (loanP ls kind ls.length).length ≤ (n : Int) * life := by
  obtain ⟨J, h1, h2⟩ := ex_iff.1 h
  have := right_sum h0 h2
  rw [h1] at this; exact this
theorem psV_ex {ks : List St} {ls : List Ln} (hv : SV ks ls) {kind items : Int} (hk : 0 ≤ kind ∧ kind < ks.length) (hi : 0 ≤ items) : psV ks ls kind items = exB ls (ks.getD kind.toNat st0).life kind items.toNat := by
  have hst := hv.st kind.toNat (by omega)
  unfold psV
  cases h : exB ls (ks.getD kind.toNat st0).life kind items.toNat with
  | false => simp
  | true =>
    have h1 := ex_peak h
    have h2 := ex_uses (by omega) h
    rw [Int.toNat_of_nonneg hi] at h1 h2
    rw [decide_eq_true h1, decide_eq_true h2]; rfl
end Go.Proofs.Try
set_option maxHeartbeats 8000000
namespace Go.Proofs.Try
open Go.Vg

/-! a plan is right if it is right kind by kind -/
def cS (ks : List St) (ls : List Ln) (i : Nat) : Nat := (ks.getD (ls.getD i ln0).kind.toNat st0).items.toNat
def okS (ks : List St) (ls : List Ln) (p : List Int) : Bool := !wrongB ks ls p (p.length - 1)
/-- the items of some loans -/
def pick (L J : List Int) : List Int := L.map fun i => J.getD i.toNat 0
theorem pick_len (L J : List Int) : (pick L J).length = L.length := by simp [pick]
theorem pick_get {L J : List Int} {q : Nat} (h : q < L.length) : (pick L J).getD q 0 = J.getD (L.getD q 0).toNat 0 := by simp [pick, h]
theorem loanP_mono (ls : List Ln) (kind : Int) {n : Nat} : ∀ {N : Nat}, n ≤ N → ∃ R, loanP ls kind N = loanP ls kind n ++ R
  | 0, h => by obtain rfl : n = 0 := by omega
               exact ⟨[], by simp⟩
  | N + 1, h => by
    by_cases hn : n = N + 1
    · subst hn; exact ⟨[], by simp⟩
    · obtain ⟨R, hR⟩ := loanP_mono ls kind (n := n) (N := N) (by omega)
      rw [loanP_succ]
      split
      · exact ⟨R ++ [(N : Int)], by rw [hR, List.append_assoc]⟩
      · exact ⟨R, hR⟩
/-- the place of a loan among those of its kind -/
def plc (ls : List Ln) (kind : Int) (n : Nat) : Nat := (loanP ls kind n).length
theorem plc_succ (ls : List Ln) (kind : Int) (n : Nat) : plc ls kind (n + 1) = if (ls.getD n ln0).kind = kind then plc ls kind n + 1 else plc ls kind n := by
  unfold plc; rw [loanP_succ]
  by_cases h : (ls.getD n ln0).kind = kind
  · rw [if_pos (decide_eq_true h), if_pos h, List.length_append]; rfl
  · rw [if_neg (by rw [decide_eq_false h]; simp), if_neg h]
theorem loanP_at {ls : List Ln} {kind : Int} {n N : Nat} (h : n < N) (hk : (ls.getD n ln0).kind = kind) : plc ls kind n < (loanP ls kind N).length ∧ (loanP ls kind N).getD (plc ls kind n) 0 = (n : Int) := by
  obtain ⟨R, hR⟩ := loanP_mono ls kind (n := n + 1) (N := N) (by omega)
  have h1 : loanP ls kind (n + 1) = loanP ls kind n ++ [(n : Int)] := by rw [loanP_succ, if_pos (decide_eq_true hk)]
  rw [hR, h1]
  refine ⟨by simp [plc], ?_⟩
  rw [List.append_assoc]
  simp [plc]
theorem plc_at {ls : List Ln} {kind : Int} {N q : Nat} (h : q < (loanP ls kind N).length) : ∃ n : Nat, n < N ∧ (ls.getD n ln0).kind = kind ∧ (loanP ls kind N).getD q 0 = (n : Int) ∧ plc ls kind n = q := by
  induction N with
  | zero => simp [loanP] at h
  | succ N ih =>
    rw [loanP_succ] at h ⊢
    split at h
    · rename_i hk
      rw [if_pos hk]
      rw [List.length_append, List.length_singleton] at h
      by_cases hq : q < (loanP ls kind N).length
      · obtain ⟨n, h1, h2, h3, h4⟩ := ih hq
        exact ⟨n, by omega, h2, by rw [getD_left hq]; exact h3, h4⟩
      · obtain rfl : q = (loanP ls kind N).length := by omega
        exact ⟨N, by omega, of_decide_eq_true hk, by rw [getD_last], rfl⟩
    · rename_i hk
      rw [if_neg hk]
      obtain ⟨n, h1, h2, h3, h4⟩ := ih h
      exact ⟨n, by omega, h2, h3, h4⟩
section
variable {ks : List St} {ls : List Ln} {kind : Int}
theorem mate_iff {J : List Int} {i n : Nat} (hk : (ls.getD i ln0).kind = kind) : mateB ls J i n = true ↔ (ls.getD n ln0).kind = kind ∧ J.getD n 0 = J.getD i 0 := by
  unfold mateB; rw [Bool.and_eq_true, decide_eq_true_eq, decide_eq_true_eq, hk]
theorem sum_kind {J : List Int} {i : Nat} (hk : (ls.getD i ln0).kind = kind) : ∀ n, n ≤ ls.length → sumU ls J i n = sW (uL ls (loanP ls kind ls.length)) (pick (loanP ls kind ls.length) J) (J.getD i 0) (plc ls kind n)
  | 0, _ => rfl
  | n + 1, hn => by
    have ih := sum_kind (J := J) hk n (by omega)
    rw [plc_succ]
    simp only [sumU]
    by_cases h : (ls.getD n ln0).kind = kind
    · obtain ⟨h1, h2⟩ := loanP_at (N := ls.length) (by omega) h
      rw [if_pos h]
      simp only [sW]
      rw [pick_get h1, h2, Int.toNat_natCast]
      have hu : uL ls (loanP ls kind ls.length) (plc ls kind n) = (ls.getD n ln0).uses := by unfold uL; rw [h2, Int.toNat_natCast]
      by_cases h3 : J.getD n 0 = J.getD i 0
      · rw [if_pos ((mate_iff hk).2 ⟨h, h3⟩), if_pos h3, ih, hu]
      · rw [if_neg (fun hm => h3 ((mate_iff hk).1 hm).2), if_neg h3, ih]
    · rw [if_neg h, if_neg (fun hm => h ((mate_iff hk).1 hm).1), ih]
theorem clash_kind {J : List Int} {i : Nat} (hi : i < ls.length) (hk : (ls.getD i ln0).kind = kind) : ∀ n, n ≤ ls.length → clashB ls J i n = (lnI (pick (loanP ls kind ls.length) J) (J.getD i 0) (plc ls kind n)).any fun a => oL ls (loanP ls kind ls.length) a (plc ls kind i)
  | 0, _ => rfl
  | n + 1, hn => by
    have ih := clash_kind (J := J) hi hk n (by omega)
    rw [plc_succ]
    simp only [clashB]
    by_cases h : (ls.getD n ln0).kind = kind
    · obtain ⟨h1, h2⟩ := loanP_at (N := ls.length) (by omega) h
      obtain ⟨h4, h5⟩ := loanP_at (N := ls.length) hi hk
      rw [if_pos h, lnI_succ, pick_get h1, h2, Int.toNat_natCast]
      have ho : oL ls (loanP ls kind ls.length) (plc ls kind n) (plc ls kind i) = ovB (ls.getD n ln0) (ls.getD i ln0) := by unfold oL; rw [h2, h5, Int.toNat_natCast, Int.toNat_natCast]
      by_cases h3 : J.getD n 0 = J.getD i 0
      · rw [if_pos h3, List.any_append, ih, (mate_iff hk).2 ⟨h, h3⟩]
        simp [ho]
      · rw [if_neg h3, ih, show mateB ls J i n = false by rw [← Bool.not_eq_true]; exact fun hm => h3 ((mate_iff hk).1 hm).2]
        simp
    · rw [if_neg h, ih, show mateB ls J i n = false by rw [← Bool.not_eq_true]; exact fun hm => h ((mate_iff hk).1 hm).1]
      simp
theorem ok_take {J : List Int} {i : Nat} (hi : i < J.length) : okS ks ls (J.take (i + 1)) = !wrongB ks ls J i := by
  unfold okS
  rw [List.length_take, Nat.min_eq_left (by omega), Nat.add_sub_cancel, wrongB_take]
theorem okU_take {u : Nat → Int} {o : Nat → Nat → Bool} {life : Int} {J : List Int} {k : Nat} (h : k < J.length) : okU u o life (J.take (k + 1)) = (decide (sW u J (J.getD k 0) k + u k ≤ life) && !(lnI J (J.getD k 0) k).any fun i => o i k) := by
  have hl : (J.take k).length = k := by rw [List.length_take, Nat.min_eq_left (by omega)]
  have h1 := sW_left u (J.take k) (J.drop k) (J.getD k 0) (n := k) (by omega)
  have h2 := lnI_left (J.take k) (J.drop k) (J.getD k 0) (n := k) (by omega)
  rw [List.take_append_drop] at h1 h2
  rw [take_succ_getD h, okU_snoc, hl, h1, h2]
theorem ok_kind {J : List Int} (hJ : J.length = ls.length) {i : Nat} (hi : i < ls.length) (hk : (ls.getD i ln0).kind = kind) (h0 : 0 ≤ J.getD i 0) : okS ks ls (J.take (i + 1)) = okK ls (ks.getD kind.toNat st0).life (loanP ls kind ls.length) ((pick (loanP ls kind ls.length) J).take (plc ls kind i + 1)) := by
  obtain ⟨h1, h2⟩ := loanP_at (N := ls.length) hi hk
  rw [ok_take (by omega)]
  unfold okK
  rw [okU_take (by rw [pick_len]; exact h1), pick_get h1, h2, Int.toNat_natCast]
  unfold wrongB
  rw [decide_eq_false (show ¬ J.getD i 0 < 0 by omega), clash_kind hi hk i (by omega), sum_kind hk i (by omega), hk, Bool.false_or, Bool.not_or, Bool.and_comm]
  have hu : uL ls (loanP ls kind ls.length) (plc ls kind i) = (ls.getD i ln0).uses := by unfold uL; rw [h2, Int.toNat_natCast]
  rw [hu]
  congr 1
  rw [Bool.eq_iff_iff]
  simp only [Bool.not_eq_true', decide_eq_true_eq, decide_eq_false_iff_not]
  omega
end
/-- right in all kinds, and right -/
theorem right_kinds {ks : List St} {ls : List Ln} (hv : SV ks ls) {J : List Int} (hJ : J.length = ls.length) : RtF (cS ks ls) (okS ks ls) 0 J ↔ ∀ k : Nat, k < ks.length → RtF (fun _ => (ks.getD k st0).items.toNat) (okK ls (ks.getD k st0).life (loanP ls (k : Int) ls.length)) 0 (pick (loanP ls (k : Int) ls.length) J) := by
  constructor
  · intro h k hk q _ hq
    rw [pick_len] at hq
    obtain ⟨n, h1, h2, h3, h4⟩ := plc_at hq
    obtain ⟨j, h5, h6, h7⟩ := h n (by omega) (by omega)
    have hok := ok_kind (ks := ks) hJ h1 h2 (by omega)
    rw [Int.toNat_natCast] at hok
    refine ⟨j, ?_, by rw [pick_get hq, h3, Int.toNat_natCast]; exact h6, ?_⟩
    · unfold cS at h5; rw [h2, Int.toNat_natCast] at h5; exact h5
    · rw [← h4, ← hok]; exact h7
  · intro h i _ hi
    have hi : i < ls.length := by omega
    have hki := (hv.ln i hi).1
    obtain ⟨k, hk⟩ : ∃ k : Nat, (ls.getD i ln0).kind = (k : Int) := ⟨(ls.getD i ln0).kind.toNat, by omega⟩
    obtain ⟨h1, h2⟩ := loanP_at (N := ls.length) hi hk
    obtain ⟨j, h5, h6, h7⟩ := h k (by omega) (plc ls (k : Int) i) (by omega) (by rw [pick_len]; exact h1)
    rw [pick_get h1, h2, Int.toNat_natCast] at h6
    have hok := ok_kind (ks := ks) hJ hi hk (by omega)
    rw [Int.toNat_natCast] at hok
    refine ⟨j, ?_, h6, ?_⟩
    · unfold cS; rw [hk, Int.toNat_natCast]; exact h5
    · rw [hok]; exact h7
/-- what each kind says, put together -/
def glue (ls : List Ln) (f : Nat → List Int) (n : Nat) : List Int := (List.range n).map fun i => (f (ls.getD i ln0).kind.toNat).getD (plc ls (ls.getD i ln0).kind i) 0
theorem glue_len (ls : List Ln) (f : Nat → List Int) (n : Nat) : (glue ls f n).length = n := by simp [glue]
theorem glue_get {ls : List Ln} {f : Nat → List Int} {n i : Nat} (h : i < n) : (glue ls f n).getD i 0 = (f (ls.getD i ln0).kind.toNat).getD (plc ls (ls.getD i ln0).kind i) 0 := by simp [glue, h]
theorem pick_glue {ls : List Ln} {f : Nat → List Int} {k : Nat} (hf : (f k).length = (loanP ls (k : Int) ls.length).length) : pick (loanP ls (k : Int) ls.length) (glue ls f ls.length) = f k := by
  apply List.ext_getElem (by rw [pick_len, hf])
  intro q h1 h2
  rw [pick_len] at h1
  have e1 := pick_get (J := glue ls f ls.length) h1
  obtain ⟨n, h3, h4, h5, h6⟩ := plc_at h1
  rw [h5, Int.toNat_natCast, glue_get h3, h4, Int.toNat_natCast, h6] at e1
  simpa [List.getD_eq_getElem?_getD, h1, h2, pick_len] using e1
theorem pick_ext {ls : List Ln} {J J' : List Int} {k : Int} {q : Nat} (hq : q < (loanP ls k ls.length).length) {n : Nat} (hn : plc ls k n = q) (h : J.take n = J'.take n) : (pick (loanP ls k ls.length) J).take q = (pick (loanP ls k ls.length) J').take q := by
  have hl : ((loanP ls k ls.length).take q).length = q := by rw [List.length_take]; omega
  unfold pick
  rw [← List.map_take, ← List.map_take]
  apply List.map_congr_left
  intro x hx
  have hm : x ∈ loanP ls k n := by
    rcases Nat.le_total n ls.length with hnl | hnl
    · obtain ⟨R, hR⟩ := loanP_mono ls k hnl
      rw [hR, ← hn, plc, List.take_left'] at hx
      · exact hx
      · rfl
    · obtain ⟨R, hR⟩ := loanP_mono ls k hnl
      rw [hR]; exact List.mem_append_left _ (List.mem_of_mem_take hx)
  obtain ⟨i, rfl, hi, _⟩ := loanP_mem x hm
  rw [Int.toNat_natCast]
  have := congrArg (fun l => l.getD i 0) h
  simpa [List.getD_eq_getElem?_getD, List.getElem?_take, hi] using this
theorem getD_ext {J J' : List Int} (hl : J.length = J'.length) (h : ∀ i, i < J.length → J.getD i 0 = J'.getD i 0) : J = J' := by
  apply List.ext_getElem hl
  intro i h1 h2
  have := h i h1
  simpa [List.getD_eq_getElem?_getD, h1, h2] using this
theorem take_ext {J J' : List Int} {n : Nat} (hl : J.length = J'.length) (h : ∀ i, i < n → J.getD i 0 = J'.getD i 0) : J.take n = J'.take n := by
  apply getD_ext (by simp [hl])
  intro i hi
  have : i < n := by rw [List.length_take] at hi; omega
  have := h i this
  simp only [List.getD_eq_getElem?_getD, List.getElem?_take, *, if_true] at *
  exact this
/-- two lists of the same length: the first place where they differ -/
theorem first_diff : ∀ {n : Nat} (J J' : List Int), J.length = n → J'.length = n → J = J' ∨ ∃ i, i < n ∧ J.take i = J'.take i ∧ J.getD i 0 ≠ J'.getD i 0 := by
  intro n J J' h h'
  by_cases he : ∃ i, i < n ∧ J.getD i 0 ≠ J'.getD i 0
  · right
    have : ∀ m, (∃ i, i < m ∧ i < n ∧ J.getD i 0 ≠ J'.getD i 0) → ∃ i, i < n ∧ (∀ j, j < i → J.getD j 0 = J'.getD j 0) ∧ J.getD i 0 ≠ J'.getD i 0 := by
      intro m
      induction m with
      | zero => rintro ⟨i, h1, _⟩; omega
      | succ m ih =>
        rintro ⟨i, h1, h2, h3⟩
        by_cases hx : ∃ i, i < m ∧ i < n ∧ J.getD i 0 ≠ J'.getD i 0
        · exact ih hx
        · obtain rfl : i = m := by
            apply Classical.byContradiction
            intro hne; exact hx ⟨i, by omega, h2, h3⟩
          refine ⟨i, h2, fun j hj => ?_, h3⟩
          apply Classical.byContradiction
          intro hne; exact hx ⟨j, hj, by omega, hne⟩
    obtain ⟨i, h1, h2⟩ := he
    obtain ⟨i, h3, h4, h5⟩ := this n ⟨i, h1, h1, h2⟩
    exact ⟨i, h3, take_ext (by omega) h4, h5⟩
  · left
    apply getD_ext (by omega)
    intro i hi
    apply Classical.byContradiction
    intro hne; exact he ⟨i, by omega, hne⟩
/-- the first plan of all is the first one of each kind -/
theorem glue_first {ks : List St} {ls : List Ln} (hv : SV ks ls) {f : Nat → List Int} (h : ∀ k, k < ks.length → srch (fun _ => (ks.getD k st0).items.toNat) (okK ls (ks.getD k st0).life (loanP ls (k : Int) ls.length)) (loanP ls (k : Int) ls.length).length [] = some (f k)) : srch (cS ks ls) (okS ks ls) ls.length [] = some (glue ls f ls.length) := by
  have hfl : ∀ k, k < ks.length → (f k).length = (loanP ls (k : Int) ls.length).length := fun k hk => by have := (srch_some (h k hk)).1.1; simpa using this
  have hgl := glue_len ls f ls.length
  refine srch_eq ⟨by simp [hgl], by simp, (right_kinds hv hgl).2 fun k hk => ?_⟩ ?_
  · rw [pick_glue (hfl k hk)]
    exact (srch_some (h k hk)).1.2.2
  · rintro J ⟨h1, h2, h3⟩
    have h1 : J.length = ls.length := by simpa using h1
    rcases first_diff (n := ls.length) (glue ls f ls.length) J hgl h1 with he | ⟨i, h4, h5, h6⟩
    · exact .inl he
    · right
      refine ⟨i, by rw [hgl]; exact h4, h5, ?_⟩
      have hki := (hv.ln i h4).1
      obtain ⟨k, hk⟩ : ∃ k : Nat, (ls.getD i ln0).kind = (k : Int) := ⟨(ls.getD i ln0).kind.toNat, by omega⟩
      have hkk : k < ks.length := by omega
      obtain ⟨g1, g2⟩ := loanP_at (N := ls.length) h4 hk
      have hpg := pick_glue (hfl k hkk)
      have hsm := (srch_some (h k hkk)).2 (pick (loanP ls (k : Int) ls.length) J) ⟨by simp [pick_len], by simp, (right_kinds hv h1).1 h3 k hkk⟩
      have hpe := pick_ext g1 rfl h5
      rw [hpg] at hpe
      have hgi : (f k).getD (plc ls (k : Int) i) 0 = (glue ls f ls.length).getD i 0 := by rw [glue_get h4, hk, Int.toNat_natCast]
      have hpi : (pick (loanP ls (k : Int) ls.length) J).getD (plc ls (k : Int) i) 0 = J.getD i 0 := by rw [pick_get g1, g2, Int.toNat_natCast]
      rcases hsm with e | ⟨a, a1, a2, a3⟩
      · rw [e] at hgi; rw [hgi] at hpi; exact absurd hpi h6
      · have hg : ∀ {A B : List Int} {n m : Nat}, A.take n = B.take n → m < n → A.getD m 0 = B.getD m 0 := by
          intro A B n m e hm
          have := congrArg (fun l => l.getD m 0) e
          simpa [List.getD_eq_getElem?_getD, List.getElem?_take, hm] using this
        rcases Nat.lt_trichotomy a (plc ls (k : Int) i) with h7 | h7 | h7
        · have := hg hpe h7; omega
        · subst h7; omega
        · have := hg a2 h7; omega
end Go.Proofs.Try
set_option maxHeartbeats 8000000
namespace Go.Proofs.Try
open Go.Vg

/-! a store of one kind alone -/
end Go.Proofs.Try
set_option maxHeartbeats 8000000
namespace Go.Proofs.Try
open Go.Vg

/-! the document's list of all right plans -/
end Go.Proofs.Try
set_option maxHeartbeats 8000000
namespace Go.Proofs.Try
open Go.Vg

/-! the document's store of one kind -/
end Go.Proofs.Try
set_option maxHeartbeats 8000000
namespace Go.Proofs.Try
open Go.Vg

/-! how many items the document says are needed -/
end Go.Proofs.Try
