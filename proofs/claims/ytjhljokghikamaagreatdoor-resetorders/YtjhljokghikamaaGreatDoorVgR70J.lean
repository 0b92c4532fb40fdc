/- A part of the proof of ResetOrders: contracts of functions, with plain laws that they need. -/
import Derived.Test.YtjhljokghikamaaGreatDoorVgR34J
set_option linter.all false
set_option maxHeartbeats 16000000
namespace Go.Proofs.Tryz
open Go.Vg
theorem ways_in {r : Rm} (hv : RV r) {k : Nat} (hk : k < r.wy.length) : (0 ≤ (r.wy.getD k wy0).a ∧ (r.wy.getD k wy0).a < r.ps.length) ∧ 0 ≤ (r.wy.getD k wy0).b ∧ (r.wy.getD k wy0).b < r.ps.length := by
 have := hv.wyv (r.wy.getD k wy0) (by rw [show r.wy.getD k wy0 = r.wy[k] by simp [hk]]; exact List.getElem_mem _)
 omega
theorem rep_set (N k : Nat) (h : k < N) : (List.replicate k (-1 : Int) ++ List.replicate (N - k) (0 : Int)).set k (-1) = List.replicate (k + 1) (-1 : Int) ++ List.replicate (N - (k + 1)) (0 : Int) := by
 rw [List.set_append_right _ _ (by simp), List.length_replicate, Nat.sub_self, show N - k = (N - (k + 1)) + 1 by omega, List.replicate_succ, List.set_cons_zero, List.replicate_succ', List.append_assoc]
 rfl
theorem rfar_pure {r : Rm} (hv : RV r) (a : Int) (ha : 0 ≤ a ∧ a < r.ps.length) : Pure Tryz.prog 79 [rmA r, .int a] (.ints (dF r.wy r.ps.length a.toNat)) := by
 have hN := hv.ps
 have hW := hv.wy
 have hin := @ways_in r hv
 unfold rmA
 (refine Spec.bd 0 Tryz.func79 Tryz.results79 Tryz.ntmps79 ?_; simp only [entry, zipArgs, Nat.reduceAdd])
 ((refine x_pre @rmC.eq_1 ?_); (iterate 2 (refine x_nr @rmC.eq_1 ?_)); (refine x_nil @rmC.eq_1 ?_))
 (refine x_fzP @rmC.eq_1 (slq 2) ?_)
 (refine x_go @rmC.eq_1 ?_)
 refine Wp.loop (fun k : Nat => { t := [(1, .int a), (2, .ref (rmC r) 0), (5, .osl 1 0 0 r.ps.length), (6, .int k)], m := [⟨1, .row 8 []⟩, ⟨0, .row 1 ((List.replicate k (-1 : Int) ++ List.replicate (r.ps.length - k) (0 : Int)).map AV.int)⟩], n := 87 }) (fun k => k ≤ r.ps.length) (fun k => r.ps.length - k) 0 ?_ ?_ ?_
 ·(refine Le.of ?_ ?_ rfl rfl <;> (try simp only [push_cast, seval, rmC]) <;> (try (with_reducible rfl)))
  all_goals (first | exact ⟨rfl, rfl⟩ | rfl)
 ·simp
 ·intro k hk1
  have hrl : (List.replicate k (-1 : Int) ++ List.replicate (r.ps.length - k) (0 : Int)).length = r.ps.length := by simp; omega
  have hrs := rep_set r.ps.length k
  (refine x_go (zc @rmC.eq_1 @hrl) ?_)
  (apply Wp.cond; (exact x_ev (zc @rmC.eq_1 @hrl)))
  ·(intro hc; first | replace hc := bT hc | skip)
   (refine x_go (zc @rmC.eq_1 @hrl) ?_)
   refine ⟨k + 1, ?_, by omega, by omega⟩
   rw [← hrs hc]
   (refine Le.of ?_ ?_ rfl rfl <;> (try simp only [push_cast, seval, rmC, hrl]) <;> (try (with_reducible rfl)))
  ·(intro hc; first | replace hc := bT hc | skip)
   obtain rfl : k = r.ps.length := by omega
   have e0 : List.replicate r.ps.length (-1 : Int) ++ List.replicate (r.ps.length - r.ps.length) (0 : Int) = List.replicate r.ps.length (-1 : Int) := by simp
   have e1 : (List.replicate r.ps.length (-1 : Int)).length = r.ps.length := by simp
   simp only [e0]
   clear hrs hrl
   have hst := FR.start (W := r.wy) (N := r.ps.length) (a := a.toNat) (by omega)
   (refine x_go (zc @rmC.eq_1 @e1) ?_)
   (refine Wp.vacs 1 ?_; (try simp only [List.replicate_succ, List.replicate_zero, List.cons_append, List.nil_append]))
   generalize (List.replicate r.ps.length (-1 : Int)).set a.toNat 0 = o0 at *
   refine Wp.loop (fun (q : Nat × List Int × Nat × Kind) => { t := [(1, .int a), (2, .ref (rmC r) 0), (5, .osl 1 0 0 r.ps.length), (7, .int q.1)], m := [⟨1, .row 8 []⟩, ⟨0, .row 1 (q.2.1.map AV.int)⟩, ⟨q.2.2.1, q.2.2.2⟩], n := 87 }) (fun q => 1 ≤ q.1 ∧ q.1 ≤ r.ps.length + 1 ∧ FR r.wy r.ps.length a.toNat q.2.1 q.1 0) (fun q => r.ps.length + 1 - q.1) (1, o0, 0, .row 1 []) ?_ ?_ ?_
   ·(refine Le.of ?_ ?_ rfl rfl <;> (try simp only [push_cast, seval, rmC, e1]) <;> (try (with_reducible rfl)))
    all_goals (first | exact ⟨rfl, rfl⟩ | rfl)
   ·exact ⟨by simp, by simp, hst⟩
   ·clear hst
    rintro ⟨n, o, v, kd⟩ ⟨hn1, hn2, hfr⟩
    simp only at hn1 hn2 hfr
    have hol := hfr.fi.len
    (refine x_go (zc @rmC.eq_1 @hol) ?_)
    (apply Wp.cond; (exact x_ev (zc @rmC.eq_1 @hol)))
    ·intro hc
     have hc : n ≤ r.ps.length := by simp only [decide_eq_true_eq] at hc; omega
     (refine x_go (zc @rmC.eq_1 @hol) ?_)
     refine Wp.loop (fun (q : Nat × List Int × Nat × Kind) => { t := [(1, .int a), (2, .ref (rmC r) 0), (5, .osl 1 0 0 r.ps.length), (7, .int n), (8, .int q.1)], m := [⟨1, .row 8 []⟩, ⟨0, .row 1 (q.2.1.map AV.int)⟩, ⟨q.2.2.1, q.2.2.2⟩], n := 87 }) (fun q => q.1 ≤ r.wy.length ∧ FR r.wy r.ps.length a.toNat q.2.1 n q.1) (fun q => r.wy.length - q.1) (0, o, v, kd) ?_ ?_ ?_
     ·(refine Le.of ?_ ?_ rfl rfl <;> (try simp only [push_cast, seval, rmC, hol]) <;> (try (with_reducible rfl)))
      all_goals (first | exact ⟨rfl, rfl⟩ | rfl)
     ·exact ⟨by simp, hfr⟩
     ·clear hfr hol
      rintro ⟨k, o, v, kd⟩ ⟨hk1, hfr⟩
      simp only at hk1 hfr
      have hol := hfr.fi.len
      (refine x_go (zc @rmC.eq_1 @hol) ?_)
      (apply Wp.cond; (exact x_ev (zc @rmC.eq_1 @hol)))
      ·(intro hc; first | replace hc := bT hc | skip)
       have hx2 := hin hc
       have hfs := hfr.step hc (by unfold aN bN; omega) hn1
       have hgd := fun d => getD_wy (d := d) hc
       unfold rst aN bN ov at hfs
       obtain ⟨x, hx⟩ : ∃ x, r.wy.getD k wy0 = x := ⟨_, rfl⟩
       simp only [hx] at hx2 hfs hgd
       obtain ⟨p, hp⟩ : ∃ p, o.getD x.a.toNat 0 = p := ⟨_, rfl⟩
       obtain ⟨z, hzz⟩ : ∃ z, o.getD x.b.toNat 0 = z := ⟨_, rfl⟩
       simp only [hp, hzz] at hfs
       have dp : ∀ b, decide (p = (n : Int) - 1) = b → decide (p = (n : Int) - 1) = b := fun _ h => h
       by_cases c1 : p = (n : Int) - 1
       ·have d1 : decide (p = (n : Int) - 1) = true := decide_eq_true c1
        by_cases c2 : z < 0
        ·have d2 : decide (z < 0) = true := decide_eq_true c2
         rw [if_pos ⟨c1, c2⟩] at hfs
         (refine x_gs (zc @rmC.eq_1 (zc @hol (zc @hgd (zc @wyA.eq_1 (zc @hp (zc @hzz (zc @d1 @d2))))))) ?_)
         (apply Run.alcAt 2; (exact x_ev (zc @rmC.eq_1 (zc @hol (zc @hgd (zc @wyA.eq_1 (zc @hp (zc @hzz (zc @d1 @d2)))))))); ((try simp only [push_cast, seval, rmC, hol, hgd, wyA, hp, hzz, d1, d2]) <;> exact sT); exact rfl; (try simp only [push_cast, seval, rmC, hol, hgd, wyA, hp, hzz, d1, d2]))
         (refine x_gg (zc @rmC.eq_1 (zc @hol (zc @hgd (zc @wyA.eq_1 (zc @hp (zc @hzz (zc @d1 @d2))))))) ?_)
         refine ⟨(k + 1, o.set x.b.toNat n, v + 1, .row 3 [wyA x]), ?_, ⟨by simp only; omega, hfs⟩, by simp only; omega⟩
         unfold wyA
         (refine Le.of ?_ ?_ rfl rfl <;> (try simp only [push_cast, seval, rmC, hol, hgd, wyA, hp, hzz, d1, d2]) <;> (try (with_reducible rfl)))
        ·have d2 : decide (z < 0) = false := decide_eq_false c2
         rw [if_neg (fun q => c2 q.2)] at hfs
         by_cases c3 : z = (n : Int) - 1
         ·have d3 : decide (z = (n : Int) - 1) = true := decide_eq_true c3
          have d4 : decide (p < 0) = false := decide_eq_false (by omega)
          rw [if_neg (fun q => by omega)] at hfs
          (refine x_gs (zc @rmC.eq_1 (zc @hol (zc @hgd (zc @wyA.eq_1 (zc @hp (zc @hzz (zc @d1 (zc @d2 (zc @d3 @d4))))))))) ?_)
          (apply Run.alcAt 2; (exact x_ev (zc @rmC.eq_1 (zc @hol (zc @hgd (zc @wyA.eq_1 (zc @hp (zc @hzz (zc @d1 (zc @d2 (zc @d3 @d4)))))))))); ((try simp only [push_cast, seval, rmC, hol, hgd, wyA, hp, hzz, d1, d2, d3, d4]) <;> exact sT); exact rfl; (try simp only [push_cast, seval, rmC, hol, hgd, wyA, hp, hzz, d1, d2, d3, d4]))
          (refine x_gg (zc @rmC.eq_1 (zc @hol (zc @hgd (zc @wyA.eq_1 (zc @hp (zc @hzz (zc @d1 (zc @d2 (zc @d3 @d4))))))))) ?_)
          refine ⟨(k + 1, o, v + 1, .row 3 [wyA x]), ?_, ⟨by simp only; omega, hfs⟩, by simp only; omega⟩
          unfold wyA
          (refine Le.of ?_ ?_ rfl rfl <;> (try simp only [push_cast, seval, rmC, hol, hgd, wyA, hp, hzz, d1, d2, d3, d4]) <;> (try (with_reducible rfl)))
         ·have d3 : decide (z = (n : Int) - 1) = false := decide_eq_false c3
          rw [if_neg (fun q => c3 q.1)] at hfs
          (refine x_gs (zc @rmC.eq_1 (zc @hol (zc @hgd (zc @wyA.eq_1 (zc @hp (zc @hzz (zc @d1 (zc @d2 @d3)))))))) ?_)
          (apply Run.alcAt 2; (exact x_ev (zc @rmC.eq_1 (zc @hol (zc @hgd (zc @wyA.eq_1 (zc @hp (zc @hzz (zc @d1 (zc @d2 @d3))))))))); ((try simp only [push_cast, seval, rmC, hol, hgd, wyA, hp, hzz, d1, d2, d3]) <;> exact sT); exact rfl; (try simp only [push_cast, seval, rmC, hol, hgd, wyA, hp, hzz, d1, d2, d3]))
          (refine x_gg (zc @rmC.eq_1 (zc @hol (zc @hgd (zc @wyA.eq_1 (zc @hp (zc @hzz (zc @d1 (zc @d2 @d3)))))))) ?_)
          refine ⟨(k + 1, o, v + 1, .row 3 [wyA x]), ?_, ⟨by simp only; omega, hfs⟩, by simp only; omega⟩
          unfold wyA
          (refine Le.of ?_ ?_ rfl rfl <;> (try simp only [push_cast, seval, rmC, hol, hgd, wyA, hp, hzz, d1, d2, d3]) <;> (try (with_reducible rfl)))
       ·have d1 : decide (p = (n : Int) - 1) = false := decide_eq_false c1
        rw [if_neg (fun q => c1 q.1)] at hfs
        by_cases c3 : z = (n : Int) - 1
        ·have d3 : decide (z = (n : Int) - 1) = true := decide_eq_true c3
         by_cases c4 : p < 0
         ·have d4 : decide (p < 0) = true := decide_eq_true c4
          rw [if_pos ⟨c3, c4⟩] at hfs
          (refine x_gs (zc @rmC.eq_1 (zc @hol (zc @hgd (zc @wyA.eq_1 (zc @hp (zc @hzz (zc @d1 (zc @d3 @d4)))))))) ?_)
          (apply Run.alcAt 2; (exact x_ev (zc @rmC.eq_1 (zc @hol (zc @hgd (zc @wyA.eq_1 (zc @hp (zc @hzz (zc @d1 (zc @d3 @d4))))))))); ((try simp only [push_cast, seval, rmC, hol, hgd, wyA, hp, hzz, d1, d3, d4]) <;> exact sT); exact rfl; (try simp only [push_cast, seval, rmC, hol, hgd, wyA, hp, hzz, d1, d3, d4]))
          (refine x_gg (zc @rmC.eq_1 (zc @hol (zc @hgd (zc @wyA.eq_1 (zc @hp (zc @hzz (zc @d1 (zc @d3 @d4)))))))) ?_)
          refine ⟨(k + 1, o.set x.a.toNat n, v + 1, .row 3 [wyA x]), ?_, ⟨by simp only; omega, hfs⟩, by simp only; omega⟩
          unfold wyA
          (refine Le.of ?_ ?_ rfl rfl <;> (try simp only [push_cast, seval, rmC, hol, hgd, wyA, hp, hzz, d1, d3, d4]) <;> (try (with_reducible rfl)))
         ·have d4 : decide (p < 0) = false := decide_eq_false c4
          rw [if_neg (fun q => c4 q.2)] at hfs
          (refine x_gs (zc @rmC.eq_1 (zc @hol (zc @hgd (zc @wyA.eq_1 (zc @hp (zc @hzz (zc @d1 (zc @d3 @d4)))))))) ?_)
          (apply Run.alcAt 2; (exact x_ev (zc @rmC.eq_1 (zc @hol (zc @hgd (zc @wyA.eq_1 (zc @hp (zc @hzz (zc @d1 (zc @d3 @d4))))))))); ((try simp only [push_cast, seval, rmC, hol, hgd, wyA, hp, hzz, d1, d3, d4]) <;> exact sT); exact rfl; (try simp only [push_cast, seval, rmC, hol, hgd, wyA, hp, hzz, d1, d3, d4]))
          (refine x_gg (zc @rmC.eq_1 (zc @hol (zc @hgd (zc @wyA.eq_1 (zc @hp (zc @hzz (zc @d1 (zc @d3 @d4)))))))) ?_)
          refine ⟨(k + 1, o, v + 1, .row 3 [wyA x]), ?_, ⟨by simp only; omega, hfs⟩, by simp only; omega⟩
          unfold wyA
          (refine Le.of ?_ ?_ rfl rfl <;> (try simp only [push_cast, seval, rmC, hol, hgd, wyA, hp, hzz, d1, d3, d4]) <;> (try (with_reducible rfl)))
        ·have d3 : decide (z = (n : Int) - 1) = false := decide_eq_false c3
         rw [if_neg (fun q => c3 q.1)] at hfs
         (refine x_gs (zc @rmC.eq_1 (zc @hol (zc @hgd (zc @wyA.eq_1 (zc @hp (zc @hzz (zc @d1 @d3))))))) ?_)
         (apply Run.alcAt 2; (exact x_ev (zc @rmC.eq_1 (zc @hol (zc @hgd (zc @wyA.eq_1 (zc @hp (zc @hzz (zc @d1 @d3)))))))); ((try simp only [push_cast, seval, rmC, hol, hgd, wyA, hp, hzz, d1, d3]) <;> exact sT); exact rfl; (try simp only [push_cast, seval, rmC, hol, hgd, wyA, hp, hzz, d1, d3]))
         (refine x_gg (zc @rmC.eq_1 (zc @hol (zc @hgd (zc @wyA.eq_1 (zc @hp (zc @hzz (zc @d1 @d3))))))) ?_)
         refine ⟨(k + 1, o, v + 1, .row 3 [wyA x]), ?_, ⟨by simp only; omega, hfs⟩, by simp only; omega⟩
         unfold wyA
         (refine Le.of ?_ ?_ rfl rfl <;> (try simp only [push_cast, seval, rmC, hol, hgd, wyA, hp, hzz, d1, d3]) <;> (try (with_reducible rfl)))
      ·(intro hc; first | replace hc := bT hc | skip)
       obtain rfl : k = r.wy.length := by omega
       (refine x_go (zc @rmC.eq_1 @hol) ?_)
       refine ⟨(n + 1, o, v, kd), ?_, ⟨by simp only; omega, by simp only; omega, hfr.next hn1⟩, by simp only; omega⟩
       (refine Le.of ?_ ?_ rfl rfl <;> (try simp only [push_cast, seval, rmC, hol]) <;> (try (with_reducible rfl)))
    ·intro hc
     have hc : r.ps.length < n := by simp only [decide_eq_false_iff_not] at hc; omega
     obtain rfl : n = r.ps.length + 1 := by omega
     have hfd := hfr.end_ (by omega)
     obtain rfl := hfd.is
     (apply Wp.freeze 5; (exact x_ev (zc @rmC.eq_1 @hol)); (exact x_ev (zc @rmC.eq_1 @hol)); (focus (try simp only [push_cast, seval, rmC, hol]); (try (exact sT))); (focus (exact sT)))
     (refine x_go (zc @rmC.eq_1 @hol) ?_)
     (first | exact x_ret (zc @rmC.eq_1 @hol) | refine x_retZ (zc @rmC.eq_1 @hol) ?_)
     rw [List.take_of_length_le (by omega)]
end Go.Proofs.Tryz
set_option maxHeartbeats 4000000
namespace Go.Proofs.Tryz
open Go.Vg
def bsZ (d : List Int) (L : List Int) : Nat → Int
 | 0 => -1
 | i + 1 => if bsZ d L i < 0 ∨ ov d (L.getD i 0).toNat < ov d (L.getD (bsZ d L i).toNat 0).toNat then i else bsZ d L i
theorem bsZ_is (d L : List Int) : ∀ i, 0 < i → ∃ b : Nat, bsZ d L i = b ∧ b < i ∧ (∀ j, j < i → ov d (L.getD b 0).toNat ≤ ov d (L.getD j 0).toNat) ∧ ∀ j, j < b → ov d (L.getD b 0).toNat < ov d (L.getD j 0).toNat
 | 0, h => by omega
 | 1, _ => by
  refine ⟨0, ?_, by omega, fun j hj => ?_, fun j hj => by omega⟩
  ·unfold bsZ bsZ; rw [if_pos (.inl (by omega))]
  ·obtain rfl : j = 0 := by omega
   omega
 | i + 2, _ => by
  obtain ⟨b, e, h1, h2, h3⟩ := bsZ_is d L (i + 1) (by omega)
  rw [bsZ, e, show ((b : Int).toNat) = b from Int.toNat_natCast b]
  by_cases c : ov d (L.getD (i + 1) 0).toNat < ov d (L.getD b 0).toNat
  ·rw [if_pos (.inr c)]
   refine ⟨i + 1, rfl, by omega, fun j hj => ?_, fun j hj => ?_⟩
   ·by_cases q : j = i + 1
    ·subst q; omega
    ·have := h2 j (by omega); omega
   ·have := h2 j (by omega); omega
  ·rw [if_neg (by omega)]
   refine ⟨b, rfl, by omega, fun j hj => ?_, h3⟩
   by_cases q : j = i + 1
   ·subst q; omega
   ·exact h2 j (by omega)
def nxZ (d : List Int) (t : List Bool) : Nat → Int
 | 0 => -1
 | p + 1 => if t.getD p false = true ∧ 0 ≤ ov d p ∧ (nxZ d t p < 0 ∨ ov d p < ov d (nxZ d t p).toNat) then p else nxZ d t p
def lfB (t : List Bool) : Nat → Bool
 | 0 => false
 | p + 1 => t.getD p false || lfB t p
theorem lfB_is (t : List Bool) : ∀ p, lfB t p = true ↔ ∃ q, q < p ∧ t.getD q false = true
 | 0 => by simp [lfB]
 | p + 1 => by
  rw [lfB, Bool.or_eq_true, lfB_is t p]
  constructor
  ·rintro (h | ⟨q, h1, h2⟩)
   ·exact ⟨p, by omega, h⟩
   ·exact ⟨q, by omega, h2⟩
  ·rintro ⟨q, h1, h2⟩
   by_cases e : q = p
   ·exact .inl (e ▸ h2)
   ·exact .inr ⟨q, by omega, h2⟩
def NX (d : List Int) (t : List Bool) (p q : Nat) : Prop := q < p ∧ t.getD q false = true ∧ 0 ≤ ov d q ∧ (∀ j, j < p → t.getD j false = true → 0 ≤ ov d j → ov d q ≤ ov d j) ∧ ∀ j, j < q → t.getD j false = true → 0 ≤ ov d j → ov d q < ov d j
theorem nxZ_is (d : List Int) (t : List Bool) : ∀ p, (nxZ d t p = -1 ∧ ∀ j, j < p → t.getD j false = true → ov d j < 0) ∨ ∃ q : Nat, nxZ d t p = q ∧ NX d t p q
 | 0 => .inl ⟨rfl, fun j hj => by omega⟩
 | p + 1 => by
  rcases nxZ_is d t p with ⟨e, h⟩ | ⟨q, e, h1, h2, h3, h4, h5⟩
  ·by_cases c : t.getD p false = true ∧ 0 ≤ ov d p
   ·refine .inr ⟨p, ?_, by omega, c.1, c.2, fun j hj h6 h7 => ?_, fun j hj h6 h7 => ?_⟩
    ·rw [nxZ, e, if_pos ⟨c.1, c.2, .inl (by omega)⟩]
    ·by_cases q : j = p
     ·subst q; omega
     ·have := h j (by omega) h6; omega
    ·have := h j (by omega) h6; omega
   ·refine .inl ⟨?_, fun j hj h6 => ?_⟩
    ·rw [nxZ, e, if_neg (fun q => c ⟨q.1, q.2.1⟩)]
    ·by_cases q : j = p
     ·subst q
      by_cases q2 : 0 ≤ ov d j
      ·exact absurd ⟨h6, q2⟩ c
      ·omega
     ·exact h j (by omega) h6
  ·refine .inr ?_
   rw [nxZ, e, show ((q : Int).toNat) = q from Int.toNat_natCast q]
   by_cases c : t.getD p false = true ∧ 0 ≤ ov d p ∧ ((q : Int) < 0 ∨ ov d p < ov d q)
   ·rw [if_pos c]
    refine ⟨p, rfl, by omega, c.1, c.2.1, fun j hj h6 h7 => ?_, fun j hj h6 h7 => ?_⟩
    ·by_cases q' : j = p
     ·subst q'; omega
     ·have := h4 j (by omega) h6 h7; omega
    ·have := h4 j (by omega) h6 h7; omega
   ·rw [if_neg c]
    refine ⟨q, rfl, by omega, h2, h3, fun j hj h6 h7 => ?_, h5⟩
    by_cases q' : j = p
    ·subst q'
     by_cases q2 : ov d j < ov d q
     ·exact absurd ⟨h6, h7, .inr q2⟩ c
     ·omega
    ·exact h4 j (by omega) h6 h7
theorem NX.unique {d : List Int} {t : List Bool} {p q s : Nat} (h : NX d t p q) (k : NX d t p s) : q = s := by
 obtain ⟨h1, h2, h3, h4, h5⟩ := h
 obtain ⟨k1, k2, k3, k4, k5⟩ := k
 have a1 := h4 s k1 k2 k3
 have a2 := k4 q h1 h2 h3
 rcases Nat.lt_trichotomy q s with c | c | c
 ·have := k5 q c h2 h3; omega
 ·exact c
 ·have := h5 s c k2 k3; omega
structure TD (N : Nat) (t : List Bool) (L : List Int) : Prop where
 len : t.length = N
 asc : L.Pairwise (· < ·)
 inn : ∀ x ∈ L, 0 ≤ x ∧ x < N
 is : ∀ p, p < N → (t.getD p false = true ↔ (p : Int) ∈ L)
def rcB (d : List Int) (L : List Int) : Bool := L.all fun x => decide (0 ≤ ov d x.toNat)
theorem TD.best {N : Nat} {t : List Bool} {L : List Int} (h : TD N t L) (d : List Int) (h0 : L ≠ []) (hr : rcB d L = true) : ∃ b : Nat, bsZ d L L.length = b ∧ b < L.length ∧ NX d t N (L.getD b 0).toNat := by
 obtain ⟨b, e, h1, h2, h3⟩ := bsZ_is d L L.length (List.length_pos_iff.2 h0)
 have hg : ∀ j, j < L.length → L.getD j 0 ∈ L := fun j hj => by rw [show L.getD j 0 = L[j] by simp [hj]]; exact List.getElem_mem _
 have hb := h.inn _ (hg b h1)
 have hrr : ∀ x ∈ L, 0 ≤ ov d x.toNat := fun x hx => by
  have := List.all_eq_true.1 hr x hx
  simpa using this
 refine ⟨b, e, h1, by omega, ?_, hrr _ (hg b h1), fun j hj h6 h7 => ?_, fun j hj h6 h7 => ?_⟩
 ·rw [h.is _ (by omega), Int.toNat_of_nonneg hb.1]; exact hg b h1
 ·have hm := (h.is j hj).1 h6
  obtain ⟨i, hi, e2⟩ := List.getElem_of_mem hm
  have := h2 i hi
  rw [show L.getD i 0 = L[i] by simp [hi], e2, Int.toNat_natCast] at this
  exact this
 ·have hm := (h.is j (by omega)).1 h6
  obtain ⟨i, hi, e2⟩ := List.getElem_of_mem hm
  have hgi : L.getD i 0 = (j : Int) := by rw [show L.getD i 0 = L[i] by simp [hi], e2]
  have hib : i < b := by
   rcases Nat.lt_trichotomy i b with c | c | c
   ·exact c
   ·subst c; rw [hgi] at hj; simp at hj
   ·have := List.pairwise_iff_getElem.1 h.asc b i h1 hi c
    rw [show L[b] = L.getD b 0 by simp [h1], e2] at this
    omega
  have := h3 i hib
  rw [hgi, Int.toNat_natCast] at this
  exact this
theorem TD.drop {N : Nat} {t : List Bool} {L : List Int} (h : TD N t L) {b : Nat} (hb : b < L.length) : TD N (t.set (L.getD b 0).toNat false) (L.eraseIdx b) := by
 have hg : L.getD b 0 = L[b] := by simp [hb]
 have hbb := h.inn L[b] (List.getElem_mem _)
 have hp := h.asc.sublist (List.eraseIdx_sublist L b)
 refine ⟨by rw [List.length_set]; exact h.len, hp, fun x hx => h.inn x (List.mem_of_mem_eraseIdx hx), fun p hp => ?_⟩
 have hm : ∀ x, x ∈ L.eraseIdx b ↔ x ∈ L ∧ x ≠ L[b] := by
  intro x
  rw [List.mem_eraseIdx_iff_getElem]
  constructor
  ·rintro ⟨i, hi, hne, rfl⟩
   refine ⟨List.getElem_mem _, fun e => ?_⟩
   rcases Nat.lt_trichotomy i b with c | c | c
   ·have := List.pairwise_iff_getElem.1 h.asc i b hi hb c; omega
   ·exact hne c
   ·have := List.pairwise_iff_getElem.1 h.asc b i hb hi c; omega
  ·rintro ⟨hx, hne⟩
   obtain ⟨i, hi, rfl⟩ := List.getElem_of_mem hx
   exact ⟨i, hi, fun e => hne (by subst e; rfl), rfl⟩
 rw [hm, hg]
 have ht := h.is p hp
 by_cases e : p = L[b].toNat
 ·have : (p : Int) = L[b] := by omega
  have hl : p < t.length := by rw [h.len]; exact hp
  constructor
  ·intro q
   rw [← e, List.getD_eq_getElem?_getD, List.getElem?_set_self hl] at q
   cases q
  ·intro q; exact absurd this q.2
 ·have : (p : Int) ≠ L[b] := by omega
  rw [List.getD_eq_getElem?_getD, List.getElem?_set_ne (Ne.symm e), ← List.getD_eq_getElem?_getD, ht]
  exact ⟨fun q => ⟨q, this⟩, fun q => q.1⟩
def ordR (D : Nat → List Int) : Nat → Nat → List Int → Option (List Int)
 | 0, _, _ => some []
 | n + 1, a, L => if rcB (D a) L = true then (ordR D n (L.getD (bsZ (D a) L L.length).toNat 0).toNat (L.eraseIdx (bsZ (D a) L L.length).toNat)).map fun o => L.getD (bsZ (D a) L L.length).toNat 0 :: o else none
theorem TD.mem {N : Nat} {t : List Bool} {L : List Int} (h : TD N t L) {q : Nat} (hq : q < N) (ht : t.getD q false = true) : ∃ b, b < L.length ∧ L.getD b 0 = q := by
 obtain ⟨b, hb, e⟩ := List.getElem_of_mem ((h.is q hq).1 ht)
 exact ⟨b, hb, by rw [show L.getD b 0 = L[b] by simp [hb], e]⟩
theorem rcB_false {d L : List Int} (h : rcB d L = false) : ∃ x ∈ L, ov d x.toNat < 0 := by
 unfold rcB at h
 rw [List.all_eq_false] at h
 obtain ⟨x, hx, h⟩ := h
 exact ⟨x, hx, by simpa using h⟩
theorem ord_stop {D : Nat → List Int} {N a n : Nat} {t : List Bool} {L : List Int} (h : TD N t L) (hn : L.length = n + 1) (hx : ∀ j, j < N → t.getD j false = true → ov (D a) j < 0) : ordR D (n + 1) a L = none := by
 unfold ordR
 rw [if_neg]
 intro hr
 have hb := List.getElem_mem (l := L) (n := 0) (by omega)
 have h1 := h.inn _ hb
 have h2 := hx L[0].toNat (by omega) ((h.is _ (by omega)).2 (by rw [Int.toNat_of_nonneg h1.1]; exact hb))
 have h3 := List.all_eq_true.1 hr _ hb
 simp only [decide_eq_true_eq] at h3
 omega
theorem ord_next {W : List Wy} {N : Nat} {D : Nat → List Int} (hD : ∀ a, a < N → FD W N a (D a)) {t : List Bool} {L : List Int} (h : TD N t L) {a n : Nat} (ha : a < N) (hn : L.length = n + 1) {q : Nat} (hx : NX (D a) t N q) :
  ∃ b, b < L.length ∧ L.getD b 0 = q ∧ ordR D (n + 1) a L = (ordR D n q (L.eraseIdx b)).map fun o => (q : Int) :: o := by
 have hq := hx.1
 cases hr : rcB (D a) L with
 | true =>
  obtain ⟨b, e, h1, h2⟩ := h.best (D a) (by rintro rfl; simp at hn) hr
  have hg : L.getD b 0 ∈ L := by rw [show L.getD b 0 = L[b] by simp [h1]]; exact List.getElem_mem _
  have h4 := h.inn _ hg
  have h3 : L.getD b 0 = q := by have := h2.unique hx; omega
  refine ⟨b, h1, h3, ?_⟩
  rw [ordR, if_pos hr, e, Int.toNat_natCast, h3, Int.toNat_natCast]
 | false =>
  obtain ⟨b, h1, h3⟩ := h.mem hq hx.2.1
  refine ⟨b, h1, h3, ?_⟩
  rw [ordR, if_neg (by rw [hr]; decide)]
  obtain ⟨x, x1, x2⟩ := rcB_false hr
  have hxi := h.inn x x1
  have hTd := h.drop h1
  have hxq : x ≠ q := by rintro rfl; have := hx.2.2.1; rw [Int.toNat_natCast] at x2; omega
  obtain ⟨i, hi, rfl⟩ := List.getElem_of_mem x1
  have hm : L[i] ∈ L.eraseIdx b := List.mem_eraseIdx_iff_getElem.2 ⟨i, hi, fun e => hxq (by rw [← h3]; subst e; simp [h1]), rfl⟩
  have hl := List.length_eraseIdx_of_lt h1
  have hne := List.length_pos_of_mem hm
  obtain ⟨k, rfl⟩ : ∃ k, n = k + 1 := ⟨n - 1, by omega⟩
  rw [ordR, if_neg]
  ·rfl
  ·intro hr2
   have := List.all_eq_true.1 hr2 _ hm
   simp only [decide_eq_true_eq] at this
   have := (FD.same hD ha hq (p := L[i].toNat) (by omega) hx.2.2.1).1 this
   omega
end Go.Proofs.Tryz
set_option maxHeartbeats 16000000
namespace Go.Proofs.Tryz
open Go.Vg
theorem unL_len (a b : List Int) : (unL a b).length ≤ a.length := unN_len a b a.length
end Go.Proofs.Tryz
set_option maxHeartbeats 16000000
namespace Go.Proofs.Tryz
open Go.Vg
theorem unN_mem {a b : List Int} : ∀ {k : Nat} {x : Int}, x ∈ unN a b k → 0 ≤ x ∧ x < k
 | 0, x, h => by simp [unN] at h
 | k + 1, x, h => by
  rw [unN_succ] at h
  split at h
  ·have := unN_mem h; omega
  ·rcases List.mem_append.1 h with h | h
   ·have := unN_mem h; omega
   ·have : x = k := by simpa using h
    omega
theorem unL_mem {a b : List Int} {x : Int} (h : x ∈ unL a b) : 0 ≤ x ∧ x < a.length := unN_mem h
theorem getD_mem' {L : List Int} {i : Nat} (h : i < L.length) : L.getD i 0 ∈ L := by rw [show L.getD i 0 = L[i] by simp [h]]; exact List.getElem_mem _
def tsP (r : Rm) (U : List Int) : List Int := U.map fun u => (r.ts.getD u.toNat th0).pl
def ppP (f : St) (V : List Int) : List Int := (V.map fun v => f.pp.getD v.toNat 0).filter fun x => decide (x ≠ -1)
def lfL (r : Rm) (s : St) : List Int := cmpI (srtI (tsP r (unL s.ts (bgS r).ts) ++ ppP (bgS r) (unL s.pp (bgS r).pp)))
def ansO : Option (List Int) → AV
 | some o => .tup [.ints o, .int 0]
 | none => .tup [.emp, .int 90]
noncomputable def ordA (r : Rm) (s : St) : AV := if begE r s = 0 then ansO (ordR (dF r.wy r.ps.length) (lfL r s).length 0 (lfL r s)) else .tup [.emp, .int (begE r s)]
theorem bgS_pp {r : Rm} (hv : RV r) {i : Nat} (hi : i < (bgS r).pp.length) : -1 ≤ (bgS r).pp.getD i 0 ∧ (bgS r).pp.getD i 0 < r.ps.length := by
 have e : (bgS r).pp = r.pp.map Pp.pl := rfl
 rw [e] at hi ⊢
 rw [List.length_map] at hi
 rw [show (r.pp.map Pp.pl).getD i 0 = r.pp[i].pl by simp [hi]]
 have := (hv.ppv _ (List.getElem_mem hi)).1
 omega
theorem ts_pl {r : Rm} (hv : RV r) {i : Nat} (hi : i < r.ts.length) : 0 ≤ (r.ts.getD i th0).pl ∧ (r.ts.getD i th0).pl < r.ps.length := by
 rw [show r.ts.getD i th0 = r.ts[i] by simp [hi]]
 have := (hv.tsv _ (List.getElem_mem hi)).1
 omega
theorem lfL_mem {r : Rm} {s : St} {x : Int} : x ∈ lfL r s ↔ (∃ i, i < (unL s.ts (bgS r).ts).length ∧ (r.ts.getD ((unL s.ts (bgS r).ts).getD i 0).toNat th0).pl = x) ∨ ∃ i, i < (unL s.pp (bgS r).pp).length ∧ (bgS r).pp.getD ((unL s.pp (bgS r).pp).getD i 0).toNat 0 = x ∧ x ≠ -1 := by
 unfold lfL
 rw [cmpI_mem, srtI_mem, List.mem_append]
 generalize unL s.ts (bgS r).ts = U
 generalize unL s.pp (bgS r).pp = V
 refine or_congr ?_ ?_
 ·unfold tsP
  rw [List.mem_map]
  constructor
  ·rintro ⟨u, hu, rfl⟩
   obtain ⟨i, hi, rfl⟩ := List.getElem_of_mem hu
   exact ⟨i, hi, by simp [hi]⟩
  ·rintro ⟨i, hi, rfl⟩
   exact ⟨_, getD_mem' hi, rfl⟩
 ·unfold ppP
  rw [List.mem_filter, List.mem_map, decide_eq_true_eq]
  constructor
  ·rintro ⟨⟨u, hu, rfl⟩, hn⟩
   obtain ⟨i, hi, rfl⟩ := List.getElem_of_mem hu
   exact ⟨i, hi, by simp [hi], hn⟩
  ·rintro ⟨i, hi, rfl, hn⟩
   exact ⟨⟨_, getD_mem' hi, rfl⟩, hn⟩
theorem lfL_in {r : Rm} (hv : RV r) {s : St} (h1 : s.ts.length = r.ts.length) (h2 : s.pp.length = (bgS r).pp.length) : ∀ x ∈ lfL r s, 0 ≤ x ∧ x < r.ps.length := by
 intro x hx
 rcases lfL_mem.1 hx with ⟨i, hi, rfl⟩ | ⟨i, hi, rfl, hn⟩
 ·have := unL_mem (getD_mem' hi)
  exact ts_pl hv (by omega)
 ·have := unL_mem (getD_mem' hi)
  have := bgS_pp hv (i := ((unL s.pp (bgS r).pp).getD i 0).toNat) (by omega)
  omega
theorem lfL_len (r : Rm) (s : St) : (lfL r s).length ≤ s.ts.length + s.pp.length := by
 have h1 := unL_len s.ts (bgS r).ts
 have h2 := unL_len s.pp (bgS r).pp
 have h3 := cmpI_len (srtI (tsP r (unL s.ts (bgS r).ts) ++ ppP (bgS r) (unL s.pp (bgS r).pp)))
 have h4 : (ppP (bgS r) (unL s.pp (bgS r).pp)).length ≤ (unL s.pp (bgS r).pp).length := by
  unfold ppP; exact Nat.le_trans (List.length_filter_le _ _) (by simp)
 rw [srtI_len, List.length_append] at h3
 have h5 : (tsP r (unL s.ts (bgS r).ts)).length = (unL s.ts (bgS r).ts).length := by simp [tsP]
 unfold lfL
 omega
theorem lfL_asc (r : Rm) (s : St) : (lfL r s).Pairwise (· < ·) := cmpI_asc (srtI_asc _)
theorem lfL_TD {r : Rm} (hv : RV r) {s : St} (h1 : s.ts.length = r.ts.length) (h2 : s.pp.length = (bgS r).pp.length) {t : List Bool} (ht : t.length = r.ps.length)
  (hm : ∀ p, p < r.ps.length → (t.getD p false = true ↔ (∃ i, i < (unL s.ts (bgS r).ts).length ∧ (r.ts.getD ((unL s.ts (bgS r).ts).getD i 0).toNat th0).pl = p) ∨ ∃ i, i < (unL s.pp (bgS r).pp).length ∧ (bgS r).pp.getD ((unL s.pp (bgS r).pp).getD i 0).toNat 0 = p)) : TD r.ps.length t (lfL r s) := by
 refine ⟨ht, lfL_asc r s, lfL_in hv h1 h2, fun p hp => ?_⟩
 rw [hm p hp, lfL_mem]
 refine or_congr Iff.rfl ⟨fun ⟨i, a, b⟩ => ⟨i, a, b, by omega⟩, fun ⟨i, a, b, _⟩ => ⟨i, a, b⟩⟩
end Go.Proofs.Tryz
set_option maxHeartbeats 16000000
namespace Go.Proofs.Tryz
open Go.Vg
theorem rorder_err {r : Rm} (hz : Sz r) {s : St} (hs : Zs s) (h1 : begE r s ≠ 0) : Pure Tryz.prog 43 [rmA r, stA s] (.tup [.emp, .int (begE r s)]) := by
 have c0 := rWrong_pure hz hs
 unfold wrA at c0
 rw [if_neg h1] at c0
 have e2 : decide (begE r s = 0) = false := decide_eq_false h1
 generalize begE r s = e at *
 unfold rmA rmC at *
 unfold stA at *
 (refine Spec.bd 0 Tryz.func43 Tryz.results43 Tryz.ntmps43 ?_; simp only [entry, zipArgs, Nat.reduceAdd])
 ((refine x_pre (zc @e2 @Bool.not_false) ?_); (iterate 4 (refine x_nr (zc @e2 @Bool.not_false) ?_)); (refine x_nil (zc @e2 @Bool.not_false) ?_))
 (refine x_fzP (zc @e2 @Bool.not_false) (slq 2) ?_)
 (refine x_fzP (zc @e2 @Bool.not_false) (slq 3) ?_)
 (refine x_go (zc @e2 @Bool.not_false) ?_)
 (apply Run.pureFP; (exact x_ev (zc @e2 @Bool.not_false)); (exact (Enters.of Tryz.func28 rfl rfl)); (exact c0); (exact x_al (zc @e2 @Bool.not_false)); (try dsimp only [putA, optG]))
 (refine x_gg (zc @e2 @Bool.not_false) ?_)
 (first | exact x_ret (zc @e2 @Bool.not_false) | refine x_retZ (zc @e2 @Bool.not_false) ?_)
theorem bool_rep (t : List Bool) (p q : Nat) (hq : q < t.length) : (t.set q true).getD p false = true ↔ t.getD p false = true ∨ p = q := by
 by_cases e : p = q
 ·subst e; simp [hq]
 ·rw [List.getD_eq_getElem?_getD, List.getElem?_set_ne (Ne.symm e), ← List.getD_eq_getElem?_getD]
  simp [e]
theorem rorder_ok {r : Rm} (hz : Sz r) {s : St} (hs : Zs s) (h : begE r s = 0) : Pure Tryz.prog 43 [rmA r, stA s] (ordA r s) := by
 obtain ⟨hb0, hb1⟩ := begE_zero h
 obtain ⟨hv, hs2, hch⟩ := cs_zero hb1
 have hf := bg_SV hb0
 have c0 := rWrong_pure hz hs
 unfold wrA at c0
 rw [if_pos h] at c0
 have c1 := rfirst_pure hz
 unfold bgA at c1
 rw [hb0, if_pos rfl] at c1
 have c2 := @rfar_pure r hv
 have hTD := @lfL_TD r hv s hs2.ts (by rw [hs2.pp, hf.pp])
 have hN := hv.ps
 have hUl : ∀ i, i < (unL s.ts (bgS r).ts).length → 0 ≤ (unL s.ts (bgS r).ts).getD i 0 ∧ (unL s.ts (bgS r).ts).getD i 0 < r.ts.length := fun i hi => by
  have := unL_mem (getD_mem' hi); rw [hs2.ts] at this; exact this
 have hVl : ∀ i, i < (unL s.pp (bgS r).pp).length → 0 ≤ (unL s.pp (bgS r).pp).getD i 0 ∧ (unL s.pp (bgS r).pp).getD i 0 < (bgS r).pp.length := fun i hi => by
  have := unL_mem (getD_mem' hi); rw [hs2.pp, ← hf.pp] at this; exact this
 have hbp := @bgS_pp r hv
 have htp := @ts_pl r hv
 have hfd : ∀ a, a < r.ps.length → FD r.wy r.ps.length a (dF r.wy r.ps.length a) := fun a ha => FD.dF (fun i hi => by have := ways_in hv hi; unfold aN bN; omega) ha
 have hLl := lfL_len r s
 have hlU := unL_len s.ts (bgS r).ts
 have hlV := unL_len s.pp (bgS r).pp
 have hs1 := hs.ts
 have hs3 := hs.pp
 unfold ordA
 rw [if_pos h]
 generalize unL s.ts (bgS r).ts = U at *
 generalize unL s.pp (bgS r).pp = V at *
 generalize lfL r s = L at *
 generalize bgS r = f at *
 unfold stA at *
 unfold rmA at *
 (refine Spec.bd 0 Tryz.func43 Tryz.results43 Tryz.ntmps43 ?_; simp only [entry, zipArgs, Nat.reduceAdd])
 ((refine x_pre @rmC.eq_1 ?_); (iterate 4 (refine x_nr @rmC.eq_1 ?_)); (refine x_nil @rmC.eq_1 ?_))
 (refine x_fzP @rmC.eq_1 (slq 2) ?_)
 (refine x_fzP @rmC.eq_1 (slq 3) ?_)
 (refine x_go @rmC.eq_1 ?_)
 (apply Run.pureFP; (exact x_ev @rmC.eq_1); (exact (Enters.of Tryz.func28 rfl rfl)); (exact c0); (exact x_al @rmC.eq_1); (try dsimp only [putA, optG]))
 (refine x_gg @rmC.eq_1 ?_)
 (refine x_go @rmC.eq_1 ?_)
 (apply Run.pureFP; (exact x_ev @rmC.eq_1); (exact (Enters.of Tryz.func59 rfl rfl)); (exact c1); (exact x_al @rmC.eq_1); (try dsimp only [putA, optG]))
 (refine x_gg @rmC.eq_1 ?_)
 have hrl : (List.replicate r.ps.length (AV.bool false)) = (List.replicate r.ps.length false).map AV.bool := by simp
 refine Wp.loop (fun (b : Nat × List Bool) => { t := [(2, .ref (rmC r) 0), (6, .ints U), (7, .ints V), (9, .optr 2 0 0 0), (11, .osl 3 0 0 r.ps.length), (12, .int b.1)], m := [⟨1, .row 8 []⟩, ⟨1, .row 3 []⟩, ⟨0, .row 3 [.agg [.ints f.ts, .ints f.pp, .ints f.pl]]⟩, ⟨0, .row 1 (b.2.map AV.bool)⟩], n := 128 }) (fun b => b.1 ≤ U.length ∧ b.2.length = r.ps.length ∧ ∀ p, p < r.ps.length → (b.2.getD p false = true ↔ ∃ i, i < b.1 ∧ (r.ts.getD (U.getD i 0).toNat th0).pl = p)) (fun b => U.length - b.1) (0, List.replicate r.ps.length false) ?_ ?_ ?_
 ·simp only [← hrl]
  (refine Le.of ?_ ?_ rfl rfl <;> (try simp only [push_cast, seval, rmC]) <;> (try (with_reducible rfl)))
  all_goals (first | exact ⟨rfl, rfl⟩ | rfl)
 ·refine ⟨by simp, by simp, fun p hp => ?_⟩
  simp [hp]
 ·rintro ⟨k, t⟩ ⟨hk1, ht, hm⟩
  simp only at hk1 ht hm
  (refine x_go @rmC.eq_1 ?_)
  (apply Wp.cond; (exact x_ev @rmC.eq_1))
  ·(intro hc; first | replace hc := bT hc | skip)
   have hu := hUl k hc
   have hgd := fun d => getD_thE (d := d) (l := r.ts) (i := (U.getD k 0).toNat) (by omega)
   have hpl := htp (i := (U.getD k 0).toNat) (by omega)
   obtain ⟨u, hu2⟩ : ∃ u, U.getD k 0 = u := ⟨_, rfl⟩
   simp only [hu2] at hu hgd hpl
   obtain ⟨x, hx⟩ : ∃ x, r.ts.getD u.toNat th0 = x := ⟨_, rfl⟩
   simp only [hx] at hgd hpl
   (refine x_go (zc @rmC.eq_1 (zc @ht (zc @hu2 (zc @hgd @thA.eq_1)))) ?_)
   (apply Wp.runE 11 11 mixed; (dsimp only [List.map] <;> exact rfl); exact rfl; kernel_rfl; ((refine x_nx (zc @rmC.eq_1 (zc @ht (zc @hu2 (zc @hgd @thA.eq_1)))) ?_); (refine x_ef (zc @rmC.eq_1 (zc @ht (zc @hu2 (zc @hgd @thA.eq_1)))) ?_); exact Abe.nil))
   (refine x_go (zc @rmC.eq_1 (zc @ht (zc @hu2 (zc @hgd @thA.eq_1)))) ?_)
   refine ⟨(k + 1, t.set x.pl.toNat true), ?_, ⟨by simp only; omega, by simp only [List.length_set]; exact ht, fun p hp => ?_⟩, by simp only; omega⟩
   ·(refine Le.of ?_ ?_ rfl rfl <;> (try simp only [push_cast, seval, rmC, ht, hu2, hgd, thA]) <;> (try (with_reducible rfl)))
   ·simp only
    rw [bool_rep t p _ (by omega), hm p hp]
    constructor
    ·rintro (⟨i, hi, e⟩ | e)
     ·exact ⟨i, by omega, e⟩
     ·exact ⟨k, by omega, by rw [hu2, hx]; omega⟩
    ·rintro ⟨i, hi, e⟩
     by_cases q : i = k
     ·subst q
      rw [hu2, hx] at e
      exact .inr (by omega)
     ·exact .inl ⟨i, by omega, e⟩
  ·(intro hc; first | replace hc := bT hc | skip)
   obtain rfl : k = U.length := by omega
   have hm0 := hm
   have ht0 := ht
   clear hm ht hk1
   (refine x_go @rmC.eq_1 ?_)
   refine Wp.loop (fun (b : Nat × List Bool) => { t := [(2, .ref (rmC r) 0), (7, .ints V), (9, .optr 2 0 0 0), (11, .osl 3 0 0 r.ps.length), (13, .int b.1)], m := [⟨1, .row 8 []⟩, ⟨1, .row 3 []⟩, ⟨0, .row 3 [.agg [.ints f.ts, .ints f.pp, .ints f.pl]]⟩, ⟨0, .row 1 (b.2.map AV.bool)⟩], n := 128 }) (fun b => b.1 ≤ V.length ∧ b.2.length = r.ps.length ∧ ∀ p, p < r.ps.length → (b.2.getD p false = true ↔ (∃ i, i < U.length ∧ (r.ts.getD (U.getD i 0).toNat th0).pl = p) ∨ ∃ i, i < b.1 ∧ f.pp.getD (V.getD i 0).toNat 0 = p)) (fun b => V.length - b.1) (0, t) ?_ ?_ ?_
   ·(refine Le.of ?_ ?_ rfl rfl <;> (try simp only [push_cast, seval, rmC]) <;> (try (with_reducible rfl)))
    all_goals (first | exact ⟨rfl, rfl⟩ | rfl)
   ·refine ⟨by simp, ht0, fun p hp => ?_⟩
    rw [hm0 p hp]
    exact ⟨fun q => .inl q, fun q => q.elim id fun ⟨i, hi, _⟩ => absurd hi (Nat.not_lt_zero i)⟩
   ·clear hm0 ht0 t
    rintro ⟨k, t⟩ ⟨hk1, ht, hm⟩
    simp only at hk1 ht hm
    (refine x_go @rmC.eq_1 ?_)
    (apply Wp.cond; (exact x_ev @rmC.eq_1))
    ·(intro hc; first | replace hc := bT hc | skip)
     have hu := hVl k hc
     have hpl := hbp (i := (V.getD k 0).toNat) (by omega)
     obtain ⟨u, hu2⟩ : ∃ u, V.getD k 0 = u := ⟨_, rfl⟩
     simp only [hu2] at hu hpl
     obtain ⟨y, hy⟩ : ∃ y, f.pp.getD u.toNat 0 = y := ⟨_, rfl⟩
     simp only [hy] at hpl
     by_cases c3 : 0 ≤ y
     ·have d1 : decide (0 ≤ y) = true := decide_eq_true c3
      (refine x_go (zc @rmC.eq_1 (zc @ht (zc @hu2 (zc @hy @d1)))) ?_)
      (refine Wp.rnD 9 ?_; apply exAb; (((refine x_abn (zc @rmC.eq_1 (zc @ht (zc @hu2 (zc @hy @d1)))) ?_)); exact Abn.nil))
      (refine x_gg (zc @rmC.eq_1 (zc @ht (zc @hu2 (zc @hy @d1)))) ?_)
      (apply Wp.runE 10 10 mixed; (dsimp only [List.map] <;> exact rfl); exact rfl; kernel_rfl; ((refine x_nx (zc @rmC.eq_1 (zc @ht (zc @hu2 (zc @hy @d1)))) ?_); (refine x_ef (zc @rmC.eq_1 (zc @ht (zc @hu2 (zc @hy @d1)))) ?_); exact Abe.nil))
      (refine x_go (zc @rmC.eq_1 (zc @ht (zc @hu2 (zc @hy @d1)))) ?_)
      refine ⟨(k + 1, t.set y.toNat true), ?_, ⟨by simp only; omega, by simp only [List.length_set]; exact ht, fun p hp => ?_⟩, by simp only; omega⟩
      ·(refine Le.of ?_ ?_ rfl rfl <;> (try simp only [push_cast, seval, rmC, ht, hu2, hy, d1]) <;> (try (with_reducible rfl)))
      ·simp only
       rw [bool_rep t p y.toNat (by omega), hm p hp, or_assoc]
       refine or_congr Iff.rfl ⟨?_, ?_⟩
       ·rintro (⟨i, hi, e⟩ | e)
        ·exact ⟨i, by omega, e⟩
        ·exact ⟨k, by omega, by rw [hu2, hy]; omega⟩
       ·rintro ⟨i, hi, e⟩
        by_cases q : i = k
        ·subst q
         rw [hu2, hy] at e
         exact .inr (by omega)
        ·exact .inl ⟨i, by omega, e⟩
     ·have d1 : decide (0 ≤ y) = false := decide_eq_false c3
      (refine x_go (zc @rmC.eq_1 (zc @ht (zc @hu2 (zc @hy @d1)))) ?_)
      (refine Wp.rnD 9 ?_; apply exAb; (((refine x_abn (zc @rmC.eq_1 (zc @ht (zc @hu2 (zc @hy @d1)))) ?_)); exact Abn.nil))
      (refine x_gg (zc @rmC.eq_1 (zc @ht (zc @hu2 (zc @hy @d1)))) ?_)
      refine ⟨(k + 1, t), ?_, ⟨by simp only; omega, ht, fun p hp => ?_⟩, by simp only; omega⟩
      ·(refine Le.of ?_ ?_ rfl rfl <;> (try simp only [push_cast, seval, rmC, ht, hu2, hy, d1]) <;> (try (with_reducible rfl)))
      ·simp only
       rw [hm p hp]
       refine or_congr Iff.rfl ⟨fun ⟨i, hi, e⟩ => ⟨i, by omega, e⟩, fun ⟨i, hi, e⟩ => ?_⟩
       by_cases q : i = k
       ·subst q
        rw [hu2, hy] at e
        omega
       ·exact ⟨i, by omega, e⟩
    ·(intro hc; first | replace hc := bT hc | skip)
     obtain rfl : k = V.length := by omega
     have hL := hTD ht hm
     clear hm hk1 hTD hlU hlV hUl hVl
     (refine x_go @rmC.eq_1 ?_)
     apply Wp.adopt 14 1; (exact x_ev @rmC.eq_1)
     (refine x_go @rmC.eq_1 ?_)
     obtain ⟨A, hA⟩ : ∃ A, ordR (dF r.wy r.ps.length) L.length 0 L = A := ⟨_, rfl⟩
     rw [hA]
     generalize hD : dF r.wy r.ps.length = D at *
     refine Wp.loop (fun (b : Nat × List Bool × List Int × List Int) => { t := [(2, .ref (rmC r) 0), (11, .osl 3 0 0 r.ps.length), (14, .osl 4 b.2.2.2.length 0 b.2.2.2.length), (15, .int b.1)], m := [⟨1, .row 8 []⟩, ⟨1, .row 3 []⟩, ⟨0, .row 3 [.agg [.ints f.ts, .ints f.pp, .ints f.pl]]⟩, ⟨0, .row 1 (b.2.1.map AV.bool)⟩, ⟨b.2.2.2.length, .row 1 (b.2.2.2.map AV.int)⟩], n := 128 }) (fun b => b.1 < r.ps.length ∧ TD r.ps.length b.2.1 b.2.2.1 ∧ b.2.2.2.length + b.2.2.1.length = L.length ∧ (ordR D b.2.2.1.length b.1 b.2.2.1).map (fun o => b.2.2.2 ++ o) = A) (fun b => b.2.2.1.length) (0, t, L, []) ?_ ?_ ?_
     ·(refine Le.of ?_ ?_ rfl rfl <;> (try simp only [push_cast, seval, rmC]) <;> (try (with_reducible rfl)))
      all_goals (first | exact ⟨rfl, rfl⟩ | rfl)
     ·exact ⟨by simp only; omega, hL, by simp, by simp [hA]⟩
     ·clear hL ht hA t
      rintro ⟨a, t, M, O⟩ ⟨ha, hT, hlen, hA⟩
      simp only at ha hT hlen hA
      have c3 := c2 (a : Int) (by omega)
      rw [Int.toNat_natCast] at c3
      have hdl : (D a).length = r.ps.length := (hfd a ha).fi.len
      have hnx := fun n => ord_next (n := n) hfd hT ha
      have hst := fun n => ord_stop (D := D) (a := a) (n := n) hT
      have ht := hT.len
      obtain ⟨d, hd⟩ : ∃ d, D a = d := ⟨_, rfl⟩
      rw [hd] at c3 hdl hnx
      simp only [hd] at hst
      (refine x_go @rmC.eq_1 ?_)
      (apply Run.pureFP; (exact x_ev @rmC.eq_1); (exact (Enters.of Tryz.func79 rfl rfl)); (exact c3); (exact x_al @rmC.eq_1); (try dsimp only [putA, optG]))
      (refine x_go @rmC.eq_1 ?_)
      refine Wp.loop (fun p : Nat => { t := [(2, .ref (rmC r) 0), (11, .osl 3 0 0 r.ps.length), (14, .osl 4 O.length 0 O.length), (15, .int a), (16, .ints d), (17, .int (nxZ d t p)), (18, .bool (lfB t p)), (19, .int p)], m := [⟨1, .row 8 []⟩, ⟨1, .row 3 []⟩, ⟨0, .row 3 [.agg [.ints f.ts, .ints f.pp, .ints f.pl]]⟩, ⟨0, .row 1 (t.map AV.bool)⟩, ⟨O.length, .row 1 (O.map AV.int)⟩], n := 128 }) (fun p => p ≤ r.ps.length) (fun p => r.ps.length - p) 0 ?_ ?_ ?_
      ·(refine Le.of ?_ ?_ rfl rfl <;> (try simp only [push_cast, seval, rmC]) <;> (try (with_reducible rfl)))
       all_goals (first | exact ⟨rfl, rfl⟩ | rfl)
      ·simp
      ·intro p hp
       (refine x_go @rmC.eq_1 ?_)
       (apply Wp.cond; (exact x_ev @rmC.eq_1))
       ·(intro hc; first | replace hc := bT hc | skip)
        have hn1 : nxZ d t (p + 1) = if t.getD p false = true ∧ 0 ≤ ov d p ∧ (nxZ d t p < 0 ∨ ov d p < ov d (nxZ d t p).toNat) then (p : Int) else nxZ d t p := rfl
        have hl1 : lfB t (p + 1) = (t.getD p false || lfB t p) := rfl
        have hzz : nxZ d t p = -1 ∨ 0 ≤ nxZ d t p ∧ nxZ d t p < p := by
         rcases nxZ_is d t p with ⟨e, _⟩ | ⟨q, e, h1, _⟩
         ·exact .inl e
         ·exact .inr (by omega)
        generalize nxZ d t p = z at *
        generalize lfB t p = l at *
        unfold ov at hn1
        obtain ⟨v, hvv⟩ : ∃ v, d.getD p 0 = v := ⟨_, rfl⟩
        obtain ⟨w, hww⟩ : ∃ w, d.getD z.toNat 0 = w := ⟨_, rfl⟩
        rw [hvv, hww] at hn1
        cases htd : t.getD p false with
        | false =>
         rw [htd, Bool.false_or] at hl1
         rw [htd, if_neg (by simp)] at hn1
         (refine x_gg (zc @rmC.eq_1 (zc @ht (zc @hdl @htd))) ?_)
         refine ⟨p + 1, ?_, by omega, by omega⟩
         rw [hn1, hl1]
         (refine Le.of ?_ ?_ rfl rfl <;> (try simp only [push_cast, seval, rmC, ht, hdl, htd]) <;> (try (with_reducible rfl)))
        | true =>
         rw [htd, Bool.true_or] at hl1
         rw [htd] at hn1
         by_cases e1 : 0 ≤ v
         ·have d1 : decide (0 ≤ v) = true := decide_eq_true e1
          by_cases e2 : z < 0
          ·have d2 : decide (z < 0) = true := decide_eq_true e2
           rw [if_pos ⟨rfl, e1, .inl e2⟩] at hn1
           (refine x_gg (zc @rmC.eq_1 (zc @ht (zc @hdl (zc @htd (zc @hvv (zc @hww (zc @d1 @d2))))))) ?_)
           (refine Wp.rnD 20 ?_; apply exAb; (((refine x_abn (zc @rmC.eq_1 (zc @ht (zc @hdl (zc @htd (zc @hvv (zc @hww (zc @d1 @d2))))))) ?_)); exact Abn.nil))
           (refine x_gg (zc @rmC.eq_1 (zc @ht (zc @hdl (zc @htd (zc @hvv (zc @hww (zc @d1 @d2))))))) ?_)
           refine ⟨p + 1, ?_, by omega, by omega⟩
           rw [hn1, hl1]
           (refine Le.of ?_ ?_ rfl rfl <;> (try simp only [push_cast, seval, rmC, ht, hdl, htd, hvv, hww, d1, d2]) <;> (try (with_reducible rfl)))
          ·have d2 : decide (z < 0) = false := decide_eq_false e2
           by_cases e3 : v < w
           ·have d3 : decide (v < w) = true := decide_eq_true e3
            rw [if_pos ⟨rfl, e1, .inr e3⟩] at hn1
            (refine x_gg (zc @rmC.eq_1 (zc @ht (zc @hdl (zc @htd (zc @hvv (zc @hww (zc @d1 (zc @d2 @d3)))))))) ?_)
            (refine Wp.rnD 20 ?_; apply exAb; (((refine x_abn (zc @rmC.eq_1 (zc @ht (zc @hdl (zc @htd (zc @hvv (zc @hww (zc @d1 (zc @d2 @d3)))))))) ?_)); exact Abn.nil))
            (refine x_gg (zc @rmC.eq_1 (zc @ht (zc @hdl (zc @htd (zc @hvv (zc @hww (zc @d1 (zc @d2 @d3)))))))) ?_)
            refine ⟨p + 1, ?_, by omega, by omega⟩
            rw [hn1, hl1]
            (refine Le.of ?_ ?_ rfl rfl <;> (try simp only [push_cast, seval, rmC, ht, hdl, htd, hvv, hww, d1, d2, d3]) <;> (try (with_reducible rfl)))
           ·have d3 : decide (v < w) = false := decide_eq_false e3
            rw [if_neg (fun q => q.2.2.elim e2 e3)] at hn1
            (refine x_gg (zc @rmC.eq_1 (zc @ht (zc @hdl (zc @htd (zc @hvv (zc @hww (zc @d1 (zc @d2 @d3)))))))) ?_)
            (refine Wp.rnD 20 ?_; apply exAb; (((refine x_abn (zc @rmC.eq_1 (zc @ht (zc @hdl (zc @htd (zc @hvv (zc @hww (zc @d1 (zc @d2 @d3)))))))) ?_)); exact Abn.nil))
            (refine x_gg (zc @rmC.eq_1 (zc @ht (zc @hdl (zc @htd (zc @hvv (zc @hww (zc @d1 (zc @d2 @d3)))))))) ?_)
            refine ⟨p + 1, ?_, by omega, by omega⟩
            rw [hn1, hl1]
            (refine Le.of ?_ ?_ rfl rfl <;> (try simp only [push_cast, seval, rmC, ht, hdl, htd, hvv, hww, d1, d2, d3]) <;> (try (with_reducible rfl)))
         ·have d1 : decide (0 ≤ v) = false := decide_eq_false e1
          rw [if_neg (fun q => e1 q.2.1)] at hn1
          (refine x_gg (zc @rmC.eq_1 (zc @ht (zc @hdl (zc @htd (zc @hvv (zc @hww @d1)))))) ?_)
          (refine Wp.rnD 20 ?_; apply exAb; (((refine x_abn (zc @rmC.eq_1 (zc @ht (zc @hdl (zc @htd (zc @hvv (zc @hww @d1)))))) ?_)); exact Abn.nil))
          (refine x_gg (zc @rmC.eq_1 (zc @ht (zc @hdl (zc @htd (zc @hvv (zc @hww @d1)))))) ?_)
          refine ⟨p + 1, ?_, by omega, by omega⟩
          rw [hn1, hl1]
          (refine Le.of ?_ ?_ rfl rfl <;> (try simp only [push_cast, seval, rmC, ht, hdl, htd, hvv, hww, d1]) <;> (try (with_reducible rfl)))
       ·(intro hc; first | replace hc := bT hc | skip)
        obtain rfl : p = r.ps.length := by omega
        cases hlf : lfB t r.ps.length with
        | false =>
         have hM : M = [] := by
          cases M with
          | nil => rfl
          | cons x M =>
           have hx := hT.inn x (by simp)
           have h2 := (hT.is x.toNat (by omega)).2 (by rw [Int.toNat_of_nonneg hx.1]; simp)
           have h3 := (lfB_is t r.ps.length).2 ⟨x.toNat, by omega, h2⟩
           rw [hlf] at h3
           cases h3
         subst hM
         have hA2 : some O = A := by rw [← hA]; simp [ordR]
         subst hA2
         (refine x_go @rmC.eq_1 ?_)
         (apply Wp.cond; (exact x_ev @rmC.eq_1))
         ·intro _
          (apply Wp.freeze 14; (exact x_ev @rmC.eq_1); (exact x_ev @rmC.eq_1); (focus (try simp only [push_cast, seval, rmC]); (try (exact sT))); (focus (exact sT)))
          (refine x_go @rmC.eq_1 ?_)
          (first | exact x_ret @rmC.eq_1 | refine x_retZ @rmC.eq_1 ?_)
         ·intro hc
          simp at hc
        | true =>
         have hM : ∃ n, M.length = n + 1 := by
          obtain ⟨j, j1, j2⟩ := (lfB_is t r.ps.length).1 hlf
          have := List.length_pos_of_mem ((hT.is j j1).1 j2)
          exact ⟨M.length - 1, by omega⟩
         obtain ⟨n, hn⟩ := hM
         rcases nxZ_is d t r.ps.length with ⟨e, h1⟩ | ⟨q, e, h1⟩
         ·rw [hn, hst n hn h1] at hA
          have hA2 : none = A := hA
          subst hA2
          rw [e]
          (refine x_gg @rmC.eq_1 ?_)
          (first | exact x_ret @rmC.eq_1 | refine x_retZ @rmC.eq_1 ?_)
         ·obtain ⟨b, hb, hq, hne⟩ := hnx n hn h1
          have hqN := h1.1
          have hTd := hT.drop hb
          rw [hq, Int.toNat_natCast] at hTd
          have hel := List.length_eraseIdx_of_lt hb
          rw [hn, hne] at hA
          rw [e]
          have d1 : decide ((q : Int) < 0) = false := decide_eq_false (by omega)
          (refine x_gg (zc @rmC.eq_1 (zc @ht @d1)) ?_)
          (refine x_go (zc @rmC.eq_1 (zc @ht @d1)) ?_)
          refine ⟨(q, t.set q false, M.eraseIdx b, O ++ [(q : Int)]), ?_, ⟨hqN, hTd, by simp only [List.length_append, List.length_singleton]; omega, ?_⟩, by simp only; omega⟩
          ·simp only [List.length_append, List.length_singleton, List.map_append]
           (refine Le.of ?_ ?_ rfl rfl <;> (try simp only [push_cast, seval, rmC, ht, d1]) <;> (try (with_reducible rfl)))
          ·simp only
           rw [← hA, show (M.eraseIdx b).length = n by omega, Option.map_map]
           congr 1
           funext o
           simp
end Go.Proofs.Tryz
set_option maxHeartbeats 16000000
namespace Go.Proofs.Tryz
open Go.Vg
end Go.Proofs.Tryz
set_option maxHeartbeats 16000000
namespace Go.Proofs.Tryz
open Go.Vg
end Go.Proofs.Tryz
set_option maxHeartbeats 8000000
set_option maxRecDepth 20000
namespace Go.Proofs.Tryz
open Go.Vg
theorem rep0_spec (n : Nat) (h : n ≤ 8) : Go.Vg.Spec Tryz.prog 101 [.lst 1 [.int (-1)], .int (n : Int)] [] (fun y m' => y = .osl 0 0 0 n ∧ m' = [⟨0, .row 1 (List.replicate n (.int (-1)))⟩]) := by
 match n, h with
 | 0, _ => exact xF_spec (n := 3000) namedEv mixed (by kernel_rfl)
 | 1, _ => exact xF_spec (n := 3000) namedEv mixed (by kernel_rfl)
 | 2, _ => exact xF_spec (n := 3000) namedEv mixed (by kernel_rfl)
 | 3, _ => exact xF_spec (n := 3000) namedEv mixed (by kernel_rfl)
 | 4, _ => exact xF_spec (n := 3000) namedEv mixed (by kernel_rfl)
 | 5, _ => exact xF_spec (n := 3000) namedEv mixed (by kernel_rfl)
 | 6, _ => exact xF_spec (n := 3000) namedEv mixed (by kernel_rfl)
 | 7, _ => exact xF_spec (n := 3000) namedEv mixed (by kernel_rfl)
 | 8, _ => exact xF_spec (n := 3000) namedEv mixed (by kernel_rfl)
 | n + 9, h => omega
theorem shR1 (k n : Nat) : shiftL k (List.replicate n (AV.int (-1))) = List.replicate n (AV.int (-1)) := by
 induction n with
 | zero => rfl
 | succ n ih => rw [List.replicate_succ]; simp only [shiftL, ih]; rfl
end Go.Proofs.Tryz
set_option maxHeartbeats 16000000
namespace Go.Proofs.Tryz
open Go.Vg
def qI (q : List Nat) : List Int := q.map fun i : Nat => (i : Int)
theorem qI_len (q : List Nat) : (qI q).length = q.length := by simp [qI]
theorem qI_app (p q : List Nat) : qI (p ++ q) = qI p ++ qI q := by simp [qI]
theorem qI_head (p q : List Nat) (x : Nat) : (qI (p ++ x :: q)).getD p.length 0 = x := by
 rw [qI_app, List.getD_eq_getElem?_getD, List.getElem?_append_right (by rw [qI_len]; omega), qI_len, Nat.sub_self]
 rfl
theorem qI_drop (p q : List Nat) : (qI (p ++ q)).drop p.length = qI q := by
 rw [qI_app, ← qI_len p, List.drop_left]
structure FJ (W : List Wy) (N a : Nat) (o : List Int) (x : Nat) (q : List Nat) (k j : Nat) : Prop where
 fq : FQ W N a o (x :: q)
 dn : dnk W o x k
 d0 : 0 < j → aN W k = x → 0 ≤ ov o (bN W k) ∧ ov o (bN W k) ≤ ov o x + 1
 d1 : 1 < j → bN W k = x → 0 ≤ ov o (aN W k) ∧ ov o (aN W k) ≤ ov o x + 1
theorem FJ.start {W : List Wy} {N a : Nat} {o : List Int} {x : Nat} {q : List Nat} (h : FQ W N a o (x :: q)) : FJ W N a o x q 0 0 := ⟨h, fun i hi => by omega, fun h => by omega, fun h => by omega⟩
theorem FJ.next {W : List Wy} {N a : Nat} {o : List Int} {x : Nat} {q : List Nat} {k : Nat} (h : FJ W N a o x q k 2) : FJ W N a o x q (k + 1) 0 := by
 refine ⟨h.fq, fun i hi => ?_, fun h => by omega, fun h => by omega⟩
 by_cases e : i = k
 ·rw [e]; exact ⟨h.d0 (by omega), h.d1 (by omega)⟩
 ·exact h.dn i (by omega)
def dU (W : List Wy) (k j : Nat) : Nat := if j = 0 then aN W k else bN W k
def dV (W : List Wy) (k j : Nat) : Nat := if j = 0 then bN W k else aN W k
theorem FJ.keep {W : List Wy} {N a : Nat} {o : List Int} {x : Nat} {q : List Nat} {k j : Nat} (h : FJ W N a o x q k j) (hj : j < 2) (hv : dV W k j < N) (hn : dU W k j = x → 0 ≤ ov o (dV W k j)) : FJ W N a o x q k (j + 1) := by
 have ht := h.fq.top x (by simp) _ hv
 obtain rfl | rfl : j = 0 ∨ j = 1 := by omega
 ·exact ⟨h.fq, h.dn, fun _ e => ⟨hn e, ht⟩, fun h => by omega⟩
 ·exact ⟨h.fq, h.dn, fun _ => h.d0 (by omega), fun _ e => ⟨hn e, ht⟩⟩
theorem FJ.push {W : List Wy} {N a : Nat} {o : List Int} {x : Nat} {q : List Nat} {k j : Nat} (h : FJ W N a o x q k j) (hj : j < 2) (hk : k < W.length) (hv : dV W k j < N) (hu : dU W k j = x) (hw : ov o (dV W k j) < 0) : FJ W N a (o.set (dV W k j) (ov o x + 1)) x (q ++ [dV W k j]) k (j + 1) := by
 have hl : dV W k j < o.length := by rw [h.fq.fi.len]; exact hv
 have hx := h.fq.qn x (by simp)
 have had : adW W x (dV W k j) := by
  obtain rfl | rfl : j = 0 ∨ j = 1 := by omega
  ·exact ⟨k, hk, .inl ⟨hu, rfl⟩⟩
  ·exact ⟨k, hk, .inr ⟨hu, rfl⟩⟩
 have hs := ov_set (ov o x + 1) hl
 have hxy : x ≠ dV W k j := by intro e; rw [← e] at hw; omega
 refine FJ.keep (j := j) ⟨h.fq.push hv had hw, dnk_set h.dn hl hw hx.2, fun h1 e => ?_, fun h1 e => by omega⟩ hj hv fun _ => by rw [hs, if_pos rfl]; omega
 have := h.d0 h1 e
 rw [hs x, if_neg hxy, hs]
 split <;> omega
theorem far_pure {r : Rm} (hv : RV r) (a : Int) (ha : 0 ≤ a ∧ a < r.ps.length) : Pure Tryz.prog 77 [rmA r, .int a] (.ints (dF r.wy r.ps.length a.toNat)) := by
 have hN := hv.ps
 have hW := hv.wy
 have hin := @ways_in r hv
 have c0 := rep0_spec r.ps.length (by omega)
 have e0 : List.replicate r.ps.length (AV.int (-1)) = (List.replicate r.ps.length (-1 : Int)).map AV.int := by simp
 have e1 : (List.replicate r.ps.length (-1 : Int)).length = r.ps.length := by simp
 rw [e0] at c0
 have e2 : shiftL 1 ((List.replicate r.ps.length (-1 : Int)).map AV.int) = (List.replicate r.ps.length (-1 : Int)).map AV.int := by rw [← e0]; exact shR1 _ _
 have hst := FQ.start (W := r.wy) (N := r.ps.length) (a := a.toNat) (by omega)
 generalize List.replicate r.ps.length (-1 : Int) = o0 at *
 have e3 : (qI ([] ++ [a.toNat])).map AV.int = [.int a] := by simp [qI]; omega
 unfold rmA
 (refine Spec.bd 0 Tryz.func77 Tryz.results77 Tryz.ntmps77 ?_; simp only [entry, zipArgs, Nat.reduceAdd])
 ((refine x_pre (zc @rmC.eq_1 (zc @e1 @e2)) ?_); (iterate 2 (refine x_nr (zc @rmC.eq_1 (zc @e1 @e2)) ?_)); (refine x_nil (zc @rmC.eq_1 (zc @e1 @e2)) ?_))
 (refine x_fzP (zc @rmC.eq_1 (zc @e1 @e2)) (slq 2) ?_)
 (refine x_go (zc @rmC.eq_1 (zc @e1 @e2)) ?_)
 (apply Run.freshE (he := (Enters.of Tryz.func101 rfl rfl)); (simp only [push_cast, seval, rmC, e1, e2] <;> first | exact rfl | assumption); (exact x_ev (zc @rmC.eq_1 (zc @e1 @e2))); (exact c0); ((exact x_cl (zc @rmC.eq_1 (zc @e1 @e2)))); (exact x_ev (zc @rmC.eq_1 (zc @e1 @e2))); (exact x_ev (zc @rmC.eq_1 (zc @e1 @e2))); dsimp only [S.put, optG])
 (refine x_gob (zc @rmC.eq_1 (zc @e1 @e2)) ?_)
 (refine Wp.vacs 2 ?_; (try simp only [List.replicate_succ, List.replicate_zero, List.cons_append, List.nil_append]))
 generalize o0.set a.toNat 0 = o1 at *
 refine Wp.loop (fun (b : List Int × (List Nat × List Nat) × Nat × (Nat × Kind) × (Nat × Kind)) => { t := [(1, .int a), (2, .ref (rmC r) 0), (5, .osl 1 0 0 r.ps.length), (6, .osl 2 b.2.2.1 b.2.1.1.length b.2.1.2.length)], m := [⟨1, .row 8 []⟩, ⟨0, .row 1 (b.1.map AV.int)⟩, ⟨b.2.2.1, .row 1 ((qI (b.2.1.1 ++ b.2.1.2)).map AV.int)⟩, ⟨b.2.2.2.1.1, b.2.2.2.1.2⟩, ⟨b.2.2.2.2.1, b.2.2.2.2.2⟩], n := 79 }) (fun b => FQ r.wy r.ps.length a.toNat b.1 b.2.1.2 ∧ 2 * unv b.1 + b.2.1.2.length ≤ 100) (fun b => 2 * unv b.1 + b.2.1.2.length) (o1, ([], [a.toNat]), 0, (0, .row 1 []), (0, .row 1 [])) ?_ ?_ ?_
 ·simp only [e3]
  (refine Le.of ?_ ?_ rfl rfl <;> (try simp only [push_cast, seval, rmC, e1, e2]) <;> (try (with_reducible rfl)))
  all_goals (first | exact ⟨rfl, rfl⟩ | rfl)
 ·have h1 := hst.fi.len
  have h2 : unv o1 ≤ o1.length := List.countP_le_length
  exact ⟨hst, by simp; omega⟩
 ·clear hst e3 e2 e1 c0 e0
  rintro ⟨o, ⟨P, q⟩, v, ⟨v3, k3⟩, v4, k4⟩ ⟨hfq, hm0⟩
  simp only at hfq hm0
  have hol := hfq.fi.len
  cases q with
  | nil =>
   simp only [List.length_nil]
   (refine x_go (zc @rmC.eq_1 @hol) ?_)
   (apply Wp.cond; (exact x_ev (zc @rmC.eq_1 @hol)))
   ·intro hc
    simp at hc
   ·intro hc
    obtain rfl := hfq.end_.is
    (apply Wp.freeze 5; (exact x_ev (zc @rmC.eq_1 @hol)); (exact x_ev (zc @rmC.eq_1 @hol)); (focus (try simp only [push_cast, seval, rmC, hol]); (try (exact sT))); (focus (exact sT)))
    (refine x_go (zc @rmC.eq_1 @hol) ?_)
    (first | exact x_ret (zc @rmC.eq_1 @hol) | refine x_retZ (zc @rmC.eq_1 @hol) ?_)
    rw [List.take_of_length_le (by omega)]
  | cons x q =>
   have d0 : decide ((0 : Int) < (q.length : Int) + 1) = true := decide_eq_true (by omega)
   simp only [List.length_cons] at hm0 ⊢
   (refine x_gg (zc @rmC.eq_1 (zc @hol @d0)) ?_)
   refine Wp.loop (fun (b : Nat × List Int × (List Nat × List Nat) × Nat × (Nat × Kind) × (Nat × Kind)) => { t := [(1, .int a), (2, .ref (rmC r) 0), (5, .osl 1 0 0 r.ps.length), (6, .osl 2 b.2.2.2.1 b.2.2.1.1.length (b.2.2.1.2.length + 1)), (27, .lst 3 (r.wy.map wyA)), (28, .int r.wy.length), (29, .int b.1)], m := [⟨1, .row 8 []⟩, ⟨0, .row 1 (b.2.1.map AV.int)⟩, ⟨b.2.2.2.1, .row 1 ((qI (b.2.2.1.1 ++ x :: b.2.2.1.2)).map AV.int)⟩, ⟨b.2.2.2.2.1.1, b.2.2.2.2.1.2⟩, ⟨b.2.2.2.2.2.1, b.2.2.2.2.2.2⟩], n := 79 }) (fun b => b.1 ≤ r.wy.length ∧ FJ r.wy r.ps.length a.toNat b.2.1 x b.2.2.1.2 b.1 0 ∧ 2 * unv b.2.1 + b.2.2.1.2.length ≤ 2 * unv o + q.length) (fun b => r.wy.length - b.1) (0, o, (P, q), v, (v3, k3), (v4, k4)) ?_ ?_ ?_
   ·(refine Le.of ?_ ?_ rfl rfl <;> (try simp only [push_cast, seval, rmC, hol, d0]) <;> (try (with_reducible rfl)))
    all_goals (first | exact ⟨rfl, rfl⟩ | rfl)
   ·exact ⟨by simp, FJ.start hfq, by simp⟩
   ·rintro ⟨k, o2, ⟨P2, q2⟩, v, ⟨v3, k3⟩, v4, k4⟩ ⟨hk1, hfj, hmu⟩
    simp only at hk1 hfj hmu
    have hol := hfj.fq.fi.len
    (refine x_go (zc @rmC.eq_1 @hol) ?_)
    (apply Wp.cond; (exact x_ev (zc @rmC.eq_1 @hol)))
    ·(intro hc; first | replace hc := bT hc | skip)
     have hx2 := hin hc
     have hgd := fun d => getD_wy (d := d) hc
     have hab : aN r.wy k < r.ps.length ∧ bN r.wy k < r.ps.length := by unfold aN bN; omega
     have hwa : r.wy.getD k wy0 = ⟨(aN r.wy k : Int), (bN r.wy k : Int), (r.wy.getD k wy0).wh⟩ := by
      unfold aN bN
      rw [Int.toNat_of_nonneg hx2.1.1, Int.toNat_of_nonneg hx2.2.1]
     generalize (r.wy.getD k wy0).wh = wh at hwa
     rw [hwa] at hgd
     (refine x_gs (zc @rmC.eq_1 (zc @hol (zc @hgd @wyA.eq_1))) ?_)
     (apply Run.alcAt 3; (exact x_ev (zc @rmC.eq_1 (zc @hol (zc @hgd @wyA.eq_1)))); ((try simp only [push_cast, seval, rmC, hol, hgd, wyA]) <;> exact sT); exact rfl; (try simp only [push_cast, seval, rmC, hol, hgd, wyA]))
     (refine x_go (zc @rmC.eq_1 (zc @hol (zc @hgd @wyA.eq_1))) ?_)
     refine Wp.loop (fun (b : Nat × List Int × (List Nat × List Nat) × Nat × Nat × Kind) => { t := [(1, .int a), (2, .ref (rmC r) 0), (5, .osl 1 0 0 r.ps.length), (6, .osl 2 b.2.2.2.1 b.2.2.1.1.length (b.2.2.1.2.length + 1)), (27, .lst 3 (r.wy.map wyA)), (28, .int r.wy.length), (29, .int k), (43, .agg [.int (aN r.wy k), .int (bN r.wy k), .int (bN r.wy k), .int (aN r.wy k)]), (44, .int b.1)], m := [⟨1, .row 8 []⟩, ⟨0, .row 1 (b.2.1.map AV.int)⟩, ⟨b.2.2.2.1, .row 1 ((qI (b.2.2.1.1 ++ x :: b.2.2.1.2)).map AV.int)⟩, ⟨v3 + 1, .row 3 [wyA ⟨(aN r.wy k : Int), (bN r.wy k : Int), wh⟩]⟩, ⟨b.2.2.2.2.1, b.2.2.2.2.2⟩], n := 79 }) (fun b => b.1 ≤ 2 ∧ FJ r.wy r.ps.length a.toNat b.2.1 x b.2.2.1.2 k b.1 ∧ 2 * unv b.2.1 + b.2.2.1.2.length ≤ 2 * unv o + q.length) (fun b => 2 - b.1) (0, o2, (P2, q2), v, (v4, k4)) ?_ ?_ ?_
     ·(refine Le.of ?_ ?_ rfl rfl <;> (try simp only [push_cast, seval, rmC, hol, hgd, wyA]) <;> (try (with_reducible rfl)))
      all_goals (first | exact ⟨rfl, rfl⟩ | rfl)
     ·exact ⟨by simp, hfj, hmu⟩
     ·clear hfj hmu hol hgd
      rintro ⟨j, o2, ⟨P2, q2⟩, v, v4, k4⟩ ⟨hj1, hfj, hmu⟩
      simp only at hj1 hfj hmu
      have hol := hfj.fq.fi.len
      (refine x_go (zc @rmC.eq_1 @hol) ?_)
      (apply Wp.cond; (exact x_ev (zc @rmC.eq_1 @hol)))
      ·intro hc2
       have hj2 : j < 2 := by simp only [decide_eq_true_eq] at hc2; omega
       have hag : List.take 2 (List.drop (j * 2) [AV.int (aN r.wy k), AV.int (bN r.wy k), AV.int (bN r.wy k), AV.int (aN r.wy k)]) = [.int (dU r.wy k j), .int (dV r.wy k j)] := by
        obtain rfl | rfl : j = 0 ∨ j = 1 := by omega
        ·rfl
        ·rfl
       have hu2 : dU r.wy k j < r.ps.length := by unfold dU; split <;> omega
       have hv2 : dV r.wy k j < r.ps.length := by unfold dV; split <;> omega
       have hkeep := hfj.keep hj2 hv2
       have hpush := hfj.push hj2 hc hv2
       generalize dU r.wy k j = u at *
       generalize dV r.wy k j = w at *
       have hhd := qI_head P2 q2 x
       have hql : (qI (P2 ++ x :: q2)).length = P2.length + (q2.length + 1) := by rw [qI_len, List.length_append, List.length_cons]
       have hqd := qI_drop P2 (x :: q2)
       have hsnoc : qI ([] ++ x :: (q2 ++ [w])) = qI (x :: q2) ++ [(w : Int)] := by rw [List.nil_append, ← List.cons_append, qI_app]; rfl
       have hqt : (qI (x :: q2)).take (q2.length + 1) = qI (x :: q2) := List.take_of_length_le (by rw [qI_len]; simp)
       generalize hQQ : qI (P2 ++ x :: q2) = Q at hhd hql hqd ⊢
       generalize qI (x :: q2) = Q2 at *
       unfold ov at hkeep hpush
       obtain ⟨z, hz⟩ : ∃ z, o2.getD w 0 = z := ⟨_, rfl⟩
       simp only [hz] at hkeep hpush
       by_cases c1 : u = x
       ·have d1 : decide ((u : Int) = (x : Int)) = true := decide_eq_true (by omega)
        by_cases c2 : z < 0
        ·have d2 : decide (z < 0) = true := decide_eq_true c2
         have hpu := hpush c1 c2
         have hbu := hfj.fq.fi.top (hfj.fq.qn x (by simp)).1
         have hbl := (hfj.fq.qn x (by simp)).2
         subst c1
         unfold ov at hbu hbl
         (refine x_gs (zc @rmC.eq_1 (zc @hol (zc @hag (zc @hhd (zc @hql (zc @hqd (zc @hqt (zc @hz (zc @d1 @d2))))))))) ?_)
         (apply Run.alcAt 4; (exact x_ev (zc @rmC.eq_1 (zc @hol (zc @hag (zc @hhd (zc @hql (zc @hqd (zc @hqt (zc @hz (zc @d1 @d2)))))))))); ((try simp only [push_cast, seval, rmC, hol, hag, hhd, hql, hqd, hqt, hz, d1, d2]) <;> exact sT); exact rfl; (try simp only [push_cast, seval, rmC, hol, hag, hhd, hql, hqd, hqt, hz, d1, d2]))
         (refine x_go (zc @rmC.eq_1 (zc @hol (zc @hag (zc @hhd (zc @hql (zc @hqd (zc @hqt (zc @hz (zc @d1 @d2))))))))) ?_)
         (refine Wp.rnD 14 ?_; apply exAb; (((refine x_abn (zc @rmC.eq_1 (zc @hol (zc @hag (zc @hhd (zc @hql (zc @hqd (zc @hqt (zc @hz (zc @d1 @d2))))))))) ?_)); exact Abn.nil))
         (refine x_gg (zc @rmC.eq_1 (zc @hol (zc @hag (zc @hhd (zc @hql (zc @hqd (zc @hqt (zc @hz (zc @d1 @d2))))))))) ?_)
         (apply Wp.runE 10 10 mixed; (dsimp only [List.map] <;> exact rfl); exact rfl; kernel_rfl; ((refine x_nx (zc @rmC.eq_1 (zc @hol (zc @hag (zc @hhd (zc @hql (zc @hqd (zc @hqt (zc @hz (zc @d1 @d2))))))))) ?_); (refine x_ef (zc @rmC.eq_1 (zc @hol (zc @hag (zc @hhd (zc @hql (zc @hqd (zc @hqt (zc @hz (zc @d1 @d2))))))))) ?_); exact Abe.nil))
         (refine x_go (zc @rmC.eq_1 (zc @hol (zc @hag (zc @hhd (zc @hql (zc @hqd (zc @hqt (zc @hz (zc @d1 @d2))))))))) ?_)
         refine ⟨(j + 1, o2.set w (o2.getD u 0 + 1), ([], q2 ++ [w]), v + 1, v4 + 1, .row 2 [.agg [.int u, .int w]]), ?_, ⟨by simp only; omega, hpu, ?_⟩, by simp only; omega⟩
         ·simp only [hsnoc, List.length_append, List.length_singleton, List.length_nil]
          (refine Le.of ?_ ?_ rfl rfl <;> (try simp only [push_cast, seval, rmC, hol, hag, hhd, hql, hqd, hqt, hz, d1, d2]) <;> (try (with_reducible rfl)))
         ·have := unv_set (o := o2) (y := w) (z := o2.getD u 0 + 1) (by omega) (by unfold ov; omega) (by omega)
          simp only [List.length_append, List.length_singleton]
          omega
        ·have d2 : decide (z < 0) = false := decide_eq_false c2
         (refine x_gs (zc @rmC.eq_1 (zc @hol (zc @hag (zc @hhd (zc @hql (zc @hqd (zc @hqt (zc @hz (zc @d1 @d2))))))))) ?_)
         (apply Run.alcAt 4; (exact x_ev (zc @rmC.eq_1 (zc @hol (zc @hag (zc @hhd (zc @hql (zc @hqd (zc @hqt (zc @hz (zc @d1 @d2)))))))))); ((try simp only [push_cast, seval, rmC, hol, hag, hhd, hql, hqd, hqt, hz, d1, d2]) <;> exact sT); exact rfl; (try simp only [push_cast, seval, rmC, hol, hag, hhd, hql, hqd, hqt, hz, d1, d2]))
         (refine x_go (zc @rmC.eq_1 (zc @hol (zc @hag (zc @hhd (zc @hql (zc @hqd (zc @hqt (zc @hz (zc @d1 @d2))))))))) ?_)
         (refine Wp.rnD 14 ?_; apply exAb; (((refine x_abn (zc @rmC.eq_1 (zc @hol (zc @hag (zc @hhd (zc @hql (zc @hqd (zc @hqt (zc @hz (zc @d1 @d2))))))))) ?_)); exact Abn.nil))
         (refine x_gg (zc @rmC.eq_1 (zc @hol (zc @hag (zc @hhd (zc @hql (zc @hqd (zc @hqt (zc @hz (zc @d1 @d2))))))))) ?_)
         refine ⟨(j + 1, o2, (P2, q2), v, v4 + 1, .row 2 [.agg [.int u, .int w]]), ?_, ⟨by simp only; omega, hkeep fun _ => by omega, hmu⟩, by simp only; omega⟩
         simp only [hQQ]
         (refine Le.of ?_ ?_ rfl rfl <;> (try simp only [push_cast, seval, rmC, hol, hag, hhd, hql, hqd, hqt, hz, d1, d2]) <;> (try (with_reducible rfl)))
       ·have d1 : decide ((u : Int) = (x : Int)) = false := decide_eq_false (by omega)
        (refine x_gs (zc @rmC.eq_1 (zc @hol (zc @hag (zc @hhd (zc @hql (zc @hqd (zc @hqt (zc @hz @d1)))))))) ?_)
        (apply Run.alcAt 4; (exact x_ev (zc @rmC.eq_1 (zc @hol (zc @hag (zc @hhd (zc @hql (zc @hqd (zc @hqt (zc @hz @d1))))))))); ((try simp only [push_cast, seval, rmC, hol, hag, hhd, hql, hqd, hqt, hz, d1]) <;> exact sT); exact rfl; (try simp only [push_cast, seval, rmC, hol, hag, hhd, hql, hqd, hqt, hz, d1]))
        (refine x_go (zc @rmC.eq_1 (zc @hol (zc @hag (zc @hhd (zc @hql (zc @hqd (zc @hqt (zc @hz @d1)))))))) ?_)
        (refine Wp.rnD 14 ?_; apply exAb; (((refine x_abn (zc @rmC.eq_1 (zc @hol (zc @hag (zc @hhd (zc @hql (zc @hqd (zc @hqt (zc @hz @d1)))))))) ?_)); exact Abn.nil))
        (refine x_gg (zc @rmC.eq_1 (zc @hol (zc @hag (zc @hhd (zc @hql (zc @hqd (zc @hqt (zc @hz @d1)))))))) ?_)
        refine ⟨(j + 1, o2, (P2, q2), v, v4 + 1, .row 2 [.agg [.int u, .int w]]), ?_, ⟨by simp only; omega, hkeep fun e => absurd e c1, hmu⟩, by simp only; omega⟩
        simp only [hQQ]
        (refine Le.of ?_ ?_ rfl rfl <;> (try simp only [push_cast, seval, rmC, hol, hag, hhd, hql, hqd, hqt, hz, d1]) <;> (try (with_reducible rfl)))
      ·intro hc2
       obtain rfl : j = 2 := by simp only [decide_eq_false_iff_not] at hc2; omega
       (refine x_go (zc @rmC.eq_1 @hol) ?_)
       refine ⟨(k + 1, o2, (P2, q2), v, (v3 + 1, .row 3 [wyA ⟨(aN r.wy k : Int), (bN r.wy k : Int), wh⟩]), v4, k4), ?_, ⟨by simp only; omega, hfj.next, hmu⟩, by simp only; omega⟩
       unfold wyA
       (refine Le.of ?_ ?_ rfl rfl <;> (try simp only [push_cast, seval, rmC, hol]) <;> (try (with_reducible rfl)))
    ·(intro hc; first | replace hc := bT hc | skip)
     obtain rfl : k = r.wy.length := by omega
     (refine x_go (zc @rmC.eq_1 @hol) ?_)
     refine ⟨(o2, (P2 ++ [x], q2), v, (v3, k3), v4, k4), ?_, ⟨hfj.fq.pop hfj.dn, by simp only; omega⟩, by simp only; omega⟩
     ·simp only [List.append_assoc, List.singleton_append, List.length_append, List.length_singleton]
      (refine Le.of ?_ ?_ rfl rfl <;> (try simp only [push_cast, seval, rmC, hol]) <;> (try (with_reducible rfl)))
end Go.Proofs.Tryz
set_option maxHeartbeats 16000000
namespace Go.Proofs.Tryz
open Go.Vg
theorem inv_trim {X : Nat → Prop} {w : World} {ρ : Rho} {m : Mem} (hi : Inv X w ρ m) (i n : Nat) {ver sz : Nat} {l : List AV} (hm : m[i]? = some ⟨ver, .row sz l⟩) : Inv X w ρ (m.set i ⟨ver, .row sz (l.take n)⟩) := by
 refine ⟨by simp [hi.len], fun i' r' e' hr' he => ?_, hi.apart, hi.new, hi.out, hi.gd⟩
 rcases getElem?_set_cases he with ⟨h0, _, rfl⟩ | ⟨hne, he'⟩
 ·subst h0
  obtain ⟨q1, q2, q3, q4⟩ := hi.at_ _ r' _ hr' hm
  refine ⟨q1, q2, fun hb => by rw [q3 hb]; simp, fun b hb => ?_⟩
  obtain ⟨z1, z2, z3⟩ := q4 b hb
  refine ⟨z1, Nat.le_trans (Nat.add_le_add_left (Nat.mul_le_mul_right _ ?_) _) z2, z3.take n⟩
  simp; omega
 ·exact hi.at_ i' r' e' hr' he'
theorem delete_trim {m : Mem} {id ver : Nat} {l : List Int} (hm : m[id]? = some ⟨ver, .row 1 (l.map AV.int)⟩) (n i : Nat) (hi0 : i < n) (hlen : l.length ≤ 1000) (hnl : n = l.length) :
  Go.Vg.Spec Tryz.prog 78 [.osl id ver 0 n, .int i, .int (i + 1)] m (fun x m' => x = .osl id ver 0 (n - 1) ∧ m' = m.set id ⟨ver, .row 1 ((l.eraseIdx i).map AV.int)⟩) := by
 intro X w ρ vs hi hr
 refine ((delete_spec hm n i (by omega) hi0 hlen hnl) X w ρ vs hi hr).mono ?_
 rintro e w' ⟨v, x, m', ρ', e1, ⟨rfl, rfl⟩, k1, k2, k3⟩
 have hlt := (List.getElem?_eq_some_iff.1 hm).1
 have k4 := inv_trim k2 id (n - 1) (List.getElem?_set_self hlt)
 rw [List.set_set] at k4
 have e2 : (((l.take i ++ l.drop (i + 1) ++ [0]).map AV.int).take (n - 1)) = (l.eraseIdx i).map AV.int := by
  have h1 : (l.take i ++ l.drop (i + 1)).length = n - 1 := by simp; omega
  rw [List.map_append, List.take_append_of_le_length (by rw [List.length_map, h1]; omega), List.take_of_length_le (by rw [List.length_map, h1]; omega), List.eraseIdx_eq_take_drop_succ]
 rw [e2] at k4
 exact ⟨v, _, _, ρ', e1, ⟨rfl, rfl⟩, k1, k4, k3⟩
theorem order_err {r : Rm} (hz : Sz r) {s : St} (hs : Zs s) (h1 : begE r s ≠ 0) : Pure Tryz.prog 42 [rmA r, stA s] (.tup [.emp, .int (begE r s)]) := by
 have c0 := begin_err hz hs h1
 have e2 : decide (begE r s = 0) = false := decide_eq_false h1
 generalize begE r s = e at *
 unfold rmA rmC at *
 unfold stA at *
 (refine Spec.bd 0 Tryz.func42 Tryz.results42 Tryz.ntmps42 ?_; simp only [entry, zipArgs, Nat.reduceAdd])
 ((refine x_pre (zc @e2 @Bool.not_false) ?_); (iterate 4 (refine x_nr (zc @e2 @Bool.not_false) ?_)); (refine x_nil (zc @e2 @Bool.not_false) ?_))
 (refine x_fzP (zc @e2 @Bool.not_false) (slq 2) ?_)
 (refine x_fzP (zc @e2 @Bool.not_false) (slq 3) ?_)
 (refine x_go (zc @e2 @Bool.not_false) ?_)
 (apply Run.pureFP; (exact x_ev (zc @e2 @Bool.not_false)); (exact (Enters.of Tryz.func46 rfl rfl)); (exact c0); (exact x_al (zc @e2 @Bool.not_false)); (try dsimp only [putA, optG]))
 (refine x_gg (zc @e2 @Bool.not_false) ?_)
 (first | exact x_ret (zc @e2 @Bool.not_false) | refine x_retZ (zc @e2 @Bool.not_false) ?_)
theorem order_ok {r : Rm} (hz : Sz r) {s : St} (hs : Zs s) (h : begE r s = 0) : Pure Tryz.prog 42 [rmA r, stA s] (ordA r s) := by
 obtain ⟨hb0, hb1⟩ := begE_zero h
 obtain ⟨hv, hs2, hch⟩ := cs_zero hb1
 have hf := bg_SV hb0
 have c0 := begin_spec hz hs h
 have c2 := @far_pure r hv
 have hLin := @lfL_in r hv s hs2.ts (by rw [hs2.pp, hf.pp])
 have hN := hv.ps
 have hUl : ∀ i, i < (unL s.ts (bgS r).ts).length → 0 ≤ (unL s.ts (bgS r).ts).getD i 0 ∧ (unL s.ts (bgS r).ts).getD i 0 < r.ts.length := fun i hi => by
  have := unL_mem (getD_mem' hi); rw [hs2.ts] at this; exact this
 have hVl : ∀ i, i < (unL s.pp (bgS r).pp).length → 0 ≤ (unL s.pp (bgS r).pp).getD i 0 ∧ (unL s.pp (bgS r).pp).getD i 0 < (bgS r).pp.length := fun i hi => by
  have := unL_mem (getD_mem' hi); rw [hs2.pp, ← hf.pp] at this; exact this
 have c3 := unlike_pure s.ts (bgS r).ts (by have := hs.ts; omega) (by rw [hf.ts, hs2.ts])
 have c4 := unlike_pure s.pp (bgS r).pp (by have := hs.pp; omega) (by rw [hf.pp, hs2.pp])
 have hbp := @bgS_pp r hv
 have htp := @ts_pl r hv
 have hfd : ∀ a, a < r.ps.length → FD r.wy r.ps.length a (dF r.wy r.ps.length a) := fun a ha => FD.dF (fun i hi => by have := ways_in hv hi; unfold aN bN; omega) ha
 have hlU := unL_len s.ts (bgS r).ts
 have hlV := unL_len s.pp (bgS r).pp
 have hs1 := hs.ts
 have hs3 := hs.pp
 have hLd : lfL r s = cmpI (srtI (tsP r (unL s.ts (bgS r).ts) ++ ppP (bgS r) (unL s.pp (bgS r).pp))) := rfl
 unfold ordA
 rw [if_pos h]
 unfold begM at c0
 generalize unL s.ts (bgS r).ts = U at *
 generalize unL s.pp (bgS r).pp = V at *
 generalize lfL r s = L at *
 generalize bgS r = f at *
 unfold rmA rmC at *
 unfold stA at *
 (refine Spec.bd 0 Tryz.func42 Tryz.results42 Tryz.ntmps42 ?_; simp only [entry, zipArgs, Nat.reduceAdd])
 ((refine w_pre ?_); (iterate 4 (refine w_nr ?_)); (refine w_nil ?_))
 (refine w_fzP (slq 2) ?_)
 (refine w_fzP (slq 3) ?_)
 (refine w_go ?_)
 (apply Run.freshE (he := (Enters.of Tryz.func46 rfl rfl)); (simp only [push_cast, seval] <;> first | exact rfl | assumption); (exact w_ev); (exact c0); ((exact w_cl)); (exact w_ev); (exact w_ev); dsimp only [S.put, optG])
 (refine w_gg ?_)
 refine Wp.freezeRow 5 8 (vi := 1) (off := 0) (len := s.ts.length) (szi := 1) (li := s.ts.map AV.int) (le' := [.agg [.strs r.ps, .lst 4 (r.ts.map thA), .lst 3 (r.pp.map ppA), .lst 3 (r.wy.map wyA), .lst 8 (r.ac.map acA), .lst 3 (r.au.map auA), .int r.n, .lst 3 (r.goal.map ltA), .ints f.ts, .ints f.pp, .ints f.pl, .ints s.ts, .osl 9 1 0 s.pp.length, .osl 10 1 0 s.pl.length, .int 0]]) (by decide) rfl rfl (by simp) (by simp) ?_ ?_
 ·exact ⟨.inr ⟨_, _, rfl, rfl, .inl rfl, .inl rfl, .inl rfl, .inl rfl, .inl rfl, .inl rfl, .inl rfl, .inl rfl, .inl rfl, .inl rfl, .inl rfl, .inr ⟨rfl, by rw [List.drop_zero, List.take_of_length_le (by simp)]⟩, .inl rfl, .inl rfl, .inl rfl, trivial⟩, trivial⟩
 dsimp only [List.set]
 refine Wp.freezeRow 5 9 (vi := 1) (off := 0) (len := s.pp.length) (szi := 1) (li := s.pp.map AV.int) (le' := [.agg [.strs r.ps, .lst 4 (r.ts.map thA), .lst 3 (r.pp.map ppA), .lst 3 (r.wy.map wyA), .lst 8 (r.ac.map acA), .lst 3 (r.au.map auA), .int r.n, .lst 3 (r.goal.map ltA), .ints f.ts, .ints f.pp, .ints f.pl, .ints s.ts, .ints s.pp, .osl 10 1 0 s.pl.length, .int 0]]) (by decide) rfl rfl (by simp) (by simp) ?_ ?_
 ·exact ⟨.inr ⟨_, _, rfl, rfl, .inl rfl, .inl rfl, .inl rfl, .inl rfl, .inl rfl, .inl rfl, .inl rfl, .inl rfl, .inl rfl, .inl rfl, .inl rfl, .inl rfl, .inr ⟨rfl, by rw [List.drop_zero, List.take_of_length_le (by simp)]⟩, .inl rfl, .inl rfl, trivial⟩, trivial⟩
 dsimp only [List.set]
 (refine Wp.rnD 13 ?_; apply exAb; (((refine w_abn ?_); (apply Abn.pureFP; (exact w_ev); (exact (Enters.of Tryz.func65 rfl rfl)); (exact c3); (exact w_al); (try dsimp only [putA, optG])); (refine w_abn ?_)); exact Abn.nil))
 (refine w_go ?_)
 apply Wp.adopt 7 1; (exact w_ev)
 have htk : ∀ k, k < U.length → U.take (k + 1) = U.take k ++ [U.getD k 0] := fun k hk => by rw [List.take_succ]; simp [hk]
 refine Wp.loop (fun k : Nat => { t := [(2, .ref [.strs r.ps, .lst 4 (r.ts.map thA), .lst 3 (r.pp.map ppA), .lst 3 (r.wy.map wyA), .lst 8 (r.ac.map acA), .lst 3 (r.au.map auA), .int r.n, .lst 3 (r.goal.map ltA)] 0), (4, .emp), (6, .optr 5 1 0 0), (7, .osl 11 (tsP r (U.take k)).length 0 (tsP r (U.take k)).length), (36, .ints U), (37, .int U.length), (38, .int k)], m := [⟨1, .row 8 []⟩, ⟨1, .row 3 []⟩, ⟨1, .row 8 []⟩, ⟨1, .row 3 []⟩, ⟨0, .row 3 [.agg [.ints f.ts, .ints f.pp, .ints f.pl]]⟩, ⟨1, .row 15 [.agg [.strs r.ps, .lst 4 (r.ts.map thA), .lst 3 (r.pp.map ppA), .lst 3 (r.wy.map wyA), .lst 8 (r.ac.map acA), .lst 3 (r.au.map auA), .int r.n, .lst 3 (r.goal.map ltA), .ints f.ts, .ints f.pp, .ints f.pl, .ints s.ts, .ints s.pp, .osl 10 1 0 s.pl.length, .int 0]]⟩, ⟨1, .row 3 []⟩, ⟨0, .row 3 [.agg [.osl 8 1 0 s.ts.length, .osl 9 1 0 s.pp.length, .osl 10 1 0 s.pl.length]]⟩, ⟨2, .row 1 []⟩, ⟨2, .row 1 []⟩, ⟨1, .row 1 (s.pl.map AV.int)⟩, ⟨(tsP r (U.take k)).length, .row 1 ((tsP r (U.take k)).map AV.int)⟩], n := 146 }) (fun k => k ≤ U.length) (fun k => U.length - k) 0 ?_ ?_ ?_
 ·(refine Le.of ?_ ?_ rfl rfl <;> (try simp only [push_cast, seval]) <;> (try (with_reducible rfl)))
  all_goals (first | exact ⟨rfl, rfl⟩ | rfl)
 ·simp
 ·intro k hk1
  (refine w_go ?_)
  (apply Wp.cond; (exact w_ev))
  ·(intro hc; first | replace hc := bT hc | skip)
   have hu := hUl k hc
   have hst := htk k hc
   have hgd := fun d => getD_thE (d := d) (l := r.ts) (i := (U.getD k 0).toNat) (by omega)
   have htl : (tsP r (U.take k)).length ≤ 1000 := by simp [tsP]; omega
   have hsn : tsP r (U.take k ++ [U.getD k 0]) = tsP r (U.take k) ++ [(r.ts.getD (U.getD k 0).toNat th0).pl] := by simp [tsP]
   rw [← hst] at hsn
   generalize tsP r (U.take k) = T at *
   obtain ⟨u, hu2⟩ : ∃ u, U.getD k 0 = u := ⟨_, rfl⟩
   simp only [hu2] at hu hgd hsn
   obtain ⟨x, hx⟩ : ∃ x, r.ts.getD u.toNat th0 = x := ⟨_, rfl⟩
   simp only [hx] at hgd hsn
   have hT : T.take T.length = T := List.take_length
   (refine x_go (zc @hu2 (zc @hgd (zc @thA.eq_1 (zc @lenMp @hT)))) ?_)
   refine ⟨k + 1, ?_, by omega, by omega⟩
   simp only [hsn, List.length_append, List.length_singleton]
   (refine Le.of ?_ ?_ rfl rfl <;> (try simp only [push_cast, seval, hu2, hgd, thA, List.length_map, hT]) <;> (try (with_reducible rfl)))
  ·(intro hc; first | replace hc := bT hc | skip)
   obtain rfl : k = U.length := by omega
   rw [List.take_length]
   generalize hT1 : tsP r U = T at *
   have hTl : T.length = U.length := by rw [← hT1]; simp [tsP]
   (refine w_go ?_)
   (refine Wp.rnD 13 ?_; apply exAb; (((refine w_abn ?_); (apply Abn.pureFP; (exact w_ev); (exact (Enters.of Tryz.func65 rfl rfl)); (exact c4); (exact w_al); (try dsimp only [putA, optG])); (refine w_abn ?_)); exact Abn.nil))
   (refine w_go ?_)
   have hvk : ∀ k, k < V.length → ppP f (V.take (k + 1)) = if f.pp.getD (V.getD k 0).toNat 0 = -1 then ppP f (V.take k) else ppP f (V.take k) ++ [f.pp.getD (V.getD k 0).toNat 0] := fun k hk => by
    have e : V.take (k + 1) = V.take k ++ [V.getD k 0] := by rw [List.take_succ]; simp [hk]
    unfold ppP
    rw [e, List.map_append, List.filter_append]
    generalize V.getD k 0 = u
    rw [show List.map (fun v : Int => f.pp.getD v.toNat 0) [u] = [f.pp.getD u.toNat 0] from rfl]
    generalize f.pp.getD u.toNat 0 = y
    split
    ·rename_i q; simp [q]
    ·rename_i q; simp [q]
   have hvl : ∀ k, (ppP f (V.take k)).length ≤ V.length := fun k => by
    unfold ppP
    exact Nat.le_trans (List.length_filter_le _ _) (by simp; omega)
   refine Wp.loop (fun k : Nat => { t := [(2, .ref [.strs r.ps, .lst 4 (r.ts.map thA), .lst 3 (r.pp.map ppA), .lst 3 (r.wy.map wyA), .lst 8 (r.ac.map acA), .lst 3 (r.au.map auA), .int r.n, .lst 3 (r.goal.map ltA)] 0), (4, .emp), (6, .optr 5 1 0 0), (7, .osl 11 (T ++ ppP f (V.take k)).length 0 (T ++ ppP f (V.take k)).length), (62, .ints V), (63, .int V.length), (64, .int k)], m := [⟨1, .row 8 []⟩, ⟨1, .row 3 []⟩, ⟨1, .row 8 []⟩, ⟨1, .row 3 []⟩, ⟨0, .row 3 [.agg [.ints f.ts, .ints f.pp, .ints f.pl]]⟩, ⟨1, .row 15 [.agg [.strs r.ps, .lst 4 (r.ts.map thA), .lst 3 (r.pp.map ppA), .lst 3 (r.wy.map wyA), .lst 8 (r.ac.map acA), .lst 3 (r.au.map auA), .int r.n, .lst 3 (r.goal.map ltA), .ints f.ts, .ints f.pp, .ints f.pl, .ints s.ts, .ints s.pp, .osl 10 1 0 s.pl.length, .int 0]]⟩, ⟨1, .row 3 []⟩, ⟨0, .row 3 [.agg [.osl 8 1 0 s.ts.length, .osl 9 1 0 s.pp.length, .osl 10 1 0 s.pl.length]]⟩, ⟨2, .row 1 []⟩, ⟨2, .row 1 []⟩, ⟨1, .row 1 (s.pl.map AV.int)⟩, ⟨(T ++ ppP f (V.take k)).length, .row 1 ((T ++ ppP f (V.take k)).map AV.int)⟩], n := 146 }) (fun k => k ≤ V.length) (fun k => V.length - k) 0 ?_ ?_ ?_
   ·have e0 : T ++ ppP f (V.take 0) = T := by simp [ppP]
    simp only [e0]
    (refine Le.of ?_ ?_ rfl rfl <;> (try simp only [push_cast, seval]) <;> (try (with_reducible rfl)))
    all_goals (first | exact ⟨rfl, rfl⟩ | rfl)
   ·simp
   ·intro k hk1
    (refine w_go ?_)
    (apply Wp.cond; (exact w_ev))
    ·(intro hc; first | replace hc := bT hc | skip)
     have hu := hVl k hc
     have hst := hvk k hc
     have hl1 := hvl k
     have hpl := hbp (i := (V.getD k 0).toNat) (by omega)
     generalize ppP f (V.take k) = P at *
     obtain ⟨u, hu2⟩ : ∃ u, V.getD k 0 = u := ⟨_, rfl⟩
     simp only [hu2] at hu hst hpl
     obtain ⟨y, hy⟩ : ∃ y, f.pp.getD u.toNat 0 = y := ⟨_, rfl⟩
     simp only [hy] at hst hpl
     have hT : (T ++ P).take (T ++ P).length = T ++ P := List.take_length
     have hTPl : (T ++ P).length ≤ 300 := by rw [List.length_append]; omega
     by_cases e1 : y = -1
     ·have d1 : decide (y = -1) = true := decide_eq_true e1
      rw [if_pos e1] at hst
      (refine x_gg (zc @hu2 (zc @hy (zc @d1 @Bool.not_true))) ?_)
      refine ⟨k + 1, ?_, by omega, by omega⟩
      simp only [hst]
      (refine Le.of ?_ ?_ rfl rfl <;> (try simp only [push_cast, seval, hu2, hy, d1, Bool.not_true]) <;> (try (with_reducible rfl)))
     ·have d1 : decide (y = -1) = false := decide_eq_false e1
      rw [if_neg e1] at hst
      have hst2 : T ++ ppP f (V.take (k + 1)) = T ++ P ++ [y] := by rw [hst, List.append_assoc]
      generalize T ++ P = Q at *
      (refine x_gg (zc @hu2 (zc @hy (zc @d1 (zc @Bool.not_false (zc @lenMp @hT))))) ?_)
      (refine x_go (zc @hu2 (zc @hy (zc @d1 (zc @Bool.not_false (zc @lenMp @hT))))) ?_)
      refine ⟨k + 1, ?_, by omega, by omega⟩
      simp only [hst2, List.length_append, List.length_singleton]
      (refine Le.of ?_ ?_ rfl rfl <;> (try simp only [push_cast, seval, hu2, hy, d1, Bool.not_false, List.length_map, hT]) <;> (try (with_reducible rfl)))
    ·(intro hc; first | replace hc := bT hc | skip)
     obtain rfl : k = V.length := by omega
     rw [List.take_length]
     have hPl := hvl V.length
     rw [List.take_length] at hPl
     generalize ppP f V = P at *
     have hQl : (T ++ P).length ≤ 300 := by rw [List.length_append]; omega
     generalize hQQ : T ++ P = Q at *
     have hsl := srtI_len Q
     have hcl := cmpI_len (srtI Q)
     (refine x_go @lenMp ?_)
     (apply Run.spec (he := Enters.of Tryz.func74 rfl rfl); exact rfl; (simp only [push_cast, seval, List.length_map] <;> first | exact rfl | assumption); (exact x_ev @lenMp))
     ·exact sort_spec (id := 11) rfl (by omega)
     ·rintro _ _ ⟨rfl, rfl⟩
      dsimp only [List.set]
      dsimp only [S.put, optG]
      generalize hMM : srtI Q = M at *
      have c9 := fun m hm => compact_spec (id := 11) (ver := Q.length) (l := M) (m := m) hm (by omega)
      rw [hsl] at c9
      have hCC : cmpI M = L := by rw [hLd]
      rw [hCC] at c9 hcl
      have htk2 : ((L ++ List.replicate (Q.length - L.length) 0).map AV.int).take L.length = L.map AV.int := by
       rw [List.map_append, List.take_append_of_le_length (by simp), List.take_of_length_le (by simp)]
      have hZl : ((L ++ List.replicate (Q.length - L.length) 0).map AV.int).length = Q.length := by rw [List.length_map, List.length_append, List.length_replicate]; omega
      generalize hZ : (L ++ List.replicate (Q.length - L.length) 0).map AV.int = Z at *
      (refine x_go (zc @htk2 @hZl) ?_)
      (apply Run.spec (he := Enters.of Tryz.func75 rfl rfl); exact rfl; (simp only [push_cast, seval, htk2, hZl] <;> first | exact rfl | assumption); (exact x_ev (zc @htk2 @hZl)))
      ·exact c9 _ rfl
      ·rintro _ _ ⟨rfl, rfl⟩
       dsimp only [List.set]
       dsimp only [S.put, optG]
       (refine x_go (zc @htk2 @hZl) ?_)
       refine Wp.trim 11 L.length (ver := Q.length) (sz := 1) (l := Z) rfl ?_
       rw [htk2]
       dsimp only [List.set]
       apply Wp.adopt 4 1; (exact x_ev (zc @htk2 @hZl))
       have hLl : L.length ≤ 300 := by omega
       clear hUl hVl c3 c4 htp hbp hlU hlV hLd hTl htk hvk hvl hPl hsl c9 hMM hCC htk2 hZl hZ hQQ hT1
       obtain ⟨A, hA⟩ : ∃ A, ordR (dF r.wy r.ps.length) L.length 0 L = A := ⟨_, rfl⟩
       rw [hA]
       generalize hD : dF r.wy r.ps.length = D at *
       generalize Q.length = v0 at *
       refine Wp.loop (fun (b : Nat × List Int × List Int) => { t := [(2, .ref [.strs r.ps, .lst 4 (r.ts.map thA), .lst 3 (r.pp.map ppA), .lst 3 (r.wy.map wyA), .lst 8 (r.ac.map acA), .lst 3 (r.au.map auA), .int r.n, .lst 3 (r.goal.map ltA)] 0), (4, .osl 12 b.2.2.length 0 b.2.2.length), (6, .optr 5 1 0 0), (7, .osl 11 v0 0 b.2.1.length)], m := [⟨1, .row 8 []⟩, ⟨1, .row 3 []⟩, ⟨1, .row 8 []⟩, ⟨1, .row 3 []⟩, ⟨0, .row 3 [.agg [.ints f.ts, .ints f.pp, .ints f.pl]]⟩, ⟨1, .row 15 [.agg [.strs r.ps, .lst 4 (r.ts.map thA), .lst 3 (r.pp.map ppA), .lst 3 (r.wy.map wyA), .lst 8 (r.ac.map acA), .lst 3 (r.au.map auA), .int r.n, .lst 3 (r.goal.map ltA), .ints f.ts, .ints f.pp, .ints f.pl, .ints s.ts, .ints s.pp, .osl 10 1 0 s.pl.length, .int b.1]]⟩, ⟨1, .row 3 []⟩, ⟨0, .row 3 [.agg [.osl 8 1 0 s.ts.length, .osl 9 1 0 s.pp.length, .osl 10 1 0 s.pl.length]]⟩, ⟨2, .row 1 []⟩, ⟨2, .row 1 []⟩, ⟨1, .row 1 (s.pl.map AV.int)⟩, ⟨v0, .row 1 (b.2.1.map AV.int)⟩, ⟨b.2.2.length, .row 1 (b.2.2.map AV.int)⟩], n := 146 }) (fun b => b.1 < r.ps.length ∧ (∀ x ∈ b.2.1, 0 ≤ x ∧ x < r.ps.length) ∧ b.2.2.length + b.2.1.length = L.length ∧ (ordR D b.2.1.length b.1 b.2.1).map (fun o => b.2.2 ++ o) = A) (fun b => b.2.1.length) (0, L, []) ?_ ?_ ?_
       ·(refine Le.of ?_ ?_ rfl rfl <;> (try simp only [push_cast, seval]) <;> (try (with_reducible rfl)))
        all_goals (first | exact ⟨rfl, rfl⟩ | rfl)
       ·exact ⟨by simp only; omega, hLin, by simp, by simp [hA]⟩
       ·clear hA hLin
        rintro ⟨a, M, O⟩ ⟨ha, hM, hlen, hA⟩
        simp only at ha hM hlen hA
        have c3 := c2 (a : Int) (by omega)
        rw [Int.toNat_natCast] at c3
        have hdl : (D a).length = r.ps.length := (hfd a ha).fi.len
        obtain ⟨d, hd⟩ : ∃ d, D a = d := ⟨_, rfl⟩
        rw [hd] at c3 hdl
        (refine w_go ?_)
        (apply Wp.cond; (exact w_ev))
        ·intro hc
         have hc : 0 < M.length := by simp only [decide_eq_true_eq] at hc; omega
         obtain ⟨n, hn⟩ : ∃ n, M.length = n + 1 := ⟨M.length - 1, by omega⟩
         rw [hn, ordR, hd] at hA
         (refine w_go ?_)
         (refine Wp.rnD 7 ?_; apply exAb; (((refine w_abn ?_); (apply Abn.pureFP; (exact w_ev); (exact (Enters.of Tryz.func77 rfl rfl)); (exact c3); (exact w_al); (try dsimp only [putA, optG])); (refine w_abn ?_)); exact Abn.nil))
         (refine w_go ?_)
         refine Wp.loop (fun i : Nat => { t := [(2, .ref [.strs r.ps, .lst 4 (r.ts.map thA), .lst 3 (r.pp.map ppA), .lst 3 (r.wy.map wyA), .lst 8 (r.ac.map acA), .lst 3 (r.au.map auA), .int r.n, .lst 3 (r.goal.map ltA)] 0), (4, .osl 12 O.length 0 O.length), (6, .optr 5 1 0 0), (7, .osl 11 v0 0 M.length), (13, .ints d), (14, .int (bsZ d M i)), (96, .osl 11 v0 0 M.length), (97, .int M.length), (98, .int i)], m := [⟨1, .row 8 []⟩, ⟨1, .row 3 []⟩, ⟨1, .row 8 []⟩, ⟨1, .row 3 []⟩, ⟨0, .row 3 [.agg [.ints f.ts, .ints f.pp, .ints f.pl]]⟩, ⟨1, .row 15 [.agg [.strs r.ps, .lst 4 (r.ts.map thA), .lst 3 (r.pp.map ppA), .lst 3 (r.wy.map wyA), .lst 8 (r.ac.map acA), .lst 3 (r.au.map auA), .int r.n, .lst 3 (r.goal.map ltA), .ints f.ts, .ints f.pp, .ints f.pl, .ints s.ts, .ints s.pp, .osl 10 1 0 s.pl.length, .int a]]⟩, ⟨1, .row 3 []⟩, ⟨0, .row 3 [.agg [.osl 8 1 0 s.ts.length, .osl 9 1 0 s.pp.length, .osl 10 1 0 s.pl.length]]⟩, ⟨2, .row 1 []⟩, ⟨2, .row 1 []⟩, ⟨1, .row 1 (s.pl.map AV.int)⟩, ⟨v0, .row 1 (M.map AV.int)⟩, ⟨O.length, .row 1 (O.map AV.int)⟩], n := 146 }) (fun i => i ≤ M.length ∧ ∀ j, j < i → 0 ≤ d.getD (M.getD j 0).toNat 0) (fun i => M.length - i) 0 ?_ ?_ ?_
         ·(refine Le.of ?_ ?_ rfl rfl <;> (try simp only [push_cast, seval]) <;> (try (with_reducible rfl)))
          all_goals (first | exact ⟨rfl, rfl⟩ | rfl)
         ·exact ⟨Nat.zero_le _, fun j hj => absurd hj (Nat.not_lt_zero j)⟩
         ·rintro i ⟨hi1, hi2⟩
          (refine w_go ?_)
          (apply Wp.cond; (exact w_ev))
          ·(intro hc; first | replace hc := bT hc | skip)
           have hb1 : bsZ d M (i + 1) = if bsZ d M i < 0 ∨ ov d (M.getD i 0).toNat < ov d (M.getD (bsZ d M i).toNat 0).toNat then (i : Int) else bsZ d M i := rfl
           have hx := hM (M.getD i 0) (getD_mem' hc)
           have hz : bsZ d M i < 0 ∨ (0 ≤ bsZ d M i ∧ bsZ d M i < i) := by
            rcases Nat.eq_zero_or_pos i with e | e
            ·subst e; exact .inl (by simp [bsZ])
            ·obtain ⟨b, e1, e2, _⟩ := bsZ_is d M i e
             exact .inr (by omega)
           have hy : 0 ≤ bsZ d M i → 0 ≤ M.getD (bsZ d M i).toNat 0 ∧ M.getD (bsZ d M i).toNat 0 < r.ps.length := fun h => hM _ (getD_mem' (by omega))
           have hi3 : 0 ≤ d.getD (M.getD i 0).toNat 0 → ∀ j, j < i + 1 → 0 ≤ d.getD (M.getD j 0).toNat 0 := fun h j hj => by
            by_cases q : j = i
            ·subst q; exact h
            ·exact hi2 j (by omega)
           have hno : d.getD (M.getD i 0).toNat 0 < 0 → rcB d M = false := fun h => by
            unfold rcB
            rw [List.all_eq_false]
            exact ⟨_, getD_mem' hc, by simp only [decide_eq_true_eq]; unfold ov; omega⟩
           clear hi2
           generalize bsZ d M i = z at *
           unfold ov at hb1
           obtain ⟨x, hxx⟩ : ∃ x, M.getD i 0 = x := ⟨_, rfl⟩
           obtain ⟨y, hyy⟩ : ∃ y, M.getD z.toNat 0 = y := ⟨_, rfl⟩
           simp only [hxx, hyy] at hb1 hx hy hi3 hno
           obtain ⟨v, hvv⟩ : ∃ v, d.getD x.toNat 0 = v := ⟨_, rfl⟩
           obtain ⟨u, huu⟩ : ∃ u, d.getD y.toNat 0 = u := ⟨_, rfl⟩
           simp only [hvv, huu] at hb1 hi3 hno
           by_cases e1 : v < 0
           ·have d1 : decide (v < 0) = true := decide_eq_true e1
            rw [hno e1, if_neg (by decide)] at hA
            have hA2 : none = A := hA
            subst hA2
            (refine x_gg (zc @hxx (zc @hyy (zc @hvv (zc @huu (zc @hdl @d1))))) ?_)
            (first | exact x_ret (zc @hxx (zc @hyy (zc @hvv (zc @huu (zc @hdl @d1))))) | refine x_retZ (zc @hxx (zc @hyy (zc @hvv (zc @huu (zc @hdl @d1))))) ?_)
           ·have d1 : decide (v < 0) = false := decide_eq_false e1
            by_cases e2 : z < 0
            ·have d2 : decide (z < 0) = true := decide_eq_true e2
             rw [if_pos (.inl e2)] at hb1
             (refine x_gg (zc @hxx (zc @hyy (zc @hvv (zc @huu (zc @hdl (zc @d1 @d2)))))) ?_)
             (refine Wp.rnD 16 ?_; apply exAb; (((refine x_abn (zc @hxx (zc @hyy (zc @hvv (zc @huu (zc @hdl (zc @d1 @d2)))))) ?_)); exact Abn.nil))
             (refine x_gg (zc @hxx (zc @hyy (zc @hvv (zc @huu (zc @hdl (zc @d1 @d2)))))) ?_)
             refine ⟨i + 1, ?_, ⟨by omega, hi3 (by omega)⟩, by omega⟩
             rw [hb1]
             (refine Le.of ?_ ?_ rfl rfl <;> (try simp only [push_cast, seval, hxx, hyy, hvv, huu, hdl, d1, d2]) <;> (try (with_reducible rfl)))
            ·have d2 : decide (z < 0) = false := decide_eq_false e2
             have hy2 := hy (by omega)
             by_cases e3 : v < u
             ·have d3 : decide (v < u) = true := decide_eq_true e3
              rw [if_pos (.inr e3)] at hb1
              (refine x_gg (zc @hxx (zc @hyy (zc @hvv (zc @huu (zc @hdl (zc @d1 (zc @d2 @d3))))))) ?_)
              (refine Wp.rnD 16 ?_; apply exAb; (((refine x_abn (zc @hxx (zc @hyy (zc @hvv (zc @huu (zc @hdl (zc @d1 (zc @d2 @d3))))))) ?_)); exact Abn.nil))
              (refine x_gg (zc @hxx (zc @hyy (zc @hvv (zc @huu (zc @hdl (zc @d1 (zc @d2 @d3))))))) ?_)
              refine ⟨i + 1, ?_, ⟨by omega, hi3 (by omega)⟩, by omega⟩
              rw [hb1]
              (refine Le.of ?_ ?_ rfl rfl <;> (try simp only [push_cast, seval, hxx, hyy, hvv, huu, hdl, d1, d2, d3]) <;> (try (with_reducible rfl)))
             ·have d3 : decide (v < u) = false := decide_eq_false e3
              rw [if_neg (fun q => q.elim e2 e3)] at hb1
              (refine x_gg (zc @hxx (zc @hyy (zc @hvv (zc @huu (zc @hdl (zc @d1 (zc @d2 @d3))))))) ?_)
              (refine Wp.rnD 16 ?_; apply exAb; (((refine x_abn (zc @hxx (zc @hyy (zc @hvv (zc @huu (zc @hdl (zc @d1 (zc @d2 @d3))))))) ?_)); exact Abn.nil))
              (refine x_gg (zc @hxx (zc @hyy (zc @hvv (zc @huu (zc @hdl (zc @d1 (zc @d2 @d3))))))) ?_)
              refine ⟨i + 1, ?_, ⟨by omega, hi3 (by omega)⟩, by omega⟩
              rw [hb1]
              (refine Le.of ?_ ?_ rfl rfl <;> (try simp only [push_cast, seval, hxx, hyy, hvv, huu, hdl, d1, d2, d3]) <;> (try (with_reducible rfl)))
          ·(intro hc; first | replace hc := bT hc | skip)
           obtain rfl : i = M.length := by omega
           have hrc : rcB d M = true := by
            unfold rcB
            rw [List.all_eq_true]
            intro x hx
            obtain ⟨j, hj, rfl⟩ := List.getElem_of_mem hx
            have := hi2 j hj
            rw [show M.getD j 0 = M[j] by simp [hj]] at this
            exact decide_eq_true this
           obtain ⟨b, e, hb, _⟩ := bsZ_is d M M.length (by omega)
           rw [if_pos hrc, e, Int.toNat_natCast] at hA
           rw [e]
           have hq := hM _ (getD_mem' hb)
           obtain ⟨q, hqq⟩ : ∃ q : Nat, M.getD b 0 = (q : Int) := ⟨(M.getD b 0).toNat, by omega⟩
           rw [hqq] at hq
           rw [hqq, Int.toNat_natCast] at hA
           have hel := List.length_eraseIdx_of_lt hb
           have c9 := fun m hm => delete_trim (id := 11) (ver := v0) (l := M) (m := m) hm M.length b hb (by omega) rfl
           have hOt : O.take O.length = O := List.take_length
           (refine x_go (zc @hqq (zc @lenMp @hOt)) ?_)
           (apply Run.spec (he := Enters.of Tryz.func78 rfl rfl); exact rfl; (simp only [push_cast, seval, hqq, List.length_map, hOt] <;> first | exact rfl | assumption); (exact x_ev (zc @hqq (zc @lenMp @hOt))))
           ·exact c9 _ rfl
           ·rintro _ _ ⟨rfl, rfl⟩
            dsimp only [List.set]
            dsimp only [S.put, optG]
            (refine x_go (zc @hqq (zc @lenMp @hOt)) ?_)
            refine ⟨(q, M.eraseIdx b, O ++ [(q : Int)]), ?_, ⟨by simp only; omega, fun x hx => hM x (List.mem_of_mem_eraseIdx hx), by simp only [List.length_append, List.length_singleton]; omega, ?_⟩, by simp only; omega⟩
            ·simp only [List.length_append, List.length_singleton, List.map_append, hel]
             (refine Le.of ?_ ?_ rfl rfl <;> (try simp only [push_cast, seval, hqq, List.length_map, hOt]) <;> (try (with_reducible rfl)))
            ·simp only
             rw [← hA, show (M.eraseIdx b).length = n by omega, Option.map_map]
             congr 1
             funext o
             simp
        ·intro hc
         have hc : M = [] := by
          have : M.length = 0 := by simp only [decide_eq_false_iff_not] at hc; omega
          exact List.eq_nil_of_length_eq_zero this
         subst hc
         have hA2 : some O = A := by rw [← hA]; simp [ordR]
         subst hA2
         (apply Wp.freeze 4; (exact w_ev); (exact w_ev); (focus (try simp only [push_cast, seval]); (try (exact sT))); (focus (exact sT)))
         (refine w_go ?_)
         (first | exact w_ret | refine w_retZ ?_)
end Go.Proofs.Tryz
