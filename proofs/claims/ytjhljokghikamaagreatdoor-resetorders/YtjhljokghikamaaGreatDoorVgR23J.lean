/- A part of the proof of ResetOrders: contracts of functions, with plain laws that they need. -/
import Derived.Test.YtjhljokghikamaaGreatDoorVgR15J
set_option linter.all false
set_option maxHeartbeats 16000000
namespace Go.Proofs.Tryz
open Go.Vg
def f0B (r : Rm) : Bool := decide ((12 : Int) < r.ps.length) || decide ((15 : Int) < r.ts.length) || decide ((14 : Int) < r.pp.length) || decide ((20 : Int) < r.wy.length) || decide ((30 : Int) < r.ac.length) || decide ((15 : Int) < r.au.length) || decide ((20 : Int) < r.goal.length)
def f1B (x : ByteArray) : Bool := decide ((100 : Int) < x.size)
def f2B (x : Th) : Bool := decide ((100 : Int) < x.nm.size)
def f3B (x : Pp) : Bool := decide ((100 : Int) < x.nm.size) || decide ((20 : Int) < x.wh.length)
def f4B (x : Wy) : Bool := decide ((20 : Int) < x.wh.length)
def f5B (x : Ac) : Bool := decide ((100 : Int) < x.nm.size) || decide ((20 : Int) < x.wh.length) || decide ((20 : Int) < x.us.length) || decide ((20 : Int) < x.se.length) || decide ((20 : Int) < x.sp.length) || decide ((20 : Int) < x.br.length)
def f6B (x : Au) : Bool := decide ((20 : Int) < x.wh.length)
def farB (r : Rm) : Bool := f0B r || (r.ps.any f1B || (r.ts.any f2B || (r.pp.any f3B || (r.wy.any f4B || (r.ac.any f5B || r.au.any f6B)))))
theorem farB_Sz {r : Rm} (h : farB r = false) : Sz r := by
 unfold farB at h
 simp only [Bool.or_eq_false_iff, List.any_eq_false, f0B, f1B, f2B, f3B, f4B, f5B, f6B, decide_eq_false_iff_not, decide_eq_true_eq, Bool.or_eq_true, not_or, Int.not_lt] at h
 obtain ⟨h0, h1, h2, h3, h4, h5, h6⟩ := h
 refine ⟨by omega, by omega, by omega, by omega, by omega, by omega, by omega, fun x hx => by have := h1 x hx; omega, fun x hx => by have := h2 x hx; omega, fun x hx => ?_, fun x hx => ?_, fun x hx => ?_, fun x hx => ?_⟩
 ·have := h3 x hx; exact ⟨by omega, by omega⟩
 ·have := h4 x hx; omega
 ·have := h5 x hx; exact ⟨by omega, by omega, by omega, by omega, by omega, by omega⟩
 ·have := h6 x hx; omega
theorem Far_pure (r : Rm) : Pure Tryz.prog 20 [rmA r] (.bool (farB r)) := by
 unfold farB
 unfold rmA rmC
 (refine Spec.bd 0 Tryz.func20 Tryz.results20 Tryz.ntmps20 ?_; simp only [entry, zipArgs, Nat.reduceAdd])
 ((refine x_pre @rmC.eq_1 ?_); (iterate 2 (refine x_nr @rmC.eq_1 ?_)); (refine x_nil @rmC.eq_1 ?_))
 (refine x_fzP @rmC.eq_1 (slq 1) ?_)
 (refine x_go @rmC.eq_1 ?_)
 (apply Wp.cond; (exact x_ev @rmC.eq_1))
 ·intro h
  rw [show f0B r = true from h]
  (refine x_go @rmC.eq_1 ?_)
  (first | exact x_ret @rmC.eq_1 | refine x_retZ @rmC.eq_1 ?_)
 ·intro h
  rw [show f0B r = false from h, Bool.false_or]
  have z : r.ps.length ≤ 12 ∧ r.ts.length ≤ 15 ∧ r.pp.length ≤ 14 ∧ r.wy.length ≤ 20 ∧ r.ac.length ≤ 30 ∧ r.au.length ≤ 15 := by
   simp only [Bool.or_eq_false_iff, decide_eq_false_iff_not] at h
   omega
  clear h
  (refine x_go @rmC.eq_1 ?_)
  refine Wp.loop (fun k : Nat => { t := [(1, .ref (rmC r) 0), (3, .int k)], m := [⟨1, .row 8 []⟩], n := 180 }) (fun k => k ≤ r.ps.length ∧ ∀ j, j < k → f1B (r.ps.getD j ByteArray.empty) = false) (fun k => r.ps.length - k) 0 ?_ ?_ ?_
  ·(refine Le.of ?_ ?_ rfl rfl <;> (try simp only [push_cast, seval, rmC]) <;> (try (with_reducible rfl)))
   all_goals (first | exact ⟨rfl, rfl⟩ | rfl)
  ·simp
  ·rintro k ⟨hk1, hk2⟩
   (refine x_go @rmC.eq_1 ?_)
   (apply Wp.cond; (exact x_ev @rmC.eq_1))
   ·(intro hc; first | replace hc := bT hc | skip)
    have hfx : ∀ b, f1B (r.ps.getD k ByteArray.empty) = b → f1B (r.ps.getD k ByteArray.empty) = b := fun _ h => h
    generalize hx : r.ps.getD k ByteArray.empty = x at *
    skip
    skip
    (refine x_go (zc @rmC.eq_1 @hx) ?_)
    (apply Wp.cond; (exact x_ev (zc @rmC.eq_1 @hx)))
    ·intro h
     rw [any_bad (d := ByteArray.empty) (p := f1B) hc (by rw [hx]; exact h)]
     (refine x_go (zc @rmC.eq_1 @hx) ?_)
     (first | exact x_ret (zc @rmC.eq_1 @hx) | refine x_retZ (zc @rmC.eq_1 @hx) ?_)
    ·intro h
     (refine x_go (zc @rmC.eq_1 @hx) ?_)
     refine ⟨k + 1, ?_, ⟨by omega, fun j hj => ?_⟩, by omega⟩
     ·(refine Le.of ?_ ?_ rfl rfl <;> (try simp only [push_cast, seval, rmC, hx]) <;> (try (with_reducible rfl)))
      all_goals rfl
     ·by_cases hjk : j = k
      ·subst hjk; rw [hx]; exact h
      ·exact hk2 j (by omega)
   ·(intro hc; first | replace hc := bT hc | skip)
    obtain rfl : k = r.ps.length := by omega
    rw [any_none (d := ByteArray.empty) (p := f1B) hk2, Bool.false_or]
    clear hk1
    (refine x_go @rmC.eq_1 ?_)
    refine Wp.loop (fun k : Nat => { t := [(1, .ref (rmC r) 0), (4, .int k)], m := [⟨1, .row 8 []⟩], n := 180 }) (fun k => k ≤ r.ts.length ∧ ∀ j, j < k → f2B (r.ts.getD j th0) = false) (fun k => r.ts.length - k) 0 ?_ ?_ ?_
    ·(refine Le.of ?_ ?_ rfl rfl <;> (try simp only [push_cast, seval, rmC]) <;> (try (with_reducible rfl)))
     all_goals (first | exact ⟨rfl, rfl⟩ | rfl)
    ·simp
    ·rintro k ⟨hk1, hk2⟩
     (refine x_go @rmC.eq_1 ?_)
     (apply Wp.cond; (exact x_ev @rmC.eq_1))
     ·(intro hc; first | replace hc := bT hc | skip)
      have hfx : ∀ b, f2B (r.ts.getD k th0) = b → f2B (r.ts.getD k th0) = b := fun _ h => h
      generalize hx : r.ts.getD k th0 = x at *
      skip
      skip
      (refine x_go (zc @rmC.eq_1 @hx) ?_)
      (apply Wp.cond; (exact x_ev (zc @rmC.eq_1 @hx)))
      ·intro h
       rw [any_bad (d := th0) (p := f2B) hc (by rw [hx]; exact h)]
       (refine x_go (zc @rmC.eq_1 @hx) ?_)
       (first | exact x_ret (zc @rmC.eq_1 @hx) | refine x_retZ (zc @rmC.eq_1 @hx) ?_)
      ·intro h
       (refine x_go (zc @rmC.eq_1 @hx) ?_)
       refine ⟨k + 1, ?_, ⟨by omega, fun j hj => ?_⟩, by omega⟩
       ·(refine Le.of ?_ ?_ rfl rfl <;> (try simp only [push_cast, seval, rmC, hx]) <;> (try (with_reducible rfl)))
        all_goals rfl
       ·by_cases hjk : j = k
        ·subst hjk; rw [hx]; exact h
        ·exact hk2 j (by omega)
     ·(intro hc; first | replace hc := bT hc | skip)
      obtain rfl : k = r.ts.length := by omega
      rw [any_none (d := th0) (p := f2B) hk2, Bool.false_or]
      clear hk1
      (refine x_go @rmC.eq_1 ?_)
      refine Wp.loop (fun k : Nat => { t := [(1, .ref (rmC r) 0), (5, .int k)], m := [⟨1, .row 8 []⟩], n := 180 }) (fun k => k ≤ r.pp.length ∧ ∀ j, j < k → f3B (r.pp.getD j pp0) = false) (fun k => r.pp.length - k) 0 ?_ ?_ ?_
      ·(refine Le.of ?_ ?_ rfl rfl <;> (try simp only [push_cast, seval, rmC]) <;> (try (with_reducible rfl)))
       all_goals (first | exact ⟨rfl, rfl⟩ | rfl)
      ·simp
      ·rintro k ⟨hk1, hk2⟩
       (refine x_go @rmC.eq_1 ?_)
       (apply Wp.cond; (exact x_ev @rmC.eq_1))
       ·(intro hc; first | replace hc := bT hc | skip)
        have hfx : ∀ b, f3B (r.pp.getD k pp0) = b → f3B (r.pp.getD k pp0) = b := fun _ h => h
        generalize hx : r.pp.getD k pp0 = x at *
        skip
        skip
        (refine x_go (zc @rmC.eq_1 (zc @hx (zc (fun d => getD_pp (d := d) hc) @ppA.eq_1))) ?_)
        (apply Wp.cond; (exact x_ev (zc @rmC.eq_1 (zc @hx (zc (fun d => getD_pp (d := d) hc) @ppA.eq_1)))))
        ·intro h
         rw [any_bad (d := pp0) (p := f3B) hc (by rw [hx]; exact h)]
         (refine x_go (zc @rmC.eq_1 (zc @hx (zc (fun d => getD_pp (d := d) hc) @ppA.eq_1))) ?_)
         (first | exact x_ret (zc @rmC.eq_1 (zc @hx (zc (fun d => getD_pp (d := d) hc) @ppA.eq_1))) | refine x_retZ (zc @rmC.eq_1 (zc @hx (zc (fun d => getD_pp (d := d) hc) @ppA.eq_1))) ?_)
        ·intro h
         (refine x_go (zc @rmC.eq_1 (zc @hx (zc (fun d => getD_pp (d := d) hc) @ppA.eq_1))) ?_)
         refine ⟨k + 1, ?_, ⟨by omega, fun j hj => ?_⟩, by omega⟩
         ·(refine Le.of ?_ ?_ rfl rfl <;> (try simp only [push_cast, seval, rmC, hx, getD_pp hc, ppA]) <;> (try (with_reducible rfl)))
          all_goals rfl
         ·by_cases hjk : j = k
          ·subst hjk; rw [hx]; exact h
          ·exact hk2 j (by omega)
       ·(intro hc; first | replace hc := bT hc | skip)
        obtain rfl : k = r.pp.length := by omega
        rw [any_none (d := pp0) (p := f3B) hk2, Bool.false_or]
        clear hk1
        (refine x_go @rmC.eq_1 ?_)
        refine Wp.loop (fun k : Nat => { t := [(1, .ref (rmC r) 0), (6, .int k)], m := [⟨1, .row 8 []⟩], n := 180 }) (fun k => k ≤ r.wy.length ∧ ∀ j, j < k → f4B (r.wy.getD j wy0) = false) (fun k => r.wy.length - k) 0 ?_ ?_ ?_
        ·(refine Le.of ?_ ?_ rfl rfl <;> (try simp only [push_cast, seval, rmC]) <;> (try (with_reducible rfl)))
         all_goals (first | exact ⟨rfl, rfl⟩ | rfl)
        ·simp
        ·rintro k ⟨hk1, hk2⟩
         (refine x_go @rmC.eq_1 ?_)
         (apply Wp.cond; (exact x_ev @rmC.eq_1))
         ·(intro hc; first | replace hc := bT hc | skip)
          have hfx : ∀ b, f4B (r.wy.getD k wy0) = b → f4B (r.wy.getD k wy0) = b := fun _ h => h
          generalize hx : r.wy.getD k wy0 = x at *
          skip
          skip
          (refine x_go (zc @rmC.eq_1 (zc @hx (zc (fun d => getD_wy (d := d) hc) @wyA.eq_1))) ?_)
          (apply Wp.cond; (exact x_ev (zc @rmC.eq_1 (zc @hx (zc (fun d => getD_wy (d := d) hc) @wyA.eq_1)))))
          ·intro h
           rw [any_bad (d := wy0) (p := f4B) hc (by rw [hx]; exact h)]
           (refine x_go (zc @rmC.eq_1 (zc @hx (zc (fun d => getD_wy (d := d) hc) @wyA.eq_1))) ?_)
           (first | exact x_ret (zc @rmC.eq_1 (zc @hx (zc (fun d => getD_wy (d := d) hc) @wyA.eq_1))) | refine x_retZ (zc @rmC.eq_1 (zc @hx (zc (fun d => getD_wy (d := d) hc) @wyA.eq_1))) ?_)
          ·intro h
           (refine x_go (zc @rmC.eq_1 (zc @hx (zc (fun d => getD_wy (d := d) hc) @wyA.eq_1))) ?_)
           refine ⟨k + 1, ?_, ⟨by omega, fun j hj => ?_⟩, by omega⟩
           ·(refine Le.of ?_ ?_ rfl rfl <;> (try simp only [push_cast, seval, rmC, hx, getD_wy hc, wyA]) <;> (try (with_reducible rfl)))
            all_goals rfl
           ·by_cases hjk : j = k
            ·subst hjk; rw [hx]; exact h
            ·exact hk2 j (by omega)
         ·(intro hc; first | replace hc := bT hc | skip)
          obtain rfl : k = r.wy.length := by omega
          rw [any_none (d := wy0) (p := f4B) hk2, Bool.false_or]
          clear hk1
          (refine x_go @rmC.eq_1 ?_)
          (refine Wp.vacs 1 ?_; (try simp only [List.replicate_succ, List.replicate_zero, List.cons_append, List.nil_append]))
          refine Wp.loop (fun (q : Nat × Nat × Kind) => { t := [(1, .ref (rmC r) 0), (7, .int q.1)], m := [⟨1, .row 8 []⟩, ⟨q.2.1, q.2.2⟩], n := 180 }) (fun q => q.1 ≤ r.ac.length ∧ ∀ j, j < q.1 → f5B (r.ac.getD j ac0) = false) (fun q => r.ac.length - q.1) (0, 0, .row 1 []) ?_ ?_ ?_
          ·(refine Le.of ?_ ?_ rfl rfl <;> (try simp only [push_cast, seval, rmC]) <;> (try (with_reducible rfl)))
           all_goals (first | exact ⟨rfl, rfl⟩ | rfl)
          ·simp
          ·rintro ⟨k, v, kd⟩ ⟨hk1, hk2⟩
           simp only at hk1 hk2
           (refine x_go @rmC.eq_1 ?_)
           (apply Wp.cond; (exact x_ev @rmC.eq_1))
           ·(intro hc; first | replace hc := bT hc | skip)
            have hfx : ∀ b, f5B (r.ac.getD k ac0) = b → f5B (r.ac.getD k ac0) = b := fun _ h => h
            have hgd := fun d => getD_ac (d := d) hc
            generalize hx : r.ac.getD k ac0 = x at *
            simp only [acA, acC] at hgd
            (refine x_gs (zc @rmC.eq_1 (zc @hx @hgd)) ?_)
            (apply Run.alcAt 1; (exact x_ev (zc @rmC.eq_1 (zc @hx @hgd))); ((try simp only [push_cast, seval, rmC, hx, hgd]) <;> exact sT); exact rfl; (try simp only [push_cast, seval, rmC, hx, hgd]))
            (refine x_go (zc @rmC.eq_1 (zc @hx @hgd)) ?_)
            (apply Wp.cond; (exact x_ev (zc @rmC.eq_1 (zc @hx @hgd))))
            ·intro h
             rw [any_bad (d := ac0) (p := f5B) hc (by rw [hx]; exact h)]
             (refine x_go (zc @rmC.eq_1 (zc @hx @hgd)) ?_)
             (first | exact x_ret (zc @rmC.eq_1 (zc @hx @hgd)) | refine x_retZ (zc @rmC.eq_1 (zc @hx @hgd)) ?_)
            ·intro h
             (refine x_go (zc @rmC.eq_1 (zc @hx @hgd)) ?_)
             refine ⟨(k + 1, v + 1, .row 8 [.agg (acC x)]), ?_, ⟨by simp only; omega, fun j hj => ?_⟩, by simp only; omega⟩
             ·(refine Le.of ?_ ?_ rfl rfl <;> (try simp only [push_cast, seval, rmC, hx, hgd]) <;> (try (with_reducible rfl)))
              all_goals rfl
             ·simp only at hj
              by_cases hjk : j = k
              ·subst hjk; rw [hx]; exact h
              ·exact hk2 j (by omega)
           ·(intro hc; first | replace hc := bT hc | skip)
            obtain rfl : k = r.ac.length := by omega
            rw [any_none (d := ac0) (p := f5B) hk2, Bool.false_or]
            clear hk1
            (refine x_go @rmC.eq_1 ?_)
            refine Wp.loop (fun k : Nat => { t := [(1, .ref (rmC r) 0), (9, .int k)], m := [⟨1, .row 8 []⟩, ⟨v, kd⟩], n := 180 }) (fun k => k ≤ r.au.length ∧ ∀ j, j < k → f6B (r.au.getD j au0) = false) (fun k => r.au.length - k) 0 ?_ ?_ ?_
            ·(refine Le.of ?_ ?_ rfl rfl <;> (try simp only [push_cast, seval, rmC]) <;> (try (with_reducible rfl)))
             all_goals (first | exact ⟨rfl, rfl⟩ | rfl)
            ·simp
            ·rintro k ⟨hk1, hk2⟩
             (refine x_go @rmC.eq_1 ?_)
             (apply Wp.cond; (exact x_ev @rmC.eq_1))
             ·(intro hc; first | replace hc := bT hc | skip)
              have hfx : ∀ b, f6B (r.au.getD k au0) = b → f6B (r.au.getD k au0) = b := fun _ h => h
              generalize hx : r.au.getD k au0 = x at *
              skip
              skip
              (refine x_go (zc @rmC.eq_1 (zc @hx (zc (fun d => getD_au (d := d) hc) @auA.eq_1))) ?_)
              (apply Wp.cond; (exact x_ev (zc @rmC.eq_1 (zc @hx (zc (fun d => getD_au (d := d) hc) @auA.eq_1)))))
              ·intro h
               rw [any_bad (d := au0) (p := f6B) hc (by rw [hx]; exact h)]
               (refine x_go (zc @rmC.eq_1 (zc @hx (zc (fun d => getD_au (d := d) hc) @auA.eq_1))) ?_)
               (first | exact x_ret (zc @rmC.eq_1 (zc @hx (zc (fun d => getD_au (d := d) hc) @auA.eq_1))) | refine x_retZ (zc @rmC.eq_1 (zc @hx (zc (fun d => getD_au (d := d) hc) @auA.eq_1))) ?_)
              ·intro h
               (refine x_go (zc @rmC.eq_1 (zc @hx (zc (fun d => getD_au (d := d) hc) @auA.eq_1))) ?_)
               refine ⟨k + 1, ?_, ⟨by omega, fun j hj => ?_⟩, by omega⟩
               ·(refine Le.of ?_ ?_ rfl rfl <;> (try simp only [push_cast, seval, rmC, hx, getD_au hc, auA]) <;> (try (with_reducible rfl)))
                all_goals rfl
               ·by_cases hjk : j = k
                ·subst hjk; rw [hx]; exact h
                ·exact hk2 j (by omega)
             ·(intro hc; first | replace hc := bT hc | skip)
              obtain rfl : k = r.au.length := by omega
              rw [any_none (d := au0) (p := f6B) hk2]
              clear hk1
              (refine x_go @rmC.eq_1 ?_)
              (first | exact x_ret @rmC.eq_1 | refine x_retZ @rmC.eq_1 ?_)
end Go.Proofs.Tryz
set_option maxHeartbeats 16000000
namespace Go.Proofs.Tryz
open Go.Vg
structure Ph where
 at_ : Int
 ts : List Int
 pp : List Int
 deriving DecidableEq
end Go.Proofs.Tryz
set_option maxHeartbeats 16000000
namespace Go.Proofs.Tryz
open Go.Vg
end Go.Proofs.Tryz
set_option maxHeartbeats 16000000
namespace Go.Proofs.Tryz
open Go.Vg
theorem dgt_is (n : Nat) (h : n < 100) : Lib.decDigits n = dgt n := by
 unfold dgt
 rw [Lib.decDigits]
 split
 ·rfl
 ·rename_i h1
  rw [Lib.decDigits, dif_pos (by omega : n / 10 < 10)]
  rfl
theorem dcm_is {n : Int} (h : inR n) : (⟨(Lib.itoa n).toArray⟩ : ByteArray) = dcm n := by
 unfold inR at h
 unfold dcm dcL Lib.itoa
 split
 ·rw [dgt_is _ (by omega)]
  congr 4; omega
 ·rw [dgt_is _ (by omega)]
theorem itoa_pure {n : Int} (h : inR n) : Pure Tryz.prog 49 [.int n] (.str (dcm n)) := by
 rintro X w ρ _ hi ⟨v1, _, rfl, h1, rfl⟩
 have e1 : v1 = .int .i64 n := h1
 subst e1
 have hρ : ρ = [] := List.eq_nil_of_length_eq_zero (by rw [hi.len]; rfl)
 subst hρ
 obtain ⟨⟨e, fr, hb⟩, _⟩ := hi.gd.2.2 0 pow10V rfl
 have hg : Tryz.prog.globalNamed "internal/strconv.uint64pow10" = some 0 := by kernel_rfl
 have htab : Lib.TabIs Tryz.prog w "internal/strconv.uint64pow10" .u64 Lib.pow10Tab := by
  unfold Lib.TabIs World.var?
  rw [hg, Option.bind_some, hb]
  simp [Lib.pow10Tab, pow10V, List.map_map]
 have hr := h
 unfold inR at hr
 refine (Go.Proofs.Tryz.strconv_Itoa n (by omega) (by omega) w htab).mono ?_
 rintro e2 w' ⟨rfl, k, os, rfl⟩
 have T : Tr w [] (Sort.grow (w.drewN k) os) [] := by
  refine ⟨rfl, rfl, rfl, ?_, fun i r h => by simp at h, fun b _ hlt => ⟨fun r hr => (by cases hr), Sort.heap_grow_old (w.drewN k) os hlt⟩⟩
  have := Sort.size_grow (w.drewN k) os
  simp only [World.heap_drewN] at this
  omega
 refine ⟨_, _, [], [], rfl, ⟨rfl, rfl⟩, ?_, hi.keep T, T⟩
 rw [dcm_is h]
 rfl
theorem grow_spec (n : Nat) (j : Int) (hj : j = (n : Int)) (h : 1 ≤ n ∧ n ≤ 1000) : Go.Vg.Spec Tryz.prog 89 [.emp, .int j] [] (fun y m' => y = .osl 0 0 0 0 ∧ m' = [⟨0, .row 1 ((List.replicate n 0).map AV.int)⟩]) := by
 subst hj
 have e1 : decide ((n : Int) < 0) = false := decide_eq_false (by omega)
 have e2 : decide ((0 : Int) < (n : Int)) = true := decide_eq_true (by omega)
 (refine Spec.of_bodyA Tryz.func89 rfl (by rw [Tryz.ntmps89]; simp) ?_; rw [Tryz.results89, Tryz.ntmps89]; simp only [entry, zipArgs, Nat.reduceAdd])
 (refine x_gg (zc @e1 (zc @e2 (zc @Int.sub_zero @Int.sub_self))) ?_)
 (first | exact x_retA (zc @e1 (zc @e2 (zc @Int.sub_zero @Int.sub_self))) | refine x_retAZ (zc @e1 (zc @e2 (zc @Int.sub_zero @Int.sub_self))) ?_)
theorem grow0_pure : Pure Tryz.prog 89 [.emp, .int 0] .emp := by
 (refine Spec.bd 0 Tryz.func89 Tryz.results89 Tryz.ntmps89 ?_; simp only [entry, zipArgs, Nat.reduceAdd])
 (refine w_gg ?_)
 (first | exact w_ret | refine w_retZ ?_)
def cSz (a b : Nat) (k : Nat) : Nat := if k = 0 then 0 else if k = 1 then a else a + b
def cLs (a b : List Int) (k : Nat) : List Int := if k = 0 then [] else if k = 1 then a else a ++ b
theorem concat1_pure (a b : List Int) (h : 1 ≤ a.length + b.length) (ha : a.length ≤ 100) (hb : b.length ≤ 100) : Pure Tryz.prog 50 [.lst 1 [.ints a, .ints b]] (.ints (a ++ b)) := by
 (refine Spec.bd 0 Tryz.func50 Tryz.results50 Tryz.ntmps50 ?_; simp only [entry, zipArgs, Nat.reduceAdd])
 (refine w_go ?_)
 refine Wp.loop (fun (k : Nat) => { t := [(0, .lst 1 [.ints a, .ints b]), (9, .lst 1 [.ints a, .ints b]), (10, .int (0 + 1 + 1)), (11, .int k), (3, .int (cSz a.length b.length k))], m := [], n := 36 }) (fun k => k ≤ 2) (fun k => 2 - k) 0 ?_ ?_ ?_
 ·(refine Le.of ?_ ?_ rfl rfl <;> (try simp only [push_cast, seval]) <;> (try (with_reducible rfl)))
  all_goals rfl
 ·simp
 ·rintro k hk
  have : k = 0 ∨ k = 1 ∨ k = 2 := by omega
  rcases this with rfl | rfl | rfl
  ·have e1 : decide ((a.length : Int) < 0) = false := decide_eq_false (by omega)
   (refine x_gg (zc @e1 (zc @cSz.eq_1 @Int.zero_add)) ?_)
   refine ⟨1, ?_, by omega, by omega⟩
   (refine Le.of ?_ ?_ rfl rfl <;> (try simp only [push_cast, seval, e1, cSz, Int.zero_add]) <;> (try (with_reducible rfl)))
  ·have e1 : decide ((a.length : Int) + (b.length : Int) < 0) = false := decide_eq_false (by omega)
   (refine x_gg (zc @e1 (zc @cSz.eq_1 @Int.zero_add)) ?_)
   refine ⟨2, ?_, by omega, by omega⟩
   (refine Le.of ?_ ?_ rfl rfl <;> (try simp only [push_cast, seval, e1, cSz, Int.zero_add]) <;> (try (with_reducible rfl)))
  ·
   (refine x_gg @cSz.eq_1 ?_)
   (apply Run.freshE (he := (Enters.of Tryz.func89 rfl rfl)); (simp only [push_cast, seval, cSz, Int.reduceAdd, Int.reduceLT] <;> first | exact rfl | assumption); (exact x_ev @cSz.eq_1); (exact grow_spec (a.length + b.length) _ (by simp) (by omega)); ((exact x_cl @cSz.eq_1)); (exact x_ev @cSz.eq_1); (exact x_ev @cSz.eq_1); dsimp only [S.put, optG])
   (refine x_gg @cSz.eq_1 ?_)
   refine Wp.loop (fun (k : Nat) => { t := [(25, .lst 1 [.ints a, .ints b]), (26, .int 2), (27, .int k), (6, .osl 0 k 0 (cLs a b k).length)], m := [⟨k, .row 1 (if k = 0 then (List.replicate (a.length + b.length) 0).map AV.int else (cLs a b k).map AV.int)⟩], n := 36 }) (fun k => k ≤ 2) (fun k => 2 - k) 0 ?_ ?_ ?_
   ·(refine Le.of ?_ ?_ rfl rfl <;> (try simp only [push_cast, seval, cSz, Int.reduceAdd, Int.reduceLT]) <;> (try (with_reducible rfl)))
    all_goals rfl
   ·simp
   ·rintro k hk
    have : k = 0 ∨ k = 1 ∨ k = 2 := by omega
    rcases this with rfl | rfl | rfl
    ·
     (refine x_gg (zc @cLs.eq_1 @Int.zero_add) ?_)
     refine ⟨1, ?_, by omega, by omega⟩
     (refine Le.of ?_ ?_ rfl rfl <;> (try simp only [push_cast, seval, cLs, Int.reduceAdd, Int.reduceLT, Int.zero_add]) <;> (try (with_reducible rfl)))
     all_goals rfl
    ·
     (refine x_gg (zc @cLs.eq_1 (zc @Int.zero_add @lenAp)) ?_)
     refine ⟨2, ?_, by omega, by omega⟩
     (refine Le.of ?_ ?_ rfl rfl <;> (try simp only [push_cast, seval, cLs, Int.reduceAdd, Int.reduceLT, Int.zero_add, List.length_append]) <;> (try (with_reducible rfl)))
     all_goals rfl
    ·
     (refine x_gg (zc @cLs.eq_1 @Int.zero_add) ?_)
     (apply Wp.freeze 2; (exact x_ev (zc @cLs.eq_1 @Int.zero_add)); (exact x_ev (zc @cLs.eq_1 @Int.zero_add)); (focus (try simp only [push_cast, seval, cLs, Int.reduceAdd, Int.reduceLT, Int.zero_add]); (try (exact sT))); (focus (exact sT)))
     (first | exact x_ret (zc @cLs.eq_1 @Int.zero_add) | refine x_retZ (zc @cLs.eq_1 @Int.zero_add) ?_)
theorem concat_pure (a b : List Int) (ha : a.length ≤ 100) (hb : b.length ≤ 100) : Pure Tryz.prog 50 [.lst 1 [.ints a, .ints b]] (.ints (a ++ b)) := by
 by_cases h : 1 ≤ a.length + b.length
 ·exact concat1_pure a b h ha hb
 ·obtain rfl : a = [] := List.eq_nil_of_length_eq_zero (by omega)
  obtain rfl : b = [] := List.eq_nil_of_length_eq_zero (by omega)
  (refine Spec.bd 0 Tryz.func50 Tryz.results50 Tryz.ntmps50 ?_; simp only [entry, zipArgs, Nat.reduceAdd])
  (refine w_go ?_)
  refine Wp.loop (fun (k : Nat) => { t := [(0, .lst 1 [.ints [], .ints []]), (9, .lst 1 [.ints [], .ints []]), (10, .int (0 + 1 + 1)), (11, .int k), (3, .int 0)], m := [], n := 36 }) (fun k => k ≤ 2) (fun k => 2 - k) 0 ?_ ?_ ?_
  ·(refine Le.of ?_ ?_ rfl rfl <;> (try simp only [push_cast, seval]) <;> (try (with_reducible rfl)))
   all_goals rfl
  ·simp
  ·rintro k hk
   have : k = 0 ∨ k = 1 ∨ k = 2 := by omega
   rcases this with rfl | rfl | rfl
   ·(refine x_gg @lenNi ?_)
    refine ⟨1, ?_, by omega, by omega⟩
    (refine Le.of ?_ ?_ rfl rfl <;> (try simp only [push_cast, seval, Int.reduceLT, Int.reduceAdd, List.length_nil]) <;> (try (with_reducible rfl)))
   ·(refine x_gg @lenNi ?_)
    refine ⟨2, ?_, by omega, by omega⟩
    (refine Le.of ?_ ?_ rfl rfl <;> (try simp only [push_cast, seval, Int.reduceLT, Int.reduceAdd, List.length_nil]) <;> (try (with_reducible rfl)))
   ·(refine x_gg @lenNi ?_)
    (apply Run.pureFP; (exact x_ev @lenNi); (exact (Enters.of Tryz.func89 rfl rfl)); (exact grow0_pure); (exact x_al @lenNi); (try dsimp only [putA, optG]))
    (repeat (refine x_nr @lenNi ?_))
    (apply Run.nil; dsimp only [sQ, tQ, bQ])
    apply Wp.adopt 6 1; (exact x_ev @lenNi)
    (refine x_gg @lenNi ?_)
    refine Wp.loop (fun (k : Nat) => { t := [(25, .lst 1 [.ints [], .ints []]), (26, .int 2), (27, .int k), (6, .osl 0 k 0 0)], m := [⟨k, .row 1 []⟩], n := 36 }) (fun k => k ≤ 2) (fun k => 2 - k) 0 ?_ ?_ ?_
    ·(refine Le.of ?_ ?_ rfl rfl <;> (try simp only [push_cast, seval, Int.reduceLT, Int.reduceAdd, List.length_nil]) <;> (try (with_reducible rfl)))
     all_goals rfl
    ·simp
    ·rintro k hk
     have : k = 0 ∨ k = 1 ∨ k = 2 := by omega
     rcases this with rfl | rfl | rfl
     ·(refine x_gg @lenNi ?_)
      refine ⟨1, ?_, by omega, by omega⟩
      (refine Le.of ?_ ?_ rfl rfl <;> (try simp only [push_cast, seval, Int.reduceLT, Int.reduceAdd, List.length_nil]) <;> (try (with_reducible rfl)))
     ·(refine x_gg @lenNi ?_)
      refine ⟨2, ?_, by omega, by omega⟩
      (refine Le.of ?_ ?_ rfl rfl <;> (try simp only [push_cast, seval, Int.reduceLT, Int.reduceAdd, List.length_nil]) <;> (try (with_reducible rfl)))
     ·(refine x_gg @lenNi ?_)
      (apply Wp.freeze 2; (exact x_ev @lenNi); (exact x_ev @lenNi); (focus (try simp only [push_cast, seval, Int.reduceLT, Int.reduceAdd, List.length_nil]); (try (exact sT))); (focus (exact sT)))
      (first | exact x_ret @lenNi | refine x_retZ @lenNi ?_)
end Go.Proofs.Tryz
set_option maxHeartbeats 16000000
namespace Go.Proofs.Tryz
open Go.Vg
theorem dgt_len (n : Nat) : (dgt n).length ≤ 2 := by unfold dgt; split <;> simp
theorem dcL_len (n : Int) : (dcL n).length ≤ 3 := by
 unfold dcL
 split
 ·have := dgt_len (-n).toNat; simp only [List.length_cons]; omega
 ·have := dgt_len n.toNat; omega
theorem kyT_len (l : List Int) : (kyT l).length ≤ 4 * l.length := by
 induction l with
 | nil => simp [kyT]
 | cons a l ih =>
  have e : kyT (a :: l) = 32 :: (dcL a ++ kyT l) := by simp [kyT]
  have := dcL_len a
  rw [e]
  simp only [List.length_cons, List.length_append]
  omega
theorem bsz (l : List UInt8) : (⟨l.toArray⟩ : ByteArray).size = l.length := by
 show (⟨l.toArray⟩ : ByteArray).data.size = _
 simp
theorem dcm_size (n : Int) : (dcm n).size ≤ 3 := by unfold dcm; rw [bsz]; exact dcL_len n
theorem kyB_size (a : Int) (l : List Int) : (kyB a l).size ≤ 3 + 4 * l.length := by
 unfold kyB kyL
 rw [bsz, List.length_append]
 have := dcL_len a
 have := kyT_len l
 omega
theorem key_pure (r : Rm) (f s : St) (a : Int) (ha : inR a) (hs : s.ts.length ≤ 100 ∧ s.pp.length ≤ 100) (hk : ∀ n ∈ s.ts ++ s.pp, inR n) : Pure Tryz.prog 48 [.agg (kC r f s a)] (.str (kyB a (s.ts ++ s.pp))) := by
 have h0 := itoa_pure ha
 have h1 := concat_pure s.ts s.pp hs.1 hs.2
 have hl : (s.ts ++ s.pp).length = s.ts.length + s.pp.length := List.length_append
 have hkc := rfl (a := kC r f s a)
 (refine Spec.bd 0 Tryz.func48 Tryz.results48 Tryz.ntmps48 ?_; simp only [entry, zipArgs, Nat.reduceAdd])
 (refine w_go ?_)
 (apply Run.pureFP; (exact w_ev); (exact (Enters.of Tryz.func49 rfl rfl)); (exact h0); (exact w_al); (try dsimp only [putA, optG]))
 (refine w_go ?_)
 (apply Run.pureFP; (exact w_ev); (exact (Enters.of Tryz.func50 rfl rfl)); (exact h1); (exact w_al); (try dsimp only [putA, optG]))
 generalize s.ts ++ s.pp = l at *
 (refine w_go ?_)
 refine Wp.loop (fun (k : Nat) => { t := [(3, .str (kyB a (l.take k))), (16, .ints l), (17, .int l.length), (18, .int k)], m := [⟨0, .row 15 [.agg (kC r f s a)]⟩], n := 29 }) (fun k => k ≤ l.length) (fun k => l.length - k) 0 ?_ ?_ ?_
 ·(refine Le.of ?_ ?_ rfl rfl <;> (try simp only [push_cast, seval]) <;> (try (with_reducible rfl)))
  all_goals first
   | rfl
   | (rw [← kyB_nil])
 ·simp
 ·rintro k hk1
  (refine w_go ?_)
  (apply Wp.cond; (exact w_ev))
  ·(intro hc; first | replace hc := bT hc | skip)
   have hg : l.getD k 0 = l[k] := by simp [hc]
   have hn : inR (l.getD k 0) := hk _ (by rw [hg]; exact List.getElem_mem hc)
   have h2 := itoa_pure hn
   have hst : kyB a (l.take (k + 1)) = kyB a (l.take k) ++ (spB ++ dcm (l.getD k 0)) := by
    rw [← kyB_snoc, hg, List.take_succ, List.getElem?_eq_getElem hc]
    rfl
   have z1 := kyB_size a (l.take k)
   have z2 := dcm_size (l.getD k 0)
   have z3 : (l.take k).length ≤ k := List.length_take_le _ _
   have z4 : (⟨#[32]⟩ : ByteArray).size = 1 := rfl
   have z5 : ((⟨#[32]⟩ : ByteArray) ++ dcm (l.getD k 0)).size = (⟨#[32]⟩ : ByteArray).size + (dcm (l.getD k 0)).size := ByteArray.size_append
   (refine w_go ?_)
   generalize hx : l.getD k 0 = x at *
   (apply Run.pureFP; (exact x_ev @hx); (exact (Enters.of Tryz.func49 rfl rfl)); (exact h2); (exact x_al @hx); (try dsimp only [putA, optG]))
   (refine x_go @hx ?_)
   refine ⟨k + 1, ?_, by omega, by omega⟩
   (refine Le.of ?_ ?_ rfl rfl <;> (try simp only [push_cast, seval, hx]) <;> (try (with_reducible rfl)))
   all_goals first
    | rfl
    | (rw [hst]; rfl)
  ·(intro hc; first | replace hc := bT hc | skip)
   obtain rfl : k = l.length := by omega
   (refine w_go ?_)
   (first | exact w_ret | refine w_retZ ?_)
   try rw [List.take_length]
end Go.Proofs.Tryz
set_option maxHeartbeats 16000000
namespace Go.Proofs.Tryz
open Go.Vg
structure Tk where
 kd : Int
 nu : Int
 ar : Int
 deriving DecidableEq
def tkA (t : Tk) : AV := .agg [.int t.kd, .int t.nu, .int t.ar]
abbrev tk0 : Tk := ⟨0, 0, 0⟩
def wkB (r : Rm) (a : Int) (t : Tk) : Bool := decide (t.ar = 0) && wi t.nu 0 ((r.wy.length : Int) - 1) && (decide ((r.wy.getD t.nu.toNat wy0).a = a) || decide ((r.wy.getD t.nu.toNat wy0).b = a))
def tnB (r : Rm) (s : St) (a : Int) (t : Tk) : Bool := wi t.nu 0 ((r.ts.length : Int) - 1) && (decide ((r.ts.getD t.nu.toNat th0).pl = a) && wi t.ar 0 ((r.ts.getD t.nu.toNat th0).ss - 1) && !decide (s.ts.getD t.nu.toNat 0 = t.ar))
def ptB (r : Rm) (f s : St) (a : Int) (t : Tk) : Bool := decide (t.ar = 0) && wi t.nu 0 ((r.pp.length : Int) - 1) && !decide (s.pp.getD t.nu.toNat 0 = f.pp.getD t.nu.toNat 0) && (decide (f.pp.getD t.nu.toNat 0 = -1) || (decide (f.pp.getD t.nu.toNat 0 = a) && hdB s.ts (r.pp.getD t.nu.toNat pp0).wh))
def canB (r : Rm) (f s : St) (a : Int) (t : Tk) : Bool := if t.kd = 1 then wkB r a t else if t.kd = 2 then tnB r s a t else if t.kd = 3 then ptB r f s a t else false
def doS (r : Rm) (f s : St) (a : Int) (t : Tk) : St := if t.kd = 2 then { s with ts := s.ts.set t.nu.toNat t.ar } else if t.kd = 3 then { s with pp := s.pp.set t.nu.toNat (f.pp.getD t.nu.toNat 0) } else s
def doA (r : Rm) (a : Int) (t : Tk) : Int := if t.kd = 1 then (r.wy.getD t.nu.toNat wy0).a + (r.wy.getD t.nu.toNat wy0).b - a else a
theorem can_walk (r : Rm) (hy : r.wy.length ≤ 100) (f s : St) (a : Int) (t : Tk) (hk : t.kd = 1) : Pure Tryz.prog 52 [.ref (kC r f s a) 0, tkA t] (.bool (wkB r a t)) := by
 obtain ⟨kd, nu, ar⟩ := t
 simp only at hk
 subst hk
 unfold tkA wkB
 simp only
 have h1 := within2_pure nu 0 ((r.wy.length : Int) - 1)
 have hwi : wi nu 0 ((r.wy.length : Int) - 1) = true → 0 ≤ nu ∧ nu < r.wy.length := fun h => by unfold wi at h; simp only [Bool.and_eq_true, decide_eq_true_eq] at h; omega
 generalize wi nu 0 ((r.wy.length : Int) - 1) = w at h1 hwi
 have hkc := rfl (a := kC r f s a)
 cases hb0 : decide (ar = 0) with
 | false =>
  (refine Spec.bd 0 Tryz.func52 Tryz.results52 Tryz.ntmps52 ?_; simp only [entry, zipArgs, Nat.reduceAdd])
  (refine x_go (zc @hb0 @Bool.false_and) ?_)
  apply Wp.condT; (exact x_ev (zc @hb0 @Bool.false_and))
  (refine x_go (zc @hb0 @Bool.false_and) ?_)
  (refine Wp.rnD 49 ?_; apply exAb; (((refine x_abz (zc @hb0 @Bool.false_and) ?_); (first | ((apply Abn.pureP; (exact x_ev (zc @hb0 @Bool.false_and)); (exact (Enters.of Tryz.func67 rfl rfl)); (exact h1); (exact x_al (zc @hb0 @Bool.false_and)); (try dsimp only [putA, optG]))) | skip); (refine x_abz (zc @hb0 @Bool.false_and) ?_)); exact Abn.nil))
  (refine x_go (zc @hb0 @Bool.false_and) ?_)
  (first | exact x_ret (zc @hb0 @Bool.false_and) | refine x_retZ (zc @hb0 @Bool.false_and) ?_)
 | true =>
  cases w with
  | false =>
   (refine Spec.bd 0 Tryz.func52 Tryz.results52 Tryz.ntmps52 ?_; simp only [entry, zipArgs, Nat.reduceAdd])
   (refine x_go (zc @hb0 (zc @Bool.false_and (zc @Bool.and_false @Bool.true_and))) ?_)
   apply Wp.condT; (exact x_ev (zc @hb0 (zc @Bool.false_and (zc @Bool.and_false @Bool.true_and))))
   (refine x_go (zc @hb0 (zc @Bool.false_and (zc @Bool.and_false @Bool.true_and))) ?_)
   (refine Wp.rnD 49 ?_; apply exAb; (((refine x_abz (zc @hb0 (zc @Bool.false_and (zc @Bool.and_false @Bool.true_and))) ?_); (first | ((apply Abn.pureP; (exact x_ev (zc @hb0 (zc @Bool.false_and (zc @Bool.and_false @Bool.true_and)))); (exact (Enters.of Tryz.func67 rfl rfl)); (exact h1); (exact x_al (zc @hb0 (zc @Bool.false_and (zc @Bool.and_false @Bool.true_and)))); (try dsimp only [putA, optG]))) | skip); (refine x_abz (zc @hb0 (zc @Bool.false_and (zc @Bool.and_false @Bool.true_and))) ?_)); exact Abn.nil))
   (refine x_go (zc @hb0 (zc @Bool.false_and (zc @Bool.and_false @Bool.true_and))) ?_)
   (first | exact x_ret (zc @hb0 (zc @Bool.false_and (zc @Bool.and_false @Bool.true_and))) | refine x_retZ (zc @hb0 (zc @Bool.false_and (zc @Bool.and_false @Bool.true_and))) ?_)
  | true =>
   obtain ⟨hn1, hn2⟩ := hwi rfl
   obtain ⟨n, rfl⟩ : ∃ n : Nat, nu = n := ⟨nu.toNat, by omega⟩
   have hn3 : n < r.wy.length := by omega
   have hgd := fun d => getD_wy (d := d) hn3
   simp only [Int.toNat_natCast]
   obtain ⟨x, hx⟩ : ∃ x, r.wy.getD n wy0 = x := ⟨_, rfl⟩
   simp only [hx] at hgd ⊢
   cases hb1 : decide (x.a = a) with
   | true =>
    (refine Spec.bd 0 Tryz.func52 Tryz.results52 Tryz.ntmps52 ?_; simp only [entry, zipArgs, Nat.reduceAdd])
    (refine x_go (zc @hb0 (zc @hb1 (zc @Bool.false_and (zc @Bool.and_false (zc @Bool.true_and (zc @Bool.true_or (zc @Bool.false_or (zc @hgd (zc @wyA.eq_1 @Int.toNat_natCast))))))))) ?_)
    apply Wp.condT; (exact x_ev (zc @hb0 (zc @hb1 (zc @Bool.false_and (zc @Bool.and_false (zc @Bool.true_and (zc @Bool.true_or (zc @Bool.false_or (zc @hgd (zc @wyA.eq_1 @Int.toNat_natCast))))))))))
    (refine x_go (zc @hb0 (zc @hb1 (zc @Bool.false_and (zc @Bool.and_false (zc @Bool.true_and (zc @Bool.true_or (zc @Bool.false_or (zc @hgd (zc @wyA.eq_1 @Int.toNat_natCast))))))))) ?_)
    (refine Wp.rnD 49 ?_; apply exAb; (((refine x_abz (zc @hb0 (zc @hb1 (zc @Bool.false_and (zc @Bool.and_false (zc @Bool.true_and (zc @Bool.true_or (zc @Bool.false_or (zc @hgd (zc @wyA.eq_1 @Int.toNat_natCast))))))))) ?_); (first | ((apply Abn.pureP; (exact x_ev (zc @hb0 (zc @hb1 (zc @Bool.false_and (zc @Bool.and_false (zc @Bool.true_and (zc @Bool.true_or (zc @Bool.false_or (zc @hgd (zc @wyA.eq_1 @Int.toNat_natCast)))))))))); (exact (Enters.of Tryz.func67 rfl rfl)); (exact h1); (exact x_al (zc @hb0 (zc @hb1 (zc @Bool.false_and (zc @Bool.and_false (zc @Bool.true_and (zc @Bool.true_or (zc @Bool.false_or (zc @hgd (zc @wyA.eq_1 @Int.toNat_natCast)))))))))); (try dsimp only [putA, optG]))) | skip); (refine x_abz (zc @hb0 (zc @hb1 (zc @Bool.false_and (zc @Bool.and_false (zc @Bool.true_and (zc @Bool.true_or (zc @Bool.false_or (zc @hgd (zc @wyA.eq_1 @Int.toNat_natCast))))))))) ?_)); exact Abn.nil))
    (refine x_go (zc @hb0 (zc @hb1 (zc @Bool.false_and (zc @Bool.and_false (zc @Bool.true_and (zc @Bool.true_or (zc @Bool.false_or (zc @hgd (zc @wyA.eq_1 @Int.toNat_natCast))))))))) ?_)
    (first | exact x_ret (zc @hb0 (zc @hb1 (zc @Bool.false_and (zc @Bool.and_false (zc @Bool.true_and (zc @Bool.true_or (zc @Bool.false_or (zc @hgd (zc @wyA.eq_1 @Int.toNat_natCast))))))))) | refine x_retZ (zc @hb0 (zc @hb1 (zc @Bool.false_and (zc @Bool.and_false (zc @Bool.true_and (zc @Bool.true_or (zc @Bool.false_or (zc @hgd (zc @wyA.eq_1 @Int.toNat_natCast))))))))) ?_)
   | false =>
    (refine Spec.bd 0 Tryz.func52 Tryz.results52 Tryz.ntmps52 ?_; simp only [entry, zipArgs, Nat.reduceAdd])
    (refine x_go (zc @hb0 (zc @hb1 (zc @Bool.false_and (zc @Bool.and_false (zc @Bool.true_and (zc @Bool.true_or (zc @Bool.false_or (zc @hgd (zc @wyA.eq_1 @Int.toNat_natCast))))))))) ?_)
    apply Wp.condT; (exact x_ev (zc @hb0 (zc @hb1 (zc @Bool.false_and (zc @Bool.and_false (zc @Bool.true_and (zc @Bool.true_or (zc @Bool.false_or (zc @hgd (zc @wyA.eq_1 @Int.toNat_natCast))))))))))
    (refine x_go (zc @hb0 (zc @hb1 (zc @Bool.false_and (zc @Bool.and_false (zc @Bool.true_and (zc @Bool.true_or (zc @Bool.false_or (zc @hgd (zc @wyA.eq_1 @Int.toNat_natCast))))))))) ?_)
    (refine Wp.rnD 49 ?_; apply exAb; (((refine x_abz (zc @hb0 (zc @hb1 (zc @Bool.false_and (zc @Bool.and_false (zc @Bool.true_and (zc @Bool.true_or (zc @Bool.false_or (zc @hgd (zc @wyA.eq_1 @Int.toNat_natCast))))))))) ?_); (first | ((apply Abn.pureP; (exact x_ev (zc @hb0 (zc @hb1 (zc @Bool.false_and (zc @Bool.and_false (zc @Bool.true_and (zc @Bool.true_or (zc @Bool.false_or (zc @hgd (zc @wyA.eq_1 @Int.toNat_natCast)))))))))); (exact (Enters.of Tryz.func67 rfl rfl)); (exact h1); (exact x_al (zc @hb0 (zc @hb1 (zc @Bool.false_and (zc @Bool.and_false (zc @Bool.true_and (zc @Bool.true_or (zc @Bool.false_or (zc @hgd (zc @wyA.eq_1 @Int.toNat_natCast)))))))))); (try dsimp only [putA, optG]))) | skip); (refine x_abz (zc @hb0 (zc @hb1 (zc @Bool.false_and (zc @Bool.and_false (zc @Bool.true_and (zc @Bool.true_or (zc @Bool.false_or (zc @hgd (zc @wyA.eq_1 @Int.toNat_natCast))))))))) ?_)); exact Abn.nil))
    (refine x_go (zc @hb0 (zc @hb1 (zc @Bool.false_and (zc @Bool.and_false (zc @Bool.true_and (zc @Bool.true_or (zc @Bool.false_or (zc @hgd (zc @wyA.eq_1 @Int.toNat_natCast))))))))) ?_)
    (first | exact x_ret (zc @hb0 (zc @hb1 (zc @Bool.false_and (zc @Bool.and_false (zc @Bool.true_and (zc @Bool.true_or (zc @Bool.false_or (zc @hgd (zc @wyA.eq_1 @Int.toNat_natCast))))))))) | refine x_retZ (zc @hb0 (zc @hb1 (zc @Bool.false_and (zc @Bool.and_false (zc @Bool.true_and (zc @Bool.true_or (zc @Bool.false_or (zc @hgd (zc @wyA.eq_1 @Int.toNat_natCast))))))))) ?_)
end Go.Proofs.Tryz
set_option maxHeartbeats 16000000
namespace Go.Proofs.Tryz
open Go.Vg
theorem can_other (r : Rm) (f s : St) (a : Int) (t : Tk) (h1 : t.kd ≠ 1) (h2 : t.kd ≠ 2) (h3 : t.kd ≠ 3) : Pure Tryz.prog 52 [.ref (kC r f s a) 0, tkA t] (.bool false) := by
 obtain ⟨kd, nu, ar⟩ := t
 simp only at h1 h2 h3
 unfold tkA
 simp only
 have hkc := rfl (a := kC r f s a)
 have e1 : decide (kd = 1) = false := decide_eq_false h1
 have e2 : decide (kd = 2) = false := decide_eq_false h2
 have e3 : decide (kd = 3) = false := decide_eq_false h3
 (refine Spec.bd 0 Tryz.func52 Tryz.results52 Tryz.ntmps52 ?_; simp only [entry, zipArgs, Nat.reduceAdd])
 (refine x_gg (zc @e1 (zc @e2 @e3)) ?_)
 (first | exact x_ret (zc @e1 (zc @e2 @e3)) | refine x_retZ (zc @e1 (zc @e2 @e3)) ?_)
theorem can_turn (r : Rm) (hy : r.ts.length ≤ 100) (hss : ∀ x ∈ r.ts, 2 ≤ x.ss ∧ x.ss ≤ 6) (f s : St) (hs : s.ts.length = r.ts.length) (a : Int) (t : Tk) (hk : t.kd = 2) : Pure Tryz.prog 52 [.ref (kC r f s a) 0, tkA t] (.bool (tnB r s a t)) := by
 obtain ⟨kd, nu, ar⟩ := t
 simp only at hk
 subst hk
 unfold tkA tnB
 simp only
 have h1 := within2_pure nu 0 ((r.ts.length : Int) - 1)
 have hwi : wi nu 0 ((r.ts.length : Int) - 1) = true → 0 ≤ nu ∧ nu < r.ts.length := fun h => by unfold wi at h; simp only [Bool.and_eq_true, decide_eq_true_eq] at h; omega
 generalize wi nu 0 ((r.ts.length : Int) - 1) = w at h1 hwi
 have hkc := rfl (a := kC r f s a)
 cases w with
 | false =>
  (refine Spec.bd 0 Tryz.func52 Tryz.results52 Tryz.ntmps52 ?_; simp only [entry, zipArgs, Nat.reduceAdd])
  (refine x_go (zc @Bool.false_and @Bool.not_false) ?_)
  apply Wp.condF; (exact x_ev (zc @Bool.false_and @Bool.not_false))
  (refine x_go (zc @Bool.false_and @Bool.not_false) ?_)
  apply Wp.condT; (exact x_ev (zc @Bool.false_and @Bool.not_false))
  (refine x_go (zc @Bool.false_and @Bool.not_false) ?_)
  (refine Wp.rnD 11 ?_; apply exAb; (((refine x_abz (zc @Bool.false_and @Bool.not_false) ?_); (apply Abn.pureP; (exact x_ev (zc @Bool.false_and @Bool.not_false)); (exact (Enters.of Tryz.func67 rfl rfl)); (exact h1); (exact x_al (zc @Bool.false_and @Bool.not_false)); (try dsimp only [putA, optG])); (refine x_abz (zc @Bool.false_and @Bool.not_false) ?_)); exact Abn.nil))
  (refine x_gg (zc @Bool.false_and @Bool.not_false) ?_)
  (first | exact x_ret (zc @Bool.false_and @Bool.not_false) | refine x_retZ (zc @Bool.false_and @Bool.not_false) ?_)
 | true =>
  obtain ⟨hn1, hn2⟩ := hwi rfl
  obtain ⟨n, rfl⟩ : ∃ n : Nat, nu = n := ⟨nu.toNat, by omega⟩
  have hn3 : n < r.ts.length := by omega
  have hgd := getD_th r.ts n
  simp only [Int.toNat_natCast]
  obtain ⟨x, hx⟩ : ∃ x, r.ts.getD n th0 = x := ⟨_, rfl⟩
  simp only [hx] at hgd ⊢
  have hsx := hss x (by rw [← hx, show r.ts.getD n th0 = r.ts[n] by simp [hn3]]; exact List.getElem_mem hn3)
  obtain ⟨y, hy2⟩ : ∃ y, s.ts.getD n 0 = y := ⟨_, rfl⟩
  simp only [hy2]
  have h2 := within2_pure ar 0 (x.ss - 1)
  generalize wi ar 0 (x.ss - 1) = w2 at h2
  cases hb1 : decide (x.pl = a) with
  | false =>
   (refine Spec.bd 0 Tryz.func52 Tryz.results52 Tryz.ntmps52 ?_; simp only [entry, zipArgs, Nat.reduceAdd])
   (refine x_go (zc @Bool.false_and (zc @Bool.not_true (zc @Bool.true_and (zc @hb1 (zc @hgd (zc @hx (zc @thA.eq_1 @Int.toNat_natCast))))))) ?_)
   apply Wp.condF; (exact x_ev (zc @Bool.false_and (zc @Bool.not_true (zc @Bool.true_and (zc @hb1 (zc @hgd (zc @hx (zc @thA.eq_1 @Int.toNat_natCast))))))))
   (refine x_go (zc @Bool.false_and (zc @Bool.not_true (zc @Bool.true_and (zc @hb1 (zc @hgd (zc @hx (zc @thA.eq_1 @Int.toNat_natCast))))))) ?_)
   apply Wp.condT; (exact x_ev (zc @Bool.false_and (zc @Bool.not_true (zc @Bool.true_and (zc @hb1 (zc @hgd (zc @hx (zc @thA.eq_1 @Int.toNat_natCast))))))))
   (refine x_go (zc @Bool.false_and (zc @Bool.not_true (zc @Bool.true_and (zc @hb1 (zc @hgd (zc @hx (zc @thA.eq_1 @Int.toNat_natCast))))))) ?_)
   (refine Wp.rnD 11 ?_; apply exAb; (((refine x_abz (zc @Bool.false_and (zc @Bool.not_true (zc @Bool.true_and (zc @hb1 (zc @hgd (zc @hx (zc @thA.eq_1 @Int.toNat_natCast))))))) ?_); (apply Abn.pureP; (exact x_ev (zc @Bool.false_and (zc @Bool.not_true (zc @Bool.true_and (zc @hb1 (zc @hgd (zc @hx (zc @thA.eq_1 @Int.toNat_natCast)))))))); (exact (Enters.of Tryz.func67 rfl rfl)); (exact h1); (exact x_al (zc @Bool.false_and (zc @Bool.not_true (zc @Bool.true_and (zc @hb1 (zc @hgd (zc @hx (zc @thA.eq_1 @Int.toNat_natCast)))))))); (try dsimp only [putA, optG])); (refine x_abz (zc @Bool.false_and (zc @Bool.not_true (zc @Bool.true_and (zc @hb1 (zc @hgd (zc @hx (zc @thA.eq_1 @Int.toNat_natCast))))))) ?_)); exact Abn.nil))
   (refine x_gg (zc @Bool.false_and (zc @Bool.not_true (zc @Bool.true_and (zc @hb1 (zc @hgd (zc @hx (zc @thA.eq_1 @Int.toNat_natCast))))))) ?_)
   (apply Wp.runVE 10 mixed; (dsimp only [List.map] <;> exact rfl); exact rfl; kernel_rfl; (dsimp only [List.take] <;> exact rfl); (dsimp only [List.drop] <;> exact rfl); kernel_rfl; ((try dsimp only); (repeat (first | (apply AbsV.alc; exact rfl; (exact x_ev (zc @Bool.false_and (zc @Bool.not_true (zc @Bool.true_and (zc @hb1 (zc @hgd (zc @hx (zc @thA.eq_1 @Int.toNat_natCast)))))))); ((try simp only [push_cast, seval, Bool.false_and, Bool.not_true, Bool.true_and, hb1, hgd, hx, thA, Int.toNat_natCast]) <;> exact sT); dsimp only [upd, alcV, List.length_cons, List.length_nil, Nat.reduceAdd]) | (apply AbsV.apn; exact rfl; (exact x_ev (zc @Bool.false_and (zc @Bool.not_true (zc @Bool.true_and (zc @hb1 (zc @hgd (zc @hx (zc @thA.eq_1 @Int.toNat_natCast)))))))); ((try simp only [push_cast, seval, Bool.false_and, Bool.not_true, Bool.true_and, hb1, hgd, hx, thA, Int.toNat_natCast]) <;> exact sT); dsimp only [upd, alcV, List.length_cons, List.length_nil, Nat.reduceAdd]) | (apply AbsV.cons; exact rfl; exact rfl; (exact x_ev (zc @Bool.false_and (zc @Bool.not_true (zc @Bool.true_and (zc @hb1 (zc @hgd (zc @hx (zc @thA.eq_1 @Int.toNat_natCast)))))))); ((try simp only [push_cast, seval, Bool.false_and, Bool.not_true, Bool.true_and, hb1, hgd, hx, thA, Int.toNat_natCast]) <;> exact sT); dsimp only [upd]))); exact AbsV.nil); exact rfl; ((try dsimp only [List.map, List.cons_append, List.nil_append]); (exact x_ev (zc @Bool.false_and (zc @Bool.not_true (zc @Bool.true_and (zc @hb1 (zc @hgd (zc @hx (zc @thA.eq_1 @Int.toNat_natCast))))))))); ((try simp only [push_cast, seval, Bool.false_and, Bool.not_true, Bool.true_and, hb1, hgd, hx, thA, Int.toNat_natCast]) <;> exact sT); dsimp only [upd])
   (refine x_mv (zc @Bool.false_and (zc @Bool.not_true (zc @Bool.true_and (zc @hb1 (zc @hgd (zc @hx (zc @thA.eq_1 @Int.toNat_natCast))))))) ?_)
   (refine Wp.rnD 29 ?_; apply exAb; (((refine x_abz (zc @Bool.false_and (zc @Bool.not_true (zc @Bool.true_and (zc @hb1 (zc @hgd (zc @hx (zc @thA.eq_1 @Int.toNat_natCast))))))) ?_); (first | ((apply Abn.pureP; (exact x_ev (zc @Bool.false_and (zc @Bool.not_true (zc @Bool.true_and (zc @hb1 (zc @hgd (zc @hx (zc @thA.eq_1 @Int.toNat_natCast)))))))); (exact (Enters.of Tryz.func67 rfl rfl)); (exact h2); (exact x_al (zc @Bool.false_and (zc @Bool.not_true (zc @Bool.true_and (zc @hb1 (zc @hgd (zc @hx (zc @thA.eq_1 @Int.toNat_natCast)))))))); (try dsimp only [putA, optG]))) | skip); (refine x_abz (zc @Bool.false_and (zc @Bool.not_true (zc @Bool.true_and (zc @hb1 (zc @hgd (zc @hx (zc @thA.eq_1 @Int.toNat_natCast))))))) ?_)); exact Abn.nil))
   (refine x_gg (zc @Bool.false_and (zc @Bool.not_true (zc @Bool.true_and (zc @hb1 (zc @hgd (zc @hx (zc @thA.eq_1 @Int.toNat_natCast))))))) ?_)
   (first | exact x_ret (zc @Bool.false_and (zc @Bool.not_true (zc @Bool.true_and (zc @hb1 (zc @hgd (zc @hx (zc @thA.eq_1 @Int.toNat_natCast))))))) | refine x_retZ (zc @Bool.false_and (zc @Bool.not_true (zc @Bool.true_and (zc @hb1 (zc @hgd (zc @hx (zc @thA.eq_1 @Int.toNat_natCast))))))) ?_)
  | true =>
   cases w2 with
   | false =>
    (refine Spec.bd 0 Tryz.func52 Tryz.results52 Tryz.ntmps52 ?_; simp only [entry, zipArgs, Nat.reduceAdd])
    (refine x_go (zc @Bool.false_and (zc @Bool.and_false (zc @Bool.not_true (zc @Bool.true_and (zc @hb1 (zc @hgd (zc @hx (zc @thA.eq_1 @Int.toNat_natCast)))))))) ?_)
    apply Wp.condF; (exact x_ev (zc @Bool.false_and (zc @Bool.and_false (zc @Bool.not_true (zc @Bool.true_and (zc @hb1 (zc @hgd (zc @hx (zc @thA.eq_1 @Int.toNat_natCast)))))))))
    (refine x_go (zc @Bool.false_and (zc @Bool.and_false (zc @Bool.not_true (zc @Bool.true_and (zc @hb1 (zc @hgd (zc @hx (zc @thA.eq_1 @Int.toNat_natCast)))))))) ?_)
    apply Wp.condT; (exact x_ev (zc @Bool.false_and (zc @Bool.and_false (zc @Bool.not_true (zc @Bool.true_and (zc @hb1 (zc @hgd (zc @hx (zc @thA.eq_1 @Int.toNat_natCast)))))))))
    (refine x_go (zc @Bool.false_and (zc @Bool.and_false (zc @Bool.not_true (zc @Bool.true_and (zc @hb1 (zc @hgd (zc @hx (zc @thA.eq_1 @Int.toNat_natCast)))))))) ?_)
    (refine Wp.rnD 11 ?_; apply exAb; (((refine x_abz (zc @Bool.false_and (zc @Bool.and_false (zc @Bool.not_true (zc @Bool.true_and (zc @hb1 (zc @hgd (zc @hx (zc @thA.eq_1 @Int.toNat_natCast)))))))) ?_); (apply Abn.pureP; (exact x_ev (zc @Bool.false_and (zc @Bool.and_false (zc @Bool.not_true (zc @Bool.true_and (zc @hb1 (zc @hgd (zc @hx (zc @thA.eq_1 @Int.toNat_natCast))))))))); (exact (Enters.of Tryz.func67 rfl rfl)); (exact h1); (exact x_al (zc @Bool.false_and (zc @Bool.and_false (zc @Bool.not_true (zc @Bool.true_and (zc @hb1 (zc @hgd (zc @hx (zc @thA.eq_1 @Int.toNat_natCast))))))))); (try dsimp only [putA, optG])); (refine x_abz (zc @Bool.false_and (zc @Bool.and_false (zc @Bool.not_true (zc @Bool.true_and (zc @hb1 (zc @hgd (zc @hx (zc @thA.eq_1 @Int.toNat_natCast)))))))) ?_)); exact Abn.nil))
    (refine x_gg (zc @Bool.false_and (zc @Bool.and_false (zc @Bool.not_true (zc @Bool.true_and (zc @hb1 (zc @hgd (zc @hx (zc @thA.eq_1 @Int.toNat_natCast)))))))) ?_)
    (apply Wp.runVE 10 mixed; (dsimp only [List.map] <;> exact rfl); exact rfl; kernel_rfl; (dsimp only [List.take] <;> exact rfl); (dsimp only [List.drop] <;> exact rfl); kernel_rfl; ((try dsimp only); (repeat (first | (apply AbsV.alc; exact rfl; (exact x_ev (zc @Bool.false_and (zc @Bool.and_false (zc @Bool.not_true (zc @Bool.true_and (zc @hb1 (zc @hgd (zc @hx (zc @thA.eq_1 @Int.toNat_natCast))))))))); ((try simp only [push_cast, seval, Bool.false_and, Bool.and_false, Bool.not_true, Bool.true_and, hb1, hgd, hx, thA, Int.toNat_natCast]) <;> exact sT); dsimp only [upd, alcV, List.length_cons, List.length_nil, Nat.reduceAdd]) | (apply AbsV.apn; exact rfl; (exact x_ev (zc @Bool.false_and (zc @Bool.and_false (zc @Bool.not_true (zc @Bool.true_and (zc @hb1 (zc @hgd (zc @hx (zc @thA.eq_1 @Int.toNat_natCast))))))))); ((try simp only [push_cast, seval, Bool.false_and, Bool.and_false, Bool.not_true, Bool.true_and, hb1, hgd, hx, thA, Int.toNat_natCast]) <;> exact sT); dsimp only [upd, alcV, List.length_cons, List.length_nil, Nat.reduceAdd]) | (apply AbsV.cons; exact rfl; exact rfl; (exact x_ev (zc @Bool.false_and (zc @Bool.and_false (zc @Bool.not_true (zc @Bool.true_and (zc @hb1 (zc @hgd (zc @hx (zc @thA.eq_1 @Int.toNat_natCast))))))))); ((try simp only [push_cast, seval, Bool.false_and, Bool.and_false, Bool.not_true, Bool.true_and, hb1, hgd, hx, thA, Int.toNat_natCast]) <;> exact sT); dsimp only [upd]))); exact AbsV.nil); exact rfl; ((try dsimp only [List.map, List.cons_append, List.nil_append]); (exact x_ev (zc @Bool.false_and (zc @Bool.and_false (zc @Bool.not_true (zc @Bool.true_and (zc @hb1 (zc @hgd (zc @hx (zc @thA.eq_1 @Int.toNat_natCast)))))))))); ((try simp only [push_cast, seval, Bool.false_and, Bool.and_false, Bool.not_true, Bool.true_and, hb1, hgd, hx, thA, Int.toNat_natCast]) <;> exact sT); dsimp only [upd])
    (refine x_mv (zc @Bool.false_and (zc @Bool.and_false (zc @Bool.not_true (zc @Bool.true_and (zc @hb1 (zc @hgd (zc @hx (zc @thA.eq_1 @Int.toNat_natCast)))))))) ?_)
    (refine Wp.rnD 29 ?_; apply exAb; (((refine x_abz (zc @Bool.false_and (zc @Bool.and_false (zc @Bool.not_true (zc @Bool.true_and (zc @hb1 (zc @hgd (zc @hx (zc @thA.eq_1 @Int.toNat_natCast)))))))) ?_); (first | ((apply Abn.pureP; (exact x_ev (zc @Bool.false_and (zc @Bool.and_false (zc @Bool.not_true (zc @Bool.true_and (zc @hb1 (zc @hgd (zc @hx (zc @thA.eq_1 @Int.toNat_natCast))))))))); (exact (Enters.of Tryz.func67 rfl rfl)); (exact h2); (exact x_al (zc @Bool.false_and (zc @Bool.and_false (zc @Bool.not_true (zc @Bool.true_and (zc @hb1 (zc @hgd (zc @hx (zc @thA.eq_1 @Int.toNat_natCast))))))))); (try dsimp only [putA, optG]))) | skip); (refine x_abz (zc @Bool.false_and (zc @Bool.and_false (zc @Bool.not_true (zc @Bool.true_and (zc @hb1 (zc @hgd (zc @hx (zc @thA.eq_1 @Int.toNat_natCast)))))))) ?_)); exact Abn.nil))
    (refine x_gg (zc @Bool.false_and (zc @Bool.and_false (zc @Bool.not_true (zc @Bool.true_and (zc @hb1 (zc @hgd (zc @hx (zc @thA.eq_1 @Int.toNat_natCast)))))))) ?_)
    (first | exact x_ret (zc @Bool.false_and (zc @Bool.and_false (zc @Bool.not_true (zc @Bool.true_and (zc @hb1 (zc @hgd (zc @hx (zc @thA.eq_1 @Int.toNat_natCast)))))))) | refine x_retZ (zc @Bool.false_and (zc @Bool.and_false (zc @Bool.not_true (zc @Bool.true_and (zc @hb1 (zc @hgd (zc @hx (zc @thA.eq_1 @Int.toNat_natCast)))))))) ?_)
   | true =>
    (refine Spec.bd 0 Tryz.func52 Tryz.results52 Tryz.ntmps52 ?_; simp only [entry, zipArgs, Nat.reduceAdd])
    (refine x_go (zc @Bool.false_and (zc @Bool.and_false (zc @Bool.not_true (zc @Bool.true_and (zc @hb1 (zc @hgd (zc @hx (zc @hy2 (zc @thA.eq_1 @Int.toNat_natCast))))))))) ?_)
    apply Wp.condF; (exact x_ev (zc @Bool.false_and (zc @Bool.and_false (zc @Bool.not_true (zc @Bool.true_and (zc @hb1 (zc @hgd (zc @hx (zc @hy2 (zc @thA.eq_1 @Int.toNat_natCast))))))))))
    (refine x_go (zc @Bool.false_and (zc @Bool.and_false (zc @Bool.not_true (zc @Bool.true_and (zc @hb1 (zc @hgd (zc @hx (zc @hy2 (zc @thA.eq_1 @Int.toNat_natCast))))))))) ?_)
    apply Wp.condT; (exact x_ev (zc @Bool.false_and (zc @Bool.and_false (zc @Bool.not_true (zc @Bool.true_and (zc @hb1 (zc @hgd (zc @hx (zc @hy2 (zc @thA.eq_1 @Int.toNat_natCast))))))))))
    (refine x_go (zc @Bool.false_and (zc @Bool.and_false (zc @Bool.not_true (zc @Bool.true_and (zc @hb1 (zc @hgd (zc @hx (zc @hy2 (zc @thA.eq_1 @Int.toNat_natCast))))))))) ?_)
    (refine Wp.rnD 11 ?_; apply exAb; (((refine x_abz (zc @Bool.false_and (zc @Bool.and_false (zc @Bool.not_true (zc @Bool.true_and (zc @hb1 (zc @hgd (zc @hx (zc @hy2 (zc @thA.eq_1 @Int.toNat_natCast))))))))) ?_); (apply Abn.pureP; (exact x_ev (zc @Bool.false_and (zc @Bool.and_false (zc @Bool.not_true (zc @Bool.true_and (zc @hb1 (zc @hgd (zc @hx (zc @hy2 (zc @thA.eq_1 @Int.toNat_natCast)))))))))); (exact (Enters.of Tryz.func67 rfl rfl)); (exact h1); (exact x_al (zc @Bool.false_and (zc @Bool.and_false (zc @Bool.not_true (zc @Bool.true_and (zc @hb1 (zc @hgd (zc @hx (zc @hy2 (zc @thA.eq_1 @Int.toNat_natCast)))))))))); (try dsimp only [putA, optG])); (refine x_abz (zc @Bool.false_and (zc @Bool.and_false (zc @Bool.not_true (zc @Bool.true_and (zc @hb1 (zc @hgd (zc @hx (zc @hy2 (zc @thA.eq_1 @Int.toNat_natCast))))))))) ?_)); exact Abn.nil))
    (refine x_gg (zc @Bool.false_and (zc @Bool.and_false (zc @Bool.not_true (zc @Bool.true_and (zc @hb1 (zc @hgd (zc @hx (zc @hy2 (zc @thA.eq_1 @Int.toNat_natCast))))))))) ?_)
    (apply Wp.runVE 10 mixed; (dsimp only [List.map] <;> exact rfl); exact rfl; kernel_rfl; (dsimp only [List.take] <;> exact rfl); (dsimp only [List.drop] <;> exact rfl); kernel_rfl; ((try dsimp only); (repeat (first | (apply AbsV.alc; exact rfl; (exact x_ev (zc @Bool.false_and (zc @Bool.and_false (zc @Bool.not_true (zc @Bool.true_and (zc @hb1 (zc @hgd (zc @hx (zc @hy2 (zc @thA.eq_1 @Int.toNat_natCast)))))))))); ((try simp only [push_cast, seval, Bool.false_and, Bool.and_false, Bool.not_true, Bool.true_and, hb1, hgd, hx, hy2, thA, Int.toNat_natCast]) <;> exact sT); dsimp only [upd, alcV, List.length_cons, List.length_nil, Nat.reduceAdd]) | (apply AbsV.apn; exact rfl; (exact x_ev (zc @Bool.false_and (zc @Bool.and_false (zc @Bool.not_true (zc @Bool.true_and (zc @hb1 (zc @hgd (zc @hx (zc @hy2 (zc @thA.eq_1 @Int.toNat_natCast)))))))))); ((try simp only [push_cast, seval, Bool.false_and, Bool.and_false, Bool.not_true, Bool.true_and, hb1, hgd, hx, hy2, thA, Int.toNat_natCast]) <;> exact sT); dsimp only [upd, alcV, List.length_cons, List.length_nil, Nat.reduceAdd]) | (apply AbsV.cons; exact rfl; exact rfl; (exact x_ev (zc @Bool.false_and (zc @Bool.and_false (zc @Bool.not_true (zc @Bool.true_and (zc @hb1 (zc @hgd (zc @hx (zc @hy2 (zc @thA.eq_1 @Int.toNat_natCast)))))))))); ((try simp only [push_cast, seval, Bool.false_and, Bool.and_false, Bool.not_true, Bool.true_and, hb1, hgd, hx, hy2, thA, Int.toNat_natCast]) <;> exact sT); dsimp only [upd]))); exact AbsV.nil); exact rfl; ((try dsimp only [List.map, List.cons_append, List.nil_append]); (exact x_ev (zc @Bool.false_and (zc @Bool.and_false (zc @Bool.not_true (zc @Bool.true_and (zc @hb1 (zc @hgd (zc @hx (zc @hy2 (zc @thA.eq_1 @Int.toNat_natCast))))))))))); ((try simp only [push_cast, seval, Bool.false_and, Bool.and_false, Bool.not_true, Bool.true_and, hb1, hgd, hx, hy2, thA, Int.toNat_natCast]) <;> exact sT); dsimp only [upd])
    (refine x_mv (zc @Bool.false_and (zc @Bool.and_false (zc @Bool.not_true (zc @Bool.true_and (zc @hb1 (zc @hgd (zc @hx (zc @hy2 (zc @thA.eq_1 @Int.toNat_natCast))))))))) ?_)
    (refine Wp.rnD 29 ?_; apply exAb; (((refine x_abz (zc @Bool.false_and (zc @Bool.and_false (zc @Bool.not_true (zc @Bool.true_and (zc @hb1 (zc @hgd (zc @hx (zc @hy2 (zc @thA.eq_1 @Int.toNat_natCast))))))))) ?_); (first | ((apply Abn.pureP; (exact x_ev (zc @Bool.false_and (zc @Bool.and_false (zc @Bool.not_true (zc @Bool.true_and (zc @hb1 (zc @hgd (zc @hx (zc @hy2 (zc @thA.eq_1 @Int.toNat_natCast)))))))))); (exact (Enters.of Tryz.func67 rfl rfl)); (exact h2); (exact x_al (zc @Bool.false_and (zc @Bool.and_false (zc @Bool.not_true (zc @Bool.true_and (zc @hb1 (zc @hgd (zc @hx (zc @hy2 (zc @thA.eq_1 @Int.toNat_natCast)))))))))); (try dsimp only [putA, optG]))) | skip); (refine x_abz (zc @Bool.false_and (zc @Bool.and_false (zc @Bool.not_true (zc @Bool.true_and (zc @hb1 (zc @hgd (zc @hx (zc @hy2 (zc @thA.eq_1 @Int.toNat_natCast))))))))) ?_)); exact Abn.nil))
    (refine x_gg (zc @Bool.false_and (zc @Bool.and_false (zc @Bool.not_true (zc @Bool.true_and (zc @hb1 (zc @hgd (zc @hx (zc @hy2 (zc @thA.eq_1 @Int.toNat_natCast))))))))) ?_)
    (first | exact x_ret (zc @Bool.false_and (zc @Bool.and_false (zc @Bool.not_true (zc @Bool.true_and (zc @hb1 (zc @hgd (zc @hx (zc @hy2 (zc @thA.eq_1 @Int.toNat_natCast))))))))) | refine x_retZ (zc @Bool.false_and (zc @Bool.and_false (zc @Bool.not_true (zc @Bool.true_and (zc @hb1 (zc @hgd (zc @hx (zc @hy2 (zc @thA.eq_1 @Int.toNat_natCast))))))))) ?_)
theorem can_put {r : Rm} (hz : Sz r) (f : St) {s : St} (hs : Zs s) (hc : csE r s = 0) (hf : f.pp.length = r.pp.length) (hfp : f.ts.length ≤ 100) (a : Int) (t : Tk) (hk : t.kd = 3) : Pure Tryz.prog 52 [.ref (kC r f s a) 0, tkA t] (.bool (ptB r f s a t)) := by
 obtain ⟨hv, hv2, hch⟩ := cs_zero hc
 have hpl := hv.pp
 have hsp := hv2.pp
 obtain ⟨kd, nu, ar⟩ := t
 simp only at hk
 subst hk
 unfold tkA ptB
 simp only
 have h1 := within2_pure nu 0 ((r.pp.length : Int) - 1)
 have hwi : wi nu 0 ((r.pp.length : Int) - 1) = true → 0 ≤ nu ∧ nu < r.pp.length := fun h => by unfold wi at h; simp only [Bool.and_eq_true, decide_eq_true_eq] at h; omega
 generalize wi nu 0 ((r.pp.length : Int) - 1) = w at h1 hwi
 have hkc := rfl (a := kC r f s a)
 cases hb0 : decide (ar = 0) with
 | false =>
  (refine Spec.bd 0 Tryz.func52 Tryz.results52 Tryz.ntmps52 ?_; simp only [entry, zipArgs, Nat.reduceAdd])
  (refine x_gg (zc @hb0 (zc @Bool.false_and @Bool.not_false)) ?_)
  (refine Wp.rnD 37 ?_; apply exAb; (((refine x_abz (zc @hb0 (zc @Bool.false_and @Bool.not_false)) ?_); (first | ((apply Abn.pureP; (exact x_ev (zc @hb0 (zc @Bool.false_and @Bool.not_false))); (exact (Enters.of Tryz.func67 rfl rfl)); (exact h1); (exact x_al (zc @hb0 (zc @Bool.false_and @Bool.not_false))); (try dsimp only [putA, optG]))) | skip); (refine x_abz (zc @hb0 (zc @Bool.false_and @Bool.not_false)) ?_)); exact Abn.nil))
  (refine x_gg (zc @hb0 (zc @Bool.false_and @Bool.not_false)) ?_)
  (first | exact x_ret (zc @hb0 (zc @Bool.false_and @Bool.not_false)) | refine x_retZ (zc @hb0 (zc @Bool.false_and @Bool.not_false)) ?_)
 | true =>
  cases w with
  | false =>
   (refine Spec.bd 0 Tryz.func52 Tryz.results52 Tryz.ntmps52 ?_; simp only [entry, zipArgs, Nat.reduceAdd])
   (refine x_gg (zc @hb0 (zc @Bool.false_and (zc @Bool.and_false (zc @Bool.not_false @Bool.not_true)))) ?_)
   (refine Wp.rnD 37 ?_; apply exAb; (((refine x_abz (zc @hb0 (zc @Bool.false_and (zc @Bool.and_false (zc @Bool.not_false @Bool.not_true)))) ?_); (first | ((apply Abn.pureP; (exact x_ev (zc @hb0 (zc @Bool.false_and (zc @Bool.and_false (zc @Bool.not_false @Bool.not_true))))); (exact (Enters.of Tryz.func67 rfl rfl)); (exact h1); (exact x_al (zc @hb0 (zc @Bool.false_and (zc @Bool.and_false (zc @Bool.not_false @Bool.not_true))))); (try dsimp only [putA, optG]))) | skip); (refine x_abz (zc @hb0 (zc @Bool.false_and (zc @Bool.and_false (zc @Bool.not_false @Bool.not_true)))) ?_)); exact Abn.nil))
   (refine x_gg (zc @hb0 (zc @Bool.false_and (zc @Bool.and_false (zc @Bool.not_false @Bool.not_true)))) ?_)
   (first | exact x_ret (zc @hb0 (zc @Bool.false_and (zc @Bool.and_false (zc @Bool.not_false @Bool.not_true)))) | refine x_retZ (zc @hb0 (zc @Bool.false_and (zc @Bool.and_false (zc @Bool.not_false @Bool.not_true)))) ?_)
  | true =>
   obtain ⟨hn1, hn2⟩ := hwi rfl
   obtain ⟨n, rfl⟩ : ∃ n : Nat, nu = n := ⟨nu.toNat, by omega⟩
   have hn3 : n < r.pp.length := by omega
   have hgd := fun d => getD_pp (d := d) hn3
   have hm := memPp hn3
   have hw := (hz.ppn _ hm).2
   have hcd := (hv.ppv _ hm).2
   simp only [Int.toNat_natCast]
   obtain ⟨x, hx⟩ : ∃ x, r.pp.getD n pp0 = x := ⟨_, rfl⟩
   simp only [hx] at hgd hw hcd ⊢
   have hh := kholds_pure hz f hs hc a x.wh hw hcd
   generalize hdB s.ts x.wh = b at hh
   obtain ⟨y, hy2⟩ : ∃ y, s.pp.getD n 0 = y := ⟨_, rfl⟩
   obtain ⟨z, hy3⟩ : ∃ z, f.pp.getD n 0 = z := ⟨_, rfl⟩
   simp only [hy2, hy3]
   cases hb1 : decide (y = z) with
   | true =>
    (refine Spec.bd 0 Tryz.func52 Tryz.results52 Tryz.ntmps52 ?_; simp only [entry, zipArgs, Nat.reduceAdd])
    (refine x_gg (zc @hb0 (zc @hb1 (zc @hy2 (zc @hy3 (zc @Bool.false_and (zc @Bool.and_false (zc @Bool.not_false (zc @Bool.not_true @Int.toNat_natCast)))))))) ?_)
    (refine Wp.rnD 37 ?_; apply exAb; (((refine x_abz (zc @hb0 (zc @hb1 (zc @hy2 (zc @hy3 (zc @Bool.false_and (zc @Bool.and_false (zc @Bool.not_false (zc @Bool.not_true @Int.toNat_natCast)))))))) ?_); (first | ((apply Abn.pureP; (exact x_ev (zc @hb0 (zc @hb1 (zc @hy2 (zc @hy3 (zc @Bool.false_and (zc @Bool.and_false (zc @Bool.not_false (zc @Bool.not_true @Int.toNat_natCast))))))))); (exact (Enters.of Tryz.func67 rfl rfl)); (exact h1); (exact x_al (zc @hb0 (zc @hb1 (zc @hy2 (zc @hy3 (zc @Bool.false_and (zc @Bool.and_false (zc @Bool.not_false (zc @Bool.not_true @Int.toNat_natCast))))))))); (try dsimp only [putA, optG]))) | skip); (refine x_abz (zc @hb0 (zc @hb1 (zc @hy2 (zc @hy3 (zc @Bool.false_and (zc @Bool.and_false (zc @Bool.not_false (zc @Bool.not_true @Int.toNat_natCast)))))))) ?_)); exact Abn.nil))
    (refine x_gg (zc @hb0 (zc @hb1 (zc @hy2 (zc @hy3 (zc @Bool.false_and (zc @Bool.and_false (zc @Bool.not_false (zc @Bool.not_true @Int.toNat_natCast)))))))) ?_)
    (first | exact x_ret (zc @hb0 (zc @hb1 (zc @hy2 (zc @hy3 (zc @Bool.false_and (zc @Bool.and_false (zc @Bool.not_false (zc @Bool.not_true @Int.toNat_natCast)))))))) | refine x_retZ (zc @hb0 (zc @hb1 (zc @hy2 (zc @hy3 (zc @Bool.false_and (zc @Bool.and_false (zc @Bool.not_false (zc @Bool.not_true @Int.toNat_natCast)))))))) ?_)
   | false =>
    cases hb2 : decide (z = -1) with
    | true =>
     (refine Spec.bd 0 Tryz.func52 Tryz.results52 Tryz.ntmps52 ?_; simp only [entry, zipArgs, Nat.reduceAdd])
     (refine x_gg (zc @hb0 (zc @hb1 (zc @hb2 (zc @hy2 (zc @hy3 (zc @Bool.false_and (zc @Bool.and_false (zc @Bool.not_false (zc @Bool.not_true (zc @Bool.true_and (zc @Bool.true_or (zc @Int.toNat_natCast (zc @hgd @ppA.eq_1))))))))))))) ?_)
     (refine Wp.rnD 37 ?_; apply exAb; (((refine x_abz (zc @hb0 (zc @hb1 (zc @hb2 (zc @hy2 (zc @hy3 (zc @Bool.false_and (zc @Bool.and_false (zc @Bool.not_false (zc @Bool.not_true (zc @Bool.true_and (zc @Bool.true_or (zc @Int.toNat_natCast (zc @hgd @ppA.eq_1))))))))))))) ?_); (first | ((apply Abn.pureP; (exact x_ev (zc @hb0 (zc @hb1 (zc @hb2 (zc @hy2 (zc @hy3 (zc @Bool.false_and (zc @Bool.and_false (zc @Bool.not_false (zc @Bool.not_true (zc @Bool.true_and (zc @Bool.true_or (zc @Int.toNat_natCast (zc @hgd @ppA.eq_1)))))))))))))); (exact (Enters.of Tryz.func67 rfl rfl)); (exact h1); (exact x_al (zc @hb0 (zc @hb1 (zc @hb2 (zc @hy2 (zc @hy3 (zc @Bool.false_and (zc @Bool.and_false (zc @Bool.not_false (zc @Bool.not_true (zc @Bool.true_and (zc @Bool.true_or (zc @Int.toNat_natCast (zc @hgd @ppA.eq_1)))))))))))))); (try dsimp only [putA, optG]))) | skip); (refine x_abz (zc @hb0 (zc @hb1 (zc @hb2 (zc @hy2 (zc @hy3 (zc @Bool.false_and (zc @Bool.and_false (zc @Bool.not_false (zc @Bool.not_true (zc @Bool.true_and (zc @Bool.true_or (zc @Int.toNat_natCast (zc @hgd @ppA.eq_1))))))))))))) ?_)); exact Abn.nil))
     (refine x_gg (zc @hb0 (zc @hb1 (zc @hb2 (zc @hy2 (zc @hy3 (zc @Bool.false_and (zc @Bool.and_false (zc @Bool.not_false (zc @Bool.not_true (zc @Bool.true_and (zc @Bool.true_or (zc @Int.toNat_natCast (zc @hgd @ppA.eq_1))))))))))))) ?_)
     (refine Wp.rnD 9 ?_; apply exAb; (((refine x_abz (zc @hb0 (zc @hb1 (zc @hb2 (zc @hy2 (zc @hy3 (zc @Bool.false_and (zc @Bool.and_false (zc @Bool.not_false (zc @Bool.not_true (zc @Bool.true_and (zc @Bool.true_or (zc @Int.toNat_natCast (zc @hgd @ppA.eq_1))))))))))))) ?_)); exact Abn.nil))
     (refine x_gg (zc @hb0 (zc @hb1 (zc @hb2 (zc @hy2 (zc @hy3 (zc @Bool.false_and (zc @Bool.and_false (zc @Bool.not_false (zc @Bool.not_true (zc @Bool.true_and (zc @Bool.true_or (zc @Int.toNat_natCast (zc @hgd @ppA.eq_1))))))))))))) ?_)
     (refine Wp.rnD 24 ?_; apply exAb; (((refine x_abz (zc @hb0 (zc @hb1 (zc @hb2 (zc @hy2 (zc @hy3 (zc @Bool.false_and (zc @Bool.and_false (zc @Bool.not_false (zc @Bool.not_true (zc @Bool.true_and (zc @Bool.true_or (zc @Int.toNat_natCast (zc @hgd @ppA.eq_1))))))))))))) ?_); (first | ((apply Abn.pureP; (exact x_ev (zc @hb0 (zc @hb1 (zc @hb2 (zc @hy2 (zc @hy3 (zc @Bool.false_and (zc @Bool.and_false (zc @Bool.not_false (zc @Bool.not_true (zc @Bool.true_and (zc @Bool.true_or (zc @Int.toNat_natCast (zc @hgd @ppA.eq_1)))))))))))))); (exact (Enters.of Tryz.func90 rfl rfl)); (exact hh); (exact x_al (zc @hb0 (zc @hb1 (zc @hb2 (zc @hy2 (zc @hy3 (zc @Bool.false_and (zc @Bool.and_false (zc @Bool.not_false (zc @Bool.not_true (zc @Bool.true_and (zc @Bool.true_or (zc @Int.toNat_natCast (zc @hgd @ppA.eq_1)))))))))))))); (try dsimp only [putA, optG]))) | skip); (refine x_abz (zc @hb0 (zc @hb1 (zc @hb2 (zc @hy2 (zc @hy3 (zc @Bool.false_and (zc @Bool.and_false (zc @Bool.not_false (zc @Bool.not_true (zc @Bool.true_and (zc @Bool.true_or (zc @Int.toNat_natCast (zc @hgd @ppA.eq_1))))))))))))) ?_)); exact Abn.nil))
     (refine x_gg (zc @hb0 (zc @hb1 (zc @hb2 (zc @hy2 (zc @hy3 (zc @Bool.false_and (zc @Bool.and_false (zc @Bool.not_false (zc @Bool.not_true (zc @Bool.true_and (zc @Bool.true_or (zc @Int.toNat_natCast (zc @hgd @ppA.eq_1))))))))))))) ?_)
     (first | exact x_ret (zc @hb0 (zc @hb1 (zc @hb2 (zc @hy2 (zc @hy3 (zc @Bool.false_and (zc @Bool.and_false (zc @Bool.not_false (zc @Bool.not_true (zc @Bool.true_and (zc @Bool.true_or (zc @Int.toNat_natCast (zc @hgd @ppA.eq_1))))))))))))) | refine x_retZ (zc @hb0 (zc @hb1 (zc @hb2 (zc @hy2 (zc @hy3 (zc @Bool.false_and (zc @Bool.and_false (zc @Bool.not_false (zc @Bool.not_true (zc @Bool.true_and (zc @Bool.true_or (zc @Int.toNat_natCast (zc @hgd @ppA.eq_1))))))))))))) ?_)
    | false =>
     cases hb3 : decide (z = a) with
     | false =>
      (refine Spec.bd 0 Tryz.func52 Tryz.results52 Tryz.ntmps52 ?_; simp only [entry, zipArgs, Nat.reduceAdd])
      (refine x_gg (zc @hb0 (zc @hb1 (zc @hb2 (zc @hb3 (zc @hy2 (zc @hy3 (zc @Bool.false_and (zc @Bool.and_false (zc @Bool.not_false (zc @Bool.not_true (zc @Bool.true_and (zc @Bool.true_or (zc @Bool.false_or (zc @Int.toNat_natCast (zc @hgd @ppA.eq_1))))))))))))))) ?_)
      (refine Wp.rnD 37 ?_; apply exAb; (((refine x_abz (zc @hb0 (zc @hb1 (zc @hb2 (zc @hb3 (zc @hy2 (zc @hy3 (zc @Bool.false_and (zc @Bool.and_false (zc @Bool.not_false (zc @Bool.not_true (zc @Bool.true_and (zc @Bool.true_or (zc @Bool.false_or (zc @Int.toNat_natCast (zc @hgd @ppA.eq_1))))))))))))))) ?_); (first | ((apply Abn.pureP; (exact x_ev (zc @hb0 (zc @hb1 (zc @hb2 (zc @hb3 (zc @hy2 (zc @hy3 (zc @Bool.false_and (zc @Bool.and_false (zc @Bool.not_false (zc @Bool.not_true (zc @Bool.true_and (zc @Bool.true_or (zc @Bool.false_or (zc @Int.toNat_natCast (zc @hgd @ppA.eq_1)))))))))))))))); (exact (Enters.of Tryz.func67 rfl rfl)); (exact h1); (exact x_al (zc @hb0 (zc @hb1 (zc @hb2 (zc @hb3 (zc @hy2 (zc @hy3 (zc @Bool.false_and (zc @Bool.and_false (zc @Bool.not_false (zc @Bool.not_true (zc @Bool.true_and (zc @Bool.true_or (zc @Bool.false_or (zc @Int.toNat_natCast (zc @hgd @ppA.eq_1)))))))))))))))); (try dsimp only [putA, optG]))) | skip); (refine x_abz (zc @hb0 (zc @hb1 (zc @hb2 (zc @hb3 (zc @hy2 (zc @hy3 (zc @Bool.false_and (zc @Bool.and_false (zc @Bool.not_false (zc @Bool.not_true (zc @Bool.true_and (zc @Bool.true_or (zc @Bool.false_or (zc @Int.toNat_natCast (zc @hgd @ppA.eq_1))))))))))))))) ?_)); exact Abn.nil))
      (refine x_gg (zc @hb0 (zc @hb1 (zc @hb2 (zc @hb3 (zc @hy2 (zc @hy3 (zc @Bool.false_and (zc @Bool.and_false (zc @Bool.not_false (zc @Bool.not_true (zc @Bool.true_and (zc @Bool.true_or (zc @Bool.false_or (zc @Int.toNat_natCast (zc @hgd @ppA.eq_1))))))))))))))) ?_)
      (refine Wp.rnD 9 ?_; apply exAb; (((refine x_abz (zc @hb0 (zc @hb1 (zc @hb2 (zc @hb3 (zc @hy2 (zc @hy3 (zc @Bool.false_and (zc @Bool.and_false (zc @Bool.not_false (zc @Bool.not_true (zc @Bool.true_and (zc @Bool.true_or (zc @Bool.false_or (zc @Int.toNat_natCast (zc @hgd @ppA.eq_1))))))))))))))) ?_)); exact Abn.nil))
      (refine x_gg (zc @hb0 (zc @hb1 (zc @hb2 (zc @hb3 (zc @hy2 (zc @hy3 (zc @Bool.false_and (zc @Bool.and_false (zc @Bool.not_false (zc @Bool.not_true (zc @Bool.true_and (zc @Bool.true_or (zc @Bool.false_or (zc @Int.toNat_natCast (zc @hgd @ppA.eq_1))))))))))))))) ?_)
      (refine Wp.rnD 24 ?_; apply exAb; (((refine x_abz (zc @hb0 (zc @hb1 (zc @hb2 (zc @hb3 (zc @hy2 (zc @hy3 (zc @Bool.false_and (zc @Bool.and_false (zc @Bool.not_false (zc @Bool.not_true (zc @Bool.true_and (zc @Bool.true_or (zc @Bool.false_or (zc @Int.toNat_natCast (zc @hgd @ppA.eq_1))))))))))))))) ?_); (first | ((apply Abn.pureP; (exact x_ev (zc @hb0 (zc @hb1 (zc @hb2 (zc @hb3 (zc @hy2 (zc @hy3 (zc @Bool.false_and (zc @Bool.and_false (zc @Bool.not_false (zc @Bool.not_true (zc @Bool.true_and (zc @Bool.true_or (zc @Bool.false_or (zc @Int.toNat_natCast (zc @hgd @ppA.eq_1)))))))))))))))); (exact (Enters.of Tryz.func90 rfl rfl)); (exact hh); (exact x_al (zc @hb0 (zc @hb1 (zc @hb2 (zc @hb3 (zc @hy2 (zc @hy3 (zc @Bool.false_and (zc @Bool.and_false (zc @Bool.not_false (zc @Bool.not_true (zc @Bool.true_and (zc @Bool.true_or (zc @Bool.false_or (zc @Int.toNat_natCast (zc @hgd @ppA.eq_1)))))))))))))))); (try dsimp only [putA, optG]))) | skip); (refine x_abz (zc @hb0 (zc @hb1 (zc @hb2 (zc @hb3 (zc @hy2 (zc @hy3 (zc @Bool.false_and (zc @Bool.and_false (zc @Bool.not_false (zc @Bool.not_true (zc @Bool.true_and (zc @Bool.true_or (zc @Bool.false_or (zc @Int.toNat_natCast (zc @hgd @ppA.eq_1))))))))))))))) ?_)); exact Abn.nil))
      (refine x_gg (zc @hb0 (zc @hb1 (zc @hb2 (zc @hb3 (zc @hy2 (zc @hy3 (zc @Bool.false_and (zc @Bool.and_false (zc @Bool.not_false (zc @Bool.not_true (zc @Bool.true_and (zc @Bool.true_or (zc @Bool.false_or (zc @Int.toNat_natCast (zc @hgd @ppA.eq_1))))))))))))))) ?_)
      (first | exact x_ret (zc @hb0 (zc @hb1 (zc @hb2 (zc @hb3 (zc @hy2 (zc @hy3 (zc @Bool.false_and (zc @Bool.and_false (zc @Bool.not_false (zc @Bool.not_true (zc @Bool.true_and (zc @Bool.true_or (zc @Bool.false_or (zc @Int.toNat_natCast (zc @hgd @ppA.eq_1))))))))))))))) | refine x_retZ (zc @hb0 (zc @hb1 (zc @hb2 (zc @hb3 (zc @hy2 (zc @hy3 (zc @Bool.false_and (zc @Bool.and_false (zc @Bool.not_false (zc @Bool.not_true (zc @Bool.true_and (zc @Bool.true_or (zc @Bool.false_or (zc @Int.toNat_natCast (zc @hgd @ppA.eq_1))))))))))))))) ?_)
     | true =>
      (refine Spec.bd 0 Tryz.func52 Tryz.results52 Tryz.ntmps52 ?_; simp only [entry, zipArgs, Nat.reduceAdd])
      (refine x_gg (zc @hb0 (zc @hb1 (zc @hb2 (zc @hb3 (zc @hy2 (zc @hy3 (zc @Bool.false_and (zc @Bool.and_false (zc @Bool.not_false (zc @Bool.not_true (zc @Bool.true_and (zc @Bool.true_or (zc @Bool.false_or (zc @Int.toNat_natCast (zc @hgd @ppA.eq_1))))))))))))))) ?_)
      (refine Wp.rnD 37 ?_; apply exAb; (((refine x_abz (zc @hb0 (zc @hb1 (zc @hb2 (zc @hb3 (zc @hy2 (zc @hy3 (zc @Bool.false_and (zc @Bool.and_false (zc @Bool.not_false (zc @Bool.not_true (zc @Bool.true_and (zc @Bool.true_or (zc @Bool.false_or (zc @Int.toNat_natCast (zc @hgd @ppA.eq_1))))))))))))))) ?_); (first | ((apply Abn.pureP; (exact x_ev (zc @hb0 (zc @hb1 (zc @hb2 (zc @hb3 (zc @hy2 (zc @hy3 (zc @Bool.false_and (zc @Bool.and_false (zc @Bool.not_false (zc @Bool.not_true (zc @Bool.true_and (zc @Bool.true_or (zc @Bool.false_or (zc @Int.toNat_natCast (zc @hgd @ppA.eq_1)))))))))))))))); (exact (Enters.of Tryz.func67 rfl rfl)); (exact h1); (exact x_al (zc @hb0 (zc @hb1 (zc @hb2 (zc @hb3 (zc @hy2 (zc @hy3 (zc @Bool.false_and (zc @Bool.and_false (zc @Bool.not_false (zc @Bool.not_true (zc @Bool.true_and (zc @Bool.true_or (zc @Bool.false_or (zc @Int.toNat_natCast (zc @hgd @ppA.eq_1)))))))))))))))); (try dsimp only [putA, optG]))) | skip); (refine x_abz (zc @hb0 (zc @hb1 (zc @hb2 (zc @hb3 (zc @hy2 (zc @hy3 (zc @Bool.false_and (zc @Bool.and_false (zc @Bool.not_false (zc @Bool.not_true (zc @Bool.true_and (zc @Bool.true_or (zc @Bool.false_or (zc @Int.toNat_natCast (zc @hgd @ppA.eq_1))))))))))))))) ?_)); exact Abn.nil))
      (refine x_gg (zc @hb0 (zc @hb1 (zc @hb2 (zc @hb3 (zc @hy2 (zc @hy3 (zc @Bool.false_and (zc @Bool.and_false (zc @Bool.not_false (zc @Bool.not_true (zc @Bool.true_and (zc @Bool.true_or (zc @Bool.false_or (zc @Int.toNat_natCast (zc @hgd @ppA.eq_1))))))))))))))) ?_)
      (refine Wp.rnD 9 ?_; apply exAb; (((refine x_abz (zc @hb0 (zc @hb1 (zc @hb2 (zc @hb3 (zc @hy2 (zc @hy3 (zc @Bool.false_and (zc @Bool.and_false (zc @Bool.not_false (zc @Bool.not_true (zc @Bool.true_and (zc @Bool.true_or (zc @Bool.false_or (zc @Int.toNat_natCast (zc @hgd @ppA.eq_1))))))))))))))) ?_)); exact Abn.nil))
      (refine x_gg (zc @hb0 (zc @hb1 (zc @hb2 (zc @hb3 (zc @hy2 (zc @hy3 (zc @Bool.false_and (zc @Bool.and_false (zc @Bool.not_false (zc @Bool.not_true (zc @Bool.true_and (zc @Bool.true_or (zc @Bool.false_or (zc @Int.toNat_natCast (zc @hgd @ppA.eq_1))))))))))))))) ?_)
      (refine Wp.rnD 24 ?_; apply exAb; (((refine x_abz (zc @hb0 (zc @hb1 (zc @hb2 (zc @hb3 (zc @hy2 (zc @hy3 (zc @Bool.false_and (zc @Bool.and_false (zc @Bool.not_false (zc @Bool.not_true (zc @Bool.true_and (zc @Bool.true_or (zc @Bool.false_or (zc @Int.toNat_natCast (zc @hgd @ppA.eq_1))))))))))))))) ?_); (first | ((apply Abn.pureP; (exact x_ev (zc @hb0 (zc @hb1 (zc @hb2 (zc @hb3 (zc @hy2 (zc @hy3 (zc @Bool.false_and (zc @Bool.and_false (zc @Bool.not_false (zc @Bool.not_true (zc @Bool.true_and (zc @Bool.true_or (zc @Bool.false_or (zc @Int.toNat_natCast (zc @hgd @ppA.eq_1)))))))))))))))); (exact (Enters.of Tryz.func90 rfl rfl)); (exact hh); (exact x_al (zc @hb0 (zc @hb1 (zc @hb2 (zc @hb3 (zc @hy2 (zc @hy3 (zc @Bool.false_and (zc @Bool.and_false (zc @Bool.not_false (zc @Bool.not_true (zc @Bool.true_and (zc @Bool.true_or (zc @Bool.false_or (zc @Int.toNat_natCast (zc @hgd @ppA.eq_1)))))))))))))))); (try dsimp only [putA, optG]))) | skip); (refine x_abz (zc @hb0 (zc @hb1 (zc @hb2 (zc @hb3 (zc @hy2 (zc @hy3 (zc @Bool.false_and (zc @Bool.and_false (zc @Bool.not_false (zc @Bool.not_true (zc @Bool.true_and (zc @Bool.true_or (zc @Bool.false_or (zc @Int.toNat_natCast (zc @hgd @ppA.eq_1))))))))))))))) ?_)); exact Abn.nil))
      (refine x_gg (zc @hb0 (zc @hb1 (zc @hb2 (zc @hb3 (zc @hy2 (zc @hy3 (zc @Bool.false_and (zc @Bool.and_false (zc @Bool.not_false (zc @Bool.not_true (zc @Bool.true_and (zc @Bool.true_or (zc @Bool.false_or (zc @Int.toNat_natCast (zc @hgd @ppA.eq_1))))))))))))))) ?_)
      (first | exact x_ret (zc @hb0 (zc @hb1 (zc @hb2 (zc @hb3 (zc @hy2 (zc @hy3 (zc @Bool.false_and (zc @Bool.and_false (zc @Bool.not_false (zc @Bool.not_true (zc @Bool.true_and (zc @Bool.true_or (zc @Bool.false_or (zc @Int.toNat_natCast (zc @hgd @ppA.eq_1))))))))))))))) | refine x_retZ (zc @hb0 (zc @hb1 (zc @hb2 (zc @hb3 (zc @hy2 (zc @hy3 (zc @Bool.false_and (zc @Bool.and_false (zc @Bool.not_false (zc @Bool.not_true (zc @Bool.true_and (zc @Bool.true_or (zc @Bool.false_or (zc @Int.toNat_natCast (zc @hgd @ppA.eq_1))))))))))))))) ?_)
theorem can_pure {r : Rm} (hz : Sz r) (f : St) {s : St} (hs : Zs s) (hc : csE r s = 0) (hf : f.pp.length = r.pp.length) (hfp : f.ts.length ≤ 100) (a : Int) (t : Tk) : Pure Tryz.prog 52 [.ref (kC r f s a) 0, tkA t] (.bool (canB r f s a t)) := by
 obtain ⟨hv, hv2, hch⟩ := cs_zero hc
 have z2 := hv.ts
 have z3 := hv.wy
 unfold canB
 by_cases h1 : t.kd = 1
 ·rw [if_pos h1]; exact can_walk r (by omega) f s a t h1
 ·rw [if_neg h1]
  by_cases h2 : t.kd = 2
  ·rw [if_pos h2]; exact can_turn r (by omega) (fun x hx => (hv.tsv x hx).2.1) f s hv2.ts a t h2
  ·rw [if_neg h2]
   by_cases h3 : t.kd = 3
   ·rw [if_pos h3]; exact can_put hz f hs hc hf hfp a t h3
   ·rw [if_neg h3]; exact can_other r f s a t h1 h2 h3
end Go.Proofs.Tryz
set_option maxHeartbeats 16000000
namespace Go.Proofs.Tryz
open Go.Vg
abbrev doM (a0 a1 a2 a3 a4 a5 : Ent) (r : Rm) (f : St) (v6 v7 v8 v9 n1 n2 n3 : Nat) (s : St) (a : Int) : Mem := [a0, a1, a2, a3, a4, a5, ⟨v6, .row 15 [.agg (kO r f (.osl 7 v7 0 n1) (.osl 8 v8 0 n2) (.osl 9 v9 0 n3) (.int a))]⟩, ⟨v7, .row 1 (s.ts.map AV.int)⟩, ⟨v8, .row 1 (s.pp.map AV.int)⟩, ⟨v9, .row 1 (s.pl.map AV.int)⟩]
theorem do_walk (r : Rm) (f s : St) (a : Int) (n : Nat) (ar : Int) (hn : n < r.wy.length) (hx : (0 ≤ (r.wy.getD n wy0).a ∧ (r.wy.getD n wy0).a ≤ 100) ∧ (0 ≤ (r.wy.getD n wy0).b ∧ (r.wy.getD n wy0).b ≤ 100) ∧ 0 ≤ a ∧ a ≤ 100) {a0 a1 a2 a3 a4 a5 : Ent} (h0 : a0.kind.ok 10) (h1 : a1.kind.ok 10) (h2 : a2.kind.ok 10) (h3 : a3.kind.ok 10) (h4 : a4.kind.ok 10) (h5 : a5.kind.ok 10) (v6 v7 v8 v9 n1 n2 n3 : Nat) :
  Go.Vg.Spec Tryz.prog 54 [.optr 6 v6 0 0, .agg [.int 1, .int n, .int ar]] (doM a0 a1 a2 a3 a4 a5 r f v6 v7 v8 v9 n1 n2 n3 s a) (fun x m' => x = .tup [] ∧ m' = doM a0 a1 a2 a3 a4 a5 r f v6 v7 v8 v9 n1 n2 n3 s ((r.wy.getD n wy0).a + (r.wy.getD n wy0).b - a)) := by
 have hgd := fun d => getD_wy (d := d) hn
 obtain ⟨x, hx2⟩ : ∃ x, r.wy.getD n wy0 = x := ⟨_, rfl⟩
 simp only [hx2] at hgd hx ⊢
 (refine Spec.bd 10 Tryz.func54 Tryz.results54 Tryz.ntmps54 ?_; simp only [entry, zipArgs, Nat.reduceAdd])
 (refine x_gg (zc @hgd (zc @wyA.eq_1 @Int.toNat_natCast)) ?_)
 (apply Wp.runVE 10 mixed; (dsimp only [List.map] <;> exact rfl); exact rfl; kernel_rfl; (dsimp only [List.take] <;> exact rfl); (dsimp only [List.drop] <;> exact rfl); kernel_rfl; ((try dsimp only); (repeat (first | (apply AbsV.alc; exact rfl; (exact x_ev (zc @hgd (zc @wyA.eq_1 @Int.toNat_natCast))); ((try simp only [push_cast, seval, hgd, wyA, Int.toNat_natCast]) <;> exact sT); dsimp only [upd, alcV, List.length_cons, List.length_nil, Nat.reduceAdd]) | (apply AbsV.apn; exact rfl; (exact x_ev (zc @hgd (zc @wyA.eq_1 @Int.toNat_natCast))); ((try simp only [push_cast, seval, hgd, wyA, Int.toNat_natCast]) <;> exact sT); dsimp only [upd, alcV, List.length_cons, List.length_nil, Nat.reduceAdd]) | (apply AbsV.cons; exact rfl; exact rfl; (exact x_ev (zc @hgd (zc @wyA.eq_1 @Int.toNat_natCast))); ((try simp only [push_cast, seval, hgd, wyA, Int.toNat_natCast]) <;> exact sT); dsimp only [upd]))); exact AbsV.nil); exact rfl; ((try dsimp only [List.map, List.cons_append, List.nil_append]); (exact x_ev (zc @hgd (zc @wyA.eq_1 @Int.toNat_natCast)))); ((try simp only [push_cast, seval, hgd, wyA, Int.toNat_natCast]) <;> exact sT); dsimp only [upd])
 (refine x_mv (zc @hgd (zc @wyA.eq_1 @Int.toNat_natCast)) ?_)
 (apply Wp.runE 13 13 mixed; (dsimp only [List.map] <;> exact rfl); exact rfl; kernel_rfl; ((refine x_nx (zc @hgd (zc @wyA.eq_1 @Int.toNat_natCast)) ?_); (refine x_ef (zc @hgd (zc @wyA.eq_1 @Int.toNat_natCast)) ?_); exact Abe.nil))
 (refine x_gg (zc @hgd (zc @wyA.eq_1 @Int.toNat_natCast)) ?_)
 dsimp only [sQ, tQ, bQ]
 (apply leaveKN; exact rfl; (exact x_ev (zc @hgd (zc @wyA.eq_1 @Int.toNat_natCast))); ((exact x_cl (zc @hgd (zc @wyA.eq_1 @Int.toNat_natCast)))); ((exact x_cl (zc @hgd (zc @wyA.eq_1 @Int.toNat_natCast)))); (focus (first | (simp only [push_cast, seval, hgd, wyA, Int.toNat_natCast]; done) | trivial | (simp only [push_cast, seval, hgd, wyA, Int.toNat_natCast]; trivial) | (simp; done) | (simp only [List.take_succ_cons, List.take_zero, List.mem_cons, List.not_mem_nil, or_false, forall_eq_or_imp, forall_eq]; (try simp only [Kind.ok, okL, AV.ok]); (try simp only [okL_str, okL_th, okL_pp, okL_wy, okL_ac, okL_au, okL_lt, okL_mapInt]); simp_all))); (try simp only [push_cast, seval, hgd, wyA, Int.toNat_natCast]))
theorem do_turn (r : Rm) (f s : St) (a : Int) (n : Nat) (ar : Int) (hn : n < s.ts.length) {a0 a1 a2 a3 a4 a5 : Ent} (h0 : a0.kind.ok 10) (h1 : a1.kind.ok 10) (h2 : a2.kind.ok 10) (h3 : a3.kind.ok 10) (h4 : a4.kind.ok 10) (h5 : a5.kind.ok 10) (v6 v7 v8 v9 n2 n3 : Nat) :
  Go.Vg.Spec Tryz.prog 54 [.optr 6 v6 0 0, .agg [.int 2, .int n, .int ar]] (doM a0 a1 a2 a3 a4 a5 r f v6 v7 v8 v9 s.ts.length n2 n3 s a) (fun x m' => x = .tup [] ∧ m' = doM a0 a1 a2 a3 a4 a5 r f v6 v7 v8 v9 s.ts.length n2 n3 { s with ts := s.ts.set n ar } a) := by
 (refine Spec.bd 10 Tryz.func54 Tryz.results54 Tryz.ntmps54 ?_; simp only [entry, zipArgs, Nat.reduceAdd])
 (refine x_gg @Int.toNat_natCast ?_)
 (apply Wp.runE 10 10 mixed; (dsimp only [List.map] <;> exact rfl); exact rfl; kernel_rfl; ((refine x_nx @Int.toNat_natCast ?_); (refine x_ef @Int.toNat_natCast ?_); exact Abe.nil))
 (refine x_gg @Int.toNat_natCast ?_)
 dsimp only [sQ, tQ, bQ]
 (apply leaveKN; exact rfl; (exact x_ev @Int.toNat_natCast); ((exact x_cl @Int.toNat_natCast)); ((exact x_cl @Int.toNat_natCast)); (focus (first | (simp only [push_cast, seval, Int.toNat_natCast]; done) | trivial | (simp only [push_cast, seval, Int.toNat_natCast]; trivial) | (simp; done) | (simp only [List.take_succ_cons, List.take_zero, List.mem_cons, List.not_mem_nil, or_false, forall_eq_or_imp, forall_eq]; (try simp only [Kind.ok, okL, AV.ok]); (try simp only [okL_str, okL_th, okL_pp, okL_wy, okL_ac, okL_au, okL_lt, okL_mapInt]); simp_all))); (try simp only [push_cast, seval, Int.toNat_natCast]))
 try simp only [List.map_set]
theorem do_put (r : Rm) (f s : St) (a : Int) (n : Nat) (ar : Int) (hn : n < s.pp.length) (hf : n < f.pp.length) {a0 a1 a2 a3 a4 a5 : Ent} (h0 : a0.kind.ok 10) (h1 : a1.kind.ok 10) (h2 : a2.kind.ok 10) (h3 : a3.kind.ok 10) (h4 : a4.kind.ok 10) (h5 : a5.kind.ok 10) (v6 v7 v8 v9 n1 n3 : Nat) :
  Go.Vg.Spec Tryz.prog 54 [.optr 6 v6 0 0, .agg [.int 3, .int n, .int ar]] (doM a0 a1 a2 a3 a4 a5 r f v6 v7 v8 v9 n1 s.pp.length n3 s a) (fun x m' => x = .tup [] ∧ m' = doM a0 a1 a2 a3 a4 a5 r f v6 v7 v8 v9 n1 s.pp.length n3 { s with pp := s.pp.set n (f.pp.getD n 0) } a) := by
 (refine Spec.bd 10 Tryz.func54 Tryz.results54 Tryz.ntmps54 ?_; simp only [entry, zipArgs, Nat.reduceAdd])
 (refine x_gg @Int.toNat_natCast ?_)
 (apply Wp.runE 17 17 mixed; (dsimp only [List.map] <;> exact rfl); exact rfl; kernel_rfl; ((refine x_nx @Int.toNat_natCast ?_); (refine x_ef @Int.toNat_natCast ?_); exact Abe.nil))
 (refine x_gg @Int.toNat_natCast ?_)
 dsimp only [sQ, tQ, bQ]
 (apply leaveKN; exact rfl; (exact x_ev @Int.toNat_natCast); ((exact x_cl @Int.toNat_natCast)); ((exact x_cl @Int.toNat_natCast)); (focus (first | (simp only [push_cast, seval, Int.toNat_natCast]; done) | trivial | (simp only [push_cast, seval, Int.toNat_natCast]; trivial) | (simp; done) | (simp only [List.take_succ_cons, List.take_zero, List.mem_cons, List.not_mem_nil, or_false, forall_eq_or_imp, forall_eq]; (try simp only [Kind.ok, okL, AV.ok]); (try simp only [okL_str, okL_th, okL_pp, okL_wy, okL_ac, okL_au, okL_lt, okL_mapInt]); simp_all))); (try simp only [push_cast, seval, Int.toNat_natCast]))
 try simp only [List.map_set]
end Go.Proofs.Tryz
set_option maxHeartbeats 16000000
namespace Go.Proofs.Tryz
open Go.Vg
def tkW (k : Nat) : List Tk := (List.range k).map fun i : Nat => (⟨1, i, 0⟩ : Tk)
def tkS (i j : Nat) : List Tk := (List.range j).map fun s : Nat => (⟨2, i, s⟩ : Tk)
def tkT (ts : List Th) (k : Nat) : List Tk := (List.range k).flatMap fun i : Nat => tkS i (ts.getD i th0).ss.toNat
def tkP (k : Nat) : List Tk := (List.range k).map fun i : Nat => (⟨3, i, 0⟩ : Tk)
def tkL (r : Rm) : List Tk := tkW r.wy.length ++ tkT r.ts r.ts.length ++ tkP r.pp.length
theorem tkW_succ (k : Nat) : tkW (k + 1) = tkW k ++ [⟨1, k, 0⟩] := by simp [tkW, List.range_succ]
theorem tkS_succ (i k : Nat) : tkS i (k + 1) = tkS i k ++ [⟨2, i, k⟩] := by simp [tkS, List.range_succ]
theorem tkP_succ (k : Nat) : tkP (k + 1) = tkP k ++ [⟨3, k, 0⟩] := by simp [tkP, List.range_succ]
theorem tkT_succ (ts : List Th) (k : Nat) : tkT ts (k + 1) = tkT ts k ++ tkS k (ts.getD k th0).ss.toNat := by simp [tkT, List.range_succ]
theorem tkW_len (k : Nat) : (tkW k).length = k := by simp [tkW]
theorem tkS_len (i k : Nat) : (tkS i k).length = k := by simp [tkS]
theorem tkP_len (k : Nat) : (tkP k).length = k := by simp [tkP]
theorem tkT_len (ts : List Th) (h : ∀ x ∈ ts, x.ss ≤ 6) : ∀ k, k ≤ ts.length → (tkT ts k).length ≤ 6 * k
 | 0, _ => by simp [tkT]
 | k + 1, hk => by
  have h1 := tkT_len ts h k (by omega)
  have h2 := h (ts.getD k th0) (by rw [show ts.getD k th0 = ts[k] by simp [show k < ts.length by omega]]; exact List.getElem_mem _)
  rw [tkT_succ, List.length_append, tkS_len]
  omega
theorem okL_tk (k : Nat) (l : List Tk) : okL k (l.map tkA) = True := eq_true (by
 induction l with
 | nil => trivial
 | cons a l ih => exact ⟨by simp [tkA, AV.ok, okL], ih⟩)
theorem getD_thE {l : List Th} {i : Nat} {d : AV} (h : i < l.length) : (l.map thA).getD i d = thA (l.getD i th0) := getD_mapE thA l th0 h
theorem tasks_pure {r : Rm} (hv : RV r) : Pure Tryz.prog 47 [rmA r] (.lst 3 ((tkL r).map tkA)) := by
 have z1 := hv.wy
 have z2 := hv.ts
 have z3 := hv.pp
 have hss := fun x hx => (hv.tsv x hx).2.1
 unfold tkL rmA
 (refine Spec.bd 0 Tryz.func47 Tryz.results47 Tryz.ntmps47 ?_; simp only [entry, zipArgs, Nat.reduceAdd])
 ((refine x_pre @rmC.eq_1 ?_); (iterate 2 (refine x_nr @rmC.eq_1 ?_)); (refine x_nil @rmC.eq_1 ?_))
 (refine x_fzP @rmC.eq_1 (slq 1) ?_)
 repeat (first | apply Wp.seq | apply Wp.block)
 apply Wp.adopt 2 3; (exact x_ev @rmC.eq_1)
 (refine x_go @rmC.eq_1 ?_)
 (refine Wp.vacs 1 ?_; (try simp only [List.replicate_succ, List.replicate_zero, List.cons_append, List.nil_append]))
 refine Wp.loop (fun (q : Nat × Nat × Kind) => { t := [(1, .ref (rmC r) 0), (2, .osl 1 (tkW q.1).length 0 (tkW q.1).length), (10, .int r.wy.length), (11, .int q.1)], m := [⟨1, .row 8 []⟩, ⟨(tkW q.1).length, .row 3 ((tkW q.1).map tkA)⟩, ⟨q.2.1, q.2.2⟩], n := 54 }) (fun q => q.1 ≤ r.wy.length) (fun q => r.wy.length - q.1) (0, 0, .row 1 []) ?_ ?_ ?_
 ·(refine Le.of ?_ ?_ rfl rfl <;> (try simp only [push_cast, seval, rmC]) <;> (try (with_reducible rfl)))
  all_goals (first | exact ⟨rfl, rfl⟩ | rfl)
 ·simp
 ·rintro ⟨k, v, kd⟩ hk1
  simp only at hk1
  (refine x_go @rmC.eq_1 ?_)
  (apply Wp.cond; (exact x_ev @rmC.eq_1))
  ·(intro hc; first | replace hc := bT hc | skip)
   have hst := tkW_succ k
   have hul := tkW_len k
   generalize tkW k = U at hst hul
   have hU : U.take U.length = U := List.take_length
   (refine x_gs (zc @rmC.eq_1 (zc @lenMp @hU)) ?_)
   refine ⟨(k + 1, v, kd), ?_, by simp only; omega, by simp only; omega⟩
   simp only [hst, List.length_append, List.length_singleton, List.map_append, List.map_cons, List.map_nil, tkA]
   (refine Le.of ?_ ?_ rfl rfl <;> (try simp only [push_cast, seval, rmC, List.length_map, hU]) <;> (try (with_reducible rfl)))
  ·(intro hc; first | replace hc := bT hc | skip)
   obtain rfl : k = r.wy.length := by omega
   have hWl := tkW_len r.wy.length
   generalize tkW r.wy.length = W at *
   (refine x_go @rmC.eq_1 ?_)
   (refine Wp.vacs 1 ?_; (try simp only [List.replicate_succ, List.replicate_zero, List.cons_append, List.nil_append]))
   refine Wp.loop (fun (q : Nat × (Nat × Kind) × (Nat × Kind)) => { t := [(1, .ref (rmC r) 0), (2, .osl 1 (W ++ tkT r.ts q.1).length 0 (W ++ tkT r.ts q.1).length), (21, .lst 4 (r.ts.map thA)), (22, .int r.ts.length), (23, .int q.1)], m := [⟨1, .row 8 []⟩, ⟨(W ++ tkT r.ts q.1).length, .row 3 ((W ++ tkT r.ts q.1).map tkA)⟩, ⟨q.2.1.1, q.2.1.2⟩, ⟨q.2.2.1, q.2.2.2⟩], n := 54 }) (fun q => q.1 ≤ r.ts.length) (fun q => r.ts.length - q.1) (0, (v, kd), (0, .row 1 [])) ?_ ?_ ?_
   ·have e0 : W ++ tkT r.ts 0 = W := by simp [tkT]
    simp only [e0]
    (refine Le.of ?_ ?_ rfl rfl <;> (try simp only [push_cast, seval, rmC]) <;> (try (with_reducible rfl)))
    all_goals (first | exact ⟨rfl, rfl⟩ | rfl)
   ·simp
   ·rintro ⟨k, ⟨v2, kd2⟩, v3, kd3⟩ hk1
    simp only at hk1
    (refine x_go @rmC.eq_1 ?_)
    (apply Wp.cond; (exact x_ev @rmC.eq_1))
    ·(intro hc; first | replace hc := bT hc | skip)
     have hst := tkT_succ r.ts k
     have hul := tkT_len r.ts (fun x hx => (hss x hx).2) k (by omega)
     have hgd := fun d => getD_thE (d := d) hc
     have hsx := hss (r.ts.getD k th0) (by rw [show r.ts.getD k th0 = r.ts[k] by simp [hc]]; exact List.getElem_mem _)
     obtain ⟨x, hx⟩ : ∃ x, r.ts.getD k th0 = x := ⟨_, rfl⟩
     simp only [hx] at hst hgd hsx
     have hUl : (W ++ tkT r.ts k).length ≤ 100 := by rw [List.length_append]; omega
     have hst2 : W ++ tkT r.ts (k + 1) = W ++ tkT r.ts k ++ tkS k x.ss.toNat := by rw [hst, List.append_assoc]
     generalize W ++ tkT r.ts k = U at hst2 hUl
     (refine x_gs (zc @rmC.eq_1 (zc @lenMp (zc @hgd @thA.eq_1))) ?_)
     (apply Run.alcAt 3; (exact x_ev (zc @rmC.eq_1 (zc @lenMp (zc @hgd @thA.eq_1)))); ((try simp only [push_cast, seval, rmC, List.length_map, hgd, thA]) <;> exact sT); exact rfl; (try simp only [push_cast, seval, rmC, List.length_map, hgd, thA]))
     (refine x_go (zc @rmC.eq_1 (zc @lenMp (zc @hgd @thA.eq_1))) ?_)
     refine Wp.loop (fun (q : Nat × Nat × Kind) => { t := [(1, .ref (rmC r) 0), (2, .osl 1 (U ++ tkS k q.1).length 0 (U ++ tkS k q.1).length), (21, .lst 4 (r.ts.map thA)), (22, .int r.ts.length), (23, .int k), (4, .int k), (29, .int x.ss), (30, .int q.1)], m := [⟨1, .row 8 []⟩, ⟨(U ++ tkS k q.1).length, .row 3 ((U ++ tkS k q.1).map tkA)⟩, ⟨q.2.1, q.2.2⟩, ⟨v3 + 1, .row 4 [thA x]⟩], n := 54 }) (fun q => (q.1 : Int) ≤ x.ss) (fun q => x.ss.toNat - q.1) (0, v2, kd2) ?_ ?_ ?_
     ·have e0 : U ++ tkS k 0 = U := by simp [tkS]
      simp only [e0]
      (refine Le.of ?_ ?_ rfl rfl <;> (try simp only [push_cast, seval, rmC, List.length_map, hgd, thA]) <;> (try (with_reducible rfl)))
      all_goals (first | exact ⟨rfl, rfl⟩ | rfl)
     ·simp; omega
     ·rintro ⟨j, v4, kd4⟩ hj
      simp only at hj
      (refine x_go (zc @rmC.eq_1 (zc @lenMp (zc @hgd @thA.eq_1))) ?_)
      (apply Wp.cond; (exact x_ev (zc @rmC.eq_1 (zc @lenMp (zc @hgd @thA.eq_1)))))
      ·intro hc2
       have hc2 : (j : Int) < x.ss := by simpa using hc2
       have hst3 : U ++ tkS k (j + 1) = U ++ tkS k j ++ [⟨2, k, j⟩] := by rw [tkS_succ, List.append_assoc]
       have hVl : (U ++ tkS k j).length ≤ 106 := by rw [List.length_append, tkS_len]; omega
       generalize U ++ tkS k j = V at hst3 hVl
       have hV : V.take V.length = V := List.take_length
       (refine x_gs (zc @rmC.eq_1 (zc @lenMp @hV)) ?_)
       refine ⟨(j + 1, v4, kd4), ?_, by simp only; omega, by simp only; omega⟩
       simp only [hst3, List.length_append, List.length_singleton, List.map_append, List.map_cons, List.map_nil, tkA]
       (refine Le.of ?_ ?_ rfl rfl <;> (try simp only [push_cast, seval, rmC, List.length_map, hV]) <;> (try (with_reducible rfl)))
      ·intro hc2
       have hc2 : ¬ (j : Int) < x.ss := by simpa using hc2
       have e4 : x.ss.toNat = j := by omega
       rw [e4] at hst2
       (refine x_go (zc @rmC.eq_1 (zc @lenMp (zc @hgd @thA.eq_1))) ?_)
       refine ⟨(k + 1, (v4, kd4), (v3 + 1, .row 4 [thA x])), ?_, by simp only; omega, by simp only; omega⟩
       simp only [hst2]
       (refine Le.of ?_ ?_ rfl rfl <;> (try simp only [push_cast, seval, rmC, List.length_map, hgd, thA]) <;> (try (with_reducible rfl)))
       all_goals rfl
    ·(intro hc; first | replace hc := bT hc | skip)
     obtain rfl : k = r.ts.length := by omega
     have hul := tkT_len r.ts (fun x hx => (hss x hx).2) r.ts.length (by omega)
     have hUl : (W ++ tkT r.ts r.ts.length).length ≤ 100 := by rw [List.length_append]; omega
     generalize W ++ tkT r.ts r.ts.length = U at *
     (refine x_go @rmC.eq_1 ?_)
     refine Wp.loop (fun (q : Nat × Nat × Kind) => { t := [(1, .ref (rmC r) 0), (2, .osl 1 (U ++ tkP q.1).length 0 (U ++ tkP q.1).length), (43, .int r.pp.length), (44, .int q.1)], m := [⟨1, .row 8 []⟩, ⟨(U ++ tkP q.1).length, .row 3 ((U ++ tkP q.1).map tkA)⟩, ⟨q.2.1, q.2.2⟩, ⟨v3, kd3⟩], n := 54 }) (fun q => q.1 ≤ r.pp.length) (fun q => r.pp.length - q.1) (0, v2, kd2) ?_ ?_ ?_
     ·have e0 : U ++ tkP 0 = U := by simp [tkP]
      simp only [e0]
      (refine Le.of ?_ ?_ rfl rfl <;> (try simp only [push_cast, seval, rmC]) <;> (try (with_reducible rfl)))
      all_goals (first | exact ⟨rfl, rfl⟩ | rfl)
     ·simp
     ·rintro ⟨j, v4, kd4⟩ hj
      simp only at hj
      (refine x_go @rmC.eq_1 ?_)
      (apply Wp.cond; (exact x_ev @rmC.eq_1))
      ·(intro hc; first | replace hc := bT hc | skip)
       have hst3 : U ++ tkP (j + 1) = U ++ tkP j ++ [⟨3, j, 0⟩] := by rw [tkP_succ, List.append_assoc]
       have hVl : (U ++ tkP j).length ≤ 110 := by rw [List.length_append, tkP_len]; omega
       generalize U ++ tkP j = V at hst3 hVl
       have hV : V.take V.length = V := List.take_length
       (refine x_gs (zc @rmC.eq_1 (zc @lenMp @hV)) ?_)
       refine ⟨(j + 1, v4, kd4), ?_, by simp only; omega, by simp only; omega⟩
       simp only [hst3, List.length_append, List.length_singleton, List.map_append, List.map_cons, List.map_nil, tkA]
       (refine Le.of ?_ ?_ rfl rfl <;> (try simp only [push_cast, seval, rmC, List.length_map, hV]) <;> (try (with_reducible rfl)))
      ·(intro hc; first | replace hc := bT hc | skip)
       obtain rfl : j = r.pp.length := by omega
       (refine x_mv @rmC.eq_1 ?_)
       (apply Wp.freeze 2; (exact x_ev @rmC.eq_1); (exact x_ev @rmC.eq_1); (focus (try simp only [push_cast, seval, rmC]); (try (exact sT))); (focus (exact sT)))
       (refine x_go @rmC.eq_1 ?_)
       (first | exact x_ret @rmC.eq_1 | refine x_retZ @rmC.eq_1 ?_)
       ·rw [okL_tk]; trivial
end Go.Proofs.Tryz
set_option maxHeartbeats 16000000
namespace Go.Proofs.Tryz
open Go.Vg
structure Sd where
 ts : List Int
 pp : List Int
 at_ : Int
 deriving DecidableEq
instance : Inhabited Sd := ⟨⟨[], [], 0⟩⟩
def sdS (pl : List Int) (x : Sd) : St := ⟨x.ts, x.pp, pl⟩
def sdK (x : Sd) : ByteArray := kyB x.at_ (x.ts ++ x.pp)
def nxT (r : Rm) (f : St) (pl : List Int) (x : Sd) (t : Tk) : Sd := ⟨(doS r f (sdS pl x) x.at_ t).ts, (doS r f (sdS pl x) x.at_ t).pp, doA r x.at_ t⟩
def nxR (r : Rm) (f : St) (pl : List Int) (x : Sd) (k : Nat) : Sd := if canB r f (sdS pl x) x.at_ ((tkL r).getD k tk0) = true then nxT r f pl x ((tkL r).getD k tk0) else x
def SdOk (r : Rm) (pl : List Int) (x : Sd) : Prop := SV r (sdS pl x) ∧ 0 ≤ x.at_ ∧ x.at_ ≤ (r.ps.length : Int) - 1
theorem doS_pl (r : Rm) (f s : St) (a : Int) (t : Tk) : (doS r f s a t).pl = s.pl := by unfold doS; split <;> first | rfl | (split <;> rfl)
theorem nx_sdS (r : Rm) (f : St) (pl : List Int) (x : Sd) (t : Tk) : sdS pl (nxT r f pl x t) = doS r f (sdS pl x) x.at_ t := by
 have := doS_pl r f (sdS pl x) x.at_ t
 unfold sdS nxT
 simp only
 cases h : doS r f (sdS pl x) x.at_ t with
 | mk a b c =>
  unfold sdS at h this
  rw [h] at this ⊢
  simp only at this
  rw [this]
theorem getD_set {l : List Int} {i j : Nat} {x d : Int} : (l.set i x).getD j d = if i = j ∧ j < l.length then x else l.getD j d := by
 simp only [List.getD_eq_getElem?_getD, List.getElem?_set]
 by_cases h : i = j
 ·subst h
  by_cases h2 : i < l.length
  ·simp [h2]
  ·simp [h2]
 ·simp [h]
theorem nx_ok {r : Rm} (hv : RV r) {f : St} (hf : SV r f) {pl : List Int} {x : Sd} (hx : SdOk r pl x) {t : Tk} (hc : canB r f (sdS pl x) x.at_ t = true) : SdOk r pl (nxT r f pl x t) := by
 obtain ⟨h1, h2, h3⟩ := hx
 unfold SdOk
 rw [nx_sdS]
 unfold canB at hc
 unfold doS
 have hat : (nxT r f pl x t).at_ = doA r x.at_ t := rfl
 rw [hat]
 unfold doA
 split at hc
 ·rename_i hk
  rw [hk]
  simp only [show ¬((1 : Int) = 2) by omega, show ¬((1 : Int) = 3) by omega, if_false, if_true]
  refine ⟨h1, ?_⟩
  unfold wkB wi at hc
  simp only [Bool.and_eq_true, Bool.or_eq_true, decide_eq_true_eq] at hc
  obtain ⟨⟨_, q1, q2⟩, q3⟩ := hc
  have hn : t.nu.toNat < r.wy.length := by omega
  have hm := hv.wyv (r.wy.getD t.nu.toNat wy0) (by rw [show r.wy.getD t.nu.toNat wy0 = r.wy[t.nu.toNat] by simp [hn]]; exact List.getElem_mem _)
  rcases q3 with q3 | q3 <;> omega
 ·rename_i hk1
  split at hc
  ·rename_i hk
   rw [hk]
   simp only [show ¬((2 : Int) = 1) by omega, if_false, if_true]
   unfold tnB wi at hc
   simp only [Bool.and_eq_true, decide_eq_true_eq] at hc
   obtain ⟨⟨q1, q2⟩, ⟨q3, q4, q5⟩, q6⟩ := hc
   refine ⟨⟨by simp only [List.length_set]; exact h1.ts, h1.pp, h1.pl, fun i hi => ?_, h1.ppv, h1.plv⟩, h2, h3⟩
   simp only [List.length_set] at hi
   simp only [getD_set]
   split
   ·rename_i e
    rw [← e.1]
    exact ⟨q4, q5⟩
   ·exact h1.tsv i hi
  ·rename_i hk2
   split at hc
   ·rename_i hk
    rw [hk]
    simp only [show ¬((3 : Int) = 1) by omega, show ¬((3 : Int) = 2) by omega, if_false, if_true]
    unfold ptB wi at hc
    simp only [Bool.and_eq_true, decide_eq_true_eq] at hc
    obtain ⟨⟨⟨_, q1, q2⟩, _⟩, _⟩ := hc
    have hn : t.nu.toNat < f.pp.length := by have := hf.pp; omega
    refine ⟨⟨h1.ts, by simp only [List.length_set]; exact h1.pp, h1.pl, h1.tsv, fun y hy => ?_, h1.plv⟩, h2, h3⟩
    rcases List.mem_or_eq_of_mem_set hy with hy | rfl
    ·exact h1.ppv y hy
    ·exact hf.ppv _ (by rw [show f.pp.getD t.nu.toNat 0 = f.pp[t.nu.toNat] by simp [hn]]; exact List.getElem_mem _)
   ·cases hc
theorem sd_inR {r : Rm} (hv : RV r) {pl : List Int} {x : Sd} (hx : SdOk r pl x) : inR x.at_ ∧ ∀ n ∈ x.ts ++ x.pp, inR n := by
 obtain ⟨h1, h2, h3⟩ := hx
 have hp := hv.ps
 have hn := hv.n
 refine ⟨by unfold inR; omega, fun n hn2 => ?_⟩
 rcases List.mem_append.1 hn2 with h | h
 ·obtain ⟨i, hi, rfl⟩ := List.getElem_of_mem h
  have h4 := h1.tsv i hi
  have h5 := h1.ts
  simp only [sdS] at h4 h5
  have e : x.ts.getD i 0 = x.ts[i] := by simp [hi]
  have hi2 : i < r.ts.length := by omega
  have h6 := (hv.tsv (r.ts.getD i th0) (by rw [show r.ts.getD i th0 = r.ts[i] by simp [hi2]]; exact List.getElem_mem _)).2.1
  rw [e] at h4
  unfold inR; omega
 ·have h4 := h1.ppv n h
  unfold inR; omega
theorem sd_inj {r : Rm} (hv : RV r) {pl : List Int} {x y : Sd} (hx : SdOk r pl x) (hy : SdOk r pl y) (h : sdK x = sdK y) : x = y := by
 obtain ⟨a1, a2⟩ := sd_inR hv hx
 obtain ⟨b1, b2⟩ := sd_inR hv hy
 obtain ⟨e1, e2⟩ := kyB_inj a1 b1 a2 b2 h
 have l1 : x.ts.length = y.ts.length := by rw [show x.ts.length = r.ts.length from hx.1.ts, show y.ts.length = r.ts.length from hy.1.ts]
 obtain ⟨e3, e4⟩ := List.append_inj e2 l1
 cases x; cases y
 simp_all
def elT (r : Rm) (j : Nat) (p : Sd × Nat × Nat) : Tk := if j = 0 then tk0 else (tkL r).getD p.2.2 tk0
def elB (j : Nat) (p : Sd × Nat × Nat) : Int := if j = 0 then -1 else p.2.1
def elC (r : Rm) (f : St) (pl : List Int) (j : Nat) (p : Sd × Nat × Nat) : List AV := [.strs r.ps, .lst 4 (r.ts.map thA), .lst 3 (r.pp.map ppA), .lst 3 (r.wy.map wyA), .lst 8 (r.ac.map acA), .lst 3 (r.au.map auA), .int r.n, .lst 3 (r.goal.map ltA), .ints f.ts, .ints f.pp, .ints f.pl, .ints p.1.ts, .ints p.1.pp, .ints pl, .int p.1.at_, .int (elB j p), .int (elT r j p).kd, .int (elT r j p).nu, .int (elT r j p).ar]
def elA (r : Rm) (f : St) (pl : List Int) (j : Nat) (p : Sd × Nat × Nat) : AV := .agg (elC r f pl j p)
def stdL (r : Rm) (f : St) (pl : List Int) (S : SL Sd) : List AV := (List.range S.length).map fun j => elA r f pl j (S.getD j (default, 0, 0))
theorem stdL_len (r : Rm) (f : St) (pl : List Int) (S : SL Sd) : (stdL r f pl S).length = S.length := by simp [stdL]
theorem stdL_getD {r : Rm} {f : St} {pl : List Int} {S : SL Sd} {i : Nat} (d : AV) (h : i < S.length) : (stdL r f pl S).getD i d = elA r f pl i (S.getD i (default, 0, 0)) := by
 simp [stdL, h]
theorem stdL_snoc (r : Rm) (f : St) (pl : List Int) (S : SL Sd) (p : Sd × Nat × Nat) : stdL r f pl (S ++ [p]) = stdL r f pl S ++ [elA r f pl S.length p] := by
 unfold stdL
 rw [List.length_append, List.length_singleton, List.range_succ, List.map_append, List.map_singleton]
 congr 1
 ·refine List.map_congr_left fun j hj => ?_
  have hj := List.mem_range.1 hj
  have : (S ++ [p]).getD j (default, 0, 0) = S.getD j (default, 0, 0) := by
   simp only [List.getD_eq_getElem?_getD]; rw [List.getElem?_append_left hj]
  rw [this]
 ·simp
theorem okL_std (k : Nat) (r : Rm) (f : St) (pl : List Int) (S : SL Sd) : okL k (stdL r f pl S) = True := eq_true (by
 unfold stdL
 generalize List.range S.length = L
 induction L with
 | nil => trivial
 | cons a l ih => exact ⟨by simp [elA, elC, okL, AV.ok, okL_str, okL_th, okL_pp, okL_wy, okL_ac, okL_au, okL_lt, okL_mapInt], ih⟩)
def allOk (r : Rm) (pl : List Int) (S : SL Sd) : Prop := ∀ j, j < S.length → SdOk r pl (sc S j)
theorem sc_old {S : SL Sd} {p : Sd × Nat × Nat} {j : Nat} (h : j < S.length) : (S ++ [p]).getD j (default, 0, 0) = S.getD j (default, 0, 0) := by
 simp only [List.getD_eq_getElem?_getD]; rw [List.getElem?_append_left h]
theorem allOk_snoc {r : Rm} {pl : List Int} {S : SL Sd} (h : allOk r pl S) {p : Sd × Nat × Nat} (hp : SdOk r pl p.1) : allOk r pl (S ++ [p]) := by
 intro j hj
 rcases Nat.lt_or_ge j S.length with q | q
 ·unfold sc; rw [sc_old q]; exact h j q
 ·have : j = S.length := by simp at hj; omega
  subst this
  simp [sc, hp]
end Go.Proofs.Tryz
