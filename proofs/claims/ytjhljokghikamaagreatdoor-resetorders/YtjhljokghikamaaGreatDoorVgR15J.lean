/- A part of the proof of ResetOrders: contracts of functions, with plain laws that they need. -/
import Derived.Test.YtjhljokghikamaaGreatDoorVgR11J
set_option linter.all false
set_option maxHeartbeats 16000000
namespace Go.Proofs.Tryz
open Go.Vg
abbrev cpM (s : St) : Mem := [⟨1, .row 3 []⟩, ⟨0, .row 3 [.agg [.osl 2 1 0 s.ts.length, .osl 3 1 0 s.pp.length, .osl 4 1 0 s.pl.length]]⟩, ⟨1, .row 1 (s.ts.map AV.int)⟩, ⟨1, .row 1 (s.pp.map AV.int)⟩, ⟨1, .row 1 (s.pl.map AV.int)⟩]
theorem CopyState_spec (s : St) (hs : Zs s) : Go.Vg.Spec Tryz.prog 18 [stA s] [] (fun x m' => x = .agg [.osl 2 1 0 s.ts.length, .osl 3 1 0 s.pp.length, .osl 4 1 0 s.pl.length] ∧ m' = cpM s) := by
 have y1 := hs.ts
 have y2 := hs.pp
 have y3 := hs.pl
 unfold stA
 (refine Spec.of_bodyA Tryz.func18 rfl (by rw [Tryz.ntmps18]; simp) ?_; rw [Tryz.results18, Tryz.ntmps18]; simp only [entry, zipArgs, Nat.reduceAdd])
 ((refine w_pre ?_); (iterate 2 (refine w_nr ?_)); (refine w_nil ?_))
 (refine w_fzP (slq 1) ?_)
 repeat (first | apply Wp.seq | apply Wp.block)
 (apply Wp.runGE 3 13 mixed; (dsimp only [List.map] <;> exact rfl); exact rfl; kernel_rfl; (dsimp only [List.take] <;> exact rfl); (dsimp only [List.drop] <;> exact rfl); kernel_rfl; ((try dsimp only [List.replicate]); ((refine w_gl0 ?_); (refine w_gp1 ?_); (refine w_gp1 ?_); (apply AbsG.apn 0; exact rfl; (exact w_ev); ((try simp only [push_cast, seval]) <;> exact sT); exact rfl; dsimp only [upd, alcV, List.set, List.length_cons, List.length_nil, Nat.reduceAdd]); (refine w_gl0 ?_); (refine w_gp1 ?_); (refine w_gp1 ?_); (apply AbsG.apn 1; exact rfl; (exact w_ev); ((try simp only [push_cast, seval]) <;> exact sT); exact rfl; dsimp only [upd, alcV, List.set, List.length_cons, List.length_nil, Nat.reduceAdd]); (refine w_gl0 ?_); (refine w_gp1 ?_); (refine w_gp1 ?_); (apply AbsG.apn 2; exact rfl; (exact w_ev); ((try simp only [push_cast, seval]) <;> exact sT); exact rfl; dsimp only [upd, alcV, List.set, List.length_cons, List.length_nil, Nat.reduceAdd]); (refine w_gp ?_)); exact AbsG.nil); kernel_rfl; exact rfl; ((try dsimp only [List.cons_append, List.nil_append]); (exact w_ev)); ((try simp only [push_cast, seval]) <;> exact sT); dsimp only [upd])
 (refine w_go ?_)
 (first | exact w_retA | refine w_retAZ ?_)
theorem CopyState_pure (s : St) (hs : Zs s) : Pure Tryz.prog 18 [stA s] (stA s) := by
 refine Spec.frz ((CopyState_spec s hs).mono ?_)
 rintro _ _ ⟨rfl, rfl⟩
 exact Vw.agg (.cons (Vw.ointsR rfl rfl) (.cons (Vw.ointsR rfl rfl) (.cons (Vw.ointsR rfl rfl) .nil)))
theorem findAt {l : List Au} {p : Au → Bool} {i : Nat} (hi : i < l.length) (h1 : p (l.getD i au0) = true) (h2 : ∀ j, j < i → p (l.getD j au0) = false) : l.find? p = some (l.getD i au0) := by
 have e : ∀ j (hj : j < l.length), l.getD j au0 = l[j] := fun j hj => by simp [hj]
 rw [List.find?_eq_some_iff_getElem]
 refine ⟨h1, i, hi, (e i hi).symm, fun j hj => ?_⟩
 have := h2 j hj
 rw [e j (by omega)] at this
 simp [this]
theorem findNo {l : List Au} {p : Au → Bool} (h2 : ∀ j, j < l.length → p (l.getD j au0) = false) : l.find? p = none := by
 rw [List.find?_eq_none]
 intro x hx
 obtain ⟨j, hj, rfl⟩ := List.getElem_of_mem hx
 have := h2 j hj
 simp [hj] at this
 simp [this]
abbrev stN : AV := .agg [.emp, .emp, .emp]
def stlA (au : List Au) (s : St) (t e : AV) : AV := match stl au 101 s.ts with
 | some t2 => .tup [stA ⟨t2, s.pp, s.pl⟩, t]
 | none => .tup [stN, e]
theorem rsettle_pure (r : Rm) (s : St) (hs : Zs s) (hau : ∀ a ∈ r.au, Av s.ts.length a) (hal : r.au.length ≤ 20) : Pure Tryz.prog 100 [rmA r, stA s] (stlA r.au s (.bool true) (.bool false)) := by
 have y1 := hs.ts
 have y2 := hs.pp
 have y3 := hs.pl
 have hcp := CopyState_spec s hs
 have hH := fun (t2 : List Int) (h : t2.length = s.ts.length) (a : Au) (ha : a ∈ r.au) => Holding_pure ⟨t2, s.pp, s.pl⟩ ⟨by show t2.length ≤ 100; omega, y2, y3⟩ a.wh (by have := (hau a ha).2.2.2; omega) (by rw [h]; exact (hau a ha).1)
 have hst : ∀ k t2, k < 101 → stl r.au (101 - k) t2 = match r.au.find? (enB t2) with
   | none => some t2
   | some a => stl r.au (101 - (k + 1)) (t2.set a.th.toNat a.st) := fun k t2 h => by
  rw [show 101 - k = (101 - (k + 1)) + 1 by omega]; rfl
 refine Spec.frz ?_
 unfold stlA
 unfold rmA rmC stA at *
 (refine Spec.of_bodyA Tryz.func100 rfl (by rw [Tryz.ntmps100]; simp) ?_; rw [Tryz.results100, Tryz.ntmps100]; simp only [entry, zipArgs, Nat.reduceAdd])
 ((refine w_pre ?_); (iterate 4 (refine w_nr ?_)); (refine w_nil ?_))
 (refine w_fzP (slq 2) ?_)
 (refine w_fzP (slq 3) ?_)
 (refine w_go ?_)
 (apply Run.freshE (he := (Enters.of Tryz.func18 rfl rfl)); (simp only [push_cast, seval] <;> first | exact rfl | assumption); (exact w_ev); (exact hcp); ((exact w_cl)); (exact w_ev); (exact w_ev); dsimp only [S.put, optG])
 (refine w_go ?_)
 generalize hn : s.ts.length = n at *
 (refine Wp.vacs 1 ?_; (try simp only [List.replicate_succ, List.replicate_zero, List.cons_append, List.nil_append]))
 refine Wp.loop (fun (q : Nat × List Int × Nat × Kind) => { t := [(2, .ref (rmC r) 0), (4, .optr 2 0 0 0), (6, .optr 8 0 0 0), (7, .int q.1)], m := [⟨1, .row 8 []⟩, ⟨1, .row 3 []⟩, ⟨0, .row 3 [stN]⟩, ⟨1, .row 3 []⟩, ⟨0, .row 3 [.agg [.osl 5 1 0 n, .osl 6 1 0 s.pp.length, .osl 7 1 0 s.pl.length]]⟩, ⟨1, .row 1 (q.2.1.map AV.int)⟩, ⟨1, .row 1 (s.pp.map AV.int)⟩, ⟨1, .row 1 (s.pl.map AV.int)⟩, ⟨0, .row 3 [.agg [.osl 5 1 0 n, .osl 6 1 0 s.pp.length, .osl 7 1 0 s.pl.length]]⟩, ⟨q.2.2.1, q.2.2.2⟩], n := 72 }) (fun q => q.1 ≤ 101 ∧ q.2.1.length = n ∧ stl r.au 101 s.ts = stl r.au (101 - q.1) q.2.1) (fun q => 101 - q.1) (0, s.ts, 0, .row 1 []) ?_ ?_ ?_
 ·(refine Le.of ?_ ?_ rfl rfl <;> (try simp only [push_cast, seval]) <;> (try (with_reducible rfl)))
  all_goals (first | exact ⟨rfl, rfl⟩ | rfl)
 ·exact ⟨by simp, hn, rfl⟩
 ·rintro ⟨k, t2, v, kd⟩ ⟨hk1, hk2, hk3⟩
  simp only at hk1 hk2 hk3
  (refine w_go ?_)
  (apply Wp.cond; (exact w_ev))
  ·intro hk4
   have hk5 : k < 101 := by simp only [decide_eq_true_eq] at hk4; omega
   have hst := hst k t2 hk5
   rw [← hk3] at hst
   (refine w_go ?_)
   refine Wp.loop (fun (q : Nat × Int × Nat × Kind) => { t := [(2, .ref (rmC r) 0), (4, .optr 2 0 0 0), (6, .optr 8 0 0 0), (7, .int k), (8, .int q.2.1), (9, .int q.1)], m := [⟨1, .row 8 []⟩, ⟨1, .row 3 []⟩, ⟨0, .row 3 [stN]⟩, ⟨1, .row 3 []⟩, ⟨0, .row 3 [.agg [.osl 5 1 0 n, .osl 6 1 0 s.pp.length, .osl 7 1 0 s.pl.length]]⟩, ⟨1, .row 1 (t2.map AV.int)⟩, ⟨1, .row 1 (s.pp.map AV.int)⟩, ⟨1, .row 1 (s.pl.map AV.int)⟩, ⟨0, .row 3 [.agg [.osl 5 1 0 n, .osl 6 1 0 s.pp.length, .osl 7 1 0 s.pl.length]]⟩, ⟨q.2.2.1, q.2.2.2⟩], n := 72 }) (fun q => q.1 ≤ r.au.length ∧ ((q.2.1 = -1 ∧ ∀ j, j < q.1 → enB t2 (r.au.getD j au0) = false) ∨ (∃ i : Nat, q.2.1 = i ∧ i < r.au.length ∧ enB t2 (r.au.getD i au0) = true ∧ ∀ j, j < i → enB t2 (r.au.getD j au0) = false))) (fun q => r.au.length - q.1) (0, -1, v, kd) ?_ ?_ ?_
   ·(refine Le.of ?_ ?_ rfl rfl <;> (try simp only [push_cast, seval]) <;> (try (with_reducible rfl)))
    all_goals (first | exact ⟨rfl, rfl⟩ | rfl)
   ·exact ⟨Nat.zero_le _, .inl ⟨rfl, fun j hj => by omega⟩⟩
   ·rintro ⟨i, nx, v2, kd2⟩ ⟨hi1, hi2⟩
    simp only at hi1 hi2
    by_cases hnx : nx < 0
    ·have hi3 : nx = -1 ∧ ∀ j, j < i → enB t2 (r.au.getD j au0) = false := by
      rcases hi2 with h | ⟨j, h, _⟩
      ·exact h
      ·omega
     obtain ⟨rfl, hi3⟩ := hi3
     by_cases hil : i < r.au.length
     ·have e1 : decide ((i : Int) < (r.au.length : Int)) = true := decide_eq_true (by omega)
      have hmx : r.au.getD i au0 ∈ r.au := by simp [hil]
      have hHx := hH t2 (by omega) _ hmx
      have hax := hau _ hmx
      have hen : enB t2 (r.au.getD i au0) = (hdB t2 (r.au.getD i au0).wh && !decide (t2.getD (r.au.getD i au0).th.toNat 0 = (r.au.getD i au0).st)) := rfl
      generalize hx : r.au.getD i au0 = x at hHx hax hen hmx
      obtain ⟨x1, x2, x3, x4⟩ := hax
      generalize hdB t2 x.wh = b at hHx hen
      (refine x_gq (zc @rmC.eq_1 (zc @e1 (zc @hx (zc (fun d => getD_au (d := d) hil) (zc @auA.eq_1 (zc @lenMp @hk2)))))) ?_)
      (apply Run.alcAt 9; (exact x_ev (zc @rmC.eq_1 (zc @e1 (zc @hx (zc (fun d => getD_au (d := d) hil) (zc @auA.eq_1 (zc @lenMp @hk2))))))); ((try simp only [push_cast, seval, rmC, e1, hx, getD_au hil, auA, List.length_map, hk2]) <;> exact sT); exact rfl; (try simp only [push_cast, seval, rmC, e1, hx, getD_au hil, auA, List.length_map, hk2]))
      (repeat (refine x_nr (zc @rmC.eq_1 (zc @e1 (zc @hx (zc (fun d => getD_au (d := d) hil) (zc @auA.eq_1 (zc @lenMp @hk2)))))) ?_))
      (apply Run.nil; dsimp only [sQ, tQ, bQ])
      repeat (first | apply Wp.seq | apply Wp.block)
      (refine Wp.rnD 17 ?_; apply exAb; (((refine x_abn (zc @rmC.eq_1 (zc @e1 (zc @hx (zc (fun d => getD_au (d := d) hil) (zc @auA.eq_1 (zc @lenMp @hk2)))))) ?_); (apply Abn.pureW; (exact x_ev (zc @rmC.eq_1 (zc @e1 (zc @hx (zc (fun d => getD_au (d := d) hil) (zc @auA.eq_1 (zc @lenMp @hk2))))))); (exact (Enters.of Tryz.func94 rfl rfl)); (exact fun _ => hHx); (exact VwL.cons (Vw.agg (.cons (Vw.ointsR rfl hk2.symm) (.cons (Vw.ointsR rfl rfl) (.cons (Vw.ointsR rfl rfl) .nil)))) (VwL.cons (Vw.self (by simp [AV.ok, okL_lt])) VwL.nil)); (simp only [push_cast, seval, rmC, e1, hx, getD_au hil, auA, List.length_map, hk2] <;> first | trivial | assumption | (refine ⟨?_, ?_⟩ <;> assumption) | (simp; done)); (try dsimp only [putA, optG])); (refine x_abn (zc @rmC.eq_1 (zc @e1 (zc @hx (zc (fun d => getD_au (d := d) hil) (zc @auA.eq_1 (zc @lenMp @hk2)))))) ?_)); exact Abn.nil))
      (refine x_go (zc @rmC.eq_1 (zc @e1 (zc @hx (zc (fun d => getD_au (d := d) hil) (zc @auA.eq_1 (zc @lenMp @hk2)))))) ?_)
      (apply Wp.cond; (exact x_ev (zc @rmC.eq_1 (zc @e1 (zc @hx (zc (fun d => getD_au (d := d) hil) (zc @auA.eq_1 (zc @lenMp @hk2))))))))
      ·intro h5
       (refine x_go (zc @rmC.eq_1 (zc @e1 (zc @hx (zc (fun d => getD_au (d := d) hil) (zc @auA.eq_1 (zc @lenMp @hk2)))))) ?_)
       refine ⟨(i + 1, (i : Int), v2 + 1, .row 3 [auA x]), ?_, ⟨by simp only; omega, .inr ⟨i, rfl, hil, by rw [hx, hen]; exact h5, hi3⟩⟩, by simp only; omega⟩
       ·(refine Le.of ?_ ?_ rfl rfl <;> (try simp only [push_cast, seval, rmC, e1, hx, getD_au hil, auA, List.length_map, hk2]) <;> (try (with_reducible rfl)))
      ·intro h5
       (refine x_go (zc @rmC.eq_1 (zc @e1 (zc @hx (zc (fun d => getD_au (d := d) hil) (zc @auA.eq_1 (zc @lenMp @hk2)))))) ?_)
       refine ⟨(i + 1, -1, v2 + 1, .row 3 [auA x]), ?_, ⟨by simp only; omega, .inl ⟨rfl, fun j hj => ?_⟩⟩, by simp only; omega⟩
       ·(refine Le.of ?_ ?_ rfl rfl <;> (try simp only [push_cast, seval, rmC, e1, hx, getD_au hil, auA, List.length_map, hk2]) <;> (try (with_reducible rfl)))
       ·simp only at hj
        by_cases hji : j = i
        ·subst hji; rw [hx, hen]; exact h5
        ·exact hi3 j (by omega)
     ·obtain rfl : i = r.au.length := by omega
      rw [findNo hi3] at hst
      have e1 : decide ((r.au.length : Int) < (r.au.length : Int)) = false := decide_eq_false (by omega)
      (refine x_gg (zc @rmC.eq_1 @e1) ?_)
      (first | exact x_retA (zc @rmC.eq_1 @e1) | refine x_retAZ (zc @rmC.eq_1 @e1) ?_)
      rw [hst]
      exact Vw.tup (.cons (Vw.agg (.cons (Vw.ointsR rfl hk2.symm) (.cons (Vw.ointsR rfl rfl) (.cons (Vw.ointsR rfl rfl) .nil)))) (.cons (Vw.self trivial) .nil))
    ·obtain ⟨j, rfl, hj2, hj3, hj4⟩ : ∃ j : Nat, nx = j ∧ j < r.au.length ∧ enB t2 (r.au.getD j au0) = true ∧ ∀ z, z < j → enB t2 (r.au.getD z au0) = false := by
      rcases hi2 with ⟨h, _⟩ | h
      ·omega
      ·exact h
     rw [findAt hj2 hj3 hj4] at hst
     have hmx : r.au.getD j au0 ∈ r.au := by simp [hj2]
     have hax := hau _ hmx
     generalize hx : r.au.getD j au0 = x at hax hst
     obtain ⟨x1, x2, x3, x4⟩ := hax
     have e2 : decide ((j : Int) < 0) = false := decide_eq_false (by omega)
     (refine x_go (zc @rmC.eq_1 (zc @e2 (zc @Bool.and_false (zc @hx (zc (fun d => getD_au (d := d) hj2) (zc @auA.eq_1 (zc @lenMp @hk2))))))) ?_)
     (apply Wp.condF; (exact x_ev (zc @rmC.eq_1 (zc @e2 (zc @Bool.and_false (zc @hx (zc (fun d => getD_au (d := d) hj2) (zc @auA.eq_1 (zc @lenMp @hk2)))))))))
     (refine x_gg (zc @rmC.eq_1 (zc @e2 (zc @Bool.and_false (zc @hx (zc (fun d => getD_au (d := d) hj2) (zc @auA.eq_1 (zc @lenMp @hk2))))))) ?_)
     (apply Wp.runE 17 17 mixed; (dsimp only [List.map] <;> exact rfl); exact rfl; kernel_rfl; ((refine x_nx (zc @rmC.eq_1 (zc @e2 (zc @Bool.and_false (zc @hx (zc (fun d => getD_au (d := d) hj2) (zc @auA.eq_1 (zc @lenMp @hk2))))))) ?_); (refine x_ef (zc @rmC.eq_1 (zc @e2 (zc @Bool.and_false (zc @hx (zc (fun d => getD_au (d := d) hj2) (zc @auA.eq_1 (zc @lenMp @hk2))))))) ?_); exact Abe.nil))
     (refine x_go (zc @rmC.eq_1 (zc @e2 (zc @Bool.and_false (zc @hx (zc (fun d => getD_au (d := d) hj2) (zc @auA.eq_1 (zc @lenMp @hk2))))))) ?_)
     refine ⟨(k + 1, t2.set x.th.toNat x.st, v2, kd2), ?_, ⟨by simp only; omega, by simp only [List.length_set]; exact hk2, ?_⟩, by simp only; omega⟩
     ·(refine Le.of ?_ ?_ rfl rfl <;> (try simp only [push_cast, seval, rmC, e2, Bool.and_false, hx, getD_au hj2, auA, List.length_map, hk2]) <;> (try (with_reducible rfl)))
     ·simp only
      rw [hst]
  ·intro hk4
   obtain rfl : k = 101 := by simp only [decide_eq_false_iff_not] at hk4; omega
   (refine x_go @rmC.eq_1 ?_)
   (first | exact x_retA @rmC.eq_1 | refine x_retAZ @rmC.eq_1 ?_)
   rw [hk3]
   exact Vw.tup (.cons (Vw.self (by simp [AV.ok, okL])) (.cons (Vw.self trivial) .nil))
end Go.Proofs.Tryz
set_option maxHeartbeats 16000000
namespace Go.Proofs.Tryz
open Go.Vg
theorem RV.av {r : Rm} (h : RV r) (hz : Sz r) {n : Nat} (hn : n = r.ts.length) : ∀ a ∈ r.au, Av n a := by
 intro a ha
 obtain ⟨h1, h2⟩ := h.auv a ha
 unfold stB at h1
 simp only [Bool.and_eq_true, wi_iff] at h1
 refine ⟨by rw [hn]; exact Lv_of h2, h1.1.1, by omega, hz.aun a ha⟩
theorem rSettle_pure {r : Rm} (hz : Sz r) {s : St} (hs : Zs s) (hc : csE r s = 0) : Pure Tryz.prog 76 [rmA r, stA s] (stlA r.au s (.int 0) (.int 27)) := by
 obtain ⟨hv, hv2, _⟩ := cs_zero hc
 have c0 := rcheckState_pure hz hs
 rw [hc] at c0
 have c1 := rsettle_pure r s hs (hv.av hz hv2.ts) (by have := hz.au; omega)
 unfold stlA at c1 ⊢
 unfold rmA rmC stA at *
 cases h : stl r.au 101 s.ts with
 | none =>
  rw [h] at c1
  (refine Spec.bd 0 Tryz.func76 Tryz.results76 Tryz.ntmps76 ?_; simp only [entry, zipArgs, Nat.reduceAdd])
  ((refine w_pre ?_); (iterate 4 (refine w_nr ?_)); (refine w_nil ?_))
  (refine w_fzP (slq 2) ?_)
  (refine w_fzP (slq 3) ?_)
  (refine w_go ?_)
  (apply Run.pureP; (exact w_ev); (exact (Enters.of Tryz.func92 rfl rfl)); (exact c0); (exact w_al); (try dsimp only [putA, optG]))
  (refine w_gg ?_)
  (apply Run.pureFP; (exact w_ev); (exact (Enters.of Tryz.func100 rfl rfl)); (exact c1); (exact w_al); (try dsimp only [putA, optG]))
  (refine w_gg ?_)
  (first | exact w_ret | refine w_retZ ?_)
 | some t2 =>
  rw [h] at c1
  (refine Spec.bd 0 Tryz.func76 Tryz.results76 Tryz.ntmps76 ?_; simp only [entry, zipArgs, Nat.reduceAdd])
  ((refine w_pre ?_); (iterate 4 (refine w_nr ?_)); (refine w_nil ?_))
  (refine w_fzP (slq 2) ?_)
  (refine w_fzP (slq 3) ?_)
  (refine w_go ?_)
  (apply Run.pureP; (exact w_ev); (exact (Enters.of Tryz.func92 rfl rfl)); (exact c0); (exact w_al); (try dsimp only [putA, optG]))
  (refine w_gg ?_)
  (apply Run.pureFP; (exact w_ev); (exact (Enters.of Tryz.func100 rfl rfl)); (exact c1); (exact w_al); (try dsimp only [putA, optG]))
  (refine w_gg ?_)
  (first | exact w_ret | refine w_retZ ?_)
def bgA (r : Rm) : AV := .tup [if bgE r = 0 then stA (bgS r) else stN, .int (bgE r)]
theorem bg0_cs {r : Rm} (h : chE r = 0) : csE r (bg0 r) = 0 := by
 have hv := chE_RV h
 have hn := hv.n
 have hp := hv.ps
 unfold csE
 rw [orE_ok h, if_pos]
 refine csB_SV.2 ⟨by simp [bg0], by simp [bg0], by simp [bg0]; omega, fun i hi => ?_, fun x hx => ?_, fun x hx => ?_⟩
 ·have hi' : i < r.ts.length := by simpa [bg0] using hi
  have h1 := hv.tsv _ (memTh hi')
  have e : (bg0 r).ts.getD i 0 = (r.ts.getD i th0).st := by simp [bg0, hi']
  rw [e]; omega
 ·obtain ⟨p, hp', rfl⟩ := List.mem_map.1 hx
  have := (hv.ppv p hp').1
  omega
 ·have : x = 0 := by
   have := List.mem_replicate.1 hx
   exact this.2
  omega
theorem bg0_Zs {r : Rm} (hz : Sz r) (hv : RV r) : Zs (bg0 r) := by
 have h1 := hz.ts
 have h2 := hz.pp
 have h3 := hv.n
 exact ⟨by simp [bg0]; omega, by simp [bg0]; omega, by simp [bg0]; omega⟩
theorem bgA_eq {r : Rm} (h : chE r = 0) : bgA r = stlA r.au (bg0 r) (.int 0) (.int 27) := by
 unfold bgA stlA bgS
 have e : bgE r = if (stl r.au 101 (r.ts.map Th.st)).isSome then 0 else 27 := by unfold bgE; rw [orE_ok h]
 rw [e]
 show _ = match stl r.au 101 (r.ts.map Th.st) with
  | some t2 => _
  | none => _
 cases stl r.au 101 (r.ts.map Th.st) <;> rfl
theorem map_stepI {α : Type} (f : α → Int) (d : α) {l : List α} {k : Nat} (h : k < l.length) : (l.take (k + 1)).map f = (l.take k).map f ++ [f (l.getD k d)] := by
 rw [take_snocD d h, List.map_append]; rfl
theorem rBegin_pure {r : Rm} (hz : Sz r) : Pure Tryz.prog 41 [rmA r] (bgA r) := by
 have c0 := rcheck_pure hz
 by_cases hc : chE r = 0
 ·have hv := chE_RV hc
  have hn := hv.n
  have z2 := hz.ts
  have z3 := hz.pp
  have c1 := rSettle_pure hz (bg0_Zs hz hv) (bg0_cs hc)
  rw [hc] at c0
  rw [bgA_eq hc]
  unfold bg0 at c1 ⊢
  unfold stlA at c1 ⊢
  unfold rmA rmC stA at *
  simp only at c1 ⊢
  obtain ⟨N, hN⟩ : ∃ N : Nat, r.n = (N : Int) := ⟨r.n.toNat, by omega⟩
  have hNt : r.n.toNat = N := by omega
  rw [hNt] at c1 ⊢
  rw [hN] at c0 c1
  (refine Spec.bd 0 Tryz.func41 Tryz.results41 Tryz.ntmps41 ?_; simp only [entry, zipArgs, Nat.reduceAdd])
  ((refine x_pre (zc @hN @Int.toNat_natCast) ?_); (iterate 3 (refine x_nr (zc @hN @Int.toNat_natCast) ?_)); (refine x_nil (zc @hN @Int.toNat_natCast) ?_))
  (refine x_fzP (zc @hN @Int.toNat_natCast) (slq 1) ?_)
  (refine x_go (zc @hN @Int.toNat_natCast) ?_)
  (apply Run.pureP; (exact x_ev (zc @hN @Int.toNat_natCast)); (exact (Enters.of Tryz.func44 rfl rfl)); (exact c0); (exact x_al (zc @hN @Int.toNat_natCast)); (try dsimp only [putA, optG]))
  (refine x_gg (zc @hN @Int.toNat_natCast) ?_)
  refine Wp.adoptRow 3 2 (l' := [.agg [.osl 4 0 0 0, .osl 5 0 0 0, .osl 2 0 0 N]]) rfl ⟨.inr ⟨_, _, rfl, rfl, .inl (.inr ⟨rfl, 4, by simp, by simp, rfl⟩), .inl (.inr ⟨rfl, 5, by simp, by simp, rfl⟩), .inl (.inl rfl), trivial⟩, trivial⟩ ?_
  simp only [List.set_cons_succ, List.set_cons_zero, List.replicate_succ, List.replicate_zero, List.cons_append, List.nil_append]
  refine Wp.loop (fun k : Nat => { t := [(1, .ref (rmC r) 0), (2, .optr 1 0 0 0), (5, .optr 3 0 0 0), (6, .int k)], m := [⟨1, .row 8 []⟩, ⟨0, .row 3 [stN]⟩, ⟨0, .row 1 ((List.replicate N 0).map AV.int)⟩, ⟨0, .row 3 [.agg [.osl 4 k 0 k, .osl 5 0 0 0, .osl 2 0 0 N]]⟩, ⟨k, .row 1 (((r.ts.take k).map Th.st).map AV.int)⟩, ⟨0, .row 1 []⟩], n := 59 }) (fun k => k ≤ r.ts.length) (fun k => r.ts.length - k) 0 ?_ ?_ ?_
  ·(refine Le.of ?_ ?_ rfl rfl <;> (try simp only [push_cast, seval, hN, Int.toNat_natCast]) <;> (try (with_reducible rfl)))
   all_goals (first | (simp only [rmC, hN]; exact ⟨rfl, rfl⟩) | (simp only [rmC, hN]; done) | rfl)
  ·simp
  ·intro k hk1
   (refine x_go (zc @hN @rmC.eq_1) ?_)
   (apply Wp.cond; (exact x_ev (zc @hN @rmC.eq_1)))
   ·(intro hc; first | replace hc := bT hc | skip)
    have hst := map_stepI Th.st th0 hc
    generalize hL : (r.ts.take k).map Th.st = L at hst
    have hLl : L.length = k := by rw [← hL, List.length_map, List.length_take]; omega
    have hLt : L.take k = L := List.take_of_length_le (by omega)
    generalize hx : r.ts.getD k th0 = x at hst
    (refine x_go (zc @hN (zc @rmC.eq_1 (zc @hx (zc @hLl (zc @hLt @lenMp))))) ?_)
    (apply Wp.runGES 4 11 mixed; (dsimp only [List.map] <;> exact rfl); exact rfl; kernel_rfl; (dsimp only [List.take] <;> exact rfl); (dsimp only [List.drop] <;> exact rfl); (dsimp only [List.take] <;> exact rfl); (dsimp only [List.drop] <;> exact rfl); kernel_rfl; (((refine x_gp (zc @hN (zc @rmC.eq_1 (zc @hx (zc @hLl (zc @hLt @lenMp))))) ?_); (apply AbsG.eff 0; exact rfl; exact rfl; (exact x_ev (zc @hN (zc @rmC.eq_1 (zc @hx (zc @hLl (zc @hLt @lenMp)))))); ((try simp only [push_cast, seval, hN, rmC, hx, hLl, hLt, List.length_map]) <;> exact sT); dsimp only [upd, List.set, List.length_cons, List.length_nil, Nat.reduceAdd]); (refine x_gp (zc @hN (zc @rmC.eq_1 (zc @hx (zc @hLl (zc @hLt @lenMp))))) ?_)); exact AbsG.nil); kernel_rfl; exact rfl; ((try dsimp only [List.cons_append, List.nil_append]); (exact x_ev (zc @hN (zc @rmC.eq_1 (zc @hx (zc @hLl (zc @hLt @lenMp))))))); ((try simp only [push_cast, seval, hN, rmC, hx, hLl, hLt, List.length_map]) <;> exact sT); dsimp only [upd])
    (refine x_go (zc @hN (zc @rmC.eq_1 (zc @hx (zc @hLl (zc @hLt @lenMp))))) ?_)
    refine ⟨k + 1, ?_, by omega, by omega⟩
    simp only [hst]
    (refine Le.of ?_ ?_ rfl rfl <;> (try simp only [push_cast, seval, hN, rmC, hx, hLl, hLt, List.length_map]) <;> (try (with_reducible rfl)))
   ·(intro hc; first | replace hc := bT hc | skip)
    obtain rfl : k = r.ts.length := by omega
    rw [List.take_of_length_le (Nat.le_refl _)]
    (refine x_go (zc @hN @rmC.eq_1) ?_)
    generalize hTs : r.ts.map Th.st = Ts at *
    have hTl : Ts.length = r.ts.length := by rw [← hTs, List.length_map]
    generalize r.ts.length = nt at *
    refine Wp.loop (fun k : Nat => { t := [(1, .ref (rmC r) 0), (2, .optr 1 0 0 0), (5, .optr 3 0 0 0), (7, .int k)], m := [⟨1, .row 8 []⟩, ⟨0, .row 3 [stN]⟩, ⟨0, .row 1 ((List.replicate N 0).map AV.int)⟩, ⟨0, .row 3 [.agg [.osl 4 nt 0 nt, .osl 5 k 0 k, .osl 2 0 0 N]]⟩, ⟨nt, .row 1 (Ts.map AV.int)⟩, ⟨k, .row 1 (((r.pp.take k).map Pp.pl).map AV.int)⟩], n := 59 }) (fun k => k ≤ r.pp.length) (fun k => r.pp.length - k) 0 ?_ ?_ ?_
    ·(refine Le.of ?_ ?_ rfl rfl <;> (try simp only [push_cast, seval, hN, rmC]) <;> (try (with_reducible rfl)))
     all_goals (first | (simp only [rmC, hN]; exact ⟨rfl, rfl⟩) | (simp only [rmC, hN]; done) | rfl)
    ·simp
    ·intro k hk2
     (refine x_go (zc @hN @rmC.eq_1) ?_)
     (apply Wp.cond; (exact x_ev (zc @hN @rmC.eq_1)))
     ·(intro hc; first | replace hc := bT hc | skip)
      have hst := map_stepI Pp.pl pp0 hc
      generalize hL : (r.pp.take k).map Pp.pl = L at hst
      have hLl : L.length = k := by rw [← hL, List.length_map, List.length_take]; omega
      have hLt : L.take k = L := List.take_of_length_le (by omega)
      generalize hx : r.pp.getD k pp0 = x at hst
      (refine x_go (zc @hN (zc @rmC.eq_1 (zc @hx (zc @hLl (zc @hLt (zc @lenMp (zc (fun d => getD_pp (d := d) hc) @ppA.eq_1))))))) ?_)
      (apply Wp.runGES 4 11 mixed; (dsimp only [List.map] <;> exact rfl); exact rfl; kernel_rfl; (dsimp only [List.take] <;> exact rfl); (dsimp only [List.drop] <;> exact rfl); (dsimp only [List.take] <;> exact rfl); (dsimp only [List.drop] <;> exact rfl); kernel_rfl; (((refine x_gp (zc @hN (zc @rmC.eq_1 (zc @hx (zc @hLl (zc @hLt (zc @lenMp (zc (fun d => getD_pp (d := d) hc) @ppA.eq_1))))))) ?_); (apply AbsG.eff 1; exact rfl; exact rfl; (exact x_ev (zc @hN (zc @rmC.eq_1 (zc @hx (zc @hLl (zc @hLt (zc @lenMp (zc (fun d => getD_pp (d := d) hc) @ppA.eq_1)))))))); ((try simp only [push_cast, seval, hN, rmC, hx, hLl, hLt, List.length_map, getD_pp hc, ppA]) <;> exact sT); dsimp only [upd, List.set, List.length_cons, List.length_nil, Nat.reduceAdd]); (refine x_gp (zc @hN (zc @rmC.eq_1 (zc @hx (zc @hLl (zc @hLt (zc @lenMp (zc (fun d => getD_pp (d := d) hc) @ppA.eq_1))))))) ?_)); exact AbsG.nil); kernel_rfl; exact rfl; ((try dsimp only [List.cons_append, List.nil_append]); (exact x_ev (zc @hN (zc @rmC.eq_1 (zc @hx (zc @hLl (zc @hLt (zc @lenMp (zc (fun d => getD_pp (d := d) hc) @ppA.eq_1))))))))); ((try simp only [push_cast, seval, hN, rmC, hx, hLl, hLt, List.length_map, getD_pp hc, ppA]) <;> exact sT); dsimp only [upd])
      (refine x_go (zc @hN (zc @rmC.eq_1 (zc @hx (zc @hLl (zc @hLt (zc @lenMp (zc (fun d => getD_pp (d := d) hc) @ppA.eq_1))))))) ?_)
      refine ⟨k + 1, ?_, by omega, by omega⟩
      simp only [hst]
      (refine Le.of ?_ ?_ rfl rfl <;> (try simp only [push_cast, seval, hN, rmC, hx, hLl, hLt, List.length_map, getD_pp hc, ppA]) <;> (try (with_reducible rfl)))
     ·(intro hc; first | replace hc := bT hc | skip)
      obtain rfl : k = r.pp.length := by omega
      rw [List.take_of_length_le (Nat.le_refl _)]
      generalize hPs : r.pp.map Pp.pl = Ps at *
      have hPl : Ps.length = r.pp.length := by rw [← hPs, List.length_map]
      generalize r.pp.length = np at *
      (refine x_mv (zc @hN @rmC.eq_1) ?_)
      refine Wp.freezeRow 3 4 (vi := nt) (off := 0) (len := nt) (szi := 1) (li := Ts.map AV.int) (le' := [.agg [.ints Ts, .osl 5 np 0 np, .osl 2 0 0 N]]) (by decide) rfl rfl (by simp [hTl]) (by decide) ⟨.inr ⟨_, _, rfl, rfl, .inr ⟨rfl, by simp [← hTl, List.take_of_length_le]⟩, .inl rfl, .inl rfl, trivial⟩, trivial⟩ ?_
      simp only [List.set_cons_succ, List.set_cons_zero]
      refine Wp.freezeRow 3 5 (vi := np) (off := 0) (len := np) (szi := 1) (li := Ps.map AV.int) (le' := [.agg [.ints Ts, .ints Ps, .osl 2 0 0 N]]) (by decide) rfl rfl (by simp [hPl]) (by decide) ⟨.inr ⟨_, _, rfl, rfl, .inl rfl, .inr ⟨rfl, by simp [← hPl, List.take_of_length_le]⟩, .inl rfl, trivial⟩, trivial⟩ ?_
      simp only [List.set_cons_succ, List.set_cons_zero]
      refine Wp.freezeRow 3 2 (vi := 0) (off := 0) (len := N) (szi := 1) (li := (List.replicate N 0).map AV.int) (le' := [.agg [.ints Ts, .ints Ps, .ints (List.replicate N 0)]]) (by decide) rfl rfl (by simp) (by decide) ⟨.inr ⟨_, _, rfl, rfl, .inl rfl, .inl rfl, .inr ⟨rfl, by simp [List.take_of_length_le]⟩, trivial⟩, trivial⟩ ?_
      simp only [List.set_cons_succ, List.set_cons_zero]
      cases h : stl r.au 101 Ts with
      | none =>
       rw [h] at c1
       (refine x_go (zc @hN @rmC.eq_1) ?_)
       (apply Run.pureFP; (exact x_ev (zc @hN @rmC.eq_1)); (exact (Enters.of Tryz.func76 rfl rfl)); (exact c1); (exact x_al (zc @hN @rmC.eq_1)); (try dsimp only [putA, optG]))
       (refine x_go (zc @hN @rmC.eq_1) ?_)
       (first | exact x_ret (zc @hN @rmC.eq_1) | refine x_retZ (zc @hN @rmC.eq_1) ?_)
      | some t2 =>
       rw [h] at c1
       (refine x_go (zc @hN @rmC.eq_1) ?_)
       (apply Run.pureFP; (exact x_ev (zc @hN @rmC.eq_1)); (exact (Enters.of Tryz.func76 rfl rfl)); (exact c1); (exact x_al (zc @hN @rmC.eq_1)); (try dsimp only [putA, optG]))
       (refine x_go (zc @hN @rmC.eq_1) ?_)
       (first | exact x_ret (zc @hN @rmC.eq_1) | refine x_retZ (zc @hN @rmC.eq_1) ?_)
 ·have he : bgA r = .tup [stN, .int (chE r)] := by
   have e : bgE r = chE r := by unfold bgE; rw [orE_no hc]
   unfold bgA
   rw [e, if_neg hc]
  rw [he]
  have he2 : decide (chE r = 0) = false := decide_eq_false hc
  unfold rmA rmC at *
  (refine Spec.bd 0 Tryz.func41 Tryz.results41 Tryz.ntmps41 ?_; simp only [entry, zipArgs, Nat.reduceAdd])
  ((refine x_pre (zc @he2 @Bool.not_false) ?_); (iterate 3 (refine x_nr (zc @he2 @Bool.not_false) ?_)); (refine x_nil (zc @he2 @Bool.not_false) ?_))
  (refine x_fzP (zc @he2 @Bool.not_false) (slq 1) ?_)
  (refine x_go (zc @he2 @Bool.not_false) ?_)
  (apply Run.pureP; (exact x_ev (zc @he2 @Bool.not_false)); (exact (Enters.of Tryz.func44 rfl rfl)); (exact c0); (exact x_al (zc @he2 @Bool.not_false)); (try dsimp only [putA, optG]))
  (refine x_gg (zc @he2 @Bool.not_false) ?_)
  (first | exact x_ret (zc @he2 @Bool.not_false) | refine x_retZ (zc @he2 @Bool.not_false) ?_)
end Go.Proofs.Tryz
namespace Go.Vg
open Go.RowKit
variable {P : Program} {gds : List (Option Nat)} {m : Mem} {n k : Nat} {acc acc' : Mem} {l : List Oper} {t t' : List (Nat × AV)} {es : List (Nat × Nat × Ent)} {sq : List Nat} {dst : Option Nat} {type : TypeId} {pos : String} {after : Array Edge} {x : AV}
theorem AbsG.callF {fo : Operand} {args : List Operand} {tys : Array TypeId} {g : Option Bool} {guard : Option (Nat × Bool)} {f : FuncId} {xs : List AV} (h1 : dstB n dst = true) (h : prepF gds ⟨t, m, n, []⟩ guard fo args = some (g, f, xs)) (he : Enters P f) (hc : Pure P f xs x) (ha : gOk t g (fo :: args) ∧ okL 0 xs ∧ x.ok 0)
  (h4 : AbsG P gds m n (k + 1) acc l (upd t dst (optG g x)) t' es sq acc') : AbsG P gds m n k acc (⟨dst, callOp fo args tys, type, pos, after, guard⟩ :: l) t t' es sq acc' := by
 obtain ⟨q1, caps, q2, q3⟩ := prepF_some h
 exact .cons h1 (fun z => (Pure.yieldF (o := ⟨dst, callOp fo args tys, type, pos, after, guard⟩) rfl q1 ha.1 q2 he hc q3 ha.2.1 ha.2.2).stepAt) h4
end Go.Vg
set_option maxHeartbeats 16000000
namespace Go.Proofs.Tryz
open Go.Vg
theorem shiftL_map {α : Type} {f : α → AV} (k : Nat) (h : ∀ x, (f x).shift k = f x) : ∀ l : List α, shiftL k (l.map f) = l.map f
 | [] => rfl
 | a :: l => by simp only [List.map_cons, shiftL, h a, shiftL_map k h l]
theorem shiftL_str (k : Nat) (l : List ByteArray) : shiftL k (l.map AV.str) = l.map AV.str := shiftL_map k (fun _ => rfl) l
theorem shiftL_lt (k : Nat) (l : List Lt) : shiftL k (l.map ltA) = l.map ltA := shiftL_map k (fun _ => rfl) l
theorem shiftL_se (k : Nat) (l : List Se) : shiftL k (l.map seA) = l.map seA := shiftL_map k (fun _ => rfl) l
theorem shiftL_th (k : Nat) (l : List Th) : shiftL k (l.map thA) = l.map thA := shiftL_map k (fun _ => rfl) l
theorem shiftL_pp (k : Nat) (l : List Pp) : shiftL k (l.map ppA) = l.map ppA := shiftL_map k (fun x => by simp only [ppA, AV.shift, shiftL, shiftL_lt]) l
theorem shiftL_wy (k : Nat) (l : List Wy) : shiftL k (l.map wyA) = l.map wyA := shiftL_map k (fun x => by simp only [wyA, AV.shift, shiftL, shiftL_lt]) l
theorem shiftL_au (k : Nat) (l : List Au) : shiftL k (l.map auA) = l.map auA := shiftL_map k (fun x => by simp only [auA, AV.shift, shiftL, shiftL_lt]) l
theorem shiftL_ac (k : Nat) (l : List Ac) : shiftL k (l.map acA) = l.map acA := shiftL_map k (fun x => by simp only [acA, acC, AV.shift, shiftL, shiftL_lt, shiftL_se, shiftL_int]) l
attribute [push_cast] shiftL_str shiftL_lt shiftL_se shiftL_th shiftL_pp shiftL_wy shiftL_au shiftL_ac
theorem clone_pure (l : List Int) (hl : l.length ≤ 100000000) : Pure Tryz.prog 91 [.ints l] (.ints l) := by
 refine Spec.frz ((clone_spec l hl).mono ?_)
 rintro _ _ ⟨rfl, rfl⟩
 exact Vw.ointsR rfl rfl
theorem lay_spec (r : Rm) (s : St) (hs : Zs s) : Go.Vg.Spec Tryz.prog 96 [rmA r, stA s] [] (fun x m' => x = .optr 3 1 0 0 ∧ m' = [⟨1, .row 8 []⟩, ⟨1, .row 3 []⟩, ⟨1, .row 1 (s.ts.map AV.int)⟩, ⟨1, .row 11 [.agg (tbO r 2 1 s.ts.length s.pp s.pl)]⟩]) := by
 have y1 := hs.ts
 have y2 := hs.pp
 have y3 := hs.pl
 unfold rmA rmC stA
 (refine Spec.of_bodyA Tryz.func96 rfl (by rw [Tryz.ntmps96]; simp) ?_; rw [Tryz.results96, Tryz.ntmps96]; simp only [entry, zipArgs, Nat.reduceAdd])
 ((refine w_pre ?_); (iterate 3 (refine w_nr ?_)); (refine w_nil ?_))
 (refine w_fzP (slq 2) ?_)
 (refine w_fzP (slq 3) ?_)
 repeat (first | apply Wp.seq | apply Wp.block)
 (apply Wp.runG 2 mixed; (dsimp only [List.map] <;> exact rfl); exact rfl; kernel_rfl; ((try dsimp only [List.replicate]); ((refine w_gp1 ?_); (refine w_gp1 ?_); (refine w_gp1 ?_); (apply AbsG.fresh 0; exact rfl; (exact w_ev); (exact (Enters.of Tryz.func91 rfl rfl)); (exact clone_spec s.ts (by omega)); (exact VwL.cons (Vw.self (ok_ints 0 _)) VwL.nil); (simp only [push_cast, seval] <;> first | trivial | (simp; done)); exact rfl; dsimp only [upd, List.set, List.length_cons, List.length_nil, Nat.reduceAdd]); (refine w_gp1 ?_); (refine w_gp1 ?_); (apply AbsG.callF; exact rfl; (exact w_ev); (exact (Enters.of Tryz.func91 rfl rfl)); (exact clone_pure s.pp (by omega)); (exact w_al); (try dsimp only [upd, optG])); (refine w_gp1 ?_); (refine w_gp1 ?_); (apply AbsG.callF; exact rfl; (exact w_ev); (exact (Enters.of Tryz.func91 rfl rfl)); (exact clone_pure s.pl (by omega)); (exact w_al); (try dsimp only [upd, optG])); (refine w_gp1 ?_); (refine w_gp1 ?_); (apply AbsG.new 1; exact rfl; (exact w_ev); ((try simp only [push_cast, seval]) <;> exact sT); exact rfl; dsimp only [upd, alcV, List.set, List.length_cons, List.length_nil, Nat.reduceAdd]); (refine w_gp ?_)); exact AbsG.nil); kernel_rfl; (try dsimp only [List.cons_append, List.nil_append]))
 (refine w_go ?_)
 (first | exact w_retA | refine w_retAZ ?_)
theorem Holds_pure {r : Rm} (hz : Sz r) {s : St} (hs : Zs s) (hc : csE r s = 0) (c : List Lt) (hcl : c.length ≤ 20) (hcd : cdB r.ts c = true) : Pure Tryz.prog 108 [rmA r, stA s, cdA c] (.tup [.bool (hdB s.ts c), .int 0]) := by
 obtain ⟨hv, hv2, _⟩ := cs_zero hc
 have c0 := checkState_pure hz hs
 rw [hc] at c0
 have z2 := hz.ts
 have c1 := valid_pure (r := r) (by omega) hv.ok c (by omega)
 rw [hcd] at c1
 have c2 := lay_spec r s hs
 have c3 := holds_pure r s hs c (by omega) (by rw [hv2.ts]; exact Lv_of hcd)
 unfold rmA rmC stA at *
 (refine Spec.bd 0 Tryz.func108 Tryz.results108 Tryz.ntmps108 ?_; simp only [entry, zipArgs, Nat.reduceAdd])
 ((refine w_pre ?_); (iterate 4 (refine w_nr ?_)); (refine w_nil ?_))
 (refine w_fzP (slq 3) ?_)
 (refine w_fzP (slq 4) ?_)
 (refine w_go ?_)
 (apply Run.pureP; (exact w_ev); (exact (Enters.of Tryz.func87 rfl rfl)); (exact c0); (exact w_al); (try dsimp only [putA, optG]))
 (refine w_gg ?_)
 (apply Run.pureP; (exact w_ev); (exact (Enters.of Tryz.func116 rfl rfl)); (exact c1); (exact w_al); (try dsimp only [putA, optG]))
 (refine w_gg ?_)
 (apply Run.freshE (he := (Enters.of Tryz.func96 rfl rfl)); (simp only [push_cast, seval] <;> first | exact rfl | assumption); (exact w_ev); (exact c2); ((exact w_cl)); (exact w_ev); (exact w_ev); dsimp only [S.put, optG])
 (refine w_gg ?_)
 (apply Run.pureW; (exact w_ev); (exact (Enters.of Tryz.func136 rfl rfl)); (exact c3); (exact VwL.cons (Vw.optr rfl rfl (by simp [AV.cells]) (VwTb (ts := s.ts) r s.pp s.pl rfl rfl)) (VwL.cons (Vw.self (by simp [AV.ok, okL_lt])) VwL.nil)); (simp only [push_cast, seval] <;> first | trivial | assumption | (refine ⟨?_, ?_⟩ <;> assumption) | (simp; done)); (try dsimp only [putA, optG]))
 (refine w_gg ?_)
 (first | exact w_ret | refine w_retZ ?_)
theorem settled_spec (r : Rm) {n : Nat} (hn : n ≤ 100) (hau : ∀ a ∈ r.au, Av n a) (hal : r.au.length ≤ 20) {pp pl : List Int} (hpp : pp.length ≤ 100) (hpl : pl.length ≤ 100) {m : Mem} {a va b vb : Nat} (hab : a ≠ b) {ts : List Int} (hts : ts.length = n)
  (ha : m[a]? = some ⟨va, .row 11 [.agg (tbO r b vb n pp pl)]⟩) (hb : m[b]? = some ⟨vb, .row 1 (ts.map AV.int)⟩) :
  Go.Vg.Spec Tryz.prog 97 [.optr a va 0 0] m (fun x m' => ∃ ts' J, m' = m.set b ⟨vb, .row 1 (ts'.map AV.int)⟩ ++ J ∧ (match stl r.au 101 ts with
   | some ts2 => x = .tup [.agg [.osl b vb 0 n, .ints pp, .ints pl], .int 0] ∧ ts' = ts2
   | none => x = .tup [stN, .int 27])) := by
 have hal' : a < m.length := by
  rcases Nat.lt_or_ge a m.length with q | q
  ·exact q
  ·rw [List.getElem?_eq_none q] at ha; cases ha
 have hbl' : b < m.length := by
  rcases Nat.lt_or_ge b m.length with q | q
  ·exact q
  ·rw [List.getElem?_eq_none q] at hb; cases hb
 have hs := settle_spec r hn hau hal hpp hpl (m := m ++ [⟨0, .row 3 [stN]⟩]) hab hts (by rw [List.getElem?_append_left hal']; exact ha) (by rw [List.getElem?_append_left hbl']; exact hb)
 have hK : ∀ (ts' : List Int) (E : Ent), ((m ++ [(⟨0, .row 3 [stN]⟩ : Ent)]).set b ⟨vb, .row 1 (ts'.map AV.int)⟩ ++ [E]) = m.set b ⟨vb, .row 1 (ts'.map AV.int)⟩ ++ [(⟨0, .row 3 [stN]⟩ : Ent), E] := fun ts' E => by
  rw [List.set_append_left _ _ hbl', List.append_assoc]; rfl
 simp only [hK] at hs
 clear hK
 obtain ⟨K, hKd⟩ : ∃ K : List Int → Ent → Mem, ∀ ts' c, K ts' c = m.set b ⟨vb, .row 1 (ts'.map AV.int)⟩ ++ [c, ⟨0, .row 1 [.optr a va 0 0]⟩] := ⟨_, fun _ _ => rfl⟩
 have hg1 : ∀ ts' c, (K ts' c)[a]? = some ⟨va, .row 11 [.agg (tbO r b vb n pp pl)]⟩ := fun ts' c => by
  rw [hKd, List.getElem?_append_left (by rw [List.length_set]; exact hal'), List.getElem?_set_ne (fun e => hab e.symm)]; exact ha
 have hg2 : ∀ ts' c, (K ts' c)[m.length]? = some c := fun ts' c => by
  rw [hKd, List.getElem?_append_right (by rw [List.length_set]; omega), List.length_set]; simp
 have hg3 : ∀ ts' c c', (K ts' c).set m.length c' = K ts' c' := fun ts' c c' => by
  rw [hKd, hKd, List.set_append_right _ _ (by rw [List.length_set]; omega), List.length_set]; simp
 generalize hL : m.length = L at hg2 hg3
 (refine Spec.of_bodyA Tryz.func97 rfl (by rw [Tryz.ntmps97]; simp) ?_; rw [Tryz.results97, Tryz.ntmps97]; simp only [entry, zipArgs, Nat.reduceAdd])
 ((refine x_pre @hL ?_); (iterate 2 (refine x_nr @hL ?_)); (refine x_nil @hL ?_))
 repeat (first | apply Wp.seq | apply Wp.block)
 (refine x_beg @hL ?_)
 (refine x_nr @hL ?_)
 (apply Run.spec (he := (Enters.of Tryz.func118 rfl rfl)); exact rfl; (simp only [push_cast, seval, hL] <;> first | exact rfl | assumption); (exact x_ev @hL); (exact hs); (rintro x0 m0 ⟨ts', rfl, hq⟩; dsimp only [S.put, optG]))
 cases h : stl r.au 101 ts with
 | none =>
  rw [h] at hq
  simp only at hq
  subst hq
  rw [← hKd ts' ⟨0, .row 3 [stN]⟩]
  (refine x_gg (zc @hg1 (zc @hg2 @hg3)) ?_)
  (first | exact x_retA (zc @hg1 (zc @hg2 @hg3)) | refine x_retAZ (zc @hg1 (zc @hg2 @hg3)) ?_)
  exact ⟨ts', _, hKd _ _⟩
 | some t2 =>
  rw [h] at hq
  obtain ⟨hx, rfl⟩ := hq
  subst hx
  rw [← hKd ts' ⟨0, .row 3 [stN]⟩]
  (refine x_gg (zc @hg1 (zc @hg2 @hg3)) ?_)
  (first | exact x_retA (zc @hg1 (zc @hg2 @hg3)) | refine x_retAZ (zc @hg1 (zc @hg2 @hg3)) ?_)
  exact ⟨ts', _, hKd _ _, rfl⟩
end Go.Proofs.Tryz
set_option maxHeartbeats 16000000
namespace Go.Proofs.Tryz
open Go.Vg
theorem stl_len {au : List Au} : ∀ {n : Nat} {ts t2 : List Int}, stl au n ts = some t2 → t2.length = ts.length
 | 0, ts, t2, h => by cases h
 | n + 1, ts, t2, h => by
  unfold stl at h
  split at h
  ·cases h; rfl
  ·have := stl_len h
   rw [this, List.length_set]
theorem Begin_pure {r : Rm} (hz : Sz r) : Pure Tryz.prog 64 [rmA r] (bgA r) := by
 have c0 := check_pure hz
 by_cases hc : chE r = 0
 ·have hv := chE_RV hc
  have hn := hv.n
  have z2 := hz.ts
  have z3 := hz.pp
  have zau := hz.au
  have hav := hv.av hz rfl
  have c1 := lay_spec r (bg0 r) (bg0_Zs hz hv)
  rw [hc] at c0
  rw [bgA_eq hc]
  refine Spec.frz ?_
  unfold bg0 at c1 ⊢
  unfold stlA
  unfold rmA rmC stA at *
  simp only at c1 ⊢
  obtain ⟨N, hN⟩ : ∃ N : Nat, r.n = (N : Int) := ⟨r.n.toNat, by omega⟩
  have hNt : r.n.toNat = N := by omega
  rw [hNt] at c1 ⊢
  rw [hN] at c0
  have hrr : AV.int r.n = AV.int (N : Int) := by rw [hN]
  (refine Spec.of_bodyA Tryz.func64 rfl (by rw [Tryz.ntmps64]; simp) ?_; rw [Tryz.results64, Tryz.ntmps64]; simp only [entry, zipArgs, Nat.reduceAdd])
  ((refine x_pre (zc @hN @Int.toNat_natCast) ?_); (iterate 3 (refine x_nr (zc @hN @Int.toNat_natCast) ?_)); (refine x_nil (zc @hN @Int.toNat_natCast) ?_))
  (refine x_fzP (zc @hN @Int.toNat_natCast) (slq 1) ?_)
  (refine x_go (zc @hN @Int.toNat_natCast) ?_)
  (apply Run.pureP; (exact x_ev (zc @hN @Int.toNat_natCast)); (exact (Enters.of Tryz.func95 rfl rfl)); (exact c0); (exact x_al (zc @hN @Int.toNat_natCast)); (try dsimp only [putA, optG]))
  (refine x_gg (zc @hN @Int.toNat_natCast) ?_)
  refine Wp.adoptRow 3 2 (l' := [.agg [.osl 4 0 0 0, .osl 5 0 0 0, .osl 2 0 0 N]]) rfl ⟨.inr ⟨_, _, rfl, rfl, .inl (.inr ⟨rfl, 4, by simp, by simp, rfl⟩), .inl (.inr ⟨rfl, 5, by simp, by simp, rfl⟩), .inl (.inl rfl), trivial⟩, trivial⟩ ?_
  simp only [List.set_cons_succ, List.set_cons_zero, List.replicate_succ, List.replicate_zero, List.cons_append, List.nil_append]
  (refine Wp.vacs 1 ?_; (try simp only [List.replicate_succ, List.replicate_zero, List.cons_append, List.nil_append]))
  refine Wp.loop (fun (q : Nat × Nat × Kind) => { t := [(1, .ref (rmC r) 0), (2, .optr 1 0 0 0), (5, .optr 3 0 0 0), (21, .lst 4 (r.ts.map thA)), (22, .int r.ts.length), (23, .int q.1)], m := [⟨1, .row 8 []⟩, ⟨0, .row 3 [stN]⟩, ⟨0, .row 1 ((List.replicate N 0).map AV.int)⟩, ⟨0, .row 3 [.agg [.osl 4 q.1 0 q.1, .osl 5 0 0 0, .osl 2 0 0 N]]⟩, ⟨q.1, .row 1 (((r.ts.take q.1).map Th.st).map AV.int)⟩, ⟨0, .row 1 []⟩, ⟨q.2.1, q.2.2⟩], n := 56 }) (fun q => q.1 ≤ r.ts.length) (fun q => r.ts.length - q.1) (0, 0, .row 1 []) ?_ ?_ ?_
  ·(refine Le.of ?_ ?_ rfl rfl <;> (try simp only [push_cast, seval, hN, Int.toNat_natCast]) <;> (try (with_reducible rfl)))
   all_goals (first | (simp only [rmC, hN]; exact ⟨rfl, rfl⟩) | (simp only [rmC, hN]; done) | rfl)
  ·simp
  ·rintro ⟨k, v, kd⟩ hk1
   simp only at hk1
   (refine x_go (zc @hN @rmC.eq_1) ?_)
   (apply Wp.cond; (exact x_ev (zc @hN @rmC.eq_1)))
   ·(intro hc; first | replace hc := bT hc | skip)
    have hst := map_stepI Th.st th0 hc
    generalize hL : (r.ts.take k).map Th.st = L at hst
    have hLl : L.length = k := by rw [← hL, List.length_map, List.length_take]; omega
    have hLt : L.take k = L := List.take_of_length_le (by omega)
    generalize hx : r.ts.getD k th0 = x at hst
    (refine x_gs (zc @hN (zc @rmC.eq_1 (zc @hx (zc @hLl (zc @hLt @lenMp))))) ?_)
    (apply Run.alcAt 6; (exact x_ev (zc @hN (zc @rmC.eq_1 (zc @hx (zc @hLl (zc @hLt @lenMp)))))); ((try simp only [push_cast, seval, hN, rmC, hx, hLl, hLt, List.length_map]) <;> exact sT); exact rfl; (try simp only [push_cast, seval, hN, rmC, hx, hLl, hLt, List.length_map]))
    (refine x_go (zc @hN (zc @rmC.eq_1 (zc @hx (zc @hLl (zc @hLt @lenMp))))) ?_)
    refine ⟨(k + 1, v + 1, .row 4 [thA x]), ?_, by simp only; omega, by simp only; omega⟩
    simp only [hst]
    (refine Le.of ?_ ?_ rfl rfl <;> (try simp only [push_cast, seval, hN, rmC, hx, hLl, hLt, List.length_map]) <;> (try (with_reducible rfl)))
   ·(intro hc; first | replace hc := bT hc | skip)
    obtain rfl : k = r.ts.length := by omega
    rw [List.take_of_length_le (Nat.le_refl _)]
    (refine x_go (zc @hN @rmC.eq_1) ?_)
    generalize hTs : r.ts.map Th.st = Ts at *
    have hTl : Ts.length = r.ts.length := by rw [← hTs, List.length_map]
    generalize hnt : r.ts.length = nt at *
    (refine Wp.vacs 1 ?_; (try simp only [List.replicate_succ, List.replicate_zero, List.cons_append, List.nil_append]))
    refine Wp.loop (fun (q : Nat × Nat × Kind) => { t := [(1, .ref (rmC r) 0), (2, .optr 1 0 0 0), (5, .optr 3 0 0 0), (36, .lst 3 (r.pp.map ppA)), (37, .int r.pp.length), (38, .int q.1)], m := [⟨1, .row 8 []⟩, ⟨0, .row 3 [stN]⟩, ⟨0, .row 1 ((List.replicate N 0).map AV.int)⟩, ⟨0, .row 3 [.agg [.osl 4 nt 0 nt, .osl 5 q.1 0 q.1, .osl 2 0 0 N]]⟩, ⟨nt, .row 1 (Ts.map AV.int)⟩, ⟨q.1, .row 1 (((r.pp.take q.1).map Pp.pl).map AV.int)⟩, ⟨v, kd⟩, ⟨q.2.1, q.2.2⟩], n := 56 }) (fun q => q.1 ≤ r.pp.length) (fun q => r.pp.length - q.1) (0, 0, .row 1 []) ?_ ?_ ?_
    ·(refine Le.of ?_ ?_ rfl rfl <;> (try simp only [push_cast, seval, hN, rmC]) <;> (try (with_reducible rfl)))
     all_goals (first | (simp only [rmC, hN]; exact ⟨rfl, rfl⟩) | (simp only [rmC, hN]; done) | rfl)
    ·simp
    ·rintro ⟨k, v2, kd2⟩ hk2
     simp only at hk2
     (refine x_go (zc @hN @rmC.eq_1) ?_)
     (apply Wp.cond; (exact x_ev (zc @hN @rmC.eq_1)))
     ·(intro hc; first | replace hc := bT hc | skip)
      have hst := map_stepI Pp.pl pp0 hc
      generalize hL : (r.pp.take k).map Pp.pl = L at hst
      have hLl : L.length = k := by rw [← hL, List.length_map, List.length_take]; omega
      have hLt : L.take k = L := List.take_of_length_le (by omega)
      generalize hx : r.pp.getD k pp0 = x at hst
      (refine x_gs (zc @hN (zc @rmC.eq_1 (zc @hx (zc @hLl (zc @hLt (zc @lenMp (zc (fun d => getD_pp (d := d) hc) @ppA.eq_1))))))) ?_)
      (apply Run.alcAt 7; (exact x_ev (zc @hN (zc @rmC.eq_1 (zc @hx (zc @hLl (zc @hLt (zc @lenMp (zc (fun d => getD_pp (d := d) hc) @ppA.eq_1)))))))); ((try simp only [push_cast, seval, hN, rmC, hx, hLl, hLt, List.length_map, getD_pp hc, ppA]) <;> exact sT); exact rfl; (try simp only [push_cast, seval, hN, rmC, hx, hLl, hLt, List.length_map, getD_pp hc, ppA]))
      (refine x_go (zc @hN (zc @rmC.eq_1 (zc @hx (zc @hLl (zc @hLt (zc @lenMp (zc (fun d => getD_pp (d := d) hc) @ppA.eq_1))))))) ?_)
      refine ⟨(k + 1, v2 + 1, .row 3 [ppA x]), ?_, by simp only; omega, by simp only; omega⟩
      simp only [hst]
      (refine Le.of ?_ ?_ rfl rfl <;> (try simp only [push_cast, seval, hN, rmC, hx, hLl, hLt, List.length_map, getD_pp hc, ppA]) <;> (try (with_reducible rfl)))
     ·(intro hc; first | replace hc := bT hc | skip)
      obtain rfl : k = r.pp.length := by omega
      rw [List.take_of_length_le (Nat.le_refl _)]
      generalize hPs : r.pp.map Pp.pl = Ps at *
      have hPl : Ps.length = r.pp.length := by rw [← hPs, List.length_map]
      generalize r.pp.length = np at *
      (refine x_mv (zc @hN @rmC.eq_1) ?_)
      refine Wp.freezeRow 3 4 (vi := nt) (off := 0) (len := nt) (szi := 1) (li := Ts.map AV.int) (le' := [.agg [.ints Ts, .osl 5 np 0 np, .osl 2 0 0 N]]) (by decide) rfl rfl (by simp [hTl]) (by decide) ⟨.inr ⟨_, _, rfl, rfl, .inr ⟨rfl, by simp [← hTl, List.take_of_length_le]⟩, .inl rfl, .inl rfl, trivial⟩, trivial⟩ ?_
      simp only [List.set_cons_succ, List.set_cons_zero]
      refine Wp.freezeRow 3 5 (vi := np) (off := 0) (len := np) (szi := 1) (li := Ps.map AV.int) (le' := [.agg [.ints Ts, .ints Ps, .osl 2 0 0 N]]) (by decide) rfl rfl (by simp [hPl]) (by decide) ⟨.inr ⟨_, _, rfl, rfl, .inl rfl, .inr ⟨rfl, by simp [← hPl, List.take_of_length_le]⟩, .inl rfl, trivial⟩, trivial⟩ ?_
      simp only [List.set_cons_succ, List.set_cons_zero]
      refine Wp.freezeRow 3 2 (vi := 0) (off := 0) (len := N) (szi := 1) (li := (List.replicate N 0).map AV.int) (le' := [.agg [.ints Ts, .ints Ps, .ints (List.replicate N 0)]]) (by decide) rfl rfl (by simp) (by decide) ⟨.inr ⟨_, _, rfl, rfl, .inl rfl, .inl rfl, .inr ⟨rfl, by simp [List.take_of_length_le]⟩, trivial⟩, trivial⟩ ?_
      simp only [List.set_cons_succ, List.set_cons_zero]
      rw [hN] at c1
      have hab : (11 : Nat) ≠ 10 := by decide
      (refine x_go (zc @hN @rmC.eq_1) ?_)
      (apply Run.freshE (he := (Enters.of Tryz.func96 rfl rfl)); (simp only [push_cast, seval, hN, rmC] <;> first | exact rfl | assumption); (exact x_ev (zc @hN @rmC.eq_1)); (exact c1); ((exact x_cl (zc @hN @rmC.eq_1))); (exact x_ev (zc @hN @rmC.eq_1)); (exact x_ev (zc @hN @rmC.eq_1)); dsimp only [S.put, optG])
      (refine x_go (zc @hN @rmC.eq_1) ?_)
      have htb : tbO r 10 1 Ts.length Ps (List.replicate N 0) = [.strs r.ps, .lst 4 (r.ts.map thA), .lst 3 (r.pp.map ppA), .lst 3 (r.wy.map wyA), .lst 8 (r.ac.map acA), .lst 3 (r.au.map auA), .int N, .lst 3 (r.goal.map ltA), .osl 10 1 0 Ts.length, .ints Ps, .ints (List.replicate N 0)] := by
       unfold tbO; rw [hN]
      (apply Run.spec (he := (Enters.of Tryz.func97 rfl rfl)); exact rfl; (simp only [push_cast, seval, hN, rmC] <;> first | exact rfl | assumption); (exact x_ev (zc @hN @rmC.eq_1)); (exact settled_spec r (n := Ts.length) (by omega) (by rw [hTl]; exact hav) (by omega) (pp := Ps) (pl := List.replicate N 0) (by omega) (by rw [List.length_replicate]; omega) (a := 11) (va := 1) (b := 10) (vb := 1) hab rfl (by rw [htb]; rfl) rfl); (rintro x0 m0 ⟨ts', J, rfl, hq⟩; dsimp only [S.put, optG]))
      dsimp only [List.set_cons_succ, List.set_cons_zero, List.cons_append]
      cases h : stl r.au 101 Ts with
      | none =>
       rw [h] at hq
       simp only at hq
       subst hq
       (refine x_go (zc @hN @rmC.eq_1) ?_)
       (first | exact x_retA (zc @hN @rmC.eq_1) | refine x_retAZ (zc @hN @rmC.eq_1) ?_)
       exact Vw.tup (.cons (Vw.self (by simp [AV.ok, okL])) (.cons (Vw.self trivial) .nil))
      | some t2 =>
       rw [h] at hq
       obtain ⟨hq, rfl⟩ := hq
       subst hq
       have hl2 := stl_len h
       (refine x_go (zc @hN @rmC.eq_1) ?_)
       (first | exact x_retA (zc @hN @rmC.eq_1) | refine x_retAZ (zc @hN @rmC.eq_1) ?_)
       exact Vw.tup (.cons (Vw.agg (.cons (Vw.ointsR rfl hl2.symm) (.cons (Vw.self (ok_ints 0 _)) (.cons (Vw.self (ok_ints 0 _)) .nil)))) (.cons (Vw.self trivial) .nil))
 ·have he : bgA r = .tup [stN, .int (chE r)] := by
   have e : bgE r = chE r := by unfold bgE; rw [orE_no hc]
   unfold bgA
   rw [e, if_neg hc]
  rw [he]
  have he2 : decide (chE r = 0) = false := decide_eq_false hc
  unfold rmA rmC at *
  (refine Spec.bd 0 Tryz.func64 Tryz.results64 Tryz.ntmps64 ?_; simp only [entry, zipArgs, Nat.reduceAdd])
  ((refine x_pre (zc @he2 @Bool.not_false) ?_); (iterate 3 (refine x_nr (zc @he2 @Bool.not_false) ?_)); (refine x_nil (zc @he2 @Bool.not_false) ?_))
  (refine x_fzP (zc @he2 @Bool.not_false) (slq 1) ?_)
  (refine x_go (zc @he2 @Bool.not_false) ?_)
  (apply Run.pureP; (exact x_ev (zc @he2 @Bool.not_false)); (exact (Enters.of Tryz.func95 rfl rfl)); (exact c0); (exact x_al (zc @he2 @Bool.not_false)); (try dsimp only [putA, optG]))
  (refine x_gg (zc @he2 @Bool.not_false) ?_)
  (first | exact x_ret (zc @he2 @Bool.not_false) | refine x_retZ (zc @he2 @Bool.not_false) ?_)
end Go.Proofs.Tryz
namespace Go.Vg
open Go.RowKit
variable {P : Program}
theorem Spec.stepF {gds : List (Option Nat)} {t : List (Nat × AV)} {m m' : Mem} {fo : Operand} {args : List Operand} {tys : Array TypeId} {dst : Option Nat} {type : TypeId} {pos : String} {after : Array Edge} {f : FuncId} {caps vargs : List AV} {x : AV}
  (he : Enters P f) (hf : fnOf (evo t fo) = some (f, caps)) (hv : args.map (evo t) ++ caps = vargs) (hk : okL 0 vargs) (hc : Spec P f vargs [] fun x' m'' => x' = x ∧ m'' = m') :
  StepAt P gds t m ⟨dst, callOp fo args tys, type, pos, after, none⟩ (m ++ m'.map fun (e : Ent) => (⟨e.ver, e.kind.shift m.length⟩ : Ent)) (x.shift m.length) := by
 refine ⟨fun c e => (by cases e), fun X w ρ a hi hr hn => ⟨fun _ => .inr (.inr ?_), fun hw => (by simp [Region.wanted] at hw)⟩⟩
 obtain ⟨h1, h2⟩ := onames_call (fo := fo) (args := args) (tys := tys) (t := t) (a := a) (X := X) (w := w) (ρ := ρ) (fun n hn => hr n (.inr hn))
 obtain ⟨cs, hcs, hcr⟩ := fnOf_rel hf h1
 have hrun := run_call (P := P) (w := w) (o := ⟨dst, callOp fo args tys, type, pos, after, none⟩) rfl hcs he
 have hargs : Rvals X w ρ (args.map (evo t) ++ caps) (args.map a.eval ++ cs) := (Rvals_map args fun y hy => h2 y hy).append hcr
 rw [hv] at hargs
 refine ⟨f, _, hrun, ?_⟩
 refine (hc (owned X ρ) w [] _ (Inv.empty (hg := hi.gd.nil fun _ h => free_owned.2 h) fun b h => by
   rcases h with h | ⟨r, hr', hb'⟩
   ·exact hi.out b h
   ·obtain ⟨i, hi', rfl⟩ := List.getElem_of_mem hr'; exact (hi.new i _ b (List.getElem?_eq_getElem hi') hb').1)
  (Rvals.eyes (fun b h => free_owned.2 h) vargs hk _ hargs)).mono ?_
 rintro e w' ⟨v, x', m'', ρ', rfl, ⟨rfl, rfl⟩, k1, k2, k3⟩
 have hfree : ∀ b, Free (owned X ρ) ρ' b → Free X (ρ ++ ρ') b := by
  rintro b ⟨g1, g2⟩
  refine ⟨fun hx => g1 (.inl hx), fun r hr' hb => ?_⟩
  rcases List.mem_append.1 hr' with h | h
  ·exact g1 (.inr ⟨r, h, hb⟩)
  ·exact g2 r h hb
 obtain ⟨t1, t2⟩ := hi.join k3 k2 hfree
 have hx := (Rp.shift (w := w') hfree x').1 v k1
 rw [hi.len] at hx
 exact ⟨v, rfl, ρ ++ ρ', hx, t2, t1⟩
section
variable {gds : List (Option Nat)} {ops l : List Oper} {es : List Nat} {m : Mem} {Z : List Bool → Mem} {n k : Nat} {t t' : List (Nat × AV)} {o : Oper} {x : AV} {p : Prop}
theorem AbsM.pureZ (h1 : dstB n o.dst = true) (hk : es.contains k = false) (hsl : isSlc o.op = false) (h2 : stepA P gds t m o = some (x, p)) (h3 : p) (h4 : AbsM P gds ops es (fun b => m ++ Z b) n (k + 1) l (upd t o.dst x) t') : AbsM P gds ops es (fun b => m ++ Z b) n k (o :: l) t t' :=
 .cons (dstB_ok h1) (fun bits hb => by
  have hl : bits.length = es.length := allB_len (List.mem_filter.1 hb).1
  rw [setB_not hk bits hl]
  exact (stepA_yield (stepA_app (Z bits) hsl h2) h3).stepAt) h4
theorem AbsM.evtZ {b0 b1 : List Bool} (h1 : dstB n o.dst = true) (hc : (consL ops es k == [b0]) = true) (hs : setB es k b0 = b1) (h2 : StepAt P gds t (m ++ Z b0) o (m ++ Z b1) x) (h4 : AbsM P gds ops es (fun b => m ++ Z b) n (k + 1) l (upd t o.dst x) t') : AbsM P gds ops es (fun b => m ++ Z b) n k (o :: l) t t' :=
 .cons (dstB_ok h1) (fun bits hb => by
  have hc := eq_of_beq hc
  rw [hc] at hb
  have : bits = b0 := by simpa using hb
  subst this
  rw [hs]; exact h2) h4
end
def lay2 (Z0 Z1 Z2 : Mem) : List Bool → Mem
 | [true, true] => Z2
 | [true, false] => Z1
 | _ => Z0
theorem Wp.runF2 (c b : Nat) (F : Mem) (B : Ent) {r : Option Nat} {Q : Exit → S → Prop} {s : S} {id : Nat} {ops : List Oper} {gds : List (Option Nat)} {t1 : List (Nat × AV)} (hm : P.follows .mixedOrders = true) (hg : ops.map (·.dst) = gds) (hB : gds.all (dstB s.n) = true)
  (hord : ordB gds ops ops.length = true) (hes : [c, b].all (fun e => decide (e < ops.length)) = true)
  (habs : AbsM P gds ops [c, b] (fun z => s.m ++ lay2 [vacE] (vacE :: F) (B :: F) z) s.n 0 ops s.t t1) (h : Q .normal ⟨t1, s.m ++ B :: F, s.n, s.d⟩) : Wp P r (.region id ops.toArray true) Q s := by
 refine Wp.vacs 1 ?_
 exact Wp.runM [c, b] (fun z => s.m ++ lay2 [vacE] (vacE :: F) (B :: F) z) (s := { s with m := s.m ++ List.replicate 1 vacE }) hm hg hB hord hes rfl habs h
theorem AbsM.callZ {gds : List (Option Nat)} {ops l : List Oper} {m F m' : Mem} {B : Ent} {n k c b : Nat} {t t' : List (Nat × AV)} {x : AV} {fo : Operand} {args : List Operand} {tys : Array TypeId} {dst : Option Nat} {type : TypeId} {pos : String} {after : Array Edge} {f : FuncId} {caps vargs : List AV}
  (h1 : dstB n dst = true) (hc : (consL ops [c, b] k == [[false, false]]) = true) (hs : setB [c, b] k [false, false] = [true, false])
  (hf : fnOf (evo t fo) = some (f, caps)) (he : Enters P f) (hv : args.map (evo t) ++ caps = vargs) (hk : okL 0 vargs) (hsp : Spec P f vargs [] fun x' m'' => x' = x ∧ m'' = m')
  (hF : (m'.map fun (e : Ent) => (⟨e.ver, e.kind.shift (m.length + 1)⟩ : Ent)) = F)
  (h4 : AbsM P gds ops [c, b] (fun z => m ++ lay2 [vacE] (vacE :: F) (B :: F) z) n (k + 1) l (upd t dst (x.shift (m.length + 1))) t') : AbsM P gds ops [c, b] (fun z => m ++ lay2 [vacE] (vacE :: F) (B :: F) z) n k (⟨dst, callOp fo args tys, type, pos, after, none⟩ :: l) t t' :=
 .evtZ h1 hc hs (by
  have h := Spec.stepF (P := P) (gds := gds) (t := t) (m := m ++ [vacE]) (dst := dst) (tys := tys) (type := type) (pos := pos) (after := after) he hf hv hk hsp
  rw [List.length_append, List.length_singleton, hF, List.append_assoc] at h
  exact h) h4
theorem AbsM.boxZ {gds : List (Option Nat)} {ops l : List Oper} {m F : Mem} {n k c b sz : Nat} {row : List AV} {q : Option Nat} {t t' : List (Nat × AV)} {p : Prop} {dst : Option Nat} {op : Op} {type : TypeId} {pos : String} {after : Array Edge}
  (h1 : dstB n dst = true) (hc : (consL ops [c, b] k == [[true, false]]) = true) (hs : setB [c, b] k [true, false] = [true, true])
  (h2 : alcA P (evo t) op = some (sz, row, q, p)) (hp : p)
  (h4 : AbsM P gds ops [c, b] (fun z => m ++ lay2 [vacE] (vacE :: F) ((⟨1, .row sz row⟩ : Ent) :: F) z) n (k + 1) l (upd t dst (alcV m.length 1 q)) t') : AbsM P gds ops [c, b] (fun z => m ++ lay2 [vacE] (vacE :: F) ((⟨1, .row sz row⟩ : Ent) :: F) z) n k (⟨dst, op, type, pos, after, none⟩ :: l) t t' :=
 .evtZ h1 hc hs (by
  have h := alcA_step (P := P) (gds := gds) (t := t) (m := m ++ vacE :: F) (dst := dst) (type := type) (pos := pos) (after := after) h2 hp (id := m.length) (ver := 0) (k0 := .row 1 []) (by simp [vacE])
  rw [List.set_append_right _ _ (Nat.le_refl _), Nat.sub_self] at h
  exact h) h4
end Go.Vg
set_option maxHeartbeats 16000000
namespace Go.Proofs.Tryz
open Go.Vg
abbrev kC (r : Rm) (f s : St) (a : Int) : List AV := [.strs r.ps, .lst 4 (r.ts.map thA), .lst 3 (r.pp.map ppA), .lst 3 (r.wy.map wyA), .lst 8 (r.ac.map acA), .lst 3 (r.au.map auA), .int r.n, .lst 3 (r.goal.map ltA), .ints f.ts, .ints f.pp, .ints f.pl, .ints s.ts, .ints s.pp, .ints s.pl, .int a]
abbrev kO (r : Rm) (f : St) (x y z a : AV) : List AV := [.strs r.ps, .lst 4 (r.ts.map thA), .lst 3 (r.pp.map ppA), .lst 3 (r.wy.map wyA), .lst 8 (r.ac.map acA), .lst 3 (r.au.map auA), .int r.n, .lst 3 (r.goal.map ltA), .ints f.ts, .ints f.pp, .ints f.pl, x, y, z, a]
theorem copied_spec (s : St) (hs : Zs s) : Go.Vg.Spec Tryz.prog 53 [stA s] [] (fun x m' => x = .agg [.osl 2 1 0 s.ts.length, .osl 3 1 0 s.pp.length, .osl 4 1 0 s.pl.length] ∧ m' = cpM s) := by
 have y1 := hs.ts
 have y2 := hs.pp
 have y3 := hs.pl
 unfold stA
 (refine Spec.of_bodyA Tryz.func53 rfl (by rw [Tryz.ntmps53]; simp) ?_; rw [Tryz.results53, Tryz.ntmps53]; simp only [entry, zipArgs, Nat.reduceAdd])
 ((refine w_pre ?_); (iterate 2 (refine w_nr ?_)); (refine w_nil ?_))
 (refine w_fzP (slq 1) ?_)
 repeat (first | apply Wp.seq | apply Wp.block)
 (apply Wp.runGE 3 10 mixed; (dsimp only [List.map] <;> exact rfl); exact rfl; kernel_rfl; (dsimp only [List.take] <;> exact rfl); (dsimp only [List.drop] <;> exact rfl); kernel_rfl; ((try dsimp only [List.replicate]); ((refine w_gp1 ?_); (refine w_gp1 ?_); (apply AbsG.fresh 0; exact rfl; (exact w_ev); (exact (Enters.of Tryz.func91 rfl rfl)); (exact clone_spec s.ts (by omega)); (exact VwL.cons (Vw.self (ok_ints 0 _)) VwL.nil); (simp only [push_cast, seval] <;> first | trivial | (simp; done)); exact rfl; dsimp only [upd, List.set, List.length_cons, List.length_nil, Nat.reduceAdd]); (refine w_gp1 ?_); (refine w_gp1 ?_); (apply AbsG.fresh 1; exact rfl; (exact w_ev); (exact (Enters.of Tryz.func91 rfl rfl)); (exact clone_spec s.pp (by omega)); (exact VwL.cons (Vw.self (ok_ints 0 _)) VwL.nil); (simp only [push_cast, seval] <;> first | trivial | (simp; done)); exact rfl; dsimp only [upd, List.set, List.length_cons, List.length_nil, Nat.reduceAdd]); (refine w_gp1 ?_); (refine w_gp1 ?_); (apply AbsG.fresh 2; exact rfl; (exact w_ev); (exact (Enters.of Tryz.func91 rfl rfl)); (exact clone_spec s.pl (by omega)); (exact VwL.cons (Vw.self (ok_ints 0 _)) VwL.nil); (simp only [push_cast, seval] <;> first | trivial | (simp; done)); exact rfl; dsimp only [upd, List.set, List.length_cons, List.length_nil, Nat.reduceAdd]); (refine w_gp ?_)); exact AbsG.nil); kernel_rfl; exact rfl; ((try dsimp only [List.cons_append, List.nil_append]); (exact w_ev)); ((try simp only [push_cast, seval]) <;> exact sT); dsimp only [upd])
 (refine w_go ?_)
 (first | exact w_retA | refine w_retAZ ?_)
def begE (r : Rm) (s : St) : Int := orE (bgE r) (csE r s)
theorem begE_zero {r : Rm} {s : St} (h : begE r s = 0) : bgE r = 0 ∧ csE r s = 0 := orE_zero h
abbrev begM (r : Rm) (s : St) : Mem := [⟨1, .row 8 []⟩, ⟨1, .row 3 []⟩, ⟨0, .row 3 [stA (bgS r)]⟩, ⟨1, .row 15 [.agg (kO r (bgS r) (.osl 6 1 0 s.ts.length) (.osl 7 1 0 s.pp.length) (.osl 8 1 0 s.pl.length) (.int 0))]⟩,
 ⟨1, .row 3 []⟩, ⟨0, .row 3 [.agg [.osl 6 1 0 s.ts.length, .osl 7 1 0 s.pp.length, .osl 8 1 0 s.pl.length]]⟩, ⟨1, .row 1 (s.ts.map AV.int)⟩, ⟨1, .row 1 (s.pp.map AV.int)⟩, ⟨1, .row 1 (s.pl.map AV.int)⟩]
theorem begin_spec {r : Rm} (hz : Sz r) {s : St} (hs : Zs s) (h : begE r s = 0) : Go.Vg.Spec Tryz.prog 46 [rmA r, stA s] [] (fun x m' => x = .tup [.optr 3 1 0 0, .int 0] ∧ m' = begM r s) := by
 obtain ⟨h1, h2⟩ := begE_zero h
 have c0 := Begin_pure hz
 have c1 := checkState_pure hz hs
 have c2 := copied_spec s hs
 unfold bgA at c0
 rw [h1, if_pos rfl] at c0
 rw [h2] at c1
 generalize hf : bgS r = f at *
 have hF : ((cpM s).map fun (e : Ent) => (⟨e.ver, e.kind.shift (3 + 1)⟩ : Ent)) = [⟨1, .row 3 []⟩, ⟨0, .row 3 [.agg [.osl 6 1 0 s.ts.length, .osl 7 1 0 s.pp.length, .osl 8 1 0 s.pl.length]]⟩, ⟨1, .row 1 (s.ts.map AV.int)⟩, ⟨1, .row 1 (s.pp.map AV.int)⟩, ⟨1, .row 1 (s.pl.map AV.int)⟩] := by
  simp only [List.map_cons, List.map_nil, Kind.shift, shiftL, AV.shift, shiftL_int, Nat.reduceAdd]
 unfold rmA rmC stA at *
 (refine Spec.of_bodyA Tryz.func46 rfl (by rw [Tryz.ntmps46]; simp) ?_; rw [Tryz.results46, Tryz.ntmps46]; simp only [entry, zipArgs, Nat.reduceAdd])
 ((refine w_pre ?_); (iterate 4 (refine w_nr ?_)); (refine w_nil ?_))
 (refine w_fzP (slq 2) ?_)
 (refine w_fzP (slq 3) ?_)
 (refine w_go ?_)
 (apply Run.pureFP; (exact w_ev); (exact (Enters.of Tryz.func64 rfl rfl)); (exact c0); (exact w_al); (try dsimp only [putA, optG]))
 (refine w_gg ?_)
 (apply Run.pureP; (exact w_ev); (exact (Enters.of Tryz.func87 rfl rfl)); (exact c1); (exact w_al); (try dsimp only [putA, optG]))
 (refine w_gg ?_)
 (apply Wp.runF2 3 5 [⟨1, .row 3 []⟩, ⟨0, .row 3 [.agg [.osl 6 1 0 s.ts.length, .osl 7 1 0 s.pp.length, .osl 8 1 0 s.pl.length]]⟩, ⟨1, .row 1 (s.ts.map AV.int)⟩, ⟨1, .row 1 (s.pp.map AV.int)⟩, ⟨1, .row 1 (s.pl.map AV.int)⟩] _ mixed; (dsimp only [List.map] <;> exact rfl); exact rfl; kernel_rfl; exact rfl; (((refine w_fz1 ?_); (refine w_fz1 ?_); (refine w_fz1 ?_); (apply AbsM.callZ; exact rfl; kernel_rfl; exact rfl; (exact w_ev); (exact (Enters.of Tryz.func53 rfl rfl)); (simp only [push_cast, seval] <;> first | exact rfl | assumption); (focus (simp only [push_cast, seval] <;> first | trivial | assumption | (simp; done))); (exact c2); (first | exact hF | (simp only [List.length_cons, List.length_nil, Nat.reduceAdd]; exact hF)); dsimp only [upd, AV.shift, shiftL, List.length_cons, List.length_nil, Nat.reduceAdd]); (refine w_fz1 ?_); (refine w_fzb ?_); (refine w_fz1 ?_); (refine w_fz1 ?_)); exact AbsM.nil); (try dsimp only [List.cons_append, List.nil_append]))
 (refine w_go ?_)
 (first | exact w_retA | refine w_retAZ ?_)
 subst hf; rfl
theorem begin_pure {r : Rm} (hz : Sz r) {s : St} (hs : Zs s) (h : begE r s = 0) : Pure Tryz.prog 46 [rmA r, stA s] (.tup [.ref (kC r (bgS r) s 0) 0, .int 0]) := by
 refine Spec.frz ((begin_spec hz hs h).mono ?_)
 rintro _ _ ⟨rfl, rfl⟩
 refine Vw.tup (.cons (Vw.optr rfl rfl (by simp [AV.cells]) ?_) (.cons (Vw.self trivial) .nil))
 have h1 : VwL (begM r s) [.strs r.ps, .lst 4 (r.ts.map thA), .lst 3 (r.pp.map ppA), .lst 3 (r.wy.map wyA), .lst 8 (r.ac.map acA), .lst 3 (r.au.map auA), .int r.n, .lst 3 (r.goal.map ltA), .ints (bgS r).ts, .ints (bgS r).pp, .ints (bgS r).pl] [.strs r.ps, .lst 4 (r.ts.map thA), .lst 3 (r.pp.map ppA), .lst 3 (r.wy.map wyA), .lst 8 (r.ac.map acA), .lst 3 (r.au.map auA), .int r.n, .lst 3 (r.goal.map ltA), .ints (bgS r).ts, .ints (bgS r).pp, .ints (bgS r).pl] :=
  VwL.okAll (by simp [okL, AV.ok, okL_str, okL_th, okL_pp, okL_wy, okL_ac, okL_au, okL_lt, okL_mapInt])
 exact VwL.app h1 (.cons (Vw.ointsR rfl rfl) (.cons (Vw.ointsR rfl rfl) (.cons (Vw.ointsR rfl rfl) (.cons (Vw.self trivial) .nil))))
theorem begin_err {r : Rm} (hz : Sz r) {s : St} (hs : Zs s) (h : begE r s ≠ 0) : Pure Tryz.prog 46 [rmA r, stA s] (.tup [.val (.pointer none), .int (begE r s)]) := by
 have c0 := Begin_pure hz
 have c1 := checkState_pure hz hs
 unfold bgA at c0
 by_cases h1 : bgE r = 0
 ·rw [h1, if_pos rfl] at c0
  have he : begE r s = csE r s := orE_ok h1
  rw [he] at h ⊢
  have e2 : decide (csE r s = 0) = false := decide_eq_false h
  generalize csE r s = e at *
  generalize bgS r = f at *
  unfold rmA rmC stA at *
  (refine Spec.bd 0 Tryz.func46 Tryz.results46 Tryz.ntmps46 ?_; simp only [entry, zipArgs, Nat.reduceAdd])
  ((refine x_pre (zc @e2 @Bool.not_false) ?_); (iterate 4 (refine x_nr (zc @e2 @Bool.not_false) ?_)); (refine x_nil (zc @e2 @Bool.not_false) ?_))
  (refine x_fzP (zc @e2 @Bool.not_false) (slq 2) ?_)
  (refine x_fzP (zc @e2 @Bool.not_false) (slq 3) ?_)
  (refine x_go (zc @e2 @Bool.not_false) ?_)
  (apply Run.pureFP; (exact x_ev (zc @e2 @Bool.not_false)); (exact (Enters.of Tryz.func64 rfl rfl)); (exact c0); (exact x_al (zc @e2 @Bool.not_false)); (try dsimp only [putA, optG]))
  (refine x_gg (zc @e2 @Bool.not_false) ?_)
  (apply Run.pureP; (exact x_ev (zc @e2 @Bool.not_false)); (exact (Enters.of Tryz.func87 rfl rfl)); (exact c1); (exact x_al (zc @e2 @Bool.not_false)); (try dsimp only [putA, optG]))
  (refine x_gg (zc @e2 @Bool.not_false) ?_)
  (first | exact x_ret (zc @e2 @Bool.not_false) | refine x_retZ (zc @e2 @Bool.not_false) ?_)
 ·rw [if_neg h1] at c0
  have he : begE r s = bgE r := orE_no h1
  rw [he] at h ⊢
  have e2 : decide (bgE r = 0) = false := decide_eq_false h
  generalize bgE r = e at *
  unfold rmA rmC stA at *
  (refine Spec.bd 0 Tryz.func46 Tryz.results46 Tryz.ntmps46 ?_; simp only [entry, zipArgs, Nat.reduceAdd])
  ((refine x_pre (zc @e2 @Bool.not_false) ?_); (iterate 4 (refine x_nr (zc @e2 @Bool.not_false) ?_)); (refine x_nil (zc @e2 @Bool.not_false) ?_))
  (refine x_fzP (zc @e2 @Bool.not_false) (slq 2) ?_)
  (refine x_fzP (zc @e2 @Bool.not_false) (slq 3) ?_)
  (refine x_go (zc @e2 @Bool.not_false) ?_)
  (apply Run.pureFP; (exact x_ev (zc @e2 @Bool.not_false)); (exact (Enters.of Tryz.func64 rfl rfl)); (exact c0); (exact x_al (zc @e2 @Bool.not_false)); (try dsimp only [putA, optG]))
  (refine x_gg (zc @e2 @Bool.not_false) ?_)
  (first | exact x_ret (zc @e2 @Bool.not_false) | refine x_retZ (zc @e2 @Bool.not_false) ?_)
end Go.Proofs.Tryz
set_option maxHeartbeats 16000000
namespace Go.Proofs.Tryz
open Go.Vg
theorem lists_eq {a b : List Int} (h : a.length = b.length) (k : ∀ j, j < a.length → a.getD j 0 = b.getD j 0) : a = b := by
 apply List.ext_getElem h
 intro j h3 h4
 have := k j h3
 simpa [h3, h4] using this
theorem equal_pure (a b : List Int) (hl : a.length ≤ 1000) : Pure Tryz.prog 73 [.ints a, .ints b] (.bool (decide (a = b))) := by
 (refine Spec.bd 0 Tryz.func73 Tryz.results73 Tryz.ntmps73 ?_; simp only [entry, zipArgs, Nat.reduceAdd])
 (refine w_go ?_)
 (apply Wp.cond; (exact w_ev))
 ·intro hc
  have hc : ¬ a.length = b.length := by simp at hc; omega
  (refine w_go ?_)
  (first | exact w_ret | refine w_retZ ?_)
  rw [decide_eq_false]
  intro h
  rw [h] at hc
  exact hc rfl
 ·intro hc
  have hc : a.length = b.length := by simp at hc; omega
  (refine w_go ?_)
  refine Wp.loop (fun k : Nat => { t := [(0, .ints a), (1, .ints b), (12, .int a.length), (13, .int k)], m := [], n := 26 }) (fun k => k ≤ a.length ∧ ∀ j, j < k → a.getD j 0 = b.getD j 0) (fun k => a.length - k) 0 ?_ ?_ ?_
  ·(refine Le.of ?_ ?_ rfl rfl <;> (try simp only [push_cast, seval]) <;> (try (with_reducible rfl)))
  ·simp
  ·rintro k ⟨hk1, hk2⟩
   (refine w_go ?_)
   (apply Wp.cond; (exact w_ev))
   ·intro hk
    have hk : k < a.length := by simp only [decide_eq_true_eq] at hk; omega
    generalize hx : a.getD k 0 = x
    generalize hy : b.getD k 0 = y
    (refine x_go (zc @hx @hy) ?_)
    (refine Wp.rnD 9 ?_; apply exAb; (((refine x_abn (zc @hx @hy) ?_)); exact Abn.nil))
    (refine x_go (zc @hx @hy) ?_)
    (apply Wp.cond; (exact x_ev (zc @hx @hy)))
    ·intro h2
     (refine x_go (zc @hx @hy) ?_)
     (first | exact x_ret (zc @hx @hy) | refine x_retZ (zc @hx @hy) ?_)
     rw [decide_eq_false]
     intro h
     rw [h, hy] at hx
     rw [hx] at h2
     simp at h2
    ·intro h2
     (refine x_go (zc @hx @hy) ?_)
     refine ⟨k + 1, ?_, ⟨by omega, fun j hj => ?_⟩, by omega⟩
     ·(refine Le.of ?_ ?_ rfl rfl <;> (try simp only [push_cast, seval, hx, hy]) <;> (try (with_reducible rfl)))
     ·by_cases hjk : j = k
      ·subst hjk; rw [hx, hy]; simpa using h2
      ·exact hk2 j (by omega)
   ·intro hk
    obtain rfl : k = a.length := by simp only [decide_eq_false_iff_not] at hk; omega
    (refine w_go ?_)
    (first | exact w_ret | refine w_retZ ?_)
    rw [decide_eq_true (lists_eq hc hk2)]
theorem sameInts_pure (a b : List Int) (hl : a.length ≤ 1000) : Pure Tryz.prog 25 [.ints a, .ints b] (.bool (decide (a = b))) := by
 (refine Spec.bd 0 Tryz.func25 Tryz.results25 Tryz.ntmps25 ?_; simp only [entry, zipArgs, Nat.reduceAdd])
 (refine w_go ?_)
 (apply Wp.cond; (exact w_ev))
 ·intro hc
  have hc : ¬ a.length = b.length := by simp at hc; omega
  (refine w_go ?_)
  (first | exact w_ret | refine w_retZ ?_)
  rw [decide_eq_false]
  intro h
  rw [h] at hc
  exact hc rfl
 ·intro hc
  have hc : a.length = b.length := by simp at hc; omega
  (refine w_go ?_)
  refine Wp.loop (fun k : Nat => { t := [(0, .ints a), (1, .ints b), (5, .int k)], m := [], n := 26 }) (fun k => k ≤ a.length ∧ ∀ j, j < k → a.getD j 0 = b.getD j 0) (fun k => a.length - k) 0 ?_ ?_ ?_
  ·(refine Le.of ?_ ?_ rfl rfl <;> (try simp only [push_cast, seval]) <;> (try (with_reducible rfl)))
  ·simp
  ·rintro k ⟨hk1, hk2⟩
   (refine w_go ?_)
   (apply Wp.cond; (exact w_ev))
   ·intro hk
    have hk : k < a.length := by simp only [decide_eq_true_eq] at hk; omega
    generalize hx : a.getD k 0 = x
    generalize hy : b.getD k 0 = y
    (refine x_go (zc @hx @hy) ?_)
    (refine Wp.rnD 9 ?_; apply exAb; (((refine x_abn (zc @hx @hy) ?_)); exact Abn.nil))
    (refine x_go (zc @hx @hy) ?_)
    (apply Wp.cond; (exact x_ev (zc @hx @hy)))
    ·intro h2
     (refine x_go (zc @hx @hy) ?_)
     (first | exact x_ret (zc @hx @hy) | refine x_retZ (zc @hx @hy) ?_)
     rw [decide_eq_false]
     intro h
     rw [h, hy] at hx
     rw [hx] at h2
     simp at h2
    ·intro h2
     (refine x_go (zc @hx @hy) ?_)
     refine ⟨k + 1, ?_, ⟨by omega, fun j hj => ?_⟩, by omega⟩
     ·(refine Le.of ?_ ?_ rfl rfl <;> (try simp only [push_cast, seval, hx, hy]) <;> (try (with_reducible rfl)))
     ·by_cases hjk : j = k
      ·subst hjk; rw [hx, hy]; simpa using h2
      ·exact hk2 j (by omega)
   ·intro hk
    obtain rfl : k = a.length := by simp only [decide_eq_false_iff_not] at hk; omega
    (refine w_go ?_)
    (first | exact w_ret | refine w_retZ ?_)
    rw [decide_eq_true (lists_eq hc hk2)]
def rsB (f s : St) : Bool := decide (s.ts = f.ts) && decide (s.pp = f.pp)
theorem reset_pure (r : Rm) (f s : St) (hs : Zs s) (a : Int) : Pure Tryz.prog 51 [.ref (kC r f s a) 0] (.bool (rsB f s)) := by
 have h1 := equal_pure s.ts f.ts (by have := hs.ts; omega)
 have h2 := equal_pure s.pp f.pp (by have := hs.pp; omega)
 unfold rsB
 (refine Spec.bd 0 Tryz.func51 Tryz.results51 Tryz.ntmps51 ?_; simp only [entry, zipArgs, Nat.reduceAdd])
 (refine w_go ?_)
 (refine Wp.rnD 25 ?_; apply exAb; (((refine w_abn ?_); (apply Abn.pureP; (exact w_ev); (exact (Enters.of Tryz.func73 rfl rfl)); (exact h1); (exact w_al); (try dsimp only [putA, optG])); (refine w_abn ?_); (apply Abn.pureP; (exact w_ev); (exact (Enters.of Tryz.func73 rfl rfl)); (exact h2); (exact w_al); (try dsimp only [putA, optG])); (refine w_abn ?_)); exact Abn.nil))
 (refine w_go ?_)
 (first | exact w_ret | refine w_retZ ?_)
theorem kholds_pure {r : Rm} (hz : Sz r) (f : St) {s : St} (hs : Zs s) (hc : csE r s = 0) (a : Int) (c : List Lt) (hcl : c.length ≤ 20) (hcd : cdB r.ts c = true) : Pure Tryz.prog 90 [.ref (kC r f s a) 0, cdA c] (.bool (hdB s.ts c)) := by
 have h1 := Holds_pure hz hs hc c hcl hcd
 unfold rmA rmC stA at h1
 (refine Spec.bd 0 Tryz.func90 Tryz.results90 Tryz.ntmps90 ?_; simp only [entry, zipArgs, Nat.reduceAdd])
 (refine w_go ?_)
 (refine Wp.rnD 15 ?_; apply exAb; (((refine w_abn ?_); (apply Abn.pureP; (exact w_ev); (exact (Enters.of Tryz.func108 rfl rfl)); (exact h1); (exact w_al); (try dsimp only [putA, optG])); (refine w_abn ?_)); exact Abn.nil))
 (refine w_go ?_)
 (first | exact w_ret | refine w_retZ ?_)
def unN (a b : List Int) (k : Nat) : List Int := ((List.range k).filter fun i : Nat => !decide (a.getD i 0 = b.getD i 0)).map fun i : Nat => (i : Int)
theorem unN_succ (a b : List Int) (k : Nat) : unN a b (k + 1) = if a.getD k 0 = b.getD k 0 then unN a b k else unN a b k ++ [(k : Int)] := by
 unfold unN
 rw [List.range_succ, List.filter_append, List.map_append]
 split
 ·rename_i h
  rw [show List.filter (fun i : Nat => !decide (a.getD i 0 = b.getD i 0)) [k] = [] from by rw [List.filter_cons_of_neg (by rw [decide_eq_true h]; decide)]; rfl]
  simp
 ·rename_i h
  rw [show List.filter (fun i : Nat => !decide (a.getD i 0 = b.getD i 0)) [k] = [k] from by rw [List.filter_cons_of_pos (by rw [decide_eq_false h]; rfl)]; rfl]
  rfl
theorem unN_len (a b : List Int) (k : Nat) : (unN a b k).length ≤ k := by
 unfold unN
 rw [List.length_map]
 exact Nat.le_trans (List.length_filter_le _ _) (by simp)
def unL (a b : List Int) : List Int := unN a b a.length
theorem unlike_pure (a b : List Int) (hl : a.length ≤ 1000) (hab : a.length = b.length) : Pure Tryz.prog 65 [.ints a, .ints b] (.ints (unL a b)) := by
 unfold unL
 (refine Spec.bd 0 Tryz.func65 Tryz.results65 Tryz.ntmps65 ?_; simp only [entry, zipArgs, Nat.reduceAdd])
 (refine w_go ?_)
 apply Wp.adopt 4 1; (exact w_ev)
 refine Wp.loop (fun k : Nat => { t := [(0, .ints a), (1, .ints b), (4, .osl 0 (unN a b k).length 0 (unN a b k).length), (7, .int a.length), (8, .int k)], m := [⟨(unN a b k).length, .row 1 ((unN a b k).map AV.int)⟩], n := 26 }) (fun k => k ≤ a.length) (fun k => a.length - k) 0 ?_ ?_ ?_
 ·(refine Le.of ?_ ?_ rfl rfl <;> (try simp only [push_cast, seval]) <;> (try (with_reducible rfl)))
  all_goals (first | exact ⟨rfl, rfl⟩ | rfl)
 ·simp
 ·intro k hk1
  (refine w_go ?_)
  (apply Wp.cond; (exact w_ev))
  ·intro hk
   have hk : k < a.length := by simp only [decide_eq_true_eq] at hk; omega
   have hst := unN_succ a b k
   have hul := unN_len a b k
   generalize unN a b k = U at hst hul
   generalize hx : a.getD k 0 = x at hst
   generalize hy : b.getD k 0 = y at hst
   have hU : U.take U.length = U := List.take_length
   (refine x_go (zc @hx (zc @hy (zc @lenMp @hU))) ?_)
   (refine Wp.rnD 9 ?_; apply exAb; (((refine x_abn (zc @hx (zc @hy (zc @lenMp @hU))) ?_)); exact Abn.nil))
   (refine x_go (zc @hx (zc @hy (zc @lenMp @hU))) ?_)
   (apply Wp.cond; (exact x_ev (zc @hx (zc @hy (zc @lenMp @hU)))))
   ·intro h2
    have h2 : ¬ x = y := by simpa using h2
    rw [if_neg h2] at hst
    (refine x_go (zc @hx (zc @hy (zc @lenMp @hU))) ?_)
    refine ⟨k + 1, ?_, by omega, by omega⟩
    simp only [hst, List.length_append, List.length_singleton]
    (refine Le.of ?_ ?_ rfl rfl <;> (try simp only [push_cast, seval, hx, hy, List.length_map, hU]) <;> (try (with_reducible rfl)))
   ·intro h2
    have h2 : x = y := by simpa using h2
    rw [if_pos h2] at hst
    (refine x_go (zc @hx (zc @hy (zc @lenMp @hU))) ?_)
    refine ⟨k + 1, ?_, by omega, by omega⟩
    simp only [hst]
    (refine Le.of ?_ ?_ rfl rfl <;> (try simp only [push_cast, seval, hx, hy, List.length_map, hU]) <;> (try (with_reducible rfl)))
  ·intro hk
   obtain rfl : k = a.length := by simp only [decide_eq_false_iff_not] at hk; omega
   (refine w_mv ?_)
   (apply Wp.freeze 4; (exact w_ev); (exact w_ev); (focus (try simp only [push_cast, seval]); (try (exact sT))); (focus (exact sT)))
   (refine w_go ?_)
   (first | exact w_ret | refine w_retZ ?_)
theorem differ_pure (a b : List Int) (hl : a.length ≤ 1000) (hab : a.length = b.length) : Pure Tryz.prog 66 [.ints a, .ints b] (.ints (unL a b)) := by
 unfold unL
 (refine Spec.bd 0 Tryz.func66 Tryz.results66 Tryz.ntmps66 ?_; simp only [entry, zipArgs, Nat.reduceAdd])
 (refine w_go ?_)
 apply Wp.adopt 5 1; (exact w_ev)
 refine Wp.loop (fun k : Nat => { t := [(0, .ints a), (1, .ints b), (5, .osl 0 (unN a b k).length 0 (unN a b k).length), (6, .int k)], m := [⟨(unN a b k).length, .row 1 ((unN a b k).map AV.int)⟩], n := 27 }) (fun k => k ≤ a.length) (fun k => a.length - k) 0 ?_ ?_ ?_
 ·(refine Le.of ?_ ?_ rfl rfl <;> (try simp only [push_cast, seval]) <;> (try (with_reducible rfl)))
  all_goals (first | exact ⟨rfl, rfl⟩ | rfl)
 ·simp
 ·intro k hk1
  (refine w_go ?_)
  (apply Wp.cond; (exact w_ev))
  ·intro hk
   have hk : k < a.length := by simp only [decide_eq_true_eq] at hk; omega
   have hst := unN_succ a b k
   have hul := unN_len a b k
   generalize unN a b k = U at hst hul
   generalize hx : a.getD k 0 = x at hst
   generalize hy : b.getD k 0 = y at hst
   have hU : U.take U.length = U := List.take_length
   (refine x_go (zc @hx (zc @hy (zc @lenMp @hU))) ?_)
   (refine Wp.rnD 9 ?_; apply exAb; (((refine x_abn (zc @hx (zc @hy (zc @lenMp @hU))) ?_)); exact Abn.nil))
   (refine x_go (zc @hx (zc @hy (zc @lenMp @hU))) ?_)
   (apply Wp.cond; (exact x_ev (zc @hx (zc @hy (zc @lenMp @hU)))))
   ·intro h2
    have h2 : ¬ x = y := by simpa using h2
    rw [if_neg h2] at hst
    (refine x_go (zc @hx (zc @hy (zc @lenMp @hU))) ?_)
    refine ⟨k + 1, ?_, by omega, by omega⟩
    simp only [hst, List.length_append, List.length_singleton]
    (refine Le.of ?_ ?_ rfl rfl <;> (try simp only [push_cast, seval, hx, hy, List.length_map, hU]) <;> (try (with_reducible rfl)))
   ·intro h2
    have h2 : x = y := by simpa using h2
    rw [if_pos h2] at hst
    (refine x_go (zc @hx (zc @hy (zc @lenMp @hU))) ?_)
    refine ⟨k + 1, ?_, by omega, by omega⟩
    simp only [hst]
    (refine Le.of ?_ ?_ rfl rfl <;> (try simp only [push_cast, seval, hx, hy, List.length_map, hU]) <;> (try (with_reducible rfl)))
  ·intro hk
   obtain rfl : k = a.length := by simp only [decide_eq_false_iff_not] at hk; omega
   (refine w_mv ?_)
   (apply Wp.freeze 5; (exact w_ev); (exact w_ev); (focus (try simp only [push_cast, seval]); (try (exact sT))); (focus (exact sT)))
   (refine w_go ?_)
   (first | exact w_ret | refine w_retZ ?_)
end Go.Proofs.Tryz
set_option maxHeartbeats 16000000
namespace Go.Proofs.Tryz
open Go.Vg
def tsVB (ts : List Th) (l : List Int) : Prop := ∀ i, i < l.length → 0 ≤ l.getD i 0 ∧ l.getD i 0 ≤ (ts.getD i th0).ss - 1
theorem stl_val {ts : List Th} {au : List Au} (ha : ∀ a ∈ au, stB ts a.th a.st = true) : ∀ {n : Nat} {l l2 : List Int}, stl au n l = some l2 → tsVB ts l → tsVB ts l2
 | 0, l, l2, h, _ => by cases h
 | n + 1, l, l2, h, hv => by
  unfold stl at h
  split at h
  ·cases h; exact hv
  ·rename_i a hf
   refine stl_val ha h ?_
   have h1 := ha a (List.mem_of_find?_eq_some hf)
   unfold stB at h1
   simp only [Bool.and_eq_true, wi_iff] at h1
   intro i hi
   rw [List.length_set] at hi
   by_cases e : a.th.toNat = i
   ·subst e
    have : (l.set a.th.toNat a.st).getD a.th.toNat 0 = a.st := by simp [hi]
    rw [this]; exact h1.2
   ·have : (l.set a.th.toNat a.st).getD i 0 = l.getD i 0 := by
     simp [List.getD_eq_getElem?_getD, List.getElem?_set_ne e]
    rw [this]; exact hv i hi
theorem bg_ok {r : Rm} (h : bgE r = 0) : chE r = 0 ∧ stl r.au 101 (r.ts.map Th.st) = some (bgS r).ts := by
 obtain ⟨h1, h2⟩ := orE_zero h
 refine ⟨h1, ?_⟩
 unfold bgS
 cases hs : stl r.au 101 (r.ts.map Th.st) with
 | none => rw [hs] at h2; cases h2
 | some t => rfl
theorem bg_SV {r : Rm} (h : bgE r = 0) : SV r (bgS r) := by
 obtain ⟨h1, h2⟩ := bg_ok h
 have hv := chE_RV h1
 have h0 := (cs_zero (bg0_cs h1)).2.1
 have hl := stl_len h2
 rw [List.length_map] at hl
 refine ⟨hl, h0.pp, h0.pl, ?_, h0.ppv, h0.plv⟩
 exact stl_val (fun a ha => (hv.auv a ha).1) h2 h0.tsv
theorem SV.zs {r : Rm} {s : St} (hz : Sz r) (hv : RV r) (h : SV r s) : Zs s := by
 have h1 := h.ts
 have h2 := h.pp
 have h3 := h.pl
 have z1 := hz.ts
 have z2 := hz.pp
 have z3 := hv.n
 exact ⟨by omega, by omega, by omega⟩
theorem rfirst_pure {r : Rm} (hz : Sz r) : Pure Tryz.prog 59 [rmA r] (bgA r) := by
 have c0 := rBegin_pure hz
 unfold bgA at *
 split at c0
 ·rename_i h1
  rw [if_pos h1]
  unfold rmA rmC at *
  try unfold stA at *
  (refine Spec.bd 0 Tryz.func59 Tryz.results59 Tryz.ntmps59 ?_; simp only [entry, zipArgs, Nat.reduceAdd])
  ((refine w_pre ?_); (iterate 3 (refine w_nr ?_)); (refine w_nil ?_))
  (refine w_fzP (slq 1) ?_)
  (refine w_go ?_)
  (apply Run.pureFP; (exact w_ev); (exact (Enters.of Tryz.func41 rfl rfl)); (exact c0); (exact w_al); (try dsimp only [putA, optG]))
  (refine w_go ?_)
  (first | exact w_ret | refine w_retZ ?_)
 ·rename_i h1
  rw [if_neg h1]
  unfold rmA rmC at *
  try unfold stA at *
  (refine Spec.bd 0 Tryz.func59 Tryz.results59 Tryz.ntmps59 ?_; simp only [entry, zipArgs, Nat.reduceAdd])
  ((refine w_pre ?_); (iterate 3 (refine w_nr ?_)); (refine w_nil ?_))
  (refine w_fzP (slq 1) ?_)
  (refine w_go ?_)
  (apply Run.pureFP; (exact w_ev); (exact (Enters.of Tryz.func41 rfl rfl)); (exact c0); (exact w_al); (try dsimp only [putA, optG]))
  (refine w_go ?_)
  (first | exact w_ret | refine w_retZ ?_)
theorem rCheckState_pure {r : Rm} (hz : Sz r) {s : St} (hs : Zs s) : Pure Tryz.prog 58 [rmA r, stA s] (.int (begE r s)) := by
 have c0 := rfirst_pure hz
 have c1 := rcheckState_pure hz hs
 unfold bgA at c0
 unfold begE
 by_cases h1 : bgE r = 0
 ·rw [h1, if_pos rfl] at c0
  rw [orE_ok h1]
  generalize bgS r = f at *
  generalize csE r s = e at *
  unfold rmA rmC at *
  try unfold stA at *
  (refine Spec.bd 0 Tryz.func58 Tryz.results58 Tryz.ntmps58 ?_; simp only [entry, zipArgs, Nat.reduceAdd])
  ((refine w_pre ?_); (iterate 3 (refine w_nr ?_)); (refine w_nil ?_))
  (refine w_fzP (slq 2) ?_)
  (refine w_fzP (slq 3) ?_)
  (refine w_go ?_)
  (apply Run.pureFP; (exact w_ev); (exact (Enters.of Tryz.func59 rfl rfl)); (exact c0); (exact w_al); (try dsimp only [putA, optG]))
  (refine w_gg ?_)
  (apply Run.pureP; (exact w_ev); (exact (Enters.of Tryz.func92 rfl rfl)); (exact c1); (exact w_al); (try dsimp only [putA, optG]))
  (refine w_gg ?_)
  (first | exact w_ret | refine w_retZ ?_)
 ·rw [if_neg h1] at c0
  rw [orE_no h1]
  have e2 : decide (bgE r = 0) = false := decide_eq_false h1
  generalize bgE r = e at *
  unfold rmA rmC at *
  try unfold stA at *
  (refine Spec.bd 0 Tryz.func58 Tryz.results58 Tryz.ntmps58 ?_; simp only [entry, zipArgs, Nat.reduceAdd])
  ((refine x_pre (zc @e2 @Bool.not_false) ?_); (iterate 3 (refine x_nr (zc @e2 @Bool.not_false) ?_)); (refine x_nil (zc @e2 @Bool.not_false) ?_))
  (refine x_fzP (zc @e2 @Bool.not_false) (slq 2) ?_)
  (refine x_fzP (zc @e2 @Bool.not_false) (slq 3) ?_)
  (refine x_go (zc @e2 @Bool.not_false) ?_)
  (apply Run.pureFP; (exact x_ev (zc @e2 @Bool.not_false)); (exact (Enters.of Tryz.func59 rfl rfl)); (exact c0); (exact x_al (zc @e2 @Bool.not_false)); (try dsimp only [putA, optG]))
  (refine x_gg (zc @e2 @Bool.not_false) ?_)
  (first | exact x_ret (zc @e2 @Bool.not_false) | refine x_retZ (zc @e2 @Bool.not_false) ?_)
def wrA (r : Rm) (s : St) : AV := if begE r s = 0 then .tup [.ints (unL s.ts (bgS r).ts), .ints (unL s.pp (bgS r).pp), .int 0] else .tup [.emp, .emp, .int (begE r s)]
theorem rWrong_pure {r : Rm} (hz : Sz r) {s : St} (hs : Zs s) : Pure Tryz.prog 28 [rmA r, stA s] (wrA r s) := by
 have c0 := rCheckState_pure hz hs
 unfold wrA
 by_cases h1 : begE r s = 0
 ·obtain ⟨h2, h3⟩ := begE_zero h1
  have c3 := rfirst_pure hz
  unfold bgA at c3
  rw [h2, if_pos rfl] at c3
  have hv := bg_SV h2
  have hv2 := (cs_zero h3).2.1
  have c1 := differ_pure s.ts (bgS r).ts (by have := hs.ts; omega) (by rw [hv.ts, hv2.ts])
  have c2 := differ_pure s.pp (bgS r).pp (by have := hs.pp; omega) (by rw [hv.pp, hv2.pp])
  rw [if_pos h1]
  rw [h1] at c0
  generalize unL s.ts (bgS r).ts = u1 at *
  generalize unL s.pp (bgS r).pp = u2 at *
  generalize bgS r = f at *
  unfold rmA rmC at *
  try unfold stA at *
  (refine Spec.bd 0 Tryz.func28 Tryz.results28 Tryz.ntmps28 ?_; simp only [entry, zipArgs, Nat.reduceAdd])
  ((refine w_pre ?_); (iterate 5 (refine w_nr ?_)); (refine w_nil ?_))
  (refine w_fzP (slq 2) ?_)
  (refine w_fzP (slq 3) ?_)
  (refine w_go ?_)
  (apply Run.pureP; (exact w_ev); (exact (Enters.of Tryz.func58 rfl rfl)); (exact c0); (exact w_al); (try dsimp only [putA, optG]))
  (refine w_gg ?_)
  (apply Run.pureFP; (exact w_ev); (exact (Enters.of Tryz.func59 rfl rfl)); (exact c3); (exact w_al); (try dsimp only [putA, optG]))
  (refine w_gg ?_)
  (refine Wp.rnD 13 ?_; apply exAb; (((refine w_abn ?_); (apply Abn.pureFP; (exact w_ev); (exact (Enters.of Tryz.func66 rfl rfl)); (exact c1); (exact w_al); (try dsimp only [putA, optG])); (refine w_abn ?_); (apply Abn.pureFP; (exact w_ev); (exact (Enters.of Tryz.func66 rfl rfl)); (exact c2); (exact w_al); (try dsimp only [putA, optG])); (refine w_abn ?_)); exact Abn.nil))
  (refine w_go ?_)
  (first | exact w_ret | refine w_retZ ?_)
 ·have e2 : decide (begE r s = 0) = false := decide_eq_false h1
  rw [if_neg h1]
  generalize begE r s = e at *
  unfold rmA rmC at *
  try unfold stA at *
  (refine Spec.bd 0 Tryz.func28 Tryz.results28 Tryz.ntmps28 ?_; simp only [entry, zipArgs, Nat.reduceAdd])
  ((refine x_pre (zc @e2 @Bool.not_false) ?_); (iterate 5 (refine x_nr (zc @e2 @Bool.not_false) ?_)); (refine x_nil (zc @e2 @Bool.not_false) ?_))
  (refine x_fzP (zc @e2 @Bool.not_false) (slq 2) ?_)
  (refine x_fzP (zc @e2 @Bool.not_false) (slq 3) ?_)
  (refine x_go (zc @e2 @Bool.not_false) ?_)
  (apply Run.pureP; (exact x_ev (zc @e2 @Bool.not_false)); (exact (Enters.of Tryz.func58 rfl rfl)); (exact c0); (exact x_al (zc @e2 @Bool.not_false)); (try dsimp only [putA, optG]))
  (refine x_gg (zc @e2 @Bool.not_false) ?_)
  (first | exact x_ret (zc @e2 @Bool.not_false) | refine x_retZ (zc @e2 @Bool.not_false) ?_)
theorem away_pure (s : St) (h1 : s.ts.length ≤ 9223372036854775807) (h2 : s.pp.length ≤ 9223372036854775807) (h3 : s.pl.length ≤ 9223372036854775807) : Pure Tryz.prog 14 [stA s] (.bool (decide (30 < (s.ts.length : Int)) || decide (30 < (s.pp.length : Int)) || decide (30 < (s.pl.length : Int)))) := by
 unfold stA
 (refine Spec.bd 0 Tryz.func14 Tryz.results14 Tryz.ntmps14 ?_; simp only [entry, zipArgs, Nat.reduceAdd])
 (refine w_go ?_)
 (first | exact w_ret | refine w_retZ ?_)
end Go.Proofs.Tryz
set_option maxHeartbeats 16000000
namespace Go.Proofs.Tryz
open Go.Vg
theorem plainL_mapR {α : Type} {f : α → AV} (h : ∀ x, (f x).plain) : ∀ l : List α, plainL (l.map f) = True
 | [] => eq_true trivial
 | a :: l => by simp only [List.map_cons, plainL, plainL_mapR h l, h a, and_true]
theorem plainL_str (l : List ByteArray) : plainL (l.map AV.str) = True := plainL_mapR (fun x => by simp [AV.plain]) l
theorem plainL_se (l : List Se) : plainL (l.map seA) = True := plainL_mapR (fun x => by simp [seA, AV.plain, plainL]) l
theorem plainL_th (l : List Th) : plainL (l.map thA) = True := plainL_mapR (fun x => by simp [thA, AV.plain, plainL]) l
attribute [push_cast] plainL_str plainL_se plainL_th
theorem copyCond_pure (c : List Lt) (hc : c.length ≤ 1000) : Pure Tryz.prog 56 [cdA c] (cdA c) := by
 (refine Spec.bd 0 Tryz.func56 Tryz.results56 Tryz.ntmps56 ?_; simp only [entry, zipArgs, Nat.reduceAdd])
 (refine w_go ?_)
 (apply Wp.freeze 2; (exact w_ev); (exact w_ev); (focus (try simp only [push_cast, seval]); (try (exact sT))); (focus (exact sT)))
 (first | exact w_ret | refine w_retZ ?_)
theorem copyInts_pure (c : List Int) (hc : c.length ≤ 1000) : Pure Tryz.prog 57 [.ints c] (.ints c) := by
 (refine Spec.bd 0 Tryz.func57 Tryz.results57 Tryz.ntmps57 ?_; simp only [entry, zipArgs, Nat.reduceAdd])
 (refine w_go ?_)
 (apply Wp.freeze 2; (exact w_ev); (exact w_ev); (focus (try simp only [push_cast, seval]); (try (exact sT))); (focus (exact sT)))
 (first | exact w_ret | refine w_retZ ?_)
theorem set_same {α : Type} {f : α → AV} (d : α) {l : List α} {k : Nat} (h : k < l.length) {x : α} (hx : l.getD k d = x) : (l.map f).set k (f x) = l.map f := by
 apply List.ext_getElem?
 intro i
 rw [List.getElem?_set]
 split
 ·rename_i e
  subst e
  rw [← hx]
  simp [h]
 ·rfl
theorem Vw.rowR {m : Mem} {id ver n sz : Nat} {l : List AV} (h : m[id]? = some ⟨ver, .row sz l⟩) (hk : okL 0 l) (hn : n = l.length) (hs : 0 < sz) : Vw m (.osl id ver 0 n) (.lst sz l) := by
 refine Vw.osl h (by omega) hs ?_
 rw [List.drop_zero, List.take_of_length_le (by omega)]
 exact VwL.okAll hk
theorem Copy_pure {r : Rm} (hz : Sz r) : Pure Tryz.prog 17 [rmA r] (rmA r) := by
 have z1 := hz.ps
 have z2 := hz.ts
 have z3 := hz.pp
 have z4 := hz.wy
 have z5 := hz.ac
 have z6 := hz.au
 have z7 := hz.gl
 have c0 := copyCond_pure r.goal (by omega)
 refine Spec.frz ?_
 unfold rmA rmC at *
 (refine Spec.of_bodyA Tryz.func17 rfl (by rw [Tryz.ntmps17]; simp) ?_; rw [Tryz.results17, Tryz.ntmps17]; simp only [entry, zipArgs, Nat.reduceAdd])
 ((refine w_pre ?_); (iterate 2 (refine w_nr ?_)); (refine w_nil ?_))
 (refine w_fzP (slq 1) ?_)
 repeat (first | apply Wp.seq | apply Wp.block)
 (apply Wp.runG 5 mixed; (dsimp only [List.map] <;> exact rfl); exact rfl; kernel_rfl; ((try dsimp only [List.replicate]); ((refine w_gl0 ?_); (refine w_gp1 ?_); (refine w_gp1 ?_); (refine w_gapf ?_); (refine w_gl0 ?_); (refine w_gp1 ?_); (refine w_gp1 ?_); (refine w_gapf ?_); (refine w_gl0 ?_); (refine w_gp1 ?_); (refine w_gp1 ?_); (apply AbsG.apn 0; exact rfl; (exact w_ev); ((try simp only [push_cast, seval]) <;> exact sT); exact rfl; dsimp only [upd, alcV, List.set, List.length_cons, List.length_nil, Nat.reduceAdd]); (refine w_gl0 ?_); (refine w_gp1 ?_); (refine w_gp1 ?_); (apply AbsG.apn 1; exact rfl; (exact w_ev); ((try simp only [push_cast, seval]) <;> exact sT); exact rfl; dsimp only [upd, alcV, List.set, List.length_cons, List.length_nil, Nat.reduceAdd]); (refine w_gl0 ?_); (refine w_gp1 ?_); (refine w_gp1 ?_); (apply AbsG.apn 2; exact rfl; (exact w_ev); ((try simp only [push_cast, seval]) <;> exact sT); exact rfl; dsimp only [upd, alcV, List.set, List.length_cons, List.length_nil, Nat.reduceAdd]); (refine w_gl0 ?_); (refine w_gp1 ?_); (refine w_gp1 ?_); (apply AbsG.apn 3; exact rfl; (exact w_ev); ((try simp only [push_cast, seval]) <;> exact sT); exact rfl; dsimp only [upd, alcV, List.set, List.length_cons, List.length_nil, Nat.reduceAdd]); (refine w_gp1 ?_); (refine w_gp1 ?_); (refine w_gp1 ?_); (refine w_gp1 ?_); (apply AbsG.callF; exact rfl; (exact w_ev); (exact (Enters.of Tryz.func56 rfl rfl)); (exact c0); (exact w_al); (try dsimp only [upd, optG])); (refine w_gp1 ?_); (apply AbsG.new 4; exact rfl; (exact w_ev); ((try simp only [push_cast, seval]) <;> exact sT); exact rfl; dsimp only [upd, alcV, List.set, List.length_cons, List.length_nil, Nat.reduceAdd]); (apply AbsG.eff 4; exact rfl; exact rfl; (exact w_ev); ((try simp only [push_cast, seval]) <;> exact sT); dsimp only [upd, List.set, List.length_cons, List.length_nil, Nat.reduceAdd])); exact AbsG.nil); kernel_rfl; (try dsimp only [List.cons_append, List.nil_append]))
 (refine w_go ?_)
 refine Wp.loop (fun k : Nat => { t := [(1, .ref (rmC r) 0), (2, .optr 1 0 0 0), (3, .optr 6 1 0 0), (4, .int k)], m := [⟨1, .row 8 []⟩, ⟨0, .row 8 [.agg [.emp, .emp, .emp, .emp, .emp, .emp, .int 0, .emp]]⟩, ⟨1, .row 3 (r.pp.map ppA)⟩, ⟨1, .row 3 (r.wy.map wyA)⟩, ⟨1, .row 8 (r.ac.map acA)⟩, ⟨1, .row 3 (r.au.map auA)⟩, ⟨1, .row 8 [.agg [.strs r.ps, .lst 4 (r.ts.map thA), .osl 2 1 0 r.pp.length, .osl 3 1 0 r.wy.length, .osl 4 1 0 r.ac.length, .osl 5 1 0 r.au.length, .int r.n, cdA r.goal]]⟩], n := 135 }) (fun k => k ≤ r.pp.length) (fun k => r.pp.length - k) 0 ?_ ?_ ?_
 ·(refine Le.of ?_ ?_ rfl rfl <;> (try simp only [push_cast, seval]) <;> (try (with_reducible rfl)))
  all_goals (first | exact ⟨rfl, rfl⟩ | rfl)
 ·simp
 ·intro k hk1
  (refine x_go @rmC.eq_1 ?_)
  (apply Wp.cond; (exact x_ev @rmC.eq_1))
  ·intro hk
   have hc : k < r.pp.length := by simp only [decide_eq_true_eq, List.length_map] at hk; omega
   have hw : (r.pp.getD k pp0).wh.length ≤ 20 := (hz.ppn _ (memPp hc)).2
   have c1 := copyCond_pure (r.pp.getD k pp0).wh (by omega)
   have hgd := fun d => getD_pp (d := d) hc
   have hset := set_same (f := ppA) pp0 hc rfl
   generalize hx : r.pp.getD k pp0 = x at *
   simp only [ppA] at hset hgd
   (refine x_go (zc @rmC.eq_1 (zc @hgd (zc @hset @lenMp))) ?_)
   (apply Wp.runGES 7 12 mixed; (dsimp only [List.map] <;> exact rfl); exact rfl; kernel_rfl; (dsimp only [List.take] <;> exact rfl); (dsimp only [List.drop] <;> exact rfl); (dsimp only [List.take] <;> exact rfl); (dsimp only [List.drop] <;> exact rfl); kernel_rfl; (((refine x_gp (zc @rmC.eq_1 (zc @hgd (zc @hset @lenMp))) ?_); (apply AbsG.callF; exact rfl; (exact x_ev (zc @rmC.eq_1 (zc @hgd (zc @hset @lenMp)))); (exact (Enters.of Tryz.func56 rfl rfl)); (exact c1); (exact x_al (zc @rmC.eq_1 (zc @hgd (zc @hset @lenMp)))); (try dsimp only [upd, optG])); (refine x_gp (zc @rmC.eq_1 (zc @hgd (zc @hset @lenMp))) ?_)); exact AbsG.nil); kernel_rfl; exact rfl; ((try dsimp only [List.cons_append, List.nil_append]); (exact x_ev (zc @rmC.eq_1 (zc @hgd (zc @hset @lenMp))))); ((try simp only [push_cast, seval, rmC, hgd, hset, List.length_map]) <;> exact sT); dsimp only [upd])
   (refine x_go (zc @rmC.eq_1 (zc @hgd (zc @hset @lenMp))) ?_)
   refine ⟨k + 1, ?_, by omega, by omega⟩
   (refine Le.of ?_ ?_ rfl rfl <;> (try simp only [push_cast, seval, rmC, hgd, hset, List.length_map]) <;> (try (with_reducible rfl)))
  ·intro hk
   obtain rfl : k = r.pp.length := by simp only [decide_eq_false_iff_not, List.length_map] at hk; omega
   (refine x_go @rmC.eq_1 ?_)
   refine Wp.loop (fun k : Nat => { t := [(1, .ref (rmC r) 0), (2, .optr 1 0 0 0), (3, .optr 6 1 0 0), (5, .int k)], m := [⟨1, .row 8 []⟩, ⟨0, .row 8 [.agg [.emp, .emp, .emp, .emp, .emp, .emp, .int 0, .emp]]⟩, ⟨1, .row 3 (r.pp.map ppA)⟩, ⟨1, .row 3 (r.wy.map wyA)⟩, ⟨1, .row 8 (r.ac.map acA)⟩, ⟨1, .row 3 (r.au.map auA)⟩, ⟨1, .row 8 [.agg [.strs r.ps, .lst 4 (r.ts.map thA), .osl 2 1 0 r.pp.length, .osl 3 1 0 r.wy.length, .osl 4 1 0 r.ac.length, .osl 5 1 0 r.au.length, .int r.n, cdA r.goal]]⟩], n := 135 }) (fun k => k ≤ r.wy.length) (fun k => r.wy.length - k) 0 ?_ ?_ ?_
   ·(refine Le.of ?_ ?_ rfl rfl <;> (try simp only [push_cast, seval, rmC]) <;> (try (with_reducible rfl)))
    all_goals (first | exact ⟨rfl, rfl⟩ | rfl)
   ·simp
   ·intro k hk1
    (refine x_go @rmC.eq_1 ?_)
    (apply Wp.cond; (exact x_ev @rmC.eq_1))
    ·intro hk
     have hc : k < r.wy.length := by simp only [decide_eq_true_eq, List.length_map] at hk; omega
     have hw : (r.wy.getD k wy0).wh.length ≤ 20 := hz.wyn _ (memWy hc)
     have c1 := copyCond_pure (r.wy.getD k wy0).wh (by omega)
     have hgd := fun d => getD_wy (d := d) hc
     have hset := set_same (f := wyA) wy0 hc rfl
     generalize hx : r.wy.getD k wy0 = x at *
     simp only [wyA] at hset hgd
     (refine x_go (zc @rmC.eq_1 (zc @hgd (zc @hset @lenMp))) ?_)
     (apply Wp.runGES 7 12 mixed; (dsimp only [List.map] <;> exact rfl); exact rfl; kernel_rfl; (dsimp only [List.take] <;> exact rfl); (dsimp only [List.drop] <;> exact rfl); (dsimp only [List.take] <;> exact rfl); (dsimp only [List.drop] <;> exact rfl); kernel_rfl; (((refine x_gp (zc @rmC.eq_1 (zc @hgd (zc @hset @lenMp))) ?_); (apply AbsG.callF; exact rfl; (exact x_ev (zc @rmC.eq_1 (zc @hgd (zc @hset @lenMp)))); (exact (Enters.of Tryz.func56 rfl rfl)); (exact c1); (exact x_al (zc @rmC.eq_1 (zc @hgd (zc @hset @lenMp)))); (try dsimp only [upd, optG])); (refine x_gp (zc @rmC.eq_1 (zc @hgd (zc @hset @lenMp))) ?_)); exact AbsG.nil); kernel_rfl; exact rfl; ((try dsimp only [List.cons_append, List.nil_append]); (exact x_ev (zc @rmC.eq_1 (zc @hgd (zc @hset @lenMp))))); ((try simp only [push_cast, seval, rmC, hgd, hset, List.length_map]) <;> exact sT); dsimp only [upd])
     (refine x_go (zc @rmC.eq_1 (zc @hgd (zc @hset @lenMp))) ?_)
     refine ⟨k + 1, ?_, by omega, by omega⟩
     (refine Le.of ?_ ?_ rfl rfl <;> (try simp only [push_cast, seval, rmC, hgd, hset, List.length_map]) <;> (try (with_reducible rfl)))
    ·intro hk
     obtain rfl : k = r.wy.length := by simp only [decide_eq_false_iff_not, List.length_map] at hk; omega
     (refine x_go @rmC.eq_1 ?_)
     (refine Wp.vacs 1 ?_; (try simp only [List.replicate_succ, List.replicate_zero, List.cons_append, List.nil_append]))
     refine Wp.loop (fun (q : Nat × Nat × Kind) => { t := [(1, .ref (rmC r) 0), (2, .optr 1 0 0 0), (3, .optr 6 1 0 0), (6, .int q.1)], m := [⟨1, .row 8 []⟩, ⟨0, .row 8 [.agg [.emp, .emp, .emp, .emp, .emp, .emp, .int 0, .emp]]⟩, ⟨1, .row 3 (r.pp.map ppA)⟩, ⟨1, .row 3 (r.wy.map wyA)⟩, ⟨1, .row 8 (r.ac.map acA)⟩, ⟨1, .row 3 (r.au.map auA)⟩, ⟨1, .row 8 [.agg [.strs r.ps, .lst 4 (r.ts.map thA), .osl 2 1 0 r.pp.length, .osl 3 1 0 r.wy.length, .osl 4 1 0 r.ac.length, .osl 5 1 0 r.au.length, .int r.n, cdA r.goal]]⟩, ⟨q.2.1, q.2.2⟩], n := 135 }) (fun q => q.1 ≤ r.ac.length) (fun q => r.ac.length - q.1) (0, 0, .row 1 []) ?_ ?_ ?_
     ·(refine Le.of ?_ ?_ rfl rfl <;> (try simp only [push_cast, seval, rmC]) <;> (try (with_reducible rfl)))
      all_goals (first | exact ⟨rfl, rfl⟩ | rfl)
     ·simp
     ·rintro ⟨k, v, kd⟩ hk1
      simp only at hk1
      (refine x_go @rmC.eq_1 ?_)
      (apply Wp.cond; (exact x_ev @rmC.eq_1))
      ·intro hk
       have hc : k < r.ac.length := by simp only [decide_eq_true_eq, List.length_map] at hk; omega
       obtain ⟨w1, w2, w3, w4, w5, w6⟩ := hz.acn _ (memAc hc)
       have hgd := fun d => getD_ac (d := d) hc
       have hset := set_same (f := acA) ac0 hc rfl
       generalize hx : r.ac.getD k ac0 = x at *
       have c1 := copyInts_pure x.us (by omega)
       have c2 := copyInts_pure x.sp (by omega)
       have c3 := copyInts_pure x.br (by omega)
       have c4 := copyCond_pure x.wh (by omega)
       simp only [acA, acC] at hset hgd
       (refine x_gs (zc @rmC.eq_1 (zc @hgd (zc @hset @lenMp))) ?_)
       (apply Run.alcAt 7; (exact x_ev (zc @rmC.eq_1 (zc @hgd (zc @hset @lenMp)))); ((try simp only [push_cast, seval, rmC, hgd, hset, List.length_map]) <;> exact sT); exact rfl; (try simp only [push_cast, seval, rmC, hgd, hset, List.length_map]))
       (refine x_go (zc @rmC.eq_1 (zc @hgd (zc @hset @lenMp))) ?_)
       (apply Run.pureFP; (exact x_ev (zc @rmC.eq_1 (zc @hgd (zc @hset @lenMp)))); (exact (Enters.of Tryz.func57 rfl rfl)); (exact c1); (exact x_al (zc @rmC.eq_1 (zc @hgd (zc @hset @lenMp)))); (try dsimp only [putA, optG]))
       (refine x_go (zc @rmC.eq_1 (zc @hgd (zc @hset @lenMp))) ?_)
       (apply Run.pureFP; (exact x_ev (zc @rmC.eq_1 (zc @hgd (zc @hset @lenMp)))); (exact (Enters.of Tryz.func57 rfl rfl)); (exact c2); (exact x_al (zc @rmC.eq_1 (zc @hgd (zc @hset @lenMp)))); (try dsimp only [putA, optG]))
       (refine x_go (zc @rmC.eq_1 (zc @hgd (zc @hset @lenMp))) ?_)
       (apply Run.pureFP; (exact x_ev (zc @rmC.eq_1 (zc @hgd (zc @hset @lenMp)))); (exact (Enters.of Tryz.func57 rfl rfl)); (exact c3); (exact x_al (zc @rmC.eq_1 (zc @hgd (zc @hset @lenMp)))); (try dsimp only [putA, optG]))
       (refine x_go (zc @rmC.eq_1 (zc @hgd (zc @hset @lenMp))) ?_)
       (apply Run.pureFP; (exact x_ev (zc @rmC.eq_1 (zc @hgd (zc @hset @lenMp)))); (exact (Enters.of Tryz.func56 rfl rfl)); (exact c4); (exact x_al (zc @rmC.eq_1 (zc @hgd (zc @hset @lenMp)))); (try dsimp only [putA, optG]))
       (repeat (refine x_nr (zc @rmC.eq_1 (zc @hgd (zc @hset @lenMp))) ?_))
       (apply Run.nil; dsimp only [sQ, tQ, bQ])
       repeat (first | apply Wp.seq | apply Wp.block)
       (refine x_beg (zc @rmC.eq_1 (zc @hgd (zc @hset @lenMp))) ?_)
       (apply Run.lit0e; (exact x_ev (zc @rmC.eq_1 (zc @hgd (zc @hset @lenMp)))); (focus ((try simp only [push_cast, seval, rmC, hgd, hset, List.length_map]) <;> exact sT)); dsimp only [putA])
       (refine x_nr (zc @rmC.eq_1 (zc @hgd (zc @hset @lenMp))) ?_)
       (refine x_nr (zc @rmC.eq_1 (zc @hgd (zc @hset @lenMp))) ?_)
       (refine x_rapf (zc @rmC.eq_1 (zc @hgd (zc @hset @lenMp))) ?_)
       (refine x_go (zc @rmC.eq_1 (zc @hgd (zc @hset @lenMp))) ?_)
       refine ⟨(k + 1, v + 1, .row 8 [.agg (acC x)]), ?_, by simp only; omega, by simp only; omega⟩
       simp only [acC]
       (refine Le.of ?_ ?_ rfl rfl <;> (try simp only [push_cast, seval, rmC, hgd, hset, List.length_map]) <;> (try (with_reducible rfl)))
      ·intro hk
       obtain rfl : k = r.ac.length := by simp only [decide_eq_false_iff_not, List.length_map] at hk; omega
       (refine x_go @rmC.eq_1 ?_)
       refine Wp.loop (fun k : Nat => { t := [(1, .ref (rmC r) 0), (2, .optr 1 0 0 0), (3, .optr 6 1 0 0), (8, .int k)], m := [⟨1, .row 8 []⟩, ⟨0, .row 8 [.agg [.emp, .emp, .emp, .emp, .emp, .emp, .int 0, .emp]]⟩, ⟨1, .row 3 (r.pp.map ppA)⟩, ⟨1, .row 3 (r.wy.map wyA)⟩, ⟨1, .row 8 (r.ac.map acA)⟩, ⟨1, .row 3 (r.au.map auA)⟩, ⟨1, .row 8 [.agg [.strs r.ps, .lst 4 (r.ts.map thA), .osl 2 1 0 r.pp.length, .osl 3 1 0 r.wy.length, .osl 4 1 0 r.ac.length, .osl 5 1 0 r.au.length, .int r.n, cdA r.goal]]⟩, ⟨v, kd⟩], n := 135 }) (fun k => k ≤ r.au.length) (fun k => r.au.length - k) 0 ?_ ?_ ?_
       ·(refine Le.of ?_ ?_ rfl rfl <;> (try simp only [push_cast, seval, rmC]) <;> (try (with_reducible rfl)))
        all_goals (first | exact ⟨rfl, rfl⟩ | rfl)
       ·simp
       ·intro k hk1
        (refine x_go @rmC.eq_1 ?_)
        (apply Wp.cond; (exact x_ev @rmC.eq_1))
        ·intro hk
         have hc : k < r.au.length := by simp only [decide_eq_true_eq, List.length_map] at hk; omega
         have hw : (r.au.getD k au0).wh.length ≤ 20 := hz.aun _ (memAu' hc)
         have c1 := copyCond_pure (r.au.getD k au0).wh (by omega)
         have hgd := fun d => getD_au (d := d) hc
         have hset := set_same (f := auA) au0 hc rfl
         generalize hx : r.au.getD k au0 = x at *
         simp only [auA] at hset hgd
         (refine x_go (zc @rmC.eq_1 (zc @hgd (zc @hset @lenMp))) ?_)
         (apply Wp.runGES 8 12 mixed; (dsimp only [List.map] <;> exact rfl); exact rfl; kernel_rfl; (dsimp only [List.take] <;> exact rfl); (dsimp only [List.drop] <;> exact rfl); (dsimp only [List.take] <;> exact rfl); (dsimp only [List.drop] <;> exact rfl); kernel_rfl; (((refine x_gp (zc @rmC.eq_1 (zc @hgd (zc @hset @lenMp))) ?_); (apply AbsG.callF; exact rfl; (exact x_ev (zc @rmC.eq_1 (zc @hgd (zc @hset @lenMp)))); (exact (Enters.of Tryz.func56 rfl rfl)); (exact c1); (exact x_al (zc @rmC.eq_1 (zc @hgd (zc @hset @lenMp)))); (try dsimp only [upd, optG])); (refine x_gp (zc @rmC.eq_1 (zc @hgd (zc @hset @lenMp))) ?_)); exact AbsG.nil); kernel_rfl; exact rfl; ((try dsimp only [List.cons_append, List.nil_append]); (exact x_ev (zc @rmC.eq_1 (zc @hgd (zc @hset @lenMp))))); ((try simp only [push_cast, seval, rmC, hgd, hset, List.length_map]) <;> exact sT); dsimp only [upd])
         (refine x_go (zc @rmC.eq_1 (zc @hgd (zc @hset @lenMp))) ?_)
         refine ⟨k + 1, ?_, by omega, by omega⟩
         (refine Le.of ?_ ?_ rfl rfl <;> (try simp only [push_cast, seval, rmC, hgd, hset, List.length_map]) <;> (try (with_reducible rfl)))
        ·intro hk
         obtain rfl : k = r.au.length := by simp only [decide_eq_false_iff_not, List.length_map] at hk; omega
         (refine x_go @rmC.eq_1 ?_)
         (first | exact x_retA @rmC.eq_1 | refine x_retAZ @rmC.eq_1 ?_)
         exact Vw.agg (VwL.cons (Vw.self (by simp [AV.ok, okL_str])) (VwL.cons (Vw.self (by simp [AV.ok, okL_th])) (VwL.cons (Vw.rowR rfl (by rw [okL_pp]; trivial) (by simp) (by decide)) (VwL.cons (Vw.rowR rfl (by rw [okL_wy]; trivial) (by simp) (by decide)) (VwL.cons (Vw.rowR rfl (by rw [okL_ac]; trivial) (by simp) (by decide)) (VwL.cons (Vw.rowR rfl (by rw [okL_au]; trivial) (by simp) (by decide)) (VwL.cons (Vw.self trivial) (VwL.cons (Vw.self (by simp [AV.ok, okL_lt])) VwL.nil))))))))
end Go.Proofs.Tryz
