/- A part of the proof of ResetLeast: contracts of functions, with plain laws that they need. -/
import Derived.Test.YtjhljokghikamaaGreatDoorVgR34J
set_option linter.all false
set_option maxHeartbeats 16000000
namespace Go.Proofs.Tryz
open Go.Vg
def sdA (pl : List Int) (x : Sd) : AV := .agg [.ints x.ts, .ints x.pp, .ints pl, .int x.at_]
theorem rcan_pure {r : Rm} (hz : Sz r) {f : St} (hv : RV r) (hf : SV r f) {pl : List Int} {x : Sd} (hx : SdOk r pl x) (hs : Zs (sdS pl x)) (t : Tk) : Pure Tryz.prog 62 [rmA r, stA f, sdA pl x, tkA t] (.tup [sdA pl (if canB r f (sdS pl x) x.at_ t = true then nxT r f pl x t else x), .bool (canB r f (sdS pl x) x.at_ t)]) := by
 have y1 : x.ts.length = r.ts.length := hx.1.ts
 have y2 : x.pp.length = r.pp.length := hx.1.pp
 have y3 := hf.pp
 have z1 := hz.ts
 have z2 := hz.pp
 have z3 := hz.wy
 have hcp := CopyState_spec (sdS pl x) hs
 have hF : ((cpM (sdS pl x)).map fun (e : Ent) => (⟨e.ver, e.kind.shift (5 + 1)⟩ : Ent)) = [⟨1, .row 3 []⟩, ⟨0, .row 3 [.agg [.osl 8 1 0 x.ts.length, .osl 9 1 0 x.pp.length, .osl 10 1 0 pl.length]]⟩, ⟨1, .row 1 (x.ts.map AV.int)⟩, ⟨1, .row 1 (x.pp.map AV.int)⟩, ⟨1, .row 1 (pl.map AV.int)⟩] := by
  simp only [sdS, List.map_cons, List.map_nil, Kind.shift, shiftL, AV.shift, shiftL_int, Nat.reduceAdd]
 have hVw : ∀ (m : Mem) (y : Sd) (n1 n2 : Nat), m[8]? = some ⟨1, .row 1 (y.ts.map AV.int)⟩ → m[9]? = some ⟨1, .row 1 (y.pp.map AV.int)⟩ → m[10]? = some ⟨1, .row 1 (pl.map AV.int)⟩ → n1 = y.ts.length → n2 = y.pp.length → ∀ b : Bool, Vw m (.tup [.agg [.osl 8 1 0 n1, .osl 9 1 0 n2, .osl 10 1 0 pl.length, .int y.at_], .bool b]) (.tup [sdA pl y, .bool b]) := fun m y n1 n2 h8 h9 h10 e1 e2 b => Vw.tup (.cons (Vw.agg (.cons (Vw.ointsR h8 e1) (.cons (Vw.ointsR h9 e2) (.cons (Vw.ointsR h10 rfl) (.cons (Vw.self trivial) .nil))))) (.cons (Vw.self trivial) .nil))
 refine Spec.frz ?_
 obtain ⟨kd, nu, ar⟩ := t
 obtain ⟨R, hR⟩ : ∃ R, (AV.tup [sdA pl (if canB r f (sdS pl x) x.at_ ⟨kd, nu, ar⟩ = true then nxT r f pl x ⟨kd, nu, ar⟩ else x), .bool (canB r f (sdS pl x) x.at_ ⟨kd, nu, ar⟩)]) = R := ⟨_, rfl⟩
 rw [hR]
 have hno : canB r f (sdS pl x) x.at_ ⟨kd, nu, ar⟩ = false → (AV.tup [sdA pl x, .bool false]) = R := fun h => by rw [← hR, h, if_neg (by simp)]
 have hyes : canB r f (sdS pl x) x.at_ ⟨kd, nu, ar⟩ = true → (AV.tup [sdA pl (nxT r f pl x ⟨kd, nu, ar⟩), .bool true]) = R := fun h => by rw [← hR, h, if_pos rfl]
 clear hR
 unfold canB at hno hyes
 simp only at hno hyes
 unfold sdS stA at hcp
 unfold rmA stA tkA
 rw [show sdA pl x = .agg [.ints x.ts, .ints x.pp, .ints pl, .int x.at_] from rfl]
 (refine Spec.of_bodyA Tryz.func62 rfl (by rw [Tryz.ntmps62]; simp) ?_; rw [Tryz.results62, Tryz.ntmps62]; simp only [entry, zipArgs, Nat.reduceAdd])
 ((refine x_pre @rmC.eq_1 ?_); (iterate 6 (refine x_nr @rmC.eq_1 ?_)); (refine x_nil @rmC.eq_1 ?_))
 (refine x_fzP @rmC.eq_1 (slq 4) ?_)
 (refine x_fzP @rmC.eq_1 (slq 5) ?_)
 (refine x_fzP @rmC.eq_1 (slq 6) ?_)
 (refine x_fzP @rmC.eq_1 (slq 7) ?_)
 repeat (first | apply Wp.seq | apply Wp.block)
 (apply Wp.runF3 2 6 7 [⟨1, .row 3 []⟩, ⟨0, .row 3 [.agg [.osl 8 1 0 x.ts.length, .osl 9 1 0 x.pp.length, .osl 10 1 0 pl.length]]⟩, ⟨1, .row 1 (x.ts.map AV.int)⟩, ⟨1, .row 1 (x.pp.map AV.int)⟩, ⟨1, .row 1 (pl.map AV.int)⟩] ⟨1, .row 4 [.agg [.emp, .emp, .emp, .int 0]]⟩ ⟨1, .row 4 [.agg [.osl 8 1 0 x.ts.length, .osl 9 1 0 x.pp.length, .osl 10 1 0 pl.length, .int x.at_]]⟩ mixed; (dsimp only [List.map] <;> exact rfl); exact rfl; kernel_rfl; exact rfl; ((refine x_fz1 @rmC.eq_1 ?_); (refine x_fz1 @rmC.eq_1 ?_); (apply AbsM.callY; exact rfl; kernel_rfl; exact rfl; exact rfl; (exact x_ev @rmC.eq_1); (exact (Enters.of Tryz.func18 rfl rfl)); (simp only [push_cast, seval, rmC] <;> first | exact rfl | assumption); (focus (simp only [push_cast, seval, rmC] <;> first | trivial | assumption | (simp; done))); (exact hcp); (first | exact hF | (simp only [List.length_cons, List.length_nil, Nat.reduceAdd]; exact hF)); dsimp only [upd, AV.shift, shiftL, List.length_cons, List.length_nil, Nat.reduceAdd]); (refine x_fz1 @rmC.eq_1 ?_); (refine x_fz1 @rmC.eq_1 ?_); (refine x_fz1 @rmC.eq_1 ?_); (apply AbsM.newY; exact rfl; kernel_rfl; exact rfl; exact rfl; (exact x_ev @rmC.eq_1); ((try simp only [push_cast, seval, rmC]) <;> exact sT); exact rfl; dsimp only [upd, alcV, List.length_cons, List.length_nil, Nat.reduceAdd]); (apply AbsM.stoY; exact rfl; kernel_rfl; exact rfl; (exact x_ev @rmC.eq_1); ((try simp only [push_cast, seval, rmC]) <;> exact sT); dsimp only [upd]); exact AbsM.nil); (try dsimp only [List.cons_append, List.nil_append]))
 (refine x_go @rmC.eq_1 ?_)
 by_cases h1 : kd = 1
 ·subst h1
  simp only [show ¬((1 : Int) = 2) by omega, show ¬((1 : Int) = 3) by omega, if_false, if_true] at hno hyes
  unfold wkB wi at hno hyes
  simp only at hno hyes
  (refine x_gg @rmC.eq_1 ?_)
  (apply Wp.cond; (exact x_ev @rmC.eq_1))
  ·intro hq
   (refine x_go @rmC.eq_1 ?_)
   (first | exact x_retA @rmC.eq_1 | refine x_retAZ @rmC.eq_1 ?_)
   rw [← hno (by revert hq; simp; omega)]
   exact hVw _ x _ _ rfl rfl rfl rfl rfl _
  ·intro hq
   have hq : 0 ≤ nu ∧ nu < r.wy.length ∧ ar = 0 := by revert hq; simp; omega
   obtain ⟨q1, q2, rfl⟩ := hq
   obtain ⟨n, rfl⟩ : ∃ n : Nat, nu = n := ⟨nu.toNat, by omega⟩
   have q3 : n < r.wy.length := by omega
   have hgd := fun d => getD_wy (d := d) q3
   simp only [Int.toNat_natCast] at hno hyes
   have hm := hv.wyv (r.wy.getD n wy0) (by rw [show r.wy.getD n wy0 = r.wy[n] by simp [q3]]; exact List.getElem_mem _)
   have hps := hv.ps
   have hat := hx.2
   have hnx : nxT r f pl x ⟨1, (n : Int), 0⟩ = ⟨x.ts, x.pp, (r.wy.getD n wy0).a + (r.wy.getD n wy0).b - x.at_⟩ := by
    unfold nxT doS doA
    simp [sdS]
   rw [hnx] at hyes
   obtain ⟨y, hy⟩ : ∃ y, r.wy.getD n wy0 = y := ⟨_, rfl⟩
   simp only [hy] at hgd hno hyes hm
   (refine x_go (zc @rmC.eq_1 (zc @hgd (zc @wyA.eq_1 @Int.toNat_natCast))) ?_)
   (apply Wp.cond; (exact x_ev (zc @rmC.eq_1 (zc @hgd (zc @wyA.eq_1 @Int.toNat_natCast)))))
   ·intro hq
    (refine x_go (zc @rmC.eq_1 (zc @hgd (zc @wyA.eq_1 @Int.toNat_natCast))) ?_)
    (first | exact x_retA (zc @rmC.eq_1 (zc @hgd (zc @wyA.eq_1 @Int.toNat_natCast))) | refine x_retAZ (zc @rmC.eq_1 (zc @hgd (zc @wyA.eq_1 @Int.toNat_natCast))) ?_)
    rw [← hno (by revert hq; simp; omega)]
    exact hVw _ x _ _ rfl rfl rfl rfl rfl _
   ·intro hq
    (refine x_go (zc @rmC.eq_1 (zc @hgd (zc @wyA.eq_1 @Int.toNat_natCast))) ?_)
    (first | exact x_retA (zc @rmC.eq_1 (zc @hgd (zc @wyA.eq_1 @Int.toNat_natCast))) | refine x_retAZ (zc @rmC.eq_1 (zc @hgd (zc @wyA.eq_1 @Int.toNat_natCast))) ?_)
    rw [← hyes (by revert hq; simp; omega)]
    exact hVw _ ⟨x.ts, x.pp, y.a + y.b - x.at_⟩ _ _ rfl rfl rfl rfl rfl _
 ·rw [if_neg h1] at hno hyes
  have e1 : decide (kd = 1) = false := decide_eq_false h1
  by_cases h2 : kd = 2
  ·subst h2
   simp only [if_true] at hno hyes
   unfold tnB wi at hno hyes
   simp only at hno hyes
   (refine x_gg @rmC.eq_1 ?_)
   (apply Wp.cond; (exact x_ev @rmC.eq_1))
   ·intro hq
    (refine x_go @rmC.eq_1 ?_)
    (first | exact x_retA @rmC.eq_1 | refine x_retAZ @rmC.eq_1 ?_)
    rw [← hno (by revert hq; simp; omega)]
    exact hVw _ x _ _ rfl rfl rfl rfl rfl _
   ·intro hq
    have hq : 0 ≤ nu ∧ nu < r.ts.length := by revert hq; simp
    obtain ⟨q1, q2⟩ := hq
    obtain ⟨n, rfl⟩ : ∃ n : Nat, nu = n := ⟨nu.toNat, by omega⟩
    have q3 : n < r.ts.length := by omega
    simp only [Int.toNat_natCast] at hno hyes
    have hgd := getD_th r.ts n
    have hnx : nxT r f pl x ⟨2, (n : Int), ar⟩ = ⟨x.ts.set n ar, x.pp, x.at_⟩ := by
     unfold nxT doS doA
     simp [sdS]
    rw [hnx] at hyes
    obtain ⟨y, hy⟩ : ∃ y, r.ts.getD n th0 = y := ⟨_, rfl⟩
    have hxt : (sdS pl x).ts.getD n 0 = x.ts.getD n 0 := rfl
    obtain ⟨u, hxn⟩ : ∃ u, x.ts.getD n 0 = u := ⟨_, rfl⟩
    simp only [hy] at hgd
    simp only [hxt, hy, hxn] at hno hyes
    (refine x_go (zc @rmC.eq_1 (zc @hgd (zc @hy (zc @hxn (zc @thA.eq_1 @Int.toNat_natCast))))) ?_)
    (refine Wp.rnD 29 ?_; apply exAb; (((refine x_abn (zc @rmC.eq_1 (zc @hgd (zc @hy (zc @hxn (zc @thA.eq_1 @Int.toNat_natCast))))) ?_)); exact Abn.nil))
    (refine x_go (zc @rmC.eq_1 (zc @hgd (zc @hy (zc @hxn (zc @thA.eq_1 @Int.toNat_natCast))))) ?_)
    (apply Wp.cond; (exact x_ev (zc @rmC.eq_1 (zc @hgd (zc @hy (zc @hxn (zc @thA.eq_1 @Int.toNat_natCast)))))))
    ·intro hq
     (refine x_go (zc @rmC.eq_1 (zc @hgd (zc @hy (zc @hxn (zc @thA.eq_1 @Int.toNat_natCast))))) ?_)
     (first | exact x_retA (zc @rmC.eq_1 (zc @hgd (zc @hy (zc @hxn (zc @thA.eq_1 @Int.toNat_natCast))))) | refine x_retAZ (zc @rmC.eq_1 (zc @hgd (zc @hy (zc @hxn (zc @thA.eq_1 @Int.toNat_natCast))))) ?_)
     rw [← hno (by revert hq; simp; omega)]
     exact hVw _ x _ _ rfl rfl rfl rfl rfl _
    ·intro hq
     (refine x_go (zc @rmC.eq_1 (zc @hgd (zc @hy (zc @hxn (zc @thA.eq_1 @Int.toNat_natCast))))) ?_)
     (first | exact x_retA (zc @rmC.eq_1 (zc @hgd (zc @hy (zc @hxn (zc @thA.eq_1 @Int.toNat_natCast))))) | refine x_retAZ (zc @rmC.eq_1 (zc @hgd (zc @hy (zc @hxn (zc @thA.eq_1 @Int.toNat_natCast))))) ?_)
     rw [← hyes (by revert hq; simp; omega)]
     exact hVw _ ⟨x.ts.set n ar, x.pp, x.at_⟩ _ _ (by simp [List.map_set]) rfl rfl (by simp) rfl _
  ·rw [if_neg h2] at hno hyes
   have e2 : decide (kd = 2) = false := decide_eq_false h2
   by_cases h3 : kd = 3
   ·subst h3
    simp only [if_true] at hno hyes
    unfold ptB wi at hno hyes
    simp only at hno hyes
    by_cases hin : 0 ≤ nu ∧ nu < r.pp.length
    ·obtain ⟨q1, q2⟩ := hin
     obtain ⟨n, rfl⟩ : ∃ n : Nat, nu = n := ⟨nu.toNat, by omega⟩
     have q3 : n < r.pp.length := by omega
     have q4 : n < x.pp.length := by omega
     have q5 : n < f.pp.length := by omega
     simp only [Int.toNat_natCast] at hno hyes
     have hgd := fun d => getD_pp (d := d) q3
     have hm := memPp q3
     have hw := (hz.ppn _ hm).2
     have hcd := (hv.ppv _ hm).2
     have d1 : decide ((n : Int) < 0) = false := decide_eq_false (by omega)
     have d2 : decide ((r.pp.length : Int) ≤ (n : Int)) = false := decide_eq_false (by omega)
     have d3 : (decide ((0 : Int) ≤ (n : Int)) && decide ((n : Int) ≤ (r.pp.length : Int) - 1)) = true := by simp; omega
     simp only [d3] at hno hyes
     have hnx : nxT r f pl x ⟨3, (n : Int), ar⟩ = ⟨x.ts, x.pp.set n (f.pp.getD n 0), x.at_⟩ := by
      unfold nxT doS doA
      simp [sdS]
     rw [hnx] at hyes
     have hxt : (sdS pl x).pp.getD n 0 = x.pp.getD n 0 := rfl
     obtain ⟨u, hxn⟩ : ∃ u, x.pp.getD n 0 = u := ⟨_, rfl⟩
     obtain ⟨z, hfn⟩ : ∃ z, f.pp.getD n 0 = z := ⟨_, rfl⟩
     obtain ⟨y, hy⟩ : ∃ y, r.pp.getD n pp0 = y := ⟨_, rfl⟩
     simp only [hy] at hgd hw hcd
     simp only [hxt, hxn, hfn, hy] at hno hyes
     have hh := Holding_pure (sdS pl x) hs y.wh (by omega) (by rw [show (sdS pl x).ts.length = r.ts.length from y1]; exact Lv_of hcd)
     unfold stA at hh
     simp only [sdS] at hh
     obtain ⟨b, hbb⟩ : ∃ b, hdB x.ts y.wh = b := ⟨_, rfl⟩
     simp only [show hdB (sdS pl x).ts y.wh = hdB x.ts y.wh from rfl, hbb] at hno hyes
     simp only [hbb] at hh
     (refine x_gg (zc @rmC.eq_1 (zc @d1 (zc @d2 (zc @hxn (zc @hfn (zc @Bool.false_or @Int.toNat_natCast)))))) ?_)
     (refine Wp.rnD 32 ?_; apply exAb; (((refine x_abz (zc @rmC.eq_1 (zc @d1 (zc @d2 (zc @hxn (zc @hfn (zc @Bool.false_or @Int.toNat_natCast)))))) ?_)); exact Abn.nil))
     (refine x_go (zc @rmC.eq_1 (zc @d1 (zc @d2 (zc @hxn (zc @hfn (zc @Bool.false_or @Int.toNat_natCast)))))) ?_)
     (apply Wp.cond; (exact x_ev (zc @rmC.eq_1 (zc @d1 (zc @d2 (zc @hxn (zc @hfn (zc @Bool.false_or @Int.toNat_natCast))))))))
     ·intro hq
      (refine x_go (zc @rmC.eq_1 (zc @d1 (zc @d2 (zc @hxn (zc @hfn (zc @Bool.false_or @Int.toNat_natCast)))))) ?_)
      (first | exact x_retA (zc @rmC.eq_1 (zc @d1 (zc @d2 (zc @hxn (zc @hfn (zc @Bool.false_or @Int.toNat_natCast)))))) | refine x_retAZ (zc @rmC.eq_1 (zc @d1 (zc @d2 (zc @hxn (zc @hfn (zc @Bool.false_or @Int.toNat_natCast)))))) ?_)
      have hq' : ¬ ar = 0 ∨ u = z := by simpa using hq
      rw [← hno (by rcases hq' with h | h <;> simp [h])]
      exact hVw _ x _ _ rfl rfl rfl rfl rfl _
     ·intro hq
      have hq : ar = 0 ∧ ¬ u = z := by revert hq; simp
      obtain ⟨rfl, hq2⟩ := hq
      have d4 : decide (u = z) = false := decide_eq_false hq2
      simp only [d4, decide_true, Bool.not_false, Bool.true_and, Bool.and_true] at hno hyes
      cases d5 : decide (z = -1) with
      | true =>
       rw [d5] at hno hyes
       (refine x_go (zc @rmC.eq_1 (zc @hxn (zc @hfn (zc @d5 (zc @Bool.false_or (zc @Bool.not_true (zc @Bool.false_and (zc @Int.toNat_natCast (zc @hgd (zc @hy @ppA.eq_1)))))))))) ?_)
       (refine Wp.rnD 21 ?_; apply exAb; (((refine x_abz (zc @rmC.eq_1 (zc @hxn (zc @hfn (zc @d5 (zc @Bool.false_or (zc @Bool.not_true (zc @Bool.false_and (zc @Int.toNat_natCast (zc @hgd (zc @hy @ppA.eq_1)))))))))) ?_); (first | ((apply Abn.pureP; (exact x_ev (zc @rmC.eq_1 (zc @hxn (zc @hfn (zc @d5 (zc @Bool.false_or (zc @Bool.not_true (zc @Bool.false_and (zc @Int.toNat_natCast (zc @hgd (zc @hy @ppA.eq_1))))))))))); (exact (Enters.of Tryz.func94 rfl rfl)); (exact hh); (exact x_al (zc @rmC.eq_1 (zc @hxn (zc @hfn (zc @d5 (zc @Bool.false_or (zc @Bool.not_true (zc @Bool.false_and (zc @Int.toNat_natCast (zc @hgd (zc @hy @ppA.eq_1))))))))))); (try dsimp only [putA, optG]))) | skip); (refine x_abz (zc @rmC.eq_1 (zc @hxn (zc @hfn (zc @d5 (zc @Bool.false_or (zc @Bool.not_true (zc @Bool.false_and (zc @Int.toNat_natCast (zc @hgd (zc @hy @ppA.eq_1)))))))))) ?_)); exact Abn.nil))
       (refine x_gg (zc @rmC.eq_1 (zc @hxn (zc @hfn (zc @d5 (zc @Bool.false_or (zc @Bool.not_true (zc @Bool.false_and (zc @Int.toNat_natCast (zc @hgd (zc @hy @ppA.eq_1)))))))))) ?_)
       (first | exact x_retA (zc @rmC.eq_1 (zc @hxn (zc @hfn (zc @d5 (zc @Bool.false_or (zc @Bool.not_true (zc @Bool.false_and (zc @Int.toNat_natCast (zc @hgd (zc @hy @ppA.eq_1)))))))))) | refine x_retAZ (zc @rmC.eq_1 (zc @hxn (zc @hfn (zc @d5 (zc @Bool.false_or (zc @Bool.not_true (zc @Bool.false_and (zc @Int.toNat_natCast (zc @hgd (zc @hy @ppA.eq_1)))))))))) ?_)
       rw [← hyes (by simp)]
       exact hVw _ ⟨x.ts, x.pp.set n z, x.at_⟩ _ _ rfl (by simp [List.map_set]) rfl rfl (by simp) _
      | false =>
       rw [d5] at hno hyes
       simp only [Bool.false_or] at hno hyes
       cases d6 : decide (z = x.at_) with
       | true =>
        rw [d6] at hno hyes
        simp only [Bool.true_and] at hno hyes
        (refine x_go (zc @rmC.eq_1 (zc @hxn (zc @hfn (zc @d5 (zc @d6 (zc @Bool.false_or (zc @Bool.not_true (zc @Bool.not_false (zc @Bool.true_and (zc @Bool.false_and (zc @Int.toNat_natCast (zc @hgd (zc @hy @ppA.eq_1))))))))))))) ?_)
        (refine Wp.rnD 21 ?_; apply exAb; (((refine x_abz (zc @rmC.eq_1 (zc @hxn (zc @hfn (zc @d5 (zc @d6 (zc @Bool.false_or (zc @Bool.not_true (zc @Bool.not_false (zc @Bool.true_and (zc @Bool.false_and (zc @Int.toNat_natCast (zc @hgd (zc @hy @ppA.eq_1))))))))))))) ?_); (first | ((apply Abn.pureP; (exact x_ev (zc @rmC.eq_1 (zc @hxn (zc @hfn (zc @d5 (zc @d6 (zc @Bool.false_or (zc @Bool.not_true (zc @Bool.not_false (zc @Bool.true_and (zc @Bool.false_and (zc @Int.toNat_natCast (zc @hgd (zc @hy @ppA.eq_1)))))))))))))); (exact (Enters.of Tryz.func94 rfl rfl)); (exact hh); (exact x_al (zc @rmC.eq_1 (zc @hxn (zc @hfn (zc @d5 (zc @d6 (zc @Bool.false_or (zc @Bool.not_true (zc @Bool.not_false (zc @Bool.true_and (zc @Bool.false_and (zc @Int.toNat_natCast (zc @hgd (zc @hy @ppA.eq_1)))))))))))))); (try dsimp only [putA, optG]))) | skip); (refine x_abz (zc @rmC.eq_1 (zc @hxn (zc @hfn (zc @d5 (zc @d6 (zc @Bool.false_or (zc @Bool.not_true (zc @Bool.not_false (zc @Bool.true_and (zc @Bool.false_and (zc @Int.toNat_natCast (zc @hgd (zc @hy @ppA.eq_1))))))))))))) ?_)); exact Abn.nil))
        (refine x_go (zc @rmC.eq_1 (zc @hxn (zc @hfn (zc @d5 (zc @d6 (zc @Bool.false_or (zc @Bool.not_true (zc @Bool.not_false (zc @Bool.true_and (zc @Bool.false_and (zc @Int.toNat_natCast (zc @hgd (zc @hy @ppA.eq_1))))))))))))) ?_)
        (apply Wp.cond; (exact x_ev (zc @rmC.eq_1 (zc @hxn (zc @hfn (zc @d5 (zc @d6 (zc @Bool.false_or (zc @Bool.not_true (zc @Bool.not_false (zc @Bool.true_and (zc @Bool.false_and (zc @Int.toNat_natCast (zc @hgd (zc @hy @ppA.eq_1)))))))))))))))
        ·intro hq
         (refine x_go (zc @rmC.eq_1 (zc @hxn (zc @hfn (zc @d5 (zc @d6 (zc @Bool.false_or (zc @Bool.not_true (zc @Bool.not_false (zc @Bool.true_and (zc @Bool.false_and (zc @Int.toNat_natCast (zc @hgd (zc @hy @ppA.eq_1))))))))))))) ?_)
         (first | exact x_retA (zc @rmC.eq_1 (zc @hxn (zc @hfn (zc @d5 (zc @d6 (zc @Bool.false_or (zc @Bool.not_true (zc @Bool.not_false (zc @Bool.true_and (zc @Bool.false_and (zc @Int.toNat_natCast (zc @hgd (zc @hy @ppA.eq_1))))))))))))) | refine x_retAZ (zc @rmC.eq_1 (zc @hxn (zc @hfn (zc @d5 (zc @d6 (zc @Bool.false_or (zc @Bool.not_true (zc @Bool.not_false (zc @Bool.true_and (zc @Bool.false_and (zc @Int.toNat_natCast (zc @hgd (zc @hy @ppA.eq_1))))))))))))) ?_)
         rw [← hno (by revert hq; simp)]
         exact hVw _ x _ _ rfl rfl rfl rfl rfl _
        ·intro hq
         (refine x_go (zc @rmC.eq_1 (zc @hxn (zc @hfn (zc @d5 (zc @d6 (zc @Bool.false_or (zc @Bool.not_true (zc @Bool.not_false (zc @Bool.true_and (zc @Bool.false_and (zc @Int.toNat_natCast (zc @hgd (zc @hy @ppA.eq_1))))))))))))) ?_)
         (first | exact x_retA (zc @rmC.eq_1 (zc @hxn (zc @hfn (zc @d5 (zc @d6 (zc @Bool.false_or (zc @Bool.not_true (zc @Bool.not_false (zc @Bool.true_and (zc @Bool.false_and (zc @Int.toNat_natCast (zc @hgd (zc @hy @ppA.eq_1))))))))))))) | refine x_retAZ (zc @rmC.eq_1 (zc @hxn (zc @hfn (zc @d5 (zc @d6 (zc @Bool.false_or (zc @Bool.not_true (zc @Bool.not_false (zc @Bool.true_and (zc @Bool.false_and (zc @Int.toNat_natCast (zc @hgd (zc @hy @ppA.eq_1))))))))))))) ?_)
         rw [← hyes (by revert hq; simp)]
         exact hVw _ ⟨x.ts, x.pp.set n z, x.at_⟩ _ _ rfl (by simp [List.map_set]) rfl rfl (by simp) _
       | false =>
        rw [d6] at hno hyes
        (refine x_go (zc @rmC.eq_1 (zc @hxn (zc @hfn (zc @d5 (zc @d6 (zc @Bool.false_or (zc @Bool.true_or (zc @Bool.not_true (zc @Bool.not_false (zc @Bool.true_and (zc @Bool.false_and (zc @Int.toNat_natCast (zc @hgd (zc @hy @ppA.eq_1)))))))))))))) ?_)
        (refine Wp.rnD 21 ?_; apply exAb; (((refine x_abz (zc @rmC.eq_1 (zc @hxn (zc @hfn (zc @d5 (zc @d6 (zc @Bool.false_or (zc @Bool.true_or (zc @Bool.not_true (zc @Bool.not_false (zc @Bool.true_and (zc @Bool.false_and (zc @Int.toNat_natCast (zc @hgd (zc @hy @ppA.eq_1)))))))))))))) ?_); (first | ((apply Abn.pureP; (exact x_ev (zc @rmC.eq_1 (zc @hxn (zc @hfn (zc @d5 (zc @d6 (zc @Bool.false_or (zc @Bool.true_or (zc @Bool.not_true (zc @Bool.not_false (zc @Bool.true_and (zc @Bool.false_and (zc @Int.toNat_natCast (zc @hgd (zc @hy @ppA.eq_1))))))))))))))); (exact (Enters.of Tryz.func94 rfl rfl)); (exact hh); (exact x_al (zc @rmC.eq_1 (zc @hxn (zc @hfn (zc @d5 (zc @d6 (zc @Bool.false_or (zc @Bool.true_or (zc @Bool.not_true (zc @Bool.not_false (zc @Bool.true_and (zc @Bool.false_and (zc @Int.toNat_natCast (zc @hgd (zc @hy @ppA.eq_1))))))))))))))); (try dsimp only [putA, optG]))) | skip); (refine x_abz (zc @rmC.eq_1 (zc @hxn (zc @hfn (zc @d5 (zc @d6 (zc @Bool.false_or (zc @Bool.true_or (zc @Bool.not_true (zc @Bool.not_false (zc @Bool.true_and (zc @Bool.false_and (zc @Int.toNat_natCast (zc @hgd (zc @hy @ppA.eq_1)))))))))))))) ?_)); exact Abn.nil))
        (refine x_gg (zc @rmC.eq_1 (zc @hxn (zc @hfn (zc @d5 (zc @d6 (zc @Bool.false_or (zc @Bool.true_or (zc @Bool.not_true (zc @Bool.not_false (zc @Bool.true_and (zc @Bool.false_and (zc @Int.toNat_natCast (zc @hgd (zc @hy @ppA.eq_1)))))))))))))) ?_)
        (first | exact x_retA (zc @rmC.eq_1 (zc @hxn (zc @hfn (zc @d5 (zc @d6 (zc @Bool.false_or (zc @Bool.true_or (zc @Bool.not_true (zc @Bool.not_false (zc @Bool.true_and (zc @Bool.false_and (zc @Int.toNat_natCast (zc @hgd (zc @hy @ppA.eq_1)))))))))))))) | refine x_retAZ (zc @rmC.eq_1 (zc @hxn (zc @hfn (zc @d5 (zc @d6 (zc @Bool.false_or (zc @Bool.true_or (zc @Bool.not_true (zc @Bool.not_false (zc @Bool.true_and (zc @Bool.false_and (zc @Int.toNat_natCast (zc @hgd (zc @hy @ppA.eq_1)))))))))))))) ?_)
        rw [← hno (by simp)]
        exact hVw _ x _ _ rfl rfl rfl rfl rfl _
    ·have hw : (decide ((0 : Int) ≤ nu) && decide (nu ≤ (r.pp.length : Int) - 1)) = false := by
      simp; omega
     rw [hw] at hno
     by_cases hneg : nu < 0
     ·have d1 : decide (nu < 0) = true := decide_eq_true hneg
      (refine x_gg (zc @rmC.eq_1 (zc @d1 @Bool.true_or)) ?_)
      (refine Wp.rnD 32 ?_; apply exAb; (((refine x_abz (zc @rmC.eq_1 (zc @d1 @Bool.true_or)) ?_)); exact Abn.nil))
      (refine x_gg (zc @rmC.eq_1 (zc @d1 @Bool.true_or)) ?_)
      (first | exact x_retA (zc @rmC.eq_1 (zc @d1 @Bool.true_or)) | refine x_retAZ (zc @rmC.eq_1 (zc @d1 @Bool.true_or)) ?_)
      rw [← hno (by simp)]
      exact hVw _ x _ _ rfl rfl rfl rfl rfl _
     ·have d1 : decide (nu < 0) = false := decide_eq_false hneg
      have d2 : decide ((r.pp.length : Int) ≤ nu) = true := decide_eq_true (by omega)
      (refine x_gg (zc @rmC.eq_1 (zc @d1 (zc @d2 (zc @Bool.true_or @Bool.false_or)))) ?_)
      (refine Wp.rnD 32 ?_; apply exAb; (((refine x_abz (zc @rmC.eq_1 (zc @d1 (zc @d2 (zc @Bool.true_or @Bool.false_or)))) ?_)); exact Abn.nil))
      (refine x_gg (zc @rmC.eq_1 (zc @d1 (zc @d2 (zc @Bool.true_or @Bool.false_or)))) ?_)
      (first | exact x_retA (zc @rmC.eq_1 (zc @d1 (zc @d2 (zc @Bool.true_or @Bool.false_or)))) | refine x_retAZ (zc @rmC.eq_1 (zc @d1 (zc @d2 (zc @Bool.true_or @Bool.false_or)))) ?_)
      rw [← hno (by simp)]
      exact hVw _ x _ _ rfl rfl rfl rfl rfl _
   ·rw [if_neg h3] at hno hyes
    have e3 : decide (kd = 3) = false := decide_eq_false h3
    (refine x_gg (zc @rmC.eq_1 (zc @e1 (zc @e2 @e3))) ?_)
    (first | exact x_retA (zc @rmC.eq_1 (zc @e1 (zc @e2 @e3))) | refine x_retAZ (zc @rmC.eq_1 (zc @e1 (zc @e2 @e3))) ?_)
    rw [← hno rfl]
    exact hVw _ x _ _ rfl rfl rfl rfl rfl _
end Go.Proofs.Tryz
set_option maxHeartbeats 16000000
namespace Go.Proofs.Tryz
open Go.Vg
theorem over_pure (f : St) (pl : List Int) (x : Sd) (h1 : x.ts.length ≤ 1000) (h2 : x.pp.length ≤ 1000) : Pure Tryz.prog 63 [stA f, sdA pl x] (.bool (ovB f pl x)) := by
 have c1 := sameInts_pure x.ts f.ts h1
 have c2 := sameInts_pure x.pp f.pp h2
 have e : ovB f pl x = (decide (x.at_ = 0) && decide (x.ts = f.ts) && decide (x.pp = f.pp)) := by
  unfold ovB rsB sdS
  rw [Bool.and_assoc]
 rw [e]
 unfold stA sdA
 (refine Spec.bd 0 Tryz.func63 Tryz.results63 Tryz.ntmps63 ?_; simp only [entry, zipArgs, Nat.reduceAdd])
 ((refine w_pre ?_); (iterate 3 (refine w_nr ?_)); (refine w_nil ?_))
 (refine w_fzP (slq 2) ?_)
 (refine w_fzP (slq 3) ?_)
 (refine w_go ?_)
 (apply Run.pureP; (exact w_ev); (exact (Enters.of Tryz.func25 rfl rfl)); (exact c1); (exact w_al); (try dsimp only [putA, optG]))
 (refine w_go ?_)
 (apply Run.pureP; (exact w_ev); (exact (Enters.of Tryz.func25 rfl rfl)); (exact c2); (exact w_al); (try dsimp only [putA, optG]))
 (refine w_go ?_)
 (first | exact w_ret | refine w_retZ ?_)
theorem lsB_ok {r : Rm} {s : St} (hv : RV r) (hs2 : SV r s) : SdOk r s.pl (lsB r s) := ⟨hs2, Int.le_refl _, by have := hv.ps; simp only [lsB]; omega⟩
end Go.Proofs.Tryz
namespace Go.Vg.Ek
open Go.RowKit
variable {P : Program}
structure EvP where
 n : Nat
 kn : FuncId → Option (Mem → List AV → Option (List AV × AV))
def vwB (m : Mem) : Nat → AV → AV → Bool
 | 0, _, _ => false
 | n + 1, x, y =>
  let go : List AV → List AV → Bool := fun xs ys => (List.zipWith (vwB m n) xs ys).all id && Nat.beq xs.length ys.length
  match x, y with
  | .osl id ver off len, .lst sz ys => (match rowM m id ver with
   | some (sz', l) => (match Nat.beq sz' sz, Nat.ble (off + len) l.length, Nat.ble 1 sz with
    | true, true, true => go ((l.drop off).take len) ys
    | _, _, _ => false)
   | none => false)
  | .optr id ver i j, .ref ys j' => (match Nat.beq j j', rowM m id ver with
   | true, some (_, l) => (match l[i]? with
    | some x => (match Nat.ble (j + 1) x.cells.length with
     | true => go x.cells ys
     | false => false)
    | none => false)
   | _, _ => false)
  | .agg xs, .agg ys => go xs ys
  | .emp, .lst _ [] => true
  | x, y => (match mxV x with
   | 0 => eqV x y
   | _ => false)
def vwBL (m : Mem) (n : Nat) (xs ys : List AV) : Bool := (List.zipWith (vwB m n) xs ys).all id && Nat.beq xs.length ys.length
theorem vwBL_of {m : Mem} {g : AV → AV → Bool} (hg : ∀ x y, g x y = true → Vw m x y) : ∀ {xs ys : List AV}, ((List.zipWith g xs ys).all id && Nat.beq xs.length ys.length) = true → VwL m xs ys
 | [], [], _ => .nil
 | [], _ :: _, h => by simp at h
 | _ :: _, [], h => by simp at h
 | x :: xs, y :: ys, h => by
  simp only [List.zipWith_cons_cons, List.all_cons, id, Bool.and_eq_true, List.length_cons, Nat.beq_eq] at h
  refine .cons (hg x y h.1.1) (vwBL_of hg ?_)
  simp only [Bool.and_eq_true, Nat.beq_eq]
  exact ⟨h.1.2, by omega⟩
theorem vwB_ok {m : Mem} : ∀ (n : Nat) (x y : AV), vwB m n x y = true → Vw m x y
 | 0, x, y, h => by cases h
 | n + 1, x, y, h => by
  have ih := fun x y => vwB_ok (m := m) n x y
  unfold vwB at h
  simp only at h
  split at h
  ·split at h
   ·rename_i sz' l hr
    split at h
    ·rename_i h1 h2 h3
     rw [Nat.beq_eq] at h1
     rw [Nat.ble_eq] at h2 h3
     subst h1
     exact .osl (rowM_ok hr) h2 (by omega) (vwBL_of ih h)
    ·cases h
   ·cases h
  ·split at h
   ·rename_i sz' l h1 hr
    rw [Nat.beq_eq] at h1
    subst h1
    split at h
    ·rename_i x hx
     split at h
     ·rename_i hj
      rw [Nat.ble_eq] at hj
      exact .optr (rowM_ok hr) hx (by omega) (vwBL_of ih h)
     ·cases h
    ·cases h
   ·cases h
  ·exact .agg (vwBL_of ih h)
  ·exact .emp
  ·split at h
   ·rename_i h0
    have e := eqV_ok _ _ h
    subst e
    exact .self (mxV_ok _ (by omega))
   ·cases h
def xF (P : Program) (nf : EvP) (ih : Code → S → Option (Exit × S)) (f : FuncId) (args : List AV) (m : Mem) : Option (AV × Mem) :=
 match nf.kn f with
 | some g =>
  match g m args with
  | some (va, x) =>
   match vwBL m 20 args va, plainB x with
   | true, true => some (x, m)
   | _, _ => none
  | none => none
 | none =>
 match Nat.ble (f + 1) nf.n, P.funcs[f]? with
 | true, some fn =>
  match fn.body, Nat.ble args.length fn.ntmps with
  | some c, true =>
   match ih c (entry args m fn.ntmps) with
   | some (.normal, s) => leaveC P fn.results.toList m.length s
   | some (.ret, s) => leaveC P fn.results.toList m.length s
   | _ => none
  | _, _ => none
 | _, _ => none
def Named (P : Program) (nf : EvP) : Prop := Go.Vg.Named P nf.n ∧ ∀ f g, nf.kn f = some g → Enters P f ∧ ∀ m args va x, g m args = some (va, x) → Pure P f va x
def Sound (P : Program) (ih : Code → S → Option (Exit × S)) : Prop := ∀ (r : Option Nat) (c : Code) (s s' : S) (e : Exit) (Q : Exit → S → Prop), ih c s = some (e, s') → Q e s' → Wp P r c Q s
def xO1 (P : Program) (nf : EvP) (ih : Code → S → Option (Exit × S)) (s : S) (dst : Option Nat) (op : Op) : Option S :=
 match op with
 | .call ⟨.value fo, args, tys⟩ => (match calleeC (evoC s.t fo) with
  | some (f, fs, cs) => (match xF P nf ih f (fs ++ (args.toList.map (evoC s.t) ++ cs)) s.m with
   | some (x, m') => some (putA ⟨s.t, m', s.n, s.d⟩ dst x)
   | none => none)
  | none => none)
 | op => match opC P s.t s.m op with
  | some (m', x) => fV x fun x => some (putA ⟨s.t, m', s.n, s.d⟩ dst x)
  | none => none
def xO (P : Program) (nf : EvP) (ih : Code → S → Option (Exit × S)) (gds : List (Option Nat)) (s : S) (o : Oper) : Option S :=
 match o.guard with
 | none => xO1 P nf ih s o.dst o.op
 | some g => match gvalC gds s.t g with
  | some true => xO1 P nf ih s o.dst o.op
  | some false => (match isDefer o.op with
   | true => none
   | false => some (putA s o.dst (.opt false (.bool false))))
  | none => none
def xL (P : Program) (nf : EvP) (ih : Code → S → Option (Exit × S)) (gds : List (Option Nat)) : List Oper → S → Option S
 | [], s => some s
 | o :: l, s => match xO P nf ih gds s o with
  | some s1 => xL P nf ih gds l s1
  | none => none
section
variable {gds : List (Option Nat)} {nf : EvP} {ih : Code → S → Option (Exit × S)} (hE : Named P nf) (hs : Sound P ih)
include hE hs
end
def xN1 (P : Program) (nf : EvP) (ih : Code → S → Option (Exit × S)) (s : S) (op : Op) : Option AV :=
 match op with
 | .call ⟨.value fo, args, tys⟩ => (match fnOf (evoC s.t fo) with
  | some (f, caps) => (match Nat.beq (mxL ((args.toList.map (evoC s.t) ++ caps).map (view s.m))) 0 with
   | true => (match xF P nf ih f ((args.toList.map (evoC s.t) ++ caps).map (view s.m)) [] with
    | some (x, []) => (match plainB x with
     | true => some x
     | false => none)
    | _ => none)
   | false => none)
  | none => none)
 | .pick c a b => (match evoC s.t c with
  | .val (.bool true) => some (evoC s.t a)
  | .val (.bool false) => some (evoC s.t b)
  | _ => none)
 | op => match evC P s.t s.m op with
  | some x => some x
  | none => match bldC P s.t op with
   | some (sz, xs) => some (.lst sz xs)
   | none => none
def xN (P : Program) (nf : EvP) (ih : Code → S → Option (Exit × S)) (gds : List (Option Nat)) : List Oper → S → Option S
 | [], s => some s
 | o :: l, s =>
  match (match o.guard with
   | none => xN1 P nf ih s o.op
   | some g => (match gvalC gds s.t g with
    | some true => xN1 P nf ih s o.op
    | some false => (match isDefer o.op with
     | true => none
     | false => some (.opt false (.bool false)))
    | none => none)) with
  | some x => fV x fun x => xN P nf ih gds l (putA s o.dst x)
  | none => none
section
variable {gds : List (Option Nat)} {nf : EvP} {ih : Code → S → Option (Exit × S)} (hE : Named P nf) (hs : Sound P ih)
include hE hs
end
def stepX1 (P : Program) (nf : EvP) (ih : Code → S → Option (Exit × S)) (t : List (Nat × AV)) (m : Mem) (op : Op) (aid : Nat) : Option (AV × Option Mem) :=
 match isAlc op with
 | true => (match alcC P t op, getM m aid with
  | some (sz, l, q), some e => setM m aid ⟨e.ver + 1, .row sz l⟩ fun m' => some (alcV aid (e.ver + 1) q, some m')
  | _, _ => none)
 | false =>
  match op with
  | .call ⟨.value fo, args, tys⟩ => (match fnOf (evoC t fo) with
   | some (f, caps) => (match xF P nf ih f (args.toList.map (evoC t) ++ caps) m with
    | some (x, m') => (match eqM m' m with
     | true => some (x, none)
     | false => some (x, some m'))
    | none => none)
   | none => none)
  | .pick c a b => (match evoC t c with
   | .val (.bool true) => some (evoC t a, none)
   | .val (.bool false) => some (evoC t b, none)
   | _ => none)
  | op => (match evC P t m op with
   | some x => some (x, none)
   | none => (match effC P t m op with
    | some (m', x) => some (x, some m')
    | none => none))
def stepX (P : Program) (nf : EvP) (ih : Code → S → Option (Exit × S)) (gds : List (Option Nat)) (t : List (Nat × AV)) (m : Mem) (o : Oper) (aid : Nat) : Option (AV × Option Mem) :=
 match o.guard with
 | none => stepX1 P nf ih t m o.op aid
 | some g => (match gvalC gds t g with
  | some true => stepX1 P nf ih t m o.op aid
  | some false => (match isDefer o.op with
   | true => none
   | false => some (.opt false (.bool false), none))
  | none => none)
section
variable {gds : List (Option Nat)} {nf : EvP} {ih : Code → S → Option (Exit × S)} (hE : Named P nf) (hs : Sound P ih)
include hE hs
end
structure Rec where
 t : List (Nat × AV)
 m : Mem
 o : Oper
 aid : Nat
 x : AV
 om : Option Mem
def ChainX (P : Program) (nf : EvP) (ih : Code → S → Option (Exit × S)) (gds : List (Option Nat)) : List Rec → List Oper → List (Nat × AV) → Mem → List (Nat × AV) → Prop
 | [], [], t, _, t' => t = t'
 | r :: rs, o :: l, t, m, t' => r.t = t ∧ r.m = m ∧ r.o = o ∧ stepX P nf ih gds r.t r.m r.o r.aid = some (r.x, r.om) ∧ ChainX P nf ih gds rs l (upd t o.dst r.x) (r.om.getD m) t'
 | _, _, _, _, _ => False
def firstX (P : Program) (nf : EvP) (ih : Code → S → Option (Exit × S)) (gds : List (Option Nat)) : List Oper → List (Nat × AV) → Mem → Nat → Option (List Rec × List (Nat × AV))
 | [], t, _, _ => some ([], t)
 | o :: l, t, m, aid =>
  match stepX P nf ih gds t m o aid with
  | some (x, om) => fV x fun x =>
   (match firstX P nf ih gds l (upd t o.dst x) (om.getD m) (match isAlc o.op with
    | true => aid + 1
    | false => aid) with
   | some (rs, t') => some (⟨t, m, o, aid, x, om⟩ :: rs, t')
   | none => none)
  | none => none
def effIdx : List Rec → Nat → List Nat
 | [], _ => []
 | r :: l, k => match r.om with
  | some _ => fN k fun k => k :: effIdx l (k + 1)
  | none => effIdx l (k + 1)
def effRec : List Rec → List Rec
 | [] => []
 | r :: l => match r.om with
  | some _ => r :: effRec l
  | none => effRec l
def lastM : List Rec → List Bool → Mem → Option Mem
 | r :: rs, true :: bs, m => lastM rs bs (r.om.getD m)
 | _, bs, m => match bs.any id with
  | true => none
  | false => some m
def foldM (P : Program) (gds : List (Option Nat)) : List Rec → List Bool → Mem → Mem
 | r :: rs, b :: bs, m => (match b with
  | true => (match stepX P ⟨0, fun _ => none⟩ (fun _ _ => none) gds r.t m r.o r.aid with
   | some (_, some m') => foldM P gds rs bs m'
   | _ => foldM P gds rs bs m)
  | false => foldM P gds rs bs m)
 | _, _, m => m
def memOf (P : Program) (gds : List (Option Nat)) (rs : List Rec) (mv : Mem) (bits : List Bool) : Mem :=
 match lastM rs bits mv with
 | some m => m
 | none => foldM P gds rs bits mv
def aimX (es : List Nat) (mem : List Bool → Mem) (k : Nat) (b : List Bool) : Option Mem → Bool
 | none => (match es.contains k with
  | false => true
  | true => eqM (mem b) (mem (setB es k b)))
 | some m' => eqM m' (mem (setB es k b))
def allX (P : Program) (nf : EvP) (ih : Code → S → Option (Exit × S)) (gds : List (Option Nat)) (es : List Nat) (mem : List Bool → Mem) (k : Nat) (r : Rec) : List (List Bool) → Bool
 | [] => true
 | b :: bs =>
  match (match (match r.om, r.o.op with
    | some _, _ => eqM r.m (mem b)
    | none, .call ⟨.value _, _, _⟩ => eqM r.m (mem b)
    | _, _ => false) with
   | true => aimX es mem k b r.om
   | false => (match stepX P nf ih gds r.t (mem b) r.o r.aid with
    | some (y, om) => (match eqV y r.x with
     | true => aimX es mem k b om
     | false => false)
    | none => false)) with
  | true => allX P nf ih gds es mem k r bs
  | false => false
def xM2 (P : Program) (nf : EvP) (ih : Code → S → Option (Exit × S)) (gds : List (Option Nat)) (ops : List Oper) (es : List Nat) (mem : List Bool → Mem) (n : Nat) : List Rec → Nat → Bool
 | [], _ => true
 | r :: rs, k =>
  match allX P nf ih gds es mem k r (consL ops es k), dstB n r.o.dst with
  | true, true => xM2 P nf ih gds ops es mem n rs (k + 1)
  | _, _ => false
def vacs (n : Nat) : Mem := List.replicate n ⟨0, .row 1 []⟩
def xM (P : Program) (nf : EvP) (ih : Code → S → Option (Exit × S)) (ops : List Oper) (s : S) : Option S :=
 match (ops.map (·.dst)).all (dstB s.n), ordB (ops.map (·.dst)) ops ops.length with
 | true, true =>
  fM (s.m.length + alcNo ops) (s.m ++ vacs (alcNo ops)) fun mv =>
  (match firstX P nf ih (ops.map (·.dst)) ops s.t mv s.m.length with
  | some (rs, t) =>
   (match xM2 P nf ih (ops.map (·.dst)) ops (effIdx rs 0) (memOf P (ops.map (·.dst)) (effRec rs) mv) s.n rs 0, (effIdx rs 0).all (fun e => Nat.ble (e + 1) ops.length) with
   | true, true => fM (memOf P (ops.map (·.dst)) (effRec rs) mv ((effIdx rs 0).map fun _ => true)).length (memOf P (ops.map (·.dst)) (effRec rs) mv ((effIdx rs 0).map fun _ => true)) fun m => some ⟨t, m, s.n, s.d⟩
   | _, _ => none)
  | none => none)
 | _, _ => none
section
variable {gds : List (Option Nat)} {nf : EvP} {ih : Code → S → Option (Exit × S)} (hE : Named P nf) (hs : Sound P ih)
include hE hs
theorem aimX_ok {es : List Nat} {mem : List Bool → Mem} {k : Nat} {b : List Bool} {om : Option Mem} (hl : b.length = es.length) (h : aimX es mem k b om = true) : mem (setB es k b) = om.getD (mem b) := by
 cases om with
 | none =>
  simp only [aimX] at h
  split at h
  ·rename_i hc
   rw [setB_not hc b hl]; rfl
  ·exact (eqM_ok h).symm
 | some m' => exact (eqM_ok h).symm
end
def keysC : List (Nat × AV) → List Nat → List Nat
 | [], acc => acc
 | (k, _) :: t, acc => match acc.any fun j => Nat.beq j k with
  | true => keysC t acc
  | false => keysC t (k :: acc)
def restr {α : Type} (t : List (Nat × AV)) : List Nat → (List (Nat × AV) → α) → α
 | [], k => k []
 | j :: js, k => fV (lookB t j) fun x => restr t js fun l => k ((j, x) :: l)
theorem restr_eq {α : Type} (t : List (Nat × AV)) : ∀ (js : List Nat) (k : List (Nat × AV) → α), restr t js k = k (js.map fun j => (j, look t j))
 | [], _ => rfl
 | j :: js, k => by simp [restr, fV_eq, restr_eq t js, lookB_eq]
def xLoop (ih : Code → S → Option (Exit × S)) (c : Code) (ks : List Nat) (n : Nat) : S → Option (Exit × S) :=
 Nat.rec (fun _ => none) (fun _ go s => match ih c s with
  | some (.normal, s1) => restr s1.t ks fun t => go ⟨t, s1.m, s1.n, s1.d⟩
  | r => r) n
def stepC (P : Program) (nf : EvP) (n : Nat) (ih : Code → S → Option (Exit × S)) (c : Code) (s : S) : Option (Exit × S) :=
 match c with
 | .skip => some (.normal, s)
 | .exit id => some (.exit id, s)
 | .ret => some (.ret, s)
 | .seq a b => (match ih a s with
  | some (.normal, s1) => ih b s1
  | r => r)
 | .block id c => (match ih c s with
  | some (.exit id', s1) => (match Nat.beq id' id with
   | true => some (.normal, s1)
   | false => some (.exit id', s1))
  | r => r)
 | .cond c a b => (match evoC s.t c with
  | .val (.bool true) => ih a s
  | .val (.bool false) => ih b s
  | _ => none)
 | .loop c => restr s.t (keysC s.t []) fun t => xLoop ih c (keysC s.t []) n ⟨t, s.m, s.n, s.d⟩
 | .region _ ops false =>
  (match (ops.toList.map (·.dst)).all (dstB s.n) with
  | true => (match xL P nf ih (ops.toList.map (·.dst)) ops.toList s with
   | some s1 => some (.normal, s1)
   | none => none)
  | false => none)
 | .region _ ops true =>
  (match (ops.toList.map (·.dst)).all (dstB s.n), drawB (ops.toList.map (·.dst)) ops.toList (calmN ops.toList) with
  | true, false => (match xM P nf ih ops.toList s with
   | some s1 => some (.normal, s1)
   | none => none)
  | true, true => (match xN P nf ih (ops.toList.map (·.dst)) (ops.toList.take (calmN ops.toList)) s with
   | some s1 => (match xL P nf ih (ops.toList.map (·.dst)) (ops.toList.drop (calmN ops.toList)) s1 with
    | some s2 => some (.normal, s2)
    | none => none)
   | none => (match xM P nf ih ops.toList s with
    | some s1 => some (.normal, s1)
    | none => none))
  | _, _ => none)
 | _ => none
def xC (P : Program) (nf : EvP) (n : Nat) : Code → S → Option (Exit × S) := Nat.rec (fun _ _ => none) (fun n ih => stepC P nf n ih) n
end Go.Vg.Ek
set_option maxHeartbeats 16000000
namespace Go.Proofs.Tryz
open Go.Vg
theorem namedEv : Named Tryz.prog 201 := namedB_ok (by kernel_rfl)
theorem xFw_pure {f : FuncId} {args : List AV} {y : AV} (h : (match xF Tryz.prog 201 (xC Tryz.prog 201 100000) f args [] with
  | some (x, m) => Ek.vwB m 20 x y
  | none => false) = true) : Pure Tryz.prog f args y := by
 split at h
 ·rename_i x m hx
  refine Spec.frz ((xF_spec namedEv mixed hx).mono fun x' m' h' => ?_)
  obtain ⟨rfl, rfl⟩ := h'
  exact Ek.vwB_ok _ _ _ h
 ·cases h
def exR : Rm := ⟨[⟨#[104, 97, 108, 108]⟩, ⟨#[118, 97, 117, 108, 116]⟩], [⟨⟨#[98, 111, 120]⟩, 0, 2, 0⟩, ⟨⟨#[100, 111, 111, 114]⟩, 0, 2, 0⟩], [⟨⟨#[107, 101, 121]⟩, 0, [⟨0, 1, false⟩]⟩], [⟨0, 1, [⟨1, 1, false⟩]⟩], [⟨⟨#[111, 112, 101, 110]⟩, 0, 0, [], [], [⟨0, 1⟩], [], []⟩, ⟨⟨#[116, 117, 114, 110]⟩, 0, -1, [0], [], [⟨1, 1⟩], [0], []⟩], [], 1, []⟩
def exS : St := ⟨[1, 1], [-1], [0]⟩
theorem example_pure : Pure Tryz.prog 45 [] (rmA exR) := xFw_pure (by kernel_rfl)
end Go.Proofs.Tryz
set_option maxHeartbeats 16000000
namespace Go.Proofs.Tryz
open Go.Vg
theorem exBeg : begE exR exS = 0 := by kernel_rfl
theorem exLe : ∃ t, (leT exR exS).1 = 0 ∧ (leT exR exS).2 = [⟨2, 1, 0⟩, ⟨3, 0, 0⟩, t] := by
 refine ⟨((leT exR exS).2.getD 2 tk0), by kernel_rfl, by kernel_rfl⟩
theorem exSz : Sz exR := farB_Sz (by kernel_rfl)
theorem exZs : Zs exS := ⟨by simp [exS], by simp [exS], by simp [exS]⟩
theorem works_pure : Pure Tryz.prog 15 [] (.bool true) := by
 have h1 := example_pure
 have h2 := least_ok exSz exZs exBeg
 obtain ⟨t, e1, e2⟩ := exLe
 rw [e1, e2] at h2
 unfold stA exS at h2
 simp only at h2
 unfold rmA rmC at h1 h2
 simp only [List.map_cons, List.map_nil, tkA] at h2
 (refine Spec.bd 0 Tryz.func15 Tryz.results15 Tryz.ntmps15 ?_; simp only [entry, zipArgs, Nat.reduceAdd])
 (refine w_go ?_)
 (apply Run.pureFP; (exact w_ev); (exact (Enters.of Tryz.func45 rfl rfl)); (exact h1); (exact w_al); (try dsimp only [putA, optG]))
 (refine w_go ?_)
 (apply Run.pureFP; (exact w_ev); (exact (Enters.of Tryz.func16 rfl rfl)); (exact h2); (exact w_al); (try dsimp only [putA, optG]))
 (refine w_gg ?_)
 (first | exact w_ret | refine w_retZ ?_)
end Go.Proofs.Tryz
set_option maxHeartbeats 16000000
namespace Go.Proofs.Tryz
open Go.Vg
theorem Spec.pre {P : Program} {C : Prop} {f : FuncId} {args : List AV} {m : Mem} {Q : AV → Mem → Prop} (hC : ∀ X w ρ vs, Rvals X w ρ args vs → C) (h : C → Go.Vg.Spec P f args m Q) : Go.Vg.Spec P f args m Q := fun X w ρ vs hi hr => h (hC X w ρ vs hr) X w ρ vs hi hr
theorem ints_len {X : Nat → Prop} {w : World} {ρ : Rho} {l : List Int} {v : Value} (h : R X w ρ (.ints l) v) : l.length ≤ 9223372036854775807 := by
 obtain ⟨A, c, _, h1, h2, _⟩ := h
 rw [List.length_map] at h1
 unfold maxLen at h2
 omega
structure Ln (s : St) : Prop where
 ts : s.ts.length ≤ 9223372036854775807
 pp : s.pp.length ≤ 9223372036854775807
 pl : s.pl.length ≤ 9223372036854775807
theorem st_len {X : Nat → Prop} {w : World} {ρ : Rho} {s : St} {v : Value} (h : R X w ρ (stA s) v) : Ln s := by
 obtain ⟨vs, _, v1, _, _, h1, v2, _, _, h2, v3, _, _, h3, _⟩ := h
 exact ⟨ints_len h1, ints_len h2, ints_len h3⟩
def awB (s : St) : Bool := decide (30 < (s.ts.length : Int)) || decide (30 < (s.pp.length : Int)) || decide (30 < (s.pl.length : Int))
theorem awB_Zs {s : St} (h : awB s = false) : Zs s := by
 unfold awB at h
 simp only [Bool.or_eq_false_iff, decide_eq_false_iff_not] at h
 exact ⟨by omega, by omega, by omega⟩
theorem Away_pure {s : St} (h : Ln s) : Pure Tryz.prog 14 [stA s] (.bool (awB s)) := away_pure s h.ts h.pp h.pl
end Go.Proofs.Tryz
set_option maxHeartbeats 16000000
namespace Go.Proofs.Tryz
open Go.Vg
end Go.Proofs.Tryz
set_option maxHeartbeats 16000000
namespace Go.Proofs.Tryz
open Go.Vg
end Go.Proofs.Tryz
set_option maxHeartbeats 16000000
namespace Go.Proofs.Tryz
open Go.Vg
theorem rtasks_pure {r : Rm} (hv : RV r) : Pure Tryz.prog 60 [rmA r] (.lst 3 ((tkL r).map tkA)) := by
 have z1 := hv.wy
 have z2 := hv.ts
 have z3 := hv.pp
 have hss := fun x hx => (hv.tsv x hx).2.1
 unfold tkL rmA
 (refine Spec.bd 0 Tryz.func60 Tryz.results60 Tryz.ntmps60 ?_; simp only [entry, zipArgs, Nat.reduceAdd])
 ((refine x_pre @rmC.eq_1 ?_); (iterate 2 (refine x_nr @rmC.eq_1 ?_)); (refine x_nil @rmC.eq_1 ?_))
 (refine x_fzP @rmC.eq_1 (slq 1) ?_)
 (refine x_go @rmC.eq_1 ?_)
 apply Wp.adopt 3 3; (exact x_ev @rmC.eq_1)
 refine Wp.loop (fun k : Nat => { t := [(1, .ref (rmC r) 0), (3, .osl 1 (tkW k).length 0 (tkW k).length), (4, .int k)], m := [⟨1, .row 8 []⟩, ⟨(tkW k).length, .row 3 ((tkW k).map tkA)⟩], n := 56 }) (fun k => k ≤ r.wy.length) (fun k => r.wy.length - k) 0 ?_ ?_ ?_
 ·(refine Le.of ?_ ?_ rfl rfl <;> (try simp only [push_cast, seval, rmC]) <;> (try (with_reducible rfl)))
  all_goals (first | exact ⟨rfl, rfl⟩ | rfl)
 ·exact Nat.zero_le _
 ·intro k hk1
  (refine x_go @rmC.eq_1 ?_)
  (apply Wp.cond; (exact x_ev @rmC.eq_1))
  ·(intro hc; first | replace hc := bT hc | skip)
   have hst := tkW_succ k
   have hul := tkW_len k
   generalize tkW k = U at hst hul
   have hU : U.take U.length = U := List.take_length
   (refine x_go (zc @rmC.eq_1 (zc @lenMp @hU)) ?_)
   refine ⟨k + 1, ?_, by omega, by omega⟩
   simp only [hst, List.length_append, List.length_singleton, List.map_append, List.map_cons, List.map_nil, tkA]
   (refine Le.of ?_ ?_ rfl rfl <;> (try simp only [push_cast, seval, rmC, List.length_map, hU]) <;> (try (with_reducible rfl)))
  ·(intro hc; first | replace hc := bT hc | skip)
   obtain rfl : k = r.wy.length := by omega
   have hWl := tkW_len r.wy.length
   generalize tkW r.wy.length = W at *
   (refine x_go @rmC.eq_1 ?_)
   refine Wp.loop (fun k : Nat => { t := [(1, .ref (rmC r) 0), (3, .osl 1 (W ++ tkT r.ts k).length 0 (W ++ tkT r.ts k).length), (5, .int k)], m := [⟨1, .row 8 []⟩, ⟨(W ++ tkT r.ts k).length, .row 3 ((W ++ tkT r.ts k).map tkA)⟩], n := 56 }) (fun k => k ≤ r.ts.length) (fun k => r.ts.length - k) 0 ?_ ?_ ?_
   ·have e0 : W ++ tkT r.ts 0 = W := by simp [tkT]
    simp only [e0]
    (refine Le.of ?_ ?_ rfl rfl <;> (try simp only [push_cast, seval, rmC]) <;> (try (with_reducible rfl)))
    all_goals (first | exact ⟨rfl, rfl⟩ | rfl)
   ·exact Nat.zero_le _
   ·intro k hk1
    (refine x_go @rmC.eq_1 ?_)
    (apply Wp.cond; (exact x_ev @rmC.eq_1))
    ·(intro hc; first | replace hc := bT hc | skip)
     have hst := tkT_succ r.ts k
     have hul := tkT_len r.ts (fun x hx => (hss x hx).2) k (by omega)
     have hgd := fun d => getD_thE (d := d) hc
     have hsx := hss (r.ts.getD k th0) (by rw [show r.ts.getD k th0 = r.ts[k] by simp [hc]]; exact List.getElem_mem _)
     obtain ⟨x, hx⟩ : ∃ x, r.ts.getD k th0 = x := ⟨_, rfl⟩
     simp only [hx] at hst hgd hsx
     have hUl : (W ++ tkT r.ts k).length ≤ 100 := by rw [List.length_append]; omega
     have hst2 : W ++ tkT r.ts (k + 1) = W ++ tkT r.ts k ++ tkS k x.ss.toNat := by rw [hst, List.append_assoc]
     generalize W ++ tkT r.ts k = U at hst2 hUl
     (refine x_go (zc @rmC.eq_1 (zc @lenMp (zc @hgd @thA.eq_1))) ?_)
     refine Wp.loop (fun j : Nat => { t := [(1, .ref (rmC r) 0), (3, .osl 1 (U ++ tkS k j).length 0 (U ++ tkS k j).length), (5, .int k), (6, .int j)], m := [⟨1, .row 8 []⟩, ⟨(U ++ tkS k j).length, .row 3 ((U ++ tkS k j).map tkA)⟩], n := 56 }) (fun j => (j : Int) ≤ x.ss) (fun j => x.ss.toNat - j) 0 ?_ ?_ ?_
     ·have e0 : U ++ tkS k 0 = U := by simp [tkS]
      simp only [e0]
      (refine Le.of ?_ ?_ rfl rfl <;> (try simp only [push_cast, seval, rmC, List.length_map, hgd, thA]) <;> (try (with_reducible rfl)))
      all_goals (first | exact ⟨rfl, rfl⟩ | rfl)
     ·simp; omega
     ·intro j hj
      (refine x_go (zc @rmC.eq_1 (zc @lenMp (zc @hgd @thA.eq_1))) ?_)
      (apply Wp.cond; (exact x_ev (zc @rmC.eq_1 (zc @lenMp (zc @hgd @thA.eq_1)))))
      ·intro hc2
       have hc2 : (j : Int) < x.ss := by simpa using hc2
       have hst3 : U ++ tkS k (j + 1) = U ++ tkS k j ++ [⟨2, k, j⟩] := by rw [tkS_succ, List.append_assoc]
       have hVl : (U ++ tkS k j).length ≤ 106 := by rw [List.length_append, tkS_len]; omega
       generalize U ++ tkS k j = V at hst3 hVl
       have hV : V.take V.length = V := List.take_length
       (refine x_go (zc @rmC.eq_1 (zc @lenMp (zc @hgd (zc @thA.eq_1 @hV)))) ?_)
       refine ⟨j + 1, ?_, by omega, by omega⟩
       simp only [hst3, List.length_append, List.length_singleton, List.map_append, List.map_cons, List.map_nil, tkA]
       (refine Le.of ?_ ?_ rfl rfl <;> (try simp only [push_cast, seval, rmC, List.length_map, hgd, thA, hV]) <;> (try (with_reducible rfl)))
      ·intro hc2
       have hc2 : ¬ (j : Int) < x.ss := by simpa using hc2
       have e4 : x.ss.toNat = j := by omega
       rw [e4] at hst2
       (refine x_go (zc @rmC.eq_1 (zc @lenMp (zc @hgd @thA.eq_1))) ?_)
       refine ⟨k + 1, ?_, by omega, by omega⟩
       simp only [hst2]
       (refine Le.of ?_ ?_ rfl rfl <;> (try simp only [push_cast, seval, rmC, List.length_map, hgd, thA]) <;> (try (with_reducible rfl)))
       all_goals rfl
    ·(intro hc; first | replace hc := bT hc | skip)
     obtain rfl : k = r.ts.length := by omega
     have hul := tkT_len r.ts (fun x hx => (hss x hx).2) r.ts.length (by omega)
     have hUl : (W ++ tkT r.ts r.ts.length).length ≤ 100 := by rw [List.length_append]; omega
     generalize W ++ tkT r.ts r.ts.length = U at *
     (refine x_go @rmC.eq_1 ?_)
     refine Wp.loop (fun j : Nat => { t := [(1, .ref (rmC r) 0), (3, .osl 1 (U ++ tkP j).length 0 (U ++ tkP j).length), (7, .int j)], m := [⟨1, .row 8 []⟩, ⟨(U ++ tkP j).length, .row 3 ((U ++ tkP j).map tkA)⟩], n := 56 }) (fun j => j ≤ r.pp.length) (fun j => r.pp.length - j) 0 ?_ ?_ ?_
     ·have e0 : U ++ tkP 0 = U := by simp [tkP]
      simp only [e0]
      (refine Le.of ?_ ?_ rfl rfl <;> (try simp only [push_cast, seval, rmC]) <;> (try (with_reducible rfl)))
      all_goals (first | exact ⟨rfl, rfl⟩ | rfl)
     ·exact Nat.zero_le _
     ·intro j hj
      (refine x_go @rmC.eq_1 ?_)
      (apply Wp.cond; (exact x_ev @rmC.eq_1))
      ·(intro hc; first | replace hc := bT hc | skip)
       have hst3 : U ++ tkP (j + 1) = U ++ tkP j ++ [⟨3, j, 0⟩] := by rw [tkP_succ, List.append_assoc]
       have hVl : (U ++ tkP j).length ≤ 110 := by rw [List.length_append, tkP_len]; omega
       generalize U ++ tkP j = V at hst3 hVl
       have hV : V.take V.length = V := List.take_length
       (refine x_go (zc @rmC.eq_1 (zc @lenMp @hV)) ?_)
       refine ⟨j + 1, ?_, by omega, by omega⟩
       simp only [hst3, List.length_append, List.length_singleton, List.map_append, List.map_cons, List.map_nil, tkA]
       (refine Le.of ?_ ?_ rfl rfl <;> (try simp only [push_cast, seval, rmC, List.length_map, hV]) <;> (try (with_reducible rfl)))
      ·(intro hc; first | replace hc := bT hc | skip)
       obtain rfl : j = r.pp.length := by omega
       (refine x_mv @rmC.eq_1 ?_)
       (apply Wp.freeze 3; (exact x_ev @rmC.eq_1); (exact x_ev @rmC.eq_1); (focus (try simp only [push_cast, seval, rmC]); (try (exact sT))); (focus (exact sT)))
       (refine x_go @rmC.eq_1 ?_)
       (first | exact x_ret @rmC.eq_1 | refine x_retZ @rmC.eq_1 ?_)
       ·rw [okL_tk]; trivial
end Go.Proofs.Tryz
set_option maxHeartbeats 16000000
namespace Go.Proofs.Tryz
open Go.Vg
def dmL (G H : Nat → Int) (N i : Nat) : List Int := (List.range N).map fun c => if c < i then G c else H c
theorem dmL_len (G H : Nat → Int) (N i : Nat) : (dmL G H N i).length = N := by simp [dmL]
theorem dmL_getD {G H : Nat → Int} {N i c : Nat} (h : c < N) : (dmL G H N i).getD c 0 = if c < i then G c else H c := by simp [dmL, h]
theorem dmL_zero (G H : Nat → Int) (N : Nat) : dmL G H N 0 = (List.range N).map H := by simp [dmL]
theorem dmL_all (G H : Nat → Int) (N : Nat) : dmL G H N N = (List.range N).map G := by
 unfold dmL
 refine List.map_congr_left fun c hc => ?_
 rw [if_pos (List.mem_range.1 hc)]
theorem dmL_set {G H : Nat → Int} {N i : Nat} (h : i < N) : (dmL G H N i).set i (G i) = dmL G H N (i + 1) := by
 apply List.ext_getElem?
 intro c
 rw [List.getElem?_set]
 unfold dmL
 by_cases hc : i = c
 ·subst hc
  simp [h]
 ·rw [if_neg hc]
  by_cases hcn : c < N
  ·simp only [List.getElem?_map, List.getElem?_range hcn, Option.map_some]
   congr 1
   by_cases h2 : c < i
   ·rw [if_pos h2, if_pos (by omega)]
   ·rw [if_neg h2, if_neg (by omega)]
  ·simp [hcn]
theorem dmL_same {G H : Nat → Int} {N i : Nat} (h : G i = H i) : dmL G H N (i + 1) = dmL G H N i := by
 unfold dmL
 refine List.map_congr_left fun c _ => ?_
 by_cases hc : c < i
 ·rw [if_pos hc, if_pos (by omega)]
 ·by_cases h2 : c = i
  ·subst h2; rw [if_pos (by omega), if_neg hc, h]
  ·rw [if_neg hc, if_neg (by omega)]
def chB (G H : Nat → Int) (i : Nat) : Bool := (List.range i).any fun c => !decide (G c = H c)
theorem chB_succ (G H : Nat → Int) (i : Nat) : chB G H (i + 1) = (chB G H i || !decide (G i = H i)) := by
 unfold chB
 rw [List.range_succ, List.any_append]
 simp
theorem chB_false {G H : Nat → Int} {i : Nat} (h : chB G H i = false) : ∀ c, c < i → G c = H c := fun c hc => by
 unfold chB at h
 rw [List.any_eq_false] at h
 have := h c (List.mem_range.2 hc)
 simpa using this
theorem chB_true {G H : Nat → Int} {i : Nat} (h : chB G H i = true) : ∃ c, c < i ∧ G c ≠ H c := by
 unfold chB at h
 obtain ⟨c, hc, hn⟩ := List.any_eq_true.1 h
 exact ⟨c, List.mem_range.1 hc, by simpa using hn⟩
theorem far_hit {T to s c : Nat} {RI : Nat → Nat → Nat} (h1 : farF T RI nwl to s c < 0) (h2 : ∃ t, t < T ∧ farF T RI nwl to s (RI c t) = (s : Int)) : farF T RI nwl to (s + 1) c = (s : Int) + 1 := by
 rw [farF, if_pos]
 obtain ⟨t, ht, he⟩ := h2
 simp only [Bool.and_eq_true, List.any_eq_true]
 exact ⟨⟨decide_eq_true h1, rfl⟩, t, List.mem_range.2 ht, by simpa using he⟩
theorem far_miss {T to s c : Nat} {RI : Nat → Nat → Nat} (h : farF T RI nwl to s c < 0 → ∀ t, t < T → farF T RI nwl to s (RI c t) ≠ (s : Int)) : farF T RI nwl to (s + 1) c = farF T RI nwl to s c := by
 rw [farF, if_neg]
 simp only [Bool.and_eq_true, List.any_eq_true, not_and, not_exists]
 rintro ⟨h1, _⟩ t ht he
 exact h (of_decide_eq_true h1) t (List.mem_range.1 ht) (by simpa using he)
theorem far_eqs {T to s c : Nat} {RI : Nat → Nat → Nat} : farF T RI nwl to (s + 1) c = (s : Int) ↔ farF T RI nwl to s c = (s : Int) := by
 constructor
 ·intro h
  by_cases hq : (decide (farF T RI nwl to s c < 0) && !nwl c && (List.range T).any fun t => farF T RI nwl to s (RI c t) == (s : Int)) = true
  ·rw [farF, if_pos hq] at h; omega
  ·rw [farF, if_neg hq] at h; exact h
 ·intro h
  rw [far_keep _ _ _ _ (by omega), h]
theorem far_zero {T to c : Nat} {RI : Nat → Nat → Nat} : farF T RI nwl to 0 c = if c = to then 0 else -1 := by rw [farF]
theorem cnN_len (T : Nat) (RI : Nat → Nat → Nat) (to s N : Nat) : cnN T RI to s N ≤ N := by
 unfold cnN
 exact Nat.le_trans (List.length_filter_le _ _) (by simp)
theorem ov_one {f : St} {pl : List Int} {x y : Sd} (h1 : ovB f pl x = true) (h2 : ovB f pl y = true) : x = y := by
 unfold ovB rsB sdS at h1 h2
 simp only [Bool.and_eq_true, decide_eq_true_eq] at h1 h2
 cases x; cases y
 simp_all
theorem to_ex {f : St} {pl : List Int} {T : Nat} {R : Sd → Nat → Sd} {S : SL Sd} {Q : QL Sd} {x0 : Sd} (h1 : SQ S Q) (h2 : BI T R x0 Q Q.length 0) : ∃ to : Nat, (∀ c, c < S.length → ovB f pl (sc S c) = decide (c = to)) ∧ ((enN f pl S S.length = some to ∧ to < S.length) ∨ (enN f pl S S.length = none ∧ to = S.length)) := by
 cases hen : enN f pl S S.length with
 | none =>
  refine ⟨S.length, fun c hc => ?_, .inr ⟨rfl, rfl⟩⟩
  unfold enN at hen
  have := List.find?_eq_none.1 hen c (List.mem_range.2 hc)
  rw [decide_eq_false (by omega)]
  simpa using this
 | some e =>
  obtain ⟨e1, e2⟩ := enN_lt hen
  refine ⟨e, fun c hc => ?_, .inl ⟨rfl, e1⟩⟩
  by_cases hce : c = e
  ·subst hce; rw [e2, decide_eq_true rfl]
  ·rw [decide_eq_false hce]
   cases ho : ovB f pl (sc S c) with
   | false => rfl
   | true => exact absurd (apartS h1 h2 hc e1 (ov_one ho e2)) hce
end Go.Proofs.Tryz
