/- A part of the proof of ResetDiffers: contracts of functions, with plain laws that they need. -/
import Derived.Test.YtjhljokghikamaaGreatDoorVgR18J
set_option linter.all false
set_option maxHeartbeats 16000000
namespace Go.Proofs.Tryz
open Go.Vg

theorem can_other (r : Rm) (f s : St) (a : Int) (t : Tk) (h1 : t.kd ≠ 1) (h2 : t.kd ≠ 2) (h3 : t.kd ≠ 3) : Pure Tryz.prog 52 [.ref (kC r f s a) 0, tkA t] (.bool false) := by
  obtain ⟨kd, nu, ar⟩ := t
  simp only at h1 h2 h3
  unfold tkA
  simp only
  have hkc := rfl (a := kC r f s a)
  have e1 : decide (kd = 1) = false := decide_eq_false h1
  have e2 : decide (kd = 2) = false := decide_eq_false h2
  have e3 : decide (kd = 3) = false := decide_eq_false h3
  (refine Spec.bd 0 Tryz.func52 Tryz.results52 Tryz.ntmps52 ?_; simp only [entry, zipArgs, Nat.reduceAdd])
  (refine x_gg (zc @e1 (zc @e2 @e3)) ?_)
  (first | exact x_ret (zc @e1 (zc @e2 @e3)) | refine x_retZ (zc @e1 (zc @e2 @e3)) ?_)
theorem can_turn (r : Rm) (hy : r.ts.length ≤ 100) (hss : ∀ x ∈ r.ts, 2 ≤ x.ss ∧ x.ss ≤ 6) (f s : St) (hs : s.ts.length = r.ts.length) (a : Int) (t : Tk) (hk : t.kd = 2) : Pure Tryz.prog 52 [.ref (kC r f s a) 0, tkA t] (.bool (tnB r s a t)) := by
  obtain ⟨kd, nu, ar⟩ := t
  simp only at hk
  subst hk
  unfold tkA tnB
  simp only
  have h1 := within2_pure nu 0 ((r.ts.length : Int) - 1)
  have hwi : wi nu 0 ((r.ts.length : Int) - 1) = true → 0 ≤ nu ∧ nu < r.ts.length := fun h => by unfold wi at h; simp only [Bool.and_eq_true, decide_eq_true_eq] at h; omega
  generalize wi nu 0 ((r.ts.length : Int) - 1) = w at h1 hwi
  have hkc := rfl (a := kC r f s a)
  cases w with
  | false =>
    (refine Spec.bd 0 Tryz.func52 Tryz.results52 Tryz.ntmps52 ?_; simp only [entry, zipArgs, Nat.reduceAdd])
    (refine x_go (zc @Bool.false_and @Bool.not_false) ?_)
    apply Wp.condF; (exact x_ev (zc @Bool.false_and @Bool.not_false))
    (refine x_go (zc @Bool.false_and @Bool.not_false) ?_)
    apply Wp.condT; (exact x_ev (zc @Bool.false_and @Bool.not_false))
    (refine x_go (zc @Bool.false_and @Bool.not_false) ?_)
    (refine Wp.rnD 11 ?_; apply exAb; (((refine x_abz (zc @Bool.false_and @Bool.not_false) ?_); (apply Abn.pureP; (exact x_ev (zc @Bool.false_and @Bool.not_false)); (exact (Enters.of Tryz.func67 rfl rfl)); (exact h1); (exact x_al (zc @Bool.false_and @Bool.not_false)); (try dsimp only [putA, optG])); (refine x_abz (zc @Bool.false_and @Bool.not_false) ?_)); exact Abn.nil))
    (refine x_gg (zc @Bool.false_and @Bool.not_false) ?_)
    (first | exact x_ret (zc @Bool.false_and @Bool.not_false) | refine x_retZ (zc @Bool.false_and @Bool.not_false) ?_)
  | true =>
    obtain ⟨hn1, hn2⟩ := hwi rfl
    obtain ⟨n, rfl⟩ : ∃ n : Nat, nu = n := ⟨nu.toNat, by omega⟩
    have hn3 : n < r.ts.length := by omega
    have hgd := getD_th r.ts n
    simp only [Int.toNat_natCast]
    obtain ⟨x, hx⟩ : ∃ x, r.ts.getD n th0 = x := ⟨_, rfl⟩
    simp only [hx] at hgd ⊢
    have hsx := hss x (by rw [← hx, show r.ts.getD n th0 = r.ts[n] by simp [hn3]]; exact List.getElem_mem hn3)
    obtain ⟨y, hy2⟩ : ∃ y, s.ts.getD n 0 = y := ⟨_, rfl⟩
    simp only [hy2]
    have h2 := within2_pure ar 0 (x.ss - 1)
    generalize wi ar 0 (x.ss - 1) = w2 at h2
    cases hb1 : decide (x.pl = a) with
    | false =>
      (refine Spec.bd 0 Tryz.func52 Tryz.results52 Tryz.ntmps52 ?_; simp only [entry, zipArgs, Nat.reduceAdd])
      (refine x_go (zc @Bool.false_and (zc @Bool.not_true (zc @Bool.true_and (zc @hb1 (zc @hgd (zc @hx (zc @thA.eq_1 @Int.toNat_natCast))))))) ?_)
      apply Wp.condF; (exact x_ev (zc @Bool.false_and (zc @Bool.not_true (zc @Bool.true_and (zc @hb1 (zc @hgd (zc @hx (zc @thA.eq_1 @Int.toNat_natCast))))))))
      (refine x_go (zc @Bool.false_and (zc @Bool.not_true (zc @Bool.true_and (zc @hb1 (zc @hgd (zc @hx (zc @thA.eq_1 @Int.toNat_natCast))))))) ?_)
      apply Wp.condT; (exact x_ev (zc @Bool.false_and (zc @Bool.not_true (zc @Bool.true_and (zc @hb1 (zc @hgd (zc @hx (zc @thA.eq_1 @Int.toNat_natCast))))))))
      (refine x_go (zc @Bool.false_and (zc @Bool.not_true (zc @Bool.true_and (zc @hb1 (zc @hgd (zc @hx (zc @thA.eq_1 @Int.toNat_natCast))))))) ?_)
      (refine Wp.rnD 11 ?_; apply exAb; (((refine x_abz (zc @Bool.false_and (zc @Bool.not_true (zc @Bool.true_and (zc @hb1 (zc @hgd (zc @hx (zc @thA.eq_1 @Int.toNat_natCast))))))) ?_); (apply Abn.pureP; (exact x_ev (zc @Bool.false_and (zc @Bool.not_true (zc @Bool.true_and (zc @hb1 (zc @hgd (zc @hx (zc @thA.eq_1 @Int.toNat_natCast)))))))); (exact (Enters.of Tryz.func67 rfl rfl)); (exact h1); (exact x_al (zc @Bool.false_and (zc @Bool.not_true (zc @Bool.true_and (zc @hb1 (zc @hgd (zc @hx (zc @thA.eq_1 @Int.toNat_natCast)))))))); (try dsimp only [putA, optG])); (refine x_abz (zc @Bool.false_and (zc @Bool.not_true (zc @Bool.true_and (zc @hb1 (zc @hgd (zc @hx (zc @thA.eq_1 @Int.toNat_natCast))))))) ?_)); exact Abn.nil))
      (refine x_gg (zc @Bool.false_and (zc @Bool.not_true (zc @Bool.true_and (zc @hb1 (zc @hgd (zc @hx (zc @thA.eq_1 @Int.toNat_natCast))))))) ?_)
      (apply Wp.runVE 10 mixed; (dsimp only [List.map] <;> exact rfl); exact rfl; kernel_rfl; (dsimp only [List.take] <;> exact rfl); (dsimp only [List.drop] <;> exact rfl); kernel_rfl; ((try dsimp only); (repeat (first | (apply AbsV.alc; exact rfl; (exact x_ev (zc @Bool.false_and (zc @Bool.not_true (zc @Bool.true_and (zc @hb1 (zc @hgd (zc @hx (zc @thA.eq_1 @Int.toNat_natCast)))))))); ((try simp only [push_cast, seval, Bool.false_and, Bool.not_true, Bool.true_and, hb1, hgd, hx, thA, Int.toNat_natCast]) <;> exact sT); dsimp only [upd, alcV, List.length_cons, List.length_nil, Nat.reduceAdd]) | (apply AbsV.apn; exact rfl; (exact x_ev (zc @Bool.false_and (zc @Bool.not_true (zc @Bool.true_and (zc @hb1 (zc @hgd (zc @hx (zc @thA.eq_1 @Int.toNat_natCast)))))))); ((try simp only [push_cast, seval, Bool.false_and, Bool.not_true, Bool.true_and, hb1, hgd, hx, thA, Int.toNat_natCast]) <;> exact sT); dsimp only [upd, alcV, List.length_cons, List.length_nil, Nat.reduceAdd]) | (apply AbsV.cons; exact rfl; exact rfl; (exact x_ev (zc @Bool.false_and (zc @Bool.not_true (zc @Bool.true_and (zc @hb1 (zc @hgd (zc @hx (zc @thA.eq_1 @Int.toNat_natCast)))))))); ((try simp only [push_cast, seval, Bool.false_and, Bool.not_true, Bool.true_and, hb1, hgd, hx, thA, Int.toNat_natCast]) <;> exact sT); dsimp only [upd]))); exact AbsV.nil); exact rfl; ((try dsimp only [List.map, List.cons_append, List.nil_append]); (exact x_ev (zc @Bool.false_and (zc @Bool.not_true (zc @Bool.true_and (zc @hb1 (zc @hgd (zc @hx (zc @thA.eq_1 @Int.toNat_natCast))))))))); ((try simp only [push_cast, seval, Bool.false_and, Bool.not_true, Bool.true_and, hb1, hgd, hx, thA, Int.toNat_natCast]) <;> exact sT); dsimp only [upd])
      (refine x_mv (zc @Bool.false_and (zc @Bool.not_true (zc @Bool.true_and (zc @hb1 (zc @hgd (zc @hx (zc @thA.eq_1 @Int.toNat_natCast))))))) ?_)
      (refine Wp.rnD 29 ?_; apply exAb; (((refine x_abz (zc @Bool.false_and (zc @Bool.not_true (zc @Bool.true_and (zc @hb1 (zc @hgd (zc @hx (zc @thA.eq_1 @Int.toNat_natCast))))))) ?_); (first | ((apply Abn.pureP; (exact x_ev (zc @Bool.false_and (zc @Bool.not_true (zc @Bool.true_and (zc @hb1 (zc @hgd (zc @hx (zc @thA.eq_1 @Int.toNat_natCast)))))))); (exact (Enters.of Tryz.func67 rfl rfl)); (exact h2); (exact x_al (zc @Bool.false_and (zc @Bool.not_true (zc @Bool.true_and (zc @hb1 (zc @hgd (zc @hx (zc @thA.eq_1 @Int.toNat_natCast)))))))); (try dsimp only [putA, optG]))) | skip); (refine x_abz (zc @Bool.false_and (zc @Bool.not_true (zc @Bool.true_and (zc @hb1 (zc @hgd (zc @hx (zc @thA.eq_1 @Int.toNat_natCast))))))) ?_)); exact Abn.nil))
      (refine x_gg (zc @Bool.false_and (zc @Bool.not_true (zc @Bool.true_and (zc @hb1 (zc @hgd (zc @hx (zc @thA.eq_1 @Int.toNat_natCast))))))) ?_)
      (first | exact x_ret (zc @Bool.false_and (zc @Bool.not_true (zc @Bool.true_and (zc @hb1 (zc @hgd (zc @hx (zc @thA.eq_1 @Int.toNat_natCast))))))) | refine x_retZ (zc @Bool.false_and (zc @Bool.not_true (zc @Bool.true_and (zc @hb1 (zc @hgd (zc @hx (zc @thA.eq_1 @Int.toNat_natCast))))))) ?_)
    | true =>
      cases w2 with
      | false =>
        (refine Spec.bd 0 Tryz.func52 Tryz.results52 Tryz.ntmps52 ?_; simp only [entry, zipArgs, Nat.reduceAdd])
        (refine x_go (zc @Bool.false_and (zc @Bool.and_false (zc @Bool.not_true (zc @Bool.true_and (zc @hb1 (zc @hgd (zc @hx (zc @thA.eq_1 @Int.toNat_natCast)))))))) ?_)
        apply Wp.condF; (exact x_ev (zc @Bool.false_and (zc @Bool.and_false (zc @Bool.not_true (zc @Bool.true_and (zc @hb1 (zc @hgd (zc @hx (zc @thA.eq_1 @Int.toNat_natCast)))))))))
        (refine x_go (zc @Bool.false_and (zc @Bool.and_false (zc @Bool.not_true (zc @Bool.true_and (zc @hb1 (zc @hgd (zc @hx (zc @thA.eq_1 @Int.toNat_natCast)))))))) ?_)
        apply Wp.condT; (exact x_ev (zc @Bool.false_and (zc @Bool.and_false (zc @Bool.not_true (zc @Bool.true_and (zc @hb1 (zc @hgd (zc @hx (zc @thA.eq_1 @Int.toNat_natCast)))))))))
        (refine x_go (zc @Bool.false_and (zc @Bool.and_false (zc @Bool.not_true (zc @Bool.true_and (zc @hb1 (zc @hgd (zc @hx (zc @thA.eq_1 @Int.toNat_natCast)))))))) ?_)
        (refine Wp.rnD 11 ?_; apply exAb; (((refine x_abz (zc @Bool.false_and (zc @Bool.and_false (zc @Bool.not_true (zc @Bool.true_and (zc @hb1 (zc @hgd (zc @hx (zc @thA.eq_1 @Int.toNat_natCast)))))))) ?_); (apply Abn.pureP; (exact x_ev (zc @Bool.false_and (zc @Bool.and_false (zc @Bool.not_true (zc @Bool.true_and (zc @hb1 (zc @hgd (zc @hx (zc @thA.eq_1 @Int.toNat_natCast))))))))); (exact (Enters.of Tryz.func67 rfl rfl)); (exact h1); (exact x_al (zc @Bool.false_and (zc @Bool.and_false (zc @Bool.not_true (zc @Bool.true_and (zc @hb1 (zc @hgd (zc @hx (zc @thA.eq_1 @Int.toNat_natCast))))))))); (try dsimp only [putA, optG])); (refine x_abz (zc @Bool.false_and (zc @Bool.and_false (zc @Bool.not_true (zc @Bool.true_and (zc @hb1 (zc @hgd (zc @hx (zc @thA.eq_1 @Int.toNat_natCast)))))))) ?_)); exact Abn.nil))
        (refine x_gg (zc @Bool.false_and (zc @Bool.and_false (zc @Bool.not_true (zc @Bool.true_and (zc @hb1 (zc @hgd (zc @hx (zc @thA.eq_1 @Int.toNat_natCast)))))))) ?_)
        (apply Wp.runVE 10 mixed; (dsimp only [List.map] <;> exact rfl); exact rfl; kernel_rfl; (dsimp only [List.take] <;> exact rfl); (dsimp only [List.drop] <;> exact rfl); kernel_rfl; ((try dsimp only); (repeat (first | (apply AbsV.alc; exact rfl; (exact x_ev (zc @Bool.false_and (zc @Bool.and_false (zc @Bool.not_true (zc @Bool.true_and (zc @hb1 (zc @hgd (zc @hx (zc @thA.eq_1 @Int.toNat_natCast))))))))); ((try simp only [push_cast, seval, Bool.false_and, Bool.and_false, Bool.not_true, Bool.true_and, hb1, hgd, hx, thA, Int.toNat_natCast]) <;> exact sT); dsimp only [upd, alcV, List.length_cons, List.length_nil, Nat.reduceAdd]) | (apply AbsV.apn; exact rfl; (exact x_ev (zc @Bool.false_and (zc @Bool.and_false (zc @Bool.not_true (zc @Bool.true_and (zc @hb1 (zc @hgd (zc @hx (zc @thA.eq_1 @Int.toNat_natCast))))))))); ((try simp only [push_cast, seval, Bool.false_and, Bool.and_false, Bool.not_true, Bool.true_and, hb1, hgd, hx, thA, Int.toNat_natCast]) <;> exact sT); dsimp only [upd, alcV, List.length_cons, List.length_nil, Nat.reduceAdd]) | (apply AbsV.cons; exact rfl; exact rfl; (exact x_ev (zc @Bool.false_and (zc @Bool.and_false (zc @Bool.not_true (zc @Bool.true_and (zc @hb1 (zc @hgd (zc @hx (zc @thA.eq_1 @Int.toNat_natCast))))))))); ((try simp only [push_cast, seval, Bool.false_and, Bool.and_false, Bool.not_true, Bool.true_and, hb1, hgd, hx, thA, Int.toNat_natCast]) <;> exact sT); dsimp only [upd]))); exact AbsV.nil); exact rfl; ((try dsimp only [List.map, List.cons_append, List.nil_append]); (exact x_ev (zc @Bool.false_and (zc @Bool.and_false (zc @Bool.not_true (zc @Bool.true_and (zc @hb1 (zc @hgd (zc @hx (zc @thA.eq_1 @Int.toNat_natCast)))))))))); ((try simp only [push_cast, seval, Bool.false_and, Bool.and_false, Bool.not_true, Bool.true_and, hb1, hgd, hx, thA, Int.toNat_natCast]) <;> exact sT); dsimp only [upd])
        (refine x_mv (zc @Bool.false_and (zc @Bool.and_false (zc @Bool.not_true (zc @Bool.true_and (zc @hb1 (zc @hgd (zc @hx (zc @thA.eq_1 @Int.toNat_natCast)))))))) ?_)
        (refine Wp.rnD 29 ?_; apply exAb; (((refine x_abz (zc @Bool.false_and (zc @Bool.and_false (zc @Bool.not_true (zc @Bool.true_and (zc @hb1 (zc @hgd (zc @hx (zc @thA.eq_1 @Int.toNat_natCast)))))))) ?_); (first | ((apply Abn.pureP; (exact x_ev (zc @Bool.false_and (zc @Bool.and_false (zc @Bool.not_true (zc @Bool.true_and (zc @hb1 (zc @hgd (zc @hx (zc @thA.eq_1 @Int.toNat_natCast))))))))); (exact (Enters.of Tryz.func67 rfl rfl)); (exact h2); (exact x_al (zc @Bool.false_and (zc @Bool.and_false (zc @Bool.not_true (zc @Bool.true_and (zc @hb1 (zc @hgd (zc @hx (zc @thA.eq_1 @Int.toNat_natCast))))))))); (try dsimp only [putA, optG]))) | skip); (refine x_abz (zc @Bool.false_and (zc @Bool.and_false (zc @Bool.not_true (zc @Bool.true_and (zc @hb1 (zc @hgd (zc @hx (zc @thA.eq_1 @Int.toNat_natCast)))))))) ?_)); exact Abn.nil))
        (refine x_gg (zc @Bool.false_and (zc @Bool.and_false (zc @Bool.not_true (zc @Bool.true_and (zc @hb1 (zc @hgd (zc @hx (zc @thA.eq_1 @Int.toNat_natCast)))))))) ?_)
        (first | exact x_ret (zc @Bool.false_and (zc @Bool.and_false (zc @Bool.not_true (zc @Bool.true_and (zc @hb1 (zc @hgd (zc @hx (zc @thA.eq_1 @Int.toNat_natCast)))))))) | refine x_retZ (zc @Bool.false_and (zc @Bool.and_false (zc @Bool.not_true (zc @Bool.true_and (zc @hb1 (zc @hgd (zc @hx (zc @thA.eq_1 @Int.toNat_natCast)))))))) ?_)
      | true =>
        (refine Spec.bd 0 Tryz.func52 Tryz.results52 Tryz.ntmps52 ?_; simp only [entry, zipArgs, Nat.reduceAdd])
        (refine x_go (zc @Bool.false_and (zc @Bool.and_false (zc @Bool.not_true (zc @Bool.true_and (zc @hb1 (zc @hgd (zc @hx (zc @hy2 (zc @thA.eq_1 @Int.toNat_natCast))))))))) ?_)
        apply Wp.condF; (exact x_ev (zc @Bool.false_and (zc @Bool.and_false (zc @Bool.not_true (zc @Bool.true_and (zc @hb1 (zc @hgd (zc @hx (zc @hy2 (zc @thA.eq_1 @Int.toNat_natCast))))))))))
        (refine x_go (zc @Bool.false_and (zc @Bool.and_false (zc @Bool.not_true (zc @Bool.true_and (zc @hb1 (zc @hgd (zc @hx (zc @hy2 (zc @thA.eq_1 @Int.toNat_natCast))))))))) ?_)
        apply Wp.condT; (exact x_ev (zc @Bool.false_and (zc @Bool.and_false (zc @Bool.not_true (zc @Bool.true_and (zc @hb1 (zc @hgd (zc @hx (zc @hy2 (zc @thA.eq_1 @Int.toNat_natCast))))))))))
        (refine x_go (zc @Bool.false_and (zc @Bool.and_false (zc @Bool.not_true (zc @Bool.true_and (zc @hb1 (zc @hgd (zc @hx (zc @hy2 (zc @thA.eq_1 @Int.toNat_natCast))))))))) ?_)
        (refine Wp.rnD 11 ?_; apply exAb; (((refine x_abz (zc @Bool.false_and (zc @Bool.and_false (zc @Bool.not_true (zc @Bool.true_and (zc @hb1 (zc @hgd (zc @hx (zc @hy2 (zc @thA.eq_1 @Int.toNat_natCast))))))))) ?_); (apply Abn.pureP; (exact x_ev (zc @Bool.false_and (zc @Bool.and_false (zc @Bool.not_true (zc @Bool.true_and (zc @hb1 (zc @hgd (zc @hx (zc @hy2 (zc @thA.eq_1 @Int.toNat_natCast)))))))))); (exact (Enters.of Tryz.func67 rfl rfl)); (exact h1); (exact x_al (zc @Bool.false_and (zc @Bool.and_false (zc @Bool.not_true (zc @Bool.true_and (zc @hb1 (zc @hgd (zc @hx (zc @hy2 (zc @thA.eq_1 @Int.toNat_natCast)))))))))); (try dsimp only [putA, optG])); (refine x_abz (zc @Bool.false_and (zc @Bool.and_false (zc @Bool.not_true (zc @Bool.true_and (zc @hb1 (zc @hgd (zc @hx (zc @hy2 (zc @thA.eq_1 @Int.toNat_natCast))))))))) ?_)); exact Abn.nil))
        (refine x_gg (zc @Bool.false_and (zc @Bool.and_false (zc @Bool.not_true (zc @Bool.true_and (zc @hb1 (zc @hgd (zc @hx (zc @hy2 (zc @thA.eq_1 @Int.toNat_natCast))))))))) ?_)
        (apply Wp.runVE 10 mixed; (dsimp only [List.map] <;> exact rfl); exact rfl; kernel_rfl; (dsimp only [List.take] <;> exact rfl); (dsimp only [List.drop] <;> exact rfl); kernel_rfl; ((try dsimp only); (repeat (first | (apply AbsV.alc; exact rfl; (exact x_ev (zc @Bool.false_and (zc @Bool.and_false (zc @Bool.not_true (zc @Bool.true_and (zc @hb1 (zc @hgd (zc @hx (zc @hy2 (zc @thA.eq_1 @Int.toNat_natCast)))))))))); ((try simp only [push_cast, seval, Bool.false_and, Bool.and_false, Bool.not_true, Bool.true_and, hb1, hgd, hx, hy2, thA, Int.toNat_natCast]) <;> exact sT); dsimp only [upd, alcV, List.length_cons, List.length_nil, Nat.reduceAdd]) | (apply AbsV.apn; exact rfl; (exact x_ev (zc @Bool.false_and (zc @Bool.and_false (zc @Bool.not_true (zc @Bool.true_and (zc @hb1 (zc @hgd (zc @hx (zc @hy2 (zc @thA.eq_1 @Int.toNat_natCast)))))))))); ((try simp only [push_cast, seval, Bool.false_and, Bool.and_false, Bool.not_true, Bool.true_and, hb1, hgd, hx, hy2, thA, Int.toNat_natCast]) <;> exact sT); dsimp only [upd, alcV, List.length_cons, List.length_nil, Nat.reduceAdd]) | (apply AbsV.cons; exact rfl; exact rfl; (exact x_ev (zc @Bool.false_and (zc @Bool.and_false (zc @Bool.not_true (zc @Bool.true_and (zc @hb1 (zc @hgd (zc @hx (zc @hy2 (zc @thA.eq_1 @Int.toNat_natCast)))))))))); ((try simp only [push_cast, seval, Bool.false_and, Bool.and_false, Bool.not_true, Bool.true_and, hb1, hgd, hx, hy2, thA, Int.toNat_natCast]) <;> exact sT); dsimp only [upd]))); exact AbsV.nil); exact rfl; ((try dsimp only [List.map, List.cons_append, List.nil_append]); (exact x_ev (zc @Bool.false_and (zc @Bool.and_false (zc @Bool.not_true (zc @Bool.true_and (zc @hb1 (zc @hgd (zc @hx (zc @hy2 (zc @thA.eq_1 @Int.toNat_natCast))))))))))); ((try simp only [push_cast, seval, Bool.false_and, Bool.and_false, Bool.not_true, Bool.true_and, hb1, hgd, hx, hy2, thA, Int.toNat_natCast]) <;> exact sT); dsimp only [upd])
        (refine x_mv (zc @Bool.false_and (zc @Bool.and_false (zc @Bool.not_true (zc @Bool.true_and (zc @hb1 (zc @hgd (zc @hx (zc @hy2 (zc @thA.eq_1 @Int.toNat_natCast))))))))) ?_)
        (refine Wp.rnD 29 ?_; apply exAb; (((refine x_abz (zc @Bool.false_and (zc @Bool.and_false (zc @Bool.not_true (zc @Bool.true_and (zc @hb1 (zc @hgd (zc @hx (zc @hy2 (zc @thA.eq_1 @Int.toNat_natCast))))))))) ?_); (first | ((apply Abn.pureP; (exact x_ev (zc @Bool.false_and (zc @Bool.and_false (zc @Bool.not_true (zc @Bool.true_and (zc @hb1 (zc @hgd (zc @hx (zc @hy2 (zc @thA.eq_1 @Int.toNat_natCast)))))))))); (exact (Enters.of Tryz.func67 rfl rfl)); (exact h2); (exact x_al (zc @Bool.false_and (zc @Bool.and_false (zc @Bool.not_true (zc @Bool.true_and (zc @hb1 (zc @hgd (zc @hx (zc @hy2 (zc @thA.eq_1 @Int.toNat_natCast)))))))))); (try dsimp only [putA, optG]))) | skip); (refine x_abz (zc @Bool.false_and (zc @Bool.and_false (zc @Bool.not_true (zc @Bool.true_and (zc @hb1 (zc @hgd (zc @hx (zc @hy2 (zc @thA.eq_1 @Int.toNat_natCast))))))))) ?_)); exact Abn.nil))
        (refine x_gg (zc @Bool.false_and (zc @Bool.and_false (zc @Bool.not_true (zc @Bool.true_and (zc @hb1 (zc @hgd (zc @hx (zc @hy2 (zc @thA.eq_1 @Int.toNat_natCast))))))))) ?_)
        (first | exact x_ret (zc @Bool.false_and (zc @Bool.and_false (zc @Bool.not_true (zc @Bool.true_and (zc @hb1 (zc @hgd (zc @hx (zc @hy2 (zc @thA.eq_1 @Int.toNat_natCast))))))))) | refine x_retZ (zc @Bool.false_and (zc @Bool.and_false (zc @Bool.not_true (zc @Bool.true_and (zc @hb1 (zc @hgd (zc @hx (zc @hy2 (zc @thA.eq_1 @Int.toNat_natCast))))))))) ?_)
theorem can_put {r : Rm} (hz : Sz r) (f : St) {s : St} (hs : Zs s) (hc : csE r s = 0) (hf : f.pp.length = r.pp.length) (hfp : f.ts.length ≤ 100) (a : Int) (t : Tk) (hk : t.kd = 3) : Pure Tryz.prog 52 [.ref (kC r f s a) 0, tkA t] (.bool (ptB r f s a t)) := by
  obtain ⟨hv, hv2, hch⟩ := cs_zero hc
  have hpl := hv.pp
  have hsp := hv2.pp
  obtain ⟨kd, nu, ar⟩ := t
  simp only at hk
  subst hk
  unfold tkA ptB
  simp only
  have h1 := within2_pure nu 0 ((r.pp.length : Int) - 1)
  have hwi : wi nu 0 ((r.pp.length : Int) - 1) = true → 0 ≤ nu ∧ nu < r.pp.length := fun h => by unfold wi at h; simp only [Bool.and_eq_true, decide_eq_true_eq] at h; omega
  generalize wi nu 0 ((r.pp.length : Int) - 1) = w at h1 hwi
  have hkc := rfl (a := kC r f s a)
  cases hb0 : decide (ar = 0) with
  | false =>
    (refine Spec.bd 0 Tryz.func52 Tryz.results52 Tryz.ntmps52 ?_; simp only [entry, zipArgs, Nat.reduceAdd])
    (refine x_gg (zc @hb0 (zc @Bool.false_and @Bool.not_false)) ?_)
    (refine Wp.rnD 37 ?_; apply exAb; (((refine x_abz (zc @hb0 (zc @Bool.false_and @Bool.not_false)) ?_); (first | ((apply Abn.pureP; (exact x_ev (zc @hb0 (zc @Bool.false_and @Bool.not_false))); (exact (Enters.of Tryz.func67 rfl rfl)); (exact h1); (exact x_al (zc @hb0 (zc @Bool.false_and @Bool.not_false))); (try dsimp only [putA, optG]))) | skip); (refine x_abz (zc @hb0 (zc @Bool.false_and @Bool.not_false)) ?_)); exact Abn.nil))
    (refine x_gg (zc @hb0 (zc @Bool.false_and @Bool.not_false)) ?_)
    (first | exact x_ret (zc @hb0 (zc @Bool.false_and @Bool.not_false)) | refine x_retZ (zc @hb0 (zc @Bool.false_and @Bool.not_false)) ?_)
  | true =>
    cases w with
    | false =>
      (refine Spec.bd 0 Tryz.func52 Tryz.results52 Tryz.ntmps52 ?_; simp only [entry, zipArgs, Nat.reduceAdd])
      (refine x_gg (zc @hb0 (zc @Bool.false_and (zc @Bool.and_false (zc @Bool.not_false @Bool.not_true)))) ?_)
      (refine Wp.rnD 37 ?_; apply exAb; (((refine x_abz (zc @hb0 (zc @Bool.false_and (zc @Bool.and_false (zc @Bool.not_false @Bool.not_true)))) ?_); (first | ((apply Abn.pureP; (exact x_ev (zc @hb0 (zc @Bool.false_and (zc @Bool.and_false (zc @Bool.not_false @Bool.not_true))))); (exact (Enters.of Tryz.func67 rfl rfl)); (exact h1); (exact x_al (zc @hb0 (zc @Bool.false_and (zc @Bool.and_false (zc @Bool.not_false @Bool.not_true))))); (try dsimp only [putA, optG]))) | skip); (refine x_abz (zc @hb0 (zc @Bool.false_and (zc @Bool.and_false (zc @Bool.not_false @Bool.not_true)))) ?_)); exact Abn.nil))
      (refine x_gg (zc @hb0 (zc @Bool.false_and (zc @Bool.and_false (zc @Bool.not_false @Bool.not_true)))) ?_)
      (first | exact x_ret (zc @hb0 (zc @Bool.false_and (zc @Bool.and_false (zc @Bool.not_false @Bool.not_true)))) | refine x_retZ (zc @hb0 (zc @Bool.false_and (zc @Bool.and_false (zc @Bool.not_false @Bool.not_true)))) ?_)
    | true =>
      obtain ⟨hn1, hn2⟩ := hwi rfl
      obtain ⟨n, rfl⟩ : ∃ n : Nat, nu = n := ⟨nu.toNat, by omega⟩
      have hn3 : n < r.pp.length := by omega
      have hgd := fun d => getD_pp (d := d) hn3
      have hm := memPp hn3
      have hw := (hz.ppn _ hm).2
      have hcd := (hv.ppv _ hm).2
      simp only [Int.toNat_natCast]
      obtain ⟨x, hx⟩ : ∃ x, r.pp.getD n pp0 = x := ⟨_, rfl⟩
      simp only [hx] at hgd hw hcd ⊢
      have hh := kholds_pure hz f hs hc a x.wh hw hcd
      generalize hdB s.ts x.wh = b at hh
      obtain ⟨y, hy2⟩ : ∃ y, s.pp.getD n 0 = y := ⟨_, rfl⟩
      obtain ⟨z, hy3⟩ : ∃ z, f.pp.getD n 0 = z := ⟨_, rfl⟩
      simp only [hy2, hy3]
      cases hb1 : decide (y = z) with
      | true =>
        (refine Spec.bd 0 Tryz.func52 Tryz.results52 Tryz.ntmps52 ?_; simp only [entry, zipArgs, Nat.reduceAdd])
        (refine x_gg (zc @hb0 (zc @hb1 (zc @hy2 (zc @hy3 (zc @Bool.false_and (zc @Bool.and_false (zc @Bool.not_false (zc @Bool.not_true @Int.toNat_natCast)))))))) ?_)
        (refine Wp.rnD 37 ?_; apply exAb; (((refine x_abz (zc @hb0 (zc @hb1 (zc @hy2 (zc @hy3 (zc @Bool.false_and (zc @Bool.and_false (zc @Bool.not_false (zc @Bool.not_true @Int.toNat_natCast)))))))) ?_); (first | ((apply Abn.pureP; (exact x_ev (zc @hb0 (zc @hb1 (zc @hy2 (zc @hy3 (zc @Bool.false_and (zc @Bool.and_false (zc @Bool.not_false (zc @Bool.not_true @Int.toNat_natCast))))))))); (exact (Enters.of Tryz.func67 rfl rfl)); (exact h1); (exact x_al (zc @hb0 (zc @hb1 (zc @hy2 (zc @hy3 (zc @Bool.false_and (zc @Bool.and_false (zc @Bool.not_false (zc @Bool.not_true @Int.toNat_natCast))))))))); (try dsimp only [putA, optG]))) | skip); (refine x_abz (zc @hb0 (zc @hb1 (zc @hy2 (zc @hy3 (zc @Bool.false_and (zc @Bool.and_false (zc @Bool.not_false (zc @Bool.not_true @Int.toNat_natCast)))))))) ?_)); exact Abn.nil))
        (refine x_gg (zc @hb0 (zc @hb1 (zc @hy2 (zc @hy3 (zc @Bool.false_and (zc @Bool.and_false (zc @Bool.not_false (zc @Bool.not_true @Int.toNat_natCast)))))))) ?_)
        (first | exact x_ret (zc @hb0 (zc @hb1 (zc @hy2 (zc @hy3 (zc @Bool.false_and (zc @Bool.and_false (zc @Bool.not_false (zc @Bool.not_true @Int.toNat_natCast)))))))) | refine x_retZ (zc @hb0 (zc @hb1 (zc @hy2 (zc @hy3 (zc @Bool.false_and (zc @Bool.and_false (zc @Bool.not_false (zc @Bool.not_true @Int.toNat_natCast)))))))) ?_)
      | false =>
        cases hb2 : decide (z = -1) with
        | true =>
          (refine Spec.bd 0 Tryz.func52 Tryz.results52 Tryz.ntmps52 ?_; simp only [entry, zipArgs, Nat.reduceAdd])
          (refine x_gg (zc @hb0 (zc @hb1 (zc @hb2 (zc @hy2 (zc @hy3 (zc @Bool.false_and (zc @Bool.and_false (zc @Bool.not_false (zc @Bool.not_true (zc @Bool.true_and (zc @Bool.true_or (zc @Int.toNat_natCast (zc @hgd @ppA.eq_1))))))))))))) ?_)
          (refine Wp.rnD 37 ?_; apply exAb; (((refine x_abz (zc @hb0 (zc @hb1 (zc @hb2 (zc @hy2 (zc @hy3 (zc @Bool.false_and (zc @Bool.and_false (zc @Bool.not_false (zc @Bool.not_true (zc @Bool.true_and (zc @Bool.true_or (zc @Int.toNat_natCast (zc @hgd @ppA.eq_1))))))))))))) ?_); (first | ((apply Abn.pureP; (exact x_ev (zc @hb0 (zc @hb1 (zc @hb2 (zc @hy2 (zc @hy3 (zc @Bool.false_and (zc @Bool.and_false (zc @Bool.not_false (zc @Bool.not_true (zc @Bool.true_and (zc @Bool.true_or (zc @Int.toNat_natCast (zc @hgd @ppA.eq_1)))))))))))))); (exact (Enters.of Tryz.func67 rfl rfl)); (exact h1); (exact x_al (zc @hb0 (zc @hb1 (zc @hb2 (zc @hy2 (zc @hy3 (zc @Bool.false_and (zc @Bool.and_false (zc @Bool.not_false (zc @Bool.not_true (zc @Bool.true_and (zc @Bool.true_or (zc @Int.toNat_natCast (zc @hgd @ppA.eq_1)))))))))))))); (try dsimp only [putA, optG]))) | skip); (refine x_abz (zc @hb0 (zc @hb1 (zc @hb2 (zc @hy2 (zc @hy3 (zc @Bool.false_and (zc @Bool.and_false (zc @Bool.not_false (zc @Bool.not_true (zc @Bool.true_and (zc @Bool.true_or (zc @Int.toNat_natCast (zc @hgd @ppA.eq_1))))))))))))) ?_)); exact Abn.nil))
          (refine x_gg (zc @hb0 (zc @hb1 (zc @hb2 (zc @hy2 (zc @hy3 (zc @Bool.false_and (zc @Bool.and_false (zc @Bool.not_false (zc @Bool.not_true (zc @Bool.true_and (zc @Bool.true_or (zc @Int.toNat_natCast (zc @hgd @ppA.eq_1))))))))))))) ?_)
          (refine Wp.rnD 9 ?_; apply exAb; (((refine x_abz (zc @hb0 (zc @hb1 (zc @hb2 (zc @hy2 (zc @hy3 (zc @Bool.false_and (zc @Bool.and_false (zc @Bool.not_false (zc @Bool.not_true (zc @Bool.true_and (zc @Bool.true_or (zc @Int.toNat_natCast (zc @hgd @ppA.eq_1))))))))))))) ?_)); exact Abn.nil))
          (refine x_gg (zc @hb0 (zc @hb1 (zc @hb2 (zc @hy2 (zc @hy3 (zc @Bool.false_and (zc @Bool.and_false (zc @Bool.not_false (zc @Bool.not_true (zc @Bool.true_and (zc @Bool.true_or (zc @Int.toNat_natCast (zc @hgd @ppA.eq_1))))))))))))) ?_)
          (refine Wp.rnD 24 ?_; apply exAb; (((refine x_abz (zc @hb0 (zc @hb1 (zc @hb2 (zc @hy2 (zc @hy3 (zc @Bool.false_and (zc @Bool.and_false (zc @Bool.not_false (zc @Bool.not_true (zc @Bool.true_and (zc @Bool.true_or (zc @Int.toNat_natCast (zc @hgd @ppA.eq_1))))))))))))) ?_); (first | ((apply Abn.pureP; (exact x_ev (zc @hb0 (zc @hb1 (zc @hb2 (zc @hy2 (zc @hy3 (zc @Bool.false_and (zc @Bool.and_false (zc @Bool.not_false (zc @Bool.not_true (zc @Bool.true_and (zc @Bool.true_or (zc @Int.toNat_natCast (zc @hgd @ppA.eq_1)))))))))))))); (exact (Enters.of Tryz.func90 rfl rfl)); (exact hh); (exact x_al (zc @hb0 (zc @hb1 (zc @hb2 (zc @hy2 (zc @hy3 (zc @Bool.false_and (zc @Bool.and_false (zc @Bool.not_false (zc @Bool.not_true (zc @Bool.true_and (zc @Bool.true_or (zc @Int.toNat_natCast (zc @hgd @ppA.eq_1)))))))))))))); (try dsimp only [putA, optG]))) | skip); (refine x_abz (zc @hb0 (zc @hb1 (zc @hb2 (zc @hy2 (zc @hy3 (zc @Bool.false_and (zc @Bool.and_false (zc @Bool.not_false (zc @Bool.not_true (zc @Bool.true_and (zc @Bool.true_or (zc @Int.toNat_natCast (zc @hgd @ppA.eq_1))))))))))))) ?_)); exact Abn.nil))
          (refine x_gg (zc @hb0 (zc @hb1 (zc @hb2 (zc @hy2 (zc @hy3 (zc @Bool.false_and (zc @Bool.and_false (zc @Bool.not_false (zc @Bool.not_true (zc @Bool.true_and (zc @Bool.true_or (zc @Int.toNat_natCast (zc @hgd @ppA.eq_1))))))))))))) ?_)
          (first | exact x_ret (zc @hb0 (zc @hb1 (zc @hb2 (zc @hy2 (zc @hy3 (zc @Bool.false_and (zc @Bool.and_false (zc @Bool.not_false (zc @Bool.not_true (zc @Bool.true_and (zc @Bool.true_or (zc @Int.toNat_natCast (zc @hgd @ppA.eq_1))))))))))))) | refine x_retZ (zc @hb0 (zc @hb1 (zc @hb2 (zc @hy2 (zc @hy3 (zc @Bool.false_and (zc @Bool.and_false (zc @Bool.not_false (zc @Bool.not_true (zc @Bool.true_and (zc @Bool.true_or (zc @Int.toNat_natCast (zc @hgd @ppA.eq_1))))))))))))) ?_)
        | false =>
          cases hb3 : decide (z = a) with
          | false =>
            (refine Spec.bd 0 Tryz.func52 Tryz.results52 Tryz.ntmps52 ?_; simp only [entry, zipArgs, Nat.reduceAdd])
            (refine x_gg (zc @hb0 (zc @hb1 (zc @hb2 (zc @hb3 (zc @hy2 (zc @hy3 (zc @Bool.false_and (zc @Bool.and_false (zc @Bool.not_false (zc @Bool.not_true (zc @Bool.true_and (zc @Bool.true_or (zc @Bool.false_or (zc @Int.toNat_natCast (zc @hgd @ppA.eq_1))))))))))))))) ?_)
            (refine Wp.rnD 37 ?_; apply exAb; (((refine x_abz (zc @hb0 (zc @hb1 (zc @hb2 (zc @hb3 (zc @hy2 (zc @hy3 (zc @Bool.false_and (zc @Bool.and_false (zc @Bool.not_false (zc @Bool.not_true (zc @Bool.true_and (zc @Bool.true_or (zc @Bool.false_or (zc @Int.toNat_natCast (zc @hgd @ppA.eq_1))))))))))))))) ?_); (first | ((apply Abn.pureP; (exact x_ev (zc @hb0 (zc @hb1 (zc @hb2 (zc @hb3 (zc @hy2 (zc @hy3 (zc @Bool.false_and (zc @Bool.and_false (zc @Bool.not_false (zc @Bool.not_true (zc @Bool.true_and (zc @Bool.true_or (zc @Bool.false_or (zc @Int.toNat_natCast (zc @hgd @ppA.eq_1)))))))))))))))); (exact (Enters.of Tryz.func67 rfl rfl)); (exact h1); (exact x_al (zc @hb0 (zc @hb1 (zc @hb2 (zc @hb3 (zc @hy2 (zc @hy3 (zc @Bool.false_and (zc @Bool.and_false (zc @Bool.not_false (zc @Bool.not_true (zc @Bool.true_and (zc @Bool.true_or (zc @Bool.false_or (zc @Int.toNat_natCast (zc @hgd @ppA.eq_1)))))))))))))))); (try dsimp only [putA, optG]))) | skip); (refine x_abz (zc @hb0 (zc @hb1 (zc @hb2 (zc @hb3 (zc @hy2 (zc @hy3 (zc @Bool.false_and (zc @Bool.and_false (zc @Bool.not_false (zc @Bool.not_true (zc @Bool.true_and (zc @Bool.true_or (zc @Bool.false_or (zc @Int.toNat_natCast (zc @hgd @ppA.eq_1))))))))))))))) ?_)); exact Abn.nil))
            (refine x_gg (zc @hb0 (zc @hb1 (zc @hb2 (zc @hb3 (zc @hy2 (zc @hy3 (zc @Bool.false_and (zc @Bool.and_false (zc @Bool.not_false (zc @Bool.not_true (zc @Bool.true_and (zc @Bool.true_or (zc @Bool.false_or (zc @Int.toNat_natCast (zc @hgd @ppA.eq_1))))))))))))))) ?_)
            (refine Wp.rnD 9 ?_; apply exAb; (((refine x_abz (zc @hb0 (zc @hb1 (zc @hb2 (zc @hb3 (zc @hy2 (zc @hy3 (zc @Bool.false_and (zc @Bool.and_false (zc @Bool.not_false (zc @Bool.not_true (zc @Bool.true_and (zc @Bool.true_or (zc @Bool.false_or (zc @Int.toNat_natCast (zc @hgd @ppA.eq_1))))))))))))))) ?_)); exact Abn.nil))
            (refine x_gg (zc @hb0 (zc @hb1 (zc @hb2 (zc @hb3 (zc @hy2 (zc @hy3 (zc @Bool.false_and (zc @Bool.and_false (zc @Bool.not_false (zc @Bool.not_true (zc @Bool.true_and (zc @Bool.true_or (zc @Bool.false_or (zc @Int.toNat_natCast (zc @hgd @ppA.eq_1))))))))))))))) ?_)
            (refine Wp.rnD 24 ?_; apply exAb; (((refine x_abz (zc @hb0 (zc @hb1 (zc @hb2 (zc @hb3 (zc @hy2 (zc @hy3 (zc @Bool.false_and (zc @Bool.and_false (zc @Bool.not_false (zc @Bool.not_true (zc @Bool.true_and (zc @Bool.true_or (zc @Bool.false_or (zc @Int.toNat_natCast (zc @hgd @ppA.eq_1))))))))))))))) ?_); (first | ((apply Abn.pureP; (exact x_ev (zc @hb0 (zc @hb1 (zc @hb2 (zc @hb3 (zc @hy2 (zc @hy3 (zc @Bool.false_and (zc @Bool.and_false (zc @Bool.not_false (zc @Bool.not_true (zc @Bool.true_and (zc @Bool.true_or (zc @Bool.false_or (zc @Int.toNat_natCast (zc @hgd @ppA.eq_1)))))))))))))))); (exact (Enters.of Tryz.func90 rfl rfl)); (exact hh); (exact x_al (zc @hb0 (zc @hb1 (zc @hb2 (zc @hb3 (zc @hy2 (zc @hy3 (zc @Bool.false_and (zc @Bool.and_false (zc @Bool.not_false (zc @Bool.not_true (zc @Bool.true_and (zc @Bool.true_or (zc @Bool.false_or (zc @Int.toNat_natCast (zc @hgd @ppA.eq_1)))))))))))))))); (try dsimp only [putA, optG]))) | skip); (refine x_abz (zc @hb0 (zc @hb1 (zc @hb2 (zc @hb3 (zc @hy2 (zc @hy3 (zc @Bool.false_and (zc @Bool.and_false (zc @Bool.not_false (zc @Bool.not_true (zc @Bool.true_and (zc @Bool.true_or (zc @Bool.false_or (zc @Int.toNat_natCast (zc @hgd @ppA.eq_1))))))))))))))) ?_)); exact Abn.nil))
            (refine x_gg (zc @hb0 (zc @hb1 (zc @hb2 (zc @hb3 (zc @hy2 (zc @hy3 (zc @Bool.false_and (zc @Bool.and_false (zc @Bool.not_false (zc @Bool.not_true (zc @Bool.true_and (zc @Bool.true_or (zc @Bool.false_or (zc @Int.toNat_natCast (zc @hgd @ppA.eq_1))))))))))))))) ?_)
            (first | exact x_ret (zc @hb0 (zc @hb1 (zc @hb2 (zc @hb3 (zc @hy2 (zc @hy3 (zc @Bool.false_and (zc @Bool.and_false (zc @Bool.not_false (zc @Bool.not_true (zc @Bool.true_and (zc @Bool.true_or (zc @Bool.false_or (zc @Int.toNat_natCast (zc @hgd @ppA.eq_1))))))))))))))) | refine x_retZ (zc @hb0 (zc @hb1 (zc @hb2 (zc @hb3 (zc @hy2 (zc @hy3 (zc @Bool.false_and (zc @Bool.and_false (zc @Bool.not_false (zc @Bool.not_true (zc @Bool.true_and (zc @Bool.true_or (zc @Bool.false_or (zc @Int.toNat_natCast (zc @hgd @ppA.eq_1))))))))))))))) ?_)
          | true =>
            (refine Spec.bd 0 Tryz.func52 Tryz.results52 Tryz.ntmps52 ?_; simp only [entry, zipArgs, Nat.reduceAdd])
            (refine x_gg (zc @hb0 (zc @hb1 (zc @hb2 (zc @hb3 (zc @hy2 (zc @hy3 (zc @Bool.false_and (zc @Bool.and_false (zc @Bool.not_false (zc @Bool.not_true (zc @Bool.true_and (zc @Bool.true_or (zc @Bool.false_or (zc @Int.toNat_natCast (zc @hgd @ppA.eq_1))))))))))))))) ?_)
            (refine Wp.rnD 37 ?_; apply exAb; (((refine x_abz (zc @hb0 (zc @hb1 (zc @hb2 (zc @hb3 (zc @hy2 (zc @hy3 (zc @Bool.false_and (zc @Bool.and_false (zc @Bool.not_false (zc @Bool.not_true (zc @Bool.true_and (zc @Bool.true_or (zc @Bool.false_or (zc @Int.toNat_natCast (zc @hgd @ppA.eq_1))))))))))))))) ?_); (first | ((apply Abn.pureP; (exact x_ev (zc @hb0 (zc @hb1 (zc @hb2 (zc @hb3 (zc @hy2 (zc @hy3 (zc @Bool.false_and (zc @Bool.and_false (zc @Bool.not_false (zc @Bool.not_true (zc @Bool.true_and (zc @Bool.true_or (zc @Bool.false_or (zc @Int.toNat_natCast (zc @hgd @ppA.eq_1)))))))))))))))); (exact (Enters.of Tryz.func67 rfl rfl)); (exact h1); (exact x_al (zc @hb0 (zc @hb1 (zc @hb2 (zc @hb3 (zc @hy2 (zc @hy3 (zc @Bool.false_and (zc @Bool.and_false (zc @Bool.not_false (zc @Bool.not_true (zc @Bool.true_and (zc @Bool.true_or (zc @Bool.false_or (zc @Int.toNat_natCast (zc @hgd @ppA.eq_1)))))))))))))))); (try dsimp only [putA, optG]))) | skip); (refine x_abz (zc @hb0 (zc @hb1 (zc @hb2 (zc @hb3 (zc @hy2 (zc @hy3 (zc @Bool.false_and (zc @Bool.and_false (zc @Bool.not_false (zc @Bool.not_true (zc @Bool.true_and (zc @Bool.true_or (zc @Bool.false_or (zc @Int.toNat_natCast (zc @hgd @ppA.eq_1))))))))))))))) ?_)); exact Abn.nil))
            (refine x_gg (zc @hb0 (zc @hb1 (zc @hb2 (zc @hb3 (zc @hy2 (zc @hy3 (zc @Bool.false_and (zc @Bool.and_false (zc @Bool.not_false (zc @Bool.not_true (zc @Bool.true_and (zc @Bool.true_or (zc @Bool.false_or (zc @Int.toNat_natCast (zc @hgd @ppA.eq_1))))))))))))))) ?_)
            (refine Wp.rnD 9 ?_; apply exAb; (((refine x_abz (zc @hb0 (zc @hb1 (zc @hb2 (zc @hb3 (zc @hy2 (zc @hy3 (zc @Bool.false_and (zc @Bool.and_false (zc @Bool.not_false (zc @Bool.not_true (zc @Bool.true_and (zc @Bool.true_or (zc @Bool.false_or (zc @Int.toNat_natCast (zc @hgd @ppA.eq_1))))))))))))))) ?_)); exact Abn.nil))
            (refine x_gg (zc @hb0 (zc @hb1 (zc @hb2 (zc @hb3 (zc @hy2 (zc @hy3 (zc @Bool.false_and (zc @Bool.and_false (zc @Bool.not_false (zc @Bool.not_true (zc @Bool.true_and (zc @Bool.true_or (zc @Bool.false_or (zc @Int.toNat_natCast (zc @hgd @ppA.eq_1))))))))))))))) ?_)
            (refine Wp.rnD 24 ?_; apply exAb; (((refine x_abz (zc @hb0 (zc @hb1 (zc @hb2 (zc @hb3 (zc @hy2 (zc @hy3 (zc @Bool.false_and (zc @Bool.and_false (zc @Bool.not_false (zc @Bool.not_true (zc @Bool.true_and (zc @Bool.true_or (zc @Bool.false_or (zc @Int.toNat_natCast (zc @hgd @ppA.eq_1))))))))))))))) ?_); (first | ((apply Abn.pureP; (exact x_ev (zc @hb0 (zc @hb1 (zc @hb2 (zc @hb3 (zc @hy2 (zc @hy3 (zc @Bool.false_and (zc @Bool.and_false (zc @Bool.not_false (zc @Bool.not_true (zc @Bool.true_and (zc @Bool.true_or (zc @Bool.false_or (zc @Int.toNat_natCast (zc @hgd @ppA.eq_1)))))))))))))))); (exact (Enters.of Tryz.func90 rfl rfl)); (exact hh); (exact x_al (zc @hb0 (zc @hb1 (zc @hb2 (zc @hb3 (zc @hy2 (zc @hy3 (zc @Bool.false_and (zc @Bool.and_false (zc @Bool.not_false (zc @Bool.not_true (zc @Bool.true_and (zc @Bool.true_or (zc @Bool.false_or (zc @Int.toNat_natCast (zc @hgd @ppA.eq_1)))))))))))))))); (try dsimp only [putA, optG]))) | skip); (refine x_abz (zc @hb0 (zc @hb1 (zc @hb2 (zc @hb3 (zc @hy2 (zc @hy3 (zc @Bool.false_and (zc @Bool.and_false (zc @Bool.not_false (zc @Bool.not_true (zc @Bool.true_and (zc @Bool.true_or (zc @Bool.false_or (zc @Int.toNat_natCast (zc @hgd @ppA.eq_1))))))))))))))) ?_)); exact Abn.nil))
            (refine x_gg (zc @hb0 (zc @hb1 (zc @hb2 (zc @hb3 (zc @hy2 (zc @hy3 (zc @Bool.false_and (zc @Bool.and_false (zc @Bool.not_false (zc @Bool.not_true (zc @Bool.true_and (zc @Bool.true_or (zc @Bool.false_or (zc @Int.toNat_natCast (zc @hgd @ppA.eq_1))))))))))))))) ?_)
            (first | exact x_ret (zc @hb0 (zc @hb1 (zc @hb2 (zc @hb3 (zc @hy2 (zc @hy3 (zc @Bool.false_and (zc @Bool.and_false (zc @Bool.not_false (zc @Bool.not_true (zc @Bool.true_and (zc @Bool.true_or (zc @Bool.false_or (zc @Int.toNat_natCast (zc @hgd @ppA.eq_1))))))))))))))) | refine x_retZ (zc @hb0 (zc @hb1 (zc @hb2 (zc @hb3 (zc @hy2 (zc @hy3 (zc @Bool.false_and (zc @Bool.and_false (zc @Bool.not_false (zc @Bool.not_true (zc @Bool.true_and (zc @Bool.true_or (zc @Bool.false_or (zc @Int.toNat_natCast (zc @hgd @ppA.eq_1))))))))))))))) ?_)
theorem can_pure {r : Rm} (hz : Sz r) (f : St) {s : St} (hs : Zs s) (hc : csE r s = 0) (hf : f.pp.length = r.pp.length) (hfp : f.ts.length ≤ 100) (a : Int) (t : Tk) : Pure Tryz.prog 52 [.ref (kC r f s a) 0, tkA t] (.bool (canB r f s a t)) := by
  obtain ⟨hv, hv2, hch⟩ := cs_zero hc
  have z2 := hv.ts
  have z3 := hv.wy
  unfold canB
  by_cases h1 : t.kd = 1
  · rw [if_pos h1]; exact can_walk r (by omega) f s a t h1
  · rw [if_neg h1]
    by_cases h2 : t.kd = 2
    · rw [if_pos h2]; exact can_turn r (by omega) (fun x hx => (hv.tsv x hx).2.1) f s hv2.ts a t h2
    · rw [if_neg h2]
      by_cases h3 : t.kd = 3
      · rw [if_pos h3]; exact can_put hz f hs hc hf hfp a t h3
      · rw [if_neg h3]; exact can_other r f s a t h1 h2 h3
end Go.Proofs.Tryz
set_option maxHeartbeats 16000000
namespace Go.Proofs.Tryz
open Go.Vg

/-! what a task does, in own memory -/
abbrev doM (a0 a1 a2 a3 a4 a5 : Ent) (r : Rm) (f : St) (v6 v7 v8 v9 n1 n2 n3 : Nat) (s : St) (a : Int) : Mem := [a0, a1, a2, a3, a4, a5, ⟨v6, .row 15 [.agg (kO r f (.osl 7 v7 0 n1) (.osl 8 v8 0 n2) (.osl 9 v9 0 n3) (.int a))]⟩, ⟨v7, .row 1 (s.ts.map AV.int)⟩, ⟨v8, .row 1 (s.pp.map AV.int)⟩, ⟨v9, .row 1 (s.pl.map AV.int)⟩]
theorem do_walk (r : Rm) (f s : St) (a : Int) (n : Nat) (ar : Int) (hn : n < r.wy.length) (hx : (0 ≤ (r.wy.getD n wy0).a ∧ (r.wy.getD n wy0).a ≤ 100) ∧ (0 ≤ (r.wy.getD n wy0).b ∧ (r.wy.getD n wy0).b ≤ 100) ∧ 0 ≤ a ∧ a ≤ 100) {a0 a1 a2 a3 a4 a5 : Ent} (h0 : a0.kind.ok 10) (h1 : a1.kind.ok 10) (h2 : a2.kind.ok 10) (h3 : a3.kind.ok 10) (h4 : a4.kind.ok 10) (h5 : a5.kind.ok 10) (v6 v7 v8 v9 n1 n2 n3 : Nat) :
    Go.Vg.Spec Tryz.prog 54 [.optr 6 v6 0 0, .agg [.int 1, .int n, .int ar]] (doM a0 a1 a2 a3 a4 a5 r f v6 v7 v8 v9 n1 n2 n3 s a) (fun x m' => x = .tup [] ∧ m' = doM a0 a1 a2 a3 a4 a5 r f v6 v7 v8 v9 n1 n2 n3 s ((r.wy.getD n wy0).a + (r.wy.getD n wy0).b - a)) := by
  have hgd := fun d => getD_wy (d := d) hn
  obtain ⟨x, hx2⟩ : ∃ x, r.wy.getD n wy0 = x := ⟨_, rfl⟩
  simp only [hx2] at hgd hx ⊢
  (refine Spec.bd 10 Tryz.func54 Tryz.results54 Tryz.ntmps54 ?_; simp only [entry, zipArgs, Nat.reduceAdd])
  (refine x_gg (zc @hgd (zc @wyA.eq_1 @Int.toNat_natCast)) ?_)
  (apply Wp.runVE 10 mixed; (dsimp only [List.map] <;> exact rfl); exact rfl; kernel_rfl; (dsimp only [List.take] <;> exact rfl); (dsimp only [List.drop] <;> exact rfl); kernel_rfl; ((try dsimp only); (repeat (first | (apply AbsV.alc; exact rfl; (exact x_ev (zc @hgd (zc @wyA.eq_1 @Int.toNat_natCast))); ((try simp only [push_cast, seval, hgd, wyA, Int.toNat_natCast]) <;> exact sT); dsimp only [upd, alcV, List.length_cons, List.length_nil, Nat.reduceAdd]) | (apply AbsV.apn; exact rfl; (exact x_ev (zc @hgd (zc @wyA.eq_1 @Int.toNat_natCast))); ((try simp only [push_cast, seval, hgd, wyA, Int.toNat_natCast]) <;> exact sT); dsimp only [upd, alcV, List.length_cons, List.length_nil, Nat.reduceAdd]) | (apply AbsV.cons; exact rfl; exact rfl; (exact x_ev (zc @hgd (zc @wyA.eq_1 @Int.toNat_natCast))); ((try simp only [push_cast, seval, hgd, wyA, Int.toNat_natCast]) <;> exact sT); dsimp only [upd]))); exact AbsV.nil); exact rfl; ((try dsimp only [List.map, List.cons_append, List.nil_append]); (exact x_ev (zc @hgd (zc @wyA.eq_1 @Int.toNat_natCast)))); ((try simp only [push_cast, seval, hgd, wyA, Int.toNat_natCast]) <;> exact sT); dsimp only [upd])
  (refine x_mv (zc @hgd (zc @wyA.eq_1 @Int.toNat_natCast)) ?_)
  (apply Wp.runE 13 13 mixed; (dsimp only [List.map] <;> exact rfl); exact rfl; kernel_rfl; ((refine x_nx (zc @hgd (zc @wyA.eq_1 @Int.toNat_natCast)) ?_); (refine x_ef (zc @hgd (zc @wyA.eq_1 @Int.toNat_natCast)) ?_); exact Abe.nil))
  (refine x_gg (zc @hgd (zc @wyA.eq_1 @Int.toNat_natCast)) ?_)
  dsimp only [sQ, tQ, bQ]
  (apply leaveKN; exact rfl; (exact x_ev (zc @hgd (zc @wyA.eq_1 @Int.toNat_natCast))); ((exact x_cl (zc @hgd (zc @wyA.eq_1 @Int.toNat_natCast)))); ((exact x_cl (zc @hgd (zc @wyA.eq_1 @Int.toNat_natCast)))); (focus (first | (simp only [push_cast, seval, hgd, wyA, Int.toNat_natCast]; done) | trivial | (simp only [push_cast, seval, hgd, wyA, Int.toNat_natCast]; trivial) | (simp; done) | (simp only [List.take_succ_cons, List.take_zero, List.mem_cons, List.not_mem_nil, or_false, forall_eq_or_imp, forall_eq]; (try simp only [Kind.ok, okL, AV.ok]); (try simp only [okL_str, okL_th, okL_pp, okL_wy, okL_ac, okL_au, okL_lt, okL_mapInt]); simp_all))); (try simp only [push_cast, seval, hgd, wyA, Int.toNat_natCast]))
theorem do_turn (r : Rm) (f s : St) (a : Int) (n : Nat) (ar : Int) (hn : n < s.ts.length) {a0 a1 a2 a3 a4 a5 : Ent} (h0 : a0.kind.ok 10) (h1 : a1.kind.ok 10) (h2 : a2.kind.ok 10) (h3 : a3.kind.ok 10) (h4 : a4.kind.ok 10) (h5 : a5.kind.ok 10) (v6 v7 v8 v9 n2 n3 : Nat) :
    Go.Vg.Spec Tryz.prog 54 [.optr 6 v6 0 0, .agg [.int 2, .int n, .int ar]] (doM a0 a1 a2 a3 a4 a5 r f v6 v7 v8 v9 s.ts.length n2 n3 s a) (fun x m' => x = .tup [] ∧ m' = doM a0 a1 a2 a3 a4 a5 r f v6 v7 v8 v9 s.ts.length n2 n3 { s with ts := s.ts.set n ar } a) := by
  (refine Spec.bd 10 Tryz.func54 Tryz.results54 Tryz.ntmps54 ?_; simp only [entry, zipArgs, Nat.reduceAdd])
  (refine x_gg @Int.toNat_natCast ?_)
  (apply Wp.runE 10 10 mixed; (dsimp only [List.map] <;> exact rfl); exact rfl; kernel_rfl; ((refine x_nx @Int.toNat_natCast ?_); (refine x_ef @Int.toNat_natCast ?_); exact Abe.nil))
  (refine x_gg @Int.toNat_natCast ?_)
  dsimp only [sQ, tQ, bQ]
  (apply leaveKN; exact rfl; (exact x_ev @Int.toNat_natCast); ((exact x_cl @Int.toNat_natCast)); ((exact x_cl @Int.toNat_natCast)); (focus (first | (simp only [push_cast, seval, Int.toNat_natCast]; done) | trivial | (simp only [push_cast, seval, Int.toNat_natCast]; trivial) | (simp; done) | (simp only [List.take_succ_cons, List.take_zero, List.mem_cons, List.not_mem_nil, or_false, forall_eq_or_imp, forall_eq]; (try simp only [Kind.ok, okL, AV.ok]); (try simp only [okL_str, okL_th, okL_pp, okL_wy, okL_ac, okL_au, okL_lt, okL_mapInt]); simp_all))); (try simp only [push_cast, seval, Int.toNat_natCast]))
  try simp only [List.map_set]
theorem do_put (r : Rm) (f s : St) (a : Int) (n : Nat) (ar : Int) (hn : n < s.pp.length) (hf : n < f.pp.length) {a0 a1 a2 a3 a4 a5 : Ent} (h0 : a0.kind.ok 10) (h1 : a1.kind.ok 10) (h2 : a2.kind.ok 10) (h3 : a3.kind.ok 10) (h4 : a4.kind.ok 10) (h5 : a5.kind.ok 10) (v6 v7 v8 v9 n1 n3 : Nat) :
    Go.Vg.Spec Tryz.prog 54 [.optr 6 v6 0 0, .agg [.int 3, .int n, .int ar]] (doM a0 a1 a2 a3 a4 a5 r f v6 v7 v8 v9 n1 s.pp.length n3 s a) (fun x m' => x = .tup [] ∧ m' = doM a0 a1 a2 a3 a4 a5 r f v6 v7 v8 v9 n1 s.pp.length n3 { s with pp := s.pp.set n (f.pp.getD n 0) } a) := by
  (refine Spec.bd 10 Tryz.func54 Tryz.results54 Tryz.ntmps54 ?_; simp only [entry, zipArgs, Nat.reduceAdd])
  (refine x_gg @Int.toNat_natCast ?_)
  (apply Wp.runE 17 17 mixed; (dsimp only [List.map] <;> exact rfl); exact rfl; kernel_rfl; ((refine x_nx @Int.toNat_natCast ?_); (refine x_ef @Int.toNat_natCast ?_); exact Abe.nil))
  (refine x_gg @Int.toNat_natCast ?_)
  dsimp only [sQ, tQ, bQ]
  (apply leaveKN; exact rfl; (exact x_ev @Int.toNat_natCast); ((exact x_cl @Int.toNat_natCast)); ((exact x_cl @Int.toNat_natCast)); (focus (first | (simp only [push_cast, seval, Int.toNat_natCast]; done) | trivial | (simp only [push_cast, seval, Int.toNat_natCast]; trivial) | (simp; done) | (simp only [List.take_succ_cons, List.take_zero, List.mem_cons, List.not_mem_nil, or_false, forall_eq_or_imp, forall_eq]; (try simp only [Kind.ok, okL, AV.ok]); (try simp only [okL_str, okL_th, okL_pp, okL_wy, okL_ac, okL_au, okL_lt, okL_mapInt]); simp_all))); (try simp only [push_cast, seval, Int.toNat_natCast]))
  try simp only [List.map_set]
end Go.Proofs.Tryz
set_option maxHeartbeats 16000000
namespace Go.Proofs.Tryz
open Go.Vg

/-! all tasks that there might be -/
def tkW (k : Nat) : List Tk := (List.range k).map fun i : Nat => (⟨1, i, 0⟩ : Tk)
def tkS (i j : Nat) : List Tk := (List.range j).map fun s : Nat => (⟨2, i, s⟩ : Tk)
def tkT (ts : List Th) (k : Nat) : List Tk := (List.range k).flatMap fun i : Nat => tkS i (ts.getD i th0).ss.toNat
def tkP (k : Nat) : List Tk := (List.range k).map fun i : Nat => (⟨3, i, 0⟩ : Tk)
def tkL (r : Rm) : List Tk := tkW r.wy.length ++ tkT r.ts r.ts.length ++ tkP r.pp.length
theorem tkW_succ (k : Nat) : tkW (k + 1) = tkW k ++ [⟨1, k, 0⟩] := by simp [tkW, List.range_succ]
theorem tkS_succ (i k : Nat) : tkS i (k + 1) = tkS i k ++ [⟨2, i, k⟩] := by simp [tkS, List.range_succ]
theorem tkP_succ (k : Nat) : tkP (k + 1) = tkP k ++ [⟨3, k, 0⟩] := by simp [tkP, List.range_succ]
theorem tkT_succ (ts : List Th) (k : Nat) : tkT ts (k + 1) = tkT ts k ++ tkS k (ts.getD k th0).ss.toNat := by simp [tkT, List.range_succ]
theorem tkW_len (k : Nat) : (tkW k).length = k := by simp [tkW]
theorem tkS_len (i k : Nat) : (tkS i k).length = k := by simp [tkS]
theorem tkP_len (k : Nat) : (tkP k).length = k := by simp [tkP]
theorem tkT_len (ts : List Th) (h : ∀ x ∈ ts, x.ss ≤ 6) : ∀ k, k ≤ ts.length → (tkT ts k).length ≤ 6 * k
  | 0, _ => by simp [tkT]
  | k + 1, hk => by
    have h1 := tkT_len ts h k (by omega)
    have h2 := h (ts.getD k th0) (by rw [show ts.getD k th0 = ts[k] by simp [show k < ts.length by omega]]; exact List.getElem_mem _)
    rw [tkT_succ, List.length_append, tkS_len]
    omega
theorem okL_tk (k : Nat) (l : List Tk) : okL k (l.map tkA) = True := eq_true (by
  induction l with
  | nil => trivial
  | cons a l ih => exact ⟨by simp [tkA, AV.ok, okL], ih⟩)
theorem getD_thE {l : List Th} {i : Nat} {d : AV} (h : i < l.length) : (l.map thA).getD i d = thA (l.getD i th0) := getD_mapE thA l th0 h
theorem tasks_pure {r : Rm} (hv : RV r) : Pure Tryz.prog 47 [rmA r] (.lst 3 ((tkL r).map tkA)) := by
  have z1 := hv.wy
  have z2 := hv.ts
  have z3 := hv.pp
  have hss := fun x hx => (hv.tsv x hx).2.1
  unfold tkL rmA
  (refine Spec.bd 0 Tryz.func47 Tryz.results47 Tryz.ntmps47 ?_; simp only [entry, zipArgs, Nat.reduceAdd])
  ((refine x_pre @rmC.eq_1 ?_); (iterate 2 (refine x_nr @rmC.eq_1 ?_)); (refine x_nil @rmC.eq_1 ?_))
  (refine x_fzP @rmC.eq_1 (slq 1) ?_)
  repeat (first | apply Wp.seq | apply Wp.block)
  apply Wp.adopt 2 3; (exact x_ev @rmC.eq_1)
  (refine x_go @rmC.eq_1 ?_)
  (refine Wp.vacs 1 ?_; (try simp only [List.replicate_succ, List.replicate_zero, List.cons_append, List.nil_append]))
  refine Wp.loop (fun (q : Nat × Nat × Kind) => { t := [(1, .ref (rmC r) 0), (2, .osl 1 (tkW q.1).length 0 (tkW q.1).length), (10, .int r.wy.length), (11, .int q.1)], m := [⟨1, .row 8 []⟩, ⟨(tkW q.1).length, .row 3 ((tkW q.1).map tkA)⟩, ⟨q.2.1, q.2.2⟩], n := 54 }) (fun q => q.1 ≤ r.wy.length) (fun q => r.wy.length - q.1) (0, 0, .row 1 []) ?_ ?_ ?_
  · (refine Le.of ?_ ?_ rfl rfl <;> (try simp only [push_cast, seval, rmC]) <;> (try (with_reducible rfl)))
    all_goals (first | exact ⟨rfl, rfl⟩ | rfl)
  · simp
  · rintro ⟨k, v, kd⟩ hk1
    simp only at hk1
    (refine x_go @rmC.eq_1 ?_)
    (apply Wp.cond; (exact x_ev @rmC.eq_1))
    · (intro hc; first | replace hc := bT hc | skip)
      have hst := tkW_succ k
      have hul := tkW_len k
      generalize tkW k = U at hst hul
      have hU : U.take U.length = U := List.take_length
      (refine x_gs (zc @rmC.eq_1 (zc @lenMp @hU)) ?_)
      refine ⟨(k + 1, v, kd), ?_, by simp only; omega, by simp only; omega⟩
      simp only [hst, List.length_append, List.length_singleton, List.map_append, List.map_cons, List.map_nil, tkA]
      (refine Le.of ?_ ?_ rfl rfl <;> (try simp only [push_cast, seval, rmC, List.length_map, hU]) <;> (try (with_reducible rfl)))
    · (intro hc; first | replace hc := bT hc | skip)
      obtain rfl : k = r.wy.length := by omega
      have hWl := tkW_len r.wy.length
      generalize tkW r.wy.length = W at *
      (refine x_go @rmC.eq_1 ?_)
      (refine Wp.vacs 1 ?_; (try simp only [List.replicate_succ, List.replicate_zero, List.cons_append, List.nil_append]))
      refine Wp.loop (fun (q : Nat × (Nat × Kind) × (Nat × Kind)) => { t := [(1, .ref (rmC r) 0), (2, .osl 1 (W ++ tkT r.ts q.1).length 0 (W ++ tkT r.ts q.1).length), (21, .lst 4 (r.ts.map thA)), (22, .int r.ts.length), (23, .int q.1)], m := [⟨1, .row 8 []⟩, ⟨(W ++ tkT r.ts q.1).length, .row 3 ((W ++ tkT r.ts q.1).map tkA)⟩, ⟨q.2.1.1, q.2.1.2⟩, ⟨q.2.2.1, q.2.2.2⟩], n := 54 }) (fun q => q.1 ≤ r.ts.length) (fun q => r.ts.length - q.1) (0, (v, kd), (0, .row 1 [])) ?_ ?_ ?_
      · have e0 : W ++ tkT r.ts 0 = W := by simp [tkT]
        simp only [e0]
        (refine Le.of ?_ ?_ rfl rfl <;> (try simp only [push_cast, seval, rmC]) <;> (try (with_reducible rfl)))
        all_goals (first | exact ⟨rfl, rfl⟩ | rfl)
      · simp
      · rintro ⟨k, ⟨v2, kd2⟩, v3, kd3⟩ hk1
        simp only at hk1
        (refine x_go @rmC.eq_1 ?_)
        (apply Wp.cond; (exact x_ev @rmC.eq_1))
        · (intro hc; first | replace hc := bT hc | skip)
          have hst := tkT_succ r.ts k
          have hul := tkT_len r.ts (fun x hx => (hss x hx).2) k (by omega)
          have hgd := fun d => getD_thE (d := d) hc
          have hsx := hss (r.ts.getD k th0) (by rw [show r.ts.getD k th0 = r.ts[k] by simp [hc]]; exact List.getElem_mem _)
          obtain ⟨x, hx⟩ : ∃ x, r.ts.getD k th0 = x := ⟨_, rfl⟩
          simp only [hx] at hst hgd hsx
          have hUl : (W ++ tkT r.ts k).length ≤ 100 := by rw [List.length_append]; omega
          have hst2 : W ++ tkT r.ts (k + 1) = W ++ tkT r.ts k ++ tkS k x.ss.toNat := by rw [hst, List.append_assoc]
          generalize W ++ tkT r.ts k = U at hst2 hUl
          (refine x_gs (zc @rmC.eq_1 (zc @lenMp (zc @hgd @thA.eq_1))) ?_)
          (apply Run.alcAt 3; (exact x_ev (zc @rmC.eq_1 (zc @lenMp (zc @hgd @thA.eq_1)))); ((try simp only [push_cast, seval, rmC, List.length_map, hgd, thA]) <;> exact sT); exact rfl; (try simp only [push_cast, seval, rmC, List.length_map, hgd, thA]))
          (refine x_go (zc @rmC.eq_1 (zc @lenMp (zc @hgd @thA.eq_1))) ?_)
          refine Wp.loop (fun (q : Nat × Nat × Kind) => { t := [(1, .ref (rmC r) 0), (2, .osl 1 (U ++ tkS k q.1).length 0 (U ++ tkS k q.1).length), (21, .lst 4 (r.ts.map thA)), (22, .int r.ts.length), (23, .int k), (4, .int k), (29, .int x.ss), (30, .int q.1)], m := [⟨1, .row 8 []⟩, ⟨(U ++ tkS k q.1).length, .row 3 ((U ++ tkS k q.1).map tkA)⟩, ⟨q.2.1, q.2.2⟩, ⟨v3 + 1, .row 4 [thA x]⟩], n := 54 }) (fun q => (q.1 : Int) ≤ x.ss) (fun q => x.ss.toNat - q.1) (0, v2, kd2) ?_ ?_ ?_
          · have e0 : U ++ tkS k 0 = U := by simp [tkS]
            simp only [e0]
            (refine Le.of ?_ ?_ rfl rfl <;> (try simp only [push_cast, seval, rmC, List.length_map, hgd, thA]) <;> (try (with_reducible rfl)))
            all_goals (first | exact ⟨rfl, rfl⟩ | rfl)
          · simp; omega
          · rintro ⟨j, v4, kd4⟩ hj
            simp only at hj
            (refine x_go (zc @rmC.eq_1 (zc @lenMp (zc @hgd @thA.eq_1))) ?_)
            (apply Wp.cond; (exact x_ev (zc @rmC.eq_1 (zc @lenMp (zc @hgd @thA.eq_1)))))
            · intro hc2
              have hc2 : (j : Int) < x.ss := by simpa using hc2
              have hst3 : U ++ tkS k (j + 1) = U ++ tkS k j ++ [⟨2, k, j⟩] := by rw [tkS_succ, List.append_assoc]
              have hVl : (U ++ tkS k j).length ≤ 106 := by rw [List.length_append, tkS_len]; omega
              generalize U ++ tkS k j = V at hst3 hVl
              have hV : V.take V.length = V := List.take_length
              (refine x_gs (zc @rmC.eq_1 (zc @lenMp @hV)) ?_)
              refine ⟨(j + 1, v4, kd4), ?_, by simp only; omega, by simp only; omega⟩
              simp only [hst3, List.length_append, List.length_singleton, List.map_append, List.map_cons, List.map_nil, tkA]
              (refine Le.of ?_ ?_ rfl rfl <;> (try simp only [push_cast, seval, rmC, List.length_map, hV]) <;> (try (with_reducible rfl)))
            · intro hc2
              have hc2 : ¬ (j : Int) < x.ss := by simpa using hc2
              have e4 : x.ss.toNat = j := by omega
              rw [e4] at hst2
              (refine x_go (zc @rmC.eq_1 (zc @lenMp (zc @hgd @thA.eq_1))) ?_)
              refine ⟨(k + 1, (v4, kd4), (v3 + 1, .row 4 [thA x])), ?_, by simp only; omega, by simp only; omega⟩
              simp only [hst2]
              (refine Le.of ?_ ?_ rfl rfl <;> (try simp only [push_cast, seval, rmC, List.length_map, hgd, thA]) <;> (try (with_reducible rfl)))
              all_goals rfl
        · (intro hc; first | replace hc := bT hc | skip)
          obtain rfl : k = r.ts.length := by omega
          have hul := tkT_len r.ts (fun x hx => (hss x hx).2) r.ts.length (by omega)
          have hUl : (W ++ tkT r.ts r.ts.length).length ≤ 100 := by rw [List.length_append]; omega
          generalize W ++ tkT r.ts r.ts.length = U at *
          (refine x_go @rmC.eq_1 ?_)
          refine Wp.loop (fun (q : Nat × Nat × Kind) => { t := [(1, .ref (rmC r) 0), (2, .osl 1 (U ++ tkP q.1).length 0 (U ++ tkP q.1).length), (43, .int r.pp.length), (44, .int q.1)], m := [⟨1, .row 8 []⟩, ⟨(U ++ tkP q.1).length, .row 3 ((U ++ tkP q.1).map tkA)⟩, ⟨q.2.1, q.2.2⟩, ⟨v3, kd3⟩], n := 54 }) (fun q => q.1 ≤ r.pp.length) (fun q => r.pp.length - q.1) (0, v2, kd2) ?_ ?_ ?_
          · have e0 : U ++ tkP 0 = U := by simp [tkP]
            simp only [e0]
            (refine Le.of ?_ ?_ rfl rfl <;> (try simp only [push_cast, seval, rmC]) <;> (try (with_reducible rfl)))
            all_goals (first | exact ⟨rfl, rfl⟩ | rfl)
          · simp
          · rintro ⟨j, v4, kd4⟩ hj
            simp only at hj
            (refine x_go @rmC.eq_1 ?_)
            (apply Wp.cond; (exact x_ev @rmC.eq_1))
            · (intro hc; first | replace hc := bT hc | skip)
              have hst3 : U ++ tkP (j + 1) = U ++ tkP j ++ [⟨3, j, 0⟩] := by rw [tkP_succ, List.append_assoc]
              have hVl : (U ++ tkP j).length ≤ 110 := by rw [List.length_append, tkP_len]; omega
              generalize U ++ tkP j = V at hst3 hVl
              have hV : V.take V.length = V := List.take_length
              (refine x_gs (zc @rmC.eq_1 (zc @lenMp @hV)) ?_)
              refine ⟨(j + 1, v4, kd4), ?_, by simp only; omega, by simp only; omega⟩
              simp only [hst3, List.length_append, List.length_singleton, List.map_append, List.map_cons, List.map_nil, tkA]
              (refine Le.of ?_ ?_ rfl rfl <;> (try simp only [push_cast, seval, rmC, List.length_map, hV]) <;> (try (with_reducible rfl)))
            · (intro hc; first | replace hc := bT hc | skip)
              obtain rfl : j = r.pp.length := by omega
              (refine x_mv @rmC.eq_1 ?_)
              (apply Wp.freeze 2; (exact x_ev @rmC.eq_1); (exact x_ev @rmC.eq_1); (focus (try simp only [push_cast, seval, rmC]); (try (exact sT))); (focus (exact sT)))
              (refine x_go @rmC.eq_1 ?_)
              (first | exact x_ret @rmC.eq_1 | refine x_retZ @rmC.eq_1 ?_)
              · rw [okL_tk]; trivial
end Go.Proofs.Tryz
set_option maxHeartbeats 16000000
namespace Go.Proofs.Tryz
open Go.Vg

/-! how a room stands for the keeper -/
structure Sd where
  ts : List Int
  pp : List Int
  at_ : Int
  deriving DecidableEq
instance : Inhabited Sd := ⟨⟨[], [], 0⟩⟩
def sdS (pl : List Int) (x : Sd) : St := ⟨x.ts, x.pp, pl⟩
def sdK (x : Sd) : ByteArray := kyB x.at_ (x.ts ++ x.pp)
def nxT (r : Rm) (f : St) (pl : List Int) (x : Sd) (t : Tk) : Sd := ⟨(doS r f (sdS pl x) x.at_ t).ts, (doS r f (sdS pl x) x.at_ t).pp, doA r x.at_ t⟩
def nxR (r : Rm) (f : St) (pl : List Int) (x : Sd) (k : Nat) : Sd := if canB r f (sdS pl x) x.at_ ((tkL r).getD k tk0) = true then nxT r f pl x ((tkL r).getD k tk0) else x
def SdOk (r : Rm) (pl : List Int) (x : Sd) : Prop := SV r (sdS pl x) ∧ 0 ≤ x.at_ ∧ x.at_ ≤ (r.ps.length : Int) - 1
theorem doS_pl (r : Rm) (f s : St) (a : Int) (t : Tk) : (doS r f s a t).pl = s.pl := by unfold doS; split <;> first | rfl | (split <;> rfl)
theorem nx_sdS (r : Rm) (f : St) (pl : List Int) (x : Sd) (t : Tk) : sdS pl (nxT r f pl x t) = doS r f (sdS pl x) x.at_ t := by
  have := doS_pl r f (sdS pl x) x.at_ t
  unfold sdS nxT
  simp only
  cases h : doS r f (sdS pl x) x.at_ t with
  | mk a b c => 
    unfold sdS at h this
    rw [h] at this ⊢
    simp only at this
    rw [this]
theorem getD_set {l : List Int} {i j : Nat} {x d : Int} : (l.set i x).getD j d = if i = j ∧ j < l.length then x else l.getD j d := by
  simp only [List.getD_eq_getElem?_getD, List.getElem?_set]
  by_cases h : i = j
  · subst h
    by_cases h2 : i < l.length
    · simp [h2]
    · simp [h2]
  · simp [h]
theorem nx_ok {r : Rm} (hv : RV r) {f : St} (hf : SV r f) {pl : List Int} {x : Sd} (hx : SdOk r pl x) {t : Tk} (hc : canB r f (sdS pl x) x.at_ t = true) : SdOk r pl (nxT r f pl x t) := by
  obtain ⟨h1, h2, h3⟩ := hx
  unfold SdOk
  rw [nx_sdS]
  unfold canB at hc
  unfold doS
  have hat : (nxT r f pl x t).at_ = doA r x.at_ t := rfl
  rw [hat]
  unfold doA
  split at hc
  · rename_i hk
    rw [hk]
    simp only [show ¬((1 : Int) = 2) by omega, show ¬((1 : Int) = 3) by omega, if_false, if_true]
    refine ⟨h1, ?_⟩
    unfold wkB wi at hc
    simp only [Bool.and_eq_true, Bool.or_eq_true, decide_eq_true_eq] at hc
    obtain ⟨⟨_, q1, q2⟩, q3⟩ := hc
    have hn : t.nu.toNat < r.wy.length := by omega
    have hm := hv.wyv (r.wy.getD t.nu.toNat wy0) (by rw [show r.wy.getD t.nu.toNat wy0 = r.wy[t.nu.toNat] by simp [hn]]; exact List.getElem_mem _)
    rcases q3 with q3 | q3 <;> omega
  · rename_i hk1
    split at hc
    · rename_i hk
      rw [hk]
      simp only [show ¬((2 : Int) = 1) by omega, if_false, if_true]
      unfold tnB wi at hc
      simp only [Bool.and_eq_true, decide_eq_true_eq] at hc
      obtain ⟨⟨q1, q2⟩, ⟨q3, q4, q5⟩, q6⟩ := hc
      refine ⟨⟨by simp only [List.length_set]; exact h1.ts, h1.pp, h1.pl, fun i hi => ?_, h1.ppv, h1.plv⟩, h2, h3⟩
      simp only [List.length_set] at hi
      simp only [getD_set]
      split
      · rename_i e
        rw [← e.1]
        exact ⟨q4, q5⟩
      · exact h1.tsv i hi
    · rename_i hk2
      split at hc
      · rename_i hk
        rw [hk]
        simp only [show ¬((3 : Int) = 1) by omega, show ¬((3 : Int) = 2) by omega, if_false, if_true]
        unfold ptB wi at hc
        simp only [Bool.and_eq_true, decide_eq_true_eq] at hc
        obtain ⟨⟨⟨_, q1, q2⟩, _⟩, _⟩ := hc
        have hn : t.nu.toNat < f.pp.length := by have := hf.pp; omega
        refine ⟨⟨h1.ts, by simp only [List.length_set]; exact h1.pp, h1.pl, h1.tsv, fun y hy => ?_, h1.plv⟩, h2, h3⟩
        rcases List.mem_or_eq_of_mem_set hy with hy | rfl
        · exact h1.ppv y hy
        · exact hf.ppv _ (by rw [show f.pp.getD t.nu.toNat 0 = f.pp[t.nu.toNat] by simp [hn]]; exact List.getElem_mem _)
      · cases hc
/-- the numbers in a stand are small -/
theorem sd_inR {r : Rm} (hv : RV r) {pl : List Int} {x : Sd} (hx : SdOk r pl x) : inR x.at_ ∧ ∀ n ∈ x.ts ++ x.pp, inR n := by
  obtain ⟨h1, h2, h3⟩ := hx
  have hp := hv.ps
  have hn := hv.n
  refine ⟨by unfold inR; omega, fun n hn2 => ?_⟩
  rcases List.mem_append.1 hn2 with h | h
  · obtain ⟨i, hi, rfl⟩ := List.getElem_of_mem h
    have h4 := h1.tsv i hi
    have h5 := h1.ts
    simp only [sdS] at h4 h5
    have e : x.ts.getD i 0 = x.ts[i] := by simp [hi]
    have hi2 : i < r.ts.length := by omega
    have h6 := (hv.tsv (r.ts.getD i th0) (by rw [show r.ts.getD i th0 = r.ts[i] by simp [hi2]]; exact List.getElem_mem _)).2.1
    rw [e] at h4
    unfold inR; omega
  · have h4 := h1.ppv n h
    unfold inR; omega
theorem sd_inj {r : Rm} (hv : RV r) {pl : List Int} {x y : Sd} (hx : SdOk r pl x) (hy : SdOk r pl y) (h : sdK x = sdK y) : x = y := by
  obtain ⟨a1, a2⟩ := sd_inR hv hx
  obtain ⟨b1, b2⟩ := sd_inR hv hy
  obtain ⟨e1, e2⟩ := kyB_inj a1 b1 a2 b2 h
  have l1 : x.ts.length = y.ts.length := by rw [show x.ts.length = r.ts.length from hx.1.ts, show y.ts.length = r.ts.length from hy.1.ts]
  obtain ⟨e3, e4⟩ := List.append_inj e2 l1
  cases x; cases y
  simp_all

/-! the stands in memory -/
def elT (r : Rm) (j : Nat) (p : Sd × Nat × Nat) : Tk := if j = 0 then tk0 else (tkL r).getD p.2.2 tk0
def elB (j : Nat) (p : Sd × Nat × Nat) : Int := if j = 0 then -1 else p.2.1
def elC (r : Rm) (f : St) (pl : List Int) (j : Nat) (p : Sd × Nat × Nat) : List AV := [.strs r.ps, .lst 4 (r.ts.map thA), .lst 3 (r.pp.map ppA), .lst 3 (r.wy.map wyA), .lst 8 (r.ac.map acA), .lst 3 (r.au.map auA), .int r.n, .lst 3 (r.goal.map ltA), .ints f.ts, .ints f.pp, .ints f.pl, .ints p.1.ts, .ints p.1.pp, .ints pl, .int p.1.at_, .int (elB j p), .int (elT r j p).kd, .int (elT r j p).nu, .int (elT r j p).ar]
def elA (r : Rm) (f : St) (pl : List Int) (j : Nat) (p : Sd × Nat × Nat) : AV := .agg (elC r f pl j p)
def stdL (r : Rm) (f : St) (pl : List Int) (S : SL Sd) : List AV := (List.range S.length).map fun j => elA r f pl j (S.getD j (default, 0, 0))
theorem stdL_len (r : Rm) (f : St) (pl : List Int) (S : SL Sd) : (stdL r f pl S).length = S.length := by simp [stdL]
theorem stdL_getD {r : Rm} {f : St} {pl : List Int} {S : SL Sd} {i : Nat} (d : AV) (h : i < S.length) : (stdL r f pl S).getD i d = elA r f pl i (S.getD i (default, 0, 0)) := by
  simp [stdL, h]
theorem stdL_snoc (r : Rm) (f : St) (pl : List Int) (S : SL Sd) (p : Sd × Nat × Nat) : stdL r f pl (S ++ [p]) = stdL r f pl S ++ [elA r f pl S.length p] := by
  unfold stdL
  rw [List.length_append, List.length_singleton, List.range_succ, List.map_append, List.map_singleton]
  congr 1
  · refine List.map_congr_left fun j hj => ?_
    have hj := List.mem_range.1 hj
    have : (S ++ [p]).getD j (default, 0, 0) = S.getD j (default, 0, 0) := by
      simp only [List.getD_eq_getElem?_getD]; rw [List.getElem?_append_left hj]
    rw [this]
  · simp
theorem okL_std (k : Nat) (r : Rm) (f : St) (pl : List Int) (S : SL Sd) : okL k (stdL r f pl S) = True := eq_true (by
  unfold stdL
  generalize List.range S.length = L
  induction L with
  | nil => trivial
  | cons a l ih => exact ⟨by simp [elA, elC, okL, AV.ok, okL_str, okL_th, okL_pp, okL_wy, okL_ac, okL_au, okL_lt, okL_mapInt], ih⟩)
/-- all stands so far are stands of the room -/
def allOk (r : Rm) (pl : List Int) (S : SL Sd) : Prop := ∀ j, j < S.length → SdOk r pl (sc S j)
theorem sc_old {S : SL Sd} {p : Sd × Nat × Nat} {j : Nat} (h : j < S.length) : (S ++ [p]).getD j (default, 0, 0) = S.getD j (default, 0, 0) := by
  simp only [List.getD_eq_getElem?_getD]; rw [List.getElem?_append_left h]
theorem allOk_snoc {r : Rm} {pl : List Int} {S : SL Sd} (h : allOk r pl S) {p : Sd × Nat × Nat} (hp : SdOk r pl p.1) : allOk r pl (S ++ [p]) := by
  intro j hj
  rcases Nat.lt_or_ge j S.length with q | q
  · unfold sc; rw [sc_old q]; exact h j q
  · have : j = S.length := by simp at hj; omega
    subst this
    simp [sc, hp]
end Go.Proofs.Tryz
set_option maxHeartbeats 16000000
namespace Go.Proofs.Tryz
open Go.Vg

/-! keys of a map -/
theorem keyedStr : Maps.Keyed Tryz.prog 9 := kdB_ok (by kernel_rfl)
theorem goodStr {s : ByteArray} (h : s.size ≤ 1000) : goodK Tryz.prog 9 (.string s) = true := by
  simp [goodK, WideMaps.keyOf_string_mk (P := Tryz.prog) (k := 9) Tryz.underlying9 (s := s) (by unfold maxLen; omega)]
theorem sdK_size {r : Rm} (hv : RV r) {pl : List Int} {x : Sd} (hx : SdOk r pl x) : (sdK x).size ≤ 1000 := by
  have h1 := kyB_size x.at_ (x.ts ++ x.pp)
  have h2 : x.ts.length = r.ts.length := hx.1.ts
  have h3 : x.pp.length = r.pp.length := hx.1.pp
  have h4 := hv.ts
  have h5 := hv.pp
  rw [List.length_append] at h1
  unfold sdK
  omega
theorem goodL_mpK {r : Rm} (hv : RV r) {pl : List Int} {S : SL Sd} (h : allOk r pl S) : goodL Tryz.prog 9 (mpK sdK S) = true := by
  unfold mpK
  have hL : ∀ j ∈ List.range S.length, (sdK (sc S j)).size ≤ 1000 := fun j hj => sdK_size hv (h j (List.mem_range.1 hj))
  generalize List.range S.length = L at hL
  induction L with
  | nil => rfl
  | cons a l ih =>
    simp only [List.map_cons, goodL, goodStr (hL a (by simp))]
    exact ih fun j hj => hL j (by simp [hj])
theorem updL_new : ∀ (l : List (Value × AV)) (k : Value) (x : AV), findL l k = none → updL l k x = l ++ [(k, x)]
  | [], k, x, _ => rfl
  | (k0, y) :: l, k, x, h => by
    simp only [findL, updL, List.cons_append] at h ⊢
    cases hb : eqKey k0 k with
    | true => rw [hb] at h; cases h
    | false => rw [hb] at h; simp only at h ⊢; rw [updL_new l k x h]

/-! Reverse, of an own slice behind others -/
theorem rev_swap {l : List Tk} {i : Nat} (hi : i < l.length) {A : List Tk} (hA : A = (List.range l.length).map fun k : Nat => if k < i ∨ l.length - 1 - k < i then l.getD (l.length - 1 - k) tk0 else l.getD k tk0) (hlt : i < l.length - 1 - i) :
    (A.set i (A.getD (l.length - 1 - i) tk0)).set (l.length - 1 - i) (A.getD i tk0) = (List.range l.length).map fun k : Nat => if k < i + 1 ∨ l.length - 1 - k < i + 1 then l.getD (l.length - 1 - k) tk0 else l.getD k tk0 := by
  have hAl : A.length = l.length := by rw [hA]; simp
  have hAg : ∀ k, k < l.length → A.getD k tk0 = if k < i ∨ l.length - 1 - k < i then l.getD (l.length - 1 - k) tk0 else l.getD k tk0 := fun k hk => by rw [hA]; simp [hk]
  apply List.ext_getElem
  · simp [hAl]
  · intro k h1 h2
    have hk : k < l.length := by simpa using h2
    have hA1 : A.getD i tk0 = l.getD i tk0 := by have := hAg i hi; rw [if_neg (by omega)] at this; exact this
    have hA2 : A.getD (l.length - 1 - i) tk0 = l.getD (l.length - 1 - i) tk0 := by have := hAg (l.length - 1 - i) (by omega); rw [if_neg (by omega)] at this; exact this
    simp only [List.getElem_set, hA1, hA2]
    have e3 : A[k]'(by omega) = A.getD k tk0 := by simp [show k < A.length by omega]
    have hA3 := hAg k hk
    rw [e3, hA3]
    simp only [List.getElem_map, List.getElem_range]
    by_cases q1 : l.length - 1 - i = k
    · rw [if_pos q1, if_pos (by omega), show l.length - 1 - k = i by omega]
    · rw [if_neg q1]
      by_cases q2 : i = k
      · rw [if_pos q2, if_pos (by omega), show l.length - 1 - k = l.length - 1 - i by omega]
      · rw [if_neg q2]
        by_cases q3 : k < i ∨ l.length - 1 - k < i
        · rw [if_pos q3, if_pos (by omega)]
        · rw [if_neg q3, if_neg (by omega)]
def rvN (l : List Tk) (i : Nat) : List Tk := (List.range l.length).map fun k : Nat => if k < i ∨ l.length - 1 - k < i then l.getD (l.length - 1 - k) tk0 else l.getD k tk0
theorem rvN_len (l : List Tk) (i : Nat) : (rvN l i).length = l.length := by simp [rvN]
theorem rvN_zero (l : List Tk) : rvN l 0 = l := by
  apply List.ext_getElem
  · simp [rvN]
  · intro k h1 h2
    simp [rvN, h2]
theorem rvN_all (l : List Tk) {i : Nat} (h : l.length - 1 - i ≤ i) : rvN l i = l.reverse := by
  apply List.ext_getElem
  · simp [rvN]
  · intro k h1 h2
    have hk : k < l.length := by simpa using h2
    simp only [rvN, List.getElem_map, List.getElem_range, List.getElem_reverse]
    by_cases q : k < i ∨ l.length - 1 - k < i
    · rw [if_pos q]; simp [show l.length - 1 - k < l.length by omega]
    · rw [if_neg q]
      have : l.length - 1 - k = k := by omega
      simp [this, hk]
theorem rvN_succ (l : List Tk) {i : Nat} (h : i < l.length - 1 - i) : ((rvN l i).set i ((rvN l i).getD (l.length - 1 - i) tk0)).set (l.length - 1 - i) ((rvN l i).getD i tk0) = rvN l (i + 1) := rev_swap (by omega) rfl h
theorem getD_tk {l : List Tk} {i : Nat} (d : AV) (h : i < l.length) : (l.map tkA).getD i d = tkA (l.getD i tk0) := getD_mapE tkA l tk0 h
theorem rev_spec {a0 a1 a2 a3 a4 a5 a6 a7 a8 a9 : Ent} (v : Nat) (l : List Tk) (hl : l.length ≤ 100000) : Go.Vg.Spec Tryz.prog 55 [.osl 10 v 0 l.length] [a0, a1, a2, a3, a4, a5, a6, a7, a8, a9, ⟨v, .row 3 (l.map tkA)⟩] (fun x m' => x = .tup [] ∧ m' = [a0, a1, a2, a3, a4, a5, a6, a7, a8, a9, ⟨v, .row 3 (l.reverse.map tkA)⟩]) := by
  (refine Spec.of_bodyA Tryz.func55 rfl (by rw [Tryz.ntmps55]; simp) ?_; rw [Tryz.results55, Tryz.ntmps55]; simp only [entry, zipArgs, Nat.reduceAdd])
  (refine w_go ?_)
  refine Wp.loop (fun (k : Nat) => { t := [(0, .osl 10 v 0 l.length), (2, .int k), (3, .int ((l.length : Int) - 1 - k))], m := [a0, a1, a2, a3, a4, a5, a6, a7, a8, a9, ⟨v, .row 3 ((rvN l k).map tkA)⟩], n := 28 }) (fun k => k ≤ l.length) (fun k => l.length - k) 0 ?_ ?_ ?_
  · (refine Le.of ?_ ?_ rfl rfl <;> (try simp only [push_cast, seval]) <;> (try (with_reducible rfl)))
    all_goals first
      | (rw [rvN_zero]; done)
      | rfl
      | simp
  · simp
  · intro k hk
    (refine w_go ?_)
    (apply Wp.cond; (exact w_ev))
    · intro hc
      have hc : (k : Int) < (l.length : Int) - 1 - k := by simpa using hc
      have hst := rvN_succ l (i := k) (by omega)
      have hul := rvN_len l k
      obtain ⟨j, hj⟩ : ∃ j : Nat, l.length - 1 - k = j := ⟨_, rfl⟩
      have hj2 : (l.length : Int) - 1 - (k : Int) = (j : Int) := by omega
      rw [hj] at hst
      rw [hj2]
      generalize rvN l k = U at hst hul
      have g1 := fun d => getD_tk (l := U) (i := k) d (by omega)
      have g2 := fun d => getD_tk (l := U) (i := j) d (by omega)
      generalize hx : U.getD k tk0 = x at hst g1
      generalize hy : U.getD j tk0 = y at hst g2
      have hss : ∀ (l : List Tk) (i : Nat) (x : Tk), (l.map tkA).set i (.agg [.int x.kd, .int x.nu, .int x.ar]) = (l.set i x).map tkA := fun l i x => by rw [List.map_set]; rfl
      have hjl : j < U.length := by omega
      have g3 := fun d => getD_tk (l := U.set k y) (i := j) d (by rw [List.length_set]; omega)
      (refine x_go (zc @g1 (zc @g2 (zc @g3 (zc @drpS (zc @drpZ (zc @hss (zc @tkA.eq_1 (zc @hul (zc @lenMp @lenSt))))))))) ?_)
      (apply Wp.runW 13 15 (fun _ => [a0, a1, a2, a3, a4, a5, a6, a7, a8, a9, ⟨v, .row 3 ((U.set k y).map tkA)⟩]) mixed; (dsimp only [List.map] <;> exact rfl); exact rfl; kernel_rfl; kernel_rfl; (dsimp only; ((repeat (refine x_wn (zc @g1 (zc @g2 (zc @g3 (zc @drpS (zc @drpZ (zc @hss (zc @tkA.eq_1 (zc @hul (zc @lenMp @lenSt))))))))) ?_)); (refine x_we (zc @g1 (zc @g2 (zc @g3 (zc @drpS (zc @drpZ (zc @hss (zc @tkA.eq_1 (zc @hul (zc @lenMp @lenSt))))))))) ?_); (repeat (refine x_wn (zc @g1 (zc @g2 (zc @g3 (zc @drpS (zc @drpZ (zc @hss (zc @tkA.eq_1 (zc @hul (zc @lenMp @lenSt))))))))) ?_)); (refine x_we (zc @g1 (zc @g2 (zc @g3 (zc @drpS (zc @drpZ (zc @hss (zc @tkA.eq_1 (zc @hul (zc @lenMp @lenSt))))))))) ?_); (repeat (refine x_wn (zc @g1 (zc @g2 (zc @g3 (zc @drpS (zc @drpZ (zc @hss (zc @tkA.eq_1 (zc @hul (zc @lenMp @lenSt))))))))) ?_)); (refine x_w1 (zc @g1 (zc @g2 (zc @g3 (zc @drpS (zc @drpZ (zc @hss (zc @tkA.eq_1 (zc @hul (zc @lenMp @lenSt))))))))) ?_); (refine x_wn (zc @g1 (zc @g2 (zc @g3 (zc @drpS (zc @drpZ (zc @hss (zc @tkA.eq_1 (zc @hul (zc @lenMp @lenSt))))))))) ?_); (refine x_w2 (zc @g1 (zc @g2 (zc @g3 (zc @drpS (zc @drpZ (zc @hss (zc @tkA.eq_1 (zc @hul (zc @lenMp @lenSt))))))))) ?_)); exact AbW.nil))
      (refine x_go (zc @g1 (zc @g2 (zc @g3 (zc @drpS (zc @drpZ (zc @hss (zc @tkA.eq_1 (zc @hul (zc @lenMp @lenSt))))))))) ?_)
      refine ⟨k + 1, ?_, by omega, by omega⟩
      rw [← hst]
      (refine Le.of ?_ ?_ rfl rfl <;> (try simp only [push_cast, seval, g1, g2, g3, List.drop_succ_cons, List.drop_zero, hss, tkA, hul, List.length_map, List.length_set]) <;> (try (with_reducible rfl)))
      all_goals (try (congr 2; omega))
    · intro hc
      have hc : ¬ (k : Int) < (l.length : Int) - 1 - k := by simpa using hc
      have hall := rvN_all l (i := k) (by omega)
      rw [hall]
      (refine w_go ?_)
      apply leaveAN; exact rfl; (exact w_ev); ((exact w_cl)); (try simp only [push_cast, seval])
end Go.Proofs.Tryz
set_option maxHeartbeats 16000000
namespace Go.Proofs.Tryz
open Go.Vg

theorem do_spec {r : Rm} (hv : RV r) {f : St} (hf : SV r f) {s : St} (hs : SV r s) {a : Int} (ha : 0 ≤ a ∧ a ≤ 100) {t : Tk} (hc : canB r f s a t = true) {a0 a1 a2 a3 a4 a5 : Ent} (h0 : a0.kind.ok 10) (h1 : a1.kind.ok 10) (h2 : a2.kind.ok 10) (h3 : a3.kind.ok 10) (h4 : a4.kind.ok 10) (h5 : a5.kind.ok 10) (v6 v7 v8 v9 : Nat) :
    Go.Vg.Spec Tryz.prog 54 [.optr 6 v6 0 0, tkA t] (doM a0 a1 a2 a3 a4 a5 r f v6 v7 v8 v9 s.ts.length s.pp.length s.pl.length s a) (fun x m' => x = .tup [] ∧ m' = doM a0 a1 a2 a3 a4 a5 r f v6 v7 v8 v9 s.ts.length s.pp.length s.pl.length (doS r f s a t) (doA r a t)) := by
  obtain ⟨kd, nu, ar⟩ := t
  unfold canB at hc
  simp only at hc
  unfold doS doA tkA
  simp only
  have hps := hv.ps
  split at hc
  · rename_i hk
    subst hk
    simp only [show ¬((1 : Int) = 2) by omega, show ¬((1 : Int) = 3) by omega, if_false, if_true]
    unfold wkB wi at hc
    simp only [Bool.and_eq_true, Bool.or_eq_true, decide_eq_true_eq] at hc
    obtain ⟨⟨_, q1, q2⟩, q3⟩ := hc
    obtain ⟨n, rfl⟩ : ∃ n : Nat, nu = n := ⟨nu.toNat, by omega⟩
    simp only [Int.toNat_natCast] at *
    have hn : n < r.wy.length := by omega
    have hm := hv.wyv (r.wy.getD n wy0) (by rw [show r.wy.getD n wy0 = r.wy[n] by simp [hn]]; exact List.getElem_mem _)
    exact do_walk r f s a n ar hn ⟨by omega, by omega, ha⟩ h0 h1 h2 h3 h4 h5 v6 v7 v8 v9 _ _ _
  · rename_i hk1
    split at hc
    · rename_i hk
      subst hk
      simp only [show ¬((2 : Int) = 1) by omega, if_false, if_true]
      unfold tnB wi at hc
      simp only [Bool.and_eq_true, decide_eq_true_eq] at hc
      obtain ⟨⟨q1, q2⟩, _⟩ := hc
      obtain ⟨n, rfl⟩ : ∃ n : Nat, nu = n := ⟨nu.toNat, by omega⟩
      simp only [Int.toNat_natCast]
      exact do_turn r f s a n ar (by have := hs.ts; omega) h0 h1 h2 h3 h4 h5 v6 v7 v8 v9 _ _
    · rename_i hk2
      split at hc
      · rename_i hk
        subst hk
        simp only [show ¬((3 : Int) = 1) by omega, show ¬((3 : Int) = 2) by omega, if_false, if_true]
        unfold ptB wi at hc
        simp only [Bool.and_eq_true, decide_eq_true_eq] at hc
        obtain ⟨⟨⟨_, q1, q2⟩, _⟩, _⟩ := hc
        obtain ⟨n, rfl⟩ : ∃ n : Nat, nu = n := ⟨nu.toNat, by omega⟩
        simp only [Int.toNat_natCast]
        exact do_put r f s a n ar (by have := hs.pp; omega) (by have := hf.pp; omega) h0 h1 h2 h3 h4 h5 v6 v7 v8 v9 _ _
      · cases hc

/-! what Least answers -/
def ovB (f : St) (pl : List Int) (x : Sd) : Bool := decide (x.at_ = 0) && rsB f (sdS pl x)
def enN (f : St) (pl : List Int) (S : SL Sd) (n : Nat) : Option Nat := (List.range n).find? fun j => ovB f pl (sc S j)
def enV (f : St) (pl : List Int) (S : SL Sd) (n : Nat) : Int := match enN f pl S n with
  | some j => j
  | none => -1
def pth (S : SL Sd) : Nat → Nat → List Nat
  | 0, _ => []
  | n + 1, i => if i = 0 then [] else st' S i :: pth S n (sb S i)
def lsB (r : Rm) (s : St) : Sd := ⟨s.ts, s.pp, 0⟩
def lsR (r : Rm) (s : St) : Option (SL Sd) := srun (tkL r).length (nxR r (bgS r) s.pl) 4000 4001 0 [(lsB r s, 0, 0)]
def leT (r : Rm) (s : St) : Int × List Tk := match lsR r s with
  | none => (2, [])
  | some S => match enN (bgS r) s.pl S S.length with
    | none => (90, [])
    | some e => (0, ((pth S e e).map fun k => (tkL r).getD k tk0).reverse)
theorem enN_succ (f : St) (pl : List Int) (S : SL Sd) (n : Nat) : enN f pl S (n + 1) = match enN f pl S n with
    | some j => some j
    | none => if ovB f pl (sc S n) = true then some n else none := by
  unfold enN
  rw [List.range_succ, List.find?_append]
  cases (List.range n).find? fun j => ovB f pl (sc S j) with
  | some j => rfl
  | none =>
    simp only [Option.none_or, List.find?_cons, List.find?_nil]
    cases ovB f pl (sc S n) <;> rfl
theorem enN_old {f : St} {pl : List Int} {S S' : SL Sd} {n : Nat} (h : ∀ j, j < n → sc S' j = sc S j) : enN f pl S' n = enN f pl S n := by
  induction n with
  | zero => rfl
  | succ n ih => rw [enN_succ, enN_succ, ih fun j hj => h j (by omega), h n (by omega)]
theorem enN_lt {f : St} {pl : List Int} {S : SL Sd} {n j : Nat} (h : enN f pl S n = some j) : j < n ∧ ovB f pl (sc S j) = true := by
  unfold enN at h
  exact ⟨List.mem_range.1 (List.mem_of_find?_eq_some h), by simpa using List.find?_some h⟩
theorem sstep_old {R : Sd → Nat → Sd} {M : Nat} {S S' : SL Sd} {i k : Nat} (h : sstep R M S i k = some S') : ∀ j, j < S.length → S'.getD j (default, 0, 0) = S.getD j (default, 0, 0) := by
  intro j hj
  unfold sstep at h
  split at h
  · cases h; rfl
  · split at h
    · cases h
    · cases h; exact sc_old hj
theorem srow_old {R : Sd → Nat → Sd} {M : Nat} {S : SL Sd} {i : Nat} : ∀ (k : Nat) {S' : SL Sd}, srow R M S i k = some S' → ∀ j, j < S.length → S'.getD j (default, 0, 0) = S.getD j (default, 0, 0)
  | 0, S', h, j, hj => by cases h; rfl
  | k + 1, S', h, j, hj => by
    unfold srow at h
    obtain ⟨S1, q1, q2⟩ := Option.bind_eq_some_iff.1 h
    rw [sstep_old q2 j (by have := (srow_len R k q1).1; omega), srow_old k q1 j hj]
theorem srow_none {R : Sd → Nat → Sd} {M : Nat} {S : SL Sd} {i : Nat} {k : Nat} (h : srow R M S i k = none) : ∀ n, srow R M S i (k + n) = none
  | 0 => h
  | n + 1 => by
    show (srow R M S i (k + n)).bind _ = none
    rw [srow_none h n]; rfl
end Go.Proofs.Tryz
