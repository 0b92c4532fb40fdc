/- A part of the proof of ResetFewest: contracts of functions, with plain laws that they need. -/
import Derived.Test.YtjhljokghikamaaGreatDoorVgR30J
set_option linter.all false
set_option maxHeartbeats 64000000
namespace Go.Proofs.Tryz
open Go.Vg

theorem enV_succ (f : St) (pl : List Int) (S : SL Sd) (i : Nat) : enV f pl S (i + 1) = if (decide (enV f pl S i < 0) && decide ((sc S i).at_ = 0) && rsB f (sdS pl (sc S i))) = true then (i : Int) else enV f pl S i := by
  unfold enV
  rw [enN_succ]
  cases h : enN f pl S i with
  | some j =>
    have e : decide ((j : Int) < 0) = false := decide_eq_false (by omega)
    simp [e]
  | none =>
    simp only [show decide ((-1 : Int) < 0) = true from rfl, Bool.true_and]
    unfold ovB
    cases hb : (decide ((sc S i).at_ = 0) && rsB f (sdS pl (sc S i))) <;> simp
structure G5 where
  v5 : Nat
  v6 : Nat
  v7 : Nat
  v8 : Nat
  v9 : Nat
  k5 : Kind
  k6 : Kind
  k7 : Kind
  k8 : Kind
  k9 : Kind
abbrev kX (r : Rm) (f : St) (pl : List Int) (x : Sd) : List AV := [.strs r.ps, .lst 4 (r.ts.map thA), .lst 3 (r.pp.map ppA), .lst 3 (r.wy.map wyA), .lst 8 (r.ac.map acA), .lst 3 (r.au.map auA), .int r.n, .lst 3 (r.goal.map ltA), .ints f.ts, .ints f.pp, .ints f.pl, .ints x.ts, .ints x.pp, .ints pl, .int x.at_]
abbrev lsM (r : Rm) (f : St) (pl : List Int) (S : SL Sd) (e4 : Ent) (g : G5) : Mem := [⟨1, .row 8 []⟩, ⟨1, .row 3 []⟩, ⟨S.length, .row 19 (stdL r f pl S)⟩, ⟨1, .mp (mpK sdK S)⟩, e4, ⟨g.v5, g.k5⟩, ⟨g.v6, g.k6⟩, ⟨g.v7, g.k7⟩, ⟨g.v8, g.k8⟩, ⟨g.v9, g.k9⟩]
theorem okL_kX (k : Nat) (r : Rm) (f : St) (pl : List Int) (x : Sd) : okL k [AV.agg (kX r f pl x)] := by simp [okL, AV.ok, okL_str, okL_th, okL_pp, okL_wy, okL_ac, okL_au, okL_lt, okL_mapInt]
theorem srow_succ (R : Sd → Nat → Sd) (M : Nat) (S : SL Sd) (i k : Nat) {S' : SL Sd} (h : srow R M S i k = some S') : srow R M S i (k + 1) = sstep R M S' i k := by
  show (srow R M S i k).bind _ = _
  rw [h]; rfl
theorem mpK_ok (S : SL Sd) (k : Nat) : okL k ((mpK sdK S).map (·.2)) := by
  unfold mpK
  generalize List.range S.length = L
  induction L with
  | nil => trivial
  | cons a l ih => exact ⟨trivial, ih⟩
theorem least_err {r : Rm} (hz : Sz r) {s : St} (hs : Zs s) (h1 : begE r s ≠ 0) : Pure Tryz.prog 16 [rmA r, stA s] (.tup [.lst 3 [], .int (begE r s)]) := by
  refine Spec.frz ?_
  have c0 := begin_err hz hs h1
  have e2 : decide (begE r s = 0) = false := decide_eq_false h1
  generalize begE r s = e at *
  unfold rmA rmC at *
  try unfold stA at *
  (refine Spec.of_bodyA Tryz.func16 rfl (by rw [Tryz.ntmps16]; simp) ?_; rw [Tryz.results16, Tryz.ntmps16]; simp only [entry, zipArgs, Nat.reduceAdd])
  ((refine x_pre (zc @e2 @Bool.not_false) ?_); (iterate 4 (refine x_nr (zc @e2 @Bool.not_false) ?_)); (refine x_nil (zc @e2 @Bool.not_false) ?_))
  (refine x_fzP (zc @e2 @Bool.not_false) (slq 2) ?_)
  (refine x_fzP (zc @e2 @Bool.not_false) (slq 3) ?_)
  (refine x_go (zc @e2 @Bool.not_false) ?_)
  (apply Run.pureFP; (exact x_ev (zc @e2 @Bool.not_false)); (exact (Enters.of Tryz.func46 rfl rfl)); (exact c0); (exact x_al (zc @e2 @Bool.not_false)); (try dsimp only [putA, optG]))
  (refine x_gg (zc @e2 @Bool.not_false) ?_)
  (first | exact x_retA (zc @e2 @Bool.not_false) | refine x_retAZ (zc @e2 @Bool.not_false) ?_)
  exact Vw.tup (.cons .emp (.cons (Vw.self trivial) .nil))
theorem least_ok {r : Rm} (hz : Sz r) {s : St} (hs : Zs s) (h : begE r s = 0) : Pure Tryz.prog 16 [rmA r, stA s] (.tup [.lst 3 ((leT r s).2.map tkA), .int (leT r s).1]) := by
  obtain ⟨hb0, hb1⟩ := begE_zero h
  obtain ⟨hv, hs2, hch⟩ := cs_zero hb1
  have hf := bg_SV hb0
  have c0 := begin_pure hz hs h
  have c1 := tasks_pure hv
  have hx0 : SdOk r s.pl (lsB r s) := ⟨hs2, Int.le_refl _, by have := hv.ps; simp only [lsB]; omega⟩
  have hkp : ∀ x : Sd, SdOk r s.pl x → Pure Tryz.prog 48 [.agg (kX r (bgS r) s.pl x)] (.str (sdK x)) := fun x hx => by
    obtain ⟨q1, q2⟩ := sd_inR hv hx
    have z := SV.zs hz hv hx.1
    exact key_pure r (bgS r) ⟨x.ts, x.pp, s.pl⟩ x.at_ q1 ⟨z.ts, z.pp⟩ q2
  have hrs : ∀ x : Sd, SdOk r s.pl x → Pure Tryz.prog 51 [.ref (kX r (bgS r) s.pl x) 0] (.bool (rsB (bgS r) (sdS s.pl x))) := fun x hx => reset_pure r (bgS r) ⟨x.ts, x.pp, s.pl⟩ (SV.zs hz hv hx.1) x.at_
  have hcn : ∀ x : Sd, SdOk r s.pl x → ∀ t, Pure Tryz.prog 52 [.ref (kX r (bgS r) s.pl x) 0, tkA t] (.bool (canB r (bgS r) (sdS s.pl x) x.at_ t)) := fun x hx t => can_pure hz (bgS r) (s := ⟨x.ts, x.pp, s.pl⟩) (SV.zs hz hv hx.1) (by unfold csE; rw [orE_ok hch, if_pos (show csB r ⟨x.ts, x.pp, s.pl⟩ = true from csB_SV.2 hx.1)]) hf.pp (SV.zs hz hv hf).ts x.at_ t
  have hcp : ∀ x : Sd, SdOk r s.pl x → _ := fun x hx => copied_spec ⟨x.ts, x.pp, s.pl⟩ (SV.zs hz hv hx.1)
  have hk0 := hkp _ hx0
  have htl : (tkL r).length ≤ 200 := by
    have := tkT_len r.ts (fun x hx => (hv.tsv x hx).2.1.2) r.ts.length (Nat.le_refl _)
    have := hv.wy; have := hv.ts; have := hv.pp
    unfold tkL
    simp only [List.length_append, tkW_len, tkP_len]
    omega
  refine Spec.frz ?_
  obtain ⟨tot, htot⟩ : ∃ tot, lsR r s = tot := ⟨_, rfl⟩
  unfold leT
  rw [htot]
  unfold lsR at htot
  have hsq : ∀ S' : SL Sd, tot = some S' → ∀ k, 0 < k → k < S'.length → sb S' k < k := fun S' e k q1 q2 => by
    subst e
    obtain ⟨Q', z1, z2⟩ := srun_is (nxR r (bgS r) s.pl) 4001 0 _ S' _ (SQ.start (lsB r s)) (BI.start (T := (tkL r).length) (R := nxR r (bgS r) s.pl) (lsB r s)) (by simp) htot
    exact (z1.b k q1 q2).1
  have hS0 : stdL r (bgS r) s.pl [(lsB r s, 0, 0)] = [elA r (bgS r) s.pl 0 (lsB r s, 0, 0)] := rfl
  have hM0 : mpK sdK [(lsB r s, 0, 0)] = [(.string (sdK (lsB r s)), .int 0)] := rfl
  have hA0 : allOk r s.pl [(lsB r s, 0, 0)] := fun j hj => by
    have : j = 0 := by simpa using hj
    subst this; exact hx0
  have hkB : Maps.Keyed Tryz.prog 9 = True := eq_true keyedStr
  have hek := fun x : Sd => eqKey_str (sdK x) (sdK x)
  have hgk : ∀ x : Sd, SdOk r s.pl x → goodK Tryz.prog 9 (.string (sdK x)) = true := fun x hx => goodStr (sdK_size hv hx)
  have hgl : ∀ S : SL Sd, allOk r s.pl S → goodL Tryz.prog 9 (mpK sdK S) = true := fun S h => goodL_mpK hv h
  have hgk0 := goodStr (sdK_size hv hx0)
  generalize hfE : bgS r = f at *
  unfold rmA rmC at *
  try unfold stA at *
  (refine Spec.of_bodyA Tryz.func16 rfl (by rw [Tryz.ntmps16]; simp) ?_; rw [Tryz.results16, Tryz.ntmps16]; simp only [entry, zipArgs, Nat.reduceAdd])
  ((refine x_pre @okL_tk ?_); (iterate 4 (refine x_nr @okL_tk ?_)); (refine x_nil @okL_tk ?_))
  (refine x_fzP @okL_tk (slq 2) ?_)
  (refine x_fzP @okL_tk (slq 3) ?_)
  (refine Wp.vacs 8 ?_; (try simp only [List.replicate_succ, List.replicate_zero, List.cons_append, List.nil_append]))
  (refine x_go @okL_tk ?_)
  (apply Run.pureFP; (exact x_ev @okL_tk); (exact (Enters.of Tryz.func46 rfl rfl)); (exact c0); (exact x_al @okL_tk); (try dsimp only [putA, optG]))
  (refine x_gg @okL_tk ?_)
  (apply Run.pureFP; (exact x_ev @okL_tk); (exact (Enters.of Tryz.func47 rfl rfl)); (exact c1); (exact x_al @okL_tk); (try dsimp only [putA, optG]))
  (refine x_nr @okL_tk ?_)
  (apply Run.nil; dsimp only [sQ, tQ, bQ])
  ((refine x_pre @okL_tk ?_); (iterate 1 (refine x_nr @okL_tk ?_)); (refine x_nil @okL_tk ?_))
  (repeat (first | apply Wp.seq | apply Wp.block | (apply Wp.skip; dsimp only [sQ, tQ, bQ])))
  (refine x_beg @okL_tk ?_)
  (iterate 5 (refine x_nr @okL_tk ?_))
  (apply Run.alcAt 2; (exact x_ev @okL_tk); ((try simp only [push_cast, seval, okL_tk]) <;> exact sT); exact rfl; (try simp only [push_cast, seval, okL_tk]))
  (repeat (refine x_nr @okL_tk ?_))
  (apply Run.nil; dsimp only [sQ, tQ, bQ])
  (repeat (first | apply Wp.seq | apply Wp.block | (apply Wp.skip; dsimp only [sQ, tQ, bQ])))
  (refine x_beg @okL_tk ?_)
  (apply Run.mapAt (3); (first | ((exact x_ev @okL_tk)) | exact rfl); (try simp only [push_cast, seval, okL_tk]))
  (repeat (refine x_nr @okL_tk ?_))
  (apply Run.pureFP; (exact x_ev @okL_tk); (exact (Enters.of Tryz.func48 rfl rfl)); (exact hk0); (exact x_al @okL_tk); (try dsimp only [putA, optG]))
  (refine x_go (zc @okL_tk (zc @hkB (zc @hgk0 @hek))) ?_)
  generalize hTk : (tkL r).map tkA = TA at *
  generalize s.pl = pl at *
  refine Wp.loop (fun (q : Nat × SL Sd × (Nat × Kind) × G5) => { t := [(8, .lst 3 TA), (9, .clo 48 []), (10, .osl 2 q.2.1.length 0 q.2.1.length), (11, .omap 3 1), (12, .int (enV f pl q.2.1 q.1)), (13, .int q.1)], m := lsM r f pl q.2.1 ⟨q.2.2.1.1, q.2.2.1.2⟩ q.2.2.2, n := 131 })
    (fun q => q.1 ≤ q.2.1.length ∧ q.2.1.length ≤ 4000 ∧ allOk r pl q.2.1 ∧ 0 < q.2.1.length ∧ srun (tkL r).length (nxR r f pl) 4000 (4001 - q.1) q.1 q.2.1 = tot) (fun q => 4001 - q.1) (0, [(lsB r s, 0, 0)], (0, .row 1 []), ⟨0, 0, 0, 0, 0, .row 1 [], .row 1 [], .row 1 [], .row 1 [], .row 1 []⟩) ?_ ?_ ?_
  · simp only [hS0, hM0]
    (refine Le.of ?_ ?_ rfl rfl <;> (try simp only [push_cast, seval, okL_tk, hkB, hgk0, hek]) <;> (try (with_reducible rfl)))
    all_goals rfl
  · exact ⟨by simp, by simp, hA0, by simp, htot⟩
  · clear hS0 hM0 hgk0 hA0 hk0 c0 c1 htot
    rintro ⟨i, S, ⟨v4, k4⟩, g⟩ ⟨hi1, hi2, hi3, hi4, hi5⟩
    simp only at hi1 hi2 hi3 hi4 hi5
    (refine x_go (zc @okL_tk (zc @hkB @hek)) ?_)
    (apply Wp.cond; (exact x_ev (zc @okL_tk (zc @hkB @hek))))
    · (intro hc; first | replace hc := bT hc | skip)
      have hrun : (srow (nxR r f pl) 4000 S i (tkL r).length).bind (srun (tkL r).length (nxR r f pl) 4000 (4001 - (i + 1)) (i + 1)) = tot := by
        rw [← hi5, show 4001 - i = (4001 - (i + 1)) + 1 by omega]
        show _ = if i < S.length then _ else _
        rw [if_pos hc]
      have hev := enV_succ f pl S i
      have hx := hi3 i hc
      have hgd := fun d => stdL_getD (r := r) (f := f) (pl := pl) (S := S) d hc
      have hscp : sc S i = (S.getD i (default, 0, 0)).1 := rfl
      rw [hscp] at hx hev
      generalize hp : S.getD i (default, 0, 0) = p at hx hgd hev hscp
      have c3 := hrs p.1 hx
      generalize hrb : rsB f (sdS pl p.1) = rb at c3 hev
      have hlen := stdL_len r f pl S
      (refine x_gs (zc @okL_tk (zc @hkB (zc @hek (zc @hgd (zc @elA.eq_1 (zc @elC.eq_1 @hlen)))))) ?_)
      (apply Run.alcAt 4; (exact x_ev (zc @okL_tk (zc @hkB (zc @hek (zc @hgd (zc @elA.eq_1 (zc @elC.eq_1 @hlen))))))); ((try simp only [push_cast, seval, okL_tk, hkB, hek, hgd, elA, elC, hlen]) <;> exact sT); exact rfl; (try simp only [push_cast, seval, okL_tk, hkB, hek, hgd, elA, elC, hlen]))
      (refine x_go (zc @okL_tk (zc @hkB (zc @hek (zc @hgd (zc @elA.eq_1 (zc @elC.eq_1 @hlen)))))) ?_)
      (apply Run.pureP; (exact x_ev (zc @okL_tk (zc @hkB (zc @hek (zc @hgd (zc @elA.eq_1 (zc @elC.eq_1 @hlen))))))); (exact (Enters.of Tryz.func51 rfl rfl)); (exact c3); (exact x_al (zc @okL_tk (zc @hkB (zc @hek (zc @hgd (zc @elA.eq_1 (zc @elC.eq_1 @hlen))))))); (try dsimp only [putA, optG]))
      (refine x_go (zc @okL_tk (zc @hkB (zc @hek (zc @hgd (zc @elA.eq_1 (zc @elC.eq_1 @hlen)))))) ?_)
      refine Wp.meetS { t := [(8, .lst 3 TA), (9, .clo 48 []), (10, .osl 2 S.length 0 S.length), (11, .omap 3 1), (12, .int (enV f pl S (i + 1))), (13, .int i), (14, .optr 4 (v4 + 1) 0 0)], m := lsM r f pl S ⟨v4 + 1, .row 15 [.agg (kX r f pl p.1)]⟩ g, n := 131 } ?_ ?_
      · (apply Wp.cond; (exact x_ev (zc @okL_tk (zc @hkB (zc @hek (zc @hgd (zc @elA.eq_1 (zc @elC.eq_1 @hlen))))))))
        · intro h4
          rw [if_pos (by simpa using h4)] at hev
          (refine x_go (zc @okL_tk (zc @hkB (zc @hek (zc @hgd (zc @elA.eq_1 (zc @elC.eq_1 @hlen)))))) ?_)
          rw [hev]
          (refine Le.of ?_ ?_ rfl rfl <;> (try simp only [push_cast, seval, okL_tk, hkB, hek, hgd, elA, elC, hlen]) <;> (try (with_reducible rfl)))
        · intro h4
          rw [if_neg (by simpa using h4)] at hev
          (refine x_go (zc @okL_tk (zc @hkB (zc @hek (zc @hgd (zc @elA.eq_1 (zc @elC.eq_1 @hlen)))))) ?_)
          rw [hev]
          (refine Le.of ?_ ?_ rfl rfl <;> (try simp only [push_cast, seval, okL_tk, hkB, hek, hgd, elA, elC, hlen]) <;> (try (with_reducible rfl)))
      · (try dsimp only [sQ, tQ, bQ])
        intro s' hs'
        refine Wp.le hs' ?_
        clear hs' hev c3
        (refine x_go (zc @okL_tk (zc @hkB @hek)) ?_)
        have hTAl : TA.length = (tkL r).length := by rw [← hTk, List.length_map]
        have hpl2 : p.1.ts.length = r.ts.length ∧ p.1.pp.length = r.pp.length := ⟨hx.1.ts, hx.1.pp⟩
        refine Wp.loop (fun (q : Nat × SL Sd × G5) => { t := [(8, .lst 3 TA), (9, .clo 48 []), (10, .osl 2 q.2.1.length 0 q.2.1.length), (11, .omap 3 1), (12, .int (enV f pl S (i + 1))), (13, .int i), (14, .optr 4 (v4 + 1) 0 0), (68, .lst 3 TA), (69, .int (tkL r).length), (70, .int q.1)], m := lsM r f pl q.2.1 ⟨v4 + 1, .row 15 [.agg (kX r f pl p.1)]⟩ q.2.2, n := 131 })
          (fun q => q.1 ≤ (tkL r).length ∧ srow (nxR r f pl) 4000 S i q.1 = some q.2.1 ∧ q.2.1.length ≤ 4000 ∧ allOk r pl q.2.1) (fun q => (tkL r).length - q.1) (0, S, g) ?_ ?_ ?_
        · rw [← hTAl]
          (refine Le.of ?_ ?_ rfl rfl <;> (try simp only [push_cast, seval, okL_tk, hkB, hek]) <;> (try (with_reducible rfl)))
        · exact ⟨by simp, rfl, hi2, hi3⟩
        · rintro ⟨k, S', ⟨v5, v6, v7, v8, v9, k5, k6, k7, k8, k9⟩⟩ ⟨hk1, hk2, hk3, hk4⟩
          simp only at hk1 hk2 hk3 hk4
          (refine x_go (zc @okL_tk (zc @hkB @hek)) ?_)
          (apply Wp.cond; (exact x_ev (zc @okL_tk (zc @hkB @hek))))
          · intro hk5
            have hk5 : k < (tkL r).length := by simpa using hk5
            have hlen2 := stdL_len r f pl S'
            have hold := srow_old k hk2
            have hle := (srow_len _ k hk2).1
            have hsi : sc S' i = p.1 := by unfold sc; rw [hold i hc, hp]
            have hst := srow_succ (nxR r f pl) 4000 S i k hk2
            have htg : ∀ d, TA.getD k d = tkA ((tkL r).getD k tk0) := fun d => by rw [← hTk]; exact getD_tk d hk5
            have hnx : nxR r f pl p.1 k = if canB r f (sdS pl p.1) p.1.at_ ((tkL r).getD k tk0) = true then nxT r f pl p.1 ((tkL r).getD k tk0) else p.1 := rfl
            obtain ⟨t, ht⟩ : ∃ t, (tkL r).getD k tk0 = t := ⟨_, rfl⟩
            rw [ht] at hnx
            simp only [ht] at htg
            have c4 := hcn p.1 hx t
            unfold sstep at hst
            rw [hsi] at hst
            unfold tkA at c4
            cases hcb : canB r f (sdS pl p.1) p.1.at_ t with
            | false =>
              rw [hcb] at c4 hnx
              rw [if_neg (by simp)] at hnx
              rw [hnx, if_pos (sk_iff.2 ⟨i, by omega, hsi⟩)] at hst
              (refine x_gs (zc @okL_tk (zc @hkB (zc @hek (zc @htg (zc @tkA.eq_1 @hTAl))))) ?_)
              (apply Run.alcAt 5; (exact x_ev (zc @okL_tk (zc @hkB (zc @hek (zc @htg (zc @tkA.eq_1 @hTAl)))))); ((try simp only [push_cast, seval, okL_tk, hkB, hek, htg, tkA, hTAl]) <;> exact sT); exact rfl; (try simp only [push_cast, seval, okL_tk, hkB, hek, htg, tkA, hTAl]))
              (refine x_go (zc @okL_tk (zc @hkB (zc @hek (zc @htg (zc @tkA.eq_1 @hTAl))))) ?_)
              (apply Run.pureP; (exact x_ev (zc @okL_tk (zc @hkB (zc @hek (zc @htg (zc @tkA.eq_1 @hTAl)))))); (exact (Enters.of Tryz.func52 rfl rfl)); (exact c4); (exact x_al (zc @okL_tk (zc @hkB (zc @hek (zc @htg (zc @tkA.eq_1 @hTAl)))))); (try dsimp only [putA, optG]))
              (refine x_gg (zc @okL_tk (zc @hkB (zc @hek (zc @htg (zc @tkA.eq_1 @hTAl))))) ?_)
              refine ⟨(k + 1, S', ⟨v5 + 1, v6, v7, v8, v9, .row 3 [tkA t], k6, k7, k8, k9⟩), ?_, ⟨by simp only; omega, hst, hk3, hk4⟩, by simp only; omega⟩
              (refine Le.of ?_ ?_ rfl rfl <;> (try simp only [push_cast, seval, okL_tk, hkB, hek, htg, tkA, hTAl]) <;> (try (with_reducible rfl)))
            | true =>
              rw [hcb] at c4 hnx
              rw [if_pos rfl] at hnx
              rw [hnx] at hst
              have hy := nx_ok hv hf hx hcb
              have c5 := hcp p.1 hx
              have c6 := do_spec hv hf (s := sdS pl p.1) hx.1 (a := p.1.at_) ⟨hx.2.1, by have := hx.2.2; have := hv.ps; omega⟩ hcb (a0 := ⟨1, .row 8 []⟩) (a1 := ⟨1, .row 3 []⟩) (a2 := ⟨S'.length, .row 19 (stdL r f pl S')⟩) (a3 := ⟨1, .mp (mpK sdK S')⟩) (a4 := ⟨v4 + 1, .row 15 [.agg (kX r f pl p.1)]⟩) (a5 := ⟨v5 + 1, .row 3 [tkA t]⟩) trivial trivial (by show okL 10 _; rw [okL_std]; trivial) (mpK_ok S' 10) (okL_kX 10 r f pl p.1) (by simp [Kind.ok, okL, AV.ok, tkA]) (v6 + 1) (v7 + 1) (v8 + 1) (v9 + 1)
              rw [← nx_sdS, show doA r p.1.at_ t = (nxT r f pl p.1 t).at_ from rfl] at c6
              generalize nxT r f pl p.1 t = y at *
              have hyl : y.ts.length = p.1.ts.length ∧ y.pp.length = p.1.pp.length := ⟨hy.1.ts.trans hx.1.ts.symm, hy.1.pp.trans hx.1.pp.symm⟩
              unfold sdS at c6
              unfold stA at c5
              simp only at c5 c6
              unfold tkA at c6
              have c7 := hkp y hy
              have hfd := findL_mpK (K := sdK) (S := S') (c := y) fun j hj e => sd_inj hv (hk4 j hj) hy e
              (refine x_gs (zc @okL_tk (zc @hkB (zc @hek (zc @htg (zc @tkA.eq_1 (zc @hTAl @Bool.not_true)))))) ?_)
              (apply Run.alcAt 5; (exact x_ev (zc @okL_tk (zc @hkB (zc @hek (zc @htg (zc @tkA.eq_1 (zc @hTAl @Bool.not_true))))))); ((try simp only [push_cast, seval, okL_tk, hkB, hek, htg, tkA, hTAl, Bool.not_true]) <;> exact sT); exact rfl; (try simp only [push_cast, seval, okL_tk, hkB, hek, htg, tkA, hTAl, Bool.not_true]))
              (refine x_go (zc @okL_tk (zc @hkB (zc @hek (zc @htg (zc @tkA.eq_1 (zc @hTAl @Bool.not_true)))))) ?_)
              (apply Run.pureP; (exact x_ev (zc @okL_tk (zc @hkB (zc @hek (zc @htg (zc @tkA.eq_1 (zc @hTAl @Bool.not_true))))))); (exact (Enters.of Tryz.func52 rfl rfl)); (exact c4); (exact x_al (zc @okL_tk (zc @hkB (zc @hek (zc @htg (zc @tkA.eq_1 (zc @hTAl @Bool.not_true))))))); (try dsimp only [putA, optG]))
              (refine x_gq (zc @okL_tk (zc @hkB (zc @hek (zc @htg (zc @tkA.eq_1 (zc @hTAl @Bool.not_true)))))) ?_)
              (apply Run.alcAt 6; (exact x_ev (zc @okL_tk (zc @hkB (zc @hek (zc @htg (zc @tkA.eq_1 (zc @hTAl @Bool.not_true))))))); ((try simp only [push_cast, seval, okL_tk, hkB, hek, htg, tkA, hTAl, Bool.not_true]) <;> exact sT); exact rfl; (try simp only [push_cast, seval, okL_tk, hkB, hek, htg, tkA, hTAl, Bool.not_true]))
              (refine x_go (zc @okL_tk (zc @hkB (zc @hek (zc @htg (zc @tkA.eq_1 (zc @hTAl @Bool.not_true)))))) ?_)
              (apply Run.fresh3At 7 8 9; (exact x_ev (zc @okL_tk (zc @hkB (zc @hek (zc @htg (zc @tkA.eq_1 (zc @hTAl @Bool.not_true))))))); (exact (Enters.of Tryz.func53 rfl rfl)); (exact c5); (exact VwL.cons (x := .agg [.ints p.1.ts, .ints p.1.pp, .ints pl]) (Vw.self (by simp [AV.ok, okL, okL_mapInt])) VwL.nil); (refine ⟨?_, ?_, ?_⟩ <;> (simp only [push_cast, seval, okL_tk, hkB, hek, htg, tkA, hTAl, Bool.not_true] <;> first | trivial | (simp; done))); (exact ⟨rfl, rfl, rfl⟩); (exact ⟨by decide, by decide, by decide⟩); (try dsimp only [putA, set3, List.set_cons_succ, List.set_cons_zero, List.set]))
              (refine x_go (zc @okL_tk (zc @hkB (zc @hek (zc @htg (zc @tkA.eq_1 (zc @hTAl @Bool.not_true)))))) ?_)
              (apply Run.spec (he := (Enters.of Tryz.func54 rfl rfl)); exact rfl; (simp only [push_cast, seval, okL_tk, hkB, hek, htg, tkA, hTAl, Bool.not_true] <;> first | exact rfl | assumption); (exact x_ev (zc @okL_tk (zc @hkB (zc @hek (zc @htg (zc @tkA.eq_1 (zc @hTAl @Bool.not_true))))))); (exact c6); (rintro _ _ ⟨rfl, rfl⟩; dsimp only [Go.Vg.S.put, optG]))
              (repeat (refine x_nr (zc @okL_tk (zc @hkB (zc @hek (zc @htg (zc @tkA.eq_1 (zc @hTAl @Bool.not_true)))))) ?_))
              (apply Run.nil; dsimp only [sQ, tQ, bQ])
              refine Wp.freezeRow 6 7 (vi := v7 + 1) (off := 0) (len := p.1.ts.length) (szi := 1) (li := y.ts.map AV.int) (le' := [.agg (kO r f (.ints y.ts) (.osl 8 (v8 + 1) 0 p.1.pp.length) (.osl 9 (v9 + 1) 0 pl.length) (.int y.at_))]) (by decide) rfl rfl (by simp [hyl.1]) (by decide) ⟨.inr ⟨_, _, rfl, rfl, .inl rfl, .inl rfl, .inl rfl, .inl rfl, .inl rfl, .inl rfl, .inl rfl, .inl rfl, .inl rfl, .inl rfl, .inl rfl, .inr ⟨rfl, by simp [← hyl.1, List.take_of_length_le]⟩, .inl rfl, .inl rfl, .inl rfl, trivial⟩, trivial⟩ ?_
              try simp only [List.set_cons_succ, List.set_cons_zero]
              refine Wp.freezeRow 6 8 (vi := v8 + 1) (off := 0) (len := p.1.pp.length) (szi := 1) (li := y.pp.map AV.int) (le' := [.agg (kO r f (.ints y.ts) (.ints y.pp) (.osl 9 (v9 + 1) 0 pl.length) (.int y.at_))]) (by decide) rfl rfl (by simp [hyl.2]) (by decide) ⟨.inr ⟨_, _, rfl, rfl, .inl rfl, .inl rfl, .inl rfl, .inl rfl, .inl rfl, .inl rfl, .inl rfl, .inl rfl, .inl rfl, .inl rfl, .inl rfl, .inl rfl, .inr ⟨rfl, by simp [← hyl.2, List.take_of_length_le]⟩, .inl rfl, .inl rfl, trivial⟩, trivial⟩ ?_
              try simp only [List.set_cons_succ, List.set_cons_zero]
              refine Wp.freezeRow 6 9 (vi := v9 + 1) (off := 0) (len := pl.length) (szi := 1) (li := pl.map AV.int) (le' := [.agg (kX r f pl y)]) (by decide) rfl rfl (by simp) (by decide) ⟨.inr ⟨_, _, rfl, rfl, .inl rfl, .inl rfl, .inl rfl, .inl rfl, .inl rfl, .inl rfl, .inl rfl, .inl rfl, .inl rfl, .inl rfl, .inl rfl, .inl rfl, .inl rfl, .inr ⟨rfl, by simp [List.take_of_length_le]⟩, .inl rfl, trivial⟩, trivial⟩ ?_
              try simp only [List.set_cons_succ, List.set_cons_zero]
              cases hsk : sk S' y with
              | true =>
                rw [if_pos hsk] at hst
                rw [hsk, if_pos rfl] at hfd
                (refine x_go (zc @okL_tk (zc @hkB (zc @hek (zc @htg (zc @tkA.eq_1 (zc @hTAl (zc @Bool.not_true (zc @hfd (zc (hgk y hy) (hgl S' hk4)))))))))) ?_)
                (apply Run.pureFP; (exact x_ev (zc @okL_tk (zc @hkB (zc @hek (zc @htg (zc @tkA.eq_1 (zc @hTAl (zc @Bool.not_true (zc @hfd (zc (hgk y hy) (hgl S' hk4))))))))))); (exact (Enters.of Tryz.func48 rfl rfl)); (exact c7); (exact x_al (zc @okL_tk (zc @hkB (zc @hek (zc @htg (zc @tkA.eq_1 (zc @hTAl (zc @Bool.not_true (zc @hfd (zc (hgk y hy) (hgl S' hk4))))))))))); (try dsimp only [putA, optG]))
                (refine x_gg (zc @okL_tk (zc @hkB (zc @hek (zc @htg (zc @tkA.eq_1 (zc @hTAl (zc @Bool.not_true (zc @hfd (zc (hgk y hy) (hgl S' hk4)))))))))) ?_)
                refine ⟨(k + 1, S', ⟨v5 + 1, v6 + 1, v7 + 1 + 1, v8 + 1 + 1, v9 + 1 + 1, .row 3 [tkA t], .row 15 [.agg (kX r f pl y)], .row 1 [], .row 1 [], .row 1 []⟩), ?_, ⟨by simp only; omega, hst, hk3, hk4⟩, by simp only; omega⟩
                (refine Le.of ?_ ?_ rfl rfl <;> (try simp only [push_cast, seval, okL_tk, hkB, hek, htg, tkA, hTAl, Bool.not_true, hfd, hgk y hy, hgl S' hk4]) <;> (try (with_reducible rfl)))
              | false =>
                rw [if_neg (by rw [hsk]; simp)] at hst
                rw [hsk, if_neg (by simp)] at hfd
                by_cases hbig : S'.length = 4000
                · rw [if_pos hbig] at hst
                  have e9 : decide ((S'.length : Int) = 4000) = true := decide_eq_true (by omega)
                  (refine x_go (zc @okL_tk (zc @hkB (zc @hek (zc @htg (zc @tkA.eq_1 (zc @hTAl (zc @Bool.not_true (zc @hfd (zc (hgk y hy) (zc (hgl S' hk4) @e9)))))))))) ?_)
                  (apply Run.pureFP; (exact x_ev (zc @okL_tk (zc @hkB (zc @hek (zc @htg (zc @tkA.eq_1 (zc @hTAl (zc @Bool.not_true (zc @hfd (zc (hgk y hy) (zc (hgl S' hk4) @e9))))))))))); (exact (Enters.of Tryz.func48 rfl rfl)); (exact c7); (exact x_al (zc @okL_tk (zc @hkB (zc @hek (zc @htg (zc @tkA.eq_1 (zc @hTAl (zc @Bool.not_true (zc @hfd (zc (hgk y hy) (zc (hgl S' hk4) @e9))))))))))); (try dsimp only [putA, optG]))
                  (refine x_gg (zc @okL_tk (zc @hkB (zc @hek (zc @htg (zc @tkA.eq_1 (zc @hTAl (zc @Bool.not_true (zc @hfd (zc (hgk y hy) (zc (hgl S' hk4) @e9)))))))))) ?_)
                  (first | exact x_retA (zc @okL_tk (zc @hkB (zc @hek (zc @htg (zc @tkA.eq_1 (zc @hTAl (zc @Bool.not_true (zc @hfd (zc (hgk y hy) (zc (hgl S' hk4) @e9)))))))))) | refine x_retAZ (zc @okL_tk (zc @hkB (zc @hek (zc @htg (zc @tkA.eq_1 (zc @hTAl (zc @Bool.not_true (zc @hfd (zc (hgk y hy) (zc (hgl S' hk4) @e9)))))))))) ?_)
                  have hn := srow_none hst ((tkL r).length - (k + 1))
                  rw [show k + 1 + ((tkL r).length - (k + 1)) = (tkL r).length by omega] at hn
                  rw [hn] at hrun
                  subst hrun
                  exact Vw.tup (.cons .emp (.cons (Vw.self trivial) .nil))
                · rw [if_neg hbig] at hst
                  have e9 : decide ((S'.length : Int) = 4000) = false := decide_eq_false (by omega)
                  have hup : updL (mpK sdK S') (.string (sdK y)) (.int (S'.length : Int)) = mpK sdK (S' ++ [(y, i, k)]) := by
                    rw [updL_new _ _ _ hfd, mpK_snoc]
                  have hS2 : 0 < S'.length := by omega
                  have hsn : stdL r f pl S' ++ [.agg [.strs r.ps, .lst 4 (r.ts.map thA), .lst 3 (r.pp.map ppA), .lst 3 (r.wy.map wyA), .lst 8 (r.ac.map acA), .lst 3 (r.au.map auA), .int r.n, .lst 3 (r.goal.map ltA), .ints f.ts, .ints f.pp, .ints f.pl, .ints y.ts, .ints y.pp, .ints pl, .int y.at_, .int i, .int t.kd, .int t.nu, .int t.ar]] = stdL r f pl (S' ++ [(y, i, k)]) := by
                    rw [stdL_snoc]
                    unfold elA elC elT elB
                    simp only [if_neg (show ¬ S'.length = 0 by omega), ht]
                  have htk : (stdL r f pl S').take S'.length = stdL r f pl S' := List.take_of_length_le (by omega)
                  (refine x_go (zc @okL_tk (zc @hkB (zc @hek (zc @htg (zc @tkA.eq_1 (zc @hTAl (zc @Bool.not_true (zc @hfd (zc (hgk y hy) (zc (hgl S' hk4) (zc @e9 (zc @hup (zc @hlen2 @htk))))))))))))) ?_)
                  (apply Run.pureFP; (exact x_ev (zc @okL_tk (zc @hkB (zc @hek (zc @htg (zc @tkA.eq_1 (zc @hTAl (zc @Bool.not_true (zc @hfd (zc (hgk y hy) (zc (hgl S' hk4) (zc @e9 (zc @hup (zc @hlen2 @htk)))))))))))))); (exact (Enters.of Tryz.func48 rfl rfl)); (exact c7); (exact x_al (zc @okL_tk (zc @hkB (zc @hek (zc @htg (zc @tkA.eq_1 (zc @hTAl (zc @Bool.not_true (zc @hfd (zc (hgk y hy) (zc (hgl S' hk4) (zc @e9 (zc @hup (zc @hlen2 @htk)))))))))))))); (try dsimp only [putA, optG]))
                  (refine x_gg (zc @okL_tk (zc @hkB (zc @hek (zc @htg (zc @tkA.eq_1 (zc @hTAl (zc @Bool.not_true (zc @hfd (zc (hgk y hy) (zc (hgl S' hk4) (zc @e9 (zc @hup (zc @hlen2 @htk))))))))))))) ?_)
                  (apply Run.pureFP; (exact x_ev (zc @okL_tk (zc @hkB (zc @hek (zc @htg (zc @tkA.eq_1 (zc @hTAl (zc @Bool.not_true (zc @hfd (zc (hgk y hy) (zc (hgl S' hk4) (zc @e9 (zc @hup (zc @hlen2 @htk)))))))))))))); (exact (Enters.of Tryz.func48 rfl rfl)); (exact c7); (exact x_al (zc @okL_tk (zc @hkB (zc @hek (zc @htg (zc @tkA.eq_1 (zc @hTAl (zc @Bool.not_true (zc @hfd (zc (hgk y hy) (zc (hgl S' hk4) (zc @e9 (zc @hup (zc @hlen2 @htk)))))))))))))); (try dsimp only [putA, optG]))
                  (refine x_gs (zc @okL_tk (zc @hkB (zc @hek (zc @htg (zc @tkA.eq_1 (zc @hTAl (zc @Bool.not_true (zc @hfd (zc (hgk y hy) (zc (hgl S' hk4) (zc @e9 (zc @hup (zc @hlen2 @htk))))))))))))) ?_)
                  refine ⟨(k + 1, S' ++ [(y, i, k)], ⟨v5 + 1, v6 + 1, v7 + 1 + 1, v8 + 1 + 1, v9 + 1 + 1, .row 3 [tkA t], .row 15 [.agg (kX r f pl y)], .row 1 [], .row 1 [], .row 1 []⟩), ?_, ⟨by simp only; omega, hst, by simp; omega, allOk_snoc hk4 hy⟩, by simp only; omega⟩
                  simp only [← hsn, List.length_append, List.length_singleton]
                  (refine Le.of ?_ ?_ rfl rfl <;> (try simp only [push_cast, seval, okL_tk, hkB, hek, htg, tkA, hTAl, Bool.not_true, hfd, hgk y hy, hgl S' hk4, e9, hup, hlen2, htk]) <;> (try (with_reducible rfl)))
                  all_goals (rw [hsn]; simp only [lsM, List.length_append, List.length_singleton])
          · intro hk5
            have hk5 : k = (tkL r).length := by
              have : ¬ k < (tkL r).length := by simpa using hk5
              omega
            subst hk5
            have hold := srow_old _ hk2
            have hle := (srow_len _ _ hk2).1
            have hev2 : enV f pl S (i + 1) = enV f pl S' (i + 1) := by
              unfold enV
              rw [enN_old (fun j hj => by unfold sc; rw [hold j (by omega)])]
            rw [hk2] at hrun
            (refine x_go (zc @okL_tk (zc @hkB @hek)) ?_)
            refine ⟨(i + 1, S', (v4 + 1, .row 15 [.agg (kX r f pl p.1)]), ⟨v5, v6, v7, v8, v9, k5, k6, k7, k8, k9⟩), ?_, ⟨by simp only; omega, hk3, hk4, by simp only; omega, hrun⟩, by simp only; omega⟩
            simp only [← hev2]
            (refine Le.of ?_ ?_ rfl rfl <;> (try simp only [push_cast, seval, okL_tk, hkB, hek]) <;> (try (with_reducible rfl)))
    · (intro hc; first | replace hc := bT hc | skip)
      obtain rfl : i = S.length := by omega
      have htt : tot = some S := by
        rw [← hi5, show 4001 - S.length = (4000 - S.length) + 1 by omega]
        show (if S.length < S.length then _ else _) = _
        rw [if_neg (Nat.lt_irrefl _)]
      have hbk := hsq S htt
      subst htt
      have hlen := stdL_len r f pl S
      cases hen : enN f pl S S.length with
      | none =>
        have hev : enV f pl S S.length = -1 := by unfold enV; rw [hen]
        (refine x_gg (zc @okL_tk (zc @hkB (zc @hek @hev))) ?_)
        (first | exact x_retA (zc @okL_tk (zc @hkB (zc @hek @hev))) | refine x_retAZ (zc @okL_tk (zc @hkB (zc @hek @hev))) ?_)
        simp only [hen]
        exact Vw.tup (.cons .emp (.cons (Vw.self trivial) .nil))
      | some e =>
        have hev : enV f pl S S.length = e := by unfold enV; rw [hen]
        have hel := (enN_lt hen).1
        have e9 : decide ((e : Int) < 0) = false := decide_eq_false (by omega)
        simp only [hen]
        generalize hk : (fun k => (tkL r).getD k tk0) = gt
        have hgt : ∀ k, (tkL r).getD k tk0 = gt k := fun k => by rw [← hk]
        (refine x_gg (zc @okL_tk (zc @hkB (zc @hek (zc @hev (zc @e9 @hlen))))) ?_)
        (repeat (first | apply Wp.seq | apply Wp.block | (apply Wp.skip; dsimp only [sQ, tQ, bQ])))
        apply Wp.adopt 20 3; (exact x_ev (zc @okL_tk (zc @hkB (zc @hek (zc @hev (zc @e9 @hlen))))))
        (refine x_go (zc @okL_tk (zc @hkB (zc @hek (zc @hev (zc @e9 @hlen))))) ?_)
        refine Wp.loop (fun (q : Nat × List Nat) => { t := [(10, .osl 2 S.length 0 S.length), (20, .osl 10 q.2.length 0 q.2.length), (21, .int q.1)], m := lsM r f pl S ⟨v4, k4⟩ g ++ [⟨q.2.length, .row 3 ((q.2.map gt).map tkA)⟩], n := 131 })
          (fun q => q.1 + q.2.length ≤ e ∧ pth S e e = q.2 ++ pth S (e - q.2.length) q.1) (fun q => q.1) (e, []) ?_ ?_ ?_
        · (refine Le.of ?_ ?_ rfl rfl <;> (try simp only [push_cast, seval, okL_tk, hkB, hek, hev, e9, hlen]) <;> (try (with_reducible rfl)))
          all_goals (first | exact ⟨rfl, rfl⟩ | rfl)
        · exact ⟨by simp, by simp⟩
        · rintro ⟨i, L⟩ ⟨hL1, hL2⟩
          simp only at hL1 hL2
          (refine x_go (zc @okL_tk (zc @hkB (zc @hek (zc @hev (zc @e9 @hlen))))) ?_)
          (apply Wp.cond; (exact x_ev (zc @okL_tk (zc @hkB (zc @hek (zc @hev (zc @e9 @hlen)))))))
          · intro hi6
            have hi6 : 0 < i := by simpa using hi6
            have hiS : i < S.length := by omega
            have hgd := fun d => stdL_getD (r := r) (f := f) (pl := pl) (S := S) d hiS
            have hb := hbk i hi6 hiS
            have hpn : pth S (e - L.length) i = st' S i :: pth S (e - (L.length + 1)) (sb S i) := by
              rw [show e - L.length = (e - (L.length + 1)) + 1 by omega]
              show (if i = 0 then [] else _) = _
              rw [if_neg (by omega)]
            have hs1 : st' S i = (S.getD i (default, 0, 0)).2.2 := rfl
            have hs2 : sb S i = (S.getD i (default, 0, 0)).2.1 := rfl
            obtain ⟨p, hp⟩ : ∃ p, S.getD i (default, 0, 0) = p := ⟨_, rfl⟩
            rw [hp] at hs1 hs2
            simp only [hp] at hgd
            rw [hs1, hs2] at hpn
            rw [hs2] at hb
            have heT : elT r i p = gt p.2.2 := by unfold elT; rw [if_neg (by omega), hgt]
            have heB : elB i p = p.2.1 := by unfold elB; rw [if_neg (by omega)]
            have hU : ((L.map gt).map tkA).take L.length = (L.map gt).map tkA := List.take_of_length_le (by simp)
            (refine x_gs (zc @okL_tk (zc @hkB (zc @hek (zc @hlen (zc @hgd (zc @elA.eq_1 (zc @elC.eq_1 (zc @heT (zc @heB (zc @lenMp @hU)))))))))) ?_)
            refine ⟨(p.2.1, L ++ [p.2.2]), ?_, ⟨by simp; omega, by simp only [List.length_append, List.length_singleton]; rw [hL2, hpn]; simp⟩, hb⟩
            simp only [List.map_append, List.map_cons, List.map_nil, List.length_append, List.length_singleton, tkA]
            (refine Le.of ?_ ?_ rfl rfl <;> (try simp only [push_cast, seval, okL_tk, hkB, hek, hlen, hgd, elA, elC, heT, heB, List.length_map, hU]) <;> (try (with_reducible rfl)))
          · intro hi6
            have hi6 : i = 0 := by simpa using hi6
            subst hi6
            have hpz : pth S (e - L.length) 0 = [] := by cases e - L.length <;> rfl
            rw [hpz, List.append_nil] at hL2
            rw [hL2]
            have hrv := fun a0 a1 a2 a3 a4 a5 a6 a7 a8 a9 => rev_spec (a0 := a0) (a1 := a1) (a2 := a2) (a3 := a3) (a4 := a4) (a5 := a5) (a6 := a6) (a7 := a7) (a8 := a8) (a9 := a9) L.length (L.map gt) (by simp; omega)
            rw [List.length_map] at hrv
            (refine x_go (zc @okL_tk (zc @hkB (zc @hek @hlen))) ?_)
            (apply Run.spec (he := (Enters.of Tryz.func55 rfl rfl)); exact rfl; (simp only [push_cast, seval, okL_tk, hkB, hek, hlen] <;> first | exact rfl | assumption); (exact x_ev (zc @okL_tk (zc @hkB (zc @hek @hlen)))); (exact hrv _ _ _ _ _ _ _ _ _ _); (rintro _ _ ⟨rfl, rfl⟩; dsimp only [Go.Vg.S.put, optG]))
            (refine x_go (zc @okL_tk (zc @hkB (zc @hek @hlen))) ?_)
            (first | exact x_retA (zc @okL_tk (zc @hkB (zc @hek @hlen))) | refine x_retAZ (zc @okL_tk (zc @hkB (zc @hek @hlen))) ?_)
            exact Vw.tup (.cons (Vw.osl rfl (by simp) (by decide) (by rw [List.drop_zero, List.take_of_length_le (by simp)]; exact VwL.okAll (by rw [okL_tk]; trivial))) (.cons (Vw.self trivial) .nil))
theorem least_pure {r : Rm} (hz : Sz r) {s : St} (hs : Zs s) : Pure Tryz.prog 16 [rmA r, stA s] (leA r s) := by
  unfold leA
  by_cases h : begE r s = 0
  · rw [if_pos h]; exact least_ok hz hs h
  · rw [if_neg h]; exact least_err hz hs h
end Go.Proofs.Tryz
set_option maxHeartbeats 16000000
namespace Go.Proofs.Tryz
open Go.Vg

/-! check: the keeper plays a list; its memory in Check and in Play -/
abbrev ckM (a2 : Ent) (r : Rm) (f : St) (n1 n2 n3 : Nat) (ts pp pl : List Int) (a : Int) : Mem := [⟨1, .row 8 []⟩, ⟨1, .row 3 []⟩, a2, ⟨1, .row 8 []⟩, ⟨1, .row 3 []⟩, ⟨0, .row 3 [stA f]⟩, ⟨1, .row 15 [.agg (kO r f (.osl 9 1 0 n1) (.osl 10 1 0 n2) (.osl 11 1 0 n3) (.int a))]⟩, ⟨1, .row 3 []⟩, ⟨0, .row 3 [.agg [.osl 9 1 0 n1, .osl 10 1 0 n2, .osl 11 1 0 n3]]⟩, ⟨1, .row 1 (ts.map AV.int)⟩, ⟨1, .row 1 (pp.map AV.int)⟩, ⟨1, .row 1 (pl.map AV.int)⟩]
abbrev ckV (a2 : Ent) (r : Rm) (f : St) (n1 n2 n3 : Nat) (ts pp pl : List Int) (a : Int) (v : Nat) (kd : Kind) : Mem := [⟨1, .row 8 []⟩, ⟨1, .row 3 []⟩, a2, ⟨1, .row 8 []⟩, ⟨1, .row 3 []⟩, ⟨0, .row 3 [stA f]⟩, ⟨1, .row 15 [.agg (kO r f (.osl 9 1 0 n1) (.osl 10 1 0 n2) (.osl 11 1 0 n3) (.int a))]⟩, ⟨1, .row 3 []⟩, ⟨0, .row 3 [.agg [.osl 9 1 0 n1, .osl 10 1 0 n2, .osl 11 1 0 n3]]⟩, ⟨1, .row 1 (ts.map AV.int)⟩, ⟨1, .row 1 (pp.map AV.int)⟩, ⟨1, .row 1 (pl.map AV.int)⟩, ⟨v, kd⟩]
theorem cdo_walk (r : Rm) (f : St) (ts pp pl : List Int) (a : Int) (n : Nat) (ar : Int) (hn : n < r.wy.length) (hx : (0 ≤ (r.wy.getD n wy0).a ∧ (r.wy.getD n wy0).a ≤ 100) ∧ (0 ≤ (r.wy.getD n wy0).b ∧ (r.wy.getD n wy0).b ≤ 100) ∧ 0 ≤ a ∧ a ≤ 100) {a2 : Ent} (h2 : a2.kind.ok 13) (v n1 n2 n3 : Nat) (t : Tk) :
    Go.Vg.Spec Tryz.prog 54 [.optr 6 1 0 0, .agg [.int 1, .int n, .int ar]] (ckV a2 r f n1 n2 n3 ts pp pl a v (.row 3 [tkA t])) (fun x m' => x = .tup [] ∧ m' = ckV a2 r f n1 n2 n3 ts pp pl ((r.wy.getD n wy0).a + (r.wy.getD n wy0).b - a) v (.row 3 [tkA t])) := by
  have hgd := fun d => getD_wy (d := d) hn
  obtain ⟨x, hx2⟩ : ∃ x, r.wy.getD n wy0 = x := ⟨_, rfl⟩
  simp only [hx2] at hgd hx ⊢
  unfold ckV stA tkA
  (refine Spec.bd 13 Tryz.func54 Tryz.results54 Tryz.ntmps54 ?_; simp only [entry, zipArgs, Nat.reduceAdd])
  (refine x_gg (zc @hgd (zc @wyA.eq_1 @Int.toNat_natCast)) ?_)
  (apply Wp.runVE 10 mixed; (dsimp only [List.map] <;> exact rfl); exact rfl; kernel_rfl; (dsimp only [List.take] <;> exact rfl); (dsimp only [List.drop] <;> exact rfl); kernel_rfl; ((try dsimp only); (repeat (first | (apply AbsV.alc; exact rfl; (exact x_ev (zc @hgd (zc @wyA.eq_1 @Int.toNat_natCast))); ((try simp only [push_cast, seval, hgd, wyA, Int.toNat_natCast]) <;> exact sT); dsimp only [upd, alcV, List.length_cons, List.length_nil, Nat.reduceAdd]) | (apply AbsV.apn; exact rfl; (exact x_ev (zc @hgd (zc @wyA.eq_1 @Int.toNat_natCast))); ((try simp only [push_cast, seval, hgd, wyA, Int.toNat_natCast]) <;> exact sT); dsimp only [upd, alcV, List.length_cons, List.length_nil, Nat.reduceAdd]) | (apply AbsV.cons; exact rfl; exact rfl; (exact x_ev (zc @hgd (zc @wyA.eq_1 @Int.toNat_natCast))); ((try simp only [push_cast, seval, hgd, wyA, Int.toNat_natCast]) <;> exact sT); dsimp only [upd]))); exact AbsV.nil); exact rfl; ((try dsimp only [List.map, List.cons_append, List.nil_append]); (exact x_ev (zc @hgd (zc @wyA.eq_1 @Int.toNat_natCast)))); ((try simp only [push_cast, seval, hgd, wyA, Int.toNat_natCast]) <;> exact sT); dsimp only [upd])
  (refine x_mv (zc @hgd (zc @wyA.eq_1 @Int.toNat_natCast)) ?_)
  (apply Wp.runE 13 13 mixed; (dsimp only [List.map] <;> exact rfl); exact rfl; kernel_rfl; ((refine x_nx (zc @hgd (zc @wyA.eq_1 @Int.toNat_natCast)) ?_); (refine x_ef (zc @hgd (zc @wyA.eq_1 @Int.toNat_natCast)) ?_); exact Abe.nil))
  (refine x_gg (zc @hgd (zc @wyA.eq_1 @Int.toNat_natCast)) ?_)
  dsimp only [sQ, tQ, bQ]
  (apply leaveKN; exact rfl; (exact x_ev (zc @hgd (zc @wyA.eq_1 @Int.toNat_natCast))); ((exact x_cl (zc @hgd (zc @wyA.eq_1 @Int.toNat_natCast)))); ((exact x_cl (zc @hgd (zc @wyA.eq_1 @Int.toNat_natCast)))); (focus (first | (simp only [push_cast, seval, hgd, wyA, Int.toNat_natCast]; done) | trivial | (simp only [push_cast, seval, hgd, wyA, Int.toNat_natCast]; trivial) | (simp; done) | (simp only [List.take_succ_cons, List.take_zero, List.mem_cons, List.not_mem_nil, or_false, forall_eq_or_imp, forall_eq]; (try simp only [Kind.ok, okL, AV.ok]); (try simp only [okL_str, okL_th, okL_pp, okL_wy, okL_ac, okL_au, okL_lt, okL_mapInt]); simp_all))); (try simp only [push_cast, seval, hgd, wyA, Int.toNat_natCast]))
theorem cdo_turn (r : Rm) (f : St) (ts pp pl : List Int) (a : Int) (n : Nat) (ar : Int) (hn : n < ts.length) {a2 : Ent} (h2 : a2.kind.ok 13) (v n2 n3 : Nat) (t : Tk) :
    Go.Vg.Spec Tryz.prog 54 [.optr 6 1 0 0, .agg [.int 2, .int n, .int ar]] (ckV a2 r f ts.length n2 n3 ts pp pl a v (.row 3 [tkA t])) (fun x m' => x = .tup [] ∧ m' = ckV a2 r f ts.length n2 n3 (ts.set n ar) pp pl a v (.row 3 [tkA t])) := by
  unfold ckV stA tkA
  (refine Spec.bd 13 Tryz.func54 Tryz.results54 Tryz.ntmps54 ?_; simp only [entry, zipArgs, Nat.reduceAdd])
  (refine x_gg @Int.toNat_natCast ?_)
  (apply Wp.runE 10 10 mixed; (dsimp only [List.map] <;> exact rfl); exact rfl; kernel_rfl; ((refine x_nx @Int.toNat_natCast ?_); (refine x_ef @Int.toNat_natCast ?_); exact Abe.nil))
  (refine x_gg @Int.toNat_natCast ?_)
  dsimp only [sQ, tQ, bQ]
  (apply leaveKN; exact rfl; (exact x_ev @Int.toNat_natCast); ((exact x_cl @Int.toNat_natCast)); ((exact x_cl @Int.toNat_natCast)); (focus (first | (simp only [push_cast, seval, Int.toNat_natCast]; done) | trivial | (simp only [push_cast, seval, Int.toNat_natCast]; trivial) | (simp; done) | (simp only [List.take_succ_cons, List.take_zero, List.mem_cons, List.not_mem_nil, or_false, forall_eq_or_imp, forall_eq]; (try simp only [Kind.ok, okL, AV.ok]); (try simp only [okL_str, okL_th, okL_pp, okL_wy, okL_ac, okL_au, okL_lt, okL_mapInt]); simp_all))); (try simp only [push_cast, seval, Int.toNat_natCast]))
  try simp only [List.map_set]
theorem cdo_put (r : Rm) (f : St) (ts pp pl : List Int) (a : Int) (n : Nat) (ar : Int) (hn : n < pp.length) (hf : n < f.pp.length) {a2 : Ent} (h2 : a2.kind.ok 13) (v n1 n3 : Nat) (t : Tk) :
    Go.Vg.Spec Tryz.prog 54 [.optr 6 1 0 0, .agg [.int 3, .int n, .int ar]] (ckV a2 r f n1 pp.length n3 ts pp pl a v (.row 3 [tkA t])) (fun x m' => x = .tup [] ∧ m' = ckV a2 r f n1 pp.length n3 ts (pp.set n (f.pp.getD n 0)) pl a v (.row 3 [tkA t])) := by
  unfold ckV stA tkA
  (refine Spec.bd 13 Tryz.func54 Tryz.results54 Tryz.ntmps54 ?_; simp only [entry, zipArgs, Nat.reduceAdd])
  (refine x_gg @Int.toNat_natCast ?_)
  (apply Wp.runE 17 17 mixed; (dsimp only [List.map] <;> exact rfl); exact rfl; kernel_rfl; ((refine x_nx @Int.toNat_natCast ?_); (refine x_ef @Int.toNat_natCast ?_); exact Abe.nil))
  (refine x_gg @Int.toNat_natCast ?_)
  dsimp only [sQ, tQ, bQ]
  (apply leaveKN; exact rfl; (exact x_ev @Int.toNat_natCast); ((exact x_cl @Int.toNat_natCast)); ((exact x_cl @Int.toNat_natCast)); (focus (first | (simp only [push_cast, seval, Int.toNat_natCast]; done) | trivial | (simp only [push_cast, seval, Int.toNat_natCast]; trivial) | (simp; done) | (simp only [List.take_succ_cons, List.take_zero, List.mem_cons, List.not_mem_nil, or_false, forall_eq_or_imp, forall_eq]; (try simp only [Kind.ok, okL, AV.ok]); (try simp only [okL_str, okL_th, okL_pp, okL_wy, okL_ac, okL_au, okL_lt, okL_mapInt]); simp_all))); (try simp only [push_cast, seval, Int.toNat_natCast]))
  try simp only [List.map_set]
theorem cdo_spec {r : Rm} (hv : RV r) {f : St} (hf : SV r f) {pl : List Int} {x : Sd} (hx : SdOk r pl x) {t : Tk} (hc : canB r f (sdS pl x) x.at_ t = true) {a2 : Ent} (h2 : a2.kind.ok 13) (v : Nat) {n1 n2 : Nat} (e1 : n1 = x.ts.length) (e2 : n2 = x.pp.length) :
    Go.Vg.Spec Tryz.prog 54 [.optr 6 1 0 0, tkA t] (ckV a2 r f n1 n2 pl.length x.ts x.pp pl x.at_ v (.row 3 [tkA t])) (fun y m' => y = .tup [] ∧ m' = ckV a2 r f n1 n2 pl.length (nxT r f pl x t).ts (nxT r f pl x t).pp pl (nxT r f pl x t).at_ v (.row 3 [tkA t])) := by
  subst e1 e2
  have hps := hv.ps
  have hq : (tkA t) = .agg [.int t.kd, .int t.nu, .int t.ar] := rfl
  rw [show ([.optr 6 1 0 0, tkA t] : List AV) = [.optr 6 1 0 0, .agg [.int t.kd, .int t.nu, .int t.ar]] from rfl]
  have hts : (nxT r f pl x t).ts = (doS r f (sdS pl x) x.at_ t).ts := rfl
  have hpp : (nxT r f pl x t).pp = (doS r f (sdS pl x) x.at_ t).pp := rfl
  have hat : (nxT r f pl x t).at_ = doA r x.at_ t := rfl
  rw [hts, hpp, hat]
  unfold canB at hc
  unfold doS doA
  split at hc
  · rename_i hk
    have k2 : ¬ t.kd = 2 := by omega
    have k3 : ¬ t.kd = 3 := by omega
    rw [if_neg k2, if_neg k3, if_pos hk, hk]
    unfold wkB wi at hc
    simp only [Bool.and_eq_true, Bool.or_eq_true, decide_eq_true_eq] at hc
    obtain ⟨⟨_, q1, q2⟩, q3⟩ := hc
    obtain ⟨n, hn⟩ : ∃ n : Nat, t.nu = n := ⟨t.nu.toNat, by omega⟩
    rw [hn] at q1 q2 q3 ⊢
    simp only [Int.toNat_natCast] at *
    have hn : n < r.wy.length := by omega
    have hm := hv.wyv (r.wy.getD n wy0) (by rw [show r.wy.getD n wy0 = r.wy[n] by simp [hn]]; exact List.getElem_mem _)
    exact cdo_walk r f x.ts x.pp pl x.at_ n t.ar hn ⟨by omega, by omega, hx.2.1, by have := hx.2.2; omega⟩ h2 v _ _ _ t
  · rename_i hk1
    split at hc
    · rename_i hk
      rw [if_pos hk, if_neg (show ¬ t.kd = 1 by omega), hk]
      unfold tnB wi at hc
      simp only [Bool.and_eq_true, decide_eq_true_eq] at hc
      obtain ⟨⟨q1, q2⟩, _⟩ := hc
      obtain ⟨n, hn⟩ : ∃ n : Nat, t.nu = n := ⟨t.nu.toNat, by omega⟩
      rw [hn] at q1 q2 ⊢
      simp only [Int.toNat_natCast]
      exact cdo_turn r f x.ts x.pp pl x.at_ n t.ar (by have : x.ts.length = r.ts.length := hx.1.ts; omega) h2 v _ _ t
    · rename_i hk2
      split at hc
      · rename_i hk
        rw [if_neg hk2, if_pos hk, if_neg (show ¬ t.kd = 1 by omega), hk]
        unfold ptB wi at hc
        simp only [Bool.and_eq_true, decide_eq_true_eq] at hc
        obtain ⟨⟨⟨_, q1, q2⟩, _⟩, _⟩ := hc
        obtain ⟨n, hn⟩ : ∃ n : Nat, t.nu = n := ⟨t.nu.toNat, by omega⟩
        rw [hn] at q1 q2 ⊢
        simp only [Int.toNat_natCast]
        exact cdo_put r f x.ts x.pp pl x.at_ n t.ar (by have : x.pp.length = r.pp.length := hx.1.pp; omega) (by have := hf.pp; omega) h2 v _ _ t
      · cases hc
theorem kVw (a2 : Ent) (r : Rm) (f : St) (ts pp pl : List Int) (a : Int) (v : Nat) (kd : Kind) {n1 n2 n3 : Nat} (h1 : n1 = ts.length) (h2 : n2 = pp.length) (h3 : n3 = pl.length) : Vw (ckV a2 r f n1 n2 n3 ts pp pl a v kd) (.optr 6 1 0 0) (.ref (kC r f ⟨ts, pp, pl⟩ a) 0) := by
  subst h1 h2 h3
  refine Vw.optr rfl rfl (by simp [AV.cells]) ?_
  have h1 : VwL (ckV a2 r f ts.length pp.length pl.length ts pp pl a v kd) [.strs r.ps, .lst 4 (r.ts.map thA), .lst 3 (r.pp.map ppA), .lst 3 (r.wy.map wyA), .lst 8 (r.ac.map acA), .lst 3 (r.au.map auA), .int r.n, .lst 3 (r.goal.map ltA), .ints f.ts, .ints f.pp, .ints f.pl] [.strs r.ps, .lst 4 (r.ts.map thA), .lst 3 (r.pp.map ppA), .lst 3 (r.wy.map wyA), .lst 8 (r.ac.map acA), .lst 3 (r.au.map auA), .int r.n, .lst 3 (r.goal.map ltA), .ints f.ts, .ints f.pp, .ints f.pl] :=
    VwL.okAll (by simp [okL, AV.ok, okL_str, okL_th, okL_pp, okL_wy, okL_ac, okL_au, okL_lt, okL_mapInt])
  exact VwL.app h1 (.cons (Vw.ointsR rfl rfl) (.cons (Vw.ointsR rfl rfl) (.cons (Vw.ointsR rfl rfl) (.cons (Vw.self trivial) .nil))))
/-- how many tasks of a list can be done, and the stand behind them -/
def ckN (r : Rm) (f : St) (pl : List Int) : List Tk → Sd → Nat
  | [], _ => 0
  | t :: l, x => if canB r f (sdS pl x) x.at_ t = true then ckN r f pl l (nxT r f pl x t) + 1 else 0
def ckL (r : Rm) (f : St) (pl : List Int) : List Tk → Sd → Sd
  | [], x => x
  | t :: l, x => if canB r f (sdS pl x) x.at_ t = true then ckL r f pl l (nxT r f pl x t) else x
theorem ckN_le (r : Rm) (f : St) (pl : List Int) : ∀ (l : List Tk) (x : Sd), ckN r f pl l x ≤ l.length
  | [], _ => Nat.le_refl _
  | t :: l, x => by
    unfold ckN
    split
    · have := ckN_le r f pl l (nxT r f pl x t)
      simp only [List.length_cons]; omega
    · omega
/-- what check answers -/
def ckR (r : Rm) (f : St) (pl : List Int) (l : List Tk) (x : Sd) : Int × Int :=
  if 200 < l.length then (0, 2) else if ckN r f pl l x < l.length then (ckN r f pl l x, 90) else if ovB f pl (ckL r f pl l x) = true then (0, 0) else (l.length, 90)
def ckF (r : Rm) (f : St) (pl : List Int) (l : List Tk) (x : Sd) : Sd := if 200 < l.length then x else ckL r f pl l x
theorem check_spec {r : Rm} (hz : Sz r) (hv : RV r) (hch : chE r = 0) {f : St} (hf : SV r f) {pl : List Int} {x0 : Sd} (hx0 : SdOk r pl x0) (l : List Tk) (hl : l.length ≤ 100000) {a2 : Ent} (h2 : a2.kind.ok 12) (h3 : a2.kind.ok 13) :
    Go.Vg.Spec Tryz.prog 71 [.optr 6 1 0 0, .lst 3 (l.map tkA)] (ckM a2 r f x0.ts.length x0.pp.length pl.length x0.ts x0.pp pl x0.at_) (fun y m' => y = .tup [.int (ckR r f pl l x0).1, .int (ckR r f pl l x0).2] ∧ m' = ckM a2 r f x0.ts.length x0.pp.length pl.length (ckF r f pl l x0).ts (ckF r f pl l x0).pp pl (ckF r f pl l x0).at_) := by
  have hTAl : (l.map tkA).length = l.length := List.length_map _
  have hgd : ∀ k, k < l.length → ∀ d, (l.map tkA).getD k d = tkA (l.getD k tk0) := fun k hk d => getD_tk d hk
  generalize hTk : l.map tkA = TA at *
  by_cases hbig : 200 < l.length
  · have e1 : decide ((200 : Int) < (l.length : Int)) = true := decide_eq_true (by omega)
    unfold ckR ckF
    rw [if_pos hbig, if_pos hbig]
    unfold ckM stA
    (refine Spec.bd 12 Tryz.func71 Tryz.results71 Tryz.ntmps71 ?_; simp only [entry, zipArgs, Nat.reduceAdd])
    (refine x_gg (zc @hTAl @e1) ?_)
    (first | exact x_retK (zc @hTAl @e1) | refine x_retKZ (zc @hTAl @e1) ?_)
  · have e1 : decide ((200 : Int) < (l.length : Int)) = false := decide_eq_false (by omega)
    unfold ckR ckF
    rw [if_neg hbig, if_neg hbig]
    obtain ⟨n1, hn1⟩ : ∃ n, x0.ts.length = n := ⟨_, rfl⟩
    obtain ⟨n2, hn2⟩ : ∃ n, x0.pp.length = n := ⟨_, rfl⟩
    rw [hn1, hn2]
    have hcn : ∀ x : Sd, SdOk r pl x → ∀ t, Pure Tryz.prog 52 [.ref (kX r f pl x) 0, tkA t] (.bool (canB r f (sdS pl x) x.at_ t)) := fun x hx t => can_pure hz f (s := ⟨x.ts, x.pp, pl⟩) (SV.zs hz hv hx.1) (by unfold csE; rw [orE_ok hch, if_pos (show csB r ⟨x.ts, x.pp, pl⟩ = true from csB_SV.2 hx.1)]) hf.pp (SV.zs hz hv hf).ts x.at_ t
    have hrs : ∀ x : Sd, SdOk r pl x → Pure Tryz.prog 51 [.ref (kX r f pl x) 0] (.bool (rsB f (sdS pl x))) := fun x hx => reset_pure r f ⟨x.ts, x.pp, pl⟩ (SV.zs hz hv hx.1) x.at_
    obtain ⟨M, hM⟩ : ∃ M, ckN r f pl l x0 = M := ⟨_, rfl⟩
    obtain ⟨L, hL⟩ : ∃ L, ckL r f pl l x0 = L := ⟨_, rfl⟩
    rw [hM, hL]
    unfold ckM stA
    (refine Spec.bd 12 Tryz.func71 Tryz.results71 Tryz.ntmps71 ?_; simp only [entry, zipArgs, Nat.reduceAdd])
    (refine x_gg (zc @hTAl @e1) ?_)
    (refine Wp.vacs 1 ?_; (try simp only [List.replicate_succ, List.replicate_zero, List.cons_append, List.nil_append]))
    refine Wp.loop (fun (q : Nat × Sd × Nat × Kind) => { t := [(0, .optr 6 1 0 0), (1, .lst 3 TA), (11, .lst 3 TA), (12, .int l.length), (13, .int q.1)], m := [⟨1, .row 8 []⟩, ⟨1, .row 3 []⟩, a2, ⟨1, .row 8 []⟩, ⟨1, .row 3 []⟩, ⟨0, .row 3 [.agg [.ints f.ts, .ints f.pp, .ints f.pl]]⟩, ⟨1, .row 15 [.agg (kO r f (.osl 9 1 0 n1) (.osl 10 1 0 n2) (.osl 11 1 0 pl.length) (.int q.2.1.at_))]⟩, ⟨1, .row 3 []⟩, ⟨0, .row 3 [.agg [.osl 9 1 0 n1, .osl 10 1 0 n2, .osl 11 1 0 pl.length]]⟩, ⟨1, .row 1 (q.2.1.ts.map AV.int)⟩, ⟨1, .row 1 (q.2.1.pp.map AV.int)⟩, ⟨1, .row 1 (pl.map AV.int)⟩, ⟨q.2.2.1, q.2.2.2⟩], n := 39 })
      (fun q => q.1 ≤ l.length ∧ SdOk r pl q.2.1 ∧ q.2.1.ts.length = n1 ∧ q.2.1.pp.length = n2 ∧ M = q.1 + ckN r f pl (l.drop q.1) q.2.1 ∧ L = ckL r f pl (l.drop q.1) q.2.1) (fun q => l.length - q.1) (0, x0, 0, .row 1 []) ?_ ?_ ?_
    · (refine Le.of ?_ ?_ rfl rfl <;> (try simp only [push_cast, seval, hTAl, e1]) <;> (try (with_reducible rfl)))
    · exact ⟨Nat.zero_le _, hx0, hn1, hn2, by simp [hM], by simp [hL]⟩
    · rintro ⟨k, x, v, kd⟩ ⟨hk1, hk2, hk3, hk4, hk5, hk6⟩
      simp only at hk1 hk2 hk3 hk4 hk5 hk6
      (refine x_go (zc @hTAl @e1) ?_)
      (apply Wp.cond; (exact x_ev (zc @hTAl @e1)))
      · intro hk7
        have hk7 : k < l.length := by simpa using hk7
        have htg := hgd k hk7
        have hdr : l.drop k = l.getD k tk0 :: l.drop (k + 1) := by
          rw [List.drop_eq_getElem_cons hk7]; simp [hk7]
        rw [hdr] at hk5 hk6
        obtain ⟨t, ht⟩ : ∃ t, l.getD k tk0 = t := ⟨_, rfl⟩
        rw [ht] at hk5 hk6
        simp only [ht] at htg
        have c4 := hcn x hk2 t
        unfold ckN at hk5
        unfold ckL at hk6
        cases hcb : canB r f (sdS pl x) x.at_ t with
        | false =>
          rw [hcb] at c4
          rw [if_neg (by rw [hcb]; simp)] at hk5 hk6
          unfold tkA at htg c4
          (refine x_gs (zc @hTAl @htg) ?_)
          (apply Run.alcAt 12; (exact x_ev (zc @hTAl @htg)); ((try simp only [push_cast, seval, hTAl, htg]) <;> exact sT); exact rfl; (try simp only [push_cast, seval, hTAl, htg]))
          (refine x_go (zc @hTAl @htg) ?_)
          (apply Run.pureW; (exact x_ev (zc @hTAl @htg)); (exact (Enters.of Tryz.func52 rfl rfl)); (exact c4); (exact VwL.cons (kVw a2 r f x.ts x.pp pl x.at_ _ _ hk3.symm hk4.symm rfl) (VwL.cons (Vw.self (by simp [AV.ok, okL])) VwL.nil)); (simp only [push_cast, seval, hTAl, htg] <;> first | trivial | assumption | (refine ⟨?_, ?_⟩ <;> assumption) | (simp; done)); (try dsimp only [putA, optG]))
          (refine x_gg (zc @hTAl @htg) ?_)
          (first | exact x_retK (zc @hTAl @htg) | refine x_retKZ (zc @hTAl @htg) ?_)
          rw [if_pos (by omega), hk6]
          refine ⟨?_, rfl⟩
          simp only [hk5, Nat.add_zero]
        | true =>
          rw [hcb] at c4
          rw [if_pos (by rw [hcb])] at hk5 hk6
          have hy := nx_ok hv hf hk2 hcb
          have hyl : (nxT r f pl x t).ts.length = n1 ∧ (nxT r f pl x t).pp.length = n2 := ⟨(hy.1.ts.trans hk2.1.ts.symm).trans hk3, (hy.1.pp.trans hk2.1.pp.symm).trans hk4⟩
          have c6 := fun v => cdo_spec hv hf hk2 hcb h3 v hk3.symm hk4.symm
          generalize nxT r f pl x t = y at *
          unfold tkA at htg c4 c6
          unfold ckV stA at c6
          (refine x_gs (zc @hTAl @htg) ?_)
          (apply Run.alcAt 12; (exact x_ev (zc @hTAl @htg)); ((try simp only [push_cast, seval, hTAl, htg]) <;> exact sT); exact rfl; (try simp only [push_cast, seval, hTAl, htg]))
          (refine x_go (zc @hTAl @htg) ?_)
          (apply Run.pureW; (exact x_ev (zc @hTAl @htg)); (exact (Enters.of Tryz.func52 rfl rfl)); (exact c4); (exact VwL.cons (kVw a2 r f x.ts x.pp pl x.at_ _ _ hk3.symm hk4.symm rfl) (VwL.cons (Vw.self (by simp [AV.ok, okL])) VwL.nil)); (simp only [push_cast, seval, hTAl, htg] <;> first | trivial | assumption | (refine ⟨?_, ?_⟩ <;> assumption) | (simp; done)); (try dsimp only [putA, optG]))
          (refine x_gg (zc @hTAl @htg) ?_)
          (apply Run.spec (he := (Enters.of Tryz.func54 rfl rfl)); exact rfl; (simp only [push_cast, seval, hTAl, htg] <;> first | exact rfl | assumption); (exact x_ev (zc @hTAl @htg)); (exact c6 _); (rintro _ _ ⟨rfl, rfl⟩; dsimp only [Go.Vg.S.put, optG]))
          (refine x_gg (zc @hTAl @htg) ?_)
          refine ⟨(k + 1, y, v + 1, .row 3 [.agg [.int t.kd, .int t.nu, .int t.ar]]), ?_, ⟨by simp only; omega, hy, hyl.1, hyl.2, by rw [hk5]; simp only; omega, hk6⟩, by simp only; omega⟩
          (refine Le.of ?_ ?_ rfl rfl <;> (try simp only [push_cast, seval, hTAl, htg]) <;> (try (with_reducible rfl)))
      · intro hk7
        obtain rfl : k = l.length := by
          have : ¬ k < l.length := by simpa using hk7
          omega
        rw [List.drop_length] at hk5 hk6
        have hk5 : M = l.length := by rw [hk5]; rfl
        have hk6 : L = x := hk6
        subst hk6
        have c3 := hrs L hk2
        rw [if_neg (by omega)]
        unfold ovB
        generalize rsB f (sdS pl L) = rb at *
        (refine x_go (zc @hTAl @e1) ?_)
        (apply Run.pureW; (exact x_ev (zc @hTAl @e1)); (exact (Enters.of Tryz.func51 rfl rfl)); (exact c3); (exact VwL.cons (kVw a2 r f L.ts L.pp pl L.at_ _ _ hk3.symm hk4.symm rfl) VwL.nil); (simp only [push_cast, seval, hTAl, e1] <;> first | trivial | assumption | (refine ⟨?_, ?_⟩ <;> assumption) | (simp; done)); (try dsimp only [putA, optG]))
        (refine x_gg (zc @hTAl @e1) ?_)
        (apply Wp.cond; (exact x_ev (zc @hTAl @e1)))
        · intro hq
          rw [if_neg (by simp only [push_cast] at hq ⊢; revert hq; cases rb <;> simp)]
          (refine x_gg (zc @hTAl @e1) ?_)
          (first | exact x_retK (zc @hTAl @e1) | refine x_retKZ (zc @hTAl @e1) ?_)
        · intro hq
          rw [if_pos (by simp only [push_cast] at hq ⊢; revert hq; cases rb <;> simp)]
          (refine x_gg (zc @hTAl @e1) ?_)
          (first | exact x_retK (zc @hTAl @e1) | refine x_retKZ (zc @hTAl @e1) ?_)
end Go.Proofs.Tryz
namespace Go.Vg
open Go.RowKit
variable {P : Program}

section
variable {gds : List (Option Nat)} {ops l : List Oper} {m F : Mem} {B0 B1 : Ent} {n k c b e : Nat} {t t' : List (Nat × AV)} {x : AV} {p : Prop} {dst : Option Nat} {op : Op} {type : TypeId} {pos : String} {after : Array Edge}
end
end Go.Vg
set_option maxHeartbeats 16000000
namespace Go.Proofs.Tryz
open Go.Vg

/-! the document's tasks -/
end Go.Proofs.Tryz
set_option maxHeartbeats 16000000
namespace Go.Proofs.Tryz
open Go.Vg

/-! the document's play, Check and Play -/
/-- what Check and Play answer -/
def ckA (r : Rm) (s : St) (l : List Tk) : AV := if begE r s = 0 then .tup [.int (ckR r (bgS r) s.pl l (lsB r s)).1, .int (ckR r (bgS r) s.pl l (lsB r s)).2] else .tup [.int 0, .int (begE r s)]
theorem lsB_ok {r : Rm} {s : St} (hv : RV r) (hs2 : SV r s) : SdOk r s.pl (lsB r s) := ⟨hs2, Int.le_refl _, by have := hv.ps; simp only [lsB]; omega⟩
end Go.Proofs.Tryz
namespace Go.Vg.Ek
open Go.RowKit
variable {P : Program}
structure EvP where
  n : Nat
  kn : FuncId → Option (Mem → List AV → Option (List AV × AV))
def vwB (m : Mem) : Nat → AV → AV → Bool
  | 0, _, _ => false
  | n + 1, x, y =>
    let go : List AV → List AV → Bool := fun xs ys => (List.zipWith (vwB m n) xs ys).all id && Nat.beq xs.length ys.length
    match x, y with
    | .osl id ver off len, .lst sz ys => (match rowM m id ver with
      | some (sz', l) => (match Nat.beq sz' sz, Nat.ble (off + len) l.length, Nat.ble 1 sz with
        | true, true, true => go ((l.drop off).take len) ys
        | _, _, _ => false)
      | none => false)
    | .optr id ver i j, .ref ys j' => (match Nat.beq j j', rowM m id ver with
      | true, some (_, l) => (match l[i]? with
        | some x => (match Nat.ble (j + 1) x.cells.length with
          | true => go x.cells ys
          | false => false)
        | none => false)
      | _, _ => false)
    | .agg xs, .agg ys => go xs ys
    | .emp, .lst _ [] => true
    | x, y => (match mxV x with
      | 0 => eqV x y
      | _ => false)
def vwBL (m : Mem) (n : Nat) (xs ys : List AV) : Bool := (List.zipWith (vwB m n) xs ys).all id && Nat.beq xs.length ys.length
theorem vwBL_of {m : Mem} {g : AV → AV → Bool} (hg : ∀ x y, g x y = true → Vw m x y) : ∀ {xs ys : List AV}, ((List.zipWith g xs ys).all id && Nat.beq xs.length ys.length) = true → VwL m xs ys
  | [], [], _ => .nil
  | [], _ :: _, h => by simp at h
  | _ :: _, [], h => by simp at h
  | x :: xs, y :: ys, h => by
    simp only [List.zipWith_cons_cons, List.all_cons, id, Bool.and_eq_true, List.length_cons, Nat.beq_eq] at h
    refine .cons (hg x y h.1.1) (vwBL_of hg ?_)
    simp only [Bool.and_eq_true, Nat.beq_eq]
    exact ⟨h.1.2, by omega⟩
theorem vwB_ok {m : Mem} : ∀ (n : Nat) (x y : AV), vwB m n x y = true → Vw m x y
  | 0, x, y, h => by cases h
  | n + 1, x, y, h => by
    have ih := fun x y => vwB_ok (m := m) n x y
    unfold vwB at h
    simp only at h
    split at h
    · split at h
      · rename_i sz' l hr
        split at h
        · rename_i h1 h2 h3
          rw [Nat.beq_eq] at h1
          rw [Nat.ble_eq] at h2 h3
          subst h1
          exact .osl (rowM_ok hr) h2 (by omega) (vwBL_of ih h)
        · cases h
      · cases h
    · split at h
      · rename_i sz' l h1 hr
        rw [Nat.beq_eq] at h1
        subst h1
        split at h
        · rename_i x hx
          split at h
          · rename_i hj
            rw [Nat.ble_eq] at hj
            exact .optr (rowM_ok hr) hx (by omega) (vwBL_of ih h)
          · cases h
        · cases h
      · cases h
    · exact .agg (vwBL_of ih h)
    · exact .emp
    · split at h
      · rename_i h0
        have e := eqV_ok _ _ h
        subst e
        exact .self (mxV_ok _ (by omega))
      · cases h
/-- a function, by the code's evaluator -/
def xF (P : Program) (nf : EvP) (ih : Code → S → Option (Exit × S)) (f : FuncId) (args : List AV) (m : Mem) : Option (AV × Mem) :=
  match nf.kn f with
  | some g =>
    match g m args with
    | some (va, x) =>
      match vwBL m 20 args va, plainB x with
      | true, true => some (x, m)
      | _, _ => none
    | none => none
  | none =>
  match Nat.ble (f + 1) nf.n, P.funcs[f]? with
  | true, some fn =>
    match fn.body, Nat.ble args.length fn.ntmps with
    | some c, true =>
      match ih c (entry args m fn.ntmps) with
      | some (.normal, s) => leaveC P fn.results.toList m.length s
      | some (.ret, s) => leaveC P fn.results.toList m.length s
      | _ => none
    | _, _ => none
  | _, _ => none
/-- no function before the n-th is the one that the model knows by its name; the table's answers are right -/
def Named (P : Program) (nf : EvP) : Prop := Go.Vg.Named P nf.n ∧ ∀ f g, nf.kn f = some g → Enters P f ∧ ∀ m args va x, g m args = some (va, x) → Pure P f va x
def Sound (P : Program) (ih : Code → S → Option (Exit × S)) : Prop := ∀ (r : Option Nat) (c : Code) (s s' : S) (e : Exit) (Q : Exit → S → Prop), ih c s = some (e, s') → Q e s' → Wp P r c Q s
/-- one operation, in the order of the text -/
def xO1 (P : Program) (nf : EvP) (ih : Code → S → Option (Exit × S)) (s : S) (dst : Option Nat) (op : Op) : Option S :=
  match op with
  | .call ⟨.value fo, args, tys⟩ => (match calleeC (evoC s.t fo) with
    | some (f, fs, cs) => (match xF P nf ih f (fs ++ (args.toList.map (evoC s.t) ++ cs)) s.m with
      | some (x, m') => some (putA ⟨s.t, m', s.n, s.d⟩ dst x)
      | none => none)
    | none => none)
  | op => match opC P s.t s.m op with
    | some (m', x) => fV x fun x => some (putA ⟨s.t, m', s.n, s.d⟩ dst x)
    | none => none
def xO (P : Program) (nf : EvP) (ih : Code → S → Option (Exit × S)) (gds : List (Option Nat)) (s : S) (o : Oper) : Option S :=
  match o.guard with
  | none => xO1 P nf ih s o.dst o.op
  | some g => match gvalC gds s.t g with
    | some true => xO1 P nf ih s o.dst o.op
    | some false => (match isDefer o.op with
      | true => none
      | false => some (putA s o.dst (.opt false (.bool false))))
    | none => none
def xL (P : Program) (nf : EvP) (ih : Code → S → Option (Exit × S)) (gds : List (Option Nat)) : List Oper → S → Option S
  | [], s => some s
  | o :: l, s => match xO P nf ih gds s o with
    | some s1 => xL P nf ih gds l s1
    | none => none

section
variable {gds : List (Option Nat)} {nf : EvP} {ih : Code → S → Option (Exit × S)} (hE : Named P nf) (hs : Sound P ih)
include hE hs
end

def xN1 (P : Program) (nf : EvP) (ih : Code → S → Option (Exit × S)) (s : S) (op : Op) : Option AV :=
  match op with
  | .call ⟨.value fo, args, tys⟩ => (match fnOf (evoC s.t fo) with
    | some (f, caps) => (match Nat.beq (mxL ((args.toList.map (evoC s.t) ++ caps).map (view s.m))) 0 with
      | true => (match xF P nf ih f ((args.toList.map (evoC s.t) ++ caps).map (view s.m)) [] with
        | some (x, []) => (match plainB x with
          | true => some x
          | false => none)
        | _ => none)
      | false => none)
    | none => none)
  | .pick c a b => (match evoC s.t c with
    | .val (.bool true) => some (evoC s.t a)
    | .val (.bool false) => some (evoC s.t b)
    | _ => none)
  | op => match evC P s.t s.m op with
    | some x => some x
    | none => match bldC P s.t op with
      | some (sz, xs) => some (.lst sz xs)
      | none => none
def xN (P : Program) (nf : EvP) (ih : Code → S → Option (Exit × S)) (gds : List (Option Nat)) : List Oper → S → Option S
  | [], s => some s
  | o :: l, s =>
    match (match o.guard with
      | none => xN1 P nf ih s o.op
      | some g => (match gvalC gds s.t g with
        | some true => xN1 P nf ih s o.op
        | some false => (match isDefer o.op with
          | true => none
          | false => some (.opt false (.bool false)))
        | none => none)) with
    | some x => fV x fun x => xN P nf ih gds l (putA s o.dst x)
    | none => none
section
variable {gds : List (Option Nat)} {nf : EvP} {ih : Code → S → Option (Exit × S)} (hE : Named P nf) (hs : Sound P ih)
include hE hs
end

def stepX1 (P : Program) (nf : EvP) (ih : Code → S → Option (Exit × S)) (t : List (Nat × AV)) (m : Mem) (op : Op) (aid : Nat) : Option (AV × Option Mem) :=
  match isAlc op with
  | true => (match alcC P t op, getM m aid with
    | some (sz, l, q), some e => setM m aid ⟨e.ver + 1, .row sz l⟩ fun m' => some (alcV aid (e.ver + 1) q, some m')
    | _, _ => none)
  | false =>
    match op with
    | .call ⟨.value fo, args, tys⟩ => (match fnOf (evoC t fo) with
      | some (f, caps) => (match xF P nf ih f (args.toList.map (evoC t) ++ caps) m with
        | some (x, m') => (match eqM m' m with
          | true => some (x, none)
          | false => some (x, some m'))
        | none => none)
      | none => none)
    | .pick c a b => (match evoC t c with
      | .val (.bool true) => some (evoC t a, none)
      | .val (.bool false) => some (evoC t b, none)
      | _ => none)
    | op => (match evC P t m op with
      | some x => some (x, none)
      | none => (match effC P t m op with
        | some (m', x) => some (x, some m')
        | none => none))
def stepX (P : Program) (nf : EvP) (ih : Code → S → Option (Exit × S)) (gds : List (Option Nat)) (t : List (Nat × AV)) (m : Mem) (o : Oper) (aid : Nat) : Option (AV × Option Mem) :=
  match o.guard with
  | none => stepX1 P nf ih t m o.op aid
  | some g => (match gvalC gds t g with
    | some true => stepX1 P nf ih t m o.op aid
    | some false => (match isDefer o.op with
      | true => none
      | false => some (.opt false (.bool false), none))
    | none => none)
section
variable {gds : List (Option Nat)} {nf : EvP} {ih : Code → S → Option (Exit × S)} (hE : Named P nf) (hs : Sound P ih)
include hE hs
end

/-- what was found at an operation, in the order of the text -/
structure Rec where
  t : List (Nat × AV)
  m : Mem
  o : Oper
  aid : Nat
  x : AV
  om : Option Mem
def ChainX (P : Program) (nf : EvP) (ih : Code → S → Option (Exit × S)) (gds : List (Option Nat)) : List Rec → List Oper → List (Nat × AV) → Mem → List (Nat × AV) → Prop
  | [], [], t, _, t' => t = t'
  | r :: rs, o :: l, t, m, t' => r.t = t ∧ r.m = m ∧ r.o = o ∧ stepX P nf ih gds r.t r.m r.o r.aid = some (r.x, r.om) ∧ ChainX P nf ih gds rs l (upd t o.dst r.x) (r.om.getD m) t'
  | _, _, _, _, _ => False
/-- a first run, in the order of the text -/
def firstX (P : Program) (nf : EvP) (ih : Code → S → Option (Exit × S)) (gds : List (Option Nat)) : List Oper → List (Nat × AV) → Mem → Nat → Option (List Rec × List (Nat × AV))
  | [], t, _, _ => some ([], t)
  | o :: l, t, m, aid =>
    match stepX P nf ih gds t m o aid with
    | some (x, om) => fV x fun x =>
      (match firstX P nf ih gds l (upd t o.dst x) (om.getD m) (match isAlc o.op with
        | true => aid + 1
        | false => aid) with
      | some (rs, t') => some (⟨t, m, o, aid, x, om⟩ :: rs, t')
      | none => none)
    | none => none
/-- the numbers of those that turn memory -/
def effIdx : List Rec → Nat → List Nat
  | [], _ => []
  | r :: l, k => match r.om with
    | some _ => fN k fun k => k :: effIdx l (k + 1)
    | none => effIdx l (k + 1)
def effRec : List Rec → List Rec
  | [] => []
  | r :: l => match r.om with
    | some _ => r :: effRec l
    | none => effRec l
/-- the memory, where just the first ones are listed -/
def lastM : List Rec → List Bool → Mem → Option Mem
  | r :: rs, true :: bs, m => lastM rs bs (r.om.getD m)
  | _, bs, m => match bs.any id with
    | true => none
    | false => some m
def foldM (P : Program) (gds : List (Option Nat)) : List Rec → List Bool → Mem → Mem
  | r :: rs, b :: bs, m => (match b with
    | true => (match stepX P ⟨0, fun _ => none⟩ (fun _ _ => none) gds r.t m r.o r.aid with
      | some (_, some m') => foldM P gds rs bs m'
      | _ => foldM P gds rs bs m)
    | false => foldM P gds rs bs m)
  | _, _, m => m
def memOf (P : Program) (gds : List (Option Nat)) (rs : List Rec) (mv : Mem) (bits : List Bool) : Mem :=
  match lastM rs bits mv with
  | some m => m
  | none => foldM P gds rs bits mv
def aimX (es : List Nat) (mem : List Bool → Mem) (k : Nat) (b : List Bool) : Option Mem → Bool
  | none => (match es.contains k with
    | false => true
    | true => eqM (mem b) (mem (setB es k b)))
  | some m' => eqM m' (mem (setB es k b))
/-- an operation at each memory that may be there -/
def allX (P : Program) (nf : EvP) (ih : Code → S → Option (Exit × S)) (gds : List (Option Nat)) (es : List Nat) (mem : List Bool → Mem) (k : Nat) (r : Rec) : List (List Bool) → Bool
  | [] => true
  | b :: bs =>
    match (match (match r.om, r.o.op with
        | some _, _ => eqM r.m (mem b)
        | none, .call ⟨.value _, _, _⟩ => eqM r.m (mem b)
        | _, _ => false) with
      | true => aimX es mem k b r.om
      | false => (match stepX P nf ih gds r.t (mem b) r.o r.aid with
        | some (y, om) => (match eqV y r.x with
          | true => aimX es mem k b om
          | false => false)
        | none => false)) with
    | true => allX P nf ih gds es mem k r bs
    | false => false
def xM2 (P : Program) (nf : EvP) (ih : Code → S → Option (Exit × S)) (gds : List (Option Nat)) (ops : List Oper) (es : List Nat) (mem : List Bool → Mem) (n : Nat) : List Rec → Nat → Bool
  | [], _ => true
  | r :: rs, k =>
    match allX P nf ih gds es mem k r (consL ops es k), dstB n r.o.dst with
    | true, true => xM2 P nf ih gds ops es mem n rs (k + 1)
    | _, _ => false
def vacs (n : Nat) : Mem := List.replicate n ⟨0, .row 1 []⟩
def xM (P : Program) (nf : EvP) (ih : Code → S → Option (Exit × S)) (ops : List Oper) (s : S) : Option S :=
  match (ops.map (·.dst)).all (dstB s.n), ordB (ops.map (·.dst)) ops ops.length with
  | true, true =>
    fM (s.m.length + alcNo ops) (s.m ++ vacs (alcNo ops)) fun mv =>
    (match firstX P nf ih (ops.map (·.dst)) ops s.t mv s.m.length with
    | some (rs, t) =>
      (match xM2 P nf ih (ops.map (·.dst)) ops (effIdx rs 0) (memOf P (ops.map (·.dst)) (effRec rs) mv) s.n rs 0, (effIdx rs 0).all (fun e => Nat.ble (e + 1) ops.length) with
      | true, true => fM (memOf P (ops.map (·.dst)) (effRec rs) mv ((effIdx rs 0).map fun _ => true)).length (memOf P (ops.map (·.dst)) (effRec rs) mv ((effIdx rs 0).map fun _ => true)) fun m => some ⟨t, m, s.n, s.d⟩
      | _, _ => none)
    | none => none)
  | _, _ => none
section
variable {gds : List (Option Nat)} {nf : EvP} {ih : Code → S → Option (Exit × S)} (hE : Named P nf) (hs : Sound P ih)
include hE hs
theorem aimX_ok {es : List Nat} {mem : List Bool → Mem} {k : Nat} {b : List Bool} {om : Option Mem} (hl : b.length = es.length) (h : aimX es mem k b om = true) : mem (setB es k b) = om.getD (mem b) := by
  cases om with
  | none =>
    simp only [aimX] at h
    split at h
    · rename_i hc
      rw [setB_not hc b hl]; rfl
    · exact (eqM_ok h).symm
  | some m' => exact (eqM_ok h).symm
end

def keysC : List (Nat × AV) → List Nat → List Nat
  | [], acc => acc
  | (k, _) :: t, acc => match acc.any fun j => Nat.beq j k with
    | true => keysC t acc
    | false => keysC t (k :: acc)
def restr {α : Type} (t : List (Nat × AV)) : List Nat → (List (Nat × AV) → α) → α
  | [], k => k []
  | j :: js, k => fV (lookB t j) fun x => restr t js fun l => k ((j, x) :: l)
theorem restr_eq {α : Type} (t : List (Nat × AV)) : ∀ (js : List Nat) (k : List (Nat × AV) → α), restr t js k = k (js.map fun j => (j, look t j))
  | [], _ => rfl
  | j :: js, k => by simp [restr, fV_eq, restr_eq t js, lookB_eq]
def xLoop (ih : Code → S → Option (Exit × S)) (c : Code) (ks : List Nat) (n : Nat) : S → Option (Exit × S) :=
  Nat.rec (fun _ => none) (fun _ go s => match ih c s with
    | some (.normal, s1) => restr s1.t ks fun t => go ⟨t, s1.m, s1.n, s1.d⟩
    | r => r) n
def stepC (P : Program) (nf : EvP) (n : Nat) (ih : Code → S → Option (Exit × S)) (c : Code) (s : S) : Option (Exit × S) :=
  match c with
  | .skip => some (.normal, s)
  | .exit id => some (.exit id, s)
  | .ret => some (.ret, s)
  | .seq a b => (match ih a s with
    | some (.normal, s1) => ih b s1
    | r => r)
  | .block id c => (match ih c s with
    | some (.exit id', s1) => (match Nat.beq id' id with
      | true => some (.normal, s1)
      | false => some (.exit id', s1))
    | r => r)
  | .cond c a b => (match evoC s.t c with
    | .val (.bool true) => ih a s
    | .val (.bool false) => ih b s
    | _ => none)
  | .loop c => restr s.t (keysC s.t []) fun t => xLoop ih c (keysC s.t []) n ⟨t, s.m, s.n, s.d⟩
  | .region _ ops false =>
    (match (ops.toList.map (·.dst)).all (dstB s.n) with
    | true => (match xL P nf ih (ops.toList.map (·.dst)) ops.toList s with
      | some s1 => some (.normal, s1)
      | none => none)
    | false => none)
  | .region _ ops true =>
    (match (ops.toList.map (·.dst)).all (dstB s.n), drawB (ops.toList.map (·.dst)) ops.toList (calmN ops.toList) with
    | true, false => (match xM P nf ih ops.toList s with
      | some s1 => some (.normal, s1)
      | none => none)
    | true, true => (match xN P nf ih (ops.toList.map (·.dst)) (ops.toList.take (calmN ops.toList)) s with
      | some s1 => (match xL P nf ih (ops.toList.map (·.dst)) (ops.toList.drop (calmN ops.toList)) s1 with
        | some s2 => some (.normal, s2)
        | none => none)
      | none => (match xM P nf ih ops.toList s with
        | some s1 => some (.normal, s1)
        | none => none))
    | _, _ => none)
  | _ => none
/-- the evaluator of code -/
def xC (P : Program) (nf : EvP) (n : Nat) : Code → S → Option (Exit × S) := Nat.rec (fun _ _ => none) (fun n ih => stepC P nf n ih) n
end Go.Vg.Ek
set_option maxHeartbeats 16000000
namespace Go.Proofs.Tryz
open Go.Vg

/-! the example -/
theorem namedEv : Named Tryz.prog 201 := namedB_ok (by kernel_rfl)
/-- a function's run, by the evaluator; what it hands back reads as y -/
theorem xFw_pure {f : FuncId} {args : List AV} {y : AV} (h : (match xF Tryz.prog 201 (xC Tryz.prog 201 100000) f args [] with
    | some (x, m) => Ek.vwB m 20 x y
    | none => false) = true) : Pure Tryz.prog f args y := by
  split at h
  · rename_i x m hx
    refine Spec.frz ((xF_spec namedEv mixed hx).mono fun x' m' h' => ?_)
    obtain ⟨rfl, rfl⟩ := h'
    exact Ek.vwB_ok _ _ _ h
  · cases h
def exR : Rm := ⟨[⟨#[104, 97, 108, 108]⟩, ⟨#[118, 97, 117, 108, 116]⟩], [⟨⟨#[98, 111, 120]⟩, 0, 2, 0⟩, ⟨⟨#[100, 111, 111, 114]⟩, 0, 2, 0⟩], [⟨⟨#[107, 101, 121]⟩, 0, [⟨0, 1, false⟩]⟩], [⟨0, 1, [⟨1, 1, false⟩]⟩], [⟨⟨#[111, 112, 101, 110]⟩, 0, 0, [], [], [⟨0, 1⟩], [], []⟩, ⟨⟨#[116, 117, 114, 110]⟩, 0, -1, [0], [], [⟨1, 1⟩], [0], []⟩], [], 1, []⟩
def exS : St := ⟨[1, 1], [-1], [0]⟩
theorem example_pure : Pure Tryz.prog 45 [] (rmA exR) := xFw_pure (by kernel_rfl)
end Go.Proofs.Tryz
set_option maxHeartbeats 16000000
namespace Go.Proofs.Tryz
open Go.Vg

theorem exBeg : begE exR exS = 0 := by kernel_rfl
theorem exLe : ∃ t, (leT exR exS).1 = 0 ∧ (leT exR exS).2 = [⟨2, 1, 0⟩, ⟨3, 0, 0⟩, t] := by
  refine ⟨((leT exR exS).2.getD 2 tk0), by kernel_rfl, by kernel_rfl⟩
theorem exSz : Sz exR := farB_Sz (by kernel_rfl)
theorem exZs : Zs exS := ⟨by simp [exS], by simp [exS], by simp [exS]⟩
theorem works_pure : Pure Tryz.prog 15 [] (.bool true) := by
  have h1 := example_pure
  have h2 := least_ok exSz exZs exBeg
  obtain ⟨t, e1, e2⟩ := exLe
  rw [e1, e2] at h2
  unfold stA exS at h2
  simp only at h2
  unfold rmA rmC at h1 h2
  simp only [List.map_cons, List.map_nil, tkA] at h2
  (refine Spec.bd 0 Tryz.func15 Tryz.results15 Tryz.ntmps15 ?_; simp only [entry, zipArgs, Nat.reduceAdd])
  (refine w_go ?_)
  (apply Run.pureFP; (exact w_ev); (exact (Enters.of Tryz.func45 rfl rfl)); (exact h1); (exact w_al); (try dsimp only [putA, optG]))
  (refine w_go ?_)
  (apply Run.pureFP; (exact w_ev); (exact (Enters.of Tryz.func16 rfl rfl)); (exact h2); (exact w_al); (try dsimp only [putA, optG]))
  (refine w_gg ?_)
  (first | exact w_ret | refine w_retZ ?_)
end Go.Proofs.Tryz
set_option maxHeartbeats 16000000
namespace Go.Proofs.Tryz
open Go.Vg

/-! what comes in is no longer than a slice can be -/
theorem Spec.pre {P : Program} {C : Prop} {f : FuncId} {args : List AV} {m : Mem} {Q : AV → Mem → Prop} (hC : ∀ X w ρ vs, Rvals X w ρ args vs → C) (h : C → Go.Vg.Spec P f args m Q) : Go.Vg.Spec P f args m Q := fun X w ρ vs hi hr => h (hC X w ρ vs hr) X w ρ vs hi hr
theorem ints_len {X : Nat → Prop} {w : World} {ρ : Rho} {l : List Int} {v : Value} (h : R X w ρ (.ints l) v) : l.length ≤ 9223372036854775807 := by
  obtain ⟨A, c, _, h1, h2, _⟩ := h
  rw [List.length_map] at h1
  unfold maxLen at h2
  omega
structure Ln (s : St) : Prop where
  ts : s.ts.length ≤ 9223372036854775807
  pp : s.pp.length ≤ 9223372036854775807
  pl : s.pl.length ≤ 9223372036854775807
theorem st_len {X : Nat → Prop} {w : World} {ρ : Rho} {s : St} {v : Value} (h : R X w ρ (stA s) v) : Ln s := by
  obtain ⟨vs, _, v1, _, _, h1, v2, _, _, h2, v3, _, _, h3, _⟩ := h
  exact ⟨ints_len h1, ints_len h2, ints_len h3⟩
def awB (s : St) : Bool := decide (30 < (s.ts.length : Int)) || decide (30 < (s.pp.length : Int)) || decide (30 < (s.pl.length : Int))
theorem awB_Zs {s : St} (h : awB s = false) : Zs s := by
  unfold awB at h
  simp only [Bool.or_eq_false_iff, decide_eq_false_iff_not] at h
  exact ⟨by omega, by omega, by omega⟩
theorem Away_pure {s : St} (h : Ln s) : Pure Tryz.prog 14 [stA s] (.bool (awB s)) := away_pure s h.ts h.pp h.pl

end Go.Proofs.Tryz
set_option maxHeartbeats 16000000
namespace Go.Proofs.Tryz
open Go.Vg

/-! Check and Play -/
theorem Check_pure {r : Rm} (hz : Sz r) {s : St} (hs : Zs s) (l : List Tk) (hl : l.length ≤ 100000) : Pure Tryz.prog 32 [rmA r, stA s, .lst 3 (l.map tkA)] (ckA r s l) := by
  have hok := okL_tk 0 l
  unfold ckA
  by_cases h1 : begE r s = 0
  · obtain ⟨hb0, hb1⟩ := begE_zero h1
    obtain ⟨hv, hs2, hch⟩ := cs_zero hb1
    have hx := lsB_ok hv hs2
    have c0 := begin_spec hz hs h1
    have c1 := check_spec hz hv hch (bg_SV hb0) hx l hl (a2 := ⟨0, .row 1 []⟩) trivial trivial
    rw [if_pos h1]
    generalize ckR r (bgS r) s.pl l (lsB r s) = u at *
    generalize ckF r (bgS r) s.pl l (lsB r s) = y at *
    unfold begM at c0
    unfold lsB at c1
    simp only at c1
    generalize bgS r = f at *
    generalize l.map tkA = TA at *
    unfold rmA rmC at *
    unfold ckM at c1
    unfold stA at *
    (refine Spec.bd 0 Tryz.func32 Tryz.results32 Tryz.ntmps32 ?_; simp only [entry, zipArgs, Nat.reduceAdd])
    ((refine x_pre @hok ?_); (iterate 4 (refine x_nr @hok ?_)); (refine x_nil @hok ?_))
    (refine x_fzP @hok (slq 3) ?_)
    (refine x_fzP @hok (slq 4) ?_)
    (refine Wp.vacs 1 ?_; (try simp only [List.replicate_succ, List.replicate_zero, List.cons_append, List.nil_append]))
    (refine x_go @hok ?_)
    (apply Run.freshE (he := (Enters.of Tryz.func46 rfl rfl)); (simp only [push_cast, seval, hok] <;> first | exact rfl | assumption); (exact x_ev @hok); (exact c0); ((exact x_cl @hok)); (exact x_ev @hok); (exact x_ev @hok); dsimp only [S.put, optG])
    (refine x_gg @hok ?_)
    (apply Run.spec (he := (Enters.of Tryz.func71 rfl rfl)); exact rfl; (simp only [push_cast, seval, hok] <;> first | exact rfl | assumption); (exact x_ev @hok); (exact c1); (rintro _ _ ⟨rfl, rfl⟩; dsimp only [Go.Vg.S.put, optG]))
    (refine x_gg @hok ?_)
    (first | exact x_ret @hok | refine x_retZ @hok ?_)
  · have e2 : decide (begE r s = 0) = false := decide_eq_false h1
    have c0 := begin_err hz hs h1
    rw [if_neg h1]
    generalize begE r s = e at *
    generalize l.map tkA = TA at *
    unfold rmA rmC at *
    unfold stA at *
    (refine Spec.bd 0 Tryz.func32 Tryz.results32 Tryz.ntmps32 ?_; simp only [entry, zipArgs, Nat.reduceAdd])
    ((refine x_pre (zc @hok (zc @e2 @Bool.not_false)) ?_); (iterate 4 (refine x_nr (zc @hok (zc @e2 @Bool.not_false)) ?_)); (refine x_nil (zc @hok (zc @e2 @Bool.not_false)) ?_))
    (refine x_fzP (zc @hok (zc @e2 @Bool.not_false)) (slq 3) ?_)
    (refine x_fzP (zc @hok (zc @e2 @Bool.not_false)) (slq 4) ?_)
    (refine x_go (zc @hok (zc @e2 @Bool.not_false)) ?_)
    (apply Run.pureFP; (exact x_ev (zc @hok (zc @e2 @Bool.not_false))); (exact (Enters.of Tryz.func46 rfl rfl)); (exact c0); (exact x_al (zc @hok (zc @e2 @Bool.not_false))); (try dsimp only [putA, optG]))
    (refine x_gg (zc @hok (zc @e2 @Bool.not_false)) ?_)
    (first | exact x_ret (zc @hok (zc @e2 @Bool.not_false)) | refine x_retZ (zc @hok (zc @e2 @Bool.not_false)) ?_)
end Go.Proofs.Tryz
set_option maxHeartbeats 16000000
namespace Go.Proofs.Tryz
open Go.Vg

theorem copyTasks_pure (c : List Tk) (hc : c.length ≤ 100000) : Pure Tryz.prog 33 [.lst 3 (c.map tkA)] (.lst 3 (c.map tkA)) := by
  (refine Spec.bd 0 Tryz.func33 Tryz.results33 Tryz.ntmps33 ?_; simp only [entry, zipArgs, Nat.reduceAdd])
  (refine x_go @okL_tk ?_)
  (apply Wp.freeze 2; (exact x_ev @okL_tk); (exact x_ev @okL_tk); (focus (try simp only [push_cast, seval, okL_tk]); (try (exact sT))); (focus (exact sT)))
  (first | exact x_ret @okL_tk | refine x_retZ @okL_tk ?_)
end Go.Proofs.Tryz
set_option maxHeartbeats 16000000
namespace Go.Proofs.Tryz
open Go.Vg

/-! what Least answers is a checklist, and none is shorter (plain) -/
theorem tk_of_can {r : Rm} {f s : St} {a : Int} {t : Tk} (h : canB r f s a t = true) : ∃ k, k < (tkL r).length ∧ (tkL r).getD k tk0 = t := by
  have hm : t ∈ tkL r := by
    obtain ⟨kd, nu, ar⟩ := t
    unfold canB at h
    simp only at h
    unfold tkL
    rw [List.mem_append, List.mem_append]
    split at h
    · rename_i hk
      subst hk
      unfold wkB wi at h
      simp only [Bool.and_eq_true, decide_eq_true_eq] at h
      obtain ⟨⟨rfl, q1, q2⟩, _⟩ := h
      refine .inl (.inl ?_)
      unfold tkW
      exact List.mem_map.2 ⟨nu.toNat, List.mem_range.2 (by omega), by rw [show ((nu.toNat : Nat) : Int) = nu by omega]⟩
    · split at h
      · rename_i hk
        subst hk
        unfold tnB wi at h
        simp only [Bool.and_eq_true, decide_eq_true_eq] at h
        obtain ⟨⟨q1, q2⟩, ⟨q3, q4, q5⟩, q6⟩ := h
        refine .inl (.inr ?_)
        unfold tkT
        refine List.mem_flatMap.2 ⟨nu.toNat, List.mem_range.2 (by omega), ?_⟩
        unfold tkS
        exact List.mem_map.2 ⟨ar.toNat, List.mem_range.2 (by omega), by rw [show ((nu.toNat : Nat) : Int) = nu by omega, show ((ar.toNat : Nat) : Int) = ar by omega]⟩
      · split at h
        · rename_i hk
          subst hk
          unfold ptB wi at h
          simp only [Bool.and_eq_true, decide_eq_true_eq] at h
          obtain ⟨⟨⟨rfl, q1, q2⟩, _⟩, _⟩ := h
          refine .inr ?_
          unfold tkP
          exact List.mem_map.2 ⟨nu.toNat, List.mem_range.2 (by omega), by rw [show ((nu.toNat : Nat) : Int) = nu by omega]⟩
        · cases h
  obtain ⟨k, hk, rfl⟩ := List.getElem_of_mem hm
  exact ⟨k, hk, by simp [hk]⟩
section
variable {r : Rm} {f : St} {pl : List Int}
theorem nxR_no {x : Sd} {k : Nat} (h : canB r f (sdS pl x) x.at_ ((tkL r).getD k tk0) = false) : nxR r f pl x k = x := by unfold nxR; rw [h, if_neg (by simp)]
theorem nxR_yes {x : Sd} {k : Nat} (h : canB r f (sdS pl x) x.at_ ((tkL r).getD k tk0) = true) : nxR r f pl x k = nxT r f pl x ((tkL r).getD k tk0) := by unfold nxR; rw [if_pos h]
/-- a list that can be done is a word of the search -/
theorem word_of (hv : RV r) (hf : SV r f) : ∀ (l : List Tk) {x : Sd}, SdOk r pl x → ckN r f pl l x = l.length → ∃ w, okS (tkL r).length w ∧ w.length = l.length ∧ endW (nxR r f pl) x w = ckL r f pl l x
  | [], x, _, _ => ⟨[], (fun _ h => (by cases h)), rfl, rfl⟩
  | t :: l, x, hx, h => by
    unfold ckN at h
    split at h
    · rename_i hc
      obtain ⟨k, hk, hkt⟩ := tk_of_can hc
      obtain ⟨w, w1, w2, w3⟩ := word_of hv hf l (nx_ok hv hf hx hc) (by simp only [List.length_cons] at h; omega)
      refine ⟨k :: w, fun z hz => ?_, by simp [w2], ?_⟩
      · rcases List.mem_cons.1 hz with rfl | hz
        · exact hk
        · exact w1 z hz
      · show endW (nxR r f pl) (nxR r f pl x k) w = _
        rw [show nxR r f pl x k = nxT r f pl x t by rw [nxR_yes (by rw [hkt]; exact hc), hkt], w3]
        show _ = if _ then _ else _
        rw [if_pos hc]
    · simp only [List.length_cons] at h; omega
/-- the first word to a stand can be done -/
theorem list_of {b c : Sd} {w : List Nat} (h : LW (tkL r).length (nxR r f pl) b c w) : ∀ (v u : List Nat), w = u ++ v → ckN r f pl (v.map fun k => (tkL r).getD k tk0) (endW (nxR r f pl) b u) = v.length ∧ ckL r f pl (v.map fun k => (tkL r).getD k tk0) (endW (nxR r f pl) b u) = c
  | [], u, e => by
    rw [List.append_nil] at e
    subst e
    exact ⟨rfl, h.to⟩
  | s :: v, u, e => by
    have hc : canB r f (sdS pl (endW (nxR r f pl) b u)) (endW (nxR r f pl) b u).at_ ((tkL r).getD s tk0) = true := by
      cases hc : canB r f (sdS pl (endW (nxR r f pl) b u)) (endW (nxR r f pl) b u).at_ ((tkL r).getD s tk0) with
      | true => rfl
      | false =>
        exfalso
        have e1 : nxR r f pl (endW (nxR r f pl) b u) s = endW (nxR r f pl) b u := nxR_no hc
        have e2 : endW (nxR r f pl) b (u ++ v) = c := by
          rw [← h.to, e, endW_app, endW_app]
          show _ = endW (nxR r f pl) (nxR r f pl _ s) v
          rw [e1]
        have h3 := h.least (u ++ v) (fun z hz => h.ok z (by rw [e]; rcases List.mem_append.1 hz with hz | hz <;> simp [hz])) e2
        rcases h3 with h3 | h3
        · have := congrArg List.length (e.symm.trans h3)
          simp at this
        · unfold sl at h3
          have hl : w.length = u.length + v.length + 1 := by rw [e]; simp; omega
          rcases h3 with h3 | ⟨h3, _⟩ <;> (simp at h3; omega)
    have e1 : endW (nxR r f pl) b (u ++ [s]) = nxT r f pl (endW (nxR r f pl) b u) ((tkL r).getD s tk0) := by
      rw [endW_app]
      exact nxR_yes hc
    obtain ⟨q1, q2⟩ := list_of h v (u ++ [s]) (by rw [e]; simp)
    rw [e1] at q1 q2
    rw [List.map_cons]
    refine ⟨?_, ?_⟩
    · show (if _ then _ else _) = _
      rw [if_pos hc, q1]; rfl
    · show (if _ then _ else _) = _
      rw [if_pos hc, q2]
theorem pth_is {S : SL Sd} {Q : QL Sd} (h : SQ S Q) (h0 : qw Q 0 = []) : ∀ (n i : Nat), i ≤ n → i < S.length → (pth S n i).reverse = qw Q i
  | 0, i, hi, _ => by
    have : i = 0 := by omega
    subst this
    rw [h0]; rfl
  | n + 1, i, hi, hs => by
    unfold pth
    by_cases hz : i = 0
    · subst hz
      rw [if_pos rfl, h0]; rfl
    · rw [if_neg hz]
      obtain ⟨b1, b2⟩ := h.b i (by omega) hs
      rw [List.reverse_cons, pth_is h h0 n (sb S i) (by omega) (by omega), b2]
end
/-- how much is wrong -/
def wrN (f : St) (x : Sd) : Nat := (unL x.ts f.ts).length + (unL x.pp f.pp).length
theorem unN_set (a b : List Int) (n : Nat) (v : Int) : ∀ k, (unN a b k).length ≤ (unN (a.set n v) b k).length + (if n < k then 1 else 0)
  | 0 => by simp [unN]
  | k + 1 => by
    have ih := unN_set a b n v k
    rw [unN_succ, unN_succ, getD_set]
    by_cases hn : n = k
    · subst hn
      rw [if_neg (Nat.lt_irrefl _)] at ih
      rw [if_pos (Nat.lt_succ_self _)]
      generalize (if n = n ∧ n < a.length then v else a.getD n 0) = z
      split <;> split <;> (try simp only [List.length_append, List.length_singleton]) <;> omega
    · rw [if_neg (show ¬ (n = k ∧ k < a.length) from fun h => hn h.1)]
      have e : (if n < k + 1 then 1 else 0) = (if n < k then 1 else 0) := by
        by_cases h : n < k
        · rw [if_pos h, if_pos (by omega)]
        · rw [if_neg h, if_neg (by omega)]
      rw [e]
      split <;> (try simp only [List.length_append, List.length_singleton]) <;> omega
theorem unL_set (a b : List Int) (n : Nat) (v : Int) : (unL a b).length ≤ (unL (a.set n v) b).length + 1 := by
  unfold unL
  rw [List.length_set]
  have := unN_set a b n v a.length
  split at this <;> omega
theorem wr_step (r : Rm) (f : St) (pl : List Int) (x : Sd) (t : Tk) : wrN f x ≤ wrN f (nxT r f pl x t) + 1 := by
  unfold wrN
  have hts : (nxT r f pl x t).ts = (doS r f (sdS pl x) x.at_ t).ts := rfl
  have hpp : (nxT r f pl x t).pp = (doS r f (sdS pl x) x.at_ t).pp := rfl
  rw [hts, hpp]
  unfold doS
  split
  · have := unL_set x.ts f.ts t.nu.toNat t.ar
    simp only [sdS]; omega
  · split
    · have := unL_set x.pp f.pp t.nu.toNat (f.pp.getD t.nu.toNat 0)
      simp only [sdS]; omega
    · simp only [sdS]; omega
theorem wr_list (r : Rm) (f : St) (pl : List Int) : ∀ (l : List Tk) (x : Sd), wrN f x ≤ wrN f (ckL r f pl l x) + l.length
  | [], x => by show _ ≤ wrN f x + 0; omega
  | t :: l, x => by
    show _ ≤ wrN f (if _ then _ else _) + _
    split
    · have h1 := wr_step r f pl x t
      have h2 := wr_list r f pl l (nxT r f pl x t)
      simp only [List.length_cons]; omega
    · omega
theorem ov_wr {f : St} {pl : List Int} {x : Sd} (h : ovB f pl x = true) : wrN f x = 0 := by
  unfold ovB rsB sdS at h
  simp only [Bool.and_eq_true, decide_eq_true_eq] at h
  unfold wrN
  rw [h.2.1, h.2.2, (unL_nil rfl).2 rfl, (unL_nil rfl).2 rfl]; rfl
theorem srun_size {T : Nat} {R : Sd → Nat → Sd} {M : Nat} : ∀ (f i : Nat) {S S' : SL Sd}, srun T R M f i S = some S' → S'.length ≤ i + f
  | 0, i, S, S', h => by cases h
  | f + 1, i, S, S', h => by
    unfold srun at h
    split at h
    · obtain ⟨S1, _, q2⟩ := Option.bind_eq_some_iff.1 h
      have := srun_size f (i + 1) q2
      omega
    · cases h; omega
/-- what Least finds, against all lists -/
theorem least_law {r : Rm} {s : St} (h : begE r s = 0) : (leT r s).1 = 2 ∨ ((leT r s).1 = 90 ∧ ∀ l, (ckR r (bgS r) s.pl l (lsB r s)).2 ≠ 0) ∨ ((leT r s).1 = 0 ∧
    ckN r (bgS r) s.pl (leT r s).2 (lsB r s) = (leT r s).2.length ∧ ovB (bgS r) s.pl (ckL r (bgS r) s.pl (leT r s).2 (lsB r s)) = true ∧ wrN (bgS r) (lsB r s) ≤ (leT r s).2.length ∧ (wrN (bgS r) (lsB r s) = 0 → (leT r s).2.length = 0) ∧
    (leT r s).2.length ≤ 5000 ∧ ∀ l, (ckR r (bgS r) s.pl l (lsB r s)).2 = 0 → (leT r s).2.length ≤ l.length) := by
  obtain ⟨hb0, hb1⟩ := begE_zero h
  obtain ⟨hv, hs2, hch⟩ := cs_zero hb1
  have hf := bg_SV hb0
  have hx0 : SdOk r s.pl (lsB r s) := ⟨hs2, Int.le_refl _, by have := hv.ps; simp only [lsB]; omega⟩
  have hlt : (lsB r s).ts.length = (bgS r).ts.length ∧ (lsB r s).pp.length = (bgS r).pp.length := ⟨hs2.ts.trans hf.ts.symm, hs2.pp.trans hf.pp.symm⟩
  have hat : (lsB r s).at_ = 0 := rfl
  unfold leT
  unfold lsR
  generalize bgS r = f at *
  generalize lsB r s = x0 at *
  generalize s.pl = pl at *
  split
  · exact .inl rfl
  · rename_i S hS
    obtain ⟨Q, z1, z2⟩ := srun_is (nxR r f pl) 4001 0 _ S _ (SQ.start x0) (BI.start (T := (tkL r).length) (R := nxR r f pl) x0) (by simp) hS
    have hck : ∀ l, (ckR r f pl l x0).2 = 0 → ckN r f pl l x0 = l.length ∧ ovB f pl (ckL r f pl l x0) = true := fun l hl => by
      unfold ckR at hl
      have := ckN_le r f pl l x0
      split at hl
      · cases hl
      · split at hl
        · cases hl
        · split at hl
          · rename_i q1 q2 q3
            exact ⟨by omega, q3⟩
          · cases hl
    have hall : ∀ l, (ckR r f pl l x0).2 = 0 → ∃ k, k < S.length ∧ ovB f pl (sc S k) = true ∧ (qw Q k).length ≤ l.length := fun l hl => by
      obtain ⟨q1, q2⟩ := hck l hl
      obtain ⟨w, w1, w2, w3⟩ := word_of hv hf l hx0 q1
      obtain ⟨k, k1, k2⟩ := z2.all (R := nxR r f pl) w w1
      refine ⟨k, by rw [z1.len]; exact k1, by rw [z1.c, k2, w3]; exact q2, ?_⟩
      rcases (z2.lw k k1).least w w1 k2.symm with e | e
      · rw [e, w2]; exact Nat.le_refl _
      · unfold sl at e
        rcases e with e | ⟨e, _⟩ <;> omega
    split
    · rename_i hen
      refine .inr (.inl ⟨rfl, fun l hl => ?_⟩)
      obtain ⟨k, k1, k2, _⟩ := hall l hl
      unfold enN at hen
      have := List.find?_eq_none.1 hen k (List.mem_range.2 k1)
      exact this k2
    · rename_i e hen
      obtain ⟨e1, e2⟩ := enN_lt hen
      have hmin : ∀ k, ovB f pl (sc S k) = true → k < S.length → e ≤ k := fun k hk hkl => by
        unfold enN at hen
        rcases Nat.lt_or_ge k e with q | q
        · exfalso
          rw [List.find?_eq_some_iff_getElem] at hen
          obtain ⟨_, i, hi, hie, hno⟩ := hen
          simp only [List.getElem_range] at hie hno
          have := hno k (by omega)
          rw [hk] at this
          cases this
        · exact q
      have hw : ((pth S e e).map fun k => (tkL r).getD k tk0).reverse = (qw Q e).map fun k => (tkL r).getD k tk0 := by
        rw [← List.map_reverse, pth_is z1 z2.hw e e (Nat.le_refl _) e1]
      have hqe : e < Q.length := by rw [← z1.len]; exact e1
      obtain ⟨c1, c2⟩ := list_of (z2.lw e hqe) (qw Q e) [] rfl
      have c1 : ckN r f pl ((qw Q e).map fun k => (tkL r).getD k tk0) x0 = (qw Q e).length := c1
      have c2 : ckL r f pl ((qw Q e).map fun k => (tkL r).getD k tk0) x0 = qc Q e := c2
      refine .inr (.inr ⟨rfl, ?_, ?_, ?_, ?_, ?_, ?_⟩)
      · simp only [hw, List.length_map]; exact c1
      · simp only [hw]; rw [c2, ← z1.c]; exact e2
      · have := wr_list r f pl ((qw Q e).map fun k => (tkL r).getD k tk0) x0
        rw [c2, ← z1.c, ov_wr e2, List.length_map] at this
        simp only [hw, List.length_map]; omega
      · intro h0
        have h1 : ovB f pl x0 = true := by
          unfold wrN at h0
          have a1 := (unL_nil hlt.1).1 (List.length_eq_zero_iff.1 (by omega))
          have a2 := (unL_nil hlt.2).1 (List.length_eq_zero_iff.1 (by omega))
          unfold ovB rsB sdS
          simp [hat, a1, a2]
        have h2 : e ≤ 0 := hmin 0 (by rw [z1.c, z2.hc]; exact h1) (by rw [z1.len]; exact z2.pos)
        have h3 : e = 0 := by omega
        simp only [hw, List.length_map, h3, z2.hw]; rfl
      · have h1 := z2.short (R := nxR r f pl) e e (Nat.le_refl _) hqe
        have h2 := srun_size _ _ hS
        simp only [hw, List.length_map]; omega
      · intro l hl
        obtain ⟨k, k1, k2, k3⟩ := hall l hl
        have hek := hmin k k2 k1
        simp only [hw, List.length_map]
        rcases Nat.lt_or_eq_of_le hek with q | q
        · have := z2.srt e k q (by rw [← z1.len]; exact k1)
          unfold sl at this
          rcases this with this | ⟨this, _⟩ <;> omega
        · subst q; exact k3
end Go.Proofs.Tryz
set_option maxHeartbeats 16000000
namespace Go.Proofs.Tryz
open Go.Vg

/-! rooms where checklists are not searched -/
def prN (r : Rm) : Nat → Int
  | 0 => r.ps.length
  | k + 1 => prN r k * (r.ts.getD k th0).ss
theorem prN_step {r : Rm} (hv : RV r) {k : Nat} (hk : k < r.ts.length) (h1 : 0 ≤ prN r k) (h2 : prN r k ≤ 400) : 0 ≤ prN r (k + 1) ∧ prN r (k + 1) ≤ 2400 := by
  have h := (hv.tsv (r.ts.getD k th0) (by rw [show r.ts.getD k th0 = r.ts[k] by simp [hk]]; exact List.getElem_mem _)).2.1
  show 0 ≤ prN r k * (r.ts.getD k th0).ss ∧ prN r k * (r.ts.getD k th0).ss ≤ 2400
  generalize prN r k = a at *
  generalize (r.ts.getD k th0).ss = b at *
  refine ⟨Int.mul_nonneg h1 (by omega), ?_⟩
  have := Int.mul_le_mul h2 h.2 (by omega) (by omega : (0 : Int) ≤ 400)
  omega
/-- whether a room is large: some answer; no means that it is not far -/
theorem Large_ex (r : Rm) : ∃ b, Pure Tryz.prog 13 [rmA r] (.bool b) ∧ (b = false → farB r = false) := by
  have f1 := Far_pure r
  cases hfa : farB r with
  | true =>
    rw [hfa] at f1
    refine ⟨true, ?_, fun h => by cases h⟩
    unfold rmA rmC at *
    (refine Spec.bd 0 Tryz.func13 Tryz.results13 Tryz.ntmps13 ?_; simp only [entry, zipArgs, Nat.reduceAdd])
    (refine x_go @Bool.true_or ?_)
    (apply Run.pureFP; (exact x_ev @Bool.true_or); (exact (Enters.of Tryz.func20 rfl rfl)); (exact f1); (exact x_al @Bool.true_or); (try dsimp only [putA, optG]))
    (refine x_gg @Bool.true_or ?_)
    (apply Run.pureFP; (exact x_ev @Bool.true_or); (exact (Enters.of Tryz.func20 rfl rfl)); (exact f1); (exact x_al @Bool.true_or); (try dsimp only [putA, optG]))
    (refine x_gg @Bool.true_or ?_)
    (first | exact x_ret @Bool.true_or | refine x_retZ @Bool.true_or ?_)
  | false =>
    rw [hfa] at f1
    have hz := farB_Sz hfa
    have c1 := rcheck_pure hz
    by_cases hch : chE r = 0
    · have hv := chE_RV hch
      rw [hch] at c1
      have z1 := hv.ps
      have z2 := hv.ts
      have z3 := hv.pp
      by_cases hex : ∃ k, k < r.ts.length ∧ 400 < prN r (k + 1)
      · refine ⟨true, ?_, fun _ => rfl⟩
        unfold rmA rmC at *
        (refine Spec.bd 0 Tryz.func13 Tryz.results13 Tryz.ntmps13 ?_; simp only [entry, zipArgs, Nat.reduceAdd])
        (refine w_go ?_)
        (apply Run.pureFP; (exact w_ev); (exact (Enters.of Tryz.func20 rfl rfl)); (exact f1); (exact w_al); (try dsimp only [putA, optG]))
        (refine w_go ?_)
        (apply Run.pureFP; (exact w_ev); (exact (Enters.of Tryz.func44 rfl rfl)); (exact c1); (exact w_al); (try dsimp only [putA, optG]))
        (refine w_gg ?_)
        (refine w_fzP (slq 1) ?_)
        (refine w_gg ?_)
        refine Wp.loop (fun k : Nat => { t := [(1, .ref [.strs r.ps, .lst 4 (r.ts.map thA), .lst 3 (r.pp.map ppA), .lst 3 (r.wy.map wyA), .lst 8 (r.ac.map acA), .lst 3 (r.au.map auA), .int r.n, .lst 3 (r.goal.map ltA)] 0), (3, .int (prN r k)), (4, .int k)], m := [⟨1, .row 8 []⟩], n := 49 }) (fun k => k ≤ r.ts.length ∧ 0 ≤ prN r k ∧ ∀ j, j ≤ k → prN r j ≤ 400) (fun k => r.ts.length - k) 0 ?_ ?_ ?_
        · (refine Le.of ?_ ?_ rfl rfl <;> (try simp only [push_cast, seval]) <;> (try (with_reducible rfl)))
          all_goals (first | rfl | exact ⟨rfl, rfl⟩)
        · exact ⟨Nat.zero_le _, by show (0 : Int) ≤ r.ps.length; omega, fun j hj => by obtain rfl : j = 0 := by omega
                                                                                       show (r.ps.length : Int) ≤ 400; omega⟩
        · rintro k ⟨hk1, hk2, hk3⟩
          (refine w_go ?_)
          (apply Wp.cond; (exact w_ev))
          · intro hk4
            have hk4 : k < r.ts.length := by simpa using hk4
            obtain ⟨s1, s2⟩ := prN_step hv hk4 hk2 (hk3 k (Nat.le_refl _))
            have hs : prN r (k + 1) = prN r k * (r.ts.getD k th0).ss := rfl
            generalize hx : r.ts.getD k th0 = x at hs
            generalize hn : prN r (k + 1) = y at *
            have hw : IntKind.i64.wrap (prN r k * x.ss) = y := by rw [← hs]; exact wI (by omega) (by omega)
            (refine x_go (zc @hx @hw) ?_)
            (apply Wp.cond; (exact x_ev (zc @hx @hw)))
            · intro hq
              (refine x_go (zc @hx @hw) ?_)
              (first | exact x_ret (zc @hx @hw) | refine x_retZ (zc @hx @hw) ?_)
            · intro hq
              have hq : y ≤ 400 := by simpa using hq
              (refine x_go (zc @hx @hw) ?_)
              refine ⟨k + 1, ?_, ⟨by omega, by rw [hn]; exact s1, fun j hj => ?_⟩, by omega⟩
              · simp only [hn]
                (refine Le.of ?_ ?_ rfl rfl <;> (try simp only [push_cast, seval, hx, hw]) <;> (try (with_reducible rfl)))
              · by_cases hjk : j = k + 1
                · subst hjk; rw [hn]; exact hq
                · exact hk3 j (by omega)
          · intro hk4
            obtain rfl : k = r.ts.length := by
              have : ¬ k < r.ts.length := by simpa using hk4
              omega
            exfalso
            obtain ⟨j, j1, j2⟩ := hex
            have := hk3 (j + 1) (by omega)
            omega
      · have hno : ∀ k, k < r.ts.length → prN r (k + 1) ≤ 400 := fun k hk => by
          rcases Int.lt_or_le 400 (prN r (k + 1)) with h | h
          · exact absurd ⟨k, hk, h⟩ hex
          · exact h
        refine ⟨decide (4 < (r.ps.length : Int)) || decide (3 < (r.pp.length : Int)) || decide (3200 < prN r r.ts.length * 8), ?_, fun _ => rfl⟩
        unfold rmA rmC at *
        (refine Spec.bd 0 Tryz.func13 Tryz.results13 Tryz.ntmps13 ?_; simp only [entry, zipArgs, Nat.reduceAdd])
        (refine w_go ?_)
        (apply Run.pureFP; (exact w_ev); (exact (Enters.of Tryz.func20 rfl rfl)); (exact f1); (exact w_al); (try dsimp only [putA, optG]))
        (refine w_go ?_)
        (apply Run.pureFP; (exact w_ev); (exact (Enters.of Tryz.func44 rfl rfl)); (exact c1); (exact w_al); (try dsimp only [putA, optG]))
        (refine w_gg ?_)
        (refine w_fzP (slq 1) ?_)
        (refine w_gg ?_)
        refine Wp.loop (fun k : Nat => { t := [(1, .ref [.strs r.ps, .lst 4 (r.ts.map thA), .lst 3 (r.pp.map ppA), .lst 3 (r.wy.map wyA), .lst 8 (r.ac.map acA), .lst 3 (r.au.map auA), .int r.n, .lst 3 (r.goal.map ltA)] 0), (3, .int (prN r k)), (4, .int k)], m := [⟨1, .row 8 []⟩], n := 49 }) (fun k => k ≤ r.ts.length ∧ 0 ≤ prN r k ∧ prN r k ≤ 400) (fun k => r.ts.length - k) 0 ?_ ?_ ?_
        · (refine Le.of ?_ ?_ rfl rfl <;> (try simp only [push_cast, seval]) <;> (try (with_reducible rfl)))
          all_goals (first | rfl | exact ⟨rfl, rfl⟩)
        · exact ⟨Nat.zero_le _, by show (0 : Int) ≤ r.ps.length; omega, by show (r.ps.length : Int) ≤ 400; omega⟩
        · rintro k ⟨hk1, hk2, hk3⟩
          (refine w_go ?_)
          (apply Wp.cond; (exact w_ev))
          · intro hk4
            have hk4 : k < r.ts.length := by simpa using hk4
            obtain ⟨s1, s2⟩ := prN_step hv hk4 hk2 hk3
            have s3 := hno k hk4
            have hs : prN r (k + 1) = prN r k * (r.ts.getD k th0).ss := rfl
            generalize hx : r.ts.getD k th0 = x at hs
            generalize hn : prN r (k + 1) = y at *
            have hw : IntKind.i64.wrap (prN r k * x.ss) = y := by rw [← hs]; exact wI (by omega) (by omega)
            have e1 : decide (400 < y) = false := decide_eq_false (by omega)
            (refine x_gg (zc @hx (zc @hw @e1)) ?_)
            refine ⟨k + 1, ?_, ⟨by omega, by rw [hn]; exact s1, by rw [hn]; exact s3⟩, by omega⟩
            simp only [hn]
            (refine Le.of ?_ ?_ rfl rfl <;> (try simp only [push_cast, seval, hx, hw, e1]) <;> (try (with_reducible rfl)))
          · intro hk4
            obtain rfl : k = r.ts.length := by
              have : ¬ k < r.ts.length := by simpa using hk4
              omega
            generalize prN r r.ts.length = y at *
            have hw : IntKind.i64.wrap (y * 8) = y * 8 := wI (by omega) (by omega)
            (refine x_gg @hw ?_)
            (first | exact x_ret @hw | refine x_retZ @hw ?_)
    · have e2 : decide (chE r = 0) = false := decide_eq_false hch
      refine ⟨false, ?_, fun _ => rfl⟩
      generalize chE r = e at *
      unfold rmA rmC at *
      (refine Spec.bd 0 Tryz.func13 Tryz.results13 Tryz.ntmps13 ?_; simp only [entry, zipArgs, Nat.reduceAdd])
      (refine x_go (zc @e2 @Bool.not_false) ?_)
      (apply Run.pureFP; (exact x_ev (zc @e2 @Bool.not_false)); (exact (Enters.of Tryz.func20 rfl rfl)); (exact f1); (exact x_al (zc @e2 @Bool.not_false)); (try dsimp only [putA, optG]))
      (refine x_go (zc @e2 @Bool.not_false) ?_)
      (apply Run.pureFP; (exact x_ev (zc @e2 @Bool.not_false)); (exact (Enters.of Tryz.func44 rfl rfl)); (exact c1); (exact x_al (zc @e2 @Bool.not_false)); (try dsimp only [putA, optG]))
      (refine x_gg (zc @e2 @Bool.not_false) ?_)
      (apply Run.pureFP; (exact x_ev (zc @e2 @Bool.not_false)); (exact (Enters.of Tryz.func20 rfl rfl)); (exact f1); (exact x_al (zc @e2 @Bool.not_false)); (try dsimp only [putA, optG]))
      (refine x_gg (zc @e2 @Bool.not_false) ?_)
      (first | exact x_ret (zc @e2 @Bool.not_false) | refine x_retZ (zc @e2 @Bool.not_false) ?_)
end Go.Proofs.Tryz
