/- A part of the proof of ResetLeast: contracts of functions, with plain laws that they need. -/
import Derived.Test.YtjhljokghikamaaGreatDoorVgR43J
set_option linter.all false
set_option maxHeartbeats 64000000
namespace Go.Proofs.Tryz
open Go.Vg
section
variable (r : Rm) (f : St) (pl : List Int)
abbrev sdC (x : Sd) : AV := .agg [.ints x.ts, .ints x.pp, .ints pl, .int x.at_]
def sdL (S : SL Sd) : List AV := S.map fun p => sdC pl p.1
theorem sdL_len (S : SL Sd) : (sdL pl S).length = S.length := by simp [sdL]
theorem sdL_getD {S : SL Sd} {i : Nat} (d : AV) (h : i < S.length) : (sdL pl S).getD i d = sdC pl (sc S i) := by simp [sdL, h, sc]
theorem sdL_snoc (S : SL Sd) (p : Sd × Nat × Nat) : sdL pl (S ++ [p]) = sdL pl S ++ [sdC pl p.1] := by simp [sdL]
def nxI (S : SL Sd) (j k : Nat) : List Int := (List.range k).map fun t => if canB r f (sdS pl (sc S j)) (sc S j).at_ ((tkL r).getD t tk0) = true then (rI (nxR r f pl) S j t : Int) else -1
theorem nxI_len (S : SL Sd) (j k : Nat) : (nxI r f pl S j k).length = k := by simp [nxI]
theorem nxI_succ (S : SL Sd) (j k : Nat) : nxI r f pl S j (k + 1) = nxI r f pl S j k ++ [if canB r f (sdS pl (sc S j)) (sc S j).at_ ((tkL r).getD k tk0) = true then (rI (nxR r f pl) S j k : Int) else -1] := by simp [nxI, List.range_succ]
theorem nxI_getD {S : SL Sd} {j k t : Nat} (h : t < k) : (nxI r f pl S j k).getD t 0 = if canB r f (sdS pl (sc S j)) (sc S j).at_ ((tkL r).getD t tk0) = true then (rI (nxR r f pl) S j t : Int) else -1 := by simp [nxI, h]
def nxL (S : SL Sd) (i : Nat) : List (List Int) := (List.range i).map fun j => nxI r f pl S j (tkL r).length
theorem nxL_len (S : SL Sd) (i : Nat) : (nxL r f pl S i).length = i := by simp [nxL]
theorem nxL_succ (S : SL Sd) (i : Nat) : nxL r f pl S (i + 1) = nxL r f pl S i ++ [nxI r f pl S i (tkL r).length] := by simp [nxL, List.range_succ]
theorem nxL_getD {S : SL Sd} {i j : Nat} (h : j < i) : (nxL r f pl S i).getD j [] = nxI r f pl S j (tkL r).length := by simp [nxL, h]
variable {r f pl}
theorem nxI_old {S : SL Sd} {Q : QL Sd} {x0 : Sd} {i s j k : Nat} (h1 : SQ S Q) (h2 : BI (tkL r).length (nxR r f pl) x0 Q i s) (hj : j < S.length) (hk : j < i ∧ k ≤ (tkL r).length ∨ j = i ∧ k ≤ s ∧ s ≤ (tkL r).length) (p : Sd × Nat × Nat) : nxI r f pl (S ++ [p]) j k = nxI r f pl S j k := by
 unfold nxI
 refine List.map_congr_left fun t ht => ?_
 have ht := List.mem_range.1 ht
 have e1 : sc (S ++ [p]) j = sc S j := by unfold sc; rw [sc_old hj]
 unfold rI
 rw [e1]
 obtain ⟨m, m1, m2⟩ := h2.don j t (by rw [← h1.len]; exact hj) (by omega) (by omega)
 have hsk : sk S (nxR r f pl (sc S j) t) = true := sk_iff.2 ⟨m, by rw [h1.len]; exact m1, by rw [h1.c, m2, h1.c]⟩
 rw [ix_old hsk]
theorem nxL_old {S : SL Sd} {Q : QL Sd} {x0 : Sd} {i s : Nat} (h1 : SQ S Q) (h2 : BI (tkL r).length (nxR r f pl) x0 Q i s) (hi : i ≤ S.length) (p : Sd × Nat × Nat) : nxL r f pl (S ++ [p]) i = nxL r f pl S i := by
 unfold nxL
 refine List.map_congr_left fun j hj => ?_
 have hj := List.mem_range.1 hj
 exact nxI_old h1 h2 (by omega) (.inl ⟨hj, Nat.le_refl _⟩) p
end
theorem set_mid {a b : List Int} {k : Nat} {z : Int} (h : a.length = k) (hb : 0 < b.length) : (a ++ b).set k z = a ++ z :: b.drop 1 := by
 subst h
 cases b with
 | nil => simp at hb
 | cons y b => simp
theorem goodL_dk {r : Rm} (hv : RV r) {pl : List Int} {S : SL Sd} (h : allOk r pl S) : goodL Tryz.prog 9 (mpK dkK S) = true := by
 unfold mpK
 have hL : ∀ j ∈ List.range S.length, (dkK (sc S j)).size ≤ 1000 := fun j hj => by have := dk_size hv (h j (List.mem_range.1 hj)); omega
 generalize List.range S.length = L at hL
 induction L with
 | nil => rfl
 | cons a l ih =>
  simp only [List.map_cons, goodL, goodStr (hL a (by simp))]
  exact ih fun j hj => hL j (by simp [hj])
theorem rleast_err {r : Rm} (hz : Sz r) {s : St} (hs : Zs s) (h1 : begE r s ≠ 0) : Pure Tryz.prog 19 [rmA r, stA s] (.tup [.emp, .int (begE r s)]) := by
 have c0 := rCheckState_pure hz hs
 have e2 : decide (begE r s = 0) = false := decide_eq_false h1
 generalize begE r s = e at *
 unfold rmA rmC at *
 unfold stA at *
 (refine Spec.bd 0 Tryz.func19 Tryz.results19 Tryz.ntmps19 ?_; simp only [entry, zipArgs, Nat.reduceAdd])
 ((refine x_pre (zc @e2 @Bool.not_false) ?_); (iterate 4 (refine x_nr (zc @e2 @Bool.not_false) ?_)); (refine x_nil (zc @e2 @Bool.not_false) ?_))
 (refine x_fzP (zc @e2 @Bool.not_false) (slq 2) ?_)
 (refine x_fzP (zc @e2 @Bool.not_false) (slq 3) ?_)
 (refine x_go (zc @e2 @Bool.not_false) ?_)
 (apply Run.pureP; (exact x_ev (zc @e2 @Bool.not_false)); (exact (Enters.of Tryz.func58 rfl rfl)); (exact c0); (exact x_al (zc @e2 @Bool.not_false)); (try dsimp only [putA, optG]))
 (refine x_gg (zc @e2 @Bool.not_false) ?_)
 (first | exact x_ret (zc @e2 @Bool.not_false) | refine x_retZ (zc @e2 @Bool.not_false) ?_)
theorem rleast_ok {r : Rm} (hz : Sz r) {s : St} (hs : Zs s) (h : begE r s = 0) : Pure Tryz.prog 19 [rmA r, stA s] (.tup [.lst 3 ((leT r s).2.map tkA), .int (leT r s).1]) := by
 obtain ⟨hb0, hb1⟩ := begE_zero h
 obtain ⟨hv, hs2, hch⟩ := cs_zero hb1
 have hf := bg_SV hb0
 have c0 := rCheckState_pure hz hs
 rw [h] at c0
 have c1 := rfirst_pure hz
 unfold bgA at c1
 rw [hb0, if_pos rfl] at c1
 have c2 := rtasks_pure hv
 have hx0 : SdOk r s.pl (lsB r s) := lsB_ok hv hs2
 have hkp : ∀ x : Sd, SdOk r s.pl x → Pure Tryz.prog 61 [sdC s.pl x] (.str (dkK x)) := fun x hx => by
  obtain ⟨q1, q2, q3⟩ := dk_inR hv hx
  have h1 : x.ts.length = r.ts.length := hx.1.ts
  have h2 : x.pp.length = r.pp.length := hx.1.pp
  have := hz.ts; have := hz.pp
  exact rkey_pure s.pl x q1 (by omega) (by omega) q2 q3
 have hcn : ∀ x : Sd, SdOk r s.pl x → ∀ t, _ := fun x hx t => rcan_pure hz hv hf hx (SV.zs hz hv hx.1) t
 have hov : ∀ x : Sd, SdOk r s.pl x → _ := fun x hx => over_pure (bgS r) s.pl x (by have : x.ts.length = _ := hx.1.ts; have := hz.ts; omega) (by have : x.pp.length = _ := hx.1.pp; have := hz.pp; omega)
 have hk0 := hkp _ hx0
 have htl : (tkL r).length ≤ 200 := by
  have := tkT_len r.ts (fun x hx => (hv.tsv x hx).2.1.2) r.ts.length (Nat.le_refl _)
  have := hv.wy; have := hv.ts; have := hv.pp
  unfold tkL
  simp only [List.length_append, tkW_len, tkP_len]
  omega
 obtain ⟨tot, htot⟩ : ∃ tot, lsR r s = tot := ⟨_, rfl⟩
 unfold leT
 rw [htot]
 unfold lsR at htot
 have hS0 : sdL s.pl [(lsB r s, 0, 0)] = [sdC s.pl (lsB r s)] := rfl
 have hM0 : mpK dkK [(lsB r s, 0, 0)] = [(.string (dkK (lsB r s)), .int 0)] := rfl
 have hA0 : allOk r s.pl [(lsB r s, 0, 0)] := fun j hj => by
  have : j = 0 := by simpa using hj
  subst this; exact hx0
 have hkB : Maps.Keyed Tryz.prog 9 = True := eq_true keyedStr
 have hek := fun x : Sd => eqKey_str (dkK x) (dkK x)
 have hgk : ∀ x : Sd, SdOk r s.pl x → goodK Tryz.prog 9 (.string (dkK x)) = true := fun x hx => goodStr (by have := dk_size hv hx; omega)
 have hgl : ∀ S : SL Sd, allOk r s.pl S → goodL Tryz.prog 9 (mpK dkK S) = true := fun S h => goodL_dk hv h
 have hgk0 := hgk _ hx0
 have hTl : ((tkL r).map tkA).length = (tkL r).length := List.length_map _
 have hTg : ∀ k, k < (tkL r).length → ∀ d, ((tkL r).map tkA).getD k d = tkA ((tkL r).getD k tk0) := fun k hk d => getD_tk d hk
 have hTo := okL_tk 0 (tkL r)
 have hx00 : lsB r s = ⟨s.ts, s.pp, 0⟩ := rfl
 generalize bgS r = f at *
 generalize hTA : (tkL r).map tkA = TA at *
 unfold rmA rmC at *
 unfold stA at *
 unfold sdA at hcn hov
 refine Spec.frz ?_
 (refine Spec.of_bodyA Tryz.func19 rfl (by rw [Tryz.ntmps19]; simp) ?_; rw [Tryz.results19, Tryz.ntmps19]; simp only [entry, zipArgs, Nat.reduceAdd])
 ((refine x_pre (zc @hTl @hTo) ?_); (iterate 4 (refine x_nr (zc @hTl @hTo) ?_)); (refine x_nil (zc @hTl @hTo) ?_))
 (refine x_fzP (zc @hTl @hTo) (slq 2) ?_)
 (refine x_fzP (zc @hTl @hTo) (slq 3) ?_)
 (refine x_go (zc @hTl @hTo) ?_)
 (apply Run.pureP; (exact x_ev (zc @hTl @hTo)); (exact (Enters.of Tryz.func58 rfl rfl)); (exact c0); (exact x_al (zc @hTl @hTo)); (try dsimp only [putA, optG]))
 (refine x_gg (zc @hTl @hTo) ?_)
 (apply Run.pureFP; (exact x_ev (zc @hTl @hTo)); (exact (Enters.of Tryz.func59 rfl rfl)); (exact c1); (exact x_al (zc @hTl @hTo)); (try dsimp only [putA, optG]))
 (refine x_go (zc @hTl @hTo) ?_)
 (apply Run.pureFP; (exact x_ev (zc @hTl @hTo)); (exact (Enters.of Tryz.func60 rfl rfl)); (exact c2); (exact x_al (zc @hTl @hTo)); (try dsimp only [putA, optG]))
 (refine x_nr (zc @hTl @hTo) ?_)
 (apply Run.nil; dsimp only [sQ, tQ, bQ])
 (refine Wp.vacs 2 ?_; (try simp only [List.replicate_succ, List.replicate_zero, List.cons_append, List.nil_append]))
 (repeat (first | apply Wp.seq | apply Wp.block | (apply Wp.skip; dsimp only [sQ, tQ, bQ])))
 (refine x_beg (zc @hTl @hTo) ?_)
 (refine x_nr (zc @hTl @hTo) ?_)
 (refine x_nr (zc @hTl @hTo) ?_)
 (apply Run.alcAt 3; (exact x_ev (zc @hTl @hTo)); ((try simp only [push_cast, seval, hTl, hTo]) <;> exact sT); exact rfl; (try simp only [push_cast, seval, hTl, hTo]))
 (repeat (refine x_nr (zc @hTl @hTo) ?_))
 (apply Run.nil; dsimp only [sQ, tQ, bQ])
 (repeat (first | apply Wp.seq | apply Wp.block | (apply Wp.skip; dsimp only [sQ, tQ, bQ])))
 (refine x_beg (zc @hTl @hTo) ?_)
 (apply Run.mapAt (4); (first | ((exact x_ev (zc @hTl @hTo))) | exact rfl); (try simp only [push_cast, seval, hTl, hTo]))
 (repeat (refine x_nr (zc @hTl @hTo) ?_))
 (apply Run.pureFP; (exact x_ev (zc @hTl @hTo)); (exact (Enters.of Tryz.func61 rfl rfl)); (exact hk0); (exact x_al (zc @hTl @hTo)); (try dsimp only [putA, optG]))
 (refine x_go (zc @hTl (zc @hTo (zc @hkB (zc @hgk0 @hek)))) ?_)
 apply Wp.adopt 12 1; (exact x_ev (zc @hTl (zc @hTo (zc @hkB (zc @hgk0 @hek)))))
 (refine Wp.vacs 2 ?_; (try simp only [List.replicate_succ, List.replicate_zero, List.cons_append, List.nil_append]))
 generalize s.pl = pl at *
 have hx0' : SdOk r pl (lsB r s) := hx0
 generalize lsB r s = x0 at *
 refine Wp.loop (fun (q : Nat × SL Sd × (Nat × Kind) × (Nat × Kind)) => { t := [(2, .ref [.strs r.ps, .lst 4 (r.ts.map thA), .lst 3 (r.pp.map ppA), .lst 3 (r.wy.map wyA), .lst 8 (r.ac.map acA), .lst 3 (r.au.map auA), .int r.n, .lst 3 (r.goal.map ltA)] 0), (7, .optr 2 0 0 0), (9, .lst 3 TA), (10, .osl 3 q.2.1.length 0 q.2.1.length), (11, .omap 4 1), (12, .osl 5 q.1 0 q.1), (13, .int q.1)], m := [⟨1, .row 8 []⟩, ⟨1, .row 3 []⟩, ⟨0, .row 3 [.agg [.ints f.ts, .ints f.pp, .ints f.pl]]⟩, ⟨q.2.1.length, .row 4 (sdL pl q.2.1)⟩, ⟨1, .mp (mpK dkK q.2.1)⟩, ⟨q.1, .row 1 ((nxL r f pl q.2.1 q.1).map AV.ints)⟩, ⟨q.2.2.1.1, q.2.2.1.2⟩, ⟨q.2.2.2.1, q.2.2.2.2⟩], n := 236 })
  (fun q => q.1 ≤ q.2.1.length ∧ q.2.1.length ≤ 4000 ∧ allOk r pl q.2.1 ∧ srun (tkL r).length (nxR r f pl) 4000 (4001 - q.1) q.1 q.2.1 = tot ∧ ∃ Q, SQ q.2.1 Q ∧ BI (tkL r).length (nxR r f pl) x0 Q q.1 0) (fun q => 4001 - q.1) (0, [(x0, 0, 0)], (0, .row 1 []), (0, .row 1 [])) ?_ ?_ ?_
 ·simp only [hS0, hM0, hx00]
  (refine Le.of ?_ ?_ rfl rfl <;> (try simp only [push_cast, seval, hTl, hTo, hkB, hgk0, hek]) <;> (try (with_reducible rfl)))
  all_goals (first | rfl | exact ⟨rfl, rfl⟩)
 ·exact ⟨Nat.zero_le _, by simp, hA0, htot, [(x0, [])], SQ.start x0, BI.start (T := (tkL r).length) (R := nxR r f pl) x0⟩
 ·clear hS0 hM0 hgk0 hA0 hk0 c0 c1 c2 htot
  rintro ⟨i, S, ⟨v6, k6⟩, v7, k7⟩ ⟨hi1, hi2, hi3, hi4, Q0, hQ1, hQ2⟩
  simp only at hi1 hi2 hi3 hi4 hQ1 hQ2
  (refine x_go (zc @hTl (zc @hTo (zc @hkB @hek))) ?_)
  (apply Wp.cond; (exact x_ev (zc @hTl (zc @hTo (zc @hkB @hek)))))
  ·intro hc
   have hc : i < S.length := by simpa using hc
   have hrun : (srow (nxR r f pl) 4000 S i (tkL r).length).bind (srun (tkL r).length (nxR r f pl) 4000 (4001 - (i + 1)) (i + 1)) = tot := by
    rw [← hi4, show 4001 - i = (4001 - (i + 1)) + 1 by omega]
    show _ = if i < S.length then _ else _
    rw [if_pos hc]
   have hx := hi3 i hc
   (refine x_gs (zc @hTl (zc @hTo (zc @hkB @hek))) ?_)
   (apply Run.alcAt 6; (exact x_ev (zc @hTl (zc @hTo (zc @hkB @hek)))); ((try simp only [push_cast, seval, hTl, hTo, hkB, hek]) <;> exact sT); exact rfl; (try simp only [push_cast, seval, hTl, hTo, hkB, hek]))
   (refine x_go (zc @hTl (zc @hTo (zc @hkB @hek))) ?_)
   refine Wp.loop (fun (q : Nat × SL Sd × Nat × Kind) => { t := [(2, .ref [.strs r.ps, .lst 4 (r.ts.map thA), .lst 3 (r.pp.map ppA), .lst 3 (r.wy.map wyA), .lst 8 (r.ac.map acA), .lst 3 (r.au.map auA), .int r.n, .lst 3 (r.goal.map ltA)] 0), (7, .optr 2 0 0 0), (9, .lst 3 TA), (10, .osl 3 q.2.1.length 0 q.2.1.length), (11, .omap 4 1), (12, .osl 5 i 0 i), (13, .int i), (14, .osl 6 (v6 + 1) 0 (tkL r).length), (15, .int q.1)], m := [⟨1, .row 8 []⟩, ⟨1, .row 3 []⟩, ⟨0, .row 3 [.agg [.ints f.ts, .ints f.pp, .ints f.pl]]⟩, ⟨q.2.1.length, .row 4 (sdL pl q.2.1)⟩, ⟨1, .mp (mpK dkK q.2.1)⟩, ⟨i, .row 1 ((nxL r f pl q.2.1 i).map AV.ints)⟩, ⟨v6 + 1, .row 1 ((nxI r f pl q.2.1 i q.1 ++ List.replicate ((tkL r).length - q.1) 0).map AV.int)⟩, ⟨q.2.2.1, q.2.2.2⟩], n := 236 })
    (fun q => q.1 ≤ (tkL r).length ∧ srow (nxR r f pl) 4000 S i q.1 = some q.2.1 ∧ q.2.1.length ≤ 4000 ∧ allOk r pl q.2.1 ∧ ∃ Q, SQ q.2.1 Q ∧ BI (tkL r).length (nxR r f pl) x0 Q i q.1) (fun q => (tkL r).length - q.1) (0, S, v7, k7) ?_ ?_ ?_
   ·(refine Le.of ?_ ?_ rfl rfl <;> (try simp only [push_cast, seval, hTl, hTo, hkB, hek]) <;> (try (with_reducible rfl)))
    all_goals (first | rfl | (simp [nxI]; done))
   ·exact ⟨Nat.zero_le _, rfl, hi2, hi3, Q0, hQ1, hQ2⟩
   ·rintro ⟨k, S', v7, k7⟩ ⟨hk1, hk2, hk3, hk4, Q, hq1, hq2⟩
    simp only at hk1 hk2 hk3 hk4 hq1 hq2
    (refine x_go (zc @hTl (zc @hTo (zc @hkB @hek))) ?_)
    (apply Wp.cond; (exact x_ev (zc @hTl (zc @hTo (zc @hkB @hek)))))
    ·intro hk5
     have hk5 : k < (tkL r).length := by simpa using hk5
     have hlen2 := sdL_len pl S'
     have hold := srow_old k hk2
     have hle := (srow_len _ k hk2).1
     have hsi : sc S' i = sc S i := by unfold sc; rw [hold i hc]
     have hgd := fun d => sdL_getD pl (S := S') d (show i < S'.length by omega)
     rw [hsi] at hgd
     have hst := srow_succ (nxR r f pl) 4000 S i k hk2
     have htg := hTg k hk5
     have hns := nxI_succ r f pl S' i k
     have hnl := nxI_len r f pl S' i k
     rw [hsi] at hns
     have hnx : nxR r f pl (sc S i) k = if canB r f (sdS pl (sc S i)) (sc S i).at_ ((tkL r).getD k tk0) = true then nxT r f pl (sc S i) ((tkL r).getD k tk0) else sc S i := rfl
     have hrI : rI (nxR r f pl) S' i k = ixS S' (nxR r f pl (sc S i) k) := by unfold rI; rw [hsi]
     have c4 := hcn (sc S i) hx ((tkL r).getD k tk0)
     have hq3 : ∀ S'', srow (nxR r f pl) 4000 S i (k + 1) = some S'' → ∃ Q, SQ S'' Q ∧ BI (tkL r).length (nxR r f pl) x0 Q i (k + 1) := fun S'' h => ⟨_, hq1.step (nxR r f pl) (M := 4000) (by omega) (by rw [← hst]; exact h), hq2.step (nxR r f pl) (by rw [← hq1.len]; omega) hk5⟩
     unfold sstep at hst
     rw [hsi] at hst
     obtain ⟨t, ht⟩ : ∃ t, (tkL r).getD k tk0 = t := ⟨_, rfl⟩
     rw [ht] at hnx hns c4
     simp only [ht] at htg
     have hset : ∀ z : Int, (nxI r f pl S' i k ++ List.replicate ((tkL r).length - k) 0).set k z = nxI r f pl S' i k ++ z :: List.replicate ((tkL r).length - (k + 1)) 0 := fun z => by
      rw [set_mid hnl (by simp; omega)]
      congr 2
      rw [List.drop_replicate]; congr 1
     have hWl : (nxI r f pl S' i k ++ List.replicate ((tkL r).length - k) 0).length = (tkL r).length := by rw [List.length_append, hnl, List.length_replicate]; omega
     obtain ⟨W, hW⟩ : ∃ W, nxI r f pl S' i k ++ List.replicate ((tkL r).length - k) 0 = W := ⟨_, rfl⟩
     rw [hW] at hset hWl ⊢
     generalize hp : sc S i = p at *
     cases hcb : canB r f (sdS pl p) p.at_ t with
     | false =>
      rw [hcb, if_neg (by simp)] at c4 hnx hns
      have hskp : sk S' p = true := sk_iff.2 ⟨i, by omega, hsi⟩
      rw [hnx, if_pos hskp] at hst
      unfold tkA at htg c4
      (refine x_go (zc @hTl (zc @hTo (zc @hkB (zc @hek (zc @htg (zc @hgd (zc @hlen2 @hWl))))))) ?_)
      (apply Wp.runGS 7 mixed; (dsimp only [List.map] <;> exact rfl); exact rfl; kernel_rfl; (dsimp only [List.take] <;> exact rfl); (dsimp only [List.drop] <;> exact rfl); (((refine x_gp (zc @hTl (zc @hTo (zc @hkB (zc @hek (zc @htg (zc @hgd (zc @hlen2 @hWl))))))) ?_); (apply AbsG.callF; exact rfl; (exact x_ev (zc @hTl (zc @hTo (zc @hkB (zc @hek (zc @htg (zc @hgd (zc @hlen2 @hWl)))))))); (exact (Enters.of Tryz.func62 rfl rfl)); (exact c4); (exact x_al (zc @hTl (zc @hTo (zc @hkB (zc @hek (zc @htg (zc @hgd (zc @hlen2 @hWl)))))))); (try dsimp only [upd, optG])); (refine x_gp (zc @hTl (zc @hTo (zc @hkB (zc @hek (zc @htg (zc @hgd (zc @hlen2 @hWl))))))) ?_); (apply AbsG.new 0; exact rfl; (exact x_ev (zc @hTl (zc @hTo (zc @hkB (zc @hek (zc @htg (zc @hgd (zc @hlen2 @hWl)))))))); ((try simp only [push_cast, seval, hTl, hTo, hkB, hek, htg, hgd, hlen2, hWl]) <;> exact sT); exact rfl; dsimp only [upd, alcV, List.set, List.length_cons, List.length_nil, Nat.reduceAdd]); (apply AbsG.eff 0; exact rfl; exact rfl; (exact x_ev (zc @hTl (zc @hTo (zc @hkB (zc @hek (zc @htg (zc @hgd (zc @hlen2 @hWl)))))))); ((try simp only [push_cast, seval, hTl, hTo, hkB, hek, htg, hgd, hlen2, hWl]) <;> exact sT); dsimp only [upd, List.set, List.length_cons, List.length_nil, Nat.reduceAdd]); (refine x_gp (zc @hTl (zc @hTo (zc @hkB (zc @hek (zc @htg (zc @hgd (zc @hlen2 @hWl))))))) ?_)); exact AbsG.nil); kernel_rfl; (try dsimp only [List.cons_append, List.nil_append]))
      (refine x_gg (zc @hTl (zc @hTo (zc @hkB (zc @hek (zc @htg (zc @hgd (zc @hlen2 @hWl))))))) ?_)
      refine ⟨(k + 1, S', v7 + 1, .row 4 [.agg [.ints p.ts, .ints p.pp, .ints pl, .int p.at_]]), ?_, ⟨by simp only; omega, hst, hk3, hk4, hq3 _ hst⟩, by simp only; omega⟩
      simp only [hset, hns, List.append_assoc, List.cons_append, List.nil_append]
      (refine Le.of ?_ ?_ rfl rfl <;> (try simp only [push_cast, seval, hTl, hTo, hkB, hek, htg, hgd, hlen2, hWl]) <;> (try (with_reducible rfl)))
     | true =>
      rw [hcb, if_pos rfl] at c4 hnx hns
      rw [hnx] at hst
      have hy := nx_ok hv hf hx hcb
      have hrIy := hrI
      rw [hnx] at hrIy
      generalize nxT r f pl p t = y at *
      have c7 := hkp y hy
      have hfd := findL_mpK (K := dkK) (S := S') (c := y) fun j hj e => dk_inj hv (hk4 j hj) hy e
      have hset2 : ∀ z : Int, (W.set k (-1)).set k z = W.set k z := fun z => List.set_set ..
      have hWl2 : (W.set k (-1)).length = (tkL r).length := by rw [List.length_set, hWl]
      unfold tkA at htg c4
      cases hsk : sk S' y with
      | true =>
       rw [if_pos hsk] at hst
       rw [hsk, if_pos rfl] at hfd
       (refine x_go (zc @hTl (zc @hTo (zc @hkB (zc @hek (zc @htg (zc @hgd (zc @hlen2 (zc @hWl (zc @hWl2 (zc @hfd (zc (hgk y hy) (zc (hgl S' hk4) @Bool.not_true)))))))))))) ?_)
       (apply Wp.runGS 7 mixed; (dsimp only [List.map] <;> exact rfl); exact rfl; kernel_rfl; (dsimp only [List.take] <;> exact rfl); (dsimp only [List.drop] <;> exact rfl); (((refine x_gp (zc @hTl (zc @hTo (zc @hkB (zc @hek (zc @htg (zc @hgd (zc @hlen2 (zc @hWl (zc @hWl2 (zc @hfd (zc (hgk y hy) (zc (hgl S' hk4) @Bool.not_true)))))))))))) ?_); (apply AbsG.callF; exact rfl; (exact x_ev (zc @hTl (zc @hTo (zc @hkB (zc @hek (zc @htg (zc @hgd (zc @hlen2 (zc @hWl (zc @hWl2 (zc @hfd (zc (hgk y hy) (zc (hgl S' hk4) @Bool.not_true))))))))))))); (exact (Enters.of Tryz.func62 rfl rfl)); (exact c4); (exact x_al (zc @hTl (zc @hTo (zc @hkB (zc @hek (zc @htg (zc @hgd (zc @hlen2 (zc @hWl (zc @hWl2 (zc @hfd (zc (hgk y hy) (zc (hgl S' hk4) @Bool.not_true))))))))))))); (try dsimp only [upd, optG])); (refine x_gp (zc @hTl (zc @hTo (zc @hkB (zc @hek (zc @htg (zc @hgd (zc @hlen2 (zc @hWl (zc @hWl2 (zc @hfd (zc (hgk y hy) (zc (hgl S' hk4) @Bool.not_true)))))))))))) ?_); (apply AbsG.new 0; exact rfl; (exact x_ev (zc @hTl (zc @hTo (zc @hkB (zc @hek (zc @htg (zc @hgd (zc @hlen2 (zc @hWl (zc @hWl2 (zc @hfd (zc (hgk y hy) (zc (hgl S' hk4) @Bool.not_true))))))))))))); ((try simp only [push_cast, seval, hTl, hTo, hkB, hek, htg, hgd, hlen2, hWl, hWl2, hfd, hgk y hy, hgl S' hk4, Bool.not_true]) <;> exact sT); exact rfl; dsimp only [upd, alcV, List.set, List.length_cons, List.length_nil, Nat.reduceAdd]); (apply AbsG.eff 0; exact rfl; exact rfl; (exact x_ev (zc @hTl (zc @hTo (zc @hkB (zc @hek (zc @htg (zc @hgd (zc @hlen2 (zc @hWl (zc @hWl2 (zc @hfd (zc (hgk y hy) (zc (hgl S' hk4) @Bool.not_true))))))))))))); ((try simp only [push_cast, seval, hTl, hTo, hkB, hek, htg, hgd, hlen2, hWl, hWl2, hfd, hgk y hy, hgl S' hk4, Bool.not_true]) <;> exact sT); dsimp only [upd, List.set, List.length_cons, List.length_nil, Nat.reduceAdd]); (refine x_gp (zc @hTl (zc @hTo (zc @hkB (zc @hek (zc @htg (zc @hgd (zc @hlen2 (zc @hWl (zc @hWl2 (zc @hfd (zc (hgk y hy) (zc (hgl S' hk4) @Bool.not_true)))))))))))) ?_)); exact AbsG.nil); kernel_rfl; (try dsimp only [List.cons_append, List.nil_append]))
       (refine x_gg (zc @hTl (zc @hTo (zc @hkB (zc @hek (zc @htg (zc @hgd (zc @hlen2 (zc @hWl (zc @hWl2 (zc @hfd (zc (hgk y hy) (zc (hgl S' hk4) @Bool.not_true)))))))))))) ?_)
       (apply Run.pureFP; (exact x_ev (zc @hTl (zc @hTo (zc @hkB (zc @hek (zc @htg (zc @hgd (zc @hlen2 (zc @hWl (zc @hWl2 (zc @hfd (zc (hgk y hy) (zc (hgl S' hk4) @Bool.not_true))))))))))))); (exact (Enters.of Tryz.func61 rfl rfl)); (exact c7); (exact x_al (zc @hTl (zc @hTo (zc @hkB (zc @hek (zc @htg (zc @hgd (zc @hlen2 (zc @hWl (zc @hWl2 (zc @hfd (zc (hgk y hy) (zc (hgl S' hk4) @Bool.not_true))))))))))))); (try dsimp only [putA, optG]))
       (refine x_gg (zc @hTl (zc @hTo (zc @hkB (zc @hek (zc @htg (zc @hgd (zc @hlen2 (zc @hWl (zc @hWl2 (zc @hfd (zc (hgk y hy) (zc (hgl S' hk4) @Bool.not_true)))))))))))) ?_)
       refine ⟨(k + 1, S', v7 + 1, .row 4 [.agg [.ints y.ts, .ints y.pp, .ints pl, .int y.at_]]), ?_, ⟨by simp only; omega, hst, hk3, hk4, hq3 _ hst⟩, by simp only; omega⟩
       simp only [hns, hrIy, List.append_assoc, List.cons_append, List.nil_append, ← hset]
       (refine Le.of ?_ ?_ rfl rfl <;> (try simp only [push_cast, seval, hTl, hTo, hkB, hek, htg, hgd, hlen2, hWl, hWl2, hfd, hgk y hy, hgl S' hk4, Bool.not_true]) <;> (try (with_reducible rfl)))
       all_goals (simp only [hset2])
      | false =>
       rw [if_neg (by rw [hsk]; simp)] at hst
       rw [hsk, if_neg (by simp)] at hfd
       by_cases hbig : S'.length = 4000
       ·rw [if_pos hbig] at hst
        have e9 : decide ((S'.length : Int) = 4000) = true := decide_eq_true (by omega)
        (refine x_go (zc @hTl (zc @hTo (zc @hkB (zc @hek (zc @htg (zc @hgd (zc @hlen2 (zc @hWl (zc @hWl2 (zc @hfd (zc (hgk y hy) (zc (hgl S' hk4) (zc @Bool.not_false @e9))))))))))))) ?_)
        (apply Wp.runGS 7 mixed; (dsimp only [List.map] <;> exact rfl); exact rfl; kernel_rfl; (dsimp only [List.take] <;> exact rfl); (dsimp only [List.drop] <;> exact rfl); (((refine x_gp (zc @hTl (zc @hTo (zc @hkB (zc @hek (zc @htg (zc @hgd (zc @hlen2 (zc @hWl (zc @hWl2 (zc @hfd (zc (hgk y hy) (zc (hgl S' hk4) (zc @Bool.not_false @e9))))))))))))) ?_); (apply AbsG.callF; exact rfl; (exact x_ev (zc @hTl (zc @hTo (zc @hkB (zc @hek (zc @htg (zc @hgd (zc @hlen2 (zc @hWl (zc @hWl2 (zc @hfd (zc (hgk y hy) (zc (hgl S' hk4) (zc @Bool.not_false @e9)))))))))))))); (exact (Enters.of Tryz.func62 rfl rfl)); (exact c4); (exact x_al (zc @hTl (zc @hTo (zc @hkB (zc @hek (zc @htg (zc @hgd (zc @hlen2 (zc @hWl (zc @hWl2 (zc @hfd (zc (hgk y hy) (zc (hgl S' hk4) (zc @Bool.not_false @e9)))))))))))))); (try dsimp only [upd, optG])); (refine x_gp (zc @hTl (zc @hTo (zc @hkB (zc @hek (zc @htg (zc @hgd (zc @hlen2 (zc @hWl (zc @hWl2 (zc @hfd (zc (hgk y hy) (zc (hgl S' hk4) (zc @Bool.not_false @e9))))))))))))) ?_); (apply AbsG.new 0; exact rfl; (exact x_ev (zc @hTl (zc @hTo (zc @hkB (zc @hek (zc @htg (zc @hgd (zc @hlen2 (zc @hWl (zc @hWl2 (zc @hfd (zc (hgk y hy) (zc (hgl S' hk4) (zc @Bool.not_false @e9)))))))))))))); ((try simp only [push_cast, seval, hTl, hTo, hkB, hek, htg, hgd, hlen2, hWl, hWl2, hfd, hgk y hy, hgl S' hk4, Bool.not_false, e9]) <;> exact sT); exact rfl; dsimp only [upd, alcV, List.set, List.length_cons, List.length_nil, Nat.reduceAdd]); (apply AbsG.eff 0; exact rfl; exact rfl; (exact x_ev (zc @hTl (zc @hTo (zc @hkB (zc @hek (zc @htg (zc @hgd (zc @hlen2 (zc @hWl (zc @hWl2 (zc @hfd (zc (hgk y hy) (zc (hgl S' hk4) (zc @Bool.not_false @e9)))))))))))))); ((try simp only [push_cast, seval, hTl, hTo, hkB, hek, htg, hgd, hlen2, hWl, hWl2, hfd, hgk y hy, hgl S' hk4, Bool.not_false, e9]) <;> exact sT); dsimp only [upd, List.set, List.length_cons, List.length_nil, Nat.reduceAdd]); (refine x_gp (zc @hTl (zc @hTo (zc @hkB (zc @hek (zc @htg (zc @hgd (zc @hlen2 (zc @hWl (zc @hWl2 (zc @hfd (zc (hgk y hy) (zc (hgl S' hk4) (zc @Bool.not_false @e9))))))))))))) ?_)); exact AbsG.nil); kernel_rfl; (try dsimp only [List.cons_append, List.nil_append]))
        (refine x_gg (zc @hTl (zc @hTo (zc @hkB (zc @hek (zc @htg (zc @hgd (zc @hlen2 (zc @hWl (zc @hWl2 (zc @hfd (zc (hgk y hy) (zc (hgl S' hk4) (zc @Bool.not_false @e9))))))))))))) ?_)
        (apply Run.pureFP; (exact x_ev (zc @hTl (zc @hTo (zc @hkB (zc @hek (zc @htg (zc @hgd (zc @hlen2 (zc @hWl (zc @hWl2 (zc @hfd (zc (hgk y hy) (zc (hgl S' hk4) (zc @Bool.not_false @e9)))))))))))))); (exact (Enters.of Tryz.func61 rfl rfl)); (exact c7); (exact x_al (zc @hTl (zc @hTo (zc @hkB (zc @hek (zc @htg (zc @hgd (zc @hlen2 (zc @hWl (zc @hWl2 (zc @hfd (zc (hgk y hy) (zc (hgl S' hk4) (zc @Bool.not_false @e9)))))))))))))); (try dsimp only [putA, optG]))
        (refine x_gg (zc @hTl (zc @hTo (zc @hkB (zc @hek (zc @htg (zc @hgd (zc @hlen2 (zc @hWl (zc @hWl2 (zc @hfd (zc (hgk y hy) (zc (hgl S' hk4) (zc @Bool.not_false @e9))))))))))))) ?_)
        (first | exact x_retA (zc @hTl (zc @hTo (zc @hkB (zc @hek (zc @htg (zc @hgd (zc @hlen2 (zc @hWl (zc @hWl2 (zc @hfd (zc (hgk y hy) (zc (hgl S' hk4) (zc @Bool.not_false @e9))))))))))))) | refine x_retAZ (zc @hTl (zc @hTo (zc @hkB (zc @hek (zc @htg (zc @hgd (zc @hlen2 (zc @hWl (zc @hWl2 (zc @hfd (zc (hgk y hy) (zc (hgl S' hk4) (zc @Bool.not_false @e9))))))))))))) ?_)
        have hn := srow_none hst ((tkL r).length - (k + 1))
        rw [show k + 1 + ((tkL r).length - (k + 1)) = (tkL r).length by omega] at hn
        rw [hn] at hrun
        subst hrun
        exact Vw.tup (.cons .emp (.cons (Vw.self trivial) .nil))
       ·rw [if_neg hbig] at hst
        have e9 : decide ((S'.length : Int) = 4000) = false := decide_eq_false (by omega)
        have hup : updL (mpK dkK S') (.string (dkK y)) (.int (S'.length : Int)) = mpK dkK (S' ++ [(y, i, k)]) := by
         rw [updL_new _ _ _ hfd, mpK_snoc]
        have htk : (sdL pl S').take S'.length = sdL pl S' := List.take_of_length_le (by omega)
        have hno1 := nxL_old hq1 hq2 (by omega) (y, i, k)
        have hno2 := nxI_old hq1 hq2 (j := i) (k := k) (by omega) (.inr ⟨rfl, Nat.le_refl _, by omega⟩) (y, i, k)
        have hno3 := nxI_succ r f pl (S' ++ [(y, i, k)]) i k
        have hsi2 : sc (S' ++ [(y, i, k)]) i = p := by unfold sc; rw [sc_old (by omega)]; exact hsi
        have hrI3 : rI (nxR r f pl) (S' ++ [(y, i, k)]) i k = S'.length := by unfold rI; rw [hsi2, hnx, ix_new hsk]
        rw [hno2, hsi2, ht, hcb, if_pos rfl, hrI3] at hno3
        (refine x_go (zc @hTl (zc @hTo (zc @hkB (zc @hek (zc @htg (zc @hgd (zc @hlen2 (zc @hWl (zc @hWl2 (zc @hfd (zc (hgk y hy) (zc (hgl S' hk4) (zc @Bool.not_false (zc @e9 (zc @hup @htk))))))))))))))) ?_)
        (apply Wp.runGS 7 mixed; (dsimp only [List.map] <;> exact rfl); exact rfl; kernel_rfl; (dsimp only [List.take] <;> exact rfl); (dsimp only [List.drop] <;> exact rfl); (((refine x_gp (zc @hTl (zc @hTo (zc @hkB (zc @hek (zc @htg (zc @hgd (zc @hlen2 (zc @hWl (zc @hWl2 (zc @hfd (zc (hgk y hy) (zc (hgl S' hk4) (zc @Bool.not_false (zc @e9 (zc @hup @htk))))))))))))))) ?_); (apply AbsG.callF; exact rfl; (exact x_ev (zc @hTl (zc @hTo (zc @hkB (zc @hek (zc @htg (zc @hgd (zc @hlen2 (zc @hWl (zc @hWl2 (zc @hfd (zc (hgk y hy) (zc (hgl S' hk4) (zc @Bool.not_false (zc @e9 (zc @hup @htk)))))))))))))))); (exact (Enters.of Tryz.func62 rfl rfl)); (exact c4); (exact x_al (zc @hTl (zc @hTo (zc @hkB (zc @hek (zc @htg (zc @hgd (zc @hlen2 (zc @hWl (zc @hWl2 (zc @hfd (zc (hgk y hy) (zc (hgl S' hk4) (zc @Bool.not_false (zc @e9 (zc @hup @htk)))))))))))))))); (try dsimp only [upd, optG])); (refine x_gp (zc @hTl (zc @hTo (zc @hkB (zc @hek (zc @htg (zc @hgd (zc @hlen2 (zc @hWl (zc @hWl2 (zc @hfd (zc (hgk y hy) (zc (hgl S' hk4) (zc @Bool.not_false (zc @e9 (zc @hup @htk))))))))))))))) ?_); (apply AbsG.new 0; exact rfl; (exact x_ev (zc @hTl (zc @hTo (zc @hkB (zc @hek (zc @htg (zc @hgd (zc @hlen2 (zc @hWl (zc @hWl2 (zc @hfd (zc (hgk y hy) (zc (hgl S' hk4) (zc @Bool.not_false (zc @e9 (zc @hup @htk)))))))))))))))); ((try simp only [push_cast, seval, hTl, hTo, hkB, hek, htg, hgd, hlen2, hWl, hWl2, hfd, hgk y hy, hgl S' hk4, Bool.not_false, e9, hup, htk]) <;> exact sT); exact rfl; dsimp only [upd, alcV, List.set, List.length_cons, List.length_nil, Nat.reduceAdd]); (apply AbsG.eff 0; exact rfl; exact rfl; (exact x_ev (zc @hTl (zc @hTo (zc @hkB (zc @hek (zc @htg (zc @hgd (zc @hlen2 (zc @hWl (zc @hWl2 (zc @hfd (zc (hgk y hy) (zc (hgl S' hk4) (zc @Bool.not_false (zc @e9 (zc @hup @htk)))))))))))))))); ((try simp only [push_cast, seval, hTl, hTo, hkB, hek, htg, hgd, hlen2, hWl, hWl2, hfd, hgk y hy, hgl S' hk4, Bool.not_false, e9, hup, htk]) <;> exact sT); dsimp only [upd, List.set, List.length_cons, List.length_nil, Nat.reduceAdd]); (refine x_gp (zc @hTl (zc @hTo (zc @hkB (zc @hek (zc @htg (zc @hgd (zc @hlen2 (zc @hWl (zc @hWl2 (zc @hfd (zc (hgk y hy) (zc (hgl S' hk4) (zc @Bool.not_false (zc @e9 (zc @hup @htk))))))))))))))) ?_)); exact AbsG.nil); kernel_rfl; (try dsimp only [List.cons_append, List.nil_append]))
        (refine x_gg (zc @hTl (zc @hTo (zc @hkB (zc @hek (zc @htg (zc @hgd (zc @hlen2 (zc @hWl (zc @hWl2 (zc @hfd (zc (hgk y hy) (zc (hgl S' hk4) (zc @Bool.not_false (zc @e9 (zc @hup @htk))))))))))))))) ?_)
        (apply Run.pureFP; (exact x_ev (zc @hTl (zc @hTo (zc @hkB (zc @hek (zc @htg (zc @hgd (zc @hlen2 (zc @hWl (zc @hWl2 (zc @hfd (zc (hgk y hy) (zc (hgl S' hk4) (zc @Bool.not_false (zc @e9 (zc @hup @htk)))))))))))))))); (exact (Enters.of Tryz.func61 rfl rfl)); (exact c7); (exact x_al (zc @hTl (zc @hTo (zc @hkB (zc @hek (zc @htg (zc @hgd (zc @hlen2 (zc @hWl (zc @hWl2 (zc @hfd (zc (hgk y hy) (zc (hgl S' hk4) (zc @Bool.not_false (zc @e9 (zc @hup @htk)))))))))))))))); (try dsimp only [putA, optG]))
        (refine x_gg (zc @hTl (zc @hTo (zc @hkB (zc @hek (zc @htg (zc @hgd (zc @hlen2 (zc @hWl (zc @hWl2 (zc @hfd (zc (hgk y hy) (zc (hgl S' hk4) (zc @Bool.not_false (zc @e9 (zc @hup @htk))))))))))))))) ?_)
        (apply Run.pureFP; (exact x_ev (zc @hTl (zc @hTo (zc @hkB (zc @hek (zc @htg (zc @hgd (zc @hlen2 (zc @hWl (zc @hWl2 (zc @hfd (zc (hgk y hy) (zc (hgl S' hk4) (zc @Bool.not_false (zc @e9 (zc @hup @htk)))))))))))))))); (exact (Enters.of Tryz.func61 rfl rfl)); (exact c7); (exact x_al (zc @hTl (zc @hTo (zc @hkB (zc @hek (zc @htg (zc @hgd (zc @hlen2 (zc @hWl (zc @hWl2 (zc @hfd (zc (hgk y hy) (zc (hgl S' hk4) (zc @Bool.not_false (zc @e9 (zc @hup @htk)))))))))))))))); (try dsimp only [putA, optG]))
        (refine x_gg (zc @hTl (zc @hTo (zc @hkB (zc @hek (zc @htg (zc @hgd (zc @hlen2 (zc @hWl (zc @hWl2 (zc @hfd (zc (hgk y hy) (zc (hgl S' hk4) (zc @Bool.not_false (zc @e9 (zc @hup @htk))))))))))))))) ?_)
        refine ⟨(k + 1, S' ++ [(y, i, k)], v7 + 1, .row 4 [.agg [.ints y.ts, .ints y.pp, .ints pl, .int y.at_]]), ?_, ⟨by simp only; omega, hst, by simp; omega, allOk_snoc hk4 hy, hq3 _ hst⟩, by simp only; omega⟩
        simp only [hno1, hno3, sdL_snoc, List.append_assoc, List.cons_append, List.nil_append, ← hset, List.length_append, List.length_singleton]
        (refine Le.of ?_ ?_ rfl rfl <;> (try simp only [push_cast, seval, hTl, hTo, hkB, hek, htg, hgd, hlen2, hWl, hWl2, hfd, hgk y hy, hgl S' hk4, Bool.not_false, e9, hup, htk]) <;> (try (with_reducible rfl)))
        all_goals (simp only [hset2])
    ·intro hk5
     obtain rfl : k = (tkL r).length := by
      have : ¬ k < (tkL r).length := by simpa using hk5
      omega
     have hnl := nxI_len r f pl S' i (tkL r).length
     have hns := nxL_succ r f pl S' i
     have hnL := nxL_len r f pl S' i
     rw [hk2] at hrun
     simp only [Nat.sub_self, List.replicate_zero, List.append_nil]
     generalize nxI r f pl S' i (tkL r).length = N at *
     generalize nxL r f pl S' i = NL at *
     have hNt : (N.map AV.int).take (tkL r).length = N.map AV.int := List.take_of_length_le (by simp [hnl])
     have hNLt : NL.take i = NL := List.take_of_length_le (by omega)
     (refine x_mv (zc @hTl (zc @hTo (zc @hkB (zc @hek (zc @hnl (zc @hNt (zc @hNLt @hnL))))))) ?_)
     (apply Wp.freeze 14; (exact x_ev (zc @hTl (zc @hTo (zc @hkB (zc @hek (zc @hnl (zc @hNt (zc @hNLt @hnL)))))))); (exact x_ev (zc @hTl (zc @hTo (zc @hkB (zc @hek (zc @hnl (zc @hNt (zc @hNLt @hnL)))))))); (focus (try simp only [push_cast, seval, hTl, hTo, hkB, hek, hnl, hNt, hNLt, hnL]); (try (exact sT))); (focus (exact sT)))
     (refine x_go (zc @hTl (zc @hTo (zc @hkB (zc @hek (zc @hnl (zc @hNt (zc @hNLt @hnL))))))) ?_)
     refine ⟨(i + 1, S', (v6 + 1 + 1, .row 1 []), v7, k7), ?_, ⟨by simp only; have := (srow_len _ _ hk2).1; omega, hk3, hk4, hrun, Q, hq1, hq2.next⟩, by simp only; omega⟩
     simp only [hns]
     (refine Le.of ?_ ?_ rfl rfl <;> (try simp only [push_cast, seval, hTl, hTo, hkB, hek, hnl, hNt, hNLt, hnL]) <;> (try (with_reducible rfl)))
  ·intro hc
   obtain rfl : i = S.length := by
    have : ¬ i < S.length := by simpa using hc
    omega
   have htt : tot = some S := by
    rw [← hi4, show 4001 - S.length = (4000 - S.length) + 1 by omega]
    show (if S.length < S.length then _ else _) = _
    rw [if_neg (Nat.lt_irrefl _)]
   subst htt
   clear hc hkB hek hgk hgl hkp hcn hi4
   have hQ3 : BI (tkL r).length (nxR r f pl) x0 Q0 Q0.length 0 := by rw [← hQ1.len]; exact hQ2
   have hQ2p := hQ2.hw
   have hpth : ∀ e, e < S.length → (pth S e e).reverse = qw Q0 e := fun e he => pth_is hQ1 hQ2p e e (Nat.le_refl _) he
   obtain ⟨to, hto1, hto2⟩ := to_ex (f := f) (pl := pl) hQ1 hQ3
   have hlS := sdL_len pl S
   have hN0 : 0 < S.length := by rw [hQ1.len]; exact hQ2.pos
   have hRI := fun c t hc ht => (rI_is hQ1 hQ3 (i := c) (t := t) hc ht).1
   have hcb0 : ∀ c t, c < S.length → t < (tkL r).length → canB r f (sdS pl (sc S c)) (sc S c).at_ ((tkL r).getD t tk0) = false → rI (nxR r f pl) S c t = c := fun c t hc ht h => by
    obtain ⟨q1, q2⟩ := rI_is hQ1 hQ3 hc ht
    rw [nxR_no h] at q2
    exact apartS hQ1 hQ3 q1 hc q2
   have hstS := fun c hc d => sdL_getD pl (S := S) d (i := c) hc
   have hovS := fun c hc => hov (sc S c) (hi3 c hc)
   have hnL := nxL_len r f pl S S.length
   have hnLg := fun c (hc : c < S.length) => nxL_getD r f pl (S := S) (i := S.length) (j := c) hc
   have hnIl := fun c => nxI_len r f pl S c (tkL r).length
   have hnIg := fun c t (ht : t < (tkL r).length) => nxI_getD r f pl (S := S) (j := c) (k := (tkL r).length) ht
   have L1 := fun e (he : e < S.length) s hs => far_done hQ1 hQ3 (e := e) (s := s) he hs
   have L2 := fun s => far_never hQ1 hQ3 s
   have L3 := fun e s h c k hc hk => ft_next hQ1 hQ3 (e := e) (s := s) h (c := c) (k := k) hc hk
   obtain ⟨cb, hcb⟩ : ∃ cb : Nat → Nat → Bool, ∀ c t, canB r f (sdS pl (sc S c)) (sc S c).at_ ((tkL r).getD t tk0) = cb c t := ⟨_, fun _ _ => rfl⟩
   simp only [hcb] at hcb0 hnIg
   obtain ⟨NI, hNI⟩ : ∃ NI : Nat → List Int, ∀ c, nxI r f pl S c (tkL r).length = NI c := ⟨_, fun _ => rfl⟩
   simp only [hNI] at hnLg hnIl hnIg
   have hFk := fun s c => far_keep (s := s) (c := c) (tkL r).length (rI (nxR r f pl) S) nwl to
   have hFr := far_range (tkL r).length (rI (nxR r f pl) S) nwl to
   have hFh := fun s c => far_hit (T := (tkL r).length) (to := to) (s := s) (c := c) (RI := rI (nxR r f pl) S)
   have hFm := fun s c => far_miss (T := (tkL r).length) (to := to) (s := s) (c := c) (RI := rI (nxR r f pl) S)
   have hFe := fun s c => far_eqs (T := (tkL r).length) (to := to) (s := s) (c := c) (RI := rI (nxR r f pl) S)
   have hF0 := fun c => far_zero (T := (tkL r).length) (to := to) (c := c) (RI := rI (nxR r f pl) S)
   have hC1 := fun s => cnN_le (tkL r).length (rI (nxR r f pl) S) to s S.length
   have hC2 := fun s => cnN_lt (tkL r).length (rI (nxR r f pl) S) to s S.length
   have hC3 := fun s => cnN_len (tkL r).length (rI (nxR r f pl) S) to s S.length
   obtain ⟨CN, hCN⟩ : ∃ CN : Nat → Nat, ∀ s, cnN (tkL r).length (rI (nxR r f pl) S) to s S.length = CN s := ⟨_, fun _ => rfl⟩
   simp only [hCN] at hC1 hC2 hC3
   have L1 := L1 to
   have L3 := L3 to
   have L2 : to = S.length → ∀ s, farF (tkL r).length (rI (nxR r f pl) S) nwl to s 0 < 0 := fun h s => by rw [h]; exact L2 s
   clear hCN hcb hNI hov hQ2 hQ3 hQ1 hi3 hQ2p
   generalize hRIe : rI (nxR r f pl) S = RI at *
   generalize hFe0 : farF (tkL r).length RI nwl to = F at *
   generalize nxL r f pl S S.length = NL at *
   generalize sdL pl S = SL at *
   generalize mpK dkK S = MP at *
   have hNLt : ∀ c, c < S.length → ∀ d, (NL.map AV.ints).getD c d = .lst 1 ((NI c).map AV.int) := fun c hc d => by
    rw [← hnLg c hc]
    simp [show c < NL.length by omega]
   (refine x_go (zc @hTl (zc @hTo @hlS)) ?_)
   refine Wp.loop (fun i : Nat => { t := [(7, .optr 2 0 0 0), (9, .lst 3 TA), (10, .osl 3 S.length 0 S.length), (12, .osl 5 S.length 0 S.length), (20, .osl 8 0 0 S.length), (21, .int i)], m := [⟨1, .row 8 []⟩, ⟨1, .row 3 []⟩, ⟨0, .row 3 [.agg [.ints f.ts, .ints f.pp, .ints f.pl]]⟩, ⟨S.length, .row 4 SL⟩, ⟨1, .mp MP⟩, ⟨S.length, .row 1 (NL.map AV.ints)⟩, ⟨v6, k6⟩, ⟨v7, k7⟩, ⟨0, .row 1 (((List.range i).map (F 0) ++ List.replicate (S.length - i) 0).map AV.int)⟩], n := 236 }) (fun i => i ≤ S.length) (fun i => S.length - i) 0 ?_ ?_ ?_
   ·(refine Le.of ?_ ?_ rfl rfl <;> (try simp only [push_cast, seval, hTl, hTo, hlS]) <;> (try (with_reducible rfl)))
    all_goals (first | rfl | exact ⟨rfl, rfl⟩ | (simp; done))
   ·exact Nat.zero_le _
   ·intro i hi1
    (refine x_go (zc @hTl (zc @hTo @hlS)) ?_)
    (apply Wp.cond; (exact x_ev (zc @hTl (zc @hTo @hlS))))
    ·intro hc
     have hc : i < S.length := by simpa using hc
     have c5 := hovS i hc
     rw [hto1 i hc] at c5
     have hgd := hstS i hc
     have hD0 := hF0 i
     have hns : (List.range (i + 1)).map (F 0) = (List.range i).map (F 0) ++ [F 0 i] := by simp [List.range_succ]
     have hset : ∀ z : Int, ((List.range i).map (F 0) ++ List.replicate (S.length - i) 0).set i z = (List.range i).map (F 0) ++ z :: List.replicate (S.length - (i + 1)) 0 := fun z => by
      rw [set_mid (by simp) (by simp; omega)]
      congr 2
      rw [List.drop_replicate]; congr 1
     have hWl : ((List.range i).map (F 0) ++ List.replicate (S.length - i) 0).length = S.length := by simp; omega
     obtain ⟨W, hW⟩ : ∃ W, (List.range i).map (F 0) ++ List.replicate (S.length - i) 0 = W := ⟨_, rfl⟩
     rw [hW] at hset hWl ⊢
     have hset2 : ∀ z : Int, (W.set i (-1)).set i z = W.set i z := fun z => List.set_set ..
     have hWl2 : (W.set i (-1)).length = S.length := by rw [List.length_set, hWl]
     generalize sc S i = p at *
     by_cases hit : i = to
     ·rw [decide_eq_true hit] at c5
      rw [if_pos hit] at hD0
      (refine x_go (zc @hTl (zc @hTo (zc @hlS (zc @hWl (zc @hWl2 @hgd))))) ?_)
      (refine Wp.rnD 6 ?_; apply exAb; (((refine x_abn (zc @hTl (zc @hTo (zc @hlS (zc @hWl (zc @hWl2 @hgd))))) ?_); (apply Abn.pureFP; (exact x_ev (zc @hTl (zc @hTo (zc @hlS (zc @hWl (zc @hWl2 @hgd)))))); (exact (Enters.of Tryz.func63 rfl rfl)); (exact c5); (exact x_al (zc @hTl (zc @hTo (zc @hlS (zc @hWl (zc @hWl2 @hgd)))))); (try dsimp only [putA, optG])); (refine x_abn (zc @hTl (zc @hTo (zc @hlS (zc @hWl (zc @hWl2 @hgd))))) ?_)); exact Abn.nil))
      (refine x_gg (zc @hTl (zc @hTo (zc @hlS (zc @hWl (zc @hWl2 @hgd))))) ?_)
      refine ⟨i + 1, ?_, by omega, by omega⟩
      simp only [hns, hD0, List.append_assoc, List.cons_append, List.nil_append, ← hset]
      (refine Le.of ?_ ?_ rfl rfl <;> (try simp only [push_cast, seval, hTl, hTo, hlS, hWl, hWl2, hgd]) <;> (try (with_reducible rfl)))
      all_goals (simp only [hset2])
     ·rw [decide_eq_false hit] at c5
      rw [if_neg hit] at hD0
      (refine x_go (zc @hTl (zc @hTo (zc @hlS (zc @hWl (zc @hWl2 @hgd))))) ?_)
      (refine Wp.rnD 6 ?_; apply exAb; (((refine x_abn (zc @hTl (zc @hTo (zc @hlS (zc @hWl (zc @hWl2 @hgd))))) ?_); (apply Abn.pureFP; (exact x_ev (zc @hTl (zc @hTo (zc @hlS (zc @hWl (zc @hWl2 @hgd)))))); (exact (Enters.of Tryz.func63 rfl rfl)); (exact c5); (exact x_al (zc @hTl (zc @hTo (zc @hlS (zc @hWl (zc @hWl2 @hgd)))))); (try dsimp only [putA, optG])); (refine x_abn (zc @hTl (zc @hTo (zc @hlS (zc @hWl (zc @hWl2 @hgd))))) ?_)); exact Abn.nil))
      (refine x_gg (zc @hTl (zc @hTo (zc @hlS (zc @hWl (zc @hWl2 @hgd))))) ?_)
      refine ⟨i + 1, ?_, by omega, by omega⟩
      simp only [hns, hD0, List.append_assoc, List.cons_append, List.nil_append, ← hset]
      (refine Le.of ?_ ?_ rfl rfl <;> (try simp only [push_cast, seval, hTl, hTo, hlS, hWl, hWl2, hgd]) <;> (try (with_reducible rfl)))
    ·intro hc
     obtain rfl : i = S.length := by
      have : ¬ i < S.length := by simpa using hc
      omega
     simp only [Nat.sub_self, List.replicate_zero, List.append_nil]
     clear hovS hstS hlS hto1
     (refine x_go (zc @hTl @hTo) ?_)
     refine Wp.loop (fun (q : Nat × Bool) => { t := [(9, .lst 3 TA), (12, .osl 5 S.length 0 S.length), (20, .osl 8 0 0 S.length), (22, .int ((q.1 : Int) + 1)), (23, .bool q.2)], m := [⟨1, .row 8 []⟩, ⟨1, .row 3 []⟩, ⟨0, .row 3 [.agg [.ints f.ts, .ints f.pp, .ints f.pl]]⟩, ⟨S.length, .row 4 SL⟩, ⟨1, .mp MP⟩, ⟨S.length, .row 1 (NL.map AV.ints)⟩, ⟨v6, k6⟩, ⟨v7, k7⟩, ⟨0, .row 1 (((List.range S.length).map (F q.1)).map AV.int)⟩], n := 236 })
      (fun q => q.1 + CN q.1 ≤ S.length + (if q.2 = true then 0 else 1) ∧ (q.2 = false → 1 ≤ q.1 ∧ ∀ c, c < S.length → F q.1 c = F (q.1 - 1) c)) (fun q => 2 * CN q.1 + (if q.2 = true then 1 else 0)) (0, true) ?_ ?_ ?_
     ·(refine Le.of ?_ ?_ rfl rfl <;> (try simp only [push_cast, seval, hTl, hTo]) <;> (try (with_reducible rfl)))
      all_goals (first | rfl | exact ⟨rfl, rfl⟩)
     ·exact ⟨by simpa using hC3 0, fun h => by cases h⟩
     ·rintro ⟨s, chg⟩ ⟨hs1, hs2⟩
      simp only at hs1 hs2
      cases chg with
      | true =>
       simp only [if_true] at hs1
       clear hs2 L1 L2 L3 hpth hF0
       (refine x_gg (zc @hTl @hTo) ?_)
       refine Wp.loop (fun i : Nat => { t := [(9, .lst 3 TA), (12, .osl 5 S.length 0 S.length), (20, .osl 8 0 0 S.length), (22, .int ((s : Int) + 1)), (23, .bool (chB (F (s + 1)) (F s) i)), (24, .int i)], m := [⟨1, .row 8 []⟩, ⟨1, .row 3 []⟩, ⟨0, .row 3 [.agg [.ints f.ts, .ints f.pp, .ints f.pl]]⟩, ⟨S.length, .row 4 SL⟩, ⟨1, .mp MP⟩, ⟨S.length, .row 1 (NL.map AV.ints)⟩, ⟨v6, k6⟩, ⟨v7, k7⟩, ⟨0, .row 1 ((dmL (F (s + 1)) (F s) S.length i).map AV.int)⟩], n := 236 }) (fun i => i ≤ S.length) (fun i => S.length - i) 0 ?_ ?_ ?_
       ·simp only [dmL_zero]
        (refine Le.of ?_ ?_ rfl rfl <;> (try simp only [push_cast, seval, hTl, hTo]) <;> (try (with_reducible rfl)))
        all_goals rfl
       ·exact Nat.zero_le _
       ·intro i hi1
        (refine x_go (zc @hTl @hTo) ?_)
        (apply Wp.cond; (exact x_ev (zc @hTl @hTo)))
        ·intro hc
         have hc : i < S.length := by simpa using hc
         have hdl := dmL_len (F (s + 1)) (F s) S.length i
         have hdg : ∀ c, c < S.length → (dmL (F (s + 1)) (F s) S.length i).getD c 0 = if c < i then F (s + 1) c else F s c := fun c hc => dmL_getD hc
         have hdi : (dmL (F (s + 1)) (F s) S.length i).getD i 0 = F s i := by rw [hdg i hc, if_neg (Nat.lt_irrefl _)]
         have hds := dmL_set (G := F (s + 1)) (H := F s) hc
         have hdm : F (s + 1) i = F s i → dmL (F (s + 1)) (F s) S.length (i + 1) = dmL (F (s + 1)) (F s) S.length i := fun e => dmL_same e
         have hcs := chB_succ (F (s + 1)) (F s) i
         have hNg := hNLt i hc
         have hNl := hnIl i
         have hNt := hnIg i
         have hRi := fun t ht => hRI i t hc ht
         have hci := fun t ht => hcb0 i t hc ht
         clear hNLt hnIl hnIg hRI hcb0 hC1 hC2 hC3
         generalize dmL (F (s + 1)) (F s) S.length i = D at *
         generalize chB (F (s + 1)) (F s) i = ci at *
         generalize NI i = row at *
         (refine x_go (zc @hTl @hTo) ?_)
         refine Wp.loop (fun (q : Nat × Bool) => { t := [(9, .lst 3 TA), (12, .osl 5 S.length 0 S.length), (20, .osl 8 0 0 S.length), (22, .int ((s : Int) + 1)), (23, .bool (q.2 || ci)), (24, .int i), (25, .int q.1)], m := [⟨1, .row 8 []⟩, ⟨1, .row 3 []⟩, ⟨0, .row 3 [.agg [.ints f.ts, .ints f.pp, .ints f.pl]]⟩, ⟨S.length, .row 4 SL⟩, ⟨1, .mp MP⟩, ⟨S.length, .row 1 (NL.map AV.ints)⟩, ⟨v6, k6⟩, ⟨v7, k7⟩, ⟨0, .row 1 ((if q.2 = true then D.set i ((s : Int) + 1) else D).map AV.int)⟩], n := 236 })
          (fun q => q.1 ≤ (tkL r).length ∧ (q.2 = false → F s i < 0 → ∀ t, t < q.1 → F s (RI i t) ≠ (s : Int)) ∧ (q.2 = true → F s i < 0 ∧ ∃ t, t < (tkL r).length ∧ F s (RI i t) = (s : Int))) (fun q => (tkL r).length - q.1) (0, false) ?_ ?_ ?_
         ·simp only [Bool.false_eq_true, if_false, Bool.false_or]
          (refine Le.of ?_ ?_ rfl rfl <;> (try simp only [push_cast, seval, hTl, hTo]) <;> (try (with_reducible rfl)))
          all_goals rfl
         ·exact ⟨Nat.zero_le _, fun _ _ t ht => by simp only at ht; omega, fun h => by cases h⟩
         ·rintro ⟨k, hit⟩ ⟨hk1, hk2, hk3⟩
          simp only at hk1 hk2 hk3
          simp only
          obtain ⟨DL, hDL⟩ : ∃ DL, (if hit = true then D.set i ((s : Int) + 1) else D) = DL := ⟨_, rfl⟩
          have hDLl : DL.length = S.length := by rw [← hDL]; split <;> simp [hdl]
          have hDLi : DL.getD i 0 = if hit = true then (s : Int) + 1 else F s i := by
           rw [← hDL]
           cases hit with
           | true => simp [show i < D.length by omega]
           | false => simpa using hdi
          simp only [hDL]
          obtain ⟨v, hv2⟩ : ∃ v, DL.getD i 0 = v := ⟨_, rfl⟩
          rw [hv2] at hDLi
          (refine x_go (zc @hTl (zc @hTo (zc @hDLl @hv2))) ?_)
          (apply Wp.cond; (exact x_ev (zc @hTl (zc @hTo (zc @hDLl @hv2)))))
          ·intro hq
           have hq : k < (tkL r).length ∧ v < 0 := by simpa using hq
           have hhit : hit = false := by
            cases hit with
            | false => rfl
            | true => rw [if_pos rfl] at hDLi; omega
           subst hhit
           simp only [Bool.false_eq_true, if_false] at hDL hDLi
           subst hDL
           have hrk := hNt k hq.1
           cases hcbk : cb i k with
           | false =>
            rw [hcbk, if_neg (by simp)] at hrk
            have hcc := hci k hq.1 hcbk
            (refine x_gg (zc @hTl (zc @hTo (zc @hDLl (zc @hNg (zc @hNl @hrk))))) ?_)
            refine ⟨(k + 1, false), ?_, ⟨by simp only; omega, fun _ hneg t ht => ?_, fun h => by cases h⟩, by simp only; omega⟩
            ·simp only [Bool.false_eq_true, if_false, Bool.false_or]
             (refine Le.of ?_ ?_ rfl rfl <;> (try simp only [push_cast, seval, hTl, hTo, hDLl, hNg, hNl, hrk]) <;> (try (with_reducible rfl)))
            ·by_cases htk : t = k
             ·subst htk; rw [hcc]; omega
             ·exact hk2 rfl hneg t (by simp only at ht; omega)
           | true =>
            rw [hcbk, if_pos rfl] at hrk
            have hj := hRi k hq.1
            have hdj := hdg (RI i k) hj
            have hje : (D.getD (RI i k) 0 = (s : Int)) ↔ F s (RI i k) = (s : Int) := by
             rw [hdj]
             split
             ·exact hFe s _
             ·exact Iff.rfl
            clear hdj
            have hkt : ∀ t, t = k → RI i t = RI i k := fun t h => by rw [h]
            generalize RI i k = j at *
            obtain ⟨w, hw⟩ : ∃ w, D.getD j 0 = w := ⟨_, rfl⟩
            rw [hw] at hje
            (refine x_gg (zc @hTl (zc @hTo (zc @hDLl (zc @hNg (zc @hNl (zc @hrk @hw)))))) ?_)
            (apply Wp.cond; (exact x_ev (zc @hTl (zc @hTo (zc @hDLl (zc @hNg (zc @hNl (zc @hrk @hw))))))))
            ·intro hq2
             have hq2 : w = (s : Int) := by simpa using hq2
             (refine x_go (zc @hTl (zc @hTo (zc @hDLl (zc @hNg (zc @hNl (zc @hrk @hw)))))) ?_)
             refine ⟨(k + 1, true), ?_, ⟨by simp only; omega, (fun h => (by cases h)), fun _ => ⟨by omega, k, hq.1, by rw [hkt k rfl]; exact hje.1 hq2⟩⟩, by simp only; omega⟩
             simp only [if_true, Bool.true_or]
             (refine Le.of ?_ ?_ rfl rfl <;> (try simp only [push_cast, seval, hTl, hTo, hDLl, hNg, hNl, hrk, hw]) <;> (try (with_reducible rfl)))
            ·intro hq2
             have hq2 : ¬ w = (s : Int) := by simpa using hq2
             (refine x_go (zc @hTl (zc @hTo (zc @hDLl (zc @hNg (zc @hNl (zc @hrk @hw)))))) ?_)
             refine ⟨(k + 1, false), ?_, ⟨by simp only; omega, fun _ hneg t ht => ?_, fun h => by cases h⟩, by simp only; omega⟩
             ·simp only [Bool.false_eq_true, if_false, Bool.false_or]
              (refine Le.of ?_ ?_ rfl rfl <;> (try simp only [push_cast, seval, hTl, hTo, hDLl, hNg, hNl, hrk, hw]) <;> (try (with_reducible rfl)))
             ·by_cases htk : t = k
              ·rw [hkt t htk]; exact fun e => hq2 (hje.2 e)
              ·exact hk2 rfl hneg t (by simp only at ht; omega)
          ·intro hq
           have hq : ¬ (k < (tkL r).length ∧ v < 0) := by
            intro h
            rw [decide_eq_true (show (k : Int) < ((tkL r).length : Int) by omega), decide_eq_true h.2] at hq
            cases hq
           have hres : dmL (F (s + 1)) (F s) S.length (i + 1) = DL ∧ chB (F (s + 1)) (F s) (i + 1) = (hit || ci) := by
            cases hit with
            | true =>
             obtain ⟨q1, t, q2, q3⟩ := hk3 rfl
             have hG := hFh s i q1 ⟨t, q2, q3⟩
             simp only [if_true] at hDL
             rw [hG] at hds hcs
             refine ⟨by rw [← hds, hDL], ?_⟩
             rw [hcs, decide_eq_false (by omega)]; simp
            | false =>
             simp only [Bool.false_eq_true, if_false] at hDL hDLi
             have hG := hFm s i fun h1 t ht => hk2 rfl h1 t (by omega)
             rw [hG] at hcs
             refine ⟨by rw [hdm hG, hDL], ?_⟩
             rw [hcs, decide_eq_true rfl]; simp
           clear hds hdm hcs hk2 hk3
           (refine x_go (zc @hTl @hTo) ?_)
           refine ⟨i + 1, ?_, by omega, by omega⟩
           simp only [hres.1, hres.2]
           (refine Le.of ?_ ?_ rfl rfl <;> (try simp only [push_cast, seval, hTl, hTo]) <;> (try (with_reducible rfl)))
        ·intro hc
         obtain rfl : i = S.length := by
          have : ¬ i < S.length := by simpa using hc
          omega
         have hch0 := chB_false (G := F (s + 1)) (H := F s) (i := S.length)
         have hch1 := chB_true (G := F (s + 1)) (H := F s) (i := S.length)
         simp only [dmL_all]
         generalize chB (F (s + 1)) (F s) S.length = ch at *
         (refine x_go (zc @hTl @hTo) ?_)
         refine ⟨(s + 1, ch), ?_, ⟨?_, fun h => ⟨by simp only; omega, fun c hc => by simp only [Nat.add_sub_cancel]; exact hch0 h c hc⟩⟩, ?_⟩
         ·(refine Le.of ?_ ?_ rfl rfl <;> (try simp only [push_cast, seval, hTl, hTo]) <;> (try (with_reducible rfl)))
         ·have h1 := hC1 s
          cases ch with
          | true =>
           obtain ⟨c, q1, q2⟩ := hch1 rfl
           have h2 := hC2 s c q1 q2
           simp only [if_true]; omega
          | false => simp only [Bool.false_eq_true, if_false]; omega
         ·have h1 := hC1 s
          cases ch with
          | true =>
           obtain ⟨c, q1, q2⟩ := hch1 rfl
           have h2 := hC2 s c q1 q2
           simp only [if_true]; omega
          | false => simp only [Bool.false_eq_true, if_false, if_true]; omega
      | false =>
       obtain ⟨hs3, hs4⟩ := hs2 rfl
       clear hs2 hC1 hC2 hFk hFh hFm hFe hF0
       simp only [Bool.false_eq_true, if_false] at hs1
       obtain ⟨s0, rfl⟩ : ∃ s0, s = s0 + 1 := ⟨s - 1, by omega⟩
       simp only [Nat.add_sub_cancel] at hs4
       have hmap : (List.range S.length).map (F (s0 + 1)) = (List.range S.length).map (F s0) := List.map_congr_left fun c hc => hs4 c (List.mem_range.1 hc)
       simp only [hmap]
       have hdl : ((List.range S.length).map (F s0)).length = S.length := by simp
       have hdg : ∀ c, c < S.length → ((List.range S.length).map (F s0)).getD c 0 = F s0 c := fun c hc => by simp [hc]
       generalize (List.range S.length).map (F s0) = D at *
       have h00 := hdg 0 hN0
       rcases hto2 with ⟨hen, hlt⟩ | ⟨hen, hnone⟩
       ·obtain ⟨l1, l2⟩ := L1 hlt s0 hs4
        have l3 := L3 s0 hs4
        have hwp := hpth to hlt
        have hfr := (hFr s0 0).2
        rw [l1] at h00
        generalize qw Q0 to = w at *
        have e9 : decide ((w.length : Int) < 0) = false := decide_eq_false (by omega)
        obtain ⟨gt, hgt⟩ : ∃ gt : Nat → Tk, ∀ k, (tkL r).getD k tk0 = gt k := ⟨_, fun _ => rfl⟩
        simp only [hgt] at hTg
        (refine x_gg (zc @hTl (zc @hTo (zc @hdl (zc @h00 @e9)))) ?_)
        apply Wp.adopt 26 3; (exact x_ev (zc @hTl (zc @hTo (zc @hdl (zc @h00 @e9)))))
        refine Wp.loop (fun (q : Nat × Nat × List Nat) => { t := [(9, .lst 3 TA), (12, .osl 5 S.length 0 S.length), (20, .osl 8 0 0 S.length), (26, .osl 9 q.2.2.length 0 q.2.2.length), (27, .int q.1)], m := [⟨1, .row 8 []⟩, ⟨1, .row 3 []⟩, ⟨0, .row 3 [.agg [.ints f.ts, .ints f.pp, .ints f.pl]]⟩, ⟨S.length, .row 4 SL⟩, ⟨1, .mp MP⟩, ⟨S.length, .row 1 (NL.map AV.ints)⟩, ⟨v6, k6⟩, ⟨v7, k7⟩, ⟨0, .row 1 (D.map AV.int)⟩, ⟨q.2.2.length, .row 3 ((q.2.2.map gt).map tkA)⟩], n := 236 })
         (fun q => q.1 < S.length ∧ F s0 q.1 = (q.2.1 : Int) ∧ w = q.2.2 ++ grS (tkL r).length RI (F s0) q.2.1 q.1 ∧ q.2.1 + q.2.2.length = w.length) (fun q => q.2.1) (0, w.length, []) ?_ ?_ ?_
        ·(refine Le.of ?_ ?_ rfl rfl <;> (try simp only [push_cast, seval, hTl, hTo, hdl, h00, e9]) <;> (try (with_reducible rfl)))
         all_goals (first | exact ⟨rfl, rfl⟩ | rfl)
        ·exact ⟨hN0, l1, by simp [l2], by simp⟩
        ·rintro ⟨c, m, L⟩ ⟨q1, q2, q3, q4⟩
         simp only at q1 q2 q3 q4
         have hdc := hdg c q1
         rw [q2] at hdc
         (refine x_go (zc @hTl (zc @hTo (zc @hdl @hdc))) ?_)
         (apply Wp.cond; (exact x_ev (zc @hTl (zc @hTo (zc @hdl @hdc)))))
         ·intro hq
          have hq : 0 < m := by simpa using hq
          obtain ⟨m', rfl⟩ : ∃ m', m = m' + 1 := ⟨m - 1, by omega⟩
          obtain ⟨u1, u2, u3⟩ := l3 c m' q1 q2
          have hgr : grS (tkL r).length RI (F s0) (m' + 1) c = ftS (tkL r).length RI (F s0) m' c :: grS (tkL r).length RI (F s0) m' (RI c (ftS (tkL r).length RI (F s0) m' c)) := rfl
          generalize ftS (tkL r).length RI (F s0) m' c = u at *
          have hNg := hNLt c q1
          have hNl := hnIl c
          have hNt := hnIg c
          have hci := fun t ht => hcb0 c t q1 ht
          have hRc := fun t ht => hRI c t q1 ht
          have hdc2 : D.getD c 0 = (m' : Int) + 1 := by rw [hdc]; omega
          clear hNLt hnIl hnIg hRI hcb0 l3 hdc h00
          generalize NI c = row at *
          (refine x_go (zc @hTl (zc @hTo (zc @hdl @hdc2))) ?_)
          refine Wp.loop (fun k : Nat => { t := [(9, .lst 3 TA), (12, .osl 5 S.length 0 S.length), (20, .osl 8 0 0 S.length), (26, .osl 9 L.length 0 L.length), (27, .int c), (28, .int k)], m := [⟨1, .row 8 []⟩, ⟨1, .row 3 []⟩, ⟨0, .row 3 [.agg [.ints f.ts, .ints f.pp, .ints f.pl]]⟩, ⟨S.length, .row 4 SL⟩, ⟨1, .mp MP⟩, ⟨S.length, .row 1 (NL.map AV.ints)⟩, ⟨v6, k6⟩, ⟨v7, k7⟩, ⟨0, .row 1 (D.map AV.int)⟩, ⟨L.length, .row 3 ((L.map gt).map tkA)⟩], n := 236 }) (fun k => k ≤ u) (fun k => u - k) 0 ?_ ?_ ?_
          ·(refine Le.of ?_ ?_ rfl rfl <;> (try simp only [push_cast, seval, hTl, hTo, hdl, hdc2]) <;> (try (with_reducible rfl)))
          ·exact Nat.zero_le _
          ·intro k hk
           have hkT : k < (tkL r).length := by omega
           have hrk := hNt k hkT
           by_cases hku : k = u
           ·subst hku
            have hcbt : cb c k = true := by
             cases hb : cb c k with
             | true => rfl
             | false =>
              have e := hci k hkT hb
              rw [e, q2] at u2
              omega
            rw [hcbt, if_pos rfl] at hrk
            have hj := hRc k hkT
            have hdj := hdg (RI c k) hj
            rw [u2] at hdj
            have htg := hTg k hkT
            have hLt : ((L.map gt).map tkA).take L.length = (L.map gt).map tkA := List.take_of_length_le (by simp)
            have hLL : ((L.map gt).map tkA).length = L.length := by simp
            unfold tkA at htg
            (refine x_go (zc @hTl (zc @hTo (zc @hdl (zc @hdc2 (zc @hNg (zc @hNl (zc @hrk (zc @hdj (zc @htg (zc @hLt @hLL)))))))))) ?_)
            (refine Wp.rnD 26 ?_; apply exAb; (((refine x_abz (zc @hTl (zc @hTo (zc @hdl (zc @hdc2 (zc @hNg (zc @hNl (zc @hrk (zc @hdj (zc @htg (zc @hLt @hLL)))))))))) ?_)); exact Abn.nil))
            (refine x_gg (zc @hTl (zc @hTo (zc @hdl (zc @hdc2 (zc @hNg (zc @hNl (zc @hrk (zc @hdj (zc @htg (zc @hLt @hLL)))))))))) ?_)
            refine ⟨(RI c k, m', L ++ [k]), ?_, ⟨hj, u2, by rw [q3, hgr]; simp, by simp; omega⟩, by simp only; omega⟩
            simp only [List.map_append, List.map_cons, List.map_nil, List.length_append, List.length_singleton, tkA]
            (refine Le.of ?_ ?_ rfl rfl <;> (try simp only [push_cast, seval, hTl, hTo, hdl, hdc2, hNg, hNl, hrk, hdj, htg, hLt, hLL]) <;> (try (with_reducible rfl)))
           ·cases hcbk : cb c k with
            | false =>
             rw [hcbk, if_neg (by simp)] at hrk
             (refine x_go (zc @hTl (zc @hTo (zc @hdl (zc @hdc2 (zc @hNg (zc @hNl @hrk)))))) ?_)
             (refine Wp.rnD 26 ?_; apply exAb; (((refine x_abz (zc @hTl (zc @hTo (zc @hdl (zc @hdc2 (zc @hNg (zc @hNl @hrk)))))) ?_)); exact Abn.nil))
             (refine x_gg (zc @hTl (zc @hTo (zc @hdl (zc @hdc2 (zc @hNg (zc @hNl @hrk)))))) ?_)
             refine ⟨k + 1, ?_, by omega, by omega⟩
             (refine Le.of ?_ ?_ rfl rfl <;> (try simp only [push_cast, seval, hTl, hTo, hdl, hdc2, hNg, hNl, hrk]) <;> (try (with_reducible rfl)))
            | true =>
             rw [hcbk, if_pos rfl] at hrk
             have hj := hRc k hkT
             have hdj := hdg (RI c k) hj
             have hne := u3 k (by omega)
             obtain ⟨y, hy⟩ : ∃ y, F s0 (RI c k) = y := ⟨_, rfl⟩
             rw [hy] at hdj hne
             have e8 : decide (y = (m' : Int)) = false := decide_eq_false hne
             clear hy hci hRc hNt u2 u3 hgr
             generalize RI c k = j at *
             (refine x_go (zc @hTl (zc @hTo (zc @hdl (zc @hdc2 (zc @hNg (zc @hNl (zc @hrk (zc @hdj (zc @e8 @Bool.not_false))))))))) ?_)
             (refine Wp.rnD 26 ?_; apply exAb; (((refine x_abz (zc @hTl (zc @hTo (zc @hdl (zc @hdc2 (zc @hNg (zc @hNl (zc @hrk (zc @hdj (zc @e8 @Bool.not_false))))))))) ?_)); exact Abn.nil))
             (refine x_gg (zc @hTl (zc @hTo (zc @hdl (zc @hdc2 (zc @hNg (zc @hNl (zc @hrk (zc @hdj (zc @e8 @Bool.not_false))))))))) ?_)
             refine ⟨k + 1, ?_, by omega, by omega⟩
             (refine Le.of ?_ ?_ rfl rfl <;> (try simp only [push_cast, seval, hTl, hTo, hdl, hdc2, hNg, hNl, hrk, hdj, e8, Bool.not_false]) <;> (try (with_reducible rfl)))
         ·intro hq
          have hm0 : m = 0 := by
           have : ¬ 0 < m := by simpa using hq
           omega
          subst hm0
          have hwL : w = L := by rw [q3]; simp [grS]
          have hp2 : ((pth S to to).map fun k => (tkL r).getD k tk0).reverse = L.map gt := by
           rw [← List.map_reverse, hwp, hwL]
           simp only [hgt]
          (refine x_go (zc @hTl @hTo) ?_)
          (first | exact x_retA (zc @hTl @hTo) | refine x_retAZ (zc @hTl @hTo) ?_)
          simp only [hen, hp2]
          exact Vw.tup (.cons (Vw.osl rfl (by simp) (by decide) (by rw [List.drop_zero, List.take_of_length_le (by simp)]; exact VwL.okAll (by rw [okL_tk]; trivial))) (.cons (Vw.self trivial) .nil))
       ·have hneg := L2 hnone s0
        obtain ⟨z, hz0⟩ : ∃ z, F s0 0 = z := ⟨_, rfl⟩
        rw [hz0] at h00 hneg
        have e9 : decide (z < 0) = true := decide_eq_true hneg
        (refine x_gg (zc @hTl (zc @hTo (zc @hdl (zc @h00 @e9)))) ?_)
        (first | exact x_retA (zc @hTl (zc @hTo (zc @hdl (zc @h00 @e9)))) | refine x_retAZ (zc @hTl (zc @hTo (zc @hdl (zc @h00 @e9)))) ?_)
        simp only [hen]
        exact Vw.tup (.cons .emp (.cons (Vw.self trivial) .nil))
end Go.Proofs.Tryz
set_option maxHeartbeats 16000000
namespace Go.Proofs.Tryz
open Go.Vg
def prN (r : Rm) : Nat → Int
 | 0 => r.ps.length
 | k + 1 => prN r k * (r.ts.getD k th0).ss
theorem prN_step {r : Rm} (hv : RV r) {k : Nat} (hk : k < r.ts.length) (h1 : 0 ≤ prN r k) (h2 : prN r k ≤ 400) : 0 ≤ prN r (k + 1) ∧ prN r (k + 1) ≤ 2400 := by
 have h := (hv.tsv (r.ts.getD k th0) (by rw [show r.ts.getD k th0 = r.ts[k] by simp [hk]]; exact List.getElem_mem _)).2.1
 show 0 ≤ prN r k * (r.ts.getD k th0).ss ∧ prN r k * (r.ts.getD k th0).ss ≤ 2400
 generalize prN r k = a at *
 generalize (r.ts.getD k th0).ss = b at *
 refine ⟨Int.mul_nonneg h1 (by omega), ?_⟩
 have := Int.mul_le_mul h2 h.2 (by omega) (by omega : (0 : Int) ≤ 400)
 omega
theorem Large_ex (r : Rm) : ∃ b, Pure Tryz.prog 13 [rmA r] (.bool b) ∧ (b = false → farB r = false) := by
  have f1 := Far_pure r
  cases hfa : farB r with
  | true =>
    rw [hfa] at f1
    refine ⟨true, ?_, fun h => by cases h⟩
    unfold rmA rmC at *
    (refine Spec.bd 0 Tryz.func13 Tryz.results13 Tryz.ntmps13 ?_; simp only [entry, zipArgs, Nat.reduceAdd])
    (refine x_go @Bool.true_or ?_)
    (apply Run.pureFP; (exact x_ev @Bool.true_or); (exact (Enters.of Tryz.func20 rfl rfl)); (exact f1); (exact x_al @Bool.true_or); (try dsimp only [putA, optG]))
    (refine x_gg @Bool.true_or ?_)
    (apply Run.pureFP; (exact x_ev @Bool.true_or); (exact (Enters.of Tryz.func20 rfl rfl)); (exact f1); (exact x_al @Bool.true_or); (try dsimp only [putA, optG]))
    (refine x_gg @Bool.true_or ?_)
    (first | exact x_ret @Bool.true_or | refine x_retZ @Bool.true_or ?_)
  | false =>
    rw [hfa] at f1
    have hz := farB_Sz hfa
    have c1 := rcheck_pure hz
    by_cases hch : chE r = 0
    · have hv := chE_RV hch
      rw [hch] at c1
      have z1 := hv.ps
      have z2 := hv.ts
      have z3 := hv.pp
      by_cases hex : ∃ k, k < r.ts.length ∧ 400 < prN r (k + 1)
      · refine ⟨true, ?_, fun _ => rfl⟩
        unfold rmA rmC at *
        (refine Spec.bd 0 Tryz.func13 Tryz.results13 Tryz.ntmps13 ?_; simp only [entry, zipArgs, Nat.reduceAdd])
        (refine w_go ?_)
        (apply Run.pureFP; (exact w_ev); (exact (Enters.of Tryz.func20 rfl rfl)); (exact f1); (exact w_al); (try dsimp only [putA, optG]))
        (refine w_go ?_)
        (apply Run.pureFP; (exact w_ev); (exact (Enters.of Tryz.func44 rfl rfl)); (exact c1); (exact w_al); (try dsimp only [putA, optG]))
        (refine w_gg ?_)
        (refine w_fzP (slq 1) ?_)
        (refine w_gg ?_)
        refine Wp.loop (fun k : Nat => { t := [(1, .ref [.strs r.ps, .lst 4 (r.ts.map thA), .lst 3 (r.pp.map ppA), .lst 3 (r.wy.map wyA), .lst 8 (r.ac.map acA), .lst 3 (r.au.map auA), .int r.n, .lst 3 (r.goal.map ltA)] 0), (3, .int (prN r k)), (4, .int k)], m := [⟨1, .row 8 []⟩], n := 49 }) (fun k => k ≤ r.ts.length ∧ 0 ≤ prN r k ∧ ∀ j, j ≤ k → prN r j ≤ 400) (fun k => r.ts.length - k) 0 ?_ ?_ ?_
        · (refine Le.of ?_ ?_ rfl rfl <;> (try simp only [push_cast, seval]) <;> (try (with_reducible rfl)))
          all_goals (first | rfl | exact ⟨rfl, rfl⟩)
        · exact ⟨Nat.zero_le _, by show (0 : Int) ≤ r.ps.length; omega, fun j hj => by obtain rfl : j = 0 := by omega
                                                                                       show (r.ps.length : Int) ≤ 400; omega⟩
        · rintro k ⟨hk1, hk2, hk3⟩
          (refine w_go ?_)
          (apply Wp.cond; (exact w_ev))
          · intro hk4
            have hk4 : k < r.ts.length := by simpa using hk4
            obtain ⟨s1, s2⟩ := prN_step hv hk4 hk2 (hk3 k (Nat.le_refl _))
            have hs : prN r (k + 1) = prN r k * (r.ts.getD k th0).ss := rfl
            generalize hx : r.ts.getD k th0 = x at hs
            generalize hn : prN r (k + 1) = y at *
            have hw : IntKind.i64.wrap (prN r k * x.ss) = y := by rw [← hs]; exact wI (by omega) (by omega)
            (refine x_go (zc @hx @hw) ?_)
            (apply Wp.cond; (exact x_ev (zc @hx @hw)))
            · intro hq
              (refine x_go (zc @hx @hw) ?_)
              (first | exact x_ret (zc @hx @hw) | refine x_retZ (zc @hx @hw) ?_)
            · intro hq
              have hq : y ≤ 400 := by simpa using hq
              (refine x_go (zc @hx @hw) ?_)
              refine ⟨k + 1, ?_, ⟨by omega, by rw [hn]; exact s1, fun j hj => ?_⟩, by omega⟩
              · simp only [hn]
                (refine Le.of ?_ ?_ rfl rfl <;> (try simp only [push_cast, seval, hx, hw]) <;> (try (with_reducible rfl)))
              · by_cases hjk : j = k + 1
                · subst hjk; rw [hn]; exact hq
                · exact hk3 j (by omega)
          · intro hk4
            obtain rfl : k = r.ts.length := by
              have : ¬ k < r.ts.length := by simpa using hk4
              omega
            exfalso
            obtain ⟨j, j1, j2⟩ := hex
            have := hk3 (j + 1) (by omega)
            omega
      · have hno : ∀ k, k < r.ts.length → prN r (k + 1) ≤ 400 := fun k hk => by
          rcases Int.lt_or_le 400 (prN r (k + 1)) with h | h
          · exact absurd ⟨k, hk, h⟩ hex
          · exact h
        refine ⟨decide (4 < (r.ps.length : Int)) || decide (3 < (r.pp.length : Int)) || decide (3200 < prN r r.ts.length * 8), ?_, fun _ => rfl⟩
        unfold rmA rmC at *
        (refine Spec.bd 0 Tryz.func13 Tryz.results13 Tryz.ntmps13 ?_; simp only [entry, zipArgs, Nat.reduceAdd])
        (refine w_go ?_)
        (apply Run.pureFP; (exact w_ev); (exact (Enters.of Tryz.func20 rfl rfl)); (exact f1); (exact w_al); (try dsimp only [putA, optG]))
        (refine w_go ?_)
        (apply Run.pureFP; (exact w_ev); (exact (Enters.of Tryz.func44 rfl rfl)); (exact c1); (exact w_al); (try dsimp only [putA, optG]))
        (refine w_gg ?_)
        (refine w_fzP (slq 1) ?_)
        (refine w_gg ?_)
        refine Wp.loop (fun k : Nat => { t := [(1, .ref [.strs r.ps, .lst 4 (r.ts.map thA), .lst 3 (r.pp.map ppA), .lst 3 (r.wy.map wyA), .lst 8 (r.ac.map acA), .lst 3 (r.au.map auA), .int r.n, .lst 3 (r.goal.map ltA)] 0), (3, .int (prN r k)), (4, .int k)], m := [⟨1, .row 8 []⟩], n := 49 }) (fun k => k ≤ r.ts.length ∧ 0 ≤ prN r k ∧ prN r k ≤ 400) (fun k => r.ts.length - k) 0 ?_ ?_ ?_
        · (refine Le.of ?_ ?_ rfl rfl <;> (try simp only [push_cast, seval]) <;> (try (with_reducible rfl)))
          all_goals (first | rfl | exact ⟨rfl, rfl⟩)
        · exact ⟨Nat.zero_le _, by show (0 : Int) ≤ r.ps.length; omega, by show (r.ps.length : Int) ≤ 400; omega⟩
        · rintro k ⟨hk1, hk2, hk3⟩
          (refine w_go ?_)
          (apply Wp.cond; (exact w_ev))
          · intro hk4
            have hk4 : k < r.ts.length := by simpa using hk4
            obtain ⟨s1, s2⟩ := prN_step hv hk4 hk2 hk3
            have s3 := hno k hk4
            have hs : prN r (k + 1) = prN r k * (r.ts.getD k th0).ss := rfl
            generalize hx : r.ts.getD k th0 = x at hs
            generalize hn : prN r (k + 1) = y at *
            have hw : IntKind.i64.wrap (prN r k * x.ss) = y := by rw [← hs]; exact wI (by omega) (by omega)
            have e1 : decide (400 < y) = false := decide_eq_false (by omega)
            (refine x_gg (zc @hx (zc @hw @e1)) ?_)
            refine ⟨k + 1, ?_, ⟨by omega, by rw [hn]; exact s1, by rw [hn]; exact s3⟩, by omega⟩
            simp only [hn]
            (refine Le.of ?_ ?_ rfl rfl <;> (try simp only [push_cast, seval, hx, hw, e1]) <;> (try (with_reducible rfl)))
          · intro hk4
            obtain rfl : k = r.ts.length := by
              have : ¬ k < r.ts.length := by simpa using hk4
              omega
            generalize prN r r.ts.length = y at *
            have hw : IntKind.i64.wrap (y * 8) = y * 8 := wI (by omega) (by omega)
            (refine x_gg @hw ?_)
            (first | exact x_ret @hw | refine x_retZ @hw ?_)
    · have e2 : decide (chE r = 0) = false := decide_eq_false hch
      refine ⟨false, ?_, fun _ => rfl⟩
      generalize chE r = e at *
      unfold rmA rmC at *
      (refine Spec.bd 0 Tryz.func13 Tryz.results13 Tryz.ntmps13 ?_; simp only [entry, zipArgs, Nat.reduceAdd])
      (refine x_go (zc @e2 @Bool.not_false) ?_)
      (apply Run.pureFP; (exact x_ev (zc @e2 @Bool.not_false)); (exact (Enters.of Tryz.func20 rfl rfl)); (exact f1); (exact x_al (zc @e2 @Bool.not_false)); (try dsimp only [putA, optG]))
      (refine x_go (zc @e2 @Bool.not_false) ?_)
      (apply Run.pureFP; (exact x_ev (zc @e2 @Bool.not_false)); (exact (Enters.of Tryz.func44 rfl rfl)); (exact c1); (exact x_al (zc @e2 @Bool.not_false)); (try dsimp only [putA, optG]))
      (refine x_gg (zc @e2 @Bool.not_false) ?_)
      (apply Run.pureFP; (exact x_ev (zc @e2 @Bool.not_false)); (exact (Enters.of Tryz.func20 rfl rfl)); (exact f1); (exact x_al (zc @e2 @Bool.not_false)); (try dsimp only [putA, optG]))
      (refine x_gg (zc @e2 @Bool.not_false) ?_)
      (first | exact x_ret (zc @e2 @Bool.not_false) | refine x_retZ (zc @e2 @Bool.not_false) ?_)
end Go.Proofs.Tryz
set_option maxHeartbeats 32000000
namespace Go.Proofs.Tryz
open Go.Vg
theorem law_ResetLeast (r : Rm) (s : St) : Pure Tryz.prog 3 [rmA r, stA s] (.bool true) := by
 refine Spec.pre (C := Ln s) (fun X w ρ vs hr => by obtain ⟨_, _, _, _, _, _, _, h2, _⟩ := hr; exact st_len h2) fun hl => ?_
 have w1 := works_pure
 obtain ⟨lg, f1, hlg⟩ := Large_ex r
 have a1 := Away_pure hl
 cases lg with
 | true =>
  unfold rmA rmC at *
  unfold stA at *
  generalize awB s = b at *
  (refine Spec.bd 0 Tryz.func3 Tryz.results3 Tryz.ntmps3 ?_; simp only [entry, zipArgs, Nat.reduceAdd])
  (refine x_go @Bool.true_or ?_)
  (apply Run.pureFP; (exact x_ev @Bool.true_or); (exact (Enters.of Tryz.func13 rfl rfl)); (exact f1); (exact x_al @Bool.true_or); (try dsimp only [putA, optG]))
  (refine x_go @Bool.true_or ?_)
  (try (apply Run.pureP; (exact x_ev @Bool.true_or); (exact (Enters.of Tryz.func14 rfl rfl)); (exact a1); (exact x_al @Bool.true_or); (try dsimp only [putA, optG])))
  (refine x_gg @Bool.true_or ?_)
  (apply Run.pureP; (exact x_ev @Bool.true_or); (exact (Enters.of Tryz.func15 rfl rfl)); (exact w1); (exact x_al @Bool.true_or); (try dsimp only [putA, optG]))
  (refine x_gg @Bool.true_or ?_)
  (first | exact x_ret @Bool.true_or | refine x_retZ @Bool.true_or ?_)
 | false =>
  cases haw : awB s with
  | true =>
   rw [haw] at a1
   unfold rmA rmC at *
   unfold stA at *
   (refine Spec.bd 0 Tryz.func3 Tryz.results3 Tryz.ntmps3 ?_; simp only [entry, zipArgs, Nat.reduceAdd])
   (refine w_go ?_)
   (apply Run.pureFP; (exact w_ev); (exact (Enters.of Tryz.func13 rfl rfl)); (exact f1); (exact w_al); (try dsimp only [putA, optG]))
   (refine w_go ?_)
   (apply Run.pureFP; (exact w_ev); (exact (Enters.of Tryz.func14 rfl rfl)); (exact a1); (exact w_al); (try dsimp only [putA, optG]))
   (refine w_gg ?_)
   (apply Run.pureP; (exact w_ev); (exact (Enters.of Tryz.func15 rfl rfl)); (exact w1); (exact w_al); (try dsimp only [putA, optG]))
   (refine w_gg ?_)
   (first | exact w_ret | refine w_retZ ?_)
  | false =>
   rw [haw] at a1
   have hz := farB_Sz (hlg rfl)
   have hs := awB_Zs haw
   have g1 := CopyState_pure s hs
   have g2 := Copy_pure hz
   have g5 := least_pure hz hs
   unfold leA at g5
   by_cases hb : begE r s = 0
   ·have g6 := rleast_ok hz hs hb
    rw [if_pos hb] at g5
    obtain ⟨l, hlt⟩ : ∃ l, (leT r s).2 = l := ⟨_, rfl⟩
    have hll : l.length ≤ 100000 := by
     rcases least_law hb with h | ⟨h, _⟩ | ⟨_, _, _, _, _, h, _⟩
     ·have : (leT r s).2 = [] ∨ (leT r s).1 ≠ 2 := by
       unfold leT
       split
       ·exact .inl rfl
       ·split
        ·exact .inl rfl
        ·exact .inr (by simp)
      rcases this with h2 | h2
      ·rw [← hlt, h2]; simp
      ·exact absurd h h2
     ·have : (leT r s).2 = [] ∨ (leT r s).1 ≠ 90 := by
       unfold leT
       split
       ·exact .inl rfl
       ·split
        ·exact .inl rfl
        ·exact .inr (by simp)
      rcases this with h2 | h2
      ·rw [← hlt, h2]; simp
      ·exact absurd h h2
     ·rw [← hlt]; omega
    have hTAl : (l.map tkA).length = l.length := List.length_map _
    have hok := okL_tk 0 l
    have hgd : ∀ k, k < l.length → ∀ d, (l.map tkA).getD k d = tkA (l.getD k tk0) := fun k hk d => getD_tk d hk
    rw [hlt] at g5 g6
    generalize (leT r s).1 = e at *
    generalize l.map tkA = TA at *
    unfold rmA rmC at *
    unfold stA at *
    (refine Spec.bd 0 Tryz.func3 Tryz.results3 Tryz.ntmps3 ?_; simp only [entry, zipArgs, Nat.reduceAdd])
    ((refine x_pre (zc @hTAl (zc @hok (zc @beqSf @decide_true))) ?_); (iterate 3 (refine x_nr (zc @hTAl (zc @hok (zc @beqSf @decide_true))) ?_)); (refine x_nil (zc @hTAl (zc @hok (zc @beqSf @decide_true))) ?_))
    (refine x_fzP (zc @hTAl (zc @hok (zc @beqSf @decide_true))) (slq 2) ?_)
    (refine x_fzP (zc @hTAl (zc @hok (zc @beqSf @decide_true))) (slq 3) ?_)
    (refine x_go (zc @hTAl (zc @hok (zc @beqSf @decide_true))) ?_)
    (apply Run.pureFP; (exact x_ev (zc @hTAl (zc @hok (zc @beqSf @decide_true)))); (exact (Enters.of Tryz.func13 rfl rfl)); (exact f1); (exact x_al (zc @hTAl (zc @hok (zc @beqSf @decide_true)))); (try dsimp only [putA, optG]))
    (refine x_go (zc @hTAl (zc @hok (zc @beqSf @decide_true))) ?_)
    (apply Run.pureFP; (exact x_ev (zc @hTAl (zc @hok (zc @beqSf @decide_true)))); (exact (Enters.of Tryz.func14 rfl rfl)); (exact a1); (exact x_al (zc @hTAl (zc @hok (zc @beqSf @decide_true)))); (try dsimp only [putA, optG]))
    (refine x_gg (zc @hTAl (zc @hok (zc @beqSf @decide_true))) ?_)
    (refine Wp.rnD 9 ?_; apply exAb; (((refine x_abn (zc @hTAl (zc @hok (zc @beqSf @decide_true))) ?_); (apply Abn.pureFP; (exact x_ev (zc @hTAl (zc @hok (zc @beqSf @decide_true)))); (exact (Enters.of Tryz.func17 rfl rfl)); (exact g2); (exact x_al (zc @hTAl (zc @hok (zc @beqSf @decide_true)))); (try dsimp only [putA, optG])); (refine x_abn (zc @hTAl (zc @hok (zc @beqSf @decide_true))) ?_); (apply Abn.pureFP; (exact x_ev (zc @hTAl (zc @hok (zc @beqSf @decide_true)))); (exact (Enters.of Tryz.func18 rfl rfl)); (exact g1); (exact x_al (zc @hTAl (zc @hok (zc @beqSf @decide_true)))); (try dsimp only [putA, optG])); (refine x_abn (zc @hTAl (zc @hok (zc @beqSf @decide_true))) ?_); (apply Abn.pureFP; (exact x_ev (zc @hTAl (zc @hok (zc @beqSf @decide_true)))); (exact (Enters.of Tryz.func16 rfl rfl)); (exact g5); (exact x_al (zc @hTAl (zc @hok (zc @beqSf @decide_true)))); (try dsimp only [putA, optG])); (refine x_abn (zc @hTAl (zc @hok (zc @beqSf @decide_true))) ?_)); exact Abn.nil))
    (refine x_gg (zc @hTAl (zc @hok (zc @beqSf @decide_true))) ?_)
    (apply Run.pureFP; (exact x_ev (zc @hTAl (zc @hok (zc @beqSf @decide_true)))); (exact (Enters.of Tryz.func19 rfl rfl)); (exact g6); (exact x_al (zc @hTAl (zc @hok (zc @beqSf @decide_true)))); (try dsimp only [putA, optG]))
    (refine x_gg (zc @hTAl (zc @hok (zc @beqSf @decide_true))) ?_)
    refine Wp.loop (fun k : Nat => { t := [(5, .lst 3 TA), (7, .lst 3 TA), (9, .int k)], m := [⟨1, .row 8 []⟩, ⟨1, .row 3 []⟩], n := 57 }) (fun k => k ≤ l.length) (fun k => l.length - k) 0 ?_ ?_ ?_
    ·(refine Le.of ?_ ?_ rfl rfl <;> (try simp only [push_cast, seval, hTAl, hok, beq_self_eq_true, decide_true]) <;> (try (with_reducible rfl)))
    ·exact Nat.zero_le _
    ·intro k hk1
     (refine x_go (zc @hTAl (zc @hok (zc @beqSf @decide_true))) ?_)
     (apply Wp.cond; (exact x_ev (zc @hTAl (zc @hok (zc @beqSf @decide_true)))))
     ·intro hk
      have hk : k < l.length := by simpa using hk
      have htg := hgd k hk
      generalize l.getD k tk0 = t at htg
      unfold tkA at htg
      (refine x_go (zc @hTAl (zc @hok (zc @htg (zc @beqSf @decide_true)))) ?_)
      (refine Wp.rnD 9 ?_; apply exAb; (((refine x_abn (zc @hTAl (zc @hok (zc @htg (zc @beqSf @decide_true)))) ?_)); exact Abn.nil))
      (refine x_gg (zc @hTAl (zc @hok (zc @htg (zc @beqSf @decide_true)))) ?_)
      refine ⟨k + 1, ?_, by omega, by omega⟩
      (refine Le.of ?_ ?_ rfl rfl <;> (try simp only [push_cast, seval, hTAl, hok, htg, beq_self_eq_true, decide_true]) <;> (try (with_reducible rfl)))
     ·intro hk
      (refine x_go (zc @hTAl (zc @hok (zc @beqSf @decide_true))) ?_)
      (apply Run.pureP; (exact x_ev (zc @hTAl (zc @hok (zc @beqSf @decide_true)))); (exact (Enters.of Tryz.func15 rfl rfl)); (exact w1); (exact x_al (zc @hTAl (zc @hok (zc @beqSf @decide_true)))); (try dsimp only [putA, optG]))
      (refine x_gg (zc @hTAl (zc @hok (zc @beqSf @decide_true))) ?_)
      (first | exact x_ret (zc @hTAl (zc @hok (zc @beqSf @decide_true))) | refine x_retZ (zc @hTAl (zc @hok (zc @beqSf @decide_true))) ?_)
   ·have g6 := rleast_err hz hs hb
    rw [if_neg hb] at g5
    generalize begE r s = e at *
    unfold rmA rmC at *
    unfold stA at *
    (refine Spec.bd 0 Tryz.func3 Tryz.results3 Tryz.ntmps3 ?_; simp only [entry, zipArgs, Nat.reduceAdd])
    ((refine x_pre (zc @beqSf @decide_true) ?_); (iterate 3 (refine x_nr (zc @beqSf @decide_true) ?_)); (refine x_nil (zc @beqSf @decide_true) ?_))
    (refine x_fzP (zc @beqSf @decide_true) (slq 2) ?_)
    (refine x_fzP (zc @beqSf @decide_true) (slq 3) ?_)
    (refine x_go (zc @beqSf @decide_true) ?_)
    (apply Run.pureFP; (exact x_ev (zc @beqSf @decide_true)); (exact (Enters.of Tryz.func13 rfl rfl)); (exact f1); (exact x_al (zc @beqSf @decide_true)); (try dsimp only [putA, optG]))
    (refine x_go (zc @beqSf @decide_true) ?_)
    (apply Run.pureFP; (exact x_ev (zc @beqSf @decide_true)); (exact (Enters.of Tryz.func14 rfl rfl)); (exact a1); (exact x_al (zc @beqSf @decide_true)); (try dsimp only [putA, optG]))
    (refine x_gg (zc @beqSf @decide_true) ?_)
    (refine Wp.rnD 9 ?_; apply exAb; (((refine x_abn (zc @beqSf @decide_true) ?_); (apply Abn.pureFP; (exact x_ev (zc @beqSf @decide_true)); (exact (Enters.of Tryz.func17 rfl rfl)); (exact g2); (exact x_al (zc @beqSf @decide_true)); (try dsimp only [putA, optG])); (refine x_abn (zc @beqSf @decide_true) ?_); (apply Abn.pureFP; (exact x_ev (zc @beqSf @decide_true)); (exact (Enters.of Tryz.func18 rfl rfl)); (exact g1); (exact x_al (zc @beqSf @decide_true)); (try dsimp only [putA, optG])); (refine x_abn (zc @beqSf @decide_true) ?_); (apply Abn.pureFP; (exact x_ev (zc @beqSf @decide_true)); (exact (Enters.of Tryz.func16 rfl rfl)); (exact g5); (exact x_al (zc @beqSf @decide_true)); (try dsimp only [putA, optG])); (refine x_abn (zc @beqSf @decide_true) ?_)); exact Abn.nil))
    (refine x_gg (zc @beqSf @decide_true) ?_)
    (apply Run.pureFP; (exact x_ev (zc @beqSf @decide_true)); (exact (Enters.of Tryz.func19 rfl rfl)); (exact g6); (exact x_al (zc @beqSf @decide_true)); (try dsimp only [putA, optG]))
    (refine x_gg (zc @beqSf @decide_true) ?_)
    refine Wp.loop (fun _ : Unit => { t := [(5, .lst 3 []), (7, .emp), (9, .int 0)], m := [⟨1, .row 8 []⟩, ⟨1, .row 3 []⟩], n := 57 }) (fun _ => True) (fun _ => 0) () ?_ ?_ ?_
    ·(refine Le.of ?_ ?_ rfl rfl <;> (try simp only [push_cast, seval, beq_self_eq_true, decide_true]) <;> (try (with_reducible rfl)))
    ·trivial
    ·rintro _ _
     (refine x_gg (zc @beqSf @decide_true) ?_)
     (apply Run.pureP; (exact x_ev (zc @beqSf @decide_true)); (exact (Enters.of Tryz.func15 rfl rfl)); (exact w1); (exact x_al (zc @beqSf @decide_true)); (try dsimp only [putA, optG]))
     (refine x_gg (zc @beqSf @decide_true) ?_)
     (first | exact x_ret (zc @beqSf @decide_true) | refine x_retZ (zc @beqSf @decide_true) ?_)
end Go.Proofs.Tryz
