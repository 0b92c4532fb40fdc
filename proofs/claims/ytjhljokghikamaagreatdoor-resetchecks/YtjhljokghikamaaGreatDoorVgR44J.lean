/- A part of the proof of ResetChecks: contracts of functions, with plain laws that they need. -/
import Derived.Carry
import Derived.OpenShut
import Derived.Deep.Slices
import Derived.Deep.Strs
import Derived.Deep.DeepHandedRow
import Derived.Lib.LaidTab
import Derived.Lib.ItoaNum
import Derived.Test.YtjhljokghikamaaGreatDoorVgR34J
set_option linter.all false
set_option maxHeartbeats 16000000
namespace Go.Proofs.Tryz
open Go.Vg

/-! the document's play, Check and Play -/
theorem over_pure (f : St) (pl : List Int) (x : Sd) (h1 : x.ts.length ≤ 1000) (h2 : x.pp.length ≤ 1000) : Pure Tryz.prog 63 [stA f, sdA pl x] (.bool (ovB f pl x)) := by
  have c1 := sameInts_pure x.ts f.ts h1
  have c2 := sameInts_pure x.pp f.pp h2
  have e : ovB f pl x = (decide (x.at_ = 0) && decide (x.ts = f.ts) && decide (x.pp = f.pp)) := by
    unfold ovB rsB sdS
    rw [Bool.and_assoc]
  rw [e]
  unfold stA sdA
  (refine Spec.bd 0 Tryz.func63 Tryz.results63 Tryz.ntmps63 ?_; simp only [entry, zipArgs, Nat.reduceAdd])
  ((refine w_pre ?_); (iterate 3 (refine w_nr ?_)); (refine w_nil ?_))
  (refine w_fzP (slq 2) ?_)
  (refine w_fzP (slq 3) ?_)
  (refine w_go ?_)
  (apply Run.pureP; (exact w_ev); (exact (Enters.of Tryz.func25 rfl rfl)); (exact c1); (exact w_al); (try dsimp only [putA, optG]))
  (refine w_go ?_)
  (apply Run.pureP; (exact w_ev); (exact (Enters.of Tryz.func25 rfl rfl)); (exact c2); (exact w_al); (try dsimp only [putA, optG]))
  (refine w_go ?_)
  (first | exact w_ret | refine w_retZ ?_)
def pyA (r : Rm) (f : St) (pl : List Int) (l : List Tk) (x : Sd) : AV :=
  if ckN r f pl l x < l.length then .tup [stN, .int (ckN r f pl l x)] else if ovB f pl (ckL r f pl l x) = true then .tup [stA (sdS pl (ckL r f pl l x)), .int (-1)] else .tup [stN, .int l.length]
theorem play_pure {r : Rm} (hz : Sz r) (hv : RV r) (hb : bgE r = 0) {s : St} (hs : SdOk r s.pl (lsB r s)) (l : List Tk) (hl : l.length ≤ 100000) : Pure Tryz.prog 72 [rmA r, stA s, .lst 3 (l.map tkA)] (pyA r (bgS r) s.pl l (lsB r s)) := by
  have hf := bg_SV hb
  have c0 := rfirst_pure hz
  unfold bgA at c0
  rw [hb, if_pos rfl] at c0
  generalize bgS r = f at *
  have hTAl : (l.map tkA).length = l.length := List.length_map _
  have hgd : ∀ k, k < l.length → ∀ d, (l.map tkA).getD k d = tkA (l.getD k tk0) := fun k hk d => getD_tk d hk
  have hok := okL_tk 0 l
  generalize hTk : l.map tkA = TA at *
  have hcn : ∀ x : Sd, SdOk r s.pl x → ∀ t, _ := fun x hx t => rcan_pure hz hv hf hx (SV.zs hz hv hx.1) t
  have hov : ∀ x : Sd, SdOk r s.pl x → _ := fun x hx => over_pure f s.pl x (by have : x.ts.length = _ := hx.1.ts; have := hz.ts; omega) (by have : x.pp.length = _ := hx.1.pp; have := hz.pp; omega)
  unfold pyA
  obtain ⟨M, hM⟩ : ∃ M, ckN r f s.pl l (lsB r s) = M := ⟨_, rfl⟩
  obtain ⟨L, hL⟩ : ∃ L, ckL r f s.pl l (lsB r s) = L := ⟨_, rfl⟩
  rw [hM, hL]
  unfold rmA rmC at *
  unfold stA at *
  generalize s.pl = pl at *
  (refine Spec.bd 0 Tryz.func72 Tryz.results72 Tryz.ntmps72 ?_; simp only [entry, zipArgs, Nat.reduceAdd])
  ((refine x_pre (zc @hTAl @hok) ?_); (iterate 4 (refine x_nr (zc @hTAl @hok) ?_)); (refine x_nil (zc @hTAl @hok) ?_))
  (refine x_fzP (zc @hTAl @hok) (slq 3) ?_)
  (refine x_fzP (zc @hTAl @hok) (slq 4) ?_)
  (refine x_go (zc @hTAl @hok) ?_)
  (apply Run.pureFP; (exact x_ev (zc @hTAl @hok)); (exact (Enters.of Tryz.func59 rfl rfl)); (exact c0); (exact x_al (zc @hTAl @hok)); (try dsimp only [putA, optG]))
  (refine x_go (zc @hTAl @hok) ?_)
  (refine Wp.vacs 1 ?_; (try simp only [List.replicate_succ, List.replicate_zero, List.cons_append, List.nil_append]))
  refine Wp.loop (fun (q : Nat × Sd × Nat × Kind) => { t := [(2, .lst 3 TA), (3, .ref [.strs r.ps, .lst 4 (r.ts.map thA), .lst 3 (r.pp.map ppA), .lst 3 (r.wy.map wyA), .lst 8 (r.ac.map acA), .lst 3 (r.au.map auA), .int r.n, .lst 3 (r.goal.map ltA)] 0), (6, .optr 2 0 0 0), (8, .optr 3 0 0 0), (10, .optr 4 0 0 0), (11, .int q.1)], m := [⟨1, .row 8 []⟩, ⟨1, .row 3 []⟩, ⟨0, .row 3 [stN]⟩, ⟨0, .row 3 [.agg [.ints f.ts, .ints f.pp, .ints f.pl]]⟩, ⟨0, .row 4 [.agg [.ints q.2.1.ts, .ints q.2.1.pp, .ints pl, .int q.2.1.at_]]⟩, ⟨q.2.2.1, q.2.2.2⟩], n := 52 })
    (fun q => q.1 ≤ l.length ∧ SdOk r pl q.2.1 ∧ M = q.1 + ckN r f pl (l.drop q.1) q.2.1 ∧ L = ckL r f pl (l.drop q.1) q.2.1) (fun q => l.length - q.1) (0, lsB r s, 0, .row 1 []) ?_ ?_ ?_
  · (refine Le.of ?_ ?_ rfl rfl <;> (try simp only [push_cast, seval, hTAl, hok]) <;> (try (with_reducible rfl)))
    all_goals (first | rfl | exact ⟨rfl, rfl⟩ | (unfold lsB; exact ⟨rfl, rfl⟩) | (unfold lsB; rfl))
  · exact ⟨Nat.zero_le _, hs, by simp [hM], by simp [hL]⟩
  · rintro ⟨k, x, v, kd⟩ ⟨hk1, hk2, hk5, hk6⟩
    simp only at hk1 hk2 hk5 hk6
    (refine x_go (zc @hTAl @hok) ?_)
    (apply Wp.cond; (exact x_ev (zc @hTAl @hok)))
    · intro hk7
      have hk7 : k < l.length := by simpa using hk7
      have htg := hgd k hk7
      have hdr : l.drop k = l.getD k tk0 :: l.drop (k + 1) := by
        rw [List.drop_eq_getElem_cons hk7]; simp [hk7]
      rw [hdr] at hk5 hk6
      obtain ⟨t, ht⟩ : ∃ t, l.getD k tk0 = t := ⟨_, rfl⟩
      rw [ht] at hk5 hk6
      simp only [ht] at htg
      have c4 := hcn x hk2 t
      unfold ckN at hk5
      unfold ckL at hk6
      cases hcb : canB r f (sdS pl x) x.at_ t with
      | false =>
        rw [hcb, if_neg (by simp)] at c4
        rw [if_neg (by rw [hcb]; simp)] at hk5 hk6
        unfold tkA at htg c4
        unfold sdA at c4
        (refine x_go (zc @hTAl (zc @hok @htg)) ?_)
        (apply Wp.runGS 5 mixed; (dsimp only [List.map] <;> exact rfl); exact rfl; kernel_rfl; (dsimp only [List.take] <;> exact rfl); (dsimp only [List.drop] <;> exact rfl); (((refine x_gp (zc @hTAl (zc @hok @htg)) ?_); (apply AbsG.callF; exact rfl; (exact x_ev (zc @hTAl (zc @hok @htg))); (exact (Enters.of Tryz.func62 rfl rfl)); (exact c4); (exact x_al (zc @hTAl (zc @hok @htg))); (try dsimp only [upd, optG])); (refine x_gp (zc @hTAl (zc @hok @htg)) ?_); (apply AbsG.new 0; exact rfl; (exact x_ev (zc @hTAl (zc @hok @htg))); ((try simp only [push_cast, seval, hTAl, hok, htg]) <;> exact sT); exact rfl; dsimp only [upd, alcV, List.set, List.length_cons, List.length_nil, Nat.reduceAdd]); (apply AbsG.eff 0; exact rfl; exact rfl; (exact x_ev (zc @hTAl (zc @hok @htg))); ((try simp only [push_cast, seval, hTAl, hok, htg]) <;> exact sT); dsimp only [upd, List.set, List.length_cons, List.length_nil, Nat.reduceAdd]); (refine x_gp (zc @hTAl (zc @hok @htg)) ?_)); exact AbsG.nil); kernel_rfl; (try dsimp only [List.cons_append, List.nil_append]))
        (refine x_gg (zc @hTAl (zc @hok @htg)) ?_)
        (first | exact x_ret (zc @hTAl (zc @hok @htg)) | refine x_retZ (zc @hTAl (zc @hok @htg)) ?_)
        rw [if_pos (by omega), hk5, Nat.add_zero]
      | true =>
        rw [hcb, if_pos rfl] at c4
        rw [if_pos (by rw [hcb])] at hk5 hk6
        have hy := nx_ok hv hf hk2 hcb
        generalize nxT r f pl x t = y at *
        unfold tkA at htg c4
        unfold sdA at c4
        (refine x_go (zc @hTAl (zc @hok @htg)) ?_)
        (apply Wp.runGS 5 mixed; (dsimp only [List.map] <;> exact rfl); exact rfl; kernel_rfl; (dsimp only [List.take] <;> exact rfl); (dsimp only [List.drop] <;> exact rfl); (((refine x_gp (zc @hTAl (zc @hok @htg)) ?_); (apply AbsG.callF; exact rfl; (exact x_ev (zc @hTAl (zc @hok @htg))); (exact (Enters.of Tryz.func62 rfl rfl)); (exact c4); (exact x_al (zc @hTAl (zc @hok @htg))); (try dsimp only [upd, optG])); (refine x_gp (zc @hTAl (zc @hok @htg)) ?_); (apply AbsG.new 0; exact rfl; (exact x_ev (zc @hTAl (zc @hok @htg))); ((try simp only [push_cast, seval, hTAl, hok, htg]) <;> exact sT); exact rfl; dsimp only [upd, alcV, List.set, List.length_cons, List.length_nil, Nat.reduceAdd]); (apply AbsG.eff 0; exact rfl; exact rfl; (exact x_ev (zc @hTAl (zc @hok @htg))); ((try simp only [push_cast, seval, hTAl, hok, htg]) <;> exact sT); dsimp only [upd, List.set, List.length_cons, List.length_nil, Nat.reduceAdd]); (refine x_gp (zc @hTAl (zc @hok @htg)) ?_)); exact AbsG.nil); kernel_rfl; (try dsimp only [List.cons_append, List.nil_append]))
        (refine x_gg (zc @hTAl (zc @hok @htg)) ?_)
        refine ⟨(k + 1, y, v + 1, .row 4 [.agg [.ints y.ts, .ints y.pp, .ints pl, .int y.at_]]), ?_, ⟨by simp only; omega, hy, by rw [hk5]; simp only; omega, hk6⟩, by simp only; omega⟩
        (refine Le.of ?_ ?_ rfl rfl <;> (try simp only [push_cast, seval, hTAl, hok, htg]) <;> (try (with_reducible rfl)))
    · intro hk7
      obtain rfl : k = l.length := by
        have : ¬ k < l.length := by simpa using hk7
        omega
      rw [List.drop_length] at hk5 hk6
      have hk5 : M = l.length := by rw [hk5]; rfl
      have hk6 : L = x := hk6
      subst hk6
      have c3 := hov L hk2
      rw [if_neg (by omega)]
      unfold sdA at c3
      generalize ovB f pl L = rb at *
      cases rb with
      | true =>
        rw [if_pos rfl]
        (refine x_go (zc @hTAl @hok) ?_)
        (apply Run.pureFP; (exact x_ev (zc @hTAl @hok)); (exact (Enters.of Tryz.func63 rfl rfl)); (exact c3); (exact x_al (zc @hTAl @hok)); (try dsimp only [putA, optG]))
        (refine x_gg (zc @hTAl @hok) ?_)
        (first | exact x_ret (zc @hTAl @hok) | refine x_retZ (zc @hTAl @hok) ?_)
      | false =>
        rw [if_neg (by simp)]
        (refine x_go (zc @hTAl @hok) ?_)
        (apply Run.pureFP; (exact x_ev (zc @hTAl @hok)); (exact (Enters.of Tryz.func63 rfl rfl)); (exact c3); (exact x_al (zc @hTAl @hok)); (try dsimp only [putA, optG]))
        (refine x_gg (zc @hTAl @hok) ?_)
        (first | exact x_ret (zc @hTAl @hok) | refine x_retZ (zc @hTAl @hok) ?_)
/-- what Check and Play answer -/
def ckA (r : Rm) (s : St) (l : List Tk) : AV := if begE r s = 0 then .tup [.int (ckR r (bgS r) s.pl l (lsB r s)).1, .int (ckR r (bgS r) s.pl l (lsB r s)).2] else .tup [.int 0, .int (begE r s)]
def plA (r : Rm) (s : St) (l : List Tk) : AV := if begE r s = 0 then (if (ckR r (bgS r) s.pl l (lsB r s)).2 = 0 then .tup [stA (sdS s.pl (ckL r (bgS r) s.pl l (lsB r s))), .int 0] else .tup [stN, .int (ckR r (bgS r) s.pl l (lsB r s)).2]) else .tup [stN, .int (begE r s)]
theorem lsB_ok {r : Rm} {s : St} (hv : RV r) (hs2 : SV r s) : SdOk r s.pl (lsB r s) := ⟨hs2, Int.le_refl _, by have := hv.ps; simp only [lsB]; omega⟩
theorem rCheck_pure {r : Rm} (hz : Sz r) {s : St} (hs : Zs s) (l : List Tk) (hl : l.length ≤ 100000) : Pure Tryz.prog 34 [rmA r, stA s, .lst 3 (l.map tkA)] (ckA r s l) := by
  have c0 := rCheckState_pure hz hs
  unfold ckA
  have hTAl : (l.map tkA).length = l.length := List.length_map _
  have hok := okL_tk 0 l
  by_cases h1 : begE r s = 0
  · obtain ⟨hb0, hb1⟩ := begE_zero h1
    obtain ⟨hv, hs2, hch⟩ := cs_zero hb1
    have c1 := play_pure hz hv hb0 (lsB_ok hv hs2) l hl
    rw [h1] at c0
    rw [if_pos h1]
    unfold pyA at c1
    unfold ckR
    generalize l.map tkA = TA at *
    by_cases hbig : 200 < l.length
    · have e1 : decide ((200 : Int) < (l.length : Int)) = true := decide_eq_true (by omega)
      rw [if_pos hbig]
      unfold rmA rmC at *
      unfold stA at *
      (refine Spec.bd 0 Tryz.func34 Tryz.results34 Tryz.ntmps34 ?_; simp only [entry, zipArgs, Nat.reduceAdd])
      ((refine x_pre (zc @hTAl (zc @hok @e1)) ?_); (iterate 4 (refine x_nr (zc @hTAl (zc @hok @e1)) ?_)); (refine x_nil (zc @hTAl (zc @hok @e1)) ?_))
      (refine x_fzP (zc @hTAl (zc @hok @e1)) (slq 3) ?_)
      (refine x_fzP (zc @hTAl (zc @hok @e1)) (slq 4) ?_)
      (refine x_go (zc @hTAl (zc @hok @e1)) ?_)
      (apply Run.pureP; (exact x_ev (zc @hTAl (zc @hok @e1))); (exact (Enters.of Tryz.func58 rfl rfl)); (exact c0); (exact x_al (zc @hTAl (zc @hok @e1))); (try dsimp only [putA, optG]))
      (refine x_gg (zc @hTAl (zc @hok @e1)) ?_)
      (first | exact x_ret (zc @hTAl (zc @hok @e1)) | refine x_retZ (zc @hTAl (zc @hok @e1)) ?_)
    · have e1 : decide ((200 : Int) < (l.length : Int)) = false := decide_eq_false (by omega)
      rw [if_neg hbig]
      generalize ckN r (bgS r) s.pl l (lsB r s) = M at *
      by_cases h2 : M < l.length
      · rw [if_pos h2] at c1 ⊢
        have e2 : decide ((0 : Int) ≤ (M : Int)) = true := decide_eq_true (by omega)
        unfold rmA rmC at *
        unfold stA at *
        (refine Spec.bd 0 Tryz.func34 Tryz.results34 Tryz.ntmps34 ?_; simp only [entry, zipArgs, Nat.reduceAdd])
        ((refine x_pre (zc @hTAl (zc @hok (zc @e1 @e2))) ?_); (iterate 4 (refine x_nr (zc @hTAl (zc @hok (zc @e1 @e2))) ?_)); (refine x_nil (zc @hTAl (zc @hok (zc @e1 @e2))) ?_))
        (refine x_fzP (zc @hTAl (zc @hok (zc @e1 @e2))) (slq 3) ?_)
        (refine x_fzP (zc @hTAl (zc @hok (zc @e1 @e2))) (slq 4) ?_)
        (refine x_go (zc @hTAl (zc @hok (zc @e1 @e2))) ?_)
        (apply Run.pureP; (exact x_ev (zc @hTAl (zc @hok (zc @e1 @e2)))); (exact (Enters.of Tryz.func58 rfl rfl)); (exact c0); (exact x_al (zc @hTAl (zc @hok (zc @e1 @e2)))); (try dsimp only [putA, optG]))
        (refine x_gg (zc @hTAl (zc @hok (zc @e1 @e2))) ?_)
        (apply Run.pureFP; (exact x_ev (zc @hTAl (zc @hok (zc @e1 @e2)))); (exact (Enters.of Tryz.func72 rfl rfl)); (exact c1); (exact x_al (zc @hTAl (zc @hok (zc @e1 @e2)))); (try dsimp only [putA, optG]))
        (refine x_gg (zc @hTAl (zc @hok (zc @e1 @e2))) ?_)
        (first | exact x_ret (zc @hTAl (zc @hok (zc @e1 @e2))) | refine x_retZ (zc @hTAl (zc @hok (zc @e1 @e2))) ?_)
      · rw [if_neg h2] at c1 ⊢
        generalize ckL r (bgS r) s.pl l (lsB r s) = y at *
        cases ho : ovB (bgS r) s.pl y with
        | true =>
          rw [ho, if_pos rfl] at c1
          rw [if_pos rfl]
          unfold rmA rmC at *
          unfold stA at *
          (refine Spec.bd 0 Tryz.func34 Tryz.results34 Tryz.ntmps34 ?_; simp only [entry, zipArgs, Nat.reduceAdd])
          ((refine x_pre (zc @hTAl (zc @hok @e1)) ?_); (iterate 4 (refine x_nr (zc @hTAl (zc @hok @e1)) ?_)); (refine x_nil (zc @hTAl (zc @hok @e1)) ?_))
          (refine x_fzP (zc @hTAl (zc @hok @e1)) (slq 3) ?_)
          (refine x_fzP (zc @hTAl (zc @hok @e1)) (slq 4) ?_)
          (refine x_go (zc @hTAl (zc @hok @e1)) ?_)
          (apply Run.pureP; (exact x_ev (zc @hTAl (zc @hok @e1))); (exact (Enters.of Tryz.func58 rfl rfl)); (exact c0); (exact x_al (zc @hTAl (zc @hok @e1))); (try dsimp only [putA, optG]))
          (refine x_gg (zc @hTAl (zc @hok @e1)) ?_)
          (apply Run.pureFP; (exact x_ev (zc @hTAl (zc @hok @e1))); (exact (Enters.of Tryz.func72 rfl rfl)); (exact c1); (exact x_al (zc @hTAl (zc @hok @e1))); (try dsimp only [putA, optG]))
          (refine x_gg (zc @hTAl (zc @hok @e1)) ?_)
          (first | exact x_ret (zc @hTAl (zc @hok @e1)) | refine x_retZ (zc @hTAl (zc @hok @e1)) ?_)
        | false =>
          rw [ho, if_neg (by simp)] at c1
          rw [if_neg (by simp)]
          have e2 : decide ((0 : Int) ≤ (l.length : Int)) = true := decide_eq_true (by omega)
          unfold rmA rmC at *
          unfold stA at *
          (refine Spec.bd 0 Tryz.func34 Tryz.results34 Tryz.ntmps34 ?_; simp only [entry, zipArgs, Nat.reduceAdd])
          ((refine x_pre (zc @hTAl (zc @hok (zc @e1 @e2))) ?_); (iterate 4 (refine x_nr (zc @hTAl (zc @hok (zc @e1 @e2))) ?_)); (refine x_nil (zc @hTAl (zc @hok (zc @e1 @e2))) ?_))
          (refine x_fzP (zc @hTAl (zc @hok (zc @e1 @e2))) (slq 3) ?_)
          (refine x_fzP (zc @hTAl (zc @hok (zc @e1 @e2))) (slq 4) ?_)
          (refine x_go (zc @hTAl (zc @hok (zc @e1 @e2))) ?_)
          (apply Run.pureP; (exact x_ev (zc @hTAl (zc @hok (zc @e1 @e2)))); (exact (Enters.of Tryz.func58 rfl rfl)); (exact c0); (exact x_al (zc @hTAl (zc @hok (zc @e1 @e2)))); (try dsimp only [putA, optG]))
          (refine x_gg (zc @hTAl (zc @hok (zc @e1 @e2))) ?_)
          (apply Run.pureFP; (exact x_ev (zc @hTAl (zc @hok (zc @e1 @e2)))); (exact (Enters.of Tryz.func72 rfl rfl)); (exact c1); (exact x_al (zc @hTAl (zc @hok (zc @e1 @e2)))); (try dsimp only [putA, optG]))
          (refine x_gg (zc @hTAl (zc @hok (zc @e1 @e2))) ?_)
          (first | exact x_ret (zc @hTAl (zc @hok (zc @e1 @e2))) | refine x_retZ (zc @hTAl (zc @hok (zc @e1 @e2))) ?_)
  · have e2 : decide (begE r s = 0) = false := decide_eq_false h1
    rw [if_neg h1]
    generalize begE r s = e at *
    generalize l.map tkA = TA at *
    unfold rmA rmC at *
    unfold stA at *
    (refine Spec.bd 0 Tryz.func34 Tryz.results34 Tryz.ntmps34 ?_; simp only [entry, zipArgs, Nat.reduceAdd])
    ((refine x_pre (zc @e2 @Bool.not_false) ?_); (iterate 4 (refine x_nr (zc @e2 @Bool.not_false) ?_)); (refine x_nil (zc @e2 @Bool.not_false) ?_))
    (refine x_fzP (zc @e2 @Bool.not_false) (slq 3) ?_)
    (refine x_fzP (zc @e2 @Bool.not_false) (slq 4) ?_)
    (refine x_go (zc @e2 @Bool.not_false) ?_)
    (apply Run.pureP; (exact x_ev (zc @e2 @Bool.not_false)); (exact (Enters.of Tryz.func58 rfl rfl)); (exact c0); (exact x_al (zc @e2 @Bool.not_false)); (try dsimp only [putA, optG]))
    (refine x_gg (zc @e2 @Bool.not_false) ?_)
    (first | exact x_ret (zc @e2 @Bool.not_false) | refine x_retZ (zc @e2 @Bool.not_false) ?_)
theorem ckR_ok {r : Rm} {f : St} {pl : List Int} {l : List Tk} {x : Sd} (h : (ckR r f pl l x).2 = 0) : l.length ≤ 200 ∧ ¬ ckN r f pl l x < l.length ∧ ovB f pl (ckL r f pl l x) = true ∧ ckR r f pl l x = (0, 0) := by
  unfold ckR at h ⊢
  split at h
  · cases h
  · rename_i h1
    split at h
    · cases h
    · rename_i h2
      split at h
      · rename_i h3
        exact ⟨by omega, h2, h3, by rw [if_neg h1, if_neg h2, if_pos h3]⟩
      · cases h
theorem rPlay_pure {r : Rm} (hz : Sz r) {s : St} (hs : Zs s) (l : List Tk) (hl : l.length ≤ 100000) : Pure Tryz.prog 36 [rmA r, stA s, .lst 3 (l.map tkA)] (plA r s l) := by
  have c0 := rCheck_pure hz hs l hl
  have hok := okL_tk 0 l
  unfold plA
  unfold ckA at c0
  by_cases h1 : begE r s = 0
  · obtain ⟨hb0, hb1⟩ := begE_zero h1
    obtain ⟨hv, hs2, hch⟩ := cs_zero hb1
    have hx := lsB_ok hv hs2
    rw [if_pos h1] at c0 ⊢
    by_cases h2 : (ckR r (bgS r) s.pl l (lsB r s)).2 = 0
    · obtain ⟨q1, q2, q3, q4⟩ := ckR_ok h2
      have c1 := play_pure hz hv hb0 hx l hl
      unfold pyA at c1
      rw [if_neg q2, if_pos q3] at c1
      rw [if_pos h2]
      rw [q4] at c0
      have c2 := CopyState_pure (sdS s.pl (ckL r (bgS r) s.pl l (lsB r s))) (SV.zs hz hv (ckL_ok hv (bg_SV hb0) l hx).1)
      generalize sdS s.pl (ckL r (bgS r) s.pl l (lsB r s)) = y at *
      generalize l.map tkA = TA at *
      unfold rmA rmC at *
      unfold stA at *
      (refine Spec.bd 0 Tryz.func36 Tryz.results36 Tryz.ntmps36 ?_; simp only [entry, zipArgs, Nat.reduceAdd])
      ((refine x_pre @hok ?_); (iterate 4 (refine x_nr @hok ?_)); (refine x_nil @hok ?_))
      (refine x_fzP @hok (slq 3) ?_)
      (refine x_fzP @hok (slq 4) ?_)
      (refine x_go @hok ?_)
      (apply Run.pureP; (exact x_ev @hok); (exact (Enters.of Tryz.func34 rfl rfl)); (exact c0); (exact x_al @hok); (try dsimp only [putA, optG]))
      (refine x_gg @hok ?_)
      (apply Run.pureFP; (exact x_ev @hok); (exact (Enters.of Tryz.func72 rfl rfl)); (exact c1); (exact x_al @hok); (try dsimp only [putA, optG]))
      (refine x_gg @hok ?_)
      (apply Run.pureFP; (exact x_ev @hok); (exact (Enters.of Tryz.func18 rfl rfl)); (exact c2); (exact x_al @hok); (try dsimp only [putA, optG]))
      (refine x_gg @hok ?_)
      (first | exact x_ret @hok | refine x_retZ @hok ?_)
    · rw [if_neg h2]
      generalize ckR r (bgS r) s.pl l (lsB r s) = u at *
      obtain ⟨u1, u2⟩ := u
      simp only at h2 c0 ⊢
      have e2 : decide (u2 = 0) = false := decide_eq_false h2
      generalize l.map tkA = TA at *
      unfold rmA rmC at *
      unfold stA at *
      (refine Spec.bd 0 Tryz.func36 Tryz.results36 Tryz.ntmps36 ?_; simp only [entry, zipArgs, Nat.reduceAdd])
      ((refine x_pre (zc @hok (zc @e2 @Bool.not_false)) ?_); (iterate 4 (refine x_nr (zc @hok (zc @e2 @Bool.not_false)) ?_)); (refine x_nil (zc @hok (zc @e2 @Bool.not_false)) ?_))
      (refine x_fzP (zc @hok (zc @e2 @Bool.not_false)) (slq 3) ?_)
      (refine x_fzP (zc @hok (zc @e2 @Bool.not_false)) (slq 4) ?_)
      (refine x_go (zc @hok (zc @e2 @Bool.not_false)) ?_)
      (apply Run.pureP; (exact x_ev (zc @hok (zc @e2 @Bool.not_false))); (exact (Enters.of Tryz.func34 rfl rfl)); (exact c0); (exact x_al (zc @hok (zc @e2 @Bool.not_false))); (try dsimp only [putA, optG]))
      (refine x_gg (zc @hok (zc @e2 @Bool.not_false)) ?_)
      (first | exact x_ret (zc @hok (zc @e2 @Bool.not_false)) | refine x_retZ (zc @hok (zc @e2 @Bool.not_false)) ?_)
  · have e2 : decide (begE r s = 0) = false := decide_eq_false h1
    rw [if_neg h1] at c0 ⊢
    generalize begE r s = e at *
    generalize l.map tkA = TA at *
    unfold rmA rmC at *
    unfold stA at *
    (refine Spec.bd 0 Tryz.func36 Tryz.results36 Tryz.ntmps36 ?_; simp only [entry, zipArgs, Nat.reduceAdd])
    ((refine x_pre (zc @hok (zc @e2 @Bool.not_false)) ?_); (iterate 4 (refine x_nr (zc @hok (zc @e2 @Bool.not_false)) ?_)); (refine x_nil (zc @hok (zc @e2 @Bool.not_false)) ?_))
    (refine x_fzP (zc @hok (zc @e2 @Bool.not_false)) (slq 3) ?_)
    (refine x_fzP (zc @hok (zc @e2 @Bool.not_false)) (slq 4) ?_)
    (refine x_go (zc @hok (zc @e2 @Bool.not_false)) ?_)
    (apply Run.pureP; (exact x_ev (zc @hok (zc @e2 @Bool.not_false))); (exact (Enters.of Tryz.func34 rfl rfl)); (exact c0); (exact x_al (zc @hok (zc @e2 @Bool.not_false))); (try dsimp only [putA, optG]))
    (refine x_gg (zc @hok (zc @e2 @Bool.not_false)) ?_)
    (first | exact x_ret (zc @hok (zc @e2 @Bool.not_false)) | refine x_retZ (zc @hok (zc @e2 @Bool.not_false)) ?_)
end Go.Proofs.Tryz
namespace Go.Vg.Ek
open Go.RowKit
variable {P : Program}
structure EvP where
  n : Nat
  kn : FuncId → Option (Mem → List AV → Option (List AV × AV))
def vwB (m : Mem) : Nat → AV → AV → Bool
  | 0, _, _ => false
  | n + 1, x, y =>
    let go : List AV → List AV → Bool := fun xs ys => (List.zipWith (vwB m n) xs ys).all id && Nat.beq xs.length ys.length
    match x, y with
    | .osl id ver off len, .lst sz ys => (match rowM m id ver with
      | some (sz', l) => (match Nat.beq sz' sz, Nat.ble (off + len) l.length, Nat.ble 1 sz with
        | true, true, true => go ((l.drop off).take len) ys
        | _, _, _ => false)
      | none => false)
    | .optr id ver i j, .ref ys j' => (match Nat.beq j j', rowM m id ver with
      | true, some (_, l) => (match l[i]? with
        | some x => (match Nat.ble (j + 1) x.cells.length with
          | true => go x.cells ys
          | false => false)
        | none => false)
      | _, _ => false)
    | .agg xs, .agg ys => go xs ys
    | .emp, .lst _ [] => true
    | x, y => (match mxV x with
      | 0 => eqV x y
      | _ => false)
def vwBL (m : Mem) (n : Nat) (xs ys : List AV) : Bool := (List.zipWith (vwB m n) xs ys).all id && Nat.beq xs.length ys.length
theorem vwBL_of {m : Mem} {g : AV → AV → Bool} (hg : ∀ x y, g x y = true → Vw m x y) : ∀ {xs ys : List AV}, ((List.zipWith g xs ys).all id && Nat.beq xs.length ys.length) = true → VwL m xs ys
  | [], [], _ => .nil
  | [], _ :: _, h => by simp at h
  | _ :: _, [], h => by simp at h
  | x :: xs, y :: ys, h => by
    simp only [List.zipWith_cons_cons, List.all_cons, id, Bool.and_eq_true, List.length_cons, Nat.beq_eq] at h
    refine .cons (hg x y h.1.1) (vwBL_of hg ?_)
    simp only [Bool.and_eq_true, Nat.beq_eq]
    exact ⟨h.1.2, by omega⟩
theorem vwB_ok {m : Mem} : ∀ (n : Nat) (x y : AV), vwB m n x y = true → Vw m x y
  | 0, x, y, h => by cases h
  | n + 1, x, y, h => by
    have ih := fun x y => vwB_ok (m := m) n x y
    unfold vwB at h
    simp only at h
    split at h
    · split at h
      · rename_i sz' l hr
        split at h
        · rename_i h1 h2 h3
          rw [Nat.beq_eq] at h1
          rw [Nat.ble_eq] at h2 h3
          subst h1
          exact .osl (rowM_ok hr) h2 (by omega) (vwBL_of ih h)
        · cases h
      · cases h
    · split at h
      · rename_i sz' l h1 hr
        rw [Nat.beq_eq] at h1
        subst h1
        split at h
        · rename_i x hx
          split at h
          · rename_i hj
            rw [Nat.ble_eq] at hj
            exact .optr (rowM_ok hr) hx (by omega) (vwBL_of ih h)
          · cases h
        · cases h
      · cases h
    · exact .agg (vwBL_of ih h)
    · exact .emp
    · split at h
      · rename_i h0
        have e := eqV_ok _ _ h
        subst e
        exact .self (mxV_ok _ (by omega))
      · cases h
/-- a function, by the code's evaluator -/
def xF (P : Program) (nf : EvP) (ih : Code → S → Option (Exit × S)) (f : FuncId) (args : List AV) (m : Mem) : Option (AV × Mem) :=
  match nf.kn f with
  | some g =>
    match g m args with
    | some (va, x) =>
      match vwBL m 20 args va, plainB x with
      | true, true => some (x, m)
      | _, _ => none
    | none => none
  | none =>
  match Nat.ble (f + 1) nf.n, P.funcs[f]? with
  | true, some fn =>
    match fn.body, Nat.ble args.length fn.ntmps with
    | some c, true =>
      match ih c (entry args m fn.ntmps) with
      | some (.normal, s) => leaveC P fn.results.toList m.length s
      | some (.ret, s) => leaveC P fn.results.toList m.length s
      | _ => none
    | _, _ => none
  | _, _ => none
/-- no function before the n-th is the one that the model knows by its name; the table's answers are right -/
def Named (P : Program) (nf : EvP) : Prop := Go.Vg.Named P nf.n ∧ ∀ f g, nf.kn f = some g → Enters P f ∧ ∀ m args va x, g m args = some (va, x) → Pure P f va x
def Sound (P : Program) (ih : Code → S → Option (Exit × S)) : Prop := ∀ (r : Option Nat) (c : Code) (s s' : S) (e : Exit) (Q : Exit → S → Prop), ih c s = some (e, s') → Q e s' → Wp P r c Q s
/-- one operation, in the order of the text -/
def xO1 (P : Program) (nf : EvP) (ih : Code → S → Option (Exit × S)) (s : S) (dst : Option Nat) (op : Op) : Option S :=
  match op with
  | .call ⟨.value fo, args, tys⟩ => (match calleeC (evoC s.t fo) with
    | some (f, fs, cs) => (match xF P nf ih f (fs ++ (args.toList.map (evoC s.t) ++ cs)) s.m with
      | some (x, m') => some (putA ⟨s.t, m', s.n, s.d⟩ dst x)
      | none => none)
    | none => none)
  | op => match opC P s.t s.m op with
    | some (m', x) => fV x fun x => some (putA ⟨s.t, m', s.n, s.d⟩ dst x)
    | none => none
def xO (P : Program) (nf : EvP) (ih : Code → S → Option (Exit × S)) (gds : List (Option Nat)) (s : S) (o : Oper) : Option S :=
  match o.guard with
  | none => xO1 P nf ih s o.dst o.op
  | some g => match gvalC gds s.t g with
    | some true => xO1 P nf ih s o.dst o.op
    | some false => (match isDefer o.op with
      | true => none
      | false => some (putA s o.dst (.opt false (.bool false))))
    | none => none
def xL (P : Program) (nf : EvP) (ih : Code → S → Option (Exit × S)) (gds : List (Option Nat)) : List Oper → S → Option S
  | [], s => some s
  | o :: l, s => match xO P nf ih gds s o with
    | some s1 => xL P nf ih gds l s1
    | none => none

section
variable {gds : List (Option Nat)} {nf : EvP} {ih : Code → S → Option (Exit × S)} (hE : Named P nf) (hs : Sound P ih)
include hE hs
end

def xN1 (P : Program) (nf : EvP) (ih : Code → S → Option (Exit × S)) (s : S) (op : Op) : Option AV :=
  match op with
  | .call ⟨.value fo, args, tys⟩ => (match fnOf (evoC s.t fo) with
    | some (f, caps) => (match Nat.beq (mxL ((args.toList.map (evoC s.t) ++ caps).map (view s.m))) 0 with
      | true => (match xF P nf ih f ((args.toList.map (evoC s.t) ++ caps).map (view s.m)) [] with
        | some (x, []) => (match plainB x with
          | true => some x
          | false => none)
        | _ => none)
      | false => none)
    | none => none)
  | .pick c a b => (match evoC s.t c with
    | .val (.bool true) => some (evoC s.t a)
    | .val (.bool false) => some (evoC s.t b)
    | _ => none)
  | op => match evC P s.t s.m op with
    | some x => some x
    | none => match bldC P s.t op with
      | some (sz, xs) => some (.lst sz xs)
      | none => none
def xN (P : Program) (nf : EvP) (ih : Code → S → Option (Exit × S)) (gds : List (Option Nat)) : List Oper → S → Option S
  | [], s => some s
  | o :: l, s =>
    match (match o.guard with
      | none => xN1 P nf ih s o.op
      | some g => (match gvalC gds s.t g with
        | some true => xN1 P nf ih s o.op
        | some false => (match isDefer o.op with
          | true => none
          | false => some (.opt false (.bool false)))
        | none => none)) with
    | some x => fV x fun x => xN P nf ih gds l (putA s o.dst x)
    | none => none
section
variable {gds : List (Option Nat)} {nf : EvP} {ih : Code → S → Option (Exit × S)} (hE : Named P nf) (hs : Sound P ih)
include hE hs
end

def stepX1 (P : Program) (nf : EvP) (ih : Code → S → Option (Exit × S)) (t : List (Nat × AV)) (m : Mem) (op : Op) (aid : Nat) : Option (AV × Option Mem) :=
  match isAlc op with
  | true => (match alcC P t op, getM m aid with
    | some (sz, l, q), some e => setM m aid ⟨e.ver + 1, .row sz l⟩ fun m' => some (alcV aid (e.ver + 1) q, some m')
    | _, _ => none)
  | false =>
    match op with
    | .call ⟨.value fo, args, tys⟩ => (match fnOf (evoC t fo) with
      | some (f, caps) => (match xF P nf ih f (args.toList.map (evoC t) ++ caps) m with
        | some (x, m') => (match eqM m' m with
          | true => some (x, none)
          | false => some (x, some m'))
        | none => none)
      | none => none)
    | .pick c a b => (match evoC t c with
      | .val (.bool true) => some (evoC t a, none)
      | .val (.bool false) => some (evoC t b, none)
      | _ => none)
    | op => (match evC P t m op with
      | some x => some (x, none)
      | none => (match effC P t m op with
        | some (m', x) => some (x, some m')
        | none => none))
def stepX (P : Program) (nf : EvP) (ih : Code → S → Option (Exit × S)) (gds : List (Option Nat)) (t : List (Nat × AV)) (m : Mem) (o : Oper) (aid : Nat) : Option (AV × Option Mem) :=
  match o.guard with
  | none => stepX1 P nf ih t m o.op aid
  | some g => (match gvalC gds t g with
    | some true => stepX1 P nf ih t m o.op aid
    | some false => (match isDefer o.op with
      | true => none
      | false => some (.opt false (.bool false), none))
    | none => none)
section
variable {gds : List (Option Nat)} {nf : EvP} {ih : Code → S → Option (Exit × S)} (hE : Named P nf) (hs : Sound P ih)
include hE hs
end

/-- what was found at an operation, in the order of the text -/
structure Rec where
  t : List (Nat × AV)
  m : Mem
  o : Oper
  aid : Nat
  x : AV
  om : Option Mem
def ChainX (P : Program) (nf : EvP) (ih : Code → S → Option (Exit × S)) (gds : List (Option Nat)) : List Rec → List Oper → List (Nat × AV) → Mem → List (Nat × AV) → Prop
  | [], [], t, _, t' => t = t'
  | r :: rs, o :: l, t, m, t' => r.t = t ∧ r.m = m ∧ r.o = o ∧ stepX P nf ih gds r.t r.m r.o r.aid = some (r.x, r.om) ∧ ChainX P nf ih gds rs l (upd t o.dst r.x) (r.om.getD m) t'
  | _, _, _, _, _ => False
/-- a first run, in the order of the text -/
def firstX (P : Program) (nf : EvP) (ih : Code → S → Option (Exit × S)) (gds : List (Option Nat)) : List Oper → List (Nat × AV) → Mem → Nat → Option (List Rec × List (Nat × AV))
  | [], t, _, _ => some ([], t)
  | o :: l, t, m, aid =>
    match stepX P nf ih gds t m o aid with
    | some (x, om) => fV x fun x =>
      (match firstX P nf ih gds l (upd t o.dst x) (om.getD m) (match isAlc o.op with
        | true => aid + 1
        | false => aid) with
      | some (rs, t') => some (⟨t, m, o, aid, x, om⟩ :: rs, t')
      | none => none)
    | none => none
/-- the numbers of those that turn memory -/
def effIdx : List Rec → Nat → List Nat
  | [], _ => []
  | r :: l, k => match r.om with
    | some _ => fN k fun k => k :: effIdx l (k + 1)
    | none => effIdx l (k + 1)
def effRec : List Rec → List Rec
  | [] => []
  | r :: l => match r.om with
    | some _ => r :: effRec l
    | none => effRec l
/-- the memory, where just the first ones are listed -/
def lastM : List Rec → List Bool → Mem → Option Mem
  | r :: rs, true :: bs, m => lastM rs bs (r.om.getD m)
  | _, bs, m => match bs.any id with
    | true => none
    | false => some m
def foldM (P : Program) (gds : List (Option Nat)) : List Rec → List Bool → Mem → Mem
  | r :: rs, b :: bs, m => (match b with
    | true => (match stepX P ⟨0, fun _ => none⟩ (fun _ _ => none) gds r.t m r.o r.aid with
      | some (_, some m') => foldM P gds rs bs m'
      | _ => foldM P gds rs bs m)
    | false => foldM P gds rs bs m)
  | _, _, m => m
def memOf (P : Program) (gds : List (Option Nat)) (rs : List Rec) (mv : Mem) (bits : List Bool) : Mem :=
  match lastM rs bits mv with
  | some m => m
  | none => foldM P gds rs bits mv
def aimX (es : List Nat) (mem : List Bool → Mem) (k : Nat) (b : List Bool) : Option Mem → Bool
  | none => (match es.contains k with
    | false => true
    | true => eqM (mem b) (mem (setB es k b)))
  | some m' => eqM m' (mem (setB es k b))
/-- an operation at each memory that may be there -/
def allX (P : Program) (nf : EvP) (ih : Code → S → Option (Exit × S)) (gds : List (Option Nat)) (es : List Nat) (mem : List Bool → Mem) (k : Nat) (r : Rec) : List (List Bool) → Bool
  | [] => true
  | b :: bs =>
    match (match (match r.om, r.o.op with
        | some _, _ => eqM r.m (mem b)
        | none, .call ⟨.value _, _, _⟩ => eqM r.m (mem b)
        | _, _ => false) with
      | true => aimX es mem k b r.om
      | false => (match stepX P nf ih gds r.t (mem b) r.o r.aid with
        | some (y, om) => (match eqV y r.x with
          | true => aimX es mem k b om
          | false => false)
        | none => false)) with
    | true => allX P nf ih gds es mem k r bs
    | false => false
def xM2 (P : Program) (nf : EvP) (ih : Code → S → Option (Exit × S)) (gds : List (Option Nat)) (ops : List Oper) (es : List Nat) (mem : List Bool → Mem) (n : Nat) : List Rec → Nat → Bool
  | [], _ => true
  | r :: rs, k =>
    match allX P nf ih gds es mem k r (consL ops es k), dstB n r.o.dst with
    | true, true => xM2 P nf ih gds ops es mem n rs (k + 1)
    | _, _ => false
def vacs (n : Nat) : Mem := List.replicate n ⟨0, .row 1 []⟩
def xM (P : Program) (nf : EvP) (ih : Code → S → Option (Exit × S)) (ops : List Oper) (s : S) : Option S :=
  match (ops.map (·.dst)).all (dstB s.n), ordB (ops.map (·.dst)) ops ops.length with
  | true, true =>
    fM (s.m.length + alcNo ops) (s.m ++ vacs (alcNo ops)) fun mv =>
    (match firstX P nf ih (ops.map (·.dst)) ops s.t mv s.m.length with
    | some (rs, t) =>
      (match xM2 P nf ih (ops.map (·.dst)) ops (effIdx rs 0) (memOf P (ops.map (·.dst)) (effRec rs) mv) s.n rs 0, (effIdx rs 0).all (fun e => Nat.ble (e + 1) ops.length) with
      | true, true => fM (memOf P (ops.map (·.dst)) (effRec rs) mv ((effIdx rs 0).map fun _ => true)).length (memOf P (ops.map (·.dst)) (effRec rs) mv ((effIdx rs 0).map fun _ => true)) fun m => some ⟨t, m, s.n, s.d⟩
      | _, _ => none)
    | none => none)
  | _, _ => none
section
variable {gds : List (Option Nat)} {nf : EvP} {ih : Code → S → Option (Exit × S)} (hE : Named P nf) (hs : Sound P ih)
include hE hs
theorem aimX_ok {es : List Nat} {mem : List Bool → Mem} {k : Nat} {b : List Bool} {om : Option Mem} (hl : b.length = es.length) (h : aimX es mem k b om = true) : mem (setB es k b) = om.getD (mem b) := by
  cases om with
  | none =>
    simp only [aimX] at h
    split at h
    · rename_i hc
      rw [setB_not hc b hl]; rfl
    · exact (eqM_ok h).symm
  | some m' => exact (eqM_ok h).symm
end

def keysC : List (Nat × AV) → List Nat → List Nat
  | [], acc => acc
  | (k, _) :: t, acc => match acc.any fun j => Nat.beq j k with
    | true => keysC t acc
    | false => keysC t (k :: acc)
def restr {α : Type} (t : List (Nat × AV)) : List Nat → (List (Nat × AV) → α) → α
  | [], k => k []
  | j :: js, k => fV (lookB t j) fun x => restr t js fun l => k ((j, x) :: l)
theorem restr_eq {α : Type} (t : List (Nat × AV)) : ∀ (js : List Nat) (k : List (Nat × AV) → α), restr t js k = k (js.map fun j => (j, look t j))
  | [], _ => rfl
  | j :: js, k => by simp [restr, fV_eq, restr_eq t js, lookB_eq]
def xLoop (ih : Code → S → Option (Exit × S)) (c : Code) (ks : List Nat) (n : Nat) : S → Option (Exit × S) :=
  Nat.rec (fun _ => none) (fun _ go s => match ih c s with
    | some (.normal, s1) => restr s1.t ks fun t => go ⟨t, s1.m, s1.n, s1.d⟩
    | r => r) n
def stepC (P : Program) (nf : EvP) (n : Nat) (ih : Code → S → Option (Exit × S)) (c : Code) (s : S) : Option (Exit × S) :=
  match c with
  | .skip => some (.normal, s)
  | .exit id => some (.exit id, s)
  | .ret => some (.ret, s)
  | .seq a b => (match ih a s with
    | some (.normal, s1) => ih b s1
    | r => r)
  | .block id c => (match ih c s with
    | some (.exit id', s1) => (match Nat.beq id' id with
      | true => some (.normal, s1)
      | false => some (.exit id', s1))
    | r => r)
  | .cond c a b => (match evoC s.t c with
    | .val (.bool true) => ih a s
    | .val (.bool false) => ih b s
    | _ => none)
  | .loop c => restr s.t (keysC s.t []) fun t => xLoop ih c (keysC s.t []) n ⟨t, s.m, s.n, s.d⟩
  | .region _ ops false =>
    (match (ops.toList.map (·.dst)).all (dstB s.n) with
    | true => (match xL P nf ih (ops.toList.map (·.dst)) ops.toList s with
      | some s1 => some (.normal, s1)
      | none => none)
    | false => none)
  | .region _ ops true =>
    (match (ops.toList.map (·.dst)).all (dstB s.n), drawB (ops.toList.map (·.dst)) ops.toList (calmN ops.toList) with
    | true, false => (match xM P nf ih ops.toList s with
      | some s1 => some (.normal, s1)
      | none => none)
    | true, true => (match xN P nf ih (ops.toList.map (·.dst)) (ops.toList.take (calmN ops.toList)) s with
      | some s1 => (match xL P nf ih (ops.toList.map (·.dst)) (ops.toList.drop (calmN ops.toList)) s1 with
        | some s2 => some (.normal, s2)
        | none => none)
      | none => (match xM P nf ih ops.toList s with
        | some s1 => some (.normal, s1)
        | none => none))
    | _, _ => none)
  | _ => none
/-- the evaluator of code -/
def xC (P : Program) (nf : EvP) (n : Nat) : Code → S → Option (Exit × S) := Nat.rec (fun _ _ => none) (fun n ih => stepC P nf n ih) n
end Go.Vg.Ek
set_option maxHeartbeats 16000000
namespace Go.Proofs.Tryz
open Go.Vg

/-! the example -/
theorem namedEv : Named Tryz.prog 201 := namedB_ok (by kernel_rfl)
/-- a function's run, by the evaluator; what it hands back reads as y -/
theorem xFw_pure {f : FuncId} {args : List AV} {y : AV} (h : (match xF Tryz.prog 201 (xC Tryz.prog 201 100000) f args [] with
    | some (x, m) => Ek.vwB m 20 x y
    | none => false) = true) : Pure Tryz.prog f args y := by
  split at h
  · rename_i x m hx
    refine Spec.frz ((xF_spec namedEv mixed hx).mono fun x' m' h' => ?_)
    obtain ⟨rfl, rfl⟩ := h'
    exact Ek.vwB_ok _ _ _ h
  · cases h
def exR : Rm := ⟨[⟨#[104, 97, 108, 108]⟩, ⟨#[118, 97, 117, 108, 116]⟩], [⟨⟨#[98, 111, 120]⟩, 0, 2, 0⟩, ⟨⟨#[100, 111, 111, 114]⟩, 0, 2, 0⟩], [⟨⟨#[107, 101, 121]⟩, 0, [⟨0, 1, false⟩]⟩], [⟨0, 1, [⟨1, 1, false⟩]⟩], [⟨⟨#[111, 112, 101, 110]⟩, 0, 0, [], [], [⟨0, 1⟩], [], []⟩, ⟨⟨#[116, 117, 114, 110]⟩, 0, -1, [0], [], [⟨1, 1⟩], [0], []⟩], [], 1, []⟩
def exS : St := ⟨[1, 1], [-1], [0]⟩
theorem example_pure : Pure Tryz.prog 45 [] (rmA exR) := xFw_pure (by kernel_rfl)
end Go.Proofs.Tryz
set_option maxHeartbeats 16000000
namespace Go.Proofs.Tryz
open Go.Vg

theorem exBeg : begE exR exS = 0 := by kernel_rfl
theorem exLe : ∃ t, (leT exR exS).1 = 0 ∧ (leT exR exS).2 = [⟨2, 1, 0⟩, ⟨3, 0, 0⟩, t] := by
  refine ⟨((leT exR exS).2.getD 2 tk0), by kernel_rfl, by kernel_rfl⟩
theorem exSz : Sz exR := farB_Sz (by kernel_rfl)
theorem exZs : Zs exS := ⟨by simp [exS], by simp [exS], by simp [exS]⟩
theorem works_pure : Pure Tryz.prog 15 [] (.bool true) := by
  have h1 := example_pure
  have h2 := least_ok exSz exZs exBeg
  obtain ⟨t, e1, e2⟩ := exLe
  rw [e1, e2] at h2
  unfold stA exS at h2
  simp only at h2
  unfold rmA rmC at h1 h2
  simp only [List.map_cons, List.map_nil, tkA] at h2
  (refine Spec.bd 0 Tryz.func15 Tryz.results15 Tryz.ntmps15 ?_; simp only [entry, zipArgs, Nat.reduceAdd])
  (refine w_go ?_)
  (apply Run.pureFP; (exact w_ev); (exact (Enters.of Tryz.func45 rfl rfl)); (exact h1); (exact w_al); (try dsimp only [putA, optG]))
  (refine w_go ?_)
  (apply Run.pureFP; (exact w_ev); (exact (Enters.of Tryz.func16 rfl rfl)); (exact h2); (exact w_al); (try dsimp only [putA, optG]))
  (refine w_gg ?_)
  (first | exact w_ret | refine w_retZ ?_)
end Go.Proofs.Tryz
set_option maxHeartbeats 16000000
namespace Go.Proofs.Tryz
open Go.Vg

/-! what comes in is no longer than a slice can be -/
theorem Spec.pre {P : Program} {C : Prop} {f : FuncId} {args : List AV} {m : Mem} {Q : AV → Mem → Prop} (hC : ∀ X w ρ vs, Rvals X w ρ args vs → C) (h : C → Go.Vg.Spec P f args m Q) : Go.Vg.Spec P f args m Q := fun X w ρ vs hi hr => h (hC X w ρ vs hr) X w ρ vs hi hr
theorem ints_len {X : Nat → Prop} {w : World} {ρ : Rho} {l : List Int} {v : Value} (h : R X w ρ (.ints l) v) : l.length ≤ 9223372036854775807 := by
  obtain ⟨A, c, _, h1, h2, _⟩ := h
  rw [List.length_map] at h1
  unfold maxLen at h2
  omega
structure Ln (s : St) : Prop where
  ts : s.ts.length ≤ 9223372036854775807
  pp : s.pp.length ≤ 9223372036854775807
  pl : s.pl.length ≤ 9223372036854775807
theorem st_len {X : Nat → Prop} {w : World} {ρ : Rho} {s : St} {v : Value} (h : R X w ρ (stA s) v) : Ln s := by
  obtain ⟨vs, _, v1, _, _, h1, v2, _, _, h2, v3, _, _, h3, _⟩ := h
  exact ⟨ints_len h1, ints_len h2, ints_len h3⟩
def awB (s : St) : Bool := decide (30 < (s.ts.length : Int)) || decide (30 < (s.pp.length : Int)) || decide (30 < (s.pl.length : Int))
theorem awB_Zs {s : St} (h : awB s = false) : Zs s := by
  unfold awB at h
  simp only [Bool.or_eq_false_iff, decide_eq_false_iff_not] at h
  exact ⟨by omega, by omega, by omega⟩
theorem Away_pure {s : St} (h : Ln s) : Pure Tryz.prog 14 [stA s] (.bool (awB s)) := away_pure s h.ts h.pp h.pl

end Go.Proofs.Tryz
set_option maxHeartbeats 16000000
namespace Go.Proofs.Tryz
open Go.Vg

/-! Check and Play -/
theorem Check_pure {r : Rm} (hz : Sz r) {s : St} (hs : Zs s) (l : List Tk) (hl : l.length ≤ 100000) : Pure Tryz.prog 32 [rmA r, stA s, .lst 3 (l.map tkA)] (ckA r s l) := by
  have hok := okL_tk 0 l
  unfold ckA
  by_cases h1 : begE r s = 0
  · obtain ⟨hb0, hb1⟩ := begE_zero h1
    obtain ⟨hv, hs2, hch⟩ := cs_zero hb1
    have hx := lsB_ok hv hs2
    have c0 := begin_spec hz hs h1
    have c1 := check_spec hz hv hch (bg_SV hb0) hx l hl (a2 := ⟨0, .row 1 []⟩) trivial trivial
    rw [if_pos h1]
    generalize ckR r (bgS r) s.pl l (lsB r s) = u at *
    generalize ckF r (bgS r) s.pl l (lsB r s) = y at *
    unfold begM at c0
    unfold lsB at c1
    simp only at c1
    generalize bgS r = f at *
    generalize l.map tkA = TA at *
    unfold rmA rmC at *
    unfold ckM at c1
    unfold stA at *
    (refine Spec.bd 0 Tryz.func32 Tryz.results32 Tryz.ntmps32 ?_; simp only [entry, zipArgs, Nat.reduceAdd])
    ((refine x_pre @hok ?_); (iterate 4 (refine x_nr @hok ?_)); (refine x_nil @hok ?_))
    (refine x_fzP @hok (slq 3) ?_)
    (refine x_fzP @hok (slq 4) ?_)
    (refine Wp.vacs 1 ?_; (try simp only [List.replicate_succ, List.replicate_zero, List.cons_append, List.nil_append]))
    (refine x_go @hok ?_)
    (apply Run.freshE (he := (Enters.of Tryz.func46 rfl rfl)); (simp only [push_cast, seval, hok] <;> first | exact rfl | assumption); (exact x_ev @hok); (exact c0); ((exact x_cl @hok)); (exact x_ev @hok); (exact x_ev @hok); dsimp only [S.put, optG])
    (refine x_gg @hok ?_)
    (apply Run.spec (he := (Enters.of Tryz.func71 rfl rfl)); exact rfl; (simp only [push_cast, seval, hok] <;> first | exact rfl | assumption); (exact x_ev @hok); (exact c1); (rintro _ _ ⟨rfl, rfl⟩; dsimp only [Go.Vg.S.put, optG]))
    (refine x_gg @hok ?_)
    (first | exact x_ret @hok | refine x_retZ @hok ?_)
  · have e2 : decide (begE r s = 0) = false := decide_eq_false h1
    have c0 := begin_err hz hs h1
    rw [if_neg h1]
    generalize begE r s = e at *
    generalize l.map tkA = TA at *
    unfold rmA rmC at *
    unfold stA at *
    (refine Spec.bd 0 Tryz.func32 Tryz.results32 Tryz.ntmps32 ?_; simp only [entry, zipArgs, Nat.reduceAdd])
    ((refine x_pre (zc @hok (zc @e2 @Bool.not_false)) ?_); (iterate 4 (refine x_nr (zc @hok (zc @e2 @Bool.not_false)) ?_)); (refine x_nil (zc @hok (zc @e2 @Bool.not_false)) ?_))
    (refine x_fzP (zc @hok (zc @e2 @Bool.not_false)) (slq 3) ?_)
    (refine x_fzP (zc @hok (zc @e2 @Bool.not_false)) (slq 4) ?_)
    (refine x_go (zc @hok (zc @e2 @Bool.not_false)) ?_)
    (apply Run.pureFP; (exact x_ev (zc @hok (zc @e2 @Bool.not_false))); (exact (Enters.of Tryz.func46 rfl rfl)); (exact c0); (exact x_al (zc @hok (zc @e2 @Bool.not_false))); (try dsimp only [putA, optG]))
    (refine x_gg (zc @hok (zc @e2 @Bool.not_false)) ?_)
    (first | exact x_ret (zc @hok (zc @e2 @Bool.not_false)) | refine x_retZ (zc @hok (zc @e2 @Bool.not_false)) ?_)
theorem Play_pure {r : Rm} (hz : Sz r) {s : St} (hs : Zs s) (l : List Tk) (hl : l.length ≤ 100000) : Pure Tryz.prog 35 [rmA r, stA s, .lst 3 (l.map tkA)] (plA r s l) := by
  have hok := okL_tk 0 l
  unfold plA
  by_cases h1 : begE r s = 0
  · obtain ⟨hb0, hb1⟩ := begE_zero h1
    obtain ⟨hv, hs2, hch⟩ := cs_zero hb1
    have hx := lsB_ok hv hs2
    have c0 := begin_spec hz hs h1
    have c1 := check_spec hz hv hch (bg_SV hb0) hx l hl (a2 := ⟨0, .row 3 [stN]⟩) (by simp [Kind.ok, okL, AV.ok]) (by simp [Kind.ok, okL, AV.ok])
    rw [if_pos h1]
    have hck := ckL_ok hv (bg_SV hb0) l hx
    have hfl : (ckR r (bgS r) s.pl l (lsB r s)).2 = 0 → ckF r (bgS r) s.pl l (lsB r s) = ckL r (bgS r) s.pl l (lsB r s) := fun h => by
      unfold ckF
      rw [if_neg (by have := (ckR_ok h).1; omega)]
    have hq1 : (ckL r (bgS r) s.pl l (lsB r s)).ts.length = s.ts.length := by have h1 : _ = _ := hck.1.ts; have h2 := hs2.ts; rw [h2]; exact h1
    have hq2 : (ckL r (bgS r) s.pl l (lsB r s)).pp.length = s.pp.length := by have h1 : _ = _ := hck.1.pp; have h2 := hs2.pp; rw [h2]; exact h1
    generalize ckL r (bgS r) s.pl l (lsB r s) = z at *
    generalize ckR r (bgS r) s.pl l (lsB r s) = u at *
    generalize ckF r (bgS r) s.pl l (lsB r s) = y at *
    obtain ⟨u1, u2⟩ := u
    unfold begM at c0
    unfold lsB at c1
    simp only at c1 hfl
    refine Spec.frz ?_
    by_cases h2 : u2 = 0
    · obtain rfl := hfl h2
      subst h2
      rw [if_pos rfl]
      unfold sdS
      generalize bgS r = f at *
      generalize l.map tkA = TA at *
      unfold rmA rmC at *
      unfold ckM at c1
      unfold stA at *
      (refine Spec.of_bodyA Tryz.func35 rfl (by rw [Tryz.ntmps35]; simp) ?_; rw [Tryz.results35, Tryz.ntmps35]; simp only [entry, zipArgs, Nat.reduceAdd])
      ((refine x_pre @hok ?_); (iterate 4 (refine x_nr @hok ?_)); (refine x_nil @hok ?_))
      (refine x_fzP @hok (slq 3) ?_)
      (refine x_fzP @hok (slq 4) ?_)
      (refine x_go @hok ?_)
      (apply Run.freshE (he := (Enters.of Tryz.func46 rfl rfl)); (simp only [push_cast, seval, hok] <;> first | exact rfl | assumption); (exact x_ev @hok); (exact c0); ((exact x_cl @hok)); (exact x_ev @hok); (exact x_ev @hok); dsimp only [S.put, optG])
      (refine x_gg @hok ?_)
      (apply Run.spec (he := (Enters.of Tryz.func71 rfl rfl)); exact rfl; (simp only [push_cast, seval, hok] <;> first | exact rfl | assumption); (exact x_ev @hok); (exact c1); (rintro _ _ ⟨rfl, rfl⟩; dsimp only [Go.Vg.S.put, optG]))
      (refine x_gg @hok ?_)
      (first | exact x_retA @hok | refine x_retAZ @hok ?_)
      exact Vw.tup (.cons (Vw.agg (.cons (Vw.ointsR rfl hq1.symm) (.cons (Vw.ointsR rfl hq2.symm) (.cons (Vw.ointsR rfl rfl) .nil)))) (.cons (Vw.self trivial) .nil))
    · have e2 : decide (u2 = 0) = false := decide_eq_false h2
      rw [if_neg h2]
      generalize bgS r = f at *
      generalize l.map tkA = TA at *
      unfold rmA rmC at *
      unfold ckM at c1
      unfold stA at *
      (refine Spec.of_bodyA Tryz.func35 rfl (by rw [Tryz.ntmps35]; simp) ?_; rw [Tryz.results35, Tryz.ntmps35]; simp only [entry, zipArgs, Nat.reduceAdd])
      ((refine x_pre (zc @hok (zc @e2 @Bool.not_false)) ?_); (iterate 4 (refine x_nr (zc @hok (zc @e2 @Bool.not_false)) ?_)); (refine x_nil (zc @hok (zc @e2 @Bool.not_false)) ?_))
      (refine x_fzP (zc @hok (zc @e2 @Bool.not_false)) (slq 3) ?_)
      (refine x_fzP (zc @hok (zc @e2 @Bool.not_false)) (slq 4) ?_)
      (refine x_go (zc @hok (zc @e2 @Bool.not_false)) ?_)
      (apply Run.freshE (he := (Enters.of Tryz.func46 rfl rfl)); (simp only [push_cast, seval, hok, e2, Bool.not_false] <;> first | exact rfl | assumption); (exact x_ev (zc @hok (zc @e2 @Bool.not_false))); (exact c0); ((exact x_cl (zc @hok (zc @e2 @Bool.not_false)))); (exact x_ev (zc @hok (zc @e2 @Bool.not_false))); (exact x_ev (zc @hok (zc @e2 @Bool.not_false))); dsimp only [S.put, optG])
      (refine x_gg (zc @hok (zc @e2 @Bool.not_false)) ?_)
      (apply Run.spec (he := (Enters.of Tryz.func71 rfl rfl)); exact rfl; (simp only [push_cast, seval, hok, e2, Bool.not_false] <;> first | exact rfl | assumption); (exact x_ev (zc @hok (zc @e2 @Bool.not_false))); (exact c1); (rintro _ _ ⟨rfl, rfl⟩; dsimp only [Go.Vg.S.put, optG]))
      (refine x_gg (zc @hok (zc @e2 @Bool.not_false)) ?_)
      (first | exact x_retA (zc @hok (zc @e2 @Bool.not_false)) | refine x_retAZ (zc @hok (zc @e2 @Bool.not_false)) ?_)
      exact Vw.self (by simp [AV.ok, okL])
  · have e2 : decide (begE r s = 0) = false := decide_eq_false h1
    have c0 := begin_err hz hs h1
    rw [if_neg h1]
    generalize begE r s = e at *
    generalize l.map tkA = TA at *
    unfold rmA rmC at *
    unfold stA at *
    (refine Spec.bd 0 Tryz.func35 Tryz.results35 Tryz.ntmps35 ?_; simp only [entry, zipArgs, Nat.reduceAdd])
    ((refine x_pre (zc @hok (zc @e2 @Bool.not_false)) ?_); (iterate 4 (refine x_nr (zc @hok (zc @e2 @Bool.not_false)) ?_)); (refine x_nil (zc @hok (zc @e2 @Bool.not_false)) ?_))
    (refine x_fzP (zc @hok (zc @e2 @Bool.not_false)) (slq 3) ?_)
    (refine x_fzP (zc @hok (zc @e2 @Bool.not_false)) (slq 4) ?_)
    (refine x_go (zc @hok (zc @e2 @Bool.not_false)) ?_)
    (apply Run.pureFP; (exact x_ev (zc @hok (zc @e2 @Bool.not_false))); (exact (Enters.of Tryz.func46 rfl rfl)); (exact c0); (exact x_al (zc @hok (zc @e2 @Bool.not_false))); (try dsimp only [putA, optG]))
    (refine x_gg (zc @hok (zc @e2 @Bool.not_false)) ?_)
    (first | exact x_ret (zc @hok (zc @e2 @Bool.not_false)) | refine x_retZ (zc @hok (zc @e2 @Bool.not_false)) ?_)
end Go.Proofs.Tryz
set_option maxHeartbeats 16000000
namespace Go.Proofs.Tryz
open Go.Vg

theorem copyTasks_pure (c : List Tk) (hc : c.length ≤ 100000) : Pure Tryz.prog 33 [.lst 3 (c.map tkA)] (.lst 3 (c.map tkA)) := by
  (refine Spec.bd 0 Tryz.func33 Tryz.results33 Tryz.ntmps33 ?_; simp only [entry, zipArgs, Nat.reduceAdd])
  (refine x_go @okL_tk ?_)
  (apply Wp.freeze 2; (exact x_ev @okL_tk); (exact x_ev @okL_tk); (focus (try simp only [push_cast, seval, okL_tk]); (try (exact sT))); (focus (exact sT)))
  (first | exact x_ret @okL_tk | refine x_retZ @okL_tk ?_)
/-- what Play answers: a state, or none -/
theorem plA_form {r : Rm} (hz : Sz r) {s : St} (hs : Zs s) (l : List Tk) : ∃ (y : St) (e : Int), Zs y ∧ (plA r s l = .tup [stA y, .int e] ∨ (y = ⟨[], [], []⟩ ∧ plA r s l = .tup [stN, .int e])) := by
  have h0 : Zs ⟨[], [], []⟩ := ⟨by simp, by simp, by simp⟩
  unfold plA
  split
  · rename_i h1
    obtain ⟨hb0, hb1⟩ := begE_zero h1
    obtain ⟨hv, hs2, hch⟩ := cs_zero hb1
    split
    · exact ⟨_, _, SV.zs hz hv (ckL_ok hv (bg_SV hb0) l (lsB_ok hv hs2)).1, .inl rfl⟩
    · exact ⟨_, _, h0, .inr ⟨rfl, rfl⟩⟩
  · exact ⟨_, _, h0, .inr ⟨rfl, rfl⟩⟩
theorem ckA_form (r : Rm) (s : St) (l : List Tk) : ∃ a e : Int, ckA r s l = .tup [.int a, .int e] := by
  unfold ckA
  split <;> exact ⟨_, _, rfl⟩
/-- the law ResetChecks: at every room, state and list of tasks it says yes -/
theorem law_ResetChecks (r : Rm) (s : St) (l : List Tk) (hm : l.length ≤ maxLen) : Pure Tryz.prog 7 [rmA r, stA s, .lst 3 (l.map tkA)] (.bool true) := by
  refine Spec.pre (C := Ln s) (fun X w ρ vs hr => by obtain ⟨_, _, _, _, _, _, _, h2, _⟩ := hr; exact st_len h2) fun hl => ?_
  have hm2 : l.length ≤ 9223372036854775807 := by unfold maxLen at hm; omega
  have w1 := works_pure
  have f1 := Far_pure r
  have a1 := Away_pure hl
  have hTAl : (l.map tkA).length = l.length := List.length_map _
  have hok := okL_tk 0 l
  cases hfa : farB r with
  | true =>
    rw [hfa] at f1
    generalize l.map tkA = TA at *
    unfold rmA rmC at *
    unfold stA at *
    generalize awB s = b at *
    (refine Spec.bd 0 Tryz.func7 Tryz.results7 Tryz.ntmps7 ?_; simp only [entry, zipArgs, Nat.reduceAdd])
    (refine x_go (zc @Bool.true_or (zc @hTAl @hok)) ?_)
    (apply Run.pureFP; (exact x_ev (zc @Bool.true_or (zc @hTAl @hok))); (exact (Enters.of Tryz.func20 rfl rfl)); (exact f1); (exact x_al (zc @Bool.true_or (zc @hTAl @hok))); (try dsimp only [putA, optG]))
    (refine x_go (zc @Bool.true_or (zc @hTAl @hok)) ?_)
    (try (apply Run.pureP; (exact x_ev (zc @Bool.true_or (zc @hTAl @hok))); (exact (Enters.of Tryz.func14 rfl rfl)); (exact a1); (exact x_al (zc @Bool.true_or (zc @hTAl @hok))); (try dsimp only [putA, optG])))
    (refine x_gg (zc @Bool.true_or (zc @hTAl @hok)) ?_)
    (apply Run.pureP; (exact x_ev (zc @Bool.true_or (zc @hTAl @hok))); (exact (Enters.of Tryz.func15 rfl rfl)); (exact w1); (exact x_al (zc @Bool.true_or (zc @hTAl @hok))); (try dsimp only [putA, optG]))
    (refine x_gg (zc @Bool.true_or (zc @hTAl @hok)) ?_)
    (first | exact x_ret (zc @Bool.true_or (zc @hTAl @hok)) | refine x_retZ (zc @Bool.true_or (zc @hTAl @hok)) ?_)
  | false =>
    rw [hfa] at f1
    cases haw : awB s with
    | true =>
      rw [haw] at a1
      generalize l.map tkA = TA at *
      unfold rmA rmC at *
      unfold stA at *
      (refine Spec.bd 0 Tryz.func7 Tryz.results7 Tryz.ntmps7 ?_; simp only [entry, zipArgs, Nat.reduceAdd])
      (refine x_go (zc @Bool.true_or (zc @hTAl @hok)) ?_)
      (apply Run.pureFP; (exact x_ev (zc @Bool.true_or (zc @hTAl @hok))); (exact (Enters.of Tryz.func20 rfl rfl)); (exact f1); (exact x_al (zc @Bool.true_or (zc @hTAl @hok))); (try dsimp only [putA, optG]))
      (refine x_go (zc @Bool.true_or (zc @hTAl @hok)) ?_)
      (apply Run.pureFP; (exact x_ev (zc @Bool.true_or (zc @hTAl @hok))); (exact (Enters.of Tryz.func14 rfl rfl)); (exact a1); (exact x_al (zc @Bool.true_or (zc @hTAl @hok))); (try dsimp only [putA, optG]))
      (refine x_gg (zc @Bool.true_or (zc @hTAl @hok)) ?_)
      (apply Run.pureP; (exact x_ev (zc @Bool.true_or (zc @hTAl @hok))); (exact (Enters.of Tryz.func15 rfl rfl)); (exact w1); (exact x_al (zc @Bool.true_or (zc @hTAl @hok))); (try dsimp only [putA, optG]))
      (refine x_gg (zc @Bool.true_or (zc @hTAl @hok)) ?_)
      (first | exact x_ret (zc @Bool.true_or (zc @hTAl @hok)) | refine x_retZ (zc @Bool.true_or (zc @hTAl @hok)) ?_)
    | false =>
      rw [haw] at a1
      by_cases hbig : 250 < l.length
      · have e1 : decide ((250 : Int) < (l.length : Int)) = true := decide_eq_true (by omega)
        generalize l.map tkA = TA at *
        unfold rmA rmC at *
        unfold stA at *
        (refine Spec.bd 0 Tryz.func7 Tryz.results7 Tryz.ntmps7 ?_; simp only [entry, zipArgs, Nat.reduceAdd])
        (refine x_go (zc @hTAl (zc @hok @e1)) ?_)
        (apply Run.pureFP; (exact x_ev (zc @hTAl (zc @hok @e1))); (exact (Enters.of Tryz.func20 rfl rfl)); (exact f1); (exact x_al (zc @hTAl (zc @hok @e1))); (try dsimp only [putA, optG]))
        (refine x_go (zc @hTAl (zc @hok @e1)) ?_)
        (apply Run.pureFP; (exact x_ev (zc @hTAl (zc @hok @e1))); (exact (Enters.of Tryz.func14 rfl rfl)); (exact a1); (exact x_al (zc @hTAl (zc @hok @e1))); (try dsimp only [putA, optG]))
        (refine x_gg (zc @hTAl (zc @hok @e1)) ?_)
        (apply Run.pureP; (exact x_ev (zc @hTAl (zc @hok @e1))); (exact (Enters.of Tryz.func15 rfl rfl)); (exact w1); (exact x_al (zc @hTAl (zc @hok @e1))); (try dsimp only [putA, optG]))
        (refine x_gg (zc @hTAl (zc @hok @e1)) ?_)
        (first | exact x_ret (zc @hTAl (zc @hok @e1)) | refine x_retZ (zc @hTAl (zc @hok @e1)) ?_)
      · have e1 : decide ((250 : Int) < (l.length : Int)) = false := decide_eq_false (by omega)
        have hz := farB_Sz hfa
        have hs := awB_Zs haw
        have g1 := CopyState_pure s hs
        have g2 := Copy_pure hz
        have g3 := copyTasks_pure l (by omega)
        have g5 := Check_pure hz hs l (by omega)
        have g6 := rCheck_pure hz hs l (by omega)
        have g7 := Play_pure hz hs l (by omega)
        have g8 := rPlay_pure hz hs l (by omega)
        obtain ⟨a, e, ha⟩ := ckA_form r s l
        obtain ⟨y, e', hy, hp⟩ := plA_form hz hs l
        have g9 := sameState_pure y y hy
        simp only [decide_true, Bool.and_true] at g9
        rw [ha] at g5 g6
        generalize l.map tkA = TA at *
        rcases hp with hp | ⟨rfl, hp⟩
        · rw [hp] at g7 g8
          unfold rmA rmC at *
          unfold stA at *
          (refine Spec.bd 0 Tryz.func7 Tryz.results7 Tryz.ntmps7 ?_; simp only [entry, zipArgs, Nat.reduceAdd])
          (refine x_go (zc @hTAl (zc @hok (zc @e1 (zc @decide_true @beqSf)))) ?_)
          (apply Run.pureFP; (exact x_ev (zc @hTAl (zc @hok (zc @e1 (zc @decide_true @beqSf))))); (exact (Enters.of Tryz.func20 rfl rfl)); (exact f1); (exact x_al (zc @hTAl (zc @hok (zc @e1 (zc @decide_true @beqSf))))); (try dsimp only [putA, optG]))
          (refine x_go (zc @hTAl (zc @hok (zc @e1 (zc @decide_true @beqSf)))) ?_)
          (apply Run.pureFP; (exact x_ev (zc @hTAl (zc @hok (zc @e1 (zc @decide_true @beqSf))))); (exact (Enters.of Tryz.func14 rfl rfl)); (exact a1); (exact x_al (zc @hTAl (zc @hok (zc @e1 (zc @decide_true @beqSf))))); (try dsimp only [putA, optG]))
          (refine x_gg (zc @hTAl (zc @hok (zc @e1 (zc @decide_true @beqSf)))) ?_)
          (refine Wp.rnD 12 ?_; apply exAb; (((refine x_abn (zc @hTAl (zc @hok (zc @e1 (zc @decide_true @beqSf)))) ?_); (apply Abn.pureFP; (exact x_ev (zc @hTAl (zc @hok (zc @e1 (zc @decide_true @beqSf))))); (exact (Enters.of Tryz.func17 rfl rfl)); (exact g2); (exact x_al (zc @hTAl (zc @hok (zc @e1 (zc @decide_true @beqSf))))); (try dsimp only [putA, optG])); (refine x_abn (zc @hTAl (zc @hok (zc @e1 (zc @decide_true @beqSf)))) ?_); (apply Abn.pureFP; (exact x_ev (zc @hTAl (zc @hok (zc @e1 (zc @decide_true @beqSf))))); (exact (Enters.of Tryz.func18 rfl rfl)); (exact g1); (exact x_al (zc @hTAl (zc @hok (zc @e1 (zc @decide_true @beqSf))))); (try dsimp only [putA, optG])); (refine x_abn (zc @hTAl (zc @hok (zc @e1 (zc @decide_true @beqSf)))) ?_); (apply Abn.pureFP; (exact x_ev (zc @hTAl (zc @hok (zc @e1 (zc @decide_true @beqSf))))); (exact (Enters.of Tryz.func33 rfl rfl)); (exact g3); (exact x_al (zc @hTAl (zc @hok (zc @e1 (zc @decide_true @beqSf))))); (try dsimp only [putA, optG])); (refine x_abn (zc @hTAl (zc @hok (zc @e1 (zc @decide_true @beqSf)))) ?_); (apply Abn.pureFP; (exact x_ev (zc @hTAl (zc @hok (zc @e1 (zc @decide_true @beqSf))))); (exact (Enters.of Tryz.func32 rfl rfl)); (exact g5); (exact x_al (zc @hTAl (zc @hok (zc @e1 (zc @decide_true @beqSf))))); (try dsimp only [putA, optG])); (refine x_abn (zc @hTAl (zc @hok (zc @e1 (zc @decide_true @beqSf)))) ?_)); exact Abn.nil))
          (refine x_gg (zc @hTAl (zc @hok (zc @e1 (zc @decide_true @beqSf)))) ?_)
          (apply Run.pureFP; (exact x_ev (zc @hTAl (zc @hok (zc @e1 (zc @decide_true @beqSf))))); (exact (Enters.of Tryz.func34 rfl rfl)); (exact g6); (exact x_al (zc @hTAl (zc @hok (zc @e1 (zc @decide_true @beqSf))))); (try dsimp only [putA, optG]))
          (refine x_gg (zc @hTAl (zc @hok (zc @e1 (zc @decide_true @beqSf)))) ?_)
          (apply Wp.runG 1 mixed; (dsimp only [List.map] <;> exact rfl); exact rfl; kernel_rfl; ((try dsimp only [List.replicate]); ((refine x_gp (zc @hTAl (zc @hok (zc @e1 (zc @decide_true @beqSf)))) ?_); (apply AbsG.callF; exact rfl; (exact x_ev (zc @hTAl (zc @hok (zc @e1 (zc @decide_true @beqSf))))); (exact (Enters.of Tryz.func17 rfl rfl)); (exact g2); (exact x_al (zc @hTAl (zc @hok (zc @e1 (zc @decide_true @beqSf))))); (try dsimp only [upd, optG])); (refine x_gp (zc @hTAl (zc @hok (zc @e1 (zc @decide_true @beqSf)))) ?_); (apply AbsG.callF; exact rfl; (exact x_ev (zc @hTAl (zc @hok (zc @e1 (zc @decide_true @beqSf))))); (exact (Enters.of Tryz.func18 rfl rfl)); (exact g1); (exact x_al (zc @hTAl (zc @hok (zc @e1 (zc @decide_true @beqSf))))); (try dsimp only [upd, optG])); (refine x_gp (zc @hTAl (zc @hok (zc @e1 (zc @decide_true @beqSf)))) ?_); (apply AbsG.callF; exact rfl; (exact x_ev (zc @hTAl (zc @hok (zc @e1 (zc @decide_true @beqSf))))); (exact (Enters.of Tryz.func33 rfl rfl)); (exact g3); (exact x_al (zc @hTAl (zc @hok (zc @e1 (zc @decide_true @beqSf))))); (try dsimp only [upd, optG])); (refine x_gp (zc @hTAl (zc @hok (zc @e1 (zc @decide_true @beqSf)))) ?_); (apply AbsG.callF; exact rfl; (exact x_ev (zc @hTAl (zc @hok (zc @e1 (zc @decide_true @beqSf))))); (exact (Enters.of Tryz.func35 rfl rfl)); (exact g7); (exact x_al (zc @hTAl (zc @hok (zc @e1 (zc @decide_true @beqSf))))); (try dsimp only [upd, optG])); (refine x_gp (zc @hTAl (zc @hok (zc @e1 (zc @decide_true @beqSf)))) ?_); (apply AbsG.new 0; exact rfl; (exact x_ev (zc @hTAl (zc @hok (zc @e1 (zc @decide_true @beqSf))))); ((try simp only [push_cast, seval, hTAl, hok, e1, decide_true, beq_self_eq_true]) <;> exact sT); exact rfl; dsimp only [upd, alcV, List.set, List.length_cons, List.length_nil, Nat.reduceAdd]); (apply AbsG.eff 0; exact rfl; exact rfl; (exact x_ev (zc @hTAl (zc @hok (zc @e1 (zc @decide_true @beqSf))))); ((try simp only [push_cast, seval, hTAl, hok, e1, decide_true, beq_self_eq_true]) <;> exact sT); dsimp only [upd, List.set, List.length_cons, List.length_nil, Nat.reduceAdd]); (refine x_gp (zc @hTAl (zc @hok (zc @e1 (zc @decide_true @beqSf)))) ?_)); exact AbsG.nil); kernel_rfl; (try dsimp only [List.cons_append, List.nil_append]))
          (refine x_gg (zc @hTAl (zc @hok (zc @e1 (zc @decide_true @beqSf)))) ?_)
          (apply Run.pureFP; (exact x_ev (zc @hTAl (zc @hok (zc @e1 (zc @decide_true @beqSf))))); (exact (Enters.of Tryz.func36 rfl rfl)); (exact g8); (exact x_al (zc @hTAl (zc @hok (zc @e1 (zc @decide_true @beqSf))))); (try dsimp only [putA, optG]))
          (refine x_gg (zc @hTAl (zc @hok (zc @e1 (zc @decide_true @beqSf)))) ?_)
          (apply Run.pureP; (exact x_ev (zc @hTAl (zc @hok (zc @e1 (zc @decide_true @beqSf))))); (exact (Enters.of Tryz.func26 rfl rfl)); (exact g9); (exact x_al (zc @hTAl (zc @hok (zc @e1 (zc @decide_true @beqSf))))); (try dsimp only [putA, optG]))
          (refine x_gg (zc @hTAl (zc @hok (zc @e1 (zc @decide_true @beqSf)))) ?_)
          (apply Run.pureP; (exact x_ev (zc @hTAl (zc @hok (zc @e1 (zc @decide_true @beqSf))))); (exact (Enters.of Tryz.func15 rfl rfl)); (exact w1); (exact x_al (zc @hTAl (zc @hok (zc @e1 (zc @decide_true @beqSf))))); (try dsimp only [putA, optG]))
          (refine x_gg (zc @hTAl (zc @hok (zc @e1 (zc @decide_true @beqSf)))) ?_)
          (first | exact x_ret (zc @hTAl (zc @hok (zc @e1 (zc @decide_true @beqSf)))) | refine x_retZ (zc @hTAl (zc @hok (zc @e1 (zc @decide_true @beqSf)))) ?_)
        · rw [hp] at g7 g8
          unfold rmA rmC at *
          unfold stA at *
          (refine Spec.bd 0 Tryz.func7 Tryz.results7 Tryz.ntmps7 ?_; simp only [entry, zipArgs, Nat.reduceAdd])
          (refine x_go (zc @hTAl (zc @hok (zc @e1 (zc @decide_true @beqSf)))) ?_)
          (apply Run.pureFP; (exact x_ev (zc @hTAl (zc @hok (zc @e1 (zc @decide_true @beqSf))))); (exact (Enters.of Tryz.func20 rfl rfl)); (exact f1); (exact x_al (zc @hTAl (zc @hok (zc @e1 (zc @decide_true @beqSf))))); (try dsimp only [putA, optG]))
          (refine x_go (zc @hTAl (zc @hok (zc @e1 (zc @decide_true @beqSf)))) ?_)
          (apply Run.pureFP; (exact x_ev (zc @hTAl (zc @hok (zc @e1 (zc @decide_true @beqSf))))); (exact (Enters.of Tryz.func14 rfl rfl)); (exact a1); (exact x_al (zc @hTAl (zc @hok (zc @e1 (zc @decide_true @beqSf))))); (try dsimp only [putA, optG]))
          (refine x_gg (zc @hTAl (zc @hok (zc @e1 (zc @decide_true @beqSf)))) ?_)
          (refine Wp.rnD 12 ?_; apply exAb; (((refine x_abn (zc @hTAl (zc @hok (zc @e1 (zc @decide_true @beqSf)))) ?_); (apply Abn.pureFP; (exact x_ev (zc @hTAl (zc @hok (zc @e1 (zc @decide_true @beqSf))))); (exact (Enters.of Tryz.func17 rfl rfl)); (exact g2); (exact x_al (zc @hTAl (zc @hok (zc @e1 (zc @decide_true @beqSf))))); (try dsimp only [putA, optG])); (refine x_abn (zc @hTAl (zc @hok (zc @e1 (zc @decide_true @beqSf)))) ?_); (apply Abn.pureFP; (exact x_ev (zc @hTAl (zc @hok (zc @e1 (zc @decide_true @beqSf))))); (exact (Enters.of Tryz.func18 rfl rfl)); (exact g1); (exact x_al (zc @hTAl (zc @hok (zc @e1 (zc @decide_true @beqSf))))); (try dsimp only [putA, optG])); (refine x_abn (zc @hTAl (zc @hok (zc @e1 (zc @decide_true @beqSf)))) ?_); (apply Abn.pureFP; (exact x_ev (zc @hTAl (zc @hok (zc @e1 (zc @decide_true @beqSf))))); (exact (Enters.of Tryz.func33 rfl rfl)); (exact g3); (exact x_al (zc @hTAl (zc @hok (zc @e1 (zc @decide_true @beqSf))))); (try dsimp only [putA, optG])); (refine x_abn (zc @hTAl (zc @hok (zc @e1 (zc @decide_true @beqSf)))) ?_); (apply Abn.pureFP; (exact x_ev (zc @hTAl (zc @hok (zc @e1 (zc @decide_true @beqSf))))); (exact (Enters.of Tryz.func32 rfl rfl)); (exact g5); (exact x_al (zc @hTAl (zc @hok (zc @e1 (zc @decide_true @beqSf))))); (try dsimp only [putA, optG])); (refine x_abn (zc @hTAl (zc @hok (zc @e1 (zc @decide_true @beqSf)))) ?_)); exact Abn.nil))
          (refine x_gg (zc @hTAl (zc @hok (zc @e1 (zc @decide_true @beqSf)))) ?_)
          (apply Run.pureFP; (exact x_ev (zc @hTAl (zc @hok (zc @e1 (zc @decide_true @beqSf))))); (exact (Enters.of Tryz.func34 rfl rfl)); (exact g6); (exact x_al (zc @hTAl (zc @hok (zc @e1 (zc @decide_true @beqSf))))); (try dsimp only [putA, optG]))
          (refine x_gg (zc @hTAl (zc @hok (zc @e1 (zc @decide_true @beqSf)))) ?_)
          (apply Wp.runG 1 mixed; (dsimp only [List.map] <;> exact rfl); exact rfl; kernel_rfl; ((try dsimp only [List.replicate]); ((refine x_gp (zc @hTAl (zc @hok (zc @e1 (zc @decide_true @beqSf)))) ?_); (apply AbsG.callF; exact rfl; (exact x_ev (zc @hTAl (zc @hok (zc @e1 (zc @decide_true @beqSf))))); (exact (Enters.of Tryz.func17 rfl rfl)); (exact g2); (exact x_al (zc @hTAl (zc @hok (zc @e1 (zc @decide_true @beqSf))))); (try dsimp only [upd, optG])); (refine x_gp (zc @hTAl (zc @hok (zc @e1 (zc @decide_true @beqSf)))) ?_); (apply AbsG.callF; exact rfl; (exact x_ev (zc @hTAl (zc @hok (zc @e1 (zc @decide_true @beqSf))))); (exact (Enters.of Tryz.func18 rfl rfl)); (exact g1); (exact x_al (zc @hTAl (zc @hok (zc @e1 (zc @decide_true @beqSf))))); (try dsimp only [upd, optG])); (refine x_gp (zc @hTAl (zc @hok (zc @e1 (zc @decide_true @beqSf)))) ?_); (apply AbsG.callF; exact rfl; (exact x_ev (zc @hTAl (zc @hok (zc @e1 (zc @decide_true @beqSf))))); (exact (Enters.of Tryz.func33 rfl rfl)); (exact g3); (exact x_al (zc @hTAl (zc @hok (zc @e1 (zc @decide_true @beqSf))))); (try dsimp only [upd, optG])); (refine x_gp (zc @hTAl (zc @hok (zc @e1 (zc @decide_true @beqSf)))) ?_); (apply AbsG.callF; exact rfl; (exact x_ev (zc @hTAl (zc @hok (zc @e1 (zc @decide_true @beqSf))))); (exact (Enters.of Tryz.func35 rfl rfl)); (exact g7); (exact x_al (zc @hTAl (zc @hok (zc @e1 (zc @decide_true @beqSf))))); (try dsimp only [upd, optG])); (refine x_gp (zc @hTAl (zc @hok (zc @e1 (zc @decide_true @beqSf)))) ?_); (apply AbsG.new 0; exact rfl; (exact x_ev (zc @hTAl (zc @hok (zc @e1 (zc @decide_true @beqSf))))); ((try simp only [push_cast, seval, hTAl, hok, e1, decide_true, beq_self_eq_true]) <;> exact sT); exact rfl; dsimp only [upd, alcV, List.set, List.length_cons, List.length_nil, Nat.reduceAdd]); (apply AbsG.eff 0; exact rfl; exact rfl; (exact x_ev (zc @hTAl (zc @hok (zc @e1 (zc @decide_true @beqSf))))); ((try simp only [push_cast, seval, hTAl, hok, e1, decide_true, beq_self_eq_true]) <;> exact sT); dsimp only [upd, List.set, List.length_cons, List.length_nil, Nat.reduceAdd]); (refine x_gp (zc @hTAl (zc @hok (zc @e1 (zc @decide_true @beqSf)))) ?_)); exact AbsG.nil); kernel_rfl; (try dsimp only [List.cons_append, List.nil_append]))
          (refine x_gg (zc @hTAl (zc @hok (zc @e1 (zc @decide_true @beqSf)))) ?_)
          (apply Run.pureFP; (exact x_ev (zc @hTAl (zc @hok (zc @e1 (zc @decide_true @beqSf))))); (exact (Enters.of Tryz.func36 rfl rfl)); (exact g8); (exact x_al (zc @hTAl (zc @hok (zc @e1 (zc @decide_true @beqSf))))); (try dsimp only [putA, optG]))
          (refine x_gg (zc @hTAl (zc @hok (zc @e1 (zc @decide_true @beqSf)))) ?_)
          (apply Run.pureW; (exact x_ev (zc @hTAl (zc @hok (zc @e1 (zc @decide_true @beqSf))))); (exact (Enters.of Tryz.func26 rfl rfl)); (exact g9); (exact VwL.cons (Vw.agg (.cons .emp (.cons .emp (.cons .emp .nil)))) (VwL.cons (Vw.agg (.cons .emp (.cons .emp (.cons .emp .nil)))) .nil)); (simp only [push_cast, seval, hTAl, hok, e1, decide_true, beq_self_eq_true] <;> first | trivial | assumption | (refine ⟨?_, ?_⟩ <;> assumption) | (simp; done)); (try dsimp only [putA, optG]))
          (refine x_gg (zc @hTAl (zc @hok (zc @e1 (zc @decide_true @beqSf)))) ?_)
          (apply Run.pureP; (exact x_ev (zc @hTAl (zc @hok (zc @e1 (zc @decide_true @beqSf))))); (exact (Enters.of Tryz.func15 rfl rfl)); (exact w1); (exact x_al (zc @hTAl (zc @hok (zc @e1 (zc @decide_true @beqSf))))); (try dsimp only [putA, optG]))
          (refine x_gg (zc @hTAl (zc @hok (zc @e1 (zc @decide_true @beqSf)))) ?_)
          (first | exact x_ret (zc @hTAl (zc @hok (zc @e1 (zc @decide_true @beqSf)))) | refine x_retZ (zc @hTAl (zc @hok (zc @e1 (zc @decide_true @beqSf)))) ?_)
end Go.Proofs.Tryz
namespace Go.Vg
open Go.RowKit Go.ChangeShapes

abbrev XN : Nat → Prop := fun _ => False

def AV.simple : AV → Bool
  | .val _ | .lst _ _ => true
  | _ => false

theorem simple_at {w : World} {ρ : Rho} {x : AV} (h : x.simple = true) (sz b o : Nat) : Re XN w ρ x sz b o = OneAt w (fun v => R XN w ρ x v) sz b o := by
  cases x <;> simp_all [AV.simple] <;> rfl

/-- whatever reads as a value of type t is related to abstract cells of which Q holds -/
def Opens (P : Program) (t : TypeId) (Q : List AV → Prop) : Prop :=
  ∀ (H : Type) (enc : TypeId × Value → H) (w : World) (base : Nat) (spare : Nat → Bool) (held : Bool) (fuel : Nat) (cs : List Value) (x : DataW H × List MemPlace),
    DataW.trod enc P w base spare held fuel t cs = some x →
    ∃ xs, Q xs ∧ Rvals XN w [] xs cs ∧ xs.length = P.cellsOf t ∧ (∀ y ∈ xs, y.simple = true) ∧ ∀ v ∈ cs, v.oneCell' = true

theorem Opens.mono {P : Program} {t : TypeId} {Q Q' : List AV → Prop} (h : Opens P t Q) (hq : ∀ xs, Q xs → Q' xs) : Opens P t Q' :=
  fun H enc w base spare held fuel cs x hx => let ⟨xs, h1, h2⟩ := h H enc w base spare held fuel cs x hx; ⟨xs, hq xs h1, h2⟩

def i64 (n : Int) : Prop := -9223372036854775808 ≤ n ∧ n ≤ 9223372036854775807

theorem Opens.int {P : Program} {t : TypeId} (ht : P.underlying t = some (.int .i64)) (hc : P.cellsOf t = 1) : Opens P t fun xs => ∃ n, i64 n ∧ xs = [.int n] := by
  intro H enc w base spare held fuel cs x h
  obtain ⟨n, rfl, rfl, hw⟩ := DataW.trod_int ht h
  exact ⟨[.int n], ⟨n, bounds_i64 hw, rfl⟩, ⟨_, [], rfl, rfl, rfl⟩, by rw [hc]; rfl, by simp [AV.simple], by simp [Value.oneCell']⟩

theorem Opens.bool {P : Program} {t : TypeId} (ht : P.underlying t = some .bool) (hc : P.cellsOf t = 1) : Opens P t fun xs => ∃ b, xs = [.bool b] := by
  intro H enc w base spare held fuel cs x h
  obtain ⟨b, rfl, rfl⟩ := DataW.trod_bool ht h
  exact ⟨[.bool b], ⟨b, rfl⟩, ⟨_, [], rfl, rfl, rfl⟩, by rw [hc]; rfl, by simp [AV.simple], by simp [Value.oneCell']⟩

theorem Opens.str {P : Program} {t : TypeId} (ht : P.underlying t = some .string) (hc : P.cellsOf t = 1) : Opens P t fun xs => ∃ s : ByteArray, s.size ≤ maxLen ∧ xs = [.str s] := by
  intro H enc w base spare held fuel cs x h
  obtain ⟨s, rfl, rfl, hs⟩ := DataW.trod_string ht h
  exact ⟨[.str s], ⟨s, hs, rfl⟩, ⟨_, [], rfl, rfl, rfl⟩, by rw [hc]; rfl, by simp [AV.simple], by simp [Value.oneCell']⟩

def contig (P : Program) : Nat → List Field → Nat → Bool
  | o, [], n => o == n
  | o, f :: fs, n => f.offset == o && contig P (o + P.cellsOf f.type) fs n

inductive OpensFs (P : Program) : List Field → (List AV → Prop) → Prop
  | nil : OpensFs P [] fun xs => xs = []
  | cons {f : Field} {fs : List Field} {Q Q' : List AV → Prop} : Opens P f.type Q → OpensFs P fs Q' → OpensFs P (f :: fs) fun xs => ∃ a b, xs = a ++ b ∧ Q a ∧ Q' b

theorem opensFs_run {P : Program} {H : Type} {enc : TypeId × Value → H} {w : World} {base : Nat} {spare : Nat → Bool} {held : Bool} {fuel : Nat} {cs : List Value} :
    ∀ {fs : List Field} {Q : List AV → Prop}, OpensFs P fs Q → ∀ o, contig P o fs cs.length = true → (∀ f ∈ fs, ∃ x, DataW.trod enc P w base spare held fuel f.type ((cs.drop f.offset).take (P.cellsOf f.type)) = some x) →
    ∃ xs, Q xs ∧ Rvals XN w [] xs (cs.drop o) ∧ o + xs.length = cs.length ∧ (∀ y ∈ xs, y.simple = true) ∧ ∀ v ∈ cs.drop o, v.oneCell' = true
  | [], _, .nil, o, hc, _ => by
    simp only [contig, beq_iff_eq] at hc
    subst hc
    exact ⟨[], rfl, by simp [Rvals], by simp, by simp, by simp⟩
  | f :: fs, _, .cons h1 h2, o, hc, ht => by
    simp only [contig, Bool.and_eq_true, beq_iff_eq] at hc
    obtain ⟨x, hx⟩ := ht f (by simp)
    rw [hc.1] at hx
    obtain ⟨a, a1, a2, a3, a4, a5⟩ := h1 H enc w base spare held fuel _ x hx
    obtain ⟨b, b1, b2, b3, b4, b5⟩ := opensFs_run h2 (o + P.cellsOf f.type) hc.2 (fun g hg => ht g (by simp [hg]))
    have e : cs.drop o = (cs.drop o).take (P.cellsOf f.type) ++ cs.drop (o + P.cellsOf f.type) := by
      rw [← List.drop_drop, List.take_append_drop]
    refine ⟨a ++ b, ⟨a, b, rfl, a1, b1⟩, ?_, by simp; omega, ?_, ?_⟩
    · rw [e]; exact Rvals.append a2 b2
    · intro y hy
      rcases List.mem_append.1 hy with h | h
      · exact a4 y h
      · exact b4 y h
    · intro v hv
      rw [e] at hv
      rcases List.mem_append.1 hv with h | h
      · exact a5 v h
      · exact b5 v h

theorem Opens.struct {P : Program} {t : TypeId} {fs : Array Field} {Q : List AV → Prop} (ht : P.underlying t = some (.struct fs)) (hc : contig P 0 fs.toList (P.cellsOf t) = true) (hF : OpensFs P fs.toList Q) : Opens P t Q := by
  intro H enc w base spare held fuel cs x h
  obtain ⟨xs, n, rfl, rfl, hl, hlen, hf⟩ := DataW.trod_struct ht h
  obtain ⟨ys, h1, h2, h3, h4, h5⟩ := opensFs_run (enc := enc) (w := w) (base := base) (spare := spare) (held := held) (fuel := n) (cs := cs) hF 0 (by rw [hl]; exact hc) (fun f hf' => by
    obtain ⟨i, hi, e⟩ := List.getElem_of_mem hf'
    have hi' : i < fs.size := by simpa using hi
    have := hf i f (by rw [Array.getElem?_eq_getElem hi']; simpa using e)
    rw [this, List.getElem?_eq_getElem (by omega)]
    exact ⟨_, rfl⟩)
  exact ⟨ys, h1, by simpa using h2, by omega, h4, by simpa using h5⟩

def elemAV (P : Program) (e : TypeId) (xs : List AV) : AV :=
  match agg? P e with
  | some true => .agg xs
  | _ => xs.headD .any

theorem Rcells_of0 {w : World} {b : Nat} : ∀ {xs : List AV} {cs : List Value} {o : Nat}, Rvals XN w [] xs cs → (∀ i v, cs[i]? = some v → w.cell? ⟨b, o + i, none⟩ = some v ∧ v.oneCell' = true) → Rcells XN w [] xs b o
  | [], _, _, _, _ => trivial
  | x :: xs, _, o, ⟨v, vs, e, h1, h2⟩, h => by
    subst e
    refine ⟨⟨v, (h 0 v rfl).1, (h 0 v rfl).2, h1⟩, Rcells_of0 h2 fun i u hu => ?_⟩
    have := h (i + 1) u (by simpa using hu)
    rw [show o + 1 + i = o + (i + 1) by omega]
    exact this

theorem mapM_get {α β : Type} {f : α → Option β} : ∀ {l : List α} {r : List β}, l.mapM f = some r → ∀ (i : Nat) (y : β), r[i]? = some y → ∃ x, l[i]? = some x ∧ f x = some y
  | [], r, h, i, y, hy => by simp at h; subst h; simp at hy
  | a :: l, r, h, i, y, hy => by
    rw [List.mapM_cons] at h
    cases ha : f a with
    | none => rw [ha] at h; simp at h
    | some z =>
      rw [ha] at h
      cases hl : l.mapM f with
      | none => rw [hl] at h; simp at h
      | some q =>
        rw [hl] at h
        simp at h
        subst h
        cases i with
        | zero => simp at hy; subst hy; exact ⟨a, rfl, ha⟩
        | succ i => simpa using mapM_get hl i y (by simpa using hy)

theorem cells_get {w : World} {base n : Nat} {a : Addr} {cs : List Value} (h : w.cells? base a n = some cs) : ∀ i v, cs[i]? = some v → w.cell? (a.add i) = some v := by
  intro i v hi
  unfold World.cells? at h
  split at h
  · obtain ⟨x, h1, h2⟩ := mapM_get h i v hi
    have : x = i := by
      rw [List.getElem?_range] at h1
      · simpa using h1.symm
      · rcases Nat.lt_or_ge i n with h | h
        · exact h
        · rw [List.getElem?_eq_none (by simpa using h)] at h1; cases h1
    subst this
    exact h2
  · cases h

theorem Opens.slice {P : Program} {t e : TypeId} {Q : List AV → Prop} (ht : P.underlying t = some (.slice e)) (hc : P.cellsOf t = 1) (he : Opens P e Q) (hp : 0 < P.cellsOf e) (hag : agg? P e = some true ∨ agg? P e = some false ∧ P.cellsOf e = 1) :
    Opens P t fun xs => ∃ l : List (List AV), l.length ≤ maxLen ∧ xs = [.lst (P.cellsOf e) (l.map (elemAV P e))] ∧ ∀ y ∈ l, Q y := by
  intro H enc w base spare held fuel cs x h
  rcases Deep.open_slice ht h with ⟨rfl, rfl⟩ | ⟨a, len, cap, m, n, D, Pl, rfl, hb, hl, hm, hmm, rfl, hel⟩
  · refine ⟨_, ⟨[], by simp, rfl, by simp⟩, ⟨_, [], rfl, ⟨none, 0, rfl, by simp, by simp [maxLen], by simp⟩, rfl⟩, by rw [hc]; rfl, by simp [AV.simple], by simp [Value.oneCell']⟩
  · have hle : len ≤ m := by rw [hmm]; split <;> omega
    have hspot0 : 0 < len → a.spot = none := fun hpos => by
      obtain ⟨cs', c1, c2⟩ := hel 0 (by omega)
      obtain ⟨ys, y1, y2, y3, y4, y5⟩ := he H enc w base spare held n cs' _ c2
      have hlen := y2.len
      have hcell := cells_get c1
      cases cs' with
      | nil => simp at hlen; omega
      | cons v vs =>
        have := hcell 0 v rfl
        simp only [Nat.zero_mul, Addr.add, if_true] at this
        unfold World.cell? at this
        split at this
        · split at this
          · cases this
          · rename_i _ _ _ _ hs; simpa using hs
        · cases this
    have hadd : a.spot = none → ∀ n, a.add n = ⟨a.block, a.off + n, none⟩ := fun hs n => by
      unfold Addr.add
      split
      · rename_i h0; rw [h0]; cases a; simp_all
      · rfl
    have key : ∀ k, k ≤ len → ∃ l : List (List AV), l.length = len - k ∧ (∀ y ∈ l, Q y) ∧ (l ≠ [] → a.spot = none) ∧ Rrow XN w [] (l.map (elemAV P e)) (P.cellsOf e) a.block (a.off + k * P.cellsOf e) := by
      intro k
      induction hk : len - k generalizing k with
      | zero => intro _; exact ⟨[], rfl, by simp, by simp, by simp [Rrow]⟩
      | succ j ih =>
        intro hkl
        obtain ⟨l, l1, l2, l3, l4⟩ := ih (k + 1) (by omega) (by omega)
        obtain ⟨cs', c1, c2⟩ := hel k (by omega)
        obtain ⟨ys, y1, y2, y3, y4, y5⟩ := he H enc w base spare held n cs' _ c2
        have hlen := y2.len
        have hcell := cells_get c1
        have hspot : a.spot = none := hspot0 (by omega)
        refine ⟨ys :: l, by simp; omega, by simpa using ⟨y1, l2⟩, fun _ => hspot, ?_, ?_⟩
        · have hcell' : ∀ i v, cs'[i]? = some v → w.cell? ⟨a.block, a.off + k * P.cellsOf e + i, none⟩ = some v ∧ v.oneCell' = true := fun i v hv => by
            have h1 := hcell i v hv
            refine ⟨?_, y5 v (List.mem_of_getElem? hv)⟩
            rw [← h1, hadd hspot, Addr.add_none]
          rcases hag with hag | ⟨hag, h1⟩
          · unfold elemAV; rw [hag]
            exact ⟨y3, Rcells_of0 y2 hcell'⟩
          · unfold elemAV; rw [hag]
            rw [h1] at y3 ⊢
            match ys, y3 with
            | [y], _ =>
              show Re XN w [] y 1 a.block _
              rw [simple_at (y4 y (by simp))]
              obtain ⟨v, vs, rfl, q1, q2⟩ := y2
              have := hcell' 0 v rfl
              rw [h1] at this
              exact ⟨rfl, v, this.1, this.2, q1⟩
        · have e2 : a.off + k * P.cellsOf e + P.cellsOf e = a.off + (k + 1) * P.cellsOf e := by rw [Nat.add_mul]; omega
          rw [e2]
          exact l4
    obtain ⟨l, l1, l2, l3, l4⟩ := key 0 (by omega)
    refine ⟨_, ⟨l, by omega, rfl, l2⟩, ⟨_, [], rfl, ⟨some a, cap, by simp [l1], by simp [l1]; omega, hm, fun hne => ?_⟩, rfl⟩, by rw [hc]; rfl, by simp [AV.simple], by simp [Value.oneCell']⟩
    have hne' : l ≠ [] := by intro e; subst e; simp at hne
    refine ⟨a.block, a.off, ?_, ⟨by simp, by simp⟩, hp, by simpa using l4⟩
    have := l3 hne'
    cases a; simp_all

/-! typed forms -/
theorem map_ex {α : Type} {P : Program} {e : TypeId} {f : α → List AV} {g : α → AV} {W : α → Prop} (hfg : ∀ a, elemAV P e (f a) = g a) : ∀ {l : List (List AV)}, (∀ y ∈ l, ∃ a, W a ∧ y = f a) → ∃ ys : List α, ys.length = l.length ∧ (∀ a ∈ ys, W a) ∧ l.map (elemAV P e) = ys.map g
  | [], _ => ⟨[], rfl, by simp, rfl⟩
  | y :: l, h => by
    obtain ⟨a, ha, rfl⟩ := h y (by simp)
    obtain ⟨ys, h0, h1, h2⟩ := map_ex hfg (l := l) fun z hz => h z (by simp [hz])
    exact ⟨a :: ys, by simp [h0], by simpa using ⟨ha, h1⟩, by simp [h2, hfg]⟩

theorem Opens.sliceT {P : Program} {t e : TypeId} {α : Type} {f : α → List AV} {g : α → AV} {W : α → Prop} (ht : P.underlying t = some (.slice e)) (hc : P.cellsOf t = 1) (he : Opens P e fun xs => ∃ a, W a ∧ xs = f a) (n : Nat) (hn : P.cellsOf e = n) (hp : 0 < n)
    (hag : agg? P e = some true ∨ agg? P e = some false ∧ n = 1) (hfg : ∀ a, elemAV P e (f a) = g a) :
    Opens P t fun xs => ∃ l : List α, (l.length ≤ maxLen ∧ ∀ a ∈ l, W a) ∧ xs = [.lst n (l.map g)] := by
  subst hn
  refine (Opens.slice ht hc he hp hag).mono ?_
  rintro xs ⟨l, h1, rfl, h2⟩
  obtain ⟨ys, h0, h3, h4⟩ := map_ex hfg h2
  exact ⟨ys, ⟨by omega, h3⟩, by rw [h4]⟩

theorem Opens.ints {P : Program} {t e : TypeId} (ht : P.underlying t = some (.slice e)) (hc : P.cellsOf t = 1) (he : P.underlying e = some (.int .i64)) (hn : P.cellsOf e = 1) (hag : agg? P e = some false) :
    Opens P t fun xs => ∃ l : List Int, (l.length ≤ maxLen ∧ ∀ a ∈ l, i64 a) ∧ xs = [.ints l] :=
  Opens.sliceT (f := fun n : Int => [AV.int n]) (g := AV.int) (W := i64) ht hc (Opens.int he hn) 1 hn (by omega) (.inr ⟨hag, rfl⟩) (fun a => by unfold elemAV; rw [hag]; rfl)
theorem Opens.strs {P : Program} {t e : TypeId} (ht : P.underlying t = some (.slice e)) (hc : P.cellsOf t = 1) (he : P.underlying e = some .string) (hn : P.cellsOf e = 1) (hag : agg? P e = some false) :
    Opens P t fun xs => ∃ l : List ByteArray, (l.length ≤ maxLen ∧ ∀ a ∈ l, a.size ≤ maxLen) ∧ xs = [.strs l] :=
  Opens.sliceT (f := fun b : ByteArray => [AV.str b]) (g := AV.str) (W := fun b => b.size ≤ maxLen) ht hc (Opens.str he hn) 1 hn (by omega) (.inr ⟨hag, rfl⟩) (fun a => by unfold elemAV; rw [hag]; rfl)

/-- all arguments -/
inductive OpensAll (P : Program) : List TypeId → (List AV → Prop) → Prop
  | nil : OpensAll P [] fun xs => xs = []
  | cons {t : TypeId} {ts : List TypeId} {Q Q' : List AV → Prop} : (agg? P t = some true ∨ agg? P t = some false ∧ P.cellsOf t = 1) → Opens P t Q → OpensAll P ts Q' → OpensAll P (t :: ts) fun xs => ∃ a b, xs = elemAV P t a :: b ∧ Q a ∧ Q' b

theorem okWide_agg {P : Program} {t : TypeId} {w : World} {r : Reach} {b : Nat} {v : Value} (h : agg? P t = some true) (hv : Value.okWide P w r b t v) : ∃ cs, v = .agg cs := by
  unfold agg? at h
  unfold Value.okWide at hv
  revert h hv
  cases P.underlying t with
  | none => simp
  | some d => cases d <;> simp <;> (intro x h _ _; exact ⟨x, h⟩)

theorem cells_one {v : Value} {cs : List Value} (h : v.cells.toList = cs) (h1 : cs.length = 1) (ho : ∀ u ∈ cs, u.oneCell' = true) (hn : ∀ x, v ≠ .agg x) : cs = [v] := by
  cases v <;> simp_all [Value.cells]

theorem okWide_one {P : Program} {t : TypeId} {w : World} {r : Reach} {b : Nat} {v : Value} (h : agg? P t = some false) (hv : Value.okWide P w r b t v) : ∀ cs, v ≠ .agg cs := by
  rintro cs rfl
  unfold agg? at h
  unfold Value.okWide at hv
  revert h hv
  cases hu : P.underlying t with
  | none => simp
  | some d => cases d <;> simp [Cell.okWide, Cell.ok, hu]

theorem opensAll_run {P : Program} {H : Type} {enc : TypeId × Value → H} {w : World} {base b0 : Nat} {r : Reach} {spare : Nat → Bool} {held : Bool} : ∀ {ts : List TypeId} {Q : List AV → Prop}, OpensAll P ts Q → ∀ {vs : List Value} {ds : List (DataW H)} {ps : List MemPlace},
    DataW.TrodAll enc P w base spare held ts vs ds ps → (∀ (j : Nat) t v, ts[j]? = some t → vs[j]? = some v → Value.okWide P w r b0 t v) → ∃ xs, Q xs ∧ Rvals XN w [] xs vs
  | [], _, .nil, vs, ds, ps, h, _ => by
    obtain ⟨rfl, rfl, rfl⟩ := trodAll_nil h
    exact ⟨[], rfl, rfl⟩
  | t :: ts, _, .cons hag h1 h2, vs, ds, ps, h, hv => by
    obtain ⟨v, vs', d, ds', p, q, rfl, rfl, rfl, ⟨fuel, hd⟩, hr⟩ := trodAll_cons h
    obtain ⟨a, a1, a2, a3, a4, a5⟩ := h1 H enc w base spare held fuel _ _ hd
    obtain ⟨b, b1, b2⟩ := opensAll_run h2 hr fun j t' v' ht' hv' => hv (j + 1) t' v' (by simpa using ht') (by simpa using hv')
    have hov := hv 0 t v rfl rfl
    refine ⟨elemAV P t a :: b, ⟨a, b, rfl, a1, b1⟩, v, vs', rfl, ?_, b2⟩
    rcases hag with hag | ⟨hag, hone⟩
    · obtain ⟨cs, rfl⟩ := okWide_agg hag hov
      unfold elemAV; rw [hag]
      exact ⟨cs.toList, by simp, by simpa [Value.cells] using a2⟩
    · have hl := a2.len
      rw [a3, hone] at hl
      have := cells_one (v := v) rfl hl a5 (okWide_one hag hov)
      rw [this] at a2
      match a, a3.trans hone with
      | [x], _ =>
        obtain ⟨u, us, e, q1, q2⟩ := a2
        simp at e
        unfold elemAV; rw [hag]
        rw [e.1]
        exact q1

theorem Tr.below {w w' : World} (h : Tr w [] w' []) : Below w.heap.size w w' :=
  ⟨h.os, h.tape, h.output, h.size, fun k hk => (h.block k (by simp) hk).2⟩

theorem trodAll_below {P : Program} {H : Type} {enc : TypeId × Value → H} {W W' : World} (hl : laidOutB P = true) (hb : Below W.heap.size W W') : ∀ {ts : List TypeId} {vs : List Value} {ds : List (DataW H)} {ps : List MemPlace},
    (∀ t ∈ ts, P.readableRec t = true ∧ t < P.types.size) → DataW.TrodAll enc P W 0 (fun _ => true) true ts vs ds ps → (∀ x ∈ ps, x.block < W.heap.size) → ∀ sp : Nat → Bool, (∀ x ∈ ps, sp x.block = true) → DataW.TrodAll enc P W' 0 sp true ts vs ds ps
  | [], vs, ds, ps, _, h, _, sp, _ => by
    obtain ⟨rfl, rfl, rfl⟩ := trodAll_nil h
    simp [DataW.TrodAll]
  | t :: ts, vs, ds, ps, hr, h, hlt, sp, hsp => by
    obtain ⟨v, vs', d, ds', p, q, rfl, rfl, rfl, h1, h2⟩ := trodAll_cons h
    refine ⟨p, q, ?_, trodAll_below hl hb (fun t ht => hr t (by simp [ht])) h2 (fun x hx => hlt x (by simp [hx])) sp (fun x hx => hsp x (by simp [hx])), rfl⟩
    exact WideElems.Trod_stays hl (hr t (by simp)).1 (hr t (by simp)).2 h1 (fun x hx => hb.same (hlt x (by simp [hx]))) (fun x hx => hsp x (by simp [hx]))

/-- as the kit's post_of_same, but of frozen cells only what the arguments need -/
theorem post_of_below {P : Program} {H : Type} {enc : TypeId × Value → H} {f : Func} {s : ChangeSpec} {apart fresh handsOn again : Bool} {W W' : World} {args : Array Value} {v : Value} {ds gs : List (DataW H)} {before pa pv : List MemPlace}
    (hW : DataW.Whole enc P f.params.toList s.vars apart W args.toList ds gs before)
    (hres : ∀ (b : Nat) (sp : Nat → Bool) (hd : Bool), DataW.TrodAll enc P W' b sp hd f.resultTypes.toList (v.resultList f.resultTypes.size) (s.fn H (ds ++ gs)).results [])
    (hargs : ∀ sp : Nat → Bool, (∀ p ∈ before, sp p.block = true) → DataW.TrodAll enc P W' 0 sp true f.params.toList args.toList (s.fn H (ds ++ gs)).args pa)
    (hvars : ∀ sp : Nat → Bool, (∀ p ∈ before, sp p.block = true) → DataW.TrodVars enc P W' sp s.vars (s.fn H (ds ++ gs)).vars pv)
    (hps : before = pa ++ pv) (hk : W.keptBut W' (· ∈ before)) (hfz : ∀ a : Addr, a.block < W.heap.size → W'.frozen? a = W.frozen? a)
    (hok : ∀ (j : Nat) (t : TypeId) (r : Value), f.resultTypes[j]? = some t → (v.resultList f.resultTypes.size)[j]? = some r → Value.okWide P W' .any 0 t r) :
    s.post enc P f apart fresh handsOn again W args v W' := by
  have hold : ∀ p ∈ before, (fun b => decide (b < W.heap.size)) p.block = true := fun p hp => by simpa using hW.lt p hp
  refine ⟨ds, gs, before, [], pa, pv, hW, hres _ _ _, hargs _ hold, hvars _ hold, World.keptBut_mono (fun p hp => ⟨hp, ?_⟩) hk, fun _ => ?_⟩
  · rw [hps, List.mem_append] at hp
    exact Or.inr hp
  · have hlt := hW.lt
    obtain ⟨_, _, _, _, _, hz, hn⟩ := hW
    refine ⟨hok, _, _, ([] ++ pa) ++ pv, ⟨[] ++ pa, pv, trodAll_append (hargs _ (fun _ _ => rfl)) (hres _ _ _), hvars _ (fun _ _ => rfl), rfl, ?_, ?_⟩, ?_⟩
    · intro b off hp
      have hp' := hp
      rw [hfz]
      · exact hz b off (by rw [hps]; simpa using hp)
      · have := hlt (.cell b off) (by rw [hps]; simpa using hp)
        exact this
    · intro ha
      have := hn ha
      rw [hps] at this
      simpa using this
    · intro p hp _
      rw [hps]
      simpa using hp

/-- a law's contract, from its 'Pure' at what the arguments read as -/
theorem law_contract_one {P : Program} {f : FuncId} {fn : Func} {s : ChangeSpec} {tb : TypeId} (hl : laidOutB P = true) (hts : ∀ t ∈ fn.params.toList, P.readableRec t = true ∧ t < P.types.size)
    (hv0 : s.vars = []) (hs : ∀ (H : Type) (ds : List (DataW H)), ds.length = fn.params.toList.length → s.fn H ds = { results := [.lit (.bool true)], args := ds }) (hrt : fn.resultTypes = #[tb]) (htb : P.underlying tb = some .bool)
    {W : World} {args : Array Value} (xs : List AV) (hR : Rvals XN W [] xs args.toList) (hp : Pure P f xs (.bool true))
    (H : Type) (enc : TypeId × Value → H) (base : Nat) (ds gs : List (DataW H)) (before : List MemPlace)
    (hval : ∀ (j : Nat) t v, fn.params[j]? = some t → args[j]? = some v → Value.okWide P W .any base t v)
    (hW : DataW.Whole enc P fn.params.toList s.vars false W args.toList ds gs before) (hgd : Gd XN W []) :
    Calls P f args W fun e W' => ∃ v, e = .returned v ∧ s.post enc P fn false true false false W args v W' := by
  have hW' := hW
  obtain ⟨p, q, hA, hV, hbef, hfz, hnd⟩ := hW
  rw [hv0] at hV
  obtain ⟨rfl, rfl⟩ := trodVars_none hV
  have hlen : ds.length = fn.params.toList.length := by
    clear hval hR hW' hV hbef hnd hfz hts hs
    generalize fn.params.toList = ts at hA
    generalize args.toList = vs at hA
    clear hv0 hrt
    revert vs ds p
    induction ts with
    | nil => intro ds p vs h; obtain ⟨rfl, rfl, rfl⟩ := trodAll_nil h; rfl
    | cons t ts ih => intro ds p vs h; obtain ⟨v, vs', d, ds', p, q, rfl, rfl, rfl, h1, h2⟩ := trodAll_cons h; simp [ih _ _ _ h2]
  have hc := hp XN W [] args.toList (Inv.empty (by simp) hgd) hR
  rw [show args.toList.toArray = args by simp] at hc
  refine hc.mono fun e W' h => ?_
  obtain ⟨v, x, m', ρ', rfl, ⟨rfl, rfl⟩, hv, hi, ht⟩ := h
  have : ρ' = [] := List.length_eq_zero_iff.1 hi.len
  subst this
  have hvb : v = .bool true := hv
  subst hvb
  have hb := ht.below
  have hlt : ∀ x ∈ p, x.block < W.heap.size := fun x hx => by simpa using hW'.lt x (by rw [hbef]; simp [hx])
  have hsf : s.fn H (ds ++ []) = { results := [.lit (.bool true)], args := ds } := by rw [List.append_nil]; exact hs H ds hlen
  refine ⟨_, rfl, post_of_below (pa := p) (pv := []) hW' ?_ ?_ ?_ hbef (hb.frame _) (fun a ha => hb.frozen ha) (ok_one hrt rfl (okWide_bool_mk htb _))⟩
  · intro b sp hd
    rw [hrt, hsf]
    exact trodAll_cons_mk (shut_bool htb _) trodAll_mk0
  · intro sp hsp
    rw [hsf]
    exact trodAll_below hl hb hts hA hlt sp (fun x hx => hsp x (by rw [hbef]; simp [hx]))
  · intro sp hsp
    rw [hsf, hv0]
    rfl

/-- a law's contract, from its 'Pure' -/
theorem law_contract {P : Program} {f : FuncId} {fn : Func} {s : ChangeSpec} {Q : List AV → Prop} {tb : TypeId} (hl : laidOutB P = true) (hts : ∀ t ∈ fn.params.toList, P.readableRec t = true ∧ t < P.types.size)
    (hv0 : s.vars = []) (hs : ∀ (H : Type) (ds : List (DataW H)), ds.length = fn.params.toList.length → s.fn H ds = { results := [.lit (.bool true)], args := ds }) (hrt : fn.resultTypes = #[tb]) (htb : P.underlying tb = some .bool)
    (hO : OpensAll P fn.params.toList Q) (hp : ∀ xs, Q xs → Pure P f xs (.bool true))
    (H : Type) (enc : TypeId × Value → H) (W : World) (base : Nat) (args : Array Value) (ds gs : List (DataW H)) (before : List MemPlace)
    (hval : ∀ (j : Nat) t v, fn.params[j]? = some t → args[j]? = some v → Value.okWide P W .any base t v)
    (hW : DataW.Whole enc P fn.params.toList s.vars false W args.toList ds gs before) (hgd : Gd XN W []) :
    Calls P f args W fun e W' => ∃ v, e = .returned v ∧ s.post enc P fn false true false false W args v W' := by
  have hW0 := hW
  obtain ⟨p, q, hA, hV, hbef, hfz, hnd⟩ := hW
  obtain ⟨xs, hQ, hR⟩ := opensAll_run (r := .any) (b0 := base) hO hA (fun j t v ht hv => hval j t v (by simpa using ht) (by simpa using hv))
  exact law_contract_one hl hts hv0 hs hrt htb xs hR (hp xs hQ) H enc base ds gs before hval hW0 hgd
end Go.Vg
set_option maxHeartbeats 8000000
namespace Go.Proofs.Tryz
open Go.Vg

/-! what the row's list gives: the two variables that the code reads -/
theorem g0Name : Tryz.prog.globalNamed "internal/strconv.uint64pow10" = some 0 := by kernel_rfl
theorem g1Name : Tryz.prog.globalNamed "padlock/room.reserved" = some 1 := by kernel_rfl
theorem gd_laid {W : World} {d1 d2 : DataW Unit} (h : laidMet Tryz.prog [("math/bits.deBruijn32tab", d1), ("math/bits.deBruijn64tab", d2), ("internal/strconv.uint64pow10", Lib.tabData .u64 Lib.pow10Tab), ("padlock/room.reserved", .slice (rsvd.map fun s => .lit (.string s.data.toList)) [])] W) : Gd XN W [] := by
  obtain ⟨ps, ⟨g1, t1, c1, f1, p1, q1, _, _, _, _, ⟨g2, t2, c2, f2, p2, q2, _, _, _, _, ⟨g3, t3, c3, f3, p3, q3, hg3, ht3, hv3, hd3, ⟨g4, t4, c4, f4, p4, q4, hg4, ht4, hv4, hd4, _, _⟩, _⟩, _⟩, _⟩, _⟩ := h
  have hcell : ∀ {n : String} {g : Nat} {cs : Array Value}, Tryz.prog.globalNamed n = some g → W.var? Tryz.prog n = some cs → ∃ e fr, W.heap[g]? = some (.cells cs e fr) := fun {n g cs} h1 h2 => by
    unfold World.var? at h2
    rw [h1, Option.bind_some] at h2
    split at h2
    · rename_i c e fr hh
      cases h2
      exact ⟨e, fr, hh⟩
    · cases h2
  obtain rfl := Option.some.inj (g0Name.symm.trans hg3)
  obtain rfl := Option.some.inj (g1Name.symm.trans hg4)
  obtain rfl : (208 : Nat) = t3 := Option.some.inj ((show (Tryz.prog.globals[0]?).map (·.type) = some 208 by kernel_rfl).symm.trans ht3)
  obtain rfl : (22 : Nat) = t4 := Option.some.inj ((show (Tryz.prog.globals[1]?).map (·.type) = some 22 by kernel_rfl).symm.trans ht4)
  obtain ⟨e3, fr3, h3⟩ := hcell g0Name hv3
  obtain ⟨e4, fr4, h4⟩ := hcell g1Name hv4
  have k3 := Lib.cells_of_tab Tryz.underlying208 Tryz.underlying175 (by kernel_rfl) (by kernel_rfl) hd3
  have free : ∀ b, Free XN [] b := fun b => ⟨fun h => h, fun r hr => (by cases hr)⟩
  refine ⟨fun g hg => (by cases hg), fun g s hg => ?_, fun g v hg => ?_⟩
  · obtain ⟨rfl, rfl⟩ : 1 = g ∧ rsvd = s := by
      unfold GR at hg
      simp only [Option.some.injEq, Prod.mk.injEq] at hg
      exact hg
    rcases Deep.open_strs Tryz.underlying22 Tryz.underlying9 (by kernel_rfl) hd4 with ⟨_, hx⟩ | ⟨a, len, cap, m, Sx, hcs, hb, hl, hm, hmm, hx, hcl⟩
    · cases hx
    · simp only [Prod.mk.injEq, DataW.slice.injEq] at hx
      obtain ⟨⟨hx1, hx2⟩, _⟩ := hx
      have hlen : len = rsvd.length := by
        have := congrArg List.length hx1
        simpa using this.symm
      have hm2 : len ≤ m := by rw [hmm]; split <;> omega
      have hpos : 0 < rsvd.length := by decide
      have c0 := (hcl 0 (by omega)).1
      have hsp : a.spot = none := by
        unfold World.cell? at c0
        simp only [Addr.add, if_true] at c0
        split at c0
        · split at c0
          · cases c0
          · rename_i hh; simpa using hh
        · cases c0
      obtain ⟨b, o, sp⟩ := a
      simp only at hsp
      subst hsp
      refine ⟨b, o, cap, ?_, by omega, hm, hpos, fun i hi => ?_, free 1, free b⟩
      · unfold World.cell?
        rw [h4]
        have : c4 = #[.slice (some ⟨b, o, none⟩) len cap] := by
          apply Array.toList_inj.1
          rw [hcs]
        rw [this, hlen]
        rfl
      · have c1 := (hcl i (by omega)).1
        have e1 : (Addr.add ⟨b, o, none⟩ i) = ⟨b, o + i, none⟩ := by
          unfold Addr.add
          split
          · rename_i hz; subst hz; rfl
          · rfl
        rw [e1] at c1
        rw [c1]
        have e2 : (rsvd.map fun s => (DataW.lit (.string s.data.toList) : DataW Unit))[i]? = ((List.range len).map fun i => (DataW.lit (.string (Sx i).data.toList) : DataW Unit))[i]? := by rw [hx1]
        simp only [List.getElem?_map, List.getElem?_range (show i < len by omega), List.getElem?_eq_getElem hi, Option.map_some, Option.some.injEq, DataW.lit.injEq, Lit.string.injEq] at e2
        have e3 : Sx i = rsvd[i] := by
          have : (Sx i).data = (rsvd[i]).data := Array.toList_inj.1 e2.symm
          cases hq : Sx i with
          | mk d => rw [hq] at this; simp only at this; cases hr : rsvd[i] with
            | mk d' => rw [hr] at this; simp only at this; rw [this]
        rw [e3]
        simp [hi]
  · obtain ⟨rfl, rfl⟩ : 0 = g ∧ pow10V = v := by
      unfold GV at hg
      simp only [Option.some.injEq, Prod.mk.injEq] at hg
      exact hg
    refine ⟨⟨e3, fr3, ?_⟩, free 0⟩
    rw [h3]
    have : c3 = pow10V.toArray := by
      apply Array.toList_inj.1
      rw [k3]
      simp [pow10V, Lib.pow10Tab, List.map_map]
    rw [this]
end Go.Proofs.Tryz
set_option maxHeartbeats 8000000
namespace Go.Proofs.Tryz
open Go.Vg

/-! what the arguments read as: rooms and states -/
theorem oInt : Opens Tryz.prog 3 fun xs => ∃ n : Int, xs = [.int n] := (Opens.int Tryz.underlying3 (by kernel_rfl)).mono fun xs ⟨n, _, e⟩ => ⟨n, e⟩
theorem oBool : Opens Tryz.prog 4 fun xs => ∃ b : Bool, xs = [.bool b] := Opens.bool Tryz.underlying4 (by kernel_rfl)
theorem oStr : Opens Tryz.prog 9 fun xs => ∃ s : ByteArray, xs = [.str s] := (Opens.str Tryz.underlying9 (by kernel_rfl)).mono fun xs ⟨n, _, e⟩ => ⟨n, e⟩
theorem oInts : Opens Tryz.prog 32 fun xs => ∃ l : List Int, xs = [.ints l] := (Opens.ints Tryz.underlying32 (by kernel_rfl) Tryz.underlying3 (by kernel_rfl) (by kernel_rfl)).mono fun xs ⟨n, _, e⟩ => ⟨n, e⟩
theorem oStrs : Opens Tryz.prog 22 fun xs => ∃ l : List ByteArray, xs = [.strs l] := (Opens.strs Tryz.underlying22 (by kernel_rfl) Tryz.underlying9 (by kernel_rfl) (by kernel_rfl)).mono fun xs ⟨n, _, e⟩ => ⟨n, e⟩
theorem oLt : Opens Tryz.prog 136 fun xs => ∃ x : Lt, True ∧ xs = [.int x.th, .int x.st, .bool x.no] :=
  (Opens.struct Tryz.underlying136 (by kernel_rfl) (.cons oInt (.cons oInt (.cons oBool .nil)))).mono (by
    rintro xs ⟨_, _, rfl, ⟨a, rfl⟩, _, _, rfl, ⟨b, rfl⟩, _, _, rfl, ⟨c, rfl⟩, rfl⟩
    exact ⟨⟨a, b, c⟩, trivial, rfl⟩)
theorem oCd : Opens Tryz.prog 29 fun xs => ∃ l : List Lt, xs = [.lst 3 (l.map ltA)] :=
  (Opens.sliceT (f := fun x : Lt => [AV.int x.th, AV.int x.st, AV.bool x.no]) (g := ltA) (W := fun _ => True) Tryz.underlying29 (by kernel_rfl) oLt 3 (by kernel_rfl) (by decide) (.inl (by kernel_rfl)) (fun _ => by unfold elemAV; rw [Go.Proofs.Tryz.agg_136]; rfl)).mono fun xs ⟨n, _, e⟩ => ⟨n, e⟩
theorem oSe : Opens Tryz.prog 106 fun xs => ∃ x : Se, True ∧ xs = [.int x.th, .int x.st] :=
  (Opens.struct Tryz.underlying106 (by kernel_rfl) (.cons oInt (.cons oInt .nil))).mono (by
    rintro xs ⟨_, _, rfl, ⟨a, rfl⟩, _, _, rfl, ⟨b, rfl⟩, rfl⟩
    exact ⟨⟨a, b⟩, trivial, rfl⟩)
theorem oSes : Opens Tryz.prog 101 fun xs => ∃ l : List Se, xs = [.lst 2 (l.map seA)] :=
  (Opens.sliceT (f := fun x : Se => [AV.int x.th, AV.int x.st]) (g := seA) (W := fun _ => True) Tryz.underlying101 (by kernel_rfl) oSe 2 (by kernel_rfl) (by decide) (.inl (by kernel_rfl)) (fun _ => by unfold elemAV; rw [Go.Proofs.Tryz.agg_106]; rfl)).mono fun xs ⟨n, _, e⟩ => ⟨n, e⟩
theorem oTh : Opens Tryz.prog 73 fun xs => ∃ x : Th, True ∧ xs = [.str x.nm, .int x.pl, .int x.ss, .int x.st] :=
  (Opens.struct Tryz.underlying73 (by kernel_rfl) (.cons oStr (.cons oInt (.cons oInt (.cons oInt .nil))))).mono (by
    rintro xs ⟨_, _, rfl, ⟨a, rfl⟩, _, _, rfl, ⟨b, rfl⟩, _, _, rfl, ⟨c, rfl⟩, _, _, rfl, ⟨d, rfl⟩, rfl⟩
    exact ⟨⟨a, b, c, d⟩, trivial, rfl⟩)
theorem oThs : Opens Tryz.prog 23 fun xs => ∃ l : List Th, xs = [.lst 4 (l.map thA)] :=
  (Opens.sliceT (f := fun x : Th => [AV.str x.nm, AV.int x.pl, AV.int x.ss, AV.int x.st]) (g := thA) (W := fun _ => True) Tryz.underlying23 (by kernel_rfl) oTh 4 (by kernel_rfl) (by decide) (.inl (by kernel_rfl)) (fun _ => by unfold elemAV; rw [Go.Proofs.Tryz.agg_73]; rfl)).mono fun xs ⟨n, _, e⟩ => ⟨n, e⟩
theorem oPp : Opens Tryz.prog 98 fun xs => ∃ x : Pp, True ∧ xs = [.str x.nm, .int x.pl, .lst 3 (x.wh.map ltA)] :=
  (Opens.struct Tryz.underlying98 (by kernel_rfl) (.cons oStr (.cons oInt (.cons oCd .nil)))).mono (by
    rintro xs ⟨_, _, rfl, ⟨a, rfl⟩, _, _, rfl, ⟨b, rfl⟩, _, _, rfl, ⟨c, rfl⟩, rfl⟩
    exact ⟨⟨a, b, c⟩, trivial, rfl⟩)
theorem oPps : Opens Tryz.prog 24 fun xs => ∃ l : List Pp, xs = [.lst 3 (l.map ppA)] :=
  (Opens.sliceT (f := fun x : Pp => [AV.str x.nm, AV.int x.pl, AV.lst 3 (x.wh.map ltA)]) (g := ppA) (W := fun _ => True) Tryz.underlying24 (by kernel_rfl) oPp 3 (by kernel_rfl) (by decide) (.inl (by kernel_rfl)) (fun _ => by unfold elemAV; rw [Go.Proofs.Tryz.agg_98]; rfl)).mono fun xs ⟨n, _, e⟩ => ⟨n, e⟩
theorem oWy : Opens Tryz.prog 100 fun xs => ∃ x : Wy, True ∧ xs = [.int x.a, .int x.b, .lst 3 (x.wh.map ltA)] :=
  (Opens.struct Tryz.underlying100 (by kernel_rfl) (.cons oInt (.cons oInt (.cons oCd .nil)))).mono (by
    rintro xs ⟨_, _, rfl, ⟨a, rfl⟩, _, _, rfl, ⟨b, rfl⟩, _, _, rfl, ⟨c, rfl⟩, rfl⟩
    exact ⟨⟨a, b, c⟩, trivial, rfl⟩)
theorem oWys : Opens Tryz.prog 25 fun xs => ∃ l : List Wy, xs = [.lst 3 (l.map wyA)] :=
  (Opens.sliceT (f := fun x : Wy => [AV.int x.a, AV.int x.b, AV.lst 3 (x.wh.map ltA)]) (g := wyA) (W := fun _ => True) Tryz.underlying25 (by kernel_rfl) oWy 3 (by kernel_rfl) (by decide) (.inl (by kernel_rfl)) (fun _ => by unfold elemAV; rw [Go.Proofs.Tryz.agg_100]; rfl)).mono fun xs ⟨n, _, e⟩ => ⟨n, e⟩
theorem oAc : Opens Tryz.prog 103 fun xs => ∃ x : Ac, True ∧ xs = [.str x.nm, .int x.pl, .int x.lk, .ints x.us, .lst 3 (x.wh.map ltA), .lst 2 (x.se.map seA), .ints x.sp, .ints x.br] :=
  (Opens.struct Tryz.underlying103 (by kernel_rfl) (.cons oStr (.cons oInt (.cons oInt (.cons oInts (.cons oCd (.cons oSes (.cons oInts (.cons oInts .nil))))))))).mono (by
    rintro xs ⟨_, _, rfl, ⟨a, rfl⟩, _, _, rfl, ⟨b, rfl⟩, _, _, rfl, ⟨c, rfl⟩, _, _, rfl, ⟨d, rfl⟩, _, _, rfl, ⟨e, rfl⟩, _, _, rfl, ⟨f, rfl⟩, _, _, rfl, ⟨g, rfl⟩, _, _, rfl, ⟨h, rfl⟩, rfl⟩
    exact ⟨⟨a, b, c, d, e, f, g, h⟩, trivial, rfl⟩)
theorem oAcs : Opens Tryz.prog 26 fun xs => ∃ l : List Ac, xs = [.lst 8 (l.map acA)] :=
  (Opens.sliceT (f := fun x : Ac => [AV.str x.nm, AV.int x.pl, AV.int x.lk, AV.ints x.us, AV.lst 3 (x.wh.map ltA), AV.lst 2 (x.se.map seA), AV.ints x.sp, AV.ints x.br]) (g := acA) (W := fun _ => True) Tryz.underlying26 (by kernel_rfl) oAc 8 (by kernel_rfl) (by decide) (.inl (by kernel_rfl)) (fun _ => by unfold elemAV; rw [Go.Proofs.Tryz.agg_103]; rfl)).mono fun xs ⟨n, _, e⟩ => ⟨n, e⟩
theorem oAu : Opens Tryz.prog 108 fun xs => ∃ x : Au, True ∧ xs = [.lst 3 (x.wh.map ltA), .int x.th, .int x.st] :=
  (Opens.struct Tryz.underlying108 (by kernel_rfl) (.cons oCd (.cons oSe .nil))).mono (by
    rintro xs ⟨_, _, rfl, ⟨a, rfl⟩, _, _, rfl, ⟨b, _, rfl⟩, rfl⟩
    exact ⟨⟨a, b.th, b.st⟩, trivial, rfl⟩)
theorem oAus : Opens Tryz.prog 27 fun xs => ∃ l : List Au, xs = [.lst 3 (l.map auA)] :=
  (Opens.sliceT (f := fun x : Au => [AV.lst 3 (x.wh.map ltA), AV.int x.th, AV.int x.st]) (g := auA) (W := fun _ => True) Tryz.underlying27 (by kernel_rfl) oAu 3 (by kernel_rfl) (by decide) (.inl (by kernel_rfl)) (fun _ => by unfold elemAV; rw [Go.Proofs.Tryz.agg_108]; rfl)).mono fun xs ⟨n, _, e⟩ => ⟨n, e⟩
theorem oRm : Opens Tryz.prog 31 fun xs => ∃ r : Rm, xs = rmC r :=
  (Opens.struct Tryz.underlying31 (by kernel_rfl) (.cons oStrs (.cons oThs (.cons oPps (.cons oWys (.cons oAcs (.cons oAus (.cons oInt (.cons oCd .nil))))))))).mono (by
    rintro xs ⟨_, _, rfl, ⟨a, rfl⟩, _, _, rfl, ⟨b, rfl⟩, _, _, rfl, ⟨c, rfl⟩, _, _, rfl, ⟨d, rfl⟩, _, _, rfl, ⟨e, rfl⟩, _, _, rfl, ⟨f, rfl⟩, _, _, rfl, ⟨g, rfl⟩, _, _, rfl, ⟨h, rfl⟩, rfl⟩
    exact ⟨⟨a, b, c, d, e, f, g, h⟩, rfl⟩)
theorem oSt : Opens Tryz.prog 34 fun xs => ∃ s : St, xs = [.ints s.ts, .ints s.pp, .ints s.pl] :=
  (Opens.struct Tryz.underlying34 (by kernel_rfl) (.cons oInts (.cons oInts (.cons oInts .nil)))).mono (by
    rintro xs ⟨_, _, rfl, ⟨a, rfl⟩, _, _, rfl, ⟨b, rfl⟩, _, _, rfl, ⟨c, rfl⟩, rfl⟩
    exact ⟨⟨a, b, c⟩, rfl⟩)
end Go.Proofs.Tryz
