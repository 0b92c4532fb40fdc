/- A part of the proof of ResetOrders: contracts of functions, with plain laws that they need. -/
import Derived.Test.YtjhljokghikamaaGreatDoorVgR3J
set_option linter.all false
set_option maxHeartbeats 16000000
namespace Go.Proofs.Tryz
open Go.Vg
theorem memPs {l : List ByteArray} {k : Nat} (h : k < l.length) : l.getD k .empty ∈ l := by simp [h]
theorem memWy {l : List Wy} {k : Nat} (h : k < l.length) : l.getD k wy0 ∈ l := by simp [h]
theorem memAu' {l : List Au} {k : Nat} (h : k < l.length) : l.getD k au0 ∈ l := by simp [h]
theorem place_pure {r : Rm} (hz : r.ps.length ≤ 100) (n : Int) : Pure Tryz.prog 109 [.int n, .ref (rmC r) 0] (.bool (wi n 0 ((r.ps.length : Int) - 1))) := by
 unfold rmC
 (refine Spec.bd 0 Tryz.func109 Tryz.results109 Tryz.ntmps109 ?_; simp only [entry, zipArgs, Nat.reduceAdd])
 (refine w_go ?_)
 (apply Run.pureP; (exact w_ev); (exact (Enters.of Tryz.func106 rfl rfl)); (exact within_pure _ _ _); (exact w_al); (try dsimp only [putA, optG]))
 (refine w_go ?_)
 (first | exact w_ret | refine w_retZ ?_)
theorem TsOk_of {r : Rm} (h : ∀ j, j < r.ts.length → tmF r j = 0) : TsOk r.ts := by
 intro x hx
 obtain ⟨i, hi, rfl⟩ := List.getElem_of_mem hx
 have h1 := h i hi
 have e : r.ts.getD i th0 = r.ts[i] := by simp [hi]
 unfold tmF at h1
 rw [e] at h1
 split at h1
 ·rename_i hb
  unfold tmB at hb
  simp only [Bool.and_eq_true, wi_iff] at hb
  exact hb.1.2
 ·cases h1
theorem newB_ps {r : Rm} {i : Nat} {x : ByteArray} (hx : r.ps.getD i .empty = x) : newB r.ps i = (nmdB x && !(r.ps.take i).any (fun y => decide (y = x))) := by subst hx; rfl
theorem check_pure {r : Rm} (hz : Sz r) : Pure Tryz.prog 95 [rmA r] (.int (chE r)) := by
 have z1 := hz.ps
 have z2 := hz.ts
 have z3 := hz.pp
 have z4 := hz.wy
 have z5 := hz.ac
 have z6 := hz.au
 have z7 := hz.gl
 have cpl := fun (n : Int) => place_pure (r := r) (by omega) n
 have hE : chE r = if bigB r then 2 else orE (pmE r) (orE (if r.ps = [] then 22 else 0) (orE (tmE r) (orE (ppE r) (orE (wyE r) (orE (acE r) (orE (auE r) (orE (if wi r.n 1 4 then 0 else 1) (if cdB r.ts r.goal then 0 else 25)))))))) := rfl
 unfold bigB at hE
 rw [hE]
 unfold rmA rmC
 unfold rmC at cpl
 (refine Spec.bd 0 Tryz.func95 Tryz.results95 Tryz.ntmps95 ?_; simp only [entry, zipArgs, Nat.reduceAdd])
 ((refine x_pre (zc @rmC.eq_1 @mapTk) ?_); (iterate 2 (refine x_nr (zc @rmC.eq_1 @mapTk) ?_)); (refine x_nil (zc @rmC.eq_1 @mapTk) ?_))
 (refine x_fzP (zc @rmC.eq_1 @mapTk) (slq 1) ?_)
 (refine x_go (zc @rmC.eq_1 @mapTk) ?_)
 (apply Wp.cond; (exact x_ev (zc @rmC.eq_1 @mapTk)))
 ·intro h
  rw [if_pos h]
  (refine x_go (zc @rmC.eq_1 @mapTk) ?_)
  (first | exact x_ret (zc @rmC.eq_1 @mapTk) | refine x_retZ (zc @rmC.eq_1 @mapTk) ?_)
 ·intro h
  rw [if_neg (by rw [h]; simp)]
  (refine x_go (zc @rmC.eq_1 @mapTk) ?_)
  have hqps : ∀ k, pmF r k = if newB r.ps k then 0 else 22 := fun _ => rfl
  refine Wp.loop (fun k : Nat => { t := [(1, .ref (rmC r) 0), (3, .clo 109 [.ref (rmC r) 0]), (52, .strs r.ps), (53, .int r.ps.length), (54, .int k)], m := [⟨1, .row 8 []⟩], n := 226 }) (fun k => k ≤ r.ps.length ∧ ∀ j, j < k → pmF r j = 0) (fun k => r.ps.length - k) 0 ?_ ?_ ?_
  ·(refine Le.of ?_ ?_ rfl rfl <;> (try simp only [push_cast, seval, rmC, ← List.map_take]) <;> (try (with_reducible rfl)))
   all_goals exact ⟨rfl, rfl⟩
  ·simp
  ·rintro k ⟨hk1, hk2⟩
   (refine x_gs (zc @rmC.eq_1 @mapTk) ?_)
   (apply Wp.cond; (exact x_ev (zc @rmC.eq_1 @mapTk)))
   ·(intro hc; first | replace hc := bT hc | skip)
    generalize hx : r.ps.getD k .empty = x
    have hxm : x.size ≤ 100 := by rw [← hx]; exact hz.psn _ (memPs hc)
    have c1 := namedSr_pure x (r.ps.take k) hxm (by rw [List.length_take]; omega)
    have hqk := hqps k
    rw [newB_ps hx] at hqk
    generalize (nmdB x && !(r.ps.take k).any (fun y => decide (y = x))) = b1 at c1 hqk
    (refine x_gs (zc @rmC.eq_1 (zc @mapTk @hx)) ?_)
    (apply Run.pureP; (exact x_ev (zc @rmC.eq_1 (zc @mapTk @hx))); (exact (Enters.of Tryz.func110 rfl rfl)); (exact c1); (exact x_al (zc @rmC.eq_1 (zc @mapTk @hx))); (try dsimp only [putA, optG]))
    (refine x_go (zc @rmC.eq_1 (zc @mapTk @hx)) ?_)
    (apply Wp.cond; (exact x_ev (zc @rmC.eq_1 (zc @mapTk @hx))))
    ·intro h
     (refine x_go (zc @rmC.eq_1 (zc @mapTk @hx)) ?_)
     (first | exact x_ret (zc @rmC.eq_1 (zc @mapTk @hx)) | refine x_retZ (zc @rmC.eq_1 (zc @mapTk @hx)) ?_)
     have h1 : b1 = false := by simpa using h
     rw [h1] at hqk
     rw [orE_no (by rw [pmE, fE_at _ _ _ k (by omega) (by omega) (fun j _ hj => hk2 j hj) (by rw [hqk]; simp), hqk]; simp)]
     rw [pmE, fE_at _ _ _ k (by omega) (by omega) (fun j _ hj => hk2 j hj) (by rw [hqk]; simp), hqk]
     rfl
    ·intro h
     have h1 : b1 = true := by simpa using h
     (refine x_go (zc @rmC.eq_1 (zc @mapTk @hx)) ?_)
     refine ⟨k + 1, ?_, ⟨by omega, fun j hj => ?_⟩, by omega⟩
     ·(refine Le.of ?_ ?_ rfl rfl <;> (try simp only [push_cast, seval, rmC, ← List.map_take, hx]) <;> (try (with_reducible rfl)))
     ·by_cases hjk : j = k
      ·subst hjk; rw [hqk, h1]; rfl
      ·exact hk2 j (by omega)
   ·(intro hc; first | replace hc := bT hc | skip)
    obtain rfl : k = r.ps.length := by omega
    rw [orE_ok (a := pmE r) (fE_none _ _ _ fun j _ hj => hk2 j (by omega))]
    clear hk1
    (refine x_go (zc @rmC.eq_1 @mapTk) ?_)
    (apply Wp.cond; (exact x_ev (zc @rmC.eq_1 @mapTk)))
    ·(intro hc; first | replace hc := bT hc | skip)
     rw [orE_no (by rw [if_pos (List.length_eq_zero_iff.1 (by omega))]; decide), if_pos (List.length_eq_zero_iff.1 (by omega))]
     (refine x_go (zc @rmC.eq_1 @mapTk) ?_)
     (first | exact x_ret (zc @rmC.eq_1 @mapTk) | refine x_retZ (zc @rmC.eq_1 @mapTk) ?_)
    ·(intro hc; first | replace hc := bT hc | skip)
     rw [orE_ok (by rw [if_neg (fun h' => hc (by rw [h']; rfl))])]
     (refine x_go (zc @rmC.eq_1 @mapTk) ?_)
     (refine Wp.vacs 1 ?_; (try simp only [List.replicate_succ, List.replicate_zero, List.cons_append, List.nil_append]))
     refine Wp.loop (fun (q : Nat × Nat × Kind) => { t := [(1, .ref (rmC r) 0), (3, .clo 109 [.ref (rmC r) 0]), (72, .lst 4 (r.ts.map thA)), (73, .int r.ts.length), (74, .int q.1)], m := [⟨1, .row 8 []⟩, ⟨q.2.1, q.2.2⟩], n := 226 }) (fun q => q.1 ≤ r.ts.length ∧ ∀ j, j < q.1 → tmF r j = 0) (fun q => r.ts.length - q.1) (0, 0, .row 1 []) ?_ ?_ ?_
     ·(refine Le.of ?_ ?_ rfl rfl <;> (try simp only [push_cast, seval, rmC, ← List.map_take]) <;> (try (with_reducible rfl)))
      all_goals (first | exact ⟨rfl, rfl⟩ | rfl)
     ·simp
     ·rintro ⟨k, vts, kdts⟩ ⟨hk1, hk2⟩
      simp only at hk1 hk2
      (refine x_gs (zc @rmC.eq_1 @mapTk) ?_)
      (apply Wp.cond; (exact x_ev (zc @rmC.eq_1 @mapTk)))
      ·(intro hc; first | replace hc := bT hc | skip)
       have hqk : tmF r k = if tmB r k (r.ts.getD k th0) then 0 else 21 := rfl
       unfold tmB at hqk
       rw [newB_map Th.nm r.ts th0 hc] at hqk
       generalize hx : r.ts.getD k th0 = x at hqk
       have hxm : x.nm.size ≤ 100 := by rw [← hx]; exact hz.tsn _ (memTh hc)
       have c1 := namedTh_pure x.nm (r.ts.take k) hxm (by rw [List.length_take]; omega)
       have c2 := cpl x.pl
       generalize (nmdB x.nm && !(r.ts.take k).any (fun y => decide (y.nm = x.nm))) = b1 at c1 hqk
       generalize wi x.pl 0 ((r.ps.length : Int) - 1) = b2 at c2 hqk
       (refine x_gs (zc @rmC.eq_1 (zc @mapTk @hx)) ?_)
       (apply Run.alcAt 1; (exact x_ev (zc @rmC.eq_1 (zc @mapTk @hx))); ((try simp only [push_cast, seval, rmC, ← List.map_take, hx]) <;> exact sT); exact rfl; (try simp only [push_cast, seval, rmC, ← List.map_take, hx]))
       (repeat (refine x_nr (zc @rmC.eq_1 (zc @mapTk @hx)) ?_))
       (apply Run.nil; dsimp only [sQ, tQ, bQ])
       repeat (first | apply Wp.seq | apply Wp.block)
       (refine Wp.rnD 30 ?_; apply exAb; (((refine x_abn (zc @rmC.eq_1 (zc @mapTk @hx)) ?_); (apply Abn.pureP; (exact x_ev (zc @rmC.eq_1 (zc @mapTk @hx))); (exact (Enters.of Tryz.func112 rfl rfl)); (exact c1); (exact x_al (zc @rmC.eq_1 (zc @mapTk @hx))); (try dsimp only [putA, optG])); (refine x_abn (zc @rmC.eq_1 (zc @mapTk @hx)) ?_); (apply Abn.pureP; (exact x_ev (zc @rmC.eq_1 (zc @mapTk @hx))); (exact (Enters.of Tryz.func109 rfl rfl)); (exact c2); (exact x_al (zc @rmC.eq_1 (zc @mapTk @hx))); (try dsimp only [putA, optG])); (refine x_abn (zc @rmC.eq_1 (zc @mapTk @hx)) ?_); (apply Abn.pureP; (exact x_ev (zc @rmC.eq_1 (zc @mapTk @hx))); (exact (Enters.of Tryz.func106 rfl rfl)); (exact within_pure _ _ _); (exact x_al (zc @rmC.eq_1 (zc @mapTk @hx))); (try dsimp only [putA, optG])); (refine x_abn (zc @rmC.eq_1 (zc @mapTk @hx)) ?_); (apply Abn.pureP; (exact x_ev (zc @rmC.eq_1 (zc @mapTk @hx))); (exact (Enters.of Tryz.func106 rfl rfl)); (exact within_pure _ _ _); (exact x_al (zc @rmC.eq_1 (zc @mapTk @hx))); (try dsimp only [putA, optG])); (refine x_abn (zc @rmC.eq_1 (zc @mapTk @hx)) ?_)); exact Abn.nil))
       (refine x_go (zc @rmC.eq_1 (zc @mapTk @hx)) ?_)
       have hwr : wi x.ss 2 6 = true → (IntKind.i64.wrap (x.ss - 1)) = x.ss - 1 := fun hs => by
        have := wi_iff.1 hs
        simp (disch := omega) only [wI]
       have hbv : ∀ y : Bool, (((!b1 || !b2) || !wi x.ss 2 6) || !wi x.st 0 (IntKind.i64.wrap (x.ss - 1))) = y → (b1 && b2 && wi x.ss 2 6 && wi x.st 0 (x.ss - 1)) = !y := by
        intro y hy
        cases hs : wi x.ss 2 6 with
        | false => rw [hs] at hy; rw [← hy]; cases b1 <;> cases b2 <;> simp
        | true => rw [hs, hwr hs] at hy; rw [← hy]; cases b1 <;> cases b2 <;> simp
       (apply Wp.cond; (exact x_ev (zc @rmC.eq_1 (zc @mapTk @hx))))
       ·intro h
        (refine x_go (zc @rmC.eq_1 (zc @mapTk @hx)) ?_)
        (first | exact x_ret (zc @rmC.eq_1 (zc @mapTk @hx)) | refine x_retZ (zc @rmC.eq_1 (zc @mapTk @hx)) ?_)
        have h1 := hbv _ h
        simp only [Bool.not_true] at h1
        rw [h1] at hqk
        rw [orE_no (by rw [tmE, fE_at _ _ _ k (by omega) (by omega) (fun j _ hj => hk2 j hj) (by rw [hqk]; simp), hqk]; simp)]
        rw [tmE, fE_at _ _ _ k (by omega) (by omega) (fun j _ hj => hk2 j hj) (by rw [hqk]; simp), hqk]
        rfl
       ·intro h
        have h1 := hbv _ h
        simp only [Bool.not_false] at h1
        rw [h1] at hqk
        (refine x_go (zc @rmC.eq_1 (zc @mapTk @hx)) ?_)
        refine ⟨(k + 1, vts + 1, .row 4 [thA x]), ?_, ⟨by simp only; omega, fun j hj => ?_⟩, by simp only; omega⟩
        ·(refine Le.of ?_ ?_ rfl rfl <;> (try simp only [push_cast, seval, rmC, ← List.map_take, hx]) <;> (try (with_reducible rfl)))
        ·simp only at hj
         by_cases hjk : j = k
         ·subst hjk; rw [hqk]; rfl
         ·exact hk2 j (by omega)
      ·(intro hc; first | replace hc := bT hc | skip)
       obtain rfl : k = r.ts.length := by omega
       rw [orE_ok (a := tmE r) (fE_none _ _ _ fun j _ hj => hk2 j (by omega))]
       clear hk1
       (refine x_go (zc @rmC.eq_1 @mapTk) ?_)
       have hts := TsOk_of hk2
       (refine Wp.vacs 1 ?_; (try simp only [List.replicate_succ, List.replicate_zero, List.cons_append, List.nil_append]))
       refine Wp.loop (fun (q : Nat × Nat × Kind) => { t := [(1, .ref (rmC r) 0), (3, .clo 109 [.ref (rmC r) 0]), (111, .lst 3 (r.pp.map ppA)), (112, .int r.pp.length), (113, .int q.1)], m := [⟨1, .row 8 []⟩, ⟨vts, kdts⟩, ⟨q.2.1, q.2.2⟩], n := 226 }) (fun q => q.1 ≤ r.pp.length ∧ ∀ j, j < q.1 → ppF r j = 0) (fun q => r.pp.length - q.1) (0, 0, .row 1 []) ?_ ?_ ?_
       ·(refine Le.of ?_ ?_ rfl rfl <;> (try simp only [push_cast, seval, rmC, ← List.map_take]) <;> (try (with_reducible rfl)))
        all_goals (first | exact ⟨rfl, rfl⟩ | rfl)
       ·simp
       ·rintro ⟨k, vpp, kdpp⟩ ⟨hk1, hk2⟩
        simp only at hk1 hk2
        (refine x_gs (zc @rmC.eq_1 @mapTk) ?_)
        (apply Wp.cond; (exact x_ev (zc @rmC.eq_1 @mapTk)))
        ·(intro hc; first | replace hc := bT hc | skip)
         have hqk : ppF r k = if ppB r k (r.pp.getD k pp0) then if cdB r.ts (r.pp.getD k pp0).wh then 0 else 25 else 24 := rfl
         unfold ppB at hqk
         rw [newB_map Pp.nm r.pp pp0 hc] at hqk
         generalize hx : r.pp.getD k pp0 = x at hqk
         have hxm : x.nm.size ≤ 100 ∧ x.wh.length ≤ 20 := by rw [← hx]; exact hz.ppn _ (memPp hc)
         have c1 := namedPp_pure x.nm (r.pp.take k) hxm.1 (by rw [List.length_take]; omega)
         have c2 := cpl x.pl
         have c3 := valid_pure (by omega) hts x.wh (by omega)
         unfold rmA rmC at c3
         generalize (nmdB x.nm && !(r.pp.take k).any (fun y => decide (y.nm = x.nm))) = b1 at c1 hqk
         generalize wi x.pl 0 ((r.ps.length : Int) - 1) = b2 at c2 hqk
         generalize cdB r.ts x.wh = b3 at c3 hqk
         (refine x_gs (zc @rmC.eq_1 (zc @mapTk (zc @hx (zc (fun d => getD_pp (d := d) hc) @ppA.eq_1)))) ?_)
         (apply Run.alcAt 2; (exact x_ev (zc @rmC.eq_1 (zc @mapTk (zc @hx (zc (fun d => getD_pp (d := d) hc) @ppA.eq_1))))); ((try simp only [push_cast, seval, rmC, ← List.map_take, hx, getD_pp hc, ppA]) <;> exact sT); exact rfl; (try simp only [push_cast, seval, rmC, ← List.map_take, hx, getD_pp hc, ppA]))
         (repeat (refine x_nr (zc @rmC.eq_1 (zc @mapTk (zc @hx (zc (fun d => getD_pp (d := d) hc) @ppA.eq_1)))) ?_))
         (apply Run.nil; dsimp only [sQ, tQ, bQ])
         repeat (first | apply Wp.seq | apply Wp.block)
         (refine Wp.rnD 20 ?_; apply exAb; (((refine x_abn (zc @rmC.eq_1 (zc @mapTk (zc @hx (zc (fun d => getD_pp (d := d) hc) @ppA.eq_1)))) ?_); (apply Abn.pureP; (exact x_ev (zc @rmC.eq_1 (zc @mapTk (zc @hx (zc (fun d => getD_pp (d := d) hc) @ppA.eq_1))))); (exact (Enters.of Tryz.func114 rfl rfl)); (exact c1); (exact x_al (zc @rmC.eq_1 (zc @mapTk (zc @hx (zc (fun d => getD_pp (d := d) hc) @ppA.eq_1))))); (try dsimp only [putA, optG])); (refine x_abn (zc @rmC.eq_1 (zc @mapTk (zc @hx (zc (fun d => getD_pp (d := d) hc) @ppA.eq_1)))) ?_); (apply Abn.pureP; (exact x_ev (zc @rmC.eq_1 (zc @mapTk (zc @hx (zc (fun d => getD_pp (d := d) hc) @ppA.eq_1))))); (exact (Enters.of Tryz.func109 rfl rfl)); (exact c2); (exact x_al (zc @rmC.eq_1 (zc @mapTk (zc @hx (zc (fun d => getD_pp (d := d) hc) @ppA.eq_1))))); (try dsimp only [putA, optG])); (refine x_abn (zc @rmC.eq_1 (zc @mapTk (zc @hx (zc (fun d => getD_pp (d := d) hc) @ppA.eq_1)))) ?_)); exact Abn.nil))
         (refine x_go (zc @rmC.eq_1 (zc @mapTk (zc @hx (zc (fun d => getD_pp (d := d) hc) @ppA.eq_1)))) ?_)
         have hbv : ∀ y : Bool, (!b1 || (!b2 && !decide (x.pl = -1))) = y → (b1 && (b2 || decide (x.pl = -1))) = !y := by
          intro y hy
          rw [← hy]
          cases b1 <;> cases b2 <;> simp
         (apply Wp.cond; (exact x_ev (zc @rmC.eq_1 (zc @mapTk (zc @hx (zc (fun d => getD_pp (d := d) hc) @ppA.eq_1))))))
         ·intro h
          (refine x_go (zc @rmC.eq_1 (zc @mapTk (zc @hx (zc (fun d => getD_pp (d := d) hc) @ppA.eq_1)))) ?_)
          (first | exact x_ret (zc @rmC.eq_1 (zc @mapTk (zc @hx (zc (fun d => getD_pp (d := d) hc) @ppA.eq_1)))) | refine x_retZ (zc @rmC.eq_1 (zc @mapTk (zc @hx (zc (fun d => getD_pp (d := d) hc) @ppA.eq_1)))) ?_)
          have h1 := hbv _ h
          simp only [Bool.not_true] at h1
          rw [h1] at hqk
          rw [orE_no (by rw [ppE, fE_at _ _ _ k (by omega) (by omega) (fun j _ hj => hk2 j hj) (by rw [hqk]; simp), hqk]; simp)]
          rw [ppE, fE_at _ _ _ k (by omega) (by omega) (fun j _ hj => hk2 j hj) (by rw [hqk]; simp), hqk]
          rfl
         ·intro h
          have h1 := hbv _ h
          simp only [Bool.not_false] at h1
          rw [h1] at hqk
          (refine x_go (zc @rmC.eq_1 (zc @mapTk (zc @hx (zc (fun d => getD_pp (d := d) hc) @ppA.eq_1)))) ?_)
          (apply Run.pureP; (exact x_ev (zc @rmC.eq_1 (zc @mapTk (zc @hx (zc (fun d => getD_pp (d := d) hc) @ppA.eq_1))))); (exact (Enters.of Tryz.func116 rfl rfl)); (exact c3); (exact x_al (zc @rmC.eq_1 (zc @mapTk (zc @hx (zc (fun d => getD_pp (d := d) hc) @ppA.eq_1))))); (try dsimp only [putA, optG]))
          (refine x_go (zc @rmC.eq_1 (zc @mapTk (zc @hx (zc (fun d => getD_pp (d := d) hc) @ppA.eq_1)))) ?_)
          (apply Wp.cond; (exact x_ev (zc @rmC.eq_1 (zc @mapTk (zc @hx (zc (fun d => getD_pp (d := d) hc) @ppA.eq_1))))))
          ·intro h5
           (refine x_go (zc @rmC.eq_1 (zc @mapTk (zc @hx (zc (fun d => getD_pp (d := d) hc) @ppA.eq_1)))) ?_)
           (first | exact x_ret (zc @rmC.eq_1 (zc @mapTk (zc @hx (zc (fun d => getD_pp (d := d) hc) @ppA.eq_1)))) | refine x_retZ (zc @rmC.eq_1 (zc @mapTk (zc @hx (zc (fun d => getD_pp (d := d) hc) @ppA.eq_1)))) ?_)
           have h6 : b3 = false := by simpa using h5
           rw [h6] at hqk
           rw [orE_no (by rw [ppE, fE_at _ _ _ k (by omega) (by omega) (fun j _ hj => hk2 j hj) (by rw [hqk]; simp), hqk]; simp)]
           rw [ppE, fE_at _ _ _ k (by omega) (by omega) (fun j _ hj => hk2 j hj) (by rw [hqk]; simp), hqk]
           rfl
          ·intro h5
           have h6 : b3 = true := by simpa using h5
           rw [h6] at hqk
           (refine x_go (zc @rmC.eq_1 (zc @mapTk (zc @hx (zc (fun d => getD_pp (d := d) hc) @ppA.eq_1)))) ?_)
           refine ⟨(k + 1, vpp + 1, .row 3 [ppA x]), ?_, ⟨by simp only; omega, fun j hj => ?_⟩, by simp only; omega⟩
           ·(refine Le.of ?_ ?_ rfl rfl <;> (try simp only [push_cast, seval, rmC, ← List.map_take, hx, getD_pp hc, ppA]) <;> (try (with_reducible rfl)))
           ·simp only at hj
            by_cases hjk : j = k
            ·subst hjk; rw [hqk]; rfl
            ·exact hk2 j (by omega)
        ·(intro hc; first | replace hc := bT hc | skip)
         obtain rfl : k = r.pp.length := by omega
         rw [orE_ok (a := ppE r) (fE_none _ _ _ fun j _ hj => hk2 j (by omega))]
         clear hk1
         (refine x_go (zc @rmC.eq_1 @mapTk) ?_)
         (refine Wp.vacs 1 ?_; (try simp only [List.replicate_succ, List.replicate_zero, List.cons_append, List.nil_append]))
         refine Wp.loop (fun (q : Nat × Nat × Kind) => { t := [(1, .ref (rmC r) 0), (3, .clo 109 [.ref (rmC r) 0]), (145, .lst 3 (r.wy.map wyA)), (146, .int r.wy.length), (147, .int q.1)], m := [⟨1, .row 8 []⟩, ⟨vts, kdts⟩, ⟨vpp, kdpp⟩, ⟨q.2.1, q.2.2⟩], n := 226 }) (fun q => q.1 ≤ r.wy.length ∧ ∀ j, j < q.1 → wyF r j = 0) (fun q => r.wy.length - q.1) (0, 0, .row 1 []) ?_ ?_ ?_
         ·(refine Le.of ?_ ?_ rfl rfl <;> (try simp only [push_cast, seval, rmC, ← List.map_take]) <;> (try (with_reducible rfl)))
          all_goals (first | exact ⟨rfl, rfl⟩ | rfl)
         ·simp
         ·rintro ⟨k, vwy, kdwy⟩ ⟨hk1, hk2⟩
          simp only at hk1 hk2
          (refine x_gs (zc @rmC.eq_1 @mapTk) ?_)
          (apply Wp.cond; (exact x_ev (zc @rmC.eq_1 @mapTk)))
          ·(intro hc; first | replace hc := bT hc | skip)
           have hqk : wyF r k = if wyB r (r.wy.getD k wy0) then if cdB r.ts (r.wy.getD k wy0).wh then 0 else 25 else 23 := rfl
           unfold wyB at hqk
           generalize hx : r.wy.getD k wy0 = x at hqk
           have hxm : x.wh.length ≤ 20 := by rw [← hx]; exact hz.wyn _ (memWy hc)
           have c1 := cpl x.a
           have c2 := cpl x.b
           have c3 := valid_pure (by omega) hts x.wh (by omega)
           unfold rmA rmC at c3
           generalize wi x.a 0 ((r.ps.length : Int) - 1) = b1 at c1 hqk
           generalize wi x.b 0 ((r.ps.length : Int) - 1) = b2 at c2 hqk
           generalize cdB r.ts x.wh = b3 at c3 hqk
           (refine x_gs (zc @rmC.eq_1 (zc @mapTk (zc @hx (zc (fun d => getD_wy (d := d) hc) @wyA.eq_1)))) ?_)
           (apply Run.alcAt 3; (exact x_ev (zc @rmC.eq_1 (zc @mapTk (zc @hx (zc (fun d => getD_wy (d := d) hc) @wyA.eq_1))))); ((try simp only [push_cast, seval, rmC, ← List.map_take, hx, getD_wy hc, wyA]) <;> exact sT); exact rfl; (try simp only [push_cast, seval, rmC, ← List.map_take, hx, getD_wy hc, wyA]))
           (refine x_go (zc @rmC.eq_1 (zc @mapTk (zc @hx (zc (fun d => getD_wy (d := d) hc) @wyA.eq_1)))) ?_)
           (apply Run.pureP; (exact x_ev (zc @rmC.eq_1 (zc @mapTk (zc @hx (zc (fun d => getD_wy (d := d) hc) @wyA.eq_1))))); (exact (Enters.of Tryz.func109 rfl rfl)); (exact c1); (exact x_al (zc @rmC.eq_1 (zc @mapTk (zc @hx (zc (fun d => getD_wy (d := d) hc) @wyA.eq_1))))); (try dsimp only [putA, optG]))
           (refine x_go (zc @rmC.eq_1 (zc @mapTk (zc @hx (zc (fun d => getD_wy (d := d) hc) @wyA.eq_1)))) ?_)
           (apply Run.pureP; (exact x_ev (zc @rmC.eq_1 (zc @mapTk (zc @hx (zc (fun d => getD_wy (d := d) hc) @wyA.eq_1))))); (exact (Enters.of Tryz.func109 rfl rfl)); (exact c2); (exact x_al (zc @rmC.eq_1 (zc @mapTk (zc @hx (zc (fun d => getD_wy (d := d) hc) @wyA.eq_1))))); (try dsimp only [putA, optG]))
           (refine x_go (zc @rmC.eq_1 (zc @mapTk (zc @hx (zc (fun d => getD_wy (d := d) hc) @wyA.eq_1)))) ?_)
           have hbv : ∀ y : Bool, ((!b1 || !b2) || decide (x.a = x.b)) = y → (b1 && b2 && !decide (x.a = x.b)) = !y := by
            intro y hy
            rw [← hy]
            cases b1 <;> cases b2 <;> simp
           (apply Wp.cond; (exact x_ev (zc @rmC.eq_1 (zc @mapTk (zc @hx (zc (fun d => getD_wy (d := d) hc) @wyA.eq_1))))))
           ·intro h
            (refine x_go (zc @rmC.eq_1 (zc @mapTk (zc @hx (zc (fun d => getD_wy (d := d) hc) @wyA.eq_1)))) ?_)
            (first | exact x_ret (zc @rmC.eq_1 (zc @mapTk (zc @hx (zc (fun d => getD_wy (d := d) hc) @wyA.eq_1)))) | refine x_retZ (zc @rmC.eq_1 (zc @mapTk (zc @hx (zc (fun d => getD_wy (d := d) hc) @wyA.eq_1)))) ?_)
            have h1 := hbv _ h
            simp only [Bool.not_true] at h1
            rw [h1] at hqk
            rw [orE_no (by rw [wyE, fE_at _ _ _ k (by omega) (by omega) (fun j _ hj => hk2 j hj) (by rw [hqk]; simp), hqk]; simp)]
            rw [wyE, fE_at _ _ _ k (by omega) (by omega) (fun j _ hj => hk2 j hj) (by rw [hqk]; simp), hqk]
            rfl
           ·intro h
            have h1 := hbv _ h
            simp only [Bool.not_false] at h1
            rw [h1] at hqk
            (refine x_go (zc @rmC.eq_1 (zc @mapTk (zc @hx (zc (fun d => getD_wy (d := d) hc) @wyA.eq_1)))) ?_)
            (apply Run.pureP; (exact x_ev (zc @rmC.eq_1 (zc @mapTk (zc @hx (zc (fun d => getD_wy (d := d) hc) @wyA.eq_1))))); (exact (Enters.of Tryz.func116 rfl rfl)); (exact c3); (exact x_al (zc @rmC.eq_1 (zc @mapTk (zc @hx (zc (fun d => getD_wy (d := d) hc) @wyA.eq_1))))); (try dsimp only [putA, optG]))
            (refine x_go (zc @rmC.eq_1 (zc @mapTk (zc @hx (zc (fun d => getD_wy (d := d) hc) @wyA.eq_1)))) ?_)
            (apply Wp.cond; (exact x_ev (zc @rmC.eq_1 (zc @mapTk (zc @hx (zc (fun d => getD_wy (d := d) hc) @wyA.eq_1))))))
            ·intro h5
             (refine x_go (zc @rmC.eq_1 (zc @mapTk (zc @hx (zc (fun d => getD_wy (d := d) hc) @wyA.eq_1)))) ?_)
             (first | exact x_ret (zc @rmC.eq_1 (zc @mapTk (zc @hx (zc (fun d => getD_wy (d := d) hc) @wyA.eq_1)))) | refine x_retZ (zc @rmC.eq_1 (zc @mapTk (zc @hx (zc (fun d => getD_wy (d := d) hc) @wyA.eq_1)))) ?_)
             have h6 : b3 = false := by simpa using h5
             rw [h6] at hqk
             rw [orE_no (by rw [wyE, fE_at _ _ _ k (by omega) (by omega) (fun j _ hj => hk2 j hj) (by rw [hqk]; simp), hqk]; simp)]
             rw [wyE, fE_at _ _ _ k (by omega) (by omega) (fun j _ hj => hk2 j hj) (by rw [hqk]; simp), hqk]
             rfl
            ·intro h5
             have h6 : b3 = true := by simpa using h5
             rw [h6] at hqk
             (refine x_go (zc @rmC.eq_1 (zc @mapTk (zc @hx (zc (fun d => getD_wy (d := d) hc) @wyA.eq_1)))) ?_)
             refine ⟨(k + 1, vwy + 1, .row 3 [wyA x]), ?_, ⟨by simp only; omega, fun j hj => ?_⟩, by simp only; omega⟩
             ·(refine Le.of ?_ ?_ rfl rfl <;> (try simp only [push_cast, seval, rmC, ← List.map_take, hx, getD_wy hc, wyA]) <;> (try (with_reducible rfl)))
             ·simp only at hj
              by_cases hjk : j = k
              ·subst hjk; rw [hqk]; rfl
              ·exact hk2 j (by omega)
          ·(intro hc; first | replace hc := bT hc | skip)
           obtain rfl : k = r.wy.length := by omega
           rw [orE_ok (a := wyE r) (fE_none _ _ _ fun j _ hj => hk2 j (by omega))]
           clear hk1
           (refine x_go (zc @rmC.eq_1 @mapTk) ?_)
           (refine Wp.vacs 1 ?_; (try simp only [List.replicate_succ, List.replicate_zero, List.cons_append, List.nil_append]))
           refine Wp.loop (fun (q : Nat × Nat × Kind) => { t := [(1, .ref (rmC r) 0), (3, .clo 109 [.ref (rmC r) 0]), (177, .lst 8 (r.ac.map acA)), (178, .int r.ac.length), (179, .int q.1)], m := [⟨1, .row 8 []⟩, ⟨vts, kdts⟩, ⟨vpp, kdpp⟩, ⟨vwy, kdwy⟩, ⟨q.2.1, q.2.2⟩], n := 226 }) (fun q => q.1 ≤ r.ac.length ∧ ∀ j, j < q.1 → acF r j = 0) (fun q => r.ac.length - q.1) (0, 0, .row 1 []) ?_ ?_ ?_
           ·(refine Le.of ?_ ?_ rfl rfl <;> (try simp only [push_cast, seval, rmC, ← List.map_take]) <;> (try (with_reducible rfl)))
            all_goals (first | exact ⟨rfl, rfl⟩ | rfl)
           ·simp
           ·rintro ⟨k, vac, kdac⟩ ⟨hk1, hk2⟩
            simp only at hk1 hk2
            (refine x_gs (zc @rmC.eq_1 @mapTk) ?_)
            (apply Wp.cond; (exact x_ev (zc @rmC.eq_1 @mapTk)))
            ·(intro hc; first | replace hc := bT hc | skip)
             have hqk : acF r k = if acB r k (r.ac.getD k ac0) then if cdB r.ts (r.ac.getD k ac0).wh then 0 else 25 else 26 := rfl
             generalize hx : r.ac.getD k ac0 = x at hqk
             have hxm := hz.acn x (by rw [← hx]; exact memAc hc)
             have c1 := act_pure hz hts k hc x hx
             have c3 := valid_pure (by omega) hts x.wh (by omega)
             unfold rmA rmC at c1 c3
             generalize acB r k x = b1 at c1 hqk
             generalize cdB r.ts x.wh = b3 at c3 hqk
             have hgd := fun d => getD_ac (d := d) hc
             rw [hx] at hgd
             rw [show acA x = .agg (acC x) from rfl] at hgd c1
             unfold acC at hgd c1
             (refine x_gs (zc @rmC.eq_1 (zc @mapTk (zc @hgd @acC.eq_1))) ?_)
             (apply Run.alcAt 4; (exact x_ev (zc @rmC.eq_1 (zc @mapTk (zc @hgd @acC.eq_1)))); ((try simp only [push_cast, seval, rmC, ← List.map_take, hgd, acC]) <;> exact sT); exact rfl; (try simp only [push_cast, seval, rmC, ← List.map_take, hgd, acC]))
             (refine x_go (zc @rmC.eq_1 (zc @mapTk (zc @hgd @acC.eq_1))) ?_)
             (apply Run.pureP; (exact x_ev (zc @rmC.eq_1 (zc @mapTk (zc @hgd @acC.eq_1)))); (exact (Enters.of Tryz.func117 rfl rfl)); (exact c1); (exact x_al (zc @rmC.eq_1 (zc @mapTk (zc @hgd @acC.eq_1)))); (try dsimp only [putA, optG]))
             (refine x_go (zc @rmC.eq_1 (zc @mapTk (zc @hgd @acC.eq_1))) ?_)
             (apply Wp.cond; (exact x_ev (zc @rmC.eq_1 (zc @mapTk (zc @hgd @acC.eq_1)))))
             ·intro h
              (refine x_go (zc @rmC.eq_1 (zc @mapTk (zc @hgd @acC.eq_1))) ?_)
              (first | exact x_ret (zc @rmC.eq_1 (zc @mapTk (zc @hgd @acC.eq_1))) | refine x_retZ (zc @rmC.eq_1 (zc @mapTk (zc @hgd @acC.eq_1))) ?_)
              have h1 : b1 = false := by simpa using h
              rw [h1] at hqk
              rw [orE_no (by rw [acE, fE_at _ _ _ k (by omega) (by omega) (fun j _ hj => hk2 j hj) (by rw [hqk]; simp), hqk]; simp)]
              rw [acE, fE_at _ _ _ k (by omega) (by omega) (fun j _ hj => hk2 j hj) (by rw [hqk]; simp), hqk]
              rfl
             ·intro h
              have h1 : b1 = true := by simpa using h
              rw [h1] at hqk
              (refine x_go (zc @rmC.eq_1 (zc @mapTk (zc @hgd @acC.eq_1))) ?_)
              (apply Run.pureP; (exact x_ev (zc @rmC.eq_1 (zc @mapTk (zc @hgd @acC.eq_1)))); (exact (Enters.of Tryz.func116 rfl rfl)); (exact c3); (exact x_al (zc @rmC.eq_1 (zc @mapTk (zc @hgd @acC.eq_1)))); (try dsimp only [putA, optG]))
              (refine x_go (zc @rmC.eq_1 (zc @mapTk (zc @hgd @acC.eq_1))) ?_)
              (apply Wp.cond; (exact x_ev (zc @rmC.eq_1 (zc @mapTk (zc @hgd @acC.eq_1)))))
              ·intro h5
               (refine x_go (zc @rmC.eq_1 (zc @mapTk (zc @hgd @acC.eq_1))) ?_)
               (first | exact x_ret (zc @rmC.eq_1 (zc @mapTk (zc @hgd @acC.eq_1))) | refine x_retZ (zc @rmC.eq_1 (zc @mapTk (zc @hgd @acC.eq_1))) ?_)
               have h6 : b3 = false := by simpa using h5
               rw [h6] at hqk
               rw [orE_no (by rw [acE, fE_at _ _ _ k (by omega) (by omega) (fun j _ hj => hk2 j hj) (by rw [hqk]; simp), hqk]; simp)]
               rw [acE, fE_at _ _ _ k (by omega) (by omega) (fun j _ hj => hk2 j hj) (by rw [hqk]; simp), hqk]
               rfl
              ·intro h5
               have h6 : b3 = true := by simpa using h5
               rw [h6] at hqk
               (refine x_go (zc @rmC.eq_1 (zc @mapTk (zc @hgd @acC.eq_1))) ?_)
               refine ⟨(k + 1, vac + 1, .row 8 [.agg (acC x)]), ?_, ⟨by simp only; omega, fun j hj => ?_⟩, by simp only; omega⟩
               ·(refine Le.of ?_ ?_ rfl rfl <;> (try simp only [push_cast, seval, rmC, ← List.map_take, hgd, acC]) <;> (try (with_reducible rfl)))
               ·simp only at hj
                by_cases hjk : j = k
                ·subst hjk; rw [hqk]; rfl
                ·exact hk2 j (by omega)
            ·(intro hc; first | replace hc := bT hc | skip)
             obtain rfl : k = r.ac.length := by omega
             rw [orE_ok (a := acE r) (fE_none _ _ _ fun j _ hj => hk2 j (by omega))]
             clear hk1
             (refine x_go (zc @rmC.eq_1 @mapTk) ?_)
             (refine Wp.vacs 1 ?_; (try simp only [List.replicate_succ, List.replicate_zero, List.cons_append, List.nil_append]))
             refine Wp.loop (fun (q : Nat × Nat × Kind) => { t := [(1, .ref (rmC r) 0), (3, .clo 109 [.ref (rmC r) 0]), (196, .lst 3 (r.au.map auA)), (197, .int r.au.length), (198, .int q.1)], m := [⟨1, .row 8 []⟩, ⟨vts, kdts⟩, ⟨vpp, kdpp⟩, ⟨vwy, kdwy⟩, ⟨vac, kdac⟩, ⟨q.2.1, q.2.2⟩], n := 226 }) (fun q => q.1 ≤ r.au.length ∧ ∀ j, j < q.1 → auF r j = 0) (fun q => r.au.length - q.1) (0, 0, .row 1 []) ?_ ?_ ?_
             ·(refine Le.of ?_ ?_ rfl rfl <;> (try simp only [push_cast, seval, rmC, ← List.map_take]) <;> (try (with_reducible rfl)))
              all_goals (first | exact ⟨rfl, rfl⟩ | rfl)
             ·simp
             ·rintro ⟨k, vau, kdau⟩ ⟨hk1, hk2⟩
              simp only at hk1 hk2
              (refine x_gs (zc @rmC.eq_1 @mapTk) ?_)
              (apply Wp.cond; (exact x_ev (zc @rmC.eq_1 @mapTk)))
              ·(intro hc; first | replace hc := bT hc | skip)
               have hqk : auF r k = if stB r.ts (r.au.getD k au0).th (r.au.getD k au0).st then if cdB r.ts (r.au.getD k au0).wh then 0 else 25 else 27 := rfl
               generalize hx : r.au.getD k au0 = x at hqk
               have hxm : x.wh.length ≤ 20 := by rw [← hx]; exact hz.aun _ (memAu' hc)
               have c1 := state_pure (r := r) (by omega) hts x.th x.st
               have c3 := valid_pure (by omega) hts x.wh (by omega)
               unfold rmA rmC at c1 c3
               generalize stB r.ts x.th x.st = b1 at c1 hqk
               generalize cdB r.ts x.wh = b3 at c3 hqk
               (refine x_gs (zc @rmC.eq_1 (zc @mapTk (zc @hx (zc (fun d => getD_au (d := d) hc) @auA.eq_1)))) ?_)
               (apply Run.alcAt 5; (exact x_ev (zc @rmC.eq_1 (zc @mapTk (zc @hx (zc (fun d => getD_au (d := d) hc) @auA.eq_1))))); ((try simp only [push_cast, seval, rmC, ← List.map_take, hx, getD_au hc, auA]) <;> exact sT); exact rfl; (try simp only [push_cast, seval, rmC, ← List.map_take, hx, getD_au hc, auA]))
               (refine x_go (zc @rmC.eq_1 (zc @mapTk (zc @hx (zc (fun d => getD_au (d := d) hc) @auA.eq_1)))) ?_)
               (apply Run.pureP; (exact x_ev (zc @rmC.eq_1 (zc @mapTk (zc @hx (zc (fun d => getD_au (d := d) hc) @auA.eq_1))))); (exact (Enters.of Tryz.func105 rfl rfl)); (exact c1); (exact x_al (zc @rmC.eq_1 (zc @mapTk (zc @hx (zc (fun d => getD_au (d := d) hc) @auA.eq_1))))); (try dsimp only [putA, optG]))
               (refine x_go (zc @rmC.eq_1 (zc @mapTk (zc @hx (zc (fun d => getD_au (d := d) hc) @auA.eq_1)))) ?_)
               (apply Wp.cond; (exact x_ev (zc @rmC.eq_1 (zc @mapTk (zc @hx (zc (fun d => getD_au (d := d) hc) @auA.eq_1))))))
               ·intro h
                (refine x_go (zc @rmC.eq_1 (zc @mapTk (zc @hx (zc (fun d => getD_au (d := d) hc) @auA.eq_1)))) ?_)
                (first | exact x_ret (zc @rmC.eq_1 (zc @mapTk (zc @hx (zc (fun d => getD_au (d := d) hc) @auA.eq_1)))) | refine x_retZ (zc @rmC.eq_1 (zc @mapTk (zc @hx (zc (fun d => getD_au (d := d) hc) @auA.eq_1)))) ?_)
                have h1 : b1 = false := by simpa using h
                rw [h1] at hqk
                rw [orE_no (by rw [auE, fE_at _ _ _ k (by omega) (by omega) (fun j _ hj => hk2 j hj) (by rw [hqk]; simp), hqk]; simp)]
                rw [auE, fE_at _ _ _ k (by omega) (by omega) (fun j _ hj => hk2 j hj) (by rw [hqk]; simp), hqk]
                rfl
               ·intro h
                have h1 : b1 = true := by simpa using h
                rw [h1] at hqk
                (refine x_go (zc @rmC.eq_1 (zc @mapTk (zc @hx (zc (fun d => getD_au (d := d) hc) @auA.eq_1)))) ?_)
                (apply Run.pureP; (exact x_ev (zc @rmC.eq_1 (zc @mapTk (zc @hx (zc (fun d => getD_au (d := d) hc) @auA.eq_1))))); (exact (Enters.of Tryz.func116 rfl rfl)); (exact c3); (exact x_al (zc @rmC.eq_1 (zc @mapTk (zc @hx (zc (fun d => getD_au (d := d) hc) @auA.eq_1))))); (try dsimp only [putA, optG]))
                (refine x_go (zc @rmC.eq_1 (zc @mapTk (zc @hx (zc (fun d => getD_au (d := d) hc) @auA.eq_1)))) ?_)
                (apply Wp.cond; (exact x_ev (zc @rmC.eq_1 (zc @mapTk (zc @hx (zc (fun d => getD_au (d := d) hc) @auA.eq_1))))))
                ·intro h5
                 (refine x_go (zc @rmC.eq_1 (zc @mapTk (zc @hx (zc (fun d => getD_au (d := d) hc) @auA.eq_1)))) ?_)
                 (first | exact x_ret (zc @rmC.eq_1 (zc @mapTk (zc @hx (zc (fun d => getD_au (d := d) hc) @auA.eq_1)))) | refine x_retZ (zc @rmC.eq_1 (zc @mapTk (zc @hx (zc (fun d => getD_au (d := d) hc) @auA.eq_1)))) ?_)
                 have h6 : b3 = false := by simpa using h5
                 rw [h6] at hqk
                 rw [orE_no (by rw [auE, fE_at _ _ _ k (by omega) (by omega) (fun j _ hj => hk2 j hj) (by rw [hqk]; simp), hqk]; simp)]
                 rw [auE, fE_at _ _ _ k (by omega) (by omega) (fun j _ hj => hk2 j hj) (by rw [hqk]; simp), hqk]
                 rfl
                ·intro h5
                 have h6 : b3 = true := by simpa using h5
                 rw [h6] at hqk
                 (refine x_go (zc @rmC.eq_1 (zc @mapTk (zc @hx (zc (fun d => getD_au (d := d) hc) @auA.eq_1)))) ?_)
                 refine ⟨(k + 1, vau + 1, .row 3 [auA x]), ?_, ⟨by simp only; omega, fun j hj => ?_⟩, by simp only; omega⟩
                 ·(refine Le.of ?_ ?_ rfl rfl <;> (try simp only [push_cast, seval, rmC, ← List.map_take, hx, getD_au hc, auA]) <;> (try (with_reducible rfl)))
                 ·simp only at hj
                  by_cases hjk : j = k
                  ·subst hjk; rw [hqk]; rfl
                  ·exact hk2 j (by omega)
              ·(intro hc; first | replace hc := bT hc | skip)
               obtain rfl : k = r.au.length := by omega
               rw [orE_ok (a := auE r) (fE_none _ _ _ fun j _ hj => hk2 j (by omega))]
               clear hk1
               (refine x_go (zc @rmC.eq_1 @mapTk) ?_)
               (apply Run.pureP; (exact x_ev (zc @rmC.eq_1 @mapTk)); (exact (Enters.of Tryz.func106 rfl rfl)); (exact within_pure _ _ _); (exact x_al (zc @rmC.eq_1 @mapTk)); (try dsimp only [putA, optG]))
               (refine x_go (zc @rmC.eq_1 @mapTk) ?_)
               (apply Wp.cond; (exact x_ev (zc @rmC.eq_1 @mapTk)))
               ·intro h
                have h1 : wi r.n 1 4 = false := by simpa using h
                rw [orE_no (by rw [h1]; decide), h1]
                (refine x_go (zc @rmC.eq_1 @mapTk) ?_)
                (first | exact x_ret (zc @rmC.eq_1 @mapTk) | refine x_retZ (zc @rmC.eq_1 @mapTk) ?_)
               ·intro h
                have h1 : wi r.n 1 4 = true := by simpa using h
                rw [orE_ok (by rw [h1]; rfl)]
                have c3 := valid_pure (by omega) hts r.goal (by omega)
                unfold rmA rmC at c3
                generalize cdB r.ts r.goal = b3 at c3 ⊢
                (refine x_go (zc @rmC.eq_1 @mapTk) ?_)
                (apply Run.pureP; (exact x_ev (zc @rmC.eq_1 @mapTk)); (exact (Enters.of Tryz.func116 rfl rfl)); (exact c3); (exact x_al (zc @rmC.eq_1 @mapTk)); (try dsimp only [putA, optG]))
                (refine x_go (zc @rmC.eq_1 @mapTk) ?_)
                (apply Wp.cond; (exact x_ev (zc @rmC.eq_1 @mapTk)))
                ·intro h5
                 (refine x_go (zc @rmC.eq_1 @mapTk) ?_)
                 (first | exact x_ret (zc @rmC.eq_1 @mapTk) | refine x_retZ (zc @rmC.eq_1 @mapTk) ?_)
                 have h6 : b3 = false := by simpa using h5
                 rw [h6]; rfl
                ·intro h5
                 (refine x_go (zc @rmC.eq_1 @mapTk) ?_)
                 (first | exact x_ret (zc @rmC.eq_1 @mapTk) | refine x_retZ (zc @rmC.eq_1 @mapTk) ?_)
                 have h6 : b3 = true := by simpa using h5
                 rw [h6]; rfl
end Go.Proofs.Tryz
set_option maxHeartbeats 8000000
namespace Go.Proofs.Tryz
open Go.Vg
theorem words_pure : Pure Tryz.prog 131 [] (.strs rsvd) := by
 (refine Spec.bd 0 Tryz.func131 Tryz.results131 Tryz.ntmps131 ?_; simp only [entry, zipArgs, Nat.reduceAdd])
 (refine w_gob ?_)
 (apply Wp.freeze 0; (exact w_ev); (exact w_ev); (focus (try simp only [push_cast, seval]); (try (exact sT))); (focus (exact sT)))
 (first | exact w_ret | refine w_retZ ?_)
theorem any_bad {α : Type} {d : α} {p : α → Bool} {l : List α} {k : Nat} (hk : k < l.length) (h : p (l.getD k d) = true) : l.any p = true := List.any_eq_true.2 ⟨l.getD k d, by simp [hk], h⟩
theorem any_none {α : Type} {d : α} {p : α → Bool} {l : List α} (h : ∀ j, j < l.length → p (l.getD j d) = false) : l.any p = false := by
 rw [List.any_eq_false]
 intro x hx
 obtain ⟨i, hi, rfl⟩ := List.getElem_of_mem hx
 have := h i hi
 simp [hi] at this
 simp [this]
theorem letters_pure (t : ByteArray) (hs : t.size ≤ 100) : Pure Tryz.prog 102 [.str t] (.bool (letB t)) := by
 have hbl : t.data.toList.length = t.size := by simp
 have hat := byteAtN t
 have hw := words_pure
 have hl10 : rsvd.length = 10 := rfl
 have hin : inS rsvd t = rsvd.any (fun x => decide (x = t)) := by
  unfold inS; congr 1; funext x; exact decide_eq_decide.2 ⟨Eq.symm, Eq.symm⟩
 rw [letB_eq, hin]
 generalize hl : t.data.toList = l at hbl hat
 generalize rsvd = rs at hw hl10
 have hne : decide (t = ByteArray.mk #[]) = decide (t = .empty) := rfl
 (refine Spec.bd 0 Tryz.func102 Tryz.results102 Tryz.ntmps102 ?_; simp only [entry, zipArgs, Nat.reduceAdd])
 (refine w_go ?_)
 refine Wp.loop (fun k : Nat => { t := [(0, .str t), (3, .int k)], m := [], n := 37 }) (fun k => k ≤ t.size ∧ ∀ j, j < k → lowB (l.getD j 0) = true) (fun k => t.size - k) 0 ?_ ?_ ?_
 ·(refine Le.of ?_ ?_ rfl rfl <;> (try simp only [push_cast, seval]) <;> (try (with_reducible rfl)))
 ·simp
 ·rintro k ⟨hk1, hk2⟩
  have hak := hat k
  generalize hc0 : l.getD k 0 = c at hak
  by_cases hkb : k < t.size
  ·have e1 : decide ((k : Int) < (t.size : Int)) = true := decide_eq_true (by omega)
   (refine x_gg (zc @e1 @hak) ?_)
   (apply Wp.cond; (exact x_ev (zc @e1 @hak)))
   ·intro h2
    (refine x_gg (zc @e1 @hak) ?_)
    (first | exact x_ret (zc @e1 @hak) | refine x_retZ (zc @e1 @hak) ?_)
    rw [all_bad (p := lowB) (by omega) (by
     rw [hc0]
     simp only [Bool.or_eq_true, decide_eq_true_eq] at h2
     unfold lowB
     rw [← Bool.not_eq_true]
     simp only [Bool.and_eq_true, decide_eq_true_eq]
     omega : lowB (l.getD k 0) = false)]
    rfl
   ·intro h2
    (refine x_gg (zc @e1 @hak) ?_)
    refine ⟨k + 1, ?_, ⟨by omega, fun j hj => ?_⟩, by omega⟩
    ·(refine Le.of ?_ ?_ rfl rfl <;> (try simp only [push_cast, seval, e1, hak]) <;> (try (with_reducible rfl)))
    ·by_cases hjk : j = k
     ·subst hjk; rw [hc0]
      simp only [Bool.or_eq_false_iff, decide_eq_false_iff_not] at h2
      unfold lowB
      simp only [Bool.and_eq_true, decide_eq_true_eq]
      omega
     ·exact hk2 j (by omega)
  ·have e1 : decide ((k : Int) < (t.size : Int)) = false := decide_eq_false (by omega)
   rw [all_getD (p := lowB) fun j hj => hk2 j (by omega)]
   (refine x_gg (zc @e1 @hne) ?_)
   (apply Run.pureFP; (exact x_ev (zc @e1 @hne)); (exact (Enters.of Tryz.func131 rfl rfl)); (exact hw); (exact x_al (zc @e1 @hne)); (try dsimp only [putA, optG]))
   (refine x_gg (zc @e1 @hne) ?_)
   refine Wp.loop (fun k : Nat => { t := [(0, .str t), (4, .strs rs), (5, .int k)], m := [], n := 37 }) (fun k => k ≤ rs.length ∧ ∀ j, j < k → decide (rs.getD j .empty = t) = false) (fun k => rs.length - k) 0 ?_ ?_ ?_
   ·(refine Le.of ?_ ?_ rfl rfl <;> (try simp only [push_cast, seval, e1, hne]) <;> (try (with_reducible rfl)))
   ·simp
   ·rintro i ⟨hi1, hi2⟩
    (refine x_go @hne ?_)
    (apply Wp.cond; (exact x_ev @hne))
    ·(intro hc; first | replace hc := bT hc | skip)
     generalize hx : rs.getD i .empty = x
     (refine x_go (zc @hne @hx) ?_)
     (apply Wp.cond; (exact x_ev (zc @hne @hx)))
     ·intro h2
      (refine x_go (zc @hne @hx) ?_)
      (first | exact x_ret (zc @hne @hx) | refine x_retZ (zc @hne @hx) ?_)
      rw [any_bad (d := ByteArray.empty) (p := fun x => decide (x = t)) hc (by rw [hx]; exact h2)]
      rfl
     ·intro h2
      (refine x_go (zc @hne @hx) ?_)
      refine ⟨i + 1, ?_, ⟨by omega, fun j hj => ?_⟩, by omega⟩
      ·(refine Le.of ?_ ?_ rfl rfl <;> (try simp only [push_cast, seval, hne, hx]) <;> (try (with_reducible rfl)))
      ·by_cases hjk : j = i
       ·subst hjk; rw [hx]; exact h2
       ·exact hi2 j (by omega)
    ·(intro hc; first | replace hc := bT hc | skip)
     obtain rfl : i = rs.length := by omega
     (refine x_go @hne ?_)
     (first | exact x_ret @hne | refine x_retZ @hne ?_)
     rw [any_none (d := ByteArray.empty) (p := fun x => decide (x = t)) hi2]
     rfl
theorem Named_pure (t : ByteArray) (hs : t.size ≤ 100) : Pure Tryz.prog 80 [.str t] (.bool (nmdB t)) := by
 have hl := letters_pure t hs
 unfold nmdB
 (refine Spec.bd 0 Tryz.func80 Tryz.results80 Tryz.ntmps80 ?_; simp only [entry, zipArgs, Nat.reduceAdd])
 (refine w_go ?_)
 (apply Run.pureP; (exact w_ev); (exact (Enters.of Tryz.func102 rfl rfl)); (exact hl); (exact w_al); (try dsimp only [putA, optG]))
 (refine w_go ?_)
 (first | exact w_ret | refine w_retZ ?_)
 rw [show decide ((t.size : Int) ≤ 12) = decide (t.size ≤ 12) from decide_eq_decide.2 (by omega), Bool.and_comm]
theorem twice_pure (l : List ByteArray) (i : Nat) (hi : i < l.length) (hl : l.length ≤ 100) : Pure Tryz.prog 81 [.strs l, .int i] (.bool ((l.take i).any (fun x => decide (x = l.getD i .empty)))) := by
 generalize hy : l.getD i .empty = y
 have htk : ∀ j, j < i → (l.take i).getD j .empty = l.getD j .empty := fun j hj => by
  simp [List.getD_eq_getElem?_getD, List.getElem?_take, hj]
 have hlt : (l.take i).length = i := by rw [List.length_take]; omega
 (refine Spec.bd 0 Tryz.func81 Tryz.results81 Tryz.ntmps81 ?_; simp only [entry, zipArgs, Nat.reduceAdd])
 (refine w_go ?_)
 refine Wp.loop (fun k : Nat => { t := [(0, .strs l), (1, .int i), (5, .int k)], m := [], n := 20 }) (fun k => k ≤ i ∧ ∀ j, j < k → decide (l.getD j .empty = y) = false) (fun k => i - k) 0 ?_ ?_ ?_
 ·(refine Le.of ?_ ?_ rfl rfl <;> (try simp only [push_cast, seval]) <;> (try (with_reducible rfl)))
 ·simp
 ·rintro k ⟨hk1, hk2⟩
  (refine w_go ?_)
  (apply Wp.cond; (exact w_ev))
  ·(intro hc; first | replace hc := bT hc | skip)
   generalize hx : l.getD k .empty = x
   (refine x_go (zc @hx @hy) ?_)
   (refine Wp.rnD 9 ?_; apply exAb; (((refine x_abn (zc @hx @hy) ?_)); exact Abn.nil))
   (refine x_go (zc @hx @hy) ?_)
   (apply Wp.cond; (exact x_ev (zc @hx @hy)))
   ·intro h2
    (refine x_go (zc @hx @hy) ?_)
    (first | exact x_ret (zc @hx @hy) | refine x_retZ (zc @hx @hy) ?_)
    rw [any_bad (d := ByteArray.empty) (p := fun x => decide (x = y)) (k := k) (by omega) (by rw [htk k hc, hx]; exact h2)]
   ·intro h2
    (refine x_go (zc @hx @hy) ?_)
    refine ⟨k + 1, ?_, ⟨by omega, fun j hj => ?_⟩, by omega⟩
    ·(refine Le.of ?_ ?_ rfl rfl <;> (try simp only [push_cast, seval, hx, hy]) <;> (try (with_reducible rfl)))
    ·by_cases hjk : j = k
     ·subst hjk; rw [hx]; exact h2
     ·exact hk2 j (by omega)
  ·(intro hc; first | replace hc := bT hc | skip)
   obtain rfl : k = i := by omega
   (refine w_go ?_)
   (first | exact w_ret | refine w_retZ ?_)
   rw [any_none (d := ByteArray.empty) (p := fun x => decide (x = y)) fun j hj => by rw [htk j (by omega)]; exact hk2 j (by omega)]
theorem rplace_pure {r : Rm} (hz : r.ps.length ≤ 100) (n : Int) : Pure Tryz.prog 82 [rmA r, .int n] (.bool (wi n 0 ((r.ps.length : Int) - 1))) := by
 unfold rmA rmC
 (refine Spec.bd 0 Tryz.func82 Tryz.results82 Tryz.ntmps82 ?_; simp only [entry, zipArgs, Nat.reduceAdd])
 (refine w_go ?_)
 (apply Run.pureP; (exact w_ev); (exact (Enters.of Tryz.func83 rfl rfl)); (exact from_pure _ _ _); (exact w_al); (try dsimp only [putA, optG]))
 (refine w_go ?_)
 (first | exact w_ret | refine w_retZ ?_)
theorem set_pure {r : Rm} (hz : r.ts.length ≤ 100) (ht : TsOk r.ts) (th n : Int) : Pure Tryz.prog 86 [rmA r, .int th, .int n] (.bool (stB r.ts th n)) := by
 unfold rmA rmC stB
 have hw := from_pure th 0 ((r.ts.length : Int) - 1)
 cases h : wi th 0 ((r.ts.length : Int) - 1) with
 | false =>
  rw [h] at hw
  (refine Spec.bd 0 Tryz.func86 Tryz.results86 Tryz.ntmps86 ?_; simp only [entry, zipArgs, Nat.reduceAdd])
  ((refine w_pre ?_); (iterate 2 (refine w_nr ?_)); (refine w_nil ?_))
  (refine w_fzP (slq 3) ?_)
  (refine w_go ?_)
  (apply Run.pureP; (exact w_ev); (exact (Enters.of Tryz.func83 rfl rfl)); (exact hw); (exact w_al); (try dsimp only [putA, optG]))
  (refine w_gg ?_)
  (first | exact w_ret | refine w_retZ ?_)
 | true =>
  rw [h] at hw
  have hb := wi_iff.1 h
  have hx6 := ht.at (i := th.toNat) (by omega)
  generalize hx : r.ts.getD th.toNat th0 = x at hx6
  (refine Spec.bd 0 Tryz.func86 Tryz.results86 Tryz.ntmps86 ?_; simp only [entry, zipArgs, Nat.reduceAdd])
  ((refine x_pre @hx ?_); (iterate 2 (refine x_nr @hx ?_)); (refine x_nil @hx ?_))
  (refine x_fzP @hx (slq 3) ?_)
  (refine x_go @hx ?_)
  (apply Run.pureP; (exact x_ev @hx); (exact (Enters.of Tryz.func83 rfl rfl)); (exact hw); (exact x_al @hx); (try dsimp only [putA, optG]))
  (refine x_gg @hx ?_)
  (apply Run.pureP; (exact x_ev @hx); (exact (Enters.of Tryz.func83 rfl rfl)); (exact from_pure _ _ _); (exact x_al @hx); (try dsimp only [putA, optG]))
  (refine x_gg @hx ?_)
  (first | exact x_ret @hx | refine x_retZ @hx ?_)
theorem Conded_pure {r : Rm} (hz : r.ts.length ≤ 100) (ht : TsOk r.ts) (c : List Lt) (hc : c.length ≤ 100) : Pure Tryz.prog 84 [rmA r, cdA c] (.bool (cdB r.ts c)) := by
 have c1 := fun (x : Lt) => set_pure hz ht x.th x.st
 unfold rmA rmC at c1 ⊢
 unfold cdB
 (refine Spec.bd 0 Tryz.func84 Tryz.results84 Tryz.ntmps84 ?_; simp only [entry, zipArgs, Nat.reduceAdd])
 ((refine x_pre @rmC.eq_1 ?_); (iterate 2 (refine x_nr @rmC.eq_1 ?_)); (refine x_nil @rmC.eq_1 ?_))
 (refine x_fzP @rmC.eq_1 (slq 2) ?_)
 (refine x_go @rmC.eq_1 ?_)
 refine Wp.loop (fun k : Nat => { t := [(1, cdA c), (2, .ref (rmC r) 0), (5, .int k)], m := [⟨1, .row 8 []⟩], n := 28 }) (fun k => k ≤ c.length ∧ ∀ j, j < k → stB r.ts (c.getD j lt0).th (c.getD j lt0).st = true) (fun k => c.length - k) 0 ?_ ?_ ?_
 ·(refine Le.of ?_ ?_ rfl rfl <;> (try simp only [push_cast, seval, rmC]) <;> (try (with_reducible rfl)))
  all_goals rfl
 ·simp
 ·rintro k ⟨hk1, hk2⟩
  (refine x_go @rmC.eq_1 ?_)
  (apply Wp.cond; (exact x_ev @rmC.eq_1))
  ·intro hk3
   have hkc : k < c.length := by simp only [decide_eq_true_eq] at hk3; omega
   have c1k := c1 (c.getD k lt0)
   generalize hx : c.getD k lt0 = x at c1k
   generalize hb : stB r.ts x.th x.st = b at c1k
   (refine x_go (zc @rmC.eq_1 @hx) ?_)
   (refine Wp.rnD 13 ?_; apply exAb; (((refine x_abn (zc @rmC.eq_1 @hx) ?_); (apply Abn.pureP; (exact x_ev (zc @rmC.eq_1 @hx)); (exact (Enters.of Tryz.func86 rfl rfl)); (exact c1k); (exact x_al (zc @rmC.eq_1 @hx)); (try dsimp only [putA, optG])); (refine x_abn (zc @rmC.eq_1 @hx) ?_)); exact Abn.nil))
   (refine x_go (zc @rmC.eq_1 @hx) ?_)
   (apply Wp.cond; (exact x_ev (zc @rmC.eq_1 @hx)))
   ·intro h2
    (refine x_go (zc @rmC.eq_1 @hx) ?_)
    (first | exact x_ret (zc @rmC.eq_1 @hx) | refine x_retZ (zc @rmC.eq_1 @hx) ?_)
    rw [all_no (d := lt0) (p := fun l => stB r.ts l.th l.st) hkc (by rw [hx, hb]; simpa using h2), Bool.and_false]
   ·intro h2
    (refine x_go (zc @rmC.eq_1 @hx) ?_)
    refine ⟨k + 1, ?_, ⟨by omega, fun j hj => ?_⟩, by omega⟩
    ·(refine Le.of ?_ ?_ rfl rfl <;> (try simp only [push_cast, seval, rmC, hx]) <;> (try (with_reducible rfl)))
    ·by_cases hjk : j = k
     ·subst hjk; rw [hx, hb]; simpa using h2
     ·exact hk2 j (by omega)
  ·intro hk3
   obtain rfl : k = c.length := by simp only [decide_eq_false_iff_not] at hk3; omega
   (refine x_go @rmC.eq_1 ?_)
   (first | exact x_ret @rmC.eq_1 | refine x_retZ @rmC.eq_1 ?_)
   rw [all_at (d := lt0) (p := fun l => stB r.ts l.th l.st) hk2, Bool.and_true]
   exact congrArg AV.bool (decide_eq_decide.2 (by omega))
theorem asc_nn {l : List Int} {n : Nat} : ∀ {k : Nat}, (∀ j, j < k → (decide (lastA l j < l.getD j 0) && decide (l.getD j 0 < (n : Int))) = true) → -1 ≤ lastA l k
 | 0, _ => by unfold lastA; simp
 | k + 1, h => by
  have h1 := asc_nn (k := k) fun j hj => h j (by omega)
  have h2 := h k (by omega)
  simp only [Bool.and_eq_true, decide_eq_true_eq] at h2
  rw [lastA_s]; omega
theorem ascending_pure {r : Rm} (hz : r.pp.length ≤ 100) (l : List Int) (hl : l.length ≤ 100) : Pure Tryz.prog 103 [rmA r, .ints l] (.bool (ascB r.pp.length l)) := by
 have hA : ascB r.pp.length l = (List.range l.length).all (fun i => decide (lastA l i < l.getD i 0) && decide (l.getD i 0 < r.pp.length)) := rfl
 rw [hA]
 unfold rmA rmC
 (refine Spec.bd 0 Tryz.func103 Tryz.results103 Tryz.ntmps103 ?_; simp only [entry, zipArgs, Nat.reduceAdd])
 ((refine x_pre @rmC.eq_1 ?_); (iterate 2 (refine x_nr @rmC.eq_1 ?_)); (refine x_nil @rmC.eq_1 ?_))
 (refine x_fzP @rmC.eq_1 (slq 2) ?_)
 (refine x_go @rmC.eq_1 ?_)
 refine Wp.loop (fun k : Nat => { t := [(1, .ints l), (2, .ref (rmC r) 0), (5, .int k)], m := [⟨1, .row 8 []⟩], n := 38 }) (fun k => k ≤ l.length ∧ ∀ j, j < k → (decide (lastA l j < l.getD j 0) && decide (l.getD j 0 < r.pp.length)) = true) (fun k => l.length - k) 0 ?_ ?_ ?_
 ·(refine Le.of ?_ ?_ rfl rfl <;> (try simp only [push_cast, seval, rmC]) <;> (try (with_reducible rfl)))
  all_goals rfl
 ·simp
 ·rintro k ⟨hk1, hk2⟩
  have hnn := asc_nn hk2
  (refine x_go @rmC.eq_1 ?_)
  (apply Wp.cond; (exact x_ev @rmC.eq_1))
  ·(intro hc; first | replace hc := bT hc | skip)
   generalize hx : l.getD k 0 = x
   have hw := from_pure x 0 ((r.pp.length : Int) - 1)
   have key : ∀ b : Bool, ((!wi x 0 ((r.pp.length : Int) - 1)) || (decide (0 < (k : Int)) && decide (x ≤ l.getD (k - 1) 0))) = b → (decide (lastA l k < x) && decide (x < (r.pp.length : Int))) = !b := by
    intro b hb
    rw [← hb]
    rw [Bool.eq_iff_iff]
    simp only [Bool.and_eq_true, Bool.not_eq_true', Bool.or_eq_false_iff, Bool.not_eq_false', wi_iff, decide_eq_true_eq, Bool.and_eq_false_iff, decide_eq_false_iff_not]
    unfold lastA at *
    split at hnn
    ·rename_i h0; rw [if_pos h0]; omega
    ·rename_i h0; rw [if_neg h0]; omega
   by_cases h0 : k = 0
   ·have e1 : decide ((0 : Int) < (k : Int)) = false := decide_eq_false (by omega)
    rw [e1, Bool.false_and] at key
    generalize wi x 0 ((r.pp.length : Int) - 1) = b1 at hw key
    (refine x_go (zc @rmC.eq_1 (zc @hx @e1)) ?_)
    (refine Wp.rnD 26 ?_; apply exAb; (((refine x_abn (zc @rmC.eq_1 (zc @hx @e1)) ?_); (apply Abn.pureP; (exact x_ev (zc @rmC.eq_1 (zc @hx @e1))); (exact (Enters.of Tryz.func83 rfl rfl)); (exact hw); (exact x_al (zc @rmC.eq_1 (zc @hx @e1))); (try dsimp only [putA, optG])); (refine x_abn (zc @rmC.eq_1 (zc @hx @e1)) ?_)); exact Abn.nil))
    (refine x_go (zc @rmC.eq_1 (zc @hx @e1)) ?_)
    (apply Wp.cond; (exact x_ev (zc @rmC.eq_1 (zc @hx @e1))))
    ·intro h2
     have h3 := key true (by simpa using h2)
     (refine x_go (zc @rmC.eq_1 (zc @hx @e1)) ?_)
     (first | exact x_ret (zc @rmC.eq_1 (zc @hx @e1)) | refine x_retZ (zc @rmC.eq_1 (zc @hx @e1)) ?_)
     rw [range_no hc (by rw [hx]; exact h3)]
    ·intro h2
     have h3 := key false (by simpa using h2)
     (refine x_go (zc @rmC.eq_1 (zc @hx @e1)) ?_)
     refine ⟨k + 1, ?_, ⟨by omega, fun j hj => ?_⟩, by omega⟩
     ·(refine Le.of ?_ ?_ rfl rfl <;> (try simp only [push_cast, seval, rmC, hx, e1]) <;> (try (with_reducible rfl)))
     ·by_cases hjk : j = k
      ·subst hjk; rw [hx]; exact h3
      ·exact hk2 j (by omega)
   ·have e1 : decide ((0 : Int) < (k : Int)) = true := decide_eq_true (by omega)
    have e2 : ((k : Int) - 1).toNat = k - 1 := by omega
    rw [e1, Bool.true_and] at key
    generalize wi x 0 ((r.pp.length : Int) - 1) = b1 at hw key
    generalize hp : l.getD (k - 1) 0 = p at key
    (refine x_go (zc @rmC.eq_1 (zc @hx (zc @e1 (zc @e2 @hp)))) ?_)
    (refine Wp.rnD 26 ?_; apply exAb; (((refine x_abn (zc @rmC.eq_1 (zc @hx (zc @e1 (zc @e2 @hp)))) ?_); (apply Abn.pureP; (exact x_ev (zc @rmC.eq_1 (zc @hx (zc @e1 (zc @e2 @hp))))); (exact (Enters.of Tryz.func83 rfl rfl)); (exact hw); (exact x_al (zc @rmC.eq_1 (zc @hx (zc @e1 (zc @e2 @hp))))); (try dsimp only [putA, optG])); (refine x_abn (zc @rmC.eq_1 (zc @hx (zc @e1 (zc @e2 @hp)))) ?_)); exact Abn.nil))
    (refine x_go (zc @rmC.eq_1 (zc @hx (zc @e1 (zc @e2 @hp)))) ?_)
    (apply Wp.cond; (exact x_ev (zc @rmC.eq_1 (zc @hx (zc @e1 (zc @e2 @hp))))))
    ·intro h2
     have h3 := key true (by simpa using h2)
     (refine x_go (zc @rmC.eq_1 (zc @hx (zc @e1 (zc @e2 @hp)))) ?_)
     (first | exact x_ret (zc @rmC.eq_1 (zc @hx (zc @e1 (zc @e2 @hp)))) | refine x_retZ (zc @rmC.eq_1 (zc @hx (zc @e1 (zc @e2 @hp)))) ?_)
     rw [range_no hc (by rw [hx]; exact h3)]
    ·intro h2
     have h3 := key false (by simpa using h2)
     (refine x_go (zc @rmC.eq_1 (zc @hx (zc @e1 (zc @e2 @hp)))) ?_)
     refine ⟨k + 1, ?_, ⟨by omega, fun j hj => ?_⟩, by omega⟩
     ·(refine Le.of ?_ ?_ rfl rfl <;> (try simp only [push_cast, seval, rmC, hx, e1, e2, hp]) <;> (try (with_reducible rfl)))
     ·by_cases hjk : j = k
      ·subst hjk; rw [hx]; exact h3
      ·exact hk2 j (by omega)
  ·(intro hc; first | replace hc := bT hc | skip)
   obtain rfl : k = l.length := by omega
   (refine x_go @rmC.eq_1 ?_)
   (first | exact x_ret @rmC.eq_1 | refine x_retZ @rmC.eq_1 ?_)
   rw [range_all hk2]
theorem in_pure (l : List Int) (v : Int) (hl : l.length ≤ 100) : Pure Tryz.prog 104 [.ints l, .int v] (.bool (inI l v)) := by
 have hin : inI l v = l.any (fun x => decide (x = v)) := by
  unfold inI; congr 1; funext x; exact decide_eq_decide.2 ⟨Eq.symm, Eq.symm⟩
 rw [hin]
 (refine Spec.bd 0 Tryz.func104 Tryz.results104 Tryz.ntmps104 ?_; simp only [entry, zipArgs, Nat.reduceAdd])
 (refine w_go ?_)
 refine Wp.loop (fun k : Nat => { t := [(0, .ints l), (1, .int v), (5, .int k)], m := [], n := 18 }) (fun k => k ≤ l.length ∧ ∀ j, j < k → decide (l.getD j 0 = v) = false) (fun k => l.length - k) 0 ?_ ?_ ?_
 ·(refine Le.of ?_ ?_ rfl rfl <;> (try simp only [push_cast, seval]) <;> (try (with_reducible rfl)))
 ·simp
 ·rintro k ⟨hk1, hk2⟩
  (refine w_go ?_)
  (apply Wp.cond; (exact w_ev))
  ·(intro hc; first | replace hc := bT hc | skip)
   generalize hx : l.getD k 0 = x
   (refine x_go @hx ?_)
   (apply Wp.cond; (exact x_ev @hx))
   ·intro h2
    (refine x_go @hx ?_)
    (first | exact x_ret @hx | refine x_retZ @hx ?_)
    rw [any_bad (d := (0 : Int)) (p := fun x => decide (x = v)) hc (by rw [hx]; exact h2)]
   ·intro h2
    (refine x_go @hx ?_)
    refine ⟨k + 1, ?_, ⟨by omega, fun j hj => ?_⟩, by omega⟩
    ·(refine Le.of ?_ ?_ rfl rfl <;> (try simp only [push_cast, seval, hx]) <;> (try (with_reducible rfl)))
    ·by_cases hjk : j = k
     ·subst hjk; rw [hx]; exact h2
     ·exact hk2 j (by omega)
  ·(intro hc; first | replace hc := bT hc | skip)
   obtain rfl : k = l.length := by omega
   (refine w_go ?_)
   (first | exact w_ret | refine w_retZ ?_)
   rw [any_none (d := (0 : Int)) (p := fun x => decide (x = v)) hk2]
end Go.Proofs.Tryz
set_option maxHeartbeats 16000000
namespace Go.Proofs.Tryz
open Go.Vg
theorem take_getD {α : Type} {d : α} {l : List α} {i j : Nat} (h : j < i) : (l.take i).getD j d = l.getD j d := by
 simp [List.getD_eq_getElem?_getD, List.getElem?_take, h]
theorem any_take_no {α : Type} {d : α} {p : α → Bool} {l : List α} {i : Nat} (h : ∀ j, j < i → p (l.getD j d) = false) : (l.take i).any p = false :=
 any_none (d := d) fun j hj => by
  have h1 : j < i := by rw [List.length_take] at hj; omega
  rw [take_getD h1]; exact h j h1
theorem any_take_bad {α : Type} {d : α} {p : α → Bool} {l : List α} {i k : Nat} (hk : k < i) (hl : i ≤ l.length) (h : p (l.getD k d) = true) : (l.take i).any p = true :=
 any_bad (d := d) (k := k) (by rw [List.length_take]; omega) (by rw [take_getD hk]; exact h)
theorem acB_eq {r : Rm} {i : Nat} {a : Ac} (hi : i < r.ac.length) (ha : r.ac.getD i ac0 = a) : acB r i a = ((nmdB a.nm && !(r.ac.take i).any (fun x => decide (x.nm = a.nm))) && wi a.pl 0 ((r.ps.length : Int) - 1) && wi a.lk (-1) 7 && ascB r.pp.length a.us && ascB r.pp.length a.sp && ascB r.pp.length a.br && decide ((a.se.length : Int) ≤ 6) &&
   !(a.sp.any fun p => !inI a.us p) && !(a.br.any fun p => inI a.us p) && setsB r.ts a.se) := by
 unfold acB
 rw [newB_map Ac.nm r.ac ac0 hi, ha, any_not, Bool.not_not, show decide ((a.se.length : Int) ≤ 6) = decide (a.se.length ≤ 6) from decide_eq_decide.2 (by omega)]
 congr 3
 generalize a.br = l
 induction l with
 | nil => rfl
 | cons x l ih => simp only [List.all_cons, List.any_cons, ih, Bool.not_or]
theorem ract_pure {r : Rm} (hz : Sz r) (ht : TsOk r.ts) (i : Nat) (hi : i < r.ac.length) (a : Ac) (ha : r.ac.getD i ac0 = a) : Pure Tryz.prog 85 [rmA r, .int i] (.bool (acB r i a)) := by
 have hza := hz.acn _ (memAc hi)
 rw [ha] at hza
 obtain ⟨a1, a2, a3, a4, a5, a6⟩ := hza
 have hts := hz.ts
 have hps := hz.ps
 have hpp := hz.pp
 have hac := hz.ac
 have c1 := Named_pure a.nm a1
 have c2 := rplace_pure (r := r) (by omega) a.pl
 have c3 := from_pure a.lk (-1) 7
 have c4 := ascending_pure (r := r) (by omega) a.us (by omega)
 have c5 := ascending_pure (r := r) (by omega) a.sp (by omega)
 have c6 := ascending_pure (r := r) (by omega) a.br (by omega)
 have c7 := fun (p : Int) => in_pure a.us p (by omega)
 have c10 := fun (s : Se) => set_pure (r := r) (by omega) ht s.th s.st
 have hgd : ∀ d, (r.ac.map acA).getD i d = acA a := fun d => by rw [← ha]; exact getD_ac hi
 have htk := fun k (h : k < i) => any_take_bad (d := ac0) (p := fun x => decide (x.nm = a.nm)) (l := r.ac) (k := k) h (by omega)
 have htn := any_take_no (d := ac0) (p := fun x => decide (x.nm = a.nm)) (l := r.ac) (i := i)
 rw [acB_eq hi ha]
 generalize (r.ac.take i).any (fun x => decide (x.nm = a.nm)) = b0 at htk htn ⊢
 generalize nmdB a.nm = b1 at c1 ⊢
 generalize wi a.pl 0 ((r.ps.length : Int) - 1) = b2 at c2 ⊢
 generalize wi a.lk (-1) 7 = b3 at c3 ⊢
 generalize ascB r.pp.length a.us = b4 at c4 ⊢
 generalize ascB r.pp.length a.sp = b5 at c5 ⊢
 generalize ascB r.pp.length a.br = b6 at c6 ⊢
 have hU : ∀ p, inI a.us p = inI a.us p := fun _ => rfl
 generalize hu : (fun p => inI a.us p) = u
 have hu' : ∀ p, inI a.us p = u p := fun p => congrFun hu p
 simp only [hu'] at c7
 rw [show (fun p => !inI a.us p) = (fun p => !u p) from funext fun p => by rw [hu' p]]
 rw [setsB_eq]
 have hq : ∀ k, (stB r.ts (a.se.getD k se0).th (a.se.getD k se0).st && !(a.se.take k).any (fun x => decide (x.th = (a.se.getD k se0).th))) = setF r.ts a.se k := fun _ => rfl
 simp only [hq]
 generalize hqg : setF r.ts a.se = qf at hq ⊢
 unfold rmA rmC at c2 c4 c5 c6 c10 ⊢
 (refine Spec.bd 0 Tryz.func85 Tryz.results85 Tryz.ntmps85 ?_; simp only [entry, zipArgs, Nat.reduceAdd])
 ((refine x_pre (zc @rmC.eq_1 (zc @acC.eq_1 (zc @hgd @acA.eq_1))) ?_); (iterate 2 (refine x_nr (zc @rmC.eq_1 (zc @acC.eq_1 (zc @hgd @acA.eq_1))) ?_)); (refine x_nil (zc @rmC.eq_1 (zc @acC.eq_1 (zc @hgd @acA.eq_1))) ?_))
 (refine x_fzP (zc @rmC.eq_1 (zc @acC.eq_1 (zc @hgd @acA.eq_1))) (slq 2) ?_)
 ((refine x_pre (zc @rmC.eq_1 (zc @acC.eq_1 (zc @hgd @acA.eq_1))) ?_); (iterate 7 (refine x_nr (zc @rmC.eq_1 (zc @acC.eq_1 (zc @hgd @acA.eq_1))) ?_)); (refine x_nil (zc @rmC.eq_1 (zc @acC.eq_1 (zc @hgd @acA.eq_1))) ?_))
 (refine x_fzP (zc @rmC.eq_1 (zc @acC.eq_1 (zc @hgd @acA.eq_1))) (slq 5) ?_)
 (refine x_go (zc @rmC.eq_1 (zc @acC.eq_1 (zc @hgd @acA.eq_1))) ?_)
 refine Wp.loop (fun k : Nat => { t := [(1, .int i), (2, .ref (rmC r) 0), (5, .ref (acC a) 0), (6, .int k)], m := [⟨1, .row 8 []⟩, ⟨1, .row 8 []⟩], n := 145 }) (fun k => k ≤ i ∧ ∀ j, j < k → decide ((r.ac.getD j ac0).nm = a.nm) = false) (fun k => i - k) 0 ?_ ?_ ?_
 ·(refine Le.of ?_ ?_ rfl rfl <;> (try simp only [push_cast, seval, rmC, acC, hgd, acA]) <;> (try (with_reducible rfl)))
  all_goals (first | exact ⟨rfl, rfl⟩ | rfl)
 ·simp
 ·rintro k ⟨hk1, hk2⟩
  (refine x_go (zc @rmC.eq_1 (zc @acC.eq_1 (zc @hgd @acA.eq_1))) ?_)
  (apply Wp.cond; (exact x_ev (zc @rmC.eq_1 (zc @acC.eq_1 (zc @hgd @acA.eq_1)))))
  ·(intro hc; first | replace hc := bT hc | skip)
   have htk2 := htk k hc
   have hki : k < r.ac.length := by omega
   generalize hx : r.ac.getD k ac0 = x at htk2
   (refine x_go (zc @rmC.eq_1 (zc @acC.eq_1 (zc (fun d => getD_ac (d := d) hki) (zc @acA.eq_1 @hx)))) ?_)
   (refine Wp.rnD 9 ?_; apply exAb; (((refine x_abn (zc @rmC.eq_1 (zc @acC.eq_1 (zc (fun d => getD_ac (d := d) hki) (zc @acA.eq_1 @hx)))) ?_)); exact Abn.nil))
   (refine x_go (zc @rmC.eq_1 (zc @acC.eq_1 (zc (fun d => getD_ac (d := d) hki) (zc @acA.eq_1 @hx)))) ?_)
   (apply Wp.cond; (exact x_ev (zc @rmC.eq_1 (zc @acC.eq_1 (zc (fun d => getD_ac (d := d) hki) (zc @acA.eq_1 @hx))))))
   ·intro h2
    (refine x_go (zc @rmC.eq_1 (zc @acC.eq_1 (zc (fun d => getD_ac (d := d) hki) (zc @acA.eq_1 @hx)))) ?_)
    (first | exact x_ret (zc @rmC.eq_1 (zc @acC.eq_1 (zc (fun d => getD_ac (d := d) hki) (zc @acA.eq_1 @hx)))) | refine x_retZ (zc @rmC.eq_1 (zc @acC.eq_1 (zc (fun d => getD_ac (d := d) hki) (zc @acA.eq_1 @hx)))) ?_)
    rw [htk2 h2]
    simp
   ·intro h2
    (refine x_go (zc @rmC.eq_1 (zc @acC.eq_1 (zc (fun d => getD_ac (d := d) hki) (zc @acA.eq_1 @hx)))) ?_)
    refine ⟨k + 1, ?_, ⟨by omega, fun j hj => ?_⟩, by omega⟩
    ·(refine Le.of ?_ ?_ rfl rfl <;> (try simp only [push_cast, seval, rmC, acC, getD_ac hki, acA, hx]) <;> (try (with_reducible rfl)))
    ·by_cases hjk : j = k
     ·subst hjk; rw [hx]; exact h2
     ·exact hk2 j (by omega)
  ·(intro hc; first | replace hc := bT hc | skip)
   obtain rfl : i = k := by omega
   obtain rfl : b0 = false := htn hk2
   (refine x_go (zc @rmC.eq_1 @acC.eq_1) ?_)
   (apply Run.pureP; (exact x_ev (zc @rmC.eq_1 @acC.eq_1)); (exact (Enters.of Tryz.func80 rfl rfl)); (exact c1); (exact x_al (zc @rmC.eq_1 @acC.eq_1)); (try dsimp only [putA, optG]))
   (refine x_go (zc @rmC.eq_1 @acC.eq_1) ?_)
   (apply Run.pureP; (exact x_ev (zc @rmC.eq_1 @acC.eq_1)); (exact (Enters.of Tryz.func82 rfl rfl)); (exact c2); (exact x_al (zc @rmC.eq_1 @acC.eq_1)); (try dsimp only [putA, optG]))
   (refine x_go (zc @rmC.eq_1 @acC.eq_1) ?_)
   (apply Run.pureP; (exact x_ev (zc @rmC.eq_1 @acC.eq_1)); (exact (Enters.of Tryz.func83 rfl rfl)); (exact c3); (exact x_al (zc @rmC.eq_1 @acC.eq_1)); (try dsimp only [putA, optG]))
   (refine x_go (zc @rmC.eq_1 @acC.eq_1) ?_)
   (apply Run.pureP; (exact x_ev (zc @rmC.eq_1 @acC.eq_1)); (exact (Enters.of Tryz.func103 rfl rfl)); (exact c4); (exact x_al (zc @rmC.eq_1 @acC.eq_1)); (try dsimp only [putA, optG]))
   (refine x_go (zc @rmC.eq_1 @acC.eq_1) ?_)
   (apply Run.pureP; (exact x_ev (zc @rmC.eq_1 @acC.eq_1)); (exact (Enters.of Tryz.func103 rfl rfl)); (exact c5); (exact x_al (zc @rmC.eq_1 @acC.eq_1)); (try dsimp only [putA, optG]))
   (refine x_go (zc @rmC.eq_1 @acC.eq_1) ?_)
   (apply Run.pureP; (exact x_ev (zc @rmC.eq_1 @acC.eq_1)); (exact (Enters.of Tryz.func103 rfl rfl)); (exact c6); (exact x_al (zc @rmC.eq_1 @acC.eq_1)); (try dsimp only [putA, optG]))
   (refine x_go (zc @rmC.eq_1 @acC.eq_1) ?_)
   have e : decide ((6 : Int) < (a.se.length : Int)) = !decide ((a.se.length : Int) ≤ 6) := by
    rw [← decide_not]; exact decide_eq_decide.2 (by omega)
   generalize decide ((a.se.length : Int) ≤ 6) = b7 at e ⊢
   (apply Wp.cond; (exact x_ev (zc @rmC.eq_1 @acC.eq_1)))
   ·intro h2
    rw [e] at h2
    (refine x_go (zc @rmC.eq_1 @acC.eq_1) ?_)
    (first | exact x_ret (zc @rmC.eq_1 @acC.eq_1) | refine x_retZ (zc @rmC.eq_1 @acC.eq_1) ?_)
    revert h2
    cases b1 <;> cases b2 <;> cases b3 <;> cases b4 <;> cases b5 <;> cases b6 <;> cases b7 <;> simp
   ·intro h2
    rw [e] at h2
    have e1 : b1 = true ∧ b2 = true ∧ b3 = true ∧ b4 = true ∧ b5 = true ∧ b6 = true ∧ b7 = true := by
     revert h2
     cases b1 <;> cases b2 <;> cases b3 <;> cases b4 <;> cases b5 <;> cases b6 <;> cases b7 <;> simp
    obtain ⟨rfl, rfl, rfl, rfl, rfl, rfl, rfl⟩ := e1
    (refine x_go (zc @rmC.eq_1 @acC.eq_1) ?_)
    refine Wp.loop (fun k : Nat => { t := [(1, .int i), (2, .ref (rmC r) 0), (5, .ref (acC a) 0), (7, .int k)], m := [⟨1, .row 8 []⟩, ⟨1, .row 8 []⟩], n := 145 }) (fun k => k ≤ a.sp.length ∧ ∀ j, j < k → (!u (a.sp.getD j 0)) = false) (fun k => a.sp.length - k) 0 ?_ ?_ ?_
    ·(refine Le.of ?_ ?_ rfl rfl <;> (try simp only [push_cast, seval, rmC, acC]) <;> (try (with_reducible rfl)))
     all_goals (first | exact ⟨rfl, rfl⟩ | rfl)
    ·simp
    ·rintro k ⟨hk1, hk2⟩
     (refine x_go (zc @rmC.eq_1 @acC.eq_1) ?_)
     (apply Wp.cond; (exact x_ev (zc @rmC.eq_1 @acC.eq_1)))
     ·(intro hc; first | replace hc := bT hc | skip)
      generalize hx : a.sp.getD k 0 = x
      have c7k := c7 x
      (refine x_go (zc @rmC.eq_1 (zc @acC.eq_1 @hx)) ?_)
      (refine Wp.rnD 9 ?_; apply exAb; (((refine x_abn (zc @rmC.eq_1 (zc @acC.eq_1 @hx)) ?_); (apply Abn.pureP; (exact x_ev (zc @rmC.eq_1 (zc @acC.eq_1 @hx))); (exact (Enters.of Tryz.func104 rfl rfl)); (exact c7k); (exact x_al (zc @rmC.eq_1 (zc @acC.eq_1 @hx))); (try dsimp only [putA, optG])); (refine x_abn (zc @rmC.eq_1 (zc @acC.eq_1 @hx)) ?_)); exact Abn.nil))
      (refine x_go (zc @rmC.eq_1 (zc @acC.eq_1 @hx)) ?_)
      (apply Wp.cond; (exact x_ev (zc @rmC.eq_1 (zc @acC.eq_1 @hx))))
      ·intro h3
       (refine x_go (zc @rmC.eq_1 (zc @acC.eq_1 @hx)) ?_)
       (first | exact x_ret (zc @rmC.eq_1 (zc @acC.eq_1 @hx)) | refine x_retZ (zc @rmC.eq_1 (zc @acC.eq_1 @hx)) ?_)
       rw [any_bad (d := (0 : Int)) (p := fun p => !u p) hc (by rw [hx]; exact h3)]
       simp
      ·intro h3
       (refine x_go (zc @rmC.eq_1 (zc @acC.eq_1 @hx)) ?_)
       refine ⟨k + 1, ?_, ⟨by omega, fun j hj => ?_⟩, by omega⟩
       ·(refine Le.of ?_ ?_ rfl rfl <;> (try simp only [push_cast, seval, rmC, acC, hx]) <;> (try (with_reducible rfl)))
       ·by_cases hjk : j = k
        ·subst hjk; rw [hx]; exact h3
        ·exact hk2 j (by omega)
     ·(intro hc; first | replace hc := bT hc | skip)
      obtain rfl : k = a.sp.length := by omega
      rw [any_none (d := (0 : Int)) (p := fun p => !u p) hk2]
      (refine x_go (zc @rmC.eq_1 @acC.eq_1) ?_)
      refine Wp.loop (fun k : Nat => { t := [(1, .int i), (2, .ref (rmC r) 0), (5, .ref (acC a) 0), (8, .int k)], m := [⟨1, .row 8 []⟩, ⟨1, .row 8 []⟩], n := 145 }) (fun k => k ≤ a.br.length ∧ ∀ j, j < k → u (a.br.getD j 0) = false) (fun k => a.br.length - k) 0 ?_ ?_ ?_
      ·(refine Le.of ?_ ?_ rfl rfl <;> (try simp only [push_cast, seval, rmC, acC]) <;> (try (with_reducible rfl)))
       all_goals (first | exact ⟨rfl, rfl⟩ | rfl)
      ·simp
      ·rintro k ⟨hk3, hk4⟩
       (refine x_go (zc @rmC.eq_1 @acC.eq_1) ?_)
       (apply Wp.cond; (exact x_ev (zc @rmC.eq_1 @acC.eq_1)))
       ·(intro hc; first | replace hc := bT hc | skip)
        generalize hx : a.br.getD k 0 = x
        have c7k := c7 x
        (refine x_go (zc @rmC.eq_1 (zc @acC.eq_1 @hx)) ?_)
        (refine Wp.rnD 8 ?_; apply exAb; (((refine x_abn (zc @rmC.eq_1 (zc @acC.eq_1 @hx)) ?_); (apply Abn.pureP; (exact x_ev (zc @rmC.eq_1 (zc @acC.eq_1 @hx))); (exact (Enters.of Tryz.func104 rfl rfl)); (exact c7k); (exact x_al (zc @rmC.eq_1 (zc @acC.eq_1 @hx))); (try dsimp only [putA, optG])); (refine x_abn (zc @rmC.eq_1 (zc @acC.eq_1 @hx)) ?_)); exact Abn.nil))
        (refine x_go (zc @rmC.eq_1 (zc @acC.eq_1 @hx)) ?_)
        (apply Wp.cond; (exact x_ev (zc @rmC.eq_1 (zc @acC.eq_1 @hx))))
        ·intro h3
         (refine x_go (zc @rmC.eq_1 (zc @acC.eq_1 @hx)) ?_)
         (first | exact x_ret (zc @rmC.eq_1 (zc @acC.eq_1 @hx)) | refine x_retZ (zc @rmC.eq_1 (zc @acC.eq_1 @hx)) ?_)
         rw [any_bad (d := (0 : Int)) (p := u) hc (by rw [hx]; exact h3)]
         simp
        ·intro h3
         (refine x_go (zc @rmC.eq_1 (zc @acC.eq_1 @hx)) ?_)
         refine ⟨k + 1, ?_, ⟨by omega, fun j hj => ?_⟩, by omega⟩
         ·(refine Le.of ?_ ?_ rfl rfl <;> (try simp only [push_cast, seval, rmC, acC, hx]) <;> (try (with_reducible rfl)))
         ·by_cases hjk : j = k
          ·subst hjk; rw [hx]; exact h3
          ·exact hk4 j (by omega)
       ·(intro hc; first | replace hc := bT hc | skip)
        obtain rfl : k = a.br.length := by omega
        rw [any_none (d := (0 : Int)) (p := u) hk4]
        (refine x_go (zc @rmC.eq_1 @acC.eq_1) ?_)
        refine Wp.loop (fun k : Nat => { t := [(1, .int i), (2, .ref (rmC r) 0), (5, .ref (acC a) 0), (9, .int k)], m := [⟨1, .row 8 []⟩, ⟨1, .row 8 []⟩], n := 145 }) (fun k => k ≤ a.se.length ∧ ∀ j, j < k → qf j = true) (fun k => a.se.length - k) 0 ?_ ?_ ?_
        ·(refine Le.of ?_ ?_ rfl rfl <;> (try simp only [push_cast, seval, rmC, acC]) <;> (try (with_reducible rfl)))
         all_goals (first | exact ⟨rfl, rfl⟩ | rfl)
        ·simp
        ·rintro k ⟨hk5, hk6⟩
         (refine x_go (zc @rmC.eq_1 @acC.eq_1) ?_)
         (apply Wp.cond; (exact x_ev (zc @rmC.eq_1 @acC.eq_1)))
         ·(intro hc; first | replace hc := bT hc | skip)
          have hqk := hq k
          have c10k := c10 (a.se.getD k se0)
          generalize hx : a.se.getD k se0 = x at c10k hqk
          generalize stB r.ts x.th x.st = b10 at c10k hqk
          (refine x_go (zc @rmC.eq_1 (zc @acC.eq_1 @hx)) ?_)
          (refine Wp.rnD 15 ?_; apply exAb; (((refine x_abn (zc @rmC.eq_1 (zc @acC.eq_1 @hx)) ?_); (apply Abn.pureP; (exact x_ev (zc @rmC.eq_1 (zc @acC.eq_1 @hx))); (exact (Enters.of Tryz.func86 rfl rfl)); (exact c10k); (exact x_al (zc @rmC.eq_1 (zc @acC.eq_1 @hx))); (try dsimp only [putA, optG])); (refine x_abn (zc @rmC.eq_1 (zc @acC.eq_1 @hx)) ?_)); exact Abn.nil))
          (refine x_go (zc @rmC.eq_1 (zc @acC.eq_1 @hx)) ?_)
          (apply Wp.cond; (exact x_ev (zc @rmC.eq_1 (zc @acC.eq_1 @hx))))
          ·intro h3
           obtain rfl : b10 = false := by simpa using h3
           (refine x_go (zc @rmC.eq_1 (zc @acC.eq_1 @hx)) ?_)
           (first | exact x_ret (zc @rmC.eq_1 (zc @acC.eq_1 @hx)) | refine x_retZ (zc @rmC.eq_1 (zc @acC.eq_1 @hx)) ?_)
           rw [range_no hc (by rw [← hqk]; rfl)]
          ·intro h3
           obtain rfl : b10 = true := by simpa using h3
           (refine x_go (zc @rmC.eq_1 (zc @acC.eq_1 @hx)) ?_)
           refine Wp.loop (fun j : Nat => { t := [(1, .int i), (2, .ref (rmC r) 0), (5, .ref (acC a) 0), (9, .int k), (10, .int j)], m := [⟨1, .row 8 []⟩, ⟨1, .row 8 []⟩], n := 145 }) (fun j => j ≤ k ∧ ∀ n, n < j → decide ((a.se.getD n se0).th = x.th) = false) (fun j => k - j) 0 ?_ ?_ ?_
           ·(refine Le.of ?_ ?_ rfl rfl <;> (try simp only [push_cast, seval, rmC, acC, hx]) <;> (try (with_reducible rfl)))
            all_goals (first | exact ⟨rfl, rfl⟩ | rfl)
           ·simp
           ·rintro j ⟨hj1, hj2⟩
            (refine x_go (zc @rmC.eq_1 @acC.eq_1) ?_)
            (apply Wp.cond; (exact x_ev (zc @rmC.eq_1 @acC.eq_1)))
            ·intro hcj
             have hcj : j < k := by simp only [decide_eq_true_eq] at hcj; omega
             generalize hy : a.se.getD j se0 = y
             (refine x_go (zc @rmC.eq_1 (zc @acC.eq_1 (zc @hx @hy))) ?_)
             (refine Wp.rnD 13 ?_; apply exAb; (((refine x_abn (zc @rmC.eq_1 (zc @acC.eq_1 (zc @hx @hy))) ?_)); exact Abn.nil))
             (refine x_go (zc @rmC.eq_1 (zc @acC.eq_1 (zc @hx @hy))) ?_)
             (apply Wp.cond; (exact x_ev (zc @rmC.eq_1 (zc @acC.eq_1 (zc @hx @hy)))))
             ·intro h4
              (refine x_go (zc @rmC.eq_1 (zc @acC.eq_1 (zc @hx @hy))) ?_)
              (first | exact x_ret (zc @rmC.eq_1 (zc @acC.eq_1 (zc @hx @hy))) | refine x_retZ (zc @rmC.eq_1 (zc @acC.eq_1 (zc @hx @hy))) ?_)
              rw [range_no hc (by
               rw [← hqk, any_take_bad (d := se0) (p := fun z => decide (z.th = x.th)) (k := j) hcj (by omega) (by rw [hy]; exact h4)]
               rfl)]
             ·intro h4
              (refine x_go (zc @rmC.eq_1 (zc @acC.eq_1 (zc @hx @hy))) ?_)
              refine ⟨j + 1, ?_, ⟨by omega, fun n hn => ?_⟩, by omega⟩
              ·(refine Le.of ?_ ?_ rfl rfl <;> (try simp only [push_cast, seval, rmC, acC, hx, hy]) <;> (try (with_reducible rfl)))
              ·by_cases hnj : n = j
               ·subst hnj; rw [hy]; exact h4
               ·exact hj2 n (by omega)
            ·intro hcj
             obtain rfl : j = k := by simp only [decide_eq_false_iff_not] at hcj; omega
             (refine x_go (zc @rmC.eq_1 @acC.eq_1) ?_)
             refine ⟨j + 1, ?_, ⟨by omega, fun n hn => ?_⟩, by omega⟩
             ·(refine Le.of ?_ ?_ rfl rfl <;> (try simp only [push_cast, seval, rmC, acC]) <;> (try (with_reducible rfl)))
             ·by_cases hnj : n = j
              ·subst hnj
               rw [← hqk, any_take_no (d := se0) (p := fun z => decide (z.th = x.th)) hj2]
               rfl
              ·exact hk6 n (by omega)
         ·(intro hc; first | replace hc := bT hc | skip)
          obtain rfl : k = a.se.length := by omega
          (refine x_go (zc @rmC.eq_1 @acC.eq_1) ?_)
          (first | exact x_ret (zc @rmC.eq_1 @acC.eq_1) | refine x_retZ (zc @rmC.eq_1 @acC.eq_1) ?_)
          rw [range_all hk6]
end Go.Proofs.Tryz
