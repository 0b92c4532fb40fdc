/- A part of the proof of ResetOrders: contracts of functions, with plain laws that they need. -/
import Derived.Test.YtjhljokghikamaaGreatDoorVgR8J
set_option linter.all false
set_option maxHeartbeats 16000000
namespace Go.Proofs.Tryz
open Go.Vg
theorem take_snocD {α : Type} (d : α) {l : List α} {k : Nat} (h : k < l.length) : l.take (k + 1) = l.take k ++ [l.getD k d] := by
 rw [List.take_succ, List.getElem?_eq_getElem h]
 simp [h]
theorem names_step {α : Type} (f : α → ByteArray) (d : α) {l : List α} {k : Nat} (h : k < l.length) : (l.take (k + 1)).map f = (l.take k).map f ++ [f (l.getD k d)] := by
 rw [take_snocD d h, List.map_append]; rfl
theorem twiceN {α : Type} (f : α → ByteArray) (d : α) {l : List α} {k : Nat} (h : k < l.length) (hl : l.length ≤ 50) {x : α} (hx : l.getD k d = x) {L : List ByteArray} (hL : (l.take k).map f = L) : Pure Tryz.prog 81 [.strs (L ++ [f x]), .int k] (.bool ((l.take k).any (fun y => decide (f y = f x)))) := by
 have hlen : L.length = k := by rw [← hL, List.length_map, List.length_take]; omega
 have h1 := twice_pure (L ++ [f x]) k (by rw [List.length_append, hlen]; simp) (by rw [List.length_append, hlen]; simp; omega)
 have e1 : (L ++ [f x]).take k = L := by rw [← hlen]; simp
 have e2 : (L ++ [f x]).getD k .empty = f x := by rw [← hlen]; simp
 rw [e1, e2, show L.any (fun y => decide (y = f x)) = (l.take k).any (fun y => decide (f y = f x)) from by rw [← hL, List.any_map]; rfl] at h1
 exact h1
theorem rcheck_pure {r : Rm} (hz : Sz r) : Pure Tryz.prog 44 [rmA r] (.int (chE r)) := by
 have z1 := hz.ps
 have z2 := hz.ts
 have z3 := hz.pp
 have z4 := hz.wy
 have z5 := hz.ac
 have z6 := hz.au
 have z7 := hz.gl
 have cpl := fun (n : Int) => rplace_pure (r := r) (by omega) n
 have hE : chE r = if bigB r then 2 else orE (pmE r) (orE (if r.ps = [] then 22 else 0) (orE (tmE r) (orE (ppE r) (orE (wyE r) (orE (acE r) (orE (auE r) (orE (if wi r.n 1 4 then 0 else 1) (if cdB r.ts r.goal then 0 else 25)))))))) := rfl
 unfold bigB at hE
 rw [hE]
 unfold rmA rmC
 unfold rmA rmC at cpl
 (refine Spec.bd 0 Tryz.func44 Tryz.results44 Tryz.ntmps44 ?_; simp only [entry, zipArgs, Nat.reduceAdd])
 ((refine x_pre @rmC.eq_1 ?_); (iterate 2 (refine x_nr @rmC.eq_1 ?_)); (refine x_nil @rmC.eq_1 ?_))
 (refine x_fzP @rmC.eq_1 (slq 1) ?_)
 (refine x_go @rmC.eq_1 ?_)
 (apply Wp.cond; (exact x_ev @rmC.eq_1))
 ·intro h
  rw [if_pos h]
  (refine x_go @rmC.eq_1 ?_)
  (first | exact x_ret @rmC.eq_1 | refine x_retZ @rmC.eq_1 ?_)
 ·intro h
  rw [if_neg (by rw [h]; simp)]
  (refine x_go @rmC.eq_1 ?_)
  (apply Wp.cond; (exact x_ev @rmC.eq_1))
  ·(intro hc; first | replace hc := bT hc | skip)
   have h0 : r.ps = [] := List.length_eq_zero_iff.1 (by omega)
   rw [show pmE r = 0 from by unfold pmE; rw [h0]; rfl, orE_ok rfl, orE_no (by rw [if_pos h0]; decide), if_pos h0]
   (refine x_go @rmC.eq_1 ?_)
   (first | exact x_ret @rmC.eq_1 | refine x_retZ @rmC.eq_1 ?_)
  ·(intro hc; first | replace hc := bT hc | skip)
   have h0 : r.ps ≠ [] := fun h' => hc (by rw [h']; rfl)
   rw [if_neg h0, orE_ok (a := 0) rfl]
   (refine x_go @rmC.eq_1 ?_)
   refine Wp.loop (fun k : Nat => { t := [(1, .ref (rmC r) 0), (3, .int k)], m := [⟨1, .row 8 []⟩], n := 260 }) (fun k => k ≤ r.ps.length ∧ ∀ j, j < k → pmF r j = 0) (fun k => r.ps.length - k) 0 ?_ ?_ ?_
   ·(refine Le.of ?_ ?_ rfl rfl <;> (try simp only [push_cast, seval, rmC]) <;> (try (with_reducible rfl)))
    all_goals (first | exact ⟨rfl, rfl⟩ | rfl)
   ·simp
   ·rintro k ⟨hk1, hk2⟩
    (refine x_gs @rmC.eq_1 ?_)
    (apply Wp.cond; (exact x_ev @rmC.eq_1))
    ·(intro hc; first | replace hc := bT hc | skip)
     have hqk : pmF r k = if newB r.ps k then 0 else 22 := rfl
     generalize hx : r.ps.getD k .empty = x
     have hxm : x.size ≤ 100 := by rw [← hx]; exact hz.psn _ (memPs hc)
     have c1 := Named_pure x hxm
     have c2 := twice_pure r.ps k hc (by omega)
     rw [hx] at c2
     rw [newB_ps hx] at hqk
     generalize nmdB x = b1 at c1 hqk
     generalize (r.ps.take k).any (fun y => decide (y = x)) = b2 at c2 hqk
     (refine x_gs (zc @rmC.eq_1 @hx) ?_)
     (apply Run.pureP; (exact x_ev (zc @rmC.eq_1 @hx)); (exact (Enters.of Tryz.func80 rfl rfl)); (exact c1); (exact x_al (zc @rmC.eq_1 @hx)); (try dsimp only [putA, optG]))
     (refine x_go (zc @rmC.eq_1 @hx) ?_)
     (apply Run.pureP; (exact x_ev (zc @rmC.eq_1 @hx)); (exact (Enters.of Tryz.func81 rfl rfl)); (exact c2); (exact x_al (zc @rmC.eq_1 @hx)); (try dsimp only [putA, optG]))
     (refine x_go (zc @rmC.eq_1 @hx) ?_)
     have hbv : ∀ y : Bool, ((!b1 || b2)) = y → (b1 && !b2) = !y := by
      intro y hy
      rw [← hy]
      cases b1 <;> cases b2 <;> simp
     (apply Wp.cond; (exact x_ev (zc @rmC.eq_1 @hx)))
     ·intro h
      (refine x_go (zc @rmC.eq_1 @hx) ?_)
      (first | exact x_ret (zc @rmC.eq_1 @hx) | refine x_retZ (zc @rmC.eq_1 @hx) ?_)
      have h1 := hbv _ h
      simp only [Bool.not_true] at h1
      rw [h1] at hqk
      rw [orE_no (by rw [pmE, fE_at _ _ _ k (by omega) (by omega) (fun j _ hj => hk2 j hj) (by rw [hqk]; simp), hqk]; simp)]
      rw [pmE, fE_at _ _ _ k (by omega) (by omega) (fun j _ hj => hk2 j hj) (by rw [hqk]; simp), hqk]
      rfl
     ·intro h
      have h1 := hbv _ h
      simp only [Bool.not_false] at h1
      rw [h1] at hqk
      (refine x_go (zc @rmC.eq_1 @hx) ?_)
      refine ⟨k + 1, ?_, ⟨by omega, fun j hj => ?_⟩, by omega⟩
      ·(refine Le.of ?_ ?_ rfl rfl <;> (try simp only [push_cast, seval, rmC, hx]) <;> (try (with_reducible rfl)))
      ·by_cases hjk : j = k
       ·subst hjk; rw [hqk]; rfl
       ·exact hk2 j (by omega)
    ·(intro hc; first | replace hc := bT hc | skip)
     obtain rfl : k = r.ps.length := by omega
     rw [orE_ok (a := pmE r) (fE_none _ _ _ fun j _ hj => hk2 j (by omega))]
     clear hk1
     (refine x_go @rmC.eq_1 ?_)
     apply Wp.adopt 4 1; (exact x_ev @rmC.eq_1)
     dsimp only [List.length_cons, List.length_nil, Nat.reduceAdd, List.cons_append, List.nil_append]
     (refine Wp.vacs 1 ?_; (try simp only [List.replicate_succ, List.replicate_zero, List.cons_append, List.nil_append]))
     refine Wp.loop (fun (q : Nat × Nat × Kind) => { t := [(1, .ref (rmC r) 0), (4, .osl 1 q.1 0 q.1), (5, .int q.1)], m := [⟨1, .row 8 []⟩, ⟨q.1, .row 1 (((r.ts.take q.1).map Th.nm).map AV.str)⟩, ⟨q.2.1, q.2.2⟩], n := 260 }) (fun q => q.1 ≤ r.ts.length ∧ ∀ j, j < q.1 → tmF r j = 0) (fun q => r.ts.length - q.1) (0, 0, .row 1 []) ?_ ?_ ?_
     ·(refine Le.of ?_ ?_ rfl rfl <;> (try simp only [push_cast, seval, rmC]) <;> (try (with_reducible rfl)))
      all_goals (first | exact ⟨rfl, rfl⟩ | rfl)
     ·simp
     ·rintro ⟨k, vts, kdts⟩ ⟨hk1, hk2⟩
      simp only at hk1 hk2
      (refine x_gs @rmC.eq_1 ?_)
      (apply Wp.cond; (exact x_ev @rmC.eq_1))
      ·(intro hc; first | replace hc := bT hc | skip)
       have hqk : tmF r k = if tmB r k (r.ts.getD k th0) then 0 else 21 := rfl
       unfold tmB at hqk
       rw [newB_map Th.nm r.ts th0 hc] at hqk
       have hst := names_step Th.nm th0 hc
       have c2 := fun (x : Th) (hx : r.ts.getD k th0 = x) (L : List ByteArray) (hL : (r.ts.take k).map Th.nm = L) => twiceN Th.nm th0 hc (by omega) hx hL
       generalize hL : (r.ts.take k).map Th.nm = L at hst
       have hLl : L.length = k := by rw [← hL, List.length_map, List.length_take]; omega
       generalize hx : r.ts.getD k th0 = x at hqk hst
       have c2 := c2 x hx L hL
       have hxm : x.nm.size ≤ 100 := by rw [← hx]; exact hz.tsn _ (memTh hc)
       have c1 := Named_pure x.nm hxm
       have c3 := cpl x.pl
       generalize nmdB x.nm = b1 at c1 hqk
       generalize (r.ts.take k).any (fun y => decide (y.nm = x.nm)) = b2 at c2 hqk
       generalize wi x.pl 0 ((r.ps.length : Int) - 1) = b3 at c3 hqk
       have hLm : L.take k = L := List.take_of_length_le (by omega)
       have hLa : (L ++ [x.nm]).length = k + 1 := by rw [List.length_append, hLl]; rfl
       have hLt : (L ++ [x.nm]).take (k + 1) = L ++ [x.nm] := List.take_of_length_le (by omega)
       (refine x_gs (zc @rmC.eq_1 (zc @hx (zc @hLm (zc @hLl (zc @hLa (zc @hLt @Nat.le_refl)))))) ?_)
       (apply Run.alcAt 2; (exact x_ev (zc @rmC.eq_1 (zc @hx (zc @hLm (zc @hLl (zc @hLa (zc @hLt @Nat.le_refl))))))); ((try simp only [push_cast, seval, rmC, hx, hLm, hLl, hLa, hLt, Nat.le_refl]) <;> exact sT); exact rfl; (try simp only [push_cast, seval, rmC, hx, hLm, hLl, hLa, hLt, Nat.le_refl]))
       (refine x_go (zc @rmC.eq_1 (zc @hx (zc @hLm (zc @hLl (zc @hLa (zc @hLt @Nat.le_refl)))))) ?_)
       (apply Run.pureP; (exact x_ev (zc @rmC.eq_1 (zc @hx (zc @hLm (zc @hLl (zc @hLa (zc @hLt @Nat.le_refl))))))); (exact (Enters.of Tryz.func80 rfl rfl)); (exact c1); (exact x_al (zc @rmC.eq_1 (zc @hx (zc @hLm (zc @hLl (zc @hLa (zc @hLt @Nat.le_refl))))))); (try dsimp only [putA, optG]))
       (refine x_go (zc @rmC.eq_1 (zc @hx (zc @hLm (zc @hLl (zc @hLa (zc @hLt @Nat.le_refl)))))) ?_)
       (apply Run.pureP; (exact x_ev (zc @rmC.eq_1 (zc @hx (zc @hLm (zc @hLl (zc @hLa (zc @hLt @Nat.le_refl))))))); (exact (Enters.of Tryz.func81 rfl rfl)); (exact c2); (exact x_al (zc @rmC.eq_1 (zc @hx (zc @hLm (zc @hLl (zc @hLa (zc @hLt @Nat.le_refl))))))); (try dsimp only [putA, optG]))
       (refine x_go (zc @rmC.eq_1 (zc @hx (zc @hLm (zc @hLl (zc @hLa (zc @hLt @Nat.le_refl)))))) ?_)
       (apply Run.pureP; (exact x_ev (zc @rmC.eq_1 (zc @hx (zc @hLm (zc @hLl (zc @hLa (zc @hLt @Nat.le_refl))))))); (exact (Enters.of Tryz.func82 rfl rfl)); (exact c3); (exact x_al (zc @rmC.eq_1 (zc @hx (zc @hLm (zc @hLl (zc @hLa (zc @hLt @Nat.le_refl))))))); (try dsimp only [putA, optG]))
       (refine x_go (zc @rmC.eq_1 (zc @hx (zc @hLm (zc @hLl (zc @hLa (zc @hLt @Nat.le_refl)))))) ?_)
       (apply Run.pureP; (exact x_ev (zc @rmC.eq_1 (zc @hx (zc @hLm (zc @hLl (zc @hLa (zc @hLt @Nat.le_refl))))))); (exact (Enters.of Tryz.func83 rfl rfl)); (exact from_pure _ _ _); (exact x_al (zc @rmC.eq_1 (zc @hx (zc @hLm (zc @hLl (zc @hLa (zc @hLt @Nat.le_refl))))))); (try dsimp only [putA, optG]))
       (refine x_go (zc @rmC.eq_1 (zc @hx (zc @hLm (zc @hLl (zc @hLa (zc @hLt @Nat.le_refl)))))) ?_)
       (apply Run.pureP; (exact x_ev (zc @rmC.eq_1 (zc @hx (zc @hLm (zc @hLl (zc @hLa (zc @hLt @Nat.le_refl))))))); (exact (Enters.of Tryz.func83 rfl rfl)); (exact from_pure _ _ _); (exact x_al (zc @rmC.eq_1 (zc @hx (zc @hLm (zc @hLl (zc @hLa (zc @hLt @Nat.le_refl))))))); (try dsimp only [putA, optG]))
       (refine x_go (zc @rmC.eq_1 (zc @hx (zc @hLm (zc @hLl (zc @hLa (zc @hLt @Nat.le_refl)))))) ?_)
       have hwr : wi x.ss 2 6 = true → (IntKind.i64.wrap (x.ss - 1)) = x.ss - 1 := fun hs => by
        have := wi_iff.1 hs
        simp (disch := omega) only [wI]
       have hbv : ∀ y : Bool, ((((!b1 || b2) || !b3) || !wi x.ss 2 6) || !wi x.st 0 (IntKind.i64.wrap (x.ss - 1))) = y → (b1 && !b2 && b3 && wi x.ss 2 6 && wi x.st 0 (x.ss - 1)) = !y := by
        intro y hy
        cases hs : wi x.ss 2 6 with
        | false => rw [hs] at hy; rw [← hy]; cases b1 <;> cases b2 <;> cases b3 <;> simp
        | true => rw [hs, hwr hs] at hy; rw [← hy]; cases b1 <;> cases b2 <;> cases b3 <;> simp
       (apply Wp.cond; (exact x_ev (zc @rmC.eq_1 (zc @hx (zc @hLm (zc @hLl (zc @hLa (zc @hLt @Nat.le_refl))))))))
       ·intro h
        (refine x_go (zc @rmC.eq_1 (zc @hx (zc @hLm (zc @hLl (zc @hLa (zc @hLt @Nat.le_refl)))))) ?_)
        (first | exact x_ret (zc @rmC.eq_1 (zc @hx (zc @hLm (zc @hLl (zc @hLa (zc @hLt @Nat.le_refl)))))) | refine x_retZ (zc @rmC.eq_1 (zc @hx (zc @hLm (zc @hLl (zc @hLa (zc @hLt @Nat.le_refl)))))) ?_)
        have h1 := hbv _ h
        simp only [Bool.not_true] at h1
        rw [h1] at hqk
        rw [orE_no (by rw [tmE, fE_at _ _ _ k (by omega) (by omega) (fun j _ hj => hk2 j hj) (by rw [hqk]; simp), hqk]; simp)]
        rw [tmE, fE_at _ _ _ k (by omega) (by omega) (fun j _ hj => hk2 j hj) (by rw [hqk]; simp), hqk]
        rfl
       ·intro h
        have h1 := hbv _ h
        simp only [Bool.not_false] at h1
        rw [h1] at hqk
        (refine x_go (zc @rmC.eq_1 (zc @hx (zc @hLm (zc @hLl (zc @hLa (zc @hLt @Nat.le_refl)))))) ?_)
        refine ⟨(k + 1, vts + 1, .row 4 [thA x]), ?_, ⟨by simp only; omega, fun j hj => ?_⟩, by simp only; omega⟩
        ·simp only [hst]; (refine Le.of ?_ ?_ rfl rfl <;> (try simp only [push_cast, seval, rmC, hx, hLm, hLl, hLa, hLt, Nat.le_refl]) <;> (try (with_reducible rfl)))
        ·simp only at hj
         by_cases hjk : j = k
         ·subst hjk; rw [hqk]; rfl
         ·exact hk2 j (by omega)
      ·(intro hc; first | replace hc := bT hc | skip)
       obtain rfl : k = r.ts.length := by omega
       rw [orE_ok (a := tmE r) (fE_none _ _ _ fun j _ hj => hk2 j (by omega))]
       clear hk1
       (refine x_go @rmC.eq_1 ?_)
       have hts := TsOk_of hk2
       apply Wp.adopt 4 1; (exact x_ev @rmC.eq_1)
       dsimp only [List.length_cons, List.length_nil, Nat.reduceAdd, List.cons_append, List.nil_append]
       (refine Wp.vacs 1 ?_; (try simp only [List.replicate_succ, List.replicate_zero, List.cons_append, List.nil_append]))
       refine Wp.loop (fun (q : Nat × Nat × Kind) => { t := [(1, .ref (rmC r) 0), (4, .osl 3 q.1 0 q.1), (7, .int q.1)], m := [⟨1, .row 8 []⟩, ⟨r.ts.length, .row 1 (((r.ts.take r.ts.length).map Th.nm).map AV.str)⟩, ⟨vts, kdts⟩, ⟨q.1, .row 1 (((r.pp.take q.1).map Pp.nm).map AV.str)⟩, ⟨q.2.1, q.2.2⟩], n := 260 }) (fun q => q.1 ≤ r.pp.length ∧ ∀ j, j < q.1 → ppF r j = 0) (fun q => r.pp.length - q.1) (0, 0, .row 1 []) ?_ ?_ ?_
       ·(refine Le.of ?_ ?_ rfl rfl <;> (try simp only [push_cast, seval, rmC]) <;> (try (with_reducible rfl)))
        all_goals (first | exact ⟨rfl, rfl⟩ | rfl)
       ·simp
       ·rintro ⟨k, vpp, kdpp⟩ ⟨hk1, hk2⟩
        simp only at hk1 hk2
        (refine x_gs @rmC.eq_1 ?_)
        (apply Wp.cond; (exact x_ev @rmC.eq_1))
        ·(intro hc; first | replace hc := bT hc | skip)
         have hqk : ppF r k = if ppB r k (r.pp.getD k pp0) then if cdB r.ts (r.pp.getD k pp0).wh then 0 else 25 else 24 := rfl
         unfold ppB at hqk
         rw [newB_map Pp.nm r.pp pp0 hc] at hqk
         have hst := names_step Pp.nm pp0 hc
         have c2 := fun (x : Pp) (hx : r.pp.getD k pp0 = x) (L : List ByteArray) (hL : (r.pp.take k).map Pp.nm = L) => twiceN Pp.nm pp0 hc (by omega) hx hL
         generalize hL : (r.pp.take k).map Pp.nm = L at hst
         have hLl : L.length = k := by rw [← hL, List.length_map, List.length_take]; omega
         generalize hx : r.pp.getD k pp0 = x at hqk hst
         have c2 := c2 x hx L hL
         have hxm : x.nm.size ≤ 100 ∧ x.wh.length ≤ 20 := by rw [← hx]; exact hz.ppn _ (memPp hc)
         have c1 := Named_pure x.nm hxm.1
         have c3 := cpl x.pl
         have c5 := Conded_pure (by omega) hts x.wh (by omega)
         unfold rmA rmC at c5
         generalize nmdB x.nm = b1 at c1 hqk
         generalize (r.pp.take k).any (fun y => decide (y.nm = x.nm)) = b2 at c2 hqk
         generalize wi x.pl 0 ((r.ps.length : Int) - 1) = b3 at c3 hqk
         generalize cdB r.ts x.wh = b5 at c5 hqk
         have hLm : L.take k = L := List.take_of_length_le (by omega)
         have hLa : (L ++ [x.nm]).length = k + 1 := by rw [List.length_append, hLl]; rfl
         have hLt : (L ++ [x.nm]).take (k + 1) = L ++ [x.nm] := List.take_of_length_le (by omega)
         (refine x_gs (zc @rmC.eq_1 (zc @hx (zc (fun d => getD_pp (d := d) hc) (zc @ppA.eq_1 (zc @hLm (zc @hLl (zc @hLa (zc @hLt @Nat.le_refl)))))))) ?_)
         (apply Run.alcAt 4; (exact x_ev (zc @rmC.eq_1 (zc @hx (zc (fun d => getD_pp (d := d) hc) (zc @ppA.eq_1 (zc @hLm (zc @hLl (zc @hLa (zc @hLt @Nat.le_refl))))))))); ((try simp only [push_cast, seval, rmC, hx, getD_pp hc, ppA, hLm, hLl, hLa, hLt, Nat.le_refl]) <;> exact sT); exact rfl; (try simp only [push_cast, seval, rmC, hx, getD_pp hc, ppA, hLm, hLl, hLa, hLt, Nat.le_refl]))
         (refine x_go (zc @rmC.eq_1 (zc @hx (zc (fun d => getD_pp (d := d) hc) (zc @ppA.eq_1 (zc @hLm (zc @hLl (zc @hLa (zc @hLt @Nat.le_refl)))))))) ?_)
         (apply Run.pureP; (exact x_ev (zc @rmC.eq_1 (zc @hx (zc (fun d => getD_pp (d := d) hc) (zc @ppA.eq_1 (zc @hLm (zc @hLl (zc @hLa (zc @hLt @Nat.le_refl))))))))); (exact (Enters.of Tryz.func80 rfl rfl)); (exact c1); (exact x_al (zc @rmC.eq_1 (zc @hx (zc (fun d => getD_pp (d := d) hc) (zc @ppA.eq_1 (zc @hLm (zc @hLl (zc @hLa (zc @hLt @Nat.le_refl))))))))); (try dsimp only [putA, optG]))
         (refine x_go (zc @rmC.eq_1 (zc @hx (zc (fun d => getD_pp (d := d) hc) (zc @ppA.eq_1 (zc @hLm (zc @hLl (zc @hLa (zc @hLt @Nat.le_refl)))))))) ?_)
         (apply Run.pureP; (exact x_ev (zc @rmC.eq_1 (zc @hx (zc (fun d => getD_pp (d := d) hc) (zc @ppA.eq_1 (zc @hLm (zc @hLl (zc @hLa (zc @hLt @Nat.le_refl))))))))); (exact (Enters.of Tryz.func81 rfl rfl)); (exact c2); (exact x_al (zc @rmC.eq_1 (zc @hx (zc (fun d => getD_pp (d := d) hc) (zc @ppA.eq_1 (zc @hLm (zc @hLl (zc @hLa (zc @hLt @Nat.le_refl))))))))); (try dsimp only [putA, optG]))
         (refine x_go (zc @rmC.eq_1 (zc @hx (zc (fun d => getD_pp (d := d) hc) (zc @ppA.eq_1 (zc @hLm (zc @hLl (zc @hLa (zc @hLt @Nat.le_refl)))))))) ?_)
         (apply Run.pureP; (exact x_ev (zc @rmC.eq_1 (zc @hx (zc (fun d => getD_pp (d := d) hc) (zc @ppA.eq_1 (zc @hLm (zc @hLl (zc @hLa (zc @hLt @Nat.le_refl))))))))); (exact (Enters.of Tryz.func82 rfl rfl)); (exact c3); (exact x_al (zc @rmC.eq_1 (zc @hx (zc (fun d => getD_pp (d := d) hc) (zc @ppA.eq_1 (zc @hLm (zc @hLl (zc @hLa (zc @hLt @Nat.le_refl))))))))); (try dsimp only [putA, optG]))
         (refine x_go (zc @rmC.eq_1 (zc @hx (zc (fun d => getD_pp (d := d) hc) (zc @ppA.eq_1 (zc @hLm (zc @hLl (zc @hLa (zc @hLt @Nat.le_refl)))))))) ?_)
         have hbv : ∀ y : Bool, ((!b1 || b2) || (!decide (x.pl = -1) && !b3)) = y → (b1 && !b2 && (b3 || decide (x.pl = -1))) = !y := by
          intro y hy
          rw [← hy]
          cases b1 <;> cases b2 <;> cases b3 <;> simp
         (apply Wp.cond; (exact x_ev (zc @rmC.eq_1 (zc @hx (zc (fun d => getD_pp (d := d) hc) (zc @ppA.eq_1 (zc @hLm (zc @hLl (zc @hLa (zc @hLt @Nat.le_refl))))))))))
         ·intro h
          (refine x_go (zc @rmC.eq_1 (zc @hx (zc (fun d => getD_pp (d := d) hc) (zc @ppA.eq_1 (zc @hLm (zc @hLl (zc @hLa (zc @hLt @Nat.le_refl)))))))) ?_)
          (first | exact x_ret (zc @rmC.eq_1 (zc @hx (zc (fun d => getD_pp (d := d) hc) (zc @ppA.eq_1 (zc @hLm (zc @hLl (zc @hLa (zc @hLt @Nat.le_refl)))))))) | refine x_retZ (zc @rmC.eq_1 (zc @hx (zc (fun d => getD_pp (d := d) hc) (zc @ppA.eq_1 (zc @hLm (zc @hLl (zc @hLa (zc @hLt @Nat.le_refl)))))))) ?_)
          have h1 := hbv _ h
          simp only [Bool.not_true] at h1
          rw [h1] at hqk
          rw [orE_no (by rw [ppE, fE_at _ _ _ k (by omega) (by omega) (fun j _ hj => hk2 j hj) (by rw [hqk]; simp), hqk]; simp)]
          rw [ppE, fE_at _ _ _ k (by omega) (by omega) (fun j _ hj => hk2 j hj) (by rw [hqk]; simp), hqk]
          rfl
         ·intro h
          have h1 := hbv _ h
          simp only [Bool.not_false] at h1
          rw [h1] at hqk
          (refine x_go (zc @rmC.eq_1 (zc @hx (zc (fun d => getD_pp (d := d) hc) (zc @ppA.eq_1 (zc @hLm (zc @hLl (zc @hLa (zc @hLt @Nat.le_refl)))))))) ?_)
          (apply Run.pureP; (exact x_ev (zc @rmC.eq_1 (zc @hx (zc (fun d => getD_pp (d := d) hc) (zc @ppA.eq_1 (zc @hLm (zc @hLl (zc @hLa (zc @hLt @Nat.le_refl))))))))); (exact (Enters.of Tryz.func84 rfl rfl)); (exact c5); (exact x_al (zc @rmC.eq_1 (zc @hx (zc (fun d => getD_pp (d := d) hc) (zc @ppA.eq_1 (zc @hLm (zc @hLl (zc @hLa (zc @hLt @Nat.le_refl))))))))); (try dsimp only [putA, optG]))
          (refine x_go (zc @rmC.eq_1 (zc @hx (zc (fun d => getD_pp (d := d) hc) (zc @ppA.eq_1 (zc @hLm (zc @hLl (zc @hLa (zc @hLt @Nat.le_refl)))))))) ?_)
          (apply Wp.cond; (exact x_ev (zc @rmC.eq_1 (zc @hx (zc (fun d => getD_pp (d := d) hc) (zc @ppA.eq_1 (zc @hLm (zc @hLl (zc @hLa (zc @hLt @Nat.le_refl))))))))))
          ·intro h5
           (refine x_go (zc @rmC.eq_1 (zc @hx (zc (fun d => getD_pp (d := d) hc) (zc @ppA.eq_1 (zc @hLm (zc @hLl (zc @hLa (zc @hLt @Nat.le_refl)))))))) ?_)
           (first | exact x_ret (zc @rmC.eq_1 (zc @hx (zc (fun d => getD_pp (d := d) hc) (zc @ppA.eq_1 (zc @hLm (zc @hLl (zc @hLa (zc @hLt @Nat.le_refl)))))))) | refine x_retZ (zc @rmC.eq_1 (zc @hx (zc (fun d => getD_pp (d := d) hc) (zc @ppA.eq_1 (zc @hLm (zc @hLl (zc @hLa (zc @hLt @Nat.le_refl)))))))) ?_)
           have h6 : b5 = false := by simpa using h5
           rw [h6] at hqk
           rw [orE_no (by rw [ppE, fE_at _ _ _ k (by omega) (by omega) (fun j _ hj => hk2 j hj) (by rw [hqk]; simp), hqk]; simp)]
           rw [ppE, fE_at _ _ _ k (by omega) (by omega) (fun j _ hj => hk2 j hj) (by rw [hqk]; simp), hqk]
           rfl
          ·intro h5
           have h6 : b5 = true := by simpa using h5
           rw [h6] at hqk
           (refine x_go (zc @rmC.eq_1 (zc @hx (zc (fun d => getD_pp (d := d) hc) (zc @ppA.eq_1 (zc @hLm (zc @hLl (zc @hLa (zc @hLt @Nat.le_refl)))))))) ?_)
           refine ⟨(k + 1, vpp + 1, .row 3 [ppA x]), ?_, ⟨by simp only; omega, fun j hj => ?_⟩, by simp only; omega⟩
           ·simp only [hst]; (refine Le.of ?_ ?_ rfl rfl <;> (try simp only [push_cast, seval, rmC, hx, getD_pp hc, ppA, hLm, hLl, hLa, hLt, Nat.le_refl]) <;> (try (with_reducible rfl)))
           ·simp only at hj
            by_cases hjk : j = k
            ·subst hjk; rw [hqk]; rfl
            ·exact hk2 j (by omega)
        ·(intro hc; first | replace hc := bT hc | skip)
         obtain rfl : k = r.pp.length := by omega
         rw [orE_ok (a := ppE r) (fE_none _ _ _ fun j _ hj => hk2 j (by omega))]
         clear hk1
         (refine x_go @rmC.eq_1 ?_)
         (refine Wp.vacs 1 ?_; (try simp only [List.replicate_succ, List.replicate_zero, List.cons_append, List.nil_append]))
         refine Wp.loop (fun (q : Nat × Nat × Kind) => { t := [(1, .ref (rmC r) 0), (9, .int q.1)], m := [⟨1, .row 8 []⟩, ⟨r.ts.length, .row 1 (((r.ts.take r.ts.length).map Th.nm).map AV.str)⟩, ⟨vts, kdts⟩, ⟨r.pp.length, .row 1 (((r.pp.take r.pp.length).map Pp.nm).map AV.str)⟩, ⟨vpp, kdpp⟩, ⟨q.2.1, q.2.2⟩], n := 260 }) (fun q => q.1 ≤ r.wy.length ∧ ∀ j, j < q.1 → wyF r j = 0) (fun q => r.wy.length - q.1) (0, 0, .row 1 []) ?_ ?_ ?_
         ·(refine Le.of ?_ ?_ rfl rfl <;> (try simp only [push_cast, seval, rmC]) <;> (try (with_reducible rfl)))
          all_goals (first | exact ⟨rfl, rfl⟩ | rfl)
         ·simp
         ·rintro ⟨k, vwy, kdwy⟩ ⟨hk1, hk2⟩
          simp only at hk1 hk2
          (refine x_gs @rmC.eq_1 ?_)
          (apply Wp.cond; (exact x_ev @rmC.eq_1))
          ·(intro hc; first | replace hc := bT hc | skip)
           have hqk : wyF r k = if wyB r (r.wy.getD k wy0) then if cdB r.ts (r.wy.getD k wy0).wh then 0 else 25 else 23 := rfl
           unfold wyB at hqk
           generalize hx : r.wy.getD k wy0 = x at hqk
           have hxm : x.wh.length ≤ 20 := by rw [← hx]; exact hz.wyn _ (memWy hc)
           have c1 := cpl x.a
           have c2 := cpl x.b
           have c5 := Conded_pure (by omega) hts x.wh (by omega)
           unfold rmA rmC at c5
           generalize wi x.a 0 ((r.ps.length : Int) - 1) = b1 at c1 hqk
           generalize wi x.b 0 ((r.ps.length : Int) - 1) = b2 at c2 hqk
           generalize cdB r.ts x.wh = b5 at c5 hqk
           (refine x_gs (zc @rmC.eq_1 (zc @hx (zc (fun d => getD_wy (d := d) hc) @wyA.eq_1))) ?_)
           (apply Run.alcAt 5; (exact x_ev (zc @rmC.eq_1 (zc @hx (zc (fun d => getD_wy (d := d) hc) @wyA.eq_1)))); ((try simp only [push_cast, seval, rmC, hx, getD_wy hc, wyA]) <;> exact sT); exact rfl; (try simp only [push_cast, seval, rmC, hx, getD_wy hc, wyA]))
           (refine x_go (zc @rmC.eq_1 (zc @hx (zc (fun d => getD_wy (d := d) hc) @wyA.eq_1))) ?_)
           (apply Run.pureP; (exact x_ev (zc @rmC.eq_1 (zc @hx (zc (fun d => getD_wy (d := d) hc) @wyA.eq_1)))); (exact (Enters.of Tryz.func82 rfl rfl)); (exact c1); (exact x_al (zc @rmC.eq_1 (zc @hx (zc (fun d => getD_wy (d := d) hc) @wyA.eq_1)))); (try dsimp only [putA, optG]))
           (refine x_go (zc @rmC.eq_1 (zc @hx (zc (fun d => getD_wy (d := d) hc) @wyA.eq_1))) ?_)
           (apply Run.pureP; (exact x_ev (zc @rmC.eq_1 (zc @hx (zc (fun d => getD_wy (d := d) hc) @wyA.eq_1)))); (exact (Enters.of Tryz.func82 rfl rfl)); (exact c2); (exact x_al (zc @rmC.eq_1 (zc @hx (zc (fun d => getD_wy (d := d) hc) @wyA.eq_1)))); (try dsimp only [putA, optG]))
           (refine x_go (zc @rmC.eq_1 (zc @hx (zc (fun d => getD_wy (d := d) hc) @wyA.eq_1))) ?_)
           have hbv : ∀ y : Bool, ((!b1 || !b2) || decide (x.a = x.b)) = y → (b1 && b2 && !decide (x.a = x.b)) = !y := by
            intro y hy
            rw [← hy]
            cases b1 <;> cases b2 <;> simp
           (apply Wp.cond; (exact x_ev (zc @rmC.eq_1 (zc @hx (zc (fun d => getD_wy (d := d) hc) @wyA.eq_1)))))
           ·intro h
            (refine x_go (zc @rmC.eq_1 (zc @hx (zc (fun d => getD_wy (d := d) hc) @wyA.eq_1))) ?_)
            (first | exact x_ret (zc @rmC.eq_1 (zc @hx (zc (fun d => getD_wy (d := d) hc) @wyA.eq_1))) | refine x_retZ (zc @rmC.eq_1 (zc @hx (zc (fun d => getD_wy (d := d) hc) @wyA.eq_1))) ?_)
            have h1 := hbv _ h
            simp only [Bool.not_true] at h1
            rw [h1] at hqk
            rw [orE_no (by rw [wyE, fE_at _ _ _ k (by omega) (by omega) (fun j _ hj => hk2 j hj) (by rw [hqk]; simp), hqk]; simp)]
            rw [wyE, fE_at _ _ _ k (by omega) (by omega) (fun j _ hj => hk2 j hj) (by rw [hqk]; simp), hqk]
            rfl
           ·intro h
            have h1 := hbv _ h
            simp only [Bool.not_false] at h1
            rw [h1] at hqk
            (refine x_go (zc @rmC.eq_1 (zc @hx (zc (fun d => getD_wy (d := d) hc) @wyA.eq_1))) ?_)
            (apply Run.pureP; (exact x_ev (zc @rmC.eq_1 (zc @hx (zc (fun d => getD_wy (d := d) hc) @wyA.eq_1)))); (exact (Enters.of Tryz.func84 rfl rfl)); (exact c5); (exact x_al (zc @rmC.eq_1 (zc @hx (zc (fun d => getD_wy (d := d) hc) @wyA.eq_1)))); (try dsimp only [putA, optG]))
            (refine x_go (zc @rmC.eq_1 (zc @hx (zc (fun d => getD_wy (d := d) hc) @wyA.eq_1))) ?_)
            (apply Wp.cond; (exact x_ev (zc @rmC.eq_1 (zc @hx (zc (fun d => getD_wy (d := d) hc) @wyA.eq_1)))))
            ·intro h5
             (refine x_go (zc @rmC.eq_1 (zc @hx (zc (fun d => getD_wy (d := d) hc) @wyA.eq_1))) ?_)
             (first | exact x_ret (zc @rmC.eq_1 (zc @hx (zc (fun d => getD_wy (d := d) hc) @wyA.eq_1))) | refine x_retZ (zc @rmC.eq_1 (zc @hx (zc (fun d => getD_wy (d := d) hc) @wyA.eq_1))) ?_)
             have h6 : b5 = false := by simpa using h5
             rw [h6] at hqk
             rw [orE_no (by rw [wyE, fE_at _ _ _ k (by omega) (by omega) (fun j _ hj => hk2 j hj) (by rw [hqk]; simp), hqk]; simp)]
             rw [wyE, fE_at _ _ _ k (by omega) (by omega) (fun j _ hj => hk2 j hj) (by rw [hqk]; simp), hqk]
             rfl
            ·intro h5
             have h6 : b5 = true := by simpa using h5
             rw [h6] at hqk
             (refine x_go (zc @rmC.eq_1 (zc @hx (zc (fun d => getD_wy (d := d) hc) @wyA.eq_1))) ?_)
             refine ⟨(k + 1, vwy + 1, .row 3 [wyA x]), ?_, ⟨by simp only; omega, fun j hj => ?_⟩, by simp only; omega⟩
             ·(refine Le.of ?_ ?_ rfl rfl <;> (try simp only [push_cast, seval, rmC, hx, getD_wy hc, wyA]) <;> (try (with_reducible rfl)))
             ·simp only at hj
              by_cases hjk : j = k
              ·subst hjk; rw [hqk]; rfl
              ·exact hk2 j (by omega)
          ·(intro hc; first | replace hc := bT hc | skip)
           obtain rfl : k = r.wy.length := by omega
           rw [orE_ok (a := wyE r) (fE_none _ _ _ fun j _ hj => hk2 j (by omega))]
           clear hk1
           (refine x_go @rmC.eq_1 ?_)
           refine Wp.loop (fun k : Nat => { t := [(1, .ref (rmC r) 0), (11, .int k)], m := [⟨1, .row 8 []⟩, ⟨r.ts.length, .row 1 (((r.ts.take r.ts.length).map Th.nm).map AV.str)⟩, ⟨vts, kdts⟩, ⟨r.pp.length, .row 1 (((r.pp.take r.pp.length).map Pp.nm).map AV.str)⟩, ⟨vpp, kdpp⟩, ⟨vwy, kdwy⟩], n := 260 }) (fun k => k ≤ r.ac.length ∧ ∀ j, j < k → acF r j = 0) (fun k => r.ac.length - k) 0 ?_ ?_ ?_
           ·(refine Le.of ?_ ?_ rfl rfl <;> (try simp only [push_cast, seval, rmC]) <;> (try (with_reducible rfl)))
            all_goals (first | exact ⟨rfl, rfl⟩ | rfl)
           ·simp
           ·rintro k ⟨hk1, hk2⟩
            (refine x_gs @rmC.eq_1 ?_)
            (apply Wp.cond; (exact x_ev @rmC.eq_1))
            ·(intro hc; first | replace hc := bT hc | skip)
             have hqk : acF r k = if acB r k (r.ac.getD k ac0) then if cdB r.ts (r.ac.getD k ac0).wh then 0 else 25 else 26 := rfl
             generalize hx : r.ac.getD k ac0 = x at hqk
             have hxm := hz.acn x (by rw [← hx]; exact memAc hc)
             have c1 := ract_pure hz hts k hc x hx
             have c5 := Conded_pure (by omega) hts x.wh (by omega)
             unfold rmA rmC at c1 c5
             generalize acB r k x = b1 at c1 hqk
             generalize cdB r.ts x.wh = b5 at c5 hqk
             (refine x_gs (zc @rmC.eq_1 (zc @hx (zc (fun d => getD_ac (d := d) hc) (zc @acA.eq_1 @acC.eq_1)))) ?_)
             (apply Run.pureP; (exact x_ev (zc @rmC.eq_1 (zc @hx (zc (fun d => getD_ac (d := d) hc) (zc @acA.eq_1 @acC.eq_1))))); (exact (Enters.of Tryz.func85 rfl rfl)); (exact c1); (exact x_al (zc @rmC.eq_1 (zc @hx (zc (fun d => getD_ac (d := d) hc) (zc @acA.eq_1 @acC.eq_1))))); (try dsimp only [putA, optG]))
             (refine x_go (zc @rmC.eq_1 (zc @hx (zc (fun d => getD_ac (d := d) hc) (zc @acA.eq_1 @acC.eq_1)))) ?_)
             (apply Wp.cond; (exact x_ev (zc @rmC.eq_1 (zc @hx (zc (fun d => getD_ac (d := d) hc) (zc @acA.eq_1 @acC.eq_1))))))
             ·intro h
              (refine x_go (zc @rmC.eq_1 (zc @hx (zc (fun d => getD_ac (d := d) hc) (zc @acA.eq_1 @acC.eq_1)))) ?_)
              (first | exact x_ret (zc @rmC.eq_1 (zc @hx (zc (fun d => getD_ac (d := d) hc) (zc @acA.eq_1 @acC.eq_1)))) | refine x_retZ (zc @rmC.eq_1 (zc @hx (zc (fun d => getD_ac (d := d) hc) (zc @acA.eq_1 @acC.eq_1)))) ?_)
              have h1 : b1 = false := by simpa using h
              rw [h1] at hqk
              rw [orE_no (by rw [acE, fE_at _ _ _ k (by omega) (by omega) (fun j _ hj => hk2 j hj) (by rw [hqk]; simp), hqk]; simp)]
              rw [acE, fE_at _ _ _ k (by omega) (by omega) (fun j _ hj => hk2 j hj) (by rw [hqk]; simp), hqk]
              rfl
             ·intro h
              have h1 : b1 = true := by simpa using h
              rw [h1] at hqk
              (refine x_go (zc @rmC.eq_1 (zc @hx (zc (fun d => getD_ac (d := d) hc) (zc @acA.eq_1 @acC.eq_1)))) ?_)
              (refine Wp.rnD 9 ?_; apply exAb; (((refine x_abn (zc @rmC.eq_1 (zc @hx (zc (fun d => getD_ac (d := d) hc) (zc @acA.eq_1 @acC.eq_1)))) ?_); (apply Abn.pureP; (exact x_ev (zc @rmC.eq_1 (zc @hx (zc (fun d => getD_ac (d := d) hc) (zc @acA.eq_1 @acC.eq_1))))); (exact (Enters.of Tryz.func84 rfl rfl)); (exact c5); (exact x_al (zc @rmC.eq_1 (zc @hx (zc (fun d => getD_ac (d := d) hc) (zc @acA.eq_1 @acC.eq_1))))); (try dsimp only [putA, optG])); (refine x_abn (zc @rmC.eq_1 (zc @hx (zc (fun d => getD_ac (d := d) hc) (zc @acA.eq_1 @acC.eq_1)))) ?_)); exact Abn.nil))
              (refine x_go (zc @rmC.eq_1 (zc @hx (zc (fun d => getD_ac (d := d) hc) (zc @acA.eq_1 @acC.eq_1)))) ?_)
              (apply Wp.cond; (exact x_ev (zc @rmC.eq_1 (zc @hx (zc (fun d => getD_ac (d := d) hc) (zc @acA.eq_1 @acC.eq_1))))))
              ·intro h5
               (refine x_go (zc @rmC.eq_1 (zc @hx (zc (fun d => getD_ac (d := d) hc) (zc @acA.eq_1 @acC.eq_1)))) ?_)
               (first | exact x_ret (zc @rmC.eq_1 (zc @hx (zc (fun d => getD_ac (d := d) hc) (zc @acA.eq_1 @acC.eq_1)))) | refine x_retZ (zc @rmC.eq_1 (zc @hx (zc (fun d => getD_ac (d := d) hc) (zc @acA.eq_1 @acC.eq_1)))) ?_)
               have h6 : b5 = false := by simpa using h5
               rw [h6] at hqk
               rw [orE_no (by rw [acE, fE_at _ _ _ k (by omega) (by omega) (fun j _ hj => hk2 j hj) (by rw [hqk]; simp), hqk]; simp)]
               rw [acE, fE_at _ _ _ k (by omega) (by omega) (fun j _ hj => hk2 j hj) (by rw [hqk]; simp), hqk]
               rfl
              ·intro h5
               have h6 : b5 = true := by simpa using h5
               rw [h6] at hqk
               (refine x_go (zc @rmC.eq_1 (zc @hx (zc (fun d => getD_ac (d := d) hc) (zc @acA.eq_1 @acC.eq_1)))) ?_)
               refine ⟨k + 1, ?_, ⟨by omega, fun j hj => ?_⟩, by omega⟩
               ·(refine Le.of ?_ ?_ rfl rfl <;> (try simp only [push_cast, seval, rmC, hx, getD_ac hc, acA, acC]) <;> (try (with_reducible rfl)))
               ·by_cases hjk : j = k
                ·subst hjk; rw [hqk]; rfl
                ·exact hk2 j (by omega)
            ·(intro hc; first | replace hc := bT hc | skip)
             obtain rfl : k = r.ac.length := by omega
             rw [orE_ok (a := acE r) (fE_none _ _ _ fun j _ hj => hk2 j (by omega))]
             clear hk1
             (refine x_go @rmC.eq_1 ?_)
             refine Wp.loop (fun k : Nat => { t := [(1, .ref (rmC r) 0), (12, .int k)], m := [⟨1, .row 8 []⟩, ⟨r.ts.length, .row 1 (((r.ts.take r.ts.length).map Th.nm).map AV.str)⟩, ⟨vts, kdts⟩, ⟨r.pp.length, .row 1 (((r.pp.take r.pp.length).map Pp.nm).map AV.str)⟩, ⟨vpp, kdpp⟩, ⟨vwy, kdwy⟩], n := 260 }) (fun k => k ≤ r.au.length ∧ ∀ j, j < k → auF r j = 0) (fun k => r.au.length - k) 0 ?_ ?_ ?_
             ·(refine Le.of ?_ ?_ rfl rfl <;> (try simp only [push_cast, seval, rmC]) <;> (try (with_reducible rfl)))
              all_goals (first | exact ⟨rfl, rfl⟩ | rfl)
             ·simp
             ·rintro k ⟨hk1, hk2⟩
              (refine x_gs @rmC.eq_1 ?_)
              (apply Wp.cond; (exact x_ev @rmC.eq_1))
              ·(intro hc; first | replace hc := bT hc | skip)
               have hqk : auF r k = if stB r.ts (r.au.getD k au0).th (r.au.getD k au0).st then if cdB r.ts (r.au.getD k au0).wh then 0 else 25 else 27 := rfl
               generalize hx : r.au.getD k au0 = x at hqk
               have hxm : x.wh.length ≤ 20 := by rw [← hx]; exact hz.aun _ (memAu' hc)
               have c1 := set_pure (r := r) (by omega) hts x.th x.st
               have c5 := Conded_pure (by omega) hts x.wh (by omega)
               unfold rmA rmC at c1 c5
               generalize stB r.ts x.th x.st = b1 at c1 hqk
               generalize cdB r.ts x.wh = b5 at c5 hqk
               (refine x_gs (zc @rmC.eq_1 (zc @hx (zc (fun d => getD_au (d := d) hc) @auA.eq_1))) ?_)
               repeat (first | apply Wp.seq | apply Wp.block | (apply Wp.skip; dsimp only [sQ, tQ, bQ]))
               (refine Wp.rnD 17 ?_; apply exAb; (((refine x_abn (zc @rmC.eq_1 (zc @hx (zc (fun d => getD_au (d := d) hc) @auA.eq_1))) ?_); (apply Abn.pureP; (exact x_ev (zc @rmC.eq_1 (zc @hx (zc (fun d => getD_au (d := d) hc) @auA.eq_1)))); (exact (Enters.of Tryz.func86 rfl rfl)); (exact c1); (exact x_al (zc @rmC.eq_1 (zc @hx (zc (fun d => getD_au (d := d) hc) @auA.eq_1)))); (try dsimp only [putA, optG])); (refine x_abn (zc @rmC.eq_1 (zc @hx (zc (fun d => getD_au (d := d) hc) @auA.eq_1))) ?_)); exact Abn.nil))
               (refine x_go (zc @rmC.eq_1 (zc @hx (zc (fun d => getD_au (d := d) hc) @auA.eq_1))) ?_)
               (apply Wp.cond; (exact x_ev (zc @rmC.eq_1 (zc @hx (zc (fun d => getD_au (d := d) hc) @auA.eq_1)))))
               ·intro h
                (refine x_go (zc @rmC.eq_1 (zc @hx (zc (fun d => getD_au (d := d) hc) @auA.eq_1))) ?_)
                (first | exact x_ret (zc @rmC.eq_1 (zc @hx (zc (fun d => getD_au (d := d) hc) @auA.eq_1))) | refine x_retZ (zc @rmC.eq_1 (zc @hx (zc (fun d => getD_au (d := d) hc) @auA.eq_1))) ?_)
                have h1 : b1 = false := by simpa using h
                rw [h1] at hqk
                rw [orE_no (by rw [auE, fE_at _ _ _ k (by omega) (by omega) (fun j _ hj => hk2 j hj) (by rw [hqk]; simp), hqk]; simp)]
                rw [auE, fE_at _ _ _ k (by omega) (by omega) (fun j _ hj => hk2 j hj) (by rw [hqk]; simp), hqk]
                rfl
               ·intro h
                have h1 : b1 = true := by simpa using h
                rw [h1] at hqk
                (refine x_go (zc @rmC.eq_1 (zc @hx (zc (fun d => getD_au (d := d) hc) @auA.eq_1))) ?_)
                (refine Wp.rnD 9 ?_; apply exAb; (((refine x_abn (zc @rmC.eq_1 (zc @hx (zc (fun d => getD_au (d := d) hc) @auA.eq_1))) ?_); (apply Abn.pureP; (exact x_ev (zc @rmC.eq_1 (zc @hx (zc (fun d => getD_au (d := d) hc) @auA.eq_1)))); (exact (Enters.of Tryz.func84 rfl rfl)); (exact c5); (exact x_al (zc @rmC.eq_1 (zc @hx (zc (fun d => getD_au (d := d) hc) @auA.eq_1)))); (try dsimp only [putA, optG])); (refine x_abn (zc @rmC.eq_1 (zc @hx (zc (fun d => getD_au (d := d) hc) @auA.eq_1))) ?_)); exact Abn.nil))
                (refine x_go (zc @rmC.eq_1 (zc @hx (zc (fun d => getD_au (d := d) hc) @auA.eq_1))) ?_)
                (apply Wp.cond; (exact x_ev (zc @rmC.eq_1 (zc @hx (zc (fun d => getD_au (d := d) hc) @auA.eq_1)))))
                ·intro h5
                 (refine x_go (zc @rmC.eq_1 (zc @hx (zc (fun d => getD_au (d := d) hc) @auA.eq_1))) ?_)
                 (first | exact x_ret (zc @rmC.eq_1 (zc @hx (zc (fun d => getD_au (d := d) hc) @auA.eq_1))) | refine x_retZ (zc @rmC.eq_1 (zc @hx (zc (fun d => getD_au (d := d) hc) @auA.eq_1))) ?_)
                 have h6 : b5 = false := by simpa using h5
                 rw [h6] at hqk
                 rw [orE_no (by rw [auE, fE_at _ _ _ k (by omega) (by omega) (fun j _ hj => hk2 j hj) (by rw [hqk]; simp), hqk]; simp)]
                 rw [auE, fE_at _ _ _ k (by omega) (by omega) (fun j _ hj => hk2 j hj) (by rw [hqk]; simp), hqk]
                 rfl
                ·intro h5
                 have h6 : b5 = true := by simpa using h5
                 rw [h6] at hqk
                 (refine x_go (zc @rmC.eq_1 (zc @hx (zc (fun d => getD_au (d := d) hc) @auA.eq_1))) ?_)
                 refine ⟨k + 1, ?_, ⟨by omega, fun j hj => ?_⟩, by omega⟩
                 ·(refine Le.of ?_ ?_ rfl rfl <;> (try simp only [push_cast, seval, rmC, hx, getD_au hc, auA]) <;> (try (with_reducible rfl)))
                 ·by_cases hjk : j = k
                  ·subst hjk; rw [hqk]; rfl
                  ·exact hk2 j (by omega)
              ·(intro hc; first | replace hc := bT hc | skip)
               obtain rfl : k = r.au.length := by omega
               rw [orE_ok (a := auE r) (fE_none _ _ _ fun j _ hj => hk2 j (by omega))]
               clear hk1
               (refine x_go @rmC.eq_1 ?_)
               (apply Run.pureP; (exact x_ev @rmC.eq_1); (exact (Enters.of Tryz.func83 rfl rfl)); (exact from_pure _ _ _); (exact x_al @rmC.eq_1); (try dsimp only [putA, optG]))
               (refine x_go @rmC.eq_1 ?_)
               (apply Wp.cond; (exact x_ev @rmC.eq_1))
               ·intro h
                have h1 : wi r.n 1 4 = false := by simpa using h
                rw [orE_no (by rw [h1]; decide), h1]
                (refine x_go @rmC.eq_1 ?_)
                (first | exact x_ret @rmC.eq_1 | refine x_retZ @rmC.eq_1 ?_)
               ·intro h
                have h1 : wi r.n 1 4 = true := by simpa using h
                rw [orE_ok (by rw [h1]; rfl)]
                have c5 := Conded_pure (by omega) hts r.goal (by omega)
                unfold rmA rmC at c5
                generalize cdB r.ts r.goal = b5 at c5 ⊢
                (refine x_go @rmC.eq_1 ?_)
                (apply Run.pureP; (exact x_ev @rmC.eq_1); (exact (Enters.of Tryz.func84 rfl rfl)); (exact c5); (exact x_al @rmC.eq_1); (try dsimp only [putA, optG]))
                (refine x_go @rmC.eq_1 ?_)
                (apply Wp.cond; (exact x_ev @rmC.eq_1))
                ·intro h5
                 (refine x_go @rmC.eq_1 ?_)
                 (first | exact x_ret @rmC.eq_1 | refine x_retZ @rmC.eq_1 ?_)
                 have h6 : b5 = false := by simpa using h5
                 rw [h6]; rfl
                ·intro h5
                 (refine x_go @rmC.eq_1 ?_)
                 (first | exact x_ret @rmC.eq_1 | refine x_retZ @rmC.eq_1 ?_)
                 have h6 : b5 = true := by simpa using h5
                 rw [h6]; rfl
end Go.Proofs.Tryz
set_option maxHeartbeats 16000000
namespace Go.Proofs.Tryz
open Go.Vg
theorem orE_zero {a b : Int} (h : orE a b = 0) : a = 0 ∧ b = 0 := by
 unfold orE at h
 split at h
 ·rename_i h0; exact ⟨h0, h⟩
 ·rename_i h0; exact absurd h h0
structure RV (r : Rm) : Prop where
 ps : 1 ≤ r.ps.length ∧ r.ps.length ≤ 8
 ts : r.ts.length ≤ 12
 pp : r.pp.length ≤ 10
 wy : r.wy.length ≤ 16
 au : r.au.length ≤ 12
 n : 1 ≤ r.n ∧ r.n ≤ 4
 tsv : ∀ x ∈ r.ts, (0 ≤ x.pl ∧ x.pl ≤ (r.ps.length : Int) - 1) ∧ (2 ≤ x.ss ∧ x.ss ≤ 6) ∧ 0 ≤ x.st ∧ x.st ≤ x.ss - 1
 ppv : ∀ x ∈ r.pp, (-1 ≤ x.pl ∧ x.pl ≤ (r.ps.length : Int) - 1) ∧ cdB r.ts x.wh = true
 wyv : ∀ x ∈ r.wy, (0 ≤ x.a ∧ x.a ≤ (r.ps.length : Int) - 1) ∧ (0 ≤ x.b ∧ x.b ≤ (r.ps.length : Int) - 1)
 auv : ∀ x ∈ r.au, stB r.ts x.th x.st = true ∧ cdB r.ts x.wh = true
theorem RV.ok {r : Rm} (h : RV r) : TsOk r.ts := fun x hx => (h.tsv x hx).2.1
theorem fz {α : Type} {d : α} {l : List α} {f : Nat → Int} (h : fE l.length 0 f = 0) : ∀ x ∈ l, ∃ i, i < l.length ∧ l.getD i d = x ∧ f i = 0 := by
 intro x hx
 obtain ⟨i, hi, rfl⟩ := List.getElem_of_mem hx
 exact ⟨i, hi, by simp [hi], fE_zero _ _ _ h i (by omega) (by omega)⟩
theorem chE_RV {r : Rm} (h : chE r = 0) : RV r := by
 unfold chE at h
 split at h
 ·cases h
 ·rename_i hb
  rw [Bool.not_eq_true] at hb
  unfold bigB at hb
  simp only [Bool.or_eq_false_iff, decide_eq_false_iff_not] at hb
  obtain ⟨⟨⟨⟨⟨g1, g2⟩, g3⟩, g4⟩, g5⟩, g6⟩ := hb
  obtain ⟨h1, h⟩ := orE_zero h
  obtain ⟨h2, h⟩ := orE_zero h
  obtain ⟨h3, h⟩ := orE_zero h
  obtain ⟨h4, h⟩ := orE_zero h
  obtain ⟨h5, h⟩ := orE_zero h
  obtain ⟨h6, h⟩ := orE_zero h
  obtain ⟨h7, h⟩ := orE_zero h
  obtain ⟨h8, h⟩ := orE_zero h
  have hps : r.ps ≠ [] := fun e => by rw [if_pos e] at h2; cases h2
  have hpl : 1 ≤ r.ps.length := by
   cases hp : r.ps with
   | nil => exact absurd hp hps
   | cons a l => simp
  refine ⟨⟨hpl, by omega⟩, by omega, by omega, by omega, by omega, ?_, fun x hx => ?_, fun x hx => ?_, fun x hx => ?_, fun x hx => ?_⟩
  ·split at h8
   ·rename_i hn; exact wi_iff.1 hn
   ·cases h8
  ·obtain ⟨i, hi, e, hf⟩ := fz (d := th0) (f := tmF r) h3 x hx
   unfold tmF tmB at hf
   rw [e] at hf
   split at hf
   ·rename_i hb
    simp only [Bool.and_eq_true, wi_iff] at hb
    exact ⟨hb.1.1.2, hb.1.2, hb.2⟩
   ·cases hf
  ·obtain ⟨i, hi, e, hf⟩ := fz (d := pp0) (f := ppF r) h4 x hx
   unfold ppF ppB at hf
   rw [e] at hf
   split at hf
   ·rename_i hb
    split at hf
    ·rename_i hc
     simp only [Bool.and_eq_true, Bool.or_eq_true, wi_iff, decide_eq_true_eq] at hb
     exact ⟨by omega, hc⟩
    ·cases hf
   ·cases hf
  ·obtain ⟨i, hi, e, hf⟩ := fz (d := wy0) (f := wyF r) h5 x hx
   unfold wyF wyB at hf
   rw [e] at hf
   split at hf
   ·rename_i hb
    simp only [Bool.and_eq_true, wi_iff] at hb
    exact hb.1
   ·cases hf
  ·obtain ⟨i, hi, e, hf⟩ := fz (d := au0) (f := auF r) h7 x hx
   unfold auF at hf
   rw [e] at hf
   split at hf
   ·rename_i hb
    split at hf
    ·rename_i hc; exact ⟨hb, hc⟩
    ·cases hf
   ·cases hf
structure SV (r : Rm) (s : St) : Prop where
 ts : s.ts.length = r.ts.length
 pp : s.pp.length = r.pp.length
 pl : (s.pl.length : Int) = r.n
 tsv : ∀ i, i < s.ts.length → 0 ≤ s.ts.getD i 0 ∧ s.ts.getD i 0 ≤ (r.ts.getD i th0).ss - 1
 ppv : ∀ x ∈ s.pp, -1 - r.n ≤ x ∧ x ≤ (r.ps.length : Int) - 1
 plv : ∀ x ∈ s.pl, 0 ≤ x ∧ x ≤ (r.ps.length : Int) - 1
theorem csB_SV {r : Rm} {s : St} : csB r s = true ↔ SV r s := by
 unfold csB
 simp only [Bool.and_eq_true, decide_eq_true_eq, List.all_eq_true, wi_iff]
 constructor
 ·rintro ⟨⟨⟨⟨⟨h1, h2⟩, h3⟩, h4⟩, h5⟩, h6⟩
  refine ⟨h1, h2, h3, fun i hi => ?_, fun x hx => by have := h5 x hx; omega, h6⟩
  have := h4 i (List.mem_range.2 hi)
  unfold stB at this
  simp only [Bool.and_eq_true, wi_iff, Int.toNat_natCast] at this
  exact this.2
 ·intro h
  refine ⟨⟨⟨⟨⟨h.ts, h.pp⟩, h.pl⟩, fun i hi => ?_⟩, fun x hx => by have := h.ppv x hx; omega⟩, h.plv⟩
  have hi := List.mem_range.1 hi
  have := h.tsv i hi
  have h1 := h.ts
  unfold stB
  simp only [Bool.and_eq_true, wi_iff, Int.toNat_natCast]
  exact ⟨by omega, this⟩
theorem cs_zero {r : Rm} {s : St} (h : csE r s = 0) : RV r ∧ SV r s ∧ chE r = 0 := by
 obtain ⟨h1, h2⟩ := orE_zero h
 refine ⟨chE_RV h1, csB_SV.1 ?_, h1⟩
 split at h2
 ·rename_i hb; exact hb
 ·cases h2
structure Zs (s : St) : Prop where
 ts : s.ts.length ≤ 100
 pp : s.pp.length ≤ 100
 pl : s.pl.length ≤ 100
theorem checkState_pure {r : Rm} (hz : Sz r) {s : St} (hs : Zs s) : Pure Tryz.prog 87 [rmA r, stA s] (.int (csE r s)) := by
 have c0 := check_pure hz
 have z1 := hz.ps
 have z2 := hz.ts
 have z3 := hz.pp
 have y1 := hs.ts
 have y2 := hs.pp
 have y3 := hs.pl
 have hrv := @chE_RV r
 have c1 := fun (ht : TsOk r.ts) (i : Nat) => state_pure (r := r) (by omega) ht (i : Int) (s.ts.getD i 0)
 have cpl := True.intro
 have hE : csE r s = orE (chE r) (if csB r s then 0 else 28) := rfl
 unfold csB at hE
 rw [hE]
 unfold stA
 unfold rmA rmC at c0 c1 ⊢
 generalize chE r = e at c0 hrv ⊢
 by_cases he : e = 0
 ·rw [orE_ok he]
  subst he
  have hv := hrv rfl
  have hn := hv.n
  have hp := hv.ps
  have c1 := c1 hv.ok
  generalize hqg : (fun (i : Nat) => stB r.ts (i : Int) (s.ts.getD i 0)) = q
  have hqe : ∀ i : Nat, stB r.ts (i : Int) (s.ts.getD i 0) = q i := fun i => congrFun hqg i
  (refine Spec.bd 0 Tryz.func87 Tryz.results87 Tryz.ntmps87 ?_; simp only [entry, zipArgs, Nat.reduceAdd])
  ((refine x_pre @rmC.eq_1 ?_); (iterate 3 (refine x_nr @rmC.eq_1 ?_)); (refine x_nil @rmC.eq_1 ?_))
  (refine x_fzP @rmC.eq_1 (slq 2) ?_)
  (refine x_fzP @rmC.eq_1 (slq 3) ?_)
  (refine x_go @rmC.eq_1 ?_)
  (apply Run.pureP; (exact x_ev @rmC.eq_1); (exact (Enters.of Tryz.func95 rfl rfl)); (exact c0); (exact x_al @rmC.eq_1); (try dsimp only [putA, optG]))
  (refine x_gg @rmC.eq_1 ?_)
  have eL : ∀ b, decide (s.ts.length = r.ts.length) = b → decide ((s.ts.length : Int) = (r.ts.length : Int)) = b := fun b h => by rw [← h]; exact decide_eq_decide.2 (by omega)
  have eP : ∀ b, decide (s.pp.length = r.pp.length) = b → decide ((s.pp.length : Int) = (r.pp.length : Int)) = b := fun b h => by rw [← h]; exact decide_eq_decide.2 (by omega)
  (apply Wp.cond; (exact x_ev @rmC.eq_1))
  ·intro h
   have h1 : (decide (s.ts.length = r.ts.length) && decide (s.pp.length = r.pp.length) && decide ((s.pl.length : Int) = r.n)) = false := by
    rw [← Bool.not_eq_true]
    intro h2
    simp only [Bool.and_eq_true, decide_eq_true_eq] at h2
    rw [eL true (by simp [h2]), eP true (by simp [h2]), h2.2] at h
    simp at h
   rw [h1]
   (refine x_gg @rmC.eq_1 ?_)
   (first | exact x_ret @rmC.eq_1 | refine x_retZ @rmC.eq_1 ?_)
  ·intro h
   have h1 : (decide (s.ts.length = r.ts.length) && decide (s.pp.length = r.pp.length) && decide ((s.pl.length : Int) = r.n)) = true := by
    simp only [Bool.or_eq_false_iff, Bool.not_eq_false', decide_eq_true_eq] at h
    simp only [Bool.and_eq_true, decide_eq_true_eq]
    omega
   rw [h1, Bool.true_and]
   (refine x_go @rmC.eq_1 ?_)
   refine Wp.loop (fun k : Nat => { t := [(2, .ref (rmC r) 0), (3, .ref [.ints s.ts, .ints s.pp, .ints s.pl] 0), (42, .ints s.ts), (43, .int s.ts.length), (44, .int k)], m := [⟨1, .row 8 []⟩, ⟨1, .row 3 []⟩], n := 89 }) (fun k => k ≤ s.ts.length ∧ ∀ j, j < k → q j = true) (fun k => s.ts.length - k) 0 ?_ ?_ ?_
   ·(refine Le.of ?_ ?_ rfl rfl <;> (try simp only [push_cast, seval, rmC]) <;> (try (with_reducible rfl)))
    all_goals (first | exact ⟨rfl, rfl⟩ | rfl)
   ·simp
   ·rintro k ⟨hk1, hk2⟩
    (refine x_go @rmC.eq_1 ?_)
    (apply Wp.cond; (exact x_ev @rmC.eq_1))
    ·(intro hc; first | replace hc := bT hc | skip)
     have c1k := c1 k
     rw [hqe k] at c1k
     generalize hx : s.ts.getD k 0 = x at c1k
     (refine x_go (zc @rmC.eq_1 @hx) ?_)
     (apply Run.pureP; (exact x_ev (zc @rmC.eq_1 @hx)); (exact (Enters.of Tryz.func105 rfl rfl)); (exact c1k); (exact x_al (zc @rmC.eq_1 @hx)); (try dsimp only [putA, optG]))
     (refine x_go (zc @rmC.eq_1 @hx) ?_)
     (apply Wp.cond; (exact x_ev (zc @rmC.eq_1 @hx)))
     ·intro h2
      rw [range_no hc (by simpa using h2 : q k = false)]
      (refine x_go (zc @rmC.eq_1 @hx) ?_)
      (first | exact x_ret (zc @rmC.eq_1 @hx) | refine x_retZ (zc @rmC.eq_1 @hx) ?_)
     ·intro h2
      (refine x_go (zc @rmC.eq_1 @hx) ?_)
      refine ⟨k + 1, ?_, ⟨by omega, fun j hj => ?_⟩, by omega⟩
      ·(refine Le.of ?_ ?_ rfl rfl <;> (try simp only [push_cast, seval, rmC, hx]) <;> (try (with_reducible rfl)))
      ·by_cases hjk : j = k
       ·subst hjk; simpa using h2
       ·exact hk2 j (by omega)
    ·(intro hc; first | replace hc := bT hc | skip)
     obtain rfl : k = s.ts.length := by omega
     rw [range_all hk2, Bool.true_and]
     (refine x_go @rmC.eq_1 ?_)
     refine Wp.loop (fun k : Nat => { t := [(2, .ref (rmC r) 0), (3, .ref [.ints s.ts, .ints s.pp, .ints s.pl] 0), (56, .ints s.pp), (57, .int s.pp.length), (58, .int k)], m := [⟨1, .row 8 []⟩, ⟨1, .row 3 []⟩], n := 89 }) (fun k => k ≤ s.pp.length ∧ ∀ j, j < k → wi (s.pp.getD j 0) (-2 - r.n + 1) ((r.ps.length : Int) - 1) = true) (fun k => s.pp.length - k) 0 ?_ ?_ ?_
     ·(refine Le.of ?_ ?_ rfl rfl <;> (try simp only [push_cast, seval, rmC]) <;> (try (with_reducible rfl)))
      all_goals (first | exact ⟨rfl, rfl⟩ | rfl)
     ·simp
     ·rintro k ⟨hk3, hk4⟩
      (refine x_go @rmC.eq_1 ?_)
      (apply Wp.cond; (exact x_ev @rmC.eq_1))
      ·(intro hc; first | replace hc := bT hc | skip)
       generalize hx : s.pp.getD k 0 = x
       (refine x_go (zc @rmC.eq_1 @hx) ?_)
       (apply Run.pureP; (exact x_ev (zc @rmC.eq_1 @hx)); (exact (Enters.of Tryz.func106 rfl rfl)); (exact within_pure _ _ _); (exact x_al (zc @rmC.eq_1 @hx)); (try dsimp only [putA, optG]))
       have hbv : ∀ y : Bool, (!wi x (-2 - r.n + 1) ((r.ps.length : Int) - 1)) = y → wi x (-2 - r.n + 1) ((r.ps.length : Int) - 1) = !y := by
        intro y hy
        rw [← hy, Bool.not_not]
       (refine x_go (zc @rmC.eq_1 @hx) ?_)
       (apply Wp.cond; (exact x_ev (zc @rmC.eq_1 @hx)))
       ·intro h2
        have h3 := hbv true h2
        rw [all_no (d := (0 : Int)) (p := fun p => wi p (-2 - r.n + 1) ((r.ps.length : Int) - 1)) hc (by rw [hx]; exact h3)]
        (refine x_go (zc @rmC.eq_1 @hx) ?_)
        (first | exact x_ret (zc @rmC.eq_1 @hx) | refine x_retZ (zc @rmC.eq_1 @hx) ?_)
       ·intro h2
        have h3 := hbv false h2
        (refine x_go (zc @rmC.eq_1 @hx) ?_)
        refine ⟨k + 1, ?_, ⟨by omega, fun j hj => ?_⟩, by omega⟩
        ·(refine Le.of ?_ ?_ rfl rfl <;> (try simp only [push_cast, seval, rmC, hx]) <;> (try (with_reducible rfl)))
        ·by_cases hjk : j = k
         ·subst hjk; rw [hx]; exact h3
         ·exact hk4 j (by omega)
      ·(intro hc; first | replace hc := bT hc | skip)
       obtain rfl : k = s.pp.length := by omega
       rw [all_at (d := (0 : Int)) (p := fun p => wi p (-2 - r.n + 1) ((r.ps.length : Int) - 1)) hk4, Bool.true_and]
       (refine x_go @rmC.eq_1 ?_)
       refine Wp.loop (fun k : Nat => { t := [(2, .ref (rmC r) 0), (3, .ref [.ints s.ts, .ints s.pp, .ints s.pl] 0), (75, .ints s.pl), (76, .int s.pl.length), (77, .int k)], m := [⟨1, .row 8 []⟩, ⟨1, .row 3 []⟩], n := 89 }) (fun k => k ≤ s.pl.length ∧ ∀ j, j < k → wi (s.pl.getD j 0) 0 ((r.ps.length : Int) - 1) = true) (fun k => s.pl.length - k) 0 ?_ ?_ ?_
       ·(refine Le.of ?_ ?_ rfl rfl <;> (try simp only [push_cast, seval, rmC]) <;> (try (with_reducible rfl)))
        all_goals (first | exact ⟨rfl, rfl⟩ | rfl)
       ·simp
       ·rintro k ⟨hk5, hk6⟩
        (refine x_go @rmC.eq_1 ?_)
        (apply Wp.cond; (exact x_ev @rmC.eq_1))
        ·(intro hc; first | replace hc := bT hc | skip)
         generalize hx : s.pl.getD k 0 = x
         have cplx := True.intro
         (refine x_go (zc @rmC.eq_1 @hx) ?_)
         (apply Run.pureP; (exact x_ev (zc @rmC.eq_1 @hx)); (exact (Enters.of Tryz.func106 rfl rfl)); (exact within_pure _ _ _); (exact x_al (zc @rmC.eq_1 @hx)); (try dsimp only [putA, optG]))
         (refine x_go (zc @rmC.eq_1 @hx) ?_)
         (apply Wp.cond; (exact x_ev (zc @rmC.eq_1 @hx)))
         ·intro h2
          rw [all_no (d := (0 : Int)) (p := fun p => wi p 0 ((r.ps.length : Int) - 1)) hc (by rw [hx]; simpa using h2)]
          (refine x_go (zc @rmC.eq_1 @hx) ?_)
          (first | exact x_ret (zc @rmC.eq_1 @hx) | refine x_retZ (zc @rmC.eq_1 @hx) ?_)
         ·intro h2
          (refine x_go (zc @rmC.eq_1 @hx) ?_)
          refine ⟨k + 1, ?_, ⟨by omega, fun j hj => ?_⟩, by omega⟩
          ·(refine Le.of ?_ ?_ rfl rfl <;> (try simp only [push_cast, seval, rmC, hx]) <;> (try (with_reducible rfl)))
          ·by_cases hjk : j = k
           ·subst hjk; rw [hx]; simpa using h2
           ·exact hk6 j (by omega)
        ·(intro hc; first | replace hc := bT hc | skip)
         obtain rfl : k = s.pl.length := by omega
         rw [all_at (d := (0 : Int)) (p := fun p => wi p 0 ((r.ps.length : Int) - 1)) hk6]
         (refine x_go @rmC.eq_1 ?_)
         (first | exact x_ret @rmC.eq_1 | refine x_retZ @rmC.eq_1 ?_)
 ·rw [orE_no he]
  have he2 : decide (e = 0) = false := decide_eq_false he
  (refine Spec.bd 0 Tryz.func87 Tryz.results87 Tryz.ntmps87 ?_; simp only [entry, zipArgs, Nat.reduceAdd])
  ((refine x_pre (zc @rmC.eq_1 (zc @he2 @Bool.not_false)) ?_); (iterate 3 (refine x_nr (zc @rmC.eq_1 (zc @he2 @Bool.not_false)) ?_)); (refine x_nil (zc @rmC.eq_1 (zc @he2 @Bool.not_false)) ?_))
  (refine x_fzP (zc @rmC.eq_1 (zc @he2 @Bool.not_false)) (slq 2) ?_)
  (refine x_fzP (zc @rmC.eq_1 (zc @he2 @Bool.not_false)) (slq 3) ?_)
  (refine x_go (zc @rmC.eq_1 (zc @he2 @Bool.not_false)) ?_)
  (apply Run.pureP; (exact x_ev (zc @rmC.eq_1 (zc @he2 @Bool.not_false))); (exact (Enters.of Tryz.func95 rfl rfl)); (exact c0); (exact x_al (zc @rmC.eq_1 (zc @he2 @Bool.not_false))); (try dsimp only [putA, optG]))
  (refine x_gg (zc @rmC.eq_1 (zc @he2 @Bool.not_false)) ?_)
  (first | exact x_ret (zc @rmC.eq_1 (zc @he2 @Bool.not_false)) | refine x_retZ (zc @rmC.eq_1 (zc @he2 @Bool.not_false)) ?_)
theorem rcheckState_pure {r : Rm} (hz : Sz r) {s : St} (hs : Zs s) : Pure Tryz.prog 92 [rmA r, stA s] (.int (csE r s)) := by
 have c0 := rcheck_pure hz
 have z1 := hz.ps
 have z2 := hz.ts
 have z3 := hz.pp
 have y1 := hs.ts
 have y2 := hs.pp
 have y3 := hs.pl
 have hrv := @chE_RV r
 have c1 := fun (ht : TsOk r.ts) (i : Nat) => set_pure (r := r) (by omega) ht (i : Int) (s.ts.getD i 0)
 have cpl := fun (n : Int) => rplace_pure (r := r) (by omega) n
 have hE : csE r s = orE (chE r) (if csB r s then 0 else 28) := rfl
 unfold csB at hE
 rw [hE]
 unfold stA
 unfold rmA rmC at c0 c1 cpl ⊢
 generalize chE r = e at c0 hrv ⊢
 by_cases he : e = 0
 ·rw [orE_ok he]
  subst he
  have hv := hrv rfl
  have hn := hv.n
  have hp := hv.ps
  have c1 := c1 hv.ok
  generalize hqg : (fun (i : Nat) => stB r.ts (i : Int) (s.ts.getD i 0)) = q
  have hqe : ∀ i : Nat, stB r.ts (i : Int) (s.ts.getD i 0) = q i := fun i => congrFun hqg i
  (refine Spec.bd 0 Tryz.func92 Tryz.results92 Tryz.ntmps92 ?_; simp only [entry, zipArgs, Nat.reduceAdd])
  ((refine x_pre @rmC.eq_1 ?_); (iterate 3 (refine x_nr @rmC.eq_1 ?_)); (refine x_nil @rmC.eq_1 ?_))
  (refine x_fzP @rmC.eq_1 (slq 2) ?_)
  (refine x_fzP @rmC.eq_1 (slq 3) ?_)
  (refine x_go @rmC.eq_1 ?_)
  (apply Run.pureP; (exact x_ev @rmC.eq_1); (exact (Enters.of Tryz.func44 rfl rfl)); (exact c0); (exact x_al @rmC.eq_1); (try dsimp only [putA, optG]))
  (refine x_gg @rmC.eq_1 ?_)
  have eL : ∀ b, decide (s.ts.length = r.ts.length) = b → decide ((s.ts.length : Int) = (r.ts.length : Int)) = b := fun b h => by rw [← h]; exact decide_eq_decide.2 (by omega)
  have eP : ∀ b, decide (s.pp.length = r.pp.length) = b → decide ((s.pp.length : Int) = (r.pp.length : Int)) = b := fun b h => by rw [← h]; exact decide_eq_decide.2 (by omega)
  (apply Wp.cond; (exact x_ev @rmC.eq_1))
  ·intro h
   have h1 : (decide (s.ts.length = r.ts.length) && decide (s.pp.length = r.pp.length) && decide ((s.pl.length : Int) = r.n)) = false := by
    rw [← Bool.not_eq_true]
    intro h2
    simp only [Bool.and_eq_true, decide_eq_true_eq] at h2
    rw [eL true (by simp [h2]), eP true (by simp [h2]), h2.2] at h
    simp at h
   rw [h1]
   (refine x_gg @rmC.eq_1 ?_)
   (first | exact x_ret @rmC.eq_1 | refine x_retZ @rmC.eq_1 ?_)
  ·intro h
   have h1 : (decide (s.ts.length = r.ts.length) && decide (s.pp.length = r.pp.length) && decide ((s.pl.length : Int) = r.n)) = true := by
    simp only [Bool.or_eq_false_iff, Bool.not_eq_false', decide_eq_true_eq] at h
    simp only [Bool.and_eq_true, decide_eq_true_eq]
    omega
   rw [h1, Bool.true_and]
   (refine x_go @rmC.eq_1 ?_)
   refine Wp.loop (fun k : Nat => { t := [(2, .ref (rmC r) 0), (3, .ref [.ints s.ts, .ints s.pp, .ints s.pl] 0), (6, .int k)], m := [⟨1, .row 8 []⟩, ⟨1, .row 3 []⟩], n := 99 }) (fun k => k ≤ s.ts.length ∧ ∀ j, j < k → q j = true) (fun k => s.ts.length - k) 0 ?_ ?_ ?_
   ·(refine Le.of ?_ ?_ rfl rfl <;> (try simp only [push_cast, seval, rmC]) <;> (try (with_reducible rfl)))
    all_goals (first | exact ⟨rfl, rfl⟩ | rfl)
   ·simp
   ·rintro k ⟨hk1, hk2⟩
    (refine x_go @rmC.eq_1 ?_)
    (apply Wp.cond; (exact x_ev @rmC.eq_1))
    ·(intro hc; first | replace hc := bT hc | skip)
     have c1k := c1 k
     rw [hqe k] at c1k
     generalize hx : s.ts.getD k 0 = x at c1k
     (refine x_go (zc @rmC.eq_1 @hx) ?_)
     (refine Wp.rnD 9 ?_; apply exAb; (((refine x_abn (zc @rmC.eq_1 @hx) ?_); (apply Abn.pureP; (exact x_ev (zc @rmC.eq_1 @hx)); (exact (Enters.of Tryz.func86 rfl rfl)); (exact c1k); (exact x_al (zc @rmC.eq_1 @hx)); (try dsimp only [putA, optG])); (refine x_abn (zc @rmC.eq_1 @hx) ?_)); exact Abn.nil))
     (refine x_go (zc @rmC.eq_1 @hx) ?_)
     (apply Wp.cond; (exact x_ev (zc @rmC.eq_1 @hx)))
     ·intro h2
      rw [range_no hc (by simpa using h2 : q k = false)]
      (refine x_go (zc @rmC.eq_1 @hx) ?_)
      (first | exact x_ret (zc @rmC.eq_1 @hx) | refine x_retZ (zc @rmC.eq_1 @hx) ?_)
     ·intro h2
      (refine x_go (zc @rmC.eq_1 @hx) ?_)
      refine ⟨k + 1, ?_, ⟨by omega, fun j hj => ?_⟩, by omega⟩
      ·(refine Le.of ?_ ?_ rfl rfl <;> (try simp only [push_cast, seval, rmC, hx]) <;> (try (with_reducible rfl)))
      ·by_cases hjk : j = k
       ·subst hjk; simpa using h2
       ·exact hk2 j (by omega)
    ·(intro hc; first | replace hc := bT hc | skip)
     obtain rfl : k = s.ts.length := by omega
     rw [range_all hk2, Bool.true_and]
     (refine x_go @rmC.eq_1 ?_)
     refine Wp.loop (fun k : Nat => { t := [(2, .ref (rmC r) 0), (3, .ref [.ints s.ts, .ints s.pp, .ints s.pl] 0), (7, .int k)], m := [⟨1, .row 8 []⟩, ⟨1, .row 3 []⟩], n := 99 }) (fun k => k ≤ s.pp.length ∧ ∀ j, j < k → wi (s.pp.getD j 0) (-2 - r.n + 1) ((r.ps.length : Int) - 1) = true) (fun k => s.pp.length - k) 0 ?_ ?_ ?_
     ·(refine Le.of ?_ ?_ rfl rfl <;> (try simp only [push_cast, seval, rmC]) <;> (try (with_reducible rfl)))
      all_goals (first | exact ⟨rfl, rfl⟩ | rfl)
     ·simp
     ·rintro k ⟨hk3, hk4⟩
      (refine x_go @rmC.eq_1 ?_)
      (apply Wp.cond; (exact x_ev @rmC.eq_1))
      ·(intro hc; first | replace hc := bT hc | skip)
       generalize hx : s.pp.getD k 0 = x
       (refine x_go (zc @rmC.eq_1 @hx) ?_)
       (apply Run.pureP; (exact x_ev (zc @rmC.eq_1 @hx)); (exact (Enters.of Tryz.func82 rfl rfl)); (exact cpl x); (exact x_al (zc @rmC.eq_1 @hx)); (try dsimp only [putA, optG]))
       (refine x_go (zc @rmC.eq_1 @hx) ?_)
       (apply Run.pureP; (exact x_ev (zc @rmC.eq_1 @hx)); (exact (Enters.of Tryz.func83 rfl rfl)); (exact from_pure _ _ _); (exact x_al (zc @rmC.eq_1 @hx)); (try dsimp only [putA, optG]))
       have hbv : ∀ y : Bool, ((!wi x 0 ((r.ps.length : Int) - 1) && !decide (x = -1)) && !wi x (-2 - r.n + 1) (-2)) = y → wi x (-2 - r.n + 1) ((r.ps.length : Int) - 1) = !y := by
        intro y hy
        rw [← hy, Bool.eq_iff_iff]
        simp only [Bool.not_eq_true', Bool.and_eq_false_iff, Bool.not_eq_false', wi_iff, decide_eq_true_eq]
        omega
       (refine x_go (zc @rmC.eq_1 @hx) ?_)
       (apply Wp.cond; (exact x_ev (zc @rmC.eq_1 @hx)))
       ·intro h2
        have h3 := hbv true h2
        rw [all_no (d := (0 : Int)) (p := fun p => wi p (-2 - r.n + 1) ((r.ps.length : Int) - 1)) hc (by rw [hx]; exact h3)]
        (refine x_go (zc @rmC.eq_1 @hx) ?_)
        (first | exact x_ret (zc @rmC.eq_1 @hx) | refine x_retZ (zc @rmC.eq_1 @hx) ?_)
       ·intro h2
        have h3 := hbv false h2
        (refine x_go (zc @rmC.eq_1 @hx) ?_)
        refine ⟨k + 1, ?_, ⟨by omega, fun j hj => ?_⟩, by omega⟩
        ·(refine Le.of ?_ ?_ rfl rfl <;> (try simp only [push_cast, seval, rmC, hx]) <;> (try (with_reducible rfl)))
        ·by_cases hjk : j = k
         ·subst hjk; rw [hx]; exact h3
         ·exact hk4 j (by omega)
      ·(intro hc; first | replace hc := bT hc | skip)
       obtain rfl : k = s.pp.length := by omega
       rw [all_at (d := (0 : Int)) (p := fun p => wi p (-2 - r.n + 1) ((r.ps.length : Int) - 1)) hk4, Bool.true_and]
       (refine x_go @rmC.eq_1 ?_)
       refine Wp.loop (fun k : Nat => { t := [(2, .ref (rmC r) 0), (3, .ref [.ints s.ts, .ints s.pp, .ints s.pl] 0), (9, .int k)], m := [⟨1, .row 8 []⟩, ⟨1, .row 3 []⟩], n := 99 }) (fun k => k ≤ s.pl.length ∧ ∀ j, j < k → wi (s.pl.getD j 0) 0 ((r.ps.length : Int) - 1) = true) (fun k => s.pl.length - k) 0 ?_ ?_ ?_
       ·(refine Le.of ?_ ?_ rfl rfl <;> (try simp only [push_cast, seval, rmC]) <;> (try (with_reducible rfl)))
        all_goals (first | exact ⟨rfl, rfl⟩ | rfl)
       ·simp
       ·rintro k ⟨hk5, hk6⟩
        (refine x_go @rmC.eq_1 ?_)
        (apply Wp.cond; (exact x_ev @rmC.eq_1))
        ·(intro hc; first | replace hc := bT hc | skip)
         generalize hx : s.pl.getD k 0 = x
         have cplx := cpl x
         (refine x_go (zc @rmC.eq_1 @hx) ?_)
         (refine Wp.rnD 8 ?_; apply exAb; (((refine x_abn (zc @rmC.eq_1 @hx) ?_); (apply Abn.pureP; (exact x_ev (zc @rmC.eq_1 @hx)); (exact (Enters.of Tryz.func82 rfl rfl)); (exact cplx); (exact x_al (zc @rmC.eq_1 @hx)); (try dsimp only [putA, optG])); (refine x_abn (zc @rmC.eq_1 @hx) ?_)); exact Abn.nil))
         (refine x_go (zc @rmC.eq_1 @hx) ?_)
         (apply Wp.cond; (exact x_ev (zc @rmC.eq_1 @hx)))
         ·intro h2
          rw [all_no (d := (0 : Int)) (p := fun p => wi p 0 ((r.ps.length : Int) - 1)) hc (by rw [hx]; simpa using h2)]
          (refine x_go (zc @rmC.eq_1 @hx) ?_)
          (first | exact x_ret (zc @rmC.eq_1 @hx) | refine x_retZ (zc @rmC.eq_1 @hx) ?_)
         ·intro h2
          (refine x_go (zc @rmC.eq_1 @hx) ?_)
          refine ⟨k + 1, ?_, ⟨by omega, fun j hj => ?_⟩, by omega⟩
          ·(refine Le.of ?_ ?_ rfl rfl <;> (try simp only [push_cast, seval, rmC, hx]) <;> (try (with_reducible rfl)))
          ·by_cases hjk : j = k
           ·subst hjk; rw [hx]; simpa using h2
           ·exact hk6 j (by omega)
        ·(intro hc; first | replace hc := bT hc | skip)
         obtain rfl : k = s.pl.length := by omega
         rw [all_at (d := (0 : Int)) (p := fun p => wi p 0 ((r.ps.length : Int) - 1)) hk6]
         (refine x_go @rmC.eq_1 ?_)
         (first | exact x_ret @rmC.eq_1 | refine x_retZ @rmC.eq_1 ?_)
 ·rw [orE_no he]
  have he2 : decide (e = 0) = false := decide_eq_false he
  (refine Spec.bd 0 Tryz.func92 Tryz.results92 Tryz.ntmps92 ?_; simp only [entry, zipArgs, Nat.reduceAdd])
  ((refine x_pre (zc @rmC.eq_1 (zc @he2 @Bool.not_false)) ?_); (iterate 3 (refine x_nr (zc @rmC.eq_1 (zc @he2 @Bool.not_false)) ?_)); (refine x_nil (zc @rmC.eq_1 (zc @he2 @Bool.not_false)) ?_))
  (refine x_fzP (zc @rmC.eq_1 (zc @he2 @Bool.not_false)) (slq 2) ?_)
  (refine x_fzP (zc @rmC.eq_1 (zc @he2 @Bool.not_false)) (slq 3) ?_)
  (refine x_go (zc @rmC.eq_1 (zc @he2 @Bool.not_false)) ?_)
  (apply Run.pureP; (exact x_ev (zc @rmC.eq_1 (zc @he2 @Bool.not_false))); (exact (Enters.of Tryz.func44 rfl rfl)); (exact c0); (exact x_al (zc @rmC.eq_1 (zc @he2 @Bool.not_false))); (try dsimp only [putA, optG]))
  (refine x_gg (zc @rmC.eq_1 (zc @he2 @Bool.not_false)) ?_)
  (first | exact x_ret (zc @rmC.eq_1 (zc @he2 @Bool.not_false)) | refine x_retZ (zc @rmC.eq_1 (zc @he2 @Bool.not_false)) ?_)
end Go.Proofs.Tryz
namespace Go.Vg
open Go.RowKit
variable {P : Program} {X : Nat → Prop} {w : World} {ρ ρ' : Rho}
def Fz1 (x0 y0 x y : AV) : Prop := y = x ∨ (x = x0 ∧ y = y0)
def FzL (x0 y0 : AV) : List AV → List AV → Prop
 | [], [] => True
 | x :: l, y :: l' => Fz1 x0 y0 x y ∧ FzL x0 y0 l l'
 | _, _ => False
def FzE (x0 y0 x y : AV) : Prop := Fz1 x0 y0 x y ∨ ∃ xs ys, x = .agg xs ∧ y = .agg ys ∧ FzL x0 y0 xs ys
def FzR (x0 y0 : AV) : List AV → List AV → Prop
 | [], [] => True
 | x :: l, y :: l' => FzE x0 y0 x y ∧ FzR x0 y0 l l'
 | _, _ => False
theorem FzL.len {x0 y0 : AV} : ∀ {l l' : List AV}, FzL x0 y0 l l' → l'.length = l.length
 | [], [], _ => rfl
 | x :: l, y :: l', h => by simp [FzL.len h.2]
theorem FzR.len {x0 y0 : AV} : ∀ {l l' : List AV}, FzR x0 y0 l l' → l'.length = l.length
 | [], [], _ => rfl
 | x :: l, y :: l', h => by simp [FzR.len h.2]
section
variable {id ver off len sz' : Nat} {l0 : List AV}
theorem Fz1.rel (t : Kp X w ρ w ρ') (h0 : ∀ v, R X w ρ (.osl id ver off len) v → R X w ρ' (.lst sz' l0) v) {x y : AV} (h : Fz1 (.osl id ver off len) (.lst sz' l0) x y) {v : Value} (hx : R X w ρ x v) : R X w ρ' y v := by
 rcases h with rfl | ⟨rfl, rfl⟩
 ·exact R.mono t hx
 ·exact h0 v hx
theorem FzL.rel (t : Kp X w ρ w ρ') (h0 : ∀ v, R X w ρ (.osl id ver off len) v → R X w ρ' (.lst sz' l0) v) {bl : Nat} : ∀ {l l' : List AV} {o : Nat}, FzL (.osl id ver off len) (.lst sz' l0) l l' → Rcells X w ρ l bl o → Rcells X w ρ' l' bl o
 | [], [], _, _, h => h
 | x :: l, y :: l', o, ⟨h1, h2⟩, ⟨⟨v, q1, q2, q3⟩, q4⟩ => ⟨⟨v, q1, q2, h1.rel t h0 q3⟩, FzL.rel t h0 h2 q4⟩
theorem FzE.rel (t : Kp X w ρ w ρ') (h0 : ∀ v, R X w ρ (.osl id ver off len) v → R X w ρ' (.lst sz' l0) v) {x y : AV} (h : FzE (.osl id ver off len) (.lst sz' l0) x y) {sz bl o : Nat} (hx : Re X w ρ x sz bl o) : Re X w ρ' y sz bl o := by
 rcases h with h | ⟨xs, ys, rfl, rfl, h⟩
 ·rcases h with rfl | ⟨rfl, rfl⟩
  ·exact (Rp.mono t y).2 sz bl o (fun _ => rfl) hx
  ·exact OneAt.mono (fun _ => rfl) hx h0
 ·exact ⟨by rw [h.len]; exact hx.1, h.rel t h0 hx.2⟩
theorem FzR.rel (t : Kp X w ρ w ρ') (h0 : ∀ v, R X w ρ (.osl id ver off len) v → R X w ρ' (.lst sz' l0) v) {sz bl : Nat} : ∀ {l l' : List AV} {o : Nat}, FzR (.osl id ver off len) (.lst sz' l0) l l' → Rrow X w ρ l sz bl o → Rrow X w ρ' l' sz bl o
 | [], [], _, _, h => h
 | x :: l, y :: l', o, ⟨h1, h2⟩, ⟨q1, q2⟩ => ⟨h1.rel t h0 q1, FzR.rel t h0 h2 q2⟩
end
theorem Rel.freezeRow {s : S} {a : Act} (hr : Rel X s a w ρ) (e id : Nat) {ve vi off len sze szi : Nat} {le le' li : List AV} (hne : e ≠ id) (he : s.m[e]? = some ⟨ve, .row sze le⟩) (hm : s.m[id]? = some ⟨vi, .row szi li⟩) (hlen : off + len ≤ li.length) (hsz : 0 < szi)
  (hf : FzR (.osl id vi off len) (.lst szi ((li.drop off).take len)) le le') :
  ∃ ρ', Rel X { s with m := (s.m.set id ⟨vi + 1, .row szi []⟩).set e ⟨ve, .row sze le'⟩ } a w ρ' ∧ Tr w ρ w ρ' := by
 obtain ⟨r0, h0, hv, hrz, hnone, hblk⟩ := hr.inv.row hm
 obtain ⟨t1, t2⟩ := hr.inv.renew h0 (r' := ⟨r0.ver + 1, none, 0, 0, szi⟩) (w' := w) (k := .row szi []) rfl rfl rfl (Nat.le_refl _) rfl (fun _ _ _ => rfl) (fun b h => by cases h) (fun ρ' _ _ => ⟨rfl, fun _ => rfl, fun b h => by cases h⟩)
 rw [hv] at t1 t2
 have hr2 := hr.step t1 t2
 have key : ∀ v, R X w ρ (.osl id vi off len) v → R X w (ρ.set id ⟨vi + 1, none, 0, 0, szi⟩) (.lst szi ((li.drop off).take len)) v := by
  intro v hx
  obtain ⟨A, c0, r1, hA, h1, hle, hat⟩ := hx
  rw [h0] at h1; cases h1
  obtain ⟨hl, hcm, hpos⟩ := hat hv.symm
  have hll : ((li.drop off).take len).length = len := by simp; omega
  refine ⟨A, c0, by rw [hA, hll], by omega, hcm, fun hne => ?_⟩
  have h0' : 0 < len := by
   rcases Nat.eq_zero_or_pos len with e | e
   ·subst e; simp at hne
   ·exact e
  obtain ⟨b, hb, hA', hfit⟩ := hpos (by omega)
  obtain ⟨_, _, hrow⟩ := hblk b hb
  refine ⟨b, r0.base + off * r0.sz, hA', ⟨(hr.inv.new id r0 b h0 hb).2, fun r' hr' hb' => ?_⟩, hsz, ?_⟩
  ·obtain ⟨i, hi'⟩ := List.getElem?_of_mem hr'
   rcases getElem?_set_cases hi' with ⟨_, _, rfl⟩ | ⟨hne', h2⟩
   ·cases hb'
   ·exact hne' (hr.inv.apart i id r' r0 b h2 h0 hb' hb)
  ·rw [hrz]
   exact Rrow.mono t1.kp _ szi b _ (fun _ => rfl) ((hrow.drop off).take len)
 have hinv : Inv X w (ρ.set id ⟨vi + 1, none, 0, 0, szi⟩) ((s.m.set id ⟨vi + 1, .row szi []⟩).set e ⟨ve, .row sze le'⟩) := by
  have hi := t2
  refine ⟨by have := hi.len; simp at this ⊢; exact this, fun i r' e' hr' he' => ?_, hi.apart, hi.new, hi.out, hi.gd⟩
  rcases getElem?_set_cases he' with ⟨rfl, _, rfl⟩ | ⟨hne', he''⟩
  ·have hr'' : ρ[i]? = some r' := by rw [List.getElem?_set_ne (fun h => hne h.symm)] at hr'; exact hr'
   obtain ⟨q1, q2, q3, q4⟩ := hr.inv.at_ i r' _ hr'' he
   refine ⟨q1, q2, fun hb => ?_, fun b hb => ?_⟩
   ·have := q3 hb; subst this
    cases le' with
    | nil => rfl
    | cons y l' => exact hf.elim
   ·obtain ⟨z1, z2, z3⟩ := q4 b hb
    exact ⟨z1, by rw [hf.len]; exact z2, hf.rel t1.kp key z3⟩
  ·exact hi.at_ i r' e' hr' he''
 exact ⟨_, ⟨hr2.tmps, hr2.size, hinv, hr2.defers⟩, t1⟩
theorem Wp.freezeRow {r : Option Nat} {c : Code} {Q : Exit → S → Prop} {s : S} (e id : Nat) {ve vi off len sze szi : Nat} {le le' li : List AV} (hne : e ≠ id) (he : s.m[e]? = some ⟨ve, .row sze le⟩) (hm : s.m[id]? = some ⟨vi, .row szi li⟩) (hlen : off + len ≤ li.length) (hsz : 0 < szi)
  (hf : FzR (.osl id vi off len) (.lst szi ((li.drop off).take len)) le le')
  (k : Wp P r c Q { s with m := (s.m.set id ⟨vi + 1, .row szi []⟩).set e ⟨ve, .row sze le'⟩ }) : Wp P r c Q s := by
 intro X a w ρ hr
 obtain ⟨ρ1, hr3, t1⟩ := hr.freezeRow e id hne he hm hlen hsz hf
 exact Go.wpIn_mono (k X a w _ hr3) fun e a' w' ⟨s', ρ', q, k1, k2⟩ => ⟨s', ρ', q, k1, t1.trans k2⟩
end Go.Vg
namespace Go.Vg
open Go.RowKit
variable {P : Program} {gds : List (Option Nat)} {l : List Oper} {Q : S → Prop} {s : S}
end Go.Vg
namespace Go.Vg
open Go.RowKit
variable {P : Program} {gds : List (Option Nat)} {l : List Oper} {Q : S → Prop} {s : S}
abbrev AV.nil : AV := .val (.slice none 0 0)
theorem push_keep {X : Nat → Prop} {w : World} {ρ : Rho} {m : Mem} (hi : Inv X w ρ m) (arr : Array Value) (e : TypeId) : Tr w ρ { w with heap := w.heap.push (.cells arr e) } ρ ∧ Inv X { w with heap := w.heap.push (.cells arr e) } ρ m := by
 have htr : Tr w ρ { w with heap := w.heap.push (.cells arr e) } ρ := ⟨rfl, rfl, rfl, by simp, fun _ r h => ⟨r, h, Nat.le_refl _, fun _ => rfl⟩, fun b hb hlt => ⟨hb, by simp [Array.getElem?_push_lt hlt, hlt]⟩⟩
 have hk0 : Tr w [] { w with heap := w.heap.push (.cells arr e) } [] := ⟨rfl, rfl, rfl, by simp, fun _ r h => (by simp at h), fun b hb hlt => ⟨fun r hr => (by cases hr), by simp [Array.getElem?_push_lt hlt, hlt]⟩⟩
 exact ⟨htr, hi.keep hk0⟩
theorem Run.yieldN {o : Oper} {x : AV} (h : Yield P gds s.t s.m o x) (k : Run P gds l Q (putA s o.dst x)) : Run P gds (o :: l) Q s :=
 h.stepAt.run (by rw [putA_eq] at k; exact k)
end Go.Vg
namespace Go.Vg
open Go.RowKit
variable {P : Program} {gds : List (Option Nat)} {l : List Oper} {Q : S → Prop} {s : S}
theorem Run.lit0e {dst : Option Nat} {ty type : TypeId} {pos : String} {after : Array Edge} {sz : Nat} {p : Prop} (h : bldA P (evo s.t) (.buildSlice ty 0 #[]) = some (sz, [], p)) (hp : p)
  (k : Run P gds l Q (putA s dst .emp)) : Run P gds (⟨dst, .buildSlice ty 0 #[], type, pos, after, none⟩ :: l) Q s := by
 refine Run.yieldN (x := .emp) ⟨fun c e => (by cases e), fun X w ρ a hi hr hn => ⟨fun _ => ?_, fun hw => (by simp [Region.wanted] at hw)⟩⟩ k
 obtain ⟨e, arr, vs, h1, _⟩ := bldA_run (P := P) (o := ⟨dst, .buildSlice ty 0 #[], type, pos, after, none⟩) (X := X) (w := w) (ρ := ρ) (a := a) (fun y hy => by simp [Op.operands] at hy) h hp
 obtain ⟨q1, q2⟩ := push_keep hi arr e
 exact .inl ⟨_, _, h1, ⟨_, rfl⟩, q2, q1⟩
end Go.Vg
set_option autoImplicit true
namespace Go.Vg
open Go.RowKit
variable {P : Program} {X : Nat → Prop} {w : World} {ρ : Rho}
theorem apnA_yield {gds : List (Option Nat)} {t : List (Nat × AV)} {m : Mem} {dst : Option Nat} {op : Op} {type : TypeId} {pos : String} {after : Array Edge} {sz : Nat} {l : List AV} {p : Prop} (h : apnA P (evo t) op = some (sz, l, p)) (hp : p) (hpl : plainL l) (hsz0 : 0 < sz) (hok : okL 0 l) :
  Yield P gds t m ⟨dst, op, type, pos, after, none⟩ (.lst sz l) := by
 unfold apnA at h
 split at h <;> (try (cases h; done))
 rename_i c
 split at h <;> (try (cases h; done))
 rename_i hc
 split at h <;> (try (cases h; done))
 rename_i d y t0 u hargs htys
 split at h <;> (try (cases h; done))
 rename_i sz' new hd hy
 split at h <;> (try (cases h; done))
 rename_i e e' hut huu
 split at h <;> (try (cases h; done))
 rename_i sz0 by_ hsz hby
 split at h <;> (try (cases h; done))
 rename_i hel
 simp only [Option.some.injEq, Prod.mk.injEq] at h
 obtain ⟨rfl, rfl, rfl⟩ := h
 obtain ⟨hb, hm, hss⟩ := hp
 have e1 : c.args = #[d, y] := by apply Array.ext'; simpa using hargs
 have e2 : c.argTypes = #[t0, u] := by apply Array.ext'; simpa using htys
 refine ⟨fun c' e => (by simp at e), fun X w ρ a hi hr hn => ⟨fun _ => ?_, fun hw => (by simp [Region.wanted] at hw)⟩⟩
 have ho := evo_of (op := .call c) (fun n hn => hr n (.inr hn))
 have hd' := ho d (by simp [Op.operands, Call.operands, e1, hc])
 have hy' := ho y (by simp [Op.operands, Call.operands, e1, hc])
 rw [hd] at hd'
 rw [hy] at hy'
 have hfr : ∀ b, Free X ρ b → Free (fun _ => False) [(⟨0, none, 0, 0, 0⟩ : RE)] b := fun b _ => ⟨fun h => h, fun r hr => by
  simp only [List.mem_singleton] at hr; subst hr; intro h; cases h⟩
 have hi0 : Inv (fun _ => False) w [(⟨0, none, 0, 0, 0⟩ : RE)] [⟨0, .row 0 []⟩] := by
  refine ⟨rfl, fun i r e hr he => ?_, fun i j r r' b h1 h2 h3 h4 => ?_, fun i r b h1 h2 => ?_, fun b h => h.elim, ⟨fun g hg => ⟨(hi.gd.1 g hg).1, fun r hr => by simp only [List.mem_singleton] at hr; subst hr; simp⟩, fun g s hg => let ⟨b, o, c, h1, h2, h3, h4, h5, h6, h7⟩ := hi.gd.2.1 g s hg; ⟨b, o, c, h1, h2, h3, h4, h5, hfr _ h6, hfr _ h7⟩, fun g v hg => ⟨(hi.gd.2.2 g v hg).1, hfr _ (hi.gd.2.2 g v hg).2⟩⟩⟩
  ·cases i with
   | zero =>
    simp only [List.getElem?_cons_zero, Option.some.injEq] at hr he
    subst hr; subst he
    exact ⟨rfl, rfl, fun _ => rfl, fun b h => by cases h⟩
   | succ i => simp at hr
  ·cases i with
   | zero => simp only [List.getElem?_cons_zero, Option.some.injEq] at h1; subst h1; cases h3
   | succ i => simp at h1
  ·cases i with
   | zero => simp only [List.getElem?_cons_zero, Option.some.injEq] at h1; subst h1; cases h2
   | succ i => simp at h1
 have hk1 : AV.ok 0 .emp := trivial
 obtain ⟨v, w', ρ', q1, q2, q3, q4⟩ := app_at (P := P) (ty := type) hi0 (id := 0) (ver := 0) (k0 := .row 0 []) rfl ((Rp.eyes hfr .emp trivial).1 _ hd') ((Rp.eyes hfr (.lst sz' new) hok).1 _ hy') hut huu hsz hby hel hb hm hss
 have k3 : Tr w [] w' ρ' := ⟨q2.os, q2.tape, q2.output, q2.size, fun i r h => by simp at h, fun b _ hlt => q2.block b (by intro r hr; simp only [List.mem_singleton] at hr; subst hr; simp) hlt⟩
 have hl1 : ρ'.length = 1 := q3.len
 obtain ⟨r0, rfl⟩ : ∃ r0, ρ' = [r0] := by
  cases ρ' with
  | nil => simp at hl1
  | cons r l => cases l with
   | nil => exact ⟨r, rfl⟩
   | cons _ _ => simp at hl1
 obtain ⟨v0, z1, z2, z3⟩ := q3.at_ 0 r0 _ rfl rfl
 have hge : ∀ b, r0.blk = some b → w.heap.size ≤ b := fun b hb => by
  rcases Nat.lt_or_ge b w.heap.size with h | h
  ·exact absurd hb ((k3.block b (fun r hr => by cases hr) h).1 r0 (by simp))
  ·exact h
 have hbl : ∀ r ∈ ρ, ∀ b, r.blk = some b → b < w.heap.size := fun r hr' b hb' => by
  obtain ⟨i, hi', rfl⟩ := List.getElem_of_mem hr'
  exact (hi.new i _ b (List.getElem?_eq_getElem hi') hb').1
 obtain ⟨A, c', r, y1, y2, y3, y4⟩ := q4
 simp at y2
 subst y2
 obtain ⟨x1, x2, x3⟩ := y4 (by rw [v0])
 refine .inl ⟨v, w', by unfold execOp; simp [resolve, hc, invoke, builtin, e1, e2, q1], ⟨A, c', y1, x1, x2, fun hne => ?_⟩, hi.keep k3, k3.keep ρ hbl⟩
 have hp : 0 < new.length := by cases new with
  | nil => exact absurd rfl hne
  | cons _ _ => simp
 obtain ⟨b, b1, b2, b3⟩ := x3 (by omega)
 obtain ⟨_, _, g3⟩ := z3 b b1
 refine ⟨b, r0.base, by rw [b2]; simp, ⟨fun hx => ?_, fun r hr' hb => ?_⟩, hsz0, Rrow.plain hpl g3⟩
 ·have := hi.out b hx
  have := hge b b1; omega
 ·have := hbl r hr' b hb
  have := hge b b1; omega
theorem Run.apnF {gds : List (Option Nat)} {l : List Oper} {Q : S → Prop} {s : S} {dst : Option Nat} {op : Op} {type : TypeId} {pos : String} {after : Array Edge} {sz : Nat} {row : List AV} {p : Prop} (h : apnA P (evo s.t) op = some (sz, row, p)) (hp : p) (hpl : plainL row ∧ 0 < sz ∧ okL 0 row) (k : Run P gds l Q (putA s dst (.lst sz row))) : Run P gds (⟨dst, op, type, pos, after, none⟩ :: l) Q s :=
 Run.yieldN (o := ⟨dst, op, type, pos, after, none⟩) (apnA_yield h hp hpl.1 hpl.2.1 hpl.2.2) k
theorem lit0e_yield {gds : List (Option Nat)} {t : List (Nat × AV)} {m : Mem} {dst : Option Nat} {ty type : TypeId} {pos : String} {after : Array Edge} {sz : Nat} {p : Prop} (h : bldA P (evo t) (.buildSlice ty 0 #[]) = some (sz, [], p)) (hp : p) : Yield P gds t m ⟨dst, .buildSlice ty 0 #[], type, pos, after, none⟩ .emp := by
 refine ⟨fun c e => (by cases e), fun X w ρ a hi hr hn => ⟨fun _ => ?_, fun hw => (by simp [Region.wanted] at hw)⟩⟩
 obtain ⟨e, arr, vs, h1, _⟩ := bldA_run (P := P) (o := ⟨dst, .buildSlice ty 0 #[], type, pos, after, none⟩) (X := X) (w := w) (ρ := ρ) (a := a) (fun y hy => by simp [Op.operands] at hy) h hp
 obtain ⟨q1, q2⟩ := push_keep hi arr e
 exact .inl ⟨_, _, h1, ⟨_, rfl⟩, q2, q1⟩
theorem AbsG.lit0e {gds : List (Option Nat)} {m : Mem} {n k : Nat} {acc acc' : Mem} {l : List Oper} {t t' : List (Nat × AV)} {es : List (Nat × Nat × Ent)} {sq : List Nat} {dst : Option Nat} {ty type : TypeId} {pos : String} {after : Array Edge} {sz : Nat} {p : Prop} (h1 : dstB n dst = true) (h : bldA P (evo t) (.buildSlice ty 0 #[]) = some (sz, [], p)) (hp : p)
  (h4 : AbsG P gds m n (k + 1) acc l (upd t dst .emp) t' es sq acc') : AbsG P gds m n k acc (⟨dst, .buildSlice ty 0 #[], type, pos, after, none⟩ :: l) t t' es sq acc' :=
 .cons h1 (fun z => (lit0e_yield h hp).stepAt) h4
theorem AbsG.apnF {gds : List (Option Nat)} {m : Mem} {n k : Nat} {acc acc' : Mem} {l : List Oper} {t t' : List (Nat × AV)} {es : List (Nat × Nat × Ent)} {sq : List Nat} {dst : Option Nat} {op : Op} {type : TypeId} {pos : String} {after : Array Edge} {sz : Nat} {row : List AV} {p : Prop} (h1 : dstB n dst = true) (h2 : apnA P (evo t) op = some (sz, row, p)) (h3 : p) (hpl : plainL row ∧ 0 < sz ∧ okL 0 row)
  (h4 : AbsG P gds m n (k + 1) acc l (upd t dst (.lst sz row)) t' es sq acc') : AbsG P gds m n k acc (⟨dst, op, type, pos, after, none⟩ :: l) t t' es sq acc' :=
 .cons h1 (fun z => (apnA_yield h2 h3 hpl.1 hpl.2.1 hpl.2.2).stepAt) h4
end Go.Vg
set_option maxHeartbeats 16000000
namespace Go.Proofs.Tryz
open Go.Vg
theorem clone_spec (l : List Int) (hl : l.length ≤ 100000000) : Go.Vg.Spec Tryz.prog 91 [.ints l] [] (fun x m' => x = .osl 0 0 0 l.length ∧ m' = [⟨0, .row 1 (l.map AV.int)⟩]) := by
 (refine Spec.bd 1 Tryz.func91 Tryz.results91 Tryz.ntmps91 ?_; simp only [entry, zipArgs, Nat.reduceAdd])
 (refine w_go ?_)
 apply Run.isnil; (exact w_ev); (exact w_ev)
 intro b hb
 dsimp only [S.put, optG]
 (apply Run.nil; dsimp only [sQ, tQ, bQ])
 (apply Wp.cond; (exact w_ev))
 ·intro hc
  subst hc
  simp only [push_cast, seval] at hb
  (refine w_go ?_)
  apply Wp.adopt 2 1; (exact w_ev)
  (first | exact w_retK | refine w_retKZ ?_)
  simp at hb
  subst hb
  simp
 ·intro hc
  (refine w_go ?_)
  (first | exact w_retK | refine w_retKZ ?_)
def Lv (n : Nat) (c : List Lt) : Prop := ∀ x ∈ c, 0 ≤ x.th ∧ x.th < (n : Int)
theorem Lv_of {ts : List Th} {c : List Lt} (h : cdB ts c = true) : Lv ts.length c := by
 intro x hx
 unfold cdB at h
 simp only [Bool.and_eq_true, List.all_eq_true] at h
 have := h.2 x hx
 unfold stB at this
 simp only [Bool.and_eq_true, wi_iff] at this
 omega
theorem memLt' {l : List Lt} {k : Nat} (h : k < l.length) : l.getD k lt0 ∈ l := by simp [h]
def litB (ts : List Int) (l : Lt) : Bool := decide (ts.getD l.th.toNat 0 = l.st) == l.no
theorem hdB_eq (ts : List Int) (c : List Lt) : hdB ts c = !c.any (litB ts) := by
 unfold hdB
 induction c with
 | nil => rfl
 | cons a c ih => simp only [List.all_cons, List.any_cons, ih, Bool.not_or]; rfl
theorem Holding_pure (s : St) (hs : Zs s) (c : List Lt) (hc : c.length ≤ 100) (hv : Lv s.ts.length c) : Pure Tryz.prog 94 [stA s, cdA c] (.bool (hdB s.ts c)) := by
 have y1 := hs.ts
 rw [hdB_eq]
 unfold stA
 (refine Spec.bd 0 Tryz.func94 Tryz.results94 Tryz.ntmps94 ?_; simp only [entry, zipArgs, Nat.reduceAdd])
 ((refine w_pre ?_); (iterate 2 (refine w_nr ?_)); (refine w_nil ?_))
 (refine w_fzP (slq 2) ?_)
 (refine w_go ?_)
 refine Wp.loop (fun k : Nat => { t := [(1, cdA c), (2, .ref [.ints s.ts, .ints s.pp, .ints s.pl] 0), (5, .int k)], m := [⟨1, .row 3 []⟩], n := 33 }) (fun k => k ≤ c.length ∧ ∀ j, j < k → litB s.ts (c.getD j lt0) = false) (fun k => c.length - k) 0 ?_ ?_ ?_
 ·(refine Le.of ?_ ?_ rfl rfl <;> (try simp only [push_cast, seval]) <;> (try (with_reducible rfl)))
  all_goals rfl
 ·simp
 ·rintro k ⟨hk1, hk2⟩
  (refine w_go ?_)
  (apply Wp.cond; (exact w_ev))
  ·intro hk3
   have hkc : k < c.length := by simp only [decide_eq_true_eq] at hk3; omega
   have hx2 := hv _ (memLt' hkc)
   have hlb : litB s.ts (c.getD k lt0) = (decide (s.ts.getD (c.getD k lt0).th.toNat 0 = (c.getD k lt0).st) == (c.getD k lt0).no) := rfl
   generalize hx : c.getD k lt0 = x at hx2 hlb
   (refine x_go @hx ?_)
   (refine Wp.rnD 21 ?_; apply exAb; (((refine x_abn @hx ?_)); exact Abn.nil))
   (refine x_go @hx ?_)
   (apply Wp.cond; (exact x_ev @hx))
   ·intro h2
    (refine x_go @hx ?_)
    (first | exact x_ret @hx | refine x_retZ @hx ?_)
    rw [any_bad (d := lt0) (p := litB s.ts) hkc (by rw [hx, hlb]; simpa using h2)]
    rfl
   ·intro h2
    (refine x_go @hx ?_)
    refine ⟨k + 1, ?_, ⟨by omega, fun j hj => ?_⟩, by omega⟩
    ·(refine Le.of ?_ ?_ rfl rfl <;> (try simp only [push_cast, seval, hx]) <;> (try (with_reducible rfl)))
    ·by_cases hjk : j = k
     ·subst hjk; rw [hx, hlb]; simpa using h2
     ·exact hk2 j (by omega)
  ·intro hk3
   obtain rfl : k = c.length := by simp only [decide_eq_false_iff_not] at hk3; omega
   (refine w_go ?_)
   (first | exact w_ret | refine w_retZ ?_)
   rw [any_none (d := lt0) (p := litB s.ts) hk2]
   rfl
abbrev tbC (r : Rm) (s : St) : List AV := [.strs r.ps, .lst 4 (r.ts.map thA), .lst 3 (r.pp.map ppA), .lst 3 (r.wy.map wyA), .lst 8 (r.ac.map acA), .lst 3 (r.au.map auA), .int r.n, .lst 3 (r.goal.map ltA), .ints s.ts, .ints s.pp, .ints s.pl]
theorem holds1_pure (r : Rm) (s : St) (hs : Zs s) (x : Lt) (hx : 0 ≤ x.th ∧ x.th < (s.ts.length : Int)) : Pure Tryz.prog 166 [ltA x, .ref [.ref (tbC r s) 0] 0] (.bool (litB s.ts x)) := by
 unfold litB
 (refine Spec.bd 0 Tryz.func166 Tryz.results166 Tryz.ntmps166 ?_; simp only [entry, zipArgs, Nat.reduceAdd])
 (refine w_go ?_)
 (refine Wp.rnD 16 ?_; apply exAb; (((refine w_abn ?_)); exact Abn.nil))
 (refine w_go ?_)
 (first | exact w_ret | refine w_retZ ?_)
theorem holds_pure (r : Rm) (s : St) (hs : Zs s) (c : List Lt) (hc : c.length ≤ 100) (hv : Lv s.ts.length c) : Pure Tryz.prog 136 [.ref (tbC r s) 0, cdA c] (.bool (hdB s.ts c)) := by
 have hcf := containsFuncLt c 166 [.ref [.ref (tbC r s) 0] 0] (litB s.ts) (Enters.of Tryz.func166 rfl rfl) (by simp [okL, AV.ok, okL_str, okL_th, okL_pp, okL_wy, okL_ac, okL_au, okL_lt, okL_mapInt]) (fun m => ⟨rfl, rfl⟩) (fun x hx => holds1_pure r s hs x (hv x hx)) (by omega)
 rw [hdB_eq]
 (refine Spec.bd 0 Tryz.func136 Tryz.results136 Tryz.ntmps136 ?_; simp only [entry, zipArgs, Nat.reduceAdd])
 ((refine w_pre ?_); (iterate 2 (refine w_nr ?_)); (refine w_nil ?_))
 (refine w_fzP (slq 2) ?_)
 (refine w_go ?_)
 (apply Run.pureP; (exact w_ev); (exact (Enters.of Tryz.func142 rfl rfl)); (exact hcf); (exact w_al); (try dsimp only [putA, optG]))
 (refine w_go ?_)
 (first | exact w_ret | refine w_retZ ?_)
def Av (n : Nat) (a : Au) : Prop := Lv n a.wh ∧ 0 ≤ a.th ∧ a.th < (n : Int) ∧ a.wh.length ≤ 20
theorem settle1_pure (r : Rm) (s : St) (hs : Zs s) (a : Au) (ha : Av s.ts.length a) : Pure Tryz.prog 153 [auA a, .ref [.ref (tbC r s) 0] 0] (.bool (enB s.ts a)) := by
 obtain ⟨a1, a2, a3, a4⟩ := ha
 have hh := holds_pure r s hs a.wh (by omega) a1
 have he : enB s.ts a = (!decide (s.ts.getD a.th.toNat 0 = a.st) && hdB s.ts a.wh) := by unfold enB; rw [Bool.and_comm]
 rw [he]
 unfold auA
 (refine Spec.bd 0 Tryz.func153 Tryz.results153 Tryz.ntmps153 ?_; simp only [entry, zipArgs, Nat.reduceAdd])
 (refine w_go ?_)
 (refine Wp.rnD 21 ?_; apply exAb; (((refine w_abn ?_); (apply Abn.pureP; (exact w_ev); (exact (Enters.of Tryz.func136 rfl rfl)); (exact hh); (exact w_al); (try dsimp only [putA, optG])); (refine w_abn ?_)); exact Abn.nil))
 (refine w_go ?_)
 (first | exact w_ret | refine w_retZ ?_)
end Go.Proofs.Tryz
set_option maxHeartbeats 16000000
namespace Go.Proofs.Tryz
open Go.Vg
theorem Vw.ointsR {m : Mem} {id ver n : Nat} {l : List Int} (h : m[id]? = some ⟨ver, .row 1 (l.map AV.int)⟩) (hn : n = l.length) : Vw m (.osl id ver 0 n) (.ints l) := by
 refine Vw.osl h (by rw [List.length_map]; omega) (by omega) ?_
 rw [List.drop_zero, List.take_of_length_le (by rw [List.length_map]; omega)]
 exact VwL.okAll (by rw [okL_mapInt]; trivial)
abbrev tbO (r : Rm) (b vb n : Nat) (pp pl : List Int) : List AV := [.strs r.ps, .lst 4 (r.ts.map thA), .lst 3 (r.pp.map ppA), .lst 3 (r.wy.map wyA), .lst 8 (r.ac.map acA), .lst 3 (r.au.map auA), .int r.n, .lst 3 (r.goal.map ltA), .osl b vb 0 n, .ints pp, .ints pl]
theorem VwL.app {m : Mem} {xs ys zs us : List AV} (h : VwL m xs ys) (k : VwL m zs us) : VwL m (xs ++ zs) (ys ++ us) := by
 induction xs generalizing ys with
 | nil => cases h; exact k
 | cons a xs ih => cases h with | cons h1 h2 => exact .cons h1 (ih h2)
theorem VwTb {m : Mem} {b vb n : Nat} {ts : List Int} (r : Rm) (pp pl : List Int) (h : m[b]? = some ⟨vb, .row 1 (ts.map AV.int)⟩) (hn : n = ts.length) : VwL m (tbO r b vb n pp pl) (tbC r ⟨ts, pp, pl⟩) := by
 have h1 : VwL m (rmC r) (rmC r) := VwL.okAll (by rw [okL_rm]; trivial)
 have h2 : VwL m [.ints pp, .ints pl] [.ints pp, .ints pl] := VwL.okAll (by simp [okL, AV.ok, okL_mapInt])
 exact VwL.app h1 (.cons (Vw.ointsR h hn) h2)
theorem memAuE {l : List Au} {a : Au} {p : Au → Bool} (h : l.find? p = some a) : ∃ i : Nat, i < l.length ∧ l.findIdx p = i ∧ l.getD i au0 = a ∧ l.any p = true ∧ a ∈ l := by
 have hm := List.mem_of_find?_eq_some h
 have hp := List.find?_some h
 have ha : l.any p = true := List.any_eq_true.2 ⟨a, hm, hp⟩
 have hlt : l.findIdx p < l.length := List.findIdx_lt_length.2 ⟨a, hm, hp⟩
 refine ⟨l.findIdx p, hlt, rfl, ?_, ha, hm⟩
 have : l.find? p = some l[l.findIdx p] := by
  rw [List.find?_eq_some_iff_getElem]
  refine ⟨List.findIdx_getElem (w := hlt), l.findIdx p, hlt, rfl, fun j hj => ?_⟩
  have := List.not_of_lt_findIdx hj
  simpa using this
 rw [h] at this
 simp [hlt, (Option.some.inj this)]
theorem settle_spec (r : Rm) {n : Nat} (hn : n ≤ 100) (hau : ∀ a ∈ r.au, Av n a) (hal : r.au.length ≤ 20) {pp pl : List Int} (hpp : pp.length ≤ 100) (hpl : pl.length ≤ 100) {m : Mem} {a va b vb : Nat} (hab : a ≠ b) {ts : List Int} (hts : ts.length = n)
  (ha : m[a]? = some ⟨va, .row 11 [.agg (tbO r b vb n pp pl)]⟩) (hb : m[b]? = some ⟨vb, .row 1 (ts.map AV.int)⟩) :
  Go.Vg.Spec Tryz.prog 118 [.optr a va 0 0] m (fun x m' => ∃ ts', m' = m.set b ⟨vb, .row 1 (ts'.map AV.int)⟩ ++ [⟨0, .row 1 [.optr a va 0 0]⟩] ∧ (match stl r.au 101 ts with
   | some ts2 => x = .bool true ∧ ts' = ts2
   | none => x = .bool false)) := by
 have hal' : a < m.length := by
  rcases Nat.lt_or_ge a m.length with q | q
  ·exact q
  ·rw [List.getElem?_eq_none q] at ha; cases ha
 have hbl' : b < m.length := by
  rcases Nat.lt_or_ge b m.length with q | q
  ·exact q
  ·rw [List.getElem?_eq_none q] at hb; cases hb
 have hself : m.set b ⟨vb, .row 1 (ts.map AV.int)⟩ = m := by
  apply List.ext_getElem?
  intro i
  rw [List.getElem?_set]
  split
  ·rename_i e; subst e; exact hb.symm
  ·rfl
 obtain ⟨N, hNd⟩ : ∃ N : List Int → Mem, ∀ ts, N ts = m.set b ⟨vb, .row 1 (ts.map AV.int)⟩ ++ [⟨0, .row 1 [.optr a va 0 0]⟩] := ⟨_, fun _ => rfl⟩
 have h0 : m ++ [(⟨0, .row 1 [.optr a va 0 0]⟩ : Ent)] = N ts := by rw [hNd, hself]
 have h1 : ∀ ts, (N ts)[a]? = some ⟨va, .row 11 [.agg (tbO r b vb n pp pl)]⟩ := fun ts => by
  rw [hNd, List.getElem?_append_left (by rw [List.length_set]; exact hal'), List.getElem?_set_ne (fun e => hab e.symm)]; exact ha
 have h2 : ∀ ts, (N ts)[b]? = some ⟨vb, .row 1 (ts.map AV.int)⟩ := fun ts => by
  rw [hNd, List.getElem?_append_left (by rw [List.length_set]; exact hbl'), List.getElem?_set_self hbl']
 have h3 : ∀ ts, (N ts)[m.length]? = some ⟨0, .row 1 [.optr a va 0 0]⟩ := fun ts => by
  rw [hNd, List.getElem?_append_right (by rw [List.length_set]; omega), List.length_set]; simp
 have h4 : ∀ ts t2, (N ts).set b ⟨vb, .row 1 (t2.map AV.int)⟩ = N t2 := fun ts t2 => by
  rw [hNd, hNd, List.set_append_left _ _ (by rw [List.length_set]; exact hbl'), List.set_set]
 have hQ : ∀ ts', m.set b ⟨vb, .row 1 (ts'.map AV.int)⟩ ++ [⟨0, .row 1 [.optr a va 0 0]⟩] = N ts' := fun ts' => (hNd ts').symm
 simp only [hQ]
 have hcf := fun (t2 : List Int) (h : t2.length = n) => indexFuncAu r.au 153 [.ref [.ref (tbC r ⟨t2, pp, pl⟩) 0] 0] (enB t2) (Enters.of Tryz.func153 rfl rfl) (by simp [okL, AV.ok, okL_str, okL_th, okL_pp, okL_wy, okL_ac, okL_au, okL_lt, okL_mapInt]) (fun m => ⟨rfl, rfl⟩) (fun x hx => settle1_pure r ⟨t2, pp, pl⟩ ⟨by rw [h]; exact hn, hpp, hpl⟩ x (by rw [h]; exact hau x hx)) (by omega)
 have hvw := fun (t2 : List Int) (h : t2.length = n) => VwTb (m := N t2) r pp pl (h2 t2) h.symm
 clear hNd hQ hself
 generalize hL : m.length = L at h3
 (refine Spec.of_bodyA Tryz.func118 rfl (by rw [Tryz.ntmps118]; simp) ?_; rw [Tryz.results118, Tryz.ntmps118]; simp only [entry, zipArgs, Nat.reduceAdd])
 ((refine x_pre @hL ?_); (iterate 2 (refine x_nr @hL ?_)); (refine x_nil @hL ?_))
 rw [h0]
 (refine x_go @hL ?_)
 refine Wp.loop (fun (q : Nat × List Int) => { t := [(1, .optr L 0 0 0), (4, .int q.1)], m := N q.2, n := 42 }) (fun q => q.1 ≤ 101 ∧ q.2.length = n ∧ stl r.au 101 ts = stl r.au (101 - q.1) q.2) (fun q => 101 - q.1) (0, ts) ?_ ?_ ?_
 ·(refine Le.of ?_ ?_ rfl rfl <;> (try simp only [push_cast, seval, h1, h2, h3, h4]) <;> (try (with_reducible rfl)))
 ·exact ⟨by simp, hts, rfl⟩
 ·rintro ⟨k, t2⟩ ⟨hk1, hk2, hk3⟩
  simp only at hk1 hk2 hk3
  (refine x_go (zc @h1 (zc @h2 (zc @h3 @h4))) ?_)
  (apply Wp.cond; (exact x_ev (zc @h1 (zc @h2 (zc @h3 @h4)))))
  ·intro hk4
   have hk5 : k < 101 := by simp only [decide_eq_true_eq] at hk4; omega
   have hst : stl r.au (101 - k) t2 = match r.au.find? (enB t2) with
    | none => some t2
    | some a => stl r.au (101 - (k + 1)) (t2.set a.th.toNat a.st) := by
    rw [show 101 - k = (101 - (k + 1)) + 1 by omega]; rfl
   have hcf2 := hcf t2 hk2
   cases hf : r.au.find? (enB t2) with
   | none =>
    rw [hf] at hst
    have hany : r.au.any (enB t2) = false := by
     rw [List.find?_eq_none] at hf
     rw [List.any_eq_false]; exact hf
    rw [hany] at hcf2
    simp only [Bool.false_eq_true, if_false] at hcf2
    (refine x_go (zc @h1 (zc @h2 (zc @h3 @h4))) ?_)
    (apply Run.pureW; (exact x_ev (zc @h1 (zc @h2 (zc @h3 @h4)))); (exact (Enters.of Tryz.func152 rfl rfl)); (exact hcf2); (exact VwL.cons (Vw.self (by simp [AV.ok, okL_au])) (VwL.cons (Vw.clo (VwL.cons (Vw.optr (h3 t2) rfl (by simp [AV.cells]) (VwL.cons (Vw.optr (h1 t2) rfl (by simp [AV.cells]) (hvw t2 hk2)) VwL.nil)) VwL.nil)) VwL.nil)); (simp only [push_cast, seval, h1, h2, h3, h4] <;> first | trivial | assumption | (refine ⟨?_, ?_⟩ <;> assumption) | (simp; done)); (try dsimp only [putA, optG]))
    (refine x_gg (zc @h1 (zc @h2 (zc @h3 @h4))) ?_)
    (first | exact x_retA (zc @h1 (zc @h2 (zc @h3 @h4))) | refine x_retAZ (zc @h1 (zc @h2 (zc @h3 @h4))) ?_)
    refine ⟨t2, rfl, ?_⟩
    rw [hk3, hst]
   | some x =>
    rw [hf] at hst
    obtain ⟨i, hi, hfi, hgi, hany, hmx⟩ := memAuE hf
    obtain ⟨q1, q2, q3, q4⟩ := hau x hmx
    rw [hany, hfi] at hcf2
    simp only [if_true] at hcf2
    have e1 : decide ((i : Int) < 0) = false := decide_eq_false (by omega)
    (refine x_go (zc @h1 (zc @h2 (zc @h3 (zc @h4 (zc @e1 (zc @hgi (zc (fun d => getD_au (d := d) hi) @auA.eq_1))))))) ?_)
    (apply Run.pureW; (exact x_ev (zc @h1 (zc @h2 (zc @h3 (zc @h4 (zc @e1 (zc @hgi (zc (fun d => getD_au (d := d) hi) @auA.eq_1)))))))); (exact (Enters.of Tryz.func152 rfl rfl)); (exact hcf2); (exact VwL.cons (Vw.self (by simp [AV.ok, okL_au])) (VwL.cons (Vw.clo (VwL.cons (Vw.optr (h3 t2) rfl (by simp [AV.cells]) (VwL.cons (Vw.optr (h1 t2) rfl (by simp [AV.cells]) (hvw t2 hk2)) VwL.nil)) VwL.nil)) VwL.nil)); (simp only [push_cast, seval, h1, h2, h3, h4, e1, hgi, getD_au hi, auA] <;> first | trivial | assumption | (refine ⟨?_, ?_⟩ <;> assumption) | (simp; done)); (try dsimp only [putA, optG]))
    (refine x_gg (zc @h1 (zc @h2 (zc @h3 (zc @h4 (zc @e1 (zc @hgi (zc (fun d => getD_au (d := d) hi) @auA.eq_1))))))) ?_)
    (apply Wp.runE 26 26 mixed; (dsimp only [List.map] <;> exact rfl); exact rfl; kernel_rfl; ((refine x_nx (zc @h1 (zc @h2 (zc @h3 (zc @h4 (zc @e1 (zc @hgi (zc (fun d => getD_au (d := d) hi) @auA.eq_1))))))) ?_); (refine x_ef (zc @h1 (zc @h2 (zc @h3 (zc @h4 (zc @e1 (zc @hgi (zc (fun d => getD_au (d := d) hi) @auA.eq_1))))))) ?_); exact Abe.nil))
    (refine x_go (zc @h1 (zc @h2 (zc @h3 (zc @h4 (zc @e1 (zc @hgi (zc (fun d => getD_au (d := d) hi) @auA.eq_1))))))) ?_)
    refine ⟨(k + 1, t2.set x.th.toNat x.st), ?_, ⟨by simp only; omega, by simp only [List.length_set]; exact hk2, ?_⟩, by simp only; omega⟩
    ·(refine Le.of ?_ ?_ rfl rfl <;> (try simp only [push_cast, seval, h1, h2, h3, h4, e1, hgi, getD_au hi, auA]) <;> (try (with_reducible rfl)))
    ·simp only
     rw [hk3, hst]
  ·intro hk4
   obtain rfl : k = 101 := by simp only [decide_eq_false_iff_not] at hk4; omega
   (refine x_go (zc @h1 (zc @h2 (zc @h3 @h4))) ?_)
   (first | exact x_retA (zc @h1 (zc @h2 (zc @h3 @h4))) | refine x_retAZ (zc @h1 (zc @h2 (zc @h3 @h4))) ?_)
   refine ⟨t2, rfl, ?_⟩
   rw [hk3]
   simp [stl]
end Go.Proofs.Tryz
