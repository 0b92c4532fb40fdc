/- A part of the proof of StoreSafe: contracts of functions, with plain laws that they need. -/
import Derived.Test.YtljchlkmalidnaaVgWd
import Derived.Test.YtljchlkmalidnaaVgDm
import Derived.Test.YtljchlkmalidnaaVgY34J
set_option linter.all false
set_option maxHeartbeats 8000000
set_option maxRecDepth 20000
namespace Go.Proofs.Try
open Go.Vg

/-! Count: kind by kind -/
def knB (B q : Nat) : List AV := (List.range q).map fun i => .omap (B + (5 + i)) 1
theorem knB_succ (B q : Nat) : knB B (q + 1) = knB B q ++ [.omap (B + (5 + q)) 1] := by simp [knB, List.range_succ]
theorem knB_len (B q : Nat) : (knB B q).length = q := by simp [knB]
theorem knB_knL (B q : Nat) : knB B q = knL (B + 5) q := by
  unfold knB knL
  refine List.map_congr_left fun i _ => ?_
  rw [Nat.add_assoc]
theorem kdsL_succ {ls : List Ln} {i : Nat} (h : i < ls.length) (k : Nat) : kdsL (ls.take (i + 1)) k = if (ls.getD i ln0).kind = (k : Int) then kdsL (ls.take i) k ++ [ls.getD i ln0] else kdsL (ls.take i) k := by
  have e : ls.take (i + 1) = ls.take i ++ [ls.getD i ln0] := by rw [List.take_add_one]; simp [h]
  unfold kdsL
  rw [e, List.filter_append]
  generalize ls.getD i ln0 = x
  by_cases c : x.kind = (k : Int)
  · rw [if_pos c]; simp [c]
  · rw [if_neg c]; simp [c]
theorem kdsL_le (ls : List Ln) (i k : Nat) : (kdsL (ls.take i) k).length ≤ (kdsL ls k).length := by
  have h : (kdsL (ls.take i) k).Sublist (kdsL ls k) := (List.take_sublist i ls).filter _
  exact h.length_le
theorem kdsL_len (ls : List Ln) (k : Nat) : (kdsL ls k).length ≤ ls.length := List.length_filter_le _ _
theorem asc_of {S : List Ln} (h : SortA Ln.fr S) : Asc Ln.fr S := by
  induction S with
  | nil => trivial
  | cons x S ih =>
    unfold SortA at h
    rw [List.pairwise_cons] at h
    exact ⟨h.1, ih h.2⟩
theorem cn_kindG {ks : List St} {ls : List Ln} (hv : SV ks ls) {k : Nat} {sls : List Ln} (hp : sls.Perm (kdsL ls k)) (ha : Asc Ln.fr sls) :
    gS Ln.fr Ln.to Ln.uses (ks.getD k st0).life sls (List.replicate (itK ks k) (0, 0)) = cnA ks ls k := by
  rw [← cn_kind hv (so := id) (fun _ => List.Perm.refl _) hp ha, cP_gS (so := id) (fun _ => List.Perm.refl _) sls _ (fun l hl => ?_) ha]
  have := hp.mem_iff.1 hl
  simp only [kdsL, List.mem_filter] at this
  have := hv.mem this.1
  exact ⟨this.2.1.1, this.2.1.2.1, this.2.2.1⟩
theorem pd_zero {ks : List St} {ls : List Ln} {k : Nat} (h : cnA ks ls k = 0) : ∀ {n : Nat}, k < n → pdK ks ls n = 0
  | 0, hk => by omega
  | n + 1, hk => by
    rw [pdK]
    by_cases e : k = n
    · subst e; rw [h, Nat.mul_zero]
    · rw [pd_zero h (by omega), Nat.zero_mul]
theorem get5 {a0 a1 a2 a3 a4 : Ent} {l : Mem} {j : Nat} : (a0 :: a1 :: a2 :: a3 :: a4 :: l)[5 + j]? = l[j]? := by
  rw [show 5 + j = j + 1 + 1 + 1 + 1 + 1 by omega]; rfl
theorem set5 {a0 a1 a2 a3 a4 e : Ent} {l : Mem} {j : Nat} : (a0 :: a1 :: a2 :: a3 :: a4 :: l).set (5 + j) e = a0 :: a1 :: a2 :: a3 :: a4 :: l.set j e := by
  rw [show 5 + j = j + 1 + 1 + 1 + 1 + 1 by omega]; rfl
theorem vac_get {n k : Nat} {a b : Ent} (h : k < n) : (List.replicate k a ++ List.replicate (n - k) b)[k]? = some b := by
  rw [List.getElem?_append_right (by simp), List.length_replicate, Nat.sub_self, List.getElem?_replicate, if_pos (by omega)]
theorem vac_set {n k : Nat} {a b : Ent} (h : k < n) : (List.replicate k a ++ List.replicate (n - k) b).set k a = List.replicate (k + 1) a ++ List.replicate (n - (k + 1)) b := by
  rw [List.set_append_right _ _ (by simp)]
  obtain ⟨j, hj⟩ : ∃ j, n - k = j + 1 := ⟨n - k - 1, by omega⟩
  rw [hj, List.replicate_succ, List.length_replicate, Nat.sub_self, List.set_cons_zero, show n - (k + 1) = j by omega, List.replicate_succ']
  simp
theorem count_ok (ks : List St) (ls : List Ln) (h1 : chkE ks ls = 0) (hg : lgS ks ls = false) (hck : Pure Try.prog 28 [storA ks ls] (.int 0)) : Pure Try.prog 46 [storA ks ls] (.tup [.int (pdK ks ls ks.length : Nat), .int 0]) := by
  have hv := chkE_ok h1
  have hk8 := hv.k8
  have hl20 := hv.l20
  have hsm := small_loans hv hg
  have hpd := small_pd hv hg
  have hcn := small_cn hv hg
  (refine Spec.bd 0 Try.func46 Try.results46 Try.ntmps46 ?_; simp only [entry, zipArgs, Nat.reduceAdd])
  (refine w_go ?_)
  (apply Run.pureP; (exact w_ev); (exact (Enters.of Try.func28 rfl rfl)); (exact hck); (exact w_al); (try dsimp only [putA, optG]))
  (refine w_gg ?_)
  refine Wp.loop (fun (q : Nat × Mem) => { t := [(1, .optr 0 0 0 0), (5, .int (pdK ks ls q.1 : Nat)), (18, .lst 2 (ks.map stA)), (19, .int ks.length), (20, .int q.1)], m := q.2, n := 84 }) (fun q => q.1 ≤ ks.length ∧ q.2[0]? = some ⟨0, .row 2 [storA ks ls]⟩) (fun q => ks.length - q.1) (0, [⟨0, .row 2 [storA ks ls]⟩]) ?_ ?_ ?_
  · (refine Le.of ?_ ?_ rfl rfl <;> (try simp only [push_cast, seval]) <;> (try (with_reducible rfl)))
    all_goals rfl
  · exact ⟨by simp, rfl⟩
  · rintro ⟨k, M⟩ ⟨hk1, hM⟩
    simp only at hk1 hM
    obtain ⟨B, hB⟩ : ∃ B, M.length = B := ⟨_, rfl⟩
    have hM1 := (List.getElem?_eq_some_iff.1 hM).1
    have hm0 : ∀ l, (M ++ l)[0]? = some ⟨0, .row 2 [storA ks ls]⟩ := fun l => by rw [List.getElem?_append_left hM1, hM]
    have hb0 : ∀ l, (M ++ l)[B]? = l[0]? := fun l => getF0 hB
    have hbj : ∀ l j, (M ++ l)[B + j]? = l[j]? := fun l j => getF hB j
    have hs0 : ∀ l e, (M ++ l).set B e = M ++ l.set 0 e := fun l e => setF0 hB e
    have hsj : ∀ l j e, (M ++ l).set (B + j) e = M ++ l.set j e := fun l j e => setF hB j e
    have hap : ∀ (l l' : Mem), (M ++ l) ++ l' = M ++ (l ++ l') := fun l l' => List.append_assoc _ _ _
    (refine x_go (zc @hM (zc @hm0 (zc @hb0 (zc @hbj (zc @hs0 (zc @hsj (zc @hap (zc @hB @lenAp)))))))) ?_)
    (apply Wp.cond; (exact x_ev (zc @hM (zc @hm0 (zc @hb0 (zc @hbj (zc @hs0 (zc @hsj (zc @hap (zc @hB @lenAp))))))))))
    · intro hc
      simp only [decide_eq_true_eq, Int.ofNat_lt] at hc
      have hst := hv.st k hc
      have hsi := hsm.2 k hc
      have hik : itK ks k = (ks.getD k st0).items.toNat := rfl
      generalize hy : ks.getD k st0 = y at *
      (refine x_go (zc @hM (zc @hm0 (zc @hb0 (zc @hbj (zc @hs0 (zc @hsj (zc @hap (zc @hB (zc @lenAp (zc @hy @stA.eq_1)))))))))) ?_)
      refine Wp.adoptRowZ (B + 1) 1 5 (l' := [.agg [.osl (B + 2) 0 0 0, .int y.life, .int y.items, .emp]]) ((hbj _ 1).trans rfl) ⟨.inr ⟨_, _, rfl, rfl, .inl (.inr ⟨rfl, B + 2, by simp [hB], by simp [hB], rfl⟩), .inl (.inl rfl), .inl (.inl rfl), .inl (.inl rfl), trivial⟩, trivial⟩ ?_
      simp only [hsj, hap, List.set_cons_succ, List.set_cons_zero, List.replicate_succ, List.replicate_zero, List.cons_append, List.nil_append]
      refine Wp.adoptRow (B + 1) 1 (l' := [.agg [.osl (B + 2) 0 0 0, .int y.life, .int y.items, .osl (B + 3) 0 0 0]]) ((hbj _ 1).trans rfl) ⟨.inr ⟨_, _, rfl, rfl, .inl (.inl rfl), .inl (.inl rfl), .inl (.inl rfl), .inl (.inr ⟨rfl, B + 3, by simp [hB], by simp [hB], rfl⟩), trivial⟩, trivial⟩ ?_
      simp only [hsj, hap, List.set_cons_succ, List.set_cons_zero, List.replicate_succ, List.replicate_zero, List.cons_append, List.nil_append]
      (refine Wp.vacs 1 ?_; (try simp only [List.replicate_succ, List.replicate_zero, List.cons_append, List.nil_append]))
      refine Wp.vacs (kdsL ls k).length ?_
      simp only [hap, List.cons_append, List.nil_append]
      refine Wp.loop (fun (q : Nat × Nat × Kind) => { t := [(1, .optr 0 0 0 0), (5, .int (pdK ks ls k : Nat)), (18, .lst 2 (ks.map stA)), (19, .int ks.length), (20, .int k), (6, .int k), (8, .optr (B + 1) 0 0 0), (32, .lst 5 (ls.map lnA)), (33, .int ls.length), (34, .int q.1)], m := M ++ (⟨0, .row 2 [stA y]⟩ :: ⟨0, .row 4 [.agg [.osl (B + 2) (kdsL (ls.take q.1) k).length 0 (kdsL (ls.take q.1) k).length, .int y.life, .int y.items, .osl (B + 3) (kdsL (ls.take q.1) k).length 0 (kdsL (ls.take q.1) k).length]]⟩ :: ⟨(kdsL (ls.take q.1) k).length, .row 5 ((kdsL (ls.take q.1) k).map lnA)⟩ :: ⟨(kdsL (ls.take q.1) k).length, .row 1 (knB B (kdsL (ls.take q.1) k).length)⟩ :: ⟨q.2.1, q.2.2⟩ :: (List.replicate (kdsL (ls.take q.1) k).length ⟨1, .mp []⟩ ++ List.replicate ((kdsL ls k).length - (kdsL (ls.take q.1) k).length) ⟨0, .row 1 []⟩)), n := 84 }) (fun q => q.1 ≤ ls.length) (fun q => ls.length - q.1) (0, 0, .row 1 []) ?_ ?_ ?_
      · have e0 : kdsL (ls.take 0) k = [] := by simp [kdsL]
        simp only [e0, List.length_nil]
        (refine Le.of ?_ ?_ rfl rfl <;> (try simp only [push_cast, seval, hM, hm0, hb0, hbj, hs0, hsj, hap, hB, List.length_append, hy, stA]) <;> (try (with_reducible rfl)))
        all_goals (first | rfl | simp [knB])
      · simp
      · rintro ⟨i, v, kd⟩ hi1
        simp only at hi1
        (refine x_gs (zc @hM (zc @hm0 (zc @hb0 (zc @hbj (zc @hs0 (zc @hsj (zc @hap (zc @hB (zc @lenAp (zc @hy @stA.eq_1)))))))))) ?_)
        (apply Wp.cond; (exact x_ev (zc @hM (zc @hm0 (zc @hb0 (zc @hbj (zc @hs0 (zc @hsj (zc @hap (zc @hB (zc @lenAp (zc @hy @stA.eq_1))))))))))))
        · intro hc2
          simp only [decide_eq_true_eq, Int.ofNat_lt] at hc2
          have hks := kdsL_succ hc2 k
          have hpl := kdsL_le ls (i + 1) k
          have hpl0 := kdsL_le ls i k
          have hkl := kdsL_len ls k
          generalize (kdsL ls k).length = n0 at *
          generalize hx : ls.getD i ln0 = x at hks
          generalize kdsL (ls.take i) k = P at *
          have hkn := knB_len B P.length
          (refine x_gs (zc @hM (zc @hm0 (zc @hb0 (zc @hbj (zc @hs0 (zc @hsj (zc @hap (zc @hB (zc @lenAp (zc @hy (zc @stA.eq_1 (zc @hx (zc @lnA.eq_1 @hkn))))))))))))) ?_)
          (apply Run.alcAt (B + 4); (exact x_ev (zc @hM (zc @hm0 (zc @hb0 (zc @hbj (zc @hs0 (zc @hsj (zc @hap (zc @hB (zc @lenAp (zc @hy (zc @stA.eq_1 (zc @hx (zc @lnA.eq_1 @hkn)))))))))))))); (focus ((try simp only [push_cast, seval, hM, hm0, hb0, hbj, hs0, hsj, hap, hB, List.length_append, hy, stA, hx, lnA, hkn]) <;> exact sT)); (exact x_ev (zc @hM (zc @hm0 (zc @hb0 (zc @hbj (zc @hs0 (zc @hsj (zc @hap (zc @hB (zc @lenAp (zc @hy (zc @stA.eq_1 (zc @hx (zc @lnA.eq_1 @hkn)))))))))))))); (try simp only [push_cast, seval, hM, hm0, hb0, hbj, hs0, hsj, hap, hB, List.length_append, hy, stA, hx, lnA, hkn]))
          (refine x_go (zc @hM (zc @hm0 (zc @hb0 (zc @hbj (zc @hs0 (zc @hsj (zc @hap (zc @hB (zc @lenAp (zc @hy (zc @stA.eq_1 (zc @hx (zc @lnA.eq_1 @hkn))))))))))))) ?_)
          (apply Wp.cond; (exact x_ev (zc @hM (zc @hm0 (zc @hb0 (zc @hbj (zc @hs0 (zc @hsj (zc @hap (zc @hB (zc @lenAp (zc @hy (zc @stA.eq_1 (zc @hx (zc @lnA.eq_1 @hkn)))))))))))))))
          · intro h2
            simp only [decide_eq_true_eq] at h2
            rw [if_pos h2] at hks
            rw [hks, List.length_append, List.length_singleton] at hpl
            have hvg := vac_get (n := n0) (k := P.length) (a := (⟨1, .mp []⟩ : Ent)) (b := (⟨0, .row 1 []⟩ : Ent)) (by omega)
            have hvs := vac_set (n := n0) (k := P.length) (a := (⟨1, .mp []⟩ : Ent)) (b := (⟨0, .row 1 []⟩ : Ent)) (by omega)
            have hPt : P.take P.length = P := List.take_length
            have hKt : (knB B P.length).take P.length = knB B P.length := List.take_of_length_le (by omega)
            have hks2 := knB_succ B P.length
            (refine x_go (zc @hM (zc @hm0 (zc @hb0 (zc @hbj (zc @hs0 (zc @hsj (zc @hap (zc @hB (zc @lenAp (zc @hy (zc @stA.eq_1 (zc @hx (zc @lnA.eq_1 (zc @hkn (zc @get5 (zc @set5 (zc @hvg (zc @hvs (zc @hPt (zc @hKt @lenMp)))))))))))))))))))) ?_)
            (apply Wp.runW 7 10 (fun m => m.set (B + 2) ⟨P.length + 1, .row 5 (P.map lnA ++ [.agg [.int x.kind, .int x.room, .int x.fr, .int x.to, .int x.uses]])⟩) mixed; (dsimp only [List.map] <;> exact rfl); exact rfl; kernel_rfl; kernel_rfl; (dsimp only; ((refine x_wl (zc @hM (zc @hm0 (zc @hb0 (zc @hbj (zc @hs0 (zc @hsj (zc @hap (zc @hB (zc @lenAp (zc @hy (zc @stA.eq_1 (zc @hx (zc @lnA.eq_1 (zc @hkn (zc @get5 (zc @set5 (zc @hvg (zc @hvs (zc @hPt (zc @hKt @lenMp)))))))))))))))))))) ?_)); exact AbW.nil))
            (refine x_gs (zc @hM (zc @hm0 (zc @hb0 (zc @hbj (zc @hs0 (zc @hsj (zc @hap (zc @hB (zc @lenAp (zc @hy (zc @stA.eq_1 (zc @hx (zc @lnA.eq_1 (zc @hkn (zc @get5 (zc @set5 (zc @hvg (zc @hvs (zc @hPt (zc @hKt @lenMp)))))))))))))))))))) ?_)
            (apply Run.mapAt ((B + (5 + P.length))); (first | ((exact x_ev (zc @hM (zc @hm0 (zc @hb0 (zc @hbj (zc @hs0 (zc @hsj (zc @hap (zc @hB (zc @lenAp (zc @hy (zc @stA.eq_1 (zc @hx (zc @lnA.eq_1 (zc @hkn (zc @get5 (zc @set5 (zc @hvg (zc @hvs (zc @hPt (zc @hKt @lenMp)))))))))))))))))))))) | exact rfl); (try simp only [push_cast, seval, hM, hm0, hb0, hbj, hs0, hsj, hap, hB, List.length_append, hy, stA, hx, lnA, hkn, get5, set5, hvg, hvs, hPt, hKt, List.length_map]))
            (refine x_go (zc @hM (zc @hm0 (zc @hb0 (zc @hbj (zc @hs0 (zc @hsj (zc @hap (zc @hB (zc @lenAp (zc @hy (zc @stA.eq_1 (zc @hx (zc @lnA.eq_1 (zc @hkn (zc @get5 (zc @set5 (zc @hvg (zc @hvs (zc @hPt (zc @hKt @lenMp)))))))))))))))))))) ?_)
            refine ⟨(i + 1, v + 1, .row 5 [lnA x]), ?_, by simp only; omega, by simp only; omega⟩
            simp only [hks, List.length_append, List.length_singleton, hks2]
            (refine Le.of ?_ ?_ rfl rfl <;> (try simp only [push_cast, seval, hM, hm0, hb0, hbj, hs0, hsj, hap, hB, List.length_append, hy, stA, hx, lnA, hkn, get5, set5, hvg, hvs, hPt, hKt, List.length_map]) <;> (try (with_reducible rfl)))
            rw [List.map_append]
            rfl
          · intro h2
            simp only [decide_eq_false_iff_not] at h2
            rw [if_neg h2] at hks
            (refine x_go (zc @hM (zc @hm0 (zc @hb0 (zc @hbj (zc @hs0 (zc @hsj (zc @hap (zc @hB (zc @lenAp (zc @hy (zc @stA.eq_1 (zc @hx (zc @lnA.eq_1 @hkn))))))))))))) ?_)
            refine ⟨(i + 1, v + 1, .row 5 [lnA x]), ?_, by simp only; omega, by simp only; omega⟩
            simp only [hks]
            (refine Le.of ?_ ?_ rfl rfl <;> (try simp only [push_cast, seval, hM, hm0, hb0, hbj, hs0, hsj, hap, hB, List.length_append, hy, stA, hx, lnA, hkn]) <;> (try (with_reducible rfl)))
        · intro hc2
          simp only [decide_eq_false_iff_not, Int.ofNat_lt] at hc2
          obtain rfl : i = ls.length := by omega
          rw [List.take_length]
          simp only [Nat.sub_self, List.replicate_zero, List.append_nil]
          have hkl := kdsL_len ls k
          have hPm : ∀ l ∈ kdsL ls k, l ∈ ls := fun l hl => (List.mem_filter.1 hl).1
          have hcg := fun (sls : List Ln) (h : sls.Perm (kdsL ls k)) (h2 : Asc Ln.fr sls) => cn_kindG hv h h2
          rw [hy] at hcg
          generalize kdsL ls k = P at *
          have hLnd := fun l (h : l ∈ P) => hv.mem (hPm l h)
          have hsort := stableLn_spec (m := M ++ (⟨0, .row 2 [stA y]⟩ :: ⟨0, .row 4 [.agg [.osl (B + 2) P.length 0 P.length, .int y.life, .int y.items, .osl (B + 3) P.length 0 P.length]]⟩ :: ⟨P.length, .row 5 (P.map lnA)⟩ :: ⟨P.length, .row 1 (knB B P.length)⟩ :: ⟨v, kd⟩ :: List.replicate P.length ⟨1, .mp []⟩)) (e := B + 2) (ver := P.length) (g := 79) (caps := []) (caps' := []) (ky := Ln.fr) (Enters.of Try.func79 rfl rfl) P (by rw [List.length_append, hB]; simp) (fun _ => .nil) (by simp [okL]) (fun a ha b hb => cmpLn_pure a b (by have := hLnd a ha; omega) (by have := hLnd b hb; omega)) (by omega)
          simp only [hsj, List.set_cons_succ, List.set_cons_zero] at hsort
          (refine x_go (zc @hM (zc @hm0 (zc @hb0 (zc @hbj (zc @hs0 (zc @hsj (zc @hap (zc @hB (zc @lenAp (zc @hy @stA.eq_1)))))))))) ?_)
          apply Run.spec (he := Enters.of Try.func78 rfl rfl) (hc := hsort)
          · exact rfl
          · exact rfl
          · (exact x_ev (zc @hM (zc @hm0 (zc @hb0 (zc @hbj (zc @hs0 (zc @hsj (zc @hap (zc @hB (zc @lenAp (zc @hy @stA.eq_1)))))))))))
          · rintro _ _ ⟨Z, hZ1, hZ2, hZ3, rfl⟩
            have hasc := asc_of hZ3
            have hcg2 := hcg Z hZ2 hasc
            rw [hik] at hcg2
            have hci : ((y.items.toNat : Nat) : Int) = y.items := Int.toNat_of_nonneg hst.1.1
            have hCV : CV y.life y.items.toNat Z := ⟨hst.2, by omega, by omega, hasc, fun i hi => by
              have hm : Z.getD i ln0 ∈ Z := memA ln0 hi
              have := hLnd _ (hZ2.mem_iff.1 hm)
              exact ⟨this.2.1, this.2.2⟩⟩
            have hCM : CM y.life y.items.toNat Z (M ++ [⟨0, .row 2 [stA y]⟩, ⟨0, .row 4 [.agg [.osl (B + 2) P.length 0 P.length, .int y.life, .int y.items, .osl (B + 3) P.length 0 P.length]]⟩, ⟨P.length, .row 5 (Z.map lnA)⟩, ⟨P.length, .row 1 (knB B P.length)⟩, ⟨v, kd⟩]) (B + 5) (B + 1) 0 (B + 2) P.length (B + 3) P.length :=
              ⟨by rw [List.length_append, hB]; rfl, by rw [hZ1, hci]; exact (hbj _ 1).trans rfl, (hbj _ 2).trans rfl, by rw [hZ1, ← knB_knL]; exact (hbj _ 3).trans rfl⟩
            have hcall := count_spec hCV hCM Z 0 0 (List.replicate y.items.toNat (0, 0)) [] (fun _ => []) rfl (by simp) rfl (by simp) (fun p hp => by rw [List.eq_of_mem_replicate hp]; exact ⟨by simp, by simp⟩) (fun j _ _ => MoS.nil _ _ _)
            have hz8 : s8 y.items.toNat (List.replicate y.items.toNat (0, 0)) = List.replicate 8 (0, 0) := by
              unfold s8; rw [List.replicate_append_replicate]; congr 1; omega
            rw [hz8, hcg2] at hcall
            have hmm : M ++ (⟨0, .row 2 [stA y]⟩ :: ⟨0, .row 4 [.agg [.osl (B + 2) P.length 0 P.length, .int y.life, .int y.items, .osl (B + 3) P.length 0 P.length]]⟩ :: ⟨P.length, .row 5 (Z.map lnA)⟩ :: ⟨P.length, .row 1 (knB B P.length)⟩ :: ⟨v, kd⟩ :: List.replicate P.length ⟨1, .mp []⟩) = Mm (M ++ [⟨0, .row 2 [stA y]⟩, ⟨0, .row 4 [.agg [.osl (B + 2) P.length 0 P.length, .int y.life, .int y.items, .osl (B + 3) P.length 0 P.length]]⟩, ⟨P.length, .row 5 (Z.map lnA)⟩, ⟨P.length, .row 1 (knB B P.length)⟩, ⟨v, kd⟩]) Z.length (fun _ => []) [] := by
              have e : mpsE Z.length (fun _ => []) = List.replicate P.length (⟨1, .mp []⟩ : Ent) := by
                unfold mpsE; rw [List.map_const']; simp [hZ1]
              rw [Mm, e]; simp
            dsimp only [S.put, optG]
            (refine x_go (zc @hM (zc @hm0 (zc @hb0 (zc @hbj (zc @hs0 (zc @hsj (zc @hap (zc @hB (zc @lenAp (zc @hy @stA.eq_1)))))))))) ?_)
            apply Run.spec (he := Enters.of Try.func80 rfl rfl) (hc := hcall)
            · exact hmm
            · exact rfl
            · (exact x_ev (zc @hM (zc @hm0 (zc @hb0 (zc @hbj (zc @hs0 (zc @hsj (zc @hap (zc @hB (zc @lenAp (zc @hy @stA.eq_1)))))))))))
            · rintro _ m2 ⟨rfl, mp2, J2, _, _, hm2⟩
              rw [Mm, List.append_assoc, List.append_assoc] at hm2
              generalize [(⟨0, .row 2 [stA y]⟩ : Ent), ⟨0, .row 4 [.agg [.osl (B + 2) P.length 0 P.length, .int y.life, .int y.items, .osl (B + 3) P.length 0 P.length]]⟩, ⟨P.length, .row 5 (Z.map lnA)⟩, ⟨P.length, .row 1 (knB B P.length)⟩, ⟨v, kd⟩] ++ (mpsE Z.length mp2 ++ [] ++ J2) = R at hm2
              subst hm2
              dsimp only [S.put, optG]
              have hpk := hpd k
              have hpk1 := hpd (k + 1)
              have hcnk := hcn k
              have hpe : pdK ks ls (k + 1) = pdK ks ls k * cnA ks ls k := rfl
              by_cases e0 : cnA ks ls k = 0
              · have d0 : decide (((cnA ks ls k : Nat) : Int) = 0) = true := decide_eq_true (by omega)
                have hp0 := pd_zero e0 hc
                rw [hp0]
                (refine x_gg (zc @hM (zc @hm0 (zc @hb0 (zc @hbj (zc @hs0 (zc @hsj (zc @hap (zc @hB (zc @lenAp @d0))))))))) ?_)
                (first | exact x_ret (zc @hM (zc @hm0 (zc @hb0 (zc @hbj (zc @hs0 (zc @hsj (zc @hap (zc @hB (zc @lenAp @d0))))))))) | refine x_retZ (zc @hM (zc @hm0 (zc @hb0 (zc @hbj (zc @hs0 (zc @hsj (zc @hap (zc @hB (zc @lenAp @d0))))))))) ?_)
              · have d0 : decide (((cnA ks ls k : Nat) : Int) = 0) = false := decide_eq_false (by omega)
                generalize cnA ks ls k = a at *
                generalize hb : pdK ks ls k = b at *
                obtain ⟨Q, hQ⟩ : ∃ Q, Int.tdiv 1099511627776 (a : Int) = Q := ⟨_, rfl⟩
                have hQ2 : 4096 ≤ Q ∧ Q ≤ 1099511627776 := by
                  rw [← hQ, Int.tdiv_eq_ediv_of_nonneg (by omega)]
                  exact ⟨Int.le_ediv_of_mul_le (by omega) (by omega), Int.ediv_le_self _ (by omega)⟩
                have d2 : decide (Q < (b : Int)) = false := decide_eq_false (by omega)
                obtain ⟨z, hz⟩ : ∃ z : Nat, b * a = z := ⟨_, rfl⟩
                have hmz : (b : Int) * (a : Int) = (z : Int) := by rw [← hz]; simp
                rw [hz] at hpe
                rw [hpe] at hpk1
                (refine x_gg (zc @hM (zc @hm0 (zc @hb0 (zc @hbj (zc @hs0 (zc @hsj (zc @hap (zc @hB (zc @lenAp (zc @d0 (zc @hQ (zc @d2 @hmz)))))))))))) ?_)
                refine ⟨(k + 1, M ++ R), ?_, ⟨by simp only; omega, hm0 R⟩, by simp only; omega⟩
                simp only [hpe]
                (refine Le.of ?_ ?_ rfl rfl <;> (try simp only [push_cast, seval, hM, hm0, hb0, hbj, hs0, hsj, hap, hB, List.length_append, d0, hQ, d2, hmz]) <;> (try (with_reducible rfl)))
    · intro hc
      simp only [decide_eq_false_iff_not, Int.ofNat_lt] at hc
      obtain rfl : k = ks.length := by omega
      (refine x_go (zc @hM (zc @hm0 (zc @hb0 (zc @hbj (zc @hs0 (zc @hsj (zc @hap (zc @hB @lenAp)))))))) ?_)
      (first | exact x_ret (zc @hM (zc @hm0 (zc @hb0 (zc @hbj (zc @hs0 (zc @hsj (zc @hap (zc @hB @lenAp)))))))) | refine x_retZ (zc @hM (zc @hm0 (zc @hb0 (zc @hbj (zc @hs0 (zc @hsj (zc @hap (zc @hB @lenAp)))))))) ?_)
end Go.Proofs.Try
set_option maxHeartbeats 8000000
set_option maxRecDepth 20000
namespace Go.Proofs.Try
open Go.Vg

/-! Count, and the statement of Plan and Count -/
theorem Count_pure (ks : List St) (ls : List Ln) (hk : ks.length ≤ 9223372036854775807) (hl : ls.length ≤ 9223372036854775807) (hg : lgS ks ls = false) : Pure Try.prog 46 [storA ks ls] (.tup [.int (ctN ks ls), .int (chkE ks ls)]) := by
  have hck := check_pure ks ls hk hl
  unfold ctN
  by_cases h1 : chkE ks ls = 0
  · rw [if_pos h1]
    rw [h1] at hck
    have := count_ok ks ls h1 hg hck
    rw [h1]
    exact this
  · rw [if_neg h1]
    have e1 : decide (chkE ks ls = 0) = false := decide_eq_false h1
    generalize chkE ks ls = e at *
    (refine Spec.bd 0 Try.func46 Try.results46 Try.ntmps46 ?_; simp only [entry, zipArgs, Nat.reduceAdd])
    (refine x_go @e1 ?_)
    (apply Run.pureP; (exact x_ev @e1); (exact (Enters.of Try.func28 rfl rfl)); (exact hck); (exact x_al @e1); (try dsimp only [putA, optG]))
    (refine x_gg @e1 ?_)
    (first | exact x_ret @e1 | refine x_retZ @e1 ?_)
end Go.Proofs.Try
set_option maxHeartbeats 8000000
namespace Go.Proofs.Try
open Go.Vg

def lentP (ls : List Ln) (p : List Int) (j n : Int) : Nat → List Int
  | 0 => []
  | i + 1 => if (decide ((ls.getD i ln0).kind = j) && decide (p.getD i 0 = n)) = true then lentP ls p j n i ++ [(i : Int)] else lentP ls p j n i
def wornP (ls : List Ln) (p : List Int) (j n : Int) : Nat → Int
  | 0 => 0
  | i + 1 => if (decide ((ls.getD i ln0).kind = j) && decide (p.getD i 0 = n)) = true then wornP ls p j n i + (ls.getD i ln0).uses else wornP ls p j n i
theorem lentP_mem (ls : List Ln) (p : List Int) (j n : Int) : ∀ i, ∀ x ∈ lentP ls p j n i, 0 ≤ x ∧ x < (i : Int)
  | 0, x, h => by simp [lentP] at h
  | i + 1, x, h => by
    simp only [lentP] at h
    split at h
    · rcases List.mem_append.1 h with h | h
      · have := lentP_mem ls p j n i x h; omega
      · simp at h; omega
    · have := lentP_mem ls p j n i x h; omega
theorem lentP_len (ls : List Ln) (p : List Int) (j n : Int) : ∀ i, (lentP ls p j n i).length ≤ i
  | 0 => by simp [lentP]
  | i + 1 => by have := lentP_len ls p j n i; simp only [lentP]; split <;> simp <;> omega
theorem wornP_sum (ls : List Ln) (p : List Int) (i : Nat) : ∀ k, wornP ls p (ls.getD i ln0).kind (p.getD i 0) k = sumU ls p i k
  | 0 => rfl
  | k + 1 => by simp only [wornP, sumU, mateB, wornP_sum ls p i k]; rfl
theorem lentP_clash (ls : List Ln) (p : List Int) (i : Nat) : ∀ k, ((lentP ls p (ls.getD i ln0).kind (p.getD i 0) k).any fun x => ovB (ls.getD x.toNat ln0) (ls.getD i ln0)) = clashB ls p i k
  | 0 => rfl
  | k + 1 => by
    have ih := lentP_clash ls p i k
    simp only [lentP, clashB, mateB]
    split
    · rename_i h
      rw [h, List.any_append, ih]; simp
    · rename_i h
      rw [ih]
      simp only [Bool.not_eq_true] at h
      rw [h]; simp
theorem wornP_bd {ks : List St} {ls : List Ln} (hv : SV ks ls) (p : List Int) (j n : Int) : ∀ i, i ≤ ls.length → 0 ≤ wornP ls p j n i ∧ wornP ls p j n i ≤ 100 * i
  | 0, _ => by simp [wornP]
  | i + 1, h => by
    have := wornP_bd hv p j n i (by omega)
    have := (hv.ln i (by omega)).2.2
    simp only [wornP]
    split <;> omega
/-- the benches behind i loans -/
structure CPI (ks : List St) (ls : List Ln) (p : List Int) (i : Nat) (bs : List Bn) : Prop where
  len : bs.length = ks.length
  tl : ∀ j, j < ks.length → (bs.getD j bn0).T.length = (ks.getD j st0).items.toNat
  wl : ∀ j, j < ks.length → (bs.getD j bn0).W.length = (ks.getD j st0).items.toNat
  il : ∀ j, j < ks.length → (bs.getD j bn0).I.length ≤ i
  tv : ∀ j, j < ks.length → ∀ n, n < (ks.getD j st0).items.toNat → ((bs.getD j bn0).T.getD n (0, [])).2 = lentP ls p j n i
  wv : ∀ j, j < ks.length → ∀ n, n < (ks.getD j st0).items.toNat → (bs.getD j bn0).W.getD n 0 = wornP ls p j n i
def bn1 (e4 : Ent) (n : Nat) : Bn := ⟨e4, 0, [], List.replicate n 0, T0 n⟩
theorem CPI.init {ks : List St} {ls : List Ln} {p : List Int} {bs : List Bn} (h : bs.length = ks.length) (hb : ∀ j, j < ks.length → ∃ e4, bs.getD j bn0 = bn1 e4 (ks.getD j st0).items.toNat) : CPI ks ls p 0 bs := by
  refine ⟨h, ?_, ?_, ?_, ?_, ?_⟩
  all_goals intro j hj; obtain ⟨e4, e⟩ := hb j hj; rw [e]; simp [bn1, T0]
  · intro n hn; simp [hn, lentP]
  · intro n hn; simp [hn, wornP]
def bnLend (b : Bn) (loan item uses : Int) : Bn := ⟨b.e4, b.vi + 1, b.I ++ [item], b.W.set item.toNat (b.W.getD item.toNat 0 + uses), lentT b.T item.toNat loan⟩
theorem getD_setN {α : Type} {l : List α} {c j : Nat} {b d : α} (hj : j < l.length) : (l.set c b).getD j d = if c = j then b else l.getD j d := by
  simp only [List.getD_eq_getElem?_getD, List.getElem?_set]
  by_cases hcj : c = j
  · rw [if_pos hcj, if_pos hcj, if_pos (by omega)]; rfl
  · rw [if_neg hcj, if_neg hcj]
theorem CPI.step {ks : List St} {ls : List Ln} {p : List Int} {i : Nat} {bs : List Bn} (h : CPI ks ls p i bs) (hj : 0 ≤ (ls.getD i ln0).kind ∧ (ls.getD i ln0).kind < ks.length) (hn : 0 ≤ p.getD i 0 ∧ p.getD i 0 < (ks.getD (ls.getD i ln0).kind.toNat st0).items) :
    CPI ks ls p (i + 1) (bs.set (ls.getD i ln0).kind.toNat (bnLend (bs.getD (ls.getD i ln0).kind.toNat bn0) i (p.getD i 0) (ls.getD i ln0).uses)) := by
  have hbl := h.len
  have hl := fun j n : Int => show lentP ls p j n (i + 1) = if (decide ((ls.getD i ln0).kind = j) && decide (p.getD i 0 = n)) = true then lentP ls p j n i ++ [(i : Int)] else lentP ls p j n i from rfl
  have hw := fun j n : Int => show wornP ls p j n (i + 1) = if (decide ((ls.getD i ln0).kind = j) && decide (p.getD i 0 = n)) = true then wornP ls p j n i + (ls.getD i ln0).uses else wornP ls p j n i from rfl
  generalize ls.getD i ln0 = x at *
  generalize p.getD i 0 = m at *
  obtain ⟨c, hc⟩ : ∃ c : Nat, x.kind = (c : Int) := ⟨x.kind.toNat, by omega⟩
  obtain ⟨d, hd⟩ : ∃ d : Nat, m = (d : Int) := ⟨m.toNat, by omega⟩
  rw [hc] at hj hn hl hw ⊢
  subst hd
  simp only [Int.toNat_natCast] at hn ⊢
  have hcl : c < ks.length := by omega
  have hs : ∀ (b : Bn) j, j < ks.length → (bs.set c b).getD j bn0 = if c = j then b else bs.getD j bn0 := fun b j hj' => getD_setN (by omega)
  refine ⟨by simpa using hbl, ?_, ?_, ?_, ?_, ?_⟩
  · intro j hj'
    rw [hs _ j hj']
    split
    · rename_i e; subst e
      simp only [bnLend, lentT, List.length_set]; exact h.tl c hj'
    · exact h.tl j hj'
  · intro j hj'
    rw [hs _ j hj']
    split
    · rename_i e; subst e
      simp only [bnLend, List.length_set]; exact h.wl c hj'
    · exact h.wl j hj'
  · intro j hj'
    rw [hs _ j hj']
    have := h.il j hj'
    split
    · rename_i e; subst e
      simp only [bnLend, List.length_append, List.length_singleton]; omega
    · omega
  · intro j hj' n hn'
    rw [hs _ j hj', hl]
    have htl := h.tl j hj'
    split
    · rename_i e; subst e
      simp only [bnLend, lentT, Int.toNat_natCast]
      rw [getD_setN (by omega)]
      by_cases e : d = n
      · subst e
        rw [if_pos rfl, if_pos (by simp), ← h.tv c hj' d hn']
      · rw [if_neg e, if_neg (by simp; omega), ← h.tv c hj' n hn']
    · rw [if_neg (by simp; omega)]; exact h.tv j hj' n hn'
  · intro j hj' n hn'
    rw [hs _ j hj', hw]
    have hwl := h.wl j hj'
    split
    · rename_i e; subst e
      simp only [bnLend, Int.toNat_natCast]
      rw [getD_setN (by omega)]
      by_cases e : d = n
      · subst e
        rw [if_pos rfl, if_pos (by simp), ← h.wv c hj' d hn']
      · rw [if_neg e, if_neg (by simp; omega), ← h.wv c hj' n hn']
    · rw [if_neg (by simp; omega)]; exact h.wv j hj' n hn'
end Go.Proofs.Try
set_option maxHeartbeats 8000000
namespace Go.Proofs.Try
open Go.Vg

theorem CPI.fit {ks : List St} {ls : List Ln} {p : List Int} {i : Nat} {bs : List Bn} (h : CPI ks ls p i bs) (hj : 0 ≤ (ls.getD i ln0).kind ∧ (ls.getD i ln0).kind < ks.length) (hn : 0 ≤ p.getD i 0 ∧ p.getD i 0 < (ks.getD (ls.getD i ln0).kind.toNat st0).items) :
    fitB ls (ks.getD (ls.getD i ln0).kind.toNat st0).life (bs.getD (ls.getD i ln0).kind.toNat bn0).W ((bs.getD (ls.getD i ln0).kind.toNat bn0).T.map (·.2)) i (p.getD i 0).toNat = !wrongB ks ls p i := by
  have htl := h.tl (ls.getD i ln0).kind.toNat (by omega)
  have hw := h.wv (ls.getD i ln0).kind.toNat (by omega) (p.getD i 0).toNat (by omega)
  have ht := h.tv (ls.getD i ln0).kind.toNat (by omega) (p.getD i 0).toNat (by omega)
  rw [Int.toNat_of_nonneg hj.1, Int.toNat_of_nonneg hn.1] at hw ht
  have hT : (((bs.getD (ls.getD i ln0).kind.toNat bn0).T.map (·.2)).getD (p.getD i 0).toNat []) = ((bs.getD (ls.getD i ln0).kind.toNat bn0).T.getD (p.getD i 0).toNat (0, [])).2 := by
    have : (p.getD i 0).toNat < (bs.getD (ls.getD i ln0).kind.toNat bn0).T.length := by omega
    simp only [List.getD_eq_getElem?_getD, List.getElem?_map]
    rw [List.getElem?_eq_getElem (by simpa [List.getD_eq_getElem?_getD] using this)]; rfl
  unfold fitB wrongB
  rw [hT, ht, hw, lentP_clash, wornP_sum]
  have e : decide (p.getD i 0 < 0) = false := by simp; simpa [List.getD_eq_getElem?_getD] using hn.1
  rw [e, Bool.false_or, Bool.not_or, Bool.and_comm]
  congr 1
  rw [← decide_not]
  exact decide_eq_decide.2 (by omega)
theorem set_getD {α : Type} (l : List α) (j : Nat) (d : α) : l.set j (l.getD j d) = l := by
  rcases Nat.lt_or_ge j l.length with h | h
  · simp [List.getD_eq_getElem?_getD, h]
  · exact List.set_eq_of_length_le h
theorem CheckPlan_pure (ks : List St) (ls : List Ln) (plan : List Int) (hk : ks.length ≤ 9223372036854775807) (hl : ls.length ≤ 9223372036854775807) (hp : plan.length ≤ 9223372036854775807) :
    Pure Try.prog 33 [storA ks ls, .ints plan] (.tup [.int (cpAns ks ls plan).1, .int (cpAns ks ls plan).2]) := by
  have hck := checked_pure ks ls plan hk hl hp
  unfold cpAns
  by_cases h0 : chk2E ks ls plan = 0
  · rw [if_pos h0]
    rw [h0] at hck
    have hv := chk2E_pv h0
    have hlen := hv.len
    have hl20 := hv.sv.l20
    have hk8 := hv.sv.k8
    (refine Spec.bd 0 Try.func33 Try.results33 Try.ntmps33 ?_; simp only [entry, zipArgs, Nat.reduceAdd])
    (refine w_go ?_)
    (apply Run.pureP; (exact w_ev); (exact (Enters.of Try.func59 rfl rfl)); (exact hck); (exact w_al); (try dsimp only [putA, optG]))
    (refine w_gg ?_)
    (refine Wp.vacs 1 ?_; (try simp only [List.replicate_succ, List.replicate_zero, List.cons_append, List.nil_append]))
    refine Wp.loop (fun (q : Nat × Nat × Kind × List Bn) => { t := [(1, .ints plan), (2, .optr 0 0 0 0), (4, .int 0), (5, .int 0), (7, .osl 1 0 0 ks.length), (24, .lst 2 (ks.map stA)), (25, .int ks.length), (26, .int q.1)], m := ⟨0, .row 2 [storA ks ls]⟩ :: ⟨0, .row 1 (bptr 3 q.2.2.2 ++ List.replicate (ks.length - q.1) (.val (.pointer none)))⟩ :: ⟨q.2.1, q.2.2.1⟩ :: bks ks ls 3 0 q.2.2.2, n := 71 }) (fun q => q.1 ≤ ks.length ∧ q.2.2.2.length = q.1 ∧ ∀ j, j < q.1 → ∃ e4, q.2.2.2.getD j bn0 = bn1 e4 (ks.getD j st0).items.toNat) (fun q => ks.length - q.1) (0, 0, .row 1 [], []) ?_ ?_ ?_
    · (refine Le.of ?_ ?_ rfl rfl <;> (try simp only [push_cast, seval]) <;> (try (with_reducible rfl)))
      simp [bptr, bks]
    · simp
    · rintro ⟨k, v, kd, bs⟩ ⟨hk1, hbl, hbs⟩
      simp only at hk1 hbl hbs
      have hrow : (bptr 3 bs ++ List.replicate (ks.length - k) (AV.val (.pointer none))).length = ks.length := by simp [bptr_len]; omega
      (refine x_gs @hrow ?_)
      (apply Wp.cond; (exact x_ev @hrow))
      · intro hck'
        simp only [decide_eq_true_eq, Int.ofNat_lt] at hck'
        have hs := hv.sv.st k hck'
        have hnb := newBench_spec hv.sv (k : Int) (ks.getD k st0).items (by omega) (by omega)
        rw [Int.toNat_natCast] at hnb
        generalize hy : ks.getD k st0 = y at hs hnb
        (refine x_gs (zc @hrow @hy) ?_)
        (apply Run.alcAt 2; (exact x_ev (zc @hrow @hy)); ((try simp only [push_cast, seval, hrow, hy]) <;> exact sT); exact rfl; (try simp only [push_cast, seval, hrow, hy]))
        (refine x_gs (zc @hrow @hy) ?_)
        apply Run.fresh (he := Enters.of Try.func67 rfl rfl)
        focus (simp only [push_cast, seval, hrow, hy] <;> exact rfl)
        focus (exact x_ev (zc @hrow @hy))
        exact hnb
        focus (exact x_al (zc @hrow @hy))
        rintro x m' ⟨rfl, e4, rfl⟩
        have hsh := blk_shift (3 + bsz bs) (ks := ks) (ls := ls) (e4 := e4) (life := y.life) (L := loanP ls k ls.length) (vi := 0) (I := []) (W := List.replicate y.items.toNat 0) (T := T0 y.items.toNat)
        have hsn := bks_snoc ks ls (bn1 (shE (3 + bsz bs) e4) y.items.toNat) bs 3 0
        rw [Nat.zero_add, hbl, hy] at hsn
        have hps := bptr_snoc (bn1 (shE (3 + bsz bs) e4) y.items.toNat) bs 3
        simp only [bn1] at hsn
        simp only [List.length_cons, List.cons_append]
        rw [show (bks ks ls 3 0 bs).length + 1 + 1 + 1 = 3 + bsz bs by rw [bks_len]; omega]
        simp only [shE] at hsh hsn hps
        rw [hsh, hsn]
        generalize hb1 : bks ks ls 3 0 (bs ++ [_]) = mb
        dsimp only [AV.shift]
        dsimp only [S.put, optG]
        have hset : (bptr 3 bs ++ List.replicate (ks.length - k) (AV.val (.pointer none))).set k (.optr (3 + bsz bs + 3) 1 0 0) = bptr 3 (bs ++ [bn1 (shE (3 + bsz bs) e4) y.items.toNat]) ++ List.replicate (ks.length - (k + 1)) (AV.val (.pointer none)) := by
          simp only [shE]
          rw [hps, show ks.length - k = (ks.length - (k + 1)) + 1 by omega, List.replicate_succ, List.set_append_right _ _ (by rw [bptr_len]; omega), bptr_len, hbl, Nat.sub_self]
          simp
        (refine x_go (zc @hrow (zc @hy @hset)) ?_)
        refine ⟨(k + 1, v + 1, .row 2 [stA y], bs ++ [bn1 (shE (3 + bsz bs) e4) y.items.toNat]), ?_, ⟨by simp only; omega, by simp [hbl], fun j hj => ?_⟩, by simp only; omega⟩
        · simp only
          (refine Le.of ?_ ?_ rfl rfl <;> (try simp only [push_cast, seval, hrow, hy, hset]) <;> (try (with_reducible rfl)))
          rw [← hb1]; rfl
        · simp only at hj ⊢
          rcases Nat.lt_or_ge j k with h | h
          · obtain ⟨e5, h5⟩ := hbs j h
            refine ⟨e5, ?_⟩
            rw [← h5]
            simp only [List.getD_eq_getElem?_getD]
            rw [List.getElem?_append_left (by omega)]
          · obtain rfl : j = k := by omega
            refine ⟨shE (3 + bsz bs) e4, ?_⟩
            rw [hy, ← hbl]
            simp
      · intro hck'
        simp only [decide_eq_false_iff_not, Int.ofNat_lt] at hck'
        obtain rfl : k = ks.length := by omega
        have hci : CPI ks ls plan 0 bs := CPI.init hbl hbs
        have hpl : (bptr 3 bs).length = ks.length := by rw [bptr_len, hbl]
        rw [Nat.sub_self, List.replicate_zero, List.append_nil]
        (refine x_go @hpl ?_)
        refine Wp.loop (fun (q : Nat × List Bn) => { t := [(1, .ints plan), (2, .optr 0 0 0 0), (7, .osl 1 0 0 ks.length), (40, .ints plan), (41, .int plan.length), (42, .int q.1)], m := ⟨0, .row 2 [storA ks ls]⟩ :: ⟨0, .row 1 (bptr 3 q.2)⟩ :: ⟨v, kd⟩ :: bks ks ls 3 0 q.2, n := 71 }) (fun q => q.1 ≤ plan.length ∧ CPI ks ls plan q.1 q.2 ∧ cpFrom ks ls plan plan.length plan.length = cpFrom ks ls plan plan.length (plan.length - q.1)) (fun q => plan.length - q.1) (0, bs) ?_ ?_ ?_
        · (refine Le.of ?_ ?_ rfl rfl <;> (try simp only [push_cast, seval, hpl]) <;> (try (with_reducible rfl)))
        · exact ⟨by simp, hci, by simp⟩
        · rintro ⟨i, cs⟩ ⟨hi1, hi2, hi3⟩
          simp only at hi1 hi2 hi3
          have hcl : (bptr 3 cs).length = ks.length := by rw [bptr_len, hi2.len]
          (refine x_go @hcl ?_)
          (apply Wp.cond; (exact x_ev @hcl))
          · intro hcc
            simp only [decide_eq_true_eq, Int.ofNat_lt] at hcc
            have hpi := hv.pl i (by omega)
            have hli := hv.sv.ln i (by omega)
            have hst := hv.sv.st (ls.getD i ln0).kind.toNat (by omega)
            have e1 : plan.length - i = (plan.length - (i + 1)) + 1 := by omega
            rw [e1, cpFrom, show plan.length - (plan.length - (i + 1) + 1) = i by omega] at hi3
            obtain ⟨A, G, M, hM, hptr, hsp⟩ := bks_split ks ls cs 3 0 (ls.getD i ln0).kind.toNat (by rw [hi2.len]; omega)
            have hself := (hsp _ rfl).1
            rw [set_getD, Nat.zero_add] at hself
            simp only [Nat.zero_add] at hsp
            have hfit := hi2.fit hli.1
            have hstep := hi2.step hli.1
            have htl := hi2.tl (ls.getD i ln0).kind.toNat (by omega)
            have hwl := hi2.wl (ls.getD i ln0).kind.toNat (by omega)
            have hil := hi2.il (ls.getD i ln0).kind.toNat (by omega)
            have htv := hi2.tv (ls.getD i ln0).kind.toNat (by omega) (plan.getD i 0).toNat
            have hwv := hi2.wv (ls.getD i ln0).kind.toNat (by omega) (plan.getD i 0).toNat
            have hneg : plan.getD i 0 < 0 → wrongB ks ls plan i = true := fun h => by unfold wrongB; rw [decide_eq_true h]; rfl
            generalize hwb : wrongB ks ls plan i = wb at hi3 hfit hneg
            generalize hb : cs.getD (ls.getD i ln0).kind.toNat bn0 = b at hself hfit hstep htl hwl hil htv hwv hsp
            rw [hself]
            generalize hx : ls.getD i ln0 = x at *
            generalize hn : plan.getD i 0 = n at *
            by_cases hn0 : n < 0
            · have hd : decide (n < 0) = true := decide_eq_true hn0
              rw [hneg hn0, if_pos rfl] at hi3
              (refine x_gg (zc @hcl (zc @hx (zc @hn (zc @hptr @hd)))) ?_)
              (first | exact x_ret (zc @hcl (zc @hx (zc @hn (zc @hptr @hd)))) | refine x_retZ (zc @hcl (zc @hx (zc @hn (zc @hptr @hd)))) ?_)
              rw [hi3]
            · have hd : decide (n < 0) = false := decide_eq_false hn0
              have hn1 : 0 ≤ n ∧ n < (ks.getD x.kind.toNat st0).items := by omega
              have hfit := hfit hn1
              have hstep := hstep hn1
              have htv := htv (by omega)
              have hwv := hwv (by omega)
              have hF : (⟨0, .row 2 [storA ks ls]⟩ :: ⟨0, .row 1 (bptr 3 cs)⟩ :: ⟨v, kd⟩ :: A : Mem).length = M := by rw [hM]; simp; omega
              have hwbd := wornP_bd hv.sv plan (x.kind.toNat : Int) (n.toNat : Int) i (by omega)
              have hlbd := lentP_len ls plan (x.kind.toNat : Int) (n.toNat : Int) i
              have hlme := lentP_mem ls plan (x.kind.toNat : Int) (n.toNat : Int) i
              rw [← hwv] at hwbd
              rw [← htv] at hlbd hlme
              have hTm : (b.T.map (·.2)).getD n.toNat [] = (b.T.getD n.toNat (0, [])).2 := by
                have : n.toNat < b.T.length := by omega
                simp [List.getD_eq_getElem?_getD, this]
              have hft := fits_pure (ks := ks) (ls := ls) (life := (ks.getD x.kind.toNat st0).life) (L := loanP ls (x.kind.toNat : Nat) ls.length) (I := b.I) (W := b.W) (T := b.T.map (·.2)) (i : Int) n (by omega) (by rw [List.length_map]; omega) (by rw [List.length_map]; omega) hl20 (by rw [List.length_map]; omega)
                (by rw [Int.toNat_natCast, hx]; omega) (by omega) (by rw [hTm]; intro z hz; have := hlme z hz; omega) (by rw [hTm]; omega)
              rw [Int.toNat_natCast, hfit] at hft
              have hvw := blk_vw (G := G) hF (ks := ks) (ls := ls) (e0 := ⟨0, .row 2 [storA ks ls]⟩) (e4 := b.e4) (life := (ks.getD x.kind.toNat st0).life) (L := loanP ls (x.kind.toNat : Nat) ls.length) (vi := b.vi) (I := b.I) (W := b.W) (T := b.T)
              (refine x_gg (zc @hcl (zc @hx (zc @hn (zc @hptr @hd)))) ?_)
              (apply Run.pureW; (exact x_ev (zc @hcl (zc @hx (zc @hn (zc @hptr @hd))))); (exact (Enters.of Try.func68 rfl rfl)); (exact hft); (exact VwL.cons hvw (VwL.cons (Vw.self trivial) (VwL.cons (Vw.self trivial) VwL.nil))); (simp only [push_cast, seval, hcl, hx, hn, hptr, hd] <;> first | trivial | assumption | (refine ⟨?_, ?_⟩ <;> assumption) | (simp; done)); (try dsimp only [putA, optG]))
              (refine x_gg (zc @hcl (zc @hx (zc @hn (zc @hptr @hd)))) ?_)
              (apply Wp.cond; (exact x_ev (zc @hcl (zc @hx (zc @hn (zc @hptr @hd))))))
              · intro h2
                have h3 : wb = true := by cases wb <;> simp_all
                rw [h3, if_pos rfl] at hi3
                (refine x_gg (zc @hcl (zc @hx (zc @hn (zc @hptr @hd)))) ?_)
                (first | exact x_ret (zc @hcl (zc @hx (zc @hn (zc @hptr @hd)))) | refine x_retZ (zc @hcl (zc @hx (zc @hn (zc @hptr @hd)))) ?_)
                rw [hi3]
              · intro h2
                have h3 : wb = false := by cases wb <;> simp_all
                rw [h3, if_neg (by simp)] at hi3
                (refine x_gg (zc @hcl (zc @hx (zc @hn (zc @hptr @hd)))) ?_)
                have hlend := lend_spec (G := G) hF (ks := ks) (ls := ls) (e0 := ⟨0, .row 2 [storA ks ls]⟩) (e4 := b.e4) (life := (ks.getD x.kind.toNat st0).life) (L := loanP ls (x.kind.toNat : Nat) ls.length) (vi := b.vi) (I := b.I) (W := b.W) (T := b.T) (i : Int) n (by omega) (by omega) (by omega) hl20 (by omega) (by omega) (by rw [Int.toNat_natCast, hx]; omega) (by omega) (by omega)
                rw [Int.toNat_natCast, hx] at hlend
                apply Run.spec (he := Enters.of Try.func69 rfl rfl) (hc := hlend)
                focus exact rfl
                focus (simp only [push_cast, seval, hcl, hx, hn, hptr, hd] <;> exact rfl)
                focus (exact x_ev (zc @hcl (zc @hx (zc @hn (zc @hptr @hd)))))
                rintro x' m' rfl
                dsimp only [S.put, optG]
                (refine x_go (zc @hcl (zc @hx (zc @hn (zc @hptr @hd)))) ?_)
                obtain ⟨q1, q2⟩ := hsp (bnLend b i n x.uses) (by simp [bnLend, lentT])
                refine ⟨(i + 1, cs.set x.kind.toNat (bnLend b i n x.uses)), ?_, ⟨by simp only; omega, hstep, hi3⟩, by simp only; omega⟩
                simp only
                rw [q1, q2]
                (refine Le.of ?_ ?_ rfl rfl <;> (try simp only [push_cast, seval, hcl, hx, hn, hptr, hd]) <;> (try (with_reducible rfl)))
                all_goals rfl
          · intro hcc
            simp only [decide_eq_false_iff_not, Int.ofNat_lt] at hcc
            obtain rfl : i = plan.length := by omega
            (refine x_go @hcl ?_)
            (first | exact x_ret @hcl | refine x_retZ @hcl ?_)
            rw [hi3]; simp [cpFrom]
  · rw [if_neg h0]
    generalize chk2E ks ls plan = e at hck h0
    (refine Spec.bd 0 Try.func33 Try.results33 Try.ntmps33 ?_; simp only [entry, zipArgs, Nat.reduceAdd])
    (refine w_go ?_)
    (apply Run.pureP; (exact w_ev); (exact (Enters.of Try.func59 rfl rfl)); (exact hck); (exact w_al); (try dsimp only [putA, optG]))
    (refine w_go ?_)
    (apply Wp.cond; (exact w_ev))
    · intro h2
      (refine w_go ?_)
      (first | exact w_ret | refine w_retZ ?_)
    · intro h2; simp at h2; omega
end Go.Proofs.Try
set_option maxHeartbeats 8000000
namespace Go.Proofs.Try
open Go.Vg

/-! the loans that are disturbed -/
end Go.Proofs.Try
set_option maxHeartbeats 8000000
namespace Go.Proofs.Try
open Go.Vg

/-! a right plan stays right if a loan ends later, as long as no loan is disturbed -/
theorem cpFrom_zero (ks : List St) (ls : List Ln) (p : List Int) (n : Nat) : ∀ k, k ≤ n → ((cpFrom ks ls p n k).2 = 0 ↔ ∀ j, n - k ≤ j → j < n → wrongB ks ls p j = false)
  | 0, _ => by
    simp only [cpFrom, Nat.sub_zero, true_iff]
    intro j h1 h2; omega
  | k + 1, hk => by
    simp only [cpFrom]
    split
    · rename_i h
      constructor
      · intro h0; simp at h0
      · intro h0; rw [h0 (n - (k + 1)) (Nat.le_refl _) (by omega)] at h; cases h
    · rename_i h
      rw [cpFrom_zero ks ls p n k (by omega)]
      constructor
      · intro h0 j h1 h2
        rcases Nat.lt_or_ge j (n - k) with h3 | h3
        · obtain rfl : j = n - (k + 1) := by omega
          simpa using h
        · exact h0 j h3 h2
      · intro h0 j h1 h2
        exact h0 j (by omega) h2
theorem cpAns_zero {ks : List St} {ls : List Ln} {p : List Int} : (cpAns ks ls p).2 = 0 ↔ chk2E ks ls p = 0 ∧ ∀ j, j < p.length → wrongB ks ls p j = false := by
  unfold cpAns
  split
  · rename_i h
    rw [cpFrom_zero _ _ _ _ _ (Nat.le_refl _)]
    simp [h]
  · rename_i h
    simp [h]
end Go.Proofs.Try
set_option maxHeartbeats 8000000
set_option maxRecDepth 20000
namespace Go.Proofs.Try
open Go.Vg

/-! a right plan is safe -/
theorem chk2E_c' {ks : List St} {ls : List Ln} {plan : List Int} (hc : chk2E ks ls plan = 0) : chkE ks ls = 0 := by
  unfold chk2E at hc
  split at hc
  · rename_i h; unfold chkE; rw [h]; rfl
  · simp at hc
theorem rp_ok {ks : List St} {ls : List Ln} {J : List Int} : (cpAns ks ls J).2 = 0 ↔ chkE ks ls = 0 ∧ J.length = ls.length ∧ RtF (cS ks ls) (okS ks ls) 0 J := by
  rw [cpAns_zero]
  constructor
  · rintro ⟨h1, h2⟩
    obtain ⟨hv, hl, hp⟩ := chk2E_zero h1
    refine ⟨chk2E_c' h1, hl, fun i hi1 hi2 => ?_⟩
    have h3 := h2 i hi2
    have h4 := hp i (by omega)
    unfold plB at h4
    rw [wi_iff] at h4
    have h5 : 0 ≤ J.getD i 0 := by
      unfold wrongB at h3
      rw [Bool.or_eq_false_iff, decide_eq_false_iff_not] at h3
      omega
    refine ⟨(J.getD i 0).toNat, ?_, by omega, ?_⟩
    · unfold cS; omega
    · rw [ok_take hi2, h3]; rfl
  · rintro ⟨h1, h2, h3⟩
    have hr : RP ks ls J := ⟨h2, h3⟩
    refine ⟨hr.chk h1, fun i hi => ?_⟩
    obtain ⟨j, _, _, h4⟩ := h3 i (by omega) hi
    rw [ok_take hi] at h4
    simpa using h4
theorem rp_wrong {ks : List St} {ls : List Ln} {J : List Int} (h : RP ks ls J) {i : Nat} (hi : i < ls.length) : wrongB ks ls J i = false := by
  have hl : i < J.length := by rw [h.len]; exact hi
  obtain ⟨j, _, _, h3⟩ := h.rt i (Nat.zero_le _) hl
  rw [ok_take hl] at h3
  simpa using h3
theorem clash_at {ls : List Ln} {p : List Int} {i : Nat} : ∀ {m : Nat}, clashB ls p i m = false → ∀ q, q < m → (mateB ls p i q && ovB (ls.getD q ln0) (ls.getD i ln0)) = false
  | 0, _, q, hq => by omega
  | m + 1, h, q, hq => by
    rw [clashB, Bool.or_eq_false_iff] at h
    by_cases e : q = m
    · subst e; exact h.2
    · exact clash_at h.1 q (by omega)
theorem rp_lt {ks : List St} {ls : List Ln} {J : List Int} (h : RP ks ls J) {i k : Nat} (hk : k < ls.length) (hik : i < k) (hkd : (ls.getD i ln0).kind = (ls.getD k ln0).kind) (hj : J.getD i 0 = J.getD k 0) : ¬ ((ls.getD i ln0).fr < (ls.getD k ln0).to ∧ (ls.getD k ln0).fr < (ls.getD i ln0).to) := by
  have hw := rp_wrong h hk
  unfold wrongB at hw
  rw [Bool.or_eq_false_iff, Bool.or_eq_false_iff] at hw
  have hc := clash_at hw.2.1 i hik
  rintro ⟨h1, h2⟩
  unfold mateB ovB at hc
  rw [decide_eq_true hkd, decide_eq_true hj, decide_eq_true h1, decide_eq_true h2] at hc
  cases hc
theorem rp_apart {ks : List St} {ls : List Ln} {J : List Int} (h : RP ks ls J) {i k : Nat} (hi : i < ls.length) (hk : k < ls.length) (hne : i ≠ k) (hkd : (ls.getD i ln0).kind = (ls.getD k ln0).kind) (hj : J.getD i 0 = J.getD k 0) : ¬ ((ls.getD i ln0).fr < (ls.getD k ln0).to ∧ (ls.getD k ln0).fr < (ls.getD i ln0).to) := by
  rcases Nat.lt_trichotomy i k with c | c | c
  · exact rp_lt h hk c hkd hj
  · exact absurd c hne
  · exact fun q => rp_lt h hi c hkd.symm hj.symm ⟨q.2, q.1⟩
/-- how often an item is used by the first loans -/
def uSm (ls : List Ln) (J : List Int) (i : Nat) : Nat → Int
  | 0 => 0
  | k + 1 => if (ls.getD i ln0).kind = (ls.getD k ln0).kind ∧ J.getD i 0 = J.getD k 0 then uSm ls J i k + (ls.getD k ln0).uses else uSm ls J i k
theorem uSm_bd {ks : List St} {ls : List Ln} (hv : SV ks ls) (J : List Int) (i : Nat) : ∀ k, k ≤ ls.length → 0 ≤ uSm ls J i k ∧ uSm ls J i k ≤ 100 * k
  | 0, _ => by simp [uSm]
  | k + 1, h => by
    have := uSm_bd hv J i k (by omega)
    have := (hv.ln k (by omega)).2.2
    simp only [uSm]
    split <;> omega
theorem uSm_wear {ks : List St} {ls : List Ln} {J : List Int} (h : RP ks ls J) {i N : Nat} (hi : i < ls.length) (hN : (J.getD i 0).toNat < N) : ∀ m, m ≤ ls.length → uSm ls J i m = (wearP ls J (ls.getD i ln0).kind N m).getD (J.getD i 0).toNat 0
  | 0, _ => by
    simp only [uSm, wearP, List.getD_eq_getElem?_getD, List.getElem?_replicate]
    split <;> rfl
  | m + 1, hm => by
    have ih := uSm_wear h hi hN m (by omega)
    have h0 := (h.item hi).1
    have h1 := (h.item (i := m) (by omega)).1
    have hl := wearP_len ls J (ls.getD i ln0).kind N m
    simp only [uSm, wearP, wearS]
    rw [decide_eq_true h1, Bool.and_true, ih]
    by_cases c : (ls.getD i ln0).kind = (ls.getD m ln0).kind
    · rw [if_pos (decide_eq_true c.symm)]
      by_cases d : J.getD i 0 = J.getD m 0
      · rw [if_pos ⟨c, d⟩, d, List.getD_eq_getElem?_getD (l := List.set _ _ _), List.getElem?_set_self (by rw [hl, ← d]; exact hN)]
        rfl
      · rw [if_neg (fun q => d q.2), List.getD_eq_getElem?_getD (l := List.set _ _ _), List.getElem?_set_ne (by omega), ← List.getD_eq_getElem?_getD]
    · rw [if_neg (fun q => c q.1), if_neg (by simp only [decide_eq_true_eq]; exact fun q => c q.symm)]
theorem rp_uses {ks : List St} {ls : List Ln} (hv : SV ks ls) {J : List Int} (h : RP ks ls J) {i : Nat} (hi : i < ls.length) : uSm ls J i ls.length ≤ (ks.getD (ls.getD i ln0).kind.toNat st0).life := by
  have hkd := (hv.ln i hi).1
  have hit := h.item hi
  rw [uSm_wear h hi (by omega : (J.getD i 0).toNat < (ks.getD (ls.getD i ln0).kind.toNat st0).items.toNat) ls.length (Nat.le_refl _)]
  have := wear_life hv h (k := (ls.getD i ln0).kind.toNat) (by omega) (j := (J.getD i 0).toNat) (by omega)
  rw [Int.toNat_of_nonneg hkd.1] at this
  exact this.2
/-- the first plan is the first -/
theorem first_le {ks : List St} {ls : List Ln} (hv : SV ks ls) {p : List Int} (hp : RP ks ls p) : exA ks ls = true ∧ ∀ i, i < ls.length → (∀ j, j < i → p.getD j 0 = (gluS ks ls).getD j 0) → p.getD i 0 ≠ (gluS ks ls).getD i 0 → (gluS ks ls).getD i 0 < p.getD i 0 := by
  have hx : Ext (cS ks ls) (okS ks ls) ls.length [] p := ⟨by simp [hp.len], by simp, hp.rt⟩
  have hf := pl_first hv
  rw [plL_head] at hf
  by_cases h : exA ks ls = true
  · refine ⟨h, fun i hi hlo hne => ?_⟩
    rw [if_pos h] at hf
    rcases (srch_some hf).2 p hx with e | ⟨a, a1, a2, a3⟩
    · rw [e] at hne; exact absurd rfl hne
    · have hg : ∀ m, m < a → (gluS ks ls).getD m 0 = p.getD m 0 := fun m hm => by
        have := congrArg (fun l => l.getD m 0) a2
        simpa [List.getD_eq_getElem?_getD, List.getElem?_take, hm] using this
      rcases Nat.lt_trichotomy a i with c | c | c
      · have := hlo a c; omega
      · subst c; exact a3
      · exact absurd (hg i c).symm hne
  · rw [if_neg h] at hf
    exact absurd hx (srch_none hf p)
/-- there is a plan exactly if the count is above 0 -/
theorem pd_pos {ks : List St} {ls : List Ln} (hv : SV ks ls) : exA ks ls = true ↔ 0 < pdK ks ls ks.length := by
  have hf := pl_first hv
  rw [← pl_kinds hv]
  cases hpl : plL (cS ks ls) (okS ks ls) ls.length [] with
  | nil =>
    rw [hpl] at hf
    by_cases h : exA ks ls = true
    · rw [if_pos h] at hf; cases hf
    · simp [h]
  | cons a l =>
    rw [hpl] at hf
    by_cases h : exA ks ls = true
    · simp [h]
    · rw [if_neg h] at hf; cases hf
end Go.Proofs.Try
set_option maxHeartbeats 8000000
set_option maxRecDepth 20000
namespace Go.Proofs.Try
open Go.Vg

/-! the statement of the right plan's safety -/
theorem safe_no {ks : List St} {ls : List Ln} {plan : List Int} (hk : ks.length ≤ 9223372036854775807) (hl : ls.length ≤ 9223372036854775807) (hp : plan.length ≤ 9223372036854775807) (h1 : chkE ks ls = 0) (hgl : lgS ks ls = false) (hx : exA ks ls = false) : Pure Try.prog 14 [storA ks ls, .ints plan] (.bool true) := by
  have hv := chkE_ok h1
  have hg := large_pure ks ls hk hl
  rw [hgl] at hg
  have hw := works_pure
  have hck := rcheck_pure ks ls hk hl
  rw [h1] at hck
  have c1 := Plan_pure ks ls hk hl
  have c3 := Count_pure ks ls hk hl hgl
  have c5 := CheckPlan_pure ks ls plan hk hl hp
  have hpp := pd_pos hv
  rw [show plnA ks ls = .emp by unfold plnA; rw [if_neg (by rw [hx]; simp)], show plnE ks ls = 101 by unfold plnE; rw [if_pos h1, hx]; rfl] at c1
  rw [h1, show ctN ks ls = 0 by unfold ctN; rw [if_pos h1]; rw [hx] at hpp; simp at hpp; omega] at c3
  have hne : (cpAns ks ls plan).2 ≠ 0 := fun h => by
    have h2 := rp_ok.1 h
    have := (first_le hv ⟨h2.2.1, h2.2.2⟩).1
    rw [hx] at this; cases this
  have d1 : decide ((cpAns ks ls plan).2 = 0) = false := decide_eq_false hne
  generalize (cpAns ks ls plan).2 = e at *
  generalize (cpAns ks ls plan).1 = n at *
  (refine Spec.bd 0 Try.func14 Try.results14 Try.ntmps14 ?_; simp only [entry, zipArgs, Nat.reduceAdd])
  (refine x_go @d1 ?_)
  (apply Run.pureP; (exact x_ev @d1); (exact (Enters.of Try.func15 rfl rfl)); (exact hg); (exact x_al @d1); (try dsimp only [putA, optG]))
  (refine x_gg @d1 ?_)
  (apply Run.pureP; (exact x_ev @d1); (exact (Enters.of Try.func29 rfl rfl)); (exact hck); (exact x_al @d1); (try dsimp only [putA, optG]))
  (refine x_gg @d1 ?_)
  (apply Run.pureFP; (exact x_ev @d1); (exact (Enters.of Try.func25 rfl rfl)); (exact c1); (exact x_al @d1); (try dsimp only [putA, optG]))
  (refine x_gg @d1 ?_)
  (apply Run.pureP; (exact x_ev @d1); (exact (Enters.of Try.func46 rfl rfl)); (exact c3); (exact x_al @d1); (try dsimp only [putA, optG]))
  (refine x_gg @d1 ?_)
  (apply Run.pureP; (exact x_ev @d1); (exact (Enters.of Try.func33 rfl rfl)); (exact c5); (exact x_al @d1); (try dsimp only [putA, optG]))
  (refine x_gg @d1 ?_)
  (apply Run.pureP; (exact x_ev @d1); (exact (Enters.of Try.func16 rfl rfl)); (exact hw); (exact x_al @d1); (try dsimp only [putA, optG]))
  (refine x_gg @d1 ?_)
  (first | exact x_ret @d1 | refine x_retZ @d1 ?_)
theorem safe_yes {ks : List St} {ls : List Ln} {plan : List Int} (hk : ks.length ≤ 9223372036854775807) (hl : ls.length ≤ 9223372036854775807) (hp : plan.length ≤ 9223372036854775807) (h1 : chkE ks ls = 0) (hgl : lgS ks ls = false) (hx : exA ks ls = true) : Pure Try.prog 14 [storA ks ls, .ints plan] (.bool true) := by
  have hv := chkE_ok h1
  have hl20 := hv.l20
  have hg := large_pure ks ls hk hl
  rw [hgl] at hg
  have hw := works_pure
  have hck := rcheck_pure ks ls hk hl
  rw [h1] at hck
  have c1 := Plan_pure ks ls hk hl
  have c3 := Count_pure ks ls hk hl hgl
  have c5 := CheckPlan_pure ks ls plan hk hl hp
  have hpp := (pd_pos hv).1 hx
  have hrp := gluS_rp hv hx
  have hglen := hrp.len
  have c4 := CheckPlan_pure ks ls (gluS ks ls) hk hl (by omega)
  have hfl := fun (h : (cpAns ks ls plan).2 = 0) => (first_le hv ⟨(rp_ok.1 h).2.1, (rp_ok.1 h).2.2⟩).2
  have hpl := fun (h : (cpAns ks ls plan).2 = 0) => (rp_ok.1 h).2.1
  rw [(rp_ok (J := gluS ks ls)).2 ⟨h1, hrp.len, hrp.rt⟩] at c4
  rw [show plnA ks ls = .ints (gluS ks ls) by unfold plnA; rw [if_pos ⟨h1, hx⟩], show plnE ks ls = 0 by unfold plnE; rw [if_pos h1, if_pos hx]] at c1
  rw [h1, show ctN ks ls = (pdK ks ls ks.length : Nat) by unfold ctN; rw [if_pos h1]] at c3
  generalize gluS ks ls = g at *
  generalize pdK ks ls ks.length = pd at *
  generalize (cpAns ks ls g).1 = n1 at *
  generalize (cpAns ks ls plan).1 = n2 at *
  generalize (cpAns ks ls plan).2 = e2 at *
  have d0 : decide (0 < (pd : Int)) = true := decide_eq_true (by omega)
  have d1 : decide ((g.length : Int) = (ls.length : Int)) = true := decide_eq_true (by omega)
  (refine Spec.bd 0 Try.func14 Try.results14 Try.ntmps14 ?_; simp only [entry, zipArgs, Nat.reduceAdd])
  (refine x_go (zc @d0 @d1) ?_)
  (apply Run.pureP; (exact x_ev (zc @d0 @d1)); (exact (Enters.of Try.func15 rfl rfl)); (exact hg); (exact x_al (zc @d0 @d1)); (try dsimp only [putA, optG]))
  (refine x_gg (zc @d0 @d1) ?_)
  (apply Run.pureP; (exact x_ev (zc @d0 @d1)); (exact (Enters.of Try.func29 rfl rfl)); (exact hck); (exact x_al (zc @d0 @d1)); (try dsimp only [putA, optG]))
  (refine x_gg (zc @d0 @d1) ?_)
  (apply Run.pureFP; (exact x_ev (zc @d0 @d1)); (exact (Enters.of Try.func25 rfl rfl)); (exact c1); (exact x_al (zc @d0 @d1)); (try dsimp only [putA, optG]))
  (refine x_gg (zc @d0 @d1) ?_)
  (apply Run.pureP; (exact x_ev (zc @d0 @d1)); (exact (Enters.of Try.func46 rfl rfl)); (exact c3); (exact x_al (zc @d0 @d1)); (try dsimp only [putA, optG]))
  (refine x_gg (zc @d0 @d1) ?_)
  (apply Run.pureFP; (exact x_ev (zc @d0 @d1)); (exact (Enters.of Try.func33 rfl rfl)); (exact c4); (exact x_al (zc @d0 @d1)); (try dsimp only [putA, optG]))
  (refine x_gg (zc @d0 @d1) ?_)
  have hub := fun i k => uSm_bd hv g i k
  have hap2 := fun i k (hi : i < ls.length) (hk : k < ls.length) => rp_apart hrp hi hk
  have hus := fun i (hi : i < ls.length) => rp_uses hv hrp hi
  have hgi := fun i (hi : i < ls.length) => hrp.item hi
  clear c1 c3 c4 hrp hpp
  refine Wp.loop (fun (q : Nat × Mem) => { t := [(1, .ints plan), (2, .optr 0 0 0 0), (5, .ints g), (6, .int 0), (11, .int q.1)], m := q.2, n := 194 }) (fun q => q.1 ≤ g.length ∧ q.2[0]? = some ⟨0, .row 2 [storA ks ls]⟩) (fun q => g.length - q.1) (0, [⟨0, .row 2 [storA ks ls]⟩]) ?_ ?_ ?_
  · (refine Le.of ?_ ?_ rfl rfl <;> (try simp only [push_cast, seval, d0, d1]) <;> (try (with_reducible rfl)))
    all_goals rfl
  · exact ⟨by simp, rfl⟩
  · rintro ⟨i, M0⟩ ⟨hi1, hM0⟩
    simp only at hi1 hM0
    (refine x_go (zc @d1 @hM0) ?_)
    (apply Wp.cond; (exact x_ev (zc @d1 @hM0)))
    · intro hc
      simp only [decide_eq_true_eq, Int.ofNat_lt] at hc
      have hx0 := hv.ln i (by omega)
      have hu9 := hus i (by omega)
      have hst := hv.st (ls.getD i ln0).kind.toNat (by omega)
      generalize hxe : ls.getD i ln0 = x at hx0 hu9 hst
      generalize hye : ks.getD x.kind.toNat st0 = y at hu9 hst
      (refine x_go (zc @d1 @hM0) ?_)
      refine Wp.loop (fun (q : Nat × Mem) => { t := [(1, .ints plan), (2, .optr 0 0 0 0), (5, .ints g), (6, .int 0), (11, .int i), (12, .int (uSm ls g i q.1)), (13, .int q.1)], m := q.2, n := 194 }) (fun q => q.1 ≤ g.length ∧ q.2[0]? = some ⟨0, .row 2 [storA ks ls]⟩) (fun q => g.length - q.1) (0, M0) ?_ ?_ ?_
      · (refine Le.of ?_ ?_ rfl rfl <;> (try simp only [push_cast, seval, d1, hM0]) <;> (try (with_reducible rfl)))
        all_goals rfl
      · exact ⟨by simp, hM0⟩
      · clear hM0
        rintro ⟨k, M⟩ ⟨hk1, hM⟩
        simp only at hk1 hM
        obtain ⟨B, hB⟩ : ∃ B, M.length = B := ⟨_, rfl⟩
        have hM1 := (List.getElem?_eq_some_iff.1 hM).1
        have hm0 : ∀ l, (M ++ l)[0]? = some ⟨0, .row 2 [storA ks ls]⟩ := fun l => by rw [List.getElem?_append_left hM1, hM]
        have hb0 : ∀ l, (M ++ l)[B]? = l[0]? := fun l => getF0 hB
        have hbj : ∀ l j, (M ++ l)[B + j]? = l[j]? := fun l j => getF hB j
        have hs0 : ∀ l e, (M ++ l).set B e = M ++ l.set 0 e := fun l e => setF0 hB e
        have hsj : ∀ l j e, (M ++ l).set (B + j) e = M ++ l.set j e := fun l j e => setF hB j e
        have hap : ∀ (l l' : Mem), (M ++ l) ++ l' = M ++ (l ++ l') := fun l l' => List.append_assoc _ _ _
        have hub1 := hub i k
        have hus1 : uSm ls g i (k + 1) = if (ls.getD i ln0).kind = (ls.getD k ln0).kind ∧ g.getD i 0 = g.getD k 0 then uSm ls g i k + (ls.getD k ln0).uses else uSm ls g i k := rfl
        have hap3 := hap2 i k (by omega)
        rw [hxe] at hus1 hap3
        have hxl : ∀ d, (ls.map lnA).getD i d = lnA x := fun d => by rw [getD_mapA (by omega) d ln0, hxe]
        (refine x_go (zc @d1 (zc @hM (zc @hm0 (zc @hb0 (zc @hbj (zc @hs0 (zc @hsj (zc @hap (zc @hB (zc @lenAp (zc @hxl (zc @hxe @hye)))))))))))) ?_)
        (apply Wp.cond; (exact x_ev (zc @d1 (zc @hM (zc @hm0 (zc @hb0 (zc @hbj (zc @hs0 (zc @hsj (zc @hap (zc @hB (zc @lenAp (zc @hxl (zc @hxe @hye))))))))))))))
        · intro hc2
          simp only [decide_eq_true_eq, Int.ofNat_lt] at hc2
          have hz0 := hv.ln k (by omega)
          replace hap3 := hap3 (by omega)
          generalize hze : ls.getD k ln0 = z at hz0 hus1 hap3
          have hzl : ∀ d, (ls.map lnA).getD k d = lnA z := fun d => by rw [getD_mapA (by omega) d ln0, hze]
          (refine x_go (zc @d1 (zc @hM (zc @hm0 (zc @hb0 (zc @hbj (zc @hs0 (zc @hsj (zc @hap (zc @hB (zc @lenAp (zc @hxl (zc @hxe (zc @hye (zc @hzl (zc @hze @lnA.eq_1))))))))))))))) ?_)
          (apply Wp.runG 2 mixed; (dsimp only [List.map] <;> exact rfl); exact rfl; kernel_rfl; ((try dsimp only [List.replicate]); ((refine x_gp (zc @d1 (zc @hM (zc @hm0 (zc @hb0 (zc @hbj (zc @hs0 (zc @hsj (zc @hap (zc @hB (zc @lenAp (zc @hxl (zc @hxe (zc @hye (zc @hzl (zc @hze @lnA.eq_1))))))))))))))) ?_); (apply AbsG.new 0; exact rfl; (exact x_ev (zc @d1 (zc @hM (zc @hm0 (zc @hb0 (zc @hbj (zc @hs0 (zc @hsj (zc @hap (zc @hB (zc @lenAp (zc @hxl (zc @hxe (zc @hye (zc @hzl (zc @hze @lnA.eq_1)))))))))))))))); ((try simp only [push_cast, seval, d1, hM, hm0, hb0, hbj, hs0, hsj, hap, hB, List.length_append, hxl, hxe, hye, hzl, hze, lnA]) <;> exact sT); exact rfl; dsimp only [upd, alcV, List.set, List.length_cons, List.length_nil, Nat.reduceAdd]); (apply AbsG.new 1; exact rfl; (exact x_ev (zc @d1 (zc @hM (zc @hm0 (zc @hb0 (zc @hbj (zc @hs0 (zc @hsj (zc @hap (zc @hB (zc @lenAp (zc @hxl (zc @hxe (zc @hye (zc @hzl (zc @hze @lnA.eq_1)))))))))))))))); ((try simp only [push_cast, seval, d1, hM, hm0, hb0, hbj, hs0, hsj, hap, hB, List.length_append, hxl, hxe, hye, hzl, hze, lnA]) <;> exact sT); exact rfl; dsimp only [upd, alcV, List.set, List.length_cons, List.length_nil, Nat.reduceAdd]); (apply AbsG.eff 0; exact rfl; exact rfl; (exact x_ev (zc @d1 (zc @hM (zc @hm0 (zc @hb0 (zc @hbj (zc @hs0 (zc @hsj (zc @hap (zc @hB (zc @lenAp (zc @hxl (zc @hxe (zc @hye (zc @hzl (zc @hze @lnA.eq_1)))))))))))))))); ((try simp only [push_cast, seval, d1, hM, hm0, hb0, hbj, hs0, hsj, hap, hB, List.length_append, hxl, hxe, hye, hzl, hze, lnA]) <;> exact sT); dsimp only [upd, List.set, List.length_cons, List.length_nil, Nat.reduceAdd]); (apply AbsG.eff 1; exact rfl; exact rfl; (exact x_ev (zc @d1 (zc @hM (zc @hm0 (zc @hb0 (zc @hbj (zc @hs0 (zc @hsj (zc @hap (zc @hB (zc @lenAp (zc @hxl (zc @hxe (zc @hye (zc @hzl (zc @hze @lnA.eq_1)))))))))))))))); ((try simp only [push_cast, seval, d1, hM, hm0, hb0, hbj, hs0, hsj, hap, hB, List.length_append, hxl, hxe, hye, hzl, hze, lnA]) <;> exact sT); dsimp only [upd, List.set, List.length_cons, List.length_nil, Nat.reduceAdd])); exact AbsG.nil); kernel_rfl; (try dsimp only [List.cons_append, List.nil_append]))
          simp only [hB, Nat.add_zero]
          (refine x_go (zc @d1 (zc @hM (zc @hm0 (zc @hb0 (zc @hbj (zc @hs0 (zc @hsj (zc @hap (zc @hB (zc @lenAp (zc @hxl (zc @hxe (zc @hye (zc @hzl (zc @hze @lnA.eq_1))))))))))))))) ?_)
          obtain ⟨a, ha⟩ : ∃ a, g.getD i 0 = a := ⟨_, rfl⟩
          obtain ⟨b, hb⟩ : ∃ b, g.getD k 0 = b := ⟨_, rfl⟩
          rw [ha, hb] at hus1 hap3
          by_cases ek : x.kind = z.kind
          · have dk : decide (x.kind = z.kind) = true := decide_eq_true ek
            by_cases ea : a = b
            · have da : decide (a = b) = true := decide_eq_true ea
              rw [if_pos ⟨ek, ea⟩] at hus1
              generalize uSm ls g i k = u at *
              by_cases eq : i = k
              · have dq : decide ((i : Int) = (k : Int)) = true := decide_eq_true (by omega)
                (refine Wp.rnD 16 ?_; apply exAb; (((refine x_abn (zc @d1 (zc @hM (zc @hm0 (zc @hb0 (zc @hbj (zc @hs0 (zc @hsj (zc @hap (zc @hB (zc @lenAp (zc @hxl (zc @hxe (zc @hye (zc @hzl (zc @hze (zc @lnA.eq_1 (zc @ha (zc @hb (zc @dk (zc @da (zc @dq (zc @Bool.not_true (zc @Bool.false_or @Bool.false_and))))))))))))))))))))))) ?_)); exact Abn.nil))
                (refine x_gg (zc @d1 (zc @hM (zc @hm0 (zc @hb0 (zc @hbj (zc @hs0 (zc @hsj (zc @hap (zc @hB (zc @lenAp (zc @hxl (zc @hxe (zc @hye (zc @hzl (zc @hze (zc @lnA.eq_1 (zc @ha (zc @hb (zc @dk (zc @da (zc @dq (zc @Bool.not_true (zc @Bool.false_or @Bool.false_and))))))))))))))))))))))) ?_)
                refine ⟨(k + 1, M ++ [⟨1, .row 5 [lnA x]⟩, ⟨1, .row 5 [lnA z]⟩]), ?_, ⟨by simp only; omega, hm0 _⟩, by simp only; omega⟩
                simp only [hus1]
                (refine Le.of ?_ ?_ rfl rfl <;> (try simp only [push_cast, seval, d1, hM, hm0, hb0, hbj, hs0, hsj, hap, hB, List.length_append, hxl, hxe, hye, hzl, hze, lnA, ha, hb, dk, da, dq, Bool.not_true, Bool.false_or, Bool.false_and]) <;> (try (with_reducible rfl)))
              · have dq : decide ((i : Int) = (k : Int)) = false := decide_eq_false (by omega)
                have hov := hap3 eq ek ea
                by_cases ef : x.fr < z.to
                · have df : decide (x.fr < z.to) = true := decide_eq_true ef
                  have dg : decide (z.fr < x.to) = false := decide_eq_false (fun q => hov ⟨ef, q⟩)
                  (refine Wp.rnD 16 ?_; apply exAb; (((refine x_abn (zc @d1 (zc @hM (zc @hm0 (zc @hb0 (zc @hbj (zc @hs0 (zc @hsj (zc @hap (zc @hB (zc @lenAp (zc @hxl (zc @hxe (zc @hye (zc @hzl (zc @hze (zc @lnA.eq_1 (zc @ha (zc @hb (zc @dk (zc @da (zc @dq (zc @df (zc @dg (zc @Bool.not_true (zc @Bool.false_or (zc @Bool.not_false @Bool.true_and)))))))))))))))))))))))))) ?_)); exact Abn.nil))
                  (refine x_gg (zc @d1 (zc @hM (zc @hm0 (zc @hb0 (zc @hbj (zc @hs0 (zc @hsj (zc @hap (zc @hB (zc @lenAp (zc @hxl (zc @hxe (zc @hye (zc @hzl (zc @hze (zc @lnA.eq_1 (zc @ha (zc @hb (zc @dk (zc @da (zc @dq (zc @df (zc @dg (zc @Bool.not_true (zc @Bool.false_or (zc @Bool.not_false @Bool.true_and)))))))))))))))))))))))))) ?_)
                  refine ⟨(k + 1, M ++ [⟨1, .row 5 [lnA x]⟩, ⟨1, .row 5 [lnA z]⟩]), ?_, ⟨by simp only; omega, hm0 _⟩, by simp only; omega⟩
                  simp only [hus1]
                  (refine Le.of ?_ ?_ rfl rfl <;> (try simp only [push_cast, seval, d1, hM, hm0, hb0, hbj, hs0, hsj, hap, hB, List.length_append, hxl, hxe, hye, hzl, hze, lnA, ha, hb, dk, da, dq, df, dg, Bool.not_true, Bool.false_or, Bool.not_false, Bool.true_and]) <;> (try (with_reducible rfl)))
                · have df : decide (x.fr < z.to) = false := decide_eq_false ef
                  (refine Wp.rnD 16 ?_; apply exAb; (((refine x_abn (zc @d1 (zc @hM (zc @hm0 (zc @hb0 (zc @hbj (zc @hs0 (zc @hsj (zc @hap (zc @hB (zc @lenAp (zc @hxl (zc @hxe (zc @hye (zc @hzl (zc @hze (zc @lnA.eq_1 (zc @ha (zc @hb (zc @dk (zc @da (zc @dq (zc @df (zc @Bool.not_true (zc @Bool.false_or (zc @Bool.not_false (zc @Bool.true_and @Bool.false_and)))))))))))))))))))))))))) ?_)); exact Abn.nil))
                  (refine x_gg (zc @d1 (zc @hM (zc @hm0 (zc @hb0 (zc @hbj (zc @hs0 (zc @hsj (zc @hap (zc @hB (zc @lenAp (zc @hxl (zc @hxe (zc @hye (zc @hzl (zc @hze (zc @lnA.eq_1 (zc @ha (zc @hb (zc @dk (zc @da (zc @dq (zc @df (zc @Bool.not_true (zc @Bool.false_or (zc @Bool.not_false (zc @Bool.true_and @Bool.false_and)))))))))))))))))))))))))) ?_)
                  refine ⟨(k + 1, M ++ [⟨1, .row 5 [lnA x]⟩, ⟨1, .row 5 [lnA z]⟩]), ?_, ⟨by simp only; omega, hm0 _⟩, by simp only; omega⟩
                  simp only [hus1]
                  (refine Le.of ?_ ?_ rfl rfl <;> (try simp only [push_cast, seval, d1, hM, hm0, hb0, hbj, hs0, hsj, hap, hB, List.length_append, hxl, hxe, hye, hzl, hze, lnA, ha, hb, dk, da, dq, df, Bool.not_true, Bool.false_or, Bool.not_false, Bool.true_and, Bool.false_and]) <;> (try (with_reducible rfl)))
            · have da : decide (a = b) = false := decide_eq_false ea
              rw [if_neg (fun q => ea q.2)] at hus1
              (refine Wp.rnD 16 ?_; apply exAb; (((refine x_abn (zc @d1 (zc @hM (zc @hm0 (zc @hb0 (zc @hbj (zc @hs0 (zc @hsj (zc @hap (zc @hB (zc @lenAp (zc @hxl (zc @hxe (zc @hye (zc @hzl (zc @hze (zc @lnA.eq_1 (zc @ha (zc @hb (zc @dk (zc @da (zc @Bool.not_true (zc @Bool.false_or @Bool.not_false)))))))))))))))))))))) ?_)); exact Abn.nil))
              (refine x_gg (zc @d1 (zc @hM (zc @hm0 (zc @hb0 (zc @hbj (zc @hs0 (zc @hsj (zc @hap (zc @hB (zc @lenAp (zc @hxl (zc @hxe (zc @hye (zc @hzl (zc @hze (zc @lnA.eq_1 (zc @ha (zc @hb (zc @dk (zc @da (zc @Bool.not_true (zc @Bool.false_or @Bool.not_false)))))))))))))))))))))) ?_)
              refine ⟨(k + 1, M ++ [⟨1, .row 5 [lnA x]⟩, ⟨1, .row 5 [lnA z]⟩]), ?_, ⟨by simp only; omega, hm0 _⟩, by simp only; omega⟩
              simp only [hus1]
              (refine Le.of ?_ ?_ rfl rfl <;> (try simp only [push_cast, seval, d1, hM, hm0, hb0, hbj, hs0, hsj, hap, hB, List.length_append, hxl, hxe, hye, hzl, hze, lnA, ha, hb, dk, da, Bool.not_true, Bool.false_or, Bool.not_false]) <;> (try (with_reducible rfl)))
          · have dk : decide (x.kind = z.kind) = false := decide_eq_false ek
            rw [if_neg (fun q => ek q.1)] at hus1
            (refine Wp.rnD 16 ?_; apply exAb; (((refine x_abn (zc @d1 (zc @hM (zc @hm0 (zc @hb0 (zc @hbj (zc @hs0 (zc @hsj (zc @hap (zc @hB (zc @lenAp (zc @hxl (zc @hxe (zc @hye (zc @hzl (zc @hze (zc @lnA.eq_1 (zc @ha (zc @hb (zc @dk (zc @Bool.not_false @Bool.true_or)))))))))))))))))))) ?_)); exact Abn.nil))
            (refine x_gg (zc @d1 (zc @hM (zc @hm0 (zc @hb0 (zc @hbj (zc @hs0 (zc @hsj (zc @hap (zc @hB (zc @lenAp (zc @hxl (zc @hxe (zc @hye (zc @hzl (zc @hze (zc @lnA.eq_1 (zc @ha (zc @hb (zc @dk (zc @Bool.not_false @Bool.true_or)))))))))))))))))))) ?_)
            refine ⟨(k + 1, M ++ [⟨1, .row 5 [lnA x]⟩, ⟨1, .row 5 [lnA z]⟩]), ?_, ⟨by simp only; omega, hm0 _⟩, by simp only; omega⟩
            simp only [hus1]
            (refine Le.of ?_ ?_ rfl rfl <;> (try simp only [push_cast, seval, d1, hM, hm0, hb0, hbj, hs0, hsj, hap, hB, List.length_append, hxl, hxe, hye, hzl, hze, lnA, ha, hb, dk, Bool.not_false, Bool.true_or]) <;> (try (with_reducible rfl)))
        · intro hc2
          simp only [decide_eq_false_iff_not, Int.ofNat_lt] at hc2
          obtain rfl : k = g.length := by omega
          have dl : decide (y.life < uSm ls g i g.length) = false := decide_eq_false (by rw [hglen]; omega)
          generalize uSm ls g i g.length = u at *
          (refine x_go (zc @d1 (zc @hM (zc @hm0 (zc @hb0 (zc @hbj (zc @hs0 (zc @hsj (zc @hap (zc @hB (zc @lenAp (zc @hxl (zc @hxe (zc @hye (zc @dl (zc @lnA.eq_1 @stA.eq_1))))))))))))))) ?_)
          (refine Wp.rnD 13 ?_; apply exAb; (((refine x_abn (zc @d1 (zc @hM (zc @hm0 (zc @hb0 (zc @hbj (zc @hs0 (zc @hsj (zc @hap (zc @hB (zc @lenAp (zc @hxl (zc @hxe (zc @hye (zc @dl (zc @lnA.eq_1 @stA.eq_1))))))))))))))) ?_)); exact Abn.nil))
          (refine x_gg (zc @d1 (zc @hM (zc @hm0 (zc @hb0 (zc @hbj (zc @hs0 (zc @hsj (zc @hap (zc @hB (zc @lenAp (zc @hxl (zc @hxe (zc @hye (zc @dl (zc @lnA.eq_1 @stA.eq_1))))))))))))))) ?_)
          refine ⟨(i + 1, M), ?_, ⟨by simp only; omega, hM⟩, by simp only; omega⟩
          (refine Le.of ?_ ?_ rfl rfl <;> (try simp only [push_cast, seval, d1, hM, hm0, hb0, hbj, hs0, hsj, hap, hB, List.length_append, hxl, hxe, hye, dl, lnA, stA]) <;> (try (with_reducible rfl)))
    · intro hc
      simp only [decide_eq_false_iff_not, Int.ofNat_lt] at hc
      by_cases h2 : e2 = 0
      · have d2 : decide (e2 = 0) = true := decide_eq_true h2
        have hfl2 := hfl h2
        have hpl2 := hpl h2
        have d3 : decide ((plan.length : Int) = (g.length : Int)) = true := decide_eq_true (by omega)
        (refine x_gg (zc @d1 (zc @hM0 (zc @d2 @d3))) ?_)
        (apply Run.pureP; (exact x_ev (zc @d1 (zc @hM0 (zc @d2 @d3)))); (exact (Enters.of Try.func33 rfl rfl)); (exact c5); (exact x_al (zc @d1 (zc @hM0 (zc @d2 @d3)))); (try dsimp only [putA, optG]))
        (refine x_gg (zc @d1 (zc @hM0 (zc @d2 @d3))) ?_)
        refine Wp.loop (fun (q : Nat) => { t := [(1, .ints plan), (5, .ints g), (18, .int q)], m := M0, n := 194 }) (fun q => q ≤ plan.length ∧ ∀ j, j < q → plan.getD j 0 = g.getD j 0) (fun q => plan.length - q) 0 ?_ ?_ ?_
        · (refine Le.of ?_ ?_ rfl rfl <;> (try simp only [push_cast, seval, d1, hM0, d2, d3]) <;> (try (with_reducible rfl)))
        · exact ⟨Nat.zero_le _, fun j hj => absurd hj (Nat.not_lt_zero j)⟩
        · rintro q ⟨hq1, hq2⟩
          (refine x_go (zc @d1 (zc @hM0 (zc @d2 @d3))) ?_)
          (apply Wp.cond; (exact x_ev (zc @d1 (zc @hM0 (zc @d2 @d3)))))
          · intro hc3
            simp only [decide_eq_true_eq, Int.ofNat_lt] at hc3
            have hf3 := hfl2 q (by omega) hq2
            obtain ⟨a, ha⟩ : ∃ a, plan.getD q 0 = a := ⟨_, rfl⟩
            obtain ⟨b, hb⟩ : ∃ b, g.getD q 0 = b := ⟨_, rfl⟩
            rw [ha, hb] at hf3
            by_cases ea : a = b
            · have da : decide (a = b) = true := decide_eq_true ea
              (refine x_gg (zc @d1 (zc @hM0 (zc @d2 (zc @d3 (zc @ha (zc @hb (zc @da @Bool.not_true))))))) ?_)
              (refine Wp.rnD 9 ?_; apply exAb; (((refine x_abn (zc @d1 (zc @hM0 (zc @d2 (zc @d3 (zc @ha (zc @hb (zc @da @Bool.not_true))))))) ?_)); exact Abn.nil))
              (refine x_gg (zc @d1 (zc @hM0 (zc @d2 (zc @d3 (zc @ha (zc @hb (zc @da @Bool.not_true))))))) ?_)
              refine ⟨q + 1, ?_, ⟨by omega, fun j hj => ?_⟩, by omega⟩
              · (refine Le.of ?_ ?_ rfl rfl <;> (try simp only [push_cast, seval, d1, hM0, d2, d3, ha, hb, da, Bool.not_true]) <;> (try (with_reducible rfl)))
              · by_cases e : j = q
                · subst e; rw [ha, hb]; exact ea
                · exact hq2 j (by omega)
            · have da : decide (a = b) = false := decide_eq_false ea
              have dl : decide (b < a) = true := decide_eq_true (hf3 ea)
              (refine x_gg (zc @d1 (zc @hM0 (zc @d2 (zc @d3 (zc @ha (zc @hb (zc @da (zc @dl @Bool.not_false)))))))) ?_)
              (refine Wp.rnD 9 ?_; apply exAb; (((refine x_abn (zc @d1 (zc @hM0 (zc @d2 (zc @d3 (zc @ha (zc @hb (zc @da (zc @dl @Bool.not_false)))))))) ?_)); exact Abn.nil))
              (refine x_gg (zc @d1 (zc @hM0 (zc @d2 (zc @d3 (zc @ha (zc @hb (zc @da (zc @dl @Bool.not_false)))))))) ?_)
              (refine Wp.rnD 13 ?_; apply exAb; (((refine x_abn (zc @d1 (zc @hM0 (zc @d2 (zc @d3 (zc @ha (zc @hb (zc @da (zc @dl @Bool.not_false)))))))) ?_); (apply Abn.pureP; (exact x_ev (zc @d1 (zc @hM0 (zc @d2 (zc @d3 (zc @ha (zc @hb (zc @da (zc @dl @Bool.not_false))))))))); (exact (Enters.of Try.func16 rfl rfl)); (exact hw); (exact x_al (zc @d1 (zc @hM0 (zc @d2 (zc @d3 (zc @ha (zc @hb (zc @da (zc @dl @Bool.not_false))))))))); (try dsimp only [putA, optG])); (refine x_abn (zc @d1 (zc @hM0 (zc @d2 (zc @d3 (zc @ha (zc @hb (zc @da (zc @dl @Bool.not_false)))))))) ?_)); exact Abn.nil))
              (refine x_gg (zc @d1 (zc @hM0 (zc @d2 (zc @d3 (zc @ha (zc @hb (zc @da (zc @dl @Bool.not_false)))))))) ?_)
              (first | exact x_ret (zc @d1 (zc @hM0 (zc @d2 (zc @d3 (zc @ha (zc @hb (zc @da (zc @dl @Bool.not_false)))))))) | refine x_retZ (zc @d1 (zc @hM0 (zc @d2 (zc @d3 (zc @ha (zc @hb (zc @da (zc @dl @Bool.not_false)))))))) ?_)
          · intro hc3
            (refine x_gg (zc @d1 (zc @hM0 (zc @d2 @d3))) ?_)
            (apply Run.pureP; (exact x_ev (zc @d1 (zc @hM0 (zc @d2 @d3)))); (exact (Enters.of Try.func16 rfl rfl)); (exact hw); (exact x_al (zc @d1 (zc @hM0 (zc @d2 @d3)))); (try dsimp only [putA, optG]))
            (refine x_gg (zc @d1 (zc @hM0 (zc @d2 @d3))) ?_)
            (first | exact x_ret (zc @d1 (zc @hM0 (zc @d2 @d3))) | refine x_retZ (zc @d1 (zc @hM0 (zc @d2 @d3))) ?_)
      · have d2 : decide (e2 = 0) = false := decide_eq_false h2
        (refine x_gg (zc @d1 (zc @hM0 @d2)) ?_)
        (apply Run.pureP; (exact x_ev (zc @d1 (zc @hM0 @d2))); (exact (Enters.of Try.func33 rfl rfl)); (exact c5); (exact x_al (zc @d1 (zc @hM0 @d2))); (try dsimp only [putA, optG]))
        (refine x_gg (zc @d1 (zc @hM0 @d2)) ?_)
        (apply Run.pureP; (exact x_ev (zc @d1 (zc @hM0 @d2))); (exact (Enters.of Try.func16 rfl rfl)); (exact hw); (exact x_al (zc @d1 (zc @hM0 @d2))); (try dsimp only [putA, optG]))
        (refine x_gg (zc @d1 (zc @hM0 @d2)) ?_)
        (first | exact x_ret (zc @d1 (zc @hM0 @d2)) | refine x_retZ (zc @d1 (zc @hM0 @d2)) ?_)
end Go.Proofs.Try
set_option maxHeartbeats 8000000
set_option maxRecDepth 20000
namespace Go.Proofs.Try
open Go.Vg

/-! the statement StoreSafe -/
theorem lawSafe_pure (ks : List St) (ls : List Ln) (plan : List Int) (hk : ks.length ≤ 9223372036854775807) (hl : ls.length ≤ 9223372036854775807) (hp : plan.length ≤ 9223372036854775807) : Pure Try.prog 14 [storA ks ls, .ints plan] (.bool true) := by
  have hg := large_pure ks ls hk hl
  have hw := works_pure
  have hck := rcheck_pure ks ls hk hl
  cases hgl : lgS ks ls with
  | true =>
    rw [hgl] at hg
    generalize chkE ks ls = e at hck
    (refine Spec.bd 0 Try.func14 Try.results14 Try.ntmps14 ?_; simp only [entry, zipArgs, Nat.reduceAdd])
    (refine x_go @Bool.true_or ?_)
    (apply Run.pureP; (exact x_ev @Bool.true_or); (exact (Enters.of Try.func15 rfl rfl)); (exact hg); (exact x_al @Bool.true_or); (try dsimp only [putA, optG]))
    (refine x_gg @Bool.true_or ?_)
    (try (apply Run.pureP; (exact x_ev @Bool.true_or); (exact (Enters.of Try.func29 rfl rfl)); (exact hck); (exact x_al @Bool.true_or); (try dsimp only [putA, optG])))
    (refine x_gg @Bool.true_or ?_)
    (apply Run.pureP; (exact x_ev @Bool.true_or); (exact (Enters.of Try.func16 rfl rfl)); (exact hw); (exact x_al @Bool.true_or); (try dsimp only [putA, optG]))
    (refine x_gg @Bool.true_or ?_)
    (first | exact x_ret @Bool.true_or | refine x_retZ @Bool.true_or ?_)
  | false =>
    by_cases h1 : chkE ks ls = 0
    · cases hx : exA ks ls with
      | true => exact safe_yes hk hl hp h1 hgl hx
      | false => exact safe_no hk hl hp h1 hgl hx
    · rw [hgl] at hg
      have e1 : decide (chkE ks ls = 0) = false := decide_eq_false h1
      generalize chkE ks ls = e at *
      (refine Spec.bd 0 Try.func14 Try.results14 Try.ntmps14 ?_; simp only [entry, zipArgs, Nat.reduceAdd])
      (refine x_go @e1 ?_)
      (apply Run.pureP; (exact x_ev @e1); (exact (Enters.of Try.func15 rfl rfl)); (exact hg); (exact x_al @e1); (try dsimp only [putA, optG]))
      (refine x_gg @e1 ?_)
      (apply Run.pureP; (exact x_ev @e1); (exact (Enters.of Try.func29 rfl rfl)); (exact hck); (exact x_al @e1); (try dsimp only [putA, optG]))
      (refine x_gg @e1 ?_)
      (apply Run.pureP; (exact x_ev @e1); (exact (Enters.of Try.func16 rfl rfl)); (exact hw); (exact x_al @e1); (try dsimp only [putA, optG]))
      (refine x_gg @e1 ?_)
      (first | exact x_ret @e1 | refine x_retZ @e1 ?_)
end Go.Proofs.Try
