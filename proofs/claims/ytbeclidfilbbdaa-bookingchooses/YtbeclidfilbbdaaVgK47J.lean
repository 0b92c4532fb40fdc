/- A part of the proof of BookingChooses: contracts of functions, with plain laws that they need. -/
import Derived.Test.YtbeclidfilbbdaaVgK8J
set_option linter.all false
set_option maxHeartbeats 8000000
set_option maxRecDepth 20000
namespace Go.Proofs.Try
open Go.Vg

/-! sets that keep rivals together -/
theorem bit01 (s i : Int) : decide (IntKind.i64.wrap ((BitVec.ofInt IntKind.i64.bits (s.fdiv (2 ^ (min i.toNat IntKind.i64.bits))) &&& BitVec.ofInt IntKind.i64.bits 1).toNat) = 0) = !tgB s i := by
  unfold tgB
  generalize BitVec.ofInt IntKind.i64.bits (s.fdiv (2 ^ (min i.toNat IntKind.i64.bits))) = x
  have h : (x &&& BitVec.ofInt IntKind.i64.bits 1).toNat = x.toNat % 2 := by
    rw [BitVec.toNat_and]
    have : (BitVec.ofInt IntKind.i64.bits 1).toNat = 1 := by decide
    rw [this, Nat.and_one_is_mod]
  rw [h]
  have h2 : x.toNat % 2 = 0 ∨ x.toNat % 2 = 1 := by omega
  rcases h2 with h2 | h2 <;> rw [h2] <;> decide
def whB (p : Nat → Bool) (ls : List Bk) (i : Nat) : Bool := !(p i && decide (0 ≤ (ls.getD i bk0).rival) && !p (ls.getD i bk0).rival.toNat)
def whL (p : Nat → Bool) (ls : List Bk) : Bool := (List.range ls.length).all (whB p ls)
theorem whole_pure {ls : List Bk} (s : Int) (hl : ls.length ≤ 1000) (hr : ∀ i, i < ls.length → -1 ≤ (ls.getD i bk0).rival ∧ (ls.getD i bk0).rival < ls.length) : Pure Try.prog 78 [.lst 6 (ls.map bkA), .int s] (.bool (whL (sP s) ls)) := by
  unfold whL
  (refine Spec.of_body Try.func78 rfl (by rw [Try.ntmps78]; simp) 0 (by simp) ?_; rw [Try.results78, Try.ntmps78]; simp only [entry, zipArgs, Nat.reduceAdd])
  repeat (first | apply Wp.seq | apply Wp.block | (apply Run.next; (simp only [push_cast, seval] <;> (try simp (disch := omega) only [wI, wU, wC]) <;> exact rfl); (focus ((try simp only [push_cast, seval]) <;> exact sT))) | ((first | apply Run.nil | apply Wp.skip); dsimp only [sQ, tQ, bQ]) | (apply Wp.run; (dsimp only [List.map] <;> exact rfl); exact rfl) | (apply Wp.exit; dsimp only [sQ, tQ, bQ]; simp only [reduceIte]))
  (refine Wp.vacs 1 ?_; (try simp only [List.replicate_succ, List.replicate_zero, List.cons_append, List.nil_append]))
  refine Wp.loop (fun (q : Nat × Nat × Kind) => { t := [(0, .lst 6 (ls.map bkA)), (1, .int s), (7, .lst 6 (ls.map bkA)), (8, .int ls.length), (9, .int q.1)], m := [⟨q.2.1, q.2.2⟩], n := 33 }) (fun q => q.1 ≤ ls.length ∧ ∀ j, j < q.1 → whB (sP s) ls j = true) (fun q => ls.length - q.1) (0, 0, .row 1 []) ?_ ?_ ?_
  · (refine Le.of ?_ ?_ rfl rfl <;> (try simp only [push_cast, seval]) <;> (try (with_reducible rfl)))
    all_goals rfl
  · simp
  · rintro ⟨k, v, kd⟩ ⟨hk1, hk2⟩
    simp only at hk1 hk2
    repeat (first | apply Wp.seq | apply Wp.block | (apply Run.calm; exact rfl; (simp only [push_cast, seval] <;> (try simp (disch := omega) only [wI, wU, wC]) <;> exact rfl); (focus ((try simp only [push_cast, seval]) <;> exact sT))) | ((first | apply Run.nil | apply Wp.skip); dsimp only [sQ, tQ, bQ]) | (apply Wp.run; (dsimp only [List.map] <;> exact rfl); exact rfl) | (apply Wp.exit; dsimp only [sQ, tQ, bQ]; simp only [reduceIte]))
    (apply Wp.cond; (simp only [push_cast, seval] <;> (try simp (disch := omega) only [wI, wU, wC]) <;> exact rfl))
    · intro hc
      simp only [decide_eq_true_eq, Int.ofNat_lt] at hc
      have hrv := hr k hc
      have hwk : whB (sP s) ls k = !(tgB s (k : Int) && decide (0 ≤ (ls.getD k bk0).rival) && !tgB s (((ls.getD k bk0).rival.toNat : Nat) : Int)) := rfl
      generalize hx : ls.getD k bk0 = x at hrv hwk
      have hb := bit01 s x.rival
      have hwe : whB (sP s) ls k = !(tgB s (k : Int) && decide (0 ≤ x.rival) && !tgB s x.rival) := by
        rw [hwk]
        by_cases h0 : 0 ≤ x.rival
        · rw [show ((x.rival.toNat : Nat) : Int) = x.rival by omega]
        · rw [decide_eq_false h0]; simp
      rw [← hb] at hwe
      repeat (first | apply Wp.seq | apply Wp.block | (apply Run.calm; exact rfl; (simp only [push_cast, seval, hx] <;> (try simp (disch := omega) only [wI, wU, wC]) <;> exact rfl); (focus ((try simp only [push_cast, seval, hx]) <;> exact sT))) | ((first | apply Run.nil | apply Wp.skip); dsimp only [sQ, tQ, bQ]) | (apply Wp.run; (dsimp only [List.map] <;> exact rfl); exact rfl) | (apply Wp.exit; dsimp only [sQ, tQ, bQ]; simp only [reduceIte]))
      (apply Run.alcAt 0; (simp only [push_cast, seval, hx] <;> (try simp (disch := omega) only [wI, wU, wC]) <;> exact rfl); (focus ((try simp only [push_cast, seval, hx]) <;> exact sT)); exact rfl; (try simp only [push_cast, seval, hx]))
      repeat (first | apply Wp.seq | apply Wp.block | (apply Run.next; (simp only [push_cast, seval, hx] <;> (try simp (disch := omega) only [wI, wU, wC]) <;> exact rfl); (focus ((try simp only [push_cast, seval, hx]) <;> exact sT))) | ((first | apply Run.nil | apply Wp.skip); dsimp only [sQ, tQ, bQ]) | (apply Wp.run; (dsimp only [List.map] <;> exact rfl); exact rfl) | (apply Wp.exit; dsimp only [sQ, tQ, bQ]; simp only [reduceIte]))
      (apply Wp.cond; (simp only [push_cast, seval, hx] <;> (try simp (disch := omega) only [wI, wU, wC]) <;> exact rfl))
      · intro h4
        have h5 : whB (sP s) ls k = false := by rw [hwe]; exact congrArg (!·) h4
        repeat (first | apply Wp.seq | apply Wp.block | (apply Run.next; (simp only [push_cast, seval, hx] <;> (try simp (disch := omega) only [wI, wU, wC]) <;> exact rfl); (focus ((try simp only [push_cast, seval, hx]) <;> exact sT))) | ((first | apply Run.nil | apply Wp.skip); dsimp only [sQ, tQ, bQ]) | (apply Wp.run; (dsimp only [List.map] <;> exact rfl); exact rfl) | (apply Wp.exit; dsimp only [sQ, tQ, bQ]; simp only [reduceIte]))
        (apply Wp.ret; (try dsimp only [sQ, tQ, bQ]); apply leave0; exact rfl; (simp only [push_cast, seval, hx] <;> (try simp (disch := omega) only [wI, wU, wC]) <;> exact rfl); all_goals (try simp only [push_cast, seval, hx]); (try rfl))
        rw [range_no hc h5]
      · intro h4
        have h5 : whB (sP s) ls k = true := by rw [hwe]; exact congrArg (!·) h4
        repeat (first | apply Wp.seq | apply Wp.block | (apply Run.next; (simp only [push_cast, seval, hx] <;> (try simp (disch := omega) only [wI, wU, wC]) <;> exact rfl); (focus ((try simp only [push_cast, seval, hx]) <;> exact sT))) | ((first | apply Run.nil | apply Wp.skip); dsimp only [sQ, tQ, bQ]) | (apply Wp.run; (dsimp only [List.map] <;> exact rfl); exact rfl) | (apply Wp.exit; dsimp only [sQ, tQ, bQ]; simp only [reduceIte]))
        refine ⟨(k + 1, v + 1, .row 6 [bkA x]), ?_, ⟨by simp only; omega, fun j hj => ?_⟩, by simp only; omega⟩
        · (refine Le.of ?_ ?_ rfl rfl <;> (try simp only [push_cast, seval, hx]) <;> (try (with_reducible rfl)))
        · simp only at hj
          by_cases hjk : j = k
          · subst hjk; exact h5
          · exact hk2 j (by omega)
    · intro hc
      simp only [decide_eq_false_iff_not, Int.ofNat_lt] at hc
      obtain rfl : k = ls.length := by omega
      repeat (first | apply Wp.seq | apply Wp.block | (apply Run.next; (simp only [push_cast, seval] <;> (try simp (disch := omega) only [wI, wU, wC]) <;> exact rfl); (focus ((try simp only [push_cast, seval]) <;> exact sT))) | ((first | apply Run.nil | apply Wp.skip); dsimp only [sQ, tQ, bQ]) | (apply Wp.run; (dsimp only [List.map] <;> exact rfl); exact rfl) | (apply Wp.exit; dsimp only [sQ, tQ, bQ]; simp only [reduceIte]))
      (apply Wp.ret; (try dsimp only [sQ, tQ, bQ]); apply leave0; exact rfl; (simp only [push_cast, seval] <;> (try simp (disch := omega) only [wI, wU, wC]) <;> exact rfl); all_goals (try simp only [push_cast, seval]); (try rfl))
      rw [range_all hk2]
/-! the document's choice of some -/
def frI (p : Nat → Bool) (m k : Nat) : Int := if p m = true ∧ ctN p m < k then (ctN p m : Int) else -1
theorem frI_0 (p : Nat → Bool) (m : Nat) : frI p m 0 = -1 := by unfold frI; rw [if_neg (fun h => by omega)]
theorem frI_succ (p : Nat → Bool) (n m : Nat) {k : Nat} (hk : k < (ixL p n).length) : frI p m (k + 1) = if (ixL p n).getD k 0 = m then (k : Int) else frI p m k := by
  obtain ⟨j, h1, h2, h3, h4⟩ := ixL_of p (n := n) (k := k) hk
  rw [h4]
  unfold frI
  by_cases hjm : j = m
  · subst hjm
    rw [if_pos rfl, if_pos ⟨h2, by omega⟩, h3]
  · rw [if_neg hjm]
    by_cases hp : p m = true
    · have hne : ctN p m ≠ k := by
        intro e
        rcases Nat.lt_trichotomy m j with h5 | h5 | h5
        · have := ctN_lt p h5 hp; omega
        · exact hjm h5.symm
        · have := ctN_lt p h5 h2; omega
      by_cases hlt : ctN p m < k
      · rw [if_pos ⟨hp, by omega⟩, if_pos ⟨hp, hlt⟩]
      · rw [if_neg (fun h => by have := h.2; omega), if_neg (fun h => by have := h.2; omega)]
    · rw [if_neg (fun h => hp h.1), if_neg (fun h => hp h.1)]
theorem frI_all (p : Nat → Bool) (n m : Nat) (hm : m < n) : frI p m (ixL p n).length = nmR p (m : Int) := by
  rw [nmR_at (by omega), Int.toNat_natCast]
  unfold frI
  by_cases hp : p m = true
  · rw [if_pos ⟨hp, by rw [ixL_len]; exact ctN_lt p hm hp⟩, if_pos hp]
  · rw [if_neg (fun h => hp h.1), if_neg hp]
theorem frI_bd (p : Nat → Bool) (m k : Nat) : -1 ≤ frI p m k ∧ frI p m k < k := by
  unfold frI; split <;> omega
def smL (p : Nat → Bool) (ls : List Bk) (k : Nat) : List Bk := ((ixL p ls.length).take k).map fun i => reR p (ls.getD i bk0)
theorem smL_succ (p : Nat → Bool) (ls : List Bk) {k : Nat} (hk : k < (ixL p ls.length).length) : smL p ls (k + 1) = smL p ls k ++ [reR p (ls.getD ((ixL p ls.length).getD k 0) bk0)] := by
  have e : (ixL p ls.length).take (k + 1) = (ixL p ls.length).take k ++ [(ixL p ls.length).getD k 0] := by rw [List.take_add_one]; simp [hk]
  unfold smL
  rw [e, List.map_append]; rfl
theorem smL_all (p : Nat → Bool) (ls : List Bk) {k : Nat} (hk : (ixL p ls.length).length ≤ k) : smL p ls k = someL p ls := by
  rw [smL, List.take_of_length_le hk, someL_eq]
def smA (p : Nat → Bool) (ls : List Bk) : AV := if whL p ls = true then .lst 6 ((someL p ls).map bkA) else .emp
theorem Some_pure {ls : List Bk} (p : Nat → Bool) (hl : ls.length ≤ 1000) (hr : ∀ i, i < ls.length → -1 ≤ (ls.getD i bk0).rival ∧ (ls.getD i bk0).rival < ls.length) : Pure Try.prog 82 [.lst 6 (ls.map bkA), .ints (cL (ixL p ls.length))] (.tup [smA p ls, .bool (whL p ls)]) := by
  have hcn : (ixL p ls.length).length ≤ ls.length := by
    rw [ixL_len]; have := ct_bd p ls.length; rw [ct_ctN] at this; omega
  have hof := fun k (hk : k < (ixL p ls.length).length) => ixL_of p (n := ls.length) hk
  have hf1 := fun m k (hk : k < (ixL p ls.length).length) => frI_succ p ls.length m hk
  have hf2 := fun m (hm : m < ls.length) => frI_all p ls.length m hm
  have hss := fun k (hk : k < (ixL p ls.length).length) => smL_succ p ls hk
  have hsa := smL_all p ls (Nat.le_refl (ixL p ls.length).length)
  have hs0 : smL p ls 0 = [] := rfl
  have hsl : ∀ k, k ≤ (ixL p ls.length).length → (smL p ls k).length = k := fun k hk => by simp [smL]; omega
  have hcl := cL_len (ixL p ls.length)
  have hcg : ∀ k, k < (ixL p ls.length).length → (cL (ixL p ls.length)).getD k 0 = (((ixL p ls.length).getD k 0 : Nat) : Int) := fun k hk => by simp [cL, hk]
  have hall : (∀ k, k < (ixL p ls.length).length → whB p ls ((ixL p ls.length).getD k 0) = true) → whL p ls = true := by
    intro h
    refine range_all fun j hj => ?_
    by_cases hpj : p j = true
    · have h1 := ixL_at p hj hpj
      have h2 : ctN p j < (ixL p ls.length).length := by rw [ixL_len]; exact ctN_lt p hj hpj
      have := h _ h2
      rw [h1] at this; exact this
    · unfold whB
      have : p j = false := by simpa using hpj
      rw [this]; simp
  generalize ixL p ls.length = I at *
  generalize hcc : cL I = C at *
  (refine Spec.of_body Try.func82 rfl (by rw [Try.ntmps82]; simp) 0 (by simp) ?_; rw [Try.results82, Try.ntmps82]; simp only [entry, zipArgs, Nat.reduceAdd])
  repeat (first | apply Wp.seq | apply Wp.block | (apply Run.next; (simp only [push_cast, seval] <;> (try simp (disch := omega) only [wI, wU, wC]) <;> exact rfl); (focus ((try simp only [push_cast, seval]) <;> exact sT))) | ((first | apply Run.nil | apply Wp.skip); dsimp only [sQ, tQ, bQ]) | (apply Wp.run; (dsimp only [List.map] <;> exact rfl); exact rfl) | (apply Wp.exit; dsimp only [sQ, tQ, bQ]; simp only [reduceIte]))
  (refine Wp.vacs 1 ?_; (try simp only [List.replicate_succ, List.replicate_zero, List.cons_append, List.nil_append]))
  refine Wp.adopt 6 6 (by (simp only [push_cast, seval] <;> (try simp (disch := omega) only [wI, wU, wC]) <;> exact rfl)) ?_
  refine Wp.loop (fun (q : Nat × Nat × Kind) => { t := [(0, .lst 6 (ls.map bkA)), (1, .ints C), (7, .int q.1), (6, .osl 1 q.1 0 q.1)], m := [⟨q.2.1, q.2.2⟩, ⟨q.1, .row 6 ((smL p ls q.1).map bkA)⟩], n := 50 }) (fun q => q.1 ≤ I.length ∧ ∀ j, j < q.1 → whB p ls (I.getD j 0) = true) (fun q => I.length - q.1) (0, 0, .row 1 []) ?_ ?_ ?_
  · (refine Le.of ?_ ?_ rfl rfl <;> (try simp only [push_cast, seval]) <;> (try (with_reducible rfl)))
    all_goals rfl
  · simp
  · rintro ⟨k, v, kd⟩ ⟨hk1, hk2⟩
    simp only at hk1 hk2
    have hslk := hsl k hk1
    repeat (first | apply Wp.seq | apply Wp.block | (apply Run.calm; exact rfl; (simp only [push_cast, seval, hcl] <;> (try simp (disch := omega) only [wI, wU, wC]) <;> exact rfl); (focus ((try simp only [push_cast, seval, hcl]) <;> exact sT))) | ((first | apply Run.nil | apply Wp.skip); dsimp only [sQ, tQ, bQ]) | (apply Wp.run; (dsimp only [List.map] <;> exact rfl); exact rfl) | (apply Wp.exit; dsimp only [sQ, tQ, bQ]; simp only [reduceIte]))
    (apply Wp.cond; (simp only [push_cast, seval, hcl] <;> (try simp (disch := omega) only [wI, wU, wC]) <;> exact rfl))
    · intro hc
      simp only [decide_eq_true_eq, Int.ofNat_lt] at hc
      obtain ⟨j, hj1, hj2, hj3, hj4⟩ := hof k hc
      have hgk := hcg k hc
      rw [hj4] at hgk
      have hssk := hss k hc
      rw [hj4] at hssk
      have hrv := hr j hj1
      have hwj : whB p ls j = !(p j && decide (0 ≤ (ls.getD j bk0).rival) && !p (ls.getD j bk0).rival.toNat) := rfl
      rw [hj2] at hwj
      generalize hx : ls.getD j bk0 = x at hssk hrv hwj
      generalize hL : smL p ls k = L at hslk hssk
      have htk : L.take k = L := List.take_of_length_le (by omega)
      repeat (first | apply Wp.seq | apply Wp.block | (apply Run.calm; exact rfl; (simp only [push_cast, seval, hcl, hgk, hx, hslk, htk] <;> (try simp (disch := omega) only [wI, wU, wC]) <;> exact rfl); (focus ((try simp only [push_cast, seval, hcl, hgk, hx, hslk, htk]) <;> exact sT))) | ((first | apply Run.nil | apply Wp.skip); dsimp only [sQ, tQ, bQ]) | (apply Wp.run; (dsimp only [List.map] <;> exact rfl); exact rfl) | (apply Wp.exit; dsimp only [sQ, tQ, bQ]; simp only [reduceIte]))
      (apply Run.alcAt 0; (simp only [push_cast, seval, hcl, hgk, hx, hslk, htk] <;> (try simp (disch := omega) only [wI, wU, wC]) <;> exact rfl); (focus ((try simp only [push_cast, seval, hcl, hgk, hx, hslk, htk]) <;> exact sT)); exact rfl; (try simp only [push_cast, seval, hcl, hgk, hx, hslk, htk]))
      repeat (first | apply Wp.seq | apply Wp.block | (apply Run.next; (simp only [push_cast, seval, hcl, hgk, hx, hslk, htk] <;> (try simp (disch := omega) only [wI, wU, wC]) <;> exact rfl); (focus ((try simp only [push_cast, seval, hcl, hgk, hx, hslk, htk]) <;> exact sT))) | ((first | apply Run.nil | apply Wp.skip); dsimp only [sQ, tQ, bQ]) | (apply Wp.run; (dsimp only [List.map] <;> exact rfl); exact rfl) | (apply Wp.exit; dsimp only [sQ, tQ, bQ]; simp only [reduceIte]))
      refine Wp.cutP { t := [(0, .lst 6 (ls.map bkA)), (1, .ints C), (7, .int k), (6, .osl 1 k 0 k), (8, .optr 0 (v + 1) 0 0)], m := [⟨v + 1, .row 6 [bkA (reR p x)]⟩, ⟨k, .row 6 (L.map bkA)⟩], n := 50 } (whB p ls j = true) ?_ ?_
      · (apply Wp.cond; (simp only [push_cast, seval, hcl, hgk, hx, hslk, htk] <;> (try simp (disch := omega) only [wI, wU, wC]) <;> exact rfl))
        · intro h3
          simp only [decide_eq_true_eq] at h3
          obtain ⟨m, hm⟩ : ∃ m : Nat, x.rival = (m : Int) := ⟨x.rival.toNat, by omega⟩
          have hml : m < ls.length := by omega
          have hfm0 := frI_0 p m
          have hfm1 := fun k hk => hf1 m k hk
          have hfm2 := hf2 m hml
          have hfmb := fun k => frI_bd p m k
          have hpn : nmR p (m : Int) = if p m = true then (ctN p m : Int) else -1 := by rw [nmR_at (by omega), Int.toNat_natCast]
          rw [hm, Int.toNat_natCast, decide_eq_true (show (0 : Int) ≤ (m : Int) by omega)] at hwj
          have hre : reR p x = { x with rival := nmR p (m : Int) } := by unfold reR; rw [hm]
          generalize frI p m = fr at hfm0 hfm1 hfm2 hfmb
          repeat (first | apply Wp.seq | apply Wp.block | (apply Run.next; (simp only [push_cast, seval, hcl, hgk, hx, hslk, htk, hm] <;> (try simp (disch := omega) only [wI, wU, wC]) <;> exact rfl); (focus ((try simp only [push_cast, seval, hcl, hgk, hx, hslk, htk, hm]) <;> exact sT))) | ((first | apply Run.nil | apply Wp.skip); dsimp only [sQ, tQ, bQ]) | (apply Wp.run; (dsimp only [List.map] <;> exact rfl); exact rfl) | (apply Wp.exit; dsimp only [sQ, tQ, bQ]; simp only [reduceIte]))
          refine Wp.loop (fun (i : Nat) => { t := [(0, .lst 6 (ls.map bkA)), (1, .ints C), (7, .int k), (6, .osl 1 k 0 k), (8, .optr 0 (v + 1) 0 0), (9, .int (fr i)), (10, .int i)], m := [⟨v + 1, .row 6 [bkA x]⟩, ⟨k, .row 6 (L.map bkA)⟩], n := 50 }) (fun i => i ≤ I.length) (fun i => I.length - i) 0 ?_ ?_ ?_
          · rw [hfm0]
            (refine Le.of ?_ ?_ rfl rfl <;> (try simp only [push_cast, seval, hcl, hgk, hx, hslk, htk, hm]) <;> (try (with_reducible rfl)))
            all_goals rfl
          · simp
          · intro i hi
            repeat (first | apply Wp.seq | apply Wp.block | (apply Run.next; (simp only [push_cast, seval, hcl, hgk, hx, hslk, htk, hm] <;> (try simp (disch := omega) only [wI, wU, wC]) <;> exact rfl); (focus ((try simp only [push_cast, seval, hcl, hgk, hx, hslk, htk, hm]) <;> exact sT))) | ((first | apply Run.nil | apply Wp.skip); dsimp only [sQ, tQ, bQ]) | (apply Wp.run; (dsimp only [List.map] <;> exact rfl); exact rfl) | (apply Wp.exit; dsimp only [sQ, tQ, bQ]; simp only [reduceIte]))
            (apply Wp.cond; (simp only [push_cast, seval, hcl, hgk, hx, hslk, htk, hm] <;> (try simp (disch := omega) only [wI, wU, wC]) <;> exact rfl))
            · intro hci
              simp only [decide_eq_true_eq, Int.ofNat_lt] at hci
              have hgi := hcg i hci
              have hfi := hfm1 i hci
              generalize I.getD i 0 = w at hgi hfi
              repeat (first | apply Wp.seq | apply Wp.block | (apply Run.next; (simp only [push_cast, seval, hcl, hgk, hx, hslk, htk, hm, hgi] <;> (try simp (disch := omega) only [wI, wU, wC]) <;> exact rfl); (focus ((try simp only [push_cast, seval, hcl, hgk, hx, hslk, htk, hm, hgi]) <;> exact sT))) | ((first | apply Run.nil | apply Wp.skip); dsimp only [sQ, tQ, bQ]) | (apply Wp.run; (dsimp only [List.map] <;> exact rfl); exact rfl) | (apply Wp.exit; dsimp only [sQ, tQ, bQ]; simp only [reduceIte]))
              (apply Wp.runD 7 mixed; (dsimp only [List.map] <;> exact rfl); exact rfl; kernel_rfl; (dsimp only [List.take] <;> exact rfl); (dsimp only [List.drop] <;> exact rfl); (((repeat (apply Abn.next; (simp only [push_cast, seval, hcl, hgk, hx, hslk, htk, hm, hgi] <;> (try simp (disch := omega) only [wI, wU, wC]) <;> exact rfl); (focus ((try simp only [push_cast, seval, hcl, hgk, hx, hslk, htk, hm, hgi]) <;> exact sT))))); exact Abn.nil))
              repeat (first | apply Wp.seq | apply Wp.block | (apply Run.next; (simp only [push_cast, seval, hcl, hgk, hx, hslk, htk, hm, hgi] <;> (try simp (disch := omega) only [wI, wU, wC]) <;> exact rfl); (focus ((try simp only [push_cast, seval, hcl, hgk, hx, hslk, htk, hm, hgi]) <;> exact sT))) | ((first | apply Run.nil | apply Wp.skip); dsimp only [sQ, tQ, bQ]) | (apply Wp.run; (dsimp only [List.map] <;> exact rfl); exact rfl) | (apply Wp.exit; dsimp only [sQ, tQ, bQ]; simp only [reduceIte]))
              (apply Wp.cond; (simp only [push_cast, seval, hcl, hgk, hx, hslk, htk, hm, hgi] <;> (try simp (disch := omega) only [wI, wU, wC]) <;> exact rfl))
              · intro h5
                simp only [decide_eq_true_eq] at h5
                rw [if_pos (by omega)] at hfi
                repeat (first | apply Wp.seq | apply Wp.block | (apply Run.next; (simp only [push_cast, seval, hcl, hgk, hx, hslk, htk, hm, hgi] <;> (try simp (disch := omega) only [wI, wU, wC]) <;> exact rfl); (focus ((try simp only [push_cast, seval, hcl, hgk, hx, hslk, htk, hm, hgi]) <;> exact sT))) | ((first | apply Run.nil | apply Wp.skip); dsimp only [sQ, tQ, bQ]) | (apply Wp.run; (dsimp only [List.map] <;> exact rfl); exact rfl) | (apply Wp.exit; dsimp only [sQ, tQ, bQ]; simp only [reduceIte]))
                refine ⟨i + 1, ?_, by omega, by omega⟩
                rw [hfi]
                (refine Le.of ?_ ?_ rfl rfl <;> (try simp only [push_cast, seval, hcl, hgk, hx, hslk, htk, hm, hgi]) <;> (try (with_reducible rfl)))
              · intro h5
                simp only [decide_eq_false_iff_not] at h5
                rw [if_neg (by omega)] at hfi
                repeat (first | apply Wp.seq | apply Wp.block | (apply Run.next; (simp only [push_cast, seval, hcl, hgk, hx, hslk, htk, hm, hgi] <;> (try simp (disch := omega) only [wI, wU, wC]) <;> exact rfl); (focus ((try simp only [push_cast, seval, hcl, hgk, hx, hslk, htk, hm, hgi]) <;> exact sT))) | ((first | apply Run.nil | apply Wp.skip); dsimp only [sQ, tQ, bQ]) | (apply Wp.run; (dsimp only [List.map] <;> exact rfl); exact rfl) | (apply Wp.exit; dsimp only [sQ, tQ, bQ]; simp only [reduceIte]))
                refine ⟨i + 1, ?_, by omega, by omega⟩
                rw [hfi]
                (refine Le.of ?_ ?_ rfl rfl <;> (try simp only [push_cast, seval, hcl, hgk, hx, hslk, htk, hm, hgi]) <;> (try (with_reducible rfl)))
            · intro hci
              simp only [decide_eq_false_iff_not, Int.ofNat_lt] at hci
              obtain rfl : i = I.length := by omega
              rw [hfm2]
              by_cases hpm : p m = true
              · rw [if_pos hpm] at hpn
                have hlt : decide (nmR p (m : Int) < 0) = false := decide_eq_false (by omega)
                repeat (first | apply Wp.seq | apply Wp.block | (apply Run.next; (simp only [push_cast, seval, hcl, hgk, hx, hslk, htk, hm, hlt] <;> (try simp (disch := omega) only [wI, wU, wC]) <;> exact rfl); (focus ((try simp only [push_cast, seval, hcl, hgk, hx, hslk, htk, hm, hlt]) <;> exact sT))) | ((first | apply Run.nil | apply Wp.skip); dsimp only [sQ, tQ, bQ]) | (apply Wp.run; (dsimp only [List.map] <;> exact rfl); exact rfl) | (apply Wp.exit; dsimp only [sQ, tQ, bQ]; simp only [reduceIte]) | (apply Run.gtrue; (simp only [push_cast, seval, hcl, hgk, hx, hslk, htk, hm, hlt] <;> (try simp (disch := omega) only [wI, wU, wC]) <;> exact rfl); (simp only [push_cast, seval, hcl, hgk, hx, hslk, htk, hm, hlt] <;> (try simp (disch := omega) only [wI, wU, wC]) <;> exact rfl)) | (apply Run.gfalse (.bool false); (simp only [push_cast, seval, hcl, hgk, hx, hslk, htk, hm, hlt] <;> (try simp (disch := omega) only [wI, wU, wC]) <;> exact rfl); dsimp only [S.put, optG]) | (apply Wp.condT; (simp only [push_cast, seval, hcl, hgk, hx, hslk, htk, hm, hlt] <;> (try simp (disch := omega) only [wI, wU, wC]) <;> exact rfl)) | (apply Wp.condF; (simp only [push_cast, seval, hcl, hgk, hx, hslk, htk, hm, hlt] <;> (try simp (disch := omega) only [wI, wU, wC]) <;> exact rfl)))
                refine ⟨?_, by rw [hwj, hpm]; rfl⟩
                rw [hre]
                (refine Le.of ?_ ?_ rfl rfl <;> (try simp only [push_cast, seval, hcl, hgk, hx, hslk, htk, hm, hlt]) <;> (try (with_reducible rfl)))
              · rw [if_neg hpm] at hpn
                have hlt : decide (nmR p (m : Int) < 0) = true := decide_eq_true (by omega)
                have hwf : whB p ls j = false := by rw [hwj, show p m = false by simpa using hpm]; rfl
                have hwl : whL p ls = false := range_no hj1 hwf
                repeat (first | apply Wp.seq | apply Wp.block | (apply Run.next; (simp only [push_cast, seval, hcl, hgk, hx, hslk, htk, hm, hlt] <;> (try simp (disch := omega) only [wI, wU, wC]) <;> exact rfl); (focus ((try simp only [push_cast, seval, hcl, hgk, hx, hslk, htk, hm, hlt]) <;> exact sT))) | ((first | apply Run.nil | apply Wp.skip); dsimp only [sQ, tQ, bQ]) | (apply Wp.run; (dsimp only [List.map] <;> exact rfl); exact rfl) | (apply Wp.exit; dsimp only [sQ, tQ, bQ]; simp only [reduceIte]) | (apply Run.gtrue; (simp only [push_cast, seval, hcl, hgk, hx, hslk, htk, hm, hlt] <;> (try simp (disch := omega) only [wI, wU, wC]) <;> exact rfl); (simp only [push_cast, seval, hcl, hgk, hx, hslk, htk, hm, hlt] <;> (try simp (disch := omega) only [wI, wU, wC]) <;> exact rfl)) | (apply Run.gfalse (.bool false); (simp only [push_cast, seval, hcl, hgk, hx, hslk, htk, hm, hlt] <;> (try simp (disch := omega) only [wI, wU, wC]) <;> exact rfl); dsimp only [S.put, optG]) | (apply Wp.condT; (simp only [push_cast, seval, hcl, hgk, hx, hslk, htk, hm, hlt] <;> (try simp (disch := omega) only [wI, wU, wC]) <;> exact rfl)) | (apply Wp.condF; (simp only [push_cast, seval, hcl, hgk, hx, hslk, htk, hm, hlt] <;> (try simp (disch := omega) only [wI, wU, wC]) <;> exact rfl)))
                (apply Wp.ret; (try dsimp only [sQ, tQ, bQ]); apply leave0; exact rfl; (simp only [push_cast, seval, hcl, hgk, hx, hslk, htk, hm, hlt] <;> (try simp (disch := omega) only [wI, wU, wC]) <;> exact rfl); all_goals (try simp only [push_cast, seval, hcl, hgk, hx, hslk, htk, hm, hlt]); (try rfl))
                rw [smA, hwl]; rfl
        · intro h3
          simp only [decide_eq_false_iff_not] at h3
          have hre : reR p x = x := by
            have : x.rival = -1 := by omega
            unfold reR; rw [this]; cases x; simp only [nmR, if_true]; simp only at this; rw [this]
          rw [hre]
          repeat (first | apply Wp.seq | apply Wp.block | (apply Run.next; (simp only [push_cast, seval, hcl, hgk, hx, hslk, htk] <;> (try simp (disch := omega) only [wI, wU, wC]) <;> exact rfl); (focus ((try simp only [push_cast, seval, hcl, hgk, hx, hslk, htk]) <;> exact sT))) | ((first | apply Run.nil | apply Wp.skip); dsimp only [sQ, tQ, bQ]) | (apply Wp.run; (dsimp only [List.map] <;> exact rfl); exact rfl) | (apply Wp.exit; dsimp only [sQ, tQ, bQ]; simp only [reduceIte]) | (apply Run.gtrue; (simp only [push_cast, seval, hcl, hgk, hx, hslk, htk] <;> (try simp (disch := omega) only [wI, wU, wC]) <;> exact rfl); (simp only [push_cast, seval, hcl, hgk, hx, hslk, htk] <;> (try simp (disch := omega) only [wI, wU, wC]) <;> exact rfl)) | (apply Run.gfalse (.bool false); (simp only [push_cast, seval, hcl, hgk, hx, hslk, htk] <;> (try simp (disch := omega) only [wI, wU, wC]) <;> exact rfl); dsimp only [S.put, optG]) | (apply Wp.condT; (simp only [push_cast, seval, hcl, hgk, hx, hslk, htk] <;> (try simp (disch := omega) only [wI, wU, wC]) <;> exact rfl)) | (apply Wp.condF; (simp only [push_cast, seval, hcl, hgk, hx, hslk, htk] <;> (try simp (disch := omega) only [wI, wU, wC]) <;> exact rfl)))
          refine ⟨?_, by rw [hwj, decide_eq_false h3]; rfl⟩
          (refine Le.of ?_ ?_ rfl rfl <;> (try simp only [push_cast, seval, hcl, hgk, hx, hslk, htk]) <;> (try (with_reducible rfl)))
      · (try dsimp only [sQ, tQ, bQ])
        intro s' hs' hwt
        refine Wp.le hs' ?_
        repeat (first | apply Wp.seq | apply Wp.block | (apply Run.next; (simp only [push_cast, seval, hcl, hgk, hx, hslk, htk] <;> (try simp (disch := omega) only [wI, wU, wC]) <;> exact rfl); (focus ((try simp only [push_cast, seval, hcl, hgk, hx, hslk, htk]) <;> exact sT))) | ((first | apply Run.nil | apply Wp.skip); dsimp only [sQ, tQ, bQ]) | (apply Wp.run; (dsimp only [List.map] <;> exact rfl); exact rfl) | (apply Wp.exit; dsimp only [sQ, tQ, bQ]; simp only [reduceIte]))
        refine ⟨(k + 1, v + 1, .row 6 [bkA (reR p x)]), ?_, ⟨by simp only; omega, fun i hi => ?_⟩, by simp only; omega⟩
        · simp only
          rw [hssk]
          (refine Le.of ?_ ?_ rfl rfl <;> (try simp only [push_cast, seval, hcl, hgk, hx, hslk, htk]) <;> (try (with_reducible rfl)))
          all_goals simp [bkA]
        · simp only at hi
          by_cases hik : i = k
          · subst hik; rw [hj4]; exact hwt
          · exact hk2 i (by omega)
    · intro hc
      simp only [decide_eq_false_iff_not, Int.ofNat_lt] at hc
      obtain rfl : k = I.length := by omega
      repeat (first | apply Wp.seq | apply Wp.block | (apply Run.next; (simp only [push_cast, seval, hcl] <;> (try simp (disch := omega) only [wI, wU, wC]) <;> exact rfl); (focus ((try simp only [push_cast, seval, hcl]) <;> exact sT))) | ((first | apply Run.nil | apply Wp.skip); dsimp only [sQ, tQ, bQ]) | (apply Wp.run; (dsimp only [List.map] <;> exact rfl); exact rfl) | (apply Wp.exit; dsimp only [sQ, tQ, bQ]; simp only [reduceIte]))
      (apply Wp.freeze 4; (simp only [push_cast, seval, hcl] <;> (try simp (disch := omega) only [wI, wU, wC]) <;> exact rfl); (simp only [push_cast, seval, hcl] <;> (try simp (disch := omega) only [wI, wU, wC]) <;> exact rfl); (focus (try simp only [push_cast, seval, hcl]); (try (exact sT))); (focus (exact sT)))
      (apply Wp.ret; (try dsimp only [sQ, tQ, bQ]); apply leave0; exact rfl; (simp only [push_cast, seval, hcl] <;> (try simp (disch := omega) only [wI, wU, wC]) <;> exact rfl); all_goals (try simp only [push_cast, seval, hcl]); (try rfl))
      have hwl := hall hk2
      rw [smA, if_pos hwl, hwl, hsa, List.take_of_length_le (by rw [← hsa, hsl I.length (Nat.le_refl _)]; exact Nat.le_refl _)]
end Go.Proofs.Try
set_option maxHeartbeats 8000000
set_option maxRecDepth 20000
namespace Go.Proofs.Try
open Go.Vg

/-! the choice that is worth the most -/
def wtF (vals : List Int) (p : Nat → Bool) : Nat → Int
  | 0 => 0
  | k + 1 => if p k = true then wtF vals p k + vals.getD k 0 else wtF vals p k
def lsum (vals : List Int) (L : List Nat) : Int := L.foldl (fun a i => a + vals.getD i 0) 0
theorem lsum_app (vals : List Int) (L : List Nat) (x : Nat) : lsum vals (L ++ [x]) = lsum vals L + vals.getD x 0 := by simp [lsum, List.foldl_append]
theorem wtF_sum (vals : List Int) (p : Nat → Bool) : ∀ n, lsum vals (ixL p n) = wtF vals p n
  | 0 => rfl
  | n + 1 => by
    rw [ixL_succ]
    simp only [wtF]
    split
    · rw [lsum_app, wtF_sum vals p n]
    · rw [List.append_nil, wtF_sum vals p n]
theorem lsum_bd {vals : List Int} (hv : ∀ i, i < vals.length → 0 ≤ vals.getD i 0 ∧ vals.getD i 0 ≤ 100000) (L : List Nat) (hL : ∀ i ∈ L, i < vals.length) : ∀ k, k ≤ L.length → 0 ≤ lsum vals (L.take k) ∧ lsum vals (L.take k) ≤ 100000 * (k : Int)
  | 0, _ => by simp [lsum]
  | k + 1, hk => by
    have ih := lsum_bd hv L hL k (by omega)
    have e : L.take (k + 1) = L.take k ++ [L.getD k 0] := by rw [List.take_add_one]; simp [show k < L.length by omega]
    have hm : L.getD k 0 ∈ L := by simp [show k < L.length by omega]
    have := hv _ (hL _ hm)
    rw [e, lsum_app]; omega
def betB (w sm : Int) (m ch : List Int) : Bool := decide (sm < w) || (decide (w = sm) && befB m ch)
def chS (cs : List Ch) (ms : List Ma) (cake : Int) (ls : List Bk) (vals : List Int) : Nat → List Int × Int
  | 0 => ([], 0)
  | k + 1 => if (betB (wtF vals (sP k) ls.length) (chS cs ms cake ls vals k).2 (cL (ixL (sP k) ls.length)) (chS cs ms cake ls vals k).1 && whL (sP k) ls && decide (edE cs ms cake (someL (sP k) ls) = 0)) = true then (cL (ixL (sP k) ls.length), wtF vals (sP k) ls.length) else chS cs ms cake ls vals k
theorem ixL_le (p : Nat → Bool) (n : Nat) : (ixL p n).length ≤ n := by
  rw [ixL_len]; have := ct_bd p n; rw [ct_ctN] at this; omega
theorem ixL_lt (p : Nat → Bool) (n : Nat) : ∀ i ∈ ixL p n, i < n := fun i hi => by
  unfold ixL at hi; rw [List.mem_filter, List.mem_range] at hi; exact hi.1
theorem wtF_bd {vals : List Int} (hv : ∀ i, i < vals.length → 0 ≤ vals.getD i 0 ∧ vals.getD i 0 ≤ 100000) (p : Nat → Bool) : ∀ n, n ≤ vals.length → 0 ≤ wtF vals p n ∧ wtF vals p n ≤ 100000 * (n : Int)
  | 0, _ => by simp [wtF]
  | n + 1, h => by
    have ih := wtF_bd hv p n (by omega)
    have := hv n (by omega)
    simp only [wtF]; split <;> omega
theorem chS_bd {cs : List Ch} {ms : List Ma} {cake : Int} {ls : List Bk} {vals : List Int} (hl : vals.length = ls.length) (hv : ∀ i, i < vals.length → 0 ≤ vals.getD i 0 ∧ vals.getD i 0 ≤ 100000) : ∀ k, (chS cs ms cake ls vals k).1.length ≤ ls.length ∧ 0 ≤ (chS cs ms cake ls vals k).2 ∧ (chS cs ms cake ls vals k).2 ≤ 100000 * (ls.length : Int)
  | 0 => by simp [chS]; omega
  | k + 1 => by
    have ih := chS_bd (cs := cs) (ms := ms) (cake := cake) hl hv k
    simp only [chS]
    split
    · have h1 := ixL_le (sP k) ls.length
      have h2 := wtF_bd hv (sP k) ls.length (by omega)
      exact ⟨by rw [cL_len]; exact h1, h2⟩
    · exact ih
def TT (n : Nat) : Int := IntKind.i64.wrap (1 * 2 ^ (min n IntKind.i64.bits))
theorem TT_bd (n : Nat) (h : n ≤ 12) : ∃ T : Nat, TT n = (T : Int) ∧ T ≤ 4096 := by
  match n, h with
  | 0, _ => exact ⟨1, by decide, by decide⟩
  | 1, _ => exact ⟨2, by decide, by decide⟩
  | 2, _ => exact ⟨4, by decide, by decide⟩
  | 3, _ => exact ⟨8, by decide, by decide⟩
  | 4, _ => exact ⟨16, by decide, by decide⟩
  | 5, _ => exact ⟨32, by decide, by decide⟩
  | 6, _ => exact ⟨64, by decide, by decide⟩
  | 7, _ => exact ⟨128, by decide, by decide⟩
  | 8, _ => exact ⟨256, by decide, by decide⟩
  | 9, _ => exact ⟨512, by decide, by decide⟩
  | 10, _ => exact ⟨1024, by decide, by decide⟩
  | 11, _ => exact ⟨2048, by decide, by decide⟩
  | 12, _ => exact ⟨4096, by decide, by decide⟩
  | n + 13, h => omega
def inV (vals : List Int) : Bool := vals.all fun n => wi n 0 100000
def chG (cs : List Ch) (ms : List Ma) (cake : Int) (ls : List Bk) (vals : List Int) : Int := if ckE cs ms cake ls = 0 then (if ls.length ≤ 12 then (if vals.length = ls.length ∧ inV vals = true then 0 else 1) else 2) else ckE cs ms cake ls
def chA' (cs : List Ch) (ms : List Ma) (cake : Int) (ls : List Bk) (vals : List Int) : AV := if chG cs ms cake ls vals = 0 then .ints (chS cs ms cake ls vals (TT ls.length).toNat).1 else .emp
def chN (cs : List Ch) (ms : List Ma) (cake : Int) (ls : List Bk) (vals : List Int) : Int := if chG cs ms cake ls vals = 0 then (chS cs ms cake ls vals (TT ls.length).toNat).2 else 0
end Go.Proofs.Try
set_option maxHeartbeats 8000000
set_option maxRecDepth 20000
namespace Go.Proofs.Try
open Go.Vg
theorem rChoose_pure (cs : List Ch) (ms : List Ma) (cake : Int) (ls : List Bk) (vals : List Int) (hc : cs.length ≤ 9223372036854775807) (hm : ms.length ≤ 9223372036854775807) (hl : ls.length ≤ 9223372036854775807) (hs : vals.length ≤ 9223372036854775807) : Pure Try.prog 47 [houA cs ms cake, .lst 6 (ls.map bkA), .ints vals] (.tup [chA' cs ms cake ls vals, .int (chN cs ms cake ls vals), .int (chG cs ms cake ls vals)]) := by
  have hck := rcheck_pure cs ms cake ls hc hm hl
  unfold chA' chN
  by_cases h1 : ckE cs ms cake ls = 0
  · have hgE : chG cs ms cake ls vals = if ls.length ≤ 12 then (if vals.length = ls.length ∧ inV vals = true then 0 else 1) else 2 := by unfold chG; rw [if_pos h1]
    rw [h1] at hck
    have hpw := PW.of_ck h1
    have hl20 := hpw.lv.l20
    by_cases h2 : ls.length ≤ 12
    · rw [if_pos h2] at hgE
      have hgt : decide ((12 : Int) < (ls.length : Int)) = false := decide_eq_false (by omega)
      by_cases h3 : vals.length = ls.length
      · have hle : decide ((vals.length : Int) = (ls.length : Int)) = true := decide_eq_true (by omega)
        (refine Spec.of_body Try.func47 rfl (by rw [Try.ntmps47]; simp) 0 (by simp) ?_; rw [Try.results47, Try.ntmps47]; simp only [entry, zipArgs, Nat.reduceAdd])
        repeat (first | apply Wp.seq | apply Wp.block | (apply Run.next; (simp only [push_cast, seval, hgt, hle] <;> (try simp (disch := omega) only [wI, wU, wC]) <;> exact rfl); (focus ((try simp only [push_cast, seval, hgt, hle]) <;> exact sT))) | ((first | apply Run.nil | apply Wp.skip); dsimp only [sQ, tQ, bQ]) | (apply Wp.run; (dsimp only [List.map] <;> exact rfl); exact rfl) | (apply Wp.exit; dsimp only [sQ, tQ, bQ]; simp only [reduceIte]))
        (apply Run.pureP; (simp only [push_cast, seval, hgt, hle] <;> (try simp (disch := omega) only [wI, wU, wC]) <;> exact rfl); (exact (Enters.of Try.func26 rfl rfl)); (exact hck); (focus (simp only [push_cast, seval, hgt, hle] <;> first | trivial | assumption | (refine ⟨?_, ?_⟩ <;> assumption) | (simp; done))); (try dsimp only [putA, optG]))
        repeat (first | apply Wp.seq | apply Wp.block | (apply Run.next; (simp only [push_cast, seval, hgt, hle] <;> (try simp (disch := omega) only [wI, wU, wC]) <;> exact rfl); (focus ((try simp only [push_cast, seval, hgt, hle]) <;> exact sT))) | ((first | apply Run.nil | apply Wp.skip); dsimp only [sQ, tQ, bQ]) | (apply Wp.run; (dsimp only [List.map] <;> exact rfl); exact rfl) | (apply Wp.exit; dsimp only [sQ, tQ, bQ]; simp only [reduceIte]) | (apply Run.gtrue; (simp only [push_cast, seval, hgt, hle] <;> (try simp (disch := omega) only [wI, wU, wC]) <;> exact rfl); (simp only [push_cast, seval, hgt, hle] <;> (try simp (disch := omega) only [wI, wU, wC]) <;> exact rfl)) | (apply Run.gfalse (.bool false); (simp only [push_cast, seval, hgt, hle] <;> (try simp (disch := omega) only [wI, wU, wC]) <;> exact rfl); dsimp only [S.put, optG]) | (apply Wp.condT; (simp only [push_cast, seval, hgt, hle] <;> (try simp (disch := omega) only [wI, wU, wC]) <;> exact rfl)) | (apply Wp.condF; (simp only [push_cast, seval, hgt, hle] <;> (try simp (disch := omega) only [wI, wU, wC]) <;> exact rfl)))
        refine Wp.loop (fun (i : Nat) => { t := [(1, .lst 6 (ls.map bkA)), (2, .ints vals), (3, .optr 0 0 0 0), (10, .int i)], m := [⟨0, .row 3 [houA cs ms cake]⟩], n := 106 }) (fun i => i ≤ vals.length ∧ ∀ j, j < i → wi (vals.getD j 0) 0 100000 = true) (fun i => vals.length - i) 0 ?_ ?_ ?_
        · (refine Le.of ?_ ?_ rfl rfl <;> (try simp only [push_cast, seval]) <;> (try (with_reducible rfl)))
          all_goals rfl
        · simp
        · rintro i ⟨hi1, hi2⟩
          repeat (first | apply Wp.seq | apply Wp.block | (apply Run.next; (simp only [push_cast, seval] <;> (try simp (disch := omega) only [wI, wU, wC]) <;> exact rfl); (focus ((try simp only [push_cast, seval]) <;> exact sT))) | ((first | apply Run.nil | apply Wp.skip); dsimp only [sQ, tQ, bQ]) | (apply Wp.run; (dsimp only [List.map] <;> exact rfl); exact rfl) | (apply Wp.exit; dsimp only [sQ, tQ, bQ]; simp only [reduceIte]))
          (apply Wp.cond; (simp only [push_cast, seval] <;> (try simp (disch := omega) only [wI, wU, wC]) <;> exact rfl))
          · intro hc1
            simp only [decide_eq_true_eq, Int.ofNat_lt] at hc1
            have hall : ∀ p : Int → Bool, p (vals.getD i 0) = false → vals.all p = false := fun p h => all_noK hc1 h
            generalize hz : vals.getD i 0 = z at hall
            repeat (first | apply Wp.seq | apply Wp.block | (apply Run.next; (simp only [push_cast, seval, hz] <;> (try simp (disch := omega) only [wI, wU, wC]) <;> exact rfl); (focus ((try simp only [push_cast, seval, hz]) <;> exact sT))) | ((first | apply Run.nil | apply Wp.skip); dsimp only [sQ, tQ, bQ]) | (apply Wp.run; (dsimp only [List.map] <;> exact rfl); exact rfl) | (apply Wp.exit; dsimp only [sQ, tQ, bQ]; simp only [reduceIte]))
            (apply Run.pureP; (simp only [push_cast, seval, hz] <;> (try simp (disch := omega) only [wI, wU, wC]) <;> exact rfl); (exact (Enters.of Try.func56 rfl rfl)); (exact rwithin_pure _ _ _); (focus (simp only [push_cast, seval, hz] <;> first | trivial | assumption | (refine ⟨?_, ?_⟩ <;> assumption) | (simp; done))); (try dsimp only [putA, optG]))
            repeat (first | apply Wp.seq | apply Wp.block | (apply Run.next; (simp only [push_cast, seval, hz] <;> (try simp (disch := omega) only [wI, wU, wC]) <;> exact rfl); (focus ((try simp only [push_cast, seval, hz]) <;> exact sT))) | ((first | apply Run.nil | apply Wp.skip); dsimp only [sQ, tQ, bQ]) | (apply Wp.run; (dsimp only [List.map] <;> exact rfl); exact rfl) | (apply Wp.exit; dsimp only [sQ, tQ, bQ]; simp only [reduceIte]))
            (apply Wp.cond; (simp only [push_cast, seval, hz] <;> (try simp (disch := omega) only [wI, wU, wC]) <;> exact rfl))
            · intro h4
              simp only [Bool.not_eq_true'] at h4
              have h5 : inV vals = false := hall _ h4
              rw [if_neg (fun h => by rw [h5] at h; cases h.2)] at hgE
              rw [hgE, if_neg (by decide), if_neg (by decide)]
              repeat (first | apply Wp.seq | apply Wp.block | (apply Run.next; (simp only [push_cast, seval, hz] <;> (try simp (disch := omega) only [wI, wU, wC]) <;> exact rfl); (focus ((try simp only [push_cast, seval, hz]) <;> exact sT))) | ((first | apply Run.nil | apply Wp.skip); dsimp only [sQ, tQ, bQ]) | (apply Wp.run; (dsimp only [List.map] <;> exact rfl); exact rfl) | (apply Wp.exit; dsimp only [sQ, tQ, bQ]; simp only [reduceIte]))
              (apply Wp.ret; (try dsimp only [sQ, tQ, bQ]); apply leave0; exact rfl; (simp only [push_cast, seval, hz] <;> (try simp (disch := omega) only [wI, wU, wC]) <;> exact rfl); all_goals (try simp only [push_cast, seval, hz]); (try rfl))
            · intro h4
              simp only [Bool.not_eq_false'] at h4
              repeat (first | apply Wp.seq | apply Wp.block | (apply Run.next; (simp only [push_cast, seval, hz] <;> (try simp (disch := omega) only [wI, wU, wC]) <;> exact rfl); (focus ((try simp only [push_cast, seval, hz]) <;> exact sT))) | ((first | apply Run.nil | apply Wp.skip); dsimp only [sQ, tQ, bQ]) | (apply Wp.run; (dsimp only [List.map] <;> exact rfl); exact rfl) | (apply Wp.exit; dsimp only [sQ, tQ, bQ]; simp only [reduceIte]))
              refine ⟨i + 1, ?_, ⟨by omega, fun j hj => ?_⟩, by omega⟩
              · (refine Le.of ?_ ?_ rfl rfl <;> (try simp only [push_cast, seval, hz]) <;> (try (with_reducible rfl)))
              · by_cases hji : j = i
                · subst hji; rw [hz]; exact h4
                · exact hi2 j (by omega)
          · intro hc1
            simp only [decide_eq_false_iff_not, Int.ofNat_lt] at hc1
            obtain rfl : i = vals.length := by omega
            have h4 : inV vals = true := all_atK hi2
            rw [if_pos ⟨h3, h4⟩] at hgE
            rw [hgE, if_pos rfl, if_pos rfl]
            have hvb : ∀ i, i < vals.length → 0 ≤ vals.getD i 0 ∧ vals.getD i 0 ≤ 100000 := fun i hi => by
              have := hi2 i hi
              rw [wi_iff] at this; exact this
            obtain ⟨T, hT, hT2⟩ := TT_bd ls.length h2
            rw [hT, Int.toNat_natCast]
            have hTT : IntKind.i64.wrap (1 * 2 ^ (min ls.length IntKind.i64.bits)) = (T : Int) := hT
            have hwu : ∀ j : Nat, j ≤ 100 → IntKind.u64.wrap (j : Int) = (j : Int) := fun j hj => by simp [IntKind.wrap, IntKind.bits, IntKind.signed]; omega
            have hwl := hwu ls.length (by omega)
            have hbd := fun k => chS_bd (cs := cs) (ms := ms) (cake := cake) (ls := ls) h3 hvb k
            have hcS : ∀ k, chS cs ms cake ls vals (k + 1) = if (betB (wtF vals (sP k) ls.length) (chS cs ms cake ls vals k).2 (cL (ixL (sP k) ls.length)) (chS cs ms cake ls vals k).1 && whL (sP k) ls && decide (edE cs ms cake (someL (sP k) ls) = 0)) = true then (cL (ixL (sP k) ls.length), wtF vals (sP k) ls.length) else chS cs ms cake ls vals k := fun _ => rfl
            have hc0 : chS cs ms cake ls vals 0 = ([], 0) := rfl
            generalize chS cs ms cake ls vals = cS at hbd hcS hc0
            repeat (first | apply Wp.seq | apply Wp.block | (apply Run.next; (simp only [push_cast, seval] <;> (try simp (disch := omega) only [wI, wU, wC]) <;> exact rfl); (focus ((try simp only [push_cast, seval]) <;> exact sT))) | ((first | apply Run.nil | apply Wp.skip); dsimp only [sQ, tQ, bQ]) | (apply Wp.run; (dsimp only [List.map] <;> exact rfl); exact rfl) | (apply Wp.exit; dsimp only [sQ, tQ, bQ]; simp only [reduceIte]))
            refine Wp.nilL 11 1 (by (simp only [push_cast, seval] <;> (try simp (disch := omega) only [wI, wU, wC]) <;> exact rfl)) ?_
            refine Wp.loop (fun (q : Nat × Mem) => { t := [(1, .lst 6 (ls.map bkA)), (2, .ints vals), (3, .optr 0 0 0 0), (11, .ints (cS q.1).1), (12, .int (cS q.1).2), (13, .int q.1)], m := ⟨0, .row 3 [houA cs ms cake]⟩ :: q.2, n := 106 }) (fun q => q.1 ≤ T) (fun q => T - q.1) (0, []) ?_ ?_ ?_
            · simp only
              rw [hc0]
              (refine Le.of ?_ ?_ rfl rfl <;> (try simp only [push_cast, seval]) <;> (try (with_reducible rfl)))
              all_goals rfl
            · simp
            · rintro ⟨k, J⟩ hk1
              simp only at hk1
              have hbk := hbd k
              have hck1 := hcS k
              generalize hch : (cS k).1 = ch at hbk hck1
              generalize hsm : (cS k).2 = sm at hbk hck1
              have hcSk : cS k = (ch, sm) := by rw [← hch, ← hsm]
              repeat (first | apply Wp.seq | apply Wp.block | (apply Run.next; (simp only [push_cast, seval, hwl, hTT] <;> (try simp (disch := omega) only [wI, wU, wC]) <;> exact rfl); (focus ((try simp only [push_cast, seval, hwl, hTT]) <;> exact sT))) | ((first | apply Run.nil | apply Wp.skip); dsimp only [sQ, tQ, bQ]) | (apply Wp.run; (dsimp only [List.map] <;> exact rfl); exact rfl) | (apply Wp.exit; dsimp only [sQ, tQ, bQ]; simp only [reduceIte]))
              (apply Wp.cond; (simp only [push_cast, seval, hwl, hTT] <;> (try simp (disch := omega) only [wI, wU, wC]) <;> exact rfl))
              · intro hc1
                simp only [decide_eq_true_eq, Int.ofNat_lt] at hc1
                have hcat : ∀ (J : Mem) (e : Ent), (J ++ [e])[J.length]? = some e := fun J e => by simp
                have hset : ∀ (J : Mem) (e e' : Ent), (J ++ [e]).set J.length e' = J ++ [e'] := fun J e e' => by simp
                have hwb := fun i hi => wtF_bd hvb (sP k) i hi
                have hws : ∀ i, wtF vals (sP k) (i + 1) = if sP k i = true then wtF vals (sP k) i + vals.getD i 0 else wtF vals (sP k) i := fun _ => rfl
                have hw0 : wtF vals (sP k) 0 = 0 := rfl
                have hsc := fun i => ixL_succ (sP k) i
                have hct : ∀ i, ctN (sP k) (i + 1) = if sP k i = true then ctN (sP k) i + 1 else ctN (sP k) i := fun _ => rfl
                have hcb : ∀ i, ctN (sP k) i ≤ i := fun i => by
                  have := ct_bd (sP k) i; rw [ct_ctN] at this; omega
                have hcl : ∀ i, (cL (ixL (sP k) i)).length = ctN (sP k) i := fun i => by rw [cL_len, ixL_len]
                have hcs : ∀ i, sP k i = true → cL (ixL (sP k) (i + 1)) = cL (ixL (sP k) i) ++ [(i : Int)] := fun i h => by rw [hsc, if_pos h]; simp [cL]
                have hcn : ∀ i, sP k i = false → cL (ixL (sP k) (i + 1)) = cL (ixL (sP k) i) := fun i h => by rw [hsc, if_neg (by rw [h]; simp), List.append_nil]
                have hpk : ∀ i, sP k i = tgB k (i : Int) := fun _ => rfl
                have hsome := Some_pure (ls := ls) (sP k) (by omega) hpw.lv.rv
                have hpw2 := PW.of_ck (ck_some (sP k) h1)
                have hend := end_pure hpw2
                have hsv : whL (sP k) ls = true → smA (sP k) ls = .lst 6 ((someL (sP k) ls).map bkA) := fun h => by unfold smA; rw [if_pos h]
                have hsv2 : whL (sP k) ls = false → smA (sP k) ls = .emp := fun h => by unfold smA; rw [if_neg (by rw [h]; simp)]
                generalize someL (sP k) ls = sl at hend hsv hck1
                generalize smA (sP k) ls = sa at hsome hsv hsv2
                generalize edE cs ms cake sl = ed at hend hck1
                generalize whL (sP k) ls = wh at hsome hck1 hsv hsv2
                have hbf := before_pure (cL (ixL (sP k) ls.length)) ch (by rw [hcl]; have := hcb ls.length; omega) (by omega)
                generalize wtF vals (sP k) = wF at hwb hws hw0 hck1
                unfold tgB at hpk
                repeat (first | apply Wp.seq | apply Wp.block | (apply Run.next; (simp only [push_cast, seval, hwl, hTT, hcat, hset] <;> (try simp (disch := omega) only [wI, wU, wC]) <;> exact rfl); (focus ((try simp only [push_cast, seval, hwl, hTT, hcat, hset]) <;> exact sT))) | ((first | apply Run.nil | apply Wp.skip); dsimp only [sQ, tQ, bQ]) | (apply Wp.run; (dsimp only [List.map] <;> exact rfl); exact rfl) | (apply Wp.exit; dsimp only [sQ, tQ, bQ]; simp only [reduceIte]))
                refine Wp.adopt 14 1 (by (simp only [push_cast, seval, hwl, hTT, hcat, hset] <;> (try simp (disch := omega) only [wI, wU, wC]) <;> exact rfl)) ?_
                refine Wp.loop (fun (i : Nat) => { t := [(1, .lst 6 (ls.map bkA)), (2, .ints vals), (3, .optr 0 0 0 0), (11, .ints ch), (12, .int sm), (13, .int k), (14, .osl (J.length + 1) (ctN (sP k) i) 0 (ctN (sP k) i)), (15, .int (wF i)), (16, .int i)], m := ⟨0, .row 3 [houA cs ms cake]⟩ :: (J ++ [⟨ctN (sP k) i, .row 1 ((cL (ixL (sP k) i)).map AV.int)⟩]), n := 106 }) (fun i => i ≤ ls.length) (fun i => ls.length - i) 0 ?_ ?_ ?_
                · rw [hw0]
                  (refine Le.of ?_ ?_ rfl rfl <;> (try simp only [push_cast, seval, hwl, hTT, hcat, hset]) <;> (try (with_reducible rfl)))
                  all_goals (first | rfl | simp)
                · simp
                · intro i hi
                  have hwi := hwb i (by omega)
                  have hwsi := hws i
                  have hcti := hct i
                  have hcbi := hcb i
                  have hcli := hcl i
                  have hcsi := hcs i
                  have hcni := hcn i
                  have hpi := hpk i
                  have hwui := hwu i (by omega)
                  by_cases hin : i < ls.length
                  · have hcin : decide ((i : Int) < (ls.length : Int)) = true := decide_eq_true (by omega)
                    generalize hC : cL (ixL (sP k) i) = C at hcli hcsi hcni
                    generalize ctN (sP k) i = c0 at hcti hcbi hcli
                    generalize wF i = w at hwi hwsi
                    have hgv : vals.getD i 0 ≤ 100000 ∧ 0 ≤ vals.getD i 0 := (hvb i (by omega)).symm
                    generalize hgu : vals.getD i 0 = gu at hwsi hgv
                    have htk : C.take c0 = C := List.take_of_length_le (by omega)
                    repeat (first | apply Wp.seq | apply Wp.block | (apply Run.next; (simp only [push_cast, seval, hwl, hTT, hcat, hset, hwui, htk, hcli, hcin, hgu, h3] <;> (try simp (disch := omega) only [wI, wU, wC]) <;> exact rfl); (focus ((try simp only [push_cast, seval, hwl, hTT, hcat, hset, hwui, htk, hcli, hcin, hgu, h3]) <;> exact sT))) | ((first | apply Run.nil | apply Wp.skip); dsimp only [sQ, tQ, bQ]) | (apply Wp.run; (dsimp only [List.map] <;> exact rfl); exact rfl) | (apply Wp.exit; dsimp only [sQ, tQ, bQ]; simp only [reduceIte]) | (apply Run.gtrue; (simp only [push_cast, seval, hwl, hTT, hcat, hset, hwui, htk, hcli, hcin, hgu, h3] <;> (try simp (disch := omega) only [wI, wU, wC]) <;> exact rfl); (simp only [push_cast, seval, hwl, hTT, hcat, hset, hwui, htk, hcli, hcin, hgu, h3] <;> (try simp (disch := omega) only [wI, wU, wC]) <;> exact rfl)) | (apply Run.gfalse (.bool false); (simp only [push_cast, seval, hwl, hTT, hcat, hset, hwui, htk, hcli, hcin, hgu, h3] <;> (try simp (disch := omega) only [wI, wU, wC]) <;> exact rfl); dsimp only [S.put, optG]) | (apply Wp.condT; (simp only [push_cast, seval, hwl, hTT, hcat, hset, hwui, htk, hcli, hcin, hgu, h3] <;> (try simp (disch := omega) only [wI, wU, wC]) <;> exact rfl)) | (apply Wp.condF; (simp only [push_cast, seval, hwl, hTT, hcat, hset, hwui, htk, hcli, hcin, hgu, h3] <;> (try simp (disch := omega) only [wI, wU, wC]) <;> exact rfl)))
                    (apply Wp.cond; (simp only [push_cast, seval, hwl, hTT, hcat, hset, hwui, htk, hcli, hcin, hgu, h3] <;> (try simp (disch := omega) only [wI, wU, wC]) <;> exact rfl))
                    · intro h5
                      have h6 : sP k i = true := by rw [hpi]; exact h5
                      rw [if_pos h6] at hcti hwsi
                      repeat (first | apply Wp.seq | apply Wp.block | (apply Run.next; (simp only [push_cast, seval, hwl, hTT, hcat, hset, hwui, htk, hcli, hcin, hgu, h3] <;> (try simp (disch := omega) only [wI, wU, wC]) <;> exact rfl); (focus ((try simp only [push_cast, seval, hwl, hTT, hcat, hset, hwui, htk, hcli, hcin, hgu, h3]) <;> exact sT))) | ((first | apply Run.nil | apply Wp.skip); dsimp only [sQ, tQ, bQ]) | (apply Wp.run; (dsimp only [List.map] <;> exact rfl); exact rfl) | (apply Wp.exit; dsimp only [sQ, tQ, bQ]; simp only [reduceIte]))
                      refine ⟨i + 1, ?_, by omega, by omega⟩
                      rw [hcti, hwsi, hcsi h6]
                      (refine Le.of ?_ ?_ rfl rfl <;> (try simp only [push_cast, seval, hwl, hTT, hcat, hset, hwui, htk, hcli, hcin, hgu, h3]) <;> (try (with_reducible rfl)))
                    · intro h5
                      have h6 : sP k i = false := by rw [hpi]; exact h5
                      rw [if_neg (by rw [h6]; simp)] at hcti hwsi
                      repeat (first | apply Wp.seq | apply Wp.block | (apply Run.next; (simp only [push_cast, seval, hwl, hTT, hcat, hset, hwui, htk, hcli, hcin, hgu, h3] <;> (try simp (disch := omega) only [wI, wU, wC]) <;> exact rfl); (focus ((try simp only [push_cast, seval, hwl, hTT, hcat, hset, hwui, htk, hcli, hcin, hgu, h3]) <;> exact sT))) | ((first | apply Run.nil | apply Wp.skip); dsimp only [sQ, tQ, bQ]) | (apply Wp.run; (dsimp only [List.map] <;> exact rfl); exact rfl) | (apply Wp.exit; dsimp only [sQ, tQ, bQ]; simp only [reduceIte]))
                      refine ⟨i + 1, ?_, by omega, by omega⟩
                      rw [hcti, hwsi, hcni h6]
                      (refine Le.of ?_ ?_ rfl rfl <;> (try simp only [push_cast, seval, hwl, hTT, hcat, hset, hwui, htk, hcli, hcin, hgu, h3]) <;> (try (with_reducible rfl)))
                  · obtain rfl : i = ls.length := by omega
                    have hcin : decide ((ls.length : Int) < (ls.length : Int)) = false := decide_eq_false (by omega)
                    generalize hC : cL (ixL (sP k) ls.length) = C at hcli hbf hck1 hsome
                    generalize ctN (sP k) ls.length = c0 at hcli
                    generalize wF ls.length = w at hwi hck1
                    have htk : C.take c0 = C := List.take_of_length_le (by omega)
                    have hbet : (decide (w < sm) || (decide (w = sm) && !befB C ch)) = !betB w sm C ch := by
                      unfold betB
                      rcases Int.lt_trichotomy w sm with h | h | h
                      · rw [decide_eq_true h, decide_eq_false (by omega), decide_eq_false (by omega)]; rfl
                      · rw [decide_eq_false (by omega), decide_eq_true h, decide_eq_false (by omega)]; simp
                      · rw [decide_eq_false (by omega), decide_eq_false (by omega), decide_eq_true h]; rfl
                    generalize betB w sm C ch = bt at hbet hck1
                    repeat (first | apply Wp.seq | apply Wp.block | (apply Run.next; (simp only [push_cast, seval, hwl, hTT, hcat, hset, hcli, hcin] <;> (try simp (disch := omega) only [wI, wU, wC]) <;> exact rfl); (focus ((try simp only [push_cast, seval, hwl, hTT, hcat, hset, hcli, hcin]) <;> exact sT))) | ((first | apply Run.nil | apply Wp.skip); dsimp only [sQ, tQ, bQ]) | (apply Wp.run; (dsimp only [List.map] <;> exact rfl); exact rfl) | (apply Wp.exit; dsimp only [sQ, tQ, bQ]; simp only [reduceIte]))
                    (apply Wp.condF; (simp only [push_cast, seval, hwl, hTT, hcat, hset, hcli, hcin] <;> (try simp (disch := omega) only [wI, wU, wC]) <;> exact rfl))
                    (apply Wp.exit; dsimp only [sQ, tQ, bQ]; simp only [reduceIte])
                    (repeat (first | apply Wp.seq | apply Wp.block | (apply Run.nil; dsimp only [sQ, tQ, bQ]) | (apply Wp.skip; dsimp only [sQ, tQ, bQ]) | (apply Wp.exit; dsimp only [sQ, tQ, bQ]; simp only [reduceIte])))
                    (apply Wp.freeze 14; (simp only [push_cast, seval, hwl, hTT, hcat, hset, hcli, hcin] <;> (try simp (disch := omega) only [wI, wU, wC]) <;> exact rfl); (simp only [push_cast, seval, hwl, hTT, hcat, hset, hcli, hcin] <;> (try simp (disch := omega) only [wI, wU, wC]) <;> exact rfl); (focus (try simp only [push_cast, seval, hwl, hTT, hcat, hset, hcli, hcin]); (try (exact sT))); (focus (exact sT)))
                    repeat (first | apply Wp.seq | apply Wp.block | (apply Run.next; (simp only [push_cast, seval, hwl, hTT, hcat, hset, hcli, hcin, htk] <;> (try simp (disch := omega) only [wI, wU, wC]) <;> exact rfl); (focus ((try simp only [push_cast, seval, hwl, hTT, hcat, hset, hcli, hcin, htk]) <;> exact sT))) | ((first | apply Run.nil | apply Wp.skip); dsimp only [sQ, tQ, bQ]) | (apply Wp.run; (dsimp only [List.map] <;> exact rfl); exact rfl) | (apply Wp.exit; dsimp only [sQ, tQ, bQ]; simp only [reduceIte]))
                    (apply Run.pureP; (simp only [push_cast, seval, hwl, hTT, hcat, hset, hcli, hcin, htk] <;> (try simp (disch := omega) only [wI, wU, wC]) <;> exact rfl); (exact (Enters.of Try.func81 rfl rfl)); (exact hbf); (focus (simp only [push_cast, seval, hwl, hTT, hcat, hset, hcli, hcin, htk] <;> first | trivial | assumption | (refine ⟨?_, ?_⟩ <;> assumption) | (simp; done))); (try dsimp only [putA, optG]))
                    repeat (first | apply Wp.seq | apply Wp.block | (apply Run.next; (simp only [push_cast, seval, hwl, hTT, hcat, hset, hcli, hcin, htk] <;> (try simp (disch := omega) only [wI, wU, wC]) <;> exact rfl); (focus ((try simp only [push_cast, seval, hwl, hTT, hcat, hset, hcli, hcin, htk]) <;> exact sT))) | ((first | apply Run.nil | apply Wp.skip); dsimp only [sQ, tQ, bQ]) | (apply Wp.run; (dsimp only [List.map] <;> exact rfl); exact rfl) | (apply Wp.exit; dsimp only [sQ, tQ, bQ]; simp only [reduceIte]))
                    (apply Wp.cond; (simp only [push_cast, seval, hwl, hTT, hcat, hset, hcli, hcin, htk] <;> (try simp (disch := omega) only [wI, wU, wC]) <;> exact rfl))
                    · intro h5
                      have h6 : bt = false := by
                        rw [← Bool.not_eq_true']; rw [← hbet]; exact h5
                      have hz : cS (k + 1) = (ch, sm) := by
                        rw [hck1, h6, if_neg (by simp), hcSk]
                      repeat (first | apply Wp.seq | apply Wp.block | (apply Run.next; (simp only [push_cast, seval, hwl, hTT, hcat, hset, hcli, hcin, htk] <;> (try simp (disch := omega) only [wI, wU, wC]) <;> exact rfl); (focus ((try simp only [push_cast, seval, hwl, hTT, hcat, hset, hcli, hcin, htk]) <;> exact sT))) | ((first | apply Run.nil | apply Wp.skip); dsimp only [sQ, tQ, bQ]) | (apply Wp.run; (dsimp only [List.map] <;> exact rfl); exact rfl) | (apply Wp.exit; dsimp only [sQ, tQ, bQ]; simp only [reduceIte]))
                      refine ⟨(k + 1, J ++ [⟨c0 + 1, .row 1 []⟩]), ?_, by simp only; omega, by simp only; omega⟩
                      simp only
                      rw [hz]
                      (refine Le.of ?_ ?_ rfl rfl <;> (try simp only [push_cast, seval, hwl, hTT, hcat, hset, hcli, hcin, htk]) <;> (try (with_reducible rfl)))
                    · intro h5
                      have h6 : bt = true := by
                        rw [← Bool.not_eq_false']; rw [← hbet]; exact h5
                      rw [h6] at hck1
                      cases hwh : wh with
                      | true =>
                        have hsa := hsv hwh
                        subst hsa
                        rw [hwh] at hsome hck1
                        repeat (first | apply Wp.seq | apply Wp.block | (apply Run.next; (simp only [push_cast, seval, hwl, hTT, hcat, hset, hcli, hcin, htk] <;> (try simp (disch := omega) only [wI, wU, wC]) <;> exact rfl); (focus ((try simp only [push_cast, seval, hwl, hTT, hcat, hset, hcli, hcin, htk]) <;> exact sT))) | ((first | apply Run.nil | apply Wp.skip); dsimp only [sQ, tQ, bQ]) | (apply Wp.run; (dsimp only [List.map] <;> exact rfl); exact rfl) | (apply Wp.exit; dsimp only [sQ, tQ, bQ]; simp only [reduceIte]))
                        (apply Run.pureFP; (simp only [push_cast, seval, hwl, hTT, hcat, hset, hcli, hcin, htk] <;> (try simp (disch := omega) only [wI, wU, wC]) <;> exact rfl); (exact (Enters.of Try.func82 rfl rfl)); (exact hsome); (focus (simp only [push_cast, seval, hwl, hTT, hcat, hset, hcli, hcin, htk] <;> first | trivial | assumption | (refine ⟨?_, ?_⟩ <;> assumption) | (simp; done))); (try dsimp only [putA, optG]))
                        repeat (first | apply Wp.seq | apply Wp.block | (apply Run.next; (simp only [push_cast, seval, hwl, hTT, hcat, hset, hcli, hcin, htk] <;> (try simp (disch := omega) only [wI, wU, wC]) <;> exact rfl); (focus ((try simp only [push_cast, seval, hwl, hTT, hcat, hset, hcli, hcin, htk]) <;> exact sT))) | ((first | apply Run.nil | apply Wp.skip); dsimp only [sQ, tQ, bQ]) | (apply Wp.run; (dsimp only [List.map] <;> exact rfl); exact rfl) | (apply Wp.exit; dsimp only [sQ, tQ, bQ]; simp only [reduceIte]))
                        (apply Run.pureP; (simp only [push_cast, seval, hwl, hTT, hcat, hset, hcli, hcin, htk] <;> (try simp (disch := omega) only [wI, wU, wC]) <;> exact rfl); (exact (Enters.of Try.func54 rfl rfl)); (exact hend); (focus (simp only [push_cast, seval, hwl, hTT, hcat, hset, hcli, hcin, htk] <;> first | trivial | assumption | (refine ⟨?_, ?_⟩ <;> assumption) | (simp; done))); (try dsimp only [putA, optG]))
                        repeat (first | apply Wp.seq | apply Wp.block | (apply Run.next; (simp only [push_cast, seval, hwl, hTT, hcat, hset, hcli, hcin, htk] <;> (try simp (disch := omega) only [wI, wU, wC]) <;> exact rfl); (focus ((try simp only [push_cast, seval, hwl, hTT, hcat, hset, hcli, hcin, htk]) <;> exact sT))) | ((first | apply Run.nil | apply Wp.skip); dsimp only [sQ, tQ, bQ]) | (apply Wp.run; (dsimp only [List.map] <;> exact rfl); exact rfl) | (apply Wp.exit; dsimp only [sQ, tQ, bQ]; simp only [reduceIte]))
                        (apply Wp.cond; (simp only [push_cast, seval, hwl, hTT, hcat, hset, hcli, hcin, htk] <;> (try simp (disch := omega) only [wI, wU, wC]) <;> exact rfl))
                        · intro h7
                          have hz : cS (k + 1) = (C, w) := by
                            rw [hck1, if_pos (by simpa using h7)]
                          repeat (first | apply Wp.seq | apply Wp.block | (apply Run.next; (simp only [push_cast, seval, hwl, hTT, hcat, hset, hcli, hcin, htk] <;> (try simp (disch := omega) only [wI, wU, wC]) <;> exact rfl); (focus ((try simp only [push_cast, seval, hwl, hTT, hcat, hset, hcli, hcin, htk]) <;> exact sT))) | ((first | apply Run.nil | apply Wp.skip); dsimp only [sQ, tQ, bQ]) | (apply Wp.run; (dsimp only [List.map] <;> exact rfl); exact rfl) | (apply Wp.exit; dsimp only [sQ, tQ, bQ]; simp only [reduceIte]))
                          refine ⟨(k + 1, J ++ [⟨c0 + 1, .row 1 []⟩]), ?_, by simp only; omega, by simp only; omega⟩
                          simp only
                          rw [hz]
                          (refine Le.of ?_ ?_ rfl rfl <;> (try simp only [push_cast, seval, hwl, hTT, hcat, hset, hcli, hcin, htk]) <;> (try (with_reducible rfl)))
                        · intro h7
                          have hz : cS (k + 1) = (ch, sm) := by
                            rw [hck1, if_neg (by simpa using h7), hcSk]
                          repeat (first | apply Wp.seq | apply Wp.block | (apply Run.next; (simp only [push_cast, seval, hwl, hTT, hcat, hset, hcli, hcin, htk] <;> (try simp (disch := omega) only [wI, wU, wC]) <;> exact rfl); (focus ((try simp only [push_cast, seval, hwl, hTT, hcat, hset, hcli, hcin, htk]) <;> exact sT))) | ((first | apply Run.nil | apply Wp.skip); dsimp only [sQ, tQ, bQ]) | (apply Wp.run; (dsimp only [List.map] <;> exact rfl); exact rfl) | (apply Wp.exit; dsimp only [sQ, tQ, bQ]; simp only [reduceIte]))
                          refine ⟨(k + 1, J ++ [⟨c0 + 1, .row 1 []⟩]), ?_, by simp only; omega, by simp only; omega⟩
                          simp only
                          rw [hz]
                          (refine Le.of ?_ ?_ rfl rfl <;> (try simp only [push_cast, seval, hwl, hTT, hcat, hset, hcli, hcin, htk]) <;> (try (with_reducible rfl)))
                      | false =>
                        have hsa := hsv2 hwh
                        subst hsa
                        rw [hwh] at hsome hck1
                        have hz : cS (k + 1) = (ch, sm) := by
                          rw [hck1, if_neg (by simp), hcSk]
                        repeat (first | apply Wp.seq | apply Wp.block | (apply Run.next; (simp only [push_cast, seval, hwl, hTT, hcat, hset, hcli, hcin, htk] <;> (try simp (disch := omega) only [wI, wU, wC]) <;> exact rfl); (focus ((try simp only [push_cast, seval, hwl, hTT, hcat, hset, hcli, hcin, htk]) <;> exact sT))) | ((first | apply Run.nil | apply Wp.skip); dsimp only [sQ, tQ, bQ]) | (apply Wp.run; (dsimp only [List.map] <;> exact rfl); exact rfl) | (apply Wp.exit; dsimp only [sQ, tQ, bQ]; simp only [reduceIte]) | (apply Run.gtrue; (simp only [push_cast, seval, hwl, hTT, hcat, hset, hcli, hcin, htk] <;> (try simp (disch := omega) only [wI, wU, wC]) <;> exact rfl); (simp only [push_cast, seval, hwl, hTT, hcat, hset, hcli, hcin, htk] <;> (try simp (disch := omega) only [wI, wU, wC]) <;> exact rfl)) | (apply Run.gfalse (.bool false); (simp only [push_cast, seval, hwl, hTT, hcat, hset, hcli, hcin, htk] <;> (try simp (disch := omega) only [wI, wU, wC]) <;> exact rfl); dsimp only [S.put, optG]) | (apply Wp.condT; (simp only [push_cast, seval, hwl, hTT, hcat, hset, hcli, hcin, htk] <;> (try simp (disch := omega) only [wI, wU, wC]) <;> exact rfl)) | (apply Wp.condF; (simp only [push_cast, seval, hwl, hTT, hcat, hset, hcli, hcin, htk] <;> (try simp (disch := omega) only [wI, wU, wC]) <;> exact rfl)))
                        (apply Run.pureFP; (simp only [push_cast, seval, hwl, hTT, hcat, hset, hcli, hcin, htk] <;> (try simp (disch := omega) only [wI, wU, wC]) <;> exact rfl); (exact (Enters.of Try.func82 rfl rfl)); (exact hsome); (focus (simp only [push_cast, seval, hwl, hTT, hcat, hset, hcli, hcin, htk] <;> first | trivial | assumption | (refine ⟨?_, ?_⟩ <;> assumption) | (simp; done))); (try dsimp only [putA, optG]))
                        repeat (first | apply Wp.seq | apply Wp.block | (apply Run.next; (simp only [push_cast, seval, hwl, hTT, hcat, hset, hcli, hcin, htk] <;> (try simp (disch := omega) only [wI, wU, wC]) <;> exact rfl); (focus ((try simp only [push_cast, seval, hwl, hTT, hcat, hset, hcli, hcin, htk]) <;> exact sT))) | ((first | apply Run.nil | apply Wp.skip); dsimp only [sQ, tQ, bQ]) | (apply Wp.run; (dsimp only [List.map] <;> exact rfl); exact rfl) | (apply Wp.exit; dsimp only [sQ, tQ, bQ]; simp only [reduceIte]) | (apply Run.gtrue; (simp only [push_cast, seval, hwl, hTT, hcat, hset, hcli, hcin, htk] <;> (try simp (disch := omega) only [wI, wU, wC]) <;> exact rfl); (simp only [push_cast, seval, hwl, hTT, hcat, hset, hcli, hcin, htk] <;> (try simp (disch := omega) only [wI, wU, wC]) <;> exact rfl)) | (apply Run.gfalse (.bool false); (simp only [push_cast, seval, hwl, hTT, hcat, hset, hcli, hcin, htk] <;> (try simp (disch := omega) only [wI, wU, wC]) <;> exact rfl); dsimp only [S.put, optG]) | (apply Wp.condT; (simp only [push_cast, seval, hwl, hTT, hcat, hset, hcli, hcin, htk] <;> (try simp (disch := omega) only [wI, wU, wC]) <;> exact rfl)) | (apply Wp.condF; (simp only [push_cast, seval, hwl, hTT, hcat, hset, hcli, hcin, htk] <;> (try simp (disch := omega) only [wI, wU, wC]) <;> exact rfl)))
                        refine ⟨(k + 1, J ++ [⟨c0 + 1, .row 1 []⟩]), ?_, by simp only; omega, by simp only; omega⟩
                        simp only
                        rw [hz]
                        (refine Le.of ?_ ?_ rfl rfl <;> (try simp only [push_cast, seval, hwl, hTT, hcat, hset, hcli, hcin, htk]) <;> (try (with_reducible rfl)))
              · intro hc1
                simp only [decide_eq_false_iff_not, Int.ofNat_lt] at hc1
                obtain rfl : k = T := by omega
                repeat (first | apply Wp.seq | apply Wp.block | (apply Run.next; (simp only [push_cast, seval, hwl, hTT] <;> (try simp (disch := omega) only [wI, wU, wC]) <;> exact rfl); (focus ((try simp only [push_cast, seval, hwl, hTT]) <;> exact sT))) | ((first | apply Run.nil | apply Wp.skip); dsimp only [sQ, tQ, bQ]) | (apply Wp.run; (dsimp only [List.map] <;> exact rfl); exact rfl) | (apply Wp.exit; dsimp only [sQ, tQ, bQ]; simp only [reduceIte]) | (apply Run.gtrue; (simp only [push_cast, seval, hwl, hTT] <;> (try simp (disch := omega) only [wI, wU, wC]) <;> exact rfl); (simp only [push_cast, seval, hwl, hTT] <;> (try simp (disch := omega) only [wI, wU, wC]) <;> exact rfl)) | (apply Run.gfalse (.bool false); (simp only [push_cast, seval, hwl, hTT] <;> (try simp (disch := omega) only [wI, wU, wC]) <;> exact rfl); dsimp only [S.put, optG]) | (apply Wp.condT; (simp only [push_cast, seval, hwl, hTT] <;> (try simp (disch := omega) only [wI, wU, wC]) <;> exact rfl)) | (apply Wp.condF; (simp only [push_cast, seval, hwl, hTT] <;> (try simp (disch := omega) only [wI, wU, wC]) <;> exact rfl)))
                (apply Wp.ret; (try dsimp only [sQ, tQ, bQ]); apply leave0; exact rfl; (simp only [push_cast, seval, hwl, hTT] <;> (try simp (disch := omega) only [wI, wU, wC]) <;> exact rfl); all_goals (try simp only [push_cast, seval, hwl, hTT]); (try rfl))
                rw [hch, hsm]
      · have hle : decide ((vals.length : Int) = (ls.length : Int)) = false := decide_eq_false (by omega)
        rw [if_neg (fun h => h3 h.1)] at hgE
        rw [hgE, if_neg (by decide), if_neg (by decide)]
        (refine Spec.of_body Try.func47 rfl (by rw [Try.ntmps47]; simp) 0 (by simp) ?_; rw [Try.results47, Try.ntmps47]; simp only [entry, zipArgs, Nat.reduceAdd])
        repeat (first | apply Wp.seq | apply Wp.block | (apply Run.next; (simp only [push_cast, seval, hgt, hle] <;> (try simp (disch := omega) only [wI, wU, wC]) <;> exact rfl); (focus ((try simp only [push_cast, seval, hgt, hle]) <;> exact sT))) | ((first | apply Run.nil | apply Wp.skip); dsimp only [sQ, tQ, bQ]) | (apply Wp.run; (dsimp only [List.map] <;> exact rfl); exact rfl) | (apply Wp.exit; dsimp only [sQ, tQ, bQ]; simp only [reduceIte]))
        (apply Run.pureP; (simp only [push_cast, seval, hgt, hle] <;> (try simp (disch := omega) only [wI, wU, wC]) <;> exact rfl); (exact (Enters.of Try.func26 rfl rfl)); (exact hck); (focus (simp only [push_cast, seval, hgt, hle] <;> first | trivial | assumption | (refine ⟨?_, ?_⟩ <;> assumption) | (simp; done))); (try dsimp only [putA, optG]))
        repeat (first | apply Wp.seq | apply Wp.block | (apply Run.next; (simp only [push_cast, seval, hgt, hle] <;> (try simp (disch := omega) only [wI, wU, wC]) <;> exact rfl); (focus ((try simp only [push_cast, seval, hgt, hle]) <;> exact sT))) | ((first | apply Run.nil | apply Wp.skip); dsimp only [sQ, tQ, bQ]) | (apply Wp.run; (dsimp only [List.map] <;> exact rfl); exact rfl) | (apply Wp.exit; dsimp only [sQ, tQ, bQ]; simp only [reduceIte]) | (apply Run.gtrue; (simp only [push_cast, seval, hgt, hle] <;> (try simp (disch := omega) only [wI, wU, wC]) <;> exact rfl); (simp only [push_cast, seval, hgt, hle] <;> (try simp (disch := omega) only [wI, wU, wC]) <;> exact rfl)) | (apply Run.gfalse (.bool false); (simp only [push_cast, seval, hgt, hle] <;> (try simp (disch := omega) only [wI, wU, wC]) <;> exact rfl); dsimp only [S.put, optG]) | (apply Wp.condT; (simp only [push_cast, seval, hgt, hle] <;> (try simp (disch := omega) only [wI, wU, wC]) <;> exact rfl)) | (apply Wp.condF; (simp only [push_cast, seval, hgt, hle] <;> (try simp (disch := omega) only [wI, wU, wC]) <;> exact rfl)))
        (apply Wp.ret; (try dsimp only [sQ, tQ, bQ]); apply leave0; exact rfl; (simp only [push_cast, seval, hgt, hle] <;> (try simp (disch := omega) only [wI, wU, wC]) <;> exact rfl); all_goals (try simp only [push_cast, seval, hgt, hle]); (try rfl))
    · rw [if_neg h2] at hgE
      rw [hgE, if_neg (by decide), if_neg (by decide)]
      have hgt : decide ((12 : Int) < (ls.length : Int)) = true := decide_eq_true (by omega)
      (refine Spec.of_body Try.func47 rfl (by rw [Try.ntmps47]; simp) 0 (by simp) ?_; rw [Try.results47, Try.ntmps47]; simp only [entry, zipArgs, Nat.reduceAdd])
      repeat (first | apply Wp.seq | apply Wp.block | (apply Run.next; (simp only [push_cast, seval, hgt] <;> (try simp (disch := omega) only [wI, wU, wC]) <;> exact rfl); (focus ((try simp only [push_cast, seval, hgt]) <;> exact sT))) | ((first | apply Run.nil | apply Wp.skip); dsimp only [sQ, tQ, bQ]) | (apply Wp.run; (dsimp only [List.map] <;> exact rfl); exact rfl) | (apply Wp.exit; dsimp only [sQ, tQ, bQ]; simp only [reduceIte]))
      (apply Run.pureP; (simp only [push_cast, seval, hgt] <;> (try simp (disch := omega) only [wI, wU, wC]) <;> exact rfl); (exact (Enters.of Try.func26 rfl rfl)); (exact hck); (focus (simp only [push_cast, seval, hgt] <;> first | trivial | assumption | (refine ⟨?_, ?_⟩ <;> assumption) | (simp; done))); (try dsimp only [putA, optG]))
      repeat (first | apply Wp.seq | apply Wp.block | (apply Run.next; (simp only [push_cast, seval, hgt] <;> (try simp (disch := omega) only [wI, wU, wC]) <;> exact rfl); (focus ((try simp only [push_cast, seval, hgt]) <;> exact sT))) | ((first | apply Run.nil | apply Wp.skip); dsimp only [sQ, tQ, bQ]) | (apply Wp.run; (dsimp only [List.map] <;> exact rfl); exact rfl) | (apply Wp.exit; dsimp only [sQ, tQ, bQ]; simp only [reduceIte]) | (apply Run.gtrue; (simp only [push_cast, seval, hgt] <;> (try simp (disch := omega) only [wI, wU, wC]) <;> exact rfl); (simp only [push_cast, seval, hgt] <;> (try simp (disch := omega) only [wI, wU, wC]) <;> exact rfl)) | (apply Run.gfalse (.bool false); (simp only [push_cast, seval, hgt] <;> (try simp (disch := omega) only [wI, wU, wC]) <;> exact rfl); dsimp only [S.put, optG]) | (apply Wp.condT; (simp only [push_cast, seval, hgt] <;> (try simp (disch := omega) only [wI, wU, wC]) <;> exact rfl)) | (apply Wp.condF; (simp only [push_cast, seval, hgt] <;> (try simp (disch := omega) only [wI, wU, wC]) <;> exact rfl)))
      (apply Wp.ret; (try dsimp only [sQ, tQ, bQ]); apply leave0; exact rfl; (simp only [push_cast, seval, hgt] <;> (try simp (disch := omega) only [wI, wU, wC]) <;> exact rfl); all_goals (try simp only [push_cast, seval, hgt]); (try rfl))
  · have hgE : chG cs ms cake ls vals = ckE cs ms cake ls := by unfold chG; rw [if_neg h1]
    rw [hgE, if_neg h1, if_neg h1]
    have hne : decide (ckE cs ms cake ls = 0) = false := decide_eq_false h1
    (refine Spec.of_body Try.func47 rfl (by rw [Try.ntmps47]; simp) 0 (by simp) ?_; rw [Try.results47, Try.ntmps47]; simp only [entry, zipArgs, Nat.reduceAdd])
    repeat (first | apply Wp.seq | apply Wp.block | (apply Run.next; (simp only [push_cast, seval, hne] <;> (try simp (disch := omega) only [wI, wU, wC]) <;> exact rfl); (focus ((try simp only [push_cast, seval, hne]) <;> exact sT))) | ((first | apply Run.nil | apply Wp.skip); dsimp only [sQ, tQ, bQ]) | (apply Wp.run; (dsimp only [List.map] <;> exact rfl); exact rfl) | (apply Wp.exit; dsimp only [sQ, tQ, bQ]; simp only [reduceIte]))
    (apply Run.pureP; (simp only [push_cast, seval, hne] <;> (try simp (disch := omega) only [wI, wU, wC]) <;> exact rfl); (exact (Enters.of Try.func26 rfl rfl)); (exact hck); (focus (simp only [push_cast, seval, hne] <;> first | trivial | assumption | (refine ⟨?_, ?_⟩ <;> assumption) | (simp; done))); (try dsimp only [putA, optG]))
    repeat (first | apply Wp.seq | apply Wp.block | (apply Run.next; (simp only [push_cast, seval, hne] <;> (try simp (disch := omega) only [wI, wU, wC]) <;> exact rfl); (focus ((try simp only [push_cast, seval, hne]) <;> exact sT))) | ((first | apply Run.nil | apply Wp.skip); dsimp only [sQ, tQ, bQ]) | (apply Wp.run; (dsimp only [List.map] <;> exact rfl); exact rfl) | (apply Wp.exit; dsimp only [sQ, tQ, bQ]; simp only [reduceIte]) | (apply Run.gtrue; (simp only [push_cast, seval, hne] <;> (try simp (disch := omega) only [wI, wU, wC]) <;> exact rfl); (simp only [push_cast, seval, hne] <;> (try simp (disch := omega) only [wI, wU, wC]) <;> exact rfl)) | (apply Run.gfalse (.bool false); (simp only [push_cast, seval, hne] <;> (try simp (disch := omega) only [wI, wU, wC]) <;> exact rfl); dsimp only [S.put, optG]) | (apply Wp.condT; (simp only [push_cast, seval, hne] <;> (try simp (disch := omega) only [wI, wU, wC]) <;> exact rfl)) | (apply Wp.condF; (simp only [push_cast, seval, hne] <;> (try simp (disch := omega) only [wI, wU, wC]) <;> exact rfl)))
    (apply Wp.ret; (try dsimp only [sQ, tQ, bQ]); apply leave0; exact rfl; (simp only [push_cast, seval, hne] <;> (try simp (disch := omega) only [wI, wU, wC]) <;> exact rfl); all_goals (try simp only [push_cast, seval, hne]); (try rfl))
end Go.Proofs.Try
