/- A part of the proof of PuzzlesHangs: contracts of functions, with plain laws that they need. -/
import Derived.Test.YtcpmcebdolcldaaVgP6J
set_option linter.all false
namespace Go.Proofs.Try
open Go.Vg

theorem foldl_min_le (l : List Int) (a : Int) : l.foldl min a ≤ a ∧ ∀ x ∈ l, l.foldl min a ≤ x := by
  induction l generalizing a with
  | nil => simp
  | cons y l ih =>
    have := ih (min a y)
    simp only [List.foldl_cons, List.mem_cons, forall_eq_or_imp]
    exact ⟨by omega, by omega, this.2⟩
theorem foldl_max_ge (l : List Int) (a : Int) : a ≤ l.foldl max a ∧ ∀ x ∈ l, x ≤ l.foldl max a := by
  induction l generalizing a with
  | nil => simp
  | cons y l ih =>
    have := ih (max a y)
    simp only [List.foldl_cons, List.mem_cons, forall_eq_or_imp]
    exact ⟨by omega, by omega, this.2⟩
theorem foldl_same (l : List Int) (a : Int) (h : ∀ x ∈ l, x = a) : l.foldl min a = a ∧ l.foldl max a = a := by
  induction l with
  | nil => simp
  | cons y l ih =>
    have e : y = a := h y (by simp)
    subst e
    simp only [List.foldl_cons, Int.min_self, Int.max_self]
    exact ih fun x hx => h x (by simp [hx])
theorem min_max (l : List Int) : decide (lmin l = lmax l) = allSame l := by
  rw [Bool.eq_iff_iff, decide_eq_true_iff]
  unfold allSame lmin lmax
  simp only [List.all_eq_true, decide_eq_true_eq]
  constructor
  · intro h x hx
    have h1 := foldl_min_le l (l.getD 0 0)
    have h2 := foldl_max_ge l (l.getD 0 0)
    have h3 := h1.2 x hx
    have h4 := h2.2 x hx
    omega
  · intro h
    have := foldl_same l (l.getD 0 0) h
    omega

theorem any_not {l : List Int} {p : Int → Bool} : (l.any fun x => !p x) = !l.all p := by
  simp [List.all_eq_not_any_not]

theorem follow_dn (n : Nat) : ∀ l : List Int, follow (n + 1) l = follow n l + lastI (dn (n + 1) l) := by
  induction n with
  | zero => intro l; simp [follow, dn]
  | succ n ih =>
    intro l
    rw [follow, ih (diffs l), dn_diffs, follow]
    omega
def sumTo : Nat → List Int → Int
  | 0, _ => 0
  | n + 1, l => sumTo n l + lastI (dn n l)
theorem sumTo_follow (n : Nat) (l : List Int) : sumTo (n + 1) l = follow n l := by
  induction n with
  | zero => simp [sumTo, follow, dn]
  | succ n ih => rw [sumTo, ih, follow_dn]
theorem sumTo_bnd {l : List Int} (hb : bnd 10000 l) (n : Nat) (h1 : n ≤ 20) (h2 : n ≤ l.length) : -(10485760000 * n) ≤ sumTo n l ∧ sumTo n l ≤ 10485760000 * n := by
  induction n with
  | zero => simp [sumTo]
  | succ n ih =>
    have h3 := bnd_last (bnd_dn10 hb (n := n) (by omega)) (by rw [dn_len]; omega)
    have := ih (by omega) (by omega)
    simp only [sumTo]
    omega

theorem take_getD (r : List Int) (k j : Nat) (h : j < k) : (r.take k).getD j 0 = r.getD j 0 := by
  simp [List.getElem?_take, h]

theorem getD_set_same (l : List Int) (i : Nat) (x : Int) (h : i < l.length) : (l.set i x).getD i 0 = x := by simp [h]
theorem getD_set_ne (l : List Int) (i j : Nat) (x : Int) (h : j ≠ i) : (l.set i x).getD j 0 = l.getD j 0 := by simp [List.getElem?_set_ne (Ne.symm h)]

theorem next_pure (l : List Int) : Pure Try.prog 31 [.ints l] (.tup [.int (nextV l).1, .int (nextV l).2.1, .int (nextV l).2.2]) := by
  (refine Spec.of_body Try.func31 rfl (by rw [Try.ntmps31]; simp) 0 (by simp) ?_; rw [Try.results31, Try.ntmps31]; simp only [entry, zipArgs, Nat.reduceAdd])
  apply Wp.len 0; (simp only [push_cast, seval] <;> (try simp (disch := omega) only [wI, wU, wC]) <;> exact rfl)
  intro hlen
  simp only [List.length_map] at hlen
  repeat (first | apply Wp.seq | apply Wp.block | (apply Run.next; (simp only [push_cast, seval] <;> (try simp (disch := omega) only [wI, wU, wC]) <;> exact rfl); (focus ((try simp only [push_cast, seval]) <;> exact sT))) | ((first | apply Run.nil | apply Wp.skip); dsimp only [sQ, tQ, bQ]) | (apply Wp.run; (dsimp only [List.map] <;> exact rfl); exact rfl) | (apply Wp.exit; dsimp only [sQ, tQ, bQ]; simp only [reduceIte]))
  (apply Run.pureP; (simp only [push_cast, seval] <;> (try simp (disch := omega) only [wI, wU, wC]) <;> exact rfl); (exact (Enters.of Try.func24 rfl rfl)); (exact within_pure _ _ _); (focus (simp only [push_cast, seval] <;> first | trivial | assumption | (refine ⟨?_, ?_⟩ <;> assumption) | (simp; done))); (try dsimp only [putA, optG]))
  repeat (first | apply Wp.seq | apply Wp.block | (apply Run.next; (simp only [push_cast, seval] <;> (try simp (disch := omega) only [wI, wU, wC]) <;> exact rfl); (focus ((try simp only [push_cast, seval]) <;> exact sT))) | ((first | apply Run.nil | apply Wp.skip); dsimp only [sQ, tQ, bQ]) | (apply Wp.run; (dsimp only [List.map] <;> exact rfl); exact rfl) | (apply Wp.exit; dsimp only [sQ, tQ, bQ]; simp only [reduceIte]))
  (apply Run.pureP; (simp only [push_cast, seval] <;> (try simp (disch := omega) only [wI, wU, wC]) <;> exact rfl); (exact (Enters.of Try.func34 rfl rfl)); (exact containsFunc_pure l 54 [] _ (Enters.of Try.func54 rfl rfl) trivial (fun _ => ⟨rfl, rfl⟩) (fun x _ => next1_pure x) hlen); (focus (simp only [push_cast, seval] <;> first | trivial | assumption | (refine ⟨?_, ?_⟩ <;> assumption) | (simp; done))); (try dsimp only [putA, optG]))
  repeat (first | apply Wp.seq | apply Wp.block | (apply Run.next; (simp only [push_cast, seval] <;> (try simp (disch := omega) only [wI, wU, wC]) <;> exact rfl); (focus ((try simp only [push_cast, seval]) <;> exact sT))) | ((first | apply Run.nil | apply Wp.skip); dsimp only [sQ, tQ, bQ]) | (apply Wp.run; (dsimp only [List.map] <;> exact rfl); exact rfl) | (apply Wp.exit; dsimp only [sQ, tQ, bQ]; simp only [reduceIte]))
  (apply Wp.cond; (simp only [push_cast, seval] <;> (try simp (disch := omega) only [wI, wU, wC]) <;> exact rfl))
  · intro hc
    repeat (first | apply Wp.seq | apply Wp.block | (apply Run.next; (simp only [push_cast, seval] <;> (try simp (disch := omega) only [wI, wU, wC]) <;> exact rfl); (focus ((try simp only [push_cast, seval]) <;> exact sT))) | ((first | apply Run.nil | apply Wp.skip); dsimp only [sQ, tQ, bQ]) | (apply Wp.run; (dsimp only [List.map] <;> exact rfl); exact rfl) | (apply Wp.exit; dsimp only [sQ, tQ, bQ]; simp only [reduceIte]))
    (apply Wp.ret; (try dsimp only [sQ, tQ, bQ]); apply leave0; exact rfl; (simp only [push_cast, seval] <;> (try simp (disch := omega) only [wI, wU, wC]) <;> exact rfl); all_goals (try simp only [push_cast, seval]); (try rfl))
    have hin : inRange l = false := by
      rw [any_not, ← Bool.not_and, Bool.not_eq_true'] at hc
      exact hc
    simp [nextV, hin]
  · intro hc
    have hin : inRange l = true := by
      rw [any_not, ← Bool.not_and, Bool.not_eq_false'] at hc
      exact hc
    obtain ⟨hb, hl1, hl2⟩ := bnd10 hin
    repeat (first | apply Wp.seq | apply Wp.block | (apply Run.next; (simp only [push_cast, seval] <;> (try simp (disch := omega) only [wI, wU, wC]) <;> exact rfl); (focus ((try simp only [push_cast, seval]) <;> exact sT))) | ((first | apply Run.nil | apply Wp.skip); dsimp only [sQ, tQ, bQ]) | (apply Wp.run; (dsimp only [List.map] <;> exact rfl); exact rfl) | (apply Wp.exit; dsimp only [sQ, tQ, bQ]; simp only [reduceIte]))
    (apply Run.freshV (he := (Enters.of Try.func26 rfl rfl)); (simp only [push_cast, seval] <;> first | exact rfl | assumption); (simp only [push_cast, seval] <;> (try simp (disch := omega) only [wI, wU, wC]) <;> exact rfl); (exact clone_spec l (by omega)); (focus (first | (simp only [push_cast, seval]; done) | trivial | (simp only [push_cast, seval]; trivial) | (simp; done) | (intro x hx; simp only [List.mem_cons, List.not_mem_nil, or_false] at hx; rcases hx with rfl | rfl <;> first | exact .inl trivial | exact .inr ⟨_, _, _, _, rfl⟩))); (focus (first | (simp only [push_cast, seval]; done) | trivial | (simp only [push_cast, seval]; trivial) | (simp; done) | (intro x hx; simp only [List.mem_cons, List.not_mem_nil, or_false] at hx; rcases hx with rfl | rfl <;> first | exact .inl trivial | exact .inr ⟨_, _, _, _, rfl⟩))); (focus (first | (simp only [push_cast, seval]; done) | trivial | (simp only [push_cast, seval]; trivial) | (simp; done) | (intro x hx; simp only [List.mem_cons, List.not_mem_nil, or_false] at hx; rcases hx with rfl | rfl <;> first | exact .inl trivial | exact .inr ⟨_, _, _, _, rfl⟩))); (dsimp only [S.put, optG]; try dsimp only [AV.shift, List.length_nil, List.length_cons, List.nil_append, List.cons_append, Nat.zero_add, Nat.add_zero, Nat.reduceAdd]))
    repeat (first | apply Wp.seq | apply Wp.block | (apply Run.next; (simp only [push_cast, seval] <;> (try simp (disch := omega) only [wI, wU, wC]) <;> exact rfl); (focus ((try simp only [push_cast, seval]) <;> exact sT))) | ((first | apply Run.nil | apply Wp.skip); dsimp only [sQ, tQ, bQ]) | (apply Wp.run; (dsimp only [List.map] <;> exact rfl); exact rfl) | (apply Wp.exit; dsimp only [sQ, tQ, bQ]; simp only [reduceIte]))
    refine Wp.loop (fun (q : Nat × List Int) => { t := [(0, .ints l), (2, .int (sumTo q.1 l)), (3, .int q.1), (5, .osl 0 0 0 (l.length - q.1))], m := [⟨0, .row 1 (q.2.map AV.int)⟩], n := 62 })
      (fun q => q.1 < l.length ∧ q.2.length = l.length ∧ q.2.take (l.length - q.1) = dn q.1 l ∧ ∀ j, j < q.1 → allSame (dn j l) = false) (fun q => l.length - q.1) (0, l) ?_ ?_ ?_
    · (refine Le.of ?_ ?_ rfl rfl <;> (try simp only [push_cast, seval]) <;> (try (with_reducible rfl)))
      exact ⟨rfl, rfl⟩
    · exact ⟨by simp; omega, rfl, by simp [dn], fun j hj => by simp at hj⟩
    · rintro ⟨n, r⟩ ⟨hn1, hr1, hr2, hn2⟩
      simp only at hn1 hr1 hr2 hn2 ⊢
      have hbn := bnd_dn10 hb (n := n) (by omega)
      have hsum := sumTo_bnd hb n (by omega) (by omega)
      have hln := dn_len n l
      have hle : l.length - n ≤ r.length := by omega
      repeat (first | apply Wp.seq | apply Wp.block | (apply Run.next; (simp only [push_cast, seval, hle] <;> (try simp (disch := omega) only [wI, wU, wC]) <;> exact rfl); (focus ((try simp only [push_cast, seval, hle]) <;> exact sT))) | ((first | apply Run.nil | apply Wp.skip); dsimp only [sQ, tQ, bQ]) | (apply Wp.run; (dsimp only [List.map] <;> exact rfl); exact rfl) | (apply Wp.exit; dsimp only [sQ, tQ, bQ]; simp only [reduceIte]))
      (apply Wp.cond; (simp only [push_cast, seval, hle] <;> (try simp (disch := omega) only [wI, wU, wC]) <;> exact rfl))
      · (intro hc; try simp only [decide_eq_true_eq, decide_eq_false_iff_not, Bool.and_eq_true, Bool.or_eq_true, Bool.not_eq_true, Bool.not_eq_false, Bool.not_eq_true', Bool.not_eq_false', Bool.and_eq_false_iff, Bool.or_eq_false_iff, Int.not_lt, Int.not_le, Int.ofNat_lt, Int.ofNat_le] at hc)
        have hlast : r.getD (l.length - n - 1) 0 = lastI (dn n l) := by
          unfold lastI
          rw [hln, ← hr2, take_getD _ _ _ (by omega)]
        have hlb := bnd_last hbn (by omega)
        have hne : r.take (l.length - n) ≠ [] := by
          intro h
          rw [hr2] at h
          rw [h] at hln
          simp only [List.length_nil] at hln
          omega
        repeat (first | apply Wp.seq | apply Wp.block | (apply Run.next; (simp only [push_cast, seval, hle] <;> (try simp (disch := omega) only [wI, wU, wC]) <;> exact rfl); (focus ((try simp only [push_cast, seval, hle]) <;> exact sT))) | ((first | apply Run.nil | apply Wp.skip); dsimp only [sQ, tQ, bQ]) | (apply Wp.run; (dsimp only [List.map] <;> exact rfl); exact rfl) | (apply Wp.exit; dsimp only [sQ, tQ, bQ]; simp only [reduceIte]))
        (apply Run.pureP; (simp only [push_cast, seval, hle] <;> (try simp (disch := omega) only [wI, wU, wC]) <;> exact rfl); (exact (Enters.of Try.func55 rfl rfl)); (exact min_pure (r.take (l.length - n)) hne (by rw [List.length_take]; omega)); (focus (simp only [push_cast, seval, hle] <;> first | trivial | assumption | (refine ⟨?_, ?_⟩ <;> assumption) | (simp; done))); (try dsimp only [putA, optG]))
        repeat (first | apply Wp.seq | apply Wp.block | (apply Run.next; (simp only [push_cast, seval, hle] <;> (try simp (disch := omega) only [wI, wU, wC]) <;> exact rfl); (focus ((try simp only [push_cast, seval, hle]) <;> exact sT))) | ((first | apply Run.nil | apply Wp.skip); dsimp only [sQ, tQ, bQ]) | (apply Wp.run; (dsimp only [List.map] <;> exact rfl); exact rfl) | (apply Wp.exit; dsimp only [sQ, tQ, bQ]; simp only [reduceIte]))
        (apply Run.pureP; (simp only [push_cast, seval, hle] <;> (try simp (disch := omega) only [wI, wU, wC]) <;> exact rfl); (exact (Enters.of Try.func56 rfl rfl)); (exact max_pure (r.take (l.length - n)) hne (by rw [List.length_take]; omega)); (focus (simp only [push_cast, seval, hle] <;> first | trivial | assumption | (refine ⟨?_, ?_⟩ <;> assumption) | (simp; done))); (try dsimp only [putA, optG]))
        repeat (first | apply Wp.seq | apply Wp.block | (apply Run.next; (simp only [push_cast, seval, hle] <;> (try simp (disch := omega) only [wI, wU, wC]) <;> exact rfl); (focus ((try simp only [push_cast, seval, hle]) <;> exact sT))) | ((first | apply Run.nil | apply Wp.skip); dsimp only [sQ, tQ, bQ]) | (apply Wp.run; (dsimp only [List.map] <;> exact rfl); exact rfl) | (apply Wp.exit; dsimp only [sQ, tQ, bQ]; simp only [reduceIte]))
        (apply Wp.cond; (simp only [push_cast, seval, hle] <;> (try simp (disch := omega) only [wI, wU, wC]) <;> exact rfl))
        · intro h2
          rw [min_max, hr2] at h2
          repeat (first | apply Wp.seq | apply Wp.block | (apply Run.next; (simp only [push_cast, seval, hle] <;> (try simp (disch := omega) only [wI, wU, wC]) <;> exact rfl); (focus ((try simp only [push_cast, seval, hle]) <;> exact sT))) | ((first | apply Run.nil | apply Wp.skip); dsimp only [sQ, tQ, bQ]) | (apply Wp.run; (dsimp only [List.map] <;> exact rfl); exact rfl) | (apply Wp.exit; dsimp only [sQ, tQ, bQ]; simp only [reduceIte]))
          (apply Wp.ret; (try dsimp only [sQ, tQ, bQ]); apply leave0; exact rfl; (simp only [push_cast, seval, hle] <;> (try simp (disch := omega) only [wI, wU, wC]) <;> exact rfl); all_goals (try simp only [push_cast, seval, hle]); (try rfl))
          rw [hlast]
          simp [nextV, hin, degOf_some (by omega) h2 hn2, ← sumTo_follow, sumTo]
        · intro h2
          rw [min_max, hr2] at h2
          repeat (first | apply Wp.seq | apply Wp.block | (apply Run.next; (simp only [push_cast, seval, hle] <;> (try simp (disch := omega) only [wI, wU, wC]) <;> exact rfl); (focus ((try simp only [push_cast, seval, hle]) <;> exact sT))) | ((first | apply Run.nil | apply Wp.skip); dsimp only [sQ, tQ, bQ]) | (apply Wp.run; (dsimp only [List.map] <;> exact rfl); exact rfl) | (apply Wp.exit; dsimp only [sQ, tQ, bQ]; simp only [reduceIte]))
          refine Wp.loop (fun (q : Nat × List Int) => { t := [(0, .ints l), (2, .int (sumTo (n + 1) l)), (3, .int n), (5, .osl 0 0 0 (l.length - n)), (39, .int (l.length - n - 1 : Nat)), (40, .int q.1)], m := [⟨0, .row 1 (q.2.map AV.int)⟩], n := 62 })
            (fun q => q.1 ≤ l.length - n - 1 ∧ q.2.length = l.length ∧ (∀ j, j < q.1 → q.2.getD j 0 = (dn (n + 1) l).getD j 0) ∧ ∀ j, q.1 ≤ j → j < l.length - n → q.2.getD j 0 = (dn n l).getD j 0) (fun q => l.length - q.1) (0, r) ?_ ?_ ?_
          · (refine Le.of ?_ ?_ rfl rfl <;> (try simp only [push_cast, seval, hle]) <;> (try (with_reducible rfl)))
            refine ⟨?_, ?_⟩
            · rw [hlast]; rfl
            · congr 2; omega
          · refine ⟨by simp, hr1, fun j hj => by simp at hj, fun j _ hj => ?_⟩
            rw [← hr2, take_getD _ _ _ hj]
          · rintro ⟨i, r'⟩ ⟨hi1, hi2, hi3, hi4⟩
            simp only at hi1 hi2 hi3 hi4 ⊢
            have hdl := dn_len (n + 1) l
            repeat (first | apply Wp.seq | apply Wp.block | (apply Run.next; (simp only [push_cast, seval, hle] <;> (try simp (disch := omega) only [wI, wU, wC]) <;> exact rfl); (focus ((try simp only [push_cast, seval, hle]) <;> exact sT))) | ((first | apply Run.nil | apply Wp.skip); dsimp only [sQ, tQ, bQ]) | (apply Wp.run; (dsimp only [List.map] <;> exact rfl); exact rfl) | (apply Wp.exit; dsimp only [sQ, tQ, bQ]; simp only [reduceIte]))
            (apply Wp.cond; (simp only [push_cast, seval, hle] <;> (try simp (disch := omega) only [wI, wU, wC]) <;> exact rfl))
            · (intro hc; try simp only [decide_eq_true_eq, decide_eq_false_iff_not, Bool.and_eq_true, Bool.or_eq_true, Bool.not_eq_true, Bool.not_eq_false, Bool.not_eq_true', Bool.not_eq_false', Bool.and_eq_false_iff, Bool.or_eq_false_iff, Int.not_lt, Int.not_le, Int.ofNat_lt, Int.ofNat_le] at hc)
              have e1 := hi4 i (by omega) (by omega)
              have e2 := hi4 (i + 1) (by omega) (by omega)
              have b1 := hbn _ (mem_getD (l := dn n l) (k := i) (by omega))
              have b2 := hbn _ (mem_getD (l := dn n l) (k := i + 1) (by omega))
              repeat (first | apply Wp.seq | apply Wp.block | (apply Run.next; (simp only [push_cast, seval, hle] <;> (try simp (disch := omega) only [wI, wU, wC]) <;> exact rfl); (focus ((try simp only [push_cast, seval, hle]) <;> exact sT))) | ((first | apply Run.nil | apply Wp.skip); dsimp only [sQ, tQ, bQ]) | (apply Wp.run; (dsimp only [List.map] <;> exact rfl); exact rfl) | (apply Wp.exit; dsimp only [sQ, tQ, bQ]; simp only [reduceIte]))
              (apply Wp.runD 12 mixed; (dsimp only [List.map] <;> exact rfl); exact rfl; kernel_rfl; (dsimp only [List.take] <;> exact rfl); (dsimp only [List.drop] <;> exact rfl); (((repeat (apply Abn.next; (simp only [push_cast, seval, hle] <;> (try simp (disch := omega) only [wI, wU, wC]) <;> exact rfl); (focus ((try simp only [push_cast, seval, hle]) <;> exact sT))))); exact Abn.nil))
              repeat (first | apply Wp.seq | apply Wp.block | (apply Run.next; (simp only [push_cast, seval, hle] <;> (try simp (disch := omega) only [wI, wU, wC]) <;> exact rfl); (focus ((try simp only [push_cast, seval, hle]) <;> exact sT))) | ((first | apply Run.nil | apply Wp.skip); dsimp only [sQ, tQ, bQ]) | (apply Wp.run; (dsimp only [List.map] <;> exact rfl); exact rfl) | (apply Wp.exit; dsimp only [sQ, tQ, bQ]; simp only [reduceIte]))
              refine ⟨(i + 1, r'.set i ((dn (n + 1) l).getD i 0)), ?_, ⟨by simp only; omega, by simp [hi2], fun j hj => ?_, fun j hj1 hj2 => ?_⟩, by simp only; omega⟩
              · (refine Le.of ?_ ?_ rfl rfl <;> (try simp only [push_cast, seval, hle]) <;> (try (with_reducible rfl)))
                rw [e1, e2, dn, diffs_at _ _ (by omega)]
              · by_cases hji : j = i
                · subst hji; simp only [getD_set_same _ _ _ (by omega : j < r'.length)]
                · simp only [getD_set_ne _ _ _ _ hji]; exact hi3 j (by simp only at hj; omega)
              · simp only at hj1
                simp only [getD_set_ne _ _ _ _ (by omega : j ≠ i)]; exact hi4 j (by omega) hj2
            · (intro hc; try simp only [decide_eq_true_eq, decide_eq_false_iff_not, Bool.and_eq_true, Bool.or_eq_true, Bool.not_eq_true, Bool.not_eq_false, Bool.not_eq_true', Bool.not_eq_false', Bool.and_eq_false_iff, Bool.or_eq_false_iff, Int.not_lt, Int.not_le, Int.ofNat_lt, Int.ofNat_le] at hc)
              repeat (first | apply Wp.seq | apply Wp.block | (apply Run.next; (simp only [push_cast, seval, hle] <;> (try simp (disch := omega) only [wI, wU, wC]) <;> exact rfl); (focus ((try simp only [push_cast, seval, hle]) <;> exact sT))) | ((first | apply Run.nil | apply Wp.skip); dsimp only [sQ, tQ, bQ]) | (apply Wp.run; (dsimp only [List.map] <;> exact rfl); exact rfl) | (apply Wp.exit; dsimp only [sQ, tQ, bQ]; simp only [reduceIte]))
              obtain rfl : i = l.length - n - 1 := by omega
              refine ⟨(n + 1, r'), ?_, ⟨by simp only; omega, hi2, ?_, fun j hj => ?_⟩, by simp only; omega⟩
              · (refine Le.of ?_ ?_ rfl rfl <;> (try simp only [push_cast, seval, hle]) <;> (try (with_reducible rfl)))
                congr 1
              · simp only
                apply List.ext_getElem
                · rw [List.length_take, hdl]; omega
                · intro j h3 h4
                  rw [List.length_take] at h3
                  have := hi3 j (by omega)
                  simp only [List.getElem_take]
                  simpa [List.getD_eq_getElem?_getD, (by omega : j < r'.length), h4] using this
              · simp only at hj
                by_cases hjn : j = n
                · subst hjn; exact h2
                · exact hn2 j (by omega)
      · (intro hc; try simp only [decide_eq_true_eq, decide_eq_false_iff_not, Bool.and_eq_true, Bool.or_eq_true, Bool.not_eq_true, Bool.not_eq_false, Bool.not_eq_true', Bool.not_eq_false', Bool.and_eq_false_iff, Bool.or_eq_false_iff, Int.not_lt, Int.not_le, Int.ofNat_lt, Int.ofNat_le] at hc)
        repeat (first | apply Wp.seq | apply Wp.block | (apply Run.next; (simp only [push_cast, seval, hle] <;> (try simp (disch := omega) only [wI, wU, wC]) <;> exact rfl); (focus ((try simp only [push_cast, seval, hle]) <;> exact sT))) | ((first | apply Run.nil | apply Wp.skip); dsimp only [sQ, tQ, bQ]) | (apply Wp.run; (dsimp only [List.map] <;> exact rfl); exact rfl) | (apply Wp.exit; dsimp only [sQ, tQ, bQ]; simp only [reduceIte]))
        (apply Wp.ret; (try dsimp only [sQ, tQ, bQ]); apply leave0; exact rfl; (simp only [push_cast, seval, hle] <;> (try simp (disch := omega) only [wI, wU, wC]) <;> exact rfl); all_goals (try simp only [push_cast, seval, hle]); (try rfl))
        simp [nextV, hin, degOf_none fun j hj => hn2 j (by omega)]
end Go.Proofs.Try
namespace Go.Proofs.Try
open Go.Vg

def letter (c : UInt8) : Bool := decide (97 ≤ (c.toNat : Int)) && decide ((c.toNat : Int) ≤ 122)
def mv (c : UInt8) (n : Int) : UInt8 := UInt8.ofNat (97 + ((((c.toNat : Int) - 97) + n).tmod 26 + 26).tmod 26).toNat

theorem letter_pure (c : UInt8) : Pure Try.prog 83 [AV.byte c] (.bool (letter c)) := by
  unfold AV.byte
  (refine Spec.of_body Try.func83 rfl (by rw [Try.ntmps83]; simp) 0 (by simp) ?_; rw [Try.results83, Try.ntmps83]; simp only [entry, zipArgs, Nat.reduceAdd])
  repeat (first | apply Wp.seq | apply Wp.block | (apply Run.next; (simp only [push_cast, seval] <;> (try simp (disch := omega) only [wI, wU, wC]) <;> exact rfl); (focus ((try simp only [push_cast, seval]) <;> exact sT))) | ((first | apply Run.nil | apply Wp.skip); dsimp only [sQ, tQ, bQ]) | (apply Wp.run; (dsimp only [List.map] <;> exact rfl); exact rfl) | (apply Wp.exit; dsimp only [sQ, tQ, bQ]; simp only [reduceIte]))
  (apply Wp.ret; (try dsimp only [sQ, tQ, bQ]); apply leave0; exact rfl; (simp only [push_cast, seval] <;> (try simp (disch := omega) only [wI, wU, wC]) <;> exact rfl); all_goals (try simp only [push_cast, seval]); (try rfl))

theorem tmod26 (x : Int) : 0 ≤ (x.tmod 26 + 26).tmod 26 ∧ (x.tmod 26 + 26).tmod 26 ≤ 25 := by
  have h1 : -26 < x.tmod 26 := by
    have := Int.lt_tmod_of_pos x (b := 26) (by decide); omega
  have h2 : 0 ≤ x.tmod 26 + 26 := by omega
  have h3 := Int.tmod_nonneg 26 h2
  have h4 := Int.tmod_lt_of_pos (x.tmod 26 + 26) (b := 26) (by decide)
  omega
theorem move_pure (c : UInt8) (n : Int) (hc : letter c = true) (hn : -1000 ≤ n ∧ n ≤ 1000) : Pure Try.prog 84 [AV.byte c, .int n] (AV.byte (mv c n)) := by
  unfold AV.byte
  simp only [letter, Bool.and_eq_true, decide_eq_true_eq] at hc
  have h26 := tmod26 (((c.toNat : Int) - 97) + n)
  have h27 : -26 ≤ (((c.toNat : Int) - 97) + n).tmod 26 ∧ (((c.toNat : Int) - 97) + n).tmod 26 ≤ 26 := by
    have h1 := Int.lt_tmod_of_pos (((c.toNat : Int) - 97) + n) (b := 26) (by decide)
    have h2 := Int.tmod_lt_of_pos (((c.toNat : Int) - 97) + n) (b := 26) (by decide)
    omega
  (refine Spec.of_body Try.func84 rfl (by rw [Try.ntmps84]; simp) 0 (by simp) ?_; rw [Try.results84, Try.ntmps84]; simp only [entry, zipArgs, Nat.reduceAdd])
  repeat (first | apply Wp.seq | apply Wp.block | (apply Run.next; (simp only [push_cast, seval] <;> (try simp (disch := omega) only [wI, wU, wC]) <;> exact rfl); (focus ((try simp only [push_cast, seval]) <;> exact sT))) | ((first | apply Run.nil | apply Wp.skip); dsimp only [sQ, tQ, bQ]) | (apply Wp.run; (dsimp only [List.map] <;> exact rfl); exact rfl) | (apply Wp.exit; dsimp only [sQ, tQ, bQ]; simp only [reduceIte]))
  (apply Wp.ret; (try dsimp only [sQ, tQ, bQ]); apply leave0; exact rfl; (simp only [push_cast, seval] <;> (try simp (disch := omega) only [wI, wU, wC]) <;> exact rfl); all_goals (try simp only [push_cast, seval]); (try rfl))
  unfold mv
  congr 2
  rw [UInt8.toNat_ofNat']
  omega

theorem shift1_pure (k n : Int) : Pure Try.prog 66 [.int k, .ref [.int n] 0] (.int n) := by
  (refine Spec.of_body Try.func66 rfl (by rw [Try.ntmps66]; simp) 0 (by simp) ?_; rw [Try.results66, Try.ntmps66]; simp only [entry, zipArgs, Nat.reduceAdd])
  repeat (first | apply Wp.seq | apply Wp.block | (apply Run.next; (simp only [push_cast, seval] <;> (try simp (disch := omega) only [wI, wU, wC]) <;> exact rfl); (focus ((try simp only [push_cast, seval]) <;> exact sT))) | ((first | apply Run.nil | apply Wp.skip); dsimp only [sQ, tQ, bQ]) | (apply Wp.run; (dsimp only [List.map] <;> exact rfl); exact rfl) | (apply Wp.exit; dsimp only [sQ, tQ, bQ]; simp only [reduceIte]))
  (apply Wp.ret; (try dsimp only [sQ, tQ, bQ]); apply leave0; exact rfl; (simp only [push_cast, seval] <;> (try simp (disch := omega) only [wI, wU, wC]) <;> exact rfl); all_goals (try simp only [push_cast, seval]); (try rfl))

def changeL (f : Nat → Int) : List UInt8 → Nat → List UInt8
  | [], _ => []
  | c :: l, i => if letter c then mv c (f i) :: changeL f l (i + 1) else c :: changeL f l i
def cntL (l : List UInt8) : Nat := (l.filter letter).length
theorem changeL_len (f : Nat → Int) : ∀ (l : List UInt8) (i : Nat), (changeL f l i).length = l.length
  | [], _ => rfl
  | c :: l, i => by simp only [changeL]; split <;> simp [changeL_len f l]
theorem changeL_snoc (f : Nat → Int) (c : UInt8) : ∀ (l : List UInt8) (i : Nat), changeL f (l ++ [c]) i = changeL f l i ++ [if letter c then mv c (f (i + cntL l)) else c]
  | [], i => by simp only [List.nil_append, changeL, cntL]; split <;> simp_all
  | y :: l, i => by
    simp only [List.cons_append, changeL, cntL]
    split
    · rename_i h
      rw [changeL_snoc f c l]
      simp only [List.filter_cons, h, if_true, List.length_cons, List.cons_append, cntL]
      rw [show i + 1 + (l.filter letter).length = i + ((l.filter letter).length + 1) by omega]
    · rename_i h
      rw [changeL_snoc f c l]
      simp only [List.filter_cons, h, if_false, List.cons_append, cntL]
      simp

/-- the text, changed up to k -/
def chg (f : Nat → Int) (l : List UInt8) (k : Nat) : List UInt8 := changeL f (l.take k) 0 ++ l.drop k
theorem chg_len (f : Nat → Int) (l : List UInt8) (k : Nat) : (chg f l k).length = l.length := by
  simp [chg, changeL_len]; omega
theorem chg_at (f : Nat → Int) (l : List UInt8) (k : Nat) (h : k < l.length) : (chg f l k).getD k 0 = l.getD k 0 := by
  have : (changeL f (l.take k) 0).length = k := by rw [changeL_len]; simp; omega
  simp [chg, List.getElem?_append_right, this]
theorem take_snoc8 (l : List UInt8) (k : Nat) (h : k < l.length) : l.take (k + 1) = l.take k ++ [l.getD k 0] := by
  rw [List.take_succ_eq_append_getElem h]; simp [h]
theorem chg_yes (f : Nat → Int) (l : List UInt8) (k : Nat) (h : k < l.length) (hc : letter (l.getD k 0) = true) : (chg f l k).set k (mv (l.getD k 0) (f (cntL (l.take k)))) = chg f l (k + 1) := by
  have h1 : (changeL f (l.take k) 0).length = k := by rw [changeL_len]; simp; omega
  unfold chg
  rw [take_snoc8 l k h, changeL_snoc, if_pos hc, List.set_append_right _ _ (by omega), h1, Nat.sub_self, Nat.zero_add, List.drop_eq_getElem_cons h, List.append_assoc]
  rfl
theorem chg_no (f : Nat → Int) (l : List UInt8) (k : Nat) (h : k < l.length) (hc : letter (l.getD k 0) = false) : chg f l k = chg f l (k + 1) := by
  unfold chg
  rw [take_snoc8 l k h, changeL_snoc, List.drop_eq_getElem_cons h]
  simp only [hc]
  simp [h]
theorem cnt_yes (l : List UInt8) (k : Nat) (h : k < l.length) (hc : letter (l.getD k 0) = true) : cntL (l.take (k + 1)) = cntL (l.take k) + 1 := by
  unfold cntL; rw [take_snoc8 l k h, List.filter_append, List.length_append]; simp only [List.filter_cons, hc, if_true, List.filter_nil, List.length_cons, List.length_nil]
theorem cnt_no (l : List UInt8) (k : Nat) (h : k < l.length) (hc : letter (l.getD k 0) = false) : cntL (l.take (k + 1)) = cntL (l.take k) := by
  unfold cntL; rw [take_snoc8 l k h, List.filter_append, List.length_append]; simp only [List.filter_cons, hc, Bool.false_eq_true, if_false, List.filter_nil, List.length_nil, Nat.add_zero]
theorem cnt_le (l : List UInt8) (k : Nat) : cntL (l.take k) ≤ k := by
  unfold cntL
  have := List.length_filter_le letter (l.take k)
  simp at this ⊢; omega

theorem change_pure (b : ByteArray) (g : FuncId) (caps : List AV) (f : Nat → Int) (hg : Enters Try.prog g) (hk : okL 0 caps) (hcv : ∀ m, caps.map (view m) = caps ∧ caps.map (view2 m) = caps) (hb : b.size ≤ 1000)
    (hp : ∀ k : Nat, k < b.size → Pure Try.prog g (.int k :: caps) (.int (f k))) (hf : ∀ k, k < b.size → -1000 ≤ f k ∧ f k ≤ 1000) :
    Pure Try.prog 65 [.str b, .clo g caps] (.str ⟨(changeL f b.data.toList 0).toArray⟩) := by
  have hbl : b.data.toList.length = b.size := by simp
  (refine Spec.of_body Try.func65 rfl (by rw [Try.ntmps65]; simp) 0 (by simp) ?_; rw [Try.results65, Try.ntmps65]; simp only [entry, zipArgs, Nat.reduceAdd])
  repeat (first | apply Wp.seq | apply Wp.block | (apply Run.next; (simp only [push_cast, seval, hcv] <;> (try simp (disch := omega) only [wI, wU, wC]) <;> exact rfl); (focus ((try simp only [push_cast, seval, hcv]) <;> exact sT))) | ((first | apply Run.nil | apply Wp.skip); dsimp only [sQ, tQ, bQ]) | (apply Wp.run; (dsimp only [List.map] <;> exact rfl); exact rfl) | (apply Wp.exit; dsimp only [sQ, tQ, bQ]; simp only [reduceIte]))
  apply Run.bytes; (simp only [push_cast, seval, hcv] <;> (try simp (disch := omega) only [wI, wU, wC]) <;> exact rfl); (simp only [push_cast, seval, hcv] <;> (try simp (disch := omega) only [wI, wU, wC]) <;> exact rfl); (simp only [push_cast, seval, hcv] <;> (try simp (disch := omega) only [wI, wU, wC]) <;> exact rfl); (simp only [push_cast, seval, hcv] <;> (try simp (disch := omega) only [wI, wU, wC]) <;> exact rfl); (focus omega); dsimp only [S.put, optG]
  repeat (first | apply Wp.seq | apply Wp.block | (apply Run.next; (simp only [push_cast, seval, hcv] <;> (try simp (disch := omega) only [wI, wU, wC]) <;> exact rfl); (focus ((try simp only [push_cast, seval, hcv]) <;> exact sT))) | ((first | apply Run.nil | apply Wp.skip); dsimp only [sQ, tQ, bQ]) | (apply Wp.run; (dsimp only [List.map] <;> exact rfl); exact rfl) | (apply Wp.exit; dsimp only [sQ, tQ, bQ]; simp only [reduceIte]))
  refine Wp.loop (fun k : Nat => { t := [(0, .str b), (1, .clo g caps), (5, .osl 0 0 0 b.size), (6, .int (cntL (b.data.toList.take k))), (11, .osl 0 0 0 b.size), (12, .int b.size), (13, .int k)], m := [⟨0, .row 1 ((chg f b.data.toList k).map AV.byte)⟩], n := 33 }) (fun k => k ≤ b.size) (fun k => b.size - k) 0 ?_ ?_ ?_
  · (refine Le.of ?_ ?_ rfl rfl <;> (try simp only [push_cast, seval, hcv]) <;> (try (with_reducible rfl)))
    · rfl
    · rfl
  · omega
  · intro k hk1
    have hle : b.size ≤ (chg f b.data.toList k).length := by rw [chg_len]; omega
    have hcl := cnt_le b.data.toList k
    repeat (first | apply Wp.seq | apply Wp.block | (apply Run.next; (simp only [push_cast, seval, hcv] <;> (try simp (disch := omega) only [wI, wU, wC]) <;> exact rfl); (focus ((try simp only [push_cast, seval, hcv]) <;> exact sT))) | ((first | apply Run.nil | apply Wp.skip); dsimp only [sQ, tQ, bQ]) | (apply Wp.run; (dsimp only [List.map] <;> exact rfl); exact rfl) | (apply Wp.exit; dsimp only [sQ, tQ, bQ]; simp only [reduceIte]))
    (apply Wp.cond; (simp only [push_cast, seval, hcv] <;> (try simp (disch := omega) only [wI, wU, wC]) <;> exact rfl))
    · (intro hc; try simp only [decide_eq_true_eq, decide_eq_false_iff_not, Bool.and_eq_true, Bool.or_eq_true, Bool.not_eq_true, Bool.not_eq_false, Bool.not_eq_true', Bool.not_eq_false', Bool.and_eq_false_iff, Bool.or_eq_false_iff, Int.not_lt, Int.not_le, Int.ofNat_lt, Int.ofNat_le] at hc)
      repeat (first | apply Wp.seq | apply Wp.block | (apply Run.next; (simp only [push_cast, seval, hcv] <;> (try simp (disch := omega) only [wI, wU, wC]) <;> exact rfl); (focus ((try simp only [push_cast, seval, hcv]) <;> exact sT))) | ((first | apply Run.nil | apply Wp.skip); dsimp only [sQ, tQ, bQ]) | (apply Wp.run; (dsimp only [List.map] <;> exact rfl); exact rfl) | (apply Wp.exit; dsimp only [sQ, tQ, bQ]; simp only [reduceIte]))
      have hat := chg_at f b.data.toList k (by omega)
      repeat (first | apply Wp.seq | apply Wp.block | (apply Run.next; (simp only [push_cast, seval, hcv] <;> (try simp (disch := omega) only [wI, wU, wC]) <;> exact rfl); (focus ((try simp only [push_cast, seval, hcv]) <;> exact sT))) | ((first | apply Run.nil | apply Wp.skip); dsimp only [sQ, tQ, bQ]) | (apply Wp.run; (dsimp only [List.map] <;> exact rfl); exact rfl) | (apply Wp.exit; dsimp only [sQ, tQ, bQ]; simp only [reduceIte]))
      (apply Run.pureP; (simp only [push_cast, seval, hcv] <;> (try simp (disch := omega) only [wI, wU, wC]) <;> exact rfl); (exact (Enters.of Try.func83 rfl rfl)); (exact letter_pure _); (focus (simp only [push_cast, seval, hcv] <;> first | trivial | assumption | (refine ⟨?_, ?_⟩ <;> assumption) | (simp; done))); (try dsimp only [putA, optG]))
      repeat (first | apply Wp.seq | apply Wp.block | (apply Run.next; (simp only [push_cast, seval, hcv] <;> (try simp (disch := omega) only [wI, wU, wC]) <;> exact rfl); (focus ((try simp only [push_cast, seval, hcv]) <;> exact sT))) | ((first | apply Run.nil | apply Wp.skip); dsimp only [sQ, tQ, bQ]) | (apply Wp.run; (dsimp only [List.map] <;> exact rfl); exact rfl) | (apply Wp.exit; dsimp only [sQ, tQ, bQ]; simp only [reduceIte]))
      rw [hat]
      (apply Wp.cond; (simp only [push_cast, seval, hcv] <;> (try simp (disch := omega) only [wI, wU, wC]) <;> exact rfl))
      · intro h2
        repeat (first | apply Wp.seq | apply Wp.block | (apply Run.next; (simp only [push_cast, seval, hcv] <;> (try simp (disch := omega) only [wI, wU, wC]) <;> exact rfl); (focus ((try simp only [push_cast, seval, hcv]) <;> exact sT))) | ((first | apply Run.nil | apply Wp.skip); dsimp only [sQ, tQ, bQ]) | (apply Wp.run; (dsimp only [List.map] <;> exact rfl); exact rfl) | (apply Wp.exit; dsimp only [sQ, tQ, bQ]; simp only [reduceIte]))
        (apply Run.pureP; (simp only [push_cast, seval, hcv] <;> (try simp (disch := omega) only [wI, wU, wC]) <;> exact rfl); (exact hg); (exact hp _ (by omega)); (focus (simp only [push_cast, seval, hcv] <;> first | trivial | assumption | (refine ⟨?_, ?_⟩ <;> assumption) | (simp; done))); (try dsimp only [putA, optG]))
        repeat (first | apply Wp.seq | apply Wp.block | (apply Run.next; (simp only [push_cast, seval, hcv] <;> (try simp (disch := omega) only [wI, wU, wC]) <;> exact rfl); (focus ((try simp only [push_cast, seval, hcv]) <;> exact sT))) | ((first | apply Run.nil | apply Wp.skip); dsimp only [sQ, tQ, bQ]) | (apply Wp.run; (dsimp only [List.map] <;> exact rfl); exact rfl) | (apply Wp.exit; dsimp only [sQ, tQ, bQ]; simp only [reduceIte]))
        (apply Run.pureP; (simp only [push_cast, seval, hcv] <;> (try simp (disch := omega) only [wI, wU, wC]) <;> exact rfl); (exact (Enters.of Try.func84 rfl rfl)); (exact move_pure _ _ h2 (hf _ (by omega))); (focus (simp only [push_cast, seval, hcv] <;> first | trivial | assumption | (refine ⟨?_, ?_⟩ <;> assumption) | (simp; done))); (try dsimp only [putA, optG]))
        repeat (first | apply Wp.seq | apply Wp.block | (apply Run.next; (simp only [push_cast, seval, hcv] <;> (try simp (disch := omega) only [wI, wU, wC]) <;> exact rfl); (focus ((try simp only [push_cast, seval, hcv]) <;> exact sT))) | ((first | apply Run.nil | apply Wp.skip); dsimp only [sQ, tQ, bQ]) | (apply Wp.run; (dsimp only [List.map] <;> exact rfl); exact rfl) | (apply Wp.exit; dsimp only [sQ, tQ, bQ]; simp only [reduceIte]))
        refine ⟨k + 1, ?_, by omega, by omega⟩
        (refine Le.of ?_ ?_ rfl rfl <;> (try simp only [push_cast, seval, hcv]) <;> (try (with_reducible rfl)))
        · rw [chg_yes f _ k (by omega) h2]
        · rw [cnt_yes _ k (by omega) h2]; rfl
      · intro h2
        repeat (first | apply Wp.seq | apply Wp.block | (apply Run.next; (simp only [push_cast, seval, hcv] <;> (try simp (disch := omega) only [wI, wU, wC]) <;> exact rfl); (focus ((try simp only [push_cast, seval, hcv]) <;> exact sT))) | ((first | apply Run.nil | apply Wp.skip); dsimp only [sQ, tQ, bQ]) | (apply Wp.run; (dsimp only [List.map] <;> exact rfl); exact rfl) | (apply Wp.exit; dsimp only [sQ, tQ, bQ]; simp only [reduceIte]))
        refine ⟨k + 1, ?_, by omega, by omega⟩
        (refine Le.of ?_ ?_ rfl rfl <;> (try simp only [push_cast, seval, hcv]) <;> (try (with_reducible rfl)))
        · rw [chg_no f _ k (by omega) h2]
        · rw [cnt_no _ k (by omega) h2]
    · (intro hc; try simp only [decide_eq_true_eq, decide_eq_false_iff_not, Bool.and_eq_true, Bool.or_eq_true, Bool.not_eq_true, Bool.not_eq_false, Bool.not_eq_true', Bool.not_eq_false', Bool.and_eq_false_iff, Bool.or_eq_false_iff, Int.not_lt, Int.not_le, Int.ofNat_lt, Int.ofNat_le] at hc)
      obtain rfl : k = b.size := by omega
      repeat (first | apply Wp.seq | apply Wp.block | (apply Run.next; (simp only [push_cast, seval, hcv] <;> (try simp (disch := omega) only [wI, wU, wC]) <;> exact rfl); (focus ((try simp only [push_cast, seval, hcv]) <;> exact sT))) | ((first | apply Run.nil | apply Wp.skip); dsimp only [sQ, tQ, bQ]) | (apply Wp.run; (dsimp only [List.map] <;> exact rfl); exact rfl) | (apply Wp.exit; dsimp only [sQ, tQ, bQ]; simp only [reduceIte]))
      apply Run.strOf; (simp only [push_cast, seval, hcv] <;> (try simp (disch := omega) only [wI, wU, wC]) <;> exact rfl); (simp only [push_cast, seval, hcv] <;> (try simp (disch := omega) only [wI, wU, wC]) <;> exact rfl); (simp only [push_cast, seval, hcv] <;> (try simp (disch := omega) only [wI, wU, wC]) <;> exact rfl); (simp only [push_cast, seval, hcv] <;> (try simp (disch := omega) only [wI, wU, wC]) <;> exact rfl); (focus (first | (simp only [push_cast, seval, hcv]; done) | trivial | (simp only [push_cast, seval, hcv]; trivial) | (simp; done))); dsimp only [S.put, optG]
      repeat (first | apply Wp.seq | apply Wp.block | (apply Run.next; (simp only [push_cast, seval, hcv] <;> (try simp (disch := omega) only [wI, wU, wC]) <;> exact rfl); (focus ((try simp only [push_cast, seval, hcv]) <;> exact sT))) | ((first | apply Run.nil | apply Wp.skip); dsimp only [sQ, tQ, bQ]) | (apply Wp.run; (dsimp only [List.map] <;> exact rfl); exact rfl) | (apply Wp.exit; dsimp only [sQ, tQ, bQ]; simp only [reduceIte]))
      (apply Wp.ret; (try dsimp only [sQ, tQ, bQ]); apply leave0; exact rfl; (simp only [push_cast, seval, hcv] <;> (try simp (disch := omega) only [wI, wU, wC]) <;> exact rfl); all_goals (try simp only [push_cast, seval, hcv]); (try rfl))
      rw [List.take_of_length_le (by rw [chg_len]; omega)]
      unfold chg
      rw [List.take_of_length_le (by omega), List.drop_eq_nil_of_le (by omega), List.append_nil]

def shiftB (b : ByteArray) (n : Int) : ByteArray := ⟨(changeL (fun _ => n) b.data.toList 0).toArray⟩

theorem shift_pure (b : ByteArray) (n : Int) (hb : b.size ≤ 1000) (hn : -1000 ≤ n ∧ n ≤ 1000) : Pure Try.prog 51 [.str b, .int n] (.str (shiftB b n)) := by
  (refine Spec.of_body Try.func51 rfl (by rw [Try.ntmps51]; simp) 0 (by simp) ?_; rw [Try.results51, Try.ntmps51]; simp only [entry, zipArgs, Nat.reduceAdd])
  repeat (first | apply Wp.seq | apply Wp.block | (apply Run.next; (simp only [push_cast, seval] <;> (try simp (disch := omega) only [wI, wU, wC]) <;> exact rfl); (focus ((try simp only [push_cast, seval]) <;> exact sT))) | ((first | apply Run.nil | apply Wp.skip); dsimp only [sQ, tQ, bQ]) | (apply Wp.run; (dsimp only [List.map] <;> exact rfl); exact rfl) | (apply Wp.exit; dsimp only [sQ, tQ, bQ]; simp only [reduceIte]))
  (apply Run.pureP; (simp only [push_cast, seval] <;> (try simp (disch := omega) only [wI, wU, wC]) <;> exact rfl); (exact (Enters.of Try.func65 rfl rfl)); (exact change_pure b 66 [.ref [.int n] 0] (fun _ => n) (Enters.of Try.func66 rfl rfl) (by simp only [push_cast, seval]) (fun m => ⟨rfl, rfl⟩) hb (fun k _ => shift1_pure k n) (fun _ _ => hn)); (focus (simp only [push_cast, seval] <;> first | trivial | assumption | (refine ⟨?_, ?_⟩ <;> assumption) | (simp; done))); (try dsimp only [putA, optG]))
  repeat (first | apply Wp.seq | apply Wp.block | (apply Run.next; (simp only [push_cast, seval] <;> (try simp (disch := omega) only [wI, wU, wC]) <;> exact rfl); (focus ((try simp only [push_cast, seval]) <;> exact sT))) | ((first | apply Run.nil | apply Wp.skip); dsimp only [sQ, tQ, bQ]) | (apply Wp.run; (dsimp only [List.map] <;> exact rfl); exact rfl) | (apply Wp.exit; dsimp only [sQ, tQ, bQ]; simp only [reduceIte]))
  (apply Wp.ret; (try dsimp only [sQ, tQ, bQ]); apply leave0; exact rfl; (simp only [push_cast, seval] <;> (try simp (disch := omega) only [wI, wU, wC]) <;> exact rfl); all_goals (try simp only [push_cast, seval]); (try rfl))

def shiftV (b : ByteArray) (n : Int) : ByteArray × Int :=
  if 200 < (b.size : Int) then (.empty, 2) else if (decide (-100 ≤ n) && decide (n ≤ 100)) then (shiftB b n, 0) else (.empty, 1)

theorem shiftV_pure (b : ByteArray) (n : Int) : Pure Try.prog 29 [.str b, .int n] (.tup [.str (shiftV b n).1, .int (shiftV b n).2]) := by
  (refine Spec.of_body Try.func29 rfl (by rw [Try.ntmps29]; simp) 0 (by simp) ?_; rw [Try.results29, Try.ntmps29]; simp only [entry, zipArgs, Nat.reduceAdd])
  repeat (first | apply Wp.seq | apply Wp.block | (apply Run.next; (simp only [push_cast, seval] <;> (try simp (disch := omega) only [wI, wU, wC]) <;> exact rfl); (focus ((try simp only [push_cast, seval]) <;> exact sT))) | ((first | apply Run.nil | apply Wp.skip); dsimp only [sQ, tQ, bQ]) | (apply Wp.run; (dsimp only [List.map] <;> exact rfl); exact rfl) | (apply Wp.exit; dsimp only [sQ, tQ, bQ]; simp only [reduceIte]))
  (apply Wp.cond; (simp only [push_cast, seval] <;> (try simp (disch := omega) only [wI, wU, wC]) <;> exact rfl))
  · (intro hc; try simp only [decide_eq_true_eq, decide_eq_false_iff_not, Bool.and_eq_true, Bool.or_eq_true, Bool.not_eq_true, Bool.not_eq_false, Bool.not_eq_true', Bool.not_eq_false', Bool.and_eq_false_iff, Bool.or_eq_false_iff, Int.not_lt, Int.not_le, Int.ofNat_lt, Int.ofNat_le] at hc)
    repeat (first | apply Wp.seq | apply Wp.block | (apply Run.next; (simp only [push_cast, seval] <;> (try simp (disch := omega) only [wI, wU, wC]) <;> exact rfl); (focus ((try simp only [push_cast, seval]) <;> exact sT))) | ((first | apply Run.nil | apply Wp.skip); dsimp only [sQ, tQ, bQ]) | (apply Wp.run; (dsimp only [List.map] <;> exact rfl); exact rfl) | (apply Wp.exit; dsimp only [sQ, tQ, bQ]; simp only [reduceIte]))
    (apply Wp.ret; (try dsimp only [sQ, tQ, bQ]); apply leave0; exact rfl; (simp only [push_cast, seval] <;> (try simp (disch := omega) only [wI, wU, wC]) <;> exact rfl); all_goals (try simp only [push_cast, seval]); (try rfl))
    simp [shiftV, hc]; rfl
  · (intro hc; try simp only [decide_eq_true_eq, decide_eq_false_iff_not, Bool.and_eq_true, Bool.or_eq_true, Bool.not_eq_true, Bool.not_eq_false, Bool.not_eq_true', Bool.not_eq_false', Bool.and_eq_false_iff, Bool.or_eq_false_iff, Int.not_lt, Int.not_le, Int.ofNat_lt, Int.ofNat_le] at hc)
    repeat (first | apply Wp.seq | apply Wp.block | (apply Run.next; (simp only [push_cast, seval] <;> (try simp (disch := omega) only [wI, wU, wC]) <;> exact rfl); (focus ((try simp only [push_cast, seval]) <;> exact sT))) | ((first | apply Run.nil | apply Wp.skip); dsimp only [sQ, tQ, bQ]) | (apply Wp.run; (dsimp only [List.map] <;> exact rfl); exact rfl) | (apply Wp.exit; dsimp only [sQ, tQ, bQ]; simp only [reduceIte]))
    (apply Run.pureP; (simp only [push_cast, seval] <;> (try simp (disch := omega) only [wI, wU, wC]) <;> exact rfl); (exact (Enters.of Try.func24 rfl rfl)); (exact within_pure _ _ _); (focus (simp only [push_cast, seval] <;> first | trivial | assumption | (refine ⟨?_, ?_⟩ <;> assumption) | (simp; done))); (try dsimp only [putA, optG]))
    repeat (first | apply Wp.seq | apply Wp.block | (apply Run.next; (simp only [push_cast, seval] <;> (try simp (disch := omega) only [wI, wU, wC]) <;> exact rfl); (focus ((try simp only [push_cast, seval]) <;> exact sT))) | ((first | apply Run.nil | apply Wp.skip); dsimp only [sQ, tQ, bQ]) | (apply Wp.run; (dsimp only [List.map] <;> exact rfl); exact rfl) | (apply Wp.exit; dsimp only [sQ, tQ, bQ]; simp only [reduceIte]))
    (apply Wp.cond; (simp only [push_cast, seval] <;> (try simp (disch := omega) only [wI, wU, wC]) <;> exact rfl))
    · intro h2
      repeat (first | apply Wp.seq | apply Wp.block | (apply Run.next; (simp only [push_cast, seval] <;> (try simp (disch := omega) only [wI, wU, wC]) <;> exact rfl); (focus ((try simp only [push_cast, seval]) <;> exact sT))) | ((first | apply Run.nil | apply Wp.skip); dsimp only [sQ, tQ, bQ]) | (apply Wp.run; (dsimp only [List.map] <;> exact rfl); exact rfl) | (apply Wp.exit; dsimp only [sQ, tQ, bQ]; simp only [reduceIte]))
      (apply Wp.ret; (try dsimp only [sQ, tQ, bQ]); apply leave0; exact rfl; (simp only [push_cast, seval] <;> (try simp (disch := omega) only [wI, wU, wC]) <;> exact rfl); all_goals (try simp only [push_cast, seval]); (try rfl))
      simp only [Bool.not_eq_true'] at h2
      unfold shiftV
      rw [if_neg (by omega), if_neg (by rw [h2]; simp)]
      rfl
    · intro h2
      simp only [Bool.not_eq_false'] at h2
      have h3 := h2
      simp only [Bool.and_eq_true, decide_eq_true_eq] at h3
      repeat (first | apply Wp.seq | apply Wp.block | (apply Run.next; (simp only [push_cast, seval] <;> (try simp (disch := omega) only [wI, wU, wC]) <;> exact rfl); (focus ((try simp only [push_cast, seval]) <;> exact sT))) | ((first | apply Run.nil | apply Wp.skip); dsimp only [sQ, tQ, bQ]) | (apply Wp.run; (dsimp only [List.map] <;> exact rfl); exact rfl) | (apply Wp.exit; dsimp only [sQ, tQ, bQ]; simp only [reduceIte]))
      (apply Run.pureP; (simp only [push_cast, seval] <;> (try simp (disch := omega) only [wI, wU, wC]) <;> exact rfl); (exact (Enters.of Try.func51 rfl rfl)); (exact shift_pure b n (by omega) (by omega)); (focus (simp only [push_cast, seval] <;> first | trivial | assumption | (refine ⟨?_, ?_⟩ <;> assumption) | (simp; done))); (try dsimp only [putA, optG]))
      repeat (first | apply Wp.seq | apply Wp.block | (apply Run.next; (simp only [push_cast, seval] <;> (try simp (disch := omega) only [wI, wU, wC]) <;> exact rfl); (focus ((try simp only [push_cast, seval]) <;> exact sT))) | ((first | apply Run.nil | apply Wp.skip); dsimp only [sQ, tQ, bQ]) | (apply Wp.run; (dsimp only [List.map] <;> exact rfl); exact rfl) | (apply Wp.exit; dsimp only [sQ, tQ, bQ]; simp only [reduceIte]))
      (apply Wp.ret; (try dsimp only [sQ, tQ, bQ]); apply leave0; exact rfl; (simp only [push_cast, seval] <;> (try simp (disch := omega) only [wI, wU, wC]) <;> exact rfl); all_goals (try simp only [push_cast, seval]); (try rfl))
      unfold shiftV
      rw [if_neg (by omega), if_pos h2]

theorem sameInts_pure (a b : List Int) : Pure Try.prog 9 [.ints a, .ints b] (.bool (decide (a = b))) := by
  (refine Spec.of_body Try.func9 rfl (by rw [Try.ntmps9]; simp) 0 (by simp) ?_; rw [Try.results9, Try.ntmps9]; simp only [entry, zipArgs, Nat.reduceAdd])
  apply Wp.len 0; (simp only [push_cast, seval] <;> (try simp (disch := omega) only [wI, wU, wC]) <;> exact rfl)
  intro hlen
  simp only [List.length_map] at hlen
  repeat (first | apply Wp.seq | apply Wp.block | (apply Run.next; (simp only [push_cast, seval] <;> (try simp (disch := omega) only [wI, wU, wC]) <;> exact rfl); (focus ((try simp only [push_cast, seval]) <;> exact sT))) | ((first | apply Run.nil | apply Wp.skip); dsimp only [sQ, tQ, bQ]) | (apply Wp.run; (dsimp only [List.map] <;> exact rfl); exact rfl) | (apply Wp.exit; dsimp only [sQ, tQ, bQ]; simp only [reduceIte]))
  (apply Wp.cond; (simp only [push_cast, seval] <;> (try simp (disch := omega) only [wI, wU, wC]) <;> exact rfl))
  · (intro hc; try simp only [decide_eq_true_eq, decide_eq_false_iff_not, Bool.and_eq_true, Bool.or_eq_true, Bool.not_eq_true, Bool.not_eq_false, Bool.not_eq_true', Bool.not_eq_false', Bool.and_eq_false_iff, Bool.or_eq_false_iff, Int.not_lt, Int.not_le, Int.ofNat_lt, Int.ofNat_le] at hc)
    repeat (first | apply Wp.seq | apply Wp.block | (apply Run.next; (simp only [push_cast, seval] <;> (try simp (disch := omega) only [wI, wU, wC]) <;> exact rfl); (focus ((try simp only [push_cast, seval]) <;> exact sT))) | ((first | apply Run.nil | apply Wp.skip); dsimp only [sQ, tQ, bQ]) | (apply Wp.run; (dsimp only [List.map] <;> exact rfl); exact rfl) | (apply Wp.exit; dsimp only [sQ, tQ, bQ]; simp only [reduceIte]))
    (apply Wp.ret; (try dsimp only [sQ, tQ, bQ]); apply leave0; exact rfl; (simp only [push_cast, seval] <;> (try simp (disch := omega) only [wI, wU, wC]) <;> exact rfl); all_goals (try simp only [push_cast, seval]); (try rfl))
    rw [decide_eq_false]
    intro h
    rw [h] at hc
    exact hc rfl
  · (intro hc; try simp only [decide_eq_true_eq, decide_eq_false_iff_not, Bool.and_eq_true, Bool.or_eq_true, Bool.not_eq_true, Bool.not_eq_false, Bool.not_eq_true', Bool.not_eq_false', Bool.and_eq_false_iff, Bool.or_eq_false_iff, Int.not_lt, Int.not_le, Int.ofNat_lt, Int.ofNat_le] at hc)
    repeat (first | apply Wp.seq | apply Wp.block | (apply Run.next; (simp only [push_cast, seval] <;> (try simp (disch := omega) only [wI, wU, wC]) <;> exact rfl); (focus ((try simp only [push_cast, seval]) <;> exact sT))) | ((first | apply Run.nil | apply Wp.skip); dsimp only [sQ, tQ, bQ]) | (apply Wp.run; (dsimp only [List.map] <;> exact rfl); exact rfl) | (apply Wp.exit; dsimp only [sQ, tQ, bQ]; simp only [reduceIte]))
    refine Wp.loop (fun k : Nat => { t := [(0, .ints a), (1, .ints b), (5, .int k)], m := [], n := 26 }) (fun k => k ≤ a.length ∧ ∀ j, j < k → a.getD j 0 = b.getD j 0) (fun k => a.length - k) 0 ?_ ?_ ?_
    · (refine Le.of ?_ ?_ rfl rfl <;> (try simp only [push_cast, seval]) <;> (try (with_reducible rfl)))
    · simp
    · rintro k ⟨hk1, hk2⟩
      repeat (first | apply Wp.seq | apply Wp.block | (apply Run.next; (simp only [push_cast, seval] <;> (try simp (disch := omega) only [wI, wU, wC]) <;> exact rfl); (focus ((try simp only [push_cast, seval]) <;> exact sT))) | ((first | apply Run.nil | apply Wp.skip); dsimp only [sQ, tQ, bQ]) | (apply Wp.run; (dsimp only [List.map] <;> exact rfl); exact rfl) | (apply Wp.exit; dsimp only [sQ, tQ, bQ]; simp only [reduceIte]))
      (apply Wp.cond; (simp only [push_cast, seval] <;> (try simp (disch := omega) only [wI, wU, wC]) <;> exact rfl))
      · (intro hc; try simp only [decide_eq_true_eq, decide_eq_false_iff_not, Bool.and_eq_true, Bool.or_eq_true, Bool.not_eq_true, Bool.not_eq_false, Bool.not_eq_true', Bool.not_eq_false', Bool.and_eq_false_iff, Bool.or_eq_false_iff, Int.not_lt, Int.not_le, Int.ofNat_lt, Int.ofNat_le] at hc)
        repeat (first | apply Wp.seq | apply Wp.block | (apply Run.next; (simp only [push_cast, seval] <;> (try simp (disch := omega) only [wI, wU, wC]) <;> exact rfl); (focus ((try simp only [push_cast, seval]) <;> exact sT))) | ((first | apply Run.nil | apply Wp.skip); dsimp only [sQ, tQ, bQ]) | (apply Wp.run; (dsimp only [List.map] <;> exact rfl); exact rfl) | (apply Wp.exit; dsimp only [sQ, tQ, bQ]; simp only [reduceIte]))
        (apply Wp.runD 9 mixed; (dsimp only [List.map] <;> exact rfl); exact rfl; kernel_rfl; (dsimp only [List.take] <;> exact rfl); (dsimp only [List.drop] <;> exact rfl); (((repeat (apply Abn.next; (simp only [push_cast, seval] <;> (try simp (disch := omega) only [wI, wU, wC]) <;> exact rfl); (focus ((try simp only [push_cast, seval]) <;> exact sT))))); exact Abn.nil))
        repeat (first | apply Wp.seq | apply Wp.block | (apply Run.next; (simp only [push_cast, seval] <;> (try simp (disch := omega) only [wI, wU, wC]) <;> exact rfl); (focus ((try simp only [push_cast, seval]) <;> exact sT))) | ((first | apply Run.nil | apply Wp.skip); dsimp only [sQ, tQ, bQ]) | (apply Wp.run; (dsimp only [List.map] <;> exact rfl); exact rfl) | (apply Wp.exit; dsimp only [sQ, tQ, bQ]; simp only [reduceIte]))
        (apply Wp.cond; (simp only [push_cast, seval] <;> (try simp (disch := omega) only [wI, wU, wC]) <;> exact rfl))
        · intro h2
          repeat (first | apply Wp.seq | apply Wp.block | (apply Run.next; (simp only [push_cast, seval] <;> (try simp (disch := omega) only [wI, wU, wC]) <;> exact rfl); (focus ((try simp only [push_cast, seval]) <;> exact sT))) | ((first | apply Run.nil | apply Wp.skip); dsimp only [sQ, tQ, bQ]) | (apply Wp.run; (dsimp only [List.map] <;> exact rfl); exact rfl) | (apply Wp.exit; dsimp only [sQ, tQ, bQ]; simp only [reduceIte]))
          (apply Wp.ret; (try dsimp only [sQ, tQ, bQ]); apply leave0; exact rfl; (simp only [push_cast, seval] <;> (try simp (disch := omega) only [wI, wU, wC]) <;> exact rfl); all_goals (try simp only [push_cast, seval]); (try rfl))
          rw [decide_eq_false]
          intro h
          rw [h] at h2
          simp at h2
        · intro h2
          repeat (first | apply Wp.seq | apply Wp.block | (apply Run.next; (simp only [push_cast, seval] <;> (try simp (disch := omega) only [wI, wU, wC]) <;> exact rfl); (focus ((try simp only [push_cast, seval]) <;> exact sT))) | ((first | apply Run.nil | apply Wp.skip); dsimp only [sQ, tQ, bQ]) | (apply Wp.run; (dsimp only [List.map] <;> exact rfl); exact rfl) | (apply Wp.exit; dsimp only [sQ, tQ, bQ]; simp only [reduceIte]))
          simp only [decide_eq_true_eq, Bool.not_eq_false', decide_eq_false_iff_not] at h2
          refine ⟨k + 1, ?_, ⟨by omega, fun j hj => ?_⟩, by omega⟩
          · (refine Le.of ?_ ?_ rfl rfl <;> (try simp only [push_cast, seval]) <;> (try (with_reducible rfl)))
          · by_cases hjk : j = k
            · subst hjk; exact h2
            · exact hk2 j (by omega)
      · (intro hc; try simp only [decide_eq_true_eq, decide_eq_false_iff_not, Bool.and_eq_true, Bool.or_eq_true, Bool.not_eq_true, Bool.not_eq_false, Bool.not_eq_true', Bool.not_eq_false', Bool.and_eq_false_iff, Bool.or_eq_false_iff, Int.not_lt, Int.not_le, Int.ofNat_lt, Int.ofNat_le] at hc)
        repeat (first | apply Wp.seq | apply Wp.block | (apply Run.next; (simp only [push_cast, seval] <;> (try simp (disch := omega) only [wI, wU, wC]) <;> exact rfl); (focus ((try simp only [push_cast, seval]) <;> exact sT))) | ((first | apply Run.nil | apply Wp.skip); dsimp only [sQ, tQ, bQ]) | (apply Wp.run; (dsimp only [List.map] <;> exact rfl); exact rfl) | (apply Wp.exit; dsimp only [sQ, tQ, bQ]; simp only [reduceIte]))
        (apply Wp.ret; (try dsimp only [sQ, tQ, bQ]); apply leave0; exact rfl; (simp only [push_cast, seval] <;> (try simp (disch := omega) only [wI, wU, wC]) <;> exact rfl); all_goals (try simp only [push_cast, seval]); (try rfl))
        rw [decide_eq_true]
        apply List.ext_getElem
        · omega
        · intro j h3 h4
          have := hk2 j (by omega)
          simpa [h3, h4] using this
end Go.Proofs.Try
namespace Go.Proofs.Try
open Go.Vg

section
variable {σ : Type}
def wghS (f : Int → List Int → σ → σ × List Int) (sides : List Int) (s : σ) : Nat → σ × List Int
  | 0 => (s, sides)
  | j + 1 => f (j - 1 : Int) (wghS f sides s j).2 (wghS f sides s j).1
/-- all weighings, in the order of the code; what is done with each that is even -/
def wgh (go : σ → List Int → Int → σ) : List Int → Nat → Int → Int → List Int → σ → σ × List Int
  | [], _, sum, used, sides, s => if sum = 0 then (go s sides used, sides) else (s, sides)
  | w :: ws, i, sum, used, sides, s => wghS (fun c sides s => wgh go ws (i + 1) (sum + c * w) (used + c * c) (sides.set i c) s) sides s 3
theorem wghS_len {f : Int → List Int → σ → σ × List Int} (hf : ∀ c sides s, (f c sides s).2.length = sides.length) (sides : List Int) (s : σ) (j : Nat) : (wghS f sides s j).2.length = sides.length := by
  induction j with
  | zero => rfl
  | succ j ih => rw [wghS, hf, ih]
theorem wgh_len (go : σ → List Int → Int → σ) : ∀ (ws : List Int) (i : Nat) (sum used : Int) (sides : List Int) (s : σ), (wgh go ws i sum used sides s).2.length = sides.length
  | [], _, _, _, _, _ => by simp only [wgh]; split <;> rfl
  | w :: ws, i, sum, used, sides, s => by
    rw [wgh]; exact wghS_len (fun c sides s => by rw [wgh_len go ws]; simp) _ _ _

def wtail (N yid wid n : Nat) (sides : List Int) : Mem := [⟨0, .row 1 [.yld yid 0]⟩, ⟨0, .row 1 (sides.map AV.int)⟩, ⟨0, .row 1 [.osl (N + 1) 0 0 n]⟩, ⟨0, .row 1 [.clo 69 [.optr wid 0 0 0, .optr N 0 0 0, .optr (N + 2) 0 0 0, .optr (N + 3) 0 0 0]]⟩]

theorem getK {K : σ → Mem} {N : Nat} (hK : ∀ s, (K s).length = N) (s : σ) (l : Mem) (k : Nat) : (K s ++ l)[N + k]? = l[k]? := by
  rw [List.getElem?_append_right (by rw [hK]; omega), hK]; congr 1; omega
theorem getK0 {K : σ → Mem} {N : Nat} (hK : ∀ s, (K s).length = N) (s : σ) (l : Mem) : (K s ++ l)[N]? = l[0]? := getK hK s l 0
theorem setK {K : σ → Mem} {N : Nat} (hK : ∀ s, (K s).length = N) (s : σ) (l : Mem) (k : Nat) (e : Ent) : (K s ++ l).set (N + k) e = K s ++ l.set k e := by
  show List.set (α := Ent) _ _ _ = _
  rw [List.set_append_right _ _ (by rw [hK]; omega), hK]; congr 2; omega
theorem setK0 {K : σ → Mem} {N : Nat} (hK : ∀ s, (K s).length = N) (s : σ) (l : Mem) (e : Ent) : (K s ++ l).set N e = K s ++ l.set 0 e := setK hK s l 0 e
theorem getL {K : σ → Mem} {i : Nat} {e : Ent} (h : ∀ s, (K s)[i]? = some e) (s : σ) (l : Mem) : (K s ++ l)[i]? = some e := by
  rw [List.getElem?_append_left (List.getElem?_eq_some_iff.1 (h s)).1]; exact h s
theorem lenK {K : σ → Mem} {N : Nat} (hK : ∀ s, (K s).length = N) (s : σ) (l : Mem) : (K s ++ l).length = N + l.length := by
  rw [List.length_append, hK]
theorem takeK {K : σ → Mem} {N : Nat} (hK : ∀ s, (K s).length = N) (s : σ) (l : Mem) (k : Nat) : (K s ++ l).take (N + k) = K s ++ l.take k := by
  rw [List.take_append, List.take_of_length_le (by rw [hK]; omega), hK]; congr 2; omega
theorem takeK0 {K : σ → Mem} {N : Nat} (hK : ∀ s, (K s).length = N) (s : σ) (l : Mem) : (K s ++ l).take N = K s := by
  have := takeK hK s l 0; simpa using this

theorem wok (K : σ → Mem) (N yid wid : Nat) (hK : ∀ s, (K s).length = N) (hN : wid < N) (hKok : ∀ s k, N ≤ k → ∀ e ∈ K s, e.kind.ok k) (hyid : yid < N) (s : σ) (sides : List Int) (n : Nat) : ∀ e ∈ (K s ++ wtail N yid wid n sides).take (N + 4), e.kind.ok (N + 4) := by
  rw [takeK hK]
  intro e he
  rcases List.mem_append.1 he with h | h
  · exact hKok s _ (by omega) e h
  · have h2 : ∀ e ∈ wtail N yid wid n sides, e.kind.ok (N + 4) := by
      unfold wtail
      simp only [push_cast, seval]
      omega
    exact h2 e h
variable (K : σ → Mem) (N yid wid : Nat) (hK : ∀ s, (K s).length = N) (hN : wid < N) (ws : List Int) (hw : ∀ s, (K s)[wid]? = some ⟨0, .row 1 [.ints ws]⟩) (hKok : ∀ s k, N ≤ k → ∀ e ∈ K s, e.kind.ok k) (hyid : yid < N)
  (go : σ → List Int → Int → σ)
  (hY : ∀ s sides used, sides.length = ws.length → YSpec Try.prog (.yld yid 0) [.osl (N + 1) 0 0 ws.length, .int used] (K s ++ wtail N yid wid ws.length sides) fun x m' => x = .bool true ∧ m' = K (go s sides used) ++ wtail N yid wid ws.length sides)
  (hws : bnd 10000 ws) (hn : ws.length ≤ 10)
include hK hN hw hKok hyid hY hws hn
set_option maxHeartbeats 4000000 in
theorem weigh98 : ∀ (rest pre : List Int) (hpr : ws = pre ++ rest) (p : Nat) (hp : pre.length = p) (i : Int) (hi : i = p) (sum used : Int) (sides : List Int) (s : σ) (hsl : sides.length = ws.length) (hs1 : -(100000 + 10000 * i) ≤ sum ∧ sum ≤ 100000 + 10000 * i) (hs2 : 0 ≤ used ∧ used ≤ i),
    Go.Vg.Spec Try.prog 69 [.int i, .int sum, .int used, .optr wid 0 0 0, .optr N 0 0 0, .optr (N + 2) 0 0 0, .optr (N + 3) 0 0 0] (K s ++ wtail N yid wid ws.length sides)
      fun x m' => x = .bool true ∧ m' = K (wgh go rest p sum used sides s).1 ++ wtail N yid wid ws.length (wgh go rest p sum used sides s).2 := by
  intro rest
  induction rest with
  | nil =>
    intro pre hpr p hp i hi sum used sides s hsl hs1 hs2
    have hpl : ws.length = pre.length := by rw [hpr]; simp
    unfold wtail
    (refine Spec.of_body Try.func69 rfl (by rw [Try.ntmps69]; simp) (N + 4) (by rw [lenK hK]; simp) ?_; rw [Try.results69, Try.ntmps69]; simp only [entry, zipArgs, Nat.reduceAdd])
    repeat (first | apply Wp.seq | apply Wp.block | (apply Run.next; (simp only [push_cast, seval, getK hK, getK0 hK, setK hK, setK0 hK, getL hw, lenK hK, hK, List.append_assoc, takeK hK, takeK0 hK] <;> (try simp (disch := omega) only [wI, wU, wC]) <;> exact rfl); (focus ((try simp only [push_cast, seval, getK hK, getK0 hK, setK hK, setK0 hK, getL hw, lenK hK, hK, List.append_assoc, takeK hK, takeK0 hK]) <;> exact sT))) | ((first | apply Run.nil | apply Wp.skip); dsimp only [sQ, tQ, bQ]) | (apply Wp.run; (dsimp only [List.map] <;> exact rfl); exact rfl) | (apply Wp.exit; dsimp only [sQ, tQ, bQ]; simp only [reduceIte]))
    (apply Wp.cond; (simp only [push_cast, seval, getK hK, getK0 hK, setK hK, setK0 hK, getL hw, lenK hK, hK, List.append_assoc, takeK hK, takeK0 hK] <;> (try simp (disch := omega) only [wI, wU, wC]) <;> exact rfl))
    · (intro hc; try simp only [decide_eq_true_eq, decide_eq_false_iff_not, Bool.and_eq_true, Bool.or_eq_true, Bool.not_eq_true, Bool.not_eq_false, Bool.not_eq_true', Bool.not_eq_false', Bool.and_eq_false_iff, Bool.or_eq_false_iff, Int.not_lt, Int.not_le, Int.ofNat_lt, Int.ofNat_le] at hc)
      by_cases h0 : sum = 0
      · subst h0
        repeat (first | apply Wp.seq | apply Wp.block | (apply Run.next; (simp only [push_cast, seval, getK hK, getK0 hK, setK hK, setK0 hK, getL hw, lenK hK, hK, List.append_assoc, takeK hK, takeK0 hK] <;> (try simp (disch := omega) only [wI, wU, wC]) <;> exact rfl); (focus ((try simp only [push_cast, seval, getK hK, getK0 hK, setK hK, setK0 hK, getL hw, lenK hK, hK, List.append_assoc, takeK hK, takeK0 hK]) <;> exact sT))) | ((first | apply Run.nil | apply Wp.skip); dsimp only [sQ, tQ, bQ]) | (apply Wp.run; (dsimp only [List.map] <;> exact rfl); exact rfl) | (apply Wp.exit; dsimp only [sQ, tQ, bQ]; simp only [reduceIte]))
        (try (apply Run.gtrue; (simp only [push_cast, seval, getK hK, getK0 hK, setK hK, setK0 hK, getL hw, lenK hK, hK, List.append_assoc, takeK hK, takeK0 hK] <;> (try simp (disch := omega) only [wI, wU, wC]) <;> exact rfl); (simp only [push_cast, seval, getK hK, getK0 hK, setK hK, setK0 hK, getL hw, lenK hK, hK, List.append_assoc, takeK hK, takeK0 hK] <;> (try simp (disch := omega) only [wI, wU, wC]) <;> exact rfl)))
        (apply Run.ycall; exact rfl; (simp only [push_cast, seval, getK hK, getK0 hK, setK hK, setK0 hK, getL hw, lenK hK, hK, List.append_assoc, takeK hK, takeK0 hK] <;> (try simp (disch := omega) only [wI, wU, wC]) <;> exact rfl); (simp only [push_cast, seval, getK hK, getK0 hK, setK hK, setK0 hK, getL hw, lenK hK, hK, List.append_assoc, takeK hK, takeK0 hK] <;> (try simp (disch := omega) only [wI, wU, wC]) <;> exact rfl); (exact hY s sides used hsl); (rintro _ _ ⟨rfl, rfl⟩; dsimp only [S.put, optG]))
        repeat (first | apply Wp.seq | apply Wp.block | (apply Run.next; (simp only [push_cast, seval, getK hK, getK0 hK, setK hK, setK0 hK, getL hw, lenK hK, hK, List.append_assoc, takeK hK, takeK0 hK] <;> (try simp (disch := omega) only [wI, wU, wC]) <;> exact rfl); (focus ((try simp only [push_cast, seval, getK hK, getK0 hK, setK hK, setK0 hK, getL hw, lenK hK, hK, List.append_assoc, takeK hK, takeK0 hK]) <;> exact sT))) | ((first | apply Run.nil | apply Wp.skip); dsimp only [sQ, tQ, bQ]) | (apply Wp.run; (dsimp only [List.map] <;> exact rfl); exact rfl) | (apply Wp.exit; dsimp only [sQ, tQ, bQ]; simp only [reduceIte]))
        (apply Wp.ret; (try dsimp only [sQ, tQ, bQ]); apply leaveK; exact rfl; (simp only [push_cast, seval, getK hK, getK0 hK, setK hK, setK0 hK, getL hw, lenK hK, hK, List.append_assoc, takeK hK, takeK0 hK] <;> (try simp (disch := omega) only [wI, wU, wC]) <;> exact rfl); (focus (first | (simp only [push_cast, seval, getK hK, getK0 hK, setK hK, setK0 hK, getL hw, lenK hK, hK, List.append_assoc, takeK hK, takeK0 hK]; done) | trivial | (simp only [push_cast, seval, getK hK, getK0 hK, setK hK, setK0 hK, getL hw, lenK hK, hK, List.append_assoc, takeK hK, takeK0 hK]; trivial) | (simp; done))); (focus (first | (simp only [push_cast, seval, getK hK, getK0 hK, setK hK, setK0 hK, getL hw, lenK hK, hK, List.append_assoc, takeK hK, takeK0 hK]; done) | trivial | (simp only [push_cast, seval, getK hK, getK0 hK, setK hK, setK0 hK, getL hw, lenK hK, hK, List.append_assoc, takeK hK, takeK0 hK]; trivial) | (simp; done))); (exact wok K N yid wid hK hN hKok hyid _ _ _); (try simp only [push_cast, seval, getK hK, getK0 hK, setK hK, setK0 hK, getL hw, lenK hK, hK, List.append_assoc, takeK hK, takeK0 hK]))
        simp [wgh, wtail]
      · repeat (first | apply Wp.seq | apply Wp.block | (apply Run.next; (simp only [push_cast, seval, getK hK, getK0 hK, setK hK, setK0 hK, getL hw, lenK hK, hK, List.append_assoc, takeK hK, takeK0 hK, h0] <;> (try simp (disch := omega) only [wI, wU, wC]) <;> exact rfl); (focus ((try simp only [push_cast, seval, getK hK, getK0 hK, setK hK, setK0 hK, getL hw, lenK hK, hK, List.append_assoc, takeK hK, takeK0 hK, h0]) <;> exact sT))) | ((first | apply Run.nil | apply Wp.skip); dsimp only [sQ, tQ, bQ]) | (apply Wp.run; (dsimp only [List.map] <;> exact rfl); exact rfl) | (apply Wp.exit; dsimp only [sQ, tQ, bQ]; simp only [reduceIte]))
        (try (apply Run.gfalse (.bool false); (simp only [push_cast, seval, getK hK, getK0 hK, setK hK, setK0 hK, getL hw, lenK hK, hK, List.append_assoc, takeK hK, takeK0 hK, h0] <;> (try simp (disch := omega) only [wI, wU, wC]) <;> exact rfl); dsimp only [S.put, optG]))
        repeat (first | apply Wp.seq | apply Wp.block | (apply Run.next; (simp only [push_cast, seval, getK hK, getK0 hK, setK hK, setK0 hK, getL hw, lenK hK, hK, List.append_assoc, takeK hK, takeK0 hK, h0] <;> (try simp (disch := omega) only [wI, wU, wC]) <;> exact rfl); (focus ((try simp only [push_cast, seval, getK hK, getK0 hK, setK hK, setK0 hK, getL hw, lenK hK, hK, List.append_assoc, takeK hK, takeK0 hK, h0]) <;> exact sT))) | ((first | apply Run.nil | apply Wp.skip); dsimp only [sQ, tQ, bQ]) | (apply Wp.run; (dsimp only [List.map] <;> exact rfl); exact rfl) | (apply Wp.exit; dsimp only [sQ, tQ, bQ]; simp only [reduceIte]))
        (apply Wp.ret; (try dsimp only [sQ, tQ, bQ]); apply leaveK; exact rfl; (simp only [push_cast, seval, getK hK, getK0 hK, setK hK, setK0 hK, getL hw, lenK hK, hK, List.append_assoc, takeK hK, takeK0 hK, h0] <;> (try simp (disch := omega) only [wI, wU, wC]) <;> exact rfl); (focus (first | (simp only [push_cast, seval, getK hK, getK0 hK, setK hK, setK0 hK, getL hw, lenK hK, hK, List.append_assoc, takeK hK, takeK0 hK, h0]; done) | trivial | (simp only [push_cast, seval, getK hK, getK0 hK, setK hK, setK0 hK, getL hw, lenK hK, hK, List.append_assoc, takeK hK, takeK0 hK, h0]; trivial) | (simp; done))); (focus (first | (simp only [push_cast, seval, getK hK, getK0 hK, setK hK, setK0 hK, getL hw, lenK hK, hK, List.append_assoc, takeK hK, takeK0 hK, h0]; done) | trivial | (simp only [push_cast, seval, getK hK, getK0 hK, setK hK, setK0 hK, getL hw, lenK hK, hK, List.append_assoc, takeK hK, takeK0 hK, h0]; trivial) | (simp; done))); (exact wok K N yid wid hK hN hKok hyid _ _ _); (try simp only [push_cast, seval, getK hK, getK0 hK, setK hK, setK0 hK, getL hw, lenK hK, hK, List.append_assoc, takeK hK, takeK0 hK, h0]))
        simp [wgh, h0]
    · (intro hc; try simp only [decide_eq_true_eq, decide_eq_false_iff_not, Bool.and_eq_true, Bool.or_eq_true, Bool.not_eq_true, Bool.not_eq_false, Bool.not_eq_true', Bool.not_eq_false', Bool.and_eq_false_iff, Bool.or_eq_false_iff, Int.not_lt, Int.not_le, Int.ofNat_lt, Int.ofNat_le] at hc)
      omega
  | cons w rest ih =>
    intro pre hpr p hp i hi sum used sides s hsl hs1 hs2
    subst hi
    have hpl : ws.length = pre.length + (rest.length + 1) := by rw [hpr]; simp
    have hwi : ws.getD p 0 = w := by rw [hpr, ← hp]; simp
    have hwb := hws w (by rw [hpr]; simp)
    unfold wtail
    (refine Spec.of_body Try.func69 rfl (by rw [Try.ntmps69]; simp) (N + 4) (by rw [lenK hK]; simp) ?_; rw [Try.results69, Try.ntmps69]; simp only [entry, zipArgs, Nat.reduceAdd])
    repeat (first | apply Wp.seq | apply Wp.block | (apply Run.next; (simp only [push_cast, seval, getK hK, getK0 hK, setK hK, setK0 hK, getL hw, lenK hK, hK, List.append_assoc, takeK hK, takeK0 hK] <;> (try simp (disch := omega) only [wI, wU, wC]) <;> exact rfl); (focus ((try simp only [push_cast, seval, getK hK, getK0 hK, setK hK, setK0 hK, getL hw, lenK hK, hK, List.append_assoc, takeK hK, takeK0 hK]) <;> exact sT))) | ((first | apply Run.nil | apply Wp.skip); dsimp only [sQ, tQ, bQ]) | (apply Wp.run; (dsimp only [List.map] <;> exact rfl); exact rfl) | (apply Wp.exit; dsimp only [sQ, tQ, bQ]; simp only [reduceIte]))
    (apply Wp.cond; (simp only [push_cast, seval, getK hK, getK0 hK, setK hK, setK0 hK, getL hw, lenK hK, hK, List.append_assoc, takeK hK, takeK0 hK] <;> (try simp (disch := omega) only [wI, wU, wC]) <;> exact rfl))
    · (intro hc; try simp only [decide_eq_true_eq, decide_eq_false_iff_not, Bool.and_eq_true, Bool.or_eq_true, Bool.not_eq_true, Bool.not_eq_false, Bool.not_eq_true', Bool.not_eq_false', Bool.and_eq_false_iff, Bool.or_eq_false_iff, Int.not_lt, Int.not_le, Int.ofNat_lt, Int.ofNat_le] at hc)
      omega
    · (intro hc; try simp only [decide_eq_true_eq, decide_eq_false_iff_not, Bool.and_eq_true, Bool.or_eq_true, Bool.not_eq_true, Bool.not_eq_false, Bool.not_eq_true', Bool.not_eq_false', Bool.and_eq_false_iff, Bool.or_eq_false_iff, Int.not_lt, Int.not_le, Int.ofNat_lt, Int.ofNat_le] at hc)
      repeat (first | apply Wp.seq | apply Wp.block | (apply Run.next; (simp only [push_cast, seval, getK hK, getK0 hK, setK hK, setK0 hK, getL hw, lenK hK, hK, List.append_assoc, takeK hK, takeK0 hK] <;> (try simp (disch := omega) only [wI, wU, wC]) <;> exact rfl); (focus ((try simp only [push_cast, seval, getK hK, getK0 hK, setK hK, setK0 hK, getL hw, lenK hK, hK, List.append_assoc, takeK hK, takeK0 hK]) <;> exact sT))) | ((first | apply Run.nil | apply Wp.skip); dsimp only [sQ, tQ, bQ]) | (apply Wp.run; (dsimp only [List.map] <;> exact rfl); exact rfl) | (apply Wp.exit; dsimp only [sQ, tQ, bQ]; simp only [reduceIte]))
      obtain ⟨f, hf⟩ : ∃ f : Int → List Int → σ → σ × List Int, f = fun c sides s => wgh go rest (p + 1) (sum + c * w) (used + c * c) (sides.set p c) s := ⟨_, rfl⟩
      have hfl : ∀ j, (wghS f sides s j).2.length = sides.length := fun j => wghS_len (fun c sides s => by rw [hf, wgh_len]; simp) _ _ _
      refine Wp.loop (fun j : Nat => { t := [(0, .int p), (1, .int sum), (2, .int used), (3, .optr wid 0 0 0), (4, .optr N 0 0 0), (5, .optr (N + 2) 0 0 0), (6, .optr (N + 3) 0 0 0), (11, .int (j - 1))], m := K (wghS f sides s j).1 ++ [⟨0, .row 1 [.yld yid 0]⟩, ⟨0, .row 1 ((wghS f sides s j).2.map AV.int)⟩, ⟨0, .row 1 [.osl (N + 1) 0 0 ws.length]⟩, ⟨0, .row 1 [.clo 69 [.optr wid 0 0 0, .optr N 0 0 0, .optr (N + 2) 0 0 0, .optr (N + 3) 0 0 0]]⟩], n := 50 }) (fun j => j ≤ 3) (fun j => 3 - j) 0 ?_ ?_ ?_
      · (refine Le.of ?_ ?_ rfl rfl <;> (try simp only [push_cast, seval, getK hK, getK0 hK, setK hK, setK0 hK, getL hw, lenK hK, hK, List.append_assoc, takeK hK, takeK0 hK, hwi]) <;> (try (with_reducible rfl)))
        all_goals rfl
      · omega
      · intro j hj
        have hjl := hfl j
        repeat (first | apply Wp.seq | apply Wp.block | (apply Run.next; (simp only [push_cast, seval, getK hK, getK0 hK, setK hK, setK0 hK, getL hw, lenK hK, hK, List.append_assoc, takeK hK, takeK0 hK, hwi] <;> (try simp (disch := omega) only [wI, wU, wC]) <;> exact rfl); (focus ((try simp only [push_cast, seval, getK hK, getK0 hK, setK hK, setK0 hK, getL hw, lenK hK, hK, List.append_assoc, takeK hK, takeK0 hK, hwi]) <;> exact sT))) | ((first | apply Run.nil | apply Wp.skip); dsimp only [sQ, tQ, bQ]) | (apply Wp.run; (dsimp only [List.map] <;> exact rfl); exact rfl) | (apply Wp.exit; dsimp only [sQ, tQ, bQ]; simp only [reduceIte]))
        (apply Wp.cond; (simp only [push_cast, seval, getK hK, getK0 hK, setK hK, setK0 hK, getL hw, lenK hK, hK, List.append_assoc, takeK hK, takeK0 hK, hwi] <;> (try simp (disch := omega) only [wI, wU, wC]) <;> exact rfl))
        · (intro hc; try simp only [decide_eq_true_eq, decide_eq_false_iff_not, Bool.and_eq_true, Bool.or_eq_true, Bool.not_eq_true, Bool.not_eq_false, Bool.not_eq_true', Bool.not_eq_false', Bool.and_eq_false_iff, Bool.or_eq_false_iff, Int.not_lt, Int.not_le, Int.ofNat_lt, Int.ofNat_le] at hc)
          have hcw : -10000 ≤ ((j : Int) - 1) * w ∧ ((j : Int) - 1) * w ≤ 10000 := by
            obtain rfl | rfl | rfl : j = 0 ∨ j = 1 ∨ j = 2 := by omega
            all_goals (simp; try omega)
          have hcc : 0 ≤ ((j : Int) - 1) * ((j : Int) - 1) ∧ ((j : Int) - 1) * ((j : Int) - 1) ≤ 1 := by
            obtain rfl | rfl | rfl : j = 0 ∨ j = 1 ∨ j = 2 := by omega
            all_goals simp
          repeat (first | apply Wp.seq | apply Wp.block | (apply Run.next; (simp only [push_cast, seval, getK hK, getK0 hK, setK hK, setK0 hK, getL hw, lenK hK, hK, List.append_assoc, takeK hK, takeK0 hK, hwi] <;> (try simp (disch := omega) only [wI, wU, wC]) <;> exact rfl); (focus ((try simp only [push_cast, seval, getK hK, getK0 hK, setK hK, setK0 hK, getL hw, lenK hK, hK, List.append_assoc, takeK hK, takeK0 hK, hwi]) <;> exact sT))) | ((first | apply Run.nil | apply Wp.skip); dsimp only [sQ, tQ, bQ]) | (apply Wp.run; (dsimp only [List.map] <;> exact rfl); exact rfl) | (apply Wp.exit; dsimp only [sQ, tQ, bQ]; simp only [reduceIte]))
          (apply Wp.runD 16 mixed; (dsimp only [List.map] <;> exact rfl); exact rfl; kernel_rfl; (dsimp only [List.take] <;> exact rfl); (dsimp only [List.drop] <;> exact rfl); (((repeat (apply Abn.next; (simp only [push_cast, seval, getK hK, getK0 hK, setK hK, setK0 hK, getL hw, lenK hK, hK, List.append_assoc, takeK hK, takeK0 hK, hwi] <;> (try simp (disch := omega) only [wI, wU, wC]) <;> exact rfl); (focus ((try simp only [push_cast, seval, getK hK, getK0 hK, setK hK, setK0 hK, getL hw, lenK hK, hK, List.append_assoc, takeK hK, takeK0 hK, hwi]) <;> exact sT))))); exact Abn.nil))
          (apply Run.spec (he := (Enters.of Try.func69 rfl rfl)); exact rfl; (simp only [push_cast, seval, getK hK, getK0 hK, setK hK, setK0 hK, getL hw, lenK hK, hK, List.append_assoc, takeK hK, takeK0 hK, hwi] <;> first | exact rfl | assumption); (simp only [push_cast, seval, getK hK, getK0 hK, setK hK, setK0 hK, getL hw, lenK hK, hK, List.append_assoc, takeK hK, takeK0 hK, hwi] <;> (try simp (disch := omega) only [wI, wU, wC]) <;> exact rfl); (exact ih (pre ++ [w]) (by rw [hpr]; simp) (p + 1) (by simp [hp]) (p + 1) (by simp) (sum + (j - 1) * w) (used + (j - 1) * (j - 1)) ((wghS f sides s j).2.set p (j - 1)) (wghS f sides s j).1 (by rw [List.length_set, hjl, hsl]) (by omega) (by omega)); (rintro _ _ ⟨rfl, rfl⟩; dsimp only [S.put, optG]))
          repeat (first | apply Wp.seq | apply Wp.block | (apply Run.next; (simp only [push_cast, seval, getK hK, getK0 hK, setK hK, setK0 hK, getL hw, lenK hK, hK, List.append_assoc, takeK hK, takeK0 hK, hwi] <;> (try simp (disch := omega) only [wI, wU, wC]) <;> exact rfl); (focus ((try simp only [push_cast, seval, getK hK, getK0 hK, setK hK, setK0 hK, getL hw, lenK hK, hK, List.append_assoc, takeK hK, takeK0 hK, hwi]) <;> exact sT))) | ((first | apply Run.nil | apply Wp.skip); dsimp only [sQ, tQ, bQ]) | (apply Wp.run; (dsimp only [List.map] <;> exact rfl); exact rfl) | (apply Wp.exit; dsimp only [sQ, tQ, bQ]; simp only [reduceIte]))
          (apply Wp.cond; (simp only [push_cast, seval, getK hK, getK0 hK, setK hK, setK0 hK, getL hw, lenK hK, hK, List.append_assoc, takeK hK, takeK0 hK, hwi] <;> (try simp (disch := omega) only [wI, wU, wC]) <;> exact rfl))
          · (intro hc; try simp only [decide_eq_true_eq, decide_eq_false_iff_not, Bool.and_eq_true, Bool.or_eq_true, Bool.not_eq_true, Bool.not_eq_false, Bool.not_eq_true', Bool.not_eq_false', Bool.and_eq_false_iff, Bool.or_eq_false_iff, Int.not_lt, Int.not_le, Int.ofNat_lt, Int.ofNat_le] at hc)
            cases hc
          · intro h2
            repeat (first | apply Wp.seq | apply Wp.block | (apply Run.next; (simp only [push_cast, seval, getK hK, getK0 hK, setK hK, setK0 hK, getL hw, lenK hK, hK, List.append_assoc, takeK hK, takeK0 hK, hwi] <;> (try simp (disch := omega) only [wI, wU, wC]) <;> exact rfl); (focus ((try simp only [push_cast, seval, getK hK, getK0 hK, setK hK, setK0 hK, getL hw, lenK hK, hK, List.append_assoc, takeK hK, takeK0 hK, hwi]) <;> exact sT))) | ((first | apply Run.nil | apply Wp.skip); dsimp only [sQ, tQ, bQ]) | (apply Wp.run; (dsimp only [List.map] <;> exact rfl); exact rfl) | (apply Wp.exit; dsimp only [sQ, tQ, bQ]; simp only [reduceIte]))
            refine ⟨j + 1, ?_, by omega, by omega⟩
            (refine Le.of ?_ ?_ rfl rfl <;> (try simp only [push_cast, seval, getK hK, getK0 hK, setK hK, setK0 hK, getL hw, lenK hK, hK, List.append_assoc, takeK hK, takeK0 hK, hwi]) <;> (try (with_reducible rfl)))
            · rw [wghS, hf]; rfl
            · congr 2; omega
        · (intro hc; try simp only [decide_eq_true_eq, decide_eq_false_iff_not, Bool.and_eq_true, Bool.or_eq_true, Bool.not_eq_true, Bool.not_eq_false, Bool.not_eq_true', Bool.not_eq_false', Bool.and_eq_false_iff, Bool.or_eq_false_iff, Int.not_lt, Int.not_le, Int.ofNat_lt, Int.ofNat_le] at hc)
          obtain rfl : j = 3 := by omega
          repeat (first | apply Wp.seq | apply Wp.block | (apply Run.next; (simp only [push_cast, seval, getK hK, getK0 hK, setK hK, setK0 hK, getL hw, lenK hK, hK, List.append_assoc, takeK hK, takeK0 hK, hwi] <;> (try simp (disch := omega) only [wI, wU, wC]) <;> exact rfl); (focus ((try simp only [push_cast, seval, getK hK, getK0 hK, setK hK, setK0 hK, getL hw, lenK hK, hK, List.append_assoc, takeK hK, takeK0 hK, hwi]) <;> exact sT))) | ((first | apply Run.nil | apply Wp.skip); dsimp only [sQ, tQ, bQ]) | (apply Wp.run; (dsimp only [List.map] <;> exact rfl); exact rfl) | (apply Wp.exit; dsimp only [sQ, tQ, bQ]; simp only [reduceIte]))
          (apply Wp.ret; (try dsimp only [sQ, tQ, bQ]); apply leaveK; exact rfl; (simp only [push_cast, seval, getK hK, getK0 hK, setK hK, setK0 hK, getL hw, lenK hK, hK, List.append_assoc, takeK hK, takeK0 hK, hwi] <;> (try simp (disch := omega) only [wI, wU, wC]) <;> exact rfl); (focus (first | (simp only [push_cast, seval, getK hK, getK0 hK, setK hK, setK0 hK, getL hw, lenK hK, hK, List.append_assoc, takeK hK, takeK0 hK, hwi]; done) | trivial | (simp only [push_cast, seval, getK hK, getK0 hK, setK hK, setK0 hK, getL hw, lenK hK, hK, List.append_assoc, takeK hK, takeK0 hK, hwi]; trivial) | (simp; done))); (focus (first | (simp only [push_cast, seval, getK hK, getK0 hK, setK hK, setK0 hK, getL hw, lenK hK, hK, List.append_assoc, takeK hK, takeK0 hK, hwi]; done) | trivial | (simp only [push_cast, seval, getK hK, getK0 hK, setK hK, setK0 hK, getL hw, lenK hK, hK, List.append_assoc, takeK hK, takeK0 hK, hwi]; trivial) | (simp; done))); (exact wok K N yid wid hK hN hKok hyid _ _ _); (try simp only [push_cast, seval, getK hK, getK0 hK, setK hK, setK0 hK, getL hw, lenK hK, hK, List.append_assoc, takeK hK, takeK0 hK, hwi]))
          rw [wgh, hf]

theorem weigh97 (lid : Nat) (load : Int) (hl : ∀ s, (K s)[lid]? = some ⟨0, .row 1 [.int load]⟩) (hld : -100000 ≤ load ∧ load ≤ 100000) (s : σ) :
    Go.Vg.Spec Try.prog 68 [.yld yid 0, .optr wid 0 0 0, .optr lid 0 0 0] (K s) fun _ m' => m' = K (wgh go ws 0 (0 - load) 0 (List.replicate ws.length 0) s).1 := by
  (refine Spec.of_body Try.func68 rfl (by rw [Try.ntmps68]; simp) N (by rw [hK]; simp) ?_; rw [Try.results68, Try.ntmps68]; simp only [entry, zipArgs, Nat.reduceAdd])
  repeat (first | apply Wp.seq | apply Wp.block | (apply Run.next; (simp only [push_cast, seval, getK hK, getK0 hK, setK hK, setK0 hK, getL hw, getL hl, lenK hK, hK, List.append_assoc, takeK hK, takeK0 hK, hw, hl] <;> (try simp (disch := omega) only [wI, wU, wC]) <;> exact rfl); (focus ((try simp only [push_cast, seval, getK hK, getK0 hK, setK hK, setK0 hK, getL hw, getL hl, lenK hK, hK, List.append_assoc, takeK hK, takeK0 hK, hw, hl]) <;> exact sT))) | ((first | apply Run.nil | apply Wp.skip); dsimp only [sQ, tQ, bQ]) | (apply Wp.run; (dsimp only [List.map] <;> exact rfl); exact rfl) | (apply Wp.exit; dsimp only [sQ, tQ, bQ]; simp only [reduceIte]))
  (apply Run.spec (he := (Enters.of Try.func69 rfl rfl)); exact rfl; (simp only [push_cast, seval, getK hK, getK0 hK, setK hK, setK0 hK, getL hw, getL hl, lenK hK, hK, List.append_assoc, takeK hK, takeK0 hK, hw, hl] <;> first | exact rfl | assumption); (simp only [push_cast, seval, getK hK, getK0 hK, setK hK, setK0 hK, getL hw, getL hl, lenK hK, hK, List.append_assoc, takeK hK, takeK0 hK, hw, hl] <;> (try simp (disch := omega) only [wI, wU, wC]) <;> exact rfl); (exact weigh98 K N yid wid hK hN ws hw hKok hyid go hY hws hn ws [] rfl 0 rfl 0 rfl (0 - load) 0 (List.replicate ws.length 0) s (by simp) (by omega) (by omega)); (rintro _ _ ⟨rfl, rfl⟩; dsimp only [S.put, optG]))
  repeat (first | apply Wp.seq | apply Wp.block | (apply Run.next; (simp only [push_cast, seval, getK hK, getK0 hK, setK hK, setK0 hK, getL hw, getL hl, lenK hK, hK, List.append_assoc, takeK hK, takeK0 hK, hw, hl] <;> (try simp (disch := omega) only [wI, wU, wC]) <;> exact rfl); (focus ((try simp only [push_cast, seval, getK hK, getK0 hK, setK hK, setK0 hK, getL hw, getL hl, lenK hK, hK, List.append_assoc, takeK hK, takeK0 hK, hw, hl]) <;> exact sT))) | ((first | apply Run.nil | apply Wp.skip); dsimp only [sQ, tQ, bQ]) | (apply Wp.run; (dsimp only [List.map] <;> exact rfl); exact rfl) | (apply Wp.exit; dsimp only [sQ, tQ, bQ]; simp only [reduceIte]))
  apply Run.nil
  apply leaveN; exact rfl; (simp only [push_cast, seval, getK hK, getK0 hK, setK hK, setK0 hK, getL hw, getL hl, lenK hK, hK, List.append_assoc, takeK hK, takeK0 hK, hw, hl] <;> (try simp (disch := omega) only [wI, wU, wC]) <;> exact rfl); (focus (first | (simp only [push_cast, seval, getK hK, getK0 hK, setK hK, setK0 hK, getL hw, getL hl, lenK hK, hK, List.append_assoc, takeK hK, takeK0 hK, hw, hl]; done) | trivial | (simp only [push_cast, seval, getK hK, getK0 hK, setK hK, setK0 hK, getL hw, getL hl, lenK hK, hK, List.append_assoc, takeK hK, takeK0 hK, hw, hl]; trivial) | (simp; done))); (focus (first | (simp only [push_cast, seval, getK hK, getK0 hK, setK hK, setK0 hK, getL hw, getL hl, lenK hK, hK, List.append_assoc, takeK hK, takeK0 hK, hw, hl]; done) | trivial | (simp only [push_cast, seval, getK hK, getK0 hK, setK hK, setK0 hK, getL hw, getL hl, lenK hK, hK, List.append_assoc, takeK hK, takeK0 hK, hw, hl]; trivial) | (simp; done)))
  · rw [takeK0 hK]; exact hKok _ _ (Nat.le_refl _)
  · rw [takeK0 hK]
end
end Go.Proofs.Try
