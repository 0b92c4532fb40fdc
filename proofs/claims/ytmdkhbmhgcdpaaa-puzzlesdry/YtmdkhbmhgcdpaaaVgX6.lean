/- A part of the proof of PuzzlesDry: contracts of functions, with plain laws that they need. -/
import Derived.Test.YtmdkhbmhgcdpaaaVgX5
set_option linter.all false
set_option linter.unusedVariables false
set_option linter.unusedSimpArgs false
namespace Go.Proofs.Try
open Go.Vg

theorem foldl_min_le (l : List Int) (a : Int) : l.foldl min a ≤ a ∧ ∀ x ∈ l, l.foldl min a ≤ x := by
  induction l generalizing a with
  | nil => simp
  | cons y l ih =>
    have := ih (min a y)
    simp only [List.foldl_cons, List.mem_cons, forall_eq_or_imp]
    exact ⟨by omega, by omega, this.2⟩
theorem foldl_max_ge (l : List Int) (a : Int) : a ≤ l.foldl max a ∧ ∀ x ∈ l, x ≤ l.foldl max a := by
  induction l generalizing a with
  | nil => simp
  | cons y l ih =>
    have := ih (max a y)
    simp only [List.foldl_cons, List.mem_cons, forall_eq_or_imp]
    exact ⟨by omega, by omega, this.2⟩
theorem foldl_same (l : List Int) (a : Int) (h : ∀ x ∈ l, x = a) : l.foldl min a = a ∧ l.foldl max a = a := by
  induction l with
  | nil => simp
  | cons y l ih =>
    have e : y = a := h y (by simp)
    subst e
    simp only [List.foldl_cons, Int.min_self, Int.max_self]
    exact ih fun x hx => h x (by simp [hx])
theorem min_max (l : List Int) : decide (lmin l = lmax l) = allSame l := by
  rw [Bool.eq_iff_iff, decide_eq_true_iff]
  unfold allSame lmin lmax
  simp only [List.all_eq_true, decide_eq_true_eq]
  constructor
  · intro h x hx
    have h1 := foldl_min_le l (l.getD 0 0)
    have h2 := foldl_max_ge l (l.getD 0 0)
    have h3 := h1.2 x hx
    have h4 := h2.2 x hx
    omega
  · intro h
    have := foldl_same l (l.getD 0 0) h
    omega

theorem any_not {l : List Int} {p : Int → Bool} : (l.any fun x => !p x) = !l.all p := by
  simp [List.all_eq_not_any_not]

theorem follow_dn (n : Nat) : ∀ l : List Int, follow (n + 1) l = follow n l + lastI (dn (n + 1) l) := by
  induction n with
  | zero => intro l; simp [follow, dn]
  | succ n ih =>
    intro l
    rw [follow, ih (diffs l), dn_diffs, follow]
    omega
def sumTo : Nat → List Int → Int
  | 0, _ => 0
  | n + 1, l => sumTo n l + lastI (dn n l)
theorem sumTo_follow (n : Nat) (l : List Int) : sumTo (n + 1) l = follow n l := by
  induction n with
  | zero => simp [sumTo, follow, dn]
  | succ n ih => rw [sumTo, ih, follow_dn]
theorem sumTo_bnd {l : List Int} (hb : bnd 10000 l) (n : Nat) (h1 : n ≤ 20) (h2 : n ≤ l.length) : -(10485760000 * n) ≤ sumTo n l ∧ sumTo n l ≤ 10485760000 * n := by
  induction n with
  | zero => simp [sumTo]
  | succ n ih =>
    have h3 := bnd_last (bnd_dn10 hb (n := n) (by omega)) (by rw [dn_len]; omega)
    have := ih (by omega) (by omega)
    simp only [sumTo]
    omega

theorem take_getD (r : List Int) (k j : Nat) (h : j < k) : (r.take k).getD j 0 = r.getD j 0 := by
  simp [List.getElem?_take, h]

theorem getD_set_same (l : List Int) (i : Nat) (x : Int) (h : i < l.length) : (l.set i x).getD i 0 = x := by simp [h]
theorem getD_set_ne (l : List Int) (i j : Nat) (x : Int) (h : j ≠ i) : (l.set i x).getD j 0 = l.getD j 0 := by simp [List.getElem?_set_ne (Ne.symm h)]

theorem next_pure (l : List Int) : Pure Try.prog 15 [.ints l] (.tup [.int (nextV l).1, .int (nextV l).2.1, .int (nextV l).2.2]) := by
  (refine Spec.of_body Try.func15 rfl (by rw [Try.ntmps15]; simp) 0 (by simp) ?_; rw [Try.results15, Try.ntmps15]; simp only [entry, zipArgs, Nat.reduceAdd])
  apply Wp.len 0; (simp only [push_cast, reduceIte, Nat.reduceEqDiff, Nat.reduceAdd, Nat.reduceSub, Nat.reduceMul, Nat.reduceLT, Nat.reduceLeDiff, reduceCtorEq, Int.reduceToNat] <;> (try simp (disch := omega) only [wrap_i64, wrap_u8, Int.add_sub_cancel]) <;> exact rfl)
  intro hlen
  simp only [List.length_map] at hlen
  repeat (first | apply Wp.seq | apply Wp.block | (apply Run.next; (simp only [push_cast, reduceIte, Nat.reduceEqDiff, Nat.reduceAdd, Nat.reduceSub, Nat.reduceMul, Nat.reduceLT, Nat.reduceLeDiff, reduceCtorEq, Int.reduceToNat] <;> (try simp (disch := omega) only [wrap_i64, wrap_u8, Int.add_sub_cancel]) <;> exact rfl); (focus ((try simp only [push_cast, reduceIte, Nat.reduceEqDiff, Nat.reduceAdd, Nat.reduceSub, Nat.reduceMul, Nat.reduceLT, Nat.reduceLeDiff, reduceCtorEq, Int.reduceToNat]) <;> (first | trivial | omega | (intro hg; (try simp only [hg, eq_self, true_and, and_true]); first | omega | (refine ⟨?_, ?_⟩ <;> omega)) | (refine ⟨?_, ?_⟩ <;> omega) | (intro h; simpa using h) | (intros; simp_all; done) | (intros; simp_all; omega))))) | (apply Run.nil; dsimp only [seqS, thenS, blockS]) | (apply Wp.run; (dsimp only [List.map] <;> exact rfl); (exact rfl)) | (apply Wp.skip; dsimp only [seqS, thenS, blockS]) | (apply Wp.exit; dsimp only [seqS, thenS, blockS]; simp only [reduceIte]))
  (apply Run.pureP; (simp only [push_cast, reduceIte, Nat.reduceEqDiff, Nat.reduceAdd, Nat.reduceSub, Nat.reduceMul, Nat.reduceLT, Nat.reduceLeDiff, reduceCtorEq, Int.reduceToNat] <;> (try simp (disch := omega) only [wrap_i64, wrap_u8, Int.add_sub_cancel]) <;> exact rfl); (exact (Enters.of Try.func50 rfl rfl)); (exact within_pure _ _ _); (focus (simp only [push_cast, reduceIte, Nat.reduceEqDiff, Nat.reduceAdd, Nat.reduceSub, Nat.reduceMul, Nat.reduceLT, Nat.reduceLeDiff, reduceCtorEq, Int.reduceToNat] <;> first | trivial | assumption | (refine ⟨?_, ?_⟩ <;> assumption) | (simp; done))); (try dsimp only [putA, optG]))
  repeat (first | apply Wp.seq | apply Wp.block | (apply Run.next; (simp only [push_cast, reduceIte, Nat.reduceEqDiff, Nat.reduceAdd, Nat.reduceSub, Nat.reduceMul, Nat.reduceLT, Nat.reduceLeDiff, reduceCtorEq, Int.reduceToNat] <;> (try simp (disch := omega) only [wrap_i64, wrap_u8, Int.add_sub_cancel]) <;> exact rfl); (focus ((try simp only [push_cast, reduceIte, Nat.reduceEqDiff, Nat.reduceAdd, Nat.reduceSub, Nat.reduceMul, Nat.reduceLT, Nat.reduceLeDiff, reduceCtorEq, Int.reduceToNat]) <;> (first | trivial | omega | (intro hg; (try simp only [hg, eq_self, true_and, and_true]); first | omega | (refine ⟨?_, ?_⟩ <;> omega)) | (refine ⟨?_, ?_⟩ <;> omega) | (intro h; simpa using h) | (intros; simp_all; done) | (intros; simp_all; omega))))) | (apply Run.nil; dsimp only [seqS, thenS, blockS]) | (apply Wp.run; (dsimp only [List.map] <;> exact rfl); (exact rfl)) | (apply Wp.skip; dsimp only [seqS, thenS, blockS]) | (apply Wp.exit; dsimp only [seqS, thenS, blockS]; simp only [reduceIte]))
  (apply Run.pureP; (simp only [push_cast, reduceIte, Nat.reduceEqDiff, Nat.reduceAdd, Nat.reduceSub, Nat.reduceMul, Nat.reduceLT, Nat.reduceLeDiff, reduceCtorEq, Int.reduceToNat] <;> (try simp (disch := omega) only [wrap_i64, wrap_u8, Int.add_sub_cancel]) <;> exact rfl); (exact (Enters.of Try.func51 rfl rfl)); (exact containsFunc_pure l 52 [] _ (Enters.of Try.func52 rfl rfl) trivial (fun _ => ⟨rfl, rfl⟩) (fun x _ => next1_pure x) hlen); (focus (simp only [push_cast, reduceIte, Nat.reduceEqDiff, Nat.reduceAdd, Nat.reduceSub, Nat.reduceMul, Nat.reduceLT, Nat.reduceLeDiff, reduceCtorEq, Int.reduceToNat] <;> first | trivial | assumption | (refine ⟨?_, ?_⟩ <;> assumption) | (simp; done))); (try dsimp only [putA, optG]))
  repeat (first | apply Wp.seq | apply Wp.block | (apply Run.next; (simp only [push_cast, reduceIte, Nat.reduceEqDiff, Nat.reduceAdd, Nat.reduceSub, Nat.reduceMul, Nat.reduceLT, Nat.reduceLeDiff, reduceCtorEq, Int.reduceToNat] <;> (try simp (disch := omega) only [wrap_i64, wrap_u8, Int.add_sub_cancel]) <;> exact rfl); (focus ((try simp only [push_cast, reduceIte, Nat.reduceEqDiff, Nat.reduceAdd, Nat.reduceSub, Nat.reduceMul, Nat.reduceLT, Nat.reduceLeDiff, reduceCtorEq, Int.reduceToNat]) <;> (first | trivial | omega | (intro hg; (try simp only [hg, eq_self, true_and, and_true]); first | omega | (refine ⟨?_, ?_⟩ <;> omega)) | (refine ⟨?_, ?_⟩ <;> omega) | (intro h; simpa using h) | (intros; simp_all; done) | (intros; simp_all; omega))))) | (apply Run.nil; dsimp only [seqS, thenS, blockS]) | (apply Wp.run; (dsimp only [List.map] <;> exact rfl); (exact rfl)) | (apply Wp.skip; dsimp only [seqS, thenS, blockS]) | (apply Wp.exit; dsimp only [seqS, thenS, blockS]; simp only [reduceIte]))
  (apply Wp.cond; (simp only [push_cast, reduceIte, Nat.reduceEqDiff, Nat.reduceAdd, Nat.reduceSub, Nat.reduceMul, Nat.reduceLT, Nat.reduceLeDiff, reduceCtorEq, Int.reduceToNat] <;> (try simp (disch := omega) only [wrap_i64, wrap_u8, Int.add_sub_cancel]) <;> exact rfl))
  · intro hc
    repeat (first | apply Wp.seq | apply Wp.block | (apply Run.next; (simp only [push_cast, reduceIte, Nat.reduceEqDiff, Nat.reduceAdd, Nat.reduceSub, Nat.reduceMul, Nat.reduceLT, Nat.reduceLeDiff, reduceCtorEq, Int.reduceToNat] <;> (try simp (disch := omega) only [wrap_i64, wrap_u8, Int.add_sub_cancel]) <;> exact rfl); (focus ((try simp only [push_cast, reduceIte, Nat.reduceEqDiff, Nat.reduceAdd, Nat.reduceSub, Nat.reduceMul, Nat.reduceLT, Nat.reduceLeDiff, reduceCtorEq, Int.reduceToNat]) <;> (first | trivial | omega | (intro hg; (try simp only [hg, eq_self, true_and, and_true]); first | omega | (refine ⟨?_, ?_⟩ <;> omega)) | (refine ⟨?_, ?_⟩ <;> omega) | (intro h; simpa using h) | (intros; simp_all; done) | (intros; simp_all; omega))))) | (apply Run.nil; dsimp only [seqS, thenS, blockS]) | (apply Wp.run; (dsimp only [List.map] <;> exact rfl); (exact rfl)) | (apply Wp.skip; dsimp only [seqS, thenS, blockS]) | (apply Wp.exit; dsimp only [seqS, thenS, blockS]; simp only [reduceIte]))
    (apply Wp.ret; (try dsimp only [seqS, thenS, blockS]); apply leave0; (exact rfl); (simp only [push_cast, reduceIte, Nat.reduceEqDiff, Nat.reduceAdd, Nat.reduceSub, Nat.reduceMul, Nat.reduceLT, Nat.reduceLeDiff, reduceCtorEq, Int.reduceToNat] <;> (try simp (disch := omega) only [wrap_i64, wrap_u8, Int.add_sub_cancel]) <;> exact rfl); all_goals (try simp only [push_cast, reduceIte, Nat.reduceEqDiff, Nat.reduceAdd, Nat.reduceSub, Nat.reduceMul, Nat.reduceLT, Nat.reduceLeDiff, reduceCtorEq, Int.reduceToNat]); (try rfl))
    have hin : inRange l = false := by
      rw [any_not, ← Bool.not_and, Bool.not_eq_true'] at hc
      exact hc
    simp [nextV, hin]
  · intro hc
    have hin : inRange l = true := by
      rw [any_not, ← Bool.not_and, Bool.not_eq_false'] at hc
      exact hc
    obtain ⟨hb, hl1, hl2⟩ := bnd10 hin
    repeat (first | apply Wp.seq | apply Wp.block | (apply Run.next; (simp only [push_cast, reduceIte, Nat.reduceEqDiff, Nat.reduceAdd, Nat.reduceSub, Nat.reduceMul, Nat.reduceLT, Nat.reduceLeDiff, reduceCtorEq, Int.reduceToNat] <;> (try simp (disch := omega) only [wrap_i64, wrap_u8, Int.add_sub_cancel]) <;> exact rfl); (focus ((try simp only [push_cast, reduceIte, Nat.reduceEqDiff, Nat.reduceAdd, Nat.reduceSub, Nat.reduceMul, Nat.reduceLT, Nat.reduceLeDiff, reduceCtorEq, Int.reduceToNat]) <;> (first | trivial | omega | (intro hg; (try simp only [hg, eq_self, true_and, and_true]); first | omega | (refine ⟨?_, ?_⟩ <;> omega)) | (refine ⟨?_, ?_⟩ <;> omega) | (intro h; simpa using h) | (intros; simp_all; done) | (intros; simp_all; omega))))) | (apply Run.nil; dsimp only [seqS, thenS, blockS]) | (apply Wp.run; (dsimp only [List.map] <;> exact rfl); (exact rfl)) | (apply Wp.skip; dsimp only [seqS, thenS, blockS]) | (apply Wp.exit; dsimp only [seqS, thenS, blockS]; simp only [reduceIte]))
    (apply Run.freshV (he := (Enters.of Try.func53 rfl rfl)); (simp only [push_cast, reduceIte, Nat.reduceEqDiff, Nat.reduceAdd, Nat.reduceSub, Nat.reduceMul, Nat.reduceLT, Nat.reduceLeDiff, reduceCtorEq, Int.reduceToNat] <;> first | exact rfl | assumption); (simp only [push_cast, reduceIte, Nat.reduceEqDiff, Nat.reduceAdd, Nat.reduceSub, Nat.reduceMul, Nat.reduceLT, Nat.reduceLeDiff, reduceCtorEq, Int.reduceToNat] <;> (try simp (disch := omega) only [wrap_i64, wrap_u8, Int.add_sub_cancel]) <;> exact rfl); (exact clone_spec l (by omega)); (focus (first | (simp only [push_cast, reduceIte, Nat.reduceEqDiff, Nat.reduceAdd, Nat.reduceSub, Nat.reduceMul, Nat.reduceLT, Nat.reduceLeDiff, reduceCtorEq, Int.reduceToNat]; done) | trivial | (simp only [push_cast, reduceIte, Nat.reduceEqDiff, Nat.reduceAdd, Nat.reduceSub, Nat.reduceMul, Nat.reduceLT, Nat.reduceLeDiff, reduceCtorEq, Int.reduceToNat]; trivial) | (simp; done) | (intro x hx; simp only [List.mem_cons, List.not_mem_nil, or_false] at hx; rcases hx with rfl | rfl <;> first | exact .inl trivial | exact .inr ⟨_, _, _, _, rfl⟩))); (focus (first | (simp only [push_cast, reduceIte, Nat.reduceEqDiff, Nat.reduceAdd, Nat.reduceSub, Nat.reduceMul, Nat.reduceLT, Nat.reduceLeDiff, reduceCtorEq, Int.reduceToNat]; done) | trivial | (simp only [push_cast, reduceIte, Nat.reduceEqDiff, Nat.reduceAdd, Nat.reduceSub, Nat.reduceMul, Nat.reduceLT, Nat.reduceLeDiff, reduceCtorEq, Int.reduceToNat]; trivial) | (simp; done) | (intro x hx; simp only [List.mem_cons, List.not_mem_nil, or_false] at hx; rcases hx with rfl | rfl <;> first | exact .inl trivial | exact .inr ⟨_, _, _, _, rfl⟩))); (focus (first | (simp only [push_cast, reduceIte, Nat.reduceEqDiff, Nat.reduceAdd, Nat.reduceSub, Nat.reduceMul, Nat.reduceLT, Nat.reduceLeDiff, reduceCtorEq, Int.reduceToNat]; done) | trivial | (simp only [push_cast, reduceIte, Nat.reduceEqDiff, Nat.reduceAdd, Nat.reduceSub, Nat.reduceMul, Nat.reduceLT, Nat.reduceLeDiff, reduceCtorEq, Int.reduceToNat]; trivial) | (simp; done) | (intro x hx; simp only [List.mem_cons, List.not_mem_nil, or_false] at hx; rcases hx with rfl | rfl <;> first | exact .inl trivial | exact .inr ⟨_, _, _, _, rfl⟩))); (dsimp only [S.put, optG]; try dsimp only [AV.shift, List.length_nil, List.length_cons, List.nil_append, List.cons_append, Nat.zero_add, Nat.add_zero, Nat.reduceAdd]))
    repeat (first | apply Wp.seq | apply Wp.block | (apply Run.next; (simp only [push_cast, reduceIte, Nat.reduceEqDiff, Nat.reduceAdd, Nat.reduceSub, Nat.reduceMul, Nat.reduceLT, Nat.reduceLeDiff, reduceCtorEq, Int.reduceToNat] <;> (try simp (disch := omega) only [wrap_i64, wrap_u8, Int.add_sub_cancel]) <;> exact rfl); (focus ((try simp only [push_cast, reduceIte, Nat.reduceEqDiff, Nat.reduceAdd, Nat.reduceSub, Nat.reduceMul, Nat.reduceLT, Nat.reduceLeDiff, reduceCtorEq, Int.reduceToNat]) <;> (first | trivial | omega | (intro hg; (try simp only [hg, eq_self, true_and, and_true]); first | omega | (refine ⟨?_, ?_⟩ <;> omega)) | (refine ⟨?_, ?_⟩ <;> omega) | (intro h; simpa using h) | (intros; simp_all; done) | (intros; simp_all; omega))))) | (apply Run.nil; dsimp only [seqS, thenS, blockS]) | (apply Wp.run; (dsimp only [List.map] <;> exact rfl); (exact rfl)) | (apply Wp.skip; dsimp only [seqS, thenS, blockS]) | (apply Wp.exit; dsimp only [seqS, thenS, blockS]; simp only [reduceIte]))
    refine Wp.loop (fun (q : Nat × List Int) => { t := [(0, .ints l), (2, .int (sumTo q.1 l)), (3, .int q.1), (5, .osl 0 0 0 (l.length - q.1))], m := [⟨0, .row 1 (q.2.map AV.int)⟩], n := 62 })
      (fun q => q.1 < l.length ∧ q.2.length = l.length ∧ q.2.take (l.length - q.1) = dn q.1 l ∧ ∀ j, j < q.1 → allSame (dn j l) = false) (fun q => l.length - q.1) (0, l) ?_ ?_ ?_
    · (refine Le.of ?_ ?_ rfl rfl <;> (try simp only [push_cast, reduceIte, Nat.reduceEqDiff, Nat.reduceAdd, Nat.reduceSub, Nat.reduceMul, Nat.reduceLT, Nat.reduceLeDiff, reduceCtorEq, Int.reduceToNat]) <;> (try (with_reducible rfl)))
      exact ⟨rfl, rfl⟩
    · exact ⟨by simp; omega, rfl, by simp [dn], fun j hj => by simp at hj⟩
    · rintro ⟨n, r⟩ ⟨hn1, hr1, hr2, hn2⟩
      simp only at hn1 hr1 hr2 hn2 ⊢
      have hbn := bnd_dn10 hb (n := n) (by omega)
      have hsum := sumTo_bnd hb n (by omega) (by omega)
      have hln := dn_len n l
      have hle : l.length - n ≤ r.length := by omega
      repeat (first | apply Wp.seq | apply Wp.block | (apply Run.next; (simp only [push_cast, reduceIte, Nat.reduceEqDiff, Nat.reduceAdd, Nat.reduceSub, Nat.reduceMul, Nat.reduceLT, Nat.reduceLeDiff, reduceCtorEq, Int.reduceToNat, hle] <;> (try simp (disch := omega) only [wrap_i64, wrap_u8, Int.add_sub_cancel]) <;> exact rfl); (focus ((try simp only [push_cast, reduceIte, Nat.reduceEqDiff, Nat.reduceAdd, Nat.reduceSub, Nat.reduceMul, Nat.reduceLT, Nat.reduceLeDiff, reduceCtorEq, Int.reduceToNat, hle]) <;> (first | trivial | omega | (intro hg; (try simp only [hg, eq_self, true_and, and_true]); first | omega | (refine ⟨?_, ?_⟩ <;> omega)) | (refine ⟨?_, ?_⟩ <;> omega) | (intro h; simpa using h) | (intros; simp_all; done) | (intros; simp_all; omega))))) | (apply Run.nil; dsimp only [seqS, thenS, blockS]) | (apply Wp.run; (dsimp only [List.map] <;> exact rfl); (exact rfl)) | (apply Wp.skip; dsimp only [seqS, thenS, blockS]) | (apply Wp.exit; dsimp only [seqS, thenS, blockS]; simp only [reduceIte]))
      (apply Wp.cond; (simp only [push_cast, reduceIte, Nat.reduceEqDiff, Nat.reduceAdd, Nat.reduceSub, Nat.reduceMul, Nat.reduceLT, Nat.reduceLeDiff, reduceCtorEq, Int.reduceToNat, hle] <;> (try simp (disch := omega) only [wrap_i64, wrap_u8, Int.add_sub_cancel]) <;> exact rfl))
      · (intro hc; try simp only [decide_eq_true_eq, decide_eq_false_iff_not, Bool.and_eq_true, Bool.or_eq_true, Bool.not_eq_true, Bool.not_eq_false, Bool.not_eq_true', Bool.not_eq_false', Bool.and_eq_false_iff, Bool.or_eq_false_iff, Int.not_lt, Int.not_le, Int.ofNat_lt, Int.ofNat_le] at hc)
        have hlast : r.getD (l.length - n - 1) 0 = lastI (dn n l) := by
          unfold lastI
          rw [hln, ← hr2, take_getD _ _ _ (by omega)]
        have hlb := bnd_last hbn (by omega)
        have hne : r.take (l.length - n) ≠ [] := by
          intro h
          rw [hr2] at h
          rw [h] at hln
          simp only [List.length_nil] at hln
          omega
        repeat (first | apply Wp.seq | apply Wp.block | (apply Run.next; (simp only [push_cast, reduceIte, Nat.reduceEqDiff, Nat.reduceAdd, Nat.reduceSub, Nat.reduceMul, Nat.reduceLT, Nat.reduceLeDiff, reduceCtorEq, Int.reduceToNat, hle] <;> (try simp (disch := omega) only [wrap_i64, wrap_u8, Int.add_sub_cancel]) <;> exact rfl); (focus ((try simp only [push_cast, reduceIte, Nat.reduceEqDiff, Nat.reduceAdd, Nat.reduceSub, Nat.reduceMul, Nat.reduceLT, Nat.reduceLeDiff, reduceCtorEq, Int.reduceToNat, hle]) <;> (first | trivial | omega | (intro hg; (try simp only [hg, eq_self, true_and, and_true]); first | omega | (refine ⟨?_, ?_⟩ <;> omega)) | (refine ⟨?_, ?_⟩ <;> omega) | (intro h; simpa using h) | (intros; simp_all; done) | (intros; simp_all; omega))))) | (apply Run.nil; dsimp only [seqS, thenS, blockS]) | (apply Wp.run; (dsimp only [List.map] <;> exact rfl); (exact rfl)) | (apply Wp.skip; dsimp only [seqS, thenS, blockS]) | (apply Wp.exit; dsimp only [seqS, thenS, blockS]; simp only [reduceIte]))
        (apply Run.pureP; (simp only [push_cast, reduceIte, Nat.reduceEqDiff, Nat.reduceAdd, Nat.reduceSub, Nat.reduceMul, Nat.reduceLT, Nat.reduceLeDiff, reduceCtorEq, Int.reduceToNat, hle] <;> (try simp (disch := omega) only [wrap_i64, wrap_u8, Int.add_sub_cancel]) <;> exact rfl); (exact (Enters.of Try.func54 rfl rfl)); (exact min_pure (r.take (l.length - n)) hne (by rw [List.length_take]; omega)); (focus (simp only [push_cast, reduceIte, Nat.reduceEqDiff, Nat.reduceAdd, Nat.reduceSub, Nat.reduceMul, Nat.reduceLT, Nat.reduceLeDiff, reduceCtorEq, Int.reduceToNat, hle] <;> first | trivial | assumption | (refine ⟨?_, ?_⟩ <;> assumption) | (simp; done))); (try dsimp only [putA, optG]))
        repeat (first | apply Wp.seq | apply Wp.block | (apply Run.next; (simp only [push_cast, reduceIte, Nat.reduceEqDiff, Nat.reduceAdd, Nat.reduceSub, Nat.reduceMul, Nat.reduceLT, Nat.reduceLeDiff, reduceCtorEq, Int.reduceToNat, hle] <;> (try simp (disch := omega) only [wrap_i64, wrap_u8, Int.add_sub_cancel]) <;> exact rfl); (focus ((try simp only [push_cast, reduceIte, Nat.reduceEqDiff, Nat.reduceAdd, Nat.reduceSub, Nat.reduceMul, Nat.reduceLT, Nat.reduceLeDiff, reduceCtorEq, Int.reduceToNat, hle]) <;> (first | trivial | omega | (intro hg; (try simp only [hg, eq_self, true_and, and_true]); first | omega | (refine ⟨?_, ?_⟩ <;> omega)) | (refine ⟨?_, ?_⟩ <;> omega) | (intro h; simpa using h) | (intros; simp_all; done) | (intros; simp_all; omega))))) | (apply Run.nil; dsimp only [seqS, thenS, blockS]) | (apply Wp.run; (dsimp only [List.map] <;> exact rfl); (exact rfl)) | (apply Wp.skip; dsimp only [seqS, thenS, blockS]) | (apply Wp.exit; dsimp only [seqS, thenS, blockS]; simp only [reduceIte]))
        (apply Run.pureP; (simp only [push_cast, reduceIte, Nat.reduceEqDiff, Nat.reduceAdd, Nat.reduceSub, Nat.reduceMul, Nat.reduceLT, Nat.reduceLeDiff, reduceCtorEq, Int.reduceToNat, hle] <;> (try simp (disch := omega) only [wrap_i64, wrap_u8, Int.add_sub_cancel]) <;> exact rfl); (exact (Enters.of Try.func55 rfl rfl)); (exact max_pure (r.take (l.length - n)) hne (by rw [List.length_take]; omega)); (focus (simp only [push_cast, reduceIte, Nat.reduceEqDiff, Nat.reduceAdd, Nat.reduceSub, Nat.reduceMul, Nat.reduceLT, Nat.reduceLeDiff, reduceCtorEq, Int.reduceToNat, hle] <;> first | trivial | assumption | (refine ⟨?_, ?_⟩ <;> assumption) | (simp; done))); (try dsimp only [putA, optG]))
        repeat (first | apply Wp.seq | apply Wp.block | (apply Run.next; (simp only [push_cast, reduceIte, Nat.reduceEqDiff, Nat.reduceAdd, Nat.reduceSub, Nat.reduceMul, Nat.reduceLT, Nat.reduceLeDiff, reduceCtorEq, Int.reduceToNat, hle] <;> (try simp (disch := omega) only [wrap_i64, wrap_u8, Int.add_sub_cancel]) <;> exact rfl); (focus ((try simp only [push_cast, reduceIte, Nat.reduceEqDiff, Nat.reduceAdd, Nat.reduceSub, Nat.reduceMul, Nat.reduceLT, Nat.reduceLeDiff, reduceCtorEq, Int.reduceToNat, hle]) <;> (first | trivial | omega | (intro hg; (try simp only [hg, eq_self, true_and, and_true]); first | omega | (refine ⟨?_, ?_⟩ <;> omega)) | (refine ⟨?_, ?_⟩ <;> omega) | (intro h; simpa using h) | (intros; simp_all; done) | (intros; simp_all; omega))))) | (apply Run.nil; dsimp only [seqS, thenS, blockS]) | (apply Wp.run; (dsimp only [List.map] <;> exact rfl); (exact rfl)) | (apply Wp.skip; dsimp only [seqS, thenS, blockS]) | (apply Wp.exit; dsimp only [seqS, thenS, blockS]; simp only [reduceIte]))
        (apply Wp.cond; (simp only [push_cast, reduceIte, Nat.reduceEqDiff, Nat.reduceAdd, Nat.reduceSub, Nat.reduceMul, Nat.reduceLT, Nat.reduceLeDiff, reduceCtorEq, Int.reduceToNat, hle] <;> (try simp (disch := omega) only [wrap_i64, wrap_u8, Int.add_sub_cancel]) <;> exact rfl))
        · intro h2
          rw [min_max, hr2] at h2
          repeat (first | apply Wp.seq | apply Wp.block | (apply Run.next; (simp only [push_cast, reduceIte, Nat.reduceEqDiff, Nat.reduceAdd, Nat.reduceSub, Nat.reduceMul, Nat.reduceLT, Nat.reduceLeDiff, reduceCtorEq, Int.reduceToNat, hle] <;> (try simp (disch := omega) only [wrap_i64, wrap_u8, Int.add_sub_cancel]) <;> exact rfl); (focus ((try simp only [push_cast, reduceIte, Nat.reduceEqDiff, Nat.reduceAdd, Nat.reduceSub, Nat.reduceMul, Nat.reduceLT, Nat.reduceLeDiff, reduceCtorEq, Int.reduceToNat, hle]) <;> (first | trivial | omega | (intro hg; (try simp only [hg, eq_self, true_and, and_true]); first | omega | (refine ⟨?_, ?_⟩ <;> omega)) | (refine ⟨?_, ?_⟩ <;> omega) | (intro h; simpa using h) | (intros; simp_all; done) | (intros; simp_all; omega))))) | (apply Run.nil; dsimp only [seqS, thenS, blockS]) | (apply Wp.run; (dsimp only [List.map] <;> exact rfl); (exact rfl)) | (apply Wp.skip; dsimp only [seqS, thenS, blockS]) | (apply Wp.exit; dsimp only [seqS, thenS, blockS]; simp only [reduceIte]))
          (apply Wp.ret; (try dsimp only [seqS, thenS, blockS]); apply leave0; (exact rfl); (simp only [push_cast, reduceIte, Nat.reduceEqDiff, Nat.reduceAdd, Nat.reduceSub, Nat.reduceMul, Nat.reduceLT, Nat.reduceLeDiff, reduceCtorEq, Int.reduceToNat, hle] <;> (try simp (disch := omega) only [wrap_i64, wrap_u8, Int.add_sub_cancel]) <;> exact rfl); all_goals (try simp only [push_cast, reduceIte, Nat.reduceEqDiff, Nat.reduceAdd, Nat.reduceSub, Nat.reduceMul, Nat.reduceLT, Nat.reduceLeDiff, reduceCtorEq, Int.reduceToNat, hle]); (try rfl))
          rw [hlast]
          simp [nextV, hin, degOf_some (by omega) h2 hn2, ← sumTo_follow, sumTo]
        · intro h2
          rw [min_max, hr2] at h2
          repeat (first | apply Wp.seq | apply Wp.block | (apply Run.next; (simp only [push_cast, reduceIte, Nat.reduceEqDiff, Nat.reduceAdd, Nat.reduceSub, Nat.reduceMul, Nat.reduceLT, Nat.reduceLeDiff, reduceCtorEq, Int.reduceToNat, hle] <;> (try simp (disch := omega) only [wrap_i64, wrap_u8, Int.add_sub_cancel]) <;> exact rfl); (focus ((try simp only [push_cast, reduceIte, Nat.reduceEqDiff, Nat.reduceAdd, Nat.reduceSub, Nat.reduceMul, Nat.reduceLT, Nat.reduceLeDiff, reduceCtorEq, Int.reduceToNat, hle]) <;> (first | trivial | omega | (intro hg; (try simp only [hg, eq_self, true_and, and_true]); first | omega | (refine ⟨?_, ?_⟩ <;> omega)) | (refine ⟨?_, ?_⟩ <;> omega) | (intro h; simpa using h) | (intros; simp_all; done) | (intros; simp_all; omega))))) | (apply Run.nil; dsimp only [seqS, thenS, blockS]) | (apply Wp.run; (dsimp only [List.map] <;> exact rfl); (exact rfl)) | (apply Wp.skip; dsimp only [seqS, thenS, blockS]) | (apply Wp.exit; dsimp only [seqS, thenS, blockS]; simp only [reduceIte]))
          refine Wp.loop (fun (q : Nat × List Int) => { t := [(0, .ints l), (2, .int (sumTo (n + 1) l)), (3, .int n), (5, .osl 0 0 0 (l.length - n)), (39, .int (l.length - n - 1 : Nat)), (40, .int q.1)], m := [⟨0, .row 1 (q.2.map AV.int)⟩], n := 62 })
            (fun q => q.1 ≤ l.length - n - 1 ∧ q.2.length = l.length ∧ (∀ j, j < q.1 → q.2.getD j 0 = (dn (n + 1) l).getD j 0) ∧ ∀ j, q.1 ≤ j → j < l.length - n → q.2.getD j 0 = (dn n l).getD j 0) (fun q => l.length - q.1) (0, r) ?_ ?_ ?_
          · (refine Le.of ?_ ?_ rfl rfl <;> (try simp only [push_cast, reduceIte, Nat.reduceEqDiff, Nat.reduceAdd, Nat.reduceSub, Nat.reduceMul, Nat.reduceLT, Nat.reduceLeDiff, reduceCtorEq, Int.reduceToNat, hle]) <;> (try (with_reducible rfl)))
            refine ⟨?_, ?_⟩
            · rw [hlast]; rfl
            · congr 2; omega
          · refine ⟨by simp, hr1, fun j hj => by simp at hj, fun j _ hj => ?_⟩
            rw [← hr2, take_getD _ _ _ hj]
          · rintro ⟨i, r'⟩ ⟨hi1, hi2, hi3, hi4⟩
            simp only at hi1 hi2 hi3 hi4 ⊢
            have hdl := dn_len (n + 1) l
            repeat (first | apply Wp.seq | apply Wp.block | (apply Run.next; (simp only [push_cast, reduceIte, Nat.reduceEqDiff, Nat.reduceAdd, Nat.reduceSub, Nat.reduceMul, Nat.reduceLT, Nat.reduceLeDiff, reduceCtorEq, Int.reduceToNat, hle] <;> (try simp (disch := omega) only [wrap_i64, wrap_u8, Int.add_sub_cancel]) <;> exact rfl); (focus ((try simp only [push_cast, reduceIte, Nat.reduceEqDiff, Nat.reduceAdd, Nat.reduceSub, Nat.reduceMul, Nat.reduceLT, Nat.reduceLeDiff, reduceCtorEq, Int.reduceToNat, hle]) <;> (first | trivial | omega | (intro hg; (try simp only [hg, eq_self, true_and, and_true]); first | omega | (refine ⟨?_, ?_⟩ <;> omega)) | (refine ⟨?_, ?_⟩ <;> omega) | (intro h; simpa using h) | (intros; simp_all; done) | (intros; simp_all; omega))))) | (apply Run.nil; dsimp only [seqS, thenS, blockS]) | (apply Wp.run; (dsimp only [List.map] <;> exact rfl); (exact rfl)) | (apply Wp.skip; dsimp only [seqS, thenS, blockS]) | (apply Wp.exit; dsimp only [seqS, thenS, blockS]; simp only [reduceIte]))
            (apply Wp.cond; (simp only [push_cast, reduceIte, Nat.reduceEqDiff, Nat.reduceAdd, Nat.reduceSub, Nat.reduceMul, Nat.reduceLT, Nat.reduceLeDiff, reduceCtorEq, Int.reduceToNat, hle] <;> (try simp (disch := omega) only [wrap_i64, wrap_u8, Int.add_sub_cancel]) <;> exact rfl))
            · (intro hc; try simp only [decide_eq_true_eq, decide_eq_false_iff_not, Bool.and_eq_true, Bool.or_eq_true, Bool.not_eq_true, Bool.not_eq_false, Bool.not_eq_true', Bool.not_eq_false', Bool.and_eq_false_iff, Bool.or_eq_false_iff, Int.not_lt, Int.not_le, Int.ofNat_lt, Int.ofNat_le] at hc)
              have e1 := hi4 i (by omega) (by omega)
              have e2 := hi4 (i + 1) (by omega) (by omega)
              have b1 := hbn _ (mem_getD (l := dn n l) (k := i) (by omega))
              have b2 := hbn _ (mem_getD (l := dn n l) (k := i + 1) (by omega))
              repeat (first | apply Wp.seq | apply Wp.block | (apply Run.next; (simp only [push_cast, reduceIte, Nat.reduceEqDiff, Nat.reduceAdd, Nat.reduceSub, Nat.reduceMul, Nat.reduceLT, Nat.reduceLeDiff, reduceCtorEq, Int.reduceToNat, hle] <;> (try simp (disch := omega) only [wrap_i64, wrap_u8, Int.add_sub_cancel]) <;> exact rfl); (focus ((try simp only [push_cast, reduceIte, Nat.reduceEqDiff, Nat.reduceAdd, Nat.reduceSub, Nat.reduceMul, Nat.reduceLT, Nat.reduceLeDiff, reduceCtorEq, Int.reduceToNat, hle]) <;> (first | trivial | omega | (intro hg; (try simp only [hg, eq_self, true_and, and_true]); first | omega | (refine ⟨?_, ?_⟩ <;> omega)) | (refine ⟨?_, ?_⟩ <;> omega) | (intro h; simpa using h) | (intros; simp_all; done) | (intros; simp_all; omega))))) | (apply Run.nil; dsimp only [seqS, thenS, blockS]) | (apply Wp.run; (dsimp only [List.map] <;> exact rfl); (exact rfl)) | (apply Wp.skip; dsimp only [seqS, thenS, blockS]) | (apply Wp.exit; dsimp only [seqS, thenS, blockS]; simp only [reduceIte]))
              (apply Wp.runD 12 mixed; (dsimp only [List.map] <;> exact rfl); (exact rfl); (kernel_rfl); (dsimp only [List.take] <;> exact rfl); (dsimp only [List.drop] <;> exact rfl); (((repeat (apply Abn.next; (simp only [push_cast, reduceIte, Nat.reduceEqDiff, Nat.reduceAdd, Nat.reduceSub, Nat.reduceMul, Nat.reduceLT, Nat.reduceLeDiff, reduceCtorEq, Int.reduceToNat, hle] <;> (try simp (disch := omega) only [wrap_i64, wrap_u8, Int.add_sub_cancel]) <;> exact rfl); (focus ((try simp only [push_cast, reduceIte, Nat.reduceEqDiff, Nat.reduceAdd, Nat.reduceSub, Nat.reduceMul, Nat.reduceLT, Nat.reduceLeDiff, reduceCtorEq, Int.reduceToNat, hle]) <;> (first | trivial | omega | (intro hg; (try simp only [hg, eq_self, true_and, and_true]); first | omega | (refine ⟨?_, ?_⟩ <;> omega)) | (refine ⟨?_, ?_⟩ <;> omega) | (intro h; simpa using h) | (intros; simp_all; done) | (intros; simp_all; omega))))))); exact Abn.nil))
              repeat (first | apply Wp.seq | apply Wp.block | (apply Run.next; (simp only [push_cast, reduceIte, Nat.reduceEqDiff, Nat.reduceAdd, Nat.reduceSub, Nat.reduceMul, Nat.reduceLT, Nat.reduceLeDiff, reduceCtorEq, Int.reduceToNat, hle] <;> (try simp (disch := omega) only [wrap_i64, wrap_u8, Int.add_sub_cancel]) <;> exact rfl); (focus ((try simp only [push_cast, reduceIte, Nat.reduceEqDiff, Nat.reduceAdd, Nat.reduceSub, Nat.reduceMul, Nat.reduceLT, Nat.reduceLeDiff, reduceCtorEq, Int.reduceToNat, hle]) <;> (first | trivial | omega | (intro hg; (try simp only [hg, eq_self, true_and, and_true]); first | omega | (refine ⟨?_, ?_⟩ <;> omega)) | (refine ⟨?_, ?_⟩ <;> omega) | (intro h; simpa using h) | (intros; simp_all; done) | (intros; simp_all; omega))))) | (apply Run.nil; dsimp only [seqS, thenS, blockS]) | (apply Wp.run; (dsimp only [List.map] <;> exact rfl); (exact rfl)) | (apply Wp.skip; dsimp only [seqS, thenS, blockS]) | (apply Wp.exit; dsimp only [seqS, thenS, blockS]; simp only [reduceIte]))
              refine ⟨(i + 1, r'.set i ((dn (n + 1) l).getD i 0)), ?_, ⟨by simp only; omega, by simp [hi2], fun j hj => ?_, fun j hj1 hj2 => ?_⟩, by simp only; omega⟩
              · (refine Le.of ?_ ?_ rfl rfl <;> (try simp only [push_cast, reduceIte, Nat.reduceEqDiff, Nat.reduceAdd, Nat.reduceSub, Nat.reduceMul, Nat.reduceLT, Nat.reduceLeDiff, reduceCtorEq, Int.reduceToNat, hle]) <;> (try (with_reducible rfl)))
                rw [e1, e2, dn, diffs_at _ _ (by omega)]
              · by_cases hji : j = i
                · subst hji; simp only [getD_set_same _ _ _ (by omega : j < r'.length)]
                · simp only [getD_set_ne _ _ _ _ hji]; exact hi3 j (by simp only at hj; omega)
              · simp only at hj1
                simp only [getD_set_ne _ _ _ _ (by omega : j ≠ i)]; exact hi4 j (by omega) hj2
            · (intro hc; try simp only [decide_eq_true_eq, decide_eq_false_iff_not, Bool.and_eq_true, Bool.or_eq_true, Bool.not_eq_true, Bool.not_eq_false, Bool.not_eq_true', Bool.not_eq_false', Bool.and_eq_false_iff, Bool.or_eq_false_iff, Int.not_lt, Int.not_le, Int.ofNat_lt, Int.ofNat_le] at hc)
              repeat (first | apply Wp.seq | apply Wp.block | (apply Run.next; (simp only [push_cast, reduceIte, Nat.reduceEqDiff, Nat.reduceAdd, Nat.reduceSub, Nat.reduceMul, Nat.reduceLT, Nat.reduceLeDiff, reduceCtorEq, Int.reduceToNat, hle] <;> (try simp (disch := omega) only [wrap_i64, wrap_u8, Int.add_sub_cancel]) <;> exact rfl); (focus ((try simp only [push_cast, reduceIte, Nat.reduceEqDiff, Nat.reduceAdd, Nat.reduceSub, Nat.reduceMul, Nat.reduceLT, Nat.reduceLeDiff, reduceCtorEq, Int.reduceToNat, hle]) <;> (first | trivial | omega | (intro hg; (try simp only [hg, eq_self, true_and, and_true]); first | omega | (refine ⟨?_, ?_⟩ <;> omega)) | (refine ⟨?_, ?_⟩ <;> omega) | (intro h; simpa using h) | (intros; simp_all; done) | (intros; simp_all; omega))))) | (apply Run.nil; dsimp only [seqS, thenS, blockS]) | (apply Wp.run; (dsimp only [List.map] <;> exact rfl); (exact rfl)) | (apply Wp.skip; dsimp only [seqS, thenS, blockS]) | (apply Wp.exit; dsimp only [seqS, thenS, blockS]; simp only [reduceIte]))
              obtain rfl : i = l.length - n - 1 := by omega
              refine ⟨(n + 1, r'), ?_, ⟨by simp only; omega, hi2, ?_, fun j hj => ?_⟩, by simp only; omega⟩
              · (refine Le.of ?_ ?_ rfl rfl <;> (try simp only [push_cast, reduceIte, Nat.reduceEqDiff, Nat.reduceAdd, Nat.reduceSub, Nat.reduceMul, Nat.reduceLT, Nat.reduceLeDiff, reduceCtorEq, Int.reduceToNat, hle]) <;> (try (with_reducible rfl)))
                congr 1
              · simp only
                apply List.ext_getElem
                · rw [List.length_take, hdl]; omega
                · intro j h3 h4
                  rw [List.length_take] at h3
                  have := hi3 j (by omega)
                  simp only [List.getElem_take]
                  simpa [List.getD_eq_getElem?_getD, (by omega : j < r'.length), h4] using this
              · simp only at hj
                by_cases hjn : j = n
                · subst hjn; exact h2
                · exact hn2 j (by omega)
      · (intro hc; try simp only [decide_eq_true_eq, decide_eq_false_iff_not, Bool.and_eq_true, Bool.or_eq_true, Bool.not_eq_true, Bool.not_eq_false, Bool.not_eq_true', Bool.not_eq_false', Bool.and_eq_false_iff, Bool.or_eq_false_iff, Int.not_lt, Int.not_le, Int.ofNat_lt, Int.ofNat_le] at hc)
        repeat (first | apply Wp.seq | apply Wp.block | (apply Run.next; (simp only [push_cast, reduceIte, Nat.reduceEqDiff, Nat.reduceAdd, Nat.reduceSub, Nat.reduceMul, Nat.reduceLT, Nat.reduceLeDiff, reduceCtorEq, Int.reduceToNat, hle] <;> (try simp (disch := omega) only [wrap_i64, wrap_u8, Int.add_sub_cancel]) <;> exact rfl); (focus ((try simp only [push_cast, reduceIte, Nat.reduceEqDiff, Nat.reduceAdd, Nat.reduceSub, Nat.reduceMul, Nat.reduceLT, Nat.reduceLeDiff, reduceCtorEq, Int.reduceToNat, hle]) <;> (first | trivial | omega | (intro hg; (try simp only [hg, eq_self, true_and, and_true]); first | omega | (refine ⟨?_, ?_⟩ <;> omega)) | (refine ⟨?_, ?_⟩ <;> omega) | (intro h; simpa using h) | (intros; simp_all; done) | (intros; simp_all; omega))))) | (apply Run.nil; dsimp only [seqS, thenS, blockS]) | (apply Wp.run; (dsimp only [List.map] <;> exact rfl); (exact rfl)) | (apply Wp.skip; dsimp only [seqS, thenS, blockS]) | (apply Wp.exit; dsimp only [seqS, thenS, blockS]; simp only [reduceIte]))
        (apply Wp.ret; (try dsimp only [seqS, thenS, blockS]); apply leave0; (exact rfl); (simp only [push_cast, reduceIte, Nat.reduceEqDiff, Nat.reduceAdd, Nat.reduceSub, Nat.reduceMul, Nat.reduceLT, Nat.reduceLeDiff, reduceCtorEq, Int.reduceToNat, hle] <;> (try simp (disch := omega) only [wrap_i64, wrap_u8, Int.add_sub_cancel]) <;> exact rfl); all_goals (try simp only [push_cast, reduceIte, Nat.reduceEqDiff, Nat.reduceAdd, Nat.reduceSub, Nat.reduceMul, Nat.reduceLT, Nat.reduceLeDiff, reduceCtorEq, Int.reduceToNat, hle]); (try rfl))
        simp [nextV, hin, degOf_none fun j hj => hn2 j (by omega)]
end Go.Proofs.Try
