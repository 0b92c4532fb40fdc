/- A part of the proof of BookingCancels: contracts of functions, with plain laws that they need. -/
import Derived.Test.YtbeclidfilbbdaaVgK14
import Derived.Test.YtbeclidfilbbdaaVgEa
set_option linter.all false
set_option linter.unusedVariables false
set_option linter.unusedSimpArgs false
set_option maxHeartbeats 8000000
set_option maxRecDepth 20000
namespace Go.Proofs.Try
open Go.Vg

/-! some of the bookings, by a map of their numbers -/
def vi (a : Int) : Value := .int .i64 a
theorem keyedInt : Maps.Keyed Try.prog 3 := kdB_ok (by kernel_rfl)
theorem goodInt {a : Int} (h : -1000 ≤ a ∧ a ≤ 1000) : goodK Try.prog 3 (.int .i64 a) = true := by
  have := Maps.keyOf_int_mk (P := Try.prog) (k := 3) Try.underlying3 (a := a) (by simp [Lit.wf, IntKind.min, IntKind.max, IntKind.signed, IntKind.bits]; omega)
  simp [goodK, this]
def ct (p : Nat → Bool) : Nat → Int
  | 0 => 0
  | k + 1 => if p k = true then ct p k + 1 else ct p k
theorem ct_bd (p : Nat → Bool) : ∀ k, 0 ≤ ct p k ∧ ct p k ≤ k
  | 0 => by simp [ct]
  | k + 1 => by have := ct_bd p k; simp only [ct]; split <;> omega
def num (p : Nat → Bool) (i : Nat) : Int := if p i = true then ct p i else -1
def numL (p : Nat → Bool) : Nat → List (Value × AV)
  | 0 => [(.int .i64 (-1), .int (-1))]
  | k + 1 => numL p k ++ [(.int .i64 (k : Int), .int (num p k))]
theorem eqKey_intR (a b : Int) : eqKey (.int .i64 a) (.int .i64 b) = true ↔ a = b := by rw [eqKey_int]; simp
theorem findL_app (l : List (Value × AV)) (k : Value) (x : AV) (q : Value) : findL (l ++ [(k, x)]) q = match findL l q with | some y => some y | none => (match eqKey k q with | true => some x | false => none) := by
  induction l with
  | nil => simp only [List.nil_append, findL]; cases eqKey k q <;> rfl
  | cons e l ih =>
    obtain ⟨a, y⟩ := e
    simp only [List.cons_append, findL]
    split
    · rfl
    · exact ih
theorem updL_app (l : List (Value × AV)) (k : Value) (x : AV) : findL l k = none → updL l k x = l ++ [(k, x)] := by
  induction l with
  | nil => intro _; rfl
  | cons e l ih =>
    obtain ⟨a, y⟩ := e
    simp only [findL, updL, List.cons_append]
    split
    · intro h; cases h
    · intro h; rw [ih h]
theorem updL_last (l : List (Value × AV)) (k : Value) (x y : AV) (hk : eqKey k k = true) : findL l k = none → updL (l ++ [(k, x)]) k y = l ++ [(k, y)] := by
  induction l with
  | nil => intro _; simp only [List.nil_append, updL, hk]
  | cons e l ih =>
    obtain ⟨a, z⟩ := e
    simp only [findL, updL, List.cons_append]
    split
    · intro h; cases h
    · intro h; rw [ih h]
theorem numL_none (p : Nat → Bool) : ∀ (k : Nat) (a : Int), (k : Int) ≤ a → findL (numL p k) (.int .i64 a) = none
  | 0, a, h => by
    simp only [numL, findL, eqKey_int, decide_eq_false (by omega : ¬ (-1 : Int) = a)]
  | k + 1, a, h => by
    simp only [numL, findL_app, numL_none p k a (by omega), eqKey_int, decide_eq_false (by omega : ¬ (k : Int) = a)]
theorem numL_neg (p : Nat → Bool) : ∀ (k : Nat), findL (numL p k) (.int .i64 (-1)) = some (.int (-1))
  | 0 => by simp only [numL, findL, eqKey_int, decide_true]
  | k + 1 => by simp only [numL, findL_app, numL_neg p k]
theorem numL_at (p : Nat → Bool) : ∀ (k : Nat) (i : Nat), i < k → findL (numL p k) (.int .i64 (i : Int)) = some (.int (num p i))
  | 0, i, h => by omega
  | k + 1, i, h => by
    by_cases hik : i = k
    · subst hik
      simp only [numL, findL_app, numL_none p i (i : Int) (Int.le_refl _), eqKey_int, decide_true]
    · simp only [numL, findL_app, numL_at p k i (by omega)]
theorem goodL_app {P : Program} {kt : TypeId} (k : Value) (x : AV) (h : goodK P kt k = true) : ∀ (l : List (Value × AV)), goodL P kt l = true → goodL P kt (l ++ [(k, x)]) = true
  | [], _ => by simp only [List.nil_append, goodL, h]
  | (a, y) :: l, hl => by
    simp only [goodL] at hl
    simp only [List.cons_append, goodL]
    split at hl
    · exact goodL_app k x h l hl
    · cases hl
theorem numL_good (p : Nat → Bool) : ∀ (k : Nat), k ≤ 100 → goodL Try.prog 3 (numL p k) = true
  | 0, _ => by simp only [numL, goodL, goodInt (a := -1) (by omega)]
  | k + 1, h => goodL_app _ _ (goodInt (by omega)) _ (numL_good p k (by omega))
def nmR (p : Nat → Bool) (r : Int) : Int := if r = -1 then -1 else num p r.toNat
theorem numL_get (p : Nat → Bool) {n : Nat} {r : Int} (h : -1 ≤ r ∧ r < n) : findL (numL p n) (.int .i64 r) = some (.int (nmR p r)) := by
  unfold nmR
  by_cases h1 : r = -1
  · rw [if_pos h1, h1]; exact numL_neg p n
  · rw [if_neg h1]
    have := numL_at p n r.toNat (by omega)
    rwa [show ((r.toNat : Nat) : Int) = r by omega] at this
def sel (p : Nat → Bool) (ls : List Bk) (k : Nat) : List Bk := ((List.range k).filter p).map fun i => ls.getD i bk0
theorem sel_succ (p : Nat → Bool) (ls : List Bk) (k : Nat) : sel p ls (k + 1) = if p k = true then sel p ls k ++ [ls.getD k bk0] else sel p ls k := by
  unfold sel
  rw [List.range_succ, List.filter_append, List.map_append]
  by_cases h : p k = true
  · rw [if_pos h, List.filter_cons, if_pos h]; rfl
  · rw [if_neg h, List.filter_cons, if_neg h]; simp
theorem sel_len (p : Nat → Bool) (ls : List Bk) : ∀ k, ((sel p ls k).length : Int) = ct p k
  | 0 => rfl
  | k + 1 => by
    rw [sel_succ]
    simp only [ct]
    split
    · simp [sel_len p ls k]
    · exact sel_len p ls k
theorem sel_mem {p : Nat → Bool} {ls : List Bk} {k : Nat} {b : Bk} (h : b ∈ sel p ls k) (hk : k ≤ ls.length) : ∃ i, i < ls.length ∧ b = ls.getD i bk0 ∧ p i = true := by
  unfold sel at h
  obtain ⟨i, hi, rfl⟩ := List.mem_map.1 h
  rw [List.mem_filter, List.mem_range] at hi
  exact ⟨i, by omega, rfl, hi.2⟩
def reR (p : Nat → Bool) (b : Bk) : Bk := { b with rival := nmR p b.rival }
def someL (p : Nat → Bool) (ls : List Bk) : List Bk := (sel p ls ls.length).map (reR p)
theorem take_reR (p : Nat → Bool) (S : List Bk) (k : Nat) (hk : k < S.length) : (S.take k).map (reR p) ++ (reR p (S.getD k bk0) :: S.drop (k + 1)) = (S.take (k + 1)).map (reR p) ++ S.drop (k + 1) := by
  have : S.take (k + 1) = S.take k ++ [S.getD k bk0] := by
    rw [List.take_add_one]; simp [hk]
  rw [this]; simp
def mixL (p : Nat → Bool) (S : List Bk) (k : Nat) : List Bk := (S.take k).map (reR p) ++ S.drop k
theorem mixL_len (p : Nat → Bool) (S : List Bk) (k : Nat) : (mixL p S k).length = S.length := by
  simp [mixL]; omega
theorem mixL_get (p : Nat → Bool) (S : List Bk) (k : Nat) (hk : k < S.length) : (mixL p S k).getD k bk0 = S.getD k bk0 := by
  have hl : ((S.take k).map (reR p)).length = k := by simp; omega
  simp only [mixL, List.getD_eq_getElem?_getD]
  rw [List.getElem?_append_right (by omega), hl]
  simp
theorem mixL_set (p : Nat → Bool) (S : List Bk) (k : Nat) (hk : k < S.length) : (mixL p S k).set k (reR p (S.getD k bk0)) = mixL p S (k + 1) := by
  have hl : ((S.take k).map (reR p)).length = k := by simp; omega
  unfold mixL
  rw [← take_reR p S k hk, List.set_append_right _ _ (by omega), hl, Nat.sub_self]
  have : S.drop k = S.getD k bk0 :: S.drop (k + 1) := by
    rw [List.drop_eq_getElem_cons hk]; simp [hk]
  rw [this]; rfl
theorem mixL_all (p : Nat → Bool) (S : List Bk) : mixL p S S.length = S.map (reR p) := by simp [mixL]
theorem some_pure (ls : List Bk) (g : FuncId) (caps : List AV) (p : Nat → Bool) (hg : Enters Try.prog g) (hk : okL 0 caps) (hcv : ∀ m, caps.map (view m) = caps ∧ caps.map (view2 m) = caps) (hp : ∀ i, i < ls.length → Pure Try.prog g (.int (i : Int) :: caps) (.bool (p i))) (hl20 : ls.length ≤ 20) (hrv : ∀ i, i < ls.length → -1 ≤ (ls.getD i bk0).rival ∧ (ls.getD i bk0).rival < ls.length) :
    Pure Try.prog 70 [.lst 6 (ls.map bkA), .clo g caps] (.lst 6 ((someL p ls).map bkA)) := by
  have e0 : findL [] (.int .i64 (-1)) = none := rfl
  have e1 : updL [] (.int .i64 (-1)) (.int (-1)) = [(.int .i64 (-1), .int (-1))] := rfl
  have e2 : goodK Try.prog 3 (.int .i64 (-1)) = true := goodInt (by omega)
  have e3 : goodL Try.prog 3 [] = true := rfl
  have hki : Maps.Keyed Try.prog 3 = True := eq_true keyedInt
  (refine Spec.of_body Try.func70 rfl (by rw [Try.ntmps70]; simp) 0 (by simp) ?_; rw [Try.results70, Try.ntmps70]; simp only [entry, zipArgs, Nat.reduceAdd])
  repeat (first | apply Wp.seq | apply Wp.block | (apply Run.next; (simp only [push_cast, reduceIte, Nat.reduceEqDiff, Nat.reduceAdd, Nat.reduceSub, Nat.reduceMul, Nat.reduceLT, Nat.reduceLeDiff, reduceCtorEq, Int.reduceToNat, hcv, List.map_append, e1, e2, e3, hki] <;> (try simp (disch := omega) only [wrap_i64, wrap_u8, Int.add_sub_cancel]) <;> exact rfl); (focus ((try simp only [push_cast, reduceIte, Nat.reduceEqDiff, Nat.reduceAdd, Nat.reduceSub, Nat.reduceMul, Nat.reduceLT, Nat.reduceLeDiff, reduceCtorEq, Int.reduceToNat, hcv, List.map_append, e1, e2, e3, hki]) <;> (first | trivial | omega | (intro hg; (try simp only [hg, eq_self, true_and, and_true]); first | omega | (refine ⟨?_, ?_⟩ <;> omega)) | (refine ⟨?_, ?_⟩ <;> omega) | (intro h; simpa using h) | (intros; simp_all; done) | (intros; simp_all; omega))))) | (apply Run.nil; dsimp only [seqS, thenS, blockS]) | (apply Wp.run; (dsimp only [List.map] <;> exact rfl); (exact rfl)) | (apply Wp.skip; dsimp only [seqS, thenS, blockS]) | (apply Wp.exit; dsimp only [seqS, thenS, blockS]; simp only [reduceIte]))
  refine Wp.adopt 4 6 (by (simp only [push_cast, reduceIte, Nat.reduceEqDiff, Nat.reduceAdd, Nat.reduceSub, Nat.reduceMul, Nat.reduceLT, Nat.reduceLeDiff, reduceCtorEq, Int.reduceToNat, hcv, List.map_append, e1, e2, e3, hki] <;> (try simp (disch := omega) only [wrap_i64, wrap_u8, Int.add_sub_cancel]) <;> exact rfl)) ?_
  refine Wp.loop (fun k : Nat => { t := [(0, .lst 6 (ls.map bkA)), (1, .clo g caps), (5, .omap 0 0), (4, .osl 1 (sel p ls k).length 0 (sel p ls k).length), (11, .int ls.length), (12, .int k)], m := [⟨0, .mp (numL p k)⟩, ⟨(sel p ls k).length, .row 6 ((sel p ls k).map bkA)⟩], n := 50 }) (fun k => k ≤ ls.length) (fun k => ls.length - k) 0 ?_ ?_ ?_
  · (refine Le.of ?_ ?_ rfl rfl <;> (try simp only [push_cast, reduceIte, Nat.reduceEqDiff, Nat.reduceAdd, Nat.reduceSub, Nat.reduceMul, Nat.reduceLT, Nat.reduceLeDiff, reduceCtorEq, Int.reduceToNat, hcv, List.map_append]) <;> (try (with_reducible rfl)))
    all_goals rfl
  · simp
  · intro k hk1
    have hnn := numL_none p k (k : Int) (Int.le_refl _)
    have hng := numL_good p k (by omega)
    have hns : numL p (k + 1) = numL p k ++ [(.int .i64 (k : Int), .int (num p k))] := rfl
    have hnm : num p k = if p k = true then ct p k else -1 := rfl
    have hsl := sel_len p ls k
    have hss := sel_succ p ls k
    have hcb := ct_bd p k
    generalize hN : numL p k = N at hnn hng hns
    generalize hS : sel p ls k = S at hsl hss
    repeat (first | apply Wp.seq | apply Wp.block | (apply Run.next; (simp only [push_cast, reduceIte, Nat.reduceEqDiff, Nat.reduceAdd, Nat.reduceSub, Nat.reduceMul, Nat.reduceLT, Nat.reduceLeDiff, reduceCtorEq, Int.reduceToNat, hcv, List.map_append] <;> (try simp (disch := omega) only [wrap_i64, wrap_u8, Int.add_sub_cancel]) <;> exact rfl); (focus ((try simp only [push_cast, reduceIte, Nat.reduceEqDiff, Nat.reduceAdd, Nat.reduceSub, Nat.reduceMul, Nat.reduceLT, Nat.reduceLeDiff, reduceCtorEq, Int.reduceToNat, hcv, List.map_append]) <;> (first | trivial | omega | (intro hg; (try simp only [hg, eq_self, true_and, and_true]); first | omega | (refine ⟨?_, ?_⟩ <;> omega)) | (refine ⟨?_, ?_⟩ <;> omega) | (intro h; simpa using h) | (intros; simp_all; done) | (intros; simp_all; omega))))) | (apply Run.nil; dsimp only [seqS, thenS, blockS]) | (apply Wp.run; (dsimp only [List.map] <;> exact rfl); (exact rfl)) | (apply Wp.skip; dsimp only [seqS, thenS, blockS]) | (apply Wp.exit; dsimp only [seqS, thenS, blockS]; simp only [reduceIte]))
    (apply Wp.cond; (simp only [push_cast, reduceIte, Nat.reduceEqDiff, Nat.reduceAdd, Nat.reduceSub, Nat.reduceMul, Nat.reduceLT, Nat.reduceLeDiff, reduceCtorEq, Int.reduceToNat, hcv, List.map_append] <;> (try simp (disch := omega) only [wrap_i64, wrap_u8, Int.add_sub_cancel]) <;> exact rfl))
    · intro hc
      simp only [decide_eq_true_eq, Int.ofNat_lt] at hc
      have hpk := hp k hc
      have hgk := goodInt (a := (k : Int)) (by omega)
      have u1 := updL_app N (.int .i64 (k : Int)) (.int (-1)) hnn
      have u2 := fun y => updL_last N (.int .i64 (k : Int)) (.int (-1)) y (by rw [eqKey_int]; simp) hnn
      have g2 := goodL_app (P := Try.prog) (kt := 3) (.int .i64 (k : Int)) (.int (-1)) hgk N hng
      generalize hx : ls.getD k bk0 = x at hss
      repeat (first | apply Wp.seq | apply Wp.block | (apply Run.next; (simp only [push_cast, reduceIte, Nat.reduceEqDiff, Nat.reduceAdd, Nat.reduceSub, Nat.reduceMul, Nat.reduceLT, Nat.reduceLeDiff, reduceCtorEq, Int.reduceToNat, hcv, List.map_append, hx, u1, u2, hng, hgk, hki, g2] <;> (try simp (disch := omega) only [wrap_i64, wrap_u8, Int.add_sub_cancel]) <;> exact rfl); (focus ((try simp only [push_cast, reduceIte, Nat.reduceEqDiff, Nat.reduceAdd, Nat.reduceSub, Nat.reduceMul, Nat.reduceLT, Nat.reduceLeDiff, reduceCtorEq, Int.reduceToNat, hcv, List.map_append, hx, u1, u2, hng, hgk, hki, g2]) <;> (first | trivial | omega | (intro hg; (try simp only [hg, eq_self, true_and, and_true]); first | omega | (refine ⟨?_, ?_⟩ <;> omega)) | (refine ⟨?_, ?_⟩ <;> omega) | (intro h; simpa using h) | (intros; simp_all; done) | (intros; simp_all; omega))))) | (apply Run.nil; dsimp only [seqS, thenS, blockS]) | (apply Wp.run; (dsimp only [List.map] <;> exact rfl); (exact rfl)) | (apply Wp.skip; dsimp only [seqS, thenS, blockS]) | (apply Wp.exit; dsimp only [seqS, thenS, blockS]; simp only [reduceIte]))
      (apply Run.pureP; (simp only [push_cast, reduceIte, Nat.reduceEqDiff, Nat.reduceAdd, Nat.reduceSub, Nat.reduceMul, Nat.reduceLT, Nat.reduceLeDiff, reduceCtorEq, Int.reduceToNat, hcv, List.map_append, hx, u1, u2, hng, hgk, hki, g2] <;> (try simp (disch := omega) only [wrap_i64, wrap_u8, Int.add_sub_cancel]) <;> exact rfl); (exact hg); (exact hpk); (focus (simp only [push_cast, reduceIte, Nat.reduceEqDiff, Nat.reduceAdd, Nat.reduceSub, Nat.reduceMul, Nat.reduceLT, Nat.reduceLeDiff, reduceCtorEq, Int.reduceToNat, hcv, List.map_append, hx, u1, u2, hng, hgk, hki, g2] <;> first | trivial | assumption | (refine ⟨?_, ?_⟩ <;> assumption) | (simp; done))); (try dsimp only [putA, optG]))
      repeat (first | apply Wp.seq | apply Wp.block | (apply Run.next; (simp only [push_cast, reduceIte, Nat.reduceEqDiff, Nat.reduceAdd, Nat.reduceSub, Nat.reduceMul, Nat.reduceLT, Nat.reduceLeDiff, reduceCtorEq, Int.reduceToNat, hcv, List.map_append, hx, u1, u2, hng, hgk, hki, g2] <;> (try simp (disch := omega) only [wrap_i64, wrap_u8, Int.add_sub_cancel]) <;> exact rfl); (focus ((try simp only [push_cast, reduceIte, Nat.reduceEqDiff, Nat.reduceAdd, Nat.reduceSub, Nat.reduceMul, Nat.reduceLT, Nat.reduceLeDiff, reduceCtorEq, Int.reduceToNat, hcv, List.map_append, hx, u1, u2, hng, hgk, hki, g2]) <;> (first | trivial | omega | (intro hg; (try simp only [hg, eq_self, true_and, and_true]); first | omega | (refine ⟨?_, ?_⟩ <;> omega)) | (refine ⟨?_, ?_⟩ <;> omega) | (intro h; simpa using h) | (intros; simp_all; done) | (intros; simp_all; omega))))) | (apply Run.nil; dsimp only [seqS, thenS, blockS]) | (apply Wp.run; (dsimp only [List.map] <;> exact rfl); (exact rfl)) | (apply Wp.skip; dsimp only [seqS, thenS, blockS]) | (apply Wp.exit; dsimp only [seqS, thenS, blockS]; simp only [reduceIte]))
      (apply Wp.cond; (simp only [push_cast, reduceIte, Nat.reduceEqDiff, Nat.reduceAdd, Nat.reduceSub, Nat.reduceMul, Nat.reduceLT, Nat.reduceLeDiff, reduceCtorEq, Int.reduceToNat, hcv, List.map_append, hx, u1, u2, hng, hgk, hki, g2] <;> (try simp (disch := omega) only [wrap_i64, wrap_u8, Int.add_sub_cancel]) <;> exact rfl))
      · intro h2
        rw [if_pos h2] at hss hnm
        repeat (first | apply Wp.seq | apply Wp.block | (apply Run.next; (simp only [push_cast, reduceIte, Nat.reduceEqDiff, Nat.reduceAdd, Nat.reduceSub, Nat.reduceMul, Nat.reduceLT, Nat.reduceLeDiff, reduceCtorEq, Int.reduceToNat, hcv, List.map_append, hx, u1, u2, hng, hgk, hki, g2] <;> (try simp (disch := omega) only [wrap_i64, wrap_u8, Int.add_sub_cancel]) <;> exact rfl); (focus ((try simp only [push_cast, reduceIte, Nat.reduceEqDiff, Nat.reduceAdd, Nat.reduceSub, Nat.reduceMul, Nat.reduceLT, Nat.reduceLeDiff, reduceCtorEq, Int.reduceToNat, hcv, List.map_append, hx, u1, u2, hng, hgk, hki, g2]) <;> (first | trivial | omega | (intro hg; (try simp only [hg, eq_self, true_and, and_true]); first | omega | (refine ⟨?_, ?_⟩ <;> omega)) | (refine ⟨?_, ?_⟩ <;> omega) | (intro h; simpa using h) | (intros; simp_all; done) | (intros; simp_all; omega))))) | (apply Run.nil; dsimp only [seqS, thenS, blockS]) | (apply Wp.run; (dsimp only [List.map] <;> exact rfl); (exact rfl)) | (apply Wp.skip; dsimp only [seqS, thenS, blockS]) | (apply Wp.exit; dsimp only [seqS, thenS, blockS]; simp only [reduceIte]))
        refine ⟨k + 1, ?_, by omega, by omega⟩
        rw [hss, hns, hnm, ← hsl, List.length_append]
        (refine Le.of ?_ ?_ rfl rfl <;> (try simp only [push_cast, reduceIte, Nat.reduceEqDiff, Nat.reduceAdd, Nat.reduceSub, Nat.reduceMul, Nat.reduceLT, Nat.reduceLeDiff, reduceCtorEq, Int.reduceToNat, hcv, List.map_append, hx, u1, u2, hng, hgk, hki, g2]) <;> (try (with_reducible rfl)))
      · intro h2
        rw [if_neg (by rw [h2]; simp)] at hss hnm
        repeat (first | apply Wp.seq | apply Wp.block | (apply Run.next; (simp only [push_cast, reduceIte, Nat.reduceEqDiff, Nat.reduceAdd, Nat.reduceSub, Nat.reduceMul, Nat.reduceLT, Nat.reduceLeDiff, reduceCtorEq, Int.reduceToNat, hcv, List.map_append, hx, u1, u2, hng, hgk, hki, g2] <;> (try simp (disch := omega) only [wrap_i64, wrap_u8, Int.add_sub_cancel]) <;> exact rfl); (focus ((try simp only [push_cast, reduceIte, Nat.reduceEqDiff, Nat.reduceAdd, Nat.reduceSub, Nat.reduceMul, Nat.reduceLT, Nat.reduceLeDiff, reduceCtorEq, Int.reduceToNat, hcv, List.map_append, hx, u1, u2, hng, hgk, hki, g2]) <;> (first | trivial | omega | (intro hg; (try simp only [hg, eq_self, true_and, and_true]); first | omega | (refine ⟨?_, ?_⟩ <;> omega)) | (refine ⟨?_, ?_⟩ <;> omega) | (intro h; simpa using h) | (intros; simp_all; done) | (intros; simp_all; omega))))) | (apply Run.nil; dsimp only [seqS, thenS, blockS]) | (apply Wp.run; (dsimp only [List.map] <;> exact rfl); (exact rfl)) | (apply Wp.skip; dsimp only [seqS, thenS, blockS]) | (apply Wp.exit; dsimp only [seqS, thenS, blockS]; simp only [reduceIte]))
        refine ⟨k + 1, ?_, by omega, by omega⟩
        rw [hss, hns, hnm]
        (refine Le.of ?_ ?_ rfl rfl <;> (try simp only [push_cast, reduceIte, Nat.reduceEqDiff, Nat.reduceAdd, Nat.reduceSub, Nat.reduceMul, Nat.reduceLT, Nat.reduceLeDiff, reduceCtorEq, Int.reduceToNat, hcv, List.map_append, hx, u1, u2, hng, hgk, hki, g2]) <;> (try (with_reducible rfl)))
    · intro hc
      simp only [decide_eq_false_iff_not, Int.ofNat_lt] at hc
      obtain rfl : k = ls.length := by omega
      have hSm : ∀ j, j < S.length → -1 ≤ (S.getD j bk0).rival ∧ (S.getD j bk0).rival < ls.length := by
        intro j hj
        have h1 : S.getD j bk0 ∈ sel p ls ls.length := by rw [hS]; exact memBk hj
        obtain ⟨i, hi, he, _⟩ := sel_mem h1 (Nat.le_refl _)
        rw [he]; exact hrv i hi
      have hsr : someL p ls = S.map (reR p) := by unfold someL; rw [hS]
      repeat (first | apply Wp.seq | apply Wp.block | (apply Run.next; (simp only [push_cast, reduceIte, Nat.reduceEqDiff, Nat.reduceAdd, Nat.reduceSub, Nat.reduceMul, Nat.reduceLT, Nat.reduceLeDiff, reduceCtorEq, Int.reduceToNat, hcv, List.map_append] <;> (try simp (disch := omega) only [wrap_i64, wrap_u8, Int.add_sub_cancel]) <;> exact rfl); (focus ((try simp only [push_cast, reduceIte, Nat.reduceEqDiff, Nat.reduceAdd, Nat.reduceSub, Nat.reduceMul, Nat.reduceLT, Nat.reduceLeDiff, reduceCtorEq, Int.reduceToNat, hcv, List.map_append]) <;> (first | trivial | omega | (intro hg; (try simp only [hg, eq_self, true_and, and_true]); first | omega | (refine ⟨?_, ?_⟩ <;> omega)) | (refine ⟨?_, ?_⟩ <;> omega) | (intro h; simpa using h) | (intros; simp_all; done) | (intros; simp_all; omega))))) | (apply Run.nil; dsimp only [seqS, thenS, blockS]) | (apply Wp.run; (dsimp only [List.map] <;> exact rfl); (exact rfl)) | (apply Wp.skip; dsimp only [seqS, thenS, blockS]) | (apply Wp.exit; dsimp only [seqS, thenS, blockS]; simp only [reduceIte]))
      refine Wp.loop (fun k : Nat => { t := [(5, .omap 0 0), (4, .osl 1 S.length 0 S.length), (33, .int S.length), (34, .int k)], m := [⟨0, .mp N⟩, ⟨S.length, .row 6 ((mixL p S k).map bkA)⟩], n := 50 }) (fun k => k ≤ S.length) (fun k => S.length - k) 0 ?_ ?_ ?_
      · (refine Le.of ?_ ?_ rfl rfl <;> (try simp only [push_cast, reduceIte, Nat.reduceEqDiff, Nat.reduceAdd, Nat.reduceSub, Nat.reduceMul, Nat.reduceLT, Nat.reduceLeDiff, reduceCtorEq, Int.reduceToNat, hcv, List.map_append]) <;> (try (with_reducible rfl)))
        all_goals simp [mixL]
      · simp
      · intro i hi1
        have hml := mixL_len p S i
        repeat (first | apply Wp.seq | apply Wp.block | (apply Run.next; (simp only [push_cast, reduceIte, Nat.reduceEqDiff, Nat.reduceAdd, Nat.reduceSub, Nat.reduceMul, Nat.reduceLT, Nat.reduceLeDiff, reduceCtorEq, Int.reduceToNat, hcv, List.map_append] <;> (try simp (disch := omega) only [wrap_i64, wrap_u8, Int.add_sub_cancel]) <;> exact rfl); (focus ((try simp only [push_cast, reduceIte, Nat.reduceEqDiff, Nat.reduceAdd, Nat.reduceSub, Nat.reduceMul, Nat.reduceLT, Nat.reduceLeDiff, reduceCtorEq, Int.reduceToNat, hcv, List.map_append]) <;> (first | trivial | omega | (intro hg; (try simp only [hg, eq_self, true_and, and_true]); first | omega | (refine ⟨?_, ?_⟩ <;> omega)) | (refine ⟨?_, ?_⟩ <;> omega) | (intro h; simpa using h) | (intros; simp_all; done) | (intros; simp_all; omega))))) | (apply Run.nil; dsimp only [seqS, thenS, blockS]) | (apply Wp.run; (dsimp only [List.map] <;> exact rfl); (exact rfl)) | (apply Wp.skip; dsimp only [seqS, thenS, blockS]) | (apply Wp.exit; dsimp only [seqS, thenS, blockS]; simp only [reduceIte]))
        (apply Wp.cond; (simp only [push_cast, reduceIte, Nat.reduceEqDiff, Nat.reduceAdd, Nat.reduceSub, Nat.reduceMul, Nat.reduceLT, Nat.reduceLeDiff, reduceCtorEq, Int.reduceToNat, hcv, List.map_append] <;> (try simp (disch := omega) only [wrap_i64, wrap_u8, Int.add_sub_cancel]) <;> exact rfl))
        · intro hci
          simp only [decide_eq_true_eq, Int.ofNat_lt] at hci
          have hmg := mixL_get p S i hci
          have hms := mixL_set p S i hci
          have hri := hSm i hci
          have hfl := numL_get p hri
          rw [hN] at hfl
          have hgr := goodInt (a := (S.getD i bk0).rival) (by omega)
          generalize hM : mixL p S i = M at hmg hms hml
          have hmd : ∀ d, (M.map bkA).getD i d = bkA (S.getD i bk0) := by
            intro d
            rw [← hmg]
            simp [List.getD_eq_getElem?_getD, show i < M.length by omega]
          generalize hz : S.getD i bk0 = z at hmg hms hri hfl hgr hmd
          repeat (first | apply Wp.seq | apply Wp.block | (apply Run.next; (simp only [push_cast, reduceIte, Nat.reduceEqDiff, Nat.reduceAdd, Nat.reduceSub, Nat.reduceMul, Nat.reduceLT, Nat.reduceLeDiff, reduceCtorEq, Int.reduceToNat, hcv, List.map_append, hmd, hmg, hml, hfl, hng, hgr, hki] <;> (try simp (disch := omega) only [wrap_i64, wrap_u8, Int.add_sub_cancel]) <;> exact rfl); (focus ((try simp only [push_cast, reduceIte, Nat.reduceEqDiff, Nat.reduceAdd, Nat.reduceSub, Nat.reduceMul, Nat.reduceLT, Nat.reduceLeDiff, reduceCtorEq, Int.reduceToNat, hcv, List.map_append, hmd, hmg, hml, hfl, hng, hgr, hki]) <;> (first | trivial | omega | (intro hg; (try simp only [hg, eq_self, true_and, and_true]); first | omega | (refine ⟨?_, ?_⟩ <;> omega)) | (refine ⟨?_, ?_⟩ <;> omega) | (intro h; simpa using h) | (intros; simp_all; done) | (intros; simp_all; omega))))) | (apply Run.nil; dsimp only [seqS, thenS, blockS]) | (apply Wp.run; (dsimp only [List.map] <;> exact rfl); (exact rfl)) | (apply Wp.skip; dsimp only [seqS, thenS, blockS]) | (apply Wp.exit; dsimp only [seqS, thenS, blockS]; simp only [reduceIte]))
          refine ⟨i + 1, ?_, by omega, by omega⟩
          rw [← hms]
          (refine Le.of ?_ ?_ rfl rfl <;> (try simp only [push_cast, reduceIte, Nat.reduceEqDiff, Nat.reduceAdd, Nat.reduceSub, Nat.reduceMul, Nat.reduceLT, Nat.reduceLeDiff, reduceCtorEq, Int.reduceToNat, hcv, List.map_append, hmd, hmg, hml, hfl, hng, hgr, hki]) <;> (try (with_reducible rfl)))
          all_goals simp [reR, bkA]
        · intro hci
          simp only [decide_eq_false_iff_not, Int.ofNat_lt] at hci
          obtain rfl : i = S.length := by omega
          rw [mixL_all]
          repeat (first | apply Wp.seq | apply Wp.block | (apply Run.next; (simp only [push_cast, reduceIte, Nat.reduceEqDiff, Nat.reduceAdd, Nat.reduceSub, Nat.reduceMul, Nat.reduceLT, Nat.reduceLeDiff, reduceCtorEq, Int.reduceToNat, hcv, List.map_append] <;> (try simp (disch := omega) only [wrap_i64, wrap_u8, Int.add_sub_cancel]) <;> exact rfl); (focus ((try simp only [push_cast, reduceIte, Nat.reduceEqDiff, Nat.reduceAdd, Nat.reduceSub, Nat.reduceMul, Nat.reduceLT, Nat.reduceLeDiff, reduceCtorEq, Int.reduceToNat, hcv, List.map_append]) <;> (first | trivial | omega | (intro hg; (try simp only [hg, eq_self, true_and, and_true]); first | omega | (refine ⟨?_, ?_⟩ <;> omega)) | (refine ⟨?_, ?_⟩ <;> omega) | (intro h; simpa using h) | (intros; simp_all; done) | (intros; simp_all; omega))))) | (apply Run.nil; dsimp only [seqS, thenS, blockS]) | (apply Wp.run; (dsimp only [List.map] <;> exact rfl); (exact rfl)) | (apply Wp.skip; dsimp only [seqS, thenS, blockS]) | (apply Wp.exit; dsimp only [seqS, thenS, blockS]; simp only [reduceIte]))
          (apply Wp.freeze 4; (simp only [push_cast, reduceIte, Nat.reduceEqDiff, Nat.reduceAdd, Nat.reduceSub, Nat.reduceMul, Nat.reduceLT, Nat.reduceLeDiff, reduceCtorEq, Int.reduceToNat, hcv, List.map_append] <;> (try simp (disch := omega) only [wrap_i64, wrap_u8, Int.add_sub_cancel]) <;> exact rfl); (simp only [push_cast, reduceIte, Nat.reduceEqDiff, Nat.reduceAdd, Nat.reduceSub, Nat.reduceMul, Nat.reduceLT, Nat.reduceLeDiff, reduceCtorEq, Int.reduceToNat, hcv, List.map_append] <;> (try simp (disch := omega) only [wrap_i64, wrap_u8, Int.add_sub_cancel]) <;> exact rfl); (focus (try simp only [push_cast, reduceIte, Nat.reduceEqDiff, Nat.reduceAdd, Nat.reduceSub, Nat.reduceMul, Nat.reduceLT, Nat.reduceLeDiff, reduceCtorEq, Int.reduceToNat, hcv, List.map_append]); (try ((first | trivial | omega | (intro hg; (try simp only [hg, eq_self, true_and, and_true]); first | omega | (refine ⟨?_, ?_⟩ <;> omega)) | (refine ⟨?_, ?_⟩ <;> omega) | (intro h; simpa using h) | (intros; simp_all; done) | (intros; simp_all; omega))))); (focus ((first | trivial | omega | (intro hg; (try simp only [hg, eq_self, true_and, and_true]); first | omega | (refine ⟨?_, ?_⟩ <;> omega)) | (refine ⟨?_, ?_⟩ <;> omega) | (intro h; simpa using h) | (intros; simp_all; done) | (intros; simp_all; omega)))))
          (apply Wp.ret; (try dsimp only [seqS, thenS, blockS]); apply leave0; (exact rfl); (simp only [push_cast, reduceIte, Nat.reduceEqDiff, Nat.reduceAdd, Nat.reduceSub, Nat.reduceMul, Nat.reduceLT, Nat.reduceLeDiff, reduceCtorEq, Int.reduceToNat, hcv, List.map_append] <;> (try simp (disch := omega) only [wrap_i64, wrap_u8, Int.add_sub_cancel]) <;> exact rfl); all_goals (try simp only [push_cast, reduceIte, Nat.reduceEqDiff, Nat.reduceAdd, Nat.reduceSub, Nat.reduceMul, Nat.reduceLT, Nat.reduceLeDiff, reduceCtorEq, Int.reduceToNat, hcv, List.map_append]); (try rfl))
          rw [hsr, List.take_of_length_le (by simp)]
end Go.Proofs.Try
