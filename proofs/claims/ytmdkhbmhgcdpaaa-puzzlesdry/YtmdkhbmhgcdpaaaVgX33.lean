/- A part of the proof of PuzzlesDry: contracts of functions, with plain laws that they need. -/
import Derived.Test.YtmdkhbmhgcdpaaaVgX32
import Derived.Test.YtmdkhbmhgcdpaaaVgXL
set_option linter.all false
set_option linter.unusedVariables false
set_option linter.unusedSimpArgs false
set_option maxHeartbeats 8000000
namespace Go.Proofs.Try
open Go.Vg

def four : List Int := (List.range 4).map fun c : Nat => (c : Int)
def turnsL : Nat → List (List Int)
  | 0 => [[]]
  | k + 1 => four.flatMap fun c => (turnsL k).map (c :: ·)
def tsum : List Int → Int
  | [] => 0
  | c :: t => c + tsum t
theorem plmS_fold {σ : Type} {F : Int → List Int → σ → σ × List Int} {P : List Int → Prop} {G : Int → σ → σ} (hF : ∀ c sd s, P sd → (F c sd s).1 = G c s ∧ P (F c sd s).2) (turns : List Int) (s : σ) (h : P turns) : ∀ j : Nat, (plmS F turns s j).1 = ((List.range j).map fun c : Nat => (c : Int)).foldl (fun s c => G c s) s ∧ P (plmS F turns s j).2
  | 0 => ⟨rfl, h⟩
  | j + 1 => by
    obtain ⟨a, b⟩ := plmS_fold hF turns s h j
    obtain ⟨c, d⟩ := hF j (plmS F turns s j).2 (plmS F turns s j).1 b
    refine ⟨?_, d⟩
    rw [plmS, c, a, List.range_succ, List.map_append, List.foldl_append]
    rfl
theorem plm_len {σ : Type} (ok : List Int → Bool) (go : σ → List Int → Int → σ) : ∀ (r i : Nat) (sum : Int) (turns : List Int) (s : σ), (plm ok go r i sum turns s).2.length = turns.length
  | 0, _, _, _, _ => by simp only [plm]; split <;> rfl
  | r + 1, i, sum, turns, s => by
    rw [plm]
    exact (plmS_fold (P := fun sd => sd.length = turns.length) (G := fun c s => s) (F := fun c sd s' => (s', (plm ok go r (i + 1) (sum + c) (sd.set i c) s').2)) (fun c sd s h => ⟨rfl, by rw [plm_len ok go r]; simpa using h⟩) turns s rfl 0).2 ▸ by
      have : ∀ j, (plmS (fun c turns s => plm ok go r (i + 1) (sum + c) (turns.set i c) s) turns s j).2.length = turns.length := by
        intro j
        induction j with
        | zero => rfl
        | succ j ih => rw [plmS, plm_len ok go r]; simpa using ih
      exact this 4
theorem plm_fold {σ : Type} (ok : List Int → Bool) (go : σ → List Int → Int → σ) : ∀ (r i : Nat) (sum : Int) (turns : List Int) (s : σ), turns.length = i + r →
    (plm ok go r i sum turns s).1 = (turnsL r).foldl (fun s t => if ok (turns.take i ++ t) = true then go s (turns.take i ++ t) (sum + tsum t) else s) s ∧ (plm ok go r i sum turns s).2.take i = turns.take i
  | 0, i, sum, turns, s, h => by
    have ht : turns.take i = turns := List.take_of_length_le (by omega)
    simp only [plm, turnsL, List.foldl_cons, List.foldl_nil, tsum, List.append_nil, ht, Int.add_zero]
    constructor
    · split <;> rfl
    · split <;> exact ht
  | r + 1, i, sum, turns, s, h => by
    have hl : i < turns.length := by omega
    obtain ⟨e1, e2⟩ := plmS_fold (P := fun sd => sd.length = turns.length ∧ sd.take i = turns.take i) (G := fun c s => ((turnsL r).map (c :: ·)).foldl (fun s t => if ok (turns.take i ++ t) = true then go s (turns.take i ++ t) (sum + tsum t) else s) s) (F := fun c sd s => plm ok go r (i + 1) (sum + c) (sd.set i c) s) (by
      rintro c sd s ⟨h1, h2⟩
      obtain ⟨e1, e2⟩ := plm_fold ok go r (i + 1) (sum + c) (sd.set i c) s (by simp; omega)
      refine ⟨?_, by rw [plm_len]; simpa using h1, ?_⟩
      · try simp only
        rw [e1, List.foldl_map, set_take sd i c (by omega), h2]
        congr 1
        funext s t
        simp only [tsum, List.append_assoc, List.cons_append, List.nil_append, ← Int.add_assoc]
      · have := congrArg (List.take i) e2
        rw [List.take_take, List.take_take, Nat.min_eq_left (by omega)] at this
        try simp only
        rw [this, List.take_set_of_le (Nat.le_refl i), h2]) turns s ⟨rfl, rfl⟩ 4
    rw [plm]
    refine ⟨?_, e2.2⟩
    rw [e1, turnsL, List.foldl_flatMap]
    rfl
theorem turnsL_len : ∀ (k : Nat), ∀ t ∈ turnsL k, t.length = k
  | 0, t, h => by simp [turnsL] at h; subst h; rfl
  | k + 1, t, h => by
    simp only [turnsL, List.mem_flatMap, List.mem_map] at h
    obtain ⟨c, _, u, hu, rfl⟩ := h
    simp [turnsL_len k u hu]
theorem turnsL_count : ∀ (k : Nat), (turnsL k).length = 4 ^ k
  | 0 => rfl
  | k + 1 => by
    have ih := turnsL_count k
    have e : (turnsL (k + 1)).length = ((turnsL k).length + ((turnsL k).length + ((turnsL k).length + (turnsL k).length))) := by
      simp [turnsL, four, List.range_succ]
    rw [e, ih, Nat.pow_succ]; omega
def solP (w h fr to : Int) (pieces : List Int) : List (List Int) := (turnsL pieces.length).filter (okT w h fr to pieces)
theorem plm_sol {σ : Type} (go : σ → List Int → Int → σ) (w h fr to : Int) (pieces : List Int) (s : σ) :
    (plm (okT w h fr to pieces) go pieces.length 0 0 (List.replicate pieces.length 0) s).1 = (solP w h fr to pieces).foldl (fun s t => go s t (tsum t)) s := by
  rw [(plm_fold _ go pieces.length 0 0 (List.replicate pieces.length 0) s (by simp)).1]
  unfold solP
  rw [← foldl_if_filter]
  simp only [List.take_zero, List.nil_append, Int.zero_add]
theorem solP_len {w h fr to : Int} {pieces : List Int} (hle : pieces.length ≤ 9) : (solP w h fr to pieces).length ≤ 262144 := by
  unfold solP
  refine Nat.le_trans (List.length_filter_le _ _) ?_
  rw [turnsL_count]
  exact Nat.pow_le_pow_right (by omega) hle
def plumbsV (w h fr to : Int) (pieces : List Int) : Int × Int := if pipesB w h pieces fr to then ((solP w h fr to pieces).length, 0) else (0, 30)
def Kq (w h fr to : Int) (pieces : List Int) (L : Kind) (s : Int) : Mem := [⟨0, .row 5 [.agg [.int w, .int h, .ints pieces, .int fr, .int to]]⟩, ⟨0, .row 1 [.int s]⟩, ⟨0, .row 7 [.agg [.int w, .int h, .int w, .int h, .ints pieces, .int fr, .int to]]⟩, ⟨0, .dfr⟩, ⟨0, L⟩]
theorem plumbings_pure (w h fr to : Int) (pieces : List Int) (hl : pieces.length ≤ 9223372036854775807) : Pure Try.prog 35 [.agg [.int w, .int h, .ints pieces, .int fr, .int to]] (.tup [.int (plumbsV w h fr to pieces).1, .int (plumbsV w h fr to pieces).2]) := by
  (refine Spec.of_body Try.func35 rfl (by rw [Try.ntmps35]; simp) 0 (by simp) ?_; rw [Try.results35, Try.ntmps35]; simp only [entry, zipArgs, Nat.reduceAdd])
  repeat (first | apply Wp.seq | apply Wp.block | (apply Run.next; (simp only [push_cast, reduceIte, Nat.reduceEqDiff, Nat.reduceAdd, Nat.reduceSub, Nat.reduceMul, Nat.reduceLT, Nat.reduceLeDiff, reduceCtorEq, Int.reduceToNat] <;> (try simp (disch := omega) only [wrap_i64, wrap_u8, Int.add_sub_cancel]) <;> exact rfl); (focus ((try simp only [push_cast, reduceIte, Nat.reduceEqDiff, Nat.reduceAdd, Nat.reduceSub, Nat.reduceMul, Nat.reduceLT, Nat.reduceLeDiff, reduceCtorEq, Int.reduceToNat]) <;> (first | trivial | omega | (intro hg; (try simp only [hg, eq_self, true_and, and_true]); first | omega | (refine ⟨?_, ?_⟩ <;> omega)) | (refine ⟨?_, ?_⟩ <;> omega) | (intro h; simpa using h) | (intros; simp_all; done) | (intros; simp_all; omega))))) | (apply Run.nil; dsimp only [seqS, thenS, blockS]) | (apply Wp.run; (dsimp only [List.map] <;> exact rfl); (exact rfl)) | (apply Wp.skip; dsimp only [seqS, thenS, blockS]) | (apply Wp.exit; dsimp only [seqS, thenS, blockS]; simp only [reduceIte]))
  (apply Run.pureFP; (simp only [push_cast, reduceIte, Nat.reduceEqDiff, Nat.reduceAdd, Nat.reduceSub, Nat.reduceMul, Nat.reduceLT, Nat.reduceLeDiff, reduceCtorEq, Int.reduceToNat] <;> (try simp (disch := omega) only [wrap_i64, wrap_u8, Int.add_sub_cancel]) <;> exact rfl); (exact (Enters.of Try.func71 rfl rfl)); (exact newPlumbing_pure w h fr to pieces hl); (focus (simp only [push_cast, reduceIte, Nat.reduceEqDiff, Nat.reduceAdd, Nat.reduceSub, Nat.reduceMul, Nat.reduceLT, Nat.reduceLeDiff, reduceCtorEq, Int.reduceToNat] <;> first | trivial | assumption | (refine ⟨?_, ?_⟩ <;> assumption) | (simp; done))); (try dsimp only [putA, optG]))
  repeat (first | apply Wp.seq | apply Wp.block | (apply Run.next; (simp only [push_cast, reduceIte, Nat.reduceEqDiff, Nat.reduceAdd, Nat.reduceSub, Nat.reduceMul, Nat.reduceLT, Nat.reduceLeDiff, reduceCtorEq, Int.reduceToNat] <;> (try simp (disch := omega) only [wrap_i64, wrap_u8, Int.add_sub_cancel]) <;> exact rfl); (focus ((try simp only [push_cast, reduceIte, Nat.reduceEqDiff, Nat.reduceAdd, Nat.reduceSub, Nat.reduceMul, Nat.reduceLT, Nat.reduceLeDiff, reduceCtorEq, Int.reduceToNat]) <;> (first | trivial | omega | (intro hg; (try simp only [hg, eq_self, true_and, and_true]); first | omega | (refine ⟨?_, ?_⟩ <;> omega)) | (refine ⟨?_, ?_⟩ <;> omega) | (intro h; simpa using h) | (intros; simp_all; done) | (intros; simp_all; omega))))) | (apply Run.nil; dsimp only [seqS, thenS, blockS]) | (apply Wp.run; (dsimp only [List.map] <;> exact rfl); (exact rfl)) | (apply Wp.skip; dsimp only [seqS, thenS, blockS]) | (apply Wp.exit; dsimp only [seqS, thenS, blockS]; simp only [reduceIte]))
  (apply Wp.cond; (simp only [push_cast, reduceIte, Nat.reduceEqDiff, Nat.reduceAdd, Nat.reduceSub, Nat.reduceMul, Nat.reduceLT, Nat.reduceLeDiff, reduceCtorEq, Int.reduceToNat] <;> (try simp (disch := omega) only [wrap_i64, wrap_u8, Int.add_sub_cancel]) <;> exact rfl))
  · intro hc
    simp only [Bool.not_eq_true'] at hc
    repeat (first | apply Wp.seq | apply Wp.block | (apply Run.next; (simp only [push_cast, reduceIte, Nat.reduceEqDiff, Nat.reduceAdd, Nat.reduceSub, Nat.reduceMul, Nat.reduceLT, Nat.reduceLeDiff, reduceCtorEq, Int.reduceToNat] <;> (try simp (disch := omega) only [wrap_i64, wrap_u8, Int.add_sub_cancel]) <;> exact rfl); (focus ((try simp only [push_cast, reduceIte, Nat.reduceEqDiff, Nat.reduceAdd, Nat.reduceSub, Nat.reduceMul, Nat.reduceLT, Nat.reduceLeDiff, reduceCtorEq, Int.reduceToNat]) <;> (first | trivial | omega | (intro hg; (try simp only [hg, eq_self, true_and, and_true]); first | omega | (refine ⟨?_, ?_⟩ <;> omega)) | (refine ⟨?_, ?_⟩ <;> omega) | (intro h; simpa using h) | (intros; simp_all; done) | (intros; simp_all; omega))))) | (apply Run.nil; dsimp only [seqS, thenS, blockS]) | (apply Wp.run; (dsimp only [List.map] <;> exact rfl); (exact rfl)) | (apply Wp.skip; dsimp only [seqS, thenS, blockS]) | (apply Wp.exit; dsimp only [seqS, thenS, blockS]; simp only [reduceIte]))
    (apply Wp.ret; (try dsimp only [seqS, thenS, blockS]); apply leave0; (exact rfl); (simp only [push_cast, reduceIte, Nat.reduceEqDiff, Nat.reduceAdd, Nat.reduceSub, Nat.reduceMul, Nat.reduceLT, Nat.reduceLeDiff, reduceCtorEq, Int.reduceToNat] <;> (try simp (disch := omega) only [wrap_i64, wrap_u8, Int.add_sub_cancel]) <;> exact rfl); all_goals (try simp only [push_cast, reduceIte, Nat.reduceEqDiff, Nat.reduceAdd, Nat.reduceSub, Nat.reduceMul, Nat.reduceLT, Nat.reduceLeDiff, reduceCtorEq, Int.reduceToNat]); (try rfl))
    simp [plumbsV, hc]
  · intro hc
    simp only [Bool.not_eq_false'] at hc
    obtain ⟨hv, hto⟩ := pipesB_ok hc
    have hle := hv.le
    have hlen := solP_len (w := w) (h := h) (fr := fr) (to := to) hle
    repeat (first | apply Wp.seq | apply Wp.block | (apply Run.next; (simp only [push_cast, reduceIte, Nat.reduceEqDiff, Nat.reduceAdd, Nat.reduceSub, Nat.reduceMul, Nat.reduceLT, Nat.reduceLeDiff, reduceCtorEq, Int.reduceToNat] <;> (try simp (disch := omega) only [wrap_i64, wrap_u8, Int.add_sub_cancel]) <;> exact rfl); (focus ((try simp only [push_cast, reduceIte, Nat.reduceEqDiff, Nat.reduceAdd, Nat.reduceSub, Nat.reduceMul, Nat.reduceLT, Nat.reduceLeDiff, reduceCtorEq, Int.reduceToNat]) <;> (first | trivial | omega | (intro hg; (try simp only [hg, eq_self, true_and, and_true]); first | omega | (refine ⟨?_, ?_⟩ <;> omega)) | (refine ⟨?_, ?_⟩ <;> omega) | (intro h; simpa using h) | (intros; simp_all; done) | (intros; simp_all; omega))))) | (apply Run.nil; dsimp only [seqS, thenS, blockS]) | (apply Wp.run; (dsimp only [List.map] <;> exact rfl); (exact rfl)) | (apply Wp.skip; dsimp only [seqS, thenS, blockS]) | (apply Wp.exit; dsimp only [seqS, thenS, blockS]; simp only [reduceIte]))
    refine Wp.rangeB (by (simp only [push_cast, reduceIte, Nat.reduceEqDiff, Nat.reduceAdd, Nat.reduceSub, Nat.reduceMul, Nat.reduceLT, Nat.reduceLeDiff, reduceCtorEq, Int.reduceToNat] <;> (try simp (disch := omega) only [wrap_i64, wrap_u8, Int.add_sub_cancel]) <;> exact rfl)) (Enters.of Try.func76 rfl rfl) (N := 3) rfl (C := fun j M => j = none ∧ M = [⟨0, .row 5 [.agg [.int w, .int h, .ints pieces, .int fr, .int to]]⟩, ⟨0, .row 1 [.int ((solP w h fr to pieces).length : Int)]⟩, ⟨0, .row 7 [.agg [.int w, .int h, .int w, .int h, .ints pieces, .int fr, .int to]]⟩]) ?_ ?_
    · refine Go.Vg.Spec.mono (plumb76 (Kq w h fr to pieces _) 5 4 (fun s => rfl) w h fr to pieces hv hto ?_ (by omega) (fun s _ _ => IntKind.i64.wrap (s + 1)) ?_ 0) ?_
      · intro s k hk
        unfold Kq
        simp only [push_cast]
        omega
      · intro s turns sum W ht hs1 hs2
        refine YSpec.of_body (id := 4) (ver := 0) rfl rfl (by simp) ?_
        intro L
        unfold Kq ptail wx
        dsimp only [bindP, List.cons_append, List.nil_append]
        repeat (first | apply Wp.seq | apply Wp.block | (apply Run.next; (simp only [push_cast, reduceIte, Nat.reduceEqDiff, Nat.reduceAdd, Nat.reduceSub, Nat.reduceMul, Nat.reduceLT, Nat.reduceLeDiff, reduceCtorEq, Int.reduceToNat] <;> (try simp (disch := omega) only [wrap_i64, wrap_u8, Int.add_sub_cancel]) <;> exact rfl); (focus ((try simp only [push_cast, reduceIte, Nat.reduceEqDiff, Nat.reduceAdd, Nat.reduceSub, Nat.reduceMul, Nat.reduceLT, Nat.reduceLeDiff, reduceCtorEq, Int.reduceToNat]) <;> (first | trivial | omega | (intro hg; (try simp only [hg, eq_self, true_and, and_true]); first | omega | (refine ⟨?_, ?_⟩ <;> omega)) | (refine ⟨?_, ?_⟩ <;> omega) | (intro h; simpa using h) | (intros; simp_all; done) | (intros; simp_all; omega))))) | (apply Run.nil; dsimp only [seqS, thenS, blockS]) | (apply Wp.run; (dsimp only [List.map] <;> exact rfl); (exact rfl)) | (apply Wp.skip; dsimp only [seqS, thenS, blockS]) | (apply Wp.exit; dsimp only [seqS, thenS, blockS]; simp only [reduceIte]))
        refine ⟨rfl, rfl, ?_⟩
        dsimp only [List.set]
        repeat (first | apply Wp.seq | apply Wp.block | (apply Run.next; (simp only [push_cast, reduceIte, Nat.reduceEqDiff, Nat.reduceAdd, Nat.reduceSub, Nat.reduceMul, Nat.reduceLT, Nat.reduceLeDiff, reduceCtorEq, Int.reduceToNat] <;> (try simp (disch := omega) only [wrap_i64, wrap_u8, Int.add_sub_cancel]) <;> exact rfl); (focus ((try simp only [push_cast, reduceIte, Nat.reduceEqDiff, Nat.reduceAdd, Nat.reduceSub, Nat.reduceMul, Nat.reduceLT, Nat.reduceLeDiff, reduceCtorEq, Int.reduceToNat]) <;> (first | trivial | omega | (intro hg; (try simp only [hg, eq_self, true_and, and_true]); first | omega | (refine ⟨?_, ?_⟩ <;> omega)) | (refine ⟨?_, ?_⟩ <;> omega) | (intro h; simpa using h) | (intros; simp_all; done) | (intros; simp_all; omega))))) | (apply Run.nil; dsimp only [seqS, thenS, blockS]) | (apply Wp.run; (dsimp only [List.map] <;> exact rfl); (exact rfl)) | (apply Wp.skip; dsimp only [seqS, thenS, blockS]) | (apply Wp.exit; dsimp only [seqS, thenS, blockS]; simp only [reduceIte]))
        refine ⟨rfl, ?_, rfl, ?_⟩
        · simp only [push_cast, reduceIte, Nat.reduceEqDiff, Nat.reduceAdd, Nat.reduceSub, Nat.reduceMul, Nat.reduceLT, Nat.reduceLeDiff, reduceCtorEq, Int.reduceToNat]
        · rfl
      · rintro x m' rfl
        rw [plm_sol, count_fold _ 0 (by omega) (by omega), Int.zero_add]
        exact ⟨_, none, ⟨rfl, rfl⟩, rfl, rfl⟩
    · rintro M j ⟨rfl, rfl⟩
      dsimp only [blockS, seqS, List.cons_append, List.nil_append]
      repeat (first | apply Wp.seq | apply Wp.block | (apply Run.next; (simp only [push_cast, reduceIte, Nat.reduceEqDiff, Nat.reduceAdd, Nat.reduceSub, Nat.reduceMul, Nat.reduceLT, Nat.reduceLeDiff, reduceCtorEq, Int.reduceToNat] <;> (try simp (disch := omega) only [wrap_i64, wrap_u8, Int.add_sub_cancel]) <;> exact rfl); (focus ((try simp only [push_cast, reduceIte, Nat.reduceEqDiff, Nat.reduceAdd, Nat.reduceSub, Nat.reduceMul, Nat.reduceLT, Nat.reduceLeDiff, reduceCtorEq, Int.reduceToNat]) <;> (first | trivial | omega | (intro hg; (try simp only [hg, eq_self, true_and, and_true]); first | omega | (refine ⟨?_, ?_⟩ <;> omega)) | (refine ⟨?_, ?_⟩ <;> omega) | (intro h; simpa using h) | (intros; simp_all; done) | (intros; simp_all; omega))))) | (apply Run.nil; dsimp only [seqS, thenS, blockS]) | (apply Wp.run; (dsimp only [List.map] <;> exact rfl); (exact rfl)) | (apply Wp.skip; dsimp only [seqS, thenS, blockS]) | (apply Wp.exit; dsimp only [seqS, thenS, blockS]; simp only [reduceIte]))
      (apply Wp.ret; (try dsimp only [seqS, thenS, blockS]); apply leaveM; (focus (first | (simp only [push_cast, reduceIte, Nat.reduceEqDiff, Nat.reduceAdd, Nat.reduceSub, Nat.reduceMul, Nat.reduceLT, Nat.reduceLeDiff, reduceCtorEq, Int.reduceToNat]; done) | trivial | (simp only [push_cast, reduceIte, Nat.reduceEqDiff, Nat.reduceAdd, Nat.reduceSub, Nat.reduceMul, Nat.reduceLT, Nat.reduceLeDiff, reduceCtorEq, Int.reduceToNat]; trivial) | (simp; done))); (focus (first | (simp only [push_cast, reduceIte, Nat.reduceEqDiff, Nat.reduceAdd, Nat.reduceSub, Nat.reduceMul, Nat.reduceLT, Nat.reduceLeDiff, reduceCtorEq, Int.reduceToNat]; done) | trivial | (simp only [push_cast, reduceIte, Nat.reduceEqDiff, Nat.reduceAdd, Nat.reduceSub, Nat.reduceMul, Nat.reduceLT, Nat.reduceLeDiff, reduceCtorEq, Int.reduceToNat]; trivial) | (simp; done))); (simp only [push_cast, reduceIte, Nat.reduceEqDiff, Nat.reduceAdd, Nat.reduceSub, Nat.reduceMul, Nat.reduceLT, Nat.reduceLeDiff, reduceCtorEq, Int.reduceToNat] <;> (try simp (disch := omega) only [wrap_i64, wrap_u8, Int.add_sub_cancel]) <;> exact rfl); (focus (first | (simp only [push_cast, reduceIte, Nat.reduceEqDiff, Nat.reduceAdd, Nat.reduceSub, Nat.reduceMul, Nat.reduceLT, Nat.reduceLeDiff, reduceCtorEq, Int.reduceToNat]; done) | trivial | (simp only [push_cast, reduceIte, Nat.reduceEqDiff, Nat.reduceAdd, Nat.reduceSub, Nat.reduceMul, Nat.reduceLT, Nat.reduceLeDiff, reduceCtorEq, Int.reduceToNat]; trivial) | (simp; done))); (focus (first | (simp only [push_cast, reduceIte, Nat.reduceEqDiff, Nat.reduceAdd, Nat.reduceSub, Nat.reduceMul, Nat.reduceLT, Nat.reduceLeDiff, reduceCtorEq, Int.reduceToNat]; done) | trivial | (simp only [push_cast, reduceIte, Nat.reduceEqDiff, Nat.reduceAdd, Nat.reduceSub, Nat.reduceMul, Nat.reduceLT, Nat.reduceLeDiff, reduceCtorEq, Int.reduceToNat]; trivial) | (simp; done))); (focus (first | (simp only [push_cast, reduceIte, Nat.reduceEqDiff, Nat.reduceAdd, Nat.reduceSub, Nat.reduceMul, Nat.reduceLT, Nat.reduceLeDiff, reduceCtorEq, Int.reduceToNat]; done) | trivial | (simp only [push_cast, reduceIte, Nat.reduceEqDiff, Nat.reduceAdd, Nat.reduceSub, Nat.reduceMul, Nat.reduceLT, Nat.reduceLeDiff, reduceCtorEq, Int.reduceToNat]; trivial) | (simp; done))); (try simp only [push_cast, reduceIte, Nat.reduceEqDiff, Nat.reduceAdd, Nat.reduceSub, Nat.reduceMul, Nat.reduceLT, Nat.reduceLeDiff, reduceCtorEq, Int.reduceToNat]))
      simp [plumbsV, hc]
theorem tsum_bd (b : Int) (hb : 0 ≤ b) : ∀ (t : List Int), (∀ x ∈ t, 0 ≤ x ∧ x ≤ b) → 0 ≤ tsum t ∧ tsum t ≤ b * t.length
  | [], _ => by simp [tsum]
  | c :: t, h => by
    obtain ⟨h1, h2⟩ := tsum_bd b hb t fun x hx => h x (by simp [hx])
    have h3 := h c (by simp)
    have e : b * ((c :: t).length : Int) = b * (t.length : Int) + b := by rw [List.length_cons]; simp [Int.mul_add]
    rw [e]
    simp only [tsum]; omega
theorem turnsL_side : ∀ (k : Nat), ∀ t ∈ turnsL k, ∀ x ∈ t, 0 ≤ x ∧ x ≤ 3
  | 0, t, h, x, hx => by simp [turnsL] at h; subst h; simp at hx
  | k + 1, t, h, x, hx => by
    simp only [turnsL, List.mem_flatMap, List.mem_map] at h
    obtain ⟨c, hc, u, hu, rfl⟩ := h
    rcases List.mem_cons.1 hx with rfl | hx
    · simp [four, List.range_succ] at hc; omega
    · exact turnsL_side k u hu x hx
theorem tsum_app : ∀ (s t : List Int), tsum (s ++ t) = tsum s + tsum t
  | [], t => by simp [tsum]
  | c :: s, t => by simp only [List.cons_append, tsum, tsum_app s t]; omega
end Go.Proofs.Try
